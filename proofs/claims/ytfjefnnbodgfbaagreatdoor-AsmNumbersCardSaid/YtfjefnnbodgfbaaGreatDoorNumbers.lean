/- AsmNumbers returns true whatever it is given; what it is given reads behind the call as it did before. No condition. -/
import Derived.Test.YtfjefnnbodgfbaaGreatDoorRows
import Derived.Test.YtfjefnnbodgfbaaGreatDoorCards
import Derived.Test.YtfjefnnbodgfbaaGreatDoorTie
import Derived.WalkKit
import Derived.ProofKit
import Derived.OpenShut
import Derived.KernelRfl
import Derived.SizedLaws
import Derived.Lay
import Derived.SevenTiedAt
import Derived.LaidOnce
import Derived.Stop.Joined
import Derived.Test.YtfjefnnbodgfbaaGreatDoorTF
set_option linter.all false
namespace Go.Proofs.YtfjefnnbodgfbaaGreatDoor.asmNumbers
open Go.HW Go.ChangeShapes Go.WideShapes Go.ChangeAt Go.RowKit
set_option linter.unusedVariables false
set_option maxRecDepth 8000
theorem own : ownKnob Tryz.prog.godebug = none := by kernel_rfl
theorem laid : laidOutB Tryz.prog = true := by kernel_rfl
theorem walk (w : World) (gl : GlF w [])  :
  Calls Tryz.prog 8 #[] w fun e w' => e = .returned (.bool true) ∧ Below w.heap.size w w' := by
 have h := Go.Proofs.YtfjefnnbodgfbaaGreatDoor.c8 300000  true (asmNumbers_plain) w (fun t => ([] : List HW.Loc)[t]?) [] [] (by first | rfl | simp [dens_nil, dens_cons, SV.den, SV.deni]) (rfl) (fun t ht => List.getElem?_eq_none ht) (fun p hp => by simp at hp) (by simp) gl
 refine Calls.mono h ?_
 rintro e w' ⟨v, R', rfl, heff, c, ρ', F', rfl, _, hv, _⟩
 rw [SV.den] at hv; cases hv
 exact ⟨rfl, heff.ext.below⟩
set_option maxRecDepth 100000 in
theorem lifted (os : Os) (started : os.Started) (H : Type) (enc : TypeId × Value → H) :
  ReturnsInHanded {} Tryz.checked os 8 .any (fun w args => (Rows.asmNumbersSpec.pre enc Tryz.prog Tryz.f8 Rows.asmNumbersRow.domain false w args ∧ laidMetH Tryz.prog Rows.asmNumbersRow.laid w) ∧ sizedMet enc Tryz.prog Tryz.f8 (OpenSpec.ofChange Rows.asmNumbersSpec) false w args) (Rows.asmNumbersSpec.post enc Tryz.prog Tryz.f8 false true false false) := by
 refine handed_laid (C := Tryz.checked) own started (by kernel_rfl) Tryz.func8
  (ChangeSpec.witness_shaped (enc := enc) (C := Tryz.checked) (os := os) (X := fun w _ => laidMetH Tryz.prog Rows.asmNumbersRow.laid w) false (World.laidAll Tryz.prog os Rows.asmNumbersRow.laid) #[] 8 (World.laidAll_os _ _ _) (World.shaped_of_ZipB (by kernel_rfl) (by kernel_rfl)) (by kernel_rfl) (by kernel_rfl) (by kernel_rfl)
   (by rw [MakeChecks.laidMetH_plain _ _ _ (by kernel_rfl)]; exact laidMet_laidAll _ (by kernel_rfl) (by kernel_rfl))) ?_
 intro W base args ds gs before hval0 hW hcnd hsz0 hL hsh
 rw [MakeChecks.laidMetH_plain _ _ _ (by kernel_rfl)] at hL
 have gl : GlF W [] := glF_ok hsh hL (by simp [Rows.asmNumbersRow]) (by simp [Rows.asmNumbersRow]) (by simp [Rows.asmNumbersRow]) (by simp [Rows.asmNumbersRow])
 have hval : ∀ (j : Nat) t v, Tryz.f8.params[j]? = some t → args[j]? = some v → Value.okWide Tryz.prog W .any base t v := hval0
 have hsz : (DataW.weightsEach Tryz.prog (Tryz.f8.params.toList ++ Rows.asmNumbersSpec.plain.varTypes Tryz.prog) (ds ++ gs)).all (· ≤ 140737488351232) = true := hsz0
 have hW' := hW
 obtain ⟨p, q, hA0, hV, rfl, hfz, hnd⟩ := hW
 have hA : DataW.TrodAll enc Tryz.prog W 0 (fun _ => true) true Tryz.f8.params.toList args.toList ds p := hA0
 rw [Tryz.params8] at hA hval hsz
 have hA1 := hA
 obtain ⟨hargs, rfl, rfl⟩ := trodAll_nil hA
 obtain rfl : args = #[] := by cases args; simp_all
 obtain ⟨rfl, rfl⟩ := trodVars_none hV
 have hlt := fun x hx => hW'.lt x hx
 refine (walk W gl ).mono fun e W' ⟨he, hg⟩ => ?_
 subst he
 refine ⟨_, rfl, post_below (pa := _) (pv := []) hW' (fun _ _ _ => (trodAll_cons_mk (shut_bool Tryz.underlying4 _) trodAll_mk0)) (fun sp hsp => ?_) (fun _ _ => rfl) rfl hg⟩
 exact TrodAll.stays laid hg (by kernel_rfl) hA1 (fun x hx => by simpa using hlt x (List.mem_append.2 (.inl hx))) (fun x hx => hsp x (List.mem_append.2 (.inl hx)))
theorem over : Rows.asmNumbersRow.holds Tryz.pinned (OpenSpec.ofChange Rows.asmNumbersSpec) :=
 OpenClaim.holds_of_wide 8 Tryz.f8 rfl rfl rfl rfl rfl rfl rfl ⟨rfl, rfl, rfl, rfl, rfl⟩ rfl rfl rfl rfl rfl (by kernel_rfl) Tryz.func8 (by kernel_rfl)
  (of_decide_eq_true (by kernel_rfl)) (by unfold Func.isWrapper; first | (rw [if_pos (by decide +kernel)]; kernel_rfl) | (rw [if_neg (by decide +kernel)]; exact ⟨rfl, rfl⟩))
  (fun os started H enc _ => lifted os started H enc)
theorem proved : Rows.AsmNumbersCardSaid :=
 Claim7.holds_tied_plain_at .later [] _ true _ true over (fun _ h => by cases h) (by kernel_rfl) (fun _ h => by cases h) asmNumbers_row_tie rfl ⟨rfl, rfl⟩ (by kernel_rfl) rfl
  (fun f fn hf hfn => by
   obtain rfl : f = 8 := Option.some.inj ((show Tryz.prog.funcNamed "hatchway/hatchwaylaw04.AsmNumbers" = some 8 by kernel_rfl).symm.trans hf) |>.symm
   obtain rfl : fn = Tryz.f8 := (Option.some.inj (Tryz.func8.symm.trans hfn)).symm
   exact ⟨by kernel_rfl, fun j t ht => by
    rw [Tryz.params8] at ht
    simp at ht⟩)
  (by kernel_rfl)
end Go.Proofs.YtfjefnnbodgfbaaGreatDoor.asmNumbers
