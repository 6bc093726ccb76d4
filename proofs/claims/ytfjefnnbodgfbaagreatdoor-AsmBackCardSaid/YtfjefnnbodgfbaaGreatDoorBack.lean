/- AsmBack returns true whatever it is given; what it is given reads behind the call as it did before. No condition. -/
import Derived.Test.YtfjefnnbodgfbaaGreatDoorRows
import Derived.Test.YtfjefnnbodgfbaaGreatDoorCards
import Derived.Test.YtfjefnnbodgfbaaGreatDoorTie
import Derived.WalkKit
import Derived.ProofKit
import Derived.OpenShut
import Derived.KernelRfl
import Derived.SizedLaws
import Derived.Lay
import Derived.SevenTiedAt
import Derived.LaidOnce
import Derived.Stop.Joined
import Derived.Test.YtfjefnnbodgfbaaGreatDoorTE
set_option linter.all false
namespace Go.Proofs.YtfjefnnbodgfbaaGreatDoor.asmBack
open Go.HW Go.ChangeShapes Go.WideShapes Go.ChangeAt Go.RowKit
set_option linter.unusedVariables false
set_option maxRecDepth 8000
theorem own : ownKnob Tryz.prog.godebug = none := by kernel_rfl
theorem laid : laidOutB Tryz.prog = true := by kernel_rfl
def Ok_Instr (x : Instr) : Prop := (Lit.int .u8 x.fOp).wf = true ∧ (Lit.int .u8 x.fDst).wf = true ∧ (Lit.int .u8 x.fSrc).wf = true ∧ (Lit.int .i16 x.fOff).wf = true ∧ (Lit.int .i32 x.fImm).wf = true
theorem dec_Instr {H : Type} {enc : TypeId × Value → H} {W : World} {sp : Nat → Bool} {held : Bool} (n : Nat) (cs : List Value) (y : DataW H × List MemPlace) (h : DataW.trod enc Tryz.prog W 0 sp held n 32 cs = some y) : ∃ x : Instr, cs = Instr.E.enc x ∧ Ok_Instr x := by
 obtain ⟨xs, m, _, _, hl, hx, hall⟩ := DataW.trod_struct Tryz.underlying32 h
 have h5 : Tryz.prog.cellsOf 32 = 5 := by kernel_rfl
 rw [h5] at hl
 obtain ⟨x0, _, t0⟩ := partC hall hx (i := 0) (o := 0) rfl (by kernel_rfl) rfl
 obtain ⟨m0, e0, _, w0⟩ := DataW.trod_int Tryz.underlying5 t0
 replace e0 := cellC e0
 obtain ⟨x1, _, t1⟩ := partC hall hx (i := 1) (o := 1) rfl (by kernel_rfl) rfl
 obtain ⟨m1, e1, _, w1⟩ := DataW.trod_int Tryz.underlying5 t1
 replace e1 := cellC e1
 obtain ⟨x2, _, t2⟩ := partC hall hx (i := 2) (o := 2) rfl (by kernel_rfl) rfl
 obtain ⟨m2, e2, _, w2⟩ := DataW.trod_int Tryz.underlying5 t2
 replace e2 := cellC e2
 obtain ⟨x3, _, t3⟩ := partC hall hx (i := 3) (o := 3) rfl (by kernel_rfl) rfl
 obtain ⟨m3, e3, _, w3⟩ := DataW.trod_int Tryz.underlying30 t3
 replace e3 := cellC e3
 obtain ⟨x4, _, t4⟩ := partC hall hx (i := 4) (o := 4) rfl (by kernel_rfl) rfl
 obtain ⟨m4, e4, _, w4⟩ := DataW.trod_int Tryz.underlying21 t4
 replace e4 := cellC e4
 obtain ⟨c0, c1, c2, c3, c4, rfl⟩ : ∃ c0 c1 c2 c3 c4, cs = [c0, c1, c2, c3, c4] := by
  rcases cs with _ | ⟨c0, _ | ⟨c1, _ | ⟨c2, _ | ⟨c3, _ | ⟨c4, _ | ⟨c, r⟩⟩⟩⟩⟩⟩
  ·simp at hl
  ·simp at hl
  ·simp at hl
  ·simp at hl
  ·simp at hl
  ·exact ⟨c0, c1, c2, c3, c4, rfl⟩
  ·simp at hl
 simp at e0 e1 e2 e3 e4
 subst e0 e1 e2 e3 e4
 exact ⟨⟨m0, m1, m2, m3, m4⟩, rfl, ⟨w0, w1, w2, w3, w4⟩⟩
theorem rng_ok {p : List Instr} (h : ∀ x ∈ p, Ok_Instr x) : ∀ x ∈ p, Rng x := fun x hx => by
 obtain ⟨w0, w1, w2, w3, w4⟩ := h x hx
 have b0 := bounds_u8 w0; have b1 := bounds_u8 w1; have b2 := bounds_u8 w2; have b3 := bounds_i16 w3; have b4 := bounds_i32 w4
 exact ⟨⟨b0.1, by omega⟩, ⟨b1.1, by omega⟩, ⟨b2.1, by omega⟩, ⟨b3.1, by omega⟩, ⟨b4.1, by omega⟩⟩
theorem walk (w : World) (gl : GlF w []) (s0 : Option Addr) (c0 : Nat) (a0 : List Instr) (b0 : a0.length ≤ c0) (r0 : RdS Instr.E.toEn w s0 a0) (o0 : ∀ x ∈ a0, Ok_Instr x) (z0 : a0.length * 12 ≤ 140737488351232) (a1 : ByteArray) (z1 : a1.size ≤ 140737488351232) :
  Calls Tryz.prog 6 #[.slice s0 a0.length c0, .string a1] w fun e w' => e = .returned (.bool true) ∧ Below w.heap.size w w' := by
 have h := Go.Proofs.YtfjefnnbodgfbaaGreatDoor.c6 300000 a0 a1 true (asmBack_plain _ a1 (rng_ok o0)) w (fun t => ([⟨s0, c0, a0.length⟩] : List HW.Loc)[t]?) [[]] [.slice s0 a0.length c0, .string a1] (by first | rfl | simp [dens_nil, dens_cons, SV.den, SV.deni]) (⟨[], _, rfl, ⟨s0, c0, rfl, rfl, b0, r0.rdf⟩, rfl⟩) (fun t ht => List.getElem?_eq_none ht) (fun p hp => by simp at hp) (by simp) gl
 refine Calls.mono h ?_
 rintro e w' ⟨v, R', rfl, heff, c, ρ', F', rfl, _, hv, _⟩
 rw [SV.den] at hv; cases hv
 exact ⟨rfl, heff.ext.below⟩
set_option maxRecDepth 100000 in
theorem lifted (os : Os) (started : os.Started) (H : Type) (enc : TypeId × Value → H) :
  ReturnsInHanded {} Tryz.checked os 6 .any (fun w args => (Rows.asmBackSpec.pre enc Tryz.prog Tryz.f6 Rows.asmBackRow.domain false w args ∧ laidMetH Tryz.prog Rows.asmBackRow.laid w) ∧ sizedMet enc Tryz.prog Tryz.f6 (OpenSpec.ofChange Rows.asmBackSpec) false w args) (Rows.asmBackSpec.post enc Tryz.prog Tryz.f6 false true false false) := by
 refine handed_laid (C := Tryz.checked) own started (by kernel_rfl) Tryz.func6
  (ChangeSpec.witness_shaped (enc := enc) (C := Tryz.checked) (os := os) (X := fun w _ => laidMetH Tryz.prog Rows.asmBackRow.laid w) false (World.laidAll Tryz.prog os Rows.asmBackRow.laid) #[.slice none 0 0, .string ⟨#[]⟩] 8 (World.laidAll_os _ _ _) (World.shaped_of_ZipB (by kernel_rfl) (by kernel_rfl)) (by kernel_rfl) (by kernel_rfl) (by kernel_rfl)
   (by rw [MakeChecks.laidMetH_plain _ _ _ (by kernel_rfl)]; exact laidMet_laidAll _ (by kernel_rfl) (by kernel_rfl))) ?_
 intro W base args ds gs before hval0 hW hcnd hsz0 hL hsh
 rw [MakeChecks.laidMetH_plain _ _ _ (by kernel_rfl)] at hL
 have gl : GlF W [] := glF_ok hsh hL (by simp [Rows.asmBackRow]) (by simp [Rows.asmBackRow]) (by simp [Rows.asmBackRow]) (by simp [Rows.asmBackRow])
 have hval : ∀ (j : Nat) t v, Tryz.f6.params[j]? = some t → args[j]? = some v → Value.okWide Tryz.prog W .any base t v := hval0
 have hsz : (DataW.weightsEach Tryz.prog (Tryz.f6.params.toList ++ Rows.asmBackSpec.plain.varTypes Tryz.prog) (ds ++ gs)).all (· ≤ 140737488351232) = true := hsz0
 have hW' := hW
 obtain ⟨p, q, hA0, hV, rfl, hfz, hnd⟩ := hW
 have hA : DataW.TrodAll enc Tryz.prog W 0 (fun _ => true) true Tryz.f6.params.toList args.toList ds p := hA0
 rw [Tryz.params6] at hA hval hsz
 have hA1 := hA
 obtain ⟨v0, vs0, d0, ds0, p0, x0, hargs, rfl, rfl, h0, t0⟩ := trodAll_cons hA
 obtain ⟨v1, vs1, d1, ds1, p1, x1, rfl, rfl, rfl, h1, t1⟩ := trodAll_cons t0
 obtain ⟨rfl, rfl, rfl⟩ := trodAll_nil t1
 obtain rfl : args = #[v0, v1] := by cases args; simp_all
 obtain ⟨rfl, rfl⟩ := trodVars_none hV
 have hlt := fun x hx => hW'.lt x hx
 obtain ⟨s0, n0, c0, rfl⟩ := Go.WideShapes.okWide_slice Tryz.underlying24 (hval 0 24 v0 rfl rfl)
 obtain ⟨m0, h0'⟩ := trod_of rfl h0
 obtain ⟨s0', n0', c0', a0, hc0, q0, b0, r0, o0, z0'⟩ := open_rowC (N := Instr.E.toEn) (Ok := Ok_Instr) Tryz.underlying24 (by kernel_rfl) dec_Instr h0'
 cases hc0; subst q0
 have z0 : a0.length * 12 ≤ 140737488351232 := by
  have := z0' 140737488351232 (weight_arg hsz (j := 0) (t := 24) rfl rfl)
  rwa [show Tryz.prog.bytesOf 32 = 12 from by kernel_rfl] at this
 obtain ⟨a1, rfl, rfl, rfl, _⟩ := Go.ChangeMaps.open_string Tryz.underlying9 (hval 1 9 v1 rfl rfl) h1
 have z1 : a1.size ≤ 140737488351232 := by simpa [reachBytes] using sized_string hsz (j := 1) rfl rfl
 refine (walk W gl s0 c0 a0 b0 r0 o0 z0 a1 z1).mono fun e W' ⟨he, hg⟩ => ?_
 subst he
 refine ⟨_, rfl, post_below (pa := _) (pv := []) hW' (fun _ _ _ => (trodAll_cons_mk (shut_bool Tryz.underlying4 _) trodAll_mk0)) (fun sp hsp => ?_) (fun _ _ => rfl) rfl hg⟩
 exact TrodAll.stays laid hg (by kernel_rfl) hA1 (fun x hx => by simpa using hlt x (List.mem_append.2 (.inl hx))) (fun x hx => hsp x (List.mem_append.2 (.inl hx)))
theorem over : Rows.asmBackRow.holds Tryz.pinned (OpenSpec.ofChange Rows.asmBackSpec) :=
 OpenClaim.holds_of_wide 6 Tryz.f6 rfl rfl rfl rfl rfl rfl rfl ⟨rfl, rfl, rfl, rfl, rfl⟩ rfl rfl rfl rfl rfl (by kernel_rfl) Tryz.func6 (by kernel_rfl)
  (of_decide_eq_true (by kernel_rfl)) (by unfold Func.isWrapper; first | (rw [if_pos (by decide +kernel)]; kernel_rfl) | (rw [if_neg (by decide +kernel)]; exact ⟨rfl, rfl⟩))
  (fun os started H enc _ => lifted os started H enc)
theorem proved : Rows.AsmBackCardSaid :=
 Claim7.holds_tied_plain_at .later [] _ true _ true over (fun _ h => by cases h) (by kernel_rfl) (fun _ h => by cases h) asmBack_row_tie rfl ⟨rfl, rfl⟩ (by kernel_rfl) rfl
  (fun f fn hf hfn => by
   obtain rfl : f = 6 := Option.some.inj ((show Tryz.prog.funcNamed "hatchway/hatchwaylaw04.AsmBack" = some 6 by kernel_rfl).symm.trans hf) |>.symm
   obtain rfl : fn = Tryz.f6 := (Option.some.inj (Tryz.func6.symm.trans hfn)).symm
   exact ⟨by kernel_rfl, fun j t ht => by
    rw [Tryz.params6] at ht
    have hm : t ∈ [24, 9] := by simpa using Array.mem_of_getElem? ht
    have hall : ([24, 9].all fun u => !Tryz.prog.wantsStandIn u) = true := by kernel_rfl
    exact (show Tryz.prog.wantsStandIn t = false by simpa using List.all_eq_true.1 hall t hm)⟩)
  (by kernel_rfl)
end Go.Proofs.YtfjefnnbodgfbaaGreatDoor.asmBack
