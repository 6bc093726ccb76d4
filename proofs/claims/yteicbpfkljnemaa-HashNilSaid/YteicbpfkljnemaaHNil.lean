/- HashNil returns true whatever it is given; what it is given reads behind the call as it did before. No condition. -/
import Derived.Test.YteicbpfkljnemaaRows
import Derived.WalkKit
import Derived.ProofKit
import Derived.OpenShut
import Derived.KernelRfl
import Derived.SizedLaws
import Derived.Test.YteicbpfkljnemaaTD
set_option linter.all false
namespace Go.Proofs.Yteicbpfkljnemaa.hashNil
open Go.HW Go.ChangeShapes Go.WideShapes Go.ChangeAt Go.RowKit
set_option linter.unusedVariables false
set_option maxRecDepth 8000
theorem own : ownKnob Try.prog.godebug = none := by kernel_rfl
theorem laid : laidOutB Try.prog = true := by kernel_rfl
theorem dec_u8_5 {H : Type} {enc : TypeId × Value → H} {W : World} {sp : Nat → Bool} {held : Bool} (n : Nat) (cs : List Value) (y : DataW H × List MemPlace) (h : DataW.trod enc Try.prog W 0 sp held n 5 cs = some y) : ∃ x : Int, cs = (Et.int .u8).enc x ∧ (Lit.int .u8 x).wf = true := by
 obtain ⟨m, h1, _, h2⟩ := DataW.trod_int Try.underlying5 h
 exact ⟨m, h1, h2⟩
theorem walk (w : World) (a0_0 : Int) (w0_0 : (Lit.int .i64 a0_0).wf = true) (s0_1 : Option Addr) (c0_1 : Nat) (a0_1 : List Int) (b0_1 : a0_1.length ≤ c0_1) (r0_1 : RdS (Et.int .u8).toEn w s0_1 a0_1) (o0_1 : ∀ x ∈ a0_1, (fun x => (Lit.int .u8 x).wf = true) x) (z0_1 : a0_1.length * 1 ≤ 140737488351232) (s0_2 : Option Addr) (c0_2 : Nat) (a0_2 : List Int) (b0_2 : a0_2.length ≤ c0_2) (r0_2 : RdS (Et.int .u8).toEn w s0_2 a0_2) (o0_2 : ∀ x ∈ a0_2, (fun x => (Lit.int .u8 x).wf = true) x) (z0_2 : a0_2.length * 1 ≤ 140737488351232) (a0_3 : Int) (w0_3 : (Lit.int .u64 a0_3).wf = true) (a0_4 : Int) (w0_4 : (Lit.int .i64 a0_4).wf = true) (a0_5 : Int) (w0_5 : (Lit.int .i64 a0_5).wf = true) :
  Calls Try.prog 4 #[.agg #[.int .i64 a0_0, .slice s0_1 a0_1.length c0_1, .slice s0_2 a0_2.length c0_2, .int .u64 a0_3, .int .i64 a0_4, .int .i64 a0_5]] w fun e w' => e = .returned (.bool true) ∧ Below w.heap.size w w' := by
 have h := c4 100 (⟨a0_0, a0_1, a0_2, a0_3, a0_4, a0_5⟩ : Do) true (hashNil_plain _) w (fun t => ([⟨s0_1, c0_1, a0_1.length⟩, ⟨s0_2, c0_2, a0_2.length⟩] : List HW.Loc)[t]?) [[], []] [.agg #[.int .i64 a0_0, .slice s0_1 a0_1.length c0_1, .slice s0_2 a0_2.length c0_2, .int .u64 a0_3, .int .i64 a0_4, .int .i64 a0_5]] (by first | rfl | simp [dens_nil, dens_cons, SV.den, SV.deni]) (⟨[], _, rfl, ⟨s0_1, c0_1, rfl, rfl, b0_1, r0_1.rdf⟩, ⟨[], _, rfl, ⟨s0_2, c0_2, rfl, rfl, b0_2, r0_2.rdf⟩, rfl⟩⟩) (fun t ht => List.getElem?_eq_none ht) (fun p hp => by simp at hp) (by simp)
 refine Calls.mono h ?_
 rintro e w' ⟨v, R', rfl, heff, c, ρ', F', rfl, _, hv, _⟩
 rw [SV.den] at hv; cases hv
 exact ⟨rfl, heff.ext.below⟩
set_option maxRecDepth 100000 in
theorem lifted (os : Os) (started : os.Started) (H : Type) (enc : TypeId × Value → H) :
  ReturnsInHanded {} Try.checked os 4 .any (Rows.hashNilSpec.pre6 enc Try.prog Try.f4 Rows.hashNilRow.domain false) (Rows.hashNilSpec.post enc Try.prog Try.f4 false true false false) := by
 refine returnsInHanded_of_change_sized (C := Try.checked) own started (by kernel_rfl) Try.func4
  (ChangeSpec.witness6 (enc := enc) (C := Try.checked) false ⟨#[], #[.agg #[.int .i64 0, .slice none 0 0, .slice none 0 0, .int .u64 0, .int .i64 0, .int .i64 0]], []⟩ 8 (by kernel_rfl) (by kernel_rfl) (by kernel_rfl) (by kernel_rfl)) ?_
 intro W base args ds gs before hval0 hW hcnd hsz0 _
 have hval : ∀ (j : Nat) t v, Try.f4.params[j]? = some t → args[j]? = some v → Value.okWide Try.prog W .any base t v := hval0
 have hsz : (DataW.weightsEach Try.prog (Try.f4.params.toList ++ Rows.hashNilSpec.plain.varTypes Try.prog) (ds ++ gs)).all (· ≤ 140737488351232) = true := hsz0
 have hW' := hW
 obtain ⟨p, q, hA0, hV, rfl, hfz, hnd⟩ := hW
 have hA : DataW.TrodAll enc Try.prog W 0 (fun _ => true) true Try.f4.params.toList args.toList ds p := hA0
 rw [Try.params4] at hA hval hsz
 have hA1 := hA
 obtain ⟨v0, vs0, d0, ds0, p0, x0, hargs, rfl, rfl, h0, t0⟩ := trodAll_cons hA
 obtain ⟨rfl, rfl, rfl⟩ := trodAll_nil t0
 obtain rfl : args = #[v0] := by cases args; simp_all
 obtain ⟨rfl, rfl⟩ := trodVars_none hV
 have hlt := fun x hx => hW'.lt x hx
 obtain ⟨cs0, rfl, hcs0⟩ := Go.WideShapes.okWide_struct Try.underlying38 (hval 0 38 v0 rfl rfl)
 obtain ⟨m0, h0'⟩ := h0
 obtain ⟨xs0, k0, _, hd0, hl0, hx0, hall0⟩ := DataW.trod_struct Try.underlying38 h0'
 have h50 : Try.prog.cellsOf 38 = 6 := by kernel_rfl
 rw [h50] at hl0
 obtain ⟨rfl, _⟩ := Prod.mk.inj hd0
 obtain ⟨x0_0, xe0_0, t0_0⟩ := partC hall0 hx0 (i := 0) (o := 0) rfl (by kernel_rfl) rfl
 obtain ⟨a0_0, e0_0, _, w0_0⟩ := DataW.trod_int Try.underlying3 t0_0
 replace e0_0 := cellC e0_0
 obtain ⟨x0_1, xe0_1, t0_1⟩ := partC hall0 hx0 (i := 1) (o := 1) rfl (by kernel_rfl) rfl
 obtain ⟨s0_1, n0_1, c0_1, a0_1, e0_1, q0_1, b0_1, r0_1, o0_1, z0_1'⟩ := open_rowC (N := (Et.int .u8).toEn) (Ok := (fun x => (Lit.int .u8 x).wf = true)) Try.underlying35 (by kernel_rfl) dec_u8_5 t0_1
 replace e0_1 := cellC e0_1
 subst q0_1
 have z0_1 : a0_1.length * 1 ≤ 140737488351232 := by
  have := z0_1' 140737488351232 (weightsC Try.underlying38 (weight_arg hsz (j := 0) (t := 38) rfl rfl) (i := 1) rfl xe0_1)
  rwa [show Try.prog.bytesOf 5 = 1 from by kernel_rfl] at this
 obtain ⟨x0_2, xe0_2, t0_2⟩ := partC hall0 hx0 (i := 2) (o := 2) rfl (by kernel_rfl) rfl
 obtain ⟨s0_2, n0_2, c0_2, a0_2, e0_2, q0_2, b0_2, r0_2, o0_2, z0_2'⟩ := open_rowC (N := (Et.int .u8).toEn) (Ok := (fun x => (Lit.int .u8 x).wf = true)) Try.underlying35 (by kernel_rfl) dec_u8_5 t0_2
 replace e0_2 := cellC e0_2
 subst q0_2
 have z0_2 : a0_2.length * 1 ≤ 140737488351232 := by
  have := z0_2' 140737488351232 (weightsC Try.underlying38 (weight_arg hsz (j := 0) (t := 38) rfl rfl) (i := 2) rfl xe0_2)
  rwa [show Try.prog.bytesOf 5 = 1 from by kernel_rfl] at this
 obtain ⟨x0_3, xe0_3, t0_3⟩ := partC hall0 hx0 (i := 3) (o := 3) rfl (by kernel_rfl) rfl
 obtain ⟨a0_3, e0_3, _, w0_3⟩ := DataW.trod_int Try.underlying36 t0_3
 replace e0_3 := cellC e0_3
 obtain ⟨x0_4, xe0_4, t0_4⟩ := partC hall0 hx0 (i := 4) (o := 4) rfl (by kernel_rfl) rfl
 obtain ⟨a0_4, e0_4, _, w0_4⟩ := DataW.trod_int Try.underlying3 t0_4
 replace e0_4 := cellC e0_4
 obtain ⟨x0_5, xe0_5, t0_5⟩ := partC hall0 hx0 (i := 5) (o := 5) rfl (by kernel_rfl) rfl
 obtain ⟨a0_5, e0_5, _, w0_5⟩ := DataW.trod_int Try.underlying3 t0_5
 replace e0_5 := cellC e0_5
 have hcl0 : (Value.agg cs0).cells.toList = cs0.toList := rfl
 rw [hcl0] at hl0 e0_0 e0_1 e0_2 e0_3 e0_4 e0_5
 obtain ⟨c0_0_, c0_1_, c0_2_, c0_3_, c0_4_, c0_5_, hcc0⟩ : ∃ c0_0_ c0_1_ c0_2_ c0_3_ c0_4_ c0_5_, cs0.toList = [c0_0_, c0_1_, c0_2_, c0_3_, c0_4_, c0_5_] := by
  generalize cs0.toList = cs at hl0
  rcases cs with _ | ⟨c0_0_, _ | ⟨c0_1_, _ | ⟨c0_2_, _ | ⟨c0_3_, _ | ⟨c0_4_, _ | ⟨c0_5_, _ | ⟨c, r⟩⟩⟩⟩⟩⟩⟩
  ·simp at hl0
  ·simp at hl0
  ·simp at hl0
  ·simp at hl0
  ·simp at hl0
  ·simp at hl0
  ·exact ⟨c0_0_, c0_1_, c0_2_, c0_3_, c0_4_, c0_5_, rfl⟩
  ·simp at hl0
 rw [hcc0] at e0_0 e0_1 e0_2 e0_3 e0_4 e0_5
 simp at e0_0 e0_1 e0_2 e0_3 e0_4 e0_5
 subst e0_0 e0_1 e0_2 e0_3 e0_4 e0_5
 obtain rfl : cs0 = #[.int .i64 a0_0, .slice s0_1 a0_1.length c0_1, .slice s0_2 a0_2.length c0_2, .int .u64 a0_3, .int .i64 a0_4, .int .i64 a0_5] := by apply Array.toList_inj.1; rw [hcc0]
 refine (walk W a0_0 w0_0 s0_1 c0_1 a0_1 b0_1 r0_1 o0_1 z0_1 s0_2 c0_2 a0_2 b0_2 r0_2 o0_2 z0_2 a0_3 w0_3 a0_4 w0_4 a0_5 w0_5).mono fun e W' ⟨he, hg⟩ => ?_
 subst he
 refine ⟨_, rfl, post_below (pa := _) (pv := []) hW' (fun _ _ _ => (trodAll_cons_mk (shut_bool Try.underlying4 _) trodAll_mk0)) (fun sp hsp => ?_) (fun _ _ => rfl) rfl hg⟩
 exact TrodAll.stays laid hg (by kernel_rfl) hA1 (fun x hx => by simpa using hlt x (List.mem_append.2 (.inl hx))) (fun x hx => hsp x (List.mem_append.2 (.inl hx)))
theorem over : Rows.hashNilRow.holds Try.pinned (OpenSpec.ofChange Rows.hashNilSpec) :=
 OpenClaim.holds_of_wide 4 Try.f4 rfl rfl rfl rfl rfl rfl rfl ⟨rfl, rfl, rfl, rfl, rfl⟩ rfl rfl rfl rfl rfl (by kernel_rfl) Try.func4 (by kernel_rfl)
  (of_decide_eq_true (by kernel_rfl)) (by unfold Func.isWrapper; first | (rw [if_pos (by decide +kernel)]; kernel_rfl) | (rw [if_neg (by decide +kernel)]; exact ⟨rfl, rfl⟩))
  (fun os started H enc _ => lifted os started H enc)
theorem proved : Rows.HashNilSaid :=
 over
end Go.Proofs.Yteicbpfkljnemaa.hashNil
