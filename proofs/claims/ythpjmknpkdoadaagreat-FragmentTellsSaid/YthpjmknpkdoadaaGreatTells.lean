/- FragmentTells returns true whatever it is given; what it is given reads behind the call as it did before. No condition. -/
import Derived.Test.YthpjmknpkdoadaaGreatRows
import Derived.WalkKit
import Derived.ProofKit
import Derived.OpenShut
import Derived.KernelRfl
import Derived.SizedLaws
import Derived.Test.YthpjmknpkdoadaaGreatTF
set_option linter.all false
namespace Go.Proofs.YthpjmknpkdoadaaGreat.fragmentTells
open Go.HW Go.ChangeShapes Go.WideShapes Go.ChangeAt Go.RowKit
set_option linter.unusedVariables false
set_option maxRecDepth 8000
theorem own : ownKnob Tryz.prog.godebug = none := by kernel_rfl
theorem laid : laidOutB Tryz.prog = true := by kernel_rfl
def Ok_Instr (x : Instr) : Prop := (Lit.int .u8 x.fOp).wf = true ∧ (Lit.int .u8 x.fDst).wf = true ∧ (Lit.int .u8 x.fSrc).wf = true ∧ (Lit.int .i16 x.fOff).wf = true ∧ (Lit.int .i32 x.fImm).wf = true
theorem dec_Instr {H : Type} {enc : TypeId × Value → H} {W : World} {sp : Nat → Bool} {held : Bool} (n : Nat) (cs : List Value) (y : DataW H × List MemPlace) (h : DataW.trod enc Tryz.prog W 0 sp held n 40 cs = some y) : ∃ x : Instr, cs = Instr.E.enc x ∧ Ok_Instr x := by
 obtain ⟨xs, m, _, _, hl, hx, hall⟩ := DataW.trod_struct Tryz.underlying40 h
 have h5 : Tryz.prog.cellsOf 40 = 5 := by kernel_rfl
 rw [h5] at hl
 obtain ⟨x0, _, t0⟩ := partC hall hx (i := 0) (o := 0) rfl (by kernel_rfl) rfl
 obtain ⟨m0, e0, _, w0⟩ := DataW.trod_int Tryz.underlying5 t0
 replace e0 := cellC e0
 obtain ⟨x1, _, t1⟩ := partC hall hx (i := 1) (o := 1) rfl (by kernel_rfl) rfl
 obtain ⟨m1, e1, _, w1⟩ := DataW.trod_int Tryz.underlying5 t1
 replace e1 := cellC e1
 obtain ⟨x2, _, t2⟩ := partC hall hx (i := 2) (o := 2) rfl (by kernel_rfl) rfl
 obtain ⟨m2, e2, _, w2⟩ := DataW.trod_int Tryz.underlying5 t2
 replace e2 := cellC e2
 obtain ⟨x3, _, t3⟩ := partC hall hx (i := 3) (o := 3) rfl (by kernel_rfl) rfl
 obtain ⟨m3, e3, _, w3⟩ := DataW.trod_int Tryz.underlying36 t3
 replace e3 := cellC e3
 obtain ⟨x4, _, t4⟩ := partC hall hx (i := 4) (o := 4) rfl (by kernel_rfl) rfl
 obtain ⟨m4, e4, _, w4⟩ := DataW.trod_int Tryz.underlying21 t4
 replace e4 := cellC e4
 obtain ⟨c0, c1, c2, c3, c4, rfl⟩ : ∃ c0 c1 c2 c3 c4, cs = [c0, c1, c2, c3, c4] := by
  rcases cs with _ | ⟨c0, _ | ⟨c1, _ | ⟨c2, _ | ⟨c3, _ | ⟨c4, _ | ⟨c, r⟩⟩⟩⟩⟩⟩
  ·simp at hl
  ·simp at hl
  ·simp at hl
  ·simp at hl
  ·simp at hl
  ·exact ⟨c0, c1, c2, c3, c4, rfl⟩
  ·simp at hl
 simp at e0 e1 e2 e3 e4
 subst e0 e1 e2 e3 e4
 exact ⟨⟨m0, m1, m2, m3, m4⟩, rfl, ⟨w0, w1, w2, w3, w4⟩⟩
theorem wf2_ok {p : List Instr} (h : ∀ x ∈ p, Ok_Instr x) : WF2 p := fun x hx => by
 obtain ⟨w0, w1, w2, w3, w4⟩ := h x hx
 have b0 := bounds_u8 w0; have b1 := bounds_u8 w1; have b2 := bounds_u8 w2; have b3 := bounds_i16 w3; have b4 := bounds_i32 w4
 exact ⟨⟨⟨b0.1, by omega⟩, ⟨b3.1, by omega⟩, ⟨b4.1, by omega⟩⟩, b1.1, b2.1⟩
def Ok_Fld (x : Fld) : Prop := (Lit.int .i64 x.fOff).wf = true ∧ (Lit.int .i64 x.fSize).wf = true ∧ (Lit.int .u8 x.fKind).wf = true
theorem dec_Fld {H : Type} {enc : TypeId × Value → H} {W : World} {sp : Nat → Bool} {held : Bool} (n : Nat) (cs : List Value) (y : DataW H × List MemPlace) (h : DataW.trod enc Tryz.prog W 0 sp held n 51 cs = some y) : ∃ x : Fld, cs = Fld.E.enc x ∧ Ok_Fld x := by
 obtain ⟨xs, m, _, _, hl, hx, hall⟩ := DataW.trod_struct Tryz.underlying51 h
 have h5 : Tryz.prog.cellsOf 51 = 4 := by kernel_rfl
 rw [h5] at hl
 obtain ⟨x0, _, t0⟩ := partC hall hx (i := 0) (o := 0) rfl (by kernel_rfl) rfl
 obtain ⟨m0, e0, _, w0⟩ := DataW.trod_int Tryz.underlying3 t0
 replace e0 := cellC e0
 obtain ⟨x1, _, t1⟩ := partC hall hx (i := 1) (o := 1) rfl (by kernel_rfl) rfl
 obtain ⟨m1, e1, _, w1⟩ := DataW.trod_int Tryz.underlying3 t1
 replace e1 := cellC e1
 obtain ⟨x2, _, t2⟩ := partC hall hx (i := 2) (o := 2) rfl (by kernel_rfl) rfl
 obtain ⟨m2, e2, _, w2⟩ := DataW.trod_int Tryz.underlying49 t2
 replace e2 := cellC e2
 obtain ⟨x3, _, t3⟩ := partC hall hx (i := 3) (o := 3) rfl (by kernel_rfl) rfl
 obtain ⟨m3, e3, _⟩ := DataW.trod_bool Tryz.underlying4 t3
 replace e3 := cellC e3
 obtain ⟨c0, c1, c2, c3, rfl⟩ : ∃ c0 c1 c2 c3, cs = [c0, c1, c2, c3] := by
  rcases cs with _ | ⟨c0, _ | ⟨c1, _ | ⟨c2, _ | ⟨c3, _ | ⟨c, r⟩⟩⟩⟩⟩
  ·simp at hl
  ·simp at hl
  ·simp at hl
  ·simp at hl
  ·exact ⟨c0, c1, c2, c3, rfl⟩
  ·simp at hl
 simp at e0 e1 e2 e3
 subst e0 e1 e2 e3
 exact ⟨⟨m0, m1, m2, m3⟩, rfl, ⟨w0, w1, w2⟩⟩
def Ok_Need (x : Need) : Prop := (Lit.int .i64 x.fHelper).wf = true ∧ (Lit.int .i64 x.fMajor).wf = true ∧ (Lit.int .i64 x.fMinor).wf = true
theorem dec_Need {H : Type} {enc : TypeId × Value → H} {W : World} {sp : Nat → Bool} {held : Bool} (n : Nat) (cs : List Value) (y : DataW H × List MemPlace) (h : DataW.trod enc Tryz.prog W 0 sp held n 88 cs = some y) : ∃ x : Need, cs = Need.E.enc x ∧ Ok_Need x := by
 obtain ⟨xs, m, _, _, hl, hx, hall⟩ := DataW.trod_struct Tryz.underlying88 h
 have h5 : Tryz.prog.cellsOf 88 = 3 := by kernel_rfl
 rw [h5] at hl
 obtain ⟨x0, _, t0⟩ := partC hall hx (i := 0) (o := 0) rfl (by kernel_rfl) rfl
 obtain ⟨m0, e0, _, w0⟩ := DataW.trod_int Tryz.underlying3 t0
 replace e0 := cellC e0
 obtain ⟨x1, _, t1⟩ := partC hall hx (i := 1) (o := 1) rfl (by kernel_rfl) rfl
 obtain ⟨m1, e1, _, w1⟩ := DataW.trod_int Tryz.underlying3 t1
 replace e1 := cellC e1
 obtain ⟨x2, _, t2⟩ := partC hall hx (i := 2) (o := 2) rfl (by kernel_rfl) rfl
 obtain ⟨m2, e2, _, w2⟩ := DataW.trod_int Tryz.underlying3 t2
 replace e2 := cellC e2
 obtain ⟨c0, c1, c2, rfl⟩ : ∃ c0 c1 c2, cs = [c0, c1, c2] := by
  rcases cs with _ | ⟨c0, _ | ⟨c1, _ | ⟨c2, _ | ⟨c, r⟩⟩⟩⟩
  ·simp at hl
  ·simp at hl
  ·simp at hl
  ·exact ⟨c0, c1, c2, rfl⟩
  ·simp at hl
 simp at e0 e1 e2
 subst e0 e1 e2
 exact ⟨⟨m0, m1, m2⟩, rfl, ⟨w0, w1, w2⟩⟩
theorem walk (w : World) (s0 : Option Addr) (c0 : Nat) (a0 : List Instr) (b0 : a0.length ≤ c0) (r0 : RdS Instr.E.toEn w s0 a0) (o0 : ∀ x ∈ a0, Ok_Instr x) (z0 : a0.length * 12 ≤ 140737488351232) (a1_0 : ByteArray) (z1_0 : a1_0.size ≤ 140737488351232) (a1_1 : Int) (w1_1 : (Lit.int .i64 a1_1).wf = true) (s1_2 : Option Addr) (c1_2 : Nat) (a1_2 : List Fld) (b1_2 : a1_2.length ≤ c1_2) (r1_2 : RdS Fld.E.toEn w s1_2 a1_2) (o1_2 : ∀ x ∈ a1_2, Ok_Fld x) (z1_2 : a1_2.length * 24 ≤ 140737488351232) (s1_3 : Option Addr) (c1_3 : Nat) (a1_3 : List Need) (b1_3 : a1_3.length ≤ c1_3) (r1_3 : RdS Need.E.toEn w s1_3 a1_3) (o1_3 : ∀ x ∈ a1_3, Ok_Need x) (z1_3 : a1_3.length * 24 ≤ 140737488351232) (a1_4 : Int) (w1_4 : (Lit.int .i64 a1_4).wf = true) (a1_5 : Int) (w1_5 : (Lit.int .i64 a1_5).wf = true) :
  Calls Tryz.prog 3 #[.slice s0 a0.length c0, .agg #[.string a1_0, .int .i64 a1_1, .slice s1_2 a1_2.length c1_2, .slice s1_3 a1_3.length c1_3, .int .i64 a1_4, .int .i64 a1_5]] w fun e w' => e = .returned (.bool true) ∧ Below w.heap.size w w' := by
 have h := c3 40000 a0 (⟨a1_0, a1_1, a1_2, a1_3, a1_4, a1_5⟩ : PType) true (plainTells (wf2_ok o0) (by show a1_0.size ≤ _; omega) (by show a1_2.length ≤ _; omega) (by show a1_3.length ≤ _; omega)) w (fun t => ([⟨s0, c0, a0.length⟩, ⟨s1_2, c1_2, a1_2.length⟩, ⟨s1_3, c1_3, a1_3.length⟩] : List HW.Loc)[t]?) [[], [], []] [.slice s0 a0.length c0, .agg #[.string a1_0, .int .i64 a1_1, .slice s1_2 a1_2.length c1_2, .slice s1_3 a1_3.length c1_3, .int .i64 a1_4, .int .i64 a1_5]] (by first | rfl | simp [dens_nil, dens_cons, SV.den, SV.deni]) (⟨[], _, rfl, ⟨s0, c0, rfl, rfl, b0, r0.rdf⟩, ⟨[], _, rfl, ⟨s1_2, c1_2, rfl, rfl, b1_2, r1_2.rdf⟩, ⟨[], _, rfl, ⟨s1_3, c1_3, rfl, rfl, b1_3, r1_3.rdf⟩, rfl⟩⟩⟩) (fun t ht => List.getElem?_eq_none ht) (fun p hp => by simp at hp) (by simp)
 refine Calls.mono h ?_
 rintro e w' ⟨v, R', rfl, heff, c, ρ', F', rfl, _, hv, _⟩
 rw [SV.den] at hv; cases hv
 exact ⟨rfl, heff.ext.below⟩
set_option maxRecDepth 100000 in
theorem lifted (os : Os) (started : os.Started) (H : Type) (enc : TypeId × Value → H) :
  ReturnsInHanded {} Tryz.checked os 3 .any (Rows.fragmentTellsSpec.pre6 enc Tryz.prog Tryz.f3 Rows.fragmentTellsRow.domain false) (Rows.fragmentTellsSpec.post enc Tryz.prog Tryz.f3 false true false false) := by
 refine returnsInHanded_of_change_sized (C := Tryz.checked) own started (by kernel_rfl) Tryz.func3
  (ChangeSpec.witness6 (enc := enc) (C := Tryz.checked) false ⟨#[], #[.slice none 0 0, .agg #[.string ⟨#[]⟩, .int .i64 0, .slice none 0 0, .slice none 0 0, .int .i64 0, .int .i64 0]], []⟩ 8 (by kernel_rfl) (by kernel_rfl) (by kernel_rfl) (by kernel_rfl)) ?_
 intro W base args ds gs before hval0 hW hcnd hsz0 _
 have hval : ∀ (j : Nat) t v, Tryz.f3.params[j]? = some t → args[j]? = some v → Value.okWide Tryz.prog W .any base t v := hval0
 have hsz : (DataW.weightsEach Tryz.prog (Tryz.f3.params.toList ++ Rows.fragmentTellsSpec.plain.varTypes Tryz.prog) (ds ++ gs)).all (· ≤ 140737488351232) = true := hsz0
 have hW' := hW
 obtain ⟨p, q, hA0, hV, rfl, hfz, hnd⟩ := hW
 have hA : DataW.TrodAll enc Tryz.prog W 0 (fun _ => true) true Tryz.f3.params.toList args.toList ds p := hA0
 rw [Tryz.params3] at hA hval hsz
 have hA1 := hA
 obtain ⟨v0, vs0, d0, ds0, p0, x0, hargs, rfl, rfl, h0, t0⟩ := trodAll_cons hA
 obtain ⟨v1, vs1, d1, ds1, p1, x1, rfl, rfl, rfl, h1, t1⟩ := trodAll_cons t0
 obtain ⟨rfl, rfl, rfl⟩ := trodAll_nil t1
 obtain rfl : args = #[v0, v1] := by cases args; simp_all
 obtain ⟨rfl, rfl⟩ := trodVars_none hV
 have hlt := fun x hx => hW'.lt x hx
 obtain ⟨s0, n0, c0, rfl⟩ := Go.WideShapes.okWide_slice Tryz.underlying22 (hval 0 22 v0 rfl rfl)
 obtain ⟨m0, h0'⟩ := trod_of rfl h0
 obtain ⟨s0', n0', c0', a0, hc0, q0, b0, r0, o0, z0'⟩ := open_rowC (N := Instr.E.toEn) (Ok := Ok_Instr) Tryz.underlying22 (by kernel_rfl) dec_Instr h0'
 cases hc0; subst q0
 have z0 : a0.length * 12 ≤ 140737488351232 := by
  have := z0' 140737488351232 (weight_arg hsz (j := 0) (t := 22) rfl rfl)
  rwa [show Tryz.prog.bytesOf 40 = 12 from by kernel_rfl] at this
 obtain ⟨cs1, rfl, hcs1⟩ := Go.WideShapes.okWide_struct Tryz.underlying26 (hval 1 26 v1 rfl rfl)
 obtain ⟨m1, h1'⟩ := h1
 obtain ⟨xs1, k1, _, hd1, hl1, hx1, hall1⟩ := DataW.trod_struct Tryz.underlying26 h1'
 have h51 : Tryz.prog.cellsOf 26 = 6 := by kernel_rfl
 rw [h51] at hl1
 obtain ⟨rfl, _⟩ := Prod.mk.inj hd1
 obtain ⟨x1_0, xe1_0, t1_0⟩ := partC hall1 hx1 (i := 0) (o := 0) rfl (by kernel_rfl) rfl
 obtain ⟨a1_0, e1_0, z1_0'⟩ := open_strC Tryz.underlying9 t1_0
 replace e1_0 := cellC e1_0
 have z1_0 := z1_0' 140737488351232 (weightsC Tryz.underlying26 (weight_arg hsz (j := 1) (t := 26) rfl rfl) (i := 0) rfl xe1_0)
 obtain ⟨x1_1, xe1_1, t1_1⟩ := partC hall1 hx1 (i := 1) (o := 1) rfl (by kernel_rfl) rfl
 obtain ⟨a1_1, e1_1, _, w1_1⟩ := DataW.trod_int Tryz.underlying3 t1_1
 replace e1_1 := cellC e1_1
 obtain ⟨x1_2, xe1_2, t1_2⟩ := partC hall1 hx1 (i := 2) (o := 2) rfl (by kernel_rfl) rfl
 obtain ⟨s1_2, n1_2, c1_2, a1_2, e1_2, q1_2, b1_2, r1_2, o1_2, z1_2'⟩ := open_rowC (N := Fld.E.toEn) (Ok := Ok_Fld) Tryz.underlying23 (by kernel_rfl) dec_Fld t1_2
 replace e1_2 := cellC e1_2
 subst q1_2
 have z1_2 : a1_2.length * 24 ≤ 140737488351232 := by
  have := z1_2' 140737488351232 (weightsC Tryz.underlying26 (weight_arg hsz (j := 1) (t := 26) rfl rfl) (i := 2) rfl xe1_2)
  rwa [show Tryz.prog.bytesOf 51 = 24 from by kernel_rfl] at this
 obtain ⟨x1_3, xe1_3, t1_3⟩ := partC hall1 hx1 (i := 3) (o := 3) rfl (by kernel_rfl) rfl
 obtain ⟨s1_3, n1_3, c1_3, a1_3, e1_3, q1_3, b1_3, r1_3, o1_3, z1_3'⟩ := open_rowC (N := Need.E.toEn) (Ok := Ok_Need) Tryz.underlying24 (by kernel_rfl) dec_Need t1_3
 replace e1_3 := cellC e1_3
 subst q1_3
 have z1_3 : a1_3.length * 24 ≤ 140737488351232 := by
  have := z1_3' 140737488351232 (weightsC Tryz.underlying26 (weight_arg hsz (j := 1) (t := 26) rfl rfl) (i := 3) rfl xe1_3)
  rwa [show Tryz.prog.bytesOf 88 = 24 from by kernel_rfl] at this
 obtain ⟨x1_4, xe1_4, t1_4⟩ := partC hall1 hx1 (i := 4) (o := 4) rfl (by kernel_rfl) rfl
 obtain ⟨a1_4, e1_4, _, w1_4⟩ := DataW.trod_int Tryz.underlying2 t1_4
 replace e1_4 := cellC e1_4
 obtain ⟨x1_5, xe1_5, t1_5⟩ := partC hall1 hx1 (i := 5) (o := 5) rfl (by kernel_rfl) rfl
 obtain ⟨a1_5, e1_5, _, w1_5⟩ := DataW.trod_int Tryz.underlying2 t1_5
 replace e1_5 := cellC e1_5
 have hcl1 : (Value.agg cs1).cells.toList = cs1.toList := rfl
 rw [hcl1] at hl1 e1_0 e1_1 e1_2 e1_3 e1_4 e1_5
 obtain ⟨c1_0_, c1_1_, c1_2_, c1_3_, c1_4_, c1_5_, hcc1⟩ : ∃ c1_0_ c1_1_ c1_2_ c1_3_ c1_4_ c1_5_, cs1.toList = [c1_0_, c1_1_, c1_2_, c1_3_, c1_4_, c1_5_] := by
  generalize cs1.toList = cs at hl1
  rcases cs with _ | ⟨c1_0_, _ | ⟨c1_1_, _ | ⟨c1_2_, _ | ⟨c1_3_, _ | ⟨c1_4_, _ | ⟨c1_5_, _ | ⟨c, r⟩⟩⟩⟩⟩⟩⟩
  ·simp at hl1
  ·simp at hl1
  ·simp at hl1
  ·simp at hl1
  ·simp at hl1
  ·simp at hl1
  ·exact ⟨c1_0_, c1_1_, c1_2_, c1_3_, c1_4_, c1_5_, rfl⟩
  ·simp at hl1
 rw [hcc1] at e1_0 e1_1 e1_2 e1_3 e1_4 e1_5
 simp at e1_0 e1_1 e1_2 e1_3 e1_4 e1_5
 subst e1_0 e1_1 e1_2 e1_3 e1_4 e1_5
 obtain rfl : cs1 = #[.string a1_0, .int .i64 a1_1, .slice s1_2 a1_2.length c1_2, .slice s1_3 a1_3.length c1_3, .int .i64 a1_4, .int .i64 a1_5] := by apply Array.toList_inj.1; rw [hcc1]
 refine (walk W s0 c0 a0 b0 r0 o0 z0 a1_0 z1_0 a1_1 w1_1 s1_2 c1_2 a1_2 b1_2 r1_2 o1_2 z1_2 s1_3 c1_3 a1_3 b1_3 r1_3 o1_3 z1_3 a1_4 w1_4 a1_5 w1_5).mono fun e W' ⟨he, hg⟩ => ?_
 subst he
 refine ⟨_, rfl, post_below (pa := _) (pv := []) hW' (fun _ _ _ => (trodAll_cons_mk (shut_bool Tryz.underlying4 _) trodAll_mk0)) (fun sp hsp => ?_) (fun _ _ => rfl) rfl hg⟩
 exact TrodAll.stays laid hg (by kernel_rfl) hA1 (fun x hx => by simpa using hlt x (List.mem_append.2 (.inl hx))) (fun x hx => hsp x (List.mem_append.2 (.inl hx)))
theorem over : Rows.fragmentTellsRow.holds Tryz.pinned (OpenSpec.ofChange Rows.fragmentTellsSpec) :=
 OpenClaim.holds_of_wide 3 Tryz.f3 rfl rfl rfl rfl rfl rfl rfl ⟨rfl, rfl, rfl, rfl, rfl⟩ rfl rfl rfl rfl rfl (by kernel_rfl) Tryz.func3 (by kernel_rfl)
  (of_decide_eq_true (by kernel_rfl)) (by unfold Func.isWrapper; first | (rw [if_pos (by decide +kernel)]; kernel_rfl) | (rw [if_neg (by decide +kernel)]; exact ⟨rfl, rfl⟩))
  (fun os started H enc _ => lifted os started H enc)
theorem proved : Rows.FragmentTellsSaid :=
 over
end Go.Proofs.YthpjmknpkdoadaaGreat.fragmentTells
