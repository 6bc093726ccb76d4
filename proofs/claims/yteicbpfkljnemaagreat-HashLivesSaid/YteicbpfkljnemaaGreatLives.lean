/- HashLives returns true whatever it is given; what it is given reads behind the call as it did before. No condition. -/
import Derived.Test.YteicbpfkljnemaaGreatRows
import Derived.WalkKit
import Derived.ProofKit
import Derived.OpenShut
import Derived.KernelRfl
import Derived.SizedLaws
import Derived.Test.YteicbpfkljnemaaGreatTG
set_option linter.all false
namespace Go.Proofs.YteicbpfkljnemaaGreat.hashLives
open Go.HW Go.ChangeShapes Go.WideShapes Go.ChangeAt Go.RowKit
set_option maxRecDepth 8000
theorem own : ownKnob Tryz.prog.godebug = none := by kernel_rfl
theorem laid : laidOutB Tryz.prog = true := by kernel_rfl
theorem dec_u8_5 {H : Type} {enc : TypeId × Value → H} {W : World} {sp : Nat → Bool} {held : Bool} (n : Nat) (cs : List Value) (y : DataW H × List MemPlace) (h : DataW.trod enc Tryz.prog W 0 sp held n 5 cs = some y) : ∃ x : Int, cs = (Et.int .u8).enc x ∧ (Lit.int .u8 x).wf = true := by
 obtain ⟨m, h1, _, h2⟩ := DataW.trod_int Tryz.underlying5 h
 exact ⟨m, h1, h2⟩
def Wt_Do (B : Nat) (x : DoK) : Prop := x.fKey.2.length ≤ B ∧ x.fB.2.length ≤ B
def Ok_Do (W : World) (x : DoK) : Prop := ((Lit.int .i64 x.fWhat).wf = true ∧ (Lit.int .u64 x.fFlags).wf = true ∧ (Lit.int .i64 x.fPlace).wf = true ∧ (Lit.int .i64 x.fOff).wf = true) ∧ ∀ k ∈ DoK.K x, RdS k.N.toEn W k.sl.1 k.xs ∧ k.xs.length = k.sl.2.1 ∧ k.xs.length ≤ k.sl.2.2
theorem dec_Do {H : Type} {enc : TypeId × Value → H} {W : World} {sp : Nat → Bool} {held : Bool} (n : Nat) (cs : List Value) (y : DataW H × List MemPlace) (h : DataW.trod enc Tryz.prog W 0 sp held n 39 cs = some y) : ∃ x : DoK, cs = DoK.E.enc x ∧ Ok_Do W x ∧ ∀ B, (∀ m ∈ y.1.weights Tryz.prog 39, m ≤ B) → Wt_Do B x := by
 obtain ⟨xs, m, _, hd, hl, hx, hall⟩ := DataW.trod_struct Tryz.underlying39 h
 subst hd
 have h5 : Tryz.prog.cellsOf 39 = 6 := by kernel_rfl
 rw [h5] at hl
 obtain ⟨x0, xe0, t0⟩ := partC hall hx (i := 0) (o := 0) rfl (by kernel_rfl) rfl
 obtain ⟨m0, e0, _, w0⟩ := DataW.trod_int Tryz.underlying3 t0
 replace e0 := cellC e0
 obtain ⟨x1, xe1, t1⟩ := partC hall hx (i := 1) (o := 1) rfl (by kernel_rfl) rfl
 obtain ⟨s1, n1, k1, a1, e1, q1, b1, r1, _, z1⟩ := open_rowC (N := (Et.int .u8).toEn) (Ok := (fun x => (Lit.int .u8 x).wf = true)) Tryz.underlying36 (by kernel_rfl) dec_u8_5 t1
 subst q1
 replace e1 := cellC e1
 obtain ⟨x2, xe2, t2⟩ := partC hall hx (i := 2) (o := 2) rfl (by kernel_rfl) rfl
 obtain ⟨s2, n2, k2, a2, e2, q2, b2, r2, _, z2⟩ := open_rowC (N := (Et.int .u8).toEn) (Ok := (fun x => (Lit.int .u8 x).wf = true)) Tryz.underlying36 (by kernel_rfl) dec_u8_5 t2
 subst q2
 replace e2 := cellC e2
 obtain ⟨x3, xe3, t3⟩ := partC hall hx (i := 3) (o := 3) rfl (by kernel_rfl) rfl
 obtain ⟨m3, e3, _, w3⟩ := DataW.trod_int Tryz.underlying37 t3
 replace e3 := cellC e3
 obtain ⟨x4, xe4, t4⟩ := partC hall hx (i := 4) (o := 4) rfl (by kernel_rfl) rfl
 obtain ⟨m4, e4, _, w4⟩ := DataW.trod_int Tryz.underlying3 t4
 replace e4 := cellC e4
 obtain ⟨x5, xe5, t5⟩ := partC hall hx (i := 5) (o := 5) rfl (by kernel_rfl) rfl
 obtain ⟨m5, e5, _, w5⟩ := DataW.trod_int Tryz.underlying3 t5
 replace e5 := cellC e5
 obtain ⟨c0, c1, c2, c3, c4, c5, rfl⟩ : ∃ c0 c1 c2 c3 c4 c5, cs = [c0, c1, c2, c3, c4, c5] := by
  rcases cs with _ | ⟨c0, _ | ⟨c1, _ | ⟨c2, _ | ⟨c3, _ | ⟨c4, _ | ⟨c5, _ | ⟨c, r⟩⟩⟩⟩⟩⟩⟩
  ·simp at hl
  ·simp at hl
  ·simp at hl
  ·simp at hl
  ·simp at hl
  ·simp at hl
  ·exact ⟨c0, c1, c2, c3, c4, c5, rfl⟩
  simp at hl
 simp at e0 e1 e2 e3 e4 e5
 subst e0 e1 e2 e3 e4 e5
 refine ⟨⟨m0, ((s1, a1.length, k1), a1), ((s2, a2.length, k2), a2), m3, m4, m5⟩, rfl, ⟨⟨w0, w3, w4, w5⟩, fun k hk => ?_⟩, fun B hB => ⟨by have := z1 B (weightsC Tryz.underlying39 hB (i := 1) rfl xe1); rw [show Tryz.prog.bytesOf 5 = 1 from by kernel_rfl] at this; simpa using this, by have := z2 B (weightsC Tryz.underlying39 hB (i := 2) rfl xe2); rw [show Tryz.prog.bytesOf 5 = 1 from by kernel_rfl] at this; simpa using this⟩⟩
 simp only [DoK.K, List.mem_cons, List.not_mem_nil, or_false] at hk
 rcases hk with rfl | rfl
 ·exact ⟨r1, rfl, b1⟩
 exact ⟨r2, rfl, b2⟩
theorem walk (w : World) (a0_0 : Int) (w0_0 : (Lit.int .u8 a0_0).wf = true) (a0_1 : Int) (w0_1 : (Lit.int .i64 a0_1).wf = true) (a0_2 : Int) (w0_2 : (Lit.int .i64 a0_2).wf = true) (a0_3 : Int) (w0_3 : (Lit.int .i64 a0_3).wf = true) (s1 : Option Addr) (c1 : Nat) (a1 : List DoK) (b1 : a1.length ≤ c1) (r1 : RdS DoK.E.toEn w s1 a1) (o1 : ∀ x ∈ a1, (Ok_Do w) x) (z1 : a1.length * 80 ≤ 140737488351232) (y1 : ∀ x ∈ a1, Wt_Do 140737488351232 x) :
  Calls Tryz.prog 3 #[.agg #[.int .u8 a0_0, .int .i64 a0_1, .int .i64 a0_2, .int .i64 a0_3], .slice s1 a1.length c1] w fun e w' => e = .returned (.bool true) ∧ Below w.heap.size w w' := by
 have h := Go.Proofs.YteicbpfkljnemaaGreat.c3 30000 (⟨a0_0, a0_1, a0_2, a0_3⟩ : MSpec) a1 true (hashLives_plain _ _ y1) w (fun t => ([⟨s1, c1, a1.length⟩] : List HW.Loc)[t]?) [[]] [.agg #[.int .u8 a0_0, .int .i64 a0_1, .int .i64 a0_2, .int .i64 a0_3], .slice s1 a1.length c1] (by first | rfl | simp [dens_nil, dens_cons, SV.den, SV.deni]) (⟨[], _, rfl, ⟨s1, c1, rfl, rfl, b1, r1.rdf, fun x hx k hk => ⟨((o1 x hx).2 k hk).1.rdf, ((o1 x hx).2 k hk).2⟩⟩, rfl⟩) (fun t ht => List.getElem?_eq_none ht) (fun p hp => by simp at hp) (by simp) (fun _ _ => trivial)
 refine Calls.mono h ?_
 rintro e w' ⟨v, R', rfl, heff, c, ρ', F', rfl, _, hv, _⟩
 rw [SV.den] at hv; cases hv
 exact ⟨rfl, heff.ext.below⟩
set_option maxRecDepth 100000 in
theorem lifted (os : Os) (started : os.Started) (H : Type) (enc : TypeId × Value → H) :
  ReturnsInHanded {} Tryz.checked os 3 .any (Rows.hashLivesSpec.pre6 enc Tryz.prog Tryz.f3 Rows.hashLivesRow.domain false) (Rows.hashLivesSpec.post enc Tryz.prog Tryz.f3 false true false false) := by
 refine returnsInHanded_of_change_sized (C := Tryz.checked) own started (by kernel_rfl) Tryz.func3
  (ChangeSpec.witness6 (enc := enc) (C := Tryz.checked) false ⟨#[], #[.agg #[.int .u8 0, .int .i64 0, .int .i64 0, .int .i64 0], .slice none 0 0], []⟩ 8 (by kernel_rfl) (by kernel_rfl) (by kernel_rfl) (by kernel_rfl)) ?_
 intro W base args ds gs before hval0 hW hcnd hsz0 _
 have hval : ∀ (j : Nat) t v, Tryz.f3.params[j]? = some t → args[j]? = some v → Value.okWide Tryz.prog W .any base t v := hval0
 have hsz : (DataW.weightsEach Tryz.prog (Tryz.f3.params.toList ++ Rows.hashLivesSpec.plain.varTypes Tryz.prog) (ds ++ gs)).all (· ≤ 140737488351232) = true := hsz0
 have hW' := hW
 obtain ⟨p, q, hA0, hV, rfl, hfz, hnd⟩ := hW
 have hA : DataW.TrodAll enc Tryz.prog W 0 (fun _ => true) true Tryz.f3.params.toList args.toList ds p := hA0
 rw [Tryz.params3] at hA hval hsz
 have hA1 := hA
 obtain ⟨v0, vs0, d0, ds0, p0, x0, hargs, rfl, rfl, h0, t0⟩ := trodAll_cons hA
 obtain ⟨v1, vs1, d1, ds1, p1, x1, rfl, rfl, rfl, h1, t1⟩ := trodAll_cons t0
 obtain ⟨rfl, rfl, rfl⟩ := trodAll_nil t1
 obtain rfl : args = #[v0, v1] := by cases args; simp_all
 obtain ⟨rfl, rfl⟩ := trodVars_none hV
 have hlt := fun x hx => hW'.lt x hx
 obtain ⟨cs0, rfl, hcs0⟩ := Go.WideShapes.okWide_struct Tryz.underlying24 (hval 0 24 v0 rfl rfl)
 obtain ⟨m0, h0'⟩ := h0
 obtain ⟨xs0, k0, _, hd0, hl0, hx0, hall0⟩ := DataW.trod_struct Tryz.underlying24 h0'
 have h50 : Tryz.prog.cellsOf 24 = 4 := by kernel_rfl
 rw [h50] at hl0
 obtain ⟨rfl, _⟩ := Prod.mk.inj hd0
 obtain ⟨x0_0, xe0_0, t0_0⟩ := partC hall0 hx0 (i := 0) (o := 0) rfl (by kernel_rfl) rfl
 obtain ⟨a0_0, e0_0, _, w0_0⟩ := DataW.trod_int Tryz.underlying22 t0_0
 replace e0_0 := cellC e0_0
 obtain ⟨x0_1, xe0_1, t0_1⟩ := partC hall0 hx0 (i := 1) (o := 1) rfl (by kernel_rfl) rfl
 obtain ⟨a0_1, e0_1, _, w0_1⟩ := DataW.trod_int Tryz.underlying3 t0_1
 replace e0_1 := cellC e0_1
 obtain ⟨x0_2, xe0_2, t0_2⟩ := partC hall0 hx0 (i := 2) (o := 2) rfl (by kernel_rfl) rfl
 obtain ⟨a0_2, e0_2, _, w0_2⟩ := DataW.trod_int Tryz.underlying3 t0_2
 replace e0_2 := cellC e0_2
 obtain ⟨x0_3, xe0_3, t0_3⟩ := partC hall0 hx0 (i := 3) (o := 3) rfl (by kernel_rfl) rfl
 obtain ⟨a0_3, e0_3, _, w0_3⟩ := DataW.trod_int Tryz.underlying3 t0_3
 replace e0_3 := cellC e0_3
 have hcl0 : (Value.agg cs0).cells.toList = cs0.toList := rfl
 rw [hcl0] at hl0 e0_0 e0_1 e0_2 e0_3
 obtain ⟨c0_0_, c0_1_, c0_2_, c0_3_, hcc0⟩ : ∃ c0_0_ c0_1_ c0_2_ c0_3_, cs0.toList = [c0_0_, c0_1_, c0_2_, c0_3_] := by
  generalize cs0.toList = cs at hl0
  rcases cs with _ | ⟨c0_0_, _ | ⟨c0_1_, _ | ⟨c0_2_, _ | ⟨c0_3_, _ | ⟨c, r⟩⟩⟩⟩⟩
  ·simp at hl0
  ·simp at hl0
  ·simp at hl0
  ·simp at hl0
  ·exact ⟨c0_0_, c0_1_, c0_2_, c0_3_, rfl⟩
  simp at hl0
 rw [hcc0] at e0_0 e0_1 e0_2 e0_3
 simp at e0_0 e0_1 e0_2 e0_3
 subst e0_0 e0_1 e0_2 e0_3
 obtain rfl : cs0 = #[.int .u8 a0_0, .int .i64 a0_1, .int .i64 a0_2, .int .i64 a0_3] := by apply Array.toList_inj.1; rw [hcc0]
 obtain ⟨s1, n1, c1, rfl⟩ := Go.WideShapes.okWide_slice Tryz.underlying25 (hval 1 25 v1 rfl rfl)
 obtain ⟨m1, h1'⟩ := trod_of rfl h1
 obtain ⟨s1', n1', c1', a1, hc1, q1, b1, r1, o1, z1'⟩ := open_rowW (N := DoK.E.toEn) (Ok := (Ok_Do W)) (Wt := Wt_Do) Tryz.underlying25 (by kernel_rfl) dec_Do h1'
 have y1 := (z1' 140737488351232 (weight_arg hsz (j := 1) (t := 25) rfl rfl)).2
 replace z1' := fun B hB => (z1' B hB).1
 cases hc1; subst q1
 have z1 : a1.length * 80 ≤ 140737488351232 := by
  have := z1' 140737488351232 (weight_arg hsz (j := 1) (t := 25) rfl rfl)
  rwa [show Tryz.prog.bytesOf 39 = 80 from by kernel_rfl] at this
 refine (walk W a0_0 w0_0 a0_1 w0_1 a0_2 w0_2 a0_3 w0_3 s1 c1 a1 b1 r1 o1 z1 y1).mono fun e W' ⟨he, hg⟩ => ?_
 subst he
 refine ⟨_, rfl, post_below (pa := _) (pv := []) hW' (fun _ _ _ => (trodAll_cons_mk (shut_bool Tryz.underlying4 _) trodAll_mk0)) (fun sp hsp => ?_) (fun _ _ => rfl) rfl hg⟩
 exact TrodAll.stays laid hg (by kernel_rfl) hA1 (fun x hx => by simpa using hlt x (List.mem_append.2 (.inl hx))) (fun x hx => hsp x (List.mem_append.2 (.inl hx)))
theorem over : Rows.hashLivesRow.holds Tryz.pinned (OpenSpec.ofChange Rows.hashLivesSpec) :=
 OpenClaim.holds_of_wide 3 Tryz.f3 rfl rfl rfl rfl rfl rfl rfl ⟨rfl, rfl, rfl, rfl, rfl⟩ rfl rfl rfl rfl rfl (by kernel_rfl) Tryz.func3 (by kernel_rfl)
  (of_decide_eq_true (by kernel_rfl)) (by unfold Func.isWrapper; first | (rw [if_pos (by decide +kernel)]; kernel_rfl) | (rw [if_neg (by decide +kernel)]; exact ⟨rfl, rfl⟩))
  (fun os started H enc _ => lifted os started H enc)
theorem proved : Rows.HashLivesSaid :=
 over
end Go.Proofs.YteicbpfkljnemaaGreat.hashLives
