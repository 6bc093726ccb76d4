/- HashKeeps returns true whatever it is given; what it is given reads behind the call as it did before. No condition. -/
import Derived.Test.YteicbpfkljnemaaRows
import Derived.WalkKit
import Derived.ProofKit
import Derived.OpenShut
import Derived.KernelRfl
import Derived.SizedLaws
import Derived.Test.YteicbpfkljnemaaTE
set_option linter.all false
namespace Go.Proofs.Yteicbpfkljnemaa.hashKeeps
open Go.HW Go.ChangeShapes Go.WideShapes Go.ChangeAt Go.RowKit
set_option linter.unusedVariables false
set_option maxRecDepth 8000
theorem own : ownKnob Try.prog.godebug = none := by kernel_rfl
theorem laid : laidOutB Try.prog = true := by kernel_rfl
theorem dec_u8_5 {H : Type} {enc : TypeId × Value → H} {W : World} {sp : Nat → Bool} {held : Bool} (n : Nat) (cs : List Value) (y : DataW H × List MemPlace) (h : DataW.trod enc Try.prog W 0 sp held n 5 cs = some y) : ∃ x : Int, cs = (Et.int .u8).enc x ∧ (Lit.int .u8 x).wf = true := by
 obtain ⟨m, h1, _, h2⟩ := DataW.trod_int Try.underlying5 h
 exact ⟨m, h1, h2⟩
def Ok_Do (W : World) (x : DoK) : Prop := ((Lit.int .i64 x.fWhat).wf = true ∧ (Lit.int .u64 x.fFlags).wf = true ∧ (Lit.int .i64 x.fPlace).wf = true ∧ (Lit.int .i64 x.fOff).wf = true) ∧ ∀ k ∈ DoK.K x, RdS k.N.toEn W k.sl.1 k.xs ∧ k.xs.length = k.sl.2.1 ∧ k.xs.length ≤ k.sl.2.2
theorem dec_Do {H : Type} {enc : TypeId × Value → H} {W : World} {sp : Nat → Bool} {held : Bool} (n : Nat) (cs : List Value) (y : DataW H × List MemPlace) (h : DataW.trod enc Try.prog W 0 sp held n 38 cs = some y) : ∃ x : DoK, cs = DoK.E.enc x ∧ Ok_Do W x := by
 obtain ⟨xs, m, _, _, hl, hx, hall⟩ := DataW.trod_struct Try.underlying38 h
 have h5 : Try.prog.cellsOf 38 = 6 := by kernel_rfl
 rw [h5] at hl
 obtain ⟨x0, _, t0⟩ := partC hall hx (i := 0) (o := 0) rfl (by kernel_rfl) rfl
 obtain ⟨m0, e0, _, w0⟩ := DataW.trod_int Try.underlying3 t0
 replace e0 := cellC e0
 obtain ⟨x1, _, t1⟩ := partC hall hx (i := 1) (o := 1) rfl (by kernel_rfl) rfl
 obtain ⟨s1, n1, k1, a1, e1, q1, b1, r1, _, _⟩ := open_rowC (N := (Et.int .u8).toEn) (Ok := (fun x => (Lit.int .u8 x).wf = true)) Try.underlying35 (by kernel_rfl) dec_u8_5 t1
 subst q1
 replace e1 := cellC e1
 obtain ⟨x2, _, t2⟩ := partC hall hx (i := 2) (o := 2) rfl (by kernel_rfl) rfl
 obtain ⟨s2, n2, k2, a2, e2, q2, b2, r2, _, _⟩ := open_rowC (N := (Et.int .u8).toEn) (Ok := (fun x => (Lit.int .u8 x).wf = true)) Try.underlying35 (by kernel_rfl) dec_u8_5 t2
 subst q2
 replace e2 := cellC e2
 obtain ⟨x3, _, t3⟩ := partC hall hx (i := 3) (o := 3) rfl (by kernel_rfl) rfl
 obtain ⟨m3, e3, _, w3⟩ := DataW.trod_int Try.underlying36 t3
 replace e3 := cellC e3
 obtain ⟨x4, _, t4⟩ := partC hall hx (i := 4) (o := 4) rfl (by kernel_rfl) rfl
 obtain ⟨m4, e4, _, w4⟩ := DataW.trod_int Try.underlying3 t4
 replace e4 := cellC e4
 obtain ⟨x5, _, t5⟩ := partC hall hx (i := 5) (o := 5) rfl (by kernel_rfl) rfl
 obtain ⟨m5, e5, _, w5⟩ := DataW.trod_int Try.underlying3 t5
 replace e5 := cellC e5
 obtain ⟨c0, c1, c2, c3, c4, c5, rfl⟩ : ∃ c0 c1 c2 c3 c4 c5, cs = [c0, c1, c2, c3, c4, c5] := by
  rcases cs with _ | ⟨c0, _ | ⟨c1, _ | ⟨c2, _ | ⟨c3, _ | ⟨c4, _ | ⟨c5, _ | ⟨c, r⟩⟩⟩⟩⟩⟩⟩
  ·simp at hl
  ·simp at hl
  ·simp at hl
  ·simp at hl
  ·simp at hl
  ·simp at hl
  ·exact ⟨c0, c1, c2, c3, c4, c5, rfl⟩
  ·simp at hl
 simp at e0 e1 e2 e3 e4 e5
 subst e0 e1 e2 e3 e4 e5
 refine ⟨⟨m0, ((s1, a1.length, k1), a1), ((s2, a2.length, k2), a2), m3, m4, m5⟩, rfl, ⟨w0, w3, w4, w5⟩, fun k hk => ?_⟩
 simp only [DoK.K, List.mem_cons, List.not_mem_nil, or_false] at hk
 rcases hk with rfl | rfl
 ·exact ⟨r1, rfl, b1⟩
 ·exact ⟨r2, rfl, b2⟩
theorem walk (w : World) (a0 : Int) (w0 : (Lit.int .i64 a0).wf = true) (a1 : Int) (w1 : (Lit.int .i64 a1).wf = true) (a2 : Int) (w2 : (Lit.int .i64 a2).wf = true) (s3 : Option Addr) (c3 : Nat) (a3 : List DoK) (b3 : a3.length ≤ c3) (r3 : RdS DoK.E.toEn w s3 a3) (o3 : ∀ x ∈ a3, (Ok_Do w) x) (z3 : a3.length * 80 ≤ 140737488351232) :
  Calls Try.prog 3 #[.int .i64 a0, .int .i64 a1, .int .i64 a2, .slice s3 a3.length c3] w fun e w' => e = .returned (.bool true) ∧ Below w.heap.size w w' := by
 have h := Go.Proofs.Yteicbpfkljnemaa.c3 30000 a0 a1 a2 a3 true (hashKeeps_plain _ _ _ _) w (fun t => ([⟨s3, c3, a3.length⟩] : List HW.Loc)[t]?) [[]] [.int .i64 a0, .int .i64 a1, .int .i64 a2, .slice s3 a3.length c3] (by first | rfl | simp [dens_nil, dens_cons, SV.den, SV.deni]) (⟨[], _, rfl, ⟨s3, c3, rfl, rfl, b3, r3.rdf, fun x hx k hk => ⟨((o3 x hx).2 k hk).1.rdf, ((o3 x hx).2 k hk).2⟩⟩, rfl⟩) (fun t ht => List.getElem?_eq_none ht) (fun p hp => by simp at hp) (by simp)
 refine Calls.mono h ?_
 rintro e w' ⟨v, R', rfl, heff, c, ρ', F', rfl, _, hv, _⟩
 rw [SV.den] at hv; cases hv
 exact ⟨rfl, heff.ext.below⟩
set_option maxRecDepth 100000 in
theorem lifted (os : Os) (started : os.Started) (H : Type) (enc : TypeId × Value → H) :
  ReturnsInHanded {} Try.checked os 3 .any (Rows.hashKeepsSpec.pre6 enc Try.prog Try.f3 Rows.hashKeepsRow.domain false) (Rows.hashKeepsSpec.post enc Try.prog Try.f3 false true false false) := by
 refine returnsInHanded_of_change_sized (C := Try.checked) own started (by kernel_rfl) Try.func3
  (ChangeSpec.witness6 (enc := enc) (C := Try.checked) false ⟨#[], #[.int .i64 0, .int .i64 0, .int .i64 0, .slice none 0 0], []⟩ 8 (by kernel_rfl) (by kernel_rfl) (by kernel_rfl) (by kernel_rfl)) ?_
 intro W base args ds gs before hval0 hW hcnd hsz0 _
 have hval : ∀ (j : Nat) t v, Try.f3.params[j]? = some t → args[j]? = some v → Value.okWide Try.prog W .any base t v := hval0
 have hsz : (DataW.weightsEach Try.prog (Try.f3.params.toList ++ Rows.hashKeepsSpec.plain.varTypes Try.prog) (ds ++ gs)).all (· ≤ 140737488351232) = true := hsz0
 have hW' := hW
 obtain ⟨p, q, hA0, hV, rfl, hfz, hnd⟩ := hW
 have hA : DataW.TrodAll enc Try.prog W 0 (fun _ => true) true Try.f3.params.toList args.toList ds p := hA0
 rw [Try.params3] at hA hval hsz
 have hA1 := hA
 obtain ⟨v0, vs0, d0, ds0, p0, x0, hargs, rfl, rfl, h0, t0⟩ := trodAll_cons hA
 obtain ⟨v1, vs1, d1, ds1, p1, x1, rfl, rfl, rfl, h1, t1⟩ := trodAll_cons t0
 obtain ⟨v2, vs2, d2, ds2, p2, x2, rfl, rfl, rfl, h2, t2⟩ := trodAll_cons t1
 obtain ⟨v3, vs3, d3, ds3, p3, x3, rfl, rfl, rfl, h3, t3⟩ := trodAll_cons t2
 obtain ⟨rfl, rfl, rfl⟩ := trodAll_nil t3
 obtain rfl : args = #[v0, v1, v2, v3] := by cases args; simp_all
 obtain ⟨rfl, rfl⟩ := trodVars_none hV
 have hlt := fun x hx => hW'.lt x hx
 obtain ⟨a0, rfl, rfl, rfl, w0⟩ := open_int Try.underlying3 (hval 0 3 v0 rfl rfl) h0
 obtain ⟨a1, rfl, rfl, rfl, w1⟩ := open_int Try.underlying3 (hval 1 3 v1 rfl rfl) h1
 obtain ⟨a2, rfl, rfl, rfl, w2⟩ := open_int Try.underlying3 (hval 2 3 v2 rfl rfl) h2
 obtain ⟨s3, n3, c3, rfl⟩ := Go.WideShapes.okWide_slice Try.underlying22 (hval 3 22 v3 rfl rfl)
 obtain ⟨m3, h3'⟩ := trod_of rfl h3
 obtain ⟨s3', n3', c3', a3, hc3, q3, b3, r3, o3, z3'⟩ := open_rowC (N := DoK.E.toEn) (Ok := (Ok_Do W)) Try.underlying22 (by kernel_rfl) dec_Do h3'
 cases hc3; subst q3
 have z3 : a3.length * 80 ≤ 140737488351232 := by
  have := z3' 140737488351232 (weight_arg hsz (j := 3) (t := 22) rfl rfl)
  rwa [show Try.prog.bytesOf 38 = 80 from by kernel_rfl] at this
 refine (walk W a0 w0 a1 w1 a2 w2 s3 c3 a3 b3 r3 o3 z3).mono fun e W' ⟨he, hg⟩ => ?_
 subst he
 refine ⟨_, rfl, post_below (pa := _) (pv := []) hW' (fun _ _ _ => (trodAll_cons_mk (shut_bool Try.underlying4 _) trodAll_mk0)) (fun sp hsp => ?_) (fun _ _ => rfl) rfl hg⟩
 exact TrodAll.stays laid hg (by kernel_rfl) hA1 (fun x hx => by simpa using hlt x (List.mem_append.2 (.inl hx))) (fun x hx => hsp x (List.mem_append.2 (.inl hx)))
theorem over : Rows.hashKeepsRow.holds Try.pinned (OpenSpec.ofChange Rows.hashKeepsSpec) :=
 OpenClaim.holds_of_wide 3 Try.f3 rfl rfl rfl rfl rfl rfl rfl ⟨rfl, rfl, rfl, rfl, rfl⟩ rfl rfl rfl rfl rfl (by kernel_rfl) Try.func3 (by kernel_rfl)
  (of_decide_eq_true (by kernel_rfl)) (by unfold Func.isWrapper; first | (rw [if_pos (by decide +kernel)]; kernel_rfl) | (rw [if_neg (by decide +kernel)]; exact ⟨rfl, rfl⟩))
  (fun os started H enc _ => lifted os started H enc)
theorem proved : Rows.HashKeepsSaid :=
 over
end Go.Proofs.Yteicbpfkljnemaa.hashKeeps
