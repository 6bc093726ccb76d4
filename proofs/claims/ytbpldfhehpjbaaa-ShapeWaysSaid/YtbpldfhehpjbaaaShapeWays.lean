/- ShapeWays returns true whatever it is given; what it is given reads behind the call as it did before. No condition. -/
import Derived.Test.YtbpldfhehpjbaaaRows
import Derived.WalkKit
import Derived.Test.YtbpldfhehpjbaaaPlShWays
import Derived.Test.YtbpldfhehpjbaaaHwLaw
import Derived.ProofKit
import Derived.OpenShut
namespace Go.Proofs.Ytbpldfhehpjbaaa.shapeWays
open Go.HW Go.ChangeShapes Go.WideShapes Go.ChangeAt Go.RowKit
set_option linter.unusedVariables false

theorem own : ownKnob Try.prog.godebug = none := by kernel_rfl
theorem laid : laidOutB Try.prog = true := by kernel_rfl

theorem dec_instr {H : Type} {enc : TypeId × Value → H} {W : World} {sp : Nat → Bool} {held : Bool} (n : Nat) (cs : List Value) (y : DataW H × List MemPlace) (h : DataW.trod enc Try.prog W 0 sp held n 27 cs = some y) : ∃ x : Instr, cs = Instr.E.enc x ∧ OkI x := by
  obtain ⟨xs, m, _, _, hl, hx, hall⟩ := DataW.trod_struct Try.underlying27 h
  have h5 : Try.prog.cellsOf 27 = 5 := by kernel_rfl
  rw [h5] at hl
  obtain ⟨m0, e0, w0⟩ := field_int hall hx (i := 0) (o := 0) rfl Try.underlying5 (by kernel_rfl) rfl
  obtain ⟨m1, e1, w1⟩ := field_int hall hx (i := 1) (o := 1) rfl Try.underlying5 (by kernel_rfl) rfl
  obtain ⟨m2, e2, w2⟩ := field_int hall hx (i := 2) (o := 2) rfl Try.underlying5 (by kernel_rfl) rfl
  obtain ⟨m3, e3, w3⟩ := field_int hall hx (i := 3) (o := 3) rfl Try.underlying25 (by kernel_rfl) rfl
  obtain ⟨m4, e4, w4⟩ := field_int hall hx (i := 4) (o := 4) rfl Try.underlying21 (by kernel_rfl) rfl
  obtain ⟨c0, c1, c2, c3, c4, rfl⟩ : ∃ c0 c1 c2 c3 c4, cs = [c0, c1, c2, c3, c4] := by
    rcases cs with _ | ⟨c0, _ | ⟨c1, _ | ⟨c2, _ | ⟨c3, _ | ⟨c4, _ | ⟨c5, r⟩⟩⟩⟩⟩⟩
    · simp at hl
    · simp at hl
    · simp at hl
    · simp at hl
    · simp at hl
    · exact ⟨c0, c1, c2, c3, c4, rfl⟩
    · simp at hl
  simp at e0 e1 e2 e3 e4
  subst e0 e1 e2 e3 e4
  have b0 := bounds_u8 w0; have b3 := bounds_i16 w3; have b4 := bounds_i32 w4
  exact ⟨⟨m0, m1, m2, m3, m4⟩, rfl, ⟨⟨b0.1, by show m0 < 256; omega⟩, ⟨b3.1, by show m3 < 32768; omega⟩, ⟨b4.1, by show m4 < 2147483648; omega⟩⟩⟩

theorem walk (w : World) (s0 : Option Addr) (n0 c0 : Nat) (a0 : List Instr) (q0 : a0.length = n0) (b0 : a0.length ≤ c0) (r0 : RdS Instr.E w s0 a0) (o0 : ∀ x ∈ a0, OkI x) (s1 : Option Addr) (n1 c1 : Nat) (a1 : List Bool) (q1 : a1.length = n1) (b1 : a1.length ≤ c1) (r1 : RdS En.bool w s1 a1) (o1 : ∀ x ∈ a1, (fun _ => True) x) :
    Calls Try.prog 11 #[.slice s0 n0 c0, .slice s1 n1 c1] w fun e w' => e = .returned (.bool true) ∧ Below w.heap.size w w' :=
  Ret.calls (c11 10000 s0 n0 c0 a0 s1 n1 c1 a1 w true q0 b0 r0.rdf q1 b1 r1.rdf (Go.Proofs.Ytbpldfhehpjbaaa.shapeWays a0 a1 o0))

set_option maxRecDepth 100000 in
theorem lifted (os : Os) (started : os.Started) (H : Type) (enc : TypeId × Value → H) :
    ReturnsInHanded {} Try.checked os 11 .any (Rows.shapeWaysSpec.pre6 enc Try.prog Try.f11 Rows.shapeWaysRow.domain false) (Rows.shapeWaysSpec.post enc Try.prog Try.f11 false true false false) := by
  refine returnsInHanded_of_change (C := Try.checked) own started (by kernel_rfl) Try.func11
    (ChangeSpec.witness6 (enc := enc) (C := Try.checked) false ⟨#[], #[.slice none 0 0, .slice none 0 0], []⟩ 8 (by kernel_rfl) (by kernel_rfl) (by kernel_rfl) (by kernel_rfl)) ?_
  intro W base args ds gs before hval0 hW hcnd _
  have hval : ∀ (j : Nat) t v, Try.f11.params[j]? = some t → args[j]? = some v → Value.okWide Try.prog W .any base t v := hval0
  have hW' := hW
  obtain ⟨p, q, hA0, hV, rfl, hfz, hnd⟩ := hW
  have hA : DataW.TrodAll enc Try.prog W 0 (fun _ => true) true Try.f11.params.toList args.toList ds p := hA0
  rw [Try.params11] at hA hval
  have hA1 := hA
  obtain ⟨v0, vs0, d0, ds0, p0, x0, hargs, rfl, rfl, h0, t0⟩ := trodAll_cons hA
  obtain ⟨v1, vs1, d1, ds1, p1, x1, rfl, rfl, rfl, h1, t1⟩ := trodAll_cons t0
  obtain ⟨rfl, rfl, rfl⟩ := trodAll_nil t1
  obtain rfl : args = #[v0, v1] := by cases args; simp_all
  obtain ⟨rfl, rfl⟩ := trodVars_none hV
  have hlt := fun x hx => hW'.lt x hx
  obtain ⟨s0, n0, c0, a0, rfl, q0, b0, r0, o0⟩ := open_row' (N := Instr.E) (Ok := OkI) Try.underlying24 (by kernel_rfl) dec_instr (hval 0 24 v0 rfl rfl) h0
  obtain ⟨s1, n1, c1, a1, rfl, q1, b1, r1, o1⟩ := open_row' (N := En.bool) (Ok := (fun _ => True)) Try.underlying41 (by kernel_rfl) (dec_bool Try.underlying4) (hval 1 41 v1 rfl rfl) h1
  refine (walk W s0 n0 c0 a0 q0 b0 r0 o0 s1 n1 c1 a1 q1 b1 r1 o1).mono fun e W' ⟨he, hg⟩ => ?_
  subst he
  refine ⟨_, rfl, post_below (pa := _) (pv := []) hW' (fun _ _ _ => (trodAll_cons_mk (shut_bool Try.underlying4 _) trodAll_mk0)) (fun sp hsp => ?_) (fun _ _ => rfl) rfl hg⟩
  exact TrodAll.stays laid hg (by kernel_rfl) hA1 (fun x hx => by simpa using hlt x (List.mem_append.2 (.inl hx))) (fun x hx => hsp x (List.mem_append.2 (.inl hx)))

theorem over : Rows.shapeWaysRow.holds Try.pinned (OpenSpec.ofChange Rows.shapeWaysSpec) :=
  OpenClaim.holds_of_wide 11 Try.f11 rfl rfl rfl rfl rfl rfl rfl ⟨rfl, rfl, rfl, rfl, rfl⟩ rfl rfl rfl rfl rfl (by kernel_rfl) Try.func11 (by kernel_rfl)
    (of_decide_eq_true (by kernel_rfl)) (by unfold Func.isWrapper; first | (rw [if_pos (by decide +kernel)]; kernel_rfl) | (rw [if_neg (by decide +kernel)]; exact ⟨rfl, rfl⟩))
    (fun os started H enc _ => lifted os started H enc)

/-- the statement -/
theorem proved : Rows.ShapeWaysSaid :=
  over
#print axioms proved
end Go.Proofs.Ytbpldfhehpjbaaa.shapeWays
