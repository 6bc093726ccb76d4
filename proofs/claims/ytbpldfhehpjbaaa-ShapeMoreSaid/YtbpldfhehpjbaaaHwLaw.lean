/- A law's arguments: what slices of structs read, and that they stay. -/
import Derived.Test.YtbpldfhehpjbaaaHwEnd
import Derived.Test.YtbpldfhehpjbaaaHwShare
import Derived.Carry
import Derived.ProofKit
import Derived.OpenShut
import Derived.KernelRfl
namespace Go.HW
open Go Go.RowKit Go.ChangeShapes
set_option linter.unusedVariables false

section
variable {H : Type} {enc : TypeId × Value → H} {P : Program} {W W' : World}

theorem TrodAll.stays (hl : laidOutB P = true) {sp : Nat → Bool} (hb : Below W.heap.size W W') : ∀ {ts : List TypeId} {vs : List Value} {ds : List (DataW H)} {ps : List MemPlace}, (ts.all fun t => P.readableRec t && decide (t < P.types.size)) = true →
    DataW.TrodAll enc P W 0 (fun _ => true) true ts vs ds ps → (∀ x ∈ ps, x.block < W.heap.size) → (∀ x ∈ ps, sp x.block = true) → DataW.TrodAll enc P W' 0 sp true ts vs ds ps
  | [], [], [], ps, _, h, _, _ => h
  | t :: ts, v :: vs, d :: ds, ps, hr, h, hlt, hs => by
    obtain ⟨p, q, h1, h2, rfl⟩ := h
    simp only [List.all_cons, Bool.and_eq_true, decide_eq_true_eq] at hr
    obtain ⟨⟨r1, r2⟩, r3⟩ := hr
    exact ⟨p, q, WideElems.Trod_stays hl r1 r2 h1 (fun x hx => hb.same (hlt x (by simp [hx]))) (fun x hx => hs x (by simp [hx])), TrodAll.stays hl hb (by simpa using r3) h2 (fun x hx => hlt x (by simp [hx])) (fun x hx => hs x (by simp [hx])), rfl⟩
  | [], [], _ :: _, _, _, h, _, _ => by simp [DataW.TrodAll] at h
  | [], _ :: _, _, _, _, h, _, _ => by simp [DataW.TrodAll] at h
  | _ :: _, [], _, _, _, h, _, _ => by simp [DataW.TrodAll] at h
  | _ :: _, _ :: _, [], _, _, h, _, _ => by simp [DataW.TrodAll] at h

theorem list_of {α : Type} {Q : Nat → α → Prop} : ∀ (n : Nat), (∀ i, i < n → ∃ x, Q i x) → ∃ xs : List α, xs.length = n ∧ ∀ i x, xs[i]? = some x → Q i x
  | 0, _ => ⟨[], rfl, fun i x h => by simp at h⟩
  | n + 1, h => by
    obtain ⟨xs, h1, h2⟩ := list_of n (fun i hi => h i (by omega))
    obtain ⟨y, hy⟩ := h n (by omega)
    refine ⟨xs ++ [y], by simp [h1], fun i x hx => ?_⟩
    rcases Nat.lt_or_ge i xs.length with hi | hi
    · rw [List.getElem?_append_left hi] at hx; exact h2 i x hx
    · rw [List.getElem?_append_right hi] at hx
      have h0 : i - xs.length = 0 := by
        cases hh : i - xs.length with
        | zero => rfl
        | succ j => rw [hh] at hx; simp at hx
      rw [h0] at hx; simp at hx; subst hx
      have : i = n := by omega
      subst this; exact hy

/-- what a slice argument reads -/
theorem open_row' {α : Type} {N : En α} {Ok : α → Prop} {t e : TypeId} {r : Reach} {b0 : Nat} {sp : Nat → Bool} {held : Bool} {v : Value} {d : DataW H} {ps : List MemPlace} (ht : P.underlying t = some (.slice e)) (hc : P.cellsOf e = N.sz)
    (hdec : ∀ (n : Nat) (cs : List Value) (y : DataW H × List MemPlace), DataW.trod enc P W 0 sp held n e cs = some y → ∃ x, cs = N.enc x ∧ Ok x)
    (hval : Value.okWide P W r b0 t v) (h : DataW.Trod enc P W 0 sp held t v d ps) : ∃ (a : Option Addr) (n cap : Nat) (xs : List α), v = .slice a n cap ∧ xs.length = n ∧ xs.length ≤ cap ∧ RdS N W a xs ∧ ∀ x ∈ xs, Ok x := by
  obtain ⟨a, n, cap, rfl⟩ := Go.WideShapes.okWide_slice ht hval
  obtain ⟨fuel, h⟩ := h
  have hcell : (Value.slice a n cap).cells.toList = [.slice a n cap] := rfl
  rw [hcell] at h
  rcases DataW.trod_slice ht h with ⟨h0, _⟩ | ⟨ad, len, cap', elems, rest, m, _, h1, _, hb, hl, hm, hlen, hel, _, _⟩
  · simp at h0
    obtain ⟨rfl, rfl, rfl⟩ := h0
    exact ⟨none, 0, 0, [], rfl, rfl, Nat.le_refl _, .nil _ _ _, fun x hx => by simp at hx⟩
  · simp at h1
    obtain ⟨rfl, rfl, rfl⟩ := h1
    have each : ∀ i, i < n → ∃ x, W.cells? 0 (ad.add (i * N.sz)) N.sz = some (N.enc x) ∧ Ok x := fun i hi => by
      have h2 := hel i hi
      rw [List.getElem?_eq_getElem (by omega), Option.bind_eq_some_iff] at h2
      obtain ⟨cs, h3, h4⟩ := h2
      obtain ⟨x, rfl, hx⟩ := hdec _ _ _ h4
      rw [hc] at h3
      exact ⟨x, h3, hx⟩
    obtain ⟨xs, x1, x2⟩ := list_of (Q := fun i x => W.cells? 0 (ad.add (i * N.sz)) N.sz = some (N.enc x) ∧ Ok x) n each
    refine ⟨some ad, n, cap, xs, rfl, x1, by omega, ⟨by omega, ?_⟩, fun x hx => ?_⟩
    · rcases Nat.eq_zero_or_pos n with h0 | h0
      · left; exact List.eq_nil_of_length_eq_zero (by omega)
      · right
        have hspot : ad.spot = none := by
          obtain ⟨x, hx⟩ : ∃ x, xs[0]? = some x := ⟨xs[0], List.getElem?_eq_getElem (by omega)⟩
          obtain ⟨_, _, h5⟩ := World.cells?_some (x2 0 x hx).1
          have := h5 0 N.pos
          rw [List.getElem?_eq_getElem (by rw [N.len]; exact N.pos)] at this
          have e0 : (ad.add (0 * N.sz)).add 0 = ad := by simp [Addr.add]
          rw [e0] at this
          cases hs : ad.spot with
          | none => rfl
          | some q =>
            unfold World.cell? at this
            split at this
            · rw [hs] at this; simp at this
            · cases this
        refine ⟨ad, rfl, hspot, fun k x hk j u hj => ?_⟩
        obtain ⟨_, _, h5⟩ := World.cells?_some (x2 k x hk).1
        have hjl : j < N.sz := by have := (List.getElem?_eq_some_iff.1 hj).1; rw [N.len] at this; exact this
        have := h5 j hjl
        rw [hj] at this
        have e1 : (ad.add (k * N.sz)).add j = ⟨ad.block, ad.off + (k * N.sz + j), none⟩ := by
          cases ad with | mk b o s => simp at hspot; subst hspot; simp [add_none, Nat.add_assoc]
        rw [e1] at this
        exact this
    · obtain ⟨i, hi, rfl⟩ := List.mem_iff_getElem.1 hx
      exact (x2 i _ (by rw [List.getElem?_eq_getElem hi])).2

theorem dec_bool {t : TypeId} (ht : P.underlying t = some .bool) {sp : Nat → Bool} {held : Bool} (n : Nat) (cs : List Value) (y : DataW H × List MemPlace) (h : DataW.trod enc P W 0 sp held n t cs = some y) : ∃ x, cs = En.bool.enc x ∧ True := by
  obtain ⟨b, rfl, _⟩ := DataW.trod_bool ht h
  exact ⟨b, rfl, trivial⟩

/-- one cell's part of a struct's cells -/
theorem field_int {fs : Array Field} {xs : List (DataW H × List MemPlace)} {n : Nat} {cs : List Value} {sp : Nat → Bool} {held : Bool} (hall : ∀ (i : Nat) (f : Field), fs[i]? = some f → DataW.trod enc P W 0 sp held n f.type ((cs.drop f.offset).take (P.cellsOf f.type)) = xs[i]?) (hx : xs.length = fs.size)
    {i o : Nat} {f : Field} {k : IntKind} (hf : fs[i]? = some f) (hu : P.underlying f.type = some (.int k)) (hc : P.cellsOf f.type = 1) (ho : f.offset = o) : ∃ m, cs[o]? = some (.int k m) ∧ (Lit.int k m).wf = true := by
  have h := hall i f hf
  have hi : i < fs.size := (Array.getElem?_eq_some_iff.1 hf).1
  rw [List.getElem?_eq_getElem (by omega)] at h
  obtain ⟨m, h1, _, h2⟩ := DataW.trod_int hu h
  refine ⟨m, ?_, h2⟩
  rw [hc, ho] at h1
  have := congrArg (fun l => l[0]?) h1
  simpa [List.getElem?_take, List.getElem?_drop] using this
end
end Go.HW
