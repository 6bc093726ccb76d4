/- Regions that draw their order, by what is done so far. -/
import Derived.Test.YtbpldfhehpjbaaaHwMap
namespace Go.HW
open Go Go.RowKit
set_option linter.unusedVariables false

/-- the region 'l', of which 'listed' is done, from the state (L, H) -/
def TD (c : Cx) (l : List Oper) (Q : Exit → Act → World → Prop) (fuel : Nat) (listed : List Bool) (L : Slots) (H : Hp) : Prop :=
  ∀ a w, Sat c L H a w → wpAnyIn (FW c.ro) 1 c.P .any l.toArray Q fuel listed.toArray a w

def bAt (l : List Bool) (i : Nat) : Bool := l.getD i false
/-- operation k is done, or among rs, or it waits -/
def stepB (l : List Oper) (listed : List Bool) (rs : List Nat) : Nat → List Oper → Bool
  | _, [] => true
  | k, o :: os => (bAt listed k || rs.any (Nat.beq k) || o.after.toList.any fun e => Region.binds .any e && !bAt listed e.on) && stepB l listed rs (k + 1) os

theorem stepB_spec {l : List Oper} {listed : List Bool} {rs : List Nat} : ∀ {k : Nat} {os : List Oper}, stepB l listed rs k os = true → ∀ (j : Nat) (o : Oper), os[j]? = some o →
    bAt listed (k + j) = true ∨ (k + j) ∈ rs ∨ ∃ e ∈ o.after, Region.binds .any e = true ∧ bAt listed e.on = false
  | k, [], h, j, o, hj => by simp at hj
  | k, x :: os, h, j, o, hj => by
    simp only [stepB, Bool.and_eq_true, Bool.or_eq_true] at h
    obtain ⟨h1, h2⟩ := h
    cases j with
    | zero =>
      simp at hj; subst hj
      rcases h1 with (h1 | h1) | h1
      · exact .inl h1
      · obtain ⟨i, hi, hb⟩ := List.any_eq_true.1 h1
        have := Nat.eq_of_beq_eq_true hb
        exact .inr (.inl (by simpa [this] using hi))
      · obtain ⟨e, he, hb⟩ := List.any_eq_true.1 h1
        simp at hb
        exact .inr (.inr ⟨e, by simpa using he, hb.1, hb.2⟩)
    | succ j =>
      have := stepB_spec h2 j o (by simpa using hj)
      rw [show k + (j + 1) = k + 1 + j from by omega]; exact this

def EdgeOk (c : Cx) (l : List Oper) (Q : Exit → Act → World → Prop) (fuel : Nat) (listed : List Bool) (L : Slots) (H : Hp) (i : Nat) : Prop :=
  ∃ o, l[i]? = some o ∧ TO c l.toArray (Exit.then (fun a w => wpAnyIn (FW c.ro) 1 c.P .any l.toArray Q fuel (listed.set i true).toArray a w) Q) [o] L H

section
variable {c : Cx} {l : List Oper} {Q : Exit → Act → World → Prop} {fuel : Nat} {listed : List Bool} {L : Slots} {H : Hp}

theorem EdgeOk.nil : ∀ i ∈ ([] : List Nat), EdgeOk c l Q fuel listed L H i := fun i h => by cases h
theorem EdgeOk.cons {i : Nat} {rs : List Nat} {o : Oper} (ho : l[i]? = some o) (h : TO c l.toArray (Exit.then (fun a w => wpAnyIn (FW c.ro) 1 c.P .any l.toArray Q fuel (listed.set i true).toArray a w) Q) [o] L H)
    (r : ∀ i ∈ rs, EdgeOk c l Q fuel listed L H i) : ∀ j ∈ i :: rs, EdgeOk c l Q fuel listed L H j := fun j hj => by
  cases hj with
  | head => exact ⟨o, ho, h⟩
  | tail _ hj => exact r j hj

theorem wpIn_mono_K {o : Oper} {a : Act} {w : World} {K : Act → World → Prop} (h : o.wpIn (FW c.ro) 1 c.P a w (Exit.then K Q .normal) (Exit.then K Q)) : o.wpIn (FW c.ro) 1 c.P a w K Q := by
  unfold Oper.wpIn at *
  refine ⟨h.1, ?_⟩
  have hh := h.2
  generalize (o.semAt (FW c.ro).round a.eval).run c.P w = r at *
  cases r with
  | ok x w' =>
    cases x <;> simp only [Oper.uponIn] at hh ⊢ <;>
      first
        | exact hh
        | exact ⟨hh.1, CallsIn.mono hh.2 (fun e w'' he => by cases e <;> exact he)⟩
        | exact ⟨hh.1, RoundIn.mono hh.2 (fun e w'' he => by cases e <;> exact he)⟩
  | halt x w' => cases x <;> simp only [Oper.uponIn] at hh ⊢ <;> exact hh

theorem TD.step (rs : List Nat) (i0 : Nat) {o0 : Oper} (hr : stepB l listed rs 0 l = true) (hl : listed.length = l.length) (h0 : bAt listed i0 = false) (ho : l[i0]? = some o0)
    (h0r : (o0.after.toList.all fun e => !Region.binds .any e || bAt listed e.on) = true)
    (h : ∀ i ∈ rs, EdgeOk c l Q fuel listed L H i) : TD c l Q (fuel + 1) listed L H := by
  intro a w s
  have hget : ∀ (k : Nat), listed.toArray.getD k false = bAt listed k := by intro k; by_cases hk : k < listed.length <;> simp [bAt, Array.getD, List.getD, hk]
  have hget' : ∀ (k : Nat), k < l.length → listed.toArray.getD k true = bAt listed k := by
    intro k hk
    have : k < listed.length := by omega
    simp [bAt, Array.getD, List.getD, this]
  refine ⟨fun he => ?_, fun i hi => ?_⟩
  · exfalso
    have hk : i0 < l.length := (List.getElem?_eq_some_iff.1 ho).1
    have : i0 ∈ Region.ready .any l.toArray listed.toArray := by
      refine mem_ready.2 ⟨by rw [hget' i0 hk]; exact h0, o0, by simpa using ho, fun e he hb => ?_⟩
      have := List.all_eq_true.1 h0r e (by simpa using he)
      simp [hb] at this
      rw [hget]; exact this
    rw [he] at this; cases this
  · obtain ⟨h1, o, h2, h3⟩ := mem_ready.1 hi
    have ho' : l[i]? = some o := by simpa using h2
    have hk : i < l.length := (List.getElem?_eq_some_iff.1 ho').1
    rw [hget' i hk] at h1
    have hin : i ∈ rs := by
      rcases stepB_spec hr i o ho' with h | h | ⟨e, he, hb, hf⟩
      · rw [Nat.zero_add] at h; rw [h] at h1; cases h1
      · rwa [Nat.zero_add] at h
      · have := h3 e he hb
        rw [hget, hf] at this; cases this
    obtain ⟨o', ho2, ht⟩ := h i hin
    rw [ho'] at ho2; cases ho2
    have := ht a w s
    unfold wpOpIn
    simp only [h2]
    unfold wpListIn at this
    have hset : listed.toArray.setIfInBounds i true = (listed.set i true).toArray := by simp
    rw [hset]
    split
    · rename_i hw
      rw [if_pos hw] at this
      exact wpIn_mono_K (c := c) this
    · rename_i hw
      rw [if_neg hw] at this
      exact this

theorem TD.done (hl : listed.length = l.length) (ha : listed.all (fun b => b) = true) (h : TE Q .normal c L H) : TD c l Q 0 listed L H := by
  intro a w s
  refine ⟨?_, h a w s⟩
  cases hr : Region.ready .any l.toArray listed.toArray with
  | nil => rfl
  | cons i r =>
    have hi : i ∈ Region.ready .any l.toArray listed.toArray := by rw [hr]; simp
    obtain ⟨h1, o, h2, h3⟩ := mem_ready.1 hi
    have hk : i < l.length := (List.getElem?_eq_some_iff.1 (by simpa using h2)).1
    have hk' : i < listed.length := by omega
    have : listed[i] = true := by simpa using List.all_eq_true.1 ha listed[i] (List.getElem_mem hk')
    simp [Array.getD, hk', this] at h1

theorem TE.td (h : TD c l Q fuel listed L H) : TE (Exit.then (fun a w => wpAnyIn (FW c.ro) 1 c.P .any l.toArray Q fuel listed.toArray a w) Q) .normal c L H := h

theorem TE.perm {e : Exit} {H H' : Hp} (hH : H'.all.Perm H.all) (h : TE Q e c L H') : TE Q e c L H := fun a w s => h a w (s.perm hH)
theorem TE.mvE {e : Exit} {E R E' : Blocks} {S : List Blocks} {p : Nat × Obj} (i j : Nat) (h1 : takeB E i = some (p, R)) (h2 : insB R j p = E') (h : TE Q e c L ⟨E', S⟩) : TE Q e c L ⟨E, S⟩ := by
  subst h2; exact TE.perm (Hp.perm_of ((insB_perm R j p).trans (takeB_perm h1)) (List.Perm.refl _)) h
theorem TE.mvS {e : Exit} {E : Blocks} {S R S' : List Blocks} {p : Blocks} (i j : Nat) (h1 : takeS1 S i = some (p, R)) (h2 : insB R j p = S') (h : TE Q e c L ⟨E, S'⟩) : TE Q e c L ⟨E, S⟩ := by
  subst h2; exact TE.perm (Hp.perm_of (List.Perm.refl _) ((insB_perm R j p).trans (takeS1_perm h1))) h

theorem TC.drawD {id : Nat} (hm : c.P.follows .mixedOrders = true) (h : ∀ T : Nat → List Bool → Slots → Hp → Prop, (∀ f ls L H, T f ls L H = TD c l Q f ls L H) → T l.length (List.replicate l.length false) L H) : TC c (.region id l.toArray true) Q L H := by
  intro a w s
  refine wpIn_region_any hm ?_
  have s1 : Sat c L H a { w with drawn := w.drawn + 1 } := ⟨s.size, s.defers, s.slots, ⟨s.ext.os, s.ext.tape, s.ext.output, s.ext.size, s.ext.same⟩, s.nodup, s.heap, s.own⟩
  have := h (TD c l Q) (fun _ _ _ _ => rfl) a _ s1
  simpa using this
end
end Go.HW
