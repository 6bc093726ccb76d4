/- Regions that draw their order: whatever only reads may come in any order; what must come behind all of it comes last. -/
import Derived.Test.YtbpldfhehpjbaaaHwBuild
import Derived.OrdersIn
namespace Go.HW
open Go Go.RowKit
set_option linter.unusedVariables false

/-- an operation that yields v in every state (L, H): it reads, or it calls what makes and writes nothing known -/
def QS (c : Cx) (o : Oper) (L : Slots) (H : Hp) (v : Value) : Prop := ∀ a w, Sat c L H a w → (execOp a.eval o).run c.P w = .ok (.value v) w ∨
  ∃ k args, (execOp a.eval o).run c.P w = .ok (.enter k (List.toArray args)) w ∧ Ret c.P k args w Hp.nil fun v' R' => v' = v ∧ R' = Hp.nil

theorem QV.s {c : Cx} {o : Oper} {L : Slots} {H : Hp} {v : Value} (h : QV c o L H v) : QS c o L H v := fun a w s => .inl (h a w s)

theorem QS.callP {c : Cx} {L : Slots} {H : Hp} {d : Option Tmp} {k : FuncId} {vs : List Value} {args : List Operand} {ats : Array TypeId} {v : Value} {T : TypeId} {pos : String} {af : Array Edge} {g : Option (Nat × Bool)}
    (hk : ∀ (args : Array Value) (w : World), (callFunc k args).run c.P w = .ok (.enter k args) w) (ha : evs L args = some vs)
    (hc : ∀ a w, Sat c L H a w → Ret c.P k vs w Hp.nil fun v' R' => v' = v ∧ R' = Hp.nil) : QS c ⟨d, .call ⟨.value (.func k), args.toArray, ats⟩, T, pos, af, g⟩ L H v := fun a w s =>
  .inr ⟨k, vs, by simp [execOp, resolve, Deferred.ofValue, invoke, s.evals ha, hk, Act.eval], hc a w s⟩

inductive LkOk (ops : Array Oper) (L0 : Slots) (V : Nat → Value) (o : Oper) : Slots → Prop
  | nil : LkOk ops L0 V o []
  | old {t : Nat} {u : Value} {Lk : Slots} (h : look L0 t = some u) (r : LkOk ops L0 V o Lk) : LkOk ops L0 V o ((t, u) :: Lk)
  | dat {t : Nat} {u : Value} {Lk : Slots} (j : Nat) (he : (o.after.toList.any fun e => Region.binds .any e && Nat.beq e.on j) = true) (hd : (ops[j]?).bind (·.dst) = some t) (hv : V j = u) (r : LkOk ops L0 V o Lk) :
      LkOk ops L0 V o ((t, u) :: Lk)

/-- one operation of the head -/
def QOne (c : Cx) (ops : Array Oper) (L0 : Slots) (H : Hp) (V : Nat → Value) (i : Nat) (o : Oper) : Prop :=
  ∃ Lk, LkOk ops L0 V o Lk ∧ notDefer o.op = true ∧
    ((o.guard = none ∧ QS c o Lk H (V i)) ∨
     (∃ j d b, o.guard = some (j, b) ∧ (ops[j]?).bind (·.dst) = some d ∧ look Lk d = some (.bool b) ∧ QS c o Lk H (V i)) ∨
     (∃ j d b, o.guard = some (j, b) ∧ (ops[j]?).bind (·.dst) = some d ∧ (look Lk d = some undef ∨ ∃ b', look Lk d = some (.bool b') ∧ (b' == b) = false) ∧ V i = undef))

def QAll (c : Cx) (ops : Array Oper) (L0 : Slots) (H : Hp) (V : Nat → Value) (k : Nat) (l : List Oper) : Prop := ∀ (j : Nat) (o : Oper), l[j]? = some o → QOne c ops L0 H V (k + j) o

section
variable {c : Cx} {ops : Array Oper} {L0 : Slots} {H : Hp} {V : Nat → Value} {k : Nat} {o : Oper} {l : List Oper}
theorem QAll.nil : QAll c ops L0 H V k [] := fun j o h => by simp at h
theorem QAll.cons (h : QOne c ops L0 H V k o) (r : QAll c ops L0 H V (k + 1) l) : QAll c ops L0 H V k (o :: l) := by
  intro j o' hj
  cases j with
  | zero => simp at hj; subst hj; exact h
  | succ j => simp at hj; have := r j o' hj; rw [show k + (j + 1) = k + 1 + j from by omega]; exact this
theorem QAll.u {v : Value} (Lk : Slots) (hl : LkOk ops L0 V o Lk) (hn : notDefer o.op = true) (hg : o.guard = none) (hq : QS c o Lk H v) (hv : V k = v) (r : QAll c ops L0 H V (k + 1) l) : QAll c ops L0 H V k (o :: l) :=
  .cons ⟨Lk, hl, hn, .inl ⟨hg, hv ▸ hq⟩⟩ r
theorem QAll.g {v : Value} {j d : Nat} {b : Bool} (Lk : Slots) (hl : LkOk ops L0 V o Lk) (hn : notDefer o.op = true) (hg : o.guard = some (j, b)) (hj : (ops[j]?).bind (·.dst) = some d) (hb : look Lk d = some (.bool b)) (hq : QS c o Lk H v)
    (hv : V k = v) (r : QAll c ops L0 H V (k + 1) l) : QAll c ops L0 H V k (o :: l) :=
  .cons ⟨Lk, hl, hn, .inr (.inl ⟨j, d, b, hg, hj, hb, hv ▸ hq⟩)⟩ r
theorem QAll.s {j d : Nat} {b b' : Bool} (Lk : Slots) (hl : LkOk ops L0 V o Lk) (hn : notDefer o.op = true) (hg : o.guard = some (j, b)) (hj : (ops[j]?).bind (·.dst) = some d) (hb : look Lk d = some (.bool b')) (hbb : (b' == b) = false)
    (hv : V k = undef) (r : QAll c ops L0 H V (k + 1) l) : QAll c ops L0 H V k (o :: l) :=
  .cons ⟨Lk, hl, hn, .inr (.inr ⟨j, d, b, hg, hj, .inr ⟨b', hb, hbb⟩, hv⟩)⟩ r
theorem QAll.su {j d : Nat} {b : Bool} (Lk : Slots) (hl : LkOk ops L0 V o Lk) (hn : notDefer o.op = true) (hg : o.guard = some (j, b)) (hj : (ops[j]?).bind (·.dst) = some d) (hb : look Lk d = some undef)
    (hv : V k = undef) (r : QAll c ops L0 H V (k + 1) l) : QAll c ops L0 H V k (o :: l) :=
  .cons ⟨Lk, hl, hn, .inr (.inr ⟨j, d, b, hg, hj, .inl hb, hv⟩)⟩ r
end

/-- no slot of the head's is one of L0, none is written twice -/
def dstB (L0 : Slots) : List Oper → List Nat → Bool
  | [], _ => true
  | o :: l, seen => match o.dst with
    | none => dstB L0 l seen
    | some d => bif hasKey L0 d then false else bif seen.any (Nat.beq d) then false else dstB L0 l (d :: seen)

theorem dstB_spec {L0 : Slots} : ∀ {l : List Oper} {seen : List Nat}, dstB L0 l seen = true → (∀ (j : Nat) (o : Oper) (d : Nat), l[j]? = some o → o.dst = some d → hasKey L0 d = false ∧ d ∉ seen) ∧
    (∀ (i j : Nat) (o o' : Oper) (d : Nat), l[i]? = some o → l[j]? = some o' → o.dst = some d → o'.dst = some d → i = j)
  | [], seen, h => ⟨fun j o d hj => by simp at hj, fun i j o o' d hj => by simp at hj⟩
  | x :: l, seen, h => by
    simp only [dstB] at h
    cases hx : x.dst with
    | none =>
      rw [hx] at h
      obtain ⟨h1, h2⟩ := dstB_spec h
      refine ⟨fun j o d hj hd => ?_, fun i j o o' d hi hj ho ho' => ?_⟩
      · cases j with
        | zero => simp at hj; subst hj; rw [hx] at hd; cases hd
        | succ j => exact h1 j o d (by simpa using hj) hd
      · cases i with
        | zero => simp at hi; subst hi; rw [hx] at ho; cases ho
        | succ i => cases j with
          | zero => simp at hj; subst hj; rw [hx] at ho'; cases ho'
          | succ j => have := h2 i j o o' d (by simpa using hi) (by simpa using hj) ho ho'; omega
    | some e =>
      rw [hx] at h
      simp only at h
      cases hk : hasKey L0 e with
      | true => rw [hk] at h; cases h
      | false =>
        rw [hk] at h
        cases hs : seen.any (Nat.beq e) with
        | true => rw [hs] at h; cases h
        | false =>
          rw [hs] at h
          obtain ⟨h1, h2⟩ := dstB_spec h
          have hs' : e ∉ seen := fun hm => by
            have : seen.any (Nat.beq e) = true := List.any_eq_true.2 ⟨e, hm, by simp⟩
            rw [this] at hs; cases hs
          refine ⟨fun j o d hj hd => ?_, fun i j o o' d hi hj ho ho' => ?_⟩
          · cases j with
            | zero => simp at hj; subst hj; rw [hx] at hd; cases hd; exact ⟨hk, hs'⟩
            | succ j => obtain ⟨k1, k2⟩ := h1 j o d (by simpa using hj) hd; exact ⟨k1, fun hm => k2 (List.mem_cons_of_mem _ hm)⟩
          · cases i with
            | zero => cases j with
              | zero => rfl
              | succ j =>
                simp at hi; subst hi; rw [hx] at ho; cases ho
                exact absurd (List.mem_cons_self) (h1 j o' e (by simpa using hj) ho').2
            | succ i => cases j with
              | zero =>
                simp at hj; subst hj; rw [hx] at ho'; cases ho'
                exact absurd (List.mem_cons_self) (h1 i o e (by simpa using hi) ho).2
              | succ j => have := h2 i j o o' d (by simpa using hi) (by simpa using hj) ho ho'; omega

/-- binding edges lead back; an operation behind the n-th waits for the one ahead of it; the n-th waits, by others too, for all ahead of it -/
def onsOf (o : Oper) : List Nat := (o.after.toList.filter (fun e => Region.binds .any e)).map (·.on)
theorem onsOf_mem {o : Oper} {j : Nat} : j ∈ onsOf o ↔ ∃ e ∈ o.after, Region.binds .any e = true ∧ e.on = j := by
  simp only [onsOf, List.mem_map, List.mem_filter, Array.mem_toList_iff]
  constructor
  · rintro ⟨e, ⟨h1, h2⟩, h3⟩; exact ⟨e, h1, h2, h3⟩
  · rintro ⟨e, h1, h2, h3⟩; exact ⟨e, ⟨h1, h2⟩, h3⟩
def edgeK (n : Nat) : List Oper → Nat → Bool
  | [], _ => true
  | o :: l, k => ((onsOf o).all fun j => Nat.blt j k) && (Nat.ble k n || (onsOf o).any fun j => Nat.beq (j + 1) k) && edgeK n l (k + 1)
def edgeT (n : Nat) (l : List Oper) : Bool := edgeK n l 0 && (Nat.ble l.length n || (List.range n).all fun j => ((takeO (n + 1) l).flatMap onsOf).any fun i => Nat.beq i j)

theorem edgeK_spec {n : Nat} : ∀ {l : List Oper} {k : Nat}, edgeK n l k = true → ∀ (j : Nat) (o : Oper), l[j]? = some o → (∀ e ∈ o.after, Region.binds .any e = true → e.on < k + j) ∧
    (n < k + j → ∃ e ∈ o.after, Region.binds .any e = true ∧ e.on + 1 = k + j)
  | [], k, h, j, o, hj => by simp at hj
  | x :: l, k, h, j, o, hj => by
    simp only [edgeK, Bool.and_eq_true, Bool.or_eq_true, List.all_eq_true, List.any_eq_true] at h
    obtain ⟨⟨h1, h2⟩, h3⟩ := h
    cases j with
    | zero =>
      simp at hj; subst hj
      refine ⟨fun e he hb => ?_, fun hn => ?_⟩
      · have := h1 e.on (onsOf_mem.2 ⟨e, he, hb, rfl⟩)
        simpa [Nat.blt_eq] using this
      · rcases h2 with h2 | ⟨i, hi, hb⟩
        · have := Nat.le_of_ble_eq_true h2; omega
        · obtain ⟨e, he, hb', rfl⟩ := onsOf_mem.1 hi
          exact ⟨e, he, hb', by have := Nat.eq_of_beq_eq_true hb; omega⟩
    | succ j =>
      have := edgeK_spec h3 j o (by simpa using hj)
      rw [show k + (j + 1) = k + 1 + j from by omega]; exact this

theorem takeO_eq : ∀ (n : Nat) (l : List Oper), takeO n l = l.take n
  | 0, l => by cases l <;> rfl
  | n + 1, [] => rfl
  | n + 1, x :: l => by simp [takeO, takeO_eq n l]

theorem edgeT_spec {n : Nat} {l : List Oper} (h : edgeT n l = true) : (∀ (j : Nat) (o : Oper), l[j]? = some o → ∀ e ∈ o.after, Region.binds .any e = true → e.on < j) ∧
    (∀ (j : Nat) (o : Oper), l[j]? = some o → n < j → ∃ e ∈ o.after, Region.binds .any e = true ∧ e.on + 1 = j) ∧
    (n < l.length → ∀ j, j < n → ∃ i o, j < i ∧ i ≤ n ∧ l[i]? = some o ∧ ∃ e ∈ o.after, Region.binds .any e = true ∧ e.on = j) := by
  simp only [edgeT, Bool.and_eq_true, Bool.or_eq_true, List.all_eq_true, List.any_eq_true] at h
  obtain ⟨h1, h2⟩ := h
  have hk := edgeK_spec h1
  simp only [Nat.zero_add] at hk
  refine ⟨fun j o hj => (hk j o hj).1, fun j o hj => (hk j o hj).2, fun hn j hj => ?_⟩
  rcases h2 with h2 | h2
  · have := Nat.le_of_ble_eq_true h2; omega
  · obtain ⟨q, hq, hb⟩ := h2 j (by simpa using hj)
    have := Nat.eq_of_beq_eq_true hb; subst this
    rw [takeO_eq] at hq
    obtain ⟨o, ho, hq⟩ := List.mem_flatMap.1 hq
    obtain ⟨i, hi, hio⟩ := List.mem_take_iff_getElem.1 ho
    obtain ⟨e, he, hb, heq⟩ := onsOf_mem.1 hq
    have hl : l[i]? = some o := by rw [List.getElem?_eq_some_iff]; exact ⟨by omega, hio⟩
    exact ⟨i, o, by have := (hk i o hl).1 e he hb; omega, by omega, hl, e, he, hb, heq⟩

def Clo (l : List Oper) (listed : Array Bool) : Prop := ∀ (k : Nat) (o : Oper), l[k]? = some o → listed.getD k false = true → ∀ e ∈ o.after, Region.binds .any e = true → listed.getD e.on false = true

section
variable {c : Cx} {Q : Exit → Act → World → Prop} {L0 : Slots} {H : Hp} {V : Nat → Value} {l : List Oper} {n : Nat}

def JSat (c : Cx) (l : List Oper) (L0 : Slots) (H : Hp) (V : Nat → Value) (n : Nat) (listed : Array Bool) (a : Act) (w : World) : Prop :=
  Sat c L0 H a w ∧ ∀ (k : Nat) (o : Oper) (d : Nat), k < n → listed.getD k false = true → l[k]? = some o → o.dst = some d → a.tmps.getD d undef = V k

theorem JSat.sub {listed : Array Bool} {a : Act} {w : World} (J : JSat c l L0 H V n listed a w) (hn : n ≤ l.length) {o : Oper} {i : Nat} (hpre : ∀ e ∈ o.after, Region.binds .any e = true → e.on < n ∧ listed.getD e.on false = true) :
    ∀ {Lk : Slots}, LkOk l.toArray L0 V o Lk → Sat c Lk H a w
  | _, .nil => ⟨J.1.size, J.1.defers, fun t v h => by simp [look] at h, J.1.ext, J.1.nodup, J.1.heap, J.1.own⟩
  | _, @LkOk.old _ _ _ _ t u Lk h r => by
    have ih := JSat.sub J hn hpre (i := i) r
    refine ⟨J.1.size, J.1.defers, fun t' v hl => ?_, J.1.ext, J.1.nodup, J.1.heap, J.1.own⟩
    simp only [look] at hl
    cases hb : Nat.beq t t' with
    | true => rw [hb] at hl; have := Nat.eq_of_beq_eq_true hb; subst this; cases hl; exact J.1.slots t u h
    | false => rw [hb] at hl; exact ih.slots t' v hl
  | _, @LkOk.dat _ _ _ _ t u Lk j he hd hv r => by
    have ih := JSat.sub J hn hpre (i := i) r
    refine ⟨J.1.size, J.1.defers, fun t' v hl => ?_, J.1.ext, J.1.nodup, J.1.heap, J.1.own⟩
    simp only [look] at hl
    cases hb : Nat.beq t t' with
    | true =>
      rw [hb] at hl; have := Nat.eq_of_beq_eq_true hb; subst this; cases hl
      obtain ⟨e, hem, hb⟩ := List.any_eq_true.1 he
      simp at hb
      obtain ⟨h1, h2⟩ := hpre e (by simpa using hem) hb.1
      rw [hb.2] at h1 h2
      cases hj : l[j]? with
      | none => simp [hj] at hd
      | some oj =>
        simp [hj] at hd
        rw [J.2 j oj t h1 h2 hj hd, hv]
    | false => rw [hb] at hl; exact ih.slots t' v hl

theorem getD_set_self {listed : Array Bool} {i : Nat} (h : i < listed.size) : (listed.setIfInBounds i true).getD i false = true := by simp [Array.getD, h]

theorem draw_any (hn : n ≤ l.length) (hq : QAll c l.toArray L0 H V 0 (l.take n)) (he : edgeT n l = true) (hd : dstB L0 (l.take n) [] = true) (hokd : ∀ (k : Nat) (o : Oper) (d : Nat), k < n → l[k]? = some o → o.dst = some d → d < c.n)
    (hfin : ∀ a w, (∀ listed : Array Bool, (∀ k, k < n → listed.getD k false = true) → JSat c l L0 H V n listed a w → wpListIn (FW c.ro) 1 c.P l.toArray Q (l.drop n) a w)) :
    ∀ (fuel : Nat) (listed : Array Bool) (a : Act) (w : World), listed.size = l.length →
      ((∃ k, k < n ∧ listed.getD k false = false) ∧ (∀ k, n ≤ k → k < l.length → listed.getD k false = false) ∧ Clo l listed ∧ JSat c l L0 H V n listed a w ∨
       ∃ m, n ≤ m ∧ m ≤ l.length ∧ (∀ k, k < m → listed.getD k false = true) ∧ (∀ k, m ≤ k → k < l.length → listed.getD k false = false) ∧ wpListIn (FW c.ro) 1 c.P l.toArray Q (l.drop m) a w) →
      ((List.range l.length).filter fun k => !listed.getD k false).length ≤ fuel → wpAnyIn (FW c.ro) 1 c.P .any l.toArray Q fuel listed a w := by
  -- what is ready
  have hready : ∀ (listed : Array Bool) (i : Nat), i ∈ Region.ready .any l.toArray listed → ∃ o, l[i]? = some o ∧ listed.getD i true = false ∧ ∀ e ∈ o.after, Region.binds .any e = true → listed.getD e.on false = true := by
    intro listed i hi
    obtain ⟨h1, o, h2, h3⟩ := mem_ready.1 hi
    exact ⟨o, by simpa using h2, h1, h3⟩
  have hleast : ∀ (listed : Array Bool) (m : Nat), listed.size = l.length → m < l.length → (∀ k, k < m → listed.getD k false = true) → listed.getD m false = false → m ∈ Region.ready .any l.toArray listed := by
    intro listed m hs hm hall hun
    have ho : l[m]? = some l[m] := by simp [hm]
    refine mem_ready.2 ⟨by simpa [Array.getD, hs, hm] using hun, l[m], by simp [hm], fun e hem hb => ?_⟩
    have := (edgeT_spec he).1 m l[m] ho e hem hb
    exact hall e.on (by omega)
  have htail : ∀ (listed : Array Bool) (m i : Nat), listed.size = l.length → n ≤ m → (∀ k, k < m → listed.getD k false = true) → (∀ k, m ≤ k → k < l.length → listed.getD k false = false) → i ∈ Region.ready .any l.toArray listed → i = m := by
    intro listed m i hs hnm hall hun hi
    obtain ⟨o, ho, h1, h2⟩ := hready listed i hi
    have hil : i < l.length := (List.getElem?_eq_some_iff.1 ho).1
    rcases Nat.lt_trichotomy i m with h | h | h
    · have := hall i h; simp [Array.getD, hs, hil] at this h1; rw [this] at h1; cases h1
    · exact h
    · obtain ⟨e, hem, hb, heq⟩ := (edgeT_spec he).2.1 i o ho (by omega)
      have := h2 e hem hb
      rw [hun e.on (by omega) (by omega)] at this; cases this
  have hcount : ∀ (listed : Array Bool) (i fuel : Nat), listed.size = l.length → i < l.length → listed.getD i false = false →
      ((List.range l.length).filter fun k => !listed.getD k false).length ≤ fuel + 1 → ((List.range l.length).filter fun k => !(listed.setIfInBounds i true).getD k false).length ≤ fuel := by
    intro listed i fuel hs hi hun hle
    have hsub : ((List.range l.length).filter fun k => !(listed.setIfInBounds i true).getD k false) = (((List.range l.length).filter fun k => !listed.getD k false).filter (· != i)) := by
      rw [List.filter_filter]
      apply List.filter_congr
      intro k hk
      have hk' : k < l.length := by simpa using hk
      by_cases h : k = i
      · subst h; simp [Array.getD, hs, hk']
      · simp [Array.getD, hs, hk', h, Ne.symm h]
    rw [hsub]
    have hmem : i ∈ (List.range l.length).filter fun k => !listed.getD k false := by simp [hi]; simpa using hun
    have hlt : (((List.range l.length).filter fun k => !listed.getD k false).filter (· != i)).length < ((List.range l.length).filter fun k => !listed.getD k false).length := by
      have h1 : (((List.range l.length).filter fun k => !listed.getD k false).filter (· != i)).length ≤ _ := List.length_filter_le _ _
      rcases Nat.lt_or_ge (((List.range l.length).filter fun k => !listed.getD k false).filter (· != i)).length ((List.range l.length).filter fun k => !listed.getD k false).length with h | h
      · exact h
      · have heq : (((List.range l.length).filter fun k => !listed.getD k false).filter (· != i)).length = ((List.range l.length).filter fun k => !listed.getD k false).length := Nat.le_antisymm h1 h
        have := List.length_filter_eq_length_iff.1 heq i hmem
        simp at this
    omega
  have hset : ∀ (listed : Array Bool) (i k : Nat), listed.size = l.length → k < l.length → (listed.setIfInBounds i true).getD k false = if k = i then true else listed.getD k false := by
    intro listed i k hs hk
    by_cases h : k = i
    · subst h; simp [Array.getD, hs, hk]
    · rw [if_neg h]; simp [Array.getD, hs, hk, Ne.symm h]
  intro fuel
  induction fuel with
  | zero =>
    intro listed a w hs hst hf
    have hnone : ∀ k, k < l.length → listed.getD k false = true := by
      intro k hk
      cases hh : listed.getD k false with
      | true => rfl
      | false =>
        have : k ∈ (List.range l.length).filter fun k => !listed.getD k false := by simp [hk]; simpa using hh
        have h0 : ((List.range l.length).filter fun k => !listed.getD k false) = [] := List.eq_nil_of_length_eq_zero (by omega)
        rw [h0] at this; cases this
    rcases hst with ⟨⟨k, hk, hun⟩, _⟩ | ⟨m, hnm, hml, hall, hun, hw⟩
    · rw [hnone k (by omega)] at hun; cases hun
    · have hm : m = l.length := by
        rcases Nat.lt_or_ge m l.length with h | h
        · have := hun m (Nat.le_refl _) h; rw [hnone m h] at this; cases this
        · omega
      subst hm
      refine ⟨?_, by simpa [wpListIn] using hw⟩
      cases hr : Region.ready .any l.toArray listed with
      | nil => rfl
      | cons i r =>
        obtain ⟨o, ho, h1, _⟩ := hready listed i (by rw [hr]; simp)
        have hil : i < l.length := (List.getElem?_eq_some_iff.1 ho).1
        have := hnone i hil
        simp [Array.getD, hs, hil] at this h1; rw [this] at h1; cases h1
  | succ fuel ih =>
    intro listed a w hs hst hf
    rcases hst with ⟨⟨k0, hk0, hun0⟩, htl, hclo, J⟩ | ⟨m, hnm, hml, hall, hun, hw⟩
    · refine ⟨fun h0 => ?_, fun i hi => ?_⟩
      · exfalso
        -- the least one that is not listed is ready
        have : ∃ m, m < n ∧ (∀ k, k < m → listed.getD k false = true) ∧ listed.getD m false = false := by
          have key : ∀ k, k < n → listed.getD k false = false → ∃ m, m < n ∧ (∀ k, k < m → listed.getD k false = true) ∧ listed.getD m false = false := by
            intro k
            induction k using Nat.strongRecOn with
            | _ k ihk =>
              intro hk hu
              by_cases hex : ∃ j, j < k ∧ listed.getD j false = false
              · obtain ⟨j, hj, hju⟩ := hex
                exact ihk j hj (by omega) hju
              · refine ⟨k, hk, fun j hj => ?_, hu⟩
                cases hh : listed.getD j false with
                | true => rfl
                | false => exact absurd ⟨j, hj, hh⟩ hex
          exact key k0 hk0 hun0
        obtain ⟨m, hm, hall, hu⟩ := this
        have := hleast listed m hs (by omega) hall hu
        rw [h0] at this; cases this
      · obtain ⟨o, ho, h1, h2⟩ := hready listed i hi
        have hil : i < l.length := (List.getElem?_eq_some_iff.1 ho).1
        have h1' : listed.getD i false = false := by simpa [Array.getD, hs, hil] using h1
        have hin : i < n := by
          rcases Nat.lt_or_ge i n with h | h
          · exact h
          · rcases Nat.lt_or_eq_of_le h with h | h
            · obtain ⟨e, hem, hb, heq⟩ := (edgeT_spec he).2.1 i o ho h
              have := h2 e hem hb
              rw [htl e.on (by omega) (by omega)] at this; cases this
            · subst h
              have key : ∀ d j, j + d = n → j < n → listed.getD j false = true := by
                intro d
                induction d using Nat.strongRecOn with
                | _ d ihd =>
                  intro j hjd hjn
                  obtain ⟨i, oi, h3, h4, h5, e, h6, h7, h8⟩ := (edgeT_spec he).2.2 hil j hjn
                  rw [← h8]
                  rcases Nat.lt_or_eq_of_le h4 with h4 | h4
                  · exact hclo i oi h5 (ihd (n - i) (by omega) i (by omega) h4) e h6 h7
                  · subst h4; rw [ho] at h5; cases h5; exact h2 e h6 h7
              rw [key (n - k0) k0 (by omega) hk0] at hun0; cases hun0
        have hpre : ∀ e ∈ o.after, Region.binds .any e = true → e.on < n ∧ listed.getD e.on false = true := fun e hem hb => by
          have := (edgeT_spec he).1 i o ho e hem hb
          exact ⟨by omega, h2 e hem hb⟩
        obtain ⟨Lk, hLk, hnd, hcase⟩ := hq i o (by rw [List.getElem?_take, if_pos hin]; exact ho)
        simp only [Nat.zero_add] at hcase
        have sk := J.sub hn (i := i) hpre hLk
        -- the state behind it
        have next : ∀ w', Sat c L0 H a w' → wpAnyIn (FW c.ro) 1 c.P .any l.toArray Q fuel (listed.setIfInBounds i true) (a.put o.dst (V i)) w' := by
          intro w' s'
          have hJ : JSat c l L0 H V n (listed.setIfInBounds i true) (a.put o.dst (V i)) w' := by
            obtain ⟨d1, d2⟩ := dstB_spec hd
            have hoi : (l.take n)[i]? = some o := by rw [List.getElem?_take, if_pos hin]; exact ho
            constructor
            · cases hdst : o.dst with
              | none => exact s'
              | some d =>
                have hd' : d < c.n := hokd i o d hin ho hdst
                have hs1 := Sat.put (dst := some d) s' (by simpa [okD, Nat.blt_eq] using hd') (V i)
                refine hs1.weak (fun t v hl => ?_) (List.Sublist.refl _)
                simp only [putS, look]
                cases hb : Nat.beq d t with
                | true =>
                  have := Nat.eq_of_beq_eq_true hb
                  subst this
                  rw [hasKey_look (d1 i o d hoi hdst).1] at hl; cases hl
                | false => exact hl
            · intro k o' d hk hlk ho' hd'
              by_cases hki : k = i
              · subst hki
                rw [ho] at ho'; cases ho'
                have hdn : d < c.n := hokd k o d hk ho hd'
                simp only [hd', Act.put]
                have : d < a.tmps.size := by rw [s'.size]; exact hdn
                simp [Array.getD, this]
              · rw [hset listed i k hs (by omega), if_neg hki] at hlk
                have hold := J.2 k o' d hk hlk ho' hd'
                rw [← hold]
                cases hdst : o.dst with
                | none => rfl
                | some d2' =>
                  have hne : d2' ≠ d := fun e => by
                    subst e
                    exact hki (d2 k i o' o d2' (by rw [List.getElem?_take, if_pos hk]; exact ho') hoi hd' hdst)
                  show (a.tmps.setIfInBounds d2' (V i)).getD d undef = a.tmps.getD d undef
                  simp only [Array.getD, Array.size_setIfInBounds]
                  split
                  · rename_i hlt; exact Array.getElem_setIfInBounds_ne hlt hne
                  · rfl
          refine ih _ _ _ (by simpa using hs) ?_ (hcount listed i fuel hs hil h1' hf)
          have hclo' : Clo l (listed.setIfInBounds i true) := by
            intro k o' ho' hlk e hem hb
            have hkl : k < l.length := (List.getElem?_eq_some_iff.1 ho').1
            have hlt : e.on < k := (edgeT_spec he).1 k o' ho' e hem hb
            rw [hset listed i _ hs (by omega)]
            split
            · rfl
            · rw [hset listed i k hs hkl] at hlk
              by_cases hki : k = i
              · subst hki; rw [ho] at ho'; cases ho'; exact h2 e hem hb
              · rw [if_neg hki] at hlk; exact hclo k o' ho' hlk e hem hb
          by_cases hex : ∃ k, k < n ∧ (listed.setIfInBounds i true).getD k false = false
          · refine .inl ⟨hex, fun k hk hkl => ?_, hclo', hJ⟩
            rw [hset listed i k hs hkl, if_neg (by omega)]; exact htl k hk hkl
          · have hall : ∀ k, k < n → (listed.setIfInBounds i true).getD k false = true := fun k hk => by
              cases hh : (listed.setIfInBounds i true).getD k false with
              | true => rfl
              | false => exact absurd ⟨k, hk, hh⟩ hex
            refine .inr ⟨n, Nat.le_refl _, hn, hall, fun k hk hkl => ?_, hfin _ _ _ hall hJ⟩
            rw [hset listed i k hs hkl, if_neg (by omega)]; exact htl k hk hkl
        unfold wpOpIn
        simp only [List.getElem?_toArray, ho]
        have go : ∀ (hw : Region.wanted o (yielded l.toArray a.tmps) = true) (hqs : QS c o Lk H (V i)),
            (if Region.wanted o (yielded l.toArray a.tmps) then o.wpIn (FW c.ro) 1 c.P a w (wpAnyIn (FW c.ro) 1 c.P .any l.toArray Q fuel (listed.setIfInBounds i true)) Q
             else (∀ f, o.about c.P w a.eval = some f → (FW c.ro).fn f) ∧ wpAnyIn (FW c.ro) 1 c.P .any l.toArray Q fuel (listed.setIfInBounds i true) (a.put o.dst undef) w) := by
          intro hw hqs
          rw [if_pos hw]
          refine wpIn_of hnd ?_
          rcases hqs a w sk with hr | ⟨k, args, hr, hret⟩
          · rw [hr]; exact next w J.1
          · rw [hr]
            refine ⟨fun h => by simp [FW] at h, ?_⟩
            refine callsIn_FW (Calls.mono hret ?_)
            rintro e w' ⟨v, R', rfl, heff, hv, hR⟩
            subst hv; subst hR
            have := Sat.eff (R := Hp.nil) (R' := Hp.nil) (H := H) J.1 heff
            exact next w' this
        rcases hcase with ⟨hg, hqs⟩ | ⟨j, d, b, hg, hj, hlb, hqs⟩ | ⟨j, d, b, hg, hj, hlb, hvu⟩
        · exact go (by simp [Region.wanted, hg]) hqs
        · exact go (by simp [Region.wanted, hg, yielded_of (ops := l.toArray) sk hj hlb]) hqs
        · have hw : Region.wanted o (yielded l.toArray a.tmps) = false := by
            rcases hlb with h | ⟨b', h, hb'⟩
            · simp [Region.wanted, hg, yielded_undef (ops := l.toArray) sk hj h]
            · simp [Region.wanted, hg, yielded_of (ops := l.toArray) sk hj h]; simpa using hb'
          rw [if_neg (by rw [hw]; simp)]
          refine ⟨fun _ _ => trivial, ?_⟩
          have := next w J.1
          rw [hvu] at this; exact this
    · -- the tail
      rcases Nat.lt_or_ge m l.length with hm | hm
      · have hmr := hleast listed m hs hm hall (hun m (Nat.le_refl _) hm)
        refine ⟨fun h0 => (by rw [h0] at hmr; cases hmr), fun i hi => ?_⟩
        have him := htail listed m i hs hnm hall hun hi
        subst him
        have ho : l[i]? = some l[i] := by simp [hm]
        rw [List.drop_eq_getElem_cons hm] at hw
        have hcont : ∀ a' w', wpListIn (FW c.ro) 1 c.P l.toArray Q (l.drop (i + 1)) a' w' → wpAnyIn (FW c.ro) 1 c.P .any l.toArray Q fuel (listed.setIfInBounds i true) a' w' := by
          intro a' w' hw'
          refine ih _ _ _ (by simpa using hs) (.inr ⟨i + 1, by omega, by omega, fun k hk => ?_, fun k hk hkl => ?_, hw'⟩) (hcount listed i fuel hs hm (hun i (Nat.le_refl _) hm) hf)
          · by_cases hki : k = i
            · subst hki; rw [hset listed k k hs hm, if_pos rfl]
            · rw [hset listed i k hs (by omega), if_neg hki]; exact hall k (by omega)
          · rw [hset listed i k hs hkl, if_neg (by omega)]; exact hun k (by omega) hkl
        simp only [wpListIn] at hw
        unfold wpOpIn
        simp only [List.getElem?_toArray, ho]
        split
        · rename_i hwn
          rw [if_pos hwn] at hw
          exact ⟨hw.1, uponIn_mono hcont (fun _ _ _ _ h => h) hw.2⟩
        · rename_i hwn
          rw [if_neg hwn] at hw
          exact ⟨hw.1, hcont _ _ hw.2⟩
      · have hm' : m = l.length := by omega
        subst hm'
        refine ⟨fun _ => by simpa [wpListIn] using hw, fun i hi => ?_⟩
        have := htail listed l.length i hs hnm hall hun hi
        obtain ⟨o, ho, _⟩ := hready listed i hi
        have hil : i < l.length := (List.getElem?_eq_some_iff.1 ho).1
        omega

inductive DsOk (ops : Array Oper) (V : Nat → Value) (n : Nat) : Slots → Prop
  | nil : DsOk ops V n []
  | cons {t : Nat} {u : Value} {ds : Slots} (j : Nat) (hj : Nat.blt j n = true) (hd : (ops[j]?).bind (·.dst) = some t) (hv : V j = u) (r : DsOk ops V n ds) : DsOk ops V n ((t, u) :: ds)

theorem DsOk.look_ok {a : Act} (hA : ∀ (j : Nat) (oj : Oper) (d : Nat), j < n → l[j]? = some oj → oj.dst = some d → a.tmps.getD d undef = V j) : ∀ {ds : Slots}, DsOk l.toArray V n ds → ∀ {t : Nat} {v : Value}, look ds t = some v → a.tmps.getD t undef = v
  | _, .nil, t, v, hl => by simp [look] at hl
  | _, @DsOk.cons _ _ _ t' u ds j hj hdj hv r, t, v, hl => by
    simp only [look] at hl
    cases hb : Nat.beq t' t with
    | true =>
      rw [hb] at hl; have := Nat.eq_of_beq_eq_true hb; subst this; cases hl
      have hj' : j < n := by simpa [Nat.blt_eq] using hj
      cases hlj : l[j]? with
      | none => simp [hlj] at hdj
      | some oj => simp [hlj] at hdj; rw [hA j oj t' hj' hlj hdj]; exact hv
    | false => rw [hb] at hl; exact r.look_ok hA hl

def okAll (c : Nat) : List Oper → Bool
  | [] => true
  | o :: l => okD c o.dst && okAll c l

theorem okAll_spec {m : Nat} : ∀ {l : List Oper}, okAll m l = true → ∀ (k : Nat) (o : Oper) (d : Nat), l[k]? = some o → o.dst = some d → d < m
  | [], _, k, o, d, h, _ => by simp at h
  | x :: l, h, k, o, d, hk, hd => by
    simp only [okAll, Bool.and_eq_true] at h
    cases k with
    | zero => simp at hk; subst hk; rw [hd] at h; simpa [okD, Nat.blt_eq] using h.1
    | succ k => exact okAll_spec h.2 k o d (by simpa using hk) hd

/-- A REGION THAT DRAWS: its first n operations only read, in whatever order; those behind wait for all ahead -/
theorem TC.draw {id : Nat} (hm : c.P.follows .mixedOrders = true) (n : Nat) (vs : List Value) (ds : Slots) (hn : Nat.ble n l.length = true) (he : edgeT n l = true) (hd : dstB L0 (takeO n l) [] = true) (hok : okAll c.n l = true)
    (hq : QAll c l.toArray L0 H (fun k => vs.getD k undef) 0 (takeO n l)) (hds : DsOk l.toArray (fun k => vs.getD k undef) n ds) (h : TO c l.toArray Q (dropO n l) (ds ++ L0) H) : TC c (.region id l.toArray true) Q L0 H := by
  have htake : ∀ (n : Nat) (l : List Oper), takeO n l = l.take n := by
    intro n; induction n with
    | zero => intro l; cases l <;> rfl
    | succ n ih => intro l; cases l with
      | nil => rfl
      | cons x l => simp [takeO, ih]
  have hdrop : ∀ (n : Nat) (l : List Oper), dropO n l = l.drop n := by
    intro n; induction n with
    | zero => intro l; cases l <;> rfl
    | succ n ih => intro l; cases l with
      | nil => rfl
      | cons x l => simp [dropO, ih]
  rw [htake] at hd hq
  rw [hdrop] at h
  have hn' : n ≤ l.length := Nat.le_of_ble_eq_true hn
  intro a w s
  refine wpIn_region_any hm ?_
  have s1 : Sat c L0 H a { w with drawn := w.drawn + 1 } := ⟨s.size, s.defers, s.slots, ⟨s.ext.os, s.ext.tape, s.ext.output, s.ext.size, s.ext.same⟩, s.nodup, s.heap, s.own⟩
  have hfin : ∀ a w, (∀ listed : Array Bool, (∀ k, k < n → listed.getD k false = true) → JSat c l L0 H (fun k => vs.getD k undef) n listed a w → wpListIn (FW c.ro) 1 c.P l.toArray Q (l.drop n) a w) := by
    intro a w listed hall J
    refine h a w ⟨J.1.size, J.1.defers, fun t v hl => ?_, J.1.ext, J.1.nodup, J.1.heap, J.1.own⟩
    rcases look_append hl with hl' | hl'
    · exact hds.look_ok (fun j oj d hj ho hd => J.2 j oj d hj (hall j hj) ho hd) hl'
    · exact J.1.slots t v hl'
  refine draw_any (Q := Q) hn' hq he hd (fun k o d hk ho hdd => okAll_spec hok k o d ho hdd) hfin _ _ _ _ (by simp) ?_ (Nat.le_trans (List.length_filter_le _ _) (by simp))
  have hfalse : ∀ k, (Array.replicate l.toArray.size false).getD k false = false := by intro k; simp [Array.getD]
  by_cases h0 : n = 0
  · subst h0
    refine .inr ⟨0, Nat.le_refl _, Nat.zero_le _, fun k hk => by omega, fun k _ _ => hfalse k, hfin _ _ #[] (fun k hk => absurd hk (Nat.not_lt_zero k)) ⟨s1, fun k o d hk => absurd hk (Nat.not_lt_zero k)⟩⟩
  · refine .inl ⟨⟨0, by omega, hfalse 0⟩, fun k _ _ => hfalse k, fun k o _ hl => (by rw [hfalse] at hl; cases hl), s1, fun k o d _ hl => ?_⟩
    rw [hfalse] at hl; cases hl
end
end Go.HW
