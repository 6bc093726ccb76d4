/- Slices of slices; copy. -/
import Derived.Test.YtbpldfhehpjbaaaHwTD
import Derived.Laws.CopyRow
namespace Go.HW
open Go Go.RowKit
set_option linter.unusedVariables false

theorem inb_of {i : Int} {a b : Nat} (h : a = b) (hk : inb i b = true) : inb i a = true := by rw [h]; exact hk

def subP (sp : Option Addr) (sz cap lo : Nat) : Option Addr := if cap = lo then sp else sp.map (·.add (lo * sz))
def cutX {α : Type} (xs : List α) (lo hi : Nat) : List α := (xs.take hi).drop lo
theorem cutX_length {α : Type} {xs : List α} {lo hi : Nat} (h : hi ≤ xs.length) : (cutX xs lo hi).length = hi - lo := by
  simp [cutX, Nat.min_eq_left h]
theorem cutX_get {α : Type} {xs : List α} {lo hi k : Nat} {x : α} (h : (cutX xs lo hi)[k]? = some x) : xs[lo + k]? = some x ∧ lo + k < hi := by
  simp only [cutX, List.getElem?_drop, List.getElem?_take] at h
  split at h
  · exact ⟨h, by assumption⟩
  · cases h

theorem RdS.sub {α : Type} {N : En α} {w : World} {sp : Option Addr} {xs : List α} {cap lo hi : Nat} (h : RdS N w sp xs) (h1 : hi ≤ xs.length) (h2 : hi ≤ cap) : RdS N w (subP sp N.sz cap lo) (cutX xs lo hi) := by
  refine ⟨by rw [cutX_length h1]; have := h.1; omega, ?_⟩
  by_cases hc : cap = lo
  · left
    apply List.eq_nil_of_length_eq_zero
    rw [cutX_length h1]; omega
  · rcases h.2 with rfl | ⟨ad, rfl, e2, e3⟩
    · left
      apply List.eq_nil_of_length_eq_zero
      rw [cutX_length h1]; simp at h1; omega
    · right
      refine ⟨ad.add (lo * N.sz), by simp [subP, hc], by obtain ⟨b, o, s⟩ := ad; simp only at e2; subst e2; simp [add_none], fun k x hk j v hj => ?_⟩
      obtain ⟨g1, g2⟩ := cutX_get hk
      have := e3 (lo + k) x g1 j v hj
      obtain ⟨b, o, s⟩ := ad
      simp only at e2; subst e2
      rw [add_none]
      simp only
      rw [show o + lo * N.sz + (k * N.sz + j) = o + ((lo + k) * N.sz + j) from by rw [Nat.add_mul]; omega]
      exact this
theorem RdF.sub {α : Type} {N : En α} {w : World} {R : List Nat} {sp : Option Addr} {xs : List α} {cap lo hi : Nat} (h : RdF N w R sp xs) (h1 : hi ≤ xs.length) (h2 : hi ≤ cap) : RdF N w R (subP sp N.sz cap lo) (cutX xs lo hi) :=
  fun w' e => (h w' e).sub h1 h2

theorem OwnL.le_cap {α : Type} {N : En α} {e : TypeId} {sp : Option Addr} {cap : Nat} {xs : List α} {Hs : Blocks} (h : OwnL N e sp cap xs Hs) : xs.length ≤ cap := by
  rcases h with ⟨_, rfl, rfl, _⟩ | ⟨g, cur, _, _, h1, _⟩
  · simp
  · exact h1

/-- a bound of a slice expression: the operand, what it is where there is none, its value -/
inductive Bd (L : Slots) : Option Operand → Nat → Int → Prop
  | none {d : Nat} : Bd L Option.none d d
  | some {x : Operand} {k : IntKind} {d : Nat} {i : Int} (h : ev L x = Option.some (.int k i)) : Bd L (Option.some x) d i

theorem Bd.len {L : Slots} {m n : Nat} (h : m = n) : Bd L Option.none n (m : Int) := by subst h; exact .none

section
variable {c : Cx} {ops : Array Oper} {Q : Exit → Act → World → Prop} {rest : List Oper} {L : Slots} {H : Hp}
variable {d : Nat} {T : TypeId} {pos : String} {af : Array Edge} {g : Option (Nat × Bool)}

theorem run_sliceBound_ok {P : Program} {w : World} {k : IntKind} {i : Int} {y : Nat} {code : BoundsCode} (h0 : 0 ≤ i) (h1 : i ≤ y) : (Instr.sliceBound (.int k i) y code).run P w = .ok i.toNat w := by
  simp [Instr.sliceBound, asIntOf, h0, h1]

/-- what is asked of the bounds -/
def sliceOk (lo hi : Int) (n : Nat) : Bool := decide (0 ≤ lo) && decide (lo ≤ hi) && decide (hi ≤ (n : Int))
theorem sliceOk_iff {lo hi : Int} {n : Nat} : sliceOk lo hi n = true ↔ 0 ≤ lo ∧ lo ≤ hi ∧ hi ≤ n := by simp [sliceOk, and_assoc]

theorem sliceOk_hi {lo hi : Int} {n : Nat} (h : sliceOk lo hi n = true) : hi.toNat ≤ n := by have := sliceOk_iff.1 h; omega
theorem cutX_cap {α : Type} {xs : List α} {lo hi cap : Nat} (h : hi ≤ xs.length) (hc : xs.length ≤ cap) : (cutX xs lo hi).length ≤ cap - lo := by rw [cutX_length h]; omega

theorem QV.slice {X A : TypeId} {x : Operand} {lo hi : Option Operand} {sp : Option Addr} {n cap sz m : Nat} {l h : Int} (hu : ∀ w, (underlying X).run c.P w = .ok (.slice A) w) (hs : ∀ w, (sizeOf A).run c.P w = .ok sz w)
    (hx : ev L x = some (.slice sp n cap)) (hl : Bd L lo 0 l) (hh : Bd L hi n h) (hm : m ≤ cap) (hk : sliceOk l h m = true) :
    QV c ⟨some d, .slice X x lo hi none, T, pos, af, g⟩ L H (.slice (subP sp sz cap l.toNat) (h.toNat - l.toNat) (cap - l.toNat)) := fun a w s => by
  obtain ⟨k0, k1, k2⟩ := sliceOk_iff.1 hk
  have hb : (Instr.sliceBounds true n cap (lo.map a.eval) (hi.map a.eval) none).run c.P w = .ok (l.toNat, h.toNat, cap) w := by
    cases hl with
    | none =>
      cases hh with
      | none => simp [Instr.sliceBounds]
      | some h2 =>
        simp [Instr.sliceBounds, s.eval h2]
        rw [run_sliceBound_ok (by omega) (by omega)]; simp
    | some h1 =>
      cases hh with
      | none =>
        simp [Instr.sliceBounds, s.eval h1]
        rw [run_sliceBound_ok k0 (by omega)]; simp
      | some h2 =>
        simp [Instr.sliceBounds, s.eval h1, s.eval h2]
        rw [run_sliceBound_ok (by omega) (by omega)]
        simp only [Result.andThen_ok]
        rw [run_sliceBound_ok k0 (by omega)]; simp
  have hsub : (if cap = l.toNat then sp else sp.map (·.add (l.toNat * sz))) = subP sp sz cap l.toNat := rfl
  simp [execOp, Instr.sliceAt, Instr.slice, s.eval hx, hu, hb, hs, subP]

theorem TX.slice {X A : TypeId} {x : Operand} {lo hi : Option Operand} {sp : Option Addr} {n cap sz m : Nat} {l h : Int} (hu : ∀ w, (underlying X).run c.P w = .ok (.slice A) w) (hs : ∀ w, (sizeOf A).run c.P w = .ok sz w)
    (hx : ev L x = some (.slice sp n cap)) (hl : Bd L lo 0 l) (hh : Bd L hi n h) (hm : m ≤ cap) (hk : sliceOk l h m = true) (hd : Nat.blt d c.n = true)
    (ht : TO c ops Q rest ((d, .slice (subP sp sz cap l.toNat) (h.toNat - l.toNat) (cap - l.toNat)) :: L) H) : TX c ops Q ⟨some d, .slice X x lo hi none, T, pos, af, g⟩ rest L H :=
  TX.val hd (QV.slice hu hs hx hl hh hm hk) ht

variable {α : Type} {N : En α} {dst : Option Tmp}
/-- the first n of ys, laid over xs from lo on -/
def pasteX {α : Type} (xs : List α) (lo : Nat) (ys : List α) : List α := xs.take lo ++ ys ++ xs.drop (lo + ys.length)
theorem pasteX_length {xs ys : List α} {lo : Nat} (h : lo + ys.length ≤ xs.length) : (pasteX xs lo ys).length = xs.length := by
  simp [pasteX]; omega
theorem pasteX_len {xs ys : List α} {lo hi : Nat} (h : hi ≤ xs.length) : (pasteX xs lo (ys.take (hi - lo))).length = xs.length := by
  simp [pasteX]; omega
theorem pasteX_nil {xs : List α} {lo : Nat} : pasteX xs lo [] = xs := by simp [pasteX]

theorem paste_flat {xs ys : List α} {lo : Nat} (h : lo + ys.length ≤ xs.length) (j : Nat) : ((pasteX xs lo ys).flatMap N.enc)[j]? =
    if lo * N.sz ≤ j ∧ j < lo * N.sz + (ys.flatMap N.enc).length then (ys.flatMap N.enc)[j - lo * N.sz]? else (xs.flatMap N.enc)[j]? := by
  have e1 : ((xs.take lo).flatMap N.enc).length = lo * N.sz := by rw [flat_len, List.length_take, Nat.min_eq_left (by omega)]
  have e2 : (ys.flatMap N.enc).length = ys.length * N.sz := flat_len N ys
  have e0 : xs.flatMap N.enc = (xs.take lo).flatMap N.enc ++ ((xs.drop lo).take ys.length).flatMap N.enc ++ (xs.drop (lo + ys.length)).flatMap N.enc := by
    rw [← List.flatMap_append, ← List.flatMap_append]
    congr 1
    rw [List.append_assoc, show xs.drop (lo + ys.length) = (xs.drop lo).drop ys.length from by rw [List.drop_drop], List.take_append_drop, List.take_append_drop]
  have e3 : (((xs.drop lo).take ys.length).flatMap N.enc).length = ys.length * N.sz := by rw [flat_len, List.length_take, List.length_drop, Nat.min_eq_left (by omega)]
  simp only [pasteX, List.flatMap_append]
  rw [e0]
  by_cases h1 : j < lo * N.sz
  · rw [if_neg (by omega), List.append_assoc, List.append_assoc, List.getElem?_append_left (by omega), List.getElem?_append_left (by omega)]
  · by_cases h2 : j < lo * N.sz + ys.length * N.sz
    · rw [if_pos (by omega), List.append_assoc, List.getElem?_append_right (by omega), List.getElem?_append_left (by omega), e1]
    · rw [if_neg (by omega), List.append_assoc, List.append_assoc, List.getElem?_append_right (by omega), List.getElem?_append_right (by omega), List.getElem?_append_right (by omega), List.getElem?_append_right (by omega)]
      rw [e1, e2, e3]

theorem TX.copyS {X Y A : TypeId} {info : TypeInfo} {x y : Operand} {sp sq : Option Addr} {cap cd cq n m lo hi si : Nat} {xs ys : List α} {E : Blocks} {S : List Blocks} {Hs : Blocks} {sd : Option Addr}
    (hu : ∀ w, (underlying X).run c.P w = .ok (.slice A) w) (hi' : ∀ w, (typeInfo A).run c.P w = .ok info w) (hsz : info.size = N.sz)
    (hx : ev L x = some (.slice sd n cd)) (hsd : sd = sp ∧ lo = 0 ∨ sd = subP sp N.sz cap lo) (hn : hi - lo = n) (hlh : hi ≤ xs.length) (hy : ev L y = some (.slice sq m cq)) (hm : ys.length = m)
    (hS : getS S si = some Hs) (ho : OwnL N A sp cap xs Hs) (hrd : ∀ a w, Sat c L ⟨E, S⟩ a w → RdS N w sq ys) (hd : okD c.n dst = true)
    (h : ∀ Hs' S', setS S si Hs' = some S' → OwnL N A sp cap (pasteX xs lo (ys.take (hi - lo))) Hs' → TO c ops Q rest (putS L dst (.int .i64 ((min ys.length (hi - lo) : Nat) : Int))) ⟨E, S'⟩) :
    TX c ops Q ⟨dst, .call ⟨.builtin .copy, #[x, y], #[X, Y]⟩, T, pos, af, g⟩ rest L ⟨E, S⟩ := by
  intro a w s
  subst hm
  rw [hn] at h
  have hrs : (sizeOf A).run c.P w = .ok N.sz w := by
    have := info_of hi'
    simp [sizeOf, typeInfo, this, hsz]
  have hR := hrd a w s
  have hmem : ∀ p ∈ Hs, p ∈ (⟨E, S⟩ : Hp).all := fun p hp => List.mem_append.2 (.inr (getS_sub hS p hp))
  have hzl : (ys.take n).length = min n ys.length := List.length_take
  have hcells : (Builtin.firstCells N.sz (Nat.min ys.length n) (.slice sq ys.length cq)).run c.P w = .ok ((ys.take n).flatMap N.enc).toArray w := by
    cases sq with
    | none =>
      have hys : ys = [] := by
        rcases hR.2 with h | ⟨ad, h, _⟩
        · exact h
        · cases h
      subst hys; simp [Builtin.firstCells]
    | some ad =>
      have hT : RdS N w (some ad) (ys.take n) := by
        refine ⟨by rw [hzl]; have := hR.1; omega, ?_⟩
        rcases hR.2 with rfl | ⟨ad', e1, e2, e3⟩
        · left; simp
        · refine .inr ⟨ad', e1, e2, fun k x hk j v hj => e3 k x ?_ j v hj⟩
          rw [List.getElem?_take] at hk
          split at hk
          · exact hk
          · cases hk
      have := run_loadCells_list (P := c.P) (w := w) ad ((ys.take n).flatMap N.enc) hT.news
      rw [flat_len, hzl] at this
      simp only [Builtin.firstCells]
      rw [show Nat.min ys.length n = min n ys.length from Nat.min_comm _ _]
      exact this
  have hcopy : (Builtin.copy_ #[X, Y] T #[.slice sd n cd, .slice sq ys.length cq]).run c.P w =
      ((match sd with | some b => storeCells b ((ys.take n).flatMap N.enc) 0 | none => pure ()) >>= fun _ => (pure (goInt (Nat.min ys.length n)) : Sem Value)).run c.P w := by
    cases sd <;> simp [Builtin.copy_, hu, hrs, Builtin.lenOf, hcells]
  have hex : ∀ w', (Builtin.copy_ #[X, Y] T #[.slice sd n cd, .slice sq ys.length cq]).run c.P w = .ok (.int .i64 ((min ys.length n : Nat) : Int)) w' →
      (execOp a.eval ⟨dst, .call ⟨.builtin .copy, #[x, y], #[X, Y]⟩, T, pos, af, g⟩).run c.P w = .ok (.value (.int .i64 ((min ys.length n : Nat) : Int))) w' := by
    intro w' hw
    simp [execOp, resolve, invoke, builtin, s.eval hx, s.eval hy, hw]
  by_cases hz : ys.take n = []
  · have hsame : setS S si Hs = some S := by
      obtain ⟨S', hS'⟩ := setS_some Hs hS
      obtain ⟨A1, B1, p, h1, h2, h3⟩ := setS_spec hS'
      rw [hS] at h3; cases h3
      rw [hS', h2, h1]
    rw [hex w (by rw [hcopy, hz]; cases sd <;> simp [storeCells, goInt])]
    exact h Hs S hsame (by rw [hz, pasteX_nil]; exact ho) _ _ (s.put hd _)
  · have hn0 : 0 < n := by
      rcases Nat.eq_zero_or_pos n with h | h
      · subst h; simp at hz
      · exact h
    rcases ho with ⟨rfl, rfl, rfl, rfl⟩ | ⟨b, cur, rfl, rfl, h1, h2, h3, h4⟩
    · simp at hlh; omega
    have hsd' : sd = some ⟨b, lo * N.sz, none⟩ := by
      rcases hsd with ⟨rfl, rfl⟩ | rfl
      · simp
      · have : cap ≠ lo := by omega
        simp [subP, this, add_none]
    subst hsd'
    have hb : w.heap[b]? = some (.cells cur A (0, 0)) := s.heap (b, .cells cur A (0, 0)) (hmem _ (by simp))
    obtain ⟨l⟩ := cur
    simp only [List.size_toArray] at h3 h4
    have hfl : ((ys.take n).flatMap N.enc).length = (ys.take n).length * N.sz := flat_len N _
    have hle : (lo + (ys.take n).length) * N.sz ≤ xs.length * N.sz := Nat.mul_le_mul_right _ (by rw [hzl]; omega)
    have hle2 : xs.length * N.sz ≤ cap * N.sz := Nat.mul_le_mul_right _ h1
    rw [Nat.add_mul] at hle
    obtain ⟨l2, r1, r2, r3⟩ := run_storeCells (P := c.P) (off := lo * N.sz) ((ys.take n).flatMap N.enc) 0 l [] w hb (allOne_flat N _) (by omega)
    obtain ⟨S', hS'⟩ := setS_some (i := si) [(b, .cells l2.toArray A (0, 0))] hS
    obtain ⟨A1, B1, f1, f2⟩ := withBlock_flat hS hS'
    have s' : Sat c L ⟨E, S'⟩ a (World.withBlock w b (.cells l2.toArray A (0, 0))) :=
      s.setBlockG (A := E ++ A1) (B := B1) (o := .cells l.toArray A (0, 0)) (by simp [Hp.all, f1]) (by simp [Hp.all, f2])
    rw [hex _ (by rw [hcopy]; simp only [Sem.run_bind, r1, Result.andThen_ok]; rfl)]
    refine h _ _ hS' (.inr ⟨b, l2.toArray, rfl, rfl, by rw [pasteX_length (by rw [hzl]; omega)]; exact h1, h2, by simpa [r2] using h3, ?_⟩) _ _ (s'.put hd _)
    rw [pasteX_length (by rw [hzl]; omega)]
    apply List.ext_getElem?
    intro j
    rw [paste_flat (by rw [hzl]; omega), List.getElem?_take, r3 j]
    have q4j : ∀ j, (xs.flatMap N.enc)[j]? = if j < xs.length * N.sz then l[j]? else none := by
      intro j; rw [← h4, List.getElem?_take]
    by_cases hj : lo * N.sz ≤ j ∧ j < lo * N.sz + ((ys.take n).flatMap N.enc).length
    · rw [if_pos hj, if_pos (by omega), if_pos (by omega)]; rfl
    · rw [if_neg hj, if_neg (c := lo * N.sz + 0 ≤ j ∧ j < lo * N.sz + 0 + ((ys.take n).flatMap N.enc).length) (by omega), q4j j]
end
end Go.HW
