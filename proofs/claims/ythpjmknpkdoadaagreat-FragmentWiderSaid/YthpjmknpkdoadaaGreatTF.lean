/- Part of the proof: the logic, the walks, and what they compute. -/
import Derived.KernelRfl
import Derived.ChangeSame
import Derived.Carry
import Derived.ProofKit
import Derived.OpenShut
import Derived.SizedLaws
import Derived.Test.YthpjmknpkdoadaaGreatTE
set_option linter.all false
namespace Go.Proofs.YthpjmknpkdoadaaGreat
open Go Go.HW
set_option linter.unusedVariables false
set_option maxRecDepth 8000
theorem EdgeS.trans {p : List Instr} {m m1 m2 : List (Int × Known)} {o o1 o2 : List RSet} {t t1 t2 : List Bool} {g g1 g2 : Bool} (h : EdgeS p m m1 o o1 t t1 g g1) (k : EdgeS p m1 m2 o1 o2 t1 t2 g1 g2) : EdgeS p m m2 o o2 t t2 g g2 := by
 have h1 := h.mes
 have k1 := k.mes
 refine ⟨k.ls, by omega, fun e => ?_, fun e => ?_, fun x hx => k.mono x (h.mono x hx)⟩
 ·rcases k.up e with a | a
  ·rcases h.up a with b | b
   ·exact .inl b
   ·exact .inr (by omega)
  ·exact .inr (by omega)
 ·obtain ⟨a, rfl, rfl, rfl⟩ := k.same e
  exact h.same a
section
variable {F : Nat} {w : Walk}
theorem round_eq (hF : 9000 ≤ F) (hp : w.fp.length ≤ 1000) (hT : w.ftargets = tg w.fp) (hl : w.ft.fFields.length ≤ 1000) (hw : WF2 w.fp) (ho : okP w.fp = true) {v4 : List Edge} (hv : v4.length ≤ 100000) :
  ∀ (l : List (Int × Int)) (m : List (Int × Known)) (out : List RSet) (met : List Bool) (g : Bool), (∀ e ∈ l, e ∈ eds w.fp) → LS w.fp m out met →
  ∃ m' out' met' g', runL (stepR (fun (s : Bool × (List (Int × Known))) (y : Int × Int) => fn27_r2 F w s.1 s.2 y.1 y.2)) goR l ((g, m), 0) = some ((g', m'), 0) ∧
   (∀ (n k : Nat), k ≤ v4.length → v4.drop k = l.map mkE → l.length < n → fn32_l2 F w.fp w.ft v4 n out met g (k : Int) = some (out', met', g')) ∧ EdgeS w.fp m m' out out' met met' g g' ∧ (g' = false → ∀ e ∈ l, mhas m e.1 = true → mhas m e.2 = true)
 | [], m, out, met, g, _, h => by
  refine ⟨m, out, met, g, rfl, fun n k hk hd hn => ?_, ⟨h, Nat.le_refl _, fun e => .inl e, fun e => ⟨e, rfl, rfl, rfl⟩, fun t ht => ht⟩, fun _ e he => by cases he⟩
  obtain ⟨n, rfl⟩ : ∃ j, n = j + 1 := ⟨n - 1, by simp at hn; omega⟩
  have hlen : (v4.drop k).length = 0 := by rw [hd]; rfl
  rw [List.length_drop] at hlen
  rw [ref_loop, show decide ((k : Int) < (v4.length : Int)) = false by simp; omega]; rfl
 | e :: l, m, out, met, g, he, h => by
  obtain ⟨m1, o1, t1, g1, e1, e2, e3, e4⟩ := edge_eq hF hp hT hl hw ho h g (a := e.1) (b := e.2) (he e (by simp))
  obtain ⟨m2, o2, t2, g2, f1, f2, f3, f4⟩ := round_eq hF hp hT hl hw ho hv l m1 o1 t1 g1 (fun x hx => he x (by simp [hx])) e3.ls
  refine ⟨m2, o2, t2, g2, ?_, fun n k hk hd hn => ?_, e3.trans f3, fun hg x hx => ?_⟩
  ·rw [runR_go (s' := (g1, m1)) e1]; exact f1
  ·obtain ⟨n, rfl⟩ : ∃ j, n = j + 1 := ⟨n - 1, by simp at hn; omega⟩
   have hlt : k < v4.length := by
    have : (v4.drop k).length = l.length + 1 := by rw [hd]; simp
    rw [List.length_drop] at this; omega
   have hdg := drop_gt (v := v4) hlt
   rw [hd, List.map_cons] at hdg
   injection hdg with h1 h2
   rw [ref_loop, show decide ((k : Int) < (v4.length : Int)) = true by simp; omega, cond_true, show inb (k : Int) v4.length = true from inb_iff.2 ⟨by omega, by omega⟩, cond_true, ← h1]
   show Option.bind (refE F w.fp w.ft out met g e.1 e.2) _ = _
   rw [e2, Option.bind_some, show IntKind.i64.wrap ((k : Int) + 1) = ((k + 1 : Nat) : Int) from w64 (by omega)]
   exact f2 n (k + 1) (by omega) h2.symm (by simp at hn; omega)
  ·obtain ⟨a, b, _, _⟩ := f3.same hg
   have hs := e3.same a
   rcases List.mem_cons.1 hx with rfl | hx
   ·exact e4 a
   ·have := f4 hg x hx
    rw [hs.2.1] at this; exact this
def Closed2 (p : List Instr) (m : List (Int × Known)) : Prop := ∀ e ∈ eds p, mhas m e.1 = true → mhas m e.2 = true
theorem rounds_eq (hF : 9000 ≤ F) (hp : w.fp.length ≤ 1000) (hT : w.ftargets = tg w.fp) (hl : w.ft.fFields.length ≤ 1000) (hw : WF2 w.fp) (ho : okP w.fp = true) :
  ∀ (n : Nat) (m : List (Int × Known)) (out : List RSet) (met : List Bool) (x : Bool), LS w.fp m out met → (x = false → Closed2 w.fp m) → (bif x then mes out met + 2 else 1) ≤ n →
  ∃ m' out' met', fn27_l1 F w n m x = some m' ∧ fn32_l1 F w.fp w.ft ((eds w.fp).map mkE) n out met x = some out' ∧ LS w.fp m' out' met' ∧ Closed2 w.fp m' ∧ ∀ t, mhas m t = true → mhas m' t = true
 | 0, m, out, met, x, _, _, h => by cases x <;> simp at h
 | n + 1, m, out, met, x, h, hc, hn => by
  rw [fn27_l1_s, fn32_l1_s]
  cases x with
  | false => exact ⟨m, out, met, rfl, rfl, h, hc rfl, fun t ht => ht⟩
  | true =>
   simp only [cond_true] at hn ⊢
   have hel := eds_len (p := w.fp)
   obtain ⟨m1, o1, t1, g1, e1, e2, e3, e4⟩ := round_eq (F := F) hF hp hT hl hw ho (v4 := (eds w.fp).map mkE) (by rw [List.length_map]; omega) (eds w.fp) m out met false (fun e he => he) h
   have e2' := e2 F 0 (by omega) rfl (by omega)
   rw [show ((0 : Nat) : Int) = 0 from rfl] at e2'
   rw [edges_run (by omega) (by omega) hw.wf, e1, e2', Option.bind_some, Option.bind_some]
   show ∃ m' out' met', fn27_l1 F w n m1 g1 = some m' ∧ fn32_l1 F w.fp w.ft ((eds w.fp).map mkE) n o1 t1 g1 = some out' ∧ _
   have hm := e3.mes
   obtain ⟨m2, o2, t2, f1, f2, f3, f4, f5⟩ := rounds_eq hF hp hT hl hw ho n m1 o1 t1 g1 e3.ls (fun hg e he hh => by
    obtain ⟨_, a, _, _⟩ := e3.same hg
    rw [a] at hh ⊢; exact e4 hg e he hh) (by
    cases g1 with
    | false => simp; omega
    | true =>
     simp only [cond_true]
     rcases e3.up rfl with a | a
     ·cases a
     ·omega)
   exact ⟨m2, o2, t2, f1, f2, f3, f4, fun t ht => f5 t (e3.mono t ht)⟩
theorem mget_mem {α : Type} {z : α} : ∀ {xs : List (Int × α)} {k : Int} {v : α}, KND xs → (k, v) ∈ xs → mget xs k z = v
 | q :: xs, k, v, hn, h => by
  unfold KND at hn
  rw [List.map_cons, List.nodup_cons] at hn
  unfold mget mfind
  rcases List.mem_cons.1 h with rfl | h
  ·simp
  ·have : ¬ (q.1 = k) := fun e => hn.1 (List.mem_map.2 ⟨(k, v), h, e.symm⟩)
   simp only [this, decide_false, cond_false]
   exact mget_mem (z := z) (xs := xs) hn.2 h
 | [], k, v, _, h => by cases h
theorem last_loop {p : List Instr} {t : PType} {R : List Bool} {out : List RSet} {sb : Int → Bool} (hR : R.length = p.length) (ho : out.length = p.length) (hp : p.length ≤ 1000)
  (hs : ∀ i : Int, 0 ≤ i → i < (p.length : Int) → gt R i = true → ∃ s', fn33 F (gt out i) p i t = some (s', sb i)) : ∀ (n k : Nat), k ≤ p.length → p.length - k < n →
  fn12_l1 F p t R out n (k : Int) = some (bif (List.range' k (p.length - k)).all (fun i : Nat => !(gt R (i : Int)) || sb (i : Int)) then .inl () else .inr false)
 | 0, k, h1, h2 => by omega
 | n + 1, k, h1, h2 => by
  rw [fn12_l1_s]
  by_cases hk : k < p.length
  ·rw [show decide ((k : Int) < (p.length : Int)) = true by simp; omega, cond_true, hR, ho, show inb (k : Int) p.length = true from inb_iff.2 ⟨by omega, by omega⟩, cond_true, show IntKind.i64.wrap ((k : Int) + 1) = ((k + 1 : Nat) : Int) from w64 (by omega),
    last_loop hR ho hp hs n (k + 1) (by omega) (by omega), show p.length - k = (p.length - (k + 1)) + 1 by omega, List.range'_succ, List.all_cons]
   cases hg : gt R (k : Int) with
   | false => simp
   | true =>
    obtain ⟨s', e⟩ := hs (k : Int) (by omega) (by omega) hg
    rw [e]
    cases hb : sb (k : Int) with
    | true => simp
    | false => simp
  ·rw [show decide ((k : Int) < (p.length : Int)) = false by simp; omega, cond_false, show p.length - k = 0 by omega]; rfl
end
theorem pl_zero {p : List Instr} (ho : okP p = true) : pl p 0 = true := by
 obtain ⟨hne, _⟩ := ok_len ho
 rw [← pos_pl, posIn, List.any_eq_true]
 cases p with
 | nil => exact absurd rfl hne
 | cons i l => exact ⟨(0, fn89 i), by rw [firstsL_cons]; simp, by simp⟩
theorem is_eq {F : Nat} (hF : 40000 ≤ F) {p : List Instr} {t : PType} (hp : p.length ≤ 1000) (hw : WF2 p) (hl : t.fFields.length ≤ 1000) (hk : ∃ e1 e2, fn24 F t = some e1 ∧ fn29 F t = some e2 ∧ (e1 != 0) = (e2 != 0)) :
  ∃ b, fn11 F p t = some b ∧ fn12 F p t = some b := by
 rw [fn11, fn12, check_prog (by omega) (by omega) hw.wf, check_ref (by omega) (by omega), Option.bind_some, Option.bind_some]
 cases ho : okP p with
 | false => rw [not_ok ho]; exact ⟨false, rfl, rfl⟩
 | true =>
  rw [is_ok ho]
  obtain ⟨e1, e2, k1, k2, k3⟩ := hk
  simp only [cond_false, cond_true, k1, k2, Option.bind_some, Bool.false_or]
  rw [k3]
  cases he : (e2 != 0) with
  | true => exact ⟨false, rfl, rfl⟩
  | false =>
  simp only [Bool.false_or]
  cases h64 : decide ((64 : Int) < (p.length : Int)) with
  | true => exact ⟨false, rfl, rfl⟩
  | false =>
  have hp64 : p.length ≤ 64 := by simp at h64; omega
  simp only [cond_false, cond_true, Bool.false_or]
  obtain ⟨b1, l1, l2⟩ := loops_prog (F := F) (p := p) (by omega) (by omega) hw.wf ho (stp_valid p)
  obtain ⟨b2, l3, l4⟩ := loops_ref (F := F) (p := p) (by omega) (by omega)
  have hbb : b1 = b2 := by rw [Bool.eq_iff_iff, l2, l4]
  rw [l1, l3, hbb, Option.bind_some, Option.bind_some]
  cases b2 with
  | true => exact ⟨false, rfl, rfl⟩
  | false =>
  obtain ⟨R, r1, r2, r3⟩ := reached_ref (F := F) (p := p) (by omega) (by omega)
  simp only [cond_false]
  rw [targets_prog (by omega) (by omega) hw.wf, r1, Option.bind_some, Option.bind_some]
  have hsl : (stp p).length = p.length := by rw [stp_length, ho]; rfl
  obtain ⟨hne, _⟩ := ok_len ho
  have hpos : 0 < p.length := List.length_pos_iff.2 hne
  let w : Walk := ⟨p, t, tg p⟩
  obtain ⟨k0, a1, a2⟩ := begin_rel (F := F) (by omega)
  -- the document's beginning
  have z0 : ∀ i : Int, gt (List.replicate p.length (⟨Ar.rep 11 false, false, Ar.rep 512 false⟩ : RSet)) 0 = (⟨Ar.rep 11 false, false, Ar.rep 512 false⟩ : RSet) := fun i => by
   unfold gt
   rw [List.getD_eq_getElem?_getD, List.getElem?_replicate, if_pos (by simpa using hpos)]; rfl
  have hls : LS p (mput [] 0 k0) ((List.replicate p.length (⟨Ar.rep 11 false, false, Ar.rep 512 false⟩ : RSet)).set 0 ⟨Ar.rep 11 false, true, Ar.rep 512 false⟩) ((List.replicate p.length false).set 0 true) := by
   refine ⟨by simp, by simp, by simp [KND, mput], fun i h0 h1 => ?_, fun i hi => ?_⟩
   ·obtain ⟨j, rfl⟩ : ∃ j : Nat, i = (j : Int) := ⟨i.toNat, by omega⟩
    rw [gt_setG (by simpa using hpos), gt_rep _ false rfl]
    by_cases hj : j = 0
    ·subst hj; simp [mput, mhas, mfind]
    ·have : ¬ ((0 : Int) = (j : Int)) := by omega
     simp [mput, mhas, mfind, hj, this]
   ·have : i = 0 := by
     by_cases h : (0 : Int) = i
     ·exact h.symm
     ·simp [mput, mhas, mfind, h] at hi
    subst this
    refine ⟨⟨by omega, by omega⟩, pl_zero ho, .base, ?_⟩
    rw [mget_put, if_pos rfl, show (0 : Int) = ((0 : Nat) : Int) from rfl, gt_setG (by simpa using hpos), if_pos rfl]
    exact a2
  have hmes := mes_le ((List.replicate p.length (⟨Ar.rep 11 false, false, Ar.rep 512 false⟩ : RSet)).set 0 ⟨Ar.rep 11 false, true, Ar.rep 512 false⟩) ((List.replicate p.length false).set 0 true)
  rw [List.length_set, List.length_replicate] at hmes
  obtain ⟨m', out', met', f1, f2, f3, f4, f5⟩ := rounds_eq (F := F) (w := w) (by omega) hp rfl hl hw ho F _ _ _ true hls (fun e => by cases e) (by simp only [cond_true]; omega)
  have g1 : (decide ((0 : Int) ≤ (p.length : Int)) && decide ((p.length : Int) ≤ (p.length : Int)) && decide ((524 : Int) * (p.length : Int) ≤ 281474976710656) && decide ((p.length : Int) ≤ 9223372036854775807)) = true := by simp; omega
  have g2 : (decide ((0 : Int) ≤ (p.length : Int)) && decide ((p.length : Int) ≤ (p.length : Int)) && decide ((1 : Int) * (p.length : Int) ≤ 281474976710656) && decide ((p.length : Int) ≤ 9223372036854775807)) = true := by simp; omega
  have e32 : fn32 F p t = some out' := by
   rw [fn32, g1, g2, cond_true, cond_true, Int.toNat_natCast, show inb 0 p.length = true from inb_iff.2 ⟨by omega, by omega⟩, cond_true, edges_ref (by omega) (by omega), Option.bind_some, z0 0, show ((0 : Int)).toNat = 0 from rfl]
   show Option.bind (fn32_l1 F w.fp w.ft ((eds w.fp).map mkE) F _ _ true) _ = _
   rw [f2]; rfl
  -- what a step tells
  let sb : Int → Bool := fun i => ((fn33 F (gt out' i) p i t).getD (default, false)).2
  have hst : ∀ i : Int, mhas m' i = true → (∃ k', fn66 F w (mget m' i zK) i = some (sb i, k')) ∧ ∃ s', fn33 F (gt out' i) p i t = some (s', sb i) := fun i hi => by
   obtain ⟨⟨i0, i1⟩, i2, i3, i4⟩ := f3.key i hi
   obtain ⟨k', s', b, e1, e2, e3⟩ := step_eq (F := F) (w := w) (by omega) hp rfl hl i4 i0 i1 (okx_pl hw ho i2)
   have : sb i = b := by
    show ((fn33 F (gt out' i) p i t).getD (default, false)).2 = b
    have e2' : fn33 F (gt out' i) p i t = some (s', b) := e2
    rw [e2']; rfl
   rw [this]; exact ⟨⟨k', e1⟩, s', e2⟩
  have hrch : ∀ i : Int, Rch (stp p) i → mhas m' i = true := fun i hi => by
   induction hi with
   | base => exact f5 0 (by simp [mput, mhas, mfind])
   | @step a b ha hb ih =>
    have : (a, b) ∈ eds p := mem_eds.2 ⟨(f3.key a ih).1.1, hb⟩
    exact f4 (a, b) this ih
  have hm : mapAll (fun k v => fn27_m3 F w k v) m' = some (m'.all fun q => sb q.1) := by
   have hq : ∀ q ∈ m', fn27_m3 F w q.1 q.2 = some (sb q.1) := fun q hq => by
    have hv : mget m' q.1 zK = q.2 := mget_mem f3.knd hq
    obtain ⟨⟨k', e⟩, _⟩ := hst q.1 ((mhas_iff m' q.1).2 ⟨q, hq, rfl⟩)
    rw [hv] at e
    rw [fn27_m3, e, Option.bind_some]
    cases sb q.1 <;> rfl
   unfold mapAll
   have h1 : (m'.all fun q => (fn27_m3 F w q.1 q.2).isSome) = true := List.all_eq_true.2 fun q h => by rw [hq q h]; rfl
   rw [h1, cond_true]
   congr 1
   exact all_congr' fun q h => by
    show (fn27_m3 F w q.1 q.2 == some true) = _
    rw [hq q h]; cases sb q.1 <;> rfl
  have e27 : fn27 F w = some (m'.all fun q => sb q.1) := by
   rw [fn27, a1, Option.bind_some, f1, Option.bind_some, fn27_k1, hm, Option.bind_some, fn27_k3]
   cases (m'.all fun q => sb q.1) <;> rfl
  have hlast := last_loop (F := F) (p := p) (t := t) (R := R) (out := out') (sb := sb) (by rw [r2, hsl]) f3.lo hp (fun i i0 i1 hr => (hst i (hrch i ((r3 i i0 (by rw [hsl]; exact i1)).1 hr))).2) F 0 (by omega) (by omega)
  rw [show ((0 : Nat) : Int) = 0 from rfl] at hlast
  have hfin : (m'.all fun q => sb q.1) = (List.range' 0 (p.length - 0)).all (fun i : Nat => !(gt R (i : Int)) || sb (i : Int)) := by
   rw [Bool.eq_iff_iff, List.all_eq_true, List.all_eq_true]
   constructor
   ·intro h i hi
    have hi' : i < p.length := by simp at hi; omega
    cases hr : gt R (i : Int) with
    | false => rfl
    | true =>
     obtain ⟨q, q1, q2⟩ := (mhas_iff m' (i : Int)).1 (hrch _ ((r3 (i : Int) (by omega) (by rw [hsl]; omega)).1 hr))
     have := h q q1
     rw [q2] at this; rw [this]; rfl
   ·intro h q hq
    obtain ⟨⟨i0, i1⟩, _, i3, _⟩ := f3.key q.1 ((mhas_iff m' q.1).2 ⟨q, hq, rfl⟩)
    have i1' : q.1 < (p.length : Int) := i1
    have := h q.1.toNat (by simp; omega)
    rw [Int.toNat_of_nonneg i0, (r3 q.1 i0 (by rw [hsl]; exact i1)).2 i3] at this
    simpa using this
  refine ⟨m'.all fun q => sb q.1, by
   show Option.bind (fn27 F w) _ = _
   rw [e27]; rfl, ?_⟩
  rw [e32, Option.bind_some, hlast, Option.bind_some, hfin]
  cases (List.range' 0 (p.length - 0)).all (fun i : Nat => !(gt R (i : Int)) || sb (i : Int)) <;> rfl
end Go.Proofs.YthpjmknpkdoadaaGreat
namespace Go.Proofs.YthpjmknpkdoadaaGreat
open Go Go.HW
set_option linter.unusedVariables false
set_option maxRecDepth 8000
theorem name_l1 (s : ByteArray) : ∀ (n : Nat) (x : Int), fn56_l1 s n x = fn73_l1 s n x
 | 0, _ => rfl
 | n + 1, x => by rw [fn56_l1_s, fn73_l1_s, name_l1 s n]; rfl
theorem name_eq (F : Nat) (s : ByteArray) : fn56 F s = fn73 F s := by
 rw [fn56, fn73, name_l1]; rfl
theorem name_tot {s : ByteArray} (hs : s.size ≤ 100000) : ∀ (n k : Nat), k ≤ s.size → s.size - k < n → ∃ o, fn73_l1 s n (k : Int) = some o
 | 0, k, h1, h2 => by omega
 | n + 1, k, h1, h2 => by
  rw [fn73_l1_s]
  by_cases hk : k < s.size
  ·rw [show decide ((k : Int) < (s.size : Int)) = true by simp; omega, cond_true, show inb (k : Int) s.size = true from inb_iff.2 ⟨by omega, by omega⟩, cond_true, show IntKind.i64.wrap ((k : Int) + 1) = ((k + 1 : Nat) : Int) from w64 (by omega)]
   obtain ⟨o, e⟩ := name_tot hs n (k + 1) (by omega) (by omega)
   generalize (!(((((decide ((97 : Int) ≤ (bget s (k : Int)))) && (decide ((bget s (k : Int)) ≤ 122))) || ((decide ((48 : Int) ≤ (bget s (k : Int)))) && (decide ((bget s (k : Int)) ≤ 57)))) || ((bget s (k : Int)) == 95)) || ((bget s (k : Int)) == 46))) = c
   cases c with
   | true => exact ⟨_, rfl⟩
   | false => exact ⟨o, e⟩
  ·rw [show decide ((k : Int) < (s.size : Int)) = false by simp; omega]; exact ⟨_, rfl⟩
theorem name_ok {F : Nat} {s : ByteArray} (hs : s.size ≤ 100000) (hF : s.size < F) : ∃ b, fn73 F s = some b := by
 obtain ⟨o, e⟩ := name_tot hs F 0 (by omega) (by omega)
 rw [show ((0 : Nat) : Int) = 0 from rfl] at e
 rw [fn73, e]
 cases o <;> exact ⟨_, rfl⟩
def goodN (n : Need) : Bool := fn76 n.fHelper && fn77 n.fMajor n.fMinor
def riseN (l : List Need) (i : Nat) : Bool := decide (i = 0) || decide ((gt l ((i : Int) - 1)).fHelper < (gt l (i : Int)).fHelper)
theorem rise_l1 {l : List Need} (hl : l.length ≤ 1000) : ∀ (n k : Nat), k ≤ l.length → l.length - k < n → fn49_l1 l n (k : Int) = some (bif (List.range' k (l.length - k)).all (riseN l) then .inl () else .inr false)
 | 0, k, h1, h2 => by omega
 | n + 1, k, h1, h2 => by
  rw [fn49_l1_s]
  by_cases hk : k < l.length
  ·rw [show decide ((k : Int) < (l.length : Int)) = true by simp; omega, cond_true, show IntKind.i64.wrap ((k : Int) + 1) = ((k + 1 : Nat) : Int) from w64 (by omega), rise_l1 hl n (k + 1) (by omega) (by omega), show l.length - k = (l.length - (k + 1)) + 1 by omega, List.range'_succ, List.all_cons,
    show inb (k : Int) l.length = true from inb_iff.2 ⟨by omega, by omega⟩, w64 (n := (k : Int) - 1) (by omega)]
   by_cases h0 : k = 0
   ·subst h0; simp [riseN]
   ·have e1 : decide ((0 : Int) < (k : Int)) = true := by simp; omega
    have e2 : inb ((k : Int) - 1) l.length = true := inb_iff.2 ⟨by omega, by omega⟩
    rw [e1, e2]
    have e3 : decide ((0 : Int) ≤ fn50 (gt l ((k : Int) - 1)) (gt l (k : Int))) = !riseN l k := by
     unfold riseN fn50 fn51 fn98
     simp only [bne_self_eq_false, cond_false, h0, decide_false, Bool.false_or]
     by_cases h3 : (gt l ((k : Int) - 1)).fHelper < (gt l (k : Int)).fHelper
     ·simp [h3]
     ·by_cases h4 : (gt l (k : Int)).fHelper < (gt l ((k : Int) - 1)).fHelper
      ·simp [h3, h4]
      ·simp [h3, h4]
    rw [e3]
    cases riseN l k <;> simp
  ·rw [show decide ((k : Int) < (l.length : Int)) = false by simp; omega, cond_false, show l.length - k = 0 by omega]; rfl
theorem rise_ok {F : Nat} {l : List Need} (hl : l.length ≤ 1000) (hF : l.length < F) : fn49 F l = some ((List.range' 0 l.length).all (riseN l)) := by
 have := rise_l1 hl F 0 (by omega) (by omega)
 rw [show ((0 : Nat) : Int) = 0 from rfl, Nat.sub_zero] at this
 rw [fn49, this, Option.bind_some]
 cases (List.range' 0 l.length).all (riseN l) <;> rfl
theorem good_ok {F : Nat} {l : List Need} (hl : l.length ≤ 1000) (hF : l.length < F) : fn52 F l = some (l.any fun n => !goodN n) := by
 have := findAny l fn53 (fn99_l1 l) (by omega) (fun n k _ => fn99_l1_s l n k) (F := F) (.inr hF)
 rw [fn52, fn99]
 refine Eq.trans this ?_
 congr 1
 congr 1
 funext n
 unfold fn53 goodN
 rw [Bool.not_and]; rfl
theorem needs_l1 {t : PType} (hl : t.fNeeds.length ≤ 1000) : ∀ (n k : Nat), k ≤ t.fNeeds.length → t.fNeeds.length - k < n → fn29_l1 t n (k : Int) = some (bif (List.range' k (t.fNeeds.length - k)).all (fun i : Nat => riseN t.fNeeds i && goodN (gt t.fNeeds (i : Int))) then .inl () else .inr 34)
 | 0, k, h1, h2 => by omega
 | n + 1, k, h1, h2 => by
  rw [fn29_l1_s]
  by_cases hk : k < t.fNeeds.length
  ·rw [show decide ((k : Int) < (t.fNeeds.length : Int)) = true by simp; omega, cond_true, show IntKind.i64.wrap ((k : Int) + 1) = ((k + 1 : Nat) : Int) from w64 (by omega), needs_l1 hl n (k + 1) (by omega) (by omega), show t.fNeeds.length - k = (t.fNeeds.length - (k + 1)) + 1 by omega, List.range'_succ, List.all_cons,
    show inb (k : Int) t.fNeeds.length = true from inb_iff.2 ⟨by omega, by omega⟩, cond_true, w64 (n := (k : Int) - 1) (by omega)]
   have hr : (decide ((0 : Int) < (k : Int)) && decide ((gt t.fNeeds (k : Int)).fHelper ≤ (gt t.fNeeds ((k : Int) - 1)).fHelper)) = !riseN t.fNeeds k := by
    unfold riseN
    by_cases h0 : k = 0
    ·subst h0; simp
    ·have e1 : decide ((0 : Int) < (k : Int)) = true := by simp; omega
     rw [e1]; simp only [h0, decide_false, Bool.false_or, Bool.true_and]
     rw [← decide_not]; exact decide_eq_decide.2 (by omega)
   have hb : ∀ A : Bool, (bif A then true else bif decide ((0 : Int) < (k : Int)) then inb ((k : Int) - 1) t.fNeeds.length else true) = true := fun A => by
    cases A with
    | true => rfl
    | false =>
     by_cases h0 : k = 0
     ·subst h0; rfl
     ·rw [show inb ((k : Int) - 1) t.fNeeds.length = true from inb_iff.2 ⟨by omega, by omega⟩]
      cases decide ((0 : Int) < (k : Int)) <;> rfl
   rw [hb, cond_true, hr]
   unfold goodN
   cases fn76 (gt t.fNeeds (k : Int)).fHelper <;> cases riseN t.fNeeds k <;> cases fn77 (gt t.fNeeds (k : Int)).fMajor (gt t.fNeeds (k : Int)).fMinor <;> simp
  ·rw [show decide ((k : Int) < (t.fNeeds.length : Int)) = false by simp; omega, cond_false, show t.fNeeds.length - k = 0 by omega]; rfl
theorem needs_same {l : List Need} : ((List.range' 0 l.length).all (riseN l) && !(l.any fun n => !goodN n)) = (List.range' 0 l.length).all (fun i : Nat => riseN l i && goodN (gt l (i : Int))) := by
 rw [Bool.eq_iff_iff, Bool.and_eq_true, List.all_eq_true, List.all_eq_true, Bool.not_eq_true', List.any_eq_false]
 constructor
 ·rintro ⟨h1, h2⟩ i hi
  rw [Bool.and_eq_true]
  have hi' : i < l.length := by simpa using hi
  have hm : gt l (i : Int) ∈ l := by
   have : gt l (i : Int) = l[i] := by simp [gt, hi']
   rw [this]; exact List.getElem_mem _
  refine ⟨h1 i hi, ?_⟩
  have := h2 _ hm
  simpa using this
 ·intro h
  refine ⟨fun i hi => (Bool.and_eq_true _ _ ▸ h i hi).1, fun n hn => ?_⟩
  obtain ⟨i, hi, e⟩ := List.mem_iff_getElem.1 hn
  have := h i (by simp; omega)
  have e2 : gt l (i : Int) = n := by rw [← e]; simp [gt, hi]
  rw [e2, Bool.and_eq_true] at this
  simp [this.2]
def endF (t : PType) (k : Nat) : Int := if k = 0 then 0 else IntKind.i64.wrap ((gt t.fFields ((k : Int) - 1)).fOff + (gt t.fFields ((k : Int) - 1)).fSize)
theorem fields_step {F : Nat} (hF : 10 ≤ F) {t : PType} (hl : t.fFields.length ≤ 1000) {k : Nat} (hk : k < t.fFields.length) (x : Ar Int 4) (n : Nat) :
  (∃ x', fn58_r1 F t x (k : Int) (gt t.fFields (k : Int)) = some (x', 1) ∧ fn75_l1 t (n + 1) (endF t k) (gt x.l 2) (gt x.l 3) (k : Int) = some (.inr false)) ∨
  ∃ x' : Ar Int 4, fn58_r1 F t x (k : Int) (gt t.fFields (k : Int)) = some (x', 0) ∧ fn75_l1 t (n + 1) (endF t k) (gt x.l 2) (gt x.l 3) (k : Int) = fn75_l1 t n (endF t (k + 1)) (gt x'.l 2) (gt x'.l 3) ((k + 1 : Nat) : Int) := by
 have hend : endF t (k + 1) = IntKind.i64.wrap ((gt t.fFields (k : Int)).fOff + (gt t.fFields (k : Int)).fSize) := by
  unfold endF
  rw [if_neg (by omega), show ((k + 1 : Nat) : Int) - 1 = (k : Int) by omega]
 have hprog : fn58_r1 F t x (k : Int) (gt t.fFields (k : Int)) = (Option.bind (fn102 F ([1, 2, 4, 8] : List Int) (gt t.fFields (k : Int)).fSize) fun v => (bif !v then (some (x, 1)) else (bif decide ((gt t.fFields (k : Int)).fOff < endF t k) then (some (x, 1)) else (bif decide ((IntKind.i64.wrap (t.fCtx - (gt t.fFields (k : Int)).fSize)) < (gt t.fFields (k : Int)).fOff) then (some (x, 1)) else (bif (gt t.fFields (k : Int)).fSize != 0 then (bif ((gt t.fFields (k : Int)).fOff.tmod (gt t.fFields (k : Int)).fSize) != 0 then (some (x, 1)) else (bif decide ((gt t.fFields (k : Int)).fKind < 1) then (some (x, 1)) else (bif decide ((3 : Int) < (gt t.fFields (k : Int)).fKind) then (some (x, 1)) else (bif (((gt t.fFields (k : Int)).fKind == 2) || ((gt t.fFields (k : Int)).fKind == 3)) && (((gt t.fFields (k : Int)).fSize != 8) || (gt t.fFields (k : Int)).fWrite) then (some (x, 1)) else (bif inb (gt t.fFields (k : Int)).fKind 4 then (some (x.set (gt t.fFields (k : Int)).fKind (IntKind.i64.wrap ((gt x.l (gt t.fFields (k : Int)).fKind) + 1)), 0)) else none))))) else none))))) := by
  have hcl : (cutX t.fFields 0 (0 + min ((k : Int)).toNat t.fFields.length)).length = k := by
   rw [cutX_length (by rw [Int.toNat_natCast]; omega), Int.toNat_natCast]; omega
  have hmin : min ((k : Int)).toNat t.fFields.length = k := by rw [Int.toNat_natCast]; omega
  rw [fn58_r1, hcl, w64 (n := (k : Int) - 1) (by omega)]
  by_cases h0 : k = 0
  ·subst h0; rfl
  ·have e1 : decide ((0 : Int) ≤ (k : Int) - 1) = true := by simp; omega
   rw [e1, cond_true, hmin, show inb ((k : Int) - 1) k = true from inb_iff.2 ⟨by omega, by omega⟩, cond_true]
   have e2 : gt (cutX t.fFields 0 (0 + k)) ((k : Int) - 1) = gt t.fFields ((k : Int) - 1) := by
    unfold gt cutX
    rw [List.getD_eq_getElem?_getD, List.getD_eq_getElem?_getD, List.drop_zero, List.getElem?_take, if_pos (by omega)]
   rw [e2]
   have e3 : endF t k = IntKind.i64.wrap ((gt t.fFields ((k : Int) - 1)).fOff + (gt t.fFields ((k : Int) - 1)).fSize) := by unfold endF; rw [if_neg h0]
   rw [e3]
 rw [hprog, has102 _ _ (by simp) (by simp; omega), fn75_l1_s, hend]
 generalize gt t.fFields (k : Int) = f
 generalize endF t k = e
 rw [show decide ((k : Int) < (t.fFields.length : Int)) = true by simp; omega, cond_true, show inb (k : Int) t.fFields.length = true from inb_iff.2 ⟨by omega, by omega⟩, cond_true, show IntKind.i64.wrap ((k : Int) + 1) = ((k + 1 : Nat) : Int) from w64 (by omega)]
 have hs : ((((f.fSize != 1) && (f.fSize != 2)) && (f.fSize != 4)) && (f.fSize != 8)) = !decide (f.fSize ∈ ([1, 2, 4, 8] : List Int)) := by
  by_cases h1 : f.fSize = 1 <;> by_cases h2 : f.fSize = 2 <;> by_cases h4 : f.fSize = 4 <;> by_cases h8 : f.fSize = 8 <;> simp [bne, h1, h2, h4, h8]
 rw [hs, Option.bind_some]
 cases hin : decide (f.fSize ∈ ([1, 2, 4, 8] : List Int)) with
 | false => exact .inl ⟨x, rfl, rfl⟩
 | true =>
 have hs0 : (f.fSize != 0) = true := by
  have : f.fSize ∈ ([1, 2, 4, 8] : List Int) := of_decide_eq_true hin
  simp at this; simp; omega
 simp only [Bool.not_true, cond_false, Bool.false_or]
 cases decide (f.fOff < e) with
 | true => exact .inl ⟨x, rfl, rfl⟩
 | false =>
 cases decide (IntKind.i64.wrap (t.fCtx - f.fSize) < f.fOff) with
 | true => exact .inl ⟨x, rfl, rfl⟩
 | false =>
 rw [hs0]
 simp only [cond_true, cond_false, Bool.false_or]
 cases (f.fOff.tmod f.fSize != 0) with
 | true => exact .inl ⟨x, rfl, rfl⟩
 | false =>
 simp only [cond_false]
 have setg : ∀ (c : Nat) (j : Nat), c < 4 → gt (x.set (c : Int) (IntKind.i64.wrap (gt x.l (c : Int) + 1))).l (j : Int) = if j = c then IntKind.i64.wrap (gt x.l (c : Int) + 1) else gt x.l (j : Int) := fun c j hc => by
  rw [set_l]; exact gt_setN (by rw [x.h]; exact hc)
 by_cases k1 : f.fKind = 1
 ·refine .inr ⟨x.set 1 (IntKind.i64.wrap (gt x.l 1 + 1)), ?_, ?_⟩
  ·rw [k1]; rfl
  ·rw [k1]
   have a2 := setg 1 2 (by omega)
   have a3 := setg 1 3 (by omega)
   rw [if_neg (by omega)] at a2 a3
   have a2' : gt (x.set 1 (IntKind.i64.wrap (gt x.l 1 + 1))).l 2 = gt x.l 2 := a2
   have a3' : gt (x.set 1 (IntKind.i64.wrap (gt x.l 1 + 1))).l 3 = gt x.l 3 := a3
   rw [a2', a3']; rfl
 ·have k1' : (f.fKind == 1) = false := by simp [k1]
  rw [k1']
  by_cases k2 : f.fKind = 2
  ·rw [k2]
   cases ((f.fSize != 8) || f.fWrite) with
   | true => exact .inl ⟨x, rfl, rfl⟩
   | false =>
    refine .inr ⟨x.set 2 (IntKind.i64.wrap (gt x.l 2 + 1)), rfl, ?_⟩
    have a2 := setg 2 2 (by omega)
    have a3 := setg 2 3 (by omega)
    rw [if_pos rfl] at a2
    rw [if_neg (by omega)] at a3
    have a2' : gt (x.set 2 (IntKind.i64.wrap (gt x.l 2 + 1))).l 2 = IntKind.i64.wrap (gt x.l 2 + 1) := a2
    have a3' : gt (x.set 2 (IntKind.i64.wrap (gt x.l 2 + 1))).l 3 = gt x.l 3 := a3
    rw [a2', a3']; rfl
  ·have k2' : (f.fKind == 2) = false := by simp [k2]
   rw [k2']
   by_cases k3 : f.fKind = 3
   ·rw [k3]
    cases ((f.fSize != 8) || f.fWrite) with
    | true => exact .inl ⟨x, rfl, rfl⟩
    | false =>
     refine .inr ⟨x.set 3 (IntKind.i64.wrap (gt x.l 3 + 1)), rfl, ?_⟩
     have a2 := setg 3 2 (by omega)
     have a3 := setg 3 3 (by omega)
     rw [if_neg (by omega)] at a2
     rw [if_pos rfl] at a3
     have a2' : gt (x.set 3 (IntKind.i64.wrap (gt x.l 3 + 1))).l 2 = gt x.l 2 := a2
     have a3' : gt (x.set 3 (IntKind.i64.wrap (gt x.l 3 + 1))).l 3 = IntKind.i64.wrap (gt x.l 3 + 1) := a3
     rw [a2', a3']; rfl
   ·have k3' : (f.fKind == 3) = false := by simp [k3]
    rw [k3']
    by_cases c1 : f.fKind < 1
    ·exact .inl ⟨x, by simp [c1], rfl⟩
    ·have c2 : (3 : Int) < f.fKind := by omega
     exact .inl ⟨x, by simp [c1, c2], rfl⟩
theorem fields_loop {F : Nat} (hF : 10 ≤ F) {t : PType} (hl : t.fFields.length ≤ 1000) : ∀ (n k : Nat) (x : Ar Int 4), k ≤ t.fFields.length → t.fFields.length - k < n →
  (∃ x', fn127_l1 (stepR (fun (s : (Ar Int 4)) (y : Int × Fld) => fn58_r1 F t s y.1 y.2)) goR t.fFields n (x, 0) (k : Int) = some (.inr (x', 1)) ∧ fn75_l1 t n (endF t k) (gt x.l 2) (gt x.l 3) (k : Int) = some (.inr false)) ∨
  ∃ x' : Ar Int 4, fn127_l1 (stepR (fun (s : (Ar Int 4)) (y : Int × Fld) => fn58_r1 F t s y.1 y.2)) goR t.fFields n (x, 0) (k : Int) = some (.inl (x', 0)) ∧ fn75_l1 t n (endF t k) (gt x.l 2) (gt x.l 3) (k : Int) = some (.inl (gt x'.l 2, gt x'.l 3))
 | 0, k, x, h1, h2 => by omega
 | n + 1, k, x, h1, h2 => by
  rw [fn127_l1_s]
  by_cases hk : k < t.fFields.length
  ·rw [show decide ((k : Int) < (t.fFields.length : Int)) = true by simp; omega, cond_true, show inb (k : Int) t.fFields.length = true from inb_iff.2 ⟨by omega, by omega⟩, cond_true, show sliceOk ((0 : Nat) : Int) (k : Int) t.fFields.length = true from sliceOk_iff.2 ⟨by omega, by omega, by omega⟩, cond_true]
   have hst : stepR (fun (s : (Ar Int 4)) (y : Int × Fld) => fn58_r1 F t s y.1 y.2) (x, 0) ((k : Int), gt t.fFields (k : Int)) = fn58_r1 F t x (k : Int) (gt t.fFields (k : Int)) := rfl
   rw [hst]
   rcases fields_step hF hl hk x n with ⟨x', e1, e2⟩ | ⟨x', e1, e2⟩
   ·rw [e1]; exact .inl ⟨x', rfl, e2⟩
   ·rw [e1, e2, Option.bind_some, show IntKind.i64.wrap ((k : Int) + 1) = ((k + 1 : Nat) : Int) from w64 (by omega)]
    exact fields_loop hF hl n (k + 1) x' (by omega) (by omega)
  ·rw [show decide ((k : Int) < (t.fFields.length : Int)) = false by simp; omega, cond_false, fn75_l1_s, show decide ((k : Int) < (t.fFields.length : Int)) = false by simp; omega, cond_false]
   exact .inr ⟨x, rfl, rfl⟩
theorem fields_eq {F : Nat} (hF : 1002 ≤ F) {t : PType} (hl : t.fFields.length ≤ 1000) : ∃ b, fn58 F t = some b ∧ fn75 F t = some b := by
 have := fields_loop (F := F) (by omega) hl F 0 (Ar.rep 4 0) (by omega) (by omega)
 have z : ∀ i : Int, gt (Ar.rep 4 (0 : Int)).l i = 0 := fun i => by
  unfold gt Ar.rep
  rw [List.getD_eq_getElem?_getD, List.getElem?_replicate]
  split <;> rfl
 rw [show ((0 : Nat) : Int) = 0 from rfl, z, z, show endF t 0 = 0 from rfl] at this
 rcases this with ⟨x', e1, e2⟩ | ⟨x', e1, e2⟩
 ·exact ⟨false, by rw [fn58, fn127, e1]; rfl, by rw [fn75, e2]; rfl⟩
 ·refine ⟨(gt x'.l 2 == gt x'.l 3) && decide (gt x'.l 2 ≤ 1), ?_, by rw [fn75, e2]; rfl⟩
  rw [fn58, fn127, e1]
  show fn58_k1_1 x' = _
  rw [fn58_k1_1, show ((2 : Nat) : Int) = 2 from rfl, show ((3 : Nat) : Int) = 3 from rfl]
  cases h : (gt x'.l 2 == gt x'.l 3) with
  | false => rfl
  | true => rw [eq_of_beq h]; rfl
theorem kinds_eq {F : Nat} (hF : 2000 ≤ F) {t : PType} (hf : t.fFields.length ≤ 1000) (hn : t.fNeeds.length ≤ 1000) (hs : t.fName.size ≤ 100000) (hsF : t.fName.size < F) : ∃ e, fn24 F t = some e ∧ fn29 F t = some e := by
 obtain ⟨nm, n1⟩ := name_ok (F := F) hs hsF
 obtain ⟨fb, f1, f2⟩ := fields_eq (F := F) (by omega) hf
 have hnd := needs_l1 hn F 0 (by omega) (by omega)
 rw [show ((0 : Nat) : Int) = 0 from rfl, Nat.sub_zero] at hnd
 rw [fn24, fn29, name_eq, n1, f1, f2, rise_ok hn (by omega), good_ok hn (by omega), hnd, ← needs_same]
 have e57 : fn57 (⟨8, 256⟩ : S_kinds_bound_int_) t.fCtx = fn74 t.fCtx 8 256 := rfl
 rw [e57]
 simp only [Option.bind_some]
 cases (List.range' 0 t.fNeeds.length).all (riseN t.fNeeds) <;> cases (t.fNeeds.any fun n => !goodN n) <;> cases nm <;> cases fn74 t.fCtx 8 256 <;> cases decide ((32 : Int) < (t.fFields.length : Int)) <;> cases decide ((64 : Int) < (t.fNeeds.length : Int)) <;> cases fb <;> simp [fn29_k1] <;> cases decide (t.fHi < t.fLo) <;> simp
end Go.Proofs.YthpjmknpkdoadaaGreat
namespace Go.Proofs.YthpjmknpkdoadaaGreat
open Go Go.HW
set_option linter.unusedVariables false
set_option maxRecDepth 8000
def is2 (F : Nat) (p0 : List Instr) (p1 : PType) : Option Bool :=
 Option.bind (fn20 F p0) fun v1 => (Option.bind (bif bif v1.2 != 0 then false else true then fn24 F p1 else some 0) fun v3 => (Option.bind (bif bif ((v1.2 != 0) || (v3 != 0)) || (decide ((64 : Int) < (p0.length : Int))) then false else true then fn25 F p0 else some false) fun v5 => (bif (((v1.2 != 0) || (v3 != 0)) || (decide ((64 : Int) < (p0.length : Int)))) || v5 then (some false) else (Option.bind (fn27 F (⟨p0, p1, tg p0⟩ : Walk)) fun v10 => (some v10)))))
theorem is2_eq {F : Nat} (hF : 6000 ≤ F) {p : List Instr} {t : PType} (hp : p.length ≤ 5000) (hw : WF p) : fn11 F p t = is2 F p t := by
 rw [fn11, is2, targets_prog hF hp hw]; rfl
theorem aw1 : is2 40000 ([(fn15 0 1), (fn16)] : List Instr) (fn18 0 1) = some true := by kernel_rfl
theorem aw2 : is2 40000 ([(fn15 0 1), (fn16)] : List Instr) (fn18 2 3) = some false := by kernel_rfl
theorem aw3 : is2 40000 ([(⟨97, 0, 10, (-8), 0⟩ : Instr), (fn15 0 1), (fn16)] : List Instr) (fn18 0 1) = some false := by kernel_rfl
theorem aw4 : is2 40000 ([(⟨122, 10, 0, (-8), 5⟩ : Instr), (⟨97, 0, 10, (-8), 0⟩ : Instr), (fn15 0 1), (fn16)] : List Instr) (fn18 0 1) = some true := by kernel_rfl
def okb (x : Instr) : Bool := decide (0 ≤ x.fOp) && decide (x.fOp < 256) && (decide (-32768 ≤ x.fOff) && decide (x.fOff < 32768)) && (decide (-2147483648 ≤ x.fImm) && decide (x.fImm < 2147483648)) && decide (0 ≤ x.fDst) && decide (0 ≤ x.fSrc)
theorem wf2_of {p : List Instr} (h : p.all okb = true) : WF2 p := by
 intro x hx
 have := List.all_eq_true.1 h x hx
 unfold okb at this
 simp only [Bool.and_eq_true, decide_eq_true_eq] at this
 obtain ⟨⟨⟨⟨⟨a, b⟩, c⟩, d⟩, e⟩, f⟩ := this
 exact ⟨⟨⟨a, b⟩, c, d⟩, e, f⟩
theorem awake_ok : fn8 40000 = some true := by
 rw [fn8, is2_eq (by omega) (by simp) (wf2_of (by decide)).wf, aw1, Option.bind_some, cond_true, is2_eq (by omega) (by simp) (wf2_of (by decide)).wf, aw2]
 simp only [Option.bind_some, Bool.not_false, cond_true]
 rw [is2_eq (by omega) (by simp) (wf2_of (by decide)).wf, aw3]
 simp only [Option.bind_some, Bool.not_false, cond_true]
 rw [is2_eq (by omega) (by simp) (wf2_of (by decide)).wf, aw4]
 rfl
end Go.Proofs.YthpjmknpkdoadaaGreat
namespace Go.Proofs.YthpjmknpkdoadaaGreat
open Go Go.HW
set_option linter.unusedVariables false
set_option maxRecDepth 8000
theorem types_eq {F : Nat} (hF : 10 ≤ F) {t : PType} (hs : t.fName.size ≤ 140737488355328) (hf : t.fFields.length ≤ 140737488355328) (hn : t.fNeeds.length ≤ 140737488355328) : fn7 F t 200 = some (1 + ((t.fName.size / 8 : Nat) : Int) + (t.fFields.length : Int) + (t.fNeeds.length : Int)) := by
 obtain ⟨m, rfl⟩ : ∃ m, F = m + 2 := ⟨F - 2, by omega⟩
 have td : IntKind.i64.wrap ((t.fName.size : Int).tdiv 8) = ((t.fName.size / 8 : Nat) : Int) := by
  rw [Int.tdiv_eq_ediv_of_nonneg (by omega), w64 (by omega)]; omega
 have h8 : t.fName.size / 8 ≤ 140737488355328 := by omega
 rw [fn7, fn7_l1_s, td]
 generalize t.fName.size / 8 = s8 at h8 ⊢
 rw [show (decide ((0 : Int) < 1) && decide ((1 : Int) ≤ 200)) = true from rfl, cond_true, show inb 0 1 = true from rfl, cond_true, w64 (n := 1 + (s8 : Int)) (by omega), w64 (n := 1 + (s8 : Int) + (t.fFields.length : Int)) (by omega), w64 (n := 1 + (s8 : Int) + (t.fFields.length : Int) + (t.fNeeds.length : Int)) (by omega)]
 rfl
end Go.Proofs.YthpjmknpkdoadaaGreat
namespace Go.Proofs.YthpjmknpkdoadaaGreat
open Go Go.HW
set_option linter.unusedVariables false
set_option maxRecDepth 8000
def xF : Fld := ⟨248, 1, 1, false⟩
structure Wd (t u : PType) : Prop where
 nm : u.fName = t.fName
 nd : u.fNeeds = t.fNeeds
 lo : u.fLo ≤ t.fLo
 hi : t.fHi ≤ u.fHi
 fl : (u.fCtx = t.fCtx ∧ u.fFields = t.fFields) ∨ (t.fCtx < 248 ∧ t.fFields.length < 32 ∧ u.fCtx = 256 ∧ u.fFields = t.fFields ++ [xF])
theorem field_find {t : PType} {o z : Int} (hl : t.fFields.length ≤ 1000) : ∀ (n k : Nat), k ≤ t.fFields.length → t.fFields.length - k < n →
  fn123_l1 t o z n (k : Int) = some (match (t.fFields.drop k).find? (fun f => f.fOff == o && f.fSize == z) with | some f => .inr (f, true) | none => .inl ())
 | 0, k, _, h => by omega
 | n + 1, k, hk, hn => by
  rw [fn123_l1_s]
  rcases Nat.lt_or_ge k t.fFields.length with h | h
  ·have g1 : decide ((k : Int) < (t.fFields.length : Int)) = true := by simp; omega
   have g2 : inb (k : Int) t.fFields.length = true := inb_iff.2 ⟨by omega, by omega⟩
   have g4 : IntKind.i64.wrap ((k : Int) + 1) = ((k + 1 : Nat) : Int) := w64 (by omega)
   have hg : gt t.fFields (k : Int) = t.fFields[k] := by simp [gt, List.getD_eq_getElem?_getD, List.getElem?_eq_getElem h]
   rw [List.drop_eq_getElem_cons h, List.find?_cons, ← hg, g1, g2, g4, cond_true, cond_true]
   cases e : ((gt t.fFields (k : Int)).fOff == o) <;> cases e2 : ((gt t.fFields (k : Int)).fSize == z) <;> (try simp only [Bool.and_true, Bool.and_false, cond_true, cond_false]) <;> first | rfl | exact field_find hl n (k + 1) (by omega) (by omega)
  ·have g1 : decide ((k : Int) < (t.fFields.length : Int)) = false := by simp; omega
   rw [g1, List.drop_eq_nil_of_le h]; rfl
theorem field_wd {F : Nat} (hF : 1010 ≤ F) {t u : PType} (w : Wd t u) (hl : t.fFields.length ≤ 200) (o z : Int) : ∃ r q, fn123 F t o z = some r ∧ fn123 F u o z = some q ∧ (r.2 = true → q = r) := by
 have h1 := field_find (t := t) (o := o) (z := z) (by omega) F 0 (by omega) (by omega)
 have hu : u.fFields.length ≤ 201 := by rcases w.fl with ⟨_, e⟩ | ⟨_, _, _, e⟩ <;> rw [e] <;> (try simp) <;> omega
 have h2 := field_find (t := u) (o := o) (z := z) (by omega) F 0 (by omega) (by omega)
 rw [show ((0 : Nat) : Int) = 0 from rfl, List.drop_zero] at h1 h2
 rw [fn123, fn123, h1, h2]
 cases e : t.fFields.find? (fun f => f.fOff == o && f.fSize == z) with
 | none =>
  cases u.fFields.find? (fun f => f.fOff == o && f.fSize == z) with
  | none => exact ⟨_, _, rfl, rfl, fun h => by cases h⟩
  | some f => exact ⟨_, _, rfl, rfl, fun h => by cases h⟩
 | some f =>
  have : u.fFields.find? (fun f => f.fOff == o && f.fSize == z) = some f := by
   rcases w.fl with ⟨_, e'⟩ | ⟨_, _, _, e'⟩ <;> rw [e']
   ·exact e
   ·rw [List.find?_append, e]; rfl
  rw [this]
  exact ⟨_, _, rfl, rfl, fun _ => rfl⟩
theorem f75 {t u : PType} (hc : 8 ≤ t.fCtx ∧ t.fCtx < 248) (hl : t.fFields.length ≤ 32) (hu : u.fCtx = 256) (hf : u.fFields = t.fFields ++ [xF]) :
  ∀ (m n k : Nat) (a b c : Int) (r : Int × Int), k ≤ t.fFields.length → t.fFields.length - k + 1 < n → 0 ≤ a → a ≤ t.fCtx → fn75_l1 t m a b c (k : Int) = some (.inl r) → fn75_l1 u n a b c (k : Int) = some (.inl r)
 | 0, _, _, _, _, _, _, _, _, _, _, h => by cases h
 | m + 1, n, k, a, b, c, r, hk, hn, ha, ha2, h => by
  have hul : u.fFields.length = t.fFields.length + 1 := by rw [hf]; simp
  obtain ⟨n, rfl⟩ : ∃ n', n = n' + 2 := ⟨n - 2, by omega⟩
  rw [fn75_l1_s] at h
  rw [fn75_l1_s]
  have g2 : decide ((k : Int) < (u.fFields.length : Int)) = true := by simp; omega
  have g3 : inb (k : Int) u.fFields.length = true := inb_iff.2 ⟨by omega, by omega⟩
  have g4 : IntKind.i64.wrap ((k : Int) + 1) = ((k + 1 : Nat) : Int) := w64 (by omega)
  rcases Nat.lt_or_ge k t.fFields.length with hlt | hge
  ·have g1 : decide ((k : Int) < (t.fFields.length : Int)) = true := by simp; omega
   have g5 : inb (k : Int) t.fFields.length = true := inb_iff.2 ⟨by omega, by omega⟩
   have hg : gt u.fFields (k : Int) = gt t.fFields (k : Int) := by simp [gt, hf, List.getD_eq_getElem?_getD, List.getElem?_append_left hlt]
   rw [g1, g5, cond_true, cond_true, g4] at h
   rw [g2, g3, cond_true, cond_true, g4, hg, hu]
   generalize gt t.fFields (k : Int) = f at h ⊢
   obtain ⟨fo, fs, fk, fw⟩ := f
   simp only at h ⊢
   have hs : (fs = 1 ∨ fs = 2 ∨ fs = 4 ∨ fs = 8) ∧ ¬ fo < a ∧ ¬ IntKind.i64.wrap (t.fCtx - fs) < fo ∧ fo.tmod fs = 0 := by
    by_cases q1 : fs = 1 ∨ fs = 2 ∨ fs = 4 ∨ fs = 8
    ·by_cases q2 : fo < a
     ·rw [decide_eq_true q2] at h; simp at h
     by_cases q3 : IntKind.i64.wrap (t.fCtx - fs) < fo
     ·rw [decide_eq_true q3] at h; simp at h
     by_cases q4 : fo.tmod fs = 0
     ·exact ⟨q1, q2, q3, q4⟩
     ·have : (fo.tmod fs != 0) = true := by simpa using q4
      have h0 : (fs != 0) = true := by simp; omega
      rw [this, h0] at h; simp at h
    ·have : ((((fs != 1) && (fs != 2)) && (fs != 4)) && (fs != 8)) = true := by simp; omega
     rw [this] at h; simp at h
   obtain ⟨q1, q2, q3, q4⟩ := hs
   rw [w64 (by omega)] at q3
   have z1 : ((((fs != 1) && (fs != 2)) && (fs != 4)) && (fs != 8)) = false := by rcases q1 with rfl | rfl | rfl | rfl <;> rfl
   have z0 : (fs != 0) = true := by simp; omega
   have z4 : (fo.tmod fs != 0) = false := by simp [q4]
   have zt : IntKind.i64.wrap (t.fCtx - fs) = t.fCtx - fs := w64 (by omega)
   have zu : IntKind.i64.wrap (256 - fs) = 256 - fs := w64 (by omega)
   have zw : IntKind.i64.wrap (fo + fs) = fo + fs := w64 (by omega)
   rw [z1, z0, z4, zt, decide_eq_false q2, decide_eq_false (show ¬ t.fCtx - fs < fo by omega), zw] at h
   rw [z1, z0, z4, zu, decide_eq_false q2, decide_eq_false (show ¬ 256 - fs < fo by omega), zw]
   simp only [Bool.or_false, Bool.false_or, cond_false, cond_true] at h ⊢
   cases k1 : (fk == 1) with
   | true =>
    rw [k1, cond_true] at h; rw [cond_true]
    exact f75 hc hl hu hf m (n + 1) (k + 1) _ _ _ r (by omega) (by omega) (by omega) (by omega) h
   | false =>
   rw [k1, cond_false] at h; rw [cond_false]
   cases k2 : (fk == 2) with
   | true =>
    rw [k2, cond_true] at h; rw [cond_true]
    cases k4 : ((fs != 8) || fw) with
    | true => rw [k4] at h; cases h
    | false =>
     rw [k4, cond_false] at h; rw [cond_false]
     exact f75 hc hl hu hf m (n + 1) (k + 1) _ _ _ r (by omega) (by omega) (by omega) (by omega) h
   | false =>
   rw [k2, cond_false] at h; rw [cond_false]
   cases k3 : (fk == 3) with
   | true =>
    rw [k3, cond_true] at h; rw [cond_true]
    cases k4 : ((fs != 8) || fw) with
    | true => rw [k4] at h; cases h
    | false =>
     rw [k4, cond_false] at h; rw [cond_false]
     exact f75 hc hl hu hf m (n + 1) (k + 1) _ _ _ r (by omega) (by omega) (by omega) (by omega) h
   | false => rw [k3, cond_false] at h; cases h
  ·have hke : k = t.fFields.length := by omega
   have g1 : decide ((k : Int) < (t.fFields.length : Int)) = false := by simp; omega
   have hg : gt u.fFields (k : Int) = xF := by simp [gt, hf, hke, List.getD_eq_getElem?_getD]
   have ge : decide (((k + 1 : Nat) : Int) < (u.fFields.length : Int)) = false := by simp; omega
   have zu : IntKind.i64.wrap (256 - 1) = 255 := by decide
   rw [g1, cond_false] at h
   rw [g2, g3, cond_true, cond_true, g4, hg, hu]
   have d1 : ¬ (248 : Int) < a := by omega
   simp only [xF, zu, d1, decide_false]
   show fn75_l1 u (n + 1) _ b c ((k + 1 : Nat) : Int) = _
   rw [fn75_l1_s, ge, cond_false]; exact h
theorem f75_same {t u : PType} (h1 : u.fCtx = t.fCtx) (h2 : u.fFields = t.fFields) : ∀ (n : Nat) (a b c d : Int), fn75_l1 u n a b c d = fn75_l1 t n a b c d
 | 0, _, _, _, _ => rfl
 | n + 1, a, b, c, d => by
  have ih := f75_same h1 h2 n
  rw [fn75_l1_s, fn75_l1_s, h1, h2]
  simp only [ih]
theorem needs_same_l {t u : PType} (h : u.fNeeds = t.fNeeds) : ∀ (n : Nat) (a : Int), fn29_l1 u n a = fn29_l1 t n a
 | 0, _ => rfl
 | n + 1, a => by
  have ih := needs_same_l h n
  rw [fn29_l1_s, fn29_l1_s, h]
  simp only [ih]
theorem type_wd {F : Nat} (hF : 1010 ≤ F) {t u : PType} (w : Wd t u) (h : fn29 F t = some 0) : fn29 F u = some 0 := by
 rw [fn29] at h ⊢
 rw [w.nm, w.nd]
 cases h1 : fn73 F t.fName with
 | none => rw [h1] at h; cases h
 | some v =>
 rw [h1, Option.bind_some] at h; rw [Option.bind_some]
 cases v with
 | false => cases h
 | true =>
 simp only [Bool.not_true, cond_false] at h ⊢
 cases h2 : ((!(fn74 t.fCtx 8 256)) || (decide ((32 : Int) < (t.fFields.length : Int)))) || (decide ((64 : Int) < (t.fNeeds.length : Int))) with
 | true => rw [h2] at h; cases h
 | false =>
 rw [h2, cond_false] at h
 simp only [Bool.or_eq_false_iff, fn74, Bool.not_eq_false', Bool.and_eq_true, decide_eq_true_eq, decide_eq_false_iff_not] at h2
 obtain ⟨⟨⟨c1, c2⟩, c3⟩, c4⟩ := h2
 have h3 : (((!(fn74 u.fCtx 8 256)) || (decide ((32 : Int) < (u.fFields.length : Int)))) || (decide ((64 : Int) < (t.fNeeds.length : Int)))) = false := by
  simp only [Bool.or_eq_false_iff, fn74, Bool.not_eq_false', Bool.and_eq_true, decide_eq_true_eq, decide_eq_false_iff_not]
  rcases w.fl with ⟨e1, e2⟩ | ⟨_, e0, e1, e2⟩ <;> rw [e1, e2] <;> simp <;> omega
 rw [h3, cond_false]
 have h4 : fn75 F t = some true → fn75 F u = some true := fun h => by
  rcases w.fl with ⟨e1, e2⟩ | ⟨e, e0, e1, e2⟩
  ·rw [fn75, f75_same e1 e2]; exact h
  ·rw [fn75] at h ⊢
   cases h5 : fn75_l1 t F 0 0 0 0 with
   | none => rw [h5] at h; cases h
   | some o =>
    cases o with
    | inr b =>
     rw [h5] at h
     cases b with
     | false => cases h
     | true =>
      exfalso
      have : ∀ (n : Nat) (a b c d : Int), fn75_l1 t n a b c d ≠ some (.inr true) := fun n => by
       induction n with
       | zero => intro a b c d h; cases h
       | succ n ih =>
        intro a b c d h
        rw [fn75_l1_s] at h
        revert h
        generalize gt t.fFields d = f
        cases decide (d < (t.fFields.length : Int)) <;> simp only [cond_true, cond_false]
        ·intro h; cases h
        cases inb d t.fFields.length <;> simp only [cond_true, cond_false]
        ·intro h; cases h
        generalize (bif (((((f.fSize != 1) && (f.fSize != 2)) && (f.fSize != 4)) && (f.fSize != 8)) || (decide (f.fOff < a))) || (decide ((IntKind.i64.wrap (t.fCtx - f.fSize)) < f.fOff)) then true else (f.fSize != 0)) = g1
        generalize ((((((f.fSize != 1) && (f.fSize != 2)) && (f.fSize != 4)) && (f.fSize != 8)) || (decide (f.fOff < a))) || (decide ((IntKind.i64.wrap (t.fCtx - f.fSize)) < f.fOff)) || ((f.fOff.tmod f.fSize) != 0)) = g2
        cases g1 <;> simp only [cond_true, cond_false]
        ·intro h; cases h
        cases g2 <;> simp only [cond_true, cond_false]
        ·cases (f.fKind == 1) <;> simp only [cond_true, cond_false]
         ·cases (f.fKind == 2) <;> simp only [cond_true, cond_false]
          ·cases (f.fKind == 3) <;> simp only [cond_true, cond_false]
           ·intro h; cases h
           ·cases ((f.fSize != 8) || f.fWrite) <;> simp only [cond_true, cond_false]
            ·exact ih _ _ _ _
            ·intro h; cases h
          ·cases ((f.fSize != 8) || f.fWrite) <;> simp only [cond_true, cond_false]
           ·exact ih _ _ _ _
           ·intro h; cases h
         ·exact ih _ _ _ _
        ·intro h; cases h
      exact this _ _ _ _ _ h5
    | inl r =>
     have := f75 (t := t) (u := u) ⟨c1, e⟩ (by omega) e1 e2 F F 0 0 0 0 r (by omega) (by omega) (by omega) (by omega) h5
     rw [show ((0 : Nat) : Int) = 0 from rfl] at this
     rw [h5] at h; rw [this]; exact h
 cases h5 : fn75 F t with
 | none => rw [h5] at h; cases h
 | some v =>
 cases v with
 | false => rw [h5] at h; cases h
 | true =>
 rw [h5] at h; rw [h4 h5]
 simp only [Option.bind_some, Bool.not_true, cond_false] at h ⊢
 rw [needs_same_l w.nd]
 cases h6 : fn29_l1 t F 0 with
 | none => rw [h6] at h; cases h
 | some o =>
  rw [h6] at h
  cases o with
  | inr v => exact h
  | inl v =>
   simp only [Option.bind_some, fn29_k1] at h ⊢
   have hlo := w.lo; have hhi := w.hi
   by_cases q : t.fHi < t.fLo
   ·rw [decide_eq_true q] at h; cases h
   ·rw [decide_eq_false (show ¬ u.fHi < u.fLo by omega)]; rfl
theorem jump_wd {F : Nat} {t u : PType} (w : Wd t u) {s : RSet} {p : List Instr} {i : Int} {b : Bool} (h : fn81 F s p i t = some b) : ∃ c, fn81 F s p i u = some c ∧ (b = true → c = true) := by
 rw [fn81] at h ⊢
 cases h1 : inb i p.length with
 | false => rw [h1] at h; cases h
 | true =>
 rw [h1, cond_true] at h; rw [cond_true]
 cases h2 : (fn72 (gt p i) == 0) with
 | true => rw [h2] at h; exact ⟨_, h, id⟩
 | false =>
 rw [h2, cond_false] at h; rw [cond_false]
 cases h3 : (fn72 (gt p i) == 128) with
 | true => rw [h3] at h; exact ⟨_, h, id⟩
 | false =>
 rw [h3, cond_false] at h; rw [cond_false]
 cases h4 : (fn72 (gt p i) == 144) with
 | false => rw [h4] at h; exact ⟨_, h, id⟩
 | true =>
 rw [h4, cond_true] at h; rw [cond_true]
 cases h5 : fn122 F p with
 | none => rw [h5] at h; cases h
 | some v =>
 rw [h5, Option.bind_some] at h; rw [Option.bind_some]
 cases h6 : fn81_l1 i v F 0 with
 | none => rw [h6] at h; cases h
 | some o =>
 rw [h6, Option.bind_some] at h; rw [Option.bind_some]
 cases o with
 | inr x => exact ⟨_, h, id⟩
 | inl x =>
 simp only [fn81_k1] at h ⊢
 cases h7 : (i == 0) with
 | true => rw [h7] at h; exact ⟨_, h, id⟩
 | false =>
 rw [h7, cond_false] at h; rw [cond_false]
 cases h8 : inb (IntKind.i64.wrap (i - 1)) p.length with
 | false => rw [h8] at h; cases h
 | true =>
 rw [h8, cond_true] at h; rw [cond_true]
 cases Option.some.inj h
 refine ⟨_, rfl, fun h => ?_⟩
 have hlo := w.lo; have hhi := w.hi
 simp only [Bool.and_eq_true, decide_eq_true_eq] at h ⊢
 obtain ⟨⟨a, b⟩, c⟩ := h
 exact ⟨⟨a, by omega⟩, by omega⟩
theorem load_wd {F : Nat} (hF : 1010 ≤ F) {t u : PType} (w : Wd t u) (hl : t.fFields.length ≤ 200) {s : RSet} {x : Instr} {b : Bool} (h : fn84 F s t x = some b) : ∃ c, fn84 F s u x = some c ∧ (b = true → c = true) := by
 rw [fn84] at h ⊢
 cases h1 : (x.fSrc == 10) with
 | true => rw [h1] at h; exact ⟨_, h, id⟩
 | false =>
 rw [h1, cond_false] at h; rw [cond_false]
 obtain ⟨r, q, e1, e2, e3⟩ := field_wd hF w hl (IntKind.i64.wrap x.fOff) (fn83 x)
 rw [e1, Option.bind_some] at h; rw [e2, Option.bind_some]
 cases Option.some.inj h
 refine ⟨_, rfl, fun h => ?_⟩
 simp only [Bool.and_eq_true] at h
 rw [e3 h.1.2]
 simp only [Bool.and_eq_true]; exact h
theorem step_wd {F : Nat} (hF : 1010 ≤ F) {t u : PType} (w : Wd t u) (hl : t.fFields.length ≤ 200) {s : RSet} {p : List Instr} {i : Int} {r : RSet × Bool} (h : fn33 F s p i t = some r) : ∃ c, fn33 F s p i u = some (r.1, c) ∧ (r.2 = true → c = true) := by
 rw [fn33] at h ⊢
 cases h1 : inb i p.length with
 | false => rw [h1] at h; cases h
 | true =>
 rw [h1, cond_true] at h; rw [cond_true]
 cases h2 : (fn71 (gt p i) == 5) with
 | true =>
  rw [h2, cond_true] at h; rw [cond_true]
  cases h3 : fn81 F s p i t with
  | none => rw [h3] at h; cases h
  | some b => obtain ⟨c, e1, e2⟩ := jump_wd w h3; rw [h3] at h; rw [e1]; cases Option.some.inj h; exact ⟨c, rfl, e2⟩
 | false =>
 rw [h2, cond_false] at h; rw [cond_false]
 cases h2 : (fn71 (gt p i) == 6) with
 | true =>
  rw [h2, cond_true] at h; rw [cond_true]
  cases h3 : fn81 F s p i t with
  | none => rw [h3] at h; cases h
  | some b => obtain ⟨c, e1, e2⟩ := jump_wd w h3; rw [h3] at h; rw [e1]; cases Option.some.inj h; exact ⟨c, rfl, e2⟩
 | false =>
 rw [h2, cond_false] at h; rw [cond_false]
 cases h4 : (fn71 (gt p i) == 2) with
 | true => rw [h4] at h; exact ⟨r.2, h, id⟩
 | false =>
 rw [h4, cond_false] at h; rw [cond_false]
 cases h4 : (fn71 (gt p i) == 3) with
 | true => rw [h4] at h; exact ⟨r.2, h, id⟩
 | false =>
 rw [h4, cond_false] at h; rw [cond_false]
 cases h4 : (fn71 (gt p i) == 0) with
 | true => rw [h4] at h; exact ⟨r.2, h, id⟩
 | false =>
 rw [h4, cond_false] at h; rw [cond_false]
 cases h4 : (fn71 (gt p i) == 1) with
 | false => rw [h4] at h; exact ⟨r.2, h, id⟩
 | true =>
 rw [h4, cond_true] at h; rw [cond_true]
 cases h3 : fn84 F s t (gt p i) with
 | none => rw [h3] at h; cases h
 | some b =>
  obtain ⟨c, e1, e2⟩ := load_wd hF w hl h3
  rw [h3, Option.bind_some] at h; rw [e1, Option.bind_some]
  cases h5 : inb ((gt p i).fDst) 11 with
  | false => rw [h5] at h; cases h
  | true => rw [h5, cond_true] at h; cases Option.some.inj h; exact ⟨c, rfl, e2⟩
theorem round_wd {F : Nat} (hF : 1010 ≤ F) {t u : PType} (w : Wd t u) (hl : t.fFields.length ≤ 200) {p : List Instr} {es : List Edge} :
  ∀ (n : Nat) (a : List RSet) (b : List Bool) (c : Bool) (k : Int) (r : (List RSet) × (List Bool) × Bool), fn32_l2 F p t es n a b c k = some r → fn32_l2 F p u es n a b c k = some r
 | 0, _, _, _, _, _, h => by cases h
 | n + 1, a, b, c, k, r, h => by
  have ih := round_wd hF w hl (p := p) (es := es) n
  rw [fn32_l2_s] at h ⊢
  cases h1 : decide (k < (es.length : Int)) with
  | false => rw [h1] at h; exact h
  | true =>
  rw [h1, cond_true] at h; rw [cond_true]
  cases h1 : inb k es.length with
  | false => rw [h1] at h; cases h
  | true =>
  rw [h1, cond_true] at h; rw [cond_true]
  generalize (gt es k).fFrom = f at h ⊢
  generalize (gt es k).fTo = d at h ⊢
  cases h1 : inb f b.length with
  | false => rw [h1] at h; cases h
  | true =>
  rw [h1, cond_true] at h; rw [cond_true]
  cases h1 : (!(gt b f)) with
  | true => rw [h1] at h; exact ih _ _ _ _ _ h
  | false =>
  rw [h1, cond_false] at h; rw [cond_false]
  cases h1 : inb f a.length with
  | false => rw [h1] at h; cases h
  | true =>
  rw [h1, cond_true] at h; rw [cond_true]
  cases h2 : fn33 F (gt a f) p f t with
  | none => rw [h2] at h; cases h
  | some v =>
  obtain ⟨x, e1, e2⟩ := step_wd hF w hl h2
  rw [h2, Option.bind_some] at h; rw [e1, Option.bind_some]
  cases h1 : inb d b.length with
  | false => rw [h1] at h; cases h
  | true =>
  rw [h1, cond_true] at h; rw [cond_true]
  cases h3 : gt b d with
  | true =>
   rw [h3, cond_true] at h; rw [cond_true]
   cases h1 : inb d a.length with
   | false => rw [h1] at h; cases h
   | true =>
   rw [h1, cond_true] at h; rw [cond_true]
   cases h4 : fn80 F v.1 (gt a d) with
   | none => rw [h4] at h; cases h
   | some y =>
   rw [h4, Option.bind_some] at h; rw [Option.bind_some]
   simp only [Bool.not_true, cond_false] at h ⊢
   revert h
   generalize (!((eqL y.fnumber.l ((gt a d).fnumber).l) && ((y.fctx == ((gt a d).fctx)) && ((eqL y.fbytes.l ((gt a d).fbytes).l) && true)))) = g
   cases g <;> exact ih _ _ _ _ _
  | false =>
   rw [h3, cond_false] at h; rw [cond_false]
   simp only [Bool.not_false, cond_true] at h ⊢
   cases h1 : inb d a.length with
   | false => rw [h1] at h; cases h
   | true => rw [h1, cond_true] at h; rw [cond_true]; exact ih _ _ _ _ _ h
theorem rounds_wd {F : Nat} (hF : 1010 ≤ F) {t u : PType} (w : Wd t u) (hl : t.fFields.length ≤ 200) {p : List Instr} {es : List Edge} :
  ∀ (n : Nat) (a : List RSet) (b : List Bool) (c : Bool) (r : List RSet), fn32_l1 F p t es n a b c = some r → fn32_l1 F p u es n a b c = some r
 | 0, _, _, _, _, h => by cases h
 | n + 1, a, b, c, r, h => by
  have ih := rounds_wd hF w hl (p := p) (es := es) n
  rw [fn32_l1_s] at h ⊢
  cases c with
  | false => exact h
  | true =>
  rw [cond_true] at h ⊢
  cases h2 : fn32_l2 F p t es F a b false 0 with
  | none => rw [h2] at h; cases h
  | some v => rw [h2, Option.bind_some] at h; rw [round_wd hF w hl _ _ _ _ _ _ h2, Option.bind_some]; exact ih _ _ _ _ h
theorem sets_wd {F : Nat} (hF : 1010 ≤ F) {t u : PType} (w : Wd t u) (hl : t.fFields.length ≤ 200) {p : List Instr} {r : List RSet} (h : fn32 F p t = some r) : fn32 F p u = some r := by
 rw [fn32] at h ⊢
 revert h
 generalize (decide ((0 : Int) ≤ (p.length : Int)) && decide ((p.length : Int) ≤ (p.length : Int)) && decide ((524 : Int) * (p.length : Int) ≤ 281474976710656) && decide ((p.length : Int) ≤ 9223372036854775807)) = g1
 generalize (decide ((0 : Int) ≤ (p.length : Int)) && decide ((p.length : Int) ≤ (p.length : Int)) && decide ((1 : Int) * (p.length : Int) ≤ 281474976710656) && decide ((p.length : Int) ≤ 9223372036854775807)) = g2
 generalize inb 0 ((p.length : Int).toNat) = g3
 cases g1 <;> cases g2 <;> cases g3 <;> simp only [cond_true, cond_false] <;> try (intro h; cases h)
 intro h
 cases h2 : fn78 F p with
 | none => rw [h2] at h; cases h
 | some v =>
 rw [h2, Option.bind_some] at h; rw [Option.bind_some]
 cases h3 : fn32_l1 F p t v F ((List.replicate (p.length : Int).toNat (⟨(Ar.rep 11 false), false, (Ar.rep 512 false)⟩ : RSet)).set (0 : Int).toNat (⟨(gt (List.replicate (p.length : Int).toNat (⟨(Ar.rep 11 false), false, (Ar.rep 512 false)⟩ : RSet)) 0).fnumber, true, (gt (List.replicate (p.length : Int).toNat (⟨(Ar.rep 11 false), false, (Ar.rep 512 false)⟩ : RSet)) 0).fbytes⟩ : RSet)) ((List.replicate (p.length : Int).toNat false).set (0 : Int).toNat true) true with
 | none => rw [h3] at h; cases h
 | some q => rw [h3] at h; rw [rounds_wd hF w hl _ _ _ _ _ h3]; exact h
theorem last_wd {F : Nat} (hF : 1010 ≤ F) {t u : PType} (w : Wd t u) (hl : t.fFields.length ≤ 200) {p : List Instr} {a : List Bool} {b : List RSet} :
  ∀ (n : Nat) (k : Int) (o : Unit ⊕ Bool), o ≠ .inr false → fn12_l1 F p t a b n k = some o → fn12_l1 F p u a b n k = some o
 | 0, _, _, _, h => by cases h
 | n + 1, k, o, ho, h => by
  have ih := last_wd hF w hl (p := p) (a := a) (b := b) n
  rw [fn12_l1_s] at h ⊢
  cases h1 : decide (k < (p.length : Int)) with
  | false => rw [h1] at h; exact h
  | true =>
  rw [h1, cond_true] at h; rw [cond_true]
  cases h1 : inb k a.length with
  | false => rw [h1] at h; cases h
  | true =>
  rw [h1, cond_true] at h; rw [cond_true]
  cases h1 : (!(gt a k)) with
  | true => rw [h1] at h; exact ih _ _ ho h
  | false =>
  rw [h1, cond_false] at h; rw [cond_false]
  cases h1 : inb k b.length with
  | false => rw [h1] at h; cases h
  | true =>
  rw [h1, cond_true] at h; rw [cond_true]
  cases h2 : fn33 F (gt b k) p k t with
  | none => rw [h2] at h; cases h
  | some v =>
  obtain ⟨x, e1, e2⟩ := step_wd hF w hl h2
  rw [h2, Option.bind_some] at h; rw [e1, Option.bind_some]
  cases h4 : v.2 with
  | false => rw [h4] at h; exact absurd (Option.some.inj h).symm ho
  | true => rw [h4] at h; rw [e2 h4]; exact ih _ _ ho h
theorem is_wd {F : Nat} (hF : 1010 ≤ F) {t u : PType} (w : Wd t u) (hl : t.fFields.length ≤ 200) {p : List Instr} (h : fn12 F p t = some true) : fn12 F p u = some true ∧ p.length ≤ 64 := by
 rw [fn12] at h ⊢
 cases h1 : fn28 F p with
 | none => rw [h1] at h; cases h
 | some v =>
 rw [h1, Option.bind_some] at h; rw [Option.bind_some]
 cases h2 : (v.2 != 0) with
 | true => rw [h2] at h; cases h
 | false =>
 rw [h2] at h
 simp only [cond_true, cond_false, Bool.false_or] at h ⊢
 cases h3 : fn29 F t with
 | none => rw [h3] at h; cases h
 | some e =>
 rw [h3, Option.bind_some] at h
 cases h4 : (e != 0) with
 | true => rw [h4] at h; cases h
 | false =>
 have he : e = 0 := by simpa using h4
 subst he
 rw [type_wd hF w h3, Option.bind_some]
 cases h5 : decide ((64 : Int) < (p.length : Int)) with
 | true => rw [h5] at h; cases h
 | false =>
 rw [h5] at h
 refine ⟨?_, by simp at h5; omega⟩
 simp only [bne_self_eq_false, cond_true, cond_false, Bool.false_or] at h ⊢
 cases h6 : fn30 F p with
 | none => rw [h6] at h; cases h
 | some x =>
 rw [h6, Option.bind_some] at h; rw [Option.bind_some]
 cases x with
 | true => cases h
 | false =>
 rw [cond_false] at h ⊢
 cases h7 : fn31 F p with
 | none => rw [h7] at h; cases h
 | some a =>
 rw [h7, Option.bind_some] at h; rw [Option.bind_some]
 cases h8 : fn32 F p t with
 | none => rw [h8] at h; cases h
 | some b =>
 rw [h8, Option.bind_some] at h; rw [sets_wd hF w hl h8, Option.bind_some]
 cases h9 : fn12_l1 F p t a b F 0 with
 | none => rw [h9] at h; cases h
 | some o =>
 rw [h9, Option.bind_some] at h
 have ho : o ≠ .inr false := fun q => by rw [q] at h; cases h
 rw [last_wd hF w hl _ _ _ ho h9]; exact h
theorem copy_eq {t : PType} (hf : t.fFields.length ≤ 1000) (hn : t.fNeeds.length ≤ 1000) : fn19 t = some t := by
 rw [fn19, fn37, fn38, decide_eq_true (by simp; omega), decide_eq_true (by simp; omega)]; rfl
theorem plainWider {p : List Instr} {t : PType} {lo hi : Int} (hw : WF2 p) (hs : t.fName.size ≤ 140737488355328) (hf : t.fFields.length ≤ 140737488355328) (hn : t.fNeeds.length ≤ 140737488355328) : fn6 40000 p t lo hi = some true := by
 have hF : 40000 ≤ 40000 := Nat.le_refl _
 rw [fn6, awake_ok, Option.bind_some, Bool.not_true, cond_false]
 by_cases h1 : (80 : Int) < (p.length : Int)
 ·rw [decide_eq_true h1]; rfl
 rw [decide_eq_false h1, cond_false, types_eq (by omega) hs hf hn, Option.bind_some]
 by_cases h2 : (200 : Int) < 1 + ((t.fName.size / 8 : Nat) : Int) + (t.fFields.length : Int) + (t.fNeeds.length : Int)
 ·rw [decide_eq_true h2]; rfl
 have hp : p.length ≤ 80 := by omega
 have hf' : t.fFields.length ≤ 200 := by omega
 have hn' : t.fNeeds.length ≤ 200 := by omega
 have hs' : t.fName.size ≤ 3000 := by omega
 have key : ∀ u : PType, Wd t u → ∃ b, fn11 40000 p u = some b ∧ fn12 40000 p u = some b := fun u w => by
  have hu : u.fFields.length ≤ 201 := by rcases w.fl with ⟨_, e⟩ | ⟨_, _, _, e⟩ <;> rw [e] <;> (try simp) <;> omega
  obtain ⟨e, k1, k2⟩ := kinds_eq (F := 40000) (t := u) (by omega) (by omega) (by rw [w.nd]; omega) (by rw [w.nm]; omega) (by rw [w.nm]; omega)
  exact is_eq hF (p := p) (t := u) (by omega) hw (by omega) ⟨e, e, k1, k2, rfl⟩
 obtain ⟨b, b1, b2⟩ := key t ⟨rfl, rfl, Int.le_refl _, Int.le_refl _, .inl ⟨rfl, rfl⟩⟩
 rw [decide_eq_false h2, cond_false, b1, Option.bind_some]
 cases b with
 | false => rfl
 | true =>
 have ho : okP p = true := by
  cases ho : okP p with
  | true => rfl
  | false => rw [fn11, check_prog (by omega) (by omega) hw.wf, Option.bind_some, not_ok ho] at b1; simp at b1
 have hc : (chk p).2 = 0 := by have := is_ok ho; simpa using this
 have one : ∀ u : PType, Wd t u → fn11 40000 p u = some true := fun u w => by
  obtain ⟨c, c1, c2⟩ := key u w
  rw [(is_wd (by omega) w hf' b2).1] at c2
  rw [c1, ← Option.some.inj c2]
 have h64 := (is_wd (F := 40000) (by omega) (t := t) (u := t) ⟨rfl, rfl, Int.le_refl _, Int.le_refl _, .inl ⟨rfl, rfl⟩⟩ hf' b2).2
 have d64 : decide ((64 : Int) < (p.length : Int)) = false := by simp; omega
 have m1 : (bif decide (t.fLo < lo) then t.fLo else lo) ≤ t.fLo := by
  by_cases q : t.fLo < lo
  ·rw [decide_eq_true q]; exact Int.le_refl _
  ·rw [decide_eq_false q]; simp; omega
 have m2 : t.fHi ≤ (bif decide (hi < t.fHi) then t.fHi else hi) := by
  by_cases q : hi < t.fHi
  ·rw [decide_eq_true q]; exact Int.le_refl _
  ·rw [decide_eq_false q]; simp; omega
 have w1 : Wd t ⟨t.fName, t.fCtx, t.fFields, t.fNeeds, bif decide (t.fLo < lo) then t.fLo else lo, bif decide (hi < t.fHi) then t.fHi else hi⟩ := ⟨rfl, rfl, m1, m2, .inl ⟨rfl, rfl⟩⟩
 rw [Bool.not_true, cond_false, copy_eq (by omega) (by omega), Option.bind_some, d64, cond_false, cond_true, one _ w1, Option.bind_some, Bool.not_true, Bool.or_self, cond_false, check_prog (by omega) (by omega) hw.wf, Option.bind_some, hc]
 by_cases q : t.fCtx < 248 ∧ t.fFields.length < 32
 ·have w2 : Wd t ⟨t.fName, 256, t.fFields ++ [xF], t.fNeeds, bif decide (t.fLo < lo) then t.fLo else lo, bif decide (hi < t.fHi) then t.fHi else hi⟩ := ⟨rfl, rfl, m1, m2, .inr ⟨q.1, q.2, rfl, rfl⟩⟩
  have := one _ w2
  rw [show (decide (t.fCtx < 248) && decide ((t.fFields.length : Int) < 32)) = true by simp; omega, cond_true, decide_eq_true (by simp; omega), cond_true]
  show Option.bind (fn11 40000 p ⟨t.fName, 256, t.fFields ++ [xF], t.fNeeds, bif decide (t.fLo < lo) then t.fLo else lo, bif decide (hi < t.fHi) then t.fHi else hi⟩) _ = _
  rw [this]; rfl
 ·rw [show (decide (t.fCtx < 248) && decide ((t.fFields.length : Int) < 32)) = false by
   rw [Bool.and_eq_false_iff, decide_eq_false_iff_not, decide_eq_false_iff_not]; omega, cond_false]
  rfl
end Go.Proofs.YthpjmknpkdoadaaGreat
namespace Go.HW
open Go Go.RowKit Go.ChangeShapes
set_option linter.unusedVariables false
variable {H : Type} {enc : TypeId × Value → H} {P : Program}
theorem post_below {f : Func} {s : ChangeSpec} {apart fresh handsOn : Bool} {W W' : World} {args : Array Value} {v : Value} {ds gs : List (DataW H)} {before pa pv : List MemPlace}
  (hW : DataW.Whole enc P f.params.toList s.vars apart W args.toList ds gs before)
  (hres : ∀ (b : Nat) (sp : Nat → Bool) (hd : Bool), DataW.TrodAll enc P W' b sp hd f.resultTypes.toList (v.resultList f.resultTypes.size) (s.fn H (ds ++ gs)).results [])
  (hargs : ∀ sp : Nat → Bool, (∀ p ∈ before, sp p.block = true) → DataW.TrodAll enc P W' 0 sp true f.params.toList args.toList (s.fn H (ds ++ gs)).args pa)
  (hvars : ∀ sp : Nat → Bool, (∀ p ∈ before, sp p.block = true) → DataW.TrodVars enc P W' sp s.vars (s.fn H (ds ++ gs)).vars pv)
  (hps : before = pa ++ pv) (hk : Below W.heap.size W W') : s.post enc P f apart fresh handsOn false W args v W' := by
 have hold : ∀ p ∈ before, (fun b => decide (b < W.heap.size)) p.block = true := fun p hp => by simpa using hW.lt p hp
 refine ⟨ds, gs, before, [], pa, pv, hW, hres _ _ _, hargs _ hold, hvars _ hold, World.keptBut_mono (fun p hp => ⟨hp, ?_⟩) (hk.frame (· ∈ before)), fun h => by cases h⟩
 rw [hps, List.mem_append] at hp
 exact Or.inr hp
end Go.HW
namespace Go.HW
open Go Go.RowKit Go.ChangeShapes
set_option linter.unusedVariables false
section
variable {H : Type} {enc : TypeId × Value → H} {P : Program} {W W' : World}
theorem TrodAll.stays (hl : laidOutB P = true) {sp : Nat → Bool} (hb : Below W.heap.size W W') : ∀ {ts : List TypeId} {vs : List Value} {ds : List (DataW H)} {ps : List MemPlace}, (ts.all fun t => P.readableRec t && decide (t < P.types.size)) = true →
  DataW.TrodAll enc P W 0 (fun _ => true) true ts vs ds ps → (∀ x ∈ ps, x.block < W.heap.size) → (∀ x ∈ ps, sp x.block = true) → DataW.TrodAll enc P W' 0 sp true ts vs ds ps
 | [], [], [], ps, _, h, _, _ => h
 | t :: ts, v :: vs, d :: ds, ps, hr, h, hlt, hs => by
  obtain ⟨p, q, h1, h2, rfl⟩ := h
  simp only [List.all_cons, Bool.and_eq_true, decide_eq_true_eq] at hr
  obtain ⟨⟨r1, r2⟩, r3⟩ := hr
  exact ⟨p, q, WideElems.Trod_stays hl r1 r2 h1 (fun x hx => hb.same (hlt x (by simp [hx]))) (fun x hx => hs x (by simp [hx])), TrodAll.stays hl hb (by simpa using r3) h2 (fun x hx => hlt x (by simp [hx])) (fun x hx => hs x (by simp [hx])), rfl⟩
 | [], [], _ :: _, _, _, h, _, _ => by simp [DataW.TrodAll] at h
 | [], _ :: _, _, _, _, h, _, _ => by simp [DataW.TrodAll] at h
 | _ :: _, [], _, _, _, h, _, _ => by simp [DataW.TrodAll] at h
 | _ :: _, _ :: _, [], _, _, h, _, _ => by simp [DataW.TrodAll] at h
theorem list_of {α : Type} {Q : Nat → α → Prop} : ∀ (n : Nat), (∀ i, i < n → ∃ x, Q i x) → ∃ xs : List α, xs.length = n ∧ ∀ i x, xs[i]? = some x → Q i x
 | 0, _ => ⟨[], rfl, fun i x h => by simp at h⟩
 | n + 1, h => by
  obtain ⟨xs, h1, h2⟩ := list_of n (fun i hi => h i (by omega))
  obtain ⟨y, hy⟩ := h n (by omega)
  refine ⟨xs ++ [y], by simp [h1], fun i x hx => ?_⟩
  rcases Nat.lt_or_ge i xs.length with hi | hi
  ·rw [List.getElem?_append_left hi] at hx; exact h2 i x hx
  ·rw [List.getElem?_append_right hi] at hx
   have h0 : i - xs.length = 0 := by
    cases hh : i - xs.length with
    | zero => rfl
    | succ j => rw [hh] at hx; simp at hx
   rw [h0] at hx; simp at hx; subst hx
   have : i = n := by omega
   subst this; exact hy
end
end Go.HW
namespace Go.HW
open Go Go.RowKit Go.ChangeShapes
set_option linter.unusedVariables false
section
variable {H : Type} {enc : TypeId × Value → H} {P : Program} {W W' : World} {sp : Nat → Bool} {held : Bool}
theorem open_rowC {α : Type} {N : En α} {Ok : α → Prop} {t e : TypeId} (ht : P.underlying t = some (.slice e)) (hc : P.cellsOf e = N.sz)
  (hdec : ∀ (n : Nat) (cs : List Value) (y : DataW H × List MemPlace), DataW.trod enc P W 0 sp held n e cs = some y → ∃ x, cs = N.enc x ∧ Ok x)
  {n : Nat} {cs : List Value} {y : DataW H × List MemPlace} (h : DataW.trod enc P W 0 sp held n t cs = some y) :
  ∃ (a : Option Addr) (len cap : Nat) (xs : List α), cs = [.slice a len cap] ∧ xs.length = len ∧ xs.length ≤ cap ∧ RdS N W a xs ∧ (∀ x ∈ xs, Ok x) ∧ ∀ B, (∀ m ∈ y.1.weights P t, m ≤ B) → xs.length * P.bytesOf e ≤ B := by
 rcases DataW.trod_slice ht h with ⟨h0, rfl⟩ | ⟨ad, len, cap', elems, rest, m, _, h1, hy, hb, hl, hm, hlen, hel, _, _⟩
 ·exact ⟨none, 0, 0, [], h0, rfl, Nat.le_refl _, .nil _ _ _, fun x hx => by simp at hx, fun B _ => by simp⟩
 ·have each : ∀ i, i < len → ∃ x, W.cells? 0 (ad.add (i * N.sz)) N.sz = some (N.enc x) ∧ Ok x := fun i hi => by
   have h2 := hel i hi
   rw [List.getElem?_eq_getElem (by omega), Option.bind_eq_some_iff] at h2
   obtain ⟨cs, h3, h4⟩ := h2
   obtain ⟨x, rfl, hx⟩ := hdec _ _ _ h4
   rw [hc] at h3
   exact ⟨x, h3, hx⟩
  obtain ⟨xs, x1, x2⟩ := list_of (Q := fun i x => W.cells? 0 (ad.add (i * N.sz)) N.sz = some (N.enc x) ∧ Ok x) len each
  refine ⟨some ad, len, cap', xs, h1, x1, by omega, ⟨by omega, ?_⟩, fun x hx => ?_, fun B hB => ?_⟩
  ·rcases Nat.eq_zero_or_pos len with h0 | h0
   ·left; exact List.eq_nil_of_length_eq_zero (by omega)
   ·right
    have hspot : ad.spot = none := by
     obtain ⟨x, hx⟩ : ∃ x, xs[0]? = some x := ⟨xs[0], List.getElem?_eq_getElem (by omega)⟩
     obtain ⟨_, _, h5⟩ := World.cells?_some (x2 0 x hx).1
     have := h5 0 N.pos
     rw [List.getElem?_eq_getElem (by rw [N.len]; exact N.pos)] at this
     have e0 : (ad.add (0 * N.sz)).add 0 = ad := by simp [Addr.add]
     rw [e0] at this
     cases hs : ad.spot with
     | none => rfl
     | some q =>
      unfold World.cell? at this
      split at this
      ·rw [hs] at this; simp at this
      ·cases this
    refine ⟨ad, rfl, hspot, fun k x hk j u hj => ?_⟩
    obtain ⟨_, _, h5⟩ := World.cells?_some (x2 k x hk).1
    have hjl : j < N.sz := by have := (List.getElem?_eq_some_iff.1 hj).1; rw [N.len] at this; exact this
    have := h5 j hjl
    rw [hj] at this
    have e1 : (ad.add (k * N.sz)).add j = ⟨ad.block, ad.off + (k * N.sz + j), none⟩ := by
     cases ad with | mk b o s => simp at hspot; subst hspot; simp [add_none, Nat.add_assoc]
    rw [e1] at this
    exact this
  ·obtain ⟨i, hi, rfl⟩ := List.mem_iff_getElem.1 hx
   exact (x2 i _ (by rw [List.getElem?_eq_getElem hi])).2
  ·subst hy
   have := hB ((elems.length + rest.length) * P.bytesOf e) (by simp [DataW.weights, ht])
   have h2 : xs.length * P.bytesOf e ≤ (elems.length + rest.length) * P.bytesOf e := Nat.mul_le_mul_right _ (by omega)
   omega
theorem open_strC {t : TypeId} (ht : P.underlying t = some .string) {n : Nat} {cs : List Value} {y : DataW H × List MemPlace} (h : DataW.trod enc P W 0 sp held n t cs = some y) :
  ∃ s : ByteArray, cs = [.string s] ∧ ∀ B, (∀ m ∈ y.1.weights P t, m ≤ B) → s.size ≤ B := by
 obtain ⟨s, h1, rfl, _⟩ := DataW.trod_string ht h
 refine ⟨s, h1, fun B hB => ?_⟩
 have := hB s.data.toList.length (by simp [DataW.weights])
 simpa using this
theorem partC {fs : Array Field} {xs : List (DataW H × List MemPlace)} {n : Nat} {cs : List Value} (hall : ∀ (i : Nat) (f : Field), fs[i]? = some f → DataW.trod enc P W 0 sp held n f.type ((cs.drop f.offset).take (P.cellsOf f.type)) = xs[i]?) (hx : xs.length = fs.size)
  {i o : Nat} {f : Field} (hf : fs[i]? = some f) (hc : P.cellsOf f.type = 1) (ho : f.offset = o) : ∃ x, xs[i]? = some x ∧ DataW.trod enc P W 0 sp held n f.type ((cs.drop o).take 1) = some x := by
 have h := hall i f hf
 have hi : i < fs.size := (Array.getElem?_eq_some_iff.1 hf).1
 rw [List.getElem?_eq_getElem (by omega), hc, ho] at h
 exact ⟨_, List.getElem?_eq_getElem (by omega), h⟩
theorem cellC {cs : List Value} {o : Nat} {c : Value} (h : (cs.drop o).take 1 = [c]) : cs[o]? = some c := by
 have := congrArg (fun l => l[0]?) h
 simpa [List.getElem?_take, List.getElem?_drop] using this
theorem weightsC {t : TypeId} {fs : Array Field} (ht : P.underlying t = some (.struct fs)) {xs : List (DataW H × List MemPlace)} {B : Nat} (h : ∀ m ∈ (DataW.agg (xs.map (·.1)) : DataW H).weights P t, m ≤ B)
  {i : Nat} {f : Field} (hf : fs[i]? = some f) {x : DataW H × List MemPlace} (hx : xs[i]? = some x) : ∀ m ∈ x.1.weights P f.type, m ≤ B := fun m hm => by
 apply h
 simp only [DataW.weights, ht]
 exact DataW.weights_mem_each (j := i) (t := f.type) (d := x.1) (by simp [hf]) (by simp [hx]) m hm
theorem trod_of {t : TypeId} {v : Value} {d : DataW H} {ps : List MemPlace} {c : Value} (hv : v.cells = #[c]) (h : DataW.Trod enc P W 0 sp held t v d ps) : ∃ n, DataW.trod enc P W 0 sp held n t [c] = some (d, ps) := by
 obtain ⟨n, h⟩ := h; rw [hv] at h; exact ⟨n, h⟩
theorem weight_arg {ts : List TypeId} {ds : List (DataW H)} {B : Nat} (h : (DataW.weightsEach P ts ds).all (· ≤ B) = true) {j : Nat} {t : TypeId} {d : DataW H} (ht : ts[j]? = some t) (hd : ds[j]? = some d) : ∀ m ∈ d.weights P t, m ≤ B := fun m hm => by
 simpa using List.all_eq_true.1 h _ (DataW.weights_mem_each ht hd m hm)
end
end Go.HW
