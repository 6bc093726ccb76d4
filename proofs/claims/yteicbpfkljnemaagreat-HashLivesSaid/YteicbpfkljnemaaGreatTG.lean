/- Part of the proof: the logic, the walks, and what they compute. -/
import Derived.ChangeSame
import Derived.Carry
import Derived.ProofKit
import Derived.OpenShut
import Derived.KernelRfl
import Derived.SizedLaws
import Derived.Test.YteicbpfkljnemaaGreatTF
set_option linter.all false
namespace Go.Proofs.YteicbpfkljnemaaGreat
open Go Go.HW
set_option maxRecDepth 8000
section
variable {F E V : Nat} {K a : Int} {cells : List HCell} {keys : List (ByteArray × Int)} {fl : List RPlace} {S : MSpec}
theorem step_ok (h : Rl E V K cells keys fl) (hS : S.fKey = K) (hSV : S.fValue = (V : Int)) (hV : V ≤ 2000) (hE : E ≤ 2000) (hF : 30000 ≤ F) (EE : Int) (d : Do) (hk : d.fKey.length ≤ 20000) (hb : d.fB.length ≤ 20000) :
  ∃ c q f, fn9 F cells a K (V : Int) EE keys ⟨S, fl⟩ d = some (true, c, q, f) ∧ Rl E V K c q f := by
 obtain ⟨v5, hp, _⟩ := pick_ok d.fWhat 6 (by omega) (by omega)
 have hva : ∀ {c q f}, Rl E V K c q f → (valAt c d.fPlace).1.length ≤ 20000 := fun h' => Nat.le_trans (valAt_len h') (by omega)
 have hVm : V ≤ 1000000 := by omega
 simp only [fn9, lent_eq hF hk, lent_eq hF hb, hp, Option.bind_some, cut_l]
 cases h2 : v5 == 2 with
 | true =>
  obtain ⟨L, k1, k2, k3, k4⟩ := keys_both (a := a) (S := S) h (by omega) hF (V : Int) EE
  refine ⟨cells, keys, fl, ?_, h⟩
  simp only [cond_true, look_all, ref_look h hS (by omega) hF, Option.bind_some, beq_self_eq_true, Bool.and_self, cnt_eq hF hk, cnt_eq hF hb, fin_eq hF hk, fin_eq hF hb, val_all h hVm, ref_val h hVm, same_eq hF (hva h), apB_eq (hva h) (hva h), k1, k2, rows_eq hF k3 k4]
 | false =>
 cases h3 : v5 == 3 with
 | true =>
  obtain ⟨e, c, f, e1, e2, h'⟩ := set_both (a := a) (S := S) (v := d.fB) h hSV (by omega) hb d.fPlace d.fOff EE
  obtain ⟨L, k1, k2, k3, k4⟩ := keys_both (a := a) (S := S) h' (by omega) hF (V : Int) EE
  refine ⟨c, keys, f, ?_, h'⟩
  simp only [cond_true, cond_false, e1, e2, Option.bind_some, beq_self_eq_true, Bool.and_self, cnt_eq hF hk, cnt_eq hF hb, fin_eq hF hk, fin_eq hF hb, val_all h' hVm, ref_val h' hVm, same_eq hF (hva h'), apB_eq (hva h') (hva h'), k1, k2, rows_eq hF k3 k4]
 | false =>
 cases h4 : v5 == 4 with
 | true =>
  obtain ⟨e, c, q, f, e1, e2, h'⟩ := del_both (a := a) (S := S) (k := d.fKey) h hS (by omega) hF (V : Int) EE
  obtain ⟨L, k1, k2, k3, k4⟩ := keys_both (a := a) (S := S) h' (by omega) hF (V : Int) EE
  refine ⟨c, q, f, ?_, h'⟩
  simp only [cond_true, cond_false, e1, e2, Option.bind_some, beq_self_eq_true, Bool.and_self, cnt_eq hF hk, cnt_eq hF hb, fin_eq hF hk, fin_eq hF hb, val_all h' hVm, ref_val h' hVm, same_eq hF (hva h'), apB_eq (hva h') (hva h'), k1, k2, rows_eq hF k3 k4]
 | false =>
 cases h5 : v5 == 5 with
 | true =>
  obtain ⟨e, c, q, f, e1, e2, h'⟩ := del_both (a := a) (S := S) (k := d.fKey) h hS (by omega) hF (V : Int) EE
  obtain ⟨L, k1, k2, k3, k4⟩ := keys_both (a := a) (S := S) h' (by omega) hF (V : Int) EE
  refine ⟨c, q, f, ?_, h'⟩
  simp only [cond_true, cond_false, e1, e2, Option.bind_some, beq_self_eq_true, Bool.and_self, cnt_eq hF hk, cnt_eq hF hb, fin_eq hF hk, fin_eq hF hb, val_all h' hVm, ref_val h' hVm, same_eq hF (hva h'), apB_eq (hva h') (hva h'), k1, k2, rows_eq hF k3 k4]
 | false =>
  obtain ⟨e, c, q, f, e1, e2, h'⟩ := upd_both (a := a) (S := S) (k := d.fKey) (v := d.fB) h hS hSV (by omega) (by omega) hF d.fFlags EE
  obtain ⟨L, k1, k2, k3, k4⟩ := keys_both (a := a) (S := S) h' (by omega) hF (V : Int) EE
  refine ⟨c, q, f, ?_, h'⟩
  simp only [cond_true, cond_false, e1, e2, Option.bind_some, beq_self_eq_true, Bool.and_self, cnt_eq hF hk, cnt_eq hF hb, fin_eq hF hk, fin_eq hF hb, val_all h' hVm, ref_val h' hVm, same_eq hF (hva h'), apB_eq (hva h') (hva h'), k1, k2, rows_eq hF k3 k4]
end
theorem awake : fn6 30000 = some true := by kernel_rfl
def chn (a b c : Bool) : Int := bif !a then 2 else bif !b then 2 else bif !c then 2 else 0
theorem chn_eq (a b c : Bool) : chn a b c = bif !(a && (b && c)) then 2 else 0 := by cases a <;> cases b <;> cases c <;> rfl
theorem chn_eq2 (a b c : Bool) : chn a b c = bif !((a && b) && c) then 2 else 0 := by cases a <;> cases b <;> cases c <;> rfl
theorem bd_one (n x : Int) : (decide (n ≤ x) && decide (x ≤ n)) = (x == n) := by
 rw [Bool.eq_iff_iff]; simp; omega
theorem spec_same : ∀ p : MSpec, fn23 p = fn25 p
 | ⟨kd, K, V, E⟩ => by
  by_cases h1 : kd = 1
  ·subst h1; rw [show fn23 ⟨1, K, V, E⟩ = chn (decide (4 ≤ K) && decide (K ≤ 4)) (fn54 V 1 1024) (fn54 E 1 1024) from rfl, bd_one, chn_eq]; rfl
  by_cases h2 : kd = 2
  ·subst h2; rw [show fn23 ⟨2, K, V, E⟩ = chn (fn54 K 1 64) (fn54 V 1 1024) (fn54 E 1 1024) from rfl, chn_eq]; rfl
  by_cases h3 : kd = 3
  ·subst h3; rw [show fn23 ⟨3, K, V, E⟩ = chn (fn54 K 1 64) (fn54 V 1 1024) (fn54 E 1 1024) from rfl, chn_eq]; rfl
  by_cases h4 : kd = 4
  ·subst h4; rw [show fn23 ⟨4, K, V, E⟩ = chn (fn54 K 5 36) (fn54 V 1 1024) (fn54 E 1 1024) from rfl, chn_eq]; rfl
  by_cases h5 : kd = 5
  ·subst h5; rw [show fn23 ⟨5, K, V, E⟩ = chn (decide (0 ≤ K) && decide (K ≤ 0)) (fn54 V 1 1024) (fn54 E 1 1024) from rfl, bd_one, chn_eq]; rfl
  by_cases h6 : kd = 6
  ·subst h6; rw [show fn23 ⟨6, K, V, E⟩ = chn (decide (0 ≤ K) && decide (K ≤ 0)) (fn54 V 1 1024) (fn54 E 1 1024) from rfl, bd_one, chn_eq]; rfl
  by_cases h7 : kd = 7
  ·subst h7; rw [show fn23 ⟨7, K, V, E⟩ = chn (decide (0 ≤ K) && decide (K ≤ 0)) (decide (0 ≤ V) && decide (V ≤ 0)) (fn54 E 16 16384) from rfl, bd_one, bd_one, chn_eq2]; rfl
  by_cases h8 : kd = 8
  ·subst h8; rw [show fn23 ⟨8, K, V, E⟩ = chn (decide (4 ≤ K) && decide (K ≤ 4)) (decide (8 ≤ V) && decide (V ≤ 8)) (fn54 E 1 64) from rfl, bd_one, bd_one, chn_eq2]; rfl
  have e : ∀ n : Int, kd ≠ n → (kd == n) = false := fun n h => by simpa using h
  have g : ∀ n : Int, kd ≠ n → decide (n = kd) = false := fun n h => by simp; exact fun e => h e.symm
  have e9 : fn25 ⟨kd, K, V, E⟩ = 9 := by
   simp only [fn25, e 1 h1, e 2 h2, e 3 h3, e 4 h4, e 5 h5, e 6 h6, e 7 h7, e 8 h8, cond_false]
  rw [e9]
  simp only [fn23, mk8, mhas_put, g 1 h1, g 2 h2, g 3 h3, g 4 h4, g 5 h5, g 6 h6, g 7 h7, g 8 h8, Bool.false_or]
  rfl
theorem ref_new_l (p : MSpec) (hE : p.fEntries ≤ 10000) (hV : 0 ≤ p.fValue) (hV2 : p.fValue ≤ 10000) : ∀ (m n i : Nat) (xs : List RPlace), ((m + i : Nat) : Int) = p.fEntries → m < n → xs.length = i →
  fn8_l1 p n xs (i : Int) = some (xs ++ List.replicate m ⟨false, ⟨#[]⟩, List.replicate p.fValue.toNat 0⟩)
 | 0, n + 1, i, xs, h, hn, hx => by
  have e2 : decide ((i : Int) < p.fEntries) = false := by simp; omega
  simp only [fn8_l1, fn8_b1, e2, cond_false, List.replicate_zero, List.append_nil]
 | m + 1, n + 1, i, xs, h, hn, hx => by
  have e2 : decide ((i : Int) < p.fEntries) = true := by simp; omega
  have e3 : (decide ((0 : Int) ≤ p.fValue) && decide (p.fValue ≤ p.fValue) && decide ((1 : Int) * p.fValue ≤ 281474976710656) && decide (p.fValue ≤ 9223372036854775807)) = true := by simp; omega
  have e4 : decide ((xs.length + 1) * 48 ≤ 140737488355328 ∧ xs.length + 1 ≤ 9223372036854775807) = true := by simp; omega
  have e5 : IntKind.i64.wrap ((i : Int) + 1) = ((i + 1 : Nat) : Int) := by rw [w64 (by omega)]; rfl
  simp only [fn8_l1, fn8_b1, e2, e3, e4, e5, cond_true]
  rw [ref_new_l p hE hV hV2 m n (i + 1) _ (by omega) (by omega) (by simp [hx]), List.append_assoc]
  rfl
theorem new_both (p : MSpec) : (∃ e, fn7 30000 p = some (.inl e) ∧ fn8 30000 p = some (.inl e)) ∨
  (p.fKind = 2 ∧ (1 ≤ p.fKey ∧ p.fKey ≤ 64) ∧ (1 ≤ p.fValue ∧ p.fValue ≤ 1024) ∧ (1 ≤ p.fEntries ∧ p.fEntries ≤ 1024) ∧
   fn7 30000 p = some (.inr (List.replicate p.fEntries.toNat ⟨false, List.replicate p.fValue.toNat 0⟩, 2, p.fKey, p.fValue, p.fEntries, [], 0)) ∧
   fn8 30000 p = some (.inr (2, p.fKey, p.fValue, p.fEntries, List.replicate p.fEntries.toNat ⟨false, ⟨#[]⟩, List.replicate p.fValue.toNat 0⟩, 0))) := by
 have hs := spec_same p
 by_cases h0 : fn23 p = 0
 ·by_cases h2 : p.fKind = 2
  ·obtain ⟨kd, K, V, E⟩ := p
   have h2' : kd = 2 := h2
   subst h2'
   have h0' := h0
   rw [spec_hash] at h0'
   have hb : (1 ≤ K ∧ K ≤ 64) ∧ (1 ≤ V ∧ V ≤ 1024) ∧ (1 ≤ E ∧ E ≤ 1024) := by
    cases h3 : decide (1 ≤ K) && decide (K ≤ 64) with
    | false => rw [h3] at h0'; cases h0'
    | true =>
    cases h4 : decide (1 ≤ V) && decide (V ≤ 1024) with
    | false => rw [h3, h4] at h0'; cases h0'
    | true =>
    cases h5 : decide (1 ≤ E) && decide (E ≤ 1024) with
    | false => rw [h3, h4, h5] at h0'; cases h0'
    | true => simp only [Bool.and_eq_true, decide_eq_true_eq] at h3 h4 h5; exact ⟨h3, h4, h5⟩
   obtain ⟨b1, b2, b3⟩ := hb
   refine .inr ⟨rfl, b1, b2, b3, new_ok (by omega) b1 b2 b3, ?_⟩
   have e1 := ref_new_l ⟨2, K, V, E⟩ (by show E ≤ _; omega) (by show 0 ≤ V; omega) (by show V ≤ _; omega) E.toNat 30000 0 [] (by show _ = E; omega) (by omega) rfl
   rw [show ((0 : Nat) : Int) = 0 from rfl] at e1
   simp only [fn8, ← hs, h0, e1, bne_self_eq_false, cond_false, Option.bind_some, fn8_k1, List.nil_append]
  refine .inl ⟨9, ?_, ?_⟩
  ·have e : (p.fKind == 2) = false := by simpa using h2
   simp only [fn7, fn21, fn22, fn24, h0, e, beq_self_eq_true, Bool.not_true, Bool.not_false, cond_false, cond_true, frk2, fn52]
  have e : (p.fKind != 2) = true := by simpa using h2
  simp only [fn8, ← hs, h0, e, bne_self_eq_false, cond_false, cond_true]
 refine .inl ⟨fn23 p, ?_, ?_⟩
 ·have e : (fn23 p == 0) = false := by simpa using h0
  simp only [fn7, fn21, fn22, fn24, e, Bool.not_false, cond_true, frk2, fn52]
 have e : (fn23 p != 0) = true := by simpa using h0
 simp only [fn8, ← hs, e, cond_true]
theorem gt_rep {α : Type} [Inhabited α] {n : Nat} {x : α} {i : Int} (h : inb i n = true) : gt (List.replicate n x) i = x := by
 have := inb_iff.1 h
 have h2 : i.toNat < n := by omega
 unfold gt
 rw [List.getD_eq_getElem?_getD, List.getElem?_replicate, if_pos h2]; rfl
theorem Rl.init (E V : Nat) {K : Int} (hK : K ≤ 1000) : Rl E V K (List.replicate E ⟨false, List.replicate V 0⟩) [] (List.replicate E ⟨false, ⟨#[]⟩, List.replicate V 0⟩) := by
 refine ⟨by simp, by simp, fun i hi => ?_, fun i hi => ?_, by simp [KND], fun k h => by simp [mhas, mfind] at h, fun i hi h => ?_, fun k h => by simp [mhas, mfind] at h, fun i hi => ?_, hK⟩
 ·rw [gt_rep hi, gt_rep hi]; exact ⟨rfl, rfl⟩
 ·rw [gt_rep hi]; simp
 ·rw [gt_rep hi] at h; cases h
 rw [gt_rep hi]; exact Nat.zero_le _
theorem great_l {p1 : List DoK} (hb : ∀ x ∈ p1, x.fKey.2.length ≤ 140737488351232 ∧ x.fB.2.length ≤ 140737488351232) (hl : p1.length ≤ 300) : ∀ (m n i : Nat) (x : Int), m + i = p1.length → m < n → 0 ≤ x →
  ∃ r, fn5_l1 p1 n x (i : Int) = some r ∧ (r ≤ 300 → x ≤ 300 ∧ ∀ j : Nat, i ≤ j → j < p1.length → (gt p1 (j : Int)).fKey.2.length ≤ 20000 ∧ (gt p1 (j : Int)).fB.2.length ≤ 20000)
 | 0, n + 1, i, x, h, hn, hx => by
  have e2 : decide ((i : Int) < (p1.length : Int)) = false := by simp; omega
  refine ⟨x, by simp only [fn5_l1, fn5_b1, e2, Bool.false_and, cond_false], fun hr => ⟨hr, fun j h1 h2 => by omega⟩⟩
 | m + 1, n + 1, i, x, h, hn, hx => by
  have e2 : decide ((i : Int) < (p1.length : Int)) = true := by simp; omega
  by_cases h3 : x ≤ 300
  ·have e3 : decide (x ≤ 300) = true := by simpa using h3
   have e4 : inb (i : Int) p1.length = true := inb_iff.2 ⟨by omega, by omega⟩
   have e5 : IntKind.i64.wrap ((i : Int) + 1) = ((i + 1 : Nat) : Int) := by rw [w64 (by omega)]; rfl
   obtain ⟨b1, b2⟩ := hb _ (gt_mem e4)
   have e6 : ((((gt p1 (i : Int)).fKey.2).length : Int) + (((gt p1 (i : Int)).fB.2).length : Int)).tdiv 40 = ((((gt p1 (i : Int)).fKey.2).length + ((gt p1 (i : Int)).fB.2).length) / 40 : Nat) := by
    rw [Int.tdiv_eq_ediv_of_nonneg (by omega)]; omega
   have e7 : IntKind.i64.wrap ((((gt p1 (i : Int)).fKey.2).length : Int) + (((gt p1 (i : Int)).fB.2).length : Int)) = (((gt p1 (i : Int)).fKey.2).length : Int) + (((gt p1 (i : Int)).fB.2).length : Int) := w64 (by omega)
   obtain ⟨r, hr, hq⟩ := great_l hb hl m n (i + 1) (x + ((((gt p1 (i : Int)).fKey.2).length + ((gt p1 (i : Int)).fB.2).length) / 40 : Nat)) (by omega) (by omega) (by omega)
   refine ⟨r, ?_, fun hr3 => ?_⟩
   ·simp only [fn5_l1, fn5_b1, e2, e3, e4, e5, e6, e7, Bool.and_self, cond_true]
    rw [w64 (n := (((((gt p1 (i : Int)).fKey.2).length + ((gt p1 (i : Int)).fB.2).length) / 40 : Nat) : Int)) (by omega), w64 (by omega)]
    exact hr
   obtain ⟨q1, q2⟩ := hq hr3
   refine ⟨h3, fun j h1 h2 => ?_⟩
   by_cases hj : j = i
   ·subst hj; omega
   exact q2 j (by omega) h2
  have e3 : decide (x ≤ 300) = false := by simpa using h3
  exact ⟨x, by simp only [fn5_l1, fn5_b1, e2, e3, Bool.and_false, cond_false], fun hr => absurd hr h3⟩
theorem great_ok {p0 : MSpec} {p1 : List DoK} (hb : ∀ x ∈ p1, x.fKey.2.length ≤ 140737488351232 ∧ x.fB.2.length ≤ 140737488351232) :
  ∃ b, fn5 30000 p0 p1 = some b ∧ (b = false → p1.length ≤ 300 ∧ ∀ j : Nat, j < p1.length → (gt p1 (j : Int)).fKey.2.length ≤ 20000 ∧ (gt p1 (j : Int)).fB.2.length ≤ 20000) := by
 by_cases hl : p1.length ≤ 300
 ·obtain ⟨r, hr, hq⟩ := great_l hb hl p1.length 30000 0 (p1.length : Int) (by omega) (by omega) (by omega)
  rw [show ((0 : Nat) : Int) = 0 from rfl] at hr
  refine ⟨_, by simp only [fn5, hr, Option.bind_some, fn5_k1]; rfl, fun h => ⟨hl, ?_⟩⟩
  simp only [Bool.or_eq_false_iff, decide_eq_false_iff_not] at h
  exact fun j hj => (hq (by omega)).2 j (Nat.zero_le _) hj
 have e3 : decide ((p1.length : Int) ≤ 300) = false := by simp; omega
 have e4 : decide ((300 : Int) < (p1.length : Int)) = true := by simp; omega
 have hr : fn5_l1 p1 30000 (p1.length : Int) 0 = some (p1.length : Int) := by
  show fn5_b1 p1 (fn5_l1 p1 29999) (p1.length : Int) 0 = _
  simp only [fn5_b1, e3, Bool.and_false, cond_false]
 exact ⟨true, by simp only [fn5, hr, Option.bind_some, fn5_k1, e4, Bool.true_or], fun h => by cases h⟩
section
variable {F E V : Nat} {K : Int} {c0 : List HCell} {q0 : List (ByteArray × Int)} {f0 : List RPlace}
theorem deeds_l {p1 : List DoK} (hF : 30000 ≤ F) (hV : V ≤ 2000) (hE : E ≤ 2000) (hl : p1.length ≤ 300) (hd : ∀ j : Nat, j < p1.length → (gt p1 (j : Int)).fKey.2.length ≤ 20000 ∧ (gt p1 (j : Int)).fB.2.length ≤ 20000) (EE kd : Int) : ∀ (m n i : Nat) (c : List HCell) (q : List (ByteArray × Int)) (f : List RPlace), m + i = p1.length → m < n → Rl E V K c q f →
  ∃ c' q' f', fn3_l1 F p1 (c0, 2, K, (V : Int), EE, q0, 0) (kd, K, (V : Int), EE, f0, 0) n c q f (i : Int) = some (.inl (c', q', f')) ∧ Rl E V K c' q' f'
 | 0, n + 1, i, c, q, f, h, hn, hR => by
  have e2 : decide ((i : Int) < (p1.length : Int)) = false := by simp; omega
  exact ⟨c, q, f, by simp only [fn3_l1, fn3_b1, e2, cond_false], hR⟩
 | m + 1, n + 1, i, c, q, f, h, hn, hR => by
  have e2 : decide ((i : Int) < (p1.length : Int)) = true := by simp; omega
  have e4 : inb (i : Int) p1.length = true := inb_iff.2 ⟨by omega, by omega⟩
  have e5 : IntKind.i64.wrap ((i : Int) + 1) = ((i + 1 : Nat) : Int) := by rw [w64 (by omega)]; rfl
  obtain ⟨d1, d2⟩ := hd i (by omega)
  obtain ⟨c1, q1, f1, hs, hR1⟩ := step_ok (F := F) (a := 2) (S := ⟨kd, K, (V : Int), EE⟩) hR rfl rfl hV hE hF EE ⟨(gt p1 (i : Int)).fWhat, (gt p1 (i : Int)).fKey.2, (gt p1 (i : Int)).fB.2, (gt p1 (i : Int)).fFlags, (gt p1 (i : Int)).fPlace, (gt p1 (i : Int)).fOff⟩ d1 d2
  obtain ⟨c2, q2, f2, hr, hR2⟩ := deeds_l hF hV hE hl hd EE kd m n (i + 1) c1 q1 f1 (by omega) (by omega) hR1
  refine ⟨c2, q2, f2, ?_, hR2⟩
  simp only [fn3_l1, fn3_b1, e2, e4, e5, hs, cond_true, cond_false, Option.bind_some, Bool.not_true]
  exact hr
theorem vals_l {p0 : MSpec} {c : List HCell} {q : List (ByteArray × Int)} {f : List RPlace} (hF : 30000 ≤ F) (hV : V ≤ 2000) (hE : E ≤ 2000) (hp : p0.fEntries = (E : Int)) (hR : Rl E V K c q f) (EE kd : Int) : ∀ (m n i : Nat), m + i = E → m < n →
  fn3_l2 F p0 (c0, 2, K, (V : Int), EE, q0, 0) (kd, K, (V : Int), EE, f0, 0) c q f n (i : Int) = some (.inl ())
 | 0, n + 1, i, h, hn => by
  have e2 : decide ((i : Int) < p0.fEntries) = false := by rw [hp]; simp; omega
  simp only [fn3_l2, fn3_b2, e2, cond_false]
 | m + 1, n + 1, i, h, hn => by
  have e2 : decide ((i : Int) < p0.fEntries) = true := by rw [hp]; simp; omega
  have e5 : IntKind.i64.wrap ((i : Int) + 1) = ((i + 1 : Nat) : Int) := by rw [w64 (by omega)]; rfl
  have hva : (valAt c (i : Int)).1.length ≤ 20000 := Nat.le_trans (valAt_len hR) (by omega)
  simp only [fn3_l2, fn3_b2, e2, e5, val_all hR (show V ≤ 1000000 by omega), ref_val hR (show V ≤ 1000000 by omega), same_eq hF hva, cond_true, cond_false, Option.bind_some, Bool.not_true]
  exact vals_l hF hV hE hp hR EE kd m n (i + 1) (by omega) (by omega)
theorem ends_ok {c : List HCell} {q : List (ByteArray × Int)} {f : List RPlace} (hE : E ≤ 2000) (hR : Rl E V K c q f) (EE kd : Int) :
  fn3_k2 30000 (c0, 2, K, (V : Int), EE, q0, 0) (kd, K, (V : Int), EE, f0, 0) c q f = some true := by
 obtain ⟨L, k1, k2, k3, k4⟩ := keys_both (F := 30000) (a := 2) (S := ⟨kd, K, (V : Int), EE⟩) hR (by omega) (by omega) (V : Int) EE
 simp only [fn3_k2, k1, k2, apR_eq k3 k4, rows_eq (show 30000 ≤ 30000 by omega) k3 k4, awake, cond_true, Option.bind_some, Bool.and_self]
end
theorem hashLives_plain (p0 : MSpec) (p1 : List DoK) (hb : ∀ x ∈ p1, x.fKey.2.length ≤ 140737488351232 ∧ x.fB.2.length ≤ 140737488351232) : fn3 30000 p0 p1 = some true := by
 obtain ⟨b, hg, hq⟩ := great_ok (p0 := p0) hb
 simp only [fn3, hg, Option.bind_some]
 cases b with
 | true => simp only [cond_true, awake, Option.bind_some]
 | false =>
  obtain ⟨hl, hd⟩ := hq rfl
  simp only [cond_false]
  rcases new_both p0 with ⟨e, h1, h2⟩ | ⟨hk, ⟨k1, k2⟩, ⟨v1, v2⟩, ⟨n1, n2⟩, h1, h2⟩
  ·simp only [h1, h2, frk2, bne_self_eq_false, cond_false, awake, Option.bind_some]
  have eV : p0.fValue = ((p0.fValue.toNat : Nat) : Int) := by omega
  have eE : p0.fEntries = ((p0.fEntries.toNat : Nat) : Int) := by omega
  have hR0 := Rl.init p0.fEntries.toNat p0.fValue.toNat (K := p0.fKey) (by omega)
  simp only [h1, h2, frk2, bne_self_eq_false, cond_false]
  have h3 := deeds_l (F := 30000) (c0 := List.replicate p0.fEntries.toNat ⟨false, List.replicate p0.fValue.toNat 0⟩) (q0 := []) (f0 := List.replicate p0.fEntries.toNat ⟨false, ⟨#[]⟩, List.replicate p0.fValue.toNat 0⟩) (by omega) (by omega) (by omega) hl hd p0.fEntries 2 p1.length 30000 0 _ _ _ (by omega) (by omega) hR0
  obtain ⟨c, q, f, h3, hR⟩ := h3
  have h4 := vals_l (F := 30000) (p0 := p0) (c0 := List.replicate p0.fEntries.toNat ⟨false, List.replicate p0.fValue.toNat 0⟩) (q0 := []) (f0 := List.replicate p0.fEntries.toNat ⟨false, ⟨#[]⟩, List.replicate p0.fValue.toNat 0⟩) (by omega) (by omega) (by omega) eE hR p0.fEntries 2 p0.fEntries.toNat 30000 0 (by omega) (by omega)
  have h5 := ends_ok (c0 := List.replicate p0.fEntries.toNat ⟨false, List.replicate p0.fValue.toNat 0⟩) (q0 := []) (f0 := List.replicate p0.fEntries.toNat ⟨false, ⟨#[]⟩, List.replicate p0.fValue.toNat 0⟩) (by omega) hR p0.fEntries 2
  rw [show ((0 : Nat) : Int) = 0 from rfl, ← eV] at h3 h4
  rw [← eV] at h5
  simp only [h3, Option.bind_some, fn3_k1, h4, h5]
end Go.Proofs.YteicbpfkljnemaaGreat
namespace Go.HW
open Go Go.RowKit Go.ChangeShapes
variable {H : Type} {enc : TypeId × Value → H} {P : Program}
theorem post_below {f : Func} {s : ChangeSpec} {apart fresh handsOn : Bool} {W W' : World} {args : Array Value} {v : Value} {ds gs : List (DataW H)} {before pa pv : List MemPlace}
  (hW : DataW.Whole enc P f.params.toList s.vars apart W args.toList ds gs before)
  (hres : ∀ (b : Nat) (sp : Nat → Bool) (hd : Bool), DataW.TrodAll enc P W' b sp hd f.resultTypes.toList (v.resultList f.resultTypes.size) (s.fn H (ds ++ gs)).results [])
  (hargs : ∀ sp : Nat → Bool, (∀ p ∈ before, sp p.block = true) → DataW.TrodAll enc P W' 0 sp true f.params.toList args.toList (s.fn H (ds ++ gs)).args pa)
  (hvars : ∀ sp : Nat → Bool, (∀ p ∈ before, sp p.block = true) → DataW.TrodVars enc P W' sp s.vars (s.fn H (ds ++ gs)).vars pv)
  (hps : before = pa ++ pv) (hk : Below W.heap.size W W') : s.post enc P f apart fresh handsOn false W args v W' := by
 have hold : ∀ p ∈ before, (fun b => decide (b < W.heap.size)) p.block = true := fun p hp => by simpa using hW.lt p hp
 refine ⟨ds, gs, before, [], pa, pv, hW, hres _ _ _, hargs _ hold, hvars _ hold, World.keptBut_mono (fun p hp => ⟨hp, ?_⟩) (hk.frame (· ∈ before)), fun h => by cases h⟩
 rw [hps, List.mem_append] at hp
 exact Or.inr hp
end Go.HW
namespace Go.HW
open Go Go.RowKit Go.ChangeShapes
section
variable {H : Type} {enc : TypeId × Value → H} {P : Program} {W W' : World}
theorem TrodAll.stays (hl : laidOutB P = true) {sp : Nat → Bool} (hb : Below W.heap.size W W') : ∀ {ts : List TypeId} {vs : List Value} {ds : List (DataW H)} {ps : List MemPlace}, (ts.all fun t => P.readableRec t && decide (t < P.types.size)) = true →
  DataW.TrodAll enc P W 0 (fun _ => true) true ts vs ds ps → (∀ x ∈ ps, x.block < W.heap.size) → (∀ x ∈ ps, sp x.block = true) → DataW.TrodAll enc P W' 0 sp true ts vs ds ps
 | [], [], [], ps, _, h, _, _ => h
 | t :: ts, v :: vs, d :: ds, ps, hr, h, hlt, hs => by
  obtain ⟨p, q, h1, h2, rfl⟩ := h
  simp only [List.all_cons, Bool.and_eq_true, decide_eq_true_eq] at hr
  obtain ⟨⟨r1, r2⟩, r3⟩ := hr
  exact ⟨p, q, WideElems.Trod_stays hl r1 r2 h1 (fun x hx => hb.same (hlt x (by simp [hx]))) (fun x hx => hs x (by simp [hx])), TrodAll.stays hl hb (by simpa using r3) h2 (fun x hx => hlt x (by simp [hx])) (fun x hx => hs x (by simp [hx])), rfl⟩
 | [], [], _ :: _, _, _, h, _, _ => by simp [DataW.TrodAll] at h
 | [], _ :: _, _, _, _, h, _, _ => by simp [DataW.TrodAll] at h
 | _ :: _, [], _, _, _, h, _, _ => by simp [DataW.TrodAll] at h
 | _ :: _, _ :: _, [], _, _, h, _, _ => by simp [DataW.TrodAll] at h
theorem list_of {α : Type} {Q : Nat → α → Prop} : ∀ (n : Nat), (∀ i, i < n → ∃ x, Q i x) → ∃ xs : List α, xs.length = n ∧ ∀ i x, xs[i]? = some x → Q i x
 | 0, _ => ⟨[], rfl, fun i x h => by simp at h⟩
 | n + 1, h => by
  obtain ⟨xs, h1, h2⟩ := list_of n (fun i hi => h i (by omega))
  obtain ⟨y, hy⟩ := h n (by omega)
  refine ⟨xs ++ [y], by simp [h1], fun i x hx => ?_⟩
  rcases Nat.lt_or_ge i xs.length with hi | hi
  ·rw [List.getElem?_append_left hi] at hx; exact h2 i x hx
  rw [List.getElem?_append_right hi] at hx
  have h0 : i - xs.length = 0 := by
   cases hh : i - xs.length with
   | zero => rfl
   | succ j => rw [hh] at hx; simp at hx
  rw [h0] at hx; simp at hx; subst hx
  have : i = n := by omega
  subst this; exact hy
end
section
variable {H : Type} {enc : TypeId × Value → H} {P : Program} {W W' : World} {sp : Nat → Bool} {held : Bool}
theorem open_rowC {α : Type} {N : En α} {Ok : α → Prop} {t e : TypeId} (ht : P.underlying t = some (.slice e)) (hc : P.cellsOf e = N.sz)
  (hdec : ∀ (n : Nat) (cs : List Value) (y : DataW H × List MemPlace), DataW.trod enc P W 0 sp held n e cs = some y → ∃ x, cs = N.enc x ∧ Ok x)
  {n : Nat} {cs : List Value} {y : DataW H × List MemPlace} (h : DataW.trod enc P W 0 sp held n t cs = some y) :
  ∃ (a : Option Addr) (len cap : Nat) (xs : List α), cs = [.slice a len cap] ∧ xs.length = len ∧ xs.length ≤ cap ∧ RdS N W a xs ∧ (∀ x ∈ xs, Ok x) ∧ ∀ B, (∀ m ∈ y.1.weights P t, m ≤ B) → xs.length * P.bytesOf e ≤ B := by
 rcases DataW.trod_slice ht h with ⟨h0, rfl⟩ | ⟨ad, len, cap', elems, rest, m, _, h1, hy, hb, hl, hm, hlen, hel, _, _⟩
 ·exact ⟨none, 0, 0, [], h0, rfl, Nat.le_refl _, .nil _ _ _, fun x hx => by simp at hx, fun B _ => by simp⟩
 have each : ∀ i, i < len → ∃ x, W.cells? 0 (ad.add (i * N.sz)) N.sz = some (N.enc x) ∧ Ok x := fun i hi => by
  have h2 := hel i hi
  rw [List.getElem?_eq_getElem (by omega), Option.bind_eq_some_iff] at h2
  obtain ⟨cs, h3, h4⟩ := h2
  obtain ⟨x, rfl, hx⟩ := hdec _ _ _ h4
  rw [hc] at h3
  exact ⟨x, h3, hx⟩
 obtain ⟨xs, x1, x2⟩ := list_of (Q := fun i x => W.cells? 0 (ad.add (i * N.sz)) N.sz = some (N.enc x) ∧ Ok x) len each
 refine ⟨some ad, len, cap', xs, h1, x1, by omega, ⟨by omega, ?_⟩, fun x hx => ?_, fun B hB => ?_⟩
 ·rcases Nat.eq_zero_or_pos len with h0 | h0
  ·left; exact List.eq_nil_of_length_eq_zero (by omega)
  right
  have hspot : ad.spot = none := by
   obtain ⟨x, hx⟩ : ∃ x, xs[0]? = some x := ⟨xs[0], List.getElem?_eq_getElem (by omega)⟩
   obtain ⟨_, _, h5⟩ := World.cells?_some (x2 0 x hx).1
   have := h5 0 N.pos
   rw [List.getElem?_eq_getElem (by rw [N.len]; exact N.pos)] at this
   have e0 : (ad.add (0 * N.sz)).add 0 = ad := by simp [Addr.add]
   rw [e0] at this
   cases hs : ad.spot with
   | none => rfl
   | some q =>
    unfold World.cell? at this
    split at this
    ·rw [hs] at this; simp at this
    cases this
  refine ⟨ad, rfl, hspot, fun k x hk j u hj => ?_⟩
  obtain ⟨_, _, h5⟩ := World.cells?_some (x2 k x hk).1
  have hjl : j < N.sz := by have := (List.getElem?_eq_some_iff.1 hj).1; rw [N.len] at this; exact this
  have := h5 j hjl
  rw [hj] at this
  have e1 : (ad.add (k * N.sz)).add j = ⟨ad.block, ad.off + (k * N.sz + j), none⟩ := by
   cases ad with | mk b o s => simp at hspot; subst hspot; simp [add_none, Nat.add_assoc]
  rw [e1] at this
  exact this
 ·obtain ⟨i, hi, rfl⟩ := List.mem_iff_getElem.1 hx
  exact (x2 i _ (by rw [List.getElem?_eq_getElem hi])).2
 subst hy
 have := hB ((elems.length + rest.length) * P.bytesOf e) (by simp [DataW.weights, ht])
 have h2 : xs.length * P.bytesOf e ≤ (elems.length + rest.length) * P.bytesOf e := Nat.mul_le_mul_right _ (by omega)
 omega
theorem partC {fs : Array Field} {xs : List (DataW H × List MemPlace)} {n : Nat} {cs : List Value} (hall : ∀ (i : Nat) (f : Field), fs[i]? = some f → DataW.trod enc P W 0 sp held n f.type ((cs.drop f.offset).take (P.cellsOf f.type)) = xs[i]?) (hx : xs.length = fs.size)
  {i o : Nat} {f : Field} (hf : fs[i]? = some f) (hc : P.cellsOf f.type = 1) (ho : f.offset = o) : ∃ x, xs[i]? = some x ∧ DataW.trod enc P W 0 sp held n f.type ((cs.drop o).take 1) = some x := by
 have h := hall i f hf
 have hi : i < fs.size := (Array.getElem?_eq_some_iff.1 hf).1
 rw [List.getElem?_eq_getElem (by omega), hc, ho] at h
 exact ⟨_, List.getElem?_eq_getElem (by omega), h⟩
theorem cellC {cs : List Value} {o : Nat} {c : Value} (h : (cs.drop o).take 1 = [c]) : cs[o]? = some c := by
 have := congrArg (fun l => l[0]?) h
 simpa [List.getElem?_take, List.getElem?_drop] using this
theorem weightsC {t : TypeId} {fs : Array Field} (ht : P.underlying t = some (.struct fs)) {xs : List (DataW H × List MemPlace)} {B : Nat} (h : ∀ m ∈ (DataW.agg (xs.map (·.1)) : DataW H).weights P t, m ≤ B)
  {i : Nat} {f : Field} (hf : fs[i]? = some f) {x : DataW H × List MemPlace} (hx : xs[i]? = some x) : ∀ m ∈ x.1.weights P f.type, m ≤ B := fun m hm => by
 apply h
 simp only [DataW.weights, ht]
 exact DataW.weights_mem_each (j := i) (t := f.type) (d := x.1) (by simp [hf]) (by simp [hx]) m hm
theorem trod_of {t : TypeId} {v : Value} {d : DataW H} {ps : List MemPlace} {c : Value} (hv : v.cells = #[c]) (h : DataW.Trod enc P W 0 sp held t v d ps) : ∃ n, DataW.trod enc P W 0 sp held n t [c] = some (d, ps) := by
 obtain ⟨n, h⟩ := h; rw [hv] at h; exact ⟨n, h⟩
theorem weight_arg {ts : List TypeId} {ds : List (DataW H)} {B : Nat} (h : (DataW.weightsEach P ts ds).all (· ≤ B) = true) {j : Nat} {t : TypeId} {d : DataW H} (ht : ts[j]? = some t) (hd : ds[j]? = some d) : ∀ m ∈ d.weights P t, m ≤ B := fun m hm => by
 simpa using List.all_eq_true.1 h _ (DataW.weights_mem_each ht hd m hm)
end
section
variable {H : Type} {enc : TypeId × Value → H} {P : Program} {W W' : World} {sp : Nat → Bool} {held : Bool}
theorem weights_mem_all {e : TypeId} : ∀ {ds : List (DataW H)} {d : DataW H}, d ∈ ds → ∀ m ∈ d.weights P e, m ∈ DataW.weightsAll P e ds
 | [], _, h, _, _ => by cases h
 | d0 :: ds, d, h, m, hm => by
  simp only [DataW.weightsAll, List.mem_append]
  rcases List.mem_cons.1 h with rfl | h
  ·exact .inl hm
  exact .inr (weights_mem_all h m hm)
theorem open_rowW {α : Type} {N : En α} {Ok : α → Prop} {Wt : Nat → α → Prop} {t e : TypeId} (ht : P.underlying t = some (.slice e)) (hc : P.cellsOf e = N.sz)
  (hdec : ∀ (n : Nat) (cs : List Value) (y : DataW H × List MemPlace), DataW.trod enc P W 0 sp held n e cs = some y → ∃ x, cs = N.enc x ∧ Ok x ∧ ∀ B, (∀ m ∈ y.1.weights P e, m ≤ B) → Wt B x)
  {n : Nat} {cs : List Value} {y : DataW H × List MemPlace} (h : DataW.trod enc P W 0 sp held n t cs = some y) :
  ∃ (a : Option Addr) (len cap : Nat) (xs : List α), cs = [.slice a len cap] ∧ xs.length = len ∧ xs.length ≤ cap ∧ RdS N W a xs ∧ (∀ x ∈ xs, Ok x) ∧ ∀ B, (∀ m ∈ y.1.weights P t, m ≤ B) → xs.length * P.bytesOf e ≤ B ∧ ∀ x ∈ xs, Wt B x := by
 rcases DataW.trod_slice ht h with ⟨h0, rfl⟩ | ⟨ad, len, cap', elems, rest, m, _, h1, hy, hb, hl, hm, hlen, hel, _, _⟩
 ·exact ⟨none, 0, 0, [], h0, rfl, Nat.le_refl _, .nil _ _ _, fun x hx => by simp at hx, fun B _ => by simp⟩
 have each : ∀ i, i < len → ∃ x, W.cells? 0 (ad.add (i * N.sz)) N.sz = some (N.enc x) ∧ Ok x ∧ ∀ B, (∀ d ∈ elems, ∀ m ∈ d.1.weights P e, m ≤ B) → Wt B x := fun i hi => by
  have h2 := hel i hi
  rw [List.getElem?_eq_getElem (by omega), Option.bind_eq_some_iff] at h2
  obtain ⟨cs, h3, h4⟩ := h2
  obtain ⟨x, rfl, hx, hw⟩ := hdec _ _ _ h4
  rw [hc] at h3
  exact ⟨x, h3, hx, fun B hB => hw B (hB _ (List.getElem_mem _))⟩
 obtain ⟨xs, x1, x2⟩ := list_of (Q := fun i x => W.cells? 0 (ad.add (i * N.sz)) N.sz = some (N.enc x) ∧ Ok x ∧ ∀ B, (∀ d ∈ elems, ∀ m ∈ d.1.weights P e, m ≤ B) → Wt B x) len each
 refine ⟨some ad, len, cap', xs, h1, x1, by omega, ⟨by omega, ?_⟩, fun x hx => ?_, fun B hB => ?_⟩
 ·rcases Nat.eq_zero_or_pos len with h0 | h0
  ·left; exact List.eq_nil_of_length_eq_zero (by omega)
  right
  have hspot : ad.spot = none := by
   obtain ⟨x, hx⟩ : ∃ x, xs[0]? = some x := ⟨xs[0], List.getElem?_eq_getElem (by omega)⟩
   obtain ⟨_, _, h5⟩ := World.cells?_some (x2 0 x hx).1
   have := h5 0 N.pos
   rw [List.getElem?_eq_getElem (by rw [N.len]; exact N.pos)] at this
   have e0 : (ad.add (0 * N.sz)).add 0 = ad := by simp [Addr.add]
   rw [e0] at this
   cases hs : ad.spot with
   | none => rfl
   | some q =>
    unfold World.cell? at this
    split at this
    ·rw [hs] at this; simp at this
    cases this
  refine ⟨ad, rfl, hspot, fun k x hk j u hj => ?_⟩
  obtain ⟨_, _, h5⟩ := World.cells?_some (x2 k x hk).1
  have hjl : j < N.sz := by have := (List.getElem?_eq_some_iff.1 hj).1; rw [N.len] at this; exact this
  have := h5 j hjl
  rw [hj] at this
  have e1 : (ad.add (k * N.sz)).add j = ⟨ad.block, ad.off + (k * N.sz + j), none⟩ := by
   cases ad with | mk b o s => simp at hspot; subst hspot; simp [add_none, Nat.add_assoc]
  rw [e1] at this
  exact this
 ·obtain ⟨i, hi, rfl⟩ := List.mem_iff_getElem.1 hx
  exact (x2 i _ (by rw [List.getElem?_eq_getElem hi])).2.1
 subst hy
 have := hB ((elems.length + rest.length) * P.bytesOf e) (by simp [DataW.weights, ht])
 have h2 : xs.length * P.bytesOf e ≤ (elems.length + rest.length) * P.bytesOf e := Nat.mul_le_mul_right _ (by omega)
 refine ⟨by omega, fun x hx => ?_⟩
 obtain ⟨i, hi, rfl⟩ := List.mem_iff_getElem.1 hx
 refine (x2 i _ (by rw [List.getElem?_eq_getElem hi])).2.2 B fun d hd m hm => hB m ?_
 simp only [DataW.weights, ht, List.mem_cons, List.mem_append]
 exact .inr (.inl (weights_mem_all (List.mem_map.2 ⟨d, hd, rfl⟩) m hm))
end
end Go.HW
