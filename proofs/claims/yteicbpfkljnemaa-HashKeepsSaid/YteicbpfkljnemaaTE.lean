/- Part of the proof: the logic, the walks, and what they compute. -/
import Derived.KernelRfl
import Derived.Laws.Strings
import Derived.ChangeSame
import Derived.Carry
import Derived.ProofKit
import Derived.OpenShut
import Derived.SizedLaws
import Derived.Test.YteicbpfkljnemaaTD
set_option linter.all false
namespace Go.Proofs.Yteicbpfkljnemaa
open Go Go.HW
set_option maxRecDepth 8000
set_option linter.unusedVariables false
theorem pick_ok (x n : Int) (h0 : 0 < n) (h1 : n ≤ 100000) : ∃ v, fn6 x n = some v ∧ 0 ≤ v ∧ v < n := by
 have e1 : decide (n < 1) = false := by simp; omega
 have e2 : (n != 0) = true := by simp; omega
 have b1 : x.tmod n < n := Int.tmod_lt_of_pos x h0
 have b2 : -n < x.tmod n := Int.lt_tmod_of_pos x h0
 simp only [fn6, e1, e2, cond_false, cond_true]
 by_cases hc : x.tmod n < 0
 ·have e3 : decide (x.tmod n < 0) = true := by simpa using hc
  rw [e3, cond_true, w64 (by omega)]
  exact ⟨_, rfl, by omega, by omega⟩
 ·have e3 : decide (x.tmod n < 0) = false := by simpa using hc
  rw [e3, cond_false]
  exact ⟨_, rfl, by omega, by omega⟩
theorem great_l (l : List DoK) (hl : l.length ≤ 1000) : ∀ (m n i : Nat) (x : Int), m + i = l.length → m < n → ∃ y, fn7_l1 l n x (i : Int) = some y
 | 0, n + 1, i, x, h, hn => by
  have e2 : decide ((i : Int) < (l.length : Int)) = false := by simp; omega
  simp only [fn7_l1, fn7_b1, e2, Bool.false_and, cond_false]
  exact ⟨_, rfl⟩
 | m + 1, n + 1, i, x, h, hn => by
  have e2 : decide ((i : Int) < (l.length : Int)) = true := by simp; omega
  have e3 : inb (i : Int) l.length = true := inb_iff.2 ⟨by omega, by omega⟩
  have e5 : IntKind.i64.wrap ((i : Int) + 1) = ((i + 1 : Nat) : Int) := by rw [w64 (by omega)]; rfl
  simp only [fn7_l1, fn7_b1, e2, e3, Bool.true_and, cond_true, e5]
  cases decide (x ≤ 300) with
  | true => exact great_l l hl m n (i + 1) _ (by omega) (by omega)
  | false => exact ⟨_, rfl⟩
theorem great_ok {F : Nat} (hF : 1001 ≤ F) (s : MSpec) (l : List DoK) : ∃ b, fn7 F s l = some b := by
 by_cases hl : l.length ≤ 1000
 ·obtain ⟨y, hy⟩ := great_l l hl l.length F 0 (l.length : Int) (by omega) (by omega)
  simp only [fn7]
  rw [show ((0 : Nat) : Int) = 0 from rfl] at hy
  rw [hy]; exact ⟨_, rfl⟩
 ·obtain ⟨F, rfl⟩ : ∃ G, F = G + 1 := ⟨F - 1, by omega⟩
  have e : decide ((l.length : Int) ≤ 300) = false := by simp; omega
  simp only [fn7, fn7_l1, fn7_b1, e, Bool.and_false, cond_false]; exact ⟨_, rfl⟩
theorem new_l (p : MSpec) (hE : p.fEntries ≤ 10000) (hV : 0 ≤ p.fValue) (hV2 : p.fValue ≤ 10000) : ∀ (m n i : Nat) (xs : List HCell), ((m + i : Nat) : Int) = p.fEntries → m < n → xs.length = i →
  fn17_l1 p n xs (i : Int) = some (xs ++ List.replicate m ⟨false, List.replicate p.fValue.toNat 0⟩)
 | 0, n + 1, i, xs, h, hn, hx => by
  have e2 : decide ((i : Int) < p.fEntries) = false := by simp; omega
  simp only [fn17_l1, fn17_b1, e2, cond_false, List.replicate_zero, List.append_nil]
 | m + 1, n + 1, i, xs, h, hn, hx => by
  have e2 : decide ((i : Int) < p.fEntries) = true := by simp; omega
  have e3 : (decide ((0 : Int) ≤ p.fValue) && decide (p.fValue ≤ p.fValue) && decide ((1 : Int) * p.fValue ≤ 281474976710656) && decide (p.fValue ≤ 9223372036854775807)) = true := by simp; omega
  have e4 : decide ((xs.length + 1) * 32 ≤ 140737488355328 ∧ xs.length + 1 ≤ 9223372036854775807) = true := by simp; omega
  have e5 : IntKind.i64.wrap ((i : Int) + 1) = ((i + 1 : Nat) : Int) := by rw [w64 (by omega)]; rfl
  simp only [fn17_l1, fn17_b1, e2, e3, e4, e5, cond_true]
  rw [new_l p hE hV hV2 m n (i + 1) _ (by omega) (by omega) (by simp [hx]), List.append_assoc]
  rfl
theorem spec_hash (K V E : Int) : fn18 ⟨2, K, V, E⟩ = (bif !(decide (1 ≤ K) && decide (K ≤ 64)) then 2 else bif !(decide (1 ≤ V) && decide (V ≤ 1024)) then 2 else bif !(decide (1 ≤ E) && decide (E ≤ 1024)) then 2 else 0) := rfl
theorem new_ok {F : Nat} (hF : 2000 ≤ F) {K V E : Int} (hK : 1 ≤ K ∧ K ≤ 64) (hV : 1 ≤ V ∧ V ≤ 1024) (hE : 1 ≤ E ∧ E ≤ 1024) :
  fn8 F ⟨2, K, V, E⟩ = some (.inr (List.replicate E.toNat ⟨false, List.replicate V.toNat 0⟩, 2, K, V, E, [], 0)) := by
 have e0 : fn18 ⟨2, K, V, E⟩ = 0 := by
  rw [spec_hash]; simp [hK.1, hK.2, hV.1, hV.2, hE.1, hE.2]
 have e1 := new_l ⟨2, K, V, E⟩ (by show E ≤ _; omega) (by show 0 ≤ V; omega) (by show V ≤ _; omega) E.toNat F 0 [] (by show _ = E; omega) (by omega) rfl
 rw [show ((0 : Nat) : Int) = 0 from rfl] at e1
 simp only [fn8, fn16, fn17, e0, fn19, e1, frk2, beq_self_eq_true, Bool.not_true, cond_false, Option.bind_some, fn17_k1, List.nil_append]
structure J (E V : Nat) (K : Int) (cells : List HCell) (keys : List (ByteArray × Int)) (all : List (ByteArray × ByteArray)) (pl : List (ByteArray × Int)) : Prop where
 inv : HInv E V cells keys
 nda : KND all
 has : ∀ k, mhas all k = mhas keys k
 pos : ∀ k, mhas keys k = true → mget pl k 0 = mget keys k 0
 val : ∀ k, mhas keys k = true → strOfNums (gt cells (mget keys k 0)).fthing = mget all k ⟨#[]⟩
 siz : ∀ k, mhas keys k = true → (k.size : Int) = K
theorem knd_len {κ α β : Type} [DecidableEq κ] {xs : List (κ × α)} {ys : List (κ × β)} (hx : KND xs) (hy : KND ys) (h : ∀ k, mhas xs k = mhas ys k) : xs.length = ys.length := by
 have : (xs.map (·.1)).Perm (ys.map (·.1)) := (List.perm_ext_iff_of_nodup hx hy).2 fun k => by
  have h1 := mhas_iff xs k; have h2 := mhas_iff ys k; rw [h k] at h1
  simp only [List.mem_map]
  exact h1.symm.trans h2
 simpa using this.length_eq
theorem paste_len (n : Nat) (ys : List Int) : (pasteX (List.replicate n (0 : Int)) 0 (ys.take (n - 0))).length = n := by
 simp [pasteX]; omega
section
variable {E V : Nat} {K : Int} {cells : List HCell} {keys : List (ByteArray × Int)} {all : List (ByteArray × ByteArray)} {pl : List (ByteArray × Int)} {k : ByteArray} {v : List Int}
theorem J.len (h : J E V K cells keys all pl) : all.length = keys.length := knd_len h.nda h.inv.nd h.has
theorem J.new (E V : Nat) (K : Int) : J E V K (List.replicate E ⟨false, List.replicate V 0⟩) [] [] [] :=
 ⟨HInv.new E V, by simp [KND], fun k => rfl, fun k h => by simp [mhas, mfind] at h, fun k h => by simp [mhas, mfind] at h, fun k h => by simp [mhas, mfind] at h⟩
theorem J.del (h : J E V K cells keys all pl) (hm : mhas keys k = true) : J E V K (cells.set (mget keys k 0).toNat ⟨false, (gt cells (mget keys k 0)).fthing⟩) (mdel keys k) (mdel all k) pl := by
 refine ⟨h.inv.del hm, h.nda.del, fun t => ?_, fun t ht => ?_, fun t ht => ?_, fun t ht => ?_⟩
 ·rw [mhas_del k t h.nda, mhas_del k t h.inv.nd, h.has t]
 all_goals
  rw [mhas_del k t h.inv.nd] at ht
  have hkt : k ≠ t := by intro e; simp [e] at ht
  have ht' : mhas keys t = true := by simpa [hkt] using ht
 ·rw [mget_del k t 0 h.inv.nd hkt]; exact h.pos t ht'
 ·rw [mget_del k t 0 h.inv.nd hkt, mget_del k t _ h.nda hkt, gt_set (by rw [h.inv.len]; exact (h.inv.rg k hm).1) (inb_iff.1 (h.inv.rg t ht').1).1, if_neg (fun e => hkt (h.inv.inj k t hm ht' e))]
  exact h.val t ht'
 ·exact h.siz t ht'
theorem J.old (h : J E V K cells keys all pl) (hm : mhas keys k = true) (hv : v.length = V) :
  J E V K (cells.set (mget keys k 0).toNat ⟨true, v⟩) keys (mput all k (strOfNums v)) (mput pl k (mget keys k 0)) := by
 refine ⟨h.inv.old hm hv, h.nda.put, fun t => ?_, fun t ht => ?_, fun t ht => ?_, h.siz⟩
 ·rw [mhas_put, h.has t]
  by_cases hkt : k = t
  ·subst hkt; simp [hm]
  ·simp [hkt]
 ·rw [mget_put]
  by_cases hkt : k = t
  ·rw [if_pos hkt, hkt]
  ·rw [if_neg hkt]; exact h.pos t ht
 ·rw [mget_put, gt_set (by rw [h.inv.len]; exact (h.inv.rg k hm).1) (inb_iff.1 (h.inv.rg t ht).1).1]
  by_cases hkt : k = t
  ·subst hkt; rw [if_pos rfl, if_pos rfl]
  ·rw [if_neg hkt, if_neg (fun e => hkt (h.inv.inj k t hm ht e))]; exact h.val t ht
theorem J.push {j : Nat} (h : J E V K cells keys all pl) (hm : mhas keys k = false) (hf : ffree cells 0 = some j) (hv : v.length = V) (hk : (k.size : Int) = K) :
  J E V K (cells.set j ⟨true, v⟩) (mput keys k (j : Int)) (mput all k (strOfNums v)) (mput pl k (j : Int)) := by
 have hi := h.inv.push hm hf hv
 obtain ⟨_, c, h1, h2⟩ := ffree_some hf
 rw [Nat.sub_zero] at h1
 obtain ⟨hj, hc⟩ := List.getElem?_eq_some_iff.1 h1
 have hjb : inb (j : Int) cells.length = true := inb_iff.2 ⟨by omega, by omega⟩
 have hg : (gt cells (j : Int)).fused = false := by
  have e4 : gt cells (j : Int) = cells[j] := by unfold gt; simp [hj]
  rw [e4, hc]; exact h2
 have hset : ∀ i : Int, 0 ≤ i → gt (cells.set j ⟨true, v⟩) i = if (j : Int) = i then ⟨true, v⟩ else gt cells i := fun i hi => by
  have := gt_set (v := (⟨true, v⟩ : HCell)) hjb hi
  simpa using this
 refine ⟨hi, h.nda.put, fun t => by rw [mhas_put, mhas_put, h.has t], fun t ht => ?_, fun t ht => ?_, fun t ht => ?_⟩
 all_goals rw [mhas_put] at ht
 ·rw [mget_put, mget_put]
  by_cases hkt : k = t
  ·rw [if_pos hkt, if_pos hkt]
  ·rw [if_neg hkt, if_neg hkt]; exact h.pos t (by simpa [hkt] using ht)
 ·rw [mget_put, mget_put]
  by_cases hkt : k = t
  ·rw [if_pos hkt, if_pos hkt, hset _ (by omega), if_pos rfl]
  ·have ht' : mhas keys t = true := by simpa [hkt] using ht
   have hne : (j : Int) ≠ mget keys t 0 := fun e => by
    have := (h.inv.rg t ht').2
    rw [← e, hg] at this; cases this
   rw [if_neg hkt, if_neg hkt, hset _ (inb_iff.1 (h.inv.rg t ht').1).1, if_neg hne]; exact h.val t ht'
 ·by_cases hkt : k = t
  ·subst hkt; exact hk
  ·exact h.siz t (by simpa [hkt] using ht)
end
theorem deeds {F : Nat} (hF : 2000 ≤ F) {p : List DoK} (hp : p.length ≤ 1000) {v4 v6 v8 : Int} {K V E : Nat} (hK : IntKind.i64.wrap ((1 : Int) + v4) = (K : Int)) (hV : IntKind.i64.wrap ((1 : Int) + v6) = (V : Int)) (hE : IntKind.i64.wrap ((1 : Int) + v8) = (E : Int))
  (bK : K ≤ 100) (bV : V ≤ 100) (bE : E ≤ 100) {c0 : List HCell} {k0 : List (ByteArray × Int)} {a z : Int} : ∀ (m n i : Nat) (cells : List HCell) (keys : List (ByteArray × Int)) (all : List (ByteArray × ByteArray)) (pl : List (ByteArray × Int)), m + i = p.length → m < n → J E V K cells keys all pl →
  ∃ cells' keys' all' pl', fn3_l3 F p v4 v6 v8 (c0, a, (K : Int), (V : Int), (E : Int), k0, z) n cells keys all pl (i : Int) = some (.inl (cells', keys', all', pl')) ∧ J E V K cells' keys' all' pl'
 | 0, n + 1, i, cells, keys, all, pl, h, hn, hj => by
  have e2 : decide ((i : Int) < (p.length : Int)) = false := by simp; omega
  simp only [fn3_l3, fn3_b3, e2, cond_false]
  exact ⟨_, _, _, _, rfl, hj⟩
 | m + 1, n + 1, i, cells, keys, all, pl, h, hn, hj => by
  have e2 : decide ((i : Int) < (p.length : Int)) = true := by simp; omega
  have e3 : inb (i : Int) p.length = true := inb_iff.2 ⟨by omega, by omega⟩
  have e5 : IntKind.i64.wrap ((i : Int) + 1) = ((i + 1 : Nat) : Int) := by rw [w64 (by omega)]; rfl
  have eb : ∀ X : Nat, X ≤ 100 → (decide ((0 : Int) ≤ (X : Int)) && decide ((X : Int) ≤ (X : Int)) && decide ((1 : Int) * (X : Int) ≤ 281474976710656) && decide ((X : Int) ≤ 9223372036854775807)) = true := fun X hX => by simp; omega
  obtain ⟨q, hq, q0, q6⟩ := pick_ok (gt p (i : Int)).fWhat 6 (by omega) (by omega)
  have hkl := paste_len K (gt p (i : Int)).fKey.2
  have hvl := paste_len V (gt p (i : Int)).fB.2
  simp only [fn3_l3, fn3_b3, hK, hV, hE, e2, e3, e5, eb K bK, eb V bV, hq, cond_true, Option.bind_some, Int.toNat_natCast]
  generalize pasteX (List.replicate K (0 : Int)) 0 (List.take (K - 0) (gt p (i : Int)).fKey.2) = kk at hkl ⊢
  generalize pasteX (List.replicate V (0 : Int)) 0 (List.take (V - 0) (gt p (i : Int)).fB.2) = vv at hvl ⊢
  have hkI : (kk.length : Int) = (K : Int) := by rw [hkl]
  have hvI : (vv.length : Int) = (V : Int) := by rw [hvl]
  have hks : ((strOfNums kk).size : Int) = (K : Int) := by rw [strOfNums_size]; exact hkI
  have hcl : cells.length ≤ 100000 := by rw [hj.inv.len]; omega
  have hcF : cells.length < F := by rw [hj.inv.len]; omega
  have hha := hj.has (strOfNums kk)
  by_cases hc : (4 : Int) ≤ q
  ·simp only [hc, decide_true, cond_true]
   cases hm : mhas keys (strOfNums kk) with
   | true =>
    rw [hm] at hha
    rw [del_some hkI hm (by rw [hj.inv.len]; exact (hj.inv.rg _ hm).1)]
    simp only [Option.bind_some, hha, beq_self_eq_true, bne_self_eq_false, cond_false]
    exact deeds hF hp hK hV hE bK bV bE m n (i + 1) _ _ _ _ (by omega) (by omega) (hj.del hm)
   | false =>
    rw [hm] at hha
    rw [del_none hkI hm]
    simp only [Option.bind_some, hha, show ((6 : Int) == 0) = false from rfl, bne_self_eq_false, cond_false]
    rw [mdel_none all _ hha]
    exact deeds hF hp hK hV hE bK bV bE m n (i + 1) _ _ _ _ (by omega) (by omega) hj
  ·simp only [hc, decide_false, cond_false]
   cases hm : mhas keys (strOfNums kk) with
   | true =>
    rw [hm] at hha
    have hin : inb (mget keys (strOfNums kk) 0) cells.length = true := by rw [hj.inv.len]; exact (hj.inv.rg _ hm).1
    have hb := inb_iff.1 (hj.inv.rg _ hm).1
    rw [upd_old hkI hvI hm hin (by rw [hj.inv.th _ (hj.inv.rg _ hm).1, hvl])]
    have f1 : decide (mget keys (strOfNums kk) 0 < 0) = false := by simp; omega
    have f2 : decide ((E : Int) ≤ mget keys (strOfNums kk) 0) = false := by simp; omega
    simp only [Option.bind_some, look_eq hkI, hm, hha, hj.pos _ hm, f1, f2, bne_self_eq_false, Bool.not_true, cond_false, cond_true, Bool.or_self, Bool.or_false]
    exact deeds hF hp hK hV hE bK bV bE m n (i + 1) _ _ _ _ (by omega) (by omega) (hj.old hm hvl)
   | false =>
    rw [hm] at hha
    cases hf : ffree cells 0 with
    | none =>
     have hfull := hj.inv.free.1 hf
     have f3 : ((all.length : Int) == (E : Int)) = true := by rw [hj.len, hfull]; simp
     rw [upd_full hcl hcF hkI hvI hm hf]
     simp only [Option.bind_some, hha, f3, bne_self_eq_false, Bool.not_false, cond_false, cond_true]
     exact deeds hF hp hK hV hE bK bV bE m n (i + 1) _ _ _ _ (by omega) (by omega) hj
    | some j =>
     have hnf : ¬ keys.length = E := fun e => by have := hj.inv.free.2 e; rw [hf] at this; cases this
     have f3 : ((all.length : Int) == (E : Int)) = false := by rw [hj.len]; simp; omega
     obtain ⟨_, c, h1, h2⟩ := ffree_some hf
     rw [Nat.sub_zero] at h1
     obtain ⟨hjl, hcj⟩ := List.getElem?_eq_some_iff.1 h1
     have hjb : inb (j : Int) cells.length = true := inb_iff.2 ⟨by omega, by omega⟩
     have f1 : decide ((j : Int) < 0) = false := by simp
     have f2 : decide ((E : Int) ≤ (j : Int)) = false := by rw [hj.inv.len] at hjl; simp; omega
     rw [upd_new hcl hcF hkI hvI hm hf hjb (by rw [hj.inv.th _ (by rw [← hj.inv.len]; exact hjb), hvl])]
     have g1 : mhas (mput keys (strOfNums kk) (j : Int)) (strOfNums kk) = true := by rw [mhas_put]; simp
     have g2 : mget (mput keys (strOfNums kk) (j : Int)) (strOfNums kk) 0 = (j : Int) := by rw [mget_put, if_pos rfl]
     simp only [Option.bind_some, look_eq hkI, hha, f1, f2, f3, g1, g2, bne_self_eq_false, Bool.not_false, cond_false, cond_true, Bool.or_self]
     exact deeds hF hp hK hV hE bK bV bE m n (i + 1) _ _ _ _ (by omega) (by omega) (hj.push hm hf hvl hks)
theorem less_of : ∀ {x y : List UInt8}, x ≤ y → x ≠ y → Op.bytesLess x y = true
 | [], [], _, h => absurd rfl h
 | [], b :: y, _, _ => by simp [Op.bytesLess]
 | a :: x, [], h, _ => by exact absurd h (by simp)
 | a :: x, b :: y, h, hn => by
  rcases List.cons_le_cons_iff.1 h with h1 | ⟨rfl, h1⟩
  ·simp [Op.bytesLess, h1]
  ·have : x ≠ y := fun e => hn (by rw [e])
   simp [Op.bytesLess, less_of h1 this]
theorem srt_perm (l : List ByteArray) : (srt l).Perm l := by
 have h := (sortL_perm (l.map (·.data.toList))).map (fun x : List UInt8 => (⟨x.toArray⟩ : ByteArray))
 rw [List.map_map] at h
 have e : l.map ((fun x : List UInt8 => (⟨x.toArray⟩ : ByteArray)) ∘ fun x => x.data.toList) = l := by
  conv => rhs; rw [← List.map_id l]
  exact List.map_congr_left fun x _ => by simp
 rw [e] at h; exact h
theorem srt_less {l : List ByteArray} (hn : l.Nodup) : (srt l).Pairwise fun x y => Op.bytesLess x.toList y.toList = true := by
 have h1 := sortL_sorted (l.map (·.data.toList))
 have h2 : (sortL (l.map (·.data.toList))).Nodup := (sortL_perm _).nodup_iff.2 (List.pairwise_map.2 (hn.imp fun {x y} h e => h (Go.WideShapes.bytes_inj e)))
 unfold srt
 rw [List.pairwise_map]
 refine (h1.and h2).imp fun {x y} h => ?_
 rw [ByteArray.toList_eq, ByteArray.toList_eq]
 exact less_of (by simpa using h.1) h.2
theorem str_num (s : ByteArray) : strOfNums (numsOf s) = s := by
 apply Go.WideShapes.bytes_inj
 rw [strOfNums_data, numsOf, List.map_map]
 conv => rhs; rw [← List.map_id s.data.toList]
 exact List.map_congr_left fun b _ => by simp
theorem gt_map {α β : Type} [Inhabited α] [Inhabited β] (f : α → β) {l : List α} {i : Int} (hi : inb i l.length = true) : gt (l.map f) i = f (gt l i) := by
 have h := inb_iff.1 hi
 have hlt : i.toNat < l.length := by omega
 unfold gt; simp [hlt]
theorem keys_l (S : List ByteArray) (hl : S.length ≤ 10000) (hs : ∀ s ∈ S, s.size ≤ 100000) : ∀ (m n i : Nat) (xs : List (List Int)), m + i = S.length → m < n → xs.length = i →
  fn12v1_l1 S n xs (i : Int) = some (xs ++ (S.drop i).map numsOf)
 | 0, n + 1, i, xs, h, hn, hx => by
  have e1 : S.drop i = [] := List.drop_eq_nil_of_le (by omega)
  have e2 : decide ((i : Int) < (S.length : Int)) = false := by simp; omega
  simp only [fn12v1_l1, fn12v1_b1, e1, e2, cond_false, List.map_nil, List.append_nil]
 | m + 1, n + 1, i, xs, h, hn, hx => by
  have hi : i < S.length := by omega
  have e1 : S.drop i = S[i] :: S.drop (i + 1) := List.drop_eq_getElem_cons hi
  have e2 : decide ((i : Int) < (S.length : Int)) = true := by simp; omega
  have e3 : inb (i : Int) S.length = true := inb_iff.2 ⟨by omega, by omega⟩
  have e4 : gt S (i : Int) = S[i] := by unfold gt; simp [hi]
  have e6 : decide (S[i].size ≤ 9223372036854775807) = true := by have := hs S[i] (List.getElem_mem _); simp; omega
  have e7 : decide ((xs.length + 1) * 24 ≤ 140737488355328 ∧ xs.length + 1 ≤ 9223372036854775807) = true := by simp; omega
  have e5 : IntKind.i64.wrap ((i : Int) + 1) = ((i + 1 : Nat) : Int) := by rw [w64 (by omega)]; rfl
  simp only [fn12v1_l1, fn12v1_b1, e1, e2, e3, e4, e5, e6, e7, cond_true]
  rw [keys_l S hl hs m n (i + 1) _ (by omega) (by omega) (by simp [hx]), List.append_assoc]; rfl
theorem keys_ok {F : Nat} {cells : List HCell} {a K V E : Int} {keys : List (ByteArray × Int)} (hF : 20000 ≤ F) (hl : keys.length ≤ 10000) (hs : ∀ p ∈ keys, p.1.size ≤ 100000) :
  fn12v1 F cells a K V E keys = some ((srt (keys.map (·.1))).map numsOf) := by
 have e1 : (decide ((keys.length : Int) ≤ 8796093022208) && keys.all (fun p => decide (p.1.size ≤ 9223372036854775807))) = true := by
  rw [Bool.and_eq_true]
  refine ⟨by simp; omega, List.all_eq_true.2 fun p hp => ?_⟩
  have := hs p hp; simp; omega
 have hp := srt_perm (keys.map (·.1))
 have hlen : (srt (keys.map (·.1))).length = keys.length := by simpa using hp.length_eq
 have e2 := keys_l (srt (keys.map (·.1))) (by omega) (fun s h => by
  obtain ⟨p, h1, rfl⟩ := List.mem_map.1 (hp.subset h); exact hs p h1) (srt (keys.map (·.1))).length F 0 [] (by omega) (by omega) rfl
 rw [show ((0 : Nat) : Int) = 0 from rfl] at e2
 simp only [fn12v1, fn28, e1, cond_true, Option.bind_some, e2, fn12v1_k1, List.nil_append, List.drop_zero]
theorem looks {E V : Nat} {K : Int} {cells : List HCell} {keys : List (ByteArray × Int)} {all : List (ByteArray × ByteArray)} {pl : List (ByteArray × Int)} (hj : J E V K cells keys all pl) (bV : V ≤ 100000)
  {c0 : List HCell} {k0 : List (ByteArray × Int)} {a v e z : Int} {S : List ByteArray} (hS : ∀ s ∈ S, mhas keys s = true) (hn : S.Nodup) (hp : S.Pairwise fun x y => Op.bytesLess x.toList y.toList = true) (hl : S.length ≤ 10000) : ∀ (m n i : Nat) (T : List (Int × Bool)), m + i = S.length → m < n →
  (∀ x, mget T x false = true → ∃ j : Nat, j < i ∧ x = mget keys (gt S (j : Int)) 0) → fn3_l4 (c0, a, K, v, e, k0, z) cells keys all pl (S.map numsOf) n T (i : Int) = some (.inl ())
 | 0, n + 1, i, T, h, hm, hT => by
  have e2 : decide ((i : Int) < ((S.map numsOf).length : Int)) = false := by simp; omega
  simp only [fn3_l4, fn3_b4, e2, cond_false]
 | m + 1, n + 1, i, T, h, hm, hT => by
  have hi : i < S.length := by omega
  have e2 : decide ((i : Int) < ((S.map numsOf).length : Int)) = true := by simp; omega
  have e3 : inb (i : Int) (S.map numsOf).length = true := inb_iff.2 ⟨by omega, by simp; omega⟩
  have e3' : inb (i : Int) S.length = true := inb_iff.2 ⟨by omega, by omega⟩
  have e5 : IntKind.i64.wrap ((i : Int) + 1) = ((i + 1 : Nat) : Int) := by rw [w64 (by omega)]; rfl
  have e6 := gt_map numsOf e3'
  have hmem := gt_mem e3'
  have hs := hS _ hmem
  have hsz : ((numsOf (gt S (i : Int))).length : Int) = K := by rw [numsOf_length]; exact hj.siz _ hs
  have hin := (hj.inv.rg _ hs).1
  have hth := hj.inv.th _ hin
  have hin' : inb (mget keys (gt S (i : Int)) 0) cells.length = true := by rw [hj.inv.len]; exact hin
  have hget : ∀ j : Nat, (hj : j < S.length) → gt S (j : Int) = S[j] := fun j hj => by unfold gt; simp [hj]
  have hT' : mget T (mget keys (gt S (i : Int)) 0) false = false := by
   cases hh : mget T (mget keys (gt S (i : Int)) 0) false with
   | false => rfl
   | true =>
    obtain ⟨j, hji, he⟩ := hT _ hh
    have hjl : j < S.length := by omega
    have := hj.inv.inj _ _ hs (hS _ (by rw [hget j hjl]; exact List.getElem_mem _)) he
    rw [hget i hi, hget j hjl] at this
    rcases Nat.lt_or_gt_of_ne (show i ≠ j by omega) with h1 | h1
    ·omega
    ·exact (List.pairwise_iff_getElem.1 hn j i hjl hi h1 this.symm).elim
  have hval := hj.val _ hs
  have hpos := hj.pos _ hs
  have hnext : ∀ x, mget (mput T (mget keys (gt S (i : Int)) 0) true) x false = true → ∃ j : Nat, j < i + 1 ∧ x = mget keys (gt S (j : Int)) 0 := fun x hx => by
   rw [mget_put] at hx
   by_cases hxe : mget keys (gt S (i : Int)) 0 = x
   ·exact ⟨i, by omega, hxe.symm⟩
   ·rw [if_neg hxe] at hx
    obtain ⟨j, h1, h2⟩ := hT x hx
    exact ⟨j, by omega, h2⟩
  have hstr : ∀ s : ByteArray, strOfNums (numsOf s) = s := str_num
  simp only [fn3_l4, fn3_b4, e2, e3, e5, e6, cond_true, look_eq hsz, hstr, hs, Option.bind_some, val_eq hin' (by rw [hth]; omega), hj.has, hval, hpos, hT', bne_self_eq_false, Bool.not_true, cond_false]
  by_cases h0 : i = 0
  ·subst h0
   have e8 : decide ((0 : Int) < ((0 : Nat) : Int)) = false := rfl
   simp only [e8, cond_false]
   exact looks hj bV hS hn hp hl m n 1 _ (by omega) (by omega) hnext
  ·have e8 : decide ((0 : Int) < (i : Int)) = true := by simp; omega
   have e9 : IntKind.i64.wrap ((i : Int) - 1) = ((i - 1 : Nat) : Int) := by rw [w64 (by omega)]; omega
   have e10 : inb ((i - 1 : Nat) : Int) (S.map numsOf).length = true := inb_iff.2 ⟨by omega, by simp; omega⟩
   have e10' : inb ((i - 1 : Nat) : Int) S.length = true := inb_iff.2 ⟨by omega, by omega⟩
   have e11 : Op.bytesLess (gt S ((i - 1 : Nat) : Int)).toList (gt S (i : Int)).toList = true := by
    rw [hget i hi, hget (i - 1) (by omega)]
    exact List.pairwise_iff_getElem.1 hp (i - 1) i (by omega) hi (by omega)
   simp only [e8, e9, e10, cond_true, gt_map numsOf e10', hstr, e11, Bool.not_true, cond_false]
   exact looks hj bV hS hn hp hl m n (i + 1) _ (by omega) (by omega) hnext
theorem hashKeeps_plain (p0 p1 p2 : Int) (p3 : List DoK) : fn3 30000 p0 p1 p2 p3 = some true := by
 have aw : fn5 30000 = some true := by kernel_rfl
 obtain ⟨v4, q4, a4, b4⟩ := pick_ok p0 3 (by omega) (by omega)
 obtain ⟨v6, q6, a6, b6⟩ := pick_ok p1 9 (by omega) (by omega)
 obtain ⟨v8, q8, a8, b8⟩ := pick_ok p2 40 (by omega) (by omega)
 have w4 : IntKind.i64.wrap ((1 : Int) + v4) = (((1 + v4).toNat : Nat) : Int) := by rw [w64 (by omega)]; omega
 have w6 : IntKind.i64.wrap ((1 : Int) + v6) = (((1 + v6).toNat : Nat) : Int) := by rw [w64 (by omega)]; omega
 have w8 : IntKind.i64.wrap ((1 : Int) + v8) = (((1 + v8).toNat : Nat) : Int) := by rw [w64 (by omega)]; omega
 obtain ⟨b, hb⟩ := great_ok (F := 30000) (by omega) ⟨2, IntKind.i64.wrap ((1 : Int) + v4), IntKind.i64.wrap ((1 : Int) + v6), IntKind.i64.wrap ((1 : Int) + v8)⟩ p3
 simp only [fn3, aw, q4, q6, q8, hb, Option.bind_some, Bool.not_true, cond_false]
 cases hg : b || decide ((200 : Int) < (p3.length : Int)) with
 | true => rfl
 | false =>
  have hlen : p3.length ≤ 200 := by
   have := (Bool.or_eq_false_iff.1 hg).2
   simp at this; omega
  rw [cond_false]
  have hnew := new_ok (F := 30000) (by omega) (K := IntKind.i64.wrap ((1 : Int) + v4)) (V := IntKind.i64.wrap ((1 : Int) + v6)) (E := IntKind.i64.wrap ((1 : Int) + v8)) (by rw [w4]; omega) (by rw [w6]; omega) (by rw [w8]; omega)
  rw [hnew]
  simp only [frk2, bne_self_eq_false, cond_false]
  obtain ⟨cells, keys, all, pl, hd, hj⟩ := deeds (F := 30000) (by omega) (p := p3) (by omega) w4 w6 w8 (by omega) (by omega) (by omega) (a := 2) (z := 0) (k0 := []) (c0 := List.replicate (1 + v8).toNat ⟨false, List.replicate (1 + v6).toNat 0⟩) p3.length 30000 0 _ _ _ _ (by omega) (by omega) (J.new (1 + v8).toNat (1 + v6).toNat (((1 + v4).toNat : Nat) : Int))
  rw [show ((0 : Nat) : Int) = 0 from rfl] at hd
  rw [w4, w6, w8] at *
  simp only [Int.toNat_natCast] at *
  rw [hd]
  have hkl : keys.length ≤ 100 := by
   have := hj.inv.cnt; have h2 := List.countP_le_length (p := fun x : HCell => x.fused) (l := cells); rw [hj.inv.len] at h2; omega
  have hks : ∀ p ∈ keys, p.1.size ≤ 100000 := fun p hp => by
   have := hj.siz p.1 ((mhas_iff keys p.1).2 ⟨p, hp, rfl⟩); omega
  have hnd : (keys.map (fun p : ByteArray × Int => p.1)).Nodup := hj.inv.nd
  have hperm := srt_perm (keys.map (·.1))
  have hSl : (srt (keys.map (·.1))).length = keys.length := by simpa using hperm.length_eq
  have hlk := looks hj (by omega) (c0 := List.replicate (1 + v8).toNat ⟨false, List.replicate (1 + v6).toNat 0⟩) (k0 := []) (a := 2) (v := (((1 + v6).toNat : Nat) : Int)) (e := (((1 + v8).toNat : Nat) : Int)) (z := 0) (S := srt (keys.map (·.1)))
   (fun s hs => by obtain ⟨p, h1, rfl⟩ := List.mem_map.1 (hperm.subset hs); exact (mhas_iff keys p.1).2 ⟨p, h1, rfl⟩) (hperm.nodup_iff.2 hnd) (srt_less hnd) (by omega) (srt (keys.map (·.1))).length 30000 0 [] (by omega) (by omega) (fun x hx => by simp [mget, mfind] at hx)
  rw [show ((0 : Nat) : Int) = 0 from rfl] at hlk
  simp only [Option.bind_some, fn3_k3, keys_ok (F := 30000) (by omega) (show keys.length ≤ 10000 by omega) hks, hlk, fn3_k4, List.length_map, hSl, hj.len, beq_self_eq_true]
end Go.Proofs.Yteicbpfkljnemaa
namespace Go.HW
open Go Go.RowKit Go.ChangeShapes
set_option linter.unusedVariables false
variable {H : Type} {enc : TypeId × Value → H} {P : Program}
theorem post_below {f : Func} {s : ChangeSpec} {apart fresh handsOn : Bool} {W W' : World} {args : Array Value} {v : Value} {ds gs : List (DataW H)} {before pa pv : List MemPlace}
  (hW : DataW.Whole enc P f.params.toList s.vars apart W args.toList ds gs before)
  (hres : ∀ (b : Nat) (sp : Nat → Bool) (hd : Bool), DataW.TrodAll enc P W' b sp hd f.resultTypes.toList (v.resultList f.resultTypes.size) (s.fn H (ds ++ gs)).results [])
  (hargs : ∀ sp : Nat → Bool, (∀ p ∈ before, sp p.block = true) → DataW.TrodAll enc P W' 0 sp true f.params.toList args.toList (s.fn H (ds ++ gs)).args pa)
  (hvars : ∀ sp : Nat → Bool, (∀ p ∈ before, sp p.block = true) → DataW.TrodVars enc P W' sp s.vars (s.fn H (ds ++ gs)).vars pv)
  (hps : before = pa ++ pv) (hk : Below W.heap.size W W') : s.post enc P f apart fresh handsOn false W args v W' := by
 have hold : ∀ p ∈ before, (fun b => decide (b < W.heap.size)) p.block = true := fun p hp => by simpa using hW.lt p hp
 refine ⟨ds, gs, before, [], pa, pv, hW, hres _ _ _, hargs _ hold, hvars _ hold, World.keptBut_mono (fun p hp => ⟨hp, ?_⟩) (hk.frame (· ∈ before)), fun h => by cases h⟩
 rw [hps, List.mem_append] at hp
 exact Or.inr hp
end Go.HW
namespace Go.HW
open Go Go.RowKit Go.ChangeShapes
set_option linter.unusedVariables false
section
variable {H : Type} {enc : TypeId × Value → H} {P : Program} {W W' : World}
theorem TrodAll.stays (hl : laidOutB P = true) {sp : Nat → Bool} (hb : Below W.heap.size W W') : ∀ {ts : List TypeId} {vs : List Value} {ds : List (DataW H)} {ps : List MemPlace}, (ts.all fun t => P.readableRec t && decide (t < P.types.size)) = true →
  DataW.TrodAll enc P W 0 (fun _ => true) true ts vs ds ps → (∀ x ∈ ps, x.block < W.heap.size) → (∀ x ∈ ps, sp x.block = true) → DataW.TrodAll enc P W' 0 sp true ts vs ds ps
 | [], [], [], ps, _, h, _, _ => h
 | t :: ts, v :: vs, d :: ds, ps, hr, h, hlt, hs => by
  obtain ⟨p, q, h1, h2, rfl⟩ := h
  simp only [List.all_cons, Bool.and_eq_true, decide_eq_true_eq] at hr
  obtain ⟨⟨r1, r2⟩, r3⟩ := hr
  exact ⟨p, q, WideElems.Trod_stays hl r1 r2 h1 (fun x hx => hb.same (hlt x (by simp [hx]))) (fun x hx => hs x (by simp [hx])), TrodAll.stays hl hb (by simpa using r3) h2 (fun x hx => hlt x (by simp [hx])) (fun x hx => hs x (by simp [hx])), rfl⟩
 | [], [], _ :: _, _, _, h, _, _ => by simp [DataW.TrodAll] at h
 | [], _ :: _, _, _, _, h, _, _ => by simp [DataW.TrodAll] at h
 | _ :: _, [], _, _, _, h, _, _ => by simp [DataW.TrodAll] at h
 | _ :: _, _ :: _, [], _, _, h, _, _ => by simp [DataW.TrodAll] at h
theorem list_of {α : Type} {Q : Nat → α → Prop} : ∀ (n : Nat), (∀ i, i < n → ∃ x, Q i x) → ∃ xs : List α, xs.length = n ∧ ∀ i x, xs[i]? = some x → Q i x
 | 0, _ => ⟨[], rfl, fun i x h => by simp at h⟩
 | n + 1, h => by
  obtain ⟨xs, h1, h2⟩ := list_of n (fun i hi => h i (by omega))
  obtain ⟨y, hy⟩ := h n (by omega)
  refine ⟨xs ++ [y], by simp [h1], fun i x hx => ?_⟩
  rcases Nat.lt_or_ge i xs.length with hi | hi
  ·rw [List.getElem?_append_left hi] at hx; exact h2 i x hx
  ·rw [List.getElem?_append_right hi] at hx
   have h0 : i - xs.length = 0 := by
    cases hh : i - xs.length with
    | zero => rfl
    | succ j => rw [hh] at hx; simp at hx
   rw [h0] at hx; simp at hx; subst hx
   have : i = n := by omega
   subst this; exact hy
end
end Go.HW
namespace Go.HW
open Go Go.RowKit Go.ChangeShapes
set_option linter.unusedVariables false
section
variable {H : Type} {enc : TypeId × Value → H} {P : Program} {W W' : World} {sp : Nat → Bool} {held : Bool}
theorem open_rowC {α : Type} {N : En α} {Ok : α → Prop} {t e : TypeId} (ht : P.underlying t = some (.slice e)) (hc : P.cellsOf e = N.sz)
  (hdec : ∀ (n : Nat) (cs : List Value) (y : DataW H × List MemPlace), DataW.trod enc P W 0 sp held n e cs = some y → ∃ x, cs = N.enc x ∧ Ok x)
  {n : Nat} {cs : List Value} {y : DataW H × List MemPlace} (h : DataW.trod enc P W 0 sp held n t cs = some y) :
  ∃ (a : Option Addr) (len cap : Nat) (xs : List α), cs = [.slice a len cap] ∧ xs.length = len ∧ xs.length ≤ cap ∧ RdS N W a xs ∧ (∀ x ∈ xs, Ok x) ∧ ∀ B, (∀ m ∈ y.1.weights P t, m ≤ B) → xs.length * P.bytesOf e ≤ B := by
 rcases DataW.trod_slice ht h with ⟨h0, rfl⟩ | ⟨ad, len, cap', elems, rest, m, _, h1, hy, hb, hl, hm, hlen, hel, _, _⟩
 ·exact ⟨none, 0, 0, [], h0, rfl, Nat.le_refl _, .nil _ _ _, fun x hx => by simp at hx, fun B _ => by simp⟩
 ·have each : ∀ i, i < len → ∃ x, W.cells? 0 (ad.add (i * N.sz)) N.sz = some (N.enc x) ∧ Ok x := fun i hi => by
   have h2 := hel i hi
   rw [List.getElem?_eq_getElem (by omega), Option.bind_eq_some_iff] at h2
   obtain ⟨cs, h3, h4⟩ := h2
   obtain ⟨x, rfl, hx⟩ := hdec _ _ _ h4
   rw [hc] at h3
   exact ⟨x, h3, hx⟩
  obtain ⟨xs, x1, x2⟩ := list_of (Q := fun i x => W.cells? 0 (ad.add (i * N.sz)) N.sz = some (N.enc x) ∧ Ok x) len each
  refine ⟨some ad, len, cap', xs, h1, x1, by omega, ⟨by omega, ?_⟩, fun x hx => ?_, fun B hB => ?_⟩
  ·rcases Nat.eq_zero_or_pos len with h0 | h0
   ·left; exact List.eq_nil_of_length_eq_zero (by omega)
   ·right
    have hspot : ad.spot = none := by
     obtain ⟨x, hx⟩ : ∃ x, xs[0]? = some x := ⟨xs[0], List.getElem?_eq_getElem (by omega)⟩
     obtain ⟨_, _, h5⟩ := World.cells?_some (x2 0 x hx).1
     have := h5 0 N.pos
     rw [List.getElem?_eq_getElem (by rw [N.len]; exact N.pos)] at this
     have e0 : (ad.add (0 * N.sz)).add 0 = ad := by simp [Addr.add]
     rw [e0] at this
     cases hs : ad.spot with
     | none => rfl
     | some q =>
      unfold World.cell? at this
      split at this
      ·rw [hs] at this; simp at this
      ·cases this
    refine ⟨ad, rfl, hspot, fun k x hk j u hj => ?_⟩
    obtain ⟨_, _, h5⟩ := World.cells?_some (x2 k x hk).1
    have hjl : j < N.sz := by have := (List.getElem?_eq_some_iff.1 hj).1; rw [N.len] at this; exact this
    have := h5 j hjl
    rw [hj] at this
    have e1 : (ad.add (k * N.sz)).add j = ⟨ad.block, ad.off + (k * N.sz + j), none⟩ := by
     cases ad with | mk b o s => simp at hspot; subst hspot; simp [add_none, Nat.add_assoc]
    rw [e1] at this
    exact this
  ·obtain ⟨i, hi, rfl⟩ := List.mem_iff_getElem.1 hx
   exact (x2 i _ (by rw [List.getElem?_eq_getElem hi])).2
  ·subst hy
   have := hB ((elems.length + rest.length) * P.bytesOf e) (by simp [DataW.weights, ht])
   have h2 : xs.length * P.bytesOf e ≤ (elems.length + rest.length) * P.bytesOf e := Nat.mul_le_mul_right _ (by omega)
   omega
theorem partC {fs : Array Field} {xs : List (DataW H × List MemPlace)} {n : Nat} {cs : List Value} (hall : ∀ (i : Nat) (f : Field), fs[i]? = some f → DataW.trod enc P W 0 sp held n f.type ((cs.drop f.offset).take (P.cellsOf f.type)) = xs[i]?) (hx : xs.length = fs.size)
  {i o : Nat} {f : Field} (hf : fs[i]? = some f) (hc : P.cellsOf f.type = 1) (ho : f.offset = o) : ∃ x, xs[i]? = some x ∧ DataW.trod enc P W 0 sp held n f.type ((cs.drop o).take 1) = some x := by
 have h := hall i f hf
 have hi : i < fs.size := (Array.getElem?_eq_some_iff.1 hf).1
 rw [List.getElem?_eq_getElem (by omega), hc, ho] at h
 exact ⟨_, List.getElem?_eq_getElem (by omega), h⟩
theorem cellC {cs : List Value} {o : Nat} {c : Value} (h : (cs.drop o).take 1 = [c]) : cs[o]? = some c := by
 have := congrArg (fun l => l[0]?) h
 simpa [List.getElem?_take, List.getElem?_drop] using this
theorem trod_of {t : TypeId} {v : Value} {d : DataW H} {ps : List MemPlace} {c : Value} (hv : v.cells = #[c]) (h : DataW.Trod enc P W 0 sp held t v d ps) : ∃ n, DataW.trod enc P W 0 sp held n t [c] = some (d, ps) := by
 obtain ⟨n, h⟩ := h; rw [hv] at h; exact ⟨n, h⟩
theorem weight_arg {ts : List TypeId} {ds : List (DataW H)} {B : Nat} (h : (DataW.weightsEach P ts ds).all (· ≤ B) = true) {j : Nat} {t : TypeId} {d : DataW H} (ht : ts[j]? = some t) (hd : ds[j]? = some d) : ∀ m ∈ d.weights P t, m ≤ B := fun m hm => by
 simpa using List.all_eq_true.1 h _ (DataW.weights_mem_each ht hd m hm)
end
end Go.HW
