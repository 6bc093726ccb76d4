/- Part of the proof: the logic, the walks, and what they compute. -/
import Derived.ChangeSame
import Derived.Carry
import Derived.ProofKit
import Derived.OpenShut
import Derived.KernelRfl
import Derived.SizedLaws
import Derived.Test.YtfjefnnbodgfbaaGreatDoorRows
import Derived.Lib.LaidU8
import Derived.Shelf.Vars
import Derived.LaidLaws
import Derived.Handed
import Derived.Stop.Joined
import Derived.Test.YtfjefnnbodgfbaaGreatDoorTD
set_option linter.all false
namespace Go.Proofs.YtfjefnnbodgfbaaGreatDoor
open Go Go.HW
set_option linter.unusedVariables false
theorem clr_op (x : Instr) (c : Int) : (clr x c).fOp = x.fOp := by
 unfold clr
 cases c == 68 <;> cases c == 83 <;> cases c == 73 <;> rfl
theorem clrs_op (l : List Nat) : ∀ x : Instr, (clrs x l).fOp = x.fOp := by
 induction l with
 | nil => intro x; rfl
 | cons c l ih => intro x; rw [clrs, ih, clr_op]
theorem fits_l (p0 : RForm) (l : List Nat) : ∀ (q F : Nat) (x : Instr), letters p0.fwords q l → q + l.length ≤ 1000 → l.length < F →
  fn67_l1 p0 F x.fDst x.fSrc x.fOff x.fImm (q : Int) = some ((clrs x l).fDst, (clrs x l).fSrc, (clrs x l).fOff, (clrs x l).fImm) := by
 induction l with
 | nil =>
  intro q F x hl hq hF
  have hl : ¬ q < p0.fwords.size := hl
  obtain ⟨F, rfl⟩ : ∃ n, F = n + 1 := ⟨F - 1, by simp at hF; omega⟩
  rw [fn67_l1_s, fn67_b1, decide_eq_false (by omega), cond_false]; rfl
 | cons c l ih =>
  intro q F x hl hq hF
  obtain ⟨h1, h2, h3, h4, h5⟩ := hl
  simp only [List.length_cons] at hF hq
  obtain ⟨F, rfl⟩ : ∃ n, F = n + 1 := ⟨F - 1, by omega⟩
  have hi := ih (q + 1) F (clr x (c : Int)) h5 (by omega) (by omega)
  have hin : inb (q : Int) p0.fwords.size = true := by simp [inb]; omega
  have hw : IntKind.i64.wrap ((q : Int) + 1) = ((q + 1 : Nat) : Int) := by rw [w64 (by omega)]; omega
  rw [fn67_l1_s, fn67_b1, decide_eq_true (by omega), cond_true, hin, cond_true, h4, hw, show clrs x (c :: l) = clrs (clr x (c : Int)) l from rfl, ← hi]
  unfold clr
  cases (c : Int) == 68
  ·cases (c : Int) == 83
   ·cases (c : Int) == 73 <;> rfl
   ·rfl
  ·rfl
theorem fits_ok {p0 : RForm} {l : List Nat} {F : Nat} {x : Instr} (hl : letters p0.fwords 0 l) (hn : l.length ≤ 50) (hF : l.length < F) : fn67 F p0 x = some (decide (clrs x l = p0.fslot)) := by
 unfold fn67
 have h := fits_l p0 l 0 F x hl (by omega) hF
 rw [show ((0 : Nat) : Int) = 0 from rfl] at h
 rw [h, Option.bind_some, fn67_k1]
 congr 1
 have ho := clrs_op l x
 rw [← ho]
 generalize clrs x l = z
 generalize p0.fslot = s
 obtain ⟨a1, a2, a3, a4, a5⟩ := z
 obtain ⟨b1, b2, b3, b4, b5⟩ := s
 simp [Bool.beq_eq_decide_eq]
def sayL (x : Instr) : List Nat → ByteArray
 | [] => ⟨#[]⟩
 | c :: l => (sSp ++ word x (c : Int)) ++ sayL x l
theorem fn65_ok {n : Int} (h : I64 n) : fn65 n = some (sSp ++ (sR ++ num n)) := by
 have := num_size h
 unfold fn65
 rw [w64 h, fn53_ok h, Option.bind_some, decide_eq_true (by have : (⟨#[32, 114]⟩ : ByteArray).size = 2 := rfl; omega), cond_true]
 congr 1
theorem fn66_ok {n : Int} (h : I64 n) : fn66 n = some (sSp ++ num n) := by
 have := num_size h
 unfold fn66
 rw [fn100_ok h, Option.bind_some, decide_eq_true (by have : (⟨#[32]⟩ : ByteArray).size = 1 := rfl; omega), cond_true]
 rfl
theorem says_l (p0 : RForm) (x : Instr) (hx : Rng x) (l : List Nat) : ∀ (q F : Nat) (s : ByteArray), letters p0.fwords q l → q + l.length ≤ 1000 → l.length < F → s.size + 30 * l.length ≤ 1000000 →
  fn68_l1 p0 x F s (q : Int) = some (s ++ sayL x l) := by
 obtain ⟨i1, i2, i3, i4, _⟩ := hx.i64
 induction l with
 | nil =>
  intro q F s hl hq hF hs
  have hl : ¬ q < p0.fwords.size := hl
  obtain ⟨F, rfl⟩ : ∃ n, F = n + 1 := ⟨F - 1, by simp at hF; omega⟩
  rw [fn68_l1_s, fn68_b1, decide_eq_false (by omega), cond_false, sayL]
  congr 1
  apply ByteArray.ext; simp
 | cons c l ih =>
  intro q F s hl hq hF hs
  obtain ⟨h1, h2, h3, h4, h5⟩ := hl
  simp only [List.length_cons] at hF hq hs
  obtain ⟨F, rfl⟩ : ∃ n, F = n + 1 := ⟨F - 1, by omega⟩
  have hin : inb (q : Int) p0.fwords.size = true := by simp [inb]; omega
  have hw : IntKind.i64.wrap ((q : Int) + 1) = ((q + 1 : Nat) : Int) := by rw [w64 (by omega)]; omega
  have hws := word_size hx (c : Int)
  have e1 : sSp.size = 1 := rfl
  have hsz : (sSp ++ word x (c : Int)).size ≤ 23 := by rw [ByteArray.size_append]; omega
  have hi := ih (q + 1) F (s ++ (sSp ++ word x (c : Int))) h5 (by omega) (by omega) (by rw [ByteArray.size_append]; omega)
  have hk : decide (s.size + (sSp ++ word x (c : Int)).size ≤ 9223372036854775807) = true := decide_eq_true (by omega)
  rw [ByteArray.append_assoc] at hi
  rw [fn68_l1_s, fn68_b1, decide_eq_true (by omega), cond_true, hin, cond_true, h4, hw, fn65_ok i1, fn65_ok i2, w64 i4, w64 i3, fn66_ok i4, fn66_ok i3, sayL, ← hi]
  unfold word at hk ⊢
  cases hc1 : (c : Int) == 68
  ·cases hc2 : (c : Int) == 83
   ·cases hc3 : (c : Int) == 73
    ·simp only [hc1, hc2, hc3, cond_false, cond_true, Option.bind_some] at hk ⊢; rw [hk]; rfl
    ·simp only [hc1, hc2, hc3, cond_false, cond_true, Option.bind_some] at hk ⊢; rw [hk]; rfl
   ·simp only [hc1, hc2, cond_false, cond_true, Option.bind_some] at hk ⊢; rw [hk]; rfl
  ·simp only [hc1, cond_false, cond_true, Option.bind_some] at hk ⊢; rw [hk]; rfl
end Go.Proofs.YtfjefnnbodgfbaaGreatDoor
namespace Go.Proofs.YtfjefnnbodgfbaaGreatDoor
open Go Go.HW
set_option linter.unusedVariables false
theorem join_cons (a : List UInt8) (ws : List (List UInt8)) : Lib.join (a :: ws) [32] = a ++ ws.flatMap fun w => 32 :: w := by
 unfold Lib.join
 induction ws generalizing a with
 | nil => simp [List.intercalate]
 | cons b ws ih =>
  have := ih b
  simp only [List.intercalate, List.intersperse_cons_cons, List.flatten_cons, List.flatMap_cons] at this ⊢
  rw [this]; simp
def okLetter (c : Nat) : Prop := c = 68 ∨ c = 83 ∨ c = 73 ∨ c = 79
theorem word_clr (x : Instr) {c d : Nat} (hc : okLetter c) (hd : okLetter d) (h : c ≠ d) : word (clr x (c : Int)) (d : Int) = word x (d : Int) := by
 unfold okLetter at hc hd
 rcases hc with rfl | rfl | rfl | rfl <;> rcases hd with rfl | rfl | rfl | rfl <;> first | exact absurd rfl h | rfl
theorem words_map (l : List Nat) : ∀ x : Instr, (∀ c ∈ l, okLetter c) → l.Nodup → words x l = l.map fun c : Nat => word x (c : Int) := by
 induction l with
 | nil => intro x _ _; rfl
 | cons c l ih =>
  intro x hk hn
  rw [List.nodup_cons] at hn
  rw [words, ih _ (fun d hd => hk d (List.mem_cons_of_mem _ hd)) hn.2, List.map_cons]
  congr 1
  refine List.map_congr_left fun d hd => word_clr x (hk c (by simp)) (hk d (List.mem_cons_of_mem _ hd)) fun e => hn.1 (e ▸ hd)
theorem sayL_data (x : Instr) (l : List Nat) : (sayL x l).data.toList = (l.map fun c : Nat => word x (c : Int)).flatMap fun w => 32 :: w.data.toList := by
 induction l with
 | nil => rfl
 | cons c l ih =>
  rw [sayL, ByteArray.data_append, ByteArray.data_append, Array.toList_append, Array.toList_append, ih, List.map_cons, List.flatMap_cons]
  rfl
theorem sayL_size {x : Instr} (hx : Rng x) (l : List Nat) : (sayL x l).size ≤ 23 * l.length := by
 induction l with
 | nil => exact Nat.le_refl _
 | cons c l ih =>
  have := word_size hx (c : Int)
  have e1 : sSp.size = 1 := rfl
  rw [sayL, ByteArray.size_append, ByteArray.size_append, List.length_cons]; omega
theorem join_ok {x : Instr} (hx : Rng x) (name : ByteArray) (l : List Nat) (hk : ∀ c ∈ l, okLetter c) (hn : l.Nodup) (h1 : name.size ≤ 1000) (h2 : l.length ≤ 50) :
  fn19 (name :: words x l) sSp = some (name ++ sayL x l) := by
 have hj : Lib.join ((name :: words x l).map (·.data.toList)) sSp.data.toList = (name ++ sayL x l).data.toList := by
  rw [words_map l x hk hn, List.map_cons, show sSp.data.toList = [32] from rfl, join_cons, ByteArray.data_append, Array.toList_append, sayL_data, List.flatMap_map]
 have hs := sayL_size hx l
 have hlen : (name ++ sayL x l).data.toList.length ≤ 140737488355328 := by
  have : (name ++ sayL x l).data.toList.length = (name ++ sayL x l).size := by simp
  rw [this, ByteArray.size_append]; omega
 have hw : (words x l).length = l.length := by rw [words_map l x hk hn, List.length_map]
 unfold fn19
 rw [hj, decide_eq_true hlen, decide_eq_true (by rw [List.length_cons, hw]; omega)]
 rfl
end Go.Proofs.YtfjefnnbodgfbaaGreatDoor
namespace Go.Proofs.YtfjefnnbodgfbaaGreatDoor
open Go Go.HW
set_option linter.unusedVariables false
def lts (w : ByteArray) : List Nat := w.data.toList.map (·.toNat)
def lettersB (w : ByteArray) : Nat → List Nat → Bool
 | q, [] => !decide (q < w.size)
 | q, c :: l => decide (q < w.size) && decide (Utf8.decode w q = (c, 1)) && !((c : Int) == 78) && decide (bget w (q : Int) = (c : Int)) && lettersB w (q + 1) l
theorem lettersB_ok (w : ByteArray) (l : List Nat) : ∀ q, lettersB w q l = true → letters w q l := by
 induction l with
 | nil => intro q h; simpa [lettersB, letters] using h
 | cons c l ih =>
  intro q h
  simp only [lettersB, Bool.and_eq_true, decide_eq_true_eq, Bool.not_eq_true'] at h
  exact ⟨h.1.1.1.1, h.1.1.1.2, h.1.1.2, h.1.2, ih _ h.2⟩
def okL (c : Nat) : Bool := c == 68 || c == 83 || c == 73 || c == 79
def nodB : List Nat → Bool
 | [] => true
 | c :: l => !l.contains c && nodB l
theorem nodB_ok (l : List Nat) : nodB l = true → l.Nodup := by
 induction l with
 | nil => intro _; exact List.nodup_nil
 | cons c l ih => intro h; simp only [nodB, Bool.and_eq_true] at h; exact List.nodup_cons.2 ⟨by simpa using h.1, ih h.2⟩
def goodB (name w : ByteArray) : Bool := lettersB w 0 (lts w) && (lts w).all okL && nodB (lts w) && decide ((lts w).length ≤ 4) && decide (name.size ≤ 10)
structure Good (name w : ByteArray) : Prop where
 let_ : letters w 0 (lts w)
 ok : ∀ c ∈ lts w, okLetter c
 nod : (lts w).Nodup
 len : (lts w).length ≤ 50
 nm : name.size ≤ 1000
 len4 : (lts w).length ≤ 4
 nm10 : name.size ≤ 10
theorem goodB_ok {name w : ByteArray} (h : goodB name w = true) : Good name w := by
 simp only [goodB, Bool.and_eq_true, decide_eq_true_eq, List.all_eq_true] at h
 refine ⟨lettersB_ok _ _ _ h.1.1.1.1, fun c hc => ?_, nodB_ok _ h.1.1.2, Nat.le_trans h.1.2 (by decide), Nat.le_trans h.2 (by decide), h.1.2, h.2⟩
 have := h.1.1.1.2 c hc
 simp only [okL, Bool.or_eq_true, beq_iff_eq] at this
 unfold okLetter; omega
def fitB (x : Instr) (w : ByteArray) (s : Instr) : Bool := decide (clrs x (lts w) = s)
theorem prog_loop {F0 : Nat} (hF0 : 60 ≤ F0) {x y : Instr} {last : Bool} {p : List Form} (hx : Rng x) (hg : ∀ f ∈ p, Good f.fname f.fwords ∧ (f.fslot.fOp == 24) = false) (hlen : p.length ≤ 1000) :
  ∀ (n i F : Nat), p.length - i = n → i ≤ p.length → n < F →
   fn115_l1 (stepR (fun (s : Bool × (List ByteArray)) (y1 : Form) => fn26_r1 F0 x y last s.1 s.2 y1)) goR p F ((false, []), 0) (i : Int) =
    match (p.drop i).find? (fun f => fitB x f.fwords f.fslot) with
    | some f => some (.inr ((false, f.fname :: words x (lts f.fwords)), 1))
    | none => some (.inl ((false, []), 0)) := by
 intro n
 induction n with
 | zero =>
  intro i F hn hi hF
  obtain ⟨F, rfl⟩ : ∃ n, F = n + 1 := ⟨F - 1, by omega⟩
  rw [fn115_l1_s, fn115_b1, decide_eq_false (by omega), cond_false, List.drop_eq_nil_of_le (by omega)]; rfl
 | succ n ih =>
  intro i F hn hi hF
  obtain ⟨F, rfl⟩ : ∃ n, F = n + 1 := ⟨F - 1, by omega⟩
  have hlt : i < p.length := by omega
  have hin : inb (i : Int) p.length = true := by simp [inb]; omega
  have hget : gt p (i : Int) = p[i] := by simp [gt, hlt]
  have hmem : p[i] ∈ p := List.getElem_mem hlt
  obtain ⟨g1, g2⟩ := hg _ hmem
  have ht := told_ok (p0 := p[i]) (F := F0) (y := y) hx g1.let_ (by have := g1.len; omega) g1.len g2
  have hw : IntKind.i64.wrap ((i : Int) + 1) = ((i + 1 : Nat) : Int) := by rw [w64 (by omega)]; omega
  rw [fn115_l1_s, fn115_b1, decide_eq_true (by omega), cond_true, hin, cond_true, hget, List.drop_eq_getElem_cons hlt, List.find?_cons]
  show Option.bind (stepR _ ((false, []), 0) p[i]) _ = _
  have hst : stepR (fun (s : Bool × (List ByteArray)) (y1 : Form) => fn26_r1 F0 x y last s.1 s.2 y1) ((false, []), 0) p[i] =
    some (bif fitB x p[i].fwords p[i].fslot then ((false, p[i].fname :: words x (lts p[i].fwords)), 1) else ((false, []), 0)) := by
   unfold stepR
   show (bif Nat.beq 0 0 then fn26_r1 F0 x y last false [] p[i] else none) = _
   rw [show Nat.beq 0 0 = true from rfl, cond_true, fn26_r1, ht, Option.bind_some]
   unfold fitB
   cases decide (clrs x (lts p[i].fwords) = p[i].fslot) <;> rfl
  rw [hst, Option.bind_some]
  cases hd : fitB x p[i].fwords p[i].fslot with
  | true => rfl
  | false =>
   rw [cond_false]
   show (bif !(goR ((false, ([] : List ByteArray)), 0)) then _ else fn115_l1 _ goR p F ((false, []), 0) (IntKind.i64.wrap ((i : Int) + 1))) = _
   rw [show (!(goR ((false, ([] : List ByteArray)), 0))) = false from rfl, cond_false, hw]
   exact ih (i + 1) F (by omega) (by omega) (by omega)
end Go.Proofs.YtfjefnnbodgfbaaGreatDoor
namespace Go.Proofs.YtfjefnnbodgfbaaGreatDoor
open Go Go.HW
set_option linter.unusedVariables false
theorem says_ok {p0 : RForm} {F : Nat} {x : Instr} (hx : Rng x) (hg : Good p0.fname p0.fwords) (hF : 60 ≤ F) : fn68 F p0 x = some (p0.fname ++ sayL x (lts p0.fwords)) := by
 have h := says_l p0 x hx (lts p0.fwords) 0 F p0.fname hg.let_ (by have := hg.len; omega) (by have := hg.len; omega) (by have := hg.len; have := hg.nm; omega)
 unfold fn68
 rw [show ((0 : Nat) : Int) = 0 from rfl] at h
 rw [h]; rfl
theorem doc_loop {F0 : Nat} (hF0 : 60 ≤ F0) {x : Instr} {p : List RForm} (hx : Rng x) (hg : ∀ f ∈ p, Good f.fname f.fwords) (hlen : p.length ≤ 1000) :
  ∀ (n i F : Nat), p.length - i = n → i ≤ p.length → n < F →
   fn31_l1 F0 p x F (i : Int) = match (p.drop i).find? (fun f => fitB x f.fwords f.fslot) with
    | some f => some (.inr (f.fname ++ sayL x (lts f.fwords)))
    | none => some (.inl ()) := by
 intro n
 induction n with
 | zero =>
  intro i F hn hi hF
  obtain ⟨F, rfl⟩ : ∃ n, F = n + 1 := ⟨F - 1, by omega⟩
  rw [fn31_l1_s, fn31_b1, decide_eq_false (by omega), cond_false, List.drop_eq_nil_of_le (by omega)]; rfl
 | succ n ih =>
  intro i F hn hi hF
  obtain ⟨F, rfl⟩ : ∃ n, F = n + 1 := ⟨F - 1, by omega⟩
  have hlt : i < p.length := by omega
  have hin : inb (i : Int) p.length = true := by simp [inb]; omega
  have hget : gt p (i : Int) = p[i] := by simp [gt, hlt]
  have hmem : p[i] ∈ p := List.getElem_mem hlt
  have g1 := hg _ hmem
  have hfit := fits_ok (p0 := p[i]) (F := F0) (x := x) g1.let_ g1.len (by have := g1.len; omega)
  have hsay := says_ok (p0 := p[i]) (F := F0) hx g1 hF0
  have hw : IntKind.i64.wrap ((i : Int) + 1) = ((i + 1 : Nat) : Int) := by rw [w64 (by omega)]; omega
  rw [fn31_l1_s, fn31_b1, decide_eq_true (by omega), cond_true, hin, cond_true, hget, List.drop_eq_getElem_cons hlt, List.find?_cons]
  show Option.bind (fn67 F0 p[i] x) _ = _
  rw [hfit, Option.bind_some]
  show (bif fitB x p[i].fwords p[i].fslot then Option.bind (fn68 F0 p[i] x) _ else fn31_l1 F0 p x F (IntKind.i64.wrap ((i : Int) + 1))) = _
  cases hd : fitB x p[i].fwords p[i].fslot with
  | true => rw [cond_true, hsay]; rfl
  | false => rw [cond_false, hw]; exact ih (i + 1) F (by omega) (by omega) (by omega)
theorem find_op (x : Instr) (p : List RForm) : p.find? (fun f => fitB x f.fwords f.fslot) = (p.filter fun f => f.fslot.fOp == x.fOp).find? (fun f => fitB x f.fwords f.fslot) := by
 induction p with
 | nil => rfl
 | cons f p ih =>
  rw [List.find?_cons, List.filter_cons]
  cases ho : f.fslot.fOp == x.fOp with
  | true => simp only [if_true]; rw [List.find?_cons, ih]
  | false =>
   have : fitB x f.fwords f.fslot = false := by
    unfold fitB
    refine decide_eq_false fun h => ?_
    have := clrs_op (lts f.fwords) x
    rw [h] at this
    simp [this] at ho
   rw [this]; simpa using ih
theorem raw_ok {x : Instr} (hx : Rng x) : fn31_k1 x = some ((((((⟨#[115, 108, 111, 116]⟩ : ByteArray) ++ (sSp ++ num x.fOp)) ++ (sSp ++ (sR ++ num x.fDst))) ++ (sSp ++ (sR ++ num x.fSrc))) ++ (sSp ++ num x.fOff)) ++ (sSp ++ num x.fImm)) := by
 obtain ⟨i1, i2, i3, i4, i5⟩ := hx.i64
 have s1 := num_size i1; have s2 := num_size i2; have s3 := num_size i3; have s4 := num_size i4; have s5 := num_size i5
 have e1 : sSp.size = 1 := rfl
 have e2 : sR.size = 1 := rfl
 have e3 : (⟨#[115, 108, 111, 116]⟩ : ByteArray).size = 4 := rfl
 unfold fn31_k1
 rw [w64 i5, w64 i3, w64 i4, fn66_ok i5, fn65_ok i1, fn65_ok i2, fn66_ok i3, fn66_ok i4]
 simp only [Option.bind_some]
 rw [decide_eq_true (by simp only [ByteArray.size_append]; omega), cond_true, decide_eq_true (by simp only [ByteArray.size_append]; omega), cond_true, decide_eq_true (by simp only [ByteArray.size_append]; omega), cond_true, decide_eq_true (by simp only [ByteArray.size_append]; omega), cond_true, decide_eq_true (by simp only [ByteArray.size_append]; omega), cond_true]
end Go.Proofs.YtfjefnnbodgfbaaGreatDoor
namespace Go.Proofs.YtfjefnnbodgfbaaGreatDoor
open Go Go.HW
set_option linter.unusedVariables false
set_option maxRecDepth 100000
def tabP : List (ByteArray × List Form) × List (Int × List Form) := (fn25 300000).getD ([], [])
def tabD : List RForm := (fn29 300000).getD []
theorem tabP_ok : fn25 300000 = some tabP := by
 have h : (fn25 300000).isSome = true := by decide +kernel
 unfold tabP
 cases hc : fn25 300000 with
 | none => rw [hc] at h; cases h
 | some v => rfl
def opF (op : Int) : List Form := mget tabP.2 op ([] : List Form)
def toR (f : Form) : RForm := ⟨f.fname, f.fwords, f.fslot⟩
def chk (n : Nat) : Bool := Nat.beq n 24 || (decide ((opF (n : Int)).map toR = tabD.filter fun f => f.fslot.fOp == (n : Int)) && (opF (n : Int)).all (fun f => goodB f.fname f.fwords && !(f.fslot.fOp == 24)) && decide ((opF (n : Int)).length ≤ 900))
theorem chk_ok : (List.range 256).all chk = true := by decide +kernel
theorem good_ok : (tabD.all (fun f => goodB f.fname f.fwords) && decide (tabD.length ≤ 900)) = true := by decide +kernel
end Go.Proofs.YtfjefnnbodgfbaaGreatDoor
namespace Go.Proofs.YtfjefnnbodgfbaaGreatDoor
open Go Go.HW
set_option linter.unusedVariables false
theorem find_map (x : Instr) (l : List Form) : (l.map toR).find? (fun f => fitB x f.fwords f.fslot) = (l.find? (fun f => fitB x f.fwords f.fslot)).map toR := by
 rw [List.find?_map]; rfl
theorem opF_ok {x : Instr} (hx : Rng x) (h24 : x.fOp ≠ 24) : (opF x.fOp).map toR = (tabD.filter fun f => f.fslot.fOp == x.fOp) ∧ (∀ f ∈ opF x.fOp, Good f.fname f.fwords ∧ (f.fslot.fOp == 24) = false) ∧ (opF x.fOp).length ≤ 900 := by
 obtain ⟨n, hn⟩ : ∃ n : Nat, x.fOp = (n : Int) := ⟨x.fOp.toNat, by have := hx.op; omega⟩
 have hlt : n < 256 := by have := hx.op; omega
 have h := List.all_eq_true.1 chk_ok n (List.mem_range.2 hlt)
 have hb : Nat.beq n 24 = false := by
  cases hb : Nat.beq n 24 with
  | false => rfl
  | true => have := Nat.eq_of_beq_eq_true hb; omega
 simp only [chk, hb, Bool.false_or, Bool.and_eq_true, decide_eq_true_eq, List.all_eq_true, Bool.not_eq_true'] at h
 rw [hn]
 exact ⟨h.1.1, fun f hf => ⟨goodB_ok (h.1.2 f hf).1, (h.1.2 f hf).2⟩, h.2⟩
theorem tabD_good : (∀ f ∈ tabD, Good f.fname f.fwords) ∧ tabD.length ≤ 900 := by
 have h := good_ok
 simp only [Bool.and_eq_true, decide_eq_true_eq, List.all_eq_true] at h
 exact ⟨fun f hf => goodB_ok (h.1 f hf), h.2⟩
def rawW : List Nat := [68, 83, 79, 73]
theorem rawW_ok : letters (⟨#[68, 83, 79, 73]⟩ : ByteArray) 0 rawW := lettersB_ok _ _ _ (by decide +kernel)
theorem slot_ok {x y : Instr} {last : Bool} (hx : Rng x) (h24 : x.fOp ≠ 24) :
  ∃ ws s, fn26 300000 tabP.1 tabP.2 x y last = some (ws, false) ∧ fn31 300000 tabD x = some s ∧ fn19 ws sSp = some s := by
 obtain ⟨t1, t2, t3⟩ := opF_ok hx h24
 obtain ⟨d1, d2⟩ := tabD_good
 have hp := prog_loop (F0 := 300000) (by omega) (x := x) (y := y) (last := last) (p := opF x.fOp) hx t2 (by omega) (opF x.fOp).length 0 300000 (by omega) (by omega) (by omega)
 rw [show ((0 : Nat) : Int) = 0 from rfl, List.drop_zero] at hp
 have hd := doc_loop (F0 := 300000) (by omega) (x := x) (p := tabD) hx d1 (by omega) tabD.length 0 300000 (by omega) (by omega) (by omega)
 rw [show ((0 : Nat) : Int) = 0 from rfl, List.drop_zero, find_op, ← t1, find_map] at hd
 cases hf : (opF x.fOp).find? (fun f => fitB x f.fwords f.fslot) with
 | some f =>
  rw [hf] at hp hd
  obtain ⟨g, _⟩ := t2 f (List.mem_of_find?_eq_some hf)
  refine ⟨f.fname :: words x (lts f.fwords), f.fname ++ sayL x (lts f.fwords), ?_, ?_, join_ok hx f.fname (lts f.fwords) g.ok g.nod g.nm g.len⟩
  ·unfold fn26 fn115
   show Option.bind (Option.bind (fn115_l1 _ goR (opF x.fOp) 300000 ((false, []), 0) 0) _) _ = _
   rw [hp]; rfl
  ·unfold fn31
   rw [hd]; rfl
 | none =>
  rw [hf] at hp hd
  obtain ⟨i1, i2, i3, i4, i5⟩ := hx.i64
  have hx0 : Rng ⟨0, x.fDst, x.fSrc, x.fOff, x.fImm⟩ := ⟨by simp, hx.dst, hx.src, hx.off, hx.imm⟩
  have s5 := num_size i5
  have e5 : (⟨#[115, 108, 111, 116, 32]⟩ : ByteArray).size = 5 := rfl
  have ht := told_ok (p0 := ⟨(⟨#[115, 108, 111, 116, 32]⟩ : ByteArray) ++ num x.fOp, (⟨#[68, 83, 79, 73]⟩ : ByteArray), ⟨0, 0, 0, 0, 0⟩⟩) (F := 300000) (x := ⟨0, x.fDst, x.fSrc, x.fOff, x.fImm⟩) (y := ⟨0, 0, 0, 0, 0⟩) (l := rawW) hx0 rawW_ok (by decide) (by decide) rfl
  have hj := join_ok hx0 ((⟨#[115, 108, 111, 116, 32]⟩ : ByteArray) ++ num x.fOp) rawW (by intro c hc; simp [rawW] at hc; unfold okLetter; omega) (by decide) (by rw [ByteArray.size_append]; omega) (by decide)
  refine ⟨_, _, ?_, ?_, hj⟩
  ·unfold fn26 fn115
   show Option.bind (Option.bind (fn115_l1 _ goR (opF x.fOp) 300000 ((false, []), 0) 0) _) _ = _
   rw [hp]
   show fn26_k1_0 300000 x false [] = _
   unfold fn26_k1_0
   rw [w64 i5, fn53_ok i5, Option.bind_some, decide_eq_true (by omega), cond_true, ht]; rfl
  ·unfold fn31
   rw [hd]
   show fn31_k1 x = _
   rw [raw_ok hx]
   have e : sayL ⟨0, x.fDst, x.fSrc, x.fOff, x.fImm⟩ rawW = (sSp ++ (sR ++ num x.fDst)) ++ ((sSp ++ (sR ++ num x.fSrc)) ++ ((sSp ++ num x.fOff) ++ ((sSp ++ num x.fImm) ++ ⟨#[]⟩))) := by
    simp only [sayL, rawW, word]; rfl
   have e2 : (⟨#[115, 108, 111, 116, 32]⟩ : ByteArray) = (⟨#[115, 108, 111, 116]⟩ : ByteArray) ++ sSp := by decide +kernel
   rw [e, e2]
   generalize num x.fDst = a1; generalize num x.fSrc = a2; generalize num x.fOff = a3; generalize num x.fImm = a4; generalize num x.fOp = a5
   have e0 : ∀ a : ByteArray, a ++ (⟨#[]⟩ : ByteArray) = a := fun a => by apply ByteArray.ext; simp
   rw [e0]
   simp only [ByteArray.append_assoc]
end Go.Proofs.YtfjefnnbodgfbaaGreatDoor
namespace Go.Proofs.YtfjefnnbodgfbaaGreatDoor
open Go Go.HW
set_option linter.unusedVariables false
set_option maxRecDepth 100000
theorem i16w {v : Int} (h : -32768 ≤ v ∧ v ≤ 32767) : IntKind.i16.wrap v = v := by
 simp [IntKind.wrap, IntKind.bits, IntKind.signed]
 split <;> omega
def partW (c : Int) (w : ByteArray) : Option Int := bif c == 68 then regP (bL w) else bif c == 83 then regP (bL w) else bif c == 73 then numR (-2147483648) 2147483647 (bL w) else numR (-32768) 32767 (bL w)
def setC (x : Instr) (c v : Int) : Instr := bif c == 68 then { x with fDst := v } else bif c == 83 then { x with fSrc := v } else bif c == 73 then { x with fImm := v } else { x with fOff := v }
def fillS : Instr → List Nat → List ByteArray → Option Instr
 | x, [], [] => some x
 | x, c :: l, w :: ws => match partW (c : Int) w with | some v => fillS (setC x (c : Int) v) l ws | none => none
 | _, _, _ => none
theorem fillS_len : ∀ {x : Instr} {l : List Nat} {ws : List ByteArray} {y : Instr}, fillS x l ws = some y → l.length = ws.length
 | x, [], [], y, h => rfl
 | x, c :: l, w :: ws, y, h => by
  rw [fillS] at h
  cases hp : partW (c : Int) w with
  | none => rw [hp] at h; cases h
  | some v => rw [hp] at h; rw [List.length_cons, List.length_cons, fillS_len h]
 | x, [], w :: ws, y, h => by rw [fillS] at h <;> first | cases h | (intros; simp at *)
 | x, c :: l, [], y, h => by rw [fillS] at h <;> first | cases h | (intros; simp at *)
theorem setC_op (x : Instr) (c v : Int) : (setC x c v).fOp = x.fOp := by
 unfold setC
 cases c == 68 <;> cases c == 83 <;> cases c == 73 <;> rfl
theorem fillS_op : ∀ {x : Instr} {l : List Nat} {ws : List ByteArray} {y : Instr}, fillS x l ws = some y → y.fOp = x.fOp
 | x, [], [], y, h => by rw [fillS] at h; cases h; rfl
 | x, c :: l, w :: ws, y, h => by
  rw [fillS] at h
  cases hp : partW (c : Int) w with
  | none => rw [hp] at h; cases h
  | some v => rw [hp] at h; rw [fillS_op h, setC_op]
 | x, [], w :: ws, y, h => by have := fillS_len h; simp at this
 | x, c :: l, [], y, h => by have := fillS_len h; simp at this
theorem numR_b {lo hi z : Int} {l : List UInt8} (h : numR lo hi l = some z) : lo ≤ z ∧ z ≤ hi := by
 unfold numR at h
 split at h
 ·rename_i v hv
  cases hr : inR lo hi v with
  | false => rw [hr] at h; cases h
  | true =>
   rw [hr, cond_true] at h; cases h
   simpa [inR] using hr
 ·cases h
theorem regP_b {z : Int} {l : List UInt8} (h : regP l = some z) : 0 ≤ z ∧ z ≤ 15 := by
 cases l with
 | nil => cases h
 | cons b l =>
  rw [regP] at h
  cases hb : b == 114 with
  | false => rw [hb] at h; cases h
  | true => rw [hb, cond_true] at h; exact numR_b h
theorem fn71_32 {s : ByteArray} (hs : s.size ≤ 281474976710656) : fn71 s 32 = some (pan (numR (-2147483648) 2147483647 (bL s))) := fn71_ok (B := 32) (.inr (.inl rfl)) hs
theorem fn71_16 {s : ByteArray} (hs : s.size ≤ 281474976710656) : fn71 s 16 = some (pan (numR (-32768) 32767 (bL s))) := fn71_ok (B := 16) (.inl rfl) hs
theorem fn71_64 {s : ByteArray} (hs : s.size ≤ 281474976710656) : fn71 s 64 = some (pan (numR (-9223372036854775808) 9223372036854775807 (bL s))) := fn71_ok (B := 64) (.inr (.inr rfl)) hs
theorem set_ok {x y : Instr} {ws : List ByteArray} {c : Int} {w : ByteArray} (hs : w.size ≤ 281474976710656) (hc : (c == 78) = false) : fn103 ⟨x, y, ws⟩ c w = some (match partW c w with
  | some v => .inr ((setC x c v).fOp, (setC x c v).fDst, (setC x c v).fSrc, (setC x c v).fOff, (setC x c v).fImm, y.fOp, y.fDst, y.fSrc, y.fOff, y.fImm)
  | none => .inl (x.fOp, x.fDst, x.fSrc, x.fOff, x.fImm, y.fOp, y.fDst, y.fSrc, y.fOff, y.fImm, 25)) := by
 unfold fn103 partW setC
 rw [hc, fn118_ok hs, fn71_32 hs, fn71_16 hs]
 cases c == 68
 ·cases c == 83
  ·cases c == 73
   ·simp only [cond_false]
    cases hn : numR (-32768) 32767 (bL w) with
    | none => rfl
    | some v =>
     have := numR_b hn
     show some (Sum.inr (x.fOp, x.fDst, x.fSrc, IntKind.i16.wrap v, x.fImm, y.fOp, y.fDst, y.fSrc, y.fOff, y.fImm)) = _
     rw [show IntKind.i16.wrap v = v from i16w (by omega)]
   ·simp only [cond_false, cond_true]
    cases hn : numR (-2147483648) 2147483647 (bL w) with
    | none => rfl
    | some v =>
     have := numR_b hn
     show some (Sum.inr (x.fOp, x.fDst, x.fSrc, x.fOff, IntKind.i32.wrap v, y.fOp, y.fDst, y.fSrc, y.fOff, y.fImm)) = _
     rw [show IntKind.i32.wrap v = v by rw [IntKind.wrap_i32]; omega]
  ·simp only [cond_false, cond_true]
   cases regP (bL w) <;> rfl
 ·simp only [cond_true]
  cases regP (bL w) <;> rfl
theorem fill_l (p0 : Form) (p1 : List ByteArray) (hsz : ∀ w ∈ p1, w.size ≤ 281474976710656) (l : List Nat) : ∀ (q F : Nat) (x : Instr), letters p0.fwords q l → q + l.length = p1.length → q + l.length ≤ 1000 → l.length < F →
  fn72_l1 p0 p1 F x.fOp x.fDst x.fSrc x.fOff x.fImm 0 0 0 0 0 q = some (match fillS x l (p1.drop q) with
   | some y => .inl (y.fOp, y.fDst, y.fSrc, y.fOff, y.fImm, 0, 0, 0, 0, 0)
   | none => .inr ([], false)) := by
 induction l with
 | nil =>
  intro q F x hl hq hq2 hF
  have hl : ¬ q < p0.fwords.size := hl
  obtain ⟨F, rfl⟩ : ∃ n, F = n + 1 := ⟨F - 1, by simp at hF; omega⟩
  simp only [List.length_nil] at hq
  rw [fn72_l1_s, fn72_b1, decide_eq_false hl, cond_false, List.drop_eq_nil_of_le (by omega)]; rfl
 | cons c l ih =>
  intro q F x hl hq hq2 hF
  obtain ⟨h1, h2, h3, h4, h5⟩ := hl
  simp only [List.length_cons] at hF hq hq2
  obtain ⟨F, rfl⟩ : ∃ n, F = n + 1 := ⟨F - 1, by omega⟩
  have hlt : q < p1.length := by omega
  have hin : inb (q : Int) p1.length = true := inb_iff.2 ⟨by omega, by omega⟩
  have hget : gt p1 (q : Int) = p1[q] := by simp [gt, hlt]
  have hs := set_ok (x := x) (y := ⟨0, 0, 0, 0, 0⟩) (ws := []) (c := (c : Int)) (hsz _ (List.getElem_mem hlt)) h3
  rw [fn72_l1_s, fn72_b1, decide_eq_true h1, cond_true, hin, cond_true, h2, hget, List.drop_eq_getElem_cons hlt, fillS]
  show frk2 (fn103 ⟨x, ⟨0, 0, 0, 0, 0⟩, []⟩ (c : Int) p1[q]) _ _ = _
  rw [hs]
  cases hp : partW (c : Int) p1[q] with
  | none => rfl
  | some v => exact ih (q + 1) F (setC x (c : Int) v) h5 (by omega) (by omega) (by omega)
theorem lts_len (w : ByteArray) : (lts w).length = w.size := by simp [lts]
theorem fill_nil (x : Instr) (l : List Nat) (ws : List ByteArray) (h : l.length ≠ ws.length) : fillS x l ws = none := by
 cases hf : fillS x l ws with
 | none => rfl
 | some y => exact absurd (fillS_len hf) h
theorem fn72_ok {f : Form} {ws : List ByteArray} {F : Nat} (hsz : ∀ w ∈ ws, w.size ≤ 281474976710656) (hl : letters f.fwords 0 (lts f.fwords)) (hn : (lts f.fwords).length ≤ 50) (hF : 60 ≤ F)
  (ho : ((f.fslot.fOp == 24) && !decide (f.fname = (⟨#[115, 108, 111, 116]⟩ : ByteArray))) = false) : fn72 F f ws = some (match fillS f.fslot (lts f.fwords) ws with | some y => ([y], true) | none => ([], false)) := by
 unfold fn72
 by_cases hlen : ws.length = f.fwords.size
 ·rw [show ((ws.length : Int) == (f.fwords.size : Int)) = true by rw [hlen]; exact beq_self_eq_true _, fn70_t]
  have hll := lts_len f.fwords
  have h := fill_l f ws hsz (lts f.fwords) 0 F f.fslot hl (by omega) (by omega) (by omega)
  rw [List.drop_zero] at h
  show Option.bind (fn72_l1 f ws F f.fslot.fOp f.fslot.fDst f.fslot.fSrc f.fslot.fOff f.fslot.fImm 0 0 0 0 0 0) _ = _
  rw [h, Option.bind_some]
  cases hf : fillS f.fslot (lts f.fwords) ws with
  | none => rfl
  | some y =>
   show fn72_k1 f y.fOp y.fDst y.fSrc y.fOff y.fImm 0 0 0 0 0 = _
   unfold fn72_k1
   rw [neL, fillS_op hf, show (fn56 0).fOp = 24 from rfl, ho, cond_false, ← fillS_op hf]
 ·rw [show ((ws.length : Int) == (f.fwords.size : Int)) = false by rw [beq_eq_false_iff_ne]; omega, fn70_f, fill_nil _ _ _ (by rw [lts_len]; omega)]
  rfl
end Go.Proofs.YtfjefnnbodgfbaaGreatDoor
namespace Go.Proofs.YtfjefnnbodgfbaaGreatDoor
open Go Go.HW
set_option linter.unusedVariables false
set_option maxRecDepth 100000
def fLd : Form := ⟨⟨#[108, 100, 100, 119]⟩, ⟨#[68, 78]⟩, ⟨24, 0, 0, 0, 0⟩⟩
def fMap : Form := ⟨⟨#[108, 100, 109, 97, 112]⟩, ⟨#[68, 73]⟩, ⟨24, 0, 1, 0, 0⟩⟩
theorem op24 : opF 24 = [fLd, fMap] := by decide +kernel
def wideP (x y : Instr) : Int := ior .i64 (ishl .i64 (IntKind.i64.wrap y.fImm) 32) (IntKind.i64.wrap (IntKind.u32.wrap x.fImm))
def wideD (x y : Instr) : Int := IntKind.i64.wrap (ior .u64 (IntKind.u64.wrap (IntKind.u32.wrap x.fImm)) (ishl .u64 (IntKind.u64.wrap (IntKind.u32.wrap y.fImm)) 32))
theorem ofI {a b : Int} (h : a % 18446744073709551616 = b % 18446744073709551616) : BitVec.ofInt 64 a = BitVec.ofInt 64 b := by
 apply BitVec.eq_of_toNat_eq
 simp only [BitVec.toNat_ofInt]
 rw [show ((2 ^ 64 : Nat) : Int) = 18446744073709551616 from rfl, h]
theorem wide_eq {x y : Instr} (hx : Rng x) (hy : Rng y) : wideP x y = wideD x y := by
 have h1 := hx.imm
 have h2 := hy.imm
 unfold wideP wideD ior ishl
 have e1 : min (32 : Int).toNat IntKind.i64.bits = 32 := rfl
 have e2 : min (32 : Int).toNat IntKind.u64.bits = 32 := rfl
 have b1 : IntKind.i64.bits = 64 := rfl
 have b2 : IntKind.u64.bits = 64 := rfl
 rw [e1, e2]
 show IntKind.i64.wrap (((BitVec.ofInt 64 _ ||| BitVec.ofInt 64 _ : BitVec 64).toNat : Int)) = IntKind.i64.wrap (IntKind.u64.wrap (((BitVec.ofInt 64 _ ||| BitVec.ofInt 64 _ : BitVec 64).toNat : Int)))
 have k1 : BitVec.ofInt 64 (IntKind.i64.wrap (IntKind.i64.wrap y.fImm * 2 ^ 32)) = BitVec.ofInt 64 (IntKind.u64.wrap (IntKind.u64.wrap (IntKind.u32.wrap y.fImm) * 2 ^ 32)) := ofI (by
  rw [IntKind.wrap_i64, IntKind.wrap_i64, IntKind.wrap_u64, IntKind.wrap_u64, IntKind.wrap_u32]; omega)
 have k2 : BitVec.ofInt 64 (IntKind.i64.wrap (IntKind.u32.wrap x.fImm)) = BitVec.ofInt 64 (IntKind.u64.wrap (IntKind.u32.wrap x.fImm)) := ofI (by
  rw [IntKind.wrap_i64, IntKind.wrap_u64, IntKind.wrap_u32]; omega)
 rw [k1, k2, BitVec.or_comm]
 congr 1
 generalize (BitVec.ofInt 64 (IntKind.u64.wrap (IntKind.u32.wrap x.fImm)) ||| BitVec.ofInt 64 (IntKind.u64.wrap (IntKind.u64.wrap (IntKind.u32.wrap y.fImm) * 2 ^ 32))) = z
 have hlt := z.isLt
 rw [IntKind.wrap_u64]
 omega
end Go.Proofs.YtfjefnnbodgfbaaGreatDoor
namespace Go.Proofs.YtfjefnnbodgfbaaGreatDoor
open Go Go.HW
set_option linter.unusedVariables false
set_option maxRecDepth 100000
def nSlot : ByteArray := ⟨#[115, 108, 111, 116]⟩
def nLd : ByteArray := ⟨#[108, 100, 100, 119]⟩
def nMap : ByteArray := ⟨#[108, 100, 109, 97, 112]⟩
def nameF (w : ByteArray) : List Form := mget tabP.1 w ([] : List Form)
def keysP : List ByteArray := tabP.1.map (·.1)
def chkN (w : ByteArray) : Bool := decide (w = nLd) || decide (w = nMap) || (decide ((nameF w).map toR = tabD.filter fun f => decide (f.fname = w)) && (nameF w).all (fun f => goodB f.fname f.fwords && !(f.fslot.fOp == 24)) && decide ((nameF w).length ≤ 900))
theorem chkN_ok : keysP.all chkN = true := by decide +kernel
theorem keysD : tabD.all (fun f => keysP.any fun w => decide (w = f.fname)) = true := by decide +kernel
theorem nameLd : nameF nLd = [fLd] := by decide +kernel
theorem nameMap : nameF nMap = [fMap] := by decide +kernel
theorem mfind_miss {κ α : Type} [DecidableEq κ] {k : κ} : ∀ {xs : List (κ × α)}, (xs.map (·.1)).any (fun w => decide (w = k)) = false → mfind xs k = none
 | [], _ => rfl
 | p :: xs, h => by
  simp only [List.map_cons, List.any_cons, Bool.or_eq_false_iff] at h
  unfold mfind
  rw [h.1]
  exact mfind_miss h.2
theorem name_miss {w : ByteArray} (h : keysP.any (fun v => decide (v = w)) = false) : nameF w = [] := by
 unfold nameF mget
 rw [mfind_miss h]; rfl
theorem name_missD {w : ByteArray} (h : keysP.any (fun v => decide (v = w)) = false) : tabD.filter (fun f => decide (f.fname = w)) = [] := by
 rw [List.filter_eq_nil_iff]
 intro f hf hc
 have := List.all_eq_true.1 keysD f hf
 rw [of_decide_eq_true hc] at this
 rw [this] at h; cases h
theorem name_ok {w : ByteArray} (h1 : w ≠ nLd) (h2 : w ≠ nMap) : (nameF w).map toR = tabD.filter (fun f => decide (f.fname = w)) ∧ (∀ f ∈ nameF w, Good f.fname f.fwords ∧ (f.fslot.fOp == 24) = false) ∧ (nameF w).length ≤ 900 := by
 cases hk : keysP.any (fun v => decide (v = w)) with
 | false =>
  rw [name_miss hk, name_missD hk]
  exact ⟨rfl, fun f hf => absurd hf (by simp), Nat.zero_le _⟩
 | true =>
  obtain ⟨v, hv, he⟩ := List.any_eq_true.1 hk
  have := of_decide_eq_true he
  subst this
  have hc := List.all_eq_true.1 chkN_ok _ hv
  unfold chkN at hc
  rw [decide_eq_false h1, decide_eq_false h2] at hc
  simp only [Bool.false_or, Bool.and_eq_true, decide_eq_true_eq, List.all_eq_true, Bool.not_eq_true'] at hc
  exact ⟨hc.1.1, fun f hf => ⟨goodB_ok (hc.1.2 f hf).1, (hc.1.2 f hf).2⟩, hc.2⟩
def fl (ws : List ByteArray) (f : RForm) : Option Instr := fillS f.fslot (lts f.fwords) ws
def flN (n : ByteArray) (ws : List ByteArray) (f : RForm) : Option Instr := bif decide (f.fname = n) then fl ws f else none
theorem find_n (n : ByteArray) (ws : List ByteArray) : ∀ p : List RForm, (p.filter fun f => decide (f.fname = n)).findSome? (fl ws) = p.findSome? (flN n ws)
 | [] => rfl
 | f :: p => by
  rw [List.filter_cons, List.findSome?_cons]
  unfold flN
  by_cases h : f.fname = n
  ·rw [decide_eq_true h, if_pos rfl, List.findSome?_cons, cond_true, find_n n ws p]; rfl
  ·rw [decide_eq_false h, if_neg (by simp), find_n n ws p, cond_false]; rfl
theorem find_m (ws : List ByteArray) : ∀ p : List Form, (p.map toR).findSome? (fl ws) = p.findSome? fun f => fillS f.fslot (lts f.fwords) ws
 | [] => rfl
 | f :: p => by rw [List.map_cons, List.findSome?_cons, List.findSome?_cons, find_m ws p]; rfl
theorem name_find {w : ByteArray} (h1 : w ≠ nLd) (h2 : w ≠ nMap) (ws : List ByteArray) : ((nameF w).findSome? fun f => fillS f.fslot (lts f.fwords) ws) = tabD.findSome? (flN w ws) := by
 rw [← find_m, (name_ok h1 h2).1, find_n]
theorem cutW1 {n : ByteArray} {ws : List ByteArray} : sliceOk (1 : Int) (((n :: ws).length : Nat) : Int) (n :: ws).length = true ∧ cutX (n :: ws) ((1 : Int).toNat) ((1 : Int).toNat + ((((n :: ws).length : Nat) : Int).toNat - (1 : Int).toNat)) = ws := by
 refine ⟨sliceOk_iff.2 ⟨by omega, by simp only [List.length_cons]; omega, by omega⟩, ?_⟩
 have e : (1 : Int).toNat + ((((n :: ws).length : Nat) : Int).toNat - (1 : Int).toNat) = (n :: ws).length := by simp only [List.length_cons]; omega
 rw [e]
 unfold cutX
 rw [List.take_length]; rfl
theorem cutW2 {n o : ByteArray} {ws : List ByteArray} : sliceOk (2 : Int) (((n :: o :: ws).length : Nat) : Int) (n :: o :: ws).length = true ∧ cutX (n :: o :: ws) ((2 : Int).toNat) ((2 : Int).toNat + ((((n :: o :: ws).length : Nat) : Int).toNat - (2 : Int).toNat)) = ws := by
 refine ⟨sliceOk_iff.2 ⟨by omega, by simp only [List.length_cons]; omega, by omega⟩, ?_⟩
 have e : (2 : Int).toNat + ((((n :: o :: ws).length : Nat) : Int).toNat - (2 : Int).toNat) = (n :: o :: ws).length := by simp only [List.length_cons]; omega
 rw [e]
 unfold cutX
 rw [List.take_length]; rfl
theorem prog_fill {F0 : Nat} (hF0 : 60 ≤ F0) {n : ByteArray} {ws : List ByteArray} (hsz : ∀ w ∈ ws, w.size ≤ 281474976710656) {p : List Form} (hg : ∀ f ∈ p, Good f.fname f.fwords ∧ (f.fslot.fOp == 24) = false) (hlen : p.length ≤ 1000) :
  ∀ (k i F : Nat), p.length - i = k → i ≤ p.length → k < F →
   fn115_l1 (stepR (fun (s : List Instr) (y1 : Form) => fn34_r1 F0 (n :: ws) s y1)) goR p F (([] : List Instr), 0) (i : Int) =
    match (p.drop i).findSome? (fun f => fillS f.fslot (lts f.fwords) ws) with
    | some y => some (.inr ([y], 1))
    | none => some (.inl ([], 0)) := by
 intro k
 induction k with
 | zero =>
  intro i F hn hi hF
  obtain ⟨F, rfl⟩ : ∃ n, F = n + 1 := ⟨F - 1, by omega⟩
  rw [fn115_l1_s, fn115_b1, decide_eq_false (by omega), cond_false, List.drop_eq_nil_of_le (by omega)]; rfl
 | succ k ih =>
  intro i F hn hi hF
  obtain ⟨F, rfl⟩ : ∃ n, F = n + 1 := ⟨F - 1, by omega⟩
  have hlt : i < p.length := by omega
  have hin : inb (i : Int) p.length = true := by simp [inb]; omega
  have hget : gt p (i : Int) = p[i] := by simp [gt, hlt]
  have hmem : p[i] ∈ p := List.getElem_mem hlt
  obtain ⟨g1, g2⟩ := hg _ hmem
  have ht := fn72_ok (f := p[i]) (ws := ws) (F := F0) hsz g1.let_ g1.len hF0 (by rw [g2]; rfl)
  have hw : IntKind.i64.wrap ((i : Int) + 1) = ((i + 1 : Nat) : Int) := by rw [w64 (by omega)]; omega
  rw [fn115_l1_s, fn115_b1, decide_eq_true (by omega), cond_true, hin, cond_true, hget, List.drop_eq_getElem_cons hlt, List.findSome?_cons]
  show Option.bind (stepR _ (([] : List Instr), 0) p[i]) _ = _
  have hst : stepR (fun (s : List Instr) (y1 : Form) => fn34_r1 F0 (n :: ws) s y1) (([] : List Instr), 0) p[i] =
    some (match fillS p[i].fslot (lts p[i].fwords) ws with | some y => ([y], 1) | none => ([], 0)) := by
   unfold stepR
   show (bif Nat.beq 0 0 then fn34_r1 F0 (n :: ws) [] p[i] else none) = _
   rw [show Nat.beq 0 0 = true from rfl, cond_true, fn34_r1, cutW1.1, cond_true, cutW1.2, ht]
   cases fillS p[i].fslot (lts p[i].fwords) ws <;> rfl
  rw [hst, Option.bind_some]
  cases hd : fillS p[i].fslot (lts p[i].fwords) ws with
  | some y => rfl
  | none =>
   show (bif !(goR (([] : List Instr), 0)) then _ else fn115_l1 _ goR p F (([] : List Instr), 0) (IntKind.i64.wrap ((i : Int) + 1))) = _
   rw [show (!(goR (([] : List Instr), 0))) = false from rfl, cond_false, hw]
   exact ih (i + 1) F (by omega) (by omega) (by omega)
end Go.Proofs.YtfjefnnbodgfbaaGreatDoor
namespace Go.Proofs.YtfjefnnbodgfbaaGreatDoor
open Go Go.HW
set_option linter.unusedVariables false
set_option maxRecDepth 100000
def ldS : List ByteArray → Option (List Instr)
 | [d, i] => match regP (bL d) with
  | some d => match numR (-9223372036854775808) 9223372036854775807 (bL i) with
   | some v => some [⟨24, d, 0, 0, IntKind.i32.wrap v⟩, ⟨0, 0, 0, 0, IntKind.i32.wrap (ishr .i64 v 32)⟩]
   | none => none
  | none => none
 | _ => none
def mapS (ws : List ByteArray) : Option (List Instr) := match fillS ⟨24, 0, 1, 0, 0⟩ [68, 73] ws with | some y => some [y, ⟨0, 0, 0, 0, 0⟩] | none => none
def slotS : List ByteArray → Option (List Instr)
 | o :: r => match numR 0 255 (bL o) with
  | some v => match fillS ⟨v, 0, 0, 0, 0⟩ [68, 83, 79, 73] r with | some y => some [y] | none => none
  | none => none
 | [] => none
def oneS : Option Instr → Option (List Instr)
 | some y => some [y]
 | none => none
def othS (n : ByteArray) (r : List ByteArray) : Option (List Instr) := oneS (tabD.findSome? (flN n r))
theorem othS_d (n : ByteArray) (r : List ByteArray) : othS n r = oneS (tabD.findSome? (flN n r)) := rfl
def lineS : List ByteArray → Option (List Instr)
 | n :: r => bif decide (n = nSlot) then slotS r else bif decide (n = nLd) then ldS r else bif decide (n = nMap) then mapS r else othS n r
 | [] => none
def pairS : Option (List Instr) → List Instr × Bool
 | some l => (l, true)
 | none => ([], false)
theorem lLd : fLd.fwords.size = 2 := rfl
theorem lMap : fMap.fwords.size = 2 := rfl
theorem map_letters : letters fMap.fwords 0 [68, 73] := lettersB_ok _ _ _ (by decide +kernel)
theorem fn72_ld {ws : List ByteArray} {F : Nat} (hsz : ∀ w ∈ ws, w.size ≤ 281474976710656) (hF : 60 ≤ F) : fn72 F fLd ws = some (pairS (ldS ws)) := by
 unfold fn72
 rw [lLd]
 rcases ws with _ | ⟨d, _ | ⟨i, _ | ⟨x, ws⟩⟩⟩
 ·rfl
 ·rfl
 ·have hd := hsz d (by simp)
  have hi := hsz i (by simp)
  obtain ⟨F, rfl⟩ : ∃ n, F = n + 3 := ⟨F - 3, by omega⟩
  have hin0 : inb ((0 : Nat) : Int) [d, i].length = true := rfl
  have hin1 : inb ((1 : Nat) : Int) [d, i].length = true := rfl
  rw [show (([d, i].length : Nat) : Int) = 2 from rfl, show ((2 : Int) == ((2 : Nat) : Int)) = true from rfl, fn70_t]
  show Option.bind (fn72_l1 fLd [d, i] (F + 2 + 1) fLd.fslot.fOp fLd.fslot.fDst fLd.fslot.fSrc fLd.fslot.fOff fLd.fslot.fImm 0 0 0 0 0 0) _ = _
  rw [fn72_l1_s, fn72_b1, lLd, show decide (0 < 2) = true from rfl, cond_true, hin0, cond_true, show Utf8.decode fLd.fwords 0 = (68, 1) by decide +kernel]
  have hs := set_ok (x := fLd.fslot) (y := ⟨0, 0, 0, 0, 0⟩) (ws := []) (c := ((68 : Nat) : Int)) hd (by decide)
  show Option.bind (frk2 (fn103 ⟨fLd.fslot, ⟨0, 0, 0, 0, 0⟩, []⟩ ((68 : Nat) : Int) d) _ _) _ = _
  rw [hs, show partW ((68 : Nat) : Int) d = regP (bL d) from rfl]
  cases hr : regP (bL d) with
  | none => rw [ldS, hr]; rfl
  | some r =>
   show Option.bind (fn72_l1 fLd [d, i] (F + 1 + 1) 24 r 0 0 0 0 0 0 0 0 1) _ = _
   rw [fn72_l1_s, fn72_b1, lLd, show decide (1 < 2) = true from rfl, cond_true, hin1, cond_true, show Utf8.decode fLd.fwords 1 = (78, 1) by decide +kernel]
   unfold fn103
   rw [show (((78 : Nat) : Int) == 68) = false from rfl, show (((78 : Nat) : Int) == 83) = false from rfl, show (((78 : Nat) : Int) == 73) = false from rfl, show (((78 : Nat) : Int) == 78) = true from rfl, cond_false, cond_false, cond_false, cond_true, show gt [d, i] ((1 : Nat) : Int) = i from rfl, fn71_64 hi, ldS, hr]
   cases hn : numR (-9223372036854775808) 9223372036854775807 (bL i) with
   | none => rfl
   | some v =>
    show Option.bind (fn72_l1 fLd [d, i] (F + 1) 24 r 0 0 (IntKind.i32.wrap v) 0 0 0 0 (IntKind.i32.wrap (ishr .i64 v 32)) 2) _ = _
    rw [fn72_l1_s, fn72_b1, lLd, show decide (2 < 2) = false from rfl, cond_false, Option.bind_some]
    show fn72_k1 fLd 24 r 0 0 (IntKind.i32.wrap v) 0 0 0 0 (IntKind.i32.wrap (ishr .i64 v 32)) = _
    unfold fn72_k1
    rw [neL, show ((24 : Int) == (fn56 0).fOp) = true from rfl, show decide (fLd.fname = (⟨#[115, 108, 111, 116]⟩ : ByteArray)) = false by decide]
    rfl
 ·rw [show ((((d :: i :: x :: ws).length : Nat) : Int) == ((2 : Nat) : Int)) = false from beq_eq_false_iff_ne.2 (by simp only [List.length_cons]; omega), fn70_f]; rfl
theorem fn72_map {ws : List ByteArray} {F : Nat} (hsz : ∀ w ∈ ws, w.size ≤ 281474976710656) (hF : 60 ≤ F) : fn72 F fMap ws = some (pairS (mapS ws)) := by
 unfold fn72
 by_cases hlen : ws.length = 2
 ·rw [lMap, show (((ws.length : Nat) : Int) == ((2 : Nat) : Int)) = true by rw [hlen]; rfl, fn70_t]
  have h := fill_l fMap ws hsz [68, 73] 0 F fMap.fslot map_letters (by rw [hlen]; rfl) (by decide) (by simp only [List.length_cons, List.length_nil]; omega)
  rw [List.drop_zero] at h
  show Option.bind (fn72_l1 fMap ws F fMap.fslot.fOp fMap.fslot.fDst fMap.fslot.fSrc fMap.fslot.fOff fMap.fslot.fImm 0 0 0 0 0 0) _ = _
  rw [h, Option.bind_some, mapS]
  show _ = some (pairS (match fillS fMap.fslot [68, 73] ws with | some y => some [y, ⟨0, 0, 0, 0, 0⟩] | none => none))
  cases hf : fillS fMap.fslot [68, 73] ws with
  | none => rfl
  | some y =>
   show fn72_k1 fMap y.fOp y.fDst y.fSrc y.fOff y.fImm 0 0 0 0 0 = _
   unfold fn72_k1
   rw [neL, fillS_op hf, show (fMap.fslot.fOp == (fn56 0).fOp) = true from rfl, show decide (fMap.fname = (⟨#[115, 108, 111, 116]⟩ : ByteArray)) = false by decide, ← fillS_op hf]
   rfl
 ·rw [lMap, show (((ws.length : Nat) : Int) == ((2 : Nat) : Int)) = false from beq_eq_false_iff_ne.2 (by omega), fn70_f, mapS, fill_nil _ _ _ (by simp only [List.length_cons, List.length_nil]; omega)]
  rfl
end Go.Proofs.YtfjefnnbodgfbaaGreatDoor
namespace Go.Proofs.YtfjefnnbodgfbaaGreatDoor
open Go Go.HW
set_option linter.unusedVariables false
set_option maxRecDepth 100000
def mkB (l : List UInt8) : ByteArray := ⟨l.toArray⟩
theorem bL_mkB (l : List UInt8) : bL (mkB l) = l := bL_mk l
theorem mkB_bL (s : ByteArray) : mkB (bL s) = s := mk_bL s
theorem mkB_size (l : List UInt8) : (mkB l).size = l.length := by rw [← bL_len, bL_mkB]
def parts (c : UInt8) (s : ByteArray) : List ByteArray := (spl c (bL s)).map mkB
theorem spl_len (c : UInt8) : ∀ (l : List UInt8), (spl c l).length ≤ l.length + 1 ∧ ∀ x ∈ spl c l, x.length ≤ l.length
 | [] => ⟨Nat.le_refl _, fun x hx => by rw [show spl c [] = [[]] from rfl, List.mem_singleton] at hx; rw [hx]; exact Nat.le_refl _⟩
 | b :: l => by
  obtain ⟨h1, h2⟩ := spl_len c l
  rw [spl]
  cases b == c with
  | true =>
   rw [cond_true]
   refine ⟨by simp only [List.length_cons]; omega, fun x hx => ?_⟩
   rcases List.mem_cons.1 hx with rfl | hx
   ·exact Nat.zero_le _
   ·exact Nat.le_succ_of_le (h2 x hx)
  | false =>
   rw [cond_false]
   cases hs : spl c l with
   | nil => exact absurd hs (spl_ne c l)
   | cons y r =>
    rw [hs] at h1 h2
    refine ⟨by simp only [List.length_cons] at h1 ⊢; omega, fun x hx => ?_⟩
    rcases List.mem_cons.1 hx with rfl | hx
    ·have := h2 y (by simp); simp only [List.length_cons]; omega
    ·have := h2 x (by simp [hx]); simp only [List.length_cons]; omega
theorem parts_ne (c : UInt8) (s : ByteArray) : parts c s ≠ [] := by
 unfold parts
 intro h
 exact spl_ne c _ (List.map_eq_nil_iff.1 h)
theorem parts_size {c : UInt8} {s w : ByteArray} (h : w ∈ parts c s) : w.size ≤ s.size := by
 unfold parts at h
 obtain ⟨l, hl, rfl⟩ := List.mem_map.1 h
 rw [mkB_size, ← bL_len]
 exact (spl_len c _).2 l hl
theorem parts_len (c : UInt8) (s : ByteArray) : (parts c s).length ≤ s.size + 1 := by
 unfold parts
 rw [List.length_map, ← bL_len]
 exact (spl_len c _).1
theorem fn17_sp {s : ByteArray} (hs : s.size < 4294967281) : fn17 s (⟨#[32]⟩ : ByteArray) = some (parts 32 s) := by
 show (bif decide (s.size < 4294967281) then _ else none) = _
 rw [decide_eq_true hs]; rfl
theorem fn17_nl {s : ByteArray} (hs : s.size < 4294967281) : fn17 s (⟨#[10]⟩ : ByteArray) = some (parts 10 s) := by
 show (bif decide (s.size < 4294967281) then _ else none) = _
 rw [decide_eq_true hs]; rfl
theorem raw_letters : letters (⟨#[68, 83, 79, 73]⟩ : ByteArray) 0 [68, 83, 79, 73] := lettersB_ok _ _ _ (by decide +kernel)
theorem raw_lts : lts (⟨#[68, 83, 79, 73]⟩ : ByteArray) = [68, 83, 79, 73] := by decide
def outP (o : Option (List Instr)) : Int ⊕ List Instr := match o with | some l => .inr l | none => .inl 25
theorem numR_255 (l : List UInt8) : numR 0 255 l = match numR (-9223372036854775808) 9223372036854775807 l with | some z => bif inR 0 255 z then some z else none | none => none := (numR_sub (by decide) (by decide) l).symm
theorem w8 {v : Int} (h : 0 ≤ v ∧ v ≤ 255) : IntKind.u8.wrap v = v := by rw [IntKind.wrap_u8]; omega
theorem fn34_ok {s : ByteArray} {F : Nat} (hs : s.size ≤ 1000000) (hF : 1001 ≤ F) : fn34 F tabP.1 tabP.2 s = some (outP (lineS (parts 32 s))) := by
 have hsz : ∀ w ∈ parts 32 s, w.size ≤ 281474976710656 := fun w hw => by have := parts_size hw; omega
 unfold fn34
 rw [fn17_sp (by omega), Option.bind_some]
 cases hp : parts 32 s with
 | nil => exact absurd hp (parts_ne _ _)
 | cons n ws =>
  rw [hp] at hsz
  have hsz' : ∀ w ∈ ws, w.size ≤ 281474976710656 := fun w hw => hsz w (by simp [hw])
  have hin0 : inb 0 (n :: ws).length = true := inb_iff.2 ⟨by omega, by simp only [List.length_cons]; omega⟩
  rw [hin0, cond_true, show gt (n :: ws) 0 = n from rfl, eqL, lineS, show (⟨#[115, 108, 111, 116]⟩ : ByteArray) = nSlot from rfl]
  by_cases h1 : n = nSlot
  ·rw [decide_eq_true h1, cond_true, cond_true]
   cases ws with
   | nil =>
    rw [show (([n].length : Nat) : Int) = 1 from rfl, decide_eq_false (show ¬ (1 : Int) < 1 by omega), fn70_f]; rfl
   | cons o r =>
    have hin1 : inb 1 (n :: o :: r).length = true := inb_iff.2 ⟨by omega, by simp only [List.length_cons]; omega⟩
    have hszr : ∀ w ∈ r, w.size ≤ 281474976710656 := fun w hw => hsz' w (by simp [hw])
    rw [decide_eq_true (show (1 : Int) < (((n :: o :: r).length : Nat) : Int) by simp only [List.length_cons]; omega), fn70_t]
    show (bif inb 1 (n :: o :: r).length then _ else none) = _
    rw [hin1, cond_true, show gt (n :: o :: r) 1 = o from rfl, fn71_64 (hsz' o (by simp)), slotS, numR_255]
    cases hn : numR (-9223372036854775808) 9223372036854775807 (bL o) with
    | none => rfl
    | some v =>
     show frk2 (fn70 (decide ((0 : Int) ≤ v) && decide (v < 256))) _ _ = some (outP (match (bif inR 0 255 v then some v else none) with | some v => (match fillS ⟨v, 0, 0, 0, 0⟩ [68, 83, 79, 73] r with | some y => some [y] | none => none) | none => none))
     have he : (decide ((0 : Int) ≤ v) && decide (v < 256)) = inR 0 255 v := by
      unfold inR
      rw [show decide (v < 256) = decide (v ≤ 255) from by rw [decide_eq_decide]; omega]
     rw [he]
     cases hr : inR 0 255 v with
     | false => rw [fn70_f]; rfl
     | true =>
      simp only [inR, Bool.and_eq_true, decide_eq_true_eq] at hr
      rw [fn70_t, cond_true]
      show (bif sliceOk (2 : Int) (((n :: o :: r).length : Nat) : Int) (n :: o :: r).length then _ else none) = _
      have ht := fn72_ok (f := ⟨nSlot, (⟨#[68, 83, 79, 73]⟩ : ByteArray), ⟨v, 0, 0, 0, 0⟩⟩) (ws := r) (F := F) hszr (by rw [show lts _ = [68, 83, 79, 73] from raw_lts]; exact raw_letters) (by rw [show lts _ = [68, 83, 79, 73] from raw_lts]; decide) (by omega)
       (by rw [decide_eq_true (show nSlot = (⟨#[115, 108, 111, 116]⟩ : ByteArray) from rfl), Bool.not_true, Bool.and_false])
      rw [show lts _ = [68, 83, 79, 73] from raw_lts] at ht
      rw [cutW2.1, cond_true, cutW2.2, w8 hr, ht]
      show frk2 (fn70 _) _ _ = some (outP (match fillS ⟨v, 0, 0, 0, 0⟩ [68, 83, 79, 73] r with | some y => some [y] | none => none))
      cases fillS ⟨v, 0, 0, 0, 0⟩ [68, 83, 79, 73] r <;> rfl
  ·rw [decide_eq_false h1, cond_false, cond_false]
   show Option.bind (fn115 F (stepR (fun (s : List Instr) (y : Form) => fn34_r1 F (n :: ws) s y)) goR (nameF n) (([] : List Instr), 0)) _ = _
   have h34 : ∀ f, fn34_r1 F (n :: ws) [] f = Option.bind (fn72 F f ws) fun v => bif v.2 then some (v.1, 1) else some ([], 0) := fun f => by
    rw [fn34_r1, cutW1.1, cond_true, cutW1.2]
    cases fn72 F f ws <;> rfl
   have one : ∀ (f : Form) (o : Option (List Instr)), fn72 F f ws = some (pairS o) → Option.bind (fn115 F (stepR (fun (s : List Instr) (y : Form) => fn34_r1 F (n :: ws) s y)) goR [f] (([] : List Instr), 0)) (fun o41 => (bif Nat.beq o41.2 0 then (fn34_k1_0 o41.1) else (bif Nat.beq o41.2 1 then (fn34_k1_1 o41.1) else none))) = some (outP o) := fun f o h => by
    obtain ⟨F', rfl⟩ : ∃ k, F = k + 2 := ⟨F - 2, by omega⟩
    unfold fn115
    rw [fn115_l1_s, fn115_b1, show decide ((0 : Int) < (([f].length : Nat) : Int)) = true from rfl, cond_true, show inb 0 [f].length = true from rfl, cond_true]
    show Option.bind (Option.bind (Option.bind (fn34_r1 (F' + 2) (n :: ws) [] f) _) _) _ = _
    rw [h34, h, Option.bind_some]
    cases o with
    | some l => rfl
    | none =>
     show Option.bind (Option.bind (fn115_l1 (stepR (fun (s : List Instr) (y : Form) => fn34_r1 (F' + 2) (n :: ws) s y)) goR [f] (F' + 1) (([] : List Instr), 0) 1) _) _ = _
     rw [fn115_l1_s, fn115_b1, show decide ((1 : Int) < (([f].length : Nat) : Int)) = false from rfl]
     rfl
   by_cases h2 : n = nLd
   ·rw [decide_eq_true h2, cond_true, h2, nameLd]
    rw [h2] at one
    exact one fLd _ (fn72_ld hsz' (by omega))
   ·rw [decide_eq_false h2, cond_false]
    by_cases h3 : n = nMap
    ·rw [decide_eq_true h3, cond_true, h3, nameMap]
     rw [h3] at one
     exact one fMap _ (fn72_map hsz' (by omega))
    ·rw [decide_eq_false h3, cond_false, othS_d]
     obtain ⟨_, g1, g2⟩ := name_ok h2 h3
     have hl := prog_fill (F0 := F) (n := n) (by omega) hsz' g1 (by omega) (nameF n).length 0 F (by omega) (by omega) (by omega)
     rw [List.drop_zero, name_find h2 h3] at hl
     unfold fn115
     rw [show ((0 : Nat) : Int) = 0 from rfl] at hl
     rw [hl]
     generalize tabD.findSome? (flN n ws) = z
     cases z <;> rfl
end Go.Proofs.YtfjefnnbodgfbaaGreatDoor
namespace Go.Proofs.YtfjefnnbodgfbaaGreatDoor
open Go Go.HW
set_option linter.unusedVariables false
set_option maxRecDepth 100000
theorem lineS_len {ws : List ByteArray} {l : List Instr} (h : lineS ws = some l) : l.length ≤ 2 := by
 cases ws with
 | nil => cases h
 | cons n r =>
  rw [lineS] at h
  cases h1 : decide (n = nSlot) with
  | true =>
   rw [h1, cond_true] at h
   cases r with
   | nil => cases h
   | cons o r =>
    rw [slotS] at h
    split at h
    ·split at h
     ·cases h; exact Nat.le_succ _
     ·cases h
    ·cases h
  | false =>
   rw [h1, cond_false] at h
   cases h2 : decide (n = nLd) with
   | true =>
    rw [h2, cond_true] at h
    unfold ldS at h
    split at h
    ·split at h
     ·split at h
      ·cases h; exact Nat.le_refl _
      ·cases h
     ·cases h
    ·cases h
   | false =>
    rw [h2, cond_false] at h
    cases h3 : decide (n = nMap) with
    | true =>
     rw [h3, cond_true] at h
     unfold mapS at h
     split at h
     ·cases h; exact Nat.le_refl _
     ·cases h
    | false =>
     rw [h3, cond_false, othS_d] at h
     unfold oneS at h
     split at h
     ·cases h; exact Nat.le_succ _
     ·cases h
def bE : ByteArray := ⟨#[]⟩
def textS : List Instr → List ByteArray → Nat → List Instr ⊕ Nat
 | acc, [], _ => .inl acc
 | acc, x :: ls, i => bif decide (x = bE) then textS acc ls (i + 1) else match lineS (parts 32 x) with
  | some l => textS (acc ++ l) ls (i + 1)
  | none => .inr (i + 1)
def outS : List Instr ⊕ Nat → List Instr × Int × Int
 | .inl acc => bif decide ((4096 : Int) < (acc.length : Int)) then ([], 0, 3) else (acc, 0, 0)
 | .inr e => ([], (e : Int), 25)
theorem outS_l (acc : List Instr) : outS (.inl acc) = bif decide ((4096 : Int) < (acc.length : Int)) then ([], 0, 3) else (acc, 0, 0) := rfl
def parseS (s : ByteArray) : List Instr × Int × Int := outS (textS [] (parts 10 s) 0)
theorem prog_text {F0 : Nat} (hF0 : 1001 ≤ F0) {ls : List ByteArray} (hsz : ∀ x ∈ ls, x.size ≤ 1000000) (hlen : ls.length ≤ 1000001) :
  ∀ (k i F : Nat) (a : Int) (acc : List Instr), ls.length - i = k → i ≤ ls.length → k < F → acc.length ≤ 2 * i →
   match textS acc (ls.drop i) i with
   | .inl acc' => ∃ a', fn69_l1 (stepR (fun (s : Int × (List Instr)) (y : Int × ByteArray) => fn15_r1 F0 tabP s.1 s.2 y.1 y.2)) goR pnR ls F ((a, acc), 0) (i : Int) = some (.inl ((a', acc'), 0))
   | .inr e => ∃ acc', fn69_l1 (stepR (fun (s : Int × (List Instr)) (y : Int × ByteArray) => fn15_r1 F0 tabP s.1 s.2 y.1 y.2)) goR pnR ls F ((a, acc), 0) (i : Int) = some (.inr (.inl (((e : Int), acc'), 1025))) := by
 intro k
 induction k with
 | zero =>
  intro i F a acc hn hi hF ha
  obtain ⟨F, rfl⟩ : ∃ n, F = n + 1 := ⟨F - 1, by omega⟩
  rw [List.drop_eq_nil_of_le (by omega), textS]
  refine ⟨a, ?_⟩
  rw [fn69_l1_s, fn69_b1, decide_eq_false (by omega), cond_false]
 | succ k ih =>
  intro i F a acc hn hi hF ha
  obtain ⟨F, rfl⟩ : ∃ n, F = n + 1 := ⟨F - 1, by omega⟩
  have hlt : i < ls.length := by omega
  have hin : inb (i : Int) ls.length = true := by simp [inb]; omega
  have hget : gt ls (i : Int) = ls[i] := by simp [gt, hlt]
  have hw : IntKind.i64.wrap ((i : Int) + 1) = ((i + 1 : Nat) : Int) := by rw [w64' (by omega)]; omega
  rw [List.drop_eq_getElem_cons hlt, textS, fn69_l1_s, fn69_b1, decide_eq_true (show (i : Int) < (ls.length : Int) by omega), cond_true, hin, cond_true, hget, neL, hw, show (⟨#[]⟩ : ByteArray) = bE from rfl]
  cases hd : decide (ls[i] = bE) with
  | true =>
   rw [Bool.not_true, cond_false, cond_true]
   exact ih (i + 1) F a acc (by omega) (by omega) (by omega) (by omega)
  | false =>
   rw [Bool.not_false, cond_true, cond_false]
   have h34 := fn34_ok (s := ls[i]) (F := F0) (hsz _ (List.getElem_mem hlt)) hF0
   have hst : stepR (fun (s : Int × (List Instr)) (y : Int × ByteArray) => fn15_r1 F0 tabP s.1 s.2 y.1 y.2) ((a, acc), 0) (((i + 1 : Nat) : Int), ls[i]) =
     match lineS (parts 32 ls[i]) with
     | some l => some ((((i + 1 : Nat) : Int), acc ++ l), 0)
     | none => some ((((i + 1 : Nat) : Int), acc), 1025) := by
    unfold stepR
    show (bif Nat.beq 0 0 then fn15_r1 F0 tabP a acc ((i + 1 : Nat) : Int) ls[i] else none) = _
    rw [show Nat.beq 0 0 = true from rfl, cond_true, fn15_r1, h34]
    cases hl : lineS (parts 32 ls[i]) with
    | none => rfl
    | some l =>
     have := lineS_len hl
     show (bif decide ((acc.length + l.length) * 12 ≤ 140737488355328 ∧ acc.length + l.length ≤ 9223372036854775807) then some ((((i + 1 : Nat) : Int), acc ++ l), 0) else none) = _
     rw [decide_eq_true (by omega)]; rfl
   rw [hst]
   cases hl : lineS (parts 32 ls[i]) with
   | none => exact ⟨acc, rfl⟩
   | some l =>
    have := lineS_len hl
    exact ih (i + 1) F _ (acc ++ l) (by omega) (by omega) (by omega) (by rw [List.length_append]; omega)
theorem fn15_ok {s : ByteArray} {F : Nat} (ht : fn25 F = some tabP) (hs : s.size ≤ 262144) (hF : s.size + 2 ≤ F) (hF2 : 1001 ≤ F) : fn15 F s = some (parseS s) := by
 unfold fn15 parseS
 rw [decide_eq_false (by omega), cond_false, ht, Option.bind_some]
 unfold fn69 fn33
 rw [fn17_nl (by omega), Option.bind_some]
 have hl := parts_len 10 s
 have h := prog_text (F0 := F) hF2 (ls := parts 10 s) (fun x hx => by have := parts_size hx; omega) (by omega) (parts 10 s).length 0 F 0 [] (by omega) (by omega) (by omega) (by simp)
 rw [List.drop_zero] at h
 cases ht : textS [] (parts 10 s) 0 with
 | inl acc =>
  rw [ht] at h
  obtain ⟨a, e⟩ := h
  rw [show ((0 : Nat) : Int) = 0 from rfl] at e
  rw [e, outS_l]
  show fn15_k1_0 a acc = _
  unfold fn15_k1_0
  cases decide ((4096 : Int) < (acc.length : Int)) <;> rfl
 | inr k =>
  rw [ht] at h
  obtain ⟨a, e⟩ := h
  rw [show ((0 : Nat) : Int) = 0 from rfl] at e
  rw [e]; rfl
theorem same_l {l : List Instr} (hl : l.length ≤ 1000000) : ∀ (k i F : Nat), l.length - i = k → i ≤ l.length → k < F → fn16_l1 l l F (i : Int) = some (.inl ()) := by
 intro k
 induction k with
 | zero =>
  intro i F hn hi hF
  obtain ⟨F, rfl⟩ : ∃ n, F = n + 1 := ⟨F - 1, by omega⟩
  rw [fn16_l1_s, fn16_b1, decide_eq_false (by omega), cond_false]
 | succ k ih =>
  intro i F hn hi hF
  obtain ⟨F, rfl⟩ : ∃ n, F = n + 1 := ⟨F - 1, by omega⟩
  have hin : inb (i : Int) l.length = true := by simp [inb]; omega
  have hw : IntKind.i64.wrap ((i : Int) + 1) = ((i + 1 : Nat) : Int) := by rw [w64' (by omega)]; omega
  rw [fn16_l1_s, fn16_b1, decide_eq_true (by omega), cond_true, hin, cond_true, cond_true]
  simp only [beq_self_eq_true, Bool.and_self, Bool.not_true, cond_false]
  rw [hw]
  exact ih (i + 1) F (by omega) (by omega) (by omega)
theorem same_ok {l : List Instr} {F : Nat} (hl : l.length ≤ 1000000) (hF : l.length < F) : fn16 F l l = some true := by
 unfold fn16
 have h := same_l hl l.length 0 F (by omega) (by omega) hF
 rw [show ((0 : Nat) : Int) = 0 from rfl] at h
 rw [show ((l.length : Int) != (l.length : Int)) = false by rw [bne, beq_self_eq_true]; rfl, cond_false, h]; rfl
theorem awake_ok : fn10 300000 = some true := by decide +kernel
end Go.Proofs.YtfjefnnbodgfbaaGreatDoor
namespace Go.Proofs.YtfjefnnbodgfbaaGreatDoor
open Go Go.HW
set_option linter.unusedVariables false
set_option maxRecDepth 100000
theorem lineS_half {x : ByteArray} {l : List Instr} (hx : decide (x = bE) = false) (h : lineS (parts 32 x) = some l) : 2 * l.length ≤ x.size + 1 := by
 have h1 : 1 ≤ x.size := by
  rcases Nat.eq_zero_or_pos x.size with h0 | h0
  ·have : x = bE := bL_inj (by rw [List.eq_nil_of_length_eq_zero (by rw [bL_len, h0] : (bL x).length = 0)]; rfl)
   rw [decide_eq_true this] at hx; cases hx
  ·exact h0
 cases hp : parts 32 x with
 | nil => rw [hp] at h; cases h
 | cons n r =>
  have hn : n.size ≤ x.size := parts_size (c := 32) (by rw [hp]; simp)
  rw [hp, lineS] at h
  have one : ∀ {y : Instr}, l = [y] → 2 * l.length ≤ x.size + 1 := fun e => by rw [e]; show 2 * 1 ≤ _; omega
  cases c1 : decide (n = nSlot) with
  | true =>
   rw [c1, cond_true] at h
   cases r with
   | nil => cases h
   | cons o r =>
    rw [slotS] at h
    split at h
    ·split at h
     ·exact one (Option.some.inj h).symm
     ·cases h
    ·cases h
  | false =>
   rw [c1, cond_false] at h
   cases c2 : decide (n = nLd) with
   | true =>
    have := of_decide_eq_true c2
    have hz : n.size = 4 := by rw [this]; rfl
    rw [c2, cond_true] at h
    unfold ldS at h
    split at h
    ·split at h
     ·split at h
      ·rw [← Option.some.inj h]; show 2 * 2 ≤ _; omega
      ·cases h
     ·cases h
    ·cases h
   | false =>
    rw [c2, cond_false] at h
    cases c3 : decide (n = nMap) with
    | true =>
     have := of_decide_eq_true c3
     have hz : n.size = 5 := by rw [this]; rfl
     rw [c3, cond_true] at h
     unfold mapS at h
     split at h
     ·rw [← Option.some.inj h]; show 2 * 2 ≤ _; omega
     ·cases h
    | false =>
     rw [c3, cond_false, othS_d] at h
     unfold oneS at h
     split at h
     ·exact one (Option.some.inj h).symm
     ·cases h
def tot (ls : List ByteArray) : Nat := (ls.map fun x => x.size + 1).sum
theorem tot_cons (x : ByteArray) (ls : List ByteArray) : tot (x :: ls) = x.size + 1 + tot ls := by unfold tot; rw [List.map_cons, List.sum_cons]
theorem textS_len : ∀ (ls : List ByteArray) (acc : List Instr) (i : Nat) (r : List Instr), textS acc ls i = .inl r → 2 * r.length ≤ 2 * acc.length + tot ls
 | [], acc, i, r, h => by rw [textS] at h; cases h; omega
 | x :: ls, acc, i, r, h => by
  rw [textS] at h
  rw [tot_cons]
  cases hd : decide (x = bE) with
  | true => rw [hd, cond_true] at h; have := textS_len ls _ _ _ h; omega
  | false =>
   rw [hd, cond_false] at h
   cases hl : lineS (parts 32 x) with
   | none => rw [hl] at h; cases h
   | some l =>
    rw [hl] at h
    have h1 := textS_len ls _ _ _ h
    have h2 := lineS_half hd hl
    rw [List.length_append] at h1
    omega
theorem spl_tot (c : UInt8) : ∀ l : List UInt8, ((spl c l).map fun x => x.length + 1).sum = l.length + 1
 | [] => rfl
 | b :: l => by
  have ih := spl_tot c l
  rw [spl]
  cases b == c with
  | true => rw [cond_true, List.map_cons, List.sum_cons, ih, List.length_nil, List.length_cons]; omega
  | false =>
   rw [cond_false]
   cases hs : spl c l with
   | nil => exact absurd hs (spl_ne c l)
   | cons y r =>
    rw [hs, List.map_cons, List.sum_cons] at ih
    rw [List.map_cons, List.sum_cons, List.length_cons, List.length_cons]; omega
theorem parts_tot (c : UInt8) (s : ByteArray) : tot (parts c s) = s.size + 1 := by
 unfold tot parts
 rw [List.map_map, ← bL_len, ← spl_tot c]
 refine congrArg List.sum (List.map_congr_left fun x _ => ?_)
 show (mkB x).size + 1 = _
 rw [mkB_size]
theorem parse_l {s : ByteArray} {l : List Instr} (hs : s.size ≤ 8000) (h : textS [] (parts 10 s) 0 = .inl l) : parseS s = (l, 0, 0) ∧ 2 * l.length ≤ s.size + 1 := by
 have hl := textS_len _ _ _ _ h
 rw [parts_tot, List.length_nil] at hl
 refine ⟨?_, by omega⟩
 unfold parseS
 rw [h, outS_l, decide_eq_false (by omega), cond_false]
theorem parse_r {s : ByteArray} {e : Nat} (h : textS [] (parts 10 s) 0 = .inr e) : parseS s = ([], (e : Int), 25) := by
 unfold parseS
 rw [h]; rfl
theorem textS_pos : ∀ (ls : List ByteArray) (acc : List Instr) (i e : Nat), textS acc ls i = .inr e → i + 1 ≤ e ∧ e ≤ i + ls.length
 | [], acc, i, e, h => by rw [textS] at h; cases h
 | x :: ls, acc, i, e, h => by
  rw [textS] at h
  rw [List.length_cons]
  cases hd : decide (x = bE) with
  | true => rw [hd, cond_true] at h; have := textS_pos ls _ _ _ h; omega
  | false =>
   rw [hd, cond_false] at h
   cases hl : lineS (parts 32 x) with
   | none => rw [hl] at h; cases h; omega
   | some l => rw [hl] at h; have := textS_pos ls _ _ _ h; omega
theorem spl_app (c : UInt8) : ∀ a b : List UInt8, spl c (a ++ c :: b) = spl c a ++ spl c b
 | [], b => by
  show (bif c == c then [] :: spl c b else _) = _
  rw [beq_self_eq_true]; rfl
 | x :: a, b => by
  rw [List.cons_append, spl, spl, spl_app c a b]
  cases x == c with
  | true => rfl
  | false =>
   rw [cond_false, cond_false]
   cases hs : spl c a with
   | nil => exact absurd hs (spl_ne c a)
   | cons y r => rfl
theorem bL_app (a b : ByteArray) : bL (a ++ b) = bL a ++ bL b := by simp [bL, ByteArray.data_append]
theorem parts_app (a b : ByteArray) : parts 10 ((a ++ (⟨#[10]⟩ : ByteArray)) ++ b) = parts 10 a ++ parts 10 b := by
 unfold parts
 rw [bL_app, bL_app, show bL (⟨#[10]⟩ : ByteArray) = [10] from rfl, List.append_assoc, List.singleton_append, spl_app, List.map_append]
end Go.Proofs.YtfjefnnbodgfbaaGreatDoor
namespace Go.Proofs.YtfjefnnbodgfbaaGreatDoor
open Go Go.HW
set_option linter.unusedVariables false
set_option maxRecDepth 100000
theorem wrapI64 (n : Int) : I64 (IntKind.i64.wrap n) := by rw [IntKind.wrap_i64]; unfold I64; omega
theorem told_step (p0 : Form) (q F c : Nat) (x y : Instr) (ws : List ByteArray) (hx : Rng x) (h1 : q < p0.fwords.size) (h2 : Utf8.decode p0.fwords q = (c, 1)) (h3 : ((c : Int) == 78) = false) (hw : ws.length ≤ 100) :
  fn60_l1 p0 (F + 1) ws x.fOp x.fDst x.fSrc x.fOff x.fImm y.fOp y.fDst y.fSrc y.fOff y.fImm q =
   fn60_l1 p0 F (ws ++ [word x (c : Int)]) (clr x (c : Int)).fOp (clr x (c : Int)).fDst (clr x (c : Int)).fSrc (clr x (c : Int)).fOff (clr x (c : Int)).fImm y.fOp y.fDst y.fSrc y.fOff y.fImm (q + 1) := by
 have ht := tell_ok (x := x) (y := y) (ws := ws) (c := (c : Int)) hx hw h3
 rw [fn60_l1_s, fn60_b1, decide_eq_true h1, cond_true, h2]
 show Option.bind (fn97 ⟨x, y, ws⟩ (c : Int)) _ = _
 rw [ht, Option.bind_some]
theorem tell_N (x y : Instr) (ws : List ByteArray) (hw : ws.length ≤ 100) : fn97 ⟨x, y, ws⟩ 78 = some ⟨{ x with fImm := 0 }, { y with fImm := 0 }, ws ++ [num (wideP x y)]⟩ := by
 have hI : I64 (wideP x y) := by unfold wideP ior; exact wrapI64 _
 have k3 : ∀ b : ByteArray, decide ((ws.length + ([b] : List ByteArray).length) * 16 ≤ 140737488355328 ∧ ws.length + ([b] : List ByteArray).length ≤ 9223372036854775807) = true := fun b => decide_eq_true (by simp only [List.length_singleton]; omega)
 have h := fn100_ok hI
 unfold wideP at h
 unfold fn97
 rw [show ((78 : Int) == 68) = false from rfl, show ((78 : Int) == 83) = false from rfl, show ((78 : Int) == 73) = false from rfl, show ((78 : Int) == 78) = true from rfl]
 simp only [cond_false, cond_true]
 rw [h, Option.bind_some, k3, cond_true]
 rfl
theorem told_ld {x y : Instr} (hx : Rng x) : fn60 300000 fLd x y = some ([fLd.fname, sR ++ num x.fDst, num (wideP x y)], true,
  decide (x.fOp = 24 ∧ x.fSrc = 0 ∧ x.fOff = 0) && decide (y.fOp = 0 ∧ y.fDst = 0 ∧ y.fSrc = 0 ∧ y.fOff = 0)) := by
 have hw : (fn56 0).fOp = 24 := by decide +kernel
 unfold fn60
 rw [hw, show (fLd.fslot.fOp == 24) = true from rfl, cond_true, told_step fLd 0 299999 68 x y [fLd.fname] hx (by decide) (by decide +kernel) rfl (show 1 ≤ 100 by decide)]
 rw [fn60_l1_s, fn60_b1, decide_eq_true (show 0 + 1 < fLd.fwords.size by decide), cond_true, show Utf8.decode fLd.fwords (0 + 1) = (78, 1) by decide +kernel]
 show Option.bind (Option.bind (fn97 ⟨clr x ((68 : Nat) : Int), y, [fLd.fname] ++ [word x ((68 : Nat) : Int)]⟩ 78) _) _ = _
 rw [tell_N (clr x ((68 : Nat) : Int)) y ([fLd.fname] ++ [word x ((68 : Nat) : Int)]) (show 2 ≤ 100 by decide), Option.bind_some, fn60_l1_s, fn60_b1, decide_eq_false (by decide), cond_false, Option.bind_some, fn60_k1, hw]
 congr 2
 rw [Prod.mk.injEq]
 refine ⟨rfl, ?_⟩
 obtain ⟨a1, a2, a3, a4, a5⟩ := x
 obtain ⟨b1, b2, b3, b4, b5⟩ := y
 simp [fLd, clr, Bool.beq_eq_decide_eq, Bool.and_assoc]
theorem told_map {x y : Instr} (hx : Rng x) : fn60 300000 fMap x y = some ([fMap.fname, sR ++ num x.fDst, num x.fImm], true,
  decide (x.fOp = 24 ∧ x.fSrc = 1 ∧ x.fOff = 0) && decide (y.fOp = 0 ∧ y.fDst = 0 ∧ y.fSrc = 0 ∧ y.fOff = 0 ∧ y.fImm = 0)) := by
 have hw : (fn56 0).fOp = 24 := by decide +kernel
 unfold fn60
 rw [hw, show (fMap.fslot.fOp == 24) = true from rfl, cond_true, told_step fMap 0 299999 68 x y [fMap.fname] hx (by decide) (by decide +kernel) rfl (show 1 ≤ 100 by decide),
  told_step fMap (0 + 1) 299998 73 (clr x ((68 : Nat) : Int)) y ([fMap.fname] ++ [word x ((68 : Nat) : Int)]) (hx.clr _) (by decide) (by decide +kernel) rfl (show 2 ≤ 100 by decide),
  fn60_l1_s, fn60_b1, decide_eq_false (by decide), cond_false, Option.bind_some, fn60_k1, hw]
 congr 2
 rw [Prod.mk.injEq]
 refine ⟨rfl, ?_⟩
 obtain ⟨a1, a2, a3, a4, a5⟩ := x
 obtain ⟨b1, b2, b3, b4, b5⟩ := y
 simp [fMap, clr, Bool.beq_eq_decide_eq, Bool.and_assoc]
end Go.Proofs.YtfjefnnbodgfbaaGreatDoor
namespace Go.Proofs.YtfjefnnbodgfbaaGreatDoor
open Go Go.HW
set_option linter.unusedVariables false
set_option maxRecDepth 100000
theorem raw_case {x : Instr} (hx : Rng x) (b : Bool) (xs : List ByteArray) : ∃ ws s, fn26_k1_0 300000 x b xs = some (ws, false) ∧ fn31_k1 x = some s ∧ fn19 ws sSp = some s := by
 obtain ⟨i1, i2, i3, i4, i5⟩ := hx.i64
 have hx0 : Rng ⟨0, x.fDst, x.fSrc, x.fOff, x.fImm⟩ := ⟨by simp, hx.dst, hx.src, hx.off, hx.imm⟩
 have s5 := num_size i5
 have e5 : (⟨#[115, 108, 111, 116, 32]⟩ : ByteArray).size = 5 := rfl
 have ht := told_ok (p0 := ⟨(⟨#[115, 108, 111, 116, 32]⟩ : ByteArray) ++ num x.fOp, (⟨#[68, 83, 79, 73]⟩ : ByteArray), ⟨0, 0, 0, 0, 0⟩⟩) (F := 300000) (x := ⟨0, x.fDst, x.fSrc, x.fOff, x.fImm⟩) (y := ⟨0, 0, 0, 0, 0⟩) (l := rawW) hx0 rawW_ok (by decide) (by decide) rfl
 have hj := join_ok hx0 ((⟨#[115, 108, 111, 116, 32]⟩ : ByteArray) ++ num x.fOp) rawW (by intro c hc; simp [rawW] at hc; unfold okLetter; omega) (by decide) (by rw [ByteArray.size_append]; omega) (by decide)
 refine ⟨_, _, ?_, ?_, hj⟩
 ·unfold fn26_k1_0
  rw [w64 i5, fn53_ok i5, Option.bind_some, decide_eq_true (by omega), cond_true, ht]; rfl
 ·rw [raw_ok hx]
  congr 1
  have e : sayL ⟨0, x.fDst, x.fSrc, x.fOff, x.fImm⟩ rawW = (sSp ++ (sR ++ num x.fDst)) ++ ((sSp ++ (sR ++ num x.fSrc)) ++ ((sSp ++ num x.fOff) ++ ((sSp ++ num x.fImm) ++ ⟨#[]⟩))) := by
   simp only [sayL, rawW, word]; rfl
  have e2 : (⟨#[115, 108, 111, 116, 32]⟩ : ByteArray) = (⟨#[115, 108, 111, 116]⟩ : ByteArray) ++ sSp := by decide +kernel
  rw [e, e2]
  generalize num x.fDst = a1; generalize num x.fSrc = a2; generalize num x.fOff = a3; generalize num x.fImm = a4; generalize num x.fOp = a5
  have e0 : ∀ a : ByteArray, a ++ (⟨#[]⟩ : ByteArray) = a := fun a => by apply ByteArray.ext; simp
  rw [e0]
  simp only [ByteArray.append_assoc]
theorem doc24 : (tabD.filter fun f => f.fslot.fOp == 24) = [] := by decide +kernel
theorem one24 {x : Instr} (hx : Rng x) (h24 : x.fOp = 24) : fn31 300000 tabD x = fn31_k1 x := by
 obtain ⟨d1, d2⟩ := tabD_good
 have hd := doc_loop (F0 := 300000) (by omega) (x := x) (p := tabD) hx d1 (by omega) tabD.length 0 300000 (by omega) (by omega) (by omega)
 rw [show ((0 : Nat) : Int) = 0 from rfl, List.drop_zero, find_op, h24, doc24] at hd
 unfold fn31
 rw [hd]; rfl
theorem prog24 {x y : Instr} {last : Bool} (hx : Rng x) (h24 : x.fOp = 24) :
  fn26 300000 tabP.1 tabP.2 x y last =
   bif (decide (x.fSrc = 0 ∧ x.fOff = 0) && decide (y.fOp = 0 ∧ y.fDst = 0 ∧ y.fSrc = 0 ∧ y.fOff = 0)) && !last then some ([fLd.fname, sR ++ num x.fDst, num (wideP x y)], true)
   else bif (decide (x.fSrc = 1 ∧ x.fOff = 0) && decide (y.fOp = 0 ∧ y.fDst = 0 ∧ y.fSrc = 0 ∧ y.fOff = 0 ∧ y.fImm = 0)) && !last then some ([fMap.fname, sR ++ num x.fDst, num x.fImm], true)
   else fn26_k1_0 300000 x false [] := by
 have t1 := told_ld (y := y) hx
 have t2 := told_map (y := y) hx
 have c1 : decide (x.fOp = 24 ∧ x.fSrc = 0 ∧ x.fOff = 0) = decide (x.fSrc = 0 ∧ x.fOff = 0) := by simp [h24]
 have c2 : decide (x.fOp = 24 ∧ x.fSrc = 1 ∧ x.fOff = 0) = decide (x.fSrc = 1 ∧ x.fOff = 0) := by simp [h24]
 rw [c1] at t1
 rw [c2] at t2
 generalize hA : (decide (x.fSrc = 0 ∧ x.fOff = 0) && decide (y.fOp = 0 ∧ y.fDst = 0 ∧ y.fSrc = 0 ∧ y.fOff = 0)) = A at *
 generalize hB : (decide (x.fSrc = 1 ∧ x.fOff = 0) && decide (y.fOp = 0 ∧ y.fDst = 0 ∧ y.fSrc = 0 ∧ y.fOff = 0 ∧ y.fImm = 0)) = B at *
 unfold fn26 fn115
 show Option.bind (Option.bind (fn115_l1 _ goR (opF x.fOp) 300000 ((false, []), 0) 0) _) _ = _
 rw [h24, op24]
 have s1 : ∀ b xs, fn26_r1 300000 x y last b xs fLd = some (bif A && !last then ((true, [fLd.fname, sR ++ num x.fDst, num (wideP x y)]), 1) else ((b, xs), 0)) := fun b xs => by
  rw [fn26_r1, t1, Option.bind_some]; cases A <;> cases last <;> rfl
 have s2 : ∀ b xs, fn26_r1 300000 x y last b xs fMap = some (bif B && !last then ((true, [fMap.fname, sR ++ num x.fDst, num x.fImm]), 1) else ((b, xs), 0)) := fun b xs => by
  rw [fn26_r1, t2, Option.bind_some]; cases B <;> cases last <;> rfl
 rw [fn115_l1_s, fn115_b1]
 show Option.bind (Option.bind (Option.bind (fn26_r1 300000 x y last false [] fLd) _) _) _ = _
 rw [s1]
 cases A <;> cases last
 ·show Option.bind (Option.bind (fn115_l1 (stepR (fun (s : Bool × (List ByteArray)) (y1 : Form) => fn26_r1 300000 x y false s.1 s.2 y1)) goR [fLd, fMap] 299999 ((false, []), 0) 1) _) _ = _
  rw [fn115_l1_s, fn115_b1]
  show Option.bind (Option.bind (Option.bind (fn26_r1 300000 x y false false [] fMap) _) _) _ = _
  rw [s2]
  cases B <;> rfl
 ·show Option.bind (Option.bind (fn115_l1 (stepR (fun (s : Bool × (List ByteArray)) (y1 : Form) => fn26_r1 300000 x y true s.1 s.2 y1)) goR [fLd, fMap] 299999 ((false, []), 0) 1) _) _ = _
  rw [fn115_l1_s, fn115_b1]
  show Option.bind (Option.bind (Option.bind (fn26_r1 300000 x y true false [] fMap) _) _) _ = _
  rw [s2]
  cases B <;> rfl
 ·rfl
 ·show Option.bind (Option.bind (fn115_l1 (stepR (fun (s : Bool × (List ByteArray)) (y1 : Form) => fn26_r1 300000 x y true s.1 s.2 y1)) goR [fLd, fMap] 299999 ((false, []), 0) 1) _) _ = _
  rw [fn115_l1_s, fn115_b1]
  show Option.bind (Option.bind (Option.bind (fn26_r1 300000 x y true false [] fMap) _) _) _ = _
  rw [s2]
  cases B <;> rfl
end Go.Proofs.YtfjefnnbodgfbaaGreatDoor
namespace Go.Proofs.YtfjefnnbodgfbaaGreatDoor
open Go Go.HW
set_option linter.unusedVariables false
set_option maxRecDepth 100000
theorem join3 (a b c : ByteArray) (h : a.size ≤ 1000) (hb : b.size ≤ 1000) (hc : c.size ≤ 1000) : fn19 [a, b, c] sSp = some (a ++ ((sSp ++ b) ++ (sSp ++ c))) := by
 have hj : Lib.join ([a, b, c].map (·.data.toList)) sSp.data.toList = (a ++ ((sSp ++ b) ++ (sSp ++ c))).data.toList := by
  rw [List.map_cons, show sSp.data.toList = [32] from rfl, join_cons]
  simp only [ByteArray.data_append, Array.toList_append, List.map_cons, List.map_nil, List.flatMap_cons, List.flatMap_nil, List.append_nil, show sSp.data.toList = [32] from rfl]
  simp
 have e1 : sSp.size = 1 := rfl
 have hlen : (a ++ ((sSp ++ b) ++ (sSp ++ c))).data.toList.length ≤ 140737488355328 := by
  have : (a ++ ((sSp ++ b) ++ (sSp ++ c))).data.toList.length = (a ++ ((sSp ++ b) ++ (sSp ++ c))).size := by
   generalize (a ++ ((sSp ++ b) ++ (sSp ++ c))) = z; simp
  rw [this]; simp only [ByteArray.size_append]; omega
 unfold fn19
 rw [hj, decide_eq_true hlen]
 rfl
theorem rnum_size {n : Int} (h : I64 n) : (sR ++ num n).size ≤ 22 := by
 have := num_size h
 have e2 : sR.size = 1 := rfl
 rw [ByteArray.size_append]; omega
theorem two_ok {x y : Instr} (hx : Rng x) (hy : Rng y) : fn30 x y = some (
  bif decide (x.fOp = 24) && (decide (x.fSrc = 0 ∧ x.fOff = 0) && decide (y.fOp = 0 ∧ y.fDst = 0 ∧ y.fSrc = 0 ∧ y.fOff = 0)) then fLd.fname ++ ((sSp ++ (sR ++ num x.fDst)) ++ (sSp ++ num (wideP x y)))
  else bif decide (x.fOp = 24) && (decide (x.fSrc = 1 ∧ x.fOff = 0) && decide (y.fOp = 0 ∧ y.fDst = 0 ∧ y.fSrc = 0 ∧ y.fOff = 0 ∧ y.fImm = 0)) then fMap.fname ++ ((sSp ++ (sR ++ num x.fDst)) ++ (sSp ++ num x.fImm))
  else ⟨#[]⟩) := by
 obtain ⟨i1, i2, i3, i4, i5⟩ := hx.i64
 have hI : I64 (wideD x y) := by unfold wideD; exact wrapI64 _
 have s1 := num_size i1; have s2 := num_size hI; have s4 := num_size i4
 have e1 : sSp.size = 1 := rfl
 have e2 : sR.size = 1 := rfl
 have e3 : fLd.fname.size = 4 := rfl
 have e4 : fMap.fname.size = 5 := rfl
 rw [wide_eq hx hy]
 have hw : IntKind.i64.wrap (ior .u64 (IntKind.u64.wrap (IntKind.u32.wrap x.fImm)) (ishl .u64 (IntKind.u64.wrap (IntKind.u32.wrap y.fImm)) 32)) = wideD x y := rfl
 unfold fn30
 rw [hw, w64 i4, fn65_ok i1, fn66_ok hI, fn66_ok i4]
 simp only [Option.bind_some]
 have q1 : (⟨#[108, 100, 100, 119]⟩ : ByteArray) = fLd.fname := rfl
 have q2 : (⟨#[108, 100, 109, 97, 112]⟩ : ByteArray) = fMap.fname := rfl
 rw [q1, q2, decide_eq_true (show fLd.fname.size + (sSp ++ (sR ++ num x.fDst)).size ≤ 9223372036854775807 by simp only [ByteArray.size_append]; omega), decide_eq_true (show (fLd.fname ++ (sSp ++ (sR ++ num x.fDst))).size + (sSp ++ num (wideD x y)).size ≤ 9223372036854775807 by simp only [ByteArray.size_append]; omega),
  decide_eq_true (show fMap.fname.size + (sSp ++ (sR ++ num x.fDst)).size ≤ 9223372036854775807 by simp only [ByteArray.size_append]; omega), decide_eq_true (show (fMap.fname ++ (sSp ++ (sR ++ num x.fDst))).size + (sSp ++ num x.fImm).size ≤ 9223372036854775807 by simp only [ByteArray.size_append]; omega)]
 simp only [cond_true, ByteArray.append_assoc, beq_self_eq_true, Bool.true_and, Bool.and_true, Bool.decide_and, Bool.beq_eq_decide_eq]
 generalize decide (x.fOp = 24) = a; generalize decide (x.fOff = 0) = o; generalize decide (y.fOp = 0) = y1; generalize decide (y.fDst = 0) = y2; generalize decide (y.fSrc = 0) = y3; generalize decide (y.fOff = 0) = y4
 generalize decide (x.fSrc = 0) = s0; generalize decide (x.fSrc = 1) = t1; generalize decide (y.fImm = 0) = y5
 cases a <;> cases o <;> cases y1 <;> cases y2 <;> cases y3 <;> cases y4 <;> cases s0 <;> cases t1 <;> cases y5 <;> rfl
end Go.Proofs.YtfjefnnbodgfbaaGreatDoor
namespace Go.Proofs.YtfjefnnbodgfbaaGreatDoor
open Go Go.HW
set_option linter.unusedVariables false
set_option maxRecDepth 100000
theorem step_last {x y : Instr} (hx : Rng x) : ∃ ws s, fn26 300000 tabP.1 tabP.2 x y true = some (ws, false) ∧ fn31 300000 tabD x = some s ∧ fn19 ws sSp = some s := by
 by_cases h24 : x.fOp = 24
 ·obtain ⟨ws, s, h1, h2, h3⟩ := raw_case hx false []
  refine ⟨ws, s, ?_, by rw [one24 hx h24]; exact h2, h3⟩
  rw [prog24 hx h24]
  simp only [Bool.not_true, Bool.and_false, cond_false]; exact h1
 ·exact slot_ok hx h24
theorem step_two {x y : Instr} (hx : Rng x) (hy : Rng y) : ∃ ws s two, fn26 300000 tabP.1 tabP.2 x y false = some (ws, two) ∧ fn19 ws sSp = some s ∧
  ((two = true ∧ fn30 x y = some s ∧ 0 < s.size) ∨ (two = false ∧ fn30 x y = some ⟨#[]⟩ ∧ fn31 300000 tabD x = some s)) := by
 have ht := two_ok hx hy
 obtain ⟨i1, i2, i3, i4, i5⟩ := hx.i64
 have hI : I64 (wideP x y) := by rw [wide_eq hx hy]; unfold wideD; exact wrapI64 _
 by_cases h24 : x.fOp = 24
 ·have hp := prog24 (y := y) (last := false) hx h24
  rw [decide_eq_true h24, Bool.true_and, Bool.true_and] at ht
  simp only [Bool.not_false, Bool.and_true] at hp
  cases hA : (decide (x.fSrc = 0 ∧ x.fOff = 0) && decide (y.fOp = 0 ∧ y.fDst = 0 ∧ y.fSrc = 0 ∧ y.fOff = 0)) with
  | true =>
   rw [hA, cond_true] at ht hp
   have b1 := rnum_size i1
   have b2 := num_size hI
   refine ⟨_, _, true, hp, join3 _ _ _ (by decide) (by omega) (by omega), .inl ⟨rfl, ht, ?_⟩⟩
   have e : fLd.fname.size = 4 := rfl
   simp only [ByteArray.size_append]; omega
  | false =>
   rw [hA, cond_false] at ht hp
   cases hB : (decide (x.fSrc = 1 ∧ x.fOff = 0) && decide (y.fOp = 0 ∧ y.fDst = 0 ∧ y.fSrc = 0 ∧ y.fOff = 0 ∧ y.fImm = 0)) with
   | true =>
    rw [hB, cond_true] at ht hp
    have b1 := rnum_size i1
    have b2 := num_size i4
    refine ⟨_, _, true, hp, join3 _ _ _ (by decide) (by omega) (by omega), .inl ⟨rfl, ht, ?_⟩⟩
    have e : fMap.fname.size = 5 := rfl
    simp only [ByteArray.size_append]; omega
   | false =>
    rw [hB, cond_false] at ht hp
    obtain ⟨ws, s, h1, h2, h3⟩ := raw_case hx false []
    exact ⟨ws, s, false, by rw [hp]; exact h1, h3, .inr ⟨rfl, ht, by rw [one24 hx h24]; exact h2⟩⟩
 ·obtain ⟨ws, s, h1, h2, h3⟩ := slot_ok (y := y) (last := false) hx h24
  refine ⟨ws, s, false, h1, h3, .inr ⟨rfl, ?_, h2⟩⟩
  rw [ht, decide_eq_false h24]; rfl
end Go.Proofs.YtfjefnnbodgfbaaGreatDoor
namespace Go.Proofs.YtfjefnnbodgfbaaGreatDoor
open Go Go.HW
set_option linter.unusedVariables false
theorem odd_loop (p : List Instr) (hlen : p.length ≤ 100000) : ∀ (n i F : Nat), p.length - i = n → i ≤ p.length → n < F →
  fn46_l1 p F (i : Int) = match (p.drop i).find? fn23 with
   | some _ => some (.inr (i + ((p.drop i).findIdx fn23 : Nat) : Int))
   | none => some (.inl ()) := by
 intro n
 induction n with
 | zero =>
  intro i F hn hi hF
  obtain ⟨F, rfl⟩ : ∃ n, F = n + 1 := ⟨F - 1, by omega⟩
  rw [fn46_l1_s, fn46_b1, decide_eq_false (by omega), cond_false, List.drop_eq_nil_of_le (by omega)]; rfl
 | succ n ih =>
  intro i F hn hi hF
  obtain ⟨F, rfl⟩ : ∃ n, F = n + 1 := ⟨F - 1, by omega⟩
  have hlt : i < p.length := by omega
  have hin : inb (i : Int) p.length = true := by simp [inb]; omega
  have hget : gt p (i : Int) = p[i] := by simp [gt, hlt]
  have hw : IntKind.i64.wrap ((i : Int) + 1) = ((i + 1 : Nat) : Int) := by rw [w64 (by omega)]; omega
  rw [fn46_l1_s, fn46_b1, decide_eq_true (by omega), cond_true, hin, cond_true, hget, List.drop_eq_getElem_cons hlt, List.find?_cons, List.findIdx_cons, hw]
  cases hd : fn23 p[i] with
  | true => simp
  | false =>
   rw [cond_false, ih (i + 1) F (by omega) (by omega) (by omega)]
   cases (p.drop (i + 1)).find? fn23 with
   | none => rfl
   | some v => simp; omega
theorem odd_ok (p : List Instr) (hlen : p.length ≤ 100000) : fn24 300000 p = some (p.any fn23) := by
 have h := odd_loop p (by omega) p.length 0 300000 (by omega) (by omega) (by omega)
 rw [show ((0 : Nat) : Int) = 0 from rfl, List.drop_zero] at h
 unfold fn24 fn46
 rw [h]
 cases hf : p.find? fn23 with
 | none =>
  have : p.any fn23 = false := by
   rw [List.any_eq_false]
   intro x hx
   exact List.find?_eq_none.1 hf x hx
  rw [this]; rfl
 | some v =>
  have : p.any fn23 = true := List.any_eq_true.2 ⟨v, List.mem_of_find?_eq_some hf, List.find?_some hf⟩
  rw [this]
  show some (decide ((0 : Int) ≤ _)) = _
  rw [decide_eq_true (by omega)]
end Go.Proofs.YtfjefnnbodgfbaaGreatDoor
namespace Go.Proofs.YtfjefnnbodgfbaaGreatDoor
open Go Go.HW
set_option linter.unusedVariables false
set_option maxRecDepth 100000
theorem one_size {x : Instr} (hx : Rng x) {s : ByteArray} (h : fn31 300000 tabD x = some s) : s.size ≤ 120 := by
 obtain ⟨d1, d2⟩ := tabD_good
 have hd := doc_loop (F0 := 300000) (by omega) (x := x) (p := tabD) hx d1 (by omega) tabD.length 0 300000 (by omega) (by omega) (by omega)
 rw [show ((0 : Nat) : Int) = 0 from rfl, List.drop_zero] at hd
 unfold fn31 at h
 rw [hd] at h
 cases hf : tabD.find? (fun f => fitB x f.fwords f.fslot) with
 | some f =>
  rw [hf] at h
  have g := d1 f (List.mem_of_find?_eq_some hf)
  have h1 := sayL_size hx (lts f.fwords)
  have e : f.fname ++ sayL x (lts f.fwords) = s := Option.some.inj h
  have h2 := g.nm10; have h3 := g.len4
  rw [← e, ByteArray.size_append]; omega
 | none =>
  rw [hf] at h
  replace h : fn31_k1 x = some s := h
  rw [raw_ok hx] at h
  obtain ⟨i1, i2, i3, i4, i5⟩ := hx.i64
  have s1 := num_size i1; have s2 := num_size i2; have s3 := num_size i3; have s4 := num_size i4; have s5 := num_size i5
  have e1 : sSp.size = 1 := rfl
  have e2 : sR.size = 1 := rfl
  have e3 : (⟨#[115, 108, 111, 116]⟩ : ByteArray).size = 4 := rfl
  rw [← Option.some.inj h]
  simp only [ByteArray.size_append]; omega
theorem pair_size {x y : Instr} (hx : Rng x) (hy : Rng y) {s : ByteArray} (h : fn30 x y = some s) : s.size ≤ 120 := by
 rw [two_ok hx hy] at h
 obtain ⟨i1, i2, i3, i4, i5⟩ := hx.i64
 have hI : I64 (wideP x y) := by rw [wide_eq hx hy]; unfold wideD; exact wrapI64 _
 have s1 := num_size i1; have s2 := num_size hI; have s4 := num_size i4
 have e1 : sSp.size = 1 := rfl
 have e2 : sR.size = 1 := rfl
 have e3 : fLd.fname.size = 4 := rfl
 have e4 : fMap.fname.size = 5 := rfl
 rw [← Option.some.inj h]
 generalize (decide (x.fOp = 24) && (decide (x.fSrc = 0 ∧ x.fOff = 0) && decide (y.fOp = 0 ∧ y.fDst = 0 ∧ y.fSrc = 0 ∧ y.fOff = 0))) = a
 generalize (decide (x.fOp = 24) && (decide (x.fSrc = 1 ∧ x.fOff = 0) && decide (y.fOp = 0 ∧ y.fDst = 0 ∧ y.fSrc = 0 ∧ y.fOff = 0 ∧ y.fImm = 0))) = b
 cases a
 ·cases b
  ·exact Nat.zero_le _
  ·simp only [cond_false, cond_true, ByteArray.size_append]; omega
 ·simp only [cond_true, ByteArray.size_append]; omega
theorem cut1 (x : Instr) (r : List Instr) : cutX (x :: r) (1 : Int).toNat (((x :: r).length : Nat) : Int).toNat = r := by
 show ((x :: r).take _).drop 1 = r
 rw [Int.toNat_natCast, List.take_length]; rfl
theorem sl1 (x : Instr) (r : List Instr) : sliceOk (1 : Int) (((x :: r).length : Nat) : Int) (x :: r).length = true := sliceOk_iff.2 ⟨by omega, by simp only [List.length_cons]; omega, Int.le_refl _⟩
theorem wr_ok {b s : ByteArray} (hb : b.size ≤ 5000000) (hs : s.size ≤ 120) : fn27b b (s ++ (⟨#[10]⟩ : ByteArray)) = some (b ++ (s ++ (⟨#[10]⟩ : ByteArray)), ((s ++ (⟨#[10]⟩ : ByteArray)).size : Int)) := by
 have e : (s ++ (⟨#[10]⟩ : ByteArray)).size = s.size + 1 := by rw [ByteArray.size_append]; rfl
 have g : (decide (0 < (s ++ (⟨#[10]⟩ : ByteArray)).size) && appHyp 1 (bytesZ b).length (s ++ (⟨#[10]⟩ : ByteArray)).size) = true := by
  rw [e, bytesZ_len]; unfold appHyp
  rw [decide_eq_true (by omega), decide_eq_true (by omega)]; rfl
 unfold fn27b
 rw [g]; rfl
theorem prog_one {x : Instr} {ws : List ByteArray} {s b : ByteArray} {rl : ByteArray → List Instr → Option ByteArray}
  (h1 : fn26 300000 tabP.1 tabP.2 x ⟨0, 0, 0, 0, 0⟩ true = some (ws, false)) (h2 : fn19 ws sSp = some s) (hs : s.size ≤ 120) (hb : b.size ≤ 5000000) :
  fn12_b1 300000 tabP rl b [x] = rl (b ++ (s ++ (⟨#[10]⟩ : ByteArray))) [] := by
 have h2' : fn19 ws (⟨#[32]⟩ : ByteArray) = some s := h2
 have g1 : decide ((0 : Int) < (([x] : List Instr).length : Int)) = true := rfl
 have g2 : decide ((1 : Int) < (([x] : List Instr).length : Int)) = false := rfl
 have g3 : inb 0 ([x] : List Instr).length = true := rfl
 have g4 : gt [x] 0 = x := rfl
 have g5 : ((([x] : List Instr).length : Int) == 1) = true := rfl
 have g6 : decide (s.size + (⟨#[10]⟩ : ByteArray).size ≤ 9223372036854775807) = true := decide_eq_true (by have : (⟨#[10]⟩ : ByteArray).size = 1 := rfl; omega)
 rw [fn12_b1, g1, cond_true, g2, cond_false, g3, cond_true, g4, g5, h1, Option.bind_some]
 show Option.bind (fn19 ws (⟨#[32]⟩ : ByteArray)) _ = _
 rw [h2', Option.bind_some, g6, cond_true, wr_ok hb hs, Option.bind_some, sl1 x [], cond_true, cut1 x []]
 rfl
theorem prog_two {x y : Instr} {r : List Instr} {ws : List ByteArray} {two : Bool} {s b : ByteArray} {rl : ByteArray → List Instr → Option ByteArray}
  (h1 : fn26 300000 tabP.1 tabP.2 x y false = some (ws, two)) (h2 : fn19 ws sSp = some s) (hs : s.size ≤ 120) (hb : b.size ≤ 5000000) :
  fn12_b1 300000 tabP rl b (x :: y :: r) = rl (b ++ (s ++ (⟨#[10]⟩ : ByteArray))) (bif two then r else y :: r) := by
 have h2' : fn19 ws (⟨#[32]⟩ : ByteArray) = some s := h2
 have hl : (x :: y :: r).length = r.length + 2 := rfl
 have g1 : decide ((0 : Int) < ((x :: y :: r).length : Int)) = true := decide_eq_true (by rw [hl]; omega)
 have g2 : decide ((1 : Int) < ((x :: y :: r).length : Int)) = true := decide_eq_true (by rw [hl]; omega)
 have g3 : inb 0 (x :: y :: r).length = true := inb_iff.2 ⟨by omega, by rw [hl]; omega⟩
 have g3' : inb 1 (x :: y :: r).length = true := inb_iff.2 ⟨by omega, by rw [hl]; omega⟩
 have g4 : gt (x :: y :: r) 0 = x := rfl
 have g4' : gt (x :: y :: r) 1 = y := rfl
 have g5 : (((x :: y :: r).length : Int) == 1) = false := by rw [Bool.eq_false_iff]; intro h; have := eq_of_beq h; rw [hl] at this; omega
 have g6 : decide (s.size + (⟨#[10]⟩ : ByteArray).size ≤ 9223372036854775807) = true := decide_eq_true (by have : (⟨#[10]⟩ : ByteArray).size = 1 := rfl; omega)
 rw [fn12_b1, g1, cond_true, g2, cond_true, g3', cond_true, g3, cond_true, g4, g4', g5, h1, Option.bind_some]
 show Option.bind (fn19 ws (⟨#[32]⟩ : ByteArray)) _ = _
 rw [h2', Option.bind_some, g6, cond_true, wr_ok hb hs, Option.bind_some, sl1 x (y :: r), cond_true, cut1 x (y :: r)]
 cases two with
 | false => rfl
 | true =>
  show (bif sliceOk (1 : Int) (((y :: r).length : Nat) : Int) (y :: r).length then rl _ (cutX (y :: r) (1 : Int).toNat (((y :: r).length : Nat) : Int).toNat) else none) = _
  rw [sl1 y r, cond_true, cut1 y r]; rfl
end Go.Proofs.YtfjefnnbodgfbaaGreatDoor
namespace Go.Proofs.YtfjefnnbodgfbaaGreatDoor
open Go Go.HW
set_option linter.unusedVariables false
set_option maxRecDepth 100000
theorem sz_line (b s : ByteArray) : (b ++ (s ++ (⟨#[10]⟩ : ByteArray))).size = b.size + s.size + 1 := by
 rw [ByteArray.size_append, ByteArray.size_append]; show _ + (_ + 1) = _; omega
end Go.Proofs.YtfjefnnbodgfbaaGreatDoor
namespace Go.Proofs.YtfjefnnbodgfbaaGreatDoor
open Go Go.HW
set_option linter.unusedVariables false
set_option maxRecDepth 100000
theorem spl_no {c : UInt8} : ∀ {a : List UInt8}, c ∉ a → spl c a = [a]
 | [], _ => rfl
 | b :: a, h => by
  have hb : (b == c) = false := beq_eq_false_iff_ne.2 fun e => h (by rw [e]; simp)
  rw [spl, hb, cond_false, spl_no fun e => h (List.mem_cons_of_mem _ e)]
theorem spl_cut {c : UInt8} {a b : List UInt8} (h : c ∉ a) : spl c (a ++ c :: b) = a :: spl c b := by
 rw [spl_app, spl_no h]; rfl
theorem itoa_ch (z : Int) : ∀ b ∈ Lib.itoa z, isD b = true ∨ b = 45 := by
 intro b hb
 rcases Int.lt_or_le z 0 with h | h
 ·obtain ⟨u, rfl⟩ : ∃ u : Nat, z = -(u : Int) := ⟨z.natAbs, by omega⟩
  obtain ⟨b', l, e, h1, _⟩ := dec_shape u
  rw [Lib.itoa_neg u (by omega), e] at hb
  rcases List.mem_cons.1 hb with rfl | hb
  ·exact .inr rfl
  ·exact .inl (List.all_eq_true.1 h1 _ hb)
 ·obtain ⟨u, rfl⟩ : ∃ u : Nat, z = (u : Int) := ⟨z.toNat, by omega⟩
  obtain ⟨b', l, e, h1, _⟩ := dec_shape u
  rw [Lib.itoa_nonneg, e] at hb
  exact .inl (List.all_eq_true.1 h1 _ hb)
theorem isD_32 : isD 32 = false := by decide
theorem isD_10 : isD 10 = false := by decide
theorem isD_114 : isD 114 = false := by decide
theorem num_bL {n : Int} (h : I64 n) : bL (num n) = Lib.itoa n := by
 unfold num
 rw [bL_mk, itoaL_eq n h.1 h.2]
theorem num_no {n : Int} {c : UInt8} (h : I64 n) (h1 : isD c = false) (h2 : c ≠ 45) : c ∉ bL (num n) := by
 rw [num_bL h]
 intro hc
 rcases itoa_ch n c hc with e | e
 ·rw [h1] at e; cases e
 ·exact h2 e
theorem num_read {n lo hi : Int} (h : I64 n) (h1 : lo ≤ n) (h2 : n ≤ hi) : numR lo hi (bL (num n)) = some n := by
 rw [num_bL h]
 unfold numR
 rw [cz_itoa]
 show (bif inR lo hi n then some n else none) = _
 unfold inR
 rw [decide_eq_true h1, decide_eq_true h2]; rfl
theorem reg_bL {n : Int} (h : I64 n) : bL (sR ++ num n) = 114 :: bL (num n) := by rw [bL_app]; rfl
theorem reg_read {n : Int} (h1 : 0 ≤ n) (h2 : n ≤ 15) : regP (bL (sR ++ num n)) = some n := by
 have h : I64 n := ⟨by omega, by omega⟩
 rw [reg_bL h, regP, beq_self_eq_true, cond_true, num_read h h1 h2]
theorem reg_no {n : Int} (h : I64 n) : regP (bL (num n)) = none := by
 have hn := num_no (c := 114) h isD_114 (by decide)
 cases hl : bL (num n) with
 | nil => rfl
 | cons b l =>
  have : (b == 114) = false := beq_eq_false_iff_ne.2 fun e => hn (by rw [hl, e]; simp)
  rw [regP, this]; rfl
theorem num_nr {n lo hi : Int} (h : I64 n) : numR lo hi (bL (sR ++ num n)) = none := by
 have : cz (114 :: bL (num n)) = none := by
  rw [cz_cons, show ((114 : UInt8) == 45) = false from by decide, cond_false, goodD_cons, List.all_cons, isD_114]; rfl
 rw [reg_bL h]
 unfold numR
 rw [this]
def fld (x : Instr) (c : Int) : Int := bif c == 68 then x.fDst else bif c == 83 then x.fSrc else bif c == 73 then x.fImm else x.fOff
structure Evn (x : Instr) : Prop where
 r : Rng x
 d : x.fDst ≤ 15
 s : x.fSrc ≤ 15
theorem part_ok {x : Instr} (hx : Evn x) {c : Nat} (hc : okLetter c) : partW (c : Int) (word x (c : Int)) = some (fld x (c : Int)) := by
 have hd := hx.r.dst; have hs := hx.r.src; have ho := hx.r.off; have hm := hx.r.imm
 have := hx.d; have := hx.s
 obtain ⟨i1, i2, i3, i4, i5⟩ := hx.r.i64
 rcases hc with rfl | rfl | rfl | rfl
 ·exact reg_read (by omega) (by omega)
 ·exact reg_read (by omega) (by omega)
 ·exact num_read i4 (by omega) (by omega)
 ·exact num_read i3 (by omega) (by omega)
theorem word_no {x : Instr} (hx : Rng x) {c : Nat} (hc : okLetter c) {b : UInt8} (h1 : isD b = false) (h2 : b ≠ 45) (h3 : b ≠ 114) : b ∉ bL (word x (c : Int)) := by
 obtain ⟨i1, i2, i3, i4, i5⟩ := hx.i64
 rcases hc with rfl | rfl | rfl | rfl
 ·show b ∉ bL (sR ++ num x.fDst)
  rw [reg_bL i1]; intro h
  rcases List.mem_cons.1 h with h | h
  ·exact h3 h
  ·exact num_no i1 h1 h2 h
 ·show b ∉ bL (sR ++ num x.fSrc)
  rw [reg_bL i2]; intro h
  rcases List.mem_cons.1 h with h | h
  ·exact h3 h
  ·exact num_no i2 h1 h2 h
 ·exact num_no i4 h1 h2
 ·exact num_no i3 h1 h2
def wds (x : Instr) (l : List Nat) : List ByteArray := l.map fun c : Nat => word x (c : Int)
def cpy (x : Instr) : Instr → List Nat → Instr
 | y, [] => y
 | y, c :: l => cpy x (setC y (c : Int) (fld x (c : Int))) l
theorem fill_wds {x : Instr} (hx : Evn x) : ∀ (l : List Nat) (y : Instr), (∀ c ∈ l, okLetter c) → fillS y l (wds x l) = some (cpy x y l)
 | [], y, _ => rfl
 | c :: l, y, h => by
  show fillS y (c :: l) (word x (c : Int) :: wds x l) = _
  rw [fillS, part_ok hx (h c (by simp))]
  exact fill_wds hx l _ fun d hd => h d (by simp [hd])
theorem fld_set (y : Instr) {c d : Nat} (hc : okLetter c) (hd : okLetter d) (v : Int) : fld (setC y (c : Int) v) (d : Int) = bif Nat.beq c d then v else fld y (d : Int) := by
 rcases hc with rfl | rfl | rfl | rfl <;> rcases hd with rfl | rfl | rfl | rfl <;> rfl
theorem fld_clr (y : Instr) {c d : Nat} (hc : okLetter c) (hd : okLetter d) (h : c ≠ d) : fld (clr y (c : Int)) (d : Int) = fld y (d : Int) := by
 rcases hc with rfl | rfl | rfl | rfl <;> rcases hd with rfl | rfl | rfl | rfl <;> first | exact absurd rfl h | rfl
theorem cpy_ok {x : Instr} : ∀ (l : List Nat) (y : Instr), (∀ c ∈ l, okLetter c) → (∀ d, okLetter d → d ∉ l → fld y (d : Int) = fld x (d : Int)) → y.fOp = x.fOp → cpy x y l = x
 | [], y, _, h, ho => by
  have h1 : y.fDst = x.fDst := h 68 (.inl rfl) (by simp)
  have h2 : y.fSrc = x.fSrc := h 83 (.inr (.inl rfl)) (by simp)
  have h3 : y.fImm = x.fImm := h 73 (.inr (.inr (.inl rfl))) (by simp)
  have h4 : y.fOff = x.fOff := h 79 (.inr (.inr (.inr rfl))) (by simp)
  show y = x
  obtain ⟨y1, y2, y3, y4, y5⟩ := y
  obtain ⟨x1, x2, x3, x4, x5⟩ := x
  simp only at h1 h2 h3 h4 ho
  rw [h1, h2, h3, h4, ho]
 | c :: l, y, hk, h, ho => by
  refine cpy_ok l _ (fun d hd => hk d (by simp [hd])) (fun d hd hn => ?_) (by rw [setC_op]; exact ho)
  rw [fld_set y (hk c (by simp)) hd]
  cases hb : Nat.beq c d with
  | true => rw [Nat.eq_of_beq_eq_true hb]; rfl
  | false =>
   rw [cond_false]
   refine h d hd fun hm => ?_
   rcases List.mem_cons.1 hm with e | e
   ·rw [e, Nat.beq_refl] at hb; cases hb
   ·exact hn e
theorem fld_clrs {x : Instr} : ∀ (l : List Nat) (y : Instr), (∀ c ∈ l, okLetter c) → ∀ d, okLetter d → d ∉ l → fld (clrs y l) (d : Int) = fld y (d : Int)
 | [], y, _, d, _, _ => rfl
 | c :: l, y, hk, d, hd, hn => by
  rw [clrs, fld_clrs (x := x) l _ (fun d hd => hk d (by simp [hd])) d hd fun e => hn (by simp [e])]
  exact fld_clr y (hk c (by simp)) hd fun e => hn (by simp [e])
theorem fit_fill {x : Instr} (hx : Evn x) {w : ByteArray} {s : Instr} (hk : ∀ c ∈ lts w, okLetter c) (h : fitB x w s = true) : fillS s (lts w) (wds x (lts w)) = some x := by
 unfold fitB at h
 have h := of_decide_eq_true h
 rw [fill_wds hx _ _ hk, ← h, cpy_ok (lts w) _ hk (fun d hd hn => fld_clrs (x := x) _ _ hk d hd hn) (clrs_op _ _)]
def kd (c : Nat) : Bool := c == 68 || c == 83
def apartB : List Nat → List Nat → Bool
 | [], [] => false
 | c :: l, d :: m => (kd c != kd d) || apartB l m
 | [], _ :: _ => true
 | _ :: _, [] => true
theorem part_no {x : Instr} (hx : Rng x) {c d : Nat} (hc : okLetter c) (hd : okLetter d) (h : (kd c != kd d) = true) : partW (c : Int) (word x (d : Int)) = none := by
 obtain ⟨i1, i2, i3, i4, i5⟩ := hx.i64
 rcases hc with rfl | rfl | rfl | rfl <;> rcases hd with rfl | rfl | rfl | rfl <;> first
  | exact absurd h (by decide)
  | exact reg_no i4
  | exact reg_no i3
  | exact num_nr (lo := -2147483648) (hi := 2147483647) i1
  | exact num_nr (lo := -2147483648) (hi := 2147483647) i2
  | exact num_nr (lo := -32768) (hi := 32767) i1
  | exact num_nr (lo := -32768) (hi := 32767) i2
theorem fill_no {x : Instr} (hx : Rng x) : ∀ (l m : List Nat) (y : Instr), (∀ c ∈ l, okLetter c) → (∀ c ∈ m, okLetter c) → apartB l m = true → fillS y l (wds x m) = none
 | [], [], y, _, _, h => by cases h
 | [], d :: m, y, _, _, _ => fill_nil _ _ _ (by simp [wds])
 | c :: l, [], y, _, _, _ => fill_nil _ _ _ (by simp [wds])
 | c :: l, d :: m, y, hl, hm, h => by
  show fillS y (c :: l) (word x (d : Int) :: wds x m) = none
  rw [fillS]
  cases hp : partW (c : Int) (word x (d : Int)) with
  | none => rfl
  | some v =>
   rw [apartB] at h
   rcases Bool.or_eq_true_iff.1 h with h1 | h1
   ·rw [part_no hx (hl c (by simp)) (hm d (by simp)) h1] at hp; cases hp
   ·exact fill_no hx l m _ (fun d hd => hl d (by simp [hd])) (fun d hd => hm d (by simp [hd])) h1
def chkA : List RForm → Bool
 | [] => true
 | f :: p => p.all (fun g => !decide (f.fname = g.fname) || apartB (lts f.fwords) (lts g.fwords)) && chkA p
theorem chkA_ok : chkA tabD = true := by decide +kernel
theorem find_first {x : Instr} (hx : Rng x) {f : RForm} (h : fl (wds x (lts f.fwords)) f = some x) (hfo : ∀ c ∈ lts f.fwords, okLetter c) : ∀ p : List RForm, chkA p = true → (∀ g ∈ p, ∀ c ∈ lts g.fwords, okLetter c) → f ∈ p → p.findSome? (flN f.fname (wds x (lts f.fwords))) = some x
 | [], _, _, hm => absurd hm (by simp)
 | g :: p, hc, hk, hm => by
  rw [chkA, Bool.and_eq_true] at hc
  rw [List.findSome?_cons]
  rcases List.mem_cons.1 hm with e | e
  ·subst e
   unfold flN
   rw [decide_eq_true rfl, cond_true, h]
  ·have hg := List.all_eq_true.1 hc.1 f e
   have hn : flN f.fname (wds x (lts f.fwords)) g = none := by
    unfold flN
    by_cases hname : g.fname = f.fname
    ·rw [decide_eq_true hname, Bool.not_true, Bool.false_or] at hg
     rw [decide_eq_true hname, cond_true]
     exact fill_no hx _ _ _ (hk g (by simp)) hfo hg
    ·rw [decide_eq_false hname, cond_false]
   rw [hn]
   exact find_first hx h hfo p hc.2 (fun g hg => hk g (by simp [hg])) e
theorem say_spl {x : Instr} (hx : Rng x) : ∀ (l : List Nat) (a : List UInt8), (∀ c ∈ l, okLetter c) → 32 ∉ a → spl 32 (a ++ bL (sayL x l)) = a :: (wds x l).map bL
 | [], a, _, ha => by rw [sayL, show bL (⟨#[]⟩ : ByteArray) = [] from rfl, List.append_nil, spl_no ha]; rfl
 | c :: l, a, hk, ha => by
  have hw := word_no hx (hk c (by simp)) (b := 32) isD_32 (by decide) (by decide)
  rw [sayL, bL_app, bL_app, show bL sSp = [32] from rfl, List.append_assoc, List.singleton_append, spl_cut ha, say_spl hx l _ (fun d hd => hk d (by simp [hd])) hw]
  rfl
theorem say_no {x : Instr} (hx : Rng x) : ∀ (l : List Nat), (∀ c ∈ l, okLetter c) → 10 ∉ bL (sayL x l)
 | [], _ => by rw [sayL, show bL (⟨#[]⟩ : ByteArray) = [] from rfl]; simp
 | c :: l, hk => by
  have hw := word_no hx (hk c (by simp)) (b := 10) isD_10 (by decide) (by decide)
  have ih := say_no hx l fun d hd => hk d (by simp [hd])
  rw [sayL, bL_app, bL_app, show bL sSp = [32] from rfl]
  intro h
  rcases List.mem_append.1 h with h | h
  ·rcases List.mem_append.1 h with h | h
   ·simp at h
   ·exact hw h
  ·exact ih h
theorem parts_say {x : Instr} (hx : Rng x) {l : List Nat} (hk : ∀ c ∈ l, okLetter c) {n : ByteArray} (hn : 32 ∉ bL n) : parts 32 (n ++ sayL x l) = n :: wds x l := by
 unfold parts
 rw [bL_app, say_spl hx l _ hk hn, List.map_cons, mkB_bL, List.map_map]
 congr 1
 exact List.map_id'' (fun s => mkB_bL s) _
end Go.Proofs.YtfjefnnbodgfbaaGreatDoor
namespace Go.Proofs.YtfjefnnbodgfbaaGreatDoor
open Go Go.HW
set_option linter.unusedVariables false
set_option maxRecDepth 100000
def nmB (f : RForm) : Bool := !(bL f.fname).contains 32 && !(bL f.fname).contains 10 && !(f.fname.size == 0) && !decide (f.fname = nSlot) && !decide (f.fname = nLd) && !decide (f.fname = nMap)
theorem nm_ok : tabD.all nmB = true := by decide +kernel
structure Ln (s : ByteArray) (l : List Instr) : Prop where
 ne : decide (s = bE) = false
 no : 10 ∉ bL s
 rd : lineS (parts 32 s) = some l
theorem ne_E {s : ByteArray} (h : 0 < s.size) : decide (s = bE) = false := decide_eq_false fun e => by rw [e] at h; exact absurd h (by decide)
theorem okRaw : ∀ c ∈ [68, 83, 79, 73], okLetter c := by
 intro c hc
 simp only [List.mem_cons, List.not_mem_nil, or_false] at hc
 unfold okLetter; omega
theorem line_form {x : Instr} (hx : Evn x) {f : RForm} (hf : f ∈ tabD) (hfit : fitB x f.fwords f.fslot = true) : Ln (f.fname ++ sayL x (lts f.fwords)) [x] := by
 obtain ⟨tg, _⟩ := tabD_good
 have g := tg f hf
 have hn := List.all_eq_true.1 nm_ok f hf
 simp only [nmB, Bool.and_eq_true, Bool.not_eq_true', beq_eq_false_iff_ne, List.contains_eq_mem, decide_eq_false_iff_not] at hn
 obtain ⟨⟨⟨⟨⟨n1, n2⟩, n3⟩, n4⟩, n5⟩, n6⟩ := hn
 refine ⟨ne_E (by rw [ByteArray.size_append]; omega), ?_, ?_⟩
 ·rw [bL_app]; intro h
  rcases List.mem_append.1 h with h | h
  ·exact n2 h
  ·exact say_no hx.r _ g.ok h
 ·rw [parts_say hx.r g.ok n1, lineS, decide_eq_false n4, decide_eq_false n5, decide_eq_false n6, cond_false, cond_false, cond_false, othS_d,
   find_first hx.r (f := f) (fit_fill hx g.ok hfit) g.ok tabD chkA_ok (fun g hg => (tg g hg).ok) hf]
  rfl
def rawS (x : Instr) : ByteArray := (nSlot ++ (sSp ++ num x.fOp)) ++ sayL x [68, 83, 79, 73]
theorem raw_eq (x : Instr) : (((((⟨#[115, 108, 111, 116]⟩ : ByteArray) ++ (sSp ++ num x.fOp)) ++ (sSp ++ (sR ++ num x.fDst))) ++ (sSp ++ (sR ++ num x.fSrc))) ++ (sSp ++ num x.fOff)) ++ (sSp ++ num x.fImm) = rawS x := by
 have e0 : ∀ a : ByteArray, a ++ (⟨#[]⟩ : ByteArray) = a := fun a => by apply ByteArray.ext; simp
 have e : sayL x [68, 83, 79, 73] = (sSp ++ (sR ++ num x.fDst)) ++ ((sSp ++ (sR ++ num x.fSrc)) ++ ((sSp ++ num x.fOff) ++ ((sSp ++ num x.fImm) ++ ⟨#[]⟩))) := rfl
 unfold rawS
 rw [e, e0, show (⟨#[115, 108, 111, 116]⟩ : ByteArray) = nSlot from rfl]
 generalize num x.fDst = a1; generalize num x.fSrc = a2; generalize num x.fOff = a3; generalize num x.fImm = a4; generalize num x.fOp = a5
 simp only [ByteArray.append_assoc]
theorem line_raw {x : Instr} (hx : Evn x) : Ln (rawS x) [x] := by
 obtain ⟨i1, i2, i3, i4, i5⟩ := hx.r.i64
 have ho := hx.r.op
 have k1 : (32 : UInt8) ∉ bL nSlot := by decide
 have k2 : (10 : UInt8) ∉ bL nSlot := by decide
 have k3 := num_no i5 (c := 32) isD_32 (by decide)
 have k4 := num_no i5 (c := 10) isD_10 (by decide)
 have ez : nSlot.size = 4 := rfl
 have eb : bL (nSlot ++ (sSp ++ num x.fOp)) = bL nSlot ++ 32 :: bL (num x.fOp) := by rw [bL_app, bL_app]; rfl
 refine ⟨ne_E (by unfold rawS; rw [ByteArray.size_append, ByteArray.size_append]; omega), ?_, ?_⟩
 ·unfold rawS
  rw [bL_app, eb]; intro h
  rcases List.mem_append.1 h with h | h
  ·rcases List.mem_append.1 h with h | h
   ·exact k2 h
   ·rcases List.mem_cons.1 h with h | h
    ·exact absurd h (by decide)
    ·exact k4 h
  ·exact say_no hx.r _ okRaw h
 ·have hp : parts 32 (rawS x) = nSlot :: num x.fOp :: wds x [68, 83, 79, 73] := by
   unfold parts rawS
   rw [bL_app, eb, List.append_assoc, List.cons_append, spl_cut k1, say_spl hx.r _ _ okRaw k3, List.map_cons, List.map_cons, mkB_bL, mkB_bL, List.map_map]
   congr 2
  have hf : fillS ⟨x.fOp, 0, 0, 0, 0⟩ [68, 83, 79, 73] (wds x [68, 83, 79, 73]) = some x := by
   rw [fill_wds hx _ _ okRaw]; rfl
  rw [hp, lineS, decide_eq_true rfl, cond_true, slotS, num_read i5 (by omega) (by omega)]
  show (match fillS ⟨x.fOp, 0, 0, 0, 0⟩ [68, 83, 79, 73] (wds x [68, 83, 79, 73]) with | some y => some [y] | none => none) = _
  rw [hf]
theorem line_one {x : Instr} (hx : Evn x) {s : ByteArray} (h : fn31 300000 tabD x = some s) : Ln s [x] := by
 obtain ⟨d1, d2⟩ := tabD_good
 have hd := doc_loop (F0 := 300000) (by omega) (x := x) (p := tabD) hx.r d1 (by omega) tabD.length 0 300000 (by omega) (by omega) (by omega)
 rw [show ((0 : Nat) : Int) = 0 from rfl, List.drop_zero] at hd
 unfold fn31 at h
 rw [hd] at h
 cases hf : tabD.find? (fun f => fitB x f.fwords f.fslot) with
 | some f =>
  rw [hf] at h
  have e : f.fname ++ sayL x (lts f.fwords) = s := Option.some.inj h
  rw [← e]
  exact line_form hx (List.mem_of_find?_eq_some hf) (List.find?_some (p := fun f : RForm => fitB x f.fwords f.fslot) hf)
 | none =>
  rw [hf] at h
  replace h : fn31_k1 x = some s := h
  rw [raw_ok hx.r, raw_eq] at h
  rw [← Option.some.inj h]
  exact line_raw hx
theorem wide_val {x y : Instr} (hx : Rng x) (hy : Rng y) : wideP x y = y.fImm * 4294967296 + x.fImm % 4294967296 := by
 have h1 := hx.imm
 have h2 := hy.imm
 unfold wideP ior ishl
 have e1 : min (32 : Int).toNat IntKind.i64.bits = 32 := rfl
 rw [e1, show (2 : Int) ^ 32 = 4294967296 from rfl]
 show IntKind.i64.wrap (((BitVec.ofInt 64 _ ||| BitVec.ofInt 64 _ : BitVec 64).toNat : Int)) = _
 obtain ⟨a, ha⟩ : ∃ a : Nat, y.fImm % 4294967296 = (a : Int) := ⟨(y.fImm % 4294967296).toNat, by omega⟩
 obtain ⟨b, hb⟩ : ∃ b : Nat, x.fImm % 4294967296 = (b : Int) := ⟨(x.fImm % 4294967296).toNat, by omega⟩
 have k1 : (BitVec.ofInt 64 (IntKind.i64.wrap (IntKind.i64.wrap y.fImm * 4294967296))).toNat = 2 ^ 32 * a := by
  rw [BitVec.toNat_ofInt, IntKind.wrap_i64, IntKind.wrap_i64, show ((2 ^ 64 : Nat) : Int) = 18446744073709551616 from rfl]; omega
 have k2 : (BitVec.ofInt 64 (IntKind.i64.wrap (IntKind.u32.wrap x.fImm))).toNat = b := by
  rw [BitVec.toNat_ofInt, IntKind.wrap_i64, IntKind.wrap_u32, show ((2 ^ 64 : Nat) : Int) = 18446744073709551616 from rfl]; omega
 rw [BitVec.toNat_or, k1, k2, ← Nat.two_pow_add_eq_or_of_lt (by omega : b < 2 ^ 32), IntKind.wrap_i64]
 omega
theorem wide_hi {x y : Instr} (hx : Rng x) (hy : Rng y) : IntKind.i32.wrap (ishr .i64 (wideP x y) 32) = y.fImm := by
 have h1 := hx.imm
 have h2 := hy.imm
 rw [wide_val hx hy]
 unfold ishr
 rw [show (2 : Int) ^ (min (32 : Int).toNat IntKind.i64.bits) = 4294967296 from rfl, Int.fdiv_eq_ediv_of_nonneg _ (by decide), IntKind.wrap_i32]
 omega
theorem wide_lo {x y : Instr} (hx : Rng x) (hy : Rng y) : IntKind.i32.wrap (wideP x y) = x.fImm := by
 have h1 := hx.imm
 rw [wide_val hx hy, IntKind.wrap_i32]
 omega
theorem two_parts {n a b : ByteArray} (h1 : 32 ∉ bL n) (h2 : 32 ∉ bL a) (h3 : 32 ∉ bL b) : parts 32 (n ++ ((sSp ++ a) ++ (sSp ++ b))) = [n, a, b] := by
 unfold parts
 have e : bL (n ++ ((sSp ++ a) ++ (sSp ++ b))) = bL n ++ 32 :: (bL a ++ 32 :: bL b) := by
  rw [bL_app, bL_app, bL_app, bL_app, show bL sSp = [32] from rfl]; simp
 rw [e, spl_cut h1, spl_cut h2, spl_no h3, List.map_cons, List.map_cons, List.map_cons, List.map_nil, mkB_bL, mkB_bL, mkB_bL]
theorem two_no {n a b : ByteArray} (h1 : 10 ∉ bL n) (h2 : 10 ∉ bL a) (h3 : 10 ∉ bL b) : 10 ∉ bL (n ++ ((sSp ++ a) ++ (sSp ++ b))) := by
 have e : bL (n ++ ((sSp ++ a) ++ (sSp ++ b))) = bL n ++ 32 :: (bL a ++ 32 :: bL b) := by
  rw [bL_app, bL_app, bL_app, bL_app, show bL sSp = [32] from rfl]; simp
 rw [e]; intro h
 rcases List.mem_append.1 h with h | h
 ·exact h1 h
 ·rcases List.mem_cons.1 h with h | h
  ·exact absurd h (by decide)
  ·rcases List.mem_append.1 h with h | h
   ·exact h2 h
   ·rcases List.mem_cons.1 h with h | h
    ·exact absurd h (by decide)
    ·exact h3 h
theorem rnum_no {n : Int} {c : UInt8} (h : I64 n) (h1 : isD c = false) (h2 : c ≠ 45) (h3 : c ≠ 114) : c ∉ bL (sR ++ num n) := by
 rw [reg_bL h]; intro hc
 rcases List.mem_cons.1 hc with hc | hc
 ·exact h3 hc
 ·exact num_no h h1 h2 hc
theorem line_two {x y : Instr} (hx : Evn x) (hy : Rng y) {s : ByteArray} (h : fn30 x y = some s) (hs : 0 < s.size) : Ln s [x, y] := by
 obtain ⟨i1, i2, i3, i4, i5⟩ := hx.r.i64
 have hI : I64 (wideP x y) := by rw [wide_eq hx.r hy]; unfold wideD; exact wrapI64 _
 have hd := hx.r.dst; have hd2 := hx.d; have hm := hx.r.imm
 rw [two_ok hx.r hy] at h
 have h := Option.some.inj h
 cases hA : (decide (x.fOp = 24) && (decide (x.fSrc = 0 ∧ x.fOff = 0) && decide (y.fOp = 0 ∧ y.fDst = 0 ∧ y.fSrc = 0 ∧ y.fOff = 0))) with
 | true =>
  rw [hA, cond_true] at h
  simp only [Bool.and_eq_true, decide_eq_true_eq] at hA
  obtain ⟨o1, ⟨o2, o3⟩, o4, o5, o6, o7⟩ := hA
  refine ⟨ne_E hs, ?_, ?_⟩
  ·rw [← h]; exact two_no (by decide) (rnum_no i1 isD_10 (by decide) (by decide)) (num_no hI isD_10 (by decide))
  ·rw [← h, two_parts (by decide) (rnum_no i1 isD_32 (by decide) (by decide)) (num_no hI isD_32 (by decide)), lineS, show decide (fLd.fname = nSlot) = false by decide, show decide (fLd.fname = nLd) = true by decide, cond_false, cond_true, ldS, reg_read (by omega) (by omega)]
   show (match numR (-9223372036854775808) 9223372036854775807 (bL (num (wideP x y))) with | some v => some [⟨24, x.fDst, 0, 0, IntKind.i32.wrap v⟩, ⟨0, 0, 0, 0, IntKind.i32.wrap (ishr .i64 v 32)⟩] | none => none) = some [x, y]
   rw [num_read hI hI.1 hI.2]
   show some [(⟨24, x.fDst, 0, 0, IntKind.i32.wrap (wideP x y)⟩ : Instr), ⟨0, 0, 0, 0, IntKind.i32.wrap (ishr .i64 (wideP x y) 32)⟩] = _
   rw [wide_hi hx.r hy, wide_lo hx.r hy]
   obtain ⟨y1, y2, y3, y4, y5⟩ := y
   obtain ⟨x1, x2, x3, x4, x5⟩ := x
   simp only at o1 o2 o3 o4 o5 o6 o7
   rw [o1, o2, o3, o4, o5, o6, o7]
 | false =>
  rw [hA, cond_false] at h
  cases hB : (decide (x.fOp = 24) && (decide (x.fSrc = 1 ∧ x.fOff = 0) && decide (y.fOp = 0 ∧ y.fDst = 0 ∧ y.fSrc = 0 ∧ y.fOff = 0 ∧ y.fImm = 0))) with
  | false => rw [hB, cond_false] at h; rw [← h] at hs; exact absurd hs (by decide)
  | true =>
   rw [hB, cond_true] at h
   simp only [Bool.and_eq_true, decide_eq_true_eq] at hB
   obtain ⟨o1, ⟨o2, o3⟩, o4, o5, o6, o7, o8⟩ := hB
   refine ⟨ne_E hs, ?_, ?_⟩
   ·rw [← h]; exact two_no (by decide) (rnum_no i1 isD_10 (by decide) (by decide)) (num_no i4 isD_10 (by decide))
   ·have hk : ∀ c ∈ [68, 73], okLetter c := by
     intro c hc
     simp only [List.mem_cons, List.not_mem_nil, or_false] at hc
     unfold okLetter; omega
    have hf : fillS ⟨24, 0, 1, 0, 0⟩ [68, 73] [sR ++ num x.fDst, num x.fImm] = some ⟨24, x.fDst, 1, 0, x.fImm⟩ := by
     have := fill_wds hx [68, 73] ⟨24, 0, 1, 0, 0⟩ hk
     exact this
    rw [← h, two_parts (by decide) (rnum_no i1 isD_32 (by decide) (by decide)) (num_no i4 isD_32 (by decide)), lineS, show decide (fMap.fname = nSlot) = false by decide, show decide (fMap.fname = nLd) = false by decide, show decide (fMap.fname = nMap) = true by decide, cond_false, cond_false, cond_true, mapS, hf]
    obtain ⟨y1, y2, y3, y4, y5⟩ := y
    obtain ⟨x1, x2, x3, x4, x5⟩ := x
    simp only at o1 o2 o3 o4 o5 o6 o7 o8
    rw [o1, o2, o3, o4, o5, o6, o7, o8]
end Go.Proofs.YtfjefnnbodgfbaaGreatDoor
namespace Go.Proofs.YtfjefnnbodgfbaaGreatDoor
open Go Go.HW
set_option linter.unusedVariables false
set_option maxRecDepth 100000
structure Tx (T : ByteArray) (p : List Instr) : Prop where
 rd : ∀ (acc : List Instr) (j : Nat), textS acc (parts 10 T) j = .inl (acc ++ p)
theorem parts_line {s T : ByteArray} (h : 10 ∉ bL s) : parts 10 ((s ++ (⟨#[10]⟩ : ByteArray)) ++ T) = s :: parts 10 T := by
 rw [parts_app]
 congr 1
 unfold parts
 rw [spl_no h, List.map_cons, List.map_nil, mkB_bL]; rfl
theorem Tx.nil : Tx ⟨#[]⟩ [] := ⟨fun acc j => by
 show textS acc [bE] j = _
 rw [textS, decide_eq_true rfl, cond_true, textS, List.append_nil]⟩
theorem Tx.cons {s T : ByteArray} {l p : List Instr} (h : Ln s l) (ht : Tx T p) : Tx ((s ++ (⟨#[10]⟩ : ByteArray)) ++ T) (l ++ p) := ⟨fun acc j => by
 rw [parts_line h.no, textS, h.ne, cond_false, h.rd]
 show textS (acc ++ l) (parts 10 T) (j + 1) = _
 rw [ht.rd, List.append_assoc]⟩
theorem back_loop {p : List Instr} (hr : ∀ x ∈ p, Evn x) :
  ∀ (n i : Nat) (b : ByteArray) (F : Nat), p.length - i ≤ n → i ≤ p.length → n < F → b.size + 121 * n ≤ 4000000 →
   ∃ T, fn12_l1 300000 tabP F b (p.drop i) = some (b ++ T) ∧ Tx T (p.drop i) ∧ T.size ≤ 121 * n := by
 intro n
 induction n using Nat.strongRecOn with
 | _ n ih =>
  intro i b F hni hi hF hb
  obtain ⟨F, rfl⟩ : ∃ k, F = k + 1 := ⟨F - 1, by omega⟩
  have nl : (⟨#[10]⟩ : ByteArray).size = 1 := rfl
  rcases Nat.lt_or_ge i p.length with hlt | hge
  ·have hx := hr _ (List.getElem_mem hlt)
   rcases Nat.lt_or_ge (i + 1) p.length with h2 | h2
   ·have hy := hr _ (List.getElem_mem h2)
    obtain ⟨ws, s, two, e1, e2, e3⟩ := step_two hx.r hy.r
    have hs : s.size ≤ 120 := by
     rcases e3 with ⟨_, h30, _⟩ | ⟨_, _, h31⟩
     ·exact pair_size hx.r hy.r h30
     ·exact one_size hx.r h31
    have hd : p.drop i = p[i] :: p[i + 1] :: p.drop (i + 2) := by rw [List.drop_eq_getElem_cons hlt, List.drop_eq_getElem_cons h2]
    have hd1 : p.drop (i + 1) = p[i + 1] :: p.drop (i + 2) := List.drop_eq_getElem_cons h2
    rw [fn12_l1_s, hd, prog_two e1 e2 hs (by omega)]
    rcases e3 with ⟨rfl, h30, hpos⟩ | ⟨rfl, _, h31⟩
    ·obtain ⟨T, q1, q2, q3⟩ := ih (n - 1) (by omega) (i + 2) (b ++ (s ++ (⟨#[10]⟩ : ByteArray))) F (by omega) (by omega) (by omega) (by rw [sz_line]; omega)
     refine ⟨(s ++ (⟨#[10]⟩ : ByteArray)) ++ T, ?_, Tx.cons (line_two hx hy.r h30 hpos) q2, ?_⟩
     ·rw [cond_true, q1, ByteArray.append_assoc]
     ·rw [ByteArray.size_append, ByteArray.size_append, nl]; omega
    ·obtain ⟨T, q1, q2, q3⟩ := ih (n - 1) (by omega) (i + 1) (b ++ (s ++ (⟨#[10]⟩ : ByteArray))) F (by omega) (by omega) (by omega) (by rw [sz_line]; omega)
     refine ⟨(s ++ (⟨#[10]⟩ : ByteArray)) ++ T, ?_, ?_, ?_⟩
     ·rw [cond_false, ← hd1, q1, ByteArray.append_assoc]
     ·rw [hd1] at q2
      exact Tx.cons (line_one hx h31) q2
     ·rw [ByteArray.size_append, ByteArray.size_append, nl]; omega
   ·obtain ⟨ws, s, e1, e2, e3⟩ := step_last (y := ⟨0, 0, 0, 0, 0⟩) hx.r
    have hs := one_size hx.r e2
    have hd : p.drop i = [p[i]] := by rw [List.drop_eq_getElem_cons hlt, List.drop_eq_nil_of_le h2]
    have hd1 : p.drop (i + 1) = [] := List.drop_eq_nil_of_le h2
    obtain ⟨T, q1, q2, q3⟩ := ih (n - 1) (by omega) (i + 1) (b ++ (s ++ (⟨#[10]⟩ : ByteArray))) F (by omega) (by omega) (by omega) (by rw [sz_line]; omega)
    rw [hd1] at q1 q2
    rw [fn12_l1_s, hd, prog_one e1 e3 hs (by omega), q1]
    refine ⟨(s ++ (⟨#[10]⟩ : ByteArray)) ++ T, by rw [ByteArray.append_assoc], Tx.cons (line_one hx e2) q2, ?_⟩
    rw [ByteArray.size_append, ByteArray.size_append, nl]; omega
  ·refine ⟨⟨#[]⟩, ?_, ?_, Nat.zero_le _⟩
   ·have e0 : ∀ a : ByteArray, a ++ (⟨#[]⟩ : ByteArray) = a := fun a => by apply ByteArray.ext; simp
    rw [List.drop_eq_nil_of_le hge, fn12_l1_s, e0]; rfl
   ·rw [List.drop_eq_nil_of_le hge]; exact Tx.nil
theorem evn_even {p : List Instr} (hr : ∀ x ∈ p, Evn x) : p.any fn23 = false := by
 rw [List.any_eq_false]
 intro x hx
 have h := hr x hx
 unfold fn23
 rw [decide_eq_false (by have := h.d; omega), decide_eq_false (by have := h.s; omega)]
 decide
theorem back_ok {p : List Instr} (hp : p.length ≤ 2000) (hr : ∀ x ∈ p, Evn x) : ∃ T, fn12 300000 p = some T ∧ fn15 300000 T = some (p, 0, 0) := by
 have g : decide ((4096 : Int) < (p.length : Int)) = false := decide_eq_false (by omega)
 obtain ⟨T, h1, h2, h3⟩ := back_loop hr p.length 0 ⟨#[]⟩ 300000 (by omega) (by omega) (by omega) (by show 0 + 121 * p.length ≤ 4000000; omega)
 have e0 : ∀ a : ByteArray, (⟨#[]⟩ : ByteArray) ++ a = a := fun a => by apply ByteArray.ext; simp
 rw [List.drop_zero] at h1 h2
 rw [e0] at h1
 refine ⟨T, ?_, ?_⟩
 ·unfold fn12
  rw [g, cond_false, cond_true, odd_ok p (by omega), Option.bind_some, Bool.false_or, evn_even hr, cond_false, tabP_ok, Option.bind_some, h1]; rfl
 ·rw [fn15_ok tabP_ok (by omega) (by omega) (by omega)]
  unfold parseS
  rw [h2.rd, List.nil_append, outS_l, g, cond_false]
theorem show_odd {p : List Instr} (hp : p.length ≤ 2000) (h : p.any fn23 = true) : fn12 300000 p = some bE := by
 have g : decide ((4096 : Int) < (p.length : Int)) = false := decide_eq_false (by omega)
 unfold fn12
 rw [g, cond_false, cond_true, odd_ok p (by omega), Option.bind_some, Bool.false_or, h, cond_true]; rfl
def evnB (x : Instr) : Bool := decide (0 ≤ x.fOp ∧ x.fOp < 256) && decide (0 ≤ x.fDst ∧ x.fDst < 16) && decide (0 ≤ x.fSrc ∧ x.fSrc < 16) && decide (-32768 ≤ x.fOff ∧ x.fOff < 32768) && decide (-2147483648 ≤ x.fImm ∧ x.fImm < 2147483648)
theorem evnB_ok {x : Instr} (h : evnB x = true) : Evn x := by
 simp only [evnB, Bool.and_eq_true, decide_eq_true_eq] at h
 obtain ⟨⟨⟨⟨h1, h2⟩, h3⟩, h4⟩, h5⟩ := h
 exact ⟨⟨h1, ⟨h2.1, by omega⟩, ⟨h3.1, by omega⟩, h4, h5⟩, by omega, by omega⟩
theorem tab_evn : tabD.all (fun f => evnB f.fslot) = true := by decide +kernel
theorem set_evn {y : Instr} (hy : Evn y) {c : Nat} {w : ByteArray} {v : Int} (h : partW (c : Int) w = some v) : Evn (setC y (c : Int) v) := by
 obtain ⟨⟨r1, r2, r3, r4, r5⟩, r6, r7⟩ := hy
 unfold partW at h
 unfold setC
 cases k1 : (c : Int) == 68 with
 | true => rw [k1, cond_true] at h; have := regP_b h; exact ⟨⟨r1, ⟨this.1, by show v < 256; omega⟩, r3, r4, r5⟩, this.2, r7⟩
 | false =>
  rw [k1, cond_false] at h
  cases k2 : (c : Int) == 83 with
  | true => rw [k2, cond_true] at h; have := regP_b h; exact ⟨⟨r1, r2, ⟨this.1, by show v < 256; omega⟩, r4, r5⟩, r6, this.2⟩
  | false =>
   rw [k2, cond_false] at h
   cases k3 : (c : Int) == 73 with
   | true => rw [k3, cond_true] at h; have := numR_b h; exact ⟨⟨r1, r2, r3, r4, ⟨this.1, by show v < 2147483648; omega⟩⟩, r6, r7⟩
   | false => rw [k3, cond_false] at h; have := numR_b h; exact ⟨⟨r1, r2, r3, ⟨this.1, by show v < 32768; omega⟩, r5⟩, r6, r7⟩
theorem fill_evn : ∀ (l : List Nat) (ws : List ByteArray) (y z : Instr), Evn y → fillS y l ws = some z → Evn z
 | [], [], y, z, hy, h => by rw [fillS] at h; cases h; exact hy
 | c :: l, w :: ws, y, z, hy, h => by
  rw [fillS] at h
  cases hp : partW (c : Int) w with
  | none => rw [hp] at h; cases h
  | some v => rw [hp] at h; exact fill_evn l ws _ z (set_evn hy hp) h
 | [], w :: ws, y, z, _, h => by have := fillS_len h; simp at this
 | c :: l, [], y, z, _, h => by have := fillS_len h; simp at this
theorem w32s (n : Int) : -2147483648 ≤ IntKind.i32.wrap n ∧ IntKind.i32.wrap n < 2147483648 := by rw [IntKind.wrap_i32]; omega
theorem evn_one {y : Instr} {l : List Instr} (hy : Evn y) (h : [y] = l) : ∀ x ∈ l, Evn x := by
 subst h; intro x hx; rw [List.mem_singleton] at hx; rw [hx]; exact hy
theorem line_evn {ws : List ByteArray} {l : List Instr} (h : lineS ws = some l) : ∀ x ∈ l, Evn x := by
 cases ws with
 | nil => cases h
 | cons n r =>
  rw [lineS] at h
  cases c1 : decide (n = nSlot) with
  | true =>
   rw [c1, cond_true] at h
   cases r with
   | nil => cases h
   | cons o r =>
    rw [slotS] at h
    split at h
    ·rename_i v hv
     have hb := numR_b hv
     split at h
     ·rename_i y hy
      exact evn_one (fill_evn _ _ ⟨v, 0, 0, 0, 0⟩ y ⟨⟨⟨hb.1, by show v < 256; omega⟩, by simp, by simp, by simp, by simp⟩, by simp, by simp⟩ hy) (Option.some.inj h)
     ·cases h
    ·cases h
  | false =>
   rw [c1, cond_false] at h
   cases c2 : decide (n = nLd) with
   | true =>
    rw [c2, cond_true] at h
    unfold ldS at h
    split at h
    ·split at h
     ·rename_i d hd
      have hb := regP_b hd
      split at h
      ·rename_i v hv
       intro x hx
       rw [← Option.some.inj h] at hx
       rcases List.mem_cons.1 hx with rfl | hx
       ·exact ⟨⟨by simp, ⟨hb.1, by show d < 256; omega⟩, by simp, by simp, w32s v⟩, hb.2, by simp⟩
       ·rw [List.mem_singleton] at hx
        rw [hx]
        exact ⟨⟨by simp, by simp, by simp, by simp, w32s _⟩, by simp, by simp⟩
      ·cases h
     ·cases h
    ·cases h
   | false =>
    rw [c2, cond_false] at h
    cases c3 : decide (n = nMap) with
    | true =>
     rw [c3, cond_true] at h
     unfold mapS at h
     split at h
     ·rename_i y hy
      intro x hx
      rw [← Option.some.inj h] at hx
      rcases List.mem_cons.1 hx with rfl | hx
      ·exact fill_evn _ _ ⟨24, 0, 1, 0, 0⟩ _ (evnB_ok (by decide)) hy
      ·rw [List.mem_singleton] at hx
       rw [hx]
       exact evnB_ok (by decide)
     ·cases h
    | false =>
     rw [c3, cond_false, othS_d] at h
     cases hf : tabD.findSome? (flN n r) with
     | none => rw [hf] at h; cases h
     | some y =>
      rw [hf] at h
      obtain ⟨f, hm, hfl⟩ := List.exists_of_findSome?_eq_some hf
      have hev := evnB_ok (List.all_eq_true.1 tab_evn f hm)
      unfold flN at hfl
      cases hd : decide (f.fname = n) with
      | false => rw [hd] at hfl; cases hfl
      | true =>
       rw [hd, cond_true] at hfl
       exact evn_one (fill_evn _ _ _ _ hev hfl) (Option.some.inj h)
theorem text_evn : ∀ (ls : List ByteArray) (acc : List Instr) (i : Nat) (r : List Instr), (∀ x ∈ acc, Evn x) → textS acc ls i = .inl r → ∀ x ∈ r, Evn x
 | [], acc, i, r, ha, h => by rw [textS] at h; cases h; exact ha
 | x :: ls, acc, i, r, ha, h => by
  rw [textS] at h
  cases hd : decide (x = bE) with
  | true => rw [hd, cond_true] at h; exact text_evn ls _ _ _ ha h
  | false =>
   rw [hd, cond_false] at h
   cases hl : lineS (parts 32 x) with
   | none => rw [hl] at h; cases h
   | some l =>
    rw [hl] at h
    refine text_evn ls (acc ++ l) _ _ (fun y hy => ?_) h
    rcases List.mem_append.1 hy with hy | hy
    ·exact ha y hy
    ·exact line_evn hl y hy
end Go.Proofs.YtfjefnnbodgfbaaGreatDoor
namespace Go.Proofs.YtfjefnnbodgfbaaGreatDoor
open Go Go.HW
set_option linter.unusedVariables false
set_option maxRecDepth 100000
def lowB (x : Instr) : Bool := decide (x.fDst < 16) && decide (x.fSrc < 16)
theorem low1 (p : List Instr) (hlen : p.length ≤ 100000) : ∀ (n i F : Nat) (a : Bool), p.length - i = n → i ≤ p.length → n < F → fn6_l1 p F a (i : Int) = some (a && (p.drop i).all lowB) := by
 intro n
 induction n with
 | zero =>
  intro i F a hn hi hF
  obtain ⟨F, rfl⟩ : ∃ n, F = n + 1 := ⟨F - 1, by omega⟩
  rw [fn6_l1_s, fn6_b1, decide_eq_false (by omega), cond_false, List.drop_eq_nil_of_le (by omega), List.all_nil, Bool.and_true]
 | succ n ih =>
  intro i F a hn hi hF
  obtain ⟨F, rfl⟩ : ∃ n, F = n + 1 := ⟨F - 1, by omega⟩
  have hlt : i < p.length := by omega
  have hin : inb (i : Int) p.length = true := by simp [inb]; omega
  have hget : gt p (i : Int) = p[i] := by simp [gt, hlt]
  have hw : IntKind.i64.wrap ((i : Int) + 1) = ((i + 1 : Nat) : Int) := by rw [w64' (by omega)]; omega
  have g1 : (bif a then true else true) = true := by cases a <;> rfl
  have g2 : (bif a && decide (p[i].fDst < 16) then true else true) = true := by cases a && decide (p[i].fDst < 16) <;> rfl
  rw [fn6_l1_s, fn6_b1, decide_eq_true (by omega), cond_true, hin, g1, cond_true, hget, g2, cond_true, hw, ih (i + 1) F _ (by omega) (by omega) (by omega), List.drop_eq_getElem_cons hlt, List.all_cons]
  unfold lowB
  rw [Bool.and_assoc, Bool.and_assoc, Bool.and_assoc]
theorem low12 (p : List Instr) : ∀ F : Nat, fn6_l2 p F = fn6_l1 p F
 | 0 => rfl
 | F + 1 => by
  have h := low12 p F
  funext a i
  show fn6_b2 p (fn6_l2 p F) a i = fn6_b1 p (fn6_l1 p F) a i
  rw [h]; rfl
theorem low_odd (p : List Instr) : p.any fn23 = !(p.all lowB) := by
 induction p with
 | nil => rfl
 | cons x p ih =>
  have h : fn23 x = !(lowB x) := by
   unfold fn23 lowB
   rw [show decide ((15 : Int) < x.fDst) = !decide (x.fDst < 16) from by rw [← decide_not, decide_eq_decide]; omega, show decide ((15 : Int) < x.fSrc) = !decide (x.fSrc < 16) from by rw [← decide_not, decide_eq_decide]; omega, Bool.not_and]
  rw [List.any_cons, List.all_cons, ih, h, Bool.not_and]
theorem last_ok {p : List Instr} (hp : p.length ≤ 300) (hr : ∀ x ∈ p, Rng x) : fn6_k1 300000 p (p.all lowB) = some true ∧ fn6_k2 300000 p (p.all lowB) = some true := by
 have key : fn6_k1 300000 p (p.all lowB) = some true := by
  unfold fn6_k1
  cases hl : p.all lowB with
  | false =>
   rw [show_odd (by omega) (by rw [low_odd, hl]; rfl), Option.bind_some, fn15_ok (s := bE) tabP_ok (by decide) (by decide) (by decide)]
   show some (bE.toList == (⟨#[]⟩ : ByteArray).toList) = _
   rw [eqL, decide_eq_true (show bE = (⟨#[]⟩ : ByteArray) from rfl)]
  | true =>
   have he : ∀ x ∈ p, Evn x := fun x hx => by
    have := List.all_eq_true.1 hl x hx
    simp only [lowB, Bool.and_eq_true, decide_eq_true_eq] at this
    exact ⟨hr x hx, by omega, by omega⟩
   obtain ⟨T, h1, h2⟩ := back_ok (by omega) he
   rw [h1, Option.bind_some, h2]
   show Option.bind (fn16 300000 p p) _ = _
   rw [same_ok (by omega) (by omega)]; rfl
 exact ⟨key, key⟩
theorem asmBack_plain (p : List Instr) (q : ByteArray) (hr : ∀ x ∈ p, Rng x) : fn6 300000 p q = some true := by
 unfold fn6
 rw [awake_ok, Option.bind_some, Bool.not_true, cond_false]
 cases hc : (decide ((300 : Int) < (p.length : Int))) || (decide ((3000 : Int) < (q.size : Int))) with
 | true => rfl
 | false =>
  simp only [Bool.or_eq_false_iff, decide_eq_false_iff_not] at hc
  obtain ⟨k1, k2⟩ := last_ok (p := p) (by omega) hr
  have hl := low1 p (by omega) p.length 0 300000 true (by omega) (by omega) (by omega)
  rw [List.drop_zero, Bool.true_and, show ((0 : Nat) : Int) = 0 from rfl] at hl
  rw [cond_false, fn15_ok tabP_ok (by omega) (by omega) (by omega)]
  cases ht : textS [] (parts 10 q) 0 with
  | inr e =>
   have hp := textS_pos _ _ _ _ ht
   rw [parse_r ht]
   show (bif (((((([] : List Instr).length : Nat) : Int) != 0) || ((25 : Int) != 25)) || (decide ((e : Int) < 1))) then (some (false)) else (Option.bind (fn6_l1 p 300000 true 0) fun o18 => (fn6_k1 300000 p o18))) = _
   rw [decide_eq_false (show ¬ (e : Int) < 1 by omega), hl]
   exact k1
  | inl l =>
   obtain ⟨p1, p2⟩ := parse_l (by omega) ht
   have he := text_evn _ _ _ _ (fun x hx => absurd hx (by simp)) ht
   obtain ⟨T, h1, h2⟩ := back_ok (by omega) he
   rw [p1]
   show Option.bind (fn12 300000 l) _ = _
   rw [h1, Option.bind_some, h2]
   show Option.bind (fn16 300000 l l) _ = _
   rw [same_ok (by omega) (by omega), Option.bind_some]
   show Option.bind (fn12 300000 l) _ = _
   rw [h1, Option.bind_some]
   show (bif false || (T.toList != T.toList) then _ else _) = _
   rw [neL, decide_eq_true rfl]
   show Option.bind (fn6_l2 p 300000 true 0) _ = _
   rw [low12, hl]
   exact k2
end Go.Proofs.YtfjefnnbodgfbaaGreatDoor
namespace Go.HW
open Go Go.RowKit Go.ChangeShapes
set_option linter.unusedVariables false
variable {H : Type} {enc : TypeId × Value → H} {P : Program}
theorem post_below {f : Func} {s : ChangeSpec} {apart fresh handsOn : Bool} {W W' : World} {args : Array Value} {v : Value} {ds gs : List (DataW H)} {before pa pv : List MemPlace}
  (hW : DataW.Whole enc P f.params.toList s.vars apart W args.toList ds gs before)
  (hres : ∀ (b : Nat) (sp : Nat → Bool) (hd : Bool), DataW.TrodAll enc P W' b sp hd f.resultTypes.toList (v.resultList f.resultTypes.size) (s.fn H (ds ++ gs)).results [])
  (hargs : ∀ sp : Nat → Bool, (∀ p ∈ before, sp p.block = true) → DataW.TrodAll enc P W' 0 sp true f.params.toList args.toList (s.fn H (ds ++ gs)).args pa)
  (hvars : ∀ sp : Nat → Bool, (∀ p ∈ before, sp p.block = true) → DataW.TrodVars enc P W' sp s.vars (s.fn H (ds ++ gs)).vars pv)
  (hps : before = pa ++ pv) (hk : Below W.heap.size W W') : s.post enc P f apart fresh handsOn false W args v W' := by
 have hold : ∀ p ∈ before, (fun b => decide (b < W.heap.size)) p.block = true := fun p hp => by simpa using hW.lt p hp
 refine ⟨ds, gs, before, [], pa, pv, hW, hres _ _ _, hargs _ hold, hvars _ hold, World.keptBut_mono (fun p hp => ⟨hp, ?_⟩) (hk.frame (· ∈ before)), fun h => by cases h⟩
 rw [hps, List.mem_append] at hp
 exact Or.inr hp
end Go.HW
namespace Go.HW
open Go Go.RowKit Go.ChangeShapes
set_option linter.unusedVariables false
section
variable {H : Type} {enc : TypeId × Value → H} {P : Program} {W W' : World}
theorem TrodAll.stays (hl : laidOutB P = true) {sp : Nat → Bool} (hb : Below W.heap.size W W') : ∀ {ts : List TypeId} {vs : List Value} {ds : List (DataW H)} {ps : List MemPlace}, (ts.all fun t => P.readableRec t && decide (t < P.types.size)) = true →
  DataW.TrodAll enc P W 0 (fun _ => true) true ts vs ds ps → (∀ x ∈ ps, x.block < W.heap.size) → (∀ x ∈ ps, sp x.block = true) → DataW.TrodAll enc P W' 0 sp true ts vs ds ps
 | [], [], [], ps, _, h, _, _ => h
 | t :: ts, v :: vs, d :: ds, ps, hr, h, hlt, hs => by
  obtain ⟨p, q, h1, h2, rfl⟩ := h
  simp only [List.all_cons, Bool.and_eq_true, decide_eq_true_eq] at hr
  obtain ⟨⟨r1, r2⟩, r3⟩ := hr
  exact ⟨p, q, WideElems.Trod_stays hl r1 r2 h1 (fun x hx => hb.same (hlt x (by simp [hx]))) (fun x hx => hs x (by simp [hx])), TrodAll.stays hl hb (by simpa using r3) h2 (fun x hx => hlt x (by simp [hx])) (fun x hx => hs x (by simp [hx])), rfl⟩
 | [], [], _ :: _, _, _, h, _, _ => by simp [DataW.TrodAll] at h
 | [], _ :: _, _, _, _, h, _, _ => by simp [DataW.TrodAll] at h
 | _ :: _, [], _, _, _, h, _, _ => by simp [DataW.TrodAll] at h
 | _ :: _, _ :: _, [], _, _, h, _, _ => by simp [DataW.TrodAll] at h
theorem list_of {α : Type} {Q : Nat → α → Prop} : ∀ (n : Nat), (∀ i, i < n → ∃ x, Q i x) → ∃ xs : List α, xs.length = n ∧ ∀ i x, xs[i]? = some x → Q i x
 | 0, _ => ⟨[], rfl, fun i x h => by simp at h⟩
 | n + 1, h => by
  obtain ⟨xs, h1, h2⟩ := list_of n (fun i hi => h i (by omega))
  obtain ⟨y, hy⟩ := h n (by omega)
  refine ⟨xs ++ [y], by simp [h1], fun i x hx => ?_⟩
  rcases Nat.lt_or_ge i xs.length with hi | hi
  ·rw [List.getElem?_append_left hi] at hx; exact h2 i x hx
  ·rw [List.getElem?_append_right hi] at hx
   have h0 : i - xs.length = 0 := by
    cases hh : i - xs.length with
    | zero => rfl
    | succ j => rw [hh] at hx; simp at hx
   rw [h0] at hx; simp at hx; subst hx
   have : i = n := by omega
   subst this; exact hy
end
end Go.HW
namespace Go.HW
open Go Go.RowKit Go.ChangeShapes
set_option linter.unusedVariables false
section
variable {H : Type} {enc : TypeId × Value → H} {P : Program} {W W' : World} {sp : Nat → Bool} {held : Bool}
theorem open_rowC {α : Type} {N : En α} {Ok : α → Prop} {t e : TypeId} (ht : P.underlying t = some (.slice e)) (hc : P.cellsOf e = N.sz)
  (hdec : ∀ (n : Nat) (cs : List Value) (y : DataW H × List MemPlace), DataW.trod enc P W 0 sp held n e cs = some y → ∃ x, cs = N.enc x ∧ Ok x)
  {n : Nat} {cs : List Value} {y : DataW H × List MemPlace} (h : DataW.trod enc P W 0 sp held n t cs = some y) :
  ∃ (a : Option Addr) (len cap : Nat) (xs : List α), cs = [.slice a len cap] ∧ xs.length = len ∧ xs.length ≤ cap ∧ RdS N W a xs ∧ (∀ x ∈ xs, Ok x) ∧ ∀ B, (∀ m ∈ y.1.weights P t, m ≤ B) → xs.length * P.bytesOf e ≤ B := by
 rcases DataW.trod_slice ht h with ⟨h0, rfl⟩ | ⟨ad, len, cap', elems, rest, m, _, h1, hy, hb, hl, hm, hlen, hel, _, _⟩
 ·exact ⟨none, 0, 0, [], h0, rfl, Nat.le_refl _, .nil _ _ _, fun x hx => by simp at hx, fun B _ => by simp⟩
 ·have each : ∀ i, i < len → ∃ x, W.cells? 0 (ad.add (i * N.sz)) N.sz = some (N.enc x) ∧ Ok x := fun i hi => by
   have h2 := hel i hi
   rw [List.getElem?_eq_getElem (by omega), Option.bind_eq_some_iff] at h2
   obtain ⟨cs, h3, h4⟩ := h2
   obtain ⟨x, rfl, hx⟩ := hdec _ _ _ h4
   rw [hc] at h3
   exact ⟨x, h3, hx⟩
  obtain ⟨xs, x1, x2⟩ := list_of (Q := fun i x => W.cells? 0 (ad.add (i * N.sz)) N.sz = some (N.enc x) ∧ Ok x) len each
  refine ⟨some ad, len, cap', xs, h1, x1, by omega, ⟨by omega, ?_⟩, fun x hx => ?_, fun B hB => ?_⟩
  ·rcases Nat.eq_zero_or_pos len with h0 | h0
   ·left; exact List.eq_nil_of_length_eq_zero (by omega)
   ·right
    have hspot : ad.spot = none := by
     obtain ⟨x, hx⟩ : ∃ x, xs[0]? = some x := ⟨xs[0], List.getElem?_eq_getElem (by omega)⟩
     obtain ⟨_, _, h5⟩ := World.cells?_some (x2 0 x hx).1
     have := h5 0 N.pos
     rw [List.getElem?_eq_getElem (by rw [N.len]; exact N.pos)] at this
     have e0 : (ad.add (0 * N.sz)).add 0 = ad := by simp [Addr.add]
     rw [e0] at this
     cases hs : ad.spot with
     | none => rfl
     | some q =>
      unfold World.cell? at this
      split at this
      ·rw [hs] at this; simp at this
      ·cases this
    refine ⟨ad, rfl, hspot, fun k x hk j u hj => ?_⟩
    obtain ⟨_, _, h5⟩ := World.cells?_some (x2 k x hk).1
    have hjl : j < N.sz := by have := (List.getElem?_eq_some_iff.1 hj).1; rw [N.len] at this; exact this
    have := h5 j hjl
    rw [hj] at this
    have e1 : (ad.add (k * N.sz)).add j = ⟨ad.block, ad.off + (k * N.sz + j), none⟩ := by
     cases ad with | mk b o s => simp at hspot; subst hspot; simp [add_none, Nat.add_assoc]
    rw [e1] at this
    exact this
  ·obtain ⟨i, hi, rfl⟩ := List.mem_iff_getElem.1 hx
   exact (x2 i _ (by rw [List.getElem?_eq_getElem hi])).2
  ·subst hy
   have := hB ((elems.length + rest.length) * P.bytesOf e) (by simp [DataW.weights, ht])
   have h2 : xs.length * P.bytesOf e ≤ (elems.length + rest.length) * P.bytesOf e := Nat.mul_le_mul_right _ (by omega)
   omega
theorem partC {fs : Array Field} {xs : List (DataW H × List MemPlace)} {n : Nat} {cs : List Value} (hall : ∀ (i : Nat) (f : Field), fs[i]? = some f → DataW.trod enc P W 0 sp held n f.type ((cs.drop f.offset).take (P.cellsOf f.type)) = xs[i]?) (hx : xs.length = fs.size)
  {i o : Nat} {f : Field} (hf : fs[i]? = some f) (hc : P.cellsOf f.type = 1) (ho : f.offset = o) : ∃ x, xs[i]? = some x ∧ DataW.trod enc P W 0 sp held n f.type ((cs.drop o).take 1) = some x := by
 have h := hall i f hf
 have hi : i < fs.size := (Array.getElem?_eq_some_iff.1 hf).1
 rw [List.getElem?_eq_getElem (by omega), hc, ho] at h
 exact ⟨_, List.getElem?_eq_getElem (by omega), h⟩
theorem cellC {cs : List Value} {o : Nat} {c : Value} (h : (cs.drop o).take 1 = [c]) : cs[o]? = some c := by
 have := congrArg (fun l => l[0]?) h
 simpa [List.getElem?_take, List.getElem?_drop] using this
theorem trod_of {t : TypeId} {v : Value} {d : DataW H} {ps : List MemPlace} {c : Value} (hv : v.cells = #[c]) (h : DataW.Trod enc P W 0 sp held t v d ps) : ∃ n, DataW.trod enc P W 0 sp held n t [c] = some (d, ps) := by
 obtain ⟨n, h⟩ := h; rw [hv] at h; exact ⟨n, h⟩
theorem weight_arg {ts : List TypeId} {ds : List (DataW H)} {B : Nat} (h : (DataW.weightsEach P ts ds).all (· ≤ B) = true) {j : Nat} {t : TypeId} {d : DataW H} (ht : ts[j]? = some t) (hd : ds[j]? = some d) : ∀ m ∈ d.weights P t, m ≤ B := fun m hm => by
 simpa using List.all_eq_true.1 h _ (DataW.weights_mem_each ht hd m hm)
end
end Go.HW
namespace Go.Proofs.YtfjefnnbodgfbaaGreatDoor
open Go Go.HW Go.Lib
set_option linter.unusedVariables false
set_option maxRecDepth 100000
theorem tab_at {P : Program} {W : World} {n : String} {g : Nat} {k : IntKind} {zs : List Int} (hg : P.globalNamed n = some g) (h : TabIs P W n k zs) : TabAt W g k zs := by
 unfold TabIs World.var? at h
 rw [hg] at h
 simp only [Option.bind_some] at h
 split at h
 ·rename_i cs T fz e
  exact ⟨T, fz, by rw [e]; cases h; rfl⟩
 ·cases h
theorem tab_of_reads {P : Program} {W : World} {name : String} {k : IntKind} {zs : List Int} {g : Nat} {t e : TypeId} {n : Nat}
  (hg : P.globalNamed name = some g) (hty : (P.globals[g]?).map (·.type) = some t) (ht : P.underlying t = some (.array n e)) (he : P.underlying e = some (.int k)) (hce : P.cellsOf e = 1) (hct : P.cellsOf t = n)
  (h : VarReads P W name (tabData k zs)) : TabAt W g k zs := by
 obtain ⟨g', t', cs, fuel, p, hg', ht', hvar, hd⟩ := h
 obtain rfl := Option.some.inj (hg.symm.trans hg')
 obtain rfl := Option.some.inj (hty.symm.trans ht')
 refine tab_at hg ?_
 unfold TabIs
 rw [hvar, ← cells_of_tab ht he hce hct hd]
theorem ifc_of_reads {P : Program} {W : World} {name nm : String} {d : DataW Unit} {g : Nat} {t : TypeId} {ms : Array (String × TypeId)}
  (hg : P.globalNamed name = some g) (hty : (P.globals[g]?).map (·.type) = some t) (ht : P.underlying t = some (.interface ms))
  (h : VarReads P W name (.iface nm d)) : IfcAt W g := by
 obtain ⟨g', t', cs, fuel, p, hg', ht', hvar, hd⟩ := h
 obtain rfl := Option.some.inj (hg.symm.trans hg')
 obtain rfl := Option.some.inj (hty.symm.trans ht')
 obtain ⟨f', u, v, hc, _, _⟩ := iface_of_trod ht hd
 refine ⟨.iface u v, ?_, .inr ⟨u, v, rfl⟩⟩
 rw [World.var?_cell hg hvar 0, ← Array.getElem?_toList, hc]; rfl
theorem glW_ok {W : World} {laid : List (String × DataW Unit)} (hsh : W.ShapedOpen Tryz.prog) (hL : laidMet Tryz.prog laid W)
  (m1 : ("internal/strconv.uint64pow10", Rows.laid_internal_strconv_uint64pow10) ∈ laid) (m2 : ("strings.asciiSpace", Rows.laid_strings_asciiSpace) ∈ laid)
  (m3 : ("strconv.ErrSyntax", Rows.laid_strconv_ErrSyntax) ∈ laid) (m4 : ("strconv.ErrRange", Rows.laid_strconv_ErrRange) ∈ laid) : GlW W := by
 refine ⟨cell_of_shapedOpen_int hsh (g := 2) (t := 3) (zero := #[.int .i64 0]) (of_decide_eq_true (by kernel_rfl)) (by kernel_rfl) rfl (by kernel_rfl) (by kernel_rfl) Tryz.underlying3, ?_, ?_, ?_, ?_⟩
 ·have h1 : Tryz.prog.globalNamed "strconv.ErrSyntax" = some 7 := by kernel_rfl
  have h2 : (Tryz.prog.globals[7]?).map (·.type) = some 57 := by kernel_rfl
  exact ifc_of_reads h1 h2 Tryz.underlying57 (laidMet.reads hL m3)
 ·have h1 : Tryz.prog.globalNamed "strconv.ErrRange" = some 8 := by kernel_rfl
  have h2 : (Tryz.prog.globals[8]?).map (·.type) = some 57 := by kernel_rfl
  exact ifc_of_reads h1 h2 Tryz.underlying57 (laidMet.reads hL m4)
 ·exact tab_of_reads (g := 6) (by kernel_rfl) (by kernel_rfl) Tryz.underlying216 Tryz.underlying120 (by kernel_rfl) (by kernel_rfl) (show VarReads Tryz.prog W _ (tabData .u64 pow10Tab) from (show (Rows.laid_internal_strconv_uint64pow10 : DataW Unit) = tabData .u64 pow10Tab by kernel_rfl) ▸ laidMet.reads hL m1)
 ·exact tab_of_reads (g := 1) (by kernel_rfl) (by kernel_rfl) Tryz.underlying170 Tryz.underlying5 (by kernel_rfl) (by kernel_rfl) (show VarReads Tryz.prog W _ (tabData .u8 asciiSpaceTab) from (show (Rows.laid_strings_asciiSpace : DataW Unit) = tabData .u8 asciiSpaceTab by kernel_rfl) ▸ laidMet.reads hL m2)
theorem tabAt_ext {w w' : World} {g : Nat} {k : IntKind} {zs : List Int} (hx : Ext w [] w') (h : TabAt w g k zs) : TabAt w' g k zs := by
 obtain ⟨T, fz, e⟩ := h
 exact ⟨T, fz, by rw [hx.same g (Array.getElem?_eq_some_iff.1 e).1 (by simp)]; exact e⟩
theorem cell_ext {w w' : World} {g : Nat} {v : Value} (hx : Ext w [] w') (h : w.cell? ⟨g, 0, none⟩ = some v) : w'.cell? ⟨g, 0, none⟩ = some v := by
 have hlt : g < w.heap.size := by
  rcases Nat.lt_or_ge g w.heap.size with h1 | h1
  ·exact h1
  ·unfold World.cell? at h
   rw [Array.getElem?_eq_none h1] at h
   cases h
 unfold World.cell? at h ⊢
 rw [hx.same g hlt (by simp)]
 exact h
theorem glF_ok {W : World} {laid : List (String × DataW Unit)} (hsh : W.ShapedOpen Tryz.prog) (hL : laidMet Tryz.prog laid W)
  (m1 : ("internal/strconv.uint64pow10", Rows.laid_internal_strconv_uint64pow10) ∈ laid) (m2 : ("strings.asciiSpace", Rows.laid_strings_asciiSpace) ∈ laid)
  (m3 : ("strconv.ErrSyntax", Rows.laid_strconv_ErrSyntax) ∈ laid) (m4 : ("strconv.ErrRange", Rows.laid_strconv_ErrRange) ∈ laid) : GlF W [] := fun w' hx => by
 obtain ⟨⟨m, h1⟩, ⟨v2, h2, g2⟩, ⟨v3, h3, g3⟩, h4, h5⟩ := glW_ok hsh hL m1 m2 m3 m4
 exact ⟨⟨m, cell_ext hx h1⟩, ⟨v2, cell_ext hx h2, g2⟩, ⟨v3, cell_ext hx h3, g3⟩, tabAt_ext hx h4, tabAt_ext hx h5⟩
theorem handed_laid {H : Type} {enc : TypeId × Value → H} {a : Assume} {C : Checked} {os : Os} {f : FuncId} {fn : Func} {s : ChangeSpec} {conds : List PathCond} {apart fresh handsOn again : Bool} {laid : List (String × DataW Unit)}
  (own : ownKnob C.prog.godebug = none) (started : os.Started) (noInit : C.prog.inits.idxOf? f = none) (hfn : C.prog.funcs[f]? = some fn)
  (witness : ∃ (w : World) (tape : Tape) (i : Input), w.os = os ∧ (w.forCall tape i).Shaped C.prog ∧ i.vars = [] ∧ Input.okWide C.prog (w.forCall tape i) .any w.heap.size f i ∧
   ((s.pre enc C.prog fn conds apart (w.forCall tape i).memory i.args ∧ laidMetH C.prog laid (w.forCall tape i).memory) ∧ sizedMet enc C.prog fn (OpenSpec.ofChange s) apart (w.forCall tape i).memory i.args) ∧ a.holds C.prog (lone (Frame.enter C.prog f i.args .normal) [] (w.forCall tape i)))
  (law : ∀ (W : World) (base : Nat) (args : Array Value) (ds gs : List (DataW H)) (before : List MemPlace),
   (∀ (j : Nat) t v, fn.params[j]? = some t → args[j]? = some v → Value.okWide C.prog W .any base t v) →
   DataW.Whole enc C.prog fn.params.toList s.vars apart W args.toList ds gs before →
   conds.all (PathCond.test C.prog ⟨fn.params.toList, ds, s.plain.varTypes C.prog, gs⟩) = true →
   (DataW.weightsEach C.prog (fn.params.toList ++ s.plain.varTypes C.prog) (ds ++ gs)).all (· ≤ reachBytes) = true → laidMetH C.prog laid W → W.ShapedOpen C.prog →
   Calls C.prog f args W fun e W' => ∃ v, e = .returned v ∧ s.post enc C.prog fn apart fresh handsOn again W args v W') :
  ReturnsInHanded a C os f .any (fun w args => (s.pre enc C.prog fn conds apart w args ∧ laidMetH C.prog laid w) ∧ sizedMet enc C.prog fn (OpenSpec.ofChange s) apart w args) (s.post enc C.prog fn apart fresh handsOn again) := by
 refine returnsInHanded_of_calls own started noInit witness fun w tape i _ hsh _ hok hpre _ => ?_
 obtain ⟨_, _, _, fn', hfn', _, _, _, _, hval⟩ := hok
 obtain rfl : fn' = fn := Option.some.inj (hfn'.symm.trans hfn)
 obtain ⟨⟨⟨ds, gs, before, hw, hc⟩, hx⟩, hz⟩ := hpre
 refine (law (w.forCall tape i) w.heap.size i.args ds gs before hval (DataW.Whole.of_heap (w' := w.forCall tape i) (by rfl) hw) hc (hz.weights hw) (laidMetH.of_heap (by rfl) hx) hsh).mono fun e W' h => ?_
 obtain ⟨v, rfl, hp⟩ := h
 exact ChangeSpec.post_blind hp
end Go.Proofs.YtfjefnnbodgfbaaGreatDoor
