/- Plain: Check. -/
import Derived.Test.YtbpldfhehpjbaaaPlCheck
namespace Go.Proofs.Ytbpldfhehpjbaaa
open Go Go.HW
set_option maxRecDepth 8000
set_option linter.unusedVariables false

/-- the error of a second slot -/
def sec (p : List Instr) (k : Int) : Int :=
  bif decide ((p.length : Int) ≤ k + 1) then 23 else
  bif (!(((gt p (k + 1)).fOp == 0) && (((gt p (k + 1)).fDst == 0) && (((gt p (k + 1)).fSrc == 0) && (((gt p (k + 1)).fOff == 0)))))) || (((gt p k).fSrc == 1) && ((gt p (k + 1)).fImm != 0)) then 22 else 0

/-- the error of the instruction at a first slot -/
def er (p : List Instr) (k : Int) : Int :=
  bif !fn76 (gt p k) then 20 else bif !fn36 (fn60 (gt p k)) then 21 else bif !fn78 (gt p k) then 22 else
  bif ((gt p k).fOp == 24) && (sec p k != 0) then sec p k else
  bif (fn58 (gt p k) k).2 && !(pl p (fn58 (gt p k) k).1) then 23 else 0

theorem fn38_sec {p : List Instr} {k : Int} (hp : p.length ≤ 5000) (h0 : 0 ≤ k) (h1 : k < p.length) : fn38 p k = some (sec p k) := by
  have e1 : IntKind.i64.wrap (k + 1) = k + 1 := w64 (by omega)
  simp only [fn38, sec, e1]
  by_cases hl : (p.length : Int) ≤ k + 1
  · simp [hl]
  · have h2 : decide ((p.length : Int) ≤ k + 1) = false := by simp; omega
    have h3 : inb (k + 1) p.length = true := inb_iff.2 ⟨by omega, by omega⟩
    have h4 : inb k p.length = true := inb_iff.2 ⟨h0, h1⟩
    simp only [h2, h3, h4, cond_false, cond_true, beq_self_eq_true, Bool.and_true]
    generalize (!(((gt p (k + 1)).fOp == 0) && (((gt p (k + 1)).fDst == 0) && (((gt p (k + 1)).fSrc == 0) && (((gt p (k + 1)).fOff == 0)))))) = a
    generalize (((gt p k).fSrc == 1) && ((gt p (k + 1)).fImm != 0)) = b
    cases a <;> cases b <;> rfl

theorem fn53_er {p : List Instr} {k : Int} (hp : p.length ≤ 5000) (h0 : 0 ≤ k) (h1 : k < p.length) : fn53 p (marks p) k = some (er p k) := by
  have e1 : IntKind.i64.wrap (k + 1) = k + 1 := w64 (by omega)
  have h4 : inb k p.length = true := inb_iff.2 ⟨h0, h1⟩
  have hpl : ∀ t : Int × Bool, (bif bif t.2 then (bif decide (t.1 < 0) then true else (bif decide ((p.length : Int) ≤ t.1) then true else (inb t.1 (marks p).length))) else true then (bif t.2 && ((decide (t.1 < 0)) || ((decide ((p.length : Int) ≤ t.1)) || (!(gt (marks p) t.1)))) then (some 23) else (some 0)) else none) = some (bif t.2 && !(pl p t.1) then (23 : Int) else 0) := by
    rintro ⟨t, b⟩
    cases b with
    | false => rfl
    | true =>
      simp only [cond_true, Bool.true_and]
      by_cases ht0 : t < 0
      · have : pl p t = false := by simp [pl]; omega
        simp [ht0, this]
      · by_cases ht1 : (p.length : Int) ≤ t
        · have : pl p t = false := by simp [pl]; omega
          simp [ht0, ht1, this]
        · have : pl p t = gt (marks p) t := by
            have a : decide (0 ≤ t) = true := by simp; omega
            have b : decide (t < (p.length : Int)) = true := by simp; omega
            simp [pl, a, b]
          have h5 : inb t (marks p).length = true := by rw [marks_length]; exact inb_iff.2 ⟨by omega, by omega⟩
          simp only [ht0, ht1, this, decide_false, cond_false, h5, cond_true, Bool.false_or]
          cases gt (marks p) t <;> rfl
  simp only [fn53, er, bindP, h4, cond_true, rg_eq]
  cases fn76 (gt p k) with
  | false => rfl
  | true =>
  simp only [Bool.not_true, cond_false]
  cases ((decide ((10 : Int) < (gt p k).fDst)) || (decide ((10 : Int) < (gt p k).fSrc))) || (((gt p k).fDst == 10) && fn77 (gt p k)) with
  | true => rfl
  | false =>
  simp only [Bool.not_false, Bool.not_true, cond_false]
  cases fn78 (gt p k) with
  | false => rfl
  | true =>
  simp only [Bool.not_true, cond_false, fn71, hpl]
  cases hw : ((gt p k).fOp == 24) with
  | false => simp
  | true =>
    simp only [cond_true, e1, Bool.true_and, sec]
    by_cases hl : (p.length : Int) ≤ k + 1
    · simp [hl]
    · have h2 : decide ((p.length : Int) ≤ k + 1) = false := by simp; omega
      have h3 : inb (k + 1) p.length = true := inb_iff.2 ⟨by omega, by omega⟩
      simp only [h2, h3, cond_false, cond_true, beq_self_eq_true, Bool.and_true]
      generalize ((!(((gt p (k + 1)).fOp == 0) && (((gt p (k + 1)).fDst == 0) && (((gt p (k + 1)).fSrc == 0) && (((gt p (k + 1)).fOff == 0)))))) || (((gt p k).fSrc == 1) && ((gt p (k + 1)).fImm != 0))) = a
      cases a <;> rfl

theorem mget_put {κ α : Type} [DecidableEq κ] (z v : α) (k t : κ) : ∀ xs : List (κ × α), mget (mput xs k v) t z = if k = t then v else mget xs t z
  | [] => by by_cases h : k = t <;> simp [mget, mput, mfind, h]
  | p :: xs => by
    have ih := mget_put z v k t xs
    simp only [mget] at ih ⊢
    by_cases hp : p.1 = k
    · by_cases h : k = t
      · simp [mput, mfind, hp, h]
      · have : ¬ p.1 = t := by rw [hp]; exact h
        simp [mput, mfind, hp, h]
    · by_cases h : p.1 = t
      · have : ¬ k = t := by intro e; exact hp (h.trans e.symm)
        have h2 : ¬ t = k := fun e => this e.symm
        simp [mput, mfind, h, this, h2]
      · simp only [mput, hp, decide_false, cond_false, mfind, h]
        exact ih

theorem places_get : ∀ (l : List (Int × Slot)) (m : List (Int × Bool)) (t : Int), mget (l.foldl (fun s y => mput s y.1 true) m) t false = (posIn l t || mget m t false)
  | [], m, t => by simp [posIn]
  | y :: l, m, t => by
    rw [List.foldl_cons, places_get l _ t, mget_put]
    have : posIn (y :: l) t = ((y.1 == t) || posIn l t) := rfl
    rw [this]
    by_cases h : y.1 = t
    · simp [h]
    · have : (y.1 == t) = false := by simp [h]
      rw [if_neg h, this]; simp

def WF (p : List Instr) : Prop := ∀ x ∈ p, OkI x
theorem WF.gt {p : List Instr} (h : WF p) {k : Int} (h0 : 0 ≤ k) (h1 : k < p.length) : OkI (Go.HW.gt p k) := by
  apply h
  have : k.toNat < p.length := by omega
  simp only [Go.HW.gt, List.getD_eq_getElem?_getD, List.getElem?_eq_getElem this, Option.getD_some]
  exact List.getElem_mem _

theorem r2_er {F : Nat} {p : List Instr} (hF : 6000 ≤ F) (hp : p.length ≤ 5000) (hw : WF p) {m : List (Int × Bool)} (hm : ∀ t, mget m t false = pl p t) {k : Int} (h0 : 0 ≤ k) (h1 : k < p.length) (a b : Int) (c : Bool) :
    fn14_r2 F p m a b c k (fn60 (gt p k)) = some (bif er p k != 0 then ((k, er p k, c), 1) else ((a, b, refEnds (gt p k)), 0)) := by
  have ok := hw.gt h0 h1
  simp only [fn14_r2, bindP, er, kn_eq ok, pt_eq (F := F) (by omega) ok, fn38_sec hp h0 h1, hm, fn60_instr, Option.bind_some]
  cases hk : fn76 (gt p k) with
  | false => rfl
  | true =>
  rw [tg_eq ok hk, en_eq ok hk]
  simp only [Bool.not_true, cond_false]
  cases fn36 (fn60 (gt p k)) with
  | false => rfl
  | true =>
  simp only [Bool.not_true, cond_false]
  cases fn78 (gt p k) with
  | false => rfl
  | true =>
  simp only [Bool.not_true, cond_false]
  cases ((gt p k).fOp == 24) with
  | false =>
    simp only [cond_false, Bool.false_and]
    cases ((fn58 (gt p k) k).2 && !(pl p (fn58 (gt p k) k).1)) <;> rfl
  | true =>
    simp only [cond_true, Bool.true_and]
    cases hs : (sec p k != 0) with
    | true => simp [hs]
    | false =>
      simp only [cond_false]
      cases ((fn58 (gt p k) k).2 && !(pl p (fn58 (gt p k) k).1)) <;> rfl

def bad (p : List Instr) (y : Int × Slot) : Bool := er p y.1 != 0
def lastAt (l : List (Int × Slot)) (d : Int) : Int := l.foldl (fun _ y => y.1) d

/-- Check -/
def chk (p : List Instr) : Int × Int :=
  bif ((p.length : Int) == 0) || (decide ((4096 : Int) < (p.length : Int))) then (0, 3) else
  match (firstsL p 0).find? (bad p) with
  | some y => (y.1, er p y.1)
  | none => bif refEnds (gt p (lastAt (firstsL p 0) 0)) then (0, 0) else ((p.length : Int) - 1, 24)

theorem run_er {F : Nat} {p : List Instr} (hF : 6000 ≤ F) (hp : p.length ≤ 5000) (hw : WF p) {m : List (Int × Bool)} (hm : ∀ t, mget m t false = pl p t) (a b : Int) : ∀ (l : List (Int × Slot)) (c : Bool), (∀ y ∈ l, y ∈ firstsL p 0) →
    ∃ c', runL (stepR (fun (s : Int × Int × Bool) (y : Int × Slot) => fn14_r2 F p m s.1 s.2.1 s.2.2 y.1 y.2)) goR l ((a, b, c), 0) =
      (match l.find? (bad p) with | some y => some ((y.1, er p y.1, c'), 1) | none => some ((a, b, c'), 0)) ∧ (l.find? (bad p) = none → c' = bif l.isEmpty then c else refEnds (gt p (lastAt l 0)))
  | [], c, _ => ⟨c, rfl, fun _ => rfl⟩
  | y :: l, c, h => by
    obtain ⟨h0, h1, h2⟩ := first_slot (h y (by simp))
    have hr := r2_er hF hp hw hm h0 h1 a b c
    rw [← h2] at hr
    simp only [runL, stepR, show Nat.beq 0 0 = true from rfl, cond_true, hr, Option.bind_some, List.find?_cons]
    cases hb : (er p y.1 != 0) with
    | true =>
      have : bad p y = true := hb
      rw [this]
      refine ⟨c, rfl, fun h => by cases h⟩
    | false =>
      have : bad p y = false := hb
      rw [this]
      obtain ⟨c', e1, e2⟩ := run_er hF hp hw hm a b l (refEnds (gt p y.1)) (fun z hz => h z (by simp [hz]))
      refine ⟨c', ?_, fun hn => ?_⟩
      · simp only [cond_false, goR, show Nat.beq 0 0 = true from rfl, cond_true]; exact e1
      · rw [e2 hn]
        cases l with
        | nil => rfl
        | cons z l' => rfl

theorem firsts_ne {p : List Instr} (h : p ≠ []) : (firstsL p 0).isEmpty = false := by
  cases p with
  | nil => exact absurd rfl h
  | cons x l => rw [firstsL_cons]; rfl

theorem check_prog {F : Nat} {p : List Instr} (hF : 6000 ≤ F) (hp : p.length ≤ 5000) (hw : WF p) : fn14 F p = some (chk p) := by
  rw [fn14, chk]
  cases hl : (((p.length : Int) == 0) || (decide ((4096 : Int) < (p.length : Int)))) with
  | true => rfl
  | false =>
    simp only [cond_false]
    have hne : p ≠ [] := by rintro rfl; simp at hl
    rw [fn59_run _ _ _ _ (by omega) (by omega), runL_all (stepB := fun (s : List (Int × Bool)) (y : Int × Slot) => fn14_r1 s y.1 y.2) (f := fun s y => mput s y.1 true) _ _ (fun s y _ => rfl)]
    rw [Option.bind_some, show Nat.beq 0 0 = true from rfl, cond_true, fn14_k1_0, fn59_run _ _ _ _ (by omega) (by omega)]
    have hm : ∀ t, mget ((firstsL p 0).foldl (fun s (y : Int × Slot) => mput s y.1 true) []) t false = pl p t := fun t => by
      rw [places_get, pos_pl]; simp [mget, mfind]
    obtain ⟨c', e1, e2⟩ := run_er hF hp hw hm 0 0 (firstsL p 0) false (fun y hy => hy)
    rw [e1]
    cases hf : (firstsL p 0).find? (bad p) with
    | some y => rfl
    | none =>
      have := e2 hf
      rw [firsts_ne hne, cond_false] at this
      subst this
      have hw' : IntKind.i64.wrap ((p.length : Int) - 1) = (p.length : Int) - 1 := w64 (by omega)
      simp only [Option.bind_some, show Nat.beq 0 0 = true from rfl, cond_true, fn14_k2_0, hw']
      cases refEnds (gt p (lastAt (firstsL p 0) 0)) <;> rfl
end Go.Proofs.Ytbpldfhehpjbaaa
