/- Plain: Ways, steps, edges. -/
import Derived.Test.YtbpldfhehpjbaaaPlCheck3
namespace Go.Proofs.Ytbpldfhehpjbaaa
open Go Go.HW
set_option maxRecDepth 8000
set_option linter.unusedVariables false

theorem mul_all : (List.range 4097).all (fun N => fn79 (IntKind.u64.wrap 1) (IntKind.u64.wrap (N : Int)) == (0, (N : Int))) = true := by kernel_rfl

theorem rep_loop (c : S__2_int) : ∀ (n : Nat) (ys : List S__2_int) (m : Nat), 1 ≤ m → m ≤ ys.length → ys.length ≤ 5000 → ys.length + 1 - m < n + 1 → ys.take m = List.replicate m c →
    fn56_l1 n ys (m : Int) = some (List.replicate ys.length c)
  | 0, ys, m, h0, h1, hb, h2, h3 => by omega
  | n + 1, ys, m, h0, h1, hb, h2, h3 => by
    rw [fn56_l1_s]
    by_cases hm : m < ys.length
    · have g0 : decide ((m : Int) < (ys.length : Int)) = true := by simp; omega
      have k1 : sliceOk (m : Int) ((ys.length : Nat) : Int) ys.length = true := sliceOk_iff.2 ⟨by omega, by omega, by omega⟩
      have k2 : sliceOk ((0 : Nat) : Int) (m : Int) ys.length = true := sliceOk_iff.2 ⟨by omega, by omega, by omega⟩
      have e1 : cutX ys ((0 : Nat) : Int).toNat ((m : Nat) : Int).toNat = List.replicate m c := by
        rw [show ((0 : Nat) : Int).toNat = 0 from rfl, show ((m : Nat) : Int).toNat = m from rfl, cutX, h3, List.drop_zero]
      simp only [g0, cond_true, k1, k2, e1]
      rw [show ((m : Nat) : Int).toNat = m from rfl, show ((ys.length : Nat) : Int).toNat = ys.length from rfl, List.length_replicate, List.take_replicate]
      have hw : IntKind.i64.wrap ((m : Int) + ((min m (ys.length - m) : Nat) : Int)) = ((m + min m (ys.length - m) : Nat) : Int) := w64 (by omega)
      rw [hw]
      have hp : (pasteX ys m (List.replicate (min (ys.length - m) m) c)).length = ys.length := pasteX_length (by simp; omega)
      have ht : (pasteX ys m (List.replicate (min (ys.length - m) m) c)).take (m + min m (ys.length - m)) = List.replicate (m + min m (ys.length - m)) c := by
        rw [pasteX, h3, List.take_append_of_le_length (by simp; omega), List.replicate_append_replicate, List.take_replicate]
        congr 1; omega
      rw [rep_loop c n _ _ (by omega) (by rw [hp]; omega) (by rw [hp]; exact hb) (by rw [hp]; omega) ht, hp]
    · have g0 : decide ((m : Int) < (ys.length : Int)) = false := by simp; omega
      rw [g0, cond_false]
      have : m = ys.length := by omega
      subst this
      rw [← h3, List.take_length]

theorem repeat_eq {F : Nat} (N : Nat) (hF : 6000 ≤ F) (h1 : 1 ≤ N) (h2 : N ≤ 4096) (c : S__2_int) : fn56 F [c] (N : Int) = some (List.replicate N c) := by
  have hm : fn79 (IntKind.u64.wrap (([c] : List S__2_int).length : Int)) (IntKind.u64.wrap (N : Int)) = (0, (N : Int)) := by
    have := List.all_eq_true.1 mul_all N (by simp; omega)
    exact eq_of_beq this
  rw [fn56, hm]
  have g0 : decide ((N : Int) < 0) = false := by simp
  have g1 : (decide ((0 : Int) < (0, (N : Int)).1) || decide ((9223372036854775807 : Int) < (0, (N : Int)).2)) = false := by simp; omega
  have hw : IntKind.i64.wrap (0, (N : Int)).2 = (N : Int) := w64 (by simp; omega)
  have g2 : (decide (0 ≤ (N : Int)) && decide ((N : Int) ≤ (N : Int)) && decide ((16 : Int) * (N : Int) ≤ 281474976710656) && decide ((N : Int) ≤ 9223372036854775807)) = true := by simp; omega
  simp only [g0, cond_false, bindP, g1, hw, g2, cond_true, Int.toNat_natCast, List.length_replicate]
  have e1 : ([c] : List S__2_int).take (N - 0) = [c] := List.take_of_length_le (by simp; omega)
  have e2 : ((min ([c] : List S__2_int).length (N - 0) : Nat) : Int) = ((1 : Nat) : Int) := by simp; omega
  rw [e1, e2]
  have hp : (pasteX (List.replicate N (⟨0, 0⟩ : S__2_int)) 0 [c]).length = N := by rw [pasteX_length (by simp; omega)]; simp
  have := rep_loop c F (pasteX (List.replicate N (⟨0, 0⟩ : S__2_int)) 0 [c]) 1 (by omega) (by rw [hp]; omega) (by rw [hp]; omega) (by rw [hp]; omega) (by simp [pasteX])
  rw [hp] at this
  rw [this]; rfl

/-- where it goes on behind the instruction of a first slot -/
def way (p : List Instr) (k : Int) : S__2_int :=
  ⟨bif refEnds (gt p k) then -1 else bif (gt p k).fOp == 24 then k + 2 else k + 1, bif (fn58 (gt p k) k).2 then (fn58 (gt p k) k).1 else -1⟩
def wayAt (p : List Instr) (k : Int) : S__2_int := bif gt (marks p) k then way p k else ⟨-1, -1⟩
def ways (p : List Instr) : List S__2_int := bif okP p then (List.range p.length).map (fun i : Nat => wayAt p (i : Int)) else []

theorem next1_eq {p : List Instr} {k : Int} (hp : p.length ≤ 5000) (h0 : 0 ≤ k) (h1 : k < p.length) : fn44 p k = some ((way p k).e0, (way p k).e1) := by
  have e1 : IntKind.i64.wrap (k + 1) = k + 1 := w64 (by omega)
  have e2 : IntKind.i64.wrap (k + 2) = k + 2 := w64 (by omega)
  have g : inb k p.length = true := inb_iff.2 ⟨h0, h1⟩
  have hr : refEnds (gt p k) = (((fn54 (gt p k) == 5) && ((fn55 (gt p k) == 144) || (fn55 (gt p k) == 0))) || ((fn54 (gt p k) == 6) && (fn55 (gt p k) == 0))) := rfl
  simp only [fn44, way, g, cond_true, bindP, fn71, e1, e2, ← hr]
  cases ((gt p k).fOp == 24) <;> cases (fn58 (gt p k) k).2 <;> cases refEnds (gt p k) <;> rfl

theorem way_eq {p : List Instr} {k : Int} (hp : p.length ≤ 5000) (hw : WF p) (h0 : 0 ≤ k) (h1 : k < p.length) (hk : fn76 (gt p k) = true) : fn57 (fn60 (gt p k)) k = way p k := by
  have e1 : IntKind.i64.wrap (k + 1) = k + 1 := w64 (by omega)
  have e2 : IntKind.i64.wrap (k + 1 + 1) = k + 2 := by rw [w64 (by omega)]; omega
  have ok := hw.gt h0 h1
  simp only [fn57, way, bindP, tg_eq ok hk, en_eq ok hk, fn60_instr, e1, e2]
  cases ((gt p k).fOp == 24) <;> cases (fn58 (gt p k) k).2 <;> cases refEnds (gt p k) <;> rfl

theorem set_fold {α : Type} (f : Int → α) : ∀ (l : List Int) (ys : List α) (i : Nat), (l.foldl (fun s y => s.set y.toNat (f y)) ys).length = ys.length ∧
    ((∀ y ∈ l, 0 ≤ y) → (l.foldl (fun s y => s.set y.toNat (f y)) ys)[i]? = if (i : Int) ∈ l ∧ i < ys.length then some (f i) else ys[i]?)
  | [], ys, i => ⟨rfl, fun _ => by simp⟩
  | y :: l, ys, i => by
    obtain ⟨h1, h2⟩ := set_fold f l (ys.set y.toNat (f y)) i
    refine ⟨by rw [List.foldl_cons, h1, List.length_set], fun h => ?_⟩
    have hy := h y (by simp)
    rw [List.foldl_cons, h2 (fun z hz => h z (by simp [hz])), List.length_set, List.getElem?_set]
    by_cases hl : (i : Int) ∈ l
    · by_cases hi : i < ys.length
      · simp [hl, hi]
      · simp [hi]; omega
    · by_cases hyi : y = (i : Int)
      · subst hyi
        by_cases hi : i < ys.length
        · simp [hl, hi]
        · simp [hi]
      · have : ¬ y.toNat = i := by omega
        have : ¬ (i : Int) = y := fun e => hyi e.symm
        simp [*]

theorem ways_prog {F : Nat} {p : List Instr} (hF : 6000 ≤ F) (hp : p.length ≤ 5000) (hw : WF p) : fn31 F p = some (ways p) := by
  rw [fn31, check_prog hF hp hw, Option.bind_some, ways]
  cases ho : okP p with
  | false =>
    have : ((chk p).2 != 0) = true := by unfold okP at ho; simpa [bne] using ho
    rw [this]; rfl
  | true =>
    have h0 : ((chk p).2 != 0) = false := by unfold okP at ho; simpa [bne] using ho
    obtain ⟨hne, hlen⟩ := ok_len ho
    have hpos : 1 ≤ p.length := List.length_pos_iff.2 hne
    rw [h0, cond_false, cond_true, repeat_eq p.length hF hpos hlen, Option.bind_some]
    rw [fn59_run _ _ _ _ (by omega) (by omega)]
    have hk : ∀ y ∈ firstsL p 0, fn57 y.2 y.1 = way p y.1 := fun y hy => by
      obtain ⟨a, b, c⟩ := first_slot hy
      rw [c, way_eq hp hw a b (er_known (ok_er ho y hy))]
    obtain ⟨r1, r2⟩ := runL_inv (stepB := fun (s : List S__2_int) (y : Int × Slot) => fn31_r1 s y.1 y.2) (f := fun s y => s.set y.1.toNat (way p y.1)) (P := fun s => s.length = p.length) (firstsL p 0) (List.replicate p.length ⟨-1, -1⟩) (by simp) (fun s y hy hs => by
      obtain ⟨a, b, c⟩ := first_slot hy
      have g : inb y.1 s.length = true := by rw [hs]; exact inb_iff.2 ⟨a, b⟩
      refine ⟨by simp only [fn31_r1, bindP, hk y hy, g, cond_true], by simp [hs]⟩)
    rw [r1]
    simp only [Option.bind_some, show Nat.beq 0 0 = true from rfl, cond_true, fn31_k1_0]
    congr 1
    apply List.ext_getElem?
    intro i
    have hf : (firstsL p 0).foldl (fun (s : List S__2_int) (y : Int × Slot) => s.set y.1.toNat (way p y.1)) (List.replicate p.length ⟨-1, -1⟩) = ((firstsL p 0).map (·.1)).foldl (fun s y => s.set y.toNat (way p y)) (List.replicate p.length ⟨-1, -1⟩) := by rw [List.foldl_map]
    rw [hf, (set_fold (way p) _ _ i).2 (fun y hy => by obtain ⟨z, hz, rfl⟩ := List.mem_map.1 hy; exact (first_slot hz).1)]
    have hpl := pos_pl p (i : Int)
    have hmem : ((i : Int) ∈ (firstsL p 0).map (·.1)) ↔ pl p (i : Int) = true := by
      rw [← hpl, posIn, List.any_eq_true]
      constructor
      · intro h; obtain ⟨y, h1, h2⟩ := List.mem_map.1 h; exact ⟨y, h1, by simp [h2]⟩
      · rintro ⟨y, h1, h2⟩; exact List.mem_map.2 ⟨y, h1, by simpa using h2⟩
    rw [List.length_replicate, List.getElem?_map]
    by_cases hi : i < p.length
    · have e : pl p (i : Int) = gt (marks p) (i : Int) := by
        have a : decide ((0 : Int) ≤ (i : Int)) = true := by simp
        have b : decide ((i : Int) < (p.length : Int)) = true := by simp; omega
        rw [pl, a, b]; rfl
      rw [e] at hmem
      rw [List.getElem?_range hi, Option.map_some, wayAt]
      cases hg : gt (marks p) (i : Int) with
      | true => rw [hg] at hmem; rw [if_pos ⟨hmem.2 rfl, hi⟩]; rfl
      | false => rw [hg] at hmem; rw [if_neg (fun h => by have := hmem.1 h.1; cases this), List.getElem?_replicate, if_pos hi]; rfl
    · rw [if_neg (fun h => hi h.2), List.getElem?_eq_none (by simp; omega), List.getElem?_eq_none (by simp; omega)]; rfl
end Go.Proofs.Ytbpldfhehpjbaaa
