/- Part of the proof: the logic, the walks, and what they compute. -/
import Derived.ChangeSame
import Derived.Carry
import Derived.ProofKit
import Derived.OpenShut
import Derived.KernelRfl
import Derived.SizedLaws
import Derived.Test.YtfjefnnbodgfbaaGreatDoorRows
import Derived.Lib.LaidU8
import Derived.Shelf.Vars
import Derived.LaidLaws
import Derived.Handed
import Derived.Stop.Joined
import Derived.Test.YtfjefnnbodgfbaaGreatDoorTD
set_option linter.all false
namespace Go.Proofs.YtfjefnnbodgfbaaGreatDoor
open Go Go.HW
set_option linter.unusedVariables false
set_option maxRecDepth 100000
def nSlot : ByteArray := ⟨#[115, 108, 111, 116]⟩
def nLd : ByteArray := ⟨#[108, 100, 100, 119]⟩
def nMap : ByteArray := ⟨#[108, 100, 109, 97, 112]⟩
def nameF (w : ByteArray) : List Form := mget tabP.1 w ([] : List Form)
def keysP : List ByteArray := tabP.1.map (·.1)
def chkN (w : ByteArray) : Bool := decide (w = nLd) || decide (w = nMap) || (decide ((nameF w).map toR = tabD.filter fun f => decide (f.fname = w)) && (nameF w).all (fun f => goodB f.fname f.fwords && !(f.fslot.fOp == 24)) && decide ((nameF w).length ≤ 900))
theorem chkN_ok : keysP.all chkN = true := by decide +kernel
theorem keysD : tabD.all (fun f => keysP.any fun w => decide (w = f.fname)) = true := by decide +kernel
theorem nameLd : nameF nLd = [fLd] := by decide +kernel
theorem nameMap : nameF nMap = [fMap] := by decide +kernel
theorem mfind_miss {κ α : Type} [DecidableEq κ] {k : κ} : ∀ {xs : List (κ × α)}, (xs.map (·.1)).any (fun w => decide (w = k)) = false → mfind xs k = none
 | [], _ => rfl
 | p :: xs, h => by
  simp only [List.map_cons, List.any_cons, Bool.or_eq_false_iff] at h
  unfold mfind
  rw [h.1]
  exact mfind_miss h.2
theorem name_miss {w : ByteArray} (h : keysP.any (fun v => decide (v = w)) = false) : nameF w = [] := by
 unfold nameF mget
 rw [mfind_miss h]; rfl
theorem name_missD {w : ByteArray} (h : keysP.any (fun v => decide (v = w)) = false) : tabD.filter (fun f => decide (f.fname = w)) = [] := by
 rw [List.filter_eq_nil_iff]
 intro f hf hc
 have := List.all_eq_true.1 keysD f hf
 rw [of_decide_eq_true hc] at this
 rw [this] at h; cases h
theorem name_ok {w : ByteArray} (h1 : w ≠ nLd) (h2 : w ≠ nMap) : (nameF w).map toR = tabD.filter (fun f => decide (f.fname = w)) ∧ (∀ f ∈ nameF w, Good f.fname f.fwords ∧ (f.fslot.fOp == 24) = false) ∧ (nameF w).length ≤ 900 := by
 cases hk : keysP.any (fun v => decide (v = w)) with
 | false =>
  rw [name_miss hk, name_missD hk]
  exact ⟨rfl, fun f hf => absurd hf (by simp), Nat.zero_le _⟩
 | true =>
  obtain ⟨v, hv, he⟩ := List.any_eq_true.1 hk
  have := of_decide_eq_true he
  subst this
  have hc := List.all_eq_true.1 chkN_ok _ hv
  unfold chkN at hc
  rw [decide_eq_false h1, decide_eq_false h2] at hc
  simp only [Bool.false_or, Bool.and_eq_true, decide_eq_true_eq, List.all_eq_true, Bool.not_eq_true'] at hc
  exact ⟨hc.1.1, fun f hf => ⟨goodB_ok (hc.1.2 f hf).1, (hc.1.2 f hf).2⟩, hc.2⟩
def fl (ws : List ByteArray) (f : RForm) : Option Instr := fillS f.fslot (lts f.fwords) ws
def flN (n : ByteArray) (ws : List ByteArray) (f : RForm) : Option Instr := bif decide (f.fname = n) then fl ws f else none
theorem find_n (n : ByteArray) (ws : List ByteArray) : ∀ p : List RForm, (p.filter fun f => decide (f.fname = n)).findSome? (fl ws) = p.findSome? (flN n ws)
 | [] => rfl
 | f :: p => by
  rw [List.filter_cons, List.findSome?_cons]
  unfold flN
  by_cases h : f.fname = n
  ·rw [decide_eq_true h, if_pos rfl, List.findSome?_cons, cond_true, find_n n ws p]; rfl
  ·rw [decide_eq_false h, if_neg (by simp), find_n n ws p, cond_false]; rfl
theorem find_m (ws : List ByteArray) : ∀ p : List Form, (p.map toR).findSome? (fl ws) = p.findSome? fun f => fillS f.fslot (lts f.fwords) ws
 | [] => rfl
 | f :: p => by rw [List.map_cons, List.findSome?_cons, List.findSome?_cons, find_m ws p]; rfl
theorem name_find {w : ByteArray} (h1 : w ≠ nLd) (h2 : w ≠ nMap) (ws : List ByteArray) : ((nameF w).findSome? fun f => fillS f.fslot (lts f.fwords) ws) = tabD.findSome? (flN w ws) := by
 rw [← find_m, (name_ok h1 h2).1, find_n]
theorem cutW1 {n : ByteArray} {ws : List ByteArray} : sliceOk (1 : Int) (((n :: ws).length : Nat) : Int) (n :: ws).length = true ∧ cutX (n :: ws) ((1 : Int).toNat) ((1 : Int).toNat + ((((n :: ws).length : Nat) : Int).toNat - (1 : Int).toNat)) = ws := by
 refine ⟨sliceOk_iff.2 ⟨by omega, by simp only [List.length_cons]; omega, by omega⟩, ?_⟩
 have e : (1 : Int).toNat + ((((n :: ws).length : Nat) : Int).toNat - (1 : Int).toNat) = (n :: ws).length := by simp only [List.length_cons]; omega
 rw [e]
 unfold cutX
 rw [List.take_length]; rfl
theorem cutW2 {n o : ByteArray} {ws : List ByteArray} : sliceOk (2 : Int) (((n :: o :: ws).length : Nat) : Int) (n :: o :: ws).length = true ∧ cutX (n :: o :: ws) ((2 : Int).toNat) ((2 : Int).toNat + ((((n :: o :: ws).length : Nat) : Int).toNat - (2 : Int).toNat)) = ws := by
 refine ⟨sliceOk_iff.2 ⟨by omega, by simp only [List.length_cons]; omega, by omega⟩, ?_⟩
 have e : (2 : Int).toNat + ((((n :: o :: ws).length : Nat) : Int).toNat - (2 : Int).toNat) = (n :: o :: ws).length := by simp only [List.length_cons]; omega
 rw [e]
 unfold cutX
 rw [List.take_length]; rfl
theorem prog_fill {F0 : Nat} (hF0 : 60 ≤ F0) {n : ByteArray} {ws : List ByteArray} (hsz : ∀ w ∈ ws, w.size ≤ 281474976710656) {p : List Form} (hg : ∀ f ∈ p, Good f.fname f.fwords ∧ (f.fslot.fOp == 24) = false) (hlen : p.length ≤ 1000) :
  ∀ (k i F : Nat), p.length - i = k → i ≤ p.length → k < F →
   fn115_l1 (stepR (fun (s : List Instr) (y1 : Form) => fn34_r1 F0 (n :: ws) s y1)) goR p F (([] : List Instr), 0) (i : Int) =
    match (p.drop i).findSome? (fun f => fillS f.fslot (lts f.fwords) ws) with
    | some y => some (.inr ([y], 1))
    | none => some (.inl ([], 0)) := by
 intro k
 induction k with
 | zero =>
  intro i F hn hi hF
  obtain ⟨F, rfl⟩ : ∃ n, F = n + 1 := ⟨F - 1, by omega⟩
  rw [fn115_l1_s, fn115_b1, decide_eq_false (by omega), cond_false, List.drop_eq_nil_of_le (by omega)]; rfl
 | succ k ih =>
  intro i F hn hi hF
  obtain ⟨F, rfl⟩ : ∃ n, F = n + 1 := ⟨F - 1, by omega⟩
  have hlt : i < p.length := by omega
  have hin : inb (i : Int) p.length = true := by simp [inb]; omega
  have hget : gt p (i : Int) = p[i] := by simp [gt, hlt]
  have hmem : p[i] ∈ p := List.getElem_mem hlt
  obtain ⟨g1, g2⟩ := hg _ hmem
  have ht := fn72_ok (f := p[i]) (ws := ws) (F := F0) hsz g1.let_ g1.len hF0 (by rw [g2]; rfl)
  have hw : IntKind.i64.wrap ((i : Int) + 1) = ((i + 1 : Nat) : Int) := by rw [w64 (by omega)]; omega
  rw [fn115_l1_s, fn115_b1, decide_eq_true (by omega), cond_true, hin, cond_true, hget, List.drop_eq_getElem_cons hlt, List.findSome?_cons]
  show Option.bind (stepR _ (([] : List Instr), 0) p[i]) _ = _
  have hst : stepR (fun (s : List Instr) (y1 : Form) => fn34_r1 F0 (n :: ws) s y1) (([] : List Instr), 0) p[i] =
    some (match fillS p[i].fslot (lts p[i].fwords) ws with | some y => ([y], 1) | none => ([], 0)) := by
   unfold stepR
   show (bif Nat.beq 0 0 then fn34_r1 F0 (n :: ws) [] p[i] else none) = _
   rw [show Nat.beq 0 0 = true from rfl, cond_true, fn34_r1, cutW1.1, cond_true, cutW1.2, ht]
   cases fillS p[i].fslot (lts p[i].fwords) ws <;> rfl
  rw [hst, Option.bind_some]
  cases hd : fillS p[i].fslot (lts p[i].fwords) ws with
  | some y => rfl
  | none =>
   show (bif !(goR (([] : List Instr), 0)) then _ else fn115_l1 _ goR p F (([] : List Instr), 0) (IntKind.i64.wrap ((i : Int) + 1))) = _
   rw [show (!(goR (([] : List Instr), 0))) = false from rfl, cond_false, hw]
   exact ih (i + 1) F (by omega) (by omega) (by omega)
end Go.Proofs.YtfjefnnbodgfbaaGreatDoor
namespace Go.Proofs.YtfjefnnbodgfbaaGreatDoor
open Go Go.HW
set_option linter.unusedVariables false
set_option maxRecDepth 100000
def ldS : List ByteArray → Option (List Instr)
 | [d, i] => match regP (bL d) with
  | some d => match numR (-9223372036854775808) 9223372036854775807 (bL i) with
   | some v => some [⟨24, d, 0, 0, IntKind.i32.wrap v⟩, ⟨0, 0, 0, 0, IntKind.i32.wrap (ishr .i64 v 32)⟩]
   | none => none
  | none => none
 | _ => none
def mapS (ws : List ByteArray) : Option (List Instr) := match fillS ⟨24, 0, 1, 0, 0⟩ [68, 73] ws with | some y => some [y, ⟨0, 0, 0, 0, 0⟩] | none => none
def slotS : List ByteArray → Option (List Instr)
 | o :: r => match numR 0 255 (bL o) with
  | some v => match fillS ⟨v, 0, 0, 0, 0⟩ [68, 83, 79, 73] r with | some y => some [y] | none => none
  | none => none
 | [] => none
def oneS : Option Instr → Option (List Instr)
 | some y => some [y]
 | none => none
def othS (n : ByteArray) (r : List ByteArray) : Option (List Instr) := oneS (tabD.findSome? (flN n r))
theorem othS_d (n : ByteArray) (r : List ByteArray) : othS n r = oneS (tabD.findSome? (flN n r)) := rfl
def lineS : List ByteArray → Option (List Instr)
 | n :: r => bif decide (n = nSlot) then slotS r else bif decide (n = nLd) then ldS r else bif decide (n = nMap) then mapS r else othS n r
 | [] => none
def pairS : Option (List Instr) → List Instr × Bool
 | some l => (l, true)
 | none => ([], false)
theorem lLd : fLd.fwords.size = 2 := rfl
theorem lMap : fMap.fwords.size = 2 := rfl
theorem map_letters : letters fMap.fwords 0 [68, 73] := lettersB_ok _ _ _ (by decide +kernel)
theorem fn72_ld {ws : List ByteArray} {F : Nat} (hsz : ∀ w ∈ ws, w.size ≤ 281474976710656) (hF : 60 ≤ F) : fn72 F fLd ws = some (pairS (ldS ws)) := by
 unfold fn72
 rw [lLd]
 rcases ws with _ | ⟨d, _ | ⟨i, _ | ⟨x, ws⟩⟩⟩
 ·rfl
 ·rfl
 ·have hd := hsz d (by simp)
  have hi := hsz i (by simp)
  obtain ⟨F, rfl⟩ : ∃ n, F = n + 3 := ⟨F - 3, by omega⟩
  have hin0 : inb ((0 : Nat) : Int) [d, i].length = true := rfl
  have hin1 : inb ((1 : Nat) : Int) [d, i].length = true := rfl
  rw [show (([d, i].length : Nat) : Int) = 2 from rfl, show ((2 : Int) == ((2 : Nat) : Int)) = true from rfl, fn70_t]
  show Option.bind (fn72_l1 fLd [d, i] (F + 2 + 1) fLd.fslot.fOp fLd.fslot.fDst fLd.fslot.fSrc fLd.fslot.fOff fLd.fslot.fImm 0 0 0 0 0 0) _ = _
  rw [fn72_l1_s, fn72_b1, lLd, show decide (0 < 2) = true from rfl, cond_true, hin0, cond_true, show Utf8.decode fLd.fwords 0 = (68, 1) by decide +kernel]
  have hs := set_ok (x := fLd.fslot) (y := ⟨0, 0, 0, 0, 0⟩) (ws := []) (c := ((68 : Nat) : Int)) hd (by decide)
  show Option.bind (frk2 (fn103 ⟨fLd.fslot, ⟨0, 0, 0, 0, 0⟩, []⟩ ((68 : Nat) : Int) d) _ _) _ = _
  rw [hs, show partW ((68 : Nat) : Int) d = regP (bL d) from rfl]
  cases hr : regP (bL d) with
  | none => rw [ldS, hr]; rfl
  | some r =>
   show Option.bind (fn72_l1 fLd [d, i] (F + 1 + 1) 24 r 0 0 0 0 0 0 0 0 1) _ = _
   rw [fn72_l1_s, fn72_b1, lLd, show decide (1 < 2) = true from rfl, cond_true, hin1, cond_true, show Utf8.decode fLd.fwords 1 = (78, 1) by decide +kernel]
   unfold fn103
   rw [show (((78 : Nat) : Int) == 68) = false from rfl, show (((78 : Nat) : Int) == 83) = false from rfl, show (((78 : Nat) : Int) == 73) = false from rfl, show (((78 : Nat) : Int) == 78) = true from rfl, cond_false, cond_false, cond_false, cond_true, show gt [d, i] ((1 : Nat) : Int) = i from rfl, fn71_64 hi, ldS, hr]
   cases hn : numR (-9223372036854775808) 9223372036854775807 (bL i) with
   | none => rfl
   | some v =>
    show Option.bind (fn72_l1 fLd [d, i] (F + 1) 24 r 0 0 (IntKind.i32.wrap v) 0 0 0 0 (IntKind.i32.wrap (ishr .i64 v 32)) 2) _ = _
    rw [fn72_l1_s, fn72_b1, lLd, show decide (2 < 2) = false from rfl, cond_false, Option.bind_some]
    show fn72_k1 fLd 24 r 0 0 (IntKind.i32.wrap v) 0 0 0 0 (IntKind.i32.wrap (ishr .i64 v 32)) = _
    unfold fn72_k1
    rw [neL, show ((24 : Int) == (fn56 0).fOp) = true from rfl, show decide (fLd.fname = (⟨#[115, 108, 111, 116]⟩ : ByteArray)) = false by decide]
    rfl
 ·rw [show ((((d :: i :: x :: ws).length : Nat) : Int) == ((2 : Nat) : Int)) = false from beq_eq_false_iff_ne.2 (by simp only [List.length_cons]; omega), fn70_f]; rfl
theorem fn72_map {ws : List ByteArray} {F : Nat} (hsz : ∀ w ∈ ws, w.size ≤ 281474976710656) (hF : 60 ≤ F) : fn72 F fMap ws = some (pairS (mapS ws)) := by
 unfold fn72
 by_cases hlen : ws.length = 2
 ·rw [lMap, show (((ws.length : Nat) : Int) == ((2 : Nat) : Int)) = true by rw [hlen]; rfl, fn70_t]
  have h := fill_l fMap ws hsz [68, 73] 0 F fMap.fslot map_letters (by rw [hlen]; rfl) (by decide) (by simp only [List.length_cons, List.length_nil]; omega)
  rw [List.drop_zero] at h
  show Option.bind (fn72_l1 fMap ws F fMap.fslot.fOp fMap.fslot.fDst fMap.fslot.fSrc fMap.fslot.fOff fMap.fslot.fImm 0 0 0 0 0 0) _ = _
  rw [h, Option.bind_some, mapS]
  show _ = some (pairS (match fillS fMap.fslot [68, 73] ws with | some y => some [y, ⟨0, 0, 0, 0, 0⟩] | none => none))
  cases hf : fillS fMap.fslot [68, 73] ws with
  | none => rfl
  | some y =>
   show fn72_k1 fMap y.fOp y.fDst y.fSrc y.fOff y.fImm 0 0 0 0 0 = _
   unfold fn72_k1
   rw [neL, fillS_op hf, show (fMap.fslot.fOp == (fn56 0).fOp) = true from rfl, show decide (fMap.fname = (⟨#[115, 108, 111, 116]⟩ : ByteArray)) = false by decide, ← fillS_op hf]
   rfl
 ·rw [lMap, show (((ws.length : Nat) : Int) == ((2 : Nat) : Int)) = false from beq_eq_false_iff_ne.2 (by omega), fn70_f, mapS, fill_nil _ _ _ (by simp only [List.length_cons, List.length_nil]; omega)]
  rfl
end Go.Proofs.YtfjefnnbodgfbaaGreatDoor
namespace Go.Proofs.YtfjefnnbodgfbaaGreatDoor
open Go Go.HW
set_option linter.unusedVariables false
set_option maxRecDepth 100000
def mkB (l : List UInt8) : ByteArray := ⟨l.toArray⟩
theorem bL_mkB (l : List UInt8) : bL (mkB l) = l := bL_mk l
theorem mkB_size (l : List UInt8) : (mkB l).size = l.length := by rw [← bL_len, bL_mkB]
def parts (c : UInt8) (s : ByteArray) : List ByteArray := (spl c (bL s)).map mkB
theorem spl_len (c : UInt8) : ∀ (l : List UInt8), (spl c l).length ≤ l.length + 1 ∧ ∀ x ∈ spl c l, x.length ≤ l.length
 | [] => ⟨Nat.le_refl _, fun x hx => by rw [show spl c [] = [[]] from rfl, List.mem_singleton] at hx; rw [hx]; exact Nat.le_refl _⟩
 | b :: l => by
  obtain ⟨h1, h2⟩ := spl_len c l
  rw [spl]
  cases b == c with
  | true =>
   rw [cond_true]
   refine ⟨by simp only [List.length_cons]; omega, fun x hx => ?_⟩
   rcases List.mem_cons.1 hx with rfl | hx
   ·exact Nat.zero_le _
   ·exact Nat.le_succ_of_le (h2 x hx)
  | false =>
   rw [cond_false]
   cases hs : spl c l with
   | nil => exact absurd hs (spl_ne c l)
   | cons y r =>
    rw [hs] at h1 h2
    refine ⟨by simp only [List.length_cons] at h1 ⊢; omega, fun x hx => ?_⟩
    rcases List.mem_cons.1 hx with rfl | hx
    ·have := h2 y (by simp); simp only [List.length_cons]; omega
    ·have := h2 x (by simp [hx]); simp only [List.length_cons]; omega
theorem parts_ne (c : UInt8) (s : ByteArray) : parts c s ≠ [] := by
 unfold parts
 intro h
 exact spl_ne c _ (List.map_eq_nil_iff.1 h)
theorem parts_size {c : UInt8} {s w : ByteArray} (h : w ∈ parts c s) : w.size ≤ s.size := by
 unfold parts at h
 obtain ⟨l, hl, rfl⟩ := List.mem_map.1 h
 rw [mkB_size, ← bL_len]
 exact (spl_len c _).2 l hl
theorem parts_len (c : UInt8) (s : ByteArray) : (parts c s).length ≤ s.size + 1 := by
 unfold parts
 rw [List.length_map, ← bL_len]
 exact (spl_len c _).1
theorem fn17_sp {s : ByteArray} (hs : s.size < 4294967281) : fn17 s (⟨#[32]⟩ : ByteArray) = some (parts 32 s) := by
 show (bif decide (s.size < 4294967281) then _ else none) = _
 rw [decide_eq_true hs]; rfl
theorem fn17_nl {s : ByteArray} (hs : s.size < 4294967281) : fn17 s (⟨#[10]⟩ : ByteArray) = some (parts 10 s) := by
 show (bif decide (s.size < 4294967281) then _ else none) = _
 rw [decide_eq_true hs]; rfl
theorem raw_letters : letters (⟨#[68, 83, 79, 73]⟩ : ByteArray) 0 [68, 83, 79, 73] := lettersB_ok _ _ _ (by decide +kernel)
theorem raw_lts : lts (⟨#[68, 83, 79, 73]⟩ : ByteArray) = [68, 83, 79, 73] := by decide
def outP (o : Option (List Instr)) : Int ⊕ List Instr := match o with | some l => .inr l | none => .inl 25
theorem numR_255 (l : List UInt8) : numR 0 255 l = match numR (-9223372036854775808) 9223372036854775807 l with | some z => bif inR 0 255 z then some z else none | none => none := (numR_sub (by decide) (by decide) l).symm
theorem w8 {v : Int} (h : 0 ≤ v ∧ v ≤ 255) : IntKind.u8.wrap v = v := by rw [IntKind.wrap_u8]; omega
theorem fn34_ok {s : ByteArray} {F : Nat} (hs : s.size ≤ 1000000) (hF : 1001 ≤ F) : fn34 F tabP.1 tabP.2 s = some (outP (lineS (parts 32 s))) := by
 have hsz : ∀ w ∈ parts 32 s, w.size ≤ 281474976710656 := fun w hw => by have := parts_size hw; omega
 unfold fn34
 rw [fn17_sp (by omega), Option.bind_some]
 cases hp : parts 32 s with
 | nil => exact absurd hp (parts_ne _ _)
 | cons n ws =>
  rw [hp] at hsz
  have hsz' : ∀ w ∈ ws, w.size ≤ 281474976710656 := fun w hw => hsz w (by simp [hw])
  have hin0 : inb 0 (n :: ws).length = true := inb_iff.2 ⟨by omega, by simp only [List.length_cons]; omega⟩
  rw [hin0, cond_true, show gt (n :: ws) 0 = n from rfl, eqL, lineS, show (⟨#[115, 108, 111, 116]⟩ : ByteArray) = nSlot from rfl]
  by_cases h1 : n = nSlot
  ·rw [decide_eq_true h1, cond_true, cond_true]
   cases ws with
   | nil =>
    rw [show (([n].length : Nat) : Int) = 1 from rfl, decide_eq_false (show ¬ (1 : Int) < 1 by omega), fn70_f]; rfl
   | cons o r =>
    have hin1 : inb 1 (n :: o :: r).length = true := inb_iff.2 ⟨by omega, by simp only [List.length_cons]; omega⟩
    have hszr : ∀ w ∈ r, w.size ≤ 281474976710656 := fun w hw => hsz' w (by simp [hw])
    rw [decide_eq_true (show (1 : Int) < (((n :: o :: r).length : Nat) : Int) by simp only [List.length_cons]; omega), fn70_t]
    show (bif inb 1 (n :: o :: r).length then _ else none) = _
    rw [hin1, cond_true, show gt (n :: o :: r) 1 = o from rfl, fn71_64 (hsz' o (by simp)), slotS, numR_255]
    cases hn : numR (-9223372036854775808) 9223372036854775807 (bL o) with
    | none => rfl
    | some v =>
     show frk2 (fn70 (decide ((0 : Int) ≤ v) && decide (v < 256))) _ _ = some (outP (match (bif inR 0 255 v then some v else none) with | some v => (match fillS ⟨v, 0, 0, 0, 0⟩ [68, 83, 79, 73] r with | some y => some [y] | none => none) | none => none))
     have he : (decide ((0 : Int) ≤ v) && decide (v < 256)) = inR 0 255 v := by
      unfold inR
      rw [show decide (v < 256) = decide (v ≤ 255) from by rw [decide_eq_decide]; omega]
     rw [he]
     cases hr : inR 0 255 v with
     | false => rw [fn70_f]; rfl
     | true =>
      simp only [inR, Bool.and_eq_true, decide_eq_true_eq] at hr
      rw [fn70_t, cond_true]
      show (bif sliceOk (2 : Int) (((n :: o :: r).length : Nat) : Int) (n :: o :: r).length then _ else none) = _
      have ht := fn72_ok (f := ⟨nSlot, (⟨#[68, 83, 79, 73]⟩ : ByteArray), ⟨v, 0, 0, 0, 0⟩⟩) (ws := r) (F := F) hszr (by rw [show lts _ = [68, 83, 79, 73] from raw_lts]; exact raw_letters) (by rw [show lts _ = [68, 83, 79, 73] from raw_lts]; decide) (by omega)
       (by rw [decide_eq_true (show nSlot = (⟨#[115, 108, 111, 116]⟩ : ByteArray) from rfl), Bool.not_true, Bool.and_false])
      rw [show lts _ = [68, 83, 79, 73] from raw_lts] at ht
      rw [cutW2.1, cond_true, cutW2.2, w8 hr, ht]
      show frk2 (fn70 _) _ _ = some (outP (match fillS ⟨v, 0, 0, 0, 0⟩ [68, 83, 79, 73] r with | some y => some [y] | none => none))
      cases fillS ⟨v, 0, 0, 0, 0⟩ [68, 83, 79, 73] r <;> rfl
  ·rw [decide_eq_false h1, cond_false, cond_false]
   show Option.bind (fn115 F (stepR (fun (s : List Instr) (y : Form) => fn34_r1 F (n :: ws) s y)) goR (nameF n) (([] : List Instr), 0)) _ = _
   have h34 : ∀ f, fn34_r1 F (n :: ws) [] f = Option.bind (fn72 F f ws) fun v => bif v.2 then some (v.1, 1) else some ([], 0) := fun f => by
    rw [fn34_r1, cutW1.1, cond_true, cutW1.2]
    cases fn72 F f ws <;> rfl
   have one : ∀ (f : Form) (o : Option (List Instr)), fn72 F f ws = some (pairS o) → Option.bind (fn115 F (stepR (fun (s : List Instr) (y : Form) => fn34_r1 F (n :: ws) s y)) goR [f] (([] : List Instr), 0)) (fun o41 => (bif Nat.beq o41.2 0 then (fn34_k1_0 o41.1) else (bif Nat.beq o41.2 1 then (fn34_k1_1 o41.1) else none))) = some (outP o) := fun f o h => by
    obtain ⟨F', rfl⟩ : ∃ k, F = k + 2 := ⟨F - 2, by omega⟩
    unfold fn115
    rw [fn115_l1_s, fn115_b1, show decide ((0 : Int) < (([f].length : Nat) : Int)) = true from rfl, cond_true, show inb 0 [f].length = true from rfl, cond_true]
    show Option.bind (Option.bind (Option.bind (fn34_r1 (F' + 2) (n :: ws) [] f) _) _) _ = _
    rw [h34, h, Option.bind_some]
    cases o with
    | some l => rfl
    | none =>
     show Option.bind (Option.bind (fn115_l1 (stepR (fun (s : List Instr) (y : Form) => fn34_r1 (F' + 2) (n :: ws) s y)) goR [f] (F' + 1) (([] : List Instr), 0) 1) _) _ = _
     rw [fn115_l1_s, fn115_b1, show decide ((1 : Int) < (([f].length : Nat) : Int)) = false from rfl]
     rfl
   by_cases h2 : n = nLd
   ·rw [decide_eq_true h2, cond_true, h2, nameLd]
    rw [h2] at one
    exact one fLd _ (fn72_ld hsz' (by omega))
   ·rw [decide_eq_false h2, cond_false]
    by_cases h3 : n = nMap
    ·rw [decide_eq_true h3, cond_true, h3, nameMap]
     rw [h3] at one
     exact one fMap _ (fn72_map hsz' (by omega))
    ·rw [decide_eq_false h3, cond_false, othS_d]
     obtain ⟨_, g1, g2⟩ := name_ok h2 h3
     have hl := prog_fill (F0 := F) (n := n) (by omega) hsz' g1 (by omega) (nameF n).length 0 F (by omega) (by omega) (by omega)
     rw [List.drop_zero, name_find h2 h3] at hl
     unfold fn115
     rw [show ((0 : Nat) : Int) = 0 from rfl] at hl
     rw [hl]
     generalize tabD.findSome? (flN n ws) = z
     cases z <;> rfl
end Go.Proofs.YtfjefnnbodgfbaaGreatDoor
namespace Go.Proofs.YtfjefnnbodgfbaaGreatDoor
open Go Go.HW
set_option linter.unusedVariables false
set_option maxRecDepth 100000
theorem lineS_len {ws : List ByteArray} {l : List Instr} (h : lineS ws = some l) : l.length ≤ 2 := by
 cases ws with
 | nil => cases h
 | cons n r =>
  rw [lineS] at h
  cases h1 : decide (n = nSlot) with
  | true =>
   rw [h1, cond_true] at h
   cases r with
   | nil => cases h
   | cons o r =>
    rw [slotS] at h
    split at h
    ·split at h
     ·cases h; exact Nat.le_succ _
     ·cases h
    ·cases h
  | false =>
   rw [h1, cond_false] at h
   cases h2 : decide (n = nLd) with
   | true =>
    rw [h2, cond_true] at h
    unfold ldS at h
    split at h
    ·split at h
     ·split at h
      ·cases h; exact Nat.le_refl _
      ·cases h
     ·cases h
    ·cases h
   | false =>
    rw [h2, cond_false] at h
    cases h3 : decide (n = nMap) with
    | true =>
     rw [h3, cond_true] at h
     unfold mapS at h
     split at h
     ·cases h; exact Nat.le_refl _
     ·cases h
    | false =>
     rw [h3, cond_false, othS_d] at h
     unfold oneS at h
     split at h
     ·cases h; exact Nat.le_succ _
     ·cases h
def bE : ByteArray := ⟨#[]⟩
def textS : List Instr → List ByteArray → Nat → List Instr ⊕ Nat
 | acc, [], _ => .inl acc
 | acc, x :: ls, i => bif decide (x = bE) then textS acc ls (i + 1) else match lineS (parts 32 x) with
  | some l => textS (acc ++ l) ls (i + 1)
  | none => .inr (i + 1)
def outS : List Instr ⊕ Nat → List Instr × Int × Int
 | .inl acc => bif decide ((4096 : Int) < (acc.length : Int)) then ([], 0, 3) else (acc, 0, 0)
 | .inr e => ([], (e : Int), 25)
theorem outS_l (acc : List Instr) : outS (.inl acc) = bif decide ((4096 : Int) < (acc.length : Int)) then ([], 0, 3) else (acc, 0, 0) := rfl
def parseS (s : ByteArray) : List Instr × Int × Int := outS (textS [] (parts 10 s) 0)
theorem prog_text {F0 : Nat} (hF0 : 1001 ≤ F0) {ls : List ByteArray} (hsz : ∀ x ∈ ls, x.size ≤ 1000000) (hlen : ls.length ≤ 1000001) :
  ∀ (k i F : Nat) (a : Int) (acc : List Instr), ls.length - i = k → i ≤ ls.length → k < F → acc.length ≤ 2 * i →
   match textS acc (ls.drop i) i with
   | .inl acc' => ∃ a', fn69_l1 (stepR (fun (s : Int × (List Instr)) (y : Int × ByteArray) => fn15_r1 F0 tabP s.1 s.2 y.1 y.2)) goR pnR ls F ((a, acc), 0) (i : Int) = some (.inl ((a', acc'), 0))
   | .inr e => ∃ acc', fn69_l1 (stepR (fun (s : Int × (List Instr)) (y : Int × ByteArray) => fn15_r1 F0 tabP s.1 s.2 y.1 y.2)) goR pnR ls F ((a, acc), 0) (i : Int) = some (.inr (.inl (((e : Int), acc'), 1025))) := by
 intro k
 induction k with
 | zero =>
  intro i F a acc hn hi hF ha
  obtain ⟨F, rfl⟩ : ∃ n, F = n + 1 := ⟨F - 1, by omega⟩
  rw [List.drop_eq_nil_of_le (by omega), textS]
  refine ⟨a, ?_⟩
  rw [fn69_l1_s, fn69_b1, decide_eq_false (by omega), cond_false]
 | succ k ih =>
  intro i F a acc hn hi hF ha
  obtain ⟨F, rfl⟩ : ∃ n, F = n + 1 := ⟨F - 1, by omega⟩
  have hlt : i < ls.length := by omega
  have hin : inb (i : Int) ls.length = true := by simp [inb]; omega
  have hget : gt ls (i : Int) = ls[i] := by simp [gt, hlt]
  have hw : IntKind.i64.wrap ((i : Int) + 1) = ((i + 1 : Nat) : Int) := by rw [w64' (by omega)]; omega
  rw [List.drop_eq_getElem_cons hlt, textS, fn69_l1_s, fn69_b1, decide_eq_true (show (i : Int) < (ls.length : Int) by omega), cond_true, hin, cond_true, hget, neL, hw, show (⟨#[]⟩ : ByteArray) = bE from rfl]
  cases hd : decide (ls[i] = bE) with
  | true =>
   rw [Bool.not_true, cond_false, cond_true]
   exact ih (i + 1) F a acc (by omega) (by omega) (by omega) (by omega)
  | false =>
   rw [Bool.not_false, cond_true, cond_false]
   have h34 := fn34_ok (s := ls[i]) (F := F0) (hsz _ (List.getElem_mem hlt)) hF0
   have hst : stepR (fun (s : Int × (List Instr)) (y : Int × ByteArray) => fn15_r1 F0 tabP s.1 s.2 y.1 y.2) ((a, acc), 0) (((i + 1 : Nat) : Int), ls[i]) =
     match lineS (parts 32 ls[i]) with
     | some l => some ((((i + 1 : Nat) : Int), acc ++ l), 0)
     | none => some ((((i + 1 : Nat) : Int), acc), 1025) := by
    unfold stepR
    show (bif Nat.beq 0 0 then fn15_r1 F0 tabP a acc ((i + 1 : Nat) : Int) ls[i] else none) = _
    rw [show Nat.beq 0 0 = true from rfl, cond_true, fn15_r1, h34]
    cases hl : lineS (parts 32 ls[i]) with
    | none => rfl
    | some l =>
     have := lineS_len hl
     show (bif decide ((acc.length + l.length) * 12 ≤ 140737488355328 ∧ acc.length + l.length ≤ 9223372036854775807) then some ((((i + 1 : Nat) : Int), acc ++ l), 0) else none) = _
     rw [decide_eq_true (by omega)]; rfl
   rw [hst]
   cases hl : lineS (parts 32 ls[i]) with
   | none => exact ⟨acc, rfl⟩
   | some l =>
    have := lineS_len hl
    exact ih (i + 1) F _ (acc ++ l) (by omega) (by omega) (by omega) (by rw [List.length_append]; omega)
theorem fn15_ok {s : ByteArray} {F : Nat} (ht : fn25 F = some tabP) (hs : s.size ≤ 262144) (hF : s.size + 2 ≤ F) (hF2 : 1001 ≤ F) : fn15 F s = some (parseS s) := by
 unfold fn15 parseS
 rw [decide_eq_false (by omega), cond_false, ht, Option.bind_some]
 unfold fn69 fn33
 rw [fn17_nl (by omega), Option.bind_some]
 have hl := parts_len 10 s
 have h := prog_text (F0 := F) hF2 (ls := parts 10 s) (fun x hx => by have := parts_size hx; omega) (by omega) (parts 10 s).length 0 F 0 [] (by omega) (by omega) (by omega) (by simp)
 rw [List.drop_zero] at h
 cases ht : textS [] (parts 10 s) 0 with
 | inl acc =>
  rw [ht] at h
  obtain ⟨a, e⟩ := h
  rw [show ((0 : Nat) : Int) = 0 from rfl] at e
  rw [e, outS_l]
  show fn15_k1_0 a acc = _
  unfold fn15_k1_0
  cases decide ((4096 : Int) < (acc.length : Int)) <;> rfl
 | inr k =>
  rw [ht] at h
  obtain ⟨a, e⟩ := h
  rw [show ((0 : Nat) : Int) = 0 from rfl] at e
  rw [e]; rfl
theorem same_l {l : List Instr} (hl : l.length ≤ 1000000) : ∀ (k i F : Nat), l.length - i = k → i ≤ l.length → k < F → fn16_l1 l l F (i : Int) = some (.inl ()) := by
 intro k
 induction k with
 | zero =>
  intro i F hn hi hF
  obtain ⟨F, rfl⟩ : ∃ n, F = n + 1 := ⟨F - 1, by omega⟩
  rw [fn16_l1_s, fn16_b1, decide_eq_false (by omega), cond_false]
 | succ k ih =>
  intro i F hn hi hF
  obtain ⟨F, rfl⟩ : ∃ n, F = n + 1 := ⟨F - 1, by omega⟩
  have hin : inb (i : Int) l.length = true := by simp [inb]; omega
  have hw : IntKind.i64.wrap ((i : Int) + 1) = ((i + 1 : Nat) : Int) := by rw [w64' (by omega)]; omega
  rw [fn16_l1_s, fn16_b1, decide_eq_true (by omega), cond_true, hin, cond_true, cond_true]
  simp only [beq_self_eq_true, Bool.and_self, Bool.not_true, cond_false]
  rw [hw]
  exact ih (i + 1) F (by omega) (by omega) (by omega)
theorem same_ok {l : List Instr} {F : Nat} (hl : l.length ≤ 1000000) (hF : l.length < F) : fn16 F l l = some true := by
 unfold fn16
 have h := same_l hl l.length 0 F (by omega) (by omega) hF
 rw [show ((0 : Nat) : Int) = 0 from rfl] at h
 rw [show ((l.length : Int) != (l.length : Int)) = false by rw [bne, beq_self_eq_true]; rfl, cond_false, h]; rfl
theorem awake_ok : fn10 300000 = some true := by decide +kernel
end Go.Proofs.YtfjefnnbodgfbaaGreatDoor
namespace Go.Proofs.YtfjefnnbodgfbaaGreatDoor
open Go Go.HW
set_option linter.unusedVariables false
set_option maxRecDepth 100000
theorem lineS_half {x : ByteArray} {l : List Instr} (hx : decide (x = bE) = false) (h : lineS (parts 32 x) = some l) : 2 * l.length ≤ x.size + 1 := by
 have h1 : 1 ≤ x.size := by
  rcases Nat.eq_zero_or_pos x.size with h0 | h0
  ·have : x = bE := bL_inj (by rw [List.eq_nil_of_length_eq_zero (by rw [bL_len, h0] : (bL x).length = 0)]; rfl)
   rw [decide_eq_true this] at hx; cases hx
  ·exact h0
 cases hp : parts 32 x with
 | nil => rw [hp] at h; cases h
 | cons n r =>
  have hn : n.size ≤ x.size := parts_size (c := 32) (by rw [hp]; simp)
  rw [hp, lineS] at h
  have one : ∀ {y : Instr}, l = [y] → 2 * l.length ≤ x.size + 1 := fun e => by rw [e]; show 2 * 1 ≤ _; omega
  cases c1 : decide (n = nSlot) with
  | true =>
   rw [c1, cond_true] at h
   cases r with
   | nil => cases h
   | cons o r =>
    rw [slotS] at h
    split at h
    ·split at h
     ·exact one (Option.some.inj h).symm
     ·cases h
    ·cases h
  | false =>
   rw [c1, cond_false] at h
   cases c2 : decide (n = nLd) with
   | true =>
    have := of_decide_eq_true c2
    have hz : n.size = 4 := by rw [this]; rfl
    rw [c2, cond_true] at h
    unfold ldS at h
    split at h
    ·split at h
     ·split at h
      ·rw [← Option.some.inj h]; show 2 * 2 ≤ _; omega
      ·cases h
     ·cases h
    ·cases h
   | false =>
    rw [c2, cond_false] at h
    cases c3 : decide (n = nMap) with
    | true =>
     have := of_decide_eq_true c3
     have hz : n.size = 5 := by rw [this]; rfl
     rw [c3, cond_true] at h
     unfold mapS at h
     split at h
     ·rw [← Option.some.inj h]; show 2 * 2 ≤ _; omega
     ·cases h
    | false =>
     rw [c3, cond_false, othS_d] at h
     unfold oneS at h
     split at h
     ·exact one (Option.some.inj h).symm
     ·cases h
def tot (ls : List ByteArray) : Nat := (ls.map fun x => x.size + 1).sum
theorem tot_cons (x : ByteArray) (ls : List ByteArray) : tot (x :: ls) = x.size + 1 + tot ls := by unfold tot; rw [List.map_cons, List.sum_cons]
theorem textS_len : ∀ (ls : List ByteArray) (acc : List Instr) (i : Nat) (r : List Instr), textS acc ls i = .inl r → 2 * r.length ≤ 2 * acc.length + tot ls
 | [], acc, i, r, h => by rw [textS] at h; cases h; omega
 | x :: ls, acc, i, r, h => by
  rw [textS] at h
  rw [tot_cons]
  cases hd : decide (x = bE) with
  | true => rw [hd, cond_true] at h; have := textS_len ls _ _ _ h; omega
  | false =>
   rw [hd, cond_false] at h
   cases hl : lineS (parts 32 x) with
   | none => rw [hl] at h; cases h
   | some l =>
    rw [hl] at h
    have h1 := textS_len ls _ _ _ h
    have h2 := lineS_half hd hl
    rw [List.length_append] at h1
    omega
theorem spl_tot (c : UInt8) : ∀ l : List UInt8, ((spl c l).map fun x => x.length + 1).sum = l.length + 1
 | [] => rfl
 | b :: l => by
  have ih := spl_tot c l
  rw [spl]
  cases b == c with
  | true => rw [cond_true, List.map_cons, List.sum_cons, ih, List.length_nil, List.length_cons]; omega
  | false =>
   rw [cond_false]
   cases hs : spl c l with
   | nil => exact absurd hs (spl_ne c l)
   | cons y r =>
    rw [hs, List.map_cons, List.sum_cons] at ih
    rw [List.map_cons, List.sum_cons, List.length_cons, List.length_cons]; omega
theorem parts_tot (c : UInt8) (s : ByteArray) : tot (parts c s) = s.size + 1 := by
 unfold tot parts
 rw [List.map_map, ← bL_len, ← spl_tot c]
 refine congrArg List.sum (List.map_congr_left fun x _ => ?_)
 show (mkB x).size + 1 = _
 rw [mkB_size]
theorem parse_l {s : ByteArray} {l : List Instr} (hs : s.size ≤ 8000) (h : textS [] (parts 10 s) 0 = .inl l) : parseS s = (l, 0, 0) ∧ 2 * l.length ≤ s.size + 1 := by
 have hl := textS_len _ _ _ _ h
 rw [parts_tot, List.length_nil] at hl
 refine ⟨?_, by omega⟩
 unfold parseS
 rw [h, outS_l, decide_eq_false (by omega), cond_false]
theorem parse_r {s : ByteArray} {e : Nat} (h : textS [] (parts 10 s) 0 = .inr e) : parseS s = ([], (e : Int), 25) := by
 unfold parseS
 rw [h]; rfl
theorem textS_pos : ∀ (ls : List ByteArray) (acc : List Instr) (i e : Nat), textS acc ls i = .inr e → i + 1 ≤ e ∧ e ≤ i + ls.length
 | [], acc, i, e, h => by rw [textS] at h; cases h
 | x :: ls, acc, i, e, h => by
  rw [textS] at h
  rw [List.length_cons]
  cases hd : decide (x = bE) with
  | true => rw [hd, cond_true] at h; have := textS_pos ls _ _ _ h; omega
  | false =>
   rw [hd, cond_false] at h
   cases hl : lineS (parts 32 x) with
   | none => rw [hl] at h; cases h; omega
   | some l => rw [hl] at h; have := textS_pos ls _ _ _ h; omega
def shiftS (acc : List Instr) (i : Nat) : List Instr ⊕ Nat → List Instr ⊕ Nat
 | .inl l => .inl (acc ++ l)
 | .inr e => .inr (i + e)
theorem textS_shift (acc : List Instr) (i : Nat) : ∀ (ls : List ByteArray) (a : List Instr) (j : Nat), textS (acc ++ a) ls (i + j) = shiftS acc i (textS a ls j)
 | [], a, j => rfl
 | x :: ls, a, j => by
  rw [textS, textS]
  cases decide (x = bE) with
  | true => rw [cond_true, cond_true, Nat.add_assoc]; exact textS_shift acc i ls a (j + 1)
  | false =>
   rw [cond_false, cond_false]
   cases lineS (parts 32 x) with
   | none => show Sum.inr (i + j + 1) = Sum.inr (i + (j + 1)); rw [Nat.add_assoc]
   | some l =>
    show textS ((acc ++ a) ++ l) ls (i + j + 1) = shiftS acc i (textS (a ++ l) ls (j + 1))
    rw [List.append_assoc, Nat.add_assoc]; exact textS_shift acc i ls (a ++ l) (j + 1)
theorem textS_app : ∀ (l1 l2 : List ByteArray) (a : List Instr) (j : Nat), textS a (l1 ++ l2) j = match textS a l1 j with | .inl a' => textS a' l2 (j + l1.length) | .inr e => .inr e
 | [], l2, a, j => rfl
 | x :: l1, l2, a, j => by
  rw [List.cons_append, textS, textS, List.length_cons]
  cases decide (x = bE) with
  | true => rw [cond_true, cond_true, show j + (l1.length + 1) = (j + 1) + l1.length from by omega]; exact textS_app l1 l2 a (j + 1)
  | false =>
   rw [cond_false, cond_false]
   cases lineS (parts 32 x) with
   | none => rfl
   | some l =>
    show textS (a ++ l) (l1 ++ l2) (j + 1) = match textS (a ++ l) l1 (j + 1) with | .inl a' => textS a' l2 (j + (l1.length + 1)) | .inr e => .inr e
    rw [show j + (l1.length + 1) = (j + 1) + l1.length from by omega]; exact textS_app l1 l2 (a ++ l) (j + 1)
theorem spl_app (c : UInt8) : ∀ a b : List UInt8, spl c (a ++ c :: b) = spl c a ++ spl c b
 | [], b => by
  show (bif c == c then [] :: spl c b else _) = _
  rw [beq_self_eq_true]; rfl
 | x :: a, b => by
  rw [List.cons_append, spl, spl, spl_app c a b]
  cases x == c with
  | true => rfl
  | false =>
   rw [cond_false, cond_false]
   cases hs : spl c a with
   | nil => exact absurd hs (spl_ne c a)
   | cons y r => rfl
theorem bL_app (a b : ByteArray) : bL (a ++ b) = bL a ++ bL b := by simp [bL, ByteArray.data_append]
theorem parts_app (a b : ByteArray) : parts 10 ((a ++ (⟨#[10]⟩ : ByteArray)) ++ b) = parts 10 a ++ parts 10 b := by
 unfold parts
 rw [bL_app, bL_app, show bL (⟨#[10]⟩ : ByteArray) = [10] from rfl, List.append_assoc, List.singleton_append, spl_app, List.map_append]
theorem count_l {s : ByteArray} (hs : s.size ≤ 1000000) : ∀ (n i F x : Nat), s.size - i = n → i ≤ s.size → n < F → x ≤ i + 1 →
  fn7_l1 s F (x : Int) (i : Int) = some (((x + (spl 10 ((bL s).drop i)).length - 1 : Nat) : Int)) := by
 intro n
 induction n with
 | zero =>
  intro i F x hn hi hF hx
  obtain ⟨F, rfl⟩ : ∃ n, F = n + 1 := ⟨F - 1, by omega⟩
  rw [fn7_l1_s, fn7_b1, decide_eq_false (by omega), cond_false, List.drop_eq_nil_of_le (by rw [bL_len]; omega)]
  rfl
 | succ n ih =>
  intro i F x hn hi hF hx
  obtain ⟨F, rfl⟩ : ∃ n, F = n + 1 := ⟨F - 1, by omega⟩
  have hlt : i < (bL s).length := by rw [bL_len]; omega
  have hd := List.drop_eq_getElem_cons hlt
  generalize (bL s)[i] = b at hd
  have hin : inb (i : Int) s.size = true := inb_iff.2 ⟨by omega, by omega⟩
  have hw : IntKind.i64.wrap ((i : Int) + 1) = ((i + 1 : Nat) : Int) := by rw [w64' (by omega)]; omega
  have hwx : IntKind.i64.wrap ((x : Int) + 1) = ((x + 1 : Nat) : Int) := by rw [w64' (by omega)]; omega
  have hb : ((b.toNat : Int) == 10) = (b == 10) := by
   cases h : b == 10 with
   | true => rw [eq_of_beq h]; rfl
   | false =>
    have := u8_nat h
    have e : (10 : UInt8).toNat = 10 := rfl
    exact beq_eq_false_iff_ne.2 (by omega)
  rw [fn7_l1_s, fn7_b1, decide_eq_true (by omega), cond_true, hin, cond_true, bget_at hd, hb, hw, hwx, hd, spl]
  cases b == 10 with
  | true =>
   rw [cond_true, cond_true, ih (i + 1) F (x + 1) (by omega) (by omega) (by omega) (by omega), List.length_cons]
   have : x + 1 + (spl 10 ((bL s).drop (i + 1))).length - 1 = x + ((spl 10 ((bL s).drop (i + 1))).length + 1) - 1 := by omega
   rw [this]
  | false =>
   rw [cond_false, cond_false, ih (i + 1) F x (by omega) (by omega) (by omega) (by omega)]
   cases hs2 : spl 10 ((bL s).drop (i + 1)) with
   | nil => exact absurd hs2 (spl_ne _ _)
   | cons y r => rw [List.length_cons, List.length_cons]
theorem frk1_some {α γ : Type} (a : α) (f : α → Option γ) : frk1 (some a) f = f a := rfl
theorem asmRow_plain (a b : ByteArray) (ha : a.size ≤ 140737488351232) (hb : b.size ≤ 140737488351232) : fn7 300000 a b = some true := by
 unfold fn7
 rw [awake_ok, Option.bind_some, Bool.not_true, cond_false, w64' (by omega)]
 by_cases h : (3000 : Int) < (a.size : Int) + (b.size : Int)
 ·rw [decide_eq_true h]; rfl
 ·have en : (⟨#[10]⟩ : ByteArray).size = 1 := rfl
  have e1 : ((a ++ (⟨#[10]⟩ : ByteArray))).size = a.size + 1 := by rw [ByteArray.size_append, en]
  have e2 : ((a ++ (⟨#[10]⟩ : ByteArray)) ++ b).size = a.size + 1 + b.size := by rw [ByteArray.size_append, e1]
  rw [decide_eq_false h, cond_false, fn15_ok tabP_ok (by omega) (by omega) (by omega), fn15_ok tabP_ok (by omega) (by omega) (by omega), fn15_ok (s := (a ++ (⟨#[10]⟩ : ByteArray)) ++ b) tabP_ok (by omega) (by omega) (by omega), en, e1,
   frk1_some, frk1_some, decide_eq_true (by omega), decide_eq_true (by omega), cond_true, cond_true, frk1_some]
  show (bif (parseS a).2.2 != 0 then _ else _) = some true
  have ht := textS_app (parts 10 a) (parts 10 b) [] 0
  rw [← parts_app, Nat.zero_add] at ht
  cases h1 : textS [] (parts 10 a) 0 with
  | inr e =>
   rw [h1] at ht
   rw [parse_r h1, parse_r ht]
   show some (((25 : Int) == 25) && ((e : Int) == e) && _) = _
   simp
  | inl l =>
   rw [h1] at ht
   obtain ⟨p1, l1⟩ := parse_l (by omega) h1
   replace ht : textS [] (parts 10 ((a ++ (⟨#[10]⟩ : ByteArray)) ++ b)) 0 = textS l (parts 10 b) (parts 10 a).length := ht
   have hs := textS_shift l (parts 10 a).length (parts 10 b) [] 0
   rw [List.append_nil, Nat.add_zero] at hs
   rw [hs] at ht
   rw [p1]
   show (bif (parseS b).2.2 != 0 then _ else _) = some true
   cases h2 : textS [] (parts 10 b) 0 with
   | inr e =>
    rw [h2] at ht
    have hp := textS_pos _ _ _ _ h2
    have hlb := parts_len 10 b
    have hla := parts_len 10 a
    rw [parse_r h2, parse_r (e := (parts 10 a).length + e) ht]
    have hc := count_l (s := a) (by omega) a.size 0 300000 1 (by omega) (by omega) (by omega) (by omega)
    have hpl : (parts 10 a).length = (spl 10 (bL a)).length := by unfold parts; rw [List.length_map]
    rw [List.drop_zero, ← hpl, show 1 + (parts 10 a).length - 1 = (parts 10 a).length from by omega, show ((0 : Nat) : Int) = 0 from rfl, show ((1 : Nat) : Int) = 1 from rfl] at hc
    show Option.bind (fn7_l1 a 300000 1 0) _ = _
    rw [hc, Option.bind_some]
    show some (((25 : Int) == 25) && ((((parts 10 a).length + e : Nat) : Int) == IntKind.i64.wrap (((parts 10 a).length : Int) + (e : Int)))) = _
    rw [w64' (by omega), show (((parts 10 a).length + e : Nat) : Int) = ((parts 10 a).length : Int) + (e : Int) from by omega]
    simp
   | inl l' =>
    rw [h2] at ht
    obtain ⟨p2, l2⟩ := parse_l (by omega) h2
    obtain ⟨p3, l3⟩ := parse_l (l := l ++ l') (by rw [e2]; omega) ht
    rw [p2, p3]
    show (bif decide ((l.length + l'.length) * 12 ≤ 140737488355328 ∧ l.length + l'.length ≤ 9223372036854775807) then (Option.bind (fn16 300000 (l ++ l') (l ++ l')) fun v35 => (some (v35))) else none) = _
    rw [decide_eq_true (by omega), cond_true, same_ok (by rw [List.length_append]; omega) (by rw [List.length_append]; omega)]; rfl
end Go.Proofs.YtfjefnnbodgfbaaGreatDoor
namespace Go.HW
open Go Go.RowKit Go.ChangeShapes
set_option linter.unusedVariables false
variable {H : Type} {enc : TypeId × Value → H} {P : Program}
theorem post_below {f : Func} {s : ChangeSpec} {apart fresh handsOn : Bool} {W W' : World} {args : Array Value} {v : Value} {ds gs : List (DataW H)} {before pa pv : List MemPlace}
  (hW : DataW.Whole enc P f.params.toList s.vars apart W args.toList ds gs before)
  (hres : ∀ (b : Nat) (sp : Nat → Bool) (hd : Bool), DataW.TrodAll enc P W' b sp hd f.resultTypes.toList (v.resultList f.resultTypes.size) (s.fn H (ds ++ gs)).results [])
  (hargs : ∀ sp : Nat → Bool, (∀ p ∈ before, sp p.block = true) → DataW.TrodAll enc P W' 0 sp true f.params.toList args.toList (s.fn H (ds ++ gs)).args pa)
  (hvars : ∀ sp : Nat → Bool, (∀ p ∈ before, sp p.block = true) → DataW.TrodVars enc P W' sp s.vars (s.fn H (ds ++ gs)).vars pv)
  (hps : before = pa ++ pv) (hk : Below W.heap.size W W') : s.post enc P f apart fresh handsOn false W args v W' := by
 have hold : ∀ p ∈ before, (fun b => decide (b < W.heap.size)) p.block = true := fun p hp => by simpa using hW.lt p hp
 refine ⟨ds, gs, before, [], pa, pv, hW, hres _ _ _, hargs _ hold, hvars _ hold, World.keptBut_mono (fun p hp => ⟨hp, ?_⟩) (hk.frame (· ∈ before)), fun h => by cases h⟩
 rw [hps, List.mem_append] at hp
 exact Or.inr hp
end Go.HW
namespace Go.HW
open Go Go.RowKit Go.ChangeShapes
set_option linter.unusedVariables false
section
variable {H : Type} {enc : TypeId × Value → H} {P : Program} {W W' : World}
theorem TrodAll.stays (hl : laidOutB P = true) {sp : Nat → Bool} (hb : Below W.heap.size W W') : ∀ {ts : List TypeId} {vs : List Value} {ds : List (DataW H)} {ps : List MemPlace}, (ts.all fun t => P.readableRec t && decide (t < P.types.size)) = true →
  DataW.TrodAll enc P W 0 (fun _ => true) true ts vs ds ps → (∀ x ∈ ps, x.block < W.heap.size) → (∀ x ∈ ps, sp x.block = true) → DataW.TrodAll enc P W' 0 sp true ts vs ds ps
 | [], [], [], ps, _, h, _, _ => h
 | t :: ts, v :: vs, d :: ds, ps, hr, h, hlt, hs => by
  obtain ⟨p, q, h1, h2, rfl⟩ := h
  simp only [List.all_cons, Bool.and_eq_true, decide_eq_true_eq] at hr
  obtain ⟨⟨r1, r2⟩, r3⟩ := hr
  exact ⟨p, q, WideElems.Trod_stays hl r1 r2 h1 (fun x hx => hb.same (hlt x (by simp [hx]))) (fun x hx => hs x (by simp [hx])), TrodAll.stays hl hb (by simpa using r3) h2 (fun x hx => hlt x (by simp [hx])) (fun x hx => hs x (by simp [hx])), rfl⟩
 | [], [], _ :: _, _, _, h, _, _ => by simp [DataW.TrodAll] at h
 | [], _ :: _, _, _, _, h, _, _ => by simp [DataW.TrodAll] at h
 | _ :: _, [], _, _, _, h, _, _ => by simp [DataW.TrodAll] at h
 | _ :: _, _ :: _, [], _, _, h, _, _ => by simp [DataW.TrodAll] at h
end
end Go.HW
namespace Go.Proofs.YtfjefnnbodgfbaaGreatDoor
open Go Go.HW Go.Lib
set_option linter.unusedVariables false
set_option maxRecDepth 100000
theorem tab_at {P : Program} {W : World} {n : String} {g : Nat} {k : IntKind} {zs : List Int} (hg : P.globalNamed n = some g) (h : TabIs P W n k zs) : TabAt W g k zs := by
 unfold TabIs World.var? at h
 rw [hg] at h
 simp only [Option.bind_some] at h
 split at h
 ·rename_i cs T fz e
  exact ⟨T, fz, by rw [e]; cases h; rfl⟩
 ·cases h
theorem tab_of_reads {P : Program} {W : World} {name : String} {k : IntKind} {zs : List Int} {g : Nat} {t e : TypeId} {n : Nat}
  (hg : P.globalNamed name = some g) (hty : (P.globals[g]?).map (·.type) = some t) (ht : P.underlying t = some (.array n e)) (he : P.underlying e = some (.int k)) (hce : P.cellsOf e = 1) (hct : P.cellsOf t = n)
  (h : VarReads P W name (tabData k zs)) : TabAt W g k zs := by
 obtain ⟨g', t', cs, fuel, p, hg', ht', hvar, hd⟩ := h
 obtain rfl := Option.some.inj (hg.symm.trans hg')
 obtain rfl := Option.some.inj (hty.symm.trans ht')
 refine tab_at hg ?_
 unfold TabIs
 rw [hvar, ← cells_of_tab ht he hce hct hd]
theorem ifc_of_reads {P : Program} {W : World} {name nm : String} {d : DataW Unit} {g : Nat} {t : TypeId} {ms : Array (String × TypeId)}
  (hg : P.globalNamed name = some g) (hty : (P.globals[g]?).map (·.type) = some t) (ht : P.underlying t = some (.interface ms))
  (h : VarReads P W name (.iface nm d)) : IfcAt W g := by
 obtain ⟨g', t', cs, fuel, p, hg', ht', hvar, hd⟩ := h
 obtain rfl := Option.some.inj (hg.symm.trans hg')
 obtain rfl := Option.some.inj (hty.symm.trans ht')
 obtain ⟨f', u, v, hc, _, _⟩ := iface_of_trod ht hd
 refine ⟨.iface u v, ?_, .inr ⟨u, v, rfl⟩⟩
 rw [World.var?_cell hg hvar 0, ← Array.getElem?_toList, hc]; rfl
theorem glW_ok {W : World} {laid : List (String × DataW Unit)} (hsh : W.ShapedOpen Tryz.prog) (hL : laidMet Tryz.prog laid W)
  (m1 : ("internal/strconv.uint64pow10", Rows.laid_internal_strconv_uint64pow10) ∈ laid) (m2 : ("strings.asciiSpace", Rows.laid_strings_asciiSpace) ∈ laid)
  (m3 : ("strconv.ErrSyntax", Rows.laid_strconv_ErrSyntax) ∈ laid) (m4 : ("strconv.ErrRange", Rows.laid_strconv_ErrRange) ∈ laid) : GlW W := by
 refine ⟨cell_of_shapedOpen_int hsh (g := 2) (t := 3) (zero := #[.int .i64 0]) (of_decide_eq_true (by kernel_rfl)) (by kernel_rfl) rfl (by kernel_rfl) (by kernel_rfl) Tryz.underlying3, ?_, ?_, ?_, ?_⟩
 ·have h1 : Tryz.prog.globalNamed "strconv.ErrSyntax" = some 7 := by kernel_rfl
  have h2 : (Tryz.prog.globals[7]?).map (·.type) = some 57 := by kernel_rfl
  exact ifc_of_reads h1 h2 Tryz.underlying57 (laidMet.reads hL m3)
 ·have h1 : Tryz.prog.globalNamed "strconv.ErrRange" = some 8 := by kernel_rfl
  have h2 : (Tryz.prog.globals[8]?).map (·.type) = some 57 := by kernel_rfl
  exact ifc_of_reads h1 h2 Tryz.underlying57 (laidMet.reads hL m4)
 ·exact tab_of_reads (g := 6) (by kernel_rfl) (by kernel_rfl) Tryz.underlying216 Tryz.underlying120 (by kernel_rfl) (by kernel_rfl) (show VarReads Tryz.prog W _ (tabData .u64 pow10Tab) from (show (Rows.laid_internal_strconv_uint64pow10 : DataW Unit) = tabData .u64 pow10Tab by kernel_rfl) ▸ laidMet.reads hL m1)
 ·exact tab_of_reads (g := 1) (by kernel_rfl) (by kernel_rfl) Tryz.underlying170 Tryz.underlying5 (by kernel_rfl) (by kernel_rfl) (show VarReads Tryz.prog W _ (tabData .u8 asciiSpaceTab) from (show (Rows.laid_strings_asciiSpace : DataW Unit) = tabData .u8 asciiSpaceTab by kernel_rfl) ▸ laidMet.reads hL m2)
theorem tabAt_ext {w w' : World} {g : Nat} {k : IntKind} {zs : List Int} (hx : Ext w [] w') (h : TabAt w g k zs) : TabAt w' g k zs := by
 obtain ⟨T, fz, e⟩ := h
 exact ⟨T, fz, by rw [hx.same g (Array.getElem?_eq_some_iff.1 e).1 (by simp)]; exact e⟩
theorem cell_ext {w w' : World} {g : Nat} {v : Value} (hx : Ext w [] w') (h : w.cell? ⟨g, 0, none⟩ = some v) : w'.cell? ⟨g, 0, none⟩ = some v := by
 have hlt : g < w.heap.size := by
  rcases Nat.lt_or_ge g w.heap.size with h1 | h1
  ·exact h1
  ·unfold World.cell? at h
   rw [Array.getElem?_eq_none h1] at h
   cases h
 unfold World.cell? at h ⊢
 rw [hx.same g hlt (by simp)]
 exact h
theorem glF_ok {W : World} {laid : List (String × DataW Unit)} (hsh : W.ShapedOpen Tryz.prog) (hL : laidMet Tryz.prog laid W)
  (m1 : ("internal/strconv.uint64pow10", Rows.laid_internal_strconv_uint64pow10) ∈ laid) (m2 : ("strings.asciiSpace", Rows.laid_strings_asciiSpace) ∈ laid)
  (m3 : ("strconv.ErrSyntax", Rows.laid_strconv_ErrSyntax) ∈ laid) (m4 : ("strconv.ErrRange", Rows.laid_strconv_ErrRange) ∈ laid) : GlF W [] := fun w' hx => by
 obtain ⟨⟨m, h1⟩, ⟨v2, h2, g2⟩, ⟨v3, h3, g3⟩, h4, h5⟩ := glW_ok hsh hL m1 m2 m3 m4
 exact ⟨⟨m, cell_ext hx h1⟩, ⟨v2, cell_ext hx h2, g2⟩, ⟨v3, cell_ext hx h3, g3⟩, tabAt_ext hx h4, tabAt_ext hx h5⟩
theorem handed_laid {H : Type} {enc : TypeId × Value → H} {a : Assume} {C : Checked} {os : Os} {f : FuncId} {fn : Func} {s : ChangeSpec} {conds : List PathCond} {apart fresh handsOn again : Bool} {laid : List (String × DataW Unit)}
  (own : ownKnob C.prog.godebug = none) (started : os.Started) (noInit : C.prog.inits.idxOf? f = none) (hfn : C.prog.funcs[f]? = some fn)
  (witness : ∃ (w : World) (tape : Tape) (i : Input), w.os = os ∧ (w.forCall tape i).Shaped C.prog ∧ i.vars = [] ∧ Input.okWide C.prog (w.forCall tape i) .any w.heap.size f i ∧
   ((s.pre enc C.prog fn conds apart (w.forCall tape i).memory i.args ∧ laidMetH C.prog laid (w.forCall tape i).memory) ∧ sizedMet enc C.prog fn (OpenSpec.ofChange s) apart (w.forCall tape i).memory i.args) ∧ a.holds C.prog (lone (Frame.enter C.prog f i.args .normal) [] (w.forCall tape i)))
  (law : ∀ (W : World) (base : Nat) (args : Array Value) (ds gs : List (DataW H)) (before : List MemPlace),
   (∀ (j : Nat) t v, fn.params[j]? = some t → args[j]? = some v → Value.okWide C.prog W .any base t v) →
   DataW.Whole enc C.prog fn.params.toList s.vars apart W args.toList ds gs before →
   conds.all (PathCond.test C.prog ⟨fn.params.toList, ds, s.plain.varTypes C.prog, gs⟩) = true →
   (DataW.weightsEach C.prog (fn.params.toList ++ s.plain.varTypes C.prog) (ds ++ gs)).all (· ≤ reachBytes) = true → laidMetH C.prog laid W → W.ShapedOpen C.prog →
   Calls C.prog f args W fun e W' => ∃ v, e = .returned v ∧ s.post enc C.prog fn apart fresh handsOn again W args v W') :
  ReturnsInHanded a C os f .any (fun w args => (s.pre enc C.prog fn conds apart w args ∧ laidMetH C.prog laid w) ∧ sizedMet enc C.prog fn (OpenSpec.ofChange s) apart w args) (s.post enc C.prog fn apart fresh handsOn again) := by
 refine returnsInHanded_of_calls own started noInit witness fun w tape i _ hsh _ hok hpre _ => ?_
 obtain ⟨_, _, _, fn', hfn', _, _, _, _, hval⟩ := hok
 obtain rfl : fn' = fn := Option.some.inj (hfn'.symm.trans hfn)
 obtain ⟨⟨⟨ds, gs, before, hw, hc⟩, hx⟩, hz⟩ := hpre
 refine (law (w.forCall tape i) w.heap.size i.args ds gs before hval (DataW.Whole.of_heap (w' := w.forCall tape i) (by rfl) hw) hc (hz.weights hw) (laidMetH.of_heap (by rfl) hx) hsh).mono fun e W' h => ?_
 obtain ⟨v, rfl, hp⟩ := h
 exact ChangeSpec.post_blind hp
end Go.Proofs.YtfjefnnbodgfbaaGreatDoor
