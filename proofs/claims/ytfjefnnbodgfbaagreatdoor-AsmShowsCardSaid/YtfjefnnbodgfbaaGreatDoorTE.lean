/- Part of the proof: the logic, the walks, and what they compute. -/
import Derived.Test.YtfjefnnbodgfbaaGreatDoorProg
import Derived.Lib.ItoaLen
import Derived.ChangeSame
import Derived.Carry
import Derived.ProofKit
import Derived.OpenShut
import Derived.KernelRfl
import Derived.SizedLaws
import Derived.Test.YtfjefnnbodgfbaaGreatDoorRows
import Derived.Lib.LaidU8
import Derived.Shelf.Vars
import Derived.LaidLaws
import Derived.Handed
import Derived.Stop.Joined
import Derived.Test.YtfjefnnbodgfbaaGreatDoorTD
set_option linter.all false
namespace Go.Proofs.YtfjefnnbodgfbaaGreatDoor
open Go Go.HW
set_option linter.unusedVariables false
set_option maxRecDepth 40000
set_option maxHeartbeats 8000000
theorem c31 (F : Nat) (p0 : List RForm) (p1 : Instr) (r : ByteArray) (h : fn31 F p0 p1 = some r) : Con Tryz.prog 31 [.sl 0, .ag [.v (.int .u8 p1.fOp), .v (.int .u8 p1.fDst), .v (.int .u8 p1.fSrc), .v (.int .i16 p1.fOff), .v (.int .i32 p1.fImm)]] [(0, .rd RForm.E p0)] 1 (.v (.string r)) [] 1 := by
 rw [fn31] at h
 refine Con.of_body Tryz.func31 rfl Tryz.ntmps31 rfl fun w F0 ρ gl => ?_
 refine RU tbOk false 999 3 [] aN (by rfl) ?_
 obtain ⟨o16, hl17, h⟩ := bd h
 refine CTS 0 (fun u44 => ⟨[(3, .p 1 0)], [(0, .rd RForm.E p0), (1, .cells 32 [.v (.int .u8 p1.fOp), .v (.int .u8 p1.fDst), .v (.int .u8 p1.fSrc), .v (.int .i16 p1.fOff), .v (.int .i32 p1.fImm)])], 2⟩) o16 ?_ (fun u44 hu44 => ?_)
 ·have h020 := h
  clear h
  refine G4.imp (Imp.to [0, 1] (by rfl) (by rfl) rfl rfl) (LP (fun (n : Nat) (s : Int) => fn31_l1 F p0 p1 n s) (fun (s : Int) => ⟨[(0, .sl 0), (3, .p 1 0), (5, .v (.int .i64 s))], [(0, .rd RForm.E p0), (1, .cells 32 [.v (.int .u8 p1.fOp), .v (.int .u8 p1.fDst), .v (.int .u8 p1.fSrc), .v (.int .i16 p1.fOff), .v (.int .i32 p1.fImm)])], 2⟩) (fun _ => rfl) (s0 := 0) hl17 ?_)
  clear hl17
  rintro R21 n18 x8 h ih19
  replace h := (fn31_l1_s F p0 p1 n18 x8).symm.trans h
  rw [fn31_b1] at h
  refine RU tbOk false 999 4 [] aN (by rfl) ?_
  refine CD h (by rfl) (fun h hb22 => ?_) (fun h hb22 => ?_)
  ·refine RU tbOk false 999 0 [] aN (by rfl) ?_
   obtain ⟨hk23, h⟩ := ck h
   obtain ⟨v24, hv25, h⟩ := bd h
   refine DR tbOk hmix [17] [([], []), ([], []), ([0], []), ([0], []), ([1], []), ([], [])] [.cl true [] (fun _ => c67 F (⟨(gt p0 x8).fname, (gt p0 x8).fwords, ((gt p0 x8).fslot)⟩ : RForm) p1 _ hv25)] (aR (aC hk23 (aR (aR (aK aN))))) (by rfl) ?_
   refine RU tbOk false 999 0 [] aN (by rfl) ?_
   refine CD h (by rfl) (fun h hb26 => ?_) (fun h hb26 => ?_)
   ·refine RU tbOk false 999 0 [] aN (by rfl) ?_
    obtain ⟨v27, hv28, h⟩ := bd h
    refine DR tbOk hmix [4] [([], []), ([], []), ([0], []), ([0], []), ([1], []), ([], []), ([], [])] [.cl true [] (fun _ => c68 F (⟨(gt p0 x8).fname, (gt p0 x8).fwords, ((gt p0 x8).fslot)⟩ : RForm) p1 _ hv28)] (aR (aC hk23 (aR (aR (aK aN))))) (by rfl) ?_
    refine RU tbOk false 999 0 [] aN (by rfl) ?_
    have ho := Option.some.inj h
    subst ho
    replace h := h020
    refine RU tbOk false 999 0 [] aN (by rfl) ?_
    have hr := Option.some.inj h
    subst hr
    exact RT tbOk.t Tryz.results31 [0] (by rfl) (by rfl) (by rfl) rfl rfl
   ·refine RU tbOk false 999 3 [] aN (by rfl) ?_
    exact ih19 (IntKind.i64.wrap (x8 + 1)) h _ _ (Imp.to [0, 1] (by rfl) (by rfl) rfl rfl)
  ·refine RU tbOk false 999 0 [] aN (by rfl) ?_
   have ho := Option.some.inj h
   subst ho
   exact CES _ rfl (Imp.to [0, 1] (by rfl) (by rfl) rfl rfl)
 ·subst hu44
  change fn31_k1 p1 = _ at h
  rw [fn31_k1] at h
  refine RU tbOk false 999 0 [] aN (by rfl) ?_
  obtain ⟨v29, hv30, h⟩ := bd h
  obtain ⟨hk31, h⟩ := ck h
  obtain ⟨v32, hv33, h⟩ := bd h
  obtain ⟨hk34, h⟩ := ck h
  obtain ⟨v35, hv36, h⟩ := bd h
  obtain ⟨hk37, h⟩ := ck h
  obtain ⟨v38, hv39, h⟩ := bd h
  obtain ⟨hk40, h⟩ := ck h
  obtain ⟨v41, hv42, h⟩ := bd h
  obtain ⟨hk43, h⟩ := ck h
  refine DR tbOk hmix [4] [([], []), ([1], []), ([], []), ([], []), ([], []), ([], []), ([1], []), ([], []), ([], []), ([], []), ([1], []), ([], []), ([], []), ([], []), ([1], []), ([], []), ([], []), ([], []), ([], []), ([1], []), ([], []), ([], []), ([], []), ([], [])] [.cl true [] (fun _ => c66 (IntKind.i64.wrap p1.fOp) _ hv30), .st, .cl true [] (fun _ => c65 p1.fDst _ hv33), .st, .cl true [] (fun _ => c65 p1.fSrc _ hv36), .st, .cl true [] (fun _ => c66 (IntKind.i64.wrap p1.fOff) _ hv39), .st, .cl true [] (fun _ => c66 (IntKind.i64.wrap p1.fImm) _ hv42), .st] (aR (aK (aC hk31 (aR (aK (aC hk34 (aR (aK (aC hk37 (aR (aK (aC hk40 (aR (aK (aC hk43 aN))))))))))))))) (by rfl) ?_
  refine RU tbOk false 999 0 [] aN (by rfl) ?_
  have hr := Option.some.inj h
  subst hr
  exact RT tbOk.t Tryz.results31 [0] (by rfl) (by rfl) (by rfl) rfl rfl
def fn13_b1 (F : Nat) (p0 : List Instr) (v2 : (List RForm)) (rl1 : (List Int) → Int → Option (((List Int)) ⊕ (ByteArray))) (xs26 : List Int) (x27 : Int) : Option (((List Int)) ⊕ (ByteArray)) :=
 bif decide (x27 < (p0.length : Int)) then (bif inb x27 p0.length then (bif bif decide ((15 : Int) < ((gt p0 x27).fDst)) then true else (inb x27 p0.length) then (bif (decide ((15 : Int) < ((gt p0 x27).fDst))) || (decide ((15 : Int) < ((gt p0 x27).fSrc))) then (some (.inr ((⟨#[]⟩ : ByteArray)))) else (bif decide ((IntKind.i64.wrap (x27 + 1)) < (p0.length : Int)) then (bif inb (IntKind.i64.wrap (x27 + 1)) p0.length then (Option.bind (fn30 (gt p0 x27) (gt p0 (IntKind.i64.wrap (x27 + 1)))) fun v63 => (bif v63.toList != (⟨#[]⟩ : ByteArray).toList then (bif appHyp 1 xs26.length v63.size then (bif decide (((xs26 ++ bytesZ v63).length + ([10] : List Int).length) * 1 ≤ 140737488355328 ∧ (xs26 ++ bytesZ v63).length + ([10] : List Int).length ≤ 9223372036854775807) then (rl1 ((xs26 ++ bytesZ v63) ++ ([10] : List Int)) (IntKind.i64.wrap ((IntKind.i64.wrap (x27 + 1)) + 1))) else none) else none) else (Option.bind (fn31 F v2 (gt p0 x27)) fun v68 => (bif appHyp 1 xs26.length v68.size then (bif decide (((xs26 ++ bytesZ v68).length + ([10] : List Int).length) * 1 ≤ 140737488355328 ∧ (xs26 ++ bytesZ v68).length + ([10] : List Int).length ≤ 9223372036854775807) then (rl1 ((xs26 ++ bytesZ v68) ++ ([10] : List Int)) (IntKind.i64.wrap (x27 + 1))) else none) else none)))) else none) else (bif (⟨#[]⟩ : ByteArray).toList != (⟨#[]⟩ : ByteArray).toList then (bif appHyp 1 xs26.length (⟨#[]⟩ : ByteArray).size then (bif decide (((xs26 ++ bytesZ (⟨#[]⟩ : ByteArray)).length + ([10] : List Int).length) * 1 ≤ 140737488355328 ∧ (xs26 ++ bytesZ (⟨#[]⟩ : ByteArray)).length + ([10] : List Int).length ≤ 9223372036854775807) then (rl1 ((xs26 ++ bytesZ (⟨#[]⟩ : ByteArray)) ++ ([10] : List Int)) (IntKind.i64.wrap ((IntKind.i64.wrap (x27 + 1)) + 1))) else none) else none) else (Option.bind (fn31 F v2 (gt p0 x27)) fun v75 => (bif appHyp 1 xs26.length v75.size then (bif decide (((xs26 ++ bytesZ v75).length + ([10] : List Int).length) * 1 ≤ 140737488355328 ∧ (xs26 ++ bytesZ v75).length + ([10] : List Int).length ≤ 9223372036854775807) then (rl1 ((xs26 ++ bytesZ v75) ++ ([10] : List Int)) (IntKind.i64.wrap (x27 + 1))) else none) else none))))) else none) else none) else (some (.inl xs26))
def fn13_l1 (F : Nat) (p0 : List Instr) (v2 : (List RForm)) : Nat → (List Int) → Int → Option (((List Int)) ⊕ (ByteArray))
 | 0, _, _ => none
 | n53 + 1, xs26, x27 => fn13_b1 F p0 v2 (fn13_l1 F p0 v2 n53) xs26 x27
theorem fn13_l1_s (F : Nat) (p0 : List Instr) (v2 : (List RForm)) (n53 : Nat) (xs26 : List Int) (x27 : Int) : fn13_l1 F p0 v2 (n53 + 1) xs26 x27 = fn13_b1 F p0 v2 (fn13_l1 F p0 v2 n53) xs26 x27 := rfl
def fn13_k1 (xs50 : List Int) : Option (ByteArray) :=
 some (strOfNums xs50)
def fn13 (F : Nat) (p0 : List Instr) : Option (ByteArray) :=
 bif decide ((4096 : Int) < (p0.length : Int)) then (some ((⟨#[]⟩ : ByteArray))) else (Option.bind (fn29 F) fun v2 => (Option.bind (fn13_l1 F p0 v2 F ([] : List Int) 0) fun o51 => (match o51 with | .inl u => fn13_k1 u | .inr u => some u)))
theorem c13 (F : Nat) (p0 : List Instr) (r : ByteArray) (h : fn13 F p0 = some r) : Con Tryz.prog 13 [.sl 0] [(0, .rd Instr.E p0)] 1 (.v (.string r)) [] 1 := by
 rw [fn13] at h
 refine Con.of_body Tryz.func13 rfl Tryz.ntmps13 rfl fun w F0 ρ gl => ?_
 refine RU tbOk false 999 4 [] aN (by rfl) ?_
 refine CD h (by rfl) (fun h hb1 => ?_) (fun h hb1 => ?_)
 ·refine RU tbOk false 999 1 [] aN (by rfl) ?_
  have hr := Option.some.inj h
  subst hr
  exact RT tbOk.t Tryz.results13 [0] (by rfl) (by rfl) (by rfl) rfl rfl
 ·obtain ⟨v2, hv3, h⟩ := bd h
  refine RU tbOk false 999 1 [.cl true [] (fun _ => c29 F _ hv3)] (aK aN) (by rfl) ?_
  refine RU tbOk false 999 3 [] aN (by rfl) ?_
  refine G4.imp (Imp.nil (Et.int .u8) 5 4 (by rfl)) ?_
  obtain ⟨o51, hl52, h⟩ := bd h
  refine CTS 0 (fun u79 => ⟨[(4, .sl 1)], [(0, .rd Instr.E p0), (1, .row (Et.int .u8) 5 u79 u79.length .unk)], 2⟩) o51 ?_ (fun u79 hu79 => ?_)
  ·have h055 := h
   clear h
   refine G4.imp (Imp.trans (Imp.row 2 (by rfl)) (Imp.to [0, 1, 2] (by rfl) (by rfl) rfl rfl)) (LP (fun (n : Nat) (s : (List Int) × Int) => fn13_l1 F p0 v2 n s.1 s.2) (fun (s : (List Int) × Int) => ⟨[(0, .sl 0), (3, .sl 1), (4, .sl 2), (5, .v (.int .i64 s.2))], [(0, .rd Instr.E p0), (1, .row RForm.E 113 v2 v2.length .unk), (2, .row (Et.int .u8) 5 s.1 s.1.length .unk)], 3⟩) (fun _ => rfl) (s0 := (([] : List Int), 0)) hl52 ?_)
   clear hl52
   rintro R56 n53 ⟨xs26, x27⟩ h ih54
   replace h := (fn13_l1_s F p0 v2 n53 xs26 x27).symm.trans h
   rw [fn13_b1] at h
   refine RU tbOk false 999 4 [] aN (by rfl) ?_
   refine CD h (by rfl) (fun h hb57 => ?_) (fun h hb57 => ?_)
   ·obtain ⟨hk58, h⟩ := ck h
    obtain ⟨hk59, h⟩ := ck h
    refine RU tbOk false 999 14 [] (aC hk58 (aC hk59 aN)) (by rfl) ?_
    refine CD h (by rfl) (fun h hb60 => ?_) (fun h hb60 => ?_)
    ·refine RU tbOk false 999 1 [] aN (by rfl) ?_
     have ho := Option.some.inj h
     subst ho
     replace h := h055
     refine RU tbOk false 999 0 [] aN (by rfl) ?_
     have hr := Option.some.inj h
     subst hr
     exact RT tbOk.t Tryz.results13 [0] (by rfl) (by rfl) (by rfl) rfl rfl
    ·refine RU tbOk false 999 6 [] aN (by rfl) ?_
     refine CD h (by rfl) (fun h hb61 => ?_) (fun h hb61 => ?_)
     ·refine RU tbOk false 999 0 [] aN (by rfl) ?_
      obtain ⟨hk62, h⟩ := ck h
      obtain ⟨v63, hv64, h⟩ := bd h
      refine DR tbOk hmix [6] [([], []), ([], []), ([0], []), ([0], []), ([], []), ([], []), ([], []), ([0], []), ([0], []), ([], []), ([], [])] [.cl true [] (fun _ => c30 (gt p0 x27) (gt p0 (IntKind.i64.wrap (x27 + 1))) _ hv64)] (aR (aC hk58 (aR (aR (aC hk62 (aR (aK aN))))))) (by rfl) ?_
      refine RU tbOk false 999 2 [] aN (by rfl) ?_
      refine CD h (by rfl) (fun h hb65 => ?_) (fun h hb65 => ?_)
      ·obtain ⟨hk66, h⟩ := ck h
       obtain ⟨hk67, h⟩ := ck h
       refine RU tbOk false 999 14 [.az xs26 v63, .bs (Et.int .u8) ([10] : List Int), .ap (Et.int .u8) .unk _ _] (aR (aR (aC hk66 (aR (aR (aR (aR (aC hk67 (aC rfl aN))))))))) (by rfl) ?_
       exact ih54 ((xs26 ++ bytesZ v63) ++ ([10] : List Int), IntKind.i64.wrap ((IntKind.i64.wrap (x27 + 1)) + 1)) h _ _ (Imp.to [0, 1, 5] (by rfl) (by rfl) rfl rfl)
      ·obtain ⟨v68, hv69, h⟩ := bd h
       refine RU tbOk false 999 6 [.cl true [1] (fun _ => c31 F v2 (gt p0 x27) _ hv69)] (aC hk58 (aK aN)) (by rfl) ?_
       obtain ⟨hk70, h⟩ := ck h
       obtain ⟨hk71, h⟩ := ck h
       refine RU tbOk false 999 12 [.az xs26 v68, .bs (Et.int .u8) ([10] : List Int), .ap (Et.int .u8) .unk _ _] (aR (aR (aC hk70 (aR (aR (aR (aR (aC hk71 (aC rfl aN))))))))) (by rfl) ?_
       exact ih54 ((xs26 ++ bytesZ v68) ++ ([10] : List Int), IntKind.i64.wrap (x27 + 1)) h _ _ (Imp.to [0, 1, 5] (by rfl) (by rfl) rfl rfl)
     ·refine RU tbOk false 999 2 [] aN (by rfl) ?_
      refine CD h (by rfl) (fun h hb72 => ?_) (fun h hb72 => ?_)
      ·obtain ⟨hk73, h⟩ := ck h
       obtain ⟨hk74, h⟩ := ck h
       refine RU tbOk false 999 14 [.az xs26 (⟨#[]⟩ : ByteArray), .bs (Et.int .u8) ([10] : List Int), .ap (Et.int .u8) .unk _ _] (aR (aR (aC hk73 (aR (aR (aR (aR (aC hk74 (aC rfl aN))))))))) (by rfl) ?_
       exact ih54 ((xs26 ++ bytesZ (⟨#[]⟩ : ByteArray)) ++ ([10] : List Int), IntKind.i64.wrap ((IntKind.i64.wrap (x27 + 1)) + 1)) h _ _ (Imp.to [0, 1, 5] (by rfl) (by rfl) rfl rfl)
      ·obtain ⟨v75, hv76, h⟩ := bd h
       refine RU tbOk false 999 6 [.cl true [1] (fun _ => c31 F v2 (gt p0 x27) _ hv76)] (aC hk58 (aK aN)) (by rfl) ?_
       obtain ⟨hk77, h⟩ := ck h
       obtain ⟨hk78, h⟩ := ck h
       refine RU tbOk false 999 12 [.az xs26 v75, .bs (Et.int .u8) ([10] : List Int), .ap (Et.int .u8) .unk _ _] (aR (aR (aC hk77 (aR (aR (aR (aR (aC hk78 (aC rfl aN))))))))) (by rfl) ?_
       exact ih54 ((xs26 ++ bytesZ v75) ++ ([10] : List Int), IntKind.i64.wrap (x27 + 1)) h _ _ (Imp.to [0, 1, 5] (by rfl) (by rfl) rfl rfl)
   ·refine RU tbOk false 999 0 [] aN (by rfl) ?_
    have ho := Option.some.inj h
    subst ho
    exact CES _ rfl (Imp.to [0, 2] (by rfl) (by rfl) rfl rfl)
  ·subst hu79
   change fn13_k1 u79 = _ at h
   rw [fn13_k1] at h
   refine RU tbOk false 999 3 [.b2 _] (aR aN) (by rfl) ?_
   have hr := Option.some.inj h
   subst hr
   exact RT tbOk.t Tryz.results13 [0] (by rfl) (by rfl) (by rfl) rfl rfl
def fn14_b1 (p0 : List Instr) (p1 : List Instr) (rl1 : Int → Option ((Unit) ⊕ (Bool))) (x8 : Int) : Option ((Unit) ⊕ (Bool)) :=
 bif decide (x8 < ((cutX p0 (((0 : Nat) : Int).toNat) (((0 : Nat) : Int).toNat + ((IntKind.i64.wrap ((p1.length : Int) + 12)).toNat - ((0 : Nat) : Int).toNat))).length : Int)) then (bif bif decide (x8 < (p1.length : Int)) then (inb x8 ((IntKind.i64.wrap ((p1.length : Int) + 12)).toNat - ((0 : Nat) : Int).toNat)) else true then (bif bif decide (x8 < (p1.length : Int)) then (inb x8 p1.length) else true then (bif bif (decide (x8 < (p1.length : Int))) && (!((((gt (cutX p0 (((0 : Nat) : Int).toNat) (((0 : Nat) : Int).toNat + ((IntKind.i64.wrap ((p1.length : Int) + 12)).toNat - ((0 : Nat) : Int).toNat))) x8).fOp) == ((gt p1 x8).fOp)) && ((((gt (cutX p0 (((0 : Nat) : Int).toNat) (((0 : Nat) : Int).toNat + ((IntKind.i64.wrap ((p1.length : Int) + 12)).toNat - ((0 : Nat) : Int).toNat))) x8).fDst) == ((gt p1 x8).fDst)) && ((((gt (cutX p0 (((0 : Nat) : Int).toNat) (((0 : Nat) : Int).toNat + ((IntKind.i64.wrap ((p1.length : Int) + 12)).toNat - ((0 : Nat) : Int).toNat))) x8).fSrc) == ((gt p1 x8).fSrc)) && ((((gt (cutX p0 (((0 : Nat) : Int).toNat) (((0 : Nat) : Int).toNat + ((IntKind.i64.wrap ((p1.length : Int) + 12)).toNat - ((0 : Nat) : Int).toNat))) x8).fOff) == ((gt p1 x8).fOff)) && ((((gt (cutX p0 (((0 : Nat) : Int).toNat) (((0 : Nat) : Int).toNat + ((IntKind.i64.wrap ((p1.length : Int) + 12)).toNat - ((0 : Nat) : Int).toNat))) x8).fImm) == ((gt p1 x8).fImm)) && true)))))) then true else (bif decide ((p1.length : Int) ≤ x8) then (inb x8 ((IntKind.i64.wrap ((p1.length : Int) + 12)).toNat - ((0 : Nat) : Int).toNat)) else true) then (bif ((decide (x8 < (p1.length : Int))) && (!((((gt (cutX p0 (((0 : Nat) : Int).toNat) (((0 : Nat) : Int).toNat + ((IntKind.i64.wrap ((p1.length : Int) + 12)).toNat - ((0 : Nat) : Int).toNat))) x8).fOp) == ((gt p1 x8).fOp)) && ((((gt (cutX p0 (((0 : Nat) : Int).toNat) (((0 : Nat) : Int).toNat + ((IntKind.i64.wrap ((p1.length : Int) + 12)).toNat - ((0 : Nat) : Int).toNat))) x8).fDst) == ((gt p1 x8).fDst)) && ((((gt (cutX p0 (((0 : Nat) : Int).toNat) (((0 : Nat) : Int).toNat + ((IntKind.i64.wrap ((p1.length : Int) + 12)).toNat - ((0 : Nat) : Int).toNat))) x8).fSrc) == ((gt p1 x8).fSrc)) && ((((gt (cutX p0 (((0 : Nat) : Int).toNat) (((0 : Nat) : Int).toNat + ((IntKind.i64.wrap ((p1.length : Int) + 12)).toNat - ((0 : Nat) : Int).toNat))) x8).fOff) == ((gt p1 x8).fOff)) && ((((gt (cutX p0 (((0 : Nat) : Int).toNat) (((0 : Nat) : Int).toNat + ((IntKind.i64.wrap ((p1.length : Int) + 12)).toNat - ((0 : Nat) : Int).toNat))) x8).fImm) == ((gt p1 x8).fImm)) && true))))))) || ((decide ((p1.length : Int) ≤ x8)) && (!((((gt (cutX p0 (((0 : Nat) : Int).toNat) (((0 : Nat) : Int).toNat + ((IntKind.i64.wrap ((p1.length : Int) + 12)).toNat - ((0 : Nat) : Int).toNat))) x8).fOp) == ((fn22 1 (IntKind.i64.wrap (x8 - (p1.length : Int)))).fOp)) && ((((gt (cutX p0 (((0 : Nat) : Int).toNat) (((0 : Nat) : Int).toNat + ((IntKind.i64.wrap ((p1.length : Int) + 12)).toNat - ((0 : Nat) : Int).toNat))) x8).fDst) == ((fn22 1 (IntKind.i64.wrap (x8 - (p1.length : Int)))).fDst)) && ((((gt (cutX p0 (((0 : Nat) : Int).toNat) (((0 : Nat) : Int).toNat + ((IntKind.i64.wrap ((p1.length : Int) + 12)).toNat - ((0 : Nat) : Int).toNat))) x8).fSrc) == ((fn22 1 (IntKind.i64.wrap (x8 - (p1.length : Int)))).fSrc)) && ((((gt (cutX p0 (((0 : Nat) : Int).toNat) (((0 : Nat) : Int).toNat + ((IntKind.i64.wrap ((p1.length : Int) + 12)).toNat - ((0 : Nat) : Int).toNat))) x8).fOff) == ((fn22 1 (IntKind.i64.wrap (x8 - (p1.length : Int)))).fOff)) && ((((gt (cutX p0 (((0 : Nat) : Int).toNat) (((0 : Nat) : Int).toNat + ((IntKind.i64.wrap ((p1.length : Int) + 12)).toNat - ((0 : Nat) : Int).toNat))) x8).fImm) == ((fn22 1 (IntKind.i64.wrap (x8 - (p1.length : Int)))).fImm)) && true))))))) then (some (.inr (false))) else (rl1 (IntKind.i64.wrap (x8 + 1)))) else none) else none) else none) else (some (.inl ()))
def fn14_l1 (p0 : List Instr) (p1 : List Instr) : Nat → Int → Option ((Unit) ⊕ (Bool))
 | 0, _ => none
 | n16 + 1, x8 => fn14_b1 p0 p1 (fn14_l1 p0 p1 n16) x8
theorem fn14_l1_s (p0 : List Instr) (p1 : List Instr) (n16 : Nat) (x8 : Int) : fn14_l1 p0 p1 (n16 + 1) x8 = fn14_b1 p0 p1 (fn14_l1 p0 p1 n16) x8 := rfl
def fn14_k1 : Option (Bool) :=
 some (true)
def fn14 (F : Nat) (p0 : List Instr) (p0_k : Nat) (p1 : List Instr) : Option (Bool) :=
 bif ((cutX p0 0 (0 + p0_k)).length : Int) != (p1.length : Int) then (some (false)) else (bif sliceOk ((0 : Nat) : Int) (IntKind.i64.wrap ((p1.length : Int) + 12)) p0.length then (Option.bind (fn14_l1 p0 p1 F 0) fun o14 => (match o14 with | .inl u => fn14_k1 | .inr u => some u)) else none)
theorem c14 (F : Nat) (p0 : List Instr) (p0_k : Nat) (p1 : List Instr) (r : Bool) (h : fn14 F p0 p0_k p1 = some r) : Con Tryz.prog 14 [.sl 0, .sl 2] [(0, .vw (.ss 1 0 5 p0_k)), (1, .rd Instr.E p0), (2, .rd Instr.E p1)] 3 (.v (.bool r)) [(0, .vw (.ss 1 0 5 p0_k))] 3 := by
 rw [fn14] at h
 refine Con.of_body Tryz.func14 rfl Tryz.ntmps14 rfl fun w F0 ρ gl => ?_
 refine RU tbOk false 999 6 [] aN (by rfl) ?_
 refine CD h (by rfl) (fun h hb1 => ?_) (fun h hb1 => ?_)
 ·refine RU tbOk false 999 1 [] aN (by rfl) ?_
  have hr := Option.some.inj h
  subst hr
  exact RT tbOk.t Tryz.results14 [0, 1, 2] (by rfl) (by rfl) (by rfl) rfl rfl
 ·obtain ⟨hk2, h⟩ := ck h
  refine RU tbOk false 999 7 [.sv] (aC rfl (aC hk2 aN)) (by rfl) ?_
  refine G4.imp (Imp.vwS 5 (by rfl)) ?_
  obtain ⟨o14, hl15, h⟩ := bd h
  refine CTS 0 (fun u25 => ⟨[], [(0, .vw (.ss 1 0 5 p0_k)), (1, .rd Instr.E p0), (2, .rd Instr.E p1)], 3⟩) o14 ?_ (fun u25 hu25 => ?_)
  ·have h018 := h
   clear h
   refine G4.imp (Imp.to [0, 1, 2, 3] (by rfl) (by rfl) rfl rfl) (LP (fun (n : Nat) (s : Int) => fn14_l1 p0 p1 n s) (fun (s : Int) => ⟨[(1, .sl 2), (5, .sl 3), (6, .v (.int .i64 s))], [(0, .vw (.ss 1 0 5 p0_k)), (1, .rd Instr.E p0), (2, .rd Instr.E p1), (3, .vw (.ss 1 (((0 : Nat) : Int).toNat) 5 ((IntKind.i64.wrap ((p1.length : Int) + 12)).toNat - ((0 : Nat) : Int).toNat)))], 4⟩) (fun _ => rfl) (s0 := 0) hl15 ?_)
   clear hl15
   rintro R19 n16 x8 h ih17
   replace h := (fn14_l1_s p0 p1 n16 x8).symm.trans h
   rw [fn14_b1] at h
   refine RU tbOk false 999 4 [] aN (by rfl) ?_
   refine CD h (by rfl) (fun h hb20 => ?_) (fun h hb20 => ?_)
   ·refine RU tbOk false 999 0 [] aN (by rfl) ?_
    obtain ⟨hk21, h⟩ := ck h
    obtain ⟨hk22, h⟩ := ck h
    obtain ⟨hk23, h⟩ := ck h
    refine DR tbOk hmix [57] [([], []), ([], []), ([2], []), ([], []), ([], []), ([], []), ([], []), ([1, 3], []), ([1, 3], []), ([], []), ([], []), ([2], []), ([2], []), ([], []), ([], []), ([], []), ([], []), ([], []), ([], []), ([2], []), ([], []), ([], []), ([], []), ([], []), ([1, 3], []), ([1, 3], []), ([], []), ([], []), ([2], []), ([], []), ([], []), ([], []), ([], []), ([], []), ([], [])] [.cl (bif (decide (x8 < (p1.length : Int))) && (!((((gt (cutX p0 (((0 : Nat) : Int).toNat) (((0 : Nat) : Int).toNat + ((IntKind.i64.wrap ((p1.length : Int) + 12)).toNat - ((0 : Nat) : Int).toNat))) x8).fOp) == ((gt p1 x8).fOp)) && ((((gt (cutX p0 (((0 : Nat) : Int).toNat) (((0 : Nat) : Int).toNat + ((IntKind.i64.wrap ((p1.length : Int) + 12)).toNat - ((0 : Nat) : Int).toNat))) x8).fDst) == ((gt p1 x8).fDst)) && ((((gt (cutX p0 (((0 : Nat) : Int).toNat) (((0 : Nat) : Int).toNat + ((IntKind.i64.wrap ((p1.length : Int) + 12)).toNat - ((0 : Nat) : Int).toNat))) x8).fSrc) == ((gt p1 x8).fSrc)) && ((((gt (cutX p0 (((0 : Nat) : Int).toNat) (((0 : Nat) : Int).toNat + ((IntKind.i64.wrap ((p1.length : Int) + 12)).toNat - ((0 : Nat) : Int).toNat))) x8).fOff) == ((gt p1 x8).fOff)) && ((((gt (cutX p0 (((0 : Nat) : Int).toNat) (((0 : Nat) : Int).toNat + ((IntKind.i64.wrap ((p1.length : Int) + 12)).toNat - ((0 : Nat) : Int).toNat))) x8).fImm) == ((gt p1 x8).fImm)) && true)))))) then false else (bif decide ((p1.length : Int) ≤ x8) then true else false)) [] (fun _ => c22 1 (IntKind.i64.wrap (x8 - (p1.length : Int))) _ rfl)] (aR (aC hk21 (aC hk22 (aC hk23 (aR (aR (aK aN))))))) (by rfl) ?_
    refine RU tbOk false 999 0 [] aN (by rfl) ?_
    refine CD h (by rfl) (fun h hb24 => ?_) (fun h hb24 => ?_)
    ·refine RU tbOk false 999 1 [] aN (by rfl) ?_
     have ho := Option.some.inj h
     subst ho
     replace h := h018
     refine RU tbOk false 999 0 [] aN (by rfl) ?_
     have hr := Option.some.inj h
     subst hr
     exact RT tbOk.t Tryz.results14 [0, 1, 2] (by rfl) (by rfl) (by rfl) rfl rfl
    ·refine RU tbOk false 999 3 [] aN (by rfl) ?_
     exact ih17 (IntKind.i64.wrap (x8 + 1)) h _ _ (Imp.to [0, 1, 2, 3] (by rfl) (by rfl) rfl rfl)
   ·refine RU tbOk false 999 0 [] aN (by rfl) ?_
    have ho := Option.some.inj h
    subst ho
    exact CES _ rfl (Imp.to [0, 1, 2] (by rfl) (by rfl) rfl rfl)
  ·subst hu25
   change fn14_k1 = _ at h
   rw [fn14_k1] at h
   refine RU tbOk false 999 1 [] aN (by rfl) ?_
   have hr := Option.some.inj h
   subst hr
   exact RT tbOk.t Tryz.results14 [0, 1, 2] (by rfl) (by rfl) (by rfl) rfl rfl
def fn4 (F : Nat) (p0 : List Instr) : Option (Bool) :=
 bif decide ((300 : Int) < (p0.length : Int)) then (Option.bind (fn10 F) fun v2 => (some (v2))) else (Option.bind (fn11 F p0) fun v4 => (Option.bind (fn12 F (cutX v4.1 0 (0 + v4.2))) fun v6 => (Option.bind (fn13 F p0) fun v8 => (Option.bind (bif bif v6.toList == v8.toList then true else false then fn14 F v4.1 v4.2 p0 else some false) fun v10 => (Option.bind (bif bif (v6.toList == v8.toList) && v10 then true else false then fn10 F else some false) fun v12 => (some (((v6.toList == v8.toList) && v10) && v12)))))))
theorem c4 (F : Nat) (p0 : List Instr) (r : Bool) (h : fn4 F p0 = some r) : Con Tryz.prog 4 [.sl 0] [(0, .rd Instr.E p0)] 1 (.v (.bool r)) [] 1 := by
 rw [fn4] at h
 refine Con.of_body Tryz.func4 rfl Tryz.ntmps4 rfl fun w F0 ρ gl => ?_
 refine RU tbOk false 999 4 [] aN (by rfl) ?_
 refine CD h (by rfl) (fun h hb1 => ?_) (fun h hb1 => ?_)
 ·obtain ⟨v2, hv3, h⟩ := bd h
  refine RU tbOk false 999 1 [.cl true [] (fun _ => c10 F _ hv3)] (aK aN) (by rfl) ?_
  refine RU tbOk false 999 1 [] aN (by rfl) ?_
  have hr := Option.some.inj h
  subst hr
  exact RT tbOk.t Tryz.results4 [0] (by rfl) (by rfl) (by rfl) rfl rfl
 ·obtain ⟨v4, hv5, h⟩ := bd h
  refine RU tbOk false 999 2 [.cl true [0] (fun _ => c11 F p0 _ hv5)] (aK aN) (by rfl) ?_
  obtain ⟨v6, hv7, h⟩ := bd h
  refine RU tbOk false 999 3 [.cl true [1] (fun _ => c12 F (cutX v4.1 0 (0 + v4.2)) _ hv7)] (aK aN) (by rfl) ?_
  obtain ⟨v8, hv9, h⟩ := bd h
  refine RU tbOk false 999 2 [.cl true [0] (fun _ => c13 F p0 _ hv9)] (aK aN) (by rfl) ?_
  obtain ⟨v10, hv11, h⟩ := bd h
  obtain ⟨v12, hv13, h⟩ := bd h
  refine RU tbOk false 999 10 [.cl (bif v6.toList == v8.toList then true else false) [1, 2, 0] (fun hg => c14 F v4.1 v4.2 p0 _ (gcl hg hv11)), .cl (bif (v6.toList == v8.toList) && v10 then true else false) [] (fun hg => c10 F _ (gcl hg hv13))] (aR (aR (aK (aR (aR (aK aN)))))) (by rfl) ?_
  have hr := Option.some.inj h
  subst hr
  exact RT tbOk.t Tryz.results4 [0] (by rfl) (by rfl) (by rfl) rfl rfl
end Go.Proofs.YtfjefnnbodgfbaaGreatDoor
namespace Go.Proofs.YtfjefnnbodgfbaaGreatDoor
open Go Go.HW
set_option linter.unusedVariables false
theorem w64 {n : Int} (h : -9223372036854775808 ≤ n ∧ n ≤ 9223372036854775807) : IntKind.i64.wrap n = n := by rw [IntKind.wrap_i64]; omega
def num (n : Int) : ByteArray := ⟨(itoaL n).toArray⟩
def I64 (n : Int) : Prop := -9223372036854775808 ≤ n ∧ n ≤ 9223372036854775807
theorem num_size {n : Int} (h : I64 n) : (num n).size ≤ 21 := by
 have := Lib.itoa_length_le n h.1 h.2
 rw [← itoaL_eq n h.1 h.2] at this
 simpa [num, ByteArray.size] using this
theorem fn53_ok {n : Int} (h : I64 n) : fn53 n = some (num n) := by
 unfold fn53 in64
 rw [decide_eq_true h.1, decide_eq_true h.2]; rfl
theorem fn100_ok {n : Int} (h : I64 n) : fn100 n 10 = some (num n) := by
 unfold fn100 in64
 rw [decide_eq_true h.1, decide_eq_true h.2]; rfl
structure Rng (x : Instr) : Prop where
 op : 0 ≤ x.fOp ∧ x.fOp < 256
 dst : 0 ≤ x.fDst ∧ x.fDst < 256
 src : 0 ≤ x.fSrc ∧ x.fSrc < 256
 off : -32768 ≤ x.fOff ∧ x.fOff < 32768
 imm : -2147483648 ≤ x.fImm ∧ x.fImm < 2147483648
def sR : ByteArray := ⟨#[114]⟩
def sSp : ByteArray := ⟨#[32]⟩
def word (x : Instr) (c : Int) : ByteArray :=
 bif c == 68 then sR ++ num x.fDst else bif c == 83 then sR ++ num x.fSrc else bif c == 73 then num x.fImm else num x.fOff
def clr (x : Instr) (c : Int) : Instr :=
 bif c == 68 then { x with fDst := 0 } else bif c == 83 then { x with fSrc := 0 } else bif c == 73 then { x with fImm := 0 } else { x with fOff := 0 }
theorem Rng.clr {x : Instr} (h : Rng x) (c : Int) : Rng (clr x c) := by
 obtain ⟨h1, h2, h3, h4, h5⟩ := h
 unfold Go.Proofs.YtfjefnnbodgfbaaGreatDoor.clr
 cases c == 68
 ·cases c == 83
  ·cases c == 73
   ·exact ⟨h1, h2, h3, by simp, h5⟩
   ·exact ⟨h1, h2, h3, h4, by simp⟩
  ·exact ⟨h1, h2, by simp, h4, h5⟩
 ·exact ⟨h1, by simp, h3, h4, h5⟩
theorem Rng.i64 {x : Instr} (h : Rng x) : I64 x.fDst ∧ I64 x.fSrc ∧ I64 x.fOff ∧ I64 x.fImm ∧ I64 x.fOp := by
 obtain ⟨h1, h2, h3, h4, h5⟩ := h
 unfold I64
 omega
theorem word_size {x : Instr} (h : Rng x) (c : Int) : (word x c).size ≤ 22 := by
 obtain ⟨h1, h2, h3, h4, _⟩ := h.i64
 have a1 := num_size h1; have a2 := num_size h2; have a3 := num_size h3; have a4 := num_size h4
 have e : sR.size = 1 := rfl
 unfold word
 cases c == 68
 ·cases c == 83
  ·cases c == 73
   ·simp only [cond_false]; omega
   ·simp only [cond_false, cond_true]; omega
  ·simp only [cond_false, cond_true, ByteArray.size_append]; omega
 ·simp only [cond_true, ByteArray.size_append]; omega
theorem tell_ok {x y : Instr} {ws : List ByteArray} {c : Int} (h : Rng x) (hw : ws.length ≤ 100) (hc : (c == 78) = false) : fn97 ⟨x, y, ws⟩ c = some ⟨clr x c, y, ws ++ [word x c]⟩ := by
 obtain ⟨h1, h2, h3, h4, _⟩ := h.i64
 have a1 := num_size h1; have a2 := num_size h2
 have k1 : decide ((⟨#[114]⟩ : ByteArray).size + (num x.fDst).size ≤ 9223372036854775807) = true := decide_eq_true (by have : (⟨#[114]⟩ : ByteArray).size = 1 := rfl; omega)
 have k2 : decide ((⟨#[114]⟩ : ByteArray).size + (num x.fSrc).size ≤ 9223372036854775807) = true := decide_eq_true (by have : (⟨#[114]⟩ : ByteArray).size = 1 := rfl; omega)
 have k3 : ∀ b : ByteArray, decide ((ws.length + ([b] : List ByteArray).length) * 16 ≤ 140737488355328 ∧ ws.length + ([b] : List ByteArray).length ≤ 9223372036854775807) = true := fun b => decide_eq_true (by simp only [List.length_singleton]; omega)
 unfold fn97 word Go.Proofs.YtfjefnnbodgfbaaGreatDoor.clr
 simp only [w64 h1, w64 h2, w64 h3, w64 h4, fn53_ok h1, fn53_ok h2, fn53_ok h3, fn53_ok h4, Option.bind_some, k1, k2, k3, cond_true, hc, cond_false]
 cases c == 68
 ·cases c == 83
  ·cases c == 73
   ·rfl
   ·rfl
  ·rfl
 ·rfl
end Go.Proofs.YtfjefnnbodgfbaaGreatDoor
namespace Go.Proofs.YtfjefnnbodgfbaaGreatDoor
open Go Go.HW
set_option linter.unusedVariables false
def words (x : Instr) : List Nat → List ByteArray
 | [] => []
 | c :: l => word x (c : Int) :: words (clr x (c : Int)) l
def clrs (x : Instr) : List Nat → Instr
 | [] => x
 | c :: l => clrs (clr x (c : Int)) l
def letters (w : ByteArray) : Nat → List Nat → Prop
 | q, [] => ¬ q < w.size
 | q, c :: l => q < w.size ∧ Utf8.decode w q = (c, 1) ∧ ((c : Int) == 78) = false ∧ bget w (q : Int) = (c : Int) ∧ letters w (q + 1) l
theorem told_l2 (p0 : Form) (y : Instr) (l : List Nat) : ∀ (q F : Nat) (x : Instr) (ws : List ByteArray), Rng x → letters p0.fwords q l → l.length < F → ws.length + l.length ≤ 100 →
  fn60_l2 p0 F ws x.fOp x.fDst x.fSrc x.fOff x.fImm y.fOp y.fDst y.fSrc y.fOff y.fImm q =
   some (ws ++ words x l, (clrs x l).fOp, (clrs x l).fDst, (clrs x l).fSrc, (clrs x l).fOff, (clrs x l).fImm, y.fOp, y.fDst, y.fSrc, y.fOff, y.fImm) := by
 induction l with
 | nil =>
  intro q F x ws hx hl hF hw
  have hl : ¬ q < p0.fwords.size := hl
  obtain ⟨F, rfl⟩ : ∃ n, F = n + 1 := ⟨F - 1, by simp at hF; omega⟩
  rw [fn60_l2_s, fn60_b2, decide_eq_false hl, cond_false, show words x [] = [] from rfl, show clrs x [] = x from rfl, List.append_nil]
 | cons c l ih =>
  intro q F x ws hx hl hF hw
  obtain ⟨h1, h2, h3, h4, h5⟩ := hl
  simp only [List.length_cons] at hF hw
  obtain ⟨F, rfl⟩ : ∃ n, F = n + 1 := ⟨F - 1, by omega⟩
  have ht := tell_ok (x := x) (y := y) (ws := ws) (c := (c : Int)) hx (by omega) h3
  have hi := ih (q + 1) F (clr x (c : Int)) (ws ++ [word x (c : Int)]) (hx.clr _) h5 (by omega) (by simp only [List.length_append, List.length_singleton]; omega)
  rw [fn60_l2_s, fn60_b2, decide_eq_true h1, cond_true, h2]
  show Option.bind (fn97 ⟨x, y, ws⟩ (c : Int)) _ = _
  rw [ht, Option.bind_some]
  show fn60_l2 p0 F (ws ++ [word x (c : Int)]) (clr x (c : Int)).fOp (clr x (c : Int)).fDst (clr x (c : Int)).fSrc (clr x (c : Int)).fOff (clr x (c : Int)).fImm y.fOp y.fDst y.fSrc y.fOff y.fImm (q + 1) = _
  rw [hi, List.append_assoc, List.singleton_append]
  rfl
theorem told_ok {p0 : Form} {l : List Nat} {F : Nat} {x y : Instr} (hx : Rng x) (hl : letters p0.fwords 0 l) (hF : l.length < F) (hn : l.length ≤ 50) (ho : (p0.fslot.fOp == 24) = false) :
  fn60 F p0 x y = some (p0.fname :: words x l, false, decide (clrs x l = p0.fslot)) := by
 have hw : (fn56 0).fOp = 24 := by decide +kernel
 unfold fn60
 rw [hw, ho, cond_false]
 have h := told_l2 p0 ⟨0, 0, 0, 0, 0⟩ l 0 F x [p0.fname] hx hl hF (by simp only [List.length_singleton]; omega)
 simp only at h
 rw [h, Option.bind_some, fn60_k2, hw, ho]
 congr 2
 rw [Prod.mk.injEq]
 refine ⟨rfl, ?_⟩
 generalize clrs x l = z
 generalize p0.fslot = s
 obtain ⟨a1, a2, a3, a4, a5⟩ := z
 obtain ⟨b1, b2, b3, b4, b5⟩ := s
 simp [Bool.and_assoc, Bool.beq_eq_decide_eq]
end Go.Proofs.YtfjefnnbodgfbaaGreatDoor
namespace Go.Proofs.YtfjefnnbodgfbaaGreatDoor
open Go Go.HW
set_option linter.unusedVariables false
theorem clr_op (x : Instr) (c : Int) : (clr x c).fOp = x.fOp := by
 unfold clr
 cases c == 68 <;> cases c == 83 <;> cases c == 73 <;> rfl
theorem clrs_op (l : List Nat) : ∀ x : Instr, (clrs x l).fOp = x.fOp := by
 induction l with
 | nil => intro x; rfl
 | cons c l ih => intro x; rw [clrs, ih, clr_op]
theorem fits_l (p0 : RForm) (l : List Nat) : ∀ (q F : Nat) (x : Instr), letters p0.fwords q l → q + l.length ≤ 1000 → l.length < F →
  fn67_l1 p0 F x.fDst x.fSrc x.fOff x.fImm (q : Int) = some ((clrs x l).fDst, (clrs x l).fSrc, (clrs x l).fOff, (clrs x l).fImm) := by
 induction l with
 | nil =>
  intro q F x hl hq hF
  have hl : ¬ q < p0.fwords.size := hl
  obtain ⟨F, rfl⟩ : ∃ n, F = n + 1 := ⟨F - 1, by simp at hF; omega⟩
  rw [fn67_l1_s, fn67_b1, decide_eq_false (by omega), cond_false]; rfl
 | cons c l ih =>
  intro q F x hl hq hF
  obtain ⟨h1, h2, h3, h4, h5⟩ := hl
  simp only [List.length_cons] at hF hq
  obtain ⟨F, rfl⟩ : ∃ n, F = n + 1 := ⟨F - 1, by omega⟩
  have hi := ih (q + 1) F (clr x (c : Int)) h5 (by omega) (by omega)
  have hin : inb (q : Int) p0.fwords.size = true := by simp [inb]; omega
  have hw : IntKind.i64.wrap ((q : Int) + 1) = ((q + 1 : Nat) : Int) := by rw [w64 (by omega)]; omega
  rw [fn67_l1_s, fn67_b1, decide_eq_true (by omega), cond_true, hin, cond_true, h4, hw, show clrs x (c :: l) = clrs (clr x (c : Int)) l from rfl, ← hi]
  unfold clr
  cases (c : Int) == 68
  ·cases (c : Int) == 83
   ·cases (c : Int) == 73 <;> rfl
   ·rfl
  ·rfl
theorem fits_ok {p0 : RForm} {l : List Nat} {F : Nat} {x : Instr} (hl : letters p0.fwords 0 l) (hn : l.length ≤ 50) (hF : l.length < F) : fn67 F p0 x = some (decide (clrs x l = p0.fslot)) := by
 unfold fn67
 have h := fits_l p0 l 0 F x hl (by omega) hF
 rw [show ((0 : Nat) : Int) = 0 from rfl] at h
 rw [h, Option.bind_some, fn67_k1]
 congr 1
 have ho := clrs_op l x
 rw [← ho]
 generalize clrs x l = z
 generalize p0.fslot = s
 obtain ⟨a1, a2, a3, a4, a5⟩ := z
 obtain ⟨b1, b2, b3, b4, b5⟩ := s
 simp [Bool.beq_eq_decide_eq]
def sayL (x : Instr) : List Nat → ByteArray
 | [] => ⟨#[]⟩
 | c :: l => (sSp ++ word x (c : Int)) ++ sayL x l
theorem fn65_ok {n : Int} (h : I64 n) : fn65 n = some (sSp ++ (sR ++ num n)) := by
 have := num_size h
 unfold fn65
 rw [w64 h, fn53_ok h, Option.bind_some, decide_eq_true (by have : (⟨#[32, 114]⟩ : ByteArray).size = 2 := rfl; omega), cond_true]
 congr 1
theorem fn66_ok {n : Int} (h : I64 n) : fn66 n = some (sSp ++ num n) := by
 have := num_size h
 unfold fn66
 rw [fn100_ok h, Option.bind_some, decide_eq_true (by have : (⟨#[32]⟩ : ByteArray).size = 1 := rfl; omega), cond_true]
 rfl
theorem says_l (p0 : RForm) (x : Instr) (hx : Rng x) (l : List Nat) : ∀ (q F : Nat) (s : ByteArray), letters p0.fwords q l → q + l.length ≤ 1000 → l.length < F → s.size + 30 * l.length ≤ 1000000 →
  fn68_l1 p0 x F s (q : Int) = some (s ++ sayL x l) := by
 obtain ⟨i1, i2, i3, i4, _⟩ := hx.i64
 induction l with
 | nil =>
  intro q F s hl hq hF hs
  have hl : ¬ q < p0.fwords.size := hl
  obtain ⟨F, rfl⟩ : ∃ n, F = n + 1 := ⟨F - 1, by simp at hF; omega⟩
  rw [fn68_l1_s, fn68_b1, decide_eq_false (by omega), cond_false, sayL]
  congr 1
  apply ByteArray.ext; simp
 | cons c l ih =>
  intro q F s hl hq hF hs
  obtain ⟨h1, h2, h3, h4, h5⟩ := hl
  simp only [List.length_cons] at hF hq hs
  obtain ⟨F, rfl⟩ : ∃ n, F = n + 1 := ⟨F - 1, by omega⟩
  have hin : inb (q : Int) p0.fwords.size = true := by simp [inb]; omega
  have hw : IntKind.i64.wrap ((q : Int) + 1) = ((q + 1 : Nat) : Int) := by rw [w64 (by omega)]; omega
  have hws := word_size hx (c : Int)
  have e1 : sSp.size = 1 := rfl
  have hsz : (sSp ++ word x (c : Int)).size ≤ 23 := by rw [ByteArray.size_append]; omega
  have hi := ih (q + 1) F (s ++ (sSp ++ word x (c : Int))) h5 (by omega) (by omega) (by rw [ByteArray.size_append]; omega)
  have hk : decide (s.size + (sSp ++ word x (c : Int)).size ≤ 9223372036854775807) = true := decide_eq_true (by omega)
  rw [ByteArray.append_assoc] at hi
  rw [fn68_l1_s, fn68_b1, decide_eq_true (by omega), cond_true, hin, cond_true, h4, hw, fn65_ok i1, fn65_ok i2, w64 i4, w64 i3, fn66_ok i4, fn66_ok i3, sayL, ← hi]
  unfold word at hk ⊢
  cases hc1 : (c : Int) == 68
  ·cases hc2 : (c : Int) == 83
   ·cases hc3 : (c : Int) == 73
    ·simp only [hc1, hc2, hc3, cond_false, cond_true, Option.bind_some] at hk ⊢; rw [hk]; rfl
    ·simp only [hc1, hc2, hc3, cond_false, cond_true, Option.bind_some] at hk ⊢; rw [hk]; rfl
   ·simp only [hc1, hc2, cond_false, cond_true, Option.bind_some] at hk ⊢; rw [hk]; rfl
  ·simp only [hc1, cond_false, cond_true, Option.bind_some] at hk ⊢; rw [hk]; rfl
end Go.Proofs.YtfjefnnbodgfbaaGreatDoor
namespace Go.Proofs.YtfjefnnbodgfbaaGreatDoor
open Go Go.HW
set_option linter.unusedVariables false
theorem join_cons (a : List UInt8) (ws : List (List UInt8)) : Lib.join (a :: ws) [32] = a ++ ws.flatMap fun w => 32 :: w := by
 unfold Lib.join
 induction ws generalizing a with
 | nil => simp [List.intercalate]
 | cons b ws ih =>
  have := ih b
  simp only [List.intercalate, List.intersperse_cons_cons, List.flatten_cons, List.flatMap_cons] at this ⊢
  rw [this]; simp
def okLetter (c : Nat) : Prop := c = 68 ∨ c = 83 ∨ c = 73 ∨ c = 79
theorem word_clr (x : Instr) {c d : Nat} (hc : okLetter c) (hd : okLetter d) (h : c ≠ d) : word (clr x (c : Int)) (d : Int) = word x (d : Int) := by
 unfold okLetter at hc hd
 rcases hc with rfl | rfl | rfl | rfl <;> rcases hd with rfl | rfl | rfl | rfl <;> first | exact absurd rfl h | rfl
theorem words_map (l : List Nat) : ∀ x : Instr, (∀ c ∈ l, okLetter c) → l.Nodup → words x l = l.map fun c : Nat => word x (c : Int) := by
 induction l with
 | nil => intro x _ _; rfl
 | cons c l ih =>
  intro x hk hn
  rw [List.nodup_cons] at hn
  rw [words, ih _ (fun d hd => hk d (List.mem_cons_of_mem _ hd)) hn.2, List.map_cons]
  congr 1
  refine List.map_congr_left fun d hd => word_clr x (hk c (by simp)) (hk d (List.mem_cons_of_mem _ hd)) fun e => hn.1 (e ▸ hd)
theorem sayL_data (x : Instr) (l : List Nat) : (sayL x l).data.toList = (l.map fun c : Nat => word x (c : Int)).flatMap fun w => 32 :: w.data.toList := by
 induction l with
 | nil => rfl
 | cons c l ih =>
  rw [sayL, ByteArray.data_append, ByteArray.data_append, Array.toList_append, Array.toList_append, ih, List.map_cons, List.flatMap_cons]
  rfl
theorem sayL_size {x : Instr} (hx : Rng x) (l : List Nat) : (sayL x l).size ≤ 23 * l.length := by
 induction l with
 | nil => exact Nat.le_refl _
 | cons c l ih =>
  have := word_size hx (c : Int)
  have e1 : sSp.size = 1 := rfl
  rw [sayL, ByteArray.size_append, ByteArray.size_append, List.length_cons]; omega
theorem join_ok {x : Instr} (hx : Rng x) (name : ByteArray) (l : List Nat) (hk : ∀ c ∈ l, okLetter c) (hn : l.Nodup) (h1 : name.size ≤ 1000) (h2 : l.length ≤ 50) :
  fn19 (name :: words x l) sSp = some (name ++ sayL x l) := by
 have hj : Lib.join ((name :: words x l).map (·.data.toList)) sSp.data.toList = (name ++ sayL x l).data.toList := by
  rw [words_map l x hk hn, List.map_cons, show sSp.data.toList = [32] from rfl, join_cons, ByteArray.data_append, Array.toList_append, sayL_data, List.flatMap_map]
 have hs := sayL_size hx l
 have hlen : (name ++ sayL x l).data.toList.length ≤ 140737488355328 := by
  have : (name ++ sayL x l).data.toList.length = (name ++ sayL x l).size := by simp
  rw [this, ByteArray.size_append]; omega
 have hw : (words x l).length = l.length := by rw [words_map l x hk hn, List.length_map]
 unfold fn19
 rw [hj, decide_eq_true hlen, decide_eq_true (by rw [List.length_cons, hw]; omega)]
 rfl
end Go.Proofs.YtfjefnnbodgfbaaGreatDoor
namespace Go.Proofs.YtfjefnnbodgfbaaGreatDoor
open Go Go.HW
set_option linter.unusedVariables false
def lts (w : ByteArray) : List Nat := w.data.toList.map (·.toNat)
def lettersB (w : ByteArray) : Nat → List Nat → Bool
 | q, [] => !decide (q < w.size)
 | q, c :: l => decide (q < w.size) && decide (Utf8.decode w q = (c, 1)) && !((c : Int) == 78) && decide (bget w (q : Int) = (c : Int)) && lettersB w (q + 1) l
theorem lettersB_ok (w : ByteArray) (l : List Nat) : ∀ q, lettersB w q l = true → letters w q l := by
 induction l with
 | nil => intro q h; simpa [lettersB, letters] using h
 | cons c l ih =>
  intro q h
  simp only [lettersB, Bool.and_eq_true, decide_eq_true_eq, Bool.not_eq_true'] at h
  exact ⟨h.1.1.1.1, h.1.1.1.2, h.1.1.2, h.1.2, ih _ h.2⟩
def okL (c : Nat) : Bool := c == 68 || c == 83 || c == 73 || c == 79
def nodB : List Nat → Bool
 | [] => true
 | c :: l => !l.contains c && nodB l
theorem nodB_ok (l : List Nat) : nodB l = true → l.Nodup := by
 induction l with
 | nil => intro _; exact List.nodup_nil
 | cons c l ih => intro h; simp only [nodB, Bool.and_eq_true] at h; exact List.nodup_cons.2 ⟨by simpa using h.1, ih h.2⟩
def goodB (name w : ByteArray) : Bool := lettersB w 0 (lts w) && (lts w).all okL && nodB (lts w) && decide ((lts w).length ≤ 50) && decide (name.size ≤ 1000)
structure Good (name w : ByteArray) : Prop where
 let_ : letters w 0 (lts w)
 ok : ∀ c ∈ lts w, okLetter c
 nod : (lts w).Nodup
 len : (lts w).length ≤ 50
 nm : name.size ≤ 1000
theorem goodB_ok {name w : ByteArray} (h : goodB name w = true) : Good name w := by
 simp only [goodB, Bool.and_eq_true, decide_eq_true_eq, List.all_eq_true] at h
 refine ⟨lettersB_ok _ _ _ h.1.1.1.1, fun c hc => ?_, nodB_ok _ h.1.1.2, h.1.2, h.2⟩
 have := h.1.1.1.2 c hc
 simp only [okL, Bool.or_eq_true, beq_iff_eq] at this
 unfold okLetter; omega
def fitB (x : Instr) (w : ByteArray) (s : Instr) : Bool := decide (clrs x (lts w) = s)
theorem prog_loop {F0 : Nat} (hF0 : 60 ≤ F0) {x y : Instr} {last : Bool} {p : List Form} (hx : Rng x) (hg : ∀ f ∈ p, Good f.fname f.fwords ∧ (f.fslot.fOp == 24) = false) (hlen : p.length ≤ 1000) :
  ∀ (n i F : Nat), p.length - i = n → i ≤ p.length → n < F →
   fn115_l1 (stepR (fun (s : Bool × (List ByteArray)) (y1 : Form) => fn26_r1 F0 x y last s.1 s.2 y1)) goR p F ((false, []), 0) (i : Int) =
    match (p.drop i).find? (fun f => fitB x f.fwords f.fslot) with
    | some f => some (.inr ((false, f.fname :: words x (lts f.fwords)), 1))
    | none => some (.inl ((false, []), 0)) := by
 intro n
 induction n with
 | zero =>
  intro i F hn hi hF
  obtain ⟨F, rfl⟩ : ∃ n, F = n + 1 := ⟨F - 1, by omega⟩
  rw [fn115_l1_s, fn115_b1, decide_eq_false (by omega), cond_false, List.drop_eq_nil_of_le (by omega)]; rfl
 | succ n ih =>
  intro i F hn hi hF
  obtain ⟨F, rfl⟩ : ∃ n, F = n + 1 := ⟨F - 1, by omega⟩
  have hlt : i < p.length := by omega
  have hin : inb (i : Int) p.length = true := by simp [inb]; omega
  have hget : gt p (i : Int) = p[i] := by simp [gt, hlt]
  have hmem : p[i] ∈ p := List.getElem_mem hlt
  obtain ⟨g1, g2⟩ := hg _ hmem
  have ht := told_ok (p0 := p[i]) (F := F0) (y := y) hx g1.let_ (by have := g1.len; omega) g1.len g2
  have hw : IntKind.i64.wrap ((i : Int) + 1) = ((i + 1 : Nat) : Int) := by rw [w64 (by omega)]; omega
  rw [fn115_l1_s, fn115_b1, decide_eq_true (by omega), cond_true, hin, cond_true, hget, List.drop_eq_getElem_cons hlt, List.find?_cons]
  show Option.bind (stepR _ ((false, []), 0) p[i]) _ = _
  have hst : stepR (fun (s : Bool × (List ByteArray)) (y1 : Form) => fn26_r1 F0 x y last s.1 s.2 y1) ((false, []), 0) p[i] =
    some (bif fitB x p[i].fwords p[i].fslot then ((false, p[i].fname :: words x (lts p[i].fwords)), 1) else ((false, []), 0)) := by
   unfold stepR
   show (bif Nat.beq 0 0 then fn26_r1 F0 x y last false [] p[i] else none) = _
   rw [show Nat.beq 0 0 = true from rfl, cond_true, fn26_r1, ht, Option.bind_some]
   unfold fitB
   cases decide (clrs x (lts p[i].fwords) = p[i].fslot) <;> rfl
  rw [hst, Option.bind_some]
  cases hd : fitB x p[i].fwords p[i].fslot with
  | true => rfl
  | false =>
   rw [cond_false]
   show (bif !(goR ((false, ([] : List ByteArray)), 0)) then _ else fn115_l1 _ goR p F ((false, []), 0) (IntKind.i64.wrap ((i : Int) + 1))) = _
   rw [show (!(goR ((false, ([] : List ByteArray)), 0))) = false from rfl, cond_false, hw]
   exact ih (i + 1) F (by omega) (by omega) (by omega)
end Go.Proofs.YtfjefnnbodgfbaaGreatDoor
namespace Go.Proofs.YtfjefnnbodgfbaaGreatDoor
open Go Go.HW
set_option linter.unusedVariables false
theorem says_ok {p0 : RForm} {F : Nat} {x : Instr} (hx : Rng x) (hg : Good p0.fname p0.fwords) (hF : 60 ≤ F) : fn68 F p0 x = some (p0.fname ++ sayL x (lts p0.fwords)) := by
 have h := says_l p0 x hx (lts p0.fwords) 0 F p0.fname hg.let_ (by have := hg.len; omega) (by have := hg.len; omega) (by have := hg.len; have := hg.nm; omega)
 unfold fn68
 rw [show ((0 : Nat) : Int) = 0 from rfl] at h
 rw [h]; rfl
theorem doc_loop {F0 : Nat} (hF0 : 60 ≤ F0) {x : Instr} {p : List RForm} (hx : Rng x) (hg : ∀ f ∈ p, Good f.fname f.fwords) (hlen : p.length ≤ 1000) :
  ∀ (n i F : Nat), p.length - i = n → i ≤ p.length → n < F →
   fn31_l1 F0 p x F (i : Int) = match (p.drop i).find? (fun f => fitB x f.fwords f.fslot) with
    | some f => some (.inr (f.fname ++ sayL x (lts f.fwords)))
    | none => some (.inl ()) := by
 intro n
 induction n with
 | zero =>
  intro i F hn hi hF
  obtain ⟨F, rfl⟩ : ∃ n, F = n + 1 := ⟨F - 1, by omega⟩
  rw [fn31_l1_s, fn31_b1, decide_eq_false (by omega), cond_false, List.drop_eq_nil_of_le (by omega)]; rfl
 | succ n ih =>
  intro i F hn hi hF
  obtain ⟨F, rfl⟩ : ∃ n, F = n + 1 := ⟨F - 1, by omega⟩
  have hlt : i < p.length := by omega
  have hin : inb (i : Int) p.length = true := by simp [inb]; omega
  have hget : gt p (i : Int) = p[i] := by simp [gt, hlt]
  have hmem : p[i] ∈ p := List.getElem_mem hlt
  have g1 := hg _ hmem
  have hfit := fits_ok (p0 := p[i]) (F := F0) (x := x) g1.let_ g1.len (by have := g1.len; omega)
  have hsay := says_ok (p0 := p[i]) (F := F0) hx g1 hF0
  have hw : IntKind.i64.wrap ((i : Int) + 1) = ((i + 1 : Nat) : Int) := by rw [w64 (by omega)]; omega
  rw [fn31_l1_s, fn31_b1, decide_eq_true (by omega), cond_true, hin, cond_true, hget, List.drop_eq_getElem_cons hlt, List.find?_cons]
  show Option.bind (fn67 F0 p[i] x) _ = _
  rw [hfit, Option.bind_some]
  show (bif fitB x p[i].fwords p[i].fslot then Option.bind (fn68 F0 p[i] x) _ else fn31_l1 F0 p x F (IntKind.i64.wrap ((i : Int) + 1))) = _
  cases hd : fitB x p[i].fwords p[i].fslot with
  | true => rw [cond_true, hsay]; rfl
  | false => rw [cond_false, hw]; exact ih (i + 1) F (by omega) (by omega) (by omega)
theorem find_op (x : Instr) (p : List RForm) : p.find? (fun f => fitB x f.fwords f.fslot) = (p.filter fun f => f.fslot.fOp == x.fOp).find? (fun f => fitB x f.fwords f.fslot) := by
 induction p with
 | nil => rfl
 | cons f p ih =>
  rw [List.find?_cons, List.filter_cons]
  cases ho : f.fslot.fOp == x.fOp with
  | true => simp only [if_true]; rw [List.find?_cons, ih]
  | false =>
   have : fitB x f.fwords f.fslot = false := by
    unfold fitB
    refine decide_eq_false fun h => ?_
    have := clrs_op (lts f.fwords) x
    rw [h] at this
    simp [this] at ho
   rw [this]; simpa using ih
theorem raw_ok {x : Instr} (hx : Rng x) : fn31_k1 x = some ((((((⟨#[115, 108, 111, 116]⟩ : ByteArray) ++ (sSp ++ num x.fOp)) ++ (sSp ++ (sR ++ num x.fDst))) ++ (sSp ++ (sR ++ num x.fSrc))) ++ (sSp ++ num x.fOff)) ++ (sSp ++ num x.fImm)) := by
 obtain ⟨i1, i2, i3, i4, i5⟩ := hx.i64
 have s1 := num_size i1; have s2 := num_size i2; have s3 := num_size i3; have s4 := num_size i4; have s5 := num_size i5
 have e1 : sSp.size = 1 := rfl
 have e2 : sR.size = 1 := rfl
 have e3 : (⟨#[115, 108, 111, 116]⟩ : ByteArray).size = 4 := rfl
 unfold fn31_k1
 rw [w64 i5, w64 i3, w64 i4, fn66_ok i5, fn65_ok i1, fn65_ok i2, fn66_ok i3, fn66_ok i4]
 simp only [Option.bind_some]
 rw [decide_eq_true (by simp only [ByteArray.size_append]; omega), cond_true, decide_eq_true (by simp only [ByteArray.size_append]; omega), cond_true, decide_eq_true (by simp only [ByteArray.size_append]; omega), cond_true, decide_eq_true (by simp only [ByteArray.size_append]; omega), cond_true, decide_eq_true (by simp only [ByteArray.size_append]; omega), cond_true]
end Go.Proofs.YtfjefnnbodgfbaaGreatDoor
namespace Go.Proofs.YtfjefnnbodgfbaaGreatDoor
open Go Go.HW
set_option linter.unusedVariables false
set_option maxRecDepth 100000
def tabP : List (ByteArray × List Form) × List (Int × List Form) := (fn25 1000).getD ([], [])
def tabD : List RForm := (fn29 1000).getD []
theorem tabP_ok : fn25 1000 = some tabP := by
 have h : (fn25 1000).isSome = true := by decide +kernel
 unfold tabP
 cases hc : fn25 1000 with
 | none => rw [hc] at h; cases h
 | some v => rfl
theorem tabD_ok : fn29 1000 = some tabD := by
 have h : (fn29 1000).isSome = true := by decide +kernel
 unfold tabD
 cases hc : fn29 1000 with
 | none => rw [hc] at h; cases h
 | some v => rfl
def opF (op : Int) : List Form := mget tabP.2 op ([] : List Form)
def toR (f : Form) : RForm := ⟨f.fname, f.fwords, f.fslot⟩
def chk (n : Nat) : Bool := Nat.beq n 24 || (decide ((opF (n : Int)).map toR = tabD.filter fun f => f.fslot.fOp == (n : Int)) && (opF (n : Int)).all (fun f => goodB f.fname f.fwords && !(f.fslot.fOp == 24)) && decide ((opF (n : Int)).length ≤ 900))
theorem chk_ok : (List.range 256).all chk = true := by decide +kernel
theorem good_ok : (tabD.all (fun f => goodB f.fname f.fwords) && decide (tabD.length ≤ 900)) = true := by decide +kernel
end Go.Proofs.YtfjefnnbodgfbaaGreatDoor
namespace Go.Proofs.YtfjefnnbodgfbaaGreatDoor
open Go Go.HW
set_option linter.unusedVariables false
theorem find_map (x : Instr) (l : List Form) : (l.map toR).find? (fun f => fitB x f.fwords f.fslot) = (l.find? (fun f => fitB x f.fwords f.fslot)).map toR := by
 rw [List.find?_map]; rfl
theorem opF_ok {x : Instr} (hx : Rng x) (h24 : x.fOp ≠ 24) : (opF x.fOp).map toR = (tabD.filter fun f => f.fslot.fOp == x.fOp) ∧ (∀ f ∈ opF x.fOp, Good f.fname f.fwords ∧ (f.fslot.fOp == 24) = false) ∧ (opF x.fOp).length ≤ 900 := by
 obtain ⟨n, hn⟩ : ∃ n : Nat, x.fOp = (n : Int) := ⟨x.fOp.toNat, by have := hx.op; omega⟩
 have hlt : n < 256 := by have := hx.op; omega
 have h := List.all_eq_true.1 chk_ok n (List.mem_range.2 hlt)
 have hb : Nat.beq n 24 = false := by
  cases hb : Nat.beq n 24 with
  | false => rfl
  | true => have := Nat.eq_of_beq_eq_true hb; omega
 simp only [chk, hb, Bool.false_or, Bool.and_eq_true, decide_eq_true_eq, List.all_eq_true, Bool.not_eq_true'] at h
 rw [hn]
 exact ⟨h.1.1, fun f hf => ⟨goodB_ok (h.1.2 f hf).1, (h.1.2 f hf).2⟩, h.2⟩
theorem tabD_good : (∀ f ∈ tabD, Good f.fname f.fwords) ∧ tabD.length ≤ 900 := by
 have h := good_ok
 simp only [Bool.and_eq_true, decide_eq_true_eq, List.all_eq_true] at h
 exact ⟨fun f hf => goodB_ok (h.1 f hf), h.2⟩
def rawW : List Nat := [68, 83, 79, 73]
theorem rawW_ok : letters (⟨#[68, 83, 79, 73]⟩ : ByteArray) 0 rawW := lettersB_ok _ _ _ (by decide +kernel)
theorem slot_ok {x y : Instr} {last : Bool} (hx : Rng x) (h24 : x.fOp ≠ 24) :
  ∃ ws s, fn26 1000 tabP.1 tabP.2 x y last = some (ws, false) ∧ fn31 1000 tabD x = some s ∧ fn19 ws sSp = some s := by
 obtain ⟨t1, t2, t3⟩ := opF_ok hx h24
 obtain ⟨d1, d2⟩ := tabD_good
 have hp := prog_loop (F0 := 1000) (by omega) (x := x) (y := y) (last := last) (p := opF x.fOp) hx t2 (by omega) (opF x.fOp).length 0 1000 (by omega) (by omega) (by omega)
 rw [show ((0 : Nat) : Int) = 0 from rfl, List.drop_zero] at hp
 have hd := doc_loop (F0 := 1000) (by omega) (x := x) (p := tabD) hx d1 (by omega) tabD.length 0 1000 (by omega) (by omega) (by omega)
 rw [show ((0 : Nat) : Int) = 0 from rfl, List.drop_zero, find_op, ← t1, find_map] at hd
 cases hf : (opF x.fOp).find? (fun f => fitB x f.fwords f.fslot) with
 | some f =>
  rw [hf] at hp hd
  obtain ⟨g, _⟩ := t2 f (List.mem_of_find?_eq_some hf)
  refine ⟨f.fname :: words x (lts f.fwords), f.fname ++ sayL x (lts f.fwords), ?_, ?_, join_ok hx f.fname (lts f.fwords) g.ok g.nod g.nm g.len⟩
  ·unfold fn26 fn115
   show Option.bind (Option.bind (fn115_l1 _ goR (opF x.fOp) 1000 ((false, []), 0) 0) _) _ = _
   rw [hp]; rfl
  ·unfold fn31
   rw [hd]; rfl
 | none =>
  rw [hf] at hp hd
  obtain ⟨i1, i2, i3, i4, i5⟩ := hx.i64
  have hx0 : Rng ⟨0, x.fDst, x.fSrc, x.fOff, x.fImm⟩ := ⟨by simp, hx.dst, hx.src, hx.off, hx.imm⟩
  have s5 := num_size i5
  have e5 : (⟨#[115, 108, 111, 116, 32]⟩ : ByteArray).size = 5 := rfl
  have ht := told_ok (p0 := ⟨(⟨#[115, 108, 111, 116, 32]⟩ : ByteArray) ++ num x.fOp, (⟨#[68, 83, 79, 73]⟩ : ByteArray), ⟨0, 0, 0, 0, 0⟩⟩) (F := 1000) (x := ⟨0, x.fDst, x.fSrc, x.fOff, x.fImm⟩) (y := ⟨0, 0, 0, 0, 0⟩) (l := rawW) hx0 rawW_ok (by decide) (by decide) rfl
  have hj := join_ok hx0 ((⟨#[115, 108, 111, 116, 32]⟩ : ByteArray) ++ num x.fOp) rawW (by intro c hc; simp [rawW] at hc; unfold okLetter; omega) (by decide) (by rw [ByteArray.size_append]; omega) (by decide)
  refine ⟨_, _, ?_, ?_, hj⟩
  ·unfold fn26 fn115
   show Option.bind (Option.bind (fn115_l1 _ goR (opF x.fOp) 1000 ((false, []), 0) 0) _) _ = _
   rw [hp]
   show fn26_k1_0 1000 x false [] = _
   unfold fn26_k1_0
   rw [w64 i5, fn53_ok i5, Option.bind_some, decide_eq_true (by omega), cond_true, ht]; rfl
  ·unfold fn31
   rw [hd]
   show fn31_k1 x = _
   rw [raw_ok hx]
   have e : sayL ⟨0, x.fDst, x.fSrc, x.fOff, x.fImm⟩ rawW = (sSp ++ (sR ++ num x.fDst)) ++ ((sSp ++ (sR ++ num x.fSrc)) ++ ((sSp ++ num x.fOff) ++ ((sSp ++ num x.fImm) ++ ⟨#[]⟩))) := by
    simp only [sayL, rawW, word]; rfl
   have e2 : (⟨#[115, 108, 111, 116, 32]⟩ : ByteArray) = (⟨#[115, 108, 111, 116]⟩ : ByteArray) ++ sSp := by decide +kernel
   rw [e, e2]
   generalize num x.fDst = a1; generalize num x.fSrc = a2; generalize num x.fOff = a3; generalize num x.fImm = a4; generalize num x.fOp = a5
   have e0 : ∀ a : ByteArray, a ++ (⟨#[]⟩ : ByteArray) = a := fun a => by apply ByteArray.ext; simp
   rw [e0]
   simp only [ByteArray.append_assoc]
end Go.Proofs.YtfjefnnbodgfbaaGreatDoor
namespace Go.Proofs.YtfjefnnbodgfbaaGreatDoor
open Go Go.HW
set_option linter.unusedVariables false
set_option maxRecDepth 100000
def fLd : Form := ⟨⟨#[108, 100, 100, 119]⟩, ⟨#[68, 78]⟩, ⟨24, 0, 0, 0, 0⟩⟩
def fMap : Form := ⟨⟨#[108, 100, 109, 97, 112]⟩, ⟨#[68, 73]⟩, ⟨24, 0, 1, 0, 0⟩⟩
theorem op24 : opF 24 = [fLd, fMap] := by decide +kernel
def wideP (x y : Instr) : Int := ior .i64 (ishl .i64 (IntKind.i64.wrap y.fImm) 32) (IntKind.i64.wrap (IntKind.u32.wrap x.fImm))
def wideD (x y : Instr) : Int := IntKind.i64.wrap (ior .u64 (IntKind.u64.wrap (IntKind.u32.wrap x.fImm)) (ishl .u64 (IntKind.u64.wrap (IntKind.u32.wrap y.fImm)) 32))
theorem ofI {a b : Int} (h : a % 18446744073709551616 = b % 18446744073709551616) : BitVec.ofInt 64 a = BitVec.ofInt 64 b := by
 apply BitVec.eq_of_toNat_eq
 simp only [BitVec.toNat_ofInt]
 rw [show ((2 ^ 64 : Nat) : Int) = 18446744073709551616 from rfl, h]
theorem wide_eq {x y : Instr} (hx : Rng x) (hy : Rng y) : wideP x y = wideD x y := by
 have h1 := hx.imm
 have h2 := hy.imm
 unfold wideP wideD ior ishl
 have e1 : min (32 : Int).toNat IntKind.i64.bits = 32 := rfl
 have e2 : min (32 : Int).toNat IntKind.u64.bits = 32 := rfl
 have b1 : IntKind.i64.bits = 64 := rfl
 have b2 : IntKind.u64.bits = 64 := rfl
 rw [e1, e2]
 show IntKind.i64.wrap (((BitVec.ofInt 64 _ ||| BitVec.ofInt 64 _ : BitVec 64).toNat : Int)) = IntKind.i64.wrap (IntKind.u64.wrap (((BitVec.ofInt 64 _ ||| BitVec.ofInt 64 _ : BitVec 64).toNat : Int)))
 have k1 : BitVec.ofInt 64 (IntKind.i64.wrap (IntKind.i64.wrap y.fImm * 2 ^ 32)) = BitVec.ofInt 64 (IntKind.u64.wrap (IntKind.u64.wrap (IntKind.u32.wrap y.fImm) * 2 ^ 32)) := ofI (by
  rw [IntKind.wrap_i64, IntKind.wrap_i64, IntKind.wrap_u64, IntKind.wrap_u64, IntKind.wrap_u32]; omega)
 have k2 : BitVec.ofInt 64 (IntKind.i64.wrap (IntKind.u32.wrap x.fImm)) = BitVec.ofInt 64 (IntKind.u64.wrap (IntKind.u32.wrap x.fImm)) := ofI (by
  rw [IntKind.wrap_i64, IntKind.wrap_u64, IntKind.wrap_u32]; omega)
 rw [k1, k2, BitVec.or_comm]
 congr 1
 generalize (BitVec.ofInt 64 (IntKind.u64.wrap (IntKind.u32.wrap x.fImm)) ||| BitVec.ofInt 64 (IntKind.u64.wrap (IntKind.u64.wrap (IntKind.u32.wrap y.fImm) * 2 ^ 32))) = z
 have hlt := z.isLt
 rw [IntKind.wrap_u64]
 omega
end Go.Proofs.YtfjefnnbodgfbaaGreatDoor
namespace Go.Proofs.YtfjefnnbodgfbaaGreatDoor
open Go Go.HW
set_option linter.unusedVariables false
set_option maxRecDepth 100000
theorem wrapI64 (n : Int) : I64 (IntKind.i64.wrap n) := by rw [IntKind.wrap_i64]; unfold I64; omega
theorem told_step (p0 : Form) (q F c : Nat) (x y : Instr) (ws : List ByteArray) (hx : Rng x) (h1 : q < p0.fwords.size) (h2 : Utf8.decode p0.fwords q = (c, 1)) (h3 : ((c : Int) == 78) = false) (hw : ws.length ≤ 100) :
  fn60_l1 p0 (F + 1) ws x.fOp x.fDst x.fSrc x.fOff x.fImm y.fOp y.fDst y.fSrc y.fOff y.fImm q =
   fn60_l1 p0 F (ws ++ [word x (c : Int)]) (clr x (c : Int)).fOp (clr x (c : Int)).fDst (clr x (c : Int)).fSrc (clr x (c : Int)).fOff (clr x (c : Int)).fImm y.fOp y.fDst y.fSrc y.fOff y.fImm (q + 1) := by
 have ht := tell_ok (x := x) (y := y) (ws := ws) (c := (c : Int)) hx hw h3
 rw [fn60_l1_s, fn60_b1, decide_eq_true h1, cond_true, h2]
 show Option.bind (fn97 ⟨x, y, ws⟩ (c : Int)) _ = _
 rw [ht, Option.bind_some]
theorem tell_N (x y : Instr) (ws : List ByteArray) (hw : ws.length ≤ 100) : fn97 ⟨x, y, ws⟩ 78 = some ⟨{ x with fImm := 0 }, { y with fImm := 0 }, ws ++ [num (wideP x y)]⟩ := by
 have hI : I64 (wideP x y) := by unfold wideP ior; exact wrapI64 _
 have k3 : ∀ b : ByteArray, decide ((ws.length + ([b] : List ByteArray).length) * 16 ≤ 140737488355328 ∧ ws.length + ([b] : List ByteArray).length ≤ 9223372036854775807) = true := fun b => decide_eq_true (by simp only [List.length_singleton]; omega)
 have h := fn100_ok hI
 unfold wideP at h
 unfold fn97
 rw [show ((78 : Int) == 68) = false from rfl, show ((78 : Int) == 83) = false from rfl, show ((78 : Int) == 73) = false from rfl, show ((78 : Int) == 78) = true from rfl]
 simp only [cond_false, cond_true]
 rw [h, Option.bind_some, k3, cond_true]
 rfl
theorem told_ld {x y : Instr} (hx : Rng x) : fn60 1000 fLd x y = some ([fLd.fname, sR ++ num x.fDst, num (wideP x y)], true,
  decide (x.fOp = 24 ∧ x.fSrc = 0 ∧ x.fOff = 0) && decide (y.fOp = 0 ∧ y.fDst = 0 ∧ y.fSrc = 0 ∧ y.fOff = 0)) := by
 have hw : (fn56 0).fOp = 24 := by decide +kernel
 unfold fn60
 rw [hw, show (fLd.fslot.fOp == 24) = true from rfl, cond_true, told_step fLd 0 999 68 x y [fLd.fname] hx (by decide) (by decide +kernel) rfl (show 1 ≤ 100 by decide)]
 rw [fn60_l1_s, fn60_b1, decide_eq_true (show 0 + 1 < fLd.fwords.size by decide), cond_true, show Utf8.decode fLd.fwords (0 + 1) = (78, 1) by decide +kernel]
 show Option.bind (Option.bind (fn97 ⟨clr x ((68 : Nat) : Int), y, [fLd.fname] ++ [word x ((68 : Nat) : Int)]⟩ 78) _) _ = _
 rw [tell_N (clr x ((68 : Nat) : Int)) y ([fLd.fname] ++ [word x ((68 : Nat) : Int)]) (show 2 ≤ 100 by decide), Option.bind_some, fn60_l1_s, fn60_b1, decide_eq_false (by decide), cond_false, Option.bind_some, fn60_k1, hw]
 congr 2
 rw [Prod.mk.injEq]
 refine ⟨rfl, ?_⟩
 obtain ⟨a1, a2, a3, a4, a5⟩ := x
 obtain ⟨b1, b2, b3, b4, b5⟩ := y
 simp [fLd, clr, Bool.beq_eq_decide_eq, Bool.and_assoc]
theorem told_map {x y : Instr} (hx : Rng x) : fn60 1000 fMap x y = some ([fMap.fname, sR ++ num x.fDst, num x.fImm], true,
  decide (x.fOp = 24 ∧ x.fSrc = 1 ∧ x.fOff = 0) && decide (y.fOp = 0 ∧ y.fDst = 0 ∧ y.fSrc = 0 ∧ y.fOff = 0 ∧ y.fImm = 0)) := by
 have hw : (fn56 0).fOp = 24 := by decide +kernel
 unfold fn60
 rw [hw, show (fMap.fslot.fOp == 24) = true from rfl, cond_true, told_step fMap 0 999 68 x y [fMap.fname] hx (by decide) (by decide +kernel) rfl (show 1 ≤ 100 by decide),
  told_step fMap (0 + 1) 998 73 (clr x ((68 : Nat) : Int)) y ([fMap.fname] ++ [word x ((68 : Nat) : Int)]) (hx.clr _) (by decide) (by decide +kernel) rfl (show 2 ≤ 100 by decide),
  fn60_l1_s, fn60_b1, decide_eq_false (by decide), cond_false, Option.bind_some, fn60_k1, hw]
 congr 2
 rw [Prod.mk.injEq]
 refine ⟨rfl, ?_⟩
 obtain ⟨a1, a2, a3, a4, a5⟩ := x
 obtain ⟨b1, b2, b3, b4, b5⟩ := y
 simp [fMap, clr, Bool.beq_eq_decide_eq, Bool.and_assoc]
end Go.Proofs.YtfjefnnbodgfbaaGreatDoor
namespace Go.Proofs.YtfjefnnbodgfbaaGreatDoor
open Go Go.HW
set_option linter.unusedVariables false
set_option maxRecDepth 100000
theorem raw_case {x : Instr} (hx : Rng x) (b : Bool) (xs : List ByteArray) : ∃ ws s, fn26_k1_0 1000 x b xs = some (ws, false) ∧ fn31_k1 x = some s ∧ fn19 ws sSp = some s := by
 obtain ⟨i1, i2, i3, i4, i5⟩ := hx.i64
 have hx0 : Rng ⟨0, x.fDst, x.fSrc, x.fOff, x.fImm⟩ := ⟨by simp, hx.dst, hx.src, hx.off, hx.imm⟩
 have s5 := num_size i5
 have e5 : (⟨#[115, 108, 111, 116, 32]⟩ : ByteArray).size = 5 := rfl
 have ht := told_ok (p0 := ⟨(⟨#[115, 108, 111, 116, 32]⟩ : ByteArray) ++ num x.fOp, (⟨#[68, 83, 79, 73]⟩ : ByteArray), ⟨0, 0, 0, 0, 0⟩⟩) (F := 1000) (x := ⟨0, x.fDst, x.fSrc, x.fOff, x.fImm⟩) (y := ⟨0, 0, 0, 0, 0⟩) (l := rawW) hx0 rawW_ok (by decide) (by decide) rfl
 have hj := join_ok hx0 ((⟨#[115, 108, 111, 116, 32]⟩ : ByteArray) ++ num x.fOp) rawW (by intro c hc; simp [rawW] at hc; unfold okLetter; omega) (by decide) (by rw [ByteArray.size_append]; omega) (by decide)
 refine ⟨_, _, ?_, ?_, hj⟩
 ·unfold fn26_k1_0
  rw [w64 i5, fn53_ok i5, Option.bind_some, decide_eq_true (by omega), cond_true, ht]; rfl
 ·rw [raw_ok hx]
  congr 1
  have e : sayL ⟨0, x.fDst, x.fSrc, x.fOff, x.fImm⟩ rawW = (sSp ++ (sR ++ num x.fDst)) ++ ((sSp ++ (sR ++ num x.fSrc)) ++ ((sSp ++ num x.fOff) ++ ((sSp ++ num x.fImm) ++ ⟨#[]⟩))) := by
   simp only [sayL, rawW, word]; rfl
  have e2 : (⟨#[115, 108, 111, 116, 32]⟩ : ByteArray) = (⟨#[115, 108, 111, 116]⟩ : ByteArray) ++ sSp := by decide +kernel
  rw [e, e2]
  generalize num x.fDst = a1; generalize num x.fSrc = a2; generalize num x.fOff = a3; generalize num x.fImm = a4; generalize num x.fOp = a5
  have e0 : ∀ a : ByteArray, a ++ (⟨#[]⟩ : ByteArray) = a := fun a => by apply ByteArray.ext; simp
  rw [e0]
  simp only [ByteArray.append_assoc]
theorem doc24 : (tabD.filter fun f => f.fslot.fOp == 24) = [] := by decide +kernel
theorem one24 {x : Instr} (hx : Rng x) (h24 : x.fOp = 24) : fn31 1000 tabD x = fn31_k1 x := by
 obtain ⟨d1, d2⟩ := tabD_good
 have hd := doc_loop (F0 := 1000) (by omega) (x := x) (p := tabD) hx d1 (by omega) tabD.length 0 1000 (by omega) (by omega) (by omega)
 rw [show ((0 : Nat) : Int) = 0 from rfl, List.drop_zero, find_op, h24, doc24] at hd
 unfold fn31
 rw [hd]; rfl
theorem prog24 {x y : Instr} {last : Bool} (hx : Rng x) (h24 : x.fOp = 24) :
  fn26 1000 tabP.1 tabP.2 x y last =
   bif (decide (x.fSrc = 0 ∧ x.fOff = 0) && decide (y.fOp = 0 ∧ y.fDst = 0 ∧ y.fSrc = 0 ∧ y.fOff = 0)) && !last then some ([fLd.fname, sR ++ num x.fDst, num (wideP x y)], true)
   else bif (decide (x.fSrc = 1 ∧ x.fOff = 0) && decide (y.fOp = 0 ∧ y.fDst = 0 ∧ y.fSrc = 0 ∧ y.fOff = 0 ∧ y.fImm = 0)) && !last then some ([fMap.fname, sR ++ num x.fDst, num x.fImm], true)
   else fn26_k1_0 1000 x false [] := by
 have t1 := told_ld (y := y) hx
 have t2 := told_map (y := y) hx
 have c1 : decide (x.fOp = 24 ∧ x.fSrc = 0 ∧ x.fOff = 0) = decide (x.fSrc = 0 ∧ x.fOff = 0) := by simp [h24]
 have c2 : decide (x.fOp = 24 ∧ x.fSrc = 1 ∧ x.fOff = 0) = decide (x.fSrc = 1 ∧ x.fOff = 0) := by simp [h24]
 rw [c1] at t1
 rw [c2] at t2
 generalize hA : (decide (x.fSrc = 0 ∧ x.fOff = 0) && decide (y.fOp = 0 ∧ y.fDst = 0 ∧ y.fSrc = 0 ∧ y.fOff = 0)) = A at *
 generalize hB : (decide (x.fSrc = 1 ∧ x.fOff = 0) && decide (y.fOp = 0 ∧ y.fDst = 0 ∧ y.fSrc = 0 ∧ y.fOff = 0 ∧ y.fImm = 0)) = B at *
 unfold fn26 fn115
 show Option.bind (Option.bind (fn115_l1 _ goR (opF x.fOp) 1000 ((false, []), 0) 0) _) _ = _
 rw [h24, op24]
 have s1 : ∀ b xs, fn26_r1 1000 x y last b xs fLd = some (bif A && !last then ((true, [fLd.fname, sR ++ num x.fDst, num (wideP x y)]), 1) else ((b, xs), 0)) := fun b xs => by
  rw [fn26_r1, t1, Option.bind_some]; cases A <;> cases last <;> rfl
 have s2 : ∀ b xs, fn26_r1 1000 x y last b xs fMap = some (bif B && !last then ((true, [fMap.fname, sR ++ num x.fDst, num x.fImm]), 1) else ((b, xs), 0)) := fun b xs => by
  rw [fn26_r1, t2, Option.bind_some]; cases B <;> cases last <;> rfl
 rw [fn115_l1_s, fn115_b1]
 show Option.bind (Option.bind (Option.bind (fn26_r1 1000 x y last false [] fLd) _) _) _ = _
 rw [s1]
 cases A <;> cases last
 ·show Option.bind (Option.bind (fn115_l1 (stepR (fun (s : Bool × (List ByteArray)) (y1 : Form) => fn26_r1 1000 x y false s.1 s.2 y1)) goR [fLd, fMap] 999 ((false, []), 0) 1) _) _ = _
  rw [fn115_l1_s, fn115_b1]
  show Option.bind (Option.bind (Option.bind (fn26_r1 1000 x y false false [] fMap) _) _) _ = _
  rw [s2]
  cases B <;> rfl
 ·show Option.bind (Option.bind (fn115_l1 (stepR (fun (s : Bool × (List ByteArray)) (y1 : Form) => fn26_r1 1000 x y true s.1 s.2 y1)) goR [fLd, fMap] 999 ((false, []), 0) 1) _) _ = _
  rw [fn115_l1_s, fn115_b1]
  show Option.bind (Option.bind (Option.bind (fn26_r1 1000 x y true false [] fMap) _) _) _ = _
  rw [s2]
  cases B <;> rfl
 ·rfl
 ·show Option.bind (Option.bind (fn115_l1 (stepR (fun (s : Bool × (List ByteArray)) (y1 : Form) => fn26_r1 1000 x y true s.1 s.2 y1)) goR [fLd, fMap] 999 ((false, []), 0) 1) _) _ = _
  rw [fn115_l1_s, fn115_b1]
  show Option.bind (Option.bind (Option.bind (fn26_r1 1000 x y true false [] fMap) _) _) _ = _
  rw [s2]
  cases B <;> rfl
end Go.Proofs.YtfjefnnbodgfbaaGreatDoor
namespace Go.Proofs.YtfjefnnbodgfbaaGreatDoor
open Go Go.HW
set_option linter.unusedVariables false
set_option maxRecDepth 100000
theorem join3 (a b c : ByteArray) (h : a.size ≤ 1000) (hb : b.size ≤ 1000) (hc : c.size ≤ 1000) : fn19 [a, b, c] sSp = some (a ++ ((sSp ++ b) ++ (sSp ++ c))) := by
 have hj : Lib.join ([a, b, c].map (·.data.toList)) sSp.data.toList = (a ++ ((sSp ++ b) ++ (sSp ++ c))).data.toList := by
  rw [List.map_cons, show sSp.data.toList = [32] from rfl, join_cons]
  simp only [ByteArray.data_append, Array.toList_append, List.map_cons, List.map_nil, List.flatMap_cons, List.flatMap_nil, List.append_nil, show sSp.data.toList = [32] from rfl]
  simp
 have e1 : sSp.size = 1 := rfl
 have hlen : (a ++ ((sSp ++ b) ++ (sSp ++ c))).data.toList.length ≤ 140737488355328 := by
  have : (a ++ ((sSp ++ b) ++ (sSp ++ c))).data.toList.length = (a ++ ((sSp ++ b) ++ (sSp ++ c))).size := by
   generalize (a ++ ((sSp ++ b) ++ (sSp ++ c))) = z; simp
  rw [this]; simp only [ByteArray.size_append]; omega
 unfold fn19
 rw [hj, decide_eq_true hlen]
 rfl
theorem rnum_size {n : Int} (h : I64 n) : (sR ++ num n).size ≤ 22 := by
 have := num_size h
 have e2 : sR.size = 1 := rfl
 rw [ByteArray.size_append]; omega
theorem two_ok {x y : Instr} (hx : Rng x) (hy : Rng y) : fn30 x y = some (
  bif decide (x.fOp = 24) && (decide (x.fSrc = 0 ∧ x.fOff = 0) && decide (y.fOp = 0 ∧ y.fDst = 0 ∧ y.fSrc = 0 ∧ y.fOff = 0)) then fLd.fname ++ ((sSp ++ (sR ++ num x.fDst)) ++ (sSp ++ num (wideP x y)))
  else bif decide (x.fOp = 24) && (decide (x.fSrc = 1 ∧ x.fOff = 0) && decide (y.fOp = 0 ∧ y.fDst = 0 ∧ y.fSrc = 0 ∧ y.fOff = 0 ∧ y.fImm = 0)) then fMap.fname ++ ((sSp ++ (sR ++ num x.fDst)) ++ (sSp ++ num x.fImm))
  else ⟨#[]⟩) := by
 obtain ⟨i1, i2, i3, i4, i5⟩ := hx.i64
 have hI : I64 (wideD x y) := by unfold wideD; exact wrapI64 _
 have s1 := num_size i1; have s2 := num_size hI; have s4 := num_size i4
 have e1 : sSp.size = 1 := rfl
 have e2 : sR.size = 1 := rfl
 have e3 : fLd.fname.size = 4 := rfl
 have e4 : fMap.fname.size = 5 := rfl
 rw [wide_eq hx hy]
 have hw : IntKind.i64.wrap (ior .u64 (IntKind.u64.wrap (IntKind.u32.wrap x.fImm)) (ishl .u64 (IntKind.u64.wrap (IntKind.u32.wrap y.fImm)) 32)) = wideD x y := rfl
 unfold fn30
 rw [hw, w64 i4, fn65_ok i1, fn66_ok hI, fn66_ok i4]
 simp only [Option.bind_some]
 have q1 : (⟨#[108, 100, 100, 119]⟩ : ByteArray) = fLd.fname := rfl
 have q2 : (⟨#[108, 100, 109, 97, 112]⟩ : ByteArray) = fMap.fname := rfl
 rw [q1, q2, decide_eq_true (show fLd.fname.size + (sSp ++ (sR ++ num x.fDst)).size ≤ 9223372036854775807 by simp only [ByteArray.size_append]; omega), decide_eq_true (show (fLd.fname ++ (sSp ++ (sR ++ num x.fDst))).size + (sSp ++ num (wideD x y)).size ≤ 9223372036854775807 by simp only [ByteArray.size_append]; omega),
  decide_eq_true (show fMap.fname.size + (sSp ++ (sR ++ num x.fDst)).size ≤ 9223372036854775807 by simp only [ByteArray.size_append]; omega), decide_eq_true (show (fMap.fname ++ (sSp ++ (sR ++ num x.fDst))).size + (sSp ++ num x.fImm).size ≤ 9223372036854775807 by simp only [ByteArray.size_append]; omega)]
 simp only [cond_true, ByteArray.append_assoc, beq_self_eq_true, Bool.true_and, Bool.and_true, Bool.decide_and, Bool.beq_eq_decide_eq]
 generalize decide (x.fOp = 24) = a; generalize decide (x.fOff = 0) = o; generalize decide (y.fOp = 0) = y1; generalize decide (y.fDst = 0) = y2; generalize decide (y.fSrc = 0) = y3; generalize decide (y.fOff = 0) = y4
 generalize decide (x.fSrc = 0) = s0; generalize decide (x.fSrc = 1) = t1; generalize decide (y.fImm = 0) = y5
 cases a <;> cases o <;> cases y1 <;> cases y2 <;> cases y3 <;> cases y4 <;> cases s0 <;> cases t1 <;> cases y5 <;> rfl
end Go.Proofs.YtfjefnnbodgfbaaGreatDoor
namespace Go.Proofs.YtfjefnnbodgfbaaGreatDoor
open Go Go.HW
set_option linter.unusedVariables false
set_option maxRecDepth 100000
theorem step_last {x y : Instr} (hx : Rng x) : ∃ ws s, fn26 1000 tabP.1 tabP.2 x y true = some (ws, false) ∧ fn31 1000 tabD x = some s ∧ fn19 ws sSp = some s := by
 by_cases h24 : x.fOp = 24
 ·obtain ⟨ws, s, h1, h2, h3⟩ := raw_case hx false []
  refine ⟨ws, s, ?_, by rw [one24 hx h24]; exact h2, h3⟩
  rw [prog24 hx h24]
  simp only [Bool.not_true, Bool.and_false, cond_false]; exact h1
 ·exact slot_ok hx h24
theorem step_two {x y : Instr} (hx : Rng x) (hy : Rng y) : ∃ ws s two, fn26 1000 tabP.1 tabP.2 x y false = some (ws, two) ∧ fn19 ws sSp = some s ∧
  ((two = true ∧ fn30 x y = some s ∧ 0 < s.size) ∨ (two = false ∧ fn30 x y = some ⟨#[]⟩ ∧ fn31 1000 tabD x = some s)) := by
 have ht := two_ok hx hy
 obtain ⟨i1, i2, i3, i4, i5⟩ := hx.i64
 have hI : I64 (wideP x y) := by rw [wide_eq hx hy]; unfold wideD; exact wrapI64 _
 by_cases h24 : x.fOp = 24
 ·have hp := prog24 (y := y) (last := false) hx h24
  rw [decide_eq_true h24, Bool.true_and, Bool.true_and] at ht
  simp only [Bool.not_false, Bool.and_true] at hp
  cases hA : (decide (x.fSrc = 0 ∧ x.fOff = 0) && decide (y.fOp = 0 ∧ y.fDst = 0 ∧ y.fSrc = 0 ∧ y.fOff = 0)) with
  | true =>
   rw [hA, cond_true] at ht hp
   have b1 := rnum_size i1
   have b2 := num_size hI
   refine ⟨_, _, true, hp, join3 _ _ _ (by decide) (by omega) (by omega), .inl ⟨rfl, ht, ?_⟩⟩
   have e : fLd.fname.size = 4 := rfl
   simp only [ByteArray.size_append]; omega
  | false =>
   rw [hA, cond_false] at ht hp
   cases hB : (decide (x.fSrc = 1 ∧ x.fOff = 0) && decide (y.fOp = 0 ∧ y.fDst = 0 ∧ y.fSrc = 0 ∧ y.fOff = 0 ∧ y.fImm = 0)) with
   | true =>
    rw [hB, cond_true] at ht hp
    have b1 := rnum_size i1
    have b2 := num_size i4
    refine ⟨_, _, true, hp, join3 _ _ _ (by decide) (by omega) (by omega), .inl ⟨rfl, ht, ?_⟩⟩
    have e : fMap.fname.size = 5 := rfl
    simp only [ByteArray.size_append]; omega
   | false =>
    rw [hB, cond_false] at ht hp
    obtain ⟨ws, s, h1, h2, h3⟩ := raw_case hx false []
    exact ⟨ws, s, false, by rw [hp]; exact h1, h3, .inr ⟨rfl, ht, by rw [one24 hx h24]; exact h2⟩⟩
 ·obtain ⟨ws, s, h1, h2, h3⟩ := slot_ok (y := y) (last := false) hx h24
  refine ⟨ws, s, false, h1, h3, .inr ⟨rfl, ?_, h2⟩⟩
  rw [ht, decide_eq_false h24]; rfl
end Go.Proofs.YtfjefnnbodgfbaaGreatDoor
namespace Go.Proofs.YtfjefnnbodgfbaaGreatDoor
open Go Go.HW
set_option linter.unusedVariables false
theorem strOf_bytes (s : ByteArray) : strOfNums (bytesZ s) = s := by
 obtain ⟨⟨l⟩⟩ := s
 unfold strOfNums bytesZ
 apply ByteArray.ext
 apply Array.ext'
 simp only [List.map_map]
 show l.map _ = l
 rw [List.map_congr_left (g := id) (fun b _ => by simp), List.map_id]
theorem bytes_nl : bytesZ ⟨#[10]⟩ = [10] := rfl
end Go.Proofs.YtfjefnnbodgfbaaGreatDoor
namespace Go.Proofs.YtfjefnnbodgfbaaGreatDoor
open Go Go.HW
set_option linter.unusedVariables false
theorem odd_loop (p : List Instr) (hlen : p.length ≤ 1000) : ∀ (n i F : Nat), p.length - i = n → i ≤ p.length → n < F →
  fn46_l1 p F (i : Int) = match (p.drop i).find? fn23 with
   | some _ => some (.inr (i + ((p.drop i).findIdx fn23 : Nat) : Int))
   | none => some (.inl ()) := by
 intro n
 induction n with
 | zero =>
  intro i F hn hi hF
  obtain ⟨F, rfl⟩ : ∃ n, F = n + 1 := ⟨F - 1, by omega⟩
  rw [fn46_l1_s, fn46_b1, decide_eq_false (by omega), cond_false, List.drop_eq_nil_of_le (by omega)]; rfl
 | succ n ih =>
  intro i F hn hi hF
  obtain ⟨F, rfl⟩ : ∃ n, F = n + 1 := ⟨F - 1, by omega⟩
  have hlt : i < p.length := by omega
  have hin : inb (i : Int) p.length = true := by simp [inb]; omega
  have hget : gt p (i : Int) = p[i] := by simp [gt, hlt]
  have hw : IntKind.i64.wrap ((i : Int) + 1) = ((i + 1 : Nat) : Int) := by rw [w64 (by omega)]; omega
  rw [fn46_l1_s, fn46_b1, decide_eq_true (by omega), cond_true, hin, cond_true, hget, List.drop_eq_getElem_cons hlt, List.find?_cons, List.findIdx_cons, hw]
  cases hd : fn23 p[i] with
  | true => simp
  | false =>
   rw [cond_false, ih (i + 1) F (by omega) (by omega) (by omega)]
   cases (p.drop (i + 1)).find? fn23 with
   | none => rfl
   | some v => simp; omega
theorem odd_ok (p : List Instr) (hlen : p.length ≤ 900) : fn24 1000 p = some (p.any fn23) := by
 have h := odd_loop p (by omega) p.length 0 1000 (by omega) (by omega) (by omega)
 rw [show ((0 : Nat) : Int) = 0 from rfl, List.drop_zero] at h
 unfold fn24 fn46
 rw [h]
 cases hf : p.find? fn23 with
 | none =>
  have : p.any fn23 = false := by
   rw [List.any_eq_false]
   intro x hx
   exact List.find?_eq_none.1 hf x hx
  rw [this]; rfl
 | some v =>
  have : p.any fn23 = true := List.any_eq_true.2 ⟨v, List.mem_of_find?_eq_some hf, List.find?_some hf⟩
  rw [this]
  show some (decide ((0 : Int) ≤ _)) = _
  rw [decide_eq_true (by omega)]
end Go.Proofs.YtfjefnnbodgfbaaGreatDoor
namespace Go.Proofs.YtfjefnnbodgfbaaGreatDoor
open Go Go.HW
set_option linter.unusedVariables false
set_option maxRecDepth 100000
theorem one_size {x : Instr} (hx : Rng x) {s : ByteArray} (h : fn31 1000 tabD x = some s) : s.size ≤ 3000 := by
 obtain ⟨d1, d2⟩ := tabD_good
 have hd := doc_loop (F0 := 1000) (by omega) (x := x) (p := tabD) hx d1 (by omega) tabD.length 0 1000 (by omega) (by omega) (by omega)
 rw [show ((0 : Nat) : Int) = 0 from rfl, List.drop_zero] at hd
 unfold fn31 at h
 rw [hd] at h
 cases hf : tabD.find? (fun f => fitB x f.fwords f.fslot) with
 | some f =>
  rw [hf] at h
  have g := d1 f (List.mem_of_find?_eq_some hf)
  have h1 := sayL_size hx (lts f.fwords)
  have e : f.fname ++ sayL x (lts f.fwords) = s := Option.some.inj h
  have h2 := g.nm; have h3 := g.len
  rw [← e, ByteArray.size_append]; omega
 | none =>
  rw [hf] at h
  replace h : fn31_k1 x = some s := h
  rw [raw_ok hx] at h
  obtain ⟨i1, i2, i3, i4, i5⟩ := hx.i64
  have s1 := num_size i1; have s2 := num_size i2; have s3 := num_size i3; have s4 := num_size i4; have s5 := num_size i5
  have e1 : sSp.size = 1 := rfl
  have e2 : sR.size = 1 := rfl
  have e3 : (⟨#[115, 108, 111, 116]⟩ : ByteArray).size = 4 := rfl
  rw [← Option.some.inj h]
  simp only [ByteArray.size_append]; omega
theorem pair_size {x y : Instr} (hx : Rng x) (hy : Rng y) {s : ByteArray} (h : fn30 x y = some s) : s.size ≤ 3000 := by
 rw [two_ok hx hy] at h
 obtain ⟨i1, i2, i3, i4, i5⟩ := hx.i64
 have hI : I64 (wideP x y) := by rw [wide_eq hx hy]; unfold wideD; exact wrapI64 _
 have s1 := num_size i1; have s2 := num_size hI; have s4 := num_size i4
 have e1 : sSp.size = 1 := rfl
 have e2 : sR.size = 1 := rfl
 have e3 : fLd.fname.size = 4 := rfl
 have e4 : fMap.fname.size = 5 := rfl
 rw [← Option.some.inj h]
 generalize (decide (x.fOp = 24) && (decide (x.fSrc = 0 ∧ x.fOff = 0) && decide (y.fOp = 0 ∧ y.fDst = 0 ∧ y.fSrc = 0 ∧ y.fOff = 0))) = a
 generalize (decide (x.fOp = 24) && (decide (x.fSrc = 1 ∧ x.fOff = 0) && decide (y.fOp = 0 ∧ y.fDst = 0 ∧ y.fSrc = 0 ∧ y.fOff = 0 ∧ y.fImm = 0))) = b
 cases a
 ·cases b
  ·exact Nat.zero_le _
  ·simp only [cond_false, cond_true, ByteArray.size_append]; omega
 ·simp only [cond_true, ByteArray.size_append]; omega
theorem cut1 (x : Instr) (r : List Instr) : cutX (x :: r) (1 : Int).toNat (((x :: r).length : Nat) : Int).toNat = r := by
 show ((x :: r).take _).drop 1 = r
 rw [Int.toNat_natCast, List.take_length]; rfl
theorem sl1 (x : Instr) (r : List Instr) : sliceOk (1 : Int) (((x :: r).length : Nat) : Int) (x :: r).length = true := sliceOk_iff.2 ⟨by omega, by simp only [List.length_cons]; omega, Int.le_refl _⟩
theorem wr_ok {b s : ByteArray} (hb : b.size ≤ 5000000) (hs : s.size ≤ 3000) : fn27b b (s ++ (⟨#[10]⟩ : ByteArray)) = some (b ++ (s ++ (⟨#[10]⟩ : ByteArray)), ((s ++ (⟨#[10]⟩ : ByteArray)).size : Int)) := by
 have e : (s ++ (⟨#[10]⟩ : ByteArray)).size = s.size + 1 := by rw [ByteArray.size_append]; rfl
 have g : (decide (0 < (s ++ (⟨#[10]⟩ : ByteArray)).size) && appHyp 1 (bytesZ b).length (s ++ (⟨#[10]⟩ : ByteArray)).size) = true := by
  rw [e, bytesZ_len]; unfold appHyp
  rw [decide_eq_true (by omega), decide_eq_true (by omega)]; rfl
 unfold fn27b
 rw [g]; rfl
theorem prog_one {x : Instr} {ws : List ByteArray} {s b : ByteArray} {rl : ByteArray → List Instr → Option ByteArray}
  (h1 : fn26 1000 tabP.1 tabP.2 x ⟨0, 0, 0, 0, 0⟩ true = some (ws, false)) (h2 : fn19 ws sSp = some s) (hs : s.size ≤ 3000) (hb : b.size ≤ 5000000) :
  fn12_b1 1000 tabP rl b [x] = rl (b ++ (s ++ (⟨#[10]⟩ : ByteArray))) [] := by
 have h2' : fn19 ws (⟨#[32]⟩ : ByteArray) = some s := h2
 have g1 : decide ((0 : Int) < (([x] : List Instr).length : Int)) = true := rfl
 have g2 : decide ((1 : Int) < (([x] : List Instr).length : Int)) = false := rfl
 have g3 : inb 0 ([x] : List Instr).length = true := rfl
 have g4 : gt [x] 0 = x := rfl
 have g5 : ((([x] : List Instr).length : Int) == 1) = true := rfl
 have g6 : decide (s.size + (⟨#[10]⟩ : ByteArray).size ≤ 9223372036854775807) = true := decide_eq_true (by have : (⟨#[10]⟩ : ByteArray).size = 1 := rfl; omega)
 rw [fn12_b1, g1, cond_true, g2, cond_false, g3, cond_true, g4, g5, h1, Option.bind_some]
 show Option.bind (fn19 ws (⟨#[32]⟩ : ByteArray)) _ = _
 rw [h2', Option.bind_some, g6, cond_true, wr_ok hb hs, Option.bind_some, sl1 x [], cond_true, cut1 x []]
 rfl
theorem prog_two {x y : Instr} {r : List Instr} {ws : List ByteArray} {two : Bool} {s b : ByteArray} {rl : ByteArray → List Instr → Option ByteArray}
  (h1 : fn26 1000 tabP.1 tabP.2 x y false = some (ws, two)) (h2 : fn19 ws sSp = some s) (hs : s.size ≤ 3000) (hb : b.size ≤ 5000000) :
  fn12_b1 1000 tabP rl b (x :: y :: r) = rl (b ++ (s ++ (⟨#[10]⟩ : ByteArray))) (bif two then r else y :: r) := by
 have h2' : fn19 ws (⟨#[32]⟩ : ByteArray) = some s := h2
 have hl : (x :: y :: r).length = r.length + 2 := rfl
 have g1 : decide ((0 : Int) < ((x :: y :: r).length : Int)) = true := decide_eq_true (by rw [hl]; omega)
 have g2 : decide ((1 : Int) < ((x :: y :: r).length : Int)) = true := decide_eq_true (by rw [hl]; omega)
 have g3 : inb 0 (x :: y :: r).length = true := inb_iff.2 ⟨by omega, by rw [hl]; omega⟩
 have g3' : inb 1 (x :: y :: r).length = true := inb_iff.2 ⟨by omega, by rw [hl]; omega⟩
 have g4 : gt (x :: y :: r) 0 = x := rfl
 have g4' : gt (x :: y :: r) 1 = y := rfl
 have g5 : (((x :: y :: r).length : Int) == 1) = false := by rw [Bool.eq_false_iff]; intro h; have := eq_of_beq h; rw [hl] at this; omega
 have g6 : decide (s.size + (⟨#[10]⟩ : ByteArray).size ≤ 9223372036854775807) = true := decide_eq_true (by have : (⟨#[10]⟩ : ByteArray).size = 1 := rfl; omega)
 rw [fn12_b1, g1, cond_true, g2, cond_true, g3', cond_true, g3, cond_true, g4, g4', g5, h1, Option.bind_some]
 show Option.bind (fn19 ws (⟨#[32]⟩ : ByteArray)) _ = _
 rw [h2', Option.bind_some, g6, cond_true, wr_ok hb hs, Option.bind_some, sl1 x (y :: r), cond_true, cut1 x (y :: r)]
 cases two with
 | false => rfl
 | true =>
  show (bif sliceOk (1 : Int) (((y :: r).length : Nat) : Int) (y :: r).length then rl _ (cutX (y :: r) (1 : Int).toNat (((y :: r).length : Nat) : Int).toNat) else none) = _
  rw [sl1 y r, cond_true, cut1 y r]; rfl
theorem ne_nil {v : ByteArray} (h : 0 < v.size) : (v.toList != (⟨#[]⟩ : ByteArray).toList) = true := by
 rw [ByteArray.toList_eq, ByteArray.toList_eq]
 have : v.data.toList ≠ [] := fun e => by
  have : v.data.toList.length = v.size := by simp
  rw [e] at this; simp at this; omega
 simpa using this
theorem eq_nil : ((⟨#[]⟩ : ByteArray).toList != (⟨#[]⟩ : ByteArray).toList) = false := by simp
theorem bz_ok {acc : List Int} {s : ByteArray} (ha : acc.length ≤ 5000000) (hs : s.size ≤ 3000) : appHyp 1 acc.length s.size = true ∧ decide (((acc ++ bytesZ s).length + ([10] : List Int).length) * 1 ≤ 140737488355328 ∧ (acc ++ bytesZ s).length + ([10] : List Int).length ≤ 9223372036854775807) = true := by
 refine ⟨decide_eq_true (by omega), decide_eq_true ?_⟩
 rw [List.length_append, bytesZ_len, List.length_singleton]; omega
theorem doc_odd {p : List Instr} {i : Nat} (hi : i < p.length) {acc : List Int} {rl : List Int → Int → Option (List Int ⊕ ByteArray)} (ho : fn23 p[i] = true) :
  fn13_b1 1000 p tabD rl acc (i : Int) = some (.inr ⟨#[]⟩) := by
 have hin : inb (i : Int) p.length = true := inb_iff.2 ⟨by omega, by omega⟩
 have hget : gt p (i : Int) = p[i] := by simp [gt, hi]
 replace ho : (decide ((15 : Int) < p[i].fDst) || decide ((15 : Int) < p[i].fSrc)) = true := ho
 rw [fn13_b1, decide_eq_true (by omega), cond_true, hin, cond_true, hget, ho, cond_true]
 cases decide ((15 : Int) < p[i].fDst) <;> rfl
theorem doc_one {p : List Instr} {i : Nat} (hi : i < p.length) (hl : i + 1 = p.length) (hp : p.length ≤ 1000) {acc : List Int} {s : ByteArray} {rl : List Int → Int → Option (List Int ⊕ ByteArray)} (ho : fn23 p[i] = false)
  (h31 : fn31 1000 tabD p[i] = some s) (hs : s.size ≤ 3000) (ha : acc.length ≤ 5000000) :
  fn13_b1 1000 p tabD rl acc (i : Int) = rl (acc ++ bytesZ s ++ [10]) ((i + 1 : Nat) : Int) := by
 have hin : inb (i : Int) p.length = true := inb_iff.2 ⟨by omega, by omega⟩
 have hget : gt p (i : Int) = p[i] := by simp [gt, hi]
 have hw : IntKind.i64.wrap ((i : Int) + 1) = ((i + 1 : Nat) : Int) := by rw [w64 (by omega)]; omega
 replace ho : (decide ((15 : Int) < p[i].fDst) || decide ((15 : Int) < p[i].fSrc)) = false := ho
 obtain ⟨o1, o2⟩ := Bool.or_eq_false_iff.1 ho
 obtain ⟨b1, b2⟩ := bz_ok ha hs
 rw [fn13_b1, decide_eq_true (by omega), cond_true, hin, cond_true, hget, ho, o1, cond_false, cond_true, cond_false, hw, decide_eq_false (by omega), cond_false, eq_nil, cond_false, h31, Option.bind_some, b1, cond_true, b2, cond_true]
theorem doc_two {p : List Instr} {i : Nat} (hi : i < p.length) (hl : i + 1 < p.length) (hp : p.length ≤ 1000) {acc : List Int} {s : ByteArray} {two : Bool} {rl : List Int → Int → Option (List Int ⊕ ByteArray)} (ho : fn23 p[i] = false)
  (h : (two = true ∧ fn30 p[i] p[i + 1] = some s ∧ 0 < s.size) ∨ (two = false ∧ fn30 p[i] p[i + 1] = some ⟨#[]⟩ ∧ fn31 1000 tabD p[i] = some s)) (hs : s.size ≤ 3000) (ha : acc.length ≤ 5000000) :
  fn13_b1 1000 p tabD rl acc (i : Int) = rl (acc ++ bytesZ s ++ [10]) ((bif two then i + 2 else i + 1 : Nat) : Int) := by
 have hin : inb (i : Int) p.length = true := inb_iff.2 ⟨by omega, by omega⟩
 have hin2 : inb ((i + 1 : Nat) : Int) p.length = true := inb_iff.2 ⟨by omega, by omega⟩
 have hget : gt p (i : Int) = p[i] := by simp [gt, hi]
 have hget2 : gt p ((i + 1 : Nat) : Int) = p[i + 1] := by
  show p.getD ((i + 1 : Nat) : Int).toNat _ = _
  rw [Int.toNat_natCast]; simp [hl]
 have hw : IntKind.i64.wrap ((i : Int) + 1) = ((i + 1 : Nat) : Int) := by rw [w64 (by omega)]; omega
 have hw2 : IntKind.i64.wrap (((i + 1 : Nat) : Int) + 1) = ((i + 2 : Nat) : Int) := by rw [w64 (by omega)]; omega
 replace ho : (decide ((15 : Int) < p[i].fDst) || decide ((15 : Int) < p[i].fSrc)) = false := ho
 obtain ⟨o1, o2⟩ := Bool.or_eq_false_iff.1 ho
 obtain ⟨b1, b2⟩ := bz_ok ha hs
 rw [fn13_b1, decide_eq_true (by omega), cond_true, hin, cond_true, hget, ho, o1, cond_false, cond_true, cond_false, hw, decide_eq_true (by omega), cond_true, hin2, cond_true, hget2]
 rcases h with ⟨rfl, h30, hpos⟩ | ⟨rfl, h30, h31⟩
 ·rw [h30, Option.bind_some, ne_nil hpos, cond_true, b1, cond_true, b2, cond_true, hw2]; rfl
 ·rw [h30, Option.bind_some, eq_nil, cond_false, h31, Option.bind_some, b1, cond_true, b2, cond_true]; rfl
end Go.Proofs.YtfjefnnbodgfbaaGreatDoor
namespace Go.Proofs.YtfjefnnbodgfbaaGreatDoor
open Go Go.HW
set_option linter.unusedVariables false
set_option maxRecDepth 100000
theorem bz_app (b s : ByteArray) : bytesZ (b ++ s) = bytesZ b ++ bytesZ s := by simp [bytesZ, ByteArray.data_append]
theorem bz_line (b s : ByteArray) : bytesZ (b ++ (s ++ (⟨#[10]⟩ : ByteArray))) = bytesZ b ++ bytesZ s ++ [10] := by
 rw [bz_app, bz_app, bytes_nl, List.append_assoc]
theorem sz_line (b s : ByteArray) : (b ++ (s ++ (⟨#[10]⟩ : ByteArray))).size = b.size + s.size + 1 := by
 rw [ByteArray.size_append, ByteArray.size_append]; show _ + (_ + 1) = _; omega
theorem both_loop {p : List Instr} (hp : p.length ≤ 400) (hr : ∀ x ∈ p, Rng x) (hn : p.any fn23 = false) :
  ∀ (n i : Nat) (b : ByteArray) (F G : Nat), p.length - i ≤ n → i ≤ p.length → n < F → n < G → b.size + 4000 * n ≤ 4000000 →
   ∃ s, fn12_l1 1000 tabP F b (p.drop i) = some s ∧ fn13_l1 1000 p tabD G (bytesZ b) (i : Int) = some (.inl (bytesZ s)) := by
 have hodd : ∀ {i : Nat} (h : i < p.length), fn23 p[i] = false := fun h => by
  have := List.any_eq_false.1 hn _ (List.getElem_mem h)
  simpa using this
 intro n
 induction n using Nat.strongRecOn with
 | _ n ih =>
  intro i b F G hni hi hF hG hb
  obtain ⟨F, rfl⟩ : ∃ k, F = k + 1 := ⟨F - 1, by omega⟩
  obtain ⟨G, rfl⟩ : ∃ k, G = k + 1 := ⟨G - 1, by omega⟩
  rcases Nat.lt_or_ge i p.length with hlt | hge
  ·have hx := hr _ (List.getElem_mem hlt)
   have ha : (bytesZ b).length ≤ 5000000 := by rw [bytesZ_len]; omega
   rcases Nat.lt_or_ge (i + 1) p.length with h2 | h2
   ·have hy := hr _ (List.getElem_mem h2)
    obtain ⟨ws, s, two, e1, e2, e3⟩ := step_two hx hy
    have hs : s.size ≤ 3000 := by
     rcases e3 with ⟨_, h30, _⟩ | ⟨_, _, h31⟩
     ·exact pair_size hx hy h30
     ·exact one_size hx h31
    have hd : p.drop i = p[i] :: p[i + 1] :: p.drop (i + 2) := by rw [List.drop_eq_getElem_cons hlt, List.drop_eq_getElem_cons h2]
    have hd1 : p.drop (i + 1) = p[i + 1] :: p.drop (i + 2) := List.drop_eq_getElem_cons h2
    rw [fn12_l1_s, fn13_l1_s, hd, prog_two e1 e2 hs (by omega), doc_two hlt h2 (by omega) (hodd hlt) e3 hs ha, ← bz_line]
    cases two with
    | true => exact ih (n - 1) (by omega) (i + 2) _ F G (by omega) (by omega) (by omega) (by omega) (by rw [sz_line]; omega)
    | false =>
     rw [cond_false, cond_false, ← hd1]
     exact ih (n - 1) (by omega) (i + 1) _ F G (by omega) (by omega) (by omega) (by omega) (by rw [sz_line]; omega)
   ·obtain ⟨ws, s, e1, e2, e3⟩ := step_last (y := ⟨0, 0, 0, 0, 0⟩) hx
    have hs := one_size hx e2
    have hd : p.drop i = [p[i]] := by rw [List.drop_eq_getElem_cons hlt, List.drop_eq_nil_of_le h2]
    have hd1 : p.drop (i + 1) = [] := List.drop_eq_nil_of_le h2
    rw [fn12_l1_s, fn13_l1_s, hd, prog_one e1 e3 hs (by omega), doc_one hlt (by omega) (by omega) (hodd hlt) e2 hs ha, ← bz_line, ← hd1]
    exact ih (n - 1) (by omega) (i + 1) _ F G (by omega) (by omega) (by omega) (by omega) (by rw [sz_line]; omega)
  ·refine ⟨b, ?_, ?_⟩
   ·rw [List.drop_eq_nil_of_le hge, fn12_l1_s]; rfl
   ·rw [fn13_l1_s, fn13_b1, decide_eq_false (by omega), cond_false]
theorem pair_even {x y : Instr} (hx : Rng x) (hy : Rng y) {s : ByteArray} (h : fn30 x y = some s) (hpos : 0 < s.size) : fn23 y = false := by
 rw [two_ok hx hy] at h
 unfold fn23
 by_cases h1 : (y.fDst = 0 ∧ y.fSrc = 0)
 ·rw [h1.1, h1.2]; rfl
 ·have a1 : decide (y.fOp = 0 ∧ y.fDst = 0 ∧ y.fSrc = 0 ∧ y.fOff = 0) = false := decide_eq_false fun q => h1 ⟨q.2.1, q.2.2.1⟩
  have a2 : decide (y.fOp = 0 ∧ y.fDst = 0 ∧ y.fSrc = 0 ∧ y.fOff = 0 ∧ y.fImm = 0) = false := decide_eq_false fun q => h1 ⟨q.2.1, q.2.2.1⟩
  simp only [a1, a2, Bool.and_false, cond_false] at h
  have : s = ⟨#[]⟩ := (Option.some.inj h).symm
  rw [this] at hpos; exact absurd hpos (by decide)
theorem odd_doc {p : List Instr} (hp : p.length ≤ 400) (hr : ∀ x ∈ p, Rng x) :
  ∀ (n i : Nat) (acc : List Int) (G : Nat), p.length - i ≤ n → (p.drop i).any fn23 = true → n < G → acc.length + 4000 * n ≤ 4000000 →
   fn13_l1 1000 p tabD G acc (i : Int) = some (.inr ⟨#[]⟩) := by
 intro n
 induction n using Nat.strongRecOn with
 | _ n ih =>
  intro i acc G hni hany hG hb
  obtain ⟨G, rfl⟩ : ∃ k, G = k + 1 := ⟨G - 1, by omega⟩
  have hlt : i < p.length := by
   rcases Nat.lt_or_ge i p.length with h | h
   ·exact h
   ·rw [List.drop_eq_nil_of_le h] at hany; cases hany
  have hx := hr _ (List.getElem_mem hlt)
  rw [fn13_l1_s]
  cases ho : fn23 p[i] with
  | true => exact doc_odd hlt ho
  | false =>
   have hd : p.drop i = p[i] :: p.drop (i + 1) := List.drop_eq_getElem_cons hlt
   rw [hd, List.any_cons, ho, Bool.false_or] at hany
   have h2 : i + 1 < p.length := by
    rcases Nat.lt_or_ge (i + 1) p.length with h | h
    ·exact h
    ·rw [List.drop_eq_nil_of_le h] at hany; cases hany
   have hy := hr _ (List.getElem_mem h2)
   obtain ⟨ws, s, two, e1, e2, e3⟩ := step_two hx hy
   have hs : s.size ≤ 3000 := by
    rcases e3 with ⟨_, h30, _⟩ | ⟨_, _, h31⟩
    ·exact pair_size hx hy h30
    ·exact one_size hx h31
   rw [doc_two hlt h2 (by omega) ho e3 hs (by omega)]
   have hl : (acc ++ bytesZ s ++ [10]).length = acc.length + s.size + 1 := by rw [List.length_append, List.length_append, bytesZ_len]; rfl
   rcases e3 with ⟨rfl, h30, hpos⟩ | ⟨rfl, h30, h31⟩
   ·have hev := pair_even hx hy h30 hpos
    rw [List.drop_eq_getElem_cons h2, List.any_cons, hev, Bool.false_or] at hany
    exact ih (n - 1) (by omega) (i + 2) _ G (by omega) hany (by omega) (by rw [hl]; omega)
   ·exact ih (n - 1) (by omega) (i + 1) _ G (by omega) hany (by omega) (by rw [hl]; omega)
theorem text_ok {p : List Instr} (hp : p.length ≤ 300) (hr : ∀ x ∈ p, Rng x) : ∃ s, fn12 1000 p = some s ∧ fn13 1000 p = some s := by
 have g : decide ((4096 : Int) < (p.length : Int)) = false := decide_eq_false (by omega)
 unfold fn12 fn13
 rw [g, cond_false, cond_true, odd_ok p (by omega), Option.bind_some, Bool.false_or, cond_false, tabD_ok, Option.bind_some]
 cases hn : p.any fn23 with
 | true =>
  have h := odd_doc (by omega) hr 300 0 [] 1000 (by omega) (by rw [List.drop_zero]; exact hn) (by omega) (by simp)
  rw [show ((0 : Nat) : Int) = 0 from rfl] at h
  rw [h]
  exact ⟨_, rfl, rfl⟩
 | false =>
  obtain ⟨s, h1, h2⟩ := both_loop (by omega) hr hn 300 0 ⟨#[]⟩ 1000 1000 (by omega) (by omega) (by omega) (by omega) (by decide)
  rw [show ((0 : Nat) : Int) = 0 from rfl, show bytesZ ⟨#[]⟩ = [] from rfl] at h2
  rw [List.drop_zero] at h1
  rw [cond_false, tabP_ok, Option.bind_some, h1, h2]
  refine ⟨s, rfl, ?_⟩
  show some (strOfNums (bytesZ s)) = _
  rw [strOf_bytes]
end Go.Proofs.YtfjefnnbodgfbaaGreatDoor
namespace Go.Proofs.YtfjefnnbodgfbaaGreatDoor
open Go Go.HW
set_option maxRecDepth 8000
set_option linter.unusedVariables false
def markLI (k n : Nat) : List Instr := (List.range' k n).map fun i : Nat => fn22 1 (i : Int)
theorem lent_loopI : ∀ (n : Nat) (acc : List Instr) (k : Nat), k ≤ 12 → 12 - k < n → acc.length ≤ 1000000 + k → fn11_l1 n acc (k : Int) = some (acc ++ markLI k (12 - k))
 | 0, acc, k, _, h, _ => by omega
 | n + 1, acc, k, hk, hn, ha => by
  rw [fn11_l1_s, fn11_b1]
  rcases Nat.lt_or_ge k 12 with h | h
  ·have g1 : decide ((k : Int) < 12) = true := by simp; omega
   have g4 : IntKind.i64.wrap ((k : Int) + 1) = ((k + 1 : Nat) : Int) := w64 (by omega)
   have g3 : decide ((acc.length + ([fn22 1 (k : Int)] : List Instr).length) * 12 ≤ 140737488355328 ∧ acc.length + ([fn22 1 (k : Int)] : List Instr).length ≤ 9223372036854775807) = true := by simp; omega
   simp only [g1, cond_true, g3, g4]
   rw [lent_loopI n _ (k + 1) (by omega) (by omega) (by simp; omega)]
   have : markLI k (12 - k) = fn22 1 (k : Int) :: markLI (k + 1) (12 - (k + 1)) := by
    rw [show 12 - k = (12 - (k + 1)) + 1 from by omega, markLI, List.range'_succ]; rfl
   rw [this]; simp
  ·have g1 : decide ((k : Int) < 12) = false := by simp; omega
   have : k = 12 := by omega
   subst this
   simp only [g1, cond_false]; simp [markLI]
def lentLI (p : List Instr) : List Instr := p ++ markLI 0 12
theorem lentLI_length (p : List Instr) : (lentLI p).length = p.length + 12 := by simp [lentLI, markLI]
theorem lent_eqI {F : Nat} {p : List Instr} (hF : 20 ≤ F) (hp : p.length ≤ 500) : fn11 F p = some (lentLI p, p.length) := by
 have w1 : IntKind.i64.wrap ((p.length : Int) + 12) = (p.length : Int) + 12 := w64 (by omega)
 have g1 : (decide ((0 : Int) ≤ 0) && decide (0 ≤ (p.length : Int) + 12) && decide ((12 : Int) * ((p.length : Int) + 12) ≤ 281474976710656) && decide ((p.length : Int) + 12 ≤ 9223372036854775807)) = true := by simp; omega
 have e0 : List.replicate (0 : Int).toNat (⟨0, 0, 0, 0, 0⟩ : Instr) = [] := rfl
 have g2 : decide ((([] : List Instr).length + p.length) * 12 ≤ 140737488355328 ∧ ([] : List Instr).length + p.length ≤ 9223372036854775807) = true := by simp; omega
 have hl := lent_loopI F p 0 (by omega) (by omega) (by omega)
 rw [show ((0 : Nat) : Int) = 0 from rfl] at hl
 rw [fn11, w1, g1, cond_true, e0, g2, cond_true, List.nil_append, hl, Option.bind_some, fn11_k1]
 have g3 : sliceOk ((0 : Nat) : Int) (p.length : Int) (p ++ markLI 0 (12 - 0)).length = true := sliceOk_iff.2 ⟨by omega, by omega, by simp; omega⟩
 rw [g3, cond_true]; rfl
theorem lent_cutI (p : List Instr) : cutX (lentLI p) 0 (0 + p.length) = p := by simp [cutX, lentLI]
theorem kept_loopI {p : List Instr} (hp : p.length ≤ 500) : ∀ (n k : Nat), k ≤ p.length + 12 → p.length + 12 - k < n → fn14_l1 (lentLI p) p n (k : Int) = some (.inl ())
 | 0, k, _, h => by omega
 | n + 1, k, hk, hn => by
  have w1 : IntKind.i64.wrap ((p.length : Int) + 12) = ((p.length + 12 : Nat) : Int) := w64 (by omega)
  have hc : cutX (lentLI p) ((0 : Nat) : Int).toNat (((0 : Nat) : Int).toNat + ((((p.length + 12 : Nat) : Int)).toNat - ((0 : Nat) : Int).toNat)) = lentLI p := by
   rw [show ((0 : Nat) : Int).toNat = 0 from rfl, show 0 + ((((p.length + 12 : Nat) : Int)).toNat - 0) = p.length + 12 from by omega, cutX, List.drop_zero, List.take_of_length_le (by rw [lentLI_length]; omega)]
  have ht : (((p.length + 12 : Nat) : Int)).toNat - ((0 : Nat) : Int).toNat = p.length + 12 := by simp; omega
  have hl := lentLI_length p
  rw [fn14_l1_s, fn14_b1, w1, hc, ht]
  rcases Nat.lt_or_ge k (p.length + 12) with h | h
  ·have g1 : decide ((k : Int) < ((lentLI p).length : Int)) = true := by simp; omega
   have g2 : inb (k : Int) (p.length + 12) = true := inb_iff.2 ⟨by omega, by omega⟩
   have g4 : IntKind.i64.wrap ((k : Int) + 1) = ((k + 1 : Nat) : Int) := w64 (by omega)
   have g5 : IntKind.i64.wrap ((k : Int) - (p.length : Int)) = (k : Int) - (p.length : Int) := w64 (by omega)
   have ih := kept_loopI hp n (k + 1) (by omega) (by omega)
   rcases Nat.lt_or_ge k p.length with h2 | h2
   ·have g6 : decide ((k : Int) < (p.length : Int)) = true := by simp; omega
    have g7 : inb (k : Int) p.length = true := inb_iff.2 ⟨by omega, by omega⟩
    have g8 : decide ((p.length : Int) ≤ (k : Int)) = false := by simp; omega
    have hg : gt (lentLI p) (k : Int) = gt p (k : Int) := by simp [gt, lentLI, List.getD_eq_getElem?_getD, List.getElem?_append_left h2]
    simp only [g1, g2, g4, g5, g6, g7, g8, hg, cond_true, beq_self_eq_true, Bool.and_true, Bool.not_true, Bool.false_and, Bool.false_or, cond_false]
    exact ih
   ·have g6 : decide ((k : Int) < (p.length : Int)) = false := by simp; omega
    have g8 : decide ((p.length : Int) ≤ (k : Int)) = true := by simp; omega
    have hg : gt (lentLI p) (k : Int) = fn22 1 ((k : Int) - (p.length : Int)) := by
     have h3 : k - p.length < 12 := by omega
     simp only [gt, lentLI, List.getD_eq_getElem?_getD, Int.toNat_natCast, List.getElem?_append_right h2, markLI, List.getElem?_map]
     rw [List.getElem?_range' h3]
     simp
     congr 1; omega
    simp only [g1, g2, g4, g5, g6, g8, hg, cond_true, beq_self_eq_true, Bool.and_true, Bool.not_true, Bool.and_false, cond_false, Bool.false_and, Bool.or_false]
    exact ih
  ·have g1 : decide ((k : Int) < ((lentLI p).length : Int)) = false := by simp; omega
   rw [g1]; rfl
theorem kept_eqI {F : Nat} {p : List Instr} (hF : 600 ≤ F) (hp : p.length ≤ 500) : fn14 F (lentLI p) p.length p = some true := by
 have w1 : IntKind.i64.wrap ((p.length : Int) + 12) = ((p.length + 12 : Nat) : Int) := w64 (by omega)
 have g1 : (((cutX (lentLI p) 0 (0 + p.length)).length : Int) != (p.length : Int)) = false := by rw [lent_cutI]; simp
 have g2 : sliceOk ((0 : Nat) : Int) ((p.length + 12 : Nat) : Int) (lentLI p).length = true := sliceOk_iff.2 ⟨by omega, by omega, by rw [lentLI_length]; omega⟩
 have hl := kept_loopI hp F 0 (by omega) (by omega)
 rw [show ((0 : Nat) : Int) = 0 from rfl] at hl
 rw [fn14, g1, cond_false, w1, g2, cond_true, hl]; rfl
end Go.Proofs.YtfjefnnbodgfbaaGreatDoor
namespace Go.Proofs.YtfjefnnbodgfbaaGreatDoor
open Go Go.HW
set_option linter.unusedVariables false
set_option maxRecDepth 100000
theorem awake_ok : fn10 1000 = some true := by decide +kernel
theorem asmShows_plain {p : List Instr} (hr : ∀ x ∈ p, Rng x) : fn4 1000 p = some true := by
 unfold fn4
 rw [awake_ok]
 rcases Nat.lt_or_ge 300 p.length with h | h
 ·rw [decide_eq_true (by omega), cond_true, Option.bind_some]
 ·obtain ⟨s, h1, h2⟩ := text_ok h hr
  rw [decide_eq_false (by omega), cond_false, lent_eqI (by omega) (by omega), Option.bind_some]
  show Option.bind (fn12 1000 (cutX (lentLI p) 0 (0 + p.length))) _ = _
  rw [lent_cutI, h1, Option.bind_some, h2, Option.bind_some, beq_self_eq_true, cond_true, cond_true]
  show Option.bind (fn14 1000 (lentLI p) p.length p) _ = _
  rw [kept_eqI (by omega) (by omega), Option.bind_some]
  rfl
end Go.Proofs.YtfjefnnbodgfbaaGreatDoor
namespace Go.HW
open Go Go.RowKit Go.ChangeShapes
set_option linter.unusedVariables false
variable {H : Type} {enc : TypeId × Value → H} {P : Program}
theorem post_below {f : Func} {s : ChangeSpec} {apart fresh handsOn : Bool} {W W' : World} {args : Array Value} {v : Value} {ds gs : List (DataW H)} {before pa pv : List MemPlace}
  (hW : DataW.Whole enc P f.params.toList s.vars apart W args.toList ds gs before)
  (hres : ∀ (b : Nat) (sp : Nat → Bool) (hd : Bool), DataW.TrodAll enc P W' b sp hd f.resultTypes.toList (v.resultList f.resultTypes.size) (s.fn H (ds ++ gs)).results [])
  (hargs : ∀ sp : Nat → Bool, (∀ p ∈ before, sp p.block = true) → DataW.TrodAll enc P W' 0 sp true f.params.toList args.toList (s.fn H (ds ++ gs)).args pa)
  (hvars : ∀ sp : Nat → Bool, (∀ p ∈ before, sp p.block = true) → DataW.TrodVars enc P W' sp s.vars (s.fn H (ds ++ gs)).vars pv)
  (hps : before = pa ++ pv) (hk : Below W.heap.size W W') : s.post enc P f apart fresh handsOn false W args v W' := by
 have hold : ∀ p ∈ before, (fun b => decide (b < W.heap.size)) p.block = true := fun p hp => by simpa using hW.lt p hp
 refine ⟨ds, gs, before, [], pa, pv, hW, hres _ _ _, hargs _ hold, hvars _ hold, World.keptBut_mono (fun p hp => ⟨hp, ?_⟩) (hk.frame (· ∈ before)), fun h => by cases h⟩
 rw [hps, List.mem_append] at hp
 exact Or.inr hp
end Go.HW
namespace Go.HW
open Go Go.RowKit Go.ChangeShapes
set_option linter.unusedVariables false
section
variable {H : Type} {enc : TypeId × Value → H} {P : Program} {W W' : World}
theorem TrodAll.stays (hl : laidOutB P = true) {sp : Nat → Bool} (hb : Below W.heap.size W W') : ∀ {ts : List TypeId} {vs : List Value} {ds : List (DataW H)} {ps : List MemPlace}, (ts.all fun t => P.readableRec t && decide (t < P.types.size)) = true →
  DataW.TrodAll enc P W 0 (fun _ => true) true ts vs ds ps → (∀ x ∈ ps, x.block < W.heap.size) → (∀ x ∈ ps, sp x.block = true) → DataW.TrodAll enc P W' 0 sp true ts vs ds ps
 | [], [], [], ps, _, h, _, _ => h
 | t :: ts, v :: vs, d :: ds, ps, hr, h, hlt, hs => by
  obtain ⟨p, q, h1, h2, rfl⟩ := h
  simp only [List.all_cons, Bool.and_eq_true, decide_eq_true_eq] at hr
  obtain ⟨⟨r1, r2⟩, r3⟩ := hr
  exact ⟨p, q, WideElems.Trod_stays hl r1 r2 h1 (fun x hx => hb.same (hlt x (by simp [hx]))) (fun x hx => hs x (by simp [hx])), TrodAll.stays hl hb (by simpa using r3) h2 (fun x hx => hlt x (by simp [hx])) (fun x hx => hs x (by simp [hx])), rfl⟩
 | [], [], _ :: _, _, _, h, _, _ => by simp [DataW.TrodAll] at h
 | [], _ :: _, _, _, _, h, _, _ => by simp [DataW.TrodAll] at h
 | _ :: _, [], _, _, _, h, _, _ => by simp [DataW.TrodAll] at h
 | _ :: _, _ :: _, [], _, _, h, _, _ => by simp [DataW.TrodAll] at h
theorem list_of {α : Type} {Q : Nat → α → Prop} : ∀ (n : Nat), (∀ i, i < n → ∃ x, Q i x) → ∃ xs : List α, xs.length = n ∧ ∀ i x, xs[i]? = some x → Q i x
 | 0, _ => ⟨[], rfl, fun i x h => by simp at h⟩
 | n + 1, h => by
  obtain ⟨xs, h1, h2⟩ := list_of n (fun i hi => h i (by omega))
  obtain ⟨y, hy⟩ := h n (by omega)
  refine ⟨xs ++ [y], by simp [h1], fun i x hx => ?_⟩
  rcases Nat.lt_or_ge i xs.length with hi | hi
  ·rw [List.getElem?_append_left hi] at hx; exact h2 i x hx
  ·rw [List.getElem?_append_right hi] at hx
   have h0 : i - xs.length = 0 := by
    cases hh : i - xs.length with
    | zero => rfl
    | succ j => rw [hh] at hx; simp at hx
   rw [h0] at hx; simp at hx; subst hx
   have : i = n := by omega
   subst this; exact hy
end
end Go.HW
namespace Go.HW
open Go Go.RowKit Go.ChangeShapes
set_option linter.unusedVariables false
section
variable {H : Type} {enc : TypeId × Value → H} {P : Program} {W W' : World} {sp : Nat → Bool} {held : Bool}
theorem open_rowC {α : Type} {N : En α} {Ok : α → Prop} {t e : TypeId} (ht : P.underlying t = some (.slice e)) (hc : P.cellsOf e = N.sz)
  (hdec : ∀ (n : Nat) (cs : List Value) (y : DataW H × List MemPlace), DataW.trod enc P W 0 sp held n e cs = some y → ∃ x, cs = N.enc x ∧ Ok x)
  {n : Nat} {cs : List Value} {y : DataW H × List MemPlace} (h : DataW.trod enc P W 0 sp held n t cs = some y) :
  ∃ (a : Option Addr) (len cap : Nat) (xs : List α), cs = [.slice a len cap] ∧ xs.length = len ∧ xs.length ≤ cap ∧ RdS N W a xs ∧ (∀ x ∈ xs, Ok x) ∧ ∀ B, (∀ m ∈ y.1.weights P t, m ≤ B) → xs.length * P.bytesOf e ≤ B := by
 rcases DataW.trod_slice ht h with ⟨h0, rfl⟩ | ⟨ad, len, cap', elems, rest, m, _, h1, hy, hb, hl, hm, hlen, hel, _, _⟩
 ·exact ⟨none, 0, 0, [], h0, rfl, Nat.le_refl _, .nil _ _ _, fun x hx => by simp at hx, fun B _ => by simp⟩
 ·have each : ∀ i, i < len → ∃ x, W.cells? 0 (ad.add (i * N.sz)) N.sz = some (N.enc x) ∧ Ok x := fun i hi => by
   have h2 := hel i hi
   rw [List.getElem?_eq_getElem (by omega), Option.bind_eq_some_iff] at h2
   obtain ⟨cs, h3, h4⟩ := h2
   obtain ⟨x, rfl, hx⟩ := hdec _ _ _ h4
   rw [hc] at h3
   exact ⟨x, h3, hx⟩
  obtain ⟨xs, x1, x2⟩ := list_of (Q := fun i x => W.cells? 0 (ad.add (i * N.sz)) N.sz = some (N.enc x) ∧ Ok x) len each
  refine ⟨some ad, len, cap', xs, h1, x1, by omega, ⟨by omega, ?_⟩, fun x hx => ?_, fun B hB => ?_⟩
  ·rcases Nat.eq_zero_or_pos len with h0 | h0
   ·left; exact List.eq_nil_of_length_eq_zero (by omega)
   ·right
    have hspot : ad.spot = none := by
     obtain ⟨x, hx⟩ : ∃ x, xs[0]? = some x := ⟨xs[0], List.getElem?_eq_getElem (by omega)⟩
     obtain ⟨_, _, h5⟩ := World.cells?_some (x2 0 x hx).1
     have := h5 0 N.pos
     rw [List.getElem?_eq_getElem (by rw [N.len]; exact N.pos)] at this
     have e0 : (ad.add (0 * N.sz)).add 0 = ad := by simp [Addr.add]
     rw [e0] at this
     cases hs : ad.spot with
     | none => rfl
     | some q =>
      unfold World.cell? at this
      split at this
      ·rw [hs] at this; simp at this
      ·cases this
    refine ⟨ad, rfl, hspot, fun k x hk j u hj => ?_⟩
    obtain ⟨_, _, h5⟩ := World.cells?_some (x2 k x hk).1
    have hjl : j < N.sz := by have := (List.getElem?_eq_some_iff.1 hj).1; rw [N.len] at this; exact this
    have := h5 j hjl
    rw [hj] at this
    have e1 : (ad.add (k * N.sz)).add j = ⟨ad.block, ad.off + (k * N.sz + j), none⟩ := by
     cases ad with | mk b o s => simp at hspot; subst hspot; simp [add_none, Nat.add_assoc]
    rw [e1] at this
    exact this
  ·obtain ⟨i, hi, rfl⟩ := List.mem_iff_getElem.1 hx
   exact (x2 i _ (by rw [List.getElem?_eq_getElem hi])).2
  ·subst hy
   have := hB ((elems.length + rest.length) * P.bytesOf e) (by simp [DataW.weights, ht])
   have h2 : xs.length * P.bytesOf e ≤ (elems.length + rest.length) * P.bytesOf e := Nat.mul_le_mul_right _ (by omega)
   omega
theorem partC {fs : Array Field} {xs : List (DataW H × List MemPlace)} {n : Nat} {cs : List Value} (hall : ∀ (i : Nat) (f : Field), fs[i]? = some f → DataW.trod enc P W 0 sp held n f.type ((cs.drop f.offset).take (P.cellsOf f.type)) = xs[i]?) (hx : xs.length = fs.size)
  {i o : Nat} {f : Field} (hf : fs[i]? = some f) (hc : P.cellsOf f.type = 1) (ho : f.offset = o) : ∃ x, xs[i]? = some x ∧ DataW.trod enc P W 0 sp held n f.type ((cs.drop o).take 1) = some x := by
 have h := hall i f hf
 have hi : i < fs.size := (Array.getElem?_eq_some_iff.1 hf).1
 rw [List.getElem?_eq_getElem (by omega), hc, ho] at h
 exact ⟨_, List.getElem?_eq_getElem (by omega), h⟩
theorem cellC {cs : List Value} {o : Nat} {c : Value} (h : (cs.drop o).take 1 = [c]) : cs[o]? = some c := by
 have := congrArg (fun l => l[0]?) h
 simpa [List.getElem?_take, List.getElem?_drop] using this
theorem trod_of {t : TypeId} {v : Value} {d : DataW H} {ps : List MemPlace} {c : Value} (hv : v.cells = #[c]) (h : DataW.Trod enc P W 0 sp held t v d ps) : ∃ n, DataW.trod enc P W 0 sp held n t [c] = some (d, ps) := by
 obtain ⟨n, h⟩ := h; rw [hv] at h; exact ⟨n, h⟩
theorem weight_arg {ts : List TypeId} {ds : List (DataW H)} {B : Nat} (h : (DataW.weightsEach P ts ds).all (· ≤ B) = true) {j : Nat} {t : TypeId} {d : DataW H} (ht : ts[j]? = some t) (hd : ds[j]? = some d) : ∀ m ∈ d.weights P t, m ≤ B := fun m hm => by
 simpa using List.all_eq_true.1 h _ (DataW.weights_mem_each ht hd m hm)
end
end Go.HW
namespace Go.Proofs.YtfjefnnbodgfbaaGreatDoor
open Go Go.HW Go.Lib
set_option linter.unusedVariables false
set_option maxRecDepth 100000
theorem tab_at {P : Program} {W : World} {n : String} {g : Nat} {k : IntKind} {zs : List Int} (hg : P.globalNamed n = some g) (h : TabIs P W n k zs) : TabAt W g k zs := by
 unfold TabIs World.var? at h
 rw [hg] at h
 simp only [Option.bind_some] at h
 split at h
 ·rename_i cs T fz e
  exact ⟨T, fz, by rw [e]; cases h; rfl⟩
 ·cases h
theorem tab_of_reads {P : Program} {W : World} {name : String} {k : IntKind} {zs : List Int} {g : Nat} {t e : TypeId} {n : Nat}
  (hg : P.globalNamed name = some g) (hty : (P.globals[g]?).map (·.type) = some t) (ht : P.underlying t = some (.array n e)) (he : P.underlying e = some (.int k)) (hce : P.cellsOf e = 1) (hct : P.cellsOf t = n)
  (h : VarReads P W name (tabData k zs)) : TabAt W g k zs := by
 obtain ⟨g', t', cs, fuel, p, hg', ht', hvar, hd⟩ := h
 obtain rfl := Option.some.inj (hg.symm.trans hg')
 obtain rfl := Option.some.inj (hty.symm.trans ht')
 refine tab_at hg ?_
 unfold TabIs
 rw [hvar, ← cells_of_tab ht he hce hct hd]
theorem ifc_of_reads {P : Program} {W : World} {name nm : String} {d : DataW Unit} {g : Nat} {t : TypeId} {ms : Array (String × TypeId)}
  (hg : P.globalNamed name = some g) (hty : (P.globals[g]?).map (·.type) = some t) (ht : P.underlying t = some (.interface ms))
  (h : VarReads P W name (.iface nm d)) : IfcAt W g := by
 obtain ⟨g', t', cs, fuel, p, hg', ht', hvar, hd⟩ := h
 obtain rfl := Option.some.inj (hg.symm.trans hg')
 obtain rfl := Option.some.inj (hty.symm.trans ht')
 obtain ⟨f', u, v, hc, _, _⟩ := iface_of_trod ht hd
 refine ⟨.iface u v, ?_, .inr ⟨u, v, rfl⟩⟩
 rw [World.var?_cell hg hvar 0, ← Array.getElem?_toList, hc]; rfl
theorem glW_ok {W : World} {laid : List (String × DataW Unit)} (hsh : W.ShapedOpen Tryz.prog) (hL : laidMet Tryz.prog laid W)
  (m1 : ("internal/strconv.uint64pow10", Rows.laid_internal_strconv_uint64pow10) ∈ laid) (m2 : ("strings.asciiSpace", Rows.laid_strings_asciiSpace) ∈ laid)
  (m3 : ("strconv.ErrSyntax", Rows.laid_strconv_ErrSyntax) ∈ laid) (m4 : ("strconv.ErrRange", Rows.laid_strconv_ErrRange) ∈ laid) : GlW W := by
 refine ⟨cell_of_shapedOpen_int hsh (g := 2) (t := 3) (zero := #[.int .i64 0]) (of_decide_eq_true (by kernel_rfl)) (by kernel_rfl) rfl (by kernel_rfl) (by kernel_rfl) Tryz.underlying3, ?_, ?_, ?_, ?_⟩
 ·have h1 : Tryz.prog.globalNamed "strconv.ErrSyntax" = some 7 := by kernel_rfl
  have h2 : (Tryz.prog.globals[7]?).map (·.type) = some 57 := by kernel_rfl
  exact ifc_of_reads h1 h2 Tryz.underlying57 (laidMet.reads hL m3)
 ·have h1 : Tryz.prog.globalNamed "strconv.ErrRange" = some 8 := by kernel_rfl
  have h2 : (Tryz.prog.globals[8]?).map (·.type) = some 57 := by kernel_rfl
  exact ifc_of_reads h1 h2 Tryz.underlying57 (laidMet.reads hL m4)
 ·exact tab_of_reads (g := 6) (by kernel_rfl) (by kernel_rfl) Tryz.underlying216 Tryz.underlying120 (by kernel_rfl) (by kernel_rfl) (show VarReads Tryz.prog W _ (tabData .u64 pow10Tab) from (show (Rows.laid_internal_strconv_uint64pow10 : DataW Unit) = tabData .u64 pow10Tab by kernel_rfl) ▸ laidMet.reads hL m1)
 ·exact tab_of_reads (g := 1) (by kernel_rfl) (by kernel_rfl) Tryz.underlying170 Tryz.underlying5 (by kernel_rfl) (by kernel_rfl) (show VarReads Tryz.prog W _ (tabData .u8 asciiSpaceTab) from (show (Rows.laid_strings_asciiSpace : DataW Unit) = tabData .u8 asciiSpaceTab by kernel_rfl) ▸ laidMet.reads hL m2)
theorem tabAt_ext {w w' : World} {g : Nat} {k : IntKind} {zs : List Int} (hx : Ext w [] w') (h : TabAt w g k zs) : TabAt w' g k zs := by
 obtain ⟨T, fz, e⟩ := h
 exact ⟨T, fz, by rw [hx.same g (Array.getElem?_eq_some_iff.1 e).1 (by simp)]; exact e⟩
theorem cell_ext {w w' : World} {g : Nat} {v : Value} (hx : Ext w [] w') (h : w.cell? ⟨g, 0, none⟩ = some v) : w'.cell? ⟨g, 0, none⟩ = some v := by
 have hlt : g < w.heap.size := by
  rcases Nat.lt_or_ge g w.heap.size with h1 | h1
  ·exact h1
  ·unfold World.cell? at h
   rw [Array.getElem?_eq_none h1] at h
   cases h
 unfold World.cell? at h ⊢
 rw [hx.same g hlt (by simp)]
 exact h
theorem glF_ok {W : World} {laid : List (String × DataW Unit)} (hsh : W.ShapedOpen Tryz.prog) (hL : laidMet Tryz.prog laid W)
  (m1 : ("internal/strconv.uint64pow10", Rows.laid_internal_strconv_uint64pow10) ∈ laid) (m2 : ("strings.asciiSpace", Rows.laid_strings_asciiSpace) ∈ laid)
  (m3 : ("strconv.ErrSyntax", Rows.laid_strconv_ErrSyntax) ∈ laid) (m4 : ("strconv.ErrRange", Rows.laid_strconv_ErrRange) ∈ laid) : GlF W [] := fun w' hx => by
 obtain ⟨⟨m, h1⟩, ⟨v2, h2, g2⟩, ⟨v3, h3, g3⟩, h4, h5⟩ := glW_ok hsh hL m1 m2 m3 m4
 exact ⟨⟨m, cell_ext hx h1⟩, ⟨v2, cell_ext hx h2, g2⟩, ⟨v3, cell_ext hx h3, g3⟩, tabAt_ext hx h4, tabAt_ext hx h5⟩
theorem handed_laid {H : Type} {enc : TypeId × Value → H} {a : Assume} {C : Checked} {os : Os} {f : FuncId} {fn : Func} {s : ChangeSpec} {conds : List PathCond} {apart fresh handsOn again : Bool} {laid : List (String × DataW Unit)}
  (own : ownKnob C.prog.godebug = none) (started : os.Started) (noInit : C.prog.inits.idxOf? f = none) (hfn : C.prog.funcs[f]? = some fn)
  (witness : ∃ (w : World) (tape : Tape) (i : Input), w.os = os ∧ (w.forCall tape i).Shaped C.prog ∧ i.vars = [] ∧ Input.okWide C.prog (w.forCall tape i) .any w.heap.size f i ∧
   ((s.pre enc C.prog fn conds apart (w.forCall tape i).memory i.args ∧ laidMetH C.prog laid (w.forCall tape i).memory) ∧ sizedMet enc C.prog fn (OpenSpec.ofChange s) apart (w.forCall tape i).memory i.args) ∧ a.holds C.prog (lone (Frame.enter C.prog f i.args .normal) [] (w.forCall tape i)))
  (law : ∀ (W : World) (base : Nat) (args : Array Value) (ds gs : List (DataW H)) (before : List MemPlace),
   (∀ (j : Nat) t v, fn.params[j]? = some t → args[j]? = some v → Value.okWide C.prog W .any base t v) →
   DataW.Whole enc C.prog fn.params.toList s.vars apart W args.toList ds gs before →
   conds.all (PathCond.test C.prog ⟨fn.params.toList, ds, s.plain.varTypes C.prog, gs⟩) = true →
   (DataW.weightsEach C.prog (fn.params.toList ++ s.plain.varTypes C.prog) (ds ++ gs)).all (· ≤ reachBytes) = true → laidMetH C.prog laid W → W.ShapedOpen C.prog →
   Calls C.prog f args W fun e W' => ∃ v, e = .returned v ∧ s.post enc C.prog fn apart fresh handsOn again W args v W') :
  ReturnsInHanded a C os f .any (fun w args => (s.pre enc C.prog fn conds apart w args ∧ laidMetH C.prog laid w) ∧ sizedMet enc C.prog fn (OpenSpec.ofChange s) apart w args) (s.post enc C.prog fn apart fresh handsOn again) := by
 refine returnsInHanded_of_calls own started noInit witness fun w tape i _ hsh _ hok hpre _ => ?_
 obtain ⟨_, _, _, fn', hfn', _, _, _, _, hval⟩ := hok
 obtain rfl : fn' = fn := Option.some.inj (hfn'.symm.trans hfn)
 obtain ⟨⟨⟨ds, gs, before, hw, hc⟩, hx⟩, hz⟩ := hpre
 refine (law (w.forCall tape i) w.heap.size i.args ds gs before hval (DataW.Whole.of_heap (w' := w.forCall tape i) (by rfl) hw) hc (hz.weights hw) (laidMetH.of_heap (by rfl) hx) hsh).mono fun e W' h => ?_
 obtain ⟨v, rfl, hp⟩ := h
 exact ChangeSpec.post_blind hp
end Go.Proofs.YtfjefnnbodgfbaaGreatDoor
