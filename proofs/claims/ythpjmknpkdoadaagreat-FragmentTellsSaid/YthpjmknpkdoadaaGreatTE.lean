/- Part of the proof: the logic, the walks, and what they compute. -/
import Derived.Test.YthpjmknpkdoadaaGreatProg
import Derived.Test.YthpjmknpkdoadaaGreatTD
set_option linter.all false
namespace Go.Proofs.YthpjmknpkdoadaaGreat
open Go Go.HW
set_option linter.unusedVariables false
set_option maxRecDepth 4000
set_option maxHeartbeats 8000000
theorem c22 (F : Nat) (p0 : List Fld) (r : (List Fld) × Nat) (h : fn22 F p0 = some r) : Con Tryz.prog 22 [.sl 0] [(0, .rd Fld.E p0)] 1 (.sl 1) [(1, .vw (.ss 2 0 4 r.2)), (2, .row Fld.E 51 r.1 r.1.length .unk)] 3 := by
 rw [fn22] at h
 refine Con.of_body Tryz.func22 rfl Tryz.ntmps22 rfl fun w F0 ρ => ?_
 obtain ⟨hk1, h⟩ := ck h
 obtain ⟨hk2, h⟩ := ck h
 refine U_ tbOk 11 [.ms Fld.E (⟨0, 0, 0, false⟩ : Fld), .ap Fld.E .unk _ _] (aC hk1 (aR (aR (aR (aC hk2 (aC rfl aN)))))) ?_
 obtain ⟨o10, hl11, h⟩ := bd h
 refine CT 0 ⟨[(0, .sl 0), (3, .sl 1)], [(0, .rd Fld.E p0), (1, .row Fld.E 51 o10 o10.length .unk)], 2⟩ ?_ ?_
 ·have h014 := h
  clear h
  refine G4.imp (I_ [0, 2]) (LP (fun (n : Nat) (s : (List Fld) × Int) => fn22_l1 n s.1 s.2) (fun (s : (List Fld) × Int) => ⟨[(0, .sl 0), (3, .sl 1), (4, .v (.int .i64 s.2))], [(0, .rd Fld.E p0), (1, .row Fld.E 51 s.1 s.1.length .unk)], 2⟩) (fun _ => rfl) (s0 := ((List.replicate (0 : Int).toNat (⟨0, 0, 0, false⟩ : Fld)) ++ p0, 0)) hl11 ?_)
  clear hl11
  rintro R15 n12 ⟨xs5, x6⟩ h ih13
  replace h := (fn22_l1_s n12 xs5 x6).symm.trans h
  refine U_ tbOk 2 [] aN ?_
  refine C_ h (fun h hb16 => ?_) fun h hb16 => ?_
  ·obtain ⟨hk17, h⟩ := ck h
   refine U_ tbOk 9 [.cl true [] (fun _ => c47 1 x6 _ rfl), .bs Fld.E ([(fn47 1 x6)] : List Fld), .ap Fld.E .unk _ _] (aK (aR (aR (aR (aR (aC hk17 (aC rfl aN))))))) ?_
   exact ih13 (xs5 ++ ([(fn47 1 x6)] : List Fld), IntKind.i64.wrap (x6 + 1)) h _ _ (I_ [0, 3])
  ·refine U_ tbOk 0 [] aN ?_
   obtain rfl := sj h
   exact CE (I_ [0, 1])
 ·replace h := (fn22_k1_s p0 o10).symm.trans h
  obtain ⟨hk18, h⟩ := ck h
  refine U_ tbOk 5 [.sc] (aC hk18 aN) ?_
  obtain rfl := sj h
  refine G4.imp (Imp.vwS 2 (by rfl)) ?_
  exact T_ tbOk.t Tryz.results22 [0, 2, 1]
def fn48 (p0 : Int) (p1 : Int) : Need :=
 (⟨(fn46 p0 p1), 0, 0⟩ : Need)
theorem c48 (p0 : Int) (p1 : Int) (r : Need) (h : fn48 p0 p1 = r) : Con Tryz.prog 48 [.v (.int .i64 p0), .v (.int .i64 p1)] [] 0 (.ag [.v (.int .i64 r.fHelper), .v (.int .i64 r.fMajor), .v (.int .i64 r.fMinor)]) [] 0 := by
 rw [fn48] at h
 refine Con.of_body Tryz.func48 rfl Tryz.ntmps48 rfl fun w F0 ρ => ?_
 refine U_ tbOk 6 [.cl true [] (fun _ => c46 p0 p1 _ rfl)] (aK aN) ?_
 subst h
 exact T_ tbOk.t Tryz.results48 []
def fn23_l1 : Nat → (List Need) → Int → Option ((List Need))
 | 0, _, _ => none
 | n12 + 1, xs5, x6 => bif decide (x6 < 12) then (bif decide ((xs5.length + ([(fn48 1 x6)] : List Need).length) * 24 ≤ 140737488355328 ∧ xs5.length + ([(fn48 1 x6)] : List Need).length ≤ 9223372036854775807) then ((fn23_l1 n12) (xs5 ++ ([(fn48 1 x6)] : List Need)) (IntKind.i64.wrap (x6 + 1))) else none) else (some xs5)
theorem fn23_l1_s (n12 : Nat) (xs5 : List Need) (x6 : Int) : fn23_l1 (n12 + 1) xs5 x6 = bif decide (x6 < 12) then (bif decide ((xs5.length + ([(fn48 1 x6)] : List Need).length) * 24 ≤ 140737488355328 ∧ xs5.length + ([(fn48 1 x6)] : List Need).length ≤ 9223372036854775807) then ((fn23_l1 n12) (xs5 ++ ([(fn48 1 x6)] : List Need)) (IntKind.i64.wrap (x6 + 1))) else none) else (some xs5) := rfl
def fn23_k1 (p0 : List Need) (xs9 : List Need) : Option (((List Need) × Nat)) :=
 bif sliceOk ((0 : Nat) : Int) (p0.length : Int) xs9.length then (some (xs9, (p0.length : Int).toNat - ((0 : Nat) : Int).toNat)) else none
theorem fn23_k1_s (p0 : List Need) (xs9 : List Need) : fn23_k1 p0 xs9 = bif sliceOk ((0 : Nat) : Int) (p0.length : Int) xs9.length then (some (xs9, (p0.length : Int).toNat - ((0 : Nat) : Int).toNat)) else none := rfl
def fn23 (F : Nat) (p0 : List Need) : Option ((List Need) × Nat) :=
 bif decide ((0 : Int) ≤ 0) && decide ((0 : Int) ≤ IntKind.i64.wrap ((p0.length : Int) + 12)) && decide ((24 : Int) * (IntKind.i64.wrap ((p0.length : Int) + 12)) ≤ 281474976710656) && decide ((IntKind.i64.wrap ((p0.length : Int) + 12)) ≤ 9223372036854775807) then (bif decide (((List.replicate (0 : Int).toNat (⟨0, 0, 0⟩ : Need)).length + p0.length) * 24 ≤ 140737488355328 ∧ (List.replicate (0 : Int).toNat (⟨0, 0, 0⟩ : Need)).length + p0.length ≤ 9223372036854775807) then (Option.bind (fn23_l1 F ((List.replicate (0 : Int).toNat (⟨0, 0, 0⟩ : Need)) ++ p0) 0) fun o10 => (fn23_k1 p0 o10)) else none) else none
theorem c23 (F : Nat) (p0 : List Need) (r : (List Need) × Nat) (h : fn23 F p0 = some r) : Con Tryz.prog 23 [.sl 0] [(0, .rd Need.E p0)] 1 (.sl 1) [(1, .vw (.ss 2 0 3 r.2)), (2, .row Need.E 88 r.1 r.1.length .unk)] 3 := by
 rw [fn23] at h
 refine Con.of_body Tryz.func23 rfl Tryz.ntmps23 rfl fun w F0 ρ => ?_
 obtain ⟨hk1, h⟩ := ck h
 obtain ⟨hk2, h⟩ := ck h
 refine U_ tbOk 11 [.ms Need.E (⟨0, 0, 0⟩ : Need), .ap Need.E .unk _ _] (aC hk1 (aR (aR (aR (aC hk2 (aC rfl aN)))))) ?_
 obtain ⟨o10, hl11, h⟩ := bd h
 refine CT 0 ⟨[(0, .sl 0), (3, .sl 1)], [(0, .rd Need.E p0), (1, .row Need.E 88 o10 o10.length .unk)], 2⟩ ?_ ?_
 ·have h014 := h
  clear h
  refine G4.imp (I_ [0, 2]) (LP (fun (n : Nat) (s : (List Need) × Int) => fn23_l1 n s.1 s.2) (fun (s : (List Need) × Int) => ⟨[(0, .sl 0), (3, .sl 1), (4, .v (.int .i64 s.2))], [(0, .rd Need.E p0), (1, .row Need.E 88 s.1 s.1.length .unk)], 2⟩) (fun _ => rfl) (s0 := ((List.replicate (0 : Int).toNat (⟨0, 0, 0⟩ : Need)) ++ p0, 0)) hl11 ?_)
  clear hl11
  rintro R15 n12 ⟨xs5, x6⟩ h ih13
  replace h := (fn23_l1_s n12 xs5 x6).symm.trans h
  refine U_ tbOk 2 [] aN ?_
  refine C_ h (fun h hb16 => ?_) fun h hb16 => ?_
  ·obtain ⟨hk17, h⟩ := ck h
   refine U_ tbOk 9 [.cl true [] (fun _ => c48 1 x6 _ rfl), .bs Need.E ([(fn48 1 x6)] : List Need), .ap Need.E .unk _ _] (aK (aR (aR (aR (aR (aC hk17 (aC rfl aN))))))) ?_
   exact ih13 (xs5 ++ ([(fn48 1 x6)] : List Need), IntKind.i64.wrap (x6 + 1)) h _ _ (I_ [0, 3])
  ·refine U_ tbOk 0 [] aN ?_
   obtain rfl := sj h
   exact CE (I_ [0, 1])
 ·replace h := (fn23_k1_s p0 o10).symm.trans h
  obtain ⟨hk18, h⟩ := ck h
  refine U_ tbOk 5 [.sc] (aC hk18 aN) ?_
  obtain rfl := sj h
  refine G4.imp (Imp.vwS 2 (by rfl)) ?_
  exact T_ tbOk.t Tryz.results23 [0, 2, 1]
def fn10 (F : Nat) (p0 : PType) : Option (ByteArray × Int × (List Fld) × Nat × (List Need) × Nat × Int × Int) :=
 Option.bind (fn22 F p0.fFields) fun v1 => (Option.bind (fn23 F p0.fNeeds) fun v3 => (some (p0.fName, p0.fCtx, v1.1, v1.2, v3.1, v3.2, p0.fLo, p0.fHi)))
theorem c10 (F : Nat) (p0 : PType) (r : ByteArray × Int × (List Fld) × Nat × (List Need) × Nat × Int × Int) (h : fn10 F p0 = some r) : Con Tryz.prog 10 [.ag [.v (.string p0.fName), .v (.int .i64 p0.fCtx), .sl 0, .sl 1, .v (.int .i64 p0.fLo), .v (.int .i64 p0.fHi)]] [(0, .rd Fld.E p0.fFields), (1, .rd Need.E p0.fNeeds)] 2 (.ag [.v (.string r.1), .v (.int .i64 r.2.1), .sl 2, .sl 4, .v (.int .i64 r.2.2.2.2.2.2.1), .v (.int .i64 r.2.2.2.2.2.2.2)]) [(2, .vw (.ss 3 0 4 r.2.2.2.1)), (3, .row Fld.E 51 r.2.2.1 r.2.2.1.length .unk), (4, .vw (.ss 5 0 3 r.2.2.2.2.2.1)), (5, .row Need.E 88 r.2.2.2.2.1 r.2.2.2.2.1.length .unk)] 6 := by
 rw [fn10] at h
 refine Con.of_body Tryz.func10 rfl Tryz.ntmps10 rfl fun w F0 ρ => ?_
 obtain ⟨v1, hv2, h⟩ := bd h
 obtain ⟨v3, hv4, h⟩ := bd h
 refine U_ tbOk 14 [.cl true [0] (fun _ => c22 F p0.fFields _ hv2), .cl true [1] (fun _ => c23 F p0.fNeeds _ hv4)] (aK (aK aN)) ?_
 obtain rfl := sj h
 exact T_ tbOk.t Tryz.results10 [0, 1, 4, 5, 6, 7]
def fn116 (p0 : Instr) : Bool :=
 p0.fOp == 24
theorem c116 (p0 : Instr) (r : Bool) (h : fn116 p0 = r) : Con Tryz.prog 116 [.ag [.v (.int .u8 p0.fOp), .v (.int .u8 p0.fDst), .v (.int .u8 p0.fSrc), .v (.int .i16 p0.fOff), .v (.int .i32 p0.fImm)]] [] 0 (.v (.bool r)) [] 0 := by
 rw [fn116] at h
 refine Con.of_body Tryz.func116 rfl Tryz.ntmps116 rfl fun w F0 ρ => ?_
 refine U_ tbOk 6 [] aN ?_
 subst h
 exact T_ tbOk.t Tryz.results116 []
def fn69_l1 (p0 : List Instr) : Nat → (List Bool) → Int → Option ((List Bool))
 | 0, _, _ => none
 | n15 + 1, xs6, x7 => bif decide (x7 < (p0.length : Int)) then (bif inb x7 xs6.length then (bif inb x7 p0.length then (bif (fn116 (gt p0 x7)) then ((fn69_l1 p0 n15) (xs6.set x7.toNat true) (IntKind.i64.wrap ((IntKind.i64.wrap (x7 + 1)) + 1))) else ((fn69_l1 p0 n15) (xs6.set x7.toNat true) (IntKind.i64.wrap (x7 + 1)))) else none) else none) else (some xs6)
theorem fn69_l1_s (p0 : List Instr) (n15 : Nat) (xs6 : List Bool) (x7 : Int) : fn69_l1 p0 (n15 + 1) xs6 x7 = bif decide (x7 < (p0.length : Int)) then (bif inb x7 xs6.length then (bif inb x7 p0.length then (bif (fn116 (gt p0 x7)) then ((fn69_l1 p0 n15) (xs6.set x7.toNat true) (IntKind.i64.wrap ((IntKind.i64.wrap (x7 + 1)) + 1))) else ((fn69_l1 p0 n15) (xs6.set x7.toNat true) (IntKind.i64.wrap (x7 + 1)))) else none) else none) else (some xs6) := rfl
def fn69_k1 (xs12 : List Bool) : Option (((List Bool))) :=
 some xs12
theorem fn69_k1_s (xs12 : List Bool) : fn69_k1 xs12 = some xs12 := rfl
def fn69 (F : Nat) (p0 : List Instr) : Option ((List Bool)) :=
 bif decide ((0 : Int) ≤ (p0.length : Int)) && decide ((p0.length : Int) ≤ (p0.length : Int)) && decide ((1 : Int) * (p0.length : Int) ≤ 281474976710656) && decide ((p0.length : Int) ≤ 9223372036854775807) then (Option.bind (fn69_l1 p0 F (List.replicate (p0.length : Int).toNat false) 0) fun o13 => (fn69_k1 o13)) else none
theorem c69 (F : Nat) (p0 : List Instr) (r : (List Bool)) (h : fn69 F p0 = some r) : Con Tryz.prog 69 [.sl 0] [(0, .rd Instr.E p0)] 1 (.sl 1) [(1, .row Et.bool 4 r r.length .unk)] 2 := by
 rw [fn69] at h
 refine Con.of_body Tryz.func69 rfl Tryz.ntmps69 rfl fun w F0 ρ => ?_
 obtain ⟨hk1, h⟩ := ck h
 refine U_ tbOk 6 [.ms Et.bool false] (aC hk1 (aR aN)) ?_
 obtain ⟨o13, hl14, h⟩ := bd h
 refine CT 0 ⟨[(3, .sl 1)], [(0, .rd Instr.E p0), (1, .row Et.bool 4 o13 o13.length .unk)], 2⟩ ?_ ?_
 ·have h017 := h
  clear h
  refine G4.imp (Imp.trans (Imp.row 1 (by rfl)) (I_ [0, 1])) (LP (fun (n : Nat) (s : (List Bool) × Int) => fn69_l1 p0 n s.1 s.2) (fun (s : (List Bool) × Int) => ⟨[(0, .sl 0), (3, .sl 1), (4, .v (.int .i64 s.2))], [(0, .rd Instr.E p0), (1, .row Et.bool 4 s.1 s.1.length .unk)], 2⟩) (fun _ => rfl) (s0 := (List.replicate (p0.length : Int).toNat false, 0)) hl14 ?_)
  clear hl14
  rintro R18 n15 ⟨xs6, x7⟩ h ih16
  replace h := (fn69_l1_s p0 n15 xs6 x7).symm.trans h
  refine U_ tbOk 4 [] aN ?_
  refine C_ h (fun h hb19 => ?_) fun h hb19 => ?_
  ·obtain ⟨hk20, h⟩ := ck h
   obtain ⟨hk21, h⟩ := ck h
   refine U_ tbOk 9 [.se Et.bool _ true, .cl true [] (fun _ => c116 (gt p0 x7) _ rfl)] (aC hk20 (aR (aR (aC hk21 (aK aN))))) ?_
   refine C_ h (fun h hb22 => ?_) fun h hb22 => ?_
   ·refine U_ tbOk 6 [] aN ?_
    exact ih16 (xs6.set x7.toNat true, IntKind.i64.wrap ((IntKind.i64.wrap (x7 + 1)) + 1)) h _ _ (Imp.trans (Imp.row 1 (by rfl)) (I_ [0, 1]))
   ·refine U_ tbOk 3 [] aN ?_
    exact ih16 (xs6.set x7.toNat true, IntKind.i64.wrap (x7 + 1)) h _ _ (Imp.trans (Imp.row 1 (by rfl)) (I_ [0, 1]))
  ·refine U_ tbOk 0 [] aN ?_
   obtain rfl := sj h
   exact CE (I_ [0, 1])
 ·replace h := (fn69_k1_s o13).symm.trans h
  refine U_ tbOk 2 [] aN ?_
  obtain rfl := sj h
  exact T_ tbOk.t Tryz.results69 [0, 1]
def fn72 (p0 : Instr) : Int :=
 iand .u8 p0.fOp 240
theorem c72 (p0 : Instr) (r : Int) (h : fn72 p0 = r) : Con Tryz.prog 72 [.ag [.v (.int .u8 p0.fOp), .v (.int .u8 p0.fDst), .v (.int .u8 p0.fSrc), .v (.int .i16 p0.fOff), .v (.int .i32 p0.fImm)]] [] 0 (.v (.int .u8 r)) [] 0 := by
 rw [fn72] at h
 refine Con.of_body Tryz.func72 rfl Tryz.ntmps72 rfl fun w F0 ρ => ?_
 refine U_ tbOk 6 [] aN ?_
 subst h
 exact T_ tbOk.t Tryz.results72 []
def fn71 (p0 : Instr) : Int :=
 iand .u8 p0.fOp 7
theorem c71 (p0 : Instr) (r : Int) (h : fn71 p0 = r) : Con Tryz.prog 71 [.ag [.v (.int .u8 p0.fOp), .v (.int .u8 p0.fDst), .v (.int .u8 p0.fSrc), .v (.int .i16 p0.fOff), .v (.int .i32 p0.fImm)]] [] 0 (.v (.int .u8 r)) [] 0 := by
 rw [fn71] at h
 refine Con.of_body Tryz.func71 rfl Tryz.ntmps71 rfl fun w F0 ρ => ?_
 refine U_ tbOk 6 [] aN ?_
 subst h
 exact T_ tbOk.t Tryz.results71 []
def fn142 (p0 : Int) (p1 : Bool) : Bool :=
 ((iand .u8 p0 224) == 96) || ((p1 && ((iand .u8 p0 224) == 128)) && ((iand .u8 p0 24) != 24))
theorem c142 (p0 : Int) (p1 : Bool) (r : Bool) (h : fn142 p0 p1 = r) : Con Tryz.prog 142 [.v (.int .u8 p0), .v (.bool p1)] [] 0 (.v (.bool r)) [] 0 := by
 rw [fn142] at h
 refine Con.of_body Tryz.func142 rfl Tryz.ntmps142 rfl fun w F0 ρ => ?_
 refine U_ tbOk 21 [] aN ?_
 subst h
 exact T_ tbOk.t Tryz.results142 []
def fn124 (p0 : Instr) : Bool :=
 (iand .u8 p0.fOp 8) != 0
theorem c124 (p0 : Instr) (r : Bool) (h : fn124 p0 = r) : Con Tryz.prog 124 [.ag [.v (.int .u8 p0.fOp), .v (.int .u8 p0.fDst), .v (.int .u8 p0.fSrc), .v (.int .i16 p0.fOff), .v (.int .i32 p0.fImm)]] [] 0 (.v (.bool r)) [] 0 := by
 rw [fn124] at h
 refine Con.of_body Tryz.func124 rfl Tryz.ntmps124 rfl fun w F0 ρ => ?_
 refine U_ tbOk 7 [] aN ?_
 subst h
 exact T_ tbOk.t Tryz.results124 []
def fn143 (p0 : Int) : Bool :=
 ((decide ((16 : Int) ≤ p0)) && (decide (p0 ≤ 112))) || ((decide ((160 : Int) ≤ p0)) && (decide (p0 ≤ 208)))
theorem c143 (p0 : Int) (r : Bool) (h : fn143 p0 = r) : Con Tryz.prog 143 [.v (.int .u8 p0)] [] 0 (.v (.bool r)) [] 0 := by
 rw [fn143] at h
 refine Con.of_body Tryz.func143 rfl Tryz.ntmps143 rfl fun w F0 ρ => ?_
 refine U_ tbOk 16 [] aN ?_
 subst h
 exact T_ tbOk.t Tryz.results143 []
def fn117 (p0 : Instr) : Bool :=
 bif (fn71 p0) == 0 then (fn116 p0) else (bif (fn71 p0) == 1 then (fn142 p0.fOp true) else (bif (fn71 p0) == 2 then (fn142 p0.fOp false) else (bif (fn71 p0) == 3 then (fn142 p0.fOp false) else (bif (fn71 p0) == 4 then (bif (fn72 p0) == 128 then (!(fn124 p0)) else (bif (fn72 p0) == 208 then ((!(fn124 p0)) || ((fn71 p0) == 4)) else (decide ((fn72 p0) < 208)))) else (bif (fn71 p0) == 7 then (bif (fn72 p0) == 128 then (!(fn124 p0)) else (bif (fn72 p0) == 208 then ((!(fn124 p0)) || ((fn71 p0) == 4)) else (decide ((fn72 p0) < 208)))) else (bif (fn71 p0) == 5 then ((fn143 (fn72 p0)) || (((((fn72 p0) == 0) || ((fn72 p0) == 128)) || ((fn72 p0) == 144)) && (!(fn124 p0)))) else ((fn143 (fn72 p0)) || (((fn72 p0) == 0) && (!(fn124 p0))))))))))
theorem c117 (p0 : Instr) (r : Bool) (h : fn117 p0 = r) : Con Tryz.prog 117 [.ag [.v (.int .u8 p0.fOp), .v (.int .u8 p0.fDst), .v (.int .u8 p0.fSrc), .v (.int .i16 p0.fOff), .v (.int .i32 p0.fImm)]] [] 0 (.v (.bool r)) [] 0 := by
 rw [fn117] at h
 refine Con.of_body Tryz.func117 rfl Tryz.ntmps117 rfl fun w F0 ρ => ?_
 refine U_ tbOk 9 [.cl true [] (fun _ => c72 p0 _ rfl), .cl true [] (fun _ => c71 p0 _ rfl)] (aK (aK aN)) ?_
 refine C_ h (fun h hb1 => ?_) fun h hb1 => ?_
 ·refine U_ tbOk 3 [.cl true [] (fun _ => c116 p0 _ rfl)] (aK aN) ?_
  subst h
  exact T_ tbOk.t Tryz.results117 []
 ·refine U_ tbOk 2 [] aN ?_
  refine C_ h (fun h hb2 => ?_) fun h hb2 => ?_
  ·refine U_ tbOk 4 [.cl true [] (fun _ => c142 p0.fOp true _ rfl)] (aK aN) ?_
   subst h
   exact T_ tbOk.t Tryz.results117 []
  ·refine U_ tbOk 2 [] aN ?_
   refine C_ h (fun h hb3 => ?_) fun h hb3 => ?_
   ·refine U_ tbOk 0 [] aN ?_
    refine CDT hb3 (by rfl) ?_
    refine U_ tbOk 4 [.cl true [] (fun _ => c142 p0.fOp false _ rfl)] (aK aN) ?_
    subst h
    exact T_ tbOk.t Tryz.results117 []
   ·refine U_ tbOk 2 [] aN ?_
    refine C_ h (fun h hb4 => ?_) fun h hb4 => ?_
    ·refine U_ tbOk 4 [.cl true [] (fun _ => c142 p0.fOp false _ rfl)] (aK aN) ?_
     subst h
     exact T_ tbOk.t Tryz.results117 []
    ·refine U_ tbOk 2 [] aN ?_
     refine C_ h (fun h hb5 => ?_) fun h hb5 => ?_
     ·refine U_ tbOk 0 [] aN ?_
      refine CDT hb5 (by rfl) ?_
      refine U_ tbOk 3 [] aN ?_
      refine C_ h (fun h hb6 => ?_) fun h hb6 => ?_
      ·refine U_ tbOk 4 [.cl true [] (fun _ => c124 p0 _ rfl)] (aK aN) ?_
       subst h
       exact T_ tbOk.t Tryz.results117 []
      ·refine U_ tbOk 2 [] aN ?_
       refine C_ h (fun h hb7 => ?_) fun h hb7 => ?_
       ·refine U_ tbOk 9 [.cl true [] (fun _ => c124 p0 _ rfl), .cl (bif !(fn124 p0) then false else true) [] (fun _ => c71 p0 _ rfl)] (aK (aR (aR (aK aN)))) ?_
        subst h
        exact T_ tbOk.t Tryz.results117 []
       ·refine U_ tbOk 3 [] aN ?_
        subst h
        exact T_ tbOk.t Tryz.results117 []
     ·refine U_ tbOk 2 [] aN ?_
      refine C_ h (fun h hb8 => ?_) fun h hb8 => ?_
      ·refine U_ tbOk 3 [] aN ?_
       refine C_ h (fun h hb9 => ?_) fun h hb9 => ?_
       ·refine U_ tbOk 4 [.cl true [] (fun _ => c124 p0 _ rfl)] (aK aN) ?_
        subst h
        exact T_ tbOk.t Tryz.results117 []
       ·refine U_ tbOk 2 [] aN ?_
        refine C_ h (fun h hb10 => ?_) fun h hb10 => ?_
        ·refine U_ tbOk 9 [.cl true [] (fun _ => c124 p0 _ rfl), .cl (bif !(fn124 p0) then false else true) [] (fun _ => c71 p0 _ rfl)] (aK (aR (aR (aK aN)))) ?_
         subst h
         exact T_ tbOk.t Tryz.results117 []
        ·refine U_ tbOk 3 [] aN ?_
         subst h
         exact T_ tbOk.t Tryz.results117 []
      ·refine U_ tbOk 2 [] aN ?_
       refine C_ h (fun h hb11 => ?_) fun h hb11 => ?_
       ·refine U_ tbOk 20 [.cl true [] (fun _ => c143 (fn72 p0) _ rfl), .cl (bif (fn143 (fn72 p0)) then false else (bif (((fn72 p0) == 0) || ((fn72 p0) == 128)) || ((fn72 p0) == 144) then true else false)) [] (fun _ => c124 p0 _ rfl)] (aK (aR (aR (aK aN)))) ?_
        subst h
        exact T_ tbOk.t Tryz.results117 []
       ·refine U_ tbOk 12 [.cl true [] (fun _ => c143 (fn72 p0) _ rfl), .cl (bif (fn143 (fn72 p0)) then false else (bif (fn72 p0) == 0 then true else false)) [] (fun _ => c124 p0 _ rfl)] (aK (aR (aR (aK aN)))) ?_
        subst h
        exact T_ tbOk.t Tryz.results117 []
def fn118 (p0 : Instr) : Bool :=
 ((((fn71 p0) == 0) || ((fn71 p0) == 1)) || ((fn71 p0) == 4)) || ((fn71 p0) == 7)
theorem c118 (p0 : Instr) (r : Bool) (h : fn118 p0 = r) : Con Tryz.prog 118 [.ag [.v (.int .u8 p0.fOp), .v (.int .u8 p0.fDst), .v (.int .u8 p0.fSrc), .v (.int .i16 p0.fOff), .v (.int .i32 p0.fImm)]] [] 0 (.v (.bool r)) [] 0 := by
 rw [fn118] at h
 refine Con.of_body Tryz.func118 rfl Tryz.ntmps118 rfl fun w F0 ρ => ?_
 refine U_ tbOk 20 [.cl true [] (fun _ => c71 p0 _ rfl)] (aK aN) ?_
 subst h
 exact T_ tbOk.t Tryz.results118 []
def fn144 (p0 : Instr) : Bool :=
 bif (fn72 p0) == 208 then (((p0.fSrc == 0) && (p0.fOff == 0)) && (((p0.fImm == 16) || (p0.fImm == 32)) || (p0.fImm == 64))) else (bif (((fn124 p0) && (p0.fImm != 0)) || ((!(fn124 p0)) && (p0.fSrc != 0))) || (((fn72 p0) == 128) && (p0.fImm != 0)) then false else (bif (fn72 p0) == 48 then ((p0.fOff == 0) || (p0.fOff == 1)) else (bif (fn72 p0) == 144 then ((p0.fOff == 0) || (p0.fOff == 1)) else (bif (fn72 p0) == 176 then ((p0.fOff == 0) || ((fn124 p0) && (((p0.fOff == 8) || (p0.fOff == 16)) || ((p0.fOff == 32) && ((fn71 p0) == 7))))) else (p0.fOff == 0)))))
theorem c144 (p0 : Instr) (r : Bool) (h : fn144 p0 = r) : Con Tryz.prog 144 [.ag [.v (.int .u8 p0.fOp), .v (.int .u8 p0.fDst), .v (.int .u8 p0.fSrc), .v (.int .i16 p0.fOff), .v (.int .i32 p0.fImm)]] [] 0 (.v (.bool r)) [] 0 := by
 rw [fn144] at h
 refine Con.of_body Tryz.func144 rfl Tryz.ntmps144 rfl fun w F0 ρ => ?_
 refine U_ tbOk 7 [.cl true [] (fun _ => c72 p0 _ rfl)] (aK aN) ?_
 refine C_ h (fun h hb1 => ?_) fun h hb1 => ?_
 ·refine U_ tbOk 24 [] aN ?_
  subst h
  exact T_ tbOk.t Tryz.results144 []
 ·refine U_ tbOk 26 [.cl true [] (fun _ => c124 p0 _ rfl), .cl (bif (fn124 p0) && (p0.fImm != 0) then false else true) [] (fun _ => c124 p0 _ rfl)] (aK (aR (aR (aK aN)))) ?_
  refine C_ h (fun h hb2 => ?_) fun h hb2 => ?_
  ·refine U_ tbOk 1 [] aN ?_
   subst h
   exact T_ tbOk.t Tryz.results144 []
  ·refine U_ tbOk 3 [] aN ?_
   refine C_ h (fun h hb3 => ?_) fun h hb3 => ?_
   ·refine U_ tbOk 0 [] aN ?_
    refine CDT hb3 (by rfl) ?_
    refine U_ tbOk 9 [] aN ?_
    subst h
    exact T_ tbOk.t Tryz.results144 []
   ·refine U_ tbOk 2 [] aN ?_
    refine C_ h (fun h hb4 => ?_) fun h hb4 => ?_
    ·refine U_ tbOk 9 [] aN ?_
     subst h
     exact T_ tbOk.t Tryz.results144 []
    ·refine U_ tbOk 2 [] aN ?_
     refine C_ h (fun h hb5 => ?_) fun h hb5 => ?_
     ·refine U_ tbOk 28 [.cl (bif p0.fOff == 0 then false else true) [] (fun _ => c124 p0 _ rfl), .cl (bif p0.fOff == 0 then false else (bif (fn124 p0) then (bif (p0.fOff == 8) || (p0.fOff == 16) then false else (bif p0.fOff == 32 then true else false)) else false)) [] (fun _ => c71 p0 _ rfl)] (aR (aR (aK (aR (aR (aK aN)))))) ?_
      subst h
      exact T_ tbOk.t Tryz.results144 []
     ·refine U_ tbOk 4 [] aN ?_
      subst h
      exact T_ tbOk.t Tryz.results144 []
def fn145 (p0 : Instr) : Bool :=
 bif (fn143 (fn72 p0)) then (((fn124 p0) && (p0.fImm == 0)) || ((!(fn124 p0)) && (p0.fSrc == 0))) else (bif (p0.fDst != 0) || (p0.fSrc != 0) then false else (bif ((fn72 p0) == 0) && ((fn71 p0) == 5) then (p0.fImm == 0) else (bif (fn72 p0) == 0 then (p0.fOff == 0) else (bif (fn72 p0) == 128 then ((p0.fOff == 0) && (decide ((1 : Int) ≤ p0.fImm))) else ((p0.fOff == 0) && (p0.fImm == 0))))))
theorem c145 (p0 : Instr) (r : Bool) (h : fn145 p0 = r) : Con Tryz.prog 145 [.ag [.v (.int .u8 p0.fOp), .v (.int .u8 p0.fDst), .v (.int .u8 p0.fSrc), .v (.int .i16 p0.fOff), .v (.int .i32 p0.fImm)]] [] 0 (.v (.bool r)) [] 0 := by
 rw [fn145] at h
 refine Con.of_body Tryz.func145 rfl Tryz.ntmps145 rfl fun w F0 ρ => ?_
 refine U_ tbOk 7 [.cl true [] (fun _ => c72 p0 _ rfl), .cl true [] (fun _ => c143 (fn72 p0) _ rfl)] (aK (aK aN)) ?_
 refine C_ h (fun h hb1 => ?_) fun h hb1 => ?_
 ·refine U_ tbOk 18 [.cl true [] (fun _ => c124 p0 _ rfl), .cl (bif (fn124 p0) && (p0.fImm == 0) then false else true) [] (fun _ => c124 p0 _ rfl)] (aK (aR (aR (aK aN)))) ?_
  subst h
  exact T_ tbOk.t Tryz.results145 []
 ·refine U_ tbOk 8 [] aN ?_
  refine C_ h (fun h hb2 => ?_) fun h hb2 => ?_
  ·refine U_ tbOk 1 [] aN ?_
   subst h
   exact T_ tbOk.t Tryz.results145 []
  ·refine U_ tbOk 8 [.cl (bif (fn72 p0) == 0 then true else false) [] (fun _ => c71 p0 _ rfl)] (aR (aR (aK aN))) ?_
   refine C_ h (fun h hb3 => ?_) fun h hb3 => ?_
   ·refine U_ tbOk 4 [] aN ?_
    subst h
    exact T_ tbOk.t Tryz.results145 []
   ·refine U_ tbOk 3 [] aN ?_
    refine C_ h (fun h hb4 => ?_) fun h hb4 => ?_
    ·refine U_ tbOk 4 [] aN ?_
     subst h
     exact T_ tbOk.t Tryz.results145 []
    ·refine U_ tbOk 3 [] aN ?_
     refine C_ h (fun h hb5 => ?_) fun h hb5 => ?_
     ·refine U_ tbOk 9 [] aN ?_
      subst h
      exact T_ tbOk.t Tryz.results145 []
     ·refine U_ tbOk 9 [] aN ?_
      subst h
      exact T_ tbOk.t Tryz.results145 []
def fn119 (p0 : Instr) : Bool :=
 bif (fn71 p0) == 0 then ((p0.fOff == 0) && ((p0.fSrc == 0) || ((p0.fSrc == 1) && (decide ((0 : Int) ≤ p0.fImm))))) else (bif (fn71 p0) == 1 then (p0.fImm == 0) else (bif (fn71 p0) == 3 then (p0.fImm == 0) else (bif (fn71 p0) == 2 then (p0.fSrc == 0) else (bif (fn71 p0) == 4 then (fn144 p0) else (bif (fn71 p0) == 7 then (fn144 p0) else (fn145 p0))))))
theorem c119 (p0 : Instr) (r : Bool) (h : fn119 p0 = r) : Con Tryz.prog 119 [.ag [.v (.int .u8 p0.fOp), .v (.int .u8 p0.fDst), .v (.int .u8 p0.fSrc), .v (.int .i16 p0.fOff), .v (.int .i32 p0.fImm)]] [] 0 (.v (.bool r)) [] 0 := by
 rw [fn119] at h
 refine Con.of_body Tryz.func119 rfl Tryz.ntmps119 rfl fun w F0 ρ => ?_
 refine U_ tbOk 6 [.cl true [] (fun _ => c71 p0 _ rfl)] (aK aN) ?_
 refine C_ h (fun h hb1 => ?_) fun h hb1 => ?_
 ·refine U_ tbOk 19 [] aN ?_
  subst h
  exact T_ tbOk.t Tryz.results119 []
 ·refine U_ tbOk 2 [] aN ?_
  refine C_ h (fun h hb2 => ?_) fun h hb2 => ?_
  ·refine U_ tbOk 0 [] aN ?_
   refine CDT hb2 (by rfl) ?_
   refine U_ tbOk 4 [] aN ?_
   subst h
   exact T_ tbOk.t Tryz.results119 []
  ·refine U_ tbOk 2 [] aN ?_
   refine C_ h (fun h hb3 => ?_) fun h hb3 => ?_
   ·refine U_ tbOk 4 [] aN ?_
    subst h
    exact T_ tbOk.t Tryz.results119 []
   ·refine U_ tbOk 2 [] aN ?_
    refine C_ h (fun h hb4 => ?_) fun h hb4 => ?_
    ·refine U_ tbOk 4 [] aN ?_
     subst h
     exact T_ tbOk.t Tryz.results119 []
    ·refine U_ tbOk 2 [] aN ?_
     refine C_ h (fun h hb5 => ?_) fun h hb5 => ?_
     ·refine U_ tbOk 0 [] aN ?_
      refine CDT hb5 (by rfl) ?_
      refine U_ tbOk 3 [.cl true [] (fun _ => c144 p0 _ rfl)] (aK aN) ?_
      subst h
      exact T_ tbOk.t Tryz.results119 []
     ·refine U_ tbOk 2 [] aN ?_
      refine C_ h (fun h hb6 => ?_) fun h hb6 => ?_
      ·refine U_ tbOk 3 [.cl true [] (fun _ => c144 p0 _ rfl)] (aK aN) ?_
       subst h
       exact T_ tbOk.t Tryz.results119 []
      ·refine U_ tbOk 3 [.cl true [] (fun _ => c145 p0 _ rfl)] (aK aN) ?_
       subst h
       exact T_ tbOk.t Tryz.results119 []
def fn120 (p0 : Instr) (p1 : Int) : Int × Bool :=
 bif ((((fn71 p0) != 5) && ((fn71 p0) != 6)) || ((fn72 p0) == 128)) || ((fn72 p0) == 144) then (0, false) else (bif ((fn72 p0) == 0) && ((fn71 p0) == 6) then (IntKind.i64.wrap ((IntKind.i64.wrap (p1 + 1)) + (IntKind.i64.wrap p0.fImm)), true) else (IntKind.i64.wrap ((IntKind.i64.wrap (p1 + 1)) + (IntKind.i64.wrap p0.fOff)), true))
theorem c120 (p0 : Instr) (p1 : Int) (r : Int × Bool) (h : fn120 p0 p1 = r) : Con Tryz.prog 120 [.ag [.v (.int .u8 p0.fOp), .v (.int .u8 p0.fDst), .v (.int .u8 p0.fSrc), .v (.int .i16 p0.fOff), .v (.int .i32 p0.fImm)], .v (.int .i64 p1)] [] 0 (.tu [.v (.int .i64 r.1), .v (.bool r.2)]) [] 0 := by
 rw [fn120] at h
 refine Con.of_body Tryz.func120 rfl Tryz.ntmps120 rfl fun w F0 ρ => ?_
 refine U_ tbOk 3 [] aN ?_
 refine DR tbOk hmix [6, 7] [([0], []), ([], []), ([0], []), ([], []), ([], []), ([], [])] [.cl true [] (fun _ => c71 p0 _ rfl), .cl true [] (fun _ => c72 p0 _ rfl)] (aR (aK (aR (aK aN)))) (by rfl) ?_
 refine U_ tbOk 14 [] aN ?_
 refine C_ h (fun h hb1 => ?_) fun h hb1 => ?_
 ·refine U_ tbOk 2 [] aN ?_
  subst h
  exact T_ tbOk.t Tryz.results120 []
 ·refine U_ tbOk 6 [] aN ?_
  refine C_ h (fun h hb2 => ?_) fun h hb2 => ?_
  ·refine U_ tbOk 8 [] aN ?_
   subst h
   exact T_ tbOk.t Tryz.results120 []
  ·refine U_ tbOk 8 [] aN ?_
   subst h
   exact T_ tbOk.t Tryz.results120 []
def fn70 (p0 : List Instr) (p1 : List Bool) (p2 : Int) : Option (Int) :=
 bif inb p2 p0.length then (bif !(fn117 (gt p0 p2)) then (some 20) else (bif ((decide ((10 : Int) < ((gt p0 p2).fDst))) || (decide ((10 : Int) < ((gt p0 p2).fSrc)))) || ((((gt p0 p2).fDst) == 10) && (fn118 (gt p0 p2))) then (some 21) else (bif !(fn119 (gt p0 p2)) then (some 22) else (bif (fn116 (gt p0 p2)) then (bif decide ((p0.length : Int) ≤ (IntKind.i64.wrap (p2 + 1))) then (some 23) else (bif inb (IntKind.i64.wrap (p2 + 1)) p0.length then (bif bif !((((gt p0 (IntKind.i64.wrap (p2 + 1))).fOp) == 0) && ((((gt p0 (IntKind.i64.wrap (p2 + 1))).fDst) == 0) && ((((gt p0 (IntKind.i64.wrap (p2 + 1))).fSrc) == 0) && ((((gt p0 (IntKind.i64.wrap (p2 + 1))).fOff) == 0) && (((0 : Int) == 0) && true))))) then true else (bif ((gt p0 p2).fSrc) == 1 then (inb (IntKind.i64.wrap (p2 + 1)) p0.length) else true) then (bif (!((((gt p0 (IntKind.i64.wrap (p2 + 1))).fOp) == 0) && ((((gt p0 (IntKind.i64.wrap (p2 + 1))).fDst) == 0) && ((((gt p0 (IntKind.i64.wrap (p2 + 1))).fSrc) == 0) && ((((gt p0 (IntKind.i64.wrap (p2 + 1))).fOff) == 0) && (((0 : Int) == 0) && true)))))) || ((((gt p0 p2).fSrc) == 1) && (((gt p0 (IntKind.i64.wrap (p2 + 1))).fImm) != 0)) then (some 22) else (bif bif (fn120 (gt p0 p2) p2).2 then (bif (decide (((fn120 (gt p0 p2) p2).1) < 0)) || (decide ((p0.length : Int) ≤ ((fn120 (gt p0 p2) p2).1))) then true else (inb ((fn120 (gt p0 p2) p2).1) p1.length)) else true then (bif ((fn120 (gt p0 p2) p2).2) && (((decide (((fn120 (gt p0 p2) p2).1) < 0)) || (decide ((p0.length : Int) ≤ ((fn120 (gt p0 p2) p2).1)))) || (!(gt p1 ((fn120 (gt p0 p2) p2).1)))) then (some 23) else (some 0)) else none)) else none) else none)) else (bif bif (fn120 (gt p0 p2) p2).2 then (bif (decide (((fn120 (gt p0 p2) p2).1) < 0)) || (decide ((p0.length : Int) ≤ ((fn120 (gt p0 p2) p2).1))) then true else (inb ((fn120 (gt p0 p2) p2).1) p1.length)) else true then (bif ((fn120 (gt p0 p2) p2).2) && (((decide (((fn120 (gt p0 p2) p2).1) < 0)) || (decide ((p0.length : Int) ≤ ((fn120 (gt p0 p2) p2).1)))) || (!(gt p1 ((fn120 (gt p0 p2) p2).1)))) then (some 23) else (some 0)) else none))))) else none
theorem c70 (p0 : List Instr) (p1 : List Bool) (p2 : Int) (r : Int) (h : fn70 p0 p1 p2 = some r) : Con Tryz.prog 70 [.sl 0, .sl 1, .v (.int .i64 p2)] [(0, .rd Instr.E p0), (1, .rd Et.bool p1)] 2 (.v (.int .i64 r)) [] 2 := by
 rw [fn70] at h
 refine Con.of_body Tryz.func70 rfl Tryz.ntmps70 rfl fun w F0 ρ => ?_
 obtain ⟨hk1, h⟩ := ck h
 refine U_ tbOk 10 [.cl true [] (fun _ => c117 (gt p0 p2) _ rfl)] (aC hk1 (aK aN)) ?_
 refine C_ h (fun h hb2 => ?_) fun h hb2 => ?_
 ·refine U_ tbOk 1 [] aN ?_
  obtain rfl := sj h
  exact T_ tbOk.t Tryz.results70 [0, 1]
 ·refine U_ tbOk 17 [.cl (bif (decide ((10 : Int) < ((gt p0 p2).fDst))) || (decide ((10 : Int) < ((gt p0 p2).fSrc))) then false else (bif ((gt p0 p2).fDst) == 10 then true else false)) [] (fun _ => c118 (gt p0 p2) _ rfl)] (aR (aR (aK aN))) ?_
  refine C_ h (fun h hb3 => ?_) fun h hb3 => ?_
  ·refine U_ tbOk 1 [] aN ?_
   obtain rfl := sj h
   exact T_ tbOk.t Tryz.results70 [0, 1]
  ·refine U_ tbOk 3 [.cl true [] (fun _ => c119 (gt p0 p2) _ rfl)] (aK aN) ?_
   refine C_ h (fun h hb4 => ?_) fun h hb4 => ?_
   ·refine U_ tbOk 1 [] aN ?_
    obtain rfl := sj h
    exact T_ tbOk.t Tryz.results70 [0, 1]
   ·refine U_ tbOk 2 [.cl true [] (fun _ => c116 (gt p0 p2) _ rfl)] (aK aN) ?_
    refine C_ h (fun h hb5 => ?_) fun h hb5 => ?_
    ·refine U_ tbOk 5 [] aN ?_
     refine C_ h (fun h hb6 => ?_) fun h hb6 => ?_
     ·refine U_ tbOk 1 [] aN ?_
      obtain rfl := sj h
      exact T_ tbOk.t Tryz.results70 [0, 1]
     ·obtain ⟨hk7, h⟩ := ck h
      obtain ⟨hk8, h⟩ := ck h
      refine U_ tbOk 26 [] (aC hk7 (aC hk8 aN)) ?_
      refine C_ h (fun h hb9 => ?_) fun h hb9 => ?_
      ·refine U_ tbOk 1 [] aN ?_
       obtain rfl := sj h
       exact T_ tbOk.t Tryz.results70 [0, 1]
      ·obtain ⟨hk10, h⟩ := ck h
       refine U_ tbOk 26 [.cl true [] (fun _ => c120 (gt p0 p2) p2 _ rfl)] (aK (aC hk10 aN)) ?_
       refine C_ h (fun h hb11 => ?_) fun h hb11 => ?_
       ·refine U_ tbOk 1 [] aN ?_
        obtain rfl := sj h
        exact T_ tbOk.t Tryz.results70 [0, 1]
       ·refine U_ tbOk 1 [] aN ?_
        obtain rfl := sj h
        exact T_ tbOk.t Tryz.results70 [0, 1]
    ·obtain ⟨hk12, h⟩ := ck h
     refine U_ tbOk 26 [.cl true [] (fun _ => c120 (gt p0 p2) p2 _ rfl)] (aK (aC hk12 aN)) ?_
     refine C_ h (fun h hb13 => ?_) fun h hb13 => ?_
     ·refine U_ tbOk 1 [] aN ?_
      obtain rfl := sj h
      exact T_ tbOk.t Tryz.results70 [0, 1]
     ·refine U_ tbOk 1 [] aN ?_
      obtain rfl := sj h
      exact T_ tbOk.t Tryz.results70 [0, 1]
def fn28_l1 (p0 : List Instr) (v2 : (List Bool)) : Nat → Int → Int → Option ((Int) ⊕ ((Int × Int)))
 | 0, _, _ => none
 | n28 + 1, x17, x18 => bif decide (x18 < (p0.length : Int)) then (bif inb x18 v2.length then (bif !(gt v2 x18) then ((fn28_l1 p0 v2 n28) x17 (IntKind.i64.wrap (x18 + 1))) else (Option.bind (fn70 p0 v2 x18) fun v35 => (bif v35 != 0 then (some (.inr (x18, v35))) else ((fn28_l1 p0 v2 n28) x18 (IntKind.i64.wrap (x18 + 1)))))) else none) else (some (.inl x17))
theorem fn28_l1_s (p0 : List Instr) (v2 : (List Bool)) (n28 : Nat) (x17 : Int) (x18 : Int) : fn28_l1 p0 v2 (n28 + 1) x17 x18 = bif decide (x18 < (p0.length : Int)) then (bif inb x18 v2.length then (bif !(gt v2 x18) then ((fn28_l1 p0 v2 n28) x17 (IntKind.i64.wrap (x18 + 1))) else (Option.bind (fn70 p0 v2 x18) fun v35 => (bif v35 != 0 then (some (.inr (x18, v35))) else ((fn28_l1 p0 v2 n28) x18 (IntKind.i64.wrap (x18 + 1)))))) else none) else (some (.inl x17)) := rfl
def fn28_k1 (p0 : List Instr) (x25 : Int) : Option ((Int × Int)) :=
 bif inb x25 p0.length then (bif (((fn71 (gt p0 x25)) == 5) && (((fn72 (gt p0 x25)) == 144) || ((fn72 (gt p0 x25)) == 0))) || (((fn71 (gt p0 x25)) == 6) && ((fn72 (gt p0 x25)) == 0)) then (some (0, 0)) else (some (IntKind.i64.wrap ((p0.length : Int) - 1), 24))) else none
theorem fn28_k1_s (p0 : List Instr) (x25 : Int) : fn28_k1 p0 x25 = bif inb x25 p0.length then (bif (((fn71 (gt p0 x25)) == 5) && (((fn72 (gt p0 x25)) == 144) || ((fn72 (gt p0 x25)) == 0))) || (((fn71 (gt p0 x25)) == 6) && ((fn72 (gt p0 x25)) == 0)) then (some (0, 0)) else (some (IntKind.i64.wrap ((p0.length : Int) - 1), 24))) else none := rfl
def fn28 (F : Nat) (p0 : List Instr) : Option (Int × Int) :=
 bif ((p0.length : Int) == 0) || (decide ((4096 : Int) < (p0.length : Int))) then (some (0, 3)) else (Option.bind (fn69 F p0) fun v2 => (Option.bind (fn28_l1 p0 v2 F 0 0) fun o26 => (match o26 with | .inl u => fn28_k1 p0 u | .inr u => some u)))
theorem c28 (F : Nat) (p0 : List Instr) (r : Int × Int) (h : fn28 F p0 = some r) : Con Tryz.prog 28 [.sl 0] [(0, .rd Instr.E p0)] 1 (.tu [.v (.int .i64 r.1), .v (.int .i64 r.2)]) [] 1 := by
 rw [fn28] at h
 refine Con.of_body Tryz.func28 rfl Tryz.ntmps28 rfl fun w F0 ρ => ?_
 refine U_ tbOk 10 [] aN ?_
 refine C_ h (fun h hb1 => ?_) fun h hb1 => ?_
 ·refine U_ tbOk 2 [] aN ?_
  obtain rfl := sj h
  exact T_ tbOk.t Tryz.results28 [0]
 ·obtain ⟨v2, hv3, h⟩ := bd h
  refine U_ tbOk 5 [.cl true [0] (fun _ => c69 F p0 _ hv3)] (aK aN) ?_
  obtain ⟨o26, hl27, h⟩ := bd h
  refine CTS 0 (fun u => ⟨[(0, .sl 0), (5, .v (.int .i64 u))], [(0, .rd Instr.E p0)], 1⟩) o26 ?_ (fun u hu => ?_)
  ·have h030 := h
   clear h
   refine G4.imp (I_ [0, 1]) (LP (fun (n : Nat) (s : Int × Int) => fn28_l1 p0 v2 n s.1 s.2) (fun (s : Int × Int) => ⟨[(0, .sl 0), (4, .sl 1), (5, .v (.int .i64 s.1)), (6, .v (.int .i64 s.2))], [(0, .rd Instr.E p0), (1, .row Et.bool 4 v2 v2.length .unk)], 2⟩) (fun _ => rfl) (s0 := (0, 0)) hl27 ?_)
   clear hl27
   rintro R31 n28 ⟨x17, x18⟩ h ih29
   replace h := (fn28_l1_s p0 v2 n28 x17 x18).symm.trans h
   refine U_ tbOk 4 [] aN ?_
   refine C_ h (fun h hb32 => ?_) fun h hb32 => ?_
   ·obtain ⟨hk33, h⟩ := ck h
    refine U_ tbOk 5 [] (aC hk33 aN) ?_
    refine C_ h (fun h hb34 => ?_) fun h hb34 => ?_
    ·refine U_ tbOk 3 [] aN ?_
     exact ih29 (x17, IntKind.i64.wrap (x18 + 1)) h _ _ (I_ [0, 1])
    ·obtain ⟨v35, hv36, h⟩ := bd h
     refine U_ tbOk 7 [.cl true [0, 1] (fun _ => c70 p0 v2 x18 _ hv36)] (aK aN) ?_
     refine C_ h (fun h hb37 => ?_) fun h hb37 => ?_
     ·refine U_ tbOk 4 [] aN ?_
      obtain rfl := sj h
      replace h := h030
      refine U_ tbOk 0 [] aN ?_
      obtain rfl := sj h
      exact T_ tbOk.t Tryz.results28 [0]
     ·refine U_ tbOk 5 [] aN ?_
      exact ih29 (x18, IntKind.i64.wrap (x18 + 1)) h _ _ (I_ [0, 1])
   ·refine U_ tbOk 0 [] aN ?_
    obtain rfl := sj h
    exact CES _ rfl (I_ [0])
  ·subst hu
   replace h := (fn28_k1_s p0 u).symm.trans h
   refine U_ tbOk 0 [] aN ?_
   obtain ⟨hk38, h⟩ := ck h
   refine DR tbOk hmix [8, 9] [([], []), ([], []), ([0], []), ([0], []), ([], []), ([], []), ([], []), ([0], []), ([0], []), ([], []), ([], []), ([], [])] [.cl true [] (fun _ => c71 (gt p0 u) _ rfl), .cl true [] (fun _ => c72 (gt p0 u) _ rfl)] (aR (aC hk38 (aR (aK (aR (aC hk38 (aR (aK aN)))))))) (by rfl) ?_
   refine U_ tbOk 18 [] aN ?_
   refine C_ h (fun h hb39 => ?_) fun h hb39 => ?_
   ·refine U_ tbOk 2 [] aN ?_
    obtain rfl := sj h
    exact T_ tbOk.t Tryz.results28 [0]
   ·refine U_ tbOk 5 [] aN ?_
    obtain rfl := sj h
    exact T_ tbOk.t Tryz.results28 [0]
def fn73_l1 (p0 : ByteArray) : Nat → Int → Option ((Unit) ⊕ (Bool))
 | 0, _ => none
 | n10 + 1, x4 => bif decide (x4 < (p0.size : Int)) then (bif inb x4 p0.size then (bif !(((((decide ((97 : Int) ≤ (bget p0 x4))) && (decide ((bget p0 x4) ≤ 122))) || ((decide ((48 : Int) ≤ (bget p0 x4))) && (decide ((bget p0 x4) ≤ 57)))) || ((bget p0 x4) == 95)) || ((bget p0 x4) == 46)) then (some (.inr false)) else ((fn73_l1 p0 n10) (IntKind.i64.wrap (x4 + 1)))) else none) else (some (.inl ()))
theorem fn73_l1_s (p0 : ByteArray) (n10 : Nat) (x4 : Int) : fn73_l1 p0 (n10 + 1) x4 = bif decide (x4 < (p0.size : Int)) then (bif inb x4 p0.size then (bif !(((((decide ((97 : Int) ≤ (bget p0 x4))) && (decide ((bget p0 x4) ≤ 122))) || ((decide ((48 : Int) ≤ (bget p0 x4))) && (decide ((bget p0 x4) ≤ 57)))) || ((bget p0 x4) == 95)) || ((bget p0 x4) == 46)) then (some (.inr false)) else ((fn73_l1 p0 n10) (IntKind.i64.wrap (x4 + 1)))) else none) else (some (.inl ())) := rfl
def fn73_k1 (p0 : ByteArray) : Option (Bool) :=
 some ((decide ((1 : Int) ≤ (p0.size : Int))) && (decide ((p0.size : Int) ≤ 24)))
theorem fn73_k1_s (p0 : ByteArray) : fn73_k1 p0 = some ((decide ((1 : Int) ≤ (p0.size : Int))) && (decide ((p0.size : Int) ≤ 24))) := rfl
def fn73 (F : Nat) (p0 : ByteArray) : Option (Bool) :=
 Option.bind (fn73_l1 p0 F 0) fun o8 => (match o8 with | .inl u => fn73_k1 p0 | .inr u => some u)
theorem c73 (F : Nat) (p0 : ByteArray) (r : Bool) (h : fn73 F p0 = some r) : Con Tryz.prog 73 [.v (.string p0)] [] 0 (.v (.bool r)) [] 0 := by
 rw [fn73] at h
 refine Con.of_body Tryz.func73 rfl Tryz.ntmps73 rfl fun w F0 ρ => ?_
 refine U_ tbOk 2 [] aN ?_
 obtain ⟨o8, hl9, h⟩ := bd h
 refine CTS 0 (fun u => ⟨[(0, .v (.string p0))], [], 0⟩) o8 ?_ (fun u hu => ?_)
 ·have h012 := h
  clear h
  refine G4.imp (I_ []) (LP (fun (n : Nat) (s : Int) => fn73_l1 p0 n s) (fun (s : Int) => ⟨[(0, .v (.string p0)), (3, .v (.int .i64 s))], [], 0⟩) (fun _ => rfl) (s0 := 0) hl9 ?_)
  clear hl9
  rintro R13 n10 x4 h ih11
  replace h := (fn73_l1_s p0 n10 x4).symm.trans h
  refine U_ tbOk 4 [] aN ?_
  refine C_ h (fun h hb14 => ?_) fun h hb14 => ?_
  ·obtain ⟨hk15, h⟩ := ck h
   refine U_ tbOk 27 [] (aC hk15 aN) ?_
   refine C_ h (fun h hb16 => ?_) fun h hb16 => ?_
   ·refine U_ tbOk 1 [] aN ?_
    obtain rfl := sj h
    replace h := h012
    refine U_ tbOk 0 [] aN ?_
    obtain rfl := sj h
    exact T_ tbOk.t Tryz.results73 []
   ·refine U_ tbOk 3 [] aN ?_
    exact ih11 (IntKind.i64.wrap (x4 + 1)) h _ _ (I_ [])
  ·refine U_ tbOk 0 [] aN ?_
   obtain rfl := sj h
   exact CES _ rfl (I_ [])
 ·subst hu
  replace h := (fn73_k1_s p0).symm.trans h
  refine U_ tbOk 9 [] aN ?_
  obtain rfl := sj h
  exact T_ tbOk.t Tryz.results73 []
def fn74 (p0 : Int) (p1 : Int) (p2 : Int) : Bool :=
 (decide (p1 ≤ p0)) && (decide (p0 ≤ p2))
theorem c74 (p0 : Int) (p1 : Int) (p2 : Int) (r : Bool) (h : fn74 p0 p1 p2 = r) : Con Tryz.prog 74 [.v (.int .i64 p0), .v (.int .i64 p1), .v (.int .i64 p2)] [] 0 (.v (.bool r)) [] 0 := by
 rw [fn74] at h
 refine Con.of_body Tryz.func74 rfl Tryz.ntmps74 rfl fun w F0 ρ => ?_
 refine U_ tbOk 10 [] aN ?_
 subst h
 exact T_ tbOk.t Tryz.results74 []
def fn75_l1 (p0 : PType) : Nat → Int → Int → Int → Int → Option ((Int × Int) ⊕ (Bool))
 | 0, _, _, _, _ => none
 | n27 + 1, x10, x11, x12, x13 => bif decide (x13 < (p0.fFields.length : Int)) then (bif inb x13 p0.fFields.length then (bif bif (((((((gt p0.fFields x13).fSize) != 1) && (((gt p0.fFields x13).fSize) != 2)) && (((gt p0.fFields x13).fSize) != 4)) && (((gt p0.fFields x13).fSize) != 8)) || (decide (((gt p0.fFields x13).fOff) < x10))) || (decide ((IntKind.i64.wrap (p0.fCtx - ((gt p0.fFields x13).fSize))) < ((gt p0.fFields x13).fOff))) then true else (((gt p0.fFields x13).fSize) != 0) then (bif ((((((((gt p0.fFields x13).fSize) != 1) && (((gt p0.fFields x13).fSize) != 2)) && (((gt p0.fFields x13).fSize) != 4)) && (((gt p0.fFields x13).fSize) != 8)) || (decide (((gt p0.fFields x13).fOff) < x10))) || (decide ((IntKind.i64.wrap (p0.fCtx - ((gt p0.fFields x13).fSize))) < ((gt p0.fFields x13).fOff)))) || ((((gt p0.fFields x13).fOff).tmod ((gt p0.fFields x13).fSize)) != 0) then (some (.inr false)) else (bif ((gt p0.fFields x13).fKind) == 1 then ((fn75_l1 p0 n27) (IntKind.i64.wrap (((gt p0.fFields x13).fOff) + ((gt p0.fFields x13).fSize))) x11 x12 (IntKind.i64.wrap (x13 + 1))) else (bif ((gt p0.fFields x13).fKind) == 2 then (bif (((gt p0.fFields x13).fSize) != 8) || ((gt p0.fFields x13).fWrite) then (some (.inr false)) else ((fn75_l1 p0 n27) (IntKind.i64.wrap (((gt p0.fFields x13).fOff) + ((gt p0.fFields x13).fSize))) (IntKind.i64.wrap (x11 + 1)) x12 (IntKind.i64.wrap (x13 + 1)))) else (bif ((gt p0.fFields x13).fKind) == 3 then (bif (((gt p0.fFields x13).fSize) != 8) || ((gt p0.fFields x13).fWrite) then (some (.inr false)) else ((fn75_l1 p0 n27) (IntKind.i64.wrap (((gt p0.fFields x13).fOff) + ((gt p0.fFields x13).fSize))) x11 (IntKind.i64.wrap (x12 + 1)) (IntKind.i64.wrap (x13 + 1)))) else (some (.inr false)))))) else none) else none) else (some (.inl (x11, x12)))
theorem fn75_l1_s (p0 : PType) (n27 : Nat) (x10 : Int) (x11 : Int) (x12 : Int) (x13 : Int) : fn75_l1 p0 (n27 + 1) x10 x11 x12 x13 = bif decide (x13 < (p0.fFields.length : Int)) then (bif inb x13 p0.fFields.length then (bif bif (((((((gt p0.fFields x13).fSize) != 1) && (((gt p0.fFields x13).fSize) != 2)) && (((gt p0.fFields x13).fSize) != 4)) && (((gt p0.fFields x13).fSize) != 8)) || (decide (((gt p0.fFields x13).fOff) < x10))) || (decide ((IntKind.i64.wrap (p0.fCtx - ((gt p0.fFields x13).fSize))) < ((gt p0.fFields x13).fOff))) then true else (((gt p0.fFields x13).fSize) != 0) then (bif ((((((((gt p0.fFields x13).fSize) != 1) && (((gt p0.fFields x13).fSize) != 2)) && (((gt p0.fFields x13).fSize) != 4)) && (((gt p0.fFields x13).fSize) != 8)) || (decide (((gt p0.fFields x13).fOff) < x10))) || (decide ((IntKind.i64.wrap (p0.fCtx - ((gt p0.fFields x13).fSize))) < ((gt p0.fFields x13).fOff)))) || ((((gt p0.fFields x13).fOff).tmod ((gt p0.fFields x13).fSize)) != 0) then (some (.inr false)) else (bif ((gt p0.fFields x13).fKind) == 1 then ((fn75_l1 p0 n27) (IntKind.i64.wrap (((gt p0.fFields x13).fOff) + ((gt p0.fFields x13).fSize))) x11 x12 (IntKind.i64.wrap (x13 + 1))) else (bif ((gt p0.fFields x13).fKind) == 2 then (bif (((gt p0.fFields x13).fSize) != 8) || ((gt p0.fFields x13).fWrite) then (some (.inr false)) else ((fn75_l1 p0 n27) (IntKind.i64.wrap (((gt p0.fFields x13).fOff) + ((gt p0.fFields x13).fSize))) (IntKind.i64.wrap (x11 + 1)) x12 (IntKind.i64.wrap (x13 + 1)))) else (bif ((gt p0.fFields x13).fKind) == 3 then (bif (((gt p0.fFields x13).fSize) != 8) || ((gt p0.fFields x13).fWrite) then (some (.inr false)) else ((fn75_l1 p0 n27) (IntKind.i64.wrap (((gt p0.fFields x13).fOff) + ((gt p0.fFields x13).fSize))) x11 (IntKind.i64.wrap (x12 + 1)) (IntKind.i64.wrap (x13 + 1)))) else (some (.inr false)))))) else none) else none) else (some (.inl (x11, x12))) := rfl
def fn75_k1 (x23 : Int) (x24 : Int) : Option (Bool) :=
 some ((x23 == x24) && (decide (x23 ≤ 1)))
theorem fn75_k1_s (x23 : Int) (x24 : Int) : fn75_k1 x23 x24 = some ((x23 == x24) && (decide (x23 ≤ 1))) := rfl
def fn75 (F : Nat) (p0 : PType) : Option (Bool) :=
 Option.bind (fn75_l1 p0 F 0 0 0 0) fun o25 => (match o25 with | .inl u => fn75_k1 u.1 u.2 | .inr u => some u)
theorem c75 (F : Nat) (p0 : PType) (r : Bool) (h : fn75 F p0 = some r) : Con Tryz.prog 75 [.ag [.v (.string p0.fName), .v (.int .i64 p0.fCtx), .sl 0, .sl 1, .v (.int .i64 p0.fLo), .v (.int .i64 p0.fHi)]] [(0, .rd Fld.E p0.fFields), (1, .rd Need.E p0.fNeeds)] 2 (.v (.bool r)) [] 2 := by
 rw [fn75] at h
 refine Con.of_body Tryz.func75 rfl Tryz.ntmps75 rfl fun w F0 ρ => ?_
 refine U_ tbOk 6 [] aN ?_
 obtain ⟨o25, hl26, h⟩ := bd h
 refine CTS 0 (fun u => ⟨[(4, .v (.int .i64 u.1)), (5, .v (.int .i64 u.2))], [(0, .rd Fld.E p0.fFields), (1, .rd Need.E p0.fNeeds)], 2⟩) o25 ?_ (fun u hu => ?_)
 ·have h029 := h
  clear h
  refine G4.imp (I_ [0, 1, 2]) (LP (fun (n : Nat) (s : Int × Int × Int × Int) => fn75_l1 p0 n s.1 s.2.1 s.2.2.1 s.2.2.2) (fun (s : Int × Int × Int × Int) => ⟨[(1, .p 2 0), (3, .v (.int .i64 s.1)), (4, .v (.int .i64 s.2.1)), (5, .v (.int .i64 s.2.2.1)), (6, .v (.int .i64 s.2.2.2))], [(0, .rd Fld.E p0.fFields), (1, .rd Need.E p0.fNeeds), (2, .cells 26 [.v (.string p0.fName), .v (.int .i64 p0.fCtx), .sl 0, .sl 1, .v (.int .i64 p0.fLo), .v (.int .i64 p0.fHi)])], 3⟩) (fun _ => rfl) (s0 := (0, 0, 0, 0)) hl26 ?_)
  clear hl26
  rintro R30 n27 ⟨x10, x11, x12, x13⟩ h ih28
  replace h := (fn75_l1_s p0 n27 x10 x11 x12 x13).symm.trans h
  refine U_ tbOk 5 [] aN ?_
  refine C_ h (fun h hb31 => ?_) fun h hb31 => ?_
  ·obtain ⟨hk32, h⟩ := ck h
   obtain ⟨hk33, h⟩ := ck h
   refine U_ tbOk 49 [] (aC hk32 (aC hk33 aN)) ?_
   refine C_ h (fun h hb34 => ?_) fun h hb34 => ?_
   ·refine U_ tbOk 1 [] aN ?_
    obtain rfl := sj h
    replace h := h029
    refine U_ tbOk 0 [] aN ?_
    obtain rfl := sj h
    exact T_ tbOk.t Tryz.results75 [0, 1]
   ·refine U_ tbOk 4 [] aN ?_
    refine C_ h (fun h hb35 => ?_) fun h hb35 => ?_
    ·refine U_ tbOk 9 [] aN ?_
     exact ih28 (IntKind.i64.wrap (((gt p0.fFields x13).fOff) + ((gt p0.fFields x13).fSize)), x11, x12, IntKind.i64.wrap (x13 + 1)) h _ _ (I_ [0, 1, 2])
    ·refine U_ tbOk 2 [] aN ?_
     refine C_ h (fun h hb36 => ?_) fun h hb36 => ?_
     ·refine U_ tbOk 0 [] aN ?_
      refine CDT hb36 (by rfl) ?_
      refine U_ tbOk 7 [] aN ?_
      refine C_ h (fun h hb37 => ?_) fun h hb37 => ?_
      ·refine U_ tbOk 1 [] aN ?_
       obtain rfl := sj h
       replace h := h029
       refine U_ tbOk 0 [] aN ?_
       obtain rfl := sj h
       exact T_ tbOk.t Tryz.results75 [0, 1]
      ·refine U_ tbOk 3 [] aN ?_
       refine CDT hb36 (by rfl) ?_
       refine U_ tbOk 12 [] aN ?_
       exact ih28 (IntKind.i64.wrap (((gt p0.fFields x13).fOff) + ((gt p0.fFields x13).fSize)), IntKind.i64.wrap (x11 + 1), x12, IntKind.i64.wrap (x13 + 1)) h _ _ (I_ [0, 1, 2])
     ·refine U_ tbOk 2 [] aN ?_
      refine C_ h (fun h hb38 => ?_) fun h hb38 => ?_
      ·refine U_ tbOk 7 [] aN ?_
       refine C_ h (fun h hb39 => ?_) fun h hb39 => ?_
       ·refine U_ tbOk 1 [] aN ?_
        obtain rfl := sj h
        replace h := h029
        refine U_ tbOk 0 [] aN ?_
        obtain rfl := sj h
        exact T_ tbOk.t Tryz.results75 [0, 1]
       ·refine U_ tbOk 3 [] aN ?_
        refine CDF hb36 (by rfl) ?_
        refine U_ tbOk 12 [] aN ?_
        exact ih28 (IntKind.i64.wrap (((gt p0.fFields x13).fOff) + ((gt p0.fFields x13).fSize)), x11, IntKind.i64.wrap (x12 + 1), IntKind.i64.wrap (x13 + 1)) h _ _ (I_ [0, 1, 2])
      ·refine U_ tbOk 1 [] aN ?_
       obtain rfl := sj h
       replace h := h029
       refine U_ tbOk 0 [] aN ?_
       obtain rfl := sj h
       exact T_ tbOk.t Tryz.results75 [0, 1]
  ·refine U_ tbOk 0 [] aN ?_
   obtain rfl := sj h
   exact CES _ rfl (I_ [0, 1])
 ·subst hu
  replace h := (fn75_k1_s u.1 u.2).symm.trans h
  refine U_ tbOk 8 [] aN ?_
  obtain rfl := sj h
  exact T_ tbOk.t Tryz.results75 [0, 1]
def fn76 (p0 : Int) : Bool :=
 (fn74 p0 1 1073741824)
theorem c76 (p0 : Int) (r : Bool) (h : fn76 p0 = r) : Con Tryz.prog 76 [.v (.int .i64 p0)] [] 0 (.v (.bool r)) [] 0 := by
 rw [fn76] at h
 refine Con.of_body Tryz.func76 rfl Tryz.ntmps76 rfl fun w F0 ρ => ?_
 refine U_ tbOk 4 [.cl true [] (fun _ => c74 p0 1 1073741824 _ rfl)] (aK aN) ?_
 subst h
 exact T_ tbOk.t Tryz.results76 []
def fn77 (p0 : Int) (p1 : Int) : Bool :=
 (fn74 p0 0 65535) && (fn74 p1 0 65535)
theorem c77 (p0 : Int) (p1 : Int) (r : Bool) (h : fn77 p0 p1 = r) : Con Tryz.prog 77 [.v (.int .i64 p0), .v (.int .i64 p1)] [] 0 (.v (.bool r)) [] 0 := by
 rw [fn77] at h
 refine Con.of_body Tryz.func77 rfl Tryz.ntmps77 rfl fun w F0 ρ => ?_
 refine U_ tbOk 8 [.cl true [] (fun _ => c74 p0 0 65535 _ rfl), .cl (bif (fn74 p0 0 65535) then true else false) [] (fun _ => c74 p1 0 65535 _ rfl)] (aK (aR (aR (aK aN)))) ?_
 subst h
 exact T_ tbOk.t Tryz.results77 []
def fn29_l1 (p0 : PType) : Nat → Int → Option ((Unit) ⊕ (Int))
 | 0, _ => none
 | n19 + 1, x12 => bif decide (x12 < (p0.fNeeds.length : Int)) then (bif inb x12 p0.fNeeds.length then (bif bif !(fn76 ((gt p0.fNeeds x12).fHelper)) then true else (bif decide ((0 : Int) < x12) then (inb (IntKind.i64.wrap (x12 - 1)) p0.fNeeds.length) else true) then (bif ((!(fn76 ((gt p0.fNeeds x12).fHelper))) || ((decide ((0 : Int) < x12)) && (decide (((gt p0.fNeeds x12).fHelper) ≤ ((gt p0.fNeeds (IntKind.i64.wrap (x12 - 1))).fHelper))))) || (!(fn77 ((gt p0.fNeeds x12).fMajor) ((gt p0.fNeeds x12).fMinor))) then (some (.inr 34)) else ((fn29_l1 p0 n19) (IntKind.i64.wrap (x12 + 1)))) else none) else none) else (some (.inl ()))
theorem fn29_l1_s (p0 : PType) (n19 : Nat) (x12 : Int) : fn29_l1 p0 (n19 + 1) x12 = bif decide (x12 < (p0.fNeeds.length : Int)) then (bif inb x12 p0.fNeeds.length then (bif bif !(fn76 ((gt p0.fNeeds x12).fHelper)) then true else (bif decide ((0 : Int) < x12) then (inb (IntKind.i64.wrap (x12 - 1)) p0.fNeeds.length) else true) then (bif ((!(fn76 ((gt p0.fNeeds x12).fHelper))) || ((decide ((0 : Int) < x12)) && (decide (((gt p0.fNeeds x12).fHelper) ≤ ((gt p0.fNeeds (IntKind.i64.wrap (x12 - 1))).fHelper))))) || (!(fn77 ((gt p0.fNeeds x12).fMajor) ((gt p0.fNeeds x12).fMinor))) then (some (.inr 34)) else ((fn29_l1 p0 n19) (IntKind.i64.wrap (x12 + 1)))) else none) else none) else (some (.inl ())) := rfl
def fn29_k1 (p0 : PType) : Option (Int) :=
 bif decide (p0.fHi < p0.fLo) then (some 36) else (some 0)
theorem fn29_k1_s (p0 : PType) : fn29_k1 p0 = bif decide (p0.fHi < p0.fLo) then (some 36) else (some 0) := rfl
def fn29 (F : Nat) (p0 : PType) : Option (Int) :=
 Option.bind (fn73 F p0.fName) fun v1 => (bif !v1 then (some 2) else (bif ((!(fn74 p0.fCtx 8 256)) || (decide ((32 : Int) < (p0.fFields.length : Int)))) || (decide ((64 : Int) < (p0.fNeeds.length : Int))) then (some 3) else (Option.bind (fn75 F p0) fun v5 => (bif !v5 then (some 22) else (Option.bind (fn29_l1 p0 F 0) fun o17 => (match o17 with | .inl u => fn29_k1 p0 | .inr u => some u))))))
theorem c29 (F : Nat) (p0 : PType) (r : Int) (h : fn29 F p0 = some r) : Con Tryz.prog 29 [.ag [.v (.string p0.fName), .v (.int .i64 p0.fCtx), .sl 0, .sl 1, .v (.int .i64 p0.fLo), .v (.int .i64 p0.fHi)]] [(0, .rd Fld.E p0.fFields), (1, .rd Need.E p0.fNeeds)] 2 (.v (.int .i64 r)) [] 2 := by
 rw [fn29] at h
 refine Con.of_body Tryz.func29 rfl Tryz.ntmps29 rfl fun w F0 ρ => ?_
 obtain ⟨v1, hv2, h⟩ := bd h
 refine U_ tbOk 6 [.cl true [] (fun _ => c73 F p0.fName _ hv2)] (aK aN) ?_
 refine C_ h (fun h hb3 => ?_) fun h hb3 => ?_
 ·refine U_ tbOk 1 [] aN ?_
  obtain rfl := sj h
  exact T_ tbOk.t Tryz.results29 [0, 1]
 ·refine U_ tbOk 16 [.cl true [] (fun _ => c74 p0.fCtx 8 256 _ rfl)] (aK aN) ?_
  refine C_ h (fun h hb4 => ?_) fun h hb4 => ?_
  ·refine U_ tbOk 1 [] aN ?_
   obtain rfl := sj h
   exact T_ tbOk.t Tryz.results29 [0, 1]
  ·obtain ⟨v5, hv6, h⟩ := bd h
   refine U_ tbOk 3 [.cl true [0, 1] (fun _ => c75 F p0 _ hv6)] (aK aN) ?_
   refine C_ h (fun h hb7 => ?_) fun h hb7 => ?_
   ·refine U_ tbOk 1 [] aN ?_
    obtain rfl := sj h
    exact T_ tbOk.t Tryz.results29 [0, 1]
   ·refine U_ tbOk 1 [] aN ?_
    obtain ⟨o17, hl18, h⟩ := bd h
    refine CTS 0 (fun u => ⟨[(1, .p 2 0)], [(0, .rd Fld.E p0.fFields), (1, .rd Need.E p0.fNeeds), (2, .cells 26 [.v (.string p0.fName), .v (.int .i64 p0.fCtx), .sl 0, .sl 1, .v (.int .i64 p0.fLo), .v (.int .i64 p0.fHi)])], 3⟩) o17 ?_ (fun u hu => ?_)
    ·have h021 := h
     clear h
     refine G4.imp (I_ [0, 1, 2]) (LP (fun (n : Nat) (s : Int) => fn29_l1 p0 n s) (fun (s : Int) => ⟨[(1, .p 2 0), (3, .v (.int .i64 s))], [(0, .rd Fld.E p0.fFields), (1, .rd Need.E p0.fNeeds), (2, .cells 26 [.v (.string p0.fName), .v (.int .i64 p0.fCtx), .sl 0, .sl 1, .v (.int .i64 p0.fLo), .v (.int .i64 p0.fHi)])], 3⟩) (fun _ => rfl) (s0 := 0) hl18 ?_)
     clear hl18
     rintro R22 n19 x12 h ih20
     replace h := (fn29_l1_s p0 n19 x12).symm.trans h
     refine U_ tbOk 5 [] aN ?_
     refine C_ h (fun h hb23 => ?_) fun h hb23 => ?_
     ·obtain ⟨hk24, h⟩ := ck h
      refine U_ tbOk 7 [] (aC hk24 aN) ?_
      obtain ⟨hk25, h⟩ := ck h
      refine DR tbOk hmix [67] [([], []), ([3], []), ([], []), ([], []), ([], []), ([], []), ([], []), ([], []), ([], []), ([2], []), ([], []), ([], []), ([1], []), ([], []), ([1], []), ([], []), ([3], []), ([], []), ([], []), ([], []), ([], []), ([], []), ([3], []), ([], []), ([3], []), ([], []), ([], []), ([], [])] [.cl true [] (fun _ => c76 ((gt p0.fNeeds x12).fHelper) _ rfl), .cl (bif (!(fn76 ((gt p0.fNeeds x12).fHelper))) || ((decide ((0 : Int) < x12)) && (decide (((gt p0.fNeeds x12).fHelper) ≤ ((gt p0.fNeeds (IntKind.i64.wrap (x12 - 1))).fHelper)))) then false else true) [] (fun _ => c77 ((gt p0.fNeeds x12).fMajor) ((gt p0.fNeeds x12).fMinor) _ rfl)] (aR (aK (aC hk25 (aR (aR (aK aN)))))) (by rfl) ?_
      refine U_ tbOk 0 [] aN ?_
      refine C_ h (fun h hb26 => ?_) fun h hb26 => ?_
      ·refine U_ tbOk 1 [] aN ?_
       obtain rfl := sj h
       replace h := h021
       refine U_ tbOk 0 [] aN ?_
       obtain rfl := sj h
       exact T_ tbOk.t Tryz.results29 [0, 1]
      ·refine U_ tbOk 3 [] aN ?_
       exact ih20 (IntKind.i64.wrap (x12 + 1)) h _ _ (I_ [0, 1, 2])
     ·refine U_ tbOk 0 [] aN ?_
      obtain rfl := sj h
      exact CES _ rfl (I_ [0, 1, 2])
    ·subst hu
     replace h := (fn29_k1_s p0).symm.trans h
     refine U_ tbOk 5 [] aN ?_
     refine C_ h (fun h hb27 => ?_) fun h hb27 => ?_
     ·refine U_ tbOk 1 [] aN ?_
      obtain rfl := sj h
      exact T_ tbOk.t Tryz.results29 [0, 1]
     ·refine U_ tbOk 1 [] aN ?_
      obtain rfl := sj h
      exact T_ tbOk.t Tryz.results29 [0, 1]
def fn121 (p0 : List Instr) (p1 : Int) : Option (Int × Int) :=
 bif inb p1 p0.length then (bif (fn116 (gt p0 p1)) then (bif (fn120 (gt p0 p1) p1).2 then (bif (((fn71 (gt p0 p1)) == 5) && (((fn72 (gt p0 p1)) == 144) || ((fn72 (gt p0 p1)) == 0))) || (((fn71 (gt p0 p1)) == 6) && ((fn72 (gt p0 p1)) == 0)) then (some ((-1), (fn120 (gt p0 p1) p1).1)) else (some (IntKind.i64.wrap (p1 + 2), (fn120 (gt p0 p1) p1).1))) else (bif (((fn71 (gt p0 p1)) == 5) && (((fn72 (gt p0 p1)) == 144) || ((fn72 (gt p0 p1)) == 0))) || (((fn71 (gt p0 p1)) == 6) && ((fn72 (gt p0 p1)) == 0)) then (some ((-1), (-1))) else (some (IntKind.i64.wrap (p1 + 2), (-1))))) else (bif (fn120 (gt p0 p1) p1).2 then (bif (((fn71 (gt p0 p1)) == 5) && (((fn72 (gt p0 p1)) == 144) || ((fn72 (gt p0 p1)) == 0))) || (((fn71 (gt p0 p1)) == 6) && ((fn72 (gt p0 p1)) == 0)) then (some ((-1), (fn120 (gt p0 p1) p1).1)) else (some (IntKind.i64.wrap (p1 + 1), (fn120 (gt p0 p1) p1).1))) else (bif (((fn71 (gt p0 p1)) == 5) && (((fn72 (gt p0 p1)) == 144) || ((fn72 (gt p0 p1)) == 0))) || (((fn71 (gt p0 p1)) == 6) && ((fn72 (gt p0 p1)) == 0)) then (some ((-1), (-1))) else (some (IntKind.i64.wrap (p1 + 1), (-1)))))) else none
theorem c121 (p0 : List Instr) (p1 : Int) (r : Int × Int) (h : fn121 p0 p1 = some r) : Con Tryz.prog 121 [.sl 0, .v (.int .i64 p1)] [(0, .rd Instr.E p0)] 1 (.tu [.v (.int .i64 r.1), .v (.int .i64 r.2)]) [] 1 := by
 rw [fn121] at h
 refine Con.of_body Tryz.func121 rfl Tryz.ntmps121 rfl fun w F0 ρ => ?_
 obtain ⟨hk1, h⟩ := ck h
 refine U_ tbOk 14 [.cl true [] (fun _ => c116 (gt p0 p1) _ rfl)] (aC hk1 (aK aN)) ?_
 refine C_ h (fun h hb2 => ?_) fun h hb2 => ?_
 ·refine U_ tbOk 12 [.cl true [] (fun _ => c120 (gt p0 p1) p1 _ rfl)] (aK aN) ?_
  refine C_ h (fun h hb3 => ?_) fun h hb3 => ?_
  ·refine U_ tbOk 2 [] aN ?_
   refine DR tbOk hmix [11, 12] [([1], []), ([], []), ([1], []), ([], []), ([], []), ([], [])] [.cl true [] (fun _ => c71 (gt p0 p1) _ rfl), .cl true [] (fun _ => c72 (gt p0 p1) _ rfl)] (aR (aK (aR (aK aN)))) (by rfl) ?_
   refine U_ tbOk 18 [] aN ?_
   refine C_ h (fun h hb4 => ?_) fun h hb4 => ?_
   ·refine U_ tbOk 5 [] aN ?_
    obtain rfl := sj h
    exact T_ tbOk.t Tryz.results121 [0]
   ·refine U_ tbOk 4 [] aN ?_
    obtain rfl := sj h
    exact T_ tbOk.t Tryz.results121 [0]
  ·refine U_ tbOk 0 [] aN ?_
   refine DR tbOk hmix [11, 12] [([1], []), ([], []), ([1], []), ([], []), ([], []), ([], [])] [.cl true [] (fun _ => c71 (gt p0 p1) _ rfl), .cl true [] (fun _ => c72 (gt p0 p1) _ rfl)] (aR (aK (aR (aK aN)))) (by rfl) ?_
   refine U_ tbOk 18 [] aN ?_
   refine C_ h (fun h hb5 => ?_) fun h hb5 => ?_
   ·refine U_ tbOk 5 [] aN ?_
    obtain rfl := sj h
    exact T_ tbOk.t Tryz.results121 [0]
   ·refine U_ tbOk 4 [] aN ?_
    obtain rfl := sj h
    exact T_ tbOk.t Tryz.results121 [0]
 ·refine U_ tbOk 9 [.cl true [] (fun _ => c120 (gt p0 p1) p1 _ rfl)] (aK aN) ?_
  refine C_ h (fun h hb6 => ?_) fun h hb6 => ?_
  ·refine U_ tbOk 2 [] aN ?_
   refine DR tbOk hmix [11, 12] [([1], []), ([], []), ([1], []), ([], []), ([], []), ([], [])] [.cl true [] (fun _ => c71 (gt p0 p1) _ rfl), .cl true [] (fun _ => c72 (gt p0 p1) _ rfl)] (aR (aK (aR (aK aN)))) (by rfl) ?_
   refine U_ tbOk 18 [] aN ?_
   refine C_ h (fun h hb7 => ?_) fun h hb7 => ?_
   ·refine U_ tbOk 5 [] aN ?_
    obtain rfl := sj h
    exact T_ tbOk.t Tryz.results121 [0]
   ·refine U_ tbOk 4 [] aN ?_
    obtain rfl := sj h
    exact T_ tbOk.t Tryz.results121 [0]
  ·refine U_ tbOk 0 [] aN ?_
   refine DR tbOk hmix [11, 12] [([1], []), ([], []), ([1], []), ([], []), ([], []), ([], [])] [.cl true [] (fun _ => c71 (gt p0 p1) _ rfl), .cl true [] (fun _ => c72 (gt p0 p1) _ rfl)] (aR (aK (aR (aK aN)))) (by rfl) ?_
   refine U_ tbOk 18 [] aN ?_
   refine C_ h (fun h hb8 => ?_) fun h hb8 => ?_
   ·refine U_ tbOk 5 [] aN ?_
    obtain rfl := sj h
    exact T_ tbOk.t Tryz.results121 [0]
   ·refine U_ tbOk 4 [] aN ?_
    obtain rfl := sj h
    exact T_ tbOk.t Tryz.results121 [0]
def fn78_l1 (p0 : List Instr) (v4 : (List Bool)) : Nat → (List Edge) → Int → Option ((List Edge))
 | 0, _, _ => none
 | n33 + 1, xs17, x18 => bif decide (x18 < (p0.length : Int)) then (bif inb x18 v4.length then (bif !(gt v4 x18) then ((fn78_l1 p0 v4 n33) xs17 (IntKind.i64.wrap (x18 + 1))) else (Option.bind (fn121 p0 x18) fun v40 => (bif decide ((0 : Int) ≤ v40.1) then (bif decide ((xs17.length + ([(⟨x18, v40.1⟩ : Edge)] : List Edge).length) * 16 ≤ 140737488355328 ∧ xs17.length + ([(⟨x18, v40.1⟩ : Edge)] : List Edge).length ≤ 9223372036854775807) then (bif decide ((0 : Int) ≤ v40.2) then (bif decide (((xs17 ++ ([(⟨x18, v40.1⟩ : Edge)] : List Edge)).length + ([(⟨x18, v40.2⟩ : Edge)] : List Edge).length) * 16 ≤ 140737488355328 ∧ (xs17 ++ ([(⟨x18, v40.1⟩ : Edge)] : List Edge)).length + ([(⟨x18, v40.2⟩ : Edge)] : List Edge).length ≤ 9223372036854775807) then ((fn78_l1 p0 v4 n33) ((xs17 ++ ([(⟨x18, v40.1⟩ : Edge)] : List Edge)) ++ ([(⟨x18, v40.2⟩ : Edge)] : List Edge)) (IntKind.i64.wrap (x18 + 1))) else none) else ((fn78_l1 p0 v4 n33) (xs17 ++ ([(⟨x18, v40.1⟩ : Edge)] : List Edge)) (IntKind.i64.wrap (x18 + 1)))) else none) else (bif decide ((0 : Int) ≤ v40.2) then (bif decide ((xs17.length + ([(⟨x18, v40.2⟩ : Edge)] : List Edge).length) * 16 ≤ 140737488355328 ∧ xs17.length + ([(⟨x18, v40.2⟩ : Edge)] : List Edge).length ≤ 9223372036854775807) then ((fn78_l1 p0 v4 n33) (xs17 ++ ([(⟨x18, v40.2⟩ : Edge)] : List Edge)) (IntKind.i64.wrap (x18 + 1))) else none) else ((fn78_l1 p0 v4 n33) xs17 (IntKind.i64.wrap (x18 + 1))))))) else none) else (some xs17)
theorem fn78_l1_s (p0 : List Instr) (v4 : (List Bool)) (n33 : Nat) (xs17 : List Edge) (x18 : Int) : fn78_l1 p0 v4 (n33 + 1) xs17 x18 = bif decide (x18 < (p0.length : Int)) then (bif inb x18 v4.length then (bif !(gt v4 x18) then ((fn78_l1 p0 v4 n33) xs17 (IntKind.i64.wrap (x18 + 1))) else (Option.bind (fn121 p0 x18) fun v40 => (bif decide ((0 : Int) ≤ v40.1) then (bif decide ((xs17.length + ([(⟨x18, v40.1⟩ : Edge)] : List Edge).length) * 16 ≤ 140737488355328 ∧ xs17.length + ([(⟨x18, v40.1⟩ : Edge)] : List Edge).length ≤ 9223372036854775807) then (bif decide ((0 : Int) ≤ v40.2) then (bif decide (((xs17 ++ ([(⟨x18, v40.1⟩ : Edge)] : List Edge)).length + ([(⟨x18, v40.2⟩ : Edge)] : List Edge).length) * 16 ≤ 140737488355328 ∧ (xs17 ++ ([(⟨x18, v40.1⟩ : Edge)] : List Edge)).length + ([(⟨x18, v40.2⟩ : Edge)] : List Edge).length ≤ 9223372036854775807) then ((fn78_l1 p0 v4 n33) ((xs17 ++ ([(⟨x18, v40.1⟩ : Edge)] : List Edge)) ++ ([(⟨x18, v40.2⟩ : Edge)] : List Edge)) (IntKind.i64.wrap (x18 + 1))) else none) else ((fn78_l1 p0 v4 n33) (xs17 ++ ([(⟨x18, v40.1⟩ : Edge)] : List Edge)) (IntKind.i64.wrap (x18 + 1)))) else none) else (bif decide ((0 : Int) ≤ v40.2) then (bif decide ((xs17.length + ([(⟨x18, v40.2⟩ : Edge)] : List Edge).length) * 16 ≤ 140737488355328 ∧ xs17.length + ([(⟨x18, v40.2⟩ : Edge)] : List Edge).length ≤ 9223372036854775807) then ((fn78_l1 p0 v4 n33) (xs17 ++ ([(⟨x18, v40.2⟩ : Edge)] : List Edge)) (IntKind.i64.wrap (x18 + 1))) else none) else ((fn78_l1 p0 v4 n33) xs17 (IntKind.i64.wrap (x18 + 1))))))) else none) else (some xs17) := rfl
def fn78_k1 (xs30 : List Edge) : Option (((List Edge))) :=
 some xs30
theorem fn78_k1_s (xs30 : List Edge) : fn78_k1 xs30 = some xs30 := rfl
def fn78 (F : Nat) (p0 : List Instr) : Option ((List Edge)) :=
 Option.bind (fn28 F p0) fun v1 => (bif v1.2 != 0 then (some ([] : List Edge)) else (Option.bind (fn69 F p0) fun v4 => (Option.bind (fn78_l1 p0 v4 F ([] : List Edge) 0) fun o31 => (fn78_k1 o31))))
theorem c78 (F : Nat) (p0 : List Instr) (r : (List Edge)) (h : fn78 F p0 = some r) : Con Tryz.prog 78 [.sl 0] [(0, .rd Instr.E p0)] 1 (.sl 1) [(1, .row Edge.E 142 r r.length .iff)] 2 := by
 rw [fn78] at h
 refine Con.of_body Tryz.func78 rfl Tryz.ntmps78 rfl fun w F0 ρ => ?_
 obtain ⟨v1, hv2, h⟩ := bd h
 refine U_ tbOk 10 [.cl true [0] (fun _ => c28 F p0 _ hv2)] (aK aN) ?_
 refine C_ h (fun h hb3 => ?_) fun h hb3 => ?_
 ·refine U_ tbOk 1 [] aN ?_
  obtain rfl := sj h
  refine G4.imp (Imp.nil Edge.E 142 2 (by rfl)) ?_
  exact T_ tbOk.t Tryz.results78 [0, 1]
 ·obtain ⟨v4, hv5, h⟩ := bd h
  refine U_ tbOk 5 [.cl true [0] (fun _ => c69 F p0 _ hv5)] (aK aN) ?_
  refine G4.imp (Imp.nil Edge.E 142 6 (by rfl)) ?_
  obtain ⟨o31, hl32, h⟩ := bd h
  refine CT 0 ⟨[(6, .sl 1)], [(0, .rd Instr.E p0), (1, .row Edge.E 142 o31 o31.length .iff)], 2⟩ ?_ ?_
  ·have h035 := h
   clear h
   refine G4.imp (I_ [0, 1, 2]) (LP (fun (n : Nat) (s : (List Edge) × Int) => fn78_l1 p0 v4 n s.1 s.2) (fun (s : (List Edge) × Int) => ⟨[(0, .sl 0), (5, .sl 1), (6, .sl 2), (7, .v (.int .i64 s.2))], [(0, .rd Instr.E p0), (1, .row Et.bool 4 v4 v4.length .unk), (2, .row Edge.E 142 s.1 s.1.length .iff)], 3⟩) (fun _ => rfl) (s0 := (([] : List Edge), 0)) hl32 ?_)
   clear hl32
   rintro R36 n33 ⟨xs17, x18⟩ h ih34
   replace h := (fn78_l1_s p0 v4 n33 xs17 x18).symm.trans h
   refine U_ tbOk 4 [] aN ?_
   refine C_ h (fun h hb37 => ?_) fun h hb37 => ?_
   ·obtain ⟨hk38, h⟩ := ck h
    refine U_ tbOk 5 [] (aC hk38 aN) ?_
    refine C_ h (fun h hb39 => ?_) fun h hb39 => ?_
    ·refine U_ tbOk 3 [] aN ?_
     exact ih34 (xs17, IntKind.i64.wrap (x18 + 1)) h _ _ (I_ [0, 1, 2])
    ·obtain ⟨v40, hv41, h⟩ := bd h
     refine U_ tbOk 10 [.cl true [0] (fun _ => c121 p0 x18 _ hv41)] (aK aN) ?_
     refine C_ h (fun h hb42 => ?_) fun h hb42 => ?_
     ·obtain ⟨hk43, h⟩ := ck h
      refine U_ tbOk 9 [.bs Edge.E ([(⟨x18, v40.1⟩ : Edge)] : List Edge), .ap Edge.E .iff _ _] (aR (aR (aR (aR (aC hk43 (aC rfl aN)))))) ?_
      refine C_ h (fun h hb44 => ?_) fun h hb44 => ?_
      ·obtain ⟨hk45, h⟩ := ck h
       refine U_ tbOk 10 [.bs Edge.E ([(⟨x18, v40.2⟩ : Edge)] : List Edge), .ap Edge.E .iff _ _] (aR (aR (aR (aR (aC hk45 (aC rfl aN)))))) ?_
       exact ih34 ((xs17 ++ ([(⟨x18, v40.1⟩ : Edge)] : List Edge)) ++ ([(⟨x18, v40.2⟩ : Edge)] : List Edge), IntKind.i64.wrap (x18 + 1)) h _ _ (I_ [0, 1, 6])
      ·refine U_ tbOk 3 [] aN ?_
       exact ih34 (xs17 ++ ([(⟨x18, v40.1⟩ : Edge)] : List Edge), IntKind.i64.wrap (x18 + 1)) h _ _ (I_ [0, 1, 4])
     ·refine U_ tbOk 2 [] aN ?_
      refine C_ h (fun h hb46 => ?_) fun h hb46 => ?_
      ·obtain ⟨hk47, h⟩ := ck h
       refine U_ tbOk 10 [.bs Edge.E ([(⟨x18, v40.2⟩ : Edge)] : List Edge), .ap Edge.E .iff _ _] (aR (aR (aR (aR (aC hk47 (aC rfl aN)))))) ?_
       exact ih34 (xs17 ++ ([(⟨x18, v40.2⟩ : Edge)] : List Edge), IntKind.i64.wrap (x18 + 1)) h _ _ (I_ [0, 1, 4])
      ·refine U_ tbOk 3 [] aN ?_
       exact ih34 (xs17, IntKind.i64.wrap (x18 + 1)) h _ _ (I_ [0, 1, 2])
   ·refine U_ tbOk 0 [] aN ?_
    obtain rfl := sj h
    exact CE (I_ [0, 2])
  ·replace h := (fn78_k1_s o31).symm.trans h
   refine U_ tbOk 2 [] aN ?_
   obtain rfl := sj h
   exact T_ tbOk.t Tryz.results78 [0, 1]
def fn79_l3 (p0 : List Edge) (p2 : List Bool) : Nat → (List Bool) → Bool → Int → Option ((List Bool) × Bool)
 | 0, _, _, _ => none
 | n132 + 1, xs116, x117, x118 => bif decide (x118 < (p0.length : Int)) then (bif inb x118 p0.length then (bif inb ((gt p0 x118).fFrom) p2.length then (bif bif gt p2 ((gt p0 x118).fFrom) then true else (inb x118 p0.length) then (bif bif gt p2 ((gt p0 x118).fFrom) then true else (inb ((gt p0 x118).fFrom) xs116.length) then (bif bif (gt p2 ((gt p0 x118).fFrom)) || (gt xs116 ((gt p0 x118).fFrom)) then (inb x118 p0.length) else true then (bif bif (gt p2 ((gt p0 x118).fFrom)) || (gt xs116 ((gt p0 x118).fFrom)) then (inb ((gt p0 x118).fTo) xs116.length) else true then (bif ((gt p2 ((gt p0 x118).fFrom)) || (gt xs116 ((gt p0 x118).fFrom))) && (!(gt xs116 ((gt p0 x118).fTo))) then (bif inb ((gt p0 x118).fTo) xs116.length then ((fn79_l3 p0 p2 n132) (xs116.set ((gt p0 x118).fTo).toNat true) true (IntKind.i64.wrap (x118 + 1))) else none) else ((fn79_l3 p0 p2 n132) xs116 x117 (IntKind.i64.wrap (x118 + 1)))) else none) else none) else none) else none) else none) else none) else (some (xs116, x117))
theorem fn79_l3_s (p0 : List Edge) (p2 : List Bool) (n132 : Nat) (xs116 : List Bool) (x117 : Bool) (x118 : Int) : fn79_l3 p0 p2 (n132 + 1) xs116 x117 x118 = bif decide (x118 < (p0.length : Int)) then (bif inb x118 p0.length then (bif inb ((gt p0 x118).fFrom) p2.length then (bif bif gt p2 ((gt p0 x118).fFrom) then true else (inb x118 p0.length) then (bif bif gt p2 ((gt p0 x118).fFrom) then true else (inb ((gt p0 x118).fFrom) xs116.length) then (bif bif (gt p2 ((gt p0 x118).fFrom)) || (gt xs116 ((gt p0 x118).fFrom)) then (inb x118 p0.length) else true then (bif bif (gt p2 ((gt p0 x118).fFrom)) || (gt xs116 ((gt p0 x118).fFrom)) then (inb ((gt p0 x118).fTo) xs116.length) else true then (bif ((gt p2 ((gt p0 x118).fFrom)) || (gt xs116 ((gt p0 x118).fFrom))) && (!(gt xs116 ((gt p0 x118).fTo))) then (bif inb ((gt p0 x118).fTo) xs116.length then ((fn79_l3 p0 p2 n132) (xs116.set ((gt p0 x118).fTo).toNat true) true (IntKind.i64.wrap (x118 + 1))) else none) else ((fn79_l3 p0 p2 n132) xs116 x117 (IntKind.i64.wrap (x118 + 1)))) else none) else none) else none) else none) else none) else none) else (some (xs116, x117)) := rfl
def fn79_k3 (rl2 : (List Bool) → Bool → Option ((List Bool))) (xs128 : List Bool) (x129 : Bool) : Option ((List Bool)) :=
 rl2 xs128 x129
theorem fn79_k3_s (rl2 : (List Bool) → Bool → Option ((List Bool))) (xs128 : List Bool) (x129 : Bool) : fn79_k3 rl2 xs128 x129 = rl2 xs128 x129 := rfl
def fn79_l2 (F : Nat) (p0 : List Edge) (p2 : List Bool) : Nat → (List Bool) → Bool → Option ((List Bool))
 | 0, _, _ => none
 | n102 + 1, xs58, x59 => bif x59 then (Option.bind (fn79_l3 p0 p2 F xs58 false 0) fun o130 => (fn79_k3 (fn79_l2 F p0 p2 n102) o130.1 o130.2)) else (some xs58)
theorem fn79_l2_s (F : Nat) (p0 : List Edge) (p2 : List Bool) (n102 : Nat) (xs58 : List Bool) (x59 : Bool) : fn79_l2 F p0 p2 (n102 + 1) xs58 x59 = bif x59 then (Option.bind (fn79_l3 p0 p2 F xs58 false 0) fun o130 => (fn79_k3 (fn79_l2 F p0 p2 n102) o130.1 o130.2)) else (some xs58) := rfl
def fn79_k2 (xs99 : List Bool) : Option (((List Bool))) :=
 some xs99
theorem fn79_k2_s (xs99 : List Bool) : fn79_k2 xs99 = some xs99 := rfl
def fn79_l1 (p1 : Int) (p2 : List Bool) (p3 : Bool) : Nat → (List Bool) → Int → Option ((List Bool))
 | 0, _, _ => none
 | n13 + 1, xs5, x6 => bif decide (x6 < p1) then (bif bif p3 then (inb x6 p2.length) else true then (bif inb x6 xs5.length then ((fn79_l1 p1 p2 p3 n13) (xs5.set x6.toNat (p3 && (gt p2 x6))) (IntKind.i64.wrap (x6 + 1))) else none) else none) else (some xs5)
theorem fn79_l1_s (p1 : Int) (p2 : List Bool) (p3 : Bool) (n13 : Nat) (xs5 : List Bool) (x6 : Int) : fn79_l1 p1 p2 p3 (n13 + 1) xs5 x6 = bif decide (x6 < p1) then (bif bif p3 then (inb x6 p2.length) else true then (bif inb x6 xs5.length then ((fn79_l1 p1 p2 p3 n13) (xs5.set x6.toNat (p3 && (gt p2 x6))) (IntKind.i64.wrap (x6 + 1))) else none) else none) else (some xs5) := rfl
def fn79_k1 (F : Nat) (p0 : List Edge) (p2 : List Bool) (xs10 : List Bool) : Option (((List Bool))) :=
 Option.bind (fn79_l2 F p0 p2 F xs10 true) fun o100 => (fn79_k2 o100)
theorem fn79_k1_s (F : Nat) (p0 : List Edge) (p2 : List Bool) (xs10 : List Bool) : fn79_k1 F p0 p2 xs10 = Option.bind (fn79_l2 F p0 p2 F xs10 true) fun o100 => (fn79_k2 o100) := rfl
def fn79 (F : Nat) (p0 : List Edge) (p1 : Int) (p2 : List Bool) (p3 : Bool) : Option ((List Bool)) :=
 bif decide ((0 : Int) ≤ p1) && decide (p1 ≤ p1) && decide ((1 : Int) * p1 ≤ 281474976710656) && decide (p1 ≤ 9223372036854775807) then (Option.bind (fn79_l1 p1 p2 p3 F (List.replicate p1.toNat false) 0) fun o11 => (fn79_k1 F p0 p2 o11)) else none
theorem c79 (F : Nat) (p0 : List Edge) (p1 : Int) (p2 : List Bool) (p3 : Bool) (r : (List Bool)) (h : fn79 F p0 p1 p2 p3 = some r) : Con Tryz.prog 79 [.sl 0, .v (.int .i64 p1), .sl 1, .v (.bool p3)] [(0, .rd Edge.E p0), (1, .rd Et.bool p2)] 2 (.sl 2) [(2, .row Et.bool 4 r r.length .unk)] 3 := by
 rw [fn79] at h
 refine Con.of_body Tryz.func79 rfl Tryz.ntmps79 rfl fun w F0 ρ => ?_
 obtain ⟨hk1, h⟩ := ck h
 refine U_ tbOk 5 [.ms Et.bool false] (aC hk1 (aR aN)) ?_
 obtain ⟨o11, hl12, h⟩ := bd h
 refine CT 0 ⟨[(0, .sl 0), (2, .sl 1), (9, .sl 2)], [(0, .rd Edge.E p0), (1, .rd Et.bool p2), (2, .row Et.bool 4 o11 o11.length .unk)], 3⟩ ?_ ?_
 ·have h015 := h
  clear h
  refine G4.imp (Imp.trans (Imp.row 2 (by rfl)) (I_ [0, 1, 2])) (LP (fun (n : Nat) (s : (List Bool) × Int) => fn79_l1 p1 p2 p3 n s.1 s.2) (fun (s : (List Bool) × Int) => ⟨[(0, .sl 0), (1, .v (.int .i64 p1)), (2, .sl 1), (3, .v (.bool p3)), (9, .sl 2), (10, .v (.int .i64 s.2))], [(0, .rd Edge.E p0), (1, .rd Et.bool p2), (2, .row Et.bool 4 s.1 s.1.length .unk)], 3⟩) (fun _ => rfl) (s0 := (List.replicate p1.toNat false, 0)) hl12 ?_)
  clear hl12
  rintro R16 n13 ⟨xs5, x6⟩ h ih14
  replace h := (fn79_l1_s p1 p2 p3 n13 xs5 x6).symm.trans h
  refine U_ tbOk 3 [] aN ?_
  refine C_ h (fun h hb17 => ?_) fun h hb17 => ?_
  ·obtain ⟨hk18, h⟩ := ck h
   obtain ⟨hk19, h⟩ := ck h
   refine U_ tbOk 14 [.se Et.bool _ (p3 && (gt p2 x6))] (aC hk18 (aC hk19 (aR (aR aN)))) ?_
   exact ih14 (xs5.set x6.toNat (p3 && (gt p2 x6)), IntKind.i64.wrap (x6 + 1)) h _ _ (Imp.trans (Imp.row 2 (by rfl)) (I_ [0, 1, 2]))
  ·refine U_ tbOk 0 [] aN ?_
   obtain rfl := sj h
   exact CE (I_ [0, 1, 2])
 ·replace h := (fn79_k1_s F p0 p2 o11).symm.trans h
  refine U_ tbOk 1 [] aN ?_
  obtain ⟨o100, hl101, h⟩ := bd h
  refine CT 2 ⟨[(9, .sl 2)], [(0, .rd Edge.E p0), (1, .rd Et.bool p2), (2, .row Et.bool 4 o100 o100.length .unk)], 3⟩ ?_ ?_
  ·have h0104 := h
   clear h
   refine G4.imp (I_ [0, 1, 2]) (LP (fun (n : Nat) (s : (List Bool) × Bool) => fn79_l2 F p0 p2 n s.1 s.2) (fun (s : (List Bool) × Bool) => ⟨[(0, .sl 0), (2, .sl 1), (9, .sl 2), (11, .v (.bool s.2))], [(0, .rd Edge.E p0), (1, .rd Et.bool p2), (2, .row Et.bool 4 s.1 s.1.length .unk)], 3⟩) (fun _ => rfl) (s0 := (o11, true)) hl101 ?_)
   clear hl101
   rintro R105 n102 ⟨xs58, x59⟩ h ih103
   replace h := (fn79_l2_s F p0 p2 n102 xs58 x59).symm.trans h
   refine U_ tbOk 1 [] aN ?_
   refine C_ h (fun h hb106 => ?_) fun h hb106 => ?_
   ·refine U_ tbOk 2 [] aN ?_
    obtain ⟨o130, hl131, h⟩ := bd h
    refine CT 4 ⟨[(0, .sl 0), (2, .sl 1), (9, .sl 2), (11, .v (.bool o130.2))], [(0, .rd Edge.E p0), (1, .rd Et.bool p2), (2, .row Et.bool 4 o130.1 o130.1.length .unk)], 3⟩ ?_ ?_
    ·have h0134 := h
     clear h
     refine G4.imp (I_ [0, 1, 2]) (LP (fun (n : Nat) (s : (List Bool) × Bool × Int) => fn79_l3 p0 p2 n s.1 s.2.1 s.2.2) (fun (s : (List Bool) × Bool × Int) => ⟨[(0, .sl 0), (2, .sl 1), (9, .sl 2), (11, .v (.bool s.2.1)), (12, .v (.int .i64 s.2.2))], [(0, .rd Edge.E p0), (1, .rd Et.bool p2), (2, .row Et.bool 4 s.1 s.1.length .unk)], 3⟩) (fun _ => rfl) (s0 := (xs58, false, 0)) hl131 ?_)
     clear hl131
     rintro R135 n132 ⟨xs116, x117, x118⟩ h ih133
     replace h := (fn79_l3_s p0 p2 n132 xs116 x117 x118).symm.trans h
     refine U_ tbOk 4 [] aN ?_
     refine C_ h (fun h hb136 => ?_) fun h hb136 => ?_
     ·obtain ⟨hk137, h⟩ := ck h
      obtain ⟨hk138, h⟩ := ck h
      obtain ⟨hk139, h⟩ := ck h
      obtain ⟨hk140, h⟩ := ck h
      obtain ⟨hk141, h⟩ := ck h
      obtain ⟨hk142, h⟩ := ck h
      refine U_ tbOk 29 [] (aC hk137 (aC hk138 (aC hk139 (aC hk140 (aC hk141 (aC hk142 aN)))))) ?_
      refine C_ h (fun h hb143 => ?_) fun h hb143 => ?_
      ·obtain ⟨hk144, h⟩ := ck h
       refine U_ tbOk 12 [.se Et.bool _ true] (aC hk137 (aC hk144 (aR (aR aN)))) ?_
       exact ih133 (xs116.set ((gt p0 x118).fTo).toNat true, true, IntKind.i64.wrap (x118 + 1)) h _ _ (Imp.trans (Imp.row 2 (by rfl)) (I_ [0, 1, 2]))
      ·refine U_ tbOk 3 [] aN ?_
       exact ih133 (xs116, x117, IntKind.i64.wrap (x118 + 1)) h _ _ (I_ [0, 1, 2])
     ·refine U_ tbOk 0 [] aN ?_
      obtain rfl := sj h
      exact CE (I_ [0, 1, 2])
    ·replace h := (fn79_k3_s (fn79_l2 F p0 p2 n102) o130.1 o130.2).symm.trans h
     refine U_ tbOk 0 [] aN ?_
     exact ih103 (o130.1, o130.2) h _ _ (I_ [0, 1, 2])
   ·refine U_ tbOk 0 [] aN ?_
    obtain rfl := sj h
    exact CE (I_ [0, 1, 2])
  ·replace h := (fn79_k2_s o100).symm.trans h
   refine U_ tbOk 2 [] aN ?_
   obtain rfl := sj h
   exact T_ tbOk.t Tryz.results79 [0, 1, 2]
def fn31 (F : Nat) (p0 : List Instr) : Option ((List Bool)) :=
 Option.bind (fn28 F p0) fun v1 => (bif v1.2 != 0 then (some ([] : List Bool)) else (bif decide ((0 : Int) ≤ (p0.length : Int)) && decide ((p0.length : Int) ≤ (p0.length : Int)) && decide ((1 : Int) * (p0.length : Int) ≤ 281474976710656) && decide ((p0.length : Int) ≤ 9223372036854775807) then (bif inb 0 ((p0.length : Int).toNat) then (Option.bind (fn78 F p0) fun v6 => (Option.bind (fn79 F v6 (p0.length : Int) ((List.replicate (p0.length : Int).toNat false).set (0 : Int).toNat true) true) fun v8 => (some v8))) else none) else none))
theorem c31 (F : Nat) (p0 : List Instr) (r : (List Bool)) (h : fn31 F p0 = some r) : Con Tryz.prog 31 [.sl 0] [(0, .rd Instr.E p0)] 1 (.sl 1) [(1, .row Et.bool 4 r r.length .unk)] 2 := by
 rw [fn31] at h
 refine Con.of_body Tryz.func31 rfl Tryz.ntmps31 rfl fun w F0 ρ => ?_
 obtain ⟨v1, hv2, h⟩ := bd h
 refine U_ tbOk 10 [.cl true [0] (fun _ => c28 F p0 _ hv2)] (aK aN) ?_
 refine C_ h (fun h hb3 => ?_) fun h hb3 => ?_
 ·refine U_ tbOk 1 [] aN ?_
  obtain rfl := sj h
  refine G4.imp (Imp.nil Et.bool 4 2 (by rfl)) ?_
  refine G4.imp (Imp.row 1 (by rfl)) ?_
  exact T_ tbOk.t Tryz.results31 [0, 1]
 ·obtain ⟨hk4, h⟩ := ck h
  obtain ⟨hk5, h⟩ := ck h
  obtain ⟨v6, hv7, h⟩ := bd h
  obtain ⟨v8, hv9, h⟩ := bd h
  refine U_ tbOk 14 [.ms Et.bool false, .se Et.bool _ true, .cl true [0] (fun _ => c78 F p0 _ hv7), .cl true [2, 1] (fun _ => c79 F v6 (p0.length : Int) ((List.replicate (p0.length : Int).toNat false).set (0 : Int).toNat true) true _ hv9)] (aC hk4 (aR (aC hk5 (aR (aR (aK (aK aN))))))) ?_
  obtain rfl := sj h
  exact T_ tbOk.t Tryz.results31 [0, 3]
def fn30_l3 (v3 : (List Edge)) (xs220 : List Bool) (x222 : Int) : Nat → Bool → Int → Option (Bool)
 | 0, _, _ => none
 | n273 + 1, x264, x265 => bif decide (x265 < (v3.length : Int)) then (bif bif x264 then true else (inb x265 v3.length) then (bif bif x264 then true else (bif ((gt v3 x265).fFrom) == x222 then (inb x265 v3.length) else true) then (bif bif x264 then true else (bif ((gt v3 x265).fFrom) == x222 then (inb ((gt v3 x265).fTo) xs220.length) else true) then ((fn30_l3 v3 xs220 x222 n273) (x264 || ((((gt v3 x265).fFrom) == x222) && (gt xs220 ((gt v3 x265).fTo)))) (IntKind.i64.wrap (x265 + 1))) else none) else none) else none) else (some x264)
theorem fn30_l3_s (v3 : (List Edge)) (xs220 : List Bool) (x222 : Int) (n273 : Nat) (x264 : Bool) (x265 : Int) : fn30_l3 v3 xs220 x222 (n273 + 1) x264 x265 = bif decide (x265 < (v3.length : Int)) then (bif bif x264 then true else (inb x265 v3.length) then (bif bif x264 then true else (bif ((gt v3 x265).fFrom) == x222 then (inb x265 v3.length) else true) then (bif bif x264 then true else (bif ((gt v3 x265).fFrom) == x222 then (inb ((gt v3 x265).fTo) xs220.length) else true) then ((fn30_l3 v3 xs220 x222 n273) (x264 || ((((gt v3 x265).fFrom) == x222) && (gt xs220 ((gt v3 x265).fTo)))) (IntKind.i64.wrap (x265 + 1))) else none) else none) else none) else (some x264) := rfl
def fn30_k3 (xs220 : List Bool) (x221 : Bool) (x222 : Int) (rl2 : (List Bool) → Bool → Int → Option ((List Bool) × Bool)) (x270 : Bool) : Option ((List Bool) × Bool) :=
 bif !x270 then (bif inb x222 xs220.length then (rl2 (xs220.set x222.toNat false) true (IntKind.i64.wrap (x222 + 1))) else none) else (rl2 xs220 x221 (IntKind.i64.wrap (x222 + 1)))
theorem fn30_k3_s (xs220 : List Bool) (x221 : Bool) (x222 : Int) (rl2 : (List Bool) → Bool → Int → Option ((List Bool) × Bool)) (x270 : Bool) : fn30_k3 xs220 x221 x222 rl2 x270 = bif !x270 then (bif inb x222 xs220.length then (rl2 (xs220.set x222.toNat false) true (IntKind.i64.wrap (x222 + 1))) else none) else (rl2 xs220 x221 (IntKind.i64.wrap (x222 + 1))) := rfl
def fn30_l2 (F : Nat) (v3 : (List Edge)) : Nat → (List Bool) → Bool → Int → Option ((List Bool) × Bool)
 | 0, _, _, _ => none
 | n253 + 1, xs220, x221, x222 => bif decide (x222 < (xs220.length : Int)) then (bif inb x222 xs220.length then (bif !(gt xs220 x222) then ((fn30_l2 F v3 n253) xs220 x221 (IntKind.i64.wrap (x222 + 1))) else (Option.bind (fn30_l3 v3 xs220 x222 F false 0) fun o271 => (fn30_k3 xs220 x221 x222 (fn30_l2 F v3 n253) o271))) else none) else (some (xs220, x221))
theorem fn30_l2_s (F : Nat) (v3 : (List Edge)) (n253 : Nat) (xs220 : List Bool) (x221 : Bool) (x222 : Int) : fn30_l2 F v3 (n253 + 1) xs220 x221 x222 = bif decide (x222 < (xs220.length : Int)) then (bif inb x222 xs220.length then (bif !(gt xs220 x222) then ((fn30_l2 F v3 n253) xs220 x221 (IntKind.i64.wrap (x222 + 1))) else (Option.bind (fn30_l3 v3 xs220 x222 F false 0) fun o271 => (fn30_k3 xs220 x221 x222 (fn30_l2 F v3 n253) o271))) else none) else (some (xs220, x221)) := rfl
def fn30_k2 (rl1 : (List Bool) → Bool → Option ((List Bool))) (xs249 : List Bool) (x250 : Bool) : Option ((List Bool)) :=
 rl1 xs249 x250
theorem fn30_k2_s (rl1 : (List Bool) → Bool → Option ((List Bool))) (xs249 : List Bool) (x250 : Bool) : fn30_k2 rl1 xs249 x250 = rl1 xs249 x250 := rfl
def fn30_l4 (xs186 : List Bool) : Nat → Int → Option ((Unit) ⊕ (Bool))
 | 0, _ => none
 | n292 + 1, x286 => bif decide (x286 < (xs186.length : Int)) then (bif inb x286 xs186.length then (bif gt xs186 x286 then (some (.inr true)) else ((fn30_l4 xs186 n292) (IntKind.i64.wrap (x286 + 1)))) else none) else (some (.inl ()))
theorem fn30_l4_s (xs186 : List Bool) (n292 : Nat) (x286 : Int) : fn30_l4 xs186 (n292 + 1) x286 = bif decide (x286 < (xs186.length : Int)) then (bif inb x286 xs186.length then (bif gt xs186 x286 then (some (.inr true)) else ((fn30_l4 xs186 n292) (IntKind.i64.wrap (x286 + 1)))) else none) else (some (.inl ())) := rfl
def fn30_k4 : Option (Bool) :=
 some false
theorem fn30_k4_s : fn30_k4 = some false := rfl
def fn30_l1 (F : Nat) (v3 : (List Edge)) : Nat → (List Bool) → Bool → Option ((List Bool))
 | 0, _, _ => none
 | n189 + 1, xs94, x95 => bif x95 then (Option.bind (fn30_l2 F v3 F xs94 false 0) fun o251 => (fn30_k2 (fn30_l1 F v3 n189) o251.1 o251.2)) else (some xs94)
theorem fn30_l1_s (F : Nat) (v3 : (List Edge)) (n189 : Nat) (xs94 : List Bool) (x95 : Bool) : fn30_l1 F v3 (n189 + 1) xs94 x95 = bif x95 then (Option.bind (fn30_l2 F v3 F xs94 false 0) fun o251 => (fn30_k2 (fn30_l1 F v3 n189) o251.1 o251.2)) else (some xs94) := rfl
def fn30_k1 (F : Nat) (xs186 : List Bool) : Option (Bool) :=
 Option.bind (fn30_l4 xs186 F 0) fun o290 => (match o290 with | .inl u => fn30_k4 | .inr u => some u)
theorem fn30_k1_s (F : Nat) (xs186 : List Bool) : fn30_k1 F xs186 = Option.bind (fn30_l4 xs186 F 0) fun o290 => (match o290 with | .inl u => fn30_k4 | .inr u => some u) := rfl
def fn30 (F : Nat) (p0 : List Instr) : Option (Bool) :=
 Option.bind (fn31 F p0) fun v1 => (Option.bind (fn78 F p0) fun v3 => (Option.bind (fn30_l1 F v3 F v1 true) fun o187 => (fn30_k1 F o187)))
theorem c30 (F : Nat) (p0 : List Instr) (r : Bool) (h : fn30 F p0 = some r) : Con Tryz.prog 30 [.sl 0] [(0, .rd Instr.E p0)] 1 (.v (.bool r)) [] 1 := by
 rw [fn30] at h
 refine Con.of_body Tryz.func30 rfl Tryz.ntmps30 rfl fun w F0 ρ => ?_
 obtain ⟨v1, hv2, h⟩ := bd h
 obtain ⟨v3, hv4, h⟩ := bd h
 refine U_ tbOk 8 [.cl true [0] (fun _ => c31 F p0 _ hv2), .cl true [0] (fun _ => c78 F p0 _ hv4)] (aK (aK aN)) ?_
 obtain ⟨o187, hl188, h⟩ := bd h
 refine CT 0 ⟨[(3, .sl 1)], [(0, .rd Instr.E p0), (1, .row Et.bool 4 o187 o187.length .unk)], 2⟩ ?_ ?_
 ·have h0191 := h
  clear h
  refine G4.imp (I_ [0, 1, 2]) (LP (fun (n : Nat) (s : (List Bool) × Bool) => fn30_l1 F v3 n s.1 s.2) (fun (s : (List Bool) × Bool) => ⟨[(3, .sl 1), (4, .sl 2), (5, .v (.bool s.2))], [(0, .rd Instr.E p0), (1, .row Et.bool 4 s.1 s.1.length .unk), (2, .row Edge.E 142 v3 v3.length .iff)], 3⟩) (fun _ => rfl) (s0 := (v1, true)) hl188 ?_)
  clear hl188
  rintro R192 n189 ⟨xs94, x95⟩ h ih190
  replace h := (fn30_l1_s F v3 n189 xs94 x95).symm.trans h
  refine U_ tbOk 1 [] aN ?_
  refine C_ h (fun h hb193 => ?_) fun h hb193 => ?_
  ·refine U_ tbOk 2 [] aN ?_
   obtain ⟨o251, hl252, h⟩ := bd h
   refine CT 2 ⟨[(3, .sl 1), (4, .sl 2), (5, .v (.bool o251.2))], [(0, .rd Instr.E p0), (1, .row Et.bool 4 o251.1 o251.1.length .unk), (2, .row Edge.E 142 v3 v3.length .iff)], 3⟩ ?_ ?_
   ·have h0255 := h
    clear h
    refine G4.imp (I_ [0, 1, 2]) (LP (fun (n : Nat) (s : (List Bool) × Bool × Int) => fn30_l2 F v3 n s.1 s.2.1 s.2.2) (fun (s : (List Bool) × Bool × Int) => ⟨[(3, .sl 1), (4, .sl 2), (5, .v (.bool s.2.1)), (6, .v (.int .i64 s.2.2))], [(0, .rd Instr.E p0), (1, .row Et.bool 4 s.1 s.1.length .unk), (2, .row Edge.E 142 v3 v3.length .iff)], 3⟩) (fun _ => rfl) (s0 := (xs94, false, 0)) hl252 ?_)
    clear hl252
    rintro R256 n253 ⟨xs220, x221, x222⟩ h ih254
    replace h := (fn30_l2_s F v3 n253 xs220 x221 x222).symm.trans h
    refine U_ tbOk 4 [] aN ?_
    refine C_ h (fun h hb257 => ?_) fun h hb257 => ?_
    ·obtain ⟨hk258, h⟩ := ck h
     refine U_ tbOk 5 [] (aC hk258 aN) ?_
     refine C_ h (fun h hb259 => ?_) fun h hb259 => ?_
     ·refine U_ tbOk 3 [] aN ?_
      exact ih254 (xs220, x221, IntKind.i64.wrap (x222 + 1)) h _ _ (I_ [0, 1, 2])
     ·refine U_ tbOk 2 [] aN ?_
      obtain ⟨o271, hl272, h⟩ := bd h
      refine CT 4 ⟨[(3, .sl 1), (4, .sl 2), (5, .v (.bool x221)), (6, .v (.int .i64 x222)), (7, .v (.bool o271))], [(0, .rd Instr.E p0), (1, .row Et.bool 4 xs220 xs220.length .unk), (2, .row Edge.E 142 v3 v3.length .iff)], 3⟩ ?_ ?_
      ·have h0275 := h
       clear h
       refine G4.imp (I_ [0, 1, 2]) (LP (fun (n : Nat) (s : Bool × Int) => fn30_l3 v3 xs220 x222 n s.1 s.2) (fun (s : Bool × Int) => ⟨[(3, .sl 1), (4, .sl 2), (5, .v (.bool x221)), (6, .v (.int .i64 x222)), (7, .v (.bool s.1)), (8, .v (.int .i64 s.2))], [(0, .rd Instr.E p0), (1, .row Et.bool 4 xs220 xs220.length .unk), (2, .row Edge.E 142 v3 v3.length .iff)], 3⟩) (fun _ => rfl) (s0 := (false, 0)) hl272 ?_)
       clear hl272
       rintro R276 n273 ⟨x264, x265⟩ h ih274
       replace h := (fn30_l3_s v3 xs220 x222 n273 x264 x265).symm.trans h
       refine U_ tbOk 4 [] aN ?_
       refine C_ h (fun h hb277 => ?_) fun h hb277 => ?_
       ·obtain ⟨hk278, h⟩ := ck h
        obtain ⟨hk279, h⟩ := ck h
        obtain ⟨hk280, h⟩ := ck h
        refine U_ tbOk 24 [] (aC hk278 (aC hk279 (aC hk280 aN))) ?_
        exact ih274 (x264 || ((((gt v3 x265).fFrom) == x222) && (gt xs220 ((gt v3 x265).fTo))), IntKind.i64.wrap (x265 + 1)) h _ _ (I_ [0, 1, 2])
       ·refine U_ tbOk 0 [] aN ?_
        obtain rfl := sj h
        exact CE (I_ [0, 1, 2])
      ·replace h := (fn30_k3_s xs220 x221 x222 (fn30_l2 F v3 n253) o271).symm.trans h
       refine U_ tbOk 2 [] aN ?_
       refine C_ h (fun h hb281 => ?_) fun h hb281 => ?_
       ·obtain ⟨hk282, h⟩ := ck h
        refine U_ tbOk 8 [.se Et.bool _ false] (aC hk282 (aR (aR aN))) ?_
        exact ih254 (xs220.set x222.toNat false, true, IntKind.i64.wrap (x222 + 1)) h _ _ (Imp.trans (Imp.row 1 (by rfl)) (I_ [0, 1, 2]))
       ·refine U_ tbOk 3 [] aN ?_
        exact ih254 (xs220, x221, IntKind.i64.wrap (x222 + 1)) h _ _ (I_ [0, 1, 2])
    ·refine U_ tbOk 0 [] aN ?_
     obtain rfl := sj h
     exact CE (I_ [0, 1, 2])
   ·replace h := (fn30_k2_s (fn30_l1 F v3 n189) o251.1 o251.2).symm.trans h
    refine U_ tbOk 0 [] aN ?_
    exact ih190 (o251.1, o251.2) h _ _ (I_ [0, 1, 2])
  ·refine U_ tbOk 0 [] aN ?_
   obtain rfl := sj h
   exact CE (I_ [0, 1])
 ·replace h := (fn30_k1_s F o187).symm.trans h
  refine U_ tbOk 1 [] aN ?_
  obtain ⟨o290, hl291, h⟩ := bd h
  refine CTS 6 (fun u => ⟨[], [(0, .rd Instr.E p0)], 1⟩) o290 ?_ (fun u hu => ?_)
  ·have h0294 := h
   clear h
   refine G4.imp (I_ [0, 1]) (LP (fun (n : Nat) (s : Int) => fn30_l4 o187 n s) (fun (s : Int) => ⟨[(3, .sl 1), (9, .v (.int .i64 s))], [(0, .rd Instr.E p0), (1, .row Et.bool 4 o187 o187.length .unk)], 2⟩) (fun _ => rfl) (s0 := 0) hl291 ?_)
   clear hl291
   rintro R295 n292 x286 h ih293
   replace h := (fn30_l4_s o187 n292 x286).symm.trans h
   refine U_ tbOk 4 [] aN ?_
   refine C_ h (fun h hb296 => ?_) fun h hb296 => ?_
   ·obtain ⟨hk297, h⟩ := ck h
    refine U_ tbOk 4 [] (aC hk297 aN) ?_
    refine C_ h (fun h hb298 => ?_) fun h hb298 => ?_
    ·refine U_ tbOk 1 [] aN ?_
     obtain rfl := sj h
     replace h := h0294
     refine U_ tbOk 0 [] aN ?_
     obtain rfl := sj h
     exact T_ tbOk.t Tryz.results30 [0]
    ·refine U_ tbOk 3 [] aN ?_
     exact ih293 (IntKind.i64.wrap (x286 + 1)) h _ _ (I_ [0, 1])
   ·refine U_ tbOk 0 [] aN ?_
    obtain rfl := sj h
    exact CES _ rfl (I_ [0])
  ·subst hu
   replace h := (fn30_k4_s).symm.trans h
   refine U_ tbOk 1 [] aN ?_
   obtain rfl := sj h
   exact T_ tbOk.t Tryz.results30 [0]
def fn122_l2 (xs21 : List Bool) : Nat → (List Int) → Int → Option ((List Int))
 | 0, _, _ => none
 | n47 + 1, xs38, x39 => bif decide (x39 < (xs21.length : Int)) then (bif inb x39 xs21.length then (bif gt xs21 x39 then (bif decide ((xs38.length + ([x39] : List Int).length) * 8 ≤ 140737488355328 ∧ xs38.length + ([x39] : List Int).length ≤ 9223372036854775807) then ((fn122_l2 xs21 n47) (xs38 ++ ([x39] : List Int)) (IntKind.i64.wrap (x39 + 1))) else none) else ((fn122_l2 xs21 n47) xs38 (IntKind.i64.wrap (x39 + 1)))) else none) else (some xs38)
theorem fn122_l2_s (xs21 : List Bool) (n47 : Nat) (xs38 : List Int) (x39 : Int) : fn122_l2 xs21 (n47 + 1) xs38 x39 = bif decide (x39 < (xs21.length : Int)) then (bif inb x39 xs21.length then (bif gt xs21 x39 then (bif decide ((xs38.length + ([x39] : List Int).length) * 8 ≤ 140737488355328 ∧ xs38.length + ([x39] : List Int).length ≤ 9223372036854775807) then ((fn122_l2 xs21 n47) (xs38 ++ ([x39] : List Int)) (IntKind.i64.wrap (x39 + 1))) else none) else ((fn122_l2 xs21 n47) xs38 (IntKind.i64.wrap (x39 + 1)))) else none) else (some xs38) := rfl
def fn122_k2 (xs44 : List Int) : Option (((List Int))) :=
 some xs44
theorem fn122_k2_s (xs44 : List Int) : fn122_k2 xs44 = some xs44 := rfl
def fn122_l1 (p0 : List Instr) (v5 : (List Bool)) : Nat → (List Bool) → Int → Option ((List Bool))
 | 0, _, _ => none
 | n24 + 1, xs13, x14 => bif decide (x14 < (p0.length : Int)) then (bif inb x14 v5.length then (bif !(gt v5 x14) then ((fn122_l1 p0 v5 n24) xs13 (IntKind.i64.wrap (x14 + 1))) else (bif inb x14 p0.length then (bif (fn120 (gt p0 x14) x14).2 then (bif inb ((fn120 (gt p0 x14) x14).1) xs13.length then ((fn122_l1 p0 v5 n24) (xs13.set ((fn120 (gt p0 x14) x14).1).toNat true) (IntKind.i64.wrap (x14 + 1))) else none) else ((fn122_l1 p0 v5 n24) xs13 (IntKind.i64.wrap (x14 + 1)))) else none)) else none) else (some xs13)
theorem fn122_l1_s (p0 : List Instr) (v5 : (List Bool)) (n24 : Nat) (xs13 : List Bool) (x14 : Int) : fn122_l1 p0 v5 (n24 + 1) xs13 x14 = bif decide (x14 < (p0.length : Int)) then (bif inb x14 v5.length then (bif !(gt v5 x14) then ((fn122_l1 p0 v5 n24) xs13 (IntKind.i64.wrap (x14 + 1))) else (bif inb x14 p0.length then (bif (fn120 (gt p0 x14) x14).2 then (bif inb ((fn120 (gt p0 x14) x14).1) xs13.length then ((fn122_l1 p0 v5 n24) (xs13.set ((fn120 (gt p0 x14) x14).1).toNat true) (IntKind.i64.wrap (x14 + 1))) else none) else ((fn122_l1 p0 v5 n24) xs13 (IntKind.i64.wrap (x14 + 1)))) else none)) else none) else (some xs13) := rfl
def fn122_k1 (F : Nat) (xs21 : List Bool) : Option (((List Int))) :=
 Option.bind (fn122_l2 xs21 F ([] : List Int) 0) fun o45 => (fn122_k2 o45)
theorem fn122_k1_s (F : Nat) (xs21 : List Bool) : fn122_k1 F xs21 = Option.bind (fn122_l2 xs21 F ([] : List Int) 0) fun o45 => (fn122_k2 o45) := rfl
def fn122 (F : Nat) (p0 : List Instr) : Option ((List Int)) :=
 Option.bind (fn28 F p0) fun v1 => (bif v1.2 != 0 then (some ([] : List Int)) else (bif decide ((0 : Int) ≤ (p0.length : Int)) && decide ((p0.length : Int) ≤ (p0.length : Int)) && decide ((1 : Int) * (p0.length : Int) ≤ 281474976710656) && decide ((p0.length : Int) ≤ 9223372036854775807) then (Option.bind (fn69 F p0) fun v5 => (Option.bind (fn122_l1 p0 v5 F (List.replicate (p0.length : Int).toNat false) 0) fun o22 => (fn122_k1 F o22))) else none))
theorem c122 (F : Nat) (p0 : List Instr) (r : (List Int)) (h : fn122 F p0 = some r) : Con Tryz.prog 122 [.sl 0] [(0, .rd Instr.E p0)] 1 (.sl 1) [(1, .row (Et.int .i64) 3 r r.length .iff)] 2 := by
 rw [fn122] at h
 refine Con.of_body Tryz.func122 rfl Tryz.ntmps122 rfl fun w F0 ρ => ?_
 obtain ⟨v1, hv2, h⟩ := bd h
 refine U_ tbOk 10 [.cl true [0] (fun _ => c28 F p0 _ hv2)] (aK aN) ?_
 refine C_ h (fun h hb3 => ?_) fun h hb3 => ?_
 ·refine U_ tbOk 1 [] aN ?_
  obtain rfl := sj h
  refine G4.imp (Imp.nil (Et.int .i64) 3 2 (by rfl)) ?_
  exact T_ tbOk.t Tryz.results122 [0, 1]
 ·obtain ⟨hk4, h⟩ := ck h
  obtain ⟨v5, hv6, h⟩ := bd h
  refine U_ tbOk 8 [.ms Et.bool false, .cl true [0] (fun _ => c69 F p0 _ hv6)] (aC hk4 (aR (aK aN))) ?_
  obtain ⟨o22, hl23, h⟩ := bd h
  refine CT 0 ⟨[(5, .sl 1)], [(0, .rd Instr.E p0), (1, .row Et.bool 4 o22 o22.length .unk)], 2⟩ ?_ ?_
  ·have h026 := h
   clear h
   refine G4.imp (Imp.trans (Imp.row 1 (by rfl)) (I_ [0, 1, 2])) (LP (fun (n : Nat) (s : (List Bool) × Int) => fn122_l1 p0 v5 n s.1 s.2) (fun (s : (List Bool) × Int) => ⟨[(0, .sl 0), (5, .sl 1), (6, .sl 2), (7, .v (.int .i64 s.2))], [(0, .rd Instr.E p0), (1, .row Et.bool 4 s.1 s.1.length .unk), (2, .row Et.bool 4 v5 v5.length .unk)], 3⟩) (fun _ => rfl) (s0 := (List.replicate (p0.length : Int).toNat false, 0)) hl23 ?_)
   clear hl23
   rintro R27 n24 ⟨xs13, x14⟩ h ih25
   replace h := (fn122_l1_s p0 v5 n24 xs13 x14).symm.trans h
   refine U_ tbOk 4 [] aN ?_
   refine C_ h (fun h hb28 => ?_) fun h hb28 => ?_
   ·obtain ⟨hk29, h⟩ := ck h
    refine U_ tbOk 5 [] (aC hk29 aN) ?_
    refine C_ h (fun h hb30 => ?_) fun h hb30 => ?_
    ·refine U_ tbOk 3 [] aN ?_
     exact ih25 (xs13, IntKind.i64.wrap (x14 + 1)) h _ _ (I_ [0, 1, 2])
    ·obtain ⟨hk31, h⟩ := ck h
     refine U_ tbOk 12 [.cl true [] (fun _ => c120 (gt p0 x14) x14 _ rfl)] (aC hk31 (aK aN)) ?_
     refine C_ h (fun h hb32 => ?_) fun h hb32 => ?_
     ·obtain ⟨hk33, h⟩ := ck h
      refine U_ tbOk 7 [.se Et.bool _ true] (aC hk33 (aR (aR aN))) ?_
      exact ih25 (xs13.set ((fn120 (gt p0 x14) x14).1).toNat true, IntKind.i64.wrap (x14 + 1)) h _ _ (Imp.trans (Imp.row 1 (by rfl)) (I_ [0, 1, 2]))
     ·refine U_ tbOk 3 [] aN ?_
      exact ih25 (xs13, IntKind.i64.wrap (x14 + 1)) h _ _ (I_ [0, 1, 2])
   ·refine U_ tbOk 0 [] aN ?_
    obtain rfl := sj h
    exact CE (I_ [0, 1])
  ·replace h := (fn122_k1_s F o22).symm.trans h
   refine U_ tbOk 2 [] aN ?_
   refine G4.imp (Imp.nil (Et.int .i64) 3 10 (by rfl)) ?_
   obtain ⟨o45, hl46, h⟩ := bd h
   refine CT 2 ⟨[(10, .sl 1)], [(0, .rd Instr.E p0), (1, .row (Et.int .i64) 3 o45 o45.length .iff)], 2⟩ ?_ ?_
   ·have h049 := h
    clear h
    refine G4.imp (I_ [0, 1, 2]) (LP (fun (n : Nat) (s : (List Int) × Int) => fn122_l2 o22 n s.1 s.2) (fun (s : (List Int) × Int) => ⟨[(5, .sl 1), (10, .sl 2), (11, .v (.int .i64 s.2))], [(0, .rd Instr.E p0), (1, .row Et.bool 4 o22 o22.length .unk), (2, .row (Et.int .i64) 3 s.1 s.1.length .iff)], 3⟩) (fun _ => rfl) (s0 := (([] : List Int), 0)) hl46 ?_)
    clear hl46
    rintro R50 n47 ⟨xs38, x39⟩ h ih48
    replace h := (fn122_l2_s o22 n47 xs38 x39).symm.trans h
    refine U_ tbOk 4 [] aN ?_
    refine C_ h (fun h hb51 => ?_) fun h hb51 => ?_
    ·obtain ⟨hk52, h⟩ := ck h
     refine U_ tbOk 4 [] (aC hk52 aN) ?_
     refine C_ h (fun h hb53 => ?_) fun h hb53 => ?_
     ·obtain ⟨hk54, h⟩ := ck h
      refine U_ tbOk 8 [.bs (Et.int .i64) ([x39] : List Int), .ap (Et.int .i64) .iff _ _] (aR (aR (aR (aR (aC hk54 (aC rfl aN)))))) ?_
      exact ih48 (xs38 ++ ([x39] : List Int), IntKind.i64.wrap (x39 + 1)) h _ _ (I_ [0, 1, 4])
     ·refine U_ tbOk 3 [] aN ?_
      exact ih48 (xs38, IntKind.i64.wrap (x39 + 1)) h _ _ (I_ [0, 1, 2])
    ·refine U_ tbOk 0 [] aN ?_
     obtain rfl := sj h
     exact CE (I_ [0, 2])
   ·replace h := (fn122_k2_s o45).symm.trans h
    refine U_ tbOk 2 [] aN ?_
    obtain rfl := sj h
    exact T_ tbOk.t Tryz.results122 [0, 1]
def fn85 (p0 : RSet) (p1 : Instr) : Option (Bool) :=
 bif bif !(fn124 p1) then true else (inb p1.fSrc 11) then (some ((!(fn124 p1)) || (gt p0.fnumber.l p1.fSrc))) else none
theorem c85 (p0 : RSet) (p1 : Instr) (r : Bool) (h : fn85 p0 p1 = some r) : Con Tryz.prog 85 [.ag [.ar En.bool 11 p0.fnumber, .v (.bool p0.fctx), .ar En.bool 512 p0.fbytes], .ag [.v (.int .u8 p1.fOp), .v (.int .u8 p1.fDst), .v (.int .u8 p1.fSrc), .v (.int .i16 p1.fOff), .v (.int .i32 p1.fImm)]] [] 0 (.v (.bool r)) [] 0 := by
 rw [fn85] at h
 refine Con.of_body Tryz.func85 rfl Tryz.ntmps85 rfl fun w F0 ρ => ?_
 obtain ⟨hk1, h⟩ := ck h
 refine U_ tbOk 14 [.cl true [] (fun _ => c124 p1 _ rfl)] (aK (aC hk1 aN)) ?_
 obtain rfl := sj h
 exact T_ tbOk.t Tryz.results85 []
def fn81_l1 (p2 : Int) (v5 : (List Int)) : Nat → Int → Option ((Unit) ⊕ (Bool))
 | 0, _ => none
 | n16 + 1, x10 => bif decide (x10 < (v5.length : Int)) then (bif inb x10 v5.length then (bif (gt v5 x10) == p2 then (some (.inr false)) else ((fn81_l1 p2 v5 n16) (IntKind.i64.wrap (x10 + 1)))) else none) else (some (.inl ()))
theorem fn81_l1_s (p2 : Int) (v5 : (List Int)) (n16 : Nat) (x10 : Int) : fn81_l1 p2 v5 (n16 + 1) x10 = bif decide (x10 < (v5.length : Int)) then (bif inb x10 v5.length then (bif (gt v5 x10) == p2 then (some (.inr false)) else ((fn81_l1 p2 v5 n16) (IntKind.i64.wrap (x10 + 1)))) else none) else (some (.inl ())) := rfl
def fn81_k1 (p1 : List Instr) (p2 : Int) (p3 : PType) : Option (Bool) :=
 bif p2 == 0 then (some false) else (bif inb (IntKind.i64.wrap (p2 - 1)) p1.length then (some ((((((gt p1 (IntKind.i64.wrap (p2 - 1))).fOp) == 183) && (((gt p1 (IntKind.i64.wrap (p2 - 1))).fDst) == 0)) && (decide (p3.fLo ≤ (IntKind.i64.wrap ((gt p1 (IntKind.i64.wrap (p2 - 1))).fImm))))) && (decide ((IntKind.i64.wrap ((gt p1 (IntKind.i64.wrap (p2 - 1))).fImm)) ≤ p3.fHi)))) else none)
theorem fn81_k1_s (p1 : List Instr) (p2 : Int) (p3 : PType) : fn81_k1 p1 p2 p3 = bif p2 == 0 then (some false) else (bif inb (IntKind.i64.wrap (p2 - 1)) p1.length then (some ((((((gt p1 (IntKind.i64.wrap (p2 - 1))).fOp) == 183) && (((gt p1 (IntKind.i64.wrap (p2 - 1))).fDst) == 0)) && (decide (p3.fLo ≤ (IntKind.i64.wrap ((gt p1 (IntKind.i64.wrap (p2 - 1))).fImm))))) && (decide ((IntKind.i64.wrap ((gt p1 (IntKind.i64.wrap (p2 - 1))).fImm)) ≤ p3.fHi)))) else none) := rfl
def fn81 (F : Nat) (p0 : RSet) (p1 : List Instr) (p2 : Int) (p3 : PType) : Option (Bool) :=
 bif inb p2 p1.length then (bif (fn72 (gt p1 p2)) == 0 then (some true) else (bif (fn72 (gt p1 p2)) == 128 then (some false) else (bif (fn72 (gt p1 p2)) == 144 then (Option.bind (fn122 F p1) fun v5 => (Option.bind (fn81_l1 p2 v5 F 0) fun o14 => (match o14 with | .inl u => fn81_k1 p1 p2 p3 | .inr u => some u))) else (bif inb ((gt p1 p2).fDst) 11 then (Option.bind (bif bif gt p0.fnumber.l ((gt p1 p2).fDst) then true else false then fn85 p0 (gt p1 p2) else some false) fun v26 => (some ((gt p0.fnumber.l ((gt p1 p2).fDst)) && v26))) else none)))) else none
theorem c81 (F : Nat) (p0 : RSet) (p1 : List Instr) (p2 : Int) (p3 : PType) (r : Bool) (h : fn81 F p0 p1 p2 p3 = some r) : Con Tryz.prog 81 [.ag [.ar En.bool 11 p0.fnumber, .v (.bool p0.fctx), .ar En.bool 512 p0.fbytes], .sl 0, .v (.int .i64 p2), .ag [.v (.string p3.fName), .v (.int .i64 p3.fCtx), .sl 1, .sl 2, .v (.int .i64 p3.fLo), .v (.int .i64 p3.fHi)]] [(0, .rd Instr.E p1), (1, .rd Fld.E p3.fFields), (2, .rd Need.E p3.fNeeds)] 3 (.v (.bool r)) [] 3 := by
 rw [fn81] at h
 refine Con.of_body Tryz.func81 rfl Tryz.ntmps81 rfl fun w F0 ρ => ?_
 obtain ⟨hk1, h⟩ := ck h
 refine U_ tbOk 13 [.cl true [] (fun _ => c72 (gt p1 p2) _ rfl)] (aC hk1 (aK aN)) ?_
 refine C_ h (fun h hb2 => ?_) fun h hb2 => ?_
 ·refine U_ tbOk 1 [] aN ?_
  obtain rfl := sj h
  exact T_ tbOk.t Tryz.results81 [0, 1, 2]
 ·refine U_ tbOk 2 [] aN ?_
  refine C_ h (fun h hb3 => ?_) fun h hb3 => ?_
  ·refine U_ tbOk 1 [] aN ?_
   obtain rfl := sj h
   exact T_ tbOk.t Tryz.results81 [0, 1, 2]
  ·refine U_ tbOk 2 [] aN ?_
   refine C_ h (fun h hb4 => ?_) fun h hb4 => ?_
   ·obtain ⟨v5, hv6, h⟩ := bd h
    refine U_ tbOk 4 [.cl true [0] (fun _ => c122 F p1 _ hv6)] (aK aN) ?_
    obtain ⟨o14, hl15, h⟩ := bd h
    refine CTS 1 (fun u => ⟨[(1, .sl 0), (2, .v (.int .i64 p2)), (7, .p 3 0)], [(0, .rd Instr.E p1), (1, .rd Fld.E p3.fFields), (2, .rd Need.E p3.fNeeds), (3, .cells 26 [.v (.string p3.fName), .v (.int .i64 p3.fCtx), .sl 1, .sl 2, .v (.int .i64 p3.fLo), .v (.int .i64 p3.fHi)])], 4⟩) o14 ?_ (fun u hu => ?_)
    ·have h018 := h
     clear h
     refine G4.imp (I_ [0, 1, 2, 4, 6]) (LP (fun (n : Nat) (s : Int) => fn81_l1 p2 v5 n s) (fun (s : Int) => ⟨[(1, .sl 0), (2, .v (.int .i64 p2)), (7, .p 3 0), (10, .sl 4), (11, .v (.int .i64 s))], [(0, .rd Instr.E p1), (1, .rd Fld.E p3.fFields), (2, .rd Need.E p3.fNeeds), (3, .cells 26 [.v (.string p3.fName), .v (.int .i64 p3.fCtx), .sl 1, .sl 2, .v (.int .i64 p3.fLo), .v (.int .i64 p3.fHi)]), (4, .row (Et.int .i64) 3 v5 v5.length .iff)], 5⟩) (fun _ => rfl) (s0 := 0) hl15 ?_)
     clear hl15
     rintro R19 n16 x10 h ih17
     replace h := (fn81_l1_s p2 v5 n16 x10).symm.trans h
     refine U_ tbOk 4 [] aN ?_
     refine C_ h (fun h hb20 => ?_) fun h hb20 => ?_
     ·obtain ⟨hk21, h⟩ := ck h
      refine U_ tbOk 6 [] (aC hk21 aN) ?_
      refine C_ h (fun h hb22 => ?_) fun h hb22 => ?_
      ·refine U_ tbOk 1 [] aN ?_
       obtain rfl := sj h
       replace h := h018
       refine U_ tbOk 0 [] aN ?_
       obtain rfl := sj h
       exact T_ tbOk.t Tryz.results81 [0, 1, 2]
      ·refine U_ tbOk 3 [] aN ?_
       exact ih17 (IntKind.i64.wrap (x10 + 1)) h _ _ (I_ [0, 1, 2, 3, 4])
     ·refine U_ tbOk 0 [] aN ?_
      obtain rfl := sj h
      exact CES _ rfl (I_ [0, 1, 2, 3])
    ·subst hu
     replace h := (fn81_k1_s p1 p2 p3).symm.trans h
     refine U_ tbOk 2 [] aN ?_
     refine C_ h (fun h hb23 => ?_) fun h hb23 => ?_
     ·refine U_ tbOk 1 [] aN ?_
      obtain rfl := sj h
      exact T_ tbOk.t Tryz.results81 [0, 1, 2]
     ·obtain ⟨hk24, h⟩ := ck h
      refine U_ tbOk 32 [] (aC hk24 aN) ?_
      obtain rfl := sj h
      exact T_ tbOk.t Tryz.results81 [0, 1, 2]
   ·obtain ⟨hk25, h⟩ := ck h
    obtain ⟨v26, hv27, h⟩ := bd h
    refine U_ tbOk 11 [.cl (bif gt p0.fnumber.l ((gt p1 p2).fDst) then true else false) [] (fun hg => c85 p0 (gt p1 p2) _ (gcl hg hv27))] (aC hk25 (aR (aR (aK aN)))) ?_
    obtain rfl := sj h
    exact T_ tbOk.t Tryz.results81 [0, 1, 2]
def fn83 (p0 : Instr) : Int :=
 bif (iand .u8 p0.fOp 24) == 0 then 4 else (bif (iand .u8 p0.fOp 24) == 8 then 2 else (bif (iand .u8 p0.fOp 24) == 16 then 1 else 8))
theorem c83 (p0 : Instr) (r : Int) (h : fn83 p0 = r) : Con Tryz.prog 83 [.ag [.v (.int .u8 p0.fOp), .v (.int .u8 p0.fDst), .v (.int .u8 p0.fSrc), .v (.int .i16 p0.fOff), .v (.int .i32 p0.fImm)]] [] 0 (.v (.int .i64 r)) [] 0 := by
 rw [fn83] at h
 refine Con.of_body Tryz.func83 rfl Tryz.ntmps83 rfl fun w F0 ρ => ?_
 refine U_ tbOk 7 [] aN ?_
 refine C_ h (fun h hb1 => ?_) fun h hb1 => ?_
 ·refine U_ tbOk 1 [] aN ?_
  subst h
  exact T_ tbOk.t Tryz.results83 []
 ·refine U_ tbOk 2 [] aN ?_
  refine C_ h (fun h hb2 => ?_) fun h hb2 => ?_
  ·refine U_ tbOk 1 [] aN ?_
   subst h
   exact T_ tbOk.t Tryz.results83 []
  ·refine U_ tbOk 2 [] aN ?_
   refine C_ h (fun h hb3 => ?_) fun h hb3 => ?_
   ·refine U_ tbOk 1 [] aN ?_
    subst h
    exact T_ tbOk.t Tryz.results83 []
   ·refine U_ tbOk 1 [] aN ?_
    subst h
    exact T_ tbOk.t Tryz.results83 []
def fn82 (p0 : Instr) : Int × Bool :=
 (IntKind.i64.wrap ((512 : Int) + (IntKind.i64.wrap p0.fOff)), (decide ((-512 : Int) ≤ (IntKind.i64.wrap p0.fOff))) && (decide ((IntKind.i64.wrap ((IntKind.i64.wrap p0.fOff) + (fn83 p0))) ≤ 0)))
theorem c82 (p0 : Instr) (r : Int × Bool) (h : fn82 p0 = r) : Con Tryz.prog 82 [.ag [.v (.int .u8 p0.fOp), .v (.int .u8 p0.fDst), .v (.int .u8 p0.fSrc), .v (.int .i16 p0.fOff), .v (.int .i32 p0.fImm)]] [] 0 (.tu [.v (.int .i64 r.1), .v (.bool r.2)]) [] 0 := by
 rw [fn82] at h
 refine Con.of_body Tryz.func82 rfl Tryz.ntmps82 rfl fun w F0 ρ => ?_
 refine U_ tbOk 20 [.cl (bif decide ((-512 : Int) ≤ (IntKind.i64.wrap p0.fOff)) then true else false) [] (fun _ => c83 p0 _ rfl)] (aR (aR (aK aN))) ?_
 subst h
 exact T_ tbOk.t Tryz.results82 []
def fn123_l1 (p0 : PType) (p1 : Int) (p2 : Int) : Nat → Int → Option ((Unit) ⊕ ((Fld × Bool)))
 | 0, _ => none
 | n12 + 1, x5 => bif decide (x5 < (p0.fFields.length : Int)) then (bif inb x5 p0.fFields.length then (bif bif ((gt p0.fFields x5).fOff) == p1 then (inb x5 p0.fFields.length) else true then (bif (((gt p0.fFields x5).fOff) == p1) && (((gt p0.fFields x5).fSize) == p2) then (some (.inr ((gt p0.fFields x5), true))) else ((fn123_l1 p0 p1 p2 n12) (IntKind.i64.wrap (x5 + 1)))) else none) else none) else (some (.inl ()))
theorem fn123_l1_s (p0 : PType) (p1 : Int) (p2 : Int) (n12 : Nat) (x5 : Int) : fn123_l1 p0 p1 p2 (n12 + 1) x5 = bif decide (x5 < (p0.fFields.length : Int)) then (bif inb x5 p0.fFields.length then (bif bif ((gt p0.fFields x5).fOff) == p1 then (inb x5 p0.fFields.length) else true then (bif (((gt p0.fFields x5).fOff) == p1) && (((gt p0.fFields x5).fSize) == p2) then (some (.inr ((gt p0.fFields x5), true))) else ((fn123_l1 p0 p1 p2 n12) (IntKind.i64.wrap (x5 + 1)))) else none) else none) else (some (.inl ())) := rfl
def fn123_k1 : Option ((Fld × Bool)) :=
 some ((⟨0, 0, 0, false⟩ : Fld), false)
theorem fn123_k1_s : fn123_k1 = some ((⟨0, 0, 0, false⟩ : Fld), false) := rfl
def fn123 (F : Nat) (p0 : PType) (p1 : Int) (p2 : Int) : Option (Fld × Bool) :=
 Option.bind (fn123_l1 p0 p1 p2 F 0) fun o10 => (match o10 with | .inl u => fn123_k1 | .inr u => some u)
theorem c123 (F : Nat) (p0 : PType) (p1 : Int) (p2 : Int) (r : Fld × Bool) (h : fn123 F p0 p1 p2 = some r) : Con Tryz.prog 123 [.ag [.v (.string p0.fName), .v (.int .i64 p0.fCtx), .sl 0, .sl 1, .v (.int .i64 p0.fLo), .v (.int .i64 p0.fHi)], .v (.int .i64 p1), .v (.int .i64 p2)] [(0, .rd Fld.E p0.fFields), (1, .rd Need.E p0.fNeeds)] 2 (.tu [.ag [.v (.int .i64 r.1.fOff), .v (.int .i64 r.1.fSize), .v (.int .u8 r.1.fKind), .v (.bool r.1.fWrite)], .v (.bool r.2)]) [] 2 := by
 rw [fn123] at h
 refine Con.of_body Tryz.func123 rfl Tryz.ntmps123 rfl fun w F0 ρ => ?_
 refine U_ tbOk 4 [] aN ?_
 obtain ⟨o10, hl11, h⟩ := bd h
 refine CTS 0 (fun u => ⟨[(6, .p 2 0)], [(0, .rd Fld.E p0.fFields), (1, .rd Need.E p0.fNeeds), (2, .cells 51 [.v (.int .i64 0), .v (.int .i64 0), .v (.int .u8 0), .v (.bool false)])], 3⟩) o10 ?_ (fun u hu => ?_)
 ·have h014 := h
  clear h
  refine G4.imp (I_ [0, 1, 2, 3]) (LP (fun (n : Nat) (s : Int) => fn123_l1 p0 p1 p2 n s) (fun (s : Int) => ⟨[(1, .v (.int .i64 p1)), (2, .v (.int .i64 p2)), (3, .p 2 0), (6, .p 3 0), (8, .v (.int .i64 s))], [(0, .rd Fld.E p0.fFields), (1, .rd Need.E p0.fNeeds), (2, .cells 26 [.v (.string p0.fName), .v (.int .i64 p0.fCtx), .sl 0, .sl 1, .v (.int .i64 p0.fLo), .v (.int .i64 p0.fHi)]), (3, .cells 51 [.v (.int .i64 0), .v (.int .i64 0), .v (.int .u8 0), .v (.bool false)])], 4⟩) (fun _ => rfl) (s0 := 0) hl11 ?_)
  clear hl11
  rintro R15 n12 x5 h ih13
  replace h := (fn123_l1_s p0 p1 p2 n12 x5).symm.trans h
  refine U_ tbOk 5 [] aN ?_
  refine C_ h (fun h hb16 => ?_) fun h hb16 => ?_
  ·obtain ⟨hk17, h⟩ := ck h
   obtain ⟨hk18, h⟩ := ck h
   refine U_ tbOk 18 [] (aC hk17 (aC hk18 aN)) ?_
   refine C_ h (fun h hb19 => ?_) fun h hb19 => ?_
   ·refine U_ tbOk 7 [] (aC hk17 aN) ?_
    obtain rfl := sj h
    replace h := h014
    refine U_ tbOk 0 [] aN ?_
    obtain rfl := sj h
    exact T_ tbOk.t Tryz.results123 [0, 1]
   ·refine U_ tbOk 3 [] aN ?_
    exact ih13 (IntKind.i64.wrap (x5 + 1)) h _ _ (I_ [0, 1, 2, 3])
  ·refine U_ tbOk 0 [] aN ?_
   obtain rfl := sj h
   exact CES _ rfl (I_ [0, 1, 3])
 ·subst hu
  replace h := (fn123_k1_s).symm.trans h
  refine U_ tbOk 3 [] aN ?_
  obtain rfl := sj h
  exact T_ tbOk.t Tryz.results123 [0, 1]
def fn84_l1 (p0 : RSet) (p2 : Instr) : Nat → Bool → Int → Option (Bool)
 | 0, _, _ => none
 | n11 + 1, x4, x5 => bif (decide (x5 < (fn83 p2))) && x4 then (bif inb (IntKind.i64.wrap (((fn82 p2).1) + x5)) 512 then ((fn84_l1 p0 p2 n11) (gt p0.fbytes.l (IntKind.i64.wrap (((fn82 p2).1) + x5))) (IntKind.i64.wrap (x5 + 1))) else none) else (some x4)
theorem fn84_l1_s (p0 : RSet) (p2 : Instr) (n11 : Nat) (x4 : Bool) (x5 : Int) : fn84_l1 p0 p2 (n11 + 1) x4 x5 = bif (decide (x5 < (fn83 p2))) && x4 then (bif inb (IntKind.i64.wrap (((fn82 p2).1) + x5)) 512 then ((fn84_l1 p0 p2 n11) (gt p0.fbytes.l (IntKind.i64.wrap (((fn82 p2).1) + x5))) (IntKind.i64.wrap (x5 + 1))) else none) else (some x4) := rfl
def fn84_k1 (x8 : Bool) : Option (Bool) :=
 some x8
theorem fn84_k1_s (x8 : Bool) : fn84_k1 x8 = some x8 := rfl
def fn84 (F : Nat) (p0 : RSet) (p1 : PType) (p2 : Instr) : Option (Bool) :=
 bif p2.fSrc == 10 then (Option.bind (fn84_l1 p0 p2 F ((fn82 p2).2) 0) fun o9 => (fn84_k1 o9)) else (Option.bind (fn123 F p1 (IntKind.i64.wrap p2.fOff) (fn83 p2)) fun v17 => (some ((((p2.fSrc == 1) && p0.fctx) && v17.2) && (v17.1.fKind == 1))))
theorem c84 (F : Nat) (p0 : RSet) (p1 : PType) (p2 : Instr) (r : Bool) (h : fn84 F p0 p1 p2 = some r) : Con Tryz.prog 84 [.ag [.ar En.bool 11 p0.fnumber, .v (.bool p0.fctx), .ar En.bool 512 p0.fbytes], .ag [.v (.string p1.fName), .v (.int .i64 p1.fCtx), .sl 0, .sl 1, .v (.int .i64 p1.fLo), .v (.int .i64 p1.fHi)], .ag [.v (.int .u8 p2.fOp), .v (.int .u8 p2.fDst), .v (.int .u8 p2.fSrc), .v (.int .i16 p2.fOff), .v (.int .i32 p2.fImm)]] [(0, .rd Fld.E p1.fFields), (1, .rd Need.E p1.fNeeds)] 2 (.v (.bool r)) [] 2 := by
 rw [fn84] at h
 refine Con.of_body Tryz.func84 rfl Tryz.ntmps84 rfl fun w F0 ρ => ?_
 refine U_ tbOk 7 [] aN ?_
 refine C_ h (fun h hb1 => ?_) fun h hb1 => ?_
 ·refine U_ tbOk 8 [.cl true [] (fun _ => c82 p2 _ rfl)] (aK aN) ?_
  obtain ⟨o9, hl10, h⟩ := bd h
  refine CT 0 ⟨[(8, .v (.bool o9))], [(0, .rd Fld.E p1.fFields), (1, .rd Need.E p1.fNeeds)], 2⟩ ?_ ?_
  ·have h013 := h
   clear h
   refine G4.imp (I_ [0, 1, 2, 4]) (LP (fun (n : Nat) (s : Bool × Int) => fn84_l1 p0 p2 n s.1 s.2) (fun (s : Bool × Int) => ⟨[(3, .p 2 0), (5, .p 3 0), (7, .v (.int .i64 ((fn82 p2).1))), (8, .v (.bool s.1)), (9, .v (.int .i64 s.2))], [(0, .rd Fld.E p1.fFields), (1, .rd Need.E p1.fNeeds), (2, .cells 70 [.ar En.bool 11 p0.fnumber, .v (.bool p0.fctx), .ar En.bool 512 p0.fbytes]), (3, .cells 40 [.v (.int .u8 p2.fOp), .v (.int .u8 p2.fDst), .v (.int .u8 p2.fSrc), .v (.int .i16 p2.fOff), .v (.int .i32 p2.fImm)])], 4⟩) (fun _ => rfl) (s0 := ((fn82 p2).2, 0)) hl10 ?_)
   clear hl10
   rintro R14 n11 ⟨x4, x5⟩ h ih12
   replace h := (fn84_l1_s p0 p2 n11 x4 x5).symm.trans h
   refine U_ tbOk 7 [.cl true [] (fun _ => c83 p2 _ rfl)] (aK aN) ?_
   refine C_ h (fun h hb15 => ?_) fun h hb15 => ?_
   ·obtain ⟨hk16, h⟩ := ck h
    refine U_ tbOk 10 [] (aC hk16 aN) ?_
    exact ih12 (gt p0.fbytes.l (IntKind.i64.wrap (((fn82 p2).1) + x5)), IntKind.i64.wrap (x5 + 1)) h _ _ (I_ [0, 1, 2, 3])
   ·refine U_ tbOk 0 [] aN ?_
    obtain rfl := sj h
    exact CE (I_ [0, 1])
  ·replace h := (fn84_k1_s o9).symm.trans h
   refine U_ tbOk 2 [] aN ?_
   obtain rfl := sj h
   exact T_ tbOk.t Tryz.results84 [0, 1]
 ·refine U_ tbOk 0 [] aN ?_
  obtain ⟨v17, hv18, h⟩ := bd h
  refine DR tbOk hmix [10, 11] [([3], []), ([], []), ([4], []), ([], []), ([4], []), ([], []), ([0, 1], []), ([], []), ([], []), ([], []), ([], []), ([5], [5]), ([], [])] [.cl true [] (fun _ => c83 p2 _ rfl), .cl true [0, 1] (fun _ => c123 F p1 (IntKind.i64.wrap p2.fOff) (fn83 p2) _ hv18)] (aR (aR (aR (aK (aR (aK (aR aN))))))) (by rfl) ?_
  refine U_ tbOk 16 [] aN ?_
  obtain rfl := sj h
  exact T_ tbOk.t Tryz.results84 [0, 1]
def fn33_l1 (p1 : List Instr) (p2 : Int) : Nat → (Ar Bool 512) → Int → Option ((Ar Bool 512))
 | 0, _, _ => none
 | n20 + 1, x13, x14 => bif decide (x14 < (fn83 (gt p1 p2))) then (bif inb (IntKind.i64.wrap (((fn82 (gt p1 p2)).1) + x14)) 512 then ((fn33_l1 p1 p2 n20) (x13.set (IntKind.i64.wrap (((fn82 (gt p1 p2)).1) + x14)) true) (IntKind.i64.wrap (x14 + 1))) else none) else (some x13)
theorem fn33_l1_s (p1 : List Instr) (p2 : Int) (n20 : Nat) (x13 : Ar Bool 512) (x14 : Int) : fn33_l1 p1 p2 (n20 + 1) x13 x14 = bif decide (x14 < (fn83 (gt p1 p2))) then (bif inb (IntKind.i64.wrap (((fn82 (gt p1 p2)).1) + x14)) 512 then ((fn33_l1 p1 p2 n20) (x13.set (IntKind.i64.wrap (((fn82 (gt p1 p2)).1) + x14)) true) (IntKind.i64.wrap (x14 + 1))) else none) else (some x13) := rfl
def fn33_k1 (p0 : RSet) (x17 : Ar Bool 512) : Option ((RSet × Bool)) :=
 some ((⟨p0.fnumber, p0.fctx, x17⟩ : RSet), true)
theorem fn33_k1_s (p0 : RSet) (x17 : Ar Bool 512) : fn33_k1 p0 x17 = some ((⟨p0.fnumber, p0.fctx, x17⟩ : RSet), true) := rfl
def fn33_l2 (p1 : List Instr) (p2 : Int) : Nat → (Ar Bool 512) → Int → Option ((Ar Bool 512))
 | 0, _, _ => none
 | n38 + 1, x31, x32 => bif decide (x32 < (fn83 (gt p1 p2))) then (bif inb (IntKind.i64.wrap (((fn82 (gt p1 p2)).1) + x32)) 512 then ((fn33_l2 p1 p2 n38) (x31.set (IntKind.i64.wrap (((fn82 (gt p1 p2)).1) + x32)) true) (IntKind.i64.wrap (x32 + 1))) else none) else (some x31)
theorem fn33_l2_s (p1 : List Instr) (p2 : Int) (n38 : Nat) (x31 : Ar Bool 512) (x32 : Int) : fn33_l2 p1 p2 (n38 + 1) x31 x32 = bif decide (x32 < (fn83 (gt p1 p2))) then (bif inb (IntKind.i64.wrap (((fn82 (gt p1 p2)).1) + x32)) 512 then ((fn33_l2 p1 p2 n38) (x31.set (IntKind.i64.wrap (((fn82 (gt p1 p2)).1) + x32)) true) (IntKind.i64.wrap (x32 + 1))) else none) else (some x31) := rfl
def fn33_k2 (p0 : RSet) (x35 : Ar Bool 512) : Option ((RSet × Bool)) :=
 some ((⟨p0.fnumber, p0.fctx, x35⟩ : RSet), true)
theorem fn33_k2_s (p0 : RSet) (x35 : Ar Bool 512) : fn33_k2 p0 x35 = some ((⟨p0.fnumber, p0.fctx, x35⟩ : RSet), true) := rfl
def fn33 (F : Nat) (p0 : RSet) (p1 : List Instr) (p2 : Int) (p3 : PType) : Option (RSet × Bool) :=
 bif inb p2 p1.length then (bif (fn71 (gt p1 p2)) == 5 then (Option.bind (fn81 F p0 p1 p2 p3) fun v3 => (some (p0, v3))) else (bif (fn71 (gt p1 p2)) == 6 then (Option.bind (fn81 F p0 p1 p2 p3) fun v6 => (some (p0, v6))) else (bif (fn71 (gt p1 p2)) == 2 then (bif bif (((gt p1 p2).fDst) != 10) || (!((fn82 (gt p1 p2)).2)) then true else (bif (fn71 (gt p1 p2)) == 3 then (inb ((gt p1 p2).fSrc) 11) else true) then (bif ((((gt p1 p2).fDst) != 10) || (!((fn82 (gt p1 p2)).2))) || (((fn71 (gt p1 p2)) == 3) && (!(gt p0.fnumber.l ((gt p1 p2).fSrc)))) then (some (p0, false)) else (Option.bind (fn33_l1 p1 p2 F p0.fbytes 0) fun o18 => (fn33_k1 p0 o18))) else none) else (bif (fn71 (gt p1 p2)) == 3 then (bif bif (((gt p1 p2).fDst) != 10) || (!((fn82 (gt p1 p2)).2)) then true else (bif (fn71 (gt p1 p2)) == 3 then (inb ((gt p1 p2).fSrc) 11) else true) then (bif ((((gt p1 p2).fDst) != 10) || (!((fn82 (gt p1 p2)).2))) || (((fn71 (gt p1 p2)) == 3) && (!(gt p0.fnumber.l ((gt p1 p2).fSrc)))) then (some (p0, false)) else (Option.bind (fn33_l2 p1 p2 F p0.fbytes 0) fun o36 => (fn33_k2 p0 o36))) else none) else (bif (fn71 (gt p1 p2)) == 0 then (bif inb ((gt p1 p2).fDst) 11 then (some ((⟨p0.fnumber.set ((gt p1 p2).fDst) true, p0.fctx && (((gt p1 p2).fDst) != 1), p0.fbytes⟩ : RSet), ((gt p1 p2).fSrc) == 0)) else none) else (bif (fn71 (gt p1 p2)) == 1 then (Option.bind (fn84 F p0 p3 (gt p1 p2)) fun v47 => (bif inb ((gt p1 p2).fDst) 11 then (some ((⟨p0.fnumber.set ((gt p1 p2).fDst) true, p0.fctx && (((gt p1 p2).fDst) != 1), p0.fbytes⟩ : RSet), v47)) else none)) else (bif (fn72 (gt p1 p2)) == 176 then (Option.bind (fn85 p0 (gt p1 p2)) fun v51 => (bif inb ((gt p1 p2).fDst) 11 then (some ((⟨p0.fnumber.set ((gt p1 p2).fDst) true, p0.fctx && (((gt p1 p2).fDst) != 1), p0.fbytes⟩ : RSet), v51)) else none)) else (bif (fn72 (gt p1 p2)) == 128 then (bif inb ((gt p1 p2).fDst) 11 then (some ((⟨p0.fnumber.set ((gt p1 p2).fDst) true, p0.fctx && (((gt p1 p2).fDst) != 1), p0.fbytes⟩ : RSet), gt p0.fnumber.l ((gt p1 p2).fDst))) else none) else (bif (fn72 (gt p1 p2)) == 208 then (bif inb ((gt p1 p2).fDst) 11 then (some ((⟨p0.fnumber.set ((gt p1 p2).fDst) true, p0.fctx && (((gt p1 p2).fDst) != 1), p0.fbytes⟩ : RSet), gt p0.fnumber.l ((gt p1 p2).fDst))) else none) else (bif inb ((gt p1 p2).fDst) 11 then (Option.bind (bif bif gt p0.fnumber.l ((gt p1 p2).fDst) then true else false then fn85 p0 (gt p1 p2) else some false) fun v59 => (some ((⟨p0.fnumber.set ((gt p1 p2).fDst) true, p0.fctx && (((gt p1 p2).fDst) != 1), p0.fbytes⟩ : RSet), (gt p0.fnumber.l ((gt p1 p2).fDst)) && v59))) else none)))))))))) else none
theorem c33 (F : Nat) (p0 : RSet) (p1 : List Instr) (p2 : Int) (p3 : PType) (r : RSet × Bool) (h : fn33 F p0 p1 p2 p3 = some r) : Con Tryz.prog 33 [.ag [.ar En.bool 11 p0.fnumber, .v (.bool p0.fctx), .ar En.bool 512 p0.fbytes], .sl 0, .v (.int .i64 p2), .ag [.v (.string p3.fName), .v (.int .i64 p3.fCtx), .sl 1, .sl 2, .v (.int .i64 p3.fLo), .v (.int .i64 p3.fHi)]] [(0, .rd Instr.E p1), (1, .rd Fld.E p3.fFields), (2, .rd Need.E p3.fNeeds)] 3 (.tu [.ag [.ar En.bool 11 r.1.fnumber, .v (.bool r.1.fctx), .ar En.bool 512 r.1.fbytes], .v (.bool r.2)]) [] 3 := by
 rw [fn33] at h
 refine Con.of_body Tryz.func33 rfl Tryz.ntmps33 rfl fun w F0 ρ => ?_
 obtain ⟨hk1, h⟩ := ck h
 refine U_ tbOk 15 [.cl true [] (fun _ => c71 (gt p1 p2) _ rfl)] (aC hk1 (aK aN)) ?_
 refine C_ h (fun h hb2 => ?_) fun h hb2 => ?_
 ·refine U_ tbOk 0 [] aN ?_
  refine CDT hb2 (by rfl) ?_
  refine U_ tbOk 0 [] aN ?_
  obtain ⟨v3, hv4, h⟩ := bd h
  refine DR tbOk hmix [9] [([3], []), ([3], []), ([], []), ([], []), ([4], []), ([0, 1, 2], []), ([5], [5]), ([], [])] [.cl true [0, 1, 2] (fun _ => c81 F p0 p1 p2 p3 _ hv4)] (aR (aR (aR (aR (aK (aR aN)))))) (by rfl) ?_
  refine U_ tbOk 0 [] aN ?_
  obtain rfl := sj h
  exact T_ tbOk.t Tryz.results33 [0, 1, 2]
 ·refine U_ tbOk 2 [] aN ?_
  refine C_ h (fun h hb5 => ?_) fun h hb5 => ?_
  ·refine U_ tbOk 0 [] aN ?_
   obtain ⟨v6, hv7, h⟩ := bd h
   refine DR tbOk hmix [9] [([3], []), ([3], []), ([], []), ([], []), ([4], []), ([0, 1, 2], []), ([5], [5]), ([], [])] [.cl true [0, 1, 2] (fun _ => c81 F p0 p1 p2 p3 _ hv7)] (aR (aR (aR (aR (aK (aR aN)))))) (by rfl) ?_
   refine U_ tbOk 0 [] aN ?_
   obtain rfl := sj h
   exact T_ tbOk.t Tryz.results33 [0, 1, 2]
  ·refine U_ tbOk 2 [] aN ?_
   refine C_ h (fun h hb8 => ?_) fun h hb8 => ?_
   ·refine U_ tbOk 0 [] aN ?_
    refine CDT hb8 (by rfl) ?_
    obtain ⟨hk9, h⟩ := ck h
    refine U_ tbOk 27 [.cl true [] (fun _ => c82 (gt p1 p2) _ rfl), .cl (bif (((gt p1 p2).fDst) != 10) || (!((fn82 (gt p1 p2)).2)) then false else true) [] (fun _ => c71 (gt p1 p2) _ rfl)] (aK (aR (aR (aK (aC hk9 aN))))) ?_
    refine C_ h (fun h hb10 => ?_) fun h hb10 => ?_
    ·refine U_ tbOk 3 [] aN ?_
     obtain rfl := sj h
     exact T_ tbOk.t Tryz.results33 [0, 1, 2]
    ·refine U_ tbOk 1 [] aN ?_
     obtain ⟨o18, hl19, h⟩ := bd h
     refine CT 2 ⟨[(4, .p 3 0), (8, .p 4 0)], [(0, .rd Instr.E p1), (1, .rd Fld.E p3.fFields), (2, .rd Need.E p3.fNeeds), (3, .cells 70 [.ar En.bool 11 p0.fnumber, .v (.bool p0.fctx), .ar En.bool 512 o18]), (4, .cells 70 [.ar En.bool 11 (Ar.rep 11 false), .v (.bool false), .ar En.bool 512 (Ar.rep 512 false)])], 5⟩ ?_ ?_
     ·have h022 := h
      clear h
      refine G4.imp (I_ [0, 1, 2, 3, 5, 6]) (LP (fun (n : Nat) (s : (Ar Bool 512) × Int) => fn33_l1 p1 p2 n s.1 s.2) (fun (s : (Ar Bool 512) × Int) => ⟨[(4, .p 3 0), (8, .p 4 0), (10, .p 5 0), (12, .v (.int .i64 ((fn82 (gt p1 p2)).1))), (14, .v (.int .i64 s.2))], [(0, .rd Instr.E p1), (1, .rd Fld.E p3.fFields), (2, .rd Need.E p3.fNeeds), (3, .cells 70 [.ar En.bool 11 p0.fnumber, .v (.bool p0.fctx), .ar En.bool 512 s.1]), (4, .cells 70 [.ar En.bool 11 (Ar.rep 11 false), .v (.bool false), .ar En.bool 512 (Ar.rep 512 false)]), (5, .cells 40 [.v (.int .u8 ((gt p1 p2).fOp)), .v (.int .u8 ((gt p1 p2).fDst)), .v (.int .u8 ((gt p1 p2).fSrc)), .v (.int .i16 ((gt p1 p2).fOff)), .v (.int .i32 ((gt p1 p2).fImm))])], 6⟩) (fun _ => rfl) (s0 := (p0.fbytes, 0)) hl19 ?_)
      clear hl19
      rintro R23 n20 ⟨x13, x14⟩ h ih21
      replace h := (fn33_l1_s p1 p2 n20 x13 x14).symm.trans h
      refine U_ tbOk 4 [.cl true [] (fun _ => c83 (gt p1 p2) _ rfl)] (aK aN) ?_
      refine C_ h (fun h hb24 => ?_) fun h hb24 => ?_
      ·obtain ⟨hk25, h⟩ := ck h
       refine U_ tbOk 9 [.sa En.bool 512 _ true] (aC hk25 (aR (aR aN))) ?_
       exact ih21 (x13.set (IntKind.i64.wrap (((fn82 (gt p1 p2)).1) + x14)) true, IntKind.i64.wrap (x14 + 1)) h _ _ (I_ [0, 1, 2, 3, 4, 5])
      ·refine U_ tbOk 0 [] aN ?_
       obtain rfl := sj h
       exact CE (I_ [0, 1, 2, 3, 4])
     ·replace h := (fn33_k1_s p0 o18).symm.trans h
      refine U_ tbOk 3 [] aN ?_
      obtain rfl := sj h
      exact T_ tbOk.t Tryz.results33 [0, 1, 2]
   ·refine U_ tbOk 2 [] aN ?_
    refine C_ h (fun h hb26 => ?_) fun h hb26 => ?_
    ·obtain ⟨hk27, h⟩ := ck h
     refine U_ tbOk 27 [.cl true [] (fun _ => c82 (gt p1 p2) _ rfl), .cl (bif (((gt p1 p2).fDst) != 10) || (!((fn82 (gt p1 p2)).2)) then false else true) [] (fun _ => c71 (gt p1 p2) _ rfl)] (aK (aR (aR (aK (aC hk27 aN))))) ?_
     refine C_ h (fun h hb28 => ?_) fun h hb28 => ?_
     ·refine U_ tbOk 3 [] aN ?_
      obtain rfl := sj h
      exact T_ tbOk.t Tryz.results33 [0, 1, 2]
     ·refine U_ tbOk 1 [] aN ?_
      obtain ⟨o36, hl37, h⟩ := bd h
      refine CT 2 ⟨[(4, .p 3 0), (8, .p 4 0)], [(0, .rd Instr.E p1), (1, .rd Fld.E p3.fFields), (2, .rd Need.E p3.fNeeds), (3, .cells 70 [.ar En.bool 11 p0.fnumber, .v (.bool p0.fctx), .ar En.bool 512 o36]), (4, .cells 70 [.ar En.bool 11 (Ar.rep 11 false), .v (.bool false), .ar En.bool 512 (Ar.rep 512 false)])], 5⟩ ?_ ?_
      ·have h040 := h
       clear h
       refine G4.imp (I_ [0, 1, 2, 3, 5, 6]) (LP (fun (n : Nat) (s : (Ar Bool 512) × Int) => fn33_l2 p1 p2 n s.1 s.2) (fun (s : (Ar Bool 512) × Int) => ⟨[(4, .p 3 0), (8, .p 4 0), (10, .p 5 0), (12, .v (.int .i64 ((fn82 (gt p1 p2)).1))), (14, .v (.int .i64 s.2))], [(0, .rd Instr.E p1), (1, .rd Fld.E p3.fFields), (2, .rd Need.E p3.fNeeds), (3, .cells 70 [.ar En.bool 11 p0.fnumber, .v (.bool p0.fctx), .ar En.bool 512 s.1]), (4, .cells 70 [.ar En.bool 11 (Ar.rep 11 false), .v (.bool false), .ar En.bool 512 (Ar.rep 512 false)]), (5, .cells 40 [.v (.int .u8 ((gt p1 p2).fOp)), .v (.int .u8 ((gt p1 p2).fDst)), .v (.int .u8 ((gt p1 p2).fSrc)), .v (.int .i16 ((gt p1 p2).fOff)), .v (.int .i32 ((gt p1 p2).fImm))])], 6⟩) (fun _ => rfl) (s0 := (p0.fbytes, 0)) hl37 ?_)
       clear hl37
       rintro R41 n38 ⟨x31, x32⟩ h ih39
       replace h := (fn33_l2_s p1 p2 n38 x31 x32).symm.trans h
       refine U_ tbOk 4 [.cl true [] (fun _ => c83 (gt p1 p2) _ rfl)] (aK aN) ?_
       refine C_ h (fun h hb42 => ?_) fun h hb42 => ?_
       ·obtain ⟨hk43, h⟩ := ck h
        refine U_ tbOk 9 [.sa En.bool 512 _ true] (aC hk43 (aR (aR aN))) ?_
        exact ih39 (x31.set (IntKind.i64.wrap (((fn82 (gt p1 p2)).1) + x32)) true, IntKind.i64.wrap (x32 + 1)) h _ _ (I_ [0, 1, 2, 3, 4, 5])
       ·refine U_ tbOk 0 [] aN ?_
        obtain rfl := sj h
        exact CE (I_ [0, 1, 2, 3, 4])
      ·replace h := (fn33_k2_s p0 o36).symm.trans h
       refine U_ tbOk 3 [] aN ?_
       obtain rfl := sj h
       exact T_ tbOk.t Tryz.results33 [0, 1, 2]
    ·refine U_ tbOk 2 [] aN ?_
     refine C_ h (fun h hb44 => ?_) fun h hb44 => ?_
     ·obtain ⟨hk45, h⟩ := ck h
      refine U_ tbOk 22 [.sa En.bool 11 _ true] (aC hk45 (aR (aR aN))) ?_
      obtain rfl := sj h
      exact T_ tbOk.t Tryz.results33 [0, 1, 2]
     ·refine U_ tbOk 2 [] aN ?_
      refine C_ h (fun h hb46 => ?_) fun h hb46 => ?_
      ·obtain ⟨v47, hv48, h⟩ := bd h
       obtain ⟨hk49, h⟩ := ck h
       refine U_ tbOk 23 [.cl true [1, 2] (fun _ => c84 F p0 p3 (gt p1 p2) _ hv48), .sa En.bool 11 _ true] (aK (aC hk49 (aR (aR aN)))) ?_
       obtain rfl := sj h
       exact T_ tbOk.t Tryz.results33 [0, 1, 2]
      ·refine U_ tbOk 4 [.cl true [] (fun _ => c72 (gt p1 p2) _ rfl)] (aK aN) ?_
       refine C_ h (fun h hb50 => ?_) fun h hb50 => ?_
       ·obtain ⟨v51, hv52, h⟩ := bd h
        obtain ⟨hk53, h⟩ := ck h
        refine U_ tbOk 22 [.cl true [] (fun _ => c85 p0 (gt p1 p2) _ hv52), .sa En.bool 11 _ true] (aK (aC hk53 (aR (aR aN)))) ?_
        obtain rfl := sj h
        exact T_ tbOk.t Tryz.results33 [0, 1, 2]
       ·refine U_ tbOk 2 [] aN ?_
        refine C_ h (fun h hb54 => ?_) fun h hb54 => ?_
        ·refine U_ tbOk 0 [] aN ?_
         refine CDT hb54 (by rfl) ?_
         obtain ⟨hk55, h⟩ := ck h
         refine U_ tbOk 24 [.sa En.bool 11 _ true] (aC hk55 (aC hk55 (aR (aR aN)))) ?_
         obtain rfl := sj h
         exact T_ tbOk.t Tryz.results33 [0, 1, 2]
        ·refine U_ tbOk 2 [] aN ?_
         refine C_ h (fun h hb56 => ?_) fun h hb56 => ?_
         ·obtain ⟨hk57, h⟩ := ck h
          refine U_ tbOk 24 [.sa En.bool 11 _ true] (aC hk57 (aC hk57 (aR (aR aN)))) ?_
          obtain rfl := sj h
          exact T_ tbOk.t Tryz.results33 [0, 1, 2]
         ·obtain ⟨hk58, h⟩ := ck h
          obtain ⟨v59, hv60, h⟩ := bd h
          refine U_ tbOk 29 [.cl (bif gt p0.fnumber.l ((gt p1 p2).fDst) then true else false) [] (fun hg => c85 p0 (gt p1 p2) _ (gcl hg hv60)), .sa En.bool 11 _ true] (aC hk58 (aR (aR (aK (aC hk58 (aR (aR aN))))))) ?_
          obtain rfl := sj h
          exact T_ tbOk.t Tryz.results33 [0, 1, 2]
def fn80_l2 (p1 : RSet) : Nat → (Ar Bool 512) → Int → Option ((Ar Bool 512))
 | 0, _, _ => none
 | n30 + 1, x22, x23 => bif decide (x23 < 512) then (bif inb x23 512 then (bif bif gt x22.l x23 then (inb x23 512) else true then ((fn80_l2 p1 n30) (x22.set x23 ((gt x22.l x23) && (gt p1.fbytes.l x23))) (IntKind.i64.wrap (x23 + 1))) else none) else none) else (some x22)
theorem fn80_l2_s (p1 : RSet) (n30 : Nat) (x22 : Ar Bool 512) (x23 : Int) : fn80_l2 p1 (n30 + 1) x22 x23 = bif decide (x23 < 512) then (bif inb x23 512 then (bif bif gt x22.l x23 then (inb x23 512) else true then ((fn80_l2 p1 n30) (x22.set x23 ((gt x22.l x23) && (gt p1.fbytes.l x23))) (IntKind.i64.wrap (x23 + 1))) else none) else none) else (some x22) := rfl
def fn80_k2 (p0 : RSet) (p1 : RSet) (x9 : Ar Bool 11) (x27 : Ar Bool 512) : Option (RSet) :=
 some (⟨x9, p0.fctx && p1.fctx, x27⟩ : RSet)
theorem fn80_k2_s (p0 : RSet) (p1 : RSet) (x9 : Ar Bool 11) (x27 : Ar Bool 512) : fn80_k2 p0 p1 x9 x27 = some (⟨x9, p0.fctx && p1.fctx, x27⟩ : RSet) := rfl
def fn80_l1 (p1 : RSet) : Nat → (Ar Bool 11) → Int → Option ((Ar Bool 11))
 | 0, _, _ => none
 | n12 + 1, x4, x5 => bif decide (x5 < 11) then (bif inb x5 11 then (bif bif gt x4.l x5 then (inb x5 11) else true then ((fn80_l1 p1 n12) (x4.set x5 ((gt x4.l x5) && (gt p1.fnumber.l x5))) (IntKind.i64.wrap (x5 + 1))) else none) else none) else (some x4)
theorem fn80_l1_s (p1 : RSet) (n12 : Nat) (x4 : Ar Bool 11) (x5 : Int) : fn80_l1 p1 (n12 + 1) x4 x5 = bif decide (x5 < 11) then (bif inb x5 11 then (bif bif gt x4.l x5 then (inb x5 11) else true then ((fn80_l1 p1 n12) (x4.set x5 ((gt x4.l x5) && (gt p1.fnumber.l x5))) (IntKind.i64.wrap (x5 + 1))) else none) else none) else (some x4) := rfl
def fn80_k1 (F : Nat) (p0 : RSet) (p1 : RSet) (x9 : Ar Bool 11) : Option (RSet) :=
 Option.bind (fn80_l2 p1 F p0.fbytes 0) fun o28 => (fn80_k2 p0 p1 x9 o28)
theorem fn80_k1_s (F : Nat) (p0 : RSet) (p1 : RSet) (x9 : Ar Bool 11) : fn80_k1 F p0 p1 x9 = Option.bind (fn80_l2 p1 F p0.fbytes 0) fun o28 => (fn80_k2 p0 p1 x9 o28) := rfl
def fn80 (F : Nat) (p0 : RSet) (p1 : RSet) : Option (RSet) :=
 Option.bind (fn80_l1 p1 F p0.fnumber 0) fun o10 => (fn80_k1 F p0 p1 o10)
theorem c80 (F : Nat) (p0 : RSet) (p1 : RSet) (r : RSet) (h : fn80 F p0 p1 = some r) : Con Tryz.prog 80 [.ag [.ar En.bool 11 p0.fnumber, .v (.bool p0.fctx), .ar En.bool 512 p0.fbytes], .ag [.ar En.bool 11 p1.fnumber, .v (.bool p1.fctx), .ar En.bool 512 p1.fbytes]] [] 0 (.ag [.ar En.bool 11 r.fnumber, .v (.bool r.fctx), .ar En.bool 512 r.fbytes]) [] 0 := by
 rw [fn80] at h
 refine Con.of_body Tryz.func80 rfl Tryz.ntmps80 rfl fun w F0 ρ => ?_
 refine U_ tbOk 4 [] aN ?_
 obtain ⟨o10, hl11, h⟩ := bd h
 refine CT 0 ⟨[(2, .p 0 0), (3, .p 1 0), (4, .p 2 0)], [(0, .cells 70 [.ar En.bool 11 o10, .v (.bool p0.fctx), .ar En.bool 512 p0.fbytes]), (1, .cells 70 [.ar En.bool 11 p1.fnumber, .v (.bool p1.fctx), .ar En.bool 512 p1.fbytes]), (2, .cells 70 [.ar En.bool 11 (Ar.rep 11 false), .v (.bool false), .ar En.bool 512 (Ar.rep 512 false)])], 3⟩ ?_ ?_
 ·have h014 := h
  clear h
  refine G4.imp (I_ [0, 1, 2]) (LP (fun (n : Nat) (s : (Ar Bool 11) × Int) => fn80_l1 p1 n s.1 s.2) (fun (s : (Ar Bool 11) × Int) => ⟨[(2, .p 0 0), (3, .p 1 0), (4, .p 2 0), (5, .v (.int .i64 s.2))], [(0, .cells 70 [.ar En.bool 11 s.1, .v (.bool p0.fctx), .ar En.bool 512 p0.fbytes]), (1, .cells 70 [.ar En.bool 11 p1.fnumber, .v (.bool p1.fctx), .ar En.bool 512 p1.fbytes]), (2, .cells 70 [.ar En.bool 11 (Ar.rep 11 false), .v (.bool false), .ar En.bool 512 (Ar.rep 512 false)])], 3⟩) (fun _ => rfl) (s0 := (p0.fnumber, 0)) hl11 ?_)
  clear hl11
  rintro R15 n12 ⟨x4, x5⟩ h ih13
  replace h := (fn80_l1_s p1 n12 x4 x5).symm.trans h
  refine U_ tbOk 2 [] aN ?_
  refine C_ h (fun h hb16 => ?_) fun h hb16 => ?_
  ·obtain ⟨hk17, h⟩ := ck h
   obtain ⟨hk18, h⟩ := ck h
   refine U_ tbOk 17 [.sa En.bool 11 _ ((gt x4.l x5) && (gt p1.fnumber.l x5))] (aC hk17 (aC hk18 (aC hk17 (aR (aR aN))))) ?_
   exact ih13 (x4.set x5 ((gt x4.l x5) && (gt p1.fnumber.l x5)), IntKind.i64.wrap (x5 + 1)) h _ _ (I_ [0, 1, 2])
  ·refine U_ tbOk 0 [] aN ?_
   obtain rfl := sj h
   exact CE (I_ [0, 1, 2])
 ·replace h := (fn80_k1_s F p0 p1 o10).symm.trans h
  refine U_ tbOk 1 [] aN ?_
  obtain ⟨o28, hl29, h⟩ := bd h
  refine CT 2 ⟨[(2, .p 0 0), (3, .p 1 0), (4, .p 2 0)], [(0, .cells 70 [.ar En.bool 11 o10, .v (.bool p0.fctx), .ar En.bool 512 o28]), (1, .cells 70 [.ar En.bool 11 p1.fnumber, .v (.bool p1.fctx), .ar En.bool 512 p1.fbytes]), (2, .cells 70 [.ar En.bool 11 (Ar.rep 11 false), .v (.bool false), .ar En.bool 512 (Ar.rep 512 false)])], 3⟩ ?_ ?_
  ·have h032 := h
   clear h
   refine G4.imp (I_ [0, 1, 2]) (LP (fun (n : Nat) (s : (Ar Bool 512) × Int) => fn80_l2 p1 n s.1 s.2) (fun (s : (Ar Bool 512) × Int) => ⟨[(2, .p 0 0), (3, .p 1 0), (4, .p 2 0), (6, .v (.int .i64 s.2))], [(0, .cells 70 [.ar En.bool 11 o10, .v (.bool p0.fctx), .ar En.bool 512 s.1]), (1, .cells 70 [.ar En.bool 11 p1.fnumber, .v (.bool p1.fctx), .ar En.bool 512 p1.fbytes]), (2, .cells 70 [.ar En.bool 11 (Ar.rep 11 false), .v (.bool false), .ar En.bool 512 (Ar.rep 512 false)])], 3⟩) (fun _ => rfl) (s0 := (p0.fbytes, 0)) hl29 ?_)
   clear hl29
   rintro R33 n30 ⟨x22, x23⟩ h ih31
   replace h := (fn80_l2_s p1 n30 x22 x23).symm.trans h
   refine U_ tbOk 2 [] aN ?_
   refine C_ h (fun h hb34 => ?_) fun h hb34 => ?_
   ·obtain ⟨hk35, h⟩ := ck h
    obtain ⟨hk36, h⟩ := ck h
    refine U_ tbOk 17 [.sa En.bool 512 _ ((gt x22.l x23) && (gt p1.fbytes.l x23))] (aC hk35 (aC hk36 (aC hk35 (aR (aR aN))))) ?_
    exact ih31 (x22.set x23 ((gt x22.l x23) && (gt p1.fbytes.l x23)), IntKind.i64.wrap (x23 + 1)) h _ _ (I_ [0, 1, 2])
   ·refine U_ tbOk 0 [] aN ?_
    obtain rfl := sj h
    exact CE (I_ [0, 1, 2])
  ·replace h := (fn80_k2_s p0 p1 o10 o28).symm.trans h
   refine U_ tbOk 10 [] aN ?_
   obtain rfl := sj h
   exact T_ tbOk.t Tryz.results80 []
def fn32_l2 (F : Nat) (p0 : List Instr) (p1 : PType) (v4 : (List Edge)) : Nat → (List RSet) → (List Bool) → Bool → Int → Option ((List RSet) × (List Bool) × Bool)
 | 0, _, _, _, _ => none
 | n225 + 1, xs194, xs195, x196, x197 => bif decide (x197 < (v4.length : Int)) then (bif inb x197 v4.length then (bif inb ((gt v4 x197).fFrom) xs195.length then (bif !(gt xs195 ((gt v4 x197).fFrom)) then ((fn32_l2 F p0 p1 v4 n225) xs194 xs195 x196 (IntKind.i64.wrap (x197 + 1))) else (bif inb ((gt v4 x197).fFrom) xs194.length then (Option.bind (fn33 F (gt xs194 ((gt v4 x197).fFrom)) p0 ((gt v4 x197).fFrom) p1) fun v234 => (bif inb ((gt v4 x197).fTo) xs195.length then (bif gt xs195 ((gt v4 x197).fTo) then (bif inb ((gt v4 x197).fTo) xs194.length then (Option.bind (fn80 F v234.1 (gt xs194 ((gt v4 x197).fTo))) fun v239 => (bif !(gt xs195 ((gt v4 x197).fTo)) then ((fn32_l2 F p0 p1 v4 n225) (xs194.set ((gt v4 x197).fTo).toNat v239) (xs195.set ((gt v4 x197).fTo).toNat true) true (IntKind.i64.wrap (x197 + 1))) else (bif !((eqL v239.fnumber.l ((gt xs194 ((gt v4 x197).fTo)).fnumber).l) && ((v239.fctx == ((gt xs194 ((gt v4 x197).fTo)).fctx)) && ((eqL v239.fbytes.l ((gt xs194 ((gt v4 x197).fTo)).fbytes).l) && true))) then ((fn32_l2 F p0 p1 v4 n225) (xs194.set ((gt v4 x197).fTo).toNat v239) (xs195.set ((gt v4 x197).fTo).toNat true) true (IntKind.i64.wrap (x197 + 1))) else ((fn32_l2 F p0 p1 v4 n225) xs194 xs195 x196 (IntKind.i64.wrap (x197 + 1)))))) else none) else (bif !(gt xs195 ((gt v4 x197).fTo)) then (bif inb ((gt v4 x197).fTo) xs194.length then ((fn32_l2 F p0 p1 v4 n225) (xs194.set ((gt v4 x197).fTo).toNat v234.1) (xs195.set ((gt v4 x197).fTo).toNat true) true (IntKind.i64.wrap (x197 + 1))) else none) else (bif inb ((gt v4 x197).fTo) xs194.length then (bif !((eqL v234.1.fnumber.l ((gt xs194 ((gt v4 x197).fTo)).fnumber).l) && ((v234.1.fctx == ((gt xs194 ((gt v4 x197).fTo)).fctx)) && ((eqL v234.1.fbytes.l ((gt xs194 ((gt v4 x197).fTo)).fbytes).l) && true))) then ((fn32_l2 F p0 p1 v4 n225) (xs194.set ((gt v4 x197).fTo).toNat v234.1) (xs195.set ((gt v4 x197).fTo).toNat true) true (IntKind.i64.wrap (x197 + 1))) else ((fn32_l2 F p0 p1 v4 n225) xs194 xs195 x196 (IntKind.i64.wrap (x197 + 1)))) else none))) else none)) else none)) else none) else none) else (some (xs194, xs195, x196))
theorem fn32_l2_s (F : Nat) (p0 : List Instr) (p1 : PType) (v4 : (List Edge)) (n225 : Nat) (xs194 : List RSet) (xs195 : List Bool) (x196 : Bool) (x197 : Int) : fn32_l2 F p0 p1 v4 (n225 + 1) xs194 xs195 x196 x197 = bif decide (x197 < (v4.length : Int)) then (bif inb x197 v4.length then (bif inb ((gt v4 x197).fFrom) xs195.length then (bif !(gt xs195 ((gt v4 x197).fFrom)) then ((fn32_l2 F p0 p1 v4 n225) xs194 xs195 x196 (IntKind.i64.wrap (x197 + 1))) else (bif inb ((gt v4 x197).fFrom) xs194.length then (Option.bind (fn33 F (gt xs194 ((gt v4 x197).fFrom)) p0 ((gt v4 x197).fFrom) p1) fun v234 => (bif inb ((gt v4 x197).fTo) xs195.length then (bif gt xs195 ((gt v4 x197).fTo) then (bif inb ((gt v4 x197).fTo) xs194.length then (Option.bind (fn80 F v234.1 (gt xs194 ((gt v4 x197).fTo))) fun v239 => (bif !(gt xs195 ((gt v4 x197).fTo)) then ((fn32_l2 F p0 p1 v4 n225) (xs194.set ((gt v4 x197).fTo).toNat v239) (xs195.set ((gt v4 x197).fTo).toNat true) true (IntKind.i64.wrap (x197 + 1))) else (bif !((eqL v239.fnumber.l ((gt xs194 ((gt v4 x197).fTo)).fnumber).l) && ((v239.fctx == ((gt xs194 ((gt v4 x197).fTo)).fctx)) && ((eqL v239.fbytes.l ((gt xs194 ((gt v4 x197).fTo)).fbytes).l) && true))) then ((fn32_l2 F p0 p1 v4 n225) (xs194.set ((gt v4 x197).fTo).toNat v239) (xs195.set ((gt v4 x197).fTo).toNat true) true (IntKind.i64.wrap (x197 + 1))) else ((fn32_l2 F p0 p1 v4 n225) xs194 xs195 x196 (IntKind.i64.wrap (x197 + 1)))))) else none) else (bif !(gt xs195 ((gt v4 x197).fTo)) then (bif inb ((gt v4 x197).fTo) xs194.length then ((fn32_l2 F p0 p1 v4 n225) (xs194.set ((gt v4 x197).fTo).toNat v234.1) (xs195.set ((gt v4 x197).fTo).toNat true) true (IntKind.i64.wrap (x197 + 1))) else none) else (bif inb ((gt v4 x197).fTo) xs194.length then (bif !((eqL v234.1.fnumber.l ((gt xs194 ((gt v4 x197).fTo)).fnumber).l) && ((v234.1.fctx == ((gt xs194 ((gt v4 x197).fTo)).fctx)) && ((eqL v234.1.fbytes.l ((gt xs194 ((gt v4 x197).fTo)).fbytes).l) && true))) then ((fn32_l2 F p0 p1 v4 n225) (xs194.set ((gt v4 x197).fTo).toNat v234.1) (xs195.set ((gt v4 x197).fTo).toNat true) true (IntKind.i64.wrap (x197 + 1))) else ((fn32_l2 F p0 p1 v4 n225) xs194 xs195 x196 (IntKind.i64.wrap (x197 + 1)))) else none))) else none)) else none)) else none) else none) else (some (xs194, xs195, x196)) := rfl
def fn32_k2 (rl1 : (List RSet) → (List Bool) → Bool → Option ((List RSet))) (xs220 : List RSet) (xs221 : List Bool) (x222 : Bool) : Option ((List RSet)) :=
 rl1 xs220 xs221 x222
theorem fn32_k2_s (rl1 : (List RSet) → (List Bool) → Bool → Option ((List RSet))) (xs220 : List RSet) (xs221 : List Bool) (x222 : Bool) : fn32_k2 rl1 xs220 xs221 x222 = rl1 xs220 xs221 x222 := rfl
def fn32_l1 (F : Nat) (p0 : List Instr) (p1 : PType) (v4 : (List Edge)) : Nat → (List RSet) → (List Bool) → Bool → Option ((List RSet))
 | 0, _, _, _ => none
 | n167 + 1, xs81, xs82, x83 => bif x83 then (Option.bind (fn32_l2 F p0 p1 v4 F xs81 xs82 false 0) fun o223 => (fn32_k2 (fn32_l1 F p0 p1 v4 n167) o223.1 o223.2.1 o223.2.2)) else (some xs81)
theorem fn32_l1_s (F : Nat) (p0 : List Instr) (p1 : PType) (v4 : (List Edge)) (n167 : Nat) (xs81 : List RSet) (xs82 : List Bool) (x83 : Bool) : fn32_l1 F p0 p1 v4 (n167 + 1) xs81 xs82 x83 = bif x83 then (Option.bind (fn32_l2 F p0 p1 v4 F xs81 xs82 false 0) fun o223 => (fn32_k2 (fn32_l1 F p0 p1 v4 n167) o223.1 o223.2.1 o223.2.2)) else (some xs81) := rfl
def fn32_k1 (xs164 : List RSet) : Option (((List RSet))) :=
 some xs164
theorem fn32_k1_s (xs164 : List RSet) : fn32_k1 xs164 = some xs164 := rfl
def fn32 (F : Nat) (p0 : List Instr) (p1 : PType) : Option ((List RSet)) :=
 bif decide ((0 : Int) ≤ (p0.length : Int)) && decide ((p0.length : Int) ≤ (p0.length : Int)) && decide ((524 : Int) * (p0.length : Int) ≤ 281474976710656) && decide ((p0.length : Int) ≤ 9223372036854775807) then (bif decide ((0 : Int) ≤ (p0.length : Int)) && decide ((p0.length : Int) ≤ (p0.length : Int)) && decide ((1 : Int) * (p0.length : Int) ≤ 281474976710656) && decide ((p0.length : Int) ≤ 9223372036854775807) then (bif inb 0 ((p0.length : Int).toNat) then (Option.bind (fn78 F p0) fun v4 => (Option.bind (fn32_l1 F p0 p1 v4 F ((List.replicate (p0.length : Int).toNat (⟨(Ar.rep 11 false), false, (Ar.rep 512 false)⟩ : RSet)).set (0 : Int).toNat (⟨(gt (List.replicate (p0.length : Int).toNat (⟨(Ar.rep 11 false), false, (Ar.rep 512 false)⟩ : RSet)) 0).fnumber, true, (gt (List.replicate (p0.length : Int).toNat (⟨(Ar.rep 11 false), false, (Ar.rep 512 false)⟩ : RSet)) 0).fbytes⟩ : RSet)) ((List.replicate (p0.length : Int).toNat false).set (0 : Int).toNat true) true) fun o165 => (fn32_k1 o165))) else none) else none) else none
theorem c32 (F : Nat) (p0 : List Instr) (p1 : PType) (r : (List RSet)) (h : fn32 F p0 p1 = some r) : Con Tryz.prog 32 [.sl 0, .ag [.v (.string p1.fName), .v (.int .i64 p1.fCtx), .sl 1, .sl 2, .v (.int .i64 p1.fLo), .v (.int .i64 p1.fHi)]] [(0, .rd Instr.E p0), (1, .rd Fld.E p1.fFields), (2, .rd Need.E p1.fNeeds)] 3 (.sl 3) [(3, .row RSet.E 70 r r.length .unk)] 4 := by
 rw [fn32] at h
 refine Con.of_body Tryz.func32 rfl Tryz.ntmps32 rfl fun w F0 ρ => ?_
 obtain ⟨hk1, h⟩ := ck h
 obtain ⟨hk2, h⟩ := ck h
 obtain ⟨hk3, h⟩ := ck h
 obtain ⟨v4, hv5, h⟩ := bd h
 refine U_ tbOk 21 [.ms RSet.E (⟨(Ar.rep 11 false), false, (Ar.rep 512 false)⟩ : RSet), .ms Et.bool false, .se RSet.E _ (⟨(gt (List.replicate (p0.length : Int).toNat (⟨(Ar.rep 11 false), false, (Ar.rep 512 false)⟩ : RSet)) 0).fnumber, true, (gt (List.replicate (p0.length : Int).toNat (⟨(Ar.rep 11 false), false, (Ar.rep 512 false)⟩ : RSet)) 0).fbytes⟩ : RSet), .se Et.bool _ true, .cl true [0] (fun _ => c78 F p0 _ hv5)] (aC hk1 (aR (aC hk2 (aR (aC hk3 (aR (aR (aC hk3 (aR (aR (aK aN))))))))))) ?_
 obtain ⟨o165, hl166, h⟩ := bd h
 refine CT 0 ⟨[(5, .sl 3)], [(0, .rd Instr.E p0), (1, .rd Fld.E p1.fFields), (2, .rd Need.E p1.fNeeds), (3, .row RSet.E 70 o165 o165.length .unk)], 4⟩ ?_ ?_
 ·have h0169 := h
  clear h
  refine G4.imp (Imp.trans (Imp.row 4 (by rfl)) (Imp.trans (Imp.row 5 (by rfl)) (I_ [0, 1, 2, 3, 4, 5, 6]))) (LP (fun (n : Nat) (s : (List RSet) × (List Bool) × Bool) => fn32_l1 F p0 p1 v4 n s.1 s.2.1 s.2.2) (fun (s : (List RSet) × (List Bool) × Bool) => ⟨[(0, .sl 0), (3, .p 3 0), (5, .sl 4), (6, .sl 5), (7, .sl 6), (8, .v (.bool s.2.2))], [(0, .rd Instr.E p0), (1, .rd Fld.E p1.fFields), (2, .rd Need.E p1.fNeeds), (3, .cells 26 [.v (.string p1.fName), .v (.int .i64 p1.fCtx), .sl 1, .sl 2, .v (.int .i64 p1.fLo), .v (.int .i64 p1.fHi)]), (4, .row RSet.E 70 s.1 s.1.length .unk), (5, .row Et.bool 4 s.2.1 s.2.1.length .unk), (6, .row Edge.E 142 v4 v4.length .iff)], 7⟩) (fun _ => rfl) (s0 := ((List.replicate (p0.length : Int).toNat (⟨(Ar.rep 11 false), false, (Ar.rep 512 false)⟩ : RSet)).set (0 : Int).toNat (⟨(gt (List.replicate (p0.length : Int).toNat (⟨(Ar.rep 11 false), false, (Ar.rep 512 false)⟩ : RSet)) 0).fnumber, true, (gt (List.replicate (p0.length : Int).toNat (⟨(Ar.rep 11 false), false, (Ar.rep 512 false)⟩ : RSet)) 0).fbytes⟩ : RSet), (List.replicate (p0.length : Int).toNat false).set (0 : Int).toNat true, true)) hl166 ?_)
  clear hl166
  rintro R170 n167 ⟨xs81, xs82, x83⟩ h ih168
  replace h := (fn32_l1_s F p0 p1 v4 n167 xs81 xs82 x83).symm.trans h
  refine U_ tbOk 1 [] aN ?_
  refine C_ h (fun h hb171 => ?_) fun h hb171 => ?_
  ·refine U_ tbOk 2 [] aN ?_
   obtain ⟨o223, hl224, h⟩ := bd h
   refine CT 2 ⟨[(0, .sl 0), (3, .p 3 0), (5, .sl 4), (6, .sl 5), (7, .sl 6), (8, .v (.bool o223.2.2))], [(0, .rd Instr.E p0), (1, .rd Fld.E p1.fFields), (2, .rd Need.E p1.fNeeds), (3, .cells 26 [.v (.string p1.fName), .v (.int .i64 p1.fCtx), .sl 1, .sl 2, .v (.int .i64 p1.fLo), .v (.int .i64 p1.fHi)]), (4, .row RSet.E 70 o223.1 o223.1.length .unk), (5, .row Et.bool 4 o223.2.1 o223.2.1.length .unk), (6, .row Edge.E 142 v4 v4.length .iff)], 7⟩ ?_ ?_
   ·have h0227 := h
    clear h
    refine G4.imp (I_ [0, 1, 2, 3, 4, 5, 6]) (LP (fun (n : Nat) (s : (List RSet) × (List Bool) × Bool × Int) => fn32_l2 F p0 p1 v4 n s.1 s.2.1 s.2.2.1 s.2.2.2) (fun (s : (List RSet) × (List Bool) × Bool × Int) => ⟨[(0, .sl 0), (3, .p 3 0), (5, .sl 4), (6, .sl 5), (7, .sl 6), (8, .v (.bool s.2.2.1)), (9, .v (.int .i64 s.2.2.2))], [(0, .rd Instr.E p0), (1, .rd Fld.E p1.fFields), (2, .rd Need.E p1.fNeeds), (3, .cells 26 [.v (.string p1.fName), .v (.int .i64 p1.fCtx), .sl 1, .sl 2, .v (.int .i64 p1.fLo), .v (.int .i64 p1.fHi)]), (4, .row RSet.E 70 s.1 s.1.length .unk), (5, .row Et.bool 4 s.2.1 s.2.1.length .unk), (6, .row Edge.E 142 v4 v4.length .iff)], 7⟩) (fun _ => rfl) (s0 := (xs81, xs82, false, 0)) hl224 ?_)
    clear hl224
    rintro R228 n225 ⟨xs194, xs195, x196, x197⟩ h ih226
    replace h := (fn32_l2_s F p0 p1 v4 n225 xs194 xs195 x196 x197).symm.trans h
    refine U_ tbOk 4 [] aN ?_
    refine C_ h (fun h hb229 => ?_) fun h hb229 => ?_
    ·obtain ⟨hk230, h⟩ := ck h
     obtain ⟨hk231, h⟩ := ck h
     refine U_ tbOk 9 [] (aC hk230 (aC hk231 aN)) ?_
     refine C_ h (fun h hb232 => ?_) fun h hb232 => ?_
     ·refine U_ tbOk 3 [] aN ?_
      exact ih226 (xs194, xs195, x196, IntKind.i64.wrap (x197 + 1)) h _ _ (I_ [0, 1, 2, 3, 4, 5, 6])
     ·refine U_ tbOk 0 [] aN ?_
      obtain ⟨hk233, h⟩ := ck h
      obtain ⟨v234, hv235, h⟩ := bd h
      refine DR tbOk hmix [10] [([], []), ([], []), ([], []), ([6], []), ([], []), ([6], []), ([4], []), ([4], []), ([], []), ([], []), ([], []), ([6], []), ([], []), ([6], []), ([3], []), ([0, 1, 2], []), ([], []), ([], []), ([], []), ([], []), ([7], [7]), ([], [])] [.cl true [0, 1, 2] (fun _ => c33 F (gt xs194 ((gt v4 x197).fFrom)) p0 ((gt v4 x197).fFrom) p1 _ hv235)] (aR (aC hk230 (aR (aR (aC hk233 (aR (aR (aC hk230 (aR (aR (aR (aK (aR aN))))))))))))) (by rfl) ?_
      obtain ⟨hk236, h⟩ := ck h
      refine U_ tbOk 8 [] (aC hk230 (aC hk236 aN)) ?_
      refine C_ h (fun h hb237 => ?_) fun h hb237 => ?_
      ·refine U_ tbOk 0 [] aN ?_
       obtain ⟨hk238, h⟩ := ck h
       obtain ⟨v239, hv240, h⟩ := bd h
       refine DR tbOk hmix [] [([7], []), ([], []), ([], []), ([], []), ([6], []), ([], []), ([6], []), ([4], []), ([4], []), ([], []), ([7], [7])] [.cl true [] (fun _ => c80 F v234.1 (gt xs194 ((gt v4 x197).fTo)) _ hv240)] (aR (aR (aC hk230 (aR (aR (aC hk238 (aR (aK (aR aN))))))))) (by rfl) ?_
       refine U_ tbOk 0 [] aN ?_
       refine CDS h (fun h hb243 => ?_) (fun h hb243 => ?_)
       ·refine DR (tbOk.lit [(86, 87, true)]) hmix [98] [([], []), ([], []), ([], []), ([6], []), ([], []), ([6], []), ([5], []), ([5], []), ([], []), ([], []), ([], []), ([], []), ([], []), ([], []), ([], []), ([], []), ([], []), ([], []), ([], []), ([], []), ([], [])] [] (aR (aC hk230 (aR (aR (aC hk236 (aR (aC hb243 aN))))))) (by rfl) ?_
        refine U_ tbOk 0 [] aN ?_
        refine CDT rfl (by rfl) ?_
        refine U_ tbOk 0 [] aN ?_
        refine DR tbOk hmix [] [([], []), ([], []), ([], []), ([6], []), ([], []), ([6], []), ([7], []), ([4], []), ([4], [4])] [.se RSet.E _ v239] (aR (aC hk230 (aR (aR (aR (aC hk238 (aR (aR (aR aN))))))))) (by rfl) ?_
        refine U_ tbOk 12 [.se Et.bool _ true] (aC hk230 (aC hk236 (aR (aR aN)))) ?_
        exact ih226 (xs194.set ((gt v4 x197).fTo).toNat v239, xs195.set ((gt v4 x197).fTo).toNat true, true, IntKind.i64.wrap (x197 + 1)) h _ _ (Imp.trans (Imp.row 4 (by rfl)) (Imp.trans (Imp.row 5 (by rfl)) (I_ [0, 1, 2, 3, 4, 5, 6])))
       ·refine DR (tbOk.lit [(86, 87, false)]) hmix [98] [([], []), ([], []), ([], []), ([6], []), ([], []), ([6], []), ([5], []), ([5], []), ([], []), ([], []), ([7], []), ([], []), ([], []), ([], []), ([6], []), ([], []), ([6], []), ([4], []), ([4], []), ([], []), ([], [])] [.eq [.b 11 v239.fnumber ((gt xs194 ((gt v4 x197).fTo)).fnumber), .b 512 v239.fbytes ((gt xs194 ((gt v4 x197).fTo)).fbytes)]] (aR (aC hk230 (aR (aR (aC hk236 (aR (aC hb243 (aR (aR (aC hk230 (aR (aR (aC hk238 (aR (aR (aR (aR (aR aN)))))))))))))))))) (by rfl) ?_
        refine U_ tbOk 0 [] aN ?_
        refine C_ h (fun h hb244 => ?_) fun h hb244 => ?_
        ·refine U_ tbOk 0 [] aN ?_
         refine DR tbOk hmix [] [([], []), ([], []), ([], []), ([6], []), ([], []), ([6], []), ([7], []), ([4], []), ([4], [4])] [.se RSet.E _ v239] (aR (aC hk230 (aR (aR (aR (aC hk238 (aR (aR (aR aN))))))))) (by rfl) ?_
         refine U_ tbOk 12 [.se Et.bool _ true] (aC hk230 (aC hk236 (aR (aR aN)))) ?_
         exact ih226 (xs194.set ((gt v4 x197).fTo).toNat v239, xs195.set ((gt v4 x197).fTo).toNat true, true, IntKind.i64.wrap (x197 + 1)) h _ _ (Imp.trans (Imp.row 4 (by rfl)) (Imp.trans (Imp.row 5 (by rfl)) (I_ [0, 1, 2, 3, 4, 5, 6])))
        ·refine U_ tbOk 3 [] aN ?_
         exact ih226 (xs194, xs195, x196, IntKind.i64.wrap (x197 + 1)) h _ _ (I_ [0, 1, 2, 3, 4, 5, 6])
      ·refine U_ tbOk 0 [] aN ?_
       refine CDS h (fun h hb247 => ?_) (fun h hb247 => ?_)
       ·refine DR (tbOk.lit [(86, 87, true)]) hmix [98] [([], []), ([], []), ([], []), ([6], []), ([], []), ([6], []), ([5], []), ([5], []), ([], []), ([], []), ([], []), ([], []), ([], []), ([], []), ([], []), ([], []), ([], []), ([], []), ([], []), ([], []), ([], [])] [] (aR (aC hk230 (aR (aR (aC hk236 (aR (aC hb247 aN))))))) (by rfl) ?_
        refine U_ tbOk 0 [] aN ?_
        refine CDT rfl (by rfl) ?_
        refine U_ tbOk 0 [] aN ?_
        obtain ⟨hk248, h⟩ := ck h
        refine DR tbOk hmix [] [([], []), ([], []), ([], []), ([6], []), ([], []), ([6], []), ([7], []), ([4], []), ([4], [4])] [.se RSet.E _ v234.1] (aR (aC hk230 (aR (aR (aR (aC hk248 (aR (aR (aR aN))))))))) (by rfl) ?_
        refine U_ tbOk 12 [.se Et.bool _ true] (aC hk230 (aC hk236 (aR (aR aN)))) ?_
        exact ih226 (xs194.set ((gt v4 x197).fTo).toNat v234.1, xs195.set ((gt v4 x197).fTo).toNat true, true, IntKind.i64.wrap (x197 + 1)) h _ _ (Imp.trans (Imp.row 4 (by rfl)) (Imp.trans (Imp.row 5 (by rfl)) (I_ [0, 1, 2, 3, 4, 5, 6])))
       ·obtain ⟨hk249, h⟩ := ck h
        refine DR (tbOk.lit [(86, 87, false)]) hmix [98] [([], []), ([], []), ([], []), ([6], []), ([], []), ([6], []), ([5], []), ([5], []), ([], []), ([], []), ([7], []), ([], []), ([], []), ([], []), ([6], []), ([], []), ([6], []), ([4], []), ([4], []), ([], []), ([], [])] [.eq [.b 11 v234.1.fnumber ((gt xs194 ((gt v4 x197).fTo)).fnumber), .b 512 v234.1.fbytes ((gt xs194 ((gt v4 x197).fTo)).fbytes)]] (aR (aC hk230 (aR (aR (aC hk236 (aR (aC hb247 (aR (aR (aC hk230 (aR (aR (aC hk249 (aR (aR (aR (aR (aR aN)))))))))))))))))) (by rfl) ?_
        refine U_ tbOk 0 [] aN ?_
        refine C_ h (fun h hb250 => ?_) fun h hb250 => ?_
        ·refine U_ tbOk 0 [] aN ?_
         refine DR tbOk hmix [] [([], []), ([], []), ([], []), ([6], []), ([], []), ([6], []), ([7], []), ([4], []), ([4], [4])] [.se RSet.E _ v234.1] (aR (aC hk230 (aR (aR (aR (aC hk249 (aR (aR (aR aN))))))))) (by rfl) ?_
         refine U_ tbOk 12 [.se Et.bool _ true] (aC hk230 (aC hk236 (aR (aR aN)))) ?_
         exact ih226 (xs194.set ((gt v4 x197).fTo).toNat v234.1, xs195.set ((gt v4 x197).fTo).toNat true, true, IntKind.i64.wrap (x197 + 1)) h _ _ (Imp.trans (Imp.row 4 (by rfl)) (Imp.trans (Imp.row 5 (by rfl)) (I_ [0, 1, 2, 3, 4, 5, 6])))
        ·refine U_ tbOk 3 [] aN ?_
         exact ih226 (xs194, xs195, x196, IntKind.i64.wrap (x197 + 1)) h _ _ (I_ [0, 1, 2, 3, 4, 5, 6])
    ·refine U_ tbOk 0 [] aN ?_
     obtain rfl := sj h
     exact CE (I_ [0, 1, 2, 3, 4, 5, 6])
   ·replace h := (fn32_k2_s (fn32_l1 F p0 p1 v4 n167) o223.1 o223.2.1 o223.2.2).symm.trans h
    refine U_ tbOk 0 [] aN ?_
    exact ih168 (o223.1, o223.2.1, o223.2.2) h _ _ (I_ [0, 1, 2, 3, 4, 5, 6])
  ·refine U_ tbOk 0 [] aN ?_
   obtain rfl := sj h
   exact CE (I_ [0, 1, 2, 4])
 ·replace h := (fn32_k1_s o165).symm.trans h
  refine U_ tbOk 2 [] aN ?_
  obtain rfl := sj h
  exact T_ tbOk.t Tryz.results32 [0, 1, 2, 3]
def fn12_l1 (F : Nat) (p0 : List Instr) (p1 : PType) (v8 : (List Bool)) (v10 : (List RSet)) : Nat → Int → Option ((Unit) ⊕ (Bool))
 | 0, _ => none
 | n29 + 1, x19 => bif decide (x19 < (p0.length : Int)) then (bif inb x19 v8.length then (bif !(gt v8 x19) then ((fn12_l1 F p0 p1 v8 v10 n29) (IntKind.i64.wrap (x19 + 1))) else (bif inb x19 v10.length then (Option.bind (fn33 F (gt v10 x19) p0 x19 p1) fun v37 => (bif !v37.2 then (some (.inr false)) else ((fn12_l1 F p0 p1 v8 v10 n29) (IntKind.i64.wrap (x19 + 1))))) else none)) else none) else (some (.inl ()))
theorem fn12_l1_s (F : Nat) (p0 : List Instr) (p1 : PType) (v8 : (List Bool)) (v10 : (List RSet)) (n29 : Nat) (x19 : Int) : fn12_l1 F p0 p1 v8 v10 (n29 + 1) x19 = bif decide (x19 < (p0.length : Int)) then (bif inb x19 v8.length then (bif !(gt v8 x19) then ((fn12_l1 F p0 p1 v8 v10 n29) (IntKind.i64.wrap (x19 + 1))) else (bif inb x19 v10.length then (Option.bind (fn33 F (gt v10 x19) p0 x19 p1) fun v37 => (bif !v37.2 then (some (.inr false)) else ((fn12_l1 F p0 p1 v8 v10 n29) (IntKind.i64.wrap (x19 + 1))))) else none)) else none) else (some (.inl ())) := rfl
def fn12_k1 : Option (Bool) :=
 some true
theorem fn12_k1_s : fn12_k1 = some true := rfl
def fn12 (F : Nat) (p0 : List Instr) (p1 : PType) : Option (Bool) :=
 Option.bind (fn28 F p0) fun v1 => (Option.bind (bif bif v1.2 != 0 then false else true then fn29 F p1 else some 0) fun v3 => (Option.bind (bif bif ((v1.2 != 0) || (v3 != 0)) || (decide ((64 : Int) < (p0.length : Int))) then false else true then fn30 F p0 else some false) fun v5 => (bif (((v1.2 != 0) || (v3 != 0)) || (decide ((64 : Int) < (p0.length : Int)))) || v5 then (some false) else (Option.bind (fn31 F p0) fun v8 => (Option.bind (fn32 F p0 p1) fun v10 => (Option.bind (fn12_l1 F p0 p1 v8 v10 F 0) fun o27 => (match o27 with | .inl u => fn12_k1 | .inr u => some u)))))))
theorem c12 (F : Nat) (p0 : List Instr) (p1 : PType) (r : Bool) (h : fn12 F p0 p1 = some r) : Con Tryz.prog 12 [.sl 0, .ag [.v (.string p1.fName), .v (.int .i64 p1.fCtx), .sl 1, .sl 2, .v (.int .i64 p1.fLo), .v (.int .i64 p1.fHi)]] [(0, .rd Instr.E p0), (1, .rd Fld.E p1.fFields), (2, .rd Need.E p1.fNeeds)] 3 (.v (.bool r)) [] 3 := by
 rw [fn12] at h
 refine Con.of_body Tryz.func12 rfl Tryz.ntmps12 rfl fun w F0 ρ => ?_
 obtain ⟨v1, hv2, h⟩ := bd h
 obtain ⟨v3, hv4, h⟩ := bd h
 obtain ⟨v5, hv6, h⟩ := bd h
 refine U_ tbOk 25 [.cl true [0] (fun _ => c28 F p0 _ hv2), .cl (bif v1.2 != 0 then false else true) [1, 2] (fun hg => c29 F p1 _ (gcl hg hv4)), .cl (bif ((v1.2 != 0) || (v3 != 0)) || (decide ((64 : Int) < (p0.length : Int))) then false else true) [0] (fun hg => c30 F p0 _ (gcl hg hv6))] (aK (aR (aR (aK (aR (aR (aK aN))))))) ?_
 refine C_ h (fun h hb7 => ?_) fun h hb7 => ?_
 ·refine U_ tbOk 1 [] aN ?_
  obtain rfl := sj h
  exact T_ tbOk.t Tryz.results12 [0, 1, 2]
 ·obtain ⟨v8, hv9, h⟩ := bd h
  obtain ⟨v10, hv11, h⟩ := bd h
  refine U_ tbOk 8 [.cl true [0] (fun _ => c31 F p0 _ hv9), .cl true [0, 1, 2] (fun _ => c32 F p0 p1 _ hv11)] (aK (aK aN)) ?_
  obtain ⟨o27, hl28, h⟩ := bd h
  refine CTS 0 (fun u => ⟨[], [(0, .rd Instr.E p0), (1, .rd Fld.E p1.fFields), (2, .rd Need.E p1.fNeeds)], 3⟩) o27 ?_ (fun u hu => ?_)
  ·have h031 := h
   clear h
   refine G4.imp (I_ [0, 1, 2, 3, 4, 5]) (LP (fun (n : Nat) (s : Int) => fn12_l1 F p0 p1 v8 v10 n s) (fun (s : Int) => ⟨[(0, .sl 0), (3, .p 3 0), (7, .sl 4), (8, .sl 5), (9, .v (.int .i64 s))], [(0, .rd Instr.E p0), (1, .rd Fld.E p1.fFields), (2, .rd Need.E p1.fNeeds), (3, .cells 26 [.v (.string p1.fName), .v (.int .i64 p1.fCtx), .sl 1, .sl 2, .v (.int .i64 p1.fLo), .v (.int .i64 p1.fHi)]), (4, .row Et.bool 4 v8 v8.length .unk), (5, .row RSet.E 70 v10 v10.length .unk)], 6⟩) (fun _ => rfl) (s0 := 0) hl28 ?_)
   clear hl28
   rintro R32 n29 x19 h ih30
   replace h := (fn12_l1_s F p0 p1 v8 v10 n29 x19).symm.trans h
   refine U_ tbOk 4 [] aN ?_
   refine C_ h (fun h hb33 => ?_) fun h hb33 => ?_
   ·obtain ⟨hk34, h⟩ := ck h
    refine U_ tbOk 5 [] (aC hk34 aN) ?_
    refine C_ h (fun h hb35 => ?_) fun h hb35 => ?_
    ·refine U_ tbOk 3 [] aN ?_
     exact ih30 (IntKind.i64.wrap (x19 + 1)) h _ _ (I_ [0, 1, 2, 3, 4, 5])
    ·refine U_ tbOk 0 [] aN ?_
     obtain ⟨hk36, h⟩ := ck h
     obtain ⟨v37, hv38, h⟩ := bd h
     refine DR tbOk hmix [11] [([], []), ([], []), ([5], []), ([5], []), ([], []), ([], []), ([3], []), ([0, 1, 2], []), ([], []), ([], []), ([], []), ([], []), ([6], [6]), ([], [])] [.cl true [0, 1, 2] (fun _ => c33 F (gt v10 x19) p0 x19 p1 _ hv38)] (aR (aC hk36 (aR (aR (aR (aK (aR aN))))))) (by rfl) ?_
     refine U_ tbOk 2 [] aN ?_
     refine C_ h (fun h hb39 => ?_) fun h hb39 => ?_
     ·refine U_ tbOk 1 [] aN ?_
      obtain rfl := sj h
      replace h := h031
      refine U_ tbOk 0 [] aN ?_
      obtain rfl := sj h
      exact T_ tbOk.t Tryz.results12 [0, 1, 2]
     ·refine U_ tbOk 3 [] aN ?_
      exact ih30 (IntKind.i64.wrap (x19 + 1)) h _ _ (I_ [0, 1, 2, 3, 4, 5])
   ·refine U_ tbOk 0 [] aN ?_
    obtain rfl := sj h
    exact CES _ rfl (I_ [0, 1, 2])
  ·subst hu
   replace h := (fn12_k1_s).symm.trans h
   refine U_ tbOk 1 [] aN ?_
   obtain rfl := sj h
   exact T_ tbOk.t Tryz.results12 [0, 1, 2]
def fn13_l1 (p0 : List Instr) (p1 : List Instr) : Nat → Int → Option ((Unit) ⊕ (Bool))
 | 0, _ => none
 | n16 + 1, x8 => bif decide (x8 < ((cutX p0 (((0 : Nat) : Int).toNat) (((0 : Nat) : Int).toNat + (IntKind.i64.wrap ((p1.length : Int) + 12)).toNat - ((0 : Nat) : Int).toNat)).length : Int)) then (bif bif decide (x8 < (p1.length : Int)) then (inb x8 ((IntKind.i64.wrap ((p1.length : Int) + 12)).toNat - ((0 : Nat) : Int).toNat)) else true then (bif bif decide (x8 < (p1.length : Int)) then (inb x8 p1.length) else true then (bif bif (decide (x8 < (p1.length : Int))) && (!((((gt (cutX p0 (((0 : Nat) : Int).toNat) (((0 : Nat) : Int).toNat + (IntKind.i64.wrap ((p1.length : Int) + 12)).toNat - ((0 : Nat) : Int).toNat)) x8).fOp) == ((gt p1 x8).fOp)) && ((((gt (cutX p0 (((0 : Nat) : Int).toNat) (((0 : Nat) : Int).toNat + (IntKind.i64.wrap ((p1.length : Int) + 12)).toNat - ((0 : Nat) : Int).toNat)) x8).fDst) == ((gt p1 x8).fDst)) && ((((gt (cutX p0 (((0 : Nat) : Int).toNat) (((0 : Nat) : Int).toNat + (IntKind.i64.wrap ((p1.length : Int) + 12)).toNat - ((0 : Nat) : Int).toNat)) x8).fSrc) == ((gt p1 x8).fSrc)) && ((((gt (cutX p0 (((0 : Nat) : Int).toNat) (((0 : Nat) : Int).toNat + (IntKind.i64.wrap ((p1.length : Int) + 12)).toNat - ((0 : Nat) : Int).toNat)) x8).fOff) == ((gt p1 x8).fOff)) && ((((gt (cutX p0 (((0 : Nat) : Int).toNat) (((0 : Nat) : Int).toNat + (IntKind.i64.wrap ((p1.length : Int) + 12)).toNat - ((0 : Nat) : Int).toNat)) x8).fImm) == ((gt p1 x8).fImm)) && true)))))) then true else (bif decide ((p1.length : Int) ≤ x8) then (inb x8 ((IntKind.i64.wrap ((p1.length : Int) + 12)).toNat - ((0 : Nat) : Int).toNat)) else true) then (bif ((decide (x8 < (p1.length : Int))) && (!((((gt (cutX p0 (((0 : Nat) : Int).toNat) (((0 : Nat) : Int).toNat + (IntKind.i64.wrap ((p1.length : Int) + 12)).toNat - ((0 : Nat) : Int).toNat)) x8).fOp) == ((gt p1 x8).fOp)) && ((((gt (cutX p0 (((0 : Nat) : Int).toNat) (((0 : Nat) : Int).toNat + (IntKind.i64.wrap ((p1.length : Int) + 12)).toNat - ((0 : Nat) : Int).toNat)) x8).fDst) == ((gt p1 x8).fDst)) && ((((gt (cutX p0 (((0 : Nat) : Int).toNat) (((0 : Nat) : Int).toNat + (IntKind.i64.wrap ((p1.length : Int) + 12)).toNat - ((0 : Nat) : Int).toNat)) x8).fSrc) == ((gt p1 x8).fSrc)) && ((((gt (cutX p0 (((0 : Nat) : Int).toNat) (((0 : Nat) : Int).toNat + (IntKind.i64.wrap ((p1.length : Int) + 12)).toNat - ((0 : Nat) : Int).toNat)) x8).fOff) == ((gt p1 x8).fOff)) && ((((gt (cutX p0 (((0 : Nat) : Int).toNat) (((0 : Nat) : Int).toNat + (IntKind.i64.wrap ((p1.length : Int) + 12)).toNat - ((0 : Nat) : Int).toNat)) x8).fImm) == ((gt p1 x8).fImm)) && true))))))) || ((decide ((p1.length : Int) ≤ x8)) && (!((((gt (cutX p0 (((0 : Nat) : Int).toNat) (((0 : Nat) : Int).toNat + (IntKind.i64.wrap ((p1.length : Int) + 12)).toNat - ((0 : Nat) : Int).toNat)) x8).fOp) == ((fn21 1 (IntKind.i64.wrap (x8 - (p1.length : Int)))).fOp)) && ((((gt (cutX p0 (((0 : Nat) : Int).toNat) (((0 : Nat) : Int).toNat + (IntKind.i64.wrap ((p1.length : Int) + 12)).toNat - ((0 : Nat) : Int).toNat)) x8).fDst) == ((fn21 1 (IntKind.i64.wrap (x8 - (p1.length : Int)))).fDst)) && ((((gt (cutX p0 (((0 : Nat) : Int).toNat) (((0 : Nat) : Int).toNat + (IntKind.i64.wrap ((p1.length : Int) + 12)).toNat - ((0 : Nat) : Int).toNat)) x8).fSrc) == ((fn21 1 (IntKind.i64.wrap (x8 - (p1.length : Int)))).fSrc)) && ((((gt (cutX p0 (((0 : Nat) : Int).toNat) (((0 : Nat) : Int).toNat + (IntKind.i64.wrap ((p1.length : Int) + 12)).toNat - ((0 : Nat) : Int).toNat)) x8).fOff) == ((fn21 1 (IntKind.i64.wrap (x8 - (p1.length : Int)))).fOff)) && ((((gt (cutX p0 (((0 : Nat) : Int).toNat) (((0 : Nat) : Int).toNat + (IntKind.i64.wrap ((p1.length : Int) + 12)).toNat - ((0 : Nat) : Int).toNat)) x8).fImm) == ((fn21 1 (IntKind.i64.wrap (x8 - (p1.length : Int)))).fImm)) && true))))))) then (some (.inr false)) else ((fn13_l1 p0 p1 n16) (IntKind.i64.wrap (x8 + 1)))) else none) else none) else none) else (some (.inl ()))
theorem fn13_l1_s (p0 : List Instr) (p1 : List Instr) (n16 : Nat) (x8 : Int) : fn13_l1 p0 p1 (n16 + 1) x8 = bif decide (x8 < ((cutX p0 (((0 : Nat) : Int).toNat) (((0 : Nat) : Int).toNat + (IntKind.i64.wrap ((p1.length : Int) + 12)).toNat - ((0 : Nat) : Int).toNat)).length : Int)) then (bif bif decide (x8 < (p1.length : Int)) then (inb x8 ((IntKind.i64.wrap ((p1.length : Int) + 12)).toNat - ((0 : Nat) : Int).toNat)) else true then (bif bif decide (x8 < (p1.length : Int)) then (inb x8 p1.length) else true then (bif bif (decide (x8 < (p1.length : Int))) && (!((((gt (cutX p0 (((0 : Nat) : Int).toNat) (((0 : Nat) : Int).toNat + (IntKind.i64.wrap ((p1.length : Int) + 12)).toNat - ((0 : Nat) : Int).toNat)) x8).fOp) == ((gt p1 x8).fOp)) && ((((gt (cutX p0 (((0 : Nat) : Int).toNat) (((0 : Nat) : Int).toNat + (IntKind.i64.wrap ((p1.length : Int) + 12)).toNat - ((0 : Nat) : Int).toNat)) x8).fDst) == ((gt p1 x8).fDst)) && ((((gt (cutX p0 (((0 : Nat) : Int).toNat) (((0 : Nat) : Int).toNat + (IntKind.i64.wrap ((p1.length : Int) + 12)).toNat - ((0 : Nat) : Int).toNat)) x8).fSrc) == ((gt p1 x8).fSrc)) && ((((gt (cutX p0 (((0 : Nat) : Int).toNat) (((0 : Nat) : Int).toNat + (IntKind.i64.wrap ((p1.length : Int) + 12)).toNat - ((0 : Nat) : Int).toNat)) x8).fOff) == ((gt p1 x8).fOff)) && ((((gt (cutX p0 (((0 : Nat) : Int).toNat) (((0 : Nat) : Int).toNat + (IntKind.i64.wrap ((p1.length : Int) + 12)).toNat - ((0 : Nat) : Int).toNat)) x8).fImm) == ((gt p1 x8).fImm)) && true)))))) then true else (bif decide ((p1.length : Int) ≤ x8) then (inb x8 ((IntKind.i64.wrap ((p1.length : Int) + 12)).toNat - ((0 : Nat) : Int).toNat)) else true) then (bif ((decide (x8 < (p1.length : Int))) && (!((((gt (cutX p0 (((0 : Nat) : Int).toNat) (((0 : Nat) : Int).toNat + (IntKind.i64.wrap ((p1.length : Int) + 12)).toNat - ((0 : Nat) : Int).toNat)) x8).fOp) == ((gt p1 x8).fOp)) && ((((gt (cutX p0 (((0 : Nat) : Int).toNat) (((0 : Nat) : Int).toNat + (IntKind.i64.wrap ((p1.length : Int) + 12)).toNat - ((0 : Nat) : Int).toNat)) x8).fDst) == ((gt p1 x8).fDst)) && ((((gt (cutX p0 (((0 : Nat) : Int).toNat) (((0 : Nat) : Int).toNat + (IntKind.i64.wrap ((p1.length : Int) + 12)).toNat - ((0 : Nat) : Int).toNat)) x8).fSrc) == ((gt p1 x8).fSrc)) && ((((gt (cutX p0 (((0 : Nat) : Int).toNat) (((0 : Nat) : Int).toNat + (IntKind.i64.wrap ((p1.length : Int) + 12)).toNat - ((0 : Nat) : Int).toNat)) x8).fOff) == ((gt p1 x8).fOff)) && ((((gt (cutX p0 (((0 : Nat) : Int).toNat) (((0 : Nat) : Int).toNat + (IntKind.i64.wrap ((p1.length : Int) + 12)).toNat - ((0 : Nat) : Int).toNat)) x8).fImm) == ((gt p1 x8).fImm)) && true))))))) || ((decide ((p1.length : Int) ≤ x8)) && (!((((gt (cutX p0 (((0 : Nat) : Int).toNat) (((0 : Nat) : Int).toNat + (IntKind.i64.wrap ((p1.length : Int) + 12)).toNat - ((0 : Nat) : Int).toNat)) x8).fOp) == ((fn21 1 (IntKind.i64.wrap (x8 - (p1.length : Int)))).fOp)) && ((((gt (cutX p0 (((0 : Nat) : Int).toNat) (((0 : Nat) : Int).toNat + (IntKind.i64.wrap ((p1.length : Int) + 12)).toNat - ((0 : Nat) : Int).toNat)) x8).fDst) == ((fn21 1 (IntKind.i64.wrap (x8 - (p1.length : Int)))).fDst)) && ((((gt (cutX p0 (((0 : Nat) : Int).toNat) (((0 : Nat) : Int).toNat + (IntKind.i64.wrap ((p1.length : Int) + 12)).toNat - ((0 : Nat) : Int).toNat)) x8).fSrc) == ((fn21 1 (IntKind.i64.wrap (x8 - (p1.length : Int)))).fSrc)) && ((((gt (cutX p0 (((0 : Nat) : Int).toNat) (((0 : Nat) : Int).toNat + (IntKind.i64.wrap ((p1.length : Int) + 12)).toNat - ((0 : Nat) : Int).toNat)) x8).fOff) == ((fn21 1 (IntKind.i64.wrap (x8 - (p1.length : Int)))).fOff)) && ((((gt (cutX p0 (((0 : Nat) : Int).toNat) (((0 : Nat) : Int).toNat + (IntKind.i64.wrap ((p1.length : Int) + 12)).toNat - ((0 : Nat) : Int).toNat)) x8).fImm) == ((fn21 1 (IntKind.i64.wrap (x8 - (p1.length : Int)))).fImm)) && true))))))) then (some (.inr false)) else ((fn13_l1 p0 p1 n16) (IntKind.i64.wrap (x8 + 1)))) else none) else none) else none) else (some (.inl ())) := rfl
def fn13_k1 : Option (Bool) :=
 some true
theorem fn13_k1_s : fn13_k1 = some true := rfl
def fn13 (F : Nat) (p0 : List Instr) (p0_k : Nat) (p1 : List Instr) : Option (Bool) :=
 bif ((cutX p0 0 (0 + p0_k)).length : Int) != (p1.length : Int) then (some false) else (bif sliceOk ((0 : Nat) : Int) (IntKind.i64.wrap ((p1.length : Int) + 12)) p0.length then (Option.bind (fn13_l1 p0 p1 F 0) fun o14 => (match o14 with | .inl u => fn13_k1 | .inr u => some u)) else none)
theorem c13 (F : Nat) (p0 : List Instr) (p0_k : Nat) (p1 : List Instr) (r : Bool) (h : fn13 F p0 p0_k p1 = some r) : Con Tryz.prog 13 [.sl 0, .sl 2] [(0, .vw (.ss 1 0 5 p0_k)), (1, .rd Instr.E p0), (2, .rd Instr.E p1)] 3 (.v (.bool r)) [(0, .vw (.ss 1 0 5 p0_k))] 3 := by
 rw [fn13] at h
 refine Con.of_body Tryz.func13 rfl Tryz.ntmps13 rfl fun w F0 ρ => ?_
 refine U_ tbOk 6 [] aN ?_
 refine C_ h (fun h hb1 => ?_) fun h hb1 => ?_
 ·refine U_ tbOk 1 [] aN ?_
  obtain rfl := sj h
  exact T_ tbOk.t Tryz.results13 [0, 1, 2]
 ·obtain ⟨hk2, h⟩ := ck h
  refine U_ tbOk 7 [.sv] (aC rfl (aC hk2 aN)) ?_
  refine G4.imp (Imp.vwS 5 (by rfl)) ?_
  obtain ⟨o14, hl15, h⟩ := bd h
  refine CTS 0 (fun u => ⟨[], [(0, .vw (.ss 1 0 5 p0_k)), (1, .rd Instr.E p0), (2, .rd Instr.E p1)], 3⟩) o14 ?_ (fun u hu => ?_)
  ·have h018 := h
   clear h
   refine G4.imp (I_ [0, 1, 2, 3]) (LP (fun (n : Nat) (s : Int) => fn13_l1 p0 p1 n s) (fun (s : Int) => ⟨[(1, .sl 2), (5, .sl 3), (6, .v (.int .i64 s))], [(0, .vw (.ss 1 0 5 p0_k)), (1, .rd Instr.E p0), (2, .rd Instr.E p1), (3, .vw (.ss 1 (((0 : Nat) : Int).toNat) 5 ((IntKind.i64.wrap ((p1.length : Int) + 12)).toNat - ((0 : Nat) : Int).toNat)))], 4⟩) (fun _ => rfl) (s0 := 0) hl15 ?_)
   clear hl15
   rintro R19 n16 x8 h ih17
   replace h := (fn13_l1_s p0 p1 n16 x8).symm.trans h
   refine U_ tbOk 4 [] aN ?_
   refine C_ h (fun h hb20 => ?_) fun h hb20 => ?_
   ·refine U_ tbOk 0 [] aN ?_
    obtain ⟨hk21, h⟩ := ck h
    obtain ⟨hk22, h⟩ := ck h
    obtain ⟨hk23, h⟩ := ck h
    refine DR tbOk hmix [57] [([], []), ([], []), ([2], []), ([], []), ([], []), ([], []), ([], []), ([1, 3], []), ([1, 3], []), ([], []), ([], []), ([2], []), ([2], []), ([], []), ([], []), ([], []), ([], []), ([], []), ([], []), ([2], []), ([], []), ([], []), ([], []), ([], []), ([1, 3], []), ([1, 3], []), ([], []), ([], []), ([2], []), ([], []), ([], []), ([], []), ([], []), ([], []), ([], [])] [.cl (bif (decide (x8 < (p1.length : Int))) && (!((((gt (cutX p0 (((0 : Nat) : Int).toNat) (((0 : Nat) : Int).toNat + (IntKind.i64.wrap ((p1.length : Int) + 12)).toNat - ((0 : Nat) : Int).toNat)) x8).fOp) == ((gt p1 x8).fOp)) && ((((gt (cutX p0 (((0 : Nat) : Int).toNat) (((0 : Nat) : Int).toNat + (IntKind.i64.wrap ((p1.length : Int) + 12)).toNat - ((0 : Nat) : Int).toNat)) x8).fDst) == ((gt p1 x8).fDst)) && ((((gt (cutX p0 (((0 : Nat) : Int).toNat) (((0 : Nat) : Int).toNat + (IntKind.i64.wrap ((p1.length : Int) + 12)).toNat - ((0 : Nat) : Int).toNat)) x8).fSrc) == ((gt p1 x8).fSrc)) && ((((gt (cutX p0 (((0 : Nat) : Int).toNat) (((0 : Nat) : Int).toNat + (IntKind.i64.wrap ((p1.length : Int) + 12)).toNat - ((0 : Nat) : Int).toNat)) x8).fOff) == ((gt p1 x8).fOff)) && ((((gt (cutX p0 (((0 : Nat) : Int).toNat) (((0 : Nat) : Int).toNat + (IntKind.i64.wrap ((p1.length : Int) + 12)).toNat - ((0 : Nat) : Int).toNat)) x8).fImm) == ((gt p1 x8).fImm)) && true)))))) then false else (bif decide ((p1.length : Int) ≤ x8) then true else false)) [] (fun _ => c21 1 (IntKind.i64.wrap (x8 - (p1.length : Int))) _ rfl)] (aR (aC hk21 (aC hk22 (aC hk23 (aR (aR (aK aN))))))) (by rfl) ?_
    refine U_ tbOk 0 [] aN ?_
    refine C_ h (fun h hb24 => ?_) fun h hb24 => ?_
    ·refine U_ tbOk 1 [] aN ?_
     obtain rfl := sj h
     replace h := h018
     refine U_ tbOk 0 [] aN ?_
     obtain rfl := sj h
     exact T_ tbOk.t Tryz.results13 [0, 1, 2]
    ·refine U_ tbOk 3 [] aN ?_
     exact ih17 (IntKind.i64.wrap (x8 + 1)) h _ _ (I_ [0, 1, 2, 3])
   ·refine U_ tbOk 0 [] aN ?_
    obtain rfl := sj h
    exact CES _ rfl (I_ [0, 1, 2])
  ·subst hu
   replace h := (fn13_k1_s).symm.trans h
   refine U_ tbOk 1 [] aN ?_
   obtain rfl := sj h
   exact T_ tbOk.t Tryz.results13 [0, 1, 2]
def fn86_l1 (p0 : List Fld) (p1 : List Fld) : Nat → Int → Option ((Unit) ⊕ (Bool))
 | 0, _ => none
 | n13 + 1, x6 => bif decide (x6 < (p0.length : Int)) then (bif inb x6 p0.length then (bif inb x6 p1.length then (bif !((((gt p0 x6).fOff) == ((gt p1 x6).fOff)) && ((((gt p0 x6).fSize) == ((gt p1 x6).fSize)) && ((((gt p0 x6).fKind) == ((gt p1 x6).fKind)) && ((((gt p0 x6).fWrite) == ((gt p1 x6).fWrite)) && true)))) then (some (.inr false)) else ((fn86_l1 p0 p1 n13) (IntKind.i64.wrap (x6 + 1)))) else none) else none) else (some (.inl ()))
theorem fn86_l1_s (p0 : List Fld) (p1 : List Fld) (n13 : Nat) (x6 : Int) : fn86_l1 p0 p1 (n13 + 1) x6 = bif decide (x6 < (p0.length : Int)) then (bif inb x6 p0.length then (bif inb x6 p1.length then (bif !((((gt p0 x6).fOff) == ((gt p1 x6).fOff)) && ((((gt p0 x6).fSize) == ((gt p1 x6).fSize)) && ((((gt p0 x6).fKind) == ((gt p1 x6).fKind)) && ((((gt p0 x6).fWrite) == ((gt p1 x6).fWrite)) && true)))) then (some (.inr false)) else ((fn86_l1 p0 p1 n13) (IntKind.i64.wrap (x6 + 1)))) else none) else none) else (some (.inl ())) := rfl
def fn86_k1 : Option (Bool) :=
 some true
theorem fn86_k1_s : fn86_k1 = some true := rfl
def fn86 (F : Nat) (p0 : List Fld) (p1 : List Fld) : Option (Bool) :=
 bif (p0.length : Int) != (p1.length : Int) then (some false) else (Option.bind (fn86_l1 p0 p1 F 0) fun o11 => (match o11 with | .inl u => fn86_k1 | .inr u => some u))
theorem c86 (F : Nat) (p0 : List Fld) (p1 : List Fld) (r : Bool) (h : fn86 F p0 p1 = some r) : Con Tryz.prog 86 [.sl 0, .sl 1] [(0, .rd Fld.E p0), (1, .rd Fld.E p1)] 2 (.v (.bool r)) [] 2 := by
 rw [fn86] at h
 refine Con.of_body Tryz.func86 rfl Tryz.ntmps86 rfl fun w F0 ρ => ?_
 refine U_ tbOk 6 [] aN ?_
 refine C_ h (fun h hb1 => ?_) fun h hb1 => ?_
 ·refine U_ tbOk 1 [] aN ?_
  obtain rfl := sj h
  exact T_ tbOk.t Tryz.results86 [0, 1]
 ·refine U_ tbOk 1 [] aN ?_
  obtain ⟨o11, hl12, h⟩ := bd h
  refine CTS 0 (fun u => ⟨[], [(0, .rd Fld.E p0), (1, .rd Fld.E p1)], 2⟩) o11 ?_ (fun u hu => ?_)
  ·have h015 := h
   clear h
   refine G4.imp (I_ [0, 1]) (LP (fun (n : Nat) (s : Int) => fn86_l1 p0 p1 n s) (fun (s : Int) => ⟨[(0, .sl 0), (1, .sl 1), (5, .v (.int .i64 s))], [(0, .rd Fld.E p0), (1, .rd Fld.E p1)], 2⟩) (fun _ => rfl) (s0 := 0) hl12 ?_)
   clear hl12
   rintro R16 n13 x6 h ih14
   replace h := (fn86_l1_s p0 p1 n13 x6).symm.trans h
   refine U_ tbOk 4 [] aN ?_
   refine C_ h (fun h hb17 => ?_) fun h hb17 => ?_
   ·refine U_ tbOk 0 [] aN ?_
    obtain ⟨hk18, h⟩ := ck h
    obtain ⟨hk19, h⟩ := ck h
    refine DR tbOk hmix [25] [([], []), ([], []), ([0], []), ([0], []), ([], []), ([], []), ([1], []), ([1], []), ([], [])] [] (aR (aC hk18 (aR (aR (aC hk19 (aR aN)))))) (by rfl) ?_
    refine U_ tbOk 0 [] aN ?_
    refine C_ h (fun h hb20 => ?_) fun h hb20 => ?_
    ·refine U_ tbOk 1 [] aN ?_
     obtain rfl := sj h
     replace h := h015
     refine U_ tbOk 0 [] aN ?_
     obtain rfl := sj h
     exact T_ tbOk.t Tryz.results86 [0, 1]
    ·refine U_ tbOk 3 [] aN ?_
     exact ih14 (IntKind.i64.wrap (x6 + 1)) h _ _ (I_ [0, 1])
   ·refine U_ tbOk 0 [] aN ?_
    obtain rfl := sj h
    exact CES _ rfl (I_ [0, 1])
  ·subst hu
   replace h := (fn86_k1_s).symm.trans h
   refine U_ tbOk 1 [] aN ?_
   obtain rfl := sj h
   exact T_ tbOk.t Tryz.results86 [0, 1]
def fn87_l1 (p0 : List Need) (p1 : List Need) : Nat → Int → Option ((Unit) ⊕ (Bool))
 | 0, _ => none
 | n13 + 1, x6 => bif decide (x6 < (p0.length : Int)) then (bif inb x6 p0.length then (bif inb x6 p1.length then (bif !((((gt p0 x6).fHelper) == ((gt p1 x6).fHelper)) && ((((gt p0 x6).fMajor) == ((gt p1 x6).fMajor)) && ((((gt p0 x6).fMinor) == ((gt p1 x6).fMinor)) && true))) then (some (.inr false)) else ((fn87_l1 p0 p1 n13) (IntKind.i64.wrap (x6 + 1)))) else none) else none) else (some (.inl ()))
theorem fn87_l1_s (p0 : List Need) (p1 : List Need) (n13 : Nat) (x6 : Int) : fn87_l1 p0 p1 (n13 + 1) x6 = bif decide (x6 < (p0.length : Int)) then (bif inb x6 p0.length then (bif inb x6 p1.length then (bif !((((gt p0 x6).fHelper) == ((gt p1 x6).fHelper)) && ((((gt p0 x6).fMajor) == ((gt p1 x6).fMajor)) && ((((gt p0 x6).fMinor) == ((gt p1 x6).fMinor)) && true))) then (some (.inr false)) else ((fn87_l1 p0 p1 n13) (IntKind.i64.wrap (x6 + 1)))) else none) else none) else (some (.inl ())) := rfl
def fn87_k1 : Option (Bool) :=
 some true
theorem fn87_k1_s : fn87_k1 = some true := rfl
def fn87 (F : Nat) (p0 : List Need) (p1 : List Need) : Option (Bool) :=
 bif (p0.length : Int) != (p1.length : Int) then (some false) else (Option.bind (fn87_l1 p0 p1 F 0) fun o11 => (match o11 with | .inl u => fn87_k1 | .inr u => some u))
theorem c87 (F : Nat) (p0 : List Need) (p1 : List Need) (r : Bool) (h : fn87 F p0 p1 = some r) : Con Tryz.prog 87 [.sl 0, .sl 1] [(0, .rd Need.E p0), (1, .rd Need.E p1)] 2 (.v (.bool r)) [] 2 := by
 rw [fn87] at h
 refine Con.of_body Tryz.func87 rfl Tryz.ntmps87 rfl fun w F0 ρ => ?_
 refine U_ tbOk 6 [] aN ?_
 refine C_ h (fun h hb1 => ?_) fun h hb1 => ?_
 ·refine U_ tbOk 1 [] aN ?_
  obtain rfl := sj h
  exact T_ tbOk.t Tryz.results87 [0, 1]
 ·refine U_ tbOk 1 [] aN ?_
  obtain ⟨o11, hl12, h⟩ := bd h
  refine CTS 0 (fun u => ⟨[], [(0, .rd Need.E p0), (1, .rd Need.E p1)], 2⟩) o11 ?_ (fun u hu => ?_)
  ·have h015 := h
   clear h
   refine G4.imp (I_ [0, 1]) (LP (fun (n : Nat) (s : Int) => fn87_l1 p0 p1 n s) (fun (s : Int) => ⟨[(0, .sl 0), (1, .sl 1), (5, .v (.int .i64 s))], [(0, .rd Need.E p0), (1, .rd Need.E p1)], 2⟩) (fun _ => rfl) (s0 := 0) hl12 ?_)
   clear hl12
   rintro R16 n13 x6 h ih14
   replace h := (fn87_l1_s p0 p1 n13 x6).symm.trans h
   refine U_ tbOk 4 [] aN ?_
   refine C_ h (fun h hb17 => ?_) fun h hb17 => ?_
   ·refine U_ tbOk 0 [] aN ?_
    obtain ⟨hk18, h⟩ := ck h
    obtain ⟨hk19, h⟩ := ck h
    refine DR tbOk hmix [25] [([], []), ([], []), ([0], []), ([0], []), ([], []), ([], []), ([1], []), ([1], []), ([], [])] [] (aR (aC hk18 (aR (aR (aC hk19 (aR aN)))))) (by rfl) ?_
    refine U_ tbOk 0 [] aN ?_
    refine C_ h (fun h hb20 => ?_) fun h hb20 => ?_
    ·refine U_ tbOk 1 [] aN ?_
     obtain rfl := sj h
     replace h := h015
     refine U_ tbOk 0 [] aN ?_
     obtain rfl := sj h
     exact T_ tbOk.t Tryz.results87 [0, 1]
    ·refine U_ tbOk 3 [] aN ?_
     exact ih14 (IntKind.i64.wrap (x6 + 1)) h _ _ (I_ [0, 1])
   ·refine U_ tbOk 0 [] aN ?_
    obtain rfl := sj h
    exact CES _ rfl (I_ [0, 1])
  ·subst hu
   replace h := (fn87_k1_s).symm.trans h
   refine U_ tbOk 1 [] aN ?_
   obtain rfl := sj h
   exact T_ tbOk.t Tryz.results87 [0, 1]
def fn34 (F : Nat) (p0 : PType) (p1 : PType) : Option (Bool) :=
 Option.bind (bif bif (p0.fName.toList == p1.fName.toList) && (p0.fCtx == p1.fCtx) then true else false then fn86 F p0.fFields p1.fFields else some false) fun v1 => (Option.bind (bif bif ((p0.fName.toList == p1.fName.toList) && (p0.fCtx == p1.fCtx)) && v1 then true else false then fn87 F p0.fNeeds p1.fNeeds else some false) fun v3 => (some ((((((p0.fName.toList == p1.fName.toList) && (p0.fCtx == p1.fCtx)) && v1) && v3) && (p0.fLo == p1.fLo)) && (p0.fHi == p1.fHi))))
theorem c34 (F : Nat) (p0 : PType) (p1 : PType) (r : Bool) (h : fn34 F p0 p1 = some r) : Con Tryz.prog 34 [.ag [.v (.string p0.fName), .v (.int .i64 p0.fCtx), .sl 0, .sl 1, .v (.int .i64 p0.fLo), .v (.int .i64 p0.fHi)], .ag [.v (.string p1.fName), .v (.int .i64 p1.fCtx), .sl 2, .sl 3, .v (.int .i64 p1.fLo), .v (.int .i64 p1.fHi)]] [(0, .rd Fld.E p0.fFields), (1, .rd Need.E p0.fNeeds), (2, .rd Fld.E p1.fFields), (3, .rd Need.E p1.fNeeds)] 4 (.v (.bool r)) [] 4 := by
 rw [fn34] at h
 refine Con.of_body Tryz.func34 rfl Tryz.ntmps34 rfl fun w F0 ρ => ?_
 obtain ⟨v1, hv2, h⟩ := bd h
 obtain ⟨v3, hv4, h⟩ := bd h
 refine U_ tbOk 44 [.cl (bif (p0.fName.toList == p1.fName.toList) && (p0.fCtx == p1.fCtx) then true else false) [0, 2] (fun hg => c86 F p0.fFields p1.fFields _ (gcl hg hv2)), .cl (bif ((p0.fName.toList == p1.fName.toList) && (p0.fCtx == p1.fCtx)) && v1 then true else false) [1, 3] (fun hg => c87 F p0.fNeeds p1.fNeeds _ (gcl hg hv4))] (aR (aR (aK (aR (aR (aK aN)))))) ?_
 obtain rfl := sj h
 exact T_ tbOk.t Tryz.results34 [0, 1, 2, 3]
def fn35_l1 (p0 : List Fld) (p1 : List Fld) : Nat → Int → Option ((Unit) ⊕ (Bool))
 | 0, _ => none
 | n16 + 1, x8 => bif decide (x8 < ((cutX p0 (((0 : Nat) : Int).toNat) (((0 : Nat) : Int).toNat + (IntKind.i64.wrap ((p1.length : Int) + 12)).toNat - ((0 : Nat) : Int).toNat)).length : Int)) then (bif bif decide (x8 < (p1.length : Int)) then (inb x8 ((IntKind.i64.wrap ((p1.length : Int) + 12)).toNat - ((0 : Nat) : Int).toNat)) else true then (bif bif decide (x8 < (p1.length : Int)) then (inb x8 p1.length) else true then (bif bif (decide (x8 < (p1.length : Int))) && (!((((gt (cutX p0 (((0 : Nat) : Int).toNat) (((0 : Nat) : Int).toNat + (IntKind.i64.wrap ((p1.length : Int) + 12)).toNat - ((0 : Nat) : Int).toNat)) x8).fOff) == ((gt p1 x8).fOff)) && ((((gt (cutX p0 (((0 : Nat) : Int).toNat) (((0 : Nat) : Int).toNat + (IntKind.i64.wrap ((p1.length : Int) + 12)).toNat - ((0 : Nat) : Int).toNat)) x8).fSize) == ((gt p1 x8).fSize)) && ((((gt (cutX p0 (((0 : Nat) : Int).toNat) (((0 : Nat) : Int).toNat + (IntKind.i64.wrap ((p1.length : Int) + 12)).toNat - ((0 : Nat) : Int).toNat)) x8).fKind) == ((gt p1 x8).fKind)) && ((((gt (cutX p0 (((0 : Nat) : Int).toNat) (((0 : Nat) : Int).toNat + (IntKind.i64.wrap ((p1.length : Int) + 12)).toNat - ((0 : Nat) : Int).toNat)) x8).fWrite) == ((gt p1 x8).fWrite)) && true))))) then true else (bif decide ((p1.length : Int) ≤ x8) then (inb x8 ((IntKind.i64.wrap ((p1.length : Int) + 12)).toNat - ((0 : Nat) : Int).toNat)) else true) then (bif ((decide (x8 < (p1.length : Int))) && (!((((gt (cutX p0 (((0 : Nat) : Int).toNat) (((0 : Nat) : Int).toNat + (IntKind.i64.wrap ((p1.length : Int) + 12)).toNat - ((0 : Nat) : Int).toNat)) x8).fOff) == ((gt p1 x8).fOff)) && ((((gt (cutX p0 (((0 : Nat) : Int).toNat) (((0 : Nat) : Int).toNat + (IntKind.i64.wrap ((p1.length : Int) + 12)).toNat - ((0 : Nat) : Int).toNat)) x8).fSize) == ((gt p1 x8).fSize)) && ((((gt (cutX p0 (((0 : Nat) : Int).toNat) (((0 : Nat) : Int).toNat + (IntKind.i64.wrap ((p1.length : Int) + 12)).toNat - ((0 : Nat) : Int).toNat)) x8).fKind) == ((gt p1 x8).fKind)) && ((((gt (cutX p0 (((0 : Nat) : Int).toNat) (((0 : Nat) : Int).toNat + (IntKind.i64.wrap ((p1.length : Int) + 12)).toNat - ((0 : Nat) : Int).toNat)) x8).fWrite) == ((gt p1 x8).fWrite)) && true)))))) || ((decide ((p1.length : Int) ≤ x8)) && (!((((gt (cutX p0 (((0 : Nat) : Int).toNat) (((0 : Nat) : Int).toNat + (IntKind.i64.wrap ((p1.length : Int) + 12)).toNat - ((0 : Nat) : Int).toNat)) x8).fOff) == ((fn47 1 (IntKind.i64.wrap (x8 - (p1.length : Int)))).fOff)) && ((((gt (cutX p0 (((0 : Nat) : Int).toNat) (((0 : Nat) : Int).toNat + (IntKind.i64.wrap ((p1.length : Int) + 12)).toNat - ((0 : Nat) : Int).toNat)) x8).fSize) == ((fn47 1 (IntKind.i64.wrap (x8 - (p1.length : Int)))).fSize)) && ((((gt (cutX p0 (((0 : Nat) : Int).toNat) (((0 : Nat) : Int).toNat + (IntKind.i64.wrap ((p1.length : Int) + 12)).toNat - ((0 : Nat) : Int).toNat)) x8).fKind) == ((fn47 1 (IntKind.i64.wrap (x8 - (p1.length : Int)))).fKind)) && ((((gt (cutX p0 (((0 : Nat) : Int).toNat) (((0 : Nat) : Int).toNat + (IntKind.i64.wrap ((p1.length : Int) + 12)).toNat - ((0 : Nat) : Int).toNat)) x8).fWrite) == ((fn47 1 (IntKind.i64.wrap (x8 - (p1.length : Int)))).fWrite)) && true)))))) then (some (.inr false)) else ((fn35_l1 p0 p1 n16) (IntKind.i64.wrap (x8 + 1)))) else none) else none) else none) else (some (.inl ()))
theorem fn35_l1_s (p0 : List Fld) (p1 : List Fld) (n16 : Nat) (x8 : Int) : fn35_l1 p0 p1 (n16 + 1) x8 = bif decide (x8 < ((cutX p0 (((0 : Nat) : Int).toNat) (((0 : Nat) : Int).toNat + (IntKind.i64.wrap ((p1.length : Int) + 12)).toNat - ((0 : Nat) : Int).toNat)).length : Int)) then (bif bif decide (x8 < (p1.length : Int)) then (inb x8 ((IntKind.i64.wrap ((p1.length : Int) + 12)).toNat - ((0 : Nat) : Int).toNat)) else true then (bif bif decide (x8 < (p1.length : Int)) then (inb x8 p1.length) else true then (bif bif (decide (x8 < (p1.length : Int))) && (!((((gt (cutX p0 (((0 : Nat) : Int).toNat) (((0 : Nat) : Int).toNat + (IntKind.i64.wrap ((p1.length : Int) + 12)).toNat - ((0 : Nat) : Int).toNat)) x8).fOff) == ((gt p1 x8).fOff)) && ((((gt (cutX p0 (((0 : Nat) : Int).toNat) (((0 : Nat) : Int).toNat + (IntKind.i64.wrap ((p1.length : Int) + 12)).toNat - ((0 : Nat) : Int).toNat)) x8).fSize) == ((gt p1 x8).fSize)) && ((((gt (cutX p0 (((0 : Nat) : Int).toNat) (((0 : Nat) : Int).toNat + (IntKind.i64.wrap ((p1.length : Int) + 12)).toNat - ((0 : Nat) : Int).toNat)) x8).fKind) == ((gt p1 x8).fKind)) && ((((gt (cutX p0 (((0 : Nat) : Int).toNat) (((0 : Nat) : Int).toNat + (IntKind.i64.wrap ((p1.length : Int) + 12)).toNat - ((0 : Nat) : Int).toNat)) x8).fWrite) == ((gt p1 x8).fWrite)) && true))))) then true else (bif decide ((p1.length : Int) ≤ x8) then (inb x8 ((IntKind.i64.wrap ((p1.length : Int) + 12)).toNat - ((0 : Nat) : Int).toNat)) else true) then (bif ((decide (x8 < (p1.length : Int))) && (!((((gt (cutX p0 (((0 : Nat) : Int).toNat) (((0 : Nat) : Int).toNat + (IntKind.i64.wrap ((p1.length : Int) + 12)).toNat - ((0 : Nat) : Int).toNat)) x8).fOff) == ((gt p1 x8).fOff)) && ((((gt (cutX p0 (((0 : Nat) : Int).toNat) (((0 : Nat) : Int).toNat + (IntKind.i64.wrap ((p1.length : Int) + 12)).toNat - ((0 : Nat) : Int).toNat)) x8).fSize) == ((gt p1 x8).fSize)) && ((((gt (cutX p0 (((0 : Nat) : Int).toNat) (((0 : Nat) : Int).toNat + (IntKind.i64.wrap ((p1.length : Int) + 12)).toNat - ((0 : Nat) : Int).toNat)) x8).fKind) == ((gt p1 x8).fKind)) && ((((gt (cutX p0 (((0 : Nat) : Int).toNat) (((0 : Nat) : Int).toNat + (IntKind.i64.wrap ((p1.length : Int) + 12)).toNat - ((0 : Nat) : Int).toNat)) x8).fWrite) == ((gt p1 x8).fWrite)) && true)))))) || ((decide ((p1.length : Int) ≤ x8)) && (!((((gt (cutX p0 (((0 : Nat) : Int).toNat) (((0 : Nat) : Int).toNat + (IntKind.i64.wrap ((p1.length : Int) + 12)).toNat - ((0 : Nat) : Int).toNat)) x8).fOff) == ((fn47 1 (IntKind.i64.wrap (x8 - (p1.length : Int)))).fOff)) && ((((gt (cutX p0 (((0 : Nat) : Int).toNat) (((0 : Nat) : Int).toNat + (IntKind.i64.wrap ((p1.length : Int) + 12)).toNat - ((0 : Nat) : Int).toNat)) x8).fSize) == ((fn47 1 (IntKind.i64.wrap (x8 - (p1.length : Int)))).fSize)) && ((((gt (cutX p0 (((0 : Nat) : Int).toNat) (((0 : Nat) : Int).toNat + (IntKind.i64.wrap ((p1.length : Int) + 12)).toNat - ((0 : Nat) : Int).toNat)) x8).fKind) == ((fn47 1 (IntKind.i64.wrap (x8 - (p1.length : Int)))).fKind)) && ((((gt (cutX p0 (((0 : Nat) : Int).toNat) (((0 : Nat) : Int).toNat + (IntKind.i64.wrap ((p1.length : Int) + 12)).toNat - ((0 : Nat) : Int).toNat)) x8).fWrite) == ((fn47 1 (IntKind.i64.wrap (x8 - (p1.length : Int)))).fWrite)) && true)))))) then (some (.inr false)) else ((fn35_l1 p0 p1 n16) (IntKind.i64.wrap (x8 + 1)))) else none) else none) else none) else (some (.inl ())) := rfl
def fn35_k1 : Option (Bool) :=
 some true
theorem fn35_k1_s : fn35_k1 = some true := rfl
def fn35 (F : Nat) (p0 : List Fld) (p0_k : Nat) (p1 : List Fld) : Option (Bool) :=
 bif ((cutX p0 0 (0 + p0_k)).length : Int) != (p1.length : Int) then (some false) else (bif sliceOk ((0 : Nat) : Int) (IntKind.i64.wrap ((p1.length : Int) + 12)) p0.length then (Option.bind (fn35_l1 p0 p1 F 0) fun o14 => (match o14 with | .inl u => fn35_k1 | .inr u => some u)) else none)
theorem c35 (F : Nat) (p0 : List Fld) (p0_k : Nat) (p1 : List Fld) (r : Bool) (h : fn35 F p0 p0_k p1 = some r) : Con Tryz.prog 35 [.sl 0, .sl 2] [(0, .vw (.ss 1 0 4 p0_k)), (1, .rd Fld.E p0), (2, .rd Fld.E p1)] 3 (.v (.bool r)) [(0, .vw (.ss 1 0 4 p0_k))] 3 := by
 rw [fn35] at h
 refine Con.of_body Tryz.func35 rfl Tryz.ntmps35 rfl fun w F0 ρ => ?_
 refine U_ tbOk 6 [] aN ?_
 refine C_ h (fun h hb1 => ?_) fun h hb1 => ?_
 ·refine U_ tbOk 1 [] aN ?_
  obtain rfl := sj h
  exact T_ tbOk.t Tryz.results35 [0, 1, 2]
 ·obtain ⟨hk2, h⟩ := ck h
  refine U_ tbOk 7 [.sv] (aC rfl (aC hk2 aN)) ?_
  refine G4.imp (Imp.vwS 5 (by rfl)) ?_
  obtain ⟨o14, hl15, h⟩ := bd h
  refine CTS 0 (fun u => ⟨[], [(0, .vw (.ss 1 0 4 p0_k)), (1, .rd Fld.E p0), (2, .rd Fld.E p1)], 3⟩) o14 ?_ (fun u hu => ?_)
  ·have h018 := h
   clear h
   refine G4.imp (I_ [0, 1, 2, 3]) (LP (fun (n : Nat) (s : Int) => fn35_l1 p0 p1 n s) (fun (s : Int) => ⟨[(1, .sl 2), (5, .sl 3), (6, .v (.int .i64 s))], [(0, .vw (.ss 1 0 4 p0_k)), (1, .rd Fld.E p0), (2, .rd Fld.E p1), (3, .vw (.ss 1 (((0 : Nat) : Int).toNat) 4 ((IntKind.i64.wrap ((p1.length : Int) + 12)).toNat - ((0 : Nat) : Int).toNat)))], 4⟩) (fun _ => rfl) (s0 := 0) hl15 ?_)
   clear hl15
   rintro R19 n16 x8 h ih17
   replace h := (fn35_l1_s p0 p1 n16 x8).symm.trans h
   refine U_ tbOk 4 [] aN ?_
   refine C_ h (fun h hb20 => ?_) fun h hb20 => ?_
   ·refine U_ tbOk 0 [] aN ?_
    obtain ⟨hk21, h⟩ := ck h
    obtain ⟨hk22, h⟩ := ck h
    obtain ⟨hk23, h⟩ := ck h
    refine DR tbOk hmix [57] [([], []), ([], []), ([2], []), ([], []), ([], []), ([], []), ([], []), ([1, 3], []), ([1, 3], []), ([], []), ([], []), ([2], []), ([2], []), ([], []), ([], []), ([], []), ([], []), ([], []), ([], []), ([2], []), ([], []), ([], []), ([], []), ([], []), ([1, 3], []), ([1, 3], []), ([], []), ([], []), ([2], []), ([], []), ([], []), ([], []), ([], []), ([], []), ([], [])] [.cl (bif (decide (x8 < (p1.length : Int))) && (!((((gt (cutX p0 (((0 : Nat) : Int).toNat) (((0 : Nat) : Int).toNat + (IntKind.i64.wrap ((p1.length : Int) + 12)).toNat - ((0 : Nat) : Int).toNat)) x8).fOff) == ((gt p1 x8).fOff)) && ((((gt (cutX p0 (((0 : Nat) : Int).toNat) (((0 : Nat) : Int).toNat + (IntKind.i64.wrap ((p1.length : Int) + 12)).toNat - ((0 : Nat) : Int).toNat)) x8).fSize) == ((gt p1 x8).fSize)) && ((((gt (cutX p0 (((0 : Nat) : Int).toNat) (((0 : Nat) : Int).toNat + (IntKind.i64.wrap ((p1.length : Int) + 12)).toNat - ((0 : Nat) : Int).toNat)) x8).fKind) == ((gt p1 x8).fKind)) && ((((gt (cutX p0 (((0 : Nat) : Int).toNat) (((0 : Nat) : Int).toNat + (IntKind.i64.wrap ((p1.length : Int) + 12)).toNat - ((0 : Nat) : Int).toNat)) x8).fWrite) == ((gt p1 x8).fWrite)) && true))))) then false else (bif decide ((p1.length : Int) ≤ x8) then true else false)) [] (fun _ => c47 1 (IntKind.i64.wrap (x8 - (p1.length : Int))) _ rfl)] (aR (aC hk21 (aC hk22 (aC hk23 (aR (aR (aK aN))))))) (by rfl) ?_
    refine U_ tbOk 0 [] aN ?_
    refine C_ h (fun h hb24 => ?_) fun h hb24 => ?_
    ·refine U_ tbOk 1 [] aN ?_
     obtain rfl := sj h
     replace h := h018
     refine U_ tbOk 0 [] aN ?_
     obtain rfl := sj h
     exact T_ tbOk.t Tryz.results35 [0, 1, 2]
    ·refine U_ tbOk 3 [] aN ?_
     exact ih17 (IntKind.i64.wrap (x8 + 1)) h _ _ (I_ [0, 1, 2, 3])
   ·refine U_ tbOk 0 [] aN ?_
    obtain rfl := sj h
    exact CES _ rfl (I_ [0, 1, 2])
  ·subst hu
   replace h := (fn35_k1_s).symm.trans h
   refine U_ tbOk 1 [] aN ?_
   obtain rfl := sj h
   exact T_ tbOk.t Tryz.results35 [0, 1, 2]
def fn36_l1 (p0 : List Need) (p1 : List Need) : Nat → Int → Option ((Unit) ⊕ (Bool))
 | 0, _ => none
 | n16 + 1, x8 => bif decide (x8 < ((cutX p0 (((0 : Nat) : Int).toNat) (((0 : Nat) : Int).toNat + (IntKind.i64.wrap ((p1.length : Int) + 12)).toNat - ((0 : Nat) : Int).toNat)).length : Int)) then (bif bif decide (x8 < (p1.length : Int)) then (inb x8 ((IntKind.i64.wrap ((p1.length : Int) + 12)).toNat - ((0 : Nat) : Int).toNat)) else true then (bif bif decide (x8 < (p1.length : Int)) then (inb x8 p1.length) else true then (bif bif (decide (x8 < (p1.length : Int))) && (!((((gt (cutX p0 (((0 : Nat) : Int).toNat) (((0 : Nat) : Int).toNat + (IntKind.i64.wrap ((p1.length : Int) + 12)).toNat - ((0 : Nat) : Int).toNat)) x8).fHelper) == ((gt p1 x8).fHelper)) && ((((gt (cutX p0 (((0 : Nat) : Int).toNat) (((0 : Nat) : Int).toNat + (IntKind.i64.wrap ((p1.length : Int) + 12)).toNat - ((0 : Nat) : Int).toNat)) x8).fMajor) == ((gt p1 x8).fMajor)) && ((((gt (cutX p0 (((0 : Nat) : Int).toNat) (((0 : Nat) : Int).toNat + (IntKind.i64.wrap ((p1.length : Int) + 12)).toNat - ((0 : Nat) : Int).toNat)) x8).fMinor) == ((gt p1 x8).fMinor)) && true)))) then true else (bif decide ((p1.length : Int) ≤ x8) then (inb x8 ((IntKind.i64.wrap ((p1.length : Int) + 12)).toNat - ((0 : Nat) : Int).toNat)) else true) then (bif ((decide (x8 < (p1.length : Int))) && (!((((gt (cutX p0 (((0 : Nat) : Int).toNat) (((0 : Nat) : Int).toNat + (IntKind.i64.wrap ((p1.length : Int) + 12)).toNat - ((0 : Nat) : Int).toNat)) x8).fHelper) == ((gt p1 x8).fHelper)) && ((((gt (cutX p0 (((0 : Nat) : Int).toNat) (((0 : Nat) : Int).toNat + (IntKind.i64.wrap ((p1.length : Int) + 12)).toNat - ((0 : Nat) : Int).toNat)) x8).fMajor) == ((gt p1 x8).fMajor)) && ((((gt (cutX p0 (((0 : Nat) : Int).toNat) (((0 : Nat) : Int).toNat + (IntKind.i64.wrap ((p1.length : Int) + 12)).toNat - ((0 : Nat) : Int).toNat)) x8).fMinor) == ((gt p1 x8).fMinor)) && true))))) || ((decide ((p1.length : Int) ≤ x8)) && (!((((gt (cutX p0 (((0 : Nat) : Int).toNat) (((0 : Nat) : Int).toNat + (IntKind.i64.wrap ((p1.length : Int) + 12)).toNat - ((0 : Nat) : Int).toNat)) x8).fHelper) == ((fn48 1 (IntKind.i64.wrap (x8 - (p1.length : Int)))).fHelper)) && ((((gt (cutX p0 (((0 : Nat) : Int).toNat) (((0 : Nat) : Int).toNat + (IntKind.i64.wrap ((p1.length : Int) + 12)).toNat - ((0 : Nat) : Int).toNat)) x8).fMajor) == ((fn48 1 (IntKind.i64.wrap (x8 - (p1.length : Int)))).fMajor)) && ((((gt (cutX p0 (((0 : Nat) : Int).toNat) (((0 : Nat) : Int).toNat + (IntKind.i64.wrap ((p1.length : Int) + 12)).toNat - ((0 : Nat) : Int).toNat)) x8).fMinor) == ((fn48 1 (IntKind.i64.wrap (x8 - (p1.length : Int)))).fMinor)) && true))))) then (some (.inr false)) else ((fn36_l1 p0 p1 n16) (IntKind.i64.wrap (x8 + 1)))) else none) else none) else none) else (some (.inl ()))
theorem fn36_l1_s (p0 : List Need) (p1 : List Need) (n16 : Nat) (x8 : Int) : fn36_l1 p0 p1 (n16 + 1) x8 = bif decide (x8 < ((cutX p0 (((0 : Nat) : Int).toNat) (((0 : Nat) : Int).toNat + (IntKind.i64.wrap ((p1.length : Int) + 12)).toNat - ((0 : Nat) : Int).toNat)).length : Int)) then (bif bif decide (x8 < (p1.length : Int)) then (inb x8 ((IntKind.i64.wrap ((p1.length : Int) + 12)).toNat - ((0 : Nat) : Int).toNat)) else true then (bif bif decide (x8 < (p1.length : Int)) then (inb x8 p1.length) else true then (bif bif (decide (x8 < (p1.length : Int))) && (!((((gt (cutX p0 (((0 : Nat) : Int).toNat) (((0 : Nat) : Int).toNat + (IntKind.i64.wrap ((p1.length : Int) + 12)).toNat - ((0 : Nat) : Int).toNat)) x8).fHelper) == ((gt p1 x8).fHelper)) && ((((gt (cutX p0 (((0 : Nat) : Int).toNat) (((0 : Nat) : Int).toNat + (IntKind.i64.wrap ((p1.length : Int) + 12)).toNat - ((0 : Nat) : Int).toNat)) x8).fMajor) == ((gt p1 x8).fMajor)) && ((((gt (cutX p0 (((0 : Nat) : Int).toNat) (((0 : Nat) : Int).toNat + (IntKind.i64.wrap ((p1.length : Int) + 12)).toNat - ((0 : Nat) : Int).toNat)) x8).fMinor) == ((gt p1 x8).fMinor)) && true)))) then true else (bif decide ((p1.length : Int) ≤ x8) then (inb x8 ((IntKind.i64.wrap ((p1.length : Int) + 12)).toNat - ((0 : Nat) : Int).toNat)) else true) then (bif ((decide (x8 < (p1.length : Int))) && (!((((gt (cutX p0 (((0 : Nat) : Int).toNat) (((0 : Nat) : Int).toNat + (IntKind.i64.wrap ((p1.length : Int) + 12)).toNat - ((0 : Nat) : Int).toNat)) x8).fHelper) == ((gt p1 x8).fHelper)) && ((((gt (cutX p0 (((0 : Nat) : Int).toNat) (((0 : Nat) : Int).toNat + (IntKind.i64.wrap ((p1.length : Int) + 12)).toNat - ((0 : Nat) : Int).toNat)) x8).fMajor) == ((gt p1 x8).fMajor)) && ((((gt (cutX p0 (((0 : Nat) : Int).toNat) (((0 : Nat) : Int).toNat + (IntKind.i64.wrap ((p1.length : Int) + 12)).toNat - ((0 : Nat) : Int).toNat)) x8).fMinor) == ((gt p1 x8).fMinor)) && true))))) || ((decide ((p1.length : Int) ≤ x8)) && (!((((gt (cutX p0 (((0 : Nat) : Int).toNat) (((0 : Nat) : Int).toNat + (IntKind.i64.wrap ((p1.length : Int) + 12)).toNat - ((0 : Nat) : Int).toNat)) x8).fHelper) == ((fn48 1 (IntKind.i64.wrap (x8 - (p1.length : Int)))).fHelper)) && ((((gt (cutX p0 (((0 : Nat) : Int).toNat) (((0 : Nat) : Int).toNat + (IntKind.i64.wrap ((p1.length : Int) + 12)).toNat - ((0 : Nat) : Int).toNat)) x8).fMajor) == ((fn48 1 (IntKind.i64.wrap (x8 - (p1.length : Int)))).fMajor)) && ((((gt (cutX p0 (((0 : Nat) : Int).toNat) (((0 : Nat) : Int).toNat + (IntKind.i64.wrap ((p1.length : Int) + 12)).toNat - ((0 : Nat) : Int).toNat)) x8).fMinor) == ((fn48 1 (IntKind.i64.wrap (x8 - (p1.length : Int)))).fMinor)) && true))))) then (some (.inr false)) else ((fn36_l1 p0 p1 n16) (IntKind.i64.wrap (x8 + 1)))) else none) else none) else none) else (some (.inl ())) := rfl
def fn36_k1 : Option (Bool) :=
 some true
theorem fn36_k1_s : fn36_k1 = some true := rfl
def fn36 (F : Nat) (p0 : List Need) (p0_k : Nat) (p1 : List Need) : Option (Bool) :=
 bif ((cutX p0 0 (0 + p0_k)).length : Int) != (p1.length : Int) then (some false) else (bif sliceOk ((0 : Nat) : Int) (IntKind.i64.wrap ((p1.length : Int) + 12)) p0.length then (Option.bind (fn36_l1 p0 p1 F 0) fun o14 => (match o14 with | .inl u => fn36_k1 | .inr u => some u)) else none)
theorem c36 (F : Nat) (p0 : List Need) (p0_k : Nat) (p1 : List Need) (r : Bool) (h : fn36 F p0 p0_k p1 = some r) : Con Tryz.prog 36 [.sl 0, .sl 2] [(0, .vw (.ss 1 0 3 p0_k)), (1, .rd Need.E p0), (2, .rd Need.E p1)] 3 (.v (.bool r)) [(0, .vw (.ss 1 0 3 p0_k))] 3 := by
 rw [fn36] at h
 refine Con.of_body Tryz.func36 rfl Tryz.ntmps36 rfl fun w F0 ρ => ?_
 refine U_ tbOk 6 [] aN ?_
 refine C_ h (fun h hb1 => ?_) fun h hb1 => ?_
 ·refine U_ tbOk 1 [] aN ?_
  obtain rfl := sj h
  exact T_ tbOk.t Tryz.results36 [0, 1, 2]
 ·obtain ⟨hk2, h⟩ := ck h
  refine U_ tbOk 7 [.sv] (aC rfl (aC hk2 aN)) ?_
  refine G4.imp (Imp.vwS 5 (by rfl)) ?_
  obtain ⟨o14, hl15, h⟩ := bd h
  refine CTS 0 (fun u => ⟨[], [(0, .vw (.ss 1 0 3 p0_k)), (1, .rd Need.E p0), (2, .rd Need.E p1)], 3⟩) o14 ?_ (fun u hu => ?_)
  ·have h018 := h
   clear h
   refine G4.imp (I_ [0, 1, 2, 3]) (LP (fun (n : Nat) (s : Int) => fn36_l1 p0 p1 n s) (fun (s : Int) => ⟨[(1, .sl 2), (5, .sl 3), (6, .v (.int .i64 s))], [(0, .vw (.ss 1 0 3 p0_k)), (1, .rd Need.E p0), (2, .rd Need.E p1), (3, .vw (.ss 1 (((0 : Nat) : Int).toNat) 3 ((IntKind.i64.wrap ((p1.length : Int) + 12)).toNat - ((0 : Nat) : Int).toNat)))], 4⟩) (fun _ => rfl) (s0 := 0) hl15 ?_)
   clear hl15
   rintro R19 n16 x8 h ih17
   replace h := (fn36_l1_s p0 p1 n16 x8).symm.trans h
   refine U_ tbOk 4 [] aN ?_
   refine C_ h (fun h hb20 => ?_) fun h hb20 => ?_
   ·refine U_ tbOk 0 [] aN ?_
    obtain ⟨hk21, h⟩ := ck h
    obtain ⟨hk22, h⟩ := ck h
    obtain ⟨hk23, h⟩ := ck h
    refine DR tbOk hmix [57] [([], []), ([], []), ([2], []), ([], []), ([], []), ([], []), ([], []), ([1, 3], []), ([1, 3], []), ([], []), ([], []), ([2], []), ([2], []), ([], []), ([], []), ([], []), ([], []), ([], []), ([], []), ([2], []), ([], []), ([], []), ([], []), ([], []), ([1, 3], []), ([1, 3], []), ([], []), ([], []), ([2], []), ([], []), ([], []), ([], []), ([], []), ([], []), ([], [])] [.cl (bif (decide (x8 < (p1.length : Int))) && (!((((gt (cutX p0 (((0 : Nat) : Int).toNat) (((0 : Nat) : Int).toNat + (IntKind.i64.wrap ((p1.length : Int) + 12)).toNat - ((0 : Nat) : Int).toNat)) x8).fHelper) == ((gt p1 x8).fHelper)) && ((((gt (cutX p0 (((0 : Nat) : Int).toNat) (((0 : Nat) : Int).toNat + (IntKind.i64.wrap ((p1.length : Int) + 12)).toNat - ((0 : Nat) : Int).toNat)) x8).fMajor) == ((gt p1 x8).fMajor)) && ((((gt (cutX p0 (((0 : Nat) : Int).toNat) (((0 : Nat) : Int).toNat + (IntKind.i64.wrap ((p1.length : Int) + 12)).toNat - ((0 : Nat) : Int).toNat)) x8).fMinor) == ((gt p1 x8).fMinor)) && true)))) then false else (bif decide ((p1.length : Int) ≤ x8) then true else false)) [] (fun _ => c48 1 (IntKind.i64.wrap (x8 - (p1.length : Int))) _ rfl)] (aR (aC hk21 (aC hk22 (aC hk23 (aR (aR (aK aN))))))) (by rfl) ?_
    refine U_ tbOk 0 [] aN ?_
    refine C_ h (fun h hb24 => ?_) fun h hb24 => ?_
    ·refine U_ tbOk 1 [] aN ?_
     obtain rfl := sj h
     replace h := h018
     refine U_ tbOk 0 [] aN ?_
     obtain rfl := sj h
     exact T_ tbOk.t Tryz.results36 [0, 1, 2]
    ·refine U_ tbOk 3 [] aN ?_
     exact ih17 (IntKind.i64.wrap (x8 + 1)) h _ _ (I_ [0, 1, 2, 3])
   ·refine U_ tbOk 0 [] aN ?_
    obtain rfl := sj h
    exact CES _ rfl (I_ [0, 1, 2])
  ·subst hu
   replace h := (fn36_k1_s).symm.trans h
   refine U_ tbOk 1 [] aN ?_
   obtain rfl := sj h
   exact T_ tbOk.t Tryz.results36 [0, 1, 2]
def fn14 (F : Nat) (p0_0 : ByteArray) (p0_1 : Int) (p0_2 : List Fld) (p0_2_k : Nat) (p0_3 : List Need) (p0_3_k : Nat) (p0_4 : Int) (p0_5 : Int) (p1 : PType) : Option (Bool) :=
 Option.bind (fn34 F (⟨p0_0, p0_1, cutX p0_2 0 (0 + p0_2_k), cutX p0_3 0 (0 + p0_3_k), p0_4, p0_5⟩ : PType) p1) fun v1 => (Option.bind (bif bif v1 then true else false then fn35 F p0_2 p0_2_k p1.fFields else some false) fun v3 => (Option.bind (bif bif v1 && v3 then true else false then fn36 F p0_3 p0_3_k p1.fNeeds else some false) fun v5 => (some ((v1 && v3) && v5))))
theorem c14 (F : Nat) (p0_0 : ByteArray) (p0_1 : Int) (p0_2 : List Fld) (p0_2_k : Nat) (p0_3 : List Need) (p0_3_k : Nat) (p0_4 : Int) (p0_5 : Int) (p1 : PType) (r : Bool) (h : fn14 F p0_0 p0_1 p0_2 p0_2_k p0_3 p0_3_k p0_4 p0_5 p1 = some r) : Con Tryz.prog 14 [.ag [.v (.string p0_0), .v (.int .i64 p0_1), .sl 0, .sl 2, .v (.int .i64 p0_4), .v (.int .i64 p0_5)], .ag [.v (.string p1.fName), .v (.int .i64 p1.fCtx), .sl 4, .sl 5, .v (.int .i64 p1.fLo), .v (.int .i64 p1.fHi)]] [(0, .vw (.ss 1 0 4 p0_2_k)), (1, .rd Fld.E p0_2), (2, .vw (.ss 3 0 3 p0_3_k)), (3, .rd Need.E p0_3), (4, .rd Fld.E p1.fFields), (5, .rd Need.E p1.fNeeds)] 6 (.v (.bool r)) [(0, .vw (.ss 1 0 4 p0_2_k)), (2, .vw (.ss 3 0 3 p0_3_k))] 6 := by
 rw [fn14] at h
 refine Con.of_body Tryz.func14 rfl Tryz.ntmps14 rfl fun w F0 ρ => ?_
 obtain ⟨v1, hv2, h⟩ := bd h
 obtain ⟨v3, hv4, h⟩ := bd h
 obtain ⟨v5, hv6, h⟩ := bd h
 refine U_ tbOk 21 [.cl true [0, 2, 4, 5] (fun _ => c34 F (⟨p0_0, p0_1, cutX p0_2 0 (0 + p0_2_k), cutX p0_3 0 (0 + p0_3_k), p0_4, p0_5⟩ : PType) p1 _ hv2), .cl (bif v1 then true else false) [0, 1, 4] (fun hg => c35 F p0_2 p0_2_k p1.fFields _ (gcl hg hv4)), .cl (bif v1 && v3 then true else false) [2, 3, 5] (fun hg => c36 F p0_3 p0_3_k p1.fNeeds _ (gcl hg hv6))] (aK (aR (aR (aK (aR (aR (aK aN))))))) ?_
 obtain rfl := sj h
 exact T_ tbOk.t Tryz.results14 [0, 1, 2, 3, 4, 5]
def fn3 (F : Nat) (p0 : List Instr) (p1 : PType) : Option (Bool) :=
 bif decide ((80 : Int) < (p0.length : Int)) then (Option.bind (fn8 F) fun v2 => (some v2)) else (Option.bind (fn7 F p1 200) fun v4 => (bif decide ((200 : Int) < v4) then (Option.bind (fn8 F) fun v7 => (some v7)) else (Option.bind (fn9 F p0) fun v9 => (Option.bind (fn10 F p1) fun v11 => (Option.bind (fn11 F (cutX v9.1 0 (0 + v9.2)) (⟨v11.1, v11.2.1, cutX v11.2.2.1 0 (0 + v11.2.2.2.1), cutX v11.2.2.2.2.1 0 (0 + v11.2.2.2.2.2.1), v11.2.2.2.2.2.2.1, v11.2.2.2.2.2.2.2⟩ : PType)) fun v13 => (Option.bind (fn12 F p0 p1) fun v15 => (Option.bind (bif bif v13 == v15 then true else false then fn13 F v9.1 v9.2 p0 else some false) fun v17 => (Option.bind (bif bif (v13 == v15) && v17 then true else false then fn14 F v11.1 v11.2.1 v11.2.2.1 v11.2.2.2.1 v11.2.2.2.2.1 v11.2.2.2.2.2.1 v11.2.2.2.2.2.2.1 v11.2.2.2.2.2.2.2 p1 else some false) fun v19 => (Option.bind (bif bif ((v13 == v15) && v17) && v19 then true else false then fn8 F else some false) fun v21 => (some ((((v13 == v15) && v17) && v19) && v21)))))))))))
theorem c3 (F : Nat) (p0 : List Instr) (p1 : PType) (r : Bool) (h : fn3 F p0 p1 = some r) : Con Tryz.prog 3 [.sl 0, .ag [.v (.string p1.fName), .v (.int .i64 p1.fCtx), .sl 1, .sl 2, .v (.int .i64 p1.fLo), .v (.int .i64 p1.fHi)]] [(0, .rd Instr.E p0), (1, .rd Fld.E p1.fFields), (2, .rd Need.E p1.fNeeds)] 3 (.v (.bool r)) [] 3 := by
 rw [fn3] at h
 refine Con.of_body Tryz.func3 rfl Tryz.ntmps3 rfl fun w F0 ρ => ?_
 refine CDS h (fun h hb1 => ?_) (fun h hb1 => ?_)
 ·refine U_ (tbOk.lit [(9, 10, true)]) 11 [] (aC hb1 aN) ?_
  refine U_ tbOk 0 [] aN ?_
  refine CDT rfl (by rfl) ?_
  obtain ⟨v2, hv3, h⟩ := bd h
  refine U_ tbOk 2 [.cl true [] (fun _ => c8 F _ hv3)] (aK aN) ?_
  obtain rfl := sj h
  exact T_ tbOk.t Tryz.results3 [0, 1, 2]
 ·obtain ⟨v4, hv5, h⟩ := bd h
  refine U_ (tbOk.lit [(9, 10, false)]) 11 [.s1, .cl true [5, 4, 1, 2] (fun _ => c7 F p1 200 _ hv5)] (aC hb1 (aK aN)) ?_
  refine U_ tbOk 0 [] aN ?_
  refine C_ h (fun h hb6 => ?_) fun h hb6 => ?_
  ·obtain ⟨v7, hv8, h⟩ := bd h
   refine U_ tbOk 2 [.cl true [] (fun _ => c8 F _ hv8)] (aK aN) ?_
   obtain rfl := sj h
   exact T_ tbOk.t Tryz.results3 [0, 1, 2]
  ·refine U_ tbOk 0 [] aN ?_
   obtain ⟨v9, hv10, h⟩ := bd h
   obtain ⟨v11, hv12, h⟩ := bd h
   refine DR tbOk hmix [5, 6] [([], []), ([0], []), ([3], []), ([1, 2], []), ([], []), ([], []), ([12], [12])] [.cl true [0] (fun _ => c9 F p0 _ hv10), .cl true [1, 2] (fun _ => c10 F p1 _ hv12)] (aR (aK (aR (aR (aK (aR aN)))))) (by rfl) ?_
   refine U_ tbOk 0 [] aN ?_
   obtain ⟨v13, hv14, h⟩ := bd h
   obtain ⟨v15, hv16, h⟩ := bd h
   obtain ⟨v17, hv18, h⟩ := bd h
   obtain ⟨v19, hv20, h⟩ := bd h
   obtain ⟨v21, hv22, h⟩ := bd h
   refine DR tbOk hmix [4] [([], []), ([12], []), ([6, 7, 8, 9, 10, 11], []), ([], []), ([3], []), ([0, 1, 2], []), ([], []), ([], []), ([], []), ([], []), ([0, 6, 7], []), ([], []), ([], []), ([12], []), ([3], []), ([1, 2, 8, 9, 10, 11], []), ([], []), ([], []), ([], []), ([], []), ([], [])] [.cl true [6, 8, 10] (fun _ => c11 F (cutX v9.1 0 (0 + v9.2)) (⟨v11.1, v11.2.1, cutX v11.2.2.1 0 (0 + v11.2.2.2.1), cutX v11.2.2.2.2.1 0 (0 + v11.2.2.2.2.2.1), v11.2.2.2.2.2.2.1, v11.2.2.2.2.2.2.2⟩ : PType) _ hv14), .cl true [0, 1, 2] (fun _ => c12 F p0 p1 _ hv16), .cl (bif v13 == v15 then true else false) [6, 7, 0] (fun hg => c13 F v9.1 v9.2 p0 _ (gcl hg hv18)), .cl (bif (v13 == v15) && v17 then true else false) [8, 9, 10, 11, 1, 2] (fun hg => c14 F v11.1 v11.2.1 v11.2.2.1 v11.2.2.2.1 v11.2.2.2.2.1 v11.2.2.2.2.2.1 v11.2.2.2.2.2.2.1 v11.2.2.2.2.2.2.2 p1 _ (gcl hg hv20)), .cl (bif ((v13 == v15) && v17) && v19 then true else false) [] (fun hg => c8 F _ (gcl hg hv22))] (aR (aR (aK (aR (aR (aK (aR (aR (aK (aR (aR (aK (aR (aR (aK aN))))))))))))))) (by rfl) ?_
   refine U_ tbOk 0 [] aN ?_
   obtain rfl := sj h
   exact T_ tbOk.t Tryz.results3 [0, 1, 2]
end Go.Proofs.YthpjmknpkdoadaaGreat
namespace Go.Proofs.YthpjmknpkdoadaaGreat
open Go Go.HW
set_option maxRecDepth 20000
set_option linter.unusedVariables false
theorem w64 {n : Int} (h : -9223372036854775808 ≤ n ∧ n ≤ 9223372036854775807) : IntKind.i64.wrap n = n := by rw [IntKind.wrap_i64]; omega
def runL {σ α : Type} (step : σ → α → Option σ) (go : σ → Bool) : List α → σ → Option σ
 | [], s => some s
 | x :: xs, s => (step s x).bind fun u => bif go u then runL step go xs u else some u
def firstsL : List Instr → Int → List (Int × Slot)
 | [], _ => []
 | i :: l, k => (k, fn89 i) :: (bif i.fOp == 24 then (match l with | [] => [] | _ :: l' => firstsL l' (k + 2)) else firstsL l (k + 1))
theorem firstsL_cons (i : Instr) (l : List Instr) (k : Int) : firstsL (i :: l) k = (k, fn89 i) :: (bif i.fOp == 24 then (match l with | [] => [] | _ :: l' => firstsL l' (k + 2)) else firstsL l (k + 1)) := by
 cases l <;> rfl
theorem gt_drop {q : List Instr} {x : Int} (h0 : 0 ≤ x) (h : x < q.length) : q.drop x.toNat = gt q x :: q.drop (x.toNat + 1) := by
 have hlt : x.toNat < q.length := by omega
 rw [List.drop_eq_getElem_cons hlt]
 congr 1
 simp [gt, hlt]
theorem fn89_instr (i : Instr) : (fn89 i).fInstr = i := rfl
theorem fn88_l1_run {σ : Type} (step : σ → (Int × Slot) → Option σ) (go : σ → Bool) (q : List Instr) (hq : q.length ≤ 4611686018427387904) : ∀ (n : Nat) (s : σ) (x : Int), 0 ≤ x → x ≤ q.length + 1 → (q.length : Int) + 1 - x < n →
  ((fn88_l1 step go q n s x).bind fun o => match o with | .inl u => some u | .inr u => some u) = runL step go (firstsL (q.drop x.toNat) x) s
 | 0, s, x, h0, h1, h2 => by omega
 | n + 1, s, x, h0, h1, h2 => by
  rw [fn88_l1_s]
  by_cases hx : x < (q.length : Int)
  ·have hi : inb x q.length = true := inb_iff.2 ⟨h0, hx⟩
   simp only [hx, decide_true, cond_true, hi, bindP]
   rw [gt_drop h0 hx]
   rw [firstsL_cons]
   simp only [runL]
   cases hs : step s (x, fn89 (gt q x)) with
   | none => rfl
   | some u =>
    simp only [Option.bind_some]
    cases hg : go u with
    | false => simp
    | true =>
     simp only [Bool.not_true, cond_false, cond_true]
     have e1 : IntKind.i64.wrap (x + 1) = x + 1 := w64 (by omega)
     have e2 : IntKind.i64.wrap (x + 1 + 1) = x + 1 + 1 := w64 (by omega)
     rw [e1, e2, fn89_instr]
     cases hw : ((gt q x).fOp == 24) with
     | true =>
      simp only [cond_true]
      by_cases hl : x + 1 < (q.length : Int)
      ·have hd := gt_drop (q := q) (x := x + 1) (by omega) hl
       rw [show (x + 1).toNat = x.toNat + 1 from by omega] at hd
       rw [hd]
       simp only []
       have ih := fn88_l1_run step go q hq n u (x + 1 + 1) (by omega) (by omega) (by omega)
       rw [show (x + 1 + 1).toNat = x.toNat + 1 + 1 from by omega] at ih
       rw [ih, show x + 1 + 1 = x + 2 from by omega]
      ·have hd : q.drop (x.toNat + 1) = [] := List.drop_eq_nil_of_le (by omega)
       rw [hd]
       simp only [runL]
       have ih := fn88_l1_run step go q hq n u (x + 1 + 1) (by omega) (by omega) (by omega)
       rw [ih, List.drop_eq_nil_of_le (by omega)]
       simp [firstsL, runL]
     | false =>
      simp only [cond_false]
      have ih := fn88_l1_run step go q hq n u (x + 1) (by omega) (by omega) (by omega)
      rw [ih, show (x + 1).toNat = x.toNat + 1 from by omega]
  ·simp only [hx, decide_false, cond_false, Option.bind_some]
   rw [List.drop_eq_nil_of_le (by omega)]
   simp [firstsL, runL]
theorem fn88_run {σ : Type} {F : Nat} (step : σ → (Int × Slot) → Option σ) (go : σ → Bool) (q : List Instr) (s : σ) (hq : q.length ≤ 4611686018427387904) (hF : q.length + 1 < F) :
  fn88 F step go q s = runL step go (firstsL q 0) s := by
 have := fn88_l1_run step go q hq F s 0 (by omega) (by omega) (by omega)
 simp only [Int.toNat_zero, List.drop_zero] at this
 rw [← this]
 rfl
theorem runL_all {σ α : Type} {stepB : σ → α → Option (σ × Nat)} {f : σ → α → σ} : ∀ (l : List α) (s : σ), (∀ s x, x ∈ l → stepB s x = some (f s x, 0)) → runL (stepR stepB) goR l (s, 0) = some (l.foldl f s, 0)
 | [], s, h => rfl
 | x :: l, s, h => by
  have h1 : stepR stepB (s, 0) x = some (f s x, 0) := by simp [stepR, h s x (by simp)]
  simp only [runL, h1, Option.bind_some, goR]
  rw [runL_all l (f s x) (fun s y hy => h s y (by simp [hy]))]
  rfl
theorem runL_inv {σ α : Type} {stepB : σ → α → Option (σ × Nat)} {f : σ → α → σ} {P : σ → Prop} : ∀ (l : List α) (s : σ), P s → (∀ s x, x ∈ l → P s → stepB s x = some (f s x, 0) ∧ P (f s x)) → runL (stepR stepB) goR l (s, 0) = some (l.foldl f s, 0) ∧ P (l.foldl f s)
 | [], s, h, _ => ⟨rfl, h⟩
 | x :: l, s, hs, h => by
  obtain ⟨h1, h2⟩ := h s x (by simp) hs
  have h3 : stepR stepB (s, 0) x = some (f s x, 0) := by simp [stepR, h1]
  simp only [runL, h3, Option.bind_some, goR]
  exact runL_inv l (f s x) h2 (fun s y hy => h s y (by simp [hy]))
end Go.Proofs.YthpjmknpkdoadaaGreat
namespace Go.Proofs.YthpjmknpkdoadaaGreat
open Go Go.HW
set_option linter.unusedVariables false
theorem wrapU {k : IntKind} (hs : k.signed = false) (n : Int) : k.wrap n = n % (2 ^ k.bits : Int) := by
 unfold IntKind.wrap; simp [hs]
theorem wrapU_nat {k : IntKind} (hs : k.signed = false) {a : Nat} (h : a < 2 ^ k.bits) : k.wrap (a : Int) = (a : Int) := by
 rw [wrapU hs]
 have : ((2 ^ k.bits : Nat) : Int) = (2 ^ k.bits : Int) := by simp
 rw [← this]; exact Int.emod_eq_of_lt (by omega) (by exact_mod_cast h)
theorem ofInt_nat (W a : Nat) : BitVec.ofInt W (a : Int) = BitVec.ofNat W a := by
 apply BitVec.eq_of_toNat_eq
 simp [BitVec.toNat_ofInt, BitVec.toNat_ofNat]
theorem ior_nat {k : IntKind} (hs : k.signed = false) {a b : Nat} (ha : a < 2 ^ k.bits) (hb : b < 2 ^ k.bits) : ior k (a : Int) (b : Int) = ((a ||| b : Nat) : Int) := by
 unfold ior; rw [ofInt_nat, ofInt_nat, BitVec.toNat_or, BitVec.toNat_ofNat, BitVec.toNat_ofNat, Nat.mod_eq_of_lt ha, Nat.mod_eq_of_lt hb]
 exact wrapU_nat hs (Nat.or_lt_two_pow ha hb)
theorem iand_nat {k : IntKind} (hs : k.signed = false) {a b : Nat} (ha : a < 2 ^ k.bits) (hb : b < 2 ^ k.bits) : iand k (a : Int) (b : Int) = ((a &&& b : Nat) : Int) := by
 unfold iand; rw [ofInt_nat, ofInt_nat, BitVec.toNat_and, BitVec.toNat_ofNat, BitVec.toNat_ofNat, Nat.mod_eq_of_lt ha, Nat.mod_eq_of_lt hb]
 exact wrapU_nat hs (Nat.and_lt_two_pow a hb)
theorem iandn_nat {k : IntKind} (hs : k.signed = false) {a b : Nat} (ha : a < 2 ^ k.bits) (hb : b < 2 ^ k.bits) : ∃ c : Nat, iandn k (a : Int) (b : Int) = (c : Int) ∧ c < 2 ^ k.bits ∧ ∀ i, i < k.bits → c.testBit i = (a.testBit i && !b.testBit i) := by
 refine ⟨(BitVec.ofInt k.bits (a : Int) &&& ~~~(BitVec.ofInt k.bits (b : Int))).toNat, ?_, BitVec.isLt _, fun i hi => ?_⟩
 ·unfold iandn; exact wrapU_nat hs (BitVec.isLt _)
 ·rw [ofInt_nat, ofInt_nat, BitVec.testBit_toNat, BitVec.getLsbD_and, BitVec.getLsbD_not, BitVec.getLsbD_ofNat, BitVec.getLsbD_ofNat]
  simp [hi]
theorem ishl_one {k : IntKind} (hs : k.signed = false) {j : Nat} (hj : j < k.bits) : ishl k 1 (j : Int) = ((2 ^ j : Nat) : Int) := by
 unfold ishl
 rw [Int.toNat_natCast, Nat.min_eq_left (by omega), Int.one_mul]
 have := wrapU_nat hs (a := 2 ^ j) (Nat.pow_lt_pow_right (by decide) hj)
 rw [← this]; simp
theorem ishr_nat {k : IntKind} {a j : Nat} (hj : j < k.bits) : ishr k (a : Int) (j : Int) = ((a >>> j : Nat) : Int) := by
 unfold ishr
 rw [Int.toNat_natCast, Nat.min_eq_left (by omega), Nat.shiftRight_eq_div_pow, Int.fdiv_eq_ediv_of_nonneg _ (Int.pow_nonneg (by decide))]
 simp
theorem has_bit {k : IntKind} (hs : k.signed = false) (h1 : 1 ≤ k.bits) {a j : Nat} (ha : a < 2 ^ k.bits) (hj : j < k.bits) : (iand k (ishr k (a : Int) (j : Int)) 1 == 0) = !a.testBit j := by
 rw [ishr_nat hj, show (1 : Int) = ((1 : Nat) : Int) from rfl, iand_nat hs (Nat.lt_of_le_of_lt (Nat.shiftRight_le a j) ha) (by exact Nat.one_lt_two_pow (by omega)), Nat.testBit_eq_decide_div_mod_eq, Nat.and_one_is_mod, Nat.shiftRight_eq_div_pow]
 cases h : a / 2 ^ j % 2 == 1 with
 | true => have := eq_of_beq h; simp [this]
 | false =>
  have h2 : a / 2 ^ j % 2 = 0 := by
   have : a / 2 ^ j % 2 ≠ 1 := fun e => by simp [e] at h
   omega
  simp [h2]
def bW (W : Nat) (l : List Int) (i : Nat) : Bool := (gt l ((i / W : Nat) : Int)).toNat.testBit (i % W)
def okW (W : Nat) (l : List Int) : Prop := ∀ x ∈ l, 0 ≤ x ∧ x < (2 ^ W : Int)
theorem okW.at {W : Nat} {l : List Int} (h : okW W l) {i : Nat} (hi : i < l.length) : ∃ a : Nat, gt l (i : Int) = (a : Int) ∧ a < 2 ^ W := by
 have hm : gt l (i : Int) ∈ l := by
  have : gt l (i : Int) = l[i] := by simp [gt, hi]
  rw [this]; exact List.getElem_mem _
 obtain ⟨h0, h1⟩ := h _ hm
 refine ⟨(gt l (i : Int)).toNat, by omega, ?_⟩
 have : ((2 ^ W : Nat) : Int) = (2 ^ W : Int) := by simp
 omega
theorem gt_setN {l : List Int} {i j : Nat} {u : Int} (hi : i < l.length) : gt (l.set i u) (j : Int) = if j = i then u else gt l (j : Int) := by
 unfold gt
 simp only [Int.toNat_natCast, List.getD_eq_getElem?_getD, List.getElem?_set]
 by_cases h : i = j
 ·subst h; simp [hi]
 ·simp [h, Ne.symm h]
theorem okW.set {W : Nat} {l : List Int} (h : okW W l) {i : Nat} {a : Nat} (ha : a < 2 ^ W) : okW W (l.set i (a : Int)) := by
 intro x hx
 rcases List.mem_or_eq_of_mem_set hx with h1 | rfl
 ·exact h x h1
 ·have : ((2 ^ W : Nat) : Int) = (2 ^ W : Int) := by simp
  constructor
  ·omega
  ·rw [← this]; exact_mod_cast ha
theorem bW_ext {W : Nat} (hW : 0 < W) {l r : List Int} (hl : okW W l) (hr : okW W r) (hn : l.length = r.length) (h : ∀ i, i < l.length * W → bW W l i = bW W r i) : l = r := by
 apply List.ext_getElem hn
 intro i h1 h2
 obtain ⟨a, a1, a2⟩ := hl.at h1
 obtain ⟨b, b1, b2⟩ := hr.at h2
 have e1 : gt l (i : Int) = l[i] := by simp [gt, h1]
 have e2 : gt r (i : Int) = r[i] := by simp [gt, h2]
 rw [← e1, ← e2, a1, b1]
 congr 1
 apply Nat.eq_of_testBit_eq
 intro j
 by_cases hj : j < W
 ·have hdiv : (i * W + j) / W = i := by rw [Nat.mul_comm, Nat.mul_add_div hW, Nat.div_eq_of_lt hj, Nat.add_zero]
  have hmod : (i * W + j) % W = j := by rw [Nat.mul_comm, Nat.mul_add_mod, Nat.mod_eq_of_lt hj]
  have := h (i * W + j) (by
   have : (i + 1) * W ≤ l.length * W := Nat.mul_le_mul_right W h1
   rw [Nat.add_mul] at this; omega)
  unfold bW at this
  rw [hdiv, hmod, a1, b1] at this
  simpa using this
 ·rw [Nat.testBit_lt_two_pow (Nat.lt_of_lt_of_le a2 (Nat.pow_le_pow_right (by decide) (by omega))), Nat.testBit_lt_two_pow (Nat.lt_of_lt_of_le b2 (Nat.pow_le_pow_right (by decide) (by omega)))]
theorem div_mod_ne {W n i : Nat} (h : n ≠ i) (hd : i / W = n / W) : i % W ≠ n % W := fun hm => h (by
 have h1 := Nat.div_add_mod n W
 have h2 := Nat.div_add_mod i W
 rw [hd, hm] at h2; omega)
theorem bW_put {k : IntKind} (hs : k.signed = false) (h0 : 0 < k.bits) {l : List Int} (hl : okW k.bits l) {n : Nat} (hn : n / k.bits < l.length) :
  okW k.bits (l.set (n / k.bits) (ior k (gt l ((n / k.bits : Nat) : Int)) (ishl k 1 ((n % k.bits : Nat) : Int)))) ∧ ∀ i, bW k.bits (l.set (n / k.bits) (ior k (gt l ((n / k.bits : Nat) : Int)) (ishl k 1 ((n % k.bits : Nat) : Int)))) i = (bW k.bits l i || decide (i = n)) := by
 obtain ⟨a, a1, a2⟩ := hl.at hn
 have hm : n % k.bits < k.bits := Nat.mod_lt _ h0
 have hp : 2 ^ (n % k.bits) < 2 ^ k.bits := Nat.pow_lt_pow_right (by decide) hm
 have e : ior k (gt l ((n / k.bits : Nat) : Int)) (ishl k 1 ((n % k.bits : Nat) : Int)) = ((a ||| 2 ^ (n % k.bits) : Nat) : Int) := by
  rw [a1, ishl_one hs hm, ior_nat hs a2 hp]
 rw [e]
 refine ⟨hl.set (Nat.or_lt_two_pow a2 hp), fun i => ?_⟩
 unfold bW
 rw [gt_setN hn]
 by_cases hd : i / k.bits = n / k.bits
 ·rw [if_pos hd, Int.toNat_natCast, Nat.testBit_or, Nat.testBit_two_pow, hd, a1, Int.toNat_natCast]
  congr 1
  by_cases h : n = i
  ·subst h; simp
  ·have := div_mod_ne h hd
   simp [Ne.symm h, Ne.symm this]
 ·have : i ≠ n := fun h => hd (by rw [h])
  rw [if_neg hd]; simp [this]
theorem bW_drop {k : IntKind} (hs : k.signed = false) (h0 : 0 < k.bits) {l : List Int} (hl : okW k.bits l) {n : Nat} (hn : n / k.bits < l.length) :
  okW k.bits (l.set (n / k.bits) (iandn k (gt l ((n / k.bits : Nat) : Int)) (ishl k 1 ((n % k.bits : Nat) : Int)))) ∧ ∀ i, bW k.bits (l.set (n / k.bits) (iandn k (gt l ((n / k.bits : Nat) : Int)) (ishl k 1 ((n % k.bits : Nat) : Int)))) i = (bW k.bits l i && !decide (i = n)) := by
 obtain ⟨a, a1, a2⟩ := hl.at hn
 have hm : n % k.bits < k.bits := Nat.mod_lt _ h0
 have hp : 2 ^ (n % k.bits) < 2 ^ k.bits := Nat.pow_lt_pow_right (by decide) hm
 obtain ⟨c, c1, c2, c3⟩ := iandn_nat hs a2 hp
 have e : iandn k (gt l ((n / k.bits : Nat) : Int)) (ishl k 1 ((n % k.bits : Nat) : Int)) = (c : Int) := by
  rw [a1, ishl_one hs hm, c1]
 rw [e]
 refine ⟨hl.set c2, fun i => ?_⟩
 unfold bW
 rw [gt_setN hn]
 by_cases hd : i / k.bits = n / k.bits
 ·rw [if_pos hd, Int.toNat_natCast, c3 _ (Nat.mod_lt _ h0), Nat.testBit_two_pow, hd, a1, Int.toNat_natCast]
  congr 2
  by_cases h : n = i
  ·subst h; simp
  ·have := div_mod_ne h hd
   simp [Ne.symm h, Ne.symm this]
 ·have : i ≠ n := fun h => hd (by rw [h])
  rw [if_neg hd]; simp [this]
theorem bW_has {k : IntKind} (hs : k.signed = false) (h0 : 0 < k.bits) {l : List Int} (hl : okW k.bits l) {n : Nat} (hn : n / k.bits < l.length) :
  (iand k (ishr k (gt l ((n / k.bits : Nat) : Int)) ((n % k.bits : Nat) : Int)) 1 == 0) = !bW k.bits l n := by
 obtain ⟨a, a1, a2⟩ := hl.at hn
 rw [a1, has_bit hs h0 a2 (Nat.mod_lt _ h0), bW, a1, Int.toNat_natCast]
end Go.Proofs.YthpjmknpkdoadaaGreat
namespace Go.Proofs.YthpjmknpkdoadaaGreat
open Go Go.HW
set_option maxRecDepth 8000
structure OkI (x : Instr) : Prop where
 op : 0 ≤ x.fOp ∧ x.fOp < 256
 off : -32768 ≤ x.fOff ∧ x.fOff < 32768
 imm : -2147483648 ≤ x.fImm ∧ x.fImm < 2147483648
theorem all256 (p : Int → Bool) (h : (List.range 256).all (fun n => p (n : Int)) = true) {x : Int} (h0 : 0 ≤ x ∧ x < 256) : p x = true := by
 have := List.all_eq_true.1 h x.toNat (by simp; omega)
 rw [show ((x.toNat : Nat) : Int) = x from by omega] at this
 exact this
abbrev atOp (o : Int) : Instr := ⟨o, 0, 0, 0, 0⟩
def refEnds (x : Instr) : Bool := ((fn71 x == 5) && ((fn72 x == 144) || (fn72 x == 0))) || ((fn71 x == 6) && (fn72 x == 0))
theorem kn_eq {x : Instr} (h : OkI x) : fn40 (fn89 x) = fn117 x := by
 have := all256 (fun o => fn40 (fn89 (atOp o)) == fn117 (atOp o)) (by kernel_rfl) h.op
 exact eq_of_beq this
theorem en_eq {x : Instr} (h : OkI x) (hk : fn117 x = true) : fn45 (fn89 x) = refEnds x := by
 have := all256 (fun o => !(fn117 (atOp o)) || (fn45 (fn89 (atOp o)) == refEnds (atOp o))) (by kernel_rfl) h.op
 have h2 : (!(fn117 x) || (fn45 (fn89 x) == refEnds x)) = true := this
 rw [hk] at h2
 exact eq_of_beq (by simpa using h2)
theorem bif_or {α : Type} (a b : Bool) (z r : α) : (bif a then z else bif b then z else r) = bif (a || b) then z else r := by cases a <;> rfl
theorem tg_eq {x : Instr} (h : OkI x) (hk : fn117 x = true) (at' : Int) : fn44 (fn89 x) at' = fn120 x at' := by
 have := all256 (fun o => !(fn117 (atOp o)) || ((!(((fn89 (atOp o)).fclass == 5) || ((fn89 (atOp o)).fclass == 6)) || ((!(fn91 (fn89 (atOp o)))) && ((fn89 (atOp o)).fop != 0))) == ((((fn71 (atOp o) != 5) && (fn71 (atOp o) != 6)) || (fn72 (atOp o) == 128)) || (fn72 (atOp o) == 144)))) (by kernel_rfl) h.op
 have h2 : (!(fn117 x) || ((!(((fn89 x).fclass == 5) || ((fn89 x).fclass == 6)) || ((!(fn91 (fn89 x))) && ((fn89 x).fop != 0))) == ((((fn71 x != 5) && (fn71 x != 6)) || (fn72 x == 128)) || (fn72 x == 144)))) = true := this
 rw [hk] at h2
 have h3 := eq_of_beq (show _ == _ from by simpa only [Bool.not_true, Bool.false_or] using h2)
 simp only [fn44, fn120, bindP]
 rw [bif_or, h3]
 rfl
theorem rg_eq {x : Instr} : fn41 (fn89 x) = !(((decide ((10 : Int) < x.fDst)) || (decide ((10 : Int) < x.fSrc))) || ((x.fDst == 10) && fn118 x)) := by
 have e0 : fn41 (fn89 x) = (((decide (x.fDst ≤ 10)) && (decide (x.fSrc ≤ 10))) && !(fn118 x && (x.fDst == 10))) := rfl
 rw [e0]
 generalize fn118 x = c
 have h1 : decide (x.fDst ≤ 10) = !(decide (10 < x.fDst)) := by by_cases h : x.fDst ≤ 10 <;> simp [h] <;> omega
 have h2 : decide (x.fSrc ≤ 10) = !(decide (10 < x.fSrc)) := by by_cases h : x.fSrc ≤ 10 <;> simp [h] <;> omega
 rw [h1, h2]
 generalize decide (10 < x.fDst) = a
 generalize decide (10 < x.fSrc) = b
 generalize (x.fDst == 10) = d
 cases a <;> cases b <;> cases c <;> cases d <;> rfl
theorem idx93 (l : List Int) (y : Int) (hl : l.length ≤ 1000) : ∀ (n : Nat) (x : Int), 0 ≤ x → x ≤ l.length → (l.length : Int) - x < n →
  (fn147_l1 l y n x = some (.inl ()) ∧ y ∉ l.drop x.toNat) ∨ ∃ i, fn147_l1 l y n x = some (.inr i) ∧ 0 ≤ i ∧ y ∈ l.drop x.toNat
 | 0, x, h0, h1, h2 => by omega
 | n + 1, x, h0, h1, h2 => by
  rw [fn147_l1]
  by_cases hx : x < (l.length : Int)
  ·have hi : inb x l.length = true := inb_iff.2 ⟨h0, hx⟩
   have hlt : x.toNat < l.length := by omega
   have hd : l.drop x.toNat = gt l x :: l.drop (x.toNat + 1) := by
    rw [List.drop_eq_getElem_cons hlt]; congr 1; simp [gt, hlt]
   simp only [hx, decide_true, cond_true, hi]
   cases hy : (y == gt l x) with
   | true => exact .inr ⟨x, rfl, h0, by rw [hd, eq_of_beq hy]; simp⟩
   | false =>
    simp only [cond_false]
    rw [w64 (by omega)]
    have ih := idx93 l y hl n (x + 1) (by omega) (by omega) (by omega)
    rw [show (x + 1).toNat = x.toNat + 1 from by omega] at ih
    have hne : y ≠ gt l x := by intro e; subst e; simp at hy
    rcases ih with ⟨e1, e2⟩ | ⟨i, e1, e2, e3⟩
    ·exact .inl ⟨e1, by rw [hd]; simp [hne, e2]⟩
    ·exact .inr ⟨i, e1, e2, by rw [hd]; simp [e3]⟩
  ·simp only [hx, decide_false, cond_false]
   exact .inl ⟨trivial, by rw [List.drop_eq_nil_of_le (by omega)]; simp⟩
theorem idx92 (l : List Int) (y : Int) (hl : l.length ≤ 1000) : ∀ (n : Nat) (x : Int), fn146_l1 l y n x = fn147_l1 l y n x
 | 0, x => rfl
 | n + 1, x => by rw [fn146_l1, fn147_l1, idx92 l y hl n]
theorem has81 {F : Nat} (l : List Int) (y : Int) (hl : l.length ≤ 1000) (hF : 1001 < F) : fn126 F l y = some (decide (y ∈ l)) := by
 rw [fn126, fn147]
 rcases idx93 l y hl F 0 (by omega) (by omega) (by omega) with ⟨e1, e2⟩ | ⟨i, e1, e2, e3⟩
 ·rw [e1]; rw [Int.toNat_zero, List.drop_zero] at e2; simp [fn147_k1, e2]
 ·rw [e1]; rw [Int.toNat_zero, List.drop_zero] at e3; simp [e2, e3]
theorem has80 {F : Nat} (l : List Int) (y : Int) (hl : l.length ≤ 1000) (hF : 1001 < F) : fn125 F l y = some (decide (y ∈ l)) := by
 rw [fn125, fn146, idx92 l y hl]
 rcases idx93 l y hl F 0 (by omega) (by omega) (by omega) with ⟨e1, e2⟩ | ⟨i, e1, e2, e3⟩
 ·rw [e1]; rw [Int.toNat_zero, List.drop_zero] at e2; simp [fn146_k1, e2]
 ·rw [e1]; rw [Int.toNat_zero, List.drop_zero] at e3; simp [e2, e3]
theorem mem_or (y a : Int) (l : List Int) : decide (y ∈ a :: l) = ((y == a) || decide (y ∈ l)) := by
 simp only [List.mem_cons, Bool.decide_or]
 congr 1
theorem mem_nil' (y : Int) : decide (y ∈ ([] : List Int)) = false := rfl
theorem alu_eq {F : Nat} (hF : 1001 < F) {x : Instr} (hc : (fn89 x).fclass = 4 ∨ (fn89 x).fclass = 7) : fn96 F (fn89 x) = some (fn144 x) := by
 have h7 : fn71 x = (fn89 x).fclass := rfl
 have hop : fn72 x = (fn89 x).fop := rfl
 have hrg : fn124 x = (fn89 x).freg := rfl
 simp only [fn96, fn144, bindP, hop, hrg, h7]
 generalize (fn89 x).fop = o
 generalize hcl : (fn89 x).fclass = c at hc
 generalize (fn89 x).freg = r
 simp only [fn89_instr]
 have l1 : ([0] : List Int) ++ [1] = [0, 1] := rfl
 have l2 : ([0] : List Int) ++ [8, 16, 32] = [0, 8, 16, 32] := rfl
 have l3 : ([0] : List Int) ++ [8, 16] = [0, 8, 16] := rfl
 simp only [l1, l2, l3]
 rw [has80 _ _ (by decide) hF, has81 _ _ (by decide) hF, has81 _ _ (by decide) hF, has81 _ _ (by decide) hF, has81 _ _ (by decide) hF]
 simp only [mem_or, mem_nil', Bool.or_false, bne]
 generalize (x.fSrc == 0) = b1
 generalize (x.fOff == 0) = b2
 generalize (x.fImm == 0) = b3
 have d1 : decide ((([0] : List Int).length + ([1] : List Int).length) * 2 ≤ 140737488355328 ∧ ([0] : List Int).length + ([1] : List Int).length ≤ 9223372036854775807) = true := by decide
 have d2 : decide ((([0] : List Int).length + ([8, 16, 32] : List Int).length) * 2 ≤ 140737488355328 ∧ ([0] : List Int).length + ([8, 16, 32] : List Int).length ≤ 9223372036854775807) = true := by decide
 have d3 : decide ((([0] : List Int).length + ([8, 16] : List Int).length) * 2 ≤ 140737488355328 ∧ ([0] : List Int).length + ([8, 16] : List Int).length ≤ 9223372036854775807) = true := by decide
 rw [d1, d2, d3]
 generalize (x.fOff == 1) = q1
 generalize (x.fOff == 8) = q8
 generalize (x.fOff == 16) = q16
 generalize (x.fOff == 32) = q32
 generalize (x.fImm == 16) = i1
 generalize (x.fImm == 32) = i2
 generalize (x.fImm == 64) = i3
 by_cases h208 : o = 208
 ·subst h208; cases b1 <;> cases b2 <;> cases i1 <;> cases i2 <;> cases i3 <;> rfl
 by_cases h48 : o = 48
 ·subst h48; cases r <;> cases b1 <;> cases b2 <;> cases b3 <;> cases q1 <;> rfl
 by_cases h144 : o = 144
 ·subst h144; cases r <;> cases b1 <;> cases b2 <;> cases b3 <;> cases q1 <;> rfl
 by_cases h176 : o = 176
 ·subst h176
  rcases hc with rfl | rfl <;> cases r <;> cases b1 <;> cases b2 <;> cases b3 <;> cases q8 <;> cases q16 <;> cases q32 <;> rfl
 have e1 : (o == 208) = false := by simp [h208]
 have e2 : (o == 48) = false := by simp [h48]
 have e3 : (o == 144) = false := by simp [h144]
 have e4 : (o == 176) = false := by simp [h176]
 rw [e1, e2, e3, e4]
 cases (o == 128) <;> cases r <;> cases b1 <;> cases b2 <;> cases b3 <;> rfl
theorem cls_lt {x : Instr} (h : OkI x) : fn71 x = 0 ∨ fn71 x = 1 ∨ fn71 x = 2 ∨ fn71 x = 3 ∨ fn71 x = 4 ∨ fn71 x = 5 ∨ fn71 x = 6 ∨ fn71 x = 7 := by
 have := all256 (fun o => decide (fn71 (atOp o) = 0 ∨ fn71 (atOp o) = 1 ∨ fn71 (atOp o) = 2 ∨ fn71 (atOp o) = 3 ∨ fn71 (atOp o) = 4 ∨ fn71 (atOp o) = 5 ∨ fn71 (atOp o) = 6 ∨ fn71 (atOp o) = 7)) (by kernel_rfl) h.op
 exact of_decide_eq_true (p := fn71 x = 0 ∨ fn71 x = 1 ∨ fn71 x = 2 ∨ fn71 x = 3 ∨ fn71 x = 4 ∨ fn71 x = 5 ∨ fn71 x = 6 ∨ fn71 x = 7) this
theorem jump_eq {x : Instr} : fn97 (fn89 x) = fn145 x := by
 have hop : fn72 x = (fn89 x).fop := rfl
 have hcl : fn71 x = (fn89 x).fclass := rfl
 have hrg : fn124 x = (fn89 x).freg := rfl
 have hcd : fn143 (fn89 x).fop = fn91 (fn89 x) := rfl
 simp only [fn97, fn145, bindP, hop, hcl, hrg, hcd, fn89_instr, bne]
 generalize (fn89 x).fop = o
 generalize (fn89 x).freg = r
 generalize fn91 (fn89 x) = v
 generalize (x.fDst == 0) = b0
 generalize (x.fSrc == 0) = b1
 generalize (x.fOff == 0) = b2
 generalize (x.fImm == 0) = b3
 generalize (o == 0) = o0
 generalize ((fn89 x).fclass == 5) = c5
 generalize (o == 128) = o1
 cases v
 ·cases b0 <;> cases b1 <;> cases b2 <;> cases b3 <;> cases o0 <;> cases c5 <;> cases o1 <;> rfl
 ·cases r <;> cases b1 <;> cases b3 <;> rfl
theorem pt_eq {F : Nat} (hF : 1001 < F) {x : Instr} (h : OkI x) : fn42 F (fn89 x) = some (fn119 x) := by
 have e54 : fn71 x = (fn89 x).fclass := rfl
 have hc := cls_lt h
 rw [e54] at hc
 have a1 := alu_eq hF (x := x)
 have a2 := jump_eq (x := x)
 simp only [fn42, fn119, bindP, e54, a2]
 rcases hc with e | e | e | e | e | e | e | e
 ·rw [e]; rfl
 ·rw [e]; rfl
 ·rw [e]; rfl
 ·rw [e]; rfl
 ·rw [a1 (.inl e)]; rw [e]; rfl
 ·rw [e]; rfl
 ·rw [e]; rfl
 ·rw [a1 (.inr e)]; rw [e]; rfl
end Go.Proofs.YthpjmknpkdoadaaGreat
namespace Go.Proofs.YthpjmknpkdoadaaGreat
open Go Go.HW
set_option maxRecDepth 8000
set_option linter.unusedVariables false
def marks : List Instr → List Bool
 | [] => []
 | x :: l => true :: (bif x.fOp == 24 then (match l with | [] => [] | _ :: l' => false :: marks l') else marks l)
theorem marks_cons (x : Instr) (l : List Instr) : marks (x :: l) = true :: (bif x.fOp == 24 then (match l with | [] => [] | _ :: l' => false :: marks l') else marks l) := by cases l <;> rfl
theorem marks_len : ∀ (n : Nat) (l : List Instr), l.length ≤ n → (marks l).length = l.length
 | _, [], _ => rfl
 | 0, x :: l, h => by simp at h
 | n + 1, x :: l, h => by
  rw [marks_cons]
  simp only [List.length_cons] at h ⊢
  cases (x.fOp == 24) with
  | false => simp only [cond_false]; rw [marks_len n l (by omega)]
  | true =>
   simp only [cond_true]
   cases l with
   | nil => rfl
   | cons y l' => simp only [List.length_cons] at h ⊢; rw [marks_len n l' (by omega)]
theorem marks_length (l : List Instr) : (marks l).length = l.length := marks_len _ l (Nat.le_refl _)
theorem drop_cons' {α : Type} {q : List α} {k : Nat} {y : α} {r : List α} (h : q.drop k = y :: r) : k < q.length ∧ q.drop (k + 1) = r ∧ q[k]? = some y := by
 have h1 : k < q.length := by
  rcases Nat.lt_or_ge k q.length with h' | h'
  ·exact h'
  ·rw [List.drop_eq_nil_of_le h'] at h; cases h
 rw [List.drop_eq_getElem_cons h1] at h
 injection h with h2 h3
 exact ⟨h1, h3, by rw [List.getElem?_eq_getElem h1, h2]⟩
theorem firsts_loop (p : List Instr) (hp : p.length ≤ 1000000) : ∀ (n : Nat) (m : List Bool) (k : Nat), k ≤ p.length + 1 → m.length = p.length → m.drop k = List.replicate (p.length - k) false → p.length + 1 - k < n →
  fn69_l1 p n m (k : Int) = some (m.take k ++ marks (p.drop k))
 | 0, m, k, _, _, _, h => by omega
 | n + 1, m, k, hk, hm, hd, hn => by
  rw [fn69_l1_s]
  by_cases hx : k < p.length
  ·have h1 : decide ((k : Int) < (p.length : Int)) = true := by simp; omega
   have h2 : inb (k : Int) m.length = true := inb_iff.2 ⟨by omega, by omega⟩
   have h3 : inb (k : Int) p.length = true := inb_iff.2 ⟨by omega, by omega⟩
   simp only [h1, h2, h3, cond_true, bindP, fn116]
   have hg : p.drop k = gt p (k : Int) :: p.drop (k + 1) := gt_drop (q := p) (x := (k : Int)) (by omega) (by omega)
   rw [hg, marks_cons]
   have e1 : IntKind.i64.wrap ((k : Int) + 1) = ((k + 1 : Nat) : Int) := w64 (by omega)
   have e2 : IntKind.i64.wrap (((k + 1 : Nat) : Int) + 1) = ((k + 2 : Nat) : Int) := w64 (by omega)
   rw [e1, e2]
   have hs : ∀ j, k + 1 ≤ j → (m.set k true).drop j = List.replicate (p.length - j) false := by
    intro j hj
    rw [List.drop_set_of_lt (by omega)]
    have : m.drop j = (m.drop k).drop (j - k) := by rw [List.drop_drop]; congr 1; omega
    rw [this, hd, List.drop_replicate]; congr 1; omega
   have ht : (m.set k true).take (k + 1) = m.take k ++ [true] := by
    rw [List.take_add_one, List.getElem?_set_self (by omega), List.take_set_of_le (by omega)]; rfl
   cases hw : ((gt p (k : Int)).fOp == 24) with
   | false =>
    simp only [cond_false]
    rw [show ((k : Int)).toNat = k from rfl, firsts_loop p hp n (m.set k true) (k + 1) (by omega) (by simp [hm]) (hs _ (by omega)) (by omega), ht]
    simp
   | true =>
    simp only [cond_true]
    rw [show ((k : Int)).toNat = k from rfl, firsts_loop p hp n (m.set k true) (k + 2) (by omega) (by simp [hm]) (hs _ (by omega)) (by omega)]
    by_cases hl : k + 1 < p.length
    ·have hg2 : p.drop (k + 1) = gt p ((k + 1 : Nat) : Int) :: p.drop (k + 1 + 1) := gt_drop (q := p) (x := ((k + 1 : Nat) : Int)) (by omega) (by omega)
     rw [hg2]
     have h0 := hs (k + 1) (by omega)
     rw [show p.length - (k + 1) = (p.length - (k + 2)) + 1 from by omega, List.replicate_succ] at h0
     obtain ⟨_, _, h0⟩ := drop_cons' h0
     rw [show k + 2 = (k + 1) + 1 from rfl, List.take_add_one, h0, ht]
     simp
    ·rw [List.drop_eq_nil_of_le (by omega), List.drop_eq_nil_of_le (by omega)]
     have : (m.set k true).take (k + 2) = (m.set k true).take (k + 1) := by rw [List.take_of_length_le (by simp; omega), List.take_of_length_le (by simp; omega)]
     rw [this, ht]; simp [marks]
  ·have h1 : decide ((k : Int) < (p.length : Int)) = false := by simp; omega
   simp only [h1, cond_false]
   rw [List.drop_eq_nil_of_le (by omega), List.take_of_length_le (by omega)]; simp [marks]
theorem firsts_ref {F : Nat} (p : List Instr) (hp : p.length ≤ 5000) (hF : 6000 ≤ F) : fn69 F p = some (marks p) := by
 have h1 : (decide (0 ≤ (p.length : Int)) && decide ((p.length : Int) ≤ (p.length : Int)) && decide ((1 : Int) * (p.length : Int) ≤ 281474976710656) && decide ((p.length : Int) ≤ 9223372036854775807)) = true := by simp; omega
 rw [fn69, h1, cond_true]
 have := firsts_loop p (by omega) F (List.replicate p.length false) 0 (by omega) (by simp) (by simp) (by omega)
 rw [show ((0 : Nat) : Int) = 0 from rfl] at this
 rw [show ((p.length : Int)).toNat = p.length from by omega, this]; rfl
def pl (p : List Instr) (t : Int) : Bool := decide (0 ≤ t) && decide (t < (p.length : Int)) && gt (marks p) t
def posIn (l : List (Int × Slot)) (t : Int) : Bool := l.any fun y => y.1 == t
theorem pos_marks : ∀ (n : Nat) (l : List Instr) (k t : Int), l.length ≤ n → posIn (firstsL l k) t = (decide (k ≤ t) && decide (t < k + l.length) && (marks l).getD (t - k).toNat false)
 | _, [], k, t, _ => by
  have : (decide (k ≤ t) && decide (t < k + (([] : List Instr).length : Int))) = false := by simp
  rw [this]; rfl
 | 0, x :: l, k, t, h => by simp at h
 | n + 1, x :: l, k, t, h => by
  rw [firstsL_cons, marks_cons]
  simp only [List.length_cons] at h
  have hsplit : ∀ r : List (Int × Slot), posIn ((k, fn89 x) :: r) t = ((k == t) || posIn r t) := fun r => rfl
  rw [hsplit]
  by_cases hkt : k = t
  ·subst hkt; simp; omega
  ·have e0 : (k == t) = false := by simp [hkt]
   rw [e0, Bool.false_or]
   by_cases hk : k < t
   ·have hs : (t - k).toNat = (t - (k + 1)).toNat + 1 := by omega
    cases (x.fOp == 24) with
    | false =>
     simp only [cond_false]
     rw [pos_marks n l (k + 1) t (by omega), hs, List.getD_cons_succ]
     have a1 : decide (k + 1 ≤ t) = decide (k ≤ t) := by simp; omega
     have a2 : decide (t < k + 1 + (l.length : Int)) = decide (t < k + ((x :: l).length : Int)) := by simp; omega
     rw [a1, a2]
    | true =>
     simp only [cond_true]
     cases l with
     | nil =>
      simp only [posIn, List.any_nil]
      have : decide (t < k + (([x] : List Instr).length : Int)) = false := by simp; omega
      rw [this]; simp
     | cons y l' =>
      simp only [List.length_cons] at h
      simp only []
      rw [pos_marks n l' (k + 2) t (by omega), hs, List.getD_cons_succ]
      by_cases hk2 : t = k + 1
      ·subst hk2
       have b1 : decide (k + 2 ≤ k + 1) = false := by simp
       rw [b1, show (k + 1 - (k + 1)).toNat = 0 from by omega]; simp
      ·have hs2 : (t - (k + 1)).toNat = (t - (k + 2)).toNat + 1 := by omega
       rw [hs2, List.getD_cons_succ]
       have a1 : decide (k + 2 ≤ t) = decide (k ≤ t) := by simp; omega
       have a2 : decide (t < k + 2 + (l'.length : Int)) = decide (t < k + ((x :: y :: l').length : Int)) := by simp; omega
       rw [a1, a2]
   ·have b1 : decide (k ≤ t) = false := by simp; omega
    rw [b1]
    have : ∀ (l' : List Instr) (k' : Int), l'.length ≤ n → k < k' → posIn (firstsL l' k') t = false := fun l' k' h1 h2 => by
     rw [pos_marks n l' k' t h1]
     have : decide (k' ≤ t) = false := by simp; omega
     rw [this]; rfl
    cases (x.fOp == 24) with
    | false => simp only [cond_false]; rw [this l (k + 1) (by omega) (by omega)]; rfl
    | true =>
     simp only [cond_true]
     cases l with
     | nil => rfl
     | cons y l' => simp only [List.length_cons] at h; simp only []; rw [this l' (k + 2) (by omega) (by omega)]; rfl
theorem pos_pl (p : List Instr) (t : Int) : posIn (firstsL p 0) t = pl p t := by
 rw [pos_marks _ p 0 t (Nat.le_refl _), pl, gt, show t - 0 = t from by omega, show (0 : Int) + (p.length : Int) = p.length from by omega]
 rfl
theorem mem_firsts : ∀ (n : Nat) (l : List Instr) (k : Int), l.length ≤ n → 0 ≤ k → ∀ y ∈ firstsL l k, k ≤ y.1 ∧ y.1 < k + l.length ∧ ∃ j : Nat, y.1 = k + j ∧ ∃ x, l[j]? = some x ∧ y.2 = fn89 x
 | _, [], k, _, _, y, hy => by simp [firstsL] at hy
 | 0, x :: l, k, h, _, y, hy => by simp at h
 | n + 1, x :: l, k, h, h0, y, hy => by
  rw [firstsL_cons] at hy
  simp only [List.length_cons] at h
  rcases List.mem_cons.1 hy with rfl | hy
  ·exact ⟨Int.le_refl _, by simp; omega, 0, by simp, x, rfl, rfl⟩
  ·cases hw : (x.fOp == 24) with
   | false =>
    rw [hw] at hy; simp only [cond_false] at hy
    obtain ⟨h1, h2, j, h3, z, h4, h5⟩ := mem_firsts n l (k + 1) (by omega) (by omega) y hy
    exact ⟨by omega, by simp; omega, j + 1, by omega, z, by simpa using h4, h5⟩
   | true =>
    rw [hw] at hy; simp only [cond_true] at hy
    cases l with
    | nil => simp at hy
    | cons x2 l' =>
     simp only [List.length_cons] at h
     obtain ⟨h1, h2, j, h3, z, h4, h5⟩ := mem_firsts n l' (k + 2) (by omega) (by omega) y hy
     exact ⟨by omega, by simp; omega, j + 2, by omega, z, by simpa using h4, h5⟩
theorem first_slot {p : List Instr} {y : Int × Slot} (hy : y ∈ firstsL p 0) : 0 ≤ y.1 ∧ y.1 < p.length ∧ y.2 = fn89 (gt p y.1) := by
 obtain ⟨h1, h2, j, h3, x, h4, h5⟩ := mem_firsts _ p 0 (Nat.le_refl _) (Int.le_refl _) y hy
 refine ⟨h1, by omega, ?_⟩
 rw [h5, h3]
 simp [gt, h4]
end Go.Proofs.YthpjmknpkdoadaaGreat
namespace Go.Proofs.YthpjmknpkdoadaaGreat
open Go Go.HW
set_option maxRecDepth 8000
set_option linter.unusedVariables false
def sec (p : List Instr) (k : Int) : Int :=
 bif decide ((p.length : Int) ≤ k + 1) then 23 else
 bif (!(((gt p (k + 1)).fOp == 0) && (((gt p (k + 1)).fDst == 0) && (((gt p (k + 1)).fSrc == 0) && (((gt p (k + 1)).fOff == 0)))))) || (((gt p k).fSrc == 1) && ((gt p (k + 1)).fImm != 0)) then 22 else 0
def er (p : List Instr) (k : Int) : Int :=
 bif !fn117 (gt p k) then 20 else bif !fn41 (fn89 (gt p k)) then 21 else bif !fn119 (gt p k) then 22 else
 bif ((gt p k).fOp == 24) && (sec p k != 0) then sec p k else
 bif (fn120 (gt p k) k).2 && !(pl p (fn120 (gt p k) k).1) then 23 else 0
theorem fn43_sec {p : List Instr} {k : Int} (hp : p.length ≤ 5000) (h0 : 0 ≤ k) (h1 : k < p.length) : fn43 p k = some (sec p k) := by
 have e1 : IntKind.i64.wrap (k + 1) = k + 1 := w64 (by omega)
 simp only [fn43, sec, e1]
 by_cases hl : (p.length : Int) ≤ k + 1
 ·simp [hl]
 ·have h2 : decide ((p.length : Int) ≤ k + 1) = false := by simp; omega
  have h3 : inb (k + 1) p.length = true := inb_iff.2 ⟨by omega, by omega⟩
  have h4 : inb k p.length = true := inb_iff.2 ⟨h0, h1⟩
  simp only [h2, h3, h4, cond_false, cond_true, beq_self_eq_true, Bool.and_true]
  generalize (!(((gt p (k + 1)).fOp == 0) && (((gt p (k + 1)).fDst == 0) && (((gt p (k + 1)).fSrc == 0) && (((gt p (k + 1)).fOff == 0)))))) = a
  generalize (((gt p k).fSrc == 1) && ((gt p (k + 1)).fImm != 0)) = b
  cases a <;> cases b <;> rfl
theorem fn70_er {p : List Instr} {k : Int} (hp : p.length ≤ 5000) (h0 : 0 ≤ k) (h1 : k < p.length) : fn70 p (marks p) k = some (er p k) := by
 have e1 : IntKind.i64.wrap (k + 1) = k + 1 := w64 (by omega)
 have h4 : inb k p.length = true := inb_iff.2 ⟨h0, h1⟩
 have hpl : ∀ t : Int × Bool, (bif bif t.2 then (bif (decide (t.1 < 0)) || (decide ((p.length : Int) ≤ t.1)) then true else (inb t.1 (marks p).length)) else true then (bif t.2 && (((decide (t.1 < 0)) || (decide ((p.length : Int) ≤ t.1))) || (!(gt (marks p) t.1))) then (some 23) else (some 0)) else none) = some (bif t.2 && !(pl p t.1) then (23 : Int) else 0) := by
  rintro ⟨t, b⟩
  cases b with
  | false => rfl
  | true =>
   simp only [cond_true, Bool.true_and]
   by_cases ht0 : t < 0
   ·have : pl p t = false := by simp [pl]; omega
    simp [ht0, this]
   ·by_cases ht1 : (p.length : Int) ≤ t
    ·have : pl p t = false := by simp [pl]; omega
     simp [ht0, ht1, this]
    ·have : pl p t = gt (marks p) t := by
      have a : decide (0 ≤ t) = true := by simp; omega
      have b : decide (t < (p.length : Int)) = true := by simp; omega
      simp [pl, a, b]
     have h5 : inb t (marks p).length = true := by rw [marks_length]; exact inb_iff.2 ⟨by omega, by omega⟩
     simp only [ht0, ht1, this, decide_false, cond_false, h5, cond_true, Bool.false_or]
     cases gt (marks p) t <;> rfl
 simp only [fn70, er, bindP, h4, cond_true, rg_eq]
 cases fn117 (gt p k) with
 | false => rfl
 | true =>
 simp only [Bool.not_true, cond_false]
 cases ((decide ((10 : Int) < (gt p k).fDst)) || (decide ((10 : Int) < (gt p k).fSrc))) || (((gt p k).fDst == 10) && fn118 (gt p k)) with
 | true => rfl
 | false =>
 simp only [Bool.not_false, Bool.not_true, cond_false]
 cases fn119 (gt p k) with
 | false => rfl
 | true =>
 simp only [Bool.not_true, cond_false, fn116, hpl]
 cases hw : ((gt p k).fOp == 24) with
 | false => simp
 | true =>
  simp only [cond_true, e1, Bool.true_and, sec]
  by_cases hl : (p.length : Int) ≤ k + 1
  ·simp [hl]
  ·have h2 : decide ((p.length : Int) ≤ k + 1) = false := by simp; omega
   have h3 : inb (k + 1) p.length = true := inb_iff.2 ⟨by omega, by omega⟩
   have hb : ∀ A B : Bool, (bif A then true else bif B then true else true) = true := by intro A B; cases A <;> cases B <;> rfl
   simp only [h2, h3, cond_false, cond_true, beq_self_eq_true, Bool.and_true, hb]
   generalize ((!(((gt p (k + 1)).fOp == 0) && (((gt p (k + 1)).fDst == 0) && (((gt p (k + 1)).fSrc == 0) && (((gt p (k + 1)).fOff == 0)))))) || (((gt p k).fSrc == 1) && ((gt p (k + 1)).fImm != 0))) = a
   cases a <;> rfl
theorem mget_put {κ α : Type} [DecidableEq κ] (z v : α) (k t : κ) : ∀ xs : List (κ × α), mget (mput xs k v) t z = if k = t then v else mget xs t z
 | [] => by by_cases h : k = t <;> simp [mget, mput, mfind, h]
 | p :: xs => by
  have ih := mget_put z v k t xs
  simp only [mget] at ih ⊢
  by_cases hp : p.1 = k
  ·by_cases h : k = t
   ·simp [mput, mfind, hp, h]
   ·have : ¬ p.1 = t := by rw [hp]; exact h
    simp [mput, mfind, hp, h]
  ·by_cases h : p.1 = t
   ·have : ¬ k = t := by intro e; exact hp (h.trans e.symm)
    have h2 : ¬ t = k := fun e => this e.symm
    simp [mput, mfind, h, this, h2]
   ·simp only [mput, hp, decide_false, cond_false, mfind, h]
    exact ih
theorem places_get : ∀ (l : List (Int × Slot)) (m : List (Int × Bool)) (t : Int), mget (l.foldl (fun s y => mput s y.1 true) m) t false = (posIn l t || mget m t false)
 | [], m, t => by simp [posIn]
 | y :: l, m, t => by
  rw [List.foldl_cons, places_get l _ t, mget_put]
  have : posIn (y :: l) t = ((y.1 == t) || posIn l t) := rfl
  rw [this]
  by_cases h : y.1 = t
  ·simp [h]
  ·have : (y.1 == t) = false := by simp [h]
   rw [if_neg h, this]; simp
def WF (p : List Instr) : Prop := ∀ x ∈ p, OkI x
theorem WF.gt {p : List Instr} (h : WF p) {k : Int} (h0 : 0 ≤ k) (h1 : k < p.length) : OkI (Go.HW.gt p k) := by
 apply h
 have : k.toNat < p.length := by omega
 simp only [Go.HW.gt, List.getD_eq_getElem?_getD, List.getElem?_eq_getElem this, Option.getD_some]
 exact List.getElem_mem _
theorem r2_er {F : Nat} {p : List Instr} (hF : 6000 ≤ F) (hp : p.length ≤ 5000) (hw : WF p) {m : List (Int × Bool)} (hm : ∀ t, mget m t false = pl p t) {k : Int} (h0 : 0 ≤ k) (h1 : k < p.length) (a b : Int) (c : Bool) :
  fn20_r2 F p m a b c k (fn89 (gt p k)) = some (bif er p k != 0 then ((k, er p k, c), 1) else ((a, b, refEnds (gt p k)), 0)) := by
 have ok := hw.gt h0 h1
 simp only [fn20_r2, bindP, er, kn_eq ok, pt_eq (F := F) (by omega) ok, fn43_sec hp h0 h1, hm, fn89_instr, Option.bind_some]
 cases hk : fn117 (gt p k) with
 | false => rfl
 | true =>
 rw [tg_eq ok hk, en_eq ok hk]
 simp only [Bool.not_true, cond_false]
 cases fn41 (fn89 (gt p k)) with
 | false => rfl
 | true =>
 simp only [Bool.not_true, cond_false]
 cases fn119 (gt p k) with
 | false => rfl
 | true =>
 simp only [Bool.not_true, cond_false]
 cases ((gt p k).fOp == 24) with
 | false =>
  simp only [cond_false, Bool.false_and]
  cases ((fn120 (gt p k) k).2 && !(pl p (fn120 (gt p k) k).1)) <;> rfl
 | true =>
  simp only [cond_true, Bool.true_and]
  cases hs : (sec p k != 0) with
  | true => simp [hs]
  | false =>
   simp only [cond_false]
   cases ((fn120 (gt p k) k).2 && !(pl p (fn120 (gt p k) k).1)) <;> rfl
def bad (p : List Instr) (y : Int × Slot) : Bool := er p y.1 != 0
def lastAt (l : List (Int × Slot)) (d : Int) : Int := l.foldl (fun _ y => y.1) d
def chk (p : List Instr) : Int × Int :=
 bif ((p.length : Int) == 0) || (decide ((4096 : Int) < (p.length : Int))) then (0, 3) else
 match (firstsL p 0).find? (bad p) with
 | some y => (y.1, er p y.1)
 | none => bif refEnds (gt p (lastAt (firstsL p 0) 0)) then (0, 0) else ((p.length : Int) - 1, 24)
theorem run_er {F : Nat} {p : List Instr} (hF : 6000 ≤ F) (hp : p.length ≤ 5000) (hw : WF p) {m : List (Int × Bool)} (hm : ∀ t, mget m t false = pl p t) (a b : Int) : ∀ (l : List (Int × Slot)) (c : Bool), (∀ y ∈ l, y ∈ firstsL p 0) →
  ∃ c', runL (stepR (fun (s : Int × Int × Bool) (y : Int × Slot) => fn20_r2 F p m s.1 s.2.1 s.2.2 y.1 y.2)) goR l ((a, b, c), 0) =
   (match l.find? (bad p) with | some y => some ((y.1, er p y.1, c'), 1) | none => some ((a, b, c'), 0)) ∧ (l.find? (bad p) = none → c' = bif l.isEmpty then c else refEnds (gt p (lastAt l 0)))
 | [], c, _ => ⟨c, rfl, fun _ => rfl⟩
 | y :: l, c, h => by
  obtain ⟨h0, h1, h2⟩ := first_slot (h y (by simp))
  have hr := r2_er hF hp hw hm h0 h1 a b c
  rw [← h2] at hr
  simp only [runL, stepR, show Nat.beq 0 0 = true from rfl, cond_true, hr, Option.bind_some, List.find?_cons]
  cases hb : (er p y.1 != 0) with
  | true =>
   have : bad p y = true := hb
   rw [this]
   refine ⟨c, rfl, fun h => by cases h⟩
  | false =>
   have : bad p y = false := hb
   rw [this]
   obtain ⟨c', e1, e2⟩ := run_er hF hp hw hm a b l (refEnds (gt p y.1)) (fun z hz => h z (by simp [hz]))
   refine ⟨c', ?_, fun hn => ?_⟩
   ·simp only [cond_false, goR, show Nat.beq 0 0 = true from rfl, cond_true]; exact e1
   ·rw [e2 hn]
    cases l with
    | nil => rfl
    | cons z l' => rfl
theorem firsts_ne {p : List Instr} (h : p ≠ []) : (firstsL p 0).isEmpty = false := by
 cases p with
 | nil => exact absurd rfl h
 | cons x l => rw [firstsL_cons]; rfl
theorem check_prog {F : Nat} {p : List Instr} (hF : 6000 ≤ F) (hp : p.length ≤ 5000) (hw : WF p) : fn20 F p = some (chk p) := by
 rw [fn20, chk]
 cases hl : (((p.length : Int) == 0) || (decide ((4096 : Int) < (p.length : Int)))) with
 | true => rfl
 | false =>
  simp only [cond_false]
  have hne : p ≠ [] := by rintro rfl; simp at hl
  rw [fn88_run _ _ _ _ (by omega) (by omega), runL_all (stepB := fun (s : List (Int × Bool)) (y : Int × Slot) => fn20_r1 s y.1 y.2) (f := fun s y => mput s y.1 true) _ _ (fun s y _ => rfl)]
  rw [Option.bind_some, show Nat.beq 0 0 = true from rfl, cond_true, fn20_k1_0, fn88_run _ _ _ _ (by omega) (by omega)]
  have hm : ∀ t, mget ((firstsL p 0).foldl (fun s (y : Int × Slot) => mput s y.1 true) []) t false = pl p t := fun t => by
   rw [places_get, pos_pl]; simp [mget, mfind]
  obtain ⟨c', e1, e2⟩ := run_er hF hp hw hm 0 0 (firstsL p 0) false (fun y hy => hy)
  rw [e1]
  cases hf : (firstsL p 0).find? (bad p) with
  | some y => rfl
  | none =>
   have := e2 hf
   rw [firsts_ne hne, cond_false] at this
   subst this
   have hw' : IntKind.i64.wrap ((p.length : Int) - 1) = (p.length : Int) - 1 := w64 (by omega)
   simp only [Option.bind_some, show Nat.beq 0 1 = false from rfl, show Nat.beq 0 0 = true from rfl, cond_true, cond_false, fn20_k2_1, hw']
   cases refEnds (gt p (lastAt (firstsL p 0) 0)) <;> rfl
end Go.Proofs.YthpjmknpkdoadaaGreat
namespace Go.Proofs.YthpjmknpkdoadaaGreat
open Go Go.HW
set_option maxRecDepth 8000
set_option linter.unusedVariables false
theorem bd_step {p : List Instr} {k : Nat} (hb : (marks p).drop k = marks (p.drop k)) (hk : k < p.length) : gt (marks p) (k : Int) = true ∧
  (((gt p (k : Int)).fOp == 24) = false → (marks p).drop (k + 1) = marks (p.drop (k + 1))) ∧
  (((gt p (k : Int)).fOp == 24) = true → p.length ≤ k + 1 ∨ (k + 1 < p.length ∧ gt (marks p) ((k + 1 : Nat) : Int) = false ∧ (marks p).drop (k + 2) = marks (p.drop (k + 2)))) := by
 have hg : p.drop k = gt p (k : Int) :: p.drop (k + 1) := gt_drop (q := p) (x := (k : Int)) (by omega) (by omega)
 rw [hg, marks_cons] at hb
 obtain ⟨h1, h2, h3⟩ := drop_cons' hb
 have hget : ∀ (j : Nat) (b : Bool), (marks p)[j]? = some b → gt (marks p) (j : Int) = b := fun j b h => by simp [gt, h]
 refine ⟨hget k true h3, fun hw => ?_, fun hw => ?_⟩
 ·rw [h2, hw, cond_false]
 ·rw [hw, cond_true] at h2
  rcases Nat.lt_or_ge (k + 1) p.length with hl | hl
  ·have hg2 : p.drop (k + 1) = gt p ((k + 1 : Nat) : Int) :: p.drop (k + 1 + 1) := gt_drop (q := p) (x := ((k + 1 : Nat) : Int)) (by omega) (by omega)
   rw [hg2] at h2
   obtain ⟨_, h4, h5⟩ := drop_cons' h2
   exact .inr ⟨hl, hget _ _ h5, h4⟩
  ·exact .inl hl
theorem check_loop {p : List Instr} (hp : p.length ≤ 5000) : ∀ (n k : Nat) (last : Int), k ≤ p.length → p.length - k < n → (marks p).drop k = marks (p.drop k) →
  fn28_l1 p (marks p) n last (k : Int) = (match (firstsL (p.drop k) k).find? (bad p) with | some y => some (.inr (y.1, er p y.1)) | none => some (.inl (lastAt (firstsL (p.drop k) k) last)))
 | 0, k, last, h1, h2, h3 => by omega
 | 1, k, last, h1, h2, h3 => by
  have h0 : decide ((k : Int) < (p.length : Int)) = false := by simp; omega
  rw [fn28_l1_s, h0, List.drop_eq_nil_of_le (by omega)]; rfl
 | n + 2, k, last, h1, h2, h3 => by
  rw [fn28_l1_s]
  by_cases hk : k < p.length
  ·obtain ⟨b1, b2, b3⟩ := bd_step h3 hk
   have g1 : decide ((k : Int) < (p.length : Int)) = true := by simp; omega
   have g2 : inb (k : Int) (marks p).length = true := by rw [marks_length]; exact inb_iff.2 ⟨by omega, by omega⟩
   have g3 : IntKind.i64.wrap ((k : Int) + 1) = ((k + 1 : Nat) : Int) := w64 (by omega)
   have g4 : IntKind.i64.wrap (((k + 1 : Nat) : Int) + 1) = ((k + 2 : Nat) : Int) := w64 (by omega)
   have hg : p.drop k = gt p (k : Int) :: p.drop (k + 1) := gt_drop (q := p) (x := (k : Int)) (by omega) (by omega)
   simp only [g1, g2, cond_true, b1, Bool.not_true, cond_false, fn70_er hp (show (0 : Int) ≤ (k : Int) by omega) (show (k : Int) < (p.length : Int) by omega), Option.bind_some, g3]
   rw [hg, firstsL_cons, List.find?_cons]
   cases hbad : (er p (k : Int) != 0) with
   | true =>
    have : bad p ((k : Int), fn89 (gt p (k : Int))) = true := hbad
    rw [this]; rfl
   | false =>
    have : bad p ((k : Int), fn89 (gt p (k : Int))) = false := hbad
    rw [this]
    simp only [cond_false]
    have la : ∀ (l : List (Int × Slot)) (s : Slot) (d : Int), lastAt (((k : Int), s) :: l) d = lastAt l (k : Int) := fun _ _ _ => rfl
    cases hw : ((gt p (k : Int)).fOp == 24) with
    | false =>
     rw [check_loop hp (n + 1) (k + 1) (k : Int) (by omega) (by omega) (b2 hw)]
     simp only [cond_false, la]
     rfl
    | true =>
     simp only [cond_true, la]
     rcases b3 hw with hl | ⟨hl, c1, c2⟩
     ·have h0 : decide (((k + 1 : Nat) : Int) < (p.length : Int)) = false := by simp; omega
      rw [fn28_l1_s, h0, List.drop_eq_nil_of_le hl]; rfl
     ·have q1 : decide (((k + 1 : Nat) : Int) < (p.length : Int)) = true := by simp; omega
      have q2 : inb ((k + 1 : Nat) : Int) (marks p).length = true := by rw [marks_length]; exact inb_iff.2 ⟨by omega, by omega⟩
      have hg2 : p.drop (k + 1) = gt p ((k + 1 : Nat) : Int) :: p.drop (k + 2) := gt_drop (q := p) (x := ((k + 1 : Nat) : Int)) (by omega) (by omega)
      rw [fn28_l1_s, q1, q2, c1, g4]
      simp only [cond_true, Bool.not_false]
      rw [check_loop hp n (k + 2) (k : Int) (by omega) (by omega) c2, hg2]
      rfl
  ·have h0 : decide ((k : Int) < (p.length : Int)) = false := by simp; omega
   rw [h0, List.drop_eq_nil_of_le (by omega)]; rfl
theorem lastAt_mem : ∀ (l : List (Int × Slot)) (d : Int), l ≠ [] → ∃ y ∈ l, y.1 = lastAt l d
 | [], _, h => absurd rfl h
 | [y], d, _ => ⟨y, by simp, rfl⟩
 | y :: z :: l, d, _ => by
  obtain ⟨w, h1, h2⟩ := lastAt_mem (z :: l) y.1 (by simp)
  exact ⟨w, by simp at h1 ⊢; exact .inr h1, h2⟩
theorem last_in {p : List Instr} (h : p ≠ []) : 0 ≤ lastAt (firstsL p 0) 0 ∧ lastAt (firstsL p 0) 0 < p.length := by
 obtain ⟨y, h1, h2⟩ := lastAt_mem (firstsL p 0) 0 (by intro e; have := firsts_ne h; rw [e] at this; cases this)
 rw [← h2]
 exact ⟨(first_slot h1).1, (first_slot h1).2.1⟩
theorem check_ref {F : Nat} {p : List Instr} (hF : 6000 ≤ F) (hp : p.length ≤ 5000) : fn28 F p = some (chk p) := by
 rw [fn28, chk]
 cases hl : (((p.length : Int) == 0) || (decide ((4096 : Int) < (p.length : Int)))) with
 | true => rfl
 | false =>
  simp only [cond_false]
  have hne : p ≠ [] := by rintro rfl; simp at hl
  rw [firsts_ref p hp hF, Option.bind_some]
  have := check_loop hp F 0 0 (by omega) (by omega) rfl
  rw [show ((0 : Nat) : Int) = 0 from rfl, List.drop_zero] at this
  rw [this]
  cases (firstsL p 0).find? (bad p) with
  | some y => rfl
  | none =>
   obtain ⟨l0, l1⟩ := last_in hne
   have g : inb (lastAt (firstsL p 0) 0) p.length = true := inb_iff.2 ⟨l0, l1⟩
   have hw' : IntKind.i64.wrap ((p.length : Int) - 1) = (p.length : Int) - 1 := w64 (by omega)
   simp only [Option.bind_some, fn28_k1, g, cond_true, bindP, hw']
   have : refEnds (gt p (lastAt (firstsL p 0) 0)) = (((fn71 (gt p (lastAt (firstsL p 0) 0)) == 5) && ((fn72 (gt p (lastAt (firstsL p 0) 0)) == 144) || (fn72 (gt p (lastAt (firstsL p 0) 0)) == 0))) || ((fn71 (gt p (lastAt (firstsL p 0) 0)) == 6) && (fn72 (gt p (lastAt (firstsL p 0) 0)) == 0))) := rfl
   rw [← this]
   cases refEnds (gt p (lastAt (firstsL p 0) 0)) <;> rfl
def okP (p : List Instr) : Bool := (chk p).2 == 0
theorem ok_len {p : List Instr} (h : okP p = true) : p ≠ [] ∧ p.length ≤ 4096 := by
 unfold okP chk at h
 cases hl : (((p.length : Int) == 0) || (decide ((4096 : Int) < (p.length : Int)))) with
 | true => rw [hl] at h; simp at h
 | false =>
  simp at hl
  exact ⟨hl.1, by omega⟩
theorem ok_er {p : List Instr} (h : okP p = true) : ∀ y ∈ firstsL p 0, er p y.1 = 0 := by
 obtain ⟨h1, h2⟩ := ok_len h
 unfold okP chk at h
 cases hl : (((p.length : Int) == 0) || (decide ((4096 : Int) < (p.length : Int)))) with
 | true => simp at hl; rcases hl with e | e; exact absurd e h1; omega
 | false =>
  rw [hl] at h
  simp only [cond_false] at h
  cases hf : (firstsL p 0).find? (bad p) with
  | some y =>
   rw [hf] at h
   have := List.find?_some hf
   simp [bad] at this
   simp at h
   exact absurd h this
  | none =>
   intro y hy
   have := List.find?_eq_none.1 hf y hy
   simpa [bad] using this
theorem er_known {p : List Instr} {k : Int} (h : er p k = 0) : fn117 (gt p k) = true := by
 unfold er at h
 cases hk : fn117 (gt p k) with
 | true => rfl
 | false => rw [hk] at h; simp at h
end Go.Proofs.YthpjmknpkdoadaaGreat
namespace Go.Proofs.YthpjmknpkdoadaaGreat
open Go Go.HW
set_option maxRecDepth 8000
set_option linter.unusedVariables false
theorem mul_all : (List.range 4097).all (fun N => fn148 (IntKind.u64.wrap 1) (IntKind.u64.wrap (N : Int)) == (0, (N : Int))) = true := by kernel_rfl
theorem rep_loop (c : S__2_int) : ∀ (n : Nat) (ys : List S__2_int) (m : Nat), 1 ≤ m → m ≤ ys.length → ys.length ≤ 5000 → ys.length + 1 - m < n + 1 → ys.take m = List.replicate m c →
  fn129_l1 n ys (m : Int) = some (List.replicate ys.length c)
 | 0, ys, m, h0, h1, hb, h2, h3 => by omega
 | n + 1, ys, m, h0, h1, hb, h2, h3 => by
  rw [fn129_l1_s]
  by_cases hm : m < ys.length
  ·have g0 : decide ((m : Int) < (ys.length : Int)) = true := by simp; omega
   have k1 : sliceOk (m : Int) ((ys.length : Nat) : Int) ys.length = true := sliceOk_iff.2 ⟨by omega, by omega, by omega⟩
   have k2 : sliceOk ((0 : Nat) : Int) (m : Int) ys.length = true := sliceOk_iff.2 ⟨by omega, by omega, by omega⟩
   have e1 : cutX ys ((0 : Nat) : Int).toNat (((0 : Nat) : Int).toNat + ((m : Nat) : Int).toNat - ((0 : Nat) : Int).toNat) = List.replicate m c := by
    rw [show ((0 : Nat) : Int).toNat = 0 from rfl, show ((m : Nat) : Int).toNat = m from rfl, cutX, Nat.zero_add, Nat.sub_zero, h3, List.drop_zero]
   simp only [g0, cond_true, k1, k2, e1]
   rw [show ((m : Nat) : Int).toNat = m from rfl, show ((ys.length : Nat) : Int).toNat = ys.length from rfl, show m + (ys.length - m) - m = ys.length - m from by omega, List.length_replicate, List.take_replicate]
   have hw : IntKind.i64.wrap ((m : Int) + ((min m (ys.length - m) : Nat) : Int)) = ((m + min m (ys.length - m) : Nat) : Int) := w64 (by omega)
   rw [hw]
   have hp : (pasteX ys m (List.replicate (min (ys.length - m) m) c)).length = ys.length := pasteX_length (by simp; omega)
   have ht : (pasteX ys m (List.replicate (min (ys.length - m) m) c)).take (m + min m (ys.length - m)) = List.replicate (m + min m (ys.length - m)) c := by
    rw [pasteX, h3, List.take_append_of_le_length (by simp; omega), List.replicate_append_replicate, List.take_replicate]
    congr 1; omega
   rw [rep_loop c n _ _ (by omega) (by rw [hp]; omega) (by rw [hp]; exact hb) (by rw [hp]; omega) ht, hp]
  ·have g0 : decide ((m : Int) < (ys.length : Int)) = false := by simp; omega
   rw [g0, cond_false]
   have : m = ys.length := by omega
   subst this
   rw [← h3, List.take_length]
theorem repeat_eq {F : Nat} (N : Nat) (hF : 6000 ≤ F) (h1 : 1 ≤ N) (h2 : N ≤ 4096) (c : S__2_int) : fn129 F [c] (N : Int) = some (List.replicate N c) := by
 have hm : fn148 (IntKind.u64.wrap (([c] : List S__2_int).length : Int)) (IntKind.u64.wrap (N : Int)) = (0, (N : Int)) := by
  have := List.all_eq_true.1 mul_all N (by simp; omega)
  exact eq_of_beq this
 rw [fn129, hm]
 have g0 : decide ((N : Int) < 0) = false := by simp
 have g1 : (decide ((0 : Int) < (0, (N : Int)).1) || decide ((9223372036854775807 : Int) < (0, (N : Int)).2)) = false := by simp; omega
 have hw : IntKind.i64.wrap (0, (N : Int)).2 = (N : Int) := w64 (by simp; omega)
 have g2 : (decide (0 ≤ (N : Int)) && decide ((N : Int) ≤ (N : Int)) && decide ((16 : Int) * (N : Int) ≤ 281474976710656) && decide ((N : Int) ≤ 9223372036854775807)) = true := by simp; omega
 simp only [g0, cond_false, bindP, g1, hw, g2, cond_true, Int.toNat_natCast, List.length_replicate]
 have e1 : ([c] : List S__2_int).take (N - 0) = [c] := List.take_of_length_le (by simp; omega)
 have e2 : ((min ([c] : List S__2_int).length (N - 0) : Nat) : Int) = ((1 : Nat) : Int) := by simp; omega
 rw [e1, e2]
 have hp : (pasteX (List.replicate N (⟨0, 0⟩ : S__2_int)) 0 [c]).length = N := by rw [pasteX_length (by simp; omega)]; simp
 have := rep_loop c F (pasteX (List.replicate N (⟨0, 0⟩ : S__2_int)) 0 [c]) 1 (by omega) (by rw [hp]; omega) (by rw [hp]; omega) (by rw [hp]; omega) (by simp [pasteX])
 rw [hp] at this
 rw [this]; rfl
def way (p : List Instr) (k : Int) : S__2_int :=
 ⟨bif refEnds (gt p k) then -1 else bif (gt p k).fOp == 24 then k + 2 else k + 1, bif (fn120 (gt p k) k).2 then (fn120 (gt p k) k).1 else -1⟩
def wayAt (p : List Instr) (k : Int) : S__2_int := bif gt (marks p) k then way p k else ⟨-1, -1⟩
def ways (p : List Instr) : List S__2_int := bif okP p then (List.range p.length).map (fun i : Nat => wayAt p (i : Int)) else []
theorem next1_eq {p : List Instr} {k : Int} (hp : p.length ≤ 5000) (h0 : 0 ≤ k) (h1 : k < p.length) : fn121 p k = some ((way p k).e0, (way p k).e1) := by
 have e1 : IntKind.i64.wrap (k + 1) = k + 1 := w64 (by omega)
 have e2 : IntKind.i64.wrap (k + 2) = k + 2 := w64 (by omega)
 have g : inb k p.length = true := inb_iff.2 ⟨h0, h1⟩
 have hr : refEnds (gt p k) = (((fn71 (gt p k) == 5) && ((fn72 (gt p k) == 144) || (fn72 (gt p k) == 0))) || ((fn71 (gt p k) == 6) && (fn72 (gt p k) == 0))) := rfl
 simp only [fn121, way, g, cond_true, bindP, fn116, e1, e2, ← hr]
 cases ((gt p k).fOp == 24) <;> cases (fn120 (gt p k) k).2 <;> cases refEnds (gt p k) <;> rfl
theorem way_eq {p : List Instr} {k : Int} (hp : p.length ≤ 5000) (hw : WF p) (h0 : 0 ≤ k) (h1 : k < p.length) (hk : fn117 (gt p k) = true) : fn130 (fn89 (gt p k)) k = way p k := by
 have e1 : IntKind.i64.wrap (k + 1) = k + 1 := w64 (by omega)
 have e2 : IntKind.i64.wrap (k + 1 + 1) = k + 2 := by rw [w64 (by omega)]; omega
 have ok := hw.gt h0 h1
 simp only [fn130, way, bindP, tg_eq ok hk, en_eq ok hk, fn89_instr, e1, e2]
 cases ((gt p k).fOp == 24) <;> cases (fn120 (gt p k) k).2 <;> cases refEnds (gt p k) <;> rfl
theorem set_fold {α : Type} (f : Int → α) : ∀ (l : List Int) (ys : List α) (i : Nat), (l.foldl (fun s y => s.set y.toNat (f y)) ys).length = ys.length ∧
  ((∀ y ∈ l, 0 ≤ y) → (l.foldl (fun s y => s.set y.toNat (f y)) ys)[i]? = if (i : Int) ∈ l ∧ i < ys.length then some (f i) else ys[i]?)
 | [], ys, i => ⟨rfl, fun _ => by simp⟩
 | y :: l, ys, i => by
  obtain ⟨h1, h2⟩ := set_fold f l (ys.set y.toNat (f y)) i
  refine ⟨by rw [List.foldl_cons, h1, List.length_set], fun h => ?_⟩
  have hy := h y (by simp)
  rw [List.foldl_cons, h2 (fun z hz => h z (by simp [hz])), List.length_set, List.getElem?_set]
  by_cases hl : (i : Int) ∈ l
  ·by_cases hi : i < ys.length
   ·simp [hl, hi]
   ·simp [hi]; omega
  ·by_cases hyi : y = (i : Int)
   ·subst hyi
    by_cases hi : i < ys.length
    ·simp [hl, hi]
    ·simp [hi]
   ·have : ¬ y.toNat = i := by omega
    have : ¬ (i : Int) = y := fun e => hyi e.symm
    simp [*]
theorem ways_prog {F : Nat} {p : List Instr} (hF : 6000 ≤ F) (hp : p.length ≤ 5000) (hw : WF p) : fn103 F p = some (ways p) := by
 rw [fn103, check_prog hF hp hw, Option.bind_some, ways]
 cases ho : okP p with
 | false =>
  have : ((chk p).2 != 0) = true := by unfold okP at ho; simpa [bne] using ho
  rw [this]; rfl
 | true =>
  have h0 : ((chk p).2 != 0) = false := by unfold okP at ho; simpa [bne] using ho
  obtain ⟨hne, hlen⟩ := ok_len ho
  have hpos : 1 ≤ p.length := List.length_pos_iff.2 hne
  rw [h0, cond_false, cond_true, repeat_eq p.length hF hpos hlen, Option.bind_some]
  rw [fn88_run _ _ _ _ (by omega) (by omega)]
  have hk : ∀ y ∈ firstsL p 0, fn130 y.2 y.1 = way p y.1 := fun y hy => by
   obtain ⟨a, b, c⟩ := first_slot hy
   rw [c, way_eq hp hw a b (er_known (ok_er ho y hy))]
  obtain ⟨r1, r2⟩ := runL_inv (stepB := fun (s : List S__2_int) (y : Int × Slot) => fn103_r1 s y.1 y.2) (f := fun s y => s.set y.1.toNat (way p y.1)) (P := fun s => s.length = p.length) (firstsL p 0) (List.replicate p.length ⟨-1, -1⟩) (by simp) (fun s y hy hs => by
   obtain ⟨a, b, c⟩ := first_slot hy
   have g : inb y.1 s.length = true := by rw [hs]; exact inb_iff.2 ⟨a, b⟩
   refine ⟨by simp only [fn103_r1, bindP, hk y hy, g, cond_true], by simp [hs]⟩)
  rw [r1]
  simp only [Option.bind_some, show Nat.beq 0 0 = true from rfl, cond_true, fn103_k1_0]
  congr 1
  apply List.ext_getElem?
  intro i
  have hf : (firstsL p 0).foldl (fun (s : List S__2_int) (y : Int × Slot) => s.set y.1.toNat (way p y.1)) (List.replicate p.length ⟨-1, -1⟩) = ((firstsL p 0).map (·.1)).foldl (fun s y => s.set y.toNat (way p y)) (List.replicate p.length ⟨-1, -1⟩) := by rw [List.foldl_map]
  rw [hf, (set_fold (way p) _ _ i).2 (fun y hy => by obtain ⟨z, hz, rfl⟩ := List.mem_map.1 hy; exact (first_slot hz).1)]
  have hpl := pos_pl p (i : Int)
  have hmem : ((i : Int) ∈ (firstsL p 0).map (·.1)) ↔ pl p (i : Int) = true := by
   rw [← hpl, posIn, List.any_eq_true]
   constructor
   ·intro h; obtain ⟨y, h1, h2⟩ := List.mem_map.1 h; exact ⟨y, h1, by simp [h2]⟩
   ·rintro ⟨y, h1, h2⟩; exact List.mem_map.2 ⟨y, h1, by simpa using h2⟩
  rw [List.length_replicate, List.getElem?_map]
  by_cases hi : i < p.length
  ·have e : pl p (i : Int) = gt (marks p) (i : Int) := by
    have a : decide ((0 : Int) ≤ (i : Int)) = true := by simp
    have b : decide ((i : Int) < (p.length : Int)) = true := by simp; omega
    rw [pl, a, b]; rfl
   rw [e] at hmem
   rw [List.getElem?_range hi, Option.map_some, wayAt]
   cases hg : gt (marks p) (i : Int) with
   | true => rw [hg] at hmem; rw [if_pos ⟨hmem.2 rfl, hi⟩]; rfl
   | false => rw [hg] at hmem; rw [if_neg (fun h => by have := hmem.1 h.1; cases this), List.getElem?_replicate, if_pos hi]; rfl
  ·rw [if_neg (fun h => hi h.2), List.getElem?_eq_none (by simp; omega), List.getElem?_eq_none (by simp; omega)]; rfl
end Go.Proofs.YthpjmknpkdoadaaGreat
namespace Go.Proofs.YthpjmknpkdoadaaGreat
open Go Go.HW
set_option maxRecDepth 8000
set_option linter.unusedVariables false
def outs (w : S__2_int) : List Int := [w.e0, w.e1].filter (fun t => decide (0 ≤ t))
def stp (p : List Instr) : List (List Int) := (ways p).map outs
def edgesOf : List (List Int) → Int → List (Int × Int)
 | [], _ => []
 | a :: l, k => a.map (fun t => (k, t)) ++ edgesOf l (k + 1)
def mkE (e : Int × Int) : Edge := ⟨e.1, e.2⟩
def eds (p : List Instr) : List (Int × Int) := edgesOf (stp p) 0
theorem ways_length (p : List Instr) : (ways p).length = if okP p then p.length else 0 := by
 unfold ways; cases okP p <;> simp
theorem stp_length (p : List Instr) : (stp p).length = if okP p then p.length else 0 := by rw [stp, List.length_map, ways_length]
theorem l2_outs {n : Nat} (v : List S__2_int) (k : Int) (hn : 3 ≤ n) : fn59_l2 v k n [] 0 = some (outs (gt v k)) := by
 obtain ⟨m, rfl⟩ : ∃ m, n = m + 3 := ⟨n - 3, by omega⟩
 have w1 : IntKind.i64.wrap (0 + 1) = 1 := by decide
 have w2 : IntKind.i64.wrap (1 + 1) = 2 := by decide
 have g0 : gt ([(gt v k).e0, (gt v k).e1] : List Int) 0 = (gt v k).e0 := rfl
 have g1 : gt ([(gt v k).e0, (gt v k).e1] : List Int) 1 = (gt v k).e1 := rfl
 have i0 : inb 0 ([(gt v k).e0, (gt v k).e1] : List Int).length = true := rfl
 have i1 : inb 1 ([(gt v k).e0, (gt v k).e1] : List Int).length = true := rfl
 have l0 : decide ((0 : Int) < 2) = true := rfl
 have l1 : decide ((1 : Int) < 2) = true := rfl
 have l2 : decide ((2 : Int) < 2) = false := rfl
 rw [fn59_l2_s, l0, i0, g0, w1]
 simp only [cond_true]
 cases h0 : decide ((0 : Int) ≤ (gt v k).e0) with
 | true =>
  have c1 : decide ((([] : List Int).length + ([(gt v k).e0] : List Int).length) * 8 ≤ 140737488355328 ∧ ([] : List Int).length + ([(gt v k).e0] : List Int).length ≤ 9223372036854775807) = true := by simp
  rw [cond_true, c1, cond_true, fn59_l2_s, l1, i1, g1, w2]
  simp only [cond_true]
  cases h1 : decide ((0 : Int) ≤ (gt v k).e1) with
  | true =>
   have c2 : decide ((([] ++ [(gt v k).e0] : List Int).length + ([(gt v k).e1] : List Int).length) * 8 ≤ 140737488355328 ∧ ([] ++ [(gt v k).e0] : List Int).length + ([(gt v k).e1] : List Int).length ≤ 9223372036854775807) = true := by simp
   rw [cond_true, c2, cond_true, fn59_l2_s, l2]
   simp [outs]
   simp at h0 h1; simp [h0, h1]
  | false =>
   rw [cond_false, fn59_l2_s, l2]
   simp at h0 h1
   have : ¬ 0 ≤ (gt v k).e1 := by omega
   simp [outs, h0, this]
 | false =>
  rw [cond_false, fn59_l2_s, l1, i1, g1, w2]
  simp only [cond_true]
  simp at h0
  have n0 : ¬ 0 ≤ (gt v k).e0 := by omega
  cases h1 : decide ((0 : Int) ≤ (gt v k).e1) with
  | true =>
   have c2 : decide ((([] : List Int).length + ([(gt v k).e1] : List Int).length) * 8 ≤ 140737488355328 ∧ ([] : List Int).length + ([(gt v k).e1] : List Int).length ≤ 9223372036854775807) = true := by simp
   rw [cond_true, c2, cond_true, fn59_l2_s, l2]
   simp at h1
   simp [outs, n0, h1]
  | false =>
   rw [cond_false, fn59_l2_s, l2]
   simp at h1
   have : ¬ 0 ≤ (gt v k).e1 := by omega
   simp [outs, n0, this]
theorem drop_gt {α : Type} [Inhabited α] {v : List α} {k : Nat} (h : k < v.length) : v.drop k = gt v (k : Int) :: v.drop (k + 1) := by
 rw [List.drop_eq_getElem_cons h]; congr 1; simp [gt, h]
theorem l1_steps {F : Nat} (hF : 6000 ≤ F) (v : List S__2_int) (hv : v.length ≤ 5000) : ∀ (n : Nat) (acc : List (List Int)) (k : Nat), k ≤ v.length → acc.length = k → v.length - k < n →
  fn59_l1 F v n acc (k : Int) = some (acc ++ (v.drop k).map outs)
 | 0, acc, k, h1, h2, h3 => by omega
 | n + 1, acc, k, h1, h2, h3 => by
  rw [fn59_l1_s]
  by_cases hk : k < v.length
  ·have g1 : decide ((k : Int) < (v.length : Int)) = true := by simp; omega
   have g2 : inb (k : Int) v.length = true := inb_iff.2 ⟨by omega, by omega⟩
   have g3 : decide ((acc.length + 1) * 24 ≤ 140737488355328 ∧ acc.length + 1 ≤ 9223372036854775807) = true := by simp; omega
   have g4 : IntKind.i64.wrap ((k : Int) + 1) = ((k + 1 : Nat) : Int) := w64 (by omega)
   rw [g1, g2, l2_outs v (k : Int) (by omega)]
   simp only [cond_true, Option.bind_some, fn59_k2, g3, g4]
   rw [l1_steps hF v hv n (acc ++ [outs (gt v (k : Int))]) (k + 1) (by omega) (by simp; omega) (by omega), drop_gt hk]
   simp
  ·have g1 : decide ((k : Int) < (v.length : Int)) = false := by simp; omega
   rw [g1, List.drop_eq_nil_of_le (by omega)]; simp
theorem steps_prog {F : Nat} {p : List Instr} (hF : 6000 ≤ F) (hp : p.length ≤ 5000) (hw : WF p) : fn59 F p = some (stp p) := by
 have hl := ways_length p
 have hl' : (ways p).length ≤ 5000 := by rw [hl]; split <;> omega
 rw [fn59, ways_prog hF hp hw, Option.bind_some]
 have := l1_steps hF (ways p) hl' F [] 0 (by omega) rfl (by omega)
 rw [show ((0 : Nat) : Int) = 0 from rfl] at this
 rw [this]; rfl
def runX {σ α : Type} (step : σ → α → Option σ) (go : σ → Bool) : List α → σ → Option (σ ⊕ σ)
 | [], s => some (.inl s)
 | x :: xs, s => (step s x).bind fun u => bif go u then runX step go xs u else some (.inr u)
def both {σ : Type} : σ ⊕ σ → σ | .inl u => u | .inr u => u
theorem runL_runX {σ α : Type} (step : σ → α → Option σ) (go : σ → Bool) : ∀ (l : List α) (s : σ), runL step go l s = (runX step go l s).map both
 | [], s => rfl
 | x :: xs, s => by
  rw [runL, runX]
  cases step s x with
  | none => rfl
  | some u =>
   simp only [Option.bind_some]
   cases go u with
   | true => simp only [cond_true]; exact runL_runX step go xs u
   | false => rfl
theorem runX_append {σ α : Type} (step : σ → α → Option σ) (go : σ → Bool) : ∀ (l m : List α) (s : σ), runX step go (l ++ m) s = (runX step go l s).bind fun o => match o with | .inl u => runX step go m u | .inr u => some (.inr u)
 | [], m, s => rfl
 | x :: xs, m, s => by
  rw [List.cons_append, runX, runX]
  cases step s x with
  | none => rfl
  | some u =>
   simp only [Option.bind_some]
   cases go u with
   | true => simp only [cond_true]; exact runX_append step go xs m u
   | false => rfl
def lift2 {σ : Type} : σ ⊕ σ → σ ⊕ (σ ⊕ σ) | .inl u => .inl u | .inr u => .inr (.inr u)
theorem e_l2 {σ : Type} (step : σ → (Int × Int) → Option σ) (go : σ → Bool) (v : List (List Int)) (k : Int) (hv : (gt v k).length ≤ 5000) : ∀ (n : Nat) (s : σ) (x : Nat), x ≤ (gt v k).length → (gt v k).length - x < n →
  fn108_l2 step go v k n s (x : Int) = (runX step go (((gt v k).drop x).map fun t => (k, t)) s).map lift2
 | 0, s, x, h1, h2 => by omega
 | n + 1, s, x, h1, h2 => by
  rw [fn108_l2_s]
  by_cases hx : x < (gt v k).length
  ·have g1 : decide ((x : Int) < ((gt v k).length : Int)) = true := by simp; omega
   have g2 : inb (x : Int) (gt v k).length = true := inb_iff.2 ⟨by omega, by omega⟩
   have g4 : IntKind.i64.wrap ((x : Int) + 1) = ((x + 1 : Nat) : Int) := w64 (by omega)
   rw [g1, g2, drop_gt hx, List.map_cons, runX, g4]
   simp only [cond_true]
   cases step s (k, gt (gt v k) (x : Int)) with
   | none => rfl
   | some u =>
    simp only [Option.bind_some]
    cases go u with
    | true => simp only [Bool.not_true, cond_false, cond_true]; exact e_l2 step go v k hv n u (x + 1) (by omega) (by omega)
    | false => rfl
  ·have g1 : decide ((x : Int) < ((gt v k).length : Int)) = false := by simp; omega
   rw [g1, List.drop_eq_nil_of_le (by omega)]; rfl
theorem e_l1 {σ : Type} {F : Nat} (hF : 6000 ≤ F) (step : σ → (Int × Int) → Option σ) (go : σ → Bool) (v : List (List Int)) (hv : v.length ≤ 5000) (hi : ∀ a ∈ v, a.length ≤ 5000) : ∀ (n : Nat) (s : σ) (k : Nat), k ≤ v.length → v.length - k < n →
  fn108_l1 F step go v n s (k : Int) = runX step go (edgesOf (v.drop k) k) s
 | 0, s, k, h1, h2 => by omega
 | n + 1, s, k, h1, h2 => by
  rw [fn108_l1_s]
  by_cases hk : k < v.length
  ·have g1 : decide ((k : Int) < (v.length : Int)) = true := by simp; omega
   have g2 : inb (k : Int) v.length = true := inb_iff.2 ⟨by omega, by omega⟩
   have g4 : IntKind.i64.wrap ((k : Int) + 1) = ((k + 1 : Nat) : Int) := w64 (by omega)
   have hm : gt v (k : Int) ∈ v := by simp [gt, hk]
   have := e_l2 step go v (k : Int) (hi _ hm) F s 0 (by omega) (by have := hi _ hm; omega)
   rw [show ((0 : Nat) : Int) = 0 from rfl, List.drop_zero] at this
   rw [g1, g2, this, drop_gt hk, edgesOf, runX_append]
   simp only [cond_true]
   cases runX step go ((gt v (k : Int)).map fun t => ((k : Int), t)) s with
   | none => rfl
   | some o =>
    cases o with
    | inl u =>
     simp only [Option.map_some, Option.bind_some, lift2, fn108_k2, g4]
     exact e_l1 hF step go v hv hi n u (k + 1) (by omega) (by omega)
    | inr u => rfl
  ·have g1 : decide ((k : Int) < (v.length : Int)) = false := by simp; omega
   rw [g1, List.drop_eq_nil_of_le (by omega)]; rfl
theorem outs_len (w : S__2_int) : (outs w).length ≤ 2 := List.length_filter_le _ _
theorem stp_in {p : List Instr} : ∀ a ∈ stp p, a.length ≤ 2 := by
 intro a ha
 obtain ⟨w, _, rfl⟩ := List.mem_map.1 ha
 exact outs_len w
theorem edges_run {σ : Type} {F : Nat} {p : List Instr} (hF : 6000 ≤ F) (hp : p.length ≤ 5000) (hw : WF p) (step : σ → (Int × Int) → Option σ) (go : σ → Bool) (s : σ) :
  fn108 F step go p s = runL step go (eds p) s := by
 have hl : (stp p).length ≤ 5000 := by rw [stp_length]; split <;> omega
 rw [fn108, steps_prog hF hp hw, Option.bind_some, runL_runX]
 have := e_l1 hF step go (stp p) hl (fun a ha => by have := stp_in a ha; omega) F s 0 (by omega) (by omega)
 rw [show ((0 : Nat) : Int) = 0 from rfl, List.drop_zero] at this
 rw [this, eds]
 cases runX step go (edgesOf (stp p) 0) s with
 | none => rfl
 | some o => cases o <;> rfl
theorem edgesOf_len : ∀ (l : List (List Int)) (k : Int), (∀ a ∈ l, a.length ≤ 2) → (edgesOf l k).length ≤ 2 * l.length
 | [], _, _ => by simp [edgesOf]
 | a :: l, k, h => by
  have h1 := h a (by simp)
  have h2 := edgesOf_len l (k + 1) (fun b hb => h b (by simp [hb]))
  rw [edgesOf, List.length_append, List.length_map, List.length_cons]; omega
theorem eds_len {p : List Instr} : (eds p).length ≤ 2 * p.length := by
 have := edgesOf_len (stp p) 0 stp_in
 rw [stp_length] at this
 split at this
 ·exact this
 ·have h : (eds p).length ≤ 2 * 0 := this
  omega
theorem runR_go {σ α : Type} {stepB : σ → α → Option (σ × Nat)} {s s' : σ} {x : α} {l : List α} (h : stepB s x = some (s', 0)) : runL (stepR stepB) goR (x :: l) (s, 0) = runL (stepR stepB) goR l (s', 0) := by
 simp only [runL, stepR, show Nat.beq 0 0 = true from rfl, cond_true, h, Option.bind_some, goR]
end Go.Proofs.YthpjmknpkdoadaaGreat
namespace Go.Proofs.YthpjmknpkdoadaaGreat
open Go Go.HW
set_option maxRecDepth 8000
set_option linter.unusedVariables false
abbrev U := Unit
theorem mhas_put {κ α : Type} [DecidableEq κ] (k : κ) (v : α) (t : κ) : ∀ xs : List (κ × α), mhas (mput xs k v) t = (decide (k = t) || mhas xs t)
 | [] => by by_cases h : k = t <;> simp [mhas, mput, mfind, h]
 | p :: xs => by
  have ih := mhas_put k v t xs
  simp only [mhas] at ih ⊢
  by_cases hp : p.1 = k
  ·by_cases h : k = t
   ·simp [mput, mfind, hp, h]
   ·have : ¬ p.1 = t := by rw [hp]; exact h
    simp [mput, mfind, hp, h]
  ·by_cases h : p.1 = t
   ·have : ¬ k = t := by intro e; exact hp (h.trans e.symm)
    have h2 : ¬ t = k := fun e => this e.symm
    simp [mput, mfind, h, this, h2]
   ·simp only [mput, hp, decide_false, cond_false, mfind, h]
    exact ih
def cnt (f : Int → Bool) : Nat → Nat
 | 0 => 0
 | n + 1 => cnt f n + (bif f (n : Int) then 0 else 1)
theorem cnt_le (f : Int → Bool) : ∀ n, cnt f n ≤ n
 | 0 => Nat.le_refl _
 | n + 1 => by have := cnt_le f n; rw [cnt]; cases f (n : Int) <;> simp <;> omega
theorem cnt_mono {f g : Int → Bool} : ∀ n : Nat, (∀ i : Int, 0 ≤ i → i < (n : Int) → f i = true → g i = true) → cnt g n ≤ cnt f n
 | 0, _ => Nat.le_refl _
 | n + 1, h => by
  have ih := cnt_mono (f := f) (g := g) n (fun i h0 h1 hf => h i h0 (by omega) hf)
  have := h (n : Int) (by omega) (by omega)
  rw [cnt, cnt]
  cases hf : f (n : Int) with
  | false => cases g (n : Int) <;> simp <;> omega
  | true => rw [this hf]; simp; exact ih
theorem cnt_lt {f g : Int → Bool} : ∀ n : Nat, (∀ i : Int, 0 ≤ i → i < (n : Int) → f i = true → g i = true) → ∀ x : Int, 0 ≤ x → x < (n : Int) → f x = false → g x = true → cnt g n < cnt f n
 | 0, _, x, h0, h1, _, _ => by omega
 | n + 1, h, x, h0, h1, hf, hg => by
  rw [cnt, cnt]
  by_cases hx : x = (n : Int)
  ·subst hx
   have := cnt_mono (f := f) (g := g) n (fun i h0 h1 hf => h i h0 (by omega) hf)
   rw [hf, hg]; simp; omega
  ·have ih := cnt_lt n (fun i h0 h1 hf => h i h0 (by omega) hf) x h0 (by omega) hf hg
   have := h (n : Int) (by omega) (by omega)
   cases hf : f (n : Int) with
   | false => cases g (n : Int) <;> simp <;> omega
   | true => rw [this hf]; simp; exact ih
def Valid (G : List (List Int)) : Prop := ∀ a ∈ G, a.length ≤ 2 ∧ ∀ t ∈ a, 0 ≤ t ∧ t < (G.length : Int)
inductive Rch (G : List (List Int)) : Int → Prop
 | base : Rch G 0
 | step {i t : Int} : Rch G i → t ∈ gt G i → Rch G t
theorem gt_mem {α : Type} [Inhabited α] {v : List α} {k : Int} (h0 : 0 ≤ k) (h1 : k < (v.length : Int)) : gt v k ∈ v := by
 have : k.toNat < v.length := by omega
 simp [gt, this]
theorem Valid.at {G : List (List Int)} (h : Valid G) {i t : Int} (ht : t ∈ gt G i) : 0 ≤ t ∧ t < (G.length : Int) := by
 by_cases hi : i.toNat < G.length
 ·have : gt G i ∈ G := by simp [gt, hi]
  exact (h _ this).2 t ht
 ·have : gt G i = [] := by simp [gt, hi]; rfl
  rw [this] at ht; simp at ht
theorem Rch.lt {G : List (List Int)} (h : Valid G) (hp : 0 < G.length) {i : Int} (hr : Rch G i) : 0 ≤ i ∧ i < (G.length : Int) := by
 cases hr with
 | base => omega
 | step _ ht => exact h.at ht
theorem gt_set {α : Type} [Inhabited α] {v : List α} {i k : Int} {a : α} (h0 : 0 ≤ i) (h1 : i < (v.length : Int)) (k0 : 0 ≤ k) : gt (v.set i.toNat a) k = if i = k then a else gt v k := by
 have : i.toNat < v.length := by omega
 simp only [gt, List.getD_eq_getElem?_getD, List.getElem?_set]
 by_cases h : i = k
 ·subst h; simp [this]
 ·have : ¬ i.toNat = k.toNat := by omega
  simp [h, this]
theorem split_last {α : Type} [Inhabited α] {st : List α} (h : 0 < st.length) : ∃ r, st = r ++ [gt st ((st.length : Int) - 1)] ∧ cutX st ((0 : Nat) : Int).toNat ((st.length : Int) - 1).toNat = r := by
 refine ⟨st.take (st.length - 1), ?_, ?_⟩
 ·have e : gt st ((st.length : Int) - 1) = st[st.length - 1] := by
   have : ((st.length : Int) - 1).toNat = st.length - 1 := by omega
   simp only [gt, this]
   rw [List.getD_eq_getElem?_getD, List.getElem?_eq_getElem (by omega)]; rfl
  rw [e]
  conv => lhs; rw [← List.take_append_drop (st.length - 1) st]
  congr 1
  rw [List.drop_eq_getElem_cons (by omega), List.drop_eq_nil_of_le (by omega)]
 ·rw [cutX, show ((0 : Nat) : Int).toNat = 0 from rfl, List.drop_zero]; congr 1; omega
theorem pop_step {α σ : Type} [Inhabited α] {st : List α} (h : 0 < st.length) (hb : st.length ≤ 1000000) : decide ((0 : Int) < (st.length : Int)) = true ∧ IntKind.i64.wrap ((st.length : Int) - 1) = (st.length : Int) - 1 ∧
  inb ((st.length : Int) - 1) st.length = true ∧ sliceOk ((0 : Nat) : Int) ((st.length : Int) - 1) st.length = true :=
 ⟨by simp; omega, w64 (by omega), inb_iff.2 ⟨by omega, by omega⟩, sliceOk_iff.2 ⟨by omega, by omega, by omega⟩⟩
def IsR (G : List (List Int)) (R : List Bool) : Prop := R.length = G.length ∧ ∀ i : Int, 0 ≤ i → i < (G.length : Int) → (gt R i = true ↔ Rch G i)
end Go.Proofs.YthpjmknpkdoadaaGreat
namespace Go.Proofs.YthpjmknpkdoadaaGreat
open Go Go.HW
set_option maxRecDepth 8000
set_option linter.unusedVariables false
def Rnd (G : List (List Int)) : Prop := ∃ X : List Int, X ≠ [] ∧ ∀ x ∈ X, Rch G x ∧ ∃ t ∈ gt G x, t ∈ X
section
variable {κ α : Type} [DecidableEq κ]
theorem mhas_iff (xs : List (κ × α)) (k : κ) : mhas xs k = true ↔ ∃ q ∈ xs, q.1 = k := by
 induction xs with
 | nil => simp [mhas, mfind]
 | cons p xs ih =>
  by_cases h : p.1 = k
  ·constructor
   ·intro _; exact ⟨p, by simp, h⟩
   ·intro _; simp [mhas, mfind, h]
  ·have e : mhas (p :: xs) k = mhas xs k := by simp [mhas, mfind, h]
   rw [e, ih]
   constructor
   ·rintro ⟨q, h1, h2⟩; exact ⟨q, by simp [h1], h2⟩
   ·rintro ⟨q, h1, h2⟩
    rcases List.mem_cons.1 h1 with rfl | h1
    ·exact absurd h2 h
    ·exact ⟨q, h1, h2⟩
theorem mput_new : ∀ (xs : List (κ × α)) (k : κ) (v : α), mhas xs k = false → mput xs k v = xs ++ [(k, v)]
 | [], k, v, _ => rfl
 | p :: xs, k, v, h => by
  by_cases hp : p.1 = k
  ·simp [mhas, mfind, hp] at h
  ·have : mhas xs k = false := by simpa [mhas, mfind, hp] using h
   simp [mput, hp, mput_new xs k v this]
def KND (xs : List (κ × α)) : Prop := (xs.map (·.1)).Nodup
theorem KND.push {xs : List (κ × α)} {k : κ} {v : α} (h : KND xs) (hk : mhas xs k = false) : KND (mput xs k v) := by
 rw [mput_new xs k v hk, KND, List.map_append, List.nodup_append]
 refine ⟨h, by simp, fun a ha b hb => ?_⟩
 simp at hb; subst hb
 obtain ⟨q, h1, rfl⟩ := List.mem_map.1 ha
 intro e
 have := (mhas_iff xs b).2 ⟨q, h1, e⟩
 rw [hk] at this; cases this
theorem mdel_sub : ∀ (xs : List (κ × α)) (k : κ), (mdel xs k).Sublist xs
 | [], _ => List.Sublist.refl _
 | p :: xs, k => by
  by_cases h : p.1 = k
  ·simp [mdel, h]
  ·simp only [mdel, h, decide_false, cond_false]; exact (mdel_sub xs k).cons_cons p
theorem KND.del {xs : List (κ × α)} {k : κ} (h : KND xs) : KND (mdel xs k) := ((mdel_sub xs k).map _).nodup h
theorem mhas_del : ∀ (xs : List (κ × α)) (k t : κ), KND xs → mhas (mdel xs k) t = (!decide (k = t) && mhas xs t)
 | [], k, t, _ => by simp [mdel, mhas, mfind]
 | p :: xs, k, t, h => by
  have hn := List.nodup_cons.1 (show (p.1 :: xs.map (·.1)).Nodup from h)
  by_cases hp : p.1 = k
  ·have e : mdel (p :: xs) k = xs := by simp [mdel, hp]
   rw [e]
   by_cases ht : k = t
   ·subst ht
    have : mhas xs k = false := by
     cases hh : mhas xs k with
     | false => rfl
     | true => obtain ⟨q, h1, h2⟩ := (mhas_iff xs k).1 hh; exact absurd (List.mem_map.2 ⟨q, h1, h2.trans hp.symm⟩) hn.1
    simp [this]
   ·have : ¬ p.1 = t := by rw [hp]; exact ht
    have e2 : mhas (p :: xs) t = mhas xs t := by simp [mhas, mfind, this]
    rw [e2]; simp [ht]
  ·have e : mdel (p :: xs) k = p :: mdel xs k := by simp [mdel, hp]
   rw [e]
   have ih := mhas_del xs k t hn.2
   by_cases ht : p.1 = t
   ·have : ¬ k = t := fun e => hp (ht.trans e.symm)
    simp [mhas, mfind, ht, this]
   ·have e2 : mhas (p :: xs) t = mhas xs t := by simp [mhas, mfind, ht]
    have e3 : mhas (p :: mdel xs k) t = mhas (mdel xs k) t := by simp [mhas, mfind, ht]
    rw [e2, e3, ih]
end
def Nxt (G : List (List Int)) (path : List Int) (v : Int) : Prop := match path with | [] => v = 0 | m :: _ => v ∈ gt G m
def Stk (G : List (List Int)) : List Visit → List Int → Prop
 | [], path => path = []
 | e :: rs, path => if e.fleft = true then ∃ pt, path = e.fat :: pt ∧ Nxt G pt e.fat ∧ Stk G rs pt else Nxt G path e.fat ∧ Stk G rs path
theorem Stk.push {G : List (List Int)} {rs : List Visit} {path : List Int} (h : Stk G rs path) : ∀ l : List Visit, (∀ e ∈ l, e.fleft = false ∧ Nxt G path e.fat) → Stk G (l ++ rs) path
 | [], _ => h
 | e :: l, hl => by
  obtain ⟨h1, h2⟩ := hl e (by simp)
  rw [List.cons_append, Stk, if_neg (by rw [h1]; simp)]
  exact ⟨h2, Stk.push h l (fun x hx => hl x (by simp [hx]))⟩
theorem Stk.path {G : List (List Int)} : ∀ {rs : List Visit} {path : List Int}, Stk G rs path → (∀ v, v ∈ path ↔ (⟨v, true⟩ : Visit) ∈ rs) ∧ (∀ v ∈ path, Rch G v) ∧ (∀ e ∈ rs, Rch G e.fat)
 | [], path, h => by cases h; simp
 | e :: rs, path, h => by
  rw [Stk] at h
  have rn : ∀ {pt : List Int} {v : Int}, (∀ u ∈ pt, Rch G u) → Nxt G pt v → Rch G v := fun {pt v} hp hn => by
   cases pt with
   | nil => have : v = 0 := hn; subst this; exact .base
   | cons m r => exact (hp m (by simp)).step hn
  split at h
  ·rename_i hl
   obtain ⟨pt, rfl, hn, hs⟩ := h
   obtain ⟨p1, p2, p3⟩ := hs.path
   have he : e = ⟨e.fat, true⟩ := by cases e; simp at hl; subst hl; rfl
   have hr := rn p2 hn
   refine ⟨fun v => ?_, fun v hv => ?_, fun x hx => ?_⟩
   ·rw [List.mem_cons, List.mem_cons, p1 v]
    constructor
    ·rintro (rfl | h)
     ·exact .inl he.symm
     ·exact .inr h
    ·rintro (h | h)
     ·exact .inl (congrArg Visit.fat h)
     ·exact .inr h
   ·rcases List.mem_cons.1 hv with rfl | hv
    ·exact hr
    ·exact p2 v hv
   ·rcases List.mem_cons.1 hx with rfl | hx
    ·exact hr
    ·exact p3 x hx
  ·rename_i hl
   obtain ⟨hn, hs⟩ := h
   obtain ⟨p1, p2, p3⟩ := hs.path
   refine ⟨fun v => ?_, p2, fun x hx => ?_⟩
   ·rw [p1 v, List.mem_cons]
    constructor
    ·exact .inr
    ·rintro (h | h)
     ·exact absurd (by rw [← h]) hl
     ·exact h
   ·rcases List.mem_cons.1 hx with rfl | hx
    ·exact rn p2 hn
    ·exact p3 x hx
def Chn (G : List (List Int)) : List Int → Prop
 | [] => True
 | v :: pt => Nxt G pt v ∧ Chn G pt
theorem Stk.chn {G : List (List Int)} : ∀ {rs : List Visit} {path : List Int}, Stk G rs path → Chn G path
 | [], path, h => by cases h; trivial
 | e :: rs, path, h => by
  rw [Stk] at h
  split at h
  ·obtain ⟨pt, rfl, hn, hs⟩ := h; exact ⟨hn, hs.chn⟩
  ·exact h.2.chn
theorem Chn.round {G : List (List Int)} : ∀ {path : List Int} {v : Int}, Chn G path → v ∈ path → ∃ X r, path = X ++ r ∧ X ≠ [] ∧ v ∈ X ∧ ∀ x ∈ X, x = path.headD 0 ∨ ∃ t ∈ gt G x, t ∈ X
 | a :: pt, v, h, hv => by
  by_cases hav : v = a
  ·subst hav; exact ⟨[v], pt, rfl, by simp, by simp, fun x hx => .inl (by simpa using hx)⟩
  ·have hv' : v ∈ pt := by simpa [hav] using hv
   obtain ⟨X, r, e1, e2, e3, e4⟩ := Chn.round h.2 hv'
   refine ⟨a :: X, r, by rw [e1]; rfl, by simp, by simp [e3], fun x hx => ?_⟩
   rcases List.mem_cons.1 hx with rfl | hx
   ·exact .inl rfl
   ·rcases e4 x hx with h1 | ⟨t, h1, h2⟩
    ·refine .inr ⟨a, ?_, by simp⟩
     have hn := h.1
     cases pt with
     | nil => simp at hv'
     | cons m q => have : x = m := h1; subst this; exact hn
    ·exact .inr ⟨t, h1, by simp [h2]⟩
def Topo (G : List (List Int)) (D : List (Int × U)) : Prop := ∀ (n : Nat) (q : Int × U), D[n]? = some q → ∀ t ∈ gt G q.1, ∃ m r, m < n ∧ D[m]? = some r ∧ r.1 = t
def Cov (G : List (List Int)) (D : List (Int × U)) (rs : List Visit) : Prop := ∀ ab m be, rs = ab ++ (⟨m, true⟩ : Visit) :: be → ∀ t ∈ gt G m, mhas D t = true ∨ ∃ e ∈ ab, e.fat = t
structure LInv (G : List (List Int)) (Un D : List (Int × U)) (rs : List Visit) : Prop where
 stk : ∃ path, Stk G rs path
 un : ∀ v, mhas Un v = true ↔ (⟨v, true⟩ : Visit) ∈ rs
 knd : KND Un
 one : ((rs.filter (·.fleft)).map (·.fat)).Nodup
 grey : ∀ v, (⟨v, true⟩ : Visit) ∈ rs → mhas D v = false
 topo : Topo G D
 cov : Cov G D rs
 zero : mhas D 0 = true ∨ ∃ e ∈ rs, e.fat = 0
 size : D.length + cnt (mhas D) G.length ≤ G.length
theorem Topo.succ {G : List (List Int)} {D : List (Int × U)} (h : Topo G D) {i t : Int} (hi : mhas D i = true) (ht : t ∈ gt G i) : mhas D t = true := by
 obtain ⟨q, h1, rfl⟩ := (mhas_iff D i).1 hi
 obtain ⟨n, hn, e⟩ := List.mem_iff_getElem.1 h1
 obtain ⟨m, r, _, h3, h4⟩ := h n q (by rw [List.getElem?_eq_some_iff]; exact ⟨hn, e⟩) t ht
 exact (mhas_iff D t).2 ⟨r, List.mem_of_getElem? h3, h4⟩
theorem Topo.none {G : List (List Int)} {D : List (Int × U)} (h : Topo G D) (h0 : mhas D 0 = true) : ¬ Rnd G := by
 rintro ⟨X, hne, hX⟩
 have hall : ∀ i, Rch G i → mhas D i = true := fun i hi => by
  induction hi with
  | base => exact h0
  | step _ ht ih => exact h.succ ih ht
 have key : ∀ (n : Nat) (q : Int × U), D[n]? = some q → q.1 ∉ X := by
  intro n
  induction n using Nat.strongRecOn with
  | _ n ih =>
   intro q hq hx
   obtain ⟨_, t, ht, htX⟩ := hX _ hx
   obtain ⟨m, r, h1, h2, h3⟩ := h n q hq t ht
   exact ih m h1 r h2 (by rw [h3]; exact htX)
 cases X with
 | nil => exact hne rfl
 | cons x X =>
  obtain ⟨q, h1, h2⟩ := (mhas_iff D x).1 (hall x (hX x (by simp)).1)
  obtain ⟨n, hn, e⟩ := List.mem_iff_getElem.1 h1
  exact key n q (by rw [List.getElem?_eq_some_iff]; exact ⟨hn, e⟩) (by rw [h2]; simp)
theorem l2_push {G : List (List Int)} {v : Int} (hv : (gt G v).length ≤ 5000) : ∀ (n : Nat) (st : List Visit) (x : Nat) (b : Bool), x ≤ (gt G v).length → (gt G v).length - x < n → st.length + (gt G v).length ≤ 1000000 + x →
  fn25_l2 G ⟨v, b⟩ n st (x : Int) = some (st ++ ((gt G v).drop x).map fun t => (⟨t, false⟩ : Visit))
 | 0, st, x, b, h1, h2, h3 => by omega
 | n + 1, st, x, b, h1, h2, h3 => by
  rw [fn25_l2_s]
  by_cases hx : x < (gt G v).length
  ·have g1 : decide ((x : Int) < ((gt G v).length : Int)) = true := by simp; omega
   have g2 : inb (x : Int) (gt G v).length = true := inb_iff.2 ⟨by omega, by omega⟩
   have g3 : decide ((st.length + ([(⟨gt (gt G v) (x : Int), false⟩ : Visit)] : List Visit).length) * 16 ≤ 140737488355328 ∧ st.length + ([(⟨gt (gt G v) (x : Int), false⟩ : Visit)] : List Visit).length ≤ 9223372036854775807) = true := by simp; omega
   have g4 : IntKind.i64.wrap ((x : Int) + 1) = ((x + 1 : Nat) : Int) := w64 (by omega)
   simp only [g1, g2, cond_true, fn60, g3, Option.bind_some, g4]
   rw [l2_push hv n _ (x + 1) b (by omega) (by omega) (by simp; omega), drop_gt hx]
   simp
  ·have g1 : decide ((x : Int) < ((gt G v).length : Int)) = false := by simp; omega
   simp only [g1, cond_false]
   rw [List.drop_eq_nil_of_le (by omega)]; simp
end Go.Proofs.YthpjmknpkdoadaaGreat
