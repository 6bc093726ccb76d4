/- Part of the proof: the logic, the walks, and what they compute. -/
import Derived.Test.YthpjmknpkdoadaaGreatProg
import Derived.Test.YthpjmknpkdoadaaGreatTD
set_option linter.all false
namespace Go.Proofs.YthpjmknpkdoadaaGreat
open Go Go.HW
set_option linter.unusedVariables false
set_option maxRecDepth 4000
set_option maxHeartbeats 8000000
def fn75_l1 (p0 : PType) : Nat → Int → Int → Int → Int → Option ((Int × Int) ⊕ (Bool))
 | 0, _, _, _, _ => none
 | n27 + 1, x10, x11, x12, x13 => bif decide (x13 < (p0.fFields.length : Int)) then (bif inb x13 p0.fFields.length then (bif bif (((((((gt p0.fFields x13).fSize) != 1) && (((gt p0.fFields x13).fSize) != 2)) && (((gt p0.fFields x13).fSize) != 4)) && (((gt p0.fFields x13).fSize) != 8)) || (decide (((gt p0.fFields x13).fOff) < x10))) || (decide ((IntKind.i64.wrap (p0.fCtx - ((gt p0.fFields x13).fSize))) < ((gt p0.fFields x13).fOff))) then true else (((gt p0.fFields x13).fSize) != 0) then (bif ((((((((gt p0.fFields x13).fSize) != 1) && (((gt p0.fFields x13).fSize) != 2)) && (((gt p0.fFields x13).fSize) != 4)) && (((gt p0.fFields x13).fSize) != 8)) || (decide (((gt p0.fFields x13).fOff) < x10))) || (decide ((IntKind.i64.wrap (p0.fCtx - ((gt p0.fFields x13).fSize))) < ((gt p0.fFields x13).fOff)))) || ((((gt p0.fFields x13).fOff).tmod ((gt p0.fFields x13).fSize)) != 0) then (some (.inr false)) else (bif ((gt p0.fFields x13).fKind) == 1 then ((fn75_l1 p0 n27) (IntKind.i64.wrap (((gt p0.fFields x13).fOff) + ((gt p0.fFields x13).fSize))) x11 x12 (IntKind.i64.wrap (x13 + 1))) else (bif ((gt p0.fFields x13).fKind) == 2 then (bif (((gt p0.fFields x13).fSize) != 8) || ((gt p0.fFields x13).fWrite) then (some (.inr false)) else ((fn75_l1 p0 n27) (IntKind.i64.wrap (((gt p0.fFields x13).fOff) + ((gt p0.fFields x13).fSize))) (IntKind.i64.wrap (x11 + 1)) x12 (IntKind.i64.wrap (x13 + 1)))) else (bif ((gt p0.fFields x13).fKind) == 3 then (bif (((gt p0.fFields x13).fSize) != 8) || ((gt p0.fFields x13).fWrite) then (some (.inr false)) else ((fn75_l1 p0 n27) (IntKind.i64.wrap (((gt p0.fFields x13).fOff) + ((gt p0.fFields x13).fSize))) x11 (IntKind.i64.wrap (x12 + 1)) (IntKind.i64.wrap (x13 + 1)))) else (some (.inr false)))))) else none) else none) else (some (.inl (x11, x12)))
theorem fn75_l1_s (p0 : PType) (n27 : Nat) (x10 : Int) (x11 : Int) (x12 : Int) (x13 : Int) : fn75_l1 p0 (n27 + 1) x10 x11 x12 x13 = bif decide (x13 < (p0.fFields.length : Int)) then (bif inb x13 p0.fFields.length then (bif bif (((((((gt p0.fFields x13).fSize) != 1) && (((gt p0.fFields x13).fSize) != 2)) && (((gt p0.fFields x13).fSize) != 4)) && (((gt p0.fFields x13).fSize) != 8)) || (decide (((gt p0.fFields x13).fOff) < x10))) || (decide ((IntKind.i64.wrap (p0.fCtx - ((gt p0.fFields x13).fSize))) < ((gt p0.fFields x13).fOff))) then true else (((gt p0.fFields x13).fSize) != 0) then (bif ((((((((gt p0.fFields x13).fSize) != 1) && (((gt p0.fFields x13).fSize) != 2)) && (((gt p0.fFields x13).fSize) != 4)) && (((gt p0.fFields x13).fSize) != 8)) || (decide (((gt p0.fFields x13).fOff) < x10))) || (decide ((IntKind.i64.wrap (p0.fCtx - ((gt p0.fFields x13).fSize))) < ((gt p0.fFields x13).fOff)))) || ((((gt p0.fFields x13).fOff).tmod ((gt p0.fFields x13).fSize)) != 0) then (some (.inr false)) else (bif ((gt p0.fFields x13).fKind) == 1 then ((fn75_l1 p0 n27) (IntKind.i64.wrap (((gt p0.fFields x13).fOff) + ((gt p0.fFields x13).fSize))) x11 x12 (IntKind.i64.wrap (x13 + 1))) else (bif ((gt p0.fFields x13).fKind) == 2 then (bif (((gt p0.fFields x13).fSize) != 8) || ((gt p0.fFields x13).fWrite) then (some (.inr false)) else ((fn75_l1 p0 n27) (IntKind.i64.wrap (((gt p0.fFields x13).fOff) + ((gt p0.fFields x13).fSize))) (IntKind.i64.wrap (x11 + 1)) x12 (IntKind.i64.wrap (x13 + 1)))) else (bif ((gt p0.fFields x13).fKind) == 3 then (bif (((gt p0.fFields x13).fSize) != 8) || ((gt p0.fFields x13).fWrite) then (some (.inr false)) else ((fn75_l1 p0 n27) (IntKind.i64.wrap (((gt p0.fFields x13).fOff) + ((gt p0.fFields x13).fSize))) x11 (IntKind.i64.wrap (x12 + 1)) (IntKind.i64.wrap (x13 + 1)))) else (some (.inr false)))))) else none) else none) else (some (.inl (x11, x12))) := rfl
def fn75_k1 (x23 : Int) (x24 : Int) : Option (Bool) :=
 some ((x23 == x24) && (decide (x23 ≤ 1)))
def fn75 (F : Nat) (p0 : PType) : Option (Bool) :=
 Option.bind (fn75_l1 p0 F 0 0 0 0) fun o25 => (match o25 with | .inl u => fn75_k1 u.1 u.2 | .inr u => some u)
def fn76 (p0 : Int) : Bool :=
 (fn74 p0 1 1073741824)
def fn77 (p0 : Int) (p1 : Int) : Bool :=
 (fn74 p0 0 65535) && (fn74 p1 0 65535)
def fn29_l1 (p0 : PType) : Nat → Int → Option ((Unit) ⊕ (Int))
 | 0, _ => none
 | n19 + 1, x12 => bif decide (x12 < (p0.fNeeds.length : Int)) then (bif inb x12 p0.fNeeds.length then (bif bif !(fn76 ((gt p0.fNeeds x12).fHelper)) then true else (bif decide ((0 : Int) < x12) then (inb (IntKind.i64.wrap (x12 - 1)) p0.fNeeds.length) else true) then (bif ((!(fn76 ((gt p0.fNeeds x12).fHelper))) || ((decide ((0 : Int) < x12)) && (decide (((gt p0.fNeeds x12).fHelper) ≤ ((gt p0.fNeeds (IntKind.i64.wrap (x12 - 1))).fHelper))))) || (!(fn77 ((gt p0.fNeeds x12).fMajor) ((gt p0.fNeeds x12).fMinor))) then (some (.inr 34)) else ((fn29_l1 p0 n19) (IntKind.i64.wrap (x12 + 1)))) else none) else none) else (some (.inl ()))
theorem fn29_l1_s (p0 : PType) (n19 : Nat) (x12 : Int) : fn29_l1 p0 (n19 + 1) x12 = bif decide (x12 < (p0.fNeeds.length : Int)) then (bif inb x12 p0.fNeeds.length then (bif bif !(fn76 ((gt p0.fNeeds x12).fHelper)) then true else (bif decide ((0 : Int) < x12) then (inb (IntKind.i64.wrap (x12 - 1)) p0.fNeeds.length) else true) then (bif ((!(fn76 ((gt p0.fNeeds x12).fHelper))) || ((decide ((0 : Int) < x12)) && (decide (((gt p0.fNeeds x12).fHelper) ≤ ((gt p0.fNeeds (IntKind.i64.wrap (x12 - 1))).fHelper))))) || (!(fn77 ((gt p0.fNeeds x12).fMajor) ((gt p0.fNeeds x12).fMinor))) then (some (.inr 34)) else ((fn29_l1 p0 n19) (IntKind.i64.wrap (x12 + 1)))) else none) else none) else (some (.inl ())) := rfl
def fn29_k1 (p0 : PType) : Option (Int) :=
 bif decide (p0.fHi < p0.fLo) then (some 36) else (some 0)
def fn29 (F : Nat) (p0 : PType) : Option (Int) :=
 Option.bind (fn73 F p0.fName) fun v1 => (bif !v1 then (some 2) else (bif ((!(fn74 p0.fCtx 8 256)) || (decide ((32 : Int) < (p0.fFields.length : Int)))) || (decide ((64 : Int) < (p0.fNeeds.length : Int))) then (some 3) else (Option.bind (fn75 F p0) fun v5 => (bif !v5 then (some 22) else (Option.bind (fn29_l1 p0 F 0) fun o17 => (match o17 with | .inl u => fn29_k1 p0 | .inr u => some u))))))
def fn121 (p0 : List Instr) (p1 : Int) : Option (Int × Int) :=
 bif inb p1 p0.length then (bif (fn116 (gt p0 p1)) then (bif (fn120 (gt p0 p1) p1).2 then (bif (((fn71 (gt p0 p1)) == 5) && (((fn72 (gt p0 p1)) == 144) || ((fn72 (gt p0 p1)) == 0))) || (((fn71 (gt p0 p1)) == 6) && ((fn72 (gt p0 p1)) == 0)) then (some ((-1), (fn120 (gt p0 p1) p1).1)) else (some (IntKind.i64.wrap (p1 + 2), (fn120 (gt p0 p1) p1).1))) else (bif (((fn71 (gt p0 p1)) == 5) && (((fn72 (gt p0 p1)) == 144) || ((fn72 (gt p0 p1)) == 0))) || (((fn71 (gt p0 p1)) == 6) && ((fn72 (gt p0 p1)) == 0)) then (some ((-1), (-1))) else (some (IntKind.i64.wrap (p1 + 2), (-1))))) else (bif (fn120 (gt p0 p1) p1).2 then (bif (((fn71 (gt p0 p1)) == 5) && (((fn72 (gt p0 p1)) == 144) || ((fn72 (gt p0 p1)) == 0))) || (((fn71 (gt p0 p1)) == 6) && ((fn72 (gt p0 p1)) == 0)) then (some ((-1), (fn120 (gt p0 p1) p1).1)) else (some (IntKind.i64.wrap (p1 + 1), (fn120 (gt p0 p1) p1).1))) else (bif (((fn71 (gt p0 p1)) == 5) && (((fn72 (gt p0 p1)) == 144) || ((fn72 (gt p0 p1)) == 0))) || (((fn71 (gt p0 p1)) == 6) && ((fn72 (gt p0 p1)) == 0)) then (some ((-1), (-1))) else (some (IntKind.i64.wrap (p1 + 1), (-1)))))) else none
def fn78_l1 (p0 : List Instr) (v4 : (List Bool)) : Nat → (List Edge) → Int → Option ((List Edge))
 | 0, _, _ => none
 | n33 + 1, xs17, x18 => bif decide (x18 < (p0.length : Int)) then (bif inb x18 v4.length then (bif !(gt v4 x18) then ((fn78_l1 p0 v4 n33) xs17 (IntKind.i64.wrap (x18 + 1))) else (Option.bind (fn121 p0 x18) fun v40 => (bif decide ((0 : Int) ≤ v40.1) then (bif decide ((xs17.length + ([(⟨x18, v40.1⟩ : Edge)] : List Edge).length) * 16 ≤ 140737488355328 ∧ xs17.length + ([(⟨x18, v40.1⟩ : Edge)] : List Edge).length ≤ 9223372036854775807) then (bif decide ((0 : Int) ≤ v40.2) then (bif decide (((xs17 ++ ([(⟨x18, v40.1⟩ : Edge)] : List Edge)).length + ([(⟨x18, v40.2⟩ : Edge)] : List Edge).length) * 16 ≤ 140737488355328 ∧ (xs17 ++ ([(⟨x18, v40.1⟩ : Edge)] : List Edge)).length + ([(⟨x18, v40.2⟩ : Edge)] : List Edge).length ≤ 9223372036854775807) then ((fn78_l1 p0 v4 n33) ((xs17 ++ ([(⟨x18, v40.1⟩ : Edge)] : List Edge)) ++ ([(⟨x18, v40.2⟩ : Edge)] : List Edge)) (IntKind.i64.wrap (x18 + 1))) else none) else ((fn78_l1 p0 v4 n33) (xs17 ++ ([(⟨x18, v40.1⟩ : Edge)] : List Edge)) (IntKind.i64.wrap (x18 + 1)))) else none) else (bif decide ((0 : Int) ≤ v40.2) then (bif decide ((xs17.length + ([(⟨x18, v40.2⟩ : Edge)] : List Edge).length) * 16 ≤ 140737488355328 ∧ xs17.length + ([(⟨x18, v40.2⟩ : Edge)] : List Edge).length ≤ 9223372036854775807) then ((fn78_l1 p0 v4 n33) (xs17 ++ ([(⟨x18, v40.2⟩ : Edge)] : List Edge)) (IntKind.i64.wrap (x18 + 1))) else none) else ((fn78_l1 p0 v4 n33) xs17 (IntKind.i64.wrap (x18 + 1))))))) else none) else (some xs17)
theorem fn78_l1_s (p0 : List Instr) (v4 : (List Bool)) (n33 : Nat) (xs17 : List Edge) (x18 : Int) : fn78_l1 p0 v4 (n33 + 1) xs17 x18 = bif decide (x18 < (p0.length : Int)) then (bif inb x18 v4.length then (bif !(gt v4 x18) then ((fn78_l1 p0 v4 n33) xs17 (IntKind.i64.wrap (x18 + 1))) else (Option.bind (fn121 p0 x18) fun v40 => (bif decide ((0 : Int) ≤ v40.1) then (bif decide ((xs17.length + ([(⟨x18, v40.1⟩ : Edge)] : List Edge).length) * 16 ≤ 140737488355328 ∧ xs17.length + ([(⟨x18, v40.1⟩ : Edge)] : List Edge).length ≤ 9223372036854775807) then (bif decide ((0 : Int) ≤ v40.2) then (bif decide (((xs17 ++ ([(⟨x18, v40.1⟩ : Edge)] : List Edge)).length + ([(⟨x18, v40.2⟩ : Edge)] : List Edge).length) * 16 ≤ 140737488355328 ∧ (xs17 ++ ([(⟨x18, v40.1⟩ : Edge)] : List Edge)).length + ([(⟨x18, v40.2⟩ : Edge)] : List Edge).length ≤ 9223372036854775807) then ((fn78_l1 p0 v4 n33) ((xs17 ++ ([(⟨x18, v40.1⟩ : Edge)] : List Edge)) ++ ([(⟨x18, v40.2⟩ : Edge)] : List Edge)) (IntKind.i64.wrap (x18 + 1))) else none) else ((fn78_l1 p0 v4 n33) (xs17 ++ ([(⟨x18, v40.1⟩ : Edge)] : List Edge)) (IntKind.i64.wrap (x18 + 1)))) else none) else (bif decide ((0 : Int) ≤ v40.2) then (bif decide ((xs17.length + ([(⟨x18, v40.2⟩ : Edge)] : List Edge).length) * 16 ≤ 140737488355328 ∧ xs17.length + ([(⟨x18, v40.2⟩ : Edge)] : List Edge).length ≤ 9223372036854775807) then ((fn78_l1 p0 v4 n33) (xs17 ++ ([(⟨x18, v40.2⟩ : Edge)] : List Edge)) (IntKind.i64.wrap (x18 + 1))) else none) else ((fn78_l1 p0 v4 n33) xs17 (IntKind.i64.wrap (x18 + 1))))))) else none) else (some xs17) := rfl
def fn78_k1 (xs30 : List Edge) : Option (((List Edge))) :=
 some xs30
def fn78 (F : Nat) (p0 : List Instr) : Option ((List Edge)) :=
 Option.bind (fn28 F p0) fun v1 => (bif v1.2 != 0 then (some ([] : List Edge)) else (Option.bind (fn69 F p0) fun v4 => (Option.bind (fn78_l1 p0 v4 F ([] : List Edge) 0) fun o31 => (fn78_k1 o31))))
def fn79_l3 (p0 : List Edge) (p2 : List Bool) : Nat → (List Bool) → Bool → Int → Option ((List Bool) × Bool)
 | 0, _, _, _ => none
 | n132 + 1, xs116, x117, x118 => bif decide (x118 < (p0.length : Int)) then (bif inb x118 p0.length then (bif inb ((gt p0 x118).fFrom) p2.length then (bif bif gt p2 ((gt p0 x118).fFrom) then true else (inb x118 p0.length) then (bif bif gt p2 ((gt p0 x118).fFrom) then true else (inb ((gt p0 x118).fFrom) xs116.length) then (bif bif (gt p2 ((gt p0 x118).fFrom)) || (gt xs116 ((gt p0 x118).fFrom)) then (inb x118 p0.length) else true then (bif bif (gt p2 ((gt p0 x118).fFrom)) || (gt xs116 ((gt p0 x118).fFrom)) then (inb ((gt p0 x118).fTo) xs116.length) else true then (bif ((gt p2 ((gt p0 x118).fFrom)) || (gt xs116 ((gt p0 x118).fFrom))) && (!(gt xs116 ((gt p0 x118).fTo))) then (bif inb ((gt p0 x118).fTo) xs116.length then ((fn79_l3 p0 p2 n132) (xs116.set ((gt p0 x118).fTo).toNat true) true (IntKind.i64.wrap (x118 + 1))) else none) else ((fn79_l3 p0 p2 n132) xs116 x117 (IntKind.i64.wrap (x118 + 1)))) else none) else none) else none) else none) else none) else none) else (some (xs116, x117))
theorem fn79_l3_s (p0 : List Edge) (p2 : List Bool) (n132 : Nat) (xs116 : List Bool) (x117 : Bool) (x118 : Int) : fn79_l3 p0 p2 (n132 + 1) xs116 x117 x118 = bif decide (x118 < (p0.length : Int)) then (bif inb x118 p0.length then (bif inb ((gt p0 x118).fFrom) p2.length then (bif bif gt p2 ((gt p0 x118).fFrom) then true else (inb x118 p0.length) then (bif bif gt p2 ((gt p0 x118).fFrom) then true else (inb ((gt p0 x118).fFrom) xs116.length) then (bif bif (gt p2 ((gt p0 x118).fFrom)) || (gt xs116 ((gt p0 x118).fFrom)) then (inb x118 p0.length) else true then (bif bif (gt p2 ((gt p0 x118).fFrom)) || (gt xs116 ((gt p0 x118).fFrom)) then (inb ((gt p0 x118).fTo) xs116.length) else true then (bif ((gt p2 ((gt p0 x118).fFrom)) || (gt xs116 ((gt p0 x118).fFrom))) && (!(gt xs116 ((gt p0 x118).fTo))) then (bif inb ((gt p0 x118).fTo) xs116.length then ((fn79_l3 p0 p2 n132) (xs116.set ((gt p0 x118).fTo).toNat true) true (IntKind.i64.wrap (x118 + 1))) else none) else ((fn79_l3 p0 p2 n132) xs116 x117 (IntKind.i64.wrap (x118 + 1)))) else none) else none) else none) else none) else none) else none) else (some (xs116, x117)) := rfl
def fn79_k3 (rl2 : (List Bool) → Bool → Option ((List Bool))) (xs128 : List Bool) (x129 : Bool) : Option ((List Bool)) :=
 rl2 xs128 x129
def fn79_l2 (F : Nat) (p0 : List Edge) (p2 : List Bool) : Nat → (List Bool) → Bool → Option ((List Bool))
 | 0, _, _ => none
 | n102 + 1, xs58, x59 => bif x59 then (Option.bind (fn79_l3 p0 p2 F xs58 false 0) fun o130 => (fn79_k3 (fn79_l2 F p0 p2 n102) o130.1 o130.2)) else (some xs58)
theorem fn79_l2_s (F : Nat) (p0 : List Edge) (p2 : List Bool) (n102 : Nat) (xs58 : List Bool) (x59 : Bool) : fn79_l2 F p0 p2 (n102 + 1) xs58 x59 = bif x59 then (Option.bind (fn79_l3 p0 p2 F xs58 false 0) fun o130 => (fn79_k3 (fn79_l2 F p0 p2 n102) o130.1 o130.2)) else (some xs58) := rfl
def fn79_k2 (xs99 : List Bool) : Option (((List Bool))) :=
 some xs99
def fn79_l1 (p1 : Int) (p2 : List Bool) (p3 : Bool) : Nat → (List Bool) → Int → Option ((List Bool))
 | 0, _, _ => none
 | n13 + 1, xs5, x6 => bif decide (x6 < p1) then (bif bif p3 then (inb x6 p2.length) else true then (bif inb x6 xs5.length then ((fn79_l1 p1 p2 p3 n13) (xs5.set x6.toNat (p3 && (gt p2 x6))) (IntKind.i64.wrap (x6 + 1))) else none) else none) else (some xs5)
theorem fn79_l1_s (p1 : Int) (p2 : List Bool) (p3 : Bool) (n13 : Nat) (xs5 : List Bool) (x6 : Int) : fn79_l1 p1 p2 p3 (n13 + 1) xs5 x6 = bif decide (x6 < p1) then (bif bif p3 then (inb x6 p2.length) else true then (bif inb x6 xs5.length then ((fn79_l1 p1 p2 p3 n13) (xs5.set x6.toNat (p3 && (gt p2 x6))) (IntKind.i64.wrap (x6 + 1))) else none) else none) else (some xs5) := rfl
def fn79_k1 (F : Nat) (p0 : List Edge) (p2 : List Bool) (xs10 : List Bool) : Option (((List Bool))) :=
 Option.bind (fn79_l2 F p0 p2 F xs10 true) fun o100 => (fn79_k2 o100)
def fn79 (F : Nat) (p0 : List Edge) (p1 : Int) (p2 : List Bool) (p3 : Bool) : Option ((List Bool)) :=
 bif decide ((0 : Int) ≤ p1) && decide (p1 ≤ p1) && decide ((1 : Int) * p1 ≤ 281474976710656) && decide (p1 ≤ 9223372036854775807) then (Option.bind (fn79_l1 p1 p2 p3 F (List.replicate p1.toNat false) 0) fun o11 => (fn79_k1 F p0 p2 o11)) else none
def fn31 (F : Nat) (p0 : List Instr) : Option ((List Bool)) :=
 Option.bind (fn28 F p0) fun v1 => (bif v1.2 != 0 then (some ([] : List Bool)) else (bif decide ((0 : Int) ≤ (p0.length : Int)) && decide ((p0.length : Int) ≤ (p0.length : Int)) && decide ((1 : Int) * (p0.length : Int) ≤ 281474976710656) && decide ((p0.length : Int) ≤ 9223372036854775807) then (bif inb 0 ((p0.length : Int).toNat) then (Option.bind (fn78 F p0) fun v6 => (Option.bind (fn79 F v6 (p0.length : Int) ((List.replicate (p0.length : Int).toNat false).set (0 : Int).toNat true) true) fun v8 => (some v8))) else none) else none))
def fn30_l3 (v3 : (List Edge)) (xs220 : List Bool) (x222 : Int) : Nat → Bool → Int → Option (Bool)
 | 0, _, _ => none
 | n273 + 1, x264, x265 => bif decide (x265 < (v3.length : Int)) then (bif bif x264 then true else (inb x265 v3.length) then (bif bif x264 then true else (bif ((gt v3 x265).fFrom) == x222 then (inb x265 v3.length) else true) then (bif bif x264 then true else (bif ((gt v3 x265).fFrom) == x222 then (inb ((gt v3 x265).fTo) xs220.length) else true) then ((fn30_l3 v3 xs220 x222 n273) (x264 || ((((gt v3 x265).fFrom) == x222) && (gt xs220 ((gt v3 x265).fTo)))) (IntKind.i64.wrap (x265 + 1))) else none) else none) else none) else (some x264)
theorem fn30_l3_s (v3 : (List Edge)) (xs220 : List Bool) (x222 : Int) (n273 : Nat) (x264 : Bool) (x265 : Int) : fn30_l3 v3 xs220 x222 (n273 + 1) x264 x265 = bif decide (x265 < (v3.length : Int)) then (bif bif x264 then true else (inb x265 v3.length) then (bif bif x264 then true else (bif ((gt v3 x265).fFrom) == x222 then (inb x265 v3.length) else true) then (bif bif x264 then true else (bif ((gt v3 x265).fFrom) == x222 then (inb ((gt v3 x265).fTo) xs220.length) else true) then ((fn30_l3 v3 xs220 x222 n273) (x264 || ((((gt v3 x265).fFrom) == x222) && (gt xs220 ((gt v3 x265).fTo)))) (IntKind.i64.wrap (x265 + 1))) else none) else none) else none) else (some x264) := rfl
def fn30_k3 (xs220 : List Bool) (x221 : Bool) (x222 : Int) (rl2 : (List Bool) → Bool → Int → Option ((List Bool) × Bool)) (x270 : Bool) : Option ((List Bool) × Bool) :=
 bif !x270 then (bif inb x222 xs220.length then (rl2 (xs220.set x222.toNat false) true (IntKind.i64.wrap (x222 + 1))) else none) else (rl2 xs220 x221 (IntKind.i64.wrap (x222 + 1)))
def fn30_l2 (F : Nat) (v3 : (List Edge)) : Nat → (List Bool) → Bool → Int → Option ((List Bool) × Bool)
 | 0, _, _, _ => none
 | n253 + 1, xs220, x221, x222 => bif decide (x222 < (xs220.length : Int)) then (bif inb x222 xs220.length then (bif !(gt xs220 x222) then ((fn30_l2 F v3 n253) xs220 x221 (IntKind.i64.wrap (x222 + 1))) else (Option.bind (fn30_l3 v3 xs220 x222 F false 0) fun o271 => (fn30_k3 xs220 x221 x222 (fn30_l2 F v3 n253) o271))) else none) else (some (xs220, x221))
theorem fn30_l2_s (F : Nat) (v3 : (List Edge)) (n253 : Nat) (xs220 : List Bool) (x221 : Bool) (x222 : Int) : fn30_l2 F v3 (n253 + 1) xs220 x221 x222 = bif decide (x222 < (xs220.length : Int)) then (bif inb x222 xs220.length then (bif !(gt xs220 x222) then ((fn30_l2 F v3 n253) xs220 x221 (IntKind.i64.wrap (x222 + 1))) else (Option.bind (fn30_l3 v3 xs220 x222 F false 0) fun o271 => (fn30_k3 xs220 x221 x222 (fn30_l2 F v3 n253) o271))) else none) else (some (xs220, x221)) := rfl
def fn30_k2 (rl1 : (List Bool) → Bool → Option ((List Bool))) (xs249 : List Bool) (x250 : Bool) : Option ((List Bool)) :=
 rl1 xs249 x250
def fn30_l4 (xs186 : List Bool) : Nat → Int → Option ((Unit) ⊕ (Bool))
 | 0, _ => none
 | n292 + 1, x286 => bif decide (x286 < (xs186.length : Int)) then (bif inb x286 xs186.length then (bif gt xs186 x286 then (some (.inr true)) else ((fn30_l4 xs186 n292) (IntKind.i64.wrap (x286 + 1)))) else none) else (some (.inl ()))
theorem fn30_l4_s (xs186 : List Bool) (n292 : Nat) (x286 : Int) : fn30_l4 xs186 (n292 + 1) x286 = bif decide (x286 < (xs186.length : Int)) then (bif inb x286 xs186.length then (bif gt xs186 x286 then (some (.inr true)) else ((fn30_l4 xs186 n292) (IntKind.i64.wrap (x286 + 1)))) else none) else (some (.inl ())) := rfl
def fn30_k4 : Option (Bool) :=
 some false
def fn30_l1 (F : Nat) (v3 : (List Edge)) : Nat → (List Bool) → Bool → Option ((List Bool))
 | 0, _, _ => none
 | n189 + 1, xs94, x95 => bif x95 then (Option.bind (fn30_l2 F v3 F xs94 false 0) fun o251 => (fn30_k2 (fn30_l1 F v3 n189) o251.1 o251.2)) else (some xs94)
theorem fn30_l1_s (F : Nat) (v3 : (List Edge)) (n189 : Nat) (xs94 : List Bool) (x95 : Bool) : fn30_l1 F v3 (n189 + 1) xs94 x95 = bif x95 then (Option.bind (fn30_l2 F v3 F xs94 false 0) fun o251 => (fn30_k2 (fn30_l1 F v3 n189) o251.1 o251.2)) else (some xs94) := rfl
def fn30_k1 (F : Nat) (xs186 : List Bool) : Option (Bool) :=
 Option.bind (fn30_l4 xs186 F 0) fun o290 => (match o290 with | .inl u => fn30_k4 | .inr u => some u)
def fn30 (F : Nat) (p0 : List Instr) : Option (Bool) :=
 Option.bind (fn31 F p0) fun v1 => (Option.bind (fn78 F p0) fun v3 => (Option.bind (fn30_l1 F v3 F v1 true) fun o187 => (fn30_k1 F o187)))
def fn122_l2 (xs21 : List Bool) : Nat → (List Int) → Int → Option ((List Int))
 | 0, _, _ => none
 | n47 + 1, xs38, x39 => bif decide (x39 < (xs21.length : Int)) then (bif inb x39 xs21.length then (bif gt xs21 x39 then (bif decide ((xs38.length + ([x39] : List Int).length) * 8 ≤ 140737488355328 ∧ xs38.length + ([x39] : List Int).length ≤ 9223372036854775807) then ((fn122_l2 xs21 n47) (xs38 ++ ([x39] : List Int)) (IntKind.i64.wrap (x39 + 1))) else none) else ((fn122_l2 xs21 n47) xs38 (IntKind.i64.wrap (x39 + 1)))) else none) else (some xs38)
theorem fn122_l2_s (xs21 : List Bool) (n47 : Nat) (xs38 : List Int) (x39 : Int) : fn122_l2 xs21 (n47 + 1) xs38 x39 = bif decide (x39 < (xs21.length : Int)) then (bif inb x39 xs21.length then (bif gt xs21 x39 then (bif decide ((xs38.length + ([x39] : List Int).length) * 8 ≤ 140737488355328 ∧ xs38.length + ([x39] : List Int).length ≤ 9223372036854775807) then ((fn122_l2 xs21 n47) (xs38 ++ ([x39] : List Int)) (IntKind.i64.wrap (x39 + 1))) else none) else ((fn122_l2 xs21 n47) xs38 (IntKind.i64.wrap (x39 + 1)))) else none) else (some xs38) := rfl
def fn122_k2 (xs44 : List Int) : Option (((List Int))) :=
 some xs44
def fn122_l1 (p0 : List Instr) (v5 : (List Bool)) : Nat → (List Bool) → Int → Option ((List Bool))
 | 0, _, _ => none
 | n24 + 1, xs13, x14 => bif decide (x14 < (p0.length : Int)) then (bif inb x14 v5.length then (bif !(gt v5 x14) then ((fn122_l1 p0 v5 n24) xs13 (IntKind.i64.wrap (x14 + 1))) else (bif inb x14 p0.length then (bif (fn120 (gt p0 x14) x14).2 then (bif inb ((fn120 (gt p0 x14) x14).1) xs13.length then ((fn122_l1 p0 v5 n24) (xs13.set ((fn120 (gt p0 x14) x14).1).toNat true) (IntKind.i64.wrap (x14 + 1))) else none) else ((fn122_l1 p0 v5 n24) xs13 (IntKind.i64.wrap (x14 + 1)))) else none)) else none) else (some xs13)
theorem fn122_l1_s (p0 : List Instr) (v5 : (List Bool)) (n24 : Nat) (xs13 : List Bool) (x14 : Int) : fn122_l1 p0 v5 (n24 + 1) xs13 x14 = bif decide (x14 < (p0.length : Int)) then (bif inb x14 v5.length then (bif !(gt v5 x14) then ((fn122_l1 p0 v5 n24) xs13 (IntKind.i64.wrap (x14 + 1))) else (bif inb x14 p0.length then (bif (fn120 (gt p0 x14) x14).2 then (bif inb ((fn120 (gt p0 x14) x14).1) xs13.length then ((fn122_l1 p0 v5 n24) (xs13.set ((fn120 (gt p0 x14) x14).1).toNat true) (IntKind.i64.wrap (x14 + 1))) else none) else ((fn122_l1 p0 v5 n24) xs13 (IntKind.i64.wrap (x14 + 1)))) else none)) else none) else (some xs13) := rfl
def fn122_k1 (F : Nat) (xs21 : List Bool) : Option (((List Int))) :=
 Option.bind (fn122_l2 xs21 F ([] : List Int) 0) fun o45 => (fn122_k2 o45)
def fn122 (F : Nat) (p0 : List Instr) : Option ((List Int)) :=
 Option.bind (fn28 F p0) fun v1 => (bif v1.2 != 0 then (some ([] : List Int)) else (bif decide ((0 : Int) ≤ (p0.length : Int)) && decide ((p0.length : Int) ≤ (p0.length : Int)) && decide ((1 : Int) * (p0.length : Int) ≤ 281474976710656) && decide ((p0.length : Int) ≤ 9223372036854775807) then (Option.bind (fn69 F p0) fun v5 => (Option.bind (fn122_l1 p0 v5 F (List.replicate (p0.length : Int).toNat false) 0) fun o22 => (fn122_k1 F o22))) else none))
def fn85 (p0 : RSet) (p1 : Instr) : Option (Bool) :=
 bif bif !(fn124 p1) then true else (inb p1.fSrc 11) then (some ((!(fn124 p1)) || (gt p0.fnumber.l p1.fSrc))) else none
def fn81_l1 (p2 : Int) (v5 : (List Int)) : Nat → Int → Option ((Unit) ⊕ (Bool))
 | 0, _ => none
 | n16 + 1, x10 => bif decide (x10 < (v5.length : Int)) then (bif inb x10 v5.length then (bif (gt v5 x10) == p2 then (some (.inr false)) else ((fn81_l1 p2 v5 n16) (IntKind.i64.wrap (x10 + 1)))) else none) else (some (.inl ()))
theorem fn81_l1_s (p2 : Int) (v5 : (List Int)) (n16 : Nat) (x10 : Int) : fn81_l1 p2 v5 (n16 + 1) x10 = bif decide (x10 < (v5.length : Int)) then (bif inb x10 v5.length then (bif (gt v5 x10) == p2 then (some (.inr false)) else ((fn81_l1 p2 v5 n16) (IntKind.i64.wrap (x10 + 1)))) else none) else (some (.inl ())) := rfl
def fn81_k1 (p1 : List Instr) (p2 : Int) (p3 : PType) : Option (Bool) :=
 bif p2 == 0 then (some false) else (bif inb (IntKind.i64.wrap (p2 - 1)) p1.length then (some ((((((gt p1 (IntKind.i64.wrap (p2 - 1))).fOp) == 183) && (((gt p1 (IntKind.i64.wrap (p2 - 1))).fDst) == 0)) && (decide (p3.fLo ≤ (IntKind.i64.wrap ((gt p1 (IntKind.i64.wrap (p2 - 1))).fImm))))) && (decide ((IntKind.i64.wrap ((gt p1 (IntKind.i64.wrap (p2 - 1))).fImm)) ≤ p3.fHi)))) else none)
def fn81 (F : Nat) (p0 : RSet) (p1 : List Instr) (p2 : Int) (p3 : PType) : Option (Bool) :=
 bif inb p2 p1.length then (bif (fn72 (gt p1 p2)) == 0 then (some true) else (bif (fn72 (gt p1 p2)) == 128 then (some false) else (bif (fn72 (gt p1 p2)) == 144 then (Option.bind (fn122 F p1) fun v5 => (Option.bind (fn81_l1 p2 v5 F 0) fun o14 => (match o14 with | .inl u => fn81_k1 p1 p2 p3 | .inr u => some u))) else (bif inb ((gt p1 p2).fDst) 11 then (Option.bind (bif bif gt p0.fnumber.l ((gt p1 p2).fDst) then true else false then fn85 p0 (gt p1 p2) else some false) fun v26 => (some ((gt p0.fnumber.l ((gt p1 p2).fDst)) && v26))) else none)))) else none
def fn83 (p0 : Instr) : Int :=
 bif (iand .u8 p0.fOp 24) == 0 then 4 else (bif (iand .u8 p0.fOp 24) == 8 then 2 else (bif (iand .u8 p0.fOp 24) == 16 then 1 else 8))
def fn82 (p0 : Instr) : Int × Bool :=
 (IntKind.i64.wrap ((512 : Int) + (IntKind.i64.wrap p0.fOff)), (decide ((-512 : Int) ≤ (IntKind.i64.wrap p0.fOff))) && (decide ((IntKind.i64.wrap ((IntKind.i64.wrap p0.fOff) + (fn83 p0))) ≤ 0)))
def fn123_l1 (p0 : PType) (p1 : Int) (p2 : Int) : Nat → Int → Option ((Unit) ⊕ ((Fld × Bool)))
 | 0, _ => none
 | n12 + 1, x5 => bif decide (x5 < (p0.fFields.length : Int)) then (bif inb x5 p0.fFields.length then (bif bif ((gt p0.fFields x5).fOff) == p1 then (inb x5 p0.fFields.length) else true then (bif (((gt p0.fFields x5).fOff) == p1) && (((gt p0.fFields x5).fSize) == p2) then (some (.inr ((gt p0.fFields x5), true))) else ((fn123_l1 p0 p1 p2 n12) (IntKind.i64.wrap (x5 + 1)))) else none) else none) else (some (.inl ()))
theorem fn123_l1_s (p0 : PType) (p1 : Int) (p2 : Int) (n12 : Nat) (x5 : Int) : fn123_l1 p0 p1 p2 (n12 + 1) x5 = bif decide (x5 < (p0.fFields.length : Int)) then (bif inb x5 p0.fFields.length then (bif bif ((gt p0.fFields x5).fOff) == p1 then (inb x5 p0.fFields.length) else true then (bif (((gt p0.fFields x5).fOff) == p1) && (((gt p0.fFields x5).fSize) == p2) then (some (.inr ((gt p0.fFields x5), true))) else ((fn123_l1 p0 p1 p2 n12) (IntKind.i64.wrap (x5 + 1)))) else none) else none) else (some (.inl ())) := rfl
def fn123_k1 : Option ((Fld × Bool)) :=
 some ((⟨0, 0, 0, false⟩ : Fld), false)
def fn123 (F : Nat) (p0 : PType) (p1 : Int) (p2 : Int) : Option (Fld × Bool) :=
 Option.bind (fn123_l1 p0 p1 p2 F 0) fun o10 => (match o10 with | .inl u => fn123_k1 | .inr u => some u)
def fn84_l1 (p0 : RSet) (p2 : Instr) : Nat → Bool → Int → Option (Bool)
 | 0, _, _ => none
 | n11 + 1, x4, x5 => bif (decide (x5 < (fn83 p2))) && x4 then (bif inb (IntKind.i64.wrap (((fn82 p2).1) + x5)) 512 then ((fn84_l1 p0 p2 n11) (gt p0.fbytes.l (IntKind.i64.wrap (((fn82 p2).1) + x5))) (IntKind.i64.wrap (x5 + 1))) else none) else (some x4)
theorem fn84_l1_s (p0 : RSet) (p2 : Instr) (n11 : Nat) (x4 : Bool) (x5 : Int) : fn84_l1 p0 p2 (n11 + 1) x4 x5 = bif (decide (x5 < (fn83 p2))) && x4 then (bif inb (IntKind.i64.wrap (((fn82 p2).1) + x5)) 512 then ((fn84_l1 p0 p2 n11) (gt p0.fbytes.l (IntKind.i64.wrap (((fn82 p2).1) + x5))) (IntKind.i64.wrap (x5 + 1))) else none) else (some x4) := rfl
def fn84_k1 (x8 : Bool) : Option (Bool) :=
 some x8
def fn84 (F : Nat) (p0 : RSet) (p1 : PType) (p2 : Instr) : Option (Bool) :=
 bif p2.fSrc == 10 then (Option.bind (fn84_l1 p0 p2 F ((fn82 p2).2) 0) fun o9 => (fn84_k1 o9)) else (Option.bind (fn123 F p1 (IntKind.i64.wrap p2.fOff) (fn83 p2)) fun v17 => (some ((((p2.fSrc == 1) && p0.fctx) && v17.2) && (v17.1.fKind == 1))))
def fn33_l1 (p1 : List Instr) (p2 : Int) : Nat → (Ar Bool 512) → Int → Option ((Ar Bool 512))
 | 0, _, _ => none
 | n20 + 1, x13, x14 => bif decide (x14 < (fn83 (gt p1 p2))) then (bif inb (IntKind.i64.wrap (((fn82 (gt p1 p2)).1) + x14)) 512 then ((fn33_l1 p1 p2 n20) (x13.set (IntKind.i64.wrap (((fn82 (gt p1 p2)).1) + x14)) true) (IntKind.i64.wrap (x14 + 1))) else none) else (some x13)
theorem fn33_l1_s (p1 : List Instr) (p2 : Int) (n20 : Nat) (x13 : Ar Bool 512) (x14 : Int) : fn33_l1 p1 p2 (n20 + 1) x13 x14 = bif decide (x14 < (fn83 (gt p1 p2))) then (bif inb (IntKind.i64.wrap (((fn82 (gt p1 p2)).1) + x14)) 512 then ((fn33_l1 p1 p2 n20) (x13.set (IntKind.i64.wrap (((fn82 (gt p1 p2)).1) + x14)) true) (IntKind.i64.wrap (x14 + 1))) else none) else (some x13) := rfl
def fn33_k1 (p0 : RSet) (x17 : Ar Bool 512) : Option ((RSet × Bool)) :=
 some ((⟨p0.fnumber, p0.fctx, x17⟩ : RSet), true)
def fn33_l2 (p1 : List Instr) (p2 : Int) : Nat → (Ar Bool 512) → Int → Option ((Ar Bool 512))
 | 0, _, _ => none
 | n38 + 1, x31, x32 => bif decide (x32 < (fn83 (gt p1 p2))) then (bif inb (IntKind.i64.wrap (((fn82 (gt p1 p2)).1) + x32)) 512 then ((fn33_l2 p1 p2 n38) (x31.set (IntKind.i64.wrap (((fn82 (gt p1 p2)).1) + x32)) true) (IntKind.i64.wrap (x32 + 1))) else none) else (some x31)
theorem fn33_l2_s (p1 : List Instr) (p2 : Int) (n38 : Nat) (x31 : Ar Bool 512) (x32 : Int) : fn33_l2 p1 p2 (n38 + 1) x31 x32 = bif decide (x32 < (fn83 (gt p1 p2))) then (bif inb (IntKind.i64.wrap (((fn82 (gt p1 p2)).1) + x32)) 512 then ((fn33_l2 p1 p2 n38) (x31.set (IntKind.i64.wrap (((fn82 (gt p1 p2)).1) + x32)) true) (IntKind.i64.wrap (x32 + 1))) else none) else (some x31) := rfl
def fn33_k2 (p0 : RSet) (x35 : Ar Bool 512) : Option ((RSet × Bool)) :=
 some ((⟨p0.fnumber, p0.fctx, x35⟩ : RSet), true)
def fn33 (F : Nat) (p0 : RSet) (p1 : List Instr) (p2 : Int) (p3 : PType) : Option (RSet × Bool) :=
 bif inb p2 p1.length then (bif (fn71 (gt p1 p2)) == 5 then (Option.bind (fn81 F p0 p1 p2 p3) fun v3 => (some (p0, v3))) else (bif (fn71 (gt p1 p2)) == 6 then (Option.bind (fn81 F p0 p1 p2 p3) fun v6 => (some (p0, v6))) else (bif (fn71 (gt p1 p2)) == 2 then (bif bif (((gt p1 p2).fDst) != 10) || (!((fn82 (gt p1 p2)).2)) then true else (bif (fn71 (gt p1 p2)) == 3 then (inb ((gt p1 p2).fSrc) 11) else true) then (bif ((((gt p1 p2).fDst) != 10) || (!((fn82 (gt p1 p2)).2))) || (((fn71 (gt p1 p2)) == 3) && (!(gt p0.fnumber.l ((gt p1 p2).fSrc)))) then (some (p0, false)) else (Option.bind (fn33_l1 p1 p2 F p0.fbytes 0) fun o18 => (fn33_k1 p0 o18))) else none) else (bif (fn71 (gt p1 p2)) == 3 then (bif bif (((gt p1 p2).fDst) != 10) || (!((fn82 (gt p1 p2)).2)) then true else (bif (fn71 (gt p1 p2)) == 3 then (inb ((gt p1 p2).fSrc) 11) else true) then (bif ((((gt p1 p2).fDst) != 10) || (!((fn82 (gt p1 p2)).2))) || (((fn71 (gt p1 p2)) == 3) && (!(gt p0.fnumber.l ((gt p1 p2).fSrc)))) then (some (p0, false)) else (Option.bind (fn33_l2 p1 p2 F p0.fbytes 0) fun o36 => (fn33_k2 p0 o36))) else none) else (bif (fn71 (gt p1 p2)) == 0 then (bif inb ((gt p1 p2).fDst) 11 then (some ((⟨p0.fnumber.set ((gt p1 p2).fDst) true, p0.fctx && (((gt p1 p2).fDst) != 1), p0.fbytes⟩ : RSet), ((gt p1 p2).fSrc) == 0)) else none) else (bif (fn71 (gt p1 p2)) == 1 then (Option.bind (fn84 F p0 p3 (gt p1 p2)) fun v47 => (bif inb ((gt p1 p2).fDst) 11 then (some ((⟨p0.fnumber.set ((gt p1 p2).fDst) true, p0.fctx && (((gt p1 p2).fDst) != 1), p0.fbytes⟩ : RSet), v47)) else none)) else (bif (fn72 (gt p1 p2)) == 176 then (Option.bind (fn85 p0 (gt p1 p2)) fun v51 => (bif inb ((gt p1 p2).fDst) 11 then (some ((⟨p0.fnumber.set ((gt p1 p2).fDst) true, p0.fctx && (((gt p1 p2).fDst) != 1), p0.fbytes⟩ : RSet), v51)) else none)) else (bif (fn72 (gt p1 p2)) == 128 then (bif inb ((gt p1 p2).fDst) 11 then (some ((⟨p0.fnumber.set ((gt p1 p2).fDst) true, p0.fctx && (((gt p1 p2).fDst) != 1), p0.fbytes⟩ : RSet), gt p0.fnumber.l ((gt p1 p2).fDst))) else none) else (bif (fn72 (gt p1 p2)) == 208 then (bif inb ((gt p1 p2).fDst) 11 then (some ((⟨p0.fnumber.set ((gt p1 p2).fDst) true, p0.fctx && (((gt p1 p2).fDst) != 1), p0.fbytes⟩ : RSet), gt p0.fnumber.l ((gt p1 p2).fDst))) else none) else (bif inb ((gt p1 p2).fDst) 11 then (Option.bind (bif bif gt p0.fnumber.l ((gt p1 p2).fDst) then true else false then fn85 p0 (gt p1 p2) else some false) fun v59 => (some ((⟨p0.fnumber.set ((gt p1 p2).fDst) true, p0.fctx && (((gt p1 p2).fDst) != 1), p0.fbytes⟩ : RSet), (gt p0.fnumber.l ((gt p1 p2).fDst)) && v59))) else none)))))))))) else none
def fn80_l2 (p1 : RSet) : Nat → (Ar Bool 512) → Int → Option ((Ar Bool 512))
 | 0, _, _ => none
 | n30 + 1, x22, x23 => bif decide (x23 < 512) then (bif inb x23 512 then (bif bif gt x22.l x23 then (inb x23 512) else true then ((fn80_l2 p1 n30) (x22.set x23 ((gt x22.l x23) && (gt p1.fbytes.l x23))) (IntKind.i64.wrap (x23 + 1))) else none) else none) else (some x22)
theorem fn80_l2_s (p1 : RSet) (n30 : Nat) (x22 : Ar Bool 512) (x23 : Int) : fn80_l2 p1 (n30 + 1) x22 x23 = bif decide (x23 < 512) then (bif inb x23 512 then (bif bif gt x22.l x23 then (inb x23 512) else true then ((fn80_l2 p1 n30) (x22.set x23 ((gt x22.l x23) && (gt p1.fbytes.l x23))) (IntKind.i64.wrap (x23 + 1))) else none) else none) else (some x22) := rfl
def fn80_k2 (p0 : RSet) (p1 : RSet) (x9 : Ar Bool 11) (x27 : Ar Bool 512) : Option (RSet) :=
 some (⟨x9, p0.fctx && p1.fctx, x27⟩ : RSet)
def fn80_l1 (p1 : RSet) : Nat → (Ar Bool 11) → Int → Option ((Ar Bool 11))
 | 0, _, _ => none
 | n12 + 1, x4, x5 => bif decide (x5 < 11) then (bif inb x5 11 then (bif bif gt x4.l x5 then (inb x5 11) else true then ((fn80_l1 p1 n12) (x4.set x5 ((gt x4.l x5) && (gt p1.fnumber.l x5))) (IntKind.i64.wrap (x5 + 1))) else none) else none) else (some x4)
theorem fn80_l1_s (p1 : RSet) (n12 : Nat) (x4 : Ar Bool 11) (x5 : Int) : fn80_l1 p1 (n12 + 1) x4 x5 = bif decide (x5 < 11) then (bif inb x5 11 then (bif bif gt x4.l x5 then (inb x5 11) else true then ((fn80_l1 p1 n12) (x4.set x5 ((gt x4.l x5) && (gt p1.fnumber.l x5))) (IntKind.i64.wrap (x5 + 1))) else none) else none) else (some x4) := rfl
def fn80_k1 (F : Nat) (p0 : RSet) (p1 : RSet) (x9 : Ar Bool 11) : Option (RSet) :=
 Option.bind (fn80_l2 p1 F p0.fbytes 0) fun o28 => (fn80_k2 p0 p1 x9 o28)
def fn80 (F : Nat) (p0 : RSet) (p1 : RSet) : Option (RSet) :=
 Option.bind (fn80_l1 p1 F p0.fnumber 0) fun o10 => (fn80_k1 F p0 p1 o10)
def fn32_l2 (F : Nat) (p0 : List Instr) (p1 : PType) (v4 : (List Edge)) : Nat → (List RSet) → (List Bool) → Bool → Int → Option ((List RSet) × (List Bool) × Bool)
 | 0, _, _, _, _ => none
 | n225 + 1, xs194, xs195, x196, x197 => bif decide (x197 < (v4.length : Int)) then (bif inb x197 v4.length then (bif inb ((gt v4 x197).fFrom) xs195.length then (bif !(gt xs195 ((gt v4 x197).fFrom)) then ((fn32_l2 F p0 p1 v4 n225) xs194 xs195 x196 (IntKind.i64.wrap (x197 + 1))) else (bif inb ((gt v4 x197).fFrom) xs194.length then (Option.bind (fn33 F (gt xs194 ((gt v4 x197).fFrom)) p0 ((gt v4 x197).fFrom) p1) fun v234 => (bif inb ((gt v4 x197).fTo) xs195.length then (bif gt xs195 ((gt v4 x197).fTo) then (bif inb ((gt v4 x197).fTo) xs194.length then (Option.bind (fn80 F v234.1 (gt xs194 ((gt v4 x197).fTo))) fun v239 => (bif !(gt xs195 ((gt v4 x197).fTo)) then ((fn32_l2 F p0 p1 v4 n225) (xs194.set ((gt v4 x197).fTo).toNat v239) (xs195.set ((gt v4 x197).fTo).toNat true) true (IntKind.i64.wrap (x197 + 1))) else (bif !((eqL v239.fnumber.l ((gt xs194 ((gt v4 x197).fTo)).fnumber).l) && ((v239.fctx == ((gt xs194 ((gt v4 x197).fTo)).fctx)) && ((eqL v239.fbytes.l ((gt xs194 ((gt v4 x197).fTo)).fbytes).l) && true))) then ((fn32_l2 F p0 p1 v4 n225) (xs194.set ((gt v4 x197).fTo).toNat v239) (xs195.set ((gt v4 x197).fTo).toNat true) true (IntKind.i64.wrap (x197 + 1))) else ((fn32_l2 F p0 p1 v4 n225) xs194 xs195 x196 (IntKind.i64.wrap (x197 + 1)))))) else none) else (bif !(gt xs195 ((gt v4 x197).fTo)) then (bif inb ((gt v4 x197).fTo) xs194.length then ((fn32_l2 F p0 p1 v4 n225) (xs194.set ((gt v4 x197).fTo).toNat v234.1) (xs195.set ((gt v4 x197).fTo).toNat true) true (IntKind.i64.wrap (x197 + 1))) else none) else (bif inb ((gt v4 x197).fTo) xs194.length then (bif !((eqL v234.1.fnumber.l ((gt xs194 ((gt v4 x197).fTo)).fnumber).l) && ((v234.1.fctx == ((gt xs194 ((gt v4 x197).fTo)).fctx)) && ((eqL v234.1.fbytes.l ((gt xs194 ((gt v4 x197).fTo)).fbytes).l) && true))) then ((fn32_l2 F p0 p1 v4 n225) (xs194.set ((gt v4 x197).fTo).toNat v234.1) (xs195.set ((gt v4 x197).fTo).toNat true) true (IntKind.i64.wrap (x197 + 1))) else ((fn32_l2 F p0 p1 v4 n225) xs194 xs195 x196 (IntKind.i64.wrap (x197 + 1)))) else none))) else none)) else none)) else none) else none) else (some (xs194, xs195, x196))
theorem fn32_l2_s (F : Nat) (p0 : List Instr) (p1 : PType) (v4 : (List Edge)) (n225 : Nat) (xs194 : List RSet) (xs195 : List Bool) (x196 : Bool) (x197 : Int) : fn32_l2 F p0 p1 v4 (n225 + 1) xs194 xs195 x196 x197 = bif decide (x197 < (v4.length : Int)) then (bif inb x197 v4.length then (bif inb ((gt v4 x197).fFrom) xs195.length then (bif !(gt xs195 ((gt v4 x197).fFrom)) then ((fn32_l2 F p0 p1 v4 n225) xs194 xs195 x196 (IntKind.i64.wrap (x197 + 1))) else (bif inb ((gt v4 x197).fFrom) xs194.length then (Option.bind (fn33 F (gt xs194 ((gt v4 x197).fFrom)) p0 ((gt v4 x197).fFrom) p1) fun v234 => (bif inb ((gt v4 x197).fTo) xs195.length then (bif gt xs195 ((gt v4 x197).fTo) then (bif inb ((gt v4 x197).fTo) xs194.length then (Option.bind (fn80 F v234.1 (gt xs194 ((gt v4 x197).fTo))) fun v239 => (bif !(gt xs195 ((gt v4 x197).fTo)) then ((fn32_l2 F p0 p1 v4 n225) (xs194.set ((gt v4 x197).fTo).toNat v239) (xs195.set ((gt v4 x197).fTo).toNat true) true (IntKind.i64.wrap (x197 + 1))) else (bif !((eqL v239.fnumber.l ((gt xs194 ((gt v4 x197).fTo)).fnumber).l) && ((v239.fctx == ((gt xs194 ((gt v4 x197).fTo)).fctx)) && ((eqL v239.fbytes.l ((gt xs194 ((gt v4 x197).fTo)).fbytes).l) && true))) then ((fn32_l2 F p0 p1 v4 n225) (xs194.set ((gt v4 x197).fTo).toNat v239) (xs195.set ((gt v4 x197).fTo).toNat true) true (IntKind.i64.wrap (x197 + 1))) else ((fn32_l2 F p0 p1 v4 n225) xs194 xs195 x196 (IntKind.i64.wrap (x197 + 1)))))) else none) else (bif !(gt xs195 ((gt v4 x197).fTo)) then (bif inb ((gt v4 x197).fTo) xs194.length then ((fn32_l2 F p0 p1 v4 n225) (xs194.set ((gt v4 x197).fTo).toNat v234.1) (xs195.set ((gt v4 x197).fTo).toNat true) true (IntKind.i64.wrap (x197 + 1))) else none) else (bif inb ((gt v4 x197).fTo) xs194.length then (bif !((eqL v234.1.fnumber.l ((gt xs194 ((gt v4 x197).fTo)).fnumber).l) && ((v234.1.fctx == ((gt xs194 ((gt v4 x197).fTo)).fctx)) && ((eqL v234.1.fbytes.l ((gt xs194 ((gt v4 x197).fTo)).fbytes).l) && true))) then ((fn32_l2 F p0 p1 v4 n225) (xs194.set ((gt v4 x197).fTo).toNat v234.1) (xs195.set ((gt v4 x197).fTo).toNat true) true (IntKind.i64.wrap (x197 + 1))) else ((fn32_l2 F p0 p1 v4 n225) xs194 xs195 x196 (IntKind.i64.wrap (x197 + 1)))) else none))) else none)) else none)) else none) else none) else (some (xs194, xs195, x196)) := rfl
def fn32_k2 (rl1 : (List RSet) → (List Bool) → Bool → Option ((List RSet))) (xs220 : List RSet) (xs221 : List Bool) (x222 : Bool) : Option ((List RSet)) :=
 rl1 xs220 xs221 x222
def fn32_l1 (F : Nat) (p0 : List Instr) (p1 : PType) (v4 : (List Edge)) : Nat → (List RSet) → (List Bool) → Bool → Option ((List RSet))
 | 0, _, _, _ => none
 | n167 + 1, xs81, xs82, x83 => bif x83 then (Option.bind (fn32_l2 F p0 p1 v4 F xs81 xs82 false 0) fun o223 => (fn32_k2 (fn32_l1 F p0 p1 v4 n167) o223.1 o223.2.1 o223.2.2)) else (some xs81)
theorem fn32_l1_s (F : Nat) (p0 : List Instr) (p1 : PType) (v4 : (List Edge)) (n167 : Nat) (xs81 : List RSet) (xs82 : List Bool) (x83 : Bool) : fn32_l1 F p0 p1 v4 (n167 + 1) xs81 xs82 x83 = bif x83 then (Option.bind (fn32_l2 F p0 p1 v4 F xs81 xs82 false 0) fun o223 => (fn32_k2 (fn32_l1 F p0 p1 v4 n167) o223.1 o223.2.1 o223.2.2)) else (some xs81) := rfl
def fn32_k1 (xs164 : List RSet) : Option (((List RSet))) :=
 some xs164
def fn32 (F : Nat) (p0 : List Instr) (p1 : PType) : Option ((List RSet)) :=
 bif decide ((0 : Int) ≤ (p0.length : Int)) && decide ((p0.length : Int) ≤ (p0.length : Int)) && decide ((524 : Int) * (p0.length : Int) ≤ 281474976710656) && decide ((p0.length : Int) ≤ 9223372036854775807) then (bif decide ((0 : Int) ≤ (p0.length : Int)) && decide ((p0.length : Int) ≤ (p0.length : Int)) && decide ((1 : Int) * (p0.length : Int) ≤ 281474976710656) && decide ((p0.length : Int) ≤ 9223372036854775807) then (bif inb 0 ((p0.length : Int).toNat) then (Option.bind (fn78 F p0) fun v4 => (Option.bind (fn32_l1 F p0 p1 v4 F ((List.replicate (p0.length : Int).toNat (⟨(Ar.rep 11 false), false, (Ar.rep 512 false)⟩ : RSet)).set (0 : Int).toNat (⟨(gt (List.replicate (p0.length : Int).toNat (⟨(Ar.rep 11 false), false, (Ar.rep 512 false)⟩ : RSet)) 0).fnumber, true, (gt (List.replicate (p0.length : Int).toNat (⟨(Ar.rep 11 false), false, (Ar.rep 512 false)⟩ : RSet)) 0).fbytes⟩ : RSet)) ((List.replicate (p0.length : Int).toNat false).set (0 : Int).toNat true) true) fun o165 => (fn32_k1 o165))) else none) else none) else none
def fn12_l1 (F : Nat) (p0 : List Instr) (p1 : PType) (v8 : (List Bool)) (v10 : (List RSet)) : Nat → Int → Option ((Unit) ⊕ (Bool))
 | 0, _ => none
 | n29 + 1, x19 => bif decide (x19 < (p0.length : Int)) then (bif inb x19 v8.length then (bif !(gt v8 x19) then ((fn12_l1 F p0 p1 v8 v10 n29) (IntKind.i64.wrap (x19 + 1))) else (bif inb x19 v10.length then (Option.bind (fn33 F (gt v10 x19) p0 x19 p1) fun v37 => (bif !v37.2 then (some (.inr false)) else ((fn12_l1 F p0 p1 v8 v10 n29) (IntKind.i64.wrap (x19 + 1))))) else none)) else none) else (some (.inl ()))
theorem fn12_l1_s (F : Nat) (p0 : List Instr) (p1 : PType) (v8 : (List Bool)) (v10 : (List RSet)) (n29 : Nat) (x19 : Int) : fn12_l1 F p0 p1 v8 v10 (n29 + 1) x19 = bif decide (x19 < (p0.length : Int)) then (bif inb x19 v8.length then (bif !(gt v8 x19) then ((fn12_l1 F p0 p1 v8 v10 n29) (IntKind.i64.wrap (x19 + 1))) else (bif inb x19 v10.length then (Option.bind (fn33 F (gt v10 x19) p0 x19 p1) fun v37 => (bif !v37.2 then (some (.inr false)) else ((fn12_l1 F p0 p1 v8 v10 n29) (IntKind.i64.wrap (x19 + 1))))) else none)) else none) else (some (.inl ())) := rfl
def fn12_k1 : Option (Bool) :=
 some true
def fn12 (F : Nat) (p0 : List Instr) (p1 : PType) : Option (Bool) :=
 Option.bind (fn28 F p0) fun v1 => (Option.bind (bif bif v1.2 != 0 then false else true then fn29 F p1 else some 0) fun v3 => (Option.bind (bif bif ((v1.2 != 0) || (v3 != 0)) || (decide ((64 : Int) < (p0.length : Int))) then false else true then fn30 F p0 else some false) fun v5 => (bif (((v1.2 != 0) || (v3 != 0)) || (decide ((64 : Int) < (p0.length : Int)))) || v5 then (some false) else (Option.bind (fn31 F p0) fun v8 => (Option.bind (fn32 F p0 p1) fun v10 => (Option.bind (fn12_l1 F p0 p1 v8 v10 F 0) fun o27 => (match o27 with | .inl u => fn12_k1 | .inr u => some u)))))))
def fn37 (p0 : List Fld) : Option ((List Fld)) :=
 bif decide ((([] : List Fld).length + p0.length) * 24 ≤ 140737488355328 ∧ ([] : List Fld).length + p0.length ≤ 9223372036854775807) then (some (([] : List Fld) ++ p0)) else none
theorem c37 (p0 : List Fld) (r : (List Fld)) (h : fn37 p0 = some r) : Con Tryz.prog 37 [.sl 0] [(0, .rd Fld.E p0)] 1 (.sl 1) [(1, .row Fld.E 51 r r.length .unk)] 2 := by
 rw [fn37] at h
 refine Con.of_body Tryz.func37 rfl Tryz.ntmps37 rfl fun w F0 ρ => ?_
 refine U_ tbOk 4 [] aN ?_
 refine G4.imp (Imp.nil Fld.E 51 4 (by rfl)) ?_
 obtain ⟨hk1, h⟩ := ck h
 refine U_ tbOk 2 [.ap Fld.E .unk _ _] (aR (aR (aC hk1 (aC rfl aN)))) ?_
 obtain rfl := sj h
 exact T_ tbOk.t Tryz.results37 [0, 2]
def fn38 (p0 : List Need) : Option ((List Need)) :=
 bif decide ((([] : List Need).length + p0.length) * 24 ≤ 140737488355328 ∧ ([] : List Need).length + p0.length ≤ 9223372036854775807) then (some (([] : List Need) ++ p0)) else none
theorem c38 (p0 : List Need) (r : (List Need)) (h : fn38 p0 = some r) : Con Tryz.prog 38 [.sl 0] [(0, .rd Need.E p0)] 1 (.sl 1) [(1, .row Need.E 88 r r.length .unk)] 2 := by
 rw [fn38] at h
 refine Con.of_body Tryz.func38 rfl Tryz.ntmps38 rfl fun w F0 ρ => ?_
 refine U_ tbOk 4 [] aN ?_
 refine G4.imp (Imp.nil Need.E 88 4 (by rfl)) ?_
 obtain ⟨hk1, h⟩ := ck h
 refine U_ tbOk 2 [.ap Need.E .unk _ _] (aR (aR (aC hk1 (aC rfl aN)))) ?_
 obtain rfl := sj h
 exact T_ tbOk.t Tryz.results38 [0, 2]
def fn19 (p0 : PType) : Option (PType) :=
 Option.bind (fn37 p0.fFields) fun v1 => (Option.bind (fn38 p0.fNeeds) fun v3 => (some (⟨p0.fName, p0.fCtx, v1, v3, p0.fLo, p0.fHi⟩ : PType)))
theorem c19 (p0 : PType) (r : PType) (h : fn19 p0 = some r) : Con Tryz.prog 19 [.ag [.v (.string p0.fName), .v (.int .i64 p0.fCtx), .sl 0, .sl 1, .v (.int .i64 p0.fLo), .v (.int .i64 p0.fHi)]] [(0, .rd Fld.E p0.fFields), (1, .rd Need.E p0.fNeeds)] 2 (.ag [.v (.string r.fName), .v (.int .i64 r.fCtx), .sl 2, .sl 3, .v (.int .i64 r.fLo), .v (.int .i64 r.fHi)]) [(2, .row Fld.E 51 r.fFields r.fFields.length .unk), (3, .row Need.E 88 r.fNeeds r.fNeeds.length .unk)] 4 := by
 rw [fn19] at h
 refine Con.of_body Tryz.func19 rfl Tryz.ntmps19 rfl fun w F0 ρ => ?_
 obtain ⟨v1, hv2, h⟩ := bd h
 obtain ⟨v3, hv4, h⟩ := bd h
 refine U_ tbOk 14 [.cl true [0] (fun _ => c37 p0.fFields _ hv2), .cl true [1] (fun _ => c38 p0.fNeeds _ hv4)] (aK (aK aN)) ?_
 obtain rfl := sj h
 exact T_ tbOk.t Tryz.results19 [0, 1, 4, 5]
def fn6 (F : Nat) (p0 : List Instr) (p1 : PType) (p2 : Int) (p3 : Int) : Option (Bool) :=
 Option.bind (fn8 F) fun v1 => (bif !v1 then (some false) else (bif decide ((80 : Int) < (p0.length : Int)) then (some true) else (Option.bind (fn7 F p1 200) fun v5 => (bif decide ((200 : Int) < v5) then (some true) else (Option.bind (fn11 F p0 p1) fun v8 => (bif !v8 then (some true) else (Option.bind (fn19 p1) fun v11 => (Option.bind (bif bif decide ((64 : Int) < (p0.length : Int)) then false else true then fn11 F p0 (⟨v11.fName, v11.fCtx, v11.fFields, v11.fNeeds, bif decide (p1.fLo < p2) then p1.fLo else p2, bif decide (p3 < p1.fHi) then p1.fHi else p3⟩ : PType) else some false) fun v13 => (bif (decide ((64 : Int) < (p0.length : Int))) || (!v13) then (some false) else (Option.bind (fn20 F p0) fun v16 => (bif (decide (v11.fCtx < 248)) && (decide ((v11.fFields.length : Int) < 32)) then (bif decide ((v11.fFields.length + ([(⟨248, 1, 1, false⟩ : Fld)] : List Fld).length) * 24 ≤ 140737488355328 ∧ v11.fFields.length + ([(⟨248, 1, 1, false⟩ : Fld)] : List Fld).length ≤ 9223372036854775807) then (Option.bind (bif bif v16.2 == 0 then true else false then fn11 F p0 (⟨v11.fName, 256, v11.fFields ++ ([(⟨248, 1, 1, false⟩ : Fld)] : List Fld), v11.fNeeds, bif decide (p1.fLo < p2) then p1.fLo else p2, bif decide (p3 < p1.fHi) then p1.fHi else p3⟩ : PType) else some false) fun v20 => (some ((v16.2 == 0) && v20))) else none) else (Option.bind (bif bif v16.2 == 0 then true else false then fn11 F p0 (⟨v11.fName, v11.fCtx, v11.fFields, v11.fNeeds, bif decide (p1.fLo < p2) then p1.fLo else p2, bif decide (p3 < p1.fHi) then p1.fHi else p3⟩ : PType) else some false) fun v22 => (some ((v16.2 == 0) && v22))))))))))))))
theorem c6 (F : Nat) (p0 : List Instr) (p1 : PType) (p2 : Int) (p3 : Int) (r : Bool) (h : fn6 F p0 p1 p2 p3 = some r) : Con Tryz.prog 6 [.sl 0, .ag [.v (.string p1.fName), .v (.int .i64 p1.fCtx), .sl 1, .sl 2, .v (.int .i64 p1.fLo), .v (.int .i64 p1.fHi)], .v (.int .i64 p2), .v (.int .i64 p3)] [(0, .rd Instr.E p0), (1, .rd Fld.E p1.fFields), (2, .rd Need.E p1.fNeeds)] 3 (.v (.bool r)) [] 3 := by
 rw [fn6] at h
 refine Con.of_body Tryz.func6 rfl Tryz.ntmps6 rfl fun w F0 ρ => ?_
 obtain ⟨v1, hv2, h⟩ := bd h
 refine U_ tbOk 4 [.cl true [] (fun _ => c8 F _ hv2)] (aK aN) ?_
 refine C_ h (fun h hb3 => ?_) fun h hb3 => ?_
 ·refine U_ tbOk 1 [] aN ?_
  obtain rfl := sj h
  exact T_ tbOk.t Tryz.results6 [0, 1, 2]
 ·refine CDS h (fun h hb4 => ?_) (fun h hb4 => ?_)
  ·refine U_ (tbOk.lit [(16, 17, true)]) 9 [] (aC hb4 aN) ?_
   refine U_ tbOk 0 [] aN ?_
   refine CDT rfl (by rfl) ?_
   refine U_ tbOk 1 [] aN ?_
   obtain rfl := sj h
   exact T_ tbOk.t Tryz.results6 [0, 1, 2]
  ·obtain ⟨v5, hv6, h⟩ := bd h
   refine U_ (tbOk.lit [(16, 17, false)]) 9 [.s1, .cl true [5, 4, 1, 2] (fun _ => c7 F p1 200 _ hv6)] (aC hb4 (aK aN)) ?_
   refine U_ tbOk 0 [] aN ?_
   refine C_ h (fun h hb7 => ?_) fun h hb7 => ?_
   ·refine U_ tbOk 1 [] aN ?_
    obtain rfl := sj h
    exact T_ tbOk.t Tryz.results6 [0, 1, 2]
   ·obtain ⟨v8, hv9, h⟩ := bd h
    refine U_ tbOk 4 [.cl true [0, 1, 2] (fun _ => c11 F p0 p1 _ hv9)] (aK aN) ?_
    refine C_ h (fun h hb10 => ?_) fun h hb10 => ?_
    ·refine U_ tbOk 1 [] aN ?_
     obtain rfl := sj h
     exact T_ tbOk.t Tryz.results6 [0, 1, 2]
    ·obtain ⟨v11, hv12, h⟩ := bd h
     obtain ⟨v13, hv14, h⟩ := bd h
     refine U_ tbOk 25 [.cl true [1, 2] (fun _ => c19 p1 _ hv12), .mn, .mn, .cl (bif decide ((64 : Int) < (p0.length : Int)) then false else true) [0, 6, 7] (fun hg => c11 F p0 (⟨v11.fName, v11.fCtx, v11.fFields, v11.fNeeds, bif decide (p1.fLo < p2) then p1.fLo else p2, bif decide (p3 < p1.fHi) then p1.fHi else p3⟩ : PType) _ (gcl hg hv14))] (aK (aR (aR (aK aN)))) ?_
     refine C_ h (fun h hb15 => ?_) fun h hb15 => ?_
     ·refine U_ tbOk 1 [] aN ?_
      obtain rfl := sj h
      exact T_ tbOk.t Tryz.results6 [0, 1, 2]
     ·obtain ⟨v16, hv17, h⟩ := bd h
      refine U_ tbOk 16 [.cl true [0] (fun _ => c20 F p0 _ hv17)] (aK aN) ?_
      refine C_ h (fun h hb18 => ?_) fun h hb18 => ?_
      ·obtain ⟨hk19, h⟩ := ck h
       obtain ⟨v20, hv21, h⟩ := bd h
       refine U_ tbOk 17 [.bs Fld.E ([(⟨248, 1, 1, false⟩ : Fld)] : List Fld), .ap Fld.E .unk _ _, .cl (bif v16.2 == 0 then true else false) [0, 10, 7] (fun hg => c11 F p0 (⟨v11.fName, 256, v11.fFields ++ ([(⟨248, 1, 1, false⟩ : Fld)] : List Fld), v11.fNeeds, bif decide (p1.fLo < p2) then p1.fLo else p2, bif decide (p3 < p1.fHi) then p1.fHi else p3⟩ : PType) _ (gcl hg hv21))] (aR (aR (aR (aR (aC hk19 (aC rfl (aR (aR (aK aN))))))))) ?_
       obtain rfl := sj h
       exact T_ tbOk.t Tryz.results6 [0, 1, 2]
      ·obtain ⟨v22, hv23, h⟩ := bd h
       refine U_ tbOk 8 [.cl (bif v16.2 == 0 then true else false) [0, 6, 7] (fun hg => c11 F p0 (⟨v11.fName, v11.fCtx, v11.fFields, v11.fNeeds, bif decide (p1.fLo < p2) then p1.fLo else p2, bif decide (p3 < p1.fHi) then p1.fHi else p3⟩ : PType) _ (gcl hg hv23))] (aR (aR (aK aN))) ?_
       obtain rfl := sj h
       exact T_ tbOk.t Tryz.results6 [0, 1, 2]
end Go.Proofs.YthpjmknpkdoadaaGreat
namespace Go.Proofs.YthpjmknpkdoadaaGreat
open Go Go.HW
set_option maxRecDepth 20000
set_option linter.unusedVariables false
theorem w64 {n : Int} (h : -9223372036854775808 ≤ n ∧ n ≤ 9223372036854775807) : IntKind.i64.wrap n = n := by rw [IntKind.wrap_i64]; omega
def runL {σ α : Type} (step : σ → α → Option σ) (go : σ → Bool) : List α → σ → Option σ
 | [], s => some s
 | x :: xs, s => (step s x).bind fun u => bif go u then runL step go xs u else some u
def firstsL : List Instr → Int → List (Int × Slot)
 | [], _ => []
 | i :: l, k => (k, fn89 i) :: (bif i.fOp == 24 then (match l with | [] => [] | _ :: l' => firstsL l' (k + 2)) else firstsL l (k + 1))
theorem firstsL_cons (i : Instr) (l : List Instr) (k : Int) : firstsL (i :: l) k = (k, fn89 i) :: (bif i.fOp == 24 then (match l with | [] => [] | _ :: l' => firstsL l' (k + 2)) else firstsL l (k + 1)) := by
 cases l <;> rfl
theorem gt_drop {q : List Instr} {x : Int} (h0 : 0 ≤ x) (h : x < q.length) : q.drop x.toNat = gt q x :: q.drop (x.toNat + 1) := by
 have hlt : x.toNat < q.length := by omega
 rw [List.drop_eq_getElem_cons hlt]
 congr 1
 simp [gt, hlt]
theorem fn89_instr (i : Instr) : (fn89 i).fInstr = i := rfl
theorem fn88_l1_run {σ : Type} (step : σ → (Int × Slot) → Option σ) (go : σ → Bool) (q : List Instr) (hq : q.length ≤ 4611686018427387904) : ∀ (n : Nat) (s : σ) (x : Int), 0 ≤ x → x ≤ q.length + 1 → (q.length : Int) + 1 - x < n →
  ((fn88_l1 step go q n s x).bind fun o => match o with | .inl u => some u | .inr u => some u) = runL step go (firstsL (q.drop x.toNat) x) s
 | 0, s, x, h0, h1, h2 => by omega
 | n + 1, s, x, h0, h1, h2 => by
  rw [fn88_l1_s]
  by_cases hx : x < (q.length : Int)
  ·have hi : inb x q.length = true := inb_iff.2 ⟨h0, hx⟩
   simp only [hx, decide_true, cond_true, hi, bindP]
   rw [gt_drop h0 hx]
   rw [firstsL_cons]
   simp only [runL]
   cases hs : step s (x, fn89 (gt q x)) with
   | none => rfl
   | some u =>
    simp only [Option.bind_some]
    cases hg : go u with
    | false => simp
    | true =>
     simp only [Bool.not_true, cond_false, cond_true]
     have e1 : IntKind.i64.wrap (x + 1) = x + 1 := w64 (by omega)
     have e2 : IntKind.i64.wrap (x + 1 + 1) = x + 1 + 1 := w64 (by omega)
     rw [e1, e2, fn89_instr]
     cases hw : ((gt q x).fOp == 24) with
     | true =>
      simp only [cond_true]
      by_cases hl : x + 1 < (q.length : Int)
      ·have hd := gt_drop (q := q) (x := x + 1) (by omega) hl
       rw [show (x + 1).toNat = x.toNat + 1 from by omega] at hd
       rw [hd]
       simp only []
       have ih := fn88_l1_run step go q hq n u (x + 1 + 1) (by omega) (by omega) (by omega)
       rw [show (x + 1 + 1).toNat = x.toNat + 1 + 1 from by omega] at ih
       rw [ih, show x + 1 + 1 = x + 2 from by omega]
      ·have hd : q.drop (x.toNat + 1) = [] := List.drop_eq_nil_of_le (by omega)
       rw [hd]
       simp only [runL]
       have ih := fn88_l1_run step go q hq n u (x + 1 + 1) (by omega) (by omega) (by omega)
       rw [ih, List.drop_eq_nil_of_le (by omega)]
       simp [firstsL, runL]
     | false =>
      simp only [cond_false]
      have ih := fn88_l1_run step go q hq n u (x + 1) (by omega) (by omega) (by omega)
      rw [ih, show (x + 1).toNat = x.toNat + 1 from by omega]
  ·simp only [hx, decide_false, cond_false, Option.bind_some]
   rw [List.drop_eq_nil_of_le (by omega)]
   simp [firstsL, runL]
theorem fn88_run {σ : Type} {F : Nat} (step : σ → (Int × Slot) → Option σ) (go : σ → Bool) (q : List Instr) (s : σ) (hq : q.length ≤ 4611686018427387904) (hF : q.length + 1 < F) :
  fn88 F step go q s = runL step go (firstsL q 0) s := by
 have := fn88_l1_run step go q hq F s 0 (by omega) (by omega) (by omega)
 simp only [Int.toNat_zero, List.drop_zero] at this
 rw [← this]
 rfl
theorem runL_all {σ α : Type} {stepB : σ → α → Option (σ × Nat)} {f : σ → α → σ} : ∀ (l : List α) (s : σ), (∀ s x, x ∈ l → stepB s x = some (f s x, 0)) → runL (stepR stepB) goR l (s, 0) = some (l.foldl f s, 0)
 | [], s, h => rfl
 | x :: l, s, h => by
  have h1 : stepR stepB (s, 0) x = some (f s x, 0) := by simp [stepR, h s x (by simp)]
  simp only [runL, h1, Option.bind_some, goR]
  rw [runL_all l (f s x) (fun s y hy => h s y (by simp [hy]))]
  rfl
theorem runL_inv {σ α : Type} {stepB : σ → α → Option (σ × Nat)} {f : σ → α → σ} {P : σ → Prop} : ∀ (l : List α) (s : σ), P s → (∀ s x, x ∈ l → P s → stepB s x = some (f s x, 0) ∧ P (f s x)) → runL (stepR stepB) goR l (s, 0) = some (l.foldl f s, 0) ∧ P (l.foldl f s)
 | [], s, h, _ => ⟨rfl, h⟩
 | x :: l, s, hs, h => by
  obtain ⟨h1, h2⟩ := h s x (by simp) hs
  have h3 : stepR stepB (s, 0) x = some (f s x, 0) := by simp [stepR, h1]
  simp only [runL, h3, Option.bind_some, goR]
  exact runL_inv l (f s x) h2 (fun s y hy => h s y (by simp [hy]))
end Go.Proofs.YthpjmknpkdoadaaGreat
namespace Go.Proofs.YthpjmknpkdoadaaGreat
open Go Go.HW
set_option linter.unusedVariables false
theorem wrapU {k : IntKind} (hs : k.signed = false) (n : Int) : k.wrap n = n % (2 ^ k.bits : Int) := by
 unfold IntKind.wrap; simp [hs]
theorem wrapU_nat {k : IntKind} (hs : k.signed = false) {a : Nat} (h : a < 2 ^ k.bits) : k.wrap (a : Int) = (a : Int) := by
 rw [wrapU hs]
 have : ((2 ^ k.bits : Nat) : Int) = (2 ^ k.bits : Int) := by simp
 rw [← this]; exact Int.emod_eq_of_lt (by omega) (by exact_mod_cast h)
theorem ofInt_nat (W a : Nat) : BitVec.ofInt W (a : Int) = BitVec.ofNat W a := by
 apply BitVec.eq_of_toNat_eq
 simp [BitVec.toNat_ofInt, BitVec.toNat_ofNat]
theorem ior_nat {k : IntKind} (hs : k.signed = false) {a b : Nat} (ha : a < 2 ^ k.bits) (hb : b < 2 ^ k.bits) : ior k (a : Int) (b : Int) = ((a ||| b : Nat) : Int) := by
 unfold ior; rw [ofInt_nat, ofInt_nat, BitVec.toNat_or, BitVec.toNat_ofNat, BitVec.toNat_ofNat, Nat.mod_eq_of_lt ha, Nat.mod_eq_of_lt hb]
 exact wrapU_nat hs (Nat.or_lt_two_pow ha hb)
theorem iand_nat {k : IntKind} (hs : k.signed = false) {a b : Nat} (ha : a < 2 ^ k.bits) (hb : b < 2 ^ k.bits) : iand k (a : Int) (b : Int) = ((a &&& b : Nat) : Int) := by
 unfold iand; rw [ofInt_nat, ofInt_nat, BitVec.toNat_and, BitVec.toNat_ofNat, BitVec.toNat_ofNat, Nat.mod_eq_of_lt ha, Nat.mod_eq_of_lt hb]
 exact wrapU_nat hs (Nat.and_lt_two_pow a hb)
theorem iandn_nat {k : IntKind} (hs : k.signed = false) {a b : Nat} (ha : a < 2 ^ k.bits) (hb : b < 2 ^ k.bits) : ∃ c : Nat, iandn k (a : Int) (b : Int) = (c : Int) ∧ c < 2 ^ k.bits ∧ ∀ i, i < k.bits → c.testBit i = (a.testBit i && !b.testBit i) := by
 refine ⟨(BitVec.ofInt k.bits (a : Int) &&& ~~~(BitVec.ofInt k.bits (b : Int))).toNat, ?_, BitVec.isLt _, fun i hi => ?_⟩
 ·unfold iandn; exact wrapU_nat hs (BitVec.isLt _)
 ·rw [ofInt_nat, ofInt_nat, BitVec.testBit_toNat, BitVec.getLsbD_and, BitVec.getLsbD_not, BitVec.getLsbD_ofNat, BitVec.getLsbD_ofNat]
  simp [hi]
theorem ishl_one {k : IntKind} (hs : k.signed = false) {j : Nat} (hj : j < k.bits) : ishl k 1 (j : Int) = ((2 ^ j : Nat) : Int) := by
 unfold ishl
 rw [Int.toNat_natCast, Nat.min_eq_left (by omega), Int.one_mul]
 have := wrapU_nat hs (a := 2 ^ j) (Nat.pow_lt_pow_right (by decide) hj)
 rw [← this]; simp
theorem ishr_nat {k : IntKind} {a j : Nat} (hj : j < k.bits) : ishr k (a : Int) (j : Int) = ((a >>> j : Nat) : Int) := by
 unfold ishr
 rw [Int.toNat_natCast, Nat.min_eq_left (by omega), Nat.shiftRight_eq_div_pow, Int.fdiv_eq_ediv_of_nonneg _ (Int.pow_nonneg (by decide))]
 simp
theorem has_bit {k : IntKind} (hs : k.signed = false) (h1 : 1 ≤ k.bits) {a j : Nat} (ha : a < 2 ^ k.bits) (hj : j < k.bits) : (iand k (ishr k (a : Int) (j : Int)) 1 == 0) = !a.testBit j := by
 rw [ishr_nat hj, show (1 : Int) = ((1 : Nat) : Int) from rfl, iand_nat hs (Nat.lt_of_le_of_lt (Nat.shiftRight_le a j) ha) (by exact Nat.one_lt_two_pow (by omega)), Nat.testBit_eq_decide_div_mod_eq, Nat.and_one_is_mod, Nat.shiftRight_eq_div_pow]
 cases h : a / 2 ^ j % 2 == 1 with
 | true => have := eq_of_beq h; simp [this]
 | false =>
  have h2 : a / 2 ^ j % 2 = 0 := by
   have : a / 2 ^ j % 2 ≠ 1 := fun e => by simp [e] at h
   omega
  simp [h2]
def bW (W : Nat) (l : List Int) (i : Nat) : Bool := (gt l ((i / W : Nat) : Int)).toNat.testBit (i % W)
def okW (W : Nat) (l : List Int) : Prop := ∀ x ∈ l, 0 ≤ x ∧ x < (2 ^ W : Int)
theorem okW.at {W : Nat} {l : List Int} (h : okW W l) {i : Nat} (hi : i < l.length) : ∃ a : Nat, gt l (i : Int) = (a : Int) ∧ a < 2 ^ W := by
 have hm : gt l (i : Int) ∈ l := by
  have : gt l (i : Int) = l[i] := by simp [gt, hi]
  rw [this]; exact List.getElem_mem _
 obtain ⟨h0, h1⟩ := h _ hm
 refine ⟨(gt l (i : Int)).toNat, by omega, ?_⟩
 have : ((2 ^ W : Nat) : Int) = (2 ^ W : Int) := by simp
 omega
theorem gt_setN {l : List Int} {i j : Nat} {u : Int} (hi : i < l.length) : gt (l.set i u) (j : Int) = if j = i then u else gt l (j : Int) := by
 unfold gt
 simp only [Int.toNat_natCast, List.getD_eq_getElem?_getD, List.getElem?_set]
 by_cases h : i = j
 ·subst h; simp [hi]
 ·simp [h, Ne.symm h]
theorem okW.set {W : Nat} {l : List Int} (h : okW W l) {i : Nat} {a : Nat} (ha : a < 2 ^ W) : okW W (l.set i (a : Int)) := by
 intro x hx
 rcases List.mem_or_eq_of_mem_set hx with h1 | rfl
 ·exact h x h1
 ·have : ((2 ^ W : Nat) : Int) = (2 ^ W : Int) := by simp
  constructor
  ·omega
  ·rw [← this]; exact_mod_cast ha
theorem bW_ext {W : Nat} (hW : 0 < W) {l r : List Int} (hl : okW W l) (hr : okW W r) (hn : l.length = r.length) (h : ∀ i, i < l.length * W → bW W l i = bW W r i) : l = r := by
 apply List.ext_getElem hn
 intro i h1 h2
 obtain ⟨a, a1, a2⟩ := hl.at h1
 obtain ⟨b, b1, b2⟩ := hr.at h2
 have e1 : gt l (i : Int) = l[i] := by simp [gt, h1]
 have e2 : gt r (i : Int) = r[i] := by simp [gt, h2]
 rw [← e1, ← e2, a1, b1]
 congr 1
 apply Nat.eq_of_testBit_eq
 intro j
 by_cases hj : j < W
 ·have hdiv : (i * W + j) / W = i := by rw [Nat.mul_comm, Nat.mul_add_div hW, Nat.div_eq_of_lt hj, Nat.add_zero]
  have hmod : (i * W + j) % W = j := by rw [Nat.mul_comm, Nat.mul_add_mod, Nat.mod_eq_of_lt hj]
  have := h (i * W + j) (by
   have : (i + 1) * W ≤ l.length * W := Nat.mul_le_mul_right W h1
   rw [Nat.add_mul] at this; omega)
  unfold bW at this
  rw [hdiv, hmod, a1, b1] at this
  simpa using this
 ·rw [Nat.testBit_lt_two_pow (Nat.lt_of_lt_of_le a2 (Nat.pow_le_pow_right (by decide) (by omega))), Nat.testBit_lt_two_pow (Nat.lt_of_lt_of_le b2 (Nat.pow_le_pow_right (by decide) (by omega)))]
theorem div_mod_ne {W n i : Nat} (h : n ≠ i) (hd : i / W = n / W) : i % W ≠ n % W := fun hm => h (by
 have h1 := Nat.div_add_mod n W
 have h2 := Nat.div_add_mod i W
 rw [hd, hm] at h2; omega)
theorem bW_put {k : IntKind} (hs : k.signed = false) (h0 : 0 < k.bits) {l : List Int} (hl : okW k.bits l) {n : Nat} (hn : n / k.bits < l.length) :
  okW k.bits (l.set (n / k.bits) (ior k (gt l ((n / k.bits : Nat) : Int)) (ishl k 1 ((n % k.bits : Nat) : Int)))) ∧ ∀ i, bW k.bits (l.set (n / k.bits) (ior k (gt l ((n / k.bits : Nat) : Int)) (ishl k 1 ((n % k.bits : Nat) : Int)))) i = (bW k.bits l i || decide (i = n)) := by
 obtain ⟨a, a1, a2⟩ := hl.at hn
 have hm : n % k.bits < k.bits := Nat.mod_lt _ h0
 have hp : 2 ^ (n % k.bits) < 2 ^ k.bits := Nat.pow_lt_pow_right (by decide) hm
 have e : ior k (gt l ((n / k.bits : Nat) : Int)) (ishl k 1 ((n % k.bits : Nat) : Int)) = ((a ||| 2 ^ (n % k.bits) : Nat) : Int) := by
  rw [a1, ishl_one hs hm, ior_nat hs a2 hp]
 rw [e]
 refine ⟨hl.set (Nat.or_lt_two_pow a2 hp), fun i => ?_⟩
 unfold bW
 rw [gt_setN hn]
 by_cases hd : i / k.bits = n / k.bits
 ·rw [if_pos hd, Int.toNat_natCast, Nat.testBit_or, Nat.testBit_two_pow, hd, a1, Int.toNat_natCast]
  congr 1
  by_cases h : n = i
  ·subst h; simp
  ·have := div_mod_ne h hd
   simp [Ne.symm h, Ne.symm this]
 ·have : i ≠ n := fun h => hd (by rw [h])
  rw [if_neg hd]; simp [this]
theorem bW_drop {k : IntKind} (hs : k.signed = false) (h0 : 0 < k.bits) {l : List Int} (hl : okW k.bits l) {n : Nat} (hn : n / k.bits < l.length) :
  okW k.bits (l.set (n / k.bits) (iandn k (gt l ((n / k.bits : Nat) : Int)) (ishl k 1 ((n % k.bits : Nat) : Int)))) ∧ ∀ i, bW k.bits (l.set (n / k.bits) (iandn k (gt l ((n / k.bits : Nat) : Int)) (ishl k 1 ((n % k.bits : Nat) : Int)))) i = (bW k.bits l i && !decide (i = n)) := by
 obtain ⟨a, a1, a2⟩ := hl.at hn
 have hm : n % k.bits < k.bits := Nat.mod_lt _ h0
 have hp : 2 ^ (n % k.bits) < 2 ^ k.bits := Nat.pow_lt_pow_right (by decide) hm
 obtain ⟨c, c1, c2, c3⟩ := iandn_nat hs a2 hp
 have e : iandn k (gt l ((n / k.bits : Nat) : Int)) (ishl k 1 ((n % k.bits : Nat) : Int)) = (c : Int) := by
  rw [a1, ishl_one hs hm, c1]
 rw [e]
 refine ⟨hl.set c2, fun i => ?_⟩
 unfold bW
 rw [gt_setN hn]
 by_cases hd : i / k.bits = n / k.bits
 ·rw [if_pos hd, Int.toNat_natCast, c3 _ (Nat.mod_lt _ h0), Nat.testBit_two_pow, hd, a1, Int.toNat_natCast]
  congr 2
  by_cases h : n = i
  ·subst h; simp
  ·have := div_mod_ne h hd
   simp [Ne.symm h, Ne.symm this]
 ·have : i ≠ n := fun h => hd (by rw [h])
  rw [if_neg hd]; simp [this]
theorem bW_has {k : IntKind} (hs : k.signed = false) (h0 : 0 < k.bits) {l : List Int} (hl : okW k.bits l) {n : Nat} (hn : n / k.bits < l.length) :
  (iand k (ishr k (gt l ((n / k.bits : Nat) : Int)) ((n % k.bits : Nat) : Int)) 1 == 0) = !bW k.bits l n := by
 obtain ⟨a, a1, a2⟩ := hl.at hn
 rw [a1, has_bit hs h0 a2 (Nat.mod_lt _ h0), bW, a1, Int.toNat_natCast]
end Go.Proofs.YthpjmknpkdoadaaGreat
namespace Go.Proofs.YthpjmknpkdoadaaGreat
open Go Go.HW
set_option maxRecDepth 8000
structure OkI (x : Instr) : Prop where
 op : 0 ≤ x.fOp ∧ x.fOp < 256
 off : -32768 ≤ x.fOff ∧ x.fOff < 32768
 imm : -2147483648 ≤ x.fImm ∧ x.fImm < 2147483648
theorem all256 (p : Int → Bool) (h : (List.range 256).all (fun n => p (n : Int)) = true) {x : Int} (h0 : 0 ≤ x ∧ x < 256) : p x = true := by
 have := List.all_eq_true.1 h x.toNat (by simp; omega)
 rw [show ((x.toNat : Nat) : Int) = x from by omega] at this
 exact this
abbrev atOp (o : Int) : Instr := ⟨o, 0, 0, 0, 0⟩
def refEnds (x : Instr) : Bool := ((fn71 x == 5) && ((fn72 x == 144) || (fn72 x == 0))) || ((fn71 x == 6) && (fn72 x == 0))
theorem kn_eq {x : Instr} (h : OkI x) : fn40 (fn89 x) = fn117 x := by
 have := all256 (fun o => fn40 (fn89 (atOp o)) == fn117 (atOp o)) (by kernel_rfl) h.op
 exact eq_of_beq this
theorem en_eq {x : Instr} (h : OkI x) (hk : fn117 x = true) : fn45 (fn89 x) = refEnds x := by
 have := all256 (fun o => !(fn117 (atOp o)) || (fn45 (fn89 (atOp o)) == refEnds (atOp o))) (by kernel_rfl) h.op
 have h2 : (!(fn117 x) || (fn45 (fn89 x) == refEnds x)) = true := this
 rw [hk] at h2
 exact eq_of_beq (by simpa using h2)
theorem bif_or {α : Type} (a b : Bool) (z r : α) : (bif a then z else bif b then z else r) = bif (a || b) then z else r := by cases a <;> rfl
theorem tg_eq {x : Instr} (h : OkI x) (hk : fn117 x = true) (at' : Int) : fn44 (fn89 x) at' = fn120 x at' := by
 have := all256 (fun o => !(fn117 (atOp o)) || ((!(((fn89 (atOp o)).fclass == 5) || ((fn89 (atOp o)).fclass == 6)) || ((!(fn91 (fn89 (atOp o)))) && ((fn89 (atOp o)).fop != 0))) == ((((fn71 (atOp o) != 5) && (fn71 (atOp o) != 6)) || (fn72 (atOp o) == 128)) || (fn72 (atOp o) == 144)))) (by kernel_rfl) h.op
 have h2 : (!(fn117 x) || ((!(((fn89 x).fclass == 5) || ((fn89 x).fclass == 6)) || ((!(fn91 (fn89 x))) && ((fn89 x).fop != 0))) == ((((fn71 x != 5) && (fn71 x != 6)) || (fn72 x == 128)) || (fn72 x == 144)))) = true := this
 rw [hk] at h2
 have h3 := eq_of_beq (show _ == _ from by simpa only [Bool.not_true, Bool.false_or] using h2)
 simp only [fn44, fn120, bindP]
 rw [bif_or, h3]
 rfl
theorem rg_eq {x : Instr} : fn41 (fn89 x) = !(((decide ((10 : Int) < x.fDst)) || (decide ((10 : Int) < x.fSrc))) || ((x.fDst == 10) && fn118 x)) := by
 have e0 : fn41 (fn89 x) = (((decide (x.fDst ≤ 10)) && (decide (x.fSrc ≤ 10))) && !(fn118 x && (x.fDst == 10))) := rfl
 rw [e0]
 generalize fn118 x = c
 have h1 : decide (x.fDst ≤ 10) = !(decide (10 < x.fDst)) := by by_cases h : x.fDst ≤ 10 <;> simp [h] <;> omega
 have h2 : decide (x.fSrc ≤ 10) = !(decide (10 < x.fSrc)) := by by_cases h : x.fSrc ≤ 10 <;> simp [h] <;> omega
 rw [h1, h2]
 generalize decide (10 < x.fDst) = a
 generalize decide (10 < x.fSrc) = b
 generalize (x.fDst == 10) = d
 cases a <;> cases b <;> cases c <;> cases d <;> rfl
theorem idx93 (l : List Int) (y : Int) (hl : l.length ≤ 1000) : ∀ (n : Nat) (x : Int), 0 ≤ x → x ≤ l.length → (l.length : Int) - x < n →
  (fn147_l1 l y n x = some (.inl ()) ∧ y ∉ l.drop x.toNat) ∨ ∃ i, fn147_l1 l y n x = some (.inr i) ∧ 0 ≤ i ∧ y ∈ l.drop x.toNat
 | 0, x, h0, h1, h2 => by omega
 | n + 1, x, h0, h1, h2 => by
  rw [fn147_l1]
  by_cases hx : x < (l.length : Int)
  ·have hi : inb x l.length = true := inb_iff.2 ⟨h0, hx⟩
   have hlt : x.toNat < l.length := by omega
   have hd : l.drop x.toNat = gt l x :: l.drop (x.toNat + 1) := by
    rw [List.drop_eq_getElem_cons hlt]; congr 1; simp [gt, hlt]
   simp only [hx, decide_true, cond_true, hi]
   cases hy : (y == gt l x) with
   | true => exact .inr ⟨x, rfl, h0, by rw [hd, eq_of_beq hy]; simp⟩
   | false =>
    simp only [cond_false]
    rw [w64 (by omega)]
    have ih := idx93 l y hl n (x + 1) (by omega) (by omega) (by omega)
    rw [show (x + 1).toNat = x.toNat + 1 from by omega] at ih
    have hne : y ≠ gt l x := by intro e; subst e; simp at hy
    rcases ih with ⟨e1, e2⟩ | ⟨i, e1, e2, e3⟩
    ·exact .inl ⟨e1, by rw [hd]; simp [hne, e2]⟩
    ·exact .inr ⟨i, e1, e2, by rw [hd]; simp [e3]⟩
  ·simp only [hx, decide_false, cond_false]
   exact .inl ⟨trivial, by rw [List.drop_eq_nil_of_le (by omega)]; simp⟩
theorem idx92 (l : List Int) (y : Int) (hl : l.length ≤ 1000) : ∀ (n : Nat) (x : Int), fn146_l1 l y n x = fn147_l1 l y n x
 | 0, x => rfl
 | n + 1, x => by rw [fn146_l1, fn147_l1, idx92 l y hl n]
theorem has81 {F : Nat} (l : List Int) (y : Int) (hl : l.length ≤ 1000) (hF : 1001 < F) : fn126 F l y = some (decide (y ∈ l)) := by
 rw [fn126, fn147]
 rcases idx93 l y hl F 0 (by omega) (by omega) (by omega) with ⟨e1, e2⟩ | ⟨i, e1, e2, e3⟩
 ·rw [e1]; rw [Int.toNat_zero, List.drop_zero] at e2; simp [fn147_k1, e2]
 ·rw [e1]; rw [Int.toNat_zero, List.drop_zero] at e3; simp [e2, e3]
theorem has80 {F : Nat} (l : List Int) (y : Int) (hl : l.length ≤ 1000) (hF : 1001 < F) : fn125 F l y = some (decide (y ∈ l)) := by
 rw [fn125, fn146, idx92 l y hl]
 rcases idx93 l y hl F 0 (by omega) (by omega) (by omega) with ⟨e1, e2⟩ | ⟨i, e1, e2, e3⟩
 ·rw [e1]; rw [Int.toNat_zero, List.drop_zero] at e2; simp [fn146_k1, e2]
 ·rw [e1]; rw [Int.toNat_zero, List.drop_zero] at e3; simp [e2, e3]
theorem mem_or (y a : Int) (l : List Int) : decide (y ∈ a :: l) = ((y == a) || decide (y ∈ l)) := by
 simp only [List.mem_cons, Bool.decide_or]
 congr 1
theorem mem_nil' (y : Int) : decide (y ∈ ([] : List Int)) = false := rfl
theorem alu_eq {F : Nat} (hF : 1001 < F) {x : Instr} (hc : (fn89 x).fclass = 4 ∨ (fn89 x).fclass = 7) : fn96 F (fn89 x) = some (fn144 x) := by
 have h7 : fn71 x = (fn89 x).fclass := rfl
 have hop : fn72 x = (fn89 x).fop := rfl
 have hrg : fn124 x = (fn89 x).freg := rfl
 simp only [fn96, fn144, bindP, hop, hrg, h7]
 generalize (fn89 x).fop = o
 generalize hcl : (fn89 x).fclass = c at hc
 generalize (fn89 x).freg = r
 simp only [fn89_instr]
 have l1 : ([0] : List Int) ++ [1] = [0, 1] := rfl
 have l2 : ([0] : List Int) ++ [8, 16, 32] = [0, 8, 16, 32] := rfl
 have l3 : ([0] : List Int) ++ [8, 16] = [0, 8, 16] := rfl
 simp only [l1, l2, l3]
 rw [has80 _ _ (by decide) hF, has81 _ _ (by decide) hF, has81 _ _ (by decide) hF, has81 _ _ (by decide) hF, has81 _ _ (by decide) hF]
 simp only [mem_or, mem_nil', Bool.or_false, bne]
 generalize (x.fSrc == 0) = b1
 generalize (x.fOff == 0) = b2
 generalize (x.fImm == 0) = b3
 have d1 : decide ((([0] : List Int).length + ([1] : List Int).length) * 2 ≤ 140737488355328 ∧ ([0] : List Int).length + ([1] : List Int).length ≤ 9223372036854775807) = true := by decide
 have d2 : decide ((([0] : List Int).length + ([8, 16, 32] : List Int).length) * 2 ≤ 140737488355328 ∧ ([0] : List Int).length + ([8, 16, 32] : List Int).length ≤ 9223372036854775807) = true := by decide
 have d3 : decide ((([0] : List Int).length + ([8, 16] : List Int).length) * 2 ≤ 140737488355328 ∧ ([0] : List Int).length + ([8, 16] : List Int).length ≤ 9223372036854775807) = true := by decide
 rw [d1, d2, d3]
 generalize (x.fOff == 1) = q1
 generalize (x.fOff == 8) = q8
 generalize (x.fOff == 16) = q16
 generalize (x.fOff == 32) = q32
 generalize (x.fImm == 16) = i1
 generalize (x.fImm == 32) = i2
 generalize (x.fImm == 64) = i3
 by_cases h208 : o = 208
 ·subst h208; cases b1 <;> cases b2 <;> cases i1 <;> cases i2 <;> cases i3 <;> rfl
 by_cases h48 : o = 48
 ·subst h48; cases r <;> cases b1 <;> cases b2 <;> cases b3 <;> cases q1 <;> rfl
 by_cases h144 : o = 144
 ·subst h144; cases r <;> cases b1 <;> cases b2 <;> cases b3 <;> cases q1 <;> rfl
 by_cases h176 : o = 176
 ·subst h176
  rcases hc with rfl | rfl <;> cases r <;> cases b1 <;> cases b2 <;> cases b3 <;> cases q8 <;> cases q16 <;> cases q32 <;> rfl
 have e1 : (o == 208) = false := by simp [h208]
 have e2 : (o == 48) = false := by simp [h48]
 have e3 : (o == 144) = false := by simp [h144]
 have e4 : (o == 176) = false := by simp [h176]
 rw [e1, e2, e3, e4]
 cases (o == 128) <;> cases r <;> cases b1 <;> cases b2 <;> cases b3 <;> rfl
theorem cls_lt {x : Instr} (h : OkI x) : fn71 x = 0 ∨ fn71 x = 1 ∨ fn71 x = 2 ∨ fn71 x = 3 ∨ fn71 x = 4 ∨ fn71 x = 5 ∨ fn71 x = 6 ∨ fn71 x = 7 := by
 have := all256 (fun o => decide (fn71 (atOp o) = 0 ∨ fn71 (atOp o) = 1 ∨ fn71 (atOp o) = 2 ∨ fn71 (atOp o) = 3 ∨ fn71 (atOp o) = 4 ∨ fn71 (atOp o) = 5 ∨ fn71 (atOp o) = 6 ∨ fn71 (atOp o) = 7)) (by kernel_rfl) h.op
 exact of_decide_eq_true (p := fn71 x = 0 ∨ fn71 x = 1 ∨ fn71 x = 2 ∨ fn71 x = 3 ∨ fn71 x = 4 ∨ fn71 x = 5 ∨ fn71 x = 6 ∨ fn71 x = 7) this
theorem jump_eq {x : Instr} : fn97 (fn89 x) = fn145 x := by
 have hop : fn72 x = (fn89 x).fop := rfl
 have hcl : fn71 x = (fn89 x).fclass := rfl
 have hrg : fn124 x = (fn89 x).freg := rfl
 have hcd : fn143 (fn89 x).fop = fn91 (fn89 x) := rfl
 simp only [fn97, fn145, bindP, hop, hcl, hrg, hcd, fn89_instr, bne]
 generalize (fn89 x).fop = o
 generalize (fn89 x).freg = r
 generalize fn91 (fn89 x) = v
 generalize (x.fDst == 0) = b0
 generalize (x.fSrc == 0) = b1
 generalize (x.fOff == 0) = b2
 generalize (x.fImm == 0) = b3
 generalize (o == 0) = o0
 generalize ((fn89 x).fclass == 5) = c5
 generalize (o == 128) = o1
 cases v
 ·cases b0 <;> cases b1 <;> cases b2 <;> cases b3 <;> cases o0 <;> cases c5 <;> cases o1 <;> rfl
 ·cases r <;> cases b1 <;> cases b3 <;> rfl
theorem pt_eq {F : Nat} (hF : 1001 < F) {x : Instr} (h : OkI x) : fn42 F (fn89 x) = some (fn119 x) := by
 have e54 : fn71 x = (fn89 x).fclass := rfl
 have hc := cls_lt h
 rw [e54] at hc
 have a1 := alu_eq hF (x := x)
 have a2 := jump_eq (x := x)
 simp only [fn42, fn119, bindP, e54, a2]
 rcases hc with e | e | e | e | e | e | e | e
 ·rw [e]; rfl
 ·rw [e]; rfl
 ·rw [e]; rfl
 ·rw [e]; rfl
 ·rw [a1 (.inl e)]; rw [e]; rfl
 ·rw [e]; rfl
 ·rw [e]; rfl
 ·rw [a1 (.inr e)]; rw [e]; rfl
end Go.Proofs.YthpjmknpkdoadaaGreat
namespace Go.Proofs.YthpjmknpkdoadaaGreat
open Go Go.HW
set_option maxRecDepth 8000
set_option linter.unusedVariables false
def marks : List Instr → List Bool
 | [] => []
 | x :: l => true :: (bif x.fOp == 24 then (match l with | [] => [] | _ :: l' => false :: marks l') else marks l)
theorem marks_cons (x : Instr) (l : List Instr) : marks (x :: l) = true :: (bif x.fOp == 24 then (match l with | [] => [] | _ :: l' => false :: marks l') else marks l) := by cases l <;> rfl
theorem marks_len : ∀ (n : Nat) (l : List Instr), l.length ≤ n → (marks l).length = l.length
 | _, [], _ => rfl
 | 0, x :: l, h => by simp at h
 | n + 1, x :: l, h => by
  rw [marks_cons]
  simp only [List.length_cons] at h ⊢
  cases (x.fOp == 24) with
  | false => simp only [cond_false]; rw [marks_len n l (by omega)]
  | true =>
   simp only [cond_true]
   cases l with
   | nil => rfl
   | cons y l' => simp only [List.length_cons] at h ⊢; rw [marks_len n l' (by omega)]
theorem marks_length (l : List Instr) : (marks l).length = l.length := marks_len _ l (Nat.le_refl _)
theorem drop_cons' {α : Type} {q : List α} {k : Nat} {y : α} {r : List α} (h : q.drop k = y :: r) : k < q.length ∧ q.drop (k + 1) = r ∧ q[k]? = some y := by
 have h1 : k < q.length := by
  rcases Nat.lt_or_ge k q.length with h' | h'
  ·exact h'
  ·rw [List.drop_eq_nil_of_le h'] at h; cases h
 rw [List.drop_eq_getElem_cons h1] at h
 injection h with h2 h3
 exact ⟨h1, h3, by rw [List.getElem?_eq_getElem h1, h2]⟩
theorem firsts_loop (p : List Instr) (hp : p.length ≤ 1000000) : ∀ (n : Nat) (m : List Bool) (k : Nat), k ≤ p.length + 1 → m.length = p.length → m.drop k = List.replicate (p.length - k) false → p.length + 1 - k < n →
  fn69_l1 p n m (k : Int) = some (m.take k ++ marks (p.drop k))
 | 0, m, k, _, _, _, h => by omega
 | n + 1, m, k, hk, hm, hd, hn => by
  rw [fn69_l1_s]
  by_cases hx : k < p.length
  ·have h1 : decide ((k : Int) < (p.length : Int)) = true := by simp; omega
   have h2 : inb (k : Int) m.length = true := inb_iff.2 ⟨by omega, by omega⟩
   have h3 : inb (k : Int) p.length = true := inb_iff.2 ⟨by omega, by omega⟩
   simp only [h1, h2, h3, cond_true, bindP, fn116]
   have hg : p.drop k = gt p (k : Int) :: p.drop (k + 1) := gt_drop (q := p) (x := (k : Int)) (by omega) (by omega)
   rw [hg, marks_cons]
   have e1 : IntKind.i64.wrap ((k : Int) + 1) = ((k + 1 : Nat) : Int) := w64 (by omega)
   have e2 : IntKind.i64.wrap (((k + 1 : Nat) : Int) + 1) = ((k + 2 : Nat) : Int) := w64 (by omega)
   rw [e1, e2]
   have hs : ∀ j, k + 1 ≤ j → (m.set k true).drop j = List.replicate (p.length - j) false := by
    intro j hj
    rw [List.drop_set_of_lt (by omega)]
    have : m.drop j = (m.drop k).drop (j - k) := by rw [List.drop_drop]; congr 1; omega
    rw [this, hd, List.drop_replicate]; congr 1; omega
   have ht : (m.set k true).take (k + 1) = m.take k ++ [true] := by
    rw [List.take_add_one, List.getElem?_set_self (by omega), List.take_set_of_le (by omega)]; rfl
   cases hw : ((gt p (k : Int)).fOp == 24) with
   | false =>
    simp only [cond_false]
    rw [show ((k : Int)).toNat = k from rfl, firsts_loop p hp n (m.set k true) (k + 1) (by omega) (by simp [hm]) (hs _ (by omega)) (by omega), ht]
    simp
   | true =>
    simp only [cond_true]
    rw [show ((k : Int)).toNat = k from rfl, firsts_loop p hp n (m.set k true) (k + 2) (by omega) (by simp [hm]) (hs _ (by omega)) (by omega)]
    by_cases hl : k + 1 < p.length
    ·have hg2 : p.drop (k + 1) = gt p ((k + 1 : Nat) : Int) :: p.drop (k + 1 + 1) := gt_drop (q := p) (x := ((k + 1 : Nat) : Int)) (by omega) (by omega)
     rw [hg2]
     have h0 := hs (k + 1) (by omega)
     rw [show p.length - (k + 1) = (p.length - (k + 2)) + 1 from by omega, List.replicate_succ] at h0
     obtain ⟨_, _, h0⟩ := drop_cons' h0
     rw [show k + 2 = (k + 1) + 1 from rfl, List.take_add_one, h0, ht]
     simp
    ·rw [List.drop_eq_nil_of_le (by omega), List.drop_eq_nil_of_le (by omega)]
     have : (m.set k true).take (k + 2) = (m.set k true).take (k + 1) := by rw [List.take_of_length_le (by simp; omega), List.take_of_length_le (by simp; omega)]
     rw [this, ht]; simp [marks]
  ·have h1 : decide ((k : Int) < (p.length : Int)) = false := by simp; omega
   simp only [h1, cond_false]
   rw [List.drop_eq_nil_of_le (by omega), List.take_of_length_le (by omega)]; simp [marks]
theorem firsts_ref {F : Nat} (p : List Instr) (hp : p.length ≤ 5000) (hF : 6000 ≤ F) : fn69 F p = some (marks p) := by
 have h1 : (decide (0 ≤ (p.length : Int)) && decide ((p.length : Int) ≤ (p.length : Int)) && decide ((1 : Int) * (p.length : Int) ≤ 281474976710656) && decide ((p.length : Int) ≤ 9223372036854775807)) = true := by simp; omega
 rw [fn69, h1, cond_true]
 have := firsts_loop p (by omega) F (List.replicate p.length false) 0 (by omega) (by simp) (by simp) (by omega)
 rw [show ((0 : Nat) : Int) = 0 from rfl] at this
 rw [show ((p.length : Int)).toNat = p.length from by omega, this]; rfl
def pl (p : List Instr) (t : Int) : Bool := decide (0 ≤ t) && decide (t < (p.length : Int)) && gt (marks p) t
def posIn (l : List (Int × Slot)) (t : Int) : Bool := l.any fun y => y.1 == t
theorem pos_marks : ∀ (n : Nat) (l : List Instr) (k t : Int), l.length ≤ n → posIn (firstsL l k) t = (decide (k ≤ t) && decide (t < k + l.length) && (marks l).getD (t - k).toNat false)
 | _, [], k, t, _ => by
  have : (decide (k ≤ t) && decide (t < k + (([] : List Instr).length : Int))) = false := by simp
  rw [this]; rfl
 | 0, x :: l, k, t, h => by simp at h
 | n + 1, x :: l, k, t, h => by
  rw [firstsL_cons, marks_cons]
  simp only [List.length_cons] at h
  have hsplit : ∀ r : List (Int × Slot), posIn ((k, fn89 x) :: r) t = ((k == t) || posIn r t) := fun r => rfl
  rw [hsplit]
  by_cases hkt : k = t
  ·subst hkt; simp; omega
  ·have e0 : (k == t) = false := by simp [hkt]
   rw [e0, Bool.false_or]
   by_cases hk : k < t
   ·have hs : (t - k).toNat = (t - (k + 1)).toNat + 1 := by omega
    cases (x.fOp == 24) with
    | false =>
     simp only [cond_false]
     rw [pos_marks n l (k + 1) t (by omega), hs, List.getD_cons_succ]
     have a1 : decide (k + 1 ≤ t) = decide (k ≤ t) := by simp; omega
     have a2 : decide (t < k + 1 + (l.length : Int)) = decide (t < k + ((x :: l).length : Int)) := by simp; omega
     rw [a1, a2]
    | true =>
     simp only [cond_true]
     cases l with
     | nil =>
      simp only [posIn, List.any_nil]
      have : decide (t < k + (([x] : List Instr).length : Int)) = false := by simp; omega
      rw [this]; simp
     | cons y l' =>
      simp only [List.length_cons] at h
      simp only []
      rw [pos_marks n l' (k + 2) t (by omega), hs, List.getD_cons_succ]
      by_cases hk2 : t = k + 1
      ·subst hk2
       have b1 : decide (k + 2 ≤ k + 1) = false := by simp
       rw [b1, show (k + 1 - (k + 1)).toNat = 0 from by omega]; simp
      ·have hs2 : (t - (k + 1)).toNat = (t - (k + 2)).toNat + 1 := by omega
       rw [hs2, List.getD_cons_succ]
       have a1 : decide (k + 2 ≤ t) = decide (k ≤ t) := by simp; omega
       have a2 : decide (t < k + 2 + (l'.length : Int)) = decide (t < k + ((x :: y :: l').length : Int)) := by simp; omega
       rw [a1, a2]
   ·have b1 : decide (k ≤ t) = false := by simp; omega
    rw [b1]
    have : ∀ (l' : List Instr) (k' : Int), l'.length ≤ n → k < k' → posIn (firstsL l' k') t = false := fun l' k' h1 h2 => by
     rw [pos_marks n l' k' t h1]
     have : decide (k' ≤ t) = false := by simp; omega
     rw [this]; rfl
    cases (x.fOp == 24) with
    | false => simp only [cond_false]; rw [this l (k + 1) (by omega) (by omega)]; rfl
    | true =>
     simp only [cond_true]
     cases l with
     | nil => rfl
     | cons y l' => simp only [List.length_cons] at h; simp only []; rw [this l' (k + 2) (by omega) (by omega)]; rfl
theorem pos_pl (p : List Instr) (t : Int) : posIn (firstsL p 0) t = pl p t := by
 rw [pos_marks _ p 0 t (Nat.le_refl _), pl, gt, show t - 0 = t from by omega, show (0 : Int) + (p.length : Int) = p.length from by omega]
 rfl
theorem mem_firsts : ∀ (n : Nat) (l : List Instr) (k : Int), l.length ≤ n → 0 ≤ k → ∀ y ∈ firstsL l k, k ≤ y.1 ∧ y.1 < k + l.length ∧ ∃ j : Nat, y.1 = k + j ∧ ∃ x, l[j]? = some x ∧ y.2 = fn89 x
 | _, [], k, _, _, y, hy => by simp [firstsL] at hy
 | 0, x :: l, k, h, _, y, hy => by simp at h
 | n + 1, x :: l, k, h, h0, y, hy => by
  rw [firstsL_cons] at hy
  simp only [List.length_cons] at h
  rcases List.mem_cons.1 hy with rfl | hy
  ·exact ⟨Int.le_refl _, by simp; omega, 0, by simp, x, rfl, rfl⟩
  ·cases hw : (x.fOp == 24) with
   | false =>
    rw [hw] at hy; simp only [cond_false] at hy
    obtain ⟨h1, h2, j, h3, z, h4, h5⟩ := mem_firsts n l (k + 1) (by omega) (by omega) y hy
    exact ⟨by omega, by simp; omega, j + 1, by omega, z, by simpa using h4, h5⟩
   | true =>
    rw [hw] at hy; simp only [cond_true] at hy
    cases l with
    | nil => simp at hy
    | cons x2 l' =>
     simp only [List.length_cons] at h
     obtain ⟨h1, h2, j, h3, z, h4, h5⟩ := mem_firsts n l' (k + 2) (by omega) (by omega) y hy
     exact ⟨by omega, by simp; omega, j + 2, by omega, z, by simpa using h4, h5⟩
theorem first_slot {p : List Instr} {y : Int × Slot} (hy : y ∈ firstsL p 0) : 0 ≤ y.1 ∧ y.1 < p.length ∧ y.2 = fn89 (gt p y.1) := by
 obtain ⟨h1, h2, j, h3, x, h4, h5⟩ := mem_firsts _ p 0 (Nat.le_refl _) (Int.le_refl _) y hy
 refine ⟨h1, by omega, ?_⟩
 rw [h5, h3]
 simp [gt, h4]
end Go.Proofs.YthpjmknpkdoadaaGreat
namespace Go.Proofs.YthpjmknpkdoadaaGreat
open Go Go.HW
set_option maxRecDepth 8000
set_option linter.unusedVariables false
def sec (p : List Instr) (k : Int) : Int :=
 bif decide ((p.length : Int) ≤ k + 1) then 23 else
 bif (!(((gt p (k + 1)).fOp == 0) && (((gt p (k + 1)).fDst == 0) && (((gt p (k + 1)).fSrc == 0) && (((gt p (k + 1)).fOff == 0)))))) || (((gt p k).fSrc == 1) && ((gt p (k + 1)).fImm != 0)) then 22 else 0
def er (p : List Instr) (k : Int) : Int :=
 bif !fn117 (gt p k) then 20 else bif !fn41 (fn89 (gt p k)) then 21 else bif !fn119 (gt p k) then 22 else
 bif ((gt p k).fOp == 24) && (sec p k != 0) then sec p k else
 bif (fn120 (gt p k) k).2 && !(pl p (fn120 (gt p k) k).1) then 23 else 0
theorem fn43_sec {p : List Instr} {k : Int} (hp : p.length ≤ 5000) (h0 : 0 ≤ k) (h1 : k < p.length) : fn43 p k = some (sec p k) := by
 have e1 : IntKind.i64.wrap (k + 1) = k + 1 := w64 (by omega)
 simp only [fn43, sec, e1]
 by_cases hl : (p.length : Int) ≤ k + 1
 ·simp [hl]
 ·have h2 : decide ((p.length : Int) ≤ k + 1) = false := by simp; omega
  have h3 : inb (k + 1) p.length = true := inb_iff.2 ⟨by omega, by omega⟩
  have h4 : inb k p.length = true := inb_iff.2 ⟨h0, h1⟩
  simp only [h2, h3, h4, cond_false, cond_true, beq_self_eq_true, Bool.and_true]
  generalize (!(((gt p (k + 1)).fOp == 0) && (((gt p (k + 1)).fDst == 0) && (((gt p (k + 1)).fSrc == 0) && (((gt p (k + 1)).fOff == 0)))))) = a
  generalize (((gt p k).fSrc == 1) && ((gt p (k + 1)).fImm != 0)) = b
  cases a <;> cases b <;> rfl
theorem fn70_er {p : List Instr} {k : Int} (hp : p.length ≤ 5000) (h0 : 0 ≤ k) (h1 : k < p.length) : fn70 p (marks p) k = some (er p k) := by
 have e1 : IntKind.i64.wrap (k + 1) = k + 1 := w64 (by omega)
 have h4 : inb k p.length = true := inb_iff.2 ⟨h0, h1⟩
 have hpl : ∀ t : Int × Bool, (bif bif t.2 then (bif (decide (t.1 < 0)) || (decide ((p.length : Int) ≤ t.1)) then true else (inb t.1 (marks p).length)) else true then (bif t.2 && (((decide (t.1 < 0)) || (decide ((p.length : Int) ≤ t.1))) || (!(gt (marks p) t.1))) then (some 23) else (some 0)) else none) = some (bif t.2 && !(pl p t.1) then (23 : Int) else 0) := by
  rintro ⟨t, b⟩
  cases b with
  | false => rfl
  | true =>
   simp only [cond_true, Bool.true_and]
   by_cases ht0 : t < 0
   ·have : pl p t = false := by simp [pl]; omega
    simp [ht0, this]
   ·by_cases ht1 : (p.length : Int) ≤ t
    ·have : pl p t = false := by simp [pl]; omega
     simp [ht0, ht1, this]
    ·have : pl p t = gt (marks p) t := by
      have a : decide (0 ≤ t) = true := by simp; omega
      have b : decide (t < (p.length : Int)) = true := by simp; omega
      simp [pl, a, b]
     have h5 : inb t (marks p).length = true := by rw [marks_length]; exact inb_iff.2 ⟨by omega, by omega⟩
     simp only [ht0, ht1, this, decide_false, cond_false, h5, cond_true, Bool.false_or]
     cases gt (marks p) t <;> rfl
 simp only [fn70, er, bindP, h4, cond_true, rg_eq]
 cases fn117 (gt p k) with
 | false => rfl
 | true =>
 simp only [Bool.not_true, cond_false]
 cases ((decide ((10 : Int) < (gt p k).fDst)) || (decide ((10 : Int) < (gt p k).fSrc))) || (((gt p k).fDst == 10) && fn118 (gt p k)) with
 | true => rfl
 | false =>
 simp only [Bool.not_false, Bool.not_true, cond_false]
 cases fn119 (gt p k) with
 | false => rfl
 | true =>
 simp only [Bool.not_true, cond_false, fn116, hpl]
 cases hw : ((gt p k).fOp == 24) with
 | false => simp
 | true =>
  simp only [cond_true, e1, Bool.true_and, sec]
  by_cases hl : (p.length : Int) ≤ k + 1
  ·simp [hl]
  ·have h2 : decide ((p.length : Int) ≤ k + 1) = false := by simp; omega
   have h3 : inb (k + 1) p.length = true := inb_iff.2 ⟨by omega, by omega⟩
   have hb : ∀ A B : Bool, (bif A then true else bif B then true else true) = true := by intro A B; cases A <;> cases B <;> rfl
   simp only [h2, h3, cond_false, cond_true, beq_self_eq_true, Bool.and_true, hb]
   generalize ((!(((gt p (k + 1)).fOp == 0) && (((gt p (k + 1)).fDst == 0) && (((gt p (k + 1)).fSrc == 0) && (((gt p (k + 1)).fOff == 0)))))) || (((gt p k).fSrc == 1) && ((gt p (k + 1)).fImm != 0))) = a
   cases a <;> rfl
theorem mget_put {κ α : Type} [DecidableEq κ] (z v : α) (k t : κ) : ∀ xs : List (κ × α), mget (mput xs k v) t z = if k = t then v else mget xs t z
 | [] => by by_cases h : k = t <;> simp [mget, mput, mfind, h]
 | p :: xs => by
  have ih := mget_put z v k t xs
  simp only [mget] at ih ⊢
  by_cases hp : p.1 = k
  ·by_cases h : k = t
   ·simp [mput, mfind, hp, h]
   ·have : ¬ p.1 = t := by rw [hp]; exact h
    simp [mput, mfind, hp, h]
  ·by_cases h : p.1 = t
   ·have : ¬ k = t := by intro e; exact hp (h.trans e.symm)
    have h2 : ¬ t = k := fun e => this e.symm
    simp [mput, mfind, h, this, h2]
   ·simp only [mput, hp, decide_false, cond_false, mfind, h]
    exact ih
theorem places_get : ∀ (l : List (Int × Slot)) (m : List (Int × Bool)) (t : Int), mget (l.foldl (fun s y => mput s y.1 true) m) t false = (posIn l t || mget m t false)
 | [], m, t => by simp [posIn]
 | y :: l, m, t => by
  rw [List.foldl_cons, places_get l _ t, mget_put]
  have : posIn (y :: l) t = ((y.1 == t) || posIn l t) := rfl
  rw [this]
  by_cases h : y.1 = t
  ·simp [h]
  ·have : (y.1 == t) = false := by simp [h]
   rw [if_neg h, this]; simp
def WF (p : List Instr) : Prop := ∀ x ∈ p, OkI x
theorem WF.gt {p : List Instr} (h : WF p) {k : Int} (h0 : 0 ≤ k) (h1 : k < p.length) : OkI (Go.HW.gt p k) := by
 apply h
 have : k.toNat < p.length := by omega
 simp only [Go.HW.gt, List.getD_eq_getElem?_getD, List.getElem?_eq_getElem this, Option.getD_some]
 exact List.getElem_mem _
theorem r2_er {F : Nat} {p : List Instr} (hF : 6000 ≤ F) (hp : p.length ≤ 5000) (hw : WF p) {m : List (Int × Bool)} (hm : ∀ t, mget m t false = pl p t) {k : Int} (h0 : 0 ≤ k) (h1 : k < p.length) (a b : Int) (c : Bool) :
  fn20_r2 F p m a b c k (fn89 (gt p k)) = some (bif er p k != 0 then ((k, er p k, c), 1) else ((a, b, refEnds (gt p k)), 0)) := by
 have ok := hw.gt h0 h1
 simp only [fn20_r2, bindP, er, kn_eq ok, pt_eq (F := F) (by omega) ok, fn43_sec hp h0 h1, hm, fn89_instr, Option.bind_some]
 cases hk : fn117 (gt p k) with
 | false => rfl
 | true =>
 rw [tg_eq ok hk, en_eq ok hk]
 simp only [Bool.not_true, cond_false]
 cases fn41 (fn89 (gt p k)) with
 | false => rfl
 | true =>
 simp only [Bool.not_true, cond_false]
 cases fn119 (gt p k) with
 | false => rfl
 | true =>
 simp only [Bool.not_true, cond_false]
 cases ((gt p k).fOp == 24) with
 | false =>
  simp only [cond_false, Bool.false_and]
  cases ((fn120 (gt p k) k).2 && !(pl p (fn120 (gt p k) k).1)) <;> rfl
 | true =>
  simp only [cond_true, Bool.true_and]
  cases hs : (sec p k != 0) with
  | true => simp [hs]
  | false =>
   simp only [cond_false]
   cases ((fn120 (gt p k) k).2 && !(pl p (fn120 (gt p k) k).1)) <;> rfl
def bad (p : List Instr) (y : Int × Slot) : Bool := er p y.1 != 0
def lastAt (l : List (Int × Slot)) (d : Int) : Int := l.foldl (fun _ y => y.1) d
def chk (p : List Instr) : Int × Int :=
 bif ((p.length : Int) == 0) || (decide ((4096 : Int) < (p.length : Int))) then (0, 3) else
 match (firstsL p 0).find? (bad p) with
 | some y => (y.1, er p y.1)
 | none => bif refEnds (gt p (lastAt (firstsL p 0) 0)) then (0, 0) else ((p.length : Int) - 1, 24)
theorem run_er {F : Nat} {p : List Instr} (hF : 6000 ≤ F) (hp : p.length ≤ 5000) (hw : WF p) {m : List (Int × Bool)} (hm : ∀ t, mget m t false = pl p t) (a b : Int) : ∀ (l : List (Int × Slot)) (c : Bool), (∀ y ∈ l, y ∈ firstsL p 0) →
  ∃ c', runL (stepR (fun (s : Int × Int × Bool) (y : Int × Slot) => fn20_r2 F p m s.1 s.2.1 s.2.2 y.1 y.2)) goR l ((a, b, c), 0) =
   (match l.find? (bad p) with | some y => some ((y.1, er p y.1, c'), 1) | none => some ((a, b, c'), 0)) ∧ (l.find? (bad p) = none → c' = bif l.isEmpty then c else refEnds (gt p (lastAt l 0)))
 | [], c, _ => ⟨c, rfl, fun _ => rfl⟩
 | y :: l, c, h => by
  obtain ⟨h0, h1, h2⟩ := first_slot (h y (by simp))
  have hr := r2_er hF hp hw hm h0 h1 a b c
  rw [← h2] at hr
  simp only [runL, stepR, show Nat.beq 0 0 = true from rfl, cond_true, hr, Option.bind_some, List.find?_cons]
  cases hb : (er p y.1 != 0) with
  | true =>
   have : bad p y = true := hb
   rw [this]
   refine ⟨c, rfl, fun h => by cases h⟩
  | false =>
   have : bad p y = false := hb
   rw [this]
   obtain ⟨c', e1, e2⟩ := run_er hF hp hw hm a b l (refEnds (gt p y.1)) (fun z hz => h z (by simp [hz]))
   refine ⟨c', ?_, fun hn => ?_⟩
   ·simp only [cond_false, goR, show Nat.beq 0 0 = true from rfl, cond_true]; exact e1
   ·rw [e2 hn]
    cases l with
    | nil => rfl
    | cons z l' => rfl
theorem firsts_ne {p : List Instr} (h : p ≠ []) : (firstsL p 0).isEmpty = false := by
 cases p with
 | nil => exact absurd rfl h
 | cons x l => rw [firstsL_cons]; rfl
theorem check_prog {F : Nat} {p : List Instr} (hF : 6000 ≤ F) (hp : p.length ≤ 5000) (hw : WF p) : fn20 F p = some (chk p) := by
 rw [fn20, chk]
 cases hl : (((p.length : Int) == 0) || (decide ((4096 : Int) < (p.length : Int)))) with
 | true => rfl
 | false =>
  simp only [cond_false]
  have hne : p ≠ [] := by rintro rfl; simp at hl
  rw [fn88_run _ _ _ _ (by omega) (by omega), runL_all (stepB := fun (s : List (Int × Bool)) (y : Int × Slot) => fn20_r1 s y.1 y.2) (f := fun s y => mput s y.1 true) _ _ (fun s y _ => rfl)]
  rw [Option.bind_some, show Nat.beq 0 0 = true from rfl, cond_true, fn20_k1_0, fn88_run _ _ _ _ (by omega) (by omega)]
  have hm : ∀ t, mget ((firstsL p 0).foldl (fun s (y : Int × Slot) => mput s y.1 true) []) t false = pl p t := fun t => by
   rw [places_get, pos_pl]; simp [mget, mfind]
  obtain ⟨c', e1, e2⟩ := run_er hF hp hw hm 0 0 (firstsL p 0) false (fun y hy => hy)
  rw [e1]
  cases hf : (firstsL p 0).find? (bad p) with
  | some y => rfl
  | none =>
   have := e2 hf
   rw [firsts_ne hne, cond_false] at this
   subst this
   have hw' : IntKind.i64.wrap ((p.length : Int) - 1) = (p.length : Int) - 1 := w64 (by omega)
   simp only [Option.bind_some, show Nat.beq 0 1 = false from rfl, show Nat.beq 0 0 = true from rfl, cond_true, cond_false, fn20_k2_1, hw']
   cases refEnds (gt p (lastAt (firstsL p 0) 0)) <;> rfl
end Go.Proofs.YthpjmknpkdoadaaGreat
namespace Go.Proofs.YthpjmknpkdoadaaGreat
open Go Go.HW
set_option maxRecDepth 8000
set_option linter.unusedVariables false
theorem bd_step {p : List Instr} {k : Nat} (hb : (marks p).drop k = marks (p.drop k)) (hk : k < p.length) : gt (marks p) (k : Int) = true ∧
  (((gt p (k : Int)).fOp == 24) = false → (marks p).drop (k + 1) = marks (p.drop (k + 1))) ∧
  (((gt p (k : Int)).fOp == 24) = true → p.length ≤ k + 1 ∨ (k + 1 < p.length ∧ gt (marks p) ((k + 1 : Nat) : Int) = false ∧ (marks p).drop (k + 2) = marks (p.drop (k + 2)))) := by
 have hg : p.drop k = gt p (k : Int) :: p.drop (k + 1) := gt_drop (q := p) (x := (k : Int)) (by omega) (by omega)
 rw [hg, marks_cons] at hb
 obtain ⟨h1, h2, h3⟩ := drop_cons' hb
 have hget : ∀ (j : Nat) (b : Bool), (marks p)[j]? = some b → gt (marks p) (j : Int) = b := fun j b h => by simp [gt, h]
 refine ⟨hget k true h3, fun hw => ?_, fun hw => ?_⟩
 ·rw [h2, hw, cond_false]
 ·rw [hw, cond_true] at h2
  rcases Nat.lt_or_ge (k + 1) p.length with hl | hl
  ·have hg2 : p.drop (k + 1) = gt p ((k + 1 : Nat) : Int) :: p.drop (k + 1 + 1) := gt_drop (q := p) (x := ((k + 1 : Nat) : Int)) (by omega) (by omega)
   rw [hg2] at h2
   obtain ⟨_, h4, h5⟩ := drop_cons' h2
   exact .inr ⟨hl, hget _ _ h5, h4⟩
  ·exact .inl hl
theorem check_loop {p : List Instr} (hp : p.length ≤ 5000) : ∀ (n k : Nat) (last : Int), k ≤ p.length → p.length - k < n → (marks p).drop k = marks (p.drop k) →
  fn28_l1 p (marks p) n last (k : Int) = (match (firstsL (p.drop k) k).find? (bad p) with | some y => some (.inr (y.1, er p y.1)) | none => some (.inl (lastAt (firstsL (p.drop k) k) last)))
 | 0, k, last, h1, h2, h3 => by omega
 | 1, k, last, h1, h2, h3 => by
  have h0 : decide ((k : Int) < (p.length : Int)) = false := by simp; omega
  rw [fn28_l1_s, h0, List.drop_eq_nil_of_le (by omega)]; rfl
 | n + 2, k, last, h1, h2, h3 => by
  rw [fn28_l1_s]
  by_cases hk : k < p.length
  ·obtain ⟨b1, b2, b3⟩ := bd_step h3 hk
   have g1 : decide ((k : Int) < (p.length : Int)) = true := by simp; omega
   have g2 : inb (k : Int) (marks p).length = true := by rw [marks_length]; exact inb_iff.2 ⟨by omega, by omega⟩
   have g3 : IntKind.i64.wrap ((k : Int) + 1) = ((k + 1 : Nat) : Int) := w64 (by omega)
   have g4 : IntKind.i64.wrap (((k + 1 : Nat) : Int) + 1) = ((k + 2 : Nat) : Int) := w64 (by omega)
   have hg : p.drop k = gt p (k : Int) :: p.drop (k + 1) := gt_drop (q := p) (x := (k : Int)) (by omega) (by omega)
   simp only [g1, g2, cond_true, b1, Bool.not_true, cond_false, fn70_er hp (show (0 : Int) ≤ (k : Int) by omega) (show (k : Int) < (p.length : Int) by omega), Option.bind_some, g3]
   rw [hg, firstsL_cons, List.find?_cons]
   cases hbad : (er p (k : Int) != 0) with
   | true =>
    have : bad p ((k : Int), fn89 (gt p (k : Int))) = true := hbad
    rw [this]; rfl
   | false =>
    have : bad p ((k : Int), fn89 (gt p (k : Int))) = false := hbad
    rw [this]
    simp only [cond_false]
    have la : ∀ (l : List (Int × Slot)) (s : Slot) (d : Int), lastAt (((k : Int), s) :: l) d = lastAt l (k : Int) := fun _ _ _ => rfl
    cases hw : ((gt p (k : Int)).fOp == 24) with
    | false =>
     rw [check_loop hp (n + 1) (k + 1) (k : Int) (by omega) (by omega) (b2 hw)]
     simp only [cond_false, la]
     rfl
    | true =>
     simp only [cond_true, la]
     rcases b3 hw with hl | ⟨hl, c1, c2⟩
     ·have h0 : decide (((k + 1 : Nat) : Int) < (p.length : Int)) = false := by simp; omega
      rw [fn28_l1_s, h0, List.drop_eq_nil_of_le hl]; rfl
     ·have q1 : decide (((k + 1 : Nat) : Int) < (p.length : Int)) = true := by simp; omega
      have q2 : inb ((k + 1 : Nat) : Int) (marks p).length = true := by rw [marks_length]; exact inb_iff.2 ⟨by omega, by omega⟩
      have hg2 : p.drop (k + 1) = gt p ((k + 1 : Nat) : Int) :: p.drop (k + 2) := gt_drop (q := p) (x := ((k + 1 : Nat) : Int)) (by omega) (by omega)
      rw [fn28_l1_s, q1, q2, c1, g4]
      simp only [cond_true, Bool.not_false]
      rw [check_loop hp n (k + 2) (k : Int) (by omega) (by omega) c2, hg2]
      rfl
  ·have h0 : decide ((k : Int) < (p.length : Int)) = false := by simp; omega
   rw [h0, List.drop_eq_nil_of_le (by omega)]; rfl
theorem lastAt_mem : ∀ (l : List (Int × Slot)) (d : Int), l ≠ [] → ∃ y ∈ l, y.1 = lastAt l d
 | [], _, h => absurd rfl h
 | [y], d, _ => ⟨y, by simp, rfl⟩
 | y :: z :: l, d, _ => by
  obtain ⟨w, h1, h2⟩ := lastAt_mem (z :: l) y.1 (by simp)
  exact ⟨w, by simp at h1 ⊢; exact .inr h1, h2⟩
theorem last_in {p : List Instr} (h : p ≠ []) : 0 ≤ lastAt (firstsL p 0) 0 ∧ lastAt (firstsL p 0) 0 < p.length := by
 obtain ⟨y, h1, h2⟩ := lastAt_mem (firstsL p 0) 0 (by intro e; have := firsts_ne h; rw [e] at this; cases this)
 rw [← h2]
 exact ⟨(first_slot h1).1, (first_slot h1).2.1⟩
theorem check_ref {F : Nat} {p : List Instr} (hF : 6000 ≤ F) (hp : p.length ≤ 5000) : fn28 F p = some (chk p) := by
 rw [fn28, chk]
 cases hl : (((p.length : Int) == 0) || (decide ((4096 : Int) < (p.length : Int)))) with
 | true => rfl
 | false =>
  simp only [cond_false]
  have hne : p ≠ [] := by rintro rfl; simp at hl
  rw [firsts_ref p hp hF, Option.bind_some]
  have := check_loop hp F 0 0 (by omega) (by omega) rfl
  rw [show ((0 : Nat) : Int) = 0 from rfl, List.drop_zero] at this
  rw [this]
  cases (firstsL p 0).find? (bad p) with
  | some y => rfl
  | none =>
   obtain ⟨l0, l1⟩ := last_in hne
   have g : inb (lastAt (firstsL p 0) 0) p.length = true := inb_iff.2 ⟨l0, l1⟩
   have hw' : IntKind.i64.wrap ((p.length : Int) - 1) = (p.length : Int) - 1 := w64 (by omega)
   simp only [Option.bind_some, fn28_k1, g, cond_true, bindP, hw']
   have : refEnds (gt p (lastAt (firstsL p 0) 0)) = (((fn71 (gt p (lastAt (firstsL p 0) 0)) == 5) && ((fn72 (gt p (lastAt (firstsL p 0) 0)) == 144) || (fn72 (gt p (lastAt (firstsL p 0) 0)) == 0))) || ((fn71 (gt p (lastAt (firstsL p 0) 0)) == 6) && (fn72 (gt p (lastAt (firstsL p 0) 0)) == 0))) := rfl
   rw [← this]
   cases refEnds (gt p (lastAt (firstsL p 0) 0)) <;> rfl
def okP (p : List Instr) : Bool := (chk p).2 == 0
theorem ok_len {p : List Instr} (h : okP p = true) : p ≠ [] ∧ p.length ≤ 4096 := by
 unfold okP chk at h
 cases hl : (((p.length : Int) == 0) || (decide ((4096 : Int) < (p.length : Int)))) with
 | true => rw [hl] at h; simp at h
 | false =>
  simp at hl
  exact ⟨hl.1, by omega⟩
theorem ok_er {p : List Instr} (h : okP p = true) : ∀ y ∈ firstsL p 0, er p y.1 = 0 := by
 obtain ⟨h1, h2⟩ := ok_len h
 unfold okP chk at h
 cases hl : (((p.length : Int) == 0) || (decide ((4096 : Int) < (p.length : Int)))) with
 | true => simp at hl; rcases hl with e | e; exact absurd e h1; omega
 | false =>
  rw [hl] at h
  simp only [cond_false] at h
  cases hf : (firstsL p 0).find? (bad p) with
  | some y =>
   rw [hf] at h
   have := List.find?_some hf
   simp [bad] at this
   simp at h
   exact absurd h this
  | none =>
   intro y hy
   have := List.find?_eq_none.1 hf y hy
   simpa [bad] using this
theorem er_known {p : List Instr} {k : Int} (h : er p k = 0) : fn117 (gt p k) = true := by
 unfold er at h
 cases hk : fn117 (gt p k) with
 | true => rfl
 | false => rw [hk] at h; simp at h
end Go.Proofs.YthpjmknpkdoadaaGreat
namespace Go.Proofs.YthpjmknpkdoadaaGreat
open Go Go.HW
set_option maxRecDepth 8000
set_option linter.unusedVariables false
theorem mul_all : (List.range 4097).all (fun N => fn148 (IntKind.u64.wrap 1) (IntKind.u64.wrap (N : Int)) == (0, (N : Int))) = true := by kernel_rfl
theorem rep_loop (c : S__2_int) : ∀ (n : Nat) (ys : List S__2_int) (m : Nat), 1 ≤ m → m ≤ ys.length → ys.length ≤ 5000 → ys.length + 1 - m < n + 1 → ys.take m = List.replicate m c →
  fn129_l1 n ys (m : Int) = some (List.replicate ys.length c)
 | 0, ys, m, h0, h1, hb, h2, h3 => by omega
 | n + 1, ys, m, h0, h1, hb, h2, h3 => by
  rw [fn129_l1_s]
  by_cases hm : m < ys.length
  ·have g0 : decide ((m : Int) < (ys.length : Int)) = true := by simp; omega
   have k1 : sliceOk (m : Int) ((ys.length : Nat) : Int) ys.length = true := sliceOk_iff.2 ⟨by omega, by omega, by omega⟩
   have k2 : sliceOk ((0 : Nat) : Int) (m : Int) ys.length = true := sliceOk_iff.2 ⟨by omega, by omega, by omega⟩
   have e1 : cutX ys ((0 : Nat) : Int).toNat (((0 : Nat) : Int).toNat + ((m : Nat) : Int).toNat - ((0 : Nat) : Int).toNat) = List.replicate m c := by
    rw [show ((0 : Nat) : Int).toNat = 0 from rfl, show ((m : Nat) : Int).toNat = m from rfl, cutX, Nat.zero_add, Nat.sub_zero, h3, List.drop_zero]
   simp only [g0, cond_true, k1, k2, e1]
   rw [show ((m : Nat) : Int).toNat = m from rfl, show ((ys.length : Nat) : Int).toNat = ys.length from rfl, show m + (ys.length - m) - m = ys.length - m from by omega, List.length_replicate, List.take_replicate]
   have hw : IntKind.i64.wrap ((m : Int) + ((min m (ys.length - m) : Nat) : Int)) = ((m + min m (ys.length - m) : Nat) : Int) := w64 (by omega)
   rw [hw]
   have hp : (pasteX ys m (List.replicate (min (ys.length - m) m) c)).length = ys.length := pasteX_length (by simp; omega)
   have ht : (pasteX ys m (List.replicate (min (ys.length - m) m) c)).take (m + min m (ys.length - m)) = List.replicate (m + min m (ys.length - m)) c := by
    rw [pasteX, h3, List.take_append_of_le_length (by simp; omega), List.replicate_append_replicate, List.take_replicate]
    congr 1; omega
   rw [rep_loop c n _ _ (by omega) (by rw [hp]; omega) (by rw [hp]; exact hb) (by rw [hp]; omega) ht, hp]
  ·have g0 : decide ((m : Int) < (ys.length : Int)) = false := by simp; omega
   rw [g0, cond_false]
   have : m = ys.length := by omega
   subst this
   rw [← h3, List.take_length]
theorem repeat_eq {F : Nat} (N : Nat) (hF : 6000 ≤ F) (h1 : 1 ≤ N) (h2 : N ≤ 4096) (c : S__2_int) : fn129 F [c] (N : Int) = some (List.replicate N c) := by
 have hm : fn148 (IntKind.u64.wrap (([c] : List S__2_int).length : Int)) (IntKind.u64.wrap (N : Int)) = (0, (N : Int)) := by
  have := List.all_eq_true.1 mul_all N (by simp; omega)
  exact eq_of_beq this
 rw [fn129, hm]
 have g0 : decide ((N : Int) < 0) = false := by simp
 have g1 : (decide ((0 : Int) < (0, (N : Int)).1) || decide ((9223372036854775807 : Int) < (0, (N : Int)).2)) = false := by simp; omega
 have hw : IntKind.i64.wrap (0, (N : Int)).2 = (N : Int) := w64 (by simp; omega)
 have g2 : (decide (0 ≤ (N : Int)) && decide ((N : Int) ≤ (N : Int)) && decide ((16 : Int) * (N : Int) ≤ 281474976710656) && decide ((N : Int) ≤ 9223372036854775807)) = true := by simp; omega
 simp only [g0, cond_false, bindP, g1, hw, g2, cond_true, Int.toNat_natCast, List.length_replicate]
 have e1 : ([c] : List S__2_int).take (N - 0) = [c] := List.take_of_length_le (by simp; omega)
 have e2 : ((min ([c] : List S__2_int).length (N - 0) : Nat) : Int) = ((1 : Nat) : Int) := by simp; omega
 rw [e1, e2]
 have hp : (pasteX (List.replicate N (⟨0, 0⟩ : S__2_int)) 0 [c]).length = N := by rw [pasteX_length (by simp; omega)]; simp
 have := rep_loop c F (pasteX (List.replicate N (⟨0, 0⟩ : S__2_int)) 0 [c]) 1 (by omega) (by rw [hp]; omega) (by rw [hp]; omega) (by rw [hp]; omega) (by simp [pasteX])
 rw [hp] at this
 rw [this]; rfl
def way (p : List Instr) (k : Int) : S__2_int :=
 ⟨bif refEnds (gt p k) then -1 else bif (gt p k).fOp == 24 then k + 2 else k + 1, bif (fn120 (gt p k) k).2 then (fn120 (gt p k) k).1 else -1⟩
def wayAt (p : List Instr) (k : Int) : S__2_int := bif gt (marks p) k then way p k else ⟨-1, -1⟩
def ways (p : List Instr) : List S__2_int := bif okP p then (List.range p.length).map (fun i : Nat => wayAt p (i : Int)) else []
theorem next1_eq {p : List Instr} {k : Int} (hp : p.length ≤ 5000) (h0 : 0 ≤ k) (h1 : k < p.length) : fn121 p k = some ((way p k).e0, (way p k).e1) := by
 have e1 : IntKind.i64.wrap (k + 1) = k + 1 := w64 (by omega)
 have e2 : IntKind.i64.wrap (k + 2) = k + 2 := w64 (by omega)
 have g : inb k p.length = true := inb_iff.2 ⟨h0, h1⟩
 have hr : refEnds (gt p k) = (((fn71 (gt p k) == 5) && ((fn72 (gt p k) == 144) || (fn72 (gt p k) == 0))) || ((fn71 (gt p k) == 6) && (fn72 (gt p k) == 0))) := rfl
 simp only [fn121, way, g, cond_true, bindP, fn116, e1, e2, ← hr]
 cases ((gt p k).fOp == 24) <;> cases (fn120 (gt p k) k).2 <;> cases refEnds (gt p k) <;> rfl
theorem way_eq {p : List Instr} {k : Int} (hp : p.length ≤ 5000) (hw : WF p) (h0 : 0 ≤ k) (h1 : k < p.length) (hk : fn117 (gt p k) = true) : fn130 (fn89 (gt p k)) k = way p k := by
 have e1 : IntKind.i64.wrap (k + 1) = k + 1 := w64 (by omega)
 have e2 : IntKind.i64.wrap (k + 1 + 1) = k + 2 := by rw [w64 (by omega)]; omega
 have ok := hw.gt h0 h1
 simp only [fn130, way, bindP, tg_eq ok hk, en_eq ok hk, fn89_instr, e1, e2]
 cases ((gt p k).fOp == 24) <;> cases (fn120 (gt p k) k).2 <;> cases refEnds (gt p k) <;> rfl
theorem set_fold {α : Type} (f : Int → α) : ∀ (l : List Int) (ys : List α) (i : Nat), (l.foldl (fun s y => s.set y.toNat (f y)) ys).length = ys.length ∧
  ((∀ y ∈ l, 0 ≤ y) → (l.foldl (fun s y => s.set y.toNat (f y)) ys)[i]? = if (i : Int) ∈ l ∧ i < ys.length then some (f i) else ys[i]?)
 | [], ys, i => ⟨rfl, fun _ => by simp⟩
 | y :: l, ys, i => by
  obtain ⟨h1, h2⟩ := set_fold f l (ys.set y.toNat (f y)) i
  refine ⟨by rw [List.foldl_cons, h1, List.length_set], fun h => ?_⟩
  have hy := h y (by simp)
  rw [List.foldl_cons, h2 (fun z hz => h z (by simp [hz])), List.length_set, List.getElem?_set]
  by_cases hl : (i : Int) ∈ l
  ·by_cases hi : i < ys.length
   ·simp [hl, hi]
   ·simp [hi]; omega
  ·by_cases hyi : y = (i : Int)
   ·subst hyi
    by_cases hi : i < ys.length
    ·simp [hl, hi]
    ·simp [hi]
   ·have : ¬ y.toNat = i := by omega
    have : ¬ (i : Int) = y := fun e => hyi e.symm
    simp [*]
theorem ways_prog {F : Nat} {p : List Instr} (hF : 6000 ≤ F) (hp : p.length ≤ 5000) (hw : WF p) : fn103 F p = some (ways p) := by
 rw [fn103, check_prog hF hp hw, Option.bind_some, ways]
 cases ho : okP p with
 | false =>
  have : ((chk p).2 != 0) = true := by unfold okP at ho; simpa [bne] using ho
  rw [this]; rfl
 | true =>
  have h0 : ((chk p).2 != 0) = false := by unfold okP at ho; simpa [bne] using ho
  obtain ⟨hne, hlen⟩ := ok_len ho
  have hpos : 1 ≤ p.length := List.length_pos_iff.2 hne
  rw [h0, cond_false, cond_true, repeat_eq p.length hF hpos hlen, Option.bind_some]
  rw [fn88_run _ _ _ _ (by omega) (by omega)]
  have hk : ∀ y ∈ firstsL p 0, fn130 y.2 y.1 = way p y.1 := fun y hy => by
   obtain ⟨a, b, c⟩ := first_slot hy
   rw [c, way_eq hp hw a b (er_known (ok_er ho y hy))]
  obtain ⟨r1, r2⟩ := runL_inv (stepB := fun (s : List S__2_int) (y : Int × Slot) => fn103_r1 s y.1 y.2) (f := fun s y => s.set y.1.toNat (way p y.1)) (P := fun s => s.length = p.length) (firstsL p 0) (List.replicate p.length ⟨-1, -1⟩) (by simp) (fun s y hy hs => by
   obtain ⟨a, b, c⟩ := first_slot hy
   have g : inb y.1 s.length = true := by rw [hs]; exact inb_iff.2 ⟨a, b⟩
   refine ⟨by simp only [fn103_r1, bindP, hk y hy, g, cond_true], by simp [hs]⟩)
  rw [r1]
  simp only [Option.bind_some, show Nat.beq 0 0 = true from rfl, cond_true, fn103_k1_0]
  congr 1
  apply List.ext_getElem?
  intro i
  have hf : (firstsL p 0).foldl (fun (s : List S__2_int) (y : Int × Slot) => s.set y.1.toNat (way p y.1)) (List.replicate p.length ⟨-1, -1⟩) = ((firstsL p 0).map (·.1)).foldl (fun s y => s.set y.toNat (way p y)) (List.replicate p.length ⟨-1, -1⟩) := by rw [List.foldl_map]
  rw [hf, (set_fold (way p) _ _ i).2 (fun y hy => by obtain ⟨z, hz, rfl⟩ := List.mem_map.1 hy; exact (first_slot hz).1)]
  have hpl := pos_pl p (i : Int)
  have hmem : ((i : Int) ∈ (firstsL p 0).map (·.1)) ↔ pl p (i : Int) = true := by
   rw [← hpl, posIn, List.any_eq_true]
   constructor
   ·intro h; obtain ⟨y, h1, h2⟩ := List.mem_map.1 h; exact ⟨y, h1, by simp [h2]⟩
   ·rintro ⟨y, h1, h2⟩; exact List.mem_map.2 ⟨y, h1, by simpa using h2⟩
  rw [List.length_replicate, List.getElem?_map]
  by_cases hi : i < p.length
  ·have e : pl p (i : Int) = gt (marks p) (i : Int) := by
    have a : decide ((0 : Int) ≤ (i : Int)) = true := by simp
    have b : decide ((i : Int) < (p.length : Int)) = true := by simp; omega
    rw [pl, a, b]; rfl
   rw [e] at hmem
   rw [List.getElem?_range hi, Option.map_some, wayAt]
   cases hg : gt (marks p) (i : Int) with
   | true => rw [hg] at hmem; rw [if_pos ⟨hmem.2 rfl, hi⟩]; rfl
   | false => rw [hg] at hmem; rw [if_neg (fun h => by have := hmem.1 h.1; cases this), List.getElem?_replicate, if_pos hi]; rfl
  ·rw [if_neg (fun h => hi h.2), List.getElem?_eq_none (by simp; omega), List.getElem?_eq_none (by simp; omega)]; rfl
end Go.Proofs.YthpjmknpkdoadaaGreat
namespace Go.Proofs.YthpjmknpkdoadaaGreat
open Go Go.HW
set_option maxRecDepth 8000
set_option linter.unusedVariables false
def outs (w : S__2_int) : List Int := [w.e0, w.e1].filter (fun t => decide (0 ≤ t))
def stp (p : List Instr) : List (List Int) := (ways p).map outs
def edgesOf : List (List Int) → Int → List (Int × Int)
 | [], _ => []
 | a :: l, k => a.map (fun t => (k, t)) ++ edgesOf l (k + 1)
def mkE (e : Int × Int) : Edge := ⟨e.1, e.2⟩
def eds (p : List Instr) : List (Int × Int) := edgesOf (stp p) 0
theorem ways_length (p : List Instr) : (ways p).length = if okP p then p.length else 0 := by
 unfold ways; cases okP p <;> simp
theorem stp_length (p : List Instr) : (stp p).length = if okP p then p.length else 0 := by rw [stp, List.length_map, ways_length]
theorem l2_outs {n : Nat} (v : List S__2_int) (k : Int) (hn : 3 ≤ n) : fn59_l2 v k n [] 0 = some (outs (gt v k)) := by
 obtain ⟨m, rfl⟩ : ∃ m, n = m + 3 := ⟨n - 3, by omega⟩
 have w1 : IntKind.i64.wrap (0 + 1) = 1 := by decide
 have w2 : IntKind.i64.wrap (1 + 1) = 2 := by decide
 have g0 : gt ([(gt v k).e0, (gt v k).e1] : List Int) 0 = (gt v k).e0 := rfl
 have g1 : gt ([(gt v k).e0, (gt v k).e1] : List Int) 1 = (gt v k).e1 := rfl
 have i0 : inb 0 ([(gt v k).e0, (gt v k).e1] : List Int).length = true := rfl
 have i1 : inb 1 ([(gt v k).e0, (gt v k).e1] : List Int).length = true := rfl
 have l0 : decide ((0 : Int) < 2) = true := rfl
 have l1 : decide ((1 : Int) < 2) = true := rfl
 have l2 : decide ((2 : Int) < 2) = false := rfl
 rw [fn59_l2_s, l0, i0, g0, w1]
 simp only [cond_true]
 cases h0 : decide ((0 : Int) ≤ (gt v k).e0) with
 | true =>
  have c1 : decide ((([] : List Int).length + ([(gt v k).e0] : List Int).length) * 8 ≤ 140737488355328 ∧ ([] : List Int).length + ([(gt v k).e0] : List Int).length ≤ 9223372036854775807) = true := by simp
  rw [cond_true, c1, cond_true, fn59_l2_s, l1, i1, g1, w2]
  simp only [cond_true]
  cases h1 : decide ((0 : Int) ≤ (gt v k).e1) with
  | true =>
   have c2 : decide ((([] ++ [(gt v k).e0] : List Int).length + ([(gt v k).e1] : List Int).length) * 8 ≤ 140737488355328 ∧ ([] ++ [(gt v k).e0] : List Int).length + ([(gt v k).e1] : List Int).length ≤ 9223372036854775807) = true := by simp
   rw [cond_true, c2, cond_true, fn59_l2_s, l2]
   simp [outs]
   simp at h0 h1; simp [h0, h1]
  | false =>
   rw [cond_false, fn59_l2_s, l2]
   simp at h0 h1
   have : ¬ 0 ≤ (gt v k).e1 := by omega
   simp [outs, h0, this]
 | false =>
  rw [cond_false, fn59_l2_s, l1, i1, g1, w2]
  simp only [cond_true]
  simp at h0
  have n0 : ¬ 0 ≤ (gt v k).e0 := by omega
  cases h1 : decide ((0 : Int) ≤ (gt v k).e1) with
  | true =>
   have c2 : decide ((([] : List Int).length + ([(gt v k).e1] : List Int).length) * 8 ≤ 140737488355328 ∧ ([] : List Int).length + ([(gt v k).e1] : List Int).length ≤ 9223372036854775807) = true := by simp
   rw [cond_true, c2, cond_true, fn59_l2_s, l2]
   simp at h1
   simp [outs, n0, h1]
  | false =>
   rw [cond_false, fn59_l2_s, l2]
   simp at h1
   have : ¬ 0 ≤ (gt v k).e1 := by omega
   simp [outs, n0, this]
theorem drop_gt {α : Type} [Inhabited α] {v : List α} {k : Nat} (h : k < v.length) : v.drop k = gt v (k : Int) :: v.drop (k + 1) := by
 rw [List.drop_eq_getElem_cons h]; congr 1; simp [gt, h]
theorem l1_steps {F : Nat} (hF : 6000 ≤ F) (v : List S__2_int) (hv : v.length ≤ 5000) : ∀ (n : Nat) (acc : List (List Int)) (k : Nat), k ≤ v.length → acc.length = k → v.length - k < n →
  fn59_l1 F v n acc (k : Int) = some (acc ++ (v.drop k).map outs)
 | 0, acc, k, h1, h2, h3 => by omega
 | n + 1, acc, k, h1, h2, h3 => by
  rw [fn59_l1_s]
  by_cases hk : k < v.length
  ·have g1 : decide ((k : Int) < (v.length : Int)) = true := by simp; omega
   have g2 : inb (k : Int) v.length = true := inb_iff.2 ⟨by omega, by omega⟩
   have g3 : decide ((acc.length + 1) * 24 ≤ 140737488355328 ∧ acc.length + 1 ≤ 9223372036854775807) = true := by simp; omega
   have g4 : IntKind.i64.wrap ((k : Int) + 1) = ((k + 1 : Nat) : Int) := w64 (by omega)
   rw [g1, g2, l2_outs v (k : Int) (by omega)]
   simp only [cond_true, Option.bind_some, fn59_k2, g3, g4]
   rw [l1_steps hF v hv n (acc ++ [outs (gt v (k : Int))]) (k + 1) (by omega) (by simp; omega) (by omega), drop_gt hk]
   simp
  ·have g1 : decide ((k : Int) < (v.length : Int)) = false := by simp; omega
   rw [g1, List.drop_eq_nil_of_le (by omega)]; simp
theorem steps_prog {F : Nat} {p : List Instr} (hF : 6000 ≤ F) (hp : p.length ≤ 5000) (hw : WF p) : fn59 F p = some (stp p) := by
 have hl := ways_length p
 have hl' : (ways p).length ≤ 5000 := by rw [hl]; split <;> omega
 rw [fn59, ways_prog hF hp hw, Option.bind_some]
 have := l1_steps hF (ways p) hl' F [] 0 (by omega) rfl (by omega)
 rw [show ((0 : Nat) : Int) = 0 from rfl] at this
 rw [this]; rfl
def runX {σ α : Type} (step : σ → α → Option σ) (go : σ → Bool) : List α → σ → Option (σ ⊕ σ)
 | [], s => some (.inl s)
 | x :: xs, s => (step s x).bind fun u => bif go u then runX step go xs u else some (.inr u)
def both {σ : Type} : σ ⊕ σ → σ | .inl u => u | .inr u => u
theorem runL_runX {σ α : Type} (step : σ → α → Option σ) (go : σ → Bool) : ∀ (l : List α) (s : σ), runL step go l s = (runX step go l s).map both
 | [], s => rfl
 | x :: xs, s => by
  rw [runL, runX]
  cases step s x with
  | none => rfl
  | some u =>
   simp only [Option.bind_some]
   cases go u with
   | true => simp only [cond_true]; exact runL_runX step go xs u
   | false => rfl
theorem runX_append {σ α : Type} (step : σ → α → Option σ) (go : σ → Bool) : ∀ (l m : List α) (s : σ), runX step go (l ++ m) s = (runX step go l s).bind fun o => match o with | .inl u => runX step go m u | .inr u => some (.inr u)
 | [], m, s => rfl
 | x :: xs, m, s => by
  rw [List.cons_append, runX, runX]
  cases step s x with
  | none => rfl
  | some u =>
   simp only [Option.bind_some]
   cases go u with
   | true => simp only [cond_true]; exact runX_append step go xs m u
   | false => rfl
def lift2 {σ : Type} : σ ⊕ σ → σ ⊕ (σ ⊕ σ) | .inl u => .inl u | .inr u => .inr (.inr u)
theorem e_l2 {σ : Type} (step : σ → (Int × Int) → Option σ) (go : σ → Bool) (v : List (List Int)) (k : Int) (hv : (gt v k).length ≤ 5000) : ∀ (n : Nat) (s : σ) (x : Nat), x ≤ (gt v k).length → (gt v k).length - x < n →
  fn108_l2 step go v k n s (x : Int) = (runX step go (((gt v k).drop x).map fun t => (k, t)) s).map lift2
 | 0, s, x, h1, h2 => by omega
 | n + 1, s, x, h1, h2 => by
  rw [fn108_l2_s]
  by_cases hx : x < (gt v k).length
  ·have g1 : decide ((x : Int) < ((gt v k).length : Int)) = true := by simp; omega
   have g2 : inb (x : Int) (gt v k).length = true := inb_iff.2 ⟨by omega, by omega⟩
   have g4 : IntKind.i64.wrap ((x : Int) + 1) = ((x + 1 : Nat) : Int) := w64 (by omega)
   rw [g1, g2, drop_gt hx, List.map_cons, runX, g4]
   simp only [cond_true]
   cases step s (k, gt (gt v k) (x : Int)) with
   | none => rfl
   | some u =>
    simp only [Option.bind_some]
    cases go u with
    | true => simp only [Bool.not_true, cond_false, cond_true]; exact e_l2 step go v k hv n u (x + 1) (by omega) (by omega)
    | false => rfl
  ·have g1 : decide ((x : Int) < ((gt v k).length : Int)) = false := by simp; omega
   rw [g1, List.drop_eq_nil_of_le (by omega)]; rfl
theorem e_l1 {σ : Type} {F : Nat} (hF : 6000 ≤ F) (step : σ → (Int × Int) → Option σ) (go : σ → Bool) (v : List (List Int)) (hv : v.length ≤ 5000) (hi : ∀ a ∈ v, a.length ≤ 5000) : ∀ (n : Nat) (s : σ) (k : Nat), k ≤ v.length → v.length - k < n →
  fn108_l1 F step go v n s (k : Int) = runX step go (edgesOf (v.drop k) k) s
 | 0, s, k, h1, h2 => by omega
 | n + 1, s, k, h1, h2 => by
  rw [fn108_l1_s]
  by_cases hk : k < v.length
  ·have g1 : decide ((k : Int) < (v.length : Int)) = true := by simp; omega
   have g2 : inb (k : Int) v.length = true := inb_iff.2 ⟨by omega, by omega⟩
   have g4 : IntKind.i64.wrap ((k : Int) + 1) = ((k + 1 : Nat) : Int) := w64 (by omega)
   have hm : gt v (k : Int) ∈ v := by simp [gt, hk]
   have := e_l2 step go v (k : Int) (hi _ hm) F s 0 (by omega) (by have := hi _ hm; omega)
   rw [show ((0 : Nat) : Int) = 0 from rfl, List.drop_zero] at this
   rw [g1, g2, this, drop_gt hk, edgesOf, runX_append]
   simp only [cond_true]
   cases runX step go ((gt v (k : Int)).map fun t => ((k : Int), t)) s with
   | none => rfl
   | some o =>
    cases o with
    | inl u =>
     simp only [Option.map_some, Option.bind_some, lift2, fn108_k2, g4]
     exact e_l1 hF step go v hv hi n u (k + 1) (by omega) (by omega)
    | inr u => rfl
  ·have g1 : decide ((k : Int) < (v.length : Int)) = false := by simp; omega
   rw [g1, List.drop_eq_nil_of_le (by omega)]; rfl
theorem outs_len (w : S__2_int) : (outs w).length ≤ 2 := List.length_filter_le _ _
theorem stp_in {p : List Instr} : ∀ a ∈ stp p, a.length ≤ 2 := by
 intro a ha
 obtain ⟨w, _, rfl⟩ := List.mem_map.1 ha
 exact outs_len w
theorem edges_run {σ : Type} {F : Nat} {p : List Instr} (hF : 6000 ≤ F) (hp : p.length ≤ 5000) (hw : WF p) (step : σ → (Int × Int) → Option σ) (go : σ → Bool) (s : σ) :
  fn108 F step go p s = runL step go (eds p) s := by
 have hl : (stp p).length ≤ 5000 := by rw [stp_length]; split <;> omega
 rw [fn108, steps_prog hF hp hw, Option.bind_some, runL_runX]
 have := e_l1 hF step go (stp p) hl (fun a ha => by have := stp_in a ha; omega) F s 0 (by omega) (by omega)
 rw [show ((0 : Nat) : Int) = 0 from rfl, List.drop_zero] at this
 rw [this, eds]
 cases runX step go (edgesOf (stp p) 0) s with
 | none => rfl
 | some o => cases o <;> rfl
theorem edgesOf_len : ∀ (l : List (List Int)) (k : Int), (∀ a ∈ l, a.length ≤ 2) → (edgesOf l k).length ≤ 2 * l.length
 | [], _, _ => by simp [edgesOf]
 | a :: l, k, h => by
  have h1 := h a (by simp)
  have h2 := edgesOf_len l (k + 1) (fun b hb => h b (by simp [hb]))
  rw [edgesOf, List.length_append, List.length_map, List.length_cons]; omega
theorem eds_len {p : List Instr} : (eds p).length ≤ 2 * p.length := by
 have := edgesOf_len (stp p) 0 stp_in
 rw [stp_length] at this
 split at this
 ·exact this
 ·have h : (eds p).length ≤ 2 * 0 := this
  omega
theorem runR_go {σ α : Type} {stepB : σ → α → Option (σ × Nat)} {s s' : σ} {x : α} {l : List α} (h : stepB s x = some (s', 0)) : runL (stepR stepB) goR (x :: l) (s, 0) = runL (stepR stepB) goR l (s', 0) := by
 simp only [runL, stepR, show Nat.beq 0 0 = true from rfl, cond_true, h, Option.bind_some, goR]
end Go.Proofs.YthpjmknpkdoadaaGreat
namespace Go.Proofs.YthpjmknpkdoadaaGreat
open Go Go.HW
set_option maxRecDepth 8000
set_option linter.unusedVariables false
abbrev U := Unit
theorem mhas_put {κ α : Type} [DecidableEq κ] (k : κ) (v : α) (t : κ) : ∀ xs : List (κ × α), mhas (mput xs k v) t = (decide (k = t) || mhas xs t)
 | [] => by by_cases h : k = t <;> simp [mhas, mput, mfind, h]
 | p :: xs => by
  have ih := mhas_put k v t xs
  simp only [mhas] at ih ⊢
  by_cases hp : p.1 = k
  ·by_cases h : k = t
   ·simp [mput, mfind, hp, h]
   ·have : ¬ p.1 = t := by rw [hp]; exact h
    simp [mput, mfind, hp, h]
  ·by_cases h : p.1 = t
   ·have : ¬ k = t := by intro e; exact hp (h.trans e.symm)
    have h2 : ¬ t = k := fun e => this e.symm
    simp [mput, mfind, h, this, h2]
   ·simp only [mput, hp, decide_false, cond_false, mfind, h]
    exact ih
def cnt (f : Int → Bool) : Nat → Nat
 | 0 => 0
 | n + 1 => cnt f n + (bif f (n : Int) then 0 else 1)
theorem cnt_le (f : Int → Bool) : ∀ n, cnt f n ≤ n
 | 0 => Nat.le_refl _
 | n + 1 => by have := cnt_le f n; rw [cnt]; cases f (n : Int) <;> simp <;> omega
theorem cnt_mono {f g : Int → Bool} : ∀ n : Nat, (∀ i : Int, 0 ≤ i → i < (n : Int) → f i = true → g i = true) → cnt g n ≤ cnt f n
 | 0, _ => Nat.le_refl _
 | n + 1, h => by
  have ih := cnt_mono (f := f) (g := g) n (fun i h0 h1 hf => h i h0 (by omega) hf)
  have := h (n : Int) (by omega) (by omega)
  rw [cnt, cnt]
  cases hf : f (n : Int) with
  | false => cases g (n : Int) <;> simp <;> omega
  | true => rw [this hf]; simp; exact ih
theorem cnt_lt {f g : Int → Bool} : ∀ n : Nat, (∀ i : Int, 0 ≤ i → i < (n : Int) → f i = true → g i = true) → ∀ x : Int, 0 ≤ x → x < (n : Int) → f x = false → g x = true → cnt g n < cnt f n
 | 0, _, x, h0, h1, _, _ => by omega
 | n + 1, h, x, h0, h1, hf, hg => by
  rw [cnt, cnt]
  by_cases hx : x = (n : Int)
  ·subst hx
   have := cnt_mono (f := f) (g := g) n (fun i h0 h1 hf => h i h0 (by omega) hf)
   rw [hf, hg]; simp; omega
  ·have ih := cnt_lt n (fun i h0 h1 hf => h i h0 (by omega) hf) x h0 (by omega) hf hg
   have := h (n : Int) (by omega) (by omega)
   cases hf : f (n : Int) with
   | false => cases g (n : Int) <;> simp <;> omega
   | true => rw [this hf]; simp; exact ih
def Valid (G : List (List Int)) : Prop := ∀ a ∈ G, a.length ≤ 2 ∧ ∀ t ∈ a, 0 ≤ t ∧ t < (G.length : Int)
inductive Rch (G : List (List Int)) : Int → Prop
 | base : Rch G 0
 | step {i t : Int} : Rch G i → t ∈ gt G i → Rch G t
theorem gt_mem {α : Type} [Inhabited α] {v : List α} {k : Int} (h0 : 0 ≤ k) (h1 : k < (v.length : Int)) : gt v k ∈ v := by
 have : k.toNat < v.length := by omega
 simp [gt, this]
theorem Valid.at {G : List (List Int)} (h : Valid G) {i t : Int} (ht : t ∈ gt G i) : 0 ≤ t ∧ t < (G.length : Int) := by
 by_cases hi : i.toNat < G.length
 ·have : gt G i ∈ G := by simp [gt, hi]
  exact (h _ this).2 t ht
 ·have : gt G i = [] := by simp [gt, hi]; rfl
  rw [this] at ht; simp at ht
theorem Rch.lt {G : List (List Int)} (h : Valid G) (hp : 0 < G.length) {i : Int} (hr : Rch G i) : 0 ≤ i ∧ i < (G.length : Int) := by
 cases hr with
 | base => omega
 | step _ ht => exact h.at ht
theorem gt_set {α : Type} [Inhabited α] {v : List α} {i k : Int} {a : α} (h0 : 0 ≤ i) (h1 : i < (v.length : Int)) (k0 : 0 ≤ k) : gt (v.set i.toNat a) k = if i = k then a else gt v k := by
 have : i.toNat < v.length := by omega
 simp only [gt, List.getD_eq_getElem?_getD, List.getElem?_set]
 by_cases h : i = k
 ·subst h; simp [this]
 ·have : ¬ i.toNat = k.toNat := by omega
  simp [h, this]
theorem split_last {α : Type} [Inhabited α] {st : List α} (h : 0 < st.length) : ∃ r, st = r ++ [gt st ((st.length : Int) - 1)] ∧ cutX st ((0 : Nat) : Int).toNat ((st.length : Int) - 1).toNat = r := by
 refine ⟨st.take (st.length - 1), ?_, ?_⟩
 ·have e : gt st ((st.length : Int) - 1) = st[st.length - 1] := by
   have : ((st.length : Int) - 1).toNat = st.length - 1 := by omega
   simp only [gt, this]
   rw [List.getD_eq_getElem?_getD, List.getElem?_eq_getElem (by omega)]; rfl
  rw [e]
  conv => lhs; rw [← List.take_append_drop (st.length - 1) st]
  congr 1
  rw [List.drop_eq_getElem_cons (by omega), List.drop_eq_nil_of_le (by omega)]
 ·rw [cutX, show ((0 : Nat) : Int).toNat = 0 from rfl, List.drop_zero]; congr 1; omega
theorem pop_step {α σ : Type} [Inhabited α] {st : List α} (h : 0 < st.length) (hb : st.length ≤ 1000000) : decide ((0 : Int) < (st.length : Int)) = true ∧ IntKind.i64.wrap ((st.length : Int) - 1) = (st.length : Int) - 1 ∧
  inb ((st.length : Int) - 1) st.length = true ∧ sliceOk ((0 : Nat) : Int) ((st.length : Int) - 1) st.length = true :=
 ⟨by simp; omega, w64 (by omega), inb_iff.2 ⟨by omega, by omega⟩, sliceOk_iff.2 ⟨by omega, by omega, by omega⟩⟩
def IsR (G : List (List Int)) (R : List Bool) : Prop := R.length = G.length ∧ ∀ i : Int, 0 ≤ i → i < (G.length : Int) → (gt R i = true ↔ Rch G i)
end Go.Proofs.YthpjmknpkdoadaaGreat
namespace Go.Proofs.YthpjmknpkdoadaaGreat
open Go Go.HW
set_option maxRecDepth 8000
set_option linter.unusedVariables false
def Rnd (G : List (List Int)) : Prop := ∃ X : List Int, X ≠ [] ∧ ∀ x ∈ X, Rch G x ∧ ∃ t ∈ gt G x, t ∈ X
section
variable {κ α : Type} [DecidableEq κ]
theorem mhas_iff (xs : List (κ × α)) (k : κ) : mhas xs k = true ↔ ∃ q ∈ xs, q.1 = k := by
 induction xs with
 | nil => simp [mhas, mfind]
 | cons p xs ih =>
  by_cases h : p.1 = k
  ·constructor
   ·intro _; exact ⟨p, by simp, h⟩
   ·intro _; simp [mhas, mfind, h]
  ·have e : mhas (p :: xs) k = mhas xs k := by simp [mhas, mfind, h]
   rw [e, ih]
   constructor
   ·rintro ⟨q, h1, h2⟩; exact ⟨q, by simp [h1], h2⟩
   ·rintro ⟨q, h1, h2⟩
    rcases List.mem_cons.1 h1 with rfl | h1
    ·exact absurd h2 h
    ·exact ⟨q, h1, h2⟩
theorem mput_new : ∀ (xs : List (κ × α)) (k : κ) (v : α), mhas xs k = false → mput xs k v = xs ++ [(k, v)]
 | [], k, v, _ => rfl
 | p :: xs, k, v, h => by
  by_cases hp : p.1 = k
  ·simp [mhas, mfind, hp] at h
  ·have : mhas xs k = false := by simpa [mhas, mfind, hp] using h
   simp [mput, hp, mput_new xs k v this]
def KND (xs : List (κ × α)) : Prop := (xs.map (·.1)).Nodup
theorem KND.push {xs : List (κ × α)} {k : κ} {v : α} (h : KND xs) (hk : mhas xs k = false) : KND (mput xs k v) := by
 rw [mput_new xs k v hk, KND, List.map_append, List.nodup_append]
 refine ⟨h, by simp, fun a ha b hb => ?_⟩
 simp at hb; subst hb
 obtain ⟨q, h1, rfl⟩ := List.mem_map.1 ha
 intro e
 have := (mhas_iff xs b).2 ⟨q, h1, e⟩
 rw [hk] at this; cases this
theorem mdel_sub : ∀ (xs : List (κ × α)) (k : κ), (mdel xs k).Sublist xs
 | [], _ => List.Sublist.refl _
 | p :: xs, k => by
  by_cases h : p.1 = k
  ·simp [mdel, h]
  ·simp only [mdel, h, decide_false, cond_false]; exact (mdel_sub xs k).cons_cons p
theorem KND.del {xs : List (κ × α)} {k : κ} (h : KND xs) : KND (mdel xs k) := ((mdel_sub xs k).map _).nodup h
theorem mhas_del : ∀ (xs : List (κ × α)) (k t : κ), KND xs → mhas (mdel xs k) t = (!decide (k = t) && mhas xs t)
 | [], k, t, _ => by simp [mdel, mhas, mfind]
 | p :: xs, k, t, h => by
  have hn := List.nodup_cons.1 (show (p.1 :: xs.map (·.1)).Nodup from h)
  by_cases hp : p.1 = k
  ·have e : mdel (p :: xs) k = xs := by simp [mdel, hp]
   rw [e]
   by_cases ht : k = t
   ·subst ht
    have : mhas xs k = false := by
     cases hh : mhas xs k with
     | false => rfl
     | true => obtain ⟨q, h1, h2⟩ := (mhas_iff xs k).1 hh; exact absurd (List.mem_map.2 ⟨q, h1, h2.trans hp.symm⟩) hn.1
    simp [this]
   ·have : ¬ p.1 = t := by rw [hp]; exact ht
    have e2 : mhas (p :: xs) t = mhas xs t := by simp [mhas, mfind, this]
    rw [e2]; simp [ht]
  ·have e : mdel (p :: xs) k = p :: mdel xs k := by simp [mdel, hp]
   rw [e]
   have ih := mhas_del xs k t hn.2
   by_cases ht : p.1 = t
   ·have : ¬ k = t := fun e => hp (ht.trans e.symm)
    simp [mhas, mfind, ht, this]
   ·have e2 : mhas (p :: xs) t = mhas xs t := by simp [mhas, mfind, ht]
    have e3 : mhas (p :: mdel xs k) t = mhas (mdel xs k) t := by simp [mhas, mfind, ht]
    rw [e2, e3, ih]
end
def Nxt (G : List (List Int)) (path : List Int) (v : Int) : Prop := match path with | [] => v = 0 | m :: _ => v ∈ gt G m
def Stk (G : List (List Int)) : List Visit → List Int → Prop
 | [], path => path = []
 | e :: rs, path => if e.fleft = true then ∃ pt, path = e.fat :: pt ∧ Nxt G pt e.fat ∧ Stk G rs pt else Nxt G path e.fat ∧ Stk G rs path
theorem Stk.push {G : List (List Int)} {rs : List Visit} {path : List Int} (h : Stk G rs path) : ∀ l : List Visit, (∀ e ∈ l, e.fleft = false ∧ Nxt G path e.fat) → Stk G (l ++ rs) path
 | [], _ => h
 | e :: l, hl => by
  obtain ⟨h1, h2⟩ := hl e (by simp)
  rw [List.cons_append, Stk, if_neg (by rw [h1]; simp)]
  exact ⟨h2, Stk.push h l (fun x hx => hl x (by simp [hx]))⟩
theorem Stk.path {G : List (List Int)} : ∀ {rs : List Visit} {path : List Int}, Stk G rs path → (∀ v, v ∈ path ↔ (⟨v, true⟩ : Visit) ∈ rs) ∧ (∀ v ∈ path, Rch G v) ∧ (∀ e ∈ rs, Rch G e.fat)
 | [], path, h => by cases h; simp
 | e :: rs, path, h => by
  rw [Stk] at h
  have rn : ∀ {pt : List Int} {v : Int}, (∀ u ∈ pt, Rch G u) → Nxt G pt v → Rch G v := fun {pt v} hp hn => by
   cases pt with
   | nil => have : v = 0 := hn; subst this; exact .base
   | cons m r => exact (hp m (by simp)).step hn
  split at h
  ·rename_i hl
   obtain ⟨pt, rfl, hn, hs⟩ := h
   obtain ⟨p1, p2, p3⟩ := hs.path
   have he : e = ⟨e.fat, true⟩ := by cases e; simp at hl; subst hl; rfl
   have hr := rn p2 hn
   refine ⟨fun v => ?_, fun v hv => ?_, fun x hx => ?_⟩
   ·rw [List.mem_cons, List.mem_cons, p1 v]
    constructor
    ·rintro (rfl | h)
     ·exact .inl he.symm
     ·exact .inr h
    ·rintro (h | h)
     ·exact .inl (congrArg Visit.fat h)
     ·exact .inr h
   ·rcases List.mem_cons.1 hv with rfl | hv
    ·exact hr
    ·exact p2 v hv
   ·rcases List.mem_cons.1 hx with rfl | hx
    ·exact hr
    ·exact p3 x hx
  ·rename_i hl
   obtain ⟨hn, hs⟩ := h
   obtain ⟨p1, p2, p3⟩ := hs.path
   refine ⟨fun v => ?_, p2, fun x hx => ?_⟩
   ·rw [p1 v, List.mem_cons]
    constructor
    ·exact .inr
    ·rintro (h | h)
     ·exact absurd (by rw [← h]) hl
     ·exact h
   ·rcases List.mem_cons.1 hx with rfl | hx
    ·exact rn p2 hn
    ·exact p3 x hx
def Chn (G : List (List Int)) : List Int → Prop
 | [] => True
 | v :: pt => Nxt G pt v ∧ Chn G pt
theorem Stk.chn {G : List (List Int)} : ∀ {rs : List Visit} {path : List Int}, Stk G rs path → Chn G path
 | [], path, h => by cases h; trivial
 | e :: rs, path, h => by
  rw [Stk] at h
  split at h
  ·obtain ⟨pt, rfl, hn, hs⟩ := h; exact ⟨hn, hs.chn⟩
  ·exact h.2.chn
theorem Chn.round {G : List (List Int)} : ∀ {path : List Int} {v : Int}, Chn G path → v ∈ path → ∃ X r, path = X ++ r ∧ X ≠ [] ∧ v ∈ X ∧ ∀ x ∈ X, x = path.headD 0 ∨ ∃ t ∈ gt G x, t ∈ X
 | a :: pt, v, h, hv => by
  by_cases hav : v = a
  ·subst hav; exact ⟨[v], pt, rfl, by simp, by simp, fun x hx => .inl (by simpa using hx)⟩
  ·have hv' : v ∈ pt := by simpa [hav] using hv
   obtain ⟨X, r, e1, e2, e3, e4⟩ := Chn.round h.2 hv'
   refine ⟨a :: X, r, by rw [e1]; rfl, by simp, by simp [e3], fun x hx => ?_⟩
   rcases List.mem_cons.1 hx with rfl | hx
   ·exact .inl rfl
   ·rcases e4 x hx with h1 | ⟨t, h1, h2⟩
    ·refine .inr ⟨a, ?_, by simp⟩
     have hn := h.1
     cases pt with
     | nil => simp at hv'
     | cons m q => have : x = m := h1; subst this; exact hn
    ·exact .inr ⟨t, h1, by simp [h2]⟩
def Topo (G : List (List Int)) (D : List (Int × U)) : Prop := ∀ (n : Nat) (q : Int × U), D[n]? = some q → ∀ t ∈ gt G q.1, ∃ m r, m < n ∧ D[m]? = some r ∧ r.1 = t
def Cov (G : List (List Int)) (D : List (Int × U)) (rs : List Visit) : Prop := ∀ ab m be, rs = ab ++ (⟨m, true⟩ : Visit) :: be → ∀ t ∈ gt G m, mhas D t = true ∨ ∃ e ∈ ab, e.fat = t
structure LInv (G : List (List Int)) (Un D : List (Int × U)) (rs : List Visit) : Prop where
 stk : ∃ path, Stk G rs path
 un : ∀ v, mhas Un v = true ↔ (⟨v, true⟩ : Visit) ∈ rs
 knd : KND Un
 one : ((rs.filter (·.fleft)).map (·.fat)).Nodup
 grey : ∀ v, (⟨v, true⟩ : Visit) ∈ rs → mhas D v = false
 topo : Topo G D
 cov : Cov G D rs
 zero : mhas D 0 = true ∨ ∃ e ∈ rs, e.fat = 0
 size : D.length + cnt (mhas D) G.length ≤ G.length
theorem Topo.succ {G : List (List Int)} {D : List (Int × U)} (h : Topo G D) {i t : Int} (hi : mhas D i = true) (ht : t ∈ gt G i) : mhas D t = true := by
 obtain ⟨q, h1, rfl⟩ := (mhas_iff D i).1 hi
 obtain ⟨n, hn, e⟩ := List.mem_iff_getElem.1 h1
 obtain ⟨m, r, _, h3, h4⟩ := h n q (by rw [List.getElem?_eq_some_iff]; exact ⟨hn, e⟩) t ht
 exact (mhas_iff D t).2 ⟨r, List.mem_of_getElem? h3, h4⟩
theorem Topo.none {G : List (List Int)} {D : List (Int × U)} (h : Topo G D) (h0 : mhas D 0 = true) : ¬ Rnd G := by
 rintro ⟨X, hne, hX⟩
 have hall : ∀ i, Rch G i → mhas D i = true := fun i hi => by
  induction hi with
  | base => exact h0
  | step _ ht ih => exact h.succ ih ht
 have key : ∀ (n : Nat) (q : Int × U), D[n]? = some q → q.1 ∉ X := by
  intro n
  induction n using Nat.strongRecOn with
  | _ n ih =>
   intro q hq hx
   obtain ⟨_, t, ht, htX⟩ := hX _ hx
   obtain ⟨m, r, h1, h2, h3⟩ := h n q hq t ht
   exact ih m h1 r h2 (by rw [h3]; exact htX)
 cases X with
 | nil => exact hne rfl
 | cons x X =>
  obtain ⟨q, h1, h2⟩ := (mhas_iff D x).1 (hall x (hX x (by simp)).1)
  obtain ⟨n, hn, e⟩ := List.mem_iff_getElem.1 h1
  exact key n q (by rw [List.getElem?_eq_some_iff]; exact ⟨hn, e⟩) (by rw [h2]; simp)
theorem l2_push {G : List (List Int)} {v : Int} (hv : (gt G v).length ≤ 5000) : ∀ (n : Nat) (st : List Visit) (x : Nat) (b : Bool), x ≤ (gt G v).length → (gt G v).length - x < n → st.length + (gt G v).length ≤ 1000000 + x →
  fn25_l2 G ⟨v, b⟩ n st (x : Int) = some (st ++ ((gt G v).drop x).map fun t => (⟨t, false⟩ : Visit))
 | 0, st, x, b, h1, h2, h3 => by omega
 | n + 1, st, x, b, h1, h2, h3 => by
  rw [fn25_l2_s]
  by_cases hx : x < (gt G v).length
  ·have g1 : decide ((x : Int) < ((gt G v).length : Int)) = true := by simp; omega
   have g2 : inb (x : Int) (gt G v).length = true := inb_iff.2 ⟨by omega, by omega⟩
   have g3 : decide ((st.length + ([(⟨gt (gt G v) (x : Int), false⟩ : Visit)] : List Visit).length) * 16 ≤ 140737488355328 ∧ st.length + ([(⟨gt (gt G v) (x : Int), false⟩ : Visit)] : List Visit).length ≤ 9223372036854775807) = true := by simp; omega
   have g4 : IntKind.i64.wrap ((x : Int) + 1) = ((x + 1 : Nat) : Int) := w64 (by omega)
   simp only [g1, g2, cond_true, fn60, g3, Option.bind_some, g4]
   rw [l2_push hv n _ (x + 1) b (by omega) (by omega) (by simp; omega), drop_gt hx]
   simp
  ·have g1 : decide ((x : Int) < ((gt G v).length : Int)) = false := by simp; omega
   simp only [g1, cond_false]
   rw [List.drop_eq_nil_of_le (by omega)]; simp
end Go.Proofs.YthpjmknpkdoadaaGreat
namespace Go.Proofs.YthpjmknpkdoadaaGreat
open Go Go.HW
set_option maxRecDepth 8000
set_option linter.unusedVariables false
def fn104_l {σ : Type} (step : σ → (Visit) → Option σ) (go : σ → Bool) (get : σ → List Visit) (put : List Visit → σ → σ) : Nat → σ → Option σ
 | 0, _ => none
 | n1 + 1, sx => (bif decide ((0 : Int) < ((get sx).length : Int)) then (bif inb (IntKind.i64.wrap (((get sx).length : Int) - 1)) (get sx).length then (bif sliceOk ((0 : Nat) : Int) (IntKind.i64.wrap (((get sx).length : Int) - 1)) (get sx).length then (Option.bind (step (put (cutX (get sx) ((0 : Nat) : Int).toNat (IntKind.i64.wrap (((get sx).length : Int) - 1)).toNat) sx) (gt (get sx) (IntKind.i64.wrap (((get sx).length : Int) - 1)))) fun u17007 => (bif !(go u17007) then (some u17007) else ((fn104_l step go get put n1) u17007))) else none) else none) else (some sx))
theorem fn104_l_s {σ : Type} (step : σ → (Visit) → Option σ) (go : σ → Bool) (get : σ → List Visit) (put : List Visit → σ → σ) (n1 : Nat) (sx : σ) : fn104_l step go get put (n1 + 1) sx = (bif decide ((0 : Int) < ((get sx).length : Int)) then (bif inb (IntKind.i64.wrap (((get sx).length : Int) - 1)) (get sx).length then (bif sliceOk ((0 : Nat) : Int) (IntKind.i64.wrap (((get sx).length : Int) - 1)) (get sx).length then (Option.bind (step (put (cutX (get sx) ((0 : Nat) : Int).toNat (IntKind.i64.wrap (((get sx).length : Int) - 1)).toNat) sx) (gt (get sx) (IntKind.i64.wrap (((get sx).length : Int) - 1)))) fun u17007 => (bif !(go u17007) then (some u17007) else ((fn104_l step go get put n1) u17007))) else none) else none) else (some sx)) := rfl
theorem fn104_run {σ : Type} (step : σ → (Visit) → Option σ) (go : σ → Bool) (get : σ → List Visit) (put : List Visit → σ → σ) : ∀ (n : Nat) (s : σ), (Option.bind (fn104_l1 step go get put n s) fun o => (match o with | .inl u => fn104_k1 u | .inr u => some u)) = fn104_l step go get put n s
 | 0, s => rfl
 | n + 1, s => by
  rw [fn104_l1_s, fn104_l_s]
  cases decide ((0 : Int) < ((get s).length : Int)) with
  | false => rfl
  | true =>
  cases inb (IntKind.i64.wrap (((get s).length : Int) - 1)) (get s).length with
  | false => rfl
  | true =>
  cases sliceOk ((0 : Nat) : Int) (IntKind.i64.wrap (((get s).length : Int) - 1)) (get s).length with
  | false => rfl
  | true =>
  simp only [cond_true]
  show Option.bind (Option.bind (step (put (cutX (get s) ((0 : Nat) : Int).toNat (IntKind.i64.wrap (((get s).length : Int) - 1)).toNat) s) (gt (get s) (IntKind.i64.wrap (((get s).length : Int) - 1)))) _) _ = _
  cases step (put (cutX (get s) ((0 : Nat) : Int).toNat (IntKind.i64.wrap (((get s).length : Int) - 1)).toNat) s) (gt (get s) (IntKind.i64.wrap (((get s).length : Int) - 1))) with
  | none => rfl
  | some u =>
   simp only [Option.bind_some]
   cases go u with
   | false => rfl
   | true => exact fn104_run step go get put n u
theorem fn104_eq {σ : Type} (F : Nat) (step : σ → (Visit) → Option σ) (go : σ → Bool) (get : σ → List Visit) (put : List Visit → σ → σ) (s : σ) : fn104 F step go get put s = fn104_l step go get put F s := fn104_run step go get put F s
abbrev SL := Bool × (List (Int × U)) × (List (Int × U)) × (List Visit)
abbrev stepW (F : Nat) (G : List (List Int)) := stepR (fun (s : SL) (y : Visit) => fn25_r1 F G s.1 s.2.1 s.2.2.1 s.2.2.2 y)
abbrev getW := (fun s : SL × Nat => s.1.2.2.2)
abbrev putW := (fun (xs : List Visit) (s : SL × Nat) => ((s.1.1, s.1.2.1, s.1.2.2.1, xs), s.2))
theorem append_cases' {α : Type} : ∀ {l m a b : List α}, l ++ m = a ++ b → (∃ c, l = a ++ c ∧ b = c ++ m) ∨ ∃ c, c ≠ [] ∧ a = l ++ c ∧ m = c ++ b
 | [], m, a, b, h => by
  cases a with
  | nil => exact .inl ⟨[], rfl, by simpa using h.symm⟩
  | cons x a => exact .inr ⟨x :: a, by simp, rfl, by simpa using h⟩
 | x :: l, m, [], b, h => .inl ⟨x :: l, rfl, by simpa using h.symm⟩
 | x :: l, m, y :: a, b, h => by
  simp only [List.cons_append, List.cons.injEq] at h
  obtain ⟨rfl, h⟩ := h
  rcases append_cases' h with ⟨c, h1, h2⟩ | ⟨c, h0, h1, h2⟩
  ·exact .inl ⟨c, by rw [h1]; rfl, h2⟩
  ·exact .inr ⟨c, h0, by rw [h1]; rfl, h2⟩
abbrev white (Un D : List (Int × U)) : Int → Bool := fun i => mhas Un i || mhas D i
theorem loop_loop {F : Nat} (hF : 6000 ≤ F) {G : List (List Int)} (hG : Valid G) (hN : G.length ≤ 5000) : ∀ (n : Nat) (st : List Visit) (Un D : List (Int × U)), LInv G Un D st.reverse → 4 * cnt (white Un D) G.length + st.length < n → 4 * cnt (white Un D) G.length + st.length ≤ 100000 → 0 < G.length →
  (∃ Un' D' st', fn104_l (stepW F G) goR getW putW n ((false, Un, D, st), 0) = some ((true, Un', D', st'), 1) ∧ Rnd G) ∨
  (∃ Un' D', fn104_l (stepW F G) goR getW putW n ((false, Un, D, st), 0) = some ((false, Un', D', []), 0) ∧ ¬ Rnd G ∧ Topo G D' ∧ mhas D' 0 = true ∧ D'.length ≤ G.length)
 | 0, st, Un, D, _, h, _, _ => by omega
 | n + 1, st, Un, D, hI, hn, hb, hp => by
  rw [fn104_l_s]
  rcases Nat.eq_zero_or_pos st.length with h0 | h0
  ·have : st = [] := List.eq_nil_of_length_eq_zero h0
   subst this
   rcases hI.zero with h | ⟨e, h, _⟩
   ·exact .inr ⟨Un, D, rfl, hI.topo.none h, hI.topo, h, by have := hI.size; omega⟩
   ·simp at h
  ·obtain ⟨p1, p2, p3, p4⟩ := pop_step (α := Visit) (σ := Unit) h0 (by omega)
   obtain ⟨r, e1, e2⟩ := split_last h0
   have hgoal : ∀ (X : Option (SL × Nat)), X = (bif decide ((0 : Int) < (st.length : Int)) then (bif inb (IntKind.i64.wrap ((st.length : Int) - 1)) st.length then (bif sliceOk ((0 : Nat) : Int) (IntKind.i64.wrap ((st.length : Int) - 1)) st.length then (Option.bind (stepW F G (putW (cutX st ((0 : Nat) : Int).toNat (IntKind.i64.wrap ((st.length : Int) - 1)).toNat) ((false, Un, D, st), 0)) (gt st (IntKind.i64.wrap ((st.length : Int) - 1)))) fun u => (bif !(goR u) then (some u) else ((fn104_l (stepW F G) goR getW putW n) u))) else none) else none) else (some ((false, Un, D, st), 0))) →
     (∃ Un' D' st', X = some ((true, Un', D', st'), 1) ∧ Rnd G) ∨ (∃ Un' D', X = some ((false, Un', D', []), 0) ∧ ¬ Rnd G ∧ Topo G D' ∧ mhas D' 0 = true ∧ D'.length ≤ G.length) := by
    rintro X rfl
    rw [p1, p2, p3, p4, e2]
    simp only [cond_true]
    generalize hx : gt st ((st.length : Int) - 1) = e at e1
    obtain ⟨v, b⟩ := e
    have hlr : st.length = r.length + 1 := by rw [e1]; simp
    have hrev : st.reverse = (⟨v, b⟩ : Visit) :: r.reverse := by rw [e1]; simp
    rw [hrev] at hI
    have hstep : stepW F G (putW r ((false, Un, D, st), 0)) ⟨v, b⟩ = fn25_r1 F G false Un D r ⟨v, b⟩ := rfl
    rw [hstep, fn25_r1]
    obtain ⟨path, hstk⟩ := hI.stk
    obtain ⟨pp1, pp2, pp3⟩ := hstk.path
    cases b with
    | true =>
     -- a mark: all behind v is done
     simp only [cond_true, bindP, fn62, Option.bind_some, goR, show Nat.beq 0 0 = true from rfl, Bool.not_true, cond_false]
     have hDv : mhas D v = false := hI.grey v (by simp)
     have hpt : ∃ pt, Stk G r.reverse pt := by
      rw [Stk, if_pos rfl] at hstk
      obtain ⟨pt, _, _, h⟩ := hstk; exact ⟨pt, h⟩
     have hone := hI.one
     rw [List.filter_cons_of_pos rfl, List.map_cons, List.nodup_cons] at hone
     have hnot : (⟨v, true⟩ : Visit) ∉ r.reverse := fun h => hone.1 (List.mem_map.2 ⟨_, List.mem_filter.2 ⟨h, rfl⟩, rfl⟩)
     have hD' := mput_new D v () hDv
     have hhas : ∀ t, mhas (mput D v ()) t = (decide (v = t) || mhas D t) := fun t => mhas_put v _ t D
     have hI' : LInv G (mdel Un v) (mput D v ()) r.reverse := by
      refine ⟨hpt, fun t => ?_, hI.knd.del, hone.2, fun t ht => ?_, ?_, ?_, ?_, ?_⟩
      ·rw [mhas_del _ _ _ hI.knd, Bool.and_eq_true, hI.un t]
       constructor
       ·rintro ⟨h1, h2⟩
        rcases List.mem_cons.1 h2 with h2 | h2
        ·have : t = v := congrArg Visit.fat h2
         subst this; simp at h1
        ·exact h2
       ·intro h
        have hne : v ≠ t := by rintro rfl; exact hnot h
        exact ⟨by simp [hne], by simp [h]⟩
      ·have hne : v ≠ t := by rintro rfl; exact hnot ht
       rw [hhas, hI.grey t (by simp [ht])]; simp [hne]
      ·rw [hD']
       intro k q hq t ht
       rcases Nat.lt_or_ge k D.length with hk | hk
       ·rw [List.getElem?_append_left hk] at hq
        obtain ⟨m, r', h1, h2, h3⟩ := hI.topo k q hq t ht
        exact ⟨m, r', h1, by rw [List.getElem?_append_left (by omega)]; exact h2, h3⟩
       ·rw [List.getElem?_append_right hk] at hq
        have hk0 : k - D.length = 0 := by
         cases hh : k - D.length with
         | zero => rfl
         | succ j => rw [hh] at hq; simp at hq
        rw [hk0] at hq; simp at hq; subst hq
        rcases hI.cov [] v r.reverse rfl t ht with h | ⟨e, h, _⟩
        ·obtain ⟨q, h1, h2⟩ := (mhas_iff D t).1 h
         obtain ⟨m, hm, e⟩ := List.mem_iff_getElem.1 h1
         exact ⟨m, q, by omega, by rw [List.getElem?_append_left hm, List.getElem?_eq_some_iff]; exact ⟨hm, e⟩, h2⟩
        ·simp at h
      ·intro ab m be hab t ht
       rcases hI.cov ((⟨v, true⟩ : Visit) :: ab) m be (by rw [hab]; rfl) t ht with h | ⟨e, h, he⟩
       ·exact .inl (by rw [hhas, h]; simp)
       ·rcases List.mem_cons.1 h with rfl | h
        ·exact .inl (by rw [hhas]; simp [← he])
        ·exact .inr ⟨e, h, he⟩
      ·rcases hI.zero with h | ⟨e, h, he⟩
       ·exact .inl (by rw [hhas, h]; simp)
       ·rcases List.mem_cons.1 h with rfl | h
        ·exact .inl (by rw [hhas]; simp [← he])
        ·exact .inr ⟨e, h, he⟩
      ·have hv01 : 0 ≤ v ∧ v < (G.length : Int) := (pp3 ⟨v, true⟩ (by simp)).lt hG hp
       have h1 : cnt (mhas (mput D v ())) G.length < cnt (mhas D) G.length := cnt_lt _ (fun i _ _ h => by rw [hhas, h]; simp) v hv01.1 hv01.2 hDv (by rw [hhas]; simp)
       have h2 := hI.size
       have h3 : (mput D v ()).length = D.length + 1 := by rw [hD']; simp
       omega
     have hc : cnt (white (mdel Un v) (mput D v ())) G.length = cnt (white Un D) G.length := by
      congr 1; funext t
      show (mhas (mdel Un v) t || mhas (mput D v ()) t) = (mhas Un t || mhas D t)
      rw [mhas_del _ _ _ hI.knd, hhas]
      by_cases h : v = t
      ·subst h; have := (hI.un v).2 (by simp); simp [this]
      ·simp [h]
     exact loop_loop hF hG hN n r _ _ hI' (by rw [hc]; omega) (by rw [hc]; omega) hp
    | false =>
     rw [Stk, if_neg (by simp)] at hstk
     obtain ⟨hnx, hstk'⟩ := hstk
     have hone' : ((r.reverse.filter (·.fleft)).map (·.fat)).Nodup := by have := hI.one; rwa [List.filter_cons_of_neg (by simp)] at this
     have hmk : ∀ t, (⟨t, true⟩ : Visit) ∈ r.reverse ↔ (⟨t, true⟩ : Visit) ∈ (⟨v, false⟩ : Visit) :: r.reverse := fun t => by
      rw [List.mem_cons]; constructor
      ·exact .inr
      ·rintro (h | h)
       ·cases h
       ·exact h
     simp only [cond_false]
     cases hd : mhas D v with
     | true =>
      simp only [cond_true, Option.bind_some, goR, show Nat.beq 0 0 = true from rfl, Bool.not_true, cond_false]
      have hI' : LInv G Un D r.reverse := by
       refine ⟨⟨path, hstk'⟩, fun t => (hI.un t).trans (hmk t).symm, hI.knd, hone', fun t ht => hI.grey t ((hmk t).1 ht), hI.topo, ?_, ?_, hI.size⟩
       ·intro ab m be hab t ht
        rcases hI.cov ((⟨v, false⟩ : Visit) :: ab) m be (by rw [hab]; rfl) t ht with h | ⟨e, h, he⟩
        ·exact .inl h
        ·rcases List.mem_cons.1 h with rfl | h
         ·exact .inl (by rw [← he]; exact hd)
         ·exact .inr ⟨e, h, he⟩
       ·rcases hI.zero with h | ⟨e, h, he⟩
        ·exact .inl h
        ·rcases List.mem_cons.1 h with rfl | h
         ·exact .inl (by rw [← he]; exact hd)
         ·exact .inr ⟨e, h, he⟩
      exact loop_loop hF hG hN n r _ _ hI' (by omega) (by omega) hp
     | false =>
      simp only [cond_false, bindP, fn62]
      cases hu : mhas Un v with
      | true =>
       simp only [Bool.not_true, Bool.not_false, cond_true, Option.bind_some]
       have hvp : v ∈ path := (pp1 v).2 ((hI.un v).1 hu)
       obtain ⟨X, q, x1, x2, x3, x4⟩ := hstk'.chn.round hvp
       refine .inl ⟨_, _, _, rfl, X, x2, fun x hx => ⟨pp2 x (by rw [x1]; simp [hx]), ?_⟩⟩
       rcases x4 x hx with h | h
       ·cases hpath : path with
        | nil => rw [hpath] at hvp; simp at hvp
        | cons m pt =>
         rw [hpath] at h hnx
         have : x = m := h
         subst this
         exact ⟨v, hnx, x3⟩
       ·exact h
      | false =>
       have hv01 : 0 ≤ v ∧ v < (G.length : Int) := (pp3 ⟨v, false⟩ (by simp)).lt hG hp
       have hga := (hG _ (gt_mem hv01.1 hv01.2)).1
       have g2 : inb v G.length = true := inb_iff.2 hv01
       have g3 : decide ((r.length + ([(⟨v, true⟩ : Visit)] : List Visit).length) * 16 ≤ 140737488355328 ∧ r.length + ([(⟨v, true⟩ : Visit)] : List Visit).length ≤ 9223372036854775807) = true := by simp; omega
       have hl2 := l2_push (G := G) (v := v) (by omega) F (r ++ [⟨v, true⟩]) 0 false (by omega) (by omega) (by simp; omega)
       rw [show ((0 : Nat) : Int) = 0 from rfl, List.drop_zero] at hl2
       simp only [Bool.not_true, Bool.not_false, cond_false, fn60, g3, cond_true, Option.bind_some, g2, hl2, fn25_k2, fn62, goR, show Nat.beq 0 0 = true from rfl]
       have hhas : ∀ t, mhas (mput Un v ()) t = (decide (v = t) || mhas Un t) := fun t => mhas_put v _ t Un
       have hrv : (r ++ [(⟨v, true⟩ : Visit)] ++ (gt G v).map (fun t => (⟨t, false⟩ : Visit))).reverse = ((gt G v).map (fun t => (⟨t, false⟩ : Visit))).reverse ++ (⟨v, true⟩ : Visit) :: r.reverse := by simp
       have hfl : ∀ e ∈ ((gt G v).map (fun t => (⟨t, false⟩ : Visit))).reverse, e.fleft = false ∧ e.fat ∈ gt G v := fun e he => by
        simp at he; obtain ⟨t, h1, rfl⟩ := he; exact ⟨rfl, h1⟩
       have hI' : LInv G (mput Un v ()) D (r ++ [(⟨v, true⟩ : Visit)] ++ (gt G v).map (fun t => (⟨t, false⟩ : Visit))).reverse := by
        rw [hrv]
        have hmem : ∀ t, (⟨t, true⟩ : Visit) ∈ ((gt G v).map (fun t => (⟨t, false⟩ : Visit))).reverse ++ (⟨v, true⟩ : Visit) :: r.reverse ↔ t = v ∨ (⟨t, true⟩ : Visit) ∈ r.reverse := fun t => by
         rw [List.mem_append, List.mem_cons]
         constructor
         ·rintro (h | h | h)
          ·exact absurd (hfl _ h).1 (by simp)
          ·exact .inl (congrArg Visit.fat h)
          ·exact .inr h
         ·rintro (rfl | h)
          ·exact .inr (.inl rfl)
          ·exact .inr (.inr h)
        refine ⟨⟨v :: path, Stk.push (by rw [Stk, if_pos rfl]; exact ⟨path, rfl, hnx, hstk'⟩) _ (fun e he => ⟨(hfl e he).1, (hfl e he).2⟩)⟩, fun t => ?_, hI.knd.push hu, ?_, fun t ht => ?_, hI.topo, ?_, ?_, hI.size⟩
        ·rw [hhas, Bool.or_eq_true, hI.un t, hmem, ← hmk]
         simp [eq_comm]
        ·have e0 : ((((gt G v).map (fun t => (⟨t, false⟩ : Visit))).reverse).filter (·.fleft)) = [] := List.filter_eq_nil_iff.2 fun e he => by rw [(hfl e he).1]; simp
         rw [List.filter_append, e0, List.nil_append, List.filter_cons_of_pos rfl, List.map_cons, List.nodup_cons]
         refine ⟨fun h => ?_, hone'⟩
         obtain ⟨e, h1, h2⟩ := List.mem_map.1 h
         obtain ⟨h3, h4⟩ := List.mem_filter.1 h1
         have : e = ⟨v, true⟩ := by cases e; simp at h2 h4; subst h2; subst h4; rfl
         rw [this] at h3
         have := (hI.un v).2 ((hmk v).1 h3)
         rw [hu] at this; cases this
        ·rcases (hmem t).1 ht with rfl | h
         ·exact hd
         ·exact hI.grey t ((hmk t).1 h)
        ·intro ab m be hab t ht
         rcases append_cases' hab with ⟨c, h1, h2⟩ | ⟨c, hc0, h1, h2⟩
         ·-- the mark would lie within the new ones
          cases c with
          | nil =>
           simp at h2
           obtain ⟨⟨rfl, _⟩, rfl⟩ := h2
           refine .inr ⟨⟨t, false⟩, ?_, rfl⟩
           rw [List.append_nil] at h1
           rw [← h1]; simp [ht]
          | cons y c =>
           simp at h2
           have : y ∈ ((gt G v).map (fun t => (⟨t, false⟩ : Visit))).reverse := by rw [h1]; simp
           have := (hfl y this).1
           rw [← h2.1] at this; simp at this
         ·cases c with
          | nil => exact absurd rfl hc0
          | cons y c =>
           simp at h2
           obtain ⟨rfl, h2⟩ := h2
           rcases hI.cov ((⟨v, false⟩ : Visit) :: c) m be (by rw [h2]; simp) t ht with h | ⟨e, h, he⟩
           ·exact .inl h
           ·refine .inr ?_
            rcases List.mem_cons.1 h with rfl | h
            ·exact ⟨⟨v, true⟩, by rw [h1]; simp, he⟩
            ·exact ⟨e, by rw [h1]; simp [h], he⟩
        ·rcases hI.zero with h | ⟨e, h, he⟩
         ·exact .inl h
         ·refine .inr ?_
          rcases List.mem_cons.1 h with rfl | h
          ·exact ⟨⟨v, true⟩, by simp, he⟩
          ·exact ⟨e, by simp at h ⊢; simp [h], he⟩
       have hlt : cnt (white (mput Un v ()) D) G.length < cnt (white Un D) G.length := by
        refine cnt_lt _ (fun i _ _ h => ?_) v hv01.1 hv01.2 ?_ ?_
        ·show (mhas (mput Un v ()) i || mhas D i) = true
         rw [hhas]
         have h : (mhas Un i || mhas D i) = true := h
         rcases (by simpa using h : mhas Un i = true ∨ mhas D i = true) with h | h <;> simp [h]
        ·show (mhas Un v || mhas D v) = false
         rw [hu, hd]; rfl
        ·show (mhas (mput Un v ()) v || mhas D v) = true
         rw [hhas]; simp
       exact loop_loop hF hG hN n _ _ _ hI' (by simp; omega) (by simp; omega) hp
   exact hgoal _ rfl
theorem loops_prog' {F : Nat} {p : List Instr} (hF : 9000 ≤ F) (hp : p.length ≤ 1000) (hw : WF p) (ho : okP p = true) (hv : Valid (stp p)) : ∃ b, fn25 F p = some b ∧ (b = true ↔ Rnd (stp p)) ∧ (b = false → ∃ D, Topo (stp p) D ∧ mhas D 0 = true ∧ D.length ≤ (stp p).length) := by
 have hl : (stp p).length = p.length := by rw [stp_length, ho]; rfl
 obtain ⟨hne, hlen⟩ := ok_len ho
 have hpos : 0 < p.length := List.length_pos_iff.2 hne
 have he : (stp p).isEmpty = false := by
  cases h : stp p with
  | nil => rw [h] at hl; simp at hl; omega
  | cons _ _ => rfl
 rw [fn25, steps_prog (by omega) (by omega) hw, Option.bind_some, he]
 have hpush : fn60 (⟨([] : List Visit)⟩ : S_flow_visit_) ([(⟨0, false⟩ : Visit)] : List Visit) = some ⟨[⟨0, false⟩]⟩ := by decide
 have hm0 : ∀ i : Int, mhas ([] : List (Int × U)) i = false := fun _ => rfl
 have hI : LInv (stp p) [] [] ([(⟨0, false⟩ : Visit)] : List Visit).reverse := by
  refine ⟨⟨[], by simp [Stk, Nxt]⟩, fun v => ?_, List.nodup_nil, by simp, fun v hv => hm0 v, fun n q hq => by simp at hq, ?_, .inr ⟨⟨0, false⟩, by simp, rfl⟩, by have := cnt_le (mhas ([] : List (Int × U))) (stp p).length; simpa using this⟩
  ·rw [hm0]; simp
  ·intro ab m be hab
   cases ab with
   | nil => simp at hab
   | cons y ab => simp at hab
 have hc := cnt_le (white ([] : List (Int × U)) []) (stp p).length
 simp only [cond_false, hpush, Option.bind_some, fn104_eq]
 rcases loop_loop (F := F) (by omega) hv (by omega) F [⟨0, false⟩] [] [] hI (by simp; omega) (by simp; omega) (by omega) with ⟨Un', D', st', e1, e2⟩ | ⟨Un', D', e1, e2, e3, e4, e5⟩
 ·rw [e1]; exact ⟨true, rfl, ⟨fun _ => e2, fun _ => rfl⟩, fun h => (by cases h)⟩
 ·rw [e1]; exact ⟨false, rfl, ⟨fun h => (by cases h), fun h => absurd h e2⟩, fun _ => ⟨D', e3, e4, e5⟩⟩
theorem loops_prog {F : Nat} {p : List Instr} (hF : 9000 ≤ F) (hp : p.length ≤ 1000) (hw : WF p) (ho : okP p = true) (hv : Valid (stp p)) : ∃ b, fn25 F p = some b ∧ (b = true ↔ Rnd (stp p)) := by
 obtain ⟨b, h1, h2, _⟩ := loops_prog' hF hp hw ho hv
 exact ⟨b, h1, h2⟩
end Go.Proofs.YthpjmknpkdoadaaGreat
namespace Go.Proofs.YthpjmknpkdoadaaGreat
open Go Go.HW
set_option maxRecDepth 8000
set_option linter.unusedVariables false
def nxt (p : List Instr) (k : Int) : Int := bif (gt p k).fOp == 24 then k + 2 else k + 1
def restL (i : Instr) (l : List Instr) (k : Int) : List (Int × Slot) := (firstsL (i :: l) k).tail
theorem firstsL_rest (i : Instr) (l : List Instr) (k : Int) : firstsL (i :: l) k = (k, fn89 i) :: restL i l k := by rw [restL, firstsL_cons]; rfl
theorem next_first {p : List Instr} : ∀ (n k : Nat) (d : Int), p.length - k < n → ∀ y ∈ firstsL (p.drop k) k, y.1 = lastAt (firstsL (p.drop k) k) d ∨ posIn (firstsL (p.drop k) k) (nxt p y.1) = true
 | 0, k, d, h, y, hy => by omega
 | n + 1, k, d, h, y, hy => by
  rcases Nat.lt_or_ge k p.length with hk | hk
  ·have hg : p.drop k = gt p (k : Int) :: p.drop (k + 1) := drop_gt hk
   rw [hg, firstsL_rest] at hy ⊢
   -- what lies behind
   have hc : restL (gt p (k : Int)) (p.drop (k + 1)) (k : Int) = [] ∨ ∃ j : Nat, restL (gt p (k : Int)) (p.drop (k + 1)) (k : Int) = firstsL (p.drop j) (j : Int) ∧ k < j ∧ (j : Int) = nxt p (k : Int) ∧ p.drop j ≠ [] := by
    rw [restL, firstsL_cons, List.tail_cons]
    cases hw : ((gt p (k : Int)).fOp == 24) with
    | false =>
     simp only [cond_false]
     by_cases hd : p.drop (k + 1) = []
     ·rw [hd]; exact .inl rfl
     ·exact .inr ⟨k + 1, by simp, by omega, by simp [nxt, hw], hd⟩
    | true =>
     simp only [cond_true]
     cases hd : p.drop (k + 1) with
     | nil => exact .inl rfl
     | cons z l' =>
      obtain ⟨_, h2, _⟩ := drop_cons' hd
      by_cases hl : l' = []
      ·rw [hl]; exact .inl rfl
      ·refine .inr ⟨k + 2, ?_, by omega, by simp [nxt, hw], by rw [show k + 2 = k + 1 + 1 from rfl, h2]; exact hl⟩
       rw [show k + 2 = k + 1 + 1 from rfl, h2]
       congr 1
   generalize restL (gt p (k : Int)) (p.drop (k + 1)) (k : Int) = l at hc hy ⊢
   have hla : ∀ d, lastAt (((k : Int), fn89 (gt p (k : Int))) :: l) d = lastAt l (k : Int) := fun _ => rfl
   have hpi : ∀ t, posIn (((k : Int), fn89 (gt p (k : Int))) :: l) t = (((k : Int) == t) || posIn l t) := fun _ => rfl
   rw [hla, hpi]
   rcases hc with rfl | ⟨j, rfl, hkj, hj, hne⟩
   ·rcases List.mem_cons.1 hy with rfl | hy
    ·exact .inl rfl
    ·simp at hy
   ·have ih := next_first (p := p) n j (k : Int) (by omega)
    rcases List.mem_cons.1 hy with rfl | hy
    ·refine .inr ?_
     show (((k : Int) == nxt p (k : Int)) || posIn (firstsL (p.drop j) (j : Int)) (nxt p (k : Int))) = true
     rw [← hj]
     have : posIn (firstsL (p.drop j) (j : Int)) (j : Int) = true := by
      cases hd : p.drop j with
      | nil => exact absurd hd hne
      | cons z r => rw [firstsL_cons]; simp [posIn]
     rw [this]; simp
    ·rcases ih y hy with h | h
     ·exact .inl h
     ·exact .inr (by rw [h]; simp)
  ·rw [List.drop_eq_nil_of_le hk] at hy; simp [firstsL] at hy
theorem ok_end {p : List Instr} (h : okP p = true) : refEnds (gt p (lastAt (firstsL p 0) 0)) = true := by
 have her := ok_er h
 obtain ⟨h1, h2⟩ := ok_len h
 unfold okP chk at h
 cases hl : (((p.length : Int) == 0) || (decide ((4096 : Int) < (p.length : Int)))) with
 | true => simp at hl; rcases hl with e | e; exact absurd e h1; omega
 | false =>
  rw [hl] at h
  simp only [cond_false] at h
  cases hf : (firstsL p 0).find? (bad p) with
  | some y =>
   have hy := List.find?_some hf
   have := her y (List.mem_of_find?_eq_some hf)
   simp [bad, this] at hy
  | none =>
   rw [hf] at h
   cases hr : refEnds (gt p (lastAt (firstsL p 0) 0)) with
   | true => rfl
   | false => rw [hr] at h; simp at h
theorem er_target {p : List Instr} {k : Int} (h : er p k = 0) (ht : (fn120 (gt p k) k).2 = true) : pl p (fn120 (gt p k) k).1 = true := by
 unfold er at h
 cases h1 : fn117 (gt p k) <;> rw [h1] at h <;> simp only [Bool.not_true, Bool.not_false, cond_true, cond_false] at h
 ·cases h
 cases h2 : fn41 (fn89 (gt p k)) <;> rw [h2] at h <;> simp only [Bool.not_true, Bool.not_false, cond_true, cond_false] at h
 ·cases h
 cases h3 : fn119 (gt p k) <;> rw [h3] at h <;> simp only [Bool.not_true, Bool.not_false, cond_true, cond_false] at h
 ·cases h
 cases h4 : (((gt p k).fOp == 24) && (sec p k != 0)) <;> rw [h4] at h <;> simp only [cond_true, cond_false] at h
 ·rw [ht] at h
  cases h5 : pl p (fn120 (gt p k) k).1 with
  | true => rfl
  | false => rw [h5] at h; simp at h
 ·simp at h4; exact absurd h h4.2
theorem way_pl {p : List Instr} (ho : okP p = true) {k : Int} (hk : pl p k = true) : ((way p k).e0 = -1 ∨ ((way p k).e0 = nxt p k ∧ pl p (nxt p k) = true)) ∧ ((way p k).e1 = -1 ∨ pl p (way p k).e1 = true) := by
 have hpos : ∃ y ∈ firstsL p 0, y.1 = k := by
  rw [← pos_pl, posIn, List.any_eq_true] at hk
  obtain ⟨y, h1, h2⟩ := hk
  exact ⟨y, h1, by simpa using h2⟩
 obtain ⟨y, hy, rfl⟩ := hpos
 have her := ok_er ho y hy
 refine ⟨?_, ?_⟩
 ·have hn := next_first (p := p) (p.length + 1) 0 0 (by omega) y (by simpa using hy)
  simp only [List.drop_zero, show ((0 : Nat) : Int) = 0 from rfl] at hn
  rcases hn with h | h
  ·left
   have := ok_end ho
   rw [← h] at this
   simp [way, this]
  ·rw [pos_pl] at h
   cases hr : refEnds (gt p y.1) with
   | true => left; simp [way, hr]
   | false => right; exact ⟨by simp [way, hr, nxt], h⟩
 ·cases ht : (fn120 (gt p y.1) y.1).2 with
  | false => left; simp [way, ht]
  | true => right; simp only [way, ht, cond_true]; exact er_target her ht
theorem pl_lt {p : List Instr} {t : Int} (h : pl p t = true) : 0 ≤ t ∧ t < (p.length : Int) := by
 simp [pl] at h; exact ⟨h.1.1, h.1.2⟩
theorem gt_stp {p : List Instr} (ho : okP p = true) {k : Int} (h0 : 0 ≤ k) (h1 : k < p.length) : gt (stp p) k = outs (wayAt p k) := by
 have hk : k.toNat < p.length := by omega
 have e : ((k.toNat : Nat) : Int) = k := by omega
 simp only [gt, stp, ways, ho, cond_true, List.getD_eq_getElem?_getD, List.getElem?_map, List.getElem?_range hk, Option.map_some, Option.getD_some, e]
theorem pl_marks {p : List Instr} {k : Int} (h0 : 0 ≤ k) (h1 : k < p.length) : pl p k = gt (marks p) k := by
 have a : decide (0 ≤ k) = true := by simp; omega
 have b : decide (k < (p.length : Int)) = true := by simp; omega
 rw [pl, a, b]; rfl
theorem stp_pl {p : List Instr} (ho : okP p = true) {k t : Int} (ht : t ∈ gt (stp p) k) (h0 : 0 ≤ k) (h1 : k < p.length) : pl p k = true ∧ pl p t = true ∧ (t = (way p k).e0 ∨ t = (way p k).e1) ∧ 0 ≤ t := by
 rw [gt_stp ho h0 h1, wayAt, ← pl_marks h0 h1] at ht
 cases hk : pl p k with
 | false => rw [hk] at ht; simp [outs] at ht
 | true =>
  rw [hk, cond_true, outs, List.mem_filter] at ht
  obtain ⟨h2, h3⟩ := ht
  simp at h3
  obtain ⟨w0, w1⟩ := way_pl ho hk
  refine ⟨rfl, ?_, ?_, h3⟩
  ·simp at h2
   rcases h2 with rfl | rfl
   ·rcases w0 with w | ⟨w, w'⟩
    ·omega
    ·rw [w]; exact w'
   ·rcases w1 with w | w
    ·omega
    ·exact w
  ·simpa using h2
theorem stp_valid (p : List Instr) : Valid (stp p) := by
 intro a ha
 refine ⟨stp_in a ha, fun t ht => ?_⟩
 cases ho : okP p with
 | false =>
  have := stp_length p
  rw [ho] at this
  have h0 : stp p = [] := List.eq_nil_of_length_eq_zero (by simpa using this)
  rw [h0] at ha; simp at ha
 | true =>
  obtain ⟨i, hi, rfl⟩ := List.mem_iff_getElem.1 ha
  have hl := stp_length p
  rw [ho, if_pos rfl] at hl
  have hg : gt (stp p) (i : Int) = (stp p)[i] := by simp [gt, hi]
  rw [← hg] at ht
  obtain ⟨_, h, _⟩ := stp_pl ho ht (by omega) (by omega)
  have := pl_lt h
  rw [hl]; exact this
theorem ref_edges_loop {p : List Instr} (ho : okP p = true) (hp : p.length ≤ 5000) : ∀ (n k : Nat) (acc : List Edge), k ≤ p.length → acc.length ≤ 2 * k → p.length - k < n →
  fn78_l1 p (marks p) n acc (k : Int) = some (acc ++ (edgesOf ((stp p).drop k) k).map mkE)
 | 0, k, acc, h1, h2, h3 => by omega
 | n + 1, k, acc, h1, h2, h3 => by
  rw [fn78_l1_s]
  have hl := stp_length p
  rw [ho, if_pos rfl] at hl
  rcases Nat.lt_or_ge k p.length with hk | hk
  ·have g1 : decide ((k : Int) < (p.length : Int)) = true := by simp; omega
   have g2 : inb (k : Int) (marks p).length = true := by rw [marks_length]; exact inb_iff.2 ⟨by omega, by omega⟩
   have g4 : IntKind.i64.wrap ((k : Int) + 1) = ((k + 1 : Nat) : Int) := w64 (by omega)
   have hd : (stp p).drop k = gt (stp p) (k : Int) :: (stp p).drop (k + 1) := drop_gt (by omega)
   rw [hd, edgesOf, gt_stp ho (by omega) (by omega), wayAt]
   simp only [g1, g2, cond_true, g4]
   cases hm : gt (marks p) (k : Int) with
   | false =>
    simp only [Bool.not_false, cond_true, cond_false]
    rw [ref_edges_loop ho hp n (k + 1) acc (by omega) (by omega) (by omega)]
    have : outs (⟨-1, -1⟩ : S__2_int) = [] := by decide
    rw [this]; simp
   | true =>
    simp only [Bool.not_true, cond_false, cond_true, next1_eq hp (show (0 : Int) ≤ (k : Int) by omega) (show (k : Int) < (p.length : Int) by omega), Option.bind_some]
    have c1 : ∀ (ac : List Edge) (e : Edge), ac.length ≤ 20000 → decide ((ac.length + ([e] : List Edge).length) * 16 ≤ 140737488355328 ∧ ac.length + ([e] : List Edge).length ≤ 9223372036854775807) = true := fun ac e h => by simp; omega
    cases h0 : decide ((0 : Int) ≤ (way p (k : Int)).e0) with
    | true =>
     rw [cond_true, c1 _ _ (by omega), cond_true]
     cases h1 : decide ((0 : Int) ≤ (way p (k : Int)).e1) with
     | true =>
      rw [cond_true, c1 _ _ (by simp; omega), cond_true, ref_edges_loop ho hp n (k + 1) _ (by omega) (by simp; omega) (by omega)]
      simp at h0 h1
      simp [outs, h0, h1, mkE]
     | false =>
      rw [cond_false, ref_edges_loop ho hp n (k + 1) _ (by omega) (by simp; omega) (by omega)]
      simp at h0 h1
      have : ¬ 0 ≤ (way p (k : Int)).e1 := by omega
      simp [outs, h0, this, mkE]
    | false =>
     rw [cond_false]
     simp at h0
     have n0 : ¬ 0 ≤ (way p (k : Int)).e0 := by omega
     cases h1 : decide ((0 : Int) ≤ (way p (k : Int)).e1) with
     | true =>
      rw [cond_true, c1 _ _ (by omega), cond_true, ref_edges_loop ho hp n (k + 1) _ (by omega) (by simp; omega) (by omega)]
      simp at h1
      simp [outs, n0, h1, mkE]
     | false =>
      rw [cond_false, ref_edges_loop ho hp n (k + 1) _ (by omega) (by omega) (by omega)]
      simp at h1
      have : ¬ 0 ≤ (way p (k : Int)).e1 := by omega
      simp [outs, n0, this]
  ·have g1 : decide ((k : Int) < (p.length : Int)) = false := by simp; omega
   rw [g1, List.drop_eq_nil_of_le (by omega)]; simp [edgesOf]
theorem not_ok {p : List Instr} (h : okP p = false) : ((chk p).2 != 0) = true := by unfold okP at h; simpa [bne] using h
theorem is_ok {p : List Instr} (h : okP p = true) : ((chk p).2 != 0) = false := by unfold okP at h; simpa [bne] using h
theorem stp_nil {p : List Instr} (h : okP p = false) : stp p = [] := by
 have := stp_length p
 rw [h] at this
 exact List.eq_nil_of_length_eq_zero (by simpa using this)
theorem edges_ref {F : Nat} {p : List Instr} (hF : 6000 ≤ F) (hp : p.length ≤ 5000) : fn78 F p = some ((eds p).map mkE) := by
 rw [fn78, check_ref hF hp, Option.bind_some]
 cases ho : okP p with
 | false => rw [not_ok ho, eds, stp_nil ho]; rfl
 | true =>
  rw [is_ok ho, cond_false, firsts_ref p hp hF, Option.bind_some]
  have := ref_edges_loop ho hp F 0 [] (by omega) (by simp) (by omega)
  rw [show ((0 : Nat) : Int) = 0 from rfl, List.drop_zero] at this
  rw [this]; rfl
end Go.Proofs.YthpjmknpkdoadaaGreat
namespace Go.Proofs.YthpjmknpkdoadaaGreat
open Go Go.HW
set_option maxRecDepth 8000
set_option linter.unusedVariables false
theorem mem_edgesOf : ∀ (l : List (List Int)) (k a b : Int), (a, b) ∈ edgesOf l k ↔ k ≤ a ∧ b ∈ l.getD (a - k).toNat []
 | [], k, a, b => by simp [edgesOf]
 | x :: l, k, a, b => by
  rw [edgesOf, List.mem_append, mem_edgesOf l (k + 1) a b]
  constructor
  ·rintro (h | ⟨h1, h2⟩)
   ·obtain ⟨t, h1, h2⟩ := List.mem_map.1 h
    injection h2 with h2 h3
    subst h2; subst h3
    refine ⟨Int.le_refl _, ?_⟩
    rw [show (k - k).toNat = 0 from by omega]; exact h1
   ·refine ⟨by omega, ?_⟩
    rw [show (a - k).toNat = (a - (k + 1)).toNat + 1 from by omega]; exact h2
  ·rintro ⟨h1, h2⟩
   by_cases hk : a = k
   ·subst hk
    rw [show (a - a).toNat = 0 from by omega] at h2
    exact .inl (List.mem_map.2 ⟨b, h2, rfl⟩)
   ·rw [show (a - k).toNat = (a - (k + 1)).toNat + 1 from by omega] at h2
    exact .inr ⟨by omega, h2⟩
theorem mem_eds {p : List Instr} {a b : Int} : (a, b) ∈ eds p ↔ 0 ≤ a ∧ b ∈ gt (stp p) a := by
 rw [eds, mem_edgesOf, show a - 0 = a from by omega]; rfl
abbrev EE (p : List Instr) : List Edge := (eds p).map mkE
theorem mem_EE {p : List Instr} {e : Edge} : e ∈ EE p ↔ 0 ≤ e.fFrom ∧ e.fTo ∈ gt (stp p) e.fFrom := by
 rw [List.mem_map]
 constructor
 ·rintro ⟨⟨a, b⟩, h, rfl⟩; exact mem_eds.1 h
 ·intro h; exact ⟨(e.fFrom, e.fTo), mem_eds.2 h, rfl⟩
theorem EE_in {p : List Instr} {e : Edge} (he : e ∈ EE p) : (0 ≤ e.fFrom ∧ e.fFrom < ((stp p).length : Int)) ∧ (0 ≤ e.fTo ∧ e.fTo < ((stp p).length : Int)) := by
 obtain ⟨h1, h2⟩ := mem_EE.1 he
 refine ⟨⟨h1, ?_⟩, (stp_valid p).at h2⟩
 rcases Int.lt_or_le e.fFrom ((stp p).length : Int) with h | h
 ·exact h
 ·have : gt (stp p) e.fFrom = [] := by
   have : (stp p).length ≤ e.fFrom.toNat := by omega
   simp [gt, this]; rfl
  rw [this] at h2; simp at h2
theorem init_loop (N : Nat) (set : List Bool) (hs : set.length = N) (hN : N ≤ 5000) : ∀ (n : Nat) (m : List Bool) (k : Nat), m.length = N → k ≤ N → N - k < n → fn79_l1 (N : Int) set true n m (k : Int) = some (m.take k ++ set.drop k)
 | 0, m, k, _, _, h => by omega
 | n + 1, m, k, hm, hk, hn => by
  rw [fn79_l1_s]
  rcases Nat.lt_or_ge k N with h | h
  ·have g1 : decide ((k : Int) < (N : Int)) = true := by simp; omega
   have g2 : inb (k : Int) set.length = true := inb_iff.2 ⟨by omega, by omega⟩
   have g3 : inb (k : Int) m.length = true := inb_iff.2 ⟨by omega, by omega⟩
   have g4 : IntKind.i64.wrap ((k : Int) + 1) = ((k + 1 : Nat) : Int) := w64 (by omega)
   have hd : set.drop k = gt set (k : Int) :: set.drop (k + 1) := drop_gt (by omega)
   simp only [g1, g2, g3, cond_true, Bool.true_and, g4]
   rw [show ((k : Int)).toNat = k from rfl, init_loop N set hs hN n _ (k + 1) (by simp [hm]) (by omega) (by omega), hd]
   rw [List.take_add_one, List.getElem?_set_self (by omega), List.take_set_of_le (by omega)]
   simp
  ·have g1 : decide ((k : Int) < (N : Int)) = false := by simp; omega
   rw [g1, List.drop_eq_nil_of_le (by omega), List.take_of_length_le (by omega)]; simp
def Sub (N : Nat) (a b : List Bool) : Prop := ∀ i : Int, 0 ≤ i → i < (N : Int) → gt a i = true → gt b i = true
theorem grow_loop {E : List Edge} {set : List Bool} {N : Nat} {G : List (List Int)} (hs : set.length = N) (hE : ∀ e ∈ E, (0 ≤ e.fFrom ∧ e.fFrom < (N : Int)) ∧ (0 ≤ e.fTo ∧ e.fTo < (N : Int)) ∧ e.fTo ∈ gt G e.fFrom) (hl : E.length ≤ 20000) :
  ∀ (n : Nat) (out : List Bool) (ch : Bool) (k : Nat), out.length = N → Sub N set out → k ≤ E.length → E.length - k < n →
  ∃ out' ch', fn79_l3 E set n out ch (k : Int) = some (out', ch') ∧ out'.length = N ∧ Sub N out out' ∧ ((∀ i : Int, 0 ≤ i → i < (N : Int) → gt out i = true → Rch G i) → ∀ i : Int, 0 ≤ i → i < (N : Int) → gt out' i = true → Rch G i) ∧
   ((cnt (gt out') N < cnt (gt out) N ∧ ch' = true) ∨ (out' = out ∧ ch' = ch ∧ ∀ e ∈ E.drop k, gt out e.fFrom = true → gt out e.fTo = true))
 | 0, out, ch, k, _, _, _, h => by omega
 | n + 1, out, ch, k, ho, hsub, hk, hn => by
  rw [fn79_l3_s]
  rcases Nat.lt_or_ge k E.length with h | h
  ·have g1 : decide ((k : Int) < (E.length : Int)) = true := by simp; omega
   have g2 : inb (k : Int) E.length = true := inb_iff.2 ⟨by omega, by omega⟩
   have hd : E.drop k = gt E (k : Int) :: E.drop (k + 1) := drop_gt h
   have hm : gt E (k : Int) ∈ E := gt_mem (by omega) (by omega)
   obtain ⟨⟨f0, f1⟩, ⟨t0, t1⟩, ht⟩ := hE _ hm
   have g3 : inb (gt E (k : Int)).fFrom set.length = true := by rw [hs]; exact inb_iff.2 ⟨f0, f1⟩
   have g5 : inb (gt E (k : Int)).fFrom out.length = true := by rw [ho]; exact inb_iff.2 ⟨f0, f1⟩
   have g6 : inb (gt E (k : Int)).fTo out.length = true := by rw [ho]; exact inb_iff.2 ⟨t0, t1⟩
   have g4 : IntKind.i64.wrap ((k : Int) + 1) = ((k + 1 : Nat) : Int) := w64 (by omega)
   have hor : ((gt set (gt E (k : Int)).fFrom) || (gt out (gt E (k : Int)).fFrom)) = gt out (gt E (k : Int)).fFrom := by
    cases h1 : gt set (gt E (k : Int)).fFrom with
    | false => rfl
    | true => rw [hsub _ f0 f1 h1]; rfl
   have a1 : (bif gt set (gt E (k : Int)).fFrom then true else inb (gt E (k : Int)).fFrom out.length) = true := by rw [g5]; cases gt set (gt E (k : Int)).fFrom <;> rfl
   have a2 : ∀ b : Bool, (bif b then true else true) = true := fun b => by cases b <;> rfl
   simp only [g1, g2, g3, a1, a2, hor, g4, g6, cond_true]
   rw [hd]
   cases hc : (gt out (gt E (k : Int)).fFrom && !(gt out (gt E (k : Int)).fTo)) with
   | true =>
    simp at hc
    obtain ⟨c1, c2⟩ := hc
    simp only [cond_true]
    have hset : ∀ i : Int, 0 ≤ i → gt (out.set (gt E (k : Int)).fTo.toNat true) i = if (gt E (k : Int)).fTo = i then true else gt out i := fun i hi => gt_set t0 (by rw [ho]; exact t1) hi
    have hs2 : Sub N out (out.set (gt E (k : Int)).fTo.toNat true) := fun i h0 h1 h2 => by rw [hset i h0]; split; rfl; exact h2
    obtain ⟨out', ch', e1, e2, e3, e4, e5⟩ := grow_loop hs hE hl n (out.set (gt E (k : Int)).fTo.toNat true) true (k + 1) (by simp [ho]) (fun i h0 h1 h2 => hs2 i h0 h1 (hsub i h0 h1 h2)) (by omega) (by omega)
    have hlt : cnt (gt (out.set (gt E (k : Int)).fTo.toNat true)) N < cnt (gt out) N := cnt_lt N (fun i h0 h1 h2 => hs2 i h0 h1 h2) _ t0 t1 c2 (by rw [hset _ t0]; simp)
    refine ⟨out', ch', e1, e2, fun i h0 h1 h2 => e3 i h0 h1 (hs2 i h0 h1 h2), fun hr i h0 h1 h2 => e4 (fun i h0 h1 h2 => ?_) i h0 h1 h2, .inl ?_⟩
    ·rw [hset i h0] at h2
     by_cases hi : (gt E (k : Int)).fTo = i
     ·rw [← hi]; exact (hr _ f0 f1 c1).step ht
     ·rw [if_neg hi] at h2; exact hr i h0 h1 h2
    ·rcases e5 with ⟨q1, q2⟩ | ⟨q1, q2, _⟩
     ·exact ⟨by omega, q2⟩
     ·rw [q1]; exact ⟨hlt, q2⟩
   | false =>
    simp only [cond_false]
    obtain ⟨out', ch', e1, e2, e3, e4, e5⟩ := grow_loop hs hE hl n out ch (k + 1) ho hsub (by omega) (by omega)
    refine ⟨out', ch', e1, e2, e3, e4, ?_⟩
    rcases e5 with h5 | ⟨q1, q2, q3⟩
    ·exact .inl h5
    ·refine .inr ⟨q1, q2, fun e he => ?_⟩
     rcases List.mem_cons.1 he with rfl | he
     ·intro h1; rw [h1] at hc; simpa using hc
     ·exact q3 e he
  ·have g1 : decide ((k : Int) < (E.length : Int)) = false := by simp; omega
   rw [g1, List.drop_eq_nil_of_le (by omega)]
   exact ⟨out, ch, rfl, ho, fun _ _ _ h => h, fun h => h, .inr ⟨rfl, rfl, fun e he => by simp at he⟩⟩
theorem grow_all {F : Nat} (hF : 25000 ≤ F ∨ 9000 ≤ F) {E : List Edge} {set : List Bool} {N : Nat} {G : List (List Int)} (hs : set.length = N) (hE : ∀ e ∈ E, (0 ≤ e.fFrom ∧ e.fFrom < (N : Int)) ∧ (0 ≤ e.fTo ∧ e.fTo < (N : Int)) ∧ e.fTo ∈ gt G e.fFrom) (hl : E.length ≤ 8000) :
  ∀ (n : Nat) (out : List Bool) (ch : Bool), out.length = N → Sub N set out → cnt (gt out) N + 1 < n → (∀ i : Int, 0 ≤ i → i < (N : Int) → gt out i = true → Rch G i) → (ch = false → ∀ e ∈ E, gt out e.fFrom = true → gt out e.fTo = true) →
  ∃ R, fn79_l2 F E set n out ch = some R ∧ R.length = N ∧ Sub N out R ∧ (∀ i : Int, 0 ≤ i → i < (N : Int) → gt R i = true → Rch G i) ∧ ∀ e ∈ E, gt R e.fFrom = true → gt R e.fTo = true
 | 0, out, ch, _, _, h, _, _ => by omega
 | n + 1, out, ch, ho, hsub, hn, hr, hcl => by
  rw [fn79_l2_s]
  cases ch with
  | false => exact ⟨out, rfl, ho, fun _ _ _ h => h, hr, hcl rfl⟩
  | true =>
   have hF' : 9000 ≤ F := by rcases hF with h | h <;> omega
   obtain ⟨out', ch', e1, e2, e3, e4, e5⟩ := grow_loop hs hE (by omega) F out false 0 ho hsub (by omega) (by omega)
   rw [show ((0 : Nat) : Int) = 0 from rfl] at e1
   simp only [cond_true, e1, Option.bind_some, fn79_k3]
   rcases e5 with ⟨q1, q2⟩ | ⟨q1, q2, q3⟩
   ·obtain ⟨R, r1, r2, r3, r4, r5⟩ := grow_all hF hs hE hl n out' ch' e2 (fun i h0 h1 h2 => e3 i h0 h1 (hsub i h0 h1 h2)) (by omega) (e4 hr) (fun h => by rw [q2] at h; cases h)
    exact ⟨R, r1, r2, fun i h0 h1 h2 => r3 i h0 h1 (e3 i h0 h1 h2), r4, r5⟩
   ·subst q1
    rw [List.drop_zero] at q3
    cases n with
    | zero => omega
    | succ n =>
     rw [q2, fn79_l2_s]
     exact ⟨out', rfl, e2, fun _ _ _ h => h, hr, q3⟩
theorem reached_ref {F : Nat} {p : List Instr} (hF : 9000 ≤ F) (hp : p.length ≤ 1000) : ∃ R, fn31 F p = some R ∧ IsR (stp p) R := by
 rw [fn31, check_ref (by omega) (by omega), Option.bind_some]
 cases ho : okP p with
 | false =>
  rw [not_ok ho, cond_true]
  exact ⟨[], rfl, by rw [stp_nil ho]; exact ⟨rfl, fun i a b => by simp at b; omega⟩⟩
 | true =>
  have hl : (stp p).length = p.length := by rw [stp_length, ho]; rfl
  obtain ⟨hne, hlen⟩ := ok_len ho
  have hpos : 0 < p.length := List.length_pos_iff.2 hne
  have g : (decide (0 ≤ (p.length : Int)) && decide ((p.length : Int) ≤ (p.length : Int)) && decide ((1 : Int) * (p.length : Int) ≤ 281474976710656) && decide ((p.length : Int) ≤ 9223372036854775807)) = true := by simp; omega
  have g2 : inb 0 ((p.length : Int).toNat) = true := inb_iff.2 ⟨by omega, by simp; omega⟩
  rw [is_ok ho, cond_false, g, cond_true, g2, cond_true, edges_ref (by omega) (by omega), Option.bind_some]
  rw [show ((p.length : Int)).toNat = p.length from by omega, show ((0 : Int)).toNat = 0 from rfl]
  have hset : ((List.replicate p.length false).set 0 true).length = p.length := by simp
  have hin := init_loop p.length ((List.replicate p.length false).set 0 true) hset (by omega) F (List.replicate p.length false) 0 (by simp) (by omega) (by omega)
  rw [show ((0 : Nat) : Int) = 0 from rfl, List.take_zero, List.nil_append, List.drop_zero] at hin
  rw [fn79, g, cond_true, show ((p.length : Int)).toNat = p.length from by omega, hin, Option.bind_some, fn79_k1]
  have hgs : ∀ i : Int, 0 ≤ i → i < (p.length : Int) → (gt ((List.replicate p.length false).set 0 true) i = true ↔ i = 0) := fun i h0 h1 => by
   have := gt_set (v := List.replicate p.length false) (i := 0) (k := i) (a := true) (by omega) (by simp; omega) h0
   rw [show ((0 : Int)).toNat = 0 from rfl] at this
   rw [this]
   have e0 : gt (List.replicate p.length false) i = false := by simp [gt, List.getD_eq_getElem?_getD, List.getElem?_replicate]; split <;> rfl
   rw [e0]
   constructor
   ·intro h; split at h
    ·omega
    ·cases h
   ·intro h; simp [h]
  have hc := cnt_le (gt ((List.replicate p.length false).set 0 true)) p.length
  obtain ⟨R, r1, r2, r3, r4, r5⟩ := grow_all (F := F) (.inr hF) (E := (eds p).map mkE) (G := stp p) hset (fun e he => by
   obtain ⟨a, b⟩ := EE_in he
   rw [hl] at a b
   exact ⟨a, b, (mem_EE.1 he).2⟩) (by rw [List.length_map]; have := eds_len (p := p); omega) F _ true hset (fun _ _ _ h => h) (by omega) (fun i h0 h1 h2 => by rw [(hgs i h0 h1).1 h2]; exact .base) (fun h => by cases h)
  rw [r1]
  refine ⟨R, rfl, by rw [r2, hl], fun i h0 h1 => ⟨fun h => r4 i h0 (by omega) h, fun h => ?_⟩⟩
  clear h0 h1
  have hv := stp_valid p
  induction h with
  | base => exact r3 0 (by omega) (by omega) ((hgs 0 (by omega) (by omega)).2 rfl)
  | @step a b ha hb ih => exact r5 ⟨a, b⟩ (mem_EE.2 ⟨(ha.lt hv (by omega)).1, hb⟩) ih
end Go.Proofs.YthpjmknpkdoadaaGreat
namespace Go.Proofs.YthpjmknpkdoadaaGreat
open Go Go.HW
set_option maxRecDepth 8000
set_option linter.unusedVariables false
def onB (E : List Edge) (left : List Bool) (a : Int) : Bool := E.any fun e => (e.fFrom == a) && gt left e.fTo
theorem on_loop {E : List Edge} {left : List Bool} {N : Nat} (hN : left.length = N) (hE : ∀ e ∈ E, 0 ≤ e.fTo ∧ e.fTo < (N : Int)) (hl : E.length ≤ 8000) (a : Int) : ∀ (n : Nat) (on : Bool) (k : Nat), k ≤ E.length → E.length - k < n →
  fn30_l3 E left a n on (k : Int) = some (on || onB (E.drop k) left a)
 | 0, on, k, _, h => by omega
 | n + 1, on, k, hk, hn => by
  rw [fn30_l3_s]
  rcases Nat.lt_or_ge k E.length with h | h
  ·have g1 : decide ((k : Int) < (E.length : Int)) = true := by simp; omega
   have g2 : inb (k : Int) E.length = true := inb_iff.2 ⟨by omega, by omega⟩
   have hd : E.drop k = gt E (k : Int) :: E.drop (k + 1) := drop_gt h
   have hm : gt E (k : Int) ∈ E := gt_mem (by omega) (by omega)
   have g3 : inb (gt E (k : Int)).fTo left.length = true := by rw [hN]; exact inb_iff.2 (hE _ hm)
   have g4 : IntKind.i64.wrap ((k : Int) + 1) = ((k + 1 : Nat) : Int) := w64 (by omega)
   have a2 : ∀ b : Bool, (bif b then true else true) = true := fun b => by cases b <;> rfl
   simp only [g1, g2, g3, a2, g4, cond_true]
   rw [on_loop hN hE hl a n _ (k + 1) (by omega) (by omega), hd]
   have : onB (gt E (k : Int) :: E.drop (k + 1)) left a = (((gt E (k : Int)).fFrom == a && gt left (gt E (k : Int)).fTo) || onB (E.drop (k + 1)) left a) := rfl
   rw [this, Bool.or_assoc]
  ·have g1 : decide ((k : Int) < (E.length : Int)) = false := by simp; omega
   rw [g1, List.drop_eq_nil_of_le (by omega)]; simp [onB]
theorem prune_loop {F : Nat} (hF : 9000 ≤ F) {E : List Edge} {N : Nat} (hNb : N ≤ 1000) (hE : ∀ e ∈ E, 0 ≤ e.fTo ∧ e.fTo < (N : Int)) (hl : E.length ≤ 8000) : ∀ (n : Nat) (left : List Bool) (ch : Bool) (k : Nat), left.length = N → k ≤ N → N - k < n →
  ∃ left' ch', fn30_l2 F E n left ch (k : Int) = some (left', ch') ∧ left'.length = N ∧ Sub N left' left ∧
   (∀ X : List Int, (∀ x ∈ X, (0 ≤ x ∧ x < (N : Int)) ∧ ∃ e ∈ E, e.fFrom = x ∧ e.fTo ∈ X) → (∀ x ∈ X, gt left x = true) → ∀ x ∈ X, gt left' x = true) ∧
   ((cnt (fun i => !gt left' i) N < cnt (fun i => !gt left i) N ∧ ch' = true) ∨ (left' = left ∧ ch' = ch ∧ ∀ i : Int, (k : Int) ≤ i → i < (N : Int) → gt left i = true → onB E left i = true))
 | 0, left, ch, k, _, _, h => by omega
 | n + 1, left, ch, k, hN, hk, hn => by
  rw [fn30_l2_s]
  rcases Nat.lt_or_ge k N with h | h
  ·have g1 : decide ((k : Int) < (left.length : Int)) = true := by simp; omega
   have g2 : inb (k : Int) left.length = true := inb_iff.2 ⟨by omega, by omega⟩
   have g4 : IntKind.i64.wrap ((k : Int) + 1) = ((k + 1 : Nat) : Int) := w64 (by omega)
   have hon := on_loop hN hE hl (k : Int) F false 0 (by omega) (by omega)
   rw [show ((0 : Nat) : Int) = 0 from rfl, List.drop_zero, Bool.false_or] at hon
   simp only [g1, g2, cond_true, g4, hon, Option.bind_some, fn30_k3]
   have skip : ∀ (hk2 : gt left (k : Int) = true → onB E left (k : Int) = true), ∃ left' ch', fn30_l2 F E n left ch ((k + 1 : Nat) : Int) = some (left', ch') ∧ left'.length = N ∧ Sub N left' left ∧
     (∀ X : List Int, (∀ x ∈ X, (0 ≤ x ∧ x < (N : Int)) ∧ ∃ e ∈ E, e.fFrom = x ∧ e.fTo ∈ X) → (∀ x ∈ X, gt left x = true) → ∀ x ∈ X, gt left' x = true) ∧
     ((cnt (fun i => !gt left' i) N < cnt (fun i => !gt left i) N ∧ ch' = true) ∨ (left' = left ∧ ch' = ch ∧ ∀ i : Int, (k : Int) ≤ i → i < (N : Int) → gt left i = true → onB E left i = true)) := fun hk2 => by
    obtain ⟨left', ch', e1, e2, e3, e4, e5⟩ := prune_loop hF hNb hE hl n left ch (k + 1) hN (by omega) (by omega)
    refine ⟨left', ch', e1, e2, e3, e4, ?_⟩
    rcases e5 with h5 | ⟨q1, q2, q3⟩
    ·exact .inl h5
    ·refine .inr ⟨q1, q2, fun i h0 h1 h2 => ?_⟩
     by_cases hi : i = (k : Int)
     ·subst hi; exact hk2 h2
     ·exact q3 i (by omega) h1 h2
   cases hg : gt left (k : Int) with
   | false =>
    simp only [Bool.not_false, cond_true]
    exact skip (fun h => by rw [hg] at h; cases h)
   | true =>
    simp only [Bool.not_true, cond_false]
    cases ho : onB E left (k : Int) with
    | true =>
     simp only [Bool.not_true, cond_false]
     exact skip (fun _ => ho)
    | false =>
     simp only [Bool.not_false, cond_true]
     have hset : ∀ i : Int, 0 ≤ i → gt (left.set ((k : Int)).toNat false) i = if (k : Int) = i then false else gt left i := fun i hi => gt_set (by omega) (by omega) hi
     obtain ⟨left', ch', e1, e2, e3, e4, e5⟩ := prune_loop hF hNb hE hl n (left.set ((k : Int)).toNat false) true (k + 1) (by simp [hN]) (by omega) (by omega)
     have hs2 : Sub N (left.set ((k : Int)).toNat false) left := fun i h0 h1 h2 => by
      rw [hset i h0] at h2; split at h2
      ·cases h2
      ·exact h2
     have hlt : cnt (fun i => !gt (left.set ((k : Int)).toNat false) i) N < cnt (fun i => !gt left i) N := cnt_lt N (fun i h0 h1 h2 => by
      rw [hset i h0]; split
      ·rfl
      ·exact h2) (k : Int) (by omega) (by omega) (by rw [hg]; rfl) (by rw [hset _ (by omega)]; simp)
     refine ⟨left', ch', e1, e2, fun i h0 h1 h2 => hs2 i h0 h1 (e3 i h0 h1 h2), fun X hX hXl => e4 X hX (fun x hx => ?_), .inl ?_⟩
     ·obtain ⟨⟨x0, x1⟩, e, he, h3, h4⟩ := hX x hx
      rw [hset x x0]
      split
      ·rename_i hkx
       exfalso
       have : onB E left (k : Int) = true := List.any_eq_true.2 ⟨e, he, by rw [h3, hkx]; simp [hXl _ h4]⟩
       rw [ho] at this; cases this
      ·exact hXl x hx
     ·rcases e5 with ⟨q1, q2⟩ | ⟨q1, q2, _⟩
      ·exact ⟨by omega, q2⟩
      ·rw [q1]; exact ⟨hlt, q2⟩
  ·have g1 : decide ((k : Int) < (left.length : Int)) = false := by simp; omega
   rw [g1]
   exact ⟨left, ch, rfl, hN, fun _ _ _ h => h, fun X _ h => h, .inr ⟨rfl, rfl, fun i h0 h1 _ => by omega⟩⟩
theorem prune_all {F : Nat} (hF : 9000 ≤ F) {E : List Edge} {N : Nat} (hNb : N ≤ 1000) (hE : ∀ e ∈ E, 0 ≤ e.fTo ∧ e.fTo < (N : Int)) (hl : E.length ≤ 8000) : ∀ (n : Nat) (left : List Bool) (ch : Bool), left.length = N → cnt (fun i => !gt left i) N + 1 < n →
  (ch = false → ∀ i : Int, 0 ≤ i → i < (N : Int) → gt left i = true → onB E left i = true) →
  ∃ L, fn30_l1 F E n left ch = some L ∧ L.length = N ∧ Sub N L left ∧
   (∀ X : List Int, (∀ x ∈ X, (0 ≤ x ∧ x < (N : Int)) ∧ ∃ e ∈ E, e.fFrom = x ∧ e.fTo ∈ X) → (∀ x ∈ X, gt left x = true) → ∀ x ∈ X, gt L x = true) ∧
   ∀ i : Int, 0 ≤ i → i < (N : Int) → gt L i = true → onB E L i = true
 | 0, left, ch, _, h, _ => by omega
 | n + 1, left, ch, hN, hn, hcl => by
  rw [fn30_l1_s]
  cases ch with
  | false => exact ⟨left, rfl, hN, fun _ _ _ h => h, fun X _ h => h, hcl rfl⟩
  | true =>
   obtain ⟨left', ch', e1, e2, e3, e4, e5⟩ := prune_loop hF hNb hE hl F left false 0 hN (by omega) (by omega)
   rw [show ((0 : Nat) : Int) = 0 from rfl] at e1 e5
   simp only [cond_true, e1, Option.bind_some, fn30_k2]
   rcases e5 with ⟨q1, q2⟩ | ⟨q1, q2, q3⟩
   ·obtain ⟨L, r1, r2, r3, r4, r5⟩ := prune_all hF hNb hE hl n left' ch' e2 (by omega) (fun h => by rw [q2] at h; cases h)
    exact ⟨L, r1, r2, fun i h0 h1 h2 => e3 i h0 h1 (r3 i h0 h1 h2), fun X hX hl => r4 X hX (e4 X hX hl), r5⟩
   ·subst q1
    cases n with
    | zero => omega
    | succ n =>
     rw [q2, fn30_l1_s]
     exact ⟨left', rfl, e2, fun _ _ _ h => h, fun X _ h => h, q3⟩
theorem any_loop {L : List Bool} (hL : L.length ≤ 5000) : ∀ (n k : Nat), k ≤ L.length → L.length - k < n → fn30_l4 L n (k : Int) = some (bif (L.drop k).any id then .inr true else .inl ())
 | 0, k, _, h => by omega
 | n + 1, k, hk, hn => by
  rw [fn30_l4_s]
  rcases Nat.lt_or_ge k L.length with h | h
  ·have g1 : decide ((k : Int) < (L.length : Int)) = true := by simp; omega
   have g2 : inb (k : Int) L.length = true := inb_iff.2 ⟨by omega, by omega⟩
   have g4 : IntKind.i64.wrap ((k : Int) + 1) = ((k + 1 : Nat) : Int) := w64 (by omega)
   have hd : L.drop k = gt L (k : Int) :: L.drop (k + 1) := drop_gt h
   simp only [g1, g2, cond_true, g4]
   rw [any_loop hL n (k + 1) (by omega) (by omega), hd, List.any_cons]
   cases gt L (k : Int) <;> rfl
  ·have g1 : decide ((k : Int) < (L.length : Int)) = false := by simp; omega
   rw [g1, List.drop_eq_nil_of_le (by omega)]; rfl
theorem loops_ref {F : Nat} {p : List Instr} (hF : 9000 ≤ F) (hp : p.length ≤ 1000) : ∃ b, fn30 F p = some b ∧ (b = true ↔ Rnd (stp p)) := by
 obtain ⟨R, h1, h2, h3⟩ := reached_ref hF hp
 have hv := stp_valid p
 have hsl : (stp p).length ≤ p.length := by rw [stp_length]; split <;> omega
 rw [fn30, h1, Option.bind_some, edges_ref (by omega) (by omega), Option.bind_some]
 have hc := cnt_le (fun i => !gt R i) (stp p).length
 obtain ⟨L, l1, l2, l3, l4, l5⟩ := prune_all hF (E := EE p) (N := (stp p).length) (by omega) (fun e he => (EE_in he).2) (by rw [List.length_map]; have := eds_len (p := p); omega) F R true h2 (by omega) (fun h => by cases h)
 rw [l1, Option.bind_some, fn30_k1]
 have ha := any_loop (L := L) (by omega) F 0 (by omega) (by omega)
 rw [show ((0 : Nat) : Int) = 0 from rfl, List.drop_zero] at ha
 rw [ha]
 refine ⟨L.any id, by cases L.any id <;> rfl, ?_⟩
 have hin : ∀ i : Int, 0 ≤ i → i < ((stp p).length : Int) → gt L i = true → Rch (stp p) i := fun i a b h => (h3 i a b).1 (l3 i a b h)
 constructor
 ·intro h
  obtain ⟨b, hb, hb'⟩ := List.any_eq_true.1 h
  obtain ⟨j, hj, e⟩ := List.mem_iff_getElem.1 hb
  have hgj : gt L (j : Int) = true := by
   have e1 : gt L (j : Int) = L[j] := by simp [gt, hj]
   rw [e1, e]; exact hb'
  refine ⟨((List.range (stp p).length).map (fun i : Nat => (i : Int))).filter (fun i => gt L i), ?_, fun x hx => ?_⟩
  ·intro hn
   have : (j : Int) ∈ ((List.range (stp p).length).map (fun i : Nat => (i : Int))).filter (fun i => gt L i) :=
    List.mem_filter.2 ⟨List.mem_map.2 ⟨j, by simp; omega, rfl⟩, hgj⟩
   rw [hn] at this; simp at this
  ·obtain ⟨m1, m2⟩ := List.mem_filter.1 hx
   obtain ⟨i, hi, rfl⟩ := List.mem_map.1 m1
   have hi' : i < (stp p).length := by simpa using hi
   have hon := l5 (i : Int) (by omega) (by omega) m2
   obtain ⟨e, he, h5⟩ := List.any_eq_true.1 hon
   simp at h5
   obtain ⟨h6, h7⟩ := h5
   obtain ⟨_, ht⟩ := mem_EE.1 he
   rw [h6] at ht
   obtain ⟨t0, t1⟩ := hv.at ht
   refine ⟨hin _ (by omega) (by omega) m2, e.fTo, ht, List.mem_filter.2 ⟨List.mem_map.2 ⟨e.fTo.toNat, by simp; omega, by omega⟩, h7⟩⟩
 ·rintro ⟨X, hne, hX⟩
  cases X with
  | nil => exact absurd rfl hne
  | cons x X =>
   have hlt : ∀ y ∈ x :: X, 0 ≤ y ∧ y < ((stp p).length : Int) := fun y hy => by
    obtain ⟨hr, t, ht, _⟩ := hX y hy
    have hpos : 0 < (stp p).length := by
     rcases Nat.eq_zero_or_pos (stp p).length with h | h
     ·have : stp p = [] := List.eq_nil_of_length_eq_zero h
      rw [this] at ht; simp [gt] at ht; cases ht
     ·exact h
    exact hr.lt hv hpos
   have := l4 (x :: X) (fun y hy => by
    obtain ⟨_, t, ht, htX⟩ := hX y hy
    exact ⟨hlt y hy, ⟨y, t⟩, mem_EE.2 ⟨(hlt y hy).1, ht⟩, rfl, htX⟩) (fun y hy => (h3 y (hlt y hy).1 (hlt y hy).2).2 (hX y hy).1) x (by simp)
   obtain ⟨x0, x1⟩ := hlt x (by simp)
   exact List.any_eq_true.2 ⟨gt L x, gt_mem x0 (by omega), by simpa using this⟩
end Go.Proofs.YthpjmknpkdoadaaGreat
namespace Go.Proofs.YthpjmknpkdoadaaGreat
open Go Go.HW
set_option linter.unusedVariables false
theorem findLoop {α : Type} [Inhabited α] (l : List α) (cb : α → Bool) (f : Nat → Int → Option (Unit ⊕ Int)) (hl : l.length ≤ 100000)
  (hf : ∀ n (k : Nat), k ≤ l.length → f (n + 1) (k : Int) = bif decide ((k : Int) < (l.length : Int)) then (bif inb (k : Int) l.length then (bif cb (gt l (k : Int)) then some (.inr (k : Int)) else f n (IntKind.i64.wrap ((k : Int) + 1))) else none) else some (.inl ())) :
  ∀ (n k : Nat), k ≤ l.length → l.length - k < n →
   (f n (k : Int) = some (.inl ()) ∧ ∀ y ∈ l.drop k, cb y = false) ∨
   ∃ i : Nat, f n (k : Int) = some (.inr (i : Int)) ∧ k ≤ i ∧ i < l.length ∧ cb (gt l (i : Int)) = true ∧ ∀ j : Nat, k ≤ j → j < i → cb (gt l (j : Int)) = false
 | 0, k, h1, h2 => by omega
 | n + 1, k, h1, h2 => by
  rw [hf n k h1]
  by_cases hk : k < l.length
  ·rw [show decide ((k : Int) < (l.length : Int)) = true by simp; omega, cond_true, show inb (k : Int) l.length = true from inb_iff.2 ⟨by omega, by omega⟩, cond_true]
   have hd : l.drop k = gt l (k : Int) :: l.drop (k + 1) := drop_gt hk
   cases hc : cb (gt l (k : Int)) with
   | true => exact .inr ⟨k, rfl, Nat.le_refl _, hk, hc, fun j h3 h4 => by omega⟩
   | false =>
    rw [cond_false, show IntKind.i64.wrap ((k : Int) + 1) = ((k + 1 : Nat) : Int) from w64 (by omega)]
    rcases findLoop l cb f hl hf n (k + 1) (by omega) (by omega) with ⟨e1, e2⟩ | ⟨i, e1, e2, e3, e4, e5⟩
    ·refine .inl ⟨e1, fun y hy => ?_⟩
     rw [hd] at hy
     rcases List.mem_cons.1 hy with rfl | hy
     ·exact hc
     ·exact e2 y hy
    ·refine .inr ⟨i, e1, by omega, e3, e4, fun j h3 h4 => ?_⟩
     rcases Nat.eq_or_lt_of_le h3 with rfl | h5
     ·exact hc
     ·exact e5 j (by omega) h4
  ·rw [show decide ((k : Int) < (l.length : Int)) = false by simp; omega, cond_false]
   exact .inl ⟨rfl, fun y hy => by rw [List.drop_eq_nil_of_le (by omega)] at hy; cases hy⟩
theorem findAny {α : Type} [Inhabited α] (l : List α) (cb : α → Bool) (f : Nat → Int → Option (Unit ⊕ Int)) (hl : l.length ≤ 100000)
  (hf : ∀ n (k : Nat), k ≤ l.length → f (n + 1) (k : Int) = bif decide ((k : Int) < (l.length : Int)) then (bif inb (k : Int) l.length then (bif cb (gt l (k : Int)) then some (.inr (k : Int)) else f n (IntKind.i64.wrap ((k : Int) + 1))) else none) else some (.inl ())) {F : Nat} (hF : 100001 ≤ F ∨ l.length < F) :
  ((Option.bind (f F 0) fun o => match o with | .inl _ => some (-1) | .inr u => some u).bind fun v => some (decide ((0 : Int) ≤ v))) = some (l.any cb) := by
 rcases findLoop l cb f hl hf F 0 (by omega) (by omega) with ⟨e1, e2⟩ | ⟨i, e1, e2, e3, e4, e5⟩
 ·rw [show ((0 : Nat) : Int) = 0 from rfl] at e1
  rw [e1]
  have : l.any cb = false := by
   rw [List.any_eq_false]; intro x hx; rw [e2 x (by simpa using hx)]; simp
  rw [this]; rfl
 ·rw [show ((0 : Nat) : Int) = 0 from rfl] at e1
  rw [e1]
  have hm : gt l (i : Int) ∈ l := by
   have : gt l (i : Int) = l[i] := by simp [gt, e3]
   rw [this]; exact List.getElem_mem _
  have : l.any cb = true := List.any_eq_true.2 ⟨_, hm, e4⟩
  rw [this]; simp
theorem has114 {F : Nat} (l : List Int) (y : Int) (hl : l.length ≤ 1000) (hF : l.length < F) : fn114 F l y = some (decide (y ∈ l)) := by
 have := findAny l (fun z => y == z) (fn141_l1 l y) (by omega) (fun n k _ => fn141_l1_s l y n k) (F := F) (.inr hF)
 rw [fn114, fn141]
 refine Eq.trans this ?_
 congr 1
 rw [List.any_beq]
 simp
theorem has102 {F : Nat} (l : List Int) (y : Int) (hl : l.length ≤ 1000) (hF : l.length < F) : fn102 F l y = some (decide (y ∈ l)) := by
 have := findAny l (fun z => y == z) (fn128_l1 l y) (by omega) (fun n k _ => fn128_l1_s l y n k) (F := F) (.inr hF)
 rw [fn102, fn128]
 refine Eq.trans this ?_
 congr 1
 rw [List.any_beq]
 simp
theorem set_l {α : Type} {n : Nat} (x : Ar α n) (i : Nat) (u : α) : (x.set (i : Int) u).l = x.l.set i u := rfl
theorem tdivN (a W : Nat) (ha : a ≤ 100000) : IntKind.i64.wrap ((a : Int).tdiv (W : Int)) = ((a / W : Nat) : Int) := by
 rw [← Int.ofNat_tdiv]
 have : a / W ≤ a := Nat.div_le_self a W
 generalize a / W = q at *
 exact w64 (by omega)
theorem tmodN (a W : Nat) : (a : Int).tmod (W : Int) = ((a % W : Nat) : Int) := (Int.ofNat_tmod a W).symm
structure OkK (k : Known) : Prop where
 w16 : k.fregs.fwidth = 16
 w64 : k.fbytes.fwidth = 64
 r16 : okW 16 k.fregs.fwords.l
 r64 : okW 64 k.fbytes.fwords.l
def rb (k : Known) (i : Nat) : Bool := bW 16 k.fregs.fwords.l i
def bb (k : Known) (i : Nat) : Bool := bW 64 k.fbytes.fwords.l i
theorem put_loop {k : Known} (hk : k.fregs.fwidth = 16) {l : List Int} (hl : l.length ≤ 1000) (hb : ∀ x ∈ l, 0 ≤ x ∧ x < 128) : ∀ (n j : Nat) (x : Ar Int 8), okW 16 x.l → j ≤ l.length → l.length - j < n →
  ∃ y, fn107_l1 k l n x (j : Int) = some y ∧ okW 16 y.l ∧ ∀ i : Nat, bW 16 y.l i = (bW 16 x.l i || decide ((i : Int) ∈ l.drop j))
 | 0, j, x, hx, h1, h2 => by omega
 | n + 1, j, x, hx, h1, h2 => by
  rw [fn107_l1_s]
  by_cases hj : j < l.length
  ·have hm : gt l (j : Int) ∈ l := by
    have : gt l (j : Int) = l[j] := by simp [gt, hj]
    rw [this]; exact List.getElem_mem _
   obtain ⟨b0, b1⟩ := hb _ hm
   obtain ⟨a, ha⟩ : ∃ a : Nat, gt l (j : Int) = (a : Int) := ⟨_, (Int.toNat_of_nonneg b0).symm⟩
   have ha' : a < 128 := by omega
   have hd : l.drop j = (a : Int) :: l.drop (j + 1) := by rw [← ha]; exact drop_gt hj
   have hdiv : a / 16 < x.l.length := by rw [x.h]; omega
   rw [show decide ((j : Int) < (l.length : Int)) = true by simp; omega, cond_true, show inb (j : Int) l.length = true from inb_iff.2 ⟨by omega, by omega⟩, cond_true, hk, ha,
    show (16 : Int) = ((16 : Nat) : Int) from rfl, tdivN a 16 (by omega), tmodN a 16, show (((16 : Nat) : Int) != 0) = true from rfl, cond_true,
    show inb ((a / 16 : Nat) : Int) 8 = true from inb_iff.2 ⟨by omega, by omega⟩, cond_true, show decide ((0 : Int) ≤ ((a % 16 : Nat) : Int)) = true by simp; omega, cond_true,
    show IntKind.i64.wrap ((j : Int) + 1) = ((j + 1 : Nat) : Int) from Go.Proofs.YthpjmknpkdoadaaGreat.w64 (by omega)]
   obtain ⟨p1, p2⟩ := bW_put (k := .u16) rfl (by decide) (l := x.l) hx (n := a) hdiv
   obtain ⟨y, y1, y2, y3⟩ := put_loop hk hl hb n (j + 1) (x.set ((a / 16 : Nat) : Int) (ior .u16 (gt x.l ((a / 16 : Nat) : Int)) (ishl .u16 1 ((a % 16 : Nat) : Int)))) p1 (by omega) (by omega)
   refine ⟨y, y1, y2, fun i => ?_⟩
   rw [y3, set_l]
   have := p2 i
   simp only [show IntKind.u16.bits = 16 from rfl] at this
   rw [this, hd, Bool.or_assoc]
   congr 1
   rw [← Bool.decide_or]
   congr 1
   simp only [List.mem_cons, eq_iff_iff]
   constructor
   ·rintro (h | h)
    ·exact .inl (by omega)
    ·exact .inr h
   ·rintro (h | h)
    ·exact .inl (by omega)
    ·exact .inr h
  ·rw [show decide ((j : Int) < (l.length : Int)) = false by simp; omega, cond_false]
   exact ⟨x, rfl, hx, fun i => by rw [List.drop_eq_nil_of_le (by omega)]; simp⟩
theorem put_ok {F : Nat} {k : Known} (hk : OkK k) {l : List Int} (hl : l.length ≤ 1000) (hF : l.length < F) (hb : ∀ x ∈ l, 0 ≤ x ∧ x < 128) : ∃ k', fn107 F k l = some k' ∧ OkK k' ∧ (∀ i : Nat, rb k' i = (rb k i || decide ((i : Int) ∈ l))) ∧ k'.fbytes = k.fbytes := by
 obtain ⟨y, y1, y2, y3⟩ := put_loop hk.w16 hl hb F 0 k.fregs.fwords hk.r16 (by omega) (by omega)
 rw [show ((0 : Nat) : Int) = 0 from rfl] at y1
 refine ⟨⟨⟨y, k.fregs.fwidth⟩, k.fbytes⟩, by rw [fn107, y1]; rfl, ⟨hk.w16, hk.w64, y2, hk.r64⟩, fun i => by rw [rb, y3, List.drop_zero]; rfl, rfl⟩
theorem put64_loop {k : Known} (hk : k.fbytes.fwidth = 64) {l : List Int} (hl : l.length ≤ 1000) (hb : ∀ x ∈ l, 0 ≤ x ∧ x < 512) : ∀ (n j : Nat) (x : Ar Int 8), okW 64 x.l → j ≤ l.length → l.length - j < n →
  ∃ y, fn140_l1 k l n x (j : Int) = some y ∧ okW 64 y.l ∧ ∀ i : Nat, bW 64 y.l i = (bW 64 x.l i || decide ((i : Int) ∈ l.drop j))
 | 0, j, x, hx, h1, h2 => by omega
 | n + 1, j, x, hx, h1, h2 => by
  rw [fn140_l1_s]
  by_cases hj : j < l.length
  ·have hm : gt l (j : Int) ∈ l := by
    have : gt l (j : Int) = l[j] := by simp [gt, hj]
    rw [this]; exact List.getElem_mem _
   obtain ⟨b0, b1⟩ := hb _ hm
   obtain ⟨a, ha⟩ : ∃ a : Nat, gt l (j : Int) = (a : Int) := ⟨_, (Int.toNat_of_nonneg b0).symm⟩
   have ha' : a < 512 := by omega
   have hd : l.drop j = (a : Int) :: l.drop (j + 1) := by rw [← ha]; exact drop_gt hj
   have hdiv : a / 64 < x.l.length := by rw [x.h]; omega
   rw [show decide ((j : Int) < (l.length : Int)) = true by simp; omega, cond_true, show inb (j : Int) l.length = true from inb_iff.2 ⟨by omega, by omega⟩, cond_true, hk, ha,
    show (64 : Int) = ((64 : Nat) : Int) from rfl, tdivN a 64 (by omega), tmodN a 64, show (((64 : Nat) : Int) != 0) = true from rfl, cond_true,
    show inb ((a / 64 : Nat) : Int) 8 = true from inb_iff.2 ⟨by omega, by omega⟩, cond_true, show decide ((0 : Int) ≤ ((a % 64 : Nat) : Int)) = true by simp; omega, cond_true,
    show IntKind.i64.wrap ((j : Int) + 1) = ((j + 1 : Nat) : Int) from Go.Proofs.YthpjmknpkdoadaaGreat.w64 (by omega)]
   obtain ⟨p1, p2⟩ := bW_put (k := .u64) rfl (by decide) (l := x.l) hx (n := a) hdiv
   obtain ⟨y, y1, y2, y3⟩ := put64_loop hk hl hb n (j + 1) (x.set ((a / 64 : Nat) : Int) (ior .u64 (gt x.l ((a / 64 : Nat) : Int)) (ishl .u64 1 ((a % 64 : Nat) : Int)))) p1 (by omega) (by omega)
   refine ⟨y, y1, y2, fun i => ?_⟩
   rw [y3, set_l]
   have := p2 i
   simp only [show IntKind.u64.bits = 64 from rfl] at this
   rw [this, hd, Bool.or_assoc]
   congr 1
   rw [← Bool.decide_or]
   congr 1
   simp only [List.mem_cons, eq_iff_iff]
   constructor
   ·rintro (h | h)
    ·exact .inl (by omega)
    ·exact .inr h
   ·rintro (h | h)
    ·exact .inl (by omega)
    ·exact .inr h
  ·rw [show decide ((j : Int) < (l.length : Int)) = false by simp; omega, cond_false]
   exact ⟨x, rfl, hx, fun i => by rw [List.drop_eq_nil_of_le (by omega)]; simp⟩
theorem put64_ok {F : Nat} {k : Known} (hk : OkK k) {l : List Int} (hl : l.length ≤ 1000) (hF : l.length < F) (hb : ∀ x ∈ l, 0 ≤ x ∧ x < 512) : ∃ k', fn140 F k l = some k' ∧ OkK k' ∧ (∀ i : Nat, bb k' i = (bb k i || decide ((i : Int) ∈ l))) ∧ k'.fregs = k.fregs := by
 obtain ⟨y, y1, y2, y3⟩ := put64_loop hk.w64 hl hb F 0 k.fbytes.fwords hk.r64 (by omega) (by omega)
 rw [show ((0 : Nat) : Int) = 0 from rfl] at y1
 refine ⟨⟨k.fregs, ⟨y, k.fbytes.fwidth⟩⟩, by rw [fn140, y1]; rfl, ⟨hk.w16, hk.w64, hk.r16, y2⟩, fun i => by rw [bb, y3, List.drop_zero]; rfl, rfl⟩
theorem drop_ok {k : Known} (hk : OkK k) {a : Nat} (ha : a < 128) : ∃ k', fn115 k (a : Int) = some k' ∧ OkK k' ∧ (∀ i : Nat, rb k' i = (rb k i && !decide (i = a))) ∧ k'.fbytes = k.fbytes := by
 have hdiv : a / 16 < k.fregs.fwords.l.length := by rw [k.fregs.fwords.h]; omega
 obtain ⟨p1, p2⟩ := bW_drop (k := .u16) rfl (by decide) (l := k.fregs.fwords.l) hk.r16 (n := a) hdiv
 simp only [fn115, hk.w16]
 rw [show (16 : Int) = ((16 : Nat) : Int) from rfl, tdivN a 16 (by omega), tmodN a 16, show (((16 : Nat) : Int) != 0) = true from rfl, cond_true,
    show inb ((a / 16 : Nat) : Int) 8 = true from inb_iff.2 ⟨by omega, by omega⟩, cond_true, show decide ((0 : Int) ≤ ((a % 16 : Nat) : Int)) = true by simp; omega, cond_true]
 refine ⟨_, rfl, ⟨rfl, hk.w64, p1, hk.r64⟩, fun i => ?_, rfl⟩
 exact p2 i
theorem has_one {k : Known} (hk : OkK k) {a : Nat} (ha : a < 128) : fn153 (a : Int) k = some (!rb k a) := by
 have hdiv : a / 16 < k.fregs.fwords.l.length := by rw [k.fregs.fwords.h]; omega
 simp only [fn153, hk.w16]
 rw [show (16 : Int) = ((16 : Nat) : Int) from rfl, tdivN a 16 (by omega), tmodN a 16, show (((16 : Nat) : Int) != 0) = true from rfl, cond_true,
    show inb ((a / 16 : Nat) : Int) 8 = true from inb_iff.2 ⟨by omega, by omega⟩, cond_true, show decide ((0 : Int) ≤ ((a % 16 : Nat) : Int)) = true by simp; omega, cond_true]
 have := bW_has (k := .u16) rfl (by decide) (l := k.fregs.fwords.l) hk.r16 (n := a) hdiv
 simp only [show IntKind.u16.bits = 16 from rfl] at this
 rw [this]; rfl
theorem has64_one {k : Known} (hk : OkK k) {a : Nat} (ha : a < 512) : fn154 (a : Int) k = some (!bb k a) := by
 have hdiv : a / 64 < k.fbytes.fwords.l.length := by rw [k.fbytes.fwords.h]; omega
 simp only [fn154, hk.w64]
 rw [show (64 : Int) = ((64 : Nat) : Int) from rfl, tdivN a 64 (by omega), tmodN a 64, show (((64 : Nat) : Int) != 0) = true from rfl, cond_true,
    show inb ((a / 64 : Nat) : Int) 8 = true from inb_iff.2 ⟨by omega, by omega⟩, cond_true, show decide ((0 : Int) ≤ ((a % 64 : Nat) : Int)) = true by simp; omega, cond_true]
 have := bW_has (k := .u64) rfl (by decide) (l := k.fbytes.fwords.l) hk.r64 (n := a) hdiv
 simp only [show IntKind.u64.bits = 64 from rfl] at this
 rw [this]; rfl
theorem gt_memN {l : List Int} {j : Nat} (hj : j < l.length) : gt l (j : Int) ∈ l := by
 have : gt l (j : Int) = l[j] := by simp [gt, hj]
 rw [this]; exact List.getElem_mem _
theorem has_ok {F : Nat} {k : Known} (hk : OkK k) {l : List Int} (hl : l.length ≤ 1000) (hF : l.length < F) (hb : ∀ x ∈ l, 0 ≤ x ∧ x < 128) : fn135 F k l = some (l.all fun x => rb k x.toNat) := by
 have h1 : ∀ x ∈ l, fn153 x k = some (!rb k x.toNat) := fun x hx => by
  obtain ⟨a, b⟩ := hb x hx
  have := has_one hk (a := x.toNat) (by omega)
  rwa [Int.toNat_of_nonneg a] at this
 have := findAny l (fun x => !rb k x.toNat) (fn170_l1 l k) (by omega) (fun n j hj => by
  rw [fn170_l1_s]
  by_cases hlt : j < l.length
  ·rw [h1 _ (gt_memN hlt)]; rfl
  ·rw [show decide ((j : Int) < (l.length : Int)) = false by simp; omega, cond_false, cond_false]) (F := F) (.inr hF)
 rw [fn135, fn152, fn170]
 refine (congrArg (fun o => Option.bind o fun v1 => some (!v1)) this).trans ?_
 simp [List.any_eq_not_all_not]
theorem has64_ok {F : Nat} {k : Known} (hk : OkK k) {l : List Int} (hl : l.length ≤ 1000) (hF : l.length < F) (hb : ∀ x ∈ l, 0 ≤ x ∧ x < 512) : fn137 F k l = some (l.all fun x => bb k x.toNat) := by
 have h1 : ∀ x ∈ l, fn154 x k = some (!bb k x.toNat) := fun x hx => by
  obtain ⟨a, b⟩ := hb x hx
  have := has64_one hk (a := x.toNat) (by omega)
  rwa [Int.toNat_of_nonneg a] at this
 have := findAny l (fun x => !bb k x.toNat) (fn170v1_l1 l k) (by omega) (fun n j hj => by
  rw [fn170v1_l1_s]
  by_cases hlt : j < l.length
  ·rw [h1 _ (gt_memN hlt)]; rfl
  ·rw [show decide ((j : Int) < (l.length : Int)) = false by simp; omega, cond_false, cond_false]) (F := F) (.inr hF)
 rw [fn137, fn152v1, fn170v1]
 refine (congrArg (fun o => Option.bind o fun v1 => some (!v1)) this).trans ?_
 simp [List.any_eq_not_all_not]
theorem with_loop {b : Bag16} (hb : okW 16 b.fwords.l) : ∀ (n j : Nat) (x : Ar Int 8), okW 16 x.l → j ≤ 8 → 8 - j < n →
  ∃ y, fn67_l1 b n x (j : Int) = some y ∧ okW 16 y.l ∧ ∀ i : Nat, i < 128 → bW 16 y.l i = (bif decide (j ≤ i / 16) then bW 16 x.l i && bW 16 b.fwords.l i else bW 16 x.l i)
 | 0, j, x, hx, h1, h2 => by omega
 | n + 1, j, x, hx, h1, h2 => by
  rw [fn67_l1_s]
  by_cases hj : j < 8
  ·have hjl : j < x.l.length := by rw [x.h]; exact hj
   obtain ⟨a, a1, a2⟩ := hx.at hjl
   obtain ⟨c, c1, c2⟩ := hb.at (i := j) (by rw [b.fwords.h]; exact hj)
   have e : iand .u16 (gt x.l (j : Int)) (gt b.fwords.l (j : Int)) = ((a &&& c : Nat) : Int) := by rw [a1, c1]; exact iand_nat rfl a2 c2
   rw [show decide ((j : Int) < 8) = true by simp; omega, cond_true, show inb (j : Int) 8 = true from inb_iff.2 ⟨by omega, by omega⟩, cond_true, e, show IntKind.i64.wrap ((j : Int) + 1) = ((j + 1 : Nat) : Int) from Go.Proofs.YthpjmknpkdoadaaGreat.w64 (by omega)]
   obtain ⟨y, y1, y2, y3⟩ := with_loop hb n (j + 1) (x.set (j : Int) ((a &&& c : Nat) : Int)) (hx.set (Nat.and_lt_two_pow a c2)) (by omega) (by omega)
   refine ⟨y, y1, y2, fun i hi => ?_⟩
   rw [y3 i hi, set_l]
   have hs : bW 16 (x.l.set j ((a &&& c : Nat) : Int)) i = bif decide (i / 16 = j) then bW 16 x.l i && bW 16 b.fwords.l i else bW 16 x.l i := by
    unfold bW
    rw [gt_setN hjl]
    by_cases h : i / 16 = j
    ·simp [h, a1, c1, Nat.testBit_and]
    ·simp [h]
   rw [hs]
   by_cases h : i / 16 = j
   ·have h3 : ¬ (j + 1 ≤ i / 16) := by omega
    have h4 : j ≤ i / 16 := by omega
    simp [h, h3, h4]
   ·by_cases h5 : j ≤ i / 16
    ·have h6 : j + 1 ≤ i / 16 := by omega
     simp [h, h5, h6]
    ·have h6 : ¬ (j + 1 ≤ i / 16) := by omega
     simp [h, h5, h6]
  ·rw [show decide ((j : Int) < 8) = false by simp; omega, cond_false]
   refine ⟨x, rfl, hx, fun i hi => ?_⟩
   have : ¬ (j ≤ i / 16) := by omega
   simp [this]
theorem with64_loop {b : Bag64} (hb : okW 64 b.fwords.l) : ∀ (n j : Nat) (x : Ar Int 8), okW 64 x.l → j ≤ 8 → 8 - j < n →
  ∃ y, fn68_l1 b n x (j : Int) = some y ∧ okW 64 y.l ∧ ∀ i : Nat, i < 512 → bW 64 y.l i = (bif decide (j ≤ i / 64) then bW 64 x.l i && bW 64 b.fwords.l i else bW 64 x.l i)
 | 0, j, x, hx, h1, h2 => by omega
 | n + 1, j, x, hx, h1, h2 => by
  rw [fn68_l1_s]
  by_cases hj : j < 8
  ·have hjl : j < x.l.length := by rw [x.h]; exact hj
   obtain ⟨a, a1, a2⟩ := hx.at hjl
   obtain ⟨c, c1, c2⟩ := hb.at (i := j) (by rw [b.fwords.h]; exact hj)
   have e : iand .u64 (gt x.l (j : Int)) (gt b.fwords.l (j : Int)) = ((a &&& c : Nat) : Int) := by rw [a1, c1]; exact iand_nat rfl a2 c2
   rw [show decide ((j : Int) < 8) = true by simp; omega, cond_true, show inb (j : Int) 8 = true from inb_iff.2 ⟨by omega, by omega⟩, cond_true, e, show IntKind.i64.wrap ((j : Int) + 1) = ((j + 1 : Nat) : Int) from Go.Proofs.YthpjmknpkdoadaaGreat.w64 (by omega)]
   obtain ⟨y, y1, y2, y3⟩ := with64_loop hb n (j + 1) (x.set (j : Int) ((a &&& c : Nat) : Int)) (hx.set (Nat.and_lt_two_pow a c2)) (by omega) (by omega)
   refine ⟨y, y1, y2, fun i hi => ?_⟩
   rw [y3 i hi, set_l]
   have hs : bW 64 (x.l.set j ((a &&& c : Nat) : Int)) i = bif decide (i / 64 = j) then bW 64 x.l i && bW 64 b.fwords.l i else bW 64 x.l i := by
    unfold bW
    rw [gt_setN hjl]
    by_cases h : i / 64 = j
    ·simp [h, a1, c1, Nat.testBit_and]
    ·simp [h]
   rw [hs]
   by_cases h : i / 64 = j
   ·have h3 : ¬ (j + 1 ≤ i / 64) := by omega
    have h4 : j ≤ i / 64 := by omega
    simp [h, h3, h4]
   ·by_cases h5 : j ≤ i / 64
    ·have h6 : j + 1 ≤ i / 64 := by omega
     simp [h, h5, h6]
    ·have h6 : ¬ (j + 1 ≤ i / 64) := by omega
     simp [h, h5, h6]
  ·rw [show decide ((j : Int) < 8) = false by simp; omega, cond_false]
   refine ⟨x, rfl, hx, fun i hi => ?_⟩
   have : ¬ (j ≤ i / 64) := by omega
   simp [this]
theorem with_ok {F : Nat} (hF : 10 ≤ F) {k : Known} (hk : OkK k) {q : Known} (hq : OkK q) : ∃ k1 k2, fn67 F k q.fregs = some k1 ∧ fn68 F k1 q.fbytes = some k2 ∧ OkK k2 ∧ (∀ i : Nat, i < 128 → rb k2 i = (rb k i && rb q i)) ∧ (∀ i : Nat, i < 512 → bb k2 i = (bb k i && bb q i)) := by
 obtain ⟨y, y1, y2, y3⟩ := with_loop hq.r16 F 0 k.fregs.fwords hk.r16 (by omega) (by omega)
 obtain ⟨z, z1, z2, z3⟩ := with64_loop hq.r64 F 0 k.fbytes.fwords hk.r64 (by omega) (by omega)
 rw [show ((0 : Nat) : Int) = 0 from rfl] at y1 z1
 refine ⟨_, ⟨⟨y, k.fregs.fwidth⟩, ⟨z, k.fbytes.fwidth⟩⟩, by rw [fn67, y1]; rfl, by rw [fn68]; simp only [fn67_k1]; rw [z1]; rfl, ⟨hk.w16, hk.w64, y2, z2⟩, fun i hi => by rw [rb, y3 i hi]; rfl, fun i hi => by rw [bb, z3 i hi]; rfl⟩
end Go.Proofs.YthpjmknpkdoadaaGreat
namespace Go.Proofs.YthpjmknpkdoadaaGreat
open Go Go.HW
set_option linter.unusedVariables false
def idxL (n : Nat) (f : Int → Bool) : List Int := ((List.range n).map (fun i : Nat => (i : Int))).filter f
theorem idxL_succ (n : Nat) (f : Int → Bool) : idxL (n + 1) f = idxL n f ++ (bif f (n : Int) then [(n : Int)] else []) := by
 simp only [idxL, List.range_succ, List.map_append, List.filter_append, List.map_cons, List.map_nil]
 cases h : f (n : Int) <;> simp [h]
theorem mem_idxL {n : Nat} {f : Int → Bool} {t : Int} : t ∈ idxL n f ↔ (0 ≤ t ∧ t < (n : Int)) ∧ f t = true := by
 simp only [idxL, List.mem_filter, List.mem_map, List.mem_range]
 constructor
 ·rintro ⟨⟨i, hi, rfl⟩, h⟩; exact ⟨by omega, h⟩
 ·rintro ⟨⟨h0, h1⟩, h⟩; exact ⟨⟨t.toNat, by omega, by omega⟩, h⟩
theorem idxL_len (n : Nat) (f : Int → Bool) : (idxL n f).length ≤ n := by
 have := List.length_filter_le f ((List.range n).map (fun i : Nat => (i : Int)))
 simpa [idxL] using this
theorem idxL_lt (n : Nat) (f : Int → Bool) : (idxL n f).Pairwise (fun a b => a < b) := by
 induction n with
 | zero => simp [idxL]
 | succ n ih =>
  rw [idxL_succ, List.pairwise_append]
  refine ⟨ih, by cases f (n : Int) <;> simp, fun a ha b hb => ?_⟩
  have h1 := (mem_idxL.1 ha).1
  cases hf : f (n : Int) <;> rw [hf] at hb <;> simp at hb
  omega
theorem idxL_congr {n : Nat} {f g : Int → Bool} (h : ∀ t : Int, 0 ≤ t → t < (n : Int) → f t = g t) : idxL n f = idxL n g := by
 induction n with
 | zero => rfl
 | succ n ih => rw [idxL_succ, idxL_succ, ih (fun t h0 h1 => h t h0 (by omega)), h n (by omega) (by omega)]
theorem sort_idx {K : List Int} (hn : K.Nodup) {n : Nat} {f : Int → Bool} (hm : ∀ t, t ∈ K ↔ (0 ≤ t ∧ t < (n : Int)) ∧ f t = true) : K.mergeSort (fun x y => decide (x ≤ y)) = idxL n f := by
 have tr : ∀ a b c : Int, decide (a ≤ b) = true → decide (b ≤ c) = true → decide (a ≤ c) = true := fun a b c h1 h2 => by simp only [decide_eq_true_eq] at *; omega
 have to : ∀ a b : Int, (decide (a ≤ b) || decide (b ≤ a)) = true := fun a b => by simp only [Bool.or_eq_true, decide_eq_true_eq]; omega
 have nd : (idxL n f).Nodup := (idxL_lt n f).imp (fun h => by omega)
 have hp : (K.mergeSort (fun x y => decide (x ≤ y))).Perm (idxL n f) :=
  (List.mergeSort_perm K _).trans ((List.perm_ext_iff_of_nodup hn nd).2 (fun t => (hm t).trans mem_idxL.symm))
 refine List.Perm.eq_of_pairwise (le := fun a b => decide (a ≤ b) = true) (fun a b _ _ h1 h2 => ?_) (List.pairwise_mergeSort tr to K) ((idxL_lt n f).imp (fun h => by simp only [decide_eq_true_eq]; omega)) hp
 simp only [decide_eq_true_eq] at h1 h2; omega
def tgt (p : List Instr) (t : Int) : Bool := (firstsL p 0).any fun y => (fn120 (gt p y.1) y.1).2 && ((fn120 (gt p y.1) y.1).1 == t)
theorem tgt_iff {p : List Instr} {t : Int} : tgt p t = true ↔ ∃ j : Int, pl p j = true ∧ fn120 (gt p j) j = (t, true) := by
 simp only [tgt, List.any_eq_true, Bool.and_eq_true, beq_iff_eq]
 constructor
 ·rintro ⟨y, hy, h1, h2⟩
  refine ⟨y.1, ?_, by rw [← h1, ← h2]⟩
  rw [← pos_pl, posIn, List.any_eq_true]; exact ⟨y, hy, by simp⟩
 ·rintro ⟨j, hj, h⟩
  rw [← pos_pl, posIn, List.any_eq_true] at hj
  obtain ⟨y, hy, h1⟩ := hj
  have h1 : y.1 = j := by simpa using h1
  exact ⟨y, hy, by rw [h1, h], by rw [h1, h]⟩
def tg (p : List Instr) : List Int := bif okP p then idxL p.length (tgt p) else []
theorem tg_len (p : List Instr) : (tg p).length ≤ p.length := by
 unfold tg; cases okP p
 ·simp
 ·exact idxL_len _ _
theorem ok_er_pl {q : List Instr} (h : okP q = true) {k : Int} (hk : pl q k = true) : er q k = 0 := by
 rw [← pos_pl, posIn, List.any_eq_true] at hk
 obtain ⟨y, h1, h2⟩ := hk
 have := ok_er h y h1
 simp at h2
 rw [← h2]; exact this
theorem tgt_pl {p : List Instr} (ho : okP p = true) {t : Int} (h : tgt p t = true) : pl p t = true := by
 obtain ⟨j, hj, hf⟩ := tgt_iff.1 h
 have := er_target (ok_er_pl ho hj) (by rw [hf])
 rw [hf] at this; exact this
theorem pl_in {p : List Instr} {t : Int} (h : pl p t = true) : 0 ≤ t ∧ t < (p.length : Int) := by
 simp only [pl, Bool.and_eq_true, decide_eq_true_eq] at h; exact h.1
theorem ref_l1 {p : List Instr} (hp : p.length ≤ 5000) (ho : okP p = true) : ∀ (n : Nat) (x : List Bool) (k : Nat), k ≤ p.length → p.length - k < n → x.length = p.length →
  (∀ t : Int, 0 ≤ t → t < (p.length : Int) → (gt x t = true ↔ ∃ j : Int, j < (k : Int) ∧ pl p j = true ∧ fn120 (gt p j) j = (t, true))) →
  ∃ x', fn122_l1 p (marks p) n x (k : Int) = some x' ∧ x'.length = p.length ∧ ∀ t : Int, 0 ≤ t → t < (p.length : Int) → gt x' t = tgt p t := by
 intro n
 induction n with
 | zero => intro x k _ h; omega
 | succ n ih =>
  intro x k hk hn hx hi
  rw [fn122_l1_s]
  have e1 : IntKind.i64.wrap ((k : Int) + 1) = ((k + 1 : Nat) : Int) := by rw [w64 (by omega)]; omega
  by_cases hlt : k < p.length
  ·have g1 : decide ((k : Int) < (p.length : Int)) = true := by simp; omega
   have g2 : inb (k : Int) (marks p).length = true := inb_iff.2 ⟨by omega, by rw [marks_length]; omega⟩
   have g3 : inb (k : Int) p.length = true := inb_iff.2 ⟨by omega, by omega⟩
   have hpl : pl p (k : Int) = gt (marks p) (k : Int) := pl_marks (by omega) (by omega)
   have step : ∀ x2 : List Bool, x2.length = p.length → (∀ t : Int, 0 ≤ t → t < (p.length : Int) → (gt x2 t = true ↔ (gt x t = true ∨ (pl p (k : Int) = true ∧ fn120 (gt p (k : Int)) (k : Int) = (t, true))))) →
     ∃ x', fn122_l1 p (marks p) n x2 ((k + 1 : Nat) : Int) = some x' ∧ x'.length = p.length ∧ ∀ t : Int, 0 ≤ t → t < (p.length : Int) → gt x' t = tgt p t := fun x2 h1 h2 => by
    refine ih x2 (k + 1) (by omega) (by omega) h1 (fun t h0 h3 => ?_)
    rw [h2 t h0 h3, hi t h0 h3]
    constructor
    ·rintro (⟨j, a, b⟩ | ⟨a, b⟩)
     ·exact ⟨j, by omega, b⟩
     ·exact ⟨k, by omega, a, b⟩
    ·rintro ⟨j, a, b, c⟩
     by_cases hj : j = (k : Int)
     ·subst hj; exact .inr ⟨b, c⟩
     ·exact .inl ⟨j, by omega, b, c⟩
   rw [g1, cond_true, g2, cond_true, e1]
   cases hg : gt (marks p) (k : Int) with
   | false =>
    rw [Bool.not_false, cond_true]
    exact step x hx (fun t _ _ => by rw [hpl, hg]; simp)
   | true =>
    rw [Bool.not_true, cond_false, g3, cond_true]
    rcases hf : fn120 (gt p (k : Int)) (k : Int) with ⟨t0, b⟩
    cases b with
    | false => rw [cond_false]; exact step x hx (fun t _ _ => by rw [hf]; simp)
    | true =>
     have ht := pl_in (tgt_pl ho (tgt_iff.2 ⟨k, by rw [hpl, hg], hf⟩))
     have g4 : inb t0 x.length = true := inb_iff.2 ⟨ht.1, by rw [hx]; exact ht.2⟩
     rw [cond_true, g4, cond_true]
     refine step _ (by simp [hx]) (fun t h0 h3 => ?_)
     rw [gt_set ht.1 (by rw [hx]; exact ht.2) h0]
     by_cases h : t0 = t
     ·subst h; simp [hpl, hg, hf]
     ·simp only [h, if_false]; rw [hf]; simp [h]
  ·have g1 : decide ((k : Int) < (p.length : Int)) = false := by simp; omega
   rw [g1, cond_false]
   have hkk : k = p.length := by omega
   refine ⟨x, rfl, hx, fun t h0 h3 => ?_⟩
   have : gt x t = true ↔ tgt p t = true := by
    rw [hi t h0 h3, tgt_iff]
    constructor
    ·rintro ⟨j, _, b⟩; exact ⟨j, b⟩
    ·rintro ⟨j, b, c⟩; exact ⟨j, by have := pl_in b; omega, b, c⟩
   exact Bool.eq_iff_iff.2 this
theorem ref_l2 (x : List Bool) (hx : x.length ≤ 5000) : ∀ (n : Nat) (acc : List Int) (k : Nat), k ≤ x.length → x.length - k < n → acc = idxL k (gt x) → fn122_l2 x n acc (k : Int) = some (idxL x.length (gt x)) := by
 intro n
 induction n with
 | zero => intro acc k _ h; omega
 | succ n ih =>
  intro acc k hk hn ha
  subst ha
  rw [fn122_l2_s]
  have e1 : IntKind.i64.wrap ((k : Int) + 1) = ((k + 1 : Nat) : Int) := by rw [w64 (by omega)]; omega
  by_cases hlt : k < x.length
  ·have g1 : decide ((k : Int) < (x.length : Int)) = true := by simp; omega
   have g2 : inb (k : Int) x.length = true := inb_iff.2 ⟨by omega, by omega⟩
   have hl := idxL_len k (gt x)
   have g3 : decide (((idxL k (gt x)).length + ([(k : Int)] : List Int).length) * 8 ≤ 140737488355328 ∧ (idxL k (gt x)).length + ([(k : Int)] : List Int).length ≤ 9223372036854775807) = true := by
    simp only [List.length_singleton, decide_eq_true_eq]; omega
   rw [g1, cond_true, g2, cond_true, e1, g3, cond_true]
   have hs := idxL_succ k (gt x)
   cases hg : gt x (k : Int) with
   | true => rw [cond_true]; exact ih _ (k + 1) (by omega) (by omega) (by rw [hs, hg]; rfl)
   | false => rw [cond_false]; exact ih _ (k + 1) (by omega) (by omega) (by rw [hs, hg]; simp)
  ·have g1 : decide ((k : Int) < (x.length : Int)) = false := by simp; omega
   have hkk : k = x.length := by omega
   rw [g1, cond_false, hkk]
theorem targets_ref {F : Nat} {p : List Instr} (hF : 6000 ≤ F) (hp : p.length ≤ 5000) : fn122 F p = some (tg p) := by
 rw [fn122, check_ref hF hp, Option.bind_some, tg]
 cases ho : okP p with
 | false =>
  have : ((chk p).2 != 0) = true := by unfold okP at ho; simpa [bne] using ho
  rw [this]; rfl
 | true =>
  have h0 : ((chk p).2 != 0) = false := by unfold okP at ho; simpa [bne] using ho
  have g0 : (decide (0 ≤ (p.length : Int)) && decide ((p.length : Int) ≤ (p.length : Int)) && decide ((1 : Int) * (p.length : Int) ≤ 281474976710656) && decide ((p.length : Int) ≤ 9223372036854775807)) = true := by
   simp only [Bool.and_eq_true, decide_eq_true_eq]; omega
  rw [h0, cond_false, cond_true, g0, cond_true, firsts_ref p hp hF, Option.bind_some]
  obtain ⟨x', h1, h2, h3⟩ := ref_l1 hp ho F (List.replicate p.length false) 0 (by omega) (by omega) (by simp) (fun t a b => by
   have : gt (List.replicate p.length false) t = false := by
    have : t.toNat < p.length := by omega
    simp [gt, this]
   rw [this]; simp only [Bool.false_eq_true, false_iff]
   rintro ⟨j, c, d, _⟩
   have := pl_in d; omega)
  have : ((p.length : Int)).toNat = p.length := by omega
  rw [this]
  have h1' : fn122_l1 p (marks p) F (List.replicate p.length false) 0 = some x' := h1
  rw [h1', Option.bind_some, fn122_k1]
  have h4 := ref_l2 x' (by omega) F [] 0 (by omega) (by omega) (by rfl)
  have h4' : fn122_l2 x' F ([] : List Int) 0 = some (idxL x'.length (gt x')) := h4
  rw [h4', Option.bind_some, fn122_k2, h2]
  congr 1
  exact idxL_congr h3
theorem firstsL_len : ∀ (n : Nat) (l : List Instr) (k : Int), l.length ≤ n → (firstsL l k).length ≤ l.length := by
 intro n
 induction n with
 | zero => intro l k h; cases l with | nil => simp [firstsL] | cons x l => simp at h
 | succ n ih =>
  intro l k h
  cases l with
  | nil => simp [firstsL]
  | cons x l =>
   rw [firstsL_cons]
   have hl : l.length ≤ n := by simpa using h
   cases (x.fOp == 24) with
   | false => simp only [cond_false, List.length_cons]; have := ih l (k + 1) hl; omega
   | true =>
    simp only [cond_true, List.length_cons]
    cases l with
    | nil => simp
    | cons y l => have := ih l (k + 2) (by simp at hl; omega); simp; omega
theorem mput_old {α : Type} : ∀ (xs : List (Int × α)) (k : Int) (v : α), mhas xs k = true → (mput xs k v).map (·.1) = xs.map (·.1)
 | [], k, v, h => by simp [mhas, mfind] at h
 | p :: xs, k, v, h => by
  by_cases hp : p.1 = k
  ·simp [mput, hp]
  ·have h' : mhas xs k = true := by simpa [mhas, mfind, hp] using h
   simp [mput, hp, mput_old xs k v h']
theorem mput_len {α : Type} : ∀ (xs : List (Int × α)) (k : Int) (v : α), (mput xs k v).length ≤ xs.length + 1
 | [], k, v => by simp [mput]
 | p :: xs, k, v => by
  by_cases hp : p.1 = k
  ·simp [mput, hp]
  ·have := mput_len xs k v
   simp [mput, hp]; omega
theorem KND_put {α : Type} {xs : List (Int × α)} {k : Int} {v : α} (h : KND xs) : KND (mput xs k v) := by
 cases hm : mhas xs k with
 | false => exact h.push hm
 | true => unfold KND; rw [mput_old xs k v hm]; exact h
def putT (p : List Instr) (s : List (Int × Bool)) (y : Int × Slot) : List (Int × Bool) := bif (fn120 (gt p y.1) y.1).2 then mput s (fn120 (gt p y.1) y.1).1 true else s
theorem putT_fold {p : List Instr} : ∀ (l : List (Int × Slot)) (m : List (Int × Bool)), KND m → KND (l.foldl (putT p) m) ∧ (l.foldl (putT p) m).length ≤ m.length + l.length ∧
  ∀ t, mhas (l.foldl (putT p) m) t = ((l.any fun y => (fn120 (gt p y.1) y.1).2 && ((fn120 (gt p y.1) y.1).1 == t)) || mhas m t)
 | [], m, h => ⟨h, by simp, fun t => by simp⟩
 | y :: l, m, h => by
  have h2 : KND (putT p m y) := by unfold putT; cases (fn120 (gt p y.1) y.1).2; exact h; exact KND_put h
  obtain ⟨a, b, c⟩ := putT_fold l (putT p m y) h2
  have h3 : (putT p m y).length ≤ m.length + 1 := by
   unfold putT; cases (fn120 (gt p y.1) y.1).2
   ·simp
   ·exact mput_len _ _ _
  refine ⟨a, by simp only [List.foldl_cons, List.length_cons]; omega, fun t => ?_⟩
  rw [List.foldl_cons, c t, List.any_cons]
  have : mhas (putT p m y) t = (((fn120 (gt p y.1) y.1).2 && ((fn120 (gt p y.1) y.1).1 == t)) || mhas m t) := by
   unfold putT
   cases (fn120 (gt p y.1) y.1).2 with
   | false => simp
   | true => rw [cond_true, mhas_put, Bool.true_and]; congr 1
  rw [this]
  cases (l.any fun y => (fn120 (gt p y.1) y.1).2 && ((fn120 (gt p y.1) y.1).1 == t)) <;> cases ((fn120 (gt p y.1) y.1).2 && ((fn120 (gt p y.1) y.1).1 == t)) <;> rfl
theorem targets_prog {F : Nat} {p : List Instr} (hF : 6000 ≤ F) (hp : p.length ≤ 5000) (hw : WF p) : fn26 F p = some (tg p) := by
 rw [fn26, check_prog hF hp hw, Option.bind_some, tg]
 cases ho : okP p with
 | false =>
  have : ((chk p).2 != 0) = true := by unfold okP at ho; simpa [bne] using ho
  rw [this]; rfl
 | true =>
  have h0 : ((chk p).2 != 0) = false := by unfold okP at ho; simpa [bne] using ho
  rw [h0, cond_false, cond_true, fn88_run _ _ _ _ (by omega) (by omega)]
  rw [runL_all (stepB := fun (s : List (Int × Bool)) (y : Int × Slot) => fn26_r1 s y.1 y.2) (f := putT p) (firstsL p 0) ([] : List (Int × Bool)) (fun s y hy => by
   obtain ⟨a, b, c⟩ := first_slot hy
   have hk := er_known (ok_er ho y hy)
   simp only [fn26_r1, bindP, c, tg_eq (hw.gt a b) hk, putT]
   cases (fn120 (gt p y.1) y.1).2 <;> rfl)]
  simp only [Option.bind_some, show Nat.beq 0 0 = true from rfl, cond_true, fn26_k1_0]
  obtain ⟨q1, q2, q3⟩ := putT_fold (p := p) (firstsL p 0) [] (by simp [KND])
  have hl := firstsL_len _ p 0 (Nat.le_refl _)
  have hmem : ∀ t, t ∈ ((firstsL p 0).foldl (putT p) []).map (·.1) ↔ tgt p t = true := fun t => by
   have : t ∈ ((firstsL p 0).foldl (putT p) []).map (·.1) ↔ mhas ((firstsL p 0).foldl (putT p) []) t = true := by
    rw [mhas_iff, List.mem_map]
   rw [this, q3 t]
   have : mhas ([] : List (Int × Bool)) t = false := rfl
   rw [this, Bool.or_false]; rfl
  have hin : ∀ t, tgt p t = true → 0 ≤ t ∧ t < (p.length : Int) := fun t h => pl_in (tgt_pl ho h)
  have g1 : (decide (((((firstsL p 0).foldl (putT p) []).length : Nat) : Int) ≤ 17592186044416) && ((firstsL p 0).foldl (putT p) []).all (fun q => okKey q.1)) = true := by
   simp only [Bool.and_eq_true, decide_eq_true_eq, List.all_eq_true]
   simp only [List.length_nil] at q2
   refine ⟨by omega, fun q hq => ?_⟩
   have := hin q.1 ((hmem q.1).1 (List.mem_map.2 ⟨q, hq, rfl⟩))
   have h1 : IntKind.i64.min = -9223372036854775808 := rfl
   have h2 : IntKind.i64.max = 9223372036854775807 := rfl
   simp only [okKey, Lit.wf, h1, h2, Bool.and_eq_true, decide_eq_true_eq]
   omega
  rw [fn63, g1, cond_true, Option.bind_some]
  congr 1
  exact sort_idx q1 (fun t => by rw [hmem t]; exact ⟨fun h => ⟨hin t h, h⟩, fun h => h.2⟩)
end Go.Proofs.YthpjmknpkdoadaaGreat
namespace Go.Proofs.YthpjmknpkdoadaaGreat
open Go Go.HW
set_option linter.unusedVariables false
set_option maxRecDepth 8000
theorem gt_setG {α : Type} [Inhabited α] {l : List α} {i j : Nat} {u : α} (hi : i < l.length) : gt (l.set i u) (j : Int) = if j = i then u else gt l (j : Int) := by
 unfold gt
 simp only [Int.toNat_natCast, List.getD_eq_getElem?_getD, List.getElem?_set]
 by_cases h : i = j
 ·subst h; simp [hi]
 ·simp [h, Ne.symm h]
theorem all_congr' {α : Type} {f g : α → Bool} : ∀ {l : List α}, (∀ x ∈ l, f x = g x) → l.all f = l.all g
 | [], _ => rfl
 | x :: l, h => by rw [List.all_cons, List.all_cons, h x (by simp), all_congr' fun y hy => h y (by simp [hy])]
structure OkX (x : Instr) : Prop where
 i : OkI x
 dst : 0 ≤ x.fDst ∧ x.fDst ≤ 10
 src : 0 ≤ x.fSrc ∧ x.fSrc ≤ 10
theorem size_eq {x : Instr} (h : OkI x) : fn139 x = fn83 x := by
 have := all256 (fun o => fn139 (atOp o) == fn83 (atOp o)) (by kernel_rfl) h.op
 exact eq_of_beq this
def sz (x : Instr) : Nat := (fn83 x).toNat
theorem fn83_sz (x : Instr) : fn83 x = (sz x : Int) ∧ 1 ≤ sz x ∧ sz x ≤ 8 := by
 unfold sz fn83
 cases (iand .u8 x.fOp 24 == 0) <;> cases (iand .u8 x.fOp 24 == 8) <;> cases (iand .u8 x.fOp 24 == 16) <;> simp
def isB (x : Instr) : Bool := decide (-512 ≤ x.fOff) && decide (x.fOff + (sz x : Int) ≤ 0)
def lstB (x : Instr) : List Int := (List.range (sz x)).map fun i : Nat => 512 + x.fOff + (i : Int)
theorem there_eq {x : Instr} (h : OkI x) : fn82 x = (512 + x.fOff, isB x) := by
 obtain ⟨h1, h2⟩ := h.off
 obtain ⟨s1, s2, s3⟩ := fn83_sz x
 have e1 : IntKind.i64.wrap x.fOff = x.fOff := w64 (by omega)
 simp only [fn82, e1, s1]
 rw [w64 (n := (512 : Int) + x.fOff) (by omega), w64 (n := x.fOff + (sz x : Int)) (by omega)]
 rfl
theorem bytes_loop {x : Instr} (h : OkI x) : ∀ (n j : Nat) (acc : List Int), j ≤ sz x → sz x - j < n → acc.length = j →
  fn136_l1 x n acc (j : Int) = some (acc ++ (List.range' j (sz x - j)).map fun i : Nat => 512 + x.fOff + (i : Int))
 | 0, j, acc, h1, h2, h3 => by omega
 | n + 1, j, acc, h1, h2, h3 => by
  obtain ⟨o1, o2⟩ := h.off
  obtain ⟨s1, s2, s3⟩ := fn83_sz x
  rw [fn136_l1_s, size_eq h, s1]
  by_cases hj : j < sz x
  ·have e1 : IntKind.i64.wrap x.fOff = x.fOff := w64 (by omega)
   have e2 : IntKind.i64.wrap ((512 : Int) + x.fOff) = 512 + x.fOff := w64 (by omega)
   have e3 : IntKind.i64.wrap (512 + x.fOff + (j : Int)) = 512 + x.fOff + (j : Int) := w64 (by omega)
   rw [show decide ((j : Int) < (sz x : Int)) = true by simp; omega, cond_true, e1, e2, e3]
   rw [show decide ((acc.length + ([512 + x.fOff + (j : Int)] : List Int).length) * 8 ≤ 140737488355328 ∧ acc.length + ([512 + x.fOff + (j : Int)] : List Int).length ≤ 9223372036854775807) = true by simp; omega, cond_true]
   rw [show IntKind.i64.wrap ((j : Int) + 1) = ((j + 1 : Nat) : Int) from w64 (by omega)]
   rw [bytes_loop h n (j + 1) _ (by omega) (by omega) (by simp [h3])]
   rw [show sz x - j = (sz x - (j + 1)) + 1 by omega, List.range'_succ, List.map_cons]
   simp
  ·rw [show decide ((j : Int) < (sz x : Int)) = false by simp; omega, cond_false]
   rw [show sz x - j = 0 by omega]; simp
theorem lstB_length (x : Instr) : (lstB x).length = sz x := by simp [lstB]
theorem gt_lstB {x : Instr} {i : Nat} (hi : i < sz x) : gt (lstB x) (i : Int) = 512 + x.fOff + (i : Int) := by
 unfold gt lstB
 simp [List.getD_eq_getElem?_getD, hi]
theorem bytes_ok {F : Nat} (hF : 10 ≤ F) {x : Instr} (h : OkI x) : fn136 F x = some (bif isB x then lstB x else []) := by
 obtain ⟨o1, o2⟩ := h.off
 obtain ⟨s1, s2, s3⟩ := fn83_sz x
 have := bytes_loop h F 0 [] (by omega) (by omega) rfl
 rw [show ((0 : Nat) : Int) = 0 from rfl, List.nil_append, Nat.sub_zero, ← List.range_eq_range'] at this
 rw [fn136, this, Option.bind_some]
 show fn136_k1 (lstB x) = _
 have hl := lstB_length x
 have e0 := gt_lstB (x := x) (i := 0) (by omega)
 have e1 := gt_lstB (x := x) (i := sz x - 1) (by omega)
 rw [show ((0 : Nat) : Int) = 0 from rfl] at e0
 have hw : IntKind.i64.wrap (((lstB x).length : Int) - 1) = ((sz x - 1 : Nat) : Int) := by rw [hl]; exact (w64 (by omega)).trans (by omega)
 rw [fn136_k1, hw, e0, e1, hl]
 rw [show inb 0 (sz x) = true from inb_iff.2 ⟨by omega, by omega⟩, cond_true, show inb ((sz x - 1 : Nat) : Int) (sz x) = true from inb_iff.2 ⟨by omega, by omega⟩]
 have hc : (bif decide (512 + x.fOff + (0 : Int) < 0) then true else true) = true := by cases decide (512 + x.fOff + (0 : Int) < 0) <;> rfl
 rw [hc, cond_true]
 have : (decide (512 + x.fOff + (0 : Int) < 0) || decide ((512 : Int) ≤ 512 + x.fOff + ((sz x - 1 : Nat) : Int))) = !isB x := by
  unfold isB
  by_cases a : -512 ≤ x.fOff <;> by_cases b : x.fOff + (sz x : Int) ≤ 0 <;> simp [a, b] <;> omega
 rw [this]
 cases isB x <;> rfl
theorem lstB_in {x : Instr} (hb : isB x = true) : ∀ y ∈ lstB x, 0 ≤ y ∧ y < 512 := by
 intro y hy
 unfold lstB at hy
 obtain ⟨i, hi, rfl⟩ := List.mem_map.1 hy
 unfold isB at hb
 simp at hb hi
 omega
def regf (s : RSet) (i : Nat) : Bool := bif decide (i ≤ 10) then gt s.fnumber.l (i : Int) else bif decide (i = 15) then s.fctx else false
structure Rel (k : Known) (s : RSet) : Prop where
 ok : OkK k
 reg : ∀ i : Nat, i < 128 → rb k i = regf s i
 byt : ∀ i : Nat, i < 512 → bb k i = gt s.fbytes.l (i : Int)
theorem Rel.num {k : Known} {s : RSet} (h : Rel k s) {n : Int} (h0 : 0 ≤ n) (h1 : n ≤ 10) : rb k n.toNat = gt s.fnumber.l n := by
 rw [h.reg _ (by omega), regf, show decide (n.toNat ≤ 10) = true by simp; omega, cond_true, Int.toNat_of_nonneg h0]
theorem Rel.ctx {k : Known} {s : RSet} (h : Rel k s) : rb k 15 = s.fctx := by
 rw [h.reg _ (by omega)]; rfl
theorem has_reg {F : Nat} (hF : 10 ≤ F) {k : Known} {s : RSet} (h : Rel k s) {n : Int} (h0 : 0 ≤ n) (h1 : n ≤ 10) : fn135 F k [IntKind.i64.wrap n] = some (gt s.fnumber.l n) := by
 rw [w64 (n := n) (by omega), has_ok h.ok (by simp) (by simp; omega) (fun x hx => by simp at hx; omega)]
 simp [h.num h0 h1]
theorem has_ctx {F : Nat} (hF : 10 ≤ F) {k : Known} {s : RSet} (h : Rel k s) : fn135 F k [15] = some s.fctx := by
 rw [has_ok h.ok (by simp) (by simp; omega) (fun x hx => by simp at hx; omega)]
 simp [h.ctx]
theorem side_eq {F : Nat} (hF : 10 ≤ F) {w : Walk} {k : Known} {s : RSet} (h : Rel k s) {x : Instr} (hx : OkX x) : ∃ b, fn134 F w k x = some b ∧ fn85 s x = some b := by
 obtain ⟨s0, s1⟩ := hx.src
 have hi : inb x.fSrc 11 = true := inb_iff.2 ⟨s0, by omega⟩
 cases hz : (iand .u8 x.fOp 8 == 0) with
 | true =>
  refine ⟨true, by rw [fn134, hz]; rfl, ?_⟩
  rw [fn85, fn124, bne, hz]; rfl
 | false =>
  refine ⟨gt s.fnumber.l x.fSrc, by rw [fn134, hz, cond_false, has_reg hF h s0 s1]; rfl, ?_⟩
  rw [fn85, fn124, bne, hz, hi]
  simp
theorem alu_step {F : Nat} (hF : 10 ≤ F) {w : Walk} {k : Known} {s : RSet} (h : Rel k s) {at' : Int} (hin : inb at' w.fp.length = true) (hx : OkX (gt w.fp at')) :
  ∃ b, fn109 F w k at' = some b ∧ (bif (fn72 (gt w.fp at')) == 176 then fn85 s (gt w.fp at') else bif (fn72 (gt w.fp at')) == 128 then some (gt s.fnumber.l (gt w.fp at').fDst) else bif (fn72 (gt w.fp at')) == 208 then some (gt s.fnumber.l (gt w.fp at').fDst) else
   Option.bind (bif bif gt s.fnumber.l (gt w.fp at').fDst then true else false then fn85 s (gt w.fp at') else some false) fun v => some (gt s.fnumber.l (gt w.fp at').fDst && v)) = some b := by
 obtain ⟨d0, d1⟩ := hx.dst
 obtain ⟨b, b1, b2⟩ := side_eq hF (w := w) h hx
 have hd := has_reg hF h d0 d1
 rw [fn109, hin, cond_true, fn72, b1, b2, hd]
 cases (iand .u8 (gt w.fp at').fOp 240 == 176) with
 | true => exact ⟨b, rfl, rfl⟩
 | false =>
 cases (iand .u8 (gt w.fp at').fOp 240 == 128) with
 | true => exact ⟨_, rfl, rfl⟩
 | false =>
 cases (iand .u8 (gt w.fp at').fOp 240 == 208) with
 | true => exact ⟨_, rfl, rfl⟩
 | false =>
 cases gt s.fnumber.l (gt w.fp at').fDst <;> exact ⟨_, rfl, rfl⟩
theorem stack_loop {s : RSet} {x : Instr} (h : OkI x) : ∀ (n j : Nat) (b : Bool), (b = true → isB x = true) → j ≤ sz x → sz x - j < n →
  fn84_l1 s x n b (j : Int) = some (b && (List.range' j (sz x - j)).all fun i : Nat => gt s.fbytes.l (512 + x.fOff + (i : Int)))
 | 0, j, b, h1, h2, h3 => by omega
 | n + 1, j, b, h1, h2, h3 => by
  obtain ⟨o1, o2⟩ := h.off
  obtain ⟨s1, s2, s3⟩ := fn83_sz x
  rw [fn84_l1_s, s1, there_eq h]
  by_cases hj : j < sz x
  ·rw [show decide ((j : Int) < (sz x : Int)) = true by simp; omega, Bool.true_and]
   cases hb : b with
   | false => simp
   | true =>
    have hB := h1 hb
    unfold isB at hB
    simp at hB
    rw [cond_true, w64 (n := 512 + x.fOff + (j : Int)) (by omega), show inb (512 + x.fOff + (j : Int)) 512 = true from inb_iff.2 ⟨by omega, by omega⟩, cond_true, show IntKind.i64.wrap ((j : Int) + 1) = ((j + 1 : Nat) : Int) from w64 (by omega)]
    rw [stack_loop h n (j + 1) _ (fun _ => h1 hb) (by omega) (by omega)]
    rw [show sz x - j = (sz x - (j + 1)) + 1 by omega, List.range'_succ, List.all_cons, Bool.true_and]
  ·rw [show decide ((j : Int) < (sz x : Int)) = false by simp; omega, Bool.false_and, cond_false]
   rw [show sz x - j = 0 by omega]; simp
theorem field_eq {F : Nat} {t : PType} (hl : t.fFields.length ≤ 1000) (hF : t.fFields.length < F) (o z : Int) : ∃ r, fn138 F t o z = some r ∧ fn123 F t o z = some r := by
 have h1 := findLoop t.fFields (fun y => fn156 y o z) (fn155_l1 t.fFields o z) (by omega) (fun n k _ => fn155_l1_s t.fFields o z n k) F 0 (by omega) (by omega)
 have key : ∀ (n k : Nat), k ≤ t.fFields.length → t.fFields.length - k < n →
   (fn155_l1 t.fFields o z n (k : Int) = some (.inl ()) ∧ fn123_l1 t o z n (k : Int) = some (.inl ())) ∨
   ∃ i : Nat, i < t.fFields.length ∧ fn155_l1 t.fFields o z n (k : Int) = some (.inr (i : Int)) ∧ fn123_l1 t o z n (k : Int) = some (.inr (gt t.fFields (i : Int), true)) := by
  intro n
  induction n with
  | zero => intro k h1 h2; omega
  | succ n ih =>
   intro k h1 h2
   rw [fn155_l1_s, fn123_l1_s]
   by_cases hk : k < t.fFields.length
   ·have hin : inb (k : Int) t.fFields.length = true := inb_iff.2 ⟨by omega, by omega⟩
    rw [show decide ((k : Int) < (t.fFields.length : Int)) = true by simp; omega, cond_true, cond_true, hin, cond_true, cond_true]
    rw [show (bif ((gt t.fFields (k : Int)).fOff == o) then true else true) = true by cases ((gt t.fFields (k : Int)).fOff == o) <;> rfl, cond_true]
    have e : fn156 (gt t.fFields (k : Int)) o z = (((gt t.fFields (k : Int)).fOff == o) && ((gt t.fFields (k : Int)).fSize == z)) := rfl
    rw [e]
    cases hc : (((gt t.fFields (k : Int)).fOff == o) && ((gt t.fFields (k : Int)).fSize == z)) with
    | true => exact .inr ⟨k, hk, rfl, rfl⟩
    | false =>
     rw [cond_false, cond_false, show IntKind.i64.wrap ((k : Int) + 1) = ((k + 1 : Nat) : Int) from w64 (by omega)]
     exact ih (k + 1) (by omega) (by omega)
   ·rw [show decide ((k : Int) < (t.fFields.length : Int)) = false by simp; omega]
    exact .inl ⟨rfl, rfl⟩
 rcases key F 0 (by omega) (by omega) with ⟨e1, e2⟩ | ⟨i, hi, e1, e2⟩
 ·rw [show ((0 : Nat) : Int) = 0 from rfl] at e1 e2
  exact ⟨(⟨0, 0, 0, false⟩, false), by rw [fn138, fn155, e1]; rfl, by rw [fn123, e2]; rfl⟩
 ·rw [show ((0 : Nat) : Int) = 0 from rfl] at e1 e2
  refine ⟨(gt t.fFields (i : Int), true), ?_, by rw [fn123, e2]; rfl⟩
  rw [fn138, fn155, e1]
  simp only [Option.bind_some]
  rw [show decide ((i : Int) < 0) = false by simp, cond_false, show inb (i : Int) t.fFields.length = true from inb_iff.2 ⟨by omega, by omega⟩]; rfl
theorem load_step {F : Nat} (hF : 1002 ≤ F) {w : Walk} (hl : w.ft.fFields.length ≤ 1000) {k : Known} {s : RSet} (h : Rel k s) {at' : Int} (hin : inb at' w.fp.length = true) (hx : OkX (gt w.fp at')) :
  ∃ b, fn111 F w k at' = some b ∧ fn84 F s w.ft (gt w.fp at') = some b := by
 generalize hgx : gt w.fp at' = x at hx
 obtain ⟨o1, o2⟩ := hx.i.off
 obtain ⟨s1, s2, s3⟩ := fn83_sz x
 rw [fn111, hin, cond_true, hgx, fn84]
 cases h10 : (x.fSrc == 10) with
 | true =>
  rw [cond_true, cond_true, bytes_ok (by omega) hx.i, there_eq hx.i]
  have hs := stack_loop (s := s) hx.i F 0 (isB x) (fun h => h) (by omega) (by omega)
  rw [show ((0 : Nat) : Int) = 0 from rfl, Nat.sub_zero, ← List.range_eq_range'] at hs
  simp only [hs, Option.bind_some, fn84_k1]
  cases hb : isB x with
  | false => exact ⟨false, rfl, rfl⟩
  | true =>
   have hne : (lstB x).isEmpty = false := by
    have := lstB_length x
    cases hq : lstB x with
    | nil => rw [hq] at this; simp at this; omega
    | cons a l => rfl
   have hh := has64_ok (F := F) h.ok (l := lstB x) (by rw [lstB_length]; omega) (by rw [lstB_length]; omega) (lstB_in hb)
   simp only [cond_true, hne, Bool.not_false, hh, Option.bind_some, Bool.true_and]
   refine ⟨_, rfl, ?_⟩
   congr 1
   unfold lstB
   rw [List.all_map]
   refine all_congr' fun i hi => ?_
   have hi' : i < sz x := by simpa using hi
   have := lstB_in hb (512 + x.fOff + (i : Int)) (List.mem_map.2 ⟨i, hi, rfl⟩)
   simp only [Function.comp]
   rw [h.byt _ (by omega), Int.toNat_of_nonneg this.1]
 | false =>
  rw [cond_false, cond_false]
  obtain ⟨r, r1, r2⟩ := field_eq (F := F) hl (by omega) (IntKind.i64.wrap x.fOff) (fn83 x)
  rw [r2, size_eq hx.i, r1, has_ctx (by omega) h]
  simp only [Option.bind_some]
  cases (x.fSrc == 1) with
  | false => exact ⟨false, rfl, rfl⟩
  | true =>
   rw [cond_true]
   cases s.fctx with
   | false => exact ⟨false, rfl, rfl⟩
   | true => exact ⟨_, rfl, by simp⟩
end Go.Proofs.YthpjmknpkdoadaaGreat
namespace Go.Proofs.YthpjmknpkdoadaaGreat
open Go Go.HW
set_option linter.unusedVariables false
set_option maxRecDepth 8000
theorem store_loop {p : List Instr} {at' : Int} {x : Instr} (hgx : gt p at' = x) (h : OkI x) (hB : isB x = true) (f : Nat → Ar Bool 512 → Int → Option (Ar Bool 512))
  (hf : ∀ n y j, f (n + 1) y j = bif decide (j < (fn83 (gt p at'))) then (bif inb (IntKind.i64.wrap (((fn82 (gt p at')).1) + j)) 512 then (f n (y.set (IntKind.i64.wrap (((fn82 (gt p at')).1) + j)) true) (IntKind.i64.wrap (j + 1))) else none) else (some y)) :
  ∀ (n j : Nat) (y : Ar Bool 512), j ≤ sz x → sz x - j < n → ∃ y', f n y (j : Int) = some y' ∧ ∀ i : Nat, i < 512 → gt y'.l (i : Int) = (gt y.l (i : Int) || (decide (512 + x.fOff + (j : Int) ≤ (i : Int)) && decide ((i : Int) < 512 + x.fOff + (sz x : Int))))
 | 0, j, y, h1, h2 => by omega
 | n + 1, j, y, h1, h2 => by
  obtain ⟨o1, o2⟩ := h.off
  obtain ⟨s1, s2, s3⟩ := fn83_sz x
  have hB' := hB
  unfold isB at hB'
  simp at hB'
  rw [hf, hgx, s1, there_eq h]
  by_cases hj : j < sz x
  ·obtain ⟨m, hm⟩ : ∃ m : Nat, 512 + x.fOff + (j : Int) = (m : Int) := ⟨(512 + x.fOff + (j : Int)).toNat, by omega⟩
   have hm1 : m < 512 := by omega
   rw [show decide ((j : Int) < (sz x : Int)) = true by simp; omega, cond_true]
   simp only []
   rw [w64 (n := 512 + x.fOff + (j : Int)) (by omega), hm, show inb (m : Int) 512 = true from inb_iff.2 ⟨by omega, by omega⟩, cond_true, show IntKind.i64.wrap ((j : Int) + 1) = ((j + 1 : Nat) : Int) from w64 (by omega)]
   obtain ⟨y', y1, y2⟩ := store_loop hgx h hB f hf n (j + 1) (y.set (m : Int) true) (by omega) (by omega)
   refine ⟨y', y1, fun i hi => ?_⟩
   rw [y2 i hi, set_l, gt_setG (by rw [y.h]; exact hm1)]
   by_cases hi' : i = m
   ·subst hi'
    have : (i : Int) < 512 + x.fOff + (sz x : Int) := by omega
    simp [this]
   ·rw [if_neg hi']
    congr 1
    by_cases h3 : (m : Int) ≤ (i : Int)
    ·have h4 : 512 + x.fOff + ((j + 1 : Nat) : Int) ≤ (i : Int) := by omega
     simp only [h3, h4]
    ·have h4 : ¬ (512 + x.fOff + ((j + 1 : Nat) : Int) ≤ (i : Int)) := by omega
     simp only [h3, h4]
  ·rw [show decide ((j : Int) < (sz x : Int)) = false by simp; omega, cond_false]
   refine ⟨y, rfl, fun i hi => ?_⟩
   have : ¬ (512 + x.fOff + (j : Int) ≤ (i : Int) ∧ (i : Int) < 512 + x.fOff + (sz x : Int)) := by omega
   rw [← Bool.decide_and]
   simp only [this, decide_false, Bool.or_false]
theorem mem_lstB {x : Instr} {i : Int} : i ∈ lstB x ↔ 512 + x.fOff ≤ i ∧ i < 512 + x.fOff + (sz x : Int) := by
 unfold lstB
 rw [List.mem_map]
 constructor
 ·rintro ⟨j, hj, rfl⟩
  have : j < sz x := by simpa using hj
  omega
 ·rintro ⟨h1, h2⟩
  exact ⟨(i - (512 + x.fOff)).toNat, by simp; omega, by omega⟩
theorem store_step {F : Nat} (hF : 10 ≤ F) {w : Walk} {k : Known} {s : RSet} (h : Rel k s) {at' : Int} (hin : inb at' w.fp.length = true) (hx : OkX (gt w.fp at'))
  (f : Nat → Ar Bool 512 → Int → Option (Ar Bool 512))
  (hf : ∀ n y j, f (n + 1) y j = bif decide (j < (fn83 (gt w.fp at'))) then (bif inb (IntKind.i64.wrap (((fn82 (gt w.fp at')).1) + j)) 512 then (f n (y.set (IntKind.i64.wrap (((fn82 (gt w.fp at')).1) + j)) true) (IntKind.i64.wrap (j + 1))) else none) else (some y)) :
  ∃ k' s' b, fn112 F w k at' = some (b, k') ∧ Rel k' s' ∧
   (bif bif ((gt w.fp at').fDst != 10) || (!(fn82 (gt w.fp at')).2) then true else (bif fn71 (gt w.fp at') == 3 then inb (gt w.fp at').fSrc 11 else true) then (bif (((gt w.fp at').fDst != 10) || (!(fn82 (gt w.fp at')).2)) || ((fn71 (gt w.fp at') == 3) && (!(gt s.fnumber.l (gt w.fp at').fSrc))) then (some (s, false)) else (Option.bind (f F s.fbytes 0) fun o => some ((⟨s.fnumber, s.fctx, o⟩ : RSet), true))) else none) = some (s', b) := by
 generalize hgx : gt w.fp at' = x at hx
 obtain ⟨o1, o2⟩ := hx.i.off
 obtain ⟨s1, s2, s3⟩ := fn83_sz x
 have hi : inb x.fSrc 11 = true := inb_iff.2 ⟨hx.src.1, by have := hx.src.2; omega⟩
 have hc1 : ∀ A B : Bool, (bif A then true else bif B then true else true) = true := by intro A B; cases A <;> cases B <;> rfl
 rw [fn112, hin, cond_true, hgx, bytes_ok hF hx.i, there_eq hx.i, hi, hc1, cond_true, Option.bind_some]
 have he : (bif isB x then lstB x else []).isEmpty = !isB x := by
  cases isB x with
  | false => rfl
  | true =>
   have := lstB_length x
   cases hq : lstB x with
   | nil => rw [hq] at this; simp at this; omega
   | cons a l => rfl
 rw [he]
 simp only []
 cases hc : ((x.fDst != 10) || !isB x) with
 | true =>
  exact ⟨k, s, false, rfl, h, by rw [Bool.true_or]; rfl⟩
 | false =>
  have hB : isB x = true := by
   cases hb : isB x with
   | true => rfl
   | false => rw [hb] at hc; simp at hc
  rw [hB, cond_false, Bool.false_or]
  simp only [cond_true]
  obtain ⟨k', k1, k2, k3, k4⟩ := put64_ok (F := F) h.ok (l := lstB x) (by rw [lstB_length]; omega) (by rw [lstB_length]; omega) (lstB_in hB)
  obtain ⟨y', y1, y2⟩ := store_loop hgx hx.i hB f hf F 0 s.fbytes (by omega) (by omega)
  rw [show ((0 : Nat) : Int) = 0 from rfl] at y1 y2
  have hrel : Rel k' ⟨s.fnumber, s.fctx, y'⟩ := by
   refine ⟨k2, fun i hi => ?_, fun i hi => ?_⟩
   ·have : rb k' i = rb k i := by unfold rb; rw [k4]
    rw [this, h.reg i hi]; rfl
   ·rw [k3, y2 i hi, h.byt i hi]
    congr 1
    rw [← Bool.decide_and]
    congr 1
    rw [mem_lstB, Int.add_zero]
  have e3 : (iand .u8 x.fOp 7 == 3) = (fn71 x == 3) := rfl
  rw [e3, has_reg hF h hx.src.1 hx.src.2, k1, y1]
  cases fn71 x == 3 with
  | false => exact ⟨k', _, true, rfl, hrel, rfl⟩
  | true =>
   cases gt s.fnumber.l x.fSrc with
   | false => exact ⟨k, s, false, rfl, h, rfl⟩
   | true => exact ⟨k', _, true, rfl, hrel, rfl⟩
theorem targ_loop (l : List Int) (at' : Int) (hl : l.length ≤ 100000) : ∀ (n j : Nat), j ≤ l.length → l.length - j < n → fn81_l1 at' l n (j : Int) = some (bif decide (at' ∈ l.drop j) then .inr false else .inl ())
 | 0, j, h1, h2 => by omega
 | n + 1, j, h1, h2 => by
  rw [fn81_l1_s]
  by_cases hj : j < l.length
  ·have hd : l.drop j = gt l (j : Int) :: l.drop (j + 1) := drop_gt hj
   rw [show decide ((j : Int) < (l.length : Int)) = true by simp; omega, cond_true, show inb (j : Int) l.length = true from inb_iff.2 ⟨by omega, by omega⟩, cond_true, show IntKind.i64.wrap ((j : Int) + 1) = ((j + 1 : Nat) : Int) from w64 (by omega), targ_loop l at' hl n (j + 1) (by omega) (by omega), hd]
   by_cases he : gt l (j : Int) = at'
   ·simp [he]
   ·have : (gt l (j : Int) == at') = false := by simp [he]
    rw [this, cond_false]
    have h2 : (at' ∈ gt l (j : Int) :: l.drop (j + 1)) ↔ at' ∈ l.drop (j + 1) := by
     rw [List.mem_cons]; constructor
     ·rintro (h | h)
      ·exact absurd h.symm he
      ·exact h
     ·exact .inr
    simp only [h2]
  ·rw [show decide ((j : Int) < (l.length : Int)) = false by simp; omega, cond_false, List.drop_eq_nil_of_le (by omega)]; rfl
theorem jump_step {F : Nat} (hF : 9000 ≤ F) {w : Walk} (hp : w.fp.length ≤ 1000) (hT : w.ftargets = tg w.fp) {k : Known} {s : RSet} (h : Rel k s) {at' : Int} (h0 : 0 ≤ at') (h1 : at' < (w.fp.length : Int)) (hx : OkX (gt w.fp at')) :
  ∃ b, fn113 F w k at' = some b ∧ fn81 F s w.fp at' w.ft = some b := by
 have hin : inb at' w.fp.length = true := inb_iff.2 ⟨h0, h1⟩
 obtain ⟨b, b1, b2⟩ := side_eq (F := F) (by omega) (w := w) h hx
 have hd := has_reg (F := F) (by omega) h hx.dst.1 hx.dst.2
 have hid : inb (gt w.fp at').fDst 11 = true := inb_iff.2 ⟨hx.dst.1, by have := hx.dst.2; omega⟩
 have ht := targets_ref (F := F) (p := w.fp) (by omega) (by omega)
 have htl := tg_len w.fp
 rw [fn113, fn81, hin, cond_true, cond_true, fn72, b1, b2, hd, hid, ht]
 cases (iand .u8 (gt w.fp at').fOp 240 == 0) with
 | true => exact ⟨true, rfl, rfl⟩
 | false =>
 cases (iand .u8 (gt w.fp at').fOp 240 == 128) with
 | true => exact ⟨false, rfl, rfl⟩
 | false =>
 cases (iand .u8 (gt w.fp at').fOp 240 == 144) with
 | true =>
  rw [cond_false, cond_false, cond_true, cond_false, cond_false, cond_true, hT, has102 _ _ (by omega) (by omega), Option.bind_some]
  have hl := targ_loop (tg w.fp) at' (by omega) F 0 (by omega) (by omega)
  rw [show ((0 : Nat) : Int) = 0 from rfl, List.drop_zero] at hl
  rw [hl]
  cases hz : (at' == 0) with
  | true =>
   refine ⟨false, rfl, ?_⟩
   cases decide (at' ∈ tg w.fp) with
   | true => rfl
   | false => simp [fn81_k1, hz]
  | false =>
   have hne : at' ≠ 0 := by simpa using hz
   have hw : IntKind.i64.wrap (at' - 1) = at' - 1 := w64 (by omega)
   cases decide (at' ∈ tg w.fp) with
   | true => exact ⟨false, rfl, rfl⟩
   | false =>
    simp only [cond_true, cond_false, Option.bind_some, Bool.or_false, fn81_k1, hz, hw]
    rw [show inb (at' - 1) w.fp.length = true from inb_iff.2 ⟨by omega, by omega⟩]
    exact ⟨_, rfl, rfl⟩
 | false =>
  rw [cond_false, cond_false, cond_false, cond_false, cond_false, cond_false, cond_true, Option.bind_some]
  cases gt s.fnumber.l (gt w.fp at').fDst <;> exact ⟨_, rfl, rfl⟩
theorem set_reg {F : Nat} (hF : 10 ≤ F) {k : Known} {s : RSet} (h : Rel k s) {n : Int} (h0 : 0 ≤ n) (h1 : n ≤ 10) (b : Bool) :
  ∃ k', (Option.bind (fn107 F k [IntKind.i64.wrap n]) fun v => bif IntKind.i64.wrap n == 1 then (Option.bind (fn115 v 15) fun u => some (b, u)) else some (b, v)) = some (b, k') ∧ Rel k' ⟨s.fnumber.set n true, s.fctx && (n != 1), s.fbytes⟩ := by
 rw [w64 (n := n) (by omega)]
 obtain ⟨m, rfl⟩ : ∃ m : Nat, n = (m : Int) := ⟨n.toNat, by omega⟩
 obtain ⟨k1, e1, e2, e3, e4⟩ := put_ok (F := F) h.ok (l := [(m : Int)]) (by simp) (by simp; omega) (fun x hx => by simp at hx; omega)
 rw [e1, Option.bind_some]
 have hml : m < s.fnumber.l.length := by rw [s.fnumber.h]; omega
 have hnum : ∀ i : Nat, i ≤ 10 → (rb k i || decide ((i : Int) ∈ ([(m : Int)] : List Int))) = gt (s.fnumber.l.set m true) (i : Int) := fun i hi => by
  have := h.reg i (by omega)
  rw [this, regf, show decide (i ≤ 10) = true by simp [hi], cond_true, gt_setG hml]
  by_cases hm : i = m
  ·subst hm; simp
  ·have : ¬ ((i : Int) = (m : Int)) := by omega
   simp [hm, this]
 by_cases hm1 : m = 1
 ·subst hm1
  obtain ⟨k2, f1, f2, f3, f4⟩ := drop_ok e2 (a := 15) (by omega)
  rw [show ((15 : Nat) : Int) = 15 from rfl] at f1
  refine ⟨k2, by rw [show (((1 : Nat) : Int) == 1) = true from rfl, cond_true, f1]; rfl, f2, fun i hi => ?_, fun i hi => ?_⟩
  ·rw [f3, e3, regf]
   by_cases h10 : i ≤ 10
   ·rw [show decide (i ≤ 10) = true by simp [h10], cond_true, set_l, ← hnum i h10]
    have : ¬ (i = 15) := by omega
    simp [this]
   ·rw [show decide (i ≤ 10) = false by simp; omega, cond_false]
    by_cases h15 : i = 15
    ·subst h15; simp
    ·have h2 := h.reg i hi
     rw [regf, show decide (i ≤ 10) = false by simp; omega, cond_false, show decide (i = 15) = false by simp [h15], cond_false] at h2
     have h3 : ¬ ((i : Int) = 1) := by omega
     rw [h2]; simp [h15, h3]
  ·have : bb k2 i = bb k i := by unfold bb; rw [f4, e4]
   rw [this, h.byt i hi]
 ·have hne : ((m : Int) == 1) = false := by simp; omega
  refine ⟨k1, by rw [hne]; rfl, e2, fun i hi => ?_, fun i hi => ?_⟩
  ·rw [e3, regf]
   by_cases h10 : i ≤ 10
   ·rw [show decide (i ≤ 10) = true by simp [h10], cond_true, set_l, ← hnum i h10]
   ·have h2 := h.reg i hi
    rw [show decide (i ≤ 10) = false by simp; omega, cond_false]
    rw [regf, show decide (i ≤ 10) = false by simp; omega, cond_false] at h2
    have h3 : ¬ ((i : Int) = (m : Int)) := by omega
    rw [h2]
    have h4 : ((m : Int) != 1) = true := by rw [bne, hne]; rfl
    simp [h3, h4]
  ·have : bb k1 i = bb k i := by unfold bb; rw [e4]
   rw [this, h.byt i hi]
end Go.Proofs.YthpjmknpkdoadaaGreat
namespace Go.Proofs.YthpjmknpkdoadaaGreat
open Go Go.HW
set_option linter.unusedVariables false
set_option maxRecDepth 8000
theorem step_eq {F : Nat} (hF : 9000 ≤ F) {w : Walk} (hp : w.fp.length ≤ 1000) (hT : w.ftargets = tg w.fp) (hl : w.ft.fFields.length ≤ 1000) {k : Known} {s : RSet} (h : Rel k s) {at' : Int} (h0 : 0 ≤ at') (h1 : at' < (w.fp.length : Int)) (hx : OkX (gt w.fp at')) :
  ∃ k' s' b, fn66 F w k at' = some (b, k') ∧ fn33 F s w.fp at' w.ft = some (s', b) ∧ Rel k' s' := by
 have hin : inb at' w.fp.length = true := inb_iff.2 ⟨h0, h1⟩
 have hid : inb (gt w.fp at').fDst 11 = true := inb_iff.2 ⟨hx.dst.1, by have := hx.dst.2; omega⟩
 have hh : ∀ c : Int, fn114 F [4, 7, 0, 1] c = some (decide (c ∈ ([4, 7, 0, 1] : List Int))) := fun c => has114 _ _ (by simp) (by simp; omega)
 have alu : ∀ (K : Instr → Bool → RSet × Bool), ∃ b, fn109 F w k at' = some b ∧ (bif (fn72 (gt w.fp at')) == 176 then (Option.bind (fn85 s (gt w.fp at')) fun v => (bif inb (gt w.fp at').fDst 11 then some (K (gt w.fp at') v) else none)) else (bif (fn72 (gt w.fp at')) == 128 then (bif inb (gt w.fp at').fDst 11 then some (K (gt w.fp at') (gt s.fnumber.l (gt w.fp at').fDst)) else none) else (bif (fn72 (gt w.fp at')) == 208 then (bif inb (gt w.fp at').fDst 11 then some (K (gt w.fp at') (gt s.fnumber.l (gt w.fp at').fDst)) else none) else (bif inb (gt w.fp at').fDst 11 then (Option.bind (bif bif gt s.fnumber.l (gt w.fp at').fDst then true else false then fn85 s (gt w.fp at') else some false) fun v => some (K (gt w.fp at') (gt s.fnumber.l (gt w.fp at').fDst && v))) else none)))) = some (K (gt w.fp at') b) := fun K => by
  obtain ⟨b, b1, b2⟩ := alu_step (F := F) (by omega) h hin hx
  refine ⟨b, b1, ?_⟩
  rw [hid]
  cases h1 : (fn72 (gt w.fp at') == 176) with
  | true => rw [h1, cond_true] at b2; rw [cond_true, b2]; rfl
  | false =>
  cases h2 : (fn72 (gt w.fp at') == 128) with
  | true => rw [h1, h2, cond_false, cond_true] at b2; rw [cond_false, cond_true, cond_true]; rw [Option.some.inj b2]
  | false =>
  cases h3 : (fn72 (gt w.fp at') == 208) with
  | true => rw [h1, h2, h3, cond_false, cond_false, cond_true] at b2; rw [cond_false, cond_false, cond_true, cond_true]; rw [Option.some.inj b2]
  | false =>
   rw [h1, h2, h3, cond_false, cond_false, cond_false] at b2
   rw [cond_false, cond_false, cond_false, cond_true]
   obtain ⟨v, v1, v2⟩ := Option.bind_eq_some_iff.1 b2
   rw [v1, Option.bind_some, Option.some.inj v2]
 have setr := fun b => set_reg (F := F) (by omega) h hx.dst.1 hx.dst.2 b
 rw [fn66, fn33, hin, cond_true, cond_true]
 have e71 : fn71 (gt w.fp at') = iand .u8 (gt w.fp at').fOp 7 := rfl
 rcases cls_lt hx.i with e | e | e | e | e | e | e | e
 ·-- a load of a number
  have e' : iand .u8 (gt w.fp at').fOp 7 = 0 := e
  obtain ⟨k', k1, k2⟩ := setr ((gt w.fp at').fSrc == 0)
  refine ⟨k', ⟨s.fnumber.set (gt w.fp at').fDst true, s.fctx && ((gt w.fp at').fDst != 1), s.fbytes⟩, (gt w.fp at').fSrc == 0, ?_, ?_, k2⟩
  ·rw [e']
   show Option.bind (fn110 w k at') _ = _
   rw [fn110, hin, cond_true, Option.bind_some, hh]
   exact k1
  ·rw [e, hid]; rfl
 ·have e' : iand .u8 (gt w.fp at').fOp 7 = 1 := e
  obtain ⟨b, b1, b2⟩ := load_step (F := F) (by omega) hl h hin hx
  obtain ⟨k', k1, k2⟩ := setr b
  refine ⟨k', ⟨s.fnumber.set (gt w.fp at').fDst true, s.fctx && ((gt w.fp at').fDst != 1), s.fbytes⟩, b, ?_, ?_, k2⟩
  ·rw [e']
   show Option.bind (fn111 F w k at') _ = _
   rw [b1, Option.bind_some, hh]
   exact k1
  ·rw [e, hid]
   show Option.bind (fn84 F s w.ft (gt w.fp at')) _ = _
   rw [b2]; rfl
 ·have e' : iand .u8 (gt w.fp at').fOp 7 = 2 := e
  obtain ⟨k', s', b, b1, b2, b3⟩ := store_step (F := F) (by omega) h hin hx (fn33_l1 w.fp at') (fun n y j => fn33_l1_s w.fp at' n y j)
  refine ⟨k', s', b, ?_, ?_, b2⟩
  ·rw [e']
   show Option.bind (fn112 F w k at') _ = _
   rw [b1, Option.bind_some, hh]; rfl
  ·rw [e] at b3 ⊢; exact b3
 ·have e' : iand .u8 (gt w.fp at').fOp 7 = 3 := e
  obtain ⟨k', s', b, b1, b2, b3⟩ := store_step (F := F) (by omega) h hin hx (fn33_l2 w.fp at') (fun n y j => fn33_l2_s w.fp at' n y j)
  refine ⟨k', s', b, ?_, ?_, b2⟩
  ·rw [e']
   show Option.bind (fn112 F w k at') _ = _
   rw [b1, Option.bind_some, hh]; rfl
  ·rw [e] at b3 ⊢; exact b3
 ·have e' : iand .u8 (gt w.fp at').fOp 7 = 4 := e
  obtain ⟨b, b1, b2⟩ := alu (fun x v => (⟨s.fnumber.set x.fDst true, s.fctx && (x.fDst != 1), s.fbytes⟩, v))
  obtain ⟨k', k1, k2⟩ := setr b
  refine ⟨k', _, b, ?_, ?_, k2⟩
  ·rw [e']
   show Option.bind (fn109 F w k at') _ = _
   rw [b1, Option.bind_some, hh]
   exact k1
  ·rw [e]; exact b2
 ·have e' : iand .u8 (gt w.fp at').fOp 7 = 5 := e
  obtain ⟨b, b1, b2⟩ := jump_step hF hp hT h h0 h1 hx
  refine ⟨k, s, b, ?_, ?_, h⟩
  ·rw [e']
   show Option.bind (fn113 F w k at') _ = _
   rw [b1, Option.bind_some, hh]; rfl
  ·rw [e]
   show Option.bind (fn81 F s w.fp at' w.ft) _ = _
   rw [b2]; rfl
 ·have e' : iand .u8 (gt w.fp at').fOp 7 = 6 := e
  obtain ⟨b, b1, b2⟩ := jump_step hF hp hT h h0 h1 hx
  refine ⟨k, s, b, ?_, ?_, h⟩
  ·rw [e']
   show Option.bind (fn113 F w k at') _ = _
   rw [b1, Option.bind_some, hh]; rfl
  ·rw [e]
   show Option.bind (fn81 F s w.fp at' w.ft) _ = _
   rw [b2]; rfl
 ·have e' : iand .u8 (gt w.fp at').fOp 7 = 7 := e
  obtain ⟨b, b1, b2⟩ := alu (fun x v => (⟨s.fnumber.set x.fDst true, s.fctx && (x.fDst != 1), s.fbytes⟩, v))
  obtain ⟨k', k1, k2⟩ := setr b
  refine ⟨k', _, b, ?_, ?_, k2⟩
  ·rw [e']
   show Option.bind (fn109 F w k at') _ = _
   rw [b1, Option.bind_some, hh]
   exact k1
  ·rw [e]; exact b2
theorem gt_rep {α : Type} [Inhabited α] (n : Nat) (z : α) (hz : (default : α) = z) (i : Int) : gt (List.replicate n z) i = z := by
 unfold gt
 rw [List.getD_eq_getElem?_getD, List.getElem?_replicate]
 split
 ·rfl
 ·exact hz
theorem begin_rel {F : Nat} (hF : 10 ≤ F) : ∃ k, fn64 F = some k ∧ Rel k ⟨Ar.rep 11 false, true, Ar.rep 512 false⟩ := by
 have hrep : ∀ (W i : Nat), bW W (List.replicate 8 (0 : Int)) i = false := fun W i => by
  unfold bW
  have : gt (List.replicate 8 (0 : Int)) ((i / W : Nat) : Int) = 0 := gt_rep 8 0 rfl _
  rw [this]; simp
 have hz : OkK (⟨⟨Ar.rep 8 0, 16⟩, ⟨Ar.rep 8 0, 64⟩⟩ : Known) := ⟨rfl, rfl, fun x hx => by
  have : x = 0 := List.eq_of_mem_replicate hx
  subst this; exact ⟨by omega, by decide⟩, fun x hx => by
  have : x = 0 := List.eq_of_mem_replicate hx
  subst this; exact ⟨by omega, by decide⟩⟩
 obtain ⟨k, k1, k2, k3, k4⟩ := put_ok (F := F) hz (l := [15]) (by simp) (by simp; omega) (fun x hx => by simp at hx; omega)
 refine ⟨k, by rw [fn64, k1]; rfl, k2, fun i hi => ?_, fun i hi => ?_⟩
 ·rw [k3]
  have e0 : rb (⟨⟨Ar.rep 8 0, 16⟩, ⟨Ar.rep 8 0, 64⟩⟩ : Known) i = false := hrep 16 i
  rw [e0, regf]
  by_cases h10 : i ≤ 10
  ·have : gt (Ar.rep 11 false).l (i : Int) = false := gt_rep 11 false rfl _
   have h2 : ¬ ((i : Int) = 15) := by omega
   simp [h10, this, h2]
  ·by_cases h15 : i = 15
   ·subst h15; simp
   ·have h2 : ¬ ((i : Int) = 15) := by omega
    simp [h10, h15, h2]
 ·have : bb k i = bb (⟨⟨Ar.rep 8 0, 16⟩, ⟨Ar.rep 8 0, 64⟩⟩ : Known) i := by unfold bb; rw [k4]
  rw [this]
  have e1 : gt (Ar.rep 512 false).l (i : Int) = false := gt_rep 512 false rfl _
  rw [e1]; exact hrep 64 i
theorem both_l1 {q : RSet} : ∀ (n j : Nat) (x : Ar Bool 11), j ≤ 11 → 11 - j < n → ∃ y, fn80_l1 q n x (j : Int) = some y ∧ ∀ i : Nat, i < 11 → gt y.l (i : Int) = bif decide (j ≤ i) then gt x.l (i : Int) && gt q.fnumber.l (i : Int) else gt x.l (i : Int)
 | 0, j, x, h1, h2 => by omega
 | n + 1, j, x, h1, h2 => by
  rw [fn80_l1_s]
  by_cases hj : j < 11
  ·have hi : inb (j : Int) 11 = true := inb_iff.2 ⟨by omega, by omega⟩
   have hjl : j < x.l.length := by rw [x.h]; exact hj
   rw [show decide ((j : Int) < 11) = true by simp; omega, cond_true, hi, cond_true, show (bif gt x.l (j : Int) then true else true) = true by cases gt x.l (j : Int) <;> rfl, cond_true, show IntKind.i64.wrap ((j : Int) + 1) = ((j + 1 : Nat) : Int) from w64 (by omega)]
   obtain ⟨y, y1, y2⟩ := both_l1 n (j + 1) (x.set (j : Int) (gt x.l (j : Int) && gt q.fnumber.l (j : Int))) (by omega) (by omega)
   refine ⟨y, y1, fun i hi' => ?_⟩
   rw [y2 i hi', set_l, gt_setG hjl]
   by_cases h : i = j
   ·subst h
    have : ¬ (i + 1 ≤ i) := by omega
    simp [this]
   ·rw [if_neg h]
    by_cases h5 : j ≤ i
    ·have h6 : j + 1 ≤ i := by omega
     simp [h5, h6]
    ·have h6 : ¬ (j + 1 ≤ i) := by omega
     simp [h5, h6]
  ·rw [show decide ((j : Int) < 11) = false by simp; omega, cond_false]
   refine ⟨x, rfl, fun i hi => ?_⟩
   have : ¬ (j ≤ i) := by omega
   simp [this]
theorem both_l2 {q : RSet} : ∀ (n j : Nat) (x : Ar Bool 512), j ≤ 512 → 512 - j < n → ∃ y, fn80_l2 q n x (j : Int) = some y ∧ ∀ i : Nat, i < 512 → gt y.l (i : Int) = bif decide (j ≤ i) then gt x.l (i : Int) && gt q.fbytes.l (i : Int) else gt x.l (i : Int)
 | 0, j, x, h1, h2 => by omega
 | n + 1, j, x, h1, h2 => by
  rw [fn80_l2_s]
  by_cases hj : j < 512
  ·have hi : inb (j : Int) 512 = true := inb_iff.2 ⟨by omega, by omega⟩
   have hjl : j < x.l.length := by rw [x.h]; exact hj
   rw [show decide ((j : Int) < 512) = true by simp; omega, cond_true, hi, cond_true, show (bif gt x.l (j : Int) then true else true) = true by cases gt x.l (j : Int) <;> rfl, cond_true, show IntKind.i64.wrap ((j : Int) + 1) = ((j + 1 : Nat) : Int) from w64 (by omega)]
   obtain ⟨y, y1, y2⟩ := both_l2 n (j + 1) (x.set (j : Int) (gt x.l (j : Int) && gt q.fbytes.l (j : Int))) (by omega) (by omega)
   refine ⟨y, y1, fun i hi' => ?_⟩
   rw [y2 i hi', set_l, gt_setG hjl]
   by_cases h : i = j
   ·subst h
    have : ¬ (i + 1 ≤ i) := by omega
    simp [this]
   ·rw [if_neg h]
    by_cases h5 : j ≤ i
    ·have h6 : j + 1 ≤ i := by omega
     simp [h5, h6]
    ·have h6 : ¬ (j + 1 ≤ i) := by omega
     simp [h5, h6]
  ·rw [show decide ((j : Int) < 512) = false by simp; omega, cond_false]
   refine ⟨x, rfl, fun i hi => ?_⟩
   have : ¬ (j ≤ i) := by omega
   simp [this]
structure BothS (a q s : RSet) : Prop where
 num : ∀ i : Nat, i < 11 → gt s.fnumber.l (i : Int) = (gt a.fnumber.l (i : Int) && gt q.fnumber.l (i : Int))
 ctx : s.fctx = (a.fctx && q.fctx)
 byt : ∀ i : Nat, i < 512 → gt s.fbytes.l (i : Int) = (gt a.fbytes.l (i : Int) && gt q.fbytes.l (i : Int))
theorem both_ok {F : Nat} (hF : 600 ≤ F) (a q : RSet) : ∃ s, fn80 F a q = some s ∧ BothS a q s := by
 obtain ⟨y, y1, y2⟩ := both_l1 (q := q) F 0 a.fnumber (by omega) (by omega)
 obtain ⟨z, z1, z2⟩ := both_l2 (q := q) F 0 a.fbytes (by omega) (by omega)
 rw [show ((0 : Nat) : Int) = 0 from rfl] at y1 z1
 refine ⟨⟨y, a.fctx && q.fctx, z⟩, by rw [fn80, y1, Option.bind_some, fn80_k1, z1]; rfl, fun i hi => ?_, rfl, fun i hi => ?_⟩
 ·rw [y2 i hi]; rfl
 ·rw [z2 i hi]; rfl
theorem both_rel {F : Nat} (hF : 600 ≤ F) {k q : Known} {a b : RSet} (h : Rel k a) (hq : Rel q b) : ∃ k1 k2 s, fn67 F k q.fregs = some k1 ∧ fn68 F k1 q.fbytes = some k2 ∧ fn80 F a b = some s ∧ Rel k2 s ∧ BothS a b s := by
 obtain ⟨k1, k2, e1, e2, e3, e4, e5⟩ := with_ok (F := F) (by omega) h.ok hq.ok
 obtain ⟨s, s1, s2⟩ := both_ok hF a b
 refine ⟨k1, k2, s, e1, e2, s1, ⟨e3, fun i hi => ?_, fun i hi => ?_⟩, s2⟩
 ·rw [e4 i hi, h.reg i hi, hq.reg i hi]
  unfold regf
  by_cases h10 : i ≤ 10
  ·simp [h10, s2.num i (by omega)]
  ·by_cases h15 : i = 15
   ·simp [h10, h15, s2.ctx]
   ·simp [h10, h15]
 ·rw [e5 i hi, h.byt i hi, hq.byt i hi, s2.byt i hi]
theorem eqL_iff {α : Type} [BEq α] [LawfulBEq α] : ∀ {l r : List α}, l.length = r.length → (eqL l r = true ↔ l = r)
 | [], [], _ => by simp [eqL]
 | x :: l, y :: r, h => by
  have := eqL_iff (l := l) (r := r) (by simpa using h)
  simp [eqL, this]
 | [], _ :: _, h => by simp at h
 | _ :: _, [], h => by simp at h
def eqK (a b : Known) : Bool := (((eqL a.fregs.fwords.l b.fregs.fwords.l) && ((a.fregs.fwidth == b.fregs.fwidth) && true)) && (((eqL a.fbytes.fwords.l b.fbytes.fwords.l) && ((a.fbytes.fwidth == b.fbytes.fwidth) && true)) && true))
def eqR (a b : RSet) : Bool := ((eqL a.fnumber.l b.fnumber.l) && ((a.fctx == b.fctx) && ((eqL a.fbytes.l b.fbytes.l) && true)))
theorem eqR_iff {a b : RSet} : eqR a b = true ↔ a = b := by
 unfold eqR
 rw [Bool.and_true, Bool.and_eq_true, Bool.and_eq_true, eqL_iff (by rw [a.fnumber.h, b.fnumber.h]), eqL_iff (by rw [a.fbytes.h, b.fbytes.h])]
 cases a with | mk a1 a2 a3 => cases b with | mk b1 b2 b3 =>
  cases a1; cases a3; cases b1; cases b3
  simp
theorem gt_ext {α : Type} [Inhabited α] {l r : List α} (hn : l.length = r.length) (h : ∀ i : Nat, i < l.length → gt l (i : Int) = gt r (i : Int)) : l = r := by
 apply List.ext_getElem hn
 intro i h1 h2
 have := h i h1
 simpa [gt, h1, h2] using this
theorem eqK_eqR {k q : Known} {a b : RSet} (h : Rel k a) (hq : Rel q b) : eqK k q = eqR a b := by
 rw [Bool.eq_iff_iff, eqR_iff]
 unfold eqK
 rw [h.ok.w16, h.ok.w64, hq.ok.w16, hq.ok.w64]
 simp only [beq_self_eq_true, Bool.and_true, Bool.and_eq_true]
 rw [eqL_iff (by rw [k.fregs.fwords.h, q.fregs.fwords.h]), eqL_iff (by rw [k.fbytes.fwords.h, q.fbytes.fwords.h])]
 constructor
 ·rintro ⟨e1, e2⟩
  have hr : ∀ i : Nat, i < 128 → regf a i = regf b i := fun i hi => by rw [← h.reg i hi, ← hq.reg i hi]; unfold rb; rw [e1]
  have hb : ∀ i : Nat, i < 512 → gt a.fbytes.l (i : Int) = gt b.fbytes.l (i : Int) := fun i hi => by rw [← h.byt i hi, ← hq.byt i hi]; unfold bb; rw [e2]
  have hc : a.fctx = b.fctx := hr 15 (by omega)
  have hn : a.fnumber.l = b.fnumber.l := gt_ext (by rw [a.fnumber.h, b.fnumber.h]) fun i hi => by
   rw [a.fnumber.h] at hi
   have := hr i (by omega)
   unfold regf at this
   rw [show decide (i ≤ 10) = true by simp; omega, cond_true, cond_true] at this
   exact this
  have hy : a.fbytes.l = b.fbytes.l := gt_ext (by rw [a.fbytes.h, b.fbytes.h]) fun i hi => hb i (by rw [a.fbytes.h] at hi; exact hi)
  cases a with | mk a1 a2 a3 => cases b with | mk b1 b2 b3 =>
   cases a1; cases a3; cases b1; cases b3
   simp at hn hc hy ⊢
   exact ⟨hn, hc, hy⟩
 ·rintro rfl
  refine ⟨bW_ext (W := 16) (by omega) h.ok.r16 hq.ok.r16 (by rw [k.fregs.fwords.h, q.fregs.fwords.h]) fun i hi => ?_, bW_ext (W := 64) (by omega) h.ok.r64 hq.ok.r64 (by rw [k.fbytes.fwords.h, q.fbytes.fwords.h]) fun i hi => ?_⟩
  ·rw [k.fregs.fwords.h] at hi
   have h1 := h.reg i (by omega)
   have h2 := hq.reg i (by omega)
   rw [← h2] at h1; exact h1
  ·rw [k.fbytes.fwords.h] at hi
   have h1 := h.byt i (by omega)
   have h2 := hq.byt i (by omega)
   rw [← h2] at h1; exact h1
end Go.Proofs.YthpjmknpkdoadaaGreat
namespace Go.Proofs.YthpjmknpkdoadaaGreat
open Go Go.HW
set_option linter.unusedVariables false
set_option maxRecDepth 8000
def WF2 (p : List Instr) : Prop := ∀ x ∈ p, OkI x ∧ 0 ≤ x.fDst ∧ 0 ≤ x.fSrc
theorem WF2.wf {p : List Instr} (h : WF2 p) : WF p := fun x hx => (h x hx).1
theorem okx_pl {p : List Instr} (hw : WF2 p) (ho : okP p = true) {k : Int} (hk : pl p k = true) : OkX (gt p k) := by
 obtain ⟨h0, h1⟩ := pl_in hk
 have he := ok_er_pl ho hk
 obtain ⟨a, b, c⟩ := hw _ (gt_mem h0 h1)
 have h41 : fn41 (fn89 (gt p k)) = true := by
  cases h : fn41 (fn89 (gt p k)) with
  | true => rfl
  | false =>
   unfold er at he
   cases h2 : fn117 (gt p k) with
   | false => rw [h2] at he; cases he
   | true => rw [h2, h] at he; cases he
 rw [rg_eq] at h41
 simp at h41
 exact ⟨a, ⟨b, by omega⟩, ⟨c, by omega⟩⟩
abbrev zK : Known := ⟨⟨Ar.rep 8 0, 0⟩, ⟨Ar.rep 8 0, 0⟩⟩
structure LS (p : List Instr) (m : List (Int × Known)) (out : List RSet) (met : List Bool) : Prop where
 lo : out.length = p.length
 lm : met.length = p.length
 knd : KND m
 has : ∀ t : Int, 0 ≤ t → t < (p.length : Int) → mhas m t = gt met t
 key : ∀ t : Int, mhas m t = true → (0 ≤ t ∧ t < (p.length : Int)) ∧ pl p t = true ∧ Rch (stp p) t ∧ Rel (mget m t zK) (gt out t)
def refE (F : Nat) (p : List Instr) (t : PType) (out : List RSet) (met : List Bool) (g : Bool) (a b : Int) : Option (List RSet × List Bool × Bool) :=
 bif inb a met.length then (bif !(gt met a) then some (out, met, g) else (bif inb a out.length then (Option.bind (fn33 F (gt out a) p a t) fun v => (bif inb b met.length then (bif gt met b then (bif inb b out.length then (Option.bind (fn80 F v.1 (gt out b)) fun u =>
  (bif !(gt met b) then some (out.set b.toNat u, met.set b.toNat true, true) else (bif !(eqR u (gt out b)) then some (out.set b.toNat u, met.set b.toNat true, true) else some (out, met, g)))) else none)
  else (bif !(gt met b) then (bif inb b out.length then some (out.set b.toNat v.1, met.set b.toNat true, true) else none) else (bif inb b out.length then (bif !(eqR v.1 (gt out b)) then some (out.set b.toNat v.1, met.set b.toNat true, true) else some (out, met, g)) else none))) else none)) else none)) else none
theorem ref_loop {F : Nat} {p : List Instr} {t : PType} {v4 : List Edge} (n : Nat) (xs : List RSet) (ys : List Bool) (g : Bool) (k : Int) :
  fn32_l2 F p t v4 (n + 1) xs ys g k = bif decide (k < (v4.length : Int)) then (bif inb k v4.length then (Option.bind (refE F p t xs ys g (gt v4 k).fFrom (gt v4 k).fTo) fun o => fn32_l2 F p t v4 n o.1 o.2.1 o.2.2 (IntKind.i64.wrap (k + 1))) else none) else some (xs, ys, g) := by
 rw [fn32_l2_s]
 unfold refE eqR
 cases decide (k < (v4.length : Int)) with
 | false => rfl
 | true =>
 cases inb k v4.length with
 | false => rfl
 | true =>
 generalize gt v4 k = e
 simp only [cond_true]
 cases inb e.fFrom ys.length with
 | false => rfl
 | true =>
 cases gt ys e.fFrom with
 | false => rfl
 | true =>
 cases inb e.fFrom xs.length with
 | false => rfl
 | true =>
 simp only [cond_true, Bool.not_true, cond_false]
 cases fn33 F (gt xs e.fFrom) p e.fFrom t with
 | none => rfl
 | some v =>
 simp only [Option.bind_some]
 cases inb e.fTo ys.length with
 | false => rfl
 | true =>
 cases hm : gt ys e.fTo with
 | true =>
  cases inb e.fTo xs.length with
  | false => rfl
  | true =>
  simp only [cond_true, Bool.not_true, cond_false]
  cases fn80 F v.1 (gt xs e.fTo) with
  | none => rfl
  | some u =>
  simp only [Option.bind_some]
  cases (!(eqL u.fnumber.l (gt xs e.fTo).fnumber.l && ((u.fctx == (gt xs e.fTo).fctx) && (eqL u.fbytes.l (gt xs e.fTo).fbytes.l && true)))) <;> rfl
 | false =>
  cases inb e.fTo xs.length <;> rfl
def wgt (s : RSet) : Nat := s.fnumber.l.count true + (bif s.fctx then 1 else 0) + s.fbytes.l.count true
theorem wgt_le (s : RSet) : wgt s ≤ 524 := by
 have h1 := List.count_le_length (a := true) (l := s.fnumber.l)
 have h2 := List.count_le_length (a := true) (l := s.fbytes.l)
 rw [s.fnumber.h] at h1
 rw [s.fbytes.h] at h2
 unfold wgt
 cases s.fctx <;> simp <;> omega
theorem count_sub : ∀ {l r : List Bool}, l.length = r.length → (∀ i : Nat, i < l.length → gt l (i : Int) = true → gt r (i : Int) = true) → l.count true ≤ r.count true ∧ (l.count true = r.count true → l = r)
 | [], [], _, _ => ⟨Nat.le_refl _, fun _ => rfl⟩
 | x :: l, y :: r, hn, h => by
  have h0 : x = true → y = true := h 0 (by simp)
  obtain ⟨h1, h2⟩ := count_sub (l := l) (r := r) (by simpa using hn) (fun i hi hl => by
   have := h (i + 1) (by simp; omega)
   have e1 : gt (x :: l) ((i + 1 : Nat) : Int) = gt l (i : Int) := by simp [gt]
   have e2 : gt (y :: r) ((i + 1 : Nat) : Int) = gt r (i : Int) := by simp [gt]
   rw [e1, e2] at this; exact this hl)
  cases x with
  | true =>
   have := h0 rfl; subst this
   simp only [List.count_cons_self]
   exact ⟨by omega, fun e => by rw [h2 (by omega)]⟩
  | false =>
   cases y with
   | true =>
    rw [List.count_cons_of_ne (by decide), List.count_cons_self]
    exact ⟨by omega, fun e => by omega⟩
   | false =>
    rw [List.count_cons_of_ne (by decide), List.count_cons_of_ne (by decide)]
    exact ⟨h1, fun e => by rw [h2 e]⟩
 | [], _ :: _, hn, _ => by simp at hn
 | _ :: _, [], hn, _ => by simp at hn
theorem wgt_both {a b s : RSet} (h : BothS a b s) : wgt s ≤ wgt b ∧ (wgt s = wgt b → s = b) := by
 obtain ⟨n1, n2⟩ := count_sub (l := s.fnumber.l) (r := b.fnumber.l) (by rw [s.fnumber.h, b.fnumber.h]) (fun i hi hl => by
  rw [h.num i (by rw [s.fnumber.h] at hi; exact hi), Bool.and_eq_true] at hl; exact hl.2)
 obtain ⟨b1, b2⟩ := count_sub (l := s.fbytes.l) (r := b.fbytes.l) (by rw [s.fbytes.h, b.fbytes.h]) (fun i hi hl => by
  rw [h.byt i (by rw [s.fbytes.h] at hi; exact hi), Bool.and_eq_true] at hl; exact hl.2)
 have hc := h.ctx
 unfold wgt
 have hcc : (bif s.fctx then 1 else 0 : Nat) ≤ (bif b.fctx then 1 else 0) ∧ ((bif s.fctx then 1 else 0 : Nat) = (bif b.fctx then 1 else 0) → s.fctx = b.fctx) := by
  rw [hc]; cases a.fctx <;> cases b.fctx <;> simp
 refine ⟨by omega, fun e => ?_⟩
 have e1 := n2 (by omega)
 have e2 := b2 (by omega)
 have e3 := hcc.2 (by omega)
 cases s with | mk s1 s2 s3 => cases b with | mk t1 t2 t3 =>
  cases s1; cases s3; cases t1; cases t3
  simp at e1 e2 e3 ⊢
  exact ⟨e1, e3, e2⟩
def mes : List RSet → List Bool → Nat
 | x :: xs, y :: ys => (bif y then wgt x else 525) + mes xs ys
 | _, _ => 0
theorem mes_le : ∀ (xs : List RSet) (ys : List Bool), mes xs ys ≤ 525 * ys.length
 | [], _ => by simp [mes]
 | _ :: _, [] => by simp [mes]
 | x :: xs, y :: ys => by
  have := mes_le xs ys
  have := wgt_le x
  rw [mes, List.length_cons]
  cases y <;> simp <;> omega
theorem mes_set : ∀ (xs : List RSet) (ys : List Bool) (i : Nat) (s : RSet), i < xs.length → i < ys.length → mes (xs.set i s) (ys.set i true) + (bif gt ys (i : Int) then wgt (gt xs (i : Int)) else 525) = mes xs ys + wgt s
 | x :: xs, y :: ys, 0, s, h1, h2 => by
  have e1 : gt (y :: ys) ((0 : Nat) : Int) = y := rfl
  have e2 : gt (x :: xs) ((0 : Nat) : Int) = x := rfl
  rw [e1, e2]
  simp only [List.set_cons_zero, mes, cond_true]
  omega
 | x :: xs, y :: ys, i + 1, s, h1, h2 => by
  have e1 : gt (y :: ys) ((i + 1 : Nat) : Int) = gt ys (i : Int) := by simp [gt]
  have e2 : gt (x :: xs) ((i + 1 : Nat) : Int) = gt xs (i : Int) := by simp [gt]
  have := mes_set xs ys i s (by simpa using h1) (by simpa using h2)
  rw [e1, e2]
  simp only [List.set_cons_succ, mes]
  omega
 | [], _, i, s, h1, h2 => by simp at h1
 | _ :: _, [], i, s, h1, h2 => by simp at h2
structure EdgeS (p : List Instr) (m m' : List (Int × Known)) (out out' : List RSet) (met met' : List Bool) (g g' : Bool) : Prop where
 ls : LS p m' out' met'
 mes : mes out' met' ≤ mes out met
 up : g' = true → g = true ∨ Go.Proofs.YthpjmknpkdoadaaGreat.mes out' met' < Go.Proofs.YthpjmknpkdoadaaGreat.mes out met
 same : g' = false → g = false ∧ m' = m ∧ out' = out ∧ met' = met
 mono : ∀ t, mhas m t = true → mhas m' t = true
theorem edge_eq {F : Nat} (hF : 9000 ≤ F) {w : Walk} (hp : w.fp.length ≤ 1000) (hT : w.ftargets = tg w.fp) (hl : w.ft.fFields.length ≤ 1000) (hw : WF2 w.fp) (ho : okP w.fp = true)
  {m : List (Int × Known)} {out : List RSet} {met : List Bool} (h : LS w.fp m out met) (g : Bool) {a b : Int} (he : (a, b) ∈ eds w.fp) :
  ∃ m' out' met' g', fn27_r2 F w g m a b = some ((g', m'), 0) ∧ refE F w.fp w.ft out met g a b = some (out', met', g') ∧ EdgeS w.fp m m' out out' met met' g g' ∧ (g' = false → mhas m a = true → mhas m b = true) := by
 obtain ⟨ha0, hb⟩ := mem_eds.1 he
 have hsl : (stp w.fp).length = w.fp.length := by rw [stp_length, ho]; rfl
 have ha1 : a < (w.fp.length : Int) := by
  rw [← hsl]
  by_cases hh : a < ((stp w.fp).length : Int)
  ·exact hh
  ·exfalso
   have : gt (stp w.fp) a = [] := by
    unfold gt; rw [List.getD_eq_getElem?_getD, List.getElem?_eq_none (by omega)]; rfl
   rw [this] at hb; cases hb
 obtain ⟨q1, q2, q3, hb0⟩ := stp_pl ho hb ha0 ha1
 obtain ⟨_, hb1⟩ := pl_in q2
 have ia : inb a w.fp.length = true := inb_iff.2 ⟨ha0, ha1⟩
 have ib : inb b w.fp.length = true := inb_iff.2 ⟨hb0, hb1⟩
 obtain ⟨nb, rfl⟩ : ∃ nb : Nat, b = (nb : Int) := ⟨b.toNat, by omega⟩
 rw [fn27_r2, refE, h.lm, h.lo, ia, ib, cond_true, h.has a ha0 ha1, h.has (nb : Int) hb0 hb1]
 cases hma : gt met a with
 | false =>
  refine ⟨m, out, met, g, rfl, rfl, ⟨h, Nat.le_refl _, fun e => .inl e, fun e => ⟨e, rfl, rfl, rfl⟩, fun t ht => ht⟩, fun _ hh => by cases hh⟩
 | true =>
  have hka := h.key a (by rw [h.has a ha0 ha1, hma])
  obtain ⟨_, _, hra, hrel⟩ := hka
  obtain ⟨k', s', bb', e1, e2, e3⟩ := step_eq hF hp hT hl hrel ha0 ha1 (okx_pl hw ho q1)
  have ek : (⟨(mget m a zK).fregs, (mget m a zK).fbytes⟩ : Known) = mget m a zK := rfl
  have hrb : Rch (stp w.fp) (nb : Int) := .step hra hb
  -- an update
  have upd : ∀ (kn : Known) (sn : RSet), Rel kn sn → (wgt sn < (bif gt met (nb : Int) then wgt (gt out (nb : Int)) else 525)) → EdgeS w.fp m (mput m (nb : Int) kn) out (out.set nb sn) met (met.set nb true) g true := by
   intro kn sn hr hwt
   have hmes := mes_set out met nb sn (by rw [h.lo]; omega) (by rw [h.lm]; omega)
   refine ⟨⟨by simp [h.lo], by simp [h.lm], KND_put h.knd, fun t t0 t1 => ?_, fun t ht => ?_⟩, by omega, fun _ => .inr (by omega), fun e => (by cases e), fun t ht => (by rw [mhas_put, ht, Bool.or_true])⟩
   ·obtain ⟨nt, rfl⟩ : ∃ nt : Nat, t = (nt : Int) := ⟨t.toNat, by omega⟩
    rw [mhas_put, gt_setG (by rw [h.lm]; omega), h.has _ t0 t1]
    by_cases hh : nt = nb
    ·subst hh; simp
    ·have : ¬ ((nb : Int) = (nt : Int)) := by omega
     simp [hh, this]
   ·rw [mhas_put] at ht
    by_cases hh : (nb : Int) = t
    ·subst hh
     refine ⟨⟨hb0, hb1⟩, q2, hrb, ?_⟩
     rw [mget_put, if_pos rfl, gt_setG (by rw [h.lo]; omega), if_pos rfl]; exact hr
    ·have ht' : mhas m t = true := by simpa [hh] using ht
     obtain ⟨⟨t0, t1⟩, t2, t3, t4⟩ := h.key t ht'
     refine ⟨⟨t0, t1⟩, t2, t3, ?_⟩
     obtain ⟨nt, rfl⟩ : ∃ nt : Nat, t = (nt : Int) := ⟨t.toNat, by omega⟩
     rw [mget_put, if_neg hh, gt_setG (by rw [h.lo]; omega), if_neg (by omega)]; exact t4
  have hmb : ∀ (kn : Known), mhas (mput m (nb : Int) kn) (nb : Int) = true := fun kn => by rw [mhas_put]; simp
  have hid : EdgeS w.fp m m out out met met g g := ⟨h, Nat.le_refl _, fun e => .inl e, fun e => ⟨e, rfl, rfl, rfl⟩, fun t ht => ht⟩
  rw [ek, e1, e2]
  simp only [Bool.not_true, cond_false, Option.bind_some]
  cases hmb' : gt met (nb : Int) with
  | true =>
   have hbm : mhas m (nb : Int) = true := by rw [h.has _ hb0 hb1, hmb']
   obtain ⟨_, _, _, hrelb⟩ := h.key _ hbm
   obtain ⟨k1, k2, s2, f1, f2, f3, f4, f5⟩ := both_rel (F := F) (by omega) e3 hrelb
   obtain ⟨w1, w2⟩ := wgt_both f5
   have heq := eqK_eqR f4 hrelb
   simp only [cond_true, f1, f2, f3, Option.bind_some, Bool.not_true, cond_false]
   have heqK : (((eqL k2.fregs.fwords.l (mget m (nb : Int) zK).fregs.fwords.l) && ((k2.fregs.fwidth == (mget m (nb : Int) zK).fregs.fwidth) && true)) && (((eqL k2.fbytes.fwords.l (mget m (nb : Int) zK).fbytes.fwords.l) && ((k2.fbytes.fwidth == (mget m (nb : Int) zK).fbytes.fwidth) && true)) && true)) = eqR s2 (gt out (nb : Int)) := heq
   rw [heqK]
   cases hs : eqR s2 (gt out (nb : Int)) with
   | true => exact ⟨m, out, met, g, rfl, rfl, hid, fun _ _ => trivial⟩
   | false =>
    refine ⟨mput m (nb : Int) k2, out.set nb s2, met.set nb true, true, rfl, rfl, upd k2 s2 f4 ?_, fun e => by cases e⟩
    rw [hmb', cond_true]
    rcases Nat.lt_or_eq_of_le w1 with h1 | h1
    ·exact h1
    ·have := eqR_iff.2 (w2 h1)
     rw [this] at hs; cases hs
  | false =>
   simp only [cond_false, Bool.not_false, cond_true]
   refine ⟨mput m (nb : Int) k', out.set nb s', met.set nb true, true, rfl, rfl, upd k' s' e3 ?_, fun e => by cases e⟩
   rw [hmb', cond_false]
   have := wgt_le s'
   omega
end Go.Proofs.YthpjmknpkdoadaaGreat
