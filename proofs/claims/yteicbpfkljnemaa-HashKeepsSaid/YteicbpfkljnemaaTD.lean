/- Part of the proof: the logic, the walks, and what they compute. -/
import Derived.Test.YteicbpfkljnemaaProg
import Derived.Test.YteicbpfkljnemaaTC
set_option linter.all false
namespace Go.Proofs.Yteicbpfkljnemaa
open Go Go.HW
set_option linter.unusedVariables false
set_option maxRecDepth 40000
set_option maxHeartbeats 8000000
structure DoK where
 fWhat : Int
 fKey : Sl × List Int
 fB : Sl × List Int
 fFlags : Int
 fPlace : Int
 fOff : Int
 deriving DecidableEq, Inhabited
def DoK.enc (x : DoK) : List Value := [.int .i64 x.fWhat, .slice x.fKey.1.1 x.fKey.1.2.1 x.fKey.1.2.2, .slice x.fB.1.1 x.fB.1.2.1 x.fB.1.2.2, .int .u64 x.fFlags, .int .i64 x.fPlace, .int .i64 x.fOff]
def DoK.E : Et DoK := ⟨⟨DoK.enc, 6, fun _ => rfl, fun _ => rfl, by decide⟩, fun x => [.v (.int .i64 x.fWhat), .v (.slice x.fKey.1.1 x.fKey.1.2.1 x.fKey.1.2.2), .v (.slice x.fB.1.1 x.fB.1.2.1 x.fB.1.2.2), .v (.int .u64 x.fFlags), .v (.int .i64 x.fPlace), .v (.int .i64 x.fOff)], fun ρ x => dens_mapV (DoK.enc x)⟩
def DoK.K (x : DoK) : List Kid := [⟨(Et.int .u8), x.fKey.1, x.fKey.2⟩, ⟨(Et.int .u8), x.fB.1, x.fB.2⟩]
structure MSpec where
 fKind : Int
 fKey : Int
 fValue : Int
 fEntries : Int
 deriving DecidableEq, Inhabited
structure S_kinds_bound_int_ where
 flo : Int
 fhi : Int
 deriving DecidableEq, Inhabited
def S_kinds_bound_int_.enc (x : S_kinds_bound_int_) : List Value := [.int .i64 x.flo, .int .i64 x.fhi]
def S_kinds_bound_int_.E : Et S_kinds_bound_int_ := ⟨⟨S_kinds_bound_int_.enc, 2, fun _ => rfl, fun _ => rfl, by decide⟩, fun x => [.v (.int .i64 x.flo), .v (.int .i64 x.fhi)], fun ρ x => dens_mapV (S_kinds_bound_int_.enc x)⟩
structure S_kinds_makes where
 fkey : S_kinds_bound_int_
 fvalue : S_kinds_bound_int_
 fentries : S_kinds_bound_int_
 deriving DecidableEq, Inhabited
def S_kinds_makes.enc (x : S_kinds_makes) : List Value := [.int .i64 x.fkey.flo, .int .i64 x.fkey.fhi, .int .i64 x.fvalue.flo, .int .i64 x.fvalue.fhi, .int .i64 x.fentries.flo, .int .i64 x.fentries.fhi]
def S_kinds_makes.E : Et S_kinds_makes := ⟨⟨S_kinds_makes.enc, 6, fun _ => rfl, fun _ => rfl, by decide⟩, fun x => [.v (.int .i64 x.fkey.flo), .v (.int .i64 x.fkey.fhi), .v (.int .i64 x.fvalue.flo), .v (.int .i64 x.fvalue.fhi), .v (.int .i64 x.fentries.flo), .v (.int .i64 x.fentries.fhi)], fun ρ x => dens_mapV (S_kinds_makes.enc x)⟩
structure HCell where
 fused : Bool
 fthing : List Int
 deriving DecidableEq, Inhabited
def HCell.D : Od HCell := ⟨Int, inferInstance, (Et.int .u8), 5, fun x => x.fthing, fun x r => { x with fthing := r }, ⟨fun p => [.bool p.1.fused, .slice p.2.1 p.2.2.1 p.2.2.2], 2, fun _ => rfl, fun _ => rfl, by decide⟩, fun x s => [.v (.bool x.fused), s], fun ρ x u s h => denAll_dens ⟨by rw [SV.den], by rw [SV.den, h]; rfl, trivial⟩, fun _ _ => rfl, fun _ _ _ => rfl, fun _ => rfl⟩
noncomputable def tb : TB := ⟨⟨[(4, .bool), (5, .int .u8), (9, .string), (20, Try.t20.desc), (22, .slice 38), (27, Try.t26.desc), (29, Try.t29.desc), (30, .int .i64), (33, Try.t33.desc), (34, Try.t34.desc), (35, .slice 5), (38, Try.t37.desc), (44, .slice 35), (50, .slice 63), (52, Try.t51.desc), (54, Try.t53.desc), (63, Try.t62.desc), (73, .slice 9), (84, Try.t83.desc), (86, Try.t85.desc)], [(3, false), (4, false), (5, false), (9, false), (24, false), (27, true), (29, false), (30, false), (34, false), (35, false), (36, false), (50, false), (84, true), (90, false)], [(3, 1), (4, 1), (5, 1), (9, 1), (24, 1), (27, 4), (29, 1), (30, 1), (34, 1), (35, 1), (38, 6), (50, 1), (52, 1), (63, 2), (84, 2), (86, 6)]⟩, ⟨[(3, [.v (.int .i64 0)]), (4, [.v (.bool false)]), (5, [.v (.int .u8 0)]), (27, [.v (.int .u8 0), .v (.int .i64 0), .v (.int .i64 0), .v (.int .i64 0)]), (29, [.v (.pointer none)]), (30, [.v (.int .i64 0)]), (35, [.v (.slice none 0 0)]), (54, [.v (.slice none 0 0), .v (.int .u8 0), .v (.int .i64 0), .v (.int .i64 0), .v (.int .i64 0), .v (.map none)]), (63, [.v (.bool false), .v (.slice none 0 0)]), (84, [.v (.int .i64 0), .v (.int .i64 0)]), (86, [.v (.int .i64 0), .v (.int .i64 0), .v (.int .i64 0), .v (.int .i64 0), .v (.int .i64 0), .v (.int .i64 0)])]⟩, ⟨[], [], [5, 6, 7, 8, 9, 10, 11, 12, 13, 15, 16, 17, 18, 19, 20, 21, 22, 23, 24, 25, 26, 27, 28, 29, 30, 31, 32, 33, 35, 36, 37, 38, 39, 40, 44, 45]⟩, ⟨[(5, (1, 1, [.v (.int .u8 0)])), (35, (1, 24, [.v (.slice none 0 0)])), (63, (2, 32, [.v (.bool false), .v (.slice none 0 0)]))]⟩, []⟩
theorem tbOk : TBOk Try.prog tb :=
 ⟨⟨⟨Try.runUnderlying4, Try.runUnderlying5, Try.runUnderlying9, Try.runUnderlying20, Try.runUnderlying22, Try.runUnderlying27, Try.runUnderlying29, Try.runUnderlying30, Try.runUnderlying33, Try.runUnderlying34, Try.runUnderlying35, Try.runUnderlying38, Try.runUnderlying44, Try.runUnderlying50, Try.runUnderlying52, Try.runUnderlying54, Try.runUnderlying63, Try.runUnderlying73, Try.runUnderlying84, Try.runUnderlying86, trivial⟩, ⟨Try.isAgg3, Try.isAgg4, Try.isAgg5, Try.isAgg9, Try.isAgg24, Try.isAgg27, Try.isAgg29, Try.isAgg30, Try.isAgg34, Try.isAgg35, Try.isAgg36, Try.isAgg50, Try.isAgg84, Try.isAgg90, trivial⟩, ⟨Try.sizeOf3, Try.sizeOf4, Try.sizeOf5, Try.sizeOf9, Try.sizeOf24, Try.sizeOf27, Try.sizeOf29, Try.sizeOf30, Try.sizeOf34, Try.sizeOf35, Try.sizeOf38, Try.sizeOf50, Try.sizeOf52, Try.sizeOf63, Try.sizeOf84, Try.sizeOf86, trivial⟩⟩, ⟨⟨⟨_, _, Try.zeroValue3, rfl, rfl⟩, ⟨_, _, Try.zeroValue4, rfl, rfl⟩, ⟨_, _, Try.zeroValue5, rfl, rfl⟩, ⟨_, _, Try.zeroValue27, rfl, rfl⟩, ⟨_, _, Try.zeroValue29, rfl, rfl⟩, ⟨_, _, Try.zeroValue30, rfl, rfl⟩, ⟨_, _, Try.zeroValue35, rfl, rfl⟩, ⟨_, _, Try.zeroValue54, rfl, rfl⟩, ⟨_, _, Try.zeroValue63, rfl, rfl⟩, ⟨_, _, Try.zeroValue84, rfl, rfl⟩, ⟨_, _, Try.zeroValue86, rfl, rfl⟩, trivial⟩⟩, ⟨trivial, trivial, ⟨Try.call5, Try.call6, Try.call7, Try.call8, Try.call9, Try.call10, Try.call11, Try.call12, Try.call13, Try.call15, Try.call16, Try.call17, Try.call18, Try.call19, Try.call20, Try.call21, Try.call22, Try.call23, Try.call24, Try.call25, Try.call26, Try.call27, Try.call28, Try.call29, Try.call30, Try.call31, Try.call32, Try.call33, Try.call35, Try.call36, Try.call37, Try.call38, Try.call39, Try.call40, Try.call44, Try.call45, trivial⟩⟩, ⟨⟨⟨_, _, _, Try.typeInfo5, rfl, rfl, rfl, rfl, rfl, rfl⟩, ⟨_, _, _, Try.typeInfo35, rfl, rfl, rfl, rfl, rfl, rfl⟩, ⟨_, _, _, Try.typeInfo63, rfl, rfl, rfl, rfl, rfl, rfl⟩, trivial⟩⟩⟩
theorem hmix : Try.prog.follows .mixedOrders = true := by kernel_rfl
def fn37 (p0 : S_kinds_bound_int_) (p1 : Int) : Bool :=
 (decide (p0.flo ≤ p1)) && (decide (p1 ≤ p0.fhi))
theorem c37 (p0 : S_kinds_bound_int_) (p1 : Int) (r : Bool) (h : fn37 p0 p1 = r) : Con Try.prog 37 [.ag [.v (.int .i64 p0.flo), .v (.int .i64 p0.fhi)], .v (.int .i64 p1)] [] 0 (.v (.bool r)) [] 0 := by
 rw [fn37] at h
 refine Con.of_body Try.func37 rfl Try.ntmps37 rfl fun w F0 ρ => ?_
 refine RU tbOk false 999 13 [] aN (by rfl) ?_
 subst h
 exact RT tbOk.t Try.results37 [] (by rfl) (by rfl) (by rfl) rfl rfl
def fn18 (p0 : MSpec) : Int :=
 bif !(mhas (mput (mput (mput (mput (mput (mput (mput (mput ([] : List (Int × S_kinds_makes)) (1 : Int) (⟨(⟨4, 4⟩ : S_kinds_bound_int_), (⟨1, 1024⟩ : S_kinds_bound_int_), (⟨1, 1024⟩ : S_kinds_bound_int_)⟩ : S_kinds_makes)) (2 : Int) (⟨(⟨1, 64⟩ : S_kinds_bound_int_), (⟨1, 1024⟩ : S_kinds_bound_int_), (⟨1, 1024⟩ : S_kinds_bound_int_)⟩ : S_kinds_makes)) (3 : Int) (⟨(⟨1, 64⟩ : S_kinds_bound_int_), (⟨1, 1024⟩ : S_kinds_bound_int_), (⟨1, 1024⟩ : S_kinds_bound_int_)⟩ : S_kinds_makes)) (4 : Int) (⟨(⟨5, 36⟩ : S_kinds_bound_int_), (⟨1, 1024⟩ : S_kinds_bound_int_), (⟨1, 1024⟩ : S_kinds_bound_int_)⟩ : S_kinds_makes)) (5 : Int) (⟨(⟨0, 0⟩ : S_kinds_bound_int_), (⟨1, 1024⟩ : S_kinds_bound_int_), (⟨1, 1024⟩ : S_kinds_bound_int_)⟩ : S_kinds_makes)) (6 : Int) (⟨(⟨0, 0⟩ : S_kinds_bound_int_), (⟨1, 1024⟩ : S_kinds_bound_int_), (⟨1, 1024⟩ : S_kinds_bound_int_)⟩ : S_kinds_makes)) (7 : Int) (⟨(⟨0, 0⟩ : S_kinds_bound_int_), (⟨0, 0⟩ : S_kinds_bound_int_), (⟨16, 16384⟩ : S_kinds_bound_int_)⟩ : S_kinds_makes)) (8 : Int) (⟨(⟨4, 4⟩ : S_kinds_bound_int_), (⟨8, 8⟩ : S_kinds_bound_int_), (⟨1, 64⟩ : S_kinds_bound_int_)⟩ : S_kinds_makes)) p0.fKind) then (9) else (bif !(fn37 ((mget (mput (mput (mput (mput (mput (mput (mput (mput ([] : List (Int × S_kinds_makes)) (1 : Int) (⟨(⟨4, 4⟩ : S_kinds_bound_int_), (⟨1, 1024⟩ : S_kinds_bound_int_), (⟨1, 1024⟩ : S_kinds_bound_int_)⟩ : S_kinds_makes)) (2 : Int) (⟨(⟨1, 64⟩ : S_kinds_bound_int_), (⟨1, 1024⟩ : S_kinds_bound_int_), (⟨1, 1024⟩ : S_kinds_bound_int_)⟩ : S_kinds_makes)) (3 : Int) (⟨(⟨1, 64⟩ : S_kinds_bound_int_), (⟨1, 1024⟩ : S_kinds_bound_int_), (⟨1, 1024⟩ : S_kinds_bound_int_)⟩ : S_kinds_makes)) (4 : Int) (⟨(⟨5, 36⟩ : S_kinds_bound_int_), (⟨1, 1024⟩ : S_kinds_bound_int_), (⟨1, 1024⟩ : S_kinds_bound_int_)⟩ : S_kinds_makes)) (5 : Int) (⟨(⟨0, 0⟩ : S_kinds_bound_int_), (⟨1, 1024⟩ : S_kinds_bound_int_), (⟨1, 1024⟩ : S_kinds_bound_int_)⟩ : S_kinds_makes)) (6 : Int) (⟨(⟨0, 0⟩ : S_kinds_bound_int_), (⟨1, 1024⟩ : S_kinds_bound_int_), (⟨1, 1024⟩ : S_kinds_bound_int_)⟩ : S_kinds_makes)) (7 : Int) (⟨(⟨0, 0⟩ : S_kinds_bound_int_), (⟨0, 0⟩ : S_kinds_bound_int_), (⟨16, 16384⟩ : S_kinds_bound_int_)⟩ : S_kinds_makes)) (8 : Int) (⟨(⟨4, 4⟩ : S_kinds_bound_int_), (⟨8, 8⟩ : S_kinds_bound_int_), (⟨1, 64⟩ : S_kinds_bound_int_)⟩ : S_kinds_makes)) p0.fKind (⟨(⟨0, 0⟩ : S_kinds_bound_int_), (⟨0, 0⟩ : S_kinds_bound_int_), (⟨0, 0⟩ : S_kinds_bound_int_)⟩ : S_kinds_makes)).fkey) p0.fKey) then (2) else (bif !(fn37 ((mget (mput (mput (mput (mput (mput (mput (mput (mput ([] : List (Int × S_kinds_makes)) (1 : Int) (⟨(⟨4, 4⟩ : S_kinds_bound_int_), (⟨1, 1024⟩ : S_kinds_bound_int_), (⟨1, 1024⟩ : S_kinds_bound_int_)⟩ : S_kinds_makes)) (2 : Int) (⟨(⟨1, 64⟩ : S_kinds_bound_int_), (⟨1, 1024⟩ : S_kinds_bound_int_), (⟨1, 1024⟩ : S_kinds_bound_int_)⟩ : S_kinds_makes)) (3 : Int) (⟨(⟨1, 64⟩ : S_kinds_bound_int_), (⟨1, 1024⟩ : S_kinds_bound_int_), (⟨1, 1024⟩ : S_kinds_bound_int_)⟩ : S_kinds_makes)) (4 : Int) (⟨(⟨5, 36⟩ : S_kinds_bound_int_), (⟨1, 1024⟩ : S_kinds_bound_int_), (⟨1, 1024⟩ : S_kinds_bound_int_)⟩ : S_kinds_makes)) (5 : Int) (⟨(⟨0, 0⟩ : S_kinds_bound_int_), (⟨1, 1024⟩ : S_kinds_bound_int_), (⟨1, 1024⟩ : S_kinds_bound_int_)⟩ : S_kinds_makes)) (6 : Int) (⟨(⟨0, 0⟩ : S_kinds_bound_int_), (⟨1, 1024⟩ : S_kinds_bound_int_), (⟨1, 1024⟩ : S_kinds_bound_int_)⟩ : S_kinds_makes)) (7 : Int) (⟨(⟨0, 0⟩ : S_kinds_bound_int_), (⟨0, 0⟩ : S_kinds_bound_int_), (⟨16, 16384⟩ : S_kinds_bound_int_)⟩ : S_kinds_makes)) (8 : Int) (⟨(⟨4, 4⟩ : S_kinds_bound_int_), (⟨8, 8⟩ : S_kinds_bound_int_), (⟨1, 64⟩ : S_kinds_bound_int_)⟩ : S_kinds_makes)) p0.fKind (⟨(⟨0, 0⟩ : S_kinds_bound_int_), (⟨0, 0⟩ : S_kinds_bound_int_), (⟨0, 0⟩ : S_kinds_bound_int_)⟩ : S_kinds_makes)).fvalue) p0.fValue) then (2) else (bif !(fn37 ((mget (mput (mput (mput (mput (mput (mput (mput (mput ([] : List (Int × S_kinds_makes)) (1 : Int) (⟨(⟨4, 4⟩ : S_kinds_bound_int_), (⟨1, 1024⟩ : S_kinds_bound_int_), (⟨1, 1024⟩ : S_kinds_bound_int_)⟩ : S_kinds_makes)) (2 : Int) (⟨(⟨1, 64⟩ : S_kinds_bound_int_), (⟨1, 1024⟩ : S_kinds_bound_int_), (⟨1, 1024⟩ : S_kinds_bound_int_)⟩ : S_kinds_makes)) (3 : Int) (⟨(⟨1, 64⟩ : S_kinds_bound_int_), (⟨1, 1024⟩ : S_kinds_bound_int_), (⟨1, 1024⟩ : S_kinds_bound_int_)⟩ : S_kinds_makes)) (4 : Int) (⟨(⟨5, 36⟩ : S_kinds_bound_int_), (⟨1, 1024⟩ : S_kinds_bound_int_), (⟨1, 1024⟩ : S_kinds_bound_int_)⟩ : S_kinds_makes)) (5 : Int) (⟨(⟨0, 0⟩ : S_kinds_bound_int_), (⟨1, 1024⟩ : S_kinds_bound_int_), (⟨1, 1024⟩ : S_kinds_bound_int_)⟩ : S_kinds_makes)) (6 : Int) (⟨(⟨0, 0⟩ : S_kinds_bound_int_), (⟨1, 1024⟩ : S_kinds_bound_int_), (⟨1, 1024⟩ : S_kinds_bound_int_)⟩ : S_kinds_makes)) (7 : Int) (⟨(⟨0, 0⟩ : S_kinds_bound_int_), (⟨0, 0⟩ : S_kinds_bound_int_), (⟨16, 16384⟩ : S_kinds_bound_int_)⟩ : S_kinds_makes)) (8 : Int) (⟨(⟨4, 4⟩ : S_kinds_bound_int_), (⟨8, 8⟩ : S_kinds_bound_int_), (⟨1, 64⟩ : S_kinds_bound_int_)⟩ : S_kinds_makes)) p0.fKind (⟨(⟨0, 0⟩ : S_kinds_bound_int_), (⟨0, 0⟩ : S_kinds_bound_int_), (⟨0, 0⟩ : S_kinds_bound_int_)⟩ : S_kinds_makes)).fentries) p0.fEntries) then (2) else (0))))
theorem c18 (p0 : MSpec) (r : Int) (h : fn18 p0 = r) : Con Try.prog 18 [.ag [.v (.int .u8 p0.fKind), .v (.int .i64 p0.fKey), .v (.int .i64 p0.fValue), .v (.int .i64 p0.fEntries)]] [] 0 (.v (.int .i64 r)) [] 0 := by
 rw [fn18] at h
 refine Con.of_body Try.func18 rfl Try.ntmps18 rfl fun w F0 ρ => ?_
 refine RU tbOk false 999 65 [.mm (Kn.int .u8) (Vn.ag S_kinds_makes.E), .mu (Kn.int .u8) (Vn.ag S_kinds_makes.E) _ (1 : Int) (⟨(⟨4, 4⟩ : S_kinds_bound_int_), (⟨1, 1024⟩ : S_kinds_bound_int_), (⟨1, 1024⟩ : S_kinds_bound_int_)⟩ : S_kinds_makes) Try.runUnderlying88 Try.runUnderlying24, .mu (Kn.int .u8) (Vn.ag S_kinds_makes.E) _ (2 : Int) (⟨(⟨1, 64⟩ : S_kinds_bound_int_), (⟨1, 1024⟩ : S_kinds_bound_int_), (⟨1, 1024⟩ : S_kinds_bound_int_)⟩ : S_kinds_makes) Try.runUnderlying88 Try.runUnderlying24, .mu (Kn.int .u8) (Vn.ag S_kinds_makes.E) _ (3 : Int) (⟨(⟨1, 64⟩ : S_kinds_bound_int_), (⟨1, 1024⟩ : S_kinds_bound_int_), (⟨1, 1024⟩ : S_kinds_bound_int_)⟩ : S_kinds_makes) Try.runUnderlying88 Try.runUnderlying24, .mu (Kn.int .u8) (Vn.ag S_kinds_makes.E) _ (4 : Int) (⟨(⟨5, 36⟩ : S_kinds_bound_int_), (⟨1, 1024⟩ : S_kinds_bound_int_), (⟨1, 1024⟩ : S_kinds_bound_int_)⟩ : S_kinds_makes) Try.runUnderlying88 Try.runUnderlying24, .mu (Kn.int .u8) (Vn.ag S_kinds_makes.E) _ (5 : Int) (⟨(⟨0, 0⟩ : S_kinds_bound_int_), (⟨1, 1024⟩ : S_kinds_bound_int_), (⟨1, 1024⟩ : S_kinds_bound_int_)⟩ : S_kinds_makes) Try.runUnderlying88 Try.runUnderlying24, .mu (Kn.int .u8) (Vn.ag S_kinds_makes.E) _ (6 : Int) (⟨(⟨0, 0⟩ : S_kinds_bound_int_), (⟨1, 1024⟩ : S_kinds_bound_int_), (⟨1, 1024⟩ : S_kinds_bound_int_)⟩ : S_kinds_makes) Try.runUnderlying88 Try.runUnderlying24, .mu (Kn.int .u8) (Vn.ag S_kinds_makes.E) _ (7 : Int) (⟨(⟨0, 0⟩ : S_kinds_bound_int_), (⟨0, 0⟩ : S_kinds_bound_int_), (⟨16, 16384⟩ : S_kinds_bound_int_)⟩ : S_kinds_makes) Try.runUnderlying88 Try.runUnderlying24, .mu (Kn.int .u8) (Vn.ag S_kinds_makes.E) _ (8 : Int) (⟨(⟨4, 4⟩ : S_kinds_bound_int_), (⟨8, 8⟩ : S_kinds_bound_int_), (⟨1, 64⟩ : S_kinds_bound_int_)⟩ : S_kinds_makes) Try.runUnderlying88 Try.runUnderlying24, .lo (Kn.int .u8) (Vn.ag S_kinds_makes.E) _ p0.fKind (⟨(⟨0, 0⟩ : S_kinds_bound_int_), (⟨0, 0⟩ : S_kinds_bound_int_), (⟨0, 0⟩ : S_kinds_bound_int_)⟩ : S_kinds_makes) Try.runUnderlying88 Try.runUnderlying24 Try.zeroValue86] (aR (aR (aR (aR (aR (aR (aR (aR (aR (aR (aR (aR (aR (aR (aR (aR (aR (aR (aR (aR (aR (aR (aR (aR (aR (aR aN)))))))))))))))))))))))))) (by rfl) ?_
 refine CD h (by rfl) (fun h hb1 => ?_) (fun h hb1 => ?_)
 ·refine RU tbOk false 999 1 [] aN (by rfl) ?_
  subst h
  exact RT tbOk.t Try.results18 [] (by rfl) (by rfl) (by rfl) rfl rfl
 ·refine RU tbOk false 999 5 [.cl true [] (fun _ => c37 ((mget (mput (mput (mput (mput (mput (mput (mput (mput ([] : List (Int × S_kinds_makes)) (1 : Int) (⟨(⟨4, 4⟩ : S_kinds_bound_int_), (⟨1, 1024⟩ : S_kinds_bound_int_), (⟨1, 1024⟩ : S_kinds_bound_int_)⟩ : S_kinds_makes)) (2 : Int) (⟨(⟨1, 64⟩ : S_kinds_bound_int_), (⟨1, 1024⟩ : S_kinds_bound_int_), (⟨1, 1024⟩ : S_kinds_bound_int_)⟩ : S_kinds_makes)) (3 : Int) (⟨(⟨1, 64⟩ : S_kinds_bound_int_), (⟨1, 1024⟩ : S_kinds_bound_int_), (⟨1, 1024⟩ : S_kinds_bound_int_)⟩ : S_kinds_makes)) (4 : Int) (⟨(⟨5, 36⟩ : S_kinds_bound_int_), (⟨1, 1024⟩ : S_kinds_bound_int_), (⟨1, 1024⟩ : S_kinds_bound_int_)⟩ : S_kinds_makes)) (5 : Int) (⟨(⟨0, 0⟩ : S_kinds_bound_int_), (⟨1, 1024⟩ : S_kinds_bound_int_), (⟨1, 1024⟩ : S_kinds_bound_int_)⟩ : S_kinds_makes)) (6 : Int) (⟨(⟨0, 0⟩ : S_kinds_bound_int_), (⟨1, 1024⟩ : S_kinds_bound_int_), (⟨1, 1024⟩ : S_kinds_bound_int_)⟩ : S_kinds_makes)) (7 : Int) (⟨(⟨0, 0⟩ : S_kinds_bound_int_), (⟨0, 0⟩ : S_kinds_bound_int_), (⟨16, 16384⟩ : S_kinds_bound_int_)⟩ : S_kinds_makes)) (8 : Int) (⟨(⟨4, 4⟩ : S_kinds_bound_int_), (⟨8, 8⟩ : S_kinds_bound_int_), (⟨1, 64⟩ : S_kinds_bound_int_)⟩ : S_kinds_makes)) p0.fKind (⟨(⟨0, 0⟩ : S_kinds_bound_int_), (⟨0, 0⟩ : S_kinds_bound_int_), (⟨0, 0⟩ : S_kinds_bound_int_)⟩ : S_kinds_makes)).fkey) p0.fKey _ rfl)] (aK aN) (by rfl) ?_
  refine RU tbOk false 999 2 [] aN (by rfl) ?_
  refine CD h (by rfl) (fun h hb2 => ?_) (fun h hb2 => ?_)
  ·refine RU tbOk false 999 0 [] aN (by rfl) ?_
   refine CDT hb2 (by rfl) ?_
   refine RU tbOk false 999 1 [] aN (by rfl) ?_
   subst h
   exact RT tbOk.t Try.results18 [] (by rfl) (by rfl) (by rfl) rfl rfl
  ·refine RU tbOk false 999 5 [.cl true [] (fun _ => c37 ((mget (mput (mput (mput (mput (mput (mput (mput (mput ([] : List (Int × S_kinds_makes)) (1 : Int) (⟨(⟨4, 4⟩ : S_kinds_bound_int_), (⟨1, 1024⟩ : S_kinds_bound_int_), (⟨1, 1024⟩ : S_kinds_bound_int_)⟩ : S_kinds_makes)) (2 : Int) (⟨(⟨1, 64⟩ : S_kinds_bound_int_), (⟨1, 1024⟩ : S_kinds_bound_int_), (⟨1, 1024⟩ : S_kinds_bound_int_)⟩ : S_kinds_makes)) (3 : Int) (⟨(⟨1, 64⟩ : S_kinds_bound_int_), (⟨1, 1024⟩ : S_kinds_bound_int_), (⟨1, 1024⟩ : S_kinds_bound_int_)⟩ : S_kinds_makes)) (4 : Int) (⟨(⟨5, 36⟩ : S_kinds_bound_int_), (⟨1, 1024⟩ : S_kinds_bound_int_), (⟨1, 1024⟩ : S_kinds_bound_int_)⟩ : S_kinds_makes)) (5 : Int) (⟨(⟨0, 0⟩ : S_kinds_bound_int_), (⟨1, 1024⟩ : S_kinds_bound_int_), (⟨1, 1024⟩ : S_kinds_bound_int_)⟩ : S_kinds_makes)) (6 : Int) (⟨(⟨0, 0⟩ : S_kinds_bound_int_), (⟨1, 1024⟩ : S_kinds_bound_int_), (⟨1, 1024⟩ : S_kinds_bound_int_)⟩ : S_kinds_makes)) (7 : Int) (⟨(⟨0, 0⟩ : S_kinds_bound_int_), (⟨0, 0⟩ : S_kinds_bound_int_), (⟨16, 16384⟩ : S_kinds_bound_int_)⟩ : S_kinds_makes)) (8 : Int) (⟨(⟨4, 4⟩ : S_kinds_bound_int_), (⟨8, 8⟩ : S_kinds_bound_int_), (⟨1, 64⟩ : S_kinds_bound_int_)⟩ : S_kinds_makes)) p0.fKind (⟨(⟨0, 0⟩ : S_kinds_bound_int_), (⟨0, 0⟩ : S_kinds_bound_int_), (⟨0, 0⟩ : S_kinds_bound_int_)⟩ : S_kinds_makes)).fvalue) p0.fValue _ rfl)] (aK aN) (by rfl) ?_
   refine RU tbOk false 999 2 [] aN (by rfl) ?_
   refine CD h (by rfl) (fun h hb3 => ?_) (fun h hb3 => ?_)
   ·refine RU tbOk false 999 0 [] aN (by rfl) ?_
    refine CDT hb3 (by rfl) ?_
    refine RU tbOk false 999 1 [] aN (by rfl) ?_
    subst h
    exact RT tbOk.t Try.results18 [] (by rfl) (by rfl) (by rfl) rfl rfl
   ·refine RU tbOk false 999 5 [.cl true [] (fun _ => c37 ((mget (mput (mput (mput (mput (mput (mput (mput (mput ([] : List (Int × S_kinds_makes)) (1 : Int) (⟨(⟨4, 4⟩ : S_kinds_bound_int_), (⟨1, 1024⟩ : S_kinds_bound_int_), (⟨1, 1024⟩ : S_kinds_bound_int_)⟩ : S_kinds_makes)) (2 : Int) (⟨(⟨1, 64⟩ : S_kinds_bound_int_), (⟨1, 1024⟩ : S_kinds_bound_int_), (⟨1, 1024⟩ : S_kinds_bound_int_)⟩ : S_kinds_makes)) (3 : Int) (⟨(⟨1, 64⟩ : S_kinds_bound_int_), (⟨1, 1024⟩ : S_kinds_bound_int_), (⟨1, 1024⟩ : S_kinds_bound_int_)⟩ : S_kinds_makes)) (4 : Int) (⟨(⟨5, 36⟩ : S_kinds_bound_int_), (⟨1, 1024⟩ : S_kinds_bound_int_), (⟨1, 1024⟩ : S_kinds_bound_int_)⟩ : S_kinds_makes)) (5 : Int) (⟨(⟨0, 0⟩ : S_kinds_bound_int_), (⟨1, 1024⟩ : S_kinds_bound_int_), (⟨1, 1024⟩ : S_kinds_bound_int_)⟩ : S_kinds_makes)) (6 : Int) (⟨(⟨0, 0⟩ : S_kinds_bound_int_), (⟨1, 1024⟩ : S_kinds_bound_int_), (⟨1, 1024⟩ : S_kinds_bound_int_)⟩ : S_kinds_makes)) (7 : Int) (⟨(⟨0, 0⟩ : S_kinds_bound_int_), (⟨0, 0⟩ : S_kinds_bound_int_), (⟨16, 16384⟩ : S_kinds_bound_int_)⟩ : S_kinds_makes)) (8 : Int) (⟨(⟨4, 4⟩ : S_kinds_bound_int_), (⟨8, 8⟩ : S_kinds_bound_int_), (⟨1, 64⟩ : S_kinds_bound_int_)⟩ : S_kinds_makes)) p0.fKind (⟨(⟨0, 0⟩ : S_kinds_bound_int_), (⟨0, 0⟩ : S_kinds_bound_int_), (⟨0, 0⟩ : S_kinds_bound_int_)⟩ : S_kinds_makes)).fentries) p0.fEntries _ rfl)] (aK aN) (by rfl) ?_
    refine RU tbOk false 999 2 [] aN (by rfl) ?_
    refine CD h (by rfl) (fun h hb4 => ?_) (fun h hb4 => ?_)
    ·refine RU tbOk false 999 1 [] aN (by rfl) ?_
     subst h
     exact RT tbOk.t Try.results18 [] (by rfl) (by rfl) (by rfl) rfl rfl
    ·refine RU tbOk false 999 1 [] aN (by rfl) ?_
     subst h
     exact RT tbOk.t Try.results18 [] (by rfl) (by rfl) (by rfl) rfl rfl
def fn19 (p0 : Bool) (p1 : Int) : Option (Int ⊕ Unit) :=
 bif !p0 then (some ((.inl p1))) else (some ((.inr ())))
theorem c19 (p0 : Bool) (p1 : Int) (r : Int ⊕ Unit) (h : fn19 p0 p1 = some r) : ConO Try.prog 19 [.v (.bool p0), .v (.int .i64 p1)] [] 0 (match r with | .inl r => .pan (.iface 30 (.int .i64 r)) [] 0 | .inr r => .ret (.tu []) [] 0) := by
 rw [fn19] at h
 refine ConO.of_body Try.func19 Try.ntmps19 fun w F0 ρ => ?_
 refine RU tbOk false 999 2 [] aN (by rfl) ?_
 refine CD h (by rfl) (fun h hb1 => ?_) (fun h hb1 => ?_)
 ·refine RU tbOk false 999 2 [.mi] aN (by rfl) ?_
  refine PX_ ?_
  refine RU tbOk false 999 0 [] aN (by rfl) ?_
  have hr := Option.some.inj h
  subst hr
  exact TP_ []
 ·refine RU tbOk false 999 0 [] aN (by rfl) ?_
  have hr := Option.some.inj h
  subst hr
  exact TNO_ tbOk.t Try.results19 []
theorem c19_0 (p0 : Bool) (p1 : Int) (r : Int) (h : fn19 p0 p1 = some (.inl r)) : ConX Try.prog 19 [.v (.bool p0), .v (.int .i64 p1)] [] 0 (.iface 30 (.int .i64 r)) [] 0 := c19 p0 p1 _ h
theorem c19_1 (p0 : Bool) (p1 : Int) (r : Unit) (h : fn19 p0 p1 = some (.inr r)) : Con Try.prog 19 [.v (.bool p0), .v (.int .i64 p1)] [] 0 (.tu []) [] 0 := c19 p0 p1 _ h
def fn17_b1 (p0 : MSpec) (rl1 : (List HCell) → Int → Option ((List HCell))) (xs12 : List HCell) (x13 : Int) : Option ((List HCell)) :=
 bif decide (x13 < p0.fEntries) then (bif decide ((0 : Int) ≤ p0.fValue) && decide (p0.fValue ≤ p0.fValue) && decide ((1 : Int) * p0.fValue ≤ 281474976710656) && decide (p0.fValue ≤ 9223372036854775807) then (bif decide ((xs12.length + 1) * 32 ≤ 140737488355328 ∧ xs12.length + 1 ≤ 9223372036854775807) then (rl1 (xs12 ++ [(⟨false, List.replicate p0.fValue.toNat 0⟩ : HCell)]) (IntKind.i64.wrap (x13 + 1))) else none) else none) else (some xs12)
def fn17_l1 (p0 : MSpec) : Nat → (List HCell) → Int → Option ((List HCell))
 | 0, _, _ => none
 | n20 + 1, xs12, x13 => fn17_b1 p0 (fn17_l1 p0 n20) xs12 x13
theorem fn17_l1_s (p0 : MSpec) (n20 : Nat) (xs12 : List HCell) (x13 : Int) : fn17_l1 p0 (n20 + 1) xs12 x13 = fn17_b1 p0 (fn17_l1 p0 n20) xs12 x13 := rfl
def fn17_k1 (p0 : MSpec) (xs17 : List HCell) : Option ((Int ⊕ ((List HCell) × Int × Int × Int × Int × (List (ByteArray × Int))))) :=
 some ((.inr (xs17, p0.fKind, p0.fKey, p0.fValue, p0.fEntries, ([] : List (ByteArray × Int)))))
def fn17 (F : Nat) (p0 : MSpec) : Option (Int ⊕ ((List HCell) × Int × Int × Int × Int × (List (ByteArray × Int)))) :=
 frk2 (fn19 ((fn18 p0) == 0) (fn18 p0)) (fun v1 => some ((.inl v1))) (fun v3 => frk2 (fn19 (p0.fKind == 2) 9) (fun v5 => some ((.inl v5))) (fun v7 => Option.bind (fn17_l1 p0 F ([] : List HCell) 0) fun o18 => (fn17_k1 p0 o18)))
theorem c17 (F : Nat) (p0 : MSpec) (r : Int ⊕ ((List HCell) × Int × Int × Int × Int × (List (ByteArray × Int)))) (h : fn17 F p0 = some r) : ConO Try.prog 17 [.p 0 0] [(0, .cells 27 [.v (.int .u8 p0.fKind), .v (.int .i64 p0.fKey), .v (.int .i64 p0.fValue), .v (.int .i64 p0.fEntries)])] 1 (match r with | .inl r => .pan (.iface 30 (.int .i64 r)) [(0, .cells 27 [.v (.int .u8 p0.fKind), .v (.int .i64 p0.fKey), .v (.int .i64 p0.fValue), .v (.int .i64 p0.fEntries)])] 1 | .inr r => .ret (.p 1 0) [(0, .cells 27 [.v (.int .u8 p0.fKind), .v (.int .i64 p0.fKey), .v (.int .i64 p0.fValue), .v (.int .i64 p0.fEntries)]), (1, .cells 54 [.sl 2, .v (.int .u8 r.2.1), .v (.int .i64 r.2.2.1), .v (.int .i64 r.2.2.2.1), .v (.int .i64 r.2.2.2.2.1), .mp 3]), (2, .ex (pO HCell.D 63 r.1) []), (3, .omap Kn.str (Vn.int .i64) r.2.2.2.2.2)] 4) := by
 rw [fn17] at h
 refine ConO.of_body Try.func17 Try.ntmps17 fun w F0 ρ => ?_
 refine RU tbOk false 999 3 [.cl true [] (fun _ => c18 p0 _ rfl)] (aK aN) (by rfl) ?_
 refine RU tbOk false 999 4 [] aN (by rfl) ?_
 refine fk2 h (fun v1 hv2 h => ?_) (fun v3 hv4 h => ?_)
 ·refine RU tbOk false 999 0 [] aN (by rfl) ?_
  refine CX_ tbOk [] (c19_0 ((fn18 p0) == 0) (fn18 p0) v1 hv2) (aK aN) ?_
  refine RU tbOk false 999 0 [] aN (by rfl) ?_
  have hr := Option.some.inj h
  subst hr
  exact TP_ [0]
 ·refine RU tbOk false 999 1 [.cl true [] (fun _ => c19_1 ((fn18 p0) == 0) (fn18 p0) v3 hv4)] (aK aN) (by rfl) ?_
  refine RU tbOk false 999 3 [] aN (by rfl) ?_
  refine fk2 h (fun v5 hv6 h => ?_) (fun v7 hv8 h => ?_)
  ·refine RU tbOk false 999 0 [] aN (by rfl) ?_
   refine CX_ tbOk [] (c19_0 (p0.fKind == 2) 9 v5 hv6) (aK aN) ?_
   refine RU tbOk false 999 0 [] aN (by rfl) ?_
   have hr := Option.some.inj h
   subst hr
   exact TP_ [0]
  ·refine RU tbOk false 999 1 [.cl true [] (fun _ => c19_1 (p0.fKind == 2) 9 v7 hv8)] (aK aN) (by rfl) ?_
   refine RU tbOk false 999 8 [.mm Kn.str (Vn.int .i64)] aN (by rfl) ?_
   refine G4.imp (Imp.nilOC HCell.D 63 2 0 (by rfl) (by rfl) (by rfl)) ?_
   obtain ⟨o18, hl19, h⟩ := bd h
   refine CT 0 ⟨[(3, .p 2 0)], [(0, .cells 27 [.v (.int .u8 p0.fKind), .v (.int .i64 p0.fKey), .v (.int .i64 p0.fValue), .v (.int .i64 p0.fEntries)]), (1, .omap Kn.str (Vn.int .i64) ([] : List (ByteArray × Int))), (2, .cells 54 [.sl 3, .v (.int .u8 p0.fKind), .v (.int .i64 p0.fKey), .v (.int .i64 p0.fValue), .v (.int .i64 p0.fEntries), .mp 1]), (3, .ex (pO HCell.D 63 o18) [])], 4⟩ ?_ ?_
   ·have h022 := h
    clear h
    refine G4.imp (Imp.to [0, 1, 2, 3] (by rfl) (by rfl) rfl rfl) (LP (fun (n : Nat) (s : (List HCell) × Int) => fn17_l1 p0 n s.1 s.2) (fun (s : (List HCell) × Int) => ⟨[(0, .p 0 0), (3, .p 2 0), (19, .v (.int .i64 p0.fEntries)), (20, .v (.int .i64 s.2))], [(0, .cells 27 [.v (.int .u8 p0.fKind), .v (.int .i64 p0.fKey), .v (.int .i64 p0.fValue), .v (.int .i64 p0.fEntries)]), (1, .omap Kn.str (Vn.int .i64) ([] : List (ByteArray × Int))), (2, .cells 54 [.sl 3, .v (.int .u8 p0.fKind), .v (.int .i64 p0.fKey), .v (.int .i64 p0.fValue), .v (.int .i64 p0.fEntries), .mp 1]), (3, .ex (pO HCell.D 63 s.1) [])], 4⟩) (fun _ => rfl) (s0 := (([] : List HCell), 0)) hl19 ?_)
    clear hl19
    rintro R23 n20 ⟨xs12, x13⟩ h ih21
    replace h := (fn17_l1_s p0 n20 xs12 x13).symm.trans h
    rw [fn17_b1] at h
    refine RU tbOk false 999 1 [] aN (by rfl) ?_
    refine CD h (by rfl) (fun h hb24 => ?_) (fun h hb24 => ?_)
    ·refine RU tbOk false 999 0 [] aN (by rfl) ?_
     obtain ⟨hk25, h⟩ := ck h
     obtain ⟨hk26, h⟩ := ck h
     refine DR tbOk hmix [] [([], []), ([], []), ([], []), ([], []), ([], []), ([2], []), ([], []), ([0], []), ([], []), ([], []), ([], []), ([3, 4, 5, 6], []), ([], []), ([], []), ([], []), ([2], [2])] [.ms (Et.int .u8) 0, .s1, .ao HCell.D 63 _ (⟨false, []⟩ : HCell) _ _ _ 5 4 _] (aR (aR (aC hk25 (aR (aR (aR (aR (aR (aR (aC hk26 (aR aN))))))))))) (by rfl) ?_
     refine RU tbOk false 999 2 [] aN (by rfl) ?_
     exact ih21 (xs12 ++ [(⟨false, List.replicate p0.fValue.toNat 0⟩ : HCell)], IntKind.i64.wrap (x13 + 1)) h _ _ (Imp.to [0, 1, 2, 7] (by rfl) (by rfl) rfl rfl)
    ·refine RU tbOk false 999 0 [] aN (by rfl) ?_
     have ho := Option.some.inj h
     subst ho
     exact CE (Imp.to [0, 1, 2, 3] (by rfl) (by rfl) rfl rfl)
   ·change fn17_k1 p0 o18 = _ at h
    rw [fn17_k1] at h
    refine RU tbOk false 999 2 [] aN (by rfl) ?_
    have hr := Option.some.inj h
    subst hr
    exact TO_ tbOk.t Try.results17 [0, 2, 3, 1]
theorem c17_0 (F : Nat) (p0 : MSpec) (r : Int) (h : fn17 F p0 = some (.inl r)) : ConX Try.prog 17 [.p 0 0] [(0, .cells 27 [.v (.int .u8 p0.fKind), .v (.int .i64 p0.fKey), .v (.int .i64 p0.fValue), .v (.int .i64 p0.fEntries)])] 1 (.iface 30 (.int .i64 r)) [(0, .cells 27 [.v (.int .u8 p0.fKind), .v (.int .i64 p0.fKey), .v (.int .i64 p0.fValue), .v (.int .i64 p0.fEntries)])] 1 := c17 F p0 _ h
theorem c17_1 (F : Nat) (p0 : MSpec) (r : (List HCell) × Int × Int × Int × Int × (List (ByteArray × Int))) (h : fn17 F p0 = some (.inr r)) : Con Try.prog 17 [.p 0 0] [(0, .cells 27 [.v (.int .u8 p0.fKind), .v (.int .i64 p0.fKey), .v (.int .i64 p0.fValue), .v (.int .i64 p0.fEntries)])] 1 (.p 1 0) [(0, .cells 27 [.v (.int .u8 p0.fKind), .v (.int .i64 p0.fKey), .v (.int .i64 p0.fValue), .v (.int .i64 p0.fEntries)]), (1, .cells 54 [.sl 2, .v (.int .u8 r.2.1), .v (.int .i64 r.2.2.1), .v (.int .i64 r.2.2.2.1), .v (.int .i64 r.2.2.2.2.1), .mp 3]), (2, .ex (pO HCell.D 63 r.1) []), (3, .omap Kn.str (Vn.int .i64) r.2.2.2.2.2)] 4 := c17 F p0 _ h
def fn36 (p0 : Int) (pe : Int) : Int :=
 pe
theorem c36 (p0 : Int) (pe : Int) (r : Int) (h : fn36 p0 pe = r) : ConD Try.prog 36 [.p 0 0, .p 1 0] [(0, .cells 30 [.v (.int .i64 p0)]), (1, .cells 29 [.v (.pointer none)])] 2 (.pan (.iface 30 (.int .i64 pe))) [(0, .cells 30 [.v (.int .i64 r)]), (1, .cells 29 [.v (.pointer none)])] 2 := by
 rw [fn36] at h
 refine ConD.of_body Try.func36 Try.ntmps36 fun w F0 ρ => ?_
 refine RU tbOk false 999 2 [.ni] aN (by rfl) ?_
 refine CDT rfl (by rfl) ?_
 refine RU tbOk false 999 10 [.ta] aN (by rfl) ?_
 refine CDF rfl (by rfl) ?_
 refine RU tbOk false 999 3 [] aN (by rfl) ?_
 subst h
 exact TQN_ Try.results36 [0, 1]
def fn36v1 (p0 : Int) (p1_0_0 : List HCell) (p1_0_1 : Int) (p1_0_2 : Int) (p1_0_3 : Int) (p1_0_4 : Int) (p1_0_5 : List (ByteArray × Int)) : Unit :=
 ()
theorem c36v1 (p0 : Int) (p1_0_0 : List HCell) (p1_0_1 : Int) (p1_0_2 : Int) (p1_0_3 : Int) (p1_0_4 : Int) (p1_0_5 : List (ByteArray × Int)) (r : Unit) (h : fn36v1 p0 p1_0_0 p1_0_1 p1_0_2 p1_0_3 p1_0_4 p1_0_5 = r) : ConD Try.prog 36 [.p 0 0, .p 1 0] [(0, .cells 30 [.v (.int .i64 p0)]), (1, .cells 29 [.p 2 0]), (2, .cells 54 [.sl 3, .v (.int .u8 p1_0_1), .v (.int .i64 p1_0_2), .v (.int .i64 p1_0_3), .v (.int .i64 p1_0_4), .mp 4]), (3, .ex (pO HCell.D 63 p1_0_0) []), (4, .omap Kn.str (Vn.int .i64) p1_0_5)] 5 .ret [(0, .cells 30 [.v (.int .i64 p0)]), (1, .cells 29 [.p 2 0]), (2, .cells 54 [.sl 3, .v (.int .u8 p1_0_1), .v (.int .i64 p1_0_2), .v (.int .i64 p1_0_3), .v (.int .i64 p1_0_4), .mp 4]), (3, .ex (pO HCell.D 63 p1_0_0) []), (4, .omap Kn.str (Vn.int .i64) p1_0_5)] 5 := by
 rw [fn36v1] at h
 refine ConD.of_body Try.func36 Try.ntmps36 fun w F0 ρ => ?_
 refine RU tbOk false 999 2 [.ni] aN (by rfl) ?_
 refine CDF rfl (by rfl) ?_
 refine RU tbOk false 999 0 [] aN (by rfl) ?_
 subst h
 exact TQN_ Try.results36 [0, 1, 2, 3, 4]
def fn16 (F : Nat) (p0c0 : MSpec) : Option (Int ⊕ ((List HCell) × Int × Int × Int × Int × (List (ByteArray × Int)) × Int)) :=
 frk2 (fn17 F p0c0) (fun v2 => some ((.inl (fn36 0 v2)))) (fun v4 => some ((.inr (v4.1, v4.2.1, v4.2.2.1, v4.2.2.2.1, v4.2.2.2.2.1, v4.2.2.2.2.2, 0))))
theorem c16 (F : Nat) (p0c0 : MSpec) (r : Int ⊕ ((List HCell) × Int × Int × Int × Int × (List (ByteArray × Int)) × Int)) (h : fn16 F p0c0 = some r) : ConO Try.prog 16 [.fn (.func 17) [] [.p 0 0]] [(0, .cells 27 [.v (.int .u8 p0c0.fKind), .v (.int .i64 p0c0.fKey), .v (.int .i64 p0c0.fValue), .v (.int .i64 p0c0.fEntries)])] 1 (match r with | .inl r => .ret (.tu [.v (.pointer none), .v (.int .i64 r)]) [(0, .cells 27 [.v (.int .u8 p0c0.fKind), .v (.int .i64 p0c0.fKey), .v (.int .i64 p0c0.fValue), .v (.int .i64 p0c0.fEntries)])] 1 | .inr r => .ret (.tu [.p 1 0, .v (.int .i64 r.2.2.2.2.2.2)]) [(0, .cells 27 [.v (.int .u8 p0c0.fKind), .v (.int .i64 p0c0.fKey), .v (.int .i64 p0c0.fValue), .v (.int .i64 p0c0.fEntries)]), (1, .cells 54 [.sl 2, .v (.int .u8 r.2.1), .v (.int .i64 r.2.2.1), .v (.int .i64 r.2.2.2.1), .v (.int .i64 r.2.2.2.2.1), .mp 3]), (2, .ex (pO HCell.D 63 r.1) []), (3, .omap Kn.str (Vn.int .i64) r.2.2.2.2.2.1)] 4) := by
 rw [fn16] at h
 refine ConO.of_body Try.func16 Try.ntmps16 fun w F0 ρ => ?_
 refine RU tbOk false 999 3 [] aN (by rfl) ?_
 refine DF_ (fun vs1 => ?_)
 refine RU tbOk false 999 1 [] aN (by rfl) ?_
 refine fk2 h (fun v2 hv3 h => ?_) (fun v4 hv5 h => ?_)
 ·refine RU tbOk false 999 0 [] aN (by rfl) ?_
  refine CX_ tbOk [0] (c17_0 F p0c0 v2 hv3) (aK aN) ?_
  refine RU tbOk false 999 0 [] aN (by rfl) ?_
  have hr := Option.some.inj h
  subst hr
  exact TDP_ tbOk Try.results16 3 [2, 1] (c36 0 v2 _ rfl) [0]
 ·refine RU tbOk false 999 1 [.cl true [0] (fun _ => c17_1 F p0c0 v4 hv5)] (aK aN) (by rfl) ?_
  refine RU tbOk false 999 2 [] aN (by rfl) ?_
  have hr := Option.some.inj h
  subst hr
  exact TD_ tbOk Try.results16 3 [2, 1, 4, 5, 6] (c36v1 0 v4.1 v4.2.1 v4.2.2.1 v4.2.2.2.1 v4.2.2.2.2.1 v4.2.2.2.2.2 _ rfl) [0, 4, 5, 6]
theorem c16_0 (F : Nat) (p0c0 : MSpec) (r : Int) (h : fn16 F p0c0 = some (.inl r)) : Con Try.prog 16 [.fn (.func 17) [] [.p 0 0]] [(0, .cells 27 [.v (.int .u8 p0c0.fKind), .v (.int .i64 p0c0.fKey), .v (.int .i64 p0c0.fValue), .v (.int .i64 p0c0.fEntries)])] 1 (.tu [.v (.pointer none), .v (.int .i64 r)]) [(0, .cells 27 [.v (.int .u8 p0c0.fKind), .v (.int .i64 p0c0.fKey), .v (.int .i64 p0c0.fValue), .v (.int .i64 p0c0.fEntries)])] 1 := c16 F p0c0 _ h
theorem c16_1 (F : Nat) (p0c0 : MSpec) (r : (List HCell) × Int × Int × Int × Int × (List (ByteArray × Int)) × Int) (h : fn16 F p0c0 = some (.inr r)) : Con Try.prog 16 [.fn (.func 17) [] [.p 0 0]] [(0, .cells 27 [.v (.int .u8 p0c0.fKind), .v (.int .i64 p0c0.fKey), .v (.int .i64 p0c0.fValue), .v (.int .i64 p0c0.fEntries)])] 1 (.tu [.p 1 0, .v (.int .i64 r.2.2.2.2.2.2)]) [(0, .cells 27 [.v (.int .u8 p0c0.fKind), .v (.int .i64 p0c0.fKey), .v (.int .i64 p0c0.fValue), .v (.int .i64 p0c0.fEntries)]), (1, .cells 54 [.sl 2, .v (.int .u8 r.2.1), .v (.int .i64 r.2.2.1), .v (.int .i64 r.2.2.2.1), .v (.int .i64 r.2.2.2.2.1), .mp 3]), (2, .ex (pO HCell.D 63 r.1) []), (3, .omap Kn.str (Vn.int .i64) r.2.2.2.2.2.1)] 4 := c16 F p0c0 _ h
def fn8 (F : Nat) (p0 : MSpec) : Option (Int ⊕ ((List HCell) × Int × Int × Int × Int × (List (ByteArray × Int)) × Int)) :=
 frk2 (fn16 F p0) (fun v1 => some ((.inl v1))) (fun v3 => some ((.inr (v3.1, v3.2.1, v3.2.2.1, v3.2.2.2.1, v3.2.2.2.2.1, v3.2.2.2.2.2.1, v3.2.2.2.2.2.2))))
theorem c8 (F : Nat) (p0 : MSpec) (r : Int ⊕ ((List HCell) × Int × Int × Int × Int × (List (ByteArray × Int)) × Int)) (h : fn8 F p0 = some r) : ConO Try.prog 8 [.ag [.v (.int .u8 p0.fKind), .v (.int .i64 p0.fKey), .v (.int .i64 p0.fValue), .v (.int .i64 p0.fEntries)]] [] 0 (match r with | .inl r => .ret (.tu [.v (.pointer none), .v (.int .i64 r)]) [] 0 | .inr r => .ret (.tu [.p 0 0, .v (.int .i64 r.2.2.2.2.2.2)]) [(0, .cells 54 [.sl 1, .v (.int .u8 r.2.1), .v (.int .i64 r.2.2.1), .v (.int .i64 r.2.2.2.1), .v (.int .i64 r.2.2.2.2.1), .mp 2]), (1, .ex (pO HCell.D 63 r.1) []), (2, .omap Kn.str (Vn.int .i64) r.2.2.2.2.2.1)] 3) := by
 rw [fn8] at h
 refine ConO.of_body Try.func8 Try.ntmps8 fun w F0 ρ => ?_
 refine RU tbOk false 999 4 [] aN (by rfl) ?_
 refine fk2 h (fun v1 hv2 h => ?_) (fun v3 hv4 h => ?_)
 ·refine RU tbOk false 999 1 [.cl true [0] (fun _ => c16_0 F p0 v1 hv2)] (aK aN) (by rfl) ?_
  refine RU tbOk false 999 4 [] aN (by rfl) ?_
  have hr := Option.some.inj h
  subst hr
  exact TO_ tbOk.t Try.results8 []
 ·refine RU tbOk false 999 1 [.cl true [0] (fun _ => c16_1 F p0 v3 hv4)] (aK aN) (by rfl) ?_
  refine RU tbOk false 999 4 [] aN (by rfl) ?_
  have hr := Option.some.inj h
  subst hr
  exact TO_ tbOk.t Try.results8 [1, 2, 3]
theorem c8_0 (F : Nat) (p0 : MSpec) (r : Int) (h : fn8 F p0 = some (.inl r)) : Con Try.prog 8 [.ag [.v (.int .u8 p0.fKind), .v (.int .i64 p0.fKey), .v (.int .i64 p0.fValue), .v (.int .i64 p0.fEntries)]] [] 0 (.tu [.v (.pointer none), .v (.int .i64 r)]) [] 0 := c8 F p0 _ h
theorem c8_1 (F : Nat) (p0 : MSpec) (r : (List HCell) × Int × Int × Int × Int × (List (ByteArray × Int)) × Int) (h : fn8 F p0 = some (.inr r)) : Con Try.prog 8 [.ag [.v (.int .u8 p0.fKind), .v (.int .i64 p0.fKey), .v (.int .i64 p0.fValue), .v (.int .i64 p0.fEntries)]] [] 0 (.tu [.p 0 0, .v (.int .i64 r.2.2.2.2.2.2)]) [(0, .cells 54 [.sl 1, .v (.int .u8 r.2.1), .v (.int .i64 r.2.2.1), .v (.int .i64 r.2.2.2.1), .v (.int .i64 r.2.2.2.2.1), .mp 2]), (1, .ex (pO HCell.D 63 r.1) []), (2, .omap Kn.str (Vn.int .i64) r.2.2.2.2.2.1)] 3 := c8 F p0 _ h
def fn19v1 (p1 : Int) : Option (Int) :=
 some (p1)
theorem c19v1 (p1 : Int) (r : Int) (h : fn19v1 p1 = some r) : ConO Try.prog 19 [.v (.bool false), .v (.int .i64 p1)] [] 0 (.pan (.iface 30 (.int .i64 r)) [] 0) := by
 rw [fn19v1] at h
 refine ConO.of_body Try.func19 Try.ntmps19 fun w F0 ρ => ?_
 refine RU tbOk false 999 2 [] aN (by rfl) ?_
 refine CDT rfl (by rfl) ?_
 refine RU tbOk false 999 2 [.mi] aN (by rfl) ?_
 refine PX_ ?_
 refine RU tbOk false 999 0 [] aN (by rfl) ?_
 have hr := Option.some.inj h
 subst hr
 exact TP_ []
theorem c19v1_0 (p1 : Int) (r : Int) (h : fn19v1 p1 = some r) : ConX Try.prog 19 [.v (.bool false), .v (.int .i64 p1)] [] 0 (.iface 30 (.int .i64 r)) [] 0 := c19v1 p1 _ h
def fn32 : Option (Int) :=
 frk1 (fn19v1 1) (fun v1 => some (v1))
theorem c32 (r : Int) (h : fn32 = some r) : ConO Try.prog 32 [.v (.pointer none)] [] 0 (.pan (.iface 30 (.int .i64 r)) [] 0) := by
 rw [fn32] at h
 refine ConO.of_body Try.func32 Try.ntmps32 fun w F0 ρ => ?_
 refine RU (tbOk.lit [(3, 4, false)]) false 999 9 [.pn] (aC rfl aN) (by rfl) ?_
 refine fk1 h (fun v1 hv2 h => ?_)
 ·refine RU tbOk false 999 0 [] aN (by rfl) ?_
  refine G4.imp Imp.refl ?_
  refine CX_ tbOk [] (c19v1_0 1 v1 hv2) (aK aN) ?_
  refine RU tbOk false 999 0 [] aN (by rfl) ?_
  have hr := Option.some.inj h
  subst hr
  exact TP_ []
theorem c32_0 (r : Int) (h : fn32 = some r) : ConX Try.prog 32 [.v (.pointer none)] [] 0 (.iface 30 (.int .i64 r)) [] 0 := c32 _ h
def fn22 (p1 : List Int) : Option (Int) :=
 frk1 fn32 (fun v1 => some (v1))
theorem c22 (p1 : List Int) (r : Int) (h : fn22 p1 = some r) : ConO Try.prog 22 [.v (.pointer none), .sl 0] [(0, .rd (Et.int .u8) p1)] 1 (.pan (.iface 30 (.int .i64 r)) [] 1) := by
 rw [fn22] at h
 refine ConO.of_body Try.func22 Try.ntmps22 fun w F0 ρ => ?_
 refine RU tbOk false 999 3 [] aN (by rfl) ?_
 refine fk1 h (fun v1 hv2 h => ?_)
 ·refine RU tbOk false 999 0 [] aN (by rfl) ?_
  refine CX_ tbOk [] (c32_0 v1 hv2) (aK aN) ?_
  refine RU tbOk false 999 0 [] aN (by rfl) ?_
  have hr := Option.some.inj h
  subst hr
  exact TP_ [0]
theorem c22_0 (p1 : List Int) (r : Int) (h : fn22 p1 = some r) : ConX Try.prog 22 [.v (.pointer none), .sl 0] [(0, .rd (Et.int .u8) p1)] 1 (.iface 30 (.int .i64 r)) [] 1 := c22 p1 _ h
def fn25 (p1 : List Int) (p2 : List Int) (p3 : Int) : Option (Int) :=
 frk1 (fn22 p1) (fun v1 => some (v1))
theorem c25 (p1 : List Int) (p2 : List Int) (p3 : Int) (r : Int) (h : fn25 p1 p2 p3 = some r) : ConO Try.prog 25 [.p 0 0, .p 1 0, .p 3 0, .p 5 0] [(0, .cells 29 [.v (.pointer none)]), (1, .cells 35 [.sl 2]), (2, .rd (Et.int .u8) p1), (3, .cells 35 [.sl 4]), (4, .rd (Et.int .u8) p2), (5, .cells 36 [.v (.int .u64 p3)])] 6 (.pan (.iface 30 (.int .i64 r)) [(0, .cells 29 [.v (.pointer none)]), (1, .cells 35 [.sl 2]), (3, .cells 35 [.sl 4]), (5, .cells 36 [.v (.int .u64 p3)])] 6) := by
 rw [fn25] at h
 refine ConO.of_body Try.func25 Try.ntmps25 fun w F0 ρ => ?_
 refine RU tbOk false 999 3 [] aN (by rfl) ?_
 refine fk1 h (fun v1 hv2 h => ?_)
 ·refine RU tbOk false 999 0 [] aN (by rfl) ?_
  refine CX_ tbOk [2] (c22_0 p1 v1 hv2) (aK aN) ?_
  refine RU tbOk false 999 0 [] aN (by rfl) ?_
  have hr := Option.some.inj h
  subst hr
  exact TP_ [0, 1, 2, 3, 4, 5]
theorem c25_0 (p1 : List Int) (p2 : List Int) (p3 : Int) (r : Int) (h : fn25 p1 p2 p3 = some r) : ConX Try.prog 25 [.p 0 0, .p 1 0, .p 3 0, .p 5 0] [(0, .cells 29 [.v (.pointer none)]), (1, .cells 35 [.sl 2]), (2, .rd (Et.int .u8) p1), (3, .cells 35 [.sl 4]), (4, .rd (Et.int .u8) p2), (5, .cells 36 [.v (.int .u64 p3)])] 6 (.iface 30 (.int .i64 r)) [(0, .cells 29 [.v (.pointer none)]), (1, .cells 35 [.sl 2]), (3, .cells 35 [.sl 4]), (5, .cells 36 [.v (.int .u64 p3)])] 6 := c25 p1 p2 p3 _ h
def fn39 (p0 : Int) (p1 : Int) (pe : Int) : Int × Int :=
 (pe, 0)
theorem c39 (p0 : Int) (p1 : Int) (pe : Int) (r : Int × Int) (h : fn39 p0 p1 pe = r) : ConD Try.prog 39 [.p 0 0, .p 1 0] [(0, .cells 30 [.v (.int .i64 p0)]), (1, .cells 3 [.v (.int .i64 p1)])] 2 (.pan (.iface 30 (.int .i64 pe))) [(0, .cells 30 [.v (.int .i64 r.1)]), (1, .cells 3 [.v (.int .i64 r.2)])] 2 := by
 rw [fn39] at h
 refine ConD.of_body Try.func39 Try.ntmps39 fun w F0 ρ => ?_
 refine RU tbOk false 999 2 [.ni] aN (by rfl) ?_
 refine CDT rfl (by rfl) ?_
 refine RU tbOk false 999 10 [.ta] aN (by rfl) ?_
 refine CDF rfl (by rfl) ?_
 refine RU tbOk false 999 3 [] aN (by rfl) ?_
 subst h
 exact TQN_ Try.results39 [0, 1]
def fn24 (p0c1 : List Int) (p0c2 : List Int) (p0c3 : Int) : Option (Int × Int) :=
 frk1 (fn25 p0c1 p0c2 p0c3) (fun v2 => some (((fn39 0 0 v2).2, (fn39 0 0 v2).1)))
theorem c24 (p0c1 : List Int) (p0c2 : List Int) (p0c3 : Int) (r : Int × Int) (h : fn24 p0c1 p0c2 p0c3 = some r) : ConO Try.prog 24 [.fn (.func 25) [] [.p 0 0, .p 1 0, .p 3 0, .p 5 0]] [(0, .cells 29 [.v (.pointer none)]), (1, .cells 35 [.sl 2]), (2, .rd (Et.int .u8) p0c1), (3, .cells 35 [.sl 4]), (4, .rd (Et.int .u8) p0c2), (5, .cells 36 [.v (.int .u64 p0c3)])] 6 (.ret (.tu [.v (.int .i64 r.1), .v (.int .i64 r.2)]) [(0, .cells 29 [.v (.pointer none)]), (1, .cells 35 [.sl 2]), (3, .cells 35 [.sl 4]), (5, .cells 36 [.v (.int .u64 p0c3)])] 6) := by
 rw [fn24] at h
 refine ConO.of_body Try.func24 Try.ntmps24 fun w F0 ρ => ?_
 refine RU tbOk false 999 3 [] aN (by rfl) ?_
 refine DF_ (fun vs1 => ?_)
 refine RU tbOk false 999 1 [] aN (by rfl) ?_
 refine fk1 h (fun v2 hv3 h => ?_)
 ·refine RU tbOk false 999 0 [] aN (by rfl) ?_
  refine CX_ tbOk [0, 1, 2, 3, 4, 5] (c25_0 p0c1 p0c2 p0c3 v2 hv3) (aK aN) ?_
  refine RU tbOk false 999 0 [] aN (by rfl) ?_
  have hr := Option.some.inj h
  subst hr
  exact TDP_ tbOk Try.results24 8 [7, 6] (c39 0 0 v2 _ rfl) [0, 1, 2, 3, 4, 5]
theorem c24_0 (p0c1 : List Int) (p0c2 : List Int) (p0c3 : Int) (r : Int × Int) (h : fn24 p0c1 p0c2 p0c3 = some r) : Con Try.prog 24 [.fn (.func 25) [] [.p 0 0, .p 1 0, .p 3 0, .p 5 0]] [(0, .cells 29 [.v (.pointer none)]), (1, .cells 35 [.sl 2]), (2, .rd (Et.int .u8) p0c1), (3, .cells 35 [.sl 4]), (4, .rd (Et.int .u8) p0c2), (5, .cells 36 [.v (.int .u64 p0c3)])] 6 (.tu [.v (.int .i64 r.1), .v (.int .i64 r.2)]) [(0, .cells 29 [.v (.pointer none)]), (1, .cells 35 [.sl 2]), (3, .cells 35 [.sl 4]), (5, .cells 36 [.v (.int .u64 p0c3)])] 6 := c24 p0c1 p0c2 p0c3 _ h
def fn10 (p1 : List Int) (p2 : List Int) (p3 : Int) : Option (Int) :=
 frk1 (fn24 p1 p2 p3) (fun v1 => some (v1.2))
theorem c10 (p1 : List Int) (p2 : List Int) (p3 : Int) (r : Int) (h : fn10 p1 p2 p3 = some r) : Con Try.prog 10 [.v (.pointer none), .sl 0, .sl 1, .v (.int .u64 p3)] [(0, .rd (Et.int .u8) p1), (1, .rd (Et.int .u8) p2)] 2 (.v (.int .i64 r)) [] 2 := by
 rw [fn10] at h
 refine Con.of_body Try.func10 rfl Try.ntmps10 rfl fun w F0 ρ => ?_
 refine RU tbOk false 999 6 [] aN (by rfl) ?_
 refine fk1 h (fun v1 hv2 h => ?_)
 ·refine RU tbOk false 999 1 [.cl true [2, 3, 0, 4, 1, 5] (fun _ => c24_0 p1 p2 p3 v1 hv2)] (aK aN) (by rfl) ?_
  refine RU tbOk false 999 7 [] aN (by rfl) ?_
  have hr := Option.some.inj h
  subst hr
  exact RT tbOk.t Try.results10 [0, 1] (by rfl) (by rfl) (by rfl) rfl rfl
def fn27 (p1 : List Int) : Option (Int) :=
 frk1 (fn22 p1) (fun v1 => some (v1))
theorem c27 (p1 : List Int) (r : Int) (h : fn27 p1 = some r) : ConO Try.prog 27 [.p 0 0, .p 1 0] [(0, .cells 29 [.v (.pointer none)]), (1, .cells 35 [.sl 2]), (2, .rd (Et.int .u8) p1)] 3 (.pan (.iface 30 (.int .i64 r)) [(0, .cells 29 [.v (.pointer none)]), (1, .cells 35 [.sl 2])] 3) := by
 rw [fn27] at h
 refine ConO.of_body Try.func27 Try.ntmps27 fun w F0 ρ => ?_
 refine RU tbOk false 999 3 [] aN (by rfl) ?_
 refine fk1 h (fun v1 hv2 h => ?_)
 ·refine RU tbOk false 999 0 [] aN (by rfl) ?_
  refine CX_ tbOk [2] (c22_0 p1 v1 hv2) (aK aN) ?_
  refine RU tbOk false 999 0 [] aN (by rfl) ?_
  have hr := Option.some.inj h
  subst hr
  exact TP_ [0, 1, 2]
theorem c27_0 (p1 : List Int) (r : Int) (h : fn27 p1 = some r) : ConX Try.prog 27 [.p 0 0, .p 1 0] [(0, .cells 29 [.v (.pointer none)]), (1, .cells 35 [.sl 2]), (2, .rd (Et.int .u8) p1)] 3 (.iface 30 (.int .i64 r)) [(0, .cells 29 [.v (.pointer none)]), (1, .cells 35 [.sl 2])] 3 := c27 p1 _ h
def fn24v1 (p0c1 : List Int) : Option (Int × Int) :=
 frk1 (fn27 p0c1) (fun v2 => some (((fn39 0 0 v2).2, (fn39 0 0 v2).1)))
theorem c24v1 (p0c1 : List Int) (r : Int × Int) (h : fn24v1 p0c1 = some r) : ConO Try.prog 24 [.fn (.func 27) [] [.p 0 0, .p 1 0]] [(0, .cells 29 [.v (.pointer none)]), (1, .cells 35 [.sl 2]), (2, .rd (Et.int .u8) p0c1)] 3 (.ret (.tu [.v (.int .i64 r.1), .v (.int .i64 r.2)]) [(0, .cells 29 [.v (.pointer none)]), (1, .cells 35 [.sl 2])] 3) := by
 rw [fn24v1] at h
 refine ConO.of_body Try.func24 Try.ntmps24 fun w F0 ρ => ?_
 refine RU tbOk false 999 3 [] aN (by rfl) ?_
 refine DF_ (fun vs1 => ?_)
 refine RU tbOk false 999 1 [] aN (by rfl) ?_
 refine fk1 h (fun v2 hv3 h => ?_)
 ·refine RU tbOk false 999 0 [] aN (by rfl) ?_
  refine CX_ tbOk [0, 1, 2] (c27_0 p0c1 v2 hv3) (aK aN) ?_
  refine RU tbOk false 999 0 [] aN (by rfl) ?_
  have hr := Option.some.inj h
  subst hr
  exact TDP_ tbOk Try.results24 5 [4, 3] (c39 0 0 v2 _ rfl) [0, 1, 2]
theorem c24v1_0 (p0c1 : List Int) (r : Int × Int) (h : fn24v1 p0c1 = some r) : Con Try.prog 24 [.fn (.func 27) [] [.p 0 0, .p 1 0]] [(0, .cells 29 [.v (.pointer none)]), (1, .cells 35 [.sl 2]), (2, .rd (Et.int .u8) p0c1)] 3 (.tu [.v (.int .i64 r.1), .v (.int .i64 r.2)]) [(0, .cells 29 [.v (.pointer none)]), (1, .cells 35 [.sl 2])] 3 := c24v1 p0c1 _ h
def fn11 (p1 : List Int) : Option (Int × Int) :=
 frk1 (fn24v1 p1) (fun v1 => some ((v1.1, v1.2)))
theorem c11 (p1 : List Int) (r : Int × Int) (h : fn11 p1 = some r) : Con Try.prog 11 [.v (.pointer none), .sl 0] [(0, .rd (Et.int .u8) p1)] 1 (.tu [.v (.int .i64 r.1), .v (.int .i64 r.2)]) [] 1 := by
 rw [fn11] at h
 refine Con.of_body Try.func11 rfl Try.ntmps11 rfl fun w F0 ρ => ?_
 refine RU tbOk false 999 5 [] aN (by rfl) ?_
 refine fk1 h (fun v1 hv2 h => ?_)
 ·refine RU tbOk false 999 1 [.cl true [1, 2, 0] (fun _ => c24v1_0 p1 v1 hv2)] (aK aN) (by rfl) ?_
  refine RU tbOk false 999 4 [] aN (by rfl) ?_
  have hr := Option.some.inj h
  subst hr
  exact RT tbOk.t Try.results11 [0] (by rfl) (by rfl) (by rfl) rfl rfl
def fn12 : (List (List Int)) :=
 ([] : List (List Int))
theorem c12 (r : (List (List Int))) (h : fn12 = r) : Con Try.prog 12 [.v (.pointer none)] [] 0 (.sl 0) [(0, .rowL (Et.int .u8) 5 35 r r.length)] 1 := by
 rw [fn12] at h
 refine Con.of_body Try.func12 rfl Try.ntmps12 rfl fun w F0 ρ => ?_
 refine RU tbOk false 999 3 [.pn] aN (by rfl) ?_
 refine CDT rfl (by rfl) ?_
 refine RU tbOk false 999 1 [] aN (by rfl) ?_
 subst h
 refine G4.imp (Imp.nilL (Et.int .u8) 5 35 2 (by rfl)) ?_
 exact RT tbOk.t Try.results12 [0] (by rfl) (by rfl) (by rfl) rfl rfl
def fn21 (p1 : List Int) : Option (Int) :=
 frk1 (fn22 p1) (fun v1 => some (v1))
theorem c21 (p1 : List Int) (r : Int) (h : fn21 p1 = some r) : ConO Try.prog 21 [.p 0 0, .p 1 0] [(0, .cells 29 [.v (.pointer none)]), (1, .cells 35 [.sl 2]), (2, .rd (Et.int .u8) p1)] 3 (.pan (.iface 30 (.int .i64 r)) [(0, .cells 29 [.v (.pointer none)]), (1, .cells 35 [.sl 2])] 3) := by
 rw [fn21] at h
 refine ConO.of_body Try.func21 Try.ntmps21 fun w F0 ρ => ?_
 refine RU tbOk false 999 3 [] aN (by rfl) ?_
 refine fk1 h (fun v1 hv2 h => ?_)
 ·refine RU tbOk false 999 0 [] aN (by rfl) ?_
  refine CX_ tbOk [2] (c22_0 p1 v1 hv2) (aK aN) ?_
  refine RU tbOk false 999 0 [] aN (by rfl) ?_
  have hr := Option.some.inj h
  subst hr
  exact TP_ [0, 1, 2]
theorem c21_0 (p1 : List Int) (r : Int) (h : fn21 p1 = some r) : ConX Try.prog 21 [.p 0 0, .p 1 0] [(0, .cells 29 [.v (.pointer none)]), (1, .cells 35 [.sl 2]), (2, .rd (Et.int .u8) p1)] 3 (.iface 30 (.int .i64 r)) [(0, .cells 29 [.v (.pointer none)]), (1, .cells 35 [.sl 2])] 3 := c21 p1 _ h
def fn38 (p0 : Int) (p1 : Bool) (pe : Int) : Int × Bool :=
 (pe, false)
theorem c38 (p0 : Int) (p1 : Bool) (pe : Int) (r : Int × Bool) (h : fn38 p0 p1 pe = r) : ConD Try.prog 38 [.p 0 0, .p 1 0] [(0, .cells 30 [.v (.int .i64 p0)]), (1, .cells 4 [.v (.bool p1)])] 2 (.pan (.iface 30 (.int .i64 pe))) [(0, .cells 30 [.v (.int .i64 r.1)]), (1, .cells 4 [.v (.bool r.2)])] 2 := by
 rw [fn38] at h
 refine ConD.of_body Try.func38 Try.ntmps38 fun w F0 ρ => ?_
 refine RU tbOk false 999 2 [.ni] aN (by rfl) ?_
 refine CDT rfl (by rfl) ?_
 refine RU tbOk false 999 10 [.ta] aN (by rfl) ?_
 refine CDF rfl (by rfl) ?_
 refine RU tbOk false 999 3 [] aN (by rfl) ?_
 subst h
 exact TQN_ Try.results38 [0, 1]
def fn20 (p0c1 : List Int) : Option (Bool × Int) :=
 frk1 (fn21 p0c1) (fun v2 => some (((fn38 0 false v2).2, (fn38 0 false v2).1)))
theorem c20 (p0c1 : List Int) (r : Bool × Int) (h : fn20 p0c1 = some r) : ConO Try.prog 20 [.fn (.func 21) [] [.p 0 0, .p 1 0]] [(0, .cells 29 [.v (.pointer none)]), (1, .cells 35 [.sl 2]), (2, .rd (Et.int .u8) p0c1)] 3 (.ret (.tu [.v (.bool r.1), .v (.int .i64 r.2)]) [(0, .cells 29 [.v (.pointer none)]), (1, .cells 35 [.sl 2])] 3) := by
 rw [fn20] at h
 refine ConO.of_body Try.func20 Try.ntmps20 fun w F0 ρ => ?_
 refine RU tbOk false 999 3 [] aN (by rfl) ?_
 refine DF_ (fun vs1 => ?_)
 refine RU tbOk false 999 1 [] aN (by rfl) ?_
 refine fk1 h (fun v2 hv3 h => ?_)
 ·refine RU tbOk false 999 0 [] aN (by rfl) ?_
  refine CX_ tbOk [0, 1, 2] (c21_0 p0c1 v2 hv3) (aK aN) ?_
  refine RU tbOk false 999 0 [] aN (by rfl) ?_
  have hr := Option.some.inj h
  subst hr
  exact TDP_ tbOk Try.results20 5 [4, 3] (c38 0 false v2 _ rfl) [0, 1, 2]
theorem c20_0 (p0c1 : List Int) (r : Bool × Int) (h : fn20 p0c1 = some r) : Con Try.prog 20 [.fn (.func 21) [] [.p 0 0, .p 1 0]] [(0, .cells 29 [.v (.pointer none)]), (1, .cells 35 [.sl 2]), (2, .rd (Et.int .u8) p0c1)] 3 (.tu [.v (.bool r.1), .v (.int .i64 r.2)]) [(0, .cells 29 [.v (.pointer none)]), (1, .cells 35 [.sl 2])] 3 := c20 p0c1 _ h
def fn9 (p1 : List Int) : Option (Int) :=
 frk1 (fn20 p1) (fun v1 => some (v1.2))
theorem c9 (p1 : List Int) (r : Int) (h : fn9 p1 = some r) : Con Try.prog 9 [.v (.pointer none), .sl 0] [(0, .rd (Et.int .u8) p1)] 1 (.v (.int .i64 r)) [] 1 := by
 rw [fn9] at h
 refine Con.of_body Try.func9 rfl Try.ntmps9 rfl fun w F0 ρ => ?_
 refine RU tbOk false 999 4 [] aN (by rfl) ?_
 refine fk1 h (fun v1 hv2 h => ?_)
 ·refine RU tbOk false 999 1 [.cl true [1, 2, 0] (fun _ => c20_0 p1 v1 hv2)] (aK aN) (by rfl) ?_
  refine RU tbOk false 999 7 [] aN (by rfl) ?_
  have hr := Option.some.inj h
  subst hr
  exact RT tbOk.t Try.results9 [0] (by rfl) (by rfl) (by rfl) rfl rfl
def fn35_b1 (p0 : List Int) (p1 : List Int) (rl1 : Int → Option ((Unit) ⊕ (Bool))) (x6 : Int) : Option ((Unit) ⊕ (Bool)) :=
 bif decide (x6 < (p0.length : Int)) then (bif inb x6 p0.length then (bif inb x6 p1.length then (bif (gt p0 x6) != (gt p1 x6) then (some (.inr (false))) else (rl1 (IntKind.i64.wrap (x6 + 1)))) else none) else none) else (some (.inl ()))
def fn35_l1 (p0 : List Int) (p1 : List Int) : Nat → Int → Option ((Unit) ⊕ (Bool))
 | 0, _ => none
 | n13 + 1, x6 => fn35_b1 p0 p1 (fn35_l1 p0 p1 n13) x6
theorem fn35_l1_s (p0 : List Int) (p1 : List Int) (n13 : Nat) (x6 : Int) : fn35_l1 p0 p1 (n13 + 1) x6 = fn35_b1 p0 p1 (fn35_l1 p0 p1 n13) x6 := rfl
def fn35_k1 : Option (Bool) :=
 some (true)
def fn35 (F : Nat) (p0 : List Int) (p1 : List Int) : Option (Bool) :=
 bif (p0.length : Int) != (p1.length : Int) then (some (false)) else (Option.bind (fn35_l1 p0 p1 F 0) fun o11 => (match o11 with | .inl u => fn35_k1 | .inr u => some u))
theorem c35 (F : Nat) (p0 : List Int) (p1 : List Int) (r : Bool) (h : fn35 F p0 p1 = some r) : Con Try.prog 35 [.sl 0, .sl 1] [(0, .rd (Et.int .u8) p0), (1, .rd (Et.int .u8) p1)] 2 (.v (.bool r)) [] 2 := by
 rw [fn35] at h
 refine Con.of_body Try.func35 rfl Try.ntmps35 rfl fun w F0 ρ => ?_
 refine RU tbOk false 999 6 [] aN (by rfl) ?_
 refine CD h (by rfl) (fun h hb1 => ?_) (fun h hb1 => ?_)
 ·refine RU tbOk false 999 1 [] aN (by rfl) ?_
  have hr := Option.some.inj h
  subst hr
  exact RT tbOk.t Try.results35 [0, 1] (by rfl) (by rfl) (by rfl) rfl rfl
 ·refine RU tbOk false 999 1 [] aN (by rfl) ?_
  obtain ⟨o11, hl12, h⟩ := bd h
  refine CTS 0 (fun u21 => ⟨[], [(0, .rd (Et.int .u8) p0), (1, .rd (Et.int .u8) p1)], 2⟩) o11 ?_ (fun u21 hu21 => ?_)
  ·have h015 := h
   clear h
   refine G4.imp (Imp.to [0, 1] (by rfl) (by rfl) rfl rfl) (LP (fun (n : Nat) (s : Int) => fn35_l1 p0 p1 n s) (fun (s : Int) => ⟨[(0, .sl 0), (1, .sl 1), (5, .v (.int .i64 s))], [(0, .rd (Et.int .u8) p0), (1, .rd (Et.int .u8) p1)], 2⟩) (fun _ => rfl) (s0 := 0) hl12 ?_)
   clear hl12
   rintro R16 n13 x6 h ih14
   replace h := (fn35_l1_s p0 p1 n13 x6).symm.trans h
   rw [fn35_b1] at h
   refine RU tbOk false 999 4 [] aN (by rfl) ?_
   refine CD h (by rfl) (fun h hb17 => ?_) (fun h hb17 => ?_)
   ·refine RU tbOk false 999 0 [] aN (by rfl) ?_
    obtain ⟨hk18, h⟩ := ck h
    obtain ⟨hk19, h⟩ := ck h
    refine DR tbOk hmix [25] [([], []), ([], []), ([0], []), ([0], []), ([], []), ([], []), ([1], []), ([1], []), ([], [])] [] (aR (aC hk18 (aR (aR (aC hk19 (aR aN)))))) (by rfl) ?_
    refine RU tbOk false 999 0 [] aN (by rfl) ?_
    refine CD h (by rfl) (fun h hb20 => ?_) (fun h hb20 => ?_)
    ·refine RU tbOk false 999 1 [] aN (by rfl) ?_
     have ho := Option.some.inj h
     subst ho
     replace h := h015
     refine RU tbOk false 999 0 [] aN (by rfl) ?_
     have hr := Option.some.inj h
     subst hr
     exact RT tbOk.t Try.results35 [0, 1] (by rfl) (by rfl) (by rfl) rfl rfl
    ·refine RU tbOk false 999 3 [] aN (by rfl) ?_
     exact ih14 (IntKind.i64.wrap (x6 + 1)) h _ _ (Imp.to [0, 1] (by rfl) (by rfl) rfl rfl)
   ·refine RU tbOk false 999 0 [] aN (by rfl) ?_
    have ho := Option.some.inj h
    subst ho
    exact CES _ rfl (Imp.to [0, 1] (by rfl) (by rfl) rfl rfl)
  ·subst hu21
   change fn35_k1 = _ at h
   rw [fn35_k1] at h
   refine RU tbOk false 999 1 [] aN (by rfl) ?_
   have hr := Option.some.inj h
   subst hr
   exact RT tbOk.t Try.results35 [0, 1] (by rfl) (by rfl) (by rfl) rfl rfl
def fn15_b1 (F : Nat) (p0 : List (List Int)) (p1 : List (List Int)) (rl1 : Int → Option ((Unit) ⊕ (Bool))) (x8 : Int) : Option ((Unit) ⊕ (Bool)) :=
 bif decide (x8 < (p0.length : Int)) then (bif inb x8 p0.length then (bif inb x8 p1.length then (Option.bind (fn35 F (gt p0 x8) (gt p1 x8)) fun v24 => (bif !v24 then (some (.inr (false))) else (rl1 (IntKind.i64.wrap (x8 + 1))))) else none) else none) else (some (.inl ()))
def fn15_l1 (F : Nat) (p0 : List (List Int)) (p1 : List (List Int)) : Nat → Int → Option ((Unit) ⊕ (Bool))
 | 0, _ => none
 | n17 + 1, x8 => fn15_b1 F p0 p1 (fn15_l1 F p0 p1 n17) x8
theorem fn15_l1_s (F : Nat) (p0 : List (List Int)) (p1 : List (List Int)) (n17 : Nat) (x8 : Int) : fn15_l1 F p0 p1 (n17 + 1) x8 = fn15_b1 F p0 p1 (fn15_l1 F p0 p1 n17) x8 := rfl
def fn15_k1 : Option (Bool) :=
 some (true)
def fn15 (F : Nat) (p0 : List (List Int)) (p1 : List (List Int)) : Option (Bool) :=
 bif (p0.length : Int) != (p1.length : Int) then (some (false)) else (Option.bind (fn15_l1 F p0 p1 F 0) fun o15 => (match o15 with | .inl u => fn15_k1 | .inr u => some u))
theorem c15 (F : Nat) (p0 : List (List Int)) (p1 : List (List Int)) (r : Bool) (h : fn15 F p0 p1 = some r) : Con Try.prog 15 [.sl 0, .sl 1] [(0, .rowL (Et.int .u8) 5 35 p0 p0.length), (1, .rowL (Et.int .u8) 5 35 p1 p1.length)] 2 (.v (.bool r)) [(0, .rowL (Et.int .u8) 5 35 p0 p0.length), (1, .rowL (Et.int .u8) 5 35 p1 p1.length)] 2 := by
 rw [fn15] at h
 refine Con.of_body Try.func15 rfl Try.ntmps15 rfl fun w F0 ρ => ?_
 refine RU tbOk false 999 6 [.ln, .ln] aN (by rfl) ?_
 refine CD h (by rfl) (fun h hb1 => ?_) (fun h hb1 => ?_)
 ·refine RU tbOk false 999 1 [] aN (by rfl) ?_
  have hr := Option.some.inj h
  subst hr
  exact RT tbOk.t Try.results15 [0, 1] (by rfl) (by rfl) (by rfl) rfl rfl
 ·refine RU tbOk false 999 1 [] aN (by rfl) ?_
  obtain ⟨o15, hl16, h⟩ := bd h
  refine CTS 0 (fun u27 => ⟨[], [(0, .rowL (Et.int .u8) 5 35 p0 p0.length), (1, .rowL (Et.int .u8) 5 35 p1 p1.length)], 2⟩) o15 ?_ (fun u27 hu27 => ?_)
  ·have h019 := h
   clear h
   refine G4.imp (Imp.to [0, 1] (by rfl) (by rfl) rfl rfl) (LP (fun (n : Nat) (s : Int) => fn15_l1 F p0 p1 n s) (fun (s : Int) => ⟨[(0, .sl 0), (1, .sl 1), (5, .v (.int .i64 s))], [(0, .rowL (Et.int .u8) 5 35 p0 p0.length), (1, .rowL (Et.int .u8) 5 35 p1 p1.length)], 2⟩) (fun _ => rfl) (s0 := 0) hl16 ?_)
   clear hl16
   rintro R20 n17 x8 h ih18
   replace h := (fn15_l1_s F p0 p1 n17 x8).symm.trans h
   rw [fn15_b1] at h
   refine RU tbOk false 999 4 [.ln] aN (by rfl) ?_
   refine CD h (by rfl) (fun h hb21 => ?_) (fun h hb21 => ?_)
   ·refine RU tbOk false 999 0 [] aN (by rfl) ?_
    obtain ⟨hk22, h⟩ := ck h
    obtain ⟨hk23, h⟩ := ck h
    obtain ⟨v24, hv25, h⟩ := bd h
    refine DR tbOk hmix [26] [([], []), ([], []), ([0], []), ([0], [0]), ([], []), ([], []), ([1], []), ([1], [1]), ([2, 3], []), ([], [])] [.ix, .ld (Et.int .u8) 5 _, .ix, .ld (Et.int .u8) 5 _, .cl true [2, 3] (fun _ => c35 F (gt p0 x8) (gt p1 x8) _ hv25)] (aR (aC hk22 (aR (aR (aC hk22 (aR (aC hk23 (aR (aR (aC hk23 (aR (aK aN)))))))))))) (by rfl) ?_
    refine RU tbOk false 999 0 [] aN (by rfl) ?_
    refine CD h (by rfl) (fun h hb26 => ?_) (fun h hb26 => ?_)
    ·refine RU tbOk false 999 1 [] aN (by rfl) ?_
     have ho := Option.some.inj h
     subst ho
     replace h := h019
     refine RU tbOk false 999 0 [] aN (by rfl) ?_
     have hr := Option.some.inj h
     subst hr
     refine G4.imp (Imp.closeL 0 2 (by rfl) (by rfl) (by rfl)) ?_
     refine G4.imp (Imp.closeL 1 3 (by rfl) (by rfl) (by rfl)) ?_
     exact RT tbOk.t Try.results15 [0, 1] (by rfl) (by rfl) (by rfl) rfl rfl
    ·refine RU tbOk false 999 3 [] aN (by rfl) ?_
     refine G4.imp (Imp.closeL 0 2 (by rfl) (by rfl) (by rfl)) ?_
     refine G4.imp (Imp.closeL 1 3 (by rfl) (by rfl) (by rfl)) ?_
     exact ih18 (IntKind.i64.wrap (x8 + 1)) h _ _ (Imp.to [0, 1] (by rfl) (by rfl) rfl rfl)
   ·refine RU tbOk false 999 0 [] aN (by rfl) ?_
    have ho := Option.some.inj h
    subst ho
    exact CES _ rfl (Imp.to [0, 1] (by rfl) (by rfl) rfl rfl)
  ·subst hu27
   change fn15_k1 = _ at h
   rw [fn15_k1] at h
   refine RU tbOk false 999 1 [] aN (by rfl) ?_
   have hr := Option.some.inj h
   subst hr
   exact RT tbOk.t Try.results15 [0, 1] (by rfl) (by rfl) (by rfl) rfl rfl
def fn19v2 (p1 : Int) : Unit :=
 ()
theorem c19v2 (p1 : Int) (r : Unit) (h : fn19v2 p1 = r) : Con Try.prog 19 [.v (.bool true), .v (.int .i64 p1)] [] 0 (.tu []) [] 0 := by
 rw [fn19v2] at h
 refine Con.of_body Try.func19 rfl Try.ntmps19 rfl fun w F0 ρ => ?_
 refine RU tbOk false 999 2 [] aN (by rfl) ?_
 refine CDF rfl (by rfl) ?_
 refine RU tbOk false 999 0 [] aN (by rfl) ?_
 subst h
 exact RTN tbOk.t Try.results19 [] (by rfl) (by rfl) (by rfl) rfl rfl
def fn32v1 (p0_0 : List HCell) (p0_1 : Int) (p0_2 : Int) (p0_3 : Int) (p0_4 : Int) (p0_5 : List (ByteArray × Int)) : Unit :=
 ()
theorem c32v1 (p0_0 : List HCell) (p0_1 : Int) (p0_2 : Int) (p0_3 : Int) (p0_4 : Int) (p0_5 : List (ByteArray × Int)) (r : Unit) (h : fn32v1 p0_0 p0_1 p0_2 p0_3 p0_4 p0_5 = r) : Con Try.prog 32 [.p 0 0] [(0, .cells 54 [.sl 1, .v (.int .u8 p0_1), .v (.int .i64 p0_2), .v (.int .i64 p0_3), .v (.int .i64 p0_4), .mp 2]), (1, .ex (pO HCell.D 63 p0_0) []), (2, .omap Kn.str (Vn.int .i64) p0_5)] 3 (.tu []) [(0, .cells 54 [.sl 1, .v (.int .u8 p0_1), .v (.int .i64 p0_2), .v (.int .i64 p0_3), .v (.int .i64 p0_4), .mp 2]), (1, .ex (pO HCell.D 63 p0_0) []), (2, .omap Kn.str (Vn.int .i64) p0_5)] 3 := by
 rw [fn32v1] at h
 refine Con.of_body Try.func32 rfl Try.ntmps32 rfl fun w F0 ρ => ?_
 refine RU (tbOk.lit [(3, 4, true)]) false 999 10 [.pn, .ni, .cl true [] (fun _ => c19v2 1 _ rfl)] (aC rfl (aK aN)) (by rfl) ?_
 refine RU tbOk false 999 0 [] aN (by rfl) ?_
 refine RU tbOk false 999 0 [] aN (by rfl) ?_
 subst h
 exact RTN tbOk.t Try.results32 [0, 1, 2] (by rfl) (by rfl) (by rfl) rfl rfl
def fn22v1 (p0_0 : List HCell) (p0_1 : Int) (p0_2 : Int) (p0_3 : Int) (p0_4 : Int) (p0_5 : List (ByteArray × Int)) (p1 : List Int) : Option (Int ⊕ (Int × Bool)) :=
 frk2 (fn19 ((p1.length : Int) == p0_2) 2) (fun v1 => some ((.inl v1))) (fun v3 => some ((.inr (mget p0_5 (strOfNums p1) (0 : Int), mhas p0_5 (strOfNums p1)))))
theorem c22v1 (p0_0 : List HCell) (p0_1 : Int) (p0_2 : Int) (p0_3 : Int) (p0_4 : Int) (p0_5 : List (ByteArray × Int)) (p1 : List Int) (r : Int ⊕ (Int × Bool)) (h : fn22v1 p0_0 p0_1 p0_2 p0_3 p0_4 p0_5 p1 = some r) : ConO Try.prog 22 [.p 0 0, .sl 3] [(0, .cells 54 [.sl 1, .v (.int .u8 p0_1), .v (.int .i64 p0_2), .v (.int .i64 p0_3), .v (.int .i64 p0_4), .mp 2]), (1, .ex (pO HCell.D 63 p0_0) []), (2, .omap Kn.str (Vn.int .i64) p0_5), (3, .rd (Et.int .u8) p1)] 4 (match r with | .inl r => .pan (.iface 30 (.int .i64 r)) [(0, .cells 54 [.sl 1, .v (.int .u8 p0_1), .v (.int .i64 p0_2), .v (.int .i64 p0_3), .v (.int .i64 p0_4), .mp 2]), (1, .ex (pO HCell.D 63 p0_0) []), (2, .omap Kn.str (Vn.int .i64) p0_5)] 4 | .inr r => .ret (.tu [.v (.int .i64 r.1), .v (.bool r.2)]) [(0, .cells 54 [.sl 1, .v (.int .u8 p0_1), .v (.int .i64 p0_2), .v (.int .i64 p0_3), .v (.int .i64 p0_4), .mp 2]), (1, .ex (pO HCell.D 63 p0_0) []), (2, .omap Kn.str (Vn.int .i64) p0_5)] 4) := by
 rw [fn22v1] at h
 refine ConO.of_body Try.func22 Try.ntmps22 fun w F0 ρ => ?_
 refine RU tbOk false 999 4 [.cl true [0, 1, 2] (fun _ => c32v1 p0_0 p0_1 p0_2 p0_3 p0_4 p0_5 _ rfl)] (aK aN) (by rfl) ?_
 refine RU tbOk false 999 8 [] aN (by rfl) ?_
 refine fk2 h (fun v1 hv2 h => ?_) (fun v3 hv4 h => ?_)
 ·refine RU tbOk false 999 0 [] aN (by rfl) ?_
  refine CX_ tbOk [] (c19_0 ((p1.length : Int) == p0_2) 2 v1 hv2) (aK aN) ?_
  refine RU tbOk false 999 0 [] aN (by rfl) ?_
  have hr := Option.some.inj h
  subst hr
  exact TP_ [0, 1, 2, 3]
 ·refine RU tbOk false 999 1 [.cl true [] (fun _ => c19_1 ((p1.length : Int) == p0_2) 2 v3 hv4)] (aK aN) (by rfl) ?_
  refine RU tbOk false 999 0 [] aN (by rfl) ?_
  refine DR tbOk hmix [6, 7] [([], []), ([], []), ([], []), ([0], []), ([], []), ([3], []), ([2], []), ([], []), ([], []), ([], []), ([], []), ([], [])] [.b2 _, .lo Kn.str (Vn.int .i64) _ (strOfNums p1) (0 : Int) Try.runUnderlying34 Try.runUnderlying9 Try.zeroValue3] (aR (aR (aR (aR (aR (aR aN)))))) (by rfl) ?_
  refine RU tbOk false 999 4 [] aN (by rfl) ?_
  have hr := Option.some.inj h
  subst hr
  exact TO_ tbOk.t Try.results22 [0, 1, 2, 3]
theorem c22v1_0 (p0_0 : List HCell) (p0_1 : Int) (p0_2 : Int) (p0_3 : Int) (p0_4 : Int) (p0_5 : List (ByteArray × Int)) (p1 : List Int) (r : Int) (h : fn22v1 p0_0 p0_1 p0_2 p0_3 p0_4 p0_5 p1 = some (.inl r)) : ConX Try.prog 22 [.p 0 0, .sl 3] [(0, .cells 54 [.sl 1, .v (.int .u8 p0_1), .v (.int .i64 p0_2), .v (.int .i64 p0_3), .v (.int .i64 p0_4), .mp 2]), (1, .ex (pO HCell.D 63 p0_0) []), (2, .omap Kn.str (Vn.int .i64) p0_5), (3, .rd (Et.int .u8) p1)] 4 (.iface 30 (.int .i64 r)) [(0, .cells 54 [.sl 1, .v (.int .u8 p0_1), .v (.int .i64 p0_2), .v (.int .i64 p0_3), .v (.int .i64 p0_4), .mp 2]), (1, .ex (pO HCell.D 63 p0_0) []), (2, .omap Kn.str (Vn.int .i64) p0_5)] 4 := c22v1 p0_0 p0_1 p0_2 p0_3 p0_4 p0_5 p1 _ h
theorem c22v1_1 (p0_0 : List HCell) (p0_1 : Int) (p0_2 : Int) (p0_3 : Int) (p0_4 : Int) (p0_5 : List (ByteArray × Int)) (p1 : List Int) (r : Int × Bool) (h : fn22v1 p0_0 p0_1 p0_2 p0_3 p0_4 p0_5 p1 = some (.inr r)) : Con Try.prog 22 [.p 0 0, .sl 3] [(0, .cells 54 [.sl 1, .v (.int .u8 p0_1), .v (.int .i64 p0_2), .v (.int .i64 p0_3), .v (.int .i64 p0_4), .mp 2]), (1, .ex (pO HCell.D 63 p0_0) []), (2, .omap Kn.str (Vn.int .i64) p0_5), (3, .rd (Et.int .u8) p1)] 4 (.tu [.v (.int .i64 r.1), .v (.bool r.2)]) [(0, .cells 54 [.sl 1, .v (.int .u8 p0_1), .v (.int .i64 p0_2), .v (.int .i64 p0_3), .v (.int .i64 p0_4), .mp 2]), (1, .ex (pO HCell.D 63 p0_0) []), (2, .omap Kn.str (Vn.int .i64) p0_5)] 4 := c22v1 p0_0 p0_1 p0_2 p0_3 p0_4 p0_5 p1 _ h
def fn40 (p0_0 : List HCell) (p0_1 : Int) (p0_2 : Int) (p0_3 : Int) (p0_4 : Int) (p0_5 : List (ByteArray × Int)) : Unit :=
 ()
theorem c40 (p0_0 : List HCell) (p0_1 : Int) (p0_2 : Int) (p0_3 : Int) (p0_4 : Int) (p0_5 : List (ByteArray × Int)) (r : Unit) (h : fn40 p0_0 p0_1 p0_2 p0_3 p0_4 p0_5 = r) : Con Try.prog 40 [.p 0 0] [(0, .cells 54 [.sl 1, .v (.int .u8 p0_1), .v (.int .i64 p0_2), .v (.int .i64 p0_3), .v (.int .i64 p0_4), .mp 2]), (1, .ex (pO HCell.D 63 p0_0) []), (2, .omap Kn.str (Vn.int .i64) p0_5)] 3 (.fn (.func 45) [] [.p 3 0]) [(0, .cells 54 [.sl 1, .v (.int .u8 p0_1), .v (.int .i64 p0_2), .v (.int .i64 p0_3), .v (.int .i64 p0_4), .mp 2]), (1, .ex (pO HCell.D 63 p0_0) []), (2, .omap Kn.str (Vn.int .i64) p0_5), (3, .cells 90 [.p 0 0])] 4 := by
 rw [fn40] at h
 refine Con.of_body Try.func40 rfl Try.ntmps40 rfl fun w F0 ρ => ?_
 refine RU tbOk false 999 4 [] aN (by rfl) ?_
 subst h
 exact RT tbOk.t Try.results40 [0, 1, 2, 3] (by rfl) (by rfl) (by rfl) rfl rfl
def fn45_b1 {σ : Type} (step : σ → Int → Option σ) (go : σ → Bool) (p0_0_0 : List HCell) (rl1 : σ → Int → Option ((σ) ⊕ (σ))) (xs7 : σ) (x8 : Int) : Option ((σ) ⊕ (σ)) :=
 bif decide (x8 < (p0_0_0.length : Int)) then (bif inb x8 p0_0_0.length then (bif !((gt p0_0_0 x8).fused) then (Option.bind (step xs7 x8) fun u25 => (bif !(go u25) then (some (.inr (u25))) else (rl1 u25 (IntKind.i64.wrap (x8 + 1))))) else (rl1 xs7 (IntKind.i64.wrap (x8 + 1)))) else none) else (some (.inl xs7))
def fn45_l1 {σ : Type} (step : σ → Int → Option σ) (go : σ → Bool) (p0_0_0 : List HCell) : Nat → σ → Int → Option ((σ) ⊕ (σ))
 | 0, _, _ => none
 | n18 + 1, xs7, x8 => fn45_b1 step go p0_0_0 (fn45_l1 step go p0_0_0 n18) xs7 x8
theorem fn45_l1_s {σ : Type} (step : σ → Int → Option σ) (go : σ → Bool) (p0_0_0 : List HCell) (n18 : Nat) (xs7 : σ) (x8 : Int) : fn45_l1 step go p0_0_0 (n18 + 1) xs7 x8 = fn45_b1 step go p0_0_0 (fn45_l1 step go p0_0_0 n18) xs7 x8 := rfl
def fn45_k1 {σ : Type} (xs15 : σ) : Option (σ) :=
 some (xs15)
def fn45 {σ : Type} (F : Nat) (step : σ → Int → Option σ) (go : σ → Bool) (p0_0_0 : List HCell) (p0_0_1 : Int) (p0_0_2 : Int) (p0_0_3 : Int) (p0_0_4 : Int) (p0_0_5 : List (ByteArray × Int)) (s0 : σ) : Option σ :=
 Option.bind (fn45_l1 step go p0_0_0 F s0 0) fun o16 => (match o16 with | .inl u => fn45_k1 u | .inr u => some u)
theorem c45 {σ : Type} (F : Nat) (step : σ → Int → Option σ) (go : σ → Bool) (p0_0_0 : List HCell) (p0_0_1 : Int) (p0_0_2 : Int) (p0_0_3 : Int) (p0_0_4 : Int) (p0_0_5 : List (ByteArray × Int)) (s0 : σ) (r : σ) (h : fn45 F step go p0_0_0 p0_0_1 p0_0_2 p0_0_3 p0_0_4 p0_0_5 s0 = some r) (yv : Value) (J : σ → Blocks → Prop) : ConY Try.prog 45 [.v yv, .p 0 0] [(0, .cells 90 [.p 1 0]), (1, .cells 54 [.sl 2, .v (.int .u8 p0_0_1), .v (.int .i64 p0_0_2), .v (.int .i64 p0_0_3), .v (.int .i64 p0_0_4), .mp 3]), (2, .ex (pO HCell.D 63 p0_0_0) []), (3, .omap Kn.str (Vn.int .i64) p0_0_5), (4, .bx (J s0))] 5 (.tu []) [(0, .cells 90 [.p 1 0]), (1, .cells 54 [.sl 2, .v (.int .u8 p0_0_1), .v (.int .i64 p0_0_2), .v (.int .i64 p0_0_3), .v (.int .i64 p0_0_4), .mp 3]), (2, .ex (pO HCell.D 63 p0_0_0) []), (3, .omap Kn.str (Vn.int .i64) p0_0_5), (4, .bx (J r))] 5 (fun w R ρ => YldY Try.prog w R ρ 0 yv J (Yn.one (Vn.int .i64)) step go) := by
 rw [fn45] at h
 refine ConY.of_body Try.func45 rfl Try.ntmps45 rfl fun w F0 ρ hy => ?_
 refine RU tbOk false 999 6 [.no HCell.D 63 _ none] (aR aN) (by rfl) ?_
 obtain ⟨o16, hl17, h⟩ := bd h
 refine CTS 0 (fun u28 => ⟨[], [(0, .cells 90 [.p 1 0]), (1, .cells 54 [.sl 2, .v (.int .u8 p0_0_1), .v (.int .i64 p0_0_2), .v (.int .i64 p0_0_3), .v (.int .i64 p0_0_4), .mp 3]), (2, .ex (pO HCell.D 63 p0_0_0) []), (3, .omap Kn.str (Vn.int .i64) p0_0_5), (4, .bx (J u28))], 5⟩) o16 ?_ (fun u28 hu28 => ?_)
 ·have h020 := h
  clear h
  refine G4.imp (Imp.to [0, 1, 2, 3, 4] (by rfl) (by rfl) rfl rfl) (LP (fun (n : Nat) (s : σ × Int) => fn45_l1 step go p0_0_0 n s.1 s.2) (fun (s : σ × Int) => ⟨[(0, .v yv), (1, .p 0 0), (8, .v (.int .i64 (p0_0_0.length : Int))), (9, .v (.int .i64 s.2))], [(0, .cells 90 [.p 1 0]), (1, .cells 54 [.sl 2, .v (.int .u8 p0_0_1), .v (.int .i64 p0_0_2), .v (.int .i64 p0_0_3), .v (.int .i64 p0_0_4), .mp 3]), (2, .ex (pO HCell.D 63 p0_0_0) []), (3, .omap Kn.str (Vn.int .i64) p0_0_5), (4, .bx (J s.1))], 5⟩) (fun _ => rfl) (s0 := (s0, 0)) hl17 ?_)
  clear hl17
  rintro R21 n18 ⟨xs7, x8⟩ h ih19
  replace h := (fn45_l1_s step go p0_0_0 n18 xs7 x8).symm.trans h
  rw [fn45_b1] at h
  refine RU tbOk false 999 1 [] aN (by rfl) ?_
  refine CD h (by rfl) (fun h hb22 => ?_) (fun h hb22 => ?_)
  ·obtain ⟨hk23, h⟩ := ck h
   refine RU tbOk false 999 11 [.io HCell.D 63 _ none, .lp HCell.D 63 _] (aR (aC hk23 (aR (aC hk23 aN)))) (by rfl) ?_
   refine CDS h (fun h hb24 => ?_) (fun h hb24 => ?_)
   ·obtain ⟨u25, hu26, h⟩ := bd h
    refine RU (tbOk.lit [(20, 21, true)]) false 999 4 [.yd 4 x8 hy rfl hu26] (aC hb24 (aR (aR (aR aN)))) (by rfl) ?_
    refine RU (tbOk.lit [(20, 21, true)]) false 999 2 [] aN (by rfl) ?_
    refine RU tbOk false 999 0 [] aN (by rfl) ?_
    refine CD h (by rfl) (fun h hb27 => ?_) (fun h hb27 => ?_)
    ·refine RU tbOk false 999 0 [] aN (by rfl) ?_
     have ho := Option.some.inj h
     subst ho
     replace h := h020
     refine RU tbOk false 999 0 [] aN (by rfl) ?_
     have hr := Option.some.inj h
     subst hr
     exact RT tbOk.t Try.results45 [0, 1, 2, 3, 4] (by rfl) (by rfl) (by rfl) rfl rfl
    ·refine RU tbOk false 999 2 [] aN (by rfl) ?_
     exact ih19 (u25, IntKind.i64.wrap (x8 + 1)) h _ _ (Imp.to [0, 1, 2, 3, 4] (by rfl) (by rfl) rfl rfl)
   ·refine RU (tbOk.lit [(20, 21, false)]) false 999 4 [] (aC hb24 aN) (by rfl) ?_
    refine RU (tbOk.lit [(20, 21, false)]) false 999 2 [] aN (by rfl) ?_
    refine RU tbOk false 999 0 [] aN (by rfl) ?_
    refine CDF rfl (by rfl) ?_
    refine RU tbOk false 999 2 [] aN (by rfl) ?_
    exact ih19 (xs7, IntKind.i64.wrap (x8 + 1)) h _ _ (Imp.to [0, 1, 2, 3, 4] (by rfl) (by rfl) rfl rfl)
  ·refine RU tbOk false 999 0 [] aN (by rfl) ?_
   have ho := Option.some.inj h
   subst ho
   exact CES _ rfl (Imp.to [0, 1, 2, 3, 4] (by rfl) (by rfl) rfl rfl)
 ·subst hu28
  change fn45_k1 u28 = _ at h
  rw [fn45_k1] at h
  refine RU tbOk false 999 0 [] aN (by rfl) ?_
  have hr := Option.some.inj h
  subst hr
  exact RTN tbOk.t Try.results45 [0, 1, 2, 3, 4] (by rfl) (by rfl) (by rfl) rfl rfl
def fn26_r1 (x2 : Int) (y1 : Int) : Option ((Int) × Nat) :=
 some (y1, 1)
def fn26_k1_0 (x2 : Int) : Option ((Int ⊕ Int)) :=
 some ((.inl 8))
def fn26_k1_1 (x2 : Int) : Option ((Int ⊕ Int)) :=
 some ((.inr x2))
def fn26 (F : Nat) (p0_0 : List HCell) (p0_1 : Int) (p0_2 : Int) (p0_3 : Int) (p0_4 : Int) (p0_5 : List (ByteArray × Int)) : Option (Int ⊕ Int) :=
 Option.bind (fn45 F (stepR (fun (s : Int) (y : Int) => fn26_r1 s y)) goR p0_0 p0_1 p0_2 p0_3 p0_4 p0_5 ((0, 0) : (Int) × Nat)) fun o5 => (bif Nat.beq o5.2 0 then (fn26_k1_0 o5.1) else (bif Nat.beq o5.2 1 then (fn26_k1_1 o5.1) else none))
theorem c26 (F : Nat) (p0_0 : List HCell) (p0_1 : Int) (p0_2 : Int) (p0_3 : Int) (p0_4 : Int) (p0_5 : List (ByteArray × Int)) (r : Int ⊕ Int) (h : fn26 F p0_0 p0_1 p0_2 p0_3 p0_4 p0_5 = some r) : ConO Try.prog 26 [.p 0 0] [(0, .cells 54 [.sl 1, .v (.int .u8 p0_1), .v (.int .i64 p0_2), .v (.int .i64 p0_3), .v (.int .i64 p0_4), .mp 2]), (1, .ex (pO HCell.D 63 p0_0) []), (2, .omap Kn.str (Vn.int .i64) p0_5)] 3 (match r with | .inl r => .pan (.iface 30 (.int .i64 r)) [(0, .cells 54 [.sl 1, .v (.int .u8 p0_1), .v (.int .i64 p0_2), .v (.int .i64 p0_3), .v (.int .i64 p0_4), .mp 2]), (1, .ex (pO HCell.D 63 p0_0) []), (2, .omap Kn.str (Vn.int .i64) p0_5)] 3 | .inr r => .ret (.v (.int .i64 r)) [(0, .cells 54 [.sl 1, .v (.int .u8 p0_1), .v (.int .i64 p0_2), .v (.int .i64 p0_3), .v (.int .i64 p0_4), .mp 2]), (1, .ex (pO HCell.D 63 p0_0) []), (2, .omap Kn.str (Vn.int .i64) p0_5)] 3) := by
 rw [fn26] at h
 refine ConO.of_body Try.func26 Try.ntmps26 fun w F0 ρ => ?_
 refine RU tbOk false 999 3 [.cl true [0, 1, 2] (fun _ => c40 p0_0 p0_1 p0_2 p0_3 p0_4 p0_5 _ rfl)] (aK aN) (by rfl) ?_
 refine RU tbOk false 999 0 [] aN (by rfl) ?_
 obtain ⟨o5, ho6, h⟩ := bd h
 refine G4.imp (s' := ⟨[(2, .p 3 0), (5, .fn (.func 45) [] [.p 4 0])], [(4, .cells 90 [.p 0 0]), (0, .cells 54 [.sl 1, .v (.int .u8 p0_1), .v (.int .i64 p0_2), .v (.int .i64 p0_3), .v (.int .i64 p0_4), .mp 2]), (1, .ex (pO HCell.D 63 p0_0) []), (2, .omap Kn.str (Vn.int .i64) p0_5)] ++ ((fun (s : Int) => ([(3, .cells 3 [.v (.int .i64 s)])] : SH)) 0 ++ []), 5⟩) (Imp.to [0, 1, 2, 3, 4] (by rfl) (by rfl) rfl rfl) ?_
 refine RFO [6] (Yn.one (Vn.int .i64)) [(4, .cells 90 [.p 0 0]), (0, .cells 54 [.sl 1, .v (.int .u8 p0_1), .v (.int .i64 p0_2), .v (.int .i64 p0_3), .v (.int .i64 p0_4), .mp 2]), (1, .ex (pO HCell.D 63 p0_0) []), (2, .omap Kn.str (Vn.int .i64) p0_5)] (fun (s : Int) => [(3, .cells 3 [.v (.int .i64 s)])]) [] 5 4 [4, 0, 1, 2] [.p 0 0] 90 [.p 1 0] [(1, .cells 54 [.sl 2, .v (.int .u8 p0_1), .v (.int .i64 p0_2), .v (.int .i64 p0_3), .v (.int .i64 p0_4), .mp 3]), (2, .ex (pO HCell.D 63 p0_0) []), (3, .omap Kn.str (Vn.int .i64) p0_5)] (fun (s : Int) (y : Int) => fn26_r1 s y) 0 o5.1 o5.2 Try.call45 (by rfl) (by rfl) (by rfl) (by rfl) (fun _ _ => rfl) (fun _ => trivial) (fun _ => by rfl) (fun yv J => c45 F (stepR (fun (s : Int) (y : Int) => fn26_r1 s y)) goR p0_0 p0_1 p0_2 p0_3 p0_4 p0_5 (0, 0) o5 ho6 yv J) ?_ ?_
 ·clear h ho6
  rintro l1 w1 R1 ρ1 pA pB QA QB x2 y1 s1' m1' h hbg3 hend4
  change fn26_r1 x2 y1 = _ at h
  rw [fn26_r1] at h
  refine RU tbOk false 999 1 [] aN (by rfl) ?_
  refine hbg3 _ _ _ (by rfl) ?_
  refine RU tbOk false 999 2 [] aN (by rfl) ?_
  cases Option.some.inj h
  exact hend4 _ (Imp.to [0, 1, 2, 3, 4, 5] (by rfl) (by rfl) rfl rfl)
 ·intro r7
  refine CDS h (fun h hb9 => ?_) (fun h hb9 => ?_)
  ·rw [show o5.2 = 0 from Nat.eq_of_beq_eq_true hb9]
   change fn26_k1_0 o5.1 = _ at h
   rw [fn26_k1_0] at h
   refine RU tbOk false 999 1 [.mi] aN (by rfl) ?_
   refine PX_ ?_
   refine RU tbOk false 999 0 [] aN (by rfl) ?_
   have hr := Option.some.inj h
   subst hr
   exact TPM_ [(5, r7)] [0, 1, 2] ⟨rfl, trivial⟩
  refine CDS h (fun h hb10 => ?_) (fun h hb10 => ?_)
  ·rw [show o5.2 = 1 from Nat.eq_of_beq_eq_true hb10]
   change fn26_k1_1 o5.1 = _ at h
   rw [fn26_k1_1] at h
   refine RU tbOk false 999 0 [] aN (by rfl) ?_
   have hr := Option.some.inj h
   subst hr
   exact TOM_ tbOk.t [(5, r7)] Try.results26 [0, 1, 2] ⟨rfl, trivial⟩
  cases h
theorem c26_0 (F : Nat) (p0_0 : List HCell) (p0_1 : Int) (p0_2 : Int) (p0_3 : Int) (p0_4 : Int) (p0_5 : List (ByteArray × Int)) (r : Int) (h : fn26 F p0_0 p0_1 p0_2 p0_3 p0_4 p0_5 = some (.inl r)) : ConX Try.prog 26 [.p 0 0] [(0, .cells 54 [.sl 1, .v (.int .u8 p0_1), .v (.int .i64 p0_2), .v (.int .i64 p0_3), .v (.int .i64 p0_4), .mp 2]), (1, .ex (pO HCell.D 63 p0_0) []), (2, .omap Kn.str (Vn.int .i64) p0_5)] 3 (.iface 30 (.int .i64 r)) [(0, .cells 54 [.sl 1, .v (.int .u8 p0_1), .v (.int .i64 p0_2), .v (.int .i64 p0_3), .v (.int .i64 p0_4), .mp 2]), (1, .ex (pO HCell.D 63 p0_0) []), (2, .omap Kn.str (Vn.int .i64) p0_5)] 3 := c26 F p0_0 p0_1 p0_2 p0_3 p0_4 p0_5 _ h
theorem c26_1 (F : Nat) (p0_0 : List HCell) (p0_1 : Int) (p0_2 : Int) (p0_3 : Int) (p0_4 : Int) (p0_5 : List (ByteArray × Int)) (r : Int) (h : fn26 F p0_0 p0_1 p0_2 p0_3 p0_4 p0_5 = some (.inr r)) : Con Try.prog 26 [.p 0 0] [(0, .cells 54 [.sl 1, .v (.int .u8 p0_1), .v (.int .i64 p0_2), .v (.int .i64 p0_3), .v (.int .i64 p0_4), .mp 2]), (1, .ex (pO HCell.D 63 p0_0) []), (2, .omap Kn.str (Vn.int .i64) p0_5)] 3 (.v (.int .i64 r)) [(0, .cells 54 [.sl 1, .v (.int .u8 p0_1), .v (.int .i64 p0_2), .v (.int .i64 p0_3), .v (.int .i64 p0_4), .mp 2]), (1, .ex (pO HCell.D 63 p0_0) []), (2, .omap Kn.str (Vn.int .i64) p0_5)] 3 := c26 F p0_0 p0_1 p0_2 p0_3 p0_4 p0_5 _ h
def fn23 (p0_0 : List HCell) (p0_1 : Int) (p0_2 : Int) (p0_3 : Int) (p0_4 : Int) (p0_5 : List (ByteArray × Int)) (p1 : Int) : Option (Int ⊕ Int) :=
 bif decide ((0 : Int) ≤ p1) then (frk2 (fn19 (decide (p1 < (p0_0.length : Int))) 6) (fun v2 => some ((.inl v2))) (fun v4 => bif inb p1 p0_0.length then (some ((.inr p1))) else none)) else (frk1 (fn19v1 6) (fun v7 => some ((.inl v7))))
theorem c23 (p0_0 : List HCell) (p0_1 : Int) (p0_2 : Int) (p0_3 : Int) (p0_4 : Int) (p0_5 : List (ByteArray × Int)) (p1 : Int) (r : Int ⊕ Int) (h : fn23 p0_0 p0_1 p0_2 p0_3 p0_4 p0_5 p1 = some r) : ConO Try.prog 23 [.p 0 0, .v (.int .i64 p1)] [(0, .cells 54 [.sl 1, .v (.int .u8 p0_1), .v (.int .i64 p0_2), .v (.int .i64 p0_3), .v (.int .i64 p0_4), .mp 2]), (1, .ex (pO HCell.D 63 p0_0) []), (2, .omap Kn.str (Vn.int .i64) p0_5)] 3 (match r with | .inl r => .pan (.iface 30 (.int .i64 r)) [(0, .cells 54 [.sl 1, .v (.int .u8 p0_1), .v (.int .i64 p0_2), .v (.int .i64 p0_3), .v (.int .i64 p0_4), .mp 2]), (1, .ex (pO HCell.D 63 p0_0) []), (2, .omap Kn.str (Vn.int .i64) p0_5)] 3 | .inr r => .ret (.e 1 r 2 0) [(0, .cells 54 [.sl 1, .v (.int .u8 p0_1), .v (.int .i64 p0_2), .v (.int .i64 p0_3), .v (.int .i64 p0_4), .mp 2]), (1, .ex (pO HCell.D 63 p0_0) []), (2, .omap Kn.str (Vn.int .i64) p0_5)] 3) := by
 rw [fn23] at h
 refine ConO.of_body Try.func23 Try.ntmps23 fun w F0 ρ => ?_
 refine RU tbOk false 999 3 [] aN (by rfl) ?_
 refine CDS h (fun h hb1 => ?_) (fun h hb1 => ?_)
 ·refine RU (tbOk.lit [(6, 7, true)]) false 999 9 [.no HCell.D 63 _ none] (aC hb1 (aR aN)) (by rfl) ?_
  refine fk2 h (fun v2 hv3 h => ?_) (fun v4 hv5 h => ?_)
  ·refine RU tbOk false 999 0 [] aN (by rfl) ?_
   refine G4.imp Imp.refl ?_
   refine CX_ tbOk [] (c19_0 (decide (p1 < (p0_0.length : Int))) 6 v2 hv3) (aK aN) ?_
   refine RU tbOk false 999 0 [] aN (by rfl) ?_
   have hr := Option.some.inj h
   subst hr
   exact TP_ [0, 1, 2]
  ·refine RU tbOk false 999 1 [.cl true [] (fun _ => c19_1 (decide (p1 < (p0_0.length : Int))) 6 v4 hv5)] (aK aN) (by rfl) ?_
   refine RU tbOk false 999 0 [] aN (by rfl) ?_
   obtain ⟨hk6, h⟩ := ck h
   refine RU tbOk false 999 7 [.io HCell.D 63 _ none] (aR (aC hk6 aN)) (by rfl) ?_
   have hr := Option.some.inj h
   subst hr
   exact TO_ tbOk.t Try.results23 [0, 1, 2]
 ·refine RU (tbOk.lit [(6, 7, false)]) false 999 9 [] (aC hb1 aN) (by rfl) ?_
  refine fk1 h (fun v7 hv8 h => ?_)
  ·refine RU tbOk false 999 0 [] aN (by rfl) ?_
   refine G4.imp Imp.refl ?_
   refine CX_ tbOk [] (c19v1_0 6 v7 hv8) (aK aN) ?_
   refine RU tbOk false 999 0 [] aN (by rfl) ?_
   have hr := Option.some.inj h
   subst hr
   exact TP_ [0, 1, 2]
theorem c23_0 (p0_0 : List HCell) (p0_1 : Int) (p0_2 : Int) (p0_3 : Int) (p0_4 : Int) (p0_5 : List (ByteArray × Int)) (p1 : Int) (r : Int) (h : fn23 p0_0 p0_1 p0_2 p0_3 p0_4 p0_5 p1 = some (.inl r)) : ConX Try.prog 23 [.p 0 0, .v (.int .i64 p1)] [(0, .cells 54 [.sl 1, .v (.int .u8 p0_1), .v (.int .i64 p0_2), .v (.int .i64 p0_3), .v (.int .i64 p0_4), .mp 2]), (1, .ex (pO HCell.D 63 p0_0) []), (2, .omap Kn.str (Vn.int .i64) p0_5)] 3 (.iface 30 (.int .i64 r)) [(0, .cells 54 [.sl 1, .v (.int .u8 p0_1), .v (.int .i64 p0_2), .v (.int .i64 p0_3), .v (.int .i64 p0_4), .mp 2]), (1, .ex (pO HCell.D 63 p0_0) []), (2, .omap Kn.str (Vn.int .i64) p0_5)] 3 := c23 p0_0 p0_1 p0_2 p0_3 p0_4 p0_5 p1 _ h
theorem c23_1 (p0_0 : List HCell) (p0_1 : Int) (p0_2 : Int) (p0_3 : Int) (p0_4 : Int) (p0_5 : List (ByteArray × Int)) (p1 : Int) (r : Int) (h : fn23 p0_0 p0_1 p0_2 p0_3 p0_4 p0_5 p1 = some (.inr r)) : Con Try.prog 23 [.p 0 0, .v (.int .i64 p1)] [(0, .cells 54 [.sl 1, .v (.int .u8 p0_1), .v (.int .i64 p0_2), .v (.int .i64 p0_3), .v (.int .i64 p0_4), .mp 2]), (1, .ex (pO HCell.D 63 p0_0) []), (2, .omap Kn.str (Vn.int .i64) p0_5)] 3 (.e 1 r 2 0) [(0, .cells 54 [.sl 1, .v (.int .u8 p0_1), .v (.int .i64 p0_2), .v (.int .i64 p0_3), .v (.int .i64 p0_4), .mp 2]), (1, .ex (pO HCell.D 63 p0_0) []), (2, .omap Kn.str (Vn.int .i64) p0_5)] 3 := c23 p0_0 p0_1 p0_2 p0_3 p0_4 p0_5 p1 _ h
def fn25v1 (F : Nat) (p0_0_0 : List HCell) (p0_0_1 : Int) (p0_0_2 : Int) (p0_0_3 : Int) (p0_0_4 : Int) (p0_0_5 : List (ByteArray × Int)) (p1 : List Int) (p2 : List Int) (p3 : Int) : Option (((List HCell) × (List (ByteArray × Int)) × Int) ⊕ (Int × (List HCell) × (List (ByteArray × Int)))) :=
 frk2 (fn22v1 p0_0_0 p0_0_1 p0_0_2 p0_0_3 p0_0_4 p0_0_5 p1) (fun v1 => some ((.inl (p0_0_0, p0_0_5, v1)))) (fun v3 => frk2 (fn19 (((p2.length : Int) == p0_0_3) && (decide (p3 ≤ 2))) 2) (fun v5 => some ((.inl (p0_0_0, p0_0_5, v5)))) (fun v7 => frk2 (fn19 ((!v3.2) || (p3 != 1)) 7) (fun v9 => some ((.inl (p0_0_0, p0_0_5, v9)))) (fun v11 => frk2 (fn19 (v3.2 || (p3 != 2)) 6) (fun v13 => some ((.inl (p0_0_0, p0_0_5, v13)))) (fun v15 => bif !v3.2 then (frk2 (fn26 F p0_0_0 p0_0_1 p0_0_2 p0_0_3 p0_0_4 p0_0_5) (fun v18 => some ((.inl (p0_0_0, p0_0_5, v18)))) (fun v20 => frk2 (fn23 p0_0_0 p0_0_1 p0_0_2 p0_0_3 p0_0_4 (mput p0_0_5 (strOfNums p1) v20) v20) (fun v22 => some ((.inl (p0_0_0, mput p0_0_5 (strOfNums p1) v20, v22)))) (fun v24 => bif inb v24 p0_0_0.length then (some ((.inr (((min p2.length ((((gt p0_0_0 v24).fthing).length) - 0) : Nat) : Int), p0_0_0.set v24.toNat (⟨(⟨true, (gt p0_0_0 v24).fthing⟩ : HCell).fused, pasteX ((gt p0_0_0 v24).fthing) 0 (p2.take ((((gt p0_0_0 v24).fthing).length) - 0))⟩ : HCell), mput p0_0_5 (strOfNums p1) v20)))) else none))) else (frk2 (fn23 p0_0_0 p0_0_1 p0_0_2 p0_0_3 p0_0_4 p0_0_5 v3.1) (fun v27 => some ((.inl (p0_0_0, p0_0_5, v27)))) (fun v29 => bif inb v29 p0_0_0.length then (some ((.inr (((min p2.length ((((gt p0_0_0 v29).fthing).length) - 0) : Nat) : Int), p0_0_0.set v29.toNat (⟨(⟨true, (gt p0_0_0 v29).fthing⟩ : HCell).fused, pasteX ((gt p0_0_0 v29).fthing) 0 (p2.take ((((gt p0_0_0 v29).fthing).length) - 0))⟩ : HCell), p0_0_5)))) else none))))))
theorem c25v1 (F : Nat) (p0_0_0 : List HCell) (p0_0_1 : Int) (p0_0_2 : Int) (p0_0_3 : Int) (p0_0_4 : Int) (p0_0_5 : List (ByteArray × Int)) (p1 : List Int) (p2 : List Int) (p3 : Int) (r : ((List HCell) × (List (ByteArray × Int)) × Int) ⊕ (Int × (List HCell) × (List (ByteArray × Int)))) (h : fn25v1 F p0_0_0 p0_0_1 p0_0_2 p0_0_3 p0_0_4 p0_0_5 p1 p2 p3 = some r) : ConO Try.prog 25 [.p 0 0, .p 4 0, .p 6 0, .p 8 0] [(0, .cells 29 [.p 1 0]), (1, .cells 54 [.sl 2, .v (.int .u8 p0_0_1), .v (.int .i64 p0_0_2), .v (.int .i64 p0_0_3), .v (.int .i64 p0_0_4), .mp 3]), (2, .ex (pO HCell.D 63 p0_0_0) []), (3, .omap Kn.str (Vn.int .i64) p0_0_5), (4, .cells 35 [.sl 5]), (5, .rd (Et.int .u8) p1), (6, .cells 35 [.sl 7]), (7, .rd (Et.int .u8) p2), (8, .cells 36 [.v (.int .u64 p3)])] 9 (match r with | .inl r => .pan (.iface 30 (.int .i64 r.2.2)) [(0, .cells 29 [.p 1 0]), (1, .cells 54 [.sl 2, .v (.int .u8 p0_0_1), .v (.int .i64 p0_0_2), .v (.int .i64 p0_0_3), .v (.int .i64 p0_0_4), .mp 3]), (2, .ex (pO HCell.D 63 r.1) []), (3, .omap Kn.str (Vn.int .i64) r.2.1), (4, .cells 35 [.sl 5]), (6, .cells 35 [.sl 7]), (8, .cells 36 [.v (.int .u64 p3)])] 9 | .inr r => .ret (.v (.int .i64 r.1)) [(0, .cells 29 [.p 1 0]), (1, .cells 54 [.sl 2, .v (.int .u8 p0_0_1), .v (.int .i64 p0_0_2), .v (.int .i64 p0_0_3), .v (.int .i64 p0_0_4), .mp 3]), (2, .ex (pO HCell.D 63 r.2.1) []), (3, .omap Kn.str (Vn.int .i64) r.2.2), (4, .cells 35 [.sl 5]), (6, .cells 35 [.sl 7]), (8, .cells 36 [.v (.int .u64 p3)])] 9) := by
 rw [fn25v1] at h
 refine ConO.of_body Try.func25 Try.ntmps25 fun w F0 ρ => ?_
 refine RU tbOk false 999 3 [] aN (by rfl) ?_
 refine fk2 h (fun v1 hv2 h => ?_) (fun v3 hv4 h => ?_)
 ·refine RU tbOk false 999 0 [] aN (by rfl) ?_
  refine CX_ tbOk [1, 2, 3, 5] (c22v1_0 p0_0_0 p0_0_1 p0_0_2 p0_0_3 p0_0_4 p0_0_5 p1 v1 hv2) (aK aN) ?_
  refine RU tbOk false 999 0 [] aN (by rfl) ?_
  have hr := Option.some.inj h
  subst hr
  exact TP_ [0, 1, 2, 3, 4, 5, 6, 7, 8]
 ·refine RU tbOk false 999 1 [.cl true [1, 2, 3, 5] (fun _ => c22v1_1 p0_0_0 p0_0_1 p0_0_2 p0_0_3 p0_0_4 p0_0_5 p1 v3 hv4)] (aK aN) (by rfl) ?_
  refine RU tbOk false 999 5 [] aN (by rfl) ?_
  refine fk2 h (fun v5 hv6 h => ?_) (fun v7 hv8 h => ?_)
  ·refine DC_ tbOk hmix 12 [([6], []), ([7], []), ([0], []), ([], []), ([], []), ([], []), ([1], []), ([], []), ([], []), ([8], []), ([], []), ([], [])] [] (aR (aR (aR (aR aN)))) [] (c19_0 (((p2.length : Int) == p0_0_3) && (decide (p3 ≤ 2))) 2 v5 hv6) (aK aN) [25] ?_
   refine RU tbOk false 999 0 [] aN (by rfl) ?_
   have hr := Option.some.inj h
   subst hr
   exact TP_ [0, 1, 2, 3, 4, 5, 6, 7, 8]
  ·refine DR tbOk hmix [] [([6], []), ([7], []), ([0], []), ([], []), ([], []), ([], []), ([1], []), ([], []), ([], []), ([8], []), ([], []), ([], []), ([], [])] [.cl true [] (fun _ => c19_1 (((p2.length : Int) == p0_0_3) && (decide (p3 ≤ 2))) 2 v7 hv8)] (aR (aR (aR (aR (aK aN))))) (by rfl) ?_
   refine RU tbOk false 999 6 [] aN (by rfl) ?_
   refine fk2 h (fun v9 hv10 h => ?_) (fun v11 hv12 h => ?_)
   ·refine RU tbOk false 999 0 [] aN (by rfl) ?_
    refine G4.imp Imp.refl ?_
    refine CX_ tbOk [] (c19_0 ((!v3.2) || (p3 != 1)) 7 v9 hv10) (aK aN) ?_
    refine RU tbOk false 999 0 [] aN (by rfl) ?_
    have hr := Option.some.inj h
    subst hr
    exact TP_ [0, 1, 2, 3, 4, 5, 6, 7, 8]
   ·refine RU tbOk false 999 6 [.cl true [] (fun _ => c19_1 ((!v3.2) || (p3 != 1)) 7 v11 hv12)] (aK aN) (by rfl) ?_
    refine fk2 h (fun v13 hv14 h => ?_) (fun v15 hv16 h => ?_)
    ·refine RU tbOk false 999 0 [] aN (by rfl) ?_
     refine G4.imp Imp.refl ?_
     refine CX_ tbOk [] (c19_0 (v3.2 || (p3 != 2)) 6 v13 hv14) (aK aN) ?_
     refine RU tbOk false 999 0 [] aN (by rfl) ?_
     have hr := Option.some.inj h
     subst hr
     exact TP_ [0, 1, 2, 3, 4, 5, 6, 7, 8]
    ·refine RU tbOk false 999 3 [.cl true [] (fun _ => c19_1 (v3.2 || (p3 != 2)) 6 v15 hv16)] (aK aN) (by rfl) ?_
     refine CD h (by rfl) (fun h hb17 => ?_) (fun h hb17 => ?_)
     ·refine RU tbOk false 999 3 [] aN (by rfl) ?_
      refine fk2 h (fun v18 hv19 h => ?_) (fun v20 hv21 h => ?_)
      ·refine RU tbOk false 999 0 [] aN (by rfl) ?_
       refine CX_ tbOk [1, 2, 3] (c26_0 F p0_0_0 p0_0_1 p0_0_2 p0_0_3 p0_0_4 p0_0_5 v18 hv19) (aK aN) ?_
       refine RU tbOk false 999 0 [] aN (by rfl) ?_
       have hr := Option.some.inj h
       subst hr
       exact TP_ [0, 1, 2, 3, 4, 5, 6, 7, 8]
      ·refine RU tbOk false 999 1 [.cl true [1, 2, 3] (fun _ => c26_1 F p0_0_0 p0_0_1 p0_0_2 p0_0_3 p0_0_4 p0_0_5 v20 hv21)] (aK aN) (by rfl) ?_
       refine RU tbOk false 999 1 [] aN (by rfl) ?_
       refine DR tbOk hmix [] [([0], []), ([], []), ([], []), ([1], []), ([4], []), ([5], []), ([], []), ([3], [3])] [.b2 _, .mu Kn.str (Vn.int .i64) _ (strOfNums p1) v20 Try.runUnderlying34 Try.runUnderlying9] (aR (aR (aR (aR (aR (aR (aR (aR (aR aN))))))))) (by rfl) ?_
       refine RU tbOk false 999 4 [] aN (by rfl) ?_
       refine fk2 h (fun v22 hv23 h => ?_) (fun v24 hv25 h => ?_)
       ·refine RU tbOk false 999 0 [] aN (by rfl) ?_
        refine CX_ tbOk [1, 2, 3] (c23_0 p0_0_0 p0_0_1 p0_0_2 p0_0_3 p0_0_4 (mput p0_0_5 (strOfNums p1) v20) v20 v22 hv23) (aK aN) ?_
        refine RU tbOk false 999 0 [] aN (by rfl) ?_
        have hr := Option.some.inj h
        subst hr
        exact TP_ [0, 1, 2, 3, 4, 5, 6, 7, 8]
       ·refine RU tbOk false 999 1 [.cl true [1, 2, 3] (fun _ => c23_1 p0_0_0 p0_0_1 p0_0_2 p0_0_3 p0_0_4 (mput p0_0_5 (strOfNums p1) v20) v20 v24 hv25)] (aK aN) (by rfl) ?_
        obtain ⟨hk26, h⟩ := ck h
        refine RU tbOk false 999 4 [] aN (by rfl) ?_
        refine G4.imp (Imp.openO 2 v24 hk26 (by rfl)) ?_
        refine RU tbOk false 999 1 [.sh HCell.D 63 _ _ (gt p0_0_0 v24) (⟨true, (gt p0_0_0 v24).fthing⟩ : HCell) 9 _ _ _] (aR (aR (aR (aR aN)))) (by rfl) ?_
        refine DR tbOk hmix [4] [([], []), ([], []), ([], []), ([2], []), ([6], []), ([7, 9], [9]), ([], [])] [.lh HCell.D 63 _ _ (⟨true, (gt p0_0_0 v24).fthing⟩ : HCell), .co (Et.int .u8) 9 _ _] (aR (aR (aR (aR (aR (aR (aR (aC bleR aN)))))))) (by rfl) ?_
        refine RU tbOk false 999 0 [] aN (by rfl) ?_
        refine G4.imp (Imp.closeO 2 9 (by rfl) (by rfl) (by rfl)) ?_
        have hr := Option.some.inj h
        subst hr
        exact TO_ tbOk.t Try.results25 [0, 1, 2, 3, 4, 5, 6, 7, 8]
     ·refine RU tbOk false 999 4 [] aN (by rfl) ?_
      refine fk2 h (fun v27 hv28 h => ?_) (fun v29 hv30 h => ?_)
      ·refine RU tbOk false 999 0 [] aN (by rfl) ?_
       refine CX_ tbOk [1, 2, 3] (c23_0 p0_0_0 p0_0_1 p0_0_2 p0_0_3 p0_0_4 p0_0_5 v3.1 v27 hv28) (aK aN) ?_
       refine RU tbOk false 999 0 [] aN (by rfl) ?_
       have hr := Option.some.inj h
       subst hr
       exact TP_ [0, 1, 2, 3, 4, 5, 6, 7, 8]
      ·refine RU tbOk false 999 1 [.cl true [1, 2, 3] (fun _ => c23_1 p0_0_0 p0_0_1 p0_0_2 p0_0_3 p0_0_4 p0_0_5 v3.1 v29 hv30)] (aK aN) (by rfl) ?_
       obtain ⟨hk31, h⟩ := ck h
       refine RU tbOk false 999 4 [] aN (by rfl) ?_
       refine G4.imp (Imp.openO 2 v29 hk31 (by rfl)) ?_
       refine RU tbOk false 999 1 [.sh HCell.D 63 _ _ (gt p0_0_0 v29) (⟨true, (gt p0_0_0 v29).fthing⟩ : HCell) 9 _ _ _] (aR (aR (aR (aR aN)))) (by rfl) ?_
       refine DR tbOk hmix [4] [([], []), ([], []), ([], []), ([2], []), ([6], []), ([7, 9], [9]), ([], [])] [.lh HCell.D 63 _ _ (⟨true, (gt p0_0_0 v29).fthing⟩ : HCell), .co (Et.int .u8) 9 _ _] (aR (aR (aR (aR (aR (aR (aR (aC bleR aN)))))))) (by rfl) ?_
       refine RU tbOk false 999 0 [] aN (by rfl) ?_
       refine G4.imp (Imp.closeO 2 9 (by rfl) (by rfl) (by rfl)) ?_
       have hr := Option.some.inj h
       subst hr
       exact TO_ tbOk.t Try.results25 [0, 1, 2, 3, 4, 5, 6, 7, 8]
theorem c25v1_0 (F : Nat) (p0_0_0 : List HCell) (p0_0_1 : Int) (p0_0_2 : Int) (p0_0_3 : Int) (p0_0_4 : Int) (p0_0_5 : List (ByteArray × Int)) (p1 : List Int) (p2 : List Int) (p3 : Int) (r : (List HCell) × (List (ByteArray × Int)) × Int) (h : fn25v1 F p0_0_0 p0_0_1 p0_0_2 p0_0_3 p0_0_4 p0_0_5 p1 p2 p3 = some (.inl r)) : ConX Try.prog 25 [.p 0 0, .p 4 0, .p 6 0, .p 8 0] [(0, .cells 29 [.p 1 0]), (1, .cells 54 [.sl 2, .v (.int .u8 p0_0_1), .v (.int .i64 p0_0_2), .v (.int .i64 p0_0_3), .v (.int .i64 p0_0_4), .mp 3]), (2, .ex (pO HCell.D 63 p0_0_0) []), (3, .omap Kn.str (Vn.int .i64) p0_0_5), (4, .cells 35 [.sl 5]), (5, .rd (Et.int .u8) p1), (6, .cells 35 [.sl 7]), (7, .rd (Et.int .u8) p2), (8, .cells 36 [.v (.int .u64 p3)])] 9 (.iface 30 (.int .i64 r.2.2)) [(0, .cells 29 [.p 1 0]), (1, .cells 54 [.sl 2, .v (.int .u8 p0_0_1), .v (.int .i64 p0_0_2), .v (.int .i64 p0_0_3), .v (.int .i64 p0_0_4), .mp 3]), (2, .ex (pO HCell.D 63 r.1) []), (3, .omap Kn.str (Vn.int .i64) r.2.1), (4, .cells 35 [.sl 5]), (6, .cells 35 [.sl 7]), (8, .cells 36 [.v (.int .u64 p3)])] 9 := c25v1 F p0_0_0 p0_0_1 p0_0_2 p0_0_3 p0_0_4 p0_0_5 p1 p2 p3 _ h
theorem c25v1_1 (F : Nat) (p0_0_0 : List HCell) (p0_0_1 : Int) (p0_0_2 : Int) (p0_0_3 : Int) (p0_0_4 : Int) (p0_0_5 : List (ByteArray × Int)) (p1 : List Int) (p2 : List Int) (p3 : Int) (r : Int × (List HCell) × (List (ByteArray × Int))) (h : fn25v1 F p0_0_0 p0_0_1 p0_0_2 p0_0_3 p0_0_4 p0_0_5 p1 p2 p3 = some (.inr r)) : Con Try.prog 25 [.p 0 0, .p 4 0, .p 6 0, .p 8 0] [(0, .cells 29 [.p 1 0]), (1, .cells 54 [.sl 2, .v (.int .u8 p0_0_1), .v (.int .i64 p0_0_2), .v (.int .i64 p0_0_3), .v (.int .i64 p0_0_4), .mp 3]), (2, .ex (pO HCell.D 63 p0_0_0) []), (3, .omap Kn.str (Vn.int .i64) p0_0_5), (4, .cells 35 [.sl 5]), (5, .rd (Et.int .u8) p1), (6, .cells 35 [.sl 7]), (7, .rd (Et.int .u8) p2), (8, .cells 36 [.v (.int .u64 p3)])] 9 (.v (.int .i64 r.1)) [(0, .cells 29 [.p 1 0]), (1, .cells 54 [.sl 2, .v (.int .u8 p0_0_1), .v (.int .i64 p0_0_2), .v (.int .i64 p0_0_3), .v (.int .i64 p0_0_4), .mp 3]), (2, .ex (pO HCell.D 63 r.2.1) []), (3, .omap Kn.str (Vn.int .i64) r.2.2), (4, .cells 35 [.sl 5]), (6, .cells 35 [.sl 7]), (8, .cells 36 [.v (.int .u64 p3)])] 9 := c25v1 F p0_0_0 p0_0_1 p0_0_2 p0_0_3 p0_0_4 p0_0_5 p1 p2 p3 _ h
def fn39v1 (p0 : Int) (p1 : Int) : Unit :=
 ()
theorem c39v1 (p0 : Int) (p1 : Int) (r : Unit) (h : fn39v1 p0 p1 = r) : ConD Try.prog 39 [.p 0 0, .p 1 0] [(0, .cells 30 [.v (.int .i64 p0)]), (1, .cells 3 [.v (.int .i64 p1)])] 2 .ret [(0, .cells 30 [.v (.int .i64 p0)]), (1, .cells 3 [.v (.int .i64 p1)])] 2 := by
 rw [fn39v1] at h
 refine ConD.of_body Try.func39 Try.ntmps39 fun w F0 ρ => ?_
 refine RU tbOk false 999 2 [.ni] aN (by rfl) ?_
 refine CDF rfl (by rfl) ?_
 refine RU tbOk false 999 0 [] aN (by rfl) ?_
 subst h
 exact TQN_ Try.results39 [0, 1]
def fn24v2 (F : Nat) (p0c0_0_0 : List HCell) (p0c0_0_1 : Int) (p0c0_0_2 : Int) (p0c0_0_3 : Int) (p0c0_0_4 : Int) (p0c0_0_5 : List (ByteArray × Int)) (p0c1 : List Int) (p0c2 : List Int) (p0c3 : Int) : Option (Int × Int × (List HCell) × (List (ByteArray × Int))) :=
 frk2 (fn25v1 F p0c0_0_0 p0c0_0_1 p0c0_0_2 p0c0_0_3 p0c0_0_4 p0c0_0_5 p0c1 p0c2 p0c3) (fun v2 => some (((fn39 0 0 v2.2.2).2, (fn39 0 0 v2.2.2).1, v2.1, v2.2.1))) (fun v4 => some ((v4.1, 0, v4.2.1, v4.2.2)))
theorem c24v2 (F : Nat) (p0c0_0_0 : List HCell) (p0c0_0_1 : Int) (p0c0_0_2 : Int) (p0c0_0_3 : Int) (p0c0_0_4 : Int) (p0c0_0_5 : List (ByteArray × Int)) (p0c1 : List Int) (p0c2 : List Int) (p0c3 : Int) (r : Int × Int × (List HCell) × (List (ByteArray × Int))) (h : fn24v2 F p0c0_0_0 p0c0_0_1 p0c0_0_2 p0c0_0_3 p0c0_0_4 p0c0_0_5 p0c1 p0c2 p0c3 = some r) : ConO Try.prog 24 [.fn (.func 25) [] [.p 0 0, .p 4 0, .p 6 0, .p 8 0]] [(0, .cells 29 [.p 1 0]), (1, .cells 54 [.sl 2, .v (.int .u8 p0c0_0_1), .v (.int .i64 p0c0_0_2), .v (.int .i64 p0c0_0_3), .v (.int .i64 p0c0_0_4), .mp 3]), (2, .ex (pO HCell.D 63 p0c0_0_0) []), (3, .omap Kn.str (Vn.int .i64) p0c0_0_5), (4, .cells 35 [.sl 5]), (5, .rd (Et.int .u8) p0c1), (6, .cells 35 [.sl 7]), (7, .rd (Et.int .u8) p0c2), (8, .cells 36 [.v (.int .u64 p0c3)])] 9 (.ret (.tu [.v (.int .i64 r.1), .v (.int .i64 r.2.1)]) [(0, .cells 29 [.p 1 0]), (1, .cells 54 [.sl 2, .v (.int .u8 p0c0_0_1), .v (.int .i64 p0c0_0_2), .v (.int .i64 p0c0_0_3), .v (.int .i64 p0c0_0_4), .mp 3]), (2, .ex (pO HCell.D 63 r.2.2.1) []), (3, .omap Kn.str (Vn.int .i64) r.2.2.2), (4, .cells 35 [.sl 5]), (6, .cells 35 [.sl 7]), (8, .cells 36 [.v (.int .u64 p0c3)])] 9) := by
 rw [fn24v2] at h
 refine ConO.of_body Try.func24 Try.ntmps24 fun w F0 ρ => ?_
 refine RU tbOk false 999 3 [] aN (by rfl) ?_
 refine DF_ (fun vs1 => ?_)
 refine RU tbOk false 999 1 [] aN (by rfl) ?_
 refine fk2 h (fun v2 hv3 h => ?_) (fun v4 hv5 h => ?_)
 ·refine RU tbOk false 999 0 [] aN (by rfl) ?_
  refine CX_ tbOk [0, 1, 2, 3, 4, 5, 6, 7, 8] (c25v1_0 F p0c0_0_0 p0c0_0_1 p0c0_0_2 p0c0_0_3 p0c0_0_4 p0c0_0_5 p0c1 p0c2 p0c3 v2 hv3) (aK aN) ?_
  refine RU tbOk false 999 0 [] aN (by rfl) ?_
  have hr := Option.some.inj h
  subst hr
  exact TDP_ tbOk Try.results24 11 [10, 9] (c39 0 0 v2.2.2 _ rfl) [0, 1, 2, 3, 4, 5, 6, 7, 8]
 ·refine RU tbOk false 999 1 [.cl true [0, 1, 2, 3, 4, 5, 6, 7, 8] (fun _ => c25v1_1 F p0c0_0_0 p0c0_0_1 p0c0_0_2 p0c0_0_3 p0c0_0_4 p0c0_0_5 p0c1 p0c2 p0c3 v4 hv5)] (aK aN) (by rfl) ?_
  refine RU tbOk false 999 2 [] aN (by rfl) ?_
  have hr := Option.some.inj h
  subst hr
  exact TD_ tbOk Try.results24 11 [10, 9] (c39v1 0 v4.1 _ rfl) [0, 1, 2, 3, 4, 5, 6, 7, 8]
theorem c24v2_0 (F : Nat) (p0c0_0_0 : List HCell) (p0c0_0_1 : Int) (p0c0_0_2 : Int) (p0c0_0_3 : Int) (p0c0_0_4 : Int) (p0c0_0_5 : List (ByteArray × Int)) (p0c1 : List Int) (p0c2 : List Int) (p0c3 : Int) (r : Int × Int × (List HCell) × (List (ByteArray × Int))) (h : fn24v2 F p0c0_0_0 p0c0_0_1 p0c0_0_2 p0c0_0_3 p0c0_0_4 p0c0_0_5 p0c1 p0c2 p0c3 = some r) : Con Try.prog 24 [.fn (.func 25) [] [.p 0 0, .p 4 0, .p 6 0, .p 8 0]] [(0, .cells 29 [.p 1 0]), (1, .cells 54 [.sl 2, .v (.int .u8 p0c0_0_1), .v (.int .i64 p0c0_0_2), .v (.int .i64 p0c0_0_3), .v (.int .i64 p0c0_0_4), .mp 3]), (2, .ex (pO HCell.D 63 p0c0_0_0) []), (3, .omap Kn.str (Vn.int .i64) p0c0_0_5), (4, .cells 35 [.sl 5]), (5, .rd (Et.int .u8) p0c1), (6, .cells 35 [.sl 7]), (7, .rd (Et.int .u8) p0c2), (8, .cells 36 [.v (.int .u64 p0c3)])] 9 (.tu [.v (.int .i64 r.1), .v (.int .i64 r.2.1)]) [(0, .cells 29 [.p 1 0]), (1, .cells 54 [.sl 2, .v (.int .u8 p0c0_0_1), .v (.int .i64 p0c0_0_2), .v (.int .i64 p0c0_0_3), .v (.int .i64 p0c0_0_4), .mp 3]), (2, .ex (pO HCell.D 63 r.2.2.1) []), (3, .omap Kn.str (Vn.int .i64) r.2.2.2), (4, .cells 35 [.sl 5]), (6, .cells 35 [.sl 7]), (8, .cells 36 [.v (.int .u64 p0c3)])] 9 := c24v2 F p0c0_0_0 p0c0_0_1 p0c0_0_2 p0c0_0_3 p0c0_0_4 p0c0_0_5 p0c1 p0c2 p0c3 _ h
def fn10v1 (F : Nat) (p0_0 : List HCell) (p0_1 : Int) (p0_2 : Int) (p0_3 : Int) (p0_4 : Int) (p0_5 : List (ByteArray × Int)) (p1 : List Int) (p2 : List Int) (p3 : Int) : Option (Int × (List HCell) × (List (ByteArray × Int))) :=
 frk1 (fn24v2 F p0_0 p0_1 p0_2 p0_3 p0_4 p0_5 p1 p2 p3) (fun v1 => some ((v1.2.1, v1.2.2.1, v1.2.2.2)))
theorem c10v1 (F : Nat) (p0_0 : List HCell) (p0_1 : Int) (p0_2 : Int) (p0_3 : Int) (p0_4 : Int) (p0_5 : List (ByteArray × Int)) (p1 : List Int) (p2 : List Int) (p3 : Int) (r : Int × (List HCell) × (List (ByteArray × Int))) (h : fn10v1 F p0_0 p0_1 p0_2 p0_3 p0_4 p0_5 p1 p2 p3 = some r) : Con Try.prog 10 [.p 0 0, .sl 3, .sl 4, .v (.int .u64 p3)] [(0, .cells 54 [.sl 1, .v (.int .u8 p0_1), .v (.int .i64 p0_2), .v (.int .i64 p0_3), .v (.int .i64 p0_4), .mp 2]), (1, .ex (pO HCell.D 63 p0_0) []), (2, .omap Kn.str (Vn.int .i64) p0_5), (3, .rd (Et.int .u8) p1), (4, .rd (Et.int .u8) p2)] 5 (.v (.int .i64 r.1)) [(0, .cells 54 [.sl 1, .v (.int .u8 p0_1), .v (.int .i64 p0_2), .v (.int .i64 p0_3), .v (.int .i64 p0_4), .mp 2]), (1, .ex (pO HCell.D 63 r.2.1) []), (2, .omap Kn.str (Vn.int .i64) r.2.2)] 5 := by
 rw [fn10v1] at h
 refine Con.of_body Try.func10 rfl Try.ntmps10 rfl fun w F0 ρ => ?_
 refine RU tbOk false 999 6 [] aN (by rfl) ?_
 refine fk1 h (fun v1 hv2 h => ?_)
 ·refine RU tbOk false 999 1 [.cl true [5, 0, 1, 2, 6, 3, 7, 4, 8] (fun _ => c24v2_0 F p0_0 p0_1 p0_2 p0_3 p0_4 p0_5 p1 p2 p3 v1 hv2)] (aK aN) (by rfl) ?_
  refine RU tbOk false 999 7 [] aN (by rfl) ?_
  have hr := Option.some.inj h
  subst hr
  exact RT tbOk.t Try.results10 [0, 1, 2, 3, 4] (by rfl) (by rfl) (by rfl) rfl rfl
def fn27v1 (p0_0_0 : List HCell) (p0_0_1 : Int) (p0_0_2 : Int) (p0_0_3 : Int) (p0_0_4 : Int) (p0_0_5 : List (ByteArray × Int)) (p1 : List Int) : Option (Int ⊕ Int) :=
 frk2 (fn22v1 p0_0_0 p0_0_1 p0_0_2 p0_0_3 p0_0_4 p0_0_5 p1) (fun v1 => some ((.inl v1))) (fun v3 => frk2 (fn19 v3.2 6) (fun v5 => some ((.inl v5))) (fun v7 => some ((.inr v3.1))))
theorem c27v1 (p0_0_0 : List HCell) (p0_0_1 : Int) (p0_0_2 : Int) (p0_0_3 : Int) (p0_0_4 : Int) (p0_0_5 : List (ByteArray × Int)) (p1 : List Int) (r : Int ⊕ Int) (h : fn27v1 p0_0_0 p0_0_1 p0_0_2 p0_0_3 p0_0_4 p0_0_5 p1 = some r) : ConO Try.prog 27 [.p 0 0, .p 4 0] [(0, .cells 29 [.p 1 0]), (1, .cells 54 [.sl 2, .v (.int .u8 p0_0_1), .v (.int .i64 p0_0_2), .v (.int .i64 p0_0_3), .v (.int .i64 p0_0_4), .mp 3]), (2, .ex (pO HCell.D 63 p0_0_0) []), (3, .omap Kn.str (Vn.int .i64) p0_0_5), (4, .cells 35 [.sl 5]), (5, .rd (Et.int .u8) p1)] 6 (match r with | .inl r => .pan (.iface 30 (.int .i64 r)) [(0, .cells 29 [.p 1 0]), (1, .cells 54 [.sl 2, .v (.int .u8 p0_0_1), .v (.int .i64 p0_0_2), .v (.int .i64 p0_0_3), .v (.int .i64 p0_0_4), .mp 3]), (2, .ex (pO HCell.D 63 p0_0_0) []), (3, .omap Kn.str (Vn.int .i64) p0_0_5), (4, .cells 35 [.sl 5])] 6 | .inr r => .ret (.v (.int .i64 r)) [(0, .cells 29 [.p 1 0]), (1, .cells 54 [.sl 2, .v (.int .u8 p0_0_1), .v (.int .i64 p0_0_2), .v (.int .i64 p0_0_3), .v (.int .i64 p0_0_4), .mp 3]), (2, .ex (pO HCell.D 63 p0_0_0) []), (3, .omap Kn.str (Vn.int .i64) p0_0_5), (4, .cells 35 [.sl 5])] 6) := by
 rw [fn27v1] at h
 refine ConO.of_body Try.func27 Try.ntmps27 fun w F0 ρ => ?_
 refine RU tbOk false 999 3 [] aN (by rfl) ?_
 refine fk2 h (fun v1 hv2 h => ?_) (fun v3 hv4 h => ?_)
 ·refine RU tbOk false 999 0 [] aN (by rfl) ?_
  refine CX_ tbOk [1, 2, 3, 5] (c22v1_0 p0_0_0 p0_0_1 p0_0_2 p0_0_3 p0_0_4 p0_0_5 p1 v1 hv2) (aK aN) ?_
  refine RU tbOk false 999 0 [] aN (by rfl) ?_
  have hr := Option.some.inj h
  subst hr
  exact TP_ [0, 1, 2, 3, 4, 5]
 ·refine RU tbOk false 999 1 [.cl true [1, 2, 3, 5] (fun _ => c22v1_1 p0_0_0 p0_0_1 p0_0_2 p0_0_3 p0_0_4 p0_0_5 p1 v3 hv4)] (aK aN) (by rfl) ?_
  refine RU tbOk false 999 6 [] aN (by rfl) ?_
  refine fk2 h (fun v5 hv6 h => ?_) (fun v7 hv8 h => ?_)
  ·refine RU tbOk false 999 0 [] aN (by rfl) ?_
   refine CX_ tbOk [] (c19_0 v3.2 6 v5 hv6) (aK aN) ?_
   refine RU tbOk false 999 0 [] aN (by rfl) ?_
   have hr := Option.some.inj h
   subst hr
   exact TP_ [0, 1, 2, 3, 4, 5]
  ·refine RU tbOk false 999 1 [.cl true [] (fun _ => c19_1 v3.2 6 v7 hv8)] (aK aN) (by rfl) ?_
   refine RU tbOk false 999 2 [] aN (by rfl) ?_
   have hr := Option.some.inj h
   subst hr
   exact TO_ tbOk.t Try.results27 [0, 1, 2, 3, 4, 5]
theorem c27v1_0 (p0_0_0 : List HCell) (p0_0_1 : Int) (p0_0_2 : Int) (p0_0_3 : Int) (p0_0_4 : Int) (p0_0_5 : List (ByteArray × Int)) (p1 : List Int) (r : Int) (h : fn27v1 p0_0_0 p0_0_1 p0_0_2 p0_0_3 p0_0_4 p0_0_5 p1 = some (.inl r)) : ConX Try.prog 27 [.p 0 0, .p 4 0] [(0, .cells 29 [.p 1 0]), (1, .cells 54 [.sl 2, .v (.int .u8 p0_0_1), .v (.int .i64 p0_0_2), .v (.int .i64 p0_0_3), .v (.int .i64 p0_0_4), .mp 3]), (2, .ex (pO HCell.D 63 p0_0_0) []), (3, .omap Kn.str (Vn.int .i64) p0_0_5), (4, .cells 35 [.sl 5]), (5, .rd (Et.int .u8) p1)] 6 (.iface 30 (.int .i64 r)) [(0, .cells 29 [.p 1 0]), (1, .cells 54 [.sl 2, .v (.int .u8 p0_0_1), .v (.int .i64 p0_0_2), .v (.int .i64 p0_0_3), .v (.int .i64 p0_0_4), .mp 3]), (2, .ex (pO HCell.D 63 p0_0_0) []), (3, .omap Kn.str (Vn.int .i64) p0_0_5), (4, .cells 35 [.sl 5])] 6 := c27v1 p0_0_0 p0_0_1 p0_0_2 p0_0_3 p0_0_4 p0_0_5 p1 _ h
theorem c27v1_1 (p0_0_0 : List HCell) (p0_0_1 : Int) (p0_0_2 : Int) (p0_0_3 : Int) (p0_0_4 : Int) (p0_0_5 : List (ByteArray × Int)) (p1 : List Int) (r : Int) (h : fn27v1 p0_0_0 p0_0_1 p0_0_2 p0_0_3 p0_0_4 p0_0_5 p1 = some (.inr r)) : Con Try.prog 27 [.p 0 0, .p 4 0] [(0, .cells 29 [.p 1 0]), (1, .cells 54 [.sl 2, .v (.int .u8 p0_0_1), .v (.int .i64 p0_0_2), .v (.int .i64 p0_0_3), .v (.int .i64 p0_0_4), .mp 3]), (2, .ex (pO HCell.D 63 p0_0_0) []), (3, .omap Kn.str (Vn.int .i64) p0_0_5), (4, .cells 35 [.sl 5]), (5, .rd (Et.int .u8) p1)] 6 (.v (.int .i64 r)) [(0, .cells 29 [.p 1 0]), (1, .cells 54 [.sl 2, .v (.int .u8 p0_0_1), .v (.int .i64 p0_0_2), .v (.int .i64 p0_0_3), .v (.int .i64 p0_0_4), .mp 3]), (2, .ex (pO HCell.D 63 p0_0_0) []), (3, .omap Kn.str (Vn.int .i64) p0_0_5), (4, .cells 35 [.sl 5])] 6 := c27v1 p0_0_0 p0_0_1 p0_0_2 p0_0_3 p0_0_4 p0_0_5 p1 _ h
def fn24v3 (p0c0_0_0 : List HCell) (p0c0_0_1 : Int) (p0c0_0_2 : Int) (p0c0_0_3 : Int) (p0c0_0_4 : Int) (p0c0_0_5 : List (ByteArray × Int)) (p0c1 : List Int) : Option (Int × Int) :=
 frk2 (fn27v1 p0c0_0_0 p0c0_0_1 p0c0_0_2 p0c0_0_3 p0c0_0_4 p0c0_0_5 p0c1) (fun v2 => some (((fn39 0 0 v2).2, (fn39 0 0 v2).1))) (fun v4 => some ((v4, 0)))
theorem c24v3 (p0c0_0_0 : List HCell) (p0c0_0_1 : Int) (p0c0_0_2 : Int) (p0c0_0_3 : Int) (p0c0_0_4 : Int) (p0c0_0_5 : List (ByteArray × Int)) (p0c1 : List Int) (r : Int × Int) (h : fn24v3 p0c0_0_0 p0c0_0_1 p0c0_0_2 p0c0_0_3 p0c0_0_4 p0c0_0_5 p0c1 = some r) : ConO Try.prog 24 [.fn (.func 27) [] [.p 0 0, .p 4 0]] [(0, .cells 29 [.p 1 0]), (1, .cells 54 [.sl 2, .v (.int .u8 p0c0_0_1), .v (.int .i64 p0c0_0_2), .v (.int .i64 p0c0_0_3), .v (.int .i64 p0c0_0_4), .mp 3]), (2, .ex (pO HCell.D 63 p0c0_0_0) []), (3, .omap Kn.str (Vn.int .i64) p0c0_0_5), (4, .cells 35 [.sl 5]), (5, .rd (Et.int .u8) p0c1)] 6 (.ret (.tu [.v (.int .i64 r.1), .v (.int .i64 r.2)]) [(0, .cells 29 [.p 1 0]), (1, .cells 54 [.sl 2, .v (.int .u8 p0c0_0_1), .v (.int .i64 p0c0_0_2), .v (.int .i64 p0c0_0_3), .v (.int .i64 p0c0_0_4), .mp 3]), (2, .ex (pO HCell.D 63 p0c0_0_0) []), (3, .omap Kn.str (Vn.int .i64) p0c0_0_5), (4, .cells 35 [.sl 5])] 6) := by
 rw [fn24v3] at h
 refine ConO.of_body Try.func24 Try.ntmps24 fun w F0 ρ => ?_
 refine RU tbOk false 999 3 [] aN (by rfl) ?_
 refine DF_ (fun vs1 => ?_)
 refine RU tbOk false 999 1 [] aN (by rfl) ?_
 refine fk2 h (fun v2 hv3 h => ?_) (fun v4 hv5 h => ?_)
 ·refine RU tbOk false 999 0 [] aN (by rfl) ?_
  refine CX_ tbOk [0, 1, 2, 3, 4, 5] (c27v1_0 p0c0_0_0 p0c0_0_1 p0c0_0_2 p0c0_0_3 p0c0_0_4 p0c0_0_5 p0c1 v2 hv3) (aK aN) ?_
  refine RU tbOk false 999 0 [] aN (by rfl) ?_
  have hr := Option.some.inj h
  subst hr
  exact TDP_ tbOk Try.results24 8 [7, 6] (c39 0 0 v2 _ rfl) [0, 1, 2, 3, 4, 5]
 ·refine RU tbOk false 999 1 [.cl true [0, 1, 2, 3, 4, 5] (fun _ => c27v1_1 p0c0_0_0 p0c0_0_1 p0c0_0_2 p0c0_0_3 p0c0_0_4 p0c0_0_5 p0c1 v4 hv5)] (aK aN) (by rfl) ?_
  refine RU tbOk false 999 2 [] aN (by rfl) ?_
  have hr := Option.some.inj h
  subst hr
  exact TD_ tbOk Try.results24 8 [7, 6] (c39v1 0 v4 _ rfl) [0, 1, 2, 3, 4, 5]
theorem c24v3_0 (p0c0_0_0 : List HCell) (p0c0_0_1 : Int) (p0c0_0_2 : Int) (p0c0_0_3 : Int) (p0c0_0_4 : Int) (p0c0_0_5 : List (ByteArray × Int)) (p0c1 : List Int) (r : Int × Int) (h : fn24v3 p0c0_0_0 p0c0_0_1 p0c0_0_2 p0c0_0_3 p0c0_0_4 p0c0_0_5 p0c1 = some r) : Con Try.prog 24 [.fn (.func 27) [] [.p 0 0, .p 4 0]] [(0, .cells 29 [.p 1 0]), (1, .cells 54 [.sl 2, .v (.int .u8 p0c0_0_1), .v (.int .i64 p0c0_0_2), .v (.int .i64 p0c0_0_3), .v (.int .i64 p0c0_0_4), .mp 3]), (2, .ex (pO HCell.D 63 p0c0_0_0) []), (3, .omap Kn.str (Vn.int .i64) p0c0_0_5), (4, .cells 35 [.sl 5]), (5, .rd (Et.int .u8) p0c1)] 6 (.tu [.v (.int .i64 r.1), .v (.int .i64 r.2)]) [(0, .cells 29 [.p 1 0]), (1, .cells 54 [.sl 2, .v (.int .u8 p0c0_0_1), .v (.int .i64 p0c0_0_2), .v (.int .i64 p0c0_0_3), .v (.int .i64 p0c0_0_4), .mp 3]), (2, .ex (pO HCell.D 63 p0c0_0_0) []), (3, .omap Kn.str (Vn.int .i64) p0c0_0_5), (4, .cells 35 [.sl 5])] 6 := c24v3 p0c0_0_0 p0c0_0_1 p0c0_0_2 p0c0_0_3 p0c0_0_4 p0c0_0_5 p0c1 _ h
def fn11v1 (p0_0 : List HCell) (p0_1 : Int) (p0_2 : Int) (p0_3 : Int) (p0_4 : Int) (p0_5 : List (ByteArray × Int)) (p1 : List Int) : Option (Int × Int) :=
 frk1 (fn24v3 p0_0 p0_1 p0_2 p0_3 p0_4 p0_5 p1) (fun v1 => some ((v1.1, v1.2)))
theorem c11v1 (p0_0 : List HCell) (p0_1 : Int) (p0_2 : Int) (p0_3 : Int) (p0_4 : Int) (p0_5 : List (ByteArray × Int)) (p1 : List Int) (r : Int × Int) (h : fn11v1 p0_0 p0_1 p0_2 p0_3 p0_4 p0_5 p1 = some r) : Con Try.prog 11 [.p 0 0, .sl 3] [(0, .cells 54 [.sl 1, .v (.int .u8 p0_1), .v (.int .i64 p0_2), .v (.int .i64 p0_3), .v (.int .i64 p0_4), .mp 2]), (1, .ex (pO HCell.D 63 p0_0) []), (2, .omap Kn.str (Vn.int .i64) p0_5), (3, .rd (Et.int .u8) p1)] 4 (.tu [.v (.int .i64 r.1), .v (.int .i64 r.2)]) [(0, .cells 54 [.sl 1, .v (.int .u8 p0_1), .v (.int .i64 p0_2), .v (.int .i64 p0_3), .v (.int .i64 p0_4), .mp 2]), (1, .ex (pO HCell.D 63 p0_0) []), (2, .omap Kn.str (Vn.int .i64) p0_5)] 4 := by
 rw [fn11v1] at h
 refine Con.of_body Try.func11 rfl Try.ntmps11 rfl fun w F0 ρ => ?_
 refine RU tbOk false 999 5 [] aN (by rfl) ?_
 refine fk1 h (fun v1 hv2 h => ?_)
 ·refine RU tbOk false 999 1 [.cl true [4, 0, 1, 2, 5, 3] (fun _ => c24v3_0 p0_0 p0_1 p0_2 p0_3 p0_4 p0_5 p1 v1 hv2)] (aK aN) (by rfl) ?_
  refine RU tbOk false 999 4 [] aN (by rfl) ?_
  have hr := Option.some.inj h
  subst hr
  exact RT tbOk.t Try.results11 [0, 1, 2, 3] (by rfl) (by rfl) (by rfl) rfl rfl
def fn29 (p0 : List (ByteArray × Int)) : Unit :=
 ()
theorem c29 (p0 : List (ByteArray × Int)) (r : Unit) (h : fn29 p0 = r) : Con Try.prog 29 [.mp 0] [(0, .omap Kn.str (Vn.int .i64) p0)] 1 (.fn (.func 43) [] [.p 1 0]) [(0, .omap Kn.str (Vn.int .i64) p0), (1, .cells 34 [.mp 0])] 2 := by
 rw [fn29] at h
 refine Con.of_body Try.func29 rfl Try.ntmps29 rfl fun w F0 ρ => ?_
 refine RU tbOk false 999 4 [] aN (by rfl) ?_
 subst h
 exact RT tbOk.t Try.results29 [0, 1] (by rfl) (by rfl) (by rfl) rfl rfl
def fn12v1_b1 (v1 : List ByteArray) (rl1 : (List (List Int)) → Int → Option ((List (List Int)))) (xs7 : List (List Int)) (x8 : Int) : Option ((List (List Int))) :=
 bif decide (x8 < (v1.length : Int)) then (bif inb x8 v1.length then (bif decide ((gt v1 x8).size ≤ 9223372036854775807) then (bif decide ((xs7.length + 1) * 24 ≤ 140737488355328 ∧ xs7.length + 1 ≤ 9223372036854775807) then (rl1 (xs7 ++ [numsOf (gt v1 x8)]) (IntKind.i64.wrap (x8 + 1))) else none) else none) else none) else (some xs7)
def fn12v1_l1 (v1 : List ByteArray) : Nat → (List (List Int)) → Int → Option ((List (List Int)))
 | 0, _, _ => none
 | n16 + 1, xs7, x8 => fn12v1_b1 v1 (fn12v1_l1 v1 n16) xs7 x8
theorem fn12v1_l1_s (v1 : List ByteArray) (n16 : Nat) (xs7 : List (List Int)) (x8 : Int) : fn12v1_l1 v1 (n16 + 1) xs7 x8 = fn12v1_b1 v1 (fn12v1_l1 v1 n16) xs7 x8 := rfl
def fn12v1_k1 (xs13 : List (List Int)) : Option (((List (List Int)))) :=
 some (xs13)
def fn12v1 (F : Nat) (p0_0 : List HCell) (p0_1 : Int) (p0_2 : Int) (p0_3 : Int) (p0_4 : Int) (p0_5 : List (ByteArray × Int)) : Option ((List (List Int))) :=
 Option.bind (fn28 p0_5) fun v1 => (Option.bind (fn12v1_l1 v1 F ([] : List (List Int)) 0) fun o14 => (fn12v1_k1 o14))
theorem c12v1 (F : Nat) (p0_0 : List HCell) (p0_1 : Int) (p0_2 : Int) (p0_3 : Int) (p0_4 : Int) (p0_5 : List (ByteArray × Int)) (r : (List (List Int))) (h : fn12v1 F p0_0 p0_1 p0_2 p0_3 p0_4 p0_5 = some r) : Con Try.prog 12 [.p 0 0] [(0, .cells 54 [.sl 1, .v (.int .u8 p0_1), .v (.int .i64 p0_2), .v (.int .i64 p0_3), .v (.int .i64 p0_4), .mp 2]), (1, .ex (pO HCell.D 63 p0_0) []), (2, .omap Kn.str (Vn.int .i64) p0_5)] 3 (.sl 3) [(0, .cells 54 [.sl 1, .v (.int .u8 p0_1), .v (.int .i64 p0_2), .v (.int .i64 p0_3), .v (.int .i64 p0_4), .mp 2]), (1, .ex (pO HCell.D 63 p0_0) []), (2, .omap Kn.str (Vn.int .i64) p0_5), (3, .rowL (Et.int .u8) 5 35 r r.length)] 4 := by
 rw [fn12v1] at h
 refine Con.of_body Try.func12 rfl Try.ntmps12 rfl fun w F0 ρ => ?_
 refine RU tbOk false 999 3 [.pn] aN (by rfl) ?_
 refine CDF rfl (by rfl) ?_
 refine RU tbOk false 999 6 [.cl true [2] (fun _ => c29 p0_5 _ rfl)] (aK aN) (by rfl) ?_
 obtain ⟨v1, hv2, h⟩ := bd h
 refine RU tbOk false 999 1 [.cl true [3, 2] (fun _ => c28 p0_5 _ hv2)] (aK aN) (by rfl) ?_
 refine RU tbOk false 999 2 [] aN (by rfl) ?_
 refine G4.imp (Imp.nilL (Et.int .u8) 5 35 3 (by rfl)) ?_
 obtain ⟨o14, hl15, h⟩ := bd h
 refine CT 0 ⟨[(3, .sl 3)], [(0, .cells 54 [.sl 1, .v (.int .u8 p0_1), .v (.int .i64 p0_2), .v (.int .i64 p0_3), .v (.int .i64 p0_4), .mp 2]), (1, .ex (pO HCell.D 63 p0_0) []), (2, .omap Kn.str (Vn.int .i64) p0_5), (3, .rowL (Et.int .u8) 5 35 o14 o14.length)], 4⟩ ?_ ?_
 ·have h018 := h
  clear h
  refine G4.imp (Imp.to [0, 1, 2, 4, 5] (by rfl) (by rfl) rfl rfl) (LP (fun (n : Nat) (s : (List (List Int)) × Int) => fn12v1_l1 v1 n s.1 s.2) (fun (s : (List (List Int)) × Int) => ⟨[(3, .sl 4), (13, .sl 3), (14, .v (.int .i64 (v1.length : Int))), (15, .v (.int .i64 s.2))], [(0, .cells 54 [.sl 1, .v (.int .u8 p0_1), .v (.int .i64 p0_2), .v (.int .i64 p0_3), .v (.int .i64 p0_4), .mp 2]), (1, .ex (pO HCell.D 63 p0_0) []), (2, .omap Kn.str (Vn.int .i64) p0_5), (3, .row Et.str 9 v1 v1.length .unk), (4, .rowL (Et.int .u8) 5 35 s.1 s.1.length)], 5⟩) (fun _ => rfl) (s0 := (([] : List (List Int)), 0)) hl15 ?_)
  clear hl15
  rintro R19 n16 ⟨xs7, x8⟩ h ih17
  replace h := (fn12v1_l1_s v1 n16 xs7 x8).symm.trans h
  rw [fn12v1_b1] at h
  refine RU tbOk false 999 1 [] aN (by rfl) ?_
  refine CD h (by rfl) (fun h hb20 => ?_) (fun h hb20 => ?_)
  ·obtain ⟨hk21, h⟩ := ck h
   obtain ⟨hk22, h⟩ := ck h
   obtain ⟨hk23, h⟩ := ck h
   refine RU tbOk false 999 11 [.s2, .b1 (Et.int .u8), .aL (Et.int .u8) 5 _ _] (aC hk21 (aC hk22 (aR (aR (aR (aC hk23 aN)))))) (by rfl) ?_
   exact ih17 (xs7 ++ [numsOf (gt v1 x8)], IntKind.i64.wrap (x8 + 1)) h _ _ (Imp.to [0, 1, 2, 3, 7] (by rfl) (by rfl) rfl rfl)
  ·refine RU tbOk false 999 0 [] aN (by rfl) ?_
   have ho := Option.some.inj h
   subst ho
   exact CE (Imp.to [0, 1, 2, 4] (by rfl) (by rfl) rfl rfl)
 ·change fn12v1_k1 o14 = _ at h
  rw [fn12v1_k1] at h
  refine RU tbOk false 999 2 [] aN (by rfl) ?_
  have hr := Option.some.inj h
  subst hr
  exact RT tbOk.t Try.results12 [0, 1, 2, 3] (by rfl) (by rfl) (by rfl) rfl rfl
def fn21v1 (p0_0_0 : List HCell) (p0_0_1 : Int) (p0_0_2 : Int) (p0_0_3 : Int) (p0_0_4 : Int) (p0_0_5 : List (ByteArray × Int)) (p1 : List Int) : Option (((List HCell) × (List (ByteArray × Int)) × Int) ⊕ (Bool × (List HCell) × (List (ByteArray × Int)))) :=
 frk2 (fn22v1 p0_0_0 p0_0_1 p0_0_2 p0_0_3 p0_0_4 p0_0_5 p1) (fun v1 => some ((.inl (p0_0_0, p0_0_5, v1)))) (fun v3 => frk2 (fn19 v3.2 6) (fun v5 => some ((.inl (p0_0_0, p0_0_5, v5)))) (fun v7 => frk2 (fn23 p0_0_0 p0_0_1 p0_0_2 p0_0_3 p0_0_4 p0_0_5 v3.1) (fun v9 => some ((.inl (p0_0_0, p0_0_5, v9)))) (fun v11 => bif inb v11 p0_0_0.length then (some ((.inr (true, p0_0_0.set v11.toNat (⟨(⟨false, (gt p0_0_0 v11).fthing⟩ : HCell).fused, (gt p0_0_0 v11).fthing⟩ : HCell), mdel p0_0_5 (strOfNums p1))))) else none)))
theorem c21v1 (p0_0_0 : List HCell) (p0_0_1 : Int) (p0_0_2 : Int) (p0_0_3 : Int) (p0_0_4 : Int) (p0_0_5 : List (ByteArray × Int)) (p1 : List Int) (r : ((List HCell) × (List (ByteArray × Int)) × Int) ⊕ (Bool × (List HCell) × (List (ByteArray × Int)))) (h : fn21v1 p0_0_0 p0_0_1 p0_0_2 p0_0_3 p0_0_4 p0_0_5 p1 = some r) : ConO Try.prog 21 [.p 0 0, .p 4 0] [(0, .cells 29 [.p 1 0]), (1, .cells 54 [.sl 2, .v (.int .u8 p0_0_1), .v (.int .i64 p0_0_2), .v (.int .i64 p0_0_3), .v (.int .i64 p0_0_4), .mp 3]), (2, .ex (pO HCell.D 63 p0_0_0) []), (3, .omap Kn.str (Vn.int .i64) p0_0_5), (4, .cells 35 [.sl 5]), (5, .rd (Et.int .u8) p1)] 6 (match r with | .inl r => .pan (.iface 30 (.int .i64 r.2.2)) [(0, .cells 29 [.p 1 0]), (1, .cells 54 [.sl 2, .v (.int .u8 p0_0_1), .v (.int .i64 p0_0_2), .v (.int .i64 p0_0_3), .v (.int .i64 p0_0_4), .mp 3]), (2, .ex (pO HCell.D 63 r.1) []), (3, .omap Kn.str (Vn.int .i64) r.2.1), (4, .cells 35 [.sl 5])] 6 | .inr r => .ret (.v (.bool r.1)) [(0, .cells 29 [.p 1 0]), (1, .cells 54 [.sl 2, .v (.int .u8 p0_0_1), .v (.int .i64 p0_0_2), .v (.int .i64 p0_0_3), .v (.int .i64 p0_0_4), .mp 3]), (2, .ex (pO HCell.D 63 r.2.1) []), (3, .omap Kn.str (Vn.int .i64) r.2.2), (4, .cells 35 [.sl 5])] 6) := by
 rw [fn21v1] at h
 refine ConO.of_body Try.func21 Try.ntmps21 fun w F0 ρ => ?_
 refine RU tbOk false 999 3 [] aN (by rfl) ?_
 refine fk2 h (fun v1 hv2 h => ?_) (fun v3 hv4 h => ?_)
 ·refine RU tbOk false 999 0 [] aN (by rfl) ?_
  refine CX_ tbOk [1, 2, 3, 5] (c22v1_0 p0_0_0 p0_0_1 p0_0_2 p0_0_3 p0_0_4 p0_0_5 p1 v1 hv2) (aK aN) ?_
  refine RU tbOk false 999 0 [] aN (by rfl) ?_
  have hr := Option.some.inj h
  subst hr
  exact TP_ [0, 1, 2, 3, 4, 5]
 ·refine RU tbOk false 999 1 [.cl true [1, 2, 3, 5] (fun _ => c22v1_1 p0_0_0 p0_0_1 p0_0_2 p0_0_3 p0_0_4 p0_0_5 p1 v3 hv4)] (aK aN) (by rfl) ?_
  refine RU tbOk false 999 6 [] aN (by rfl) ?_
  refine fk2 h (fun v5 hv6 h => ?_) (fun v7 hv8 h => ?_)
  ·refine RU tbOk false 999 0 [] aN (by rfl) ?_
   refine CX_ tbOk [] (c19_0 v3.2 6 v5 hv6) (aK aN) ?_
   refine RU tbOk false 999 0 [] aN (by rfl) ?_
   have hr := Option.some.inj h
   subst hr
   exact TP_ [0, 1, 2, 3, 4, 5]
  ·refine RU tbOk false 999 1 [.cl true [] (fun _ => c19_1 v3.2 6 v7 hv8)] (aK aN) (by rfl) ?_
   refine RU tbOk false 999 4 [] aN (by rfl) ?_
   refine fk2 h (fun v9 hv10 h => ?_) (fun v11 hv12 h => ?_)
   ·refine RU tbOk false 999 0 [] aN (by rfl) ?_
    refine CX_ tbOk [1, 2, 3] (c23_0 p0_0_0 p0_0_1 p0_0_2 p0_0_3 p0_0_4 p0_0_5 v3.1 v9 hv10) (aK aN) ?_
    refine RU tbOk false 999 0 [] aN (by rfl) ?_
    have hr := Option.some.inj h
    subst hr
    exact TP_ [0, 1, 2, 3, 4, 5]
   ·refine RU tbOk false 999 1 [.cl true [1, 2, 3] (fun _ => c23_1 p0_0_0 p0_0_1 p0_0_2 p0_0_3 p0_0_4 p0_0_5 v3.1 v11 hv12)] (aK aN) (by rfl) ?_
    obtain ⟨hk13, h⟩ := ck h
    refine RU tbOk false 999 2 [] aN (by rfl) ?_
    refine G4.imp (Imp.openO 2 v11 hk13 (by rfl)) ?_
    refine RU tbOk false 999 1 [.sh HCell.D 63 _ _ (gt p0_0_0 v11) (⟨false, (gt p0_0_0 v11).fthing⟩ : HCell) 6 _ _ _] (aR (aR (aR (aR aN)))) (by rfl) ?_
    refine DR tbOk hmix [] [([0], []), ([], []), ([], []), ([1], []), ([4], []), ([5], []), ([3], [3])] [.b2 _, .de Kn.str (Vn.int .i64) _ (strOfNums p1) Try.runUnderlying34 Try.runUnderlying9] (aR (aR (aR (aR (aR (aR (aR (aR aN)))))))) (by rfl) ?_
    refine RU tbOk false 999 1 [] aN (by rfl) ?_
    refine G4.imp (Imp.closeO 2 6 (by rfl) (by rfl) (by rfl)) ?_
    have hr := Option.some.inj h
    subst hr
    exact TO_ tbOk.t Try.results21 [0, 1, 2, 3, 4, 5]
theorem c21v1_0 (p0_0_0 : List HCell) (p0_0_1 : Int) (p0_0_2 : Int) (p0_0_3 : Int) (p0_0_4 : Int) (p0_0_5 : List (ByteArray × Int)) (p1 : List Int) (r : (List HCell) × (List (ByteArray × Int)) × Int) (h : fn21v1 p0_0_0 p0_0_1 p0_0_2 p0_0_3 p0_0_4 p0_0_5 p1 = some (.inl r)) : ConX Try.prog 21 [.p 0 0, .p 4 0] [(0, .cells 29 [.p 1 0]), (1, .cells 54 [.sl 2, .v (.int .u8 p0_0_1), .v (.int .i64 p0_0_2), .v (.int .i64 p0_0_3), .v (.int .i64 p0_0_4), .mp 3]), (2, .ex (pO HCell.D 63 p0_0_0) []), (3, .omap Kn.str (Vn.int .i64) p0_0_5), (4, .cells 35 [.sl 5]), (5, .rd (Et.int .u8) p1)] 6 (.iface 30 (.int .i64 r.2.2)) [(0, .cells 29 [.p 1 0]), (1, .cells 54 [.sl 2, .v (.int .u8 p0_0_1), .v (.int .i64 p0_0_2), .v (.int .i64 p0_0_3), .v (.int .i64 p0_0_4), .mp 3]), (2, .ex (pO HCell.D 63 r.1) []), (3, .omap Kn.str (Vn.int .i64) r.2.1), (4, .cells 35 [.sl 5])] 6 := c21v1 p0_0_0 p0_0_1 p0_0_2 p0_0_3 p0_0_4 p0_0_5 p1 _ h
theorem c21v1_1 (p0_0_0 : List HCell) (p0_0_1 : Int) (p0_0_2 : Int) (p0_0_3 : Int) (p0_0_4 : Int) (p0_0_5 : List (ByteArray × Int)) (p1 : List Int) (r : Bool × (List HCell) × (List (ByteArray × Int))) (h : fn21v1 p0_0_0 p0_0_1 p0_0_2 p0_0_3 p0_0_4 p0_0_5 p1 = some (.inr r)) : Con Try.prog 21 [.p 0 0, .p 4 0] [(0, .cells 29 [.p 1 0]), (1, .cells 54 [.sl 2, .v (.int .u8 p0_0_1), .v (.int .i64 p0_0_2), .v (.int .i64 p0_0_3), .v (.int .i64 p0_0_4), .mp 3]), (2, .ex (pO HCell.D 63 p0_0_0) []), (3, .omap Kn.str (Vn.int .i64) p0_0_5), (4, .cells 35 [.sl 5]), (5, .rd (Et.int .u8) p1)] 6 (.v (.bool r.1)) [(0, .cells 29 [.p 1 0]), (1, .cells 54 [.sl 2, .v (.int .u8 p0_0_1), .v (.int .i64 p0_0_2), .v (.int .i64 p0_0_3), .v (.int .i64 p0_0_4), .mp 3]), (2, .ex (pO HCell.D 63 r.2.1) []), (3, .omap Kn.str (Vn.int .i64) r.2.2), (4, .cells 35 [.sl 5])] 6 := c21v1 p0_0_0 p0_0_1 p0_0_2 p0_0_3 p0_0_4 p0_0_5 p1 _ h
def fn38v1 (p0 : Int) (p1 : Bool) : Unit :=
 ()
theorem c38v1 (p0 : Int) (p1 : Bool) (r : Unit) (h : fn38v1 p0 p1 = r) : ConD Try.prog 38 [.p 0 0, .p 1 0] [(0, .cells 30 [.v (.int .i64 p0)]), (1, .cells 4 [.v (.bool p1)])] 2 .ret [(0, .cells 30 [.v (.int .i64 p0)]), (1, .cells 4 [.v (.bool p1)])] 2 := by
 rw [fn38v1] at h
 refine ConD.of_body Try.func38 Try.ntmps38 fun w F0 ρ => ?_
 refine RU tbOk false 999 2 [.ni] aN (by rfl) ?_
 refine CDF rfl (by rfl) ?_
 refine RU tbOk false 999 0 [] aN (by rfl) ?_
 subst h
 exact TQN_ Try.results38 [0, 1]
def fn20v1 (p0c0_0_0 : List HCell) (p0c0_0_1 : Int) (p0c0_0_2 : Int) (p0c0_0_3 : Int) (p0c0_0_4 : Int) (p0c0_0_5 : List (ByteArray × Int)) (p0c1 : List Int) : Option (Bool × Int × (List HCell) × (List (ByteArray × Int))) :=
 frk2 (fn21v1 p0c0_0_0 p0c0_0_1 p0c0_0_2 p0c0_0_3 p0c0_0_4 p0c0_0_5 p0c1) (fun v2 => some (((fn38 0 false v2.2.2).2, (fn38 0 false v2.2.2).1, v2.1, v2.2.1))) (fun v4 => some ((v4.1, 0, v4.2.1, v4.2.2)))
theorem c20v1 (p0c0_0_0 : List HCell) (p0c0_0_1 : Int) (p0c0_0_2 : Int) (p0c0_0_3 : Int) (p0c0_0_4 : Int) (p0c0_0_5 : List (ByteArray × Int)) (p0c1 : List Int) (r : Bool × Int × (List HCell) × (List (ByteArray × Int))) (h : fn20v1 p0c0_0_0 p0c0_0_1 p0c0_0_2 p0c0_0_3 p0c0_0_4 p0c0_0_5 p0c1 = some r) : ConO Try.prog 20 [.fn (.func 21) [] [.p 0 0, .p 4 0]] [(0, .cells 29 [.p 1 0]), (1, .cells 54 [.sl 2, .v (.int .u8 p0c0_0_1), .v (.int .i64 p0c0_0_2), .v (.int .i64 p0c0_0_3), .v (.int .i64 p0c0_0_4), .mp 3]), (2, .ex (pO HCell.D 63 p0c0_0_0) []), (3, .omap Kn.str (Vn.int .i64) p0c0_0_5), (4, .cells 35 [.sl 5]), (5, .rd (Et.int .u8) p0c1)] 6 (.ret (.tu [.v (.bool r.1), .v (.int .i64 r.2.1)]) [(0, .cells 29 [.p 1 0]), (1, .cells 54 [.sl 2, .v (.int .u8 p0c0_0_1), .v (.int .i64 p0c0_0_2), .v (.int .i64 p0c0_0_3), .v (.int .i64 p0c0_0_4), .mp 3]), (2, .ex (pO HCell.D 63 r.2.2.1) []), (3, .omap Kn.str (Vn.int .i64) r.2.2.2), (4, .cells 35 [.sl 5])] 6) := by
 rw [fn20v1] at h
 refine ConO.of_body Try.func20 Try.ntmps20 fun w F0 ρ => ?_
 refine RU tbOk false 999 3 [] aN (by rfl) ?_
 refine DF_ (fun vs1 => ?_)
 refine RU tbOk false 999 1 [] aN (by rfl) ?_
 refine fk2 h (fun v2 hv3 h => ?_) (fun v4 hv5 h => ?_)
 ·refine RU tbOk false 999 0 [] aN (by rfl) ?_
  refine CX_ tbOk [0, 1, 2, 3, 4, 5] (c21v1_0 p0c0_0_0 p0c0_0_1 p0c0_0_2 p0c0_0_3 p0c0_0_4 p0c0_0_5 p0c1 v2 hv3) (aK aN) ?_
  refine RU tbOk false 999 0 [] aN (by rfl) ?_
  have hr := Option.some.inj h
  subst hr
  exact TDP_ tbOk Try.results20 8 [7, 6] (c38 0 false v2.2.2 _ rfl) [0, 1, 2, 3, 4, 5]
 ·refine RU tbOk false 999 1 [.cl true [0, 1, 2, 3, 4, 5] (fun _ => c21v1_1 p0c0_0_0 p0c0_0_1 p0c0_0_2 p0c0_0_3 p0c0_0_4 p0c0_0_5 p0c1 v4 hv5)] (aK aN) (by rfl) ?_
  refine RU tbOk false 999 2 [] aN (by rfl) ?_
  have hr := Option.some.inj h
  subst hr
  exact TD_ tbOk Try.results20 8 [7, 6] (c38v1 0 v4.1 _ rfl) [0, 1, 2, 3, 4, 5]
theorem c20v1_0 (p0c0_0_0 : List HCell) (p0c0_0_1 : Int) (p0c0_0_2 : Int) (p0c0_0_3 : Int) (p0c0_0_4 : Int) (p0c0_0_5 : List (ByteArray × Int)) (p0c1 : List Int) (r : Bool × Int × (List HCell) × (List (ByteArray × Int))) (h : fn20v1 p0c0_0_0 p0c0_0_1 p0c0_0_2 p0c0_0_3 p0c0_0_4 p0c0_0_5 p0c1 = some r) : Con Try.prog 20 [.fn (.func 21) [] [.p 0 0, .p 4 0]] [(0, .cells 29 [.p 1 0]), (1, .cells 54 [.sl 2, .v (.int .u8 p0c0_0_1), .v (.int .i64 p0c0_0_2), .v (.int .i64 p0c0_0_3), .v (.int .i64 p0c0_0_4), .mp 3]), (2, .ex (pO HCell.D 63 p0c0_0_0) []), (3, .omap Kn.str (Vn.int .i64) p0c0_0_5), (4, .cells 35 [.sl 5]), (5, .rd (Et.int .u8) p0c1)] 6 (.tu [.v (.bool r.1), .v (.int .i64 r.2.1)]) [(0, .cells 29 [.p 1 0]), (1, .cells 54 [.sl 2, .v (.int .u8 p0c0_0_1), .v (.int .i64 p0c0_0_2), .v (.int .i64 p0c0_0_3), .v (.int .i64 p0c0_0_4), .mp 3]), (2, .ex (pO HCell.D 63 r.2.2.1) []), (3, .omap Kn.str (Vn.int .i64) r.2.2.2), (4, .cells 35 [.sl 5])] 6 := c20v1 p0c0_0_0 p0c0_0_1 p0c0_0_2 p0c0_0_3 p0c0_0_4 p0c0_0_5 p0c1 _ h
def fn9v1 (p0_0 : List HCell) (p0_1 : Int) (p0_2 : Int) (p0_3 : Int) (p0_4 : Int) (p0_5 : List (ByteArray × Int)) (p1 : List Int) : Option (Int × (List HCell) × (List (ByteArray × Int))) :=
 frk1 (fn20v1 p0_0 p0_1 p0_2 p0_3 p0_4 p0_5 p1) (fun v1 => some ((v1.2.1, v1.2.2.1, v1.2.2.2)))
theorem c9v1 (p0_0 : List HCell) (p0_1 : Int) (p0_2 : Int) (p0_3 : Int) (p0_4 : Int) (p0_5 : List (ByteArray × Int)) (p1 : List Int) (r : Int × (List HCell) × (List (ByteArray × Int))) (h : fn9v1 p0_0 p0_1 p0_2 p0_3 p0_4 p0_5 p1 = some r) : Con Try.prog 9 [.p 0 0, .sl 3] [(0, .cells 54 [.sl 1, .v (.int .u8 p0_1), .v (.int .i64 p0_2), .v (.int .i64 p0_3), .v (.int .i64 p0_4), .mp 2]), (1, .ex (pO HCell.D 63 p0_0) []), (2, .omap Kn.str (Vn.int .i64) p0_5), (3, .rd (Et.int .u8) p1)] 4 (.v (.int .i64 r.1)) [(0, .cells 54 [.sl 1, .v (.int .u8 p0_1), .v (.int .i64 p0_2), .v (.int .i64 p0_3), .v (.int .i64 p0_4), .mp 2]), (1, .ex (pO HCell.D 63 r.2.1) []), (2, .omap Kn.str (Vn.int .i64) r.2.2)] 4 := by
 rw [fn9v1] at h
 refine Con.of_body Try.func9 rfl Try.ntmps9 rfl fun w F0 ρ => ?_
 refine RU tbOk false 999 4 [] aN (by rfl) ?_
 refine fk1 h (fun v1 hv2 h => ?_)
 ·refine RU tbOk false 999 1 [.cl true [4, 0, 1, 2, 5, 3] (fun _ => c20v1_0 p0_0 p0_1 p0_2 p0_3 p0_4 p0_5 p1 v1 hv2)] (aK aN) (by rfl) ?_
  refine RU tbOk false 999 7 [] aN (by rfl) ?_
  have hr := Option.some.inj h
  subst hr
  exact RT tbOk.t Try.results9 [0, 1, 2, 3] (by rfl) (by rfl) (by rfl) rfl rfl
def fn5 (F : Nat) : Option (Bool) :=
 frk2 (fn8 F (⟨2, 1, 1, 2⟩ : MSpec)) (fun v1 => Option.bind (fn10 ([98] : List Int) ([120] : List Int) 0) fun v3 => (Option.bind (fn10 ([97] : List Int) ([121] : List Int) 0) fun v5 => (Option.bind (fn11 ([97] : List Int)) fun v7 => (Option.bind (fn10 ([99] : List Int) ([122] : List Int) 0) fun v9 => (Option.bind (fn9 ([98] : List Int)) fun v11 => (Option.bind (fn10 ([99] : List Int) ([122] : List Int) 1) fun v13 => (Option.bind (fn11 ([99] : List Int)) fun v15 => (bif v1 == 0 then (bif v3 == 0 then (bif v5 == 0 then (bif v7.1 == 1 then (bif v7.2 == 0 then (Option.bind (fn15 F (fn12) ([([97] : List Int), ([98] : List Int)] : List (List Int))) fun v22 => (bif v22 then (bif v9 == 8 then (bif v11 == 0 then (bif v13 == 0 then (bif v15.1 == 0 then (bif v15.2 == 0 then (Option.bind (fn10 ([98] : List Int) ([122] : List Int) 2) fun v30 => (some (v30 == 6))) else (some (false))) else (some (false))) else (some (false))) else (some (false))) else (some (false))) else (some (false)))) else (some (false))) else (some (false))) else (some (false))) else (some (false))) else (some (false)))))))))) (fun v32 => Option.bind (fn10v1 F v32.1 v32.2.1 v32.2.2.1 v32.2.2.2.1 v32.2.2.2.2.1 v32.2.2.2.2.2.1 ([98] : List Int) ([120] : List Int) 0) fun v34 => (Option.bind (fn10v1 F v34.2.1 v32.2.1 v32.2.2.1 v32.2.2.2.1 v32.2.2.2.2.1 v34.2.2 ([97] : List Int) ([121] : List Int) 0) fun v36 => (Option.bind (fn11v1 v36.2.1 v32.2.1 v32.2.2.1 v32.2.2.2.1 v32.2.2.2.2.1 v36.2.2 ([97] : List Int)) fun v38 => (Option.bind (fn12v1 F v36.2.1 v32.2.1 v32.2.2.1 v32.2.2.2.1 v32.2.2.2.2.1 v36.2.2) fun v40 => (Option.bind (fn10v1 F v36.2.1 v32.2.1 v32.2.2.1 v32.2.2.2.1 v32.2.2.2.2.1 v36.2.2 ([99] : List Int) ([122] : List Int) 0) fun v42 => (Option.bind (fn9v1 v42.2.1 v32.2.1 v32.2.2.1 v32.2.2.2.1 v32.2.2.2.2.1 v42.2.2 ([98] : List Int)) fun v44 => (Option.bind (fn10v1 F v44.2.1 v32.2.1 v32.2.2.1 v32.2.2.2.1 v32.2.2.2.2.1 v44.2.2 ([99] : List Int) ([122] : List Int) 1) fun v46 => (Option.bind (fn11v1 v46.2.1 v32.2.1 v32.2.2.1 v32.2.2.2.1 v32.2.2.2.2.1 v46.2.2 ([99] : List Int)) fun v48 => (bif v32.2.2.2.2.2.2 == 0 then (bif v34.1 == 0 then (bif v36.1 == 0 then (bif v38.1 == 1 then (bif v38.2 == 0 then (Option.bind (fn15 F v40 ([([97] : List Int), ([98] : List Int)] : List (List Int))) fun v55 => (bif v55 then (bif v42.1 == 8 then (bif v44.1 == 0 then (bif v46.1 == 0 then (bif v48.1 == 0 then (bif v48.2 == 0 then (Option.bind (fn10v1 F v46.2.1 v32.2.1 v32.2.2.1 v32.2.2.2.1 v32.2.2.2.2.1 v46.2.2 ([98] : List Int) ([122] : List Int) 2) fun v63 => (some (v63.1 == 6))) else (some (false))) else (some (false))) else (some (false))) else (some (false))) else (some (false))) else (some (false)))) else (some (false))) else (some (false))) else (some (false))) else (some (false))) else (some (false)))))))))))
theorem c5 (F : Nat) (r : Bool) (h : fn5 F = some r) : Con Try.prog 5 [] [] 0 (.v (.bool r)) [] 0 := by
 rw [fn5] at h
 refine Con.of_body Try.func5 rfl Try.ntmps5 rfl fun w F0 ρ => ?_
 refine RU tbOk false 999 2 [] aN (by rfl) ?_
 refine fk2 h (fun v1 hv2 h => ?_) (fun v32 hv33 h => ?_)
 ·refine RU tbOk false 999 1 [.cl true [] (fun _ => c8_0 F (⟨2, 1, 1, 2⟩ : MSpec) v1 hv2)] (aK aN) (by rfl) ?_
  obtain ⟨v3, hv4, h⟩ := bd h
  refine RU tbOk false 999 11 [.bs (Et.int .u8) ([98] : List Int), .cv, .bs (Et.int .u8) ([120] : List Int), .cv, .cl true [0, 1] (fun _ => c10 ([98] : List Int) ([120] : List Int) 0 _ hv4)] (aR (aR (aR (aR (aK aN))))) (by rfl) ?_
  obtain ⟨v5, hv6, h⟩ := bd h
  refine RU tbOk false 999 6 [.bs (Et.int .u8) ([97] : List Int), .cv, .bs (Et.int .u8) ([121] : List Int), .cv, .cl true [2, 3] (fun _ => c10 ([97] : List Int) ([121] : List Int) 0 _ hv6)] (aR (aR (aR (aR (aK aN))))) (by rfl) ?_
  obtain ⟨v7, hv8, h⟩ := bd h
  refine RU tbOk false 999 6 [.bs (Et.int .u8) ([97] : List Int), .cv, .cl true [4] (fun _ => c11 ([97] : List Int) _ hv8)] (aR (aR (aK aN))) (by rfl) ?_
  refine RU tbOk false 999 7 [.cl true [] (fun _ => c12 _ rfl)] (aK aN) (by rfl) ?_
  obtain ⟨v9, hv10, h⟩ := bd h
  refine RU tbOk false 999 7 [.bs (Et.int .u8) ([99] : List Int), .cv, .bs (Et.int .u8) ([122] : List Int), .cv, .cl true [6, 7] (fun _ => c10 ([99] : List Int) ([122] : List Int) 0 _ hv10)] (aR (aR (aR (aR (aK aN))))) (by rfl) ?_
  obtain ⟨v11, hv12, h⟩ := bd h
  refine RU tbOk false 999 4 [.bs (Et.int .u8) ([98] : List Int), .cv, .cl true [8] (fun _ => c9 ([98] : List Int) _ hv12)] (aR (aR (aK aN))) (by rfl) ?_
  obtain ⟨v13, hv14, h⟩ := bd h
  refine RU tbOk false 999 8 [.bs (Et.int .u8) ([99] : List Int), .cv, .bs (Et.int .u8) ([122] : List Int), .cv, .cl true [9, 10] (fun _ => c10 ([99] : List Int) ([122] : List Int) 1 _ hv14)] (aR (aR (aR (aR (aK aN))))) (by rfl) ?_
  obtain ⟨v15, hv16, h⟩ := bd h
  refine RU tbOk false 999 5 [.bs (Et.int .u8) ([99] : List Int), .cv, .cl true [11] (fun _ => c11 ([99] : List Int) _ hv16)] (aR (aR (aK aN))) (by rfl) ?_
  refine RU tbOk false 999 7 [] aN (by rfl) ?_
  refine CDS h (fun h hb17 => ?_) (fun h hb17 => ?_)
  ·refine RU (tbOk.lit [(63, 64, true)]) false 999 4 [] (aC hb17 aN) (by rfl) ?_
   refine CDS h (fun h hb18 => ?_) (fun h hb18 => ?_)
   ·refine RU (tbOk.lit [(67, 68, true)]) false 999 4 [] (aC hb18 aN) (by rfl) ?_
    refine CDS h (fun h hb19 => ?_) (fun h hb19 => ?_)
    ·refine RU (tbOk.lit [(71, 72, true)]) false 999 4 [] (aC hb19 aN) (by rfl) ?_
     refine CDS h (fun h hb20 => ?_) (fun h hb20 => ?_)
     ·refine RU (tbOk.lit [(75, 76, true)]) false 999 4 [] (aC hb20 aN) (by rfl) ?_
      refine CDS h (fun h hb21 => ?_) (fun h hb21 => ?_)
      ·refine RU (tbOk.lit [(79, 80, true)]) false 999 7 [.bs (Et.int .u8) ([97] : List Int), .cv, .bs (Et.int .u8) ([98] : List Int), .cv, .bL (Et.int .u8) 5 ([([97] : List Int), ([98] : List Int)] : List (List Int))] (aC hb21 (aR (aR (aR (aR (aR (aR aN))))))) (by rfl) ?_
       refine G4.imp (Imp.rowL 14 (by rfl)) ?_
       obtain ⟨v22, hv23, h⟩ := bd h
       refine RU (tbOk.lit [(79, 80, true)]) false 999 1 [.cl true [5, 14] (fun _ => c15 F (fn12) ([([97] : List Int), ([98] : List Int)] : List (List Int)) _ hv23)] (aK aN) (by rfl) ?_
       refine RU tbOk false 999 1 [] aN (by rfl) ?_
       refine CDS h (fun h hb24 => ?_) (fun h hb24 => ?_)
       ·refine RU (tbOk.lit [(88, 89, true)]) false 999 4 [] (aC hb24 aN) (by rfl) ?_
        refine CDS h (fun h hb25 => ?_) (fun h hb25 => ?_)
        ·refine RU (tbOk.lit [(92, 93, true)]) false 999 4 [] (aC hb25 aN) (by rfl) ?_
         refine CDS h (fun h hb26 => ?_) (fun h hb26 => ?_)
         ·refine RU (tbOk.lit [(96, 97, true)]) false 999 4 [] (aC hb26 aN) (by rfl) ?_
          refine CDS h (fun h hb27 => ?_) (fun h hb27 => ?_)
          ·refine RU (tbOk.lit [(100, 101, true)]) false 999 4 [] (aC hb27 aN) (by rfl) ?_
           refine CDS h (fun h hb28 => ?_) (fun h hb28 => ?_)
           ·refine RU (tbOk.lit [(104, 105, true)]) false 999 4 [] (aC hb28 aN) (by rfl) ?_
            refine CDS h (fun h hb29 => ?_) (fun h hb29 => ?_)
            ·obtain ⟨v30, hv31, h⟩ := bd h
             refine RU (tbOk.lit [(108, 109, true)]) false 999 7 [.bs (Et.int .u8) ([98] : List Int), .cv, .bs (Et.int .u8) ([122] : List Int), .cv, .cl true [15, 16] (fun _ => c10 ([98] : List Int) ([122] : List Int) 2 _ hv31)] (aC hb29 (aR (aR (aR (aR (aK aN)))))) (by rfl) ?_
             refine RU (tbOk.lit [(108, 109, true)]) false 999 3 [] aN (by rfl) ?_
             refine RU tbOk false 999 0 [] aN (by rfl) ?_
             have hr := Option.some.inj h
             subst hr
             exact RT tbOk.t Try.results5 [] (by rfl) (by rfl) (by rfl) rfl rfl
            ·refine RU (tbOk.lit [(108, 109, false)]) false 999 7 [] (aC hb29 aN) (by rfl) ?_
             refine RU (tbOk.lit [(108, 109, false)]) false 999 3 [] aN (by rfl) ?_
             refine RU tbOk false 999 0 [] aN (by rfl) ?_
             have hr := Option.some.inj h
             subst hr
             exact RT tbOk.t Try.results5 [] (by rfl) (by rfl) (by rfl) rfl rfl
           ·refine RU (tbOk.lit [(104, 105, false), (108, 109, false)]) false 999 11 [] (aC hb28 (aC rfl aN)) (by rfl) ?_
            refine RU (tbOk.lit [(108, 109, false)]) false 999 3 [] aN (by rfl) ?_
            refine RU tbOk false 999 0 [] aN (by rfl) ?_
            have hr := Option.some.inj h
            subst hr
            exact RT tbOk.t Try.results5 [] (by rfl) (by rfl) (by rfl) rfl rfl
          ·refine RU (tbOk.lit [(100, 101, false), (104, 105, false), (108, 109, false)]) false 999 15 [] (aC hb27 (aC rfl (aC rfl aN))) (by rfl) ?_
           refine RU (tbOk.lit [(108, 109, false)]) false 999 3 [] aN (by rfl) ?_
           refine RU tbOk false 999 0 [] aN (by rfl) ?_
           have hr := Option.some.inj h
           subst hr
           exact RT tbOk.t Try.results5 [] (by rfl) (by rfl) (by rfl) rfl rfl
         ·refine RU (tbOk.lit [(96, 97, false), (100, 101, false), (104, 105, false), (108, 109, false)]) false 999 19 [] (aC hb26 (aC rfl (aC rfl (aC rfl aN)))) (by rfl) ?_
          refine RU (tbOk.lit [(108, 109, false)]) false 999 3 [] aN (by rfl) ?_
          refine RU tbOk false 999 0 [] aN (by rfl) ?_
          have hr := Option.some.inj h
          subst hr
          exact RT tbOk.t Try.results5 [] (by rfl) (by rfl) (by rfl) rfl rfl
        ·refine RU (tbOk.lit [(92, 93, false), (96, 97, false), (100, 101, false), (104, 105, false), (108, 109, false)]) false 999 23 [] (aC hb25 (aC rfl (aC rfl (aC rfl (aC rfl aN))))) (by rfl) ?_
         refine RU (tbOk.lit [(108, 109, false)]) false 999 3 [] aN (by rfl) ?_
         refine RU tbOk false 999 0 [] aN (by rfl) ?_
         have hr := Option.some.inj h
         subst hr
         exact RT tbOk.t Try.results5 [] (by rfl) (by rfl) (by rfl) rfl rfl
       ·refine RU (tbOk.lit [(88, 89, false), (92, 93, false), (96, 97, false), (100, 101, false), (104, 105, false), (108, 109, false)]) false 999 27 [] (aC hb24 (aC rfl (aC rfl (aC rfl (aC rfl (aC rfl aN)))))) (by rfl) ?_
        refine RU (tbOk.lit [(108, 109, false)]) false 999 3 [] aN (by rfl) ?_
        refine RU tbOk false 999 0 [] aN (by rfl) ?_
        have hr := Option.some.inj h
        subst hr
        exact RT tbOk.t Try.results5 [] (by rfl) (by rfl) (by rfl) rfl rfl
      ·refine RU (tbOk.lit [(79, 80, false)]) false 999 8 [] (aC hb21 aN) (by rfl) ?_
       refine RU (tbOk.lit [(88, 89, false), (92, 93, false), (96, 97, false), (100, 101, false), (104, 105, false), (108, 109, false)]) false 999 28 [] (aC rfl (aC rfl (aC rfl (aC rfl (aC rfl (aC rfl aN)))))) (by rfl) ?_
       refine RU (tbOk.lit [(108, 109, false)]) false 999 3 [] aN (by rfl) ?_
       refine RU tbOk false 999 0 [] aN (by rfl) ?_
       have hr := Option.some.inj h
       subst hr
       exact RT tbOk.t Try.results5 [] (by rfl) (by rfl) (by rfl) rfl rfl
     ·refine RU (tbOk.lit [(75, 76, false), (79, 80, false)]) false 999 12 [] (aC hb20 (aC rfl aN)) (by rfl) ?_
      refine RU (tbOk.lit [(88, 89, false), (92, 93, false), (96, 97, false), (100, 101, false), (104, 105, false), (108, 109, false)]) false 999 28 [] (aC rfl (aC rfl (aC rfl (aC rfl (aC rfl (aC rfl aN)))))) (by rfl) ?_
      refine RU (tbOk.lit [(108, 109, false)]) false 999 3 [] aN (by rfl) ?_
      refine RU tbOk false 999 0 [] aN (by rfl) ?_
      have hr := Option.some.inj h
      subst hr
      exact RT tbOk.t Try.results5 [] (by rfl) (by rfl) (by rfl) rfl rfl
    ·refine RU (tbOk.lit [(71, 72, false), (75, 76, false), (79, 80, false)]) false 999 16 [] (aC hb19 (aC rfl (aC rfl aN))) (by rfl) ?_
     refine RU (tbOk.lit [(88, 89, false), (92, 93, false), (96, 97, false), (100, 101, false), (104, 105, false), (108, 109, false)]) false 999 28 [] (aC rfl (aC rfl (aC rfl (aC rfl (aC rfl (aC rfl aN)))))) (by rfl) ?_
     refine RU (tbOk.lit [(108, 109, false)]) false 999 3 [] aN (by rfl) ?_
     refine RU tbOk false 999 0 [] aN (by rfl) ?_
     have hr := Option.some.inj h
     subst hr
     exact RT tbOk.t Try.results5 [] (by rfl) (by rfl) (by rfl) rfl rfl
   ·refine RU (tbOk.lit [(67, 68, false), (71, 72, false), (75, 76, false), (79, 80, false)]) false 999 20 [] (aC hb18 (aC rfl (aC rfl (aC rfl aN)))) (by rfl) ?_
    refine RU (tbOk.lit [(88, 89, false), (92, 93, false), (96, 97, false), (100, 101, false), (104, 105, false), (108, 109, false)]) false 999 28 [] (aC rfl (aC rfl (aC rfl (aC rfl (aC rfl (aC rfl aN)))))) (by rfl) ?_
    refine RU (tbOk.lit [(108, 109, false)]) false 999 3 [] aN (by rfl) ?_
    refine RU tbOk false 999 0 [] aN (by rfl) ?_
    have hr := Option.some.inj h
    subst hr
    exact RT tbOk.t Try.results5 [] (by rfl) (by rfl) (by rfl) rfl rfl
  ·refine RU (tbOk.lit [(63, 64, false), (67, 68, false), (71, 72, false), (75, 76, false), (79, 80, false)]) false 999 24 [] (aC hb17 (aC rfl (aC rfl (aC rfl (aC rfl aN))))) (by rfl) ?_
   refine RU (tbOk.lit [(88, 89, false), (92, 93, false), (96, 97, false), (100, 101, false), (104, 105, false), (108, 109, false)]) false 999 28 [] (aC rfl (aC rfl (aC rfl (aC rfl (aC rfl (aC rfl aN)))))) (by rfl) ?_
   refine RU (tbOk.lit [(108, 109, false)]) false 999 3 [] aN (by rfl) ?_
   refine RU tbOk false 999 0 [] aN (by rfl) ?_
   have hr := Option.some.inj h
   subst hr
   exact RT tbOk.t Try.results5 [] (by rfl) (by rfl) (by rfl) rfl rfl
 ·refine RU tbOk false 999 1 [.cl true [] (fun _ => c8_1 F (⟨2, 1, 1, 2⟩ : MSpec) v32 hv33)] (aK aN) (by rfl) ?_
  obtain ⟨v34, hv35, h⟩ := bd h
  refine RU tbOk false 999 11 [.bs (Et.int .u8) ([98] : List Int), .cv, .bs (Et.int .u8) ([120] : List Int), .cv, .cl true [0, 1, 2, 3, 4] (fun _ => c10v1 F v32.1 v32.2.1 v32.2.2.1 v32.2.2.2.1 v32.2.2.2.2.1 v32.2.2.2.2.2.1 ([98] : List Int) ([120] : List Int) 0 _ hv35)] (aR (aR (aR (aR (aK aN))))) (by rfl) ?_
  obtain ⟨v36, hv37, h⟩ := bd h
  refine RU tbOk false 999 6 [.bs (Et.int .u8) ([97] : List Int), .cv, .bs (Et.int .u8) ([121] : List Int), .cv, .cl true [0, 1, 2, 5, 6] (fun _ => c10v1 F v34.2.1 v32.2.1 v32.2.2.1 v32.2.2.2.1 v32.2.2.2.2.1 v34.2.2 ([97] : List Int) ([121] : List Int) 0 _ hv37)] (aR (aR (aR (aR (aK aN))))) (by rfl) ?_
  obtain ⟨v38, hv39, h⟩ := bd h
  refine RU tbOk false 999 6 [.bs (Et.int .u8) ([97] : List Int), .cv, .cl true [0, 1, 2, 7] (fun _ => c11v1 v36.2.1 v32.2.1 v32.2.2.1 v32.2.2.2.1 v32.2.2.2.2.1 v36.2.2 ([97] : List Int) _ hv39)] (aR (aR (aK aN))) (by rfl) ?_
  obtain ⟨v40, hv41, h⟩ := bd h
  refine RU tbOk false 999 7 [.cl true [0, 1, 2] (fun _ => c12v1 F v36.2.1 v32.2.1 v32.2.2.1 v32.2.2.2.1 v32.2.2.2.2.1 v36.2.2 _ hv41)] (aK aN) (by rfl) ?_
  obtain ⟨v42, hv43, h⟩ := bd h
  refine RU tbOk false 999 7 [.bs (Et.int .u8) ([99] : List Int), .cv, .bs (Et.int .u8) ([122] : List Int), .cv, .cl true [0, 1, 2, 9, 10] (fun _ => c10v1 F v36.2.1 v32.2.1 v32.2.2.1 v32.2.2.2.1 v32.2.2.2.2.1 v36.2.2 ([99] : List Int) ([122] : List Int) 0 _ hv43)] (aR (aR (aR (aR (aK aN))))) (by rfl) ?_
  obtain ⟨v44, hv45, h⟩ := bd h
  refine RU tbOk false 999 4 [.bs (Et.int .u8) ([98] : List Int), .cv, .cl true [0, 1, 2, 11] (fun _ => c9v1 v42.2.1 v32.2.1 v32.2.2.1 v32.2.2.2.1 v32.2.2.2.2.1 v42.2.2 ([98] : List Int) _ hv45)] (aR (aR (aK aN))) (by rfl) ?_
  obtain ⟨v46, hv47, h⟩ := bd h
  refine RU tbOk false 999 8 [.bs (Et.int .u8) ([99] : List Int), .cv, .bs (Et.int .u8) ([122] : List Int), .cv, .cl true [0, 1, 2, 12, 13] (fun _ => c10v1 F v44.2.1 v32.2.1 v32.2.2.1 v32.2.2.2.1 v32.2.2.2.2.1 v44.2.2 ([99] : List Int) ([122] : List Int) 1 _ hv47)] (aR (aR (aR (aR (aK aN))))) (by rfl) ?_
  obtain ⟨v48, hv49, h⟩ := bd h
  refine RU tbOk false 999 5 [.bs (Et.int .u8) ([99] : List Int), .cv, .cl true [0, 1, 2, 14] (fun _ => c11v1 v46.2.1 v32.2.1 v32.2.2.1 v32.2.2.2.1 v32.2.2.2.2.1 v46.2.2 ([99] : List Int) _ hv49)] (aR (aR (aK aN))) (by rfl) ?_
  refine RU tbOk false 999 7 [] aN (by rfl) ?_
  refine CDS h (fun h hb50 => ?_) (fun h hb50 => ?_)
  ·refine RU (tbOk.lit [(63, 64, true)]) false 999 4 [] (aC hb50 aN) (by rfl) ?_
   refine CDS h (fun h hb51 => ?_) (fun h hb51 => ?_)
   ·refine RU (tbOk.lit [(67, 68, true)]) false 999 4 [] (aC hb51 aN) (by rfl) ?_
    refine CDS h (fun h hb52 => ?_) (fun h hb52 => ?_)
    ·refine RU (tbOk.lit [(71, 72, true)]) false 999 4 [] (aC hb52 aN) (by rfl) ?_
     refine CDS h (fun h hb53 => ?_) (fun h hb53 => ?_)
     ·refine RU (tbOk.lit [(75, 76, true)]) false 999 4 [] (aC hb53 aN) (by rfl) ?_
      refine CDS h (fun h hb54 => ?_) (fun h hb54 => ?_)
      ·refine RU (tbOk.lit [(79, 80, true)]) false 999 7 [.bs (Et.int .u8) ([97] : List Int), .cv, .bs (Et.int .u8) ([98] : List Int), .cv, .bL (Et.int .u8) 5 ([([97] : List Int), ([98] : List Int)] : List (List Int))] (aC hb54 (aR (aR (aR (aR (aR (aR aN))))))) (by rfl) ?_
       refine G4.imp (Imp.rowL 17 (by rfl)) ?_
       obtain ⟨v55, hv56, h⟩ := bd h
       refine RU (tbOk.lit [(79, 80, true)]) false 999 1 [.cl true [8, 17] (fun _ => c15 F v40 ([([97] : List Int), ([98] : List Int)] : List (List Int)) _ hv56)] (aK aN) (by rfl) ?_
       refine RU tbOk false 999 1 [] aN (by rfl) ?_
       refine CDS h (fun h hb57 => ?_) (fun h hb57 => ?_)
       ·refine RU (tbOk.lit [(88, 89, true)]) false 999 4 [] (aC hb57 aN) (by rfl) ?_
        refine CDS h (fun h hb58 => ?_) (fun h hb58 => ?_)
        ·refine RU (tbOk.lit [(92, 93, true)]) false 999 4 [] (aC hb58 aN) (by rfl) ?_
         refine CDS h (fun h hb59 => ?_) (fun h hb59 => ?_)
         ·refine RU (tbOk.lit [(96, 97, true)]) false 999 4 [] (aC hb59 aN) (by rfl) ?_
          refine CDS h (fun h hb60 => ?_) (fun h hb60 => ?_)
          ·refine RU (tbOk.lit [(100, 101, true)]) false 999 4 [] (aC hb60 aN) (by rfl) ?_
           refine CDS h (fun h hb61 => ?_) (fun h hb61 => ?_)
           ·refine RU (tbOk.lit [(104, 105, true)]) false 999 4 [] (aC hb61 aN) (by rfl) ?_
            refine CDS h (fun h hb62 => ?_) (fun h hb62 => ?_)
            ·obtain ⟨v63, hv64, h⟩ := bd h
             refine RU (tbOk.lit [(108, 109, true)]) false 999 7 [.bs (Et.int .u8) ([98] : List Int), .cv, .bs (Et.int .u8) ([122] : List Int), .cv, .cl true [0, 1, 2, 18, 19] (fun _ => c10v1 F v46.2.1 v32.2.1 v32.2.2.1 v32.2.2.2.1 v32.2.2.2.2.1 v46.2.2 ([98] : List Int) ([122] : List Int) 2 _ hv64)] (aC hb62 (aR (aR (aR (aR (aK aN)))))) (by rfl) ?_
             refine RU (tbOk.lit [(108, 109, true)]) false 999 3 [] aN (by rfl) ?_
             refine RU tbOk false 999 0 [] aN (by rfl) ?_
             have hr := Option.some.inj h
             subst hr
             exact RT tbOk.t Try.results5 [] (by rfl) (by rfl) (by rfl) rfl rfl
            ·refine RU (tbOk.lit [(108, 109, false)]) false 999 7 [] (aC hb62 aN) (by rfl) ?_
             refine RU (tbOk.lit [(108, 109, false)]) false 999 3 [] aN (by rfl) ?_
             refine RU tbOk false 999 0 [] aN (by rfl) ?_
             have hr := Option.some.inj h
             subst hr
             exact RT tbOk.t Try.results5 [] (by rfl) (by rfl) (by rfl) rfl rfl
           ·refine RU (tbOk.lit [(104, 105, false), (108, 109, false)]) false 999 11 [] (aC hb61 (aC rfl aN)) (by rfl) ?_
            refine RU (tbOk.lit [(108, 109, false)]) false 999 3 [] aN (by rfl) ?_
            refine RU tbOk false 999 0 [] aN (by rfl) ?_
            have hr := Option.some.inj h
            subst hr
            exact RT tbOk.t Try.results5 [] (by rfl) (by rfl) (by rfl) rfl rfl
          ·refine RU (tbOk.lit [(100, 101, false), (104, 105, false), (108, 109, false)]) false 999 15 [] (aC hb60 (aC rfl (aC rfl aN))) (by rfl) ?_
           refine RU (tbOk.lit [(108, 109, false)]) false 999 3 [] aN (by rfl) ?_
           refine RU tbOk false 999 0 [] aN (by rfl) ?_
           have hr := Option.some.inj h
           subst hr
           exact RT tbOk.t Try.results5 [] (by rfl) (by rfl) (by rfl) rfl rfl
         ·refine RU (tbOk.lit [(96, 97, false), (100, 101, false), (104, 105, false), (108, 109, false)]) false 999 19 [] (aC hb59 (aC rfl (aC rfl (aC rfl aN)))) (by rfl) ?_
          refine RU (tbOk.lit [(108, 109, false)]) false 999 3 [] aN (by rfl) ?_
          refine RU tbOk false 999 0 [] aN (by rfl) ?_
          have hr := Option.some.inj h
          subst hr
          exact RT tbOk.t Try.results5 [] (by rfl) (by rfl) (by rfl) rfl rfl
        ·refine RU (tbOk.lit [(92, 93, false), (96, 97, false), (100, 101, false), (104, 105, false), (108, 109, false)]) false 999 23 [] (aC hb58 (aC rfl (aC rfl (aC rfl (aC rfl aN))))) (by rfl) ?_
         refine RU (tbOk.lit [(108, 109, false)]) false 999 3 [] aN (by rfl) ?_
         refine RU tbOk false 999 0 [] aN (by rfl) ?_
         have hr := Option.some.inj h
         subst hr
         exact RT tbOk.t Try.results5 [] (by rfl) (by rfl) (by rfl) rfl rfl
       ·refine RU (tbOk.lit [(88, 89, false), (92, 93, false), (96, 97, false), (100, 101, false), (104, 105, false), (108, 109, false)]) false 999 27 [] (aC hb57 (aC rfl (aC rfl (aC rfl (aC rfl (aC rfl aN)))))) (by rfl) ?_
        refine RU (tbOk.lit [(108, 109, false)]) false 999 3 [] aN (by rfl) ?_
        refine RU tbOk false 999 0 [] aN (by rfl) ?_
        have hr := Option.some.inj h
        subst hr
        exact RT tbOk.t Try.results5 [] (by rfl) (by rfl) (by rfl) rfl rfl
      ·refine RU (tbOk.lit [(79, 80, false)]) false 999 8 [] (aC hb54 aN) (by rfl) ?_
       refine RU (tbOk.lit [(88, 89, false), (92, 93, false), (96, 97, false), (100, 101, false), (104, 105, false), (108, 109, false)]) false 999 28 [] (aC rfl (aC rfl (aC rfl (aC rfl (aC rfl (aC rfl aN)))))) (by rfl) ?_
       refine RU (tbOk.lit [(108, 109, false)]) false 999 3 [] aN (by rfl) ?_
       refine RU tbOk false 999 0 [] aN (by rfl) ?_
       have hr := Option.some.inj h
       subst hr
       exact RT tbOk.t Try.results5 [] (by rfl) (by rfl) (by rfl) rfl rfl
     ·refine RU (tbOk.lit [(75, 76, false), (79, 80, false)]) false 999 12 [] (aC hb53 (aC rfl aN)) (by rfl) ?_
      refine RU (tbOk.lit [(88, 89, false), (92, 93, false), (96, 97, false), (100, 101, false), (104, 105, false), (108, 109, false)]) false 999 28 [] (aC rfl (aC rfl (aC rfl (aC rfl (aC rfl (aC rfl aN)))))) (by rfl) ?_
      refine RU (tbOk.lit [(108, 109, false)]) false 999 3 [] aN (by rfl) ?_
      refine RU tbOk false 999 0 [] aN (by rfl) ?_
      have hr := Option.some.inj h
      subst hr
      exact RT tbOk.t Try.results5 [] (by rfl) (by rfl) (by rfl) rfl rfl
    ·refine RU (tbOk.lit [(71, 72, false), (75, 76, false), (79, 80, false)]) false 999 16 [] (aC hb52 (aC rfl (aC rfl aN))) (by rfl) ?_
     refine RU (tbOk.lit [(88, 89, false), (92, 93, false), (96, 97, false), (100, 101, false), (104, 105, false), (108, 109, false)]) false 999 28 [] (aC rfl (aC rfl (aC rfl (aC rfl (aC rfl (aC rfl aN)))))) (by rfl) ?_
     refine RU (tbOk.lit [(108, 109, false)]) false 999 3 [] aN (by rfl) ?_
     refine RU tbOk false 999 0 [] aN (by rfl) ?_
     have hr := Option.some.inj h
     subst hr
     exact RT tbOk.t Try.results5 [] (by rfl) (by rfl) (by rfl) rfl rfl
   ·refine RU (tbOk.lit [(67, 68, false), (71, 72, false), (75, 76, false), (79, 80, false)]) false 999 20 [] (aC hb51 (aC rfl (aC rfl (aC rfl aN)))) (by rfl) ?_
    refine RU (tbOk.lit [(88, 89, false), (92, 93, false), (96, 97, false), (100, 101, false), (104, 105, false), (108, 109, false)]) false 999 28 [] (aC rfl (aC rfl (aC rfl (aC rfl (aC rfl (aC rfl aN)))))) (by rfl) ?_
    refine RU (tbOk.lit [(108, 109, false)]) false 999 3 [] aN (by rfl) ?_
    refine RU tbOk false 999 0 [] aN (by rfl) ?_
    have hr := Option.some.inj h
    subst hr
    exact RT tbOk.t Try.results5 [] (by rfl) (by rfl) (by rfl) rfl rfl
  ·refine RU (tbOk.lit [(63, 64, false), (67, 68, false), (71, 72, false), (75, 76, false), (79, 80, false)]) false 999 24 [] (aC hb50 (aC rfl (aC rfl (aC rfl (aC rfl aN))))) (by rfl) ?_
   refine RU (tbOk.lit [(88, 89, false), (92, 93, false), (96, 97, false), (100, 101, false), (104, 105, false), (108, 109, false)]) false 999 28 [] (aC rfl (aC rfl (aC rfl (aC rfl (aC rfl (aC rfl aN)))))) (by rfl) ?_
   refine RU (tbOk.lit [(108, 109, false)]) false 999 3 [] aN (by rfl) ?_
   refine RU tbOk false 999 0 [] aN (by rfl) ?_
   have hr := Option.some.inj h
   subst hr
   exact RT tbOk.t Try.results5 [] (by rfl) (by rfl) (by rfl) rfl rfl
def fn6 (p0 : Int) (p1 : Int) : Option (Int) :=
 bif decide (p1 < 1) then (some (0)) else (bif p1 != 0 then (bif decide ((p0.tmod p1) < 0) then (some (IntKind.i64.wrap ((p0.tmod p1) + p1))) else (some (p0.tmod p1))) else none)
theorem c6 (p0 : Int) (p1 : Int) (r : Int) (h : fn6 p0 p1 = some r) : Con Try.prog 6 [.v (.int .i64 p0), .v (.int .i64 p1)] [] 0 (.v (.int .i64 r)) [] 0 := by
 rw [fn6] at h
 refine Con.of_body Try.func6 rfl Try.ntmps6 rfl fun w F0 ρ => ?_
 refine RU tbOk false 999 3 [] aN (by rfl) ?_
 refine CD h (by rfl) (fun h hb1 => ?_) (fun h hb1 => ?_)
 ·refine RU tbOk false 999 1 [] aN (by rfl) ?_
  have hr := Option.some.inj h
  subst hr
  exact RT tbOk.t Try.results6 [] (by rfl) (by rfl) (by rfl) rfl rfl
 ·obtain ⟨hk2, h⟩ := ck h
  refine RU tbOk false 999 6 [] (aC hk2 aN) (by rfl) ?_
  refine CD h (by rfl) (fun h hb3 => ?_) (fun h hb3 => ?_)
  ·refine RU tbOk false 999 6 [] aN (by rfl) ?_
   have hr := Option.some.inj h
   subst hr
   exact RT tbOk.t Try.results6 [] (by rfl) (by rfl) (by rfl) rfl rfl
  ·refine RU tbOk false 999 2 [] aN (by rfl) ?_
   have hr := Option.some.inj h
   subst hr
   exact RT tbOk.t Try.results6 [] (by rfl) (by rfl) (by rfl) rfl rfl
def fn7_b1 (p1 : List DoK) (rl1 : Int → Int → Option (Int)) (x3 : Int) (x4 : Int) : Option (Int) :=
 bif (decide (x4 < (p1.length : Int))) && (decide (x3 ≤ 300)) then (bif inb x4 p1.length then (rl1 (IntKind.i64.wrap (x3 + (IntKind.i64.wrap ((IntKind.i64.wrap ((((gt p1 x4).fKey.2).length : Int) + (((gt p1 x4).fB.2).length : Int))).tdiv 40)))) (IntKind.i64.wrap (x4 + 1))) else none) else (some x3)
def fn7_l1 (p1 : List DoK) : Nat → Int → Int → Option (Int)
 | 0, _, _ => none
 | n10 + 1, x3, x4 => fn7_b1 p1 (fn7_l1 p1 n10) x3 x4
theorem fn7_l1_s (p1 : List DoK) (n10 : Nat) (x3 : Int) (x4 : Int) : fn7_l1 p1 (n10 + 1) x3 x4 = fn7_b1 p1 (fn7_l1 p1 n10) x3 x4 := rfl
def fn7_k1 (p0 : MSpec) (x7 : Int) : Option (Bool) :=
 some ((decide ((300 : Int) < x7)) || ((decide ((40 : Int) < p0.fEntries)) && (decide (p0.fEntries ≤ 1024))))
def fn7 (F : Nat) (p0 : MSpec) (p1 : List DoK) : Option (Bool) :=
 Option.bind (fn7_l1 p1 F (p1.length : Int) 0) fun o8 => (fn7_k1 p0 o8)
theorem c7 (F : Nat) (p0 : MSpec) (p1 : List DoK) (r : Bool) (h : fn7 F p0 p1 = some r) : Con Try.prog 7 [.ag [.v (.int .u8 p0.fKind), .v (.int .i64 p0.fKey), .v (.int .i64 p0.fValue), .v (.int .i64 p0.fEntries)], .sl 0] [(0, .rds DoK.E DoK.K p1)] 1 (.v (.bool r)) [] 1 := by
 rw [fn7] at h
 refine Con.of_body Try.func7 rfl Try.ntmps7 rfl fun w F0 ρ => ?_
 refine RU tbOk false 999 6 [] aN (by rfl) ?_
 obtain ⟨o8, hl9, h⟩ := bd h
 refine CT 0 ⟨[(2, .p 1 0), (5, .v (.int .i64 o8))], [(0, .rds DoK.E DoK.K p1), (1, .cells 27 [.v (.int .u8 p0.fKind), .v (.int .i64 p0.fKey), .v (.int .i64 p0.fValue), .v (.int .i64 p0.fEntries)])], 2⟩ ?_ ?_
 ·have h012 := h
  clear h
  refine G4.imp (Imp.to [0, 1] (by rfl) (by rfl) rfl rfl) (LP (fun (n : Nat) (s : Int × Int) => fn7_l1 p1 n s.1 s.2) (fun (s : Int × Int) => ⟨[(1, .sl 0), (2, .p 1 0), (5, .v (.int .i64 s.1)), (6, .v (.int .i64 s.2))], [(0, .rds DoK.E DoK.K p1), (1, .cells 27 [.v (.int .u8 p0.fKind), .v (.int .i64 p0.fKey), .v (.int .i64 p0.fValue), .v (.int .i64 p0.fEntries)])], 2⟩) (fun _ => rfl) (s0 := ((p1.length : Int), 0)) hl9 ?_)
  clear hl9
  rintro R13 n10 ⟨x3, x4⟩ h ih11
  replace h := (fn7_l1_s p1 n10 x3 x4).symm.trans h
  rw [fn7_b1] at h
  refine RU tbOk false 999 8 [] aN (by rfl) ?_
  refine CD h (by rfl) (fun h hb14 => ?_) (fun h hb14 => ?_)
  ·refine RU tbOk false 999 0 [] aN (by rfl) ?_
   obtain ⟨hk15, h⟩ := ck h
   refine DR tbOk hmix [5] [([], []), ([], []), ([], []), ([0], []), ([], []), ([0], []), ([2], []), ([], []), ([], []), ([0], []), ([], []), ([0], []), ([3], []), ([], []), ([], []), ([], []), ([], [])] [.kd DoK.E DoK.K _ 0 ⟨(Et.int .u8), (gt p1 x4).fKey.1, (gt p1 x4).fKey.2⟩, .kd DoK.E DoK.K _ 1 ⟨(Et.int .u8), (gt p1 x4).fB.1, (gt p1 x4).fB.2⟩] (aR (aC hk15 (aR (aR (aC hk15 (aR (aR (aR (aR (aC hk15 (aR (aR (aC hk15 (aR (aR (aR (aC rfl aN))))))))))))))))) (by rfl) ?_
   refine RU tbOk false 999 3 [] aN (by rfl) ?_
   exact ih11 (IntKind.i64.wrap (x3 + (IntKind.i64.wrap ((IntKind.i64.wrap ((((gt p1 x4).fKey.2).length : Int) + (((gt p1 x4).fB.2).length : Int))).tdiv 40))), IntKind.i64.wrap (x4 + 1)) h _ _ (Imp.to [0, 1] (by rfl) (by rfl) rfl rfl)
  ·refine RU tbOk false 999 0 [] aN (by rfl) ?_
   have ho := Option.some.inj h
   subst ho
   exact CE (Imp.to [0, 1] (by rfl) (by rfl) rfl rfl)
 ·change fn7_k1 p0 o8 = _ at h
  rw [fn7_k1] at h
  refine RU tbOk false 999 13 [] aN (by rfl) ?_
  have hr := Option.some.inj h
  subst hr
  exact RT tbOk.t Try.results7 [0] (by rfl) (by rfl) (by rfl) rfl rfl
def fn31 (p1 : Int) : Option (Int) :=
 frk1 fn32 (fun v1 => some (v1))
theorem c31 (p1 : Int) (r : Int) (h : fn31 p1 = some r) : ConO Try.prog 31 [.p 0 0, .p 1 0] [(0, .cells 29 [.v (.pointer none)]), (1, .cells 3 [.v (.int .i64 p1)])] 2 (.pan (.iface 30 (.int .i64 r)) [(0, .cells 29 [.v (.pointer none)]), (1, .cells 3 [.v (.int .i64 p1)])] 2) := by
 rw [fn31] at h
 refine ConO.of_body Try.func31 Try.ntmps31 fun w F0 ρ => ?_
 refine RU tbOk false 999 2 [] aN (by rfl) ?_
 refine fk1 h (fun v1 hv2 h => ?_)
 ·refine RU tbOk false 999 0 [] aN (by rfl) ?_
  refine CX_ tbOk [] (c32_0 v1 hv2) (aK aN) ?_
  refine RU tbOk false 999 0 [] aN (by rfl) ?_
  have hr := Option.some.inj h
  subst hr
  exact TP_ [0, 1]
theorem c31_0 (p1 : Int) (r : Int) (h : fn31 p1 = some r) : ConX Try.prog 31 [.p 0 0, .p 1 0] [(0, .cells 29 [.v (.pointer none)]), (1, .cells 3 [.v (.int .i64 p1)])] 2 (.iface 30 (.int .i64 r)) [(0, .cells 29 [.v (.pointer none)]), (1, .cells 3 [.v (.int .i64 p1)])] 2 := c31 p1 _ h
def fn44 (p0 : Int) (p1 : List Int) (pe : Int) : Int × (List Int) :=
 (pe, ([] : List Int))
theorem c44 (p0 : Int) (p1 : List Int) (pe : Int) (r : Int × (List Int)) (h : fn44 p0 p1 pe = r) : ConD Try.prog 44 [.p 0 0, .p 1 0] [(0, .cells 30 [.v (.int .i64 p0)]), (1, .cells 35 [.sl 2]), (2, .rd (Et.int .u8) p1)] 3 (.pan (.iface 30 (.int .i64 pe))) [(0, .cells 30 [.v (.int .i64 r.1)]), (1, .cells 35 [.sl 3]), (3, .row (Et.int .u8) 5 r.2 r.2.length .unk)] 4 := by
 rw [fn44] at h
 refine ConD.of_body Try.func44 Try.ntmps44 fun w F0 ρ => ?_
 refine RU tbOk false 999 2 [.ni] aN (by rfl) ?_
 refine CDT rfl (by rfl) ?_
 refine RU tbOk false 999 10 [.ta] aN (by rfl) ?_
 refine CDF rfl (by rfl) ?_
 refine RU tbOk false 999 3 [] aN (by rfl) ?_
 subst h
 refine G4.imp (Imp.nilC (Et.int .u8) 5 1 0 (by rfl) (by rfl) (by rfl)) ?_
 refine G4.imp (Imp.row 3 (by rfl)) ?_
 exact TQN_ Try.results44 [0, 1, 2, 3]
def fn30 (p0c1 : Int) : Option ((List Int) × Int) :=
 frk1 (fn31 p0c1) (fun v2 => some (((fn44 0 ([] : List Int) v2).2, (fn44 0 ([] : List Int) v2).1)))
theorem c30 (p0c1 : Int) (r : (List Int) × Int) (h : fn30 p0c1 = some r) : ConO Try.prog 30 [.fn (.func 31) [] [.p 0 0, .p 1 0]] [(0, .cells 29 [.v (.pointer none)]), (1, .cells 3 [.v (.int .i64 p0c1)])] 2 (.ret (.tu [.sl 2, .v (.int .i64 r.2)]) [(0, .cells 29 [.v (.pointer none)]), (1, .cells 3 [.v (.int .i64 p0c1)]), (2, .row (Et.int .u8) 5 r.1 r.1.length .unk)] 3) := by
 rw [fn30] at h
 refine ConO.of_body Try.func30 Try.ntmps30 fun w F0 ρ => ?_
 refine RU tbOk false 999 3 [] aN (by rfl) ?_
 refine DF_ (fun vs1 => ?_)
 refine RU tbOk false 999 1 [] aN (by rfl) ?_
 refine fk1 h (fun v2 hv3 h => ?_)
 ·refine RU tbOk false 999 0 [] aN (by rfl) ?_
  refine CX_ tbOk [0, 1] (c31_0 p0c1 v2 hv3) (aK aN) ?_
  refine RU tbOk false 999 0 [] aN (by rfl) ?_
  refine G4.imp (Imp.nilC (Et.int .u8) 5 2 0 (by rfl) (by rfl) (by rfl)) ?_
  have hr := Option.some.inj h
  subst hr
  exact TDP_ tbOk Try.results30 4 [3, 2, 5] (c44 0 ([] : List Int) v2 _ rfl) [0, 1, 6]
theorem c30_0 (p0c1 : Int) (r : (List Int) × Int) (h : fn30 p0c1 = some r) : Con Try.prog 30 [.fn (.func 31) [] [.p 0 0, .p 1 0]] [(0, .cells 29 [.v (.pointer none)]), (1, .cells 3 [.v (.int .i64 p0c1)])] 2 (.tu [.sl 2, .v (.int .i64 r.2)]) [(0, .cells 29 [.v (.pointer none)]), (1, .cells 3 [.v (.int .i64 p0c1)]), (2, .row (Et.int .u8) 5 r.1 r.1.length .unk)] 3 := c30 p0c1 _ h
def fn13 (p1 : Int) : Option ((List Int) × Int) :=
 frk1 (fn30 p1) (fun v1 => some ((v1.1, v1.2)))
theorem c13 (p1 : Int) (r : (List Int) × Int) (h : fn13 p1 = some r) : Con Try.prog 13 [.v (.pointer none), .v (.int .i64 p1)] [] 0 (.tu [.sl 0, .v (.int .i64 r.2)]) [(0, .row (Et.int .u8) 5 r.1 r.1.length .unk)] 1 := by
 rw [fn13] at h
 refine Con.of_body Try.func13 rfl Try.ntmps13 rfl fun w F0 ρ => ?_
 refine RU tbOk false 999 5 [] aN (by rfl) ?_
 refine fk1 h (fun v1 hv2 h => ?_)
 ·refine RU tbOk false 999 1 [.cl true [0, 1] (fun _ => c30_0 p1 v1 hv2)] (aK aN) (by rfl) ?_
  refine RU tbOk false 999 4 [] aN (by rfl) ?_
  have hr := Option.some.inj h
  subst hr
  exact RT tbOk.t Try.results13 [2] (by rfl) (by rfl) (by rfl) rfl rfl
def fn33 (p0 : List Int) : Option ((List Int)) :=
 bif decide ((([] : List Int).length + p0.length) * 1 ≤ 140737488355328 ∧ ([] : List Int).length + p0.length ≤ 9223372036854775807) then (some (([] : List Int) ++ p0)) else none
theorem c33 (p0 : List Int) (r : (List Int)) (h : fn33 p0 = some r) : Con Try.prog 33 [.sl 0] [(0, .rd (Et.int .u8) p0)] 1 (.sl 1) [(1, .row (Et.int .u8) 5 r r.length .unk)] 2 := by
 rw [fn33] at h
 refine Con.of_body Try.func33 rfl Try.ntmps33 rfl fun w F0 ρ => ?_
 refine RU tbOk false 999 2 [] aN (by rfl) ?_
 refine NT_ Try.runUnderlying35 (fun nb1 nz2 => ?_)
 refine RU tbOk false 999 0 [] aN (by rfl) ?_
 cases nb1 with
 | true => 
  have hx := nz2 rfl
  subst hx
  replace h : some (([] : List Int)) = some r := by simpa using h
  refine CDT rfl (by rfl) ?_
  refine RU tbOk false 999 1 [] aN (by rfl) ?_
  have hr := Option.some.inj h
  subst hr
  refine G4.imp (Imp.nil (Et.int .u8) 5 2 (by rfl)) ?_
  refine G4.imp (Imp.row 1 (by rfl)) ?_
  exact RT tbOk.t Try.results33 [0, 1] (by rfl) (by rfl) (by rfl) rfl rfl
 | false =>
  refine CDF rfl (by rfl) ?_
  obtain ⟨hk3, h⟩ := ck h
  refine RU tbOk false 999 4 [.bs (Et.int .u8) ([] : List Int), .ap (Et.int .u8) .unk _ _] (aR (aR (aR (aR (aC hk3 (aC rfl aN)))))) (by rfl) ?_
  have hr := Option.some.inj h
  subst hr
  exact RT tbOk.t Try.results33 [0, 2] (by rfl) (by rfl) (by rfl) rfl rfl
def fn31v1 (p0_0_0 : List HCell) (p0_0_1 : Int) (p0_0_2 : Int) (p0_0_3 : Int) (p0_0_4 : Int) (p0_0_5 : List (ByteArray × Int)) (p1 : Int) : Option (Int ⊕ ((List Int))) :=
 frk2 (fn23 p0_0_0 p0_0_1 p0_0_2 p0_0_3 p0_0_4 p0_0_5 p1) (fun v1 => some ((.inl v1))) (fun v3 => bif inb v3 p0_0_0.length then (Option.bind (fn33 ((gt p0_0_0 v3).fthing)) fun v6 => (some ((.inr v6)))) else none)
theorem c31v1 (p0_0_0 : List HCell) (p0_0_1 : Int) (p0_0_2 : Int) (p0_0_3 : Int) (p0_0_4 : Int) (p0_0_5 : List (ByteArray × Int)) (p1 : Int) (r : Int ⊕ ((List Int))) (h : fn31v1 p0_0_0 p0_0_1 p0_0_2 p0_0_3 p0_0_4 p0_0_5 p1 = some r) : ConO Try.prog 31 [.p 0 0, .p 4 0] [(0, .cells 29 [.p 1 0]), (1, .cells 54 [.sl 2, .v (.int .u8 p0_0_1), .v (.int .i64 p0_0_2), .v (.int .i64 p0_0_3), .v (.int .i64 p0_0_4), .mp 3]), (2, .ex (pO HCell.D 63 p0_0_0) []), (3, .omap Kn.str (Vn.int .i64) p0_0_5), (4, .cells 3 [.v (.int .i64 p1)])] 5 (match r with | .inl r => .pan (.iface 30 (.int .i64 r)) [(0, .cells 29 [.p 1 0]), (1, .cells 54 [.sl 2, .v (.int .u8 p0_0_1), .v (.int .i64 p0_0_2), .v (.int .i64 p0_0_3), .v (.int .i64 p0_0_4), .mp 3]), (2, .ex (pO HCell.D 63 p0_0_0) []), (3, .omap Kn.str (Vn.int .i64) p0_0_5), (4, .cells 3 [.v (.int .i64 p1)])] 5 | .inr r => .ret (.sl 5) [(0, .cells 29 [.p 1 0]), (1, .cells 54 [.sl 2, .v (.int .u8 p0_0_1), .v (.int .i64 p0_0_2), .v (.int .i64 p0_0_3), .v (.int .i64 p0_0_4), .mp 3]), (2, .ex (pO HCell.D 63 p0_0_0) []), (3, .omap Kn.str (Vn.int .i64) p0_0_5), (4, .cells 3 [.v (.int .i64 p1)]), (5, .row (Et.int .u8) 5 r r.length .unk)] 6) := by
 rw [fn31v1] at h
 refine ConO.of_body Try.func31 Try.ntmps31 fun w F0 ρ => ?_
 refine RU tbOk false 999 3 [.cl true [1, 2, 3] (fun _ => c32v1 p0_0_0 p0_0_1 p0_0_2 p0_0_3 p0_0_4 p0_0_5 _ rfl)] (aK aN) (by rfl) ?_
 refine RU tbOk false 999 0 [] aN (by rfl) ?_
 refine fk2 h (fun v1 hv2 h => ?_) (fun v3 hv4 h => ?_)
 ·refine DC_ tbOk hmix 4 [([0], []), ([], []), ([], []), ([4], [])] [] (aR (aR aN)) [1, 2, 3] (c23_0 p0_0_0 p0_0_1 p0_0_2 p0_0_3 p0_0_4 p0_0_5 p1 v1 hv2) (aK aN) [7, 8] ?_
  refine RU tbOk false 999 0 [] aN (by rfl) ?_
  have hr := Option.some.inj h
  subst hr
  exact TP_ [0, 1, 2, 3, 4]
 ·obtain ⟨hk5, h⟩ := ck h
  obtain ⟨v6, hv7, h⟩ := bd h
  refine DR tbOk hmix [2] [([0], []), ([], []), ([], []), ([4], []), ([1, 2, 3], []), ([], []), ([], []), ([2], [2]), ([5], []), ([], [])] [.cl true [1, 2, 3] (fun _ => c23_1 p0_0_0 p0_0_1 p0_0_2 p0_0_3 p0_0_4 p0_0_5 p1 v3 hv4), .lO HCell.D 63 _, .cl true [5] (fun _ => c33 ((gt p0_0_0 v3).fthing) _ hv7)] (aR (aR (aR (aK (aR (aR (aC hk5 (aR (aK aN))))))))) (by rfl) ?_
  refine RU tbOk false 999 0 [] aN (by rfl) ?_
  refine G4.imp (Imp.closeS 2 5 (by rfl) (by rfl) (by rfl) rfl) ?_
  have hr := Option.some.inj h
  subst hr
  exact TO_ tbOk.t Try.results31 [0, 1, 2, 3, 4, 6]
theorem c31v1_0 (p0_0_0 : List HCell) (p0_0_1 : Int) (p0_0_2 : Int) (p0_0_3 : Int) (p0_0_4 : Int) (p0_0_5 : List (ByteArray × Int)) (p1 : Int) (r : Int) (h : fn31v1 p0_0_0 p0_0_1 p0_0_2 p0_0_3 p0_0_4 p0_0_5 p1 = some (.inl r)) : ConX Try.prog 31 [.p 0 0, .p 4 0] [(0, .cells 29 [.p 1 0]), (1, .cells 54 [.sl 2, .v (.int .u8 p0_0_1), .v (.int .i64 p0_0_2), .v (.int .i64 p0_0_3), .v (.int .i64 p0_0_4), .mp 3]), (2, .ex (pO HCell.D 63 p0_0_0) []), (3, .omap Kn.str (Vn.int .i64) p0_0_5), (4, .cells 3 [.v (.int .i64 p1)])] 5 (.iface 30 (.int .i64 r)) [(0, .cells 29 [.p 1 0]), (1, .cells 54 [.sl 2, .v (.int .u8 p0_0_1), .v (.int .i64 p0_0_2), .v (.int .i64 p0_0_3), .v (.int .i64 p0_0_4), .mp 3]), (2, .ex (pO HCell.D 63 p0_0_0) []), (3, .omap Kn.str (Vn.int .i64) p0_0_5), (4, .cells 3 [.v (.int .i64 p1)])] 5 := c31v1 p0_0_0 p0_0_1 p0_0_2 p0_0_3 p0_0_4 p0_0_5 p1 _ h
theorem c31v1_1 (p0_0_0 : List HCell) (p0_0_1 : Int) (p0_0_2 : Int) (p0_0_3 : Int) (p0_0_4 : Int) (p0_0_5 : List (ByteArray × Int)) (p1 : Int) (r : (List Int)) (h : fn31v1 p0_0_0 p0_0_1 p0_0_2 p0_0_3 p0_0_4 p0_0_5 p1 = some (.inr r)) : Con Try.prog 31 [.p 0 0, .p 4 0] [(0, .cells 29 [.p 1 0]), (1, .cells 54 [.sl 2, .v (.int .u8 p0_0_1), .v (.int .i64 p0_0_2), .v (.int .i64 p0_0_3), .v (.int .i64 p0_0_4), .mp 3]), (2, .ex (pO HCell.D 63 p0_0_0) []), (3, .omap Kn.str (Vn.int .i64) p0_0_5), (4, .cells 3 [.v (.int .i64 p1)])] 5 (.sl 5) [(0, .cells 29 [.p 1 0]), (1, .cells 54 [.sl 2, .v (.int .u8 p0_0_1), .v (.int .i64 p0_0_2), .v (.int .i64 p0_0_3), .v (.int .i64 p0_0_4), .mp 3]), (2, .ex (pO HCell.D 63 p0_0_0) []), (3, .omap Kn.str (Vn.int .i64) p0_0_5), (4, .cells 3 [.v (.int .i64 p1)]), (5, .row (Et.int .u8) 5 r r.length .unk)] 6 := c31v1 p0_0_0 p0_0_1 p0_0_2 p0_0_3 p0_0_4 p0_0_5 p1 _ h
def fn44v1 (p0 : Int) (p1 : List Int) : Unit :=
 ()
theorem c44v1 (p0 : Int) (p1 : List Int) (r : Unit) (h : fn44v1 p0 p1 = r) : ConD Try.prog 44 [.p 0 0, .p 1 0] [(0, .cells 30 [.v (.int .i64 p0)]), (1, .cells 35 [.sl 2]), (2, .rd (Et.int .u8) p1)] 3 .ret [(0, .cells 30 [.v (.int .i64 p0)]), (1, .cells 35 [.sl 2])] 3 := by
 rw [fn44v1] at h
 refine ConD.of_body Try.func44 Try.ntmps44 fun w F0 ρ => ?_
 refine RU tbOk false 999 2 [.ni] aN (by rfl) ?_
 refine CDF rfl (by rfl) ?_
 refine RU tbOk false 999 0 [] aN (by rfl) ?_
 subst h
 exact TQN_ Try.results44 [0, 1, 2]
def fn30v1 (p0c0_0_0 : List HCell) (p0c0_0_1 : Int) (p0c0_0_2 : Int) (p0c0_0_3 : Int) (p0c0_0_4 : Int) (p0c0_0_5 : List (ByteArray × Int)) (p0c1 : Int) : Option ((List Int) × Int) :=
 frk2 (fn31v1 p0c0_0_0 p0c0_0_1 p0c0_0_2 p0c0_0_3 p0c0_0_4 p0c0_0_5 p0c1) (fun v2 => some (((fn44 0 ([] : List Int) v2).2, (fn44 0 ([] : List Int) v2).1))) (fun v4 => some ((v4, 0)))
theorem c30v1 (p0c0_0_0 : List HCell) (p0c0_0_1 : Int) (p0c0_0_2 : Int) (p0c0_0_3 : Int) (p0c0_0_4 : Int) (p0c0_0_5 : List (ByteArray × Int)) (p0c1 : Int) (r : (List Int) × Int) (h : fn30v1 p0c0_0_0 p0c0_0_1 p0c0_0_2 p0c0_0_3 p0c0_0_4 p0c0_0_5 p0c1 = some r) : ConO Try.prog 30 [.fn (.func 31) [] [.p 0 0, .p 4 0]] [(0, .cells 29 [.p 1 0]), (1, .cells 54 [.sl 2, .v (.int .u8 p0c0_0_1), .v (.int .i64 p0c0_0_2), .v (.int .i64 p0c0_0_3), .v (.int .i64 p0c0_0_4), .mp 3]), (2, .ex (pO HCell.D 63 p0c0_0_0) []), (3, .omap Kn.str (Vn.int .i64) p0c0_0_5), (4, .cells 3 [.v (.int .i64 p0c1)])] 5 (.ret (.tu [.sl 5, .v (.int .i64 r.2)]) [(0, .cells 29 [.p 1 0]), (1, .cells 54 [.sl 2, .v (.int .u8 p0c0_0_1), .v (.int .i64 p0c0_0_2), .v (.int .i64 p0c0_0_3), .v (.int .i64 p0c0_0_4), .mp 3]), (2, .ex (pO HCell.D 63 p0c0_0_0) []), (3, .omap Kn.str (Vn.int .i64) p0c0_0_5), (4, .cells 3 [.v (.int .i64 p0c1)]), (5, .row (Et.int .u8) 5 r.1 r.1.length .unk)] 6) := by
 rw [fn30v1] at h
 refine ConO.of_body Try.func30 Try.ntmps30 fun w F0 ρ => ?_
 refine RU tbOk false 999 3 [] aN (by rfl) ?_
 refine DF_ (fun vs1 => ?_)
 refine RU tbOk false 999 1 [] aN (by rfl) ?_
 refine fk2 h (fun v2 hv3 h => ?_) (fun v4 hv5 h => ?_)
 ·refine RU tbOk false 999 0 [] aN (by rfl) ?_
  refine CX_ tbOk [0, 1, 2, 3, 4] (c31v1_0 p0c0_0_0 p0c0_0_1 p0c0_0_2 p0c0_0_3 p0c0_0_4 p0c0_0_5 p0c1 v2 hv3) (aK aN) ?_
  refine RU tbOk false 999 0 [] aN (by rfl) ?_
  refine G4.imp (Imp.nilC (Et.int .u8) 5 5 0 (by rfl) (by rfl) (by rfl)) ?_
  have hr := Option.some.inj h
  subst hr
  exact TDP_ tbOk Try.results30 7 [6, 5, 8] (c44 0 ([] : List Int) v2 _ rfl) [0, 1, 2, 3, 4, 9]
 ·refine RU tbOk false 999 1 [.cl true [0, 1, 2, 3, 4] (fun _ => c31v1_1 p0c0_0_0 p0c0_0_1 p0c0_0_2 p0c0_0_3 p0c0_0_4 p0c0_0_5 p0c1 v4 hv5)] (aK aN) (by rfl) ?_
  refine RU tbOk false 999 2 [] aN (by rfl) ?_
  have hr := Option.some.inj h
  subst hr
  exact TD_ tbOk Try.results30 7 [6, 5, 8] (c44v1 0 v4 _ rfl) [0, 1, 2, 3, 4, 8]
theorem c30v1_0 (p0c0_0_0 : List HCell) (p0c0_0_1 : Int) (p0c0_0_2 : Int) (p0c0_0_3 : Int) (p0c0_0_4 : Int) (p0c0_0_5 : List (ByteArray × Int)) (p0c1 : Int) (r : (List Int) × Int) (h : fn30v1 p0c0_0_0 p0c0_0_1 p0c0_0_2 p0c0_0_3 p0c0_0_4 p0c0_0_5 p0c1 = some r) : Con Try.prog 30 [.fn (.func 31) [] [.p 0 0, .p 4 0]] [(0, .cells 29 [.p 1 0]), (1, .cells 54 [.sl 2, .v (.int .u8 p0c0_0_1), .v (.int .i64 p0c0_0_2), .v (.int .i64 p0c0_0_3), .v (.int .i64 p0c0_0_4), .mp 3]), (2, .ex (pO HCell.D 63 p0c0_0_0) []), (3, .omap Kn.str (Vn.int .i64) p0c0_0_5), (4, .cells 3 [.v (.int .i64 p0c1)])] 5 (.tu [.sl 5, .v (.int .i64 r.2)]) [(0, .cells 29 [.p 1 0]), (1, .cells 54 [.sl 2, .v (.int .u8 p0c0_0_1), .v (.int .i64 p0c0_0_2), .v (.int .i64 p0c0_0_3), .v (.int .i64 p0c0_0_4), .mp 3]), (2, .ex (pO HCell.D 63 p0c0_0_0) []), (3, .omap Kn.str (Vn.int .i64) p0c0_0_5), (4, .cells 3 [.v (.int .i64 p0c1)]), (5, .row (Et.int .u8) 5 r.1 r.1.length .unk)] 6 := c30v1 p0c0_0_0 p0c0_0_1 p0c0_0_2 p0c0_0_3 p0c0_0_4 p0c0_0_5 p0c1 _ h
def fn13v1 (p0_0 : List HCell) (p0_1 : Int) (p0_2 : Int) (p0_3 : Int) (p0_4 : Int) (p0_5 : List (ByteArray × Int)) (p1 : Int) : Option ((List Int) × Int) :=
 frk1 (fn30v1 p0_0 p0_1 p0_2 p0_3 p0_4 p0_5 p1) (fun v1 => some ((v1.1, v1.2)))
theorem c13v1 (p0_0 : List HCell) (p0_1 : Int) (p0_2 : Int) (p0_3 : Int) (p0_4 : Int) (p0_5 : List (ByteArray × Int)) (p1 : Int) (r : (List Int) × Int) (h : fn13v1 p0_0 p0_1 p0_2 p0_3 p0_4 p0_5 p1 = some r) : Con Try.prog 13 [.p 0 0, .v (.int .i64 p1)] [(0, .cells 54 [.sl 1, .v (.int .u8 p0_1), .v (.int .i64 p0_2), .v (.int .i64 p0_3), .v (.int .i64 p0_4), .mp 2]), (1, .ex (pO HCell.D 63 p0_0) []), (2, .omap Kn.str (Vn.int .i64) p0_5)] 3 (.tu [.sl 3, .v (.int .i64 r.2)]) [(0, .cells 54 [.sl 1, .v (.int .u8 p0_1), .v (.int .i64 p0_2), .v (.int .i64 p0_3), .v (.int .i64 p0_4), .mp 2]), (1, .ex (pO HCell.D 63 p0_0) []), (2, .omap Kn.str (Vn.int .i64) p0_5), (3, .row (Et.int .u8) 5 r.1 r.1.length .unk)] 4 := by
 rw [fn13v1] at h
 refine Con.of_body Try.func13 rfl Try.ntmps13 rfl fun w F0 ρ => ?_
 refine RU tbOk false 999 5 [] aN (by rfl) ?_
 refine fk1 h (fun v1 hv2 h => ?_)
 ·refine RU tbOk false 999 1 [.cl true [3, 0, 1, 2, 4] (fun _ => c30v1_0 p0_0 p0_1 p0_2 p0_3 p0_4 p0_5 p1 v1 hv2)] (aK aN) (by rfl) ?_
  refine RU tbOk false 999 4 [] aN (by rfl) ?_
  have hr := Option.some.inj h
  subst hr
  exact RT tbOk.t Try.results13 [0, 1, 2, 5] (by rfl) (by rfl) (by rfl) rfl rfl
def fn3_b2 (xs77 : List (ByteArray × ByteArray)) (xs78 : List (ByteArray × Int)) (rl2 : (List (Int × Bool)) → Int → Option ((Unit) ⊕ (Bool))) (xs131 : List (Int × Bool)) (x132 : Int) : Option ((Unit) ⊕ (Bool)) :=
 bif decide (x132 < ((fn12).length : Int)) then (bif inb x132 ((fn12).length) then (bif inb x132 (fn12).length then (Option.bind (fn11 (gt (fn12) x132)) fun v159 => (Option.bind (fn13 v159.1) fun v161 => (bif v159.2 != 0 then (some (.inr (false))) else (bif v161.2 != 0 then (some (.inr (false))) else (bif !(mhas xs77 (strOfNums (gt (fn12) x132))) then (some (.inr (false))) else (bif (strOfNums v161.1).toList != (mget xs77 (strOfNums (gt (fn12) x132)) (⟨#[]⟩ : ByteArray)).toList then (some (.inr (false))) else (bif mget xs131 v159.1 false then (some (.inr (false))) else (bif v159.1 != (mget xs78 (strOfNums (gt (fn12) x132)) (0 : Int)) then (some (.inr (false))) else (bif decide ((0 : Int) < x132) then (bif inb (IntKind.i64.wrap (x132 - 1)) (fn12).length then (bif !(Op.bytesLess (strOfNums (gt (fn12) (IntKind.i64.wrap (x132 - 1)))).toList (strOfNums (gt (fn12) x132)).toList) then (some (.inr (false))) else (rl2 (mput xs131 v159.1 true) (IntKind.i64.wrap (x132 + 1)))) else none) else (rl2 (mput xs131 v159.1 true) (IntKind.i64.wrap (x132 + 1)))))))))))) else none) else none) else (some (.inl ()))
def fn3_l2 (xs77 : List (ByteArray × ByteArray)) (xs78 : List (ByteArray × Int)) : Nat → (List (Int × Bool)) → Int → Option ((Unit) ⊕ (Bool))
 | 0, _, _ => none
 | n152 + 1, xs131, x132 => fn3_b2 xs77 xs78 (fn3_l2 xs77 xs78 n152) xs131 x132
theorem fn3_l2_s (xs77 : List (ByteArray × ByteArray)) (xs78 : List (ByteArray × Int)) (n152 : Nat) (xs131 : List (Int × Bool)) (x132 : Int) : fn3_l2 xs77 xs78 (n152 + 1) xs131 x132 = fn3_b2 xs77 xs78 (fn3_l2 xs77 xs78 n152) xs131 x132 := rfl
def fn3_k2 (xs77 : List (ByteArray × ByteArray)) : Option (Bool) :=
 some (((fn12).length : Int) == (xs77.length : Int))
def fn3_b1 (p3 : List DoK) (v4 : Int) (v6 : Int) (v8 : Int) (rl1 : (List (ByteArray × ByteArray)) → (List (ByteArray × Int)) → Int → Option (((List (ByteArray × ByteArray)) × (List (ByteArray × Int))) ⊕ (Bool))) (xs45 : List (ByteArray × ByteArray)) (xs46 : List (ByteArray × Int)) (x47 : Int) : Option (((List (ByteArray × ByteArray)) × (List (ByteArray × Int))) ⊕ (Bool)) :=
 bif decide (x47 < (p3.length : Int)) then (bif decide ((0 : Int) ≤ IntKind.i64.wrap ((1 : Int) + v4)) && decide ((IntKind.i64.wrap ((1 : Int) + v4)) ≤ IntKind.i64.wrap ((1 : Int) + v4)) && decide ((1 : Int) * (IntKind.i64.wrap ((1 : Int) + v4)) ≤ 281474976710656) && decide ((IntKind.i64.wrap ((1 : Int) + v4)) ≤ 9223372036854775807) then (bif decide ((0 : Int) ≤ IntKind.i64.wrap ((1 : Int) + v6)) && decide ((IntKind.i64.wrap ((1 : Int) + v6)) ≤ IntKind.i64.wrap ((1 : Int) + v6)) && decide ((1 : Int) * (IntKind.i64.wrap ((1 : Int) + v6)) ≤ 281474976710656) && decide ((IntKind.i64.wrap ((1 : Int) + v6)) ≤ 9223372036854775807) then (bif inb x47 p3.length then (Option.bind (fn6 ((gt p3 x47).fWhat) 6) fun v89 => (bif decide ((4 : Int) ≤ v89) then (Option.bind (fn9 (pasteX (List.replicate (IntKind.i64.wrap ((1 : Int) + v4)).toNat 0) 0 (((gt p3 x47).fKey.2).take (((IntKind.i64.wrap ((1 : Int) + v4)).toNat) - 0)))) fun v92 => (bif (v92 == 0) != (mhas xs45 (strOfNums (pasteX (List.replicate (IntKind.i64.wrap ((1 : Int) + v4)).toNat 0) 0 (((gt p3 x47).fKey.2).take (((IntKind.i64.wrap ((1 : Int) + v4)).toNat) - 0))))) then (some (.inr (false))) else (rl1 (mdel xs45 (strOfNums (pasteX (List.replicate (IntKind.i64.wrap ((1 : Int) + v4)).toNat 0) 0 (((gt p3 x47).fKey.2).take (((IntKind.i64.wrap ((1 : Int) + v4)).toNat) - 0))))) xs46 (IntKind.i64.wrap (x47 + 1))))) else (Option.bind (fn10 (pasteX (List.replicate (IntKind.i64.wrap ((1 : Int) + v4)).toNat 0) 0 (((gt p3 x47).fKey.2).take (((IntKind.i64.wrap ((1 : Int) + v4)).toNat) - 0))) (pasteX (List.replicate (IntKind.i64.wrap ((1 : Int) + v6)).toNat 0) 0 (((gt p3 x47).fB.2).take (((IntKind.i64.wrap ((1 : Int) + v6)).toNat) - 0))) 0) fun v95 => (bif !(mhas xs45 (strOfNums (pasteX (List.replicate (IntKind.i64.wrap ((1 : Int) + v4)).toNat 0) 0 (((gt p3 x47).fKey.2).take (((IntKind.i64.wrap ((1 : Int) + v4)).toNat) - 0))))) then (bif (xs45.length : Int) == (IntKind.i64.wrap ((1 : Int) + v8)) then (bif v95 != 8 then (some (.inr (false))) else (rl1 xs45 xs46 (IntKind.i64.wrap (x47 + 1)))) else (Option.bind (fn11 (pasteX (List.replicate (IntKind.i64.wrap ((1 : Int) + v4)).toNat 0) 0 (((gt p3 x47).fKey.2).take (((IntKind.i64.wrap ((1 : Int) + v4)).toNat) - 0)))) fun v100 => (bif v95 != 0 then (some (.inr (false))) else (bif v100.2 != 0 then (some (.inr (false))) else (bif mhas xs45 (strOfNums (pasteX (List.replicate (IntKind.i64.wrap ((1 : Int) + v4)).toNat 0) 0 (((gt p3 x47).fKey.2).take (((IntKind.i64.wrap ((1 : Int) + v4)).toNat) - 0)))) then (bif (((mget xs46 (strOfNums (pasteX (List.replicate (IntKind.i64.wrap ((1 : Int) + v4)).toNat 0) 0 (((gt p3 x47).fKey.2).take (((IntKind.i64.wrap ((1 : Int) + v4)).toNat) - 0)))) (0 : Int)) != v100.1) || (decide (v100.1 < 0))) || (decide ((IntKind.i64.wrap ((1 : Int) + v8)) ≤ v100.1)) then (some (.inr (false))) else (rl1 (mput xs45 (strOfNums (pasteX (List.replicate (IntKind.i64.wrap ((1 : Int) + v4)).toNat 0) 0 (((gt p3 x47).fKey.2).take (((IntKind.i64.wrap ((1 : Int) + v4)).toNat) - 0)))) (strOfNums (pasteX (List.replicate (IntKind.i64.wrap ((1 : Int) + v6)).toNat 0) 0 (((gt p3 x47).fB.2).take (((IntKind.i64.wrap ((1 : Int) + v6)).toNat) - 0))))) (mput xs46 (strOfNums (pasteX (List.replicate (IntKind.i64.wrap ((1 : Int) + v4)).toNat 0) 0 (((gt p3 x47).fKey.2).take (((IntKind.i64.wrap ((1 : Int) + v4)).toNat) - 0)))) v100.1) (IntKind.i64.wrap (x47 + 1)))) else (bif (decide (v100.1 < 0)) || (decide ((IntKind.i64.wrap ((1 : Int) + v8)) ≤ v100.1)) then (some (.inr (false))) else (rl1 (mput xs45 (strOfNums (pasteX (List.replicate (IntKind.i64.wrap ((1 : Int) + v4)).toNat 0) 0 (((gt p3 x47).fKey.2).take (((IntKind.i64.wrap ((1 : Int) + v4)).toNat) - 0)))) (strOfNums (pasteX (List.replicate (IntKind.i64.wrap ((1 : Int) + v6)).toNat 0) 0 (((gt p3 x47).fB.2).take (((IntKind.i64.wrap ((1 : Int) + v6)).toNat) - 0))))) (mput xs46 (strOfNums (pasteX (List.replicate (IntKind.i64.wrap ((1 : Int) + v4)).toNat 0) 0 (((gt p3 x47).fKey.2).take (((IntKind.i64.wrap ((1 : Int) + v4)).toNat) - 0)))) v100.1) (IntKind.i64.wrap (x47 + 1))))))))) else (Option.bind (fn11 (pasteX (List.replicate (IntKind.i64.wrap ((1 : Int) + v4)).toNat 0) 0 (((gt p3 x47).fKey.2).take (((IntKind.i64.wrap ((1 : Int) + v4)).toNat) - 0)))) fun v107 => (bif v95 != 0 then (some (.inr (false))) else (bif v107.2 != 0 then (some (.inr (false))) else (bif mhas xs45 (strOfNums (pasteX (List.replicate (IntKind.i64.wrap ((1 : Int) + v4)).toNat 0) 0 (((gt p3 x47).fKey.2).take (((IntKind.i64.wrap ((1 : Int) + v4)).toNat) - 0)))) then (bif (((mget xs46 (strOfNums (pasteX (List.replicate (IntKind.i64.wrap ((1 : Int) + v4)).toNat 0) 0 (((gt p3 x47).fKey.2).take (((IntKind.i64.wrap ((1 : Int) + v4)).toNat) - 0)))) (0 : Int)) != v107.1) || (decide (v107.1 < 0))) || (decide ((IntKind.i64.wrap ((1 : Int) + v8)) ≤ v107.1)) then (some (.inr (false))) else (rl1 (mput xs45 (strOfNums (pasteX (List.replicate (IntKind.i64.wrap ((1 : Int) + v4)).toNat 0) 0 (((gt p3 x47).fKey.2).take (((IntKind.i64.wrap ((1 : Int) + v4)).toNat) - 0)))) (strOfNums (pasteX (List.replicate (IntKind.i64.wrap ((1 : Int) + v6)).toNat 0) 0 (((gt p3 x47).fB.2).take (((IntKind.i64.wrap ((1 : Int) + v6)).toNat) - 0))))) (mput xs46 (strOfNums (pasteX (List.replicate (IntKind.i64.wrap ((1 : Int) + v4)).toNat 0) 0 (((gt p3 x47).fKey.2).take (((IntKind.i64.wrap ((1 : Int) + v4)).toNat) - 0)))) v107.1) (IntKind.i64.wrap (x47 + 1)))) else (bif (decide (v107.1 < 0)) || (decide ((IntKind.i64.wrap ((1 : Int) + v8)) ≤ v107.1)) then (some (.inr (false))) else (rl1 (mput xs45 (strOfNums (pasteX (List.replicate (IntKind.i64.wrap ((1 : Int) + v4)).toNat 0) 0 (((gt p3 x47).fKey.2).take (((IntKind.i64.wrap ((1 : Int) + v4)).toNat) - 0)))) (strOfNums (pasteX (List.replicate (IntKind.i64.wrap ((1 : Int) + v6)).toNat 0) 0 (((gt p3 x47).fB.2).take (((IntKind.i64.wrap ((1 : Int) + v6)).toNat) - 0))))) (mput xs46 (strOfNums (pasteX (List.replicate (IntKind.i64.wrap ((1 : Int) + v4)).toNat 0) 0 (((gt p3 x47).fKey.2).take (((IntKind.i64.wrap ((1 : Int) + v4)).toNat) - 0)))) v107.1) (IntKind.i64.wrap (x47 + 1)))))))))))) else none) else none) else none) else (some (.inl (xs45, xs46)))
def fn3_l1 (p3 : List DoK) (v4 : Int) (v6 : Int) (v8 : Int) : Nat → (List (ByteArray × ByteArray)) → (List (ByteArray × Int)) → Int → Option (((List (ByteArray × ByteArray)) × (List (ByteArray × Int))) ⊕ (Bool))
 | 0, _, _, _ => none
 | n81 + 1, xs45, xs46, x47 => fn3_b1 p3 v4 v6 v8 (fn3_l1 p3 v4 v6 v8 n81) xs45 xs46 x47
theorem fn3_l1_s (p3 : List DoK) (v4 : Int) (v6 : Int) (v8 : Int) (n81 : Nat) (xs45 : List (ByteArray × ByteArray)) (xs46 : List (ByteArray × Int)) (x47 : Int) : fn3_l1 p3 v4 v6 v8 (n81 + 1) xs45 xs46 x47 = fn3_b1 p3 v4 v6 v8 (fn3_l1 p3 v4 v6 v8 n81) xs45 xs46 x47 := rfl
def fn3_k1 (F : Nat) (xs77 : List (ByteArray × ByteArray)) (xs78 : List (ByteArray × Int)) : Option (Bool) :=
 Option.bind (fn3_l2 xs77 xs78 F ([] : List (Int × Bool)) 0) fun o150 => (match o150 with | .inl u => fn3_k2 xs77 | .inr u => some u)
def fn3_b4 (v175 : (List HCell) × Int × Int × Int × Int × (List (ByteArray × Int)) × Int) (xs241 : List HCell) (xs242 : List (ByteArray × Int)) (xs243 : List (ByteArray × ByteArray)) (xs244 : List (ByteArray × Int)) (v280 : (List (List Int))) (rl4 : (List (Int × Bool)) → Int → Option ((Unit) ⊕ (Bool))) (xs298 : List (Int × Bool)) (x299 : Int) : Option ((Unit) ⊕ (Bool)) :=
 bif decide (x299 < (v280.length : Int)) then (bif inb x299 v280.length then (Option.bind (fn11v1 xs241 v175.2.1 v175.2.2.1 v175.2.2.2.1 v175.2.2.2.2.1 xs242 (gt v280 x299)) fun v324 => (Option.bind (fn13v1 xs241 v175.2.1 v175.2.2.1 v175.2.2.2.1 v175.2.2.2.2.1 xs242 v324.1) fun v326 => (bif v324.2 != 0 then (some (.inr (false))) else (bif v326.2 != 0 then (some (.inr (false))) else (bif !(mhas xs243 (strOfNums (gt v280 x299))) then (some (.inr (false))) else (bif (strOfNums v326.1).toList != (mget xs243 (strOfNums (gt v280 x299)) (⟨#[]⟩ : ByteArray)).toList then (some (.inr (false))) else (bif mget xs298 v324.1 false then (some (.inr (false))) else (bif v324.1 != (mget xs244 (strOfNums (gt v280 x299)) (0 : Int)) then (some (.inr (false))) else (bif decide ((0 : Int) < x299) then (bif inb (IntKind.i64.wrap (x299 - 1)) v280.length then (bif !(Op.bytesLess (strOfNums (gt v280 (IntKind.i64.wrap (x299 - 1)))).toList (strOfNums (gt v280 x299)).toList) then (some (.inr (false))) else (rl4 (mput xs298 v324.1 true) (IntKind.i64.wrap (x299 + 1)))) else none) else (rl4 (mput xs298 v324.1 true) (IntKind.i64.wrap (x299 + 1)))))))))))) else none) else (some (.inl ()))
def fn3_l4 (v175 : (List HCell) × Int × Int × Int × Int × (List (ByteArray × Int)) × Int) (xs241 : List HCell) (xs242 : List (ByteArray × Int)) (xs243 : List (ByteArray × ByteArray)) (xs244 : List (ByteArray × Int)) (v280 : (List (List Int))) : Nat → (List (Int × Bool)) → Int → Option ((Unit) ⊕ (Bool))
 | 0, _, _ => none
 | n318 + 1, xs298, x299 => fn3_b4 v175 xs241 xs242 xs243 xs244 v280 (fn3_l4 v175 xs241 xs242 xs243 xs244 v280 n318) xs298 x299
theorem fn3_l4_s (v175 : (List HCell) × Int × Int × Int × Int × (List (ByteArray × Int)) × Int) (xs241 : List HCell) (xs242 : List (ByteArray × Int)) (xs243 : List (ByteArray × ByteArray)) (xs244 : List (ByteArray × Int)) (v280 : (List (List Int))) (n318 : Nat) (xs298 : List (Int × Bool)) (x299 : Int) : fn3_l4 v175 xs241 xs242 xs243 xs244 v280 (n318 + 1) xs298 x299 = fn3_b4 v175 xs241 xs242 xs243 xs244 v280 (fn3_l4 v175 xs241 xs242 xs243 xs244 v280 n318) xs298 x299 := rfl
def fn3_k4 (xs243 : List (ByteArray × ByteArray)) (v280 : (List (List Int))) : Option (Bool) :=
 some ((v280.length : Int) == (xs243.length : Int))
def fn3_b3 (F : Nat) (p3 : List DoK) (v4 : Int) (v6 : Int) (v8 : Int) (v175 : (List HCell) × Int × Int × Int × Int × (List (ByteArray × Int)) × Int) (rl3 : (List HCell) → (List (ByteArray × Int)) → (List (ByteArray × ByteArray)) → (List (ByteArray × Int)) → Int → Option (((List HCell) × (List (ByteArray × Int)) × (List (ByteArray × ByteArray)) × (List (ByteArray × Int))) ⊕ (Bool))) (xs207 : List HCell) (xs208 : List (ByteArray × Int)) (xs209 : List (ByteArray × ByteArray)) (xs210 : List (ByteArray × Int)) (x211 : Int) : Option (((List HCell) × (List (ByteArray × Int)) × (List (ByteArray × ByteArray)) × (List (ByteArray × Int))) ⊕ (Bool)) :=
 bif decide (x211 < (p3.length : Int)) then (bif decide ((0 : Int) ≤ IntKind.i64.wrap ((1 : Int) + v4)) && decide ((IntKind.i64.wrap ((1 : Int) + v4)) ≤ IntKind.i64.wrap ((1 : Int) + v4)) && decide ((1 : Int) * (IntKind.i64.wrap ((1 : Int) + v4)) ≤ 281474976710656) && decide ((IntKind.i64.wrap ((1 : Int) + v4)) ≤ 9223372036854775807) then (bif decide ((0 : Int) ≤ IntKind.i64.wrap ((1 : Int) + v6)) && decide ((IntKind.i64.wrap ((1 : Int) + v6)) ≤ IntKind.i64.wrap ((1 : Int) + v6)) && decide ((1 : Int) * (IntKind.i64.wrap ((1 : Int) + v6)) ≤ 281474976710656) && decide ((IntKind.i64.wrap ((1 : Int) + v6)) ≤ 9223372036854775807) then (bif inb x211 p3.length then (Option.bind (fn6 ((gt p3 x211).fWhat) 6) fun v255 => (bif decide ((4 : Int) ≤ v255) then (Option.bind (fn9v1 xs207 v175.2.1 v175.2.2.1 v175.2.2.2.1 v175.2.2.2.2.1 xs208 (pasteX (List.replicate (IntKind.i64.wrap ((1 : Int) + v4)).toNat 0) 0 (((gt p3 x211).fKey.2).take (((IntKind.i64.wrap ((1 : Int) + v4)).toNat) - 0)))) fun v258 => (bif (v258.1 == 0) != (mhas xs209 (strOfNums (pasteX (List.replicate (IntKind.i64.wrap ((1 : Int) + v4)).toNat 0) 0 (((gt p3 x211).fKey.2).take (((IntKind.i64.wrap ((1 : Int) + v4)).toNat) - 0))))) then (some (.inr (false))) else (rl3 v258.2.1 v258.2.2 (mdel xs209 (strOfNums (pasteX (List.replicate (IntKind.i64.wrap ((1 : Int) + v4)).toNat 0) 0 (((gt p3 x211).fKey.2).take (((IntKind.i64.wrap ((1 : Int) + v4)).toNat) - 0))))) xs210 (IntKind.i64.wrap (x211 + 1))))) else (Option.bind (fn10v1 F xs207 v175.2.1 v175.2.2.1 v175.2.2.2.1 v175.2.2.2.2.1 xs208 (pasteX (List.replicate (IntKind.i64.wrap ((1 : Int) + v4)).toNat 0) 0 (((gt p3 x211).fKey.2).take (((IntKind.i64.wrap ((1 : Int) + v4)).toNat) - 0))) (pasteX (List.replicate (IntKind.i64.wrap ((1 : Int) + v6)).toNat 0) 0 (((gt p3 x211).fB.2).take (((IntKind.i64.wrap ((1 : Int) + v6)).toNat) - 0))) 0) fun v261 => (bif !(mhas xs209 (strOfNums (pasteX (List.replicate (IntKind.i64.wrap ((1 : Int) + v4)).toNat 0) 0 (((gt p3 x211).fKey.2).take (((IntKind.i64.wrap ((1 : Int) + v4)).toNat) - 0))))) then (bif (xs209.length : Int) == (IntKind.i64.wrap ((1 : Int) + v8)) then (bif v261.1 != 8 then (some (.inr (false))) else (rl3 v261.2.1 v261.2.2 xs209 xs210 (IntKind.i64.wrap (x211 + 1)))) else (Option.bind (fn11v1 v261.2.1 v175.2.1 v175.2.2.1 v175.2.2.2.1 v175.2.2.2.2.1 v261.2.2 (pasteX (List.replicate (IntKind.i64.wrap ((1 : Int) + v4)).toNat 0) 0 (((gt p3 x211).fKey.2).take (((IntKind.i64.wrap ((1 : Int) + v4)).toNat) - 0)))) fun v266 => (bif v261.1 != 0 then (some (.inr (false))) else (bif v266.2 != 0 then (some (.inr (false))) else (bif mhas xs209 (strOfNums (pasteX (List.replicate (IntKind.i64.wrap ((1 : Int) + v4)).toNat 0) 0 (((gt p3 x211).fKey.2).take (((IntKind.i64.wrap ((1 : Int) + v4)).toNat) - 0)))) then (bif (((mget xs210 (strOfNums (pasteX (List.replicate (IntKind.i64.wrap ((1 : Int) + v4)).toNat 0) 0 (((gt p3 x211).fKey.2).take (((IntKind.i64.wrap ((1 : Int) + v4)).toNat) - 0)))) (0 : Int)) != v266.1) || (decide (v266.1 < 0))) || (decide ((IntKind.i64.wrap ((1 : Int) + v8)) ≤ v266.1)) then (some (.inr (false))) else (rl3 v261.2.1 v261.2.2 (mput xs209 (strOfNums (pasteX (List.replicate (IntKind.i64.wrap ((1 : Int) + v4)).toNat 0) 0 (((gt p3 x211).fKey.2).take (((IntKind.i64.wrap ((1 : Int) + v4)).toNat) - 0)))) (strOfNums (pasteX (List.replicate (IntKind.i64.wrap ((1 : Int) + v6)).toNat 0) 0 (((gt p3 x211).fB.2).take (((IntKind.i64.wrap ((1 : Int) + v6)).toNat) - 0))))) (mput xs210 (strOfNums (pasteX (List.replicate (IntKind.i64.wrap ((1 : Int) + v4)).toNat 0) 0 (((gt p3 x211).fKey.2).take (((IntKind.i64.wrap ((1 : Int) + v4)).toNat) - 0)))) v266.1) (IntKind.i64.wrap (x211 + 1)))) else (bif (decide (v266.1 < 0)) || (decide ((IntKind.i64.wrap ((1 : Int) + v8)) ≤ v266.1)) then (some (.inr (false))) else (rl3 v261.2.1 v261.2.2 (mput xs209 (strOfNums (pasteX (List.replicate (IntKind.i64.wrap ((1 : Int) + v4)).toNat 0) 0 (((gt p3 x211).fKey.2).take (((IntKind.i64.wrap ((1 : Int) + v4)).toNat) - 0)))) (strOfNums (pasteX (List.replicate (IntKind.i64.wrap ((1 : Int) + v6)).toNat 0) 0 (((gt p3 x211).fB.2).take (((IntKind.i64.wrap ((1 : Int) + v6)).toNat) - 0))))) (mput xs210 (strOfNums (pasteX (List.replicate (IntKind.i64.wrap ((1 : Int) + v4)).toNat 0) 0 (((gt p3 x211).fKey.2).take (((IntKind.i64.wrap ((1 : Int) + v4)).toNat) - 0)))) v266.1) (IntKind.i64.wrap (x211 + 1))))))))) else (Option.bind (fn11v1 v261.2.1 v175.2.1 v175.2.2.1 v175.2.2.2.1 v175.2.2.2.2.1 v261.2.2 (pasteX (List.replicate (IntKind.i64.wrap ((1 : Int) + v4)).toNat 0) 0 (((gt p3 x211).fKey.2).take (((IntKind.i64.wrap ((1 : Int) + v4)).toNat) - 0)))) fun v273 => (bif v261.1 != 0 then (some (.inr (false))) else (bif v273.2 != 0 then (some (.inr (false))) else (bif mhas xs209 (strOfNums (pasteX (List.replicate (IntKind.i64.wrap ((1 : Int) + v4)).toNat 0) 0 (((gt p3 x211).fKey.2).take (((IntKind.i64.wrap ((1 : Int) + v4)).toNat) - 0)))) then (bif (((mget xs210 (strOfNums (pasteX (List.replicate (IntKind.i64.wrap ((1 : Int) + v4)).toNat 0) 0 (((gt p3 x211).fKey.2).take (((IntKind.i64.wrap ((1 : Int) + v4)).toNat) - 0)))) (0 : Int)) != v273.1) || (decide (v273.1 < 0))) || (decide ((IntKind.i64.wrap ((1 : Int) + v8)) ≤ v273.1)) then (some (.inr (false))) else (rl3 v261.2.1 v261.2.2 (mput xs209 (strOfNums (pasteX (List.replicate (IntKind.i64.wrap ((1 : Int) + v4)).toNat 0) 0 (((gt p3 x211).fKey.2).take (((IntKind.i64.wrap ((1 : Int) + v4)).toNat) - 0)))) (strOfNums (pasteX (List.replicate (IntKind.i64.wrap ((1 : Int) + v6)).toNat 0) 0 (((gt p3 x211).fB.2).take (((IntKind.i64.wrap ((1 : Int) + v6)).toNat) - 0))))) (mput xs210 (strOfNums (pasteX (List.replicate (IntKind.i64.wrap ((1 : Int) + v4)).toNat 0) 0 (((gt p3 x211).fKey.2).take (((IntKind.i64.wrap ((1 : Int) + v4)).toNat) - 0)))) v273.1) (IntKind.i64.wrap (x211 + 1)))) else (bif (decide (v273.1 < 0)) || (decide ((IntKind.i64.wrap ((1 : Int) + v8)) ≤ v273.1)) then (some (.inr (false))) else (rl3 v261.2.1 v261.2.2 (mput xs209 (strOfNums (pasteX (List.replicate (IntKind.i64.wrap ((1 : Int) + v4)).toNat 0) 0 (((gt p3 x211).fKey.2).take (((IntKind.i64.wrap ((1 : Int) + v4)).toNat) - 0)))) (strOfNums (pasteX (List.replicate (IntKind.i64.wrap ((1 : Int) + v6)).toNat 0) 0 (((gt p3 x211).fB.2).take (((IntKind.i64.wrap ((1 : Int) + v6)).toNat) - 0))))) (mput xs210 (strOfNums (pasteX (List.replicate (IntKind.i64.wrap ((1 : Int) + v4)).toNat 0) 0 (((gt p3 x211).fKey.2).take (((IntKind.i64.wrap ((1 : Int) + v4)).toNat) - 0)))) v273.1) (IntKind.i64.wrap (x211 + 1)))))))))))) else none) else none) else none) else (some (.inl (xs207, xs208, xs209, xs210)))
def fn3_l3 (F : Nat) (p3 : List DoK) (v4 : Int) (v6 : Int) (v8 : Int) (v175 : (List HCell) × Int × Int × Int × Int × (List (ByteArray × Int)) × Int) : Nat → (List HCell) → (List (ByteArray × Int)) → (List (ByteArray × ByteArray)) → (List (ByteArray × Int)) → Int → Option (((List HCell) × (List (ByteArray × Int)) × (List (ByteArray × ByteArray)) × (List (ByteArray × Int))) ⊕ (Bool))
 | 0, _, _, _, _, _ => none
 | n247 + 1, xs207, xs208, xs209, xs210, x211 => fn3_b3 F p3 v4 v6 v8 v175 (fn3_l3 F p3 v4 v6 v8 v175 n247) xs207 xs208 xs209 xs210 x211
theorem fn3_l3_s (F : Nat) (p3 : List DoK) (v4 : Int) (v6 : Int) (v8 : Int) (v175 : (List HCell) × Int × Int × Int × Int × (List (ByteArray × Int)) × Int) (n247 : Nat) (xs207 : List HCell) (xs208 : List (ByteArray × Int)) (xs209 : List (ByteArray × ByteArray)) (xs210 : List (ByteArray × Int)) (x211 : Int) : fn3_l3 F p3 v4 v6 v8 v175 (n247 + 1) xs207 xs208 xs209 xs210 x211 = fn3_b3 F p3 v4 v6 v8 v175 (fn3_l3 F p3 v4 v6 v8 v175 n247) xs207 xs208 xs209 xs210 x211 := rfl
def fn3_k3 (F : Nat) (v175 : (List HCell) × Int × Int × Int × Int × (List (ByteArray × Int)) × Int) (xs241 : List HCell) (xs242 : List (ByteArray × Int)) (xs243 : List (ByteArray × ByteArray)) (xs244 : List (ByteArray × Int)) : Option (Bool) :=
 Option.bind (fn12v1 F xs241 v175.2.1 v175.2.2.1 v175.2.2.2.1 v175.2.2.2.2.1 xs242) fun v280 => (Option.bind (fn3_l4 v175 xs241 xs242 xs243 xs244 v280 F ([] : List (Int × Bool)) 0) fun o316 => (match o316 with | .inl u => fn3_k4 xs243 v280 | .inr u => some u))
def fn3 (F : Nat) (p0 : Int) (p1 : Int) (p2 : Int) (p3 : List DoK) : Option (Bool) :=
 Option.bind (fn5 F) fun v1 => (bif !v1 then (some (false)) else (Option.bind (fn6 p0 3) fun v4 => (Option.bind (fn6 p1 9) fun v6 => (Option.bind (fn6 p2 40) fun v8 => (Option.bind (fn7 F (⟨2, IntKind.i64.wrap ((1 : Int) + v4), IntKind.i64.wrap ((1 : Int) + v6), IntKind.i64.wrap ((1 : Int) + v8)⟩ : MSpec) p3) fun v10 => (bif v10 || (decide ((200 : Int) < (p3.length : Int))) then (some (true)) else (frk2 (fn8 F (⟨2, IntKind.i64.wrap ((1 : Int) + v4), IntKind.i64.wrap ((1 : Int) + v6), IntKind.i64.wrap ((1 : Int) + v8)⟩ : MSpec)) (fun v13 => bif v13 != 0 then (some (false)) else (Option.bind (fn3_l1 p3 v4 v6 v8 F ([] : List (ByteArray × ByteArray)) ([] : List (ByteArray × Int)) 0) fun o79 => (match o79 with | .inl u => fn3_k1 F u.1 u.2 | .inr u => some u))) (fun v175 => bif v175.2.2.2.2.2.2 != 0 then (some (false)) else (Option.bind (fn3_l3 F p3 v4 v6 v8 v175 F v175.1 v175.2.2.2.2.2.1 ([] : List (ByteArray × ByteArray)) ([] : List (ByteArray × Int)) 0) fun o245 => (match o245 with | .inl u => fn3_k3 F v175 u.1 u.2.1 u.2.2.1 u.2.2.2 | .inr u => some u))))))))))
theorem c3 (F : Nat) (p0 : Int) (p1 : Int) (p2 : Int) (p3 : List DoK) (r : Bool) (h : fn3 F p0 p1 p2 p3 = some r) : Con Try.prog 3 [.v (.int .i64 p0), .v (.int .i64 p1), .v (.int .i64 p2), .sl 0] [(0, .rds DoK.E DoK.K p3)] 1 (.v (.bool r)) [] 1 := by
 rw [fn3] at h
 refine Con.of_body Try.func3 rfl Try.ntmps3 rfl fun w F0 ρ => ?_
 obtain ⟨v1, hv2, h⟩ := bd h
 refine RU tbOk false 999 2 [.cl true [] (fun _ => c5 F _ hv2)] (aK aN) (by rfl) ?_
 refine RU tbOk false 999 1 [] aN (by rfl) ?_
 refine CD h (by rfl) (fun h hb3 => ?_) (fun h hb3 => ?_)
 ·refine RU tbOk false 999 1 [] aN (by rfl) ?_
  have hr := Option.some.inj h
  subst hr
  exact RT tbOk.t Try.results3 [0] (by rfl) (by rfl) (by rfl) rfl rfl
 ·obtain ⟨v4, hv5, h⟩ := bd h
  refine RU tbOk false 999 2 [.cl true [] (fun _ => c6 p0 3 _ hv5)] (aK aN) (by rfl) ?_
  obtain ⟨v6, hv7, h⟩ := bd h
  refine RU tbOk false 999 3 [.cl true [] (fun _ => c6 p1 9 _ hv7)] (aK aN) (by rfl) ?_
  obtain ⟨v8, hv9, h⟩ := bd h
  refine RU tbOk false 999 3 [.cl true [] (fun _ => c6 p2 40 _ hv9)] (aK aN) (by rfl) ?_
  obtain ⟨v10, hv11, h⟩ := bd h
  refine RU tbOk false 999 7 [.cl true [0] (fun _ => c7 F (⟨2, IntKind.i64.wrap ((1 : Int) + v4), IntKind.i64.wrap ((1 : Int) + v6), IntKind.i64.wrap ((1 : Int) + v8)⟩ : MSpec) p3 _ hv11)] (aK aN) (by rfl) ?_
  refine RU tbOk false 999 5 [] aN (by rfl) ?_
  refine CD h (by rfl) (fun h hb12 => ?_) (fun h hb12 => ?_)
  ·refine RU tbOk false 999 1 [] aN (by rfl) ?_
   have hr := Option.some.inj h
   subst hr
   exact RT tbOk.t Try.results3 [0] (by rfl) (by rfl) (by rfl) rfl rfl
  ·refine RU tbOk false 999 1 [] aN (by rfl) ?_
   refine fk2 h (fun v13 hv14 h => ?_) (fun v175 hv176 h => ?_)
   ·refine RU tbOk false 999 1 [.cl true [] (fun _ => c8_0 F (⟨2, IntKind.i64.wrap ((1 : Int) + v4), IntKind.i64.wrap ((1 : Int) + v6), IntKind.i64.wrap ((1 : Int) + v8)⟩ : MSpec) v13 hv14)] (aK aN) (by rfl) ?_
    refine RU tbOk false 999 7 [] aN (by rfl) ?_
    refine CD h (by rfl) (fun h hb15 => ?_) (fun h hb15 => ?_)
    ·refine RU tbOk false 999 1 [] aN (by rfl) ?_
     have hr := Option.some.inj h
     subst hr
     exact RT tbOk.t Try.results3 [0] (by rfl) (by rfl) (by rfl) rfl rfl
    ·refine RU tbOk false 999 5 [.mm Kn.str Vn.str, .mm Kn.str (Vn.int .i64)] aN (by rfl) ?_
     obtain ⟨o79, hl80, h⟩ := bd h
     refine CTS 0 (fun u174 => ⟨[(10, .v (.pointer none)), (12, .mp 1), (13, .mp 2)], [(0, .rds DoK.E DoK.K p3), (1, .omap Kn.str Vn.str u174.1), (2, .omap Kn.str (Vn.int .i64) u174.2)], 3⟩) o79 ?_ (fun u174 hu174 => ?_)
     ·have h083 := h
      clear h
      refine G4.imp (Imp.to [0, 1, 2, 3] (by rfl) (by rfl) rfl rfl) (LP (fun (n : Nat) (s : (List (ByteArray × ByteArray)) × (List (ByteArray × Int)) × Int) => fn3_l1 p3 v4 v6 v8 n s.1 s.2.1 s.2.2) (fun (s : (List (ByteArray × ByteArray)) × (List (ByteArray × Int)) × Int) => ⟨[(3, .sl 0), (9, .p 1 0), (10, .v (.pointer none)), (12, .mp 2), (13, .mp 3), (14, .v (.int .i64 s.2.2))], [(0, .rds DoK.E DoK.K p3), (1, .cells 27 [.v (.int .u8 2), .v (.int .i64 (IntKind.i64.wrap ((1 : Int) + v4))), .v (.int .i64 (IntKind.i64.wrap ((1 : Int) + v6))), .v (.int .i64 (IntKind.i64.wrap ((1 : Int) + v8)))]), (2, .omap Kn.str Vn.str s.1), (3, .omap Kn.str (Vn.int .i64) s.2.1)], 4⟩) (fun _ => rfl) (s0 := (([] : List (ByteArray × ByteArray)), ([] : List (ByteArray × Int)), 0)) hl80 ?_)
      clear hl80
      rintro R84 n81 ⟨xs45, xs46, x47⟩ h ih82
      replace h := (fn3_l1_s p3 v4 v6 v8 n81 xs45 xs46 x47).symm.trans h
      rw [fn3_b1] at h
      refine RU tbOk false 999 4 [] aN (by rfl) ?_
      refine CD h (by rfl) (fun h hb85 => ?_) (fun h hb85 => ?_)
      ·refine RU tbOk false 999 0 [] aN (by rfl) ?_
       obtain ⟨hk86, h⟩ := ck h
       obtain ⟨hk87, h⟩ := ck h
       refine DR tbOk hmix [15, 16] [([], []), ([1], []), ([], []), ([], []), ([1], []), ([], []), ([], []), ([], [])] [.ms (Et.int .u8) 0, .ms (Et.int .u8) 0] (aR (aC hk86 (aR (aR (aC hk87 (aR aN)))))) (by rfl) ?_
       obtain ⟨hk88, h⟩ := ck h
       obtain ⟨v89, hv90, h⟩ := bd h
       refine RU tbOk false 999 29 [.kd DoK.E DoK.K _ 0 ⟨(Et.int .u8), (gt p3 x47).fKey.1, (gt p3 x47).fKey.2⟩, .co (Et.int .u8) 4 _ _, .kd DoK.E DoK.K _ 1 ⟨(Et.int .u8), (gt p3 x47).fB.1, (gt p3 x47).fB.2⟩, .co (Et.int .u8) 5 _ _, .b2 _, .lo Kn.str Vn.str _ (strOfNums (pasteX (List.replicate (IntKind.i64.wrap ((1 : Int) + v4)).toNat 0) 0 (((gt p3 x47).fKey.2).take (((IntKind.i64.wrap ((1 : Int) + v4)).toNat) - 0)))) (⟨#[]⟩ : ByteArray) Try.runUnderlying33 Try.runUnderlying9 Try.zeroValue9, .cl true [] (fun _ => c6 ((gt p3 x47).fWhat) 6 _ hv90)] (aC hk88 (aR (aC hk88 (aR (aR (aR (aR (aC bleR (aC hk88 (aR (aC hk88 (aR (aR (aR (aR (aC bleR (aR (aR (aR (aC hk88 (aK aN))))))))))))))))))))) (by rfl) ?_
       refine RU tbOk false 999 1 [] aN (by rfl) ?_
       refine CD h (by rfl) (fun h hb91 => ?_) (fun h hb91 => ?_)
       ·obtain ⟨v92, hv93, h⟩ := bd h
        refine RU tbOk false 999 3 [.cl true [4] (fun _ => c9 (pasteX (List.replicate (IntKind.i64.wrap ((1 : Int) + v4)).toNat 0) 0 (((gt p3 x47).fKey.2).take (((IntKind.i64.wrap ((1 : Int) + v4)).toNat) - 0))) _ hv93)] (aK aN) (by rfl) ?_
        refine RU tbOk false 999 3 [] aN (by rfl) ?_
        refine CD h (by rfl) (fun h hb94 => ?_) (fun h hb94 => ?_)
        ·refine RU tbOk false 999 1 [] aN (by rfl) ?_
         have ho := Option.some.inj h
         subst ho
         replace h := h083
         refine RU tbOk false 999 0 [] aN (by rfl) ?_
         have hr := Option.some.inj h
         subst hr
         exact RT tbOk.t Try.results3 [0] (by rfl) (by rfl) (by rfl) rfl rfl
        ·refine RU tbOk false 999 7 [.b2 _, .de Kn.str Vn.str _ (strOfNums (pasteX (List.replicate (IntKind.i64.wrap ((1 : Int) + v4)).toNat 0) 0 (((gt p3 x47).fKey.2).take (((IntKind.i64.wrap ((1 : Int) + v4)).toNat) - 0)))) Try.runUnderlying33 Try.runUnderlying9] (aR (aR (aR aN))) (by rfl) ?_
         exact ih82 (mdel xs45 (strOfNums (pasteX (List.replicate (IntKind.i64.wrap ((1 : Int) + v4)).toNat 0) 0 (((gt p3 x47).fKey.2).take (((IntKind.i64.wrap ((1 : Int) + v4)).toNat) - 0)))), xs46, IntKind.i64.wrap (x47 + 1)) h _ _ (Imp.to [0, 1, 2, 3] (by rfl) (by rfl) rfl rfl)
       ·obtain ⟨v95, hv96, h⟩ := bd h
        refine RU tbOk false 999 4 [.cl true [4, 5] (fun _ => c10 (pasteX (List.replicate (IntKind.i64.wrap ((1 : Int) + v4)).toNat 0) 0 (((gt p3 x47).fKey.2).take (((IntKind.i64.wrap ((1 : Int) + v4)).toNat) - 0))) (pasteX (List.replicate (IntKind.i64.wrap ((1 : Int) + v6)).toNat 0) 0 (((gt p3 x47).fB.2).take (((IntKind.i64.wrap ((1 : Int) + v6)).toNat) - 0))) 0 _ hv96)] (aK aN) (by rfl) ?_
        refine RU tbOk false 999 3 [] aN (by rfl) ?_
        refine CDS h (fun h hb97 => ?_) (fun h hb97 => ?_)
        ·refine RU (tbOk.lit [(114, 115, true)]) false 999 7 [.lm Kn.str Vn.str _ Try.runUnderlying33] (aC hb97 (aR aN)) (by rfl) ?_
         refine RU tbOk false 999 0 [] aN (by rfl) ?_
         refine CD h (by rfl) (fun h hb98 => ?_) (fun h hb98 => ?_)
         ·refine RU tbOk false 999 2 [] aN (by rfl) ?_
          refine CD h (by rfl) (fun h hb99 => ?_) (fun h hb99 => ?_)
          ·refine RU tbOk false 999 1 [] aN (by rfl) ?_
           have ho := Option.some.inj h
           subst ho
           replace h := h083
           refine RU tbOk false 999 0 [] aN (by rfl) ?_
           have hr := Option.some.inj h
           subst hr
           exact RT tbOk.t Try.results3 [0] (by rfl) (by rfl) (by rfl) rfl rfl
          ·refine RU tbOk false 999 3 [] aN (by rfl) ?_
           exact ih82 (xs45, xs46, IntKind.i64.wrap (x47 + 1)) h _ _ (Imp.to [0, 1, 2, 3] (by rfl) (by rfl) rfl rfl)
         ·obtain ⟨v100, hv101, h⟩ := bd h
          refine RU tbOk false 999 3 [.cl true [4] (fun _ => c11 (pasteX (List.replicate (IntKind.i64.wrap ((1 : Int) + v4)).toNat 0) 0 (((gt p3 x47).fKey.2).take (((IntKind.i64.wrap ((1 : Int) + v4)).toNat) - 0))) _ hv101)] (aK aN) (by rfl) ?_
          refine RU tbOk false 999 7 [] aN (by rfl) ?_
          refine CDS h (fun h hb102 => ?_) (fun h hb102 => ?_)
          ·refine RU (tbOk.lit [(131, 132, true), (135, 136, true), (146, 147, true), (150, 151, true)]) false 999 25 [] (aC hb102 (aC rfl (aC rfl (aC rfl aN)))) (by rfl) ?_
           refine RU tbOk false 999 0 [] aN (by rfl) ?_
           refine CDT rfl (by rfl) ?_
           refine RU tbOk false 999 1 [] aN (by rfl) ?_
           have ho := Option.some.inj h
           subst ho
           replace h := h083
           refine RU tbOk false 999 0 [] aN (by rfl) ?_
           have hr := Option.some.inj h
           subst hr
           exact RT tbOk.t Try.results3 [0] (by rfl) (by rfl) (by rfl) rfl rfl
          ·refine RU (tbOk.lit [(131, 132, false)]) false 999 4 [] (aC hb102 aN) (by rfl) ?_
           refine CDS h (fun h hb103 => ?_) (fun h hb103 => ?_)
           ·refine RU (tbOk.lit [(135, 136, true), (146, 147, true), (150, 151, true)]) false 999 21 [] (aC hb103 (aC rfl (aC rfl aN))) (by rfl) ?_
            refine RU tbOk false 999 0 [] aN (by rfl) ?_
            refine CDT rfl (by rfl) ?_
            refine RU tbOk false 999 1 [] aN (by rfl) ?_
            have ho := Option.some.inj h
            subst ho
            replace h := h083
            refine RU tbOk false 999 0 [] aN (by rfl) ?_
            have hr := Option.some.inj h
            subst hr
            exact RT tbOk.t Try.results3 [0] (by rfl) (by rfl) (by rfl) rfl rfl
           ·refine RU (tbOk.lit [(135, 136, false)]) false 999 2 [] (aC hb103 aN) (by rfl) ?_
            refine CDS h (fun h hb104 => ?_) (fun h hb104 => ?_)
            ·refine RU (tbOk.lit [(135, 136, false), (137, 138, true)]) false 999 19 [.b2 _, .lo Kn.str (Vn.int .i64) _ (strOfNums (pasteX (List.replicate (IntKind.i64.wrap ((1 : Int) + v4)).toNat 0) 0 (((gt p3 x47).fKey.2).take (((IntKind.i64.wrap ((1 : Int) + v4)).toNat) - 0)))) (0 : Int) Try.runUnderlying34 Try.runUnderlying9 Try.zeroValue3] (aC hb104 (aR (aR (aR aN)))) (by rfl) ?_
             refine RU tbOk false 999 0 [] aN (by rfl) ?_
             refine CD h (by rfl) (fun h hb105 => ?_) (fun h hb105 => ?_)
             ·refine RU tbOk false 999 1 [] aN (by rfl) ?_
              have ho := Option.some.inj h
              subst ho
              replace h := h083
              refine RU tbOk false 999 0 [] aN (by rfl) ?_
              have hr := Option.some.inj h
              subst hr
              exact RT tbOk.t Try.results3 [0] (by rfl) (by rfl) (by rfl) rfl rfl
             ·refine RU tbOk false 999 14 [.b2 _, .b2 _, .mu Kn.str Vn.str _ (strOfNums (pasteX (List.replicate (IntKind.i64.wrap ((1 : Int) + v4)).toNat 0) 0 (((gt p3 x47).fKey.2).take (((IntKind.i64.wrap ((1 : Int) + v4)).toNat) - 0)))) (strOfNums (pasteX (List.replicate (IntKind.i64.wrap ((1 : Int) + v6)).toNat 0) 0 (((gt p3 x47).fB.2).take (((IntKind.i64.wrap ((1 : Int) + v6)).toNat) - 0)))) Try.runUnderlying33 Try.runUnderlying9, .b2 _, .mu Kn.str (Vn.int .i64) _ (strOfNums (pasteX (List.replicate (IntKind.i64.wrap ((1 : Int) + v4)).toNat 0) 0 (((gt p3 x47).fKey.2).take (((IntKind.i64.wrap ((1 : Int) + v4)).toNat) - 0)))) v100.1 Try.runUnderlying34 Try.runUnderlying9] (aR (aR (aR (aR (aR (aR (aR (aR (aR aN))))))))) (by rfl) ?_
              exact ih82 (mput xs45 (strOfNums (pasteX (List.replicate (IntKind.i64.wrap ((1 : Int) + v4)).toNat 0) 0 (((gt p3 x47).fKey.2).take (((IntKind.i64.wrap ((1 : Int) + v4)).toNat) - 0)))) (strOfNums (pasteX (List.replicate (IntKind.i64.wrap ((1 : Int) + v6)).toNat 0) 0 (((gt p3 x47).fB.2).take (((IntKind.i64.wrap ((1 : Int) + v6)).toNat) - 0)))), mput xs46 (strOfNums (pasteX (List.replicate (IntKind.i64.wrap ((1 : Int) + v4)).toNat 0) 0 (((gt p3 x47).fKey.2).take (((IntKind.i64.wrap ((1 : Int) + v4)).toNat) - 0)))) v100.1, IntKind.i64.wrap (x47 + 1)) h _ _ (Imp.to [0, 1, 2, 3] (by rfl) (by rfl) rfl rfl)
            ·refine RU (tbOk.lit [(135, 136, false), (137, 138, false), (146, 147, false)]) false 999 19 [] (aC hb104 (aC rfl aN)) (by rfl) ?_
             refine RU tbOk false 999 0 [] aN (by rfl) ?_
             refine CD h (by rfl) (fun h hb106 => ?_) (fun h hb106 => ?_)
             ·refine RU tbOk false 999 1 [] aN (by rfl) ?_
              have ho := Option.some.inj h
              subst ho
              replace h := h083
              refine RU tbOk false 999 0 [] aN (by rfl) ?_
              have hr := Option.some.inj h
              subst hr
              exact RT tbOk.t Try.results3 [0] (by rfl) (by rfl) (by rfl) rfl rfl
             ·refine RU tbOk false 999 14 [.b2 _, .b2 _, .mu Kn.str Vn.str _ (strOfNums (pasteX (List.replicate (IntKind.i64.wrap ((1 : Int) + v4)).toNat 0) 0 (((gt p3 x47).fKey.2).take (((IntKind.i64.wrap ((1 : Int) + v4)).toNat) - 0)))) (strOfNums (pasteX (List.replicate (IntKind.i64.wrap ((1 : Int) + v6)).toNat 0) 0 (((gt p3 x47).fB.2).take (((IntKind.i64.wrap ((1 : Int) + v6)).toNat) - 0)))) Try.runUnderlying33 Try.runUnderlying9, .b2 _, .mu Kn.str (Vn.int .i64) _ (strOfNums (pasteX (List.replicate (IntKind.i64.wrap ((1 : Int) + v4)).toNat 0) 0 (((gt p3 x47).fKey.2).take (((IntKind.i64.wrap ((1 : Int) + v4)).toNat) - 0)))) v100.1 Try.runUnderlying34 Try.runUnderlying9] (aR (aR (aR (aR (aR (aR (aR (aR (aR aN))))))))) (by rfl) ?_
              exact ih82 (mput xs45 (strOfNums (pasteX (List.replicate (IntKind.i64.wrap ((1 : Int) + v4)).toNat 0) 0 (((gt p3 x47).fKey.2).take (((IntKind.i64.wrap ((1 : Int) + v4)).toNat) - 0)))) (strOfNums (pasteX (List.replicate (IntKind.i64.wrap ((1 : Int) + v6)).toNat 0) 0 (((gt p3 x47).fB.2).take (((IntKind.i64.wrap ((1 : Int) + v6)).toNat) - 0)))), mput xs46 (strOfNums (pasteX (List.replicate (IntKind.i64.wrap ((1 : Int) + v4)).toNat 0) 0 (((gt p3 x47).fKey.2).take (((IntKind.i64.wrap ((1 : Int) + v4)).toNat) - 0)))) v100.1, IntKind.i64.wrap (x47 + 1)) h _ _ (Imp.to [0, 1, 2, 3] (by rfl) (by rfl) rfl rfl)
        ·refine RU (tbOk.lit [(114, 115, false)]) false 999 7 [] (aC hb97 aN) (by rfl) ?_
         refine RU tbOk false 999 0 [] aN (by rfl) ?_
         refine CDF rfl (by rfl) ?_
         obtain ⟨v107, hv108, h⟩ := bd h
         refine RU tbOk false 999 3 [.cl true [4] (fun _ => c11 (pasteX (List.replicate (IntKind.i64.wrap ((1 : Int) + v4)).toNat 0) 0 (((gt p3 x47).fKey.2).take (((IntKind.i64.wrap ((1 : Int) + v4)).toNat) - 0))) _ hv108)] (aK aN) (by rfl) ?_
         refine RU tbOk false 999 7 [] aN (by rfl) ?_
         refine CDS h (fun h hb109 => ?_) (fun h hb109 => ?_)
         ·refine RU (tbOk.lit [(131, 132, true), (135, 136, true), (146, 147, true), (150, 151, true)]) false 999 25 [] (aC hb109 (aC rfl (aC rfl (aC rfl aN)))) (by rfl) ?_
          refine RU tbOk false 999 0 [] aN (by rfl) ?_
          refine CDT rfl (by rfl) ?_
          refine RU tbOk false 999 1 [] aN (by rfl) ?_
          have ho := Option.some.inj h
          subst ho
          replace h := h083
          refine RU tbOk false 999 0 [] aN (by rfl) ?_
          have hr := Option.some.inj h
          subst hr
          exact RT tbOk.t Try.results3 [0] (by rfl) (by rfl) (by rfl) rfl rfl
         ·refine RU (tbOk.lit [(131, 132, false)]) false 999 4 [] (aC hb109 aN) (by rfl) ?_
          refine CDS h (fun h hb110 => ?_) (fun h hb110 => ?_)
          ·refine RU (tbOk.lit [(135, 136, true), (146, 147, true), (150, 151, true)]) false 999 21 [] (aC hb110 (aC rfl (aC rfl aN))) (by rfl) ?_
           refine RU tbOk false 999 0 [] aN (by rfl) ?_
           refine CDT rfl (by rfl) ?_
           refine RU tbOk false 999 1 [] aN (by rfl) ?_
           have ho := Option.some.inj h
           subst ho
           replace h := h083
           refine RU tbOk false 999 0 [] aN (by rfl) ?_
           have hr := Option.some.inj h
           subst hr
           exact RT tbOk.t Try.results3 [0] (by rfl) (by rfl) (by rfl) rfl rfl
          ·refine RU (tbOk.lit [(135, 136, false)]) false 999 2 [] (aC hb110 aN) (by rfl) ?_
           refine CDS h (fun h hb111 => ?_) (fun h hb111 => ?_)
           ·refine RU (tbOk.lit [(135, 136, false), (137, 138, true)]) false 999 19 [.b2 _, .lo Kn.str (Vn.int .i64) _ (strOfNums (pasteX (List.replicate (IntKind.i64.wrap ((1 : Int) + v4)).toNat 0) 0 (((gt p3 x47).fKey.2).take (((IntKind.i64.wrap ((1 : Int) + v4)).toNat) - 0)))) (0 : Int) Try.runUnderlying34 Try.runUnderlying9 Try.zeroValue3] (aC hb111 (aR (aR (aR aN)))) (by rfl) ?_
            refine RU tbOk false 999 0 [] aN (by rfl) ?_
            refine CD h (by rfl) (fun h hb112 => ?_) (fun h hb112 => ?_)
            ·refine RU tbOk false 999 1 [] aN (by rfl) ?_
             have ho := Option.some.inj h
             subst ho
             replace h := h083
             refine RU tbOk false 999 0 [] aN (by rfl) ?_
             have hr := Option.some.inj h
             subst hr
             exact RT tbOk.t Try.results3 [0] (by rfl) (by rfl) (by rfl) rfl rfl
            ·refine RU tbOk false 999 14 [.b2 _, .b2 _, .mu Kn.str Vn.str _ (strOfNums (pasteX (List.replicate (IntKind.i64.wrap ((1 : Int) + v4)).toNat 0) 0 (((gt p3 x47).fKey.2).take (((IntKind.i64.wrap ((1 : Int) + v4)).toNat) - 0)))) (strOfNums (pasteX (List.replicate (IntKind.i64.wrap ((1 : Int) + v6)).toNat 0) 0 (((gt p3 x47).fB.2).take (((IntKind.i64.wrap ((1 : Int) + v6)).toNat) - 0)))) Try.runUnderlying33 Try.runUnderlying9, .b2 _, .mu Kn.str (Vn.int .i64) _ (strOfNums (pasteX (List.replicate (IntKind.i64.wrap ((1 : Int) + v4)).toNat 0) 0 (((gt p3 x47).fKey.2).take (((IntKind.i64.wrap ((1 : Int) + v4)).toNat) - 0)))) v107.1 Try.runUnderlying34 Try.runUnderlying9] (aR (aR (aR (aR (aR (aR (aR (aR (aR aN))))))))) (by rfl) ?_
             exact ih82 (mput xs45 (strOfNums (pasteX (List.replicate (IntKind.i64.wrap ((1 : Int) + v4)).toNat 0) 0 (((gt p3 x47).fKey.2).take (((IntKind.i64.wrap ((1 : Int) + v4)).toNat) - 0)))) (strOfNums (pasteX (List.replicate (IntKind.i64.wrap ((1 : Int) + v6)).toNat 0) 0 (((gt p3 x47).fB.2).take (((IntKind.i64.wrap ((1 : Int) + v6)).toNat) - 0)))), mput xs46 (strOfNums (pasteX (List.replicate (IntKind.i64.wrap ((1 : Int) + v4)).toNat 0) 0 (((gt p3 x47).fKey.2).take (((IntKind.i64.wrap ((1 : Int) + v4)).toNat) - 0)))) v107.1, IntKind.i64.wrap (x47 + 1)) h _ _ (Imp.to [0, 1, 2, 3] (by rfl) (by rfl) rfl rfl)
           ·refine RU (tbOk.lit [(135, 136, false), (137, 138, false), (146, 147, false)]) false 999 19 [] (aC hb111 (aC rfl aN)) (by rfl) ?_
            refine RU tbOk false 999 0 [] aN (by rfl) ?_
            refine CD h (by rfl) (fun h hb113 => ?_) (fun h hb113 => ?_)
            ·refine RU tbOk false 999 1 [] aN (by rfl) ?_
             have ho := Option.some.inj h
             subst ho
             replace h := h083
             refine RU tbOk false 999 0 [] aN (by rfl) ?_
             have hr := Option.some.inj h
             subst hr
             exact RT tbOk.t Try.results3 [0] (by rfl) (by rfl) (by rfl) rfl rfl
            ·refine RU tbOk false 999 14 [.b2 _, .b2 _, .mu Kn.str Vn.str _ (strOfNums (pasteX (List.replicate (IntKind.i64.wrap ((1 : Int) + v4)).toNat 0) 0 (((gt p3 x47).fKey.2).take (((IntKind.i64.wrap ((1 : Int) + v4)).toNat) - 0)))) (strOfNums (pasteX (List.replicate (IntKind.i64.wrap ((1 : Int) + v6)).toNat 0) 0 (((gt p3 x47).fB.2).take (((IntKind.i64.wrap ((1 : Int) + v6)).toNat) - 0)))) Try.runUnderlying33 Try.runUnderlying9, .b2 _, .mu Kn.str (Vn.int .i64) _ (strOfNums (pasteX (List.replicate (IntKind.i64.wrap ((1 : Int) + v4)).toNat 0) 0 (((gt p3 x47).fKey.2).take (((IntKind.i64.wrap ((1 : Int) + v4)).toNat) - 0)))) v107.1 Try.runUnderlying34 Try.runUnderlying9] (aR (aR (aR (aR (aR (aR (aR (aR (aR aN))))))))) (by rfl) ?_
             exact ih82 (mput xs45 (strOfNums (pasteX (List.replicate (IntKind.i64.wrap ((1 : Int) + v4)).toNat 0) 0 (((gt p3 x47).fKey.2).take (((IntKind.i64.wrap ((1 : Int) + v4)).toNat) - 0)))) (strOfNums (pasteX (List.replicate (IntKind.i64.wrap ((1 : Int) + v6)).toNat 0) 0 (((gt p3 x47).fB.2).take (((IntKind.i64.wrap ((1 : Int) + v6)).toNat) - 0)))), mput xs46 (strOfNums (pasteX (List.replicate (IntKind.i64.wrap ((1 : Int) + v4)).toNat 0) 0 (((gt p3 x47).fKey.2).take (((IntKind.i64.wrap ((1 : Int) + v4)).toNat) - 0)))) v107.1, IntKind.i64.wrap (x47 + 1)) h _ _ (Imp.to [0, 1, 2, 3] (by rfl) (by rfl) rfl rfl)
      ·refine RU tbOk false 999 0 [] aN (by rfl) ?_
       have ho := Option.some.inj h
       subst ho
       exact CES _ rfl (Imp.to [0, 2, 3] (by rfl) (by rfl) rfl rfl)
     ·subst hu174
      change fn3_k1 F u174.1 u174.2 = _ at h
      rw [fn3_k1] at h
      refine RU tbOk false 999 2 [.cl true [] (fun _ => c12 _ rfl)] (aK aN) (by rfl) ?_
      refine RU tbOk false 999 4 [.mm (Kn.int .i64) Vn.bool] aN (by rfl) ?_
      obtain ⟨o150, hl151, h⟩ := bd h
      refine CTS 2 (fun u173 => ⟨[(12, .mp 1), (22, .sl 2)], [(0, .rds DoK.E DoK.K p3), (1, .omap Kn.str Vn.str u174.1), (2, .rowL (Et.int .u8) 5 35 (fn12) ((fn12).length))], 3⟩) o150 ?_ (fun u173 hu173 => ?_)
      ·have h0154 := h
       clear h
       refine G4.imp (Imp.to [0, 1, 2, 3, 4] (by rfl) (by rfl) rfl rfl) (LP (fun (n : Nat) (s : (List (Int × Bool)) × Int) => fn3_l2 u174.1 u174.2 n s.1 s.2) (fun (s : (List (Int × Bool)) × Int) => ⟨[(10, .v (.pointer none)), (12, .mp 1), (13, .mp 2), (22, .sl 3), (23, .mp 4), (24, .v (.int .i64 s.2))], [(0, .rds DoK.E DoK.K p3), (1, .omap Kn.str Vn.str u174.1), (2, .omap Kn.str (Vn.int .i64) u174.2), (3, .rowL (Et.int .u8) 5 35 (fn12) ((fn12).length)), (4, .omap (Kn.int .i64) Vn.bool s.1)], 5⟩) (fun _ => rfl) (s0 := (([] : List (Int × Bool)), 0)) hl151 ?_)
       clear hl151
       rintro R155 n152 ⟨xs131, x132⟩ h ih153
       replace h := (fn3_l2_s u174.1 u174.2 n152 xs131 x132).symm.trans h
       rw [fn3_b2] at h
       refine RU tbOk false 999 4 [.ln] aN (by rfl) ?_
       refine CD h (by rfl) (fun h hb156 => ?_) (fun h hb156 => ?_)
       ·obtain ⟨hk157, h⟩ := ck h
        obtain ⟨hk158, h⟩ := ck h
        obtain ⟨v159, hv160, h⟩ := bd h
        refine RU tbOk false 999 6 [.ix, .ld (Et.int .u8) 5 _, .cl true [5] (fun _ => c11 (gt (fn12) x132) _ hv160)] (aC hk157 (aR (aC hk158 (aK aN)))) (by rfl) ?_
        obtain ⟨v161, hv162, h⟩ := bd h
        refine RU tbOk false 999 8 [.cl true [] (fun _ => c13 v159.1 _ hv162)] (aK aN) (by rfl) ?_
        refine RU tbOk false 999 17 [.i2 (Et.int .u8) 5 35 (fn12) x132, .l2 (Et.int .u8) 5 35 (fn12), .b2 _, .lo Kn.str Vn.str _ (strOfNums (gt (fn12) x132)) (⟨#[]⟩ : ByteArray) Try.runUnderlying33 Try.runUnderlying9 Try.zeroValue9] (aR (aC hk158 (aR (aC hk158 (aR (aR (aR aN))))))) (by rfl) ?_
        refine G4.imp (Imp.closeL 3 5 (by rfl) (by rfl) (by rfl)) ?_
        refine G4.openK 3 (by rfl) (fun hh163 => ?_)
        refine CDS h (fun h hb164 => ?_) (fun h hb164 => ?_)
        ·refine DR (tbOk.lit [(201, 202, true), (205, 206, true), (209, 210, true), (215, 216, true), (220, 221, true), (231, 232, true)]) hmix [249] [([], []), ([], []), ([], []), ([], []), ([], []), ([], []), ([], []), ([], []), ([], []), ([], []), ([], []), ([], []), ([], []), ([], []), ([], []), ([], []), ([], []), ([], []), ([], []), ([], []), ([], []), ([], []), ([], []), ([], []), ([], []), ([], []), ([], []), ([], []), ([], []), ([], []), ([], []), ([], []), ([], []), ([], []), ([], []), ([], []), ([], []), ([], []), ([], []), ([], []), ([], []), ([], []), ([], []), ([], []), ([], []), ([], []), ([], []), ([], []), ([], []), ([], [])] [] (aC hb164 (aC rfl (aC rfl (aC rfl (aC rfl (aC rfl aN)))))) (by rfl) ?_
         refine G4.imp (Imp.shutK 3 (by rfl)) ?_
         refine RU tbOk false 999 0 [] aN (by rfl) ?_
         refine CDT rfl (by rfl) ?_
         refine RU tbOk false 999 1 [] aN (by rfl) ?_
         have ho := Option.some.inj h
         subst ho
         replace h := h0154
         refine RU tbOk false 999 0 [] aN (by rfl) ?_
         have hr := Option.some.inj h
         subst hr
         exact RT tbOk.t Try.results3 [0] (by rfl) (by rfl) (by rfl) rfl rfl
        ·refine CDS h (fun h hb165 => ?_) (fun h hb165 => ?_)
         ·refine DR (tbOk.lit [(201, 202, false), (205, 206, true), (209, 210, true), (215, 216, true), (220, 221, true), (231, 232, true)]) hmix [249] [([], []), ([], []), ([], []), ([], []), ([], []), ([], []), ([], []), ([], []), ([], []), ([], []), ([], []), ([], []), ([], []), ([], []), ([], []), ([], []), ([], []), ([], []), ([], []), ([], []), ([], []), ([], []), ([], []), ([], []), ([], []), ([], []), ([], []), ([], []), ([], []), ([], []), ([], []), ([], []), ([], []), ([], []), ([], []), ([], []), ([], []), ([], []), ([], []), ([], []), ([], []), ([], []), ([], []), ([], []), ([], []), ([], []), ([], []), ([], []), ([], []), ([], [])] [] (aC hb164 (aC hb165 (aC rfl (aC rfl (aC rfl (aC rfl aN)))))) (by rfl) ?_
          refine G4.imp (Imp.shutK 3 (by rfl)) ?_
          refine RU tbOk false 999 0 [] aN (by rfl) ?_
          refine CDT rfl (by rfl) ?_
          refine RU tbOk false 999 1 [] aN (by rfl) ?_
          have ho := Option.some.inj h
          subst ho
          replace h := h0154
          refine RU tbOk false 999 0 [] aN (by rfl) ?_
          have hr := Option.some.inj h
          subst hr
          exact RT tbOk.t Try.results3 [0] (by rfl) (by rfl) (by rfl) rfl rfl
         ·refine CDS h (fun h hb166 => ?_) (fun h hb166 => ?_)
          ·refine DR (tbOk.lit [(201, 202, false), (205, 206, false), (209, 210, true), (215, 216, true), (220, 221, true), (231, 232, true)]) hmix [249] [([], []), ([], []), ([], []), ([], []), ([], []), ([], []), ([], []), ([], []), ([], []), ([], []), ([], []), ([], []), ([], []), ([], []), ([], []), ([], []), ([], []), ([], []), ([], []), ([], []), ([], []), ([], []), ([], []), ([], []), ([], []), ([], []), ([], []), ([], []), ([], []), ([], []), ([], []), ([], []), ([], []), ([], []), ([], []), ([], []), ([], []), ([], []), ([], []), ([], []), ([], []), ([], []), ([], []), ([], []), ([], []), ([], []), ([], []), ([], []), ([], []), ([], [])] [] (aC hb164 (aC hb165 (aC hb166 (aC rfl (aC rfl (aC rfl aN)))))) (by rfl) ?_
           refine G4.imp (Imp.shutK 3 (by rfl)) ?_
           refine RU tbOk false 999 0 [] aN (by rfl) ?_
           refine CDT rfl (by rfl) ?_
           refine RU tbOk false 999 1 [] aN (by rfl) ?_
           have ho := Option.some.inj h
           subst ho
           replace h := h0154
           refine RU tbOk false 999 0 [] aN (by rfl) ?_
           have hr := Option.some.inj h
           subst hr
           exact RT tbOk.t Try.results3 [0] (by rfl) (by rfl) (by rfl) rfl rfl
          ·refine CDS h (fun h hb167 => ?_) (fun h hb167 => ?_)
           ·refine DR (tbOk.lit [(201, 202, false), (205, 206, false), (209, 210, false), (215, 216, true), (220, 221, true), (231, 232, true)]) hmix [249] [([], []), ([], []), ([], []), ([], []), ([], []), ([], []), ([], []), ([], []), ([], []), ([], []), ([], []), ([], []), ([6], []), ([], []), ([], []), ([], []), ([], []), ([], []), ([], []), ([], []), ([], []), ([], []), ([], []), ([], []), ([], []), ([], []), ([], []), ([], []), ([], []), ([], []), ([], []), ([], []), ([], []), ([], []), ([], []), ([], []), ([], []), ([], []), ([], []), ([], []), ([], []), ([], []), ([], []), ([], []), ([], []), ([], []), ([], []), ([], []), ([], []), ([], [])] [.b2 _] (aC hb164 (aC hb165 (aC hb166 (aR (aR (aC hb167 (aC rfl (aC rfl aN)))))))) (by rfl) ?_
            refine G4.imp (Imp.shutK 3 (by rfl)) ?_
            refine RU tbOk false 999 0 [] aN (by rfl) ?_
            refine CDT rfl (by rfl) ?_
            refine RU tbOk false 999 1 [] aN (by rfl) ?_
            have ho := Option.some.inj h
            subst ho
            replace h := h0154
            refine RU tbOk false 999 0 [] aN (by rfl) ?_
            have hr := Option.some.inj h
            subst hr
            exact RT tbOk.t Try.results3 [0] (by rfl) (by rfl) (by rfl) rfl rfl
           ·refine CDS h (fun h hb168 => ?_) (fun h hb168 => ?_)
            ·refine DR (tbOk.lit [(201, 202, false), (205, 206, false), (209, 210, false), (215, 216, false), (220, 221, true), (231, 232, true)]) hmix [249] [([], []), ([], []), ([], []), ([], []), ([], []), ([], []), ([], []), ([], []), ([], []), ([], []), ([], []), ([], []), ([6], []), ([], []), ([], []), ([], []), ([], []), ([], []), ([], []), ([4], []), ([], []), ([], []), ([], []), ([], []), ([], []), ([], []), ([], []), ([], []), ([], []), ([], []), ([], []), ([], []), ([], []), ([], []), ([], []), ([], []), ([], []), ([], []), ([], []), ([], []), ([], []), ([], []), ([], []), ([], []), ([], []), ([], []), ([], []), ([], []), ([], []), ([], [])] [.b2 _, .lo (Kn.int .i64) Vn.bool _ v159.1 false Try.runUnderlying46 Try.runUnderlying3 Try.zeroValue4] (aC hb164 (aC hb165 (aC hb166 (aR (aR (aC hb167 (aR (aR (aR (aC hb168 (aC rfl aN))))))))))) (by rfl) ?_
             refine G4.imp (Imp.shutK 3 (by rfl)) ?_
             refine RU tbOk false 999 0 [] aN (by rfl) ?_
             refine CDT rfl (by rfl) ?_
             refine RU tbOk false 999 1 [] aN (by rfl) ?_
             have ho := Option.some.inj h
             subst ho
             replace h := h0154
             refine RU tbOk false 999 0 [] aN (by rfl) ?_
             have hr := Option.some.inj h
             subst hr
             exact RT tbOk.t Try.results3 [0] (by rfl) (by rfl) (by rfl) rfl rfl
            ·refine CDS h (fun h hb169 => ?_) (fun h hb169 => ?_)
             ·refine DR (tbOk.lit [(201, 202, false), (205, 206, false), (209, 210, false), (215, 216, false), (220, 221, false), (231, 232, true)]) hmix [249] [([], []), ([], []), ([], []), ([], []), ([], []), ([], []), ([], []), ([], []), ([], []), ([], []), ([], []), ([], []), ([6], []), ([], []), ([], []), ([], []), ([], []), ([], []), ([], []), ([4], []), ([], []), ([], []), ([], []), ([], []), ([], []), ([], []), ([3], []), ([3], []), ([3], []), ([2], []), ([], []), ([], []), ([], []), ([], []), ([], []), ([], []), ([], []), ([], []), ([], []), ([], []), ([], []), ([], []), ([], []), ([], []), ([], []), ([], []), ([], []), ([], []), ([], []), ([], [])] [.b2 _, .lo (Kn.int .i64) Vn.bool _ v159.1 false Try.runUnderlying46 Try.runUnderlying3 Try.zeroValue4, .ik (Et.int .u8) 5 (fn12) hh163, .lk (Et.int .u8) 5 (fn12) hh163, .bk 3 5 35 (fn12) hh163 x132, .lo Kn.str (Vn.int .i64) _ (strOfNums (gt (fn12) x132)) (0 : Int) Try.runUnderlying34 Try.runUnderlying9 Try.zeroValue3] (aC hb164 (aC hb165 (aC hb166 (aR (aR (aC hb167 (aR (aR (aR (aC hb168 (aR (aR (aC hk158 (aR (aR (aC hk158 (aR (aR (aR (aC hk158 (aR (aR (aR (aC hb169 aN)))))))))))))))))))))))) (by rfl) ?_
              refine G4.imp (Imp.shutK 3 (by rfl)) ?_
              refine RU tbOk false 999 0 [] aN (by rfl) ?_
              refine CDT rfl (by rfl) ?_
              refine RU tbOk false 999 1 [] aN (by rfl) ?_
              have ho := Option.some.inj h
              subst ho
              replace h := h0154
              refine RU tbOk false 999 0 [] aN (by rfl) ?_
              have hr := Option.some.inj h
              subst hr
              exact RT tbOk.t Try.results3 [0] (by rfl) (by rfl) (by rfl) rfl rfl
             ·refine CDS h (fun h hb170 => ?_) (fun h hb170 => ?_)
              ·obtain ⟨hk171, h⟩ := ck h
               refine DR (tbOk.lit [(201, 202, false), (205, 206, false), (209, 210, false), (215, 216, false), (220, 221, false), (231, 232, false), (234, 235, true)]) hmix [249] [([], []), ([], []), ([], []), ([], []), ([], []), ([], []), ([], []), ([], []), ([], []), ([], []), ([], []), ([], []), ([6], []), ([], []), ([], []), ([], []), ([], []), ([], []), ([], []), ([4], []), ([], []), ([], []), ([], []), ([], []), ([], []), ([], []), ([3], []), ([3], []), ([3], []), ([2], []), ([], []), ([], []), ([], []), ([], []), ([], []), ([], []), ([], []), ([], []), ([], []), ([3], []), ([3], []), ([3], []), ([], []), ([], []), ([3], []), ([3], []), ([3], []), ([], []), ([], []), ([], [])] [.b2 _, .lo (Kn.int .i64) Vn.bool _ v159.1 false Try.runUnderlying46 Try.runUnderlying3 Try.zeroValue4, .ik (Et.int .u8) 5 (fn12) hh163, .lk (Et.int .u8) 5 (fn12) hh163, .bk 3 5 35 (fn12) hh163 x132, .lo Kn.str (Vn.int .i64) _ (strOfNums (gt (fn12) x132)) (0 : Int) Try.runUnderlying34 Try.runUnderlying9 Try.zeroValue3, .ik (Et.int .u8) 5 (fn12) hh163, .lk (Et.int .u8) 5 (fn12) hh163, .bk 3 5 35 (fn12) hh163 (IntKind.i64.wrap (x132 - 1)), .ik (Et.int .u8) 5 (fn12) hh163, .lk (Et.int .u8) 5 (fn12) hh163, .bk 3 5 35 (fn12) hh163 x132, .st] (aC hb164 (aC hb165 (aC hb166 (aR (aR (aC hb167 (aR (aR (aR (aC hb168 (aR (aR (aC hk158 (aR (aR (aC hk158 (aR (aR (aR (aC hk158 (aR (aR (aR (aC hb169 (aC hb170 (aR (aR (aC hk171 (aR (aR (aC hk171 (aR (aR (aR (aC hk171 (aR (aR (aC hk158 (aR (aR (aC hk158 (aR (aR (aR (aC hk158 aN))))))))))))))))))))))))))))))))))))))))))))) (by rfl) ?_
               refine G4.imp (Imp.shutK 3 (by rfl)) ?_
               refine RU tbOk false 999 0 [] aN (by rfl) ?_
               refine CD h (by rfl) (fun h hb172 => ?_) (fun h hb172 => ?_)
               ·refine RU tbOk false 999 1 [] aN (by rfl) ?_
                have ho := Option.some.inj h
                subst ho
                replace h := h0154
                refine RU tbOk false 999 0 [] aN (by rfl) ?_
                have hr := Option.some.inj h
                subst hr
                exact RT tbOk.t Try.results3 [0] (by rfl) (by rfl) (by rfl) rfl rfl
               ·refine RU tbOk false 999 6 [.mu (Kn.int .i64) Vn.bool _ v159.1 true Try.runUnderlying46 Try.runUnderlying3] (aR (aR (aR aN))) (by rfl) ?_
                exact ih153 (mput xs131 v159.1 true, IntKind.i64.wrap (x132 + 1)) h _ _ (Imp.to [0, 1, 2, 3, 4] (by rfl) (by rfl) rfl rfl)
              ·refine DR (tbOk.lit [(201, 202, false), (205, 206, false), (209, 210, false), (215, 216, false), (220, 221, false), (231, 232, false), (234, 235, false)]) hmix [249] [([], []), ([], []), ([], []), ([], []), ([], []), ([], []), ([], []), ([], []), ([], []), ([], []), ([], []), ([], []), ([6], []), ([], []), ([], []), ([], []), ([], []), ([], []), ([], []), ([4], []), ([], []), ([], []), ([], []), ([], []), ([], []), ([], []), ([3], []), ([3], []), ([3], []), ([2], []), ([], []), ([], []), ([], []), ([], []), ([], []), ([], []), ([], []), ([], []), ([], []), ([], []), ([], []), ([], []), ([], []), ([], []), ([], []), ([], []), ([], []), ([], []), ([], []), ([], [])] [.b2 _, .lo (Kn.int .i64) Vn.bool _ v159.1 false Try.runUnderlying46 Try.runUnderlying3 Try.zeroValue4, .ik (Et.int .u8) 5 (fn12) hh163, .lk (Et.int .u8) 5 (fn12) hh163, .bk 3 5 35 (fn12) hh163 x132, .lo Kn.str (Vn.int .i64) _ (strOfNums (gt (fn12) x132)) (0 : Int) Try.runUnderlying34 Try.runUnderlying9 Try.zeroValue3] (aC hb164 (aC hb165 (aC hb166 (aR (aR (aC hb167 (aR (aR (aR (aC hb168 (aR (aR (aC hk158 (aR (aR (aC hk158 (aR (aR (aR (aC hk158 (aR (aR (aR (aC hb169 (aC hb170 aN))))))))))))))))))))))))) (by rfl) ?_
               refine G4.imp (Imp.shutK 3 (by rfl)) ?_
               refine RU tbOk false 999 0 [] aN (by rfl) ?_
               refine CDF rfl (by rfl) ?_
               refine RU tbOk false 999 6 [.mu (Kn.int .i64) Vn.bool _ v159.1 true Try.runUnderlying46 Try.runUnderlying3] (aR (aR (aR aN))) (by rfl) ?_
               exact ih153 (mput xs131 v159.1 true, IntKind.i64.wrap (x132 + 1)) h _ _ (Imp.to [0, 1, 2, 3, 4] (by rfl) (by rfl) rfl rfl)
       ·refine RU tbOk false 999 0 [] aN (by rfl) ?_
        have ho := Option.some.inj h
        subst ho
        exact CES _ rfl (Imp.to [0, 1, 3] (by rfl) (by rfl) rfl rfl)
      ·subst hu173
       change fn3_k2 u174.1 = _ at h
       rw [fn3_k2] at h
       refine RU tbOk false 999 6 [.ln, .lm Kn.str Vn.str _ Try.runUnderlying33] (aR aN) (by rfl) ?_
       have hr := Option.some.inj h
       subst hr
       exact RT tbOk.t Try.results3 [0] (by rfl) (by rfl) (by rfl) rfl rfl
   ·refine RU tbOk false 999 1 [.cl true [] (fun _ => c8_1 F (⟨2, IntKind.i64.wrap ((1 : Int) + v4), IntKind.i64.wrap ((1 : Int) + v6), IntKind.i64.wrap ((1 : Int) + v8)⟩ : MSpec) v175 hv176)] (aK aN) (by rfl) ?_
    refine RU tbOk false 999 7 [] aN (by rfl) ?_
    refine CD h (by rfl) (fun h hb177 => ?_) (fun h hb177 => ?_)
    ·refine RU tbOk false 999 1 [] aN (by rfl) ?_
     have hr := Option.some.inj h
     subst hr
     exact RT tbOk.t Try.results3 [0] (by rfl) (by rfl) (by rfl) rfl rfl
    ·refine RU tbOk false 999 5 [.mm Kn.str Vn.str, .mm Kn.str (Vn.int .i64)] aN (by rfl) ?_
     obtain ⟨o245, hl246, h⟩ := bd h
     refine CTS 0 (fun u339 => ⟨[(10, .p 1 0), (12, .mp 4), (13, .mp 5)], [(0, .rds DoK.E DoK.K p3), (1, .cells 54 [.sl 2, .v (.int .u8 v175.2.1), .v (.int .i64 v175.2.2.1), .v (.int .i64 v175.2.2.2.1), .v (.int .i64 v175.2.2.2.2.1), .mp 3]), (2, .ex (pO HCell.D 63 u339.1) []), (3, .omap Kn.str (Vn.int .i64) u339.2.1), (4, .omap Kn.str Vn.str u339.2.2.1), (5, .omap Kn.str (Vn.int .i64) u339.2.2.2)], 6⟩) o245 ?_ (fun u339 hu339 => ?_)
     ·have h0249 := h
      clear h
      refine G4.imp (Imp.to [0, 1, 2, 3, 4, 5, 6] (by rfl) (by rfl) rfl rfl) (LP (fun (n : Nat) (s : (List HCell) × (List (ByteArray × Int)) × (List (ByteArray × ByteArray)) × (List (ByteArray × Int)) × Int) => fn3_l3 F p3 v4 v6 v8 v175 n s.1 s.2.1 s.2.2.1 s.2.2.2.1 s.2.2.2.2) (fun (s : (List HCell) × (List (ByteArray × Int)) × (List (ByteArray × ByteArray)) × (List (ByteArray × Int)) × Int) => ⟨[(3, .sl 0), (9, .p 1 0), (10, .p 2 0), (12, .mp 5), (13, .mp 6), (14, .v (.int .i64 s.2.2.2.2))], [(0, .rds DoK.E DoK.K p3), (1, .cells 27 [.v (.int .u8 2), .v (.int .i64 (IntKind.i64.wrap ((1 : Int) + v4))), .v (.int .i64 (IntKind.i64.wrap ((1 : Int) + v6))), .v (.int .i64 (IntKind.i64.wrap ((1 : Int) + v8)))]), (2, .cells 54 [.sl 3, .v (.int .u8 v175.2.1), .v (.int .i64 v175.2.2.1), .v (.int .i64 v175.2.2.2.1), .v (.int .i64 v175.2.2.2.2.1), .mp 4]), (3, .ex (pO HCell.D 63 s.1) []), (4, .omap Kn.str (Vn.int .i64) s.2.1), (5, .omap Kn.str Vn.str s.2.2.1), (6, .omap Kn.str (Vn.int .i64) s.2.2.2.1)], 7⟩) (fun _ => rfl) (s0 := (v175.1, v175.2.2.2.2.2.1, ([] : List (ByteArray × ByteArray)), ([] : List (ByteArray × Int)), 0)) hl246 ?_)
      clear hl246
      rintro R250 n247 ⟨xs207, xs208, xs209, xs210, x211⟩ h ih248
      replace h := (fn3_l3_s F p3 v4 v6 v8 v175 n247 xs207 xs208 xs209 xs210 x211).symm.trans h
      rw [fn3_b3] at h
      refine RU tbOk false 999 4 [] aN (by rfl) ?_
      refine CD h (by rfl) (fun h hb251 => ?_) (fun h hb251 => ?_)
      ·refine RU tbOk false 999 0 [] aN (by rfl) ?_
       obtain ⟨hk252, h⟩ := ck h
       obtain ⟨hk253, h⟩ := ck h
       refine DR tbOk hmix [15, 16] [([], []), ([1], []), ([], []), ([], []), ([1], []), ([], []), ([], []), ([], [])] [.ms (Et.int .u8) 0, .ms (Et.int .u8) 0] (aR (aC hk252 (aR (aR (aC hk253 (aR aN)))))) (by rfl) ?_
       obtain ⟨hk254, h⟩ := ck h
       obtain ⟨v255, hv256, h⟩ := bd h
       refine RU tbOk false 999 29 [.kd DoK.E DoK.K _ 0 ⟨(Et.int .u8), (gt p3 x211).fKey.1, (gt p3 x211).fKey.2⟩, .co (Et.int .u8) 7 _ _, .kd DoK.E DoK.K _ 1 ⟨(Et.int .u8), (gt p3 x211).fB.1, (gt p3 x211).fB.2⟩, .co (Et.int .u8) 8 _ _, .b2 _, .lo Kn.str Vn.str _ (strOfNums (pasteX (List.replicate (IntKind.i64.wrap ((1 : Int) + v4)).toNat 0) 0 (((gt p3 x211).fKey.2).take (((IntKind.i64.wrap ((1 : Int) + v4)).toNat) - 0)))) (⟨#[]⟩ : ByteArray) Try.runUnderlying33 Try.runUnderlying9 Try.zeroValue9, .cl true [] (fun _ => c6 ((gt p3 x211).fWhat) 6 _ hv256)] (aC hk254 (aR (aC hk254 (aR (aR (aR (aR (aC bleR (aC hk254 (aR (aC hk254 (aR (aR (aR (aR (aC bleR (aR (aR (aR (aC hk254 (aK aN))))))))))))))))))))) (by rfl) ?_
       refine RU tbOk false 999 1 [] aN (by rfl) ?_
       refine CD h (by rfl) (fun h hb257 => ?_) (fun h hb257 => ?_)
       ·obtain ⟨v258, hv259, h⟩ := bd h
        refine RU tbOk false 999 3 [.cl true [2, 3, 4, 7] (fun _ => c9v1 xs207 v175.2.1 v175.2.2.1 v175.2.2.2.1 v175.2.2.2.2.1 xs208 (pasteX (List.replicate (IntKind.i64.wrap ((1 : Int) + v4)).toNat 0) 0 (((gt p3 x211).fKey.2).take (((IntKind.i64.wrap ((1 : Int) + v4)).toNat) - 0))) _ hv259)] (aK aN) (by rfl) ?_
        refine RU tbOk false 999 3 [] aN (by rfl) ?_
        refine CD h (by rfl) (fun h hb260 => ?_) (fun h hb260 => ?_)
        ·refine RU tbOk false 999 1 [] aN (by rfl) ?_
         have ho := Option.some.inj h
         subst ho
         replace h := h0249
         refine RU tbOk false 999 0 [] aN (by rfl) ?_
         have hr := Option.some.inj h
         subst hr
         exact RT tbOk.t Try.results3 [0] (by rfl) (by rfl) (by rfl) rfl rfl
        ·refine RU tbOk false 999 7 [.b2 _, .de Kn.str Vn.str _ (strOfNums (pasteX (List.replicate (IntKind.i64.wrap ((1 : Int) + v4)).toNat 0) 0 (((gt p3 x211).fKey.2).take (((IntKind.i64.wrap ((1 : Int) + v4)).toNat) - 0)))) Try.runUnderlying33 Try.runUnderlying9] (aR (aR (aR aN))) (by rfl) ?_
         exact ih248 (v258.2.1, v258.2.2, mdel xs209 (strOfNums (pasteX (List.replicate (IntKind.i64.wrap ((1 : Int) + v4)).toNat 0) 0 (((gt p3 x211).fKey.2).take (((IntKind.i64.wrap ((1 : Int) + v4)).toNat) - 0)))), xs210, IntKind.i64.wrap (x211 + 1)) h _ _ (Imp.to [0, 1, 2, 3, 4, 5, 6] (by rfl) (by rfl) rfl rfl)
       ·obtain ⟨v261, hv262, h⟩ := bd h
        refine RU tbOk false 999 4 [.cl true [2, 3, 4, 7, 8] (fun _ => c10v1 F xs207 v175.2.1 v175.2.2.1 v175.2.2.2.1 v175.2.2.2.2.1 xs208 (pasteX (List.replicate (IntKind.i64.wrap ((1 : Int) + v4)).toNat 0) 0 (((gt p3 x211).fKey.2).take (((IntKind.i64.wrap ((1 : Int) + v4)).toNat) - 0))) (pasteX (List.replicate (IntKind.i64.wrap ((1 : Int) + v6)).toNat 0) 0 (((gt p3 x211).fB.2).take (((IntKind.i64.wrap ((1 : Int) + v6)).toNat) - 0))) 0 _ hv262)] (aK aN) (by rfl) ?_
        refine RU tbOk false 999 3 [] aN (by rfl) ?_
        refine CDS h (fun h hb263 => ?_) (fun h hb263 => ?_)
        ·refine RU (tbOk.lit [(114, 115, true)]) false 999 7 [.lm Kn.str Vn.str _ Try.runUnderlying33] (aC hb263 (aR aN)) (by rfl) ?_
         refine RU tbOk false 999 0 [] aN (by rfl) ?_
         refine CD h (by rfl) (fun h hb264 => ?_) (fun h hb264 => ?_)
         ·refine RU tbOk false 999 2 [] aN (by rfl) ?_
          refine CD h (by rfl) (fun h hb265 => ?_) (fun h hb265 => ?_)
          ·refine RU tbOk false 999 1 [] aN (by rfl) ?_
           have ho := Option.some.inj h
           subst ho
           replace h := h0249
           refine RU tbOk false 999 0 [] aN (by rfl) ?_
           have hr := Option.some.inj h
           subst hr
           exact RT tbOk.t Try.results3 [0] (by rfl) (by rfl) (by rfl) rfl rfl
          ·refine RU tbOk false 999 3 [] aN (by rfl) ?_
           exact ih248 (v261.2.1, v261.2.2, xs209, xs210, IntKind.i64.wrap (x211 + 1)) h _ _ (Imp.to [0, 1, 2, 3, 4, 5, 6] (by rfl) (by rfl) rfl rfl)
         ·obtain ⟨v266, hv267, h⟩ := bd h
          refine RU tbOk false 999 3 [.cl true [2, 3, 4, 7] (fun _ => c11v1 v261.2.1 v175.2.1 v175.2.2.1 v175.2.2.2.1 v175.2.2.2.2.1 v261.2.2 (pasteX (List.replicate (IntKind.i64.wrap ((1 : Int) + v4)).toNat 0) 0 (((gt p3 x211).fKey.2).take (((IntKind.i64.wrap ((1 : Int) + v4)).toNat) - 0))) _ hv267)] (aK aN) (by rfl) ?_
          refine RU tbOk false 999 7 [] aN (by rfl) ?_
          refine CDS h (fun h hb268 => ?_) (fun h hb268 => ?_)
          ·refine RU (tbOk.lit [(131, 132, true), (135, 136, true), (146, 147, true), (150, 151, true)]) false 999 25 [] (aC hb268 (aC rfl (aC rfl (aC rfl aN)))) (by rfl) ?_
           refine RU tbOk false 999 0 [] aN (by rfl) ?_
           refine CDT rfl (by rfl) ?_
           refine RU tbOk false 999 1 [] aN (by rfl) ?_
           have ho := Option.some.inj h
           subst ho
           replace h := h0249
           refine RU tbOk false 999 0 [] aN (by rfl) ?_
           have hr := Option.some.inj h
           subst hr
           exact RT tbOk.t Try.results3 [0] (by rfl) (by rfl) (by rfl) rfl rfl
          ·refine RU (tbOk.lit [(131, 132, false)]) false 999 4 [] (aC hb268 aN) (by rfl) ?_
           refine CDS h (fun h hb269 => ?_) (fun h hb269 => ?_)
           ·refine RU (tbOk.lit [(135, 136, true), (146, 147, true), (150, 151, true)]) false 999 21 [] (aC hb269 (aC rfl (aC rfl aN))) (by rfl) ?_
            refine RU tbOk false 999 0 [] aN (by rfl) ?_
            refine CDT rfl (by rfl) ?_
            refine RU tbOk false 999 1 [] aN (by rfl) ?_
            have ho := Option.some.inj h
            subst ho
            replace h := h0249
            refine RU tbOk false 999 0 [] aN (by rfl) ?_
            have hr := Option.some.inj h
            subst hr
            exact RT tbOk.t Try.results3 [0] (by rfl) (by rfl) (by rfl) rfl rfl
           ·refine RU (tbOk.lit [(135, 136, false)]) false 999 2 [] (aC hb269 aN) (by rfl) ?_
            refine CDS h (fun h hb270 => ?_) (fun h hb270 => ?_)
            ·refine RU (tbOk.lit [(135, 136, false), (137, 138, true)]) false 999 19 [.b2 _, .lo Kn.str (Vn.int .i64) _ (strOfNums (pasteX (List.replicate (IntKind.i64.wrap ((1 : Int) + v4)).toNat 0) 0 (((gt p3 x211).fKey.2).take (((IntKind.i64.wrap ((1 : Int) + v4)).toNat) - 0)))) (0 : Int) Try.runUnderlying34 Try.runUnderlying9 Try.zeroValue3] (aC hb270 (aR (aR (aR aN)))) (by rfl) ?_
             refine RU tbOk false 999 0 [] aN (by rfl) ?_
             refine CD h (by rfl) (fun h hb271 => ?_) (fun h hb271 => ?_)
             ·refine RU tbOk false 999 1 [] aN (by rfl) ?_
              have ho := Option.some.inj h
              subst ho
              replace h := h0249
              refine RU tbOk false 999 0 [] aN (by rfl) ?_
              have hr := Option.some.inj h
              subst hr
              exact RT tbOk.t Try.results3 [0] (by rfl) (by rfl) (by rfl) rfl rfl
             ·refine RU tbOk false 999 14 [.b2 _, .b2 _, .mu Kn.str Vn.str _ (strOfNums (pasteX (List.replicate (IntKind.i64.wrap ((1 : Int) + v4)).toNat 0) 0 (((gt p3 x211).fKey.2).take (((IntKind.i64.wrap ((1 : Int) + v4)).toNat) - 0)))) (strOfNums (pasteX (List.replicate (IntKind.i64.wrap ((1 : Int) + v6)).toNat 0) 0 (((gt p3 x211).fB.2).take (((IntKind.i64.wrap ((1 : Int) + v6)).toNat) - 0)))) Try.runUnderlying33 Try.runUnderlying9, .b2 _, .mu Kn.str (Vn.int .i64) _ (strOfNums (pasteX (List.replicate (IntKind.i64.wrap ((1 : Int) + v4)).toNat 0) 0 (((gt p3 x211).fKey.2).take (((IntKind.i64.wrap ((1 : Int) + v4)).toNat) - 0)))) v266.1 Try.runUnderlying34 Try.runUnderlying9] (aR (aR (aR (aR (aR (aR (aR (aR (aR aN))))))))) (by rfl) ?_
              exact ih248 (v261.2.1, v261.2.2, mput xs209 (strOfNums (pasteX (List.replicate (IntKind.i64.wrap ((1 : Int) + v4)).toNat 0) 0 (((gt p3 x211).fKey.2).take (((IntKind.i64.wrap ((1 : Int) + v4)).toNat) - 0)))) (strOfNums (pasteX (List.replicate (IntKind.i64.wrap ((1 : Int) + v6)).toNat 0) 0 (((gt p3 x211).fB.2).take (((IntKind.i64.wrap ((1 : Int) + v6)).toNat) - 0)))), mput xs210 (strOfNums (pasteX (List.replicate (IntKind.i64.wrap ((1 : Int) + v4)).toNat 0) 0 (((gt p3 x211).fKey.2).take (((IntKind.i64.wrap ((1 : Int) + v4)).toNat) - 0)))) v266.1, IntKind.i64.wrap (x211 + 1)) h _ _ (Imp.to [0, 1, 2, 3, 4, 5, 6] (by rfl) (by rfl) rfl rfl)
            ·refine RU (tbOk.lit [(135, 136, false), (137, 138, false), (146, 147, false)]) false 999 19 [] (aC hb270 (aC rfl aN)) (by rfl) ?_
             refine RU tbOk false 999 0 [] aN (by rfl) ?_
             refine CD h (by rfl) (fun h hb272 => ?_) (fun h hb272 => ?_)
             ·refine RU tbOk false 999 1 [] aN (by rfl) ?_
              have ho := Option.some.inj h
              subst ho
              replace h := h0249
              refine RU tbOk false 999 0 [] aN (by rfl) ?_
              have hr := Option.some.inj h
              subst hr
              exact RT tbOk.t Try.results3 [0] (by rfl) (by rfl) (by rfl) rfl rfl
             ·refine RU tbOk false 999 14 [.b2 _, .b2 _, .mu Kn.str Vn.str _ (strOfNums (pasteX (List.replicate (IntKind.i64.wrap ((1 : Int) + v4)).toNat 0) 0 (((gt p3 x211).fKey.2).take (((IntKind.i64.wrap ((1 : Int) + v4)).toNat) - 0)))) (strOfNums (pasteX (List.replicate (IntKind.i64.wrap ((1 : Int) + v6)).toNat 0) 0 (((gt p3 x211).fB.2).take (((IntKind.i64.wrap ((1 : Int) + v6)).toNat) - 0)))) Try.runUnderlying33 Try.runUnderlying9, .b2 _, .mu Kn.str (Vn.int .i64) _ (strOfNums (pasteX (List.replicate (IntKind.i64.wrap ((1 : Int) + v4)).toNat 0) 0 (((gt p3 x211).fKey.2).take (((IntKind.i64.wrap ((1 : Int) + v4)).toNat) - 0)))) v266.1 Try.runUnderlying34 Try.runUnderlying9] (aR (aR (aR (aR (aR (aR (aR (aR (aR aN))))))))) (by rfl) ?_
              exact ih248 (v261.2.1, v261.2.2, mput xs209 (strOfNums (pasteX (List.replicate (IntKind.i64.wrap ((1 : Int) + v4)).toNat 0) 0 (((gt p3 x211).fKey.2).take (((IntKind.i64.wrap ((1 : Int) + v4)).toNat) - 0)))) (strOfNums (pasteX (List.replicate (IntKind.i64.wrap ((1 : Int) + v6)).toNat 0) 0 (((gt p3 x211).fB.2).take (((IntKind.i64.wrap ((1 : Int) + v6)).toNat) - 0)))), mput xs210 (strOfNums (pasteX (List.replicate (IntKind.i64.wrap ((1 : Int) + v4)).toNat 0) 0 (((gt p3 x211).fKey.2).take (((IntKind.i64.wrap ((1 : Int) + v4)).toNat) - 0)))) v266.1, IntKind.i64.wrap (x211 + 1)) h _ _ (Imp.to [0, 1, 2, 3, 4, 5, 6] (by rfl) (by rfl) rfl rfl)
        ·refine RU (tbOk.lit [(114, 115, false)]) false 999 7 [] (aC hb263 aN) (by rfl) ?_
         refine RU tbOk false 999 0 [] aN (by rfl) ?_
         refine CDF rfl (by rfl) ?_
         obtain ⟨v273, hv274, h⟩ := bd h
         refine RU tbOk false 999 3 [.cl true [2, 3, 4, 7] (fun _ => c11v1 v261.2.1 v175.2.1 v175.2.2.1 v175.2.2.2.1 v175.2.2.2.2.1 v261.2.2 (pasteX (List.replicate (IntKind.i64.wrap ((1 : Int) + v4)).toNat 0) 0 (((gt p3 x211).fKey.2).take (((IntKind.i64.wrap ((1 : Int) + v4)).toNat) - 0))) _ hv274)] (aK aN) (by rfl) ?_
         refine RU tbOk false 999 7 [] aN (by rfl) ?_
         refine CDS h (fun h hb275 => ?_) (fun h hb275 => ?_)
         ·refine RU (tbOk.lit [(131, 132, true), (135, 136, true), (146, 147, true), (150, 151, true)]) false 999 25 [] (aC hb275 (aC rfl (aC rfl (aC rfl aN)))) (by rfl) ?_
          refine RU tbOk false 999 0 [] aN (by rfl) ?_
          refine CDT rfl (by rfl) ?_
          refine RU tbOk false 999 1 [] aN (by rfl) ?_
          have ho := Option.some.inj h
          subst ho
          replace h := h0249
          refine RU tbOk false 999 0 [] aN (by rfl) ?_
          have hr := Option.some.inj h
          subst hr
          exact RT tbOk.t Try.results3 [0] (by rfl) (by rfl) (by rfl) rfl rfl
         ·refine RU (tbOk.lit [(131, 132, false)]) false 999 4 [] (aC hb275 aN) (by rfl) ?_
          refine CDS h (fun h hb276 => ?_) (fun h hb276 => ?_)
          ·refine RU (tbOk.lit [(135, 136, true), (146, 147, true), (150, 151, true)]) false 999 21 [] (aC hb276 (aC rfl (aC rfl aN))) (by rfl) ?_
           refine RU tbOk false 999 0 [] aN (by rfl) ?_
           refine CDT rfl (by rfl) ?_
           refine RU tbOk false 999 1 [] aN (by rfl) ?_
           have ho := Option.some.inj h
           subst ho
           replace h := h0249
           refine RU tbOk false 999 0 [] aN (by rfl) ?_
           have hr := Option.some.inj h
           subst hr
           exact RT tbOk.t Try.results3 [0] (by rfl) (by rfl) (by rfl) rfl rfl
          ·refine RU (tbOk.lit [(135, 136, false)]) false 999 2 [] (aC hb276 aN) (by rfl) ?_
           refine CDS h (fun h hb277 => ?_) (fun h hb277 => ?_)
           ·refine RU (tbOk.lit [(135, 136, false), (137, 138, true)]) false 999 19 [.b2 _, .lo Kn.str (Vn.int .i64) _ (strOfNums (pasteX (List.replicate (IntKind.i64.wrap ((1 : Int) + v4)).toNat 0) 0 (((gt p3 x211).fKey.2).take (((IntKind.i64.wrap ((1 : Int) + v4)).toNat) - 0)))) (0 : Int) Try.runUnderlying34 Try.runUnderlying9 Try.zeroValue3] (aC hb277 (aR (aR (aR aN)))) (by rfl) ?_
            refine RU tbOk false 999 0 [] aN (by rfl) ?_
            refine CD h (by rfl) (fun h hb278 => ?_) (fun h hb278 => ?_)
            ·refine RU tbOk false 999 1 [] aN (by rfl) ?_
             have ho := Option.some.inj h
             subst ho
             replace h := h0249
             refine RU tbOk false 999 0 [] aN (by rfl) ?_
             have hr := Option.some.inj h
             subst hr
             exact RT tbOk.t Try.results3 [0] (by rfl) (by rfl) (by rfl) rfl rfl
            ·refine RU tbOk false 999 14 [.b2 _, .b2 _, .mu Kn.str Vn.str _ (strOfNums (pasteX (List.replicate (IntKind.i64.wrap ((1 : Int) + v4)).toNat 0) 0 (((gt p3 x211).fKey.2).take (((IntKind.i64.wrap ((1 : Int) + v4)).toNat) - 0)))) (strOfNums (pasteX (List.replicate (IntKind.i64.wrap ((1 : Int) + v6)).toNat 0) 0 (((gt p3 x211).fB.2).take (((IntKind.i64.wrap ((1 : Int) + v6)).toNat) - 0)))) Try.runUnderlying33 Try.runUnderlying9, .b2 _, .mu Kn.str (Vn.int .i64) _ (strOfNums (pasteX (List.replicate (IntKind.i64.wrap ((1 : Int) + v4)).toNat 0) 0 (((gt p3 x211).fKey.2).take (((IntKind.i64.wrap ((1 : Int) + v4)).toNat) - 0)))) v273.1 Try.runUnderlying34 Try.runUnderlying9] (aR (aR (aR (aR (aR (aR (aR (aR (aR aN))))))))) (by rfl) ?_
             exact ih248 (v261.2.1, v261.2.2, mput xs209 (strOfNums (pasteX (List.replicate (IntKind.i64.wrap ((1 : Int) + v4)).toNat 0) 0 (((gt p3 x211).fKey.2).take (((IntKind.i64.wrap ((1 : Int) + v4)).toNat) - 0)))) (strOfNums (pasteX (List.replicate (IntKind.i64.wrap ((1 : Int) + v6)).toNat 0) 0 (((gt p3 x211).fB.2).take (((IntKind.i64.wrap ((1 : Int) + v6)).toNat) - 0)))), mput xs210 (strOfNums (pasteX (List.replicate (IntKind.i64.wrap ((1 : Int) + v4)).toNat 0) 0 (((gt p3 x211).fKey.2).take (((IntKind.i64.wrap ((1 : Int) + v4)).toNat) - 0)))) v273.1, IntKind.i64.wrap (x211 + 1)) h _ _ (Imp.to [0, 1, 2, 3, 4, 5, 6] (by rfl) (by rfl) rfl rfl)
           ·refine RU (tbOk.lit [(135, 136, false), (137, 138, false), (146, 147, false)]) false 999 19 [] (aC hb277 (aC rfl aN)) (by rfl) ?_
            refine RU tbOk false 999 0 [] aN (by rfl) ?_
            refine CD h (by rfl) (fun h hb279 => ?_) (fun h hb279 => ?_)
            ·refine RU tbOk false 999 1 [] aN (by rfl) ?_
             have ho := Option.some.inj h
             subst ho
             replace h := h0249
             refine RU tbOk false 999 0 [] aN (by rfl) ?_
             have hr := Option.some.inj h
             subst hr
             exact RT tbOk.t Try.results3 [0] (by rfl) (by rfl) (by rfl) rfl rfl
            ·refine RU tbOk false 999 14 [.b2 _, .b2 _, .mu Kn.str Vn.str _ (strOfNums (pasteX (List.replicate (IntKind.i64.wrap ((1 : Int) + v4)).toNat 0) 0 (((gt p3 x211).fKey.2).take (((IntKind.i64.wrap ((1 : Int) + v4)).toNat) - 0)))) (strOfNums (pasteX (List.replicate (IntKind.i64.wrap ((1 : Int) + v6)).toNat 0) 0 (((gt p3 x211).fB.2).take (((IntKind.i64.wrap ((1 : Int) + v6)).toNat) - 0)))) Try.runUnderlying33 Try.runUnderlying9, .b2 _, .mu Kn.str (Vn.int .i64) _ (strOfNums (pasteX (List.replicate (IntKind.i64.wrap ((1 : Int) + v4)).toNat 0) 0 (((gt p3 x211).fKey.2).take (((IntKind.i64.wrap ((1 : Int) + v4)).toNat) - 0)))) v273.1 Try.runUnderlying34 Try.runUnderlying9] (aR (aR (aR (aR (aR (aR (aR (aR (aR aN))))))))) (by rfl) ?_
             exact ih248 (v261.2.1, v261.2.2, mput xs209 (strOfNums (pasteX (List.replicate (IntKind.i64.wrap ((1 : Int) + v4)).toNat 0) 0 (((gt p3 x211).fKey.2).take (((IntKind.i64.wrap ((1 : Int) + v4)).toNat) - 0)))) (strOfNums (pasteX (List.replicate (IntKind.i64.wrap ((1 : Int) + v6)).toNat 0) 0 (((gt p3 x211).fB.2).take (((IntKind.i64.wrap ((1 : Int) + v6)).toNat) - 0)))), mput xs210 (strOfNums (pasteX (List.replicate (IntKind.i64.wrap ((1 : Int) + v4)).toNat 0) 0 (((gt p3 x211).fKey.2).take (((IntKind.i64.wrap ((1 : Int) + v4)).toNat) - 0)))) v273.1, IntKind.i64.wrap (x211 + 1)) h _ _ (Imp.to [0, 1, 2, 3, 4, 5, 6] (by rfl) (by rfl) rfl rfl)
      ·refine RU tbOk false 999 0 [] aN (by rfl) ?_
       have ho := Option.some.inj h
       subst ho
       exact CES _ rfl (Imp.to [0, 2, 3, 4, 5, 6] (by rfl) (by rfl) rfl rfl)
     ·subst hu339
      change fn3_k3 F v175 u339.1 u339.2.1 u339.2.2.1 u339.2.2.2 = _ at h
      rw [fn3_k3] at h
      obtain ⟨v280, hv281, h⟩ := bd h
      refine RU tbOk false 999 2 [.cl true [1, 2, 3] (fun _ => c12v1 F u339.1 v175.2.1 v175.2.2.1 v175.2.2.2.1 v175.2.2.2.2.1 u339.2.1 _ hv281)] (aK aN) (by rfl) ?_
      refine RU tbOk false 999 4 [.mm (Kn.int .i64) Vn.bool] aN (by rfl) ?_
      obtain ⟨o316, hl317, h⟩ := bd h
      refine CTS 2 (fun u338 => ⟨[(12, .mp 1), (22, .sl 2)], [(0, .rds DoK.E DoK.K p3), (1, .omap Kn.str Vn.str u339.2.2.1), (2, .rowL (Et.int .u8) 5 35 v280 v280.length)], 3⟩) o316 ?_ (fun u338 hu338 => ?_)
      ·have h0320 := h
       clear h
       refine G4.imp (Imp.to [0, 1, 2, 3, 4, 5, 6, 7] (by rfl) (by rfl) rfl rfl) (LP (fun (n : Nat) (s : (List (Int × Bool)) × Int) => fn3_l4 v175 u339.1 u339.2.1 u339.2.2.1 u339.2.2.2 v280 n s.1 s.2) (fun (s : (List (Int × Bool)) × Int) => ⟨[(10, .p 1 0), (12, .mp 4), (13, .mp 5), (22, .sl 6), (23, .mp 7), (24, .v (.int .i64 s.2))], [(0, .rds DoK.E DoK.K p3), (1, .cells 54 [.sl 2, .v (.int .u8 v175.2.1), .v (.int .i64 v175.2.2.1), .v (.int .i64 v175.2.2.2.1), .v (.int .i64 v175.2.2.2.2.1), .mp 3]), (2, .ex (pO HCell.D 63 u339.1) []), (3, .omap Kn.str (Vn.int .i64) u339.2.1), (4, .omap Kn.str Vn.str u339.2.2.1), (5, .omap Kn.str (Vn.int .i64) u339.2.2.2), (6, .rowL (Et.int .u8) 5 35 v280 v280.length), (7, .omap (Kn.int .i64) Vn.bool s.1)], 8⟩) (fun _ => rfl) (s0 := (([] : List (Int × Bool)), 0)) hl317 ?_)
       clear hl317
       rintro R321 n318 ⟨xs298, x299⟩ h ih319
       replace h := (fn3_l4_s v175 u339.1 u339.2.1 u339.2.2.1 u339.2.2.2 v280 n318 xs298 x299).symm.trans h
       rw [fn3_b4] at h
       refine RU tbOk false 999 4 [.ln] aN (by rfl) ?_
       refine CD h (by rfl) (fun h hb322 => ?_) (fun h hb322 => ?_)
       ·obtain ⟨hk323, h⟩ := ck h
        obtain ⟨v324, hv325, h⟩ := bd h
        refine RU tbOk false 999 6 [.ix, .ld (Et.int .u8) 5 _, .cl true [1, 2, 3, 8] (fun _ => c11v1 u339.1 v175.2.1 v175.2.2.1 v175.2.2.2.1 v175.2.2.2.2.1 u339.2.1 (gt v280 x299) _ hv325)] (aC hk323 (aR (aC hk323 (aK aN)))) (by rfl) ?_
        obtain ⟨v326, hv327, h⟩ := bd h
        refine RU tbOk false 999 8 [.cl true [1, 2, 3] (fun _ => c13v1 u339.1 v175.2.1 v175.2.2.1 v175.2.2.2.1 v175.2.2.2.2.1 u339.2.1 v324.1 _ hv327)] (aK aN) (by rfl) ?_
        refine RU tbOk false 999 17 [.i2 (Et.int .u8) 5 35 v280 x299, .l2 (Et.int .u8) 5 35 v280, .b2 _, .lo Kn.str Vn.str _ (strOfNums (gt v280 x299)) (⟨#[]⟩ : ByteArray) Try.runUnderlying33 Try.runUnderlying9 Try.zeroValue9] (aR (aC hk323 (aR (aC hk323 (aR (aR (aR aN))))))) (by rfl) ?_
        refine G4.imp (Imp.closeL 6 8 (by rfl) (by rfl) (by rfl)) ?_
        refine G4.openK 6 (by rfl) (fun hh328 => ?_)
        refine CDS h (fun h hb329 => ?_) (fun h hb329 => ?_)
        ·refine DR (tbOk.lit [(201, 202, true), (205, 206, true), (209, 210, true), (215, 216, true), (220, 221, true), (231, 232, true)]) hmix [249] [([], []), ([], []), ([], []), ([], []), ([], []), ([], []), ([], []), ([], []), ([], []), ([], []), ([], []), ([], []), ([], []), ([], []), ([], []), ([], []), ([], []), ([], []), ([], []), ([], []), ([], []), ([], []), ([], []), ([], []), ([], []), ([], []), ([], []), ([], []), ([], []), ([], []), ([], []), ([], []), ([], []), ([], []), ([], []), ([], []), ([], []), ([], []), ([], []), ([], []), ([], []), ([], []), ([], []), ([], []), ([], []), ([], []), ([], []), ([], []), ([], []), ([], [])] [] (aC hb329 (aC rfl (aC rfl (aC rfl (aC rfl (aC rfl aN)))))) (by rfl) ?_
         refine G4.imp (Imp.shutK 6 (by rfl)) ?_
         refine RU tbOk false 999 0 [] aN (by rfl) ?_
         refine CDT rfl (by rfl) ?_
         refine RU tbOk false 999 1 [] aN (by rfl) ?_
         have ho := Option.some.inj h
         subst ho
         replace h := h0320
         refine RU tbOk false 999 0 [] aN (by rfl) ?_
         have hr := Option.some.inj h
         subst hr
         exact RT tbOk.t Try.results3 [0] (by rfl) (by rfl) (by rfl) rfl rfl
        ·refine CDS h (fun h hb330 => ?_) (fun h hb330 => ?_)
         ·refine DR (tbOk.lit [(201, 202, false), (205, 206, true), (209, 210, true), (215, 216, true), (220, 221, true), (231, 232, true)]) hmix [249] [([], []), ([], []), ([], []), ([], []), ([], []), ([], []), ([], []), ([], []), ([], []), ([], []), ([], []), ([], []), ([], []), ([], []), ([], []), ([], []), ([], []), ([], []), ([], []), ([], []), ([], []), ([], []), ([], []), ([], []), ([], []), ([], []), ([], []), ([], []), ([], []), ([], []), ([], []), ([], []), ([], []), ([], []), ([], []), ([], []), ([], []), ([], []), ([], []), ([], []), ([], []), ([], []), ([], []), ([], []), ([], []), ([], []), ([], []), ([], []), ([], []), ([], [])] [] (aC hb329 (aC hb330 (aC rfl (aC rfl (aC rfl (aC rfl aN)))))) (by rfl) ?_
          refine G4.imp (Imp.shutK 6 (by rfl)) ?_
          refine RU tbOk false 999 0 [] aN (by rfl) ?_
          refine CDT rfl (by rfl) ?_
          refine RU tbOk false 999 1 [] aN (by rfl) ?_
          have ho := Option.some.inj h
          subst ho
          replace h := h0320
          refine RU tbOk false 999 0 [] aN (by rfl) ?_
          have hr := Option.some.inj h
          subst hr
          exact RT tbOk.t Try.results3 [0] (by rfl) (by rfl) (by rfl) rfl rfl
         ·refine CDS h (fun h hb331 => ?_) (fun h hb331 => ?_)
          ·refine DR (tbOk.lit [(201, 202, false), (205, 206, false), (209, 210, true), (215, 216, true), (220, 221, true), (231, 232, true)]) hmix [249] [([], []), ([], []), ([], []), ([], []), ([], []), ([], []), ([], []), ([], []), ([], []), ([], []), ([], []), ([], []), ([], []), ([], []), ([], []), ([], []), ([], []), ([], []), ([], []), ([], []), ([], []), ([], []), ([], []), ([], []), ([], []), ([], []), ([], []), ([], []), ([], []), ([], []), ([], []), ([], []), ([], []), ([], []), ([], []), ([], []), ([], []), ([], []), ([], []), ([], []), ([], []), ([], []), ([], []), ([], []), ([], []), ([], []), ([], []), ([], []), ([], []), ([], [])] [] (aC hb329 (aC hb330 (aC hb331 (aC rfl (aC rfl (aC rfl aN)))))) (by rfl) ?_
           refine G4.imp (Imp.shutK 6 (by rfl)) ?_
           refine RU tbOk false 999 0 [] aN (by rfl) ?_
           refine CDT rfl (by rfl) ?_
           refine RU tbOk false 999 1 [] aN (by rfl) ?_
           have ho := Option.some.inj h
           subst ho
           replace h := h0320
           refine RU tbOk false 999 0 [] aN (by rfl) ?_
           have hr := Option.some.inj h
           subst hr
           exact RT tbOk.t Try.results3 [0] (by rfl) (by rfl) (by rfl) rfl rfl
          ·refine CDS h (fun h hb332 => ?_) (fun h hb332 => ?_)
           ·refine DR (tbOk.lit [(201, 202, false), (205, 206, false), (209, 210, false), (215, 216, true), (220, 221, true), (231, 232, true)]) hmix [249] [([], []), ([], []), ([], []), ([], []), ([], []), ([], []), ([], []), ([], []), ([], []), ([], []), ([], []), ([], []), ([9], []), ([], []), ([], []), ([], []), ([], []), ([], []), ([], []), ([], []), ([], []), ([], []), ([], []), ([], []), ([], []), ([], []), ([], []), ([], []), ([], []), ([], []), ([], []), ([], []), ([], []), ([], []), ([], []), ([], []), ([], []), ([], []), ([], []), ([], []), ([], []), ([], []), ([], []), ([], []), ([], []), ([], []), ([], []), ([], []), ([], []), ([], [])] [.b2 _] (aC hb329 (aC hb330 (aC hb331 (aR (aR (aC hb332 (aC rfl (aC rfl aN)))))))) (by rfl) ?_
            refine G4.imp (Imp.shutK 6 (by rfl)) ?_
            refine RU tbOk false 999 0 [] aN (by rfl) ?_
            refine CDT rfl (by rfl) ?_
            refine RU tbOk false 999 1 [] aN (by rfl) ?_
            have ho := Option.some.inj h
            subst ho
            replace h := h0320
            refine RU tbOk false 999 0 [] aN (by rfl) ?_
            have hr := Option.some.inj h
            subst hr
            exact RT tbOk.t Try.results3 [0] (by rfl) (by rfl) (by rfl) rfl rfl
           ·refine CDS h (fun h hb333 => ?_) (fun h hb333 => ?_)
            ·refine DR (tbOk.lit [(201, 202, false), (205, 206, false), (209, 210, false), (215, 216, false), (220, 221, true), (231, 232, true)]) hmix [249] [([], []), ([], []), ([], []), ([], []), ([], []), ([], []), ([], []), ([], []), ([], []), ([], []), ([], []), ([], []), ([9], []), ([], []), ([], []), ([], []), ([], []), ([], []), ([], []), ([7], []), ([], []), ([], []), ([], []), ([], []), ([], []), ([], []), ([], []), ([], []), ([], []), ([], []), ([], []), ([], []), ([], []), ([], []), ([], []), ([], []), ([], []), ([], []), ([], []), ([], []), ([], []), ([], []), ([], []), ([], []), ([], []), ([], []), ([], []), ([], []), ([], []), ([], [])] [.b2 _, .lo (Kn.int .i64) Vn.bool _ v324.1 false Try.runUnderlying46 Try.runUnderlying3 Try.zeroValue4] (aC hb329 (aC hb330 (aC hb331 (aR (aR (aC hb332 (aR (aR (aR (aC hb333 (aC rfl aN))))))))))) (by rfl) ?_
             refine G4.imp (Imp.shutK 6 (by rfl)) ?_
             refine RU tbOk false 999 0 [] aN (by rfl) ?_
             refine CDT rfl (by rfl) ?_
             refine RU tbOk false 999 1 [] aN (by rfl) ?_
             have ho := Option.some.inj h
             subst ho
             replace h := h0320
             refine RU tbOk false 999 0 [] aN (by rfl) ?_
             have hr := Option.some.inj h
             subst hr
             exact RT tbOk.t Try.results3 [0] (by rfl) (by rfl) (by rfl) rfl rfl
            ·refine CDS h (fun h hb334 => ?_) (fun h hb334 => ?_)
             ·refine DR (tbOk.lit [(201, 202, false), (205, 206, false), (209, 210, false), (215, 216, false), (220, 221, false), (231, 232, true)]) hmix [249] [([], []), ([], []), ([], []), ([], []), ([], []), ([], []), ([], []), ([], []), ([], []), ([], []), ([], []), ([], []), ([9], []), ([], []), ([], []), ([], []), ([], []), ([], []), ([], []), ([7], []), ([], []), ([], []), ([], []), ([], []), ([], []), ([], []), ([6], []), ([6], []), ([6], []), ([5], []), ([], []), ([], []), ([], []), ([], []), ([], []), ([], []), ([], []), ([], []), ([], []), ([], []), ([], []), ([], []), ([], []), ([], []), ([], []), ([], []), ([], []), ([], []), ([], []), ([], [])] [.b2 _, .lo (Kn.int .i64) Vn.bool _ v324.1 false Try.runUnderlying46 Try.runUnderlying3 Try.zeroValue4, .ik (Et.int .u8) 5 v280 hh328, .lk (Et.int .u8) 5 v280 hh328, .bk 6 5 35 v280 hh328 x299, .lo Kn.str (Vn.int .i64) _ (strOfNums (gt v280 x299)) (0 : Int) Try.runUnderlying34 Try.runUnderlying9 Try.zeroValue3] (aC hb329 (aC hb330 (aC hb331 (aR (aR (aC hb332 (aR (aR (aR (aC hb333 (aR (aR (aC hk323 (aR (aR (aC hk323 (aR (aR (aR (aC hk323 (aR (aR (aR (aC hb334 aN)))))))))))))))))))))))) (by rfl) ?_
              refine G4.imp (Imp.shutK 6 (by rfl)) ?_
              refine RU tbOk false 999 0 [] aN (by rfl) ?_
              refine CDT rfl (by rfl) ?_
              refine RU tbOk false 999 1 [] aN (by rfl) ?_
              have ho := Option.some.inj h
              subst ho
              replace h := h0320
              refine RU tbOk false 999 0 [] aN (by rfl) ?_
              have hr := Option.some.inj h
              subst hr
              exact RT tbOk.t Try.results3 [0] (by rfl) (by rfl) (by rfl) rfl rfl
             ·refine CDS h (fun h hb335 => ?_) (fun h hb335 => ?_)
              ·obtain ⟨hk336, h⟩ := ck h
               refine DR (tbOk.lit [(201, 202, false), (205, 206, false), (209, 210, false), (215, 216, false), (220, 221, false), (231, 232, false), (234, 235, true)]) hmix [249] [([], []), ([], []), ([], []), ([], []), ([], []), ([], []), ([], []), ([], []), ([], []), ([], []), ([], []), ([], []), ([9], []), ([], []), ([], []), ([], []), ([], []), ([], []), ([], []), ([7], []), ([], []), ([], []), ([], []), ([], []), ([], []), ([], []), ([6], []), ([6], []), ([6], []), ([5], []), ([], []), ([], []), ([], []), ([], []), ([], []), ([], []), ([], []), ([], []), ([], []), ([6], []), ([6], []), ([6], []), ([], []), ([], []), ([6], []), ([6], []), ([6], []), ([], []), ([], []), ([], [])] [.b2 _, .lo (Kn.int .i64) Vn.bool _ v324.1 false Try.runUnderlying46 Try.runUnderlying3 Try.zeroValue4, .ik (Et.int .u8) 5 v280 hh328, .lk (Et.int .u8) 5 v280 hh328, .bk 6 5 35 v280 hh328 x299, .lo Kn.str (Vn.int .i64) _ (strOfNums (gt v280 x299)) (0 : Int) Try.runUnderlying34 Try.runUnderlying9 Try.zeroValue3, .ik (Et.int .u8) 5 v280 hh328, .lk (Et.int .u8) 5 v280 hh328, .bk 6 5 35 v280 hh328 (IntKind.i64.wrap (x299 - 1)), .ik (Et.int .u8) 5 v280 hh328, .lk (Et.int .u8) 5 v280 hh328, .bk 6 5 35 v280 hh328 x299, .st] (aC hb329 (aC hb330 (aC hb331 (aR (aR (aC hb332 (aR (aR (aR (aC hb333 (aR (aR (aC hk323 (aR (aR (aC hk323 (aR (aR (aR (aC hk323 (aR (aR (aR (aC hb334 (aC hb335 (aR (aR (aC hk336 (aR (aR (aC hk336 (aR (aR (aR (aC hk336 (aR (aR (aC hk323 (aR (aR (aC hk323 (aR (aR (aR (aC hk323 aN))))))))))))))))))))))))))))))))))))))))))))) (by rfl) ?_
               refine G4.imp (Imp.shutK 6 (by rfl)) ?_
               refine RU tbOk false 999 0 [] aN (by rfl) ?_
               refine CD h (by rfl) (fun h hb337 => ?_) (fun h hb337 => ?_)
               ·refine RU tbOk false 999 1 [] aN (by rfl) ?_
                have ho := Option.some.inj h
                subst ho
                replace h := h0320
                refine RU tbOk false 999 0 [] aN (by rfl) ?_
                have hr := Option.some.inj h
                subst hr
                exact RT tbOk.t Try.results3 [0] (by rfl) (by rfl) (by rfl) rfl rfl
               ·refine RU tbOk false 999 6 [.mu (Kn.int .i64) Vn.bool _ v324.1 true Try.runUnderlying46 Try.runUnderlying3] (aR (aR (aR aN))) (by rfl) ?_
                exact ih319 (mput xs298 v324.1 true, IntKind.i64.wrap (x299 + 1)) h _ _ (Imp.to [0, 1, 2, 3, 4, 5, 6, 7] (by rfl) (by rfl) rfl rfl)
              ·refine DR (tbOk.lit [(201, 202, false), (205, 206, false), (209, 210, false), (215, 216, false), (220, 221, false), (231, 232, false), (234, 235, false)]) hmix [249] [([], []), ([], []), ([], []), ([], []), ([], []), ([], []), ([], []), ([], []), ([], []), ([], []), ([], []), ([], []), ([9], []), ([], []), ([], []), ([], []), ([], []), ([], []), ([], []), ([7], []), ([], []), ([], []), ([], []), ([], []), ([], []), ([], []), ([6], []), ([6], []), ([6], []), ([5], []), ([], []), ([], []), ([], []), ([], []), ([], []), ([], []), ([], []), ([], []), ([], []), ([], []), ([], []), ([], []), ([], []), ([], []), ([], []), ([], []), ([], []), ([], []), ([], []), ([], [])] [.b2 _, .lo (Kn.int .i64) Vn.bool _ v324.1 false Try.runUnderlying46 Try.runUnderlying3 Try.zeroValue4, .ik (Et.int .u8) 5 v280 hh328, .lk (Et.int .u8) 5 v280 hh328, .bk 6 5 35 v280 hh328 x299, .lo Kn.str (Vn.int .i64) _ (strOfNums (gt v280 x299)) (0 : Int) Try.runUnderlying34 Try.runUnderlying9 Try.zeroValue3] (aC hb329 (aC hb330 (aC hb331 (aR (aR (aC hb332 (aR (aR (aR (aC hb333 (aR (aR (aC hk323 (aR (aR (aC hk323 (aR (aR (aR (aC hk323 (aR (aR (aR (aC hb334 (aC hb335 aN))))))))))))))))))))))))) (by rfl) ?_
               refine G4.imp (Imp.shutK 6 (by rfl)) ?_
               refine RU tbOk false 999 0 [] aN (by rfl) ?_
               refine CDF rfl (by rfl) ?_
               refine RU tbOk false 999 6 [.mu (Kn.int .i64) Vn.bool _ v324.1 true Try.runUnderlying46 Try.runUnderlying3] (aR (aR (aR aN))) (by rfl) ?_
               exact ih319 (mput xs298 v324.1 true, IntKind.i64.wrap (x299 + 1)) h _ _ (Imp.to [0, 1, 2, 3, 4, 5, 6, 7] (by rfl) (by rfl) rfl rfl)
       ·refine RU tbOk false 999 0 [] aN (by rfl) ?_
        have ho := Option.some.inj h
        subst ho
        exact CES _ rfl (Imp.to [0, 4, 6] (by rfl) (by rfl) rfl rfl)
      ·subst hu338
       change fn3_k4 u339.2.2.1 v280 = _ at h
       rw [fn3_k4] at h
       refine RU tbOk false 999 6 [.ln, .lm Kn.str Vn.str _ Try.runUnderlying33] (aR aN) (by rfl) ?_
       have hr := Option.some.inj h
       subst hr
       exact RT tbOk.t Try.results3 [0] (by rfl) (by rfl) (by rfl) rfl rfl
end Go.Proofs.Yteicbpfkljnemaa
namespace Go.Proofs.Yteicbpfkljnemaa
open Go Go.HW
set_option maxRecDepth 8000
set_option linter.unusedVariables false
theorem w64 {n : Int} (h : -9223372036854775808 ≤ n ∧ n ≤ 9223372036854775807) : IntKind.i64.wrap n = n := by rw [IntKind.wrap_i64]; omega
theorem inb_iff {i : Int} {n : Nat} : inb i n = true ↔ 0 ≤ i ∧ i < (n : Int) := by simp [inb]
theorem gt_set {α : Type} [Inhabited α] {xs : List α} {i j : Int} {v : α} (hi : inb i xs.length = true) (hj : 0 ≤ j) : gt (xs.set i.toNat v) j = if i = j then v else gt xs j := by
 have h := inb_iff.1 hi
 unfold gt
 by_cases he : i = j
 ·subst he
  rw [if_pos rfl, List.getD_eq_getElem?_getD, List.getElem?_set_self (by omega)]; rfl
 ·rw [if_neg he, List.getD_eq_getElem?_getD, List.getElem?_set_ne (by omega), ← List.getD_eq_getElem?_getD]
theorem gt_mem {α : Type} [Inhabited α] {xs : List α} {i : Int} (hi : inb i xs.length = true) : gt xs i ∈ xs := by
 have h := inb_iff.1 hi
 unfold gt
 rw [List.getD_eq_getElem?_getD, List.getElem?_eq_getElem (by omega)]
 exact List.getElem_mem _
section
variable {κ α : Type} [DecidableEq κ]
theorem mget_put (z v : α) (k t : κ) : ∀ xs : List (κ × α), mget (mput xs k v) t z = if k = t then v else mget xs t z
 | [] => by by_cases h : k = t <;> simp [mget, mput, mfind, h]
 | p :: xs => by
  have ih := mget_put z v k t xs
  simp only [mget] at ih ⊢
  by_cases hp : p.1 = k
  ·by_cases h : k = t
   ·simp [mput, mfind, hp, h]
   ·have : ¬ p.1 = t := by rw [hp]; exact h
    simp [mput, mfind, hp, h]
  ·by_cases h : p.1 = t
   ·have : ¬ k = t := by intro e; exact hp (h.trans e.symm)
    have h2 : ¬ t = k := fun e => this e.symm
    simp [mput, mfind, h, this, h2]
   ·simp only [mput, hp, decide_false, cond_false, mfind, h]
    exact ih
theorem mhas_put (k : κ) (v : α) (t : κ) : ∀ xs : List (κ × α), mhas (mput xs k v) t = (decide (k = t) || mhas xs t)
 | [] => by by_cases h : k = t <;> simp [mhas, mput, mfind, h]
 | p :: xs => by
  have ih := mhas_put k v t xs
  simp only [mhas] at ih ⊢
  by_cases hp : p.1 = k
  ·by_cases h : k = t
   ·simp [mput, mfind, hp, h]
   ·have : ¬ p.1 = t := by rw [hp]; exact h
    simp [mput, mfind, hp, h]
  ·by_cases h : p.1 = t
   ·have : ¬ k = t := by intro e; exact hp (h.trans e.symm)
    have h2 : ¬ t = k := fun e => this e.symm
    simp [mput, mfind, h, this, h2]
   ·simp only [mput, hp, decide_false, cond_false, mfind, h]
    exact ih
theorem mhas_iff (xs : List (κ × α)) (k : κ) : mhas xs k = true ↔ ∃ q ∈ xs, q.1 = k := by
 induction xs with
 | nil => simp [mhas, mfind]
 | cons p xs ih =>
  by_cases h : p.1 = k
  ·constructor
   ·intro _; exact ⟨p, by simp, h⟩
   ·intro _; simp [mhas, mfind, h]
  ·have e : mhas (p :: xs) k = mhas xs k := by simp [mhas, mfind, h]
   rw [e, ih]
   constructor
   ·rintro ⟨q, h1, h2⟩; exact ⟨q, by simp [h1], h2⟩
   ·rintro ⟨q, h1, h2⟩
    rcases List.mem_cons.1 h1 with rfl | h1
    ·exact absurd h2 h
    ·exact ⟨q, h1, h2⟩
theorem mput_new : ∀ (xs : List (κ × α)) (k : κ) (v : α), mhas xs k = false → mput xs k v = xs ++ [(k, v)]
 | [], k, v, _ => rfl
 | p :: xs, k, v, h => by
  by_cases hp : p.1 = k
  ·simp [mhas, mfind, hp] at h
  ·have : mhas xs k = false := by simpa [mhas, mfind, hp] using h
   simp [mput, hp, mput_new xs k v this]
theorem mput_old : ∀ (xs : List (κ × α)) (k : κ) (v : α), mhas xs k = true → (mput xs k v).map (·.1) = xs.map (·.1)
 | [], k, v, h => by simp [mhas, mfind] at h
 | p :: xs, k, v, h => by
  by_cases hp : p.1 = k
  ·simp [mput, hp]
  ·have h' : mhas xs k = true := by simpa [mhas, mfind, hp] using h
   simp [mput, hp, mput_old xs k v h']
def KND (xs : List (κ × α)) : Prop := (xs.map (·.1)).Nodup
theorem KND.push {xs : List (κ × α)} {k : κ} {v : α} (h : KND xs) (hk : mhas xs k = false) : KND (mput xs k v) := by
 rw [mput_new xs k v hk, KND, List.map_append, List.nodup_append]
 refine ⟨h, by simp, fun a ha b hb => ?_⟩
 simp at hb; subst hb
 obtain ⟨q, h1, rfl⟩ := List.mem_map.1 ha
 intro e
 have := (mhas_iff xs b).2 ⟨q, h1, e⟩
 rw [hk] at this; cases this
theorem KND.put {xs : List (κ × α)} {k : κ} {v : α} (h : KND xs) : KND (mput xs k v) := by
 cases hm : mhas xs k with
 | false => exact h.push hm
 | true => unfold KND; rw [mput_old xs k v hm]; exact h
theorem mput_len (xs : List (κ × α)) (k : κ) (v : α) : (mput xs k v).length = xs.length + (bif mhas xs k then 0 else 1) := by
 cases hm : mhas xs k with
 | false => rw [mput_new xs k v hm]; simp
 | true => have := congrArg List.length (mput_old xs k v hm); simpa using this
theorem mdel_sub : ∀ (xs : List (κ × α)) (k : κ), (mdel xs k).Sublist xs
 | [], _ => List.Sublist.refl _
 | p :: xs, k => by
  by_cases h : p.1 = k
  ·simp [mdel, h]
  ·simp only [mdel, h, decide_false, cond_false]; exact (mdel_sub xs k).cons_cons p
theorem KND.del {xs : List (κ × α)} {k : κ} (h : KND xs) : KND (mdel xs k) := ((mdel_sub xs k).map _).nodup h
theorem mfind_del : ∀ (xs : List (κ × α)) (k t : κ), KND xs → mfind (mdel xs k) t = if k = t then none else mfind xs t
 | [], k, t, _ => by simp [mdel, mfind]
 | p :: xs, k, t, h => by
  have hn := List.nodup_cons.1 (show (p.1 :: xs.map (·.1)).Nodup from h)
  by_cases hp : p.1 = k
  ·have e : mdel (p :: xs) k = xs := by simp [mdel, hp]
   rw [e]
   by_cases ht : k = t
   ·subst ht
    have : mhas xs k = false := by
     cases hh : mhas xs k with
     | false => rfl
     | true => obtain ⟨q, h1, h2⟩ := (mhas_iff xs k).1 hh; exact absurd (List.mem_map.2 ⟨q, h1, h2.trans hp.symm⟩) hn.1
    rw [if_pos rfl]; simpa [mhas] using this
   ·have : ¬ p.1 = t := by rw [hp]; exact ht
    rw [if_neg ht]; simp [mfind, this]
  ·have e : mdel (p :: xs) k = p :: mdel xs k := by simp [mdel, hp]
   rw [e]
   have ih := mfind_del xs k t hn.2
   by_cases ht : p.1 = t
   ·have : ¬ k = t := fun e => hp (ht.trans e.symm)
    rw [if_neg this]; simp [mfind, ht]
   ·simp only [mfind, ht, decide_false, cond_false]; exact ih
theorem mhas_del {xs : List (κ × α)} (k t : κ) (h : KND xs) : mhas (mdel xs k) t = (!decide (k = t) && mhas xs t) := by
 unfold mhas; rw [mfind_del xs k t h]
 by_cases ht : k = t <;> simp [ht]
theorem mget_del {xs : List (κ × α)} (k t : κ) (z : α) (h : KND xs) (ht : k ≠ t) : mget (mdel xs k) t z = mget xs t z := by
 unfold mget; rw [mfind_del xs k t h, if_neg ht]
theorem mdel_len : ∀ (xs : List (κ × α)) (k : κ), mhas xs k = true → (mdel xs k).length + 1 = xs.length
 | [], k, h => by simp [mhas, mfind] at h
 | p :: xs, k, h => by
  by_cases hp : p.1 = k
  ·simp [mdel, hp]
  ·have h' : mhas xs k = true := by simpa [mhas, mfind, hp] using h
   have := mdel_len xs k h'
   simp [mdel, hp]; omega
theorem mdel_none : ∀ (xs : List (κ × α)) (k : κ), mhas xs k = false → mdel xs k = xs
 | [], k, h => rfl
 | p :: xs, k, h => by
  by_cases hp : p.1 = k
  ·simp [mhas, mfind, hp] at h
  ·have h' : mhas xs k = false := by simpa [mhas, mfind, hp] using h
   simp [mdel, hp, mdel_none xs k h']
end
def ffree : List HCell → Nat → Option Nat
 | [], _ => none
 | c :: l, i => bif c.fused then ffree l (i + 1) else some i
theorem ffree_some : ∀ {l : List HCell} {i n : Nat}, ffree l i = some n → i ≤ n ∧ ∃ c, l[n - i]? = some c ∧ c.fused = false
 | [], i, n, h => by cases h
 | c :: l, i, n, h => by
  simp only [ffree] at h
  cases hc : c.fused with
  | true =>
   rw [hc, cond_true] at h
   obtain ⟨h1, d, h2, h3⟩ := ffree_some h
   refine ⟨by omega, d, ?_, h3⟩
   rw [show n - i = (n - (i + 1)) + 1 from by omega]; exact h2
  | false => rw [hc, cond_false] at h; cases h; exact ⟨Nat.le_refl _, c, by simp, hc⟩
theorem ffree_none : ∀ {l : List HCell} {i : Nat}, ffree l i = none ↔ l.countP (·.fused) = l.length
 | [], i => by simp [ffree]
 | c :: l, i => by
  simp only [ffree]
  cases hc : c.fused with
  | true => rw [cond_true, ffree_none (l := l)]; simp [hc]
  | false =>
   rw [cond_false]
   have := List.countP_le_length (p := fun x : HCell => x.fused) (l := l)
   simp [hc]; omega
theorem free_l (cells : List HCell) (hl : cells.length ≤ 100000) : ∀ (m n i : Nat), m + i = cells.length → m < n →
  fn45_l1 (stepR (fun (s : Int) (y : Int) => fn26_r1 s y)) goR cells n ((0, 0) : Int × Nat) (i : Int) = (match ffree (cells.drop i) i with | none => some (.inl (0, 0)) | some j => some (.inr ((j : Int), 1)))
 | 0, n + 1, i, h, hn => by
  have e1 : cells.drop i = [] := List.drop_eq_nil_of_le (by omega)
  have e2 : decide ((i : Int) < (cells.length : Int)) = false := by simp; omega
  simp only [fn45_l1, fn45_b1, e1, e2, cond_false, ffree]
 | m + 1, n + 1, i, h, hn => by
  have hi : i < cells.length := by omega
  have e1 : cells.drop i = cells[i] :: cells.drop (i + 1) := List.drop_eq_getElem_cons hi
  have e2 : decide ((i : Int) < (cells.length : Int)) = true := by simp; omega
  have e3 : inb (i : Int) cells.length = true := inb_iff.2 ⟨by omega, by omega⟩
  have e4 : gt cells (i : Int) = cells[i] := by unfold gt; simp [hi]
  simp only [fn45_l1, fn45_b1, e1, e2, e3, e4, cond_true, ffree]
  cases hc : cells[i].fused with
  | false => rfl
  | true =>
   have e5 : IntKind.i64.wrap ((i : Int) + 1) = ((i + 1 : Nat) : Int) := by rw [w64 (by omega)]; rfl
   simp only [Bool.not_true, cond_false, cond_true, e5]
   exact free_l cells hl m n (i + 1) (by omega) (by omega)
theorem first_eq {F : Nat} {cells : List HCell} (hl : cells.length ≤ 100000) (hF : cells.length < F) (a K V E : Int) (keys : List (ByteArray × Int)) :
  fn26 F cells a K V E keys = some (match ffree cells 0 with | none => .inl 8 | some j => .inr (j : Int)) := by
 have h := free_l cells hl cells.length F 0 (by omega) hF
 rw [List.drop_zero] at h
 simp only [fn26, fn45]
 rw [show ((0 : Nat) : Int) = 0 from rfl] at h
 rw [h]
 cases ffree cells 0 <;> rfl
section
variable {F : Nat} {cells : List HCell} {a K V E : Int} {keys : List (ByteArray × Int)} {k v : List Int}
theorem look_eq (hk : (k.length : Int) = K) : fn11v1 cells a K V E keys k = some (bif mhas keys (strOfNums k) then (mget keys (strOfNums k) 0, 0) else (0, 6)) := by
 simp only [fn11v1, fn24v3, fn27v1, fn22v1, fn19, hk, beq_self_eq_true, Bool.not_true, cond_false, frk1, frk2]
 cases mhas keys (strOfNums k) <;> rfl
theorem at_eq {n : Int} (h : inb n cells.length = true) : fn23 cells a K V E keys n = some (.inr n) := by
 have h' := inb_iff.1 h
 have e1 : decide ((0 : Int) ≤ n) = true := by simpa using h'.1
 have e2 : decide (n < (cells.length : Int)) = true := by simpa using h'.2
 simp only [fn23, fn19, e1, e2, h, cond_true, Bool.not_true, cond_false, frk2]
theorem del_none (hk : (k.length : Int) = K) (hm : mhas keys (strOfNums k) = false) : fn9v1 cells a K V E keys k = some (6, cells, keys) := by
 simp only [fn9v1, fn20v1, fn21v1, fn22v1, fn19, hk, beq_self_eq_true, Bool.not_true, cond_false, frk1, frk2, hm, Bool.not_false, cond_true]; rfl
theorem del_some (hk : (k.length : Int) = K) (hm : mhas keys (strOfNums k) = true) (hn : inb (mget keys (strOfNums k) 0) cells.length = true) :
  fn9v1 cells a K V E keys k = some (0, cells.set (mget keys (strOfNums k) 0).toNat ⟨false, (gt cells (mget keys (strOfNums k) 0)).fthing⟩, mdel keys (strOfNums k)) := by
 simp only [fn9v1, fn20v1, fn21v1, fn22v1, fn19, hk, beq_self_eq_true, Bool.not_true, cond_false, frk1, frk2, hm, at_eq hn, hn, cond_true]
theorem paste_all {xs ys : List Int} (h : xs.length = ys.length) : pasteX xs 0 (ys.take (xs.length - 0)) = ys := by
 simp only [pasteX, List.take_zero, List.nil_append, Nat.sub_zero, Nat.zero_add]
 rw [List.take_of_length_le (by omega), List.drop_eq_nil_of_le (by omega), List.append_nil]
theorem upd_old (hk : (k.length : Int) = K) (hv : (v.length : Int) = V) (hm : mhas keys (strOfNums k) = true) (hn : inb (mget keys (strOfNums k) 0) cells.length = true) (ht : (gt cells (mget keys (strOfNums k) 0)).fthing.length = v.length) :
  fn10v1 F cells a K V E keys k v 0 = some (0, cells.set (mget keys (strOfNums k) 0).toNat ⟨true, v⟩, keys) := by
 simp only [fn10v1, fn24v2, fn25v1, fn22v1, fn19, hk, hv, beq_self_eq_true, Bool.not_true, cond_false, frk1, frk2, hm, at_eq hn, hn, cond_true, paste_all ht, Bool.true_and, Bool.true_or, Bool.false_or, show decide ((0 : Int) ≤ 2) = true from rfl, show ((0 : Int) != 1) = true from rfl, show ((0 : Int) != 2) = true from rfl]
theorem upd_full (hl : cells.length ≤ 100000) (hF : cells.length < F) (hk : (k.length : Int) = K) (hv : (v.length : Int) = V) (hm : mhas keys (strOfNums k) = false) (hf : ffree cells 0 = none) :
  fn10v1 F cells a K V E keys k v 0 = some (8, cells, keys) := by
 simp only [fn10v1, fn24v2, fn25v1, fn22v1, fn19, hk, hv, beq_self_eq_true, Bool.not_true, cond_false, frk1, frk2, hm, Bool.not_false, first_eq hl hF, hf, cond_true, Bool.true_and, Bool.true_or, Bool.false_or, show decide ((0 : Int) ≤ 2) = true from rfl, show ((0 : Int) != 1) = true from rfl, show ((0 : Int) != 2) = true from rfl]; rfl
theorem upd_new {j : Nat} (hl : cells.length ≤ 100000) (hF : cells.length < F) (hk : (k.length : Int) = K) (hv : (v.length : Int) = V) (hm : mhas keys (strOfNums k) = false) (hf : ffree cells 0 = some j)
  (hn : inb (j : Int) cells.length = true) (ht : (gt cells (j : Int)).fthing.length = v.length) :
  fn10v1 F cells a K V E keys k v 0 = some (0, cells.set j ⟨true, v⟩, mput keys (strOfNums k) (j : Int)) := by
 simp only [fn10v1, fn24v2, fn25v1, fn22v1, fn19, hk, hv, beq_self_eq_true, Bool.not_true, cond_false, frk1, frk2, hm, Bool.not_false, first_eq hl hF, hf, at_eq hn, hn, cond_true, paste_all ht, Int.toNat_natCast, Bool.true_and, Bool.true_or, Bool.false_or, show decide ((0 : Int) ≤ 2) = true from rfl, show ((0 : Int) != 1) = true from rfl, show ((0 : Int) != 2) = true from rfl]
theorem val_eq {n : Int} (hn : inb n cells.length = true) (hb : (gt cells n).fthing.length ≤ 1000000) : fn13v1 cells a K V E keys n = some ((gt cells n).fthing, 0) := by
 have e : decide ((([] : List Int).length + (gt cells n).fthing.length) * 1 ≤ 140737488355328 ∧ ([] : List Int).length + (gt cells n).fthing.length ≤ 9223372036854775807) = true := by
  simp; omega
 simp only [fn13v1, fn30v1, fn31v1, at_eq hn, hn, fn33, frk1, frk2, e, cond_true, Option.bind_some, List.nil_append]
end
structure HInv (E V : Nat) (cells : List HCell) (keys : List (ByteArray × Int)) : Prop where
 len : cells.length = E
 th : ∀ i : Int, inb i E = true → (gt cells i).fthing.length = V
 nd : KND keys
 rg : ∀ k, mhas keys k = true → inb (mget keys k 0) E = true ∧ (gt cells (mget keys k 0)).fused = true
 inj : ∀ k k', mhas keys k = true → mhas keys k' = true → mget keys k 0 = mget keys k' 0 → k = k'
 cnt : keys.length = cells.countP (·.fused)
theorem countP_set' {cells : List HCell} {i : Int} (hi : inb i cells.length = true) (c : HCell) :
  (cells.set i.toNat c).countP (·.fused) + (bif (gt cells i).fused then 1 else 0) = cells.countP (·.fused) + (bif c.fused then 1 else 0) := by
 have h := inb_iff.1 hi
 have hlt : i.toNat < cells.length := by omega
 have e4 : gt cells i = cells[i.toNat] := by unfold gt; simp [hlt]
 rw [e4]
 have hs : cells = cells.take i.toNat ++ cells[i.toNat] :: cells.drop (i.toNat + 1) := by
  rw [← List.drop_eq_getElem_cons hlt, List.take_append_drop]
 have hs2 : cells.set i.toNat c = cells.take i.toNat ++ c :: cells.drop (i.toNat + 1) := List.set_eq_take_append_cons_drop.trans (by rw [if_pos hlt])
 rw [hs2]
 conv => rhs; rw [hs]
 simp only [List.countP_append, List.countP_cons]
 cases cells[i.toNat].fused <;> cases c.fused <;> simp <;> omega
theorem HInv.new (E V : Nat) : HInv E V (List.replicate E ⟨false, List.replicate V 0⟩) [] where
 len := by simp
 th := fun i hi => by
  have : gt (List.replicate E (⟨false, List.replicate V 0⟩ : HCell)) i ∈ List.replicate E (⟨false, List.replicate V 0⟩ : HCell) := gt_mem (by simpa using hi)
  rw [List.eq_of_mem_replicate this]; simp
 nd := by simp [KND]
 rg := fun k h => by simp [mhas, mfind] at h
 inj := fun k k' h => by simp [mhas, mfind] at h
 cnt := by simp [List.countP_replicate]
section
variable {E V : Nat} {cells : List HCell} {keys : List (ByteArray × Int)} {k : ByteArray} {v : List Int}
theorem HInv.del (h : HInv E V cells keys) (hm : mhas keys k = true) : HInv E V (cells.set (mget keys k 0).toNat ⟨false, (gt cells (mget keys k 0)).fthing⟩) (mdel keys k) where
 len := by simp [h.len]
 th := fun i hi => by
  rw [gt_set (by rw [h.len]; exact (h.rg k hm).1) (inb_iff.1 hi).1]
  split
  ·exact h.th _ (h.rg k hm).1
  ·exact h.th i hi
 nd := h.nd.del
 rg := fun t ht => by
  rw [mhas_del k t h.nd] at ht
  have hkt : k ≠ t := by intro e; simp [e] at ht
  have ht' : mhas keys t = true := by simpa [hkt] using ht
  rw [mget_del k t 0 h.nd hkt, gt_set (by rw [h.len]; exact (h.rg k hm).1) (inb_iff.1 (h.rg t ht').1).1]
  refine ⟨(h.rg t ht').1, ?_⟩
  rw [if_neg (fun e => hkt (h.inj k t hm ht' e))]; exact (h.rg t ht').2
 inj := fun t t' ht ht' e => by
  rw [mhas_del k t h.nd] at ht; rw [mhas_del k t' h.nd] at ht'
  have hkt : k ≠ t := by intro e; simp [e] at ht
  have hkt' : k ≠ t' := by intro e; simp [e] at ht'
  rw [mget_del k t 0 h.nd hkt, mget_del k t' 0 h.nd hkt'] at e
  exact h.inj t t' (by simpa [hkt] using ht) (by simpa [hkt'] using ht') e
 cnt := by
  have h1 := countP_set' (cells := cells) (i := mget keys k 0) (by rw [h.len]; exact (h.rg k hm).1) ⟨false, (gt cells (mget keys k 0)).fthing⟩
  have h2 := mdel_len keys k hm
  rw [(h.rg k hm).2] at h1
  have := h.cnt
  simp only [cond_true, cond_false] at h1
  omega
theorem HInv.old (h : HInv E V cells keys) (hm : mhas keys k = true) (hv : v.length = V) : HInv E V (cells.set (mget keys k 0).toNat ⟨true, v⟩) keys where
 len := by simp [h.len]
 th := fun i hi => by
  rw [gt_set (by rw [h.len]; exact (h.rg k hm).1) (inb_iff.1 hi).1]
  split
  ·exact hv
  ·exact h.th i hi
 nd := h.nd
 rg := fun t ht => by
  rw [gt_set (by rw [h.len]; exact (h.rg k hm).1) (inb_iff.1 (h.rg t ht).1).1]
  refine ⟨(h.rg t ht).1, ?_⟩
  split
  ·rfl
  ·exact (h.rg t ht).2
 inj := h.inj
 cnt := by
  have h1 := countP_set' (cells := cells) (i := mget keys k 0) (by rw [h.len]; exact (h.rg k hm).1) ⟨true, v⟩
  rw [(h.rg k hm).2] at h1
  have := h.cnt
  simp only [cond_true] at h1
  omega
theorem HInv.push {j : Nat} (h : HInv E V cells keys) (hm : mhas keys k = false) (hf : ffree cells 0 = some j) (hv : v.length = V) : HInv E V (cells.set j ⟨true, v⟩) (mput keys k (j : Int)) := by
 obtain ⟨_, c, h1, h2⟩ := ffree_some hf
 rw [Nat.sub_zero] at h1
 obtain ⟨hj, hc⟩ := List.getElem?_eq_some_iff.1 h1
 have hjb : inb (j : Int) cells.length = true := inb_iff.2 ⟨by omega, by omega⟩
 have hg : (gt cells (j : Int)).fused = false := by
  have e4 : gt cells (j : Int) = cells[j] := by unfold gt; simp [hj]
  rw [e4, hc]; exact h2
 have hset : ∀ i : Int, 0 ≤ i → gt (cells.set j ⟨true, v⟩) i = if (j : Int) = i then ⟨true, v⟩ else gt cells i := fun i hi => by
  have := gt_set (v := (⟨true, v⟩ : HCell)) hjb hi
  simpa using this
 have hne : ∀ t, mhas keys t = true → (j : Int) ≠ mget keys t 0 := fun t ht e => by
  have := (h.rg t ht).2
  rw [← e, hg] at this; cases this
 refine ⟨by simp [h.len], fun i hi => ?_, h.nd.put, fun t ht => ?_, fun t t' ht ht' e => ?_, ?_⟩
 ·rw [hset i (inb_iff.1 hi).1]
  split
  ·exact hv
  ·exact h.th i hi
 ·rw [mhas_put] at ht
  rw [mget_put]
  by_cases hkt : k = t
  ·rw [if_pos hkt, hset _ (by omega), if_pos rfl, ← h.len]; exact ⟨hjb, rfl⟩
  ·have ht' : mhas keys t = true := by simpa [hkt] using ht
   rw [if_neg hkt, hset _ (inb_iff.1 (h.rg t ht').1).1, if_neg (hne t ht')]
   exact h.rg t ht'
 ·rw [mhas_put] at ht ht'
  rw [mget_put, mget_put] at e
  by_cases hkt : k = t <;> by_cases hkt' : k = t'
  ·exact hkt.symm.trans hkt'
  ·rw [if_pos hkt, if_neg hkt'] at e; exact absurd e (hne t' (by simpa [hkt'] using ht'))
  ·rw [if_neg hkt, if_pos hkt'] at e; exact absurd e.symm (hne t (by simpa [hkt] using ht))
  ·rw [if_neg hkt, if_neg hkt'] at e; exact h.inj t t' (by simpa [hkt] using ht) (by simpa [hkt'] using ht') e
 ·have h1 := countP_set' hjb ⟨true, v⟩
  rw [hg] at h1
  rw [mput_len, hm]
  have := h.cnt
  simp only [cond_true, cond_false, Int.toNat_natCast] at h1 ⊢
  omega
theorem HInv.free (h : HInv E V cells keys) : ffree cells 0 = none ↔ keys.length = E := by
 rw [ffree_none, ← h.cnt, h.len]
end
end Go.Proofs.Yteicbpfkljnemaa
