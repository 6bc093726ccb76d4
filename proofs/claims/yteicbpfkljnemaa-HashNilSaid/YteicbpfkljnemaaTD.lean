/- Part of the proof: the logic, the walks, and what they compute. -/
import Derived.Test.YteicbpfkljnemaaProg
import Derived.KernelRfl
import Derived.ChangeSame
import Derived.Carry
import Derived.ProofKit
import Derived.OpenShut
import Derived.SizedLaws
import Derived.Test.YteicbpfkljnemaaTC
set_option linter.all false
namespace Go.Proofs.Yteicbpfkljnemaa
open Go Go.HW
set_option linter.unusedVariables false
set_option maxRecDepth 4000
set_option maxHeartbeats 8000000
structure Do where
 fWhat : Int
 fKey : List Int
 fB : List Int
 fFlags : Int
 fPlace : Int
 fOff : Int
 deriving DecidableEq, Inhabited
structure MSpec where
 fKind : Int
 fKey : Int
 fValue : Int
 fEntries : Int
 deriving DecidableEq, Inhabited
structure S_kinds_bound_int_ where
 flo : Int
 fhi : Int
 deriving DecidableEq, Inhabited
def S_kinds_bound_int_.enc (x : S_kinds_bound_int_) : List Value := [.int .i64 x.flo, .int .i64 x.fhi]
def S_kinds_bound_int_.E : Et S_kinds_bound_int_ := ⟨⟨S_kinds_bound_int_.enc, 2, fun _ => rfl, fun _ => rfl, by decide⟩, fun x => [.v (.int .i64 x.flo), .v (.int .i64 x.fhi)], fun ρ x => dens_mapV (S_kinds_bound_int_.enc x)⟩
structure S_kinds_makes where
 fkey : S_kinds_bound_int_
 fvalue : S_kinds_bound_int_
 fentries : S_kinds_bound_int_
 deriving DecidableEq, Inhabited
def S_kinds_makes.enc (x : S_kinds_makes) : List Value := [.int .i64 x.fkey.flo, .int .i64 x.fkey.fhi, .int .i64 x.fvalue.flo, .int .i64 x.fvalue.fhi, .int .i64 x.fentries.flo, .int .i64 x.fentries.fhi]
def S_kinds_makes.E : Et S_kinds_makes := ⟨⟨S_kinds_makes.enc, 6, fun _ => rfl, fun _ => rfl, by decide⟩, fun x => [.v (.int .i64 x.fkey.flo), .v (.int .i64 x.fkey.fhi), .v (.int .i64 x.fvalue.flo), .v (.int .i64 x.fvalue.fhi), .v (.int .i64 x.fentries.flo), .v (.int .i64 x.fentries.fhi)], fun ρ x => dens_mapV (S_kinds_makes.enc x)⟩
structure HCell where
 fused : Bool
 fthing : List Int
 deriving DecidableEq, Inhabited
def HCell.D : Od HCell := ⟨Int, inferInstance, (Et.int .u8), 5, fun x => x.fthing, fun x r => { x with fthing := r }, ⟨fun p => [.bool p.1.fused, .slice p.2.1 p.2.2.1 p.2.2.2], 2, fun _ => rfl, fun _ => rfl, by decide⟩, fun x s => [.v (.bool x.fused), s], fun ρ x u s h => denAll_dens ⟨by rw [SV.den], by rw [SV.den, h]; rfl, trivial⟩, fun _ _ => rfl, fun _ _ _ => rfl, fun _ => rfl⟩
noncomputable def tb : TB := ⟨⟨[(5, .int .u8), (9, .string), (20, Try.t20.desc), (27, Try.t26.desc), (29, Try.t29.desc), (30, .int .i64), (34, Try.t34.desc), (35, .slice 5), (38, Try.t37.desc), (44, .slice 35), (50, .slice 63), (52, Try.t51.desc), (54, Try.t53.desc), (55, .slice 29), (63, Try.t62.desc), (73, .slice 9), (84, Try.t83.desc), (86, Try.t85.desc)], [(3, false), (4, false), (5, false), (9, false), (24, false), (27, true), (29, false), (30, false), (34, false), (35, false), (36, false), (50, false), (84, true), (90, false)], [(3, 1), (4, 1), (5, 1), (9, 1), (24, 1), (27, 4), (29, 1), (30, 1), (34, 1), (35, 1), (36, 1), (50, 1), (52, 1), (63, 2), (84, 2), (86, 6)]⟩, ⟨[(3, [.v (.int .i64 0)]), (4, [.v (.bool false)]), (5, [.v (.int .u8 0)]), (27, [.v (.int .u8 0), .v (.int .i64 0), .v (.int .i64 0), .v (.int .i64 0)]), (29, [.v (.pointer none)]), (30, [.v (.int .i64 0)]), (35, [.v (.slice none 0 0)]), (54, [.v (.slice none 0 0), .v (.int .u8 0), .v (.int .i64 0), .v (.int .i64 0), .v (.int .i64 0), .v (.map none)]), (63, [.v (.bool false), .v (.slice none 0 0)]), (84, [.v (.int .i64 0), .v (.int .i64 0)]), (86, [.v (.int .i64 0), .v (.int .i64 0), .v (.int .i64 0), .v (.int .i64 0), .v (.int .i64 0), .v (.int .i64 0)])]⟩, ⟨[], [], [5, 8, 9, 10, 11, 12, 13, 14, 15, 16, 17, 18, 19, 20, 21, 22, 23, 24, 25, 26, 27, 28, 29, 30, 31, 32, 34, 35, 36, 37, 38, 39, 40, 44, 45]⟩, ⟨[(5, (1, 1, [.v (.int .u8 0)])), (35, (1, 24, [.v (.slice none 0 0)])), (63, (2, 32, [.v (.bool false), .v (.slice none 0 0)]))]⟩, []⟩
theorem tbOk : TBOk Try.prog tb :=
 ⟨⟨⟨Try.runUnderlying5, Try.runUnderlying9, Try.runUnderlying20, Try.runUnderlying27, Try.runUnderlying29, Try.runUnderlying30, Try.runUnderlying34, Try.runUnderlying35, Try.runUnderlying38, Try.runUnderlying44, Try.runUnderlying50, Try.runUnderlying52, Try.runUnderlying54, Try.runUnderlying55, Try.runUnderlying63, Try.runUnderlying73, Try.runUnderlying84, Try.runUnderlying86, trivial⟩, ⟨Try.isAgg3, Try.isAgg4, Try.isAgg5, Try.isAgg9, Try.isAgg24, Try.isAgg27, Try.isAgg29, Try.isAgg30, Try.isAgg34, Try.isAgg35, Try.isAgg36, Try.isAgg50, Try.isAgg84, Try.isAgg90, trivial⟩, ⟨Try.sizeOf3, Try.sizeOf4, Try.sizeOf5, Try.sizeOf9, Try.sizeOf24, Try.sizeOf27, Try.sizeOf29, Try.sizeOf30, Try.sizeOf34, Try.sizeOf35, Try.sizeOf36, Try.sizeOf50, Try.sizeOf52, Try.sizeOf63, Try.sizeOf84, Try.sizeOf86, trivial⟩⟩, ⟨⟨⟨_, _, Try.zeroValue3, rfl, rfl⟩, ⟨_, _, Try.zeroValue4, rfl, rfl⟩, ⟨_, _, Try.zeroValue5, rfl, rfl⟩, ⟨_, _, Try.zeroValue27, rfl, rfl⟩, ⟨_, _, Try.zeroValue29, rfl, rfl⟩, ⟨_, _, Try.zeroValue30, rfl, rfl⟩, ⟨_, _, Try.zeroValue35, rfl, rfl⟩, ⟨_, _, Try.zeroValue54, rfl, rfl⟩, ⟨_, _, Try.zeroValue63, rfl, rfl⟩, ⟨_, _, Try.zeroValue84, rfl, rfl⟩, ⟨_, _, Try.zeroValue86, rfl, rfl⟩, trivial⟩⟩, ⟨trivial, trivial, ⟨Try.call5, Try.call8, Try.call9, Try.call10, Try.call11, Try.call12, Try.call13, Try.call14, Try.call15, Try.call16, Try.call17, Try.call18, Try.call19, Try.call20, Try.call21, Try.call22, Try.call23, Try.call24, Try.call25, Try.call26, Try.call27, Try.call28, Try.call29, Try.call30, Try.call31, Try.call32, Try.call34, Try.call35, Try.call36, Try.call37, Try.call38, Try.call39, Try.call40, Try.call44, Try.call45, trivial⟩⟩, ⟨⟨⟨_, _, _, Try.typeInfo5, rfl, rfl, rfl, rfl, rfl, rfl⟩, ⟨_, _, _, Try.typeInfo35, rfl, rfl, rfl, rfl, rfl, rfl⟩, ⟨_, _, _, Try.typeInfo63, rfl, rfl, rfl, rfl, rfl, rfl⟩, trivial⟩⟩⟩
theorem hmix : Try.prog.follows .mixedOrders = true := by kernel_rfl
def fn37 (p0 : S_kinds_bound_int_) (p1 : Int) : Bool :=
 (decide (p0.flo ≤ p1)) && (decide (p1 ≤ p0.fhi))
theorem c37 (p0 : S_kinds_bound_int_) (p1 : Int) (r : Bool) (h : fn37 p0 p1 = r) : Con Try.prog 37 [.ag [.v (.int .i64 p0.flo), .v (.int .i64 p0.fhi)], .v (.int .i64 p1)] [] 0 (.v (.bool r)) [] 0 := by
 rw [fn37] at h
 refine Con.of_body Try.func37 rfl Try.ntmps37 rfl fun w F0 ρ => ?_
 refine RU tbOk false 999 13 [] aN (by rfl) ?_
 subst h
 exact RT tbOk.t Try.results37 [] (by rfl) (by rfl) (by rfl) rfl rfl
def fn18 (p0 : MSpec) : Int :=
 bif !(mhas (mput (mput (mput (mput (mput (mput (mput (mput ([] : List (Int × S_kinds_makes)) (1 : Int) (⟨(⟨4, 4⟩ : S_kinds_bound_int_), (⟨1, 1024⟩ : S_kinds_bound_int_), (⟨1, 1024⟩ : S_kinds_bound_int_)⟩ : S_kinds_makes)) (2 : Int) (⟨(⟨1, 64⟩ : S_kinds_bound_int_), (⟨1, 1024⟩ : S_kinds_bound_int_), (⟨1, 1024⟩ : S_kinds_bound_int_)⟩ : S_kinds_makes)) (3 : Int) (⟨(⟨1, 64⟩ : S_kinds_bound_int_), (⟨1, 1024⟩ : S_kinds_bound_int_), (⟨1, 1024⟩ : S_kinds_bound_int_)⟩ : S_kinds_makes)) (4 : Int) (⟨(⟨5, 36⟩ : S_kinds_bound_int_), (⟨1, 1024⟩ : S_kinds_bound_int_), (⟨1, 1024⟩ : S_kinds_bound_int_)⟩ : S_kinds_makes)) (5 : Int) (⟨(⟨0, 0⟩ : S_kinds_bound_int_), (⟨1, 1024⟩ : S_kinds_bound_int_), (⟨1, 1024⟩ : S_kinds_bound_int_)⟩ : S_kinds_makes)) (6 : Int) (⟨(⟨0, 0⟩ : S_kinds_bound_int_), (⟨1, 1024⟩ : S_kinds_bound_int_), (⟨1, 1024⟩ : S_kinds_bound_int_)⟩ : S_kinds_makes)) (7 : Int) (⟨(⟨0, 0⟩ : S_kinds_bound_int_), (⟨0, 0⟩ : S_kinds_bound_int_), (⟨16, 16384⟩ : S_kinds_bound_int_)⟩ : S_kinds_makes)) (8 : Int) (⟨(⟨4, 4⟩ : S_kinds_bound_int_), (⟨8, 8⟩ : S_kinds_bound_int_), (⟨1, 64⟩ : S_kinds_bound_int_)⟩ : S_kinds_makes)) p0.fKind) then (9) else (bif !(fn37 ((mget (mput (mput (mput (mput (mput (mput (mput (mput ([] : List (Int × S_kinds_makes)) (1 : Int) (⟨(⟨4, 4⟩ : S_kinds_bound_int_), (⟨1, 1024⟩ : S_kinds_bound_int_), (⟨1, 1024⟩ : S_kinds_bound_int_)⟩ : S_kinds_makes)) (2 : Int) (⟨(⟨1, 64⟩ : S_kinds_bound_int_), (⟨1, 1024⟩ : S_kinds_bound_int_), (⟨1, 1024⟩ : S_kinds_bound_int_)⟩ : S_kinds_makes)) (3 : Int) (⟨(⟨1, 64⟩ : S_kinds_bound_int_), (⟨1, 1024⟩ : S_kinds_bound_int_), (⟨1, 1024⟩ : S_kinds_bound_int_)⟩ : S_kinds_makes)) (4 : Int) (⟨(⟨5, 36⟩ : S_kinds_bound_int_), (⟨1, 1024⟩ : S_kinds_bound_int_), (⟨1, 1024⟩ : S_kinds_bound_int_)⟩ : S_kinds_makes)) (5 : Int) (⟨(⟨0, 0⟩ : S_kinds_bound_int_), (⟨1, 1024⟩ : S_kinds_bound_int_), (⟨1, 1024⟩ : S_kinds_bound_int_)⟩ : S_kinds_makes)) (6 : Int) (⟨(⟨0, 0⟩ : S_kinds_bound_int_), (⟨1, 1024⟩ : S_kinds_bound_int_), (⟨1, 1024⟩ : S_kinds_bound_int_)⟩ : S_kinds_makes)) (7 : Int) (⟨(⟨0, 0⟩ : S_kinds_bound_int_), (⟨0, 0⟩ : S_kinds_bound_int_), (⟨16, 16384⟩ : S_kinds_bound_int_)⟩ : S_kinds_makes)) (8 : Int) (⟨(⟨4, 4⟩ : S_kinds_bound_int_), (⟨8, 8⟩ : S_kinds_bound_int_), (⟨1, 64⟩ : S_kinds_bound_int_)⟩ : S_kinds_makes)) p0.fKind (⟨(⟨0, 0⟩ : S_kinds_bound_int_), (⟨0, 0⟩ : S_kinds_bound_int_), (⟨0, 0⟩ : S_kinds_bound_int_)⟩ : S_kinds_makes)).fkey) p0.fKey) then (2) else (bif !(fn37 ((mget (mput (mput (mput (mput (mput (mput (mput (mput ([] : List (Int × S_kinds_makes)) (1 : Int) (⟨(⟨4, 4⟩ : S_kinds_bound_int_), (⟨1, 1024⟩ : S_kinds_bound_int_), (⟨1, 1024⟩ : S_kinds_bound_int_)⟩ : S_kinds_makes)) (2 : Int) (⟨(⟨1, 64⟩ : S_kinds_bound_int_), (⟨1, 1024⟩ : S_kinds_bound_int_), (⟨1, 1024⟩ : S_kinds_bound_int_)⟩ : S_kinds_makes)) (3 : Int) (⟨(⟨1, 64⟩ : S_kinds_bound_int_), (⟨1, 1024⟩ : S_kinds_bound_int_), (⟨1, 1024⟩ : S_kinds_bound_int_)⟩ : S_kinds_makes)) (4 : Int) (⟨(⟨5, 36⟩ : S_kinds_bound_int_), (⟨1, 1024⟩ : S_kinds_bound_int_), (⟨1, 1024⟩ : S_kinds_bound_int_)⟩ : S_kinds_makes)) (5 : Int) (⟨(⟨0, 0⟩ : S_kinds_bound_int_), (⟨1, 1024⟩ : S_kinds_bound_int_), (⟨1, 1024⟩ : S_kinds_bound_int_)⟩ : S_kinds_makes)) (6 : Int) (⟨(⟨0, 0⟩ : S_kinds_bound_int_), (⟨1, 1024⟩ : S_kinds_bound_int_), (⟨1, 1024⟩ : S_kinds_bound_int_)⟩ : S_kinds_makes)) (7 : Int) (⟨(⟨0, 0⟩ : S_kinds_bound_int_), (⟨0, 0⟩ : S_kinds_bound_int_), (⟨16, 16384⟩ : S_kinds_bound_int_)⟩ : S_kinds_makes)) (8 : Int) (⟨(⟨4, 4⟩ : S_kinds_bound_int_), (⟨8, 8⟩ : S_kinds_bound_int_), (⟨1, 64⟩ : S_kinds_bound_int_)⟩ : S_kinds_makes)) p0.fKind (⟨(⟨0, 0⟩ : S_kinds_bound_int_), (⟨0, 0⟩ : S_kinds_bound_int_), (⟨0, 0⟩ : S_kinds_bound_int_)⟩ : S_kinds_makes)).fvalue) p0.fValue) then (2) else (bif !(fn37 ((mget (mput (mput (mput (mput (mput (mput (mput (mput ([] : List (Int × S_kinds_makes)) (1 : Int) (⟨(⟨4, 4⟩ : S_kinds_bound_int_), (⟨1, 1024⟩ : S_kinds_bound_int_), (⟨1, 1024⟩ : S_kinds_bound_int_)⟩ : S_kinds_makes)) (2 : Int) (⟨(⟨1, 64⟩ : S_kinds_bound_int_), (⟨1, 1024⟩ : S_kinds_bound_int_), (⟨1, 1024⟩ : S_kinds_bound_int_)⟩ : S_kinds_makes)) (3 : Int) (⟨(⟨1, 64⟩ : S_kinds_bound_int_), (⟨1, 1024⟩ : S_kinds_bound_int_), (⟨1, 1024⟩ : S_kinds_bound_int_)⟩ : S_kinds_makes)) (4 : Int) (⟨(⟨5, 36⟩ : S_kinds_bound_int_), (⟨1, 1024⟩ : S_kinds_bound_int_), (⟨1, 1024⟩ : S_kinds_bound_int_)⟩ : S_kinds_makes)) (5 : Int) (⟨(⟨0, 0⟩ : S_kinds_bound_int_), (⟨1, 1024⟩ : S_kinds_bound_int_), (⟨1, 1024⟩ : S_kinds_bound_int_)⟩ : S_kinds_makes)) (6 : Int) (⟨(⟨0, 0⟩ : S_kinds_bound_int_), (⟨1, 1024⟩ : S_kinds_bound_int_), (⟨1, 1024⟩ : S_kinds_bound_int_)⟩ : S_kinds_makes)) (7 : Int) (⟨(⟨0, 0⟩ : S_kinds_bound_int_), (⟨0, 0⟩ : S_kinds_bound_int_), (⟨16, 16384⟩ : S_kinds_bound_int_)⟩ : S_kinds_makes)) (8 : Int) (⟨(⟨4, 4⟩ : S_kinds_bound_int_), (⟨8, 8⟩ : S_kinds_bound_int_), (⟨1, 64⟩ : S_kinds_bound_int_)⟩ : S_kinds_makes)) p0.fKind (⟨(⟨0, 0⟩ : S_kinds_bound_int_), (⟨0, 0⟩ : S_kinds_bound_int_), (⟨0, 0⟩ : S_kinds_bound_int_)⟩ : S_kinds_makes)).fentries) p0.fEntries) then (2) else (0))))
theorem c18 (p0 : MSpec) (r : Int) (h : fn18 p0 = r) : Con Try.prog 18 [.ag [.v (.int .u8 p0.fKind), .v (.int .i64 p0.fKey), .v (.int .i64 p0.fValue), .v (.int .i64 p0.fEntries)]] [] 0 (.v (.int .i64 r)) [] 0 := by
 rw [fn18] at h
 refine Con.of_body Try.func18 rfl Try.ntmps18 rfl fun w F0 ρ => ?_
 refine RU tbOk false 999 65 [.mm (Kn.int .u8) (Vn.ag S_kinds_makes.E), .mu (Kn.int .u8) (Vn.ag S_kinds_makes.E) _ (1 : Int) (⟨(⟨4, 4⟩ : S_kinds_bound_int_), (⟨1, 1024⟩ : S_kinds_bound_int_), (⟨1, 1024⟩ : S_kinds_bound_int_)⟩ : S_kinds_makes) Try.runUnderlying88 Try.runUnderlying24, .mu (Kn.int .u8) (Vn.ag S_kinds_makes.E) _ (2 : Int) (⟨(⟨1, 64⟩ : S_kinds_bound_int_), (⟨1, 1024⟩ : S_kinds_bound_int_), (⟨1, 1024⟩ : S_kinds_bound_int_)⟩ : S_kinds_makes) Try.runUnderlying88 Try.runUnderlying24, .mu (Kn.int .u8) (Vn.ag S_kinds_makes.E) _ (3 : Int) (⟨(⟨1, 64⟩ : S_kinds_bound_int_), (⟨1, 1024⟩ : S_kinds_bound_int_), (⟨1, 1024⟩ : S_kinds_bound_int_)⟩ : S_kinds_makes) Try.runUnderlying88 Try.runUnderlying24, .mu (Kn.int .u8) (Vn.ag S_kinds_makes.E) _ (4 : Int) (⟨(⟨5, 36⟩ : S_kinds_bound_int_), (⟨1, 1024⟩ : S_kinds_bound_int_), (⟨1, 1024⟩ : S_kinds_bound_int_)⟩ : S_kinds_makes) Try.runUnderlying88 Try.runUnderlying24, .mu (Kn.int .u8) (Vn.ag S_kinds_makes.E) _ (5 : Int) (⟨(⟨0, 0⟩ : S_kinds_bound_int_), (⟨1, 1024⟩ : S_kinds_bound_int_), (⟨1, 1024⟩ : S_kinds_bound_int_)⟩ : S_kinds_makes) Try.runUnderlying88 Try.runUnderlying24, .mu (Kn.int .u8) (Vn.ag S_kinds_makes.E) _ (6 : Int) (⟨(⟨0, 0⟩ : S_kinds_bound_int_), (⟨1, 1024⟩ : S_kinds_bound_int_), (⟨1, 1024⟩ : S_kinds_bound_int_)⟩ : S_kinds_makes) Try.runUnderlying88 Try.runUnderlying24, .mu (Kn.int .u8) (Vn.ag S_kinds_makes.E) _ (7 : Int) (⟨(⟨0, 0⟩ : S_kinds_bound_int_), (⟨0, 0⟩ : S_kinds_bound_int_), (⟨16, 16384⟩ : S_kinds_bound_int_)⟩ : S_kinds_makes) Try.runUnderlying88 Try.runUnderlying24, .mu (Kn.int .u8) (Vn.ag S_kinds_makes.E) _ (8 : Int) (⟨(⟨4, 4⟩ : S_kinds_bound_int_), (⟨8, 8⟩ : S_kinds_bound_int_), (⟨1, 64⟩ : S_kinds_bound_int_)⟩ : S_kinds_makes) Try.runUnderlying88 Try.runUnderlying24, .lo (Kn.int .u8) (Vn.ag S_kinds_makes.E) _ p0.fKind (⟨(⟨0, 0⟩ : S_kinds_bound_int_), (⟨0, 0⟩ : S_kinds_bound_int_), (⟨0, 0⟩ : S_kinds_bound_int_)⟩ : S_kinds_makes) Try.runUnderlying88 Try.runUnderlying24 Try.zeroValue86] (aR (aR (aR (aR (aR (aR (aR (aR (aR (aR (aR (aR (aR (aR (aR (aR (aR (aR (aR (aR (aR (aR (aR (aR (aR (aR aN)))))))))))))))))))))))))) (by rfl) ?_
 refine CD h (by rfl) (fun h hb1 => ?_) (fun h hb1 => ?_)
 ·refine RU tbOk false 999 1 [] aN (by rfl) ?_
  subst h
  exact RT tbOk.t Try.results18 [] (by rfl) (by rfl) (by rfl) rfl rfl
 ·refine RU tbOk false 999 5 [.cl true [] (fun _ => c37 ((mget (mput (mput (mput (mput (mput (mput (mput (mput ([] : List (Int × S_kinds_makes)) (1 : Int) (⟨(⟨4, 4⟩ : S_kinds_bound_int_), (⟨1, 1024⟩ : S_kinds_bound_int_), (⟨1, 1024⟩ : S_kinds_bound_int_)⟩ : S_kinds_makes)) (2 : Int) (⟨(⟨1, 64⟩ : S_kinds_bound_int_), (⟨1, 1024⟩ : S_kinds_bound_int_), (⟨1, 1024⟩ : S_kinds_bound_int_)⟩ : S_kinds_makes)) (3 : Int) (⟨(⟨1, 64⟩ : S_kinds_bound_int_), (⟨1, 1024⟩ : S_kinds_bound_int_), (⟨1, 1024⟩ : S_kinds_bound_int_)⟩ : S_kinds_makes)) (4 : Int) (⟨(⟨5, 36⟩ : S_kinds_bound_int_), (⟨1, 1024⟩ : S_kinds_bound_int_), (⟨1, 1024⟩ : S_kinds_bound_int_)⟩ : S_kinds_makes)) (5 : Int) (⟨(⟨0, 0⟩ : S_kinds_bound_int_), (⟨1, 1024⟩ : S_kinds_bound_int_), (⟨1, 1024⟩ : S_kinds_bound_int_)⟩ : S_kinds_makes)) (6 : Int) (⟨(⟨0, 0⟩ : S_kinds_bound_int_), (⟨1, 1024⟩ : S_kinds_bound_int_), (⟨1, 1024⟩ : S_kinds_bound_int_)⟩ : S_kinds_makes)) (7 : Int) (⟨(⟨0, 0⟩ : S_kinds_bound_int_), (⟨0, 0⟩ : S_kinds_bound_int_), (⟨16, 16384⟩ : S_kinds_bound_int_)⟩ : S_kinds_makes)) (8 : Int) (⟨(⟨4, 4⟩ : S_kinds_bound_int_), (⟨8, 8⟩ : S_kinds_bound_int_), (⟨1, 64⟩ : S_kinds_bound_int_)⟩ : S_kinds_makes)) p0.fKind (⟨(⟨0, 0⟩ : S_kinds_bound_int_), (⟨0, 0⟩ : S_kinds_bound_int_), (⟨0, 0⟩ : S_kinds_bound_int_)⟩ : S_kinds_makes)).fkey) p0.fKey _ rfl)] (aK aN) (by rfl) ?_
  refine RU tbOk false 999 2 [] aN (by rfl) ?_
  refine CD h (by rfl) (fun h hb2 => ?_) (fun h hb2 => ?_)
  ·refine RU tbOk false 999 0 [] aN (by rfl) ?_
   refine CDT hb2 (by rfl) ?_
   refine RU tbOk false 999 1 [] aN (by rfl) ?_
   subst h
   exact RT tbOk.t Try.results18 [] (by rfl) (by rfl) (by rfl) rfl rfl
  ·refine RU tbOk false 999 5 [.cl true [] (fun _ => c37 ((mget (mput (mput (mput (mput (mput (mput (mput (mput ([] : List (Int × S_kinds_makes)) (1 : Int) (⟨(⟨4, 4⟩ : S_kinds_bound_int_), (⟨1, 1024⟩ : S_kinds_bound_int_), (⟨1, 1024⟩ : S_kinds_bound_int_)⟩ : S_kinds_makes)) (2 : Int) (⟨(⟨1, 64⟩ : S_kinds_bound_int_), (⟨1, 1024⟩ : S_kinds_bound_int_), (⟨1, 1024⟩ : S_kinds_bound_int_)⟩ : S_kinds_makes)) (3 : Int) (⟨(⟨1, 64⟩ : S_kinds_bound_int_), (⟨1, 1024⟩ : S_kinds_bound_int_), (⟨1, 1024⟩ : S_kinds_bound_int_)⟩ : S_kinds_makes)) (4 : Int) (⟨(⟨5, 36⟩ : S_kinds_bound_int_), (⟨1, 1024⟩ : S_kinds_bound_int_), (⟨1, 1024⟩ : S_kinds_bound_int_)⟩ : S_kinds_makes)) (5 : Int) (⟨(⟨0, 0⟩ : S_kinds_bound_int_), (⟨1, 1024⟩ : S_kinds_bound_int_), (⟨1, 1024⟩ : S_kinds_bound_int_)⟩ : S_kinds_makes)) (6 : Int) (⟨(⟨0, 0⟩ : S_kinds_bound_int_), (⟨1, 1024⟩ : S_kinds_bound_int_), (⟨1, 1024⟩ : S_kinds_bound_int_)⟩ : S_kinds_makes)) (7 : Int) (⟨(⟨0, 0⟩ : S_kinds_bound_int_), (⟨0, 0⟩ : S_kinds_bound_int_), (⟨16, 16384⟩ : S_kinds_bound_int_)⟩ : S_kinds_makes)) (8 : Int) (⟨(⟨4, 4⟩ : S_kinds_bound_int_), (⟨8, 8⟩ : S_kinds_bound_int_), (⟨1, 64⟩ : S_kinds_bound_int_)⟩ : S_kinds_makes)) p0.fKind (⟨(⟨0, 0⟩ : S_kinds_bound_int_), (⟨0, 0⟩ : S_kinds_bound_int_), (⟨0, 0⟩ : S_kinds_bound_int_)⟩ : S_kinds_makes)).fvalue) p0.fValue _ rfl)] (aK aN) (by rfl) ?_
   refine RU tbOk false 999 2 [] aN (by rfl) ?_
   refine CD h (by rfl) (fun h hb3 => ?_) (fun h hb3 => ?_)
   ·refine RU tbOk false 999 0 [] aN (by rfl) ?_
    refine CDT hb3 (by rfl) ?_
    refine RU tbOk false 999 1 [] aN (by rfl) ?_
    subst h
    exact RT tbOk.t Try.results18 [] (by rfl) (by rfl) (by rfl) rfl rfl
   ·refine RU tbOk false 999 5 [.cl true [] (fun _ => c37 ((mget (mput (mput (mput (mput (mput (mput (mput (mput ([] : List (Int × S_kinds_makes)) (1 : Int) (⟨(⟨4, 4⟩ : S_kinds_bound_int_), (⟨1, 1024⟩ : S_kinds_bound_int_), (⟨1, 1024⟩ : S_kinds_bound_int_)⟩ : S_kinds_makes)) (2 : Int) (⟨(⟨1, 64⟩ : S_kinds_bound_int_), (⟨1, 1024⟩ : S_kinds_bound_int_), (⟨1, 1024⟩ : S_kinds_bound_int_)⟩ : S_kinds_makes)) (3 : Int) (⟨(⟨1, 64⟩ : S_kinds_bound_int_), (⟨1, 1024⟩ : S_kinds_bound_int_), (⟨1, 1024⟩ : S_kinds_bound_int_)⟩ : S_kinds_makes)) (4 : Int) (⟨(⟨5, 36⟩ : S_kinds_bound_int_), (⟨1, 1024⟩ : S_kinds_bound_int_), (⟨1, 1024⟩ : S_kinds_bound_int_)⟩ : S_kinds_makes)) (5 : Int) (⟨(⟨0, 0⟩ : S_kinds_bound_int_), (⟨1, 1024⟩ : S_kinds_bound_int_), (⟨1, 1024⟩ : S_kinds_bound_int_)⟩ : S_kinds_makes)) (6 : Int) (⟨(⟨0, 0⟩ : S_kinds_bound_int_), (⟨1, 1024⟩ : S_kinds_bound_int_), (⟨1, 1024⟩ : S_kinds_bound_int_)⟩ : S_kinds_makes)) (7 : Int) (⟨(⟨0, 0⟩ : S_kinds_bound_int_), (⟨0, 0⟩ : S_kinds_bound_int_), (⟨16, 16384⟩ : S_kinds_bound_int_)⟩ : S_kinds_makes)) (8 : Int) (⟨(⟨4, 4⟩ : S_kinds_bound_int_), (⟨8, 8⟩ : S_kinds_bound_int_), (⟨1, 64⟩ : S_kinds_bound_int_)⟩ : S_kinds_makes)) p0.fKind (⟨(⟨0, 0⟩ : S_kinds_bound_int_), (⟨0, 0⟩ : S_kinds_bound_int_), (⟨0, 0⟩ : S_kinds_bound_int_)⟩ : S_kinds_makes)).fentries) p0.fEntries _ rfl)] (aK aN) (by rfl) ?_
    refine RU tbOk false 999 2 [] aN (by rfl) ?_
    refine CD h (by rfl) (fun h hb4 => ?_) (fun h hb4 => ?_)
    ·refine RU tbOk false 999 1 [] aN (by rfl) ?_
     subst h
     exact RT tbOk.t Try.results18 [] (by rfl) (by rfl) (by rfl) rfl rfl
    ·refine RU tbOk false 999 1 [] aN (by rfl) ?_
     subst h
     exact RT tbOk.t Try.results18 [] (by rfl) (by rfl) (by rfl) rfl rfl
def fn19 (p0 : Bool) (p1 : Int) : Option (Int ⊕ Unit) :=
 bif !p0 then (some ((.inl p1))) else (some ((.inr ())))
theorem c19 (p0 : Bool) (p1 : Int) (r : Int ⊕ Unit) (h : fn19 p0 p1 = some r) : ConO Try.prog 19 [.v (.bool p0), .v (.int .i64 p1)] [] 0 (match r with | .inl r => .pan (.iface 30 (.int .i64 r)) [] 0 | .inr r => .ret (.tu []) [] 0) := by
 rw [fn19] at h
 refine ConO.of_body Try.func19 Try.ntmps19 fun w F0 ρ => ?_
 refine RU tbOk false 999 2 [] aN (by rfl) ?_
 refine CD h (by rfl) (fun h hb1 => ?_) (fun h hb1 => ?_)
 ·refine RU tbOk false 999 2 [.mi] aN (by rfl) ?_
  refine PX_ ?_
  refine RU tbOk false 999 0 [] aN (by rfl) ?_
  have hr := Option.some.inj h
  subst hr
  exact TP_ []
 ·refine RU tbOk false 999 0 [] aN (by rfl) ?_
  have hr := Option.some.inj h
  subst hr
  exact TNO_ tbOk.t Try.results19 []
theorem c19_0 (p0 : Bool) (p1 : Int) (r : Int) (h : fn19 p0 p1 = some (.inl r)) : ConX Try.prog 19 [.v (.bool p0), .v (.int .i64 p1)] [] 0 (.iface 30 (.int .i64 r)) [] 0 := c19 p0 p1 _ h
theorem c19_1 (p0 : Bool) (p1 : Int) (r : Unit) (h : fn19 p0 p1 = some (.inr r)) : Con Try.prog 19 [.v (.bool p0), .v (.int .i64 p1)] [] 0 (.tu []) [] 0 := c19 p0 p1 _ h
def fn17_b1 (p0 : MSpec) (rl1 : (List HCell) → Int → Option ((List HCell))) (xs12 : List HCell) (x13 : Int) : Option ((List HCell)) :=
 bif decide (x13 < p0.fEntries) then (bif decide ((0 : Int) ≤ p0.fValue) && decide (p0.fValue ≤ p0.fValue) && decide ((1 : Int) * p0.fValue ≤ 281474976710656) && decide (p0.fValue ≤ 9223372036854775807) then (bif decide ((xs12.length + 1) * 32 ≤ 140737488355328 ∧ xs12.length + 1 ≤ 9223372036854775807) then (rl1 (xs12 ++ [(⟨false, List.replicate p0.fValue.toNat 0⟩ : HCell)]) (IntKind.i64.wrap (x13 + 1))) else none) else none) else (some xs12)
def fn17_l1 (p0 : MSpec) : Nat → (List HCell) → Int → Option ((List HCell))
 | 0, _, _ => none
 | n20 + 1, xs12, x13 => fn17_b1 p0 (fn17_l1 p0 n20) xs12 x13
theorem fn17_l1_s (p0 : MSpec) (n20 : Nat) (xs12 : List HCell) (x13 : Int) : fn17_l1 p0 (n20 + 1) xs12 x13 = fn17_b1 p0 (fn17_l1 p0 n20) xs12 x13 := rfl
def fn17_k1 (p0 : MSpec) (xs17 : List HCell) : Option ((Int ⊕ ((List HCell) × Int × Int × Int × Int × (List (ByteArray × Int))))) :=
 some ((.inr (xs17, p0.fKind, p0.fKey, p0.fValue, p0.fEntries, ([] : List (ByteArray × Int)))))
def fn17 (F : Nat) (p0 : MSpec) : Option (Int ⊕ ((List HCell) × Int × Int × Int × Int × (List (ByteArray × Int)))) :=
 frk2 (fn19 ((fn18 p0) == 0) (fn18 p0)) (fun v1 => some ((.inl v1))) (fun v3 => frk2 (fn19 (p0.fKind == 2) 9) (fun v5 => some ((.inl v5))) (fun v7 => Option.bind (fn17_l1 p0 F ([] : List HCell) 0) fun o18 => (fn17_k1 p0 o18)))
theorem c17 (F : Nat) (p0 : MSpec) (r : Int ⊕ ((List HCell) × Int × Int × Int × Int × (List (ByteArray × Int)))) (h : fn17 F p0 = some r) : ConO Try.prog 17 [.p 0 0] [(0, .cells 27 [.v (.int .u8 p0.fKind), .v (.int .i64 p0.fKey), .v (.int .i64 p0.fValue), .v (.int .i64 p0.fEntries)])] 1 (match r with | .inl r => .pan (.iface 30 (.int .i64 r)) [(0, .cells 27 [.v (.int .u8 p0.fKind), .v (.int .i64 p0.fKey), .v (.int .i64 p0.fValue), .v (.int .i64 p0.fEntries)])] 1 | .inr r => .ret (.p 1 0) [(0, .cells 27 [.v (.int .u8 p0.fKind), .v (.int .i64 p0.fKey), .v (.int .i64 p0.fValue), .v (.int .i64 p0.fEntries)]), (1, .cells 54 [.sl 2, .v (.int .u8 r.2.1), .v (.int .i64 r.2.2.1), .v (.int .i64 r.2.2.2.1), .v (.int .i64 r.2.2.2.2.1), .mp 3]), (2, .ex (pO HCell.D 63 r.1) []), (3, .omap Kn.str (Vn.int .i64) r.2.2.2.2.2)] 4) := by
 rw [fn17] at h
 refine ConO.of_body Try.func17 Try.ntmps17 fun w F0 ρ => ?_
 refine RU tbOk false 999 3 [.cl true [] (fun _ => c18 p0 _ rfl)] (aK aN) (by rfl) ?_
 refine RU tbOk false 999 4 [] aN (by rfl) ?_
 refine fk2 h (fun v1 hv2 h => ?_) (fun v3 hv4 h => ?_)
 ·refine RU tbOk false 999 0 [] aN (by rfl) ?_
  refine CX_ tbOk [] (c19_0 ((fn18 p0) == 0) (fn18 p0) v1 hv2) (aK aN) ?_
  refine RU tbOk false 999 0 [] aN (by rfl) ?_
  have hr := Option.some.inj h
  subst hr
  exact TP_ [0]
 ·refine RU tbOk false 999 1 [.cl true [] (fun _ => c19_1 ((fn18 p0) == 0) (fn18 p0) v3 hv4)] (aK aN) (by rfl) ?_
  refine RU tbOk false 999 3 [] aN (by rfl) ?_
  refine fk2 h (fun v5 hv6 h => ?_) (fun v7 hv8 h => ?_)
  ·refine RU tbOk false 999 0 [] aN (by rfl) ?_
   refine CX_ tbOk [] (c19_0 (p0.fKind == 2) 9 v5 hv6) (aK aN) ?_
   refine RU tbOk false 999 0 [] aN (by rfl) ?_
   have hr := Option.some.inj h
   subst hr
   exact TP_ [0]
  ·refine RU tbOk false 999 1 [.cl true [] (fun _ => c19_1 (p0.fKind == 2) 9 v7 hv8)] (aK aN) (by rfl) ?_
   refine RU tbOk false 999 8 [.mm Kn.str (Vn.int .i64)] aN (by rfl) ?_
   refine G4.imp (Imp.nilOC HCell.D 63 2 0 (by rfl) (by rfl) (by rfl)) ?_
   obtain ⟨o18, hl19, h⟩ := bd h
   refine CT 0 ⟨[(3, .p 2 0)], [(0, .cells 27 [.v (.int .u8 p0.fKind), .v (.int .i64 p0.fKey), .v (.int .i64 p0.fValue), .v (.int .i64 p0.fEntries)]), (1, .omap Kn.str (Vn.int .i64) ([] : List (ByteArray × Int))), (2, .cells 54 [.sl 3, .v (.int .u8 p0.fKind), .v (.int .i64 p0.fKey), .v (.int .i64 p0.fValue), .v (.int .i64 p0.fEntries), .mp 1]), (3, .ex (pO HCell.D 63 o18) [])], 4⟩ ?_ ?_
   ·have h022 := h
    clear h
    refine G4.imp (Imp.to [0, 1, 2, 3] (by rfl) (by rfl) rfl rfl) (LP (fun (n : Nat) (s : (List HCell) × Int) => fn17_l1 p0 n s.1 s.2) (fun (s : (List HCell) × Int) => ⟨[(0, .p 0 0), (3, .p 2 0), (19, .v (.int .i64 p0.fEntries)), (20, .v (.int .i64 s.2))], [(0, .cells 27 [.v (.int .u8 p0.fKind), .v (.int .i64 p0.fKey), .v (.int .i64 p0.fValue), .v (.int .i64 p0.fEntries)]), (1, .omap Kn.str (Vn.int .i64) ([] : List (ByteArray × Int))), (2, .cells 54 [.sl 3, .v (.int .u8 p0.fKind), .v (.int .i64 p0.fKey), .v (.int .i64 p0.fValue), .v (.int .i64 p0.fEntries), .mp 1]), (3, .ex (pO HCell.D 63 s.1) [])], 4⟩) (fun _ => rfl) (s0 := (([] : List HCell), 0)) hl19 ?_)
    clear hl19
    rintro R23 n20 ⟨xs12, x13⟩ h ih21
    replace h := (fn17_l1_s p0 n20 xs12 x13).symm.trans h
    rw [fn17_b1] at h
    refine RU tbOk false 999 1 [] aN (by rfl) ?_
    refine CD h (by rfl) (fun h hb24 => ?_) (fun h hb24 => ?_)
    ·refine RU tbOk false 999 0 [] aN (by rfl) ?_
     obtain ⟨hk25, h⟩ := ck h
     obtain ⟨hk26, h⟩ := ck h
     refine DR tbOk hmix [] [([], []), ([], []), ([], []), ([], []), ([], []), ([2], []), ([], []), ([0], []), ([], []), ([], []), ([], []), ([3, 4, 5, 6], []), ([], []), ([], []), ([], []), ([2], [2])] [.ms (Et.int .u8) 0, .s1, .ao HCell.D 63 _ (⟨false, []⟩ : HCell) _ _ _ 5 4 _] (aR (aR (aC hk25 (aR (aR (aR (aR (aR (aR (aC hk26 (aR aN))))))))))) (by rfl) ?_
     refine RU tbOk false 999 2 [] aN (by rfl) ?_
     exact ih21 (xs12 ++ [(⟨false, List.replicate p0.fValue.toNat 0⟩ : HCell)], IntKind.i64.wrap (x13 + 1)) h _ _ (Imp.to [0, 1, 2, 7] (by rfl) (by rfl) rfl rfl)
    ·refine RU tbOk false 999 0 [] aN (by rfl) ?_
     have ho := Option.some.inj h
     subst ho
     exact CE (Imp.to [0, 1, 2, 3] (by rfl) (by rfl) rfl rfl)
   ·change fn17_k1 p0 o18 = _ at h
    rw [fn17_k1] at h
    refine RU tbOk false 999 2 [] aN (by rfl) ?_
    have hr := Option.some.inj h
    subst hr
    exact TO_ tbOk.t Try.results17 [0, 2, 3, 1]
theorem c17_0 (F : Nat) (p0 : MSpec) (r : Int) (h : fn17 F p0 = some (.inl r)) : ConX Try.prog 17 [.p 0 0] [(0, .cells 27 [.v (.int .u8 p0.fKind), .v (.int .i64 p0.fKey), .v (.int .i64 p0.fValue), .v (.int .i64 p0.fEntries)])] 1 (.iface 30 (.int .i64 r)) [(0, .cells 27 [.v (.int .u8 p0.fKind), .v (.int .i64 p0.fKey), .v (.int .i64 p0.fValue), .v (.int .i64 p0.fEntries)])] 1 := c17 F p0 _ h
theorem c17_1 (F : Nat) (p0 : MSpec) (r : (List HCell) × Int × Int × Int × Int × (List (ByteArray × Int))) (h : fn17 F p0 = some (.inr r)) : Con Try.prog 17 [.p 0 0] [(0, .cells 27 [.v (.int .u8 p0.fKind), .v (.int .i64 p0.fKey), .v (.int .i64 p0.fValue), .v (.int .i64 p0.fEntries)])] 1 (.p 1 0) [(0, .cells 27 [.v (.int .u8 p0.fKind), .v (.int .i64 p0.fKey), .v (.int .i64 p0.fValue), .v (.int .i64 p0.fEntries)]), (1, .cells 54 [.sl 2, .v (.int .u8 r.2.1), .v (.int .i64 r.2.2.1), .v (.int .i64 r.2.2.2.1), .v (.int .i64 r.2.2.2.2.1), .mp 3]), (2, .ex (pO HCell.D 63 r.1) []), (3, .omap Kn.str (Vn.int .i64) r.2.2.2.2.2)] 4 := c17 F p0 _ h
def fn36 (p0 : Int) (pe : Int) : Int :=
 pe
theorem c36 (p0 : Int) (pe : Int) (r : Int) (h : fn36 p0 pe = r) : ConD Try.prog 36 [.p 0 0, .p 1 0] [(0, .cells 30 [.v (.int .i64 p0)]), (1, .cells 29 [.v (.pointer none)])] 2 (.pan (.iface 30 (.int .i64 pe))) [(0, .cells 30 [.v (.int .i64 r)]), (1, .cells 29 [.v (.pointer none)])] 2 := by
 rw [fn36] at h
 refine ConD.of_body Try.func36 Try.ntmps36 fun w F0 ρ => ?_
 refine RU tbOk false 999 2 [.ni] aN (by rfl) ?_
 refine CDT rfl (by rfl) ?_
 refine RU tbOk false 999 10 [.ta] aN (by rfl) ?_
 refine CDF rfl (by rfl) ?_
 refine RU tbOk false 999 3 [] aN (by rfl) ?_
 subst h
 exact TQN_ Try.results36 [0, 1]
def fn36v1 (p0 : Int) (p1_0_0 : List HCell) (p1_0_1 : Int) (p1_0_2 : Int) (p1_0_3 : Int) (p1_0_4 : Int) (p1_0_5 : List (ByteArray × Int)) : Unit :=
 ()
theorem c36v1 (p0 : Int) (p1_0_0 : List HCell) (p1_0_1 : Int) (p1_0_2 : Int) (p1_0_3 : Int) (p1_0_4 : Int) (p1_0_5 : List (ByteArray × Int)) (r : Unit) (h : fn36v1 p0 p1_0_0 p1_0_1 p1_0_2 p1_0_3 p1_0_4 p1_0_5 = r) : ConD Try.prog 36 [.p 0 0, .p 1 0] [(0, .cells 30 [.v (.int .i64 p0)]), (1, .cells 29 [.p 2 0]), (2, .cells 54 [.sl 3, .v (.int .u8 p1_0_1), .v (.int .i64 p1_0_2), .v (.int .i64 p1_0_3), .v (.int .i64 p1_0_4), .mp 4]), (3, .ex (pO HCell.D 63 p1_0_0) []), (4, .omap Kn.str (Vn.int .i64) p1_0_5)] 5 .ret [(0, .cells 30 [.v (.int .i64 p0)]), (1, .cells 29 [.p 2 0]), (2, .cells 54 [.sl 3, .v (.int .u8 p1_0_1), .v (.int .i64 p1_0_2), .v (.int .i64 p1_0_3), .v (.int .i64 p1_0_4), .mp 4]), (3, .ex (pO HCell.D 63 p1_0_0) []), (4, .omap Kn.str (Vn.int .i64) p1_0_5)] 5 := by
 rw [fn36v1] at h
 refine ConD.of_body Try.func36 Try.ntmps36 fun w F0 ρ => ?_
 refine RU tbOk false 999 2 [.ni] aN (by rfl) ?_
 refine CDF rfl (by rfl) ?_
 refine RU tbOk false 999 0 [] aN (by rfl) ?_
 subst h
 exact TQN_ Try.results36 [0, 1, 2, 3, 4]
def fn16 (F : Nat) (p0c0 : MSpec) : Option (Int ⊕ ((List HCell) × Int × Int × Int × Int × (List (ByteArray × Int)) × Int)) :=
 frk2 (fn17 F p0c0) (fun v2 => some ((.inl (fn36 0 v2)))) (fun v4 => some ((.inr (v4.1, v4.2.1, v4.2.2.1, v4.2.2.2.1, v4.2.2.2.2.1, v4.2.2.2.2.2, 0))))
theorem c16 (F : Nat) (p0c0 : MSpec) (r : Int ⊕ ((List HCell) × Int × Int × Int × Int × (List (ByteArray × Int)) × Int)) (h : fn16 F p0c0 = some r) : ConO Try.prog 16 [.fn (.func 17) [] [.p 0 0]] [(0, .cells 27 [.v (.int .u8 p0c0.fKind), .v (.int .i64 p0c0.fKey), .v (.int .i64 p0c0.fValue), .v (.int .i64 p0c0.fEntries)])] 1 (match r with | .inl r => .ret (.tu [.v (.pointer none), .v (.int .i64 r)]) [(0, .cells 27 [.v (.int .u8 p0c0.fKind), .v (.int .i64 p0c0.fKey), .v (.int .i64 p0c0.fValue), .v (.int .i64 p0c0.fEntries)])] 1 | .inr r => .ret (.tu [.p 1 0, .v (.int .i64 r.2.2.2.2.2.2)]) [(0, .cells 27 [.v (.int .u8 p0c0.fKind), .v (.int .i64 p0c0.fKey), .v (.int .i64 p0c0.fValue), .v (.int .i64 p0c0.fEntries)]), (1, .cells 54 [.sl 2, .v (.int .u8 r.2.1), .v (.int .i64 r.2.2.1), .v (.int .i64 r.2.2.2.1), .v (.int .i64 r.2.2.2.2.1), .mp 3]), (2, .ex (pO HCell.D 63 r.1) []), (3, .omap Kn.str (Vn.int .i64) r.2.2.2.2.2.1)] 4) := by
 rw [fn16] at h
 refine ConO.of_body Try.func16 Try.ntmps16 fun w F0 ρ => ?_
 refine RU tbOk false 999 3 [] aN (by rfl) ?_
 refine DF_ (fun vs1 => ?_)
 refine RU tbOk false 999 1 [] aN (by rfl) ?_
 refine fk2 h (fun v2 hv3 h => ?_) (fun v4 hv5 h => ?_)
 ·refine RU tbOk false 999 0 [] aN (by rfl) ?_
  refine CX_ tbOk [0] (c17_0 F p0c0 v2 hv3) (aK aN) ?_
  refine RU tbOk false 999 0 [] aN (by rfl) ?_
  have hr := Option.some.inj h
  subst hr
  exact TDP_ tbOk Try.results16 3 [2, 1] (c36 0 v2 _ rfl) [0]
 ·refine RU tbOk false 999 1 [.cl true [0] (fun _ => c17_1 F p0c0 v4 hv5)] (aK aN) (by rfl) ?_
  refine RU tbOk false 999 2 [] aN (by rfl) ?_
  have hr := Option.some.inj h
  subst hr
  exact TD_ tbOk Try.results16 3 [2, 1, 4, 5, 6] (c36v1 0 v4.1 v4.2.1 v4.2.2.1 v4.2.2.2.1 v4.2.2.2.2.1 v4.2.2.2.2.2 _ rfl) [0, 4, 5, 6]
theorem c16_0 (F : Nat) (p0c0 : MSpec) (r : Int) (h : fn16 F p0c0 = some (.inl r)) : Con Try.prog 16 [.fn (.func 17) [] [.p 0 0]] [(0, .cells 27 [.v (.int .u8 p0c0.fKind), .v (.int .i64 p0c0.fKey), .v (.int .i64 p0c0.fValue), .v (.int .i64 p0c0.fEntries)])] 1 (.tu [.v (.pointer none), .v (.int .i64 r)]) [(0, .cells 27 [.v (.int .u8 p0c0.fKind), .v (.int .i64 p0c0.fKey), .v (.int .i64 p0c0.fValue), .v (.int .i64 p0c0.fEntries)])] 1 := c16 F p0c0 _ h
theorem c16_1 (F : Nat) (p0c0 : MSpec) (r : (List HCell) × Int × Int × Int × Int × (List (ByteArray × Int)) × Int) (h : fn16 F p0c0 = some (.inr r)) : Con Try.prog 16 [.fn (.func 17) [] [.p 0 0]] [(0, .cells 27 [.v (.int .u8 p0c0.fKind), .v (.int .i64 p0c0.fKey), .v (.int .i64 p0c0.fValue), .v (.int .i64 p0c0.fEntries)])] 1 (.tu [.p 1 0, .v (.int .i64 r.2.2.2.2.2.2)]) [(0, .cells 27 [.v (.int .u8 p0c0.fKind), .v (.int .i64 p0c0.fKey), .v (.int .i64 p0c0.fValue), .v (.int .i64 p0c0.fEntries)]), (1, .cells 54 [.sl 2, .v (.int .u8 r.2.1), .v (.int .i64 r.2.2.1), .v (.int .i64 r.2.2.2.1), .v (.int .i64 r.2.2.2.2.1), .mp 3]), (2, .ex (pO HCell.D 63 r.1) []), (3, .omap Kn.str (Vn.int .i64) r.2.2.2.2.2.1)] 4 := c16 F p0c0 _ h
def fn8 (F : Nat) (p0 : MSpec) : Option (Int ⊕ ((List HCell) × Int × Int × Int × Int × (List (ByteArray × Int)) × Int)) :=
 frk2 (fn16 F p0) (fun v1 => some ((.inl v1))) (fun v3 => some ((.inr (v3.1, v3.2.1, v3.2.2.1, v3.2.2.2.1, v3.2.2.2.2.1, v3.2.2.2.2.2.1, v3.2.2.2.2.2.2))))
theorem c8 (F : Nat) (p0 : MSpec) (r : Int ⊕ ((List HCell) × Int × Int × Int × Int × (List (ByteArray × Int)) × Int)) (h : fn8 F p0 = some r) : ConO Try.prog 8 [.ag [.v (.int .u8 p0.fKind), .v (.int .i64 p0.fKey), .v (.int .i64 p0.fValue), .v (.int .i64 p0.fEntries)]] [] 0 (match r with | .inl r => .ret (.tu [.v (.pointer none), .v (.int .i64 r)]) [] 0 | .inr r => .ret (.tu [.p 0 0, .v (.int .i64 r.2.2.2.2.2.2)]) [(0, .cells 54 [.sl 1, .v (.int .u8 r.2.1), .v (.int .i64 r.2.2.1), .v (.int .i64 r.2.2.2.1), .v (.int .i64 r.2.2.2.2.1), .mp 2]), (1, .ex (pO HCell.D 63 r.1) []), (2, .omap Kn.str (Vn.int .i64) r.2.2.2.2.2.1)] 3) := by
 rw [fn8] at h
 refine ConO.of_body Try.func8 Try.ntmps8 fun w F0 ρ => ?_
 refine RU tbOk false 999 4 [] aN (by rfl) ?_
 refine fk2 h (fun v1 hv2 h => ?_) (fun v3 hv4 h => ?_)
 ·refine RU tbOk false 999 1 [.cl true [0] (fun _ => c16_0 F p0 v1 hv2)] (aK aN) (by rfl) ?_
  refine RU tbOk false 999 4 [] aN (by rfl) ?_
  have hr := Option.some.inj h
  subst hr
  exact TO_ tbOk.t Try.results8 []
 ·refine RU tbOk false 999 1 [.cl true [0] (fun _ => c16_1 F p0 v3 hv4)] (aK aN) (by rfl) ?_
  refine RU tbOk false 999 4 [] aN (by rfl) ?_
  have hr := Option.some.inj h
  subst hr
  exact TO_ tbOk.t Try.results8 [1, 2, 3]
theorem c8_0 (F : Nat) (p0 : MSpec) (r : Int) (h : fn8 F p0 = some (.inl r)) : Con Try.prog 8 [.ag [.v (.int .u8 p0.fKind), .v (.int .i64 p0.fKey), .v (.int .i64 p0.fValue), .v (.int .i64 p0.fEntries)]] [] 0 (.tu [.v (.pointer none), .v (.int .i64 r)]) [] 0 := c8 F p0 _ h
theorem c8_1 (F : Nat) (p0 : MSpec) (r : (List HCell) × Int × Int × Int × Int × (List (ByteArray × Int)) × Int) (h : fn8 F p0 = some (.inr r)) : Con Try.prog 8 [.ag [.v (.int .u8 p0.fKind), .v (.int .i64 p0.fKey), .v (.int .i64 p0.fValue), .v (.int .i64 p0.fEntries)]] [] 0 (.tu [.p 0 0, .v (.int .i64 r.2.2.2.2.2.2)]) [(0, .cells 54 [.sl 1, .v (.int .u8 r.2.1), .v (.int .i64 r.2.2.1), .v (.int .i64 r.2.2.2.1), .v (.int .i64 r.2.2.2.2.1), .mp 2]), (1, .ex (pO HCell.D 63 r.1) []), (2, .omap Kn.str (Vn.int .i64) r.2.2.2.2.2.1)] 3 := c8 F p0 _ h
def fn19v1 (p1 : Int) : Option (Int) :=
 some (p1)
theorem c19v1 (p1 : Int) (r : Int) (h : fn19v1 p1 = some r) : ConO Try.prog 19 [.v (.bool false), .v (.int .i64 p1)] [] 0 (.pan (.iface 30 (.int .i64 r)) [] 0) := by
 rw [fn19v1] at h
 refine ConO.of_body Try.func19 Try.ntmps19 fun w F0 ρ => ?_
 refine RU tbOk false 999 2 [] aN (by rfl) ?_
 refine CDT rfl (by rfl) ?_
 refine RU tbOk false 999 2 [.mi] aN (by rfl) ?_
 refine PX_ ?_
 refine RU tbOk false 999 0 [] aN (by rfl) ?_
 have hr := Option.some.inj h
 subst hr
 exact TP_ []
theorem c19v1_0 (p1 : Int) (r : Int) (h : fn19v1 p1 = some r) : ConX Try.prog 19 [.v (.bool false), .v (.int .i64 p1)] [] 0 (.iface 30 (.int .i64 r)) [] 0 := c19v1 p1 _ h
def fn32 : Option (Int) :=
 frk1 (fn19v1 1) (fun v1 => some (v1))
theorem c32 (r : Int) (h : fn32 = some r) : ConO Try.prog 32 [.v (.pointer none)] [] 0 (.pan (.iface 30 (.int .i64 r)) [] 0) := by
 rw [fn32] at h
 refine ConO.of_body Try.func32 Try.ntmps32 fun w F0 ρ => ?_
 refine RU (tbOk.lit [(3, 4, false)]) false 999 9 [.pn] (aC rfl aN) (by rfl) ?_
 refine fk1 h (fun v1 hv2 h => ?_)
 ·refine RU tbOk false 999 0 [] aN (by rfl) ?_
  refine G4.imp Imp.refl ?_
  refine CX_ tbOk [] (c19v1_0 1 v1 hv2) (aK aN) ?_
  refine RU tbOk false 999 0 [] aN (by rfl) ?_
  have hr := Option.some.inj h
  subst hr
  exact TP_ []
theorem c32_0 (r : Int) (h : fn32 = some r) : ConX Try.prog 32 [.v (.pointer none)] [] 0 (.iface 30 (.int .i64 r)) [] 0 := c32 _ h
def fn22 (p1 : List Int) : Option (Int) :=
 frk1 fn32 (fun v1 => some (v1))
theorem c22 (p1 : List Int) (r : Int) (h : fn22 p1 = some r) : ConO Try.prog 22 [.v (.pointer none), .sl 0] [(0, .rd (Et.int .u8) p1)] 1 (.pan (.iface 30 (.int .i64 r)) [] 1) := by
 rw [fn22] at h
 refine ConO.of_body Try.func22 Try.ntmps22 fun w F0 ρ => ?_
 refine RU tbOk false 999 3 [] aN (by rfl) ?_
 refine fk1 h (fun v1 hv2 h => ?_)
 ·refine RU tbOk false 999 0 [] aN (by rfl) ?_
  refine CX_ tbOk [] (c32_0 v1 hv2) (aK aN) ?_
  refine RU tbOk false 999 0 [] aN (by rfl) ?_
  have hr := Option.some.inj h
  subst hr
  exact TP_ [0]
theorem c22_0 (p1 : List Int) (r : Int) (h : fn22 p1 = some r) : ConX Try.prog 22 [.v (.pointer none), .sl 0] [(0, .rd (Et.int .u8) p1)] 1 (.iface 30 (.int .i64 r)) [] 1 := c22 p1 _ h
def fn25 (p1 : List Int) (p2 : List Int) (p3 : Int) : Option (Int) :=
 frk1 (fn22 p1) (fun v1 => some (v1))
theorem c25 (p1 : List Int) (p2 : List Int) (p3 : Int) (r : Int) (h : fn25 p1 p2 p3 = some r) : ConO Try.prog 25 [.p 0 0, .p 1 0, .p 3 0, .p 5 0] [(0, .cells 29 [.v (.pointer none)]), (1, .cells 35 [.sl 2]), (2, .rd (Et.int .u8) p1), (3, .cells 35 [.sl 4]), (4, .rd (Et.int .u8) p2), (5, .cells 36 [.v (.int .u64 p3)])] 6 (.pan (.iface 30 (.int .i64 r)) [(0, .cells 29 [.v (.pointer none)]), (1, .cells 35 [.sl 2]), (3, .cells 35 [.sl 4]), (5, .cells 36 [.v (.int .u64 p3)])] 6) := by
 rw [fn25] at h
 refine ConO.of_body Try.func25 Try.ntmps25 fun w F0 ρ => ?_
 refine RU tbOk false 999 3 [] aN (by rfl) ?_
 refine fk1 h (fun v1 hv2 h => ?_)
 ·refine RU tbOk false 999 0 [] aN (by rfl) ?_
  refine CX_ tbOk [2] (c22_0 p1 v1 hv2) (aK aN) ?_
  refine RU tbOk false 999 0 [] aN (by rfl) ?_
  have hr := Option.some.inj h
  subst hr
  exact TP_ [0, 1, 2, 3, 4, 5]
theorem c25_0 (p1 : List Int) (p2 : List Int) (p3 : Int) (r : Int) (h : fn25 p1 p2 p3 = some r) : ConX Try.prog 25 [.p 0 0, .p 1 0, .p 3 0, .p 5 0] [(0, .cells 29 [.v (.pointer none)]), (1, .cells 35 [.sl 2]), (2, .rd (Et.int .u8) p1), (3, .cells 35 [.sl 4]), (4, .rd (Et.int .u8) p2), (5, .cells 36 [.v (.int .u64 p3)])] 6 (.iface 30 (.int .i64 r)) [(0, .cells 29 [.v (.pointer none)]), (1, .cells 35 [.sl 2]), (3, .cells 35 [.sl 4]), (5, .cells 36 [.v (.int .u64 p3)])] 6 := c25 p1 p2 p3 _ h
def fn39 (p0 : Int) (p1 : Int) (pe : Int) : Int × Int :=
 (pe, 0)
theorem c39 (p0 : Int) (p1 : Int) (pe : Int) (r : Int × Int) (h : fn39 p0 p1 pe = r) : ConD Try.prog 39 [.p 0 0, .p 1 0] [(0, .cells 30 [.v (.int .i64 p0)]), (1, .cells 3 [.v (.int .i64 p1)])] 2 (.pan (.iface 30 (.int .i64 pe))) [(0, .cells 30 [.v (.int .i64 r.1)]), (1, .cells 3 [.v (.int .i64 r.2)])] 2 := by
 rw [fn39] at h
 refine ConD.of_body Try.func39 Try.ntmps39 fun w F0 ρ => ?_
 refine RU tbOk false 999 2 [.ni] aN (by rfl) ?_
 refine CDT rfl (by rfl) ?_
 refine RU tbOk false 999 10 [.ta] aN (by rfl) ?_
 refine CDF rfl (by rfl) ?_
 refine RU tbOk false 999 3 [] aN (by rfl) ?_
 subst h
 exact TQN_ Try.results39 [0, 1]
def fn24 (p0c1 : List Int) (p0c2 : List Int) (p0c3 : Int) : Option (Int × Int) :=
 frk1 (fn25 p0c1 p0c2 p0c3) (fun v2 => some (((fn39 0 0 v2).2, (fn39 0 0 v2).1)))
theorem c24 (p0c1 : List Int) (p0c2 : List Int) (p0c3 : Int) (r : Int × Int) (h : fn24 p0c1 p0c2 p0c3 = some r) : ConO Try.prog 24 [.fn (.func 25) [] [.p 0 0, .p 1 0, .p 3 0, .p 5 0]] [(0, .cells 29 [.v (.pointer none)]), (1, .cells 35 [.sl 2]), (2, .rd (Et.int .u8) p0c1), (3, .cells 35 [.sl 4]), (4, .rd (Et.int .u8) p0c2), (5, .cells 36 [.v (.int .u64 p0c3)])] 6 (.ret (.tu [.v (.int .i64 r.1), .v (.int .i64 r.2)]) [(0, .cells 29 [.v (.pointer none)]), (1, .cells 35 [.sl 2]), (3, .cells 35 [.sl 4]), (5, .cells 36 [.v (.int .u64 p0c3)])] 6) := by
 rw [fn24] at h
 refine ConO.of_body Try.func24 Try.ntmps24 fun w F0 ρ => ?_
 refine RU tbOk false 999 3 [] aN (by rfl) ?_
 refine DF_ (fun vs1 => ?_)
 refine RU tbOk false 999 1 [] aN (by rfl) ?_
 refine fk1 h (fun v2 hv3 h => ?_)
 ·refine RU tbOk false 999 0 [] aN (by rfl) ?_
  refine CX_ tbOk [0, 1, 2, 3, 4, 5] (c25_0 p0c1 p0c2 p0c3 v2 hv3) (aK aN) ?_
  refine RU tbOk false 999 0 [] aN (by rfl) ?_
  have hr := Option.some.inj h
  subst hr
  exact TDP_ tbOk Try.results24 8 [7, 6] (c39 0 0 v2 _ rfl) [0, 1, 2, 3, 4, 5]
theorem c24_0 (p0c1 : List Int) (p0c2 : List Int) (p0c3 : Int) (r : Int × Int) (h : fn24 p0c1 p0c2 p0c3 = some r) : Con Try.prog 24 [.fn (.func 25) [] [.p 0 0, .p 1 0, .p 3 0, .p 5 0]] [(0, .cells 29 [.v (.pointer none)]), (1, .cells 35 [.sl 2]), (2, .rd (Et.int .u8) p0c1), (3, .cells 35 [.sl 4]), (4, .rd (Et.int .u8) p0c2), (5, .cells 36 [.v (.int .u64 p0c3)])] 6 (.tu [.v (.int .i64 r.1), .v (.int .i64 r.2)]) [(0, .cells 29 [.v (.pointer none)]), (1, .cells 35 [.sl 2]), (3, .cells 35 [.sl 4]), (5, .cells 36 [.v (.int .u64 p0c3)])] 6 := c24 p0c1 p0c2 p0c3 _ h
def fn10 (p1 : List Int) (p2 : List Int) (p3 : Int) : Option (Int) :=
 frk1 (fn24 p1 p2 p3) (fun v1 => some (v1.2))
theorem c10 (p1 : List Int) (p2 : List Int) (p3 : Int) (r : Int) (h : fn10 p1 p2 p3 = some r) : Con Try.prog 10 [.v (.pointer none), .sl 0, .sl 1, .v (.int .u64 p3)] [(0, .rd (Et.int .u8) p1), (1, .rd (Et.int .u8) p2)] 2 (.v (.int .i64 r)) [] 2 := by
 rw [fn10] at h
 refine Con.of_body Try.func10 rfl Try.ntmps10 rfl fun w F0 ρ => ?_
 refine RU tbOk false 999 6 [] aN (by rfl) ?_
 refine fk1 h (fun v1 hv2 h => ?_)
 ·refine RU tbOk false 999 1 [.cl true [2, 3, 0, 4, 1, 5] (fun _ => c24_0 p1 p2 p3 v1 hv2)] (aK aN) (by rfl) ?_
  refine RU tbOk false 999 7 [] aN (by rfl) ?_
  have hr := Option.some.inj h
  subst hr
  exact RT tbOk.t Try.results10 [0, 1] (by rfl) (by rfl) (by rfl) rfl rfl
def fn27 (p1 : List Int) : Option (Int) :=
 frk1 (fn22 p1) (fun v1 => some (v1))
theorem c27 (p1 : List Int) (r : Int) (h : fn27 p1 = some r) : ConO Try.prog 27 [.p 0 0, .p 1 0] [(0, .cells 29 [.v (.pointer none)]), (1, .cells 35 [.sl 2]), (2, .rd (Et.int .u8) p1)] 3 (.pan (.iface 30 (.int .i64 r)) [(0, .cells 29 [.v (.pointer none)]), (1, .cells 35 [.sl 2])] 3) := by
 rw [fn27] at h
 refine ConO.of_body Try.func27 Try.ntmps27 fun w F0 ρ => ?_
 refine RU tbOk false 999 3 [] aN (by rfl) ?_
 refine fk1 h (fun v1 hv2 h => ?_)
 ·refine RU tbOk false 999 0 [] aN (by rfl) ?_
  refine CX_ tbOk [2] (c22_0 p1 v1 hv2) (aK aN) ?_
  refine RU tbOk false 999 0 [] aN (by rfl) ?_
  have hr := Option.some.inj h
  subst hr
  exact TP_ [0, 1, 2]
theorem c27_0 (p1 : List Int) (r : Int) (h : fn27 p1 = some r) : ConX Try.prog 27 [.p 0 0, .p 1 0] [(0, .cells 29 [.v (.pointer none)]), (1, .cells 35 [.sl 2]), (2, .rd (Et.int .u8) p1)] 3 (.iface 30 (.int .i64 r)) [(0, .cells 29 [.v (.pointer none)]), (1, .cells 35 [.sl 2])] 3 := c27 p1 _ h
def fn24v1 (p0c1 : List Int) : Option (Int × Int) :=
 frk1 (fn27 p0c1) (fun v2 => some (((fn39 0 0 v2).2, (fn39 0 0 v2).1)))
theorem c24v1 (p0c1 : List Int) (r : Int × Int) (h : fn24v1 p0c1 = some r) : ConO Try.prog 24 [.fn (.func 27) [] [.p 0 0, .p 1 0]] [(0, .cells 29 [.v (.pointer none)]), (1, .cells 35 [.sl 2]), (2, .rd (Et.int .u8) p0c1)] 3 (.ret (.tu [.v (.int .i64 r.1), .v (.int .i64 r.2)]) [(0, .cells 29 [.v (.pointer none)]), (1, .cells 35 [.sl 2])] 3) := by
 rw [fn24v1] at h
 refine ConO.of_body Try.func24 Try.ntmps24 fun w F0 ρ => ?_
 refine RU tbOk false 999 3 [] aN (by rfl) ?_
 refine DF_ (fun vs1 => ?_)
 refine RU tbOk false 999 1 [] aN (by rfl) ?_
 refine fk1 h (fun v2 hv3 h => ?_)
 ·refine RU tbOk false 999 0 [] aN (by rfl) ?_
  refine CX_ tbOk [0, 1, 2] (c27_0 p0c1 v2 hv3) (aK aN) ?_
  refine RU tbOk false 999 0 [] aN (by rfl) ?_
  have hr := Option.some.inj h
  subst hr
  exact TDP_ tbOk Try.results24 5 [4, 3] (c39 0 0 v2 _ rfl) [0, 1, 2]
theorem c24v1_0 (p0c1 : List Int) (r : Int × Int) (h : fn24v1 p0c1 = some r) : Con Try.prog 24 [.fn (.func 27) [] [.p 0 0, .p 1 0]] [(0, .cells 29 [.v (.pointer none)]), (1, .cells 35 [.sl 2]), (2, .rd (Et.int .u8) p0c1)] 3 (.tu [.v (.int .i64 r.1), .v (.int .i64 r.2)]) [(0, .cells 29 [.v (.pointer none)]), (1, .cells 35 [.sl 2])] 3 := c24v1 p0c1 _ h
def fn11 (p1 : List Int) : Option (Int × Int) :=
 frk1 (fn24v1 p1) (fun v1 => some ((v1.1, v1.2)))
theorem c11 (p1 : List Int) (r : Int × Int) (h : fn11 p1 = some r) : Con Try.prog 11 [.v (.pointer none), .sl 0] [(0, .rd (Et.int .u8) p1)] 1 (.tu [.v (.int .i64 r.1), .v (.int .i64 r.2)]) [] 1 := by
 rw [fn11] at h
 refine Con.of_body Try.func11 rfl Try.ntmps11 rfl fun w F0 ρ => ?_
 refine RU tbOk false 999 5 [] aN (by rfl) ?_
 refine fk1 h (fun v1 hv2 h => ?_)
 ·refine RU tbOk false 999 1 [.cl true [1, 2, 0] (fun _ => c24v1_0 p1 v1 hv2)] (aK aN) (by rfl) ?_
  refine RU tbOk false 999 4 [] aN (by rfl) ?_
  have hr := Option.some.inj h
  subst hr
  exact RT tbOk.t Try.results11 [0] (by rfl) (by rfl) (by rfl) rfl rfl
def fn12 : (List (List Int)) :=
 ([] : List (List Int))
theorem c12 (r : (List (List Int))) (h : fn12 = r) : Con Try.prog 12 [.v (.pointer none)] [] 0 (.sl 0) [(0, .rowL (Et.int .u8) 5 35 r r.length)] 1 := by
 rw [fn12] at h
 refine Con.of_body Try.func12 rfl Try.ntmps12 rfl fun w F0 ρ => ?_
 refine RU tbOk false 999 3 [.pn] aN (by rfl) ?_
 refine CDT rfl (by rfl) ?_
 refine RU tbOk false 999 1 [] aN (by rfl) ?_
 subst h
 refine G4.imp (Imp.nilL (Et.int .u8) 5 35 2 (by rfl)) ?_
 exact RT tbOk.t Try.results12 [0] (by rfl) (by rfl) (by rfl) rfl rfl
def fn21 (p1 : List Int) : Option (Int) :=
 frk1 (fn22 p1) (fun v1 => some (v1))
theorem c21 (p1 : List Int) (r : Int) (h : fn21 p1 = some r) : ConO Try.prog 21 [.p 0 0, .p 1 0] [(0, .cells 29 [.v (.pointer none)]), (1, .cells 35 [.sl 2]), (2, .rd (Et.int .u8) p1)] 3 (.pan (.iface 30 (.int .i64 r)) [(0, .cells 29 [.v (.pointer none)]), (1, .cells 35 [.sl 2])] 3) := by
 rw [fn21] at h
 refine ConO.of_body Try.func21 Try.ntmps21 fun w F0 ρ => ?_
 refine RU tbOk false 999 3 [] aN (by rfl) ?_
 refine fk1 h (fun v1 hv2 h => ?_)
 ·refine RU tbOk false 999 0 [] aN (by rfl) ?_
  refine CX_ tbOk [2] (c22_0 p1 v1 hv2) (aK aN) ?_
  refine RU tbOk false 999 0 [] aN (by rfl) ?_
  have hr := Option.some.inj h
  subst hr
  exact TP_ [0, 1, 2]
theorem c21_0 (p1 : List Int) (r : Int) (h : fn21 p1 = some r) : ConX Try.prog 21 [.p 0 0, .p 1 0] [(0, .cells 29 [.v (.pointer none)]), (1, .cells 35 [.sl 2]), (2, .rd (Et.int .u8) p1)] 3 (.iface 30 (.int .i64 r)) [(0, .cells 29 [.v (.pointer none)]), (1, .cells 35 [.sl 2])] 3 := c21 p1 _ h
def fn38 (p0 : Int) (p1 : Bool) (pe : Int) : Int × Bool :=
 (pe, false)
theorem c38 (p0 : Int) (p1 : Bool) (pe : Int) (r : Int × Bool) (h : fn38 p0 p1 pe = r) : ConD Try.prog 38 [.p 0 0, .p 1 0] [(0, .cells 30 [.v (.int .i64 p0)]), (1, .cells 4 [.v (.bool p1)])] 2 (.pan (.iface 30 (.int .i64 pe))) [(0, .cells 30 [.v (.int .i64 r.1)]), (1, .cells 4 [.v (.bool r.2)])] 2 := by
 rw [fn38] at h
 refine ConD.of_body Try.func38 Try.ntmps38 fun w F0 ρ => ?_
 refine RU tbOk false 999 2 [.ni] aN (by rfl) ?_
 refine CDT rfl (by rfl) ?_
 refine RU tbOk false 999 10 [.ta] aN (by rfl) ?_
 refine CDF rfl (by rfl) ?_
 refine RU tbOk false 999 3 [] aN (by rfl) ?_
 subst h
 exact TQN_ Try.results38 [0, 1]
def fn20 (p0c1 : List Int) : Option (Bool × Int) :=
 frk1 (fn21 p0c1) (fun v2 => some (((fn38 0 false v2).2, (fn38 0 false v2).1)))
theorem c20 (p0c1 : List Int) (r : Bool × Int) (h : fn20 p0c1 = some r) : ConO Try.prog 20 [.fn (.func 21) [] [.p 0 0, .p 1 0]] [(0, .cells 29 [.v (.pointer none)]), (1, .cells 35 [.sl 2]), (2, .rd (Et.int .u8) p0c1)] 3 (.ret (.tu [.v (.bool r.1), .v (.int .i64 r.2)]) [(0, .cells 29 [.v (.pointer none)]), (1, .cells 35 [.sl 2])] 3) := by
 rw [fn20] at h
 refine ConO.of_body Try.func20 Try.ntmps20 fun w F0 ρ => ?_
 refine RU tbOk false 999 3 [] aN (by rfl) ?_
 refine DF_ (fun vs1 => ?_)
 refine RU tbOk false 999 1 [] aN (by rfl) ?_
 refine fk1 h (fun v2 hv3 h => ?_)
 ·refine RU tbOk false 999 0 [] aN (by rfl) ?_
  refine CX_ tbOk [0, 1, 2] (c21_0 p0c1 v2 hv3) (aK aN) ?_
  refine RU tbOk false 999 0 [] aN (by rfl) ?_
  have hr := Option.some.inj h
  subst hr
  exact TDP_ tbOk Try.results20 5 [4, 3] (c38 0 false v2 _ rfl) [0, 1, 2]
theorem c20_0 (p0c1 : List Int) (r : Bool × Int) (h : fn20 p0c1 = some r) : Con Try.prog 20 [.fn (.func 21) [] [.p 0 0, .p 1 0]] [(0, .cells 29 [.v (.pointer none)]), (1, .cells 35 [.sl 2]), (2, .rd (Et.int .u8) p0c1)] 3 (.tu [.v (.bool r.1), .v (.int .i64 r.2)]) [(0, .cells 29 [.v (.pointer none)]), (1, .cells 35 [.sl 2])] 3 := c20 p0c1 _ h
def fn9 (p1 : List Int) : Option (Int) :=
 frk1 (fn20 p1) (fun v1 => some (v1.2))
theorem c9 (p1 : List Int) (r : Int) (h : fn9 p1 = some r) : Con Try.prog 9 [.v (.pointer none), .sl 0] [(0, .rd (Et.int .u8) p1)] 1 (.v (.int .i64 r)) [] 1 := by
 rw [fn9] at h
 refine Con.of_body Try.func9 rfl Try.ntmps9 rfl fun w F0 ρ => ?_
 refine RU tbOk false 999 4 [] aN (by rfl) ?_
 refine fk1 h (fun v1 hv2 h => ?_)
 ·refine RU tbOk false 999 1 [.cl true [1, 2, 0] (fun _ => c20_0 p1 v1 hv2)] (aK aN) (by rfl) ?_
  refine RU tbOk false 999 7 [] aN (by rfl) ?_
  have hr := Option.some.inj h
  subst hr
  exact RT tbOk.t Try.results9 [0] (by rfl) (by rfl) (by rfl) rfl rfl
def fn35_b1 (p0 : List Int) (p1 : List Int) (rl1 : Int → Option ((Unit) ⊕ (Bool))) (x6 : Int) : Option ((Unit) ⊕ (Bool)) :=
 bif decide (x6 < (p0.length : Int)) then (bif inb x6 p0.length then (bif inb x6 p1.length then (bif (gt p0 x6) != (gt p1 x6) then (some (.inr (false))) else (rl1 (IntKind.i64.wrap (x6 + 1)))) else none) else none) else (some (.inl ()))
def fn35_l1 (p0 : List Int) (p1 : List Int) : Nat → Int → Option ((Unit) ⊕ (Bool))
 | 0, _ => none
 | n13 + 1, x6 => fn35_b1 p0 p1 (fn35_l1 p0 p1 n13) x6
theorem fn35_l1_s (p0 : List Int) (p1 : List Int) (n13 : Nat) (x6 : Int) : fn35_l1 p0 p1 (n13 + 1) x6 = fn35_b1 p0 p1 (fn35_l1 p0 p1 n13) x6 := rfl
def fn35_k1 : Option (Bool) :=
 some (true)
def fn35 (F : Nat) (p0 : List Int) (p1 : List Int) : Option (Bool) :=
 bif (p0.length : Int) != (p1.length : Int) then (some (false)) else (Option.bind (fn35_l1 p0 p1 F 0) fun o11 => (match o11 with | .inl u => fn35_k1 | .inr u => some u))
theorem c35 (F : Nat) (p0 : List Int) (p1 : List Int) (r : Bool) (h : fn35 F p0 p1 = some r) : Con Try.prog 35 [.sl 0, .sl 1] [(0, .rd (Et.int .u8) p0), (1, .rd (Et.int .u8) p1)] 2 (.v (.bool r)) [] 2 := by
 rw [fn35] at h
 refine Con.of_body Try.func35 rfl Try.ntmps35 rfl fun w F0 ρ => ?_
 refine RU tbOk false 999 6 [] aN (by rfl) ?_
 refine CD h (by rfl) (fun h hb1 => ?_) (fun h hb1 => ?_)
 ·refine RU tbOk false 999 1 [] aN (by rfl) ?_
  have hr := Option.some.inj h
  subst hr
  exact RT tbOk.t Try.results35 [0, 1] (by rfl) (by rfl) (by rfl) rfl rfl
 ·refine RU tbOk false 999 1 [] aN (by rfl) ?_
  obtain ⟨o11, hl12, h⟩ := bd h
  refine CTS 0 (fun u => ⟨[], [(0, .rd (Et.int .u8) p0), (1, .rd (Et.int .u8) p1)], 2⟩) o11 ?_ (fun u hu => ?_)
  ·have h015 := h
   clear h
   refine G4.imp (Imp.to [0, 1] (by rfl) (by rfl) rfl rfl) (LP (fun (n : Nat) (s : Int) => fn35_l1 p0 p1 n s) (fun (s : Int) => ⟨[(0, .sl 0), (1, .sl 1), (5, .v (.int .i64 s))], [(0, .rd (Et.int .u8) p0), (1, .rd (Et.int .u8) p1)], 2⟩) (fun _ => rfl) (s0 := 0) hl12 ?_)
   clear hl12
   rintro R16 n13 x6 h ih14
   replace h := (fn35_l1_s p0 p1 n13 x6).symm.trans h
   rw [fn35_b1] at h
   refine RU tbOk false 999 4 [] aN (by rfl) ?_
   refine CD h (by rfl) (fun h hb17 => ?_) (fun h hb17 => ?_)
   ·refine RU tbOk false 999 0 [] aN (by rfl) ?_
    obtain ⟨hk18, h⟩ := ck h
    obtain ⟨hk19, h⟩ := ck h
    refine DR tbOk hmix [25] [([], []), ([], []), ([0], []), ([0], []), ([], []), ([], []), ([1], []), ([1], []), ([], [])] [] (aR (aC hk18 (aR (aR (aC hk19 (aR aN)))))) (by rfl) ?_
    refine RU tbOk false 999 0 [] aN (by rfl) ?_
    refine CD h (by rfl) (fun h hb20 => ?_) (fun h hb20 => ?_)
    ·refine RU tbOk false 999 1 [] aN (by rfl) ?_
     have ho := Option.some.inj h
     subst ho
     replace h := h015
     refine RU tbOk false 999 0 [] aN (by rfl) ?_
     have hr := Option.some.inj h
     subst hr
     exact RT tbOk.t Try.results35 [0, 1] (by rfl) (by rfl) (by rfl) rfl rfl
    ·refine RU tbOk false 999 3 [] aN (by rfl) ?_
     exact ih14 (IntKind.i64.wrap (x6 + 1)) h _ _ (Imp.to [0, 1] (by rfl) (by rfl) rfl rfl)
   ·refine RU tbOk false 999 0 [] aN (by rfl) ?_
    have ho := Option.some.inj h
    subst ho
    exact CES _ rfl (Imp.to [0, 1] (by rfl) (by rfl) rfl rfl)
  ·subst hu
   change fn35_k1 = _ at h
   rw [fn35_k1] at h
   refine RU tbOk false 999 1 [] aN (by rfl) ?_
   have hr := Option.some.inj h
   subst hr
   exact RT tbOk.t Try.results35 [0, 1] (by rfl) (by rfl) (by rfl) rfl rfl
def fn15_b1 (F : Nat) (p0 : List (List Int)) (p1 : List (List Int)) (rl1 : Int → Option ((Unit) ⊕ (Bool))) (x8 : Int) : Option ((Unit) ⊕ (Bool)) :=
 bif decide (x8 < (p0.length : Int)) then (bif inb x8 p0.length then (bif inb x8 p1.length then (Option.bind (fn35 F (gt p0 x8) (gt p1 x8)) fun v24 => (bif !v24 then (some (.inr (false))) else (rl1 (IntKind.i64.wrap (x8 + 1))))) else none) else none) else (some (.inl ()))
def fn15_l1 (F : Nat) (p0 : List (List Int)) (p1 : List (List Int)) : Nat → Int → Option ((Unit) ⊕ (Bool))
 | 0, _ => none
 | n17 + 1, x8 => fn15_b1 F p0 p1 (fn15_l1 F p0 p1 n17) x8
theorem fn15_l1_s (F : Nat) (p0 : List (List Int)) (p1 : List (List Int)) (n17 : Nat) (x8 : Int) : fn15_l1 F p0 p1 (n17 + 1) x8 = fn15_b1 F p0 p1 (fn15_l1 F p0 p1 n17) x8 := rfl
def fn15_k1 : Option (Bool) :=
 some (true)
def fn15 (F : Nat) (p0 : List (List Int)) (p1 : List (List Int)) : Option (Bool) :=
 bif (p0.length : Int) != (p1.length : Int) then (some (false)) else (Option.bind (fn15_l1 F p0 p1 F 0) fun o15 => (match o15 with | .inl u => fn15_k1 | .inr u => some u))
theorem c15 (F : Nat) (p0 : List (List Int)) (p1 : List (List Int)) (r : Bool) (h : fn15 F p0 p1 = some r) : Con Try.prog 15 [.sl 0, .sl 1] [(0, .rowL (Et.int .u8) 5 35 p0 p0.length), (1, .rowL (Et.int .u8) 5 35 p1 p1.length)] 2 (.v (.bool r)) [(0, .rowL (Et.int .u8) 5 35 p0 p0.length), (1, .rowL (Et.int .u8) 5 35 p1 p1.length)] 2 := by
 rw [fn15] at h
 refine Con.of_body Try.func15 rfl Try.ntmps15 rfl fun w F0 ρ => ?_
 refine RU tbOk false 999 6 [.ln, .ln] aN (by rfl) ?_
 refine CD h (by rfl) (fun h hb1 => ?_) (fun h hb1 => ?_)
 ·refine RU tbOk false 999 1 [] aN (by rfl) ?_
  have hr := Option.some.inj h
  subst hr
  exact RT tbOk.t Try.results15 [0, 1] (by rfl) (by rfl) (by rfl) rfl rfl
 ·refine RU tbOk false 999 1 [] aN (by rfl) ?_
  obtain ⟨o15, hl16, h⟩ := bd h
  refine CTS 0 (fun u => ⟨[], [(0, .rowL (Et.int .u8) 5 35 p0 p0.length), (1, .rowL (Et.int .u8) 5 35 p1 p1.length)], 2⟩) o15 ?_ (fun u hu => ?_)
  ·have h019 := h
   clear h
   refine G4.imp (Imp.to [0, 1] (by rfl) (by rfl) rfl rfl) (LP (fun (n : Nat) (s : Int) => fn15_l1 F p0 p1 n s) (fun (s : Int) => ⟨[(0, .sl 0), (1, .sl 1), (5, .v (.int .i64 s))], [(0, .rowL (Et.int .u8) 5 35 p0 p0.length), (1, .rowL (Et.int .u8) 5 35 p1 p1.length)], 2⟩) (fun _ => rfl) (s0 := 0) hl16 ?_)
   clear hl16
   rintro R20 n17 x8 h ih18
   replace h := (fn15_l1_s F p0 p1 n17 x8).symm.trans h
   rw [fn15_b1] at h
   refine RU tbOk false 999 4 [.ln] aN (by rfl) ?_
   refine CD h (by rfl) (fun h hb21 => ?_) (fun h hb21 => ?_)
   ·refine RU tbOk false 999 0 [] aN (by rfl) ?_
    obtain ⟨hk22, h⟩ := ck h
    obtain ⟨hk23, h⟩ := ck h
    obtain ⟨v24, hv25, h⟩ := bd h
    refine DR tbOk hmix [26] [([], []), ([], []), ([0], []), ([0], [0]), ([], []), ([], []), ([1], []), ([1], [1]), ([2, 3], []), ([], [])] [.ix, .ld (Et.int .u8) 5 _, .ix, .ld (Et.int .u8) 5 _, .cl true [2, 3] (fun _ => c35 F (gt p0 x8) (gt p1 x8) _ hv25)] (aR (aC hk22 (aR (aR (aC hk22 (aR (aC hk23 (aR (aR (aC hk23 (aR (aK aN)))))))))))) (by rfl) ?_
    refine RU tbOk false 999 0 [] aN (by rfl) ?_
    refine CD h (by rfl) (fun h hb26 => ?_) (fun h hb26 => ?_)
    ·refine RU tbOk false 999 1 [] aN (by rfl) ?_
     have ho := Option.some.inj h
     subst ho
     replace h := h019
     refine RU tbOk false 999 0 [] aN (by rfl) ?_
     have hr := Option.some.inj h
     subst hr
     refine G4.imp (Imp.closeL 0 2 (by rfl) (by rfl) (by rfl)) ?_
     refine G4.imp (Imp.closeL 1 3 (by rfl) (by rfl) (by rfl)) ?_
     exact RT tbOk.t Try.results15 [0, 1] (by rfl) (by rfl) (by rfl) rfl rfl
    ·refine RU tbOk false 999 3 [] aN (by rfl) ?_
     refine G4.imp (Imp.closeL 0 2 (by rfl) (by rfl) (by rfl)) ?_
     refine G4.imp (Imp.closeL 1 3 (by rfl) (by rfl) (by rfl)) ?_
     exact ih18 (IntKind.i64.wrap (x8 + 1)) h _ _ (Imp.to [0, 1] (by rfl) (by rfl) rfl rfl)
   ·refine RU tbOk false 999 0 [] aN (by rfl) ?_
    have ho := Option.some.inj h
    subst ho
    exact CES _ rfl (Imp.to [0, 1] (by rfl) (by rfl) rfl rfl)
  ·subst hu
   change fn15_k1 = _ at h
   rw [fn15_k1] at h
   refine RU tbOk false 999 1 [] aN (by rfl) ?_
   have hr := Option.some.inj h
   subst hr
   exact RT tbOk.t Try.results15 [0, 1] (by rfl) (by rfl) (by rfl) rfl rfl
def fn19v2 (p1 : Int) : Unit :=
 ()
theorem c19v2 (p1 : Int) (r : Unit) (h : fn19v2 p1 = r) : Con Try.prog 19 [.v (.bool true), .v (.int .i64 p1)] [] 0 (.tu []) [] 0 := by
 rw [fn19v2] at h
 refine Con.of_body Try.func19 rfl Try.ntmps19 rfl fun w F0 ρ => ?_
 refine RU tbOk false 999 2 [] aN (by rfl) ?_
 refine CDF rfl (by rfl) ?_
 refine RU tbOk false 999 0 [] aN (by rfl) ?_
 subst h
 exact RTN tbOk.t Try.results19 [] (by rfl) (by rfl) (by rfl) rfl rfl
def fn32v1 (p0_0 : List HCell) (p0_1 : Int) (p0_2 : Int) (p0_3 : Int) (p0_4 : Int) (p0_5 : List (ByteArray × Int)) : Unit :=
 ()
theorem c32v1 (p0_0 : List HCell) (p0_1 : Int) (p0_2 : Int) (p0_3 : Int) (p0_4 : Int) (p0_5 : List (ByteArray × Int)) (r : Unit) (h : fn32v1 p0_0 p0_1 p0_2 p0_3 p0_4 p0_5 = r) : Con Try.prog 32 [.p 0 0] [(0, .cells 54 [.sl 1, .v (.int .u8 p0_1), .v (.int .i64 p0_2), .v (.int .i64 p0_3), .v (.int .i64 p0_4), .mp 2]), (1, .ex (pO HCell.D 63 p0_0) []), (2, .omap Kn.str (Vn.int .i64) p0_5)] 3 (.tu []) [(0, .cells 54 [.sl 1, .v (.int .u8 p0_1), .v (.int .i64 p0_2), .v (.int .i64 p0_3), .v (.int .i64 p0_4), .mp 2]), (1, .ex (pO HCell.D 63 p0_0) []), (2, .omap Kn.str (Vn.int .i64) p0_5)] 3 := by
 rw [fn32v1] at h
 refine Con.of_body Try.func32 rfl Try.ntmps32 rfl fun w F0 ρ => ?_
 refine RU (tbOk.lit [(3, 4, true)]) false 999 10 [.pn, .ni, .cl true [] (fun _ => c19v2 1 _ rfl)] (aC rfl (aK aN)) (by rfl) ?_
 refine RU tbOk false 999 0 [] aN (by rfl) ?_
 refine RU tbOk false 999 0 [] aN (by rfl) ?_
 subst h
 exact RTN tbOk.t Try.results32 [0, 1, 2] (by rfl) (by rfl) (by rfl) rfl rfl
def fn22v1 (p0_0 : List HCell) (p0_1 : Int) (p0_2 : Int) (p0_3 : Int) (p0_4 : Int) (p0_5 : List (ByteArray × Int)) (p1 : List Int) : Option (Int ⊕ (Int × Bool)) :=
 frk2 (fn19 ((p1.length : Int) == p0_2) 2) (fun v1 => some ((.inl v1))) (fun v3 => some ((.inr (mget p0_5 (strOfNums p1) (0 : Int), mhas p0_5 (strOfNums p1)))))
theorem c22v1 (p0_0 : List HCell) (p0_1 : Int) (p0_2 : Int) (p0_3 : Int) (p0_4 : Int) (p0_5 : List (ByteArray × Int)) (p1 : List Int) (r : Int ⊕ (Int × Bool)) (h : fn22v1 p0_0 p0_1 p0_2 p0_3 p0_4 p0_5 p1 = some r) : ConO Try.prog 22 [.p 0 0, .sl 3] [(0, .cells 54 [.sl 1, .v (.int .u8 p0_1), .v (.int .i64 p0_2), .v (.int .i64 p0_3), .v (.int .i64 p0_4), .mp 2]), (1, .ex (pO HCell.D 63 p0_0) []), (2, .omap Kn.str (Vn.int .i64) p0_5), (3, .rd (Et.int .u8) p1)] 4 (match r with | .inl r => .pan (.iface 30 (.int .i64 r)) [(0, .cells 54 [.sl 1, .v (.int .u8 p0_1), .v (.int .i64 p0_2), .v (.int .i64 p0_3), .v (.int .i64 p0_4), .mp 2]), (1, .ex (pO HCell.D 63 p0_0) []), (2, .omap Kn.str (Vn.int .i64) p0_5)] 4 | .inr r => .ret (.tu [.v (.int .i64 r.1), .v (.bool r.2)]) [(0, .cells 54 [.sl 1, .v (.int .u8 p0_1), .v (.int .i64 p0_2), .v (.int .i64 p0_3), .v (.int .i64 p0_4), .mp 2]), (1, .ex (pO HCell.D 63 p0_0) []), (2, .omap Kn.str (Vn.int .i64) p0_5)] 4) := by
 rw [fn22v1] at h
 refine ConO.of_body Try.func22 Try.ntmps22 fun w F0 ρ => ?_
 refine RU tbOk false 999 4 [.cl true [0, 1, 2] (fun _ => c32v1 p0_0 p0_1 p0_2 p0_3 p0_4 p0_5 _ rfl)] (aK aN) (by rfl) ?_
 refine RU tbOk false 999 8 [] aN (by rfl) ?_
 refine fk2 h (fun v1 hv2 h => ?_) (fun v3 hv4 h => ?_)
 ·refine RU tbOk false 999 0 [] aN (by rfl) ?_
  refine CX_ tbOk [] (c19_0 ((p1.length : Int) == p0_2) 2 v1 hv2) (aK aN) ?_
  refine RU tbOk false 999 0 [] aN (by rfl) ?_
  have hr := Option.some.inj h
  subst hr
  exact TP_ [0, 1, 2, 3]
 ·refine RU tbOk false 999 1 [.cl true [] (fun _ => c19_1 ((p1.length : Int) == p0_2) 2 v3 hv4)] (aK aN) (by rfl) ?_
  refine RU tbOk false 999 0 [] aN (by rfl) ?_
  refine DR tbOk hmix [6, 7] [([], []), ([], []), ([], []), ([0], []), ([], []), ([3], []), ([2], []), ([], []), ([], []), ([], []), ([], []), ([], [])] [.b2 _, .lo Kn.str (Vn.int .i64) _ (strOfNums p1) (0 : Int) Try.runUnderlying34 Try.runUnderlying9 Try.zeroValue3] (aR (aR (aR (aR (aR (aR aN)))))) (by rfl) ?_
  refine RU tbOk false 999 4 [] aN (by rfl) ?_
  have hr := Option.some.inj h
  subst hr
  exact TO_ tbOk.t Try.results22 [0, 1, 2, 3]
theorem c22v1_0 (p0_0 : List HCell) (p0_1 : Int) (p0_2 : Int) (p0_3 : Int) (p0_4 : Int) (p0_5 : List (ByteArray × Int)) (p1 : List Int) (r : Int) (h : fn22v1 p0_0 p0_1 p0_2 p0_3 p0_4 p0_5 p1 = some (.inl r)) : ConX Try.prog 22 [.p 0 0, .sl 3] [(0, .cells 54 [.sl 1, .v (.int .u8 p0_1), .v (.int .i64 p0_2), .v (.int .i64 p0_3), .v (.int .i64 p0_4), .mp 2]), (1, .ex (pO HCell.D 63 p0_0) []), (2, .omap Kn.str (Vn.int .i64) p0_5), (3, .rd (Et.int .u8) p1)] 4 (.iface 30 (.int .i64 r)) [(0, .cells 54 [.sl 1, .v (.int .u8 p0_1), .v (.int .i64 p0_2), .v (.int .i64 p0_3), .v (.int .i64 p0_4), .mp 2]), (1, .ex (pO HCell.D 63 p0_0) []), (2, .omap Kn.str (Vn.int .i64) p0_5)] 4 := c22v1 p0_0 p0_1 p0_2 p0_3 p0_4 p0_5 p1 _ h
theorem c22v1_1 (p0_0 : List HCell) (p0_1 : Int) (p0_2 : Int) (p0_3 : Int) (p0_4 : Int) (p0_5 : List (ByteArray × Int)) (p1 : List Int) (r : Int × Bool) (h : fn22v1 p0_0 p0_1 p0_2 p0_3 p0_4 p0_5 p1 = some (.inr r)) : Con Try.prog 22 [.p 0 0, .sl 3] [(0, .cells 54 [.sl 1, .v (.int .u8 p0_1), .v (.int .i64 p0_2), .v (.int .i64 p0_3), .v (.int .i64 p0_4), .mp 2]), (1, .ex (pO HCell.D 63 p0_0) []), (2, .omap Kn.str (Vn.int .i64) p0_5), (3, .rd (Et.int .u8) p1)] 4 (.tu [.v (.int .i64 r.1), .v (.bool r.2)]) [(0, .cells 54 [.sl 1, .v (.int .u8 p0_1), .v (.int .i64 p0_2), .v (.int .i64 p0_3), .v (.int .i64 p0_4), .mp 2]), (1, .ex (pO HCell.D 63 p0_0) []), (2, .omap Kn.str (Vn.int .i64) p0_5)] 4 := c22v1 p0_0 p0_1 p0_2 p0_3 p0_4 p0_5 p1 _ h
def fn40 (p0_0 : List HCell) (p0_1 : Int) (p0_2 : Int) (p0_3 : Int) (p0_4 : Int) (p0_5 : List (ByteArray × Int)) : Unit :=
 ()
theorem c40 (p0_0 : List HCell) (p0_1 : Int) (p0_2 : Int) (p0_3 : Int) (p0_4 : Int) (p0_5 : List (ByteArray × Int)) (r : Unit) (h : fn40 p0_0 p0_1 p0_2 p0_3 p0_4 p0_5 = r) : Con Try.prog 40 [.p 0 0] [(0, .cells 54 [.sl 1, .v (.int .u8 p0_1), .v (.int .i64 p0_2), .v (.int .i64 p0_3), .v (.int .i64 p0_4), .mp 2]), (1, .ex (pO HCell.D 63 p0_0) []), (2, .omap Kn.str (Vn.int .i64) p0_5)] 3 (.fn (.func 45) [] [.p 3 0]) [(0, .cells 54 [.sl 1, .v (.int .u8 p0_1), .v (.int .i64 p0_2), .v (.int .i64 p0_3), .v (.int .i64 p0_4), .mp 2]), (1, .ex (pO HCell.D 63 p0_0) []), (2, .omap Kn.str (Vn.int .i64) p0_5), (3, .cells 90 [.p 0 0])] 4 := by
 rw [fn40] at h
 refine Con.of_body Try.func40 rfl Try.ntmps40 rfl fun w F0 ρ => ?_
 refine RU tbOk false 999 4 [] aN (by rfl) ?_
 subst h
 exact RT tbOk.t Try.results40 [0, 1, 2, 3] (by rfl) (by rfl) (by rfl) rfl rfl
def fn45_b1 {σ : Type} (step : σ → Int → Option σ) (go : σ → Bool) (p0_0_0 : List HCell) (rl1 : σ → Int → Option ((σ) ⊕ (σ))) (xs7 : σ) (x8 : Int) : Option ((σ) ⊕ (σ)) :=
 bif decide (x8 < (p0_0_0.length : Int)) then (bif inb x8 p0_0_0.length then (bif !((gt p0_0_0 x8).fused) then (Option.bind (step xs7 x8) fun u25 => (bif !(go u25) then (some (.inr (u25))) else (rl1 u25 (IntKind.i64.wrap (x8 + 1))))) else (rl1 xs7 (IntKind.i64.wrap (x8 + 1)))) else none) else (some (.inl xs7))
def fn45_l1 {σ : Type} (step : σ → Int → Option σ) (go : σ → Bool) (p0_0_0 : List HCell) : Nat → σ → Int → Option ((σ) ⊕ (σ))
 | 0, _, _ => none
 | n18 + 1, xs7, x8 => fn45_b1 step go p0_0_0 (fn45_l1 step go p0_0_0 n18) xs7 x8
theorem fn45_l1_s {σ : Type} (step : σ → Int → Option σ) (go : σ → Bool) (p0_0_0 : List HCell) (n18 : Nat) (xs7 : σ) (x8 : Int) : fn45_l1 step go p0_0_0 (n18 + 1) xs7 x8 = fn45_b1 step go p0_0_0 (fn45_l1 step go p0_0_0 n18) xs7 x8 := rfl
def fn45_k1 {σ : Type} (xs15 : σ) : Option (σ) :=
 some (xs15)
def fn45 {σ : Type} (F : Nat) (step : σ → Int → Option σ) (go : σ → Bool) (p0_0_0 : List HCell) (p0_0_1 : Int) (p0_0_2 : Int) (p0_0_3 : Int) (p0_0_4 : Int) (p0_0_5 : List (ByteArray × Int)) (s0 : σ) : Option σ :=
 Option.bind (fn45_l1 step go p0_0_0 F s0 0) fun o16 => (match o16 with | .inl u => fn45_k1 u | .inr u => some u)
theorem c45 {σ : Type} (F : Nat) (step : σ → Int → Option σ) (go : σ → Bool) (p0_0_0 : List HCell) (p0_0_1 : Int) (p0_0_2 : Int) (p0_0_3 : Int) (p0_0_4 : Int) (p0_0_5 : List (ByteArray × Int)) (s0 : σ) (r : σ) (h : fn45 F step go p0_0_0 p0_0_1 p0_0_2 p0_0_3 p0_0_4 p0_0_5 s0 = some r) (yv : Value) (J : σ → Blocks → Prop) : ConY Try.prog 45 [.v yv, .p 0 0] [(0, .cells 90 [.p 1 0]), (1, .cells 54 [.sl 2, .v (.int .u8 p0_0_1), .v (.int .i64 p0_0_2), .v (.int .i64 p0_0_3), .v (.int .i64 p0_0_4), .mp 3]), (2, .ex (pO HCell.D 63 p0_0_0) []), (3, .omap Kn.str (Vn.int .i64) p0_0_5), (4, .bx (J s0))] 5 (.tu []) [(0, .cells 90 [.p 1 0]), (1, .cells 54 [.sl 2, .v (.int .u8 p0_0_1), .v (.int .i64 p0_0_2), .v (.int .i64 p0_0_3), .v (.int .i64 p0_0_4), .mp 3]), (2, .ex (pO HCell.D 63 p0_0_0) []), (3, .omap Kn.str (Vn.int .i64) p0_0_5), (4, .bx (J r))] 5 (fun w R ρ => YldY Try.prog w R ρ 0 yv J (Yn.one (Vn.int .i64)) step go) := by
 rw [fn45] at h
 refine ConY.of_body Try.func45 rfl Try.ntmps45 rfl fun w F0 ρ hy => ?_
 refine RU tbOk false 999 6 [.no HCell.D 63 _ none] (aR aN) (by rfl) ?_
 obtain ⟨o16, hl17, h⟩ := bd h
 refine CTS 0 (fun u => ⟨[], [(0, .cells 90 [.p 1 0]), (1, .cells 54 [.sl 2, .v (.int .u8 p0_0_1), .v (.int .i64 p0_0_2), .v (.int .i64 p0_0_3), .v (.int .i64 p0_0_4), .mp 3]), (2, .ex (pO HCell.D 63 p0_0_0) []), (3, .omap Kn.str (Vn.int .i64) p0_0_5), (4, .bx (J u))], 5⟩) o16 ?_ (fun u hu => ?_)
 ·have h020 := h
  clear h
  refine G4.imp (Imp.to [0, 1, 2, 3, 4] (by rfl) (by rfl) rfl rfl) (LP (fun (n : Nat) (s : σ × Int) => fn45_l1 step go p0_0_0 n s.1 s.2) (fun (s : σ × Int) => ⟨[(0, .v yv), (1, .p 0 0), (8, .v (.int .i64 (p0_0_0.length : Int))), (9, .v (.int .i64 s.2))], [(0, .cells 90 [.p 1 0]), (1, .cells 54 [.sl 2, .v (.int .u8 p0_0_1), .v (.int .i64 p0_0_2), .v (.int .i64 p0_0_3), .v (.int .i64 p0_0_4), .mp 3]), (2, .ex (pO HCell.D 63 p0_0_0) []), (3, .omap Kn.str (Vn.int .i64) p0_0_5), (4, .bx (J s.1))], 5⟩) (fun _ => rfl) (s0 := (s0, 0)) hl17 ?_)
  clear hl17
  rintro R21 n18 ⟨xs7, x8⟩ h ih19
  replace h := (fn45_l1_s step go p0_0_0 n18 xs7 x8).symm.trans h
  rw [fn45_b1] at h
  refine RU tbOk false 999 1 [] aN (by rfl) ?_
  refine CD h (by rfl) (fun h hb22 => ?_) (fun h hb22 => ?_)
  ·obtain ⟨hk23, h⟩ := ck h
   refine RU tbOk false 999 11 [.io HCell.D 63 _ none, .lp HCell.D 63 _] (aR (aC hk23 (aR (aC hk23 aN)))) (by rfl) ?_
   refine CDS h (fun h hb24 => ?_) (fun h hb24 => ?_)
   ·obtain ⟨u25, hu26, h⟩ := bd h
    refine RU (tbOk.lit [(20, 21, true)]) false 999 4 [.yd 4 x8 hy rfl hu26] (aC hb24 (aR (aR (aR aN)))) (by rfl) ?_
    refine RU (tbOk.lit [(20, 21, true)]) false 999 2 [] aN (by rfl) ?_
    refine RU tbOk false 999 0 [] aN (by rfl) ?_
    refine CD h (by rfl) (fun h hb27 => ?_) (fun h hb27 => ?_)
    ·refine RU tbOk false 999 0 [] aN (by rfl) ?_
     have ho := Option.some.inj h
     subst ho
     replace h := h020
     refine RU tbOk false 999 0 [] aN (by rfl) ?_
     have hr := Option.some.inj h
     subst hr
     exact RT tbOk.t Try.results45 [0, 1, 2, 3, 4] (by rfl) (by rfl) (by rfl) rfl rfl
    ·refine RU tbOk false 999 2 [] aN (by rfl) ?_
     exact ih19 (u25, IntKind.i64.wrap (x8 + 1)) h _ _ (Imp.to [0, 1, 2, 3, 4] (by rfl) (by rfl) rfl rfl)
   ·refine RU (tbOk.lit [(20, 21, false)]) false 999 4 [] (aC hb24 aN) (by rfl) ?_
    refine RU (tbOk.lit [(20, 21, false)]) false 999 2 [] aN (by rfl) ?_
    refine RU tbOk false 999 0 [] aN (by rfl) ?_
    refine CDF rfl (by rfl) ?_
    refine RU tbOk false 999 2 [] aN (by rfl) ?_
    exact ih19 (xs7, IntKind.i64.wrap (x8 + 1)) h _ _ (Imp.to [0, 1, 2, 3, 4] (by rfl) (by rfl) rfl rfl)
  ·refine RU tbOk false 999 0 [] aN (by rfl) ?_
   have ho := Option.some.inj h
   subst ho
   exact CES _ rfl (Imp.to [0, 1, 2, 3, 4] (by rfl) (by rfl) rfl rfl)
 ·subst hu
  change fn45_k1 u = _ at h
  rw [fn45_k1] at h
  refine RU tbOk false 999 0 [] aN (by rfl) ?_
  have hr := Option.some.inj h
  subst hr
  exact RTN tbOk.t Try.results45 [0, 1, 2, 3, 4] (by rfl) (by rfl) (by rfl) rfl rfl
def fn26_r1 (x2 : Int) (y1 : Int) : Option ((Int) × Nat) :=
 some (y1, 1)
def fn26_k1_0 (x2 : Int) : Option ((Int ⊕ Int)) :=
 some ((.inl 8))
def fn26_k1_1 (x2 : Int) : Option ((Int ⊕ Int)) :=
 some ((.inr x2))
def fn26 (F : Nat) (p0_0 : List HCell) (p0_1 : Int) (p0_2 : Int) (p0_3 : Int) (p0_4 : Int) (p0_5 : List (ByteArray × Int)) : Option (Int ⊕ Int) :=
 Option.bind (fn45 F (stepR (fun (s : Int) (y : Int) => fn26_r1 s y)) goR p0_0 p0_1 p0_2 p0_3 p0_4 p0_5 ((0, 0) : (Int) × Nat)) fun o5 => (bif Nat.beq o5.2 0 then (fn26_k1_0 o5.1) else (bif Nat.beq o5.2 1 then (fn26_k1_1 o5.1) else none))
theorem c26 (F : Nat) (p0_0 : List HCell) (p0_1 : Int) (p0_2 : Int) (p0_3 : Int) (p0_4 : Int) (p0_5 : List (ByteArray × Int)) (r : Int ⊕ Int) (h : fn26 F p0_0 p0_1 p0_2 p0_3 p0_4 p0_5 = some r) : ConO Try.prog 26 [.p 0 0] [(0, .cells 54 [.sl 1, .v (.int .u8 p0_1), .v (.int .i64 p0_2), .v (.int .i64 p0_3), .v (.int .i64 p0_4), .mp 2]), (1, .ex (pO HCell.D 63 p0_0) []), (2, .omap Kn.str (Vn.int .i64) p0_5)] 3 (match r with | .inl r => .pan (.iface 30 (.int .i64 r)) [(0, .cells 54 [.sl 1, .v (.int .u8 p0_1), .v (.int .i64 p0_2), .v (.int .i64 p0_3), .v (.int .i64 p0_4), .mp 2]), (1, .ex (pO HCell.D 63 p0_0) []), (2, .omap Kn.str (Vn.int .i64) p0_5)] 3 | .inr r => .ret (.v (.int .i64 r)) [(0, .cells 54 [.sl 1, .v (.int .u8 p0_1), .v (.int .i64 p0_2), .v (.int .i64 p0_3), .v (.int .i64 p0_4), .mp 2]), (1, .ex (pO HCell.D 63 p0_0) []), (2, .omap Kn.str (Vn.int .i64) p0_5)] 3) := by
 rw [fn26] at h
 refine ConO.of_body Try.func26 Try.ntmps26 fun w F0 ρ => ?_
 refine RU tbOk false 999 3 [.cl true [0, 1, 2] (fun _ => c40 p0_0 p0_1 p0_2 p0_3 p0_4 p0_5 _ rfl)] (aK aN) (by rfl) ?_
 refine RU tbOk false 999 0 [] aN (by rfl) ?_
 obtain ⟨o5, ho6, h⟩ := bd h
 refine G4.imp (s' := ⟨[(2, .p 3 0), (5, .fn (.func 45) [] [.p 4 0])], [(4, .cells 90 [.p 0 0]), (0, .cells 54 [.sl 1, .v (.int .u8 p0_1), .v (.int .i64 p0_2), .v (.int .i64 p0_3), .v (.int .i64 p0_4), .mp 2]), (1, .ex (pO HCell.D 63 p0_0) []), (2, .omap Kn.str (Vn.int .i64) p0_5)] ++ ((fun (s : Int) => ([(3, .cells 3 [.v (.int .i64 s)])] : SH)) 0 ++ []), 5⟩) (Imp.to [0, 1, 2, 3, 4] (by rfl) (by rfl) rfl rfl) ?_
 refine RFO [6] (Yn.one (Vn.int .i64)) [(4, .cells 90 [.p 0 0]), (0, .cells 54 [.sl 1, .v (.int .u8 p0_1), .v (.int .i64 p0_2), .v (.int .i64 p0_3), .v (.int .i64 p0_4), .mp 2]), (1, .ex (pO HCell.D 63 p0_0) []), (2, .omap Kn.str (Vn.int .i64) p0_5)] (fun (s : Int) => [(3, .cells 3 [.v (.int .i64 s)])]) [] 5 4 [4, 0, 1, 2] [.p 0 0] 90 [.p 1 0] [(1, .cells 54 [.sl 2, .v (.int .u8 p0_1), .v (.int .i64 p0_2), .v (.int .i64 p0_3), .v (.int .i64 p0_4), .mp 3]), (2, .ex (pO HCell.D 63 p0_0) []), (3, .omap Kn.str (Vn.int .i64) p0_5)] (fun (s : Int) (y : Int) => fn26_r1 s y) 0 o5.1 o5.2 Try.call45 (by rfl) (by rfl) (by rfl) (by rfl) (fun _ _ => rfl) (fun _ => trivial) (fun _ => by rfl) (fun yv J => c45 F (stepR (fun (s : Int) (y : Int) => fn26_r1 s y)) goR p0_0 p0_1 p0_2 p0_3 p0_4 p0_5 (0, 0) o5 ho6 yv J) ?_ ?_
 ·clear h ho6
  rintro l1 w1 R1 ρ1 pA pB QA QB x2 y1 s1' m1' h hbg3 hend4
  change fn26_r1 x2 y1 = _ at h
  rw [fn26_r1] at h
  refine RU tbOk false 999 1 [] aN (by rfl) ?_
  refine hbg3 _ _ _ (by rfl) ?_
  refine RU tbOk false 999 2 [] aN (by rfl) ?_
  cases Option.some.inj h
  exact hend4 _ (Imp.to [0, 1, 2, 3, 4, 5] (by rfl) (by rfl) rfl rfl)
 ·intro r7
  refine CDS h (fun h hb9 => ?_) (fun h hb9 => ?_)
  ·rw [show o5.2 = 0 from Nat.eq_of_beq_eq_true hb9]
   change fn26_k1_0 o5.1 = _ at h
   rw [fn26_k1_0] at h
   refine RU tbOk false 999 1 [.mi] aN (by rfl) ?_
   refine PX_ ?_
   refine RU tbOk false 999 0 [] aN (by rfl) ?_
   have hr := Option.some.inj h
   subst hr
   exact TPM_ [(5, r7)] [0, 1, 2] ⟨rfl, trivial⟩
  refine CDS h (fun h hb10 => ?_) (fun h hb10 => ?_)
  ·rw [show o5.2 = 1 from Nat.eq_of_beq_eq_true hb10]
   change fn26_k1_1 o5.1 = _ at h
   rw [fn26_k1_1] at h
   refine RU tbOk false 999 0 [] aN (by rfl) ?_
   have hr := Option.some.inj h
   subst hr
   exact TOM_ tbOk.t [(5, r7)] Try.results26 [0, 1, 2] ⟨rfl, trivial⟩
  cases h
theorem c26_0 (F : Nat) (p0_0 : List HCell) (p0_1 : Int) (p0_2 : Int) (p0_3 : Int) (p0_4 : Int) (p0_5 : List (ByteArray × Int)) (r : Int) (h : fn26 F p0_0 p0_1 p0_2 p0_3 p0_4 p0_5 = some (.inl r)) : ConX Try.prog 26 [.p 0 0] [(0, .cells 54 [.sl 1, .v (.int .u8 p0_1), .v (.int .i64 p0_2), .v (.int .i64 p0_3), .v (.int .i64 p0_4), .mp 2]), (1, .ex (pO HCell.D 63 p0_0) []), (2, .omap Kn.str (Vn.int .i64) p0_5)] 3 (.iface 30 (.int .i64 r)) [(0, .cells 54 [.sl 1, .v (.int .u8 p0_1), .v (.int .i64 p0_2), .v (.int .i64 p0_3), .v (.int .i64 p0_4), .mp 2]), (1, .ex (pO HCell.D 63 p0_0) []), (2, .omap Kn.str (Vn.int .i64) p0_5)] 3 := c26 F p0_0 p0_1 p0_2 p0_3 p0_4 p0_5 _ h
theorem c26_1 (F : Nat) (p0_0 : List HCell) (p0_1 : Int) (p0_2 : Int) (p0_3 : Int) (p0_4 : Int) (p0_5 : List (ByteArray × Int)) (r : Int) (h : fn26 F p0_0 p0_1 p0_2 p0_3 p0_4 p0_5 = some (.inr r)) : Con Try.prog 26 [.p 0 0] [(0, .cells 54 [.sl 1, .v (.int .u8 p0_1), .v (.int .i64 p0_2), .v (.int .i64 p0_3), .v (.int .i64 p0_4), .mp 2]), (1, .ex (pO HCell.D 63 p0_0) []), (2, .omap Kn.str (Vn.int .i64) p0_5)] 3 (.v (.int .i64 r)) [(0, .cells 54 [.sl 1, .v (.int .u8 p0_1), .v (.int .i64 p0_2), .v (.int .i64 p0_3), .v (.int .i64 p0_4), .mp 2]), (1, .ex (pO HCell.D 63 p0_0) []), (2, .omap Kn.str (Vn.int .i64) p0_5)] 3 := c26 F p0_0 p0_1 p0_2 p0_3 p0_4 p0_5 _ h
def fn23 (p0_0 : List HCell) (p0_1 : Int) (p0_2 : Int) (p0_3 : Int) (p0_4 : Int) (p0_5 : List (ByteArray × Int)) (p1 : Int) : Option (Int ⊕ Int) :=
 bif decide ((0 : Int) ≤ p1) then (frk2 (fn19 (decide (p1 < (p0_0.length : Int))) 6) (fun v2 => some ((.inl v2))) (fun v4 => bif inb p1 p0_0.length then (some ((.inr p1))) else none)) else (frk1 (fn19v1 6) (fun v7 => some ((.inl v7))))
theorem c23 (p0_0 : List HCell) (p0_1 : Int) (p0_2 : Int) (p0_3 : Int) (p0_4 : Int) (p0_5 : List (ByteArray × Int)) (p1 : Int) (r : Int ⊕ Int) (h : fn23 p0_0 p0_1 p0_2 p0_3 p0_4 p0_5 p1 = some r) : ConO Try.prog 23 [.p 0 0, .v (.int .i64 p1)] [(0, .cells 54 [.sl 1, .v (.int .u8 p0_1), .v (.int .i64 p0_2), .v (.int .i64 p0_3), .v (.int .i64 p0_4), .mp 2]), (1, .ex (pO HCell.D 63 p0_0) []), (2, .omap Kn.str (Vn.int .i64) p0_5)] 3 (match r with | .inl r => .pan (.iface 30 (.int .i64 r)) [(0, .cells 54 [.sl 1, .v (.int .u8 p0_1), .v (.int .i64 p0_2), .v (.int .i64 p0_3), .v (.int .i64 p0_4), .mp 2]), (1, .ex (pO HCell.D 63 p0_0) []), (2, .omap Kn.str (Vn.int .i64) p0_5)] 3 | .inr r => .ret (.e 1 r 2 0) [(0, .cells 54 [.sl 1, .v (.int .u8 p0_1), .v (.int .i64 p0_2), .v (.int .i64 p0_3), .v (.int .i64 p0_4), .mp 2]), (1, .ex (pO HCell.D 63 p0_0) []), (2, .omap Kn.str (Vn.int .i64) p0_5)] 3) := by
 rw [fn23] at h
 refine ConO.of_body Try.func23 Try.ntmps23 fun w F0 ρ => ?_
 refine RU tbOk false 999 3 [] aN (by rfl) ?_
 refine CDS h (fun h hb1 => ?_) (fun h hb1 => ?_)
 ·refine RU (tbOk.lit [(6, 7, true)]) false 999 9 [.no HCell.D 63 _ none] (aC hb1 (aR aN)) (by rfl) ?_
  refine fk2 h (fun v2 hv3 h => ?_) (fun v4 hv5 h => ?_)
  ·refine RU tbOk false 999 0 [] aN (by rfl) ?_
   refine G4.imp Imp.refl ?_
   refine CX_ tbOk [] (c19_0 (decide (p1 < (p0_0.length : Int))) 6 v2 hv3) (aK aN) ?_
   refine RU tbOk false 999 0 [] aN (by rfl) ?_
   have hr := Option.some.inj h
   subst hr
   exact TP_ [0, 1, 2]
  ·refine RU tbOk false 999 1 [.cl true [] (fun _ => c19_1 (decide (p1 < (p0_0.length : Int))) 6 v4 hv5)] (aK aN) (by rfl) ?_
   refine RU tbOk false 999 0 [] aN (by rfl) ?_
   obtain ⟨hk6, h⟩ := ck h
   refine RU tbOk false 999 7 [.io HCell.D 63 _ none] (aR (aC hk6 aN)) (by rfl) ?_
   have hr := Option.some.inj h
   subst hr
   exact TO_ tbOk.t Try.results23 [0, 1, 2]
 ·refine RU (tbOk.lit [(6, 7, false)]) false 999 9 [] (aC hb1 aN) (by rfl) ?_
  refine fk1 h (fun v7 hv8 h => ?_)
  ·refine RU tbOk false 999 0 [] aN (by rfl) ?_
   refine G4.imp Imp.refl ?_
   refine CX_ tbOk [] (c19v1_0 6 v7 hv8) (aK aN) ?_
   refine RU tbOk false 999 0 [] aN (by rfl) ?_
   have hr := Option.some.inj h
   subst hr
   exact TP_ [0, 1, 2]
theorem c23_0 (p0_0 : List HCell) (p0_1 : Int) (p0_2 : Int) (p0_3 : Int) (p0_4 : Int) (p0_5 : List (ByteArray × Int)) (p1 : Int) (r : Int) (h : fn23 p0_0 p0_1 p0_2 p0_3 p0_4 p0_5 p1 = some (.inl r)) : ConX Try.prog 23 [.p 0 0, .v (.int .i64 p1)] [(0, .cells 54 [.sl 1, .v (.int .u8 p0_1), .v (.int .i64 p0_2), .v (.int .i64 p0_3), .v (.int .i64 p0_4), .mp 2]), (1, .ex (pO HCell.D 63 p0_0) []), (2, .omap Kn.str (Vn.int .i64) p0_5)] 3 (.iface 30 (.int .i64 r)) [(0, .cells 54 [.sl 1, .v (.int .u8 p0_1), .v (.int .i64 p0_2), .v (.int .i64 p0_3), .v (.int .i64 p0_4), .mp 2]), (1, .ex (pO HCell.D 63 p0_0) []), (2, .omap Kn.str (Vn.int .i64) p0_5)] 3 := c23 p0_0 p0_1 p0_2 p0_3 p0_4 p0_5 p1 _ h
theorem c23_1 (p0_0 : List HCell) (p0_1 : Int) (p0_2 : Int) (p0_3 : Int) (p0_4 : Int) (p0_5 : List (ByteArray × Int)) (p1 : Int) (r : Int) (h : fn23 p0_0 p0_1 p0_2 p0_3 p0_4 p0_5 p1 = some (.inr r)) : Con Try.prog 23 [.p 0 0, .v (.int .i64 p1)] [(0, .cells 54 [.sl 1, .v (.int .u8 p0_1), .v (.int .i64 p0_2), .v (.int .i64 p0_3), .v (.int .i64 p0_4), .mp 2]), (1, .ex (pO HCell.D 63 p0_0) []), (2, .omap Kn.str (Vn.int .i64) p0_5)] 3 (.e 1 r 2 0) [(0, .cells 54 [.sl 1, .v (.int .u8 p0_1), .v (.int .i64 p0_2), .v (.int .i64 p0_3), .v (.int .i64 p0_4), .mp 2]), (1, .ex (pO HCell.D 63 p0_0) []), (2, .omap Kn.str (Vn.int .i64) p0_5)] 3 := c23 p0_0 p0_1 p0_2 p0_3 p0_4 p0_5 p1 _ h
def fn25v1 (F : Nat) (p0_0_0 : List HCell) (p0_0_1 : Int) (p0_0_2 : Int) (p0_0_3 : Int) (p0_0_4 : Int) (p0_0_5 : List (ByteArray × Int)) (p1 : List Int) (p2 : List Int) (p3 : Int) : Option (((List HCell) × (List (ByteArray × Int)) × Int) ⊕ (Int × (List HCell) × (List (ByteArray × Int)))) :=
 frk2 (fn22v1 p0_0_0 p0_0_1 p0_0_2 p0_0_3 p0_0_4 p0_0_5 p1) (fun v1 => some ((.inl (p0_0_0, p0_0_5, v1)))) (fun v3 => frk2 (fn19 (((p2.length : Int) == p0_0_3) && (decide (p3 ≤ 2))) 2) (fun v5 => some ((.inl (p0_0_0, p0_0_5, v5)))) (fun v7 => frk2 (fn19 ((!v3.2) || (p3 != 1)) 7) (fun v9 => some ((.inl (p0_0_0, p0_0_5, v9)))) (fun v11 => frk2 (fn19 (v3.2 || (p3 != 2)) 6) (fun v13 => some ((.inl (p0_0_0, p0_0_5, v13)))) (fun v15 => bif !v3.2 then (frk2 (fn26 F p0_0_0 p0_0_1 p0_0_2 p0_0_3 p0_0_4 p0_0_5) (fun v18 => some ((.inl (p0_0_0, p0_0_5, v18)))) (fun v20 => frk2 (fn23 p0_0_0 p0_0_1 p0_0_2 p0_0_3 p0_0_4 (mput p0_0_5 (strOfNums p1) v20) v20) (fun v22 => some ((.inl (p0_0_0, mput p0_0_5 (strOfNums p1) v20, v22)))) (fun v24 => bif inb v24 p0_0_0.length then (some ((.inr (((min p2.length ((((gt p0_0_0 v24).fthing).length) - 0) : Nat) : Int), p0_0_0.set v24.toNat (⟨(⟨true, (gt p0_0_0 v24).fthing⟩ : HCell).fused, pasteX ((gt p0_0_0 v24).fthing) 0 (p2.take ((((gt p0_0_0 v24).fthing).length) - 0))⟩ : HCell), mput p0_0_5 (strOfNums p1) v20)))) else none))) else (frk2 (fn23 p0_0_0 p0_0_1 p0_0_2 p0_0_3 p0_0_4 p0_0_5 v3.1) (fun v27 => some ((.inl (p0_0_0, p0_0_5, v27)))) (fun v29 => bif inb v29 p0_0_0.length then (some ((.inr (((min p2.length ((((gt p0_0_0 v29).fthing).length) - 0) : Nat) : Int), p0_0_0.set v29.toNat (⟨(⟨true, (gt p0_0_0 v29).fthing⟩ : HCell).fused, pasteX ((gt p0_0_0 v29).fthing) 0 (p2.take ((((gt p0_0_0 v29).fthing).length) - 0))⟩ : HCell), p0_0_5)))) else none))))))
theorem c25v1 (F : Nat) (p0_0_0 : List HCell) (p0_0_1 : Int) (p0_0_2 : Int) (p0_0_3 : Int) (p0_0_4 : Int) (p0_0_5 : List (ByteArray × Int)) (p1 : List Int) (p2 : List Int) (p3 : Int) (r : ((List HCell) × (List (ByteArray × Int)) × Int) ⊕ (Int × (List HCell) × (List (ByteArray × Int)))) (h : fn25v1 F p0_0_0 p0_0_1 p0_0_2 p0_0_3 p0_0_4 p0_0_5 p1 p2 p3 = some r) : ConO Try.prog 25 [.p 0 0, .p 4 0, .p 6 0, .p 8 0] [(0, .cells 29 [.p 1 0]), (1, .cells 54 [.sl 2, .v (.int .u8 p0_0_1), .v (.int .i64 p0_0_2), .v (.int .i64 p0_0_3), .v (.int .i64 p0_0_4), .mp 3]), (2, .ex (pO HCell.D 63 p0_0_0) []), (3, .omap Kn.str (Vn.int .i64) p0_0_5), (4, .cells 35 [.sl 5]), (5, .rd (Et.int .u8) p1), (6, .cells 35 [.sl 7]), (7, .rd (Et.int .u8) p2), (8, .cells 36 [.v (.int .u64 p3)])] 9 (match r with | .inl r => .pan (.iface 30 (.int .i64 r.2.2)) [(0, .cells 29 [.p 1 0]), (1, .cells 54 [.sl 2, .v (.int .u8 p0_0_1), .v (.int .i64 p0_0_2), .v (.int .i64 p0_0_3), .v (.int .i64 p0_0_4), .mp 3]), (2, .ex (pO HCell.D 63 r.1) []), (3, .omap Kn.str (Vn.int .i64) r.2.1), (4, .cells 35 [.sl 5]), (6, .cells 35 [.sl 7]), (8, .cells 36 [.v (.int .u64 p3)])] 9 | .inr r => .ret (.v (.int .i64 r.1)) [(0, .cells 29 [.p 1 0]), (1, .cells 54 [.sl 2, .v (.int .u8 p0_0_1), .v (.int .i64 p0_0_2), .v (.int .i64 p0_0_3), .v (.int .i64 p0_0_4), .mp 3]), (2, .ex (pO HCell.D 63 r.2.1) []), (3, .omap Kn.str (Vn.int .i64) r.2.2), (4, .cells 35 [.sl 5]), (6, .cells 35 [.sl 7]), (8, .cells 36 [.v (.int .u64 p3)])] 9) := by
 rw [fn25v1] at h
 refine ConO.of_body Try.func25 Try.ntmps25 fun w F0 ρ => ?_
 refine RU tbOk false 999 3 [] aN (by rfl) ?_
 refine fk2 h (fun v1 hv2 h => ?_) (fun v3 hv4 h => ?_)
 ·refine RU tbOk false 999 0 [] aN (by rfl) ?_
  refine CX_ tbOk [1, 2, 3, 5] (c22v1_0 p0_0_0 p0_0_1 p0_0_2 p0_0_3 p0_0_4 p0_0_5 p1 v1 hv2) (aK aN) ?_
  refine RU tbOk false 999 0 [] aN (by rfl) ?_
  have hr := Option.some.inj h
  subst hr
  exact TP_ [0, 1, 2, 3, 4, 5, 6, 7, 8]
 ·refine RU tbOk false 999 1 [.cl true [1, 2, 3, 5] (fun _ => c22v1_1 p0_0_0 p0_0_1 p0_0_2 p0_0_3 p0_0_4 p0_0_5 p1 v3 hv4)] (aK aN) (by rfl) ?_
  refine RU tbOk false 999 5 [] aN (by rfl) ?_
  refine fk2 h (fun v5 hv6 h => ?_) (fun v7 hv8 h => ?_)
  ·refine DC_ tbOk hmix 12 [([6], []), ([7], []), ([0], []), ([], []), ([], []), ([], []), ([1], []), ([], []), ([], []), ([8], []), ([], []), ([], [])] [] (aR (aR (aR (aR aN)))) [] (c19_0 (((p2.length : Int) == p0_0_3) && (decide (p3 ≤ 2))) 2 v5 hv6) (aK aN) [25] ?_
   refine RU tbOk false 999 0 [] aN (by rfl) ?_
   have hr := Option.some.inj h
   subst hr
   exact TP_ [0, 1, 2, 3, 4, 5, 6, 7, 8]
  ·refine DR tbOk hmix [] [([6], []), ([7], []), ([0], []), ([], []), ([], []), ([], []), ([1], []), ([], []), ([], []), ([8], []), ([], []), ([], []), ([], [])] [.cl true [] (fun _ => c19_1 (((p2.length : Int) == p0_0_3) && (decide (p3 ≤ 2))) 2 v7 hv8)] (aR (aR (aR (aR (aK aN))))) (by rfl) ?_
   refine RU tbOk false 999 6 [] aN (by rfl) ?_
   refine fk2 h (fun v9 hv10 h => ?_) (fun v11 hv12 h => ?_)
   ·refine RU tbOk false 999 0 [] aN (by rfl) ?_
    refine G4.imp Imp.refl ?_
    refine CX_ tbOk [] (c19_0 ((!v3.2) || (p3 != 1)) 7 v9 hv10) (aK aN) ?_
    refine RU tbOk false 999 0 [] aN (by rfl) ?_
    have hr := Option.some.inj h
    subst hr
    exact TP_ [0, 1, 2, 3, 4, 5, 6, 7, 8]
   ·refine RU tbOk false 999 6 [.cl true [] (fun _ => c19_1 ((!v3.2) || (p3 != 1)) 7 v11 hv12)] (aK aN) (by rfl) ?_
    refine fk2 h (fun v13 hv14 h => ?_) (fun v15 hv16 h => ?_)
    ·refine RU tbOk false 999 0 [] aN (by rfl) ?_
     refine G4.imp Imp.refl ?_
     refine CX_ tbOk [] (c19_0 (v3.2 || (p3 != 2)) 6 v13 hv14) (aK aN) ?_
     refine RU tbOk false 999 0 [] aN (by rfl) ?_
     have hr := Option.some.inj h
     subst hr
     exact TP_ [0, 1, 2, 3, 4, 5, 6, 7, 8]
    ·refine RU tbOk false 999 3 [.cl true [] (fun _ => c19_1 (v3.2 || (p3 != 2)) 6 v15 hv16)] (aK aN) (by rfl) ?_
     refine CD h (by rfl) (fun h hb17 => ?_) (fun h hb17 => ?_)
     ·refine RU tbOk false 999 3 [] aN (by rfl) ?_
      refine fk2 h (fun v18 hv19 h => ?_) (fun v20 hv21 h => ?_)
      ·refine RU tbOk false 999 0 [] aN (by rfl) ?_
       refine CX_ tbOk [1, 2, 3] (c26_0 F p0_0_0 p0_0_1 p0_0_2 p0_0_3 p0_0_4 p0_0_5 v18 hv19) (aK aN) ?_
       refine RU tbOk false 999 0 [] aN (by rfl) ?_
       have hr := Option.some.inj h
       subst hr
       exact TP_ [0, 1, 2, 3, 4, 5, 6, 7, 8]
      ·refine RU tbOk false 999 1 [.cl true [1, 2, 3] (fun _ => c26_1 F p0_0_0 p0_0_1 p0_0_2 p0_0_3 p0_0_4 p0_0_5 v20 hv21)] (aK aN) (by rfl) ?_
       refine RU tbOk false 999 1 [] aN (by rfl) ?_
       refine DR tbOk hmix [] [([0], []), ([], []), ([], []), ([1], []), ([4], []), ([5], []), ([], []), ([3], [3])] [.b2 _, .mu Kn.str (Vn.int .i64) _ (strOfNums p1) v20 Try.runUnderlying34 Try.runUnderlying9] (aR (aR (aR (aR (aR (aR (aR (aR (aR aN))))))))) (by rfl) ?_
       refine RU tbOk false 999 4 [] aN (by rfl) ?_
       refine fk2 h (fun v22 hv23 h => ?_) (fun v24 hv25 h => ?_)
       ·refine RU tbOk false 999 0 [] aN (by rfl) ?_
        refine CX_ tbOk [1, 2, 3] (c23_0 p0_0_0 p0_0_1 p0_0_2 p0_0_3 p0_0_4 (mput p0_0_5 (strOfNums p1) v20) v20 v22 hv23) (aK aN) ?_
        refine RU tbOk false 999 0 [] aN (by rfl) ?_
        have hr := Option.some.inj h
        subst hr
        exact TP_ [0, 1, 2, 3, 4, 5, 6, 7, 8]
       ·refine RU tbOk false 999 1 [.cl true [1, 2, 3] (fun _ => c23_1 p0_0_0 p0_0_1 p0_0_2 p0_0_3 p0_0_4 (mput p0_0_5 (strOfNums p1) v20) v20 v24 hv25)] (aK aN) (by rfl) ?_
        obtain ⟨hk26, h⟩ := ck h
        refine RU tbOk false 999 4 [] aN (by rfl) ?_
        refine G4.imp (Imp.openO 2 v24 hk26 (by rfl)) ?_
        refine RU tbOk false 999 1 [.sh HCell.D 63 _ _ (gt p0_0_0 v24) (⟨true, (gt p0_0_0 v24).fthing⟩ : HCell) 9 _ _ _] (aR (aR (aR (aR aN)))) (by rfl) ?_
        refine DR tbOk hmix [4] [([], []), ([], []), ([], []), ([2], []), ([6], []), ([7, 9], [9]), ([], [])] [.lh HCell.D 63 _ _ (⟨true, (gt p0_0_0 v24).fthing⟩ : HCell), .co (Et.int .u8) 9 _ _] (aR (aR (aR (aR (aR (aR (aR (aC bleR aN)))))))) (by rfl) ?_
        refine RU tbOk false 999 0 [] aN (by rfl) ?_
        refine G4.imp (Imp.closeO 2 9 (by rfl) (by rfl) (by rfl)) ?_
        have hr := Option.some.inj h
        subst hr
        exact TO_ tbOk.t Try.results25 [0, 1, 2, 3, 4, 5, 6, 7, 8]
     ·refine RU tbOk false 999 4 [] aN (by rfl) ?_
      refine fk2 h (fun v27 hv28 h => ?_) (fun v29 hv30 h => ?_)
      ·refine RU tbOk false 999 0 [] aN (by rfl) ?_
       refine CX_ tbOk [1, 2, 3] (c23_0 p0_0_0 p0_0_1 p0_0_2 p0_0_3 p0_0_4 p0_0_5 v3.1 v27 hv28) (aK aN) ?_
       refine RU tbOk false 999 0 [] aN (by rfl) ?_
       have hr := Option.some.inj h
       subst hr
       exact TP_ [0, 1, 2, 3, 4, 5, 6, 7, 8]
      ·refine RU tbOk false 999 1 [.cl true [1, 2, 3] (fun _ => c23_1 p0_0_0 p0_0_1 p0_0_2 p0_0_3 p0_0_4 p0_0_5 v3.1 v29 hv30)] (aK aN) (by rfl) ?_
       obtain ⟨hk31, h⟩ := ck h
       refine RU tbOk false 999 4 [] aN (by rfl) ?_
       refine G4.imp (Imp.openO 2 v29 hk31 (by rfl)) ?_
       refine RU tbOk false 999 1 [.sh HCell.D 63 _ _ (gt p0_0_0 v29) (⟨true, (gt p0_0_0 v29).fthing⟩ : HCell) 9 _ _ _] (aR (aR (aR (aR aN)))) (by rfl) ?_
       refine DR tbOk hmix [4] [([], []), ([], []), ([], []), ([2], []), ([6], []), ([7, 9], [9]), ([], [])] [.lh HCell.D 63 _ _ (⟨true, (gt p0_0_0 v29).fthing⟩ : HCell), .co (Et.int .u8) 9 _ _] (aR (aR (aR (aR (aR (aR (aR (aC bleR aN)))))))) (by rfl) ?_
       refine RU tbOk false 999 0 [] aN (by rfl) ?_
       refine G4.imp (Imp.closeO 2 9 (by rfl) (by rfl) (by rfl)) ?_
       have hr := Option.some.inj h
       subst hr
       exact TO_ tbOk.t Try.results25 [0, 1, 2, 3, 4, 5, 6, 7, 8]
theorem c25v1_0 (F : Nat) (p0_0_0 : List HCell) (p0_0_1 : Int) (p0_0_2 : Int) (p0_0_3 : Int) (p0_0_4 : Int) (p0_0_5 : List (ByteArray × Int)) (p1 : List Int) (p2 : List Int) (p3 : Int) (r : (List HCell) × (List (ByteArray × Int)) × Int) (h : fn25v1 F p0_0_0 p0_0_1 p0_0_2 p0_0_3 p0_0_4 p0_0_5 p1 p2 p3 = some (.inl r)) : ConX Try.prog 25 [.p 0 0, .p 4 0, .p 6 0, .p 8 0] [(0, .cells 29 [.p 1 0]), (1, .cells 54 [.sl 2, .v (.int .u8 p0_0_1), .v (.int .i64 p0_0_2), .v (.int .i64 p0_0_3), .v (.int .i64 p0_0_4), .mp 3]), (2, .ex (pO HCell.D 63 p0_0_0) []), (3, .omap Kn.str (Vn.int .i64) p0_0_5), (4, .cells 35 [.sl 5]), (5, .rd (Et.int .u8) p1), (6, .cells 35 [.sl 7]), (7, .rd (Et.int .u8) p2), (8, .cells 36 [.v (.int .u64 p3)])] 9 (.iface 30 (.int .i64 r.2.2)) [(0, .cells 29 [.p 1 0]), (1, .cells 54 [.sl 2, .v (.int .u8 p0_0_1), .v (.int .i64 p0_0_2), .v (.int .i64 p0_0_3), .v (.int .i64 p0_0_4), .mp 3]), (2, .ex (pO HCell.D 63 r.1) []), (3, .omap Kn.str (Vn.int .i64) r.2.1), (4, .cells 35 [.sl 5]), (6, .cells 35 [.sl 7]), (8, .cells 36 [.v (.int .u64 p3)])] 9 := c25v1 F p0_0_0 p0_0_1 p0_0_2 p0_0_3 p0_0_4 p0_0_5 p1 p2 p3 _ h
theorem c25v1_1 (F : Nat) (p0_0_0 : List HCell) (p0_0_1 : Int) (p0_0_2 : Int) (p0_0_3 : Int) (p0_0_4 : Int) (p0_0_5 : List (ByteArray × Int)) (p1 : List Int) (p2 : List Int) (p3 : Int) (r : Int × (List HCell) × (List (ByteArray × Int))) (h : fn25v1 F p0_0_0 p0_0_1 p0_0_2 p0_0_3 p0_0_4 p0_0_5 p1 p2 p3 = some (.inr r)) : Con Try.prog 25 [.p 0 0, .p 4 0, .p 6 0, .p 8 0] [(0, .cells 29 [.p 1 0]), (1, .cells 54 [.sl 2, .v (.int .u8 p0_0_1), .v (.int .i64 p0_0_2), .v (.int .i64 p0_0_3), .v (.int .i64 p0_0_4), .mp 3]), (2, .ex (pO HCell.D 63 p0_0_0) []), (3, .omap Kn.str (Vn.int .i64) p0_0_5), (4, .cells 35 [.sl 5]), (5, .rd (Et.int .u8) p1), (6, .cells 35 [.sl 7]), (7, .rd (Et.int .u8) p2), (8, .cells 36 [.v (.int .u64 p3)])] 9 (.v (.int .i64 r.1)) [(0, .cells 29 [.p 1 0]), (1, .cells 54 [.sl 2, .v (.int .u8 p0_0_1), .v (.int .i64 p0_0_2), .v (.int .i64 p0_0_3), .v (.int .i64 p0_0_4), .mp 3]), (2, .ex (pO HCell.D 63 r.2.1) []), (3, .omap Kn.str (Vn.int .i64) r.2.2), (4, .cells 35 [.sl 5]), (6, .cells 35 [.sl 7]), (8, .cells 36 [.v (.int .u64 p3)])] 9 := c25v1 F p0_0_0 p0_0_1 p0_0_2 p0_0_3 p0_0_4 p0_0_5 p1 p2 p3 _ h
def fn39v1 (p0 : Int) (p1 : Int) : Unit :=
 ()
theorem c39v1 (p0 : Int) (p1 : Int) (r : Unit) (h : fn39v1 p0 p1 = r) : ConD Try.prog 39 [.p 0 0, .p 1 0] [(0, .cells 30 [.v (.int .i64 p0)]), (1, .cells 3 [.v (.int .i64 p1)])] 2 .ret [(0, .cells 30 [.v (.int .i64 p0)]), (1, .cells 3 [.v (.int .i64 p1)])] 2 := by
 rw [fn39v1] at h
 refine ConD.of_body Try.func39 Try.ntmps39 fun w F0 ρ => ?_
 refine RU tbOk false 999 2 [.ni] aN (by rfl) ?_
 refine CDF rfl (by rfl) ?_
 refine RU tbOk false 999 0 [] aN (by rfl) ?_
 subst h
 exact TQN_ Try.results39 [0, 1]
def fn24v2 (F : Nat) (p0c0_0_0 : List HCell) (p0c0_0_1 : Int) (p0c0_0_2 : Int) (p0c0_0_3 : Int) (p0c0_0_4 : Int) (p0c0_0_5 : List (ByteArray × Int)) (p0c1 : List Int) (p0c2 : List Int) (p0c3 : Int) : Option (Int × Int × (List HCell) × (List (ByteArray × Int))) :=
 frk2 (fn25v1 F p0c0_0_0 p0c0_0_1 p0c0_0_2 p0c0_0_3 p0c0_0_4 p0c0_0_5 p0c1 p0c2 p0c3) (fun v2 => some (((fn39 0 0 v2.2.2).2, (fn39 0 0 v2.2.2).1, v2.1, v2.2.1))) (fun v4 => some ((v4.1, 0, v4.2.1, v4.2.2)))
theorem c24v2 (F : Nat) (p0c0_0_0 : List HCell) (p0c0_0_1 : Int) (p0c0_0_2 : Int) (p0c0_0_3 : Int) (p0c0_0_4 : Int) (p0c0_0_5 : List (ByteArray × Int)) (p0c1 : List Int) (p0c2 : List Int) (p0c3 : Int) (r : Int × Int × (List HCell) × (List (ByteArray × Int))) (h : fn24v2 F p0c0_0_0 p0c0_0_1 p0c0_0_2 p0c0_0_3 p0c0_0_4 p0c0_0_5 p0c1 p0c2 p0c3 = some r) : ConO Try.prog 24 [.fn (.func 25) [] [.p 0 0, .p 4 0, .p 6 0, .p 8 0]] [(0, .cells 29 [.p 1 0]), (1, .cells 54 [.sl 2, .v (.int .u8 p0c0_0_1), .v (.int .i64 p0c0_0_2), .v (.int .i64 p0c0_0_3), .v (.int .i64 p0c0_0_4), .mp 3]), (2, .ex (pO HCell.D 63 p0c0_0_0) []), (3, .omap Kn.str (Vn.int .i64) p0c0_0_5), (4, .cells 35 [.sl 5]), (5, .rd (Et.int .u8) p0c1), (6, .cells 35 [.sl 7]), (7, .rd (Et.int .u8) p0c2), (8, .cells 36 [.v (.int .u64 p0c3)])] 9 (.ret (.tu [.v (.int .i64 r.1), .v (.int .i64 r.2.1)]) [(0, .cells 29 [.p 1 0]), (1, .cells 54 [.sl 2, .v (.int .u8 p0c0_0_1), .v (.int .i64 p0c0_0_2), .v (.int .i64 p0c0_0_3), .v (.int .i64 p0c0_0_4), .mp 3]), (2, .ex (pO HCell.D 63 r.2.2.1) []), (3, .omap Kn.str (Vn.int .i64) r.2.2.2), (4, .cells 35 [.sl 5]), (6, .cells 35 [.sl 7]), (8, .cells 36 [.v (.int .u64 p0c3)])] 9) := by
 rw [fn24v2] at h
 refine ConO.of_body Try.func24 Try.ntmps24 fun w F0 ρ => ?_
 refine RU tbOk false 999 3 [] aN (by rfl) ?_
 refine DF_ (fun vs1 => ?_)
 refine RU tbOk false 999 1 [] aN (by rfl) ?_
 refine fk2 h (fun v2 hv3 h => ?_) (fun v4 hv5 h => ?_)
 ·refine RU tbOk false 999 0 [] aN (by rfl) ?_
  refine CX_ tbOk [0, 1, 2, 3, 4, 5, 6, 7, 8] (c25v1_0 F p0c0_0_0 p0c0_0_1 p0c0_0_2 p0c0_0_3 p0c0_0_4 p0c0_0_5 p0c1 p0c2 p0c3 v2 hv3) (aK aN) ?_
  refine RU tbOk false 999 0 [] aN (by rfl) ?_
  have hr := Option.some.inj h
  subst hr
  exact TDP_ tbOk Try.results24 11 [10, 9] (c39 0 0 v2.2.2 _ rfl) [0, 1, 2, 3, 4, 5, 6, 7, 8]
 ·refine RU tbOk false 999 1 [.cl true [0, 1, 2, 3, 4, 5, 6, 7, 8] (fun _ => c25v1_1 F p0c0_0_0 p0c0_0_1 p0c0_0_2 p0c0_0_3 p0c0_0_4 p0c0_0_5 p0c1 p0c2 p0c3 v4 hv5)] (aK aN) (by rfl) ?_
  refine RU tbOk false 999 2 [] aN (by rfl) ?_
  have hr := Option.some.inj h
  subst hr
  exact TD_ tbOk Try.results24 11 [10, 9] (c39v1 0 v4.1 _ rfl) [0, 1, 2, 3, 4, 5, 6, 7, 8]
theorem c24v2_0 (F : Nat) (p0c0_0_0 : List HCell) (p0c0_0_1 : Int) (p0c0_0_2 : Int) (p0c0_0_3 : Int) (p0c0_0_4 : Int) (p0c0_0_5 : List (ByteArray × Int)) (p0c1 : List Int) (p0c2 : List Int) (p0c3 : Int) (r : Int × Int × (List HCell) × (List (ByteArray × Int))) (h : fn24v2 F p0c0_0_0 p0c0_0_1 p0c0_0_2 p0c0_0_3 p0c0_0_4 p0c0_0_5 p0c1 p0c2 p0c3 = some r) : Con Try.prog 24 [.fn (.func 25) [] [.p 0 0, .p 4 0, .p 6 0, .p 8 0]] [(0, .cells 29 [.p 1 0]), (1, .cells 54 [.sl 2, .v (.int .u8 p0c0_0_1), .v (.int .i64 p0c0_0_2), .v (.int .i64 p0c0_0_3), .v (.int .i64 p0c0_0_4), .mp 3]), (2, .ex (pO HCell.D 63 p0c0_0_0) []), (3, .omap Kn.str (Vn.int .i64) p0c0_0_5), (4, .cells 35 [.sl 5]), (5, .rd (Et.int .u8) p0c1), (6, .cells 35 [.sl 7]), (7, .rd (Et.int .u8) p0c2), (8, .cells 36 [.v (.int .u64 p0c3)])] 9 (.tu [.v (.int .i64 r.1), .v (.int .i64 r.2.1)]) [(0, .cells 29 [.p 1 0]), (1, .cells 54 [.sl 2, .v (.int .u8 p0c0_0_1), .v (.int .i64 p0c0_0_2), .v (.int .i64 p0c0_0_3), .v (.int .i64 p0c0_0_4), .mp 3]), (2, .ex (pO HCell.D 63 r.2.2.1) []), (3, .omap Kn.str (Vn.int .i64) r.2.2.2), (4, .cells 35 [.sl 5]), (6, .cells 35 [.sl 7]), (8, .cells 36 [.v (.int .u64 p0c3)])] 9 := c24v2 F p0c0_0_0 p0c0_0_1 p0c0_0_2 p0c0_0_3 p0c0_0_4 p0c0_0_5 p0c1 p0c2 p0c3 _ h
def fn10v1 (F : Nat) (p0_0 : List HCell) (p0_1 : Int) (p0_2 : Int) (p0_3 : Int) (p0_4 : Int) (p0_5 : List (ByteArray × Int)) (p1 : List Int) (p2 : List Int) (p3 : Int) : Option (Int × (List HCell) × (List (ByteArray × Int))) :=
 frk1 (fn24v2 F p0_0 p0_1 p0_2 p0_3 p0_4 p0_5 p1 p2 p3) (fun v1 => some ((v1.2.1, v1.2.2.1, v1.2.2.2)))
theorem c10v1 (F : Nat) (p0_0 : List HCell) (p0_1 : Int) (p0_2 : Int) (p0_3 : Int) (p0_4 : Int) (p0_5 : List (ByteArray × Int)) (p1 : List Int) (p2 : List Int) (p3 : Int) (r : Int × (List HCell) × (List (ByteArray × Int))) (h : fn10v1 F p0_0 p0_1 p0_2 p0_3 p0_4 p0_5 p1 p2 p3 = some r) : Con Try.prog 10 [.p 0 0, .sl 3, .sl 4, .v (.int .u64 p3)] [(0, .cells 54 [.sl 1, .v (.int .u8 p0_1), .v (.int .i64 p0_2), .v (.int .i64 p0_3), .v (.int .i64 p0_4), .mp 2]), (1, .ex (pO HCell.D 63 p0_0) []), (2, .omap Kn.str (Vn.int .i64) p0_5), (3, .rd (Et.int .u8) p1), (4, .rd (Et.int .u8) p2)] 5 (.v (.int .i64 r.1)) [(0, .cells 54 [.sl 1, .v (.int .u8 p0_1), .v (.int .i64 p0_2), .v (.int .i64 p0_3), .v (.int .i64 p0_4), .mp 2]), (1, .ex (pO HCell.D 63 r.2.1) []), (2, .omap Kn.str (Vn.int .i64) r.2.2)] 5 := by
 rw [fn10v1] at h
 refine Con.of_body Try.func10 rfl Try.ntmps10 rfl fun w F0 ρ => ?_
 refine RU tbOk false 999 6 [] aN (by rfl) ?_
 refine fk1 h (fun v1 hv2 h => ?_)
 ·refine RU tbOk false 999 1 [.cl true [5, 0, 1, 2, 6, 3, 7, 4, 8] (fun _ => c24v2_0 F p0_0 p0_1 p0_2 p0_3 p0_4 p0_5 p1 p2 p3 v1 hv2)] (aK aN) (by rfl) ?_
  refine RU tbOk false 999 7 [] aN (by rfl) ?_
  have hr := Option.some.inj h
  subst hr
  exact RT tbOk.t Try.results10 [0, 1, 2, 3, 4] (by rfl) (by rfl) (by rfl) rfl rfl
def fn27v1 (p0_0_0 : List HCell) (p0_0_1 : Int) (p0_0_2 : Int) (p0_0_3 : Int) (p0_0_4 : Int) (p0_0_5 : List (ByteArray × Int)) (p1 : List Int) : Option (Int ⊕ Int) :=
 frk2 (fn22v1 p0_0_0 p0_0_1 p0_0_2 p0_0_3 p0_0_4 p0_0_5 p1) (fun v1 => some ((.inl v1))) (fun v3 => frk2 (fn19 v3.2 6) (fun v5 => some ((.inl v5))) (fun v7 => some ((.inr v3.1))))
theorem c27v1 (p0_0_0 : List HCell) (p0_0_1 : Int) (p0_0_2 : Int) (p0_0_3 : Int) (p0_0_4 : Int) (p0_0_5 : List (ByteArray × Int)) (p1 : List Int) (r : Int ⊕ Int) (h : fn27v1 p0_0_0 p0_0_1 p0_0_2 p0_0_3 p0_0_4 p0_0_5 p1 = some r) : ConO Try.prog 27 [.p 0 0, .p 4 0] [(0, .cells 29 [.p 1 0]), (1, .cells 54 [.sl 2, .v (.int .u8 p0_0_1), .v (.int .i64 p0_0_2), .v (.int .i64 p0_0_3), .v (.int .i64 p0_0_4), .mp 3]), (2, .ex (pO HCell.D 63 p0_0_0) []), (3, .omap Kn.str (Vn.int .i64) p0_0_5), (4, .cells 35 [.sl 5]), (5, .rd (Et.int .u8) p1)] 6 (match r with | .inl r => .pan (.iface 30 (.int .i64 r)) [(0, .cells 29 [.p 1 0]), (1, .cells 54 [.sl 2, .v (.int .u8 p0_0_1), .v (.int .i64 p0_0_2), .v (.int .i64 p0_0_3), .v (.int .i64 p0_0_4), .mp 3]), (2, .ex (pO HCell.D 63 p0_0_0) []), (3, .omap Kn.str (Vn.int .i64) p0_0_5), (4, .cells 35 [.sl 5])] 6 | .inr r => .ret (.v (.int .i64 r)) [(0, .cells 29 [.p 1 0]), (1, .cells 54 [.sl 2, .v (.int .u8 p0_0_1), .v (.int .i64 p0_0_2), .v (.int .i64 p0_0_3), .v (.int .i64 p0_0_4), .mp 3]), (2, .ex (pO HCell.D 63 p0_0_0) []), (3, .omap Kn.str (Vn.int .i64) p0_0_5), (4, .cells 35 [.sl 5])] 6) := by
 rw [fn27v1] at h
 refine ConO.of_body Try.func27 Try.ntmps27 fun w F0 ρ => ?_
 refine RU tbOk false 999 3 [] aN (by rfl) ?_
 refine fk2 h (fun v1 hv2 h => ?_) (fun v3 hv4 h => ?_)
 ·refine RU tbOk false 999 0 [] aN (by rfl) ?_
  refine CX_ tbOk [1, 2, 3, 5] (c22v1_0 p0_0_0 p0_0_1 p0_0_2 p0_0_3 p0_0_4 p0_0_5 p1 v1 hv2) (aK aN) ?_
  refine RU tbOk false 999 0 [] aN (by rfl) ?_
  have hr := Option.some.inj h
  subst hr
  exact TP_ [0, 1, 2, 3, 4, 5]
 ·refine RU tbOk false 999 1 [.cl true [1, 2, 3, 5] (fun _ => c22v1_1 p0_0_0 p0_0_1 p0_0_2 p0_0_3 p0_0_4 p0_0_5 p1 v3 hv4)] (aK aN) (by rfl) ?_
  refine RU tbOk false 999 6 [] aN (by rfl) ?_
  refine fk2 h (fun v5 hv6 h => ?_) (fun v7 hv8 h => ?_)
  ·refine RU tbOk false 999 0 [] aN (by rfl) ?_
   refine CX_ tbOk [] (c19_0 v3.2 6 v5 hv6) (aK aN) ?_
   refine RU tbOk false 999 0 [] aN (by rfl) ?_
   have hr := Option.some.inj h
   subst hr
   exact TP_ [0, 1, 2, 3, 4, 5]
  ·refine RU tbOk false 999 1 [.cl true [] (fun _ => c19_1 v3.2 6 v7 hv8)] (aK aN) (by rfl) ?_
   refine RU tbOk false 999 2 [] aN (by rfl) ?_
   have hr := Option.some.inj h
   subst hr
   exact TO_ tbOk.t Try.results27 [0, 1, 2, 3, 4, 5]
theorem c27v1_0 (p0_0_0 : List HCell) (p0_0_1 : Int) (p0_0_2 : Int) (p0_0_3 : Int) (p0_0_4 : Int) (p0_0_5 : List (ByteArray × Int)) (p1 : List Int) (r : Int) (h : fn27v1 p0_0_0 p0_0_1 p0_0_2 p0_0_3 p0_0_4 p0_0_5 p1 = some (.inl r)) : ConX Try.prog 27 [.p 0 0, .p 4 0] [(0, .cells 29 [.p 1 0]), (1, .cells 54 [.sl 2, .v (.int .u8 p0_0_1), .v (.int .i64 p0_0_2), .v (.int .i64 p0_0_3), .v (.int .i64 p0_0_4), .mp 3]), (2, .ex (pO HCell.D 63 p0_0_0) []), (3, .omap Kn.str (Vn.int .i64) p0_0_5), (4, .cells 35 [.sl 5]), (5, .rd (Et.int .u8) p1)] 6 (.iface 30 (.int .i64 r)) [(0, .cells 29 [.p 1 0]), (1, .cells 54 [.sl 2, .v (.int .u8 p0_0_1), .v (.int .i64 p0_0_2), .v (.int .i64 p0_0_3), .v (.int .i64 p0_0_4), .mp 3]), (2, .ex (pO HCell.D 63 p0_0_0) []), (3, .omap Kn.str (Vn.int .i64) p0_0_5), (4, .cells 35 [.sl 5])] 6 := c27v1 p0_0_0 p0_0_1 p0_0_2 p0_0_3 p0_0_4 p0_0_5 p1 _ h
theorem c27v1_1 (p0_0_0 : List HCell) (p0_0_1 : Int) (p0_0_2 : Int) (p0_0_3 : Int) (p0_0_4 : Int) (p0_0_5 : List (ByteArray × Int)) (p1 : List Int) (r : Int) (h : fn27v1 p0_0_0 p0_0_1 p0_0_2 p0_0_3 p0_0_4 p0_0_5 p1 = some (.inr r)) : Con Try.prog 27 [.p 0 0, .p 4 0] [(0, .cells 29 [.p 1 0]), (1, .cells 54 [.sl 2, .v (.int .u8 p0_0_1), .v (.int .i64 p0_0_2), .v (.int .i64 p0_0_3), .v (.int .i64 p0_0_4), .mp 3]), (2, .ex (pO HCell.D 63 p0_0_0) []), (3, .omap Kn.str (Vn.int .i64) p0_0_5), (4, .cells 35 [.sl 5]), (5, .rd (Et.int .u8) p1)] 6 (.v (.int .i64 r)) [(0, .cells 29 [.p 1 0]), (1, .cells 54 [.sl 2, .v (.int .u8 p0_0_1), .v (.int .i64 p0_0_2), .v (.int .i64 p0_0_3), .v (.int .i64 p0_0_4), .mp 3]), (2, .ex (pO HCell.D 63 p0_0_0) []), (3, .omap Kn.str (Vn.int .i64) p0_0_5), (4, .cells 35 [.sl 5])] 6 := c27v1 p0_0_0 p0_0_1 p0_0_2 p0_0_3 p0_0_4 p0_0_5 p1 _ h
def fn24v3 (p0c0_0_0 : List HCell) (p0c0_0_1 : Int) (p0c0_0_2 : Int) (p0c0_0_3 : Int) (p0c0_0_4 : Int) (p0c0_0_5 : List (ByteArray × Int)) (p0c1 : List Int) : Option (Int × Int) :=
 frk2 (fn27v1 p0c0_0_0 p0c0_0_1 p0c0_0_2 p0c0_0_3 p0c0_0_4 p0c0_0_5 p0c1) (fun v2 => some (((fn39 0 0 v2).2, (fn39 0 0 v2).1))) (fun v4 => some ((v4, 0)))
theorem c24v3 (p0c0_0_0 : List HCell) (p0c0_0_1 : Int) (p0c0_0_2 : Int) (p0c0_0_3 : Int) (p0c0_0_4 : Int) (p0c0_0_5 : List (ByteArray × Int)) (p0c1 : List Int) (r : Int × Int) (h : fn24v3 p0c0_0_0 p0c0_0_1 p0c0_0_2 p0c0_0_3 p0c0_0_4 p0c0_0_5 p0c1 = some r) : ConO Try.prog 24 [.fn (.func 27) [] [.p 0 0, .p 4 0]] [(0, .cells 29 [.p 1 0]), (1, .cells 54 [.sl 2, .v (.int .u8 p0c0_0_1), .v (.int .i64 p0c0_0_2), .v (.int .i64 p0c0_0_3), .v (.int .i64 p0c0_0_4), .mp 3]), (2, .ex (pO HCell.D 63 p0c0_0_0) []), (3, .omap Kn.str (Vn.int .i64) p0c0_0_5), (4, .cells 35 [.sl 5]), (5, .rd (Et.int .u8) p0c1)] 6 (.ret (.tu [.v (.int .i64 r.1), .v (.int .i64 r.2)]) [(0, .cells 29 [.p 1 0]), (1, .cells 54 [.sl 2, .v (.int .u8 p0c0_0_1), .v (.int .i64 p0c0_0_2), .v (.int .i64 p0c0_0_3), .v (.int .i64 p0c0_0_4), .mp 3]), (2, .ex (pO HCell.D 63 p0c0_0_0) []), (3, .omap Kn.str (Vn.int .i64) p0c0_0_5), (4, .cells 35 [.sl 5])] 6) := by
 rw [fn24v3] at h
 refine ConO.of_body Try.func24 Try.ntmps24 fun w F0 ρ => ?_
 refine RU tbOk false 999 3 [] aN (by rfl) ?_
 refine DF_ (fun vs1 => ?_)
 refine RU tbOk false 999 1 [] aN (by rfl) ?_
 refine fk2 h (fun v2 hv3 h => ?_) (fun v4 hv5 h => ?_)
 ·refine RU tbOk false 999 0 [] aN (by rfl) ?_
  refine CX_ tbOk [0, 1, 2, 3, 4, 5] (c27v1_0 p0c0_0_0 p0c0_0_1 p0c0_0_2 p0c0_0_3 p0c0_0_4 p0c0_0_5 p0c1 v2 hv3) (aK aN) ?_
  refine RU tbOk false 999 0 [] aN (by rfl) ?_
  have hr := Option.some.inj h
  subst hr
  exact TDP_ tbOk Try.results24 8 [7, 6] (c39 0 0 v2 _ rfl) [0, 1, 2, 3, 4, 5]
 ·refine RU tbOk false 999 1 [.cl true [0, 1, 2, 3, 4, 5] (fun _ => c27v1_1 p0c0_0_0 p0c0_0_1 p0c0_0_2 p0c0_0_3 p0c0_0_4 p0c0_0_5 p0c1 v4 hv5)] (aK aN) (by rfl) ?_
  refine RU tbOk false 999 2 [] aN (by rfl) ?_
  have hr := Option.some.inj h
  subst hr
  exact TD_ tbOk Try.results24 8 [7, 6] (c39v1 0 v4 _ rfl) [0, 1, 2, 3, 4, 5]
theorem c24v3_0 (p0c0_0_0 : List HCell) (p0c0_0_1 : Int) (p0c0_0_2 : Int) (p0c0_0_3 : Int) (p0c0_0_4 : Int) (p0c0_0_5 : List (ByteArray × Int)) (p0c1 : List Int) (r : Int × Int) (h : fn24v3 p0c0_0_0 p0c0_0_1 p0c0_0_2 p0c0_0_3 p0c0_0_4 p0c0_0_5 p0c1 = some r) : Con Try.prog 24 [.fn (.func 27) [] [.p 0 0, .p 4 0]] [(0, .cells 29 [.p 1 0]), (1, .cells 54 [.sl 2, .v (.int .u8 p0c0_0_1), .v (.int .i64 p0c0_0_2), .v (.int .i64 p0c0_0_3), .v (.int .i64 p0c0_0_4), .mp 3]), (2, .ex (pO HCell.D 63 p0c0_0_0) []), (3, .omap Kn.str (Vn.int .i64) p0c0_0_5), (4, .cells 35 [.sl 5]), (5, .rd (Et.int .u8) p0c1)] 6 (.tu [.v (.int .i64 r.1), .v (.int .i64 r.2)]) [(0, .cells 29 [.p 1 0]), (1, .cells 54 [.sl 2, .v (.int .u8 p0c0_0_1), .v (.int .i64 p0c0_0_2), .v (.int .i64 p0c0_0_3), .v (.int .i64 p0c0_0_4), .mp 3]), (2, .ex (pO HCell.D 63 p0c0_0_0) []), (3, .omap Kn.str (Vn.int .i64) p0c0_0_5), (4, .cells 35 [.sl 5])] 6 := c24v3 p0c0_0_0 p0c0_0_1 p0c0_0_2 p0c0_0_3 p0c0_0_4 p0c0_0_5 p0c1 _ h
def fn11v1 (p0_0 : List HCell) (p0_1 : Int) (p0_2 : Int) (p0_3 : Int) (p0_4 : Int) (p0_5 : List (ByteArray × Int)) (p1 : List Int) : Option (Int × Int) :=
 frk1 (fn24v3 p0_0 p0_1 p0_2 p0_3 p0_4 p0_5 p1) (fun v1 => some ((v1.1, v1.2)))
theorem c11v1 (p0_0 : List HCell) (p0_1 : Int) (p0_2 : Int) (p0_3 : Int) (p0_4 : Int) (p0_5 : List (ByteArray × Int)) (p1 : List Int) (r : Int × Int) (h : fn11v1 p0_0 p0_1 p0_2 p0_3 p0_4 p0_5 p1 = some r) : Con Try.prog 11 [.p 0 0, .sl 3] [(0, .cells 54 [.sl 1, .v (.int .u8 p0_1), .v (.int .i64 p0_2), .v (.int .i64 p0_3), .v (.int .i64 p0_4), .mp 2]), (1, .ex (pO HCell.D 63 p0_0) []), (2, .omap Kn.str (Vn.int .i64) p0_5), (3, .rd (Et.int .u8) p1)] 4 (.tu [.v (.int .i64 r.1), .v (.int .i64 r.2)]) [(0, .cells 54 [.sl 1, .v (.int .u8 p0_1), .v (.int .i64 p0_2), .v (.int .i64 p0_3), .v (.int .i64 p0_4), .mp 2]), (1, .ex (pO HCell.D 63 p0_0) []), (2, .omap Kn.str (Vn.int .i64) p0_5)] 4 := by
 rw [fn11v1] at h
 refine Con.of_body Try.func11 rfl Try.ntmps11 rfl fun w F0 ρ => ?_
 refine RU tbOk false 999 5 [] aN (by rfl) ?_
 refine fk1 h (fun v1 hv2 h => ?_)
 ·refine RU tbOk false 999 1 [.cl true [4, 0, 1, 2, 5, 3] (fun _ => c24v3_0 p0_0 p0_1 p0_2 p0_3 p0_4 p0_5 p1 v1 hv2)] (aK aN) (by rfl) ?_
  refine RU tbOk false 999 4 [] aN (by rfl) ?_
  have hr := Option.some.inj h
  subst hr
  exact RT tbOk.t Try.results11 [0, 1, 2, 3] (by rfl) (by rfl) (by rfl) rfl rfl
def fn29 (p0 : List (ByteArray × Int)) : Unit :=
 ()
theorem c29 (p0 : List (ByteArray × Int)) (r : Unit) (h : fn29 p0 = r) : Con Try.prog 29 [.mp 0] [(0, .omap Kn.str (Vn.int .i64) p0)] 1 (.fn (.func 43) [] [.p 1 0]) [(0, .omap Kn.str (Vn.int .i64) p0), (1, .cells 34 [.mp 0])] 2 := by
 rw [fn29] at h
 refine Con.of_body Try.func29 rfl Try.ntmps29 rfl fun w F0 ρ => ?_
 refine RU tbOk false 999 4 [] aN (by rfl) ?_
 subst h
 exact RT tbOk.t Try.results29 [0, 1] (by rfl) (by rfl) (by rfl) rfl rfl
def fn12v1_b1 (v1 : List ByteArray) (rl1 : (List (List Int)) → Int → Option ((List (List Int)))) (xs7 : List (List Int)) (x8 : Int) : Option ((List (List Int))) :=
 bif decide (x8 < (v1.length : Int)) then (bif inb x8 v1.length then (bif decide ((gt v1 x8).size ≤ 9223372036854775807) then (bif decide ((xs7.length + 1) * 24 ≤ 140737488355328 ∧ xs7.length + 1 ≤ 9223372036854775807) then (rl1 (xs7 ++ [numsOf (gt v1 x8)]) (IntKind.i64.wrap (x8 + 1))) else none) else none) else none) else (some xs7)
def fn12v1_l1 (v1 : List ByteArray) : Nat → (List (List Int)) → Int → Option ((List (List Int)))
 | 0, _, _ => none
 | n16 + 1, xs7, x8 => fn12v1_b1 v1 (fn12v1_l1 v1 n16) xs7 x8
theorem fn12v1_l1_s (v1 : List ByteArray) (n16 : Nat) (xs7 : List (List Int)) (x8 : Int) : fn12v1_l1 v1 (n16 + 1) xs7 x8 = fn12v1_b1 v1 (fn12v1_l1 v1 n16) xs7 x8 := rfl
def fn12v1_k1 (xs13 : List (List Int)) : Option (((List (List Int)))) :=
 some (xs13)
def fn12v1 (F : Nat) (p0_0 : List HCell) (p0_1 : Int) (p0_2 : Int) (p0_3 : Int) (p0_4 : Int) (p0_5 : List (ByteArray × Int)) : Option ((List (List Int))) :=
 Option.bind (fn28 p0_5) fun v1 => (Option.bind (fn12v1_l1 v1 F ([] : List (List Int)) 0) fun o14 => (fn12v1_k1 o14))
theorem c12v1 (F : Nat) (p0_0 : List HCell) (p0_1 : Int) (p0_2 : Int) (p0_3 : Int) (p0_4 : Int) (p0_5 : List (ByteArray × Int)) (r : (List (List Int))) (h : fn12v1 F p0_0 p0_1 p0_2 p0_3 p0_4 p0_5 = some r) : Con Try.prog 12 [.p 0 0] [(0, .cells 54 [.sl 1, .v (.int .u8 p0_1), .v (.int .i64 p0_2), .v (.int .i64 p0_3), .v (.int .i64 p0_4), .mp 2]), (1, .ex (pO HCell.D 63 p0_0) []), (2, .omap Kn.str (Vn.int .i64) p0_5)] 3 (.sl 3) [(0, .cells 54 [.sl 1, .v (.int .u8 p0_1), .v (.int .i64 p0_2), .v (.int .i64 p0_3), .v (.int .i64 p0_4), .mp 2]), (1, .ex (pO HCell.D 63 p0_0) []), (2, .omap Kn.str (Vn.int .i64) p0_5), (3, .rowL (Et.int .u8) 5 35 r r.length)] 4 := by
 rw [fn12v1] at h
 refine Con.of_body Try.func12 rfl Try.ntmps12 rfl fun w F0 ρ => ?_
 refine RU tbOk false 999 3 [.pn] aN (by rfl) ?_
 refine CDF rfl (by rfl) ?_
 refine RU tbOk false 999 6 [.cl true [2] (fun _ => c29 p0_5 _ rfl)] (aK aN) (by rfl) ?_
 obtain ⟨v1, hv2, h⟩ := bd h
 refine RU tbOk false 999 1 [.cl true [3, 2] (fun _ => c28 p0_5 _ hv2)] (aK aN) (by rfl) ?_
 refine RU tbOk false 999 2 [] aN (by rfl) ?_
 refine G4.imp (Imp.nilL (Et.int .u8) 5 35 3 (by rfl)) ?_
 obtain ⟨o14, hl15, h⟩ := bd h
 refine CT 0 ⟨[(3, .sl 3)], [(0, .cells 54 [.sl 1, .v (.int .u8 p0_1), .v (.int .i64 p0_2), .v (.int .i64 p0_3), .v (.int .i64 p0_4), .mp 2]), (1, .ex (pO HCell.D 63 p0_0) []), (2, .omap Kn.str (Vn.int .i64) p0_5), (3, .rowL (Et.int .u8) 5 35 o14 o14.length)], 4⟩ ?_ ?_
 ·have h018 := h
  clear h
  refine G4.imp (Imp.to [0, 1, 2, 4, 5] (by rfl) (by rfl) rfl rfl) (LP (fun (n : Nat) (s : (List (List Int)) × Int) => fn12v1_l1 v1 n s.1 s.2) (fun (s : (List (List Int)) × Int) => ⟨[(3, .sl 4), (13, .sl 3), (14, .v (.int .i64 (v1.length : Int))), (15, .v (.int .i64 s.2))], [(0, .cells 54 [.sl 1, .v (.int .u8 p0_1), .v (.int .i64 p0_2), .v (.int .i64 p0_3), .v (.int .i64 p0_4), .mp 2]), (1, .ex (pO HCell.D 63 p0_0) []), (2, .omap Kn.str (Vn.int .i64) p0_5), (3, .row Et.str 9 v1 v1.length .unk), (4, .rowL (Et.int .u8) 5 35 s.1 s.1.length)], 5⟩) (fun _ => rfl) (s0 := (([] : List (List Int)), 0)) hl15 ?_)
  clear hl15
  rintro R19 n16 ⟨xs7, x8⟩ h ih17
  replace h := (fn12v1_l1_s v1 n16 xs7 x8).symm.trans h
  rw [fn12v1_b1] at h
  refine RU tbOk false 999 1 [] aN (by rfl) ?_
  refine CD h (by rfl) (fun h hb20 => ?_) (fun h hb20 => ?_)
  ·obtain ⟨hk21, h⟩ := ck h
   obtain ⟨hk22, h⟩ := ck h
   obtain ⟨hk23, h⟩ := ck h
   refine RU tbOk false 999 11 [.s2, .b1 (Et.int .u8), .aL (Et.int .u8) 5 _ _] (aC hk21 (aC hk22 (aR (aR (aR (aC hk23 aN)))))) (by rfl) ?_
   exact ih17 (xs7 ++ [numsOf (gt v1 x8)], IntKind.i64.wrap (x8 + 1)) h _ _ (Imp.to [0, 1, 2, 3, 7] (by rfl) (by rfl) rfl rfl)
  ·refine RU tbOk false 999 0 [] aN (by rfl) ?_
   have ho := Option.some.inj h
   subst ho
   exact CE (Imp.to [0, 1, 2, 4] (by rfl) (by rfl) rfl rfl)
 ·change fn12v1_k1 o14 = _ at h
  rw [fn12v1_k1] at h
  refine RU tbOk false 999 2 [] aN (by rfl) ?_
  have hr := Option.some.inj h
  subst hr
  exact RT tbOk.t Try.results12 [0, 1, 2, 3] (by rfl) (by rfl) (by rfl) rfl rfl
def fn21v1 (p0_0_0 : List HCell) (p0_0_1 : Int) (p0_0_2 : Int) (p0_0_3 : Int) (p0_0_4 : Int) (p0_0_5 : List (ByteArray × Int)) (p1 : List Int) : Option (((List HCell) × (List (ByteArray × Int)) × Int) ⊕ (Bool × (List HCell) × (List (ByteArray × Int)))) :=
 frk2 (fn22v1 p0_0_0 p0_0_1 p0_0_2 p0_0_3 p0_0_4 p0_0_5 p1) (fun v1 => some ((.inl (p0_0_0, p0_0_5, v1)))) (fun v3 => frk2 (fn19 v3.2 6) (fun v5 => some ((.inl (p0_0_0, p0_0_5, v5)))) (fun v7 => frk2 (fn23 p0_0_0 p0_0_1 p0_0_2 p0_0_3 p0_0_4 p0_0_5 v3.1) (fun v9 => some ((.inl (p0_0_0, p0_0_5, v9)))) (fun v11 => bif inb v11 p0_0_0.length then (some ((.inr (true, p0_0_0.set v11.toNat (⟨(⟨false, (gt p0_0_0 v11).fthing⟩ : HCell).fused, (gt p0_0_0 v11).fthing⟩ : HCell), mdel p0_0_5 (strOfNums p1))))) else none)))
theorem c21v1 (p0_0_0 : List HCell) (p0_0_1 : Int) (p0_0_2 : Int) (p0_0_3 : Int) (p0_0_4 : Int) (p0_0_5 : List (ByteArray × Int)) (p1 : List Int) (r : ((List HCell) × (List (ByteArray × Int)) × Int) ⊕ (Bool × (List HCell) × (List (ByteArray × Int)))) (h : fn21v1 p0_0_0 p0_0_1 p0_0_2 p0_0_3 p0_0_4 p0_0_5 p1 = some r) : ConO Try.prog 21 [.p 0 0, .p 4 0] [(0, .cells 29 [.p 1 0]), (1, .cells 54 [.sl 2, .v (.int .u8 p0_0_1), .v (.int .i64 p0_0_2), .v (.int .i64 p0_0_3), .v (.int .i64 p0_0_4), .mp 3]), (2, .ex (pO HCell.D 63 p0_0_0) []), (3, .omap Kn.str (Vn.int .i64) p0_0_5), (4, .cells 35 [.sl 5]), (5, .rd (Et.int .u8) p1)] 6 (match r with | .inl r => .pan (.iface 30 (.int .i64 r.2.2)) [(0, .cells 29 [.p 1 0]), (1, .cells 54 [.sl 2, .v (.int .u8 p0_0_1), .v (.int .i64 p0_0_2), .v (.int .i64 p0_0_3), .v (.int .i64 p0_0_4), .mp 3]), (2, .ex (pO HCell.D 63 r.1) []), (3, .omap Kn.str (Vn.int .i64) r.2.1), (4, .cells 35 [.sl 5])] 6 | .inr r => .ret (.v (.bool r.1)) [(0, .cells 29 [.p 1 0]), (1, .cells 54 [.sl 2, .v (.int .u8 p0_0_1), .v (.int .i64 p0_0_2), .v (.int .i64 p0_0_3), .v (.int .i64 p0_0_4), .mp 3]), (2, .ex (pO HCell.D 63 r.2.1) []), (3, .omap Kn.str (Vn.int .i64) r.2.2), (4, .cells 35 [.sl 5])] 6) := by
 rw [fn21v1] at h
 refine ConO.of_body Try.func21 Try.ntmps21 fun w F0 ρ => ?_
 refine RU tbOk false 999 3 [] aN (by rfl) ?_
 refine fk2 h (fun v1 hv2 h => ?_) (fun v3 hv4 h => ?_)
 ·refine RU tbOk false 999 0 [] aN (by rfl) ?_
  refine CX_ tbOk [1, 2, 3, 5] (c22v1_0 p0_0_0 p0_0_1 p0_0_2 p0_0_3 p0_0_4 p0_0_5 p1 v1 hv2) (aK aN) ?_
  refine RU tbOk false 999 0 [] aN (by rfl) ?_
  have hr := Option.some.inj h
  subst hr
  exact TP_ [0, 1, 2, 3, 4, 5]
 ·refine RU tbOk false 999 1 [.cl true [1, 2, 3, 5] (fun _ => c22v1_1 p0_0_0 p0_0_1 p0_0_2 p0_0_3 p0_0_4 p0_0_5 p1 v3 hv4)] (aK aN) (by rfl) ?_
  refine RU tbOk false 999 6 [] aN (by rfl) ?_
  refine fk2 h (fun v5 hv6 h => ?_) (fun v7 hv8 h => ?_)
  ·refine RU tbOk false 999 0 [] aN (by rfl) ?_
   refine CX_ tbOk [] (c19_0 v3.2 6 v5 hv6) (aK aN) ?_
   refine RU tbOk false 999 0 [] aN (by rfl) ?_
   have hr := Option.some.inj h
   subst hr
   exact TP_ [0, 1, 2, 3, 4, 5]
  ·refine RU tbOk false 999 1 [.cl true [] (fun _ => c19_1 v3.2 6 v7 hv8)] (aK aN) (by rfl) ?_
   refine RU tbOk false 999 4 [] aN (by rfl) ?_
   refine fk2 h (fun v9 hv10 h => ?_) (fun v11 hv12 h => ?_)
   ·refine RU tbOk false 999 0 [] aN (by rfl) ?_
    refine CX_ tbOk [1, 2, 3] (c23_0 p0_0_0 p0_0_1 p0_0_2 p0_0_3 p0_0_4 p0_0_5 v3.1 v9 hv10) (aK aN) ?_
    refine RU tbOk false 999 0 [] aN (by rfl) ?_
    have hr := Option.some.inj h
    subst hr
    exact TP_ [0, 1, 2, 3, 4, 5]
   ·refine RU tbOk false 999 1 [.cl true [1, 2, 3] (fun _ => c23_1 p0_0_0 p0_0_1 p0_0_2 p0_0_3 p0_0_4 p0_0_5 v3.1 v11 hv12)] (aK aN) (by rfl) ?_
    obtain ⟨hk13, h⟩ := ck h
    refine RU tbOk false 999 2 [] aN (by rfl) ?_
    refine G4.imp (Imp.openO 2 v11 hk13 (by rfl)) ?_
    refine RU tbOk false 999 1 [.sh HCell.D 63 _ _ (gt p0_0_0 v11) (⟨false, (gt p0_0_0 v11).fthing⟩ : HCell) 6 _ _ _] (aR (aR (aR (aR aN)))) (by rfl) ?_
    refine DR tbOk hmix [] [([0], []), ([], []), ([], []), ([1], []), ([4], []), ([5], []), ([3], [3])] [.b2 _, .de Kn.str (Vn.int .i64) _ (strOfNums p1) Try.runUnderlying34 Try.runUnderlying9] (aR (aR (aR (aR (aR (aR (aR (aR aN)))))))) (by rfl) ?_
    refine RU tbOk false 999 1 [] aN (by rfl) ?_
    refine G4.imp (Imp.closeO 2 6 (by rfl) (by rfl) (by rfl)) ?_
    have hr := Option.some.inj h
    subst hr
    exact TO_ tbOk.t Try.results21 [0, 1, 2, 3, 4, 5]
theorem c21v1_0 (p0_0_0 : List HCell) (p0_0_1 : Int) (p0_0_2 : Int) (p0_0_3 : Int) (p0_0_4 : Int) (p0_0_5 : List (ByteArray × Int)) (p1 : List Int) (r : (List HCell) × (List (ByteArray × Int)) × Int) (h : fn21v1 p0_0_0 p0_0_1 p0_0_2 p0_0_3 p0_0_4 p0_0_5 p1 = some (.inl r)) : ConX Try.prog 21 [.p 0 0, .p 4 0] [(0, .cells 29 [.p 1 0]), (1, .cells 54 [.sl 2, .v (.int .u8 p0_0_1), .v (.int .i64 p0_0_2), .v (.int .i64 p0_0_3), .v (.int .i64 p0_0_4), .mp 3]), (2, .ex (pO HCell.D 63 p0_0_0) []), (3, .omap Kn.str (Vn.int .i64) p0_0_5), (4, .cells 35 [.sl 5]), (5, .rd (Et.int .u8) p1)] 6 (.iface 30 (.int .i64 r.2.2)) [(0, .cells 29 [.p 1 0]), (1, .cells 54 [.sl 2, .v (.int .u8 p0_0_1), .v (.int .i64 p0_0_2), .v (.int .i64 p0_0_3), .v (.int .i64 p0_0_4), .mp 3]), (2, .ex (pO HCell.D 63 r.1) []), (3, .omap Kn.str (Vn.int .i64) r.2.1), (4, .cells 35 [.sl 5])] 6 := c21v1 p0_0_0 p0_0_1 p0_0_2 p0_0_3 p0_0_4 p0_0_5 p1 _ h
theorem c21v1_1 (p0_0_0 : List HCell) (p0_0_1 : Int) (p0_0_2 : Int) (p0_0_3 : Int) (p0_0_4 : Int) (p0_0_5 : List (ByteArray × Int)) (p1 : List Int) (r : Bool × (List HCell) × (List (ByteArray × Int))) (h : fn21v1 p0_0_0 p0_0_1 p0_0_2 p0_0_3 p0_0_4 p0_0_5 p1 = some (.inr r)) : Con Try.prog 21 [.p 0 0, .p 4 0] [(0, .cells 29 [.p 1 0]), (1, .cells 54 [.sl 2, .v (.int .u8 p0_0_1), .v (.int .i64 p0_0_2), .v (.int .i64 p0_0_3), .v (.int .i64 p0_0_4), .mp 3]), (2, .ex (pO HCell.D 63 p0_0_0) []), (3, .omap Kn.str (Vn.int .i64) p0_0_5), (4, .cells 35 [.sl 5]), (5, .rd (Et.int .u8) p1)] 6 (.v (.bool r.1)) [(0, .cells 29 [.p 1 0]), (1, .cells 54 [.sl 2, .v (.int .u8 p0_0_1), .v (.int .i64 p0_0_2), .v (.int .i64 p0_0_3), .v (.int .i64 p0_0_4), .mp 3]), (2, .ex (pO HCell.D 63 r.2.1) []), (3, .omap Kn.str (Vn.int .i64) r.2.2), (4, .cells 35 [.sl 5])] 6 := c21v1 p0_0_0 p0_0_1 p0_0_2 p0_0_3 p0_0_4 p0_0_5 p1 _ h
def fn38v1 (p0 : Int) (p1 : Bool) : Unit :=
 ()
theorem c38v1 (p0 : Int) (p1 : Bool) (r : Unit) (h : fn38v1 p0 p1 = r) : ConD Try.prog 38 [.p 0 0, .p 1 0] [(0, .cells 30 [.v (.int .i64 p0)]), (1, .cells 4 [.v (.bool p1)])] 2 .ret [(0, .cells 30 [.v (.int .i64 p0)]), (1, .cells 4 [.v (.bool p1)])] 2 := by
 rw [fn38v1] at h
 refine ConD.of_body Try.func38 Try.ntmps38 fun w F0 ρ => ?_
 refine RU tbOk false 999 2 [.ni] aN (by rfl) ?_
 refine CDF rfl (by rfl) ?_
 refine RU tbOk false 999 0 [] aN (by rfl) ?_
 subst h
 exact TQN_ Try.results38 [0, 1]
def fn20v1 (p0c0_0_0 : List HCell) (p0c0_0_1 : Int) (p0c0_0_2 : Int) (p0c0_0_3 : Int) (p0c0_0_4 : Int) (p0c0_0_5 : List (ByteArray × Int)) (p0c1 : List Int) : Option (Bool × Int × (List HCell) × (List (ByteArray × Int))) :=
 frk2 (fn21v1 p0c0_0_0 p0c0_0_1 p0c0_0_2 p0c0_0_3 p0c0_0_4 p0c0_0_5 p0c1) (fun v2 => some (((fn38 0 false v2.2.2).2, (fn38 0 false v2.2.2).1, v2.1, v2.2.1))) (fun v4 => some ((v4.1, 0, v4.2.1, v4.2.2)))
theorem c20v1 (p0c0_0_0 : List HCell) (p0c0_0_1 : Int) (p0c0_0_2 : Int) (p0c0_0_3 : Int) (p0c0_0_4 : Int) (p0c0_0_5 : List (ByteArray × Int)) (p0c1 : List Int) (r : Bool × Int × (List HCell) × (List (ByteArray × Int))) (h : fn20v1 p0c0_0_0 p0c0_0_1 p0c0_0_2 p0c0_0_3 p0c0_0_4 p0c0_0_5 p0c1 = some r) : ConO Try.prog 20 [.fn (.func 21) [] [.p 0 0, .p 4 0]] [(0, .cells 29 [.p 1 0]), (1, .cells 54 [.sl 2, .v (.int .u8 p0c0_0_1), .v (.int .i64 p0c0_0_2), .v (.int .i64 p0c0_0_3), .v (.int .i64 p0c0_0_4), .mp 3]), (2, .ex (pO HCell.D 63 p0c0_0_0) []), (3, .omap Kn.str (Vn.int .i64) p0c0_0_5), (4, .cells 35 [.sl 5]), (5, .rd (Et.int .u8) p0c1)] 6 (.ret (.tu [.v (.bool r.1), .v (.int .i64 r.2.1)]) [(0, .cells 29 [.p 1 0]), (1, .cells 54 [.sl 2, .v (.int .u8 p0c0_0_1), .v (.int .i64 p0c0_0_2), .v (.int .i64 p0c0_0_3), .v (.int .i64 p0c0_0_4), .mp 3]), (2, .ex (pO HCell.D 63 r.2.2.1) []), (3, .omap Kn.str (Vn.int .i64) r.2.2.2), (4, .cells 35 [.sl 5])] 6) := by
 rw [fn20v1] at h
 refine ConO.of_body Try.func20 Try.ntmps20 fun w F0 ρ => ?_
 refine RU tbOk false 999 3 [] aN (by rfl) ?_
 refine DF_ (fun vs1 => ?_)
 refine RU tbOk false 999 1 [] aN (by rfl) ?_
 refine fk2 h (fun v2 hv3 h => ?_) (fun v4 hv5 h => ?_)
 ·refine RU tbOk false 999 0 [] aN (by rfl) ?_
  refine CX_ tbOk [0, 1, 2, 3, 4, 5] (c21v1_0 p0c0_0_0 p0c0_0_1 p0c0_0_2 p0c0_0_3 p0c0_0_4 p0c0_0_5 p0c1 v2 hv3) (aK aN) ?_
  refine RU tbOk false 999 0 [] aN (by rfl) ?_
  have hr := Option.some.inj h
  subst hr
  exact TDP_ tbOk Try.results20 8 [7, 6] (c38 0 false v2.2.2 _ rfl) [0, 1, 2, 3, 4, 5]
 ·refine RU tbOk false 999 1 [.cl true [0, 1, 2, 3, 4, 5] (fun _ => c21v1_1 p0c0_0_0 p0c0_0_1 p0c0_0_2 p0c0_0_3 p0c0_0_4 p0c0_0_5 p0c1 v4 hv5)] (aK aN) (by rfl) ?_
  refine RU tbOk false 999 2 [] aN (by rfl) ?_
  have hr := Option.some.inj h
  subst hr
  exact TD_ tbOk Try.results20 8 [7, 6] (c38v1 0 v4.1 _ rfl) [0, 1, 2, 3, 4, 5]
theorem c20v1_0 (p0c0_0_0 : List HCell) (p0c0_0_1 : Int) (p0c0_0_2 : Int) (p0c0_0_3 : Int) (p0c0_0_4 : Int) (p0c0_0_5 : List (ByteArray × Int)) (p0c1 : List Int) (r : Bool × Int × (List HCell) × (List (ByteArray × Int))) (h : fn20v1 p0c0_0_0 p0c0_0_1 p0c0_0_2 p0c0_0_3 p0c0_0_4 p0c0_0_5 p0c1 = some r) : Con Try.prog 20 [.fn (.func 21) [] [.p 0 0, .p 4 0]] [(0, .cells 29 [.p 1 0]), (1, .cells 54 [.sl 2, .v (.int .u8 p0c0_0_1), .v (.int .i64 p0c0_0_2), .v (.int .i64 p0c0_0_3), .v (.int .i64 p0c0_0_4), .mp 3]), (2, .ex (pO HCell.D 63 p0c0_0_0) []), (3, .omap Kn.str (Vn.int .i64) p0c0_0_5), (4, .cells 35 [.sl 5]), (5, .rd (Et.int .u8) p0c1)] 6 (.tu [.v (.bool r.1), .v (.int .i64 r.2.1)]) [(0, .cells 29 [.p 1 0]), (1, .cells 54 [.sl 2, .v (.int .u8 p0c0_0_1), .v (.int .i64 p0c0_0_2), .v (.int .i64 p0c0_0_3), .v (.int .i64 p0c0_0_4), .mp 3]), (2, .ex (pO HCell.D 63 r.2.2.1) []), (3, .omap Kn.str (Vn.int .i64) r.2.2.2), (4, .cells 35 [.sl 5])] 6 := c20v1 p0c0_0_0 p0c0_0_1 p0c0_0_2 p0c0_0_3 p0c0_0_4 p0c0_0_5 p0c1 _ h
def fn9v1 (p0_0 : List HCell) (p0_1 : Int) (p0_2 : Int) (p0_3 : Int) (p0_4 : Int) (p0_5 : List (ByteArray × Int)) (p1 : List Int) : Option (Int × (List HCell) × (List (ByteArray × Int))) :=
 frk1 (fn20v1 p0_0 p0_1 p0_2 p0_3 p0_4 p0_5 p1) (fun v1 => some ((v1.2.1, v1.2.2.1, v1.2.2.2)))
theorem c9v1 (p0_0 : List HCell) (p0_1 : Int) (p0_2 : Int) (p0_3 : Int) (p0_4 : Int) (p0_5 : List (ByteArray × Int)) (p1 : List Int) (r : Int × (List HCell) × (List (ByteArray × Int))) (h : fn9v1 p0_0 p0_1 p0_2 p0_3 p0_4 p0_5 p1 = some r) : Con Try.prog 9 [.p 0 0, .sl 3] [(0, .cells 54 [.sl 1, .v (.int .u8 p0_1), .v (.int .i64 p0_2), .v (.int .i64 p0_3), .v (.int .i64 p0_4), .mp 2]), (1, .ex (pO HCell.D 63 p0_0) []), (2, .omap Kn.str (Vn.int .i64) p0_5), (3, .rd (Et.int .u8) p1)] 4 (.v (.int .i64 r.1)) [(0, .cells 54 [.sl 1, .v (.int .u8 p0_1), .v (.int .i64 p0_2), .v (.int .i64 p0_3), .v (.int .i64 p0_4), .mp 2]), (1, .ex (pO HCell.D 63 r.2.1) []), (2, .omap Kn.str (Vn.int .i64) r.2.2)] 4 := by
 rw [fn9v1] at h
 refine Con.of_body Try.func9 rfl Try.ntmps9 rfl fun w F0 ρ => ?_
 refine RU tbOk false 999 4 [] aN (by rfl) ?_
 refine fk1 h (fun v1 hv2 h => ?_)
 ·refine RU tbOk false 999 1 [.cl true [4, 0, 1, 2, 5, 3] (fun _ => c20v1_0 p0_0 p0_1 p0_2 p0_3 p0_4 p0_5 p1 v1 hv2)] (aK aN) (by rfl) ?_
  refine RU tbOk false 999 7 [] aN (by rfl) ?_
  have hr := Option.some.inj h
  subst hr
  exact RT tbOk.t Try.results9 [0, 1, 2, 3] (by rfl) (by rfl) (by rfl) rfl rfl
def fn5 (F : Nat) : Option (Bool) :=
 frk2 (fn8 F (⟨2, 1, 1, 2⟩ : MSpec)) (fun v1 => Option.bind (fn10 ([98] : List Int) ([120] : List Int) 0) fun v3 => (Option.bind (fn10 ([97] : List Int) ([121] : List Int) 0) fun v5 => (Option.bind (fn11 ([97] : List Int)) fun v7 => (Option.bind (fn10 ([99] : List Int) ([122] : List Int) 0) fun v9 => (Option.bind (fn9 ([98] : List Int)) fun v11 => (Option.bind (fn10 ([99] : List Int) ([122] : List Int) 1) fun v13 => (Option.bind (fn11 ([99] : List Int)) fun v15 => (bif v1 == 0 then (bif v3 == 0 then (bif v5 == 0 then (bif v7.1 == 1 then (bif v7.2 == 0 then (Option.bind (fn15 F (fn12) ([([97] : List Int), ([98] : List Int)] : List (List Int))) fun v22 => (bif v22 then (bif v9 == 8 then (bif v11 == 0 then (bif v13 == 0 then (bif v15.1 == 0 then (bif v15.2 == 0 then (Option.bind (fn10 ([98] : List Int) ([122] : List Int) 2) fun v30 => (some (v30 == 6))) else (some (false))) else (some (false))) else (some (false))) else (some (false))) else (some (false))) else (some (false)))) else (some (false))) else (some (false))) else (some (false))) else (some (false))) else (some (false)))))))))) (fun v32 => Option.bind (fn10v1 F v32.1 v32.2.1 v32.2.2.1 v32.2.2.2.1 v32.2.2.2.2.1 v32.2.2.2.2.2.1 ([98] : List Int) ([120] : List Int) 0) fun v34 => (Option.bind (fn10v1 F v34.2.1 v32.2.1 v32.2.2.1 v32.2.2.2.1 v32.2.2.2.2.1 v34.2.2 ([97] : List Int) ([121] : List Int) 0) fun v36 => (Option.bind (fn11v1 v36.2.1 v32.2.1 v32.2.2.1 v32.2.2.2.1 v32.2.2.2.2.1 v36.2.2 ([97] : List Int)) fun v38 => (Option.bind (fn12v1 F v36.2.1 v32.2.1 v32.2.2.1 v32.2.2.2.1 v32.2.2.2.2.1 v36.2.2) fun v40 => (Option.bind (fn10v1 F v36.2.1 v32.2.1 v32.2.2.1 v32.2.2.2.1 v32.2.2.2.2.1 v36.2.2 ([99] : List Int) ([122] : List Int) 0) fun v42 => (Option.bind (fn9v1 v42.2.1 v32.2.1 v32.2.2.1 v32.2.2.2.1 v32.2.2.2.2.1 v42.2.2 ([98] : List Int)) fun v44 => (Option.bind (fn10v1 F v44.2.1 v32.2.1 v32.2.2.1 v32.2.2.2.1 v32.2.2.2.2.1 v44.2.2 ([99] : List Int) ([122] : List Int) 1) fun v46 => (Option.bind (fn11v1 v46.2.1 v32.2.1 v32.2.2.1 v32.2.2.2.1 v32.2.2.2.2.1 v46.2.2 ([99] : List Int)) fun v48 => (bif v32.2.2.2.2.2.2 == 0 then (bif v34.1 == 0 then (bif v36.1 == 0 then (bif v38.1 == 1 then (bif v38.2 == 0 then (Option.bind (fn15 F v40 ([([97] : List Int), ([98] : List Int)] : List (List Int))) fun v55 => (bif v55 then (bif v42.1 == 8 then (bif v44.1 == 0 then (bif v46.1 == 0 then (bif v48.1 == 0 then (bif v48.2 == 0 then (Option.bind (fn10v1 F v46.2.1 v32.2.1 v32.2.2.1 v32.2.2.2.1 v32.2.2.2.2.1 v46.2.2 ([98] : List Int) ([122] : List Int) 2) fun v63 => (some (v63.1 == 6))) else (some (false))) else (some (false))) else (some (false))) else (some (false))) else (some (false))) else (some (false)))) else (some (false))) else (some (false))) else (some (false))) else (some (false))) else (some (false)))))))))))
theorem c5 (F : Nat) (r : Bool) (h : fn5 F = some r) : Con Try.prog 5 [] [] 0 (.v (.bool r)) [] 0 := by
 rw [fn5] at h
 refine Con.of_body Try.func5 rfl Try.ntmps5 rfl fun w F0 ρ => ?_
 refine RU tbOk false 999 2 [] aN (by rfl) ?_
 refine fk2 h (fun v1 hv2 h => ?_) (fun v32 hv33 h => ?_)
 ·refine RU tbOk false 999 1 [.cl true [] (fun _ => c8_0 F (⟨2, 1, 1, 2⟩ : MSpec) v1 hv2)] (aK aN) (by rfl) ?_
  obtain ⟨v3, hv4, h⟩ := bd h
  refine RU tbOk false 999 11 [.bs (Et.int .u8) ([98] : List Int), .cv, .bs (Et.int .u8) ([120] : List Int), .cv, .cl true [0, 1] (fun _ => c10 ([98] : List Int) ([120] : List Int) 0 _ hv4)] (aR (aR (aR (aR (aK aN))))) (by rfl) ?_
  obtain ⟨v5, hv6, h⟩ := bd h
  refine RU tbOk false 999 6 [.bs (Et.int .u8) ([97] : List Int), .cv, .bs (Et.int .u8) ([121] : List Int), .cv, .cl true [2, 3] (fun _ => c10 ([97] : List Int) ([121] : List Int) 0 _ hv6)] (aR (aR (aR (aR (aK aN))))) (by rfl) ?_
  obtain ⟨v7, hv8, h⟩ := bd h
  refine RU tbOk false 999 6 [.bs (Et.int .u8) ([97] : List Int), .cv, .cl true [4] (fun _ => c11 ([97] : List Int) _ hv8)] (aR (aR (aK aN))) (by rfl) ?_
  refine RU tbOk false 999 7 [.cl true [] (fun _ => c12 _ rfl)] (aK aN) (by rfl) ?_
  obtain ⟨v9, hv10, h⟩ := bd h
  refine RU tbOk false 999 7 [.bs (Et.int .u8) ([99] : List Int), .cv, .bs (Et.int .u8) ([122] : List Int), .cv, .cl true [6, 7] (fun _ => c10 ([99] : List Int) ([122] : List Int) 0 _ hv10)] (aR (aR (aR (aR (aK aN))))) (by rfl) ?_
  obtain ⟨v11, hv12, h⟩ := bd h
  refine RU tbOk false 999 4 [.bs (Et.int .u8) ([98] : List Int), .cv, .cl true [8] (fun _ => c9 ([98] : List Int) _ hv12)] (aR (aR (aK aN))) (by rfl) ?_
  obtain ⟨v13, hv14, h⟩ := bd h
  refine RU tbOk false 999 8 [.bs (Et.int .u8) ([99] : List Int), .cv, .bs (Et.int .u8) ([122] : List Int), .cv, .cl true [9, 10] (fun _ => c10 ([99] : List Int) ([122] : List Int) 1 _ hv14)] (aR (aR (aR (aR (aK aN))))) (by rfl) ?_
  obtain ⟨v15, hv16, h⟩ := bd h
  refine RU tbOk false 999 5 [.bs (Et.int .u8) ([99] : List Int), .cv, .cl true [11] (fun _ => c11 ([99] : List Int) _ hv16)] (aR (aR (aK aN))) (by rfl) ?_
  refine RU tbOk false 999 7 [] aN (by rfl) ?_
  refine CDS h (fun h hb17 => ?_) (fun h hb17 => ?_)
  ·refine RU (tbOk.lit [(63, 64, true)]) false 999 4 [] (aC hb17 aN) (by rfl) ?_
   refine CDS h (fun h hb18 => ?_) (fun h hb18 => ?_)
   ·refine RU (tbOk.lit [(67, 68, true)]) false 999 4 [] (aC hb18 aN) (by rfl) ?_
    refine CDS h (fun h hb19 => ?_) (fun h hb19 => ?_)
    ·refine RU (tbOk.lit [(71, 72, true)]) false 999 4 [] (aC hb19 aN) (by rfl) ?_
     refine CDS h (fun h hb20 => ?_) (fun h hb20 => ?_)
     ·refine RU (tbOk.lit [(75, 76, true)]) false 999 4 [] (aC hb20 aN) (by rfl) ?_
      refine CDS h (fun h hb21 => ?_) (fun h hb21 => ?_)
      ·refine RU (tbOk.lit [(79, 80, true)]) false 999 7 [.bs (Et.int .u8) ([97] : List Int), .cv, .bs (Et.int .u8) ([98] : List Int), .cv, .bL (Et.int .u8) 5 ([([97] : List Int), ([98] : List Int)] : List (List Int))] (aC hb21 (aR (aR (aR (aR (aR (aR aN))))))) (by rfl) ?_
       refine G4.imp (Imp.rowL 14 (by rfl)) ?_
       obtain ⟨v22, hv23, h⟩ := bd h
       refine RU (tbOk.lit [(79, 80, true)]) false 999 1 [.cl true [5, 14] (fun _ => c15 F (fn12) ([([97] : List Int), ([98] : List Int)] : List (List Int)) _ hv23)] (aK aN) (by rfl) ?_
       refine RU tbOk false 999 1 [] aN (by rfl) ?_
       refine CDS h (fun h hb24 => ?_) (fun h hb24 => ?_)
       ·refine RU (tbOk.lit [(88, 89, true)]) false 999 4 [] (aC hb24 aN) (by rfl) ?_
        refine CDS h (fun h hb25 => ?_) (fun h hb25 => ?_)
        ·refine RU (tbOk.lit [(92, 93, true)]) false 999 4 [] (aC hb25 aN) (by rfl) ?_
         refine CDS h (fun h hb26 => ?_) (fun h hb26 => ?_)
         ·refine RU (tbOk.lit [(96, 97, true)]) false 999 4 [] (aC hb26 aN) (by rfl) ?_
          refine CDS h (fun h hb27 => ?_) (fun h hb27 => ?_)
          ·refine RU (tbOk.lit [(100, 101, true)]) false 999 4 [] (aC hb27 aN) (by rfl) ?_
           refine CDS h (fun h hb28 => ?_) (fun h hb28 => ?_)
           ·refine RU (tbOk.lit [(104, 105, true)]) false 999 4 [] (aC hb28 aN) (by rfl) ?_
            refine CDS h (fun h hb29 => ?_) (fun h hb29 => ?_)
            ·obtain ⟨v30, hv31, h⟩ := bd h
             refine RU (tbOk.lit [(108, 109, true)]) false 999 7 [.bs (Et.int .u8) ([98] : List Int), .cv, .bs (Et.int .u8) ([122] : List Int), .cv, .cl true [15, 16] (fun _ => c10 ([98] : List Int) ([122] : List Int) 2 _ hv31)] (aC hb29 (aR (aR (aR (aR (aK aN)))))) (by rfl) ?_
             refine RU (tbOk.lit [(108, 109, true)]) false 999 3 [] aN (by rfl) ?_
             refine RU tbOk false 999 0 [] aN (by rfl) ?_
             have hr := Option.some.inj h
             subst hr
             exact RT tbOk.t Try.results5 [] (by rfl) (by rfl) (by rfl) rfl rfl
            ·refine RU (tbOk.lit [(108, 109, false)]) false 999 7 [] (aC hb29 aN) (by rfl) ?_
             refine RU (tbOk.lit [(108, 109, false)]) false 999 3 [] aN (by rfl) ?_
             refine RU tbOk false 999 0 [] aN (by rfl) ?_
             have hr := Option.some.inj h
             subst hr
             exact RT tbOk.t Try.results5 [] (by rfl) (by rfl) (by rfl) rfl rfl
           ·refine RU (tbOk.lit [(104, 105, false), (108, 109, false)]) false 999 11 [] (aC hb28 (aC rfl aN)) (by rfl) ?_
            refine RU (tbOk.lit [(108, 109, false)]) false 999 3 [] aN (by rfl) ?_
            refine RU tbOk false 999 0 [] aN (by rfl) ?_
            have hr := Option.some.inj h
            subst hr
            exact RT tbOk.t Try.results5 [] (by rfl) (by rfl) (by rfl) rfl rfl
          ·refine RU (tbOk.lit [(100, 101, false), (104, 105, false), (108, 109, false)]) false 999 15 [] (aC hb27 (aC rfl (aC rfl aN))) (by rfl) ?_
           refine RU (tbOk.lit [(108, 109, false)]) false 999 3 [] aN (by rfl) ?_
           refine RU tbOk false 999 0 [] aN (by rfl) ?_
           have hr := Option.some.inj h
           subst hr
           exact RT tbOk.t Try.results5 [] (by rfl) (by rfl) (by rfl) rfl rfl
         ·refine RU (tbOk.lit [(96, 97, false), (100, 101, false), (104, 105, false), (108, 109, false)]) false 999 19 [] (aC hb26 (aC rfl (aC rfl (aC rfl aN)))) (by rfl) ?_
          refine RU (tbOk.lit [(108, 109, false)]) false 999 3 [] aN (by rfl) ?_
          refine RU tbOk false 999 0 [] aN (by rfl) ?_
          have hr := Option.some.inj h
          subst hr
          exact RT tbOk.t Try.results5 [] (by rfl) (by rfl) (by rfl) rfl rfl
        ·refine RU (tbOk.lit [(92, 93, false), (96, 97, false), (100, 101, false), (104, 105, false), (108, 109, false)]) false 999 23 [] (aC hb25 (aC rfl (aC rfl (aC rfl (aC rfl aN))))) (by rfl) ?_
         refine RU (tbOk.lit [(108, 109, false)]) false 999 3 [] aN (by rfl) ?_
         refine RU tbOk false 999 0 [] aN (by rfl) ?_
         have hr := Option.some.inj h
         subst hr
         exact RT tbOk.t Try.results5 [] (by rfl) (by rfl) (by rfl) rfl rfl
       ·refine RU (tbOk.lit [(88, 89, false), (92, 93, false), (96, 97, false), (100, 101, false), (104, 105, false), (108, 109, false)]) false 999 27 [] (aC hb24 (aC rfl (aC rfl (aC rfl (aC rfl (aC rfl aN)))))) (by rfl) ?_
        refine RU (tbOk.lit [(108, 109, false)]) false 999 3 [] aN (by rfl) ?_
        refine RU tbOk false 999 0 [] aN (by rfl) ?_
        have hr := Option.some.inj h
        subst hr
        exact RT tbOk.t Try.results5 [] (by rfl) (by rfl) (by rfl) rfl rfl
      ·refine RU (tbOk.lit [(79, 80, false)]) false 999 8 [] (aC hb21 aN) (by rfl) ?_
       refine RU (tbOk.lit [(88, 89, false), (92, 93, false), (96, 97, false), (100, 101, false), (104, 105, false), (108, 109, false)]) false 999 28 [] (aC rfl (aC rfl (aC rfl (aC rfl (aC rfl (aC rfl aN)))))) (by rfl) ?_
       refine RU (tbOk.lit [(108, 109, false)]) false 999 3 [] aN (by rfl) ?_
       refine RU tbOk false 999 0 [] aN (by rfl) ?_
       have hr := Option.some.inj h
       subst hr
       exact RT tbOk.t Try.results5 [] (by rfl) (by rfl) (by rfl) rfl rfl
     ·refine RU (tbOk.lit [(75, 76, false), (79, 80, false)]) false 999 12 [] (aC hb20 (aC rfl aN)) (by rfl) ?_
      refine RU (tbOk.lit [(88, 89, false), (92, 93, false), (96, 97, false), (100, 101, false), (104, 105, false), (108, 109, false)]) false 999 28 [] (aC rfl (aC rfl (aC rfl (aC rfl (aC rfl (aC rfl aN)))))) (by rfl) ?_
      refine RU (tbOk.lit [(108, 109, false)]) false 999 3 [] aN (by rfl) ?_
      refine RU tbOk false 999 0 [] aN (by rfl) ?_
      have hr := Option.some.inj h
      subst hr
      exact RT tbOk.t Try.results5 [] (by rfl) (by rfl) (by rfl) rfl rfl
    ·refine RU (tbOk.lit [(71, 72, false), (75, 76, false), (79, 80, false)]) false 999 16 [] (aC hb19 (aC rfl (aC rfl aN))) (by rfl) ?_
     refine RU (tbOk.lit [(88, 89, false), (92, 93, false), (96, 97, false), (100, 101, false), (104, 105, false), (108, 109, false)]) false 999 28 [] (aC rfl (aC rfl (aC rfl (aC rfl (aC rfl (aC rfl aN)))))) (by rfl) ?_
     refine RU (tbOk.lit [(108, 109, false)]) false 999 3 [] aN (by rfl) ?_
     refine RU tbOk false 999 0 [] aN (by rfl) ?_
     have hr := Option.some.inj h
     subst hr
     exact RT tbOk.t Try.results5 [] (by rfl) (by rfl) (by rfl) rfl rfl
   ·refine RU (tbOk.lit [(67, 68, false), (71, 72, false), (75, 76, false), (79, 80, false)]) false 999 20 [] (aC hb18 (aC rfl (aC rfl (aC rfl aN)))) (by rfl) ?_
    refine RU (tbOk.lit [(88, 89, false), (92, 93, false), (96, 97, false), (100, 101, false), (104, 105, false), (108, 109, false)]) false 999 28 [] (aC rfl (aC rfl (aC rfl (aC rfl (aC rfl (aC rfl aN)))))) (by rfl) ?_
    refine RU (tbOk.lit [(108, 109, false)]) false 999 3 [] aN (by rfl) ?_
    refine RU tbOk false 999 0 [] aN (by rfl) ?_
    have hr := Option.some.inj h
    subst hr
    exact RT tbOk.t Try.results5 [] (by rfl) (by rfl) (by rfl) rfl rfl
  ·refine RU (tbOk.lit [(63, 64, false), (67, 68, false), (71, 72, false), (75, 76, false), (79, 80, false)]) false 999 24 [] (aC hb17 (aC rfl (aC rfl (aC rfl (aC rfl aN))))) (by rfl) ?_
   refine RU (tbOk.lit [(88, 89, false), (92, 93, false), (96, 97, false), (100, 101, false), (104, 105, false), (108, 109, false)]) false 999 28 [] (aC rfl (aC rfl (aC rfl (aC rfl (aC rfl (aC rfl aN)))))) (by rfl) ?_
   refine RU (tbOk.lit [(108, 109, false)]) false 999 3 [] aN (by rfl) ?_
   refine RU tbOk false 999 0 [] aN (by rfl) ?_
   have hr := Option.some.inj h
   subst hr
   exact RT tbOk.t Try.results5 [] (by rfl) (by rfl) (by rfl) rfl rfl
 ·refine RU tbOk false 999 1 [.cl true [] (fun _ => c8_1 F (⟨2, 1, 1, 2⟩ : MSpec) v32 hv33)] (aK aN) (by rfl) ?_
  obtain ⟨v34, hv35, h⟩ := bd h
  refine RU tbOk false 999 11 [.bs (Et.int .u8) ([98] : List Int), .cv, .bs (Et.int .u8) ([120] : List Int), .cv, .cl true [0, 1, 2, 3, 4] (fun _ => c10v1 F v32.1 v32.2.1 v32.2.2.1 v32.2.2.2.1 v32.2.2.2.2.1 v32.2.2.2.2.2.1 ([98] : List Int) ([120] : List Int) 0 _ hv35)] (aR (aR (aR (aR (aK aN))))) (by rfl) ?_
  obtain ⟨v36, hv37, h⟩ := bd h
  refine RU tbOk false 999 6 [.bs (Et.int .u8) ([97] : List Int), .cv, .bs (Et.int .u8) ([121] : List Int), .cv, .cl true [0, 1, 2, 5, 6] (fun _ => c10v1 F v34.2.1 v32.2.1 v32.2.2.1 v32.2.2.2.1 v32.2.2.2.2.1 v34.2.2 ([97] : List Int) ([121] : List Int) 0 _ hv37)] (aR (aR (aR (aR (aK aN))))) (by rfl) ?_
  obtain ⟨v38, hv39, h⟩ := bd h
  refine RU tbOk false 999 6 [.bs (Et.int .u8) ([97] : List Int), .cv, .cl true [0, 1, 2, 7] (fun _ => c11v1 v36.2.1 v32.2.1 v32.2.2.1 v32.2.2.2.1 v32.2.2.2.2.1 v36.2.2 ([97] : List Int) _ hv39)] (aR (aR (aK aN))) (by rfl) ?_
  obtain ⟨v40, hv41, h⟩ := bd h
  refine RU tbOk false 999 7 [.cl true [0, 1, 2] (fun _ => c12v1 F v36.2.1 v32.2.1 v32.2.2.1 v32.2.2.2.1 v32.2.2.2.2.1 v36.2.2 _ hv41)] (aK aN) (by rfl) ?_
  obtain ⟨v42, hv43, h⟩ := bd h
  refine RU tbOk false 999 7 [.bs (Et.int .u8) ([99] : List Int), .cv, .bs (Et.int .u8) ([122] : List Int), .cv, .cl true [0, 1, 2, 9, 10] (fun _ => c10v1 F v36.2.1 v32.2.1 v32.2.2.1 v32.2.2.2.1 v32.2.2.2.2.1 v36.2.2 ([99] : List Int) ([122] : List Int) 0 _ hv43)] (aR (aR (aR (aR (aK aN))))) (by rfl) ?_
  obtain ⟨v44, hv45, h⟩ := bd h
  refine RU tbOk false 999 4 [.bs (Et.int .u8) ([98] : List Int), .cv, .cl true [0, 1, 2, 11] (fun _ => c9v1 v42.2.1 v32.2.1 v32.2.2.1 v32.2.2.2.1 v32.2.2.2.2.1 v42.2.2 ([98] : List Int) _ hv45)] (aR (aR (aK aN))) (by rfl) ?_
  obtain ⟨v46, hv47, h⟩ := bd h
  refine RU tbOk false 999 8 [.bs (Et.int .u8) ([99] : List Int), .cv, .bs (Et.int .u8) ([122] : List Int), .cv, .cl true [0, 1, 2, 12, 13] (fun _ => c10v1 F v44.2.1 v32.2.1 v32.2.2.1 v32.2.2.2.1 v32.2.2.2.2.1 v44.2.2 ([99] : List Int) ([122] : List Int) 1 _ hv47)] (aR (aR (aR (aR (aK aN))))) (by rfl) ?_
  obtain ⟨v48, hv49, h⟩ := bd h
  refine RU tbOk false 999 5 [.bs (Et.int .u8) ([99] : List Int), .cv, .cl true [0, 1, 2, 14] (fun _ => c11v1 v46.2.1 v32.2.1 v32.2.2.1 v32.2.2.2.1 v32.2.2.2.2.1 v46.2.2 ([99] : List Int) _ hv49)] (aR (aR (aK aN))) (by rfl) ?_
  refine RU tbOk false 999 7 [] aN (by rfl) ?_
  refine CDS h (fun h hb50 => ?_) (fun h hb50 => ?_)
  ·refine RU (tbOk.lit [(63, 64, true)]) false 999 4 [] (aC hb50 aN) (by rfl) ?_
   refine CDS h (fun h hb51 => ?_) (fun h hb51 => ?_)
   ·refine RU (tbOk.lit [(67, 68, true)]) false 999 4 [] (aC hb51 aN) (by rfl) ?_
    refine CDS h (fun h hb52 => ?_) (fun h hb52 => ?_)
    ·refine RU (tbOk.lit [(71, 72, true)]) false 999 4 [] (aC hb52 aN) (by rfl) ?_
     refine CDS h (fun h hb53 => ?_) (fun h hb53 => ?_)
     ·refine RU (tbOk.lit [(75, 76, true)]) false 999 4 [] (aC hb53 aN) (by rfl) ?_
      refine CDS h (fun h hb54 => ?_) (fun h hb54 => ?_)
      ·refine RU (tbOk.lit [(79, 80, true)]) false 999 7 [.bs (Et.int .u8) ([97] : List Int), .cv, .bs (Et.int .u8) ([98] : List Int), .cv, .bL (Et.int .u8) 5 ([([97] : List Int), ([98] : List Int)] : List (List Int))] (aC hb54 (aR (aR (aR (aR (aR (aR aN))))))) (by rfl) ?_
       refine G4.imp (Imp.rowL 17 (by rfl)) ?_
       obtain ⟨v55, hv56, h⟩ := bd h
       refine RU (tbOk.lit [(79, 80, true)]) false 999 1 [.cl true [8, 17] (fun _ => c15 F v40 ([([97] : List Int), ([98] : List Int)] : List (List Int)) _ hv56)] (aK aN) (by rfl) ?_
       refine RU tbOk false 999 1 [] aN (by rfl) ?_
       refine CDS h (fun h hb57 => ?_) (fun h hb57 => ?_)
       ·refine RU (tbOk.lit [(88, 89, true)]) false 999 4 [] (aC hb57 aN) (by rfl) ?_
        refine CDS h (fun h hb58 => ?_) (fun h hb58 => ?_)
        ·refine RU (tbOk.lit [(92, 93, true)]) false 999 4 [] (aC hb58 aN) (by rfl) ?_
         refine CDS h (fun h hb59 => ?_) (fun h hb59 => ?_)
         ·refine RU (tbOk.lit [(96, 97, true)]) false 999 4 [] (aC hb59 aN) (by rfl) ?_
          refine CDS h (fun h hb60 => ?_) (fun h hb60 => ?_)
          ·refine RU (tbOk.lit [(100, 101, true)]) false 999 4 [] (aC hb60 aN) (by rfl) ?_
           refine CDS h (fun h hb61 => ?_) (fun h hb61 => ?_)
           ·refine RU (tbOk.lit [(104, 105, true)]) false 999 4 [] (aC hb61 aN) (by rfl) ?_
            refine CDS h (fun h hb62 => ?_) (fun h hb62 => ?_)
            ·obtain ⟨v63, hv64, h⟩ := bd h
             refine RU (tbOk.lit [(108, 109, true)]) false 999 7 [.bs (Et.int .u8) ([98] : List Int), .cv, .bs (Et.int .u8) ([122] : List Int), .cv, .cl true [0, 1, 2, 18, 19] (fun _ => c10v1 F v46.2.1 v32.2.1 v32.2.2.1 v32.2.2.2.1 v32.2.2.2.2.1 v46.2.2 ([98] : List Int) ([122] : List Int) 2 _ hv64)] (aC hb62 (aR (aR (aR (aR (aK aN)))))) (by rfl) ?_
             refine RU (tbOk.lit [(108, 109, true)]) false 999 3 [] aN (by rfl) ?_
             refine RU tbOk false 999 0 [] aN (by rfl) ?_
             have hr := Option.some.inj h
             subst hr
             exact RT tbOk.t Try.results5 [] (by rfl) (by rfl) (by rfl) rfl rfl
            ·refine RU (tbOk.lit [(108, 109, false)]) false 999 7 [] (aC hb62 aN) (by rfl) ?_
             refine RU (tbOk.lit [(108, 109, false)]) false 999 3 [] aN (by rfl) ?_
             refine RU tbOk false 999 0 [] aN (by rfl) ?_
             have hr := Option.some.inj h
             subst hr
             exact RT tbOk.t Try.results5 [] (by rfl) (by rfl) (by rfl) rfl rfl
           ·refine RU (tbOk.lit [(104, 105, false), (108, 109, false)]) false 999 11 [] (aC hb61 (aC rfl aN)) (by rfl) ?_
            refine RU (tbOk.lit [(108, 109, false)]) false 999 3 [] aN (by rfl) ?_
            refine RU tbOk false 999 0 [] aN (by rfl) ?_
            have hr := Option.some.inj h
            subst hr
            exact RT tbOk.t Try.results5 [] (by rfl) (by rfl) (by rfl) rfl rfl
          ·refine RU (tbOk.lit [(100, 101, false), (104, 105, false), (108, 109, false)]) false 999 15 [] (aC hb60 (aC rfl (aC rfl aN))) (by rfl) ?_
           refine RU (tbOk.lit [(108, 109, false)]) false 999 3 [] aN (by rfl) ?_
           refine RU tbOk false 999 0 [] aN (by rfl) ?_
           have hr := Option.some.inj h
           subst hr
           exact RT tbOk.t Try.results5 [] (by rfl) (by rfl) (by rfl) rfl rfl
         ·refine RU (tbOk.lit [(96, 97, false), (100, 101, false), (104, 105, false), (108, 109, false)]) false 999 19 [] (aC hb59 (aC rfl (aC rfl (aC rfl aN)))) (by rfl) ?_
          refine RU (tbOk.lit [(108, 109, false)]) false 999 3 [] aN (by rfl) ?_
          refine RU tbOk false 999 0 [] aN (by rfl) ?_
          have hr := Option.some.inj h
          subst hr
          exact RT tbOk.t Try.results5 [] (by rfl) (by rfl) (by rfl) rfl rfl
        ·refine RU (tbOk.lit [(92, 93, false), (96, 97, false), (100, 101, false), (104, 105, false), (108, 109, false)]) false 999 23 [] (aC hb58 (aC rfl (aC rfl (aC rfl (aC rfl aN))))) (by rfl) ?_
         refine RU (tbOk.lit [(108, 109, false)]) false 999 3 [] aN (by rfl) ?_
         refine RU tbOk false 999 0 [] aN (by rfl) ?_
         have hr := Option.some.inj h
         subst hr
         exact RT tbOk.t Try.results5 [] (by rfl) (by rfl) (by rfl) rfl rfl
       ·refine RU (tbOk.lit [(88, 89, false), (92, 93, false), (96, 97, false), (100, 101, false), (104, 105, false), (108, 109, false)]) false 999 27 [] (aC hb57 (aC rfl (aC rfl (aC rfl (aC rfl (aC rfl aN)))))) (by rfl) ?_
        refine RU (tbOk.lit [(108, 109, false)]) false 999 3 [] aN (by rfl) ?_
        refine RU tbOk false 999 0 [] aN (by rfl) ?_
        have hr := Option.some.inj h
        subst hr
        exact RT tbOk.t Try.results5 [] (by rfl) (by rfl) (by rfl) rfl rfl
      ·refine RU (tbOk.lit [(79, 80, false)]) false 999 8 [] (aC hb54 aN) (by rfl) ?_
       refine RU (tbOk.lit [(88, 89, false), (92, 93, false), (96, 97, false), (100, 101, false), (104, 105, false), (108, 109, false)]) false 999 28 [] (aC rfl (aC rfl (aC rfl (aC rfl (aC rfl (aC rfl aN)))))) (by rfl) ?_
       refine RU (tbOk.lit [(108, 109, false)]) false 999 3 [] aN (by rfl) ?_
       refine RU tbOk false 999 0 [] aN (by rfl) ?_
       have hr := Option.some.inj h
       subst hr
       exact RT tbOk.t Try.results5 [] (by rfl) (by rfl) (by rfl) rfl rfl
     ·refine RU (tbOk.lit [(75, 76, false), (79, 80, false)]) false 999 12 [] (aC hb53 (aC rfl aN)) (by rfl) ?_
      refine RU (tbOk.lit [(88, 89, false), (92, 93, false), (96, 97, false), (100, 101, false), (104, 105, false), (108, 109, false)]) false 999 28 [] (aC rfl (aC rfl (aC rfl (aC rfl (aC rfl (aC rfl aN)))))) (by rfl) ?_
      refine RU (tbOk.lit [(108, 109, false)]) false 999 3 [] aN (by rfl) ?_
      refine RU tbOk false 999 0 [] aN (by rfl) ?_
      have hr := Option.some.inj h
      subst hr
      exact RT tbOk.t Try.results5 [] (by rfl) (by rfl) (by rfl) rfl rfl
    ·refine RU (tbOk.lit [(71, 72, false), (75, 76, false), (79, 80, false)]) false 999 16 [] (aC hb52 (aC rfl (aC rfl aN))) (by rfl) ?_
     refine RU (tbOk.lit [(88, 89, false), (92, 93, false), (96, 97, false), (100, 101, false), (104, 105, false), (108, 109, false)]) false 999 28 [] (aC rfl (aC rfl (aC rfl (aC rfl (aC rfl (aC rfl aN)))))) (by rfl) ?_
     refine RU (tbOk.lit [(108, 109, false)]) false 999 3 [] aN (by rfl) ?_
     refine RU tbOk false 999 0 [] aN (by rfl) ?_
     have hr := Option.some.inj h
     subst hr
     exact RT tbOk.t Try.results5 [] (by rfl) (by rfl) (by rfl) rfl rfl
   ·refine RU (tbOk.lit [(67, 68, false), (71, 72, false), (75, 76, false), (79, 80, false)]) false 999 20 [] (aC hb51 (aC rfl (aC rfl (aC rfl aN)))) (by rfl) ?_
    refine RU (tbOk.lit [(88, 89, false), (92, 93, false), (96, 97, false), (100, 101, false), (104, 105, false), (108, 109, false)]) false 999 28 [] (aC rfl (aC rfl (aC rfl (aC rfl (aC rfl (aC rfl aN)))))) (by rfl) ?_
    refine RU (tbOk.lit [(108, 109, false)]) false 999 3 [] aN (by rfl) ?_
    refine RU tbOk false 999 0 [] aN (by rfl) ?_
    have hr := Option.some.inj h
    subst hr
    exact RT tbOk.t Try.results5 [] (by rfl) (by rfl) (by rfl) rfl rfl
  ·refine RU (tbOk.lit [(63, 64, false), (67, 68, false), (71, 72, false), (75, 76, false), (79, 80, false)]) false 999 24 [] (aC hb50 (aC rfl (aC rfl (aC rfl (aC rfl aN))))) (by rfl) ?_
   refine RU (tbOk.lit [(88, 89, false), (92, 93, false), (96, 97, false), (100, 101, false), (104, 105, false), (108, 109, false)]) false 999 28 [] (aC rfl (aC rfl (aC rfl (aC rfl (aC rfl (aC rfl aN)))))) (by rfl) ?_
   refine RU (tbOk.lit [(108, 109, false)]) false 999 3 [] aN (by rfl) ?_
   refine RU tbOk false 999 0 [] aN (by rfl) ?_
   have hr := Option.some.inj h
   subst hr
   exact RT tbOk.t Try.results5 [] (by rfl) (by rfl) (by rfl) rfl rfl
def fn31 (p1 : Int) : Option (Int) :=
 frk1 fn32 (fun v1 => some (v1))
theorem c31 (p1 : Int) (r : Int) (h : fn31 p1 = some r) : ConO Try.prog 31 [.p 0 0, .p 1 0] [(0, .cells 29 [.v (.pointer none)]), (1, .cells 3 [.v (.int .i64 p1)])] 2 (.pan (.iface 30 (.int .i64 r)) [(0, .cells 29 [.v (.pointer none)]), (1, .cells 3 [.v (.int .i64 p1)])] 2) := by
 rw [fn31] at h
 refine ConO.of_body Try.func31 Try.ntmps31 fun w F0 ρ => ?_
 refine RU tbOk false 999 2 [] aN (by rfl) ?_
 refine fk1 h (fun v1 hv2 h => ?_)
 ·refine RU tbOk false 999 0 [] aN (by rfl) ?_
  refine CX_ tbOk [] (c32_0 v1 hv2) (aK aN) ?_
  refine RU tbOk false 999 0 [] aN (by rfl) ?_
  have hr := Option.some.inj h
  subst hr
  exact TP_ [0, 1]
theorem c31_0 (p1 : Int) (r : Int) (h : fn31 p1 = some r) : ConX Try.prog 31 [.p 0 0, .p 1 0] [(0, .cells 29 [.v (.pointer none)]), (1, .cells 3 [.v (.int .i64 p1)])] 2 (.iface 30 (.int .i64 r)) [(0, .cells 29 [.v (.pointer none)]), (1, .cells 3 [.v (.int .i64 p1)])] 2 := c31 p1 _ h
def fn44 (p0 : Int) (p1 : List Int) (pe : Int) : Int × (List Int) :=
 (pe, ([] : List Int))
theorem c44 (p0 : Int) (p1 : List Int) (pe : Int) (r : Int × (List Int)) (h : fn44 p0 p1 pe = r) : ConD Try.prog 44 [.p 0 0, .p 1 0] [(0, .cells 30 [.v (.int .i64 p0)]), (1, .cells 35 [.sl 2]), (2, .rd (Et.int .u8) p1)] 3 (.pan (.iface 30 (.int .i64 pe))) [(0, .cells 30 [.v (.int .i64 r.1)]), (1, .cells 35 [.sl 3]), (3, .row (Et.int .u8) 5 r.2 r.2.length .unk)] 4 := by
 rw [fn44] at h
 refine ConD.of_body Try.func44 Try.ntmps44 fun w F0 ρ => ?_
 refine RU tbOk false 999 2 [.ni] aN (by rfl) ?_
 refine CDT rfl (by rfl) ?_
 refine RU tbOk false 999 10 [.ta] aN (by rfl) ?_
 refine CDF rfl (by rfl) ?_
 refine RU tbOk false 999 3 [] aN (by rfl) ?_
 subst h
 refine G4.imp (Imp.nilC (Et.int .u8) 5 1 0 (by rfl) (by rfl) (by rfl)) ?_
 refine G4.imp (Imp.row 3 (by rfl)) ?_
 exact TQN_ Try.results44 [0, 1, 2, 3]
def fn30 (p0c1 : Int) : Option ((List Int) × Int) :=
 frk1 (fn31 p0c1) (fun v2 => some (((fn44 0 ([] : List Int) v2).2, (fn44 0 ([] : List Int) v2).1)))
theorem c30 (p0c1 : Int) (r : (List Int) × Int) (h : fn30 p0c1 = some r) : ConO Try.prog 30 [.fn (.func 31) [] [.p 0 0, .p 1 0]] [(0, .cells 29 [.v (.pointer none)]), (1, .cells 3 [.v (.int .i64 p0c1)])] 2 (.ret (.tu [.sl 2, .v (.int .i64 r.2)]) [(0, .cells 29 [.v (.pointer none)]), (1, .cells 3 [.v (.int .i64 p0c1)]), (2, .row (Et.int .u8) 5 r.1 r.1.length .unk)] 3) := by
 rw [fn30] at h
 refine ConO.of_body Try.func30 Try.ntmps30 fun w F0 ρ => ?_
 refine RU tbOk false 999 3 [] aN (by rfl) ?_
 refine DF_ (fun vs1 => ?_)
 refine RU tbOk false 999 1 [] aN (by rfl) ?_
 refine fk1 h (fun v2 hv3 h => ?_)
 ·refine RU tbOk false 999 0 [] aN (by rfl) ?_
  refine CX_ tbOk [0, 1] (c31_0 p0c1 v2 hv3) (aK aN) ?_
  refine RU tbOk false 999 0 [] aN (by rfl) ?_
  refine G4.imp (Imp.nilC (Et.int .u8) 5 2 0 (by rfl) (by rfl) (by rfl)) ?_
  have hr := Option.some.inj h
  subst hr
  exact TDP_ tbOk Try.results30 4 [3, 2, 5] (c44 0 ([] : List Int) v2 _ rfl) [0, 1, 6]
theorem c30_0 (p0c1 : Int) (r : (List Int) × Int) (h : fn30 p0c1 = some r) : Con Try.prog 30 [.fn (.func 31) [] [.p 0 0, .p 1 0]] [(0, .cells 29 [.v (.pointer none)]), (1, .cells 3 [.v (.int .i64 p0c1)])] 2 (.tu [.sl 2, .v (.int .i64 r.2)]) [(0, .cells 29 [.v (.pointer none)]), (1, .cells 3 [.v (.int .i64 p0c1)]), (2, .row (Et.int .u8) 5 r.1 r.1.length .unk)] 3 := c30 p0c1 _ h
def fn13 (p1 : Int) : Option ((List Int) × Int) :=
 frk1 (fn30 p1) (fun v1 => some ((v1.1, v1.2)))
theorem c13 (p1 : Int) (r : (List Int) × Int) (h : fn13 p1 = some r) : Con Try.prog 13 [.v (.pointer none), .v (.int .i64 p1)] [] 0 (.tu [.sl 0, .v (.int .i64 r.2)]) [(0, .row (Et.int .u8) 5 r.1 r.1.length .unk)] 1 := by
 rw [fn13] at h
 refine Con.of_body Try.func13 rfl Try.ntmps13 rfl fun w F0 ρ => ?_
 refine RU tbOk false 999 5 [] aN (by rfl) ?_
 refine fk1 h (fun v1 hv2 h => ?_)
 ·refine RU tbOk false 999 1 [.cl true [0, 1] (fun _ => c30_0 p1 v1 hv2)] (aK aN) (by rfl) ?_
  refine RU tbOk false 999 4 [] aN (by rfl) ?_
  have hr := Option.some.inj h
  subst hr
  exact RT tbOk.t Try.results13 [2] (by rfl) (by rfl) (by rfl) rfl rfl
def fn34 (p1 : Int) (p2 : Int) (p3 : List Int) : Option (Int) :=
 frk1 fn32 (fun v1 => some (v1))
theorem c34 (p1 : Int) (p2 : Int) (p3 : List Int) (r : Int) (h : fn34 p1 p2 p3 = some r) : ConO Try.prog 34 [.p 0 0, .p 1 0, .p 2 0, .p 3 0] [(0, .cells 29 [.v (.pointer none)]), (1, .cells 3 [.v (.int .i64 p1)]), (2, .cells 3 [.v (.int .i64 p2)]), (3, .cells 35 [.sl 4]), (4, .rd (Et.int .u8) p3)] 5 (.pan (.iface 30 (.int .i64 r)) [(0, .cells 29 [.v (.pointer none)]), (1, .cells 3 [.v (.int .i64 p1)]), (2, .cells 3 [.v (.int .i64 p2)]), (3, .cells 35 [.sl 4])] 5) := by
 rw [fn34] at h
 refine ConO.of_body Try.func34 Try.ntmps34 fun w F0 ρ => ?_
 refine RU tbOk false 999 2 [] aN (by rfl) ?_
 refine fk1 h (fun v1 hv2 h => ?_)
 ·refine RU tbOk false 999 0 [] aN (by rfl) ?_
  refine CX_ tbOk [] (c32_0 v1 hv2) (aK aN) ?_
  refine RU tbOk false 999 0 [] aN (by rfl) ?_
  have hr := Option.some.inj h
  subst hr
  exact TP_ [0, 1, 2, 3, 4]
theorem c34_0 (p1 : Int) (p2 : Int) (p3 : List Int) (r : Int) (h : fn34 p1 p2 p3 = some r) : ConX Try.prog 34 [.p 0 0, .p 1 0, .p 2 0, .p 3 0] [(0, .cells 29 [.v (.pointer none)]), (1, .cells 3 [.v (.int .i64 p1)]), (2, .cells 3 [.v (.int .i64 p2)]), (3, .cells 35 [.sl 4]), (4, .rd (Et.int .u8) p3)] 5 (.iface 30 (.int .i64 r)) [(0, .cells 29 [.v (.pointer none)]), (1, .cells 3 [.v (.int .i64 p1)]), (2, .cells 3 [.v (.int .i64 p2)]), (3, .cells 35 [.sl 4])] 5 := c34 p1 p2 p3 _ h
def fn24v4 (p0c1 : Int) (p0c2 : Int) (p0c3 : List Int) : Option (Int × Int) :=
 frk1 (fn34 p0c1 p0c2 p0c3) (fun v2 => some (((fn39 0 0 v2).2, (fn39 0 0 v2).1)))
theorem c24v4 (p0c1 : Int) (p0c2 : Int) (p0c3 : List Int) (r : Int × Int) (h : fn24v4 p0c1 p0c2 p0c3 = some r) : ConO Try.prog 24 [.fn (.func 34) [] [.p 0 0, .p 1 0, .p 2 0, .p 3 0]] [(0, .cells 29 [.v (.pointer none)]), (1, .cells 3 [.v (.int .i64 p0c1)]), (2, .cells 3 [.v (.int .i64 p0c2)]), (3, .cells 35 [.sl 4]), (4, .rd (Et.int .u8) p0c3)] 5 (.ret (.tu [.v (.int .i64 r.1), .v (.int .i64 r.2)]) [(0, .cells 29 [.v (.pointer none)]), (1, .cells 3 [.v (.int .i64 p0c1)]), (2, .cells 3 [.v (.int .i64 p0c2)]), (3, .cells 35 [.sl 4])] 5) := by
 rw [fn24v4] at h
 refine ConO.of_body Try.func24 Try.ntmps24 fun w F0 ρ => ?_
 refine RU tbOk false 999 3 [] aN (by rfl) ?_
 refine DF_ (fun vs1 => ?_)
 refine RU tbOk false 999 1 [] aN (by rfl) ?_
 refine fk1 h (fun v2 hv3 h => ?_)
 ·refine RU tbOk false 999 0 [] aN (by rfl) ?_
  refine CX_ tbOk [0, 1, 2, 3, 4] (c34_0 p0c1 p0c2 p0c3 v2 hv3) (aK aN) ?_
  refine RU tbOk false 999 0 [] aN (by rfl) ?_
  have hr := Option.some.inj h
  subst hr
  exact TDP_ tbOk Try.results24 7 [6, 5] (c39 0 0 v2 _ rfl) [0, 1, 2, 3, 4]
theorem c24v4_0 (p0c1 : Int) (p0c2 : Int) (p0c3 : List Int) (r : Int × Int) (h : fn24v4 p0c1 p0c2 p0c3 = some r) : Con Try.prog 24 [.fn (.func 34) [] [.p 0 0, .p 1 0, .p 2 0, .p 3 0]] [(0, .cells 29 [.v (.pointer none)]), (1, .cells 3 [.v (.int .i64 p0c1)]), (2, .cells 3 [.v (.int .i64 p0c2)]), (3, .cells 35 [.sl 4]), (4, .rd (Et.int .u8) p0c3)] 5 (.tu [.v (.int .i64 r.1), .v (.int .i64 r.2)]) [(0, .cells 29 [.v (.pointer none)]), (1, .cells 3 [.v (.int .i64 p0c1)]), (2, .cells 3 [.v (.int .i64 p0c2)]), (3, .cells 35 [.sl 4])] 5 := c24v4 p0c1 p0c2 p0c3 _ h
def fn14 (p1 : Int) (p2 : Int) (p3 : List Int) : Option (Int) :=
 frk1 (fn24v4 p1 p2 p3) (fun v1 => some (v1.2))
theorem c14 (p1 : Int) (p2 : Int) (p3 : List Int) (r : Int) (h : fn14 p1 p2 p3 = some r) : Con Try.prog 14 [.v (.pointer none), .v (.int .i64 p1), .v (.int .i64 p2), .sl 0] [(0, .rd (Et.int .u8) p3)] 1 (.v (.int .i64 r)) [] 1 := by
 rw [fn14] at h
 refine Con.of_body Try.func14 rfl Try.ntmps14 rfl fun w F0 ρ => ?_
 refine RU tbOk false 999 6 [] aN (by rfl) ?_
 refine fk1 h (fun v1 hv2 h => ?_)
 ·refine RU tbOk false 999 1 [.cl true [1, 2, 3, 4, 0] (fun _ => c24v4_0 p1 p2 p3 v1 hv2)] (aK aN) (by rfl) ?_
  refine RU tbOk false 999 7 [] aN (by rfl) ?_
  have hr := Option.some.inj h
  subst hr
  exact RT tbOk.t Try.results14 [0] (by rfl) (by rfl) (by rfl) rfl rfl
def fn32v2 (p0_0 : List HCell) (p0_1 : Int) (p0_2 : Int) (p0_3 : Int) (p0_4 : Int) : Option (Int) :=
 frk1 (fn19v1 1) (fun v1 => some (v1))
theorem c32v2 (p0_0 : List HCell) (p0_1 : Int) (p0_2 : Int) (p0_3 : Int) (p0_4 : Int) (r : Int) (h : fn32v2 p0_0 p0_1 p0_2 p0_3 p0_4 = some r) : ConO Try.prog 32 [.p 0 0] [(0, .cells 54 [.sl 1, .v (.int .u8 p0_1), .v (.int .i64 p0_2), .v (.int .i64 p0_3), .v (.int .i64 p0_4), .v (.map none)]), (1, .ex (pO HCell.D 63 p0_0) [])] 2 (.pan (.iface 30 (.int .i64 r)) [(0, .cells 54 [.sl 1, .v (.int .u8 p0_1), .v (.int .i64 p0_2), .v (.int .i64 p0_3), .v (.int .i64 p0_4), .v (.map none)]), (1, .ex (pO HCell.D 63 p0_0) [])] 2) := by
 rw [fn32v2] at h
 refine ConO.of_body Try.func32 Try.ntmps32 fun w F0 ρ => ?_
 refine RU (tbOk.lit [(3, 4, true)]) false 999 9 [.pn, .ni] (aC rfl aN) (by rfl) ?_
 refine fk1 h (fun v1 hv2 h => ?_)
 ·refine RU tbOk false 999 0 [] aN (by rfl) ?_
  refine G4.imp Imp.refl ?_
  refine CX_ tbOk [] (c19v1_0 1 v1 hv2) (aK aN) ?_
  refine RU tbOk false 999 0 [] aN (by rfl) ?_
  have hr := Option.some.inj h
  subst hr
  exact TP_ [0, 1]
theorem c32v2_0 (p0_0 : List HCell) (p0_1 : Int) (p0_2 : Int) (p0_3 : Int) (p0_4 : Int) (r : Int) (h : fn32v2 p0_0 p0_1 p0_2 p0_3 p0_4 = some r) : ConX Try.prog 32 [.p 0 0] [(0, .cells 54 [.sl 1, .v (.int .u8 p0_1), .v (.int .i64 p0_2), .v (.int .i64 p0_3), .v (.int .i64 p0_4), .v (.map none)]), (1, .ex (pO HCell.D 63 p0_0) [])] 2 (.iface 30 (.int .i64 r)) [(0, .cells 54 [.sl 1, .v (.int .u8 p0_1), .v (.int .i64 p0_2), .v (.int .i64 p0_3), .v (.int .i64 p0_4), .v (.map none)]), (1, .ex (pO HCell.D 63 p0_0) [])] 2 := c32v2 p0_0 p0_1 p0_2 p0_3 p0_4 _ h
def fn22v2 (p0_0 : List HCell) (p0_1 : Int) (p0_2 : Int) (p0_3 : Int) (p0_4 : Int) (p1 : List Int) : Option (Int) :=
 frk1 (fn32v2 p0_0 p0_1 p0_2 p0_3 p0_4) (fun v1 => some (v1))
theorem c22v2 (p0_0 : List HCell) (p0_1 : Int) (p0_2 : Int) (p0_3 : Int) (p0_4 : Int) (p1 : List Int) (r : Int) (h : fn22v2 p0_0 p0_1 p0_2 p0_3 p0_4 p1 = some r) : ConO Try.prog 22 [.p 0 0, .sl 2] [(0, .cells 54 [.sl 1, .v (.int .u8 p0_1), .v (.int .i64 p0_2), .v (.int .i64 p0_3), .v (.int .i64 p0_4), .v (.map none)]), (1, .ex (pO HCell.D 63 p0_0) []), (2, .rd (Et.int .u8) p1)] 3 (.pan (.iface 30 (.int .i64 r)) [(0, .cells 54 [.sl 1, .v (.int .u8 p0_1), .v (.int .i64 p0_2), .v (.int .i64 p0_3), .v (.int .i64 p0_4), .v (.map none)]), (1, .ex (pO HCell.D 63 p0_0) [])] 3) := by
 rw [fn22v2] at h
 refine ConO.of_body Try.func22 Try.ntmps22 fun w F0 ρ => ?_
 refine RU tbOk false 999 3 [] aN (by rfl) ?_
 refine fk1 h (fun v1 hv2 h => ?_)
 ·refine RU tbOk false 999 0 [] aN (by rfl) ?_
  refine CX_ tbOk [0, 1] (c32v2_0 p0_0 p0_1 p0_2 p0_3 p0_4 v1 hv2) (aK aN) ?_
  refine RU tbOk false 999 0 [] aN (by rfl) ?_
  have hr := Option.some.inj h
  subst hr
  exact TP_ [0, 1, 2]
theorem c22v2_0 (p0_0 : List HCell) (p0_1 : Int) (p0_2 : Int) (p0_3 : Int) (p0_4 : Int) (p1 : List Int) (r : Int) (h : fn22v2 p0_0 p0_1 p0_2 p0_3 p0_4 p1 = some r) : ConX Try.prog 22 [.p 0 0, .sl 2] [(0, .cells 54 [.sl 1, .v (.int .u8 p0_1), .v (.int .i64 p0_2), .v (.int .i64 p0_3), .v (.int .i64 p0_4), .v (.map none)]), (1, .ex (pO HCell.D 63 p0_0) []), (2, .rd (Et.int .u8) p1)] 3 (.iface 30 (.int .i64 r)) [(0, .cells 54 [.sl 1, .v (.int .u8 p0_1), .v (.int .i64 p0_2), .v (.int .i64 p0_3), .v (.int .i64 p0_4), .v (.map none)]), (1, .ex (pO HCell.D 63 p0_0) [])] 3 := c22v2 p0_0 p0_1 p0_2 p0_3 p0_4 p1 _ h
def fn27v2 (p0_0_0 : List HCell) (p0_0_1 : Int) (p0_0_2 : Int) (p0_0_3 : Int) (p0_0_4 : Int) (p1 : List Int) : Option (Int) :=
 frk1 (fn22v2 p0_0_0 p0_0_1 p0_0_2 p0_0_3 p0_0_4 p1) (fun v1 => some (v1))
theorem c27v2 (p0_0_0 : List HCell) (p0_0_1 : Int) (p0_0_2 : Int) (p0_0_3 : Int) (p0_0_4 : Int) (p1 : List Int) (r : Int) (h : fn27v2 p0_0_0 p0_0_1 p0_0_2 p0_0_3 p0_0_4 p1 = some r) : ConO Try.prog 27 [.p 0 0, .p 3 0] [(0, .cells 29 [.p 1 0]), (1, .cells 54 [.sl 2, .v (.int .u8 p0_0_1), .v (.int .i64 p0_0_2), .v (.int .i64 p0_0_3), .v (.int .i64 p0_0_4), .v (.map none)]), (2, .ex (pO HCell.D 63 p0_0_0) []), (3, .cells 35 [.sl 4]), (4, .rd (Et.int .u8) p1)] 5 (.pan (.iface 30 (.int .i64 r)) [(0, .cells 29 [.p 1 0]), (1, .cells 54 [.sl 2, .v (.int .u8 p0_0_1), .v (.int .i64 p0_0_2), .v (.int .i64 p0_0_3), .v (.int .i64 p0_0_4), .v (.map none)]), (2, .ex (pO HCell.D 63 p0_0_0) []), (3, .cells 35 [.sl 4])] 5) := by
 rw [fn27v2] at h
 refine ConO.of_body Try.func27 Try.ntmps27 fun w F0 ρ => ?_
 refine RU tbOk false 999 3 [] aN (by rfl) ?_
 refine fk1 h (fun v1 hv2 h => ?_)
 ·refine RU tbOk false 999 0 [] aN (by rfl) ?_
  refine CX_ tbOk [1, 2, 4] (c22v2_0 p0_0_0 p0_0_1 p0_0_2 p0_0_3 p0_0_4 p1 v1 hv2) (aK aN) ?_
  refine RU tbOk false 999 0 [] aN (by rfl) ?_
  have hr := Option.some.inj h
  subst hr
  exact TP_ [0, 1, 2, 3, 4]
theorem c27v2_0 (p0_0_0 : List HCell) (p0_0_1 : Int) (p0_0_2 : Int) (p0_0_3 : Int) (p0_0_4 : Int) (p1 : List Int) (r : Int) (h : fn27v2 p0_0_0 p0_0_1 p0_0_2 p0_0_3 p0_0_4 p1 = some r) : ConX Try.prog 27 [.p 0 0, .p 3 0] [(0, .cells 29 [.p 1 0]), (1, .cells 54 [.sl 2, .v (.int .u8 p0_0_1), .v (.int .i64 p0_0_2), .v (.int .i64 p0_0_3), .v (.int .i64 p0_0_4), .v (.map none)]), (2, .ex (pO HCell.D 63 p0_0_0) []), (3, .cells 35 [.sl 4]), (4, .rd (Et.int .u8) p1)] 5 (.iface 30 (.int .i64 r)) [(0, .cells 29 [.p 1 0]), (1, .cells 54 [.sl 2, .v (.int .u8 p0_0_1), .v (.int .i64 p0_0_2), .v (.int .i64 p0_0_3), .v (.int .i64 p0_0_4), .v (.map none)]), (2, .ex (pO HCell.D 63 p0_0_0) []), (3, .cells 35 [.sl 4])] 5 := c27v2 p0_0_0 p0_0_1 p0_0_2 p0_0_3 p0_0_4 p1 _ h
def fn24v5 (p0c0_0_0 : List HCell) (p0c0_0_1 : Int) (p0c0_0_2 : Int) (p0c0_0_3 : Int) (p0c0_0_4 : Int) (p0c1 : List Int) : Option (Int × Int) :=
 frk1 (fn27v2 p0c0_0_0 p0c0_0_1 p0c0_0_2 p0c0_0_3 p0c0_0_4 p0c1) (fun v2 => some (((fn39 0 0 v2).2, (fn39 0 0 v2).1)))
theorem c24v5 (p0c0_0_0 : List HCell) (p0c0_0_1 : Int) (p0c0_0_2 : Int) (p0c0_0_3 : Int) (p0c0_0_4 : Int) (p0c1 : List Int) (r : Int × Int) (h : fn24v5 p0c0_0_0 p0c0_0_1 p0c0_0_2 p0c0_0_3 p0c0_0_4 p0c1 = some r) : ConO Try.prog 24 [.fn (.func 27) [] [.p 0 0, .p 3 0]] [(0, .cells 29 [.p 1 0]), (1, .cells 54 [.sl 2, .v (.int .u8 p0c0_0_1), .v (.int .i64 p0c0_0_2), .v (.int .i64 p0c0_0_3), .v (.int .i64 p0c0_0_4), .v (.map none)]), (2, .ex (pO HCell.D 63 p0c0_0_0) []), (3, .cells 35 [.sl 4]), (4, .rd (Et.int .u8) p0c1)] 5 (.ret (.tu [.v (.int .i64 r.1), .v (.int .i64 r.2)]) [(0, .cells 29 [.p 1 0]), (1, .cells 54 [.sl 2, .v (.int .u8 p0c0_0_1), .v (.int .i64 p0c0_0_2), .v (.int .i64 p0c0_0_3), .v (.int .i64 p0c0_0_4), .v (.map none)]), (2, .ex (pO HCell.D 63 p0c0_0_0) []), (3, .cells 35 [.sl 4])] 5) := by
 rw [fn24v5] at h
 refine ConO.of_body Try.func24 Try.ntmps24 fun w F0 ρ => ?_
 refine RU tbOk false 999 3 [] aN (by rfl) ?_
 refine DF_ (fun vs1 => ?_)
 refine RU tbOk false 999 1 [] aN (by rfl) ?_
 refine fk1 h (fun v2 hv3 h => ?_)
 ·refine RU tbOk false 999 0 [] aN (by rfl) ?_
  refine CX_ tbOk [0, 1, 2, 3, 4] (c27v2_0 p0c0_0_0 p0c0_0_1 p0c0_0_2 p0c0_0_3 p0c0_0_4 p0c1 v2 hv3) (aK aN) ?_
  refine RU tbOk false 999 0 [] aN (by rfl) ?_
  have hr := Option.some.inj h
  subst hr
  exact TDP_ tbOk Try.results24 7 [6, 5] (c39 0 0 v2 _ rfl) [0, 1, 2, 3, 4]
theorem c24v5_0 (p0c0_0_0 : List HCell) (p0c0_0_1 : Int) (p0c0_0_2 : Int) (p0c0_0_3 : Int) (p0c0_0_4 : Int) (p0c1 : List Int) (r : Int × Int) (h : fn24v5 p0c0_0_0 p0c0_0_1 p0c0_0_2 p0c0_0_3 p0c0_0_4 p0c1 = some r) : Con Try.prog 24 [.fn (.func 27) [] [.p 0 0, .p 3 0]] [(0, .cells 29 [.p 1 0]), (1, .cells 54 [.sl 2, .v (.int .u8 p0c0_0_1), .v (.int .i64 p0c0_0_2), .v (.int .i64 p0c0_0_3), .v (.int .i64 p0c0_0_4), .v (.map none)]), (2, .ex (pO HCell.D 63 p0c0_0_0) []), (3, .cells 35 [.sl 4]), (4, .rd (Et.int .u8) p0c1)] 5 (.tu [.v (.int .i64 r.1), .v (.int .i64 r.2)]) [(0, .cells 29 [.p 1 0]), (1, .cells 54 [.sl 2, .v (.int .u8 p0c0_0_1), .v (.int .i64 p0c0_0_2), .v (.int .i64 p0c0_0_3), .v (.int .i64 p0c0_0_4), .v (.map none)]), (2, .ex (pO HCell.D 63 p0c0_0_0) []), (3, .cells 35 [.sl 4])] 5 := c24v5 p0c0_0_0 p0c0_0_1 p0c0_0_2 p0c0_0_3 p0c0_0_4 p0c1 _ h
def fn11v2 (p0_0 : List HCell) (p0_1 : Int) (p0_2 : Int) (p0_3 : Int) (p0_4 : Int) (p1 : List Int) : Option (Int × Int) :=
 frk1 (fn24v5 p0_0 p0_1 p0_2 p0_3 p0_4 p1) (fun v1 => some ((v1.1, v1.2)))
theorem c11v2 (p0_0 : List HCell) (p0_1 : Int) (p0_2 : Int) (p0_3 : Int) (p0_4 : Int) (p1 : List Int) (r : Int × Int) (h : fn11v2 p0_0 p0_1 p0_2 p0_3 p0_4 p1 = some r) : Con Try.prog 11 [.p 0 0, .sl 2] [(0, .cells 54 [.sl 1, .v (.int .u8 p0_1), .v (.int .i64 p0_2), .v (.int .i64 p0_3), .v (.int .i64 p0_4), .v (.map none)]), (1, .ex (pO HCell.D 63 p0_0) []), (2, .rd (Et.int .u8) p1)] 3 (.tu [.v (.int .i64 r.1), .v (.int .i64 r.2)]) [(0, .cells 54 [.sl 1, .v (.int .u8 p0_1), .v (.int .i64 p0_2), .v (.int .i64 p0_3), .v (.int .i64 p0_4), .v (.map none)]), (1, .ex (pO HCell.D 63 p0_0) [])] 3 := by
 rw [fn11v2] at h
 refine Con.of_body Try.func11 rfl Try.ntmps11 rfl fun w F0 ρ => ?_
 refine RU tbOk false 999 5 [] aN (by rfl) ?_
 refine fk1 h (fun v1 hv2 h => ?_)
 ·refine RU tbOk false 999 1 [.cl true [3, 0, 1, 4, 2] (fun _ => c24v5_0 p0_0 p0_1 p0_2 p0_3 p0_4 p1 v1 hv2)] (aK aN) (by rfl) ?_
  refine RU tbOk false 999 4 [] aN (by rfl) ?_
  have hr := Option.some.inj h
  subst hr
  exact RT tbOk.t Try.results11 [0, 1, 2] (by rfl) (by rfl) (by rfl) rfl rfl
def fn31v1 (p0_0_0 : List HCell) (p0_0_1 : Int) (p0_0_2 : Int) (p0_0_3 : Int) (p0_0_4 : Int) (p1 : Int) : Option (Int) :=
 frk1 (fn32v2 p0_0_0 p0_0_1 p0_0_2 p0_0_3 p0_0_4) (fun v1 => some (v1))
theorem c31v1 (p0_0_0 : List HCell) (p0_0_1 : Int) (p0_0_2 : Int) (p0_0_3 : Int) (p0_0_4 : Int) (p1 : Int) (r : Int) (h : fn31v1 p0_0_0 p0_0_1 p0_0_2 p0_0_3 p0_0_4 p1 = some r) : ConO Try.prog 31 [.p 0 0, .p 3 0] [(0, .cells 29 [.p 1 0]), (1, .cells 54 [.sl 2, .v (.int .u8 p0_0_1), .v (.int .i64 p0_0_2), .v (.int .i64 p0_0_3), .v (.int .i64 p0_0_4), .v (.map none)]), (2, .ex (pO HCell.D 63 p0_0_0) []), (3, .cells 3 [.v (.int .i64 p1)])] 4 (.pan (.iface 30 (.int .i64 r)) [(0, .cells 29 [.p 1 0]), (1, .cells 54 [.sl 2, .v (.int .u8 p0_0_1), .v (.int .i64 p0_0_2), .v (.int .i64 p0_0_3), .v (.int .i64 p0_0_4), .v (.map none)]), (2, .ex (pO HCell.D 63 p0_0_0) []), (3, .cells 3 [.v (.int .i64 p1)])] 4) := by
 rw [fn31v1] at h
 refine ConO.of_body Try.func31 Try.ntmps31 fun w F0 ρ => ?_
 refine RU tbOk false 999 2 [] aN (by rfl) ?_
 refine fk1 h (fun v1 hv2 h => ?_)
 ·refine RU tbOk false 999 0 [] aN (by rfl) ?_
  refine CX_ tbOk [1, 2] (c32v2_0 p0_0_0 p0_0_1 p0_0_2 p0_0_3 p0_0_4 v1 hv2) (aK aN) ?_
  refine RU tbOk false 999 0 [] aN (by rfl) ?_
  have hr := Option.some.inj h
  subst hr
  exact TP_ [0, 1, 2, 3]
theorem c31v1_0 (p0_0_0 : List HCell) (p0_0_1 : Int) (p0_0_2 : Int) (p0_0_3 : Int) (p0_0_4 : Int) (p1 : Int) (r : Int) (h : fn31v1 p0_0_0 p0_0_1 p0_0_2 p0_0_3 p0_0_4 p1 = some r) : ConX Try.prog 31 [.p 0 0, .p 3 0] [(0, .cells 29 [.p 1 0]), (1, .cells 54 [.sl 2, .v (.int .u8 p0_0_1), .v (.int .i64 p0_0_2), .v (.int .i64 p0_0_3), .v (.int .i64 p0_0_4), .v (.map none)]), (2, .ex (pO HCell.D 63 p0_0_0) []), (3, .cells 3 [.v (.int .i64 p1)])] 4 (.iface 30 (.int .i64 r)) [(0, .cells 29 [.p 1 0]), (1, .cells 54 [.sl 2, .v (.int .u8 p0_0_1), .v (.int .i64 p0_0_2), .v (.int .i64 p0_0_3), .v (.int .i64 p0_0_4), .v (.map none)]), (2, .ex (pO HCell.D 63 p0_0_0) []), (3, .cells 3 [.v (.int .i64 p1)])] 4 := c31v1 p0_0_0 p0_0_1 p0_0_2 p0_0_3 p0_0_4 p1 _ h
def fn30v1 (p0c0_0_0 : List HCell) (p0c0_0_1 : Int) (p0c0_0_2 : Int) (p0c0_0_3 : Int) (p0c0_0_4 : Int) (p0c1 : Int) : Option ((List Int) × Int) :=
 frk1 (fn31v1 p0c0_0_0 p0c0_0_1 p0c0_0_2 p0c0_0_3 p0c0_0_4 p0c1) (fun v2 => some (((fn44 0 ([] : List Int) v2).2, (fn44 0 ([] : List Int) v2).1)))
theorem c30v1 (p0c0_0_0 : List HCell) (p0c0_0_1 : Int) (p0c0_0_2 : Int) (p0c0_0_3 : Int) (p0c0_0_4 : Int) (p0c1 : Int) (r : (List Int) × Int) (h : fn30v1 p0c0_0_0 p0c0_0_1 p0c0_0_2 p0c0_0_3 p0c0_0_4 p0c1 = some r) : ConO Try.prog 30 [.fn (.func 31) [] [.p 0 0, .p 3 0]] [(0, .cells 29 [.p 1 0]), (1, .cells 54 [.sl 2, .v (.int .u8 p0c0_0_1), .v (.int .i64 p0c0_0_2), .v (.int .i64 p0c0_0_3), .v (.int .i64 p0c0_0_4), .v (.map none)]), (2, .ex (pO HCell.D 63 p0c0_0_0) []), (3, .cells 3 [.v (.int .i64 p0c1)])] 4 (.ret (.tu [.sl 4, .v (.int .i64 r.2)]) [(0, .cells 29 [.p 1 0]), (1, .cells 54 [.sl 2, .v (.int .u8 p0c0_0_1), .v (.int .i64 p0c0_0_2), .v (.int .i64 p0c0_0_3), .v (.int .i64 p0c0_0_4), .v (.map none)]), (2, .ex (pO HCell.D 63 p0c0_0_0) []), (3, .cells 3 [.v (.int .i64 p0c1)]), (4, .row (Et.int .u8) 5 r.1 r.1.length .unk)] 5) := by
 rw [fn30v1] at h
 refine ConO.of_body Try.func30 Try.ntmps30 fun w F0 ρ => ?_
 refine RU tbOk false 999 3 [] aN (by rfl) ?_
 refine DF_ (fun vs1 => ?_)
 refine RU tbOk false 999 1 [] aN (by rfl) ?_
 refine fk1 h (fun v2 hv3 h => ?_)
 ·refine RU tbOk false 999 0 [] aN (by rfl) ?_
  refine CX_ tbOk [0, 1, 2, 3] (c31v1_0 p0c0_0_0 p0c0_0_1 p0c0_0_2 p0c0_0_3 p0c0_0_4 p0c1 v2 hv3) (aK aN) ?_
  refine RU tbOk false 999 0 [] aN (by rfl) ?_
  refine G4.imp (Imp.nilC (Et.int .u8) 5 4 0 (by rfl) (by rfl) (by rfl)) ?_
  have hr := Option.some.inj h
  subst hr
  exact TDP_ tbOk Try.results30 6 [5, 4, 7] (c44 0 ([] : List Int) v2 _ rfl) [0, 1, 2, 3, 8]
theorem c30v1_0 (p0c0_0_0 : List HCell) (p0c0_0_1 : Int) (p0c0_0_2 : Int) (p0c0_0_3 : Int) (p0c0_0_4 : Int) (p0c1 : Int) (r : (List Int) × Int) (h : fn30v1 p0c0_0_0 p0c0_0_1 p0c0_0_2 p0c0_0_3 p0c0_0_4 p0c1 = some r) : Con Try.prog 30 [.fn (.func 31) [] [.p 0 0, .p 3 0]] [(0, .cells 29 [.p 1 0]), (1, .cells 54 [.sl 2, .v (.int .u8 p0c0_0_1), .v (.int .i64 p0c0_0_2), .v (.int .i64 p0c0_0_3), .v (.int .i64 p0c0_0_4), .v (.map none)]), (2, .ex (pO HCell.D 63 p0c0_0_0) []), (3, .cells 3 [.v (.int .i64 p0c1)])] 4 (.tu [.sl 4, .v (.int .i64 r.2)]) [(0, .cells 29 [.p 1 0]), (1, .cells 54 [.sl 2, .v (.int .u8 p0c0_0_1), .v (.int .i64 p0c0_0_2), .v (.int .i64 p0c0_0_3), .v (.int .i64 p0c0_0_4), .v (.map none)]), (2, .ex (pO HCell.D 63 p0c0_0_0) []), (3, .cells 3 [.v (.int .i64 p0c1)]), (4, .row (Et.int .u8) 5 r.1 r.1.length .unk)] 5 := c30v1 p0c0_0_0 p0c0_0_1 p0c0_0_2 p0c0_0_3 p0c0_0_4 p0c1 _ h
def fn13v1 (p0_0 : List HCell) (p0_1 : Int) (p0_2 : Int) (p0_3 : Int) (p0_4 : Int) (p1 : Int) : Option ((List Int) × Int) :=
 frk1 (fn30v1 p0_0 p0_1 p0_2 p0_3 p0_4 p1) (fun v1 => some ((v1.1, v1.2)))
theorem c13v1 (p0_0 : List HCell) (p0_1 : Int) (p0_2 : Int) (p0_3 : Int) (p0_4 : Int) (p1 : Int) (r : (List Int) × Int) (h : fn13v1 p0_0 p0_1 p0_2 p0_3 p0_4 p1 = some r) : Con Try.prog 13 [.p 0 0, .v (.int .i64 p1)] [(0, .cells 54 [.sl 1, .v (.int .u8 p0_1), .v (.int .i64 p0_2), .v (.int .i64 p0_3), .v (.int .i64 p0_4), .v (.map none)]), (1, .ex (pO HCell.D 63 p0_0) [])] 2 (.tu [.sl 2, .v (.int .i64 r.2)]) [(0, .cells 54 [.sl 1, .v (.int .u8 p0_1), .v (.int .i64 p0_2), .v (.int .i64 p0_3), .v (.int .i64 p0_4), .v (.map none)]), (1, .ex (pO HCell.D 63 p0_0) []), (2, .row (Et.int .u8) 5 r.1 r.1.length .unk)] 3 := by
 rw [fn13v1] at h
 refine Con.of_body Try.func13 rfl Try.ntmps13 rfl fun w F0 ρ => ?_
 refine RU tbOk false 999 5 [] aN (by rfl) ?_
 refine fk1 h (fun v1 hv2 h => ?_)
 ·refine RU tbOk false 999 1 [.cl true [2, 0, 1, 3] (fun _ => c30v1_0 p0_0 p0_1 p0_2 p0_3 p0_4 p1 v1 hv2)] (aK aN) (by rfl) ?_
  refine RU tbOk false 999 4 [] aN (by rfl) ?_
  have hr := Option.some.inj h
  subst hr
  exact RT tbOk.t Try.results13 [0, 1, 4] (by rfl) (by rfl) (by rfl) rfl rfl
def fn25v2 (p0_0_0 : List HCell) (p0_0_1 : Int) (p0_0_2 : Int) (p0_0_3 : Int) (p0_0_4 : Int) (p1 : List Int) (p2 : List Int) (p3 : Int) : Option (Int) :=
 frk1 (fn22v2 p0_0_0 p0_0_1 p0_0_2 p0_0_3 p0_0_4 p1) (fun v1 => some (v1))
theorem c25v2 (p0_0_0 : List HCell) (p0_0_1 : Int) (p0_0_2 : Int) (p0_0_3 : Int) (p0_0_4 : Int) (p1 : List Int) (p2 : List Int) (p3 : Int) (r : Int) (h : fn25v2 p0_0_0 p0_0_1 p0_0_2 p0_0_3 p0_0_4 p1 p2 p3 = some r) : ConO Try.prog 25 [.p 0 0, .p 3 0, .p 5 0, .p 7 0] [(0, .cells 29 [.p 1 0]), (1, .cells 54 [.sl 2, .v (.int .u8 p0_0_1), .v (.int .i64 p0_0_2), .v (.int .i64 p0_0_3), .v (.int .i64 p0_0_4), .v (.map none)]), (2, .ex (pO HCell.D 63 p0_0_0) []), (3, .cells 35 [.sl 4]), (4, .rd (Et.int .u8) p1), (5, .cells 35 [.sl 6]), (6, .rd (Et.int .u8) p2), (7, .cells 36 [.v (.int .u64 p3)])] 8 (.pan (.iface 30 (.int .i64 r)) [(0, .cells 29 [.p 1 0]), (1, .cells 54 [.sl 2, .v (.int .u8 p0_0_1), .v (.int .i64 p0_0_2), .v (.int .i64 p0_0_3), .v (.int .i64 p0_0_4), .v (.map none)]), (2, .ex (pO HCell.D 63 p0_0_0) []), (3, .cells 35 [.sl 4]), (5, .cells 35 [.sl 6]), (7, .cells 36 [.v (.int .u64 p3)])] 8) := by
 rw [fn25v2] at h
 refine ConO.of_body Try.func25 Try.ntmps25 fun w F0 ρ => ?_
 refine RU tbOk false 999 3 [] aN (by rfl) ?_
 refine fk1 h (fun v1 hv2 h => ?_)
 ·refine RU tbOk false 999 0 [] aN (by rfl) ?_
  refine CX_ tbOk [1, 2, 4] (c22v2_0 p0_0_0 p0_0_1 p0_0_2 p0_0_3 p0_0_4 p1 v1 hv2) (aK aN) ?_
  refine RU tbOk false 999 0 [] aN (by rfl) ?_
  have hr := Option.some.inj h
  subst hr
  exact TP_ [0, 1, 2, 3, 4, 5, 6, 7]
theorem c25v2_0 (p0_0_0 : List HCell) (p0_0_1 : Int) (p0_0_2 : Int) (p0_0_3 : Int) (p0_0_4 : Int) (p1 : List Int) (p2 : List Int) (p3 : Int) (r : Int) (h : fn25v2 p0_0_0 p0_0_1 p0_0_2 p0_0_3 p0_0_4 p1 p2 p3 = some r) : ConX Try.prog 25 [.p 0 0, .p 3 0, .p 5 0, .p 7 0] [(0, .cells 29 [.p 1 0]), (1, .cells 54 [.sl 2, .v (.int .u8 p0_0_1), .v (.int .i64 p0_0_2), .v (.int .i64 p0_0_3), .v (.int .i64 p0_0_4), .v (.map none)]), (2, .ex (pO HCell.D 63 p0_0_0) []), (3, .cells 35 [.sl 4]), (4, .rd (Et.int .u8) p1), (5, .cells 35 [.sl 6]), (6, .rd (Et.int .u8) p2), (7, .cells 36 [.v (.int .u64 p3)])] 8 (.iface 30 (.int .i64 r)) [(0, .cells 29 [.p 1 0]), (1, .cells 54 [.sl 2, .v (.int .u8 p0_0_1), .v (.int .i64 p0_0_2), .v (.int .i64 p0_0_3), .v (.int .i64 p0_0_4), .v (.map none)]), (2, .ex (pO HCell.D 63 p0_0_0) []), (3, .cells 35 [.sl 4]), (5, .cells 35 [.sl 6]), (7, .cells 36 [.v (.int .u64 p3)])] 8 := c25v2 p0_0_0 p0_0_1 p0_0_2 p0_0_3 p0_0_4 p1 p2 p3 _ h
def fn24v6 (p0c0_0_0 : List HCell) (p0c0_0_1 : Int) (p0c0_0_2 : Int) (p0c0_0_3 : Int) (p0c0_0_4 : Int) (p0c1 : List Int) (p0c2 : List Int) (p0c3 : Int) : Option (Int × Int) :=
 frk1 (fn25v2 p0c0_0_0 p0c0_0_1 p0c0_0_2 p0c0_0_3 p0c0_0_4 p0c1 p0c2 p0c3) (fun v2 => some (((fn39 0 0 v2).2, (fn39 0 0 v2).1)))
theorem c24v6 (p0c0_0_0 : List HCell) (p0c0_0_1 : Int) (p0c0_0_2 : Int) (p0c0_0_3 : Int) (p0c0_0_4 : Int) (p0c1 : List Int) (p0c2 : List Int) (p0c3 : Int) (r : Int × Int) (h : fn24v6 p0c0_0_0 p0c0_0_1 p0c0_0_2 p0c0_0_3 p0c0_0_4 p0c1 p0c2 p0c3 = some r) : ConO Try.prog 24 [.fn (.func 25) [] [.p 0 0, .p 3 0, .p 5 0, .p 7 0]] [(0, .cells 29 [.p 1 0]), (1, .cells 54 [.sl 2, .v (.int .u8 p0c0_0_1), .v (.int .i64 p0c0_0_2), .v (.int .i64 p0c0_0_3), .v (.int .i64 p0c0_0_4), .v (.map none)]), (2, .ex (pO HCell.D 63 p0c0_0_0) []), (3, .cells 35 [.sl 4]), (4, .rd (Et.int .u8) p0c1), (5, .cells 35 [.sl 6]), (6, .rd (Et.int .u8) p0c2), (7, .cells 36 [.v (.int .u64 p0c3)])] 8 (.ret (.tu [.v (.int .i64 r.1), .v (.int .i64 r.2)]) [(0, .cells 29 [.p 1 0]), (1, .cells 54 [.sl 2, .v (.int .u8 p0c0_0_1), .v (.int .i64 p0c0_0_2), .v (.int .i64 p0c0_0_3), .v (.int .i64 p0c0_0_4), .v (.map none)]), (2, .ex (pO HCell.D 63 p0c0_0_0) []), (3, .cells 35 [.sl 4]), (5, .cells 35 [.sl 6]), (7, .cells 36 [.v (.int .u64 p0c3)])] 8) := by
 rw [fn24v6] at h
 refine ConO.of_body Try.func24 Try.ntmps24 fun w F0 ρ => ?_
 refine RU tbOk false 999 3 [] aN (by rfl) ?_
 refine DF_ (fun vs1 => ?_)
 refine RU tbOk false 999 1 [] aN (by rfl) ?_
 refine fk1 h (fun v2 hv3 h => ?_)
 ·refine RU tbOk false 999 0 [] aN (by rfl) ?_
  refine CX_ tbOk [0, 1, 2, 3, 4, 5, 6, 7] (c25v2_0 p0c0_0_0 p0c0_0_1 p0c0_0_2 p0c0_0_3 p0c0_0_4 p0c1 p0c2 p0c3 v2 hv3) (aK aN) ?_
  refine RU tbOk false 999 0 [] aN (by rfl) ?_
  have hr := Option.some.inj h
  subst hr
  exact TDP_ tbOk Try.results24 10 [9, 8] (c39 0 0 v2 _ rfl) [0, 1, 2, 3, 4, 5, 6, 7]
theorem c24v6_0 (p0c0_0_0 : List HCell) (p0c0_0_1 : Int) (p0c0_0_2 : Int) (p0c0_0_3 : Int) (p0c0_0_4 : Int) (p0c1 : List Int) (p0c2 : List Int) (p0c3 : Int) (r : Int × Int) (h : fn24v6 p0c0_0_0 p0c0_0_1 p0c0_0_2 p0c0_0_3 p0c0_0_4 p0c1 p0c2 p0c3 = some r) : Con Try.prog 24 [.fn (.func 25) [] [.p 0 0, .p 3 0, .p 5 0, .p 7 0]] [(0, .cells 29 [.p 1 0]), (1, .cells 54 [.sl 2, .v (.int .u8 p0c0_0_1), .v (.int .i64 p0c0_0_2), .v (.int .i64 p0c0_0_3), .v (.int .i64 p0c0_0_4), .v (.map none)]), (2, .ex (pO HCell.D 63 p0c0_0_0) []), (3, .cells 35 [.sl 4]), (4, .rd (Et.int .u8) p0c1), (5, .cells 35 [.sl 6]), (6, .rd (Et.int .u8) p0c2), (7, .cells 36 [.v (.int .u64 p0c3)])] 8 (.tu [.v (.int .i64 r.1), .v (.int .i64 r.2)]) [(0, .cells 29 [.p 1 0]), (1, .cells 54 [.sl 2, .v (.int .u8 p0c0_0_1), .v (.int .i64 p0c0_0_2), .v (.int .i64 p0c0_0_3), .v (.int .i64 p0c0_0_4), .v (.map none)]), (2, .ex (pO HCell.D 63 p0c0_0_0) []), (3, .cells 35 [.sl 4]), (5, .cells 35 [.sl 6]), (7, .cells 36 [.v (.int .u64 p0c3)])] 8 := c24v6 p0c0_0_0 p0c0_0_1 p0c0_0_2 p0c0_0_3 p0c0_0_4 p0c1 p0c2 p0c3 _ h
def fn10v2 (p0_0 : List HCell) (p0_1 : Int) (p0_2 : Int) (p0_3 : Int) (p0_4 : Int) (p1 : List Int) (p2 : List Int) (p3 : Int) : Option (Int) :=
 frk1 (fn24v6 p0_0 p0_1 p0_2 p0_3 p0_4 p1 p2 p3) (fun v1 => some (v1.2))
theorem c10v2 (p0_0 : List HCell) (p0_1 : Int) (p0_2 : Int) (p0_3 : Int) (p0_4 : Int) (p1 : List Int) (p2 : List Int) (p3 : Int) (r : Int) (h : fn10v2 p0_0 p0_1 p0_2 p0_3 p0_4 p1 p2 p3 = some r) : Con Try.prog 10 [.p 0 0, .sl 2, .sl 3, .v (.int .u64 p3)] [(0, .cells 54 [.sl 1, .v (.int .u8 p0_1), .v (.int .i64 p0_2), .v (.int .i64 p0_3), .v (.int .i64 p0_4), .v (.map none)]), (1, .ex (pO HCell.D 63 p0_0) []), (2, .rd (Et.int .u8) p1), (3, .rd (Et.int .u8) p2)] 4 (.v (.int .i64 r)) [(0, .cells 54 [.sl 1, .v (.int .u8 p0_1), .v (.int .i64 p0_2), .v (.int .i64 p0_3), .v (.int .i64 p0_4), .v (.map none)]), (1, .ex (pO HCell.D 63 p0_0) [])] 4 := by
 rw [fn10v2] at h
 refine Con.of_body Try.func10 rfl Try.ntmps10 rfl fun w F0 ρ => ?_
 refine RU tbOk false 999 6 [] aN (by rfl) ?_
 refine fk1 h (fun v1 hv2 h => ?_)
 ·refine RU tbOk false 999 1 [.cl true [4, 0, 1, 5, 2, 6, 3, 7] (fun _ => c24v6_0 p0_0 p0_1 p0_2 p0_3 p0_4 p1 p2 p3 v1 hv2)] (aK aN) (by rfl) ?_
  refine RU tbOk false 999 7 [] aN (by rfl) ?_
  have hr := Option.some.inj h
  subst hr
  exact RT tbOk.t Try.results10 [0, 1, 2, 3] (by rfl) (by rfl) (by rfl) rfl rfl
def fn21v2 (p0_0_0 : List HCell) (p0_0_1 : Int) (p0_0_2 : Int) (p0_0_3 : Int) (p0_0_4 : Int) (p1 : List Int) : Option (Int) :=
 frk1 (fn22v2 p0_0_0 p0_0_1 p0_0_2 p0_0_3 p0_0_4 p1) (fun v1 => some (v1))
theorem c21v2 (p0_0_0 : List HCell) (p0_0_1 : Int) (p0_0_2 : Int) (p0_0_3 : Int) (p0_0_4 : Int) (p1 : List Int) (r : Int) (h : fn21v2 p0_0_0 p0_0_1 p0_0_2 p0_0_3 p0_0_4 p1 = some r) : ConO Try.prog 21 [.p 0 0, .p 3 0] [(0, .cells 29 [.p 1 0]), (1, .cells 54 [.sl 2, .v (.int .u8 p0_0_1), .v (.int .i64 p0_0_2), .v (.int .i64 p0_0_3), .v (.int .i64 p0_0_4), .v (.map none)]), (2, .ex (pO HCell.D 63 p0_0_0) []), (3, .cells 35 [.sl 4]), (4, .rd (Et.int .u8) p1)] 5 (.pan (.iface 30 (.int .i64 r)) [(0, .cells 29 [.p 1 0]), (1, .cells 54 [.sl 2, .v (.int .u8 p0_0_1), .v (.int .i64 p0_0_2), .v (.int .i64 p0_0_3), .v (.int .i64 p0_0_4), .v (.map none)]), (2, .ex (pO HCell.D 63 p0_0_0) []), (3, .cells 35 [.sl 4])] 5) := by
 rw [fn21v2] at h
 refine ConO.of_body Try.func21 Try.ntmps21 fun w F0 ρ => ?_
 refine RU tbOk false 999 3 [] aN (by rfl) ?_
 refine fk1 h (fun v1 hv2 h => ?_)
 ·refine RU tbOk false 999 0 [] aN (by rfl) ?_
  refine CX_ tbOk [1, 2, 4] (c22v2_0 p0_0_0 p0_0_1 p0_0_2 p0_0_3 p0_0_4 p1 v1 hv2) (aK aN) ?_
  refine RU tbOk false 999 0 [] aN (by rfl) ?_
  have hr := Option.some.inj h
  subst hr
  exact TP_ [0, 1, 2, 3, 4]
theorem c21v2_0 (p0_0_0 : List HCell) (p0_0_1 : Int) (p0_0_2 : Int) (p0_0_3 : Int) (p0_0_4 : Int) (p1 : List Int) (r : Int) (h : fn21v2 p0_0_0 p0_0_1 p0_0_2 p0_0_3 p0_0_4 p1 = some r) : ConX Try.prog 21 [.p 0 0, .p 3 0] [(0, .cells 29 [.p 1 0]), (1, .cells 54 [.sl 2, .v (.int .u8 p0_0_1), .v (.int .i64 p0_0_2), .v (.int .i64 p0_0_3), .v (.int .i64 p0_0_4), .v (.map none)]), (2, .ex (pO HCell.D 63 p0_0_0) []), (3, .cells 35 [.sl 4]), (4, .rd (Et.int .u8) p1)] 5 (.iface 30 (.int .i64 r)) [(0, .cells 29 [.p 1 0]), (1, .cells 54 [.sl 2, .v (.int .u8 p0_0_1), .v (.int .i64 p0_0_2), .v (.int .i64 p0_0_3), .v (.int .i64 p0_0_4), .v (.map none)]), (2, .ex (pO HCell.D 63 p0_0_0) []), (3, .cells 35 [.sl 4])] 5 := c21v2 p0_0_0 p0_0_1 p0_0_2 p0_0_3 p0_0_4 p1 _ h
def fn20v2 (p0c0_0_0 : List HCell) (p0c0_0_1 : Int) (p0c0_0_2 : Int) (p0c0_0_3 : Int) (p0c0_0_4 : Int) (p0c1 : List Int) : Option (Bool × Int) :=
 frk1 (fn21v2 p0c0_0_0 p0c0_0_1 p0c0_0_2 p0c0_0_3 p0c0_0_4 p0c1) (fun v2 => some (((fn38 0 false v2).2, (fn38 0 false v2).1)))
theorem c20v2 (p0c0_0_0 : List HCell) (p0c0_0_1 : Int) (p0c0_0_2 : Int) (p0c0_0_3 : Int) (p0c0_0_4 : Int) (p0c1 : List Int) (r : Bool × Int) (h : fn20v2 p0c0_0_0 p0c0_0_1 p0c0_0_2 p0c0_0_3 p0c0_0_4 p0c1 = some r) : ConO Try.prog 20 [.fn (.func 21) [] [.p 0 0, .p 3 0]] [(0, .cells 29 [.p 1 0]), (1, .cells 54 [.sl 2, .v (.int .u8 p0c0_0_1), .v (.int .i64 p0c0_0_2), .v (.int .i64 p0c0_0_3), .v (.int .i64 p0c0_0_4), .v (.map none)]), (2, .ex (pO HCell.D 63 p0c0_0_0) []), (3, .cells 35 [.sl 4]), (4, .rd (Et.int .u8) p0c1)] 5 (.ret (.tu [.v (.bool r.1), .v (.int .i64 r.2)]) [(0, .cells 29 [.p 1 0]), (1, .cells 54 [.sl 2, .v (.int .u8 p0c0_0_1), .v (.int .i64 p0c0_0_2), .v (.int .i64 p0c0_0_3), .v (.int .i64 p0c0_0_4), .v (.map none)]), (2, .ex (pO HCell.D 63 p0c0_0_0) []), (3, .cells 35 [.sl 4])] 5) := by
 rw [fn20v2] at h
 refine ConO.of_body Try.func20 Try.ntmps20 fun w F0 ρ => ?_
 refine RU tbOk false 999 3 [] aN (by rfl) ?_
 refine DF_ (fun vs1 => ?_)
 refine RU tbOk false 999 1 [] aN (by rfl) ?_
 refine fk1 h (fun v2 hv3 h => ?_)
 ·refine RU tbOk false 999 0 [] aN (by rfl) ?_
  refine CX_ tbOk [0, 1, 2, 3, 4] (c21v2_0 p0c0_0_0 p0c0_0_1 p0c0_0_2 p0c0_0_3 p0c0_0_4 p0c1 v2 hv3) (aK aN) ?_
  refine RU tbOk false 999 0 [] aN (by rfl) ?_
  have hr := Option.some.inj h
  subst hr
  exact TDP_ tbOk Try.results20 7 [6, 5] (c38 0 false v2 _ rfl) [0, 1, 2, 3, 4]
theorem c20v2_0 (p0c0_0_0 : List HCell) (p0c0_0_1 : Int) (p0c0_0_2 : Int) (p0c0_0_3 : Int) (p0c0_0_4 : Int) (p0c1 : List Int) (r : Bool × Int) (h : fn20v2 p0c0_0_0 p0c0_0_1 p0c0_0_2 p0c0_0_3 p0c0_0_4 p0c1 = some r) : Con Try.prog 20 [.fn (.func 21) [] [.p 0 0, .p 3 0]] [(0, .cells 29 [.p 1 0]), (1, .cells 54 [.sl 2, .v (.int .u8 p0c0_0_1), .v (.int .i64 p0c0_0_2), .v (.int .i64 p0c0_0_3), .v (.int .i64 p0c0_0_4), .v (.map none)]), (2, .ex (pO HCell.D 63 p0c0_0_0) []), (3, .cells 35 [.sl 4]), (4, .rd (Et.int .u8) p0c1)] 5 (.tu [.v (.bool r.1), .v (.int .i64 r.2)]) [(0, .cells 29 [.p 1 0]), (1, .cells 54 [.sl 2, .v (.int .u8 p0c0_0_1), .v (.int .i64 p0c0_0_2), .v (.int .i64 p0c0_0_3), .v (.int .i64 p0c0_0_4), .v (.map none)]), (2, .ex (pO HCell.D 63 p0c0_0_0) []), (3, .cells 35 [.sl 4])] 5 := c20v2 p0c0_0_0 p0c0_0_1 p0c0_0_2 p0c0_0_3 p0c0_0_4 p0c1 _ h
def fn9v2 (p0_0 : List HCell) (p0_1 : Int) (p0_2 : Int) (p0_3 : Int) (p0_4 : Int) (p1 : List Int) : Option (Int) :=
 frk1 (fn20v2 p0_0 p0_1 p0_2 p0_3 p0_4 p1) (fun v1 => some (v1.2))
theorem c9v2 (p0_0 : List HCell) (p0_1 : Int) (p0_2 : Int) (p0_3 : Int) (p0_4 : Int) (p1 : List Int) (r : Int) (h : fn9v2 p0_0 p0_1 p0_2 p0_3 p0_4 p1 = some r) : Con Try.prog 9 [.p 0 0, .sl 2] [(0, .cells 54 [.sl 1, .v (.int .u8 p0_1), .v (.int .i64 p0_2), .v (.int .i64 p0_3), .v (.int .i64 p0_4), .v (.map none)]), (1, .ex (pO HCell.D 63 p0_0) []), (2, .rd (Et.int .u8) p1)] 3 (.v (.int .i64 r)) [(0, .cells 54 [.sl 1, .v (.int .u8 p0_1), .v (.int .i64 p0_2), .v (.int .i64 p0_3), .v (.int .i64 p0_4), .v (.map none)]), (1, .ex (pO HCell.D 63 p0_0) [])] 3 := by
 rw [fn9v2] at h
 refine Con.of_body Try.func9 rfl Try.ntmps9 rfl fun w F0 ρ => ?_
 refine RU tbOk false 999 4 [] aN (by rfl) ?_
 refine fk1 h (fun v1 hv2 h => ?_)
 ·refine RU tbOk false 999 1 [.cl true [3, 0, 1, 4, 2] (fun _ => c20v2_0 p0_0 p0_1 p0_2 p0_3 p0_4 p1 v1 hv2)] (aK aN) (by rfl) ?_
  refine RU tbOk false 999 7 [] aN (by rfl) ?_
  have hr := Option.some.inj h
  subst hr
  exact RT tbOk.t Try.results9 [0, 1, 2] (by rfl) (by rfl) (by rfl) rfl rfl
def fn34v1 (p0_0_0 : List HCell) (p0_0_1 : Int) (p0_0_2 : Int) (p0_0_3 : Int) (p0_0_4 : Int) (p1 : Int) (p2 : Int) (p3 : List Int) : Option (Int) :=
 frk1 (fn32v2 p0_0_0 p0_0_1 p0_0_2 p0_0_3 p0_0_4) (fun v1 => some (v1))
theorem c34v1 (p0_0_0 : List HCell) (p0_0_1 : Int) (p0_0_2 : Int) (p0_0_3 : Int) (p0_0_4 : Int) (p1 : Int) (p2 : Int) (p3 : List Int) (r : Int) (h : fn34v1 p0_0_0 p0_0_1 p0_0_2 p0_0_3 p0_0_4 p1 p2 p3 = some r) : ConO Try.prog 34 [.p 0 0, .p 3 0, .p 4 0, .p 5 0] [(0, .cells 29 [.p 1 0]), (1, .cells 54 [.sl 2, .v (.int .u8 p0_0_1), .v (.int .i64 p0_0_2), .v (.int .i64 p0_0_3), .v (.int .i64 p0_0_4), .v (.map none)]), (2, .ex (pO HCell.D 63 p0_0_0) []), (3, .cells 3 [.v (.int .i64 p1)]), (4, .cells 3 [.v (.int .i64 p2)]), (5, .cells 35 [.sl 6]), (6, .rd (Et.int .u8) p3)] 7 (.pan (.iface 30 (.int .i64 r)) [(0, .cells 29 [.p 1 0]), (1, .cells 54 [.sl 2, .v (.int .u8 p0_0_1), .v (.int .i64 p0_0_2), .v (.int .i64 p0_0_3), .v (.int .i64 p0_0_4), .v (.map none)]), (2, .ex (pO HCell.D 63 p0_0_0) []), (3, .cells 3 [.v (.int .i64 p1)]), (4, .cells 3 [.v (.int .i64 p2)]), (5, .cells 35 [.sl 6])] 7) := by
 rw [fn34v1] at h
 refine ConO.of_body Try.func34 Try.ntmps34 fun w F0 ρ => ?_
 refine RU tbOk false 999 2 [] aN (by rfl) ?_
 refine fk1 h (fun v1 hv2 h => ?_)
 ·refine RU tbOk false 999 0 [] aN (by rfl) ?_
  refine CX_ tbOk [1, 2] (c32v2_0 p0_0_0 p0_0_1 p0_0_2 p0_0_3 p0_0_4 v1 hv2) (aK aN) ?_
  refine RU tbOk false 999 0 [] aN (by rfl) ?_
  have hr := Option.some.inj h
  subst hr
  exact TP_ [0, 1, 2, 3, 4, 5, 6]
theorem c34v1_0 (p0_0_0 : List HCell) (p0_0_1 : Int) (p0_0_2 : Int) (p0_0_3 : Int) (p0_0_4 : Int) (p1 : Int) (p2 : Int) (p3 : List Int) (r : Int) (h : fn34v1 p0_0_0 p0_0_1 p0_0_2 p0_0_3 p0_0_4 p1 p2 p3 = some r) : ConX Try.prog 34 [.p 0 0, .p 3 0, .p 4 0, .p 5 0] [(0, .cells 29 [.p 1 0]), (1, .cells 54 [.sl 2, .v (.int .u8 p0_0_1), .v (.int .i64 p0_0_2), .v (.int .i64 p0_0_3), .v (.int .i64 p0_0_4), .v (.map none)]), (2, .ex (pO HCell.D 63 p0_0_0) []), (3, .cells 3 [.v (.int .i64 p1)]), (4, .cells 3 [.v (.int .i64 p2)]), (5, .cells 35 [.sl 6]), (6, .rd (Et.int .u8) p3)] 7 (.iface 30 (.int .i64 r)) [(0, .cells 29 [.p 1 0]), (1, .cells 54 [.sl 2, .v (.int .u8 p0_0_1), .v (.int .i64 p0_0_2), .v (.int .i64 p0_0_3), .v (.int .i64 p0_0_4), .v (.map none)]), (2, .ex (pO HCell.D 63 p0_0_0) []), (3, .cells 3 [.v (.int .i64 p1)]), (4, .cells 3 [.v (.int .i64 p2)]), (5, .cells 35 [.sl 6])] 7 := c34v1 p0_0_0 p0_0_1 p0_0_2 p0_0_3 p0_0_4 p1 p2 p3 _ h
def fn24v7 (p0c0_0_0 : List HCell) (p0c0_0_1 : Int) (p0c0_0_2 : Int) (p0c0_0_3 : Int) (p0c0_0_4 : Int) (p0c1 : Int) (p0c2 : Int) (p0c3 : List Int) : Option (Int × Int) :=
 frk1 (fn34v1 p0c0_0_0 p0c0_0_1 p0c0_0_2 p0c0_0_3 p0c0_0_4 p0c1 p0c2 p0c3) (fun v2 => some (((fn39 0 0 v2).2, (fn39 0 0 v2).1)))
theorem c24v7 (p0c0_0_0 : List HCell) (p0c0_0_1 : Int) (p0c0_0_2 : Int) (p0c0_0_3 : Int) (p0c0_0_4 : Int) (p0c1 : Int) (p0c2 : Int) (p0c3 : List Int) (r : Int × Int) (h : fn24v7 p0c0_0_0 p0c0_0_1 p0c0_0_2 p0c0_0_3 p0c0_0_4 p0c1 p0c2 p0c3 = some r) : ConO Try.prog 24 [.fn (.func 34) [] [.p 0 0, .p 3 0, .p 4 0, .p 5 0]] [(0, .cells 29 [.p 1 0]), (1, .cells 54 [.sl 2, .v (.int .u8 p0c0_0_1), .v (.int .i64 p0c0_0_2), .v (.int .i64 p0c0_0_3), .v (.int .i64 p0c0_0_4), .v (.map none)]), (2, .ex (pO HCell.D 63 p0c0_0_0) []), (3, .cells 3 [.v (.int .i64 p0c1)]), (4, .cells 3 [.v (.int .i64 p0c2)]), (5, .cells 35 [.sl 6]), (6, .rd (Et.int .u8) p0c3)] 7 (.ret (.tu [.v (.int .i64 r.1), .v (.int .i64 r.2)]) [(0, .cells 29 [.p 1 0]), (1, .cells 54 [.sl 2, .v (.int .u8 p0c0_0_1), .v (.int .i64 p0c0_0_2), .v (.int .i64 p0c0_0_3), .v (.int .i64 p0c0_0_4), .v (.map none)]), (2, .ex (pO HCell.D 63 p0c0_0_0) []), (3, .cells 3 [.v (.int .i64 p0c1)]), (4, .cells 3 [.v (.int .i64 p0c2)]), (5, .cells 35 [.sl 6])] 7) := by
 rw [fn24v7] at h
 refine ConO.of_body Try.func24 Try.ntmps24 fun w F0 ρ => ?_
 refine RU tbOk false 999 3 [] aN (by rfl) ?_
 refine DF_ (fun vs1 => ?_)
 refine RU tbOk false 999 1 [] aN (by rfl) ?_
 refine fk1 h (fun v2 hv3 h => ?_)
 ·refine RU tbOk false 999 0 [] aN (by rfl) ?_
  refine CX_ tbOk [0, 1, 2, 3, 4, 5, 6] (c34v1_0 p0c0_0_0 p0c0_0_1 p0c0_0_2 p0c0_0_3 p0c0_0_4 p0c1 p0c2 p0c3 v2 hv3) (aK aN) ?_
  refine RU tbOk false 999 0 [] aN (by rfl) ?_
  have hr := Option.some.inj h
  subst hr
  exact TDP_ tbOk Try.results24 9 [8, 7] (c39 0 0 v2 _ rfl) [0, 1, 2, 3, 4, 5, 6]
theorem c24v7_0 (p0c0_0_0 : List HCell) (p0c0_0_1 : Int) (p0c0_0_2 : Int) (p0c0_0_3 : Int) (p0c0_0_4 : Int) (p0c1 : Int) (p0c2 : Int) (p0c3 : List Int) (r : Int × Int) (h : fn24v7 p0c0_0_0 p0c0_0_1 p0c0_0_2 p0c0_0_3 p0c0_0_4 p0c1 p0c2 p0c3 = some r) : Con Try.prog 24 [.fn (.func 34) [] [.p 0 0, .p 3 0, .p 4 0, .p 5 0]] [(0, .cells 29 [.p 1 0]), (1, .cells 54 [.sl 2, .v (.int .u8 p0c0_0_1), .v (.int .i64 p0c0_0_2), .v (.int .i64 p0c0_0_3), .v (.int .i64 p0c0_0_4), .v (.map none)]), (2, .ex (pO HCell.D 63 p0c0_0_0) []), (3, .cells 3 [.v (.int .i64 p0c1)]), (4, .cells 3 [.v (.int .i64 p0c2)]), (5, .cells 35 [.sl 6]), (6, .rd (Et.int .u8) p0c3)] 7 (.tu [.v (.int .i64 r.1), .v (.int .i64 r.2)]) [(0, .cells 29 [.p 1 0]), (1, .cells 54 [.sl 2, .v (.int .u8 p0c0_0_1), .v (.int .i64 p0c0_0_2), .v (.int .i64 p0c0_0_3), .v (.int .i64 p0c0_0_4), .v (.map none)]), (2, .ex (pO HCell.D 63 p0c0_0_0) []), (3, .cells 3 [.v (.int .i64 p0c1)]), (4, .cells 3 [.v (.int .i64 p0c2)]), (5, .cells 35 [.sl 6])] 7 := c24v7 p0c0_0_0 p0c0_0_1 p0c0_0_2 p0c0_0_3 p0c0_0_4 p0c1 p0c2 p0c3 _ h
def fn14v1 (p0_0 : List HCell) (p0_1 : Int) (p0_2 : Int) (p0_3 : Int) (p0_4 : Int) (p1 : Int) (p2 : Int) (p3 : List Int) : Option (Int) :=
 frk1 (fn24v7 p0_0 p0_1 p0_2 p0_3 p0_4 p1 p2 p3) (fun v1 => some (v1.2))
theorem c14v1 (p0_0 : List HCell) (p0_1 : Int) (p0_2 : Int) (p0_3 : Int) (p0_4 : Int) (p1 : Int) (p2 : Int) (p3 : List Int) (r : Int) (h : fn14v1 p0_0 p0_1 p0_2 p0_3 p0_4 p1 p2 p3 = some r) : Con Try.prog 14 [.p 0 0, .v (.int .i64 p1), .v (.int .i64 p2), .sl 2] [(0, .cells 54 [.sl 1, .v (.int .u8 p0_1), .v (.int .i64 p0_2), .v (.int .i64 p0_3), .v (.int .i64 p0_4), .v (.map none)]), (1, .ex (pO HCell.D 63 p0_0) []), (2, .rd (Et.int .u8) p3)] 3 (.v (.int .i64 r)) [(0, .cells 54 [.sl 1, .v (.int .u8 p0_1), .v (.int .i64 p0_2), .v (.int .i64 p0_3), .v (.int .i64 p0_4), .v (.map none)]), (1, .ex (pO HCell.D 63 p0_0) [])] 3 := by
 rw [fn14v1] at h
 refine Con.of_body Try.func14 rfl Try.ntmps14 rfl fun w F0 ρ => ?_
 refine RU tbOk false 999 6 [] aN (by rfl) ?_
 refine fk1 h (fun v1 hv2 h => ?_)
 ·refine RU tbOk false 999 1 [.cl true [3, 0, 1, 4, 5, 6, 2] (fun _ => c24v7_0 p0_0 p0_1 p0_2 p0_3 p0_4 p1 p2 p3 v1 hv2)] (aK aN) (by rfl) ?_
  refine RU tbOk false 999 7 [] aN (by rfl) ?_
  have hr := Option.some.inj h
  subst hr
  exact RT tbOk.t Try.results14 [0, 1, 2] (by rfl) (by rfl) (by rfl) rfl rfl
def fn29v1 : Unit :=
 ()
theorem c29v1 (r : Unit) (h : fn29v1 = r) : Con Try.prog 29 [.v (.map none)] [] 0 (.fn (.func 43) [] [.p 0 0]) [(0, .cells 34 [.v (.map none)])] 1 := by
 rw [fn29v1] at h
 refine Con.of_body Try.func29 rfl Try.ntmps29 rfl fun w F0 ρ => ?_
 refine RU tbOk false 999 4 [] aN (by rfl) ?_
 subst h
 exact RT tbOk.t Try.results29 [0] (by rfl) (by rfl) (by rfl) rfl rfl
def fn12v2_b1 (rl1 : (List (List Int)) → Int → Option ((List (List Int)))) (xs5 : List (List Int)) (x6 : Int) : Option ((List (List Int))) :=
 bif decide (x6 < ((fn28v0).length : Int)) then (bif inb x6 ((fn28v0).length) then (bif decide ((gt (fn28v0) x6).size ≤ 9223372036854775807) then (bif decide ((xs5.length + 1) * 24 ≤ 140737488355328 ∧ xs5.length + 1 ≤ 9223372036854775807) then (rl1 (xs5 ++ [numsOf (gt (fn28v0) x6)]) (IntKind.i64.wrap (x6 + 1))) else none) else none) else none) else (some xs5)
def fn12v2_l1 : Nat → (List (List Int)) → Int → Option ((List (List Int)))
 | 0, _, _ => none
 | n14 + 1, xs5, x6 => fn12v2_b1 (fn12v2_l1 n14) xs5 x6
theorem fn12v2_l1_s (n14 : Nat) (xs5 : List (List Int)) (x6 : Int) : fn12v2_l1 (n14 + 1) xs5 x6 = fn12v2_b1 (fn12v2_l1 n14) xs5 x6 := rfl
def fn12v2_k1 (xs11 : List (List Int)) : Option (((List (List Int)))) :=
 some (xs11)
def fn12v2 (F : Nat) (p0_0 : List HCell) (p0_1 : Int) (p0_2 : Int) (p0_3 : Int) (p0_4 : Int) : Option ((List (List Int))) :=
 Option.bind (fn12v2_l1 F ([] : List (List Int)) 0) fun o12 => (fn12v2_k1 o12)
theorem c12v2 (F : Nat) (p0_0 : List HCell) (p0_1 : Int) (p0_2 : Int) (p0_3 : Int) (p0_4 : Int) (r : (List (List Int))) (h : fn12v2 F p0_0 p0_1 p0_2 p0_3 p0_4 = some r) : Con Try.prog 12 [.p 0 0] [(0, .cells 54 [.sl 1, .v (.int .u8 p0_1), .v (.int .i64 p0_2), .v (.int .i64 p0_3), .v (.int .i64 p0_4), .v (.map none)]), (1, .ex (pO HCell.D 63 p0_0) [])] 2 (.sl 2) [(0, .cells 54 [.sl 1, .v (.int .u8 p0_1), .v (.int .i64 p0_2), .v (.int .i64 p0_3), .v (.int .i64 p0_4), .v (.map none)]), (1, .ex (pO HCell.D 63 p0_0) []), (2, .rowL (Et.int .u8) 5 35 r r.length)] 3 := by
 rw [fn12v2] at h
 refine Con.of_body Try.func12 rfl Try.ntmps12 rfl fun w F0 ρ => ?_
 refine RU tbOk false 999 3 [.pn] aN (by rfl) ?_
 refine CDF rfl (by rfl) ?_
 refine RU tbOk false 999 6 [.cl true [] (fun _ => c29v1 _ rfl)] (aK aN) (by rfl) ?_
 refine RU tbOk false 999 1 [.cl true [2] (fun _ => c28v0 _ rfl)] (aK aN) (by rfl) ?_
 refine RU tbOk false 999 2 [] aN (by rfl) ?_
 refine G4.imp (Imp.nilL (Et.int .u8) 5 35 3 (by rfl)) ?_
 obtain ⟨o12, hl13, h⟩ := bd h
 refine CT 0 ⟨[(3, .sl 2)], [(0, .cells 54 [.sl 1, .v (.int .u8 p0_1), .v (.int .i64 p0_2), .v (.int .i64 p0_3), .v (.int .i64 p0_4), .v (.map none)]), (1, .ex (pO HCell.D 63 p0_0) []), (2, .rowL (Et.int .u8) 5 35 o12 o12.length)], 3⟩ ?_ ?_
 ·have h016 := h
  clear h
  refine G4.imp (Imp.to [0, 1, 3, 4] (by rfl) (by rfl) rfl rfl) (LP (fun (n : Nat) (s : (List (List Int)) × Int) => fn12v2_l1 n s.1 s.2) (fun (s : (List (List Int)) × Int) => ⟨[(3, .sl 3), (13, .sl 2), (14, .v (.int .i64 ((fn28v0).length : Int))), (15, .v (.int .i64 s.2))], [(0, .cells 54 [.sl 1, .v (.int .u8 p0_1), .v (.int .i64 p0_2), .v (.int .i64 p0_3), .v (.int .i64 p0_4), .v (.map none)]), (1, .ex (pO HCell.D 63 p0_0) []), (2, .row Et.str 9 (fn28v0) ((fn28v0).length) .unk), (3, .rowL (Et.int .u8) 5 35 s.1 s.1.length)], 4⟩) (fun _ => rfl) (s0 := (([] : List (List Int)), 0)) hl13 ?_)
  clear hl13
  rintro R17 n14 ⟨xs5, x6⟩ h ih15
  replace h := (fn12v2_l1_s n14 xs5 x6).symm.trans h
  rw [fn12v2_b1] at h
  refine RU tbOk false 999 1 [] aN (by rfl) ?_
  refine CD h (by rfl) (fun h hb18 => ?_) (fun h hb18 => ?_)
  ·obtain ⟨hk19, h⟩ := ck h
   obtain ⟨hk20, h⟩ := ck h
   obtain ⟨hk21, h⟩ := ck h
   refine RU tbOk false 999 11 [.s2, .b1 (Et.int .u8), .aL (Et.int .u8) 5 _ _] (aC hk19 (aC hk20 (aR (aR (aR (aC hk21 aN)))))) (by rfl) ?_
   exact ih15 (xs5 ++ [numsOf (gt (fn28v0) x6)], IntKind.i64.wrap (x6 + 1)) h _ _ (Imp.to [0, 1, 2, 6] (by rfl) (by rfl) rfl rfl)
  ·refine RU tbOk false 999 0 [] aN (by rfl) ?_
   have ho := Option.some.inj h
   subst ho
   exact CE (Imp.to [0, 1, 3] (by rfl) (by rfl) rfl rfl)
 ·change fn12v2_k1 o12 = _ at h
  rw [fn12v2_k1] at h
  refine RU tbOk false 999 2 [] aN (by rfl) ?_
  have hr := Option.some.inj h
  subst hr
  exact RT tbOk.t Try.results12 [0, 1, 2] (by rfl) (by rfl) (by rfl) rfl rfl
def fn4 (F : Nat) (p0 : Do) : Option (Bool) :=
 bif (decide ((1000 : Int) < (p0.fKey.length : Int))) || (decide ((1000 : Int) < (p0.fB.length : Int))) then (Option.bind (fn5 F) fun v2 => (some (v2))) else (Option.bind (fn11 p0.fKey) fun v4 => (Option.bind (fn13 p0.fPlace) fun v6 => (bif v4.1 != 0 then (some (false)) else (bif v4.2 != 1 then (some (false)) else (bif (v6.1.length : Int) != 0 then (some (false)) else (bif v6.2 != 1 then (some (false)) else (Option.bind (fn10 p0.fKey p0.fB p0.fFlags) fun v36 => (bif v36 != 1 then (some (false)) else (Option.bind (fn9 p0.fKey) fun v43 => (bif v43 != 1 then (some (false)) else (Option.bind (fn14 p0.fPlace p0.fOff p0.fB) fun v48 => (bif v48 != 1 then (some (false)) else (bif ((fn12).length : Int) != 0 then (some (false)) else (Option.bind (fn11v2 ([] : List HCell) 0 0 0 0 p0.fKey) fun v52 => (Option.bind (fn13v1 ([] : List HCell) 0 0 0 0 p0.fPlace) fun v54 => (bif v52.1 != 0 then (some (false)) else (bif v52.2 != 1 then (some (false)) else (bif (v54.1.length : Int) != 0 then (some (false)) else (bif v54.2 != 1 then (some (false)) else (Option.bind (fn10v2 ([] : List HCell) 0 0 0 0 p0.fKey p0.fB p0.fFlags) fun v84 => (bif v84 != 1 then (some (false)) else (Option.bind (fn9v2 ([] : List HCell) 0 0 0 0 p0.fKey) fun v91 => (bif v91 != 1 then (some (false)) else (Option.bind (fn14v1 ([] : List HCell) 0 0 0 0 p0.fPlace p0.fOff p0.fB) fun v96 => (bif v96 != 1 then (some (false)) else (Option.bind (fn12v2 F ([] : List HCell) 0 0 0 0) fun v99 => (bif (v99.length : Int) != 0 then (some (false)) else (Option.bind (fn5 F) fun v102 => (some (v102))))))))))))))))))))))))))))))
theorem c4 (F : Nat) (p0 : Do) (r : Bool) (h : fn4 F p0 = some r) : Con Try.prog 4 [.ag [.v (.int .i64 p0.fWhat), .sl 0, .sl 1, .v (.int .u64 p0.fFlags), .v (.int .i64 p0.fPlace), .v (.int .i64 p0.fOff)]] [(0, .rd (Et.int .u8) p0.fKey), (1, .rd (Et.int .u8) p0.fB)] 2 (.v (.bool r)) [] 2 := by
 rw [fn4] at h
 refine Con.of_body Try.func4 rfl Try.ntmps4 rfl fun w F0 ρ => ?_
 refine RU tbOk false 999 12 [] aN (by rfl) ?_
 refine CD h (by rfl) (fun h hb1 => ?_) (fun h hb1 => ?_)
 ·obtain ⟨v2, hv3, h⟩ := bd h
  refine RU tbOk false 999 1 [.cl true [] (fun _ => c5 F _ hv3)] (aK aN) (by rfl) ?_
  refine RU tbOk false 999 1 [] aN (by rfl) ?_
  have hr := Option.some.inj h
  subst hr
  exact RT tbOk.t Try.results4 [0, 1] (by rfl) (by rfl) (by rfl) rfl rfl
 ·refine RU tbOk false 999 5 [.sx] aN (by rfl) ?_
  refine LPU 9 ?_
  intro R0 ih0
  refine RU tbOk false 999 2 [] aN (by rfl) ?_
  refine CDT rfl (by rfl) ?_
  obtain ⟨v4, hv5, h⟩ := bd h
  refine RU tbOk false 999 9 [.xi 2, .cl true [0] (fun _ => c11 p0.fKey _ hv5)] (aR (aC rfl (aK aN))) (by rfl) ?_
  obtain ⟨v6, hv7, h⟩ := bd h
  refine RU tbOk false 999 9 [.cl true [] (fun _ => c13 p0.fPlace _ hv7)] (aK aN) (by rfl) ?_
  refine RU tbOk false 999 7 [] aN (by rfl) ?_
  refine CDS h (fun h hb14 => ?_) (fun h hb14 => ?_)
  ·refine RU (tbOk.lit [(47, 48, true), (51, 52, true), (56, 57, true), (60, 61, true)]) false 999 22 [] (aC hb14 (aC rfl (aC rfl (aC rfl aN)))) (by rfl) ?_
   refine RU (tbOk.lit [(60, 61, true), (71, 72, true)]) false 999 7 [] (aC rfl aN) (by rfl) ?_
   refine RU (tbOk.lit [(71, 72, true), (78, 79, true)]) false 999 11 [] (aC rfl aN) (by rfl) ?_
   refine RU (tbOk.lit [(78, 79, true), (89, 90, true)]) false 999 5 [] (aC rfl aN) (by rfl) ?_
   refine RU (tbOk.lit [(89, 90, true)]) false 999 3 [] aN (by rfl) ?_
   refine RU tbOk false 999 0 [] aN (by rfl) ?_
   refine CDT rfl (by rfl) ?_
   refine RU tbOk false 999 1 [] aN (by rfl) ?_
   have hr := Option.some.inj h
   subst hr
   exact RT tbOk.t Try.results4 [0, 1] (by rfl) (by rfl) (by rfl) rfl rfl
  ·refine RU (tbOk.lit [(47, 48, false)]) false 999 4 [] (aC hb14 aN) (by rfl) ?_
   refine CDS h (fun h hb21 => ?_) (fun h hb21 => ?_)
   ·refine RU (tbOk.lit [(51, 52, true), (56, 57, true), (60, 61, true)]) false 999 18 [] (aC hb21 (aC rfl (aC rfl aN))) (by rfl) ?_
    refine RU (tbOk.lit [(60, 61, true), (71, 72, true)]) false 999 7 [] (aC rfl aN) (by rfl) ?_
    refine RU (tbOk.lit [(71, 72, true), (78, 79, true)]) false 999 11 [] (aC rfl aN) (by rfl) ?_
    refine RU (tbOk.lit [(78, 79, true), (89, 90, true)]) false 999 5 [] (aC rfl aN) (by rfl) ?_
    refine RU (tbOk.lit [(89, 90, true)]) false 999 3 [] aN (by rfl) ?_
    refine RU tbOk false 999 0 [] aN (by rfl) ?_
    refine CDT rfl (by rfl) ?_
    refine RU tbOk false 999 1 [] aN (by rfl) ?_
    have hr := Option.some.inj h
    subst hr
    exact RT tbOk.t Try.results4 [0, 1] (by rfl) (by rfl) (by rfl) rfl rfl
   ·refine RU (tbOk.lit [(51, 52, false)]) false 999 5 [] (aC hb21 aN) (by rfl) ?_
    refine CDS h (fun h hb28 => ?_) (fun h hb28 => ?_)
    ·refine RU (tbOk.lit [(56, 57, true), (60, 61, true)]) false 999 13 [] (aC hb28 (aC rfl aN)) (by rfl) ?_
     refine RU (tbOk.lit [(60, 61, true), (71, 72, true)]) false 999 7 [] (aC rfl aN) (by rfl) ?_
     refine RU (tbOk.lit [(71, 72, true), (78, 79, true)]) false 999 11 [] (aC rfl aN) (by rfl) ?_
     refine RU (tbOk.lit [(78, 79, true), (89, 90, true)]) false 999 5 [] (aC rfl aN) (by rfl) ?_
     refine RU (tbOk.lit [(89, 90, true)]) false 999 3 [] aN (by rfl) ?_
     refine RU tbOk false 999 0 [] aN (by rfl) ?_
     refine CDT rfl (by rfl) ?_
     refine RU tbOk false 999 1 [] aN (by rfl) ?_
     have hr := Option.some.inj h
     subst hr
     exact RT tbOk.t Try.results4 [0, 1] (by rfl) (by rfl) (by rfl) rfl rfl
    ·refine RU (tbOk.lit [(56, 57, false)]) false 999 4 [] (aC hb28 aN) (by rfl) ?_
     refine CDS h (fun h hb35 => ?_) (fun h hb35 => ?_)
     ·refine RU (tbOk.lit [(60, 61, true)]) false 999 9 [] (aC hb35 aN) (by rfl) ?_
      refine RU (tbOk.lit [(60, 61, true), (71, 72, true)]) false 999 7 [] (aC rfl aN) (by rfl) ?_
      refine RU (tbOk.lit [(71, 72, true), (78, 79, true)]) false 999 11 [] (aC rfl aN) (by rfl) ?_
      refine RU (tbOk.lit [(78, 79, true), (89, 90, true)]) false 999 5 [] (aC rfl aN) (by rfl) ?_
      refine RU (tbOk.lit [(89, 90, true)]) false 999 3 [] aN (by rfl) ?_
      refine RU tbOk false 999 0 [] aN (by rfl) ?_
      refine CDT rfl (by rfl) ?_
      refine RU tbOk false 999 1 [] aN (by rfl) ?_
      have hr := Option.some.inj h
      subst hr
      exact RT tbOk.t Try.results4 [0, 1] (by rfl) (by rfl) (by rfl) rfl rfl
     ·obtain ⟨v36, hv37, h⟩ := bd h
      refine RU (tbOk.lit [(60, 61, false)]) false 999 9 [.cl true [0, 1] (fun _ => c10 p0.fKey p0.fB p0.fFlags _ hv37)] (aC hb35 (aK aN)) (by rfl) ?_
      refine RU (tbOk.lit [(60, 61, false)]) false 999 2 [] aN (by rfl) ?_
      refine CDS h (fun h hb42 => ?_) (fun h hb42 => ?_)
      ·refine RU (tbOk.lit [(71, 72, true)]) false 999 5 [] (aC hb42 aN) (by rfl) ?_
       refine RU (tbOk.lit [(71, 72, true), (78, 79, true)]) false 999 11 [] (aC rfl aN) (by rfl) ?_
       refine RU (tbOk.lit [(78, 79, true), (89, 90, true)]) false 999 5 [] (aC rfl aN) (by rfl) ?_
       refine RU (tbOk.lit [(89, 90, true)]) false 999 3 [] aN (by rfl) ?_
       refine RU tbOk false 999 0 [] aN (by rfl) ?_
       refine CDT rfl (by rfl) ?_
       refine RU tbOk false 999 1 [] aN (by rfl) ?_
       have hr := Option.some.inj h
       subst hr
       exact RT tbOk.t Try.results4 [0, 1] (by rfl) (by rfl) (by rfl) rfl rfl
      ·obtain ⟨v43, hv44, h⟩ := bd h
       refine RU (tbOk.lit [(71, 72, false)]) false 999 5 [.cl true [0] (fun _ => c9 p0.fKey _ hv44)] (aC hb42 (aK aN)) (by rfl) ?_
       refine RU (tbOk.lit [(71, 72, false)]) false 999 2 [] aN (by rfl) ?_
       refine CDS h (fun h hb47 => ?_) (fun h hb47 => ?_)
       ·refine RU (tbOk.lit [(78, 79, true)]) false 999 9 [] (aC hb47 aN) (by rfl) ?_
        refine RU (tbOk.lit [(78, 79, true), (89, 90, true)]) false 999 5 [] (aC rfl aN) (by rfl) ?_
        refine RU (tbOk.lit [(89, 90, true)]) false 999 3 [] aN (by rfl) ?_
        refine RU tbOk false 999 0 [] aN (by rfl) ?_
        refine CDT rfl (by rfl) ?_
        refine RU tbOk false 999 1 [] aN (by rfl) ?_
        have hr := Option.some.inj h
        subst hr
        exact RT tbOk.t Try.results4 [0, 1] (by rfl) (by rfl) (by rfl) rfl rfl
       ·obtain ⟨v48, hv49, h⟩ := bd h
        refine RU (tbOk.lit [(78, 79, false)]) false 999 9 [.cl true [1] (fun _ => c14 p0.fPlace p0.fOff p0.fB _ hv49)] (aC hb47 (aK aN)) (by rfl) ?_
        refine RU (tbOk.lit [(78, 79, false)]) false 999 2 [] aN (by rfl) ?_
        refine CDS h (fun h hb50 => ?_) (fun h hb50 => ?_)
        ·refine RU (tbOk.lit [(89, 90, true)]) false 999 3 [] (aC hb50 aN) (by rfl) ?_
         refine RU (tbOk.lit [(89, 90, true)]) false 999 3 [] aN (by rfl) ?_
         refine RU tbOk false 999 0 [] aN (by rfl) ?_
         refine CDT rfl (by rfl) ?_
         refine RU tbOk false 999 1 [] aN (by rfl) ?_
         have hr := Option.some.inj h
         subst hr
         exact RT tbOk.t Try.results4 [0, 1] (by rfl) (by rfl) (by rfl) rfl rfl
        ·refine RU (tbOk.lit [(89, 90, false)]) false 999 3 [.cl true [] (fun _ => c12 _ rfl)] (aC hb50 (aK aN)) (by rfl) ?_
         refine RU (tbOk.lit [(89, 90, false)]) false 999 3 [.ln] aN (by rfl) ?_
         refine RU tbOk false 999 0 [] aN (by rfl) ?_
         refine CD h (by rfl) (fun h hb51 => ?_) (fun h hb51 => ?_)
         ·refine RU tbOk false 999 1 [] aN (by rfl) ?_
          have hr := Option.some.inj h
          subst hr
          exact RT tbOk.t Try.results4 [0, 1] (by rfl) (by rfl) (by rfl) rfl rfl
         ·refine RU tbOk false 999 3 [] aN (by rfl) ?_
          refine ih0 _ _ ?_
          intro R1 ih1
          refine G4.imp (Imp.keep [1, 3, 4]) ?_
          refine RU tbOk false 999 2 [] aN (by rfl) ?_
          refine CDT rfl (by rfl) ?_
          refine RU tbOk false 999 8 [.xi 2] (aR (aC rfl aN)) (by rfl) ?_
          refine G4.imp (Imp.nilOC HCell.D 63 3 0 (by rfl) (by rfl) (by rfl)) ?_
          obtain ⟨v52, hv53, h⟩ := bd h
          refine RU tbOk false 999 1 [.cl true [3, 8, 0] (fun _ => c11v2 ([] : List HCell) 0 0 0 0 p0.fKey _ hv53)] (aK aN) (by rfl) ?_
          obtain ⟨v54, hv55, h⟩ := bd h
          refine RU tbOk false 999 9 [.cl true [3, 8] (fun _ => c13v1 ([] : List HCell) 0 0 0 0 p0.fPlace _ hv55)] (aK aN) (by rfl) ?_
          refine RU tbOk false 999 7 [] aN (by rfl) ?_
          refine CDS h (fun h hb62 => ?_) (fun h hb62 => ?_)
          ·refine RU (tbOk.lit [(47, 48, true), (51, 52, true), (56, 57, true), (60, 61, true)]) false 999 22 [] (aC hb62 (aC rfl (aC rfl (aC rfl aN)))) (by rfl) ?_
           refine RU (tbOk.lit [(60, 61, true), (71, 72, true)]) false 999 7 [] (aC rfl aN) (by rfl) ?_
           refine RU (tbOk.lit [(71, 72, true), (78, 79, true)]) false 999 11 [] (aC rfl aN) (by rfl) ?_
           refine RU (tbOk.lit [(78, 79, true), (89, 90, true)]) false 999 5 [] (aC rfl aN) (by rfl) ?_
           refine RU (tbOk.lit [(89, 90, true)]) false 999 3 [] aN (by rfl) ?_
           refine RU tbOk false 999 0 [] aN (by rfl) ?_
           refine CDT rfl (by rfl) ?_
           refine RU tbOk false 999 1 [] aN (by rfl) ?_
           have hr := Option.some.inj h
           subst hr
           exact RT tbOk.t Try.results4 [0, 1] (by rfl) (by rfl) (by rfl) rfl rfl
          ·refine RU (tbOk.lit [(47, 48, false)]) false 999 4 [] (aC hb62 aN) (by rfl) ?_
           refine CDS h (fun h hb69 => ?_) (fun h hb69 => ?_)
           ·refine RU (tbOk.lit [(51, 52, true), (56, 57, true), (60, 61, true)]) false 999 18 [] (aC hb69 (aC rfl (aC rfl aN))) (by rfl) ?_
            refine RU (tbOk.lit [(60, 61, true), (71, 72, true)]) false 999 7 [] (aC rfl aN) (by rfl) ?_
            refine RU (tbOk.lit [(71, 72, true), (78, 79, true)]) false 999 11 [] (aC rfl aN) (by rfl) ?_
            refine RU (tbOk.lit [(78, 79, true), (89, 90, true)]) false 999 5 [] (aC rfl aN) (by rfl) ?_
            refine RU (tbOk.lit [(89, 90, true)]) false 999 3 [] aN (by rfl) ?_
            refine RU tbOk false 999 0 [] aN (by rfl) ?_
            refine CDT rfl (by rfl) ?_
            refine RU tbOk false 999 1 [] aN (by rfl) ?_
            have hr := Option.some.inj h
            subst hr
            exact RT tbOk.t Try.results4 [0, 1] (by rfl) (by rfl) (by rfl) rfl rfl
           ·refine RU (tbOk.lit [(51, 52, false)]) false 999 5 [] (aC hb69 aN) (by rfl) ?_
            refine CDS h (fun h hb76 => ?_) (fun h hb76 => ?_)
            ·refine RU (tbOk.lit [(56, 57, true), (60, 61, true)]) false 999 13 [] (aC hb76 (aC rfl aN)) (by rfl) ?_
             refine RU (tbOk.lit [(60, 61, true), (71, 72, true)]) false 999 7 [] (aC rfl aN) (by rfl) ?_
             refine RU (tbOk.lit [(71, 72, true), (78, 79, true)]) false 999 11 [] (aC rfl aN) (by rfl) ?_
             refine RU (tbOk.lit [(78, 79, true), (89, 90, true)]) false 999 5 [] (aC rfl aN) (by rfl) ?_
             refine RU (tbOk.lit [(89, 90, true)]) false 999 3 [] aN (by rfl) ?_
             refine RU tbOk false 999 0 [] aN (by rfl) ?_
             refine CDT rfl (by rfl) ?_
             refine RU tbOk false 999 1 [] aN (by rfl) ?_
             have hr := Option.some.inj h
             subst hr
             exact RT tbOk.t Try.results4 [0, 1] (by rfl) (by rfl) (by rfl) rfl rfl
            ·refine RU (tbOk.lit [(56, 57, false)]) false 999 4 [] (aC hb76 aN) (by rfl) ?_
             refine CDS h (fun h hb83 => ?_) (fun h hb83 => ?_)
             ·refine RU (tbOk.lit [(60, 61, true)]) false 999 9 [] (aC hb83 aN) (by rfl) ?_
              refine RU (tbOk.lit [(60, 61, true), (71, 72, true)]) false 999 7 [] (aC rfl aN) (by rfl) ?_
              refine RU (tbOk.lit [(71, 72, true), (78, 79, true)]) false 999 11 [] (aC rfl aN) (by rfl) ?_
              refine RU (tbOk.lit [(78, 79, true), (89, 90, true)]) false 999 5 [] (aC rfl aN) (by rfl) ?_
              refine RU (tbOk.lit [(89, 90, true)]) false 999 3 [] aN (by rfl) ?_
              refine RU tbOk false 999 0 [] aN (by rfl) ?_
              refine CDT rfl (by rfl) ?_
              refine RU tbOk false 999 1 [] aN (by rfl) ?_
              have hr := Option.some.inj h
              subst hr
              exact RT tbOk.t Try.results4 [0, 1] (by rfl) (by rfl) (by rfl) rfl rfl
             ·obtain ⟨v84, hv85, h⟩ := bd h
              refine RU (tbOk.lit [(60, 61, false)]) false 999 9 [.cl true [3, 8, 0, 1] (fun _ => c10v2 ([] : List HCell) 0 0 0 0 p0.fKey p0.fB p0.fFlags _ hv85)] (aC hb83 (aK aN)) (by rfl) ?_
              refine RU (tbOk.lit [(60, 61, false)]) false 999 2 [] aN (by rfl) ?_
              refine CDS h (fun h hb90 => ?_) (fun h hb90 => ?_)
              ·refine RU (tbOk.lit [(71, 72, true)]) false 999 5 [] (aC hb90 aN) (by rfl) ?_
               refine RU (tbOk.lit [(71, 72, true), (78, 79, true)]) false 999 11 [] (aC rfl aN) (by rfl) ?_
               refine RU (tbOk.lit [(78, 79, true), (89, 90, true)]) false 999 5 [] (aC rfl aN) (by rfl) ?_
               refine RU (tbOk.lit [(89, 90, true)]) false 999 3 [] aN (by rfl) ?_
               refine RU tbOk false 999 0 [] aN (by rfl) ?_
               refine CDT rfl (by rfl) ?_
               refine RU tbOk false 999 1 [] aN (by rfl) ?_
               have hr := Option.some.inj h
               subst hr
               exact RT tbOk.t Try.results4 [0, 1] (by rfl) (by rfl) (by rfl) rfl rfl
              ·obtain ⟨v91, hv92, h⟩ := bd h
               refine RU (tbOk.lit [(71, 72, false)]) false 999 5 [.cl true [3, 8, 0] (fun _ => c9v2 ([] : List HCell) 0 0 0 0 p0.fKey _ hv92)] (aC hb90 (aK aN)) (by rfl) ?_
               refine RU (tbOk.lit [(71, 72, false)]) false 999 2 [] aN (by rfl) ?_
               refine CDS h (fun h hb95 => ?_) (fun h hb95 => ?_)
               ·refine RU (tbOk.lit [(78, 79, true)]) false 999 9 [] (aC hb95 aN) (by rfl) ?_
                refine RU (tbOk.lit [(78, 79, true), (89, 90, true)]) false 999 5 [] (aC rfl aN) (by rfl) ?_
                refine RU (tbOk.lit [(89, 90, true)]) false 999 3 [] aN (by rfl) ?_
                refine RU tbOk false 999 0 [] aN (by rfl) ?_
                refine CDT rfl (by rfl) ?_
                refine RU tbOk false 999 1 [] aN (by rfl) ?_
                have hr := Option.some.inj h
                subst hr
                exact RT tbOk.t Try.results4 [0, 1] (by rfl) (by rfl) (by rfl) rfl rfl
               ·obtain ⟨v96, hv97, h⟩ := bd h
                refine RU (tbOk.lit [(78, 79, false)]) false 999 9 [.cl true [3, 8, 1] (fun _ => c14v1 ([] : List HCell) 0 0 0 0 p0.fPlace p0.fOff p0.fB _ hv97)] (aC hb95 (aK aN)) (by rfl) ?_
                refine RU (tbOk.lit [(78, 79, false)]) false 999 2 [] aN (by rfl) ?_
                refine CDS h (fun h hb98 => ?_) (fun h hb98 => ?_)
                ·refine RU (tbOk.lit [(89, 90, true)]) false 999 3 [] (aC hb98 aN) (by rfl) ?_
                 refine RU (tbOk.lit [(89, 90, true)]) false 999 3 [] aN (by rfl) ?_
                 refine RU tbOk false 999 0 [] aN (by rfl) ?_
                 refine CDT rfl (by rfl) ?_
                 refine RU tbOk false 999 1 [] aN (by rfl) ?_
                 have hr := Option.some.inj h
                 subst hr
                 exact RT tbOk.t Try.results4 [0, 1] (by rfl) (by rfl) (by rfl) rfl rfl
                ·obtain ⟨v99, hv100, h⟩ := bd h
                 refine RU (tbOk.lit [(89, 90, false)]) false 999 3 [.cl true [3, 8] (fun _ => c12v2 F ([] : List HCell) 0 0 0 0 _ hv100)] (aC hb98 (aK aN)) (by rfl) ?_
                 refine RU (tbOk.lit [(89, 90, false)]) false 999 3 [.ln] aN (by rfl) ?_
                 refine RU tbOk false 999 0 [] aN (by rfl) ?_
                 refine CD h (by rfl) (fun h hb101 => ?_) (fun h hb101 => ?_)
                 ·refine RU tbOk false 999 1 [] aN (by rfl) ?_
                  have hr := Option.some.inj h
                  subst hr
                  exact RT tbOk.t Try.results4 [0, 1] (by rfl) (by rfl) (by rfl) rfl rfl
                 ·refine RU tbOk false 999 3 [] aN (by rfl) ?_
                  refine ih1 _ _ ?_
                  intro R2 ih2
                  refine G4.imp (Imp.keep [1, 3, 4]) ?_
                  refine RU tbOk false 999 2 [] aN (by rfl) ?_
                  refine CDF rfl (by rfl) ?_
                  obtain ⟨v102, hv103, h⟩ := bd h
                  refine RU tbOk false 999 1 [.cl true [] (fun _ => c5 F _ hv103)] (aK aN) (by rfl) ?_
                  refine RU tbOk false 999 1 [] aN (by rfl) ?_
                  have hr := Option.some.inj h
                  subst hr
                  exact RT tbOk.t Try.results4 [0, 1] (by rfl) (by rfl) (by rfl) rfl rfl
end Go.Proofs.Yteicbpfkljnemaa
namespace Go.Proofs.Yteicbpfkljnemaa
open Go Go.HW
set_option maxRecDepth 100000
theorem awake_ok : fn5 100 = some true := by kernel_rfl
end Go.Proofs.Yteicbpfkljnemaa
namespace Go.Proofs.Yteicbpfkljnemaa
open Go Go.HW
theorem hashNil_plain (p0 : Do) : fn4 100 p0 = some true := by
 rw [fn4, awake_ok]
 cases (decide ((1000 : Int) < (p0.fKey.length : Int))) || (decide ((1000 : Int) < (p0.fB.length : Int))) with
 | true => rfl
 | false => rfl
end Go.Proofs.Yteicbpfkljnemaa
namespace Go.HW
open Go Go.RowKit Go.ChangeShapes
set_option linter.unusedVariables false
variable {H : Type} {enc : TypeId × Value → H} {P : Program}
theorem post_below {f : Func} {s : ChangeSpec} {apart fresh handsOn : Bool} {W W' : World} {args : Array Value} {v : Value} {ds gs : List (DataW H)} {before pa pv : List MemPlace}
  (hW : DataW.Whole enc P f.params.toList s.vars apart W args.toList ds gs before)
  (hres : ∀ (b : Nat) (sp : Nat → Bool) (hd : Bool), DataW.TrodAll enc P W' b sp hd f.resultTypes.toList (v.resultList f.resultTypes.size) (s.fn H (ds ++ gs)).results [])
  (hargs : ∀ sp : Nat → Bool, (∀ p ∈ before, sp p.block = true) → DataW.TrodAll enc P W' 0 sp true f.params.toList args.toList (s.fn H (ds ++ gs)).args pa)
  (hvars : ∀ sp : Nat → Bool, (∀ p ∈ before, sp p.block = true) → DataW.TrodVars enc P W' sp s.vars (s.fn H (ds ++ gs)).vars pv)
  (hps : before = pa ++ pv) (hk : Below W.heap.size W W') : s.post enc P f apart fresh handsOn false W args v W' := by
 have hold : ∀ p ∈ before, (fun b => decide (b < W.heap.size)) p.block = true := fun p hp => by simpa using hW.lt p hp
 refine ⟨ds, gs, before, [], pa, pv, hW, hres _ _ _, hargs _ hold, hvars _ hold, World.keptBut_mono (fun p hp => ⟨hp, ?_⟩) (hk.frame (· ∈ before)), fun h => by cases h⟩
 rw [hps, List.mem_append] at hp
 exact Or.inr hp
end Go.HW
namespace Go.HW
open Go Go.RowKit Go.ChangeShapes
set_option linter.unusedVariables false
section
variable {H : Type} {enc : TypeId × Value → H} {P : Program} {W W' : World}
theorem TrodAll.stays (hl : laidOutB P = true) {sp : Nat → Bool} (hb : Below W.heap.size W W') : ∀ {ts : List TypeId} {vs : List Value} {ds : List (DataW H)} {ps : List MemPlace}, (ts.all fun t => P.readableRec t && decide (t < P.types.size)) = true →
  DataW.TrodAll enc P W 0 (fun _ => true) true ts vs ds ps → (∀ x ∈ ps, x.block < W.heap.size) → (∀ x ∈ ps, sp x.block = true) → DataW.TrodAll enc P W' 0 sp true ts vs ds ps
 | [], [], [], ps, _, h, _, _ => h
 | t :: ts, v :: vs, d :: ds, ps, hr, h, hlt, hs => by
  obtain ⟨p, q, h1, h2, rfl⟩ := h
  simp only [List.all_cons, Bool.and_eq_true, decide_eq_true_eq] at hr
  obtain ⟨⟨r1, r2⟩, r3⟩ := hr
  exact ⟨p, q, WideElems.Trod_stays hl r1 r2 h1 (fun x hx => hb.same (hlt x (by simp [hx]))) (fun x hx => hs x (by simp [hx])), TrodAll.stays hl hb (by simpa using r3) h2 (fun x hx => hlt x (by simp [hx])) (fun x hx => hs x (by simp [hx])), rfl⟩
 | [], [], _ :: _, _, _, h, _, _ => by simp [DataW.TrodAll] at h
 | [], _ :: _, _, _, _, h, _, _ => by simp [DataW.TrodAll] at h
 | _ :: _, [], _, _, _, h, _, _ => by simp [DataW.TrodAll] at h
 | _ :: _, _ :: _, [], _, _, h, _, _ => by simp [DataW.TrodAll] at h
theorem list_of {α : Type} {Q : Nat → α → Prop} : ∀ (n : Nat), (∀ i, i < n → ∃ x, Q i x) → ∃ xs : List α, xs.length = n ∧ ∀ i x, xs[i]? = some x → Q i x
 | 0, _ => ⟨[], rfl, fun i x h => by simp at h⟩
 | n + 1, h => by
  obtain ⟨xs, h1, h2⟩ := list_of n (fun i hi => h i (by omega))
  obtain ⟨y, hy⟩ := h n (by omega)
  refine ⟨xs ++ [y], by simp [h1], fun i x hx => ?_⟩
  rcases Nat.lt_or_ge i xs.length with hi | hi
  ·rw [List.getElem?_append_left hi] at hx; exact h2 i x hx
  ·rw [List.getElem?_append_right hi] at hx
   have h0 : i - xs.length = 0 := by
    cases hh : i - xs.length with
    | zero => rfl
    | succ j => rw [hh] at hx; simp at hx
   rw [h0] at hx; simp at hx; subst hx
   have : i = n := by omega
   subst this; exact hy
end
end Go.HW
namespace Go.HW
open Go Go.RowKit Go.ChangeShapes
set_option linter.unusedVariables false
section
variable {H : Type} {enc : TypeId × Value → H} {P : Program} {W W' : World} {sp : Nat → Bool} {held : Bool}
theorem open_rowC {α : Type} {N : En α} {Ok : α → Prop} {t e : TypeId} (ht : P.underlying t = some (.slice e)) (hc : P.cellsOf e = N.sz)
  (hdec : ∀ (n : Nat) (cs : List Value) (y : DataW H × List MemPlace), DataW.trod enc P W 0 sp held n e cs = some y → ∃ x, cs = N.enc x ∧ Ok x)
  {n : Nat} {cs : List Value} {y : DataW H × List MemPlace} (h : DataW.trod enc P W 0 sp held n t cs = some y) :
  ∃ (a : Option Addr) (len cap : Nat) (xs : List α), cs = [.slice a len cap] ∧ xs.length = len ∧ xs.length ≤ cap ∧ RdS N W a xs ∧ (∀ x ∈ xs, Ok x) ∧ ∀ B, (∀ m ∈ y.1.weights P t, m ≤ B) → xs.length * P.bytesOf e ≤ B := by
 rcases DataW.trod_slice ht h with ⟨h0, rfl⟩ | ⟨ad, len, cap', elems, rest, m, _, h1, hy, hb, hl, hm, hlen, hel, _, _⟩
 ·exact ⟨none, 0, 0, [], h0, rfl, Nat.le_refl _, .nil _ _ _, fun x hx => by simp at hx, fun B _ => by simp⟩
 ·have each : ∀ i, i < len → ∃ x, W.cells? 0 (ad.add (i * N.sz)) N.sz = some (N.enc x) ∧ Ok x := fun i hi => by
   have h2 := hel i hi
   rw [List.getElem?_eq_getElem (by omega), Option.bind_eq_some_iff] at h2
   obtain ⟨cs, h3, h4⟩ := h2
   obtain ⟨x, rfl, hx⟩ := hdec _ _ _ h4
   rw [hc] at h3
   exact ⟨x, h3, hx⟩
  obtain ⟨xs, x1, x2⟩ := list_of (Q := fun i x => W.cells? 0 (ad.add (i * N.sz)) N.sz = some (N.enc x) ∧ Ok x) len each
  refine ⟨some ad, len, cap', xs, h1, x1, by omega, ⟨by omega, ?_⟩, fun x hx => ?_, fun B hB => ?_⟩
  ·rcases Nat.eq_zero_or_pos len with h0 | h0
   ·left; exact List.eq_nil_of_length_eq_zero (by omega)
   ·right
    have hspot : ad.spot = none := by
     obtain ⟨x, hx⟩ : ∃ x, xs[0]? = some x := ⟨xs[0], List.getElem?_eq_getElem (by omega)⟩
     obtain ⟨_, _, h5⟩ := World.cells?_some (x2 0 x hx).1
     have := h5 0 N.pos
     rw [List.getElem?_eq_getElem (by rw [N.len]; exact N.pos)] at this
     have e0 : (ad.add (0 * N.sz)).add 0 = ad := by simp [Addr.add]
     rw [e0] at this
     cases hs : ad.spot with
     | none => rfl
     | some q =>
      unfold World.cell? at this
      split at this
      ·rw [hs] at this; simp at this
      ·cases this
    refine ⟨ad, rfl, hspot, fun k x hk j u hj => ?_⟩
    obtain ⟨_, _, h5⟩ := World.cells?_some (x2 k x hk).1
    have hjl : j < N.sz := by have := (List.getElem?_eq_some_iff.1 hj).1; rw [N.len] at this; exact this
    have := h5 j hjl
    rw [hj] at this
    have e1 : (ad.add (k * N.sz)).add j = ⟨ad.block, ad.off + (k * N.sz + j), none⟩ := by
     cases ad with | mk b o s => simp at hspot; subst hspot; simp [add_none, Nat.add_assoc]
    rw [e1] at this
    exact this
  ·obtain ⟨i, hi, rfl⟩ := List.mem_iff_getElem.1 hx
   exact (x2 i _ (by rw [List.getElem?_eq_getElem hi])).2
  ·subst hy
   have := hB ((elems.length + rest.length) * P.bytesOf e) (by simp [DataW.weights, ht])
   have h2 : xs.length * P.bytesOf e ≤ (elems.length + rest.length) * P.bytesOf e := Nat.mul_le_mul_right _ (by omega)
   omega
theorem partC {fs : Array Field} {xs : List (DataW H × List MemPlace)} {n : Nat} {cs : List Value} (hall : ∀ (i : Nat) (f : Field), fs[i]? = some f → DataW.trod enc P W 0 sp held n f.type ((cs.drop f.offset).take (P.cellsOf f.type)) = xs[i]?) (hx : xs.length = fs.size)
  {i o : Nat} {f : Field} (hf : fs[i]? = some f) (hc : P.cellsOf f.type = 1) (ho : f.offset = o) : ∃ x, xs[i]? = some x ∧ DataW.trod enc P W 0 sp held n f.type ((cs.drop o).take 1) = some x := by
 have h := hall i f hf
 have hi : i < fs.size := (Array.getElem?_eq_some_iff.1 hf).1
 rw [List.getElem?_eq_getElem (by omega), hc, ho] at h
 exact ⟨_, List.getElem?_eq_getElem (by omega), h⟩
theorem cellC {cs : List Value} {o : Nat} {c : Value} (h : (cs.drop o).take 1 = [c]) : cs[o]? = some c := by
 have := congrArg (fun l => l[0]?) h
 simpa [List.getElem?_take, List.getElem?_drop] using this
theorem weightsC {t : TypeId} {fs : Array Field} (ht : P.underlying t = some (.struct fs)) {xs : List (DataW H × List MemPlace)} {B : Nat} (h : ∀ m ∈ (DataW.agg (xs.map (·.1)) : DataW H).weights P t, m ≤ B)
  {i : Nat} {f : Field} (hf : fs[i]? = some f) {x : DataW H × List MemPlace} (hx : xs[i]? = some x) : ∀ m ∈ x.1.weights P f.type, m ≤ B := fun m hm => by
 apply h
 simp only [DataW.weights, ht]
 exact DataW.weights_mem_each (j := i) (t := f.type) (d := x.1) (by simp [hf]) (by simp [hx]) m hm
theorem weight_arg {ts : List TypeId} {ds : List (DataW H)} {B : Nat} (h : (DataW.weightsEach P ts ds).all (· ≤ B) = true) {j : Nat} {t : TypeId} {d : DataW H} (ht : ts[j]? = some t) (hd : ds[j]? = some d) : ∀ m ∈ d.weights P t, m ≤ B := fun m hm => by
 simpa using List.all_eq_true.1 h _ (DataW.weights_mem_each ht hd m hm)
end
end Go.HW
