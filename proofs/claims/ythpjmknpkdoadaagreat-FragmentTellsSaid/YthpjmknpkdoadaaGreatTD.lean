/- Part of the proof: the logic, the walks, and what they compute. -/
import Derived.Test.YthpjmknpkdoadaaGreatProg
import Derived.Test.YthpjmknpkdoadaaGreatTC
set_option linter.all false
namespace Go.Proofs.YthpjmknpkdoadaaGreat
open Go Go.HW
set_option linter.unusedVariables false
set_option maxRecDepth 4000
set_option maxHeartbeats 8000000
structure Instr where
 fOp : Int
 fDst : Int
 fSrc : Int
 fOff : Int
 fImm : Int
 deriving DecidableEq, Inhabited
def Instr.enc (x : Instr) : List Value := [.int .u8 x.fOp, .int .u8 x.fDst, .int .u8 x.fSrc, .int .i16 x.fOff, .int .i32 x.fImm]
def Instr.E : Et Instr := ⟨⟨Instr.enc, 5, fun _ => rfl, fun _ => rfl, by decide⟩, fun x => [.v (.int .u8 x.fOp), .v (.int .u8 x.fDst), .v (.int .u8 x.fSrc), .v (.int .i16 x.fOff), .v (.int .i32 x.fImm)], fun ρ x => dens_mapV (Instr.enc x)⟩
structure Fld where
 fOff : Int
 fSize : Int
 fKind : Int
 fWrite : Bool
 deriving DecidableEq, Inhabited
def Fld.enc (x : Fld) : List Value := [.int .i64 x.fOff, .int .i64 x.fSize, .int .u8 x.fKind, .bool x.fWrite]
def Fld.E : Et Fld := ⟨⟨Fld.enc, 4, fun _ => rfl, fun _ => rfl, by decide⟩, fun x => [.v (.int .i64 x.fOff), .v (.int .i64 x.fSize), .v (.int .u8 x.fKind), .v (.bool x.fWrite)], fun ρ x => dens_mapV (Fld.enc x)⟩
structure Need where
 fHelper : Int
 fMajor : Int
 fMinor : Int
 deriving DecidableEq, Inhabited
def Need.enc (x : Need) : List Value := [.int .i64 x.fHelper, .int .i64 x.fMajor, .int .i64 x.fMinor]
def Need.E : Et Need := ⟨⟨Need.enc, 3, fun _ => rfl, fun _ => rfl, by decide⟩, fun x => [.v (.int .i64 x.fHelper), .v (.int .i64 x.fMajor), .v (.int .i64 x.fMinor)], fun ρ x => dens_mapV (Need.enc x)⟩
structure PType where
 fName : ByteArray
 fCtx : Int
 fFields : List Fld
 fNeeds : List Need
 fLo : Int
 fHi : Int
 deriving DecidableEq, Inhabited
structure Slot where
 fInstr : Instr
 fclass : Int
 fop : Int
 freg : Bool
 deriving DecidableEq, Inhabited
def Slot.enc (x : Slot) : List Value := [.int .u8 x.fInstr.fOp, .int .u8 x.fInstr.fDst, .int .u8 x.fInstr.fSrc, .int .i16 x.fInstr.fOff, .int .i32 x.fInstr.fImm, .int .u8 x.fclass, .int .u8 x.fop, .bool x.freg]
def Slot.E : Et Slot := ⟨⟨Slot.enc, 8, fun _ => rfl, fun _ => rfl, by decide⟩, fun x => [.v (.int .u8 x.fInstr.fOp), .v (.int .u8 x.fInstr.fDst), .v (.int .u8 x.fInstr.fSrc), .v (.int .i16 x.fInstr.fOff), .v (.int .i32 x.fInstr.fImm), .v (.int .u8 x.fclass), .v (.int .u8 x.fop), .v (.bool x.freg)], fun ρ x => dens_mapV (Slot.enc x)⟩
structure S_kinds_bound_int_ where
 flo : Int
 fhi : Int
 deriving DecidableEq, Inhabited
def S_kinds_bound_int_.enc (x : S_kinds_bound_int_) : List Value := [.int .i64 x.flo, .int .i64 x.fhi]
def S_kinds_bound_int_.E : Et S_kinds_bound_int_ := ⟨⟨S_kinds_bound_int_.enc, 2, fun _ => rfl, fun _ => rfl, by decide⟩, fun x => [.v (.int .i64 x.flo), .v (.int .i64 x.fhi)], fun ρ x => dens_mapV (S_kinds_bound_int_.enc x)⟩
structure S__2_int where
 e0 : Int
 e1 : Int
 deriving DecidableEq, Inhabited
def S__2_int.enc (x : S__2_int) : List Value := [.int .i64 x.e0, .int .i64 x.e1]
def S__2_int.E : Et S__2_int := ⟨⟨S__2_int.enc, 2, fun _ => rfl, fun _ => rfl, by decide⟩, fun x => [.v (.int .i64 x.e0), .v (.int .i64 x.e1)], fun ρ x => dens_mapV (S__2_int.enc x)⟩
structure Visit where
 fat : Int
 fleft : Bool
 deriving DecidableEq, Inhabited
def Visit.enc (x : Visit) : List Value := [.int .i64 x.fat, .bool x.fleft]
def Visit.E : Et Visit := ⟨⟨Visit.enc, 2, fun _ => rfl, fun _ => rfl, by decide⟩, fun x => [.v (.int .i64 x.fat), .v (.bool x.fleft)], fun ρ x => dens_mapV (Visit.enc x)⟩
structure S_flow_visit_ where
 fl : List Visit
 deriving DecidableEq, Inhabited
structure Walk where
 fp : List Instr
 ft : PType
 ftargets : List Int
 deriving DecidableEq, Inhabited
structure Bag16 where
 fwords : Ar Int 8
 fwidth : Int
 deriving DecidableEq, Inhabited
structure Bag64 where
 fwords : Ar Int 8
 fwidth : Int
 deriving DecidableEq, Inhabited
structure Known where
 fregs : Bag16
 fbytes : Bag64
 deriving DecidableEq, Inhabited
def Known.enc (x : Known) : List Value := x.fregs.fwords.l.flatMap (En.int .u16).enc ++ (.int .i64 x.fregs.fwidth :: (x.fbytes.fwords.l.flatMap (En.int .u64).enc ++ (.int .i64 x.fbytes.fwidth :: [])))
def Known.E : Et Known := ⟨⟨Known.enc, 18, fun x => (ln_a (En.int .u16) x.fregs.fwords (ln_v (ln_a (En.int .u64) x.fbytes.fwords (ln_v ln_nil)))), fun x => (al_a (En.int .u16) x.fregs.fwords (al_v rfl (al_a (En.int .u64) x.fbytes.fwords (al_v rfl al_nil)))), by decide⟩, fun x => [.ar (En.int .u16) 8 x.fregs.fwords, .v (.int .i64 x.fregs.fwidth), .ar (En.int .u64) 8 x.fbytes.fwords, .v (.int .i64 x.fbytes.fwidth)], fun ρ x => (dens_a1 (dens_v1 (dens_a1 (dens_v1 dens_nil))))⟩
structure Edge where
 fFrom : Int
 fTo : Int
 deriving DecidableEq, Inhabited
def Edge.enc (x : Edge) : List Value := [.int .i64 x.fFrom, .int .i64 x.fTo]
def Edge.E : Et Edge := ⟨⟨Edge.enc, 2, fun _ => rfl, fun _ => rfl, by decide⟩, fun x => [.v (.int .i64 x.fFrom), .v (.int .i64 x.fTo)], fun ρ x => dens_mapV (Edge.enc x)⟩
structure RSet where
 fnumber : Ar Bool 11
 fctx : Bool
 fbytes : Ar Bool 512
 deriving DecidableEq, Inhabited
def RSet.enc (x : RSet) : List Value := x.fnumber.l.flatMap En.bool.enc ++ (.bool x.fctx :: (x.fbytes.l.flatMap En.bool.enc ++ []))
def RSet.E : Et RSet := ⟨⟨RSet.enc, 524, fun x => (ln_a En.bool x.fnumber (ln_v (ln_a En.bool x.fbytes ln_nil))), fun x => (al_a En.bool x.fnumber (al_v rfl (al_a En.bool x.fbytes al_nil))), by decide⟩, fun x => [.ar En.bool 11 x.fnumber, .v (.bool x.fctx), .ar En.bool 512 x.fbytes], fun ρ x => (dens_a1 (dens_v1 (dens_a1 dens_nil)))⟩
noncomputable def tb : TB := ⟨⟨[(2, .int .i64), (3, .int .i64), (4, .bool), (5, .int .u8), (9, .string), (21, .int .i32), (22, .slice 40), (23, .slice 51), (24, .slice 88), (26, Tryz.t25.desc), (28, .slice 26), (35, .slice 5), (36, .int .i16), (37, .slice 36), (38, .slice 21), (40, Tryz.t39.desc), (44, .int .u64), (45, .slice 22), (49, .int .u8), (51, Tryz.t50.desc), (59, .slice 3), (62, Tryz.t61.desc), (63, .slice 4), (65, .slice 70), (67, Tryz.t67.desc), (68, Tryz.t68.desc), (70, Tryz.t69.desc), (81, Tryz.t80.desc), (88, Tryz.t87.desc), (98, Tryz.t97.desc), (100, .slice 59), (104, .slice 109), (106, Tryz.t105.desc), (109, Tryz.t108.desc), (113, Tryz.t113.desc), (116, .int .u16), (117, Tryz.t117.desc), (119, Tryz.t118.desc), (120, .int .u64), (121, Tryz.t121.desc), (123, Tryz.t122.desc), (125, Tryz.t124.desc), (139, .slice 142), (142, Tryz.t141.desc), (156, Tryz.t156.desc), (161, .slice 163), (163, Tryz.t163.desc)], [(2, false), (3, false), (4, false), (5, false), (9, false), (21, false), (22, false), (23, false), (24, false), (26, true), (36, false), (40, true), (46, false), (49, false), (51, true), (58, false), (59, false), (67, true), (68, true), (70, true), (76, false), (81, true), (88, true), (98, true), (100, false), (103, false), (104, false), (109, true), (116, false), (117, true), (119, true), (120, false), (121, true), (123, true), (125, true), (127, false), (161, false), (163, true), (164, false), (175, false), (176, false)], [(2, 1), (3, 1), (4, 1), (5, 1), (9, 1), (21, 1), (22, 1), (23, 1), (24, 1), (26, 6), (36, 1), (40, 5), (46, 1), (49, 1), (51, 4), (59, 1), (67, 11), (68, 512), (70, 524), (76, 1), (81, 8), (88, 3), (98, 2), (100, 1), (103, 1), (104, 1), (109, 2), (113, 0), (116, 1), (117, 8), (119, 9), (120, 1), (121, 8), (123, 9), (125, 18), (127, 1), (142, 2), (156, 4), (161, 1), (163, 2)]⟩, ⟨[(3, [.v (.int .i64 0)]), (4, [.v (.bool false)]), (5, [.v (.int .u8 0)]), (21, [.v (.int .i32 0)]), (22, [.v (.slice none 0 0)]), (26, [.v (.string (⟨#[]⟩ : ByteArray)), .v (.int .i64 0), .v (.slice none 0 0), .v (.slice none 0 0), .v (.int .i64 0), .v (.int .i64 0)]), (36, [.v (.int .i16 0)]), (40, [.v (.int .u8 0), .v (.int .u8 0), .v (.int .u8 0), .v (.int .i16 0), .v (.int .i32 0)]), (46, [.v (.int .i64 0)]), (51, [.v (.int .i64 0), .v (.int .i64 0), .v (.int .u8 0), .v (.bool false)]), (59, [.v (.slice none 0 0)]), (62, [.v (.slice none 0 0), .v (.string (⟨#[]⟩ : ByteArray)), .v (.int .i64 0), .v (.slice none 0 0), .v (.slice none 0 0), .v (.int .i64 0), .v (.int .i64 0), .v (.slice none 0 0)]), (70, [.ar En.bool 11 (Ar.rep 11 false), .v (.bool false), .ar En.bool 512 (Ar.rep 512 false)]), (76, [.v (.map none)]), (81, [.v (.int .u8 0), .v (.int .u8 0), .v (.int .u8 0), .v (.int .i16 0), .v (.int .i32 0), .v (.int .u8 0), .v (.int .u8 0), .v (.bool false)]), (88, [.v (.int .i64 0), .v (.int .i64 0), .v (.int .i64 0)]), (98, [.v (.int .i64 0), .v (.int .i64 0)]), (100, [.v (.slice none 0 0)]), (103, [.v (.map none)]), (106, [.v (.slice none 0 0)]), (109, [.v (.int .i64 0), .v (.bool false)]), (113, []), (119, [.ar (En.int .u16) 8 (Ar.rep 8 0), .v (.int .i64 0)]), (123, [.ar (En.int .u64) 8 (Ar.rep 8 0), .v (.int .i64 0)]), (125, [.ar (En.int .u16) 8 (Ar.rep 8 0), .v (.int .i64 0), .ar (En.int .u64) 8 (Ar.rep 8 0), .v (.int .i64 0)]), (127, [.v (.map none)]), (142, [.v (.int .i64 0), .v (.int .i64 0)]), (156, [.ar (En.int .i64) 4 (Ar.rep 4 0)]), (161, [.v (.slice none 0 0)]), (163, [.v (.int .i64 0), .v (.int .i64 0)])]⟩, ⟨[40, 51, 70, 88, 125], [40, 51, 70, 88, 119, 123, 125], [7, 8, 9, 10, 11, 12, 13, 14, 15, 16, 17, 18, 19, 20, 21, 22, 23, 24, 25, 26, 27, 28, 29, 30, 31, 32, 33, 34, 35, 36, 37, 38, 39, 40, 41, 42, 43, 44, 45, 46, 47, 48, 49, 50, 51, 52, 53, 54, 55, 56, 57, 58, 59, 60, 61, 62, 63, 64, 65, 66, 67, 68, 69, 70, 71, 72, 73, 74, 75, 76, 77, 78, 79, 80, 81, 82, 83, 84, 85, 86, 87, 88, 89, 90, 91, 92, 93, 94, 95, 96, 97, 98, 99, 100, 101, 102, 103, 104, 107, 108, 109, 110, 111, 112, 113, 114, 115, 116, 117, 118, 119, 120, 121, 122, 123, 124, 125, 126, 127, 128, 129, 130, 134, 135, 136, 137, 138, 139, 140, 141, 142, 143, 144, 145, 146, 147, 148, 152, 153, 154, 155, 156, 158, 170]⟩, ⟨[(3, (1, 8, [.v (.int .i64 0)])), (4, (1, 1, [.v (.bool false)])), (36, (1, 2, [.v (.int .i16 0)])), (40, (5, 12, [.v (.int .u8 0), .v (.int .u8 0), .v (.int .u8 0), .v (.int .i16 0), .v (.int .i32 0)])), (51, (4, 24, [.v (.int .i64 0), .v (.int .i64 0), .v (.int .u8 0), .v (.bool false)])), (59, (1, 24, [.v (.slice none 0 0)])), (70, (524, 524, [.ar En.bool 11 (Ar.rep 11 false), .v (.bool false), .ar En.bool 512 (Ar.rep 512 false)])), (88, (3, 24, [.v (.int .i64 0), .v (.int .i64 0), .v (.int .i64 0)])), (109, (2, 16, [.v (.int .i64 0), .v (.bool false)])), (142, (2, 16, [.v (.int .i64 0), .v (.int .i64 0)])), (163, (2, 16, [.v (.int .i64 0), .v (.int .i64 0)]))]⟩, []⟩
theorem tbOk : TBOk Tryz.prog tb :=
 ⟨⟨⟨Tryz.runUnderlying2, Tryz.runUnderlying3, Tryz.runUnderlying4, Tryz.runUnderlying5, Tryz.runUnderlying9, Tryz.runUnderlying21, Tryz.runUnderlying22, Tryz.runUnderlying23, Tryz.runUnderlying24, Tryz.runUnderlying26, Tryz.runUnderlying28, Tryz.runUnderlying35, Tryz.runUnderlying36, Tryz.runUnderlying37, Tryz.runUnderlying38, Tryz.runUnderlying40, Tryz.runUnderlying44, Tryz.runUnderlying45, Tryz.runUnderlying49, Tryz.runUnderlying51, Tryz.runUnderlying59, Tryz.runUnderlying62, Tryz.runUnderlying63, Tryz.runUnderlying65, Tryz.runUnderlying67, Tryz.runUnderlying68, Tryz.runUnderlying70, Tryz.runUnderlying81, Tryz.runUnderlying88, Tryz.runUnderlying98, Tryz.runUnderlying100, Tryz.runUnderlying104, Tryz.runUnderlying106, Tryz.runUnderlying109, Tryz.runUnderlying113, Tryz.runUnderlying116, Tryz.runUnderlying117, Tryz.runUnderlying119, Tryz.runUnderlying120, Tryz.runUnderlying121, Tryz.runUnderlying123, Tryz.runUnderlying125, Tryz.runUnderlying139, Tryz.runUnderlying142, Tryz.runUnderlying156, Tryz.runUnderlying161, Tryz.runUnderlying163, trivial⟩, ⟨Tryz.isAgg2, Tryz.isAgg3, Tryz.isAgg4, Tryz.isAgg5, Tryz.isAgg9, Tryz.isAgg21, Tryz.isAgg22, Tryz.isAgg23, Tryz.isAgg24, Tryz.isAgg26, Tryz.isAgg36, Tryz.isAgg40, Tryz.isAgg46, Tryz.isAgg49, Tryz.isAgg51, Tryz.isAgg58, Tryz.isAgg59, Tryz.isAgg67, Tryz.isAgg68, Tryz.isAgg70, Tryz.isAgg76, Tryz.isAgg81, Tryz.isAgg88, Tryz.isAgg98, Tryz.isAgg100, Tryz.isAgg103, Tryz.isAgg104, Tryz.isAgg109, Tryz.isAgg116, Tryz.isAgg117, Tryz.isAgg119, Tryz.isAgg120, Tryz.isAgg121, Tryz.isAgg123, Tryz.isAgg125, Tryz.isAgg127, Tryz.isAgg161, Tryz.isAgg163, Tryz.isAgg164, Tryz.isAgg175, Tryz.isAgg176, trivial⟩, ⟨Tryz.sizeOf2, Tryz.sizeOf3, Tryz.sizeOf4, Tryz.sizeOf5, Tryz.sizeOf9, Tryz.sizeOf21, Tryz.sizeOf22, Tryz.sizeOf23, Tryz.sizeOf24, Tryz.sizeOf26, Tryz.sizeOf36, Tryz.sizeOf40, Tryz.sizeOf46, Tryz.sizeOf49, Tryz.sizeOf51, Tryz.sizeOf59, Tryz.sizeOf67, Tryz.sizeOf68, Tryz.sizeOf70, Tryz.sizeOf76, Tryz.sizeOf81, Tryz.sizeOf88, Tryz.sizeOf98, Tryz.sizeOf100, Tryz.sizeOf103, Tryz.sizeOf104, Tryz.sizeOf109, Tryz.sizeOf113, Tryz.sizeOf116, Tryz.sizeOf117, Tryz.sizeOf119, Tryz.sizeOf120, Tryz.sizeOf121, Tryz.sizeOf123, Tryz.sizeOf125, Tryz.sizeOf127, Tryz.sizeOf142, Tryz.sizeOf156, Tryz.sizeOf161, Tryz.sizeOf163, trivial⟩⟩, ⟨⟨⟨_, _, Tryz.zeroValue3, rfl, rfl⟩, ⟨_, _, Tryz.zeroValue4, rfl, rfl⟩, ⟨_, _, Tryz.zeroValue5, rfl, rfl⟩, ⟨_, _, Tryz.zeroValue21, rfl, rfl⟩, ⟨_, _, Tryz.zeroValue22, rfl, rfl⟩, ⟨_, _, Tryz.zeroValue26, rfl, rfl⟩, ⟨_, _, Tryz.zeroValue36, rfl, rfl⟩, ⟨_, _, Tryz.zeroValue40, rfl, rfl⟩, ⟨_, _, Tryz.zeroValue46, rfl, rfl⟩, ⟨_, _, Tryz.zeroValue51, rfl, rfl⟩, ⟨_, _, Tryz.zeroValue59, rfl, rfl⟩, ⟨_, _, Tryz.zeroValue62, rfl, rfl⟩, ⟨_, _, Tryz.zeroValue70, rfl, rfl⟩, ⟨_, _, Tryz.zeroValue76, rfl, rfl⟩, ⟨_, _, Tryz.zeroValue81, rfl, rfl⟩, ⟨_, _, Tryz.zeroValue88, rfl, rfl⟩, ⟨_, _, Tryz.zeroValue98, rfl, rfl⟩, ⟨_, _, Tryz.zeroValue100, rfl, rfl⟩, ⟨_, _, Tryz.zeroValue103, rfl, rfl⟩, ⟨_, _, Tryz.zeroValue106, rfl, rfl⟩, ⟨_, _, Tryz.zeroValue109, rfl, rfl⟩, ⟨_, _, Tryz.zeroValue113, rfl, rfl⟩, ⟨_, _, Tryz.zeroValue119, rfl, rfl⟩, ⟨_, _, Tryz.zeroValue123, rfl, rfl⟩, ⟨_, _, Tryz.zeroValue125, rfl, rfl⟩, ⟨_, _, Tryz.zeroValue127, rfl, rfl⟩, ⟨_, _, Tryz.zeroValue142, rfl, rfl⟩, ⟨_, _, Tryz.zeroValue156, rfl, rfl⟩, ⟨_, _, Tryz.zeroValue161, rfl, rfl⟩, ⟨_, _, Tryz.zeroValue163, rfl, rfl⟩, trivial⟩⟩, ⟨⟨(by show _ = false; kernel_rfl), (by show _ = false; kernel_rfl), (by show _ = false; kernel_rfl), (by show _ = false; kernel_rfl), (by show _ = false; kernel_rfl), trivial⟩, ⟨(by show _ = false; kernel_rfl), (by show _ = false; kernel_rfl), (by show _ = false; kernel_rfl), (by show _ = false; kernel_rfl), (by show _ = false; kernel_rfl), (by show _ = false; kernel_rfl), (by show _ = false; kernel_rfl), trivial⟩, ⟨Tryz.call7, Tryz.call8, Tryz.call9, Tryz.call10, Tryz.call11, Tryz.call12, Tryz.call13, Tryz.call14, Tryz.call15, Tryz.call16, Tryz.call17, Tryz.call18, Tryz.call19, Tryz.call20, Tryz.call21, Tryz.call22, Tryz.call23, Tryz.call24, Tryz.call25, Tryz.call26, Tryz.call27, Tryz.call28, Tryz.call29, Tryz.call30, Tryz.call31, Tryz.call32, Tryz.call33, Tryz.call34, Tryz.call35, Tryz.call36, Tryz.call37, Tryz.call38, Tryz.call39, Tryz.call40, Tryz.call41, Tryz.call42, Tryz.call43, Tryz.call44, Tryz.call45, Tryz.call46, Tryz.call47, Tryz.call48, Tryz.call49, Tryz.call50, Tryz.call51, Tryz.call52, Tryz.call53, Tryz.call54, Tryz.call55, Tryz.call56, Tryz.call57, Tryz.call58, Tryz.call59, Tryz.call60, Tryz.call61, Tryz.call62, Tryz.call63, Tryz.call64, Tryz.call65, Tryz.call66, Tryz.call67, Tryz.call68, Tryz.call69, Tryz.call70, Tryz.call71, Tryz.call72, Tryz.call73, Tryz.call74, Tryz.call75, Tryz.call76, Tryz.call77, Tryz.call78, Tryz.call79, Tryz.call80, Tryz.call81, Tryz.call82, Tryz.call83, Tryz.call84, Tryz.call85, Tryz.call86, Tryz.call87, Tryz.call88, Tryz.call89, Tryz.call90, Tryz.call91, Tryz.call92, Tryz.call93, Tryz.call94, Tryz.call95, Tryz.call96, Tryz.call97, Tryz.call98, Tryz.call99, Tryz.call100, Tryz.call101, Tryz.call102, Tryz.call103, Tryz.call104, Tryz.call107, Tryz.call108, Tryz.call109, Tryz.call110, Tryz.call111, Tryz.call112, Tryz.call113, Tryz.call114, Tryz.call115, Tryz.call116, Tryz.call117, Tryz.call118, Tryz.call119, Tryz.call120, Tryz.call121, Tryz.call122, Tryz.call123, Tryz.call124, Tryz.call125, Tryz.call126, Tryz.call127, Tryz.call128, Tryz.call129, Tryz.call130, Tryz.call134, Tryz.call135, Tryz.call136, Tryz.call137, Tryz.call138, Tryz.call139, Tryz.call140, Tryz.call141, Tryz.call142, Tryz.call143, Tryz.call144, Tryz.call145, Tryz.call146, Tryz.call147, Tryz.call148, Tryz.call152, Tryz.call153, Tryz.call154, Tryz.call155, Tryz.call156, Tryz.call158, Tryz.call170, trivial⟩⟩, ⟨⟨⟨_, _, _, Tryz.typeInfo3, rfl, rfl, rfl, rfl, rfl, rfl⟩, ⟨_, _, _, Tryz.typeInfo4, rfl, rfl, rfl, rfl, rfl, rfl⟩, ⟨_, _, _, Tryz.typeInfo36, rfl, rfl, rfl, rfl, rfl, rfl⟩, ⟨_, _, _, Tryz.typeInfo40, rfl, rfl, rfl, rfl, rfl, rfl⟩, ⟨_, _, _, Tryz.typeInfo51, rfl, rfl, rfl, rfl, rfl, rfl⟩, ⟨_, _, _, Tryz.typeInfo59, rfl, rfl, rfl, rfl, rfl, rfl⟩, ⟨_, _, _, Tryz.typeInfo70, rfl, rfl, rfl, rfl, rfl, rfl⟩, ⟨_, _, _, Tryz.typeInfo88, rfl, rfl, rfl, rfl, rfl, rfl⟩, ⟨_, _, _, Tryz.typeInfo109, rfl, rfl, rfl, rfl, rfl, rfl⟩, ⟨_, _, _, Tryz.typeInfo142, rfl, rfl, rfl, rfl, rfl, rfl⟩, ⟨_, _, _, Tryz.typeInfo163, rfl, rfl, rfl, rfl, rfl, rfl⟩, trivial⟩⟩⟩
theorem hmix : Tryz.prog.follows .mixedOrders = true := by kernel_rfl
def fn15 (p0 : Int) (p1 : Int) : Instr :=
 (⟨183, p0, 0, 0, p1⟩ : Instr)
theorem c15 (p0 : Int) (p1 : Int) (r : Instr) (h : fn15 p0 p1 = r) : Con Tryz.prog 15 [.v (.int .u8 p0), .v (.int .i32 p1)] [] 0 (.ag [.v (.int .u8 r.fOp), .v (.int .u8 r.fDst), .v (.int .u8 r.fSrc), .v (.int .i16 r.fOff), .v (.int .i32 r.fImm)]) [] 0 := by
 rw [fn15] at h
 refine Con.of_body Tryz.func15 rfl Tryz.ntmps15 rfl fun w F0 ρ => ?_
 refine U_ tbOk 5 [] aN ?_
 subst h
 exact T_ tbOk.t Tryz.results15 []
def fn16 : Instr :=
 (⟨149, 0, 0, 0, 0⟩ : Instr)
theorem c16 (r : Instr) (h : fn16 = r) : Con Tryz.prog 16 [] [] 0 (.ag [.v (.int .u8 r.fOp), .v (.int .u8 r.fDst), .v (.int .u8 r.fSrc), .v (.int .i16 r.fOff), .v (.int .i32 r.fImm)]) [] 0 := by
 rw [fn16] at h
 refine Con.of_body Tryz.func16 rfl Tryz.ntmps16 rfl fun w F0 ρ => ?_
 refine U_ tbOk 3 [] aN ?_
 subst h
 exact T_ tbOk.t Tryz.results16 []
def fn18 (p0 : Int) (p1 : Int) : PType :=
 (⟨(⟨#[116]⟩ : ByteArray), 16, ([(⟨4, 4, 1, false⟩ : Fld)] : List Fld), ([] : List Need), p0, p1⟩ : PType)
theorem c18 (p0 : Int) (p1 : Int) (r : PType) (h : fn18 p0 p1 = r) : Con Tryz.prog 18 [.v (.int .i64 p0), .v (.int .i64 p1)] [] 0 (.ag [.v (.string r.fName), .v (.int .i64 r.fCtx), .sl 0, .sl 1, .v (.int .i64 r.fLo), .v (.int .i64 r.fHi)]) [(0, .row Fld.E 51 r.fFields r.fFields.length .unk), (1, .row Need.E 88 r.fNeeds r.fNeeds.length .iff)] 2 := by
 rw [fn18] at h
 refine Con.of_body Tryz.func18 rfl Tryz.ntmps18 rfl fun w F0 ρ => ?_
 refine U_ tbOk 7 [.bs Fld.E ([(⟨4, 4, 1, false⟩ : Fld)] : List Fld)] (aR (aR aN)) ?_
 subst h
 refine G4.imp (Imp.nilC Need.E 88 0 3 (by rfl) (by rfl) (by rfl)) ?_
 refine G4.imp (Imp.row 1 (by rfl)) ?_
 exact T_ tbOk.t Tryz.results18 [1, 2]
def fn39 (p0 : List Instr) : Unit :=
 ()
theorem c39 (p0 : List Instr) (r : Unit) (h : fn39 p0 = r) : Con Tryz.prog 39 [.sl 0] [(0, .rd Instr.E p0)] 1 (.fn (.func 88) [] [.p 1 0]) [(1, .cells 22 [.sl 0])] 2 := by
 rw [fn39] at h
 refine Con.of_body Tryz.func39 rfl Tryz.ntmps39 rfl fun w F0 ρ => ?_
 refine U_ tbOk 4 [] aN ?_
 subst h
 exact T_ tbOk.t Tryz.results39 [0, 1]
def fn89 (p0 : Instr) : Slot :=
 (⟨p0, iand .u8 p0.fOp 7, iand .u8 p0.fOp 240, (iand .u8 p0.fOp 8) != 0⟩ : Slot)
theorem c89 (p0 : Instr) (r : Slot) (h : fn89 p0 = r) : Con Tryz.prog 89 [.ag [.v (.int .u8 p0.fOp), .v (.int .u8 p0.fDst), .v (.int .u8 p0.fSrc), .v (.int .i16 p0.fOff), .v (.int .i32 p0.fImm)]] [] 0 (.ag [.v (.int .u8 r.fInstr.fOp), .v (.int .u8 r.fInstr.fDst), .v (.int .u8 r.fInstr.fSrc), .v (.int .i16 r.fInstr.fOff), .v (.int .i32 r.fInstr.fImm), .v (.int .u8 r.fclass), .v (.int .u8 r.fop), .v (.bool r.freg)]) [] 0 := by
 rw [fn89] at h
 refine Con.of_body Tryz.func89 rfl Tryz.ntmps89 rfl fun w F0 ρ => ?_
 refine U_ tbOk 15 [] aN ?_
 subst h
 exact T_ tbOk.t Tryz.results89 []
def fn88_l1 {σ : Type} (step : σ → (Int × Slot) → Option σ) (go : σ → Bool) (p1 : List Instr) : Nat → σ → Int → Option ((σ) ⊕ (σ))
 | 0, _, _ => none
 | n18 + 1, xs7, x8 => bif decide (x8 < (p1.length : Int)) then (bif inb x8 p1.length then (Option.bind (step xs7 (x8, (fn89 (gt p1 x8)))) fun u24 => (bif !(go u24) then (some (.inr u24)) else (bif ((fn89 (gt p1 x8)).fInstr.fOp) == 24 then ((fn88_l1 step go p1 n18) u24 (IntKind.i64.wrap ((IntKind.i64.wrap (x8 + 1)) + 1))) else ((fn88_l1 step go p1 n18) u24 (IntKind.i64.wrap (x8 + 1)))))) else none) else (some (.inl xs7))
theorem fn88_l1_s {σ : Type} (step : σ → (Int × Slot) → Option σ) (go : σ → Bool) (p1 : List Instr) (n18 : Nat) (xs7 : σ) (x8 : Int) : fn88_l1 step go p1 (n18 + 1) xs7 x8 = bif decide (x8 < (p1.length : Int)) then (bif inb x8 p1.length then (Option.bind (step xs7 (x8, (fn89 (gt p1 x8)))) fun u24 => (bif !(go u24) then (some (.inr u24)) else (bif ((fn89 (gt p1 x8)).fInstr.fOp) == 24 then ((fn88_l1 step go p1 n18) u24 (IntKind.i64.wrap ((IntKind.i64.wrap (x8 + 1)) + 1))) else ((fn88_l1 step go p1 n18) u24 (IntKind.i64.wrap (x8 + 1)))))) else none) else (some (.inl xs7)) := rfl
def fn88_k1 {σ : Type} (xs15 : σ) : Option (σ) :=
 some xs15
theorem fn88_k1_s {σ : Type} (xs15 : σ) : fn88_k1 xs15 = some xs15 := rfl
def fn88 {σ : Type} (F : Nat) (step : σ → (Int × Slot) → Option σ) (go : σ → Bool) (p1 : List Instr) (s0 : σ) : Option σ :=
 Option.bind (fn88_l1 step go p1 F s0 0) fun o16 => (match o16 with | .inl u => fn88_k1 u | .inr u => some u)
theorem c88 {σ : Type} (F : Nat) (step : σ → (Int × Slot) → Option σ) (go : σ → Bool) (p1 : List Instr) (s0 : σ) (r : σ) (h : fn88 F step go p1 s0 = some r) (yv : Value) (J : σ → Blocks → Prop) : ConY Tryz.prog 88 [.v yv, .p 0 0] [(0, .cells 22 [.sl 1]), (1, .rd Instr.E p1), (2, .bx (J s0))] 3 (.tu []) [(0, .cells 22 [.sl 1]), (2, .bx (J r))] 3 (fun w R ρ => YldY Tryz.prog w R ρ 1 yv J (Yn.two (Vn.int .i64) (Vn.ag Slot.E)) step go) := by
 rw [fn88] at h
 refine ConY.of_body Tryz.func88 rfl Tryz.ntmps88 rfl fun w F0 ρ hy => ?_
 refine U_ tbOk 1 [] aN ?_
 obtain ⟨o16, hl17, h⟩ := bd h
 refine CTS 0 (fun u => ⟨[], [(0, .cells 22 [.sl 1]), (1, .rd Instr.E p1), (2, .bx (J u))], 3⟩) o16 ?_ (fun u hu => ?_)
 ·have h020 := h
  clear h
  refine G4.imp (I_ [0, 1, 2]) (LP (fun (n : Nat) (s : σ × Int) => fn88_l1 step go p1 n s.1 s.2) (fun (s : σ × Int) => ⟨[(0, .v yv), (1, .p 0 0), (3, .v (.int .i64 s.2))], [(0, .cells 22 [.sl 1]), (1, .rd Instr.E p1), (2, .bx (J s.1))], 3⟩) (fun _ => rfl) (s0 := (s0, 0)) hl17 ?_)
  clear hl17
  rintro R21 n18 ⟨xs7, x8⟩ h ih19
  replace h := (fn88_l1_s step go p1 n18 xs7 x8).symm.trans h
  refine U_ tbOk 4 [] aN ?_
  refine C_ h (fun h hb22 => ?_) fun h hb22 => ?_
  ·obtain ⟨hk23, h⟩ := ck h
   obtain ⟨u24, hu25, h⟩ := bd h
   refine U_ tbOk 12 [.cl true [] (fun _ => c89 (gt p1 x8) _ rfl), .yd 2 (x8, (fn89 (gt p1 x8))) hy rfl hu25] (aC hk23 (aK (aR (aR (aR aN))))) ?_
   refine C_ h (fun h hb26 => ?_) fun h hb26 => ?_
   ·refine U_ tbOk 0 [] aN ?_
    obtain rfl := sj h
    replace h := h020
    refine U_ tbOk 0 [] aN ?_
    obtain rfl := sj h
    exact T_ tbOk.t Tryz.results88 [0, 1, 2]
   ·refine U_ tbOk 4 [] aN ?_
    refine C_ h (fun h hb27 => ?_) fun h hb27 => ?_
    ·refine U_ tbOk 6 [] aN ?_
     exact ih19 (u24, IntKind.i64.wrap ((IntKind.i64.wrap (x8 + 1)) + 1)) h _ _ (I_ [0, 1, 2])
    ·refine U_ tbOk 3 [] aN ?_
     exact ih19 (u24, IntKind.i64.wrap (x8 + 1)) h _ _ (I_ [0, 1, 2])
  ·refine U_ tbOk 0 [] aN ?_
   obtain rfl := sj h
   exact CES _ rfl (I_ [0, 1, 2])
 ·subst hu
  replace h := (fn88_k1_s u).symm.trans h
  refine U_ tbOk 0 [] aN ?_
  obtain rfl := sj h
  exact TN_ tbOk.t Tryz.results88 [0, 1, 2]
def fn90 (p0 : Slot) (p1 : Bool) : Bool :=
 ((iand .u8 p0.fInstr.fOp 224) == 96) || ((p1 && ((iand .u8 p0.fInstr.fOp 224) == 128)) && ((iand .u8 p0.fInstr.fOp 24) != 24))
theorem c90 (p0 : Slot) (p1 : Bool) (r : Bool) (h : fn90 p0 p1 = r) : Con Tryz.prog 90 [.ag [.v (.int .u8 p0.fInstr.fOp), .v (.int .u8 p0.fInstr.fDst), .v (.int .u8 p0.fInstr.fSrc), .v (.int .i16 p0.fInstr.fOff), .v (.int .i32 p0.fInstr.fImm), .v (.int .u8 p0.fclass), .v (.int .u8 p0.fop), .v (.bool p0.freg)], .v (.bool p1)] [] 0 (.v (.bool r)) [] 0 := by
 rw [fn90] at h
 refine Con.of_body Tryz.func90 rfl Tryz.ntmps90 rfl fun w F0 ρ => ?_
 refine U_ tbOk 24 [] aN ?_
 subst h
 exact T_ tbOk.t Tryz.results90 []
def fn91 (p0 : Slot) : Bool :=
 ((decide ((16 : Int) ≤ p0.fop)) && (decide (p0.fop ≤ 112))) || ((decide ((160 : Int) ≤ p0.fop)) && (decide (p0.fop ≤ 208)))
theorem c91 (p0 : Slot) (r : Bool) (h : fn91 p0 = r) : Con Tryz.prog 91 [.ag [.v (.int .u8 p0.fInstr.fOp), .v (.int .u8 p0.fInstr.fDst), .v (.int .u8 p0.fInstr.fSrc), .v (.int .i16 p0.fInstr.fOff), .v (.int .i32 p0.fInstr.fImm), .v (.int .u8 p0.fclass), .v (.int .u8 p0.fop), .v (.bool p0.freg)]] [] 0 (.v (.bool r)) [] 0 := by
 rw [fn91] at h
 refine Con.of_body Tryz.func91 rfl Tryz.ntmps91 rfl fun w F0 ρ => ?_
 refine U_ tbOk 21 [] aN ?_
 subst h
 exact T_ tbOk.t Tryz.results91 []
def fn40 (p0 : Slot) : Bool :=
 bif p0.fclass == 0 then (p0.fInstr.fOp == 24) else (bif p0.fclass == 1 then (fn90 p0 true) else (bif p0.fclass == 2 then (fn90 p0 false) else (bif p0.fclass == 3 then (fn90 p0 false) else (bif p0.fclass == 5 then ((fn91 p0) || ((!p0.freg) && ((p0.fop == 0) || ((p0.fclass == 5) && ((p0.fop == 128) || (p0.fop == 144)))))) else (bif p0.fclass == 6 then ((fn91 p0) || ((!p0.freg) && ((p0.fop == 0) || ((p0.fclass == 5) && ((p0.fop == 128) || (p0.fop == 144)))))) else (bif p0.fop == 128 then (!p0.freg) else (bif p0.fop == 208 then ((!p0.freg) || (p0.fclass == 4)) else (decide (p0.fop < 208)))))))))
theorem c40 (p0 : Slot) (r : Bool) (h : fn40 p0 = r) : Con Tryz.prog 40 [.ag [.v (.int .u8 p0.fInstr.fOp), .v (.int .u8 p0.fInstr.fDst), .v (.int .u8 p0.fInstr.fSrc), .v (.int .i16 p0.fInstr.fOff), .v (.int .i32 p0.fInstr.fImm), .v (.int .u8 p0.fclass), .v (.int .u8 p0.fop), .v (.bool p0.freg)]] [] 0 (.v (.bool r)) [] 0 := by
 rw [fn40] at h
 refine Con.of_body Tryz.func40 rfl Tryz.ntmps40 rfl fun w F0 ρ => ?_
 refine U_ tbOk 30 [] aN ?_
 refine C_ h (fun h hb1 => ?_) fun h hb1 => ?_
 ·refine U_ tbOk 5 [] aN ?_
  subst h
  exact T_ tbOk.t Tryz.results40 []
 ·refine U_ tbOk 2 [] aN ?_
  refine C_ h (fun h hb2 => ?_) fun h hb2 => ?_
  ·refine U_ tbOk 3 [.cl true [] (fun _ => c90 p0 true _ rfl)] (aK aN) ?_
   subst h
   exact T_ tbOk.t Tryz.results40 []
  ·refine U_ tbOk 2 [] aN ?_
   refine C_ h (fun h hb3 => ?_) fun h hb3 => ?_
   ·refine U_ tbOk 0 [] aN ?_
    refine CDT hb3 (by rfl) ?_
    refine U_ tbOk 3 [.cl true [] (fun _ => c90 p0 false _ rfl)] (aK aN) ?_
    subst h
    exact T_ tbOk.t Tryz.results40 []
   ·refine U_ tbOk 2 [] aN ?_
    refine C_ h (fun h hb4 => ?_) fun h hb4 => ?_
    ·refine U_ tbOk 3 [.cl true [] (fun _ => c90 p0 false _ rfl)] (aK aN) ?_
     subst h
     exact T_ tbOk.t Tryz.results40 []
    ·refine U_ tbOk 2 [] aN ?_
     refine C_ h (fun h hb5 => ?_) fun h hb5 => ?_
     ·refine U_ tbOk 0 [] aN ?_
      refine CDT hb5 (by rfl) ?_
      refine U_ tbOk 6 [.cl true [] (fun _ => c91 p0 _ rfl)] (aK aN) ?_
      subst h
      exact T_ tbOk.t Tryz.results40 []
     ·refine U_ tbOk 2 [] aN ?_
      refine C_ h (fun h hb6 => ?_) fun h hb6 => ?_
      ·refine U_ tbOk 6 [.cl true [] (fun _ => c91 p0 _ rfl)] (aK aN) ?_
       subst h
       exact T_ tbOk.t Tryz.results40 []
      ·refine U_ tbOk 4 [] aN ?_
       refine C_ h (fun h hb7 => ?_) fun h hb7 => ?_
       ·refine U_ tbOk 4 [] aN ?_
        subst h
        exact T_ tbOk.t Tryz.results40 []
       ·refine U_ tbOk 2 [] aN ?_
        refine C_ h (fun h hb8 => ?_) fun h hb8 => ?_
        ·refine U_ tbOk 9 [] aN ?_
         subst h
         exact T_ tbOk.t Tryz.results40 []
        ·refine U_ tbOk 4 [] aN ?_
         subst h
         exact T_ tbOk.t Tryz.results40 []
def fn41 (p0 : Slot) : Bool :=
 ((decide (p0.fInstr.fDst ≤ 10)) && (decide (p0.fInstr.fSrc ≤ 10))) && (!(((((p0.fclass == 0) || (p0.fclass == 1)) || (p0.fclass == 4)) || (p0.fclass == 7)) && (p0.fInstr.fDst == 10)))
theorem c41 (p0 : Slot) (r : Bool) (h : fn41 p0 = r) : Con Tryz.prog 41 [.ag [.v (.int .u8 p0.fInstr.fOp), .v (.int .u8 p0.fInstr.fDst), .v (.int .u8 p0.fInstr.fSrc), .v (.int .i16 p0.fInstr.fOff), .v (.int .i32 p0.fInstr.fImm), .v (.int .u8 p0.fclass), .v (.int .u8 p0.fop), .v (.bool p0.freg)]] [] 0 (.v (.bool r)) [] 0 := by
 rw [fn41] at h
 refine Con.of_body Tryz.func41 rfl Tryz.ntmps41 rfl fun w F0 ρ => ?_
 refine U_ tbOk 42 [] aN ?_
 subst h
 exact T_ tbOk.t Tryz.results41 []
def fn92 (p0 : Slot) : Bool :=
 (p0.fInstr.fOff == 0) && ((p0.fInstr.fSrc == 0) || ((p0.fInstr.fSrc == 1) && (decide ((0 : Int) ≤ p0.fInstr.fImm))))
theorem c92 (p0 : Slot) (r : Bool) (h : fn92 p0 = r) : Con Tryz.prog 92 [.p 0 0] [(0, .cells 81 [.v (.int .u8 p0.fInstr.fOp), .v (.int .u8 p0.fInstr.fDst), .v (.int .u8 p0.fInstr.fSrc), .v (.int .i16 p0.fInstr.fOff), .v (.int .i32 p0.fInstr.fImm), .v (.int .u8 p0.fclass), .v (.int .u8 p0.fop), .v (.bool p0.freg)])] 1 (.v (.bool r)) [(0, .cells 81 [.v (.int .u8 p0.fInstr.fOp), .v (.int .u8 p0.fInstr.fDst), .v (.int .u8 p0.fInstr.fSrc), .v (.int .i16 p0.fInstr.fOff), .v (.int .i32 p0.fInstr.fImm), .v (.int .u8 p0.fclass), .v (.int .u8 p0.fop), .v (.bool p0.freg)])] 1 := by
 rw [fn92] at h
 refine Con.of_body Tryz.func92 rfl Tryz.ntmps92 rfl fun w F0 ρ => ?_
 refine U_ tbOk 24 [] aN ?_
 subst h
 exact T_ tbOk.t Tryz.results92 [0]
def fn93 (p0 : Slot) : Bool :=
 p0.fInstr.fImm == 0
theorem c93 (p0 : Slot) (r : Bool) (h : fn93 p0 = r) : Con Tryz.prog 93 [.p 0 0] [(0, .cells 81 [.v (.int .u8 p0.fInstr.fOp), .v (.int .u8 p0.fInstr.fDst), .v (.int .u8 p0.fInstr.fSrc), .v (.int .i16 p0.fInstr.fOff), .v (.int .i32 p0.fInstr.fImm), .v (.int .u8 p0.fclass), .v (.int .u8 p0.fop), .v (.bool p0.freg)])] 1 (.v (.bool r)) [(0, .cells 81 [.v (.int .u8 p0.fInstr.fOp), .v (.int .u8 p0.fInstr.fDst), .v (.int .u8 p0.fInstr.fSrc), .v (.int .i16 p0.fInstr.fOff), .v (.int .i32 p0.fInstr.fImm), .v (.int .u8 p0.fclass), .v (.int .u8 p0.fop), .v (.bool p0.freg)])] 1 := by
 rw [fn93] at h
 refine Con.of_body Tryz.func93 rfl Tryz.ntmps93 rfl fun w F0 ρ => ?_
 refine U_ tbOk 6 [] aN ?_
 subst h
 exact T_ tbOk.t Tryz.results93 [0]
def fn94 (p0 : Slot) : Bool :=
 p0.fInstr.fSrc == 0
theorem c94 (p0 : Slot) (r : Bool) (h : fn94 p0 = r) : Con Tryz.prog 94 [.p 0 0] [(0, .cells 81 [.v (.int .u8 p0.fInstr.fOp), .v (.int .u8 p0.fInstr.fDst), .v (.int .u8 p0.fInstr.fSrc), .v (.int .i16 p0.fInstr.fOff), .v (.int .i32 p0.fInstr.fImm), .v (.int .u8 p0.fclass), .v (.int .u8 p0.fop), .v (.bool p0.freg)])] 1 (.v (.bool r)) [(0, .cells 81 [.v (.int .u8 p0.fInstr.fOp), .v (.int .u8 p0.fInstr.fDst), .v (.int .u8 p0.fInstr.fSrc), .v (.int .i16 p0.fInstr.fOff), .v (.int .i32 p0.fInstr.fImm), .v (.int .u8 p0.fclass), .v (.int .u8 p0.fop), .v (.bool p0.freg)])] 1 := by
 rw [fn94] at h
 refine Con.of_body Tryz.func94 rfl Tryz.ntmps94 rfl fun w F0 ρ => ?_
 refine U_ tbOk 6 [] aN ?_
 subst h
 exact T_ tbOk.t Tryz.results94 [0]
def fn95 (p0 : Slot) : Bool :=
 p0.fInstr.fImm == 0
theorem c95 (p0 : Slot) (r : Bool) (h : fn95 p0 = r) : Con Tryz.prog 95 [.p 0 0] [(0, .cells 81 [.v (.int .u8 p0.fInstr.fOp), .v (.int .u8 p0.fInstr.fDst), .v (.int .u8 p0.fInstr.fSrc), .v (.int .i16 p0.fInstr.fOff), .v (.int .i32 p0.fInstr.fImm), .v (.int .u8 p0.fclass), .v (.int .u8 p0.fop), .v (.bool p0.freg)])] 1 (.v (.bool r)) [(0, .cells 81 [.v (.int .u8 p0.fInstr.fOp), .v (.int .u8 p0.fInstr.fDst), .v (.int .u8 p0.fInstr.fSrc), .v (.int .i16 p0.fInstr.fOff), .v (.int .i32 p0.fInstr.fImm), .v (.int .u8 p0.fclass), .v (.int .u8 p0.fop), .v (.bool p0.freg)])] 1 := by
 rw [fn95] at h
 refine Con.of_body Tryz.func95 rfl Tryz.ntmps95 rfl fun w F0 ρ => ?_
 refine U_ tbOk 6 [] aN ?_
 subst h
 exact T_ tbOk.t Tryz.results95 [0]
def fn146_l1 (p0 : List Int) (p1 : Int) : Nat → Int → Option ((Unit) ⊕ (Int))
 | 0, _ => none
 | n10 + 1, x4 => bif decide (x4 < (p0.length : Int)) then (bif inb x4 p0.length then (bif p1 == (gt p0 x4) then (some (.inr x4)) else ((fn146_l1 p0 p1 n10) (IntKind.i64.wrap (x4 + 1)))) else none) else (some (.inl ()))
theorem fn146_l1_s (p0 : List Int) (p1 : Int) (n10 : Nat) (x4 : Int) : fn146_l1 p0 p1 (n10 + 1) x4 = bif decide (x4 < (p0.length : Int)) then (bif inb x4 p0.length then (bif p1 == (gt p0 x4) then (some (.inr x4)) else ((fn146_l1 p0 p1 n10) (IntKind.i64.wrap (x4 + 1)))) else none) else (some (.inl ())) := rfl
def fn146_k1 : Option (Int) :=
 some (-1)
theorem fn146_k1_s : fn146_k1 = some (-1) := rfl
def fn146 (F : Nat) (p0 : List Int) (p1 : Int) : Option (Int) :=
 Option.bind (fn146_l1 p0 p1 F 0) fun o8 => (match o8 with | .inl u => fn146_k1 | .inr u => some u)
theorem c146 (F : Nat) (p0 : List Int) (p1 : Int) (r : Int) (h : fn146 F p0 p1 = some r) : Con Tryz.prog 146 [.sl 0, .v (.int .i32 p1)] [(0, .rd (Et.int .i32) p0)] 1 (.v (.int .i64 r)) [] 1 := by
 rw [fn146] at h
 refine Con.of_body Tryz.func146 rfl Tryz.ntmps146 rfl fun w F0 ρ => ?_
 refine U_ tbOk 4 [] aN ?_
 obtain ⟨o8, hl9, h⟩ := bd h
 refine CTS 0 (fun u => ⟨[], [(0, .rd (Et.int .i32) p0)], 1⟩) o8 ?_ (fun u hu => ?_)
 ·have h012 := h
  clear h
  refine G4.imp (I_ [0]) (LP (fun (n : Nat) (s : Int) => fn146_l1 p0 p1 n s) (fun (s : Int) => ⟨[(0, .sl 0), (1, .v (.int .i32 p1)), (7, .v (.int .i64 (p0.length : Int))), (8, .v (.int .i64 s))], [(0, .rd (Et.int .i32) p0)], 1⟩) (fun _ => rfl) (s0 := 0) hl9 ?_)
  clear hl9
  rintro R13 n10 x4 h ih11
  replace h := (fn146_l1_s p0 p1 n10 x4).symm.trans h
  refine U_ tbOk 1 [] aN ?_
  refine C_ h (fun h hb14 => ?_) fun h hb14 => ?_
  ·obtain ⟨hk15, h⟩ := ck h
   refine U_ tbOk 8 [] (aC hk15 aN) ?_
   refine C_ h (fun h hb16 => ?_) fun h hb16 => ?_
   ·refine U_ tbOk 2 [] aN ?_
    obtain rfl := sj h
    replace h := h012
    refine U_ tbOk 0 [] aN ?_
    obtain rfl := sj h
    exact T_ tbOk.t Tryz.results146 [0]
   ·refine U_ tbOk 2 [] aN ?_
    exact ih11 (IntKind.i64.wrap (x4 + 1)) h _ _ (I_ [0])
  ·refine U_ tbOk 0 [] aN ?_
   obtain rfl := sj h
   exact CES _ rfl (I_ [0])
 ·subst hu
  replace h := (fn146_k1_s).symm.trans h
  refine U_ tbOk 1 [] aN ?_
  obtain rfl := sj h
  exact T_ tbOk.t Tryz.results146 [0]
def fn125 (F : Nat) (p0 : List Int) (p1 : Int) : Option (Bool) :=
 Option.bind (fn146 F p0 p1) fun v1 => (some (decide ((0 : Int) ≤ v1)))
theorem c125 (F : Nat) (p0 : List Int) (p1 : Int) (r : Bool) (h : fn125 F p0 p1 = some r) : Con Tryz.prog 125 [.sl 0, .v (.int .i32 p1)] [(0, .rd (Et.int .i32) p0)] 1 (.v (.bool r)) [] 1 := by
 rw [fn125] at h
 refine Con.of_body Tryz.func125 rfl Tryz.ntmps125 rfl fun w F0 ρ => ?_
 obtain ⟨v1, hv2, h⟩ := bd h
 refine U_ tbOk 6 [.cl true [0] (fun _ => c146 F p0 p1 _ hv2)] (aK aN) ?_
 obtain rfl := sj h
 exact T_ tbOk.t Tryz.results125 [0]
def fn147_l1 (p0 : List Int) (p1 : Int) : Nat → Int → Option ((Unit) ⊕ (Int))
 | 0, _ => none
 | n10 + 1, x4 => bif decide (x4 < (p0.length : Int)) then (bif inb x4 p0.length then (bif p1 == (gt p0 x4) then (some (.inr x4)) else ((fn147_l1 p0 p1 n10) (IntKind.i64.wrap (x4 + 1)))) else none) else (some (.inl ()))
theorem fn147_l1_s (p0 : List Int) (p1 : Int) (n10 : Nat) (x4 : Int) : fn147_l1 p0 p1 (n10 + 1) x4 = bif decide (x4 < (p0.length : Int)) then (bif inb x4 p0.length then (bif p1 == (gt p0 x4) then (some (.inr x4)) else ((fn147_l1 p0 p1 n10) (IntKind.i64.wrap (x4 + 1)))) else none) else (some (.inl ())) := rfl
def fn147_k1 : Option (Int) :=
 some (-1)
theorem fn147_k1_s : fn147_k1 = some (-1) := rfl
def fn147 (F : Nat) (p0 : List Int) (p1 : Int) : Option (Int) :=
 Option.bind (fn147_l1 p0 p1 F 0) fun o8 => (match o8 with | .inl u => fn147_k1 | .inr u => some u)
theorem c147 (F : Nat) (p0 : List Int) (p1 : Int) (r : Int) (h : fn147 F p0 p1 = some r) : Con Tryz.prog 147 [.sl 0, .v (.int .i16 p1)] [(0, .rd (Et.int .i16) p0)] 1 (.v (.int .i64 r)) [] 1 := by
 rw [fn147] at h
 refine Con.of_body Tryz.func147 rfl Tryz.ntmps147 rfl fun w F0 ρ => ?_
 refine U_ tbOk 4 [] aN ?_
 obtain ⟨o8, hl9, h⟩ := bd h
 refine CTS 0 (fun u => ⟨[], [(0, .rd (Et.int .i16) p0)], 1⟩) o8 ?_ (fun u hu => ?_)
 ·have h012 := h
  clear h
  refine G4.imp (I_ [0]) (LP (fun (n : Nat) (s : Int) => fn147_l1 p0 p1 n s) (fun (s : Int) => ⟨[(0, .sl 0), (1, .v (.int .i16 p1)), (7, .v (.int .i64 (p0.length : Int))), (8, .v (.int .i64 s))], [(0, .rd (Et.int .i16) p0)], 1⟩) (fun _ => rfl) (s0 := 0) hl9 ?_)
  clear hl9
  rintro R13 n10 x4 h ih11
  replace h := (fn147_l1_s p0 p1 n10 x4).symm.trans h
  refine U_ tbOk 1 [] aN ?_
  refine C_ h (fun h hb14 => ?_) fun h hb14 => ?_
  ·obtain ⟨hk15, h⟩ := ck h
   refine U_ tbOk 8 [] (aC hk15 aN) ?_
   refine C_ h (fun h hb16 => ?_) fun h hb16 => ?_
   ·refine U_ tbOk 2 [] aN ?_
    obtain rfl := sj h
    replace h := h012
    refine U_ tbOk 0 [] aN ?_
    obtain rfl := sj h
    exact T_ tbOk.t Tryz.results147 [0]
   ·refine U_ tbOk 2 [] aN ?_
    exact ih11 (IntKind.i64.wrap (x4 + 1)) h _ _ (I_ [0])
  ·refine U_ tbOk 0 [] aN ?_
   obtain rfl := sj h
   exact CES _ rfl (I_ [0])
 ·subst hu
  replace h := (fn147_k1_s).symm.trans h
  refine U_ tbOk 1 [] aN ?_
  obtain rfl := sj h
  exact T_ tbOk.t Tryz.results147 [0]
def fn126 (F : Nat) (p0 : List Int) (p1 : Int) : Option (Bool) :=
 Option.bind (fn147 F p0 p1) fun v1 => (some (decide ((0 : Int) ≤ v1)))
theorem c126 (F : Nat) (p0 : List Int) (p1 : Int) (r : Bool) (h : fn126 F p0 p1 = some r) : Con Tryz.prog 126 [.sl 0, .v (.int .i16 p1)] [(0, .rd (Et.int .i16) p0)] 1 (.v (.bool r)) [] 1 := by
 rw [fn126] at h
 refine Con.of_body Tryz.func126 rfl Tryz.ntmps126 rfl fun w F0 ρ => ?_
 obtain ⟨v1, hv2, h⟩ := bd h
 refine U_ tbOk 6 [.cl true [0] (fun _ => c147 F p0 p1 _ hv2)] (aK aN) ?_
 obtain rfl := sj h
 exact T_ tbOk.t Tryz.results126 [0]
def fn96 (F : Nat) (p0 : Slot) : Option (Bool) :=
 bif p0.fop == 208 then (bif (p0.fInstr.fSrc == 0) && (p0.fInstr.fOff == 0) then (Option.bind (fn125 F ([16, 32, 64] : List Int) p0.fInstr.fImm) fun v3 => (some v3)) else (some false)) else (bif p0.fop == 48 then (bif decide ((([0] : List Int).length + ([1] : List Int).length) * 2 ≤ 140737488355328 ∧ ([0] : List Int).length + ([1] : List Int).length ≤ 9223372036854775807) then (Option.bind (fn126 F (([0] : List Int) ++ ([1] : List Int)) p0.fInstr.fOff) fun v7 => (some ((v7 && (((!p0.freg) && (p0.fInstr.fSrc == 0)) || (p0.freg && (p0.fInstr.fImm == 0)))) && ((p0.fop != 128) || (p0.fInstr.fImm == 0))))) else none) else (bif p0.fop == 144 then (bif decide ((([0] : List Int).length + ([1] : List Int).length) * 2 ≤ 140737488355328 ∧ ([0] : List Int).length + ([1] : List Int).length ≤ 9223372036854775807) then (Option.bind (fn126 F (([0] : List Int) ++ ([1] : List Int)) p0.fInstr.fOff) fun v11 => (some ((v11 && (((!p0.freg) && (p0.fInstr.fSrc == 0)) || (p0.freg && (p0.fInstr.fImm == 0)))) && ((p0.fop != 128) || (p0.fInstr.fImm == 0))))) else none) else (bif ((p0.fop == 176) && p0.freg) && (p0.fclass == 7) then (bif decide ((([0] : List Int).length + ([8, 16, 32] : List Int).length) * 2 ≤ 140737488355328 ∧ ([0] : List Int).length + ([8, 16, 32] : List Int).length ≤ 9223372036854775807) then (Option.bind (fn126 F (([0] : List Int) ++ ([8, 16, 32] : List Int)) p0.fInstr.fOff) fun v15 => (some ((v15 && (((!p0.freg) && (p0.fInstr.fSrc == 0)) || (p0.freg && (p0.fInstr.fImm == 0)))) && ((p0.fop != 128) || (p0.fInstr.fImm == 0))))) else none) else (bif (p0.fop == 176) && p0.freg then (bif decide ((([0] : List Int).length + ([8, 16] : List Int).length) * 2 ≤ 140737488355328 ∧ ([0] : List Int).length + ([8, 16] : List Int).length ≤ 9223372036854775807) then (Option.bind (fn126 F (([0] : List Int) ++ ([8, 16] : List Int)) p0.fInstr.fOff) fun v19 => (some ((v19 && (((!p0.freg) && (p0.fInstr.fSrc == 0)) || (p0.freg && (p0.fInstr.fImm == 0)))) && ((p0.fop != 128) || (p0.fInstr.fImm == 0))))) else none) else (Option.bind (fn126 F ([0] : List Int) p0.fInstr.fOff) fun v21 => (some ((v21 && (((!p0.freg) && (p0.fInstr.fSrc == 0)) || (p0.freg && (p0.fInstr.fImm == 0)))) && ((p0.fop != 128) || (p0.fInstr.fImm == 0)))))))))
theorem c96 (F : Nat) (p0 : Slot) (r : Bool) (h : fn96 F p0 = some r) : Con Tryz.prog 96 [.ag [.v (.int .u8 p0.fInstr.fOp), .v (.int .u8 p0.fInstr.fDst), .v (.int .u8 p0.fInstr.fSrc), .v (.int .i16 p0.fInstr.fOff), .v (.int .i32 p0.fInstr.fImm), .v (.int .u8 p0.fclass), .v (.int .u8 p0.fop), .v (.bool p0.freg)]] [] 0 (.v (.bool r)) [] 0 := by
 rw [fn96] at h
 refine Con.of_body Tryz.func96 rfl Tryz.ntmps96 rfl fun w F0 ρ => ?_
 refine U_ tbOk 5 [] aN ?_
 refine C_ h (fun h hb1 => ?_) fun h hb1 => ?_
 ·refine CDS h (fun h hb2 => ?_) (fun h hb2 => ?_)
  ·obtain ⟨v3, hv4, h⟩ := bd h
   refine U_ (tbOk.lit [(16, 17, true)]) 18 [.bs (Et.int .i32) ([16, 32, 64] : List Int), .cl true [1] (fun _ => c125 F ([16, 32, 64] : List Int) p0.fInstr.fImm _ hv4)] (aC hb2 (aR (aR (aK aN)))) ?_
   refine U_ tbOk 0 [] aN ?_
   obtain rfl := sj h
   exact T_ tbOk.t Tryz.results96 []
  ·refine U_ (tbOk.lit [(16, 17, false)]) 18 [] (aC hb2 aN) ?_
   refine U_ tbOk 0 [] aN ?_
   obtain rfl := sj h
   exact T_ tbOk.t Tryz.results96 []
 ·refine U_ tbOk 6 [.bs (Et.int .i16) ([0] : List Int)] (aR (aR aN)) ?_
  refine C_ h (fun h hb5 => ?_) fun h hb5 => ?_
  ·refine U_ tbOk 0 [] aN ?_
   refine CDT hb5 (by rfl) ?_
   obtain ⟨hk6, h⟩ := ck h
   obtain ⟨v7, hv8, h⟩ := bd h
   refine U_ tbOk 42 [.bs (Et.int .i16) ([1] : List Int), .ap (Et.int .i16) .unk _ _, .cl true [3] (fun _ => c126 F (([0] : List Int) ++ ([1] : List Int)) p0.fInstr.fOff _ hv8)] (aR (aR (aR (aR (aC hk6 (aC rfl (aK aN))))))) ?_
   obtain rfl := sj h
   exact T_ tbOk.t Tryz.results96 []
  ·refine U_ tbOk 4 [] aN ?_
   refine C_ h (fun h hb9 => ?_) fun h hb9 => ?_
   ·obtain ⟨hk10, h⟩ := ck h
    obtain ⟨v11, hv12, h⟩ := bd h
    refine U_ tbOk 42 [.bs (Et.int .i16) ([1] : List Int), .ap (Et.int .i16) .unk _ _, .cl true [3] (fun _ => c126 F (([0] : List Int) ++ ([1] : List Int)) p0.fInstr.fOff _ hv12)] (aR (aR (aR (aR (aC hk10 (aC rfl (aK aN))))))) ?_
    obtain rfl := sj h
    exact T_ tbOk.t Tryz.results96 []
   ·refine U_ tbOk 13 [] aN ?_
    refine C_ h (fun h hb13 => ?_) fun h hb13 => ?_
    ·obtain ⟨hk14, h⟩ := ck h
     obtain ⟨v15, hv16, h⟩ := bd h
     refine U_ tbOk 42 [.bs (Et.int .i16) ([8, 16, 32] : List Int), .ap (Et.int .i16) .unk _ _, .cl true [3] (fun _ => c126 F (([0] : List Int) ++ ([8, 16, 32] : List Int)) p0.fInstr.fOff _ hv16)] (aR (aR (aR (aR (aC hk14 (aC rfl (aK aN))))))) ?_
     obtain rfl := sj h
     exact T_ tbOk.t Tryz.results96 []
    ·refine U_ tbOk 8 [] aN ?_
     refine C_ h (fun h hb17 => ?_) fun h hb17 => ?_
     ·obtain ⟨hk18, h⟩ := ck h
      obtain ⟨v19, hv20, h⟩ := bd h
      refine U_ tbOk 42 [.bs (Et.int .i16) ([8, 16] : List Int), .ap (Et.int .i16) .unk _ _, .cl true [3] (fun _ => c126 F (([0] : List Int) ++ ([8, 16] : List Int)) p0.fInstr.fOff _ hv20)] (aR (aR (aR (aR (aC hk18 (aC rfl (aK aN))))))) ?_
      obtain rfl := sj h
      exact T_ tbOk.t Tryz.results96 []
     ·obtain ⟨v21, hv22, h⟩ := bd h
      refine U_ tbOk 38 [.cl true [1] (fun _ => c126 F ([0] : List Int) p0.fInstr.fOff _ hv22)] (aK aN) ?_
      obtain rfl := sj h
      exact T_ tbOk.t Tryz.results96 []
def fn97 (p0 : Slot) : Bool :=
 bif (fn91 p0) then (((!p0.freg) && (p0.fInstr.fSrc == 0)) || (p0.freg && (p0.fInstr.fImm == 0))) else (bif (p0.fop == 0) && (p0.fclass == 5) then (((p0.fInstr.fDst == 0) && (p0.fInstr.fSrc == 0)) && (p0.fInstr.fImm == 0)) else (bif p0.fop == 0 then (((p0.fInstr.fDst == 0) && (p0.fInstr.fSrc == 0)) && (p0.fInstr.fOff == 0)) else (bif p0.fop == 128 then ((((p0.fInstr.fDst == 0) && (p0.fInstr.fSrc == 0)) && (p0.fInstr.fOff == 0)) && (decide ((1 : Int) ≤ p0.fInstr.fImm))) else ((((p0.fInstr.fDst == 0) && (p0.fInstr.fSrc == 0)) && (p0.fInstr.fOff == 0)) && (p0.fInstr.fImm == 0)))))
theorem c97 (p0 : Slot) (r : Bool) (h : fn97 p0 = r) : Con Tryz.prog 97 [.ag [.v (.int .u8 p0.fInstr.fOp), .v (.int .u8 p0.fInstr.fDst), .v (.int .u8 p0.fInstr.fSrc), .v (.int .i16 p0.fInstr.fOff), .v (.int .i32 p0.fInstr.fImm), .v (.int .u8 p0.fclass), .v (.int .u8 p0.fop), .v (.bool p0.freg)]] [] 0 (.v (.bool r)) [] 0 := by
 rw [fn97] at h
 refine Con.of_body Tryz.func97 rfl Tryz.ntmps97 rfl fun w F0 ρ => ?_
 refine U_ tbOk 16 [.cl true [] (fun _ => c91 p0 _ rfl)] (aK aN) ?_
 refine C_ h (fun h hb1 => ?_) fun h hb1 => ?_
 ·refine U_ tbOk 20 [] aN ?_
  subst h
  exact T_ tbOk.t Tryz.results97 []
 ·refine U_ tbOk 9 [] aN ?_
  refine C_ h (fun h hb2 => ?_) fun h hb2 => ?_
  ·refine U_ tbOk 8 [] aN ?_
   subst h
   exact T_ tbOk.t Tryz.results97 []
  ·refine U_ tbOk 4 [] aN ?_
   refine C_ h (fun h hb3 => ?_) fun h hb3 => ?_
   ·refine U_ tbOk 8 [] aN ?_
    subst h
    exact T_ tbOk.t Tryz.results97 []
   ·refine U_ tbOk 4 [] aN ?_
    refine C_ h (fun h hb4 => ?_) fun h hb4 => ?_
    ·refine U_ tbOk 14 [] aN ?_
     subst h
     exact T_ tbOk.t Tryz.results97 []
    ·refine U_ tbOk 14 [] aN ?_
     subst h
     exact T_ tbOk.t Tryz.results97 []
def fn42 (F : Nat) (p0 : Slot) : Option (Bool) :=
 bif p0.fclass == 0 then (some (fn92 p0)) else (bif p0.fclass == 1 then (some (fn93 p0)) else (bif p0.fclass == 2 then (some (fn94 p0)) else (bif p0.fclass == 3 then (some (fn95 p0)) else (bif p0.fclass == 4 then (Option.bind (fn96 F p0) fun v6 => (some v6)) else (bif p0.fclass == 7 then (Option.bind (fn96 F p0) fun v9 => (some v9)) else (bif p0.fclass == 5 then (some (fn97 p0)) else (bif p0.fclass == 6 then (some (fn97 p0)) else none)))))))
theorem c42 (F : Nat) (p0 : Slot) (r : Bool) (h : fn42 F p0 = some r) : Con Tryz.prog 42 [.ag [.v (.int .u8 p0.fInstr.fOp), .v (.int .u8 p0.fInstr.fDst), .v (.int .u8 p0.fInstr.fSrc), .v (.int .i16 p0.fInstr.fOff), .v (.int .i32 p0.fInstr.fImm), .v (.int .u8 p0.fclass), .v (.int .u8 p0.fop), .v (.bool p0.freg)]] [] 0 (.v (.bool r)) [] 0 := by
 rw [fn42] at h
 refine Con.of_body Tryz.func42 rfl Tryz.ntmps42 rfl fun w F0 ρ => ?_
 refine CDS h (fun h hb1 => ?_) (fun h hb1 => ?_)
 ·refine U_ tbOk 31 [.ml, .il Tryz.runUnderlying153 Tryz.runUnderlying5, .il Tryz.runUnderlying153 Tryz.runUnderlying5, .il Tryz.runUnderlying153 Tryz.runUnderlying5, .il Tryz.runUnderlying153 Tryz.runUnderlying5, .il Tryz.runUnderlying153 Tryz.runUnderlying5, .il Tryz.runUnderlying153 Tryz.runUnderlying5, .il Tryz.runUnderlying153 Tryz.runUnderlying5, .il Tryz.runUnderlying153 Tryz.runUnderlying5, .ll 0 Tryz.runUnderlying153 Tryz.runUnderlying5 Tryz.zeroValue29, .cl true [0] (fun _ => c92 p0 _ rfl)] (aC hb1 (aK aN)) ?_
  obtain rfl := sj h
  exact T_ tbOk.t Tryz.results42 []
 ·refine CDS h (fun h hb2 => ?_) (fun h hb2 => ?_)
  ·refine U_ tbOk 31 [.ml, .il Tryz.runUnderlying153 Tryz.runUnderlying5, .il Tryz.runUnderlying153 Tryz.runUnderlying5, .il Tryz.runUnderlying153 Tryz.runUnderlying5, .il Tryz.runUnderlying153 Tryz.runUnderlying5, .il Tryz.runUnderlying153 Tryz.runUnderlying5, .il Tryz.runUnderlying153 Tryz.runUnderlying5, .il Tryz.runUnderlying153 Tryz.runUnderlying5, .il Tryz.runUnderlying153 Tryz.runUnderlying5, .ll 1 Tryz.runUnderlying153 Tryz.runUnderlying5 Tryz.zeroValue29, .cl true [0] (fun _ => c93 p0 _ rfl)] (aC hb1 (aC hb2 (aK aN))) ?_
   obtain rfl := sj h
   exact T_ tbOk.t Tryz.results42 []
  ·refine CDS h (fun h hb3 => ?_) (fun h hb3 => ?_)
   ·refine U_ tbOk 31 [.ml, .il Tryz.runUnderlying153 Tryz.runUnderlying5, .il Tryz.runUnderlying153 Tryz.runUnderlying5, .il Tryz.runUnderlying153 Tryz.runUnderlying5, .il Tryz.runUnderlying153 Tryz.runUnderlying5, .il Tryz.runUnderlying153 Tryz.runUnderlying5, .il Tryz.runUnderlying153 Tryz.runUnderlying5, .il Tryz.runUnderlying153 Tryz.runUnderlying5, .il Tryz.runUnderlying153 Tryz.runUnderlying5, .ll 2 Tryz.runUnderlying153 Tryz.runUnderlying5 Tryz.zeroValue29, .cl true [0] (fun _ => c94 p0 _ rfl)] (aC hb1 (aC hb2 (aC hb3 (aK aN)))) ?_
    obtain rfl := sj h
    exact T_ tbOk.t Tryz.results42 []
   ·refine CDS h (fun h hb4 => ?_) (fun h hb4 => ?_)
    ·refine U_ tbOk 31 [.ml, .il Tryz.runUnderlying153 Tryz.runUnderlying5, .il Tryz.runUnderlying153 Tryz.runUnderlying5, .il Tryz.runUnderlying153 Tryz.runUnderlying5, .il Tryz.runUnderlying153 Tryz.runUnderlying5, .il Tryz.runUnderlying153 Tryz.runUnderlying5, .il Tryz.runUnderlying153 Tryz.runUnderlying5, .il Tryz.runUnderlying153 Tryz.runUnderlying5, .il Tryz.runUnderlying153 Tryz.runUnderlying5, .ll 3 Tryz.runUnderlying153 Tryz.runUnderlying5 Tryz.zeroValue29, .cl true [0] (fun _ => c95 p0 _ rfl)] (aC hb1 (aC hb2 (aC hb3 (aC hb4 (aK aN))))) ?_
     obtain rfl := sj h
     exact T_ tbOk.t Tryz.results42 []
    ·refine CDS h (fun h hb5 => ?_) (fun h hb5 => ?_)
     ·obtain ⟨v6, hv7, h⟩ := bd h
      refine U_ tbOk 31 [.ml, .il Tryz.runUnderlying153 Tryz.runUnderlying5, .il Tryz.runUnderlying153 Tryz.runUnderlying5, .il Tryz.runUnderlying153 Tryz.runUnderlying5, .il Tryz.runUnderlying153 Tryz.runUnderlying5, .il Tryz.runUnderlying153 Tryz.runUnderlying5, .il Tryz.runUnderlying153 Tryz.runUnderlying5, .il Tryz.runUnderlying153 Tryz.runUnderlying5, .il Tryz.runUnderlying153 Tryz.runUnderlying5, .ll 4 Tryz.runUnderlying153 Tryz.runUnderlying5 Tryz.zeroValue29, .cl true [] (fun _ => c96 F p0 _ hv7)] (aC hb1 (aC hb2 (aC hb3 (aC hb4 (aC hb5 (aK aN)))))) ?_
      obtain rfl := sj h
      exact T_ tbOk.t Tryz.results42 []
     ·refine CDS h (fun h hb8 => ?_) (fun h hb8 => ?_)
      ·obtain ⟨v9, hv10, h⟩ := bd h
       refine U_ tbOk 31 [.ml, .il Tryz.runUnderlying153 Tryz.runUnderlying5, .il Tryz.runUnderlying153 Tryz.runUnderlying5, .il Tryz.runUnderlying153 Tryz.runUnderlying5, .il Tryz.runUnderlying153 Tryz.runUnderlying5, .il Tryz.runUnderlying153 Tryz.runUnderlying5, .il Tryz.runUnderlying153 Tryz.runUnderlying5, .il Tryz.runUnderlying153 Tryz.runUnderlying5, .il Tryz.runUnderlying153 Tryz.runUnderlying5, .ll 5 Tryz.runUnderlying153 Tryz.runUnderlying5 Tryz.zeroValue29, .cl true [] (fun _ => c96 F p0 _ hv10)] (aC hb1 (aC hb2 (aC hb3 (aC hb4 (aC hb5 (aC hb8 (aK aN))))))) ?_
       obtain rfl := sj h
       exact T_ tbOk.t Tryz.results42 []
      ·refine CDS h (fun h hb11 => ?_) (fun h hb11 => ?_)
       ·refine U_ tbOk 31 [.ml, .il Tryz.runUnderlying153 Tryz.runUnderlying5, .il Tryz.runUnderlying153 Tryz.runUnderlying5, .il Tryz.runUnderlying153 Tryz.runUnderlying5, .il Tryz.runUnderlying153 Tryz.runUnderlying5, .il Tryz.runUnderlying153 Tryz.runUnderlying5, .il Tryz.runUnderlying153 Tryz.runUnderlying5, .il Tryz.runUnderlying153 Tryz.runUnderlying5, .il Tryz.runUnderlying153 Tryz.runUnderlying5, .ll 6 Tryz.runUnderlying153 Tryz.runUnderlying5 Tryz.zeroValue29, .cl true [] (fun _ => c97 p0 _ rfl)] (aC hb1 (aC hb2 (aC hb3 (aC hb4 (aC hb5 (aC hb8 (aC hb11 (aK aN)))))))) ?_
        obtain rfl := sj h
        exact T_ tbOk.t Tryz.results42 []
       ·refine CDS h (fun h hb12 => ?_) (fun h hb12 => ?_)
        ·refine U_ tbOk 31 [.ml, .il Tryz.runUnderlying153 Tryz.runUnderlying5, .il Tryz.runUnderlying153 Tryz.runUnderlying5, .il Tryz.runUnderlying153 Tryz.runUnderlying5, .il Tryz.runUnderlying153 Tryz.runUnderlying5, .il Tryz.runUnderlying153 Tryz.runUnderlying5, .il Tryz.runUnderlying153 Tryz.runUnderlying5, .il Tryz.runUnderlying153 Tryz.runUnderlying5, .il Tryz.runUnderlying153 Tryz.runUnderlying5, .ll 7 Tryz.runUnderlying153 Tryz.runUnderlying5 Tryz.zeroValue29, .cl true [] (fun _ => c97 p0 _ rfl)] (aC hb1 (aC hb2 (aC hb3 (aC hb4 (aC hb5 (aC hb8 (aC hb11 (aC hb12 (aK aN))))))))) ?_
         obtain rfl := sj h
         exact T_ tbOk.t Tryz.results42 []
        ·cases h
def fn43 (p0 : List Instr) (p1 : Int) : Option (Int) :=
 bif decide ((p0.length : Int) ≤ (IntKind.i64.wrap (p1 + 1))) then (some 23) else (bif inb (IntKind.i64.wrap (p1 + 1)) p0.length then (bif bif !((((gt p0 (IntKind.i64.wrap (p1 + 1))).fOp) == 0) && ((((gt p0 (IntKind.i64.wrap (p1 + 1))).fDst) == 0) && ((((gt p0 (IntKind.i64.wrap (p1 + 1))).fSrc) == 0) && ((((gt p0 (IntKind.i64.wrap (p1 + 1))).fOff) == 0) && ((((gt p0 (IntKind.i64.wrap (p1 + 1))).fImm) == ((gt p0 (IntKind.i64.wrap (p1 + 1))).fImm)) && true))))) then true else (inb p1 p0.length) then (bif (!((((gt p0 (IntKind.i64.wrap (p1 + 1))).fOp) == 0) && ((((gt p0 (IntKind.i64.wrap (p1 + 1))).fDst) == 0) && ((((gt p0 (IntKind.i64.wrap (p1 + 1))).fSrc) == 0) && ((((gt p0 (IntKind.i64.wrap (p1 + 1))).fOff) == 0) && ((((gt p0 (IntKind.i64.wrap (p1 + 1))).fImm) == ((gt p0 (IntKind.i64.wrap (p1 + 1))).fImm)) && true)))))) || ((((gt p0 p1).fSrc) == 1) && (((gt p0 (IntKind.i64.wrap (p1 + 1))).fImm) != 0)) then (some 22) else (some 0)) else none) else none)
theorem c43 (p0 : List Instr) (p1 : Int) (r : Int) (h : fn43 p0 p1 = some r) : Con Tryz.prog 43 [.sl 0, .v (.int .i64 p1)] [(0, .rd Instr.E p0)] 1 (.v (.int .i64 r)) [] 1 := by
 rw [fn43] at h
 refine Con.of_body Tryz.func43 rfl Tryz.ntmps43 rfl fun w F0 ρ => ?_
 refine U_ tbOk 6 [] aN ?_
 refine C_ h (fun h hb1 => ?_) fun h hb1 => ?_
 ·refine U_ tbOk 1 [] aN ?_
  obtain rfl := sj h
  exact T_ tbOk.t Tryz.results43 [0]
 ·obtain ⟨hk2, h⟩ := ck h
  obtain ⟨hk3, h⟩ := ck h
  refine U_ tbOk 25 [] (aC hk2 (aC hk3 aN)) ?_
  refine C_ h (fun h hb4 => ?_) fun h hb4 => ?_
  ·refine U_ tbOk 1 [] aN ?_
   obtain rfl := sj h
   exact T_ tbOk.t Tryz.results43 [0]
  ·refine U_ tbOk 1 [] aN ?_
   obtain rfl := sj h
   exact T_ tbOk.t Tryz.results43 [0]
def fn44 (p0 : Slot) (p1 : Int) : Int × Bool :=
 bif !((p0.fclass == 5) || (p0.fclass == 6)) then (0, false) else (bif (!(fn91 p0)) && (p0.fop != 0) then (0, false) else (bif (p0.fop == 0) && (p0.fclass == 6) then (IntKind.i64.wrap ((IntKind.i64.wrap (p1 + 1)) + (IntKind.i64.wrap p0.fInstr.fImm)), true) else (IntKind.i64.wrap ((IntKind.i64.wrap (p1 + 1)) + (IntKind.i64.wrap p0.fInstr.fOff)), true)))
theorem c44 (p0 : Slot) (p1 : Int) (r : Int × Bool) (h : fn44 p0 p1 = r) : Con Tryz.prog 44 [.ag [.v (.int .u8 p0.fInstr.fOp), .v (.int .u8 p0.fInstr.fDst), .v (.int .u8 p0.fInstr.fSrc), .v (.int .i16 p0.fInstr.fOff), .v (.int .i32 p0.fInstr.fImm), .v (.int .u8 p0.fclass), .v (.int .u8 p0.fop), .v (.bool p0.freg)], .v (.int .i64 p1)] [] 0 (.tu [.v (.int .i64 r.1), .v (.bool r.2)]) [] 0 := by
 rw [fn44] at h
 refine Con.of_body Tryz.func44 rfl Tryz.ntmps44 rfl fun w F0 ρ => ?_
 refine U_ tbOk 15 [] aN ?_
 refine C_ h (fun h hb1 => ?_) fun h hb1 => ?_
 ·refine U_ tbOk 0 [] aN ?_
  refine CDT hb1 (by rfl) ?_
  refine U_ tbOk 2 [] aN ?_
  subst h
  exact T_ tbOk.t Tryz.results44 []
 ·refine U_ tbOk 9 [.cl true [] (fun _ => c91 p0 _ rfl)] (aK aN) ?_
  refine C_ h (fun h hb2 => ?_) fun h hb2 => ?_
  ·refine U_ tbOk 2 [] aN ?_
   subst h
   exact T_ tbOk.t Tryz.results44 []
  ·refine U_ tbOk 9 [] aN ?_
   refine C_ h (fun h hb3 => ?_) fun h hb3 => ?_
   ·refine U_ tbOk 9 [] aN ?_
    subst h
    exact T_ tbOk.t Tryz.results44 []
   ·refine U_ tbOk 9 [] aN ?_
    subst h
    exact T_ tbOk.t Tryz.results44 []
def fn45 (p0 : Slot) : Bool :=
 ((p0.fclass == 5) || (p0.fclass == 6)) && ((p0.fop == 0) || (p0.fop == 144))
theorem c45 (p0 : Slot) (r : Bool) (h : fn45 p0 = r) : Con Tryz.prog 45 [.ag [.v (.int .u8 p0.fInstr.fOp), .v (.int .u8 p0.fInstr.fDst), .v (.int .u8 p0.fInstr.fSrc), .v (.int .i16 p0.fInstr.fOff), .v (.int .i32 p0.fInstr.fImm), .v (.int .u8 p0.fclass), .v (.int .u8 p0.fop), .v (.bool p0.freg)]] [] 0 (.v (.bool r)) [] 0 := by
 rw [fn45] at h
 refine Con.of_body Tryz.func45 rfl Tryz.ntmps45 rfl fun w F0 ρ => ?_
 refine U_ tbOk 23 [] aN ?_
 subst h
 exact T_ tbOk.t Tryz.results45 []
def fn20_r1 (xs4 : List (Int × Bool)) (y2 : Int) (y3 : Slot) : Option (((List (Int × Bool))) × Nat) :=
 some (mput xs4 y2 true, 0)
theorem fn20_r1_s (xs4 : List (Int × Bool)) (y2 : Int) (y3 : Slot) : fn20_r1 xs4 y2 y3 = some (mput xs4 y2 true, 0) := rfl
def fn20_r2 (F : Nat) (p0 : List Instr) (xs4 : List (Int × Bool)) (x23 : Int) (x24 : Int) (x25 : Bool) (y10 : Int) (y11 : Slot) : Option ((Int × Int × Bool) × Nat) :=
 bif !(fn40 y11) then (some ((y10, 20, x25), 1)) else (bif !(fn41 y11) then (some ((y10, 21, x25), 1)) else (Option.bind (fn42 F y11) fun v41 => (bif !v41 then (some ((y10, 22, x25), 1)) else (bif y11.fInstr.fOp == 24 then (Option.bind (fn43 p0 y10) fun v45 => (bif v45 != 0 then (some ((y10, v45, x25), 1)) else (bif ((fn44 y11 y10).2) && (!(mget xs4 ((fn44 y11 y10).1) false)) then (some ((y10, 23, x25), 1)) else (some ((x23, x24, (fn45 y11)), 0))))) else (bif ((fn44 y11 y10).2) && (!(mget xs4 ((fn44 y11 y10).1) false)) then (some ((y10, 23, x25), 1)) else (some ((x23, x24, (fn45 y11)), 0)))))))
theorem fn20_r2_s (F : Nat) (p0 : List Instr) (xs4 : List (Int × Bool)) (x23 : Int) (x24 : Int) (x25 : Bool) (y10 : Int) (y11 : Slot) : fn20_r2 F p0 xs4 x23 x24 x25 y10 y11 = bif !(fn40 y11) then (some ((y10, 20, x25), 1)) else (bif !(fn41 y11) then (some ((y10, 21, x25), 1)) else (Option.bind (fn42 F y11) fun v41 => (bif !v41 then (some ((y10, 22, x25), 1)) else (bif y11.fInstr.fOp == 24 then (Option.bind (fn43 p0 y10) fun v45 => (bif v45 != 0 then (some ((y10, v45, x25), 1)) else (bif ((fn44 y11 y10).2) && (!(mget xs4 ((fn44 y11 y10).1) false)) then (some ((y10, 23, x25), 1)) else (some ((x23, x24, (fn45 y11)), 0))))) else (bif ((fn44 y11 y10).2) && (!(mget xs4 ((fn44 y11 y10).1) false)) then (some ((y10, 23, x25), 1)) else (some ((x23, x24, (fn45 y11)), 0))))))) := rfl
def fn20_k2_0 (x23 : Int) (x24 : Int) (x25 : Bool) : Option ((Int × Int)) :=
 some (x23, x24)
theorem fn20_k2_0_s (x23 : Int) (x24 : Int) (x25 : Bool) : fn20_k2_0 x23 x24 x25 = some (x23, x24) := rfl
def fn20_k2_1 (p0 : List Instr) (x23 : Int) (x24 : Int) (x25 : Bool) : Option ((Int × Int)) :=
 bif !x25 then (some (IntKind.i64.wrap ((p0.length : Int) - 1), 24)) else (some (0, 0))
theorem fn20_k2_1_s (p0 : List Instr) (x23 : Int) (x24 : Int) (x25 : Bool) : fn20_k2_1 p0 x23 x24 x25 = bif !x25 then (some (IntKind.i64.wrap ((p0.length : Int) - 1), 24)) else (some (0, 0)) := rfl
def fn20_k1_0 (F : Nat) (p0 : List Instr) (xs4 : List (Int × Bool)) : Option ((Int × Int)) :=
 Option.bind (fn88 F (stepR (fun (s : Int × Int × Bool) (y : Int × Slot) => fn20_r2 F p0 xs4 s.1 s.2.1 s.2.2 y.1 y.2)) goR p0 (((0, 0, false), 0) : (Int × Int × Bool) × Nat)) fun o50 => (bif Nat.beq o50.2 1 then (fn20_k2_0 o50.1.1 o50.1.2.1 o50.1.2.2) else (bif Nat.beq o50.2 0 then (fn20_k2_1 p0 o50.1.1 o50.1.2.1 o50.1.2.2) else none))
theorem fn20_k1_0_s (F : Nat) (p0 : List Instr) (xs4 : List (Int × Bool)) : fn20_k1_0 F p0 xs4 = Option.bind (fn88 F (stepR (fun (s : Int × Int × Bool) (y : Int × Slot) => fn20_r2 F p0 xs4 s.1 s.2.1 s.2.2 y.1 y.2)) goR p0 (((0, 0, false), 0) : (Int × Int × Bool) × Nat)) fun o50 => (bif Nat.beq o50.2 1 then (fn20_k2_0 o50.1.1 o50.1.2.1 o50.1.2.2) else (bif Nat.beq o50.2 0 then (fn20_k2_1 p0 o50.1.1 o50.1.2.1 o50.1.2.2) else none)) := rfl
def fn20 (F : Nat) (p0 : List Instr) : Option (Int × Int) :=
 bif ((p0.length : Int) == 0) || (decide ((4096 : Int) < (p0.length : Int))) then (some (0, 3)) else (Option.bind (fn88 F (stepR (fun (s : (List (Int × Bool))) (y : Int × Slot) => fn20_r1 s y.1 y.2)) goR p0 ((([] : List (Int × Bool)), 0) : ((List (Int × Bool))) × Nat)) fun o7 => (bif Nat.beq o7.2 0 then (fn20_k1_0 F p0 o7.1) else none))
theorem c20 (F : Nat) (p0 : List Instr) (r : Int × Int) (h : fn20 F p0 = some r) : Con Tryz.prog 20 [.sl 0] [(0, .rd Instr.E p0)] 1 (.tu [.v (.int .i64 r.1), .v (.int .i64 r.2)]) [] 1 := by
 rw [fn20] at h
 refine Con.of_body Tryz.func20 rfl Tryz.ntmps20 rfl fun w F0 ρ => ?_
 refine U_ tbOk 11 [] aN ?_
 refine C_ h (fun h hb1 => ?_) fun h hb1 => ?_
 ·refine U_ tbOk 2 [] aN ?_
  obtain rfl := sj h
  exact T_ tbOk.t Tryz.results20 [0]
 ·refine U_ tbOk 5 [.mm (Kn.int .i64) Vn.bool, .cl true [0] (fun _ => c39 p0 _ rfl)] (aK aN) ?_
  obtain ⟨o7, ho8, h⟩ := bd h
  refine G4.imp (s' := ⟨[(1, .p 1 0), (2, .p 2 0), (3, .p 3 0), (4, .p 4 0), (22, .fn (.func 88) [] [.p 5 0])], (5, .cells 22 [.sl 0]) :: ((fun (s : (List (Int × Bool))) => ([(1, .cells 22 [.sl 0]), (2, .cells 3 [.v (.int .i64 0)]), (3, .cells 46 [.v (.int .i64 0)]), (4, .cells 76 [.mp 6]), (6, .omap (Kn.int .i64) Vn.bool s)] : SH)) ([] : List (Int × Bool)) ++ [(0, .rd Instr.E p0)]), 7⟩) (I_ [0, 1, 2, 3, 5, 6, 4]) ?_
  refine RF [23, 24] (Yn.two (Vn.int .i64) (Vn.ag Slot.E)) (fun (s : (List (Int × Bool))) => [(1, .cells 22 [.sl 0]), (2, .cells 3 [.v (.int .i64 0)]), (3, .cells 46 [.v (.int .i64 0)]), (4, .cells 76 [.mp 6]), (6, .omap (Kn.int .i64) Vn.bool s)]) [(0, .rd Instr.E p0)] 6 5 0 (fun (s : (List (Int × Bool))) (y : Int × Slot) => fn20_r1 s y.1 y.2) ([] : List (Int × Bool)) o7.1 o7.2 Tryz.call88 (by rfl) (by rfl) (by rfl) (fun _ _ => rfl) (fun _ _ => trivial) (fun _ => by rfl) (fun yv J => c88 F (stepR (fun (s : (List (Int × Bool))) (y : Int × Slot) => fn20_r1 s y.1 y.2)) goR p0 (([] : List (Int × Bool)), 0) o7 ho8 yv J) ?_ ?_
  ·clear h ho8
   rintro l1 w1 R1 ρ1 pA pB QA QB xs4 ⟨y2, y3⟩ s1' m1' h hbg5 hend6
   replace h := (fn20_r1_s xs4 y2 y3).symm.trans h
   refine U_ tbOk 1 [] aN ?_
   refine hbg5 _ _ _ (by rfl) ?_
   refine U_ tbOk 3 [.mu (Kn.int .i64) Vn.bool _ y2 true Tryz.runUnderlying76 Tryz.runUnderlying3] (aR (aR (aR aN))) ?_
   cases Option.some.inj h
   exact hend6 _ (I_ [0, 1, 2, 3, 4, 5, 6, 7])
  ·intro r9
   refine CDS h (fun h hb57 => ?_) (fun h hb57 => ?_)
   ·rw [show o7.2 = 0 from Nat.eq_of_beq_eq_true hb57]
    replace h := (fn20_k1_0_s F p0 o7.1).symm.trans h
    refine U_ tbOk 4 [.cl true [0] (fun _ => c39 p0 _ rfl)] (aK aN) ?_
    obtain ⟨o50, ho51, h⟩ := bd h
    refine G4.imp (s' := ⟨[(1, .p 1 0), (2, .p 2 0), (3, .p 3 0), (4, .p 4 0), (6, .p 6 0), (28, .fn (.func 88) [] [.p 7 0])], (7, .cells 22 [.sl 0]) :: ((fun (s : Int × Int × Bool) => ([(1, .cells 22 [.sl 0]), (2, .cells 3 [.v (.int .i64 s.1)]), (3, .cells 46 [.v (.int .i64 s.2.1)]), (4, .cells 76 [.mp 8]), (5, .bx (fun f => f = [(r9, .deferred (some []))])), (6, .cells 4 [.v (.bool s.2.2)]), (8, .omap (Kn.int .i64) Vn.bool o7.1)] : SH)) (0, 0, false) ++ [(0, .rd Instr.E p0)]), 9⟩) (I_ [0, 1, 2, 3, 4, 7, 8, 9, 6]) ?_
    refine RF [29, 30] (Yn.two (Vn.int .i64) (Vn.ag Slot.E)) (fun (s : Int × Int × Bool) => [(1, .cells 22 [.sl 0]), (2, .cells 3 [.v (.int .i64 s.1)]), (3, .cells 46 [.v (.int .i64 s.2.1)]), (4, .cells 76 [.mp 8]), (5, .bx (fun f => f = [(r9, .deferred (some []))])), (6, .cells 4 [.v (.bool s.2.2)]), (8, .omap (Kn.int .i64) Vn.bool o7.1)]) [(0, .rd Instr.E p0)] 8 7 0 (fun (s : Int × Int × Bool) (y : Int × Slot) => fn20_r2 F p0 o7.1 s.1 s.2.1 s.2.2 y.1 y.2) (0, 0, false) o50.1 o50.2 Tryz.call88 (by rfl) (by rfl) (by rfl) (fun _ _ => rfl) (fun _ _ => trivial) (fun _ => by rfl) (fun yv J => c88 F (stepR (fun (s : Int × Int × Bool) (y : Int × Slot) => fn20_r2 F p0 o7.1 s.1 s.2.1 s.2.2 y.1 y.2)) goR p0 ((0, 0, false), 0) o50 ho51 yv J) ?_ ?_
    ·clear h ho51
     rintro l1 w1 R1 ρ1 pA pB QA QB ⟨x23, x24, x25⟩ ⟨y10, y11⟩ s1' m1' h hbg37 hend38
     replace h := (fn20_r2_s F p0 o7.1 x23 x24 x25 y10 y11).symm.trans h
     refine U_ tbOk 3 [] aN ?_
     refine hbg37 _ _ _ (by rfl) ?_
     refine U_ tbOk 4 [.cl true [] (fun _ => c40 y11 _ rfl)] (aK aN) ?_
     refine C_ h (fun h hb39 => ?_) fun h hb39 => ?_
     ·refine U_ tbOk 3 [] aN ?_
      cases Option.some.inj h
      exact hend38 _ (I_ [0, 1, 2, 3, 4, 5, 6, 7, 8, 9])
     ·refine U_ tbOk 4 [.cl true [] (fun _ => c41 y11 _ rfl)] (aK aN) ?_
      refine C_ h (fun h hb40 => ?_) fun h hb40 => ?_
      ·refine U_ tbOk 3 [] aN ?_
       cases Option.some.inj h
       exact hend38 _ (I_ [0, 1, 2, 3, 4, 5, 6, 7, 8, 9])
      ·obtain ⟨v41, hv42, h⟩ := bd h
       refine U_ tbOk 4 [.cl true [] (fun _ => c42 F y11 _ hv42)] (aK aN) ?_
       refine C_ h (fun h hb43 => ?_) fun h hb43 => ?_
       ·refine U_ tbOk 3 [] aN ?_
        cases Option.some.inj h
        exact hend38 _ (I_ [0, 1, 2, 3, 4, 5, 6, 7, 8, 9])
       ·refine U_ tbOk 4 [] aN ?_
        refine C_ h (fun h hb44 => ?_) fun h hb44 => ?_
        ·obtain ⟨v45, hv46, h⟩ := bd h
         refine U_ tbOk 6 [.cl true [0] (fun _ => c43 p0 y10 _ hv46)] (aK aN) ?_
         refine C_ h (fun h hb47 => ?_) fun h hb47 => ?_
         ·refine U_ tbOk 4 [] aN ?_
          cases Option.some.inj h
          exact hend38 _ (I_ [0, 1, 2, 3, 4, 5, 6, 7, 8, 9])
         ·refine U_ tbOk 15 [.cl true [] (fun _ => c44 y11 y10 _ rfl), .lo (Kn.int .i64) Vn.bool _ ((fn44 y11 y10).1) false Tryz.runUnderlying76 Tryz.runUnderlying3 Tryz.zeroValue4] (aK (aC trivial (aR (aR (aR aN))))) ?_
          refine C_ h (fun h hb48 => ?_) fun h hb48 => ?_
          ·refine U_ tbOk 3 [] aN ?_
           cases Option.some.inj h
           exact hend38 _ (I_ [0, 1, 2, 3, 4, 5, 6, 7, 8, 9])
          ·refine U_ tbOk 3 [.cl true [] (fun _ => c45 y11 _ rfl)] (aK aN) ?_
           cases Option.some.inj h
           exact hend38 _ (I_ [0, 1, 2, 3, 4, 5, 6, 7, 8, 9])
        ·refine U_ tbOk 15 [.cl true [] (fun _ => c44 y11 y10 _ rfl), .lo (Kn.int .i64) Vn.bool _ ((fn44 y11 y10).1) false Tryz.runUnderlying76 Tryz.runUnderlying3 Tryz.zeroValue4] (aK (aC trivial (aR (aR (aR aN))))) ?_
         refine C_ h (fun h hb49 => ?_) fun h hb49 => ?_
         ·refine U_ tbOk 3 [] aN ?_
          cases Option.some.inj h
          exact hend38 _ (I_ [0, 1, 2, 3, 4, 5, 6, 7, 8, 9])
         ·refine U_ tbOk 3 [.cl true [] (fun _ => c45 y11 _ rfl)] (aK aN) ?_
          cases Option.some.inj h
          exact hend38 _ (I_ [0, 1, 2, 3, 4, 5, 6, 7, 8, 9])
    ·intro r52
     refine CDS h (fun h hb55 => ?_) (fun h hb55 => ?_)
     ·rw [show o50.2 = 1 from Nat.eq_of_beq_eq_true hb55]
      replace h := (fn20_k2_0_s o50.1.1 o50.1.2.1 o50.1.2.2).symm.trans h
      refine U_ tbOk 0 [] aN ?_
      obtain rfl := sj h
      exact RTM tbOk.t [(9, r52), (5, r9)] rfl ⟨rfl, rfl, trivial⟩ Tryz.results20 [0] (by rfl) (by rfl) (by rfl) rfl rfl
     refine CDS h (fun h hb56 => ?_) (fun h hb56 => ?_)
     ·rw [show o50.2 = 0 from Nat.eq_of_beq_eq_true hb56]
      replace h := (fn20_k2_1_s p0 o50.1.1 o50.1.2.1 o50.1.2.2).symm.trans h
      refine U_ tbOk 2 [] aN ?_
      refine C_ h (fun h hb54 => ?_) fun h hb54 => ?_
      ·refine U_ tbOk 5 [] aN ?_
       obtain rfl := sj h
       exact RTM tbOk.t [(9, r52), (5, r9)] rfl ⟨rfl, rfl, trivial⟩ Tryz.results20 [0] (by rfl) (by rfl) (by rfl) rfl rfl
      ·refine U_ tbOk 2 [] aN ?_
       obtain rfl := sj h
       exact RTM tbOk.t [(9, r52), (5, r9)] rfl ⟨rfl, rfl, trivial⟩ Tryz.results20 [0] (by rfl) (by rfl) (by rfl) rfl rfl
     cases h
   cases h
def fn98 (p0 : Int) : Bool :=
 p0 != p0
theorem c98 (p0 : Int) (r : Bool) (h : fn98 p0 = r) : Con Tryz.prog 98 [.v (.int .i64 p0)] [] 0 (.v (.bool r)) [] 0 := by
 rw [fn98] at h
 refine Con.of_body Tryz.func98 rfl Tryz.ntmps98 rfl fun w F0 ρ => ?_
 refine U_ tbOk 5 [] aN ?_
 subst h
 exact T_ tbOk.t Tryz.results98 []
def fn51 (p0 : Int) (p1 : Int) : Int :=
 bif (fn98 p0) then (bif (fn98 p1) then 0 else (-1)) else (bif (fn98 p1) then 1 else (bif decide (p0 < p1) then (-1) else (bif decide (p1 < p0) then 1 else 0)))
theorem c51 (p0 : Int) (p1 : Int) (r : Int) (h : fn51 p0 p1 = r) : Con Tryz.prog 51 [.v (.int .i64 p0), .v (.int .i64 p1)] [] 0 (.v (.int .i64 r)) [] 0 := by
 rw [fn51] at h
 refine Con.of_body Tryz.func51 rfl Tryz.ntmps51 rfl fun w F0 ρ => ?_
 refine U_ tbOk 8 [.cl true [] (fun _ => c98 p0 _ rfl), .cl true [] (fun _ => c98 p1 _ rfl)] (aK (aK aN)) ?_
 refine C_ h (fun h hb1 => ?_) fun h hb1 => ?_
 ·refine U_ tbOk 1 [] aN ?_
  refine C_ h (fun h hb2 => ?_) fun h hb2 => ?_
  ·refine U_ tbOk 1 [] aN ?_
   subst h
   exact T_ tbOk.t Tryz.results51 []
  ·refine U_ tbOk 1 [] aN ?_
   subst h
   exact T_ tbOk.t Tryz.results51 []
 ·refine U_ tbOk 1 [] aN ?_
  refine C_ h (fun h hb3 => ?_) fun h hb3 => ?_
  ·refine U_ tbOk 1 [] aN ?_
   subst h
   exact T_ tbOk.t Tryz.results51 []
  ·refine U_ tbOk 3 [] aN ?_
   refine C_ h (fun h hb4 => ?_) fun h hb4 => ?_
   ·refine U_ tbOk 1 [] aN ?_
    subst h
    exact T_ tbOk.t Tryz.results51 []
   ·refine U_ tbOk 3 [] aN ?_
    refine C_ h (fun h hb5 => ?_) fun h hb5 => ?_
    ·refine U_ tbOk 1 [] aN ?_
     subst h
     exact T_ tbOk.t Tryz.results51 []
    ·refine U_ tbOk 1 [] aN ?_
     subst h
     exact T_ tbOk.t Tryz.results51 []
def fn50 (p0 : Need) (p1 : Need) : Int :=
 (fn51 p0.fHelper p1.fHelper)
theorem c50 (p0 : Need) (p1 : Need) (r : Int) (h : fn50 p0 p1 = r) : Con Tryz.prog 50 [.ag [.v (.int .i64 p0.fHelper), .v (.int .i64 p0.fMajor), .v (.int .i64 p0.fMinor)], .ag [.v (.int .i64 p1.fHelper), .v (.int .i64 p1.fMajor), .v (.int .i64 p1.fMinor)]] [] 0 (.v (.int .i64 r)) [] 0 := by
 rw [fn50] at h
 refine Con.of_body Tryz.func50 rfl Tryz.ntmps50 rfl fun w F0 ρ => ?_
 refine U_ tbOk 9 [.cl true [] (fun _ => c51 p0.fHelper p1.fHelper _ rfl)] (aK aN) ?_
 subst h
 exact T_ tbOk.t Tryz.results50 []
def fn49_l1 (p0 : List Need) : Nat → Int → Option ((Unit) ⊕ (Bool))
 | 0, _ => none
 | n12 + 1, x5 => bif decide (x5 < (p0.length : Int)) then (bif bif decide ((0 : Int) < x5) then (inb (IntKind.i64.wrap (x5 - 1)) p0.length) else true then (bif bif decide ((0 : Int) < x5) then (inb x5 p0.length) else true then (bif (decide ((0 : Int) < x5)) && (decide ((0 : Int) ≤ (fn50 (gt p0 (IntKind.i64.wrap (x5 - 1))) (gt p0 x5)))) then (some (.inr false)) else ((fn49_l1 p0 n12) (IntKind.i64.wrap (x5 + 1)))) else none) else none) else (some (.inl ()))
theorem fn49_l1_s (p0 : List Need) (n12 : Nat) (x5 : Int) : fn49_l1 p0 (n12 + 1) x5 = bif decide (x5 < (p0.length : Int)) then (bif bif decide ((0 : Int) < x5) then (inb (IntKind.i64.wrap (x5 - 1)) p0.length) else true then (bif bif decide ((0 : Int) < x5) then (inb x5 p0.length) else true then (bif (decide ((0 : Int) < x5)) && (decide ((0 : Int) ≤ (fn50 (gt p0 (IntKind.i64.wrap (x5 - 1))) (gt p0 x5)))) then (some (.inr false)) else ((fn49_l1 p0 n12) (IntKind.i64.wrap (x5 + 1)))) else none) else none) else (some (.inl ())) := rfl
def fn49_k1 : Option (Bool) :=
 some true
theorem fn49_k1_s : fn49_k1 = some true := rfl
def fn49 (F : Nat) (p0 : List Need) : Option (Bool) :=
 Option.bind (fn49_l1 p0 F 0) fun o10 => (match o10 with | .inl u => fn49_k1 | .inr u => some u)
theorem c49 (F : Nat) (p0 : List Need) (r : Bool) (h : fn49 F p0 = some r) : Con Tryz.prog 49 [.sl 0, .fn (.func 50) [] []] [(0, .rd Need.E p0)] 1 (.v (.bool r)) [] 1 := by
 rw [fn49] at h
 refine Con.of_body Tryz.func49 rfl Tryz.ntmps49 rfl fun w F0 ρ => ?_
 refine U_ tbOk 4 [] aN ?_
 obtain ⟨o10, hl11, h⟩ := bd h
 refine CTS 0 (fun u => ⟨[], [(0, .rd Need.E p0)], 1⟩) o10 ?_ (fun u hu => ?_)
 ·have h014 := h
  clear h
  refine G4.imp (I_ [0]) (LP (fun (n : Nat) (s : Int) => fn49_l1 p0 n s) (fun (s : Int) => ⟨[(0, .sl 0), (1, .fn (.func 50) [] []), (7, .v (.int .i64 (p0.length : Int))), (8, .v (.int .i64 s))], [(0, .rd Need.E p0)], 1⟩) (fun _ => rfl) (s0 := 0) hl11 ?_)
  clear hl11
  rintro R15 n12 x5 h ih13
  replace h := (fn49_l1_s p0 n12 x5).symm.trans h
  refine U_ tbOk 1 [] aN ?_
  refine C_ h (fun h hb16 => ?_) fun h hb16 => ?_
  ·refine U_ tbOk 2 [] aN ?_
   obtain ⟨hk17, h⟩ := ck h
   obtain ⟨hk18, h⟩ := ck h
   refine DR tbOk hmix [26] [([], []), ([], []), ([], []), ([], []), ([], []), ([], []), ([], []), ([0], []), ([0], []), ([], []), ([], []), ([0], []), ([0], []), ([], []), ([], []), ([], [])] [.cl (bif decide ((0 : Int) < x5) then true else false) [] (fun _ => c50 (gt p0 (IntKind.i64.wrap (x5 - 1))) (gt p0 x5) _ rfl)] (aC hk17 (aC hk18 (aR (aR (aK aN))))) (by rfl) ?_
   refine U_ tbOk 0 [] aN ?_
   refine C_ h (fun h hb19 => ?_) fun h hb19 => ?_
   ·refine U_ tbOk 1 [] aN ?_
    obtain rfl := sj h
    replace h := h014
    refine U_ tbOk 0 [] aN ?_
    obtain rfl := sj h
    exact T_ tbOk.t Tryz.results49 [0]
   ·refine U_ tbOk 2 [] aN ?_
    exact ih13 (IntKind.i64.wrap (x5 + 1)) h _ _ (I_ [0])
  ·refine U_ tbOk 0 [] aN ?_
   obtain rfl := sj h
   exact CES _ rfl (I_ [0])
 ·subst hu
  replace h := (fn49_k1_s).symm.trans h
  refine U_ tbOk 1 [] aN ?_
  obtain rfl := sj h
  exact T_ tbOk.t Tryz.results49 [0]
def fn57 (p0 : S_kinds_bound_int_) (p1 : Int) : Bool :=
 (decide (p0.flo ≤ p1)) && (decide (p1 ≤ p0.fhi))
theorem c57 (p0 : S_kinds_bound_int_) (p1 : Int) (r : Bool) (h : fn57 p0 p1 = r) : Con Tryz.prog 57 [.ag [.v (.int .i64 p0.flo), .v (.int .i64 p0.fhi)], .v (.int .i64 p1)] [] 0 (.v (.bool r)) [] 0 := by
 rw [fn57] at h
 refine Con.of_body Tryz.func57 rfl Tryz.ntmps57 rfl fun w F0 ρ => ?_
 refine U_ tbOk 13 [] aN ?_
 subst h
 exact T_ tbOk.t Tryz.results57 []
def fn54 (p0 : Int) : Bool :=
 (fn57 (⟨1, 1073741824⟩ : S_kinds_bound_int_) p0)
theorem c54 (p0 : Int) (r : Bool) (h : fn54 p0 = r) : Con Tryz.prog 54 [.v (.int .i64 p0)] [] 0 (.v (.bool r)) [] 0 := by
 rw [fn54] at h
 refine Con.of_body Tryz.func54 rfl Tryz.ntmps54 rfl fun w F0 ρ => ?_
 refine U_ tbOk 5 [.cl true [] (fun _ => c57 (⟨1, 1073741824⟩ : S_kinds_bound_int_) p0 _ rfl)] (aK aN) ?_
 subst h
 exact T_ tbOk.t Tryz.results54 []
def fn55 (p0 : Int) (p1 : Int) : Bool :=
 (fn57 (⟨0, 65535⟩ : S_kinds_bound_int_) p0) && (fn57 (⟨0, 65535⟩ : S_kinds_bound_int_) p1)
theorem c55 (p0 : Int) (p1 : Int) (r : Bool) (h : fn55 p0 p1 = r) : Con Tryz.prog 55 [.v (.int .i64 p0), .v (.int .i64 p1)] [] 0 (.v (.bool r)) [] 0 := by
 rw [fn55] at h
 refine Con.of_body Tryz.func55 rfl Tryz.ntmps55 rfl fun w F0 ρ => ?_
 refine U_ tbOk 13 [.cl true [] (fun _ => c57 (⟨0, 65535⟩ : S_kinds_bound_int_) p0 _ rfl), .cl (bif (fn57 (⟨0, 65535⟩ : S_kinds_bound_int_) p0) then true else false) [] (fun _ => c57 (⟨0, 65535⟩ : S_kinds_bound_int_) p1 _ rfl)] (aK (aR (aR (aK aN)))) ?_
 subst h
 exact T_ tbOk.t Tryz.results55 []
def fn53 (p0 : Need) : Bool :=
 (!(fn54 p0.fHelper)) || (!(fn55 p0.fMajor p0.fMinor))
theorem c53 (p0 : Need) (r : Bool) (h : fn53 p0 = r) : Con Tryz.prog 53 [.ag [.v (.int .i64 p0.fHelper), .v (.int .i64 p0.fMajor), .v (.int .i64 p0.fMinor)]] [] 0 (.v (.bool r)) [] 0 := by
 rw [fn53] at h
 refine Con.of_body Tryz.func53 rfl Tryz.ntmps53 rfl fun w F0 ρ => ?_
 refine U_ tbOk 15 [.cl true [] (fun _ => c54 p0.fHelper _ rfl), .cl (bif !(fn54 p0.fHelper) then false else true) [] (fun _ => c55 p0.fMajor p0.fMinor _ rfl)] (aK (aR (aR (aK aN)))) ?_
 subst h
 exact T_ tbOk.t Tryz.results53 []
def fn99_l1 (p0 : List Need) : Nat → Int → Option ((Unit) ⊕ (Int))
 | 0, _ => none
 | n10 + 1, x4 => bif decide (x4 < (p0.length : Int)) then (bif inb x4 p0.length then (bif (fn53 (gt p0 x4)) then (some (.inr x4)) else ((fn99_l1 p0 n10) (IntKind.i64.wrap (x4 + 1)))) else none) else (some (.inl ()))
theorem fn99_l1_s (p0 : List Need) (n10 : Nat) (x4 : Int) : fn99_l1 p0 (n10 + 1) x4 = bif decide (x4 < (p0.length : Int)) then (bif inb x4 p0.length then (bif (fn53 (gt p0 x4)) then (some (.inr x4)) else ((fn99_l1 p0 n10) (IntKind.i64.wrap (x4 + 1)))) else none) else (some (.inl ())) := rfl
def fn99_k1 : Option (Int) :=
 some (-1)
theorem fn99_k1_s : fn99_k1 = some (-1) := rfl
def fn99 (F : Nat) (p0 : List Need) : Option (Int) :=
 Option.bind (fn99_l1 p0 F 0) fun o8 => (match o8 with | .inl u => fn99_k1 | .inr u => some u)
theorem c99 (F : Nat) (p0 : List Need) (r : Int) (h : fn99 F p0 = some r) : Con Tryz.prog 99 [.sl 0, .fn (.func 53) [] []] [(0, .rd Need.E p0)] 1 (.v (.int .i64 r)) [] 1 := by
 rw [fn99] at h
 refine Con.of_body Tryz.func99 rfl Tryz.ntmps99 rfl fun w F0 ρ => ?_
 refine U_ tbOk 4 [] aN ?_
 obtain ⟨o8, hl9, h⟩ := bd h
 refine CTS 0 (fun u => ⟨[], [(0, .rd Need.E p0)], 1⟩) o8 ?_ (fun u hu => ?_)
 ·have h012 := h
  clear h
  refine G4.imp (I_ [0]) (LP (fun (n : Nat) (s : Int) => fn99_l1 p0 n s) (fun (s : Int) => ⟨[(0, .sl 0), (1, .fn (.func 53) [] []), (7, .v (.int .i64 (p0.length : Int))), (8, .v (.int .i64 s))], [(0, .rd Need.E p0)], 1⟩) (fun _ => rfl) (s0 := 0) hl9 ?_)
  clear hl9
  rintro R13 n10 x4 h ih11
  replace h := (fn99_l1_s p0 n10 x4).symm.trans h
  refine U_ tbOk 1 [] aN ?_
  refine C_ h (fun h hb14 => ?_) fun h hb14 => ?_
  ·obtain ⟨hk15, h⟩ := ck h
   refine U_ tbOk 8 [.cl true [] (fun _ => c53 (gt p0 x4) _ rfl)] (aC hk15 (aK aN)) ?_
   refine C_ h (fun h hb16 => ?_) fun h hb16 => ?_
   ·refine U_ tbOk 2 [] aN ?_
    obtain rfl := sj h
    replace h := h012
    refine U_ tbOk 0 [] aN ?_
    obtain rfl := sj h
    exact T_ tbOk.t Tryz.results99 [0]
   ·refine U_ tbOk 2 [] aN ?_
    exact ih11 (IntKind.i64.wrap (x4 + 1)) h _ _ (I_ [0])
  ·refine U_ tbOk 0 [] aN ?_
   obtain rfl := sj h
   exact CES _ rfl (I_ [0])
 ·subst hu
  replace h := (fn99_k1_s).symm.trans h
  refine U_ tbOk 1 [] aN ?_
  obtain rfl := sj h
  exact T_ tbOk.t Tryz.results99 [0]
def fn52 (F : Nat) (p0 : List Need) : Option (Bool) :=
 Option.bind (fn99 F p0) fun v1 => (some (decide ((0 : Int) ≤ v1)))
theorem c52 (F : Nat) (p0 : List Need) (r : Bool) (h : fn52 F p0 = some r) : Con Tryz.prog 52 [.sl 0, .fn (.func 53) [] []] [(0, .rd Need.E p0)] 1 (.v (.bool r)) [] 1 := by
 rw [fn52] at h
 refine Con.of_body Tryz.func52 rfl Tryz.ntmps52 rfl fun w F0 ρ => ?_
 obtain ⟨v1, hv2, h⟩ := bd h
 refine U_ tbOk 6 [.cl true [0] (fun _ => c99 F p0 _ hv2)] (aK aN) ?_
 obtain rfl := sj h
 exact T_ tbOk.t Tryz.results52 [0]
def fn100 (p0 : Int) : Bool :=
 ((((decide ((97 : Int) ≤ p0)) && (decide (p0 ≤ 122))) || ((decide ((48 : Int) ≤ p0)) && (decide (p0 ≤ 57)))) || (p0 == 95)) || (p0 == 46)
theorem c100 (p0 : Int) (r : Bool) (h : fn100 p0 = r) : Con Tryz.prog 100 [.v (.int .u8 p0)] [] 0 (.v (.bool r)) [] 0 := by
 rw [fn100] at h
 refine Con.of_body Tryz.func100 rfl Tryz.ntmps100 rfl fun w F0 ρ => ?_
 refine U_ tbOk 24 [] aN ?_
 subst h
 exact T_ tbOk.t Tryz.results100 []
def fn56_l1 (p0 : ByteArray) : Nat → Int → Option ((Unit) ⊕ (Bool))
 | 0, _ => none
 | n10 + 1, x4 => bif decide (x4 < (p0.size : Int)) then (bif inb x4 p0.size then (bif !(fn100 (bget p0 x4)) then (some (.inr false)) else ((fn56_l1 p0 n10) (IntKind.i64.wrap (x4 + 1)))) else none) else (some (.inl ()))
theorem fn56_l1_s (p0 : ByteArray) (n10 : Nat) (x4 : Int) : fn56_l1 p0 (n10 + 1) x4 = bif decide (x4 < (p0.size : Int)) then (bif inb x4 p0.size then (bif !(fn100 (bget p0 x4)) then (some (.inr false)) else ((fn56_l1 p0 n10) (IntKind.i64.wrap (x4 + 1)))) else none) else (some (.inl ())) := rfl
def fn56_k1 (p0 : ByteArray) : Option (Bool) :=
 some ((decide ((1 : Int) ≤ (p0.size : Int))) && (decide ((p0.size : Int) ≤ 24)))
theorem fn56_k1_s (p0 : ByteArray) : fn56_k1 p0 = some ((decide ((1 : Int) ≤ (p0.size : Int))) && (decide ((p0.size : Int) ≤ 24))) := rfl
def fn56 (F : Nat) (p0 : ByteArray) : Option (Bool) :=
 Option.bind (fn56_l1 p0 F 0) fun o8 => (match o8 with | .inl u => fn56_k1 p0 | .inr u => some u)
theorem c56 (F : Nat) (p0 : ByteArray) (r : Bool) (h : fn56 F p0 = some r) : Con Tryz.prog 56 [.v (.string p0)] [] 0 (.v (.bool r)) [] 0 := by
 rw [fn56] at h
 refine Con.of_body Tryz.func56 rfl Tryz.ntmps56 rfl fun w F0 ρ => ?_
 refine U_ tbOk 5 [] aN ?_
 obtain ⟨o8, hl9, h⟩ := bd h
 refine CTS 0 (fun u => ⟨[(0, .v (.string p0))], [], 0⟩) o8 ?_ (fun u hu => ?_)
 ·have h012 := h
  clear h
  refine G4.imp (I_ []) (LP (fun (n : Nat) (s : Int) => fn56_l1 p0 n s) (fun (s : Int) => ⟨[(0, .v (.string p0)), (3, .fn (.func 100) [] []), (6, .v (.int .i64 (p0.size : Int))), (7, .v (.int .i64 s))], [], 0⟩) (fun _ => rfl) (s0 := 0) hl9 ?_)
  clear hl9
  rintro R13 n10 x4 h ih11
  replace h := (fn56_l1_s p0 n10 x4).symm.trans h
  refine U_ tbOk 1 [] aN ?_
  refine C_ h (fun h hb14 => ?_) fun h hb14 => ?_
  ·obtain ⟨hk15, h⟩ := ck h
   refine U_ tbOk 8 [.cl true [] (fun _ => c100 (bget p0 x4) _ rfl)] (aC hk15 (aK aN)) ?_
   refine C_ h (fun h hb16 => ?_) fun h hb16 => ?_
   ·refine U_ tbOk 1 [] aN ?_
    obtain rfl := sj h
    replace h := h012
    refine U_ tbOk 0 [] aN ?_
    obtain rfl := sj h
    exact T_ tbOk.t Tryz.results56 []
   ·refine U_ tbOk 2 [] aN ?_
    exact ih11 (IntKind.i64.wrap (x4 + 1)) h _ _ (I_ [])
  ·refine U_ tbOk 0 [] aN ?_
   obtain rfl := sj h
   exact CES _ rfl (I_ [])
 ·subst hu
  replace h := (fn56_k1_s p0).symm.trans h
  refine U_ tbOk 9 [] aN ?_
  obtain rfl := sj h
  exact T_ tbOk.t Tryz.results56 []
def fn101 (p0 : List Fld) : Unit :=
 ()
theorem c101 (p0 : List Fld) (r : Unit) (h : fn101 p0 = r) : Con Tryz.prog 101 [.sl 0] [(0, .rd Fld.E p0)] 1 (.fn (.func 127) [] [.p 1 0]) [(1, .cells 23 [.sl 0])] 2 := by
 rw [fn101] at h
 refine Con.of_body Tryz.func101 rfl Tryz.ntmps101 rfl fun w F0 ρ => ?_
 refine U_ tbOk 4 [] aN ?_
 subst h
 exact T_ tbOk.t Tryz.results101 [0, 1]
def fn127_l1 {σ : Type} (step : σ → (Int × Fld) → Option σ) (go : σ → Bool) (p1 : List Fld) : Nat → σ → Int → Option ((σ) ⊕ (σ))
 | 0, _, _ => none
 | n18 + 1, xs7, x8 => bif decide (x8 < (p1.length : Int)) then (bif inb x8 p1.length then (bif sliceOk ((0 : Nat) : Int) x8 p1.length then (Option.bind (step xs7 (x8, (gt p1 x8))) fun u25 => (bif !(go u25) then (some (.inr u25)) else ((fn127_l1 step go p1 n18) u25 (IntKind.i64.wrap (x8 + 1))))) else none) else none) else (some (.inl xs7))
theorem fn127_l1_s {σ : Type} (step : σ → (Int × Fld) → Option σ) (go : σ → Bool) (p1 : List Fld) (n18 : Nat) (xs7 : σ) (x8 : Int) : fn127_l1 step go p1 (n18 + 1) xs7 x8 = bif decide (x8 < (p1.length : Int)) then (bif inb x8 p1.length then (bif sliceOk ((0 : Nat) : Int) x8 p1.length then (Option.bind (step xs7 (x8, (gt p1 x8))) fun u25 => (bif !(go u25) then (some (.inr u25)) else ((fn127_l1 step go p1 n18) u25 (IntKind.i64.wrap (x8 + 1))))) else none) else none) else (some (.inl xs7)) := rfl
def fn127_k1 {σ : Type} (xs15 : σ) : Option (σ) :=
 some xs15
theorem fn127_k1_s {σ : Type} (xs15 : σ) : fn127_k1 xs15 = some xs15 := rfl
def fn127 {σ : Type} (F : Nat) (step : σ → (Int × Fld) → Option σ) (go : σ → Bool) (p1 : List Fld) (s0 : σ) : Option σ :=
 Option.bind (fn127_l1 step go p1 F s0 0) fun o16 => (match o16 with | .inl u => fn127_k1 u | .inr u => some u)
theorem c127 {σ : Type} (F : Nat) (step : σ → (Int × Fld) → Option σ) (go : σ → Bool) (p1 : List Fld) (s0 : σ) (r : σ) (h : fn127 F step go p1 s0 = some r) (yv : Value) (J : σ → Blocks → Prop) : ConY Tryz.prog 127 [.v yv, .p 0 0] [(0, .cells 23 [.sl 1]), (1, .rd Fld.E p1), (2, .bx (J s0))] 3 (.tu []) [(0, .cells 23 [.sl 1]), (2, .bx (J r))] 3 (fun w R ρ => YldY Tryz.prog w R ρ 1 yv J (Yn.cut 4 p1.length (Vn.ag Fld.E)) step go) := by
 rw [fn127] at h
 refine ConY.of_body Tryz.func127 rfl Tryz.ntmps127 rfl fun w F0 ρ hy => ?_
 refine U_ tbOk 3 [] aN ?_
 obtain ⟨o16, hl17, h⟩ := bd h
 refine CTS 0 (fun u => ⟨[], [(0, .cells 23 [.sl 1]), (1, .rd Fld.E p1), (2, .bx (J u))], 3⟩) o16 ?_ (fun u hu => ?_)
 ·have h020 := h
  clear h
  refine G4.imp (I_ [0, 1, 2]) (LP (fun (n : Nat) (s : σ × Int) => fn127_l1 step go p1 n s.1 s.2) (fun (s : σ × Int) => ⟨[(0, .v yv), (1, .p 0 0), (5, .sl 1), (6, .v (.int .i64 (p1.length : Int))), (7, .v (.int .i64 s.2))], [(0, .cells 23 [.sl 1]), (1, .rd Fld.E p1), (2, .bx (J s.1))], 3⟩) (fun _ => rfl) (s0 := (s0, 0)) hl17 ?_)
  clear hl17
  rintro R21 n18 ⟨xs7, x8⟩ h ih19
  replace h := (fn127_l1_s step go p1 n18 xs7 x8).symm.trans h
  refine U_ tbOk 1 [] aN ?_
  refine C_ h (fun h hb22 => ?_) fun h hb22 => ?_
  ·obtain ⟨hk23, h⟩ := ck h
   refine U_ tbOk 6 [] (aC hk23 aN) ?_
   obtain ⟨hk24, h⟩ := ck h
   obtain ⟨u25, hu26, h⟩ := bd h
   refine DR tbOk hmix [18] [([], []), ([0], []), ([], []), ([1], []), ([3], []), ([1, 2], [2]), ([], [])] [.sc, .yd 2 (x8, (gt p1 x8)) hy rfl hu26] (aR (aR (aC hk24 (aR (aR (aR (aC (ssEq hk24 rfl) (aR aN)))))))) (by rfl) ?_
   refine U_ tbOk 0 [] aN ?_
   refine C_ h (fun h hb27 => ?_) fun h hb27 => ?_
   ·refine U_ tbOk 0 [] aN ?_
    obtain rfl := sj h
    replace h := h020
    refine U_ tbOk 0 [] aN ?_
    obtain rfl := sj h
    exact T_ tbOk.t Tryz.results127 [0, 1, 2]
   ·refine U_ tbOk 2 [] aN ?_
    exact ih19 (u25, IntKind.i64.wrap (x8 + 1)) h _ _ (I_ [0, 1, 2])
  ·refine U_ tbOk 0 [] aN ?_
   obtain rfl := sj h
   exact CES _ rfl (I_ [0, 1, 2])
 ·subst hu
  replace h := (fn127_k1_s u).symm.trans h
  refine U_ tbOk 0 [] aN ?_
  obtain rfl := sj h
  exact TN_ tbOk.t Tryz.results127 [0, 1, 2]
def fn128_l1 (p0 : List Int) (p1 : Int) : Nat → Int → Option ((Unit) ⊕ (Int))
 | 0, _ => none
 | n10 + 1, x4 => bif decide (x4 < (p0.length : Int)) then (bif inb x4 p0.length then (bif p1 == (gt p0 x4) then (some (.inr x4)) else ((fn128_l1 p0 p1 n10) (IntKind.i64.wrap (x4 + 1)))) else none) else (some (.inl ()))
theorem fn128_l1_s (p0 : List Int) (p1 : Int) (n10 : Nat) (x4 : Int) : fn128_l1 p0 p1 (n10 + 1) x4 = bif decide (x4 < (p0.length : Int)) then (bif inb x4 p0.length then (bif p1 == (gt p0 x4) then (some (.inr x4)) else ((fn128_l1 p0 p1 n10) (IntKind.i64.wrap (x4 + 1)))) else none) else (some (.inl ())) := rfl
def fn128_k1 : Option (Int) :=
 some (-1)
theorem fn128_k1_s : fn128_k1 = some (-1) := rfl
def fn128 (F : Nat) (p0 : List Int) (p1 : Int) : Option (Int) :=
 Option.bind (fn128_l1 p0 p1 F 0) fun o8 => (match o8 with | .inl u => fn128_k1 | .inr u => some u)
theorem c128 (F : Nat) (p0 : List Int) (p1 : Int) (r : Int) (h : fn128 F p0 p1 = some r) : Con Tryz.prog 128 [.sl 0, .v (.int .i64 p1)] [(0, .rd (Et.int .i64) p0)] 1 (.v (.int .i64 r)) [] 1 := by
 rw [fn128] at h
 refine Con.of_body Tryz.func128 rfl Tryz.ntmps128 rfl fun w F0 ρ => ?_
 refine U_ tbOk 4 [] aN ?_
 obtain ⟨o8, hl9, h⟩ := bd h
 refine CTS 0 (fun u => ⟨[], [(0, .rd (Et.int .i64) p0)], 1⟩) o8 ?_ (fun u hu => ?_)
 ·have h012 := h
  clear h
  refine G4.imp (I_ [0]) (LP (fun (n : Nat) (s : Int) => fn128_l1 p0 p1 n s) (fun (s : Int) => ⟨[(0, .sl 0), (1, .v (.int .i64 p1)), (7, .v (.int .i64 (p0.length : Int))), (8, .v (.int .i64 s))], [(0, .rd (Et.int .i64) p0)], 1⟩) (fun _ => rfl) (s0 := 0) hl9 ?_)
  clear hl9
  rintro R13 n10 x4 h ih11
  replace h := (fn128_l1_s p0 p1 n10 x4).symm.trans h
  refine U_ tbOk 1 [] aN ?_
  refine C_ h (fun h hb14 => ?_) fun h hb14 => ?_
  ·obtain ⟨hk15, h⟩ := ck h
   refine U_ tbOk 8 [] (aC hk15 aN) ?_
   refine C_ h (fun h hb16 => ?_) fun h hb16 => ?_
   ·refine U_ tbOk 2 [] aN ?_
    obtain rfl := sj h
    replace h := h012
    refine U_ tbOk 0 [] aN ?_
    obtain rfl := sj h
    exact T_ tbOk.t Tryz.results128 [0]
   ·refine U_ tbOk 2 [] aN ?_
    exact ih11 (IntKind.i64.wrap (x4 + 1)) h _ _ (I_ [0])
  ·refine U_ tbOk 0 [] aN ?_
   obtain rfl := sj h
   exact CES _ rfl (I_ [0])
 ·subst hu
  replace h := (fn128_k1_s).symm.trans h
  refine U_ tbOk 1 [] aN ?_
  obtain rfl := sj h
  exact T_ tbOk.t Tryz.results128 [0]
def fn102 (F : Nat) (p0 : List Int) (p1 : Int) : Option (Bool) :=
 Option.bind (fn128 F p0 p1) fun v1 => (some (decide ((0 : Int) ≤ v1)))
theorem c102 (F : Nat) (p0 : List Int) (p1 : Int) (r : Bool) (h : fn102 F p0 p1 = some r) : Con Tryz.prog 102 [.sl 0, .v (.int .i64 p1)] [(0, .rd (Et.int .i64) p0)] 1 (.v (.bool r)) [] 1 := by
 rw [fn102] at h
 refine Con.of_body Tryz.func102 rfl Tryz.ntmps102 rfl fun w F0 ρ => ?_
 obtain ⟨v1, hv2, h⟩ := bd h
 refine U_ tbOk 6 [.cl true [0] (fun _ => c128 F p0 p1 _ hv2)] (aK aN) ?_
 obtain rfl := sj h
 exact T_ tbOk.t Tryz.results102 [0]
def fn58_r1 (F : Nat) (p0 : PType) (x27 : Ar Int 4) (y1 : Int) (y2 : Fld) : Option (((Ar Int 4)) × Nat) :=
 bif decide ((0 : Int) ≤ (IntKind.i64.wrap (((cutX p0.fFields 0 (0 + min y1.toNat p0.fFields.length)).length : Int) - 1))) then (bif inb (IntKind.i64.wrap (((cutX p0.fFields 0 (0 + min y1.toNat p0.fFields.length)).length : Int) - 1)) (min y1.toNat p0.fFields.length) then (Option.bind (fn102 F ([1, 2, 4, 8] : List Int) y2.fSize) fun v56 => (bif !v56 then (some (x27, 1)) else (bif decide (y2.fOff < (IntKind.i64.wrap (((gt (cutX p0.fFields 0 (0 + min y1.toNat p0.fFields.length)) (IntKind.i64.wrap (((cutX p0.fFields 0 (0 + min y1.toNat p0.fFields.length)).length : Int) - 1))).fOff) + ((gt (cutX p0.fFields 0 (0 + min y1.toNat p0.fFields.length)) (IntKind.i64.wrap (((cutX p0.fFields 0 (0 + min y1.toNat p0.fFields.length)).length : Int) - 1))).fSize)))) then (some (x27, 1)) else (bif decide ((IntKind.i64.wrap (p0.fCtx - y2.fSize)) < y2.fOff) then (some (x27, 1)) else (bif y2.fSize != 0 then (bif (y2.fOff.tmod y2.fSize) != 0 then (some (x27, 1)) else (bif decide (y2.fKind < 1) then (some (x27, 1)) else (bif decide ((3 : Int) < y2.fKind) then (some (x27, 1)) else (bif ((y2.fKind == 2) || (y2.fKind == 3)) && ((y2.fSize != 8) || y2.fWrite) then (some (x27, 1)) else (bif inb y2.fKind 4 then (some (x27.set y2.fKind (IntKind.i64.wrap ((gt x27.l y2.fKind) + 1)), 0)) else none))))) else none))))) else none) else (Option.bind (fn102 F ([1, 2, 4, 8] : List Int) y2.fSize) fun v67 => (bif !v67 then (some (x27, 1)) else (bif decide (y2.fOff < 0) then (some (x27, 1)) else (bif decide ((IntKind.i64.wrap (p0.fCtx - y2.fSize)) < y2.fOff) then (some (x27, 1)) else (bif y2.fSize != 0 then (bif (y2.fOff.tmod y2.fSize) != 0 then (some (x27, 1)) else (bif decide (y2.fKind < 1) then (some (x27, 1)) else (bif decide ((3 : Int) < y2.fKind) then (some (x27, 1)) else (bif ((y2.fKind == 2) || (y2.fKind == 3)) && ((y2.fSize != 8) || y2.fWrite) then (some (x27, 1)) else (bif inb y2.fKind 4 then (some (x27.set y2.fKind (IntKind.i64.wrap ((gt x27.l y2.fKind) + 1)), 0)) else none))))) else none)))))
theorem fn58_r1_s (F : Nat) (p0 : PType) (x27 : Ar Int 4) (y1 : Int) (y2 : Fld) : fn58_r1 F p0 x27 y1 y2 = bif decide ((0 : Int) ≤ (IntKind.i64.wrap (((cutX p0.fFields 0 (0 + min y1.toNat p0.fFields.length)).length : Int) - 1))) then (bif inb (IntKind.i64.wrap (((cutX p0.fFields 0 (0 + min y1.toNat p0.fFields.length)).length : Int) - 1)) (min y1.toNat p0.fFields.length) then (Option.bind (fn102 F ([1, 2, 4, 8] : List Int) y2.fSize) fun v56 => (bif !v56 then (some (x27, 1)) else (bif decide (y2.fOff < (IntKind.i64.wrap (((gt (cutX p0.fFields 0 (0 + min y1.toNat p0.fFields.length)) (IntKind.i64.wrap (((cutX p0.fFields 0 (0 + min y1.toNat p0.fFields.length)).length : Int) - 1))).fOff) + ((gt (cutX p0.fFields 0 (0 + min y1.toNat p0.fFields.length)) (IntKind.i64.wrap (((cutX p0.fFields 0 (0 + min y1.toNat p0.fFields.length)).length : Int) - 1))).fSize)))) then (some (x27, 1)) else (bif decide ((IntKind.i64.wrap (p0.fCtx - y2.fSize)) < y2.fOff) then (some (x27, 1)) else (bif y2.fSize != 0 then (bif (y2.fOff.tmod y2.fSize) != 0 then (some (x27, 1)) else (bif decide (y2.fKind < 1) then (some (x27, 1)) else (bif decide ((3 : Int) < y2.fKind) then (some (x27, 1)) else (bif ((y2.fKind == 2) || (y2.fKind == 3)) && ((y2.fSize != 8) || y2.fWrite) then (some (x27, 1)) else (bif inb y2.fKind 4 then (some (x27.set y2.fKind (IntKind.i64.wrap ((gt x27.l y2.fKind) + 1)), 0)) else none))))) else none))))) else none) else (Option.bind (fn102 F ([1, 2, 4, 8] : List Int) y2.fSize) fun v67 => (bif !v67 then (some (x27, 1)) else (bif decide (y2.fOff < 0) then (some (x27, 1)) else (bif decide ((IntKind.i64.wrap (p0.fCtx - y2.fSize)) < y2.fOff) then (some (x27, 1)) else (bif y2.fSize != 0 then (bif (y2.fOff.tmod y2.fSize) != 0 then (some (x27, 1)) else (bif decide (y2.fKind < 1) then (some (x27, 1)) else (bif decide ((3 : Int) < y2.fKind) then (some (x27, 1)) else (bif ((y2.fKind == 2) || (y2.fKind == 3)) && ((y2.fSize != 8) || y2.fWrite) then (some (x27, 1)) else (bif inb y2.fKind 4 then (some (x27.set y2.fKind (IntKind.i64.wrap ((gt x27.l y2.fKind) + 1)), 0)) else none))))) else none))))) := rfl
def fn58_k1_0 (x27 : Ar Int 4) : Option (Bool) :=
 some false
theorem fn58_k1_0_s (x27 : Ar Int 4) : fn58_k1_0 x27 = some false := rfl
def fn58_k1_1 (x27 : Ar Int 4) : Option (Bool) :=
 bif (gt x27.l ((2 : Nat) : Int)) == (gt x27.l ((3 : Nat) : Int)) then (some (decide ((gt x27.l ((3 : Nat) : Int)) ≤ 1))) else (some false)
theorem fn58_k1_1_s (x27 : Ar Int 4) : fn58_k1_1 x27 = bif (gt x27.l ((2 : Nat) : Int)) == (gt x27.l ((3 : Nat) : Int)) then (some (decide ((gt x27.l ((3 : Nat) : Int)) ≤ 1))) else (some false) := rfl
def fn58 (F : Nat) (p0 : PType) : Option (Bool) :=
 Option.bind (fn127 F (stepR (fun (s : (Ar Int 4)) (y : Int × Fld) => fn58_r1 F p0 s y.1 y.2)) goR p0.fFields (((Ar.rep 4 0), 0) : ((Ar Int 4)) × Nat)) fun o78 => (bif Nat.beq o78.2 1 then (fn58_k1_0 o78.1) else (bif Nat.beq o78.2 0 then (fn58_k1_1 o78.1) else none))
theorem c58 (F : Nat) (p0 : PType) (r : Bool) (h : fn58 F p0 = some r) : Con Tryz.prog 58 [.ag [.v (.string p0.fName), .v (.int .i64 p0.fCtx), .sl 0, .sl 1, .v (.int .i64 p0.fLo), .v (.int .i64 p0.fHi)]] [(0, .rd Fld.E p0.fFields), (1, .rd Need.E p0.fNeeds)] 2 (.v (.bool r)) [] 2 := by
 rw [fn58] at h
 refine Con.of_body Tryz.func58 rfl Tryz.ntmps58 rfl fun w F0 ρ => ?_
 refine U_ tbOk 8 [.cl true [0] (fun _ => c101 p0.fFields _ rfl)] (aK aN) ?_
 obtain ⟨o78, ho79, h⟩ := bd h
 refine G4.imp (s' := ⟨[(1, .p 2 0), (2, .p 3 0), (3, .p 4 0), (12, .fn (.func 127) [] [.p 5 0])], (5, .cells 23 [.sl 0]) :: ((fun (s : (Ar Int 4)) => ([(2, .cells 26 [.v (.string p0.fName), .v (.int .i64 p0.fCtx), .sl 0, .sl 1, .v (.int .i64 p0.fLo), .v (.int .i64 p0.fHi)]), (3, .cells 4 [.v (.bool false)]), (4, .cells 156 [.ar (En.int .i64) 4 s])] : SH)) (Ar.rep 4 0) ++ [(0, .rd Fld.E p0.fFields), (1, .rd Need.E p0.fNeeds)]), 6⟩) (I_ [0, 1, 2, 3, 4, 5]) ?_
 refine RF [13, 14] (Yn.cut 4 p0.fFields.length (Vn.ag Fld.E)) (fun (s : (Ar Int 4)) => [(2, .cells 26 [.v (.string p0.fName), .v (.int .i64 p0.fCtx), .sl 0, .sl 1, .v (.int .i64 p0.fLo), .v (.int .i64 p0.fHi)]), (3, .cells 4 [.v (.bool false)]), (4, .cells 156 [.ar (En.int .i64) 4 s])]) [(0, .rd Fld.E p0.fFields), (1, .rd Need.E p0.fNeeds)] 6 5 0 (fun (s : (Ar Int 4)) (y : Int × Fld) => fn58_r1 F p0 s y.1 y.2) (Ar.rep 4 0) o78.1 o78.2 Tryz.call127 (by rfl) (by rfl) (by rfl) (fun _ _ => rfl) (fun _ _ => rfl) (fun _ => by rfl) (fun yv J => c127 F (stepR (fun (s : (Ar Int 4)) (y : Int × Fld) => fn58_r1 F p0 s y.1 y.2)) goR p0.fFields ((Ar.rep 4 0), 0) o78 ho79 yv J) ?_ ?_
 ·clear h ho79
  rintro l1 w1 R1 ρ1 pA pB QA QB x27 ⟨y1, y2⟩ s1' m1' h hbg52 hend53
  replace h := (fn58_r1_s F p0 x27 y1 y2).symm.trans h
  refine U_ tbOk 3 [] aN ?_
  refine hbg52 _ _ _ (by rfl) ?_
  refine G4.imp (Imp.vwS 4 (by rfl)) ?_
  refine U_ tbOk 7 [] aN ?_
  refine C_ h (fun h hb54 => ?_) fun h hb54 => ?_
  ·refine U_ tbOk 0 [] aN ?_
   obtain ⟨hk55, h⟩ := ck h
   refine DR tbOk hmix [6] [([], []), ([], []), ([0, 8], []), ([], []), ([0, 8], []), ([], []), ([], []), ([0, 8], []), ([], []), ([0, 8], []), ([], []), ([], [])] [] (aR (aC hk55 (aR (aR (aC hk55 (aR aN)))))) (by rfl) ?_
   obtain ⟨v56, hv57, h⟩ := bd h
   refine U_ tbOk 15 [.bs (Et.int .i64) ([1, 2, 4, 8] : List Int), .cl true [9] (fun _ => c102 F ([1, 2, 4, 8] : List Int) y2.fSize _ hv57)] (aR (aR (aK aN))) ?_
   refine C_ h (fun h hb58 => ?_) fun h hb58 => ?_
   ·refine U_ tbOk 0 [] aN ?_
    refine CDT hb58 (by rfl) ?_
    refine U_ tbOk 1 [] aN ?_
    cases Option.some.inj h
    exact hend53 _ (I_ [0, 1, 2, 3, 4, 5, 6])
   ·refine U_ tbOk 5 [] aN ?_
    refine C_ h (fun h hb59 => ?_) fun h hb59 => ?_
    ·refine U_ tbOk 0 [] aN ?_
     refine CDT hb59 (by rfl) ?_
     refine U_ tbOk 1 [] aN ?_
     cases Option.some.inj h
     exact hend53 _ (I_ [0, 1, 2, 3, 4, 5, 6])
    ·refine U_ tbOk 9 [] aN ?_
     refine C_ h (fun h hb60 => ?_) fun h hb60 => ?_
     ·refine U_ tbOk 0 [] aN ?_
      refine CDT hb60 (by rfl) ?_
      refine U_ tbOk 1 [] aN ?_
      cases Option.some.inj h
      exact hend53 _ (I_ [0, 1, 2, 3, 4, 5, 6])
     ·obtain ⟨hk61, h⟩ := ck h
      refine U_ tbOk 7 [] (aC hk61 aN) ?_
      refine C_ h (fun h hb62 => ?_) fun h hb62 => ?_
      ·refine U_ tbOk 1 [] aN ?_
       cases Option.some.inj h
       exact hend53 _ (I_ [0, 1, 2, 3, 4, 5, 6])
      ·refine U_ tbOk 4 [] aN ?_
       refine C_ h (fun h hb63 => ?_) fun h hb63 => ?_
       ·refine U_ tbOk 0 [] aN ?_
        refine CDT hb63 (by rfl) ?_
        refine U_ tbOk 1 [] aN ?_
        cases Option.some.inj h
        exact hend53 _ (I_ [0, 1, 2, 3, 4, 5, 6])
       ·refine U_ tbOk 4 [] aN ?_
        refine C_ h (fun h hb64 => ?_) fun h hb64 => ?_
        ·refine U_ tbOk 0 [] aN ?_
         refine CDT hb64 (by rfl) ?_
         refine U_ tbOk 1 [] aN ?_
         cases Option.some.inj h
         exact hend53 _ (I_ [0, 1, 2, 3, 4, 5, 6])
        ·refine U_ tbOk 11 [] aN ?_
         refine C_ h (fun h hb65 => ?_) fun h hb65 => ?_
         ·refine U_ tbOk 1 [] aN ?_
          cases Option.some.inj h
          exact hend53 _ (I_ [0, 1, 2, 3, 4, 5, 6])
         ·obtain ⟨hk66, h⟩ := ck h
          refine U_ tbOk 7 [.sa (En.int .i64) 4 _ (IntKind.i64.wrap ((gt x27.l y2.fKind) + 1))] (aC hk66 (aC hk66 (aR (aR aN)))) ?_
          cases Option.some.inj h
          exact hend53 _ (I_ [0, 1, 2, 3, 4, 5, 6])
  ·obtain ⟨v67, hv68, h⟩ := bd h
   refine U_ tbOk 15 [.bs (Et.int .i64) ([1, 2, 4, 8] : List Int), .cl true [9] (fun _ => c102 F ([1, 2, 4, 8] : List Int) y2.fSize _ hv68)] (aR (aR (aK aN))) ?_
   refine C_ h (fun h hb69 => ?_) fun h hb69 => ?_
   ·refine U_ tbOk 0 [] aN ?_
    refine CDT hb69 (by rfl) ?_
    refine U_ tbOk 1 [] aN ?_
    cases Option.some.inj h
    exact hend53 _ (I_ [0, 1, 2, 3, 4, 5, 6])
   ·refine U_ tbOk 5 [] aN ?_
    refine C_ h (fun h hb70 => ?_) fun h hb70 => ?_
    ·refine U_ tbOk 0 [] aN ?_
     refine CDT hb70 (by rfl) ?_
     refine U_ tbOk 1 [] aN ?_
     cases Option.some.inj h
     exact hend53 _ (I_ [0, 1, 2, 3, 4, 5, 6])
    ·refine U_ tbOk 9 [] aN ?_
     refine C_ h (fun h hb71 => ?_) fun h hb71 => ?_
     ·refine U_ tbOk 0 [] aN ?_
      refine CDT hb71 (by rfl) ?_
      refine U_ tbOk 1 [] aN ?_
      cases Option.some.inj h
      exact hend53 _ (I_ [0, 1, 2, 3, 4, 5, 6])
     ·obtain ⟨hk72, h⟩ := ck h
      refine U_ tbOk 7 [] (aC hk72 aN) ?_
      refine C_ h (fun h hb73 => ?_) fun h hb73 => ?_
      ·refine U_ tbOk 1 [] aN ?_
       cases Option.some.inj h
       exact hend53 _ (I_ [0, 1, 2, 3, 4, 5, 6])
      ·refine U_ tbOk 4 [] aN ?_
       refine C_ h (fun h hb74 => ?_) fun h hb74 => ?_
       ·refine U_ tbOk 0 [] aN ?_
        refine CDT hb74 (by rfl) ?_
        refine U_ tbOk 1 [] aN ?_
        cases Option.some.inj h
        exact hend53 _ (I_ [0, 1, 2, 3, 4, 5, 6])
       ·refine U_ tbOk 4 [] aN ?_
        refine C_ h (fun h hb75 => ?_) fun h hb75 => ?_
        ·refine U_ tbOk 0 [] aN ?_
         refine CDT hb75 (by rfl) ?_
         refine U_ tbOk 1 [] aN ?_
         cases Option.some.inj h
         exact hend53 _ (I_ [0, 1, 2, 3, 4, 5, 6])
        ·refine U_ tbOk 11 [] aN ?_
         refine C_ h (fun h hb76 => ?_) fun h hb76 => ?_
         ·refine U_ tbOk 1 [] aN ?_
          cases Option.some.inj h
          exact hend53 _ (I_ [0, 1, 2, 3, 4, 5, 6])
         ·obtain ⟨hk77, h⟩ := ck h
          refine U_ tbOk 7 [.sa (En.int .i64) 4 _ (IntKind.i64.wrap ((gt x27.l y2.fKind) + 1))] (aC hk77 (aC hk77 (aR (aR aN)))) ?_
          cases Option.some.inj h
          exact hend53 _ (I_ [0, 1, 2, 3, 4, 5, 6])
 ·intro r80
  refine CDS h (fun h hb83 => ?_) (fun h hb83 => ?_)
  ·rw [show o78.2 = 1 from Nat.eq_of_beq_eq_true hb83]
   replace h := (fn58_k1_0_s o78.1).symm.trans h
   refine U_ tbOk 0 [] aN ?_
   obtain rfl := sj h
   exact RTM tbOk.t [(6, r80)] rfl ⟨rfl, trivial⟩ Tryz.results58 [0, 1] (by rfl) (by rfl) (by rfl) rfl rfl
  refine CDS h (fun h hb84 => ?_) (fun h hb84 => ?_)
  ·rw [show o78.2 = 0 from Nat.eq_of_beq_eq_true hb84]
   replace h := (fn58_k1_1_s o78.1).symm.trans h
   refine CDS h (fun h hb82 => ?_) (fun h hb82 => ?_)
   ·refine U_ (tbOk.lit [(90, 91, true)]) 11 [.la (Vn.int .i64) (En.int .i64) 0 2 o78.1, .la (Vn.int .i64) (En.int .i64) 0 3 o78.1, .la (Vn.int .i64) (En.int .i64) 0 3 o78.1] (aR (aR (aR (aR (aC hb82 (aR (aR aN))))))) ?_
    refine U_ tbOk 0 [] aN ?_
    obtain rfl := sj h
    exact RTM tbOk.t [(6, r80)] rfl ⟨rfl, trivial⟩ Tryz.results58 [0, 1] (by rfl) (by rfl) (by rfl) rfl rfl
   ·refine U_ (tbOk.lit [(90, 91, false)]) 11 [.la (Vn.int .i64) (En.int .i64) 0 2 o78.1, .la (Vn.int .i64) (En.int .i64) 0 3 o78.1] (aR (aR (aR (aR (aC hb82 aN))))) ?_
    refine U_ tbOk 0 [] aN ?_
    obtain rfl := sj h
    exact RTM tbOk.t [(6, r80)] rfl ⟨rfl, trivial⟩ Tryz.results58 [0, 1] (by rfl) (by rfl) (by rfl) rfl rfl
  cases h
def fn24 (F : Nat) (p0 : PType) : Option (Int) :=
 Option.bind (fn49 F p0.fNeeds) fun v1 => (Option.bind (bif bif v1 then true else false then fn52 F p0.fNeeds else some false) fun v3 => (Option.bind (fn56 F p0.fName) fun v5 => (bif !v5 then (some 2) else (bif !(fn57 (⟨8, 256⟩ : S_kinds_bound_int_) p0.fCtx) then (some 3) else (bif decide ((32 : Int) < (p0.fFields.length : Int)) then (some 3) else (bif decide ((64 : Int) < (p0.fNeeds.length : Int)) then (some 3) else (Option.bind (fn58 F p0) fun v11 => (bif !v11 then (some 22) else (bif !(v1 && (!v3)) then (some 34) else (bif decide (p0.fHi < p0.fLo) then (some 36) else (some 0)))))))))))
theorem c24 (F : Nat) (p0 : PType) (r : Int) (h : fn24 F p0 = some r) : Con Tryz.prog 24 [.ag [.v (.string p0.fName), .v (.int .i64 p0.fCtx), .sl 0, .sl 1, .v (.int .i64 p0.fLo), .v (.int .i64 p0.fHi)]] [(0, .rd Fld.E p0.fFields), (1, .rd Need.E p0.fNeeds)] 2 (.v (.int .i64 r)) [] 2 := by
 rw [fn24] at h
 refine Con.of_body Tryz.func24 rfl Tryz.ntmps24 rfl fun w F0 ρ => ?_
 obtain ⟨v1, hv2, h⟩ := bd h
 obtain ⟨v3, hv4, h⟩ := bd h
 obtain ⟨v5, hv6, h⟩ := bd h
 refine U_ tbOk 17 [.cl true [1] (fun _ => c49 F p0.fNeeds _ hv2), .cl (bif v1 then true else false) [1] (fun hg => c52 F p0.fNeeds _ (gcl hg hv4)), .cl true [] (fun _ => c56 F p0.fName _ hv6)] (aK (aR (aR (aK (aK aN))))) ?_
 refine C_ h (fun h hb7 => ?_) fun h hb7 => ?_
 ·refine U_ tbOk 1 [] aN ?_
  obtain rfl := sj h
  exact T_ tbOk.t Tryz.results24 [0, 1]
 ·refine U_ tbOk 6 [.cl true [] (fun _ => c57 (⟨8, 256⟩ : S_kinds_bound_int_) p0.fCtx _ rfl)] (aK aN) ?_
  refine C_ h (fun h hb8 => ?_) fun h hb8 => ?_
  ·refine U_ tbOk 0 [] aN ?_
   refine CDT hb8 (by rfl) ?_
   refine U_ tbOk 1 [] aN ?_
   obtain rfl := sj h
   exact T_ tbOk.t Tryz.results24 [0, 1]
  ·refine U_ tbOk 5 [] aN ?_
   refine C_ h (fun h hb9 => ?_) fun h hb9 => ?_
   ·refine U_ tbOk 0 [] aN ?_
    refine CDT hb9 (by rfl) ?_
    refine U_ tbOk 1 [] aN ?_
    obtain rfl := sj h
    exact T_ tbOk.t Tryz.results24 [0, 1]
   ·refine U_ tbOk 5 [] aN ?_
    refine C_ h (fun h hb10 => ?_) fun h hb10 => ?_
    ·refine U_ tbOk 1 [] aN ?_
     obtain rfl := sj h
     exact T_ tbOk.t Tryz.results24 [0, 1]
    ·obtain ⟨v11, hv12, h⟩ := bd h
     refine U_ tbOk 4 [.cl true [0, 1] (fun _ => c58 F p0 _ hv12)] (aK aN) ?_
     refine C_ h (fun h hb13 => ?_) fun h hb13 => ?_
     ·refine U_ tbOk 1 [] aN ?_
      obtain rfl := sj h
      exact T_ tbOk.t Tryz.results24 [0, 1]
     ·refine U_ tbOk 3 [] aN ?_
      refine C_ h (fun h hb14 => ?_) fun h hb14 => ?_
      ·refine U_ tbOk 1 [] aN ?_
       obtain rfl := sj h
       exact T_ tbOk.t Tryz.results24 [0, 1]
      ·refine U_ tbOk 6 [] aN ?_
       refine C_ h (fun h hb15 => ?_) fun h hb15 => ?_
       ·refine U_ tbOk 1 [] aN ?_
        obtain rfl := sj h
        exact T_ tbOk.t Tryz.results24 [0, 1]
       ·refine U_ tbOk 1 [] aN ?_
        obtain rfl := sj h
        exact T_ tbOk.t Tryz.results24 [0, 1]
def fn158 (p0 : Int) (p1 : Int) : Int × Int :=
 (IntKind.u64.wrap ((IntKind.u64.wrap ((IntKind.u64.wrap ((ishr .u64 p0 32) * (ishr .u64 p1 32))) + (ishr .u64 (IntKind.u64.wrap ((IntKind.u64.wrap ((ishr .u64 p0 32) * (iand .u64 p1 4294967295))) + (ishr .u64 (IntKind.u64.wrap ((iand .u64 p0 4294967295) * (iand .u64 p1 4294967295))) 32))) 32))) + (ishr .u64 (IntKind.u64.wrap ((iand .u64 (IntKind.u64.wrap ((IntKind.u64.wrap ((ishr .u64 p0 32) * (iand .u64 p1 4294967295))) + (ishr .u64 (IntKind.u64.wrap ((iand .u64 p0 4294967295) * (iand .u64 p1 4294967295))) 32))) 4294967295) + (IntKind.u64.wrap ((iand .u64 p0 4294967295) * (ishr .u64 p1 32))))) 32)), IntKind.u64.wrap (p0 * p1))
theorem c158 (p0 : Int) (p1 : Int) (r : Int × Int) (h : fn158 p0 p1 = r) : Con Tryz.prog 158 [.v (.int .u64 p0), .v (.int .u64 p1)] [] 0 (.tu [.v (.int .u64 r.1), .v (.int .u64 r.2)]) [] 0 := by
 rw [fn158] at h
 refine Con.of_body Tryz.func158 rfl Tryz.ntmps158 rfl fun w F0 ρ => ?_
 refine U_ tbOk 50 [] (aC rfl (aC rfl (aC rfl (aC rfl (aC rfl aN))))) ?_
 subst h
 exact T_ tbOk.t Tryz.results158 []
def fn148 (p0 : Int) (p1 : Int) : Int × Int :=
 ((fn158 p0 p1).1, (fn158 p0 p1).2)
theorem c148 (p0 : Int) (p1 : Int) (r : Int × Int) (h : fn148 p0 p1 = r) : Con Tryz.prog 148 [.v (.int .u64 p0), .v (.int .u64 p1)] [] 0 (.tu [.v (.int .u64 r.1), .v (.int .u64 r.2)]) [] 0 := by
 rw [fn148] at h
 refine Con.of_body Tryz.func148 rfl Tryz.ntmps148 rfl fun w F0 ρ => ?_
 refine U_ tbOk 2 [] aN ?_
 refine CDF rfl (by rfl) ?_
 refine U_ tbOk 12 [.cl true [] (fun _ => c158 p0 p1 _ rfl)] (aK aN) ?_
 subst h
 exact T_ tbOk.t Tryz.results148 []
def fn129_l1 : Nat → (List S__2_int) → Int → Option ((List S__2_int))
 | 0, _, _ => none
 | n15 + 1, xs7, x8 => bif decide (x8 < (xs7.length : Int)) then (bif sliceOk x8 ((xs7.length : Nat) : Int) xs7.length then (bif sliceOk ((0 : Nat) : Int) x8 xs7.length then ((fn129_l1 n15) (pasteX xs7 x8.toNat ((cutX xs7 (((0 : Nat) : Int).toNat) (((0 : Nat) : Int).toNat + x8.toNat - ((0 : Nat) : Int).toNat)).take ((x8.toNat + (((xs7.length : Nat) : Int).toNat - x8.toNat)) - x8.toNat))) (IntKind.i64.wrap (x8 + ((min (cutX xs7 (((0 : Nat) : Int).toNat) (((0 : Nat) : Int).toNat + x8.toNat - ((0 : Nat) : Int).toNat)).length ((x8.toNat + (((xs7.length : Nat) : Int).toNat - x8.toNat)) - x8.toNat) : Nat) : Int)))) else none) else none) else (some xs7)
theorem fn129_l1_s (n15 : Nat) (xs7 : List S__2_int) (x8 : Int) : fn129_l1 (n15 + 1) xs7 x8 = bif decide (x8 < (xs7.length : Int)) then (bif sliceOk x8 ((xs7.length : Nat) : Int) xs7.length then (bif sliceOk ((0 : Nat) : Int) x8 xs7.length then ((fn129_l1 n15) (pasteX xs7 x8.toNat ((cutX xs7 (((0 : Nat) : Int).toNat) (((0 : Nat) : Int).toNat + x8.toNat - ((0 : Nat) : Int).toNat)).take ((x8.toNat + (((xs7.length : Nat) : Int).toNat - x8.toNat)) - x8.toNat))) (IntKind.i64.wrap (x8 + ((min (cutX xs7 (((0 : Nat) : Int).toNat) (((0 : Nat) : Int).toNat + x8.toNat - ((0 : Nat) : Int).toNat)).length ((x8.toNat + (((xs7.length : Nat) : Int).toNat - x8.toNat)) - x8.toNat) : Nat) : Int)))) else none) else none) else (some xs7) := rfl
def fn129_k1 (xs12 : List S__2_int) : Option (((List S__2_int))) :=
 some xs12
theorem fn129_k1_s (xs12 : List S__2_int) : fn129_k1 xs12 = some xs12 := rfl
def fn129 (F : Nat) (p0 : List S__2_int) (p1 : Int) : Option ((List S__2_int)) :=
 bif decide (p1 < 0) then none else (bif (decide ((0 : Int) < ((fn148 (IntKind.u64.wrap (p0.length : Int)) (IntKind.u64.wrap p1)).1))) || (decide ((9223372036854775807 : Int) < ((fn148 (IntKind.u64.wrap (p0.length : Int)) (IntKind.u64.wrap p1)).2))) then none else (bif decide ((0 : Int) ≤ IntKind.i64.wrap ((fn148 (IntKind.u64.wrap (p0.length : Int)) (IntKind.u64.wrap p1)).2)) && decide ((IntKind.i64.wrap ((fn148 (IntKind.u64.wrap (p0.length : Int)) (IntKind.u64.wrap p1)).2)) ≤ IntKind.i64.wrap ((fn148 (IntKind.u64.wrap (p0.length : Int)) (IntKind.u64.wrap p1)).2)) && decide ((16 : Int) * (IntKind.i64.wrap ((fn148 (IntKind.u64.wrap (p0.length : Int)) (IntKind.u64.wrap p1)).2)) ≤ 281474976710656) && decide ((IntKind.i64.wrap ((fn148 (IntKind.u64.wrap (p0.length : Int)) (IntKind.u64.wrap p1)).2)) ≤ 9223372036854775807) then (Option.bind (fn129_l1 F (pasteX (List.replicate (IntKind.i64.wrap ((fn148 (IntKind.u64.wrap (p0.length : Int)) (IntKind.u64.wrap p1)).2)).toNat (⟨0, 0⟩ : S__2_int)) 0 (p0.take (((IntKind.i64.wrap ((fn148 (IntKind.u64.wrap (p0.length : Int)) (IntKind.u64.wrap p1)).2)).toNat) - 0))) ((min p0.length (((IntKind.i64.wrap ((fn148 (IntKind.u64.wrap (p0.length : Int)) (IntKind.u64.wrap p1)).2)).toNat) - 0) : Nat) : Int)) fun o13 => (fn129_k1 o13)) else none))
theorem c129 (F : Nat) (p0 : List S__2_int) (p1 : Int) (r : (List S__2_int)) (h : fn129 F p0 p1 = some r) : Con Tryz.prog 129 [.sl 0, .v (.int .i64 p1)] [(0, .rd S__2_int.E p0)] 1 (.sl 1) [(1, .row S__2_int.E 163 r r.length .unk)] 2 := by
 rw [fn129] at h
 refine Con.of_body Tryz.func129 rfl Tryz.ntmps129 rfl fun w F0 ρ => ?_
 refine U_ tbOk 3 [] aN ?_
 refine C_ h (fun h hb1 => ?_) fun h hb1 => ?_
 ·cases h
 ·refine U_ tbOk 17 [.cl true [] (fun _ => c148 (IntKind.u64.wrap (p0.length : Int)) (IntKind.u64.wrap p1) _ rfl)] (aK aN) ?_
  refine C_ h (fun h hb2 => ?_) fun h hb2 => ?_
  ·cases h
  ·obtain ⟨hk3, h⟩ := ck h
   refine U_ tbOk 8 [.ms S__2_int.E (⟨0, 0⟩ : S__2_int), .co S__2_int.E 1 _ _] (aC hk3 (aR (aR (aR (aC bleR aN))))) ?_
   obtain ⟨o13, hl14, h⟩ := bd h
   refine CT 0 ⟨[(7, .sl 1)], [(0, .rd S__2_int.E p0), (1, .row S__2_int.E 163 o13 o13.length .unk)], 2⟩ ?_ ?_
   ·have h017 := h
    clear h
    refine G4.imp (Imp.trans (Imp.row 1 (by rfl)) (I_ [0, 1])) (LP (fun (n : Nat) (s : (List S__2_int) × Int) => fn129_l1 n s.1 s.2) (fun (s : (List S__2_int) × Int) => ⟨[(7, .sl 1), (8, .v (.int .i64 s.2))], [(0, .rd S__2_int.E p0), (1, .row S__2_int.E 163 s.1 s.1.length .unk)], 2⟩) (fun _ => rfl) (s0 := (pasteX (List.replicate (IntKind.i64.wrap ((fn148 (IntKind.u64.wrap (p0.length : Int)) (IntKind.u64.wrap p1)).2)).toNat (⟨0, 0⟩ : S__2_int)) 0 (p0.take (((IntKind.i64.wrap ((fn148 (IntKind.u64.wrap (p0.length : Int)) (IntKind.u64.wrap p1)).2)).toNat) - 0)), ((min p0.length (((IntKind.i64.wrap ((fn148 (IntKind.u64.wrap (p0.length : Int)) (IntKind.u64.wrap p1)).2)).toNat) - 0) : Nat) : Int))) hl14 ?_)
    clear hl14
    rintro R18 n15 ⟨xs7, x8⟩ h ih16
    replace h := (fn129_l1_s n15 xs7 x8).symm.trans h
    refine U_ tbOk 4 [] aN ?_
    refine C_ h (fun h hb19 => ?_) fun h hb19 => ?_
    ·refine U_ tbOk 0 [] aN ?_
     obtain ⟨hk20, h⟩ := ck h
     obtain ⟨hk21, h⟩ := ck h
     refine DR tbOk hmix [8] [([], []), ([], []), ([], []), ([1], []), ([], []), ([], []), ([1], []), ([1], [1]), ([], []), ([], [])] [.sc, .sc, .co S__2_int.E 1 _ _] (aR (aC hk20 (aR (aC hk21 (aR (aR (aR (aC (ssB hk20) aN)))))))) (by rfl) ?_
     refine U_ tbOk 0 [] aN ?_
     exact ih16 (pasteX xs7 x8.toNat ((cutX xs7 (((0 : Nat) : Int).toNat) (((0 : Nat) : Int).toNat + x8.toNat - ((0 : Nat) : Int).toNat)).take ((x8.toNat + (((xs7.length : Nat) : Int).toNat - x8.toNat)) - x8.toNat)), IntKind.i64.wrap (x8 + ((min (cutX xs7 (((0 : Nat) : Int).toNat) (((0 : Nat) : Int).toNat + x8.toNat - ((0 : Nat) : Int).toNat)).length ((x8.toNat + (((xs7.length : Nat) : Int).toNat - x8.toNat)) - x8.toNat) : Nat) : Int))) h _ _ (Imp.trans (Imp.row 1 (by rfl)) (I_ [0, 1]))
    ·refine U_ tbOk 0 [] aN ?_
     obtain rfl := sj h
     exact CE (I_ [0, 1])
   ·replace h := (fn129_k1_s o13).symm.trans h
    refine U_ tbOk 2 [] aN ?_
    obtain rfl := sj h
    exact T_ tbOk.t Tryz.results129 [0, 1]
def fn130 (p0 : Slot) (p1 : Int) : S__2_int :=
 bif p0.fInstr.fOp == 24 then (bif (fn44 p0 p1).2 then (bif (fn45 p0) then (⟨(-1), (fn44 p0 p1).1⟩ : S__2_int) else (⟨IntKind.i64.wrap ((IntKind.i64.wrap (p1 + 1)) + 1), (fn44 p0 p1).1⟩ : S__2_int)) else (bif (fn45 p0) then (⟨(-1), (-1)⟩ : S__2_int) else (⟨IntKind.i64.wrap ((IntKind.i64.wrap (p1 + 1)) + 1), (-1)⟩ : S__2_int))) else (bif (fn44 p0 p1).2 then (bif (fn45 p0) then (⟨(-1), (fn44 p0 p1).1⟩ : S__2_int) else (⟨IntKind.i64.wrap (p1 + 1), (fn44 p0 p1).1⟩ : S__2_int)) else (bif (fn45 p0) then (⟨(-1), (-1)⟩ : S__2_int) else (⟨IntKind.i64.wrap (p1 + 1), (-1)⟩ : S__2_int)))
theorem c130 (p0 : Slot) (p1 : Int) (r : S__2_int) (h : fn130 p0 p1 = r) : Con Tryz.prog 130 [.ag [.v (.int .u8 p0.fInstr.fOp), .v (.int .u8 p0.fInstr.fDst), .v (.int .u8 p0.fInstr.fSrc), .v (.int .i16 p0.fInstr.fOff), .v (.int .i32 p0.fInstr.fImm), .v (.int .u8 p0.fclass), .v (.int .u8 p0.fop), .v (.bool p0.freg)], .v (.int .i64 p1)] [] 0 (.ag [.v (.int .i64 r.e0), .v (.int .i64 r.e1)]) [] 0 := by
 rw [fn130] at h
 refine Con.of_body Tryz.func130 rfl Tryz.ntmps130 rfl fun w F0 ρ => ?_
 refine U_ tbOk 11 [] aN ?_
 refine C_ h (fun h hb1 => ?_) fun h hb1 => ?_
 ·refine U_ tbOk 14 [.cl true [] (fun _ => c44 p0 p1 _ rfl)] (aK aN) ?_
  refine C_ h (fun h hb2 => ?_) fun h hb2 => ?_
  ·refine U_ tbOk 5 [.cl true [] (fun _ => c45 p0 _ rfl)] (aK aN) ?_
   refine C_ h (fun h hb3 => ?_) fun h hb3 => ?_
   ·refine U_ tbOk 4 [] aN ?_
    subst h
    exact T_ tbOk.t Tryz.results130 []
   ·refine U_ tbOk 2 [] aN ?_
    subst h
    exact T_ tbOk.t Tryz.results130 []
  ·refine U_ tbOk 2 [.cl true [] (fun _ => c45 p0 _ rfl)] (aK aN) ?_
   refine C_ h (fun h hb4 => ?_) fun h hb4 => ?_
   ·refine U_ tbOk 4 [] aN ?_
    subst h
    exact T_ tbOk.t Tryz.results130 []
   ·refine U_ tbOk 2 [] aN ?_
    subst h
    exact T_ tbOk.t Tryz.results130 []
 ·refine U_ tbOk 9 [.cl true [] (fun _ => c44 p0 p1 _ rfl)] (aK aN) ?_
  refine C_ h (fun h hb5 => ?_) fun h hb5 => ?_
  ·refine U_ tbOk 5 [.cl true [] (fun _ => c45 p0 _ rfl)] (aK aN) ?_
   refine C_ h (fun h hb6 => ?_) fun h hb6 => ?_
   ·refine U_ tbOk 4 [] aN ?_
    subst h
    exact T_ tbOk.t Tryz.results130 []
   ·refine U_ tbOk 2 [] aN ?_
    subst h
    exact T_ tbOk.t Tryz.results130 []
  ·refine U_ tbOk 2 [.cl true [] (fun _ => c45 p0 _ rfl)] (aK aN) ?_
   refine C_ h (fun h hb7 => ?_) fun h hb7 => ?_
   ·refine U_ tbOk 4 [] aN ?_
    subst h
    exact T_ tbOk.t Tryz.results130 []
   ·refine U_ tbOk 2 [] aN ?_
    subst h
    exact T_ tbOk.t Tryz.results130 []
def fn103_r1 (xs9 : List S__2_int) (y6 : Int) (y7 : Slot) : Option (((List S__2_int)) × Nat) :=
 bif inb y6 xs9.length then (some (xs9.set y6.toNat (fn130 y7 y6), 0)) else none
theorem fn103_r1_s (xs9 : List S__2_int) (y6 : Int) (y7 : Slot) : fn103_r1 xs9 y6 y7 = bif inb y6 xs9.length then (some (xs9.set y6.toNat (fn130 y7 y6), 0)) else none := rfl
def fn103_k1_0 (xs9 : List S__2_int) : Option (((List S__2_int))) :=
 some xs9
theorem fn103_k1_0_s (xs9 : List S__2_int) : fn103_k1_0 xs9 = some xs9 := rfl
def fn103 (F : Nat) (p0 : List Instr) : Option ((List S__2_int)) :=
 Option.bind (fn20 F p0) fun v1 => (bif v1.2 != 0 then (some ([] : List S__2_int)) else (Option.bind (fn129 F ([(⟨(-1), (-1)⟩ : S__2_int)] : List S__2_int) (p0.length : Int)) fun v4 => (Option.bind (fn88 F (stepR (fun (s : (List S__2_int)) (y : Int × Slot) => fn103_r1 s y.1 y.2)) goR p0 ((v4, 0) : ((List S__2_int)) × Nat)) fun o14 => (bif Nat.beq o14.2 0 then (fn103_k1_0 o14.1) else none))))
theorem c103 (F : Nat) (p0 : List Instr) (r : (List S__2_int)) (h : fn103 F p0 = some r) : Con Tryz.prog 103 [.sl 0] [(0, .rd Instr.E p0)] 1 (.sl 1) [(1, .row S__2_int.E 163 r r.length .unk)] 2 := by
 rw [fn103] at h
 refine Con.of_body Tryz.func103 rfl Tryz.ntmps103 rfl fun w F0 ρ => ?_
 obtain ⟨v1, hv2, h⟩ := bd h
 refine U_ tbOk 10 [.cl true [0] (fun _ => c20 F p0 _ hv2)] (aK aN) ?_
 refine C_ h (fun h hb3 => ?_) fun h hb3 => ?_
 ·refine U_ tbOk 1 [] aN ?_
  obtain rfl := sj h
  refine G4.imp (Imp.nil S__2_int.E 163 2 (by rfl)) ?_
  refine G4.imp (Imp.row 1 (by rfl)) ?_
  exact T_ tbOk.t Tryz.results103 [0, 1]
 ·obtain ⟨v4, hv5, h⟩ := bd h
  refine U_ tbOk 9 [.bs S__2_int.E ([(⟨(-1), (-1)⟩ : S__2_int)] : List S__2_int), .cl true [1] (fun _ => c129 F ([(⟨(-1), (-1)⟩ : S__2_int)] : List S__2_int) (p0.length : Int) _ hv5), .cl true [0] (fun _ => c39 p0 _ rfl)] (aR (aR (aK (aK aN)))) ?_
  obtain ⟨o14, ho15, h⟩ := bd h
  refine G4.imp (s' := ⟨[(5, .p 1 0), (21, .fn (.func 88) [] [.p 2 0])], (2, .cells 22 [.sl 0]) :: ((fun (s : (List S__2_int)) => ([(1, .cells 161 [.sl 3]), (3, .row S__2_int.E 163 s s.length .unk)] : SH)) v4 ++ [(0, .rd Instr.E p0)]), 4⟩) (I_ [0, 3, 4, 2]) ?_
  refine RF [22, 23] (Yn.two (Vn.int .i64) (Vn.ag Slot.E)) (fun (s : (List S__2_int)) => [(1, .cells 161 [.sl 3]), (3, .row S__2_int.E 163 s s.length .unk)]) [(0, .rd Instr.E p0)] 3 2 0 (fun (s : (List S__2_int)) (y : Int × Slot) => fn103_r1 s y.1 y.2) v4 o14.1 o14.2 Tryz.call88 (by rfl) (by rfl) (by rfl) (fun _ _ => rfl) (fun _ _ => trivial) (fun _ => by rfl) (fun yv J => c88 F (stepR (fun (s : (List S__2_int)) (y : Int × Slot) => fn103_r1 s y.1 y.2)) goR p0 (v4, 0) o14 ho15 yv J) ?_ ?_
  ·clear h ho15
   rintro l1 w1 R1 ρ1 pA pB QA QB xs9 ⟨y6, y7⟩ s1' m1' h hbg11 hend12
   replace h := (fn103_r1_s xs9 y6 y7).symm.trans h
   refine U_ tbOk 3 [] aN ?_
   refine hbg11 _ _ _ (by rfl) ?_
   refine U_ tbOk 0 [] aN ?_
   obtain ⟨hk13, h⟩ := ck h
   refine DR tbOk hmix [] [([1], []), ([], []), ([5], []), ([], []), ([], []), ([3], []), ([3], [3])] [.cl true [] (fun _ => c130 y7 y6 _ rfl), .se S__2_int.E _ (fn130 y7 y6)] (aR (aR (aK (aR (aC hk13 (aR (aR (aR aN)))))))) (by rfl) ?_
   refine U_ tbOk 0 [] aN ?_
   cases Option.some.inj h
   exact hend12 _ (Imp.trans (Imp.row 3 (by rfl)) (I_ [0, 1, 2, 3, 4]))
  ·intro r16
   refine CDS h (fun h hb17 => ?_) (fun h hb17 => ?_)
   ·rw [show o14.2 = 0 from Nat.eq_of_beq_eq_true hb17]
    replace h := (fn103_k1_0_s o14.1).symm.trans h
    refine U_ tbOk 2 [] aN ?_
    obtain rfl := sj h
    exact RTM tbOk.t [(4, r16)] rfl ⟨rfl, trivial⟩ Tryz.results103 [0, 3] (by rfl) (by rfl) (by rfl) rfl rfl
   cases h
def fn59_l2 (v1 : (List S__2_int)) (x28 : Int) : Nat → (List Int) → Int → Option ((List Int))
 | 0, _, _ => none
 | n75 + 1, xs66, x67 => bif decide (x67 < 2) then (bif inb x67 ([(gt v1 x28).e0, (gt v1 x28).e1] : List Int).length then (bif decide ((0 : Int) ≤ (gt ([(gt v1 x28).e0, (gt v1 x28).e1] : List Int) x67)) then (bif decide ((xs66.length + ([gt ([(gt v1 x28).e0, (gt v1 x28).e1] : List Int) x67] : List Int).length) * 8 ≤ 140737488355328 ∧ xs66.length + ([gt ([(gt v1 x28).e0, (gt v1 x28).e1] : List Int) x67] : List Int).length ≤ 9223372036854775807) then ((fn59_l2 v1 x28 n75) (xs66 ++ ([gt ([(gt v1 x28).e0, (gt v1 x28).e1] : List Int) x67] : List Int)) (IntKind.i64.wrap (x67 + 1))) else none) else ((fn59_l2 v1 x28 n75) xs66 (IntKind.i64.wrap (x67 + 1)))) else none) else (some xs66)
theorem fn59_l2_s (v1 : (List S__2_int)) (x28 : Int) (n75 : Nat) (xs66 : List Int) (x67 : Int) : fn59_l2 v1 x28 (n75 + 1) xs66 x67 = bif decide (x67 < 2) then (bif inb x67 ([(gt v1 x28).e0, (gt v1 x28).e1] : List Int).length then (bif decide ((0 : Int) ≤ (gt ([(gt v1 x28).e0, (gt v1 x28).e1] : List Int) x67)) then (bif decide ((xs66.length + ([gt ([(gt v1 x28).e0, (gt v1 x28).e1] : List Int) x67] : List Int).length) * 8 ≤ 140737488355328 ∧ xs66.length + ([gt ([(gt v1 x28).e0, (gt v1 x28).e1] : List Int) x67] : List Int).length ≤ 9223372036854775807) then ((fn59_l2 v1 x28 n75) (xs66 ++ ([gt ([(gt v1 x28).e0, (gt v1 x28).e1] : List Int) x67] : List Int)) (IntKind.i64.wrap (x67 + 1))) else none) else ((fn59_l2 v1 x28 n75) xs66 (IntKind.i64.wrap (x67 + 1)))) else none) else (some xs66) := rfl
def fn59_k2 (xs27 : List (List Int)) (x28 : Int) (rl1 : (List (List Int)) → Int → Option ((List (List Int)))) (xs72 : List Int) : Option ((List (List Int))) :=
 bif decide ((xs27.length + 1) * 24 ≤ 140737488355328 ∧ xs27.length + 1 ≤ 9223372036854775807) then (rl1 (xs27 ++ [xs72]) (IntKind.i64.wrap (x28 + 1))) else none
theorem fn59_k2_s (xs27 : List (List Int)) (x28 : Int) (rl1 : (List (List Int)) → Int → Option ((List (List Int)))) (xs72 : List Int) : fn59_k2 xs27 x28 rl1 xs72 = bif decide ((xs27.length + 1) * 24 ≤ 140737488355328 ∧ xs27.length + 1 ≤ 9223372036854775807) then (rl1 (xs27 ++ [xs72]) (IntKind.i64.wrap (x28 + 1))) else none := rfl
def fn59_l1 (F : Nat) (v1 : (List S__2_int)) : Nat → (List (List Int)) → Int → Option ((List (List Int)))
 | 0, _, _ => none
 | n56 + 1, xs27, x28 => bif decide (x28 < (v1.length : Int)) then (bif inb x28 v1.length then (Option.bind (fn59_l2 v1 x28 F ([] : List Int) 0) fun o73 => (fn59_k2 xs27 x28 (fn59_l1 F v1 n56) o73)) else none) else (some xs27)
theorem fn59_l1_s (F : Nat) (v1 : (List S__2_int)) (n56 : Nat) (xs27 : List (List Int)) (x28 : Int) : fn59_l1 F v1 (n56 + 1) xs27 x28 = bif decide (x28 < (v1.length : Int)) then (bif inb x28 v1.length then (Option.bind (fn59_l2 v1 x28 F ([] : List Int) 0) fun o73 => (fn59_k2 xs27 x28 (fn59_l1 F v1 n56) o73)) else none) else (some xs27) := rfl
def fn59_k1 (xs53 : List (List Int)) : Option (((List (List Int)))) :=
 some xs53
theorem fn59_k1_s (xs53 : List (List Int)) : fn59_k1 xs53 = some xs53 := rfl
def fn59 (F : Nat) (p0 : List Instr) : Option ((List (List Int))) :=
 Option.bind (fn103 F p0) fun v1 => (Option.bind (fn59_l1 F v1 F ([] : List (List Int)) 0) fun o54 => (fn59_k1 o54))
theorem c59 (F : Nat) (p0 : List Instr) (r : (List (List Int))) (h : fn59 F p0 = some r) : Con Tryz.prog 59 [.sl 0] [(0, .rd Instr.E p0)] 1 (.sl 1) [(1, .rowL (Et.int .i64) 3 59 r r.length)] 2 := by
 rw [fn59] at h
 refine Con.of_body Tryz.func59 rfl Tryz.ntmps59 rfl fun w F0 ρ => ?_
 obtain ⟨v1, hv2, h⟩ := bd h
 refine U_ tbOk 6 [.cl true [0] (fun _ => c103 F p0 _ hv2)] (aK aN) ?_
 refine G4.imp (Imp.nilL (Et.int .i64) 3 59 3 (by rfl)) ?_
 obtain ⟨o54, hl55, h⟩ := bd h
 refine CT 0 ⟨[(3, .sl 1)], [(0, .rd Instr.E p0), (1, .rowL (Et.int .i64) 3 59 o54 o54.length)], 2⟩ ?_ ?_
 ·have h058 := h
  clear h
  refine G4.imp (I_ [0, 1, 2]) (LP (fun (n : Nat) (s : (List (List Int)) × Int) => fn59_l1 F v1 n s.1 s.2) (fun (s : (List (List Int)) × Int) => ⟨[(3, .sl 2), (10, .sl 1), (11, .v (.int .i64 (v1.length : Int))), (12, .v (.int .i64 s.2))], [(0, .rd Instr.E p0), (1, .row S__2_int.E 163 v1 v1.length .unk), (2, .rowL (Et.int .i64) 3 59 s.1 s.1.length)], 3⟩) (fun _ => rfl) (s0 := (([] : List (List Int)), 0)) hl55 ?_)
  clear hl55
  rintro R59 n56 ⟨xs27, x28⟩ h ih57
  replace h := (fn59_l1_s F v1 n56 xs27 x28).symm.trans h
  refine U_ tbOk 1 [] aN ?_
  refine C_ h (fun h hb60 => ?_) fun h hb60 => ?_
  ·obtain ⟨hk61, h⟩ := ck h
   refine U_ tbOk 7 [] (aC hk61 aN) ?_
   refine G4.imp (Imp.nil (Et.int .i64) 3 6 (by rfl)) ?_
   obtain ⟨o73, hl74, h⟩ := bd h
   refine CT 2 ⟨[(3, .sl 2), (6, .sl 3), (10, .sl 1), (11, .v (.int .i64 (v1.length : Int))), (12, .v (.int .i64 x28))], [(0, .rd Instr.E p0), (1, .row S__2_int.E 163 v1 v1.length .unk), (2, .rowL (Et.int .i64) 3 59 xs27 xs27.length), (3, .row (Et.int .i64) 3 o73 o73.length .iff)], 4⟩ ?_ ?_
   ·have h077 := h
    clear h
    refine G4.imp (I_ [0, 1, 2, 4]) (LP (fun (n : Nat) (s : (List Int) × Int) => fn59_l2 v1 x28 n s.1 s.2) (fun (s : (List Int) × Int) => ⟨[(3, .sl 2), (6, .sl 3), (10, .sl 1), (11, .v (.int .i64 (v1.length : Int))), (12, .v (.int .i64 x28)), (16, .ag [.v (.int .i64 ((gt v1 x28).e0)), .v (.int .i64 ((gt v1 x28).e1))]), (17, .v (.int .i64 s.2))], [(0, .rd Instr.E p0), (1, .row S__2_int.E 163 v1 v1.length .unk), (2, .rowL (Et.int .i64) 3 59 xs27 xs27.length), (3, .row (Et.int .i64) 3 s.1 s.1.length .iff)], 4⟩) (fun _ => rfl) (s0 := (([] : List Int), 0)) hl74 ?_)
    clear hl74
    rintro R78 n75 ⟨xs66, x67⟩ h ih76
    replace h := (fn59_l2_s v1 x28 n75 xs66 x67).symm.trans h
    refine U_ tbOk 1 [] aN ?_
    refine C_ h (fun h hb79 => ?_) fun h hb79 => ?_
    ·obtain ⟨hk80, h⟩ := ck h
     refine U_ tbOk 4 [.ia (Vn.int .i64) ([(gt v1 x28).e0, (gt v1 x28).e1] : List Int)] (aR (aR (aC hk80 aN))) ?_
     refine C_ h (fun h hb81 => ?_) fun h hb81 => ?_
     ·obtain ⟨hk82, h⟩ := ck h
      refine U_ tbOk 7 [.bs (Et.int .i64) ([gt ([(gt v1 x28).e0, (gt v1 x28).e1] : List Int) x67] : List Int), .ap (Et.int .i64) .iff _ _] (aR (aR (aR (aR (aC hk82 (aC rfl aN)))))) ?_
      exact ih76 (xs66 ++ ([gt ([(gt v1 x28).e0, (gt v1 x28).e1] : List Int) x67] : List Int), IntKind.i64.wrap (x67 + 1)) h _ _ (I_ [0, 1, 2, 5])
     ·refine U_ tbOk 2 [] aN ?_
      exact ih76 (xs66, IntKind.i64.wrap (x67 + 1)) h _ _ (I_ [0, 1, 2, 3])
    ·refine U_ tbOk 0 [] aN ?_
     obtain rfl := sj h
     exact CE (I_ [0, 1, 2, 3])
   ·replace h := (fn59_k2_s xs27 x28 (fn59_l1 F v1 n56) o73).symm.trans h
    obtain ⟨hk83, h⟩ := ck h
    refine U_ tbOk 7 [.b1 (Et.int .i64), .aL (Et.int .i64) 3 _ _] (aR (aR (aR (aC hk83 aN)))) ?_
    exact ih57 (xs27 ++ [o73], IntKind.i64.wrap (x28 + 1)) h _ _ (I_ [0, 1, 5])
  ·refine U_ tbOk 0 [] aN ?_
   obtain rfl := sj h
   exact CE (I_ [0, 2])
 ·replace h := (fn59_k1_s o54).symm.trans h
  refine U_ tbOk 2 [] aN ?_
  obtain rfl := sj h
  exact T_ tbOk.t Tryz.results59 [0, 1]
def fn60 (p0 : S_flow_visit_) (p1 : List Visit) : Option (S_flow_visit_) :=
 bif decide ((p0.fl.length + p1.length) * 16 ≤ 140737488355328 ∧ p0.fl.length + p1.length ≤ 9223372036854775807) then (some (⟨p0.fl ++ p1⟩ : S_flow_visit_)) else none
theorem c60 (p0 : S_flow_visit_) (p1 : List Visit) (r : S_flow_visit_) (h : fn60 p0 p1 = some r) : Con Tryz.prog 60 [.p 0 0, .sl 2] [(0, .cells 106 [.sl 1]), (1, .row Visit.E 109 p0.fl p0.fl.length .unk), (2, .rd Visit.E p1)] 3 (.tu []) [(0, .cells 106 [.sl 3]), (3, .row Visit.E 109 r.fl r.fl.length .unk)] 4 := by
 rw [fn60] at h
 refine Con.of_body Tryz.func60 rfl Tryz.ntmps60 rfl fun w F0 ρ => ?_
 obtain ⟨hk1, h⟩ := ck h
 refine U_ tbOk 10 [.ap Visit.E .unk _ _] (aR (aR (aC hk1 (aC rfl aN)))) ?_
 obtain rfl := sj h
 exact TN_ tbOk.t Tryz.results60 [0, 1, 2, 3]
def fn61 (p0 : S_flow_visit_) : Unit :=
 ()
theorem c61 (p0 : S_flow_visit_) (r : Unit) (h : fn61 p0 = r) : Con Tryz.prog 61 [.p 0 0] [(0, .cells 106 [.sl 1]), (1, .rd Visit.E p0.fl)] 2 (.fn (.func 104) [] [.p 2 0]) [(0, .cells 106 [.sl 1]), (2, .cells 164 [.p 0 0])] 3 := by
 rw [fn61] at h
 refine Con.of_body Tryz.func61 rfl Tryz.ntmps61 rfl fun w F0 ρ => ?_
 refine U_ tbOk 4 [] aN ?_
 subst h
 exact T_ tbOk.t Tryz.results61 [0, 1, 2]
def fn104_l1 {σ : Type} (step : σ → Visit → Option σ) (go : σ → Bool) (get : σ → List Visit) (put : List Visit → σ → σ) : Nat → σ → Option ((σ) ⊕ (σ))
 | 0, _ => none
 | n17 + 1, xs7 => bif decide ((0 : Int) < ((get xs7).length : Int)) then (bif inb (IntKind.i64.wrap (((get xs7).length : Int) - 1)) ((get xs7).length) then (bif sliceOk ((0 : Nat) : Int) (IntKind.i64.wrap (((get xs7).length : Int) - 1)) ((get xs7).length) then (Option.bind (step (put (cutX (get xs7) 0 ((IntKind.i64.wrap (((get xs7).length : Int) - 1)).toNat - ((0 : Nat) : Int).toNat)) xs7) (gt (get xs7) (IntKind.i64.wrap (((get xs7).length : Int) - 1)))) fun u24 => (bif !(go u24) then (some (.inr u24)) else ((fn104_l1 step go get put n17) u24))) else none) else none) else (some (.inl xs7))
theorem fn104_l1_s {σ : Type} (step : σ → Visit → Option σ) (go : σ → Bool) (get : σ → List Visit) (put : List Visit → σ → σ) (n17 : Nat) (xs7 : σ) : fn104_l1 step go get put (n17 + 1) xs7 = bif decide ((0 : Int) < ((get xs7).length : Int)) then (bif inb (IntKind.i64.wrap (((get xs7).length : Int) - 1)) ((get xs7).length) then (bif sliceOk ((0 : Nat) : Int) (IntKind.i64.wrap (((get xs7).length : Int) - 1)) ((get xs7).length) then (Option.bind (step (put (cutX (get xs7) 0 ((IntKind.i64.wrap (((get xs7).length : Int) - 1)).toNat - ((0 : Nat) : Int).toNat)) xs7) (gt (get xs7) (IntKind.i64.wrap (((get xs7).length : Int) - 1)))) fun u24 => (bif !(go u24) then (some (.inr u24)) else ((fn104_l1 step go get put n17) u24))) else none) else none) else (some (.inl xs7)) := rfl
def fn104_k1 {σ : Type} (xs14 : σ) : Option (σ) :=
 some xs14
theorem fn104_k1_s {σ : Type} (xs14 : σ) : fn104_k1 xs14 = some xs14 := rfl
def fn104 {σ : Type} (F : Nat) (step : σ → Visit → Option σ) (go : σ → Bool) (get : σ → List Visit) (put : List Visit → σ → σ) (s0 : σ) : Option σ :=
 Option.bind (fn104_l1 step go get put F s0) fun o15 => (match o15 with | .inl u => fn104_k1 u | .inr u => some u)
theorem c104 {σ : Type} (F : Nat) (step : σ → Visit → Option σ) (go : σ → Bool) (get : σ → List Visit) (put : List Visit → σ → σ) (s0 : σ) (r : σ) (h : fn104 F step go get put s0 = some r) (hpg : ∀ s, put (get s) s = s) (yv : Value) (J : σ → Blocks → Prop) : ConY Tryz.prog 104 [.v yv, .p 0 0] [(0, .cells 164 [.p 1 0]), (2, .bx (J s0))] 3 (.tu []) [(0, .cells 164 [.p 1 0]), (2, .bx (J r))] 3 (fun w R ρ => YldY Tryz.prog w R ρ 0 yv J (Yn.one (Vn.ag Visit.E)) step go ∧ ∃ b, blkOf (ρ 1) = some b ∧ LensB (Visit.E).toEn 109 b 106 get put J) := by
 rw [fn104] at h
 refine ConY.of_body Tryz.func104 rfl Tryz.ntmps104 rfl fun w F0 ρ hy => ?_
 obtain ⟨hy, b, hb, hl⟩ := hy
 refine U_ tbOk 0 [] aN ?_
 obtain ⟨o15, hl16, h⟩ := bd h
 refine CTS 0 (fun u => ⟨[], [(0, .cells 164 [.p 1 0]), (2, .bx (J u))], 3⟩) o15 ?_ (fun u hu => ?_)
 ·have h019 := h
  clear h
  refine G4.imp (I_ [0, 1, 2]) (LP (fun (n : Nat) (s : σ) => fn104_l1 step go get put n s) (fun (s : σ) => ⟨[(0, .v yv), (1, .p 0 0)], [(0, .cells 164 [.p 1 0]), (2, .bx (J s))], 3⟩) (fun _ => rfl) (s0 := s0) hl16 ?_)
  clear hl16
  rintro R20 n17 xs7 h ih18
  replace h := (fn104_l1_s step go get put n17 xs7).symm.trans h
  refine U_ tbOk 3 [] aN ?_
  refine G4.imp (Imp.openJ hl hb rfl (by rfl)) ?_
  refine U_ tbOk 3 [] aN ?_
  refine C_ h (fun h hb21 => ?_) fun h hb21 => ?_
  ·refine U_ tbOk 0 [] aN ?_
   obtain ⟨hk22, h⟩ := ck h
   refine DR tbOk hmix [3] [([0], []), ([], []), ([], []), ([1], []), ([0], []), ([], []), ([], []), ([1], []), ([3], []), ([], []), ([3], []), ([3], []), ([], []), ([4], [4])] [] (aR (aR (aR (aR (aR (aR (aC hk22 (aR (aR aN))))))))) (by rfl) ?_
   refine U_ tbOk 0 [] aN ?_
   obtain ⟨hk23, h⟩ := ck h
   refine DR tbOk hmix [] [([0], []), ([0], []), ([], []), ([], []), ([1], []), ([0], []), ([], []), ([], []), ([1], []), ([3], []), ([], []), ([3], []), ([], []), ([], []), ([1], [1])] [.sc] (aR (aR (aR (aR (aR (aR (aR (aC hk23 (aR aN))))))))) (by rfl) ?_
   refine G4.imp (Imp.cutC Visit.E 3 1 0 (by rfl) (by rfl) (by rfl) (by rfl) (by rfl)) ?_
   refine U_ tbOk 2 [] aN ?_
   refine G4.imp (Imp.closeJ (s' := put (cutX (get xs7) 0 ((IntKind.i64.wrap (((get xs7).length : Int) - 1)).toNat - ((0 : Nat) : Int).toNat)) xs7) hb rfl (by rfl) (by rfl) (by rfl) (rfl)) ?_
   obtain ⟨u24, hu25, h⟩ := bd h
   refine U_ tbOk 2 [.yd 2 (gt (get xs7) (IntKind.i64.wrap (((get xs7).length : Int) - 1))) hy rfl hu25] (aR (aR (aR aN))) ?_
   refine C_ h (fun h hb26 => ?_) fun h hb26 => ?_
   ·refine U_ tbOk 0 [] aN ?_
    obtain rfl := sj h
    replace h := h019
    refine U_ tbOk 0 [] aN ?_
    obtain rfl := sj h
    exact T_ tbOk.t Tryz.results104 [0, 1, 2]
   ·refine U_ tbOk 0 [] aN ?_
    exact ih18 u24 h _ _ (I_ [0, 1, 2])
  ·refine U_ tbOk 0 [] aN ?_
   refine G4.imp (Imp.closeJ (s' := xs7) hb rfl (by rfl) (by rfl) (by rfl) (hpg _)) ?_
   obtain rfl := sj h
   exact CES _ rfl (I_ [0, 1, 2])
 ·subst hu
  replace h := (fn104_k1_s u).symm.trans h
  refine U_ tbOk 0 [] aN ?_
  obtain rfl := sj h
  exact TN_ tbOk.t Tryz.results104 [0, 1, 2]
def fn62 (p0 : List (Int × Unit)) (p1 : Int) : Bool × (List (Int × Unit)) :=
 (!(mhas p0 p1), mput p0 p1 ())
theorem c62 (p0 : List (Int × Unit)) (p1 : Int) (r : Bool × (List (Int × Unit))) (h : fn62 p0 p1 = r) : Con Tryz.prog 62 [.mp 0, .v (.int .i64 p1)] [(0, .omap (Kn.int .i64) Vn.unit p0)] 1 (.v (.bool r.1)) [(0, .omap (Kn.int .i64) Vn.unit r.2)] 1 := by
 rw [fn62] at h
 refine Con.of_body Tryz.func62 rfl Tryz.ntmps62 rfl fun w F0 ρ => ?_
 refine U_ tbOk 17 [.lo (Kn.int .i64) Vn.unit _ p1 () Tryz.runUnderlying103 Tryz.runUnderlying3 Tryz.zeroValue113, .mu (Kn.int .i64) Vn.unit _ p1 () Tryz.runUnderlying103 Tryz.runUnderlying3] (aR (aR (aR (aR (aR aN))))) ?_
 subst h
 exact T_ tbOk.t Tryz.results62 [0]
def fn25_l2 (v1 : (List (List Int))) (y6 : Visit) : Nat → (List Visit) → Int → Option ((List Visit))
 | 0, _, _ => none
 | n87 + 1, xs78, x79 => bif decide (x79 < ((gt v1 y6.fat).length : Int)) then (bif inb x79 ((gt v1 y6.fat).length) then (Option.bind (fn60 (⟨xs78⟩ : S_flow_visit_) ([(⟨gt (gt v1 y6.fat) x79, false⟩ : Visit)] : List Visit)) fun v93 => ((fn25_l2 v1 y6 n87) v93.fl (IntKind.i64.wrap (x79 + 1)))) else none) else (some xs78)
theorem fn25_l2_s (v1 : (List (List Int))) (y6 : Visit) (n87 : Nat) (xs78 : List Visit) (x79 : Int) : fn25_l2 v1 y6 (n87 + 1) xs78 x79 = bif decide (x79 < ((gt v1 y6.fat).length : Int)) then (bif inb x79 ((gt v1 y6.fat).length) then (Option.bind (fn60 (⟨xs78⟩ : S_flow_visit_) ([(⟨gt (gt v1 y6.fat) x79, false⟩ : Visit)] : List Visit)) fun v93 => ((fn25_l2 v1 y6 n87) v93.fl (IntKind.i64.wrap (x79 + 1)))) else none) else (some xs78) := rfl
def fn25_k2 (x35 : Bool) (xs36 : List (Int × Unit)) (xs37 : List (Int × Unit)) (y6 : Visit) (xs84 : List Visit) : Option ((Bool × (List (Int × Unit)) × (List (Int × Unit)) × (List Visit)) × Nat) :=
 some ((x35, (fn62 xs36 y6.fat).2, xs37, xs84), 0)
theorem fn25_k2_s (x35 : Bool) (xs36 : List (Int × Unit)) (xs37 : List (Int × Unit)) (y6 : Visit) (xs84 : List Visit) : fn25_k2 x35 xs36 xs37 y6 xs84 = some ((x35, (fn62 xs36 y6.fat).2, xs37, xs84), 0) := rfl
def fn25_r1 (F : Nat) (v1 : (List (List Int))) (x35 : Bool) (xs36 : List (Int × Unit)) (xs37 : List (Int × Unit)) (xs38 : List Visit) (y6 : Visit) : Option ((Bool × (List (Int × Unit)) × (List (Int × Unit)) × (List Visit)) × Nat) :=
 bif y6.fleft then (some ((x35, mdel xs36 y6.fat, (fn62 xs37 y6.fat).2, xs38), 0)) else (bif mhas xs37 y6.fat then (some ((x35, xs36, xs37, xs38), 0)) else (bif !((fn62 xs36 y6.fat).1) then (some ((true, (fn62 xs36 y6.fat).2, xs37, xs38), 1)) else (Option.bind (fn60 (⟨xs38⟩ : S_flow_visit_) ([(⟨y6.fat, true⟩ : Visit)] : List Visit)) fun v71 => (bif inb y6.fat v1.length then (Option.bind (fn25_l2 v1 y6 F v71.fl 0) fun o85 => (fn25_k2 x35 xs36 xs37 y6 o85)) else none))))
theorem fn25_r1_s (F : Nat) (v1 : (List (List Int))) (x35 : Bool) (xs36 : List (Int × Unit)) (xs37 : List (Int × Unit)) (xs38 : List Visit) (y6 : Visit) : fn25_r1 F v1 x35 xs36 xs37 xs38 y6 = bif y6.fleft then (some ((x35, mdel xs36 y6.fat, (fn62 xs37 y6.fat).2, xs38), 0)) else (bif mhas xs37 y6.fat then (some ((x35, xs36, xs37, xs38), 0)) else (bif !((fn62 xs36 y6.fat).1) then (some ((true, (fn62 xs36 y6.fat).2, xs37, xs38), 1)) else (Option.bind (fn60 (⟨xs38⟩ : S_flow_visit_) ([(⟨y6.fat, true⟩ : Visit)] : List Visit)) fun v71 => (bif inb y6.fat v1.length then (Option.bind (fn25_l2 v1 y6 F v71.fl 0) fun o85 => (fn25_k2 x35 xs36 xs37 y6 o85)) else none)))) := rfl
def fn25_k1_0 (x35 : Bool) (xs36 : List (Int × Unit)) (xs37 : List (Int × Unit)) (xs38 : List Visit) : Option (Bool) :=
 some false
theorem fn25_k1_0_s (x35 : Bool) (xs36 : List (Int × Unit)) (xs37 : List (Int × Unit)) (xs38 : List Visit) : fn25_k1_0 x35 xs36 xs37 xs38 = some false := rfl
def fn25_k1_1 (x35 : Bool) (xs36 : List (Int × Unit)) (xs37 : List (Int × Unit)) (xs38 : List Visit) : Option (Bool) :=
 some x35
theorem fn25_k1_1_s (x35 : Bool) (xs36 : List (Int × Unit)) (xs37 : List (Int × Unit)) (xs38 : List Visit) : fn25_k1_1 x35 xs36 xs37 xs38 = some x35 := rfl
def fn25 (F : Nat) (p0 : List Instr) : Option (Bool) :=
 Option.bind (fn59 F p0) fun v1 => (bif v1.isEmpty then (some false) else (Option.bind (fn60 (⟨([] : List Visit)⟩ : S_flow_visit_) ([(⟨0, false⟩ : Visit)] : List Visit)) fun v4 => (Option.bind (fn104 F (stepR (fun (s : Bool × (List (Int × Unit)) × (List (Int × Unit)) × (List Visit)) (y : Visit) => fn25_r1 F v1 s.1 s.2.1 s.2.2.1 s.2.2.2 y)) goR (fun (s : (Bool × (List (Int × Unit)) × (List (Int × Unit)) × (List Visit)) × Nat) => s.1.2.2.2) (fun xs (s : (Bool × (List (Int × Unit)) × (List (Int × Unit)) × (List Visit)) × Nat) => ((s.1.1, s.1.2.1, s.1.2.2.1, xs), s.2)) (((false, ([] : List (Int × Unit)), ([] : List (Int × Unit)), v4.fl), 0) : (Bool × (List (Int × Unit)) × (List (Int × Unit)) × (List Visit)) × Nat)) fun o95 => (bif Nat.beq o95.2 0 then (fn25_k1_0 o95.1.1 o95.1.2.1 o95.1.2.2.1 o95.1.2.2.2) else (bif Nat.beq o95.2 1 then (fn25_k1_1 o95.1.1 o95.1.2.1 o95.1.2.2.1 o95.1.2.2.2) else none)))))
theorem c25 (F : Nat) (p0 : List Instr) (r : Bool) (h : fn25 F p0 = some r) : Con Tryz.prog 25 [.sl 0] [(0, .rd Instr.E p0)] 1 (.v (.bool r)) [] 1 := by
 rw [fn25] at h
 refine Con.of_body Tryz.func25 rfl Tryz.ntmps25 rfl fun w F0 ρ => ?_
 obtain ⟨v1, hv2, h⟩ := bd h
 refine U_ tbOk 7 [.cl true [0] (fun _ => c59 F p0 _ hv2)] (aK aN) ?_
 refine C_ h (fun h hb3 => ?_) fun h hb3 => ?_
 ·refine U_ tbOk 1 [] aN ?_
  obtain rfl := sj h
  exact T_ tbOk.t Tryz.results25 [0]
 ·refine U_ tbOk 9 [.mm (Kn.int .i64) Vn.unit, .mm (Kn.int .i64) Vn.unit, .bs Visit.E ([(⟨0, false⟩ : Visit)] : List Visit)] (aR (aR aN)) ?_
  refine G4.imp (Imp.nilC Visit.E 109 8 0 (by rfl) (by rfl) (by rfl)) ?_
  refine U_ tbOk 0 [] aN ?_
  refine G4.imp (Imp.row 10 (by rfl)) ?_
  obtain ⟨v4, hv5, h⟩ := bd h
  refine U_ tbOk 2 [.cl true [8, 10, 9] (fun _ => c60 (⟨([] : List Visit)⟩ : S_flow_visit_) ([(⟨0, false⟩ : Visit)] : List Visit) _ hv5), .cl true [8, 11] (fun _ => c61 v4 _ rfl)] (aK (aK aN)) ?_
  obtain ⟨o95, ho96, h⟩ := bd h
  refine G4.imp (s' := ⟨[(2, .p 1 0), (3, .p 2 0), (4, .p 3 0), (5, .p 4 0), (6, .p 5 0), (21, .fn (.func 104) [] [.p 6 0])], (6, .cells 164 [.p 5 0]) :: ((5, .cells 106 [.sl 10]) :: (10, .row Visit.E 109 ((fun (s : Bool × (List (Int × Unit)) × (List (Int × Unit)) × (List Visit)) => s.2.2.2) (false, ([] : List (Int × Unit)), ([] : List (Int × Unit)), v4.fl)) ((fun (s : Bool × (List (Int × Unit)) × (List (Int × Unit)) × (List Visit)) => s.2.2.2) (false, ([] : List (Int × Unit)), ([] : List (Int × Unit)), v4.fl)).length .unk) :: ((fun (s : Bool × (List (Int × Unit)) × (List (Int × Unit)) × (List Visit)) => ([(1, .cells 4 [.v (.bool s.1)]), (2, .cells 100 [.sl 7]), (3, .cells 103 [.mp 8]), (4, .cells 103 [.mp 9]), (7, .rowL (Et.int .i64) 3 59 v1 v1.length), (8, .omap (Kn.int .i64) Vn.unit s.2.1), (9, .omap (Kn.int .i64) Vn.unit s.2.2.1)] : SH)) (false, ([] : List (Int × Unit)), ([] : List (Int × Unit)), v4.fl)) ++ [(0, .rd Instr.E p0)]), 11⟩) (I_ [0, 1, 3, 6, 7, 8, 12, 2, 4, 5, 11]) ?_
  refine RF2 [22] (Yn.one (Vn.ag Visit.E)) (fun (s : Bool × (List (Int × Unit)) × (List (Int × Unit)) × (List Visit)) => s.2.2.2) (fun xs (s : Bool × (List (Int × Unit)) × (List (Int × Unit)) × (List Visit)) => (s.1, s.2.1, s.2.2.1, xs)) (fun (s : Bool × (List (Int × Unit)) × (List (Int × Unit)) × (List Visit)) => [(1, .cells 4 [.v (.bool s.1)]), (2, .cells 100 [.sl 7]), (3, .cells 103 [.mp 8]), (4, .cells 103 [.mp 9]), (7, .rowL (Et.int .i64) 3 59 v1 v1.length), (8, .omap (Kn.int .i64) Vn.unit s.2.1), (9, .omap (Kn.int .i64) Vn.unit s.2.2.1)]) [(0, .rd Instr.E p0)] 7 6 5 10 (fun (s : Bool × (List (Int × Unit)) × (List (Int × Unit)) × (List Visit)) (y : Visit) => fn25_r1 F v1 s.1 s.2.1 s.2.2.1 s.2.2.2 y) (false, ([] : List (Int × Unit)), ([] : List (Int × Unit)), v4.fl) o95.1 o95.2 Tryz.call104 (by rfl) rfl (fun _ _ => ⟨rfl, rfl⟩) (by rfl) (fun _ _ => rfl) (fun _ => trivial) (fun _ => by rfl) (fun yv J => c104 F (stepR (fun (s : Bool × (List (Int × Unit)) × (List (Int × Unit)) × (List Visit)) (y : Visit) => fn25_r1 F v1 s.1 s.2.1 s.2.2.1 s.2.2.2 y)) goR (fun (s : (Bool × (List (Int × Unit)) × (List (Int × Unit)) × (List Visit)) × Nat) => s.1.2.2.2) (fun xs (s : (Bool × (List (Int × Unit)) × (List (Int × Unit)) × (List Visit)) × Nat) => ((s.1.1, s.1.2.1, s.1.2.2.1, xs), s.2)) ((false, ([] : List (Int × Unit)), ([] : List (Int × Unit)), v4.fl), 0) o95 ho96 (fun _ => rfl) yv J) ?_ ?_
  ·clear h ho96
   rintro l1 w1 R1 ρ1 pA pB QA QB ⟨x35, xs36, xs37, xs38⟩ y6 s1' m1' h hbg66 hend67
   replace h := (fn25_r1_s F v1 x35 xs36 xs37 xs38 y6).symm.trans h
   refine U_ tbOk 2 [] aN ?_
   refine hbg66 _ _ _ (by rfl) ?_
   refine U_ tbOk 2 [] aN ?_
   refine C_ h (fun h hb68 => ?_) fun h hb68 => ?_
   ·refine U_ tbOk 8 [.de (Kn.int .i64) Vn.unit _ y6.fat Tryz.runUnderlying103 Tryz.runUnderlying3, .cl true [9] (fun _ => c62 xs37 y6.fat _ rfl)] (aR (aR (aK aN))) ?_
    cases Option.some.inj h
    exact hend67 _ (I_ [0, 1, 2, 3, 4, 5, 6, 7, 8, 9, 10, 11])
   ·refine U_ tbOk 11 [.lo (Kn.int .i64) Vn.unit _ y6.fat () Tryz.runUnderlying103 Tryz.runUnderlying3 Tryz.zeroValue113] (aR (aR aN)) ?_
    refine C_ h (fun h hb69 => ?_) fun h hb69 => ?_
    ·refine U_ tbOk 0 [] aN ?_
     cases Option.some.inj h
     exact hend67 _ (I_ [0, 1, 2, 3, 4, 5, 6, 7, 8, 9, 10, 11])
    ·refine U_ tbOk 5 [.cl true [8] (fun _ => c62 xs36 y6.fat _ rfl)] (aK aN) ?_
     refine C_ h (fun h hb70 => ?_) fun h hb70 => ?_
     ·refine U_ tbOk 1 [] aN ?_
      cases Option.some.inj h
      exact hend67 _ (I_ [0, 1, 2, 3, 4, 5, 6, 7, 8, 9, 10, 11])
     ·obtain ⟨v71, hv72, h⟩ := bd h
      obtain ⟨hk73, h⟩ := ck h
      refine U_ tbOk 12 [.bs Visit.E ([(⟨y6.fat, true⟩ : Visit)] : List Visit), .cl true [5, 10, 14] (fun _ => c60 (⟨xs38⟩ : S_flow_visit_) ([(⟨y6.fat, true⟩ : Visit)] : List Visit) _ hv72), .ix, .ld (Et.int .i64) 3 _] (aR (aR (aK (aC hk73 (aR (aC hk73 aN)))))) ?_
      obtain ⟨o85, hl86, h⟩ := bd h
      refine CT 2 ⟨[], [(0, .rd Instr.E p0), (1, .cells 4 [.v (.bool x35)]), (2, .cells 100 [.sl 7]), (3, .cells 103 [.mp 8]), (4, .cells 103 [.mp 9]), (5, .cells 106 [.sl 11]), (7, .ex (pLo (Et.int .i64) 3 59 v1 y6.fat) [.sl 12]), (8, .omap (Kn.int .i64) Vn.unit ((fn62 xs36 y6.fat).2)), (9, .omap (Kn.int .i64) Vn.unit xs37), (10, .bx pB), (11, .row Visit.E 109 o85 o85.length .unk), (12, .row (Et.int .i64) 3 (gt v1 y6.fat) ((gt v1 y6.fat).length) .unk)], 13⟩ ?_ ?_
      ·have h089 := h
       clear h
       refine G4.imp (I_ [0, 1, 2, 3, 4, 5, 6, 7, 8, 9, 11, 15, 16]) (LP (fun (n : Nat) (s : (List Visit) × Int) => fn25_l2 v1 y6 n s.1 s.2) (fun (s : (List Visit) × Int) => ⟨[(6, .p 5 0), (54, .sl 12), (55, .v (.int .i64 ((gt v1 y6.fat).length : Int))), (56, .v (.int .i64 s.2))], [(0, .rd Instr.E p0), (1, .cells 4 [.v (.bool x35)]), (2, .cells 100 [.sl 7]), (3, .cells 103 [.mp 8]), (4, .cells 103 [.mp 9]), (5, .cells 106 [.sl 11]), (7, .ex (pLo (Et.int .i64) 3 59 v1 y6.fat) [.sl 12]), (8, .omap (Kn.int .i64) Vn.unit ((fn62 xs36 y6.fat).2)), (9, .omap (Kn.int .i64) Vn.unit xs37), (10, .bx pB), (11, .row Visit.E 109 s.1 s.1.length .unk), (12, .row (Et.int .i64) 3 (gt v1 y6.fat) ((gt v1 y6.fat).length) .unk)], 13⟩) (fun _ => rfl) (s0 := (v71.fl, 0)) hl86 ?_)
       clear hl86
       rintro R90 n87 ⟨xs78, x79⟩ h ih88
       replace h := (fn25_l2_s v1 y6 n87 xs78 x79).symm.trans h
       refine U_ tbOk 1 [] aN ?_
       refine C_ h (fun h hb91 => ?_) fun h hb91 => ?_
       ·obtain ⟨hk92, h⟩ := ck h
        obtain ⟨v93, hv94, h⟩ := bd h
        refine U_ tbOk 9 [.bs Visit.E ([(⟨gt (gt v1 y6.fat) x79, false⟩ : Visit)] : List Visit), .cl true [5, 11, 13] (fun _ => c60 (⟨xs78⟩ : S_flow_visit_) ([(⟨gt (gt v1 y6.fat) x79, false⟩ : Visit)] : List Visit) _ hv94)] (aC hk92 (aR (aR (aK aN)))) ?_
        exact ih88 (v93.fl, IntKind.i64.wrap (x79 + 1)) h _ _ (I_ [0, 1, 2, 3, 4, 5, 6, 7, 8, 9, 10, 14, 12])
       ·refine U_ tbOk 0 [] aN ?_
        obtain rfl := sj h
        exact CE (I_ [0, 1, 2, 3, 4, 5, 6, 7, 8, 9, 10, 11, 12])
      ·replace h := (fn25_k2_s x35 xs36 xs37 y6 o85).symm.trans h
       refine U_ tbOk 0 [] aN ?_
       refine G4.imp (Imp.closeL 7 12 (by rfl) (by rfl) (by rfl)) ?_
       cases Option.some.inj h
       exact hend67 _ (I_ [0, 1, 2, 3, 4, 5, 6, 7, 8, 9, 11, 10])
  ·intro r97
   refine CDS h (fun h hb99 => ?_) (fun h hb99 => ?_)
   ·rw [show o95.2 = 0 from Nat.eq_of_beq_eq_true hb99]
    replace h := (fn25_k1_0_s o95.1.1 o95.1.2.1 o95.1.2.2.1 o95.1.2.2.2).symm.trans h
    refine U_ tbOk 1 [] aN ?_
    obtain rfl := sj h
    exact RTM tbOk.t [(11, r97)] rfl ⟨rfl, trivial⟩ Tryz.results25 [0] (by rfl) (by rfl) (by rfl) rfl rfl
   refine CDS h (fun h hb100 => ?_) (fun h hb100 => ?_)
   ·rw [show o95.2 = 1 from Nat.eq_of_beq_eq_true hb100]
    replace h := (fn25_k1_1_s o95.1.1 o95.1.2.1 o95.1.2.2.1 o95.1.2.2.2).symm.trans h
    refine U_ tbOk 0 [] aN ?_
    obtain rfl := sj h
    exact RTM tbOk.t [(11, r97)] rfl ⟨rfl, trivial⟩ Tryz.results25 [0] (by rfl) (by rfl) (by rfl) rfl rfl
   cases h
def fn26_r1 (xs7 : List (Int × Bool)) (y4 : Int) (y5 : Slot) : Option (((List (Int × Bool))) × Nat) :=
 bif (fn44 y5 y4).2 then (some (mput xs7 ((fn44 y5 y4).1) true, 0)) else (some (xs7, 0))
theorem fn26_r1_s (xs7 : List (Int × Bool)) (y4 : Int) (y5 : Slot) : fn26_r1 xs7 y4 y5 = bif (fn44 y5 y4).2 then (some (mput xs7 ((fn44 y5 y4).1) true, 0)) else (some (xs7, 0)) := rfl
def fn26_k1_0 (xs7 : List (Int × Bool)) : Option (((List Int))) :=
 Option.bind (fn63 xs7) fun v15 => (some v15)
theorem fn26_k1_0_s (xs7 : List (Int × Bool)) : fn26_k1_0 xs7 = Option.bind (fn63 xs7) fun v15 => (some v15) := rfl
def fn26 (F : Nat) (p0 : List Instr) : Option ((List Int)) :=
 Option.bind (fn20 F p0) fun v1 => (bif v1.2 != 0 then (some ([] : List Int)) else (Option.bind (fn88 F (stepR (fun (s : (List (Int × Bool))) (y : Int × Slot) => fn26_r1 s y.1 y.2)) goR p0 ((([] : List (Int × Bool)), 0) : ((List (Int × Bool))) × Nat)) fun o12 => (bif Nat.beq o12.2 0 then (fn26_k1_0 o12.1) else none)))
theorem c26 (F : Nat) (p0 : List Instr) (r : (List Int)) (h : fn26 F p0 = some r) : Con Tryz.prog 26 [.sl 0] [(0, .rd Instr.E p0)] 1 (.sl 1) [(1, .row (Et.int .i64) 3 r r.length .unk)] 2 := by
 rw [fn26] at h
 refine Con.of_body Tryz.func26 rfl Tryz.ntmps26 rfl fun w F0 ρ => ?_
 obtain ⟨v1, hv2, h⟩ := bd h
 refine U_ tbOk 10 [.cl true [0] (fun _ => c20 F p0 _ hv2)] (aK aN) ?_
 refine C_ h (fun h hb3 => ?_) fun h hb3 => ?_
 ·refine U_ tbOk 1 [] aN ?_
  obtain rfl := sj h
  refine G4.imp (Imp.nil (Et.int .i64) 3 2 (by rfl)) ?_
  refine G4.imp (Imp.row 1 (by rfl)) ?_
  exact T_ tbOk.t Tryz.results26 [0, 1]
 ·refine U_ tbOk 5 [.mm (Kn.int .i64) Vn.bool, .cl true [0] (fun _ => c39 p0 _ rfl)] (aK aN) ?_
  obtain ⟨o12, ho13, h⟩ := bd h
  refine G4.imp (s' := ⟨[(5, .p 1 0), (19, .fn (.func 88) [] [.p 2 0])], (2, .cells 22 [.sl 0]) :: ((fun (s : (List (Int × Bool))) => ([(1, .cells 76 [.mp 3]), (3, .omap (Kn.int .i64) Vn.bool s)] : SH)) ([] : List (Int × Bool)) ++ [(0, .rd Instr.E p0)]), 4⟩) (I_ [0, 2, 3, 1]) ?_
  refine RF [20, 21] (Yn.two (Vn.int .i64) (Vn.ag Slot.E)) (fun (s : (List (Int × Bool))) => [(1, .cells 76 [.mp 3]), (3, .omap (Kn.int .i64) Vn.bool s)]) [(0, .rd Instr.E p0)] 3 2 0 (fun (s : (List (Int × Bool))) (y : Int × Slot) => fn26_r1 s y.1 y.2) ([] : List (Int × Bool)) o12.1 o12.2 Tryz.call88 (by rfl) (by rfl) (by rfl) (fun _ _ => rfl) (fun _ _ => trivial) (fun _ => by rfl) (fun yv J => c88 F (stepR (fun (s : (List (Int × Bool))) (y : Int × Slot) => fn26_r1 s y.1 y.2)) goR p0 (([] : List (Int × Bool)), 0) o12 ho13 yv J) ?_ ?_
  ·clear h ho13
   rintro l1 w1 R1 ρ1 pA pB QA QB xs7 ⟨y4, y5⟩ s1' m1' h hbg9 hend10
   replace h := (fn26_r1_s xs7 y4 y5).symm.trans h
   refine U_ tbOk 3 [] aN ?_
   refine hbg9 _ _ _ (by rfl) ?_
   refine U_ tbOk 9 [.cl true [] (fun _ => c44 y5 y4 _ rfl)] (aK aN) ?_
   refine C_ h (fun h hb11 => ?_) fun h hb11 => ?_
   ·refine U_ tbOk 3 [.mu (Kn.int .i64) Vn.bool _ ((fn44 y5 y4).1) true Tryz.runUnderlying76 Tryz.runUnderlying3] (aR (aR (aR aN))) ?_
    cases Option.some.inj h
    exact hend10 _ (I_ [0, 1, 2, 3, 4])
   ·refine U_ tbOk 0 [] aN ?_
    cases Option.some.inj h
    exact hend10 _ (I_ [0, 1, 2, 3, 4])
  ·intro r14
   refine CDS h (fun h hb17 => ?_) (fun h hb17 => ?_)
   ·rw [show o12.2 = 0 from Nat.eq_of_beq_eq_true hb17]
    replace h := (fn26_k1_0_s o12.1).symm.trans h
    obtain ⟨v15, hv16, h⟩ := bd h
    refine U_ tbOk 3 [.cl true [3] (fun _ => c63 o12.1 _ hv16)] (aK aN) ?_
    obtain rfl := sj h
    exact RTM tbOk.t [(4, r14)] rfl ⟨rfl, trivial⟩ Tryz.results26 [0, 5] (by rfl) (by rfl) (by rfl) rfl rfl
   cases h
def fn107_l1 (p0 : Known) (p1 : List Int) : Nat → (Ar Int 8) → Int → Option ((Ar Int 8))
 | 0, _, _ => none
 | n16 + 1, x6, x7 => bif decide (x7 < (p1.length : Int)) then (bif inb x7 p1.length then (bif p0.fregs.fwidth != 0 then (bif inb (IntKind.i64.wrap ((gt p1 x7).tdiv p0.fregs.fwidth)) 8 then (bif decide ((0 : Int) ≤ (gt p1 x7).tmod p0.fregs.fwidth) then ((fn107_l1 p0 p1 n16) (x6.set (IntKind.i64.wrap ((gt p1 x7).tdiv p0.fregs.fwidth)) (ior .u16 (gt x6.l (IntKind.i64.wrap ((gt p1 x7).tdiv p0.fregs.fwidth))) (ishl .u16 1 ((gt p1 x7).tmod p0.fregs.fwidth)))) (IntKind.i64.wrap (x7 + 1))) else none) else none) else none) else none) else (some x6)
theorem fn107_l1_s (p0 : Known) (p1 : List Int) (n16 : Nat) (x6 : Ar Int 8) (x7 : Int) : fn107_l1 p0 p1 (n16 + 1) x6 x7 = bif decide (x7 < (p1.length : Int)) then (bif inb x7 p1.length then (bif p0.fregs.fwidth != 0 then (bif inb (IntKind.i64.wrap ((gt p1 x7).tdiv p0.fregs.fwidth)) 8 then (bif decide ((0 : Int) ≤ (gt p1 x7).tmod p0.fregs.fwidth) then ((fn107_l1 p0 p1 n16) (x6.set (IntKind.i64.wrap ((gt p1 x7).tdiv p0.fregs.fwidth)) (ior .u16 (gt x6.l (IntKind.i64.wrap ((gt p1 x7).tdiv p0.fregs.fwidth))) (ishl .u16 1 ((gt p1 x7).tmod p0.fregs.fwidth)))) (IntKind.i64.wrap (x7 + 1))) else none) else none) else none) else none) else (some x6) := rfl
def fn107_k1 (p0 : Known) (x13 : Ar Int 8) : Option (Known) :=
 some (⟨(⟨x13, p0.fregs.fwidth⟩ : Bag16), p0.fbytes⟩ : Known)
theorem fn107_k1_s (p0 : Known) (x13 : Ar Int 8) : fn107_k1 p0 x13 = some (⟨(⟨x13, p0.fregs.fwidth⟩ : Bag16), p0.fbytes⟩ : Known) := rfl
def fn107 (F : Nat) (p0 : Known) (p1 : List Int) : Option (Known) :=
 Option.bind (fn107_l1 p0 p1 F p0.fregs.fwords 0) fun o14 => (fn107_k1 p0 o14)
theorem c107 (F : Nat) (p0 : Known) (p1 : List Int) (r : Known) (h : fn107 F p0 p1 = some r) : Con Tryz.prog 107 [.p 0 0, .sl 1] [(0, .cells 125 [.ar (En.int .u16) 8 p0.fregs.fwords, .v (.int .i64 p0.fregs.fwidth), .ar (En.int .u64) 8 p0.fbytes.fwords, .v (.int .i64 p0.fbytes.fwidth)]), (1, .rd (Et.int .i64) p1)] 2 (.tu []) [(0, .cells 125 [.ar (En.int .u16) 8 r.fregs.fwords, .v (.int .i64 r.fregs.fwidth), .ar (En.int .u64) 8 r.fbytes.fwords, .v (.int .i64 r.fbytes.fwidth)])] 2 := by
 rw [fn107] at h
 refine Con.of_body Tryz.func107 rfl Tryz.ntmps107 rfl fun w F0 ρ => ?_
 refine U_ tbOk 3 [] aN ?_
 obtain ⟨o14, hl15, h⟩ := bd h
 refine CT 0 ⟨[], [(0, .cells 125 [.ar (En.int .u16) 8 o14, .v (.int .i64 p0.fregs.fwidth), .ar (En.int .u64) 8 p0.fbytes.fwords, .v (.int .i64 p0.fbytes.fwidth)]), (1, .rd (Et.int .i64) p1)], 2⟩ ?_ ?_
 ·have h018 := h
  clear h
  refine G4.imp (I_ [0, 1]) (LP (fun (n : Nat) (s : (Ar Int 8) × Int) => fn107_l1 p0 p1 n s.1 s.2) (fun (s : (Ar Int 8) × Int) => ⟨[(0, .p 0 0), (6, .sl 1), (7, .v (.int .i64 (p1.length : Int))), (8, .v (.int .i64 s.2))], [(0, .cells 125 [.ar (En.int .u16) 8 s.1, .v (.int .i64 p0.fregs.fwidth), .ar (En.int .u64) 8 p0.fbytes.fwords, .v (.int .i64 p0.fbytes.fwidth)]), (1, .rd (Et.int .i64) p1)], 2⟩) (fun _ => rfl) (s0 := (p0.fregs.fwords, 0)) hl15 ?_)
  clear hl15
  rintro R19 n16 ⟨x6, x7⟩ h ih17
  replace h := (fn107_l1_s p0 p1 n16 x6 x7).symm.trans h
  refine U_ tbOk 1 [] aN ?_
  refine C_ h (fun h hb20 => ?_) fun h hb20 => ?_
  ·obtain ⟨hk21, h⟩ := ck h
   refine U_ tbOk 3 [] (aC hk21 aN) ?_
   obtain ⟨hk22, h⟩ := ck h
   obtain ⟨hk23, h⟩ := ck h
   obtain ⟨hk24, h⟩ := ck h
   refine DR tbOk hmix [] [([], []), ([], []), ([], []), ([], []), ([], []), ([0], []), ([], []), ([], []), ([], []), ([0], []), ([0], []), ([], []), ([], []), ([], []), ([], []), ([0], []), ([], []), ([], []), ([], []), ([], []), ([], []), ([0], []), ([0], [0])] [.sa (En.int .u16) 8 _ (ior .u16 (gt x6.l (IntKind.i64.wrap ((gt p1 x7).tdiv p0.fregs.fwidth))) (ishl .u16 1 ((gt p1 x7).tmod p0.fregs.fwidth)))] (aR (aC hk22 (aR (aC hk23 (aR (aR (aC hk22 (aC hk24 (aR (aC hk23 (aR (aR (aR aN))))))))))))) (by rfl) ?_
   refine U_ tbOk 2 [] aN ?_
   exact ih17 (x6.set (IntKind.i64.wrap ((gt p1 x7).tdiv p0.fregs.fwidth)) (ior .u16 (gt x6.l (IntKind.i64.wrap ((gt p1 x7).tdiv p0.fregs.fwidth))) (ishl .u16 1 ((gt p1 x7).tmod p0.fregs.fwidth))), IntKind.i64.wrap (x7 + 1)) h _ _ (I_ [0, 1])
  ·refine U_ tbOk 0 [] aN ?_
   obtain rfl := sj h
   exact CE (I_ [0, 1])
 ·replace h := (fn107_k1_s p0 o14).symm.trans h
  refine U_ tbOk 0 [] aN ?_
  obtain rfl := sj h
  exact TN_ tbOk.t Tryz.results107 [0, 1]
def fn64 (F : Nat) : Option (Known) :=
 Option.bind (fn107 F (⟨(⟨(Ar.rep 8 0), 16⟩ : Bag16), (⟨(Ar.rep 8 0), 64⟩ : Bag64)⟩ : Known) ([15] : List Int)) fun v1 => (some v1)
theorem c64 (F : Nat) (r : Known) (h : fn64 F = some r) : Con Tryz.prog 64 [] [] 0 (.ag [.ar (En.int .u16) 8 r.fregs.fwords, .v (.int .i64 r.fregs.fwidth), .ar (En.int .u64) 8 r.fbytes.fwords, .v (.int .i64 r.fbytes.fwidth)]) [] 0 := by
 rw [fn64] at h
 refine Con.of_body Tryz.func64 rfl Tryz.ntmps64 rfl fun w F0 ρ => ?_
 obtain ⟨v1, hv2, h⟩ := bd h
 refine U_ tbOk 11 [.bs (Et.int .i64) ([15] : List Int), .cl true [1, 2] (fun _ => c107 F (⟨(⟨(Ar.rep 8 0), 16⟩ : Bag16), (⟨(Ar.rep 8 0), 64⟩ : Bag64)⟩ : Known) ([15] : List Int) _ hv2)] (aR (aR (aK aN))) ?_
 obtain rfl := sj h
 exact T_ tbOk.t Tryz.results64 []
def fn65 (p0 : List Instr) : Unit :=
 ()
theorem c65 (p0 : List Instr) (r : Unit) (h : fn65 p0 = r) : Con Tryz.prog 65 [.sl 0] [(0, .rd Instr.E p0)] 1 (.fn (.func 108) [] [.p 1 0]) [(1, .cells 22 [.sl 0])] 2 := by
 rw [fn65] at h
 refine Con.of_body Tryz.func65 rfl Tryz.ntmps65 rfl fun w F0 ρ => ?_
 refine U_ tbOk 4 [] aN ?_
 subst h
 exact T_ tbOk.t Tryz.results65 [0, 1]
def fn108_l2 {σ : Type} (step : σ → (Int × Int) → Option σ) (go : σ → Bool) (v1 : (List (List Int))) (x30 : Int) : Nat → σ → Int → Option ((σ) ⊕ ((σ) ⊕ (σ)))
 | 0, _, _ => none
 | n81 + 1, xs71, x72 => bif decide (x72 < ((gt v1 x30).length : Int)) then (bif inb x72 ((gt v1 x30).length) then (Option.bind (step xs71 (x30, gt (gt v1 x30) x72)) fun u87 => (bif !(go u87) then (some (.inr (.inr u87))) else ((fn108_l2 step go v1 x30 n81) u87 (IntKind.i64.wrap (x72 + 1))))) else none) else (some (.inl xs71))
theorem fn108_l2_s {σ : Type} (step : σ → (Int × Int) → Option σ) (go : σ → Bool) (v1 : (List (List Int))) (x30 : Int) (n81 : Nat) (xs71 : σ) (x72 : Int) : fn108_l2 step go v1 x30 (n81 + 1) xs71 x72 = bif decide (x72 < ((gt v1 x30).length : Int)) then (bif inb x72 ((gt v1 x30).length) then (Option.bind (step xs71 (x30, gt (gt v1 x30) x72)) fun u87 => (bif !(go u87) then (some (.inr (.inr u87))) else ((fn108_l2 step go v1 x30 n81) u87 (IntKind.i64.wrap (x72 + 1))))) else none) else (some (.inl xs71)) := rfl
def fn108_k2 {σ : Type} (x30 : Int) (rl1 : σ → Int → Option ((σ) ⊕ (σ))) (xs78 : σ) : Option ((σ) ⊕ (σ)) :=
 rl1 xs78 (IntKind.i64.wrap (x30 + 1))
theorem fn108_k2_s {σ : Type} (x30 : Int) (rl1 : σ → Int → Option ((σ) ⊕ (σ))) (xs78 : σ) : fn108_k2 x30 rl1 xs78 = rl1 xs78 (IntKind.i64.wrap (x30 + 1)) := rfl
def fn108_l1 {σ : Type} (F : Nat) (step : σ → (Int × Int) → Option σ) (go : σ → Bool) (v1 : (List (List Int))) : Nat → σ → Int → Option ((σ) ⊕ (σ))
 | 0, _, _ => none
 | n60 + 1, xs29, x30 => bif decide (x30 < (v1.length : Int)) then (bif inb x30 v1.length then (Option.bind (fn108_l2 step go v1 x30 F xs29 0) fun o79 => (match o79 with | .inl u => fn108_k2 x30 (fn108_l1 F step go v1 n60) u | .inr u => some u)) else none) else (some (.inl xs29))
theorem fn108_l1_s {σ : Type} (F : Nat) (step : σ → (Int × Int) → Option σ) (go : σ → Bool) (v1 : (List (List Int))) (n60 : Nat) (xs29 : σ) (x30 : Int) : fn108_l1 F step go v1 (n60 + 1) xs29 x30 = bif decide (x30 < (v1.length : Int)) then (bif inb x30 v1.length then (Option.bind (fn108_l2 step go v1 x30 F xs29 0) fun o79 => (match o79 with | .inl u => fn108_k2 x30 (fn108_l1 F step go v1 n60) u | .inr u => some u)) else none) else (some (.inl xs29)) := rfl
def fn108_k1 {σ : Type} (xs57 : σ) : Option (σ) :=
 some xs57
theorem fn108_k1_s {σ : Type} (xs57 : σ) : fn108_k1 xs57 = some xs57 := rfl
def fn108 {σ : Type} (F : Nat) (step : σ → (Int × Int) → Option σ) (go : σ → Bool) (p1 : List Instr) (s0 : σ) : Option σ :=
 Option.bind (fn59 F p1) fun v1 => (Option.bind (fn108_l1 F step go v1 F s0 0) fun o58 => (match o58 with | .inl u => fn108_k1 u | .inr u => some u))
theorem c108 {σ : Type} (F : Nat) (step : σ → (Int × Int) → Option σ) (go : σ → Bool) (p1 : List Instr) (s0 : σ) (r : σ) (h : fn108 F step go p1 s0 = some r) (yv : Value) (J : σ → Blocks → Prop) : ConY Tryz.prog 108 [.v yv, .p 0 0] [(0, .cells 22 [.sl 1]), (1, .rd Instr.E p1), (2, .bx (J s0))] 3 (.tu []) [(0, .cells 22 [.sl 1]), (2, .bx (J r))] 3 (fun w R ρ => YldY Tryz.prog w R ρ 1 yv J (Yn.two (Vn.int .i64) (Vn.int .i64)) step go) := by
 rw [fn108] at h
 refine ConY.of_body Tryz.func108 rfl Tryz.ntmps108 rfl fun w F0 ρ hy => ?_
 obtain ⟨v1, hv2, h⟩ := bd h
 refine U_ tbOk 4 [.cl true [1] (fun _ => c59 F p1 _ hv2), .ln] (aK aN) ?_
 obtain ⟨o58, hl59, h⟩ := bd h
 refine CTS 0 (fun u => ⟨[], [(0, .cells 22 [.sl 1]), (1, .rd Instr.E p1), (2, .bx (J u))], 3⟩) o58 ?_ (fun u hu => ?_)
 ·have h062 := h
  clear h
  refine G4.imp (I_ [0, 1, 2, 3]) (LP (fun (n : Nat) (s : σ × Int) => fn108_l1 F step go v1 n s.1 s.2) (fun (s : σ × Int) => ⟨[(0, .v yv), (8, .sl 3), (9, .v (.int .i64 (v1.length : Int))), (10, .v (.int .i64 s.2))], [(0, .cells 22 [.sl 1]), (1, .rd Instr.E p1), (2, .bx (J s.1)), (3, .rowL (Et.int .i64) 3 59 v1 v1.length)], 4⟩) (fun _ => rfl) (s0 := (s0, 0)) hl59 ?_)
  clear hl59
  rintro R63 n60 ⟨xs29, x30⟩ h ih61
  replace h := (fn108_l1_s F step go v1 n60 xs29 x30).symm.trans h
  refine U_ tbOk 1 [] aN ?_
  refine C_ h (fun h hb64 => ?_) fun h hb64 => ?_
  ·obtain ⟨hk65, h⟩ := ck h
   refine U_ tbOk 8 [.ix, .ld (Et.int .i64) 3 _] (aC hk65 (aR (aC hk65 aN))) ?_
   obtain ⟨o79, hl80, h⟩ := bd h
   refine CTS 2 (fun u => ⟨[(0, .v yv), (8, .sl 3), (9, .v (.int .i64 (v1.length : Int))), (10, .v (.int .i64 x30))], [(0, .cells 22 [.sl 1]), (1, .rd Instr.E p1), (2, .bx (J u)), (3, .ex (pLo (Et.int .i64) 3 59 v1 x30) [.sl 4]), (4, .row (Et.int .i64) 3 (gt v1 x30) ((gt v1 x30).length) .unk)], 5⟩) o79 ?_ (fun u hu => ?_)
   ·have h083 := h
    clear h
    refine G4.imp (I_ [0, 1, 2, 3, 4]) (LP (fun (n : Nat) (s : σ × Int) => fn108_l2 step go v1 x30 n s.1 s.2) (fun (s : σ × Int) => ⟨[(0, .v yv), (3, .v (.int .i64 x30)), (8, .sl 3), (9, .v (.int .i64 (v1.length : Int))), (10, .v (.int .i64 x30)), (15, .sl 4), (16, .v (.int .i64 ((gt v1 x30).length : Int))), (17, .v (.int .i64 s.2))], [(0, .cells 22 [.sl 1]), (1, .rd Instr.E p1), (2, .bx (J s.1)), (3, .ex (pLo (Et.int .i64) 3 59 v1 x30) [.sl 4]), (4, .row (Et.int .i64) 3 (gt v1 x30) ((gt v1 x30).length) .unk)], 5⟩) (fun _ => rfl) (s0 := (xs29, 0)) hl80 ?_)
    clear hl80
    rintro R84 n81 ⟨xs71, x72⟩ h ih82
    replace h := (fn108_l2_s step go v1 x30 n81 xs71 x72).symm.trans h
    refine U_ tbOk 1 [] aN ?_
    refine C_ h (fun h hb85 => ?_) fun h hb85 => ?_
    ·obtain ⟨hk86, h⟩ := ck h
     obtain ⟨u87, hu88, h⟩ := bd h
     refine U_ tbOk 8 [.yd 2 (x30, gt (gt v1 x30) x72) hy rfl hu88] (aC hk86 (aR (aR (aR aN)))) ?_
     refine C_ h (fun h hb89 => ?_) fun h hb89 => ?_
     ·refine U_ tbOk 0 [] aN ?_
      obtain rfl := sj h
      replace h := h083
      refine U_ tbOk 0 [] aN ?_
      obtain rfl := sj h
      replace h := h062
      refine U_ tbOk 0 [] aN ?_
      obtain rfl := sj h
      exact T_ tbOk.t Tryz.results108 [0, 1, 2]
     ·refine U_ tbOk 2 [] aN ?_
      exact ih82 (u87, IntKind.i64.wrap (x72 + 1)) h _ _ (I_ [0, 1, 2, 3, 4])
    ·refine U_ tbOk 0 [] aN ?_
     obtain rfl := sj h
     exact CES _ rfl (I_ [0, 1, 2, 3, 4])
   ·subst hu
    replace h := (fn108_k2_s x30 (fn108_l1 F step go v1 n60) u).symm.trans h
    refine U_ tbOk 2 [] aN ?_
    refine G4.imp (Imp.closeL 3 4 (by rfl) (by rfl) (by rfl)) ?_
    exact ih61 (u, IntKind.i64.wrap (x30 + 1)) h _ _ (I_ [0, 1, 2, 3])
  ·refine U_ tbOk 0 [] aN ?_
   obtain rfl := sj h
   exact CES _ rfl (I_ [0, 1, 2])
 ·subst hu
  replace h := (fn108_k1_s u).symm.trans h
  refine U_ tbOk 0 [] aN ?_
  obtain rfl := sj h
  exact TN_ tbOk.t Tryz.results108 [0, 1, 2]
def fn153 (p0 : Int) (p1_0 : Known) : Option (Bool) :=
 bif p1_0.fregs.fwidth != 0 then (bif inb (IntKind.i64.wrap (p0.tdiv p1_0.fregs.fwidth)) 8 then (bif decide ((0 : Int) ≤ p0.tmod p1_0.fregs.fwidth) then (some ((iand .u16 (ishr .u16 (gt p1_0.fregs.fwords.l (IntKind.i64.wrap (p0.tdiv p1_0.fregs.fwidth))) (p0.tmod p1_0.fregs.fwidth)) 1) == 0)) else none) else none) else none
theorem c153 (p0 : Int) (p1_0 : Known) (r : Bool) (h : fn153 p0 p1_0 = some r) : Con Tryz.prog 153 [.v (.int .i64 p0), .p 0 0] [(0, .cells 175 [.p 1 0]), (1, .cells 125 [.ar (En.int .u16) 8 p1_0.fregs.fwords, .v (.int .i64 p1_0.fregs.fwidth), .ar (En.int .u64) 8 p1_0.fbytes.fwords, .v (.int .i64 p1_0.fbytes.fwidth)])] 2 (.v (.bool r)) [(0, .cells 175 [.p 1 0]), (1, .cells 125 [.ar (En.int .u16) 8 p1_0.fregs.fwords, .v (.int .i64 p1_0.fregs.fwidth), .ar (En.int .u64) 8 p1_0.fbytes.fwords, .v (.int .i64 p1_0.fbytes.fwidth)])] 2 := by
 rw [fn153] at h
 refine Con.of_body Tryz.func153 rfl Tryz.ntmps153 rfl fun w F0 ρ => ?_
 refine U_ tbOk 1 [] aN ?_
 obtain ⟨hk1, h⟩ := ck h
 obtain ⟨hk2, h⟩ := ck h
 obtain ⟨hk3, h⟩ := ck h
 refine DR tbOk hmix [3] [([0], []), ([], []), ([0], []), ([], []), ([], []), ([1], []), ([], []), ([], []), ([], []), ([1], []), ([1], []), ([], []), ([0], []), ([], []), ([], []), ([1], []), ([], []), ([], []), ([], []), ([], []), ([], [])] [] (aR (aR (aR (aC hk1 (aR (aC hk2 (aR (aR (aR (aC hk1 (aC hk3 aN))))))))))) (by rfl) ?_
 refine U_ tbOk 0 [] aN ?_
 obtain rfl := sj h
 exact T_ tbOk.t Tryz.results153 [0, 1]
def fn170_l1 (p0 : List Int) (p1c0_0 : Known) : Nat → Int → Option ((Unit) ⊕ (Int))
 | 0, _ => none
 | n14 + 1, x6 => bif decide (x6 < (p0.length : Int)) then (bif inb x6 p0.length then (Option.bind (fn153 (gt p0 x6) p1c0_0) fun v20 => (bif v20 then (some (.inr x6)) else ((fn170_l1 p0 p1c0_0 n14) (IntKind.i64.wrap (x6 + 1))))) else none) else (some (.inl ()))
theorem fn170_l1_s (p0 : List Int) (p1c0_0 : Known) (n14 : Nat) (x6 : Int) : fn170_l1 p0 p1c0_0 (n14 + 1) x6 = bif decide (x6 < (p0.length : Int)) then (bif inb x6 p0.length then (Option.bind (fn153 (gt p0 x6) p1c0_0) fun v20 => (bif v20 then (some (.inr x6)) else ((fn170_l1 p0 p1c0_0 n14) (IntKind.i64.wrap (x6 + 1))))) else none) else (some (.inl ())) := rfl
def fn170_k1 : Option (Int) :=
 some (-1)
theorem fn170_k1_s : fn170_k1 = some (-1) := rfl
def fn170 (F : Nat) (p0 : List Int) (p1c0_0 : Known) : Option (Int) :=
 Option.bind (fn170_l1 p0 p1c0_0 F 0) fun o12 => (match o12 with | .inl u => fn170_k1 | .inr u => some u)
theorem c170 (F : Nat) (p0 : List Int) (p1c0_0 : Known) (r : Int) (h : fn170 F p0 p1c0_0 = some r) : Con Tryz.prog 170 [.sl 0, .fn (.func 153) [] [.p 1 0]] [(0, .rd (Et.int .i64) p0), (1, .cells 175 [.p 2 0]), (2, .cells 125 [.ar (En.int .u16) 8 p1c0_0.fregs.fwords, .v (.int .i64 p1c0_0.fregs.fwidth), .ar (En.int .u64) 8 p1c0_0.fbytes.fwords, .v (.int .i64 p1c0_0.fbytes.fwidth)])] 3 (.v (.int .i64 r)) [(1, .cells 175 [.p 2 0]), (2, .cells 125 [.ar (En.int .u16) 8 p1c0_0.fregs.fwords, .v (.int .i64 p1c0_0.fregs.fwidth), .ar (En.int .u64) 8 p1c0_0.fbytes.fwords, .v (.int .i64 p1c0_0.fbytes.fwidth)])] 3 := by
 rw [fn170] at h
 refine Con.of_body Tryz.func170 rfl Tryz.ntmps170 rfl fun w F0 ρ => ?_
 refine U_ tbOk 4 [] aN ?_
 obtain ⟨o12, hl13, h⟩ := bd h
 refine CTS 0 (fun u => ⟨[], [(0, .rd (Et.int .i64) p0), (1, .cells 175 [.p 2 0]), (2, .cells 125 [.ar (En.int .u16) 8 p1c0_0.fregs.fwords, .v (.int .i64 p1c0_0.fregs.fwidth), .ar (En.int .u64) 8 p1c0_0.fbytes.fwords, .v (.int .i64 p1c0_0.fbytes.fwidth)])], 3⟩) o12 ?_ (fun u hu => ?_)
 ·have h016 := h
  clear h
  refine G4.imp (I_ [0, 1, 2]) (LP (fun (n : Nat) (s : Int) => fn170_l1 p0 p1c0_0 n s) (fun (s : Int) => ⟨[(0, .sl 0), (1, .fn (.func 153) [] [.p 1 0]), (7, .v (.int .i64 (p0.length : Int))), (8, .v (.int .i64 s))], [(0, .rd (Et.int .i64) p0), (1, .cells 175 [.p 2 0]), (2, .cells 125 [.ar (En.int .u16) 8 p1c0_0.fregs.fwords, .v (.int .i64 p1c0_0.fregs.fwidth), .ar (En.int .u64) 8 p1c0_0.fbytes.fwords, .v (.int .i64 p1c0_0.fbytes.fwidth)])], 3⟩) (fun _ => rfl) (s0 := 0) hl13 ?_)
  clear hl13
  rintro R17 n14 x6 h ih15
  replace h := (fn170_l1_s p0 p1c0_0 n14 x6).symm.trans h
  refine U_ tbOk 1 [] aN ?_
  refine C_ h (fun h hb18 => ?_) fun h hb18 => ?_
  ·obtain ⟨hk19, h⟩ := ck h
   obtain ⟨v20, hv21, h⟩ := bd h
   refine U_ tbOk 8 [.cl true [1, 2] (fun _ => c153 (gt p0 x6) p1c0_0 _ hv21)] (aC hk19 (aK aN)) ?_
   refine C_ h (fun h hb22 => ?_) fun h hb22 => ?_
   ·refine U_ tbOk 2 [] aN ?_
    obtain rfl := sj h
    replace h := h016
    refine U_ tbOk 0 [] aN ?_
    obtain rfl := sj h
    exact T_ tbOk.t Tryz.results170 [0, 1, 2]
   ·refine U_ tbOk 2 [] aN ?_
    exact ih15 (IntKind.i64.wrap (x6 + 1)) h _ _ (I_ [0, 1, 2])
  ·refine U_ tbOk 0 [] aN ?_
   obtain rfl := sj h
   exact CES _ rfl (I_ [0, 1, 2])
 ·subst hu
  replace h := (fn170_k1_s).symm.trans h
  refine U_ tbOk 1 [] aN ?_
  obtain rfl := sj h
  exact T_ tbOk.t Tryz.results170 [0, 1, 2]
def fn152 (F : Nat) (p0 : List Int) (p1c0_0 : Known) : Option (Bool) :=
 Option.bind (fn170 F p0 p1c0_0) fun v1 => (some (decide ((0 : Int) ≤ v1)))
theorem c152 (F : Nat) (p0 : List Int) (p1c0_0 : Known) (r : Bool) (h : fn152 F p0 p1c0_0 = some r) : Con Tryz.prog 152 [.sl 0, .fn (.func 153) [] [.p 1 0]] [(0, .rd (Et.int .i64) p0), (1, .cells 175 [.p 2 0]), (2, .cells 125 [.ar (En.int .u16) 8 p1c0_0.fregs.fwords, .v (.int .i64 p1c0_0.fregs.fwidth), .ar (En.int .u64) 8 p1c0_0.fbytes.fwords, .v (.int .i64 p1c0_0.fbytes.fwidth)])] 3 (.v (.bool r)) [(1, .cells 175 [.p 2 0]), (2, .cells 125 [.ar (En.int .u16) 8 p1c0_0.fregs.fwords, .v (.int .i64 p1c0_0.fregs.fwidth), .ar (En.int .u64) 8 p1c0_0.fbytes.fwords, .v (.int .i64 p1c0_0.fbytes.fwidth)])] 3 := by
 rw [fn152] at h
 refine Con.of_body Tryz.func152 rfl Tryz.ntmps152 rfl fun w F0 ρ => ?_
 obtain ⟨v1, hv2, h⟩ := bd h
 refine U_ tbOk 6 [.cl true [0, 1, 2] (fun _ => c170 F p0 p1c0_0 _ hv2)] (aK aN) ?_
 obtain rfl := sj h
 exact T_ tbOk.t Tryz.results152 [0, 1, 2]
def fn135 (F : Nat) (p0 : Known) (p1 : List Int) : Option (Bool) :=
 Option.bind (fn152 F p1 p0) fun v1 => (some (!v1))
theorem c135 (F : Nat) (p0 : Known) (p1 : List Int) (r : Bool) (h : fn135 F p0 p1 = some r) : Con Tryz.prog 135 [.p 0 0, .sl 1] [(0, .cells 125 [.ar (En.int .u16) 8 p0.fregs.fwords, .v (.int .i64 p0.fregs.fwidth), .ar (En.int .u64) 8 p0.fbytes.fwords, .v (.int .i64 p0.fbytes.fwidth)]), (1, .rd (Et.int .i64) p1)] 2 (.v (.bool r)) [(0, .cells 125 [.ar (En.int .u16) 8 p0.fregs.fwords, .v (.int .i64 p0.fregs.fwidth), .ar (En.int .u64) 8 p0.fbytes.fwords, .v (.int .i64 p0.fbytes.fwidth)])] 2 := by
 rw [fn135] at h
 refine Con.of_body Tryz.func135 rfl Tryz.ntmps135 rfl fun w F0 ρ => ?_
 obtain ⟨v1, hv2, h⟩ := bd h
 refine U_ tbOk 7 [.cl true [1, 2, 0] (fun _ => c152 F p1 p0 _ hv2)] (aK aN) ?_
 obtain rfl := sj h
 exact T_ tbOk.t Tryz.results135 [0, 1]
def fn134 (F : Nat) (p0 : Walk) (p1 : Known) (p2 : Instr) : Option (Bool) :=
 bif (iand .u8 p2.fOp 8) == 0 then (some true) else (Option.bind (fn135 F p1 ([IntKind.i64.wrap p2.fSrc] : List Int)) fun v2 => (some v2))
theorem c134 (F : Nat) (p0 : Walk) (p1 : Known) (p2 : Instr) (r : Bool) (h : fn134 F p0 p1 p2 = some r) : Con Tryz.prog 134 [.p 0 0, .p 5 0, .ag [.v (.int .u8 p2.fOp), .v (.int .u8 p2.fDst), .v (.int .u8 p2.fSrc), .v (.int .i16 p2.fOff), .v (.int .i32 p2.fImm)]] [(0, .cells 62 [.sl 1, .v (.string p0.ft.fName), .v (.int .i64 p0.ft.fCtx), .sl 2, .sl 3, .v (.int .i64 p0.ft.fLo), .v (.int .i64 p0.ft.fHi), .sl 4]), (1, .rd Instr.E p0.fp), (2, .rd Fld.E p0.ft.fFields), (3, .rd Need.E p0.ft.fNeeds), (4, .rd (Et.int .i64) p0.ftargets), (5, .cells 125 [.ar (En.int .u16) 8 p1.fregs.fwords, .v (.int .i64 p1.fregs.fwidth), .ar (En.int .u64) 8 p1.fbytes.fwords, .v (.int .i64 p1.fbytes.fwidth)])] 6 (.v (.bool r)) [(0, .cells 62 [.sl 1, .v (.string p0.ft.fName), .v (.int .i64 p0.ft.fCtx), .sl 2, .sl 3, .v (.int .i64 p0.ft.fLo), .v (.int .i64 p0.ft.fHi), .sl 4]), (5, .cells 125 [.ar (En.int .u16) 8 p1.fregs.fwords, .v (.int .i64 p1.fregs.fwidth), .ar (En.int .u64) 8 p1.fbytes.fwords, .v (.int .i64 p1.fbytes.fwidth)])] 6 := by
 rw [fn134] at h
 refine Con.of_body Tryz.func134 rfl Tryz.ntmps134 rfl fun w F0 ρ => ?_
 refine U_ tbOk 2 [] aN ?_
 refine CDS h (fun h hb1 => ?_) (fun h hb1 => ?_)
 ·refine DR (tbOk.lit [(10, 11, true)]) hmix [6] [([], []), ([6], []), ([], []), ([], []), ([], []), ([], []), ([], []), ([], []), ([], []), ([], []), ([], []), ([], []), ([], []), ([], []), ([], [])] [] (aR (aC hb1 aN)) (by rfl) ?_
  refine U_ tbOk 0 [] aN ?_
  obtain rfl := sj h
  exact T_ tbOk.t Tryz.results134 [0, 1, 2, 3, 4, 5]
 ·obtain ⟨v2, hv3, h⟩ := bd h
  refine DR (tbOk.lit [(10, 11, false)]) hmix [6] [([], []), ([6], []), ([], []), ([], []), ([], []), ([], []), ([], []), ([], []), ([], []), ([6], []), ([], []), ([], []), ([5, 7], []), ([], []), ([], [])] [.bs (Et.int .i64) ([IntKind.i64.wrap p2.fSrc] : List Int), .cl true [5, 7] (fun _ => c135 F p1 ([IntKind.i64.wrap p2.fSrc] : List Int) _ hv3)] (aR (aC hb1 (aR (aR (aR (aR (aK aN))))))) (by rfl) ?_
  refine U_ tbOk 0 [] aN ?_
  obtain rfl := sj h
  exact T_ tbOk.t Tryz.results134 [0, 1, 2, 3, 4, 5]
def fn109 (F : Nat) (p0 : Walk) (p1 : Known) (p2 : Int) : Option (Bool) :=
 bif inb p2 p0.fp.length then (bif (iand .u8 ((gt p0.fp p2).fOp) 240) == 176 then (Option.bind (fn134 F p0 p1 (gt p0.fp p2)) fun v3 => (some v3)) else (bif (iand .u8 ((gt p0.fp p2).fOp) 240) == 128 then (Option.bind (fn135 F p1 ([IntKind.i64.wrap ((gt p0.fp p2).fDst)] : List Int)) fun v6 => (some v6)) else (bif (iand .u8 ((gt p0.fp p2).fOp) 240) == 208 then (Option.bind (fn135 F p1 ([IntKind.i64.wrap ((gt p0.fp p2).fDst)] : List Int)) fun v9 => (some v9)) else (Option.bind (fn135 F p1 ([IntKind.i64.wrap ((gt p0.fp p2).fDst)] : List Int)) fun v11 => (Option.bind (bif bif v11 then true else false then fn134 F p0 p1 (gt p0.fp p2) else some false) fun v13 => (some (v11 && v13))))))) else none
theorem c109 (F : Nat) (p0 : Walk) (p1 : Known) (p2 : Int) (r : Bool) (h : fn109 F p0 p1 p2 = some r) : Con Tryz.prog 109 [.p 0 0, .p 5 0, .v (.int .i64 p2)] [(0, .cells 62 [.sl 1, .v (.string p0.ft.fName), .v (.int .i64 p0.ft.fCtx), .sl 2, .sl 3, .v (.int .i64 p0.ft.fLo), .v (.int .i64 p0.ft.fHi), .sl 4]), (1, .rd Instr.E p0.fp), (2, .rd Fld.E p0.ft.fFields), (3, .rd Need.E p0.ft.fNeeds), (4, .rd (Et.int .i64) p0.ftargets), (5, .cells 125 [.ar (En.int .u16) 8 p1.fregs.fwords, .v (.int .i64 p1.fregs.fwidth), .ar (En.int .u64) 8 p1.fbytes.fwords, .v (.int .i64 p1.fbytes.fwidth)])] 6 (.v (.bool r)) [(0, .cells 62 [.sl 1, .v (.string p0.ft.fName), .v (.int .i64 p0.ft.fCtx), .sl 2, .sl 3, .v (.int .i64 p0.ft.fLo), .v (.int .i64 p0.ft.fHi), .sl 4]), (5, .cells 125 [.ar (En.int .u16) 8 p1.fregs.fwords, .v (.int .i64 p1.fregs.fwidth), .ar (En.int .u64) 8 p1.fbytes.fwords, .v (.int .i64 p1.fbytes.fwidth)])] 6 := by
 rw [fn109] at h
 refine Con.of_body Tryz.func109 rfl Tryz.ntmps109 rfl fun w F0 ρ => ?_
 obtain ⟨hk1, h⟩ := ck h
 refine U_ tbOk 15 [] (aC hk1 aN) ?_
 refine C_ h (fun h hb2 => ?_) fun h hb2 => ?_
 ·obtain ⟨v3, hv4, h⟩ := bd h
  refine U_ tbOk 5 [.cl true [0, 1, 2, 3, 4, 5] (fun _ => c134 F p0 p1 (gt p0.fp p2) _ hv4)] (aK aN) ?_
  obtain rfl := sj h
  exact T_ tbOk.t Tryz.results109 [0, 1, 2, 3, 4, 5]
 ·refine U_ tbOk 2 [] aN ?_
  refine C_ h (fun h hb5 => ?_) fun h hb5 => ?_
  ·refine U_ tbOk 0 [] aN ?_
   refine CDT hb5 (by rfl) ?_
   refine U_ tbOk 0 [] aN ?_
   obtain ⟨v6, hv7, h⟩ := bd h
   refine DR tbOk hmix [6] [([], []), ([], []), ([], []), ([], []), ([6], []), ([], []), ([], []), ([5, 7], []), ([], [])] [.bs (Et.int .i64) ([IntKind.i64.wrap ((gt p0.fp p2).fDst)] : List Int), .cl true [5, 7] (fun _ => c135 F p1 ([IntKind.i64.wrap ((gt p0.fp p2).fDst)] : List Int) _ hv7)] (aR (aR (aR (aR (aK aN))))) (by rfl) ?_
   refine U_ tbOk 0 [] aN ?_
   obtain rfl := sj h
   exact T_ tbOk.t Tryz.results109 [0, 1, 2, 3, 4, 5]
  ·refine U_ tbOk 2 [] aN ?_
   refine C_ h (fun h hb8 => ?_) fun h hb8 => ?_
   ·refine U_ tbOk 0 [] aN ?_
    obtain ⟨v9, hv10, h⟩ := bd h
    refine DR tbOk hmix [6] [([], []), ([], []), ([], []), ([], []), ([6], []), ([], []), ([], []), ([5, 7], []), ([], [])] [.bs (Et.int .i64) ([IntKind.i64.wrap ((gt p0.fp p2).fDst)] : List Int), .cl true [5, 7] (fun _ => c135 F p1 ([IntKind.i64.wrap ((gt p0.fp p2).fDst)] : List Int) _ hv10)] (aR (aR (aR (aR (aK aN))))) (by rfl) ?_
    refine U_ tbOk 0 [] aN ?_
    obtain rfl := sj h
    exact T_ tbOk.t Tryz.results109 [0, 1, 2, 3, 4, 5]
   ·refine U_ tbOk 0 [] aN ?_
    obtain ⟨v11, hv12, h⟩ := bd h
    obtain ⟨v13, hv14, h⟩ := bd h
    refine DR tbOk hmix [6] [([], []), ([], []), ([], []), ([], []), ([6], []), ([], []), ([], []), ([5, 7], []), ([], []), ([], []), ([], []), ([6], []), ([0, 1, 2, 3, 4, 5], []), ([], []), ([], [])] [.bs (Et.int .i64) ([IntKind.i64.wrap ((gt p0.fp p2).fDst)] : List Int), .cl true [5, 7] (fun _ => c135 F p1 ([IntKind.i64.wrap ((gt p0.fp p2).fDst)] : List Int) _ hv12), .cl (bif v11 then true else false) [0, 1, 2, 3, 4, 5] (fun hg => c134 F p0 p1 (gt p0.fp p2) _ (gcl hg hv14))] (aR (aR (aR (aR (aK (aR (aR (aK aN)))))))) (by rfl) ?_
    refine U_ tbOk 0 [] aN ?_
    obtain rfl := sj h
    exact T_ tbOk.t Tryz.results109 [0, 1, 2, 3, 4, 5]
def fn141_l1 (p0 : List Int) (p1 : Int) : Nat → Int → Option ((Unit) ⊕ (Int))
 | 0, _ => none
 | n10 + 1, x4 => bif decide (x4 < (p0.length : Int)) then (bif inb x4 p0.length then (bif p1 == (gt p0 x4) then (some (.inr x4)) else ((fn141_l1 p0 p1 n10) (IntKind.i64.wrap (x4 + 1)))) else none) else (some (.inl ()))
theorem fn141_l1_s (p0 : List Int) (p1 : Int) (n10 : Nat) (x4 : Int) : fn141_l1 p0 p1 (n10 + 1) x4 = bif decide (x4 < (p0.length : Int)) then (bif inb x4 p0.length then (bif p1 == (gt p0 x4) then (some (.inr x4)) else ((fn141_l1 p0 p1 n10) (IntKind.i64.wrap (x4 + 1)))) else none) else (some (.inl ())) := rfl
def fn141_k1 : Option (Int) :=
 some (-1)
theorem fn141_k1_s : fn141_k1 = some (-1) := rfl
def fn141 (F : Nat) (p0 : List Int) (p1 : Int) : Option (Int) :=
 Option.bind (fn141_l1 p0 p1 F 0) fun o8 => (match o8 with | .inl u => fn141_k1 | .inr u => some u)
theorem c141 (F : Nat) (p0 : List Int) (p1 : Int) (r : Int) (h : fn141 F p0 p1 = some r) : Con Tryz.prog 141 [.sl 0, .v (.int .u8 p1)] [(0, .rd (Et.int .u8) p0)] 1 (.v (.int .i64 r)) [] 1 := by
 rw [fn141] at h
 refine Con.of_body Tryz.func141 rfl Tryz.ntmps141 rfl fun w F0 ρ => ?_
 refine U_ tbOk 4 [] aN ?_
 obtain ⟨o8, hl9, h⟩ := bd h
 refine CTS 0 (fun u => ⟨[], [(0, .rd (Et.int .u8) p0)], 1⟩) o8 ?_ (fun u hu => ?_)
 ·have h012 := h
  clear h
  refine G4.imp (I_ [0]) (LP (fun (n : Nat) (s : Int) => fn141_l1 p0 p1 n s) (fun (s : Int) => ⟨[(0, .sl 0), (1, .v (.int .u8 p1)), (7, .v (.int .i64 (p0.length : Int))), (8, .v (.int .i64 s))], [(0, .rd (Et.int .u8) p0)], 1⟩) (fun _ => rfl) (s0 := 0) hl9 ?_)
  clear hl9
  rintro R13 n10 x4 h ih11
  replace h := (fn141_l1_s p0 p1 n10 x4).symm.trans h
  refine U_ tbOk 1 [] aN ?_
  refine C_ h (fun h hb14 => ?_) fun h hb14 => ?_
  ·obtain ⟨hk15, h⟩ := ck h
   refine U_ tbOk 8 [] (aC hk15 aN) ?_
   refine C_ h (fun h hb16 => ?_) fun h hb16 => ?_
   ·refine U_ tbOk 2 [] aN ?_
    obtain rfl := sj h
    replace h := h012
    refine U_ tbOk 0 [] aN ?_
    obtain rfl := sj h
    exact T_ tbOk.t Tryz.results141 [0]
   ·refine U_ tbOk 2 [] aN ?_
    exact ih11 (IntKind.i64.wrap (x4 + 1)) h _ _ (I_ [0])
  ·refine U_ tbOk 0 [] aN ?_
   obtain rfl := sj h
   exact CES _ rfl (I_ [0])
 ·subst hu
  replace h := (fn141_k1_s).symm.trans h
  refine U_ tbOk 1 [] aN ?_
  obtain rfl := sj h
  exact T_ tbOk.t Tryz.results141 [0]
def fn114 (F : Nat) (p0 : List Int) (p1 : Int) : Option (Bool) :=
 Option.bind (fn141 F p0 p1) fun v1 => (some (decide ((0 : Int) ≤ v1)))
theorem c114 (F : Nat) (p0 : List Int) (p1 : Int) (r : Bool) (h : fn114 F p0 p1 = some r) : Con Tryz.prog 114 [.sl 0, .v (.int .u8 p1)] [(0, .rd (Et.int .u8) p0)] 1 (.v (.bool r)) [] 1 := by
 rw [fn114] at h
 refine Con.of_body Tryz.func114 rfl Tryz.ntmps114 rfl fun w F0 ρ => ?_
 obtain ⟨v1, hv2, h⟩ := bd h
 refine U_ tbOk 6 [.cl true [0] (fun _ => c141 F p0 p1 _ hv2)] (aK aN) ?_
 obtain rfl := sj h
 exact T_ tbOk.t Tryz.results114 [0]
def fn115 (p0 : Known) (p1 : Int) : Option (Known) :=
 bif p0.fregs.fwidth != 0 then (bif inb (IntKind.i64.wrap (p1.tdiv p0.fregs.fwidth)) 8 then (bif decide ((0 : Int) ≤ p1.tmod p0.fregs.fwidth) then (some (⟨(⟨p0.fregs.fwords.set (IntKind.i64.wrap (p1.tdiv p0.fregs.fwidth)) (iandn .u16 (gt p0.fregs.fwords.l (IntKind.i64.wrap (p1.tdiv p0.fregs.fwidth))) (ishl .u16 1 (p1.tmod p0.fregs.fwidth))), p0.fregs.fwidth⟩ : Bag16), p0.fbytes⟩ : Known)) else none) else none) else none
theorem c115 (p0 : Known) (p1 : Int) (r : Known) (h : fn115 p0 p1 = some r) : Con Tryz.prog 115 [.p 0 0, .v (.int .i64 p1)] [(0, .cells 125 [.ar (En.int .u16) 8 p0.fregs.fwords, .v (.int .i64 p0.fregs.fwidth), .ar (En.int .u64) 8 p0.fbytes.fwords, .v (.int .i64 p0.fbytes.fwidth)])] 1 (.tu []) [(0, .cells 125 [.ar (En.int .u16) 8 r.fregs.fwords, .v (.int .i64 r.fregs.fwidth), .ar (En.int .u64) 8 r.fbytes.fwords, .v (.int .i64 r.fbytes.fwidth)])] 1 := by
 rw [fn115] at h
 refine Con.of_body Tryz.func115 rfl Tryz.ntmps115 rfl fun w F0 ρ => ?_
 refine U_ tbOk 0 [] aN ?_
 obtain ⟨hk1, h⟩ := ck h
 obtain ⟨hk2, h⟩ := ck h
 obtain ⟨hk3, h⟩ := ck h
 refine DR tbOk hmix [] [([], []), ([], []), ([], []), ([], []), ([], []), ([0], []), ([], []), ([], []), ([], []), ([0], []), ([0], []), ([], []), ([], []), ([], []), ([], []), ([0], []), ([], []), ([], []), ([], []), ([], []), ([], []), ([0], []), ([0], [0])] [.sa (En.int .u16) 8 _ (iandn .u16 (gt p0.fregs.fwords.l (IntKind.i64.wrap (p1.tdiv p0.fregs.fwidth))) (ishl .u16 1 (p1.tmod p0.fregs.fwidth)))] (aR (aC hk1 (aR (aC hk2 (aR (aR (aC hk1 (aC hk3 (aR (aC hk2 (aR (aR (aR aN))))))))))))) (by rfl) ?_
 refine U_ tbOk 0 [] aN ?_
 obtain rfl := sj h
 exact TN_ tbOk.t Tryz.results115 [0]
def fn110 (p0 : Walk) (p1 : Known) (p2 : Int) : Option (Bool) :=
 bif inb p2 p0.fp.length then (some (((gt p0.fp p2).fSrc) == 0)) else none
theorem c110 (p0 : Walk) (p1 : Known) (p2 : Int) (r : Bool) (h : fn110 p0 p1 p2 = some r) : Con Tryz.prog 110 [.p 0 0, .p 5 0, .v (.int .i64 p2)] [(0, .cells 62 [.sl 1, .v (.string p0.ft.fName), .v (.int .i64 p0.ft.fCtx), .sl 2, .sl 3, .v (.int .i64 p0.ft.fLo), .v (.int .i64 p0.ft.fHi), .sl 4]), (1, .rd Instr.E p0.fp), (2, .rd Fld.E p0.ft.fFields), (3, .rd Need.E p0.ft.fNeeds), (4, .rd (Et.int .i64) p0.ftargets), (5, .cells 125 [.ar (En.int .u16) 8 p1.fregs.fwords, .v (.int .i64 p1.fregs.fwidth), .ar (En.int .u64) 8 p1.fbytes.fwords, .v (.int .i64 p1.fbytes.fwidth)])] 6 (.v (.bool r)) [(0, .cells 62 [.sl 1, .v (.string p0.ft.fName), .v (.int .i64 p0.ft.fCtx), .sl 2, .sl 3, .v (.int .i64 p0.ft.fLo), .v (.int .i64 p0.ft.fHi), .sl 4]), (5, .cells 125 [.ar (En.int .u16) 8 p1.fregs.fwords, .v (.int .i64 p1.fregs.fwidth), .ar (En.int .u64) 8 p1.fbytes.fwords, .v (.int .i64 p1.fbytes.fwidth)])] 6 := by
 rw [fn110] at h
 refine Con.of_body Tryz.func110 rfl Tryz.ntmps110 rfl fun w F0 ρ => ?_
 obtain ⟨hk1, h⟩ := ck h
 refine U_ tbOk 11 [] (aC hk1 aN) ?_
 obtain rfl := sj h
 exact T_ tbOk.t Tryz.results110 [0, 1, 2, 3, 4, 5]
def fn139 (p0 : Instr) : Int :=
 mget (mput (mput (mput (mput ([] : List (Int × Int)) (0 : Int) (4 : Int)) (8 : Int) (2 : Int)) (16 : Int) (1 : Int)) (24 : Int) (8 : Int)) (iand .u8 p0.fOp 24) (0 : Int)
theorem c139 (p0 : Instr) (r : Int) (h : fn139 p0 = r) : Con Tryz.prog 139 [.ag [.v (.int .u8 p0.fOp), .v (.int .u8 p0.fDst), .v (.int .u8 p0.fSrc), .v (.int .i16 p0.fOff), .v (.int .i32 p0.fImm)]] [] 0 (.v (.int .i64 r)) [] 0 := by
 rw [fn139] at h
 refine Con.of_body Tryz.func139 rfl Tryz.ntmps139 rfl fun w F0 ρ => ?_
 refine U_ tbOk 13 [.mm (Kn.int .u8) (Vn.int .i64), .mu (Kn.int .u8) (Vn.int .i64) _ (0 : Int) (4 : Int) Tryz.runUnderlying205 Tryz.runUnderlying5, .mu (Kn.int .u8) (Vn.int .i64) _ (8 : Int) (2 : Int) Tryz.runUnderlying205 Tryz.runUnderlying5, .mu (Kn.int .u8) (Vn.int .i64) _ (16 : Int) (1 : Int) Tryz.runUnderlying205 Tryz.runUnderlying5, .mu (Kn.int .u8) (Vn.int .i64) _ (24 : Int) (8 : Int) Tryz.runUnderlying205 Tryz.runUnderlying5, .lo (Kn.int .u8) (Vn.int .i64) _ (iand .u8 p0.fOp 24) (0 : Int) Tryz.runUnderlying205 Tryz.runUnderlying5 Tryz.zeroValue3] (aR (aR (aR (aR (aR (aR (aR (aR (aR (aR (aR (aR (aR (aR aN)))))))))))))) ?_
 subst h
 exact T_ tbOk.t Tryz.results139 []
def fn136_l1 (p0 : Instr) : Nat → (List Int) → Int → Option ((List Int))
 | 0, _, _ => none
 | n10 + 1, xs3, x4 => bif decide (x4 < (fn139 p0)) then (bif decide ((xs3.length + ([IntKind.i64.wrap ((IntKind.i64.wrap ((512 : Int) + (IntKind.i64.wrap p0.fOff))) + x4)] : List Int).length) * 8 ≤ 140737488355328 ∧ xs3.length + ([IntKind.i64.wrap ((IntKind.i64.wrap ((512 : Int) + (IntKind.i64.wrap p0.fOff))) + x4)] : List Int).length ≤ 9223372036854775807) then ((fn136_l1 p0 n10) (xs3 ++ ([IntKind.i64.wrap ((IntKind.i64.wrap ((512 : Int) + (IntKind.i64.wrap p0.fOff))) + x4)] : List Int)) (IntKind.i64.wrap (x4 + 1))) else none) else (some xs3)
theorem fn136_l1_s (p0 : Instr) (n10 : Nat) (xs3 : List Int) (x4 : Int) : fn136_l1 p0 (n10 + 1) xs3 x4 = bif decide (x4 < (fn139 p0)) then (bif decide ((xs3.length + ([IntKind.i64.wrap ((IntKind.i64.wrap ((512 : Int) + (IntKind.i64.wrap p0.fOff))) + x4)] : List Int).length) * 8 ≤ 140737488355328 ∧ xs3.length + ([IntKind.i64.wrap ((IntKind.i64.wrap ((512 : Int) + (IntKind.i64.wrap p0.fOff))) + x4)] : List Int).length ≤ 9223372036854775807) then ((fn136_l1 p0 n10) (xs3 ++ ([IntKind.i64.wrap ((IntKind.i64.wrap ((512 : Int) + (IntKind.i64.wrap p0.fOff))) + x4)] : List Int)) (IntKind.i64.wrap (x4 + 1))) else none) else (some xs3) := rfl
def fn136_k1 (xs7 : List Int) : Option (((List Int))) :=
 bif inb 0 xs7.length then (bif bif decide ((gt xs7 0) < 0) then true else (inb (IntKind.i64.wrap ((xs7.length : Int) - 1)) xs7.length) then (bif (decide ((gt xs7 0) < 0)) || (decide ((512 : Int) ≤ (gt xs7 (IntKind.i64.wrap ((xs7.length : Int) - 1))))) then (some ([] : List Int)) else (some xs7)) else none) else none
theorem fn136_k1_s (xs7 : List Int) : fn136_k1 xs7 = bif inb 0 xs7.length then (bif bif decide ((gt xs7 0) < 0) then true else (inb (IntKind.i64.wrap ((xs7.length : Int) - 1)) xs7.length) then (bif (decide ((gt xs7 0) < 0)) || (decide ((512 : Int) ≤ (gt xs7 (IntKind.i64.wrap ((xs7.length : Int) - 1))))) then (some ([] : List Int)) else (some xs7)) else none) else none := rfl
def fn136 (F : Nat) (p0 : Instr) : Option ((List Int)) :=
 Option.bind (fn136_l1 p0 F ([] : List Int) 0) fun o8 => (fn136_k1 o8)
theorem c136 (F : Nat) (p0 : Instr) (r : (List Int)) (h : fn136 F p0 = some r) : Con Tryz.prog 136 [.ag [.v (.int .u8 p0.fOp), .v (.int .u8 p0.fDst), .v (.int .u8 p0.fSrc), .v (.int .i16 p0.fOff), .v (.int .i32 p0.fImm)]] [] 0 (.sl 0) [(0, .row (Et.int .i64) 3 r r.length .iff)] 1 := by
 rw [fn136] at h
 refine Con.of_body Tryz.func136 rfl Tryz.ntmps136 rfl fun w F0 ρ => ?_
 refine U_ tbOk 6 [.cl true [] (fun _ => c139 p0 _ rfl)] (aK aN) ?_
 refine G4.imp (Imp.nil (Et.int .i64) 3 3 (by rfl)) ?_
 obtain ⟨o8, hl9, h⟩ := bd h
 refine CT 0 ⟨[(3, .sl 0)], [(0, .row (Et.int .i64) 3 o8 o8.length .iff)], 1⟩ ?_ ?_
 ·have h012 := h
  clear h
  refine G4.imp (I_ [0, 1]) (LP (fun (n : Nat) (s : (List Int) × Int) => fn136_l1 p0 n s.1 s.2) (fun (s : (List Int) × Int) => ⟨[(1, .p 0 0), (3, .sl 1), (6, .v (.int .i64 (fn139 p0))), (7, .v (.int .i64 s.2))], [(0, .cells 40 [.v (.int .u8 p0.fOp), .v (.int .u8 p0.fDst), .v (.int .u8 p0.fSrc), .v (.int .i16 p0.fOff), .v (.int .i32 p0.fImm)]), (1, .row (Et.int .i64) 3 s.1 s.1.length .iff)], 2⟩) (fun _ => rfl) (s0 := (([] : List Int), 0)) hl9 ?_)
  clear hl9
  rintro R13 n10 ⟨xs3, x4⟩ h ih11
  replace h := (fn136_l1_s p0 n10 xs3 x4).symm.trans h
  refine U_ tbOk 1 [] aN ?_
  refine C_ h (fun h hb14 => ?_) fun h hb14 => ?_
  ·obtain ⟨hk15, h⟩ := ck h
   refine U_ tbOk 14 [.bs (Et.int .i64) ([IntKind.i64.wrap ((IntKind.i64.wrap ((512 : Int) + (IntKind.i64.wrap p0.fOff))) + x4)] : List Int), .ap (Et.int .i64) .iff _ _] (aR (aR (aR (aR (aC hk15 (aC rfl aN)))))) ?_
   exact ih11 (xs3 ++ ([IntKind.i64.wrap ((IntKind.i64.wrap ((512 : Int) + (IntKind.i64.wrap p0.fOff))) + x4)] : List Int), IntKind.i64.wrap (x4 + 1)) h _ _ (I_ [0, 3])
  ·refine U_ tbOk 0 [] aN ?_
   obtain rfl := sj h
   exact CE (I_ [1])
 ·replace h := (fn136_k1_s o8).symm.trans h
  obtain ⟨hk16, h⟩ := ck h
  obtain ⟨hk17, h⟩ := ck h
  refine U_ tbOk 13 [] (aC hk16 (aC hk17 aN)) ?_
  refine C_ h (fun h hb18 => ?_) fun h hb18 => ?_
  ·refine U_ tbOk 1 [] aN ?_
   obtain rfl := sj h
   refine G4.imp (Imp.nil (Et.int .i64) 3 2 (by rfl)) ?_
   exact T_ tbOk.t Tryz.results136 [1]
  ·refine U_ tbOk 2 [] aN ?_
   obtain rfl := sj h
   exact T_ tbOk.t Tryz.results136 [0]
def fn154 (p0 : Int) (p1_0 : Known) : Option (Bool) :=
 bif p1_0.fbytes.fwidth != 0 then (bif inb (IntKind.i64.wrap (p0.tdiv p1_0.fbytes.fwidth)) 8 then (bif decide ((0 : Int) ≤ p0.tmod p1_0.fbytes.fwidth) then (some ((iand .u64 (ishr .u64 (gt p1_0.fbytes.fwords.l (IntKind.i64.wrap (p0.tdiv p1_0.fbytes.fwidth))) (p0.tmod p1_0.fbytes.fwidth)) 1) == 0)) else none) else none) else none
theorem c154 (p0 : Int) (p1_0 : Known) (r : Bool) (h : fn154 p0 p1_0 = some r) : Con Tryz.prog 154 [.v (.int .i64 p0), .p 0 0] [(0, .cells 176 [.p 1 9]), (1, .cells 125 [.ar (En.int .u16) 8 p1_0.fregs.fwords, .v (.int .i64 p1_0.fregs.fwidth), .ar (En.int .u64) 8 p1_0.fbytes.fwords, .v (.int .i64 p1_0.fbytes.fwidth)])] 2 (.v (.bool r)) [(0, .cells 176 [.p 1 9]), (1, .cells 125 [.ar (En.int .u16) 8 p1_0.fregs.fwords, .v (.int .i64 p1_0.fregs.fwidth), .ar (En.int .u64) 8 p1_0.fbytes.fwords, .v (.int .i64 p1_0.fbytes.fwidth)])] 2 := by
 rw [fn154] at h
 refine Con.of_body Tryz.func154 rfl Tryz.ntmps154 rfl fun w F0 ρ => ?_
 refine U_ tbOk 1 [] aN ?_
 obtain ⟨hk1, h⟩ := ck h
 obtain ⟨hk2, h⟩ := ck h
 obtain ⟨hk3, h⟩ := ck h
 refine DR tbOk hmix [3] [([0], []), ([], []), ([0], []), ([], []), ([], []), ([1], []), ([], []), ([], []), ([], []), ([1], []), ([1], []), ([], []), ([0], []), ([], []), ([], []), ([1], []), ([], []), ([], []), ([], []), ([], []), ([], [])] [] (aR (aR (aR (aC hk1 (aR (aC hk2 (aR (aR (aR (aC hk1 (aC hk3 aN))))))))))) (by rfl) ?_
 refine U_ tbOk 0 [] aN ?_
 obtain rfl := sj h
 exact T_ tbOk.t Tryz.results154 [0, 1]
def fn170v1_l1 (p0 : List Int) (p1c0_0 : Known) : Nat → Int → Option ((Unit) ⊕ (Int))
 | 0, _ => none
 | n14 + 1, x6 => bif decide (x6 < (p0.length : Int)) then (bif inb x6 p0.length then (Option.bind (fn154 (gt p0 x6) p1c0_0) fun v20 => (bif v20 then (some (.inr x6)) else ((fn170v1_l1 p0 p1c0_0 n14) (IntKind.i64.wrap (x6 + 1))))) else none) else (some (.inl ()))
theorem fn170v1_l1_s (p0 : List Int) (p1c0_0 : Known) (n14 : Nat) (x6 : Int) : fn170v1_l1 p0 p1c0_0 (n14 + 1) x6 = bif decide (x6 < (p0.length : Int)) then (bif inb x6 p0.length then (Option.bind (fn154 (gt p0 x6) p1c0_0) fun v20 => (bif v20 then (some (.inr x6)) else ((fn170v1_l1 p0 p1c0_0 n14) (IntKind.i64.wrap (x6 + 1))))) else none) else (some (.inl ())) := rfl
def fn170v1_k1 : Option (Int) :=
 some (-1)
theorem fn170v1_k1_s : fn170v1_k1 = some (-1) := rfl
def fn170v1 (F : Nat) (p0 : List Int) (p1c0_0 : Known) : Option (Int) :=
 Option.bind (fn170v1_l1 p0 p1c0_0 F 0) fun o12 => (match o12 with | .inl u => fn170v1_k1 | .inr u => some u)
theorem c170v1 (F : Nat) (p0 : List Int) (p1c0_0 : Known) (r : Int) (h : fn170v1 F p0 p1c0_0 = some r) : Con Tryz.prog 170 [.sl 0, .fn (.func 154) [] [.p 1 0]] [(0, .rd (Et.int .i64) p0), (1, .cells 176 [.p 2 9]), (2, .cells 125 [.ar (En.int .u16) 8 p1c0_0.fregs.fwords, .v (.int .i64 p1c0_0.fregs.fwidth), .ar (En.int .u64) 8 p1c0_0.fbytes.fwords, .v (.int .i64 p1c0_0.fbytes.fwidth)])] 3 (.v (.int .i64 r)) [(1, .cells 176 [.p 2 9]), (2, .cells 125 [.ar (En.int .u16) 8 p1c0_0.fregs.fwords, .v (.int .i64 p1c0_0.fregs.fwidth), .ar (En.int .u64) 8 p1c0_0.fbytes.fwords, .v (.int .i64 p1c0_0.fbytes.fwidth)])] 3 := by
 rw [fn170v1] at h
 refine Con.of_body Tryz.func170 rfl Tryz.ntmps170 rfl fun w F0 ρ => ?_
 refine U_ tbOk 4 [] aN ?_
 obtain ⟨o12, hl13, h⟩ := bd h
 refine CTS 0 (fun u => ⟨[], [(0, .rd (Et.int .i64) p0), (1, .cells 176 [.p 2 9]), (2, .cells 125 [.ar (En.int .u16) 8 p1c0_0.fregs.fwords, .v (.int .i64 p1c0_0.fregs.fwidth), .ar (En.int .u64) 8 p1c0_0.fbytes.fwords, .v (.int .i64 p1c0_0.fbytes.fwidth)])], 3⟩) o12 ?_ (fun u hu => ?_)
 ·have h016 := h
  clear h
  refine G4.imp (I_ [0, 1, 2]) (LP (fun (n : Nat) (s : Int) => fn170v1_l1 p0 p1c0_0 n s) (fun (s : Int) => ⟨[(0, .sl 0), (1, .fn (.func 154) [] [.p 1 0]), (7, .v (.int .i64 (p0.length : Int))), (8, .v (.int .i64 s))], [(0, .rd (Et.int .i64) p0), (1, .cells 176 [.p 2 9]), (2, .cells 125 [.ar (En.int .u16) 8 p1c0_0.fregs.fwords, .v (.int .i64 p1c0_0.fregs.fwidth), .ar (En.int .u64) 8 p1c0_0.fbytes.fwords, .v (.int .i64 p1c0_0.fbytes.fwidth)])], 3⟩) (fun _ => rfl) (s0 := 0) hl13 ?_)
  clear hl13
  rintro R17 n14 x6 h ih15
  replace h := (fn170v1_l1_s p0 p1c0_0 n14 x6).symm.trans h
  refine U_ tbOk 1 [] aN ?_
  refine C_ h (fun h hb18 => ?_) fun h hb18 => ?_
  ·obtain ⟨hk19, h⟩ := ck h
   obtain ⟨v20, hv21, h⟩ := bd h
   refine U_ tbOk 8 [.cl true [1, 2] (fun _ => c154 (gt p0 x6) p1c0_0 _ hv21)] (aC hk19 (aK aN)) ?_
   refine C_ h (fun h hb22 => ?_) fun h hb22 => ?_
   ·refine U_ tbOk 2 [] aN ?_
    obtain rfl := sj h
    replace h := h016
    refine U_ tbOk 0 [] aN ?_
    obtain rfl := sj h
    exact T_ tbOk.t Tryz.results170 [0, 1, 2]
   ·refine U_ tbOk 2 [] aN ?_
    exact ih15 (IntKind.i64.wrap (x6 + 1)) h _ _ (I_ [0, 1, 2])
  ·refine U_ tbOk 0 [] aN ?_
   obtain rfl := sj h
   exact CES _ rfl (I_ [0, 1, 2])
 ·subst hu
  replace h := (fn170v1_k1_s).symm.trans h
  refine U_ tbOk 1 [] aN ?_
  obtain rfl := sj h
  exact T_ tbOk.t Tryz.results170 [0, 1, 2]
def fn152v1 (F : Nat) (p0 : List Int) (p1c0_0 : Known) : Option (Bool) :=
 Option.bind (fn170v1 F p0 p1c0_0) fun v1 => (some (decide ((0 : Int) ≤ v1)))
theorem c152v1 (F : Nat) (p0 : List Int) (p1c0_0 : Known) (r : Bool) (h : fn152v1 F p0 p1c0_0 = some r) : Con Tryz.prog 152 [.sl 0, .fn (.func 154) [] [.p 1 0]] [(0, .rd (Et.int .i64) p0), (1, .cells 176 [.p 2 9]), (2, .cells 125 [.ar (En.int .u16) 8 p1c0_0.fregs.fwords, .v (.int .i64 p1c0_0.fregs.fwidth), .ar (En.int .u64) 8 p1c0_0.fbytes.fwords, .v (.int .i64 p1c0_0.fbytes.fwidth)])] 3 (.v (.bool r)) [(1, .cells 176 [.p 2 9]), (2, .cells 125 [.ar (En.int .u16) 8 p1c0_0.fregs.fwords, .v (.int .i64 p1c0_0.fregs.fwidth), .ar (En.int .u64) 8 p1c0_0.fbytes.fwords, .v (.int .i64 p1c0_0.fbytes.fwidth)])] 3 := by
 rw [fn152v1] at h
 refine Con.of_body Tryz.func152 rfl Tryz.ntmps152 rfl fun w F0 ρ => ?_
 obtain ⟨v1, hv2, h⟩ := bd h
 refine U_ tbOk 6 [.cl true [0, 1, 2] (fun _ => c170v1 F p0 p1c0_0 _ hv2)] (aK aN) ?_
 obtain rfl := sj h
 exact T_ tbOk.t Tryz.results152 [0, 1, 2]
def fn137 (F : Nat) (p0 : Known) (p1 : List Int) : Option (Bool) :=
 Option.bind (fn152v1 F p1 p0) fun v1 => (some (!v1))
theorem c137 (F : Nat) (p0 : Known) (p1 : List Int) (r : Bool) (h : fn137 F p0 p1 = some r) : Con Tryz.prog 137 [.p 0 9, .sl 1] [(0, .cells 125 [.ar (En.int .u16) 8 p0.fregs.fwords, .v (.int .i64 p0.fregs.fwidth), .ar (En.int .u64) 8 p0.fbytes.fwords, .v (.int .i64 p0.fbytes.fwidth)]), (1, .rd (Et.int .i64) p1)] 2 (.v (.bool r)) [(0, .cells 125 [.ar (En.int .u16) 8 p0.fregs.fwords, .v (.int .i64 p0.fregs.fwidth), .ar (En.int .u64) 8 p0.fbytes.fwords, .v (.int .i64 p0.fbytes.fwidth)])] 2 := by
 rw [fn137] at h
 refine Con.of_body Tryz.func137 rfl Tryz.ntmps137 rfl fun w F0 ρ => ?_
 obtain ⟨v1, hv2, h⟩ := bd h
 refine U_ tbOk 7 [.cl true [1, 2, 0] (fun _ => c152v1 F p1 p0 _ hv2)] (aK aN) ?_
 obtain rfl := sj h
 exact T_ tbOk.t Tryz.results137 [0, 1]
def fn156 (p0 : Fld) (p1 : Int) (p2 : Int) : Bool :=
 (p0.fOff == p1) && (p0.fSize == p2)
theorem c156 (p0 : Fld) (p1 : Int) (p2 : Int) (r : Bool) (h : fn156 p0 p1 p2 = r) : Con Tryz.prog 156 [.ag [.v (.int .i64 p0.fOff), .v (.int .i64 p0.fSize), .v (.int .u8 p0.fKind), .v (.bool p0.fWrite)], .p 0 0, .p 1 0] [(0, .cells 3 [.v (.int .i64 p1)]), (1, .cells 3 [.v (.int .i64 p2)])] 2 (.v (.bool r)) [(0, .cells 3 [.v (.int .i64 p1)]), (1, .cells 3 [.v (.int .i64 p2)])] 2 := by
 rw [fn156] at h
 refine Con.of_body Tryz.func156 rfl Tryz.ntmps156 rfl fun w F0 ρ => ?_
 refine U_ tbOk 13 [] aN ?_
 subst h
 exact T_ tbOk.t Tryz.results156 [0, 1]
def fn155_l1 (p0 : List Fld) (p1c0 : Int) (p1c1 : Int) : Nat → Int → Option ((Unit) ⊕ (Int))
 | 0, _ => none
 | n10 + 1, x4 => bif decide (x4 < (p0.length : Int)) then (bif inb x4 p0.length then (bif (fn156 (gt p0 x4) p1c0 p1c1) then (some (.inr x4)) else ((fn155_l1 p0 p1c0 p1c1 n10) (IntKind.i64.wrap (x4 + 1)))) else none) else (some (.inl ()))
theorem fn155_l1_s (p0 : List Fld) (p1c0 : Int) (p1c1 : Int) (n10 : Nat) (x4 : Int) : fn155_l1 p0 p1c0 p1c1 (n10 + 1) x4 = bif decide (x4 < (p0.length : Int)) then (bif inb x4 p0.length then (bif (fn156 (gt p0 x4) p1c0 p1c1) then (some (.inr x4)) else ((fn155_l1 p0 p1c0 p1c1 n10) (IntKind.i64.wrap (x4 + 1)))) else none) else (some (.inl ())) := rfl
def fn155_k1 : Option (Int) :=
 some (-1)
theorem fn155_k1_s : fn155_k1 = some (-1) := rfl
def fn155 (F : Nat) (p0 : List Fld) (p1c0 : Int) (p1c1 : Int) : Option (Int) :=
 Option.bind (fn155_l1 p0 p1c0 p1c1 F 0) fun o8 => (match o8 with | .inl u => fn155_k1 | .inr u => some u)
theorem c155 (F : Nat) (p0 : List Fld) (p1c0 : Int) (p1c1 : Int) (r : Int) (h : fn155 F p0 p1c0 p1c1 = some r) : Con Tryz.prog 155 [.sl 0, .fn (.func 156) [] [.p 1 0, .p 2 0]] [(0, .rd Fld.E p0), (1, .cells 3 [.v (.int .i64 p1c0)]), (2, .cells 3 [.v (.int .i64 p1c1)])] 3 (.v (.int .i64 r)) [(1, .cells 3 [.v (.int .i64 p1c0)]), (2, .cells 3 [.v (.int .i64 p1c1)])] 3 := by
 rw [fn155] at h
 refine Con.of_body Tryz.func155 rfl Tryz.ntmps155 rfl fun w F0 ρ => ?_
 refine U_ tbOk 4 [] aN ?_
 obtain ⟨o8, hl9, h⟩ := bd h
 refine CTS 0 (fun u => ⟨[], [(0, .rd Fld.E p0), (1, .cells 3 [.v (.int .i64 p1c0)]), (2, .cells 3 [.v (.int .i64 p1c1)])], 3⟩) o8 ?_ (fun u hu => ?_)
 ·have h012 := h
  clear h
  refine G4.imp (I_ [0, 1, 2]) (LP (fun (n : Nat) (s : Int) => fn155_l1 p0 p1c0 p1c1 n s) (fun (s : Int) => ⟨[(0, .sl 0), (1, .fn (.func 156) [] [.p 1 0, .p 2 0]), (7, .v (.int .i64 (p0.length : Int))), (8, .v (.int .i64 s))], [(0, .rd Fld.E p0), (1, .cells 3 [.v (.int .i64 p1c0)]), (2, .cells 3 [.v (.int .i64 p1c1)])], 3⟩) (fun _ => rfl) (s0 := 0) hl9 ?_)
  clear hl9
  rintro R13 n10 x4 h ih11
  replace h := (fn155_l1_s p0 p1c0 p1c1 n10 x4).symm.trans h
  refine U_ tbOk 1 [] aN ?_
  refine C_ h (fun h hb14 => ?_) fun h hb14 => ?_
  ·obtain ⟨hk15, h⟩ := ck h
   refine U_ tbOk 8 [.cl true [1, 2] (fun _ => c156 (gt p0 x4) p1c0 p1c1 _ rfl)] (aC hk15 (aK aN)) ?_
   refine C_ h (fun h hb16 => ?_) fun h hb16 => ?_
   ·refine U_ tbOk 2 [] aN ?_
    obtain rfl := sj h
    replace h := h012
    refine U_ tbOk 0 [] aN ?_
    obtain rfl := sj h
    exact T_ tbOk.t Tryz.results155 [0, 1, 2]
   ·refine U_ tbOk 2 [] aN ?_
    exact ih11 (IntKind.i64.wrap (x4 + 1)) h _ _ (I_ [0, 1, 2])
  ·refine U_ tbOk 0 [] aN ?_
   obtain rfl := sj h
   exact CES _ rfl (I_ [0, 1, 2])
 ·subst hu
  replace h := (fn155_k1_s).symm.trans h
  refine U_ tbOk 1 [] aN ?_
  obtain rfl := sj h
  exact T_ tbOk.t Tryz.results155 [0, 1, 2]
def fn138 (F : Nat) (p0 : PType) (p1 : Int) (p2 : Int) : Option (Fld × Bool) :=
 Option.bind (fn155 F p0.fFields p1 p2) fun v1 => (bif decide (v1 < 0) then (some ((⟨0, 0, 0, false⟩ : Fld), false)) else (bif inb v1 p0.fFields.length then (some ((gt p0.fFields v1), true)) else none))
theorem c138 (F : Nat) (p0 : PType) (p1 : Int) (p2 : Int) (r : Fld × Bool) (h : fn138 F p0 p1 p2 = some r) : Con Tryz.prog 138 [.ag [.v (.string p0.fName), .v (.int .i64 p0.fCtx), .sl 0, .sl 1, .v (.int .i64 p0.fLo), .v (.int .i64 p0.fHi)], .v (.int .i64 p1), .v (.int .i64 p2)] [(0, .rd Fld.E p0.fFields), (1, .rd Need.E p0.fNeeds)] 2 (.tu [.ag [.v (.int .i64 r.1.fOff), .v (.int .i64 r.1.fSize), .v (.int .u8 r.1.fKind), .v (.bool r.1.fWrite)], .v (.bool r.2)]) [] 2 := by
 rw [fn138] at h
 refine Con.of_body Tryz.func138 rfl Tryz.ntmps138 rfl fun w F0 ρ => ?_
 obtain ⟨v1, hv2, h⟩ := bd h
 refine U_ tbOk 12 [.cl true [0, 3, 4] (fun _ => c155 F p0.fFields p1 p2 _ hv2)] (aK aN) ?_
 refine C_ h (fun h hb3 => ?_) fun h hb3 => ?_
 ·refine U_ tbOk 3 [] aN ?_
  obtain rfl := sj h
  exact T_ tbOk.t Tryz.results138 [0, 1]
 ·obtain ⟨hk4, h⟩ := ck h
  refine U_ tbOk 7 [] (aC hk4 aN) ?_
  obtain rfl := sj h
  exact T_ tbOk.t Tryz.results138 [0, 1]
def fn111 (F : Nat) (p0 : Walk) (p1 : Known) (p2 : Int) : Option (Bool) :=
 bif inb p2 p0.fp.length then (bif ((gt p0.fp p2).fSrc) == 10 then (Option.bind (fn136 F (gt p0.fp p2)) fun v3 => (Option.bind (bif bif !v3.isEmpty then true else false then fn137 F p1 v3 else some false) fun v5 => (some ((!v3.isEmpty) && v5)))) else (bif ((gt p0.fp p2).fSrc) == 1 then (Option.bind (fn135 F p1 ([15] : List Int)) fun v8 => (bif v8 then (Option.bind (fn138 F p0.ft (IntKind.i64.wrap ((gt p0.fp p2).fOff)) (fn139 (gt p0.fp p2))) fun v11 => (some (v11.2 && (v11.1.fKind == 1)))) else (some false))) else (some false))) else none
theorem c111 (F : Nat) (p0 : Walk) (p1 : Known) (p2 : Int) (r : Bool) (h : fn111 F p0 p1 p2 = some r) : Con Tryz.prog 111 [.p 0 0, .p 5 0, .v (.int .i64 p2)] [(0, .cells 62 [.sl 1, .v (.string p0.ft.fName), .v (.int .i64 p0.ft.fCtx), .sl 2, .sl 3, .v (.int .i64 p0.ft.fLo), .v (.int .i64 p0.ft.fHi), .sl 4]), (1, .rd Instr.E p0.fp), (2, .rd Fld.E p0.ft.fFields), (3, .rd Need.E p0.ft.fNeeds), (4, .rd (Et.int .i64) p0.ftargets), (5, .cells 125 [.ar (En.int .u16) 8 p1.fregs.fwords, .v (.int .i64 p1.fregs.fwidth), .ar (En.int .u64) 8 p1.fbytes.fwords, .v (.int .i64 p1.fbytes.fwidth)])] 6 (.v (.bool r)) [(0, .cells 62 [.sl 1, .v (.string p0.ft.fName), .v (.int .i64 p0.ft.fCtx), .sl 2, .sl 3, .v (.int .i64 p0.ft.fLo), .v (.int .i64 p0.ft.fHi), .sl 4]), (5, .cells 125 [.ar (En.int .u16) 8 p1.fregs.fwords, .v (.int .i64 p1.fregs.fwidth), .ar (En.int .u64) 8 p1.fbytes.fwords, .v (.int .i64 p1.fbytes.fwidth)])] 6 := by
 rw [fn111] at h
 refine Con.of_body Tryz.func111 rfl Tryz.ntmps111 rfl fun w F0 ρ => ?_
 obtain ⟨hk1, h⟩ := ck h
 refine U_ tbOk 14 [] (aC hk1 aN) ?_
 refine C_ h (fun h hb2 => ?_) fun h hb2 => ?_
 ·obtain ⟨v3, hv4, h⟩ := bd h
  obtain ⟨v5, hv6, h⟩ := bd h
  refine U_ tbOk 13 [.cl true [] (fun _ => c136 F (gt p0.fp p2) _ hv4), .cl (bif !v3.isEmpty then true else false) [5, 7] (fun hg => c137 F p1 v3 _ (gcl hg hv6))] (aK (aR (aR (aK aN)))) ?_
  obtain rfl := sj h
  exact T_ tbOk.t Tryz.results111 [0, 1, 2, 3, 4, 5]
 ·refine CDS h (fun h hb7 => ?_) (fun h hb7 => ?_)
  ·obtain ⟨v8, hv9, h⟩ := bd h
   refine U_ (tbOk.lit [(36, 37, true)]) 11 [.bs (Et.int .i64) ([15] : List Int), .cl true [5, 7] (fun _ => c135 F p1 ([15] : List Int) _ hv9)] (aC hb7 (aR (aR (aK aN)))) ?_
   refine U_ tbOk 0 [] aN ?_
   refine C_ h (fun h hb10 => ?_) fun h hb10 => ?_
   ·refine U_ tbOk 0 [] aN ?_
    obtain ⟨v11, hv12, h⟩ := bd h
    refine DR tbOk hmix [9, 10] [([], []), ([], []), ([], []), ([0], []), ([], []), ([6], []), ([], []), ([6], []), ([], []), ([2, 3], []), ([], []), ([], []), ([], []), ([], []), ([8], [8]), ([], [])] [.cl true [] (fun _ => c139 (gt p0.fp p2) _ rfl), .cl true [2, 3] (fun _ => c138 F p0.ft (IntKind.i64.wrap ((gt p0.fp p2).fOff)) (fn139 (gt p0.fp p2)) _ hv12)] (aR (aR (aR (aK (aR (aK (aR aN))))))) (by rfl) ?_
    refine U_ tbOk 7 [] aN ?_
    obtain rfl := sj h
    exact T_ tbOk.t Tryz.results111 [0, 1, 2, 3, 4, 5]
   ·refine U_ tbOk 1 [] aN ?_
    obtain rfl := sj h
    exact T_ tbOk.t Tryz.results111 [0, 1, 2, 3, 4, 5]
  ·refine U_ (tbOk.lit [(36, 37, false)]) 11 [] (aC hb7 aN) ?_
   refine U_ tbOk 0 [] aN ?_
   refine CDF rfl (by rfl) ?_
   refine U_ tbOk 1 [] aN ?_
   obtain rfl := sj h
   exact T_ tbOk.t Tryz.results111 [0, 1, 2, 3, 4, 5]
def fn140_l1 (p0 : Known) (p1 : List Int) : Nat → (Ar Int 8) → Int → Option ((Ar Int 8))
 | 0, _, _ => none
 | n16 + 1, x6, x7 => bif decide (x7 < (p1.length : Int)) then (bif inb x7 p1.length then (bif p0.fbytes.fwidth != 0 then (bif inb (IntKind.i64.wrap ((gt p1 x7).tdiv p0.fbytes.fwidth)) 8 then (bif decide ((0 : Int) ≤ (gt p1 x7).tmod p0.fbytes.fwidth) then ((fn140_l1 p0 p1 n16) (x6.set (IntKind.i64.wrap ((gt p1 x7).tdiv p0.fbytes.fwidth)) (ior .u64 (gt x6.l (IntKind.i64.wrap ((gt p1 x7).tdiv p0.fbytes.fwidth))) (ishl .u64 1 ((gt p1 x7).tmod p0.fbytes.fwidth)))) (IntKind.i64.wrap (x7 + 1))) else none) else none) else none) else none) else (some x6)
theorem fn140_l1_s (p0 : Known) (p1 : List Int) (n16 : Nat) (x6 : Ar Int 8) (x7 : Int) : fn140_l1 p0 p1 (n16 + 1) x6 x7 = bif decide (x7 < (p1.length : Int)) then (bif inb x7 p1.length then (bif p0.fbytes.fwidth != 0 then (bif inb (IntKind.i64.wrap ((gt p1 x7).tdiv p0.fbytes.fwidth)) 8 then (bif decide ((0 : Int) ≤ (gt p1 x7).tmod p0.fbytes.fwidth) then ((fn140_l1 p0 p1 n16) (x6.set (IntKind.i64.wrap ((gt p1 x7).tdiv p0.fbytes.fwidth)) (ior .u64 (gt x6.l (IntKind.i64.wrap ((gt p1 x7).tdiv p0.fbytes.fwidth))) (ishl .u64 1 ((gt p1 x7).tmod p0.fbytes.fwidth)))) (IntKind.i64.wrap (x7 + 1))) else none) else none) else none) else none) else (some x6) := rfl
def fn140_k1 (p0 : Known) (x13 : Ar Int 8) : Option (Known) :=
 some (⟨p0.fregs, (⟨x13, p0.fbytes.fwidth⟩ : Bag64)⟩ : Known)
theorem fn140_k1_s (p0 : Known) (x13 : Ar Int 8) : fn140_k1 p0 x13 = some (⟨p0.fregs, (⟨x13, p0.fbytes.fwidth⟩ : Bag64)⟩ : Known) := rfl
def fn140 (F : Nat) (p0 : Known) (p1 : List Int) : Option (Known) :=
 Option.bind (fn140_l1 p0 p1 F p0.fbytes.fwords 0) fun o14 => (fn140_k1 p0 o14)
theorem c140 (F : Nat) (p0 : Known) (p1 : List Int) (r : Known) (h : fn140 F p0 p1 = some r) : Con Tryz.prog 140 [.p 0 9, .sl 1] [(0, .cells 125 [.ar (En.int .u16) 8 p0.fregs.fwords, .v (.int .i64 p0.fregs.fwidth), .ar (En.int .u64) 8 p0.fbytes.fwords, .v (.int .i64 p0.fbytes.fwidth)]), (1, .rd (Et.int .i64) p1)] 2 (.tu []) [(0, .cells 125 [.ar (En.int .u16) 8 r.fregs.fwords, .v (.int .i64 r.fregs.fwidth), .ar (En.int .u64) 8 r.fbytes.fwords, .v (.int .i64 r.fbytes.fwidth)])] 2 := by
 rw [fn140] at h
 refine Con.of_body Tryz.func140 rfl Tryz.ntmps140 rfl fun w F0 ρ => ?_
 refine U_ tbOk 3 [] aN ?_
 obtain ⟨o14, hl15, h⟩ := bd h
 refine CT 0 ⟨[], [(0, .cells 125 [.ar (En.int .u16) 8 p0.fregs.fwords, .v (.int .i64 p0.fregs.fwidth), .ar (En.int .u64) 8 o14, .v (.int .i64 p0.fbytes.fwidth)]), (1, .rd (Et.int .i64) p1)], 2⟩ ?_ ?_
 ·have h018 := h
  clear h
  refine G4.imp (I_ [0, 1]) (LP (fun (n : Nat) (s : (Ar Int 8) × Int) => fn140_l1 p0 p1 n s.1 s.2) (fun (s : (Ar Int 8) × Int) => ⟨[(0, .p 0 9), (6, .sl 1), (7, .v (.int .i64 (p1.length : Int))), (8, .v (.int .i64 s.2))], [(0, .cells 125 [.ar (En.int .u16) 8 p0.fregs.fwords, .v (.int .i64 p0.fregs.fwidth), .ar (En.int .u64) 8 s.1, .v (.int .i64 p0.fbytes.fwidth)]), (1, .rd (Et.int .i64) p1)], 2⟩) (fun _ => rfl) (s0 := (p0.fbytes.fwords, 0)) hl15 ?_)
  clear hl15
  rintro R19 n16 ⟨x6, x7⟩ h ih17
  replace h := (fn140_l1_s p0 p1 n16 x6 x7).symm.trans h
  refine U_ tbOk 1 [] aN ?_
  refine C_ h (fun h hb20 => ?_) fun h hb20 => ?_
  ·obtain ⟨hk21, h⟩ := ck h
   refine U_ tbOk 3 [] (aC hk21 aN) ?_
   obtain ⟨hk22, h⟩ := ck h
   obtain ⟨hk23, h⟩ := ck h
   obtain ⟨hk24, h⟩ := ck h
   refine DR tbOk hmix [] [([], []), ([], []), ([], []), ([], []), ([], []), ([0], []), ([], []), ([], []), ([], []), ([0], []), ([0], []), ([], []), ([], []), ([], []), ([], []), ([0], []), ([], []), ([], []), ([], []), ([], []), ([], []), ([0], []), ([0], [0])] [.sa (En.int .u64) 8 _ (ior .u64 (gt x6.l (IntKind.i64.wrap ((gt p1 x7).tdiv p0.fbytes.fwidth))) (ishl .u64 1 ((gt p1 x7).tmod p0.fbytes.fwidth)))] (aR (aC hk22 (aR (aC hk23 (aR (aR (aC hk22 (aC hk24 (aR (aC hk23 (aR (aR (aR aN))))))))))))) (by rfl) ?_
   refine U_ tbOk 2 [] aN ?_
   exact ih17 (x6.set (IntKind.i64.wrap ((gt p1 x7).tdiv p0.fbytes.fwidth)) (ior .u64 (gt x6.l (IntKind.i64.wrap ((gt p1 x7).tdiv p0.fbytes.fwidth))) (ishl .u64 1 ((gt p1 x7).tmod p0.fbytes.fwidth))), IntKind.i64.wrap (x7 + 1)) h _ _ (I_ [0, 1])
  ·refine U_ tbOk 0 [] aN ?_
   obtain rfl := sj h
   exact CE (I_ [0, 1])
 ·replace h := (fn140_k1_s p0 o14).symm.trans h
  refine U_ tbOk 0 [] aN ?_
  obtain rfl := sj h
  exact TN_ tbOk.t Tryz.results140 [0, 1]
def fn112 (F : Nat) (p0 : Walk) (p1 : Known) (p2 : Int) : Option (Bool × Known) :=
 bif inb p2 p0.fp.length then (Option.bind (fn136 F (gt p0.fp p2)) fun v2 => (bif (((gt p0.fp p2).fDst) != 10) || v2.isEmpty then (some (false, p1)) else (bif (iand .u8 ((gt p0.fp p2).fOp) 7) == 3 then (Option.bind (fn135 F p1 ([IntKind.i64.wrap ((gt p0.fp p2).fSrc)] : List Int)) fun v6 => (bif !v6 then (some (false, p1)) else (Option.bind (fn140 F p1 v2) fun v9 => (some (true, v9))))) else (Option.bind (fn140 F p1 v2) fun v11 => (some (true, v11)))))) else none
theorem c112 (F : Nat) (p0 : Walk) (p1 : Known) (p2 : Int) (r : Bool × Known) (h : fn112 F p0 p1 p2 = some r) : Con Tryz.prog 112 [.p 0 0, .p 5 0, .v (.int .i64 p2)] [(0, .cells 62 [.sl 1, .v (.string p0.ft.fName), .v (.int .i64 p0.ft.fCtx), .sl 2, .sl 3, .v (.int .i64 p0.ft.fLo), .v (.int .i64 p0.ft.fHi), .sl 4]), (1, .rd Instr.E p0.fp), (2, .rd Fld.E p0.ft.fFields), (3, .rd Need.E p0.ft.fNeeds), (4, .rd (Et.int .i64) p0.ftargets), (5, .cells 125 [.ar (En.int .u16) 8 p1.fregs.fwords, .v (.int .i64 p1.fregs.fwidth), .ar (En.int .u64) 8 p1.fbytes.fwords, .v (.int .i64 p1.fbytes.fwidth)])] 6 (.v (.bool r.1)) [(0, .cells 62 [.sl 1, .v (.string p0.ft.fName), .v (.int .i64 p0.ft.fCtx), .sl 2, .sl 3, .v (.int .i64 p0.ft.fLo), .v (.int .i64 p0.ft.fHi), .sl 4]), (5, .cells 125 [.ar (En.int .u16) 8 r.2.fregs.fwords, .v (.int .i64 r.2.fregs.fwidth), .ar (En.int .u64) 8 r.2.fbytes.fwords, .v (.int .i64 r.2.fbytes.fwidth)])] 6 := by
 rw [fn112] at h
 refine Con.of_body Tryz.func112 rfl Tryz.ntmps112 rfl fun w F0 ρ => ?_
 obtain ⟨hk1, h⟩ := ck h
 obtain ⟨v2, hv3, h⟩ := bd h
 refine U_ tbOk 13 [.cl true [] (fun _ => c136 F (gt p0.fp p2) _ hv3)] (aC hk1 (aK aN)) ?_
 refine CDS h (fun h hb4 => ?_) (fun h hb4 => ?_)
 ·refine DR (tbOk.lit [(24, 25, true)]) hmix [41] [([], []), ([6], []), ([], []), ([], []), ([], []), ([7], []), ([], []), ([], []), ([], []), ([], []), ([], []), ([], []), ([], []), ([], []), ([], []), ([], []), ([], []), ([], []), ([], []), ([], []), ([], []), ([], []), ([], []), ([], [])] [] (aR (aC hb4 aN)) (by rfl) ?_
  refine U_ tbOk 0 [] aN ?_
  refine CDT rfl (by rfl) ?_
  refine U_ tbOk 1 [] aN ?_
  obtain rfl := sj h
  exact T_ tbOk.t Tryz.results112 [0, 1, 2, 3, 4, 5]
 ·refine CDS h (fun h hb5 => ?_) (fun h hb5 => ?_)
  ·obtain ⟨v6, hv7, h⟩ := bd h
   refine DR (tbOk.lit [(24, 25, false), (29, 30, true)]) hmix [41] [([], []), ([6], []), ([], []), ([], []), ([], []), ([7], []), ([], []), ([], []), ([], []), ([6], []), ([], []), ([], []), ([], []), ([], []), ([], []), ([], []), ([], []), ([6], []), ([], []), ([], []), ([5, 8], []), ([], []), ([], []), ([], [])] [.bs (Et.int .i64) ([IntKind.i64.wrap ((gt p0.fp p2).fSrc)] : List Int), .cl true [5, 8] (fun _ => c135 F p1 ([IntKind.i64.wrap ((gt p0.fp p2).fSrc)] : List Int) _ hv7)] (aR (aC hb4 (aR (aC hb5 (aR (aR (aR (aR (aK aN))))))))) (by rfl) ?_
   refine U_ tbOk 0 [] aN ?_
   refine C_ h (fun h hb8 => ?_) fun h hb8 => ?_
   ·refine U_ tbOk 1 [] aN ?_
    obtain rfl := sj h
    exact T_ tbOk.t Tryz.results112 [0, 1, 2, 3, 4, 5]
   ·obtain ⟨v9, hv10, h⟩ := bd h
    refine U_ tbOk 6 [.cl true [5, 7] (fun _ => c140 F p1 v2 _ hv10)] (aK aN) ?_
    obtain rfl := sj h
    exact T_ tbOk.t Tryz.results112 [0, 1, 2, 3, 4, 5]
  ·refine DR (tbOk.lit [(24, 25, false), (29, 30, false)]) hmix [41] [([], []), ([6], []), ([], []), ([], []), ([], []), ([7], []), ([], []), ([], []), ([], []), ([6], []), ([], []), ([], []), ([], []), ([], []), ([], []), ([], []), ([], []), ([], []), ([], []), ([], []), ([], []), ([], []), ([], []), ([], [])] [] (aR (aC hb4 (aR (aC hb5 aN)))) (by rfl) ?_
   refine U_ tbOk 0 [] aN ?_
   refine CDF rfl (by rfl) ?_
   obtain ⟨v11, hv12, h⟩ := bd h
   refine U_ tbOk 6 [.cl true [5, 7] (fun _ => c140 F p1 v2 _ hv12)] (aK aN) ?_
   obtain rfl := sj h
   exact T_ tbOk.t Tryz.results112 [0, 1, 2, 3, 4, 5]
def fn113 (F : Nat) (p0 : Walk) (p1 : Known) (p2 : Int) : Option (Bool) :=
 bif inb p2 p0.fp.length then (bif (iand .u8 ((gt p0.fp p2).fOp) 240) == 0 then (some true) else (bif (iand .u8 ((gt p0.fp p2).fOp) 240) == 128 then (some false) else (bif (iand .u8 ((gt p0.fp p2).fOp) 240) == 144 then (Option.bind (bif bif p2 == 0 then false else true then fn102 F p0.ftargets p2 else some false) fun v5 => (bif (p2 == 0) || v5 then (some false) else (bif inb (IntKind.i64.wrap (p2 - 1)) p0.fp.length then (some ((((((gt p0.fp (IntKind.i64.wrap (p2 - 1))).fOp) == 183) && (((gt p0.fp (IntKind.i64.wrap (p2 - 1))).fDst) == 0)) && (decide (p0.ft.fLo ≤ (IntKind.i64.wrap ((gt p0.fp (IntKind.i64.wrap (p2 - 1))).fImm))))) && (decide ((IntKind.i64.wrap ((gt p0.fp (IntKind.i64.wrap (p2 - 1))).fImm)) ≤ p0.ft.fHi)))) else none))) else (Option.bind (fn135 F p1 ([IntKind.i64.wrap ((gt p0.fp p2).fDst)] : List Int)) fun v9 => (Option.bind (bif bif v9 then true else false then fn134 F p0 p1 (gt p0.fp p2) else some false) fun v11 => (some (v9 && v11))))))) else none
theorem c113 (F : Nat) (p0 : Walk) (p1 : Known) (p2 : Int) (r : Bool) (h : fn113 F p0 p1 p2 = some r) : Con Tryz.prog 113 [.p 0 0, .p 5 0, .v (.int .i64 p2)] [(0, .cells 62 [.sl 1, .v (.string p0.ft.fName), .v (.int .i64 p0.ft.fCtx), .sl 2, .sl 3, .v (.int .i64 p0.ft.fLo), .v (.int .i64 p0.ft.fHi), .sl 4]), (1, .rd Instr.E p0.fp), (2, .rd Fld.E p0.ft.fFields), (3, .rd Need.E p0.ft.fNeeds), (4, .rd (Et.int .i64) p0.ftargets), (5, .cells 125 [.ar (En.int .u16) 8 p1.fregs.fwords, .v (.int .i64 p1.fregs.fwidth), .ar (En.int .u64) 8 p1.fbytes.fwords, .v (.int .i64 p1.fbytes.fwidth)])] 6 (.v (.bool r)) [(0, .cells 62 [.sl 1, .v (.string p0.ft.fName), .v (.int .i64 p0.ft.fCtx), .sl 2, .sl 3, .v (.int .i64 p0.ft.fLo), .v (.int .i64 p0.ft.fHi), .sl 4]), (5, .cells 125 [.ar (En.int .u16) 8 p1.fregs.fwords, .v (.int .i64 p1.fregs.fwidth), .ar (En.int .u64) 8 p1.fbytes.fwords, .v (.int .i64 p1.fbytes.fwidth)])] 6 := by
 rw [fn113] at h
 refine Con.of_body Tryz.func113 rfl Tryz.ntmps113 rfl fun w F0 ρ => ?_
 obtain ⟨hk1, h⟩ := ck h
 refine U_ tbOk 15 [] (aC hk1 aN) ?_
 refine C_ h (fun h hb2 => ?_) fun h hb2 => ?_
 ·refine U_ tbOk 1 [] aN ?_
  obtain rfl := sj h
  exact T_ tbOk.t Tryz.results113 [0, 1, 2, 3, 4, 5]
 ·refine U_ tbOk 2 [] aN ?_
  refine C_ h (fun h hb3 => ?_) fun h hb3 => ?_
  ·refine U_ tbOk 1 [] aN ?_
   obtain rfl := sj h
   exact T_ tbOk.t Tryz.results113 [0, 1, 2, 3, 4, 5]
  ·refine U_ tbOk 2 [] aN ?_
   refine C_ h (fun h hb4 => ?_) fun h hb4 => ?_
   ·obtain ⟨v5, hv6, h⟩ := bd h
    refine U_ tbOk 10 [.cl (bif p2 == 0 then false else true) [4] (fun hg => c102 F p0.ftargets p2 _ (gcl hg hv6))] (aR (aR (aK aN))) ?_
    refine C_ h (fun h hb7 => ?_) fun h hb7 => ?_
    ·refine U_ tbOk 1 [] aN ?_
     obtain rfl := sj h
     exact T_ tbOk.t Tryz.results113 [0, 1, 2, 3, 4, 5]
    ·obtain ⟨hk8, h⟩ := ck h
     refine U_ tbOk 41 [] (aC hk8 aN) ?_
     obtain rfl := sj h
     exact T_ tbOk.t Tryz.results113 [0, 1, 2, 3, 4, 5]
   ·refine U_ tbOk 0 [] aN ?_
    obtain ⟨v9, hv10, h⟩ := bd h
    obtain ⟨v11, hv12, h⟩ := bd h
    refine DR tbOk hmix [6] [([], []), ([], []), ([], []), ([], []), ([6], []), ([], []), ([], []), ([5, 7], []), ([], []), ([], []), ([], []), ([6], []), ([0, 1, 2, 3, 4, 5], []), ([], []), ([], [])] [.bs (Et.int .i64) ([IntKind.i64.wrap ((gt p0.fp p2).fDst)] : List Int), .cl true [5, 7] (fun _ => c135 F p1 ([IntKind.i64.wrap ((gt p0.fp p2).fDst)] : List Int) _ hv10), .cl (bif v9 then true else false) [0, 1, 2, 3, 4, 5] (fun hg => c134 F p0 p1 (gt p0.fp p2) _ (gcl hg hv12))] (aR (aR (aR (aR (aK (aR (aR (aK aN)))))))) (by rfl) ?_
    refine U_ tbOk 0 [] aN ?_
    obtain rfl := sj h
    exact T_ tbOk.t Tryz.results113 [0, 1, 2, 3, 4, 5]
def fn66 (F : Nat) (p0 : Walk) (p1 : Known) (p2 : Int) : Option (Bool × Known) :=
 bif inb p2 p0.fp.length then (bif (iand .u8 ((gt p0.fp p2).fOp) 7) == 4 then (Option.bind (fn109 F p0 p1 p2) fun v3 => (Option.bind (fn114 F ([4, 7, 0, 1] : List Int) (iand .u8 ((gt p0.fp p2).fOp) 7)) fun v5 => (bif v5 then (Option.bind (fn107 F p1 ([IntKind.i64.wrap ((gt p0.fp p2).fDst)] : List Int)) fun v8 => (bif (IntKind.i64.wrap ((gt p0.fp p2).fDst)) == 1 then (Option.bind (fn115 v8 15) fun v11 => (some (v3, v11))) else (some (v3, v8)))) else (some (v3, p1))))) else (bif (iand .u8 ((gt p0.fp p2).fOp) 7) == 7 then (Option.bind (fn109 F p0 p1 p2) fun v14 => (Option.bind (fn114 F ([4, 7, 0, 1] : List Int) (iand .u8 ((gt p0.fp p2).fOp) 7)) fun v16 => (bif v16 then (Option.bind (fn107 F p1 ([IntKind.i64.wrap ((gt p0.fp p2).fDst)] : List Int)) fun v19 => (bif (IntKind.i64.wrap ((gt p0.fp p2).fDst)) == 1 then (Option.bind (fn115 v19 15) fun v22 => (some (v14, v22))) else (some (v14, v19)))) else (some (v14, p1))))) else (bif (iand .u8 ((gt p0.fp p2).fOp) 7) == 0 then (Option.bind (fn110 p0 p1 p2) fun v25 => (Option.bind (fn114 F ([4, 7, 0, 1] : List Int) (iand .u8 ((gt p0.fp p2).fOp) 7)) fun v27 => (bif v27 then (Option.bind (fn107 F p1 ([IntKind.i64.wrap ((gt p0.fp p2).fDst)] : List Int)) fun v30 => (bif (IntKind.i64.wrap ((gt p0.fp p2).fDst)) == 1 then (Option.bind (fn115 v30 15) fun v33 => (some (v25, v33))) else (some (v25, v30)))) else (some (v25, p1))))) else (bif (iand .u8 ((gt p0.fp p2).fOp) 7) == 1 then (Option.bind (fn111 F p0 p1 p2) fun v36 => (Option.bind (fn114 F ([4, 7, 0, 1] : List Int) (iand .u8 ((gt p0.fp p2).fOp) 7)) fun v38 => (bif v38 then (Option.bind (fn107 F p1 ([IntKind.i64.wrap ((gt p0.fp p2).fDst)] : List Int)) fun v41 => (bif (IntKind.i64.wrap ((gt p0.fp p2).fDst)) == 1 then (Option.bind (fn115 v41 15) fun v44 => (some (v36, v44))) else (some (v36, v41)))) else (some (v36, p1))))) else (bif (iand .u8 ((gt p0.fp p2).fOp) 7) == 2 then (Option.bind (fn112 F p0 p1 p2) fun v47 => (Option.bind (fn114 F ([4, 7, 0, 1] : List Int) (iand .u8 ((gt p0.fp p2).fOp) 7)) fun v49 => (bif v49 then (Option.bind (fn107 F v47.2 ([IntKind.i64.wrap ((gt p0.fp p2).fDst)] : List Int)) fun v52 => (bif (IntKind.i64.wrap ((gt p0.fp p2).fDst)) == 1 then (Option.bind (fn115 v52 15) fun v55 => (some (v47.1, v55))) else (some (v47.1, v52)))) else (some (v47.1, v47.2))))) else (bif (iand .u8 ((gt p0.fp p2).fOp) 7) == 3 then (Option.bind (fn112 F p0 p1 p2) fun v58 => (Option.bind (fn114 F ([4, 7, 0, 1] : List Int) (iand .u8 ((gt p0.fp p2).fOp) 7)) fun v60 => (bif v60 then (Option.bind (fn107 F v58.2 ([IntKind.i64.wrap ((gt p0.fp p2).fDst)] : List Int)) fun v63 => (bif (IntKind.i64.wrap ((gt p0.fp p2).fDst)) == 1 then (Option.bind (fn115 v63 15) fun v66 => (some (v58.1, v66))) else (some (v58.1, v63)))) else (some (v58.1, v58.2))))) else (bif (iand .u8 ((gt p0.fp p2).fOp) 7) == 5 then (Option.bind (fn113 F p0 p1 p2) fun v69 => (Option.bind (fn114 F ([4, 7, 0, 1] : List Int) (iand .u8 ((gt p0.fp p2).fOp) 7)) fun v71 => (bif v71 then (Option.bind (fn107 F p1 ([IntKind.i64.wrap ((gt p0.fp p2).fDst)] : List Int)) fun v74 => (bif (IntKind.i64.wrap ((gt p0.fp p2).fDst)) == 1 then (Option.bind (fn115 v74 15) fun v77 => (some (v69, v77))) else (some (v69, v74)))) else (some (v69, p1))))) else (bif (iand .u8 ((gt p0.fp p2).fOp) 7) == 6 then (Option.bind (fn113 F p0 p1 p2) fun v80 => (Option.bind (fn114 F ([4, 7, 0, 1] : List Int) (iand .u8 ((gt p0.fp p2).fOp) 7)) fun v82 => (bif v82 then (Option.bind (fn107 F p1 ([IntKind.i64.wrap ((gt p0.fp p2).fDst)] : List Int)) fun v85 => (bif (IntKind.i64.wrap ((gt p0.fp p2).fDst)) == 1 then (Option.bind (fn115 v85 15) fun v88 => (some (v80, v88))) else (some (v80, v85)))) else (some (v80, p1))))) else none)))))))) else none
theorem c66 (F : Nat) (p0 : Walk) (p1 : Known) (p2 : Int) (r : Bool × Known) (h : fn66 F p0 p1 p2 = some r) : Con Tryz.prog 66 [.p 0 0, .p 5 0, .v (.int .i64 p2)] [(0, .cells 62 [.sl 1, .v (.string p0.ft.fName), .v (.int .i64 p0.ft.fCtx), .sl 2, .sl 3, .v (.int .i64 p0.ft.fLo), .v (.int .i64 p0.ft.fHi), .sl 4]), (1, .rd Instr.E p0.fp), (2, .rd Fld.E p0.ft.fFields), (3, .rd Need.E p0.ft.fNeeds), (4, .rd (Et.int .i64) p0.ftargets), (5, .cells 125 [.ar (En.int .u16) 8 p1.fregs.fwords, .v (.int .i64 p1.fregs.fwidth), .ar (En.int .u64) 8 p1.fbytes.fwords, .v (.int .i64 p1.fbytes.fwidth)])] 6 (.v (.bool r.1)) [(0, .cells 62 [.sl 1, .v (.string p0.ft.fName), .v (.int .i64 p0.ft.fCtx), .sl 2, .sl 3, .v (.int .i64 p0.ft.fLo), .v (.int .i64 p0.ft.fHi), .sl 4]), (5, .cells 125 [.ar (En.int .u16) 8 r.2.fregs.fwords, .v (.int .i64 r.2.fregs.fwidth), .ar (En.int .u64) 8 r.2.fbytes.fwords, .v (.int .i64 r.2.fbytes.fwidth)])] 6 := by
 rw [fn66] at h
 refine Con.of_body Tryz.func66 rfl Tryz.ntmps66 rfl fun w F0 ρ => ?_
 obtain ⟨hk1, h⟩ := ck h
 refine CDS h (fun h hb2 => ?_) (fun h hb2 => ?_)
 ·obtain ⟨v3, hv4, h⟩ := bd h
  obtain ⟨v5, hv6, h⟩ := bd h
  refine U_ tbOk 33 [.ml, .il Tryz.runUnderlying172 Tryz.runUnderlying5, .il Tryz.runUnderlying172 Tryz.runUnderlying5, .il Tryz.runUnderlying172 Tryz.runUnderlying5, .il Tryz.runUnderlying172 Tryz.runUnderlying5, .il Tryz.runUnderlying172 Tryz.runUnderlying5, .il Tryz.runUnderlying172 Tryz.runUnderlying5, .il Tryz.runUnderlying172 Tryz.runUnderlying5, .il Tryz.runUnderlying172 Tryz.runUnderlying5, .ll 0 Tryz.runUnderlying172 Tryz.runUnderlying5 Tryz.zeroValue171, .cl true [0, 1, 2, 3, 4, 5] (fun _ => c109 F p0 p1 p2 _ hv4), .bs (Et.int .u8) ([4, 7, 0, 1] : List Int), .cl true [7] (fun _ => c114 F ([4, 7, 0, 1] : List Int) (iand .u8 ((gt p0.fp p2).fOp) 7) _ hv6)] (aC hk1 (aC hb2 (aK (aR (aR (aK aN)))))) ?_
  refine C_ h (fun h hb7 => ?_) fun h hb7 => ?_
  ·obtain ⟨v8, hv9, h⟩ := bd h
   refine U_ tbOk 18 [.bs (Et.int .i64) ([IntKind.i64.wrap ((gt p0.fp p2).fDst)] : List Int), .cl true [5, 8] (fun _ => c107 F p1 ([IntKind.i64.wrap ((gt p0.fp p2).fDst)] : List Int) _ hv9)] (aC hk1 (aR (aR (aK aN)))) ?_
   refine C_ h (fun h hb10 => ?_) fun h hb10 => ?_
   ·obtain ⟨v11, hv12, h⟩ := bd h
    refine U_ tbOk 6 [.cl true [5] (fun _ => c115 v8 15 _ hv12)] (aK aN) ?_
    obtain rfl := sj h
    exact T_ tbOk.t Tryz.results66 [0, 1, 2, 3, 4, 5]
   ·refine U_ tbOk 2 [] aN ?_
    obtain rfl := sj h
    exact T_ tbOk.t Tryz.results66 [0, 1, 2, 3, 4, 5]
  ·refine U_ tbOk 2 [] aN ?_
   obtain rfl := sj h
   exact T_ tbOk.t Tryz.results66 [0, 1, 2, 3, 4, 5]
 ·refine CDS h (fun h hb13 => ?_) (fun h hb13 => ?_)
  ·obtain ⟨v14, hv15, h⟩ := bd h
   obtain ⟨v16, hv17, h⟩ := bd h
   refine U_ tbOk 33 [.ml, .il Tryz.runUnderlying172 Tryz.runUnderlying5, .il Tryz.runUnderlying172 Tryz.runUnderlying5, .il Tryz.runUnderlying172 Tryz.runUnderlying5, .il Tryz.runUnderlying172 Tryz.runUnderlying5, .il Tryz.runUnderlying172 Tryz.runUnderlying5, .il Tryz.runUnderlying172 Tryz.runUnderlying5, .il Tryz.runUnderlying172 Tryz.runUnderlying5, .il Tryz.runUnderlying172 Tryz.runUnderlying5, .ll 1 Tryz.runUnderlying172 Tryz.runUnderlying5 Tryz.zeroValue171, .cl true [0, 1, 2, 3, 4, 5] (fun _ => c109 F p0 p1 p2 _ hv15), .bs (Et.int .u8) ([4, 7, 0, 1] : List Int), .cl true [7] (fun _ => c114 F ([4, 7, 0, 1] : List Int) (iand .u8 ((gt p0.fp p2).fOp) 7) _ hv17)] (aC hk1 (aC hb2 (aC hb13 (aK (aR (aR (aK aN))))))) ?_
   refine C_ h (fun h hb18 => ?_) fun h hb18 => ?_
   ·obtain ⟨v19, hv20, h⟩ := bd h
    refine U_ tbOk 18 [.bs (Et.int .i64) ([IntKind.i64.wrap ((gt p0.fp p2).fDst)] : List Int), .cl true [5, 8] (fun _ => c107 F p1 ([IntKind.i64.wrap ((gt p0.fp p2).fDst)] : List Int) _ hv20)] (aC hk1 (aR (aR (aK aN)))) ?_
    refine C_ h (fun h hb21 => ?_) fun h hb21 => ?_
    ·obtain ⟨v22, hv23, h⟩ := bd h
     refine U_ tbOk 6 [.cl true [5] (fun _ => c115 v19 15 _ hv23)] (aK aN) ?_
     obtain rfl := sj h
     exact T_ tbOk.t Tryz.results66 [0, 1, 2, 3, 4, 5]
    ·refine U_ tbOk 2 [] aN ?_
     obtain rfl := sj h
     exact T_ tbOk.t Tryz.results66 [0, 1, 2, 3, 4, 5]
   ·refine U_ tbOk 2 [] aN ?_
    obtain rfl := sj h
    exact T_ tbOk.t Tryz.results66 [0, 1, 2, 3, 4, 5]
  ·refine CDS h (fun h hb24 => ?_) (fun h hb24 => ?_)
   ·obtain ⟨v25, hv26, h⟩ := bd h
    obtain ⟨v27, hv28, h⟩ := bd h
    refine U_ tbOk 33 [.ml, .il Tryz.runUnderlying172 Tryz.runUnderlying5, .il Tryz.runUnderlying172 Tryz.runUnderlying5, .il Tryz.runUnderlying172 Tryz.runUnderlying5, .il Tryz.runUnderlying172 Tryz.runUnderlying5, .il Tryz.runUnderlying172 Tryz.runUnderlying5, .il Tryz.runUnderlying172 Tryz.runUnderlying5, .il Tryz.runUnderlying172 Tryz.runUnderlying5, .il Tryz.runUnderlying172 Tryz.runUnderlying5, .ll 2 Tryz.runUnderlying172 Tryz.runUnderlying5 Tryz.zeroValue171, .cl true [0, 1, 2, 3, 4, 5] (fun _ => c110 p0 p1 p2 _ hv26), .bs (Et.int .u8) ([4, 7, 0, 1] : List Int), .cl true [7] (fun _ => c114 F ([4, 7, 0, 1] : List Int) (iand .u8 ((gt p0.fp p2).fOp) 7) _ hv28)] (aC hk1 (aC hb2 (aC hb13 (aC hb24 (aK (aR (aR (aK aN)))))))) ?_
    refine C_ h (fun h hb29 => ?_) fun h hb29 => ?_
    ·obtain ⟨v30, hv31, h⟩ := bd h
     refine U_ tbOk 18 [.bs (Et.int .i64) ([IntKind.i64.wrap ((gt p0.fp p2).fDst)] : List Int), .cl true [5, 8] (fun _ => c107 F p1 ([IntKind.i64.wrap ((gt p0.fp p2).fDst)] : List Int) _ hv31)] (aC hk1 (aR (aR (aK aN)))) ?_
     refine C_ h (fun h hb32 => ?_) fun h hb32 => ?_
     ·obtain ⟨v33, hv34, h⟩ := bd h
      refine U_ tbOk 6 [.cl true [5] (fun _ => c115 v30 15 _ hv34)] (aK aN) ?_
      obtain rfl := sj h
      exact T_ tbOk.t Tryz.results66 [0, 1, 2, 3, 4, 5]
     ·refine U_ tbOk 2 [] aN ?_
      obtain rfl := sj h
      exact T_ tbOk.t Tryz.results66 [0, 1, 2, 3, 4, 5]
    ·refine U_ tbOk 2 [] aN ?_
     obtain rfl := sj h
     exact T_ tbOk.t Tryz.results66 [0, 1, 2, 3, 4, 5]
   ·refine CDS h (fun h hb35 => ?_) (fun h hb35 => ?_)
    ·obtain ⟨v36, hv37, h⟩ := bd h
     obtain ⟨v38, hv39, h⟩ := bd h
     refine U_ tbOk 33 [.ml, .il Tryz.runUnderlying172 Tryz.runUnderlying5, .il Tryz.runUnderlying172 Tryz.runUnderlying5, .il Tryz.runUnderlying172 Tryz.runUnderlying5, .il Tryz.runUnderlying172 Tryz.runUnderlying5, .il Tryz.runUnderlying172 Tryz.runUnderlying5, .il Tryz.runUnderlying172 Tryz.runUnderlying5, .il Tryz.runUnderlying172 Tryz.runUnderlying5, .il Tryz.runUnderlying172 Tryz.runUnderlying5, .ll 3 Tryz.runUnderlying172 Tryz.runUnderlying5 Tryz.zeroValue171, .cl true [0, 1, 2, 3, 4, 5] (fun _ => c111 F p0 p1 p2 _ hv37), .bs (Et.int .u8) ([4, 7, 0, 1] : List Int), .cl true [7] (fun _ => c114 F ([4, 7, 0, 1] : List Int) (iand .u8 ((gt p0.fp p2).fOp) 7) _ hv39)] (aC hk1 (aC hb2 (aC hb13 (aC hb24 (aC hb35 (aK (aR (aR (aK aN))))))))) ?_
     refine C_ h (fun h hb40 => ?_) fun h hb40 => ?_
     ·obtain ⟨v41, hv42, h⟩ := bd h
      refine U_ tbOk 18 [.bs (Et.int .i64) ([IntKind.i64.wrap ((gt p0.fp p2).fDst)] : List Int), .cl true [5, 8] (fun _ => c107 F p1 ([IntKind.i64.wrap ((gt p0.fp p2).fDst)] : List Int) _ hv42)] (aC hk1 (aR (aR (aK aN)))) ?_
      refine C_ h (fun h hb43 => ?_) fun h hb43 => ?_
      ·obtain ⟨v44, hv45, h⟩ := bd h
       refine U_ tbOk 6 [.cl true [5] (fun _ => c115 v41 15 _ hv45)] (aK aN) ?_
       obtain rfl := sj h
       exact T_ tbOk.t Tryz.results66 [0, 1, 2, 3, 4, 5]
      ·refine U_ tbOk 2 [] aN ?_
       obtain rfl := sj h
       exact T_ tbOk.t Tryz.results66 [0, 1, 2, 3, 4, 5]
     ·refine U_ tbOk 2 [] aN ?_
      obtain rfl := sj h
      exact T_ tbOk.t Tryz.results66 [0, 1, 2, 3, 4, 5]
    ·refine CDS h (fun h hb46 => ?_) (fun h hb46 => ?_)
     ·obtain ⟨v47, hv48, h⟩ := bd h
      obtain ⟨v49, hv50, h⟩ := bd h
      refine U_ tbOk 33 [.ml, .il Tryz.runUnderlying172 Tryz.runUnderlying5, .il Tryz.runUnderlying172 Tryz.runUnderlying5, .il Tryz.runUnderlying172 Tryz.runUnderlying5, .il Tryz.runUnderlying172 Tryz.runUnderlying5, .il Tryz.runUnderlying172 Tryz.runUnderlying5, .il Tryz.runUnderlying172 Tryz.runUnderlying5, .il Tryz.runUnderlying172 Tryz.runUnderlying5, .il Tryz.runUnderlying172 Tryz.runUnderlying5, .ll 4 Tryz.runUnderlying172 Tryz.runUnderlying5 Tryz.zeroValue171, .cl true [0, 1, 2, 3, 4, 5] (fun _ => c112 F p0 p1 p2 _ hv48), .bs (Et.int .u8) ([4, 7, 0, 1] : List Int), .cl true [7] (fun _ => c114 F ([4, 7, 0, 1] : List Int) (iand .u8 ((gt p0.fp p2).fOp) 7) _ hv50)] (aC hk1 (aC hb2 (aC hb13 (aC hb24 (aC hb35 (aC hb46 (aK (aR (aR (aK aN)))))))))) ?_
      refine C_ h (fun h hb51 => ?_) fun h hb51 => ?_
      ·obtain ⟨v52, hv53, h⟩ := bd h
       refine U_ tbOk 18 [.bs (Et.int .i64) ([IntKind.i64.wrap ((gt p0.fp p2).fDst)] : List Int), .cl true [5, 8] (fun _ => c107 F v47.2 ([IntKind.i64.wrap ((gt p0.fp p2).fDst)] : List Int) _ hv53)] (aC hk1 (aR (aR (aK aN)))) ?_
       refine C_ h (fun h hb54 => ?_) fun h hb54 => ?_
       ·obtain ⟨v55, hv56, h⟩ := bd h
        refine U_ tbOk 6 [.cl true [5] (fun _ => c115 v52 15 _ hv56)] (aK aN) ?_
        obtain rfl := sj h
        exact T_ tbOk.t Tryz.results66 [0, 1, 2, 3, 4, 5]
       ·refine U_ tbOk 2 [] aN ?_
        obtain rfl := sj h
        exact T_ tbOk.t Tryz.results66 [0, 1, 2, 3, 4, 5]
      ·refine U_ tbOk 2 [] aN ?_
       obtain rfl := sj h
       exact T_ tbOk.t Tryz.results66 [0, 1, 2, 3, 4, 5]
     ·refine CDS h (fun h hb57 => ?_) (fun h hb57 => ?_)
      ·obtain ⟨v58, hv59, h⟩ := bd h
       obtain ⟨v60, hv61, h⟩ := bd h
       refine U_ tbOk 33 [.ml, .il Tryz.runUnderlying172 Tryz.runUnderlying5, .il Tryz.runUnderlying172 Tryz.runUnderlying5, .il Tryz.runUnderlying172 Tryz.runUnderlying5, .il Tryz.runUnderlying172 Tryz.runUnderlying5, .il Tryz.runUnderlying172 Tryz.runUnderlying5, .il Tryz.runUnderlying172 Tryz.runUnderlying5, .il Tryz.runUnderlying172 Tryz.runUnderlying5, .il Tryz.runUnderlying172 Tryz.runUnderlying5, .ll 5 Tryz.runUnderlying172 Tryz.runUnderlying5 Tryz.zeroValue171, .cl true [0, 1, 2, 3, 4, 5] (fun _ => c112 F p0 p1 p2 _ hv59), .bs (Et.int .u8) ([4, 7, 0, 1] : List Int), .cl true [7] (fun _ => c114 F ([4, 7, 0, 1] : List Int) (iand .u8 ((gt p0.fp p2).fOp) 7) _ hv61)] (aC hk1 (aC hb2 (aC hb13 (aC hb24 (aC hb35 (aC hb46 (aC hb57 (aK (aR (aR (aK aN))))))))))) ?_
       refine C_ h (fun h hb62 => ?_) fun h hb62 => ?_
       ·obtain ⟨v63, hv64, h⟩ := bd h
        refine U_ tbOk 18 [.bs (Et.int .i64) ([IntKind.i64.wrap ((gt p0.fp p2).fDst)] : List Int), .cl true [5, 8] (fun _ => c107 F v58.2 ([IntKind.i64.wrap ((gt p0.fp p2).fDst)] : List Int) _ hv64)] (aC hk1 (aR (aR (aK aN)))) ?_
        refine C_ h (fun h hb65 => ?_) fun h hb65 => ?_
        ·obtain ⟨v66, hv67, h⟩ := bd h
         refine U_ tbOk 6 [.cl true [5] (fun _ => c115 v63 15 _ hv67)] (aK aN) ?_
         obtain rfl := sj h
         exact T_ tbOk.t Tryz.results66 [0, 1, 2, 3, 4, 5]
        ·refine U_ tbOk 2 [] aN ?_
         obtain rfl := sj h
         exact T_ tbOk.t Tryz.results66 [0, 1, 2, 3, 4, 5]
       ·refine U_ tbOk 2 [] aN ?_
        obtain rfl := sj h
        exact T_ tbOk.t Tryz.results66 [0, 1, 2, 3, 4, 5]
      ·refine CDS h (fun h hb68 => ?_) (fun h hb68 => ?_)
       ·obtain ⟨v69, hv70, h⟩ := bd h
        obtain ⟨v71, hv72, h⟩ := bd h
        refine U_ tbOk 33 [.ml, .il Tryz.runUnderlying172 Tryz.runUnderlying5, .il Tryz.runUnderlying172 Tryz.runUnderlying5, .il Tryz.runUnderlying172 Tryz.runUnderlying5, .il Tryz.runUnderlying172 Tryz.runUnderlying5, .il Tryz.runUnderlying172 Tryz.runUnderlying5, .il Tryz.runUnderlying172 Tryz.runUnderlying5, .il Tryz.runUnderlying172 Tryz.runUnderlying5, .il Tryz.runUnderlying172 Tryz.runUnderlying5, .ll 6 Tryz.runUnderlying172 Tryz.runUnderlying5 Tryz.zeroValue171, .cl true [0, 1, 2, 3, 4, 5] (fun _ => c113 F p0 p1 p2 _ hv70), .bs (Et.int .u8) ([4, 7, 0, 1] : List Int), .cl true [7] (fun _ => c114 F ([4, 7, 0, 1] : List Int) (iand .u8 ((gt p0.fp p2).fOp) 7) _ hv72)] (aC hk1 (aC hb2 (aC hb13 (aC hb24 (aC hb35 (aC hb46 (aC hb57 (aC hb68 (aK (aR (aR (aK aN)))))))))))) ?_
        refine C_ h (fun h hb73 => ?_) fun h hb73 => ?_
        ·obtain ⟨v74, hv75, h⟩ := bd h
         refine U_ tbOk 18 [.bs (Et.int .i64) ([IntKind.i64.wrap ((gt p0.fp p2).fDst)] : List Int), .cl true [5, 8] (fun _ => c107 F p1 ([IntKind.i64.wrap ((gt p0.fp p2).fDst)] : List Int) _ hv75)] (aC hk1 (aR (aR (aK aN)))) ?_
         refine C_ h (fun h hb76 => ?_) fun h hb76 => ?_
         ·obtain ⟨v77, hv78, h⟩ := bd h
          refine U_ tbOk 6 [.cl true [5] (fun _ => c115 v74 15 _ hv78)] (aK aN) ?_
          obtain rfl := sj h
          exact T_ tbOk.t Tryz.results66 [0, 1, 2, 3, 4, 5]
         ·refine U_ tbOk 2 [] aN ?_
          obtain rfl := sj h
          exact T_ tbOk.t Tryz.results66 [0, 1, 2, 3, 4, 5]
        ·refine U_ tbOk 2 [] aN ?_
         obtain rfl := sj h
         exact T_ tbOk.t Tryz.results66 [0, 1, 2, 3, 4, 5]
       ·refine CDS h (fun h hb79 => ?_) (fun h hb79 => ?_)
        ·obtain ⟨v80, hv81, h⟩ := bd h
         obtain ⟨v82, hv83, h⟩ := bd h
         refine U_ tbOk 33 [.ml, .il Tryz.runUnderlying172 Tryz.runUnderlying5, .il Tryz.runUnderlying172 Tryz.runUnderlying5, .il Tryz.runUnderlying172 Tryz.runUnderlying5, .il Tryz.runUnderlying172 Tryz.runUnderlying5, .il Tryz.runUnderlying172 Tryz.runUnderlying5, .il Tryz.runUnderlying172 Tryz.runUnderlying5, .il Tryz.runUnderlying172 Tryz.runUnderlying5, .il Tryz.runUnderlying172 Tryz.runUnderlying5, .ll 7 Tryz.runUnderlying172 Tryz.runUnderlying5 Tryz.zeroValue171, .cl true [0, 1, 2, 3, 4, 5] (fun _ => c113 F p0 p1 p2 _ hv81), .bs (Et.int .u8) ([4, 7, 0, 1] : List Int), .cl true [7] (fun _ => c114 F ([4, 7, 0, 1] : List Int) (iand .u8 ((gt p0.fp p2).fOp) 7) _ hv83)] (aC hk1 (aC hb2 (aC hb13 (aC hb24 (aC hb35 (aC hb46 (aC hb57 (aC hb68 (aC hb79 (aK (aR (aR (aK aN))))))))))))) ?_
         refine C_ h (fun h hb84 => ?_) fun h hb84 => ?_
         ·obtain ⟨v85, hv86, h⟩ := bd h
          refine U_ tbOk 18 [.bs (Et.int .i64) ([IntKind.i64.wrap ((gt p0.fp p2).fDst)] : List Int), .cl true [5, 8] (fun _ => c107 F p1 ([IntKind.i64.wrap ((gt p0.fp p2).fDst)] : List Int) _ hv86)] (aC hk1 (aR (aR (aK aN)))) ?_
          refine C_ h (fun h hb87 => ?_) fun h hb87 => ?_
          ·obtain ⟨v88, hv89, h⟩ := bd h
           refine U_ tbOk 6 [.cl true [5] (fun _ => c115 v85 15 _ hv89)] (aK aN) ?_
           obtain rfl := sj h
           exact T_ tbOk.t Tryz.results66 [0, 1, 2, 3, 4, 5]
          ·refine U_ tbOk 2 [] aN ?_
           obtain rfl := sj h
           exact T_ tbOk.t Tryz.results66 [0, 1, 2, 3, 4, 5]
         ·refine U_ tbOk 2 [] aN ?_
          obtain rfl := sj h
          exact T_ tbOk.t Tryz.results66 [0, 1, 2, 3, 4, 5]
        ·cases h
def fn67_l1 (p1 : Bag16) : Nat → (Ar Int 8) → Int → Option ((Ar Int 8))
 | 0, _, _ => none
 | n10 + 1, x3, x4 => bif decide (x4 < 8) then (bif inb x4 8 then ((fn67_l1 p1 n10) (x3.set x4 (iand .u16 (gt x3.l x4) (gt p1.fwords.l x4))) (IntKind.i64.wrap (x4 + 1))) else none) else (some x3)
theorem fn67_l1_s (p1 : Bag16) (n10 : Nat) (x3 : Ar Int 8) (x4 : Int) : fn67_l1 p1 (n10 + 1) x3 x4 = bif decide (x4 < 8) then (bif inb x4 8 then ((fn67_l1 p1 n10) (x3.set x4 (iand .u16 (gt x3.l x4) (gt p1.fwords.l x4))) (IntKind.i64.wrap (x4 + 1))) else none) else (some x3) := rfl
def fn67_k1 (p0 : Known) (x7 : Ar Int 8) : Option (Known) :=
 some (⟨(⟨x7, p0.fregs.fwidth⟩ : Bag16), p0.fbytes⟩ : Known)
theorem fn67_k1_s (p0 : Known) (x7 : Ar Int 8) : fn67_k1 p0 x7 = some (⟨(⟨x7, p0.fregs.fwidth⟩ : Bag16), p0.fbytes⟩ : Known) := rfl
def fn67 (F : Nat) (p0 : Known) (p1 : Bag16) : Option (Known) :=
 Option.bind (fn67_l1 p1 F p0.fregs.fwords 0) fun o8 => (fn67_k1 p0 o8)
theorem c67 (F : Nat) (p0 : Known) (p1 : Bag16) (r : Known) (h : fn67 F p0 p1 = some r) : Con Tryz.prog 67 [.p 0 0, .ag [.ar (En.int .u16) 8 p1.fwords, .v (.int .i64 p1.fwidth)]] [(0, .cells 125 [.ar (En.int .u16) 8 p0.fregs.fwords, .v (.int .i64 p0.fregs.fwidth), .ar (En.int .u64) 8 p0.fbytes.fwords, .v (.int .i64 p0.fbytes.fwidth)])] 1 (.tu []) [(0, .cells 125 [.ar (En.int .u16) 8 r.fregs.fwords, .v (.int .i64 r.fregs.fwidth), .ar (En.int .u64) 8 r.fbytes.fwords, .v (.int .i64 r.fbytes.fwidth)])] 1 := by
 rw [fn67] at h
 refine Con.of_body Tryz.func67 rfl Tryz.ntmps67 rfl fun w F0 ρ => ?_
 refine U_ tbOk 2 [] aN ?_
 obtain ⟨o8, hl9, h⟩ := bd h
 refine CT 0 ⟨[], [(0, .cells 125 [.ar (En.int .u16) 8 o8, .v (.int .i64 p0.fregs.fwidth), .ar (En.int .u64) 8 p0.fbytes.fwords, .v (.int .i64 p0.fbytes.fwidth)])], 1⟩ ?_ ?_
 ·have h012 := h
  clear h
  refine G4.imp (I_ [0, 1]) (LP (fun (n : Nat) (s : (Ar Int 8) × Int) => fn67_l1 p1 n s.1 s.2) (fun (s : (Ar Int 8) × Int) => ⟨[(0, .p 0 0), (3, .p 1 0), (5, .v (.int .i64 s.2))], [(0, .cells 125 [.ar (En.int .u16) 8 s.1, .v (.int .i64 p0.fregs.fwidth), .ar (En.int .u64) 8 p0.fbytes.fwords, .v (.int .i64 p0.fbytes.fwidth)]), (1, .cells 119 [.ar (En.int .u16) 8 p1.fwords, .v (.int .i64 p1.fwidth)])], 2⟩) (fun _ => rfl) (s0 := (p0.fregs.fwords, 0)) hl9 ?_)
  clear hl9
  rintro R13 n10 ⟨x3, x4⟩ h ih11
  replace h := (fn67_l1_s p1 n10 x3 x4).symm.trans h
  refine U_ tbOk 1 [] aN ?_
  refine C_ h (fun h hb14 => ?_) fun h hb14 => ?_
  ·refine U_ tbOk 2 [] aN ?_
   obtain ⟨hk15, h⟩ := ck h
   refine DR tbOk hmix [] [([], []), ([], []), ([], []), ([], []), ([0], []), ([0], []), ([], []), ([], []), ([1], []), ([1], []), ([], []), ([], []), ([], []), ([0], []), ([0], [0])] [.sa (En.int .u16) 8 _ (iand .u16 (gt x3.l x4) (gt p1.fwords.l x4))] (aR (aC hk15 (aR (aR (aC hk15 (aR (aR (aC hk15 (aR (aR (aR aN))))))))))) (by rfl) ?_
   refine U_ tbOk 2 [] aN ?_
   exact ih11 (x3.set x4 (iand .u16 (gt x3.l x4) (gt p1.fwords.l x4)), IntKind.i64.wrap (x4 + 1)) h _ _ (I_ [0, 1])
  ·refine U_ tbOk 0 [] aN ?_
   obtain rfl := sj h
   exact CE (I_ [0])
 ·replace h := (fn67_k1_s p0 o8).symm.trans h
  refine U_ tbOk 0 [] aN ?_
  obtain rfl := sj h
  exact TN_ tbOk.t Tryz.results67 [0]
def fn68_l1 (p1 : Bag64) : Nat → (Ar Int 8) → Int → Option ((Ar Int 8))
 | 0, _, _ => none
 | n10 + 1, x3, x4 => bif decide (x4 < 8) then (bif inb x4 8 then ((fn68_l1 p1 n10) (x3.set x4 (iand .u64 (gt x3.l x4) (gt p1.fwords.l x4))) (IntKind.i64.wrap (x4 + 1))) else none) else (some x3)
theorem fn68_l1_s (p1 : Bag64) (n10 : Nat) (x3 : Ar Int 8) (x4 : Int) : fn68_l1 p1 (n10 + 1) x3 x4 = bif decide (x4 < 8) then (bif inb x4 8 then ((fn68_l1 p1 n10) (x3.set x4 (iand .u64 (gt x3.l x4) (gt p1.fwords.l x4))) (IntKind.i64.wrap (x4 + 1))) else none) else (some x3) := rfl
def fn68_k1 (p0 : Known) (x7 : Ar Int 8) : Option (Known) :=
 some (⟨p0.fregs, (⟨x7, p0.fbytes.fwidth⟩ : Bag64)⟩ : Known)
theorem fn68_k1_s (p0 : Known) (x7 : Ar Int 8) : fn68_k1 p0 x7 = some (⟨p0.fregs, (⟨x7, p0.fbytes.fwidth⟩ : Bag64)⟩ : Known) := rfl
def fn68 (F : Nat) (p0 : Known) (p1 : Bag64) : Option (Known) :=
 Option.bind (fn68_l1 p1 F p0.fbytes.fwords 0) fun o8 => (fn68_k1 p0 o8)
theorem c68 (F : Nat) (p0 : Known) (p1 : Bag64) (r : Known) (h : fn68 F p0 p1 = some r) : Con Tryz.prog 68 [.p 0 9, .ag [.ar (En.int .u64) 8 p1.fwords, .v (.int .i64 p1.fwidth)]] [(0, .cells 125 [.ar (En.int .u16) 8 p0.fregs.fwords, .v (.int .i64 p0.fregs.fwidth), .ar (En.int .u64) 8 p0.fbytes.fwords, .v (.int .i64 p0.fbytes.fwidth)])] 1 (.tu []) [(0, .cells 125 [.ar (En.int .u16) 8 r.fregs.fwords, .v (.int .i64 r.fregs.fwidth), .ar (En.int .u64) 8 r.fbytes.fwords, .v (.int .i64 r.fbytes.fwidth)])] 1 := by
 rw [fn68] at h
 refine Con.of_body Tryz.func68 rfl Tryz.ntmps68 rfl fun w F0 ρ => ?_
 refine U_ tbOk 2 [] aN ?_
 obtain ⟨o8, hl9, h⟩ := bd h
 refine CT 0 ⟨[], [(0, .cells 125 [.ar (En.int .u16) 8 p0.fregs.fwords, .v (.int .i64 p0.fregs.fwidth), .ar (En.int .u64) 8 o8, .v (.int .i64 p0.fbytes.fwidth)])], 1⟩ ?_ ?_
 ·have h012 := h
  clear h
  refine G4.imp (I_ [0, 1]) (LP (fun (n : Nat) (s : (Ar Int 8) × Int) => fn68_l1 p1 n s.1 s.2) (fun (s : (Ar Int 8) × Int) => ⟨[(0, .p 0 9), (3, .p 1 0), (5, .v (.int .i64 s.2))], [(0, .cells 125 [.ar (En.int .u16) 8 p0.fregs.fwords, .v (.int .i64 p0.fregs.fwidth), .ar (En.int .u64) 8 s.1, .v (.int .i64 p0.fbytes.fwidth)]), (1, .cells 123 [.ar (En.int .u64) 8 p1.fwords, .v (.int .i64 p1.fwidth)])], 2⟩) (fun _ => rfl) (s0 := (p0.fbytes.fwords, 0)) hl9 ?_)
  clear hl9
  rintro R13 n10 ⟨x3, x4⟩ h ih11
  replace h := (fn68_l1_s p1 n10 x3 x4).symm.trans h
  refine U_ tbOk 1 [] aN ?_
  refine C_ h (fun h hb14 => ?_) fun h hb14 => ?_
  ·refine U_ tbOk 2 [] aN ?_
   obtain ⟨hk15, h⟩ := ck h
   refine DR tbOk hmix [] [([], []), ([], []), ([], []), ([], []), ([0], []), ([0], []), ([], []), ([], []), ([1], []), ([1], []), ([], []), ([], []), ([], []), ([0], []), ([0], [0])] [.sa (En.int .u64) 8 _ (iand .u64 (gt x3.l x4) (gt p1.fwords.l x4))] (aR (aC hk15 (aR (aR (aC hk15 (aR (aR (aC hk15 (aR (aR (aR aN))))))))))) (by rfl) ?_
   refine U_ tbOk 2 [] aN ?_
   exact ih11 (x3.set x4 (iand .u64 (gt x3.l x4) (gt p1.fwords.l x4)), IntKind.i64.wrap (x4 + 1)) h _ _ (I_ [0, 1])
  ·refine U_ tbOk 0 [] aN ?_
   obtain rfl := sj h
   exact CE (I_ [0])
 ·replace h := (fn68_k1_s p0 o8).symm.trans h
  refine U_ tbOk 0 [] aN ?_
  obtain rfl := sj h
  exact TN_ tbOk.t Tryz.results68 [0]
def fn27_r2 (F : Nat) (p0 : Walk) (x121 : Bool) (xs122 : List (Int × Known)) (y107 : Int) (y108 : Int) : Option ((Bool × (List (Int × Known))) × Nat) :=
 bif !(mhas xs122 y107) then (some ((x121, xs122), 0)) else (Option.bind (fn66 F p0 (⟨((mget xs122 y107 (⟨(⟨(Ar.rep 8 0), 0⟩ : Bag16), (⟨(Ar.rep 8 0), 0⟩ : Bag64)⟩ : Known)).fregs), ((mget xs122 y107 (⟨(⟨(Ar.rep 8 0), 0⟩ : Bag16), (⟨(Ar.rep 8 0), 0⟩ : Bag64)⟩ : Known)).fbytes)⟩ : Known) y107) fun v138 => (bif mhas xs122 y108 then (Option.bind (fn67 F v138.2 ((mget xs122 y108 (⟨(⟨(Ar.rep 8 0), 0⟩ : Bag16), (⟨(Ar.rep 8 0), 0⟩ : Bag64)⟩ : Known)).fregs)) fun v141 => (Option.bind (fn68 F v141 ((mget xs122 y108 (⟨(⟨(Ar.rep 8 0), 0⟩ : Bag16), (⟨(Ar.rep 8 0), 0⟩ : Bag64)⟩ : Known)).fbytes)) fun v143 => (bif !(mhas xs122 y108) then (some ((true, mput xs122 y108 v143), 0)) else (bif !(((eqL v143.fregs.fwords.l (((mget xs122 y108 (⟨(⟨(Ar.rep 8 0), 0⟩ : Bag16), (⟨(Ar.rep 8 0), 0⟩ : Bag64)⟩ : Known)).fregs).fwords).l) && ((v143.fregs.fwidth == (((mget xs122 y108 (⟨(⟨(Ar.rep 8 0), 0⟩ : Bag16), (⟨(Ar.rep 8 0), 0⟩ : Bag64)⟩ : Known)).fregs).fwidth)) && true)) && (((eqL v143.fbytes.fwords.l (((mget xs122 y108 (⟨(⟨(Ar.rep 8 0), 0⟩ : Bag16), (⟨(Ar.rep 8 0), 0⟩ : Bag64)⟩ : Known)).fbytes).fwords).l) && ((v143.fbytes.fwidth == (((mget xs122 y108 (⟨(⟨(Ar.rep 8 0), 0⟩ : Bag16), (⟨(Ar.rep 8 0), 0⟩ : Bag64)⟩ : Known)).fbytes).fwidth)) && true)) && true)) then (some ((true, mput xs122 y108 v143), 0)) else (some ((x121, xs122), 0)))))) else (bif !(mhas xs122 y108) then (some ((true, mput xs122 y108 v138.2), 0)) else (bif !(((eqL v138.2.fregs.fwords.l (((mget xs122 y108 (⟨(⟨(Ar.rep 8 0), 0⟩ : Bag16), (⟨(Ar.rep 8 0), 0⟩ : Bag64)⟩ : Known)).fregs).fwords).l) && ((v138.2.fregs.fwidth == (((mget xs122 y108 (⟨(⟨(Ar.rep 8 0), 0⟩ : Bag16), (⟨(Ar.rep 8 0), 0⟩ : Bag64)⟩ : Known)).fregs).fwidth)) && true)) && (((eqL v138.2.fbytes.fwords.l (((mget xs122 y108 (⟨(⟨(Ar.rep 8 0), 0⟩ : Bag16), (⟨(Ar.rep 8 0), 0⟩ : Bag64)⟩ : Known)).fbytes).fwords).l) && ((v138.2.fbytes.fwidth == (((mget xs122 y108 (⟨(⟨(Ar.rep 8 0), 0⟩ : Bag16), (⟨(Ar.rep 8 0), 0⟩ : Bag64)⟩ : Known)).fbytes).fwidth)) && true)) && true)) then (some ((true, mput xs122 y108 v138.2), 0)) else (some ((x121, xs122), 0))))))
theorem fn27_r2_s (F : Nat) (p0 : Walk) (x121 : Bool) (xs122 : List (Int × Known)) (y107 : Int) (y108 : Int) : fn27_r2 F p0 x121 xs122 y107 y108 = bif !(mhas xs122 y107) then (some ((x121, xs122), 0)) else (Option.bind (fn66 F p0 (⟨((mget xs122 y107 (⟨(⟨(Ar.rep 8 0), 0⟩ : Bag16), (⟨(Ar.rep 8 0), 0⟩ : Bag64)⟩ : Known)).fregs), ((mget xs122 y107 (⟨(⟨(Ar.rep 8 0), 0⟩ : Bag16), (⟨(Ar.rep 8 0), 0⟩ : Bag64)⟩ : Known)).fbytes)⟩ : Known) y107) fun v138 => (bif mhas xs122 y108 then (Option.bind (fn67 F v138.2 ((mget xs122 y108 (⟨(⟨(Ar.rep 8 0), 0⟩ : Bag16), (⟨(Ar.rep 8 0), 0⟩ : Bag64)⟩ : Known)).fregs)) fun v141 => (Option.bind (fn68 F v141 ((mget xs122 y108 (⟨(⟨(Ar.rep 8 0), 0⟩ : Bag16), (⟨(Ar.rep 8 0), 0⟩ : Bag64)⟩ : Known)).fbytes)) fun v143 => (bif !(mhas xs122 y108) then (some ((true, mput xs122 y108 v143), 0)) else (bif !(((eqL v143.fregs.fwords.l (((mget xs122 y108 (⟨(⟨(Ar.rep 8 0), 0⟩ : Bag16), (⟨(Ar.rep 8 0), 0⟩ : Bag64)⟩ : Known)).fregs).fwords).l) && ((v143.fregs.fwidth == (((mget xs122 y108 (⟨(⟨(Ar.rep 8 0), 0⟩ : Bag16), (⟨(Ar.rep 8 0), 0⟩ : Bag64)⟩ : Known)).fregs).fwidth)) && true)) && (((eqL v143.fbytes.fwords.l (((mget xs122 y108 (⟨(⟨(Ar.rep 8 0), 0⟩ : Bag16), (⟨(Ar.rep 8 0), 0⟩ : Bag64)⟩ : Known)).fbytes).fwords).l) && ((v143.fbytes.fwidth == (((mget xs122 y108 (⟨(⟨(Ar.rep 8 0), 0⟩ : Bag16), (⟨(Ar.rep 8 0), 0⟩ : Bag64)⟩ : Known)).fbytes).fwidth)) && true)) && true)) then (some ((true, mput xs122 y108 v143), 0)) else (some ((x121, xs122), 0)))))) else (bif !(mhas xs122 y108) then (some ((true, mput xs122 y108 v138.2), 0)) else (bif !(((eqL v138.2.fregs.fwords.l (((mget xs122 y108 (⟨(⟨(Ar.rep 8 0), 0⟩ : Bag16), (⟨(Ar.rep 8 0), 0⟩ : Bag64)⟩ : Known)).fregs).fwords).l) && ((v138.2.fregs.fwidth == (((mget xs122 y108 (⟨(⟨(Ar.rep 8 0), 0⟩ : Bag16), (⟨(Ar.rep 8 0), 0⟩ : Bag64)⟩ : Known)).fregs).fwidth)) && true)) && (((eqL v138.2.fbytes.fwords.l (((mget xs122 y108 (⟨(⟨(Ar.rep 8 0), 0⟩ : Bag16), (⟨(Ar.rep 8 0), 0⟩ : Bag64)⟩ : Known)).fbytes).fwords).l) && ((v138.2.fbytes.fwidth == (((mget xs122 y108 (⟨(⟨(Ar.rep 8 0), 0⟩ : Bag16), (⟨(Ar.rep 8 0), 0⟩ : Bag64)⟩ : Known)).fbytes).fwidth)) && true)) && true)) then (some ((true, mput xs122 y108 v138.2), 0)) else (some ((x121, xs122), 0)))))) := rfl
def fn27_k2_0 (rl1 : (List (Int × Known)) → Bool → Option ((List (Int × Known)))) (x121 : Bool) (xs122 : List (Int × Known)) : Option ((List (Int × Known))) :=
 rl1 xs122 x121
theorem fn27_k2_0_s (rl1 : (List (Int × Known)) → Bool → Option ((List (Int × Known)))) (x121 : Bool) (xs122 : List (Int × Known)) : fn27_k2_0 rl1 x121 xs122 = rl1 xs122 x121 := rfl
def fn27_m3 (F : Nat) (p0 : Walk) (k153 : Int) (v154 : Known) : Option Bool :=
 Option.bind (fn66 F p0 v154 k153) fun v166 => (bif !v166.1 then (some false) else (some true))
theorem fn27_m3_s (F : Nat) (p0 : Walk) (k153 : Int) (v154 : Known) : fn27_m3 F p0 k153 v154 = Option.bind (fn66 F p0 v154 k153) fun v166 => (bif !v166.1 then (some false) else (some true)) := rfl
def fn27_k3 : Option (Bool) :=
 some true
theorem fn27_k3_s : fn27_k3 = some true := rfl
def fn27_l1 (F : Nat) (p0 : Walk) : Nat → (List (Int × Known)) → Bool → Option ((List (Int × Known)))
 | 0, _, _ => none
 | n102 + 1, xs50, x51 => bif x51 then (Option.bind (fn108 F (stepR (fun (s : Bool × (List (Int × Known))) (y : Int × Int) => fn27_r2 F p0 s.1 s.2 y.1 y.2)) goR p0.fp (((false, xs50), 0) : (Bool × (List (Int × Known))) × Nat)) fun o149 => (bif Nat.beq o149.2 0 then (fn27_k2_0 (fn27_l1 F p0 n102) o149.1.1 o149.1.2) else none)) else (some xs50)
theorem fn27_l1_s (F : Nat) (p0 : Walk) (n102 : Nat) (xs50 : List (Int × Known)) (x51 : Bool) : fn27_l1 F p0 (n102 + 1) xs50 x51 = bif x51 then (Option.bind (fn108 F (stepR (fun (s : Bool × (List (Int × Known))) (y : Int × Int) => fn27_r2 F p0 s.1 s.2 y.1 y.2)) goR p0.fp (((false, xs50), 0) : (Bool × (List (Int × Known))) × Nat)) fun o149 => (bif Nat.beq o149.2 0 then (fn27_k2_0 (fn27_l1 F p0 n102) o149.1.1 o149.1.2) else none)) else (some xs50) := rfl
def fn27_k1 (F : Nat) (p0 : Walk) (xs99 : List (Int × Known)) : Option (Bool) :=
 Option.bind (mapAll (fun k153 v154 => fn27_m3 F p0 k153 v154) xs99) fun o157 => (bif o157 then fn27_k3 else (some false))
theorem fn27_k1_s (F : Nat) (p0 : Walk) (xs99 : List (Int × Known)) : fn27_k1 F p0 xs99 = Option.bind (mapAll (fun k153 v154 => fn27_m3 F p0 k153 v154) xs99) fun o157 => (bif o157 then fn27_k3 else (some false)) := rfl
def fn27 (F : Nat) (p0 : Walk) : Option (Bool) :=
 Option.bind (fn64 F) fun v1 => (Option.bind (fn27_l1 F p0 F (mput ([] : List (Int × Known)) (0 : Int) v1) true) fun o100 => (fn27_k1 F p0 o100))
theorem c27 (F : Nat) (p0 : Walk) (r : Bool) (h : fn27 F p0 = some r) : Con Tryz.prog 27 [.p 0 0] [(0, .cells 62 [.sl 1, .v (.string p0.ft.fName), .v (.int .i64 p0.ft.fCtx), .sl 2, .sl 3, .v (.int .i64 p0.ft.fLo), .v (.int .i64 p0.ft.fHi), .sl 4]), (1, .rd Instr.E p0.fp), (2, .rd Fld.E p0.ft.fFields), (3, .rd Need.E p0.ft.fNeeds), (4, .rd (Et.int .i64) p0.ftargets)] 5 (.v (.bool r)) [(0, .cells 62 [.sl 1, .v (.string p0.ft.fName), .v (.int .i64 p0.ft.fCtx), .sl 2, .sl 3, .v (.int .i64 p0.ft.fLo), .v (.int .i64 p0.ft.fHi), .sl 4])] 5 := by
 rw [fn27] at h
 refine Con.of_body Tryz.func27 rfl Tryz.ntmps27 rfl fun w F0 ρ => ?_
 obtain ⟨v1, hv2, h⟩ := bd h
 refine U_ tbOk 10 [.mm (Kn.int .i64) (Vn.ag Known.E), .cl true [] (fun _ => c64 F _ hv2), .mu (Kn.int .i64) (Vn.ag Known.E) _ (0 : Int) v1 Tryz.runUnderlying127 Tryz.runUnderlying3] (aK (aR (aR (aR aN)))) ?_
 refine G4.imp Imp.mk0 ?_
 obtain ⟨o100, hl101, h⟩ := bd h
 refine CTM 0 (fun rs3 => ⟨[(1, .p 5 0), (3, .p 7 0)], [(0, .cells 62 [.sl 1, .v (.string p0.ft.fName), .v (.int .i64 p0.ft.fCtx), .sl 2, .sl 3, .v (.int .i64 p0.ft.fLo), .v (.int .i64 p0.ft.fHi), .sl 4]), (1, .rd Instr.E p0.fp), (2, .rd Fld.E p0.ft.fFields), (3, .rd Need.E p0.ft.fNeeds), (4, .rd (Et.int .i64) p0.ftargets), (5, .cells 58 [.p 0 0]), (6, .omap (Kn.int .i64) (Vn.ag Known.E) o100), (7, .cells 127 [.mp 6]), (8, .bx (mkB rs3))], 9⟩) ?_ (fun rs3 => ?_)
 ·have h0104 := h
  clear h
  refine G4.imp (I_ [0, 1, 2, 3, 4, 5, 6, 7, 8, 9]) (LPM (fun (n : Nat) (s : (List (Int × Known)) × Bool) => fn27_l1 F p0 n s.1 s.2) (fun (rs3 : List Nat) (s : (List (Int × Known)) × Bool) => ⟨[(1, .p 5 0), (3, .p 7 0), (4, .p 8 0)], [(0, .cells 62 [.sl 1, .v (.string p0.ft.fName), .v (.int .i64 p0.ft.fCtx), .sl 2, .sl 3, .v (.int .i64 p0.ft.fLo), .v (.int .i64 p0.ft.fHi), .sl 4]), (1, .rd Instr.E p0.fp), (2, .rd Fld.E p0.ft.fFields), (3, .rd Need.E p0.ft.fNeeds), (4, .rd (Et.int .i64) p0.ftargets), (5, .cells 58 [.p 0 0]), (6, .omap (Kn.int .i64) (Vn.ag Known.E) s.1), (7, .cells 127 [.mp 6]), (8, .cells 4 [.v (.bool s.2)]), (9, .bx (mkB rs3))], 10⟩) (fun _ => rfl) (s0 := (mput ([] : List (Int × Known)) (0 : Int) v1, true)) hl101 ?_)
  clear hl101
  rintro R105 n102 ⟨xs50, x51⟩ rs3 h ih103
  replace h := (fn27_l1_s F p0 n102 xs50 x51).symm.trans h
  refine U_ tbOk 1 [] aN ?_
  refine C_ h (fun h hb106 => ?_) fun h hb106 => ?_
  ·refine U_ tbOk 6 [.cl true [1] (fun _ => c65 p0.fp _ rfl)] (aK aN) ?_
   obtain ⟨o149, ho150, h⟩ := bd h
   refine G4.imp (s' := ⟨[(1, .p 5 0), (3, .p 6 0), (4, .p 7 0), (21, .fn (.func 108) [] [.p 9 0])], (9, .cells 22 [.sl 1]) :: ((fun (s : Bool × (List (Int × Known))) => ([(0, .cells 62 [.sl 1, .v (.string p0.ft.fName), .v (.int .i64 p0.ft.fCtx), .sl 2, .sl 3, .v (.int .i64 p0.ft.fLo), .v (.int .i64 p0.ft.fHi), .sl 4]), (5, .cells 58 [.p 0 0]), (6, .cells 127 [.mp 10]), (7, .cells 4 [.v (.bool s.1)]), (8, .bx (mkB rs3)), (10, .omap (Kn.int .i64) (Vn.ag Known.E) s.2)] : SH)) (false, xs50) ++ [(1, .rd Instr.E p0.fp), (2, .rd Fld.E p0.ft.fFields), (3, .rd Need.E p0.ft.fNeeds), (4, .rd (Et.int .i64) p0.ftargets)]), 11⟩) (I_ [0, 1, 2, 3, 4, 5, 7, 8, 9, 10, 6]) ?_
   refine RF [22, 23] (Yn.two (Vn.int .i64) (Vn.int .i64)) (fun (s : Bool × (List (Int × Known))) => [(0, .cells 62 [.sl 1, .v (.string p0.ft.fName), .v (.int .i64 p0.ft.fCtx), .sl 2, .sl 3, .v (.int .i64 p0.ft.fLo), .v (.int .i64 p0.ft.fHi), .sl 4]), (5, .cells 58 [.p 0 0]), (6, .cells 127 [.mp 10]), (7, .cells 4 [.v (.bool s.1)]), (8, .bx (mkB rs3)), (10, .omap (Kn.int .i64) (Vn.ag Known.E) s.2)]) [(1, .rd Instr.E p0.fp), (2, .rd Fld.E p0.ft.fFields), (3, .rd Need.E p0.ft.fNeeds), (4, .rd (Et.int .i64) p0.ftargets)] 10 9 1 (fun (s : Bool × (List (Int × Known))) (y : Int × Int) => fn27_r2 F p0 s.1 s.2 y.1 y.2) (false, xs50) o149.1 o149.2 Tryz.call108 (by rfl) (by rfl) (by rfl) (fun _ _ => rfl) (fun _ _ => trivial) (fun _ => by rfl) (fun yv J => c108 F (stepR (fun (s : Bool × (List (Int × Known))) (y : Int × Int) => fn27_r2 F p0 s.1 s.2 y.1 y.2)) goR p0.fp ((false, xs50), 0) o149 ho150 yv J) ?_ ?_
   ·clear h ho150
    rintro l1 w1 R1 ρ1 pA pB QA QB ⟨x121, xs122⟩ ⟨y107, y108⟩ s1' m1' h hbg135 hend136
    replace h := (fn27_r2_s F p0 x121 xs122 y107 y108).symm.trans h
    refine U_ tbOk 2 [] aN ?_
    refine hbg135 _ _ _ (by rfl) ?_
    refine U_ tbOk 11 [.lo (Kn.int .i64) (Vn.ag Known.E) _ y107 (⟨(⟨(Ar.rep 8 0), 0⟩ : Bag16), (⟨(Ar.rep 8 0), 0⟩ : Bag64)⟩ : Known) Tryz.runUnderlying127 Tryz.runUnderlying3 Tryz.zeroValue125] (aR (aR aN)) ?_
    refine C_ h (fun h hb137 => ?_) fun h hb137 => ?_
    ·refine U_ tbOk 0 [] aN ?_
     cases Option.some.inj h
     exact hend136 _ (I_ [0, 1, 2, 3, 4, 5, 6, 7, 8, 9, 10, 11])
    ·obtain ⟨v138, hv139, h⟩ := bd h
     refine U_ tbOk 13 [.cl true [0, 1, 2, 3, 4, 12] (fun _ => c66 F p0 (⟨((mget xs122 y107 (⟨(⟨(Ar.rep 8 0), 0⟩ : Bag16), (⟨(Ar.rep 8 0), 0⟩ : Bag64)⟩ : Known)).fregs), ((mget xs122 y107 (⟨(⟨(Ar.rep 8 0), 0⟩ : Bag16), (⟨(Ar.rep 8 0), 0⟩ : Bag64)⟩ : Known)).fbytes)⟩ : Known) y107 _ hv139), .lo (Kn.int .i64) (Vn.ag Known.E) _ y108 (⟨(⟨(Ar.rep 8 0), 0⟩ : Bag16), (⟨(Ar.rep 8 0), 0⟩ : Bag64)⟩ : Known) Tryz.runUnderlying127 Tryz.runUnderlying3 Tryz.zeroValue125] (aK (aR (aR aN))) ?_
     refine C_ h (fun h hb140 => ?_) fun h hb140 => ?_
     ·obtain ⟨v141, hv142, h⟩ := bd h
      obtain ⟨v143, hv144, h⟩ := bd h
      refine CDS h (fun h hb145 => ?_) (fun h hb145 => ?_)
      ·refine U_ (tbOk.lit [(51, 52, true)]) 15 [.cl true [12] (fun _ => c67 F v138.2 ((mget xs122 y108 (⟨(⟨(Ar.rep 8 0), 0⟩ : Bag16), (⟨(Ar.rep 8 0), 0⟩ : Bag64)⟩ : Known)).fregs) _ hv142), .cl true [12] (fun _ => c68 F v141 ((mget xs122 y108 (⟨(⟨(Ar.rep 8 0), 0⟩ : Bag16), (⟨(Ar.rep 8 0), 0⟩ : Bag64)⟩ : Known)).fbytes) _ hv144)] (aK (aK (aC hb145 aN))) ?_
       refine U_ tbOk 0 [] aN ?_
       refine CDT rfl (by rfl) ?_
       refine U_ tbOk 5 [.mu (Kn.int .i64) (Vn.ag Known.E) _ y108 v143 Tryz.runUnderlying127 Tryz.runUnderlying3] (aR (aR (aR aN))) ?_
       cases Option.some.inj h
       exact hend136 _ (I_ [0, 1, 2, 3, 4, 5, 6, 7, 8, 9, 10, 11])
      ·refine U_ (tbOk.lit [(51, 52, false)]) 15 [.cl true [12] (fun _ => c67 F v138.2 ((mget xs122 y108 (⟨(⟨(Ar.rep 8 0), 0⟩ : Bag16), (⟨(Ar.rep 8 0), 0⟩ : Bag64)⟩ : Known)).fregs) _ hv142), .cl true [12] (fun _ => c68 F v141 ((mget xs122 y108 (⟨(⟨(Ar.rep 8 0), 0⟩ : Bag16), (⟨(Ar.rep 8 0), 0⟩ : Bag64)⟩ : Known)).fbytes) _ hv144), .eq [.i .u16 8 v143.fregs.fwords (((mget xs122 y108 (⟨(⟨(Ar.rep 8 0), 0⟩ : Bag16), (⟨(Ar.rep 8 0), 0⟩ : Bag64)⟩ : Known)).fregs).fwords), .i .u64 8 v143.fbytes.fwords (((mget xs122 y108 (⟨(⟨(Ar.rep 8 0), 0⟩ : Bag16), (⟨(Ar.rep 8 0), 0⟩ : Bag64)⟩ : Known)).fbytes).fwords)]] (aK (aK (aC hb145 (aR (aR (aR (aR aN))))))) ?_
       refine U_ tbOk 0 [] aN ?_
       refine C_ h (fun h hb146 => ?_) fun h hb146 => ?_
       ·refine U_ tbOk 5 [.mu (Kn.int .i64) (Vn.ag Known.E) _ y108 v143 Tryz.runUnderlying127 Tryz.runUnderlying3] (aR (aR (aR aN))) ?_
        cases Option.some.inj h
        exact hend136 _ (I_ [0, 1, 2, 3, 4, 5, 6, 7, 8, 9, 10, 11])
       ·refine U_ tbOk 0 [] aN ?_
        cases Option.some.inj h
        exact hend136 _ (I_ [0, 1, 2, 3, 4, 5, 6, 7, 8, 9, 10, 11])
     ·refine CDS h (fun h hb147 => ?_) (fun h hb147 => ?_)
      ·refine U_ (tbOk.lit [(51, 52, true)]) 7 [] (aC hb147 aN) ?_
       refine U_ tbOk 0 [] aN ?_
       refine CDT rfl (by rfl) ?_
       refine U_ tbOk 5 [.mu (Kn.int .i64) (Vn.ag Known.E) _ y108 v138.2 Tryz.runUnderlying127 Tryz.runUnderlying3] (aR (aR (aR aN))) ?_
       cases Option.some.inj h
       exact hend136 _ (I_ [0, 1, 2, 3, 4, 5, 6, 7, 8, 9, 10, 11])
      ·refine U_ (tbOk.lit [(51, 52, false)]) 7 [.eq [.i .u16 8 v138.2.fregs.fwords (((mget xs122 y108 (⟨(⟨(Ar.rep 8 0), 0⟩ : Bag16), (⟨(Ar.rep 8 0), 0⟩ : Bag64)⟩ : Known)).fregs).fwords), .i .u64 8 v138.2.fbytes.fwords (((mget xs122 y108 (⟨(⟨(Ar.rep 8 0), 0⟩ : Bag16), (⟨(Ar.rep 8 0), 0⟩ : Bag64)⟩ : Known)).fbytes).fwords)]] (aC hb147 (aR (aR (aR (aR aN))))) ?_
       refine U_ tbOk 0 [] aN ?_
       refine C_ h (fun h hb148 => ?_) fun h hb148 => ?_
       ·refine U_ tbOk 5 [.mu (Kn.int .i64) (Vn.ag Known.E) _ y108 v138.2 Tryz.runUnderlying127 Tryz.runUnderlying3] (aR (aR (aR aN))) ?_
        cases Option.some.inj h
        exact hend136 _ (I_ [0, 1, 2, 3, 4, 5, 6, 7, 8, 9, 10, 11])
       ·refine U_ tbOk 0 [] aN ?_
        cases Option.some.inj h
        exact hend136 _ (I_ [0, 1, 2, 3, 4, 5, 6, 7, 8, 9, 10, 11])
   ·intro r151
    refine CDS h (fun h hb152 => ?_) (fun h hb152 => ?_)
    ·rw [show o149.2 = 0 from Nat.eq_of_beq_eq_true hb152]
     replace h := (fn27_k2_0_s (fn27_l1 F p0 n102) o149.1.1 o149.1.2).symm.trans h
     refine G4.imp (Imp.joinM 11 8 (by rfl) (by rfl)) ?_
     refine U_ tbOk 3 [] aN ?_
     exact ih103 (r151 :: rs3) (o149.1.2, o149.1.1) h _ _ (I_ [0, 1, 2, 3, 4, 5, 10, 6, 12, 8])
    cases h
  ·refine U_ tbOk 0 [] aN ?_
   obtain rfl := sj h
   exact CEM rs3 (I_ [0, 1, 2, 3, 4, 5, 6, 7, 9])
 ·replace h := (fn27_k1_s F p0 o100).symm.trans h
  refine U_ tbOk 2 [.rg (Kn.int .i64) (Vn.ag Known.E) _ Tryz.runUnderlying127] (aR aN) ?_
  obtain ⟨o157, hl158, h⟩ := bd h
  refine CTS 4 (fun _ => ⟨[], [(0, .cells 62 [.sl 1, .v (.string p0.ft.fName), .v (.int .i64 p0.ft.fCtx), .sl 2, .sl 3, .v (.int .i64 p0.ft.fLo), .v (.int .i64 p0.ft.fHi), .sl 4]), (1, .rd Instr.E p0.fp), (2, .rd Fld.E p0.ft.fFields), (3, .rd Need.E p0.ft.fNeeds), (4, .rd (Et.int .i64) p0.ftargets), (7, .bx (mkB rs3))], 9⟩) (bif o157 then (Sum.inl () : Unit ⊕ (Bool)) else (Sum.inr false : Unit ⊕ (Bool))) ?_ (fun u hu => ?_)
  ·have h0161 := h
   clear h
   refine G4.imp (I_ [0, 1, 2, 3, 4, 5, 6, 8, 9]) (LP (fun (n : Nat) (s : List (Int × Known) × Option (Int × Known)) => mapRun (fun k153 v154 => fn27_m3 F p0 k153 v154) (Sum.inl () : Unit ⊕ (Bool)) (Sum.inr false : Unit ⊕ (Bool)) n s.1) (fun (s : List (Int × Known) × Option (Int × Known)) => ⟨[(1, .p 5 0), (62, .p 8 0)], [(0, .cells 62 [.sl 1, .v (.string p0.ft.fName), .v (.int .i64 p0.ft.fCtx), .sl 2, .sl 3, .v (.int .i64 p0.ft.fLo), .v (.int .i64 p0.ft.fHi), .sl 4]), (1, .rd Instr.E p0.fp), (2, .rd Fld.E p0.ft.fFields), (3, .rd Need.E p0.ft.fNeeds), (4, .rd (Et.int .i64) p0.ftargets), (5, .cells 58 [.p 0 0]), (7, .bx (mkB rs3)), (8, .ex (pMI (Kn.int .i64) (Vn.ag Known.E) s.1 s.2) [.mp 6])], 9⟩) (fun s => mapRun_zero s.1) (s0 := (o100, none)) (mapRun_start hl158) ?_)
   clear hl158
   rintro R162 n159 ⟨lt, ls⟩ h ih160
   refine U_ tbOk 0 [] aN ?_
   refine NXT rfl rfl rfl (fun hn => ?_) (fun l155 p l156 hp => ?_)
   ·subst hn
    refine U_ tbOk 1 [] aN ?_
    refine CDF rfl (by rfl) ?_
    refine U_ tbOk 0 [] aN ?_
    exact CES () (mapRun_nil h) (I_ [0, 1, 2, 3, 4, 5, 6, 7, 8])
   ·subst hp
    obtain ⟨k153, v154⟩ := p
    obtain ⟨b165, h, hbt163, hbf164⟩ := mapRun_step h
    replace h := (fn27_m3_s F p0 k153 v154).symm.trans h
    refine U_ tbOk 1 [] aN ?_
    refine CDT rfl (by rfl) ?_
    obtain ⟨v166, hv167, h⟩ := bd h
    refine U_ tbOk 10 [.en (Kn.int .i64) (Vn.ag Known.E) _ (k153, v154), .cl true [0, 1, 2, 3, 4, 9] (fun _ => c66 F p0 v154 k153 _ hv167)] (aR (aK aN)) ?_
    refine C_ h (fun h hb168 => ?_) fun h hb168 => ?_
    ·refine U_ tbOk 1 [] aN ?_
     have hb := Option.some.inj h
     replace hb := hbf164 hb.symm
     obtain rfl : o157 = false := by cases o157 with | false => rfl | true => cases hb
     replace h := h0161
     refine U_ tbOk 0 [] aN ?_
     obtain rfl := sj h
     exact RTMs tbOk.t 7 rfl Tryz.results27 [0, 1, 2, 3, 4] (by rfl) (by rfl) (by rfl) rfl rfl
    ·refine U_ tbOk 0 [] aN ?_
     have hb := Option.some.inj h
     exact ih160 (l155 ++ l156, some (k153, v154)) (hbt163 hb.symm) _ _ (I_ [0, 1, 2, 3, 4, 5, 6, 7, 8])
  ·obtain rfl : o157 = true := by cases o157 with | true => rfl | false => cases hu
   replace h := (fn27_k3_s).symm.trans h
   refine U_ tbOk 1 [] aN ?_
   obtain rfl := sj h
   exact RTMs tbOk.t 7 rfl Tryz.results27 [0, 1, 2, 3, 4] (by rfl) (by rfl) (by rfl) rfl rfl
def fn11 (F : Nat) (p0 : List Instr) (p1 : PType) : Option (Bool) :=
 Option.bind (fn20 F p0) fun v1 => (Option.bind (bif bif v1.2 != 0 then false else true then fn24 F p1 else some 0) fun v3 => (Option.bind (bif bif ((v1.2 != 0) || (v3 != 0)) || (decide ((64 : Int) < (p0.length : Int))) then false else true then fn25 F p0 else some false) fun v5 => (bif (((v1.2 != 0) || (v3 != 0)) || (decide ((64 : Int) < (p0.length : Int)))) || v5 then (some false) else (Option.bind (fn26 F p0) fun v8 => (Option.bind (fn27 F (⟨p0, p1, v8⟩ : Walk)) fun v10 => (some v10))))))
theorem c11 (F : Nat) (p0 : List Instr) (p1 : PType) (r : Bool) (h : fn11 F p0 p1 = some r) : Con Tryz.prog 11 [.sl 0, .ag [.v (.string p1.fName), .v (.int .i64 p1.fCtx), .sl 1, .sl 2, .v (.int .i64 p1.fLo), .v (.int .i64 p1.fHi)]] [(0, .rd Instr.E p0), (1, .rd Fld.E p1.fFields), (2, .rd Need.E p1.fNeeds)] 3 (.v (.bool r)) [] 3 := by
 rw [fn11] at h
 refine Con.of_body Tryz.func11 rfl Tryz.ntmps11 rfl fun w F0 ρ => ?_
 obtain ⟨v1, hv2, h⟩ := bd h
 obtain ⟨v3, hv4, h⟩ := bd h
 obtain ⟨v5, hv6, h⟩ := bd h
 refine U_ tbOk 25 [.cl true [0] (fun _ => c20 F p0 _ hv2), .cl (bif v1.2 != 0 then false else true) [1, 2] (fun hg => c24 F p1 _ (gcl hg hv4)), .cl (bif ((v1.2 != 0) || (v3 != 0)) || (decide ((64 : Int) < (p0.length : Int))) then false else true) [0] (fun hg => c25 F p0 _ (gcl hg hv6))] (aK (aR (aR (aK (aR (aR (aK aN))))))) ?_
 refine C_ h (fun h hb7 => ?_) fun h hb7 => ?_
 ·refine U_ tbOk 1 [] aN ?_
  obtain rfl := sj h
  exact T_ tbOk.t Tryz.results11 [0, 1, 2]
 ·refine U_ tbOk 0 [] aN ?_
  obtain ⟨v8, hv9, h⟩ := bd h
  refine DR tbOk hmix [7] [([], []), ([3], []), ([], []), ([0], []), ([], []), ([], []), ([], [])] [.cl true [0] (fun _ => c26 F p0 _ hv9)] (aR (aR (aK aN))) (by rfl) ?_
  obtain ⟨v10, hv11, h⟩ := bd h
  refine U_ tbOk 3 [.cl true [5, 0, 1, 2, 4] (fun _ => c27 F (⟨p0, p1, v8⟩ : Walk) _ hv11)] (aK aN) ?_
  obtain rfl := sj h
  exact T_ tbOk.t Tryz.results11 [0, 1, 2]
def fn8 (F : Nat) : Option (Bool) :=
 Option.bind (fn11 F ([(fn15 0 1), (fn16)] : List Instr) (fn18 0 1)) fun v1 => (bif v1 then (Option.bind (fn11 F ([(fn15 0 1), (fn16)] : List Instr) (fn18 2 3)) fun v4 => (bif !v4 then (Option.bind (fn11 F ([(⟨97, 0, 10, (-8), 0⟩ : Instr), (fn15 0 1), (fn16)] : List Instr) (fn18 0 1)) fun v7 => (bif !v7 then (Option.bind (fn11 F ([(⟨122, 10, 0, (-8), 5⟩ : Instr), (⟨97, 0, 10, (-8), 0⟩ : Instr), (fn15 0 1), (fn16)] : List Instr) (fn18 0 1)) fun v10 => (some v10)) else (some false))) else (bif false then (Option.bind (fn11 F ([(⟨122, 10, 0, (-8), 5⟩ : Instr), (⟨97, 0, 10, (-8), 0⟩ : Instr), (fn15 0 1), (fn16)] : List Instr) (fn18 0 1)) fun v13 => (some v13)) else (some false)))) else (bif false then (Option.bind (fn11 F ([(⟨97, 0, 10, (-8), 0⟩ : Instr), (fn15 0 1), (fn16)] : List Instr) (fn18 0 1)) fun v16 => (bif !v16 then (Option.bind (fn11 F ([(⟨122, 10, 0, (-8), 5⟩ : Instr), (⟨97, 0, 10, (-8), 0⟩ : Instr), (fn15 0 1), (fn16)] : List Instr) (fn18 0 1)) fun v19 => (some v19)) else (some false))) else (bif false then (Option.bind (fn11 F ([(⟨122, 10, 0, (-8), 5⟩ : Instr), (⟨97, 0, 10, (-8), 0⟩ : Instr), (fn15 0 1), (fn16)] : List Instr) (fn18 0 1)) fun v22 => (some v22)) else (some false))))
theorem c8 (F : Nat) (r : Bool) (h : fn8 F = some r) : Con Tryz.prog 8 [] [] 0 (.v (.bool r)) [] 0 := by
 rw [fn8] at h
 refine Con.of_body Tryz.func8 rfl Tryz.ntmps8 rfl fun w F0 ρ => ?_
 refine U_ tbOk 11 [.cl true [] (fun _ => c15 0 1 _ rfl), .cl true [] (fun _ => c16 _ rfl), .bs Instr.E ([(fn15 0 1), (fn16)] : List Instr)] (aK (aK (aR (aR aN)))) ?_
 obtain ⟨v1, hv2, h⟩ := bd h
 refine CDS h (fun h hb3 => ?_) (fun h hb3 => ?_)
 ·obtain ⟨v4, hv5, h⟩ := bd h
  refine CDS h (fun h hb6 => ?_) (fun h hb6 => ?_)
  ·obtain ⟨v7, hv8, h⟩ := bd h
   refine CDS h (fun h hb9 => ?_) (fun h hb9 => ?_)
   ·obtain ⟨v10, hv11, h⟩ := bd h
    refine DR (tbOk.lit [(11, 12, true), (17, 18, true), (26, 27, true)]) hmix [0] [([], []), ([], []), ([2, 3, 4], []), ([], []), ([], []), ([], []), ([2, 5, 6], []), ([], []), ([], []), ([], []), ([0], []), ([], []), ([], []), ([], []), ([], []), ([7, 8, 9], []), ([], []), ([], []), ([], []), ([1], []), ([0], []), ([], []), ([], []), ([], []), ([], []), ([10, 11, 12], []), ([], []), ([], [])] [.cl true [] (fun _ => c18 0 1 _ rfl), .cl true [2, 3, 4] (fun _ => c11 F ([(fn15 0 1), (fn16)] : List Instr) (fn18 0 1) _ hv2), .cl true [] (fun _ => c18 2 3 _ rfl), .cl true [2, 5, 6] (fun _ => c11 F ([(fn15 0 1), (fn16)] : List Instr) (fn18 2 3) _ hv5), .cl true [] (fun _ => c15 0 1 _ rfl), .cl true [] (fun _ => c16 _ rfl), .bs Instr.E ([(⟨97, 0, 10, (-8), 0⟩ : Instr), (fn15 0 1), (fn16)] : List Instr), .cl true [] (fun _ => c18 0 1 _ rfl), .cl true [7, 8, 9] (fun _ => c11 F ([(⟨97, 0, 10, (-8), 0⟩ : Instr), (fn15 0 1), (fn16)] : List Instr) (fn18 0 1) _ hv8), .cl true [] (fun _ => c15 0 1 _ rfl), .cl true [] (fun _ => c16 _ rfl), .bs Instr.E ([(⟨122, 10, 0, (-8), 5⟩ : Instr), (⟨97, 0, 10, (-8), 0⟩ : Instr), (fn15 0 1), (fn16)] : List Instr), .cl true [] (fun _ => c18 0 1 _ rfl), .cl true [10, 11, 12] (fun _ => c11 F ([(⟨122, 10, 0, (-8), 5⟩ : Instr), (⟨97, 0, 10, (-8), 0⟩ : Instr), (fn15 0 1), (fn16)] : List Instr) (fn18 0 1) _ hv11)] (aK (aR (aK (aC hb3 (aK (aR (aK (aC hb6 (aR (aK (aK (aR (aR (aK (aR (aK (aC hb9 (aR (aR (aK (aK (aR (aR (aK (aR (aK aN)))))))))))))))))))))))))) (by rfl) ?_
    refine U_ tbOk 0 [] aN ?_
    obtain rfl := sj h
    exact T_ tbOk.t Tryz.results8 []
   ·refine DR (tbOk.lit [(11, 12, true), (17, 18, true), (26, 27, false)]) hmix [0] [([], []), ([], []), ([2, 3, 4], []), ([], []), ([], []), ([], []), ([2, 5, 6], []), ([], []), ([], []), ([], []), ([0], []), ([], []), ([], []), ([], []), ([], []), ([7, 8, 9], []), ([], []), ([], []), ([], []), ([], []), ([], []), ([], []), ([], []), ([], []), ([], []), ([], []), ([], []), ([], [])] [.cl true [] (fun _ => c18 0 1 _ rfl), .cl true [2, 3, 4] (fun _ => c11 F ([(fn15 0 1), (fn16)] : List Instr) (fn18 0 1) _ hv2), .cl true [] (fun _ => c18 2 3 _ rfl), .cl true [2, 5, 6] (fun _ => c11 F ([(fn15 0 1), (fn16)] : List Instr) (fn18 2 3) _ hv5), .cl true [] (fun _ => c15 0 1 _ rfl), .cl true [] (fun _ => c16 _ rfl), .bs Instr.E ([(⟨97, 0, 10, (-8), 0⟩ : Instr), (fn15 0 1), (fn16)] : List Instr), .cl true [] (fun _ => c18 0 1 _ rfl), .cl true [7, 8, 9] (fun _ => c11 F ([(⟨97, 0, 10, (-8), 0⟩ : Instr), (fn15 0 1), (fn16)] : List Instr) (fn18 0 1) _ hv8)] (aK (aR (aK (aC hb3 (aK (aR (aK (aC hb6 (aR (aK (aK (aR (aR (aK (aR (aK (aC hb9 aN))))))))))))))))) (by rfl) ?_
    refine U_ tbOk 0 [] aN ?_
    obtain rfl := sj h
    exact T_ tbOk.t Tryz.results8 []
  ·refine CDS h (fun h hb12 => ?_) (fun h hb12 => ?_)
   ·obtain ⟨v13, hv14, h⟩ := bd h
    refine DR (tbOk.lit [(11, 12, true), (17, 18, false), (26, 27, true)]) hmix [0] [([], []), ([], []), ([2, 3, 4], []), ([], []), ([], []), ([], []), ([2, 5, 6], []), ([], []), ([], []), ([], []), ([], []), ([], []), ([], []), ([], []), ([], []), ([], []), ([], []), ([], []), ([], []), ([1], []), ([0], []), ([], []), ([], []), ([], []), ([], []), ([7, 8, 9], []), ([], []), ([], [])] [.cl true [] (fun _ => c18 0 1 _ rfl), .cl true [2, 3, 4] (fun _ => c11 F ([(fn15 0 1), (fn16)] : List Instr) (fn18 0 1) _ hv2), .cl true [] (fun _ => c18 2 3 _ rfl), .cl true [2, 5, 6] (fun _ => c11 F ([(fn15 0 1), (fn16)] : List Instr) (fn18 2 3) _ hv5), .cl true [] (fun _ => c15 0 1 _ rfl), .cl true [] (fun _ => c16 _ rfl), .bs Instr.E ([(⟨122, 10, 0, (-8), 5⟩ : Instr), (⟨97, 0, 10, (-8), 0⟩ : Instr), (fn15 0 1), (fn16)] : List Instr), .cl true [] (fun _ => c18 0 1 _ rfl), .cl true [7, 8, 9] (fun _ => c11 F ([(⟨122, 10, 0, (-8), 5⟩ : Instr), (⟨97, 0, 10, (-8), 0⟩ : Instr), (fn15 0 1), (fn16)] : List Instr) (fn18 0 1) _ hv14)] (aK (aR (aK (aC hb3 (aK (aR (aK (aC hb6 (aC hb12 (aR (aR (aK (aK (aR (aR (aK (aR (aK aN)))))))))))))))))) (by rfl) ?_
    refine U_ tbOk 0 [] aN ?_
    obtain rfl := sj h
    exact T_ tbOk.t Tryz.results8 []
   ·refine DR (tbOk.lit [(11, 12, true), (17, 18, false), (26, 27, false)]) hmix [0] [([], []), ([], []), ([2, 3, 4], []), ([], []), ([], []), ([], []), ([2, 5, 6], []), ([], []), ([], []), ([], []), ([], []), ([], []), ([], []), ([], []), ([], []), ([], []), ([], []), ([], []), ([], []), ([], []), ([], []), ([], []), ([], []), ([], []), ([], []), ([], []), ([], []), ([], [])] [.cl true [] (fun _ => c18 0 1 _ rfl), .cl true [2, 3, 4] (fun _ => c11 F ([(fn15 0 1), (fn16)] : List Instr) (fn18 0 1) _ hv2), .cl true [] (fun _ => c18 2 3 _ rfl), .cl true [2, 5, 6] (fun _ => c11 F ([(fn15 0 1), (fn16)] : List Instr) (fn18 2 3) _ hv5)] (aK (aR (aK (aC hb3 (aK (aR (aK (aC hb6 (aC hb12 aN))))))))) (by rfl) ?_
    refine U_ tbOk 0 [] aN ?_
    obtain rfl := sj h
    exact T_ tbOk.t Tryz.results8 []
 ·refine CDS h (fun h hb15 => ?_) (fun h hb15 => ?_)
  ·obtain ⟨v16, hv17, h⟩ := bd h
   refine CDS h (fun h hb18 => ?_) (fun h hb18 => ?_)
   ·obtain ⟨v19, hv20, h⟩ := bd h
    refine DR (tbOk.lit [(11, 12, false), (17, 18, true), (26, 27, true)]) hmix [0] [([], []), ([], []), ([2, 3, 4], []), ([], []), ([], []), ([], []), ([], []), ([], []), ([], []), ([], []), ([0], []), ([], []), ([], []), ([], []), ([], []), ([5, 6, 7], []), ([], []), ([], []), ([], []), ([1], []), ([0], []), ([], []), ([], []), ([], []), ([], []), ([8, 9, 10], []), ([], []), ([], [])] [.cl true [] (fun _ => c18 0 1 _ rfl), .cl true [2, 3, 4] (fun _ => c11 F ([(fn15 0 1), (fn16)] : List Instr) (fn18 0 1) _ hv2), .cl true [] (fun _ => c15 0 1 _ rfl), .cl true [] (fun _ => c16 _ rfl), .bs Instr.E ([(⟨97, 0, 10, (-8), 0⟩ : Instr), (fn15 0 1), (fn16)] : List Instr), .cl true [] (fun _ => c18 0 1 _ rfl), .cl true [5, 6, 7] (fun _ => c11 F ([(⟨97, 0, 10, (-8), 0⟩ : Instr), (fn15 0 1), (fn16)] : List Instr) (fn18 0 1) _ hv17), .cl true [] (fun _ => c15 0 1 _ rfl), .cl true [] (fun _ => c16 _ rfl), .bs Instr.E ([(⟨122, 10, 0, (-8), 5⟩ : Instr), (⟨97, 0, 10, (-8), 0⟩ : Instr), (fn15 0 1), (fn16)] : List Instr), .cl true [] (fun _ => c18 0 1 _ rfl), .cl true [8, 9, 10] (fun _ => c11 F ([(⟨122, 10, 0, (-8), 5⟩ : Instr), (⟨97, 0, 10, (-8), 0⟩ : Instr), (fn15 0 1), (fn16)] : List Instr) (fn18 0 1) _ hv20)] (aK (aR (aK (aC hb3 (aC hb15 (aR (aK (aK (aR (aR (aK (aR (aK (aC hb18 (aR (aR (aK (aK (aR (aR (aK (aR (aK aN))))))))))))))))))))))) (by rfl) ?_
    refine U_ tbOk 0 [] aN ?_
    obtain rfl := sj h
    exact T_ tbOk.t Tryz.results8 []
   ·refine DR (tbOk.lit [(11, 12, false), (17, 18, true), (26, 27, false)]) hmix [0] [([], []), ([], []), ([2, 3, 4], []), ([], []), ([], []), ([], []), ([], []), ([], []), ([], []), ([], []), ([0], []), ([], []), ([], []), ([], []), ([], []), ([5, 6, 7], []), ([], []), ([], []), ([], []), ([], []), ([], []), ([], []), ([], []), ([], []), ([], []), ([], []), ([], []), ([], [])] [.cl true [] (fun _ => c18 0 1 _ rfl), .cl true [2, 3, 4] (fun _ => c11 F ([(fn15 0 1), (fn16)] : List Instr) (fn18 0 1) _ hv2), .cl true [] (fun _ => c15 0 1 _ rfl), .cl true [] (fun _ => c16 _ rfl), .bs Instr.E ([(⟨97, 0, 10, (-8), 0⟩ : Instr), (fn15 0 1), (fn16)] : List Instr), .cl true [] (fun _ => c18 0 1 _ rfl), .cl true [5, 6, 7] (fun _ => c11 F ([(⟨97, 0, 10, (-8), 0⟩ : Instr), (fn15 0 1), (fn16)] : List Instr) (fn18 0 1) _ hv17)] (aK (aR (aK (aC hb3 (aC hb15 (aR (aK (aK (aR (aR (aK (aR (aK (aC hb18 aN)))))))))))))) (by rfl) ?_
    refine U_ tbOk 0 [] aN ?_
    obtain rfl := sj h
    exact T_ tbOk.t Tryz.results8 []
  ·refine CDS h (fun h hb21 => ?_) (fun h hb21 => ?_)
   ·obtain ⟨v22, hv23, h⟩ := bd h
    refine DR (tbOk.lit [(11, 12, false), (17, 18, false), (26, 27, true)]) hmix [0] [([], []), ([], []), ([2, 3, 4], []), ([], []), ([], []), ([], []), ([], []), ([], []), ([], []), ([], []), ([], []), ([], []), ([], []), ([], []), ([], []), ([], []), ([], []), ([], []), ([], []), ([1], []), ([0], []), ([], []), ([], []), ([], []), ([], []), ([5, 6, 7], []), ([], []), ([], [])] [.cl true [] (fun _ => c18 0 1 _ rfl), .cl true [2, 3, 4] (fun _ => c11 F ([(fn15 0 1), (fn16)] : List Instr) (fn18 0 1) _ hv2), .cl true [] (fun _ => c15 0 1 _ rfl), .cl true [] (fun _ => c16 _ rfl), .bs Instr.E ([(⟨122, 10, 0, (-8), 5⟩ : Instr), (⟨97, 0, 10, (-8), 0⟩ : Instr), (fn15 0 1), (fn16)] : List Instr), .cl true [] (fun _ => c18 0 1 _ rfl), .cl true [5, 6, 7] (fun _ => c11 F ([(⟨122, 10, 0, (-8), 5⟩ : Instr), (⟨97, 0, 10, (-8), 0⟩ : Instr), (fn15 0 1), (fn16)] : List Instr) (fn18 0 1) _ hv23)] (aK (aR (aK (aC hb3 (aC hb15 (aC hb21 (aR (aR (aK (aK (aR (aR (aK (aR (aK aN))))))))))))))) (by rfl) ?_
    refine U_ tbOk 0 [] aN ?_
    obtain rfl := sj h
    exact T_ tbOk.t Tryz.results8 []
   ·refine DR (tbOk.lit [(11, 12, false), (17, 18, false), (26, 27, false)]) hmix [0] [([], []), ([], []), ([2, 3, 4], []), ([], []), ([], []), ([], []), ([], []), ([], []), ([], []), ([], []), ([], []), ([], []), ([], []), ([], []), ([], []), ([], []), ([], []), ([], []), ([], []), ([], []), ([], []), ([], []), ([], []), ([], []), ([], []), ([], []), ([], []), ([], [])] [.cl true [] (fun _ => c18 0 1 _ rfl), .cl true [2, 3, 4] (fun _ => c11 F ([(fn15 0 1), (fn16)] : List Instr) (fn18 0 1) _ hv2)] (aK (aR (aK (aC hb3 (aC hb15 (aC hb21 aN)))))) (by rfl) ?_
    refine U_ tbOk 0 [] aN ?_
    obtain rfl := sj h
    exact T_ tbOk.t Tryz.results8 []
def fn7_l1 (p0 : PType) (p1 : Int) : Nat → Int → Int → Option (Int)
 | 0, _, _ => none
 | n10 + 1, x3, x4 => bif (decide (x4 < 1)) && (decide (x3 ≤ p1)) then (bif inb x4 1 then ((fn7_l1 p0 p1 n10) (IntKind.i64.wrap ((IntKind.i64.wrap ((IntKind.i64.wrap (x3 + (IntKind.i64.wrap ((p0.fName.size : Int).tdiv 8)))) + (p0.fFields.length : Int))) + (p0.fNeeds.length : Int))) (IntKind.i64.wrap (x4 + 1))) else none) else (some x3)
theorem fn7_l1_s (p0 : PType) (p1 : Int) (n10 : Nat) (x3 : Int) (x4 : Int) : fn7_l1 p0 p1 (n10 + 1) x3 x4 = bif (decide (x4 < 1)) && (decide (x3 ≤ p1)) then (bif inb x4 1 then ((fn7_l1 p0 p1 n10) (IntKind.i64.wrap ((IntKind.i64.wrap ((IntKind.i64.wrap (x3 + (IntKind.i64.wrap ((p0.fName.size : Int).tdiv 8)))) + (p0.fFields.length : Int))) + (p0.fNeeds.length : Int))) (IntKind.i64.wrap (x4 + 1))) else none) else (some x3) := rfl
def fn7_k1 (x7 : Int) : Option (Int) :=
 some x7
theorem fn7_k1_s (x7 : Int) : fn7_k1 x7 = some x7 := rfl
def fn7 (F : Nat) (p0 : PType) (p1 : Int) : Option (Int) :=
 Option.bind (fn7_l1 p0 p1 F 1 0) fun o8 => (fn7_k1 o8)
theorem c7 (F : Nat) (p0 : PType) (p1 : Int) (r : Int) (h : fn7 F p0 p1 = some r) : Con Tryz.prog 7 [.sl 0, .v (.int .i64 p1)] [(0, .ex pS1 [.p 1 0]), (1, .cells 26 [.v (.string p0.fName), .v (.int .i64 p0.fCtx), .sl 2, .sl 3, .v (.int .i64 p0.fLo), .v (.int .i64 p0.fHi)]), (2, .rd Fld.E p0.fFields), (3, .rd Need.E p0.fNeeds)] 4 (.v (.int .i64 r)) [(0, .ex pS1 [.p 1 0]), (1, .cells 26 [.v (.string p0.fName), .v (.int .i64 p0.fCtx), .sl 2, .sl 3, .v (.int .i64 p0.fLo), .v (.int .i64 p0.fHi)])] 4 := by
 rw [fn7] at h
 refine Con.of_body Tryz.func7 rfl Tryz.ntmps7 rfl fun w F0 ρ => ?_
 refine U_ tbOk 5 [.l1] (aR aN) ?_
 obtain ⟨o8, hl9, h⟩ := bd h
 refine CT 0 ⟨[(5, .v (.int .i64 o8))], [(0, .ex pS1 [.p 1 0]), (1, .cells 26 [.v (.string p0.fName), .v (.int .i64 p0.fCtx), .sl 2, .sl 3, .v (.int .i64 p0.fLo), .v (.int .i64 p0.fHi)]), (2, .rd Fld.E p0.fFields), (3, .rd Need.E p0.fNeeds)], 4⟩ ?_ ?_
 ·have h012 := h
  clear h
  refine G4.imp (I_ [0, 1, 2, 3]) (LP (fun (n : Nat) (s : Int × Int) => fn7_l1 p0 p1 n s.1 s.2) (fun (s : Int × Int) => ⟨[(0, .sl 0), (1, .v (.int .i64 p1)), (5, .v (.int .i64 s.1)), (6, .v (.int .i64 s.2))], [(0, .ex pS1 [.p 1 0]), (1, .cells 26 [.v (.string p0.fName), .v (.int .i64 p0.fCtx), .sl 2, .sl 3, .v (.int .i64 p0.fLo), .v (.int .i64 p0.fHi)]), (2, .rd Fld.E p0.fFields), (3, .rd Need.E p0.fNeeds)], 4⟩) (fun _ => rfl) (s0 := (1, 0)) hl9 ?_)
  clear hl9
  rintro R13 n10 ⟨x3, x4⟩ h ih11
  replace h := (fn7_l1_s p0 p1 n10 x3 x4).symm.trans h
  refine U_ tbOk 9 [.l1] (aR aN) ?_
  refine C_ h (fun h hb14 => ?_) fun h hb14 => ?_
  ·refine U_ tbOk 0 [] aN ?_
   obtain ⟨hk15, h⟩ := ck h
   refine DR tbOk hmix [5] [([], []), ([], []), ([], []), ([0], []), ([], []), ([1], []), ([], []), ([], []), ([], []), ([], []), ([], []), ([0], []), ([], []), ([1], []), ([2], []), ([], []), ([], []), ([], []), ([0], []), ([], []), ([1], []), ([3], []), ([], []), ([], [])] [.i1, .i1, .i1] (aR (aR (aC hk15 (aR (aC rfl (aR (aR (aC hk15 (aR (aR (aR (aR (aC hk15 (aR (aR aN))))))))))))))) (by rfl) ?_
   refine U_ tbOk 3 [] aN ?_
   exact ih11 (IntKind.i64.wrap ((IntKind.i64.wrap ((IntKind.i64.wrap (x3 + (IntKind.i64.wrap ((p0.fName.size : Int).tdiv 8)))) + (p0.fFields.length : Int))) + (p0.fNeeds.length : Int)), IntKind.i64.wrap (x4 + 1)) h _ _ (I_ [0, 1, 2, 3])
  ·refine U_ tbOk 0 [] aN ?_
   obtain rfl := sj h
   exact CE (I_ [0, 1, 2, 3])
 ·replace h := (fn7_k1_s o8).symm.trans h
  refine U_ tbOk 2 [] aN ?_
  obtain rfl := sj h
  exact T_ tbOk.t Tryz.results7 [0, 1, 2, 3]
def fn46 (p0 : Int) (p1 : Int) : Int :=
 IntKind.i64.wrap ((IntKind.i64.wrap ((1000003 : Int) * (IntKind.i64.wrap (p0 + 7)))) + p1)
theorem c46 (p0 : Int) (p1 : Int) (r : Int) (h : fn46 p0 p1 = r) : Con Tryz.prog 46 [.v (.int .i64 p0), .v (.int .i64 p1)] [] 0 (.v (.int .i64 r)) [] 0 := by
 rw [fn46] at h
 refine Con.of_body Tryz.func46 rfl Tryz.ntmps46 rfl fun w F0 ρ => ?_
 refine U_ tbOk 7 [] aN ?_
 subst h
 exact T_ tbOk.t Tryz.results46 []
def fn21 (p0 : Int) (p1 : Int) : Instr :=
 (⟨0, 0, 0, 0, IntKind.i32.wrap (fn46 p0 p1)⟩ : Instr)
theorem c21 (p0 : Int) (p1 : Int) (r : Instr) (h : fn21 p0 p1 = r) : Con Tryz.prog 21 [.v (.int .i64 p0), .v (.int .i64 p1)] [] 0 (.ag [.v (.int .u8 r.fOp), .v (.int .u8 r.fDst), .v (.int .u8 r.fSrc), .v (.int .i16 r.fOff), .v (.int .i32 r.fImm)]) [] 0 := by
 rw [fn21] at h
 refine Con.of_body Tryz.func21 rfl Tryz.ntmps21 rfl fun w F0 ρ => ?_
 refine U_ tbOk 7 [.cl true [] (fun _ => c46 p0 p1 _ rfl)] (aK aN) ?_
 subst h
 exact T_ tbOk.t Tryz.results21 []
def fn9_l1 : Nat → (List Instr) → Int → Option ((List Instr))
 | 0, _, _ => none
 | n12 + 1, xs5, x6 => bif decide (x6 < 12) then (bif decide ((xs5.length + ([(fn21 1 x6)] : List Instr).length) * 12 ≤ 140737488355328 ∧ xs5.length + ([(fn21 1 x6)] : List Instr).length ≤ 9223372036854775807) then ((fn9_l1 n12) (xs5 ++ ([(fn21 1 x6)] : List Instr)) (IntKind.i64.wrap (x6 + 1))) else none) else (some xs5)
theorem fn9_l1_s (n12 : Nat) (xs5 : List Instr) (x6 : Int) : fn9_l1 (n12 + 1) xs5 x6 = bif decide (x6 < 12) then (bif decide ((xs5.length + ([(fn21 1 x6)] : List Instr).length) * 12 ≤ 140737488355328 ∧ xs5.length + ([(fn21 1 x6)] : List Instr).length ≤ 9223372036854775807) then ((fn9_l1 n12) (xs5 ++ ([(fn21 1 x6)] : List Instr)) (IntKind.i64.wrap (x6 + 1))) else none) else (some xs5) := rfl
def fn9_k1 (p0 : List Instr) (xs9 : List Instr) : Option (((List Instr) × Nat)) :=
 bif sliceOk ((0 : Nat) : Int) (p0.length : Int) xs9.length then (some (xs9, (p0.length : Int).toNat - ((0 : Nat) : Int).toNat)) else none
theorem fn9_k1_s (p0 : List Instr) (xs9 : List Instr) : fn9_k1 p0 xs9 = bif sliceOk ((0 : Nat) : Int) (p0.length : Int) xs9.length then (some (xs9, (p0.length : Int).toNat - ((0 : Nat) : Int).toNat)) else none := rfl
def fn9 (F : Nat) (p0 : List Instr) : Option ((List Instr) × Nat) :=
 bif decide ((0 : Int) ≤ 0) && decide ((0 : Int) ≤ IntKind.i64.wrap ((p0.length : Int) + 12)) && decide ((12 : Int) * (IntKind.i64.wrap ((p0.length : Int) + 12)) ≤ 281474976710656) && decide ((IntKind.i64.wrap ((p0.length : Int) + 12)) ≤ 9223372036854775807) then (bif decide (((List.replicate (0 : Int).toNat (⟨0, 0, 0, 0, 0⟩ : Instr)).length + p0.length) * 12 ≤ 140737488355328 ∧ (List.replicate (0 : Int).toNat (⟨0, 0, 0, 0, 0⟩ : Instr)).length + p0.length ≤ 9223372036854775807) then (Option.bind (fn9_l1 F ((List.replicate (0 : Int).toNat (⟨0, 0, 0, 0, 0⟩ : Instr)) ++ p0) 0) fun o10 => (fn9_k1 p0 o10)) else none) else none
theorem c9 (F : Nat) (p0 : List Instr) (r : (List Instr) × Nat) (h : fn9 F p0 = some r) : Con Tryz.prog 9 [.sl 0] [(0, .rd Instr.E p0)] 1 (.sl 1) [(1, .vw (.ss 2 0 5 r.2)), (2, .row Instr.E 40 r.1 r.1.length .unk)] 3 := by
 rw [fn9] at h
 refine Con.of_body Tryz.func9 rfl Tryz.ntmps9 rfl fun w F0 ρ => ?_
 obtain ⟨hk1, h⟩ := ck h
 obtain ⟨hk2, h⟩ := ck h
 refine U_ tbOk 11 [.ms Instr.E (⟨0, 0, 0, 0, 0⟩ : Instr), .ap Instr.E .unk _ _] (aC hk1 (aR (aR (aR (aC hk2 (aC rfl aN)))))) ?_
 obtain ⟨o10, hl11, h⟩ := bd h
 refine CT 0 ⟨[(0, .sl 0), (3, .sl 1)], [(0, .rd Instr.E p0), (1, .row Instr.E 40 o10 o10.length .unk)], 2⟩ ?_ ?_
 ·have h014 := h
  clear h
  refine G4.imp (I_ [0, 2]) (LP (fun (n : Nat) (s : (List Instr) × Int) => fn9_l1 n s.1 s.2) (fun (s : (List Instr) × Int) => ⟨[(0, .sl 0), (3, .sl 1), (4, .v (.int .i64 s.2))], [(0, .rd Instr.E p0), (1, .row Instr.E 40 s.1 s.1.length .unk)], 2⟩) (fun _ => rfl) (s0 := ((List.replicate (0 : Int).toNat (⟨0, 0, 0, 0, 0⟩ : Instr)) ++ p0, 0)) hl11 ?_)
  clear hl11
  rintro R15 n12 ⟨xs5, x6⟩ h ih13
  replace h := (fn9_l1_s n12 xs5 x6).symm.trans h
  refine U_ tbOk 2 [] aN ?_
  refine C_ h (fun h hb16 => ?_) fun h hb16 => ?_
  ·obtain ⟨hk17, h⟩ := ck h
   refine U_ tbOk 9 [.cl true [] (fun _ => c21 1 x6 _ rfl), .bs Instr.E ([(fn21 1 x6)] : List Instr), .ap Instr.E .unk _ _] (aK (aR (aR (aR (aR (aC hk17 (aC rfl aN))))))) ?_
   exact ih13 (xs5 ++ ([(fn21 1 x6)] : List Instr), IntKind.i64.wrap (x6 + 1)) h _ _ (I_ [0, 3])
  ·refine U_ tbOk 0 [] aN ?_
   obtain rfl := sj h
   exact CE (I_ [0, 1])
 ·replace h := (fn9_k1_s p0 o10).symm.trans h
  obtain ⟨hk18, h⟩ := ck h
  refine U_ tbOk 5 [.sc] (aC hk18 aN) ?_
  obtain rfl := sj h
  refine G4.imp (Imp.vwS 2 (by rfl)) ?_
  exact T_ tbOk.t Tryz.results9 [0, 2, 1]
def fn47 (p0 : Int) (p1 : Int) : Fld :=
 (⟨(fn46 p0 p1), 0, 0, false⟩ : Fld)
theorem c47 (p0 : Int) (p1 : Int) (r : Fld) (h : fn47 p0 p1 = r) : Con Tryz.prog 47 [.v (.int .i64 p0), .v (.int .i64 p1)] [] 0 (.ag [.v (.int .i64 r.fOff), .v (.int .i64 r.fSize), .v (.int .u8 r.fKind), .v (.bool r.fWrite)]) [] 0 := by
 rw [fn47] at h
 refine Con.of_body Tryz.func47 rfl Tryz.ntmps47 rfl fun w F0 ρ => ?_
 refine U_ tbOk 6 [.cl true [] (fun _ => c46 p0 p1 _ rfl)] (aK aN) ?_
 subst h
 exact T_ tbOk.t Tryz.results47 []
def fn22_l1 : Nat → (List Fld) → Int → Option ((List Fld))
 | 0, _, _ => none
 | n12 + 1, xs5, x6 => bif decide (x6 < 12) then (bif decide ((xs5.length + ([(fn47 1 x6)] : List Fld).length) * 24 ≤ 140737488355328 ∧ xs5.length + ([(fn47 1 x6)] : List Fld).length ≤ 9223372036854775807) then ((fn22_l1 n12) (xs5 ++ ([(fn47 1 x6)] : List Fld)) (IntKind.i64.wrap (x6 + 1))) else none) else (some xs5)
theorem fn22_l1_s (n12 : Nat) (xs5 : List Fld) (x6 : Int) : fn22_l1 (n12 + 1) xs5 x6 = bif decide (x6 < 12) then (bif decide ((xs5.length + ([(fn47 1 x6)] : List Fld).length) * 24 ≤ 140737488355328 ∧ xs5.length + ([(fn47 1 x6)] : List Fld).length ≤ 9223372036854775807) then ((fn22_l1 n12) (xs5 ++ ([(fn47 1 x6)] : List Fld)) (IntKind.i64.wrap (x6 + 1))) else none) else (some xs5) := rfl
def fn22_k1 (p0 : List Fld) (xs9 : List Fld) : Option (((List Fld) × Nat)) :=
 bif sliceOk ((0 : Nat) : Int) (p0.length : Int) xs9.length then (some (xs9, (p0.length : Int).toNat - ((0 : Nat) : Int).toNat)) else none
theorem fn22_k1_s (p0 : List Fld) (xs9 : List Fld) : fn22_k1 p0 xs9 = bif sliceOk ((0 : Nat) : Int) (p0.length : Int) xs9.length then (some (xs9, (p0.length : Int).toNat - ((0 : Nat) : Int).toNat)) else none := rfl
def fn22 (F : Nat) (p0 : List Fld) : Option ((List Fld) × Nat) :=
 bif decide ((0 : Int) ≤ 0) && decide ((0 : Int) ≤ IntKind.i64.wrap ((p0.length : Int) + 12)) && decide ((24 : Int) * (IntKind.i64.wrap ((p0.length : Int) + 12)) ≤ 281474976710656) && decide ((IntKind.i64.wrap ((p0.length : Int) + 12)) ≤ 9223372036854775807) then (bif decide (((List.replicate (0 : Int).toNat (⟨0, 0, 0, false⟩ : Fld)).length + p0.length) * 24 ≤ 140737488355328 ∧ (List.replicate (0 : Int).toNat (⟨0, 0, 0, false⟩ : Fld)).length + p0.length ≤ 9223372036854775807) then (Option.bind (fn22_l1 F ((List.replicate (0 : Int).toNat (⟨0, 0, 0, false⟩ : Fld)) ++ p0) 0) fun o10 => (fn22_k1 p0 o10)) else none) else none
end Go.Proofs.YthpjmknpkdoadaaGreat
