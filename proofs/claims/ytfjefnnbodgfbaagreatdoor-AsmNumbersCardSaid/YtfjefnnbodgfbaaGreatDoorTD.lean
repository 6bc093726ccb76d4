/- Part of the proof: the logic, the walks, and what they compute. -/
import Derived.Test.YtfjefnnbodgfbaaGreatDoorProg
import Derived.Test.YtfjefnnbodgfbaaGreatDoorTC
set_option linter.all false
namespace Go.Proofs.YtfjefnnbodgfbaaGreatDoor
open Go Go.HW
set_option linter.unusedVariables false
set_option maxRecDepth 40000
set_option maxHeartbeats 8000000
structure Instr where
 fOp : Int
 fDst : Int
 fSrc : Int
 fOff : Int
 fImm : Int
 deriving DecidableEq, Inhabited
def Instr.enc (x : Instr) : List Value := [.int .u8 x.fOp, .int .u8 x.fDst, .int .u8 x.fSrc, .int .i16 x.fOff, .int .i32 x.fImm]
def Instr.E : Et Instr := ⟨⟨Instr.enc, 5, fun _ => rfl, fun _ => rfl, by decide⟩, fun x => [.v (.int .u8 x.fOp), .v (.int .u8 x.fDst), .v (.int .u8 x.fSrc), .v (.int .i16 x.fOff), .v (.int .i32 x.fImm)], fun ρ x => dens_mapV (Instr.enc x)⟩
structure Form where
 fname : ByteArray
 fwords : ByteArray
 fslot : Instr
 deriving DecidableEq, Inhabited
def Form.enc (x : Form) : List Value := [.string x.fname, .string x.fwords, .int .u8 x.fslot.fOp, .int .u8 x.fslot.fDst, .int .u8 x.fslot.fSrc, .int .i16 x.fslot.fOff, .int .i32 x.fslot.fImm]
def Form.E : Et Form := ⟨⟨Form.enc, 7, fun _ => rfl, fun _ => rfl, by decide⟩, fun x => [.v (.string x.fname), .v (.string x.fwords), .v (.int .u8 x.fslot.fOp), .v (.int .u8 x.fslot.fDst), .v (.int .u8 x.fslot.fSrc), .v (.int .i16 x.fslot.fOff), .v (.int .i32 x.fslot.fImm)], fun ρ x => dens_mapV (Form.enc x)⟩
structure Line where
 fInstr : Instr
 fnext : Instr
 fwords : List ByteArray
 deriving DecidableEq, Inhabited
structure RRow where
 fname : ByteArray
 fop : Int
 deriving DecidableEq, Inhabited
def RRow.enc (x : RRow) : List Value := [.string x.fname, .int .u8 x.fop]
def RRow.E : Et RRow := ⟨⟨RRow.enc, 2, fun _ => rfl, fun _ => rfl, by decide⟩, fun x => [.v (.string x.fname), .v (.int .u8 x.fop)], fun ρ x => dens_mapV (RRow.enc x)⟩
structure RForm where
 fname : ByteArray
 fwords : ByteArray
 fslot : Instr
 deriving DecidableEq, Inhabited
def RForm.enc (x : RForm) : List Value := [.string x.fname, .string x.fwords, .int .u8 x.fslot.fOp, .int .u8 x.fslot.fDst, .int .u8 x.fslot.fSrc, .int .i16 x.fslot.fOff, .int .i32 x.fslot.fImm]
def RForm.E : Et RForm := ⟨⟨RForm.enc, 7, fun _ => rfl, fun _ => rfl, by decide⟩, fun x => [.v (.string x.fname), .v (.string x.fwords), .v (.int .u8 x.fslot.fOp), .v (.int .u8 x.fslot.fDst), .v (.int .u8 x.fslot.fSrc), .v (.int .i16 x.fslot.fOff), .v (.int .i32 x.fslot.fImm)], fun ρ x => dens_mapV (RForm.enc x)⟩
def str_0 : ByteArray := ⟨#[109, 111, 118, 32, 114, 48, 32, 49, 10, 101, 120, 105, 116, 10, 97, 100, 100, 119, 32, 114, 49, 32, 114, 50, 10, 106, 110, 101, 32, 114, 49, 32, 45, 49, 32, 51, 10, 108, 100, 100, 119, 32, 114, 50, 32, 45, 49, 10, 115, 116, 120, 100, 119, 32, 114, 49, 48, 32, 45, 56, 32, 114, 49, 10, 115, 108, 111, 116, 32, 49, 52, 57, 32, 114, 48, 32, 114, 48, 32, 48, 32, 49, 10]⟩
def str_1 : ByteArray := ⟨#[97, 100, 100, 32, 115, 117, 98, 32, 109, 117, 108, 32, 100, 105, 118, 32, 111, 114, 32, 97, 110, 100, 32, 108, 115, 104, 32, 114, 115, 104, 32, 109, 111, 100, 32, 120, 111, 114, 32, 109, 111, 118, 32, 97, 114, 115, 104]⟩
def str_2 : ByteArray := ⟨#[98, 115, 119, 97, 112, 32, 108, 101, 32, 98, 101]⟩
def str_3 : ByteArray := ⟨#[106, 101, 113, 32, 106, 103, 116, 32, 106, 103, 101, 32, 106, 115, 101, 116, 32, 106, 110, 101, 32, 106, 115, 103, 116, 32, 106, 115, 103, 101, 32, 106, 108, 116, 32, 106, 108, 101, 32, 106, 115, 108, 116, 32, 106, 115, 108, 101]⟩
def str_4 : ByteArray := ⟨#[98, 32, 104, 32, 119, 32, 100, 119]⟩
def str_5 : ByteArray := ⟨#[97, 100, 100, 32, 114, 49, 32, 53]⟩
def str_6 : ByteArray := ⟨#[109, 111, 100, 119, 32, 114, 49, 32, 114, 50]⟩
def str_7 : ByteArray := ⟨#[115, 100, 105, 118, 32, 114, 49, 32, 45, 51]⟩
def str_8 : ByteArray := ⟨#[115, 120, 51, 50, 32, 114, 49, 32, 114, 50]⟩
def str_9 : ByteArray := ⟨#[115, 120, 56, 119, 32, 114, 49, 32, 114, 50]⟩
def str_10 : ByteArray := ⟨#[98, 115, 119, 97, 112, 54, 52, 32, 114, 49]⟩
def str_11 : ByteArray := ⟨#[108, 101, 49, 54, 32, 114, 49]⟩
def str_12 : ByteArray := ⟨#[98, 101, 51, 50, 32, 114, 49]⟩
def str_13 : ByteArray := ⟨#[106, 97, 108, 32, 49, 48, 48, 48, 48, 48]⟩
def str_14 : ByteArray := ⟨#[106, 115, 101, 116, 32, 114, 49, 32, 55, 32, 50]⟩
def str_15 : ByteArray := ⟨#[106, 115, 108, 101, 119, 32, 114, 49, 32, 114, 50, 32, 45, 50]⟩
def str_16 : ByteArray := ⟨#[108, 100, 120, 115, 119, 32, 114, 49, 32, 114, 50, 32, 45, 52]⟩
def str_17 : ByteArray := ⟨#[108, 100, 120, 100, 119, 32, 114, 49, 32, 114, 50, 32, 52]⟩
def str_18 : ByteArray := ⟨#[115, 116, 98, 32, 114, 49, 32, 45, 49, 32, 50, 53, 53]⟩
def str_19 : ByteArray := ⟨#[115, 116, 120, 104, 32, 114, 49, 32, 50, 32, 114, 51]⟩
def str_20 : ByteArray := ⟨#[108, 100, 100, 119, 32, 114, 49, 32, 45, 57, 50, 50, 51, 51, 55, 50, 48, 51, 54, 56, 53, 52, 55, 55, 53, 56, 48, 56]⟩
def str_21 : ByteArray := ⟨#[108, 100, 109, 97, 112, 32, 114, 49, 32, 51]⟩
def str_22 : ByteArray := ⟨#[115, 108, 111, 116, 32, 50, 53, 53, 32, 114, 49, 53, 32, 114, 49, 53, 32, 45, 51, 50, 55, 54, 56, 32, 45, 50, 49, 52, 55, 52, 56, 51, 54, 52, 56]⟩
def str_23 : ByteArray := ⟨#[124, 48, 124, 45, 48, 124, 48, 49, 124, 43, 49, 124, 114, 48, 124, 114, 49, 53, 124, 114, 49, 54, 124, 114, 45, 49, 124, 114, 48, 49, 124, 82, 49, 124, 45, 51, 50, 55, 54, 56, 124, 45, 51, 50, 55, 54, 57, 124, 51, 50, 55, 54, 55, 124, 51, 50, 55, 54, 56, 124, 50, 49, 52, 55, 52, 56, 51, 54, 52, 55, 124, 50, 49, 52, 55, 52, 56, 51, 54, 52, 56, 124, 45, 50, 49, 52, 55, 52, 56, 51, 54, 52, 56, 124, 45, 50, 49, 52, 55, 52, 56, 51, 54, 52, 57, 124, 57, 50, 50, 51, 51, 55, 50, 48, 51, 54, 56, 53, 52, 55, 55, 53, 56, 48, 55, 124, 57, 50, 50, 51, 51, 55, 50, 48, 51, 54, 56, 53, 52, 55, 55, 53, 56, 48, 56, 124, 49, 56, 52, 52, 54, 55, 52, 52, 48, 55, 51, 55, 48, 57, 53, 53, 49, 54, 49, 53, 124, 57, 57, 57, 57, 57, 57, 57, 57, 57, 57, 57, 57, 57, 57, 57, 57, 57, 57, 57, 57, 124, 97, 100, 100, 124, 120]⟩
noncomputable def tb : TB := ⟨⟨[(2, .int .i64), (3, .int .i64), (5, .int .u8), (9, .string), (20, Tryz.t20.desc), (21, .int .i32), (24, .slice 32), (30, .int .i16), (32, Tryz.t31.desc), (33, .slice 30), (34, .slice 21), (35, .int .i64), (40, .slice 9), (51, .slice 5), (57, Tryz.t56.desc), (61, .slice 113), (85, Tryz.t84.desc), (88, Tryz.t87.desc), (92, Tryz.t91.desc), (94, Tryz.t93.desc), (113, Tryz.t112.desc), (114, .slice 117), (117, Tryz.t116.desc), (120, .int .u64), (121, .int .u32), (147, .slice 85), (152, Tryz.t151.desc)], [(3, false), (4, false), (5, false), (9, false), (21, false), (24, false), (30, false), (32, true), (35, false), (40, false), (48, false), (51, false), (83, false), (85, true), (86, false), (89, false), (90, false), (113, true), (117, true), (147, false)], [(3, 1), (4, 1), (5, 1), (9, 1), (21, 1), (24, 1), (30, 1), (32, 5), (35, 1), (40, 1), (48, 1), (83, 1), (85, 7), (86, 1), (88, 2), (89, 1), (90, 1), (92, 2), (113, 7), (117, 2)]⟩, ⟨[(3, [.v (.int .i64 0)]), (4, [.v (.bool false)]), (5, [.v (.int .u8 0)]), (9, [.v (.string (⟨#[]⟩ : ByteArray))]), (21, [.v (.int .i32 0)]), (24, [.v (.slice none 0 0)]), (30, [.v (.int .i16 0)]), (32, [.v (.int .u8 0), .v (.int .u8 0), .v (.int .u8 0), .v (.int .i16 0), .v (.int .i32 0)]), (35, [.v (.int .i64 0)]), (40, [.v (.slice none 0 0)]), (48, [.v (.pointer none)]), (53, [.v (.pointer none), .v (.slice none 0 0)]), (85, [.v (.string (⟨#[]⟩ : ByteArray)), .v (.string (⟨#[]⟩ : ByteArray)), .v (.int .u8 0), .v (.int .u8 0), .v (.int .u8 0), .v (.int .i16 0), .v (.int .i32 0)]), (88, [.v (.map none), .v .nilFunc]), (92, [.v (.map none), .v .nilFunc]), (94, [.v (.map none), .v .nilFunc, .v (.map none), .v .nilFunc]), (113, [.v (.string (⟨#[]⟩ : ByteArray)), .v (.string (⟨#[]⟩ : ByteArray)), .v (.int .u8 0), .v (.int .u8 0), .v (.int .u8 0), .v (.int .i16 0), .v (.int .i32 0)]), (117, [.v (.string (⟨#[]⟩ : ByteArray)), .v (.int .u8 0)]), (152, [.v (.int .u8 0), .v (.int .u8 0), .v (.int .u8 0), .v (.int .i16 0), .v (.int .i32 0), .v (.int .u8 0), .v (.int .u8 0), .v (.int .u8 0), .v (.int .i16 0), .v (.int .i32 0), .v (.slice none 0 0)])]⟩, ⟨[32], [32], [9, 10, 11, 12, 13, 14, 15, 16, 17, 18, 19, 20, 21, 22, 23, 24, 25, 26, 27, 28, 29, 30, 31, 32, 33, 34, 41, 43, 44, 45, 46, 47, 48, 49, 50, 51, 52, 53, 54, 55, 56, 57, 58, 59, 60, 62, 63, 64, 65, 66, 67, 68, 69, 70, 71, 72, 73, 85, 86, 87, 88, 89, 90, 91, 92, 93, 94, 96, 97, 99, 100, 101, 102, 103, 111, 115, 118]⟩, ⟨[(5, (1, 1, [.v (.int .u8 0)])), (9, (1, 16, [.v (.string (⟨#[]⟩ : ByteArray))])), (32, (5, 12, [.v (.int .u8 0), .v (.int .u8 0), .v (.int .u8 0), .v (.int .i16 0), .v (.int .i32 0)])), (85, (7, 48, [.v (.string (⟨#[]⟩ : ByteArray)), .v (.string (⟨#[]⟩ : ByteArray)), .v (.int .u8 0), .v (.int .u8 0), .v (.int .u8 0), .v (.int .i16 0), .v (.int .i32 0)])), (113, (7, 48, [.v (.string (⟨#[]⟩ : ByteArray)), .v (.string (⟨#[]⟩ : ByteArray)), .v (.int .u8 0), .v (.int .u8 0), .v (.int .u8 0), .v (.int .i16 0), .v (.int .i32 0)]))]⟩, []⟩
theorem tbOk : TBOk Tryz.prog tb :=
 ⟨⟨⟨Tryz.runUnderlying2, Tryz.runUnderlying3, Tryz.runUnderlying5, Tryz.runUnderlying9, Tryz.runUnderlying20, Tryz.runUnderlying21, Tryz.runUnderlying24, Tryz.runUnderlying30, Tryz.runUnderlying32, Tryz.runUnderlying33, Tryz.runUnderlying34, Tryz.runUnderlying35, Tryz.runUnderlying40, Tryz.runUnderlying51, Tryz.runUnderlying57, Tryz.runUnderlying61, Tryz.runUnderlying85, Tryz.runUnderlying88, Tryz.runUnderlying92, Tryz.runUnderlying94, Tryz.runUnderlying113, Tryz.runUnderlying114, Tryz.runUnderlying117, Tryz.runUnderlying120, Tryz.runUnderlying121, Tryz.runUnderlying147, Tryz.runUnderlying152, trivial⟩, ⟨Tryz.isAgg3, Tryz.isAgg4, Tryz.isAgg5, Tryz.isAgg9, Tryz.isAgg21, Tryz.isAgg24, Tryz.isAgg30, Tryz.isAgg32, Tryz.isAgg35, Tryz.isAgg40, Tryz.isAgg48, Tryz.isAgg51, Tryz.isAgg83, Tryz.isAgg85, Tryz.isAgg86, Tryz.isAgg89, Tryz.isAgg90, Tryz.isAgg113, Tryz.isAgg117, Tryz.isAgg147, trivial⟩, ⟨Tryz.sizeOf3, Tryz.sizeOf4, Tryz.sizeOf5, Tryz.sizeOf9, Tryz.sizeOf21, Tryz.sizeOf24, Tryz.sizeOf30, Tryz.sizeOf32, Tryz.sizeOf35, Tryz.sizeOf40, Tryz.sizeOf48, Tryz.sizeOf83, Tryz.sizeOf85, Tryz.sizeOf86, Tryz.sizeOf88, Tryz.sizeOf89, Tryz.sizeOf90, Tryz.sizeOf92, Tryz.sizeOf113, Tryz.sizeOf117, trivial⟩⟩, ⟨⟨⟨_, _, Tryz.zeroValue3, rfl, rfl⟩, ⟨_, _, Tryz.zeroValue4, rfl, rfl⟩, ⟨_, _, Tryz.zeroValue5, rfl, rfl⟩, ⟨_, _, Tryz.zeroValue9, rfl, rfl⟩, ⟨_, _, Tryz.zeroValue21, rfl, rfl⟩, ⟨_, _, Tryz.zeroValue24, rfl, rfl⟩, ⟨_, _, Tryz.zeroValue30, rfl, rfl⟩, ⟨_, _, Tryz.zeroValue32, rfl, rfl⟩, ⟨_, _, Tryz.zeroValue35, rfl, rfl⟩, ⟨_, _, Tryz.zeroValue40, rfl, rfl⟩, ⟨_, _, Tryz.zeroValue48, rfl, rfl⟩, ⟨_, _, Tryz.zeroValue53, rfl, rfl⟩, ⟨_, _, Tryz.zeroValue85, rfl, rfl⟩, ⟨_, _, Tryz.zeroValue88, rfl, rfl⟩, ⟨_, _, Tryz.zeroValue92, rfl, rfl⟩, ⟨_, _, Tryz.zeroValue94, rfl, rfl⟩, ⟨_, _, Tryz.zeroValue113, rfl, rfl⟩, ⟨_, _, Tryz.zeroValue117, rfl, rfl⟩, ⟨_, _, Tryz.zeroValue152, rfl, rfl⟩, trivial⟩⟩, ⟨⟨(by show _ = false; kernel_rfl), trivial⟩, ⟨(by show _ = false; kernel_rfl), trivial⟩, ⟨Tryz.call9, Tryz.call10, Tryz.call11, Tryz.call12, Tryz.call13, Tryz.call14, Tryz.call15, Tryz.call16, Tryz.call17, Tryz.call18, Tryz.call19, Tryz.call20, Tryz.call21, Tryz.call22, Tryz.call23, Tryz.call24, Tryz.call25, Tryz.call26, Tryz.call27, Tryz.call28, Tryz.call29, Tryz.call30, Tryz.call31, Tryz.call32, Tryz.call33, Tryz.call34, Tryz.call41, Tryz.call43, Tryz.call44, Tryz.call45, Tryz.call46, Tryz.call47, Tryz.call48, Tryz.call49, Tryz.call50, Tryz.call51, Tryz.call52, Tryz.call53, Tryz.call54, Tryz.call55, Tryz.call56, Tryz.call57, Tryz.call58, Tryz.call59, Tryz.call60, Tryz.call62, Tryz.call63, Tryz.call64, Tryz.call65, Tryz.call66, Tryz.call67, Tryz.call68, Tryz.call69, Tryz.call70, Tryz.call71, Tryz.call72, Tryz.call73, Tryz.call85, Tryz.call86, Tryz.call87, Tryz.call88, Tryz.call89, Tryz.call90, Tryz.call91, Tryz.call92, Tryz.call93, Tryz.call94, Tryz.call96, Tryz.call97, Tryz.call99, Tryz.call100, Tryz.call101, Tryz.call102, Tryz.call103, Tryz.call111, Tryz.call115, Tryz.call118, trivial⟩⟩, ⟨⟨⟨_, _, _, Tryz.typeInfo5, rfl, rfl, rfl, rfl, rfl, rfl⟩, ⟨_, _, _, Tryz.typeInfo9, rfl, rfl, rfl, rfl, rfl, rfl⟩, ⟨_, _, _, Tryz.typeInfo32, rfl, rfl, rfl, rfl, rfl, rfl⟩, ⟨_, _, _, Tryz.typeInfo85, rfl, rfl, rfl, rfl, rfl, rfl⟩, ⟨_, _, _, Tryz.typeInfo113, rfl, rfl, rfl, rfl, rfl, rfl⟩, trivial⟩⟩⟩
theorem hmix : Tryz.prog.follows .mixedOrders = true := by kernel_rfl
def fn49 (p0 : Int) (p1 : Int) : Int × Int :=
 (p0, p1)
theorem c49 (p0 : Int) (p1 : Int) (r : Int × Int) (h : fn49 p0 p1 = r) : Con Tryz.prog 49 [.v (.int .u8 p0), .v (.int .u8 p1)] [] 0 (.fn (.func 89) [] [.p 0 0, .p 1 0]) [(0, .cells 5 [.v (.int .u8 r.1)]), (1, .cells 5 [.v (.int .u8 r.2)])] 2 := by
 rw [fn49] at h
 refine Con.of_body Tryz.func49 rfl Tryz.ntmps49 rfl fun w F0 ρ gl => ?_
 refine RU tbOk false 999 5 [] aN (by rfl) ?_
 subst h
 exact RT tbOk.t Tryz.results49 [0, 1] (by rfl) (by rfl) (by rfl) rfl rfl
def fn89 {σ : Type} (step : σ → (ByteArray × Int) → Option σ) (go : σ → Bool) (p0 : Int) (p1 : Int) (s0 : σ) : Option σ :=
 Option.bind (step s0 ((⟨#[]⟩ : ByteArray), p0)) fun u1 => (bif go u1 then (Option.bind (step u1 ((⟨#[119]⟩ : ByteArray), p1)) fun u4 => (some (u4))) else (some (u1)))
theorem c89 {σ : Type} (step : σ → (ByteArray × Int) → Option σ) (go : σ → Bool) (p0 : Int) (p1 : Int) (s0 : σ) (r : σ) (h : fn89 step go p0 p1 s0 = some r) (yv : Value) (J : σ → Blocks → Prop) : ConY Tryz.prog 89 [.v yv, .p 0 0, .p 1 0] [(0, .cells 5 [.v (.int .u8 p0)]), (1, .cells 5 [.v (.int .u8 p1)]), (2, .bx (J s0))] 3 (.tu []) [(0, .cells 5 [.v (.int .u8 p0)]), (1, .cells 5 [.v (.int .u8 p1)]), (2, .bx (J r))] 3 (fun w R ρ => YldY Tryz.prog w R ρ 0 yv J (Yn.two Vn.str (Vn.int .u8)) step go) := by
 rw [fn89] at h
 refine ConY.of_body Tryz.func89 rfl Tryz.ntmps89 rfl fun w F0 ρ gl hy => ?_
 obtain ⟨u1, hu2, h⟩ := bd h
 refine RU tbOk false 999 3 [.yd 2 ((⟨#[]⟩ : ByteArray), p0) hy rfl hu2] (aR (aR (aR aN))) (by rfl) ?_
 refine RU tbOk false 999 0 [] aN (by rfl) ?_
 refine CDS h (fun h hb3 => ?_) (fun h hb3 => ?_)
 ·obtain ⟨u4, hu5, h⟩ := bd h
  refine RU (tbOk.lit [(6, 7, true)]) false 999 4 [.yd 2 ((⟨#[119]⟩ : ByteArray), p1) hy rfl hu5] (aC hb3 (aR (aR (aR aN)))) (by rfl) ?_
  refine RU tbOk false 999 1 [] aN (by rfl) ?_
  refine RU tbOk false 999 0 [] aN (by rfl) ?_
  have hr := Option.some.inj h
  subst hr
  exact RTN tbOk.t Tryz.results89 [0, 1, 2] (by rfl) (by rfl) (by rfl) rfl rfl
 ·refine RU (tbOk.lit [(6, 7, false)]) false 999 4 [] (aC hb3 aN) (by rfl) ?_
  refine RU tbOk false 999 1 [] aN (by rfl) ?_
  refine RU tbOk false 999 0 [] aN (by rfl) ?_
  have hr := Option.some.inj h
  subst hr
  exact RTN tbOk.t Tryz.results89 [0, 1, 2] (by rfl) (by rfl) (by rfl) rfl rfl
def fn51 (p0 : ByteArray) (p1 : List Int) : ByteArray :=
 p0
theorem c51 (p0 : ByteArray) (p1 : List Int) (r : ByteArray) (h : fn51 p0 p1 = r) : Con Tryz.prog 51 [.v (.string p0), .sl 0] [(0, .rd (Et.int .u8) p1)] 1 (.fn (.func 91) [] [.p 1 0, .p 2 0]) [(1, .cells 9 [.v (.string r)]), (2, .cells 51 [.sl 0])] 3 := by
 rw [fn51] at h
 refine Con.of_body Tryz.func51 rfl Tryz.ntmps51 rfl fun w F0 ρ gl => ?_
 refine RU tbOk false 999 5 [] aN (by rfl) ?_
 subst h
 exact RT tbOk.t Tryz.results51 [0, 1, 2] (by rfl) (by rfl) (by rfl) rfl rfl
def fn90 : ByteArray × (List Int) :=
 ((fn51 str_1 ([0, 16, 32, 48, 64, 80, 96, 112, 144, 160, 176, 192] : List Int)), ([0, 16, 32, 48, 64, 80, 96, 112, 144, 160, 176, 192] : List Int))
theorem c90 (r : ByteArray × (List Int)) (h : fn90 = r) : Con Tryz.prog 90 [] [] 0 (.fn (.func 91) [] [.p 0 0, .p 1 0]) [(0, .cells 9 [.v (.string r.1)]), (1, .cells 51 [.sl 2]), (2, .row (Et.int .u8) 5 r.2 r.2.length .unk)] 3 := by
 rw [fn90] at h
 refine Con.of_body Tryz.func90 rfl Tryz.ntmps90 rfl fun w F0 ρ gl => ?_
 refine RU tbOk false 999 3 [.bs (Et.int .u8) ([0, 16, 32, 48, 64, 80, 96, 112, 144, 160, 176, 192] : List Int), .cl true [0] (fun _ => c51 str_1 ([0, 16, 32, 48, 64, 80, 96, 112, 144, 160, 176, 192] : List Int) _ rfl)] (aR (aR (aK aN))) (by rfl) ?_
 refine RU tbOk false 999 1 [] aN (by rfl) ?_
 subst h
 refine G4.imp (Imp.row 0 (by rfl)) ?_
 exact RT tbOk.t Tryz.results90 [1, 2, 0] (by rfl) (by rfl) (by rfl) rfl rfl
def fn91_b1 {σ : Type} (step : σ → (ByteArray × Int) → Option σ) (go : σ → Bool) (p1 : List Int) (v1 : List ByteArray) (rl1 : σ → Int → Option ((σ) ⊕ (σ))) (xs9 : σ) (x10 : Int) : Option ((σ) ⊕ (σ)) :=
 bif decide (x10 < (v1.length : Int)) then (bif inb x10 v1.length then (bif inb x10 p1.length then (Option.bind (step xs9 (gt v1 x10, gt p1 x10)) fun u27 => (bif !(go u27) then (some (.inr (u27))) else (rl1 u27 (IntKind.i64.wrap (x10 + 1))))) else none) else none) else (some (.inl xs9))
def fn91_l1 {σ : Type} (step : σ → (ByteArray × Int) → Option σ) (go : σ → Bool) (p1 : List Int) (v1 : List ByteArray) : Nat → σ → Int → Option ((σ) ⊕ (σ))
 | 0, _, _ => none
 | n20 + 1, xs9, x10 => fn91_b1 step go p1 v1 (fn91_l1 step go p1 v1 n20) xs9 x10
theorem fn91_l1_s {σ : Type} (step : σ → (ByteArray × Int) → Option σ) (go : σ → Bool) (p1 : List Int) (v1 : List ByteArray) (n20 : Nat) (xs9 : σ) (x10 : Int) : fn91_l1 step go p1 v1 (n20 + 1) xs9 x10 = fn91_b1 step go p1 v1 (fn91_l1 step go p1 v1 n20) xs9 x10 := rfl
def fn91_k1 {σ : Type} (xs17 : σ) : Option (σ) :=
 some (xs17)
def fn91 {σ : Type} (F : Nat) (step : σ → (ByteArray × Int) → Option σ) (go : σ → Bool) (p0 : ByteArray) (p1 : List Int) (s0 : σ) : Option σ :=
 Option.bind (fn92 p0) fun v1 => (Option.bind (fn91_l1 step go p1 v1 F s0 0) fun o18 => (match o18 with | .inl u => fn91_k1 u | .inr u => some u))
theorem c91 {σ : Type} (F : Nat) (step : σ → (ByteArray × Int) → Option σ) (go : σ → Bool) (p0 : ByteArray) (p1 : List Int) (s0 : σ) (r : σ) (h : fn91 F step go p0 p1 s0 = some r) (yv : Value) (J : σ → Blocks → Prop) : ConY Tryz.prog 91 [.v yv, .p 0 0, .p 1 0] [(0, .cells 9 [.v (.string p0)]), (1, .cells 51 [.sl 2]), (2, .row (Et.int .u8) 5 p1 p1.length .unk), (3, .bx (J s0))] 4 (.tu []) [(0, .cells 9 [.v (.string p0)]), (1, .cells 51 [.sl 2]), (2, .row (Et.int .u8) 5 p1 p1.length .unk), (3, .bx (J r))] 4 (fun w R ρ => YldY Tryz.prog w R ρ 0 yv J (Yn.two Vn.str (Vn.int .u8)) step go) := by
 rw [fn91] at h
 refine ConY.of_body Tryz.func91 rfl Tryz.ntmps91 rfl fun w F0 ρ gl hy => ?_
 obtain ⟨v1, hv2, h⟩ := bd h
 refine RU tbOk false 999 2 [.cl true [] (fun _ => c92 p0 _ hv2)] (aK aN) (by rfl) ?_
 refine RU tbOk false 999 2 [] aN (by rfl) ?_
 obtain ⟨o18, hl19, h⟩ := bd h
 refine CTS 0 (fun u30 => ⟨[], [(0, .cells 9 [.v (.string p0)]), (1, .cells 51 [.sl 2]), (2, .row (Et.int .u8) 5 p1 p1.length .unk), (3, .bx (J u30))], 4⟩) o18 ?_ (fun u30 hu30 => ?_)
 ·have h022 := h
  clear h
  refine G4.imp (Imp.to [0, 1, 2, 3, 4] (by rfl) (by rfl) rfl rfl) (LP (fun (n : Nat) (s : σ × Int) => fn91_l1 step go p1 v1 n s.1 s.2) (fun (s : σ × Int) => ⟨[(0, .v yv), (2, .p 1 0), (7, .sl 4), (8, .v (.int .i64 (v1.length : Int))), (9, .v (.int .i64 s.2))], [(0, .cells 9 [.v (.string p0)]), (1, .cells 51 [.sl 2]), (2, .row (Et.int .u8) 5 p1 p1.length .unk), (3, .bx (J s.1)), (4, .row Et.str 9 v1 v1.length .unk)], 5⟩) (fun _ => rfl) (s0 := (s0, 0)) hl19 ?_)
  clear hl19
  rintro R23 n20 ⟨xs9, x10⟩ h ih21
  replace h := (fn91_l1_s step go p1 v1 n20 xs9 x10).symm.trans h
  rw [fn91_b1] at h
  refine RU tbOk false 999 1 [] aN (by rfl) ?_
  refine CD h (by rfl) (fun h hb24 => ?_) (fun h hb24 => ?_)
  ·obtain ⟨hk25, h⟩ := ck h
   obtain ⟨hk26, h⟩ := ck h
   obtain ⟨u27, hu28, h⟩ := bd h
   refine RU tbOk false 999 12 [.yd 3 (gt v1 x10, gt p1 x10) hy rfl hu28] (aC hk25 (aC hk26 (aR (aR (aR aN))))) (by rfl) ?_
   refine RU tbOk false 999 1 [] aN (by rfl) ?_
   refine CD h (by rfl) (fun h hb29 => ?_) (fun h hb29 => ?_)
   ·refine RU tbOk false 999 0 [] aN (by rfl) ?_
    have ho := Option.some.inj h
    subst ho
    replace h := h022
    refine RU tbOk false 999 0 [] aN (by rfl) ?_
    have hr := Option.some.inj h
    subst hr
    exact RT tbOk.t Tryz.results91 [0, 1, 2, 3] (by rfl) (by rfl) (by rfl) rfl rfl
   ·refine RU tbOk false 999 2 [] aN (by rfl) ?_
    exact ih21 (u27, IntKind.i64.wrap (x10 + 1)) h _ _ (Imp.to [0, 1, 2, 3, 4] (by rfl) (by rfl) rfl rfl)
  ·refine RU tbOk false 999 0 [] aN (by rfl) ?_
   have ho := Option.some.inj h
   subst ho
   exact CES _ rfl (Imp.to [0, 1, 2, 3] (by rfl) (by rfl) rfl rfl)
 ·subst hu30
  change fn91_k1 u30 = _ at h
  rw [fn91_k1] at h
  refine RU tbOk false 999 0 [] aN (by rfl) ?_
  have hr := Option.some.inj h
  subst hr
  exact RTN tbOk.t Tryz.results91 [0, 1, 2, 3] (by rfl) (by rfl) (by rfl) rfl rfl
def fn47 (p0 : Form) : ByteArray :=
 p0.fname
theorem c47 (p0 : Form) (r : ByteArray) (h : fn47 p0 = r) : Con Tryz.prog 47 [.ag [.v (.string p0.fname), .v (.string p0.fwords), .v (.int .u8 p0.fslot.fOp), .v (.int .u8 p0.fslot.fDst), .v (.int .u8 p0.fslot.fSrc), .v (.int .i16 p0.fslot.fOff), .v (.int .i32 p0.fslot.fImm)]] [] 0 (.v (.string r)) [] 0 := by
 rw [fn47] at h
 refine Con.of_body Tryz.func47 rfl Tryz.ntmps47 rfl fun w F0 ρ gl => ?_
 refine RU tbOk false 999 5 [] aN (by rfl) ?_
 subst h
 exact RT tbOk.t Tryz.results47 [] (by rfl) (by rfl) (by rfl) rfl rfl
def fn93_b1 (p1 : List Form) (rl1 : (List (ByteArray × List Form)) → Int → Option ((List (ByteArray × List Form)))) (xs4 : List (ByteArray × List Form)) (x5 : Int) : Option ((List (ByteArray × List Form))) :=
 bif decide (x5 < (p1.length : Int)) then (bif inb x5 p1.length then (bif decide (((mget xs4 (fn47 (⟨(gt p1 x5).fname, (gt p1 x5).fwords, ((gt p1 x5).fslot)⟩ : Form)) ([] : List Form)).length + ([(⟨(gt p1 x5).fname, (gt p1 x5).fwords, ((gt p1 x5).fslot)⟩ : Form)] : List Form).length) * 48 ≤ 140737488355328 ∧ (mget xs4 (fn47 (⟨(gt p1 x5).fname, (gt p1 x5).fwords, ((gt p1 x5).fslot)⟩ : Form)) ([] : List Form)).length + ([(⟨(gt p1 x5).fname, (gt p1 x5).fwords, ((gt p1 x5).fslot)⟩ : Form)] : List Form).length ≤ 9223372036854775807) then (rl1 (mput xs4 (fn47 (⟨(gt p1 x5).fname, (gt p1 x5).fwords, ((gt p1 x5).fslot)⟩ : Form)) ((mget xs4 (fn47 (⟨(gt p1 x5).fname, (gt p1 x5).fwords, ((gt p1 x5).fslot)⟩ : Form)) ([] : List Form)) ++ ([(⟨(gt p1 x5).fname, (gt p1 x5).fwords, ((gt p1 x5).fslot)⟩ : Form)] : List Form))) (IntKind.i64.wrap (x5 + 1))) else none) else none) else (some xs4)
def fn93_l1 (p1 : List Form) : Nat → (List (ByteArray × List Form)) → Int → Option ((List (ByteArray × List Form)))
 | 0, _, _ => none
 | n12 + 1, xs4, x5 => fn93_b1 p1 (fn93_l1 p1 n12) xs4 x5
theorem fn93_l1_s (p1 : List Form) (n12 : Nat) (xs4 : List (ByteArray × List Form)) (x5 : Int) : fn93_l1 p1 (n12 + 1) xs4 x5 = fn93_b1 p1 (fn93_l1 p1 n12) xs4 x5 := rfl
def fn93_k1 (xs9 : List (ByteArray × List Form)) : Option (((List (ByteArray × List Form)))) :=
 some (xs9)
def fn93 (F : Nat) (p0_0 : List (ByteArray × List Form)) (p0_2 : List (Int × List Form)) (p1 : List Form) : Option ((List (ByteArray × List Form))) :=
 Option.bind (fn93_l1 p1 F p0_0 0) fun o10 => (fn93_k1 o10)
theorem c93 (F : Nat) (p0_0 : List (ByteArray × List Form)) (p0_2 : List (Int × List Form)) (p1 : List Form) (r : (List (ByteArray × List Form))) (h : fn93 F p0_0 p0_2 p1 = some r) : Con Tryz.prog 93 [.p 0 0, .sl 3] [(0, .cells 94 [.mp 1, .fn (.func 47) [] [], .mp 2, .fn (.func 48) [] []]), (1, .ex (pMR Kn.str Form.E 85 p0_0) []), (2, .ex (pMR (Kn.int .u8) Form.E 85 p0_2) []), (3, .rd Form.E p1)] 4 (.tu []) [(0, .cells 94 [.mp 1, .fn (.func 47) [] [], .mp 2, .fn (.func 48) [] []]), (1, .ex (pMR Kn.str Form.E 85 r) []), (2, .ex (pMR (Kn.int .u8) Form.E 85 p0_2) [])] 4 := by
 rw [fn93] at h
 refine Con.of_body Tryz.func93 rfl Tryz.ntmps93 rfl fun w F0 ρ gl => ?_
 refine RU tbOk false 999 3 [] aN (by rfl) ?_
 obtain ⟨o10, hl11, h⟩ := bd h
 refine CT 0 ⟨[], [(0, .cells 94 [.mp 1, .fn (.func 47) [] [], .mp 2, .fn (.func 48) [] []]), (1, .ex (pMR Kn.str Form.E 85 o10) []), (2, .ex (pMR (Kn.int .u8) Form.E 85 p0_2) []), (3, .rd Form.E p1)], 4⟩ ?_ ?_
 ·have h014 := h
  clear h
  refine G4.imp (Imp.to [0, 1, 2, 3] (by rfl) (by rfl) rfl rfl) (LP (fun (n : Nat) (s : (List (ByteArray × List Form)) × Int) => fn93_l1 p1 n s.1 s.2) (fun (s : (List (ByteArray × List Form)) × Int) => ⟨[(0, .p 0 0), (6, .sl 3), (7, .v (.int .i64 (p1.length : Int))), (8, .v (.int .i64 s.2))], [(0, .cells 94 [.mp 1, .fn (.func 47) [] [], .mp 2, .fn (.func 48) [] []]), (1, .ex (pMR Kn.str Form.E 85 s.1) []), (2, .ex (pMR (Kn.int .u8) Form.E 85 p0_2) []), (3, .rd Form.E p1)], 4⟩) (fun _ => rfl) (s0 := (p0_0, 0)) hl11 ?_)
  clear hl11
  rintro R15 n12 ⟨xs4, x5⟩ h ih13
  replace h := (fn93_l1_s p1 n12 xs4 x5).symm.trans h
  rw [fn93_b1] at h
  refine RU tbOk false 999 1 [] aN (by rfl) ?_
  refine CD h (by rfl) (fun h hb16 => ?_) (fun h hb16 => ?_)
  ·obtain ⟨hk17, h⟩ := ck h
   refine RU tbOk false 999 4 [] (aC hk17 aN) (by rfl) ?_
   obtain ⟨hk18, h⟩ := ck h
   refine DR tbOk hmix [] [([], []), ([], []), ([], []), ([0], []), ([], []), ([], []), ([], []), ([0], []), ([4], []), ([], []), ([], []), ([], []), ([], []), ([0], []), ([], []), ([], []), ([], []), ([0], []), ([4], []), ([], []), ([1], [1]), ([4], []), ([], []), ([5, 6], []), ([1, 7], [1])] [.cl true [] (fun _ => c47 (⟨(gt p1 x5).fname, (gt p1 x5).fwords, ((gt p1 x5).fslot)⟩ : Form) _ rfl), .cl true [] (fun _ => c47 (⟨(gt p1 x5).fname, (gt p1 x5).fwords, ((gt p1 x5).fslot)⟩ : Form) _ rfl), .lr Kn.str Form.E 85 _ (fn47 (⟨(gt p1 x5).fname, (gt p1 x5).fwords, ((gt p1 x5).fslot)⟩ : Form)) Tryz.runUnderlying83 Tryz.runUnderlying9 Tryz.zeroValue147, .bs Form.E ([(⟨(gt p1 x5).fname, (gt p1 x5).fwords, ((gt p1 x5).fslot)⟩ : Form)] : List Form), .ap Form.E .unk _ _, .ur Kn.str Form.E 85 _ (fn47 (⟨(gt p1 x5).fname, (gt p1 x5).fwords, ((gt p1 x5).fslot)⟩ : Form)) ((mget xs4 (fn47 (⟨(gt p1 x5).fname, (gt p1 x5).fwords, ((gt p1 x5).fslot)⟩ : Form)) ([] : List Form)) ++ ([(⟨(gt p1 x5).fname, (gt p1 x5).fwords, ((gt p1 x5).fslot)⟩ : Form)] : List Form)) Tryz.runUnderlying83 Tryz.runUnderlying9] (aR (aR (aR (aK (aR (aR (aR (aK (aR (aR (aR (aR (aR (aR (aR (aR (aR (aC hk18 (aC rfl (aR (aR (aR (aR aN))))))))))))))))))))))) (by rfl) ?_
   refine RU tbOk false 999 2 [] aN (by rfl) ?_
   exact ih13 (mput xs4 (fn47 (⟨(gt p1 x5).fname, (gt p1 x5).fwords, ((gt p1 x5).fslot)⟩ : Form)) ((mget xs4 (fn47 (⟨(gt p1 x5).fname, (gt p1 x5).fwords, ((gt p1 x5).fslot)⟩ : Form)) ([] : List Form)) ++ ([(⟨(gt p1 x5).fname, (gt p1 x5).fwords, ((gt p1 x5).fslot)⟩ : Form)] : List Form)), IntKind.i64.wrap (x5 + 1)) h _ _ (Imp.to [0, 1, 2, 3] (by rfl) (by rfl) rfl rfl)
  ·refine RU tbOk false 999 0 [] aN (by rfl) ?_
   have ho := Option.some.inj h
   subst ho
   exact CE (Imp.to [0, 1, 2, 3] (by rfl) (by rfl) rfl rfl)
 ·change fn93_k1 o10 = _ at h
  rw [fn93_k1] at h
  refine RU tbOk false 999 0 [] aN (by rfl) ?_
  have hr := Option.some.inj h
  subst hr
  exact RTN tbOk.t Tryz.results93 [0, 1, 2, 3] (by rfl) (by rfl) (by rfl) rfl rfl
def fn48 (p0 : Form) : Int :=
 p0.fslot.fOp
theorem c48 (p0 : Form) (r : Int) (h : fn48 p0 = r) : Con Tryz.prog 48 [.ag [.v (.string p0.fname), .v (.string p0.fwords), .v (.int .u8 p0.fslot.fOp), .v (.int .u8 p0.fslot.fDst), .v (.int .u8 p0.fslot.fSrc), .v (.int .i16 p0.fslot.fOff), .v (.int .i32 p0.fslot.fImm)]] [] 0 (.v (.int .u8 r)) [] 0 := by
 rw [fn48] at h
 refine Con.of_body Tryz.func48 rfl Tryz.ntmps48 rfl fun w F0 ρ gl => ?_
 refine RU tbOk false 999 6 [] aN (by rfl) ?_
 subst h
 exact RT tbOk.t Tryz.results48 [] (by rfl) (by rfl) (by rfl) rfl rfl
def fn94_b1 (p1 : List Form) (rl1 : (List (Int × List Form)) → Int → Option ((List (Int × List Form)))) (xs4 : List (Int × List Form)) (x5 : Int) : Option ((List (Int × List Form))) :=
 bif decide (x5 < (p1.length : Int)) then (bif inb x5 p1.length then (bif decide (((mget xs4 (fn48 (⟨(gt p1 x5).fname, (gt p1 x5).fwords, ((gt p1 x5).fslot)⟩ : Form)) ([] : List Form)).length + ([(⟨(gt p1 x5).fname, (gt p1 x5).fwords, ((gt p1 x5).fslot)⟩ : Form)] : List Form).length) * 48 ≤ 140737488355328 ∧ (mget xs4 (fn48 (⟨(gt p1 x5).fname, (gt p1 x5).fwords, ((gt p1 x5).fslot)⟩ : Form)) ([] : List Form)).length + ([(⟨(gt p1 x5).fname, (gt p1 x5).fwords, ((gt p1 x5).fslot)⟩ : Form)] : List Form).length ≤ 9223372036854775807) then (rl1 (mput xs4 (fn48 (⟨(gt p1 x5).fname, (gt p1 x5).fwords, ((gt p1 x5).fslot)⟩ : Form)) ((mget xs4 (fn48 (⟨(gt p1 x5).fname, (gt p1 x5).fwords, ((gt p1 x5).fslot)⟩ : Form)) ([] : List Form)) ++ ([(⟨(gt p1 x5).fname, (gt p1 x5).fwords, ((gt p1 x5).fslot)⟩ : Form)] : List Form))) (IntKind.i64.wrap (x5 + 1))) else none) else none) else (some xs4)
def fn94_l1 (p1 : List Form) : Nat → (List (Int × List Form)) → Int → Option ((List (Int × List Form)))
 | 0, _, _ => none
 | n12 + 1, xs4, x5 => fn94_b1 p1 (fn94_l1 p1 n12) xs4 x5
theorem fn94_l1_s (p1 : List Form) (n12 : Nat) (xs4 : List (Int × List Form)) (x5 : Int) : fn94_l1 p1 (n12 + 1) xs4 x5 = fn94_b1 p1 (fn94_l1 p1 n12) xs4 x5 := rfl
def fn94_k1 (xs9 : List (Int × List Form)) : Option (((List (Int × List Form)))) :=
 some (xs9)
def fn94 (F : Nat) (p0_0 : List (ByteArray × List Form)) (p0_2 : List (Int × List Form)) (p1 : List Form) : Option ((List (Int × List Form))) :=
 Option.bind (fn94_l1 p1 F p0_2 0) fun o10 => (fn94_k1 o10)
theorem c94 (F : Nat) (p0_0 : List (ByteArray × List Form)) (p0_2 : List (Int × List Form)) (p1 : List Form) (r : (List (Int × List Form))) (h : fn94 F p0_0 p0_2 p1 = some r) : Con Tryz.prog 94 [.p 0 2, .sl 3] [(0, .cells 94 [.mp 1, .fn (.func 47) [] [], .mp 2, .fn (.func 48) [] []]), (1, .ex (pMR Kn.str Form.E 85 p0_0) []), (2, .ex (pMR (Kn.int .u8) Form.E 85 p0_2) []), (3, .rd Form.E p1)] 4 (.tu []) [(0, .cells 94 [.mp 1, .fn (.func 47) [] [], .mp 2, .fn (.func 48) [] []]), (1, .ex (pMR Kn.str Form.E 85 p0_0) []), (2, .ex (pMR (Kn.int .u8) Form.E 85 r) [])] 4 := by
 rw [fn94] at h
 refine Con.of_body Tryz.func94 rfl Tryz.ntmps94 rfl fun w F0 ρ gl => ?_
 refine RU tbOk false 999 3 [] aN (by rfl) ?_
 obtain ⟨o10, hl11, h⟩ := bd h
 refine CT 0 ⟨[], [(0, .cells 94 [.mp 1, .fn (.func 47) [] [], .mp 2, .fn (.func 48) [] []]), (1, .ex (pMR Kn.str Form.E 85 p0_0) []), (2, .ex (pMR (Kn.int .u8) Form.E 85 o10) []), (3, .rd Form.E p1)], 4⟩ ?_ ?_
 ·have h014 := h
  clear h
  refine G4.imp (Imp.to [0, 1, 2, 3] (by rfl) (by rfl) rfl rfl) (LP (fun (n : Nat) (s : (List (Int × List Form)) × Int) => fn94_l1 p1 n s.1 s.2) (fun (s : (List (Int × List Form)) × Int) => ⟨[(0, .p 0 2), (6, .sl 3), (7, .v (.int .i64 (p1.length : Int))), (8, .v (.int .i64 s.2))], [(0, .cells 94 [.mp 1, .fn (.func 47) [] [], .mp 2, .fn (.func 48) [] []]), (1, .ex (pMR Kn.str Form.E 85 p0_0) []), (2, .ex (pMR (Kn.int .u8) Form.E 85 s.1) []), (3, .rd Form.E p1)], 4⟩) (fun _ => rfl) (s0 := (p0_2, 0)) hl11 ?_)
  clear hl11
  rintro R15 n12 ⟨xs4, x5⟩ h ih13
  replace h := (fn94_l1_s p1 n12 xs4 x5).symm.trans h
  rw [fn94_b1] at h
  refine RU tbOk false 999 1 [] aN (by rfl) ?_
  refine CD h (by rfl) (fun h hb16 => ?_) (fun h hb16 => ?_)
  ·obtain ⟨hk17, h⟩ := ck h
   refine RU tbOk false 999 4 [] (aC hk17 aN) (by rfl) ?_
   obtain ⟨hk18, h⟩ := ck h
   refine DR tbOk hmix [] [([], []), ([], []), ([], []), ([0], []), ([], []), ([], []), ([], []), ([0], []), ([4], []), ([], []), ([], []), ([], []), ([], []), ([0], []), ([], []), ([], []), ([], []), ([0], []), ([4], []), ([], []), ([2], [2]), ([4], []), ([], []), ([5, 6], []), ([2, 7], [2])] [.cl true [] (fun _ => c48 (⟨(gt p1 x5).fname, (gt p1 x5).fwords, ((gt p1 x5).fslot)⟩ : Form) _ rfl), .cl true [] (fun _ => c48 (⟨(gt p1 x5).fname, (gt p1 x5).fwords, ((gt p1 x5).fslot)⟩ : Form) _ rfl), .lr (Kn.int .u8) Form.E 85 _ (fn48 (⟨(gt p1 x5).fname, (gt p1 x5).fwords, ((gt p1 x5).fslot)⟩ : Form)) Tryz.runUnderlying89 Tryz.runUnderlying5 Tryz.zeroValue147, .bs Form.E ([(⟨(gt p1 x5).fname, (gt p1 x5).fwords, ((gt p1 x5).fslot)⟩ : Form)] : List Form), .ap Form.E .unk _ _, .ur (Kn.int .u8) Form.E 85 _ (fn48 (⟨(gt p1 x5).fname, (gt p1 x5).fwords, ((gt p1 x5).fslot)⟩ : Form)) ((mget xs4 (fn48 (⟨(gt p1 x5).fname, (gt p1 x5).fwords, ((gt p1 x5).fslot)⟩ : Form)) ([] : List Form)) ++ ([(⟨(gt p1 x5).fname, (gt p1 x5).fwords, ((gt p1 x5).fslot)⟩ : Form)] : List Form)) Tryz.runUnderlying89 Tryz.runUnderlying5] (aR (aR (aR (aK (aR (aR (aR (aK (aR (aR (aR (aR (aR (aR (aR (aR (aR (aC hk18 (aC rfl (aR (aR (aR (aR aN))))))))))))))))))))))) (by rfl) ?_
   refine RU tbOk false 999 2 [] aN (by rfl) ?_
   exact ih13 (mput xs4 (fn48 (⟨(gt p1 x5).fname, (gt p1 x5).fwords, ((gt p1 x5).fslot)⟩ : Form)) ((mget xs4 (fn48 (⟨(gt p1 x5).fname, (gt p1 x5).fwords, ((gt p1 x5).fslot)⟩ : Form)) ([] : List Form)) ++ ([(⟨(gt p1 x5).fname, (gt p1 x5).fwords, ((gt p1 x5).fslot)⟩ : Form)] : List Form)), IntKind.i64.wrap (x5 + 1)) h _ _ (Imp.to [0, 1, 2, 3] (by rfl) (by rfl) rfl rfl)
  ·refine RU tbOk false 999 0 [] aN (by rfl) ?_
   have ho := Option.some.inj h
   subst ho
   exact CE (Imp.to [0, 1, 2, 3] (by rfl) (by rfl) rfl rfl)
 ·change fn94_k1 o10 = _ at h
  rw [fn94_k1] at h
  refine RU tbOk false 999 0 [] aN (by rfl) ?_
  have hr := Option.some.inj h
  subst hr
  exact RTN tbOk.t Tryz.results94 [0, 1, 2, 3] (by rfl) (by rfl) (by rfl) rfl rfl
def fn52 (F : Nat) (p0_0 : List (ByteArray × List Form)) (p0_2 : List (Int × List Form)) (p1 : List Form) : Option ((List (ByteArray × List Form)) × (List (Int × List Form))) :=
 Option.bind (fn93 F p0_0 p0_2 p1) fun v1 => (Option.bind (fn94 F v1 p0_2 p1) fun v3 => (some ((v1, v3))))
theorem c52 (F : Nat) (p0_0 : List (ByteArray × List Form)) (p0_2 : List (Int × List Form)) (p1 : List Form) (r : (List (ByteArray × List Form)) × (List (Int × List Form))) (h : fn52 F p0_0 p0_2 p1 = some r) : Con Tryz.prog 52 [.p 0 0, .sl 3] [(0, .cells 94 [.mp 1, .fn (.func 47) [] [], .mp 2, .fn (.func 48) [] []]), (1, .ex (pMR Kn.str Form.E 85 p0_0) []), (2, .ex (pMR (Kn.int .u8) Form.E 85 p0_2) []), (3, .rd Form.E p1)] 4 (.tu []) [(0, .cells 94 [.mp 1, .fn (.func 47) [] [], .mp 2, .fn (.func 48) [] []]), (1, .ex (pMR Kn.str Form.E 85 r.1) []), (2, .ex (pMR (Kn.int .u8) Form.E 85 r.2) [])] 4 := by
 rw [fn52] at h
 refine Con.of_body Tryz.func52 rfl Tryz.ntmps52 rfl fun w F0 ρ gl => ?_
 obtain ⟨v1, hv2, h⟩ := bd h
 refine RU tbOk false 999 5 [.cl true [0, 1, 2, 3] (fun _ => c93 F p0_0 p0_2 p1 _ hv2)] (aK aN) (by rfl) ?_
 obtain ⟨v3, hv4, h⟩ := bd h
 refine RU tbOk false 999 5 [.cl true [0, 1, 2, 3] (fun _ => c94 F v1 p0_2 p1 _ hv4)] (aK aN) (by rfl) ?_
 refine RU tbOk false 999 0 [] aN (by rfl) ?_
 have hr := Option.some.inj h
 subst hr
 exact RTN tbOk.t Tryz.results52 [0, 1, 2, 3] (by rfl) (by rfl) (by rfl) rfl rfl
def fn55 (F : Nat) (p0_0 : List (ByteArray × List Form)) (p0_2 : List (Int × List Form)) (p1 : ByteArray) (p2 : ByteArray) (p3 : Int) (p4 : Int) : Option ((List (ByteArray × List Form)) × (List (Int × List Form))) :=
 bif decide ((⟨#[68, 73]⟩ : ByteArray).size + p2.size ≤ 9223372036854775807) then (bif decide ((⟨#[68, 83]⟩ : ByteArray).size + p2.size ≤ 9223372036854775807) then (Option.bind (fn52 F p0_0 p0_2 ([(⟨p1, (⟨#[68, 73]⟩ : ByteArray) ++ p2, (⟨p3, 0, 0, p4, 0⟩ : Instr)⟩ : Form), (⟨p1, (⟨#[68, 83]⟩ : ByteArray) ++ p2, (⟨ior .u8 p3 8, 0, 0, p4, 0⟩ : Instr)⟩ : Form)] : List Form)) fun v3 => (some ((v3.1, v3.2)))) else none) else none
theorem c55 (F : Nat) (p0_0 : List (ByteArray × List Form)) (p0_2 : List (Int × List Form)) (p1 : ByteArray) (p2 : ByteArray) (p3 : Int) (p4 : Int) (r : (List (ByteArray × List Form)) × (List (Int × List Form))) (h : fn55 F p0_0 p0_2 p1 p2 p3 p4 = some r) : Con Tryz.prog 55 [.p 0 0, .v (.string p1), .v (.string p2), .v (.int .u8 p3), .v (.int .i16 p4)] [(0, .cells 94 [.mp 1, .fn (.func 47) [] [], .mp 2, .fn (.func 48) [] []]), (1, .ex (pMR Kn.str Form.E 85 p0_0) []), (2, .ex (pMR (Kn.int .u8) Form.E 85 p0_2) [])] 3 (.tu []) [(0, .cells 94 [.mp 1, .fn (.func 47) [] [], .mp 2, .fn (.func 48) [] []]), (1, .ex (pMR Kn.str Form.E 85 r.1) []), (2, .ex (pMR (Kn.int .u8) Form.E 85 r.2) [])] 3 := by
 rw [fn55] at h
 refine Con.of_body Tryz.func55 rfl Tryz.ntmps55 rfl fun w F0 ρ gl => ?_
 obtain ⟨hk1, h⟩ := ck h
 obtain ⟨hk2, h⟩ := ck h
 obtain ⟨v3, hv4, h⟩ := bd h
 refine RU tbOk false 999 18 [.st, .st, .bs Form.E ([(⟨p1, (⟨#[68, 73]⟩ : ByteArray) ++ p2, (⟨p3, 0, 0, p4, 0⟩ : Instr)⟩ : Form), (⟨p1, (⟨#[68, 83]⟩ : ByteArray) ++ p2, (⟨ior .u8 p3 8, 0, 0, p4, 0⟩ : Instr)⟩ : Form)] : List Form), .cl true [0, 1, 2, 3] (fun _ => c52 F p0_0 p0_2 ([(⟨p1, (⟨#[68, 73]⟩ : ByteArray) ++ p2, (⟨p3, 0, 0, p4, 0⟩ : Instr)⟩ : Form), (⟨p1, (⟨#[68, 83]⟩ : ByteArray) ++ p2, (⟨ior .u8 p3 8, 0, 0, p4, 0⟩ : Instr)⟩ : Form)] : List Form) _ hv4)] (aC hk1 (aC hk2 (aR (aR (aK aN))))) (by rfl) ?_
 refine RU tbOk false 999 0 [] aN (by rfl) ?_
 have hr := Option.some.inj h
 subst hr
 exact RTN tbOk.t Tryz.results55 [0, 1, 2] (by rfl) (by rfl) (by rfl) rfl rfl
def fn50_r1 (F : Nat) (p1 : ByteArray) (p2 : Int) (xs6 : List (ByteArray × List Form)) (xs7 : List (Int × List Form)) (y1 : ByteArray) (y2 : Int) : Option (((List (ByteArray × List Form)) × (List (Int × List Form))) × Nat) :=
 bif decide (y1.size + p1.size ≤ 9223372036854775807) then (Option.bind (fn55 F xs6 xs7 (y1 ++ p1) (⟨#[]⟩ : ByteArray) (ior .u8 p2 y2) 0) fun v14 => (some ((v14.1, v14.2), 0))) else none
def fn50_k1_0 (F : Nat) (p1 : ByteArray) (p2 : Int) (xs6 : List (ByteArray × List Form)) (xs7 : List (Int × List Form)) : Option (((List (ByteArray × List Form)) × (List (Int × List Form)))) :=
 bif decide ((⟨#[115, 100, 105, 118]⟩ : ByteArray).size + p1.size ≤ 9223372036854775807) then (Option.bind (fn55 F xs6 xs7 ((⟨#[115, 100, 105, 118]⟩ : ByteArray) ++ p1) (⟨#[]⟩ : ByteArray) (ior .u8 p2 48) 1) fun v20 => (bif decide ((⟨#[115, 109, 111, 100]⟩ : ByteArray).size + p1.size ≤ 9223372036854775807) then (Option.bind (fn55 F v20.1 v20.2 ((⟨#[115, 109, 111, 100]⟩ : ByteArray) ++ p1) (⟨#[]⟩ : ByteArray) (ior .u8 p2 144) 1) fun v23 => (bif inb 0 3 then (bif (decide ((gt ([8, 16, 32] : List Int) 0) < 32)) || (p1.toList == (⟨#[]⟩ : ByteArray).toList) then (Option.bind (fn53 (IntKind.i64.wrap (gt ([8, 16, 32] : List Int) 0))) fun v27 => (bif decide ((⟨#[115, 120]⟩ : ByteArray).size + v27.size ≤ 9223372036854775807) then (bif decide (((⟨#[115, 120]⟩ : ByteArray) ++ v27).size + p1.size ≤ 9223372036854775807) then (Option.bind (fn52 F v23.1 v23.2 ([(⟨((⟨#[115, 120]⟩ : ByteArray) ++ v27) ++ p1, (⟨#[68, 83]⟩ : ByteArray), (⟨ior .u8 (ior .u8 p2 176) 8, 0, 0, gt ([8, 16, 32] : List Int) 0, 0⟩ : Instr)⟩ : Form)] : List Form)) fun v31 => (bif inb 1 3 then (bif (decide ((gt ([8, 16, 32] : List Int) 1) < 32)) || (p1.toList == (⟨#[]⟩ : ByteArray).toList) then (Option.bind (fn53 (IntKind.i64.wrap (gt ([8, 16, 32] : List Int) 1))) fun v35 => (bif decide ((⟨#[115, 120]⟩ : ByteArray).size + v35.size ≤ 9223372036854775807) then (bif decide (((⟨#[115, 120]⟩ : ByteArray) ++ v35).size + p1.size ≤ 9223372036854775807) then (Option.bind (fn52 F v31.1 v31.2 ([(⟨((⟨#[115, 120]⟩ : ByteArray) ++ v35) ++ p1, (⟨#[68, 83]⟩ : ByteArray), (⟨ior .u8 (ior .u8 p2 176) 8, 0, 0, gt ([8, 16, 32] : List Int) 1, 0⟩ : Instr)⟩ : Form)] : List Form)) fun v39 => (bif inb 2 3 then (bif (decide ((gt ([8, 16, 32] : List Int) 2) < 32)) || (p1.toList == (⟨#[]⟩ : ByteArray).toList) then (Option.bind (fn53 (IntKind.i64.wrap (gt ([8, 16, 32] : List Int) 2))) fun v43 => (bif decide ((⟨#[115, 120]⟩ : ByteArray).size + v43.size ≤ 9223372036854775807) then (bif decide (((⟨#[115, 120]⟩ : ByteArray) ++ v43).size + p1.size ≤ 9223372036854775807) then (Option.bind (fn52 F v39.1 v39.2 ([(⟨((⟨#[115, 120]⟩ : ByteArray) ++ v43) ++ p1, (⟨#[68, 83]⟩ : ByteArray), (⟨ior .u8 (ior .u8 p2 176) 8, 0, 0, gt ([8, 16, 32] : List Int) 2, 0⟩ : Instr)⟩ : Form)] : List Form)) fun v47 => (bif decide ((⟨#[110, 101, 103]⟩ : ByteArray).size + p1.size ≤ 9223372036854775807) then (Option.bind (fn52 F v47.1 v47.2 ([(⟨(⟨#[110, 101, 103]⟩ : ByteArray) ++ p1, (⟨#[68]⟩ : ByteArray), (⟨ior .u8 p2 128, 0, 0, 0, 0⟩ : Instr)⟩ : Form)] : List Form)) fun v50 => (some ((v50.1, v50.2)))) else none)) else none) else none)) else (bif decide ((⟨#[110, 101, 103]⟩ : ByteArray).size + p1.size ≤ 9223372036854775807) then (Option.bind (fn52 F v39.1 v39.2 ([(⟨(⟨#[110, 101, 103]⟩ : ByteArray) ++ p1, (⟨#[68]⟩ : ByteArray), (⟨ior .u8 p2 128, 0, 0, 0, 0⟩ : Instr)⟩ : Form)] : List Form)) fun v53 => (some ((v53.1, v53.2)))) else none)) else none)) else none) else none)) else (bif inb 2 3 then (bif (decide ((gt ([8, 16, 32] : List Int) 2) < 32)) || (p1.toList == (⟨#[]⟩ : ByteArray).toList) then (Option.bind (fn53 (IntKind.i64.wrap (gt ([8, 16, 32] : List Int) 2))) fun v57 => (bif decide ((⟨#[115, 120]⟩ : ByteArray).size + v57.size ≤ 9223372036854775807) then (bif decide (((⟨#[115, 120]⟩ : ByteArray) ++ v57).size + p1.size ≤ 9223372036854775807) then (Option.bind (fn52 F v31.1 v31.2 ([(⟨((⟨#[115, 120]⟩ : ByteArray) ++ v57) ++ p1, (⟨#[68, 83]⟩ : ByteArray), (⟨ior .u8 (ior .u8 p2 176) 8, 0, 0, gt ([8, 16, 32] : List Int) 2, 0⟩ : Instr)⟩ : Form)] : List Form)) fun v61 => (bif decide ((⟨#[110, 101, 103]⟩ : ByteArray).size + p1.size ≤ 9223372036854775807) then (Option.bind (fn52 F v61.1 v61.2 ([(⟨(⟨#[110, 101, 103]⟩ : ByteArray) ++ p1, (⟨#[68]⟩ : ByteArray), (⟨ior .u8 p2 128, 0, 0, 0, 0⟩ : Instr)⟩ : Form)] : List Form)) fun v64 => (some ((v64.1, v64.2)))) else none)) else none) else none)) else (bif decide ((⟨#[110, 101, 103]⟩ : ByteArray).size + p1.size ≤ 9223372036854775807) then (Option.bind (fn52 F v31.1 v31.2 ([(⟨(⟨#[110, 101, 103]⟩ : ByteArray) ++ p1, (⟨#[68]⟩ : ByteArray), (⟨ior .u8 p2 128, 0, 0, 0, 0⟩ : Instr)⟩ : Form)] : List Form)) fun v67 => (some ((v67.1, v67.2)))) else none)) else none)) else none)) else none) else none)) else (bif inb 1 3 then (bif (decide ((gt ([8, 16, 32] : List Int) 1) < 32)) || (p1.toList == (⟨#[]⟩ : ByteArray).toList) then (Option.bind (fn53 (IntKind.i64.wrap (gt ([8, 16, 32] : List Int) 1))) fun v71 => (bif decide ((⟨#[115, 120]⟩ : ByteArray).size + v71.size ≤ 9223372036854775807) then (bif decide (((⟨#[115, 120]⟩ : ByteArray) ++ v71).size + p1.size ≤ 9223372036854775807) then (Option.bind (fn52 F v23.1 v23.2 ([(⟨((⟨#[115, 120]⟩ : ByteArray) ++ v71) ++ p1, (⟨#[68, 83]⟩ : ByteArray), (⟨ior .u8 (ior .u8 p2 176) 8, 0, 0, gt ([8, 16, 32] : List Int) 1, 0⟩ : Instr)⟩ : Form)] : List Form)) fun v75 => (bif inb 2 3 then (bif (decide ((gt ([8, 16, 32] : List Int) 2) < 32)) || (p1.toList == (⟨#[]⟩ : ByteArray).toList) then (Option.bind (fn53 (IntKind.i64.wrap (gt ([8, 16, 32] : List Int) 2))) fun v79 => (bif decide ((⟨#[115, 120]⟩ : ByteArray).size + v79.size ≤ 9223372036854775807) then (bif decide (((⟨#[115, 120]⟩ : ByteArray) ++ v79).size + p1.size ≤ 9223372036854775807) then (Option.bind (fn52 F v75.1 v75.2 ([(⟨((⟨#[115, 120]⟩ : ByteArray) ++ v79) ++ p1, (⟨#[68, 83]⟩ : ByteArray), (⟨ior .u8 (ior .u8 p2 176) 8, 0, 0, gt ([8, 16, 32] : List Int) 2, 0⟩ : Instr)⟩ : Form)] : List Form)) fun v83 => (bif decide ((⟨#[110, 101, 103]⟩ : ByteArray).size + p1.size ≤ 9223372036854775807) then (Option.bind (fn52 F v83.1 v83.2 ([(⟨(⟨#[110, 101, 103]⟩ : ByteArray) ++ p1, (⟨#[68]⟩ : ByteArray), (⟨ior .u8 p2 128, 0, 0, 0, 0⟩ : Instr)⟩ : Form)] : List Form)) fun v86 => (some ((v86.1, v86.2)))) else none)) else none) else none)) else (bif decide ((⟨#[110, 101, 103]⟩ : ByteArray).size + p1.size ≤ 9223372036854775807) then (Option.bind (fn52 F v75.1 v75.2 ([(⟨(⟨#[110, 101, 103]⟩ : ByteArray) ++ p1, (⟨#[68]⟩ : ByteArray), (⟨ior .u8 p2 128, 0, 0, 0, 0⟩ : Instr)⟩ : Form)] : List Form)) fun v89 => (some ((v89.1, v89.2)))) else none)) else none)) else none) else none)) else (bif inb 2 3 then (bif (decide ((gt ([8, 16, 32] : List Int) 2) < 32)) || (p1.toList == (⟨#[]⟩ : ByteArray).toList) then (Option.bind (fn53 (IntKind.i64.wrap (gt ([8, 16, 32] : List Int) 2))) fun v93 => (bif decide ((⟨#[115, 120]⟩ : ByteArray).size + v93.size ≤ 9223372036854775807) then (bif decide (((⟨#[115, 120]⟩ : ByteArray) ++ v93).size + p1.size ≤ 9223372036854775807) then (Option.bind (fn52 F v23.1 v23.2 ([(⟨((⟨#[115, 120]⟩ : ByteArray) ++ v93) ++ p1, (⟨#[68, 83]⟩ : ByteArray), (⟨ior .u8 (ior .u8 p2 176) 8, 0, 0, gt ([8, 16, 32] : List Int) 2, 0⟩ : Instr)⟩ : Form)] : List Form)) fun v97 => (bif decide ((⟨#[110, 101, 103]⟩ : ByteArray).size + p1.size ≤ 9223372036854775807) then (Option.bind (fn52 F v97.1 v97.2 ([(⟨(⟨#[110, 101, 103]⟩ : ByteArray) ++ p1, (⟨#[68]⟩ : ByteArray), (⟨ior .u8 p2 128, 0, 0, 0, 0⟩ : Instr)⟩ : Form)] : List Form)) fun v100 => (some ((v100.1, v100.2)))) else none)) else none) else none)) else (bif decide ((⟨#[110, 101, 103]⟩ : ByteArray).size + p1.size ≤ 9223372036854775807) then (Option.bind (fn52 F v23.1 v23.2 ([(⟨(⟨#[110, 101, 103]⟩ : ByteArray) ++ p1, (⟨#[68]⟩ : ByteArray), (⟨ior .u8 p2 128, 0, 0, 0, 0⟩ : Instr)⟩ : Form)] : List Form)) fun v103 => (some ((v103.1, v103.2)))) else none)) else none)) else none)) else none)) else none)) else none
def fn50 (F : Nat) (p0_0 : List (ByteArray × List Form)) (p0_2 : List (Int × List Form)) (p1 : ByteArray) (p2 : Int) : Option ((List (ByteArray × List Form)) × (List (Int × List Form))) :=
 Option.bind (fn91 F (stepR (fun (s : (List (ByteArray × List Form)) × (List (Int × List Form))) (y : ByteArray × Int) => fn50_r1 F p1 p2 s.1 s.2 y.1 y.2)) goR ((fn90).1) ((fn90).2) (((p0_0, p0_2), 0) : ((List (ByteArray × List Form)) × (List (Int × List Form))) × Nat)) fun o16 => (bif Nat.beq o16.2 0 then (fn50_k1_0 F p1 p2 o16.1.1 o16.1.2) else none)
theorem c50 (F : Nat) (p0_0 : List (ByteArray × List Form)) (p0_2 : List (Int × List Form)) (p1 : ByteArray) (p2 : Int) (r : (List (ByteArray × List Form)) × (List (Int × List Form))) (h : fn50 F p0_0 p0_2 p1 p2 = some r) : Con Tryz.prog 50 [.p 0 0, .v (.string p1), .v (.int .u8 p2)] [(0, .cells 94 [.mp 1, .fn (.func 47) [] [], .mp 2, .fn (.func 48) [] []]), (1, .ex (pMR Kn.str Form.E 85 p0_0) []), (2, .ex (pMR (Kn.int .u8) Form.E 85 p0_2) [])] 3 (.tu []) [(0, .cells 94 [.mp 1, .fn (.func 47) [] [], .mp 2, .fn (.func 48) [] []]), (1, .ex (pMR Kn.str Form.E 85 r.1) []), (2, .ex (pMR (Kn.int .u8) Form.E 85 r.2) [])] 3 := by
 rw [fn50] at h
 refine Con.of_body Tryz.func50 rfl Tryz.ntmps50 rfl fun w F0 ρ gl => ?_
 refine RU tbOk false 999 4 [.cl true [] (fun _ => c90 _ rfl)] (aK aN) (by rfl) ?_
 refine RU tbOk false 999 0 [] aN (by rfl) ?_
 refine G4.imp (Imp.row 8 (by rfl)) ?_
 obtain ⟨o16, ho17, h⟩ := bd h
 refine G4.imp (s' := ⟨[(3, .p 3 0), (4, .p 4 0), (5, .p 5 0), (10, .fn (.func 91) [] [.p 6 0, .p 7 0])], [(6, .cells 9 [.v (.string ((fn90).1))]), (7, .cells 51 [.sl 8]), (8, .row (Et.int .u8) 5 ((fn90).2) (((fn90).2).length) .unk)] ++ ((fun (s : (List (ByteArray × List Form)) × (List (Int × List Form))) => ([(0, .cells 94 [.mp 1, .fn (.func 47) [] [], .mp 2, .fn (.func 48) [] []]), (1, .ex (pMR Kn.str Form.E 85 s.1) []), (2, .ex (pMR (Kn.int .u8) Form.E 85 s.2) []), (3, .cells 48 [.p 0 0]), (4, .cells 9 [.v (.string p1)]), (5, .cells 5 [.v (.int .u8 p2)])] : SH)) (p0_0, p0_2) ++ []), 9⟩) (Imp.to [0, 1, 2, 3, 4, 5, 6, 7, 8] (by rfl) (by rfl) rfl rfl) ?_
 refine RFO [11, 12] (Yn.two Vn.str (Vn.int .u8)) [(6, .cells 9 [.v (.string ((fn90).1))]), (7, .cells 51 [.sl 8]), (8, .row (Et.int .u8) 5 ((fn90).2) (((fn90).2).length) .unk)] (fun (s : (List (ByteArray × List Form)) × (List (Int × List Form))) => [(0, .cells 94 [.mp 1, .fn (.func 47) [] [], .mp 2, .fn (.func 48) [] []]), (1, .ex (pMR Kn.str Form.E 85 s.1) []), (2, .ex (pMR (Kn.int .u8) Form.E 85 s.2) []), (3, .cells 48 [.p 0 0]), (4, .cells 9 [.v (.string p1)]), (5, .cells 5 [.v (.int .u8 p2)])]) [] 9 3 [6, 7, 8] [.p 0 0, .p 1 0] 9 [.v (.string ((fn90).1))] [(1, .cells 51 [.sl 2]), (2, .row (Et.int .u8) 5 ((fn90).2) ((fn90).2).length .unk)] (fun (s : (List (ByteArray × List Form)) × (List (Int × List Form))) (y : ByteArray × Int) => fn50_r1 F p1 p2 s.1 s.2 y.1 y.2) (p0_0, p0_2) o16.1 o16.2 Tryz.call91 (by rfl) (by rfl) (by rfl) (by rfl) (fun _ _ => rfl) (fun _ => trivial) (fun _ => by rfl) (fun yv J => c91 F (stepR (fun (s : (List (ByteArray × List Form)) × (List (Int × List Form))) (y : ByteArray × Int) => fn50_r1 F p1 p2 s.1 s.2 y.1 y.2)) goR ((fn90).1) ((fn90).2) ((p0_0, p0_2), 0) o16 ho17 yv J) ?_ ?_
 ·clear h ho17
  rintro l1 w1 R1 gl1 ρ1 pA pB QA QB ⟨xs6, xs7⟩ ⟨y1, y2⟩ s1' m1' hpB h hbg11 hend12
  change fn50_r1 F p1 p2 xs6 xs7 y1 y2 = _ at h
  rw [fn50_r1] at h
  refine RU tbOk false 999 2 [] aN (by rfl) ?_
  refine hbg11 _ _ _ (by rfl) ?_
  obtain ⟨hk13, h⟩ := ck h
  obtain ⟨v14, hv15, h⟩ := bd h
  refine RU tbOk false 999 8 [.st, .cl true [0, 1, 2] (fun _ => c55 F xs6 xs7 (y1 ++ p1) (⟨#[]⟩ : ByteArray) (ior .u8 p2 y2) 0 _ hv15)] (aC hk13 (aK aN)) (by rfl) ?_
  refine RU tbOk false 999 0 [] aN (by rfl) ?_
  cases Option.some.inj h
  exact hend12 _ (Imp.to [0, 1, 2, 3, 4, 5, 6, 7, 8, 9] (by rfl) (by rfl) rfl rfl)
 ·intro r18
  refine CDS h (fun h hb105 => ?_) (fun h hb105 => ?_)
  ·rw [show o16.2 = 0 from Nat.eq_of_beq_eq_true hb105]
   change fn50_k1_0 F p1 p2 o16.1.1 o16.1.2 = _ at h
   rw [fn50_k1_0] at h
   obtain ⟨hk19, h⟩ := ck h
   obtain ⟨v20, hv21, h⟩ := bd h
   refine RU tbOk false 999 6 [.st, .cl true [0, 1, 2] (fun _ => c55 F o16.1.1 o16.1.2 ((⟨#[115, 100, 105, 118]⟩ : ByteArray) ++ p1) (⟨#[]⟩ : ByteArray) (ior .u8 p2 48) 1 _ hv21)] (aC hk19 (aK aN)) (by rfl) ?_
   obtain ⟨hk22, h⟩ := ck h
   obtain ⟨v23, hv24, h⟩ := bd h
   refine RU tbOk false 999 6 [.st, .cl true [0, 1, 2] (fun _ => c55 F v20.1 v20.2 ((⟨#[115, 109, 111, 100]⟩ : ByteArray) ++ p1) (⟨#[]⟩ : ByteArray) (ior .u8 p2 144) 1 _ hv24)] (aC hk22 (aK aN)) (by rfl) ?_
   refine RU tbOk false 999 3 [.bs (Et.int .i16) ([8, 16, 32] : List Int)] (aR (aR aN)) (by rfl) ?_
   refine LPU 9 ?_
   intro R0 ih0
   refine RU tbOk false 999 1 [] aN (by rfl) ?_
   refine CDT rfl (by rfl) ?_
   obtain ⟨hk25, h⟩ := ck h
   refine RU tbOk false 999 9 [] (aC hk25 aN) (by rfl) ?_
   refine CD h (by rfl) (fun h hb26 => ?_) (fun h hb26 => ?_)
   ·refine RU tbOk false 999 0 [] aN (by rfl) ?_
    obtain ⟨v27, hv28, h⟩ := bd h
    obtain ⟨hk29, h⟩ := ck h
    obtain ⟨hk30, h⟩ := ck h
    obtain ⟨v31, hv32, h⟩ := bd h
    refine DR tbOk hmix [] [([3], []), ([], []), ([], []), ([], []), ([], []), ([4], []), ([], []), ([5], []), ([], []), ([], []), ([], []), ([], []), ([], []), ([], []), ([0, 1, 2, 11], [1, 2])] [.cl true [] (fun _ => c53 (IntKind.i64.wrap (gt ([8, 16, 32] : List Int) 0)) _ hv28), .st, .st, .bs Form.E ([(⟨((⟨#[115, 120]⟩ : ByteArray) ++ v27) ++ p1, (⟨#[68, 83]⟩ : ByteArray), (⟨ior .u8 (ior .u8 p2 176) 8, 0, 0, gt ([8, 16, 32] : List Int) 0, 0⟩ : Instr)⟩ : Form)] : List Form), .cl true [0, 1, 2, 11] (fun _ => c52 F v23.1 v23.2 ([(⟨((⟨#[115, 120]⟩ : ByteArray) ++ v27) ++ p1, (⟨#[68, 83]⟩ : ByteArray), (⟨ior .u8 (ior .u8 p2 176) 8, 0, 0, gt ([8, 16, 32] : List Int) 0, 0⟩ : Instr)⟩ : Form)] : List Form) _ hv32)] (aR (aK (aC hk29 (aR (aC hk30 (aR (aR (aR (aR (aK aN)))))))))) (by rfl) ?_
    refine RU tbOk false 999 2 [] aN (by rfl) ?_
    refine ih0 _ _ ?_
    intro R1 ih1
    refine G4.imp (Imp.keep [3, 4, 5, 33, 34, 35]) ?_
    refine RU tbOk false 999 1 [] aN (by rfl) ?_
    refine CDT rfl (by rfl) ?_
    obtain ⟨hk33, h⟩ := ck h
    refine RU tbOk false 999 9 [] (aC hk33 aN) (by rfl) ?_
    refine CD h (by rfl) (fun h hb34 => ?_) (fun h hb34 => ?_)
    ·refine RU tbOk false 999 0 [] aN (by rfl) ?_
     obtain ⟨v35, hv36, h⟩ := bd h
     obtain ⟨hk37, h⟩ := ck h
     obtain ⟨hk38, h⟩ := ck h
     obtain ⟨v39, hv40, h⟩ := bd h
     refine DR tbOk hmix [] [([3], []), ([], []), ([], []), ([], []), ([], []), ([4], []), ([], []), ([5], []), ([], []), ([], []), ([], []), ([], []), ([], []), ([], []), ([0, 1, 2, 12], [1, 2])] [.cl true [] (fun _ => c53 (IntKind.i64.wrap (gt ([8, 16, 32] : List Int) 1)) _ hv36), .st, .st, .bs Form.E ([(⟨((⟨#[115, 120]⟩ : ByteArray) ++ v35) ++ p1, (⟨#[68, 83]⟩ : ByteArray), (⟨ior .u8 (ior .u8 p2 176) 8, 0, 0, gt ([8, 16, 32] : List Int) 1, 0⟩ : Instr)⟩ : Form)] : List Form), .cl true [0, 1, 2, 12] (fun _ => c52 F v31.1 v31.2 ([(⟨((⟨#[115, 120]⟩ : ByteArray) ++ v35) ++ p1, (⟨#[68, 83]⟩ : ByteArray), (⟨ior .u8 (ior .u8 p2 176) 8, 0, 0, gt ([8, 16, 32] : List Int) 1, 0⟩ : Instr)⟩ : Form)] : List Form) _ hv40)] (aR (aK (aC hk37 (aR (aC hk38 (aR (aR (aR (aR (aK aN)))))))))) (by rfl) ?_
     refine RU tbOk false 999 2 [] aN (by rfl) ?_
     refine ih1 _ _ ?_
     intro R2 ih2
     refine G4.imp (Imp.keep [3, 4, 5, 33, 34, 35]) ?_
     refine RU tbOk false 999 1 [] aN (by rfl) ?_
     refine CDT rfl (by rfl) ?_
     obtain ⟨hk41, h⟩ := ck h
     refine RU tbOk false 999 9 [] (aC hk41 aN) (by rfl) ?_
     refine CD h (by rfl) (fun h hb42 => ?_) (fun h hb42 => ?_)
     ·refine RU tbOk false 999 0 [] aN (by rfl) ?_
      obtain ⟨v43, hv44, h⟩ := bd h
      obtain ⟨hk45, h⟩ := ck h
      obtain ⟨hk46, h⟩ := ck h
      obtain ⟨v47, hv48, h⟩ := bd h
      refine DR tbOk hmix [] [([3], []), ([], []), ([], []), ([], []), ([], []), ([4], []), ([], []), ([5], []), ([], []), ([], []), ([], []), ([], []), ([], []), ([], []), ([0, 1, 2, 13], [1, 2])] [.cl true [] (fun _ => c53 (IntKind.i64.wrap (gt ([8, 16, 32] : List Int) 2)) _ hv44), .st, .st, .bs Form.E ([(⟨((⟨#[115, 120]⟩ : ByteArray) ++ v43) ++ p1, (⟨#[68, 83]⟩ : ByteArray), (⟨ior .u8 (ior .u8 p2 176) 8, 0, 0, gt ([8, 16, 32] : List Int) 2, 0⟩ : Instr)⟩ : Form)] : List Form), .cl true [0, 1, 2, 13] (fun _ => c52 F v39.1 v39.2 ([(⟨((⟨#[115, 120]⟩ : ByteArray) ++ v43) ++ p1, (⟨#[68, 83]⟩ : ByteArray), (⟨ior .u8 (ior .u8 p2 176) 8, 0, 0, gt ([8, 16, 32] : List Int) 2, 0⟩ : Instr)⟩ : Form)] : List Form) _ hv48)] (aR (aK (aC hk45 (aR (aC hk46 (aR (aR (aR (aR (aK aN)))))))))) (by rfl) ?_
      refine RU tbOk false 999 2 [] aN (by rfl) ?_
      refine ih2 _ _ ?_
      intro R3 ih3
      refine G4.imp (Imp.keep [3, 4, 5, 33, 34, 35]) ?_
      refine RU tbOk false 999 1 [] aN (by rfl) ?_
      refine CDF rfl (by rfl) ?_
      obtain ⟨hk49, h⟩ := ck h
      obtain ⟨v50, hv51, h⟩ := bd h
      refine RU tbOk false 999 9 [.st, .bs Form.E ([(⟨(⟨#[110, 101, 103]⟩ : ByteArray) ++ p1, (⟨#[68]⟩ : ByteArray), (⟨ior .u8 p2 128, 0, 0, 0, 0⟩ : Instr)⟩ : Form)] : List Form), .cl true [0, 1, 2, 14] (fun _ => c52 F v47.1 v47.2 ([(⟨(⟨#[110, 101, 103]⟩ : ByteArray) ++ p1, (⟨#[68]⟩ : ByteArray), (⟨ior .u8 p2 128, 0, 0, 0, 0⟩ : Instr)⟩ : Form)] : List Form) _ hv51)] (aC hk49 (aR (aR (aK aN)))) (by rfl) ?_
      refine RU tbOk false 999 0 [] aN (by rfl) ?_
      have hr := Option.some.inj h
      subst hr
      exact RTNM tbOk.t [(9, r18)] rfl ⟨rfl, trivial⟩ Tryz.results50 [0, 1, 2] (by rfl) (by rfl) (by rfl) rfl rfl
     ·refine RU tbOk false 999 2 [] aN (by rfl) ?_
      refine ih2 _ _ ?_
      intro R3 ih3
      refine G4.imp (Imp.keep [3, 4, 5, 33, 34, 35]) ?_
      refine RU tbOk false 999 1 [] aN (by rfl) ?_
      refine CDF rfl (by rfl) ?_
      obtain ⟨hk52, h⟩ := ck h
      obtain ⟨v53, hv54, h⟩ := bd h
      refine RU tbOk false 999 9 [.st, .bs Form.E ([(⟨(⟨#[110, 101, 103]⟩ : ByteArray) ++ p1, (⟨#[68]⟩ : ByteArray), (⟨ior .u8 p2 128, 0, 0, 0, 0⟩ : Instr)⟩ : Form)] : List Form), .cl true [0, 1, 2, 13] (fun _ => c52 F v39.1 v39.2 ([(⟨(⟨#[110, 101, 103]⟩ : ByteArray) ++ p1, (⟨#[68]⟩ : ByteArray), (⟨ior .u8 p2 128, 0, 0, 0, 0⟩ : Instr)⟩ : Form)] : List Form) _ hv54)] (aC hk52 (aR (aR (aK aN)))) (by rfl) ?_
      refine RU tbOk false 999 0 [] aN (by rfl) ?_
      have hr := Option.some.inj h
      subst hr
      exact RTNM tbOk.t [(9, r18)] rfl ⟨rfl, trivial⟩ Tryz.results50 [0, 1, 2] (by rfl) (by rfl) (by rfl) rfl rfl
    ·refine RU tbOk false 999 2 [] aN (by rfl) ?_
     refine ih1 _ _ ?_
     intro R2 ih2
     refine G4.imp (Imp.keep [3, 4, 5, 33, 34, 35]) ?_
     refine RU tbOk false 999 1 [] aN (by rfl) ?_
     refine CDT rfl (by rfl) ?_
     obtain ⟨hk55, h⟩ := ck h
     refine RU tbOk false 999 9 [] (aC hk55 aN) (by rfl) ?_
     refine CD h (by rfl) (fun h hb56 => ?_) (fun h hb56 => ?_)
     ·refine RU tbOk false 999 0 [] aN (by rfl) ?_
      obtain ⟨v57, hv58, h⟩ := bd h
      obtain ⟨hk59, h⟩ := ck h
      obtain ⟨hk60, h⟩ := ck h
      obtain ⟨v61, hv62, h⟩ := bd h
      refine DR tbOk hmix [] [([3], []), ([], []), ([], []), ([], []), ([], []), ([4], []), ([], []), ([5], []), ([], []), ([], []), ([], []), ([], []), ([], []), ([], []), ([0, 1, 2, 12], [1, 2])] [.cl true [] (fun _ => c53 (IntKind.i64.wrap (gt ([8, 16, 32] : List Int) 2)) _ hv58), .st, .st, .bs Form.E ([(⟨((⟨#[115, 120]⟩ : ByteArray) ++ v57) ++ p1, (⟨#[68, 83]⟩ : ByteArray), (⟨ior .u8 (ior .u8 p2 176) 8, 0, 0, gt ([8, 16, 32] : List Int) 2, 0⟩ : Instr)⟩ : Form)] : List Form), .cl true [0, 1, 2, 12] (fun _ => c52 F v31.1 v31.2 ([(⟨((⟨#[115, 120]⟩ : ByteArray) ++ v57) ++ p1, (⟨#[68, 83]⟩ : ByteArray), (⟨ior .u8 (ior .u8 p2 176) 8, 0, 0, gt ([8, 16, 32] : List Int) 2, 0⟩ : Instr)⟩ : Form)] : List Form) _ hv62)] (aR (aK (aC hk59 (aR (aC hk60 (aR (aR (aR (aR (aK aN)))))))))) (by rfl) ?_
      refine RU tbOk false 999 2 [] aN (by rfl) ?_
      refine ih2 _ _ ?_
      intro R3 ih3
      refine G4.imp (Imp.keep [3, 4, 5, 33, 34, 35]) ?_
      refine RU tbOk false 999 1 [] aN (by rfl) ?_
      refine CDF rfl (by rfl) ?_
      obtain ⟨hk63, h⟩ := ck h
      obtain ⟨v64, hv65, h⟩ := bd h
      refine RU tbOk false 999 9 [.st, .bs Form.E ([(⟨(⟨#[110, 101, 103]⟩ : ByteArray) ++ p1, (⟨#[68]⟩ : ByteArray), (⟨ior .u8 p2 128, 0, 0, 0, 0⟩ : Instr)⟩ : Form)] : List Form), .cl true [0, 1, 2, 13] (fun _ => c52 F v61.1 v61.2 ([(⟨(⟨#[110, 101, 103]⟩ : ByteArray) ++ p1, (⟨#[68]⟩ : ByteArray), (⟨ior .u8 p2 128, 0, 0, 0, 0⟩ : Instr)⟩ : Form)] : List Form) _ hv65)] (aC hk63 (aR (aR (aK aN)))) (by rfl) ?_
      refine RU tbOk false 999 0 [] aN (by rfl) ?_
      have hr := Option.some.inj h
      subst hr
      exact RTNM tbOk.t [(9, r18)] rfl ⟨rfl, trivial⟩ Tryz.results50 [0, 1, 2] (by rfl) (by rfl) (by rfl) rfl rfl
     ·refine RU tbOk false 999 2 [] aN (by rfl) ?_
      refine ih2 _ _ ?_
      intro R3 ih3
      refine G4.imp (Imp.keep [3, 4, 5, 33, 34, 35]) ?_
      refine RU tbOk false 999 1 [] aN (by rfl) ?_
      refine CDF rfl (by rfl) ?_
      obtain ⟨hk66, h⟩ := ck h
      obtain ⟨v67, hv68, h⟩ := bd h
      refine RU tbOk false 999 9 [.st, .bs Form.E ([(⟨(⟨#[110, 101, 103]⟩ : ByteArray) ++ p1, (⟨#[68]⟩ : ByteArray), (⟨ior .u8 p2 128, 0, 0, 0, 0⟩ : Instr)⟩ : Form)] : List Form), .cl true [0, 1, 2, 12] (fun _ => c52 F v31.1 v31.2 ([(⟨(⟨#[110, 101, 103]⟩ : ByteArray) ++ p1, (⟨#[68]⟩ : ByteArray), (⟨ior .u8 p2 128, 0, 0, 0, 0⟩ : Instr)⟩ : Form)] : List Form) _ hv68)] (aC hk66 (aR (aR (aK aN)))) (by rfl) ?_
      refine RU tbOk false 999 0 [] aN (by rfl) ?_
      have hr := Option.some.inj h
      subst hr
      exact RTNM tbOk.t [(9, r18)] rfl ⟨rfl, trivial⟩ Tryz.results50 [0, 1, 2] (by rfl) (by rfl) (by rfl) rfl rfl
   ·refine RU tbOk false 999 2 [] aN (by rfl) ?_
    refine ih0 _ _ ?_
    intro R1 ih1
    refine G4.imp (Imp.keep [3, 4, 5, 33, 34, 35]) ?_
    refine RU tbOk false 999 1 [] aN (by rfl) ?_
    refine CDT rfl (by rfl) ?_
    obtain ⟨hk69, h⟩ := ck h
    refine RU tbOk false 999 9 [] (aC hk69 aN) (by rfl) ?_
    refine CD h (by rfl) (fun h hb70 => ?_) (fun h hb70 => ?_)
    ·refine RU tbOk false 999 0 [] aN (by rfl) ?_
     obtain ⟨v71, hv72, h⟩ := bd h
     obtain ⟨hk73, h⟩ := ck h
     obtain ⟨hk74, h⟩ := ck h
     obtain ⟨v75, hv76, h⟩ := bd h
     refine DR tbOk hmix [] [([3], []), ([], []), ([], []), ([], []), ([], []), ([4], []), ([], []), ([5], []), ([], []), ([], []), ([], []), ([], []), ([], []), ([], []), ([0, 1, 2, 11], [1, 2])] [.cl true [] (fun _ => c53 (IntKind.i64.wrap (gt ([8, 16, 32] : List Int) 1)) _ hv72), .st, .st, .bs Form.E ([(⟨((⟨#[115, 120]⟩ : ByteArray) ++ v71) ++ p1, (⟨#[68, 83]⟩ : ByteArray), (⟨ior .u8 (ior .u8 p2 176) 8, 0, 0, gt ([8, 16, 32] : List Int) 1, 0⟩ : Instr)⟩ : Form)] : List Form), .cl true [0, 1, 2, 11] (fun _ => c52 F v23.1 v23.2 ([(⟨((⟨#[115, 120]⟩ : ByteArray) ++ v71) ++ p1, (⟨#[68, 83]⟩ : ByteArray), (⟨ior .u8 (ior .u8 p2 176) 8, 0, 0, gt ([8, 16, 32] : List Int) 1, 0⟩ : Instr)⟩ : Form)] : List Form) _ hv76)] (aR (aK (aC hk73 (aR (aC hk74 (aR (aR (aR (aR (aK aN)))))))))) (by rfl) ?_
     refine RU tbOk false 999 2 [] aN (by rfl) ?_
     refine ih1 _ _ ?_
     intro R2 ih2
     refine G4.imp (Imp.keep [3, 4, 5, 33, 34, 35]) ?_
     refine RU tbOk false 999 1 [] aN (by rfl) ?_
     refine CDT rfl (by rfl) ?_
     obtain ⟨hk77, h⟩ := ck h
     refine RU tbOk false 999 9 [] (aC hk77 aN) (by rfl) ?_
     refine CD h (by rfl) (fun h hb78 => ?_) (fun h hb78 => ?_)
     ·refine RU tbOk false 999 0 [] aN (by rfl) ?_
      obtain ⟨v79, hv80, h⟩ := bd h
      obtain ⟨hk81, h⟩ := ck h
      obtain ⟨hk82, h⟩ := ck h
      obtain ⟨v83, hv84, h⟩ := bd h
      refine DR tbOk hmix [] [([3], []), ([], []), ([], []), ([], []), ([], []), ([4], []), ([], []), ([5], []), ([], []), ([], []), ([], []), ([], []), ([], []), ([], []), ([0, 1, 2, 12], [1, 2])] [.cl true [] (fun _ => c53 (IntKind.i64.wrap (gt ([8, 16, 32] : List Int) 2)) _ hv80), .st, .st, .bs Form.E ([(⟨((⟨#[115, 120]⟩ : ByteArray) ++ v79) ++ p1, (⟨#[68, 83]⟩ : ByteArray), (⟨ior .u8 (ior .u8 p2 176) 8, 0, 0, gt ([8, 16, 32] : List Int) 2, 0⟩ : Instr)⟩ : Form)] : List Form), .cl true [0, 1, 2, 12] (fun _ => c52 F v75.1 v75.2 ([(⟨((⟨#[115, 120]⟩ : ByteArray) ++ v79) ++ p1, (⟨#[68, 83]⟩ : ByteArray), (⟨ior .u8 (ior .u8 p2 176) 8, 0, 0, gt ([8, 16, 32] : List Int) 2, 0⟩ : Instr)⟩ : Form)] : List Form) _ hv84)] (aR (aK (aC hk81 (aR (aC hk82 (aR (aR (aR (aR (aK aN)))))))))) (by rfl) ?_
      refine RU tbOk false 999 2 [] aN (by rfl) ?_
      refine ih2 _ _ ?_
      intro R3 ih3
      refine G4.imp (Imp.keep [3, 4, 5, 33, 34, 35]) ?_
      refine RU tbOk false 999 1 [] aN (by rfl) ?_
      refine CDF rfl (by rfl) ?_
      obtain ⟨hk85, h⟩ := ck h
      obtain ⟨v86, hv87, h⟩ := bd h
      refine RU tbOk false 999 9 [.st, .bs Form.E ([(⟨(⟨#[110, 101, 103]⟩ : ByteArray) ++ p1, (⟨#[68]⟩ : ByteArray), (⟨ior .u8 p2 128, 0, 0, 0, 0⟩ : Instr)⟩ : Form)] : List Form), .cl true [0, 1, 2, 13] (fun _ => c52 F v83.1 v83.2 ([(⟨(⟨#[110, 101, 103]⟩ : ByteArray) ++ p1, (⟨#[68]⟩ : ByteArray), (⟨ior .u8 p2 128, 0, 0, 0, 0⟩ : Instr)⟩ : Form)] : List Form) _ hv87)] (aC hk85 (aR (aR (aK aN)))) (by rfl) ?_
      refine RU tbOk false 999 0 [] aN (by rfl) ?_
      have hr := Option.some.inj h
      subst hr
      exact RTNM tbOk.t [(9, r18)] rfl ⟨rfl, trivial⟩ Tryz.results50 [0, 1, 2] (by rfl) (by rfl) (by rfl) rfl rfl
     ·refine RU tbOk false 999 2 [] aN (by rfl) ?_
      refine ih2 _ _ ?_
      intro R3 ih3
      refine G4.imp (Imp.keep [3, 4, 5, 33, 34, 35]) ?_
      refine RU tbOk false 999 1 [] aN (by rfl) ?_
      refine CDF rfl (by rfl) ?_
      obtain ⟨hk88, h⟩ := ck h
      obtain ⟨v89, hv90, h⟩ := bd h
      refine RU tbOk false 999 9 [.st, .bs Form.E ([(⟨(⟨#[110, 101, 103]⟩ : ByteArray) ++ p1, (⟨#[68]⟩ : ByteArray), (⟨ior .u8 p2 128, 0, 0, 0, 0⟩ : Instr)⟩ : Form)] : List Form), .cl true [0, 1, 2, 12] (fun _ => c52 F v75.1 v75.2 ([(⟨(⟨#[110, 101, 103]⟩ : ByteArray) ++ p1, (⟨#[68]⟩ : ByteArray), (⟨ior .u8 p2 128, 0, 0, 0, 0⟩ : Instr)⟩ : Form)] : List Form) _ hv90)] (aC hk88 (aR (aR (aK aN)))) (by rfl) ?_
      refine RU tbOk false 999 0 [] aN (by rfl) ?_
      have hr := Option.some.inj h
      subst hr
      exact RTNM tbOk.t [(9, r18)] rfl ⟨rfl, trivial⟩ Tryz.results50 [0, 1, 2] (by rfl) (by rfl) (by rfl) rfl rfl
    ·refine RU tbOk false 999 2 [] aN (by rfl) ?_
     refine ih1 _ _ ?_
     intro R2 ih2
     refine G4.imp (Imp.keep [3, 4, 5, 33, 34, 35]) ?_
     refine RU tbOk false 999 1 [] aN (by rfl) ?_
     refine CDT rfl (by rfl) ?_
     obtain ⟨hk91, h⟩ := ck h
     refine RU tbOk false 999 9 [] (aC hk91 aN) (by rfl) ?_
     refine CD h (by rfl) (fun h hb92 => ?_) (fun h hb92 => ?_)
     ·refine RU tbOk false 999 0 [] aN (by rfl) ?_
      obtain ⟨v93, hv94, h⟩ := bd h
      obtain ⟨hk95, h⟩ := ck h
      obtain ⟨hk96, h⟩ := ck h
      obtain ⟨v97, hv98, h⟩ := bd h
      refine DR tbOk hmix [] [([3], []), ([], []), ([], []), ([], []), ([], []), ([4], []), ([], []), ([5], []), ([], []), ([], []), ([], []), ([], []), ([], []), ([], []), ([0, 1, 2, 11], [1, 2])] [.cl true [] (fun _ => c53 (IntKind.i64.wrap (gt ([8, 16, 32] : List Int) 2)) _ hv94), .st, .st, .bs Form.E ([(⟨((⟨#[115, 120]⟩ : ByteArray) ++ v93) ++ p1, (⟨#[68, 83]⟩ : ByteArray), (⟨ior .u8 (ior .u8 p2 176) 8, 0, 0, gt ([8, 16, 32] : List Int) 2, 0⟩ : Instr)⟩ : Form)] : List Form), .cl true [0, 1, 2, 11] (fun _ => c52 F v23.1 v23.2 ([(⟨((⟨#[115, 120]⟩ : ByteArray) ++ v93) ++ p1, (⟨#[68, 83]⟩ : ByteArray), (⟨ior .u8 (ior .u8 p2 176) 8, 0, 0, gt ([8, 16, 32] : List Int) 2, 0⟩ : Instr)⟩ : Form)] : List Form) _ hv98)] (aR (aK (aC hk95 (aR (aC hk96 (aR (aR (aR (aR (aK aN)))))))))) (by rfl) ?_
      refine RU tbOk false 999 2 [] aN (by rfl) ?_
      refine ih2 _ _ ?_
      intro R3 ih3
      refine G4.imp (Imp.keep [3, 4, 5, 33, 34, 35]) ?_
      refine RU tbOk false 999 1 [] aN (by rfl) ?_
      refine CDF rfl (by rfl) ?_
      obtain ⟨hk99, h⟩ := ck h
      obtain ⟨v100, hv101, h⟩ := bd h
      refine RU tbOk false 999 9 [.st, .bs Form.E ([(⟨(⟨#[110, 101, 103]⟩ : ByteArray) ++ p1, (⟨#[68]⟩ : ByteArray), (⟨ior .u8 p2 128, 0, 0, 0, 0⟩ : Instr)⟩ : Form)] : List Form), .cl true [0, 1, 2, 12] (fun _ => c52 F v97.1 v97.2 ([(⟨(⟨#[110, 101, 103]⟩ : ByteArray) ++ p1, (⟨#[68]⟩ : ByteArray), (⟨ior .u8 p2 128, 0, 0, 0, 0⟩ : Instr)⟩ : Form)] : List Form) _ hv101)] (aC hk99 (aR (aR (aK aN)))) (by rfl) ?_
      refine RU tbOk false 999 0 [] aN (by rfl) ?_
      have hr := Option.some.inj h
      subst hr
      exact RTNM tbOk.t [(9, r18)] rfl ⟨rfl, trivial⟩ Tryz.results50 [0, 1, 2] (by rfl) (by rfl) (by rfl) rfl rfl
     ·refine RU tbOk false 999 2 [] aN (by rfl) ?_
      refine ih2 _ _ ?_
      intro R3 ih3
      refine G4.imp (Imp.keep [3, 4, 5, 33, 34, 35]) ?_
      refine RU tbOk false 999 1 [] aN (by rfl) ?_
      refine CDF rfl (by rfl) ?_
      obtain ⟨hk102, h⟩ := ck h
      obtain ⟨v103, hv104, h⟩ := bd h
      refine RU tbOk false 999 9 [.st, .bs Form.E ([(⟨(⟨#[110, 101, 103]⟩ : ByteArray) ++ p1, (⟨#[68]⟩ : ByteArray), (⟨ior .u8 p2 128, 0, 0, 0, 0⟩ : Instr)⟩ : Form)] : List Form), .cl true [0, 1, 2, 11] (fun _ => c52 F v23.1 v23.2 ([(⟨(⟨#[110, 101, 103]⟩ : ByteArray) ++ p1, (⟨#[68]⟩ : ByteArray), (⟨ior .u8 p2 128, 0, 0, 0, 0⟩ : Instr)⟩ : Form)] : List Form) _ hv104)] (aC hk102 (aR (aR (aK aN)))) (by rfl) ?_
      refine RU tbOk false 999 0 [] aN (by rfl) ?_
      have hr := Option.some.inj h
      subst hr
      exact RTNM tbOk.t [(9, r18)] rfl ⟨rfl, trivial⟩ Tryz.results50 [0, 1, 2] (by rfl) (by rfl) (by rfl) rfl rfl
  cases h
def fn54 : ByteArray × (List Int) :=
 ((fn51 str_3 ([16, 32, 48, 64, 80, 96, 112, 160, 176, 192, 208] : List Int)), ([16, 32, 48, 64, 80, 96, 112, 160, 176, 192, 208] : List Int))
theorem c54 (r : ByteArray × (List Int)) (h : fn54 = r) : Con Tryz.prog 54 [] [] 0 (.fn (.func 91) [] [.p 0 0, .p 1 0]) [(0, .cells 9 [.v (.string r.1)]), (1, .cells 51 [.sl 2]), (2, .row (Et.int .u8) 5 r.2 r.2.length .unk)] 3 := by
 rw [fn54] at h
 refine Con.of_body Tryz.func54 rfl Tryz.ntmps54 rfl fun w F0 ρ gl => ?_
 refine RU tbOk false 999 3 [.bs (Et.int .u8) ([16, 32, 48, 64, 80, 96, 112, 160, 176, 192, 208] : List Int), .cl true [0] (fun _ => c51 str_3 ([16, 32, 48, 64, 80, 96, 112, 160, 176, 192, 208] : List Int) _ rfl)] (aR (aR (aK aN))) (by rfl) ?_
 refine RU tbOk false 999 1 [] aN (by rfl) ?_
 subst h
 refine G4.imp (Imp.row 0 (by rfl)) ?_
 exact RT tbOk.t Tryz.results54 [1, 2, 0] (by rfl) (by rfl) (by rfl) rfl rfl
def fn56 (p0 : Int) : Instr :=
 (⟨24, 0, p0, 0, 0⟩ : Instr)
theorem c56 (p0 : Int) (r : Instr) (h : fn56 p0 = r) : Con Tryz.prog 56 [.v (.int .u8 p0)] [] 0 (.ag [.v (.int .u8 r.fOp), .v (.int .u8 r.fDst), .v (.int .u8 r.fSrc), .v (.int .i16 r.fOff), .v (.int .i32 r.fImm)]) [] 0 := by
 rw [fn56] at h
 refine Con.of_body Tryz.func56 rfl Tryz.ntmps56 rfl fun w F0 ρ gl => ?_
 refine RU tbOk false 999 4 [] aN (by rfl) ?_
 subst h
 exact RT tbOk.t Tryz.results56 [] (by rfl) (by rfl) (by rfl) rfl rfl
def fn57 : ByteArray × (List Int) :=
 ((fn51 str_4 ([16, 8, 0, 24] : List Int)), ([16, 8, 0, 24] : List Int))
theorem c57 (r : ByteArray × (List Int)) (h : fn57 = r) : Con Tryz.prog 57 [] [] 0 (.fn (.func 91) [] [.p 0 0, .p 1 0]) [(0, .cells 9 [.v (.string r.1)]), (1, .cells 51 [.sl 2]), (2, .row (Et.int .u8) 5 r.2 r.2.length .unk)] 3 := by
 rw [fn57] at h
 refine Con.of_body Tryz.func57 rfl Tryz.ntmps57 rfl fun w F0 ρ gl => ?_
 refine RU tbOk false 999 3 [.bs (Et.int .u8) ([16, 8, 0, 24] : List Int), .cl true [0] (fun _ => c51 str_4 ([16, 8, 0, 24] : List Int) _ rfl)] (aR (aR (aK aN))) (by rfl) ?_
 refine RU tbOk false 999 1 [] aN (by rfl) ?_
 subst h
 refine G4.imp (Imp.row 0 (by rfl)) ?_
 exact RT tbOk.t Tryz.results57 [1, 2, 0] (by rfl) (by rfl) (by rfl) rfl rfl
def fn58 (F : Nat) (p0_0 : List (ByteArray × List Form)) (p0_2 : List (Int × List Form)) (p1 : ByteArray) (p2 : Int) : Option ((List (ByteArray × List Form)) × (List (Int × List Form))) :=
 bif decide ((⟨#[108, 100, 120]⟩ : ByteArray).size + p1.size ≤ 9223372036854775807) then (bif decide ((⟨#[115, 116]⟩ : ByteArray).size + p1.size ≤ 9223372036854775807) then (bif decide ((⟨#[115, 116, 120]⟩ : ByteArray).size + p1.size ≤ 9223372036854775807) then (Option.bind (fn52 F p0_0 p0_2 ([(⟨(⟨#[108, 100, 120]⟩ : ByteArray) ++ p1, (⟨#[68, 83, 79]⟩ : ByteArray), (⟨ior .u8 97 p2, 0, 0, 0, 0⟩ : Instr)⟩ : Form), (⟨(⟨#[115, 116]⟩ : ByteArray) ++ p1, (⟨#[68, 79, 73]⟩ : ByteArray), (⟨ior .u8 98 p2, 0, 0, 0, 0⟩ : Instr)⟩ : Form), (⟨(⟨#[115, 116, 120]⟩ : ByteArray) ++ p1, (⟨#[68, 79, 83]⟩ : ByteArray), (⟨ior .u8 99 p2, 0, 0, 0, 0⟩ : Instr)⟩ : Form)] : List Form)) fun v4 => (bif p2 != 24 then (bif decide ((⟨#[108, 100, 120, 115]⟩ : ByteArray).size + p1.size ≤ 9223372036854775807) then (Option.bind (fn52 F v4.1 v4.2 ([(⟨(⟨#[108, 100, 120, 115]⟩ : ByteArray) ++ p1, (⟨#[68, 83, 79]⟩ : ByteArray), (⟨ior .u8 129 p2, 0, 0, 0, 0⟩ : Instr)⟩ : Form)] : List Form)) fun v8 => (some ((v8.1, v8.2)))) else none) else (some ((v4.1, v4.2))))) else none) else none) else none
theorem c58 (F : Nat) (p0_0 : List (ByteArray × List Form)) (p0_2 : List (Int × List Form)) (p1 : ByteArray) (p2 : Int) (r : (List (ByteArray × List Form)) × (List (Int × List Form))) (h : fn58 F p0_0 p0_2 p1 p2 = some r) : Con Tryz.prog 58 [.p 0 0, .v (.string p1), .v (.int .u8 p2)] [(0, .cells 94 [.mp 1, .fn (.func 47) [] [], .mp 2, .fn (.func 48) [] []]), (1, .ex (pMR Kn.str Form.E 85 p0_0) []), (2, .ex (pMR (Kn.int .u8) Form.E 85 p0_2) [])] 3 (.tu []) [(0, .cells 94 [.mp 1, .fn (.func 47) [] [], .mp 2, .fn (.func 48) [] []]), (1, .ex (pMR Kn.str Form.E 85 r.1) []), (2, .ex (pMR (Kn.int .u8) Form.E 85 r.2) [])] 3 := by
 rw [fn58] at h
 refine Con.of_body Tryz.func58 rfl Tryz.ntmps58 rfl fun w F0 ρ gl => ?_
 obtain ⟨hk1, h⟩ := ck h
 obtain ⟨hk2, h⟩ := ck h
 obtain ⟨hk3, h⟩ := ck h
 obtain ⟨v4, hv5, h⟩ := bd h
 refine RU tbOk false 999 21 [.st, .st, .st, .bs Form.E ([(⟨(⟨#[108, 100, 120]⟩ : ByteArray) ++ p1, (⟨#[68, 83, 79]⟩ : ByteArray), (⟨ior .u8 97 p2, 0, 0, 0, 0⟩ : Instr)⟩ : Form), (⟨(⟨#[115, 116]⟩ : ByteArray) ++ p1, (⟨#[68, 79, 73]⟩ : ByteArray), (⟨ior .u8 98 p2, 0, 0, 0, 0⟩ : Instr)⟩ : Form), (⟨(⟨#[115, 116, 120]⟩ : ByteArray) ++ p1, (⟨#[68, 79, 83]⟩ : ByteArray), (⟨ior .u8 99 p2, 0, 0, 0, 0⟩ : Instr)⟩ : Form)] : List Form), .cl true [0, 1, 2, 3] (fun _ => c52 F p0_0 p0_2 ([(⟨(⟨#[108, 100, 120]⟩ : ByteArray) ++ p1, (⟨#[68, 83, 79]⟩ : ByteArray), (⟨ior .u8 97 p2, 0, 0, 0, 0⟩ : Instr)⟩ : Form), (⟨(⟨#[115, 116]⟩ : ByteArray) ++ p1, (⟨#[68, 79, 73]⟩ : ByteArray), (⟨ior .u8 98 p2, 0, 0, 0, 0⟩ : Instr)⟩ : Form), (⟨(⟨#[115, 116, 120]⟩ : ByteArray) ++ p1, (⟨#[68, 79, 83]⟩ : ByteArray), (⟨ior .u8 99 p2, 0, 0, 0, 0⟩ : Instr)⟩ : Form)] : List Form) _ hv5)] (aC hk1 (aC hk2 (aC hk3 (aR (aR (aK aN)))))) (by rfl) ?_
 refine RU tbOk false 999 2 [] aN (by rfl) ?_
 refine CD h (by rfl) (fun h hb6 => ?_) (fun h hb6 => ?_)
 ·obtain ⟨hk7, h⟩ := ck h
  obtain ⟨v8, hv9, h⟩ := bd h
  refine RU tbOk false 999 9 [.st, .bs Form.E ([(⟨(⟨#[108, 100, 120, 115]⟩ : ByteArray) ++ p1, (⟨#[68, 83, 79]⟩ : ByteArray), (⟨ior .u8 129 p2, 0, 0, 0, 0⟩ : Instr)⟩ : Form)] : List Form), .cl true [0, 1, 2, 4] (fun _ => c52 F v4.1 v4.2 ([(⟨(⟨#[108, 100, 120, 115]⟩ : ByteArray) ++ p1, (⟨#[68, 83, 79]⟩ : ByteArray), (⟨ior .u8 129 p2, 0, 0, 0, 0⟩ : Instr)⟩ : Form)] : List Form) _ hv9)] (aC hk7 (aR (aR (aK aN)))) (by rfl) ?_
  refine RU tbOk false 999 0 [] aN (by rfl) ?_
  have hr := Option.some.inj h
  subst hr
  exact RTN tbOk.t Tryz.results58 [0, 1, 2] (by rfl) (by rfl) (by rfl) rfl rfl
 ·refine RU tbOk false 999 0 [] aN (by rfl) ?_
  have hr := Option.some.inj h
  subst hr
  exact RTN tbOk.t Tryz.results58 [0, 1, 2] (by rfl) (by rfl) (by rfl) rfl rfl
def fn25_r1 (F : Nat) (xs5 : List (ByteArray × List Form)) (xs6 : List (Int × List Form)) (y1 : ByteArray) (y2 : Int) : Option (((List (ByteArray × List Form)) × (List (Int × List Form))) × Nat) :=
 Option.bind (fn50 F xs5 xs6 y1 y2) fun v11 => (some ((v11.1, v11.2), 0))
def fn25_r3 (F : Nat) (x46 : Int) (xs91 : List (ByteArray × List Form)) (xs92 : List (Int × List Form)) (y84 : ByteArray) (y85 : Int) : Option (((List (ByteArray × List Form)) × (List (Int × List Form))) × Nat) :=
 Option.bind (fn53 (IntKind.i64.wrap (gt ([16, 32, 64] : List Int) x46))) fun v100 => (bif decide (y84.size + v100.size ≤ 9223372036854775807) then (Option.bind (fn52 F xs91 xs92 ([(⟨y84 ++ v100, (⟨#[68]⟩ : ByteArray), (⟨y85, 0, 0, 0, gt ([16, 32, 64] : List Int) x46⟩ : Instr)⟩ : Form)] : List Form)) fun v103 => (some ((v103.1, v103.2), 0))) else none)
def fn25_k3_0 (x46 : Int) (rl2 : (List (ByteArray × List Form)) → (List (Int × List Form)) → Int → Option ((List (ByteArray × List Form)) × (List (Int × List Form)))) (xs91 : List (ByteArray × List Form)) (xs92 : List (Int × List Form)) : Option ((List (ByteArray × List Form)) × (List (Int × List Form))) :=
 rl2 xs91 xs92 (IntKind.i64.wrap (x46 + 1))
def fn25_r5 (F : Nat) (y109 : ByteArray) (y110 : Int) (xs158 : List (ByteArray × List Form)) (xs159 : List (Int × List Form)) (y153 : ByteArray) (y154 : Int) : Option (((List (ByteArray × List Form)) × (List (Int × List Form))) × Nat) :=
 bif decide (y153.size + y109.size ≤ 9223372036854775807) then (Option.bind (fn55 F xs158 xs159 (y153 ++ y109) (⟨#[79]⟩ : ByteArray) (ior .u8 y110 y154) 0) fun v166 => (some ((v166.1, v166.2), 0))) else none
def fn25_k5_0 (xs158 : List (ByteArray × List Form)) (xs159 : List (Int × List Form)) : Option (((List (ByteArray × List Form)) × (List (Int × List Form))) × Nat) :=
 some ((xs158, xs159), 0)
def fn25_r4 (F : Nat) (xs130 : List (ByteArray × List Form)) (xs131 : List (Int × List Form)) (y109 : ByteArray) (y110 : Int) : Option (((List (ByteArray × List Form)) × (List (Int × List Form))) × Nat) :=
 Option.bind (fn91 F (stepR (fun (s : (List (ByteArray × List Form)) × (List (Int × List Form))) (y : ByteArray × Int) => fn25_r5 F y109 y110 s.1 s.2 y.1 y.2)) goR ((fn54).1) ((fn54).2) (((xs130, xs131), 0) : ((List (ByteArray × List Form)) × (List (Int × List Form))) × Nat)) fun o168 => (bif Nat.beq o168.2 0 then (fn25_k5_0 o168.1.1 o168.1.2) else none)
def fn25_r6 (F : Nat) (xs181 : List (ByteArray × List Form)) (xs182 : List (Int × List Form)) (y177 : ByteArray) (y178 : Int) : Option (((List (ByteArray × List Form)) × (List (Int × List Form))) × Nat) :=
 Option.bind (fn58 F xs181 xs182 y177 y178) fun v187 => (some ((v187.1, v187.2), 0))
def fn25_k6_0 (xs181 : List (ByteArray × List Form)) (xs182 : List (Int × List Form)) : Option (((List (ByteArray × List Form)) × (List (Int × List Form)))) :=
 some ((xs181, xs182))
def fn25_k4_0 (F : Nat) (xs130 : List (ByteArray × List Form)) (xs131 : List (Int × List Form)) : Option (((List (ByteArray × List Form)) × (List (Int × List Form)))) :=
 Option.bind (fn52 F xs130 xs131 ([(⟨(⟨#[106, 97]⟩ : ByteArray), (⟨#[79]⟩ : ByteArray), (⟨5, 0, 0, 0, 0⟩ : Instr)⟩ : Form), (⟨(⟨#[106, 97, 108]⟩ : ByteArray), (⟨#[73]⟩ : ByteArray), (⟨6, 0, 0, 0, 0⟩ : Instr)⟩ : Form), (⟨(⟨#[99, 97, 108, 108]⟩ : ByteArray), (⟨#[73]⟩ : ByteArray), (⟨133, 0, 0, 0, 0⟩ : Instr)⟩ : Form), (⟨(⟨#[101, 120, 105, 116]⟩ : ByteArray), (⟨#[]⟩ : ByteArray), (⟨149, 0, 0, 0, 0⟩ : Instr)⟩ : Form), (⟨(⟨#[108, 100, 100, 119]⟩ : ByteArray), (⟨#[68, 78]⟩ : ByteArray), (fn56 0)⟩ : Form), (⟨(⟨#[108, 100, 109, 97, 112]⟩ : ByteArray), (⟨#[68, 73]⟩ : ByteArray), (fn56 1)⟩ : Form)] : List Form)) fun v175 => (Option.bind (fn91 F (stepR (fun (s : (List (ByteArray × List Form)) × (List (Int × List Form))) (y : ByteArray × Int) => fn25_r6 F s.1 s.2 y.1 y.2)) goR ((fn57).1) ((fn57).2) (((v175.1, v175.2), 0) : ((List (ByteArray × List Form)) × (List (Int × List Form))) × Nat)) fun o189 => (bif Nat.beq o189.2 0 then (fn25_k6_0 o189.1.1 o189.1.2) else none))
def fn25_b2 (F : Nat) (rl2 : (List (ByteArray × List Form)) → (List (Int × List Form)) → Int → Option ((List (ByteArray × List Form)) × (List (Int × List Form)))) (xs44 : List (ByteArray × List Form)) (xs45 : List (Int × List Form)) (x46 : Int) : Option ((List (ByteArray × List Form)) × (List (Int × List Form))) :=
 bif decide (x46 < (([16, 32, 64] : List Int).length : Int)) then (bif inb x46 3 then (Option.bind (fn91 F (stepR (fun (s : (List (ByteArray × List Form)) × (List (Int × List Form))) (y : ByteArray × Int) => fn25_r3 F x46 s.1 s.2 y.1 y.2)) goR (fn51 str_2 ([215, 212, 220] : List Int)) ([215, 212, 220] : List Int) (((xs44, xs45), 0) : ((List (ByteArray × List Form)) × (List (Int × List Form))) × Nat)) fun o105 => (bif Nat.beq o105.2 0 then (fn25_k3_0 x46 rl2 o105.1.1 o105.1.2) else none)) else none) else (some (xs44, xs45))
def fn25_l2 (F : Nat) : Nat → (List (ByteArray × List Form)) → (List (Int × List Form)) → Int → Option ((List (ByteArray × List Form)) × (List (Int × List Form)))
 | 0, _, _, _ => none
 | n78 + 1, xs44, xs45, x46 => fn25_b2 F (fn25_l2 F n78) xs44 xs45 x46
theorem fn25_l2_s (F : Nat) (n78 : Nat) (xs44 : List (ByteArray × List Form)) (xs45 : List (Int × List Form)) (x46 : Int) : fn25_l2 F (n78 + 1) xs44 xs45 x46 = fn25_b2 F (fn25_l2 F n78) xs44 xs45 x46 := rfl
def fn25_k2 (F : Nat) (xs74 : List (ByteArray × List Form)) (xs75 : List (Int × List Form)) : Option (((List (ByteArray × List Form)) × (List (Int × List Form)))) :=
 Option.bind (fn89 (stepR (fun (s : (List (ByteArray × List Form)) × (List (Int × List Form))) (y : ByteArray × Int) => fn25_r4 F s.1 s.2 y.1 y.2)) goR ((fn49 5 6).1) ((fn49 5 6).2) (((xs74, xs75), 0) : ((List (ByteArray × List Form)) × (List (Int × List Form))) × Nat)) fun o172 => (bif Nat.beq o172.2 0 then (fn25_k4_0 F o172.1.1 o172.1.2) else none)
def fn25_k1_0 (F : Nat) (xs5 : List (ByteArray × List Form)) (xs6 : List (Int × List Form)) : Option (((List (ByteArray × List Form)) × (List (Int × List Form)))) :=
 Option.bind (fn25_l2 F F xs5 xs6 0) fun o76 => (fn25_k2 F o76.1 o76.2)
def fn25 (F : Nat) : Option ((List (ByteArray × List Form)) × (List (Int × List Form))) :=
 Option.bind (fn89 (stepR (fun (s : (List (ByteArray × List Form)) × (List (Int × List Form))) (y : ByteArray × Int) => fn25_r1 F s.1 s.2 y.1 y.2)) goR ((fn49 7 4).1) ((fn49 7 4).2) (((([] : List (ByteArray × List Form)), ([] : List (Int × List Form))), 0) : ((List (ByteArray × List Form)) × (List (Int × List Form))) × Nat)) fun o13 => (bif Nat.beq o13.2 0 then (fn25_k1_0 F o13.1.1 o13.1.2) else none)
theorem c25 (F : Nat) (r : (List (ByteArray × List Form)) × (List (Int × List Form))) (h : fn25 F = some r) : Con Tryz.prog 25 [] [] 0 (.p 0 0) [(0, .cells 94 [.mp 1, .fn (.func 47) [] [], .mp 2, .fn (.func 48) [] []]), (1, .ex (pMR Kn.str Form.E 85 r.1) []), (2, .ex (pMR (Kn.int .u8) Form.E 85 r.2) [])] 3 := by
 rw [fn25] at h
 refine Con.of_body Tryz.func25 rfl Tryz.ntmps25 rfl fun w F0 ρ gl => ?_
 refine RU tbOk false 999 10 [.mr Kn.str Form.E 85, .mr (Kn.int .u8) Form.E 85, .cl true [] (fun _ => c49 7 4 _ rfl)] (aK aN) (by rfl) ?_
 refine RU tbOk false 999 0 [] aN (by rfl) ?_
 obtain ⟨o13, ho14, h⟩ := bd h
 refine G4.imp (s' := ⟨[(1, .p 0 0), (20, .fn (.func 89) [] [.p 1 0, .p 2 0])], [(1, .cells 5 [.v (.int .u8 ((fn49 7 4).1))]), (2, .cells 5 [.v (.int .u8 ((fn49 7 4).2))])] ++ ((fun (s : (List (ByteArray × List Form)) × (List (Int × List Form))) => ([(0, .cells 48 [.p 5 0]), (3, .ex (pMR Kn.str Form.E 85 s.1) []), (4, .ex (pMR (Kn.int .u8) Form.E 85 s.2) []), (5, .cells 94 [.mp 3, .fn (.func 47) [] [], .mp 4, .fn (.func 48) [] []])] : SH)) (([] : List (ByteArray × List Form)), ([] : List (Int × List Form))) ++ []), 6⟩) (Imp.to [3, 4, 5, 0, 1, 2] (by rfl) (by rfl) rfl rfl) ?_
 refine RFO [21, 22] (Yn.two Vn.str (Vn.int .u8)) [(1, .cells 5 [.v (.int .u8 ((fn49 7 4).1))]), (2, .cells 5 [.v (.int .u8 ((fn49 7 4).2))])] (fun (s : (List (ByteArray × List Form)) × (List (Int × List Form))) => [(0, .cells 48 [.p 5 0]), (3, .ex (pMR Kn.str Form.E 85 s.1) []), (4, .ex (pMR (Kn.int .u8) Form.E 85 s.2) []), (5, .cells 94 [.mp 3, .fn (.func 47) [] [], .mp 4, .fn (.func 48) [] []])]) [] 3 2 [1, 2] [.p 0 0, .p 1 0] 5 [.v (.int .u8 ((fn49 7 4).1))] [(1, .cells 5 [.v (.int .u8 ((fn49 7 4).2))])] (fun (s : (List (ByteArray × List Form)) × (List (Int × List Form))) (y : ByteArray × Int) => fn25_r1 F s.1 s.2 y.1 y.2) (([] : List (ByteArray × List Form)), ([] : List (Int × List Form))) o13.1 o13.2 Tryz.call89 (by rfl) (by rfl) (by rfl) (by rfl) (fun _ _ => rfl) (fun _ => trivial) (fun _ => by rfl) (fun yv J => c89 (stepR (fun (s : (List (ByteArray × List Form)) × (List (Int × List Form))) (y : ByteArray × Int) => fn25_r1 F s.1 s.2 y.1 y.2)) goR ((fn49 7 4).1) ((fn49 7 4).2) ((([] : List (ByteArray × List Form)), ([] : List (Int × List Form))), 0) o13 ho14 yv J) ?_ ?_
 ·clear h ho14
  rintro l1 w1 R1 gl1 ρ1 pA pB QA QB ⟨xs5, xs6⟩ ⟨y1, y2⟩ s1' m1' hpB h hbg9 hend10
  change fn25_r1 F xs5 xs6 y1 y2 = _ at h
  rw [fn25_r1] at h
  refine RU tbOk false 999 2 [] aN (by rfl) ?_
  refine hbg9 _ _ _ (by rfl) ?_
  obtain ⟨v11, hv12, h⟩ := bd h
  refine RU tbOk false 999 4 [.cl true [5, 3, 4] (fun _ => c50 F xs5 xs6 y1 y2 _ hv12)] (aK aN) (by rfl) ?_
  refine RU tbOk false 999 0 [] aN (by rfl) ?_
  cases Option.some.inj h
  exact hend10 _ (Imp.to [0, 1, 2, 3, 4, 5, 6] (by rfl) (by rfl) rfl rfl)
 ·intro r15
  refine CDS h (fun h hb194 => ?_) (fun h hb194 => ?_)
  ·rw [show o13.2 = 0 from Nat.eq_of_beq_eq_true hb194]
   change fn25_k1_0 F o13.1.1 o13.1.2 = _ at h
   rw [fn25_k1_0] at h
   refine RU tbOk false 999 3 [.bs (Et.int .i32) ([16, 32, 64] : List Int)] (aR (aR aN)) (by rfl) ?_
   refine G4.imp Imp.mk0 ?_
   obtain ⟨o76, hl77, h⟩ := bd h
   refine CTM 2 (fun rs16 => ⟨[(1, .p 0 0)], [(0, .cells 48 [.p 3 0]), (1, .ex (pMR Kn.str Form.E 85 o76.1) []), (2, .ex (pMR (Kn.int .u8) Form.E 85 o76.2) []), (3, .cells 94 [.mp 1, .fn (.func 47) [] [], .mp 2, .fn (.func 48) [] []]), (4, .bx (fun f => f = [(r15, .deferred (some []))])), (5, .bx (mkB rs16))], 6⟩) ?_ (fun rs16 => ?_)
   ·have h080 := h
    clear h
    refine G4.imp (Imp.to [0, 3, 4, 5, 6, 7, 8] (by rfl) (by rfl) rfl rfl) (LPM (fun (n : Nat) (s : (List (ByteArray × List Form)) × (List (Int × List Form)) × Int) => fn25_l2 F n s.1 s.2.1 s.2.2) (fun (rs16 : List Nat) (s : (List (ByteArray × List Form)) × (List (Int × List Form)) × Int) => ⟨[(1, .p 0 0), (27, .sl 5), (28, .v (.int .i64 (([16, 32, 64] : List Int).length : Int))), (29, .v (.int .i64 s.2.2))], [(0, .cells 48 [.p 3 0]), (1, .ex (pMR Kn.str Form.E 85 s.1) []), (2, .ex (pMR (Kn.int .u8) Form.E 85 s.2.1) []), (3, .cells 94 [.mp 1, .fn (.func 47) [] [], .mp 2, .fn (.func 48) [] []]), (4, .bx (fun f => f = [(r15, .deferred (some []))])), (5, .row (Et.int .i32) 21 ([16, 32, 64] : List Int) 3 .no), (6, .bx (mkB rs16))], 7⟩) (fun _ => rfl) (s0 := (o13.1.1, o13.1.2, 0)) hl77 ?_)
    clear hl77
    rintro R81 n78 ⟨xs44, xs45, x46⟩ rs16 h ih79
    replace h := (fn25_l2_s F n78 xs44 xs45 x46).symm.trans h
    rw [fn25_b2] at h
    refine RU tbOk false 999 1 [] aN (by rfl) ?_
    refine CD h (by rfl) (fun h hb82 => ?_) (fun h hb82 => ?_)
    ·obtain ⟨hk83, h⟩ := ck h
     refine RU tbOk false 999 6 [.bs (Et.int .u8) ([215, 212, 220] : List Int), .cl true [8] (fun _ => c51 str_2 ([215, 212, 220] : List Int) _ rfl)] (aC hk83 (aR (aR (aK aN)))) (by rfl) ?_
     refine RU tbOk false 999 0 [] aN (by rfl) ?_
     refine G4.imp (Imp.row 8 (by rfl)) ?_
     obtain ⟨o105, ho106, h⟩ := bd h
     refine G4.imp (s' := ⟨[(1, .p 0 0), (5, .p 4 0), (27, .sl 2), (28, .v (.int .i64 (([16, 32, 64] : List Int).length : Int))), (29, .v (.int .i64 x46)), (34, .fn (.func 91) [] [.p 6 0, .p 7 0])], [(6, .cells 9 [.v (.string (fn51 str_2 ([215, 212, 220] : List Int)))]), (7, .cells 51 [.sl 5]), (5, .row (Et.int .u8) 5 ([215, 212, 220] : List Int) (([215, 212, 220] : List Int).length) .unk)] ++ ((fun (s : (List (ByteArray × List Form)) × (List (Int × List Form))) => ([(0, .cells 48 [.p 10 0]), (1, .bx (fun f => f = [(r15, .deferred (some []))])), (2, .row (Et.int .i32) 21 ([16, 32, 64] : List Int) 3 .no), (3, .bx (mkB rs16)), (4, .cells 21 [.v (.int .i32 (gt ([16, 32, 64] : List Int) x46))]), (8, .ex (pMR Kn.str Form.E 85 s.1) []), (9, .ex (pMR (Kn.int .u8) Form.E 85 s.2) []), (10, .cells 94 [.mp 8, .fn (.func 47) [] [], .mp 9, .fn (.func 48) [] []])] : SH)) (xs44, xs45) ++ []), 11⟩) (Imp.to [0, 4, 5, 6, 7, 8, 9, 10, 1, 2, 3] (by rfl) (by rfl) rfl rfl) ?_
     refine RFO [35, 36] (Yn.two Vn.str (Vn.int .u8)) [(6, .cells 9 [.v (.string (fn51 str_2 ([215, 212, 220] : List Int)))]), (7, .cells 51 [.sl 5]), (5, .row (Et.int .u8) 5 ([215, 212, 220] : List Int) (([215, 212, 220] : List Int).length) .unk)] (fun (s : (List (ByteArray × List Form)) × (List (Int × List Form))) => [(0, .cells 48 [.p 10 0]), (1, .bx (fun f => f = [(r15, .deferred (some []))])), (2, .row (Et.int .i32) 21 ([16, 32, 64] : List Int) 3 .no), (3, .bx (mkB rs16)), (4, .cells 21 [.v (.int .i32 (gt ([16, 32, 64] : List Int) x46))]), (8, .ex (pMR Kn.str Form.E 85 s.1) []), (9, .ex (pMR (Kn.int .u8) Form.E 85 s.2) []), (10, .cells 94 [.mp 8, .fn (.func 47) [] [], .mp 9, .fn (.func 48) [] []])]) [] 8 3 [6, 7, 5] [.p 0 0, .p 1 0] 9 [.v (.string (fn51 str_2 ([215, 212, 220] : List Int)))] [(1, .cells 51 [.sl 2]), (2, .row (Et.int .u8) 5 ([215, 212, 220] : List Int) ([215, 212, 220] : List Int).length .unk)] (fun (s : (List (ByteArray × List Form)) × (List (Int × List Form))) (y : ByteArray × Int) => fn25_r3 F x46 s.1 s.2 y.1 y.2) (xs44, xs45) o105.1 o105.2 Tryz.call91 (by rfl) (by rfl) (by rfl) (by rfl) (fun _ _ => rfl) (fun _ => trivial) (fun _ => by rfl) (fun yv J => c91 F (stepR (fun (s : (List (ByteArray × List Form)) × (List (Int × List Form))) (y : ByteArray × Int) => fn25_r3 F x46 s.1 s.2 y.1 y.2)) goR (fn51 str_2 ([215, 212, 220] : List Int)) ([215, 212, 220] : List Int) ((xs44, xs45), 0) o105 ho106 yv J) ?_ ?_
     ·clear h ho106
      rintro l1 w1 R1 gl1 ρ1 pA pB QA QB ⟨xs91, xs92⟩ ⟨y84, y85⟩ s1' m1' hpB h hbg98 hend99
      change fn25_r3 F x46 xs91 xs92 y84 y85 = _ at h
      rw [fn25_r3] at h
      refine RU tbOk false 999 2 [] aN (by rfl) ?_
      refine hbg98 _ _ _ (by rfl) ?_
      refine RU tbOk false 999 0 [] aN (by rfl) ?_
      obtain ⟨v100, hv101, h⟩ := bd h
      obtain ⟨hk102, h⟩ := ck h
      obtain ⟨v103, hv104, h⟩ := bd h
      refine DR tbOk hmix [] [([0], []), ([], []), ([4], []), ([], []), ([], []), ([], []), ([], []), ([4], []), ([], []), ([], []), ([], []), ([8, 9, 10, 12], [8, 9])] [.cl true [] (fun _ => c53 (IntKind.i64.wrap (gt ([16, 32, 64] : List Int) x46)) _ hv101), .st, .bs Form.E ([(⟨y84 ++ v100, (⟨#[68]⟩ : ByteArray), (⟨y85, 0, 0, 0, gt ([16, 32, 64] : List Int) x46⟩ : Instr)⟩ : Form)] : List Form), .cl true [10, 8, 9, 12] (fun _ => c52 F xs91 xs92 ([(⟨y84 ++ v100, (⟨#[68]⟩ : ByteArray), (⟨y85, 0, 0, 0, gt ([16, 32, 64] : List Int) x46⟩ : Instr)⟩ : Form)] : List Form) _ hv104)] (aR (aR (aK (aC hk102 (aR (aR (aR (aR (aK aN))))))))) (by rfl) ?_
      refine RU tbOk false 999 0 [] aN (by rfl) ?_
      cases Option.some.inj h
      exact hend99 _ (Imp.to [0, 1, 2, 3, 4, 5, 6, 7, 8, 9, 10, 11] (by rfl) (by rfl) rfl rfl)
     ·intro r107
      refine CDS h (fun h hb108 => ?_) (fun h hb108 => ?_)
      ·rw [show o105.2 = 0 from Nat.eq_of_beq_eq_true hb108]
       change fn25_k3_0 x46 (fn25_l2 F n78) o105.1.1 o105.1.2 = _ at h
       rw [fn25_k3_0] at h
       refine G4.imp (Imp.joinM 11 3 (by rfl) (by rfl)) ?_
       refine RU tbOk false 999 2 [] aN (by rfl) ?_
       exact ih79 (r107 :: rs16) (o105.1.1, o105.1.2, IntKind.i64.wrap (x46 + 1)) h _ _ (Imp.to [0, 8, 9, 10, 1, 2, 3] (by rfl) (by rfl) rfl rfl)
      cases h
    ·refine RU tbOk false 999 0 [] aN (by rfl) ?_
     have ho := Option.some.inj h
     subst ho
     exact CEM rs16 (Imp.to [0, 1, 2, 3, 4, 6] (by rfl) (by rfl) rfl rfl)
   ·change fn25_k2 F o76.1 o76.2 = _ at h
    rw [fn25_k2] at h
    refine RU tbOk false 999 1 [.cl true [] (fun _ => c49 5 6 _ rfl)] (aK aN) (by rfl) ?_
    refine RU tbOk false 999 0 [] aN (by rfl) ?_
    obtain ⟨o172, ho173, h⟩ := bd h
    refine G4.imp (s' := ⟨[(1, .p 0 0), (50, .fn (.func 89) [] [.p 3 0, .p 4 0])], [(3, .cells 5 [.v (.int .u8 ((fn49 5 6).1))]), (4, .cells 5 [.v (.int .u8 ((fn49 5 6).2))])] ++ ((fun (s : (List (ByteArray × List Form)) × (List (Int × List Form))) => ([(0, .cells 48 [.p 7 0]), (1, .bx (fun f => f = [(r15, .deferred (some []))])), (2, .bx (mkB rs16)), (5, .ex (pMR Kn.str Form.E 85 s.1) []), (6, .ex (pMR (Kn.int .u8) Form.E 85 s.2) []), (7, .cells 94 [.mp 5, .fn (.func 47) [] [], .mp 6, .fn (.func 48) [] []])] : SH)) (o76.1, o76.2) ++ []), 8⟩) (Imp.to [0, 4, 5, 6, 7, 1, 2, 3] (by rfl) (by rfl) rfl rfl) ?_
    refine RFO [51, 52] (Yn.two Vn.str (Vn.int .u8)) [(3, .cells 5 [.v (.int .u8 ((fn49 5 6).1))]), (4, .cells 5 [.v (.int .u8 ((fn49 5 6).2))])] (fun (s : (List (ByteArray × List Form)) × (List (Int × List Form))) => [(0, .cells 48 [.p 7 0]), (1, .bx (fun f => f = [(r15, .deferred (some []))])), (2, .bx (mkB rs16)), (5, .ex (pMR Kn.str Form.E 85 s.1) []), (6, .ex (pMR (Kn.int .u8) Form.E 85 s.2) []), (7, .cells 94 [.mp 5, .fn (.func 47) [] [], .mp 6, .fn (.func 48) [] []])]) [] 5 2 [3, 4] [.p 0 0, .p 1 0] 5 [.v (.int .u8 ((fn49 5 6).1))] [(1, .cells 5 [.v (.int .u8 ((fn49 5 6).2))])] (fun (s : (List (ByteArray × List Form)) × (List (Int × List Form))) (y : ByteArray × Int) => fn25_r4 F s.1 s.2 y.1 y.2) (o76.1, o76.2) o172.1 o172.2 Tryz.call89 (by rfl) (by rfl) (by rfl) (by rfl) (fun _ _ => rfl) (fun _ => trivial) (fun _ => by rfl) (fun yv J => c89 (stepR (fun (s : (List (ByteArray × List Form)) × (List (Int × List Form))) (y : ByteArray × Int) => fn25_r4 F s.1 s.2 y.1 y.2)) goR ((fn49 5 6).1) ((fn49 5 6).2) ((o76.1, o76.2), 0) o172 ho173 yv J) ?_ ?_
    ·clear h ho173
     rintro l1 w1 R1 gl1 ρ1 pA pB QA QB ⟨xs130, xs131⟩ ⟨y109, y110⟩ s1' m1' hpB h hbg151 hend152
     change fn25_r4 F xs130 xs131 y109 y110 = _ at h
     rw [fn25_r4] at h
     refine RU tbOk false 999 4 [] aN (by rfl) ?_
     refine hbg151 _ _ _ (by rfl) ?_
     refine RU tbOk false 999 1 [.cl true [] (fun _ => c54 _ rfl)] (aK aN) (by rfl) ?_
     refine RU tbOk false 999 0 [] aN (by rfl) ?_
     refine G4.imp (Imp.row 13 (by rfl)) ?_
     obtain ⟨o168, ho169, h⟩ := bd h
     refine G4.imp (s' := ⟨[(1, .p 0 0), (8, .p 6 0), (9, .p 7 0), (53, .fn (.func 91) [] [.p 8 0, .p 9 0])], [(8, .cells 9 [.v (.string ((fn54).1))]), (9, .cells 51 [.sl 10]), (10, .row (Et.int .u8) 5 ((fn54).2) (((fn54).2).length) .unk)] ++ ((fun (s : (List (ByteArray × List Form)) × (List (Int × List Form))) => ([(0, .cells 48 [.p 13 0]), (1, .bx (fun f => f = [(r15, .deferred (some []))])), (2, .bx (mkB rs16)), (5, .bx pB), (6, .cells 9 [.v (.string y109)]), (7, .cells 5 [.v (.int .u8 y110)]), (11, .ex (pMR Kn.str Form.E 85 s.1) []), (12, .ex (pMR (Kn.int .u8) Form.E 85 s.2) []), (13, .cells 94 [.mp 11, .fn (.func 47) [] [], .mp 12, .fn (.func 48) [] []])] : SH)) (xs130, xs131) ++ []), 14⟩) (Imp.to [0, 1, 2, 3, 4, 8, 9, 10, 11, 12, 13, 5, 6, 7] (by rfl) (by rfl) rfl rfl) ?_
     refine RFN [54, 55] (Yn.two Vn.str (Vn.int .u8)) [(8, .cells 9 [.v (.string ((fn54).1))]), (9, .cells 51 [.sl 10]), (10, .row (Et.int .u8) 5 ((fn54).2) (((fn54).2).length) .unk)] (fun (s : (List (ByteArray × List Form)) × (List (Int × List Form))) => [(0, .cells 48 [.p 13 0]), (1, .bx (fun f => f = [(r15, .deferred (some []))])), (2, .bx (mkB rs16)), (5, .bx pB), (6, .cells 9 [.v (.string y109)]), (7, .cells 5 [.v (.int .u8 y110)]), (11, .ex (pMR Kn.str Form.E 85 s.1) []), (12, .ex (pMR (Kn.int .u8) Form.E 85 s.2) []), (13, .cells 94 [.mp 11, .fn (.func 47) [] [], .mp 12, .fn (.func 48) [] []])]) [] 11 3 [8, 9, 10] [.p 0 0, .p 1 0] 9 [.v (.string ((fn54).1))] [(1, .cells 51 [.sl 2]), (2, .row (Et.int .u8) 5 ((fn54).2) ((fn54).2).length .unk)] (fun (s : (List (ByteArray × List Form)) × (List (Int × List Form))) (y : ByteArray × Int) => fn25_r5 F y109 y110 s.1 s.2 y.1 y.2) (xs130, xs131) o168.1 o168.2 5 Tryz.call91 (by rfl) (by rfl) (by rfl) (by rfl) (fun _ _ => rfl) (fun _ => trivial) (fun _ => by rfl) (fun yv J => c91 F (stepR (fun (s : (List (ByteArray × List Form)) × (List (Int × List Form))) (y : ByteArray × Int) => fn25_r5 F y109 y110 s.1 s.2 y.1 y.2)) goR ((fn54).1) ((fn54).2) ((xs130, xs131), 0) o168 ho169 yv J) ?_ (by rfl) hpB ?_
     ·clear h ho169
      rintro l1 w1 R1 gl1 ρ1 pAn pBn QA QB ⟨xs158, xs159⟩ ⟨y153, y154⟩ s1' m1' hpBn h hbg163 hend164
      change fn25_r5 F y109 y110 xs158 xs159 y153 y154 = _ at h
      rw [fn25_r5] at h
      refine RU tbOk false 999 2 [] aN (by rfl) ?_
      refine hbg163 _ _ _ (by rfl) ?_
      obtain ⟨hk165, h⟩ := ck h
      obtain ⟨v166, hv167, h⟩ := bd h
      refine RU tbOk false 999 8 [.st, .cl true [13, 11, 12] (fun _ => c55 F xs158 xs159 (y153 ++ y109) (⟨#[79]⟩ : ByteArray) (ior .u8 y110 y154) 0 _ hv167)] (aC hk165 (aK aN)) (by rfl) ?_
      refine RU tbOk false 999 0 [] aN (by rfl) ?_
      cases Option.some.inj h
      exact hend164 _ (Imp.to [0, 1, 2, 3, 4, 5, 6, 7, 8, 9, 10, 11, 12, 13, 14] (by rfl) (by rfl) rfl rfl)
     ·refine CDS h (fun h hb171 => ?_) (fun h hb171 => ?_)
      ·rw [show o168.2 = 0 from Nat.eq_of_beq_eq_true hb171]
       change fn25_k5_0 o168.1.1 o168.1.2 = _ at h
       rw [fn25_k5_0] at h
       refine RU tbOk false 999 0 [] aN (by rfl) ?_
       cases Option.some.inj h
       exact hend152 _ (Imp.to [0, 1, 2, 3, 4, 11, 12, 13, 5] (by rfl) (by rfl) rfl rfl)
      cases h
    ·intro r174
     refine CDS h (fun h hb193 => ?_) (fun h hb193 => ?_)
     ·rw [show o172.2 = 0 from Nat.eq_of_beq_eq_true hb193]
      change fn25_k4_0 F o172.1.1 o172.1.2 = _ at h
      rw [fn25_k4_0] at h
      refine G4.imp (Imp.joinM 8 2 (by rfl) (by rfl)) ?_
      refine RU tbOk false 999 0 [] aN (by rfl) ?_
      obtain ⟨v175, hv176, h⟩ := bd h
      refine DR tbOk hmix [] [([0], []), ([], []), ([], []), ([], []), ([], []), ([], []), ([], []), ([], []), ([], []), ([], []), ([], []), ([], []), ([], []), ([], []), ([5, 6, 7, 9], [5, 6])] [.cl true [] (fun _ => c56 0 _ rfl), .cl true [] (fun _ => c56 1 _ rfl), .bs Form.E ([(⟨(⟨#[106, 97]⟩ : ByteArray), (⟨#[79]⟩ : ByteArray), (⟨5, 0, 0, 0, 0⟩ : Instr)⟩ : Form), (⟨(⟨#[106, 97, 108]⟩ : ByteArray), (⟨#[73]⟩ : ByteArray), (⟨6, 0, 0, 0, 0⟩ : Instr)⟩ : Form), (⟨(⟨#[99, 97, 108, 108]⟩ : ByteArray), (⟨#[73]⟩ : ByteArray), (⟨133, 0, 0, 0, 0⟩ : Instr)⟩ : Form), (⟨(⟨#[101, 120, 105, 116]⟩ : ByteArray), (⟨#[]⟩ : ByteArray), (⟨149, 0, 0, 0, 0⟩ : Instr)⟩ : Form), (⟨(⟨#[108, 100, 100, 119]⟩ : ByteArray), (⟨#[68, 78]⟩ : ByteArray), (fn56 0)⟩ : Form), (⟨(⟨#[108, 100, 109, 97, 112]⟩ : ByteArray), (⟨#[68, 73]⟩ : ByteArray), (fn56 1)⟩ : Form)] : List Form), .cl true [7, 5, 6, 9] (fun _ => c52 F o172.1.1 o172.1.2 ([(⟨(⟨#[106, 97]⟩ : ByteArray), (⟨#[79]⟩ : ByteArray), (⟨5, 0, 0, 0, 0⟩ : Instr)⟩ : Form), (⟨(⟨#[106, 97, 108]⟩ : ByteArray), (⟨#[73]⟩ : ByteArray), (⟨6, 0, 0, 0, 0⟩ : Instr)⟩ : Form), (⟨(⟨#[99, 97, 108, 108]⟩ : ByteArray), (⟨#[73]⟩ : ByteArray), (⟨133, 0, 0, 0, 0⟩ : Instr)⟩ : Form), (⟨(⟨#[101, 120, 105, 116]⟩ : ByteArray), (⟨#[]⟩ : ByteArray), (⟨149, 0, 0, 0, 0⟩ : Instr)⟩ : Form), (⟨(⟨#[108, 100, 100, 119]⟩ : ByteArray), (⟨#[68, 78]⟩ : ByteArray), (fn56 0)⟩ : Form), (⟨(⟨#[108, 100, 109, 97, 112]⟩ : ByteArray), (⟨#[68, 73]⟩ : ByteArray), (fn56 1)⟩ : Form)] : List Form) _ hv176)] (aR (aK (aK (aR (aR (aR (aK aN))))))) (by rfl) ?_
      refine RU tbOk false 999 1 [.cl true [] (fun _ => c57 _ rfl)] (aK aN) (by rfl) ?_
      refine RU tbOk false 999 0 [] aN (by rfl) ?_
      refine G4.imp (Imp.row 12 (by rfl)) ?_
      obtain ⟨o189, ho190, h⟩ := bd h
      refine G4.imp (s' := ⟨[(1, .p 0 0), (79, .fn (.func 91) [] [.p 3 0, .p 4 0])], [(3, .cells 9 [.v (.string ((fn57).1))]), (4, .cells 51 [.sl 5]), (5, .row (Et.int .u8) 5 ((fn57).2) (((fn57).2).length) .unk)] ++ ((fun (s : (List (ByteArray × List Form)) × (List (Int × List Form))) => ([(0, .cells 48 [.p 8 0]), (1, .bx (fun f => f = [(r15, .deferred (some []))])), (2, .bx (mkB (r174 :: rs16))), (6, .ex (pMR Kn.str Form.E 85 s.1) []), (7, .ex (pMR (Kn.int .u8) Form.E 85 s.2) []), (8, .cells 94 [.mp 6, .fn (.func 47) [] [], .mp 7, .fn (.func 48) [] []])] : SH)) (v175.1, v175.2) ++ []), 9⟩) (Imp.to [0, 1, 2, 10, 11, 12, 5, 6, 7] (by rfl) (by rfl) rfl rfl) ?_
      refine RFO [80, 81] (Yn.two Vn.str (Vn.int .u8)) [(3, .cells 9 [.v (.string ((fn57).1))]), (4, .cells 51 [.sl 5]), (5, .row (Et.int .u8) 5 ((fn57).2) (((fn57).2).length) .unk)] (fun (s : (List (ByteArray × List Form)) × (List (Int × List Form))) => [(0, .cells 48 [.p 8 0]), (1, .bx (fun f => f = [(r15, .deferred (some []))])), (2, .bx (mkB (r174 :: rs16))), (6, .ex (pMR Kn.str Form.E 85 s.1) []), (7, .ex (pMR (Kn.int .u8) Form.E 85 s.2) []), (8, .cells 94 [.mp 6, .fn (.func 47) [] [], .mp 7, .fn (.func 48) [] []])]) [] 6 3 [3, 4, 5] [.p 0 0, .p 1 0] 9 [.v (.string ((fn57).1))] [(1, .cells 51 [.sl 2]), (2, .row (Et.int .u8) 5 ((fn57).2) ((fn57).2).length .unk)] (fun (s : (List (ByteArray × List Form)) × (List (Int × List Form))) (y : ByteArray × Int) => fn25_r6 F s.1 s.2 y.1 y.2) (v175.1, v175.2) o189.1 o189.2 Tryz.call91 (by rfl) (by rfl) (by rfl) (by rfl) (fun _ _ => rfl) (fun _ => trivial) (fun _ => by rfl) (fun yv J => c91 F (stepR (fun (s : (List (ByteArray × List Form)) × (List (Int × List Form))) (y : ByteArray × Int) => fn25_r6 F s.1 s.2 y.1 y.2)) goR ((fn57).1) ((fn57).2) ((v175.1, v175.2), 0) o189 ho190 yv J) ?_ ?_
      ·clear h ho190
       rintro l1 w1 R1 gl1 ρ1 pA pB QA QB ⟨xs181, xs182⟩ ⟨y177, y178⟩ s1' m1' hpB h hbg185 hend186
       change fn25_r6 F xs181 xs182 y177 y178 = _ at h
       rw [fn25_r6] at h
       refine RU tbOk false 999 2 [] aN (by rfl) ?_
       refine hbg185 _ _ _ (by rfl) ?_
       obtain ⟨v187, hv188, h⟩ := bd h
       refine RU tbOk false 999 4 [.cl true [8, 6, 7] (fun _ => c58 F xs181 xs182 y177 y178 _ hv188)] (aK aN) (by rfl) ?_
       refine RU tbOk false 999 0 [] aN (by rfl) ?_
       cases Option.some.inj h
       exact hend186 _ (Imp.to [0, 1, 2, 3, 4, 5, 6, 7, 8, 9] (by rfl) (by rfl) rfl rfl)
      ·intro r191
       refine CDS h (fun h hb192 => ?_) (fun h hb192 => ?_)
       ·rw [show o189.2 = 0 from Nat.eq_of_beq_eq_true hb192]
        change fn25_k6_0 o189.1.1 o189.1.2 = _ at h
        rw [fn25_k6_0] at h
        refine G4.imp (Imp.joinM 9 2 (by rfl) (by rfl)) ?_
        refine RU tbOk false 999 2 [] aN (by rfl) ?_
        have hr := Option.some.inj h
        subst hr
        refine G4.imp (Imp.joinT 1 2 (by rfl) (by rfl)) ?_
        exact RTMsD tbOk.t 2 ((r191 :: r174 :: rs16) ++ [r15]) (by simp [collsL, C4.md, c0]) rfl Tryz.results25 [8, 6, 7] (by rfl) (by rfl) (by rfl) rfl rfl
       cases h
     cases h
  cases h
def fn33 (p0 : ByteArray) : ByteArray :=
 p0
theorem c33 (p0 : ByteArray) (r : ByteArray) (h : fn33 p0 = r) : Con Tryz.prog 33 [.v (.string p0)] [] 0 (.fn (.func 69) [] [.p 0 0]) [(0, .cells 9 [.v (.string r)])] 1 := by
 rw [fn33] at h
 refine Con.of_body Tryz.func33 rfl Tryz.ntmps33 rfl fun w F0 ρ gl => ?_
 refine RU tbOk false 999 4 [] aN (by rfl) ?_
 subst h
 exact RT tbOk.t Tryz.results33 [0] (by rfl) (by rfl) (by rfl) rfl rfl
def fn69_b1 {σ : Type} (step : σ → (Int × ByteArray) → Option σ) (go : σ → Bool) (pn : σ → Bool) (v1 : List ByteArray) (rl1 : σ → Int → Option ((σ) ⊕ ((σ ⊕ σ)))) (xs12 : σ) (x13 : Int) : Option ((σ) ⊕ ((σ ⊕ σ))) :=
 bif decide (x13 < (v1.length : Int)) then (bif inb x13 v1.length then (bif (gt v1 x13).toList != (⟨#[]⟩ : ByteArray).toList then (bif pnO pn (step xs12 (IntKind.i64.wrap (x13 + 1), gt v1 x13)) then (Option.bind (step xs12 (IntKind.i64.wrap (x13 + 1), gt v1 x13)) fun u34 => (some (.inr ((.inl u34))))) else (Option.bind (step xs12 (IntKind.i64.wrap (x13 + 1), gt v1 x13)) fun u36 => (bif !(go u36) then (some (.inr ((.inr u36)))) else (rl1 u36 (IntKind.i64.wrap (x13 + 1)))))) else (rl1 xs12 (IntKind.i64.wrap (x13 + 1)))) else none) else (some (.inl xs12))
def fn69_l1 {σ : Type} (step : σ → (Int × ByteArray) → Option σ) (go : σ → Bool) (pn : σ → Bool) (v1 : List ByteArray) : Nat → σ → Int → Option ((σ) ⊕ ((σ ⊕ σ)))
 | 0, _, _ => none
 | n26 + 1, xs12, x13 => fn69_b1 step go pn v1 (fn69_l1 step go pn v1 n26) xs12 x13
theorem fn69_l1_s {σ : Type} (step : σ → (Int × ByteArray) → Option σ) (go : σ → Bool) (pn : σ → Bool) (v1 : List ByteArray) (n26 : Nat) (xs12 : σ) (x13 : Int) : fn69_l1 step go pn v1 (n26 + 1) xs12 x13 = fn69_b1 step go pn v1 (fn69_l1 step go pn v1 n26) xs12 x13 := rfl
def fn69_k1 {σ : Type} (xs23 : σ) : Option ((σ ⊕ σ)) :=
 some ((.inr xs23))
def fn69 {σ : Type} (F : Nat) (step : σ → (Int × ByteArray) → Option σ) (go : σ → Bool) (pn : σ → Bool) (p0 : ByteArray) (s0 : σ) : Option (σ ⊕ σ) :=
 Option.bind (fn17 p0 (⟨#[10]⟩ : ByteArray)) fun v1 => (Option.bind (fn69_l1 step go pn v1 F s0 0) fun o24 => (match o24 with | .inl u => fn69_k1 u | .inr u => some u))
theorem c69 {σ : Type} (F : Nat) (step : σ → (Int × ByteArray) → Option σ) (go : σ → Bool) (pn : σ → Bool) (p0 : ByteArray) (s0 : σ) (r : σ ⊕ σ) (h : fn69 F step go pn p0 s0 = some r) (pvl : σ → Value) (yv : Value) (J : σ → Blocks → Prop) : ConYO Tryz.prog 69 [.v yv, .p 0 0] [(0, .cells 9 [.v (.string p0)]), (1, .bx (J s0))] 2 (match r with | .inl r => .pan (pvl r) [(0, .cells 9 [.v (.string p0)]), (1, .bx (J r))] 2 | .inr r => .ret (.tu []) [(0, .cells 9 [.v (.string p0)]), (1, .bx (J r))] 2) (fun w R ρ => YldYP Tryz.prog w R ρ 0 yv J (Yn.two (Vn.int .i64) Vn.str) step go pn pvl) := by
 rw [fn69] at h
 refine ConYO.of_body Tryz.func69 Tryz.ntmps69 fun w F0 ρ gl hy => ?_
 obtain ⟨v1, hv2, h⟩ := bd h
 refine RU tbOk false 999 2 [.cl true [] (fun _ => c17 p0 (⟨#[10]⟩ : ByteArray) _ hv2)] (aK aN) (by rfl) ?_
 refine RU tbOk false 999 2 [] aN (by rfl) ?_
 obtain ⟨o24, hl25, h⟩ := bd h
 refine CTS 0 (fun u39 => ⟨[], [(0, .cells 9 [.v (.string p0)]), (1, .bx (J u39))], 2⟩) o24 ?_ (fun u39 hu39 => ?_)
 ·have h028 := h
  clear h
  refine G4.imp (Imp.to [0, 1, 2] (by rfl) (by rfl) rfl rfl) (LP (fun (n : Nat) (s : σ × Int) => fn69_l1 step go pn v1 n s.1 s.2) (fun (s : σ × Int) => ⟨[(0, .v yv), (6, .sl 2), (7, .v (.int .i64 (v1.length : Int))), (8, .v (.int .i64 s.2))], [(0, .cells 9 [.v (.string p0)]), (1, .bx (J s.1)), (2, .row Et.str 9 v1 v1.length .unk)], 3⟩) (fun _ => rfl) (s0 := (s0, 0)) hl25 ?_)
  clear hl25
  rintro R29 n26 ⟨xs12, x13⟩ h ih27
  replace h := (fn69_l1_s step go pn v1 n26 xs12 x13).symm.trans h
  rw [fn69_b1] at h
  refine RU tbOk false 999 1 [] aN (by rfl) ?_
  refine CD h (by rfl) (fun h hb30 => ?_) (fun h hb30 => ?_)
  ·obtain ⟨hk31, h⟩ := ck h
   refine RU tbOk false 999 7 [] (aC hk31 aN) (by rfl) ?_
   refine CDS h (fun h hb32 => ?_) (fun h hb32 => ?_)
   ·refine RU (tbOk.lit [(14, 15, true)]) false 999 5 [] (aC hb32 aN) (by rfl) ?_
    refine CDS h (fun h hb33 => ?_) (fun h hb33 => ?_)
    ·obtain ⟨u34, hu35, h⟩ := bd h
     refine RU (tbOk.lit [(14, 15, true)]) false 999 0 [] aN (by rfl) ?_
     refine G4.imp Imp.refl ?_
     refine YX_ [(14, 15, true)] 1 (IntKind.i64.wrap (x13 + 1), gt v1 x13) hy rfl hu35 (pnO_t hb33 hu35) ?_
     refine RU tbOk false 999 0 [] aN (by rfl) ?_
     have ho := Option.some.inj h
     subst ho
     replace h := h028
     refine RU tbOk false 999 0 [] aN (by rfl) ?_
     have hr := Option.some.inj h
     subst hr
     exact TP_ [0, 1]
    ·obtain ⟨u36, hu37, h⟩ := bd h
     refine RU (tbOk.lit [(14, 15, true)]) false 999 1 [.yd 1 (IntKind.i64.wrap (x13 + 1), gt v1 x13) hy.nm rfl (stepN_of hu37 (pnO_f hb33 hu37))] (aR (aR (aR aN))) (by rfl) ?_
     refine RU (tbOk.lit [(14, 15, true)]) false 999 2 [] aN (by rfl) ?_
     refine RU tbOk false 999 0 [] aN (by rfl) ?_
     refine CD h (by rfl) (fun h hb38 => ?_) (fun h hb38 => ?_)
     ·refine RU tbOk false 999 0 [] aN (by rfl) ?_
      have ho := Option.some.inj h
      subst ho
      replace h := h028
      refine RU tbOk false 999 0 [] aN (by rfl) ?_
      have hr := Option.some.inj h
      subst hr
      exact TO_ tbOk.t Tryz.results69 [0, 1]
     ·refine RU tbOk false 999 2 [] aN (by rfl) ?_
      exact ih27 (u36, IntKind.i64.wrap (x13 + 1)) h _ _ (Imp.to [0, 1, 2] (by rfl) (by rfl) rfl rfl)
   ·refine RU (tbOk.lit [(14, 15, false)]) false 999 6 [] (aC hb32 aN) (by rfl) ?_
    refine RU (tbOk.lit [(14, 15, false)]) false 999 2 [] aN (by rfl) ?_
    refine RU tbOk false 999 0 [] aN (by rfl) ?_
    refine CDF rfl (by rfl) ?_
    refine RU tbOk false 999 2 [] aN (by rfl) ?_
    exact ih27 (xs12, IntKind.i64.wrap (x13 + 1)) h _ _ (Imp.to [0, 1, 2] (by rfl) (by rfl) rfl rfl)
  ·refine RU tbOk false 999 0 [] aN (by rfl) ?_
   have ho := Option.some.inj h
   subst ho
   exact CES _ rfl (Imp.to [0, 1] (by rfl) (by rfl) rfl rfl)
 ·subst hu39
  change fn69_k1 u39 = _ at h
  rw [fn69_k1] at h
  refine RU tbOk false 999 0 [] aN (by rfl) ?_
  have hr := Option.some.inj h
  subst hr
  exact TNO_ tbOk.t Tryz.results69 [0, 1]
def fn70 (p0 : Bool) : Option (Int ⊕ Unit) :=
 bif !p0 then (some ((.inl 25))) else (some ((.inr ())))
theorem c70 (p0 : Bool) (r : Int ⊕ Unit) (h : fn70 p0 = some r) : ConO Tryz.prog 70 [.v (.bool p0)] [] 0 (match r with | .inl r => .pan (.iface 35 (.int .i64 r)) [] 0 | .inr r => .ret (.tu []) [] 0) := by
 rw [fn70] at h
 refine ConO.of_body Tryz.func70 Tryz.ntmps70 fun w F0 ρ gl => ?_
 refine RU tbOk false 999 2 [] aN (by rfl) ?_
 refine CD h (by rfl) (fun h hb1 => ?_) (fun h hb1 => ?_)
 ·refine RU tbOk false 999 1 [.mi] aN (by rfl) ?_
  refine PX_ ?_
  refine RU tbOk false 999 0 [] aN (by rfl) ?_
  have hr := Option.some.inj h
  subst hr
  exact TP_ []
 ·refine RU tbOk false 999 0 [] aN (by rfl) ?_
  have hr := Option.some.inj h
  subst hr
  exact TNO_ tbOk.t Tryz.results70 []
theorem c70_0 (p0 : Bool) (r : Int) (h : fn70 p0 = some (.inl r)) : ConX Tryz.prog 70 [.v (.bool p0)] [] 0 (.iface 35 (.int .i64 r)) [] 0 := c70 p0 _ h
theorem c70_1 (p0 : Bool) (r : Unit) (h : fn70 p0 = some (.inr r)) : Con Tryz.prog 70 [.v (.bool p0)] [] 0 (.tu []) [] 0 := c70 p0 _ h
def fn71 (p0 : ByteArray) (p1 : Int) : Option (Int ⊕ Int) :=
 frk2 (fn101 p0 10 p1) (fun v1 => Option.bind (fn100 v1 10) fun v3 => (frk2 (fn70 (v3.toList == p0.toList)) (fun v5 => some ((.inl v5))) (fun v7 => some ((.inr v1))))) (fun v9 => frk2 (fn70 false) (fun v11 => some ((.inl v11))) (fun v13 => some ((.inr v9))))
theorem c71 (p0 : ByteArray) (p1 : Int) (r : Int ⊕ Int) (h : fn71 p0 p1 = some r) : ConO Tryz.prog 71 [.v (.string p0), .v (.int .i64 p1)] [] 0 (match r with | .inl r => .pan (.iface 35 (.int .i64 r)) [] 0 | .inr r => .ret (.v (.int .i64 r)) [] 0) := by
 rw [fn71] at h
 refine ConO.of_body Tryz.func71 Tryz.ntmps71 fun w F0 ρ gl => ?_
 refine RU tbOk false 999 3 [] aN (by rfl) ?_
 refine fk2 h (fun v1 hv2 h => ?_) (fun v9 hv10 h => ?_)
 ·refine RU tbOk false 999 1 [.cl true [] (fun _ => c101_0 p0 10 p1 v1 hv2)] (aK aN) (by rfl) ?_
  obtain ⟨v3, hv4, h⟩ := bd h
  refine RU (tbOk.lit [(14, 15, true)]) false 999 10 [.ni, .cl true [] (fun _ => c100 v1 10 _ hv4)] (aC rfl (aK aN)) (by rfl) ?_
  refine RU (tbOk.lit [(14, 15, true)]) false 999 3 [] aN (by rfl) ?_
  refine fk2 h (fun v5 hv6 h => ?_) (fun v7 hv8 h => ?_)
  ·refine RU tbOk false 999 0 [] aN (by rfl) ?_
   refine G4.imp Imp.refl ?_
   refine CX_ tbOk [] (c70_0 (v3.toList == p0.toList) v5 hv6) (aK aN) ?_
   refine RU tbOk false 999 0 [] aN (by rfl) ?_
   have hr := Option.some.inj h
   subst hr
   exact TP_ []
  ·refine RU tbOk false 999 1 [.cl true [] (fun _ => c70_1 (v3.toList == p0.toList) v7 hv8)] (aK aN) (by rfl) ?_
   refine RU tbOk false 999 0 [] aN (by rfl) ?_
   refine RU tbOk false 999 2 [] aN (by rfl) ?_
   have hr := Option.some.inj h
   subst hr
   exact TO_ tbOk.t Tryz.results71 []
 ·refine RU tbOk false 999 1 [.cl true [] (fun _ => c101_1 p0 10 p1 v9 hv10)] (aK aN) (by rfl) ?_
  refine RU (tbOk.lit [(14, 15, false)]) false 999 10 [.nf] (aC rfl aN) (by rfl) ?_
  refine RU (tbOk.lit [(14, 15, false)]) false 999 3 [] aN (by rfl) ?_
  refine fk2 h (fun v11 hv12 h => ?_) (fun v13 hv14 h => ?_)
  ·refine RU tbOk false 999 0 [] aN (by rfl) ?_
   refine G4.imp Imp.refl ?_
   refine CX_ tbOk [] (c70_0 false v11 hv12) (aK aN) ?_
   refine RU tbOk false 999 0 [] aN (by rfl) ?_
   have hr := Option.some.inj h
   subst hr
   exact TP_ []
  ·refine RU tbOk false 999 1 [.cl true [] (fun _ => c70_1 false v13 hv14)] (aK aN) (by rfl) ?_
   refine RU tbOk false 999 0 [] aN (by rfl) ?_
   refine RU tbOk false 999 2 [] aN (by rfl) ?_
   have hr := Option.some.inj h
   subst hr
   exact TO_ tbOk.t Tryz.results71 []
theorem c71_0 (p0 : ByteArray) (p1 : Int) (r : Int) (h : fn71 p0 p1 = some (.inl r)) : ConX Tryz.prog 71 [.v (.string p0), .v (.int .i64 p1)] [] 0 (.iface 35 (.int .i64 r)) [] 0 := c71 p0 p1 _ h
theorem c71_1 (p0 : ByteArray) (p1 : Int) (r : Int) (h : fn71 p0 p1 = some (.inr r)) : Con Tryz.prog 71 [.v (.string p0), .v (.int .i64 p1)] [] 0 (.v (.int .i64 r)) [] 0 := c71 p0 p1 _ h
def fn102 (p0 : List Instr) (p1 : Bool) (pe : Int) : (List Instr) × Bool :=
 (([] : List Instr), false)
theorem c102 (p0 : List Instr) (p1 : Bool) (pe : Int) (r : (List Instr) × Bool) (h : fn102 p0 p1 pe = r) : ConD Tryz.prog 102 [.p 0 0, .p 2 0] [(0, .cells 24 [.sl 1]), (1, .rd Instr.E p0), (2, .cells 4 [.v (.bool p1)])] 3 (.pan (.iface 35 (.int .i64 pe))) [(0, .cells 24 [.sl 3]), (2, .cells 4 [.v (.bool r.2)]), (3, .row Instr.E 32 r.1 r.1.length .unk)] 4 := by
 rw [fn102] at h
 refine ConD.of_body Tryz.func102 Tryz.ntmps102 fun w F0 ρ gl => ?_
 refine RU tbOk false 999 2 [.ni] aN (by rfl) ?_
 refine CDT rfl (by rfl) ?_
 refine RU tbOk false 999 9 [.ta] aN (by rfl) ?_
 refine CDF rfl (by rfl) ?_
 refine RU tbOk false 999 2 [] aN (by rfl) ?_
 subst h
 refine G4.imp (Imp.nilC Instr.E 32 0 0 (by rfl) (by rfl) (by rfl)) ?_
 refine G4.imp (Imp.row 3 (by rfl)) ?_
 exact TQN_ Tryz.results102 [0, 1, 2, 3]
def fn85 (p0 : ByteArray) (p1 : ByteArray) : Option (Bool) :=
 bif decide ((p1.size : Int) ≤ (p0.size : Int)) then (bif sliceOk ((0 : Nat) : Int) (p1.size : Int) p0.size then (some ((p0.extract ((0 : Nat) : Int).toNat (p1.size : Int).toNat).toList == p1.toList)) else none) else (some (false))
theorem c85 (p0 : ByteArray) (p1 : ByteArray) (r : Bool) (h : fn85 p0 p1 = some r) : Con Tryz.prog 85 [.v (.string p0), .v (.string p1)] [] 0 (.v (.bool r)) [] 0 := by
 rw [fn85] at h
 refine Con.of_body Tryz.func85 rfl Tryz.ntmps85 rfl fun w F0 ρ gl => ?_
 refine RU tbOk false 999 6 [] aN (by rfl) ?_
 refine CDS h (fun h hb1 => ?_) (fun h hb1 => ?_)
 ·obtain ⟨hk2, h⟩ := ck h
  refine RU (tbOk.lit [(9, 10, true)]) false 999 9 [.zs] (aC hb1 (aC hk2 aN)) (by rfl) ?_
  refine RU tbOk false 999 0 [] aN (by rfl) ?_
  have hr := Option.some.inj h
  subst hr
  exact RT tbOk.t Tryz.results85 [] (by rfl) (by rfl) (by rfl) rfl rfl
 ·refine RU (tbOk.lit [(9, 10, false)]) false 999 9 [] (aC hb1 aN) (by rfl) ?_
  refine RU tbOk false 999 0 [] aN (by rfl) ?_
  have hr := Option.some.inj h
  subst hr
  exact RT tbOk.t Tryz.results85 [] (by rfl) (by rfl) (by rfl) rfl rfl
def fn41 (p0 : ByteArray) (p1 : ByteArray) : Option (Bool) :=
 Option.bind (fn85 p0 p1) fun v1 => (some (v1))
theorem c41 (p0 : ByteArray) (p1 : ByteArray) (r : Bool) (h : fn41 p0 p1 = some r) : Con Tryz.prog 41 [.v (.string p0), .v (.string p1)] [] 0 (.v (.bool r)) [] 0 := by
 rw [fn41] at h
 refine Con.of_body Tryz.func41 rfl Tryz.ntmps41 rfl fun w F0 ρ gl => ?_
 obtain ⟨v1, hv2, h⟩ := bd h
 refine RU tbOk false 999 4 [.cl true [] (fun _ => c85 p0 p1 _ hv2)] (aK aN) (by rfl) ?_
 refine RU tbOk false 999 1 [] aN (by rfl) ?_
 have hr := Option.some.inj h
 subst hr
 exact RT tbOk.t Tryz.results41 [] (by rfl) (by rfl) (by rfl) rfl rfl
def fn118 (p0 : ByteArray) : Option (Int ⊕ Int) :=
 Option.bind (fn41 p0 (⟨#[114]⟩ : ByteArray)) fun v1 => (frk2 (fn70 v1) (fun v3 => some ((.inl v3))) (fun v5 => bif sliceOk (1 : Int) ((p0.size : Nat) : Int) p0.size then (frk2 (fn71 (p0.extract (1 : Int).toNat ((p0.size : Nat) : Int).toNat) 64) (fun v8 => some ((.inl v8))) (fun v10 => frk2 (fn70 ((decide ((0 : Int) ≤ v10)) && (decide (v10 < 16)))) (fun v12 => some ((.inl v12))) (fun v14 => some ((.inr (IntKind.u8.wrap v10)))))) else none))
theorem c118 (p0 : ByteArray) (r : Int ⊕ Int) (h : fn118 p0 = some r) : ConO Tryz.prog 118 [.v (.string p0)] [] 0 (match r with | .inl r => .pan (.iface 35 (.int .i64 r)) [] 0 | .inr r => .ret (.v (.int .u8 r)) [] 0) := by
 rw [fn118] at h
 refine ConO.of_body Tryz.func118 Tryz.ntmps118 fun w F0 ρ gl => ?_
 obtain ⟨v1, hv2, h⟩ := bd h
 refine RU tbOk false 999 3 [.cl true [] (fun _ => c41 p0 (⟨#[114]⟩ : ByteArray) _ hv2)] (aK aN) (by rfl) ?_
 refine RU tbOk false 999 0 [] aN (by rfl) ?_
 refine fk2 h (fun v3 hv4 h => ?_) (fun v5 hv6 h => ?_)
 ·refine RU tbOk false 999 0 [] aN (by rfl) ?_
  refine CX_ tbOk [] (c70_0 v1 v3 hv4) (aK aN) ?_
  refine RU tbOk false 999 0 [] aN (by rfl) ?_
  have hr := Option.some.inj h
  subst hr
  exact TP_ []
 ·refine RU tbOk false 999 1 [.cl true [] (fun _ => c70_1 v1 v5 hv6)] (aK aN) (by rfl) ?_
  obtain ⟨hk7, h⟩ := ck h
  refine RU tbOk false 999 2 [.zs] (aC hk7 aN) (by rfl) ?_
  refine fk2 h (fun v8 hv9 h => ?_) (fun v10 hv11 h => ?_)
  ·refine RU tbOk false 999 0 [] aN (by rfl) ?_
   refine CX_ tbOk [] (c71_0 (p0.extract (1 : Int).toNat ((p0.size : Nat) : Int).toNat) 64 v8 hv9) (aK aN) ?_
   refine RU tbOk false 999 0 [] aN (by rfl) ?_
   have hr := Option.some.inj h
   subst hr
   exact TP_ []
  ·refine RU tbOk false 999 1 [.cl true [] (fun _ => c71_1 (p0.extract (1 : Int).toNat ((p0.size : Nat) : Int).toNat) 64 v10 hv11)] (aK aN) (by rfl) ?_
   refine RU tbOk false 999 7 [] aN (by rfl) ?_
   refine fk2 h (fun v12 hv13 h => ?_) (fun v14 hv15 h => ?_)
   ·refine RU tbOk false 999 0 [] aN (by rfl) ?_
    refine G4.imp Imp.refl ?_
    refine CX_ tbOk [] (c70_0 ((decide ((0 : Int) ≤ v10)) && (decide (v10 < 16))) v12 hv13) (aK aN) ?_
    refine RU tbOk false 999 0 [] aN (by rfl) ?_
    have hr := Option.some.inj h
    subst hr
    exact TP_ []
   ·refine RU tbOk false 999 4 [.cl true [] (fun _ => c70_1 ((decide ((0 : Int) ≤ v10)) && (decide (v10 < 16))) v14 hv15)] (aK aN) (by rfl) ?_
    have hr := Option.some.inj h
    subst hr
    exact TO_ tbOk.t Tryz.results118 []
theorem c118_0 (p0 : ByteArray) (r : Int) (h : fn118 p0 = some (.inl r)) : ConX Tryz.prog 118 [.v (.string p0)] [] 0 (.iface 35 (.int .i64 r)) [] 0 := c118 p0 _ h
theorem c118_1 (p0 : ByteArray) (r : Int) (h : fn118 p0 = some (.inr r)) : Con Tryz.prog 118 [.v (.string p0)] [] 0 (.v (.int .u8 r)) [] 0 := c118 p0 _ h
def fn103 (p0 : Line) (p1 : Int) (p2 : ByteArray) : Option ((Int × Int × Int × Int × Int × Int × Int × Int × Int × Int × Int) ⊕ (Int × Int × Int × Int × Int × Int × Int × Int × Int × Int)) :=
 bif p1 == 68 then (frk2 (fn118 p2) (fun v2 => some ((.inl (p0.fInstr.fOp, p0.fInstr.fDst, p0.fInstr.fSrc, p0.fInstr.fOff, p0.fInstr.fImm, p0.fnext.fOp, p0.fnext.fDst, p0.fnext.fSrc, p0.fnext.fOff, p0.fnext.fImm, v2)))) (fun v4 => some ((.inr (p0.fInstr.fOp, v4, p0.fInstr.fSrc, p0.fInstr.fOff, p0.fInstr.fImm, p0.fnext.fOp, p0.fnext.fDst, p0.fnext.fSrc, p0.fnext.fOff, p0.fnext.fImm))))) else (bif p1 == 83 then (frk2 (fn118 p2) (fun v7 => some ((.inl (p0.fInstr.fOp, p0.fInstr.fDst, p0.fInstr.fSrc, p0.fInstr.fOff, p0.fInstr.fImm, p0.fnext.fOp, p0.fnext.fDst, p0.fnext.fSrc, p0.fnext.fOff, p0.fnext.fImm, v7)))) (fun v9 => some ((.inr (p0.fInstr.fOp, p0.fInstr.fDst, v9, p0.fInstr.fOff, p0.fInstr.fImm, p0.fnext.fOp, p0.fnext.fDst, p0.fnext.fSrc, p0.fnext.fOff, p0.fnext.fImm))))) else (bif p1 == 73 then (frk2 (fn71 p2 32) (fun v12 => some ((.inl (p0.fInstr.fOp, p0.fInstr.fDst, p0.fInstr.fSrc, p0.fInstr.fOff, p0.fInstr.fImm, p0.fnext.fOp, p0.fnext.fDst, p0.fnext.fSrc, p0.fnext.fOff, p0.fnext.fImm, v12)))) (fun v14 => some ((.inr (p0.fInstr.fOp, p0.fInstr.fDst, p0.fInstr.fSrc, p0.fInstr.fOff, IntKind.i32.wrap v14, p0.fnext.fOp, p0.fnext.fDst, p0.fnext.fSrc, p0.fnext.fOff, p0.fnext.fImm))))) else (bif p1 == 78 then (frk2 (fn71 p2 64) (fun v17 => some ((.inl (p0.fInstr.fOp, p0.fInstr.fDst, p0.fInstr.fSrc, p0.fInstr.fOff, p0.fInstr.fImm, p0.fnext.fOp, p0.fnext.fDst, p0.fnext.fSrc, p0.fnext.fOff, p0.fnext.fImm, v17)))) (fun v19 => some ((.inr (p0.fInstr.fOp, p0.fInstr.fDst, p0.fInstr.fSrc, p0.fInstr.fOff, IntKind.i32.wrap v19, p0.fnext.fOp, p0.fnext.fDst, p0.fnext.fSrc, p0.fnext.fOff, IntKind.i32.wrap (ishr .i64 v19 32)))))) else (frk2 (fn71 p2 16) (fun v21 => some ((.inl (p0.fInstr.fOp, p0.fInstr.fDst, p0.fInstr.fSrc, p0.fInstr.fOff, p0.fInstr.fImm, p0.fnext.fOp, p0.fnext.fDst, p0.fnext.fSrc, p0.fnext.fOff, p0.fnext.fImm, v21)))) (fun v23 => some ((.inr (p0.fInstr.fOp, p0.fInstr.fDst, p0.fInstr.fSrc, IntKind.i16.wrap v23, p0.fInstr.fImm, p0.fnext.fOp, p0.fnext.fDst, p0.fnext.fSrc, p0.fnext.fOff, p0.fnext.fImm))))))))
theorem c103 (p0 : Line) (p1 : Int) (p2 : ByteArray) (r : (Int × Int × Int × Int × Int × Int × Int × Int × Int × Int × Int) ⊕ (Int × Int × Int × Int × Int × Int × Int × Int × Int × Int)) (h : fn103 p0 p1 p2 = some r) : ConO Tryz.prog 103 [.p 0 0, .v (.int .i32 p1), .v (.string p2)] [(0, .cells 152 [.v (.int .u8 p0.fInstr.fOp), .v (.int .u8 p0.fInstr.fDst), .v (.int .u8 p0.fInstr.fSrc), .v (.int .i16 p0.fInstr.fOff), .v (.int .i32 p0.fInstr.fImm), .v (.int .u8 p0.fnext.fOp), .v (.int .u8 p0.fnext.fDst), .v (.int .u8 p0.fnext.fSrc), .v (.int .i16 p0.fnext.fOff), .v (.int .i32 p0.fnext.fImm), .sl 1]), (1, .rd Et.str p0.fwords)] 2 (match r with | .inl r => .pan (.iface 35 (.int .i64 r.2.2.2.2.2.2.2.2.2.2)) [(0, .cells 152 [.v (.int .u8 r.1), .v (.int .u8 r.2.1), .v (.int .u8 r.2.2.1), .v (.int .i16 r.2.2.2.1), .v (.int .i32 r.2.2.2.2.1), .v (.int .u8 r.2.2.2.2.2.1), .v (.int .u8 r.2.2.2.2.2.2.1), .v (.int .u8 r.2.2.2.2.2.2.2.1), .v (.int .i16 r.2.2.2.2.2.2.2.2.1), .v (.int .i32 r.2.2.2.2.2.2.2.2.2.1), .sl 1])] 2 | .inr r => .ret (.tu []) [(0, .cells 152 [.v (.int .u8 r.1), .v (.int .u8 r.2.1), .v (.int .u8 r.2.2.1), .v (.int .i16 r.2.2.2.1), .v (.int .i32 r.2.2.2.2.1), .v (.int .u8 r.2.2.2.2.2.1), .v (.int .u8 r.2.2.2.2.2.2.1), .v (.int .u8 r.2.2.2.2.2.2.2.1), .v (.int .i16 r.2.2.2.2.2.2.2.2.1), .v (.int .i32 r.2.2.2.2.2.2.2.2.2), .sl 1])] 2) := by
 rw [fn103] at h
 refine ConO.of_body Tryz.func103 Tryz.ntmps103 fun w F0 ρ gl => ?_
 refine RU tbOk false 999 3 [] aN (by rfl) ?_
 refine CD h (by rfl) (fun h hb1 => ?_) (fun h hb1 => ?_)
 ·refine RU tbOk false 999 2 [] aN (by rfl) ?_
  refine fk2 h (fun v2 hv3 h => ?_) (fun v4 hv5 h => ?_)
  ·refine RU tbOk false 999 0 [] aN (by rfl) ?_
   refine CX_ tbOk [] (c118_0 p2 v2 hv3) (aK aN) ?_
   refine RU tbOk false 999 0 [] aN (by rfl) ?_
   have hr := Option.some.inj h
   subst hr
   exact TP_ [0, 1]
  ·refine RU tbOk false 999 1 [.cl true [] (fun _ => c118_1 p2 v4 hv5)] (aK aN) (by rfl) ?_
   refine RU tbOk false 999 4 [] aN (by rfl) ?_
   have hr := Option.some.inj h
   subst hr
   exact TNO_ tbOk.t Tryz.results103 [0, 1]
 ·refine RU tbOk false 999 2 [] aN (by rfl) ?_
  refine CD h (by rfl) (fun h hb6 => ?_) (fun h hb6 => ?_)
  ·refine RU tbOk false 999 2 [] aN (by rfl) ?_
   refine fk2 h (fun v7 hv8 h => ?_) (fun v9 hv10 h => ?_)
   ·refine RU tbOk false 999 0 [] aN (by rfl) ?_
    refine CX_ tbOk [] (c118_0 p2 v7 hv8) (aK aN) ?_
    refine RU tbOk false 999 0 [] aN (by rfl) ?_
    have hr := Option.some.inj h
    subst hr
    exact TP_ [0, 1]
   ·refine RU tbOk false 999 1 [.cl true [] (fun _ => c118_1 p2 v9 hv10)] (aK aN) (by rfl) ?_
    refine RU tbOk false 999 4 [] aN (by rfl) ?_
    have hr := Option.some.inj h
    subst hr
    exact TNO_ tbOk.t Tryz.results103 [0, 1]
  ·refine RU tbOk false 999 2 [] aN (by rfl) ?_
   refine CD h (by rfl) (fun h hb11 => ?_) (fun h hb11 => ?_)
   ·refine RU tbOk false 999 2 [] aN (by rfl) ?_
    refine fk2 h (fun v12 hv13 h => ?_) (fun v14 hv15 h => ?_)
    ·refine RU tbOk false 999 0 [] aN (by rfl) ?_
     refine CX_ tbOk [] (c71_0 p2 32 v12 hv13) (aK aN) ?_
     refine RU tbOk false 999 0 [] aN (by rfl) ?_
     have hr := Option.some.inj h
     subst hr
     exact TP_ [0, 1]
    ·refine RU tbOk false 999 1 [.cl true [] (fun _ => c71_1 p2 32 v14 hv15)] (aK aN) (by rfl) ?_
     refine RU tbOk false 999 5 [] aN (by rfl) ?_
     have hr := Option.some.inj h
     subst hr
     exact TNO_ tbOk.t Tryz.results103 [0, 1]
   ·refine RU tbOk false 999 2 [] aN (by rfl) ?_
    refine CD h (by rfl) (fun h hb16 => ?_) (fun h hb16 => ?_)
    ·refine RU tbOk false 999 1 [] aN (by rfl) ?_
     refine fk2 h (fun v17 hv18 h => ?_) (fun v19 hv20 h => ?_)
     ·refine RU tbOk false 999 0 [] aN (by rfl) ?_
      refine CX_ tbOk [] (c71_0 p2 64 v17 hv18) (aK aN) ?_
      refine RU tbOk false 999 0 [] aN (by rfl) ?_
      have hr := Option.some.inj h
      subst hr
      exact TP_ [0, 1]
     ·refine RU tbOk false 999 1 [.cl true [] (fun _ => c71_1 p2 64 v19 hv20)] (aK aN) (by rfl) ?_
      refine RU tbOk false 999 16 [] (aC rfl aN) (by rfl) ?_
      have hr := Option.some.inj h
      subst hr
      exact TNO_ tbOk.t Tryz.results103 [0, 1]
    ·refine RU tbOk false 999 2 [] aN (by rfl) ?_
     refine fk2 h (fun v21 hv22 h => ?_) (fun v23 hv24 h => ?_)
     ·refine RU tbOk false 999 0 [] aN (by rfl) ?_
      refine CX_ tbOk [] (c71_0 p2 16 v21 hv22) (aK aN) ?_
      refine RU tbOk false 999 0 [] aN (by rfl) ?_
      have hr := Option.some.inj h
      subst hr
      exact TP_ [0, 1]
     ·refine RU tbOk false 999 1 [.cl true [] (fun _ => c71_1 p2 16 v23 hv24)] (aK aN) (by rfl) ?_
      refine RU tbOk false 999 5 [] aN (by rfl) ?_
      have hr := Option.some.inj h
      subst hr
      exact TNO_ tbOk.t Tryz.results103 [0, 1]
theorem c103_0 (p0 : Line) (p1 : Int) (p2 : ByteArray) (r : Int × Int × Int × Int × Int × Int × Int × Int × Int × Int × Int) (h : fn103 p0 p1 p2 = some (.inl r)) : ConX Tryz.prog 103 [.p 0 0, .v (.int .i32 p1), .v (.string p2)] [(0, .cells 152 [.v (.int .u8 p0.fInstr.fOp), .v (.int .u8 p0.fInstr.fDst), .v (.int .u8 p0.fInstr.fSrc), .v (.int .i16 p0.fInstr.fOff), .v (.int .i32 p0.fInstr.fImm), .v (.int .u8 p0.fnext.fOp), .v (.int .u8 p0.fnext.fDst), .v (.int .u8 p0.fnext.fSrc), .v (.int .i16 p0.fnext.fOff), .v (.int .i32 p0.fnext.fImm), .sl 1]), (1, .rd Et.str p0.fwords)] 2 (.iface 35 (.int .i64 r.2.2.2.2.2.2.2.2.2.2)) [(0, .cells 152 [.v (.int .u8 r.1), .v (.int .u8 r.2.1), .v (.int .u8 r.2.2.1), .v (.int .i16 r.2.2.2.1), .v (.int .i32 r.2.2.2.2.1), .v (.int .u8 r.2.2.2.2.2.1), .v (.int .u8 r.2.2.2.2.2.2.1), .v (.int .u8 r.2.2.2.2.2.2.2.1), .v (.int .i16 r.2.2.2.2.2.2.2.2.1), .v (.int .i32 r.2.2.2.2.2.2.2.2.2.1), .sl 1])] 2 := c103 p0 p1 p2 _ h
theorem c103_1 (p0 : Line) (p1 : Int) (p2 : ByteArray) (r : Int × Int × Int × Int × Int × Int × Int × Int × Int × Int) (h : fn103 p0 p1 p2 = some (.inr r)) : Con Tryz.prog 103 [.p 0 0, .v (.int .i32 p1), .v (.string p2)] [(0, .cells 152 [.v (.int .u8 p0.fInstr.fOp), .v (.int .u8 p0.fInstr.fDst), .v (.int .u8 p0.fInstr.fSrc), .v (.int .i16 p0.fInstr.fOff), .v (.int .i32 p0.fInstr.fImm), .v (.int .u8 p0.fnext.fOp), .v (.int .u8 p0.fnext.fDst), .v (.int .u8 p0.fnext.fSrc), .v (.int .i16 p0.fnext.fOff), .v (.int .i32 p0.fnext.fImm), .sl 1]), (1, .rd Et.str p0.fwords)] 2 (.tu []) [(0, .cells 152 [.v (.int .u8 r.1), .v (.int .u8 r.2.1), .v (.int .u8 r.2.2.1), .v (.int .i16 r.2.2.2.1), .v (.int .i32 r.2.2.2.2.1), .v (.int .u8 r.2.2.2.2.2.1), .v (.int .u8 r.2.2.2.2.2.2.1), .v (.int .u8 r.2.2.2.2.2.2.2.1), .v (.int .i16 r.2.2.2.2.2.2.2.2.1), .v (.int .i32 r.2.2.2.2.2.2.2.2.2), .sl 1])] 2 := c103 p0 p1 p2 _ h
def fn102v1 (p0 : List Instr) (p1 : Bool) : Unit :=
 ()
theorem c102v1 (p0 : List Instr) (p1 : Bool) (r : Unit) (h : fn102v1 p0 p1 = r) : ConD Tryz.prog 102 [.p 0 0, .p 2 0] [(0, .cells 24 [.sl 1]), (1, .rd Instr.E p0), (2, .cells 4 [.v (.bool p1)])] 3 .ret [(0, .cells 24 [.sl 1]), (2, .cells 4 [.v (.bool p1)])] 3 := by
 rw [fn102v1] at h
 refine ConD.of_body Tryz.func102 Tryz.ntmps102 fun w F0 ρ gl => ?_
 refine RU tbOk false 999 2 [.ni] aN (by rfl) ?_
 refine CDF rfl (by rfl) ?_
 refine RU tbOk false 999 0 [] aN (by rfl) ?_
 subst h
 exact TQN_ Tryz.results102 [0, 1, 2]
def fn72_b1 (p0 : Form) (p1 : List ByteArray) (rl1 : Int → Int → Int → Int → Int → Int → Int → Int → Int → Int → Nat → Option ((Int × Int × Int × Int × Int × Int × Int × Int × Int × Int) ⊕ (((List Instr) × Bool)))) (x12 : Int) (x13 : Int) (x14 : Int) (x15 : Int) (x16 : Int) (x17 : Int) (x18 : Int) (x19 : Int) (x20 : Int) (x21 : Int) (q22 : Nat) : Option ((Int × Int × Int × Int × Int × Int × Int × Int × Int × Int) ⊕ (((List Instr) × Bool))) :=
 bif decide (q22 < p0.fwords.size) then (bif inb (q22 : Int) p1.length then (frk2 (fn103 (⟨(⟨x12, x13, x14, x15, x16⟩ : Instr), (⟨x17, x18, x19, x20, x21⟩ : Instr), ([] : List ByteArray)⟩ : Line) ((Utf8.decode p0.fwords q22).1 : Int) (gt p1 (q22 : Int))) (fun v47 => some (.inr (((fn102 ([] : List Instr) false v47.2.2.2.2.2.2.2.2.2.2).1, (fn102 ([] : List Instr) false v47.2.2.2.2.2.2.2.2.2.2).2)))) (fun v49 => rl1 v49.1 v49.2.1 v49.2.2.1 v49.2.2.2.1 v49.2.2.2.2.1 v49.2.2.2.2.2.1 v49.2.2.2.2.2.2.1 v49.2.2.2.2.2.2.2.1 v49.2.2.2.2.2.2.2.2.1 v49.2.2.2.2.2.2.2.2.2 (q22 + (Utf8.decode p0.fwords q22).2))) else none) else (some (.inl (x12, x13, x14, x15, x16, x17, x18, x19, x20, x21)))
def fn72_l1 (p0 : Form) (p1 : List ByteArray) : Nat → Int → Int → Int → Int → Int → Int → Int → Int → Int → Int → Nat → Option ((Int × Int × Int × Int × Int × Int × Int × Int × Int × Int) ⊕ (((List Instr) × Bool)))
 | 0, _, _, _, _, _, _, _, _, _, _, _ => none
 | n41 + 1, x12, x13, x14, x15, x16, x17, x18, x19, x20, x21, q22 => fn72_b1 p0 p1 (fn72_l1 p0 p1 n41) x12 x13 x14 x15 x16 x17 x18 x19 x20 x21 q22
theorem fn72_l1_s (p0 : Form) (p1 : List ByteArray) (n41 : Nat) (x12 : Int) (x13 : Int) (x14 : Int) (x15 : Int) (x16 : Int) (x17 : Int) (x18 : Int) (x19 : Int) (x20 : Int) (x21 : Int) (q22 : Nat) : fn72_l1 p0 p1 (n41 + 1) x12 x13 x14 x15 x16 x17 x18 x19 x20 x21 q22 = fn72_b1 p0 p1 (fn72_l1 p0 p1 n41) x12 x13 x14 x15 x16 x17 x18 x19 x20 x21 q22 := rfl
def fn72_k1 (p0 : Form) (x29 : Int) (x30 : Int) (x31 : Int) (x32 : Int) (x33 : Int) (x34 : Int) (x35 : Int) (x36 : Int) (x37 : Int) (x38 : Int) : Option (((List Instr) × Bool)) :=
 bif (x29 == ((fn56 0).fOp)) && (p0.fname.toList != (⟨#[115, 108, 111, 116]⟩ : ByteArray).toList) then (some ((([(⟨x29, x30, x31, x32, x33⟩ : Instr), (⟨x34, x35, x36, x37, x38⟩ : Instr)] : List Instr), true))) else (some ((([(⟨x29, x30, x31, x32, x33⟩ : Instr)] : List Instr), true)))
def fn72 (F : Nat) (p0 : Form) (p1 : List ByteArray) : Option ((List Instr) × Bool) :=
 frk2 (fn70 ((p1.length : Int) == (p0.fwords.size : Int))) (fun v2 => some (((fn102 ([] : List Instr) false v2).1, (fn102 ([] : List Instr) false v2).2))) (fun v4 => Option.bind (fn72_l1 p0 p1 F p0.fslot.fOp p0.fslot.fDst p0.fslot.fSrc p0.fslot.fOff p0.fslot.fImm 0 0 0 0 0 0) fun o39 => (match o39 with | .inl u => fn72_k1 p0 u.1 u.2.1 u.2.2.1 u.2.2.2.1 u.2.2.2.2.1 u.2.2.2.2.2.1 u.2.2.2.2.2.2.1 u.2.2.2.2.2.2.2.1 u.2.2.2.2.2.2.2.2.1 u.2.2.2.2.2.2.2.2.2 | .inr u => some u))
theorem c72 (F : Nat) (p0 : Form) (p1 : List ByteArray) (r : (List Instr) × Bool) (h : fn72 F p0 p1 = some r) : ConO Tryz.prog 72 [.ag [.v (.string p0.fname), .v (.string p0.fwords), .v (.int .u8 p0.fslot.fOp), .v (.int .u8 p0.fslot.fDst), .v (.int .u8 p0.fslot.fSrc), .v (.int .i16 p0.fslot.fOff), .v (.int .i32 p0.fslot.fImm)], .sl 0] [(0, .rd Et.str p1)] 1 (.ret (.tu [.sl 1, .v (.bool r.2)]) [(1, .row Instr.E 32 r.1 r.1.length .unk)] 2) := by
 rw [fn72] at h
 refine ConO.of_body Tryz.func72 Tryz.ntmps72 fun w F0 ρ gl => ?_
 refine RU tbOk false 999 4 [] aN (by rfl) ?_
 refine DF_ (fun vs1 => ?_)
 refine RU tbOk false 999 6 [] aN (by rfl) ?_
 refine fk2 h (fun v2 hv3 h => ?_) (fun v4 hv5 h => ?_)
 ·refine RU tbOk false 999 0 [] aN (by rfl) ?_
  refine CX_ tbOk [] (c70_0 ((p1.length : Int) == (p0.fwords.size : Int)) v2 hv3) (aK aN) ?_
  refine RU tbOk false 999 0 [] aN (by rfl) ?_
  refine G4.imp (Imp.nilC Instr.E 32 2 0 (by rfl) (by rfl) (by rfl)) ?_
  have hr := Option.some.inj h
  subst hr
  exact TDP_ tbOk Tryz.results72 4 [2, 5, 3] (c102 ([] : List Instr) false v2 _ rfl) [0, 6]
 ·refine RU tbOk false 999 1 [.cl true [] (fun _ => c70_1 ((p1.length : Int) == (p0.fwords.size : Int)) v4 hv5)] (aK aN) (by rfl) ?_
  refine RU tbOk false 999 8 [.rs] aN (by rfl) ?_
  refine G4.imp (Imp.nilC Instr.E 32 2 0 (by rfl) (by rfl) (by rfl)) ?_
  refine G4.imp (Imp.nilC Et.str 9 5 10 (by rfl) (by rfl) (by rfl)) ?_
  obtain ⟨o39, hl40, h⟩ := bd h
  refine CTS 0 (fun u52 => ⟨[(2, .p 1 0), (4, .p 2 0), (5, .p 3 0), (6, .p 5 0)], [(0, .rd Et.str p1), (1, .cells 85 [.v (.string p0.fname), .v (.string p0.fwords), .v (.int .u8 p0.fslot.fOp), .v (.int .u8 p0.fslot.fDst), .v (.int .u8 p0.fslot.fSrc), .v (.int .i16 p0.fslot.fOff), .v (.int .i32 p0.fslot.fImm)]), (2, .cells 24 [.sl 6]), (3, .cells 4 [.v (.bool false)]), (4, .ex (pD vs1) [.p 2 0, .p 3 0]), (5, .cells 152 [.v (.int .u8 u52.1), .v (.int .u8 u52.2.1), .v (.int .u8 u52.2.2.1), .v (.int .i16 u52.2.2.2.1), .v (.int .i32 u52.2.2.2.2.1), .v (.int .u8 u52.2.2.2.2.2.1), .v (.int .u8 u52.2.2.2.2.2.2.1), .v (.int .u8 u52.2.2.2.2.2.2.2.1), .v (.int .i16 u52.2.2.2.2.2.2.2.2.1), .v (.int .i32 u52.2.2.2.2.2.2.2.2.2), .sl 7]), (6, .row Instr.E 32 ([] : List Instr) 0 .iff), (7, .row Et.str 9 ([] : List ByteArray) 0 .iff)], 8⟩) o39 ?_ (fun u52 hu52 => ?_)
  ·have h043 := h
   clear h
   refine G4.imp (Imp.to [0, 1, 2, 3, 4, 5, 6, 7, 8] (by rfl) (by rfl) rfl rfl) (LP (fun (n : Nat) (s : Int × Int × Int × Int × Int × Int × Int × Int × Int × Int × Nat) => fn72_l1 p0 p1 n s.1 s.2.1 s.2.2.1 s.2.2.2.1 s.2.2.2.2.1 s.2.2.2.2.2.1 s.2.2.2.2.2.2.1 s.2.2.2.2.2.2.2.1 s.2.2.2.2.2.2.2.2.1 s.2.2.2.2.2.2.2.2.2.1 s.2.2.2.2.2.2.2.2.2.2) (fun (s : Int × Int × Int × Int × Int × Int × Int × Int × Int × Int × Nat) => ⟨[(1, .sl 0), (2, .p 1 0), (4, .p 2 0), (5, .p 3 0), (6, .p 5 0), (23, .p 6 0)], [(0, .rd Et.str p1), (1, .cells 85 [.v (.string p0.fname), .v (.string p0.fwords), .v (.int .u8 p0.fslot.fOp), .v (.int .u8 p0.fslot.fDst), .v (.int .u8 p0.fslot.fSrc), .v (.int .i16 p0.fslot.fOff), .v (.int .i32 p0.fslot.fImm)]), (2, .cells 24 [.sl 7]), (3, .cells 4 [.v (.bool false)]), (4, .ex (pD vs1) [.p 2 0, .p 3 0]), (5, .cells 152 [.v (.int .u8 s.1), .v (.int .u8 s.2.1), .v (.int .u8 s.2.2.1), .v (.int .i16 s.2.2.2.1), .v (.int .i32 s.2.2.2.2.1), .v (.int .u8 s.2.2.2.2.2.1), .v (.int .u8 s.2.2.2.2.2.2.1), .v (.int .u8 s.2.2.2.2.2.2.2.1), .v (.int .i16 s.2.2.2.2.2.2.2.2.1), .v (.int .i32 s.2.2.2.2.2.2.2.2.2.1), .sl 8]), (6, .obj (.stringIter p0.fwords s.2.2.2.2.2.2.2.2.2.2)), (7, .row Instr.E 32 ([] : List Instr) 0 .iff), (8, .row Et.str 9 ([] : List ByteArray) 0 .iff)], 9⟩) (fun _ => rfl) (s0 := (p0.fslot.fOp, p0.fslot.fDst, p0.fslot.fSrc, p0.fslot.fOff, p0.fslot.fImm, 0, 0, 0, 0, 0, 0)) hl40 ?_)
   clear hl40
   rintro R44 n41 ⟨x12, x13, x14, x15, x16, x17, x18, x19, x20, x21, q22⟩ h ih42
   replace h := (fn72_l1_s p0 p1 n41 x12 x13 x14 x15 x16 x17 x18 x19 x20 x21 q22).symm.trans h
   rw [fn72_b1] at h
   refine RU tbOk false 999 0 [] aN (by rfl) ?_
   refine CDS h (fun h hb45 => ?_) (fun h hb45 => ?_)
   ·refine RU tbOk false 999 0 [] aN (by rfl) ?_
    refine NS1_ hb45 ?_
    refine RU tbOk false 999 1 [] aN (by rfl) ?_
    refine CDT rfl (by rfl) ?_
    obtain ⟨hk46, h⟩ := ck h
    refine RU tbOk false 999 10 [] (aC hk46 aN) (by rfl) ?_
    refine fk2 h (fun v47 hv48 h => ?_) (fun v49 hv50 h => ?_)
    ·refine RU tbOk false 999 0 [] aN (by rfl) ?_
     refine CX_ tbOk [5, 8] (c103_0 (⟨(⟨x12, x13, x14, x15, x16⟩ : Instr), (⟨x17, x18, x19, x20, x21⟩ : Instr), ([] : List ByteArray)⟩ : Line) ((Utf8.decode p0.fwords q22).1 : Int) (gt p1 (q22 : Int)) v47 hv48) (aK aN) ?_
     refine RU tbOk false 999 0 [] aN (by rfl) ?_
     have ho := Option.some.inj h
     subst ho
     replace h := h043
     refine RU tbOk false 999 0 [] aN (by rfl) ?_
     have hr := Option.some.inj h
     subst hr
     exact TDP_ tbOk Tryz.results72 4 [2, 7, 3] (c102 ([] : List Instr) false v47.2.2.2.2.2.2.2.2.2.2 _ rfl) [0, 9]
    ·refine RU tbOk false 999 1 [.cl true [5, 8] (fun _ => c103_1 (⟨(⟨x12, x13, x14, x15, x16⟩ : Instr), (⟨x17, x18, x19, x20, x21⟩ : Instr), ([] : List ByteArray)⟩ : Line) ((Utf8.decode p0.fwords q22).1 : Int) (gt p1 (q22 : Int)) v49 hv50)] (aK aN) (by rfl) ?_
     refine RU tbOk false 999 0 [] aN (by rfl) ?_
     exact ih42 (v49.1, v49.2.1, v49.2.2.1, v49.2.2.2.1, v49.2.2.2.2.1, v49.2.2.2.2.2.1, v49.2.2.2.2.2.2.1, v49.2.2.2.2.2.2.2.1, v49.2.2.2.2.2.2.2.2.1, v49.2.2.2.2.2.2.2.2.2, q22 + (Utf8.decode p0.fwords q22).2) h _ _ (Imp.to [0, 1, 2, 3, 4, 5, 6, 7, 8] (by rfl) (by rfl) rfl rfl)
   ·refine RU tbOk false 999 0 [] aN (by rfl) ?_
    refine NS0_ hb45 ?_
    refine RU tbOk false 999 1 [] aN (by rfl) ?_
    refine CDF rfl (by rfl) ?_
    refine RU tbOk false 999 0 [] aN (by rfl) ?_
    have ho := Option.some.inj h
    subst ho
    exact CES _ rfl (Imp.to [0, 1, 2, 3, 4, 5, 7, 8] (by rfl) (by rfl) rfl rfl)
  ·subst hu52
   change fn72_k1 p0 u52.1 u52.2.1 u52.2.2.1 u52.2.2.2.1 u52.2.2.2.2.1 u52.2.2.2.2.2.1 u52.2.2.2.2.2.2.1 u52.2.2.2.2.2.2.2.1 u52.2.2.2.2.2.2.2.2.1 u52.2.2.2.2.2.2.2.2.2 = _ at h
   rw [fn72_k1] at h
   refine RU tbOk false 999 0 [] aN (by rfl) ?_
   refine DR tbOk hmix [47] [([], []), ([], []), ([], []), ([], []), ([5], []), ([], []), ([], []), ([], []), ([], []), ([], []), ([1], []), ([], []), ([], [])] [.cl true [] (fun _ => c56 0 _ rfl), .fd] (aR (aK aN)) (by rfl) ?_
   refine RU tbOk false 999 0 [] aN (by rfl) ?_
   refine CD h (by rfl) (fun h hb51 => ?_) (fun h hb51 => ?_)
   ·refine RU tbOk false 999 0 [] aN (by rfl) ?_
    refine DR tbOk hmix [] [([], []), ([], []), ([], []), ([5], []), ([], []), ([], []), ([], []), ([5], []), ([], []), ([2], [2]), ([3], [3])] [.bs Instr.E ([(⟨u52.1, u52.2.1, u52.2.2.1, u52.2.2.2.1, u52.2.2.2.2.1⟩ : Instr), (⟨u52.2.2.2.2.2.1, u52.2.2.2.2.2.2.1, u52.2.2.2.2.2.2.2.1, u52.2.2.2.2.2.2.2.2.1, u52.2.2.2.2.2.2.2.2.2⟩ : Instr)] : List Instr)] (aR (aR (aR (aR (aR (aR aN)))))) (by rfl) ?_
    refine RU tbOk false 999 0 [] aN (by rfl) ?_
    have hr := Option.some.inj h
    subst hr
    refine G4.imp (Imp.row 8 (by rfl)) ?_
    exact TD_ tbOk Tryz.results72 4 [2, 8, 3] (c102v1 ([(⟨u52.1, u52.2.1, u52.2.2.1, u52.2.2.2.1, u52.2.2.2.2.1⟩ : Instr), (⟨u52.2.2.2.2.2.1, u52.2.2.2.2.2.2.1, u52.2.2.2.2.2.2.2.1, u52.2.2.2.2.2.2.2.2.1, u52.2.2.2.2.2.2.2.2.2⟩ : Instr)] : List Instr) true _ rfl) [0, 8]
   ·refine RU tbOk false 999 7 [.bs Instr.E ([(⟨u52.1, u52.2.1, u52.2.2.1, u52.2.2.2.1, u52.2.2.2.2.1⟩ : Instr)] : List Instr)] (aR (aR aN)) (by rfl) ?_
    have hr := Option.some.inj h
    subst hr
    refine G4.imp (Imp.row 8 (by rfl)) ?_
    exact TD_ tbOk Tryz.results72 4 [2, 8, 3] (c102v1 ([(⟨u52.1, u52.2.1, u52.2.2.1, u52.2.2.2.1, u52.2.2.2.2.1⟩ : Instr)] : List Instr) true _ rfl) [0, 8]
theorem c72_0 (F : Nat) (p0 : Form) (p1 : List ByteArray) (r : (List Instr) × Bool) (h : fn72 F p0 p1 = some r) : Con Tryz.prog 72 [.ag [.v (.string p0.fname), .v (.string p0.fwords), .v (.int .u8 p0.fslot.fOp), .v (.int .u8 p0.fslot.fDst), .v (.int .u8 p0.fslot.fSrc), .v (.int .i16 p0.fslot.fOff), .v (.int .i32 p0.fslot.fImm)], .sl 0] [(0, .rd Et.str p1)] 1 (.tu [.sl 1, .v (.bool r.2)]) [(1, .row Instr.E 32 r.1 r.1.length .unk)] 2 := c72 F p0 p1 _ h
def fn96 (p0 : List Form) : Unit :=
 ()
theorem c96 (p0 : List Form) (r : Unit) (h : fn96 p0 = r) : Con Tryz.prog 96 [.sl 0] [(0, .rd Form.E p0)] 1 (.fn (.func 115) [] [.p 1 0]) [(1, .cells 147 [.sl 0])] 2 := by
 rw [fn96] at h
 refine Con.of_body Tryz.func96 rfl Tryz.ntmps96 rfl fun w F0 ρ gl => ?_
 refine RU tbOk false 999 4 [] aN (by rfl) ?_
 subst h
 exact RT tbOk.t Tryz.results96 [0, 1] (by rfl) (by rfl) (by rfl) rfl rfl
def fn73 (p0_0 : List (ByteArray × List Form)) (p0_2 : List (Int × List Form)) (p1 : ByteArray) : (List Form) × ByteArray :=
 (mget p0_0 p1 ([] : List Form), p1)
theorem c73 (p0_0 : List (ByteArray × List Form)) (p0_2 : List (Int × List Form)) (p1 : ByteArray) (r : (List Form) × ByteArray) (h : fn73 p0_0 p0_2 p1 = r) : Con Tryz.prog 73 [.p 0 0, .v (.string p1)] [(0, .cells 94 [.mp 1, .fn (.func 47) [] [], .mp 2, .fn (.func 48) [] []]), (1, .ex (pMR Kn.str Form.E 85 p0_0) []), (2, .ex (pMR (Kn.int .u8) Form.E 85 p0_2) [])] 3 (.fn (.func 115) [] [.p 3 0]) [(0, .cells 94 [.mp 1, .fn (.func 47) [] [], .mp 2, .fn (.func 48) [] []]), (1, .ex (pMO Kn.str Form.E 85 p0_0 r.2) [.sl 4]), (2, .ex (pMR (Kn.int .u8) Form.E 85 p0_2) []), (3, .cells 147 [.sl 4]), (4, .row Form.E 85 r.1 r.1.length .unk)] 5 := by
 rw [fn73] at h
 refine Con.of_body Tryz.func73 rfl Tryz.ntmps73 rfl fun w F0 ρ gl => ?_
 refine RU tbOk false 999 8 [.lr Kn.str Form.E 85 _ p1 Tryz.runUnderlying83 Tryz.runUnderlying9 Tryz.zeroValue147, .cl true [3] (fun _ => c96 (mget p0_0 p1 ([] : List Form)) _ rfl)] (aR (aR (aK aN))) (by rfl) ?_
 refine RU tbOk false 999 1 [] aN (by rfl) ?_
 subst h
 exact RT tbOk.t Tryz.results73 [0, 1, 2, 4, 3] (by rfl) (by rfl) (by rfl) rfl rfl
def fn115_b1 {σ : Type} (step : σ → Form → Option σ) (go : σ → Bool) (p0 : List Form) (rl1 : σ → Int → Option ((σ) ⊕ (σ))) (xs6 : σ) (x7 : Int) : Option ((σ) ⊕ (σ)) :=
 bif decide (x7 < (p0.length : Int)) then (bif inb x7 p0.length then (Option.bind (step xs6 (⟨(gt p0 x7).fname, (gt p0 x7).fwords, ((gt p0 x7).fslot)⟩ : Form)) fun u22 => (bif !(go u22) then (some (.inr (u22))) else (rl1 u22 (IntKind.i64.wrap (x7 + 1))))) else none) else (some (.inl xs6))
def fn115_l1 {σ : Type} (step : σ → Form → Option σ) (go : σ → Bool) (p0 : List Form) : Nat → σ → Int → Option ((σ) ⊕ (σ))
 | 0, _, _ => none
 | n16 + 1, xs6, x7 => fn115_b1 step go p0 (fn115_l1 step go p0 n16) xs6 x7
theorem fn115_l1_s {σ : Type} (step : σ → Form → Option σ) (go : σ → Bool) (p0 : List Form) (n16 : Nat) (xs6 : σ) (x7 : Int) : fn115_l1 step go p0 (n16 + 1) xs6 x7 = fn115_b1 step go p0 (fn115_l1 step go p0 n16) xs6 x7 := rfl
def fn115_k1 {σ : Type} (xs13 : σ) : Option (σ) :=
 some (xs13)
def fn115 {σ : Type} (F : Nat) (step : σ → Form → Option σ) (go : σ → Bool) (p0 : List Form) (s0 : σ) : Option σ :=
 Option.bind (fn115_l1 step go p0 F s0 0) fun o14 => (match o14 with | .inl u => fn115_k1 u | .inr u => some u)
theorem c115 {σ : Type} (F : Nat) (step : σ → Form → Option σ) (go : σ → Bool) (p0 : List Form) (s0 : σ) (r : σ) (h : fn115 F step go p0 s0 = some r) (yv : Value) (J : σ → Blocks → Prop) : ConY Tryz.prog 115 [.v yv, .p 0 0] [(0, .cells 147 [.sl 1]), (1, .row Form.E 85 p0 p0.length .unk), (2, .bx (J s0))] 3 (.tu []) [(0, .cells 147 [.sl 1]), (1, .row Form.E 85 p0 p0.length .unk), (2, .bx (J r))] 3 (fun w R ρ => YldY Tryz.prog w R ρ 0 yv J (Yn.one (Vn.ag Form.E)) step go) := by
 rw [fn115] at h
 refine ConY.of_body Tryz.func115 rfl Tryz.ntmps115 rfl fun w F0 ρ gl hy => ?_
 refine RU tbOk false 999 3 [] aN (by rfl) ?_
 obtain ⟨o14, hl15, h⟩ := bd h
 refine CTS 0 (fun u25 => ⟨[], [(0, .cells 147 [.sl 1]), (1, .row Form.E 85 p0 p0.length .unk), (2, .bx (J u25))], 3⟩) o14 ?_ (fun u25 hu25 => ?_)
 ·have h018 := h
  clear h
  refine G4.imp (Imp.to [0, 1, 2] (by rfl) (by rfl) rfl rfl) (LP (fun (n : Nat) (s : σ × Int) => fn115_l1 step go p0 n s.1 s.2) (fun (s : σ × Int) => ⟨[(0, .v yv), (5, .sl 1), (6, .v (.int .i64 (p0.length : Int))), (7, .v (.int .i64 s.2))], [(0, .cells 147 [.sl 1]), (1, .row Form.E 85 p0 p0.length .unk), (2, .bx (J s.1))], 3⟩) (fun _ => rfl) (s0 := (s0, 0)) hl15 ?_)
  clear hl15
  rintro R19 n16 ⟨xs6, x7⟩ h ih17
  replace h := (fn115_l1_s step go p0 n16 xs6 x7).symm.trans h
  rw [fn115_b1] at h
  refine RU tbOk false 999 1 [] aN (by rfl) ?_
  refine CD h (by rfl) (fun h hb20 => ?_) (fun h hb20 => ?_)
  ·obtain ⟨hk21, h⟩ := ck h
   obtain ⟨u22, hu23, h⟩ := bd h
   refine RU tbOk false 999 7 [.yd 2 (⟨(gt p0 x7).fname, (gt p0 x7).fwords, ((gt p0 x7).fslot)⟩ : Form) hy rfl hu23] (aC hk21 (aR (aR (aR aN)))) (by rfl) ?_
   refine RU tbOk false 999 1 [] aN (by rfl) ?_
   refine CD h (by rfl) (fun h hb24 => ?_) (fun h hb24 => ?_)
   ·refine RU tbOk false 999 0 [] aN (by rfl) ?_
    have ho := Option.some.inj h
    subst ho
    replace h := h018
    refine RU tbOk false 999 0 [] aN (by rfl) ?_
    have hr := Option.some.inj h
    subst hr
    exact RT tbOk.t Tryz.results115 [0, 1, 2] (by rfl) (by rfl) (by rfl) rfl rfl
   ·refine RU tbOk false 999 2 [] aN (by rfl) ?_
    exact ih17 (u22, IntKind.i64.wrap (x7 + 1)) h _ _ (Imp.to [0, 1, 2] (by rfl) (by rfl) rfl rfl)
  ·refine RU tbOk false 999 0 [] aN (by rfl) ?_
   have ho := Option.some.inj h
   subst ho
   exact CES _ rfl (Imp.to [0, 1, 2] (by rfl) (by rfl) rfl rfl)
 ·subst hu25
  change fn115_k1 u25 = _ at h
  rw [fn115_k1] at h
  refine RU tbOk false 999 0 [] aN (by rfl) ?_
  have hr := Option.some.inj h
  subst hr
  exact RTN tbOk.t Tryz.results115 [0, 1, 2] (by rfl) (by rfl) (by rfl) rfl rfl
def fn34_r1 (F : Nat) (v1 : List ByteArray) (xs30 : List Instr) (y25 : Form) : Option (((List Instr)) × Nat) :=
 bif sliceOk (1 : Int) ((v1.length : Nat) : Int) v1.length then (frk1 (fn72 F y25 (cutX v1 ((1 : Int).toNat) ((1 : Int).toNat + (((v1.length : Nat) : Int).toNat - (1 : Int).toNat)))) (fun v38 => bif v38.2 then (some (v38.1, 1)) else (some (xs30, 0)))) else none
def fn34_k1_0 (xs30 : List Instr) : Option ((Int ⊕ ((List Instr)))) :=
 some ((.inl 25))
def fn34_k1_1 (xs30 : List Instr) : Option ((Int ⊕ ((List Instr)))) :=
 some ((.inr xs30))
def fn34 (F : Nat) (p0_0 : List (ByteArray × List Form)) (p0_2 : List (Int × List Form)) (p1 : ByteArray) : Option (Int ⊕ ((List Instr))) :=
 Option.bind (fn17 p1 (⟨#[32]⟩ : ByteArray)) fun v1 => (bif inb 0 v1.length then (bif (gt v1 0).toList == (⟨#[115, 108, 111, 116]⟩ : ByteArray).toList then (frk2 (fn70 (decide ((1 : Int) < (v1.length : Int)))) (fun v5 => some ((.inl v5))) (fun v7 => bif inb 1 v1.length then (frk2 (fn71 (gt v1 1) 64) (fun v10 => some ((.inl v10))) (fun v12 => frk2 (fn70 ((decide ((0 : Int) ≤ v12)) && (decide (v12 < 256)))) (fun v14 => some ((.inl v14))) (fun v16 => bif sliceOk (2 : Int) ((v1.length : Nat) : Int) v1.length then (frk1 (fn72 F (⟨(⟨#[115, 108, 111, 116]⟩ : ByteArray), (⟨#[68, 83, 79, 73]⟩ : ByteArray), (⟨IntKind.u8.wrap v12, 0, 0, 0, 0⟩ : Instr)⟩ : Form) (cutX v1 ((2 : Int).toNat) ((2 : Int).toNat + (((v1.length : Nat) : Int).toNat - (2 : Int).toNat)))) (fun v19 => frk2 (fn70 v19.2) (fun v21 => some ((.inl v21))) (fun v23 => some ((.inr v19.1))))) else none))) else none)) else (Option.bind (fn115 F (stepR (fun (s : (List Instr)) (y : Form) => fn34_r1 F v1 s y)) goR ((fn73 p0_0 p0_2 (gt v1 0)).1) ((([] : List Instr), 0) : ((List Instr)) × Nat)) fun o41 => (bif Nat.beq o41.2 0 then (fn34_k1_0 o41.1) else (bif Nat.beq o41.2 1 then (fn34_k1_1 o41.1) else none)))) else none)
theorem c34 (F : Nat) (p0_0 : List (ByteArray × List Form)) (p0_2 : List (Int × List Form)) (p1 : ByteArray) (r : Int ⊕ ((List Instr))) (h : fn34 F p0_0 p0_2 p1 = some r) : ConO Tryz.prog 34 [.p 0 0, .v (.string p1)] [(0, .cells 94 [.mp 1, .fn (.func 47) [] [], .mp 2, .fn (.func 48) [] []]), (1, .ex (pMR Kn.str Form.E 85 p0_0) []), (2, .ex (pMR (Kn.int .u8) Form.E 85 p0_2) [])] 3 (match r with | .inl r => .pan (.iface 35 (.int .i64 r)) [(0, .cells 94 [.mp 1, .fn (.func 47) [] [], .mp 2, .fn (.func 48) [] []]), (1, .ex (pMR Kn.str Form.E 85 p0_0) []), (2, .ex (pMR (Kn.int .u8) Form.E 85 p0_2) [])] 3 | .inr r => .ret (.sl 3) [(0, .cells 94 [.mp 1, .fn (.func 47) [] [], .mp 2, .fn (.func 48) [] []]), (1, .ex (pMR Kn.str Form.E 85 p0_0) []), (2, .ex (pMR (Kn.int .u8) Form.E 85 p0_2) []), (3, .row Instr.E 32 r r.length .unk)] 4) := by
 rw [fn34] at h
 refine ConO.of_body Tryz.func34 Tryz.ntmps34 fun w F0 ρ gl => ?_
 obtain ⟨v1, hv2, h⟩ := bd h
 refine RU tbOk false 999 3 [.cl true [] (fun _ => c17 p1 (⟨#[32]⟩ : ByteArray) _ hv2)] (aK aN) (by rfl) ?_
 obtain ⟨hk3, h⟩ := ck h
 refine RU tbOk false 999 6 [] (aC hk3 aN) (by rfl) ?_
 refine CD h (by rfl) (fun h hb4 => ?_) (fun h hb4 => ?_)
 ·refine RU tbOk false 999 3 [] aN (by rfl) ?_
  refine fk2 h (fun v5 hv6 h => ?_) (fun v7 hv8 h => ?_)
  ·refine RU tbOk false 999 0 [] aN (by rfl) ?_
   refine CX_ tbOk [] (c70_0 (decide ((1 : Int) < (v1.length : Int))) v5 hv6) (aK aN) ?_
   refine RU tbOk false 999 0 [] aN (by rfl) ?_
   have hr := Option.some.inj h
   subst hr
   exact TP_ [0, 1, 2]
  ·refine RU tbOk false 999 1 [.cl true [] (fun _ => c70_1 (decide ((1 : Int) < (v1.length : Int))) v7 hv8)] (aK aN) (by rfl) ?_
   obtain ⟨hk9, h⟩ := ck h
   refine RU tbOk false 999 3 [] (aC hk9 aN) (by rfl) ?_
   refine fk2 h (fun v10 hv11 h => ?_) (fun v12 hv13 h => ?_)
   ·refine RU tbOk false 999 0 [] aN (by rfl) ?_
    refine CX_ tbOk [] (c71_0 (gt v1 1) 64 v10 hv11) (aK aN) ?_
    refine RU tbOk false 999 0 [] aN (by rfl) ?_
    have hr := Option.some.inj h
    subst hr
    exact TP_ [0, 1, 2]
   ·refine RU tbOk false 999 1 [.cl true [] (fun _ => c71_1 (gt v1 1) 64 v12 hv13)] (aK aN) (by rfl) ?_
    refine RU tbOk false 999 7 [] aN (by rfl) ?_
    refine fk2 h (fun v14 hv15 h => ?_) (fun v16 hv17 h => ?_)
    ·refine RU tbOk false 999 0 [] aN (by rfl) ?_
     refine G4.imp Imp.refl ?_
     refine CX_ tbOk [] (c70_0 ((decide ((0 : Int) ≤ v12)) && (decide (v12 < 256))) v14 hv15) (aK aN) ?_
     refine RU tbOk false 999 0 [] aN (by rfl) ?_
     have hr := Option.some.inj h
     subst hr
     exact TP_ [0, 1, 2]
    ·obtain ⟨hk18, h⟩ := ck h
     refine RU tbOk false 999 7 [.cl true [] (fun _ => c70_1 ((decide ((0 : Int) ≤ v12)) && (decide (v12 < 256))) v16 hv17), .sc] (aK (aC hk18 aN)) (by rfl) ?_
     refine fk1 h (fun v19 hv20 h => ?_)
     ·refine RU tbOk false 999 0 [] aN (by rfl) ?_
      refine G4.imp (Imp.vwS 39 (by rfl)) ?_
      refine RU tbOk false 999 1 [.cl true [6] (fun _ => c72_0 F (⟨(⟨#[115, 108, 111, 116]⟩ : ByteArray), (⟨#[68, 83, 79, 73]⟩ : ByteArray), (⟨IntKind.u8.wrap v12, 0, 0, 0, 0⟩ : Instr)⟩ : Form) (cutX v1 ((2 : Int).toNat) ((2 : Int).toNat + (((v1.length : Nat) : Int).toNat - (2 : Int).toNat))) v19 hv20)] (aK aN) (by rfl) ?_
      refine RU tbOk false 999 6 [] aN (by rfl) ?_
      refine fk2 h (fun v21 hv22 h => ?_) (fun v23 hv24 h => ?_)
      ·refine RU tbOk false 999 0 [] aN (by rfl) ?_
       refine CX_ tbOk [] (c70_0 v19.2 v21 hv22) (aK aN) ?_
       refine RU tbOk false 999 0 [] aN (by rfl) ?_
       have hr := Option.some.inj h
       subst hr
       exact TP_ [0, 1, 2]
      ·refine RU tbOk false 999 1 [.cl true [] (fun _ => c70_1 v19.2 v23 hv24)] (aK aN) (by rfl) ?_
       refine RU tbOk false 999 2 [] aN (by rfl) ?_
       have hr := Option.some.inj h
       subst hr
       exact TO_ tbOk.t Tryz.results34 [0, 1, 2, 7]
 ·refine RU tbOk false 999 0 [] aN (by rfl) ?_
  refine DR tbOk hmix [52] [([], []), ([], []), ([], []), ([5], []), ([4], []), ([4], []), ([0, 1, 2], [1])] [.cl true [0, 1, 2] (fun _ => c73 p0_0 p0_2 (gt v1 0) _ rfl)] (aR (aR (aC hk3 (aR (aR (aK aN)))))) (by rfl) ?_
  refine RU tbOk false 999 0 [] aN (by rfl) ?_
  refine G4.imp (Imp.nilC Instr.E 32 3 0 (by rfl) (by rfl) (by rfl)) ?_
  refine G4.imp (Imp.row 7 (by rfl)) ?_
  obtain ⟨o41, ho42, h⟩ := bd h
  refine G4.imp (Imp.row 8 (by rfl)) ?_
  refine G4.imp (s' := ⟨[(4, .p 3 0), (5, .p 4 0), (52, .fn (.func 115) [] [.p 5 0])], [(5, .cells 147 [.sl 6]), (6, .row Form.E 85 ((fn73 p0_0 p0_2 (gt v1 0)).1) (((fn73 p0_0 p0_2 (gt v1 0)).1).length) .unk)] ++ ((fun (s : (List Instr)) => ([(0, .cells 94 [.mp 1, .fn (.func 47) [] [], .mp 2, .fn (.func 48) [] []]), (1, .ex (pMO Kn.str Form.E 85 p0_0 ((fn73 p0_0 p0_2 (gt v1 0)).2)) [.sl 6]), (2, .ex (pMR (Kn.int .u8) Form.E 85 p0_2) []), (3, .cells 24 [.sl 8]), (4, .cells 40 [.sl 7]), (7, .row Et.str 9 v1 v1.length .unk), (8, .row Instr.E 32 s s.length .unk)] : SH)) ([] : List Instr) ++ []), 9⟩) (Imp.to [0, 1, 2, 3, 5, 6, 7, 4, 8] (by rfl) (by rfl) rfl rfl) ?_
  refine RFO [53] (Yn.one (Vn.ag Form.E)) [(5, .cells 147 [.sl 6]), (6, .row Form.E 85 ((fn73 p0_0 p0_2 (gt v1 0)).1) (((fn73 p0_0 p0_2 (gt v1 0)).1).length) .unk)] (fun (s : (List Instr)) => [(0, .cells 94 [.mp 1, .fn (.func 47) [] [], .mp 2, .fn (.func 48) [] []]), (1, .ex (pMO Kn.str Form.E 85 p0_0 ((fn73 p0_0 p0_2 (gt v1 0)).2)) [.sl 6]), (2, .ex (pMR (Kn.int .u8) Form.E 85 p0_2) []), (3, .cells 24 [.sl 8]), (4, .cells 40 [.sl 7]), (7, .row Et.str 9 v1 v1.length .unk), (8, .row Instr.E 32 s s.length .unk)]) [] 7 2 [5, 6] [.p 0 0] 147 [.sl 1] [(1, .row Form.E 85 ((fn73 p0_0 p0_2 (gt v1 0)).1) ((fn73 p0_0 p0_2 (gt v1 0)).1).length .unk)] (fun (s : (List Instr)) (y : Form) => fn34_r1 F v1 s y) ([] : List Instr) o41.1 o41.2 Tryz.call115 (by rfl) (by rfl) (by rfl) (by rfl) (fun _ _ => rfl) (fun _ => trivial) (fun _ => by rfl) (fun yv J => c115 F (stepR (fun (s : (List Instr)) (y : Form) => fn34_r1 F v1 s y)) goR ((fn73 p0_0 p0_2 (gt v1 0)).1) (([] : List Instr), 0) o41 ho42 yv J) ?_ ?_
  ·clear h ho42
   rintro l1 w1 R1 gl1 ρ1 pA pB QA QB xs30 y25 s1' m1' hpB h hbg35 hend36
   change fn34_r1 F v1 xs30 y25 = _ at h
   rw [fn34_r1] at h
   refine RU tbOk false 999 2 [] aN (by rfl) ?_
   refine hbg35 _ _ _ (by rfl) ?_
   refine RU tbOk false 999 0 [] aN (by rfl) ?_
   obtain ⟨hk37, h⟩ := ck h
   refine fk1 h (fun v38 hv39 h => ?_)
   ·refine DR tbOk hmix [10, 11] [([10], []), ([4], []), ([7], []), ([7, 11], []), ([], []), ([], []), ([], []), ([], []), ([], [])] [.sw, .cl true [11] (fun _ => c72_0 F y25 (cutX v1 ((1 : Int).toNat) ((1 : Int).toNat + (((v1.length : Nat) : Int).toNat - (1 : Int).toNat))) v38 hv39)] (aR (aR (aR (aC hk37 (aR (aK aN)))))) (by rfl) ?_
    refine RU tbOk false 999 1 [] aN (by rfl) ?_
    refine CD h (by rfl) (fun h hb40 => ?_) (fun h hb40 => ?_)
    ·refine RU tbOk false 999 2 [] aN (by rfl) ?_
     cases Option.some.inj h
     exact hend36 _ (Imp.to [0, 1, 2, 3, 4, 5, 6, 7, 12, 9] (by rfl) (by rfl) rfl rfl)
    ·refine RU tbOk false 999 0 [] aN (by rfl) ?_
     cases Option.some.inj h
     exact hend36 _ (Imp.to [0, 1, 2, 3, 4, 5, 6, 7, 8, 9] (by rfl) (by rfl) rfl rfl)
  ·intro r43
   refine CDS h (fun h hb45 => ?_) (fun h hb45 => ?_)
   ·rw [show o41.2 = 0 from Nat.eq_of_beq_eq_true hb45]
    change fn34_k1_0 o41.1 = _ at h
    rw [fn34_k1_0] at h
    refine RU tbOk false 999 1 [.mi] aN (by rfl) ?_
    refine PX_ ?_
    refine RU tbOk false 999 0 [] aN (by rfl) ?_
    have hr := Option.some.inj h
    subst hr
    refine G4.imp (Imp.closeMR 1 6 (by rfl) (by rfl)) ?_
    exact TPM_ [(9, r43)] [0, 1, 2] ⟨rfl, trivial⟩
   refine CDS h (fun h hb46 => ?_) (fun h hb46 => ?_)
   ·rw [show o41.2 = 1 from Nat.eq_of_beq_eq_true hb46]
    change fn34_k1_1 o41.1 = _ at h
    rw [fn34_k1_1] at h
    refine RU tbOk false 999 0 [] aN (by rfl) ?_
    have hr := Option.some.inj h
    subst hr
    refine G4.imp (Imp.closeMR 1 6 (by rfl) (by rfl)) ?_
    exact TOM_ tbOk.t [(9, r43)] Tryz.results34 [0, 1, 2, 8] ⟨rfl, trivial⟩
   cases h
theorem c34_0 (F : Nat) (p0_0 : List (ByteArray × List Form)) (p0_2 : List (Int × List Form)) (p1 : ByteArray) (r : Int) (h : fn34 F p0_0 p0_2 p1 = some (.inl r)) : ConX Tryz.prog 34 [.p 0 0, .v (.string p1)] [(0, .cells 94 [.mp 1, .fn (.func 47) [] [], .mp 2, .fn (.func 48) [] []]), (1, .ex (pMR Kn.str Form.E 85 p0_0) []), (2, .ex (pMR (Kn.int .u8) Form.E 85 p0_2) [])] 3 (.iface 35 (.int .i64 r)) [(0, .cells 94 [.mp 1, .fn (.func 47) [] [], .mp 2, .fn (.func 48) [] []]), (1, .ex (pMR Kn.str Form.E 85 p0_0) []), (2, .ex (pMR (Kn.int .u8) Form.E 85 p0_2) [])] 3 := c34 F p0_0 p0_2 p1 _ h
theorem c34_1 (F : Nat) (p0_0 : List (ByteArray × List Form)) (p0_2 : List (Int × List Form)) (p1 : ByteArray) (r : (List Instr)) (h : fn34 F p0_0 p0_2 p1 = some (.inr r)) : Con Tryz.prog 34 [.p 0 0, .v (.string p1)] [(0, .cells 94 [.mp 1, .fn (.func 47) [] [], .mp 2, .fn (.func 48) [] []]), (1, .ex (pMR Kn.str Form.E 85 p0_0) []), (2, .ex (pMR (Kn.int .u8) Form.E 85 p0_2) [])] 3 (.sl 3) [(0, .cells 94 [.mp 1, .fn (.func 47) [] [], .mp 2, .fn (.func 48) [] []]), (1, .ex (pMR Kn.str Form.E 85 p0_0) []), (2, .ex (pMR (Kn.int .u8) Form.E 85 p0_2) []), (3, .row Instr.E 32 r r.length .unk)] 4 := c34 F p0_0 p0_2 p1 _ h
def fn32 (p0 : Int) (p1 : List Instr) : Unit :=
 ()
theorem c32 (p0 : Int) (p1 : List Instr) (r : Unit) (h : fn32 p0 p1 = r) : ConD Tryz.prog 32 [.p 0 0, .p 1 0] [(0, .cells 35 [.v (.int .i64 p0)]), (1, .cells 24 [.sl 2]), (2, .rd Instr.E p1)] 3 .ret [(0, .cells 35 [.v (.int .i64 p0)]), (1, .cells 24 [.sl 2])] 3 := by
 rw [fn32] at h
 refine ConD.of_body Tryz.func32 Tryz.ntmps32 fun w F0 ρ gl => ?_
 refine RU tbOk false 999 2 [.ni] aN (by rfl) ?_
 refine CDF rfl (by rfl) ?_
 refine RU tbOk false 999 0 [] aN (by rfl) ?_
 subst h
 exact TQN_ Tryz.results32 [0, 1, 2]
def fn32v1 (p0 : Int) (p1 : List Instr) (pe : Int) : Int × (List Instr) :=
 (pe, ([] : List Instr))
theorem c32v1 (p0 : Int) (p1 : List Instr) (pe : Int) (r : Int × (List Instr)) (h : fn32v1 p0 p1 pe = r) : ConD Tryz.prog 32 [.p 0 0, .p 1 0] [(0, .cells 35 [.v (.int .i64 p0)]), (1, .cells 24 [.sl 2]), (2, .rd Instr.E p1)] 3 (.pan (.iface 35 (.int .i64 pe))) [(0, .cells 35 [.v (.int .i64 r.1)]), (1, .cells 24 [.sl 3]), (3, .row Instr.E 32 r.2 r.2.length .unk)] 4 := by
 rw [fn32v1] at h
 refine ConD.of_body Tryz.func32 Tryz.ntmps32 fun w F0 ρ gl => ?_
 refine RU tbOk false 999 2 [.ni] aN (by rfl) ?_
 refine CDT rfl (by rfl) ?_
 refine RU tbOk false 999 10 [.ta] aN (by rfl) ?_
 refine CDF rfl (by rfl) ?_
 refine RU tbOk false 999 1 [] aN (by rfl) ?_
 subst h
 refine G4.imp (Imp.nilC Instr.E 32 1 0 (by rfl) (by rfl) (by rfl)) ?_
 refine G4.imp (Imp.row 3 (by rfl)) ?_
 exact TQN_ Tryz.results32 [0, 1, 2, 3]
def fn15_r1 (F : Nat) (v3 : (List (ByteArray × List Form)) × (List (Int × List Form))) (x16 : Int) (xs17 : List Instr) (y5 : Int) (y6 : ByteArray) : Option ((Int × (List Instr)) × Nat) :=
 frk2 (fn34 F v3.1 v3.2 y6) (fun v32 => bif decide ((0 : Int) ≤ v32) then (some ((y5, xs17), 1000 + v32.toNat)) else none) (fun v35 => bif decide ((xs17.length + v35.length) * 12 ≤ 140737488355328 ∧ xs17.length + v35.length ≤ 9223372036854775807) then (some ((y5, xs17 ++ v35), 0)) else none)
def fn15_k1_0 (x16 : Int) (xs17 : List Instr) : Option (((List Instr) × Int × Int)) :=
 bif decide ((4096 : Int) < (xs17.length : Int)) then (some ((([] : List Instr), 0, 3))) else (some ((xs17, 0, 0)))
def fn15_k1_1 (x16 : Int) (xs17 : List Instr) (pe0 : Int) : Option (((List Instr) × Int × Int)) :=
 some (((fn32v1 0 xs17 pe0).2, x16, (fn32v1 0 xs17 pe0).1))
def fn15 (F : Nat) (p0 : ByteArray) : Option ((List Instr) × Int × Int) :=
 bif decide ((262144 : Int) < (p0.size : Int)) then (some ((([] : List Instr), 0, 3))) else (Option.bind (fn25 F) fun v3 => (frk2 (fn69 F (stepR (fun (s : Int × (List Instr)) (y : Int × ByteArray) => fn15_r1 F v3 s.1 s.2 y.1 y.2)) goR pnR (fn33 p0) (((0, ([] : List Instr)), 0) : (Int × (List Instr)) × Nat)) (fun o39 => fn15_k1_1 o39.1.1 o39.1.2 ((o39.2 - 1000 : Nat) : Int)) (fun o39 => bif decide (o39.2 < 1000) then (bif Nat.beq o39.2 0 then (fn15_k1_0 o39.1.1 o39.1.2) else none) else none)))
theorem c15 (F : Nat) (p0 : ByteArray) (r : (List Instr) × Int × Int) (h : fn15 F p0 = some r) : ConO Tryz.prog 15 [.v (.string p0)] [] 0 (.ret (.tu [.sl 0, .v (.int .i64 r.2.1), .v (.int .i64 r.2.2)]) [(0, .row Instr.E 32 r.1 r.1.length .unk)] 1) := by
 rw [fn15] at h
 refine ConO.of_body Tryz.func15 Tryz.ntmps15 fun w F0 ρ gl => ?_
 refine RU tbOk false 999 6 [] aN (by rfl) ?_
 refine CD h (by rfl) (fun h hb1 => ?_) (fun h hb1 => ?_)
 ·refine RU tbOk false 999 3 [] aN (by rfl) ?_
  have hr := Option.some.inj h
  subst hr
  refine G4.imp (Imp.nilC Instr.E 32 0 0 (by rfl) (by rfl) (by rfl)) ?_
  refine G4.imp (Imp.row 3 (by rfl)) ?_
  exact TO_ tbOk.t Tryz.results15 [3]
 ·refine RU tbOk false 999 1 [] aN (by rfl) ?_
  refine DF_ (fun vs2 => ?_)
  obtain ⟨v3, hv4, h⟩ := bd h
  refine RU tbOk false 999 1 [.cl true [] (fun _ => c25 F _ hv4)] (aK aN) (by rfl) ?_
  refine RU tbOk false 999 4 [.cl true [] (fun _ => c33 p0 _ rfl)] (aK aN) (by rfl) ?_
  refine RU tbOk false 999 0 [] aN (by rfl) ?_
  refine G4.imp (Imp.nilC Instr.E 32 0 0 (by rfl) (by rfl) (by rfl)) ?_
  refine fk2 h (fun o39 ho40 h => ?_) (fun o39 ho40 h => ?_)
  ·refine G4.imp (Imp.row 9 (by rfl)) ?_
   refine G4.imp (s' := ⟨[(2, .p 0 0), (3, .p 1 0), (4, .p 2 0), (5, .p 4 0), (14, .fn (.func 69) [] [.p 5 0])], [(5, .cells 9 [.v (.string (fn33 p0))])] ++ ((fun (s : Int × (List Instr)) => ([(0, .cells 24 [.sl 9]), (1, .cells 3 [.v (.int .i64 s.1)]), (2, .cells 35 [.v (.int .i64 0)]), (3, .ex (pD vs2) [.p 2 0, .p 0 0]), (4, .cells 48 [.p 6 0]), (6, .cells 94 [.mp 7, .fn (.func 47) [] [], .mp 8, .fn (.func 48) [] []]), (7, .ex (pMR Kn.str Form.E 85 v3.1) []), (8, .ex (pMR (Kn.int .u8) Form.E 85 v3.2) []), (9, .row Instr.E 32 s.2 s.2.length .unk)] : SH)) (0, ([] : List Instr)) ++ []), 10⟩) (Imp.to [0, 1, 2, 3, 7, 8, 4, 5, 6, 9] (by rfl) (by rfl) rfl rfl) ?_
   refine RFOE [15, 16] (Yn.two (Vn.int .i64) Vn.str) [(5, .cells 9 [.v (.string (fn33 p0))])] (fun (s : Int × (List Instr)) => [(0, .cells 24 [.sl 9]), (1, .cells 3 [.v (.int .i64 s.1)]), (2, .cells 35 [.v (.int .i64 0)]), (3, .ex (pD vs2) [.p 2 0, .p 0 0]), (4, .cells 48 [.p 6 0]), (6, .cells 94 [.mp 7, .fn (.func 47) [] [], .mp 8, .fn (.func 48) [] []]), (7, .ex (pMR Kn.str Form.E 85 v3.1) []), (8, .ex (pMR (Kn.int .u8) Form.E 85 v3.2) []), (9, .row Instr.E 32 s.2 s.2.length .unk)]) [] 6 1 [5] [.p 0 0] 9 [.v (.string (fn33 p0))] [] (fun (s : Int × (List Instr)) (y : Int × ByteArray) => fn15_r1 F v3 s.1 s.2 y.1 y.2) (mkE 35 .i64) true (.iface 35 (.int .i64 ((o39.2 - 1000 : Nat) : Int))) (0, ([] : List Instr)) o39.1 o39.2 Tryz.call69 (by rfl) (by rfl) (by rfl) (by rfl) (fun _ _ => rfl) (fun _ => trivial) (fun _ => by rfl) (fun yv J => c69 F (stepR (fun (s : Int × (List Instr)) (y : Int × ByteArray) => fn15_r1 F v3 s.1 s.2 y.1 y.2)) goR pnR (fn33 p0) ((0, ([] : List Instr)), 0) (.inl o39) ho40 (pvR (mkE 35 .i64)) yv J) (fun h => by cases h) ?_ ?_
   ·clear h ho40
    rintro l1 w1 R1 gl1 ρ1 pA pB QA QB ⟨x16, xs17⟩ ⟨y5, y6⟩ s1' m1' hpB h hbg27 hend28
    change fn15_r1 F v3 x16 xs17 y5 y6 = _ at h
    rw [fn15_r1] at h
    refine RU tbOk false 999 2 [] aN (by rfl) ?_
    refine hbg27 _ _ _ (by rfl) ?_
    refine GTB fun Qhq29 hq29 hp30 => ?_
    refine GTS fun Qhq31 hq31 => ?_
    refine RU tbOk false 999 2 [] aN (by rfl) ?_
    refine hq31 _ ?_
    refine fk2 h (fun v32 hv33 h => ?_) (fun v35 hv36 h => ?_)
    ·refine DCT_ tbOk hmix 3 [0] [([0], []), ([4], []), ([], [])] [] (aR (aR aN)) [6, 7, 8] (c34_0 F v3.1 v3.2 y6 v32 hv33) (aK aN) [19, 20] ?_
     refine RU tbOk false 999 0 [] aN (by rfl) ?_
     refine hp30 _ _ ?_
     refine RU tbOk false 999 0 [] aN (by rfl) ?_
     obtain ⟨hk34, h⟩ := ck h
     cases Option.some.inj h
     exact hend28 _ _ (exr_pan (of_decide_eq_true hk34)) (Imp.to [0, 1, 2, 3, 4, 5, 6, 7, 8, 9, 10] (by rfl) (by rfl) rfl rfl)
    ·obtain ⟨hk37, h⟩ := ck h
     refine GTN fun Qhq38 hq38 => ?_
     refine DR tbOk hmix [] [([0], []), ([4], []), ([], []), ([6, 7, 8], []), ([9, 11], []), ([0], [0])] [.cl true [6, 7, 8] (fun _ => c34_1 F v3.1 v3.2 y6 v35 hv36), .ap Instr.E .unk _ _] (aR (aR (aR (aK (aR (aR (aR (aC hk37 (aC rfl (aR aN)))))))))) (by rfl) ?_
     refine RU tbOk false 999 0 [] aN (by rfl) ?_
     refine hq38 _ ?_
     refine RU tbOk false 999 0 [] aN (by rfl) ?_
     refine hq29 _ ?_
     refine RU tbOk false 999 0 [] aN (by rfl) ?_
     cases Option.some.inj h
     exact hend28 _ _ (exr_ok (by decide)) (Imp.to [0, 1, 2, 3, 4, 5, 6, 7, 8, 12, 10] (by rfl) (by rfl) rfl rfl)
   ·intro r1_
    change fn15_k1_1 o39.1.1 o39.1.2 ((o39.2 - 1000 : Nat) : Int) = _ at h
    rw [fn15_k1_1] at h
    refine RU tbOk false 999 0 [] aN (by rfl) ?_
    have hr := Option.some.inj h
    subst hr
    refine G4.markE 10 (.inr (.inr ⟨_, rfl⟩)) rfl ?_
    exact TDP_ tbOk Tryz.results15 3 [2, 0, 9] (c32v1 0 o39.1.2 ((o39.2 - 1000 : Nat) : Int) _ rfl) [11]
  ·refine G4.imp (Imp.row 9 (by rfl)) ?_
   refine G4.imp (s' := ⟨[(2, .p 0 0), (3, .p 1 0), (4, .p 2 0), (5, .p 4 0), (14, .fn (.func 69) [] [.p 5 0])], [(5, .cells 9 [.v (.string (fn33 p0))])] ++ ((fun (s : Int × (List Instr)) => ([(0, .cells 24 [.sl 9]), (1, .cells 3 [.v (.int .i64 s.1)]), (2, .cells 35 [.v (.int .i64 0)]), (3, .ex (pD vs2) [.p 2 0, .p 0 0]), (4, .cells 48 [.p 6 0]), (6, .cells 94 [.mp 7, .fn (.func 47) [] [], .mp 8, .fn (.func 48) [] []]), (7, .ex (pMR Kn.str Form.E 85 v3.1) []), (8, .ex (pMR (Kn.int .u8) Form.E 85 v3.2) []), (9, .row Instr.E 32 s.2 s.2.length .unk)] : SH)) (0, ([] : List Instr)) ++ []), 10⟩) (Imp.to [0, 1, 2, 3, 7, 8, 4, 5, 6, 9] (by rfl) (by rfl) rfl rfl) ?_
   obtain ⟨hk44, h⟩ := ck h
   refine RFOE [15, 16] (Yn.two (Vn.int .i64) Vn.str) [(5, .cells 9 [.v (.string (fn33 p0))])] (fun (s : Int × (List Instr)) => [(0, .cells 24 [.sl 9]), (1, .cells 3 [.v (.int .i64 s.1)]), (2, .cells 35 [.v (.int .i64 0)]), (3, .ex (pD vs2) [.p 2 0, .p 0 0]), (4, .cells 48 [.p 6 0]), (6, .cells 94 [.mp 7, .fn (.func 47) [] [], .mp 8, .fn (.func 48) [] []]), (7, .ex (pMR Kn.str Form.E 85 v3.1) []), (8, .ex (pMR (Kn.int .u8) Form.E 85 v3.2) []), (9, .row Instr.E 32 s.2 s.2.length .unk)]) [] 6 1 [5] [.p 0 0] 9 [.v (.string (fn33 p0))] [] (fun (s : Int × (List Instr)) (y : Int × ByteArray) => fn15_r1 F v3 s.1 s.2 y.1 y.2) (mkE 35 .i64) false .nilIface (0, ([] : List Instr)) o39.1 o39.2 Tryz.call69 (by rfl) (by rfl) (by rfl) (by rfl) (fun _ _ => rfl) (fun _ => trivial) (fun _ => by rfl) (fun yv J => c69 F (stepR (fun (s : Int × (List Instr)) (y : Int × ByteArray) => fn15_r1 F v3 s.1 s.2 y.1 y.2)) goR pnR (fn33 p0) ((0, ([] : List Instr)), 0) (.inr o39) ho40 (pvR (mkE 35 .i64)) yv J) (fun _ => of_decide_eq_true hk44) ?_ ?_
   ·clear h ho40
    rintro l1 w1 R1 gl1 ρ1 pA pB QA QB ⟨x16, xs17⟩ ⟨y5, y6⟩ s1' m1' hpB h hbg27 hend28
    change fn15_r1 F v3 x16 xs17 y5 y6 = _ at h
    rw [fn15_r1] at h
    refine RU tbOk false 999 2 [] aN (by rfl) ?_
    refine hbg27 _ _ _ (by rfl) ?_
    refine GTB fun Qhq29 hq29 hp30 => ?_
    refine GTS fun Qhq31 hq31 => ?_
    refine RU tbOk false 999 2 [] aN (by rfl) ?_
    refine hq31 _ ?_
    refine fk2 h (fun v32 hv33 h => ?_) (fun v35 hv36 h => ?_)
    ·refine DCT_ tbOk hmix 3 [0] [([0], []), ([4], []), ([], [])] [] (aR (aR aN)) [6, 7, 8] (c34_0 F v3.1 v3.2 y6 v32 hv33) (aK aN) [19, 20] ?_
     refine RU tbOk false 999 0 [] aN (by rfl) ?_
     refine hp30 _ _ ?_
     refine RU tbOk false 999 0 [] aN (by rfl) ?_
     obtain ⟨hk34, h⟩ := ck h
     cases Option.some.inj h
     exact hend28 _ _ (exr_pan (of_decide_eq_true hk34)) (Imp.to [0, 1, 2, 3, 4, 5, 6, 7, 8, 9, 10] (by rfl) (by rfl) rfl rfl)
    ·obtain ⟨hk37, h⟩ := ck h
     refine GTN fun Qhq38 hq38 => ?_
     refine DR tbOk hmix [] [([0], []), ([4], []), ([], []), ([6, 7, 8], []), ([9, 11], []), ([0], [0])] [.cl true [6, 7, 8] (fun _ => c34_1 F v3.1 v3.2 y6 v35 hv36), .ap Instr.E .unk _ _] (aR (aR (aR (aK (aR (aR (aR (aC hk37 (aC rfl (aR aN)))))))))) (by rfl) ?_
     refine RU tbOk false 999 0 [] aN (by rfl) ?_
     refine hq38 _ ?_
     refine RU tbOk false 999 0 [] aN (by rfl) ?_
     refine hq29 _ ?_
     refine RU tbOk false 999 0 [] aN (by rfl) ?_
     cases Option.some.inj h
     exact hend28 _ _ (exr_ok (by decide)) (Imp.to [0, 1, 2, 3, 4, 5, 6, 7, 8, 12, 10] (by rfl) (by rfl) rfl rfl)
   ·intro r1_
    refine CDS h (fun h hb45 => ?_) (fun h hb45 => ?_)
    ·rw [show o39.2 = 0 from Nat.eq_of_beq_eq_true hb45]
     change fn15_k1_0 o39.1.1 o39.1.2 = _ at h
     rw [fn15_k1_0] at h
     refine RU tbOk false 999 3 [] aN (by rfl) ?_
     refine CD h (by rfl) (fun h hb42 => ?_) (fun h hb42 => ?_)
     ·refine RU tbOk false 999 3 [] aN (by rfl) ?_
      refine G4.imp (Imp.nilC Instr.E 32 0 0 (by rfl) (by rfl) (by rfl)) ?_
      have hr := Option.some.inj h
      subst hr
      refine G4.imp (Imp.row 11 (by rfl)) ?_
      refine G4.markE 10 (.inl rfl) rfl ?_
      exact TD_ tbOk Tryz.results15 3 [2, 0, 11] (c32 3 ([] : List Instr) _ rfl) [11]
     ·refine RU tbOk false 999 4 [] aN (by rfl) ?_
      have hr := Option.some.inj h
      subst hr
      refine G4.markE 10 (.inl rfl) rfl ?_
      exact TD_ tbOk Tryz.results15 3 [2, 0, 9] (c32 0 o39.1.2 _ rfl) [9]
    cases h
theorem c15_0 (F : Nat) (p0 : ByteArray) (r : (List Instr) × Int × Int) (h : fn15 F p0 = some r) : Con Tryz.prog 15 [.v (.string p0)] [] 0 (.tu [.sl 0, .v (.int .i64 r.2.1), .v (.int .i64 r.2.2)]) [(0, .row Instr.E 32 r.1 r.1.length .unk)] 1 := c15 F p0 _ h
def fn16_b1 (p0 : List Instr) (p1 : List Instr) (rl1 : Int → Option ((Unit) ⊕ (Bool))) (x6 : Int) : Option ((Unit) ⊕ (Bool)) :=
 bif decide (x6 < (p0.length : Int)) then (bif inb x6 p0.length then (bif inb x6 p1.length then (bif !((((gt p0 x6).fOp) == ((gt p1 x6).fOp)) && ((((gt p0 x6).fDst) == ((gt p1 x6).fDst)) && ((((gt p0 x6).fSrc) == ((gt p1 x6).fSrc)) && ((((gt p0 x6).fOff) == ((gt p1 x6).fOff)) && ((((gt p0 x6).fImm) == ((gt p1 x6).fImm)) && true))))) then (some (.inr (false))) else (rl1 (IntKind.i64.wrap (x6 + 1)))) else none) else none) else (some (.inl ()))
def fn16_l1 (p0 : List Instr) (p1 : List Instr) : Nat → Int → Option ((Unit) ⊕ (Bool))
 | 0, _ => none
 | n13 + 1, x6 => fn16_b1 p0 p1 (fn16_l1 p0 p1 n13) x6
theorem fn16_l1_s (p0 : List Instr) (p1 : List Instr) (n13 : Nat) (x6 : Int) : fn16_l1 p0 p1 (n13 + 1) x6 = fn16_b1 p0 p1 (fn16_l1 p0 p1 n13) x6 := rfl
def fn16_k1 : Option (Bool) :=
 some (true)
def fn16 (F : Nat) (p0 : List Instr) (p1 : List Instr) : Option (Bool) :=
 bif (p0.length : Int) != (p1.length : Int) then (some (false)) else (Option.bind (fn16_l1 p0 p1 F 0) fun o11 => (match o11 with | .inl u => fn16_k1 | .inr u => some u))
theorem c16 (F : Nat) (p0 : List Instr) (p1 : List Instr) (r : Bool) (h : fn16 F p0 p1 = some r) : Con Tryz.prog 16 [.sl 0, .sl 1] [(0, .rd Instr.E p0), (1, .rd Instr.E p1)] 2 (.v (.bool r)) [] 2 := by
 rw [fn16] at h
 refine Con.of_body Tryz.func16 rfl Tryz.ntmps16 rfl fun w F0 ρ gl => ?_
 refine RU tbOk false 999 6 [] aN (by rfl) ?_
 refine CD h (by rfl) (fun h hb1 => ?_) (fun h hb1 => ?_)
 ·refine RU tbOk false 999 1 [] aN (by rfl) ?_
  have hr := Option.some.inj h
  subst hr
  exact RT tbOk.t Tryz.results16 [0, 1] (by rfl) (by rfl) (by rfl) rfl rfl
 ·refine RU tbOk false 999 1 [] aN (by rfl) ?_
  obtain ⟨o11, hl12, h⟩ := bd h
  refine CTS 0 (fun u21 => ⟨[], [(0, .rd Instr.E p0), (1, .rd Instr.E p1)], 2⟩) o11 ?_ (fun u21 hu21 => ?_)
  ·have h015 := h
   clear h
   refine G4.imp (Imp.to [0, 1] (by rfl) (by rfl) rfl rfl) (LP (fun (n : Nat) (s : Int) => fn16_l1 p0 p1 n s) (fun (s : Int) => ⟨[(0, .sl 0), (1, .sl 1), (5, .v (.int .i64 s))], [(0, .rd Instr.E p0), (1, .rd Instr.E p1)], 2⟩) (fun _ => rfl) (s0 := 0) hl12 ?_)
   clear hl12
   rintro R16 n13 x6 h ih14
   replace h := (fn16_l1_s p0 p1 n13 x6).symm.trans h
   rw [fn16_b1] at h
   refine RU tbOk false 999 4 [] aN (by rfl) ?_
   refine CD h (by rfl) (fun h hb17 => ?_) (fun h hb17 => ?_)
   ·refine RU tbOk false 999 0 [] aN (by rfl) ?_
    obtain ⟨hk18, h⟩ := ck h
    obtain ⟨hk19, h⟩ := ck h
    refine DR tbOk hmix [25] [([], []), ([], []), ([0], []), ([0], []), ([], []), ([], []), ([1], []), ([1], []), ([], [])] [] (aR (aC hk18 (aR (aR (aC hk19 (aR aN)))))) (by rfl) ?_
    refine RU tbOk false 999 0 [] aN (by rfl) ?_
    refine CD h (by rfl) (fun h hb20 => ?_) (fun h hb20 => ?_)
    ·refine RU tbOk false 999 1 [] aN (by rfl) ?_
     have ho := Option.some.inj h
     subst ho
     replace h := h015
     refine RU tbOk false 999 0 [] aN (by rfl) ?_
     have hr := Option.some.inj h
     subst hr
     exact RT tbOk.t Tryz.results16 [0, 1] (by rfl) (by rfl) (by rfl) rfl rfl
    ·refine RU tbOk false 999 3 [] aN (by rfl) ?_
     exact ih14 (IntKind.i64.wrap (x6 + 1)) h _ _ (Imp.to [0, 1] (by rfl) (by rfl) rfl rfl)
   ·refine RU tbOk false 999 0 [] aN (by rfl) ?_
    have ho := Option.some.inj h
    subst ho
    exact CES _ rfl (Imp.to [0, 1] (by rfl) (by rfl) rfl rfl)
  ·subst hu21
   change fn16_k1 = _ at h
   rw [fn16_k1] at h
   refine RU tbOk false 999 1 [] aN (by rfl) ?_
   have hr := Option.some.inj h
   subst hr
   exact RT tbOk.t Tryz.results16 [0, 1] (by rfl) (by rfl) (by rfl) rfl rfl
def fn23 (p0 : Instr) : Bool :=
 (decide ((15 : Int) < p0.fDst)) || (decide ((15 : Int) < p0.fSrc))
theorem c23 (p0 : Instr) (r : Bool) (h : fn23 p0 = r) : Con Tryz.prog 23 [.ag [.v (.int .u8 p0.fOp), .v (.int .u8 p0.fDst), .v (.int .u8 p0.fSrc), .v (.int .i16 p0.fOff), .v (.int .i32 p0.fImm)]] [] 0 (.v (.bool r)) [] 0 := by
 rw [fn23] at h
 refine Con.of_body Tryz.func23 rfl Tryz.ntmps23 rfl fun w F0 ρ gl => ?_
 refine RU tbOk false 999 11 [] aN (by rfl) ?_
 subst h
 exact RT tbOk.t Tryz.results23 [] (by rfl) (by rfl) (by rfl) rfl rfl
def fn46_b1 (p0 : List Instr) (rl1 : Int → Option ((Unit) ⊕ (Int))) (x4 : Int) : Option ((Unit) ⊕ (Int)) :=
 bif decide (x4 < (p0.length : Int)) then (bif inb x4 p0.length then (bif (fn23 (gt p0 x4)) then (some (.inr (x4))) else (rl1 (IntKind.i64.wrap (x4 + 1)))) else none) else (some (.inl ()))
def fn46_l1 (p0 : List Instr) : Nat → Int → Option ((Unit) ⊕ (Int))
 | 0, _ => none
 | n10 + 1, x4 => fn46_b1 p0 (fn46_l1 p0 n10) x4
theorem fn46_l1_s (p0 : List Instr) (n10 : Nat) (x4 : Int) : fn46_l1 p0 (n10 + 1) x4 = fn46_b1 p0 (fn46_l1 p0 n10) x4 := rfl
def fn46_k1 : Option (Int) :=
 some ((-1))
def fn46 (F : Nat) (p0 : List Instr) : Option (Int) :=
 Option.bind (fn46_l1 p0 F 0) fun o8 => (match o8 with | .inl u => fn46_k1 | .inr u => some u)
theorem c46 (F : Nat) (p0 : List Instr) (r : Int) (h : fn46 F p0 = some r) : Con Tryz.prog 46 [.sl 0, .fn (.func 23) [] []] [(0, .rd Instr.E p0)] 1 (.v (.int .i64 r)) [] 1 := by
 rw [fn46] at h
 refine Con.of_body Tryz.func46 rfl Tryz.ntmps46 rfl fun w F0 ρ gl => ?_
 refine RU tbOk false 999 4 [] aN (by rfl) ?_
 obtain ⟨o8, hl9, h⟩ := bd h
 refine CTS 0 (fun u17 => ⟨[], [(0, .rd Instr.E p0)], 1⟩) o8 ?_ (fun u17 hu17 => ?_)
 ·have h012 := h
  clear h
  refine G4.imp (Imp.to [0] (by rfl) (by rfl) rfl rfl) (LP (fun (n : Nat) (s : Int) => fn46_l1 p0 n s) (fun (s : Int) => ⟨[(0, .sl 0), (1, .fn (.func 23) [] []), (7, .v (.int .i64 (p0.length : Int))), (8, .v (.int .i64 s))], [(0, .rd Instr.E p0)], 1⟩) (fun _ => rfl) (s0 := 0) hl9 ?_)
  clear hl9
  rintro R13 n10 x4 h ih11
  replace h := (fn46_l1_s p0 n10 x4).symm.trans h
  rw [fn46_b1] at h
  refine RU tbOk false 999 1 [] aN (by rfl) ?_
  refine CD h (by rfl) (fun h hb14 => ?_) (fun h hb14 => ?_)
  ·obtain ⟨hk15, h⟩ := ck h
   refine RU tbOk false 999 8 [.cl true [] (fun _ => c23 (gt p0 x4) _ rfl)] (aC hk15 (aK aN)) (by rfl) ?_
   refine RU tbOk false 999 0 [] aN (by rfl) ?_
   refine CD h (by rfl) (fun h hb16 => ?_) (fun h hb16 => ?_)
   ·refine RU tbOk false 999 2 [] aN (by rfl) ?_
    have ho := Option.some.inj h
    subst ho
    replace h := h012
    refine RU tbOk false 999 0 [] aN (by rfl) ?_
    have hr := Option.some.inj h
    subst hr
    exact RT tbOk.t Tryz.results46 [0] (by rfl) (by rfl) (by rfl) rfl rfl
   ·refine RU tbOk false 999 2 [] aN (by rfl) ?_
    exact ih11 (IntKind.i64.wrap (x4 + 1)) h _ _ (Imp.to [0] (by rfl) (by rfl) rfl rfl)
  ·refine RU tbOk false 999 0 [] aN (by rfl) ?_
   have ho := Option.some.inj h
   subst ho
   exact CES _ rfl (Imp.to [0] (by rfl) (by rfl) rfl rfl)
 ·subst hu17
  change fn46_k1 = _ at h
  rw [fn46_k1] at h
  refine RU tbOk false 999 1 [] aN (by rfl) ?_
  have hr := Option.some.inj h
  subst hr
  exact RT tbOk.t Tryz.results46 [0] (by rfl) (by rfl) (by rfl) rfl rfl
def fn24 (F : Nat) (p0 : List Instr) : Option (Bool) :=
 Option.bind (fn46 F p0) fun v1 => (some (decide ((0 : Int) ≤ v1)))
theorem c24 (F : Nat) (p0 : List Instr) (r : Bool) (h : fn24 F p0 = some r) : Con Tryz.prog 24 [.sl 0, .fn (.func 23) [] []] [(0, .rd Instr.E p0)] 1 (.v (.bool r)) [] 1 := by
 rw [fn24] at h
 refine Con.of_body Tryz.func24 rfl Tryz.ntmps24 rfl fun w F0 ρ gl => ?_
 obtain ⟨v1, hv2, h⟩ := bd h
 refine RU tbOk false 999 4 [.cl true [0] (fun _ => c46 F p0 _ hv2)] (aK aN) (by rfl) ?_
 refine RU tbOk false 999 2 [] aN (by rfl) ?_
 have hr := Option.some.inj h
 subst hr
 exact RT tbOk.t Tryz.results24 [0] (by rfl) (by rfl) (by rfl) rfl rfl
def fn59 (p0_0 : List (ByteArray × List Form)) (p0_2 : List (Int × List Form)) (p1 : Int) : (List Form) × Int :=
 (mget p0_2 p1 ([] : List Form), p1)
theorem c59 (p0_0 : List (ByteArray × List Form)) (p0_2 : List (Int × List Form)) (p1 : Int) (r : (List Form) × Int) (h : fn59 p0_0 p0_2 p1 = r) : Con Tryz.prog 59 [.p 0 2, .v (.int .u8 p1)] [(0, .cells 94 [.mp 1, .fn (.func 47) [] [], .mp 2, .fn (.func 48) [] []]), (1, .ex (pMR Kn.str Form.E 85 p0_0) []), (2, .ex (pMR (Kn.int .u8) Form.E 85 p0_2) [])] 3 (.fn (.func 115) [] [.p 3 0]) [(0, .cells 94 [.mp 1, .fn (.func 47) [] [], .mp 2, .fn (.func 48) [] []]), (1, .ex (pMR Kn.str Form.E 85 p0_0) []), (2, .ex (pMO (Kn.int .u8) Form.E 85 p0_2 r.2) [.sl 4]), (3, .cells 147 [.sl 4]), (4, .row Form.E 85 r.1 r.1.length .unk)] 5 := by
 rw [fn59] at h
 refine Con.of_body Tryz.func59 rfl Tryz.ntmps59 rfl fun w F0 ρ gl => ?_
 refine RU tbOk false 999 8 [.lr (Kn.int .u8) Form.E 85 _ p1 Tryz.runUnderlying89 Tryz.runUnderlying5 Tryz.zeroValue147, .cl true [3] (fun _ => c96 (mget p0_2 p1 ([] : List Form)) _ rfl)] (aR (aR (aK aN))) (by rfl) ?_
 refine RU tbOk false 999 1 [] aN (by rfl) ?_
 subst h
 exact RT tbOk.t Tryz.results59 [0, 1, 2, 4, 3] (by rfl) (by rfl) (by rfl) rfl rfl
def fn97 (p0 : Line) (p1 : Int) : Option (Line) :=
 bif p1 == 68 then (Option.bind (fn53 (IntKind.i64.wrap p0.fInstr.fDst)) fun v2 => (bif decide ((⟨#[114]⟩ : ByteArray).size + v2.size ≤ 9223372036854775807) then (bif decide ((p0.fwords.length + ([(⟨#[114]⟩ : ByteArray) ++ v2] : List ByteArray).length) * 16 ≤ 140737488355328 ∧ p0.fwords.length + ([(⟨#[114]⟩ : ByteArray) ++ v2] : List ByteArray).length ≤ 9223372036854775807) then (some ((⟨(⟨p0.fInstr.fOp, 0, p0.fInstr.fSrc, p0.fInstr.fOff, p0.fInstr.fImm⟩ : Instr), p0.fnext, p0.fwords ++ ([(⟨#[114]⟩ : ByteArray) ++ v2] : List ByteArray)⟩ : Line))) else none) else none)) else (bif p1 == 83 then (Option.bind (fn53 (IntKind.i64.wrap p0.fInstr.fSrc)) fun v7 => (bif decide ((⟨#[114]⟩ : ByteArray).size + v7.size ≤ 9223372036854775807) then (bif decide ((p0.fwords.length + ([(⟨#[114]⟩ : ByteArray) ++ v7] : List ByteArray).length) * 16 ≤ 140737488355328 ∧ p0.fwords.length + ([(⟨#[114]⟩ : ByteArray) ++ v7] : List ByteArray).length ≤ 9223372036854775807) then (some ((⟨(⟨p0.fInstr.fOp, p0.fInstr.fDst, 0, p0.fInstr.fOff, p0.fInstr.fImm⟩ : Instr), p0.fnext, p0.fwords ++ ([(⟨#[114]⟩ : ByteArray) ++ v7] : List ByteArray)⟩ : Line))) else none) else none)) else (bif p1 == 73 then (Option.bind (fn53 (IntKind.i64.wrap p0.fInstr.fImm)) fun v12 => (bif decide ((p0.fwords.length + ([v12] : List ByteArray).length) * 16 ≤ 140737488355328 ∧ p0.fwords.length + ([v12] : List ByteArray).length ≤ 9223372036854775807) then (some ((⟨(⟨p0.fInstr.fOp, p0.fInstr.fDst, p0.fInstr.fSrc, p0.fInstr.fOff, 0⟩ : Instr), p0.fnext, p0.fwords ++ ([v12] : List ByteArray)⟩ : Line))) else none)) else (bif p1 == 78 then (Option.bind (fn100 (ior .i64 (ishl .i64 (IntKind.i64.wrap p0.fnext.fImm) 32) (IntKind.i64.wrap (IntKind.u32.wrap p0.fInstr.fImm))) 10) fun v16 => (bif decide ((p0.fwords.length + ([v16] : List ByteArray).length) * 16 ≤ 140737488355328 ∧ p0.fwords.length + ([v16] : List ByteArray).length ≤ 9223372036854775807) then (some ((⟨(⟨p0.fInstr.fOp, p0.fInstr.fDst, p0.fInstr.fSrc, p0.fInstr.fOff, 0⟩ : Instr), (⟨p0.fnext.fOp, p0.fnext.fDst, p0.fnext.fSrc, p0.fnext.fOff, 0⟩ : Instr), p0.fwords ++ ([v16] : List ByteArray)⟩ : Line))) else none)) else (Option.bind (fn53 (IntKind.i64.wrap p0.fInstr.fOff)) fun v19 => (bif decide ((p0.fwords.length + ([v19] : List ByteArray).length) * 16 ≤ 140737488355328 ∧ p0.fwords.length + ([v19] : List ByteArray).length ≤ 9223372036854775807) then (some ((⟨(⟨p0.fInstr.fOp, p0.fInstr.fDst, p0.fInstr.fSrc, 0, p0.fInstr.fImm⟩ : Instr), p0.fnext, p0.fwords ++ ([v19] : List ByteArray)⟩ : Line))) else none)))))
theorem c97 (p0 : Line) (p1 : Int) (r : Line) (h : fn97 p0 p1 = some r) : Con Tryz.prog 97 [.p 0 0, .v (.int .i32 p1)] [(0, .cells 152 [.v (.int .u8 p0.fInstr.fOp), .v (.int .u8 p0.fInstr.fDst), .v (.int .u8 p0.fInstr.fSrc), .v (.int .i16 p0.fInstr.fOff), .v (.int .i32 p0.fInstr.fImm), .v (.int .u8 p0.fnext.fOp), .v (.int .u8 p0.fnext.fDst), .v (.int .u8 p0.fnext.fSrc), .v (.int .i16 p0.fnext.fOff), .v (.int .i32 p0.fnext.fImm), .sl 1]), (1, .row Et.str 9 p0.fwords p0.fwords.length .unk)] 2 (.tu []) [(0, .cells 152 [.v (.int .u8 r.fInstr.fOp), .v (.int .u8 r.fInstr.fDst), .v (.int .u8 r.fInstr.fSrc), .v (.int .i16 r.fInstr.fOff), .v (.int .i32 r.fInstr.fImm), .v (.int .u8 r.fnext.fOp), .v (.int .u8 r.fnext.fDst), .v (.int .u8 r.fnext.fSrc), .v (.int .i16 r.fnext.fOff), .v (.int .i32 r.fnext.fImm), .sl 2]), (2, .row Et.str 9 r.fwords r.fwords.length .unk)] 3 := by
 rw [fn97] at h
 refine Con.of_body Tryz.func97 rfl Tryz.ntmps97 rfl fun w F0 ρ gl => ?_
 refine RU tbOk false 999 3 [] aN (by rfl) ?_
 refine CD h (by rfl) (fun h hb1 => ?_) (fun h hb1 => ?_)
 ·refine RU tbOk false 999 0 [] aN (by rfl) ?_
  obtain ⟨v2, hv3, h⟩ := bd h
  obtain ⟨hk4, h⟩ := ck h
  obtain ⟨hk5, h⟩ := ck h
  refine DR tbOk hmix [] [([], []), ([], []), ([], []), ([], []), ([0], []), ([], []), ([], []), ([], []), ([], []), ([0], []), ([], []), ([], []), ([], []), ([], []), ([1, 2], []), ([], []), ([], []), ([0], [0])] [.cl true [] (fun _ => c53 (IntKind.i64.wrap p0.fInstr.fDst) _ hv3), .st, .bs Et.str ([(⟨#[114]⟩ : ByteArray) ++ v2] : List ByteArray), .ap Et.str .unk _ _] (aR (aR (aK (aC hk4 (aR (aR (aR (aR (aR (aC hk5 (aC rfl (aR aN)))))))))))) (by rfl) ?_
  refine RU tbOk false 999 5 [] aN (by rfl) ?_
  have hr := Option.some.inj h
  subst hr
  exact RTN tbOk.t Tryz.results97 [0, 1, 3] (by rfl) (by rfl) (by rfl) rfl rfl
 ·refine RU tbOk false 999 2 [] aN (by rfl) ?_
  refine CD h (by rfl) (fun h hb6 => ?_) (fun h hb6 => ?_)
  ·refine RU tbOk false 999 0 [] aN (by rfl) ?_
   obtain ⟨v7, hv8, h⟩ := bd h
   obtain ⟨hk9, h⟩ := ck h
   obtain ⟨hk10, h⟩ := ck h
   refine DR tbOk hmix [] [([], []), ([], []), ([], []), ([], []), ([0], []), ([], []), ([], []), ([], []), ([], []), ([0], []), ([], []), ([], []), ([], []), ([], []), ([1, 2], []), ([], []), ([], []), ([0], [0])] [.cl true [] (fun _ => c53 (IntKind.i64.wrap p0.fInstr.fSrc) _ hv8), .st, .bs Et.str ([(⟨#[114]⟩ : ByteArray) ++ v7] : List ByteArray), .ap Et.str .unk _ _] (aR (aR (aK (aC hk9 (aR (aR (aR (aR (aR (aC hk10 (aC rfl (aR aN)))))))))))) (by rfl) ?_
   refine RU tbOk false 999 5 [] aN (by rfl) ?_
   have hr := Option.some.inj h
   subst hr
   exact RTN tbOk.t Tryz.results97 [0, 1, 3] (by rfl) (by rfl) (by rfl) rfl rfl
  ·refine RU tbOk false 999 2 [] aN (by rfl) ?_
   refine CD h (by rfl) (fun h hb11 => ?_) (fun h hb11 => ?_)
   ·refine RU tbOk false 999 0 [] aN (by rfl) ?_
    obtain ⟨v12, hv13, h⟩ := bd h
    obtain ⟨hk14, h⟩ := ck h
    refine DR tbOk hmix [] [([], []), ([], []), ([], []), ([], []), ([0], []), ([], []), ([], []), ([], []), ([], []), ([0], []), ([], []), ([], []), ([], []), ([1, 2], []), ([], []), ([], []), ([0], [0])] [.cl true [] (fun _ => c53 (IntKind.i64.wrap p0.fInstr.fImm) _ hv13), .bs Et.str ([v12] : List ByteArray), .ap Et.str .unk _ _] (aR (aR (aK (aR (aR (aR (aR (aR (aC hk14 (aC rfl (aR aN))))))))))) (by rfl) ?_
    refine RU tbOk false 999 5 [] aN (by rfl) ?_
    have hr := Option.some.inj h
    subst hr
    exact RTN tbOk.t Tryz.results97 [0, 1, 3] (by rfl) (by rfl) (by rfl) rfl rfl
   ·refine RU tbOk false 999 2 [] aN (by rfl) ?_
    refine CD h (by rfl) (fun h hb15 => ?_) (fun h hb15 => ?_)
    ·refine RU tbOk false 999 0 [] aN (by rfl) ?_
     obtain ⟨v16, hv17, h⟩ := bd h
     obtain ⟨hk18, h⟩ := ck h
     refine DR tbOk hmix [] [([], []), ([], []), ([], []), ([], []), ([0], []), ([], []), ([], []), ([], []), ([], []), ([0], []), ([], []), ([], []), ([], []), ([], []), ([], []), ([], []), ([0], []), ([], []), ([], []), ([], []), ([], []), ([], []), ([1, 2], []), ([], []), ([], []), ([0], [0])] [.cl true [] (fun _ => c100 (ior .i64 (ishl .i64 (IntKind.i64.wrap p0.fnext.fImm) 32) (IntKind.i64.wrap (IntKind.u32.wrap p0.fInstr.fImm))) 10 _ hv17), .bs Et.str ([v16] : List ByteArray), .ap Et.str .unk _ _] (aR (aR (aC rfl (aR (aK (aR (aR (aR (aR (aR (aC hk18 (aC rfl (aR aN))))))))))))) (by rfl) ?_
     refine RU tbOk false 999 10 [] aN (by rfl) ?_
     have hr := Option.some.inj h
     subst hr
     exact RTN tbOk.t Tryz.results97 [0, 1, 3] (by rfl) (by rfl) (by rfl) rfl rfl
    ·refine RU tbOk false 999 0 [] aN (by rfl) ?_
     obtain ⟨v19, hv20, h⟩ := bd h
     obtain ⟨hk21, h⟩ := ck h
     refine DR tbOk hmix [] [([], []), ([], []), ([], []), ([], []), ([0], []), ([], []), ([], []), ([], []), ([], []), ([0], []), ([], []), ([], []), ([], []), ([1, 2], []), ([], []), ([], []), ([0], [0])] [.cl true [] (fun _ => c53 (IntKind.i64.wrap p0.fInstr.fOff) _ hv20), .bs Et.str ([v19] : List ByteArray), .ap Et.str .unk _ _] (aR (aR (aK (aR (aR (aR (aR (aR (aC hk21 (aC rfl (aR aN))))))))))) (by rfl) ?_
     refine RU tbOk false 999 5 [] aN (by rfl) ?_
     have hr := Option.some.inj h
     subst hr
     exact RTN tbOk.t Tryz.results97 [0, 1, 3] (by rfl) (by rfl) (by rfl) rfl rfl
def fn60_b1 (p0 : Form) (rl1 : (List ByteArray) → Int → Int → Int → Int → Int → Int → Int → Int → Int → Int → Nat → Option ((List ByteArray) × Int × Int × Int × Int × Int × Int × Int × Int × Int × Int)) (xs5 : List ByteArray) (x6 : Int) (x7 : Int) (x8 : Int) (x9 : Int) (x10 : Int) (x11 : Int) (x12 : Int) (x13 : Int) (x14 : Int) (x15 : Int) (q16 : Nat) : Option ((List ByteArray) × Int × Int × Int × Int × Int × Int × Int × Int × Int × Int) :=
 bif decide (q16 < p0.fwords.size) then (Option.bind (fn97 (⟨(⟨x6, x7, x8, x9, x10⟩ : Instr), (⟨x11, x12, x13, x14, x15⟩ : Instr), xs5⟩ : Line) ((Utf8.decode p0.fwords q16).1 : Int)) fun v38 => (rl1 v38.fwords v38.fInstr.fOp v38.fInstr.fDst v38.fInstr.fSrc v38.fInstr.fOff v38.fInstr.fImm v38.fnext.fOp v38.fnext.fDst v38.fnext.fSrc v38.fnext.fOff v38.fnext.fImm (q16 + (Utf8.decode p0.fwords q16).2))) else (some (xs5, x6, x7, x8, x9, x10, x11, x12, x13, x14, x15))
def fn60_l1 (p0 : Form) : Nat → (List ByteArray) → Int → Int → Int → Int → Int → Int → Int → Int → Int → Int → Nat → Option ((List ByteArray) × Int × Int × Int × Int × Int × Int × Int × Int × Int × Int)
 | 0, _, _, _, _, _, _, _, _, _, _, _, _ => none
 | n33 + 1, xs5, x6, x7, x8, x9, x10, x11, x12, x13, x14, x15, q16 => fn60_b1 p0 (fn60_l1 p0 n33) xs5 x6 x7 x8 x9 x10 x11 x12 x13 x14 x15 q16
theorem fn60_l1_s (p0 : Form) (n33 : Nat) (xs5 : List ByteArray) (x6 : Int) (x7 : Int) (x8 : Int) (x9 : Int) (x10 : Int) (x11 : Int) (x12 : Int) (x13 : Int) (x14 : Int) (x15 : Int) (q16 : Nat) : fn60_l1 p0 (n33 + 1) xs5 x6 x7 x8 x9 x10 x11 x12 x13 x14 x15 q16 = fn60_b1 p0 (fn60_l1 p0 n33) xs5 x6 x7 x8 x9 x10 x11 x12 x13 x14 x15 q16 := rfl
def fn60_k1 (p0 : Form) (xs20 : List ByteArray) (x21 : Int) (x22 : Int) (x23 : Int) (x24 : Int) (x25 : Int) (x26 : Int) (x27 : Int) (x28 : Int) (x29 : Int) (x30 : Int) : Option (((List ByteArray) × Bool × Bool)) :=
 some ((xs20, p0.fslot.fOp == ((fn56 0).fOp), ((x21 == p0.fslot.fOp) && ((x22 == p0.fslot.fDst) && ((x23 == p0.fslot.fSrc) && ((x24 == p0.fslot.fOff) && ((x25 == p0.fslot.fImm) && true))))) && ((x26 == 0) && ((x27 == 0) && ((x28 == 0) && ((x29 == 0) && ((x30 == 0) && true)))))))
def fn60_b2 (p0 : Form) (rl2 : (List ByteArray) → Int → Int → Int → Int → Int → Int → Int → Int → Int → Int → Nat → Option ((List ByteArray) × Int × Int × Int × Int × Int × Int × Int × Int × Int × Int)) (xs43 : List ByteArray) (x44 : Int) (x45 : Int) (x46 : Int) (x47 : Int) (x48 : Int) (x49 : Int) (x50 : Int) (x51 : Int) (x52 : Int) (x53 : Int) (q54 : Nat) : Option ((List ByteArray) × Int × Int × Int × Int × Int × Int × Int × Int × Int × Int) :=
 bif decide (q54 < p0.fwords.size) then (Option.bind (fn97 (⟨(⟨x44, x45, x46, x47, x48⟩ : Instr), (⟨x49, x50, x51, x52, x53⟩ : Instr), xs43⟩ : Line) ((Utf8.decode p0.fwords q54).1 : Int)) fun v76 => (rl2 v76.fwords v76.fInstr.fOp v76.fInstr.fDst v76.fInstr.fSrc v76.fInstr.fOff v76.fInstr.fImm v76.fnext.fOp v76.fnext.fDst v76.fnext.fSrc v76.fnext.fOff v76.fnext.fImm (q54 + (Utf8.decode p0.fwords q54).2))) else (some (xs43, x44, x45, x46, x47, x48, x49, x50, x51, x52, x53))
def fn60_l2 (p0 : Form) : Nat → (List ByteArray) → Int → Int → Int → Int → Int → Int → Int → Int → Int → Int → Nat → Option ((List ByteArray) × Int × Int × Int × Int × Int × Int × Int × Int × Int × Int)
 | 0, _, _, _, _, _, _, _, _, _, _, _, _ => none
 | n71 + 1, xs43, x44, x45, x46, x47, x48, x49, x50, x51, x52, x53, q54 => fn60_b2 p0 (fn60_l2 p0 n71) xs43 x44 x45 x46 x47 x48 x49 x50 x51 x52 x53 q54
theorem fn60_l2_s (p0 : Form) (n71 : Nat) (xs43 : List ByteArray) (x44 : Int) (x45 : Int) (x46 : Int) (x47 : Int) (x48 : Int) (x49 : Int) (x50 : Int) (x51 : Int) (x52 : Int) (x53 : Int) (q54 : Nat) : fn60_l2 p0 (n71 + 1) xs43 x44 x45 x46 x47 x48 x49 x50 x51 x52 x53 q54 = fn60_b2 p0 (fn60_l2 p0 n71) xs43 x44 x45 x46 x47 x48 x49 x50 x51 x52 x53 q54 := rfl
def fn60_k2 (p0 : Form) (xs58 : List ByteArray) (x59 : Int) (x60 : Int) (x61 : Int) (x62 : Int) (x63 : Int) (x64 : Int) (x65 : Int) (x66 : Int) (x67 : Int) (x68 : Int) : Option (((List ByteArray) × Bool × Bool)) :=
 some ((xs58, p0.fslot.fOp == ((fn56 0).fOp), ((x59 == p0.fslot.fOp) && ((x60 == p0.fslot.fDst) && ((x61 == p0.fslot.fSrc) && ((x62 == p0.fslot.fOff) && ((x63 == p0.fslot.fImm) && true))))) && ((x64 == 0) && ((x65 == 0) && ((x66 == 0) && ((x67 == 0) && ((x68 == 0) && true)))))))
def fn60 (F : Nat) (p0 : Form) (p1 : Instr) (p2 : Instr) : Option ((List ByteArray) × Bool × Bool) :=
 bif p0.fslot.fOp == ((fn56 0).fOp) then (Option.bind (fn60_l1 p0 F ([p0.fname] : List ByteArray) p1.fOp p1.fDst p1.fSrc p1.fOff p1.fImm p2.fOp p2.fDst p2.fSrc p2.fOff p2.fImm 0) fun o31 => (fn60_k1 p0 o31.1 o31.2.1 o31.2.2.1 o31.2.2.2.1 o31.2.2.2.2.1 o31.2.2.2.2.2.1 o31.2.2.2.2.2.2.1 o31.2.2.2.2.2.2.2.1 o31.2.2.2.2.2.2.2.2.1 o31.2.2.2.2.2.2.2.2.2.1 o31.2.2.2.2.2.2.2.2.2.2)) else (Option.bind (fn60_l2 p0 F ([p0.fname] : List ByteArray) p1.fOp p1.fDst p1.fSrc p1.fOff p1.fImm 0 0 0 0 0 0) fun o69 => (fn60_k2 p0 o69.1 o69.2.1 o69.2.2.1 o69.2.2.2.1 o69.2.2.2.2.1 o69.2.2.2.2.2.1 o69.2.2.2.2.2.2.1 o69.2.2.2.2.2.2.2.1 o69.2.2.2.2.2.2.2.2.1 o69.2.2.2.2.2.2.2.2.2.1 o69.2.2.2.2.2.2.2.2.2.2))
theorem c60 (F : Nat) (p0 : Form) (p1 : Instr) (p2 : Instr) (r : (List ByteArray) × Bool × Bool) (h : fn60 F p0 p1 p2 = some r) : Con Tryz.prog 60 [.ag [.v (.string p0.fname), .v (.string p0.fwords), .v (.int .u8 p0.fslot.fOp), .v (.int .u8 p0.fslot.fDst), .v (.int .u8 p0.fslot.fSrc), .v (.int .i16 p0.fslot.fOff), .v (.int .i32 p0.fslot.fImm)], .ag [.v (.int .u8 p1.fOp), .v (.int .u8 p1.fDst), .v (.int .u8 p1.fSrc), .v (.int .i16 p1.fOff), .v (.int .i32 p1.fImm)], .ag [.v (.int .u8 p2.fOp), .v (.int .u8 p2.fDst), .v (.int .u8 p2.fSrc), .v (.int .i16 p2.fOff), .v (.int .i32 p2.fImm)]] [] 0 (.tu [.sl 0, .v (.bool r.2.1), .v (.bool r.2.2)]) [(0, .row Et.str 9 r.1 r.1.length .unk)] 1 := by
 rw [fn60] at h
 refine Con.of_body Tryz.func60 rfl Tryz.ntmps60 rfl fun w F0 ρ gl => ?_
 refine RU tbOk false 999 13 [.bs Et.str ([p0.fname] : List ByteArray)] (aR (aR aN)) (by rfl) ?_
 refine DR tbOk hmix [7] [([], []), ([], []), ([0], []), ([], []), ([], []), ([], []), ([], [])] [.cl true [] (fun _ => c56 0 _ rfl), .fd] (aR (aK aN)) (by rfl) ?_
 refine RU tbOk false 999 1 [] aN (by rfl) ?_
 refine CD h (by rfl) (fun h hb1 => ?_) (fun h hb1 => ?_)
 ·refine RU tbOk false 999 8 [.rs] aN (by rfl) ?_
  obtain ⟨o31, hl32, h⟩ := bd h
  refine CT 0 ⟨[(3, .p 0 0), (7, .v (.bool (p0.fslot.fOp == ((fn56 0).fOp)))), (9, .p 2 0)], [(0, .cells 85 [.v (.string p0.fname), .v (.string p0.fwords), .v (.int .u8 p0.fslot.fOp), .v (.int .u8 p0.fslot.fDst), .v (.int .u8 p0.fslot.fSrc), .v (.int .i16 p0.fslot.fOff), .v (.int .i32 p0.fslot.fImm)]), (1, .row Et.str 9 o31.1 o31.1.length .unk), (2, .cells 152 [.v (.int .u8 o31.2.1), .v (.int .u8 o31.2.2.1), .v (.int .u8 o31.2.2.2.1), .v (.int .i16 o31.2.2.2.2.1), .v (.int .i32 o31.2.2.2.2.2.1), .v (.int .u8 o31.2.2.2.2.2.2.1), .v (.int .u8 o31.2.2.2.2.2.2.2.1), .v (.int .u8 o31.2.2.2.2.2.2.2.2.1), .v (.int .i16 o31.2.2.2.2.2.2.2.2.2.1), .v (.int .i32 o31.2.2.2.2.2.2.2.2.2.2), .sl 1])], 3⟩ ?_ ?_
  ·have h035 := h
   clear h
   refine G4.imp (Imp.trans (Imp.row 3 (by rfl)) (Imp.to [0, 3, 4, 5] (by rfl) (by rfl) rfl rfl)) (LP (fun (n : Nat) (s : (List ByteArray) × Int × Int × Int × Int × Int × Int × Int × Int × Int × Int × Nat) => fn60_l1 p0 n s.1 s.2.1 s.2.2.1 s.2.2.2.1 s.2.2.2.2.1 s.2.2.2.2.2.1 s.2.2.2.2.2.2.1 s.2.2.2.2.2.2.2.1 s.2.2.2.2.2.2.2.2.1 s.2.2.2.2.2.2.2.2.2.1 s.2.2.2.2.2.2.2.2.2.2.1 s.2.2.2.2.2.2.2.2.2.2.2) (fun (s : (List ByteArray) × Int × Int × Int × Int × Int × Int × Int × Int × Int × Int × Nat) => ⟨[(3, .p 0 0), (7, .v (.bool (p0.fslot.fOp == ((fn56 0).fOp)))), (9, .p 2 0), (31, .p 3 0)], [(0, .cells 85 [.v (.string p0.fname), .v (.string p0.fwords), .v (.int .u8 p0.fslot.fOp), .v (.int .u8 p0.fslot.fDst), .v (.int .u8 p0.fslot.fSrc), .v (.int .i16 p0.fslot.fOff), .v (.int .i32 p0.fslot.fImm)]), (1, .row Et.str 9 s.1 s.1.length .unk), (2, .cells 152 [.v (.int .u8 s.2.1), .v (.int .u8 s.2.2.1), .v (.int .u8 s.2.2.2.1), .v (.int .i16 s.2.2.2.2.1), .v (.int .i32 s.2.2.2.2.2.1), .v (.int .u8 s.2.2.2.2.2.2.1), .v (.int .u8 s.2.2.2.2.2.2.2.1), .v (.int .u8 s.2.2.2.2.2.2.2.2.1), .v (.int .i16 s.2.2.2.2.2.2.2.2.2.1), .v (.int .i32 s.2.2.2.2.2.2.2.2.2.2.1), .sl 1]), (3, .obj (.stringIter p0.fwords s.2.2.2.2.2.2.2.2.2.2.2))], 4⟩) (fun _ => rfl) (s0 := (([p0.fname] : List ByteArray), p1.fOp, p1.fDst, p1.fSrc, p1.fOff, p1.fImm, p2.fOp, p2.fDst, p2.fSrc, p2.fOff, p2.fImm, 0)) hl32 ?_)
   clear hl32
   rintro R36 n33 ⟨xs5, x6, x7, x8, x9, x10, x11, x12, x13, x14, x15, q16⟩ h ih34
   replace h := (fn60_l1_s p0 n33 xs5 x6 x7 x8 x9 x10 x11 x12 x13 x14 x15 q16).symm.trans h
   rw [fn60_b1] at h
   refine RU tbOk false 999 0 [] aN (by rfl) ?_
   refine CDS h (fun h hb37 => ?_) (fun h hb37 => ?_)
   ·refine RU tbOk false 999 0 [] aN (by rfl) ?_
    refine NS1_ hb37 ?_
    refine RU tbOk false 999 1 [] aN (by rfl) ?_
    refine CDT rfl (by rfl) ?_
    obtain ⟨v38, hv39, h⟩ := bd h
    refine RU tbOk false 999 5 [.cl true [2, 1] (fun _ => c97 (⟨(⟨x6, x7, x8, x9, x10⟩ : Instr), (⟨x11, x12, x13, x14, x15⟩ : Instr), xs5⟩ : Line) ((Utf8.decode p0.fwords q16).1 : Int) _ hv39)] (aK aN) (by rfl) ?_
    refine RU tbOk false 999 0 [] aN (by rfl) ?_
    exact ih34 (v38.fwords, v38.fInstr.fOp, v38.fInstr.fDst, v38.fInstr.fSrc, v38.fInstr.fOff, v38.fInstr.fImm, v38.fnext.fOp, v38.fnext.fDst, v38.fnext.fSrc, v38.fnext.fOff, v38.fnext.fImm, q16 + (Utf8.decode p0.fwords q16).2) h _ _ (Imp.to [0, 4, 2, 3] (by rfl) (by rfl) rfl rfl)
   ·refine RU tbOk false 999 0 [] aN (by rfl) ?_
    refine NS0_ hb37 ?_
    refine RU tbOk false 999 1 [] aN (by rfl) ?_
    refine CDF rfl (by rfl) ?_
    refine RU tbOk false 999 0 [] aN (by rfl) ?_
    have ho := Option.some.inj h
    subst ho
    exact CE (Imp.to [0, 1, 2] (by rfl) (by rfl) rfl rfl)
  ·change fn60_k1 p0 o31.1 o31.2.1 o31.2.2.1 o31.2.2.2.1 o31.2.2.2.2.1 o31.2.2.2.2.2.1 o31.2.2.2.2.2.2.1 o31.2.2.2.2.2.2.2.1 o31.2.2.2.2.2.2.2.2.1 o31.2.2.2.2.2.2.2.2.2.1 o31.2.2.2.2.2.2.2.2.2.2 = _ at h
   rw [fn60_k1] at h
   refine RU tbOk false 999 0 [] aN (by rfl) ?_
   refine DR tbOk hmix [6, 7, 8] [([], []), ([], []), ([], []), ([2], []), ([], []), ([], []), ([], []), ([], []), ([2], []), ([], []), ([0], []), ([], []), ([], []), ([], []), ([], []), ([], []), ([2], []), ([], []), ([], []), ([], []), ([], []), ([], []), ([], [])] [] (aR (aR (aR aN))) (by rfl) ?_
   refine RU tbOk false 999 0 [] aN (by rfl) ?_
   have hr := Option.some.inj h
   subst hr
   exact RT tbOk.t Tryz.results60 [1] (by rfl) (by rfl) (by rfl) rfl rfl
 ·refine RU tbOk false 999 3 [.rs] aN (by rfl) ?_
  obtain ⟨o69, hl70, h⟩ := bd h
  refine CT 0 ⟨[(3, .p 0 0), (7, .v (.bool (p0.fslot.fOp == ((fn56 0).fOp)))), (9, .p 2 0)], [(0, .cells 85 [.v (.string p0.fname), .v (.string p0.fwords), .v (.int .u8 p0.fslot.fOp), .v (.int .u8 p0.fslot.fDst), .v (.int .u8 p0.fslot.fSrc), .v (.int .i16 p0.fslot.fOff), .v (.int .i32 p0.fslot.fImm)]), (1, .row Et.str 9 o69.1 o69.1.length .unk), (2, .cells 152 [.v (.int .u8 o69.2.1), .v (.int .u8 o69.2.2.1), .v (.int .u8 o69.2.2.2.1), .v (.int .i16 o69.2.2.2.2.1), .v (.int .i32 o69.2.2.2.2.2.1), .v (.int .u8 o69.2.2.2.2.2.2.1), .v (.int .u8 o69.2.2.2.2.2.2.2.1), .v (.int .u8 o69.2.2.2.2.2.2.2.2.1), .v (.int .i16 o69.2.2.2.2.2.2.2.2.2.1), .v (.int .i32 o69.2.2.2.2.2.2.2.2.2.2), .sl 1])], 3⟩ ?_ ?_
  ·have h073 := h
   clear h
   refine G4.imp (Imp.trans (Imp.row 3 (by rfl)) (Imp.to [0, 3, 4, 5] (by rfl) (by rfl) rfl rfl)) (LP (fun (n : Nat) (s : (List ByteArray) × Int × Int × Int × Int × Int × Int × Int × Int × Int × Int × Nat) => fn60_l2 p0 n s.1 s.2.1 s.2.2.1 s.2.2.2.1 s.2.2.2.2.1 s.2.2.2.2.2.1 s.2.2.2.2.2.2.1 s.2.2.2.2.2.2.2.1 s.2.2.2.2.2.2.2.2.1 s.2.2.2.2.2.2.2.2.2.1 s.2.2.2.2.2.2.2.2.2.2.1 s.2.2.2.2.2.2.2.2.2.2.2) (fun (s : (List ByteArray) × Int × Int × Int × Int × Int × Int × Int × Int × Int × Int × Nat) => ⟨[(3, .p 0 0), (7, .v (.bool (p0.fslot.fOp == ((fn56 0).fOp)))), (9, .p 2 0), (31, .p 3 0)], [(0, .cells 85 [.v (.string p0.fname), .v (.string p0.fwords), .v (.int .u8 p0.fslot.fOp), .v (.int .u8 p0.fslot.fDst), .v (.int .u8 p0.fslot.fSrc), .v (.int .i16 p0.fslot.fOff), .v (.int .i32 p0.fslot.fImm)]), (1, .row Et.str 9 s.1 s.1.length .unk), (2, .cells 152 [.v (.int .u8 s.2.1), .v (.int .u8 s.2.2.1), .v (.int .u8 s.2.2.2.1), .v (.int .i16 s.2.2.2.2.1), .v (.int .i32 s.2.2.2.2.2.1), .v (.int .u8 s.2.2.2.2.2.2.1), .v (.int .u8 s.2.2.2.2.2.2.2.1), .v (.int .u8 s.2.2.2.2.2.2.2.2.1), .v (.int .i16 s.2.2.2.2.2.2.2.2.2.1), .v (.int .i32 s.2.2.2.2.2.2.2.2.2.2.1), .sl 1]), (3, .obj (.stringIter p0.fwords s.2.2.2.2.2.2.2.2.2.2.2))], 4⟩) (fun _ => rfl) (s0 := (([p0.fname] : List ByteArray), p1.fOp, p1.fDst, p1.fSrc, p1.fOff, p1.fImm, 0, 0, 0, 0, 0, 0)) hl70 ?_)
   clear hl70
   rintro R74 n71 ⟨xs43, x44, x45, x46, x47, x48, x49, x50, x51, x52, x53, q54⟩ h ih72
   replace h := (fn60_l2_s p0 n71 xs43 x44 x45 x46 x47 x48 x49 x50 x51 x52 x53 q54).symm.trans h
   rw [fn60_b2] at h
   refine RU tbOk false 999 0 [] aN (by rfl) ?_
   refine CDS h (fun h hb75 => ?_) (fun h hb75 => ?_)
   ·refine RU tbOk false 999 0 [] aN (by rfl) ?_
    refine NS1_ hb75 ?_
    refine RU tbOk false 999 1 [] aN (by rfl) ?_
    refine CDT rfl (by rfl) ?_
    obtain ⟨v76, hv77, h⟩ := bd h
    refine RU tbOk false 999 5 [.cl true [2, 1] (fun _ => c97 (⟨(⟨x44, x45, x46, x47, x48⟩ : Instr), (⟨x49, x50, x51, x52, x53⟩ : Instr), xs43⟩ : Line) ((Utf8.decode p0.fwords q54).1 : Int) _ hv77)] (aK aN) (by rfl) ?_
    refine RU tbOk false 999 0 [] aN (by rfl) ?_
    exact ih72 (v76.fwords, v76.fInstr.fOp, v76.fInstr.fDst, v76.fInstr.fSrc, v76.fInstr.fOff, v76.fInstr.fImm, v76.fnext.fOp, v76.fnext.fDst, v76.fnext.fSrc, v76.fnext.fOff, v76.fnext.fImm, q54 + (Utf8.decode p0.fwords q54).2) h _ _ (Imp.to [0, 4, 2, 3] (by rfl) (by rfl) rfl rfl)
   ·refine RU tbOk false 999 0 [] aN (by rfl) ?_
    refine NS0_ hb75 ?_
    refine RU tbOk false 999 1 [] aN (by rfl) ?_
    refine CDF rfl (by rfl) ?_
    refine RU tbOk false 999 0 [] aN (by rfl) ?_
    have ho := Option.some.inj h
    subst ho
    exact CE (Imp.to [0, 1, 2] (by rfl) (by rfl) rfl rfl)
  ·change fn60_k2 p0 o69.1 o69.2.1 o69.2.2.1 o69.2.2.2.1 o69.2.2.2.2.1 o69.2.2.2.2.2.1 o69.2.2.2.2.2.2.1 o69.2.2.2.2.2.2.2.1 o69.2.2.2.2.2.2.2.2.1 o69.2.2.2.2.2.2.2.2.2.1 o69.2.2.2.2.2.2.2.2.2.2 = _ at h
   rw [fn60_k2] at h
   refine RU tbOk false 999 0 [] aN (by rfl) ?_
   refine DR tbOk hmix [6, 7, 8] [([], []), ([], []), ([], []), ([2], []), ([], []), ([], []), ([], []), ([], []), ([2], []), ([], []), ([0], []), ([], []), ([], []), ([], []), ([], []), ([], []), ([2], []), ([], []), ([], []), ([], []), ([], []), ([], []), ([], [])] [] (aR (aR (aR aN))) (by rfl) ?_
   refine RU tbOk false 999 0 [] aN (by rfl) ?_
   have hr := Option.some.inj h
   subst hr
   exact RT tbOk.t Tryz.results60 [1] (by rfl) (by rfl) (by rfl) rfl rfl
def fn26_r1 (F : Nat) (p1 : Instr) (p2 : Instr) (p3 : Bool) (x5 : Bool) (xs6 : List ByteArray) (y1 : Form) : Option ((Bool × (List ByteArray)) × Nat) :=
 Option.bind (fn60 F y1 p1 p2) fun v12 => (bif v12.2.2 && (!(v12.2.1 && p3)) then (some ((v12.2.1, v12.1), 1)) else (some ((x5, xs6), 0)))
def fn26_k1_0 (F : Nat) (p1 : Instr) (x5 : Bool) (xs6 : List ByteArray) : Option (((List ByteArray) × Bool)) :=
 Option.bind (fn53 (IntKind.i64.wrap p1.fOp)) fun v18 => (bif decide ((⟨#[115, 108, 111, 116, 32]⟩ : ByteArray).size + v18.size ≤ 9223372036854775807) then (Option.bind (fn60 F (⟨(⟨#[115, 108, 111, 116, 32]⟩ : ByteArray) ++ v18, (⟨#[68, 83, 79, 73]⟩ : ByteArray), (⟨0, 0, 0, 0, 0⟩ : Instr)⟩ : Form) (⟨0, p1.fDst, p1.fSrc, p1.fOff, p1.fImm⟩ : Instr) (⟨0, 0, 0, 0, 0⟩ : Instr)) fun v21 => (some ((v21.1, false)))) else none)
def fn26_k1_1 (x5 : Bool) (xs6 : List ByteArray) : Option (((List ByteArray) × Bool)) :=
 some ((xs6, x5))
def fn26 (F : Nat) (p0_0 : List (ByteArray × List Form)) (p0_2 : List (Int × List Form)) (p1 : Instr) (p2 : Instr) (p3 : Bool) : Option ((List ByteArray) × Bool) :=
 Option.bind (fn115 F (stepR (fun (s : Bool × (List ByteArray)) (y : Form) => fn26_r1 F p1 p2 p3 s.1 s.2 y)) goR ((fn59 p0_0 p0_2 p1.fOp).1) (((false, ([] : List ByteArray)), 0) : (Bool × (List ByteArray)) × Nat)) fun o15 => (bif Nat.beq o15.2 0 then (fn26_k1_0 F p1 o15.1.1 o15.1.2) else (bif Nat.beq o15.2 1 then (fn26_k1_1 o15.1.1 o15.1.2) else none))
theorem c26 (F : Nat) (p0_0 : List (ByteArray × List Form)) (p0_2 : List (Int × List Form)) (p1 : Instr) (p2 : Instr) (p3 : Bool) (r : (List ByteArray) × Bool) (h : fn26 F p0_0 p0_2 p1 p2 p3 = some r) : Con Tryz.prog 26 [.p 0 0, .ag [.v (.int .u8 p1.fOp), .v (.int .u8 p1.fDst), .v (.int .u8 p1.fSrc), .v (.int .i16 p1.fOff), .v (.int .i32 p1.fImm)], .ag [.v (.int .u8 p2.fOp), .v (.int .u8 p2.fDst), .v (.int .u8 p2.fSrc), .v (.int .i16 p2.fOff), .v (.int .i32 p2.fImm)], .v (.bool p3)] [(0, .cells 94 [.mp 1, .fn (.func 47) [] [], .mp 2, .fn (.func 48) [] []]), (1, .ex (pMR Kn.str Form.E 85 p0_0) []), (2, .ex (pMR (Kn.int .u8) Form.E 85 p0_2) [])] 3 (.tu [.sl 3, .v (.bool r.2)]) [(0, .cells 94 [.mp 1, .fn (.func 47) [] [], .mp 2, .fn (.func 48) [] []]), (1, .ex (pMR Kn.str Form.E 85 p0_0) []), (2, .ex (pMR (Kn.int .u8) Form.E 85 p0_2) []), (3, .row Et.str 9 r.1 r.1.length .unk)] 4 := by
 rw [fn26] at h
 refine Con.of_body Tryz.func26 rfl Tryz.ntmps26 rfl fun w F0 ρ gl => ?_
 refine RU tbOk false 999 5 [] aN (by rfl) ?_
 refine DR tbOk hmix [23] [([], []), ([], []), ([], []), ([], []), ([3], []), ([0, 1, 2], [2])] [.cl true [0, 1, 2] (fun _ => c59 p0_0 p0_2 p1.fOp _ rfl)] (aR (aR (aK aN))) (by rfl) ?_
 refine RU tbOk false 999 0 [] aN (by rfl) ?_
 refine G4.imp (Imp.nilC Et.str 9 6 0 (by rfl) (by rfl) (by rfl)) ?_
 refine G4.imp (Imp.row 9 (by rfl)) ?_
 obtain ⟨o15, ho16, h⟩ := bd h
 refine G4.imp (Imp.row 10 (by rfl)) ?_
 refine G4.imp (s' := ⟨[(5, .p 3 0), (6, .p 4 0), (7, .p 5 0), (8, .p 6 0), (9, .p 7 0), (23, .fn (.func 115) [] [.p 8 0])], [(8, .cells 147 [.sl 9]), (9, .row Form.E 85 ((fn59 p0_0 p0_2 p1.fOp).1) (((fn59 p0_0 p0_2 p1.fOp).1).length) .unk)] ++ ((fun (s : Bool × (List ByteArray)) => ([(0, .cells 94 [.mp 1, .fn (.func 47) [] [], .mp 2, .fn (.func 48) [] []]), (1, .ex (pMR Kn.str Form.E 85 p0_0) []), (2, .ex (pMO (Kn.int .u8) Form.E 85 p0_2 ((fn59 p0_0 p0_2 p1.fOp).2)) [.sl 9]), (3, .cells 32 [.v (.int .u8 p1.fOp), .v (.int .u8 p1.fDst), .v (.int .u8 p1.fSrc), .v (.int .i16 p1.fOff), .v (.int .i32 p1.fImm)]), (4, .cells 32 [.v (.int .u8 p2.fOp), .v (.int .u8 p2.fDst), .v (.int .u8 p2.fSrc), .v (.int .i16 p2.fOff), .v (.int .i32 p2.fImm)]), (5, .cells 4 [.v (.bool p3)]), (6, .cells 40 [.sl 10]), (7, .cells 4 [.v (.bool s.1)]), (10, .row Et.str 9 s.2 s.2.length .unk)] : SH)) (false, ([] : List ByteArray)) ++ []), 11⟩) (Imp.to [0, 1, 2, 3, 4, 5, 6, 7, 8, 9, 10] (by rfl) (by rfl) rfl rfl) ?_
 refine RFO [24] (Yn.one (Vn.ag Form.E)) [(8, .cells 147 [.sl 9]), (9, .row Form.E 85 ((fn59 p0_0 p0_2 p1.fOp).1) (((fn59 p0_0 p0_2 p1.fOp).1).length) .unk)] (fun (s : Bool × (List ByteArray)) => [(0, .cells 94 [.mp 1, .fn (.func 47) [] [], .mp 2, .fn (.func 48) [] []]), (1, .ex (pMR Kn.str Form.E 85 p0_0) []), (2, .ex (pMO (Kn.int .u8) Form.E 85 p0_2 ((fn59 p0_0 p0_2 p1.fOp).2)) [.sl 9]), (3, .cells 32 [.v (.int .u8 p1.fOp), .v (.int .u8 p1.fDst), .v (.int .u8 p1.fSrc), .v (.int .i16 p1.fOff), .v (.int .i32 p1.fImm)]), (4, .cells 32 [.v (.int .u8 p2.fOp), .v (.int .u8 p2.fDst), .v (.int .u8 p2.fSrc), .v (.int .i16 p2.fOff), .v (.int .i32 p2.fImm)]), (5, .cells 4 [.v (.bool p3)]), (6, .cells 40 [.sl 10]), (7, .cells 4 [.v (.bool s.1)]), (10, .row Et.str 9 s.2 s.2.length .unk)]) [] 10 2 [8, 9] [.p 0 0] 147 [.sl 1] [(1, .row Form.E 85 ((fn59 p0_0 p0_2 p1.fOp).1) ((fn59 p0_0 p0_2 p1.fOp).1).length .unk)] (fun (s : Bool × (List ByteArray)) (y : Form) => fn26_r1 F p1 p2 p3 s.1 s.2 y) (false, ([] : List ByteArray)) o15.1 o15.2 Tryz.call115 (by rfl) (by rfl) (by rfl) (by rfl) (fun _ _ => rfl) (fun _ => trivial) (fun _ => by rfl) (fun yv J => c115 F (stepR (fun (s : Bool × (List ByteArray)) (y : Form) => fn26_r1 F p1 p2 p3 s.1 s.2 y)) goR ((fn59 p0_0 p0_2 p1.fOp).1) ((false, ([] : List ByteArray)), 0) o15 ho16 yv J) ?_ ?_
 ·clear h ho16
  rintro l1 w1 R1 gl1 ρ1 pA pB QA QB ⟨x5, xs6⟩ y1 s1' m1' hpB h hbg10 hend11
  change fn26_r1 F p1 p2 p3 x5 xs6 y1 = _ at h
  rw [fn26_r1] at h
  refine RU tbOk false 999 2 [] aN (by rfl) ?_
  refine hbg10 _ _ _ (by rfl) ?_
  obtain ⟨v12, hv13, h⟩ := bd h
  refine RU tbOk false 999 4 [.cl true [] (fun _ => c60 F y1 p1 p2 _ hv13)] (aK aN) (by rfl) ?_
  refine RU tbOk false 999 15 [] aN (by rfl) ?_
  refine CD h (by rfl) (fun h hb14 => ?_) (fun h hb14 => ?_)
  ·refine RU tbOk false 999 4 [] aN (by rfl) ?_
   cases Option.some.inj h
   exact hend11 _ (Imp.to [0, 1, 2, 3, 4, 5, 6, 7, 8, 9, 13, 11] (by rfl) (by rfl) rfl rfl)
  ·refine RU tbOk false 999 0 [] aN (by rfl) ?_
   cases Option.some.inj h
   exact hend11 _ (Imp.to [0, 1, 2, 3, 4, 5, 6, 7, 8, 9, 10, 11] (by rfl) (by rfl) rfl rfl)
 ·intro r17
  refine CDS h (fun h hb24 => ?_) (fun h hb24 => ?_)
  ·rw [show o15.2 = 0 from Nat.eq_of_beq_eq_true hb24]
   change fn26_k1_0 F p1 o15.1.1 o15.1.2 = _ at h
   rw [fn26_k1_0] at h
   obtain ⟨v18, hv19, h⟩ := bd h
   refine RU tbOk false 999 4 [.cl true [] (fun _ => c53 (IntKind.i64.wrap p1.fOp) _ hv19)] (aK aN) (by rfl) ?_
   obtain ⟨hk20, h⟩ := ck h
   obtain ⟨v21, hv22, h⟩ := bd h
   refine RU tbOk false 999 11 [.st, .cl true [] (fun _ => c60 F (⟨(⟨#[115, 108, 111, 116, 32]⟩ : ByteArray) ++ v18, (⟨#[68, 83, 79, 73]⟩ : ByteArray), (⟨0, 0, 0, 0, 0⟩ : Instr)⟩ : Form) (⟨0, p1.fDst, p1.fSrc, p1.fOff, p1.fImm⟩ : Instr) (⟨0, 0, 0, 0, 0⟩ : Instr) _ hv22)] (aC hk20 (aK aN)) (by rfl) ?_
   refine RU tbOk false 999 10 [] aN (by rfl) ?_
   have hr := Option.some.inj h
   subst hr
   refine G4.imp (Imp.closeMR 2 9 (by rfl) (by rfl)) ?_
   exact RTM tbOk.t [(11, r17)] rfl ⟨rfl, trivial⟩ Tryz.results26 [0, 1, 2, 13] (by rfl) (by rfl) (by rfl) rfl rfl
  refine CDS h (fun h hb25 => ?_) (fun h hb25 => ?_)
  ·rw [show o15.2 = 1 from Nat.eq_of_beq_eq_true hb25]
   change fn26_k1_1 o15.1.1 o15.1.2 = _ at h
   rw [fn26_k1_1] at h
   refine RU tbOk false 999 0 [] aN (by rfl) ?_
   have hr := Option.some.inj h
   subst hr
   refine G4.imp (Imp.closeMR 2 9 (by rfl) (by rfl)) ?_
   exact RTM tbOk.t [(11, r17)] rfl ⟨rfl, trivial⟩ Tryz.results26 [0, 1, 2, 10] (by rfl) (by rfl) (by rfl) rfl rfl
  cases h
def fn12_b1 (F : Nat) (v4 : (List (ByteArray × List Form)) × (List (Int × List Form))) (rl1 : ByteArray → (List Instr) → Option (ByteArray)) (xs31 : ByteArray) (xs32 : List Instr) : Option (ByteArray) :=
 bif decide ((0 : Int) < (xs32.length : Int)) then (bif decide ((1 : Int) < (xs32.length : Int)) then (bif inb 1 xs32.length then (bif inb 0 xs32.length then (Option.bind (fn26 F v4.1 v4.2 (gt xs32 0) (gt xs32 1) ((xs32.length : Int) == 1)) fun v69 => (Option.bind (fn19 v69.1 (⟨#[32]⟩ : ByteArray)) fun v71 => (bif decide (v71.size + (⟨#[10]⟩ : ByteArray).size ≤ 9223372036854775807) then (Option.bind (fn27b xs31 (v71 ++ (⟨#[10]⟩ : ByteArray))) fun v74 => (bif sliceOk (1 : Int) ((xs32.length : Nat) : Int) xs32.length then (bif v69.2 then (bif sliceOk (1 : Int) (((cutX xs32 (1 : Int).toNat ((xs32.length : Nat) : Int).toNat).length : Nat) : Int) ((cutX xs32 (1 : Int).toNat ((xs32.length : Nat) : Int).toNat).length) then (rl1 v74.1 (cutX (cutX xs32 (1 : Int).toNat ((xs32.length : Nat) : Int).toNat) (1 : Int).toNat (((cutX xs32 (1 : Int).toNat ((xs32.length : Nat) : Int).toNat).length : Nat) : Int).toNat)) else none) else (rl1 v74.1 (cutX xs32 (1 : Int).toNat ((xs32.length : Nat) : Int).toNat))) else none)) else none))) else none) else none) else (bif inb 0 xs32.length then (Option.bind (fn26 F v4.1 v4.2 (gt xs32 0) (⟨0, 0, 0, 0, 0⟩ : Instr) ((xs32.length : Int) == 1)) fun v80 => (Option.bind (fn19 v80.1 (⟨#[32]⟩ : ByteArray)) fun v82 => (bif decide (v82.size + (⟨#[10]⟩ : ByteArray).size ≤ 9223372036854775807) then (Option.bind (fn27b xs31 (v82 ++ (⟨#[10]⟩ : ByteArray))) fun v85 => (bif sliceOk (1 : Int) ((xs32.length : Nat) : Int) xs32.length then (bif v80.2 then (bif sliceOk (1 : Int) (((cutX xs32 (1 : Int).toNat ((xs32.length : Nat) : Int).toNat).length : Nat) : Int) ((cutX xs32 (1 : Int).toNat ((xs32.length : Nat) : Int).toNat).length) then (rl1 v85.1 (cutX (cutX xs32 (1 : Int).toNat ((xs32.length : Nat) : Int).toNat) (1 : Int).toNat (((cutX xs32 (1 : Int).toNat ((xs32.length : Nat) : Int).toNat).length : Nat) : Int).toNat)) else none) else (rl1 v85.1 (cutX xs32 (1 : Int).toNat ((xs32.length : Nat) : Int).toNat))) else none)) else none))) else none)) else (some xs31)
def fn12_l1 (F : Nat) (v4 : (List (ByteArray × List Form)) × (List (Int × List Form))) : Nat → ByteArray → (List Instr) → Option (ByteArray)
 | 0, _, _ => none
 | n61 + 1, xs31, xs32 => fn12_b1 F v4 (fn12_l1 F v4 n61) xs31 xs32
theorem fn12_l1_s (F : Nat) (v4 : (List (ByteArray × List Form)) × (List (Int × List Form))) (n61 : Nat) (xs31 : ByteArray) (xs32 : List Instr) : fn12_l1 F v4 (n61 + 1) xs31 xs32 = fn12_b1 F v4 (fn12_l1 F v4 n61) xs31 xs32 := rfl
def fn12_k1 (xs58 : ByteArray) : Option (ByteArray) :=
 some ((fn28b xs58))
def fn12 (F : Nat) (p0 : List Instr) : Option (ByteArray) :=
 Option.bind (bif bif decide ((4096 : Int) < (p0.length : Int)) then false else true then fn24 F p0 else some false) fun v1 => (bif (decide ((4096 : Int) < (p0.length : Int))) || v1 then (some ((⟨#[]⟩ : ByteArray))) else (Option.bind (fn25 F) fun v4 => (Option.bind (fn12_l1 F v4 F (⟨#[]⟩ : ByteArray) p0) fun o59 => (fn12_k1 o59))))
theorem c12 (F : Nat) (p0 : List Instr) (r : ByteArray) (h : fn12 F p0 = some r) : Con Tryz.prog 12 [.sl 0] [(0, .rd Instr.E p0)] 1 (.v (.string r)) [] 1 := by
 rw [fn12] at h
 refine Con.of_body Tryz.func12 rfl Tryz.ntmps12 rfl fun w F0 ρ gl => ?_
 obtain ⟨v1, hv2, h⟩ := bd h
 refine RU tbOk false 999 10 [.cl (bif decide ((4096 : Int) < (p0.length : Int)) then false else true) [0] (fun hg => c24 F p0 _ (gcl hg hv2))] (aR (aR (aK aN))) (by rfl) ?_
 refine CD h (by rfl) (fun h hb3 => ?_) (fun h hb3 => ?_)
 ·refine RU tbOk false 999 1 [] aN (by rfl) ?_
  have hr := Option.some.inj h
  subst hr
  exact RT tbOk.t Tryz.results12 [0] (by rfl) (by rfl) (by rfl) rfl rfl
 ·obtain ⟨v4, hv5, h⟩ := bd h
  refine RU tbOk false 999 1 [.cl true [] (fun _ => c25 F _ hv5)] (aK aN) (by rfl) ?_
  refine RU tbOk false 999 4 [] aN (by rfl) ?_
  refine G4.imp (Imp.rdC 6 (by rfl) (by rfl)) ?_
  refine G4.imp (Imp.bl 4 (by rfl)) ?_
  obtain ⟨o59, hl60, h⟩ := bd h
  refine CT 0 ⟨[(5, .p 1 0)], [(0, .rd Instr.E p0), (1, .ex (pBl o59) [])], 2⟩ ?_ ?_
  ·have h063 := h
   clear h
   refine G4.imp (Imp.to [0, 1, 2, 3, 4, 5] (by rfl) (by rfl) rfl rfl) (LP (fun (n : Nat) (s : ByteArray × (List Instr)) => fn12_l1 F v4 n s.1 s.2) (fun (s : ByteArray × (List Instr)) => ⟨[(4, .p 1 0), (5, .p 4 0), (6, .sl 5)], [(0, .rd Instr.E p0), (1, .cells 94 [.mp 2, .fn (.func 47) [] [], .mp 3, .fn (.func 48) [] []]), (2, .ex (pMR Kn.str Form.E 85 v4.1) []), (3, .ex (pMR (Kn.int .u8) Form.E 85 v4.2) []), (4, .ex (pBl s.1) []), (5, .rd Instr.E s.2)], 6⟩) (fun _ => rfl) (s0 := ((⟨#[]⟩ : ByteArray), p0)) hl60 ?_)
   clear hl60
   rintro R64 n61 ⟨xs31, xs32⟩ h ih62
   replace h := (fn12_l1_s F v4 n61 xs31 xs32).symm.trans h
   rw [fn12_b1] at h
   refine RU tbOk false 999 3 [] aN (by rfl) ?_
   refine CD h (by rfl) (fun h hb65 => ?_) (fun h hb65 => ?_)
   ·refine RU tbOk false 999 4 [] aN (by rfl) ?_
    refine CD h (by rfl) (fun h hb66 => ?_) (fun h hb66 => ?_)
    ·obtain ⟨hk67, h⟩ := ck h
     refine RU tbOk false 999 4 [] (aC hk67 aN) (by rfl) ?_
     obtain ⟨hk68, h⟩ := ck h
     obtain ⟨v69, hv70, h⟩ := bd h
     refine DR tbOk hmix [8, 9] [([], []), ([], []), ([5], []), ([5], []), ([6], []), ([], []), ([5], []), ([], []), ([1, 2, 3], []), ([], []), ([], []), ([], []), ([], []), ([], [])] [.cl true [1, 2, 3] (fun _ => c26 F v4.1 v4.2 (gt xs32 0) (gt xs32 1) ((xs32.length : Int) == 1) _ hv70)] (aR (aC hk68 (aR (aR (aR (aR (aK aN))))))) (by rfl) ?_
     obtain ⟨v71, hv72, h⟩ := bd h
     refine RU tbOk false 999 2 [.cl true [7] (fun _ => c19q v69.1 (⟨#[32]⟩ : ByteArray) _ hv72)] (aK aN) (by rfl) ?_
     obtain ⟨hk73, h⟩ := ck h
     obtain ⟨v74, hv75, h⟩ := bd h
     refine RU tbOk false 999 2 [.st, .cl true [4] (fun _ => c27b xs31 (v71 ++ (⟨#[10]⟩ : ByteArray)) _ hv75)] (aC hk73 (aK aN)) (by rfl) ?_
     obtain ⟨hk76, h⟩ := ck h
     refine RU tbOk false 999 4 [.sr] (aC hk76 aN) (by rfl) ?_
     refine CD h (by rfl) (fun h hb77 => ?_) (fun h hb77 => ?_)
     ·obtain ⟨hk78, h⟩ := ck h
      refine RU tbOk false 999 3 [.sr] (aC hk78 aN) (by rfl) ?_
      exact ih62 (v74.1, cutX (cutX xs32 (1 : Int).toNat ((xs32.length : Nat) : Int).toNat) (1 : Int).toNat (((cutX xs32 (1 : Int).toNat ((xs32.length : Nat) : Int).toNat).length : Nat) : Int).toNat) h _ _ (Imp.to [0, 1, 2, 3, 4, 9] (by rfl) (by rfl) rfl rfl)
     ·refine RU tbOk false 999 0 [] aN (by rfl) ?_
      exact ih62 (v74.1, cutX xs32 (1 : Int).toNat ((xs32.length : Nat) : Int).toNat) h _ _ (Imp.to [0, 1, 2, 3, 4, 8] (by rfl) (by rfl) rfl rfl)
    ·refine RU tbOk false 999 0 [] aN (by rfl) ?_
     obtain ⟨hk79, h⟩ := ck h
     obtain ⟨v80, hv81, h⟩ := bd h
     refine DR tbOk hmix [8, 9] [([], []), ([], []), ([5], []), ([5], []), ([6], []), ([], []), ([5], []), ([], []), ([1, 2, 3], []), ([], []), ([], []), ([], []), ([], []), ([], [])] [.cl true [1, 2, 3] (fun _ => c26 F v4.1 v4.2 (gt xs32 0) (⟨0, 0, 0, 0, 0⟩ : Instr) ((xs32.length : Int) == 1) _ hv81)] (aR (aC hk79 (aR (aR (aR (aR (aK aN))))))) (by rfl) ?_
     obtain ⟨v82, hv83, h⟩ := bd h
     refine RU tbOk false 999 2 [.cl true [7] (fun _ => c19q v80.1 (⟨#[32]⟩ : ByteArray) _ hv83)] (aK aN) (by rfl) ?_
     obtain ⟨hk84, h⟩ := ck h
     obtain ⟨v85, hv86, h⟩ := bd h
     refine RU tbOk false 999 2 [.st, .cl true [4] (fun _ => c27b xs31 (v82 ++ (⟨#[10]⟩ : ByteArray)) _ hv86)] (aC hk84 (aK aN)) (by rfl) ?_
     obtain ⟨hk87, h⟩ := ck h
     refine RU tbOk false 999 4 [.sr] (aC hk87 aN) (by rfl) ?_
     refine CD h (by rfl) (fun h hb88 => ?_) (fun h hb88 => ?_)
     ·obtain ⟨hk89, h⟩ := ck h
      refine RU tbOk false 999 3 [.sr] (aC hk89 aN) (by rfl) ?_
      exact ih62 (v85.1, cutX (cutX xs32 (1 : Int).toNat ((xs32.length : Nat) : Int).toNat) (1 : Int).toNat (((cutX xs32 (1 : Int).toNat ((xs32.length : Nat) : Int).toNat).length : Nat) : Int).toNat) h _ _ (Imp.to [0, 1, 2, 3, 4, 9] (by rfl) (by rfl) rfl rfl)
     ·refine RU tbOk false 999 0 [] aN (by rfl) ?_
      exact ih62 (v85.1, cutX xs32 (1 : Int).toNat ((xs32.length : Nat) : Int).toNat) h _ _ (Imp.to [0, 1, 2, 3, 4, 8] (by rfl) (by rfl) rfl rfl)
   ·refine RU tbOk false 999 0 [] aN (by rfl) ?_
    have ho := Option.some.inj h
    subst ho
    exact CE (Imp.to [0, 4] (by rfl) (by rfl) rfl rfl)
  ·change fn12_k1 o59 = _ at h
   rw [fn12_k1] at h
   refine RU tbOk false 999 1 [.cl true [1] (fun _ => c28b o59 _ rfl)] (aK aN) (by rfl) ?_
   refine RU tbOk false 999 1 [] aN (by rfl) ?_
   have hr := Option.some.inj h
   subst hr
   exact RT tbOk.t Tryz.results12 [0] (by rfl) (by rfl) (by rfl) rfl rfl
def fn10 (F : Nat) : Option (Bool) :=
 frk1 (fn15 F str_0) (fun v1 => Option.bind (bif bif (v1.2.2 == 0) && (v1.2.1 == 0) then true else false then fn16 F v1.1 ([(⟨183, 0, 0, 0, 1⟩ : Instr), (⟨149, 0, 0, 0, 0⟩ : Instr), (⟨12, 1, 2, 0, 0⟩ : Instr), (⟨85, 1, 0, 3, (-1)⟩ : Instr), (⟨24, 2, 0, 0, (-1)⟩ : Instr), (⟨0, 0, 0, 0, (-1)⟩ : Instr), (⟨123, 10, 1, (-8), 0⟩ : Instr), (⟨149, 0, 0, 0, 1⟩ : Instr)] : List Instr) else some false) fun v3 => (Option.bind (bif bif ((v1.2.2 == 0) && (v1.2.1 == 0)) && v3 then true else false then fn12 F ([(⟨183, 0, 0, 0, 1⟩ : Instr), (⟨149, 0, 0, 0, 0⟩ : Instr), (⟨12, 1, 2, 0, 0⟩ : Instr), (⟨85, 1, 0, 3, (-1)⟩ : Instr), (⟨24, 2, 0, 0, (-1)⟩ : Instr), (⟨0, 0, 0, 0, (-1)⟩ : Instr), (⟨123, 10, 1, (-8), 0⟩ : Instr), (⟨149, 0, 0, 0, 1⟩ : Instr)] : List Instr) else some default) fun v5 => (some ((((v1.2.2 == 0) && (v1.2.1 == 0)) && v3) && (v5.toList == str_0.toList)))))
theorem c10 (F : Nat) (r : Bool) (h : fn10 F = some r) : Con Tryz.prog 10 [] [] 0 (.v (.bool r)) [] 0 := by
 rw [fn10] at h
 refine Con.of_body Tryz.func10 rfl Tryz.ntmps10 rfl fun w F0 ρ gl => ?_
 refine RU tbOk false 999 3 [] aN (by rfl) ?_
 refine fk1 h (fun v1 hv2 h => ?_)
 ·refine RU tbOk false 999 1 [.cl true [] (fun _ => c15_0 F str_0 v1 hv2)] (aK aN) (by rfl) ?_
  obtain ⟨v3, hv4, h⟩ := bd h
  obtain ⟨v5, hv6, h⟩ := bd h
  refine RU tbOk false 999 35 [.bs Instr.E ([(⟨183, 0, 0, 0, 1⟩ : Instr), (⟨149, 0, 0, 0, 0⟩ : Instr), (⟨12, 1, 2, 0, 0⟩ : Instr), (⟨85, 1, 0, 3, (-1)⟩ : Instr), (⟨24, 2, 0, 0, (-1)⟩ : Instr), (⟨0, 0, 0, 0, (-1)⟩ : Instr), (⟨123, 10, 1, (-8), 0⟩ : Instr), (⟨149, 0, 0, 0, 1⟩ : Instr)] : List Instr), .cl (bif (v1.2.2 == 0) && (v1.2.1 == 0) then true else false) [0, 1] (fun hg => c16 F v1.1 ([(⟨183, 0, 0, 0, 1⟩ : Instr), (⟨149, 0, 0, 0, 0⟩ : Instr), (⟨12, 1, 2, 0, 0⟩ : Instr), (⟨85, 1, 0, 3, (-1)⟩ : Instr), (⟨24, 2, 0, 0, (-1)⟩ : Instr), (⟨0, 0, 0, 0, (-1)⟩ : Instr), (⟨123, 10, 1, (-8), 0⟩ : Instr), (⟨149, 0, 0, 0, 1⟩ : Instr)] : List Instr) _ (gcl hg hv4)), .cl (bif ((v1.2.2 == 0) && (v1.2.1 == 0)) && v3 then true else false) [1] (fun hg => c12 F ([(⟨183, 0, 0, 0, 1⟩ : Instr), (⟨149, 0, 0, 0, 0⟩ : Instr), (⟨12, 1, 2, 0, 0⟩ : Instr), (⟨85, 1, 0, 3, (-1)⟩ : Instr), (⟨24, 2, 0, 0, (-1)⟩ : Instr), (⟨0, 0, 0, 0, (-1)⟩ : Instr), (⟨123, 10, 1, (-8), 0⟩ : Instr), (⟨149, 0, 0, 0, 1⟩ : Instr)] : List Instr) _ (gcl hg hv6))] (aR (aR (aR (aR (aK (aR (aR (aK aN)))))))) (by rfl) ?_
  have hr := Option.some.inj h
  subst hr
  exact RT tbOk.t Tryz.results10 [] (by rfl) (by rfl) (by rfl) rfl rfl
def fn45 (p0 : Int) (p1 : Int) : Int :=
 IntKind.i64.wrap ((IntKind.i64.wrap ((1000003 : Int) * (IntKind.i64.wrap (p0 + 7)))) + p1)
def fn22 (p0 : Int) (p1 : Int) : Instr :=
 (⟨0, 0, 0, 0, IntKind.i32.wrap (fn45 p0 p1)⟩ : Instr)
def fn11_b1 (rl1 : (List Instr) → Int → Option ((List Instr))) (xs5 : List Instr) (x6 : Int) : Option ((List Instr)) :=
 bif decide (x6 < 12) then (bif decide ((xs5.length + ([(fn22 1 x6)] : List Instr).length) * 12 ≤ 140737488355328 ∧ xs5.length + ([(fn22 1 x6)] : List Instr).length ≤ 9223372036854775807) then (rl1 (xs5 ++ ([(fn22 1 x6)] : List Instr)) (IntKind.i64.wrap (x6 + 1))) else none) else (some xs5)
def fn11_l1 : Nat → (List Instr) → Int → Option ((List Instr))
 | 0, _, _ => none
 | n12 + 1, xs5, x6 => fn11_b1 (fn11_l1 n12) xs5 x6
def fn99 : (List RRow) :=
 ([(⟨(⟨#[97, 100, 100]⟩ : ByteArray), 0⟩ : RRow), (⟨(⟨#[115, 117, 98]⟩ : ByteArray), 16⟩ : RRow), (⟨(⟨#[109, 117, 108]⟩ : ByteArray), 32⟩ : RRow), (⟨(⟨#[100, 105, 118]⟩ : ByteArray), 48⟩ : RRow), (⟨(⟨#[111, 114]⟩ : ByteArray), 64⟩ : RRow), (⟨(⟨#[97, 110, 100]⟩ : ByteArray), 80⟩ : RRow), (⟨(⟨#[108, 115, 104]⟩ : ByteArray), 96⟩ : RRow), (⟨(⟨#[114, 115, 104]⟩ : ByteArray), 112⟩ : RRow), (⟨(⟨#[109, 111, 100]⟩ : ByteArray), 144⟩ : RRow), (⟨(⟨#[120, 111, 114]⟩ : ByteArray), 160⟩ : RRow), (⟨(⟨#[109, 111, 118]⟩ : ByteArray), 176⟩ : RRow), (⟨(⟨#[97, 114, 115, 104]⟩ : ByteArray), 192⟩ : RRow)] : List RRow)
theorem c99 (r : (List RRow)) (h : fn99 = r) : Con Tryz.prog 99 [] [] 0 (.sl 0) [(0, .row RRow.E 117 r r.length .unk)] 1 := by
 rw [fn99] at h
 refine Con.of_body Tryz.func99 rfl Tryz.ntmps99 rfl fun w F0 ρ gl => ?_
 refine RU tbOk false 999 15 [.bs RRow.E ([(⟨(⟨#[97, 100, 100]⟩ : ByteArray), 0⟩ : RRow), (⟨(⟨#[115, 117, 98]⟩ : ByteArray), 16⟩ : RRow), (⟨(⟨#[109, 117, 108]⟩ : ByteArray), 32⟩ : RRow), (⟨(⟨#[100, 105, 118]⟩ : ByteArray), 48⟩ : RRow), (⟨(⟨#[111, 114]⟩ : ByteArray), 64⟩ : RRow), (⟨(⟨#[97, 110, 100]⟩ : ByteArray), 80⟩ : RRow), (⟨(⟨#[108, 115, 104]⟩ : ByteArray), 96⟩ : RRow), (⟨(⟨#[114, 115, 104]⟩ : ByteArray), 112⟩ : RRow), (⟨(⟨#[109, 111, 100]⟩ : ByteArray), 144⟩ : RRow), (⟨(⟨#[120, 111, 114]⟩ : ByteArray), 160⟩ : RRow), (⟨(⟨#[109, 111, 118]⟩ : ByteArray), 176⟩ : RRow), (⟨(⟨#[97, 114, 115, 104]⟩ : ByteArray), 192⟩ : RRow)] : List RRow)] (aR (aR aN)) (by rfl) ?_
 subst h
 refine G4.imp (Imp.row 0 (by rfl)) ?_
 exact RT tbOk.t Tryz.results99 [0] (by rfl) (by rfl) (by rfl) rfl rfl
def fn62_b2 (p0 : Int) (p1 : ByteArray) (rl2 : (List RForm) → Int → Option ((List RForm))) (xs26 : List RForm) (x27 : Int) : Option ((List RForm)) :=
 bif decide (x27 < 2) then (bif inb x27 2 then (bif decide (((gt ([(⟨(⟨#[115, 100, 105, 118]⟩ : ByteArray), 48⟩ : RRow), (⟨(⟨#[115, 109, 111, 100]⟩ : ByteArray), 144⟩ : RRow)] : List RRow) x27).fname).size + p1.size ≤ 9223372036854775807) then (bif decide ((xs26.length + ([(⟨((gt ([(⟨(⟨#[115, 100, 105, 118]⟩ : ByteArray), 48⟩ : RRow), (⟨(⟨#[115, 109, 111, 100]⟩ : ByteArray), 144⟩ : RRow)] : List RRow) x27).fname) ++ p1, (⟨#[68, 73]⟩ : ByteArray), (⟨ior .u8 p0 ((gt ([(⟨(⟨#[115, 100, 105, 118]⟩ : ByteArray), 48⟩ : RRow), (⟨(⟨#[115, 109, 111, 100]⟩ : ByteArray), 144⟩ : RRow)] : List RRow) x27).fop), 0, 0, 1, 0⟩ : Instr)⟩ : RForm), (⟨((gt ([(⟨(⟨#[115, 100, 105, 118]⟩ : ByteArray), 48⟩ : RRow), (⟨(⟨#[115, 109, 111, 100]⟩ : ByteArray), 144⟩ : RRow)] : List RRow) x27).fname) ++ p1, (⟨#[68, 83]⟩ : ByteArray), (⟨ior .u8 (ior .u8 p0 ((gt ([(⟨(⟨#[115, 100, 105, 118]⟩ : ByteArray), 48⟩ : RRow), (⟨(⟨#[115, 109, 111, 100]⟩ : ByteArray), 144⟩ : RRow)] : List RRow) x27).fop)) 8, 0, 0, 1, 0⟩ : Instr)⟩ : RForm)] : List RForm).length) * 48 ≤ 140737488355328 ∧ xs26.length + ([(⟨((gt ([(⟨(⟨#[115, 100, 105, 118]⟩ : ByteArray), 48⟩ : RRow), (⟨(⟨#[115, 109, 111, 100]⟩ : ByteArray), 144⟩ : RRow)] : List RRow) x27).fname) ++ p1, (⟨#[68, 73]⟩ : ByteArray), (⟨ior .u8 p0 ((gt ([(⟨(⟨#[115, 100, 105, 118]⟩ : ByteArray), 48⟩ : RRow), (⟨(⟨#[115, 109, 111, 100]⟩ : ByteArray), 144⟩ : RRow)] : List RRow) x27).fop), 0, 0, 1, 0⟩ : Instr)⟩ : RForm), (⟨((gt ([(⟨(⟨#[115, 100, 105, 118]⟩ : ByteArray), 48⟩ : RRow), (⟨(⟨#[115, 109, 111, 100]⟩ : ByteArray), 144⟩ : RRow)] : List RRow) x27).fname) ++ p1, (⟨#[68, 83]⟩ : ByteArray), (⟨ior .u8 (ior .u8 p0 ((gt ([(⟨(⟨#[115, 100, 105, 118]⟩ : ByteArray), 48⟩ : RRow), (⟨(⟨#[115, 109, 111, 100]⟩ : ByteArray), 144⟩ : RRow)] : List RRow) x27).fop)) 8, 0, 0, 1, 0⟩ : Instr)⟩ : RForm)] : List RForm).length ≤ 9223372036854775807) then (rl2 (xs26 ++ ([(⟨((gt ([(⟨(⟨#[115, 100, 105, 118]⟩ : ByteArray), 48⟩ : RRow), (⟨(⟨#[115, 109, 111, 100]⟩ : ByteArray), 144⟩ : RRow)] : List RRow) x27).fname) ++ p1, (⟨#[68, 73]⟩ : ByteArray), (⟨ior .u8 p0 ((gt ([(⟨(⟨#[115, 100, 105, 118]⟩ : ByteArray), 48⟩ : RRow), (⟨(⟨#[115, 109, 111, 100]⟩ : ByteArray), 144⟩ : RRow)] : List RRow) x27).fop), 0, 0, 1, 0⟩ : Instr)⟩ : RForm), (⟨((gt ([(⟨(⟨#[115, 100, 105, 118]⟩ : ByteArray), 48⟩ : RRow), (⟨(⟨#[115, 109, 111, 100]⟩ : ByteArray), 144⟩ : RRow)] : List RRow) x27).fname) ++ p1, (⟨#[68, 83]⟩ : ByteArray), (⟨ior .u8 (ior .u8 p0 ((gt ([(⟨(⟨#[115, 100, 105, 118]⟩ : ByteArray), 48⟩ : RRow), (⟨(⟨#[115, 109, 111, 100]⟩ : ByteArray), 144⟩ : RRow)] : List RRow) x27).fop)) 8, 0, 0, 1, 0⟩ : Instr)⟩ : RForm)] : List RForm)) (IntKind.i64.wrap (x27 + 1))) else none) else none) else none) else (some xs26)
def fn62_l2 (p0 : Int) (p1 : ByteArray) : Nat → (List RForm) → Int → Option ((List RForm))
 | 0, _, _ => none
 | n35 + 1, xs26, x27 => fn62_b2 p0 p1 (fn62_l2 p0 p1 n35) xs26 x27
theorem fn62_l2_s (p0 : Int) (p1 : ByteArray) (n35 : Nat) (xs26 : List RForm) (x27 : Int) : fn62_l2 p0 p1 (n35 + 1) xs26 x27 = fn62_b2 p0 p1 (fn62_l2 p0 p1 n35) xs26 x27 := rfl
def fn62_k2 (p0 : Int) (p1 : ByteArray) (xs32 : List RForm) : Option (((List RForm))) :=
 bif decide ((⟨#[115, 120, 56]⟩ : ByteArray).size + p1.size ≤ 9223372036854775807) then (bif decide ((⟨#[115, 120, 49, 54]⟩ : ByteArray).size + p1.size ≤ 9223372036854775807) then (bif decide ((xs32.length + ([(⟨(⟨#[115, 120, 56]⟩ : ByteArray) ++ p1, (⟨#[68, 83]⟩ : ByteArray), (⟨ior .u8 (ior .u8 p0 176) 8, 0, 0, 8, 0⟩ : Instr)⟩ : RForm), (⟨(⟨#[115, 120, 49, 54]⟩ : ByteArray) ++ p1, (⟨#[68, 83]⟩ : ByteArray), (⟨ior .u8 (ior .u8 p0 176) 8, 0, 0, 16, 0⟩ : Instr)⟩ : RForm)] : List RForm).length) * 48 ≤ 140737488355328 ∧ xs32.length + ([(⟨(⟨#[115, 120, 56]⟩ : ByteArray) ++ p1, (⟨#[68, 83]⟩ : ByteArray), (⟨ior .u8 (ior .u8 p0 176) 8, 0, 0, 8, 0⟩ : Instr)⟩ : RForm), (⟨(⟨#[115, 120, 49, 54]⟩ : ByteArray) ++ p1, (⟨#[68, 83]⟩ : ByteArray), (⟨ior .u8 (ior .u8 p0 176) 8, 0, 0, 16, 0⟩ : Instr)⟩ : RForm)] : List RForm).length ≤ 9223372036854775807) then (bif decide ((⟨#[110, 101, 103]⟩ : ByteArray).size + p1.size ≤ 9223372036854775807) then (bif decide (((xs32 ++ ([(⟨(⟨#[115, 120, 56]⟩ : ByteArray) ++ p1, (⟨#[68, 83]⟩ : ByteArray), (⟨ior .u8 (ior .u8 p0 176) 8, 0, 0, 8, 0⟩ : Instr)⟩ : RForm), (⟨(⟨#[115, 120, 49, 54]⟩ : ByteArray) ++ p1, (⟨#[68, 83]⟩ : ByteArray), (⟨ior .u8 (ior .u8 p0 176) 8, 0, 0, 16, 0⟩ : Instr)⟩ : RForm)] : List RForm)).length + ([(⟨(⟨#[110, 101, 103]⟩ : ByteArray) ++ p1, (⟨#[68]⟩ : ByteArray), (⟨ior .u8 p0 128, 0, 0, 0, 0⟩ : Instr)⟩ : RForm)] : List RForm).length) * 48 ≤ 140737488355328 ∧ (xs32 ++ ([(⟨(⟨#[115, 120, 56]⟩ : ByteArray) ++ p1, (⟨#[68, 83]⟩ : ByteArray), (⟨ior .u8 (ior .u8 p0 176) 8, 0, 0, 8, 0⟩ : Instr)⟩ : RForm), (⟨(⟨#[115, 120, 49, 54]⟩ : ByteArray) ++ p1, (⟨#[68, 83]⟩ : ByteArray), (⟨ior .u8 (ior .u8 p0 176) 8, 0, 0, 16, 0⟩ : Instr)⟩ : RForm)] : List RForm)).length + ([(⟨(⟨#[110, 101, 103]⟩ : ByteArray) ++ p1, (⟨#[68]⟩ : ByteArray), (⟨ior .u8 p0 128, 0, 0, 0, 0⟩ : Instr)⟩ : RForm)] : List RForm).length ≤ 9223372036854775807) then (some ((xs32 ++ ([(⟨(⟨#[115, 120, 56]⟩ : ByteArray) ++ p1, (⟨#[68, 83]⟩ : ByteArray), (⟨ior .u8 (ior .u8 p0 176) 8, 0, 0, 8, 0⟩ : Instr)⟩ : RForm), (⟨(⟨#[115, 120, 49, 54]⟩ : ByteArray) ++ p1, (⟨#[68, 83]⟩ : ByteArray), (⟨ior .u8 (ior .u8 p0 176) 8, 0, 0, 16, 0⟩ : Instr)⟩ : RForm)] : List RForm)) ++ ([(⟨(⟨#[110, 101, 103]⟩ : ByteArray) ++ p1, (⟨#[68]⟩ : ByteArray), (⟨ior .u8 p0 128, 0, 0, 0, 0⟩ : Instr)⟩ : RForm)] : List RForm))) else none) else none) else none) else none) else none
def fn62_b1 (p0 : Int) (p1 : ByteArray) (rl1 : (List RForm) → Int → Option ((List RForm))) (xs5 : List RForm) (x6 : Int) : Option ((List RForm)) :=
 bif decide (x6 < ((fn99).length : Int)) then (bif inb x6 ((fn99).length) then (bif decide (((gt (fn99) x6).fname).size + p1.size ≤ 9223372036854775807) then (bif decide ((xs5.length + ([(⟨((gt (fn99) x6).fname) ++ p1, (⟨#[68, 73]⟩ : ByteArray), (⟨ior .u8 p0 ((gt (fn99) x6).fop), 0, 0, 0, 0⟩ : Instr)⟩ : RForm), (⟨((gt (fn99) x6).fname) ++ p1, (⟨#[68, 83]⟩ : ByteArray), (⟨ior .u8 (ior .u8 p0 ((gt (fn99) x6).fop)) 8, 0, 0, 0, 0⟩ : Instr)⟩ : RForm)] : List RForm).length) * 48 ≤ 140737488355328 ∧ xs5.length + ([(⟨((gt (fn99) x6).fname) ++ p1, (⟨#[68, 73]⟩ : ByteArray), (⟨ior .u8 p0 ((gt (fn99) x6).fop), 0, 0, 0, 0⟩ : Instr)⟩ : RForm), (⟨((gt (fn99) x6).fname) ++ p1, (⟨#[68, 83]⟩ : ByteArray), (⟨ior .u8 (ior .u8 p0 ((gt (fn99) x6).fop)) 8, 0, 0, 0, 0⟩ : Instr)⟩ : RForm)] : List RForm).length ≤ 9223372036854775807) then (rl1 (xs5 ++ ([(⟨((gt (fn99) x6).fname) ++ p1, (⟨#[68, 73]⟩ : ByteArray), (⟨ior .u8 p0 ((gt (fn99) x6).fop), 0, 0, 0, 0⟩ : Instr)⟩ : RForm), (⟨((gt (fn99) x6).fname) ++ p1, (⟨#[68, 83]⟩ : ByteArray), (⟨ior .u8 (ior .u8 p0 ((gt (fn99) x6).fop)) 8, 0, 0, 0, 0⟩ : Instr)⟩ : RForm)] : List RForm)) (IntKind.i64.wrap (x6 + 1))) else none) else none) else none) else (some xs5)
def fn62_l1 (p0 : Int) (p1 : ByteArray) : Nat → (List RForm) → Int → Option ((List RForm))
 | 0, _, _ => none
 | n14 + 1, xs5, x6 => fn62_b1 p0 p1 (fn62_l1 p0 p1 n14) xs5 x6
theorem fn62_l1_s (p0 : Int) (p1 : ByteArray) (n14 : Nat) (xs5 : List RForm) (x6 : Int) : fn62_l1 p0 p1 (n14 + 1) xs5 x6 = fn62_b1 p0 p1 (fn62_l1 p0 p1 n14) xs5 x6 := rfl
def fn62_k1 (F : Nat) (p0 : Int) (p1 : ByteArray) (xs11 : List RForm) : Option (((List RForm))) :=
 Option.bind (fn62_l2 p0 p1 F xs11 0) fun o33 => (fn62_k2 p0 p1 o33)
def fn62 (F : Nat) (p0 : Int) (p1 : ByteArray) : Option ((List RForm)) :=
 Option.bind (fn62_l1 p0 p1 F ([] : List RForm) 0) fun o12 => (fn62_k1 F p0 p1 o12)
theorem c62 (F : Nat) (p0 : Int) (p1 : ByteArray) (r : (List RForm)) (h : fn62 F p0 p1 = some r) : Con Tryz.prog 62 [.v (.int .u8 p0), .v (.string p1)] [] 0 (.sl 0) [(0, .row RForm.E 113 r r.length .iff)] 1 := by
 rw [fn62] at h
 refine Con.of_body Tryz.func62 rfl Tryz.ntmps62 rfl fun w F0 ρ gl => ?_
 refine RU tbOk false 999 3 [.cl true [] (fun _ => c99 _ rfl)] (aK aN) (by rfl) ?_
 refine RU tbOk false 999 2 [] aN (by rfl) ?_
 refine G4.imp (Imp.nil RForm.E 113 5 (by rfl)) ?_
 obtain ⟨o12, hl13, h⟩ := bd h
 refine CT 0 ⟨[(0, .v (.int .u8 p0)), (1, .v (.string p1)), (5, .sl 0)], [(0, .row RForm.E 113 o12 o12.length .iff)], 1⟩ ?_ ?_
 ·have h016 := h
  clear h
  refine G4.imp (Imp.to [0, 1] (by rfl) (by rfl) rfl rfl) (LP (fun (n : Nat) (s : (List RForm) × Int) => fn62_l1 p0 p1 n s.1 s.2) (fun (s : (List RForm) × Int) => ⟨[(0, .v (.int .u8 p0)), (1, .v (.string p1)), (5, .sl 1), (6, .sl 0), (7, .v (.int .i64 s.2))], [(0, .row RRow.E 117 (fn99) ((fn99).length) .unk), (1, .row RForm.E 113 s.1 s.1.length .iff)], 2⟩) (fun _ => rfl) (s0 := (([] : List RForm), 0)) hl13 ?_)
  clear hl13
  rintro R17 n14 ⟨xs5, x6⟩ h ih15
  replace h := (fn62_l1_s p0 p1 n14 xs5 x6).symm.trans h
  rw [fn62_b1] at h
  refine RU tbOk false 999 4 [] aN (by rfl) ?_
  refine CD h (by rfl) (fun h hb18 => ?_) (fun h hb18 => ?_)
  ·refine RU tbOk false 999 0 [] aN (by rfl) ?_
   obtain ⟨hk19, h⟩ := ck h
   obtain ⟨hk20, h⟩ := ck h
   obtain ⟨hk21, h⟩ := ck h
   refine DR tbOk hmix [5] [([], []), ([], []), ([], []), ([0], []), ([], []), ([0], []), ([], []), ([], []), ([], []), ([], []), ([], []), ([0], []), ([], []), ([0], []), ([], []), ([], []), ([], []), ([], []), ([], []), ([0], []), ([], []), ([0], []), ([], []), ([], []), ([], []), ([], []), ([], []), ([0], []), ([], []), ([0], []), ([], []), ([], []), ([], []), ([], []), ([], []), ([1, 2], []), ([], [])] [.st, .st, .bs RForm.E ([(⟨((gt (fn99) x6).fname) ++ p1, (⟨#[68, 73]⟩ : ByteArray), (⟨ior .u8 p0 ((gt (fn99) x6).fop), 0, 0, 0, 0⟩ : Instr)⟩ : RForm), (⟨((gt (fn99) x6).fname) ++ p1, (⟨#[68, 83]⟩ : ByteArray), (⟨ior .u8 (ior .u8 p0 ((gt (fn99) x6).fop)) 8, 0, 0, 0, 0⟩ : Instr)⟩ : RForm)] : List RForm), .ap RForm.E .iff _ _] (aR (aC hk19 (aR (aC hk20 (aR (aC hk19 (aR (aR (aC hk19 (aR (aC hk20 (aR (aC hk19 (aR (aR (aR (aR (aR (aR (aC hk21 (aC rfl aN))))))))))))))))))))) (by rfl) ?_
   refine RU tbOk false 999 3 [] aN (by rfl) ?_
   exact ih15 (xs5 ++ ([(⟨((gt (fn99) x6).fname) ++ p1, (⟨#[68, 73]⟩ : ByteArray), (⟨ior .u8 p0 ((gt (fn99) x6).fop), 0, 0, 0, 0⟩ : Instr)⟩ : RForm), (⟨((gt (fn99) x6).fname) ++ p1, (⟨#[68, 83]⟩ : ByteArray), (⟨ior .u8 (ior .u8 p0 ((gt (fn99) x6).fop)) 8, 0, 0, 0, 0⟩ : Instr)⟩ : RForm)] : List RForm), IntKind.i64.wrap (x6 + 1)) h _ _ (Imp.to [0, 3] (by rfl) (by rfl) rfl rfl)
  ·refine RU tbOk false 999 0 [] aN (by rfl) ?_
   have ho := Option.some.inj h
   subst ho
   exact CE (Imp.to [1] (by rfl) (by rfl) rfl rfl)
 ·change fn62_k1 F p0 p1 o12 = _ at h
  rw [fn62_k1] at h
  refine RU tbOk false 999 1 [] aN (by rfl) ?_
  obtain ⟨o33, hl34, h⟩ := bd h
  refine CT 2 ⟨[(0, .v (.int .u8 p0)), (1, .v (.string p1)), (5, .sl 0)], [(0, .row RForm.E 113 o33 o33.length .iff)], 1⟩ ?_ ?_
  ·have h037 := h
   clear h
   refine G4.imp (Imp.to [0] (by rfl) (by rfl) rfl rfl) (LP (fun (n : Nat) (s : (List RForm) × Int) => fn62_l2 p0 p1 n s.1 s.2) (fun (s : (List RForm) × Int) => ⟨[(0, .v (.int .u8 p0)), (1, .v (.string p1)), (5, .sl 0), (8, .v (.int .i64 s.2))], [(0, .row RForm.E 113 s.1 s.1.length .iff)], 1⟩) (fun _ => rfl) (s0 := (o12, 0)) hl34 ?_)
   clear hl34
   rintro R38 n35 ⟨xs26, x27⟩ h ih36
   replace h := (fn62_l2_s p0 p1 n35 xs26 x27).symm.trans h
   rw [fn62_b2] at h
   refine RU tbOk false 999 2 [] aN (by rfl) ?_
   refine CD h (by rfl) (fun h hb39 => ?_) (fun h hb39 => ?_)
   ·obtain ⟨hk40, h⟩ := ck h
    obtain ⟨hk41, h⟩ := ck h
    obtain ⟨hk42, h⟩ := ck h
    refine RU tbOk false 999 36 [.bs RRow.E ([(⟨(⟨#[115, 100, 105, 118]⟩ : ByteArray), 48⟩ : RRow), (⟨(⟨#[115, 109, 111, 100]⟩ : ByteArray), 144⟩ : RRow)] : List RRow), .st, .st, .bs RForm.E ([(⟨((gt ([(⟨(⟨#[115, 100, 105, 118]⟩ : ByteArray), 48⟩ : RRow), (⟨(⟨#[115, 109, 111, 100]⟩ : ByteArray), 144⟩ : RRow)] : List RRow) x27).fname) ++ p1, (⟨#[68, 73]⟩ : ByteArray), (⟨ior .u8 p0 ((gt ([(⟨(⟨#[115, 100, 105, 118]⟩ : ByteArray), 48⟩ : RRow), (⟨(⟨#[115, 109, 111, 100]⟩ : ByteArray), 144⟩ : RRow)] : List RRow) x27).fop), 0, 0, 1, 0⟩ : Instr)⟩ : RForm), (⟨((gt ([(⟨(⟨#[115, 100, 105, 118]⟩ : ByteArray), 48⟩ : RRow), (⟨(⟨#[115, 109, 111, 100]⟩ : ByteArray), 144⟩ : RRow)] : List RRow) x27).fname) ++ p1, (⟨#[68, 83]⟩ : ByteArray), (⟨ior .u8 (ior .u8 p0 ((gt ([(⟨(⟨#[115, 100, 105, 118]⟩ : ByteArray), 48⟩ : RRow), (⟨(⟨#[115, 109, 111, 100]⟩ : ByteArray), 144⟩ : RRow)] : List RRow) x27).fop)) 8, 0, 0, 1, 0⟩ : Instr)⟩ : RForm)] : List RForm), .ap RForm.E .iff _ _] (aR (aR (aC hk40 (aC hk41 (aC hk41 (aR (aR (aR (aR (aC hk42 (aC rfl aN))))))))))) (by rfl) ?_
    exact ih36 (xs26 ++ ([(⟨((gt ([(⟨(⟨#[115, 100, 105, 118]⟩ : ByteArray), 48⟩ : RRow), (⟨(⟨#[115, 109, 111, 100]⟩ : ByteArray), 144⟩ : RRow)] : List RRow) x27).fname) ++ p1, (⟨#[68, 73]⟩ : ByteArray), (⟨ior .u8 p0 ((gt ([(⟨(⟨#[115, 100, 105, 118]⟩ : ByteArray), 48⟩ : RRow), (⟨(⟨#[115, 109, 111, 100]⟩ : ByteArray), 144⟩ : RRow)] : List RRow) x27).fop), 0, 0, 1, 0⟩ : Instr)⟩ : RForm), (⟨((gt ([(⟨(⟨#[115, 100, 105, 118]⟩ : ByteArray), 48⟩ : RRow), (⟨(⟨#[115, 109, 111, 100]⟩ : ByteArray), 144⟩ : RRow)] : List RRow) x27).fname) ++ p1, (⟨#[68, 83]⟩ : ByteArray), (⟨ior .u8 (ior .u8 p0 ((gt ([(⟨(⟨#[115, 100, 105, 118]⟩ : ByteArray), 48⟩ : RRow), (⟨(⟨#[115, 109, 111, 100]⟩ : ByteArray), 144⟩ : RRow)] : List RRow) x27).fop)) 8, 0, 0, 1, 0⟩ : Instr)⟩ : RForm)] : List RForm), IntKind.i64.wrap (x27 + 1)) h _ _ (Imp.to [4] (by rfl) (by rfl) rfl rfl)
   ·refine RU tbOk false 999 0 [] aN (by rfl) ?_
    have ho := Option.some.inj h
    subst ho
    exact CE (Imp.to [0] (by rfl) (by rfl) rfl rfl)
  ·change fn62_k2 p0 p1 o33 = _ at h
   rw [fn62_k2] at h
   obtain ⟨hk43, h⟩ := ck h
   obtain ⟨hk44, h⟩ := ck h
   obtain ⟨hk45, h⟩ := ck h
   obtain ⟨hk46, h⟩ := ck h
   obtain ⟨hk47, h⟩ := ck h
   refine RU tbOk false 999 28 [.st, .st, .bs RForm.E ([(⟨(⟨#[115, 120, 56]⟩ : ByteArray) ++ p1, (⟨#[68, 83]⟩ : ByteArray), (⟨ior .u8 (ior .u8 p0 176) 8, 0, 0, 8, 0⟩ : Instr)⟩ : RForm), (⟨(⟨#[115, 120, 49, 54]⟩ : ByteArray) ++ p1, (⟨#[68, 83]⟩ : ByteArray), (⟨ior .u8 (ior .u8 p0 176) 8, 0, 0, 16, 0⟩ : Instr)⟩ : RForm)] : List RForm), .ap RForm.E .iff _ _, .st, .bs RForm.E ([(⟨(⟨#[110, 101, 103]⟩ : ByteArray) ++ p1, (⟨#[68]⟩ : ByteArray), (⟨ior .u8 p0 128, 0, 0, 0, 0⟩ : Instr)⟩ : RForm)] : List RForm), .ap RForm.E .iff _ _] (aC hk43 (aC hk44 (aR (aR (aR (aR (aC hk45 (aC rfl (aC hk46 (aR (aR (aR (aR (aC hk47 (aC rfl aN))))))))))))))) (by rfl) ?_
   have hr := Option.some.inj h
   subst hr
   exact RT tbOk.t Tryz.results62 [4] (by rfl) (by rfl) (by rfl) rfl rfl
def fn63 : (List RRow) :=
 ([(⟨(⟨#[106, 101, 113]⟩ : ByteArray), 16⟩ : RRow), (⟨(⟨#[106, 103, 116]⟩ : ByteArray), 32⟩ : RRow), (⟨(⟨#[106, 103, 101]⟩ : ByteArray), 48⟩ : RRow), (⟨(⟨#[106, 115, 101, 116]⟩ : ByteArray), 64⟩ : RRow), (⟨(⟨#[106, 110, 101]⟩ : ByteArray), 80⟩ : RRow), (⟨(⟨#[106, 115, 103, 116]⟩ : ByteArray), 96⟩ : RRow), (⟨(⟨#[106, 115, 103, 101]⟩ : ByteArray), 112⟩ : RRow), (⟨(⟨#[106, 108, 116]⟩ : ByteArray), 160⟩ : RRow), (⟨(⟨#[106, 108, 101]⟩ : ByteArray), 176⟩ : RRow), (⟨(⟨#[106, 115, 108, 116]⟩ : ByteArray), 192⟩ : RRow), (⟨(⟨#[106, 115, 108, 101]⟩ : ByteArray), 208⟩ : RRow)] : List RRow)
theorem c63 (r : (List RRow)) (h : fn63 = r) : Con Tryz.prog 63 [] [] 0 (.sl 0) [(0, .row RRow.E 117 r r.length .unk)] 1 := by
 rw [fn63] at h
 refine Con.of_body Tryz.func63 rfl Tryz.ntmps63 rfl fun w F0 ρ gl => ?_
 refine RU tbOk false 999 14 [.bs RRow.E ([(⟨(⟨#[106, 101, 113]⟩ : ByteArray), 16⟩ : RRow), (⟨(⟨#[106, 103, 116]⟩ : ByteArray), 32⟩ : RRow), (⟨(⟨#[106, 103, 101]⟩ : ByteArray), 48⟩ : RRow), (⟨(⟨#[106, 115, 101, 116]⟩ : ByteArray), 64⟩ : RRow), (⟨(⟨#[106, 110, 101]⟩ : ByteArray), 80⟩ : RRow), (⟨(⟨#[106, 115, 103, 116]⟩ : ByteArray), 96⟩ : RRow), (⟨(⟨#[106, 115, 103, 101]⟩ : ByteArray), 112⟩ : RRow), (⟨(⟨#[106, 108, 116]⟩ : ByteArray), 160⟩ : RRow), (⟨(⟨#[106, 108, 101]⟩ : ByteArray), 176⟩ : RRow), (⟨(⟨#[106, 115, 108, 116]⟩ : ByteArray), 192⟩ : RRow), (⟨(⟨#[106, 115, 108, 101]⟩ : ByteArray), 208⟩ : RRow)] : List RRow)] (aR (aR aN)) (by rfl) ?_
 subst h
 refine G4.imp (Imp.row 0 (by rfl)) ?_
 exact RT tbOk.t Tryz.results63 [0] (by rfl) (by rfl) (by rfl) rfl rfl
def fn64 : (List RRow) :=
 ([(⟨(⟨#[98]⟩ : ByteArray), 16⟩ : RRow), (⟨(⟨#[104]⟩ : ByteArray), 8⟩ : RRow), (⟨(⟨#[119]⟩ : ByteArray), 0⟩ : RRow), (⟨(⟨#[100, 119]⟩ : ByteArray), 24⟩ : RRow)] : List RRow)
theorem c64 (r : (List RRow)) (h : fn64 = r) : Con Tryz.prog 64 [] [] 0 (.sl 0) [(0, .row RRow.E 117 r r.length .unk)] 1 := by
 rw [fn64] at h
 refine Con.of_body Tryz.func64 rfl Tryz.ntmps64 rfl fun w F0 ρ gl => ?_
 refine RU tbOk false 999 7 [.bs RRow.E ([(⟨(⟨#[98]⟩ : ByteArray), 16⟩ : RRow), (⟨(⟨#[104]⟩ : ByteArray), 8⟩ : RRow), (⟨(⟨#[119]⟩ : ByteArray), 0⟩ : RRow), (⟨(⟨#[100, 119]⟩ : ByteArray), 24⟩ : RRow)] : List RRow)] (aR (aR aN)) (by rfl) ?_
 subst h
 refine G4.imp (Imp.row 0 (by rfl)) ?_
 exact RT tbOk.t Tryz.results64 [0] (by rfl) (by rfl) (by rfl) rfl rfl
def fn29_b3 (rl3 : (List RForm) → Int → Option ((List RForm))) (xs74 : List RForm) (x75 : Int) : Option ((List RForm)) :=
 bif decide (x75 < 4) then (bif inb x75 ((fn64).length) then (bif decide ((⟨#[108, 100, 120]⟩ : ByteArray).size + ((gt (fn64) x75).fname).size ≤ 9223372036854775807) then (bif decide ((⟨#[115, 116]⟩ : ByteArray).size + ((gt (fn64) x75).fname).size ≤ 9223372036854775807) then (bif decide ((⟨#[115, 116, 120]⟩ : ByteArray).size + ((gt (fn64) x75).fname).size ≤ 9223372036854775807) then (bif decide ((xs74.length + ([(⟨(⟨#[108, 100, 120]⟩ : ByteArray) ++ ((gt (fn64) x75).fname), (⟨#[68, 83, 79]⟩ : ByteArray), (⟨ior .u8 97 ((gt (fn64) x75).fop), 0, 0, 0, 0⟩ : Instr)⟩ : RForm), (⟨(⟨#[115, 116]⟩ : ByteArray) ++ ((gt (fn64) x75).fname), (⟨#[68, 79, 73]⟩ : ByteArray), (⟨ior .u8 98 ((gt (fn64) x75).fop), 0, 0, 0, 0⟩ : Instr)⟩ : RForm), (⟨(⟨#[115, 116, 120]⟩ : ByteArray) ++ ((gt (fn64) x75).fname), (⟨#[68, 79, 83]⟩ : ByteArray), (⟨ior .u8 99 ((gt (fn64) x75).fop), 0, 0, 0, 0⟩ : Instr)⟩ : RForm)] : List RForm).length) * 48 ≤ 140737488355328 ∧ xs74.length + ([(⟨(⟨#[108, 100, 120]⟩ : ByteArray) ++ ((gt (fn64) x75).fname), (⟨#[68, 83, 79]⟩ : ByteArray), (⟨ior .u8 97 ((gt (fn64) x75).fop), 0, 0, 0, 0⟩ : Instr)⟩ : RForm), (⟨(⟨#[115, 116]⟩ : ByteArray) ++ ((gt (fn64) x75).fname), (⟨#[68, 79, 73]⟩ : ByteArray), (⟨ior .u8 98 ((gt (fn64) x75).fop), 0, 0, 0, 0⟩ : Instr)⟩ : RForm), (⟨(⟨#[115, 116, 120]⟩ : ByteArray) ++ ((gt (fn64) x75).fname), (⟨#[68, 79, 83]⟩ : ByteArray), (⟨ior .u8 99 ((gt (fn64) x75).fop), 0, 0, 0, 0⟩ : Instr)⟩ : RForm)] : List RForm).length ≤ 9223372036854775807) then (bif decide (x75 < 3) then (bif decide ((⟨#[108, 100, 120, 115]⟩ : ByteArray).size + ((gt (fn64) x75).fname).size ≤ 9223372036854775807) then (bif decide (((xs74 ++ ([(⟨(⟨#[108, 100, 120]⟩ : ByteArray) ++ ((gt (fn64) x75).fname), (⟨#[68, 83, 79]⟩ : ByteArray), (⟨ior .u8 97 ((gt (fn64) x75).fop), 0, 0, 0, 0⟩ : Instr)⟩ : RForm), (⟨(⟨#[115, 116]⟩ : ByteArray) ++ ((gt (fn64) x75).fname), (⟨#[68, 79, 73]⟩ : ByteArray), (⟨ior .u8 98 ((gt (fn64) x75).fop), 0, 0, 0, 0⟩ : Instr)⟩ : RForm), (⟨(⟨#[115, 116, 120]⟩ : ByteArray) ++ ((gt (fn64) x75).fname), (⟨#[68, 79, 83]⟩ : ByteArray), (⟨ior .u8 99 ((gt (fn64) x75).fop), 0, 0, 0, 0⟩ : Instr)⟩ : RForm)] : List RForm)).length + ([(⟨(⟨#[108, 100, 120, 115]⟩ : ByteArray) ++ ((gt (fn64) x75).fname), (⟨#[68, 83, 79]⟩ : ByteArray), (⟨ior .u8 129 ((gt (fn64) x75).fop), 0, 0, 0, 0⟩ : Instr)⟩ : RForm)] : List RForm).length) * 48 ≤ 140737488355328 ∧ (xs74 ++ ([(⟨(⟨#[108, 100, 120]⟩ : ByteArray) ++ ((gt (fn64) x75).fname), (⟨#[68, 83, 79]⟩ : ByteArray), (⟨ior .u8 97 ((gt (fn64) x75).fop), 0, 0, 0, 0⟩ : Instr)⟩ : RForm), (⟨(⟨#[115, 116]⟩ : ByteArray) ++ ((gt (fn64) x75).fname), (⟨#[68, 79, 73]⟩ : ByteArray), (⟨ior .u8 98 ((gt (fn64) x75).fop), 0, 0, 0, 0⟩ : Instr)⟩ : RForm), (⟨(⟨#[115, 116, 120]⟩ : ByteArray) ++ ((gt (fn64) x75).fname), (⟨#[68, 79, 83]⟩ : ByteArray), (⟨ior .u8 99 ((gt (fn64) x75).fop), 0, 0, 0, 0⟩ : Instr)⟩ : RForm)] : List RForm)).length + ([(⟨(⟨#[108, 100, 120, 115]⟩ : ByteArray) ++ ((gt (fn64) x75).fname), (⟨#[68, 83, 79]⟩ : ByteArray), (⟨ior .u8 129 ((gt (fn64) x75).fop), 0, 0, 0, 0⟩ : Instr)⟩ : RForm)] : List RForm).length ≤ 9223372036854775807) then (rl3 ((xs74 ++ ([(⟨(⟨#[108, 100, 120]⟩ : ByteArray) ++ ((gt (fn64) x75).fname), (⟨#[68, 83, 79]⟩ : ByteArray), (⟨ior .u8 97 ((gt (fn64) x75).fop), 0, 0, 0, 0⟩ : Instr)⟩ : RForm), (⟨(⟨#[115, 116]⟩ : ByteArray) ++ ((gt (fn64) x75).fname), (⟨#[68, 79, 73]⟩ : ByteArray), (⟨ior .u8 98 ((gt (fn64) x75).fop), 0, 0, 0, 0⟩ : Instr)⟩ : RForm), (⟨(⟨#[115, 116, 120]⟩ : ByteArray) ++ ((gt (fn64) x75).fname), (⟨#[68, 79, 83]⟩ : ByteArray), (⟨ior .u8 99 ((gt (fn64) x75).fop), 0, 0, 0, 0⟩ : Instr)⟩ : RForm)] : List RForm)) ++ ([(⟨(⟨#[108, 100, 120, 115]⟩ : ByteArray) ++ ((gt (fn64) x75).fname), (⟨#[68, 83, 79]⟩ : ByteArray), (⟨ior .u8 129 ((gt (fn64) x75).fop), 0, 0, 0, 0⟩ : Instr)⟩ : RForm)] : List RForm)) (IntKind.i64.wrap (x75 + 1))) else none) else none) else (rl3 (xs74 ++ ([(⟨(⟨#[108, 100, 120]⟩ : ByteArray) ++ ((gt (fn64) x75).fname), (⟨#[68, 83, 79]⟩ : ByteArray), (⟨ior .u8 97 ((gt (fn64) x75).fop), 0, 0, 0, 0⟩ : Instr)⟩ : RForm), (⟨(⟨#[115, 116]⟩ : ByteArray) ++ ((gt (fn64) x75).fname), (⟨#[68, 79, 73]⟩ : ByteArray), (⟨ior .u8 98 ((gt (fn64) x75).fop), 0, 0, 0, 0⟩ : Instr)⟩ : RForm), (⟨(⟨#[115, 116, 120]⟩ : ByteArray) ++ ((gt (fn64) x75).fname), (⟨#[68, 79, 83]⟩ : ByteArray), (⟨ior .u8 99 ((gt (fn64) x75).fop), 0, 0, 0, 0⟩ : Instr)⟩ : RForm)] : List RForm)) (IntKind.i64.wrap (x75 + 1)))) else none) else none) else none) else none) else none) else (some xs74)
def fn29_l3 : Nat → (List RForm) → Int → Option ((List RForm))
 | 0, _, _ => none
 | n88 + 1, xs74, x75 => fn29_b3 (fn29_l3 n88) xs74 x75
theorem fn29_l3_s (n88 : Nat) (xs74 : List RForm) (x75 : Int) : fn29_l3 (n88 + 1) xs74 x75 = fn29_b3 (fn29_l3 n88) xs74 x75 := rfl
def fn29_k3 (xs85 : List RForm) : Option (((List RForm))) :=
 some (xs85)
def fn29_b2 (rl2 : (List RForm) → Int → Option ((List RForm))) (xs46 : List RForm) (x47 : Int) : Option ((List RForm)) :=
 bif decide (x47 < ((fn63).length : Int)) then (bif inb x47 ((fn63).length) then (bif decide ((xs46.length + ([(⟨(gt (fn63) x47).fname, (⟨#[68, 73, 79]⟩ : ByteArray), (⟨ior .u8 5 ((gt (fn63) x47).fop), 0, 0, 0, 0⟩ : Instr)⟩ : RForm), (⟨(gt (fn63) x47).fname, (⟨#[68, 83, 79]⟩ : ByteArray), (⟨ior .u8 (ior .u8 5 ((gt (fn63) x47).fop)) 8, 0, 0, 0, 0⟩ : Instr)⟩ : RForm)] : List RForm).length) * 48 ≤ 140737488355328 ∧ xs46.length + ([(⟨(gt (fn63) x47).fname, (⟨#[68, 73, 79]⟩ : ByteArray), (⟨ior .u8 5 ((gt (fn63) x47).fop), 0, 0, 0, 0⟩ : Instr)⟩ : RForm), (⟨(gt (fn63) x47).fname, (⟨#[68, 83, 79]⟩ : ByteArray), (⟨ior .u8 (ior .u8 5 ((gt (fn63) x47).fop)) 8, 0, 0, 0, 0⟩ : Instr)⟩ : RForm)] : List RForm).length ≤ 9223372036854775807) then (bif decide (((gt (fn63) x47).fname).size + (⟨#[119]⟩ : ByteArray).size ≤ 9223372036854775807) then (bif decide (((xs46 ++ ([(⟨(gt (fn63) x47).fname, (⟨#[68, 73, 79]⟩ : ByteArray), (⟨ior .u8 5 ((gt (fn63) x47).fop), 0, 0, 0, 0⟩ : Instr)⟩ : RForm), (⟨(gt (fn63) x47).fname, (⟨#[68, 83, 79]⟩ : ByteArray), (⟨ior .u8 (ior .u8 5 ((gt (fn63) x47).fop)) 8, 0, 0, 0, 0⟩ : Instr)⟩ : RForm)] : List RForm)).length + ([(⟨((gt (fn63) x47).fname) ++ (⟨#[119]⟩ : ByteArray), (⟨#[68, 73, 79]⟩ : ByteArray), (⟨ior .u8 6 ((gt (fn63) x47).fop), 0, 0, 0, 0⟩ : Instr)⟩ : RForm), (⟨((gt (fn63) x47).fname) ++ (⟨#[119]⟩ : ByteArray), (⟨#[68, 83, 79]⟩ : ByteArray), (⟨ior .u8 (ior .u8 6 ((gt (fn63) x47).fop)) 8, 0, 0, 0, 0⟩ : Instr)⟩ : RForm)] : List RForm).length) * 48 ≤ 140737488355328 ∧ (xs46 ++ ([(⟨(gt (fn63) x47).fname, (⟨#[68, 73, 79]⟩ : ByteArray), (⟨ior .u8 5 ((gt (fn63) x47).fop), 0, 0, 0, 0⟩ : Instr)⟩ : RForm), (⟨(gt (fn63) x47).fname, (⟨#[68, 83, 79]⟩ : ByteArray), (⟨ior .u8 (ior .u8 5 ((gt (fn63) x47).fop)) 8, 0, 0, 0, 0⟩ : Instr)⟩ : RForm)] : List RForm)).length + ([(⟨((gt (fn63) x47).fname) ++ (⟨#[119]⟩ : ByteArray), (⟨#[68, 73, 79]⟩ : ByteArray), (⟨ior .u8 6 ((gt (fn63) x47).fop), 0, 0, 0, 0⟩ : Instr)⟩ : RForm), (⟨((gt (fn63) x47).fname) ++ (⟨#[119]⟩ : ByteArray), (⟨#[68, 83, 79]⟩ : ByteArray), (⟨ior .u8 (ior .u8 6 ((gt (fn63) x47).fop)) 8, 0, 0, 0, 0⟩ : Instr)⟩ : RForm)] : List RForm).length ≤ 9223372036854775807) then (rl2 ((xs46 ++ ([(⟨(gt (fn63) x47).fname, (⟨#[68, 73, 79]⟩ : ByteArray), (⟨ior .u8 5 ((gt (fn63) x47).fop), 0, 0, 0, 0⟩ : Instr)⟩ : RForm), (⟨(gt (fn63) x47).fname, (⟨#[68, 83, 79]⟩ : ByteArray), (⟨ior .u8 (ior .u8 5 ((gt (fn63) x47).fop)) 8, 0, 0, 0, 0⟩ : Instr)⟩ : RForm)] : List RForm)) ++ ([(⟨((gt (fn63) x47).fname) ++ (⟨#[119]⟩ : ByteArray), (⟨#[68, 73, 79]⟩ : ByteArray), (⟨ior .u8 6 ((gt (fn63) x47).fop), 0, 0, 0, 0⟩ : Instr)⟩ : RForm), (⟨((gt (fn63) x47).fname) ++ (⟨#[119]⟩ : ByteArray), (⟨#[68, 83, 79]⟩ : ByteArray), (⟨ior .u8 (ior .u8 6 ((gt (fn63) x47).fop)) 8, 0, 0, 0, 0⟩ : Instr)⟩ : RForm)] : List RForm)) (IntKind.i64.wrap (x47 + 1))) else none) else none) else none) else none) else (some xs46)
def fn29_l2 : Nat → (List RForm) → Int → Option ((List RForm))
 | 0, _, _ => none
 | n56 + 1, xs46, x47 => fn29_b2 (fn29_l2 n56) xs46 x47
theorem fn29_l2_s (n56 : Nat) (xs46 : List RForm) (x47 : Int) : fn29_l2 (n56 + 1) xs46 x47 = fn29_b2 (fn29_l2 n56) xs46 x47 := rfl
def fn29_k2 (F : Nat) (xs53 : List RForm) : Option (((List RForm))) :=
 Option.bind (fn29_l3 F xs53 0) fun o86 => (fn29_k3 o86)
def fn29_b1 (rl1 : (List RForm) → Int → Option ((List RForm))) (xs15 : List RForm) (x16 : Int) : Option ((List RForm)) :=
 bif decide (x16 < 3) then (bif inb x16 3 then (Option.bind (fn53 (IntKind.i64.wrap (gt ([16, 32, 64] : List Int) x16))) fun v34 => (bif decide ((⟨#[98, 115, 119, 97, 112]⟩ : ByteArray).size + v34.size ≤ 9223372036854775807) then (bif decide ((⟨#[108, 101]⟩ : ByteArray).size + v34.size ≤ 9223372036854775807) then (bif decide ((⟨#[98, 101]⟩ : ByteArray).size + v34.size ≤ 9223372036854775807) then (bif decide ((xs15.length + ([(⟨(⟨#[98, 115, 119, 97, 112]⟩ : ByteArray) ++ v34, (⟨#[68]⟩ : ByteArray), (⟨215, 0, 0, 0, gt ([16, 32, 64] : List Int) x16⟩ : Instr)⟩ : RForm), (⟨(⟨#[108, 101]⟩ : ByteArray) ++ v34, (⟨#[68]⟩ : ByteArray), (⟨212, 0, 0, 0, gt ([16, 32, 64] : List Int) x16⟩ : Instr)⟩ : RForm), (⟨(⟨#[98, 101]⟩ : ByteArray) ++ v34, (⟨#[68]⟩ : ByteArray), (⟨220, 0, 0, 0, gt ([16, 32, 64] : List Int) x16⟩ : Instr)⟩ : RForm)] : List RForm).length) * 48 ≤ 140737488355328 ∧ xs15.length + ([(⟨(⟨#[98, 115, 119, 97, 112]⟩ : ByteArray) ++ v34, (⟨#[68]⟩ : ByteArray), (⟨215, 0, 0, 0, gt ([16, 32, 64] : List Int) x16⟩ : Instr)⟩ : RForm), (⟨(⟨#[108, 101]⟩ : ByteArray) ++ v34, (⟨#[68]⟩ : ByteArray), (⟨212, 0, 0, 0, gt ([16, 32, 64] : List Int) x16⟩ : Instr)⟩ : RForm), (⟨(⟨#[98, 101]⟩ : ByteArray) ++ v34, (⟨#[68]⟩ : ByteArray), (⟨220, 0, 0, 0, gt ([16, 32, 64] : List Int) x16⟩ : Instr)⟩ : RForm)] : List RForm).length ≤ 9223372036854775807) then (rl1 (xs15 ++ ([(⟨(⟨#[98, 115, 119, 97, 112]⟩ : ByteArray) ++ v34, (⟨#[68]⟩ : ByteArray), (⟨215, 0, 0, 0, gt ([16, 32, 64] : List Int) x16⟩ : Instr)⟩ : RForm), (⟨(⟨#[108, 101]⟩ : ByteArray) ++ v34, (⟨#[68]⟩ : ByteArray), (⟨212, 0, 0, 0, gt ([16, 32, 64] : List Int) x16⟩ : Instr)⟩ : RForm), (⟨(⟨#[98, 101]⟩ : ByteArray) ++ v34, (⟨#[68]⟩ : ByteArray), (⟨220, 0, 0, 0, gt ([16, 32, 64] : List Int) x16⟩ : Instr)⟩ : RForm)] : List RForm)) (IntKind.i64.wrap (x16 + 1))) else none) else none) else none) else none)) else none) else (some xs15)
def fn29_l1 : Nat → (List RForm) → Int → Option ((List RForm))
 | 0, _, _ => none
 | n28 + 1, xs15, x16 => fn29_b1 (fn29_l1 n28) xs15 x16
theorem fn29_l1_s (n28 : Nat) (xs15 : List RForm) (x16 : Int) : fn29_l1 (n28 + 1) xs15 x16 = fn29_b1 (fn29_l1 n28) xs15 x16 := rfl
def fn29_k1 (F : Nat) (xs25 : List RForm) : Option (((List RForm))) :=
 bif decide ((xs25.length + ([(⟨(⟨#[106, 97]⟩ : ByteArray), (⟨#[79]⟩ : ByteArray), (⟨5, 0, 0, 0, 0⟩ : Instr)⟩ : RForm), (⟨(⟨#[106, 97, 108]⟩ : ByteArray), (⟨#[73]⟩ : ByteArray), (⟨6, 0, 0, 0, 0⟩ : Instr)⟩ : RForm), (⟨(⟨#[99, 97, 108, 108]⟩ : ByteArray), (⟨#[73]⟩ : ByteArray), (⟨133, 0, 0, 0, 0⟩ : Instr)⟩ : RForm), (⟨(⟨#[101, 120, 105, 116]⟩ : ByteArray), (⟨#[]⟩ : ByteArray), (⟨149, 0, 0, 0, 0⟩ : Instr)⟩ : RForm)] : List RForm).length) * 48 ≤ 140737488355328 ∧ xs25.length + ([(⟨(⟨#[106, 97]⟩ : ByteArray), (⟨#[79]⟩ : ByteArray), (⟨5, 0, 0, 0, 0⟩ : Instr)⟩ : RForm), (⟨(⟨#[106, 97, 108]⟩ : ByteArray), (⟨#[73]⟩ : ByteArray), (⟨6, 0, 0, 0, 0⟩ : Instr)⟩ : RForm), (⟨(⟨#[99, 97, 108, 108]⟩ : ByteArray), (⟨#[73]⟩ : ByteArray), (⟨133, 0, 0, 0, 0⟩ : Instr)⟩ : RForm), (⟨(⟨#[101, 120, 105, 116]⟩ : ByteArray), (⟨#[]⟩ : ByteArray), (⟨149, 0, 0, 0, 0⟩ : Instr)⟩ : RForm)] : List RForm).length ≤ 9223372036854775807) then (Option.bind (fn29_l2 F (xs25 ++ ([(⟨(⟨#[106, 97]⟩ : ByteArray), (⟨#[79]⟩ : ByteArray), (⟨5, 0, 0, 0, 0⟩ : Instr)⟩ : RForm), (⟨(⟨#[106, 97, 108]⟩ : ByteArray), (⟨#[73]⟩ : ByteArray), (⟨6, 0, 0, 0, 0⟩ : Instr)⟩ : RForm), (⟨(⟨#[99, 97, 108, 108]⟩ : ByteArray), (⟨#[73]⟩ : ByteArray), (⟨133, 0, 0, 0, 0⟩ : Instr)⟩ : RForm), (⟨(⟨#[101, 120, 105, 116]⟩ : ByteArray), (⟨#[]⟩ : ByteArray), (⟨149, 0, 0, 0, 0⟩ : Instr)⟩ : RForm)] : List RForm)) 0) fun o54 => (fn29_k2 F o54)) else none
def fn29 (F : Nat) : Option ((List RForm)) :=
 Option.bind (fn62 F 7 (⟨#[]⟩ : ByteArray)) fun v1 => (Option.bind (fn62 F 4 (⟨#[119]⟩ : ByteArray)) fun v3 => (bif decide ((v1.length + v3.length) * 48 ≤ 140737488355328 ∧ v1.length + v3.length ≤ 9223372036854775807) then (bif decide (((v1 ++ v3).length + ([(⟨(⟨#[115, 120, 51, 50]⟩ : ByteArray), (⟨#[68, 83]⟩ : ByteArray), (⟨191, 0, 0, 32, 0⟩ : Instr)⟩ : RForm)] : List RForm).length) * 48 ≤ 140737488355328 ∧ (v1 ++ v3).length + ([(⟨(⟨#[115, 120, 51, 50]⟩ : ByteArray), (⟨#[68, 83]⟩ : ByteArray), (⟨191, 0, 0, 32, 0⟩ : Instr)⟩ : RForm)] : List RForm).length ≤ 9223372036854775807) then (Option.bind (fn29_l1 F ((v1 ++ v3) ++ ([(⟨(⟨#[115, 120, 51, 50]⟩ : ByteArray), (⟨#[68, 83]⟩ : ByteArray), (⟨191, 0, 0, 32, 0⟩ : Instr)⟩ : RForm)] : List RForm)) 0) fun o26 => (fn29_k1 F o26)) else none) else none))
theorem c29 (F : Nat) (r : (List RForm)) (h : fn29 F = some r) : Con Tryz.prog 29 [] [] 0 (.sl 0) [(0, .row RForm.E 113 r r.length .unk)] 1 := by
 rw [fn29] at h
 refine Con.of_body Tryz.func29 rfl Tryz.ntmps29 rfl fun w F0 ρ gl => ?_
 obtain ⟨v1, hv2, h⟩ := bd h
 refine RU tbOk false 999 2 [.cl true [] (fun _ => c62 F 7 (⟨#[]⟩ : ByteArray) _ hv2)] (aK aN) (by rfl) ?_
 obtain ⟨v3, hv4, h⟩ := bd h
 refine RU tbOk false 999 1 [.cl true [] (fun _ => c62 F 4 (⟨#[119]⟩ : ByteArray) _ hv4)] (aK aN) (by rfl) ?_
 obtain ⟨hk5, h⟩ := ck h
 obtain ⟨hk6, h⟩ := ck h
 refine RU tbOk false 999 11 [.ap RForm.E .unk _ _, .bs RForm.E ([(⟨(⟨#[115, 120, 51, 50]⟩ : ByteArray), (⟨#[68, 83]⟩ : ByteArray), (⟨191, 0, 0, 32, 0⟩ : Instr)⟩ : RForm)] : List RForm), .ap RForm.E .unk _ _, .bs (Et.int .i32) ([16, 32, 64] : List Int)] (aR (aR (aC hk5 (aC rfl (aR (aR (aR (aR (aC hk6 (aC rfl (aR (aR aN)))))))))))) (by rfl) ?_
 obtain ⟨o26, hl27, h⟩ := bd h
 refine CT 0 ⟨[(1, .sl 0)], [(0, .row RForm.E 113 o26 o26.length .unk)], 1⟩ ?_ ?_
 ·have h030 := h
  clear h
  refine G4.imp (Imp.to [4, 5] (by rfl) (by rfl) rfl rfl) (LP (fun (n : Nat) (s : (List RForm) × Int) => fn29_l1 n s.1 s.2) (fun (s : (List RForm) × Int) => ⟨[(1, .sl 0), (2, .sl 1), (3, .v (.int .i64 s.2))], [(0, .row RForm.E 113 s.1 s.1.length .unk), (1, .row (Et.int .i32) 21 ([16, 32, 64] : List Int) 3 .no)], 2⟩) (fun _ => rfl) (s0 := ((v1 ++ v3) ++ ([(⟨(⟨#[115, 120, 51, 50]⟩ : ByteArray), (⟨#[68, 83]⟩ : ByteArray), (⟨191, 0, 0, 32, 0⟩ : Instr)⟩ : RForm)] : List RForm), 0)) hl27 ?_)
  clear hl27
  rintro R31 n28 ⟨xs15, x16⟩ h ih29
  replace h := (fn29_l1_s n28 xs15 x16).symm.trans h
  rw [fn29_b1] at h
  refine RU tbOk false 999 2 [] aN (by rfl) ?_
  refine CD h (by rfl) (fun h hb32 => ?_) (fun h hb32 => ?_)
  ·obtain ⟨hk33, h⟩ := ck h
   obtain ⟨v34, hv35, h⟩ := bd h
   refine RU tbOk false 999 6 [.cl true [] (fun _ => c53 (IntKind.i64.wrap (gt ([16, 32, 64] : List Int) x16)) _ hv35)] (aC hk33 (aK aN)) (by rfl) ?_
   refine RU tbOk false 999 1 [] aN (by rfl) ?_
   obtain ⟨hk36, h⟩ := ck h
   obtain ⟨hk37, h⟩ := ck h
   obtain ⟨hk38, h⟩ := ck h
   obtain ⟨hk39, h⟩ := ck h
   refine DR tbOk hmix [1] [([], []), ([], []), ([], []), ([], []), ([], []), ([1], []), ([1], []), ([], []), ([], []), ([], []), ([], []), ([], []), ([], []), ([1], []), ([1], []), ([], []), ([], []), ([], []), ([], []), ([], []), ([], []), ([1], []), ([1], []), ([], []), ([], []), ([], []), ([0, 2], []), ([], [])] [.st, .st, .st, .bs RForm.E ([(⟨(⟨#[98, 115, 119, 97, 112]⟩ : ByteArray) ++ v34, (⟨#[68]⟩ : ByteArray), (⟨215, 0, 0, 0, gt ([16, 32, 64] : List Int) x16⟩ : Instr)⟩ : RForm), (⟨(⟨#[108, 101]⟩ : ByteArray) ++ v34, (⟨#[68]⟩ : ByteArray), (⟨212, 0, 0, 0, gt ([16, 32, 64] : List Int) x16⟩ : Instr)⟩ : RForm), (⟨(⟨#[98, 101]⟩ : ByteArray) ++ v34, (⟨#[68]⟩ : ByteArray), (⟨220, 0, 0, 0, gt ([16, 32, 64] : List Int) x16⟩ : Instr)⟩ : RForm)] : List RForm), .ap RForm.E .unk _ _] (aC hk36 (aR (aC hk33 (aR (aC hk37 (aR (aC hk33 (aR (aC hk38 (aR (aC hk33 (aR (aR (aR (aR (aR (aR (aC hk39 (aC rfl aN))))))))))))))))))) (by rfl) ?_
   refine RU tbOk false 999 3 [] aN (by rfl) ?_
   exact ih29 (xs15 ++ ([(⟨(⟨#[98, 115, 119, 97, 112]⟩ : ByteArray) ++ v34, (⟨#[68]⟩ : ByteArray), (⟨215, 0, 0, 0, gt ([16, 32, 64] : List Int) x16⟩ : Instr)⟩ : RForm), (⟨(⟨#[108, 101]⟩ : ByteArray) ++ v34, (⟨#[68]⟩ : ByteArray), (⟨212, 0, 0, 0, gt ([16, 32, 64] : List Int) x16⟩ : Instr)⟩ : RForm), (⟨(⟨#[98, 101]⟩ : ByteArray) ++ v34, (⟨#[68]⟩ : ByteArray), (⟨220, 0, 0, 0, gt ([16, 32, 64] : List Int) x16⟩ : Instr)⟩ : RForm)] : List RForm), IntKind.i64.wrap (x16 + 1)) h _ _ (Imp.to [3, 1] (by rfl) (by rfl) rfl rfl)
  ·refine RU tbOk false 999 0 [] aN (by rfl) ?_
   have ho := Option.some.inj h
   subst ho
   exact CE (Imp.to [0] (by rfl) (by rfl) rfl rfl)
 ·change fn29_k1 F o26 = _ at h
  rw [fn29_k1] at h
  obtain ⟨hk40, h⟩ := ck h
  refine RU tbOk false 999 13 [.bs RForm.E ([(⟨(⟨#[106, 97]⟩ : ByteArray), (⟨#[79]⟩ : ByteArray), (⟨5, 0, 0, 0, 0⟩ : Instr)⟩ : RForm), (⟨(⟨#[106, 97, 108]⟩ : ByteArray), (⟨#[73]⟩ : ByteArray), (⟨6, 0, 0, 0, 0⟩ : Instr)⟩ : RForm), (⟨(⟨#[99, 97, 108, 108]⟩ : ByteArray), (⟨#[73]⟩ : ByteArray), (⟨133, 0, 0, 0, 0⟩ : Instr)⟩ : RForm), (⟨(⟨#[101, 120, 105, 116]⟩ : ByteArray), (⟨#[]⟩ : ByteArray), (⟨149, 0, 0, 0, 0⟩ : Instr)⟩ : RForm)] : List RForm), .ap RForm.E .unk _ _, .cl true [] (fun _ => c63 _ rfl)] (aR (aR (aR (aR (aC hk40 (aC rfl (aK aN))))))) (by rfl) ?_
  refine RU tbOk false 999 2 [] aN (by rfl) ?_
  obtain ⟨o54, hl55, h⟩ := bd h
  refine CT 2 ⟨[(1, .sl 0)], [(0, .row RForm.E 113 o54 o54.length .unk)], 1⟩ ?_ ?_
  ·have h058 := h
   clear h
   refine G4.imp (Imp.to [2, 3] (by rfl) (by rfl) rfl rfl) (LP (fun (n : Nat) (s : (List RForm) × Int) => fn29_l2 n s.1 s.2) (fun (s : (List RForm) × Int) => ⟨[(1, .sl 0), (5, .sl 1), (6, .v (.int .i64 s.2))], [(0, .row RForm.E 113 s.1 s.1.length .unk), (1, .row RRow.E 117 (fn63) ((fn63).length) .unk)], 2⟩) (fun _ => rfl) (s0 := (o26 ++ ([(⟨(⟨#[106, 97]⟩ : ByteArray), (⟨#[79]⟩ : ByteArray), (⟨5, 0, 0, 0, 0⟩ : Instr)⟩ : RForm), (⟨(⟨#[106, 97, 108]⟩ : ByteArray), (⟨#[73]⟩ : ByteArray), (⟨6, 0, 0, 0, 0⟩ : Instr)⟩ : RForm), (⟨(⟨#[99, 97, 108, 108]⟩ : ByteArray), (⟨#[73]⟩ : ByteArray), (⟨133, 0, 0, 0, 0⟩ : Instr)⟩ : RForm), (⟨(⟨#[101, 120, 105, 116]⟩ : ByteArray), (⟨#[]⟩ : ByteArray), (⟨149, 0, 0, 0, 0⟩ : Instr)⟩ : RForm)] : List RForm), 0)) hl55 ?_)
   clear hl55
   rintro R59 n56 ⟨xs46, x47⟩ h ih57
   replace h := (fn29_l2_s n56 xs46 x47).symm.trans h
   rw [fn29_b2] at h
   refine RU tbOk false 999 4 [] aN (by rfl) ?_
   refine CD h (by rfl) (fun h hb60 => ?_) (fun h hb60 => ?_)
   ·refine RU tbOk false 999 0 [] aN (by rfl) ?_
    obtain ⟨hk61, h⟩ := ck h
    obtain ⟨hk62, h⟩ := ck h
    refine DR tbOk hmix [1] [([], []), ([], []), ([], []), ([1], []), ([], []), ([1], []), ([], []), ([], []), ([1], []), ([], []), ([1], []), ([], []), ([], []), ([], []), ([], []), ([], []), ([1], []), ([], []), ([1], []), ([], []), ([], []), ([1], []), ([], []), ([1], []), ([], []), ([], []), ([], []), ([], []), ([], []), ([0, 2], []), ([], [])] [.bs RForm.E ([(⟨(gt (fn63) x47).fname, (⟨#[68, 73, 79]⟩ : ByteArray), (⟨ior .u8 5 ((gt (fn63) x47).fop), 0, 0, 0, 0⟩ : Instr)⟩ : RForm), (⟨(gt (fn63) x47).fname, (⟨#[68, 83, 79]⟩ : ByteArray), (⟨ior .u8 (ior .u8 5 ((gt (fn63) x47).fop)) 8, 0, 0, 0, 0⟩ : Instr)⟩ : RForm)] : List RForm), .ap RForm.E .unk _ _] (aR (aC hk61 (aR (aR (aC hk61 (aR (aR (aC hk61 (aR (aR (aC hk61 (aR (aR (aR (aR (aR (aR (aC hk62 (aC rfl aN))))))))))))))))))) (by rfl) ?_
    refine RU tbOk false 999 0 [] aN (by rfl) ?_
    obtain ⟨hk63, h⟩ := ck h
    obtain ⟨hk64, h⟩ := ck h
    refine DR tbOk hmix [1] [([], []), ([], []), ([], []), ([1], []), ([], []), ([1], []), ([], []), ([], []), ([], []), ([1], []), ([], []), ([1], []), ([], []), ([], []), ([], []), ([], []), ([], []), ([1], []), ([], []), ([1], []), ([], []), ([], []), ([], []), ([1], []), ([], []), ([1], []), ([], []), ([], []), ([], []), ([], []), ([], []), ([3, 4], []), ([], [])] [.st, .st, .bs RForm.E ([(⟨((gt (fn63) x47).fname) ++ (⟨#[119]⟩ : ByteArray), (⟨#[68, 73, 79]⟩ : ByteArray), (⟨ior .u8 6 ((gt (fn63) x47).fop), 0, 0, 0, 0⟩ : Instr)⟩ : RForm), (⟨((gt (fn63) x47).fname) ++ (⟨#[119]⟩ : ByteArray), (⟨#[68, 83, 79]⟩ : ByteArray), (⟨ior .u8 (ior .u8 6 ((gt (fn63) x47).fop)) 8, 0, 0, 0, 0⟩ : Instr)⟩ : RForm)] : List RForm), .ap RForm.E .unk _ _] (aR (aC hk61 (aR (aC hk63 (aR (aC hk61 (aR (aR (aC hk61 (aR (aC hk63 (aR (aC hk61 (aR (aR (aR (aR (aR (aR (aC hk64 (aC rfl aN))))))))))))))))))))) (by rfl) ?_
    refine RU tbOk false 999 3 [] aN (by rfl) ?_
    exact ih57 ((xs46 ++ ([(⟨(gt (fn63) x47).fname, (⟨#[68, 73, 79]⟩ : ByteArray), (⟨ior .u8 5 ((gt (fn63) x47).fop), 0, 0, 0, 0⟩ : Instr)⟩ : RForm), (⟨(gt (fn63) x47).fname, (⟨#[68, 83, 79]⟩ : ByteArray), (⟨ior .u8 (ior .u8 5 ((gt (fn63) x47).fop)) 8, 0, 0, 0, 0⟩ : Instr)⟩ : RForm)] : List RForm)) ++ ([(⟨((gt (fn63) x47).fname) ++ (⟨#[119]⟩ : ByteArray), (⟨#[68, 73, 79]⟩ : ByteArray), (⟨ior .u8 6 ((gt (fn63) x47).fop), 0, 0, 0, 0⟩ : Instr)⟩ : RForm), (⟨((gt (fn63) x47).fname) ++ (⟨#[119]⟩ : ByteArray), (⟨#[68, 83, 79]⟩ : ByteArray), (⟨ior .u8 (ior .u8 6 ((gt (fn63) x47).fop)) 8, 0, 0, 0, 0⟩ : Instr)⟩ : RForm)] : List RForm), IntKind.i64.wrap (x47 + 1)) h _ _ (Imp.to [5, 1] (by rfl) (by rfl) rfl rfl)
   ·refine RU tbOk false 999 0 [] aN (by rfl) ?_
    have ho := Option.some.inj h
    subst ho
    exact CE (Imp.to [0] (by rfl) (by rfl) rfl rfl)
  ·change fn29_k2 F o54 = _ at h
   rw [fn29_k2] at h
   refine RU tbOk false 999 1 [.cl true [] (fun _ => c64 _ rfl)] (aK aN) (by rfl) ?_
   refine RU tbOk false 999 2 [] aN (by rfl) ?_
   obtain ⟨o86, hl87, h⟩ := bd h
   refine CT 4 ⟨[(1, .sl 0)], [(0, .row RForm.E 113 o86 o86.length .unk)], 1⟩ ?_ ?_
   ·have h090 := h
    clear h
    refine G4.imp (Imp.to [0, 1] (by rfl) (by rfl) rfl rfl) (LP (fun (n : Nat) (s : (List RForm) × Int) => fn29_l3 n s.1 s.2) (fun (s : (List RForm) × Int) => ⟨[(1, .sl 0), (7, .sl 1), (8, .v (.int .i64 s.2))], [(0, .row RForm.E 113 s.1 s.1.length .unk), (1, .row RRow.E 117 (fn64) ((fn64).length) .unk)], 2⟩) (fun _ => rfl) (s0 := (o54, 0)) hl87 ?_)
    clear hl87
    rintro R91 n88 ⟨xs74, x75⟩ h ih89
    replace h := (fn29_l3_s n88 xs74 x75).symm.trans h
    rw [fn29_b3] at h
    refine RU tbOk false 999 2 [] aN (by rfl) ?_
    refine CD h (by rfl) (fun h hb92 => ?_) (fun h hb92 => ?_)
    ·refine RU tbOk false 999 0 [] aN (by rfl) ?_
     obtain ⟨hk93, h⟩ := ck h
     obtain ⟨hk94, h⟩ := ck h
     obtain ⟨hk95, h⟩ := ck h
     obtain ⟨hk96, h⟩ := ck h
     obtain ⟨hk97, h⟩ := ck h
     refine DR tbOk hmix [1] [([], []), ([], []), ([], []), ([1], []), ([], []), ([1], []), ([], []), ([], []), ([], []), ([1], []), ([], []), ([1], []), ([], []), ([], []), ([], []), ([], []), ([], []), ([1], []), ([], []), ([1], []), ([], []), ([], []), ([], []), ([1], []), ([], []), ([1], []), ([], []), ([], []), ([], []), ([], []), ([], []), ([1], []), ([], []), ([1], []), ([], []), ([], []), ([], []), ([1], []), ([], []), ([1], []), ([], []), ([], []), ([], []), ([], []), ([0, 2], []), ([], [])] [.st, .st, .st, .bs RForm.E ([(⟨(⟨#[108, 100, 120]⟩ : ByteArray) ++ ((gt (fn64) x75).fname), (⟨#[68, 83, 79]⟩ : ByteArray), (⟨ior .u8 97 ((gt (fn64) x75).fop), 0, 0, 0, 0⟩ : Instr)⟩ : RForm), (⟨(⟨#[115, 116]⟩ : ByteArray) ++ ((gt (fn64) x75).fname), (⟨#[68, 79, 73]⟩ : ByteArray), (⟨ior .u8 98 ((gt (fn64) x75).fop), 0, 0, 0, 0⟩ : Instr)⟩ : RForm), (⟨(⟨#[115, 116, 120]⟩ : ByteArray) ++ ((gt (fn64) x75).fname), (⟨#[68, 79, 83]⟩ : ByteArray), (⟨ior .u8 99 ((gt (fn64) x75).fop), 0, 0, 0, 0⟩ : Instr)⟩ : RForm)] : List RForm), .ap RForm.E .unk _ _] (aR (aC hk93 (aR (aC hk94 (aR (aC hk93 (aR (aR (aC hk93 (aR (aC hk95 (aR (aC hk93 (aR (aR (aC hk93 (aR (aC hk96 (aR (aC hk93 (aR (aR (aR (aR (aR (aR (aC hk97 (aC rfl aN)))))))))))))))))))))))))))) (by rfl) ?_
     refine RU tbOk false 999 2 [] aN (by rfl) ?_
     refine CD h (by rfl) (fun h hb98 => ?_) (fun h hb98 => ?_)
     ·refine RU tbOk false 999 0 [] aN (by rfl) ?_
      obtain ⟨hk99, h⟩ := ck h
      obtain ⟨hk100, h⟩ := ck h
      refine DR tbOk hmix [1] [([], []), ([], []), ([], []), ([1], []), ([], []), ([1], []), ([], []), ([], []), ([], []), ([1], []), ([], []), ([1], []), ([], []), ([], []), ([], []), ([], []), ([3, 4], []), ([], [])] [.st, .bs RForm.E ([(⟨(⟨#[108, 100, 120, 115]⟩ : ByteArray) ++ ((gt (fn64) x75).fname), (⟨#[68, 83, 79]⟩ : ByteArray), (⟨ior .u8 129 ((gt (fn64) x75).fop), 0, 0, 0, 0⟩ : Instr)⟩ : RForm)] : List RForm), .ap RForm.E .unk _ _] (aR (aC hk93 (aR (aC hk99 (aR (aC hk93 (aR (aR (aR (aR (aR (aR (aC hk100 (aC rfl aN)))))))))))))) (by rfl) ?_
      refine RU tbOk false 999 3 [] aN (by rfl) ?_
      exact ih89 ((xs74 ++ ([(⟨(⟨#[108, 100, 120]⟩ : ByteArray) ++ ((gt (fn64) x75).fname), (⟨#[68, 83, 79]⟩ : ByteArray), (⟨ior .u8 97 ((gt (fn64) x75).fop), 0, 0, 0, 0⟩ : Instr)⟩ : RForm), (⟨(⟨#[115, 116]⟩ : ByteArray) ++ ((gt (fn64) x75).fname), (⟨#[68, 79, 73]⟩ : ByteArray), (⟨ior .u8 98 ((gt (fn64) x75).fop), 0, 0, 0, 0⟩ : Instr)⟩ : RForm), (⟨(⟨#[115, 116, 120]⟩ : ByteArray) ++ ((gt (fn64) x75).fname), (⟨#[68, 79, 83]⟩ : ByteArray), (⟨ior .u8 99 ((gt (fn64) x75).fop), 0, 0, 0, 0⟩ : Instr)⟩ : RForm)] : List RForm)) ++ ([(⟨(⟨#[108, 100, 120, 115]⟩ : ByteArray) ++ ((gt (fn64) x75).fname), (⟨#[68, 83, 79]⟩ : ByteArray), (⟨ior .u8 129 ((gt (fn64) x75).fop), 0, 0, 0, 0⟩ : Instr)⟩ : RForm)] : List RForm), IntKind.i64.wrap (x75 + 1)) h _ _ (Imp.to [5, 1] (by rfl) (by rfl) rfl rfl)
     ·refine RU tbOk false 999 3 [] aN (by rfl) ?_
      exact ih89 (xs74 ++ ([(⟨(⟨#[108, 100, 120]⟩ : ByteArray) ++ ((gt (fn64) x75).fname), (⟨#[68, 83, 79]⟩ : ByteArray), (⟨ior .u8 97 ((gt (fn64) x75).fop), 0, 0, 0, 0⟩ : Instr)⟩ : RForm), (⟨(⟨#[115, 116]⟩ : ByteArray) ++ ((gt (fn64) x75).fname), (⟨#[68, 79, 73]⟩ : ByteArray), (⟨ior .u8 98 ((gt (fn64) x75).fop), 0, 0, 0, 0⟩ : Instr)⟩ : RForm), (⟨(⟨#[115, 116, 120]⟩ : ByteArray) ++ ((gt (fn64) x75).fname), (⟨#[68, 79, 83]⟩ : ByteArray), (⟨ior .u8 99 ((gt (fn64) x75).fop), 0, 0, 0, 0⟩ : Instr)⟩ : RForm)] : List RForm), IntKind.i64.wrap (x75 + 1)) h _ _ (Imp.to [3, 1] (by rfl) (by rfl) rfl rfl)
    ·refine RU tbOk false 999 0 [] aN (by rfl) ?_
     have ho := Option.some.inj h
     subst ho
     exact CE (Imp.to [0] (by rfl) (by rfl) rfl rfl)
   ·change fn29_k3 o86 = _ at h
    rw [fn29_k3] at h
    refine RU tbOk false 999 2 [] aN (by rfl) ?_
    have hr := Option.some.inj h
    subst hr
    exact RT tbOk.t Tryz.results29 [0] (by rfl) (by rfl) (by rfl) rfl rfl
def fn65 (p0 : Int) : Option (ByteArray) :=
 Option.bind (fn53 (IntKind.i64.wrap p0)) fun v1 => (bif decide ((⟨#[32, 114]⟩ : ByteArray).size + v1.size ≤ 9223372036854775807) then (some ((⟨#[32, 114]⟩ : ByteArray) ++ v1)) else none)
theorem c65 (p0 : Int) (r : ByteArray) (h : fn65 p0 = some r) : Con Tryz.prog 65 [.v (.int .u8 p0)] [] 0 (.v (.string r)) [] 0 := by
 rw [fn65] at h
 refine Con.of_body Tryz.func65 rfl Tryz.ntmps65 rfl fun w F0 ρ gl => ?_
 obtain ⟨v1, hv2, h⟩ := bd h
 refine RU tbOk false 999 4 [.cl true [] (fun _ => c53 (IntKind.i64.wrap p0) _ hv2)] (aK aN) (by rfl) ?_
 obtain ⟨hk3, h⟩ := ck h
 refine RU tbOk false 999 2 [.st] (aC hk3 aN) (by rfl) ?_
 have hr := Option.some.inj h
 subst hr
 exact RT tbOk.t Tryz.results65 [] (by rfl) (by rfl) (by rfl) rfl rfl
def fn66 (p0 : Int) : Option (ByteArray) :=
 Option.bind (fn100 p0 10) fun v1 => (bif decide ((⟨#[32]⟩ : ByteArray).size + v1.size ≤ 9223372036854775807) then (some ((⟨#[32]⟩ : ByteArray) ++ v1)) else none)
theorem c66 (p0 : Int) (r : ByteArray) (h : fn66 p0 = some r) : Con Tryz.prog 66 [.v (.int .i64 p0)] [] 0 (.v (.string r)) [] 0 := by
 rw [fn66] at h
 refine Con.of_body Tryz.func66 rfl Tryz.ntmps66 rfl fun w F0 ρ gl => ?_
 obtain ⟨v1, hv2, h⟩ := bd h
 refine RU tbOk false 999 3 [.cl true [] (fun _ => c100 p0 10 _ hv2)] (aK aN) (by rfl) ?_
 obtain ⟨hk3, h⟩ := ck h
 refine RU tbOk false 999 2 [.st] (aC hk3 aN) (by rfl) ?_
 have hr := Option.some.inj h
 subst hr
 exact RT tbOk.t Tryz.results66 [] (by rfl) (by rfl) (by rfl) rfl rfl
def fn30 (p0 : Instr) (p1 : Instr) : Option (ByteArray) :=
 bif (!((p0.fOp == 24) && ((p0.fDst == p0.fDst) && ((p0.fSrc == p0.fSrc) && ((p0.fOff == 0) && ((p0.fImm == p0.fImm) && true)))))) || (!((p1.fOp == 0) && ((p1.fDst == 0) && ((p1.fSrc == 0) && ((p1.fOff == 0) && ((p1.fImm == p1.fImm) && true)))))) then (some ((⟨#[]⟩ : ByteArray))) else (bif p0.fSrc == 0 then (Option.bind (fn65 p0.fDst) fun v3 => (bif decide ((⟨#[108, 100, 100, 119]⟩ : ByteArray).size + v3.size ≤ 9223372036854775807) then (Option.bind (fn66 (IntKind.i64.wrap (ior .u64 (IntKind.u64.wrap (IntKind.u32.wrap p0.fImm)) (ishl .u64 (IntKind.u64.wrap (IntKind.u32.wrap p1.fImm)) 32)))) fun v6 => (bif decide (((⟨#[108, 100, 100, 119]⟩ : ByteArray) ++ v3).size + v6.size ≤ 9223372036854775807) then (some (((⟨#[108, 100, 100, 119]⟩ : ByteArray) ++ v3) ++ v6)) else none)) else none)) else (bif (p0.fSrc == 1) && (p1.fImm == 0) then (Option.bind (fn65 p0.fDst) fun v10 => (bif decide ((⟨#[108, 100, 109, 97, 112]⟩ : ByteArray).size + v10.size ≤ 9223372036854775807) then (Option.bind (fn66 (IntKind.i64.wrap p0.fImm)) fun v13 => (bif decide (((⟨#[108, 100, 109, 97, 112]⟩ : ByteArray) ++ v10).size + v13.size ≤ 9223372036854775807) then (some (((⟨#[108, 100, 109, 97, 112]⟩ : ByteArray) ++ v10) ++ v13)) else none)) else none)) else (some ((⟨#[]⟩ : ByteArray)))))
theorem c30 (p0 : Instr) (p1 : Instr) (r : ByteArray) (h : fn30 p0 p1 = some r) : Con Tryz.prog 30 [.ag [.v (.int .u8 p0.fOp), .v (.int .u8 p0.fDst), .v (.int .u8 p0.fSrc), .v (.int .i16 p0.fOff), .v (.int .i32 p0.fImm)], .ag [.v (.int .u8 p1.fOp), .v (.int .u8 p1.fDst), .v (.int .u8 p1.fSrc), .v (.int .i16 p1.fOff), .v (.int .i32 p1.fImm)]] [] 0 (.v (.string r)) [] 0 := by
 rw [fn30] at h
 refine Con.of_body Tryz.func30 rfl Tryz.ntmps30 rfl fun w F0 ρ gl => ?_
 refine RU tbOk false 999 22 [] aN (by rfl) ?_
 refine CD h (by rfl) (fun h hb1 => ?_) (fun h hb1 => ?_)
 ·refine RU tbOk false 999 1 [] aN (by rfl) ?_
  have hr := Option.some.inj h
  subst hr
  exact RT tbOk.t Tryz.results30 [] (by rfl) (by rfl) (by rfl) rfl rfl
 ·refine RU tbOk false 999 3 [] aN (by rfl) ?_
  refine CD h (by rfl) (fun h hb2 => ?_) (fun h hb2 => ?_)
  ·refine RU tbOk false 999 0 [] aN (by rfl) ?_
   obtain ⟨v3, hv4, h⟩ := bd h
   obtain ⟨hk5, h⟩ := ck h
   obtain ⟨v6, hv7, h⟩ := bd h
   obtain ⟨hk8, h⟩ := ck h
   refine DR tbOk hmix [4] [([], []), ([0], []), ([], []), ([], []), ([], []), ([0], []), ([], []), ([], []), ([], []), ([1], []), ([], []), ([], []), ([], []), ([], []), ([], []), ([], []), ([], []), ([], [])] [.cl true [] (fun _ => c65 p0.fDst _ hv4), .st, .cl true [] (fun _ => c66 (IntKind.i64.wrap (ior .u64 (IntKind.u64.wrap (IntKind.u32.wrap p0.fImm)) (ishl .u64 (IntKind.u64.wrap (IntKind.u32.wrap p1.fImm)) 32))) _ hv7), .st] (aR (aK (aC hk5 (aR (aR (aC rfl (aK (aC hk8 aN)))))))) (by rfl) ?_
   refine RU tbOk false 999 0 [] aN (by rfl) ?_
   have hr := Option.some.inj h
   subst hr
   exact RT tbOk.t Tryz.results30 [] (by rfl) (by rfl) (by rfl) rfl rfl
  ·refine RU tbOk false 999 8 [] aN (by rfl) ?_
   refine CD h (by rfl) (fun h hb9 => ?_) (fun h hb9 => ?_)
   ·refine RU tbOk false 999 0 [] aN (by rfl) ?_
    obtain ⟨v10, hv11, h⟩ := bd h
    obtain ⟨hk12, h⟩ := ck h
    obtain ⟨v13, hv14, h⟩ := bd h
    obtain ⟨hk15, h⟩ := ck h
    refine DR tbOk hmix [4] [([], []), ([0], []), ([], []), ([], []), ([], []), ([0], []), ([], []), ([], []), ([], []), ([], [])] [.cl true [] (fun _ => c65 p0.fDst _ hv11), .st, .cl true [] (fun _ => c66 (IntKind.i64.wrap p0.fImm) _ hv14), .st] (aR (aK (aC hk12 (aR (aK (aC hk15 aN)))))) (by rfl) ?_
    refine RU tbOk false 999 0 [] aN (by rfl) ?_
    have hr := Option.some.inj h
    subst hr
    exact RT tbOk.t Tryz.results30 [] (by rfl) (by rfl) (by rfl) rfl rfl
   ·refine RU tbOk false 999 1 [] aN (by rfl) ?_
    have hr := Option.some.inj h
    subst hr
    exact RT tbOk.t Tryz.results30 [] (by rfl) (by rfl) (by rfl) rfl rfl
def fn67_b1 (p0 : RForm) (rl1 : Int → Int → Int → Int → Int → Option (Int × Int × Int × Int)) (x6 : Int) (x7 : Int) (x8 : Int) (x9 : Int) (x10 : Int) : Option (Int × Int × Int × Int) :=
 bif decide (x10 < (p0.fwords.size : Int)) then (bif inb x10 p0.fwords.size then (bif (bget p0.fwords x10) == 68 then (rl1 0 x7 x8 x9 (IntKind.i64.wrap (x10 + 1))) else (bif (bget p0.fwords x10) == 83 then (rl1 x6 0 x8 x9 (IntKind.i64.wrap (x10 + 1))) else (bif (bget p0.fwords x10) == 73 then (rl1 x6 x7 x8 0 (IntKind.i64.wrap (x10 + 1))) else (rl1 x6 x7 0 x9 (IntKind.i64.wrap (x10 + 1)))))) else none) else (some (x6, x7, x8, x9))
def fn67_l1 (p0 : RForm) : Nat → Int → Int → Int → Int → Int → Option (Int × Int × Int × Int)
 | 0, _, _, _, _, _ => none
 | n22 + 1, x6, x7, x8, x9, x10 => fn67_b1 p0 (fn67_l1 p0 n22) x6 x7 x8 x9 x10
theorem fn67_l1_s (p0 : RForm) (n22 : Nat) (x6 : Int) (x7 : Int) (x8 : Int) (x9 : Int) (x10 : Int) : fn67_l1 p0 (n22 + 1) x6 x7 x8 x9 x10 = fn67_b1 p0 (fn67_l1 p0 n22) x6 x7 x8 x9 x10 := rfl
def fn67_k1 (p0 : RForm) (p1 : Instr) (x16 : Int) (x17 : Int) (x18 : Int) (x19 : Int) : Option (Bool) :=
 some ((p1.fOp == p0.fslot.fOp) && ((x16 == p0.fslot.fDst) && ((x17 == p0.fslot.fSrc) && ((x18 == p0.fslot.fOff) && ((x19 == p0.fslot.fImm) && true)))))
def fn67 (F : Nat) (p0 : RForm) (p1 : Instr) : Option (Bool) :=
 Option.bind (fn67_l1 p0 F p1.fDst p1.fSrc p1.fOff p1.fImm 0) fun o20 => (fn67_k1 p0 p1 o20.1 o20.2.1 o20.2.2.1 o20.2.2.2)
theorem c67 (F : Nat) (p0 : RForm) (p1 : Instr) (r : Bool) (h : fn67 F p0 p1 = some r) : Con Tryz.prog 67 [.ag [.v (.string p0.fname), .v (.string p0.fwords), .v (.int .u8 p0.fslot.fOp), .v (.int .u8 p0.fslot.fDst), .v (.int .u8 p0.fslot.fSrc), .v (.int .i16 p0.fslot.fOff), .v (.int .i32 p0.fslot.fImm)], .ag [.v (.int .u8 p1.fOp), .v (.int .u8 p1.fDst), .v (.int .u8 p1.fSrc), .v (.int .i16 p1.fOff), .v (.int .i32 p1.fImm)]] [] 0 (.v (.bool r)) [] 0 := by
 rw [fn67] at h
 refine Con.of_body Tryz.func67 rfl Tryz.ntmps67 rfl fun w F0 ρ gl => ?_
 refine RU tbOk false 999 4 [] aN (by rfl) ?_
 obtain ⟨o20, hl21, h⟩ := bd h
 refine CT 0 ⟨[(2, .p 0 0), (3, .p 1 0)], [(0, .cells 113 [.v (.string p0.fname), .v (.string p0.fwords), .v (.int .u8 p0.fslot.fOp), .v (.int .u8 p0.fslot.fDst), .v (.int .u8 p0.fslot.fSrc), .v (.int .i16 p0.fslot.fOff), .v (.int .i32 p0.fslot.fImm)]), (1, .cells 32 [.v (.int .u8 p1.fOp), .v (.int .u8 o20.1), .v (.int .u8 o20.2.1), .v (.int .i16 o20.2.2.1), .v (.int .i32 o20.2.2.2)])], 2⟩ ?_ ?_
 ·have h024 := h
  clear h
  refine G4.imp (Imp.to [0, 1] (by rfl) (by rfl) rfl rfl) (LP (fun (n : Nat) (s : Int × Int × Int × Int × Int) => fn67_l1 p0 n s.1 s.2.1 s.2.2.1 s.2.2.2.1 s.2.2.2.2) (fun (s : Int × Int × Int × Int × Int) => ⟨[(2, .p 0 0), (3, .p 1 0), (5, .v (.int .i64 s.2.2.2.2))], [(0, .cells 113 [.v (.string p0.fname), .v (.string p0.fwords), .v (.int .u8 p0.fslot.fOp), .v (.int .u8 p0.fslot.fDst), .v (.int .u8 p0.fslot.fSrc), .v (.int .i16 p0.fslot.fOff), .v (.int .i32 p0.fslot.fImm)]), (1, .cells 32 [.v (.int .u8 p1.fOp), .v (.int .u8 s.1), .v (.int .u8 s.2.1), .v (.int .i16 s.2.2.1), .v (.int .i32 s.2.2.2.1)])], 2⟩) (fun _ => rfl) (s0 := (p1.fDst, p1.fSrc, p1.fOff, p1.fImm, 0)) hl21 ?_)
  clear hl21
  rintro R25 n22 ⟨x6, x7, x8, x9, x10⟩ h ih23
  replace h := (fn67_l1_s p0 n22 x6 x7 x8 x9 x10).symm.trans h
  rw [fn67_b1] at h
  refine RU tbOk false 999 5 [] aN (by rfl) ?_
  refine CD h (by rfl) (fun h hb26 => ?_) (fun h hb26 => ?_)
  ·obtain ⟨hk27, h⟩ := ck h
   refine RU tbOk false 999 6 [] (aC hk27 aN) (by rfl) ?_
   refine CD h (by rfl) (fun h hb28 => ?_) (fun h hb28 => ?_)
   ·refine RU tbOk false 999 5 [] aN (by rfl) ?_
    exact ih23 (0, x7, x8, x9, IntKind.i64.wrap (x10 + 1)) h _ _ (Imp.to [0, 1] (by rfl) (by rfl) rfl rfl)
   ·refine RU tbOk false 999 2 [] aN (by rfl) ?_
    refine CD h (by rfl) (fun h hb29 => ?_) (fun h hb29 => ?_)
    ·refine RU tbOk false 999 5 [] aN (by rfl) ?_
     exact ih23 (x6, 0, x8, x9, IntKind.i64.wrap (x10 + 1)) h _ _ (Imp.to [0, 1] (by rfl) (by rfl) rfl rfl)
    ·refine RU tbOk false 999 2 [] aN (by rfl) ?_
     refine CD h (by rfl) (fun h hb30 => ?_) (fun h hb30 => ?_)
     ·refine RU tbOk false 999 5 [] aN (by rfl) ?_
      exact ih23 (x6, x7, x8, 0, IntKind.i64.wrap (x10 + 1)) h _ _ (Imp.to [0, 1] (by rfl) (by rfl) rfl rfl)
     ·refine RU tbOk false 999 5 [] aN (by rfl) ?_
      exact ih23 (x6, x7, 0, x9, IntKind.i64.wrap (x10 + 1)) h _ _ (Imp.to [0, 1] (by rfl) (by rfl) rfl rfl)
  ·refine RU tbOk false 999 0 [] aN (by rfl) ?_
   have ho := Option.some.inj h
   subst ho
   exact CE (Imp.to [0, 1] (by rfl) (by rfl) rfl rfl)
 ·change fn67_k1 p0 p1 o20.1 o20.2.1 o20.2.2.1 o20.2.2.2 = _ at h
  rw [fn67_k1] at h
  refine RU tbOk false 999 5 [] aN (by rfl) ?_
  have hr := Option.some.inj h
  subst hr
  exact RT tbOk.t Tryz.results67 [] (by rfl) (by rfl) (by rfl) rfl rfl
def fn68_b1 (p0 : RForm) (p1 : Instr) (rl1 : ByteArray → Int → Option (ByteArray)) (x18 : ByteArray) (x19 : Int) : Option (ByteArray) :=
 bif decide (x19 < (p0.fwords.size : Int)) then (bif inb x19 p0.fwords.size then (bif (bget p0.fwords x19) == 68 then (Option.bind (fn65 p1.fDst) fun v47 => (bif decide (x18.size + v47.size ≤ 9223372036854775807) then (rl1 (x18 ++ v47) (IntKind.i64.wrap (x19 + 1))) else none)) else (bif (bget p0.fwords x19) == 83 then (Option.bind (fn65 p1.fSrc) fun v51 => (bif decide (x18.size + v51.size ≤ 9223372036854775807) then (rl1 (x18 ++ v51) (IntKind.i64.wrap (x19 + 1))) else none)) else (bif (bget p0.fwords x19) == 73 then (Option.bind (fn66 (IntKind.i64.wrap p1.fImm)) fun v55 => (bif decide (x18.size + v55.size ≤ 9223372036854775807) then (rl1 (x18 ++ v55) (IntKind.i64.wrap (x19 + 1))) else none)) else (Option.bind (fn66 (IntKind.i64.wrap p1.fOff)) fun v58 => (bif decide (x18.size + v58.size ≤ 9223372036854775807) then (rl1 (x18 ++ v58) (IntKind.i64.wrap (x19 + 1))) else none))))) else none) else (some x18)
def fn68_l1 (p0 : RForm) (p1 : Instr) : Nat → ByteArray → Int → Option (ByteArray)
 | 0, _, _ => none
 | n40 + 1, x18, x19 => fn68_b1 p0 p1 (fn68_l1 p0 p1 n40) x18 x19
theorem fn68_l1_s (p0 : RForm) (p1 : Instr) (n40 : Nat) (x18 : ByteArray) (x19 : Int) : fn68_l1 p0 p1 (n40 + 1) x18 x19 = fn68_b1 p0 p1 (fn68_l1 p0 p1 n40) x18 x19 := rfl
def fn68_k1 (x37 : ByteArray) : Option (ByteArray) :=
 some (x37)
def fn68 (F : Nat) (p0 : RForm) (p1 : Instr) : Option (ByteArray) :=
 Option.bind (fn68_l1 p0 p1 F p0.fname 0) fun o38 => (fn68_k1 o38)
end Go.Proofs.YtfjefnnbodgfbaaGreatDoor
