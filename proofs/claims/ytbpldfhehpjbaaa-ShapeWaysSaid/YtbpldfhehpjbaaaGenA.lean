/- Each Go function of this part computes the plain function beside it (walks, written by program). -/
import Derived.Test.YtbpldfhehpjbaaaProg
import Derived.Test.YtbpldfhehpjbaaaHwLaw
import Derived.KernelRfl
import Derived.Test.YtbpldfhehpjbaaaKyLay
import Derived.Test.YtbpldfhehpjbaaaKySort
namespace Go.Proofs.Ytbpldfhehpjbaaa
open Go Go.HW Go.MapKept
set_option maxRecDepth 4000
set_option linter.unusedVariables false
theorem hmix : Try.prog.follows .mixedOrders = true := by kernel_rfl
structure Instr where
  fOp : Int
  fDst : Int
  fSrc : Int
  fOff : Int
  fImm : Int
  deriving DecidableEq, Inhabited
def Instr.enc (x : Instr) : List Value := [.int .u8 x.fOp, .int .u8 x.fDst, .int .u8 x.fSrc, .int .i16 x.fOff, .int .i32 x.fImm]
def Instr.E : En Instr := ⟨Instr.enc, 5, fun _ => rfl, fun _ => rfl, by decide⟩
structure Slot where
  fInstr : Instr
  fclass : Int
  fop : Int
  freg : Bool
  deriving DecidableEq, Inhabited
def Slot.enc (x : Slot) : List Value := [.int .u8 x.fInstr.fOp, .int .u8 x.fInstr.fDst, .int .u8 x.fInstr.fSrc, .int .i16 x.fInstr.fOff, .int .i32 x.fInstr.fImm, .int .u8 x.fclass, .int .u8 x.fop, .bool x.freg]
def Slot.E : En Slot := ⟨Slot.enc, 8, fun _ => rfl, fun _ => rfl, by decide⟩
/-- hatchway/shape.of -/
def fn60 (p0 : Instr) : Slot :=
  (⟨p0, iand .u8 p0.fOp 7, iand .u8 p0.fOp 240, (iand .u8 p0.fOp 8) != 0⟩ : Slot)
def ret60 (r : Slot) : Value := .agg #[.int .u8 r.fInstr.fOp, .int .u8 r.fInstr.fDst, .int .u8 r.fInstr.fSrc, .int .i16 r.fInstr.fOff, .int .i32 r.fInstr.fImm, .int .u8 r.fclass, .int .u8 r.fop, .bool r.freg]
theorem c60 (p0 : Instr) (w : World) (r : Slot)  (h : fn60 p0 = r) : Ret Try.prog 60 [.agg #[.int .u8 p0.fOp, .int .u8 p0.fDst, .int .u8 p0.fSrc, .int .i16 p0.fOff, .int .i32 p0.fImm]] w ⟨[], []⟩ (fun v R => v = ret60 r ∧ R = ⟨[], []⟩) := by
 unfold fn60 at h
 exact Ret.of_body Try.func60 rfl Try.ntmps60 rfl (fun _ hx => absurd hx List.not_mem_nil) List.nodup_nil (TC.seq (TC.region (TO.u rfl rfl (TX.box rfl rfl rfl (fun b1 => (TO.u rfl rfl (TX.alloc Try.zeroValue58 rfl rfl (fun b2 => (TO.nil (TE.thenN rfl rfl (TC.seq (TC.region (TO.u rfl rfl (TX.loadN (i := 1) Try.isAgg27 Try.sizeOf27 rfl rfl rfl rfl (TO.u rfl rfl (TX.fieldAddr' Try.runUnderlying27 rfl Try.sizeOf5 rfl rfl rfl (TO.u rfl rfl (TX.load1 (i := 1) Try.isAgg5 rfl rfl rfl rfl (TO.u rfl rfl (TX.ibin rfl rfl rfl rfl (TO.u rfl rfl (TX.fieldAddr' Try.runUnderlying27 rfl Try.sizeOf5 rfl rfl rfl (TO.u rfl rfl (TX.load1 (i := 1) Try.isAgg5 rfl rfl rfl rfl (TO.u rfl rfl (TX.ibin rfl rfl rfl rfl (TO.u rfl rfl (TX.fieldAddr' Try.runUnderlying27 rfl Try.sizeOf5 rfl rfl rfl (TO.u rfl rfl (TX.load1 (i := 1) Try.isAgg5 rfl rfl rfl rfl (TO.u rfl rfl (TX.ibin rfl rfl rfl rfl (TO.u rfl rfl (TX.ibin rfl rfl rfl rfl (TO.u rfl rfl (TX.build Try.zeroValue58 rfl Try.runUnderlying58 (.cons Try.sizeOf27 (.cons Try.sizeOf5 (.cons Try.sizeOf5 (.cons Try.sizeOf4 .nil)))) rfl rfl rfl (TO.u rfl rfl (TX.store (i := 0) Try.sizeOf58 rfl rfl rfl rfl rfl rfl rfl rfl (TO.nil (TE.thenN rfl rfl (TC.ret (TE.fin (R := ⟨[], []⟩) (TL.ret (R' := ⟨[], []⟩) Try.results60 (.cons (.cellN (i := 0) Try.isAgg58 Try.sizeOf58 rfl rfl rfl) .nil) (subD 2 0 rfl rfl) ⟨congrArg ret60 h, rfl⟩)))))))))))))))))))))))))))))))))))))))))))
def fn59_l1 {σ : Type} (step : σ → (Int × Slot) → Option σ) (go : σ → Bool) (q0 : List Instr) : Nat → σ → Int → Option ((σ) ⊕ (σ))
  | 0, _, _ => none
  | n35 + 1, x24, x27 => (bif decide (x27 < (q0.length : Int)) then (bif inb x27 q0.length then (bindP (fn60 (gt q0 x27)) fun v40 => (Option.bind (step x24 (x27, v40)) fun u42 => (bif !(go u42) then (some (.inr u42)) else (bif v40.fInstr.fOp == 24 then ((fn59_l1 step go q0 n35) u42 (IntKind.i64.wrap ((IntKind.i64.wrap (x27 + 1)) + 1))) else ((fn59_l1 step go q0 n35) u42 (IntKind.i64.wrap (x27 + 1))))))) else none) else (some (.inl x24)))
theorem fn59_l1_s {σ : Type} (step : σ → (Int × Slot) → Option σ) (go : σ → Bool) (q0 : List Instr) (n35 : Nat) (x24 : σ) (x27 : Int) : fn59_l1 step go q0 (n35 + 1) x24 x27 = (bif decide (x27 < (q0.length : Int)) then (bif inb x27 q0.length then (bindP (fn60 (gt q0 x27)) fun v40 => (Option.bind (step x24 (x27, v40)) fun u42 => (bif !(go u42) then (some (.inr u42)) else (bif v40.fInstr.fOp == 24 then ((fn59_l1 step go q0 n35) u42 (IntKind.i64.wrap ((IntKind.i64.wrap (x27 + 1)) + 1))) else ((fn59_l1 step go q0 n35) u42 (IntKind.i64.wrap (x27 + 1))))))) else none) else (some (.inl x24))) := rfl
def fn59_k1 {σ : Type} (x29 : σ) : Option (σ) :=
  (some x29)
theorem fn59_k1_s {σ : Type} (x29 : σ) : fn59_k1 x29 = (some x29) := rfl
/-- hatchway/shape.firsts$1 -/
def fn59 {σ : Type} (F : Nat) (step : σ → (Int × Slot) → Option σ) (go : σ → Bool) (q0 : List Instr) (s0 : σ) : Option (σ) :=
  (Option.bind (fn59_l1 step go q0 F s0 0) fun o32 => (match o32 with | .inl u => fn59_k1 u | .inr u => some u))
theorem c59 {σ : Type} (F : Nat) (step : σ → (Int × Slot) → Option σ) (go : σ → Bool) (I : σ → Blocks → Prop) (yv : Value) (s0 : σ) (Hs0 : Blocks) (b_q0 : Nat) (sp_q0 : Option Addr) (n_q0 cap_q0 : Nat) (q0 : List Instr) (w : World) (r : σ) (qnq0 : q0.length = n_q0) (qcq0 : q0.length ≤ cap_q0) (qpq0 : RdF Instr.E w ((⟨[(b_q0, .cells #[.slice sp_q0 n_q0 cap_q0] 24)], [Hs0]⟩ : Hp).all.map (·.1)) sp_q0 q0) (hat : HpOk w ⟨[(b_q0, .cells #[.slice sp_q0 n_q0 cap_q0] 24)], [Hs0]⟩) (hy : Yld Try.prog w ((⟨[(b_q0, .cells #[.slice sp_q0 n_q0 cap_q0] 24)], [Hs0]⟩ : Hp).all.map (·.1)) yv I (fun x => [.int .i64 x.1, .agg #[.int .u8 x.2.fInstr.fOp, .int .u8 x.2.fInstr.fDst, .int .u8 x.2.fInstr.fSrc, .int .i16 x.2.fInstr.fOff, .int .i32 x.2.fInstr.fImm, .int .u8 x.2.fclass, .int .u8 x.2.fop, .bool x.2.freg]]) step go) (hI : I s0 Hs0) (h : fn59 F step go q0 s0 = some r) : Ret Try.prog 59 [yv, .pointer (some ⟨b_q0, 0, none⟩)] w ⟨[(b_q0, .cells #[.slice sp_q0 n_q0 cap_q0] 24)], [Hs0]⟩ (fun v R => ∃ Hs1, I r Hs1 ∧ R = ⟨[(b_q0, .cells #[.slice sp_q0 n_q0 cap_q0] 24)], [Hs1]⟩) := by
 unfold fn59 at h
 refine Ret.of_body Try.func59 rfl Try.ntmps59 rfl hat.1 hat.2 (TC.seq (TC.region (TO.u rfl rfl (TX.assign rfl rfl (TO.nil (TE.thenN rfl rfl (TC.block ?_)))))))
 obtain ⟨o32, hl33, h⟩ := bd h
 refine TC.to (L' := [(0, yv), (1, .pointer (some ⟨b_q0, 0, none⟩)), (3, .int .i64 0)]) (E' := [(b_q0, .cells #[.slice sp_q0 n_q0 cap_q0] 24)]) (S' := [Hs0]) 0 0 ⟨rfl, rfl, rfl, trivial⟩ rfl rfl (TC.cutE 0 (fun L' H' => ∃ x29 : σ, .inl x29 = o32 ∧ ∃ Hs30, I x29 Hs30 ∧ L' = [] ∧ H' = ⟨[(b_q0, .cells #[.slice sp_q0 n_q0 cap_q0] 24)], [Hs30]⟩) ?_ ?_)
 · have h037 := h
   clear h
   refine TC.loop (fun (n : Nat) (s : σ × Int) => fn59_l1 step go q0 n s.1 s.2) o32 (fun _ => rfl) (fun (s : σ × Int) L' H' => match s with | (x24, x27) => ∃ Hs25, I x24 Hs25 ∧ L' = [(0, yv), (1, .pointer (some ⟨b_q0, 0, none⟩)), (3, .int .i64 x27)] ∧ H' = ⟨[(b_q0, .cells #[.slice sp_q0 n_q0 cap_q0] 24)], [Hs25]⟩) ?_ F (s0, 0) ⟨Hs0, hI, rfl, rfl⟩ hl33
   clear hl33
   rintro K34 n35 ⟨x24, x27⟩ _ _ ⟨Hs25, ho26, rfl, rfl⟩ h ih36
   replace h := (fn59_l1_s step go q0 n35 x24 x27).symm.trans h
   refine TC.seq (TC.seq (TC.region (TO.u rfl rfl (TX.move rfl rfl (TO.u rfl rfl (TX.load1 (i := 0) Try.isAgg24 rfl rfl rfl rfl (TO.u rfl rfl (TX.lenS (xs := q0) Try.runUnderlying24 rfl qnq0 rfl (TO.u rfl rfl (TX.ibin rfl rfl rfl rfl (TO.nil (TE.thenN rfl rfl (TC.cond rfl (fun hb38 => ?_) (fun hb38 => ?_))))))))))))))
   · replace h := it h hb38
     refine TC.skip (TE.thenN rfl rfl (TC.seq (TC.block (TC.seq (TC.region (TO.u rfl rfl (TX.load1 (i := 0) Try.isAgg24 rfl rfl rfl rfl (TO.u rfl rfl (TX.move rfl rfl ?_)))))))))
     obtain ⟨hk39, h⟩ := ck h
     refine TO.u rfl rfl (TX.indexR (N := Instr.E) Try.runUnderlying24 Try.sizeOf27 rfl qnq0 rfl (fun a w s => qpq0 w s.ext) hk39 rfl (TO.u rfl rfl (TX.loadRN (N := Instr.E) Try.isAgg27 Try.sizeOf27 rfl (fun a w s => qpq0 w s.ext) hk39 rfl rfl ?_)))
     obtain ⟨v40, hv40, h⟩ := bp h
     refine TO.u rfl rfl (TX.callP Try.call60 rfl (fun a w s => c60 (gt q0 x27) _ _  hv40) rfl (TO.u rfl rfl (TX.alloc Try.zeroValue58 rfl rfl (fun b41 => (TO.u rfl rfl (TX.store (i := 0) Try.sizeOf58 rfl rfl rfl rfl rfl rfl rfl rfl (TO.nil (TE.thenN rfl rfl (TC.seq (TC.seq (TC.region (TO.u rfl rfl (TX.move rfl rfl (TO.u rfl rfl (TX.move rfl rfl (TO.u rfl rfl (TX.loadN (i := 0) Try.isAgg58 Try.sizeOf58 rfl rfl rfl rfl ?_)))))))))))))))))
     obtain ⟨u42, hu42, h⟩ := bd h
     refine TO.u rfl rfl (TX.yield (x := (x27, v40)) 0 hy rfl rfl rfl rfl hu42 ho26 rfl (fun Hs43 hI44 => (TO.reH ⟨[(b41, .cells #[.int .u8 v40.fInstr.fOp, .int .u8 v40.fInstr.fDst, .int .u8 v40.fInstr.fSrc, .int .i16 v40.fInstr.fOff, .int .i32 v40.fInstr.fImm, .int .u8 v40.fclass, .int .u8 v40.fop, .bool v40.freg] 58), (b_q0, .cells #[.slice sp_q0 n_q0 cap_q0] 24)], [Hs43]⟩ rfl (TO.u rfl rfl (TX.not rfl rfl (TO.nil (TE.thenN rfl rfl (TC.cond rfl (fun hb45 => ?_) (fun hb45 => ?_)))))))))
     · replace h := it h hb45
       refine TC.ret (TE.thenR (TE.blockR (TE.thenR (TE.loopR (TE.cutR ?_)))))
       have ho := Option.some.inj h
       subst ho
       replace h := h037
       refine TE.blockR ?_
       have hr := (Option.some.inj h)
       subst hr
       exact TE.fin (R := ⟨[(b_q0, .cells #[.slice sp_q0 n_q0 cap_q0] 24)], [Hs0]⟩) (TL.ret (R' := ⟨[(b_q0, .cells #[.slice sp_q0 n_q0 cap_q0] 24)], [Hs43]⟩) Try.results59 .nil (subD 1 0 rfl rfl) ⟨Hs43, hI44, rfl⟩)
     replace h := ie h hb45
     refine TC.skip (TE.thenN rfl rfl (TC.seq (TC.region (TO.u rfl rfl (TX.fieldAddr' Try.runUnderlying58 rfl Try.sizeOf27 rfl rfl rfl (TO.u rfl rfl (TX.fieldAddr' Try.runUnderlying27 rfl Try.sizeOf5 rfl rfl rfl (TO.u rfl rfl (TX.load1 (i := 0) Try.isAgg5 rfl rfl rfl rfl (TO.u rfl rfl (TX.ibin rfl rfl rfl rfl (TO.nil (TE.thenN rfl rfl (TC.cond rfl (fun hb46 => ?_) (fun hb46 => ?_)))))))))))))))
     · replace h := it h hb46
       exact TC.region (TO.u rfl rfl (TX.move rfl rfl (TO.u rfl rfl (TX.ibin rfl rfl rfl rfl (TO.u rfl rfl (TX.assign rfl rfl (TO.nil (TE.blockN (TE.thenN rfl rfl (TC.region (TO.u rfl rfl (TX.move rfl rfl (TO.u rfl rfl (TX.ibin rfl rfl rfl rfl (TO.u rfl rfl (TX.assign rfl rfl (TO.nil (TE.to (L' := [(0, yv), (1, .pointer (some ⟨b_q0, 0, none⟩)), (3, .int .i64 (IntKind.i64.wrap ((IntKind.i64.wrap (x27 + 1)) + 1)))]) (E' := [(b_q0, .cells #[.slice sp_q0 n_q0 cap_q0] 24)]) (S' := [Hs43]) 1 0 ⟨rfl, rfl, rfl, trivial⟩ rfl rfl (ih36 (u42, IntKind.i64.wrap ((IntKind.i64.wrap (x27 + 1)) + 1)) _ _ ⟨Hs43, hI44, rfl, rfl⟩ h)))))))))))))))))))
     replace h := ie h hb46
     exact TC.skip (TE.blockN (TE.thenN rfl rfl (TC.region (TO.u rfl rfl (TX.move rfl rfl (TO.u rfl rfl (TX.ibin rfl rfl rfl rfl (TO.u rfl rfl (TX.assign rfl rfl (TO.nil (TE.to (L' := [(0, yv), (1, .pointer (some ⟨b_q0, 0, none⟩)), (3, .int .i64 (IntKind.i64.wrap (x27 + 1)))]) (E' := [(b_q0, .cells #[.slice sp_q0 n_q0 cap_q0] 24)]) (S' := [Hs43]) 1 0 ⟨rfl, rfl, rfl, trivial⟩ rfl rfl (ih36 (u42, IntKind.i64.wrap (x27 + 1)) _ _ ⟨Hs43, hI44, rfl, rfl⟩ h))))))))))))
   replace h := ie h hb38
   exact TC.exit (TE.thenX (TE.loopX (TE.to (L' := []) (E' := [(b_q0, .cells #[.slice sp_q0 n_q0 cap_q0] 24)]) (S' := [Hs25]) 0 0 trivial rfl rfl (TE.cutE ⟨x24, Option.some.inj h, Hs25, ho26, rfl, rfl⟩))))
 rintro _ _ ⟨x29, rfl, Hs30, ho31, rfl, rfl⟩
 replace h := (fn59_k1_s x29).symm.trans h
 refine TE.blockH ?_
 have hr := (Option.some.inj h)
 subst hr
 exact TE.finN (R := ⟨[(b_q0, .cells #[.slice sp_q0 n_q0 cap_q0] 24)], [Hs0]⟩) (TL.ret (R' := ⟨[(b_q0, .cells #[.slice sp_q0 n_q0 cap_q0] 24)], [Hs30]⟩) Try.results59 .nil (subD 0 0 rfl rfl) ⟨Hs30, ho31, rfl⟩)
/-- hatchway/shape.firsts -/
theorem c34 (sp_0 : Option Addr) (n_0 cap_0 : Nat) (p0 : List Instr) (w : World) : Ret Try.prog 34 [.slice sp_0 n_0 cap_0] w ⟨[], []⟩ (fun v R => ∃ c_0 : Nat, v = .func (.func 59) #[] #[.pointer (some ⟨c_0, 0, none⟩)] ∧ R = ⟨[(c_0, .cells #[.slice sp_0 n_0 cap_0] 24)], []⟩) := by
 exact Ret.of_body Try.func34 rfl Try.ntmps34 rfl (fun _ hx => absurd hx List.not_mem_nil) List.nodup_nil (TC.seq (TC.region (TO.u rfl rfl (TX.box rfl rfl rfl (fun b1 => (TO.u rfl rfl (TX.assign rfl rfl (TO.nil (TE.thenN rfl rfl (TC.seq (TC.region (TO.u rfl rfl (TX.mkfunc rfl rfl rfl (TO.u rfl rfl (TX.assign rfl rfl (TO.nil (TE.thenN rfl rfl (TC.ret (TE.fin (R := ⟨[], []⟩) (TL.ret (R' := ⟨[(b1, .cells #[.slice sp_0 n_0 cap_0] 24)], []⟩) Try.results34 (.cons (.tmp rfl) .nil) (List.Sublist.refl _) ⟨b1, rfl, rfl⟩))))))))))))))))))))
/-- (hatchway/shape.slot).memory -/
def fn61 (p0 : Slot) (p1 : Bool) : Bool :=
  (((iand .u8 p0.fInstr.fOp 224) == 96) || (p1 && (((iand .u8 p0.fInstr.fOp 224) == 128) && ((iand .u8 p0.fInstr.fOp 24) != 24))))
def ret61 (r : Bool) : Value := .bool r
theorem c61 (p0 : Slot) (p1 : Bool) (w : World) (r : Bool)  (h : fn61 p0 p1 = r) : Ret Try.prog 61 [.agg #[.int .u8 p0.fInstr.fOp, .int .u8 p0.fInstr.fDst, .int .u8 p0.fInstr.fSrc, .int .i16 p0.fInstr.fOff, .int .i32 p0.fInstr.fImm, .int .u8 p0.fclass, .int .u8 p0.fop, .bool p0.freg], .bool p1] w ⟨[], []⟩ (fun v R => v = ret61 r ∧ R = ⟨[], []⟩) := by
 unfold fn61 at h
 refine Ret.of_body Try.func61 rfl Try.ntmps61 rfl (fun _ hx => absurd hx List.not_mem_nil) List.nodup_nil (TC.seq (TC.region (TO.u rfl rfl (TX.box rfl rfl rfl (fun b1 => (TO.u rfl rfl (TX.assign rfl rfl (TO.nil (TE.thenN rfl rfl (TC.seq (TC.region (TO.u rfl rfl (TX.fieldAddr' Try.runUnderlying58 rfl Try.sizeOf27 rfl rfl rfl (TO.u rfl rfl (TX.fieldAddr' Try.runUnderlying27 rfl Try.sizeOf5 rfl rfl rfl (TO.u rfl rfl (TX.load1 (i := 0) Try.isAgg5 rfl rfl rfl rfl (TO.u rfl rfl (TX.ibin rfl rfl rfl rfl (TO.u rfl rfl (TX.assign rfl rfl (TO.nil (TE.thenN rfl rfl (TC.seq (TC.region (TO.u rfl rfl (TX.move rfl rfl (TO.u rfl rfl (TX.ibin rfl rfl rfl rfl (TO.u rfl rfl (TX.move rfl rfl (TO.cutS 13 [(25, .bool (((iand .u8 p0.fInstr.fOp 224) == 96) || (p1 && (((iand .u8 p0.fInstr.fOp 224) == 128) && ((iand .u8 p0.fInstr.fOp 24) != 24)))))] ?_ ?_))))))))))))))))))))))))))))))))
 · cases hc2 : ((iand .u8 p0.fInstr.fOp 224) == 96)
   · refine TO.g rfl rfl rfl rfl (TX.move rfl rfl (TO.g rfl rfl rfl rfl (TX.move rfl rfl ?_)))
     cases hc3 : (p1)
     · exact TO.s rfl rfl rfl rfl rfl rfl (TO.s rfl rfl rfl rfl rfl rfl (TO.g rfl rfl rfl rfl (TX.pickF rfl rfl rfl (TO.g rfl rfl rfl rfl (TX.move rfl rfl (TO.s rfl rfl rfl rfl rfl rfl (TO.s rfl rfl rfl rfl rfl rfl (TO.s rfl rfl rfl rfl rfl rfl (TO.s rfl rfl rfl rfl rfl rfl (TO.s rfl rfl rfl rfl rfl rfl (TO.g rfl rfl rfl rfl (TX.pickF rfl rfl rfl (TO.u rfl rfl (TX.pickF rfl rfl rfl (TO.nil (TE.cutS 13 rfl rfl ⟨rfl, trivial⟩))))))))))))))))
     refine TO.g rfl rfl rfl rfl (TX.move rfl rfl (TO.g rfl rfl rfl rfl (TX.ibin rfl rfl rfl rfl (TO.g rfl rfl rfl rfl (TX.pickT rfl rfl rfl (TO.g rfl rfl rfl rfl (TX.move rfl rfl ?_)))))))
     cases hc4 : ((iand .u8 p0.fInstr.fOp 224) == 128)
     · exact TO.s rfl rfl rfl rfl rfl rfl (TO.s rfl rfl rfl rfl rfl rfl (TO.s rfl rfl rfl rfl rfl rfl (TO.s rfl rfl rfl rfl rfl rfl (TO.s rfl rfl rfl rfl rfl rfl (TO.g rfl rfl rfl rfl (TX.pickF rfl rfl rfl (TO.u rfl rfl (TX.pickF rfl rfl rfl (TO.nil (TE.cutS 13 rfl rfl ⟨rfl, trivial⟩))))))))))
     exact TO.g rfl rfl rfl rfl (TX.fieldAddr' Try.runUnderlying58 rfl Try.sizeOf27 rfl rfl rfl (TO.g rfl rfl rfl rfl (TX.fieldAddr' Try.runUnderlying27 rfl Try.sizeOf5 rfl rfl rfl (TO.g rfl rfl rfl rfl (TX.load1 (i := 0) Try.isAgg5 rfl rfl rfl rfl (TO.g rfl rfl rfl rfl (TX.ibin rfl rfl rfl rfl (TO.g rfl rfl rfl rfl (TX.ibin rfl rfl rfl rfl (TO.g rfl rfl rfl rfl (TX.pickT rfl rfl rfl (TO.u rfl rfl (TX.pickF rfl rfl rfl (TO.nil (TE.cutS 13 rfl rfl ⟨rfl, trivial⟩)))))))))))))))
   exact TO.s rfl rfl rfl rfl rfl rfl (TO.s rfl rfl rfl rfl rfl rfl (TO.su rfl rfl rfl rfl rfl (TO.su rfl rfl rfl rfl rfl (TO.s rfl rfl rfl rfl rfl rfl (TO.s rfl rfl rfl rfl rfl rfl (TO.su rfl rfl rfl rfl rfl (TO.su rfl rfl rfl rfl rfl (TO.su rfl rfl rfl rfl rfl (TO.su rfl rfl rfl rfl rfl (TO.su rfl rfl rfl rfl rfl (TO.s rfl rfl rfl rfl rfl rfl (TO.u rfl rfl (TX.pickT rfl rfl rfl (TO.nil (TE.cutS 13 rfl rfl ⟨rfl, trivial⟩)))))))))))))))
 exact TO.u rfl rfl (TX.assign rfl rfl (TO.nil (TE.thenN rfl rfl (TC.ret (TE.fin (R := ⟨[], []⟩) (TL.ret (R' := ⟨[], []⟩) Try.results61 (.cons (.tmp rfl) .nil) (subD 1 0 rfl rfl) ⟨congrArg ret61 h, rfl⟩))))))
/-- (hatchway/shape.slot).condition -/
def fn62 (p0 : Slot) : Bool :=
  (((decide ((16 : Int) ≤ p0.fop)) && (decide (p0.fop ≤ 112))) || ((decide ((160 : Int) ≤ p0.fop)) && (decide (p0.fop ≤ 208))))
def ret62 (r : Bool) : Value := .bool r
theorem c62 (p0 : Slot) (w : World) (r : Bool)  (h : fn62 p0 = r) : Ret Try.prog 62 [.agg #[.int .u8 p0.fInstr.fOp, .int .u8 p0.fInstr.fDst, .int .u8 p0.fInstr.fSrc, .int .i16 p0.fInstr.fOff, .int .i32 p0.fInstr.fImm, .int .u8 p0.fclass, .int .u8 p0.fop, .bool p0.freg]] w ⟨[], []⟩ (fun v R => v = ret62 r ∧ R = ⟨[], []⟩) := by
 unfold fn62 at h
 refine Ret.of_body Try.func62 rfl Try.ntmps62 rfl (fun _ hx => absurd hx List.not_mem_nil) List.nodup_nil (TC.seq (TC.region (TO.u rfl rfl (TX.box rfl rfl rfl (fun b1 => (TO.u rfl rfl (TX.assign rfl rfl (TO.nil (TE.thenN rfl rfl (TC.seq (TC.region (TO.u rfl rfl (TX.fieldAddr' Try.runUnderlying58 rfl Try.sizeOf5 rfl rfl rfl (TO.u rfl rfl (TX.load1 (i := 0) Try.isAgg5 rfl rfl rfl rfl (TO.u rfl rfl (TX.ibin rfl rfl rfl rfl (TO.u rfl rfl (TX.move rfl rfl (TO.cutS 4 [(10, .bool ((decide ((16 : Int) ≤ p0.fop)) && (decide (p0.fop ≤ 112))))] ?_ ?_))))))))))))))))))))
 · cases hc2 : (decide ((16 : Int) ≤ p0.fop))
   · exact TO.s rfl rfl rfl rfl rfl rfl (TO.s rfl rfl rfl rfl rfl rfl (TO.s rfl rfl rfl rfl rfl rfl (TO.u rfl rfl (TX.pickF rfl rfl rfl (TO.nil (TE.cutS 4 rfl rfl ⟨rfl, trivial⟩))))))
   exact TO.g rfl rfl rfl rfl (TX.fieldAddr' Try.runUnderlying58 rfl Try.sizeOf5 rfl rfl rfl (TO.g rfl rfl rfl rfl (TX.load1 (i := 0) Try.isAgg5 rfl rfl rfl rfl (TO.g rfl rfl rfl rfl (TX.ibin rfl rfl rfl rfl (TO.u rfl rfl (TX.pickT rfl rfl rfl (TO.nil (TE.cutS 4 rfl rfl ⟨rfl, trivial⟩)))))))))
 refine TO.u rfl rfl (TX.move rfl rfl (TO.cutS 9 [(20, .bool (((decide ((16 : Int) ≤ p0.fop)) && (decide (p0.fop ≤ 112))) || ((decide ((160 : Int) ≤ p0.fop)) && (decide (p0.fop ≤ 208)))))] ?_ ?_))
 · cases hc3 : ((decide ((16 : Int) ≤ p0.fop)) && (decide (p0.fop ≤ 112)))
   · refine TO.g rfl rfl rfl rfl (TX.fieldAddr' Try.runUnderlying58 rfl Try.sizeOf5 rfl rfl rfl (TO.g rfl rfl rfl rfl (TX.load1 (i := 0) Try.isAgg5 rfl rfl rfl rfl (TO.g rfl rfl rfl rfl (TX.ibin rfl rfl rfl rfl (TO.g rfl rfl rfl rfl (TX.move rfl rfl ?_)))))))
     cases hc4 : (decide ((160 : Int) ≤ p0.fop))
     · exact TO.s rfl rfl rfl rfl rfl rfl (TO.s rfl rfl rfl rfl rfl rfl (TO.s rfl rfl rfl rfl rfl rfl (TO.g rfl rfl rfl rfl (TX.pickF rfl rfl rfl (TO.u rfl rfl (TX.pickF rfl rfl rfl (TO.nil (TE.cutS 9 rfl rfl ⟨rfl, trivial⟩))))))))
     exact TO.g rfl rfl rfl rfl (TX.fieldAddr' Try.runUnderlying58 rfl Try.sizeOf5 rfl rfl rfl (TO.g rfl rfl rfl rfl (TX.load1 (i := 0) Try.isAgg5 rfl rfl rfl rfl (TO.g rfl rfl rfl rfl (TX.ibin rfl rfl rfl rfl (TO.g rfl rfl rfl rfl (TX.pickT rfl rfl rfl (TO.u rfl rfl (TX.pickF rfl rfl rfl (TO.nil (TE.cutS 9 rfl rfl ⟨rfl, trivial⟩)))))))))))
   exact TO.s rfl rfl rfl rfl rfl rfl (TO.s rfl rfl rfl rfl rfl rfl (TO.s rfl rfl rfl rfl rfl rfl (TO.s rfl rfl rfl rfl rfl rfl (TO.su rfl rfl rfl rfl rfl (TO.su rfl rfl rfl rfl rfl (TO.su rfl rfl rfl rfl rfl (TO.s rfl rfl rfl rfl rfl rfl (TO.u rfl rfl (TX.pickT rfl rfl rfl (TO.nil (TE.cutS 9 rfl rfl ⟨rfl, trivial⟩)))))))))))
 exact TO.u rfl rfl (TX.assign rfl rfl (TO.nil (TE.thenN rfl rfl (TC.ret (TE.fin (R := ⟨[], []⟩) (TL.ret (R' := ⟨[], []⟩) Try.results62 (.cons (.tmp rfl) .nil) (subD 1 0 rfl rfl) ⟨congrArg ret62 h, rfl⟩))))))
/-- (hatchway/shape.slot).known -/
def fn35 (p0 : Slot) : Bool :=
  (bif p0.fclass == 0 then (p0.fInstr.fOp == 24) else (bif p0.fclass == 1 then (bindP (fn61 p0 true) fun v8 => v8) else (bif p0.fclass == 2 then (bindP (fn61 p0 false) fun v10 => v10) else (bif p0.fclass == 3 then (bindP (fn61 p0 false) fun v12 => v12) else (bif p0.fclass == 5 then (bindP (fn62 p0) fun v14 => (v14 || ((!p0.freg) && ((p0.fop == 0) || ((p0.fclass == 5) && ((p0.fop == 128) || (p0.fop == 144))))))) else (bif p0.fclass == 6 then (bindP (fn62 p0) fun v17 => (v17 || ((!p0.freg) && ((p0.fop == 0) || ((p0.fclass == 5) && ((p0.fop == 128) || (p0.fop == 144))))))) else (bif p0.fop == 128 then (!p0.freg) else (bif p0.fop == 208 then ((!p0.freg) || (p0.fclass == 4)) else (decide (p0.fop < 208))))))))))
def ret35 (r : Bool) : Value := .bool r
theorem c35 (p0 : Slot) (w : World) (r : Bool)  (h : fn35 p0 = r) : Ret Try.prog 35 [.agg #[.int .u8 p0.fInstr.fOp, .int .u8 p0.fInstr.fDst, .int .u8 p0.fInstr.fSrc, .int .i16 p0.fInstr.fOff, .int .i32 p0.fInstr.fImm, .int .u8 p0.fclass, .int .u8 p0.fop, .bool p0.freg]] w ⟨[], []⟩ (fun v R => v = ret35 r ∧ R = ⟨[], []⟩) := by
 unfold fn35 at h
 refine Ret.of_body Try.func35 rfl Try.ntmps35 rfl (fun _ hx => absurd hx List.not_mem_nil) List.nodup_nil (TC.seq (TC.region (TO.u rfl rfl (TX.box rfl rfl rfl (fun b1 => (TO.u rfl rfl (TX.assign rfl rfl (TO.nil (TE.thenN rfl rfl (TC.seq (TC.region (TO.u rfl rfl (TX.fieldAddr' Try.runUnderlying58 rfl Try.sizeOf4 rfl rfl rfl (TO.u rfl rfl (TX.load1 (i := 0) Try.isAgg4 rfl rfl rfl rfl (TO.u rfl rfl (TX.not rfl rfl (TO.u rfl rfl (TX.move rfl rfl (TO.cutS 19 [(26, .bool ((!p0.freg) && ((p0.fop == 0) || ((p0.fclass == 5) && ((p0.fop == 128) || (p0.fop == 144))))))] ?_ ?_))))))))))))))))))))
 · cases hc2 : (!p0.freg)
   · exact TO.s rfl rfl rfl rfl rfl rfl (TO.s rfl rfl rfl rfl rfl rfl (TO.s rfl rfl rfl rfl rfl rfl (TO.s rfl rfl rfl rfl rfl rfl (TO.su rfl rfl rfl rfl rfl (TO.su rfl rfl rfl rfl rfl (TO.su rfl rfl rfl rfl rfl (TO.su rfl rfl rfl rfl rfl (TO.su rfl rfl rfl rfl rfl (TO.su rfl rfl rfl rfl rfl (TO.su rfl rfl rfl rfl rfl (TO.su rfl rfl rfl rfl rfl (TO.su rfl rfl rfl rfl rfl (TO.su rfl rfl rfl rfl rfl (TO.su rfl rfl rfl rfl rfl (TO.su rfl rfl rfl rfl rfl (TO.su rfl rfl rfl rfl rfl (TO.s rfl rfl rfl rfl rfl rfl (TO.u rfl rfl (TX.pickF rfl rfl rfl (TO.nil (TE.cutS 19 rfl rfl ⟨rfl, trivial⟩)))))))))))))))))))))
   refine TO.g rfl rfl rfl rfl (TX.fieldAddr' Try.runUnderlying58 rfl Try.sizeOf5 rfl rfl rfl (TO.g rfl rfl rfl rfl (TX.load1 (i := 0) Try.isAgg5 rfl rfl rfl rfl (TO.g rfl rfl rfl rfl (TX.ibin rfl rfl rfl rfl (TO.g rfl rfl rfl rfl (TX.move rfl rfl ?_)))))))
   cases hc3 : (p0.fop == 0)
   · refine TO.g rfl rfl rfl rfl (TX.fieldAddr' Try.runUnderlying58 rfl Try.sizeOf5 rfl rfl rfl (TO.g rfl rfl rfl rfl (TX.load1 (i := 0) Try.isAgg5 rfl rfl rfl rfl (TO.g rfl rfl rfl rfl (TX.ibin rfl rfl rfl rfl (TO.g rfl rfl rfl rfl (TX.move rfl rfl ?_)))))))
     cases hc4 : (p0.fclass == 5)
     · exact TO.s rfl rfl rfl rfl rfl rfl (TO.s rfl rfl rfl rfl rfl rfl (TO.s rfl rfl rfl rfl rfl rfl (TO.s rfl rfl rfl rfl rfl rfl (TO.su rfl rfl rfl rfl rfl (TO.su rfl rfl rfl rfl rfl (TO.su rfl rfl rfl rfl rfl (TO.s rfl rfl rfl rfl rfl rfl (TO.g rfl rfl rfl rfl (TX.pickF rfl rfl rfl (TO.g rfl rfl rfl rfl (TX.pickF rfl rfl rfl (TO.u rfl rfl (TX.pickT rfl rfl rfl (TO.nil (TE.cutS 19 rfl rfl ⟨rfl, trivial⟩)))))))))))))))
     refine TO.g rfl rfl rfl rfl (TX.fieldAddr' Try.runUnderlying58 rfl Try.sizeOf5 rfl rfl rfl (TO.g rfl rfl rfl rfl (TX.load1 (i := 0) Try.isAgg5 rfl rfl rfl rfl (TO.g rfl rfl rfl rfl (TX.ibin rfl rfl rfl rfl (TO.g rfl rfl rfl rfl (TX.move rfl rfl ?_)))))))
     cases hc5 : (p0.fop == 128)
     · exact TO.g rfl rfl rfl rfl (TX.fieldAddr' Try.runUnderlying58 rfl Try.sizeOf5 rfl rfl rfl (TO.g rfl rfl rfl rfl (TX.load1 (i := 0) Try.isAgg5 rfl rfl rfl rfl (TO.g rfl rfl rfl rfl (TX.ibin rfl rfl rfl rfl (TO.g rfl rfl rfl rfl (TX.pickF rfl rfl rfl (TO.g rfl rfl rfl rfl (TX.pickT rfl rfl rfl (TO.g rfl rfl rfl rfl (TX.pickF rfl rfl rfl (TO.u rfl rfl (TX.pickT rfl rfl rfl (TO.nil (TE.cutS 19 rfl rfl ⟨rfl, trivial⟩)))))))))))))))
     exact TO.s rfl rfl rfl rfl rfl rfl (TO.s rfl rfl rfl rfl rfl rfl (TO.s rfl rfl rfl rfl rfl rfl (TO.g rfl rfl rfl rfl (TX.pickT rfl rfl rfl (TO.g rfl rfl rfl rfl (TX.pickT rfl rfl rfl (TO.g rfl rfl rfl rfl (TX.pickF rfl rfl rfl (TO.u rfl rfl (TX.pickT rfl rfl rfl (TO.nil (TE.cutS 19 rfl rfl ⟨rfl, trivial⟩))))))))))))
   exact TO.s rfl rfl rfl rfl rfl rfl (TO.s rfl rfl rfl rfl rfl rfl (TO.s rfl rfl rfl rfl rfl rfl (TO.s rfl rfl rfl rfl rfl rfl (TO.su rfl rfl rfl rfl rfl (TO.su rfl rfl rfl rfl rfl (TO.su rfl rfl rfl rfl rfl (TO.su rfl rfl rfl rfl rfl (TO.su rfl rfl rfl rfl rfl (TO.su rfl rfl rfl rfl rfl (TO.su rfl rfl rfl rfl rfl (TO.su rfl rfl rfl rfl rfl (TO.s rfl rfl rfl rfl rfl rfl (TO.g rfl rfl rfl rfl (TX.pickT rfl rfl rfl (TO.u rfl rfl (TX.pickT rfl rfl rfl (TO.nil (TE.cutS 19 rfl rfl ⟨rfl, trivial⟩))))))))))))))))))
 refine TO.u rfl rfl (TX.assign rfl rfl (TO.nil (TE.thenN rfl rfl (TC.seq (TC.seq (TC.region (TO.u rfl rfl (TX.fieldAddr' Try.runUnderlying58 rfl Try.sizeOf5 rfl rfl rfl (TO.u rfl rfl (TX.load1 (i := 0) Try.isAgg5 rfl rfl rfl rfl (TO.nil (TE.thenN rfl rfl (TC.block (TC.seq (TC.region (TO.u rfl rfl (TX.ibin rfl rfl rfl rfl (TO.u rfl rfl (TX.assign rfl rfl (TO.nil (TE.thenN rfl rfl (TC.cond rfl (fun hb6 => ?_) (fun hb6 => ?_)))))))))))))))))))))))
 · replace h := it h hb6
   exact TC.seq (TC.region (TO.u rfl rfl (TX.fieldAddr' Try.runUnderlying58 rfl Try.sizeOf27 rfl rfl rfl (TO.u rfl rfl (TX.fieldAddr' Try.runUnderlying27 rfl Try.sizeOf5 rfl rfl rfl (TO.u rfl rfl (TX.load1 (i := 0) Try.isAgg5 rfl rfl rfl rfl (TO.u rfl rfl (TX.ibin rfl rfl rfl rfl (TO.u rfl rfl (TX.assign rfl rfl (TO.nil (TE.thenN rfl rfl (TC.ret (TE.blockR (TE.thenR (TE.fin (R := ⟨[], []⟩) (TL.ret (R' := ⟨[], []⟩) Try.results35 (.cons (.tmp rfl) .nil) (subD 1 0 rfl rfl) ⟨congrArg ret35 h, rfl⟩))))))))))))))))))
 replace h := ie h hb6
 refine TC.seq (TC.region (TO.u rfl rfl (TX.ibin rfl rfl rfl rfl (TO.u rfl rfl (TX.assign rfl rfl (TO.nil (TE.thenN rfl rfl (TC.cond rfl (fun hb7 => ?_) (fun hb7 => ?_)))))))))
 · replace h := it h hb7
   refine TC.seq (TC.region (TO.u rfl rfl (TX.loadN (i := 0) Try.isAgg58 Try.sizeOf58 rfl rfl rfl rfl ?_)))
   obtain ⟨v8, hv8, h⟩ := bp h
   exact TO.u rfl rfl (TX.callP Try.call61 rfl (fun a w s => c61 p0 true _ _  hv8) rfl (TO.u rfl rfl (TX.assign rfl rfl (TO.nil (TE.thenN rfl rfl (TC.ret (TE.blockR (TE.thenR (TE.fin (R := ⟨[], []⟩) (TL.ret (R' := ⟨[], []⟩) Try.results35 (.cons (.tmp rfl) .nil) (subD 1 0 rfl rfl) ⟨congrArg ret35 h, rfl⟩))))))))))
 replace h := ie h hb7
 refine TC.seq (TC.seq (TC.region (TO.u rfl rfl (TX.ibin rfl rfl rfl rfl (TO.u rfl rfl (TX.assign rfl rfl (TO.nil (TE.thenN rfl rfl (TC.cond rfl (fun hb9 => ?_) (fun hb9 => ?_))))))))))
 · replace h := it h hb9
   refine TC.skip (TE.thenN rfl rfl (TC.condT' rfl hb9 (TC.seq (TC.region (TO.u rfl rfl (TX.loadN (i := 0) Try.isAgg58 Try.sizeOf58 rfl rfl rfl rfl ?_))))))
   obtain ⟨v10, hv10, h⟩ := bp h
   exact TO.u rfl rfl (TX.callP Try.call61 rfl (fun a w s => c61 p0 false _ _  hv10) rfl (TO.u rfl rfl (TX.assign rfl rfl (TO.nil (TE.thenN rfl rfl (TC.ret (TE.blockR (TE.thenR (TE.fin (R := ⟨[], []⟩) (TL.ret (R' := ⟨[], []⟩) Try.results35 (.cons (.tmp rfl) .nil) (subD 1 0 rfl rfl) ⟨congrArg ret35 h, rfl⟩))))))))))
 replace h := ie h hb9
 refine TC.region (TO.u rfl rfl (TX.ibin rfl rfl rfl rfl (TO.u rfl rfl (TX.assign rfl rfl (TO.nil (TE.thenN rfl rfl (TC.cond rfl (fun hb11 => ?_) (fun hb11 => ?_))))))))
 · replace h := it h hb11
   refine TC.seq (TC.region (TO.u rfl rfl (TX.loadN (i := 0) Try.isAgg58 Try.sizeOf58 rfl rfl rfl rfl ?_)))
   obtain ⟨v12, hv12, h⟩ := bp h
   exact TO.u rfl rfl (TX.callP Try.call61 rfl (fun a w s => c61 p0 false _ _  hv12) rfl (TO.u rfl rfl (TX.assign rfl rfl (TO.nil (TE.thenN rfl rfl (TC.ret (TE.blockR (TE.thenR (TE.fin (R := ⟨[], []⟩) (TL.ret (R' := ⟨[], []⟩) Try.results35 (.cons (.tmp rfl) .nil) (subD 1 0 rfl rfl) ⟨congrArg ret35 h, rfl⟩))))))))))
 replace h := ie h hb11
 refine TC.seq (TC.seq (TC.region (TO.u rfl rfl (TX.ibin rfl rfl rfl rfl (TO.u rfl rfl (TX.assign rfl rfl (TO.nil (TE.thenN rfl rfl (TC.cond rfl (fun hb13 => ?_) (fun hb13 => ?_))))))))))
 · replace h := it h hb13
   refine TC.skip (TE.thenN rfl rfl (TC.condT' rfl hb13 (TC.seq (TC.region (TO.u rfl rfl (TX.loadN (i := 0) Try.isAgg58 Try.sizeOf58 rfl rfl rfl rfl ?_))))))
   obtain ⟨v14, hv14, h⟩ := bp h
   refine TO.u rfl rfl (TX.callP Try.call62 rfl (fun a w s => c62 p0 _ _  hv14) rfl (TO.u rfl rfl (TX.move rfl rfl (TO.cutS 2 [(51, .bool (v14 || ((!p0.freg) && ((p0.fop == 0) || ((p0.fclass == 5) && ((p0.fop == 128) || (p0.fop == 144)))))))] ?_ ?_))))
   · cases hc15 : (v14)
     · exact TO.g rfl rfl rfl rfl (TX.move rfl rfl (TO.u rfl rfl (TX.pickF rfl rfl rfl (TO.nil (TE.cutS 2 rfl rfl ⟨rfl, trivial⟩)))))
     exact TO.s rfl rfl rfl rfl rfl rfl (TO.u rfl rfl (TX.pickT rfl rfl rfl (TO.nil (TE.cutS 2 rfl rfl ⟨rfl, trivial⟩))))
   exact TO.u rfl rfl (TX.assign rfl rfl (TO.nil (TE.thenN rfl rfl (TC.ret (TE.blockR (TE.thenR (TE.fin (R := ⟨[], []⟩) (TL.ret (R' := ⟨[], []⟩) Try.results35 (.cons (.tmp rfl) .nil) (subD 1 0 rfl rfl) ⟨congrArg ret35 h, rfl⟩))))))))
 replace h := ie h hb13
 refine TC.region (TO.u rfl rfl (TX.ibin rfl rfl rfl rfl (TO.u rfl rfl (TX.assign rfl rfl (TO.nil (TE.thenN rfl rfl (TC.cond rfl (fun hb16 => ?_) (fun hb16 => ?_))))))))
 · replace h := it h hb16
   refine TC.seq (TC.region (TO.u rfl rfl (TX.loadN (i := 0) Try.isAgg58 Try.sizeOf58 rfl rfl rfl rfl ?_)))
   obtain ⟨v17, hv17, h⟩ := bp h
   refine TO.u rfl rfl (TX.callP Try.call62 rfl (fun a w s => c62 p0 _ _  hv17) rfl (TO.u rfl rfl (TX.move rfl rfl (TO.cutS 2 [(51, .bool (v17 || ((!p0.freg) && ((p0.fop == 0) || ((p0.fclass == 5) && ((p0.fop == 128) || (p0.fop == 144)))))))] ?_ ?_))))
   · cases hc18 : (v17)
     · exact TO.g rfl rfl rfl rfl (TX.move rfl rfl (TO.u rfl rfl (TX.pickF rfl rfl rfl (TO.nil (TE.cutS 2 rfl rfl ⟨rfl, trivial⟩)))))
     exact TO.s rfl rfl rfl rfl rfl rfl (TO.u rfl rfl (TX.pickT rfl rfl rfl (TO.nil (TE.cutS 2 rfl rfl ⟨rfl, trivial⟩))))
   exact TO.u rfl rfl (TX.assign rfl rfl (TO.nil (TE.thenN rfl rfl (TC.ret (TE.blockR (TE.thenR (TE.fin (R := ⟨[], []⟩) (TL.ret (R' := ⟨[], []⟩) Try.results35 (.cons (.tmp rfl) .nil) (subD 1 0 rfl rfl) ⟨congrArg ret35 h, rfl⟩))))))))
 replace h := ie h hb16
 refine TC.skip (TE.blockN (TE.thenN rfl rfl (TC.seq (TC.seq (TC.region (TO.u rfl rfl (TX.fieldAddr' Try.runUnderlying58 rfl Try.sizeOf5 rfl rfl rfl (TO.u rfl rfl (TX.load1 (i := 0) Try.isAgg5 rfl rfl rfl rfl (TO.nil (TE.thenN rfl rfl (TC.block (TC.seq (TC.region (TO.u rfl rfl (TX.ibin rfl rfl rfl rfl (TO.u rfl rfl (TX.assign rfl rfl (TO.nil (TE.thenN rfl rfl (TC.cond rfl (fun hb19 => ?_) (fun hb19 => ?_))))))))))))))))))))))
 · replace h := it h hb19
   exact TC.seq (TC.region (TO.u rfl rfl (TX.fieldAddr' Try.runUnderlying58 rfl Try.sizeOf4 rfl rfl rfl (TO.u rfl rfl (TX.load1 (i := 0) Try.isAgg4 rfl rfl rfl rfl (TO.u rfl rfl (TX.not rfl rfl (TO.u rfl rfl (TX.assign rfl rfl (TO.nil (TE.thenN rfl rfl (TC.ret (TE.blockR (TE.thenR (TE.fin (R := ⟨[], []⟩) (TL.ret (R' := ⟨[], []⟩) Try.results35 (.cons (.tmp rfl) .nil) (subD 1 0 rfl rfl) ⟨congrArg ret35 h, rfl⟩))))))))))))))))
 replace h := ie h hb19
 refine TC.seq (TC.region (TO.u rfl rfl (TX.ibin rfl rfl rfl rfl (TO.u rfl rfl (TX.assign rfl rfl (TO.nil (TE.thenN rfl rfl (TC.cond rfl (fun hb20 => ?_) (fun hb20 => ?_)))))))))
 · replace h := it h hb20
   refine TC.seq (TC.region (TO.u rfl rfl (TX.fieldAddr' Try.runUnderlying58 rfl Try.sizeOf4 rfl rfl rfl (TO.u rfl rfl (TX.load1 (i := 0) Try.isAgg4 rfl rfl rfl rfl (TO.u rfl rfl (TX.not rfl rfl (TO.u rfl rfl (TX.move rfl rfl (TO.cutS 4 [(68, .bool ((!p0.freg) || (p0.fclass == 4)))] ?_ ?_))))))))))
   · cases hc21 : (!p0.freg)
     · exact TO.g rfl rfl rfl rfl (TX.fieldAddr' Try.runUnderlying58 rfl Try.sizeOf5 rfl rfl rfl (TO.g rfl rfl rfl rfl (TX.load1 (i := 0) Try.isAgg5 rfl rfl rfl rfl (TO.g rfl rfl rfl rfl (TX.ibin rfl rfl rfl rfl (TO.u rfl rfl (TX.pickF rfl rfl rfl (TO.nil (TE.cutS 4 rfl rfl ⟨rfl, trivial⟩)))))))))
     exact TO.s rfl rfl rfl rfl rfl rfl (TO.s rfl rfl rfl rfl rfl rfl (TO.s rfl rfl rfl rfl rfl rfl (TO.u rfl rfl (TX.pickT rfl rfl rfl (TO.nil (TE.cutS 4 rfl rfl ⟨rfl, trivial⟩))))))
   exact TO.u rfl rfl (TX.assign rfl rfl (TO.nil (TE.thenN rfl rfl (TC.ret (TE.blockR (TE.thenR (TE.fin (R := ⟨[], []⟩) (TL.ret (R' := ⟨[], []⟩) Try.results35 (.cons (.tmp rfl) .nil) (subD 1 0 rfl rfl) ⟨congrArg ret35 h, rfl⟩))))))))
 replace h := ie h hb20
 exact TC.skip (TE.blockN (TE.thenN rfl rfl (TC.seq (TC.region (TO.u rfl rfl (TX.fieldAddr' Try.runUnderlying58 rfl Try.sizeOf5 rfl rfl rfl (TO.u rfl rfl (TX.load1 (i := 0) Try.isAgg5 rfl rfl rfl rfl (TO.u rfl rfl (TX.ibin rfl rfl rfl rfl (TO.u rfl rfl (TX.assign rfl rfl (TO.nil (TE.thenN rfl rfl (TC.ret (TE.fin (R := ⟨[], []⟩) (TL.ret (R' := ⟨[], []⟩) Try.results35 (.cons (.tmp rfl) .nil) (subD 1 0 rfl rfl) ⟨congrArg ret35 h, rfl⟩)))))))))))))))))
/-- (hatchway/shape.slot).registers -/
def fn36 (p0 : Slot) : Bool :=
  (((decide (p0.fInstr.fDst ≤ 10)) && (decide (p0.fInstr.fSrc ≤ 10))) && (bif (((p0.fclass == 0) || (p0.fclass == 1)) || (p0.fclass == 4)) || (p0.fclass == 7) then !(p0.fInstr.fDst == 10) else true))
def ret36 (r : Bool) : Value := .bool r
theorem c36 (p0 : Slot) (w : World) (r : Bool)  (h : fn36 p0 = r) : Ret Try.prog 36 [.agg #[.int .u8 p0.fInstr.fOp, .int .u8 p0.fInstr.fDst, .int .u8 p0.fInstr.fSrc, .int .i16 p0.fInstr.fOff, .int .i32 p0.fInstr.fImm, .int .u8 p0.fclass, .int .u8 p0.fop, .bool p0.freg]] w ⟨[], []⟩ (fun v R => v = ret36 r ∧ R = ⟨[], []⟩) := by
 unfold fn36 at h
 refine Ret.of_body Try.func36 rfl Try.ntmps36 rfl (fun _ hx => absurd hx List.not_mem_nil) List.nodup_nil (TC.seq (TC.region (TO.u rfl rfl (TX.box rfl rfl rfl (fun b1 => (TO.u rfl rfl (TX.assign rfl rfl (TO.nil (TE.thenN rfl rfl (TC.seq (TC.region (TO.u rfl rfl (TX.fieldAddr' Try.runUnderlying58 rfl Try.sizeOf5 rfl rfl rfl (TO.u rfl rfl (TX.load1 (i := 0) Try.isAgg5 rfl rfl rfl rfl (TO.u rfl rfl (TX.ibin rfl rfl rfl rfl (TO.u rfl rfl (TX.move rfl rfl (TO.cutS 4 [(11, .bool ((p0.fclass == 0) || (p0.fclass == 1)))] ?_ ?_))))))))))))))))))))
 · cases hc2 : (p0.fclass == 0)
   · exact TO.g rfl rfl rfl rfl (TX.fieldAddr' Try.runUnderlying58 rfl Try.sizeOf5 rfl rfl rfl (TO.g rfl rfl rfl rfl (TX.load1 (i := 0) Try.isAgg5 rfl rfl rfl rfl (TO.g rfl rfl rfl rfl (TX.ibin rfl rfl rfl rfl (TO.u rfl rfl (TX.pickF rfl rfl rfl (TO.nil (TE.cutS 4 rfl rfl ⟨rfl, trivial⟩)))))))))
   exact TO.s rfl rfl rfl rfl rfl rfl (TO.s rfl rfl rfl rfl rfl rfl (TO.s rfl rfl rfl rfl rfl rfl (TO.u rfl rfl (TX.pickT rfl rfl rfl (TO.nil (TE.cutS 4 rfl rfl ⟨rfl, trivial⟩))))))
 refine TO.u rfl rfl (TX.move rfl rfl (TO.cutS 4 [(16, .bool (((p0.fclass == 0) || (p0.fclass == 1)) || (p0.fclass == 4)))] ?_ ?_))
 · cases hc3 : ((p0.fclass == 0) || (p0.fclass == 1))
   · exact TO.g rfl rfl rfl rfl (TX.fieldAddr' Try.runUnderlying58 rfl Try.sizeOf5 rfl rfl rfl (TO.g rfl rfl rfl rfl (TX.load1 (i := 0) Try.isAgg5 rfl rfl rfl rfl (TO.g rfl rfl rfl rfl (TX.ibin rfl rfl rfl rfl (TO.u rfl rfl (TX.pickF rfl rfl rfl (TO.nil (TE.cutS 4 rfl rfl ⟨rfl, trivial⟩)))))))))
   exact TO.s rfl rfl rfl rfl rfl rfl (TO.s rfl rfl rfl rfl rfl rfl (TO.s rfl rfl rfl rfl rfl rfl (TO.u rfl rfl (TX.pickT rfl rfl rfl (TO.nil (TE.cutS 4 rfl rfl ⟨rfl, trivial⟩))))))
 refine TO.u rfl rfl (TX.move rfl rfl (TO.cutS 4 [(21, .bool ((((p0.fclass == 0) || (p0.fclass == 1)) || (p0.fclass == 4)) || (p0.fclass == 7)))] ?_ ?_))
 · cases hc4 : (((p0.fclass == 0) || (p0.fclass == 1)) || (p0.fclass == 4))
   · exact TO.g rfl rfl rfl rfl (TX.fieldAddr' Try.runUnderlying58 rfl Try.sizeOf5 rfl rfl rfl (TO.g rfl rfl rfl rfl (TX.load1 (i := 0) Try.isAgg5 rfl rfl rfl rfl (TO.g rfl rfl rfl rfl (TX.ibin rfl rfl rfl rfl (TO.u rfl rfl (TX.pickF rfl rfl rfl (TO.nil (TE.cutS 4 rfl rfl ⟨rfl, trivial⟩)))))))))
   exact TO.s rfl rfl rfl rfl rfl rfl (TO.s rfl rfl rfl rfl rfl rfl (TO.s rfl rfl rfl rfl rfl rfl (TO.u rfl rfl (TX.pickT rfl rfl rfl (TO.nil (TE.cutS 4 rfl rfl ⟨rfl, trivial⟩))))))
 refine TO.u rfl rfl (TX.assign rfl rfl (TO.nil (TE.thenN rfl rfl (TC.seq (TC.region (TO.u rfl rfl (TX.fieldAddr' Try.runUnderlying58 rfl Try.sizeOf27 rfl rfl rfl (TO.u rfl rfl (TX.fieldAddr' Try.runUnderlying27 rfl Try.sizeOf5 rfl rfl rfl (TO.u rfl rfl (TX.load1 (i := 0) Try.isAgg5 rfl rfl rfl rfl (TO.u rfl rfl (TX.ibin rfl rfl rfl rfl (TO.u rfl rfl (TX.move rfl rfl (TO.cutS 5 [(31, .bool ((decide (p0.fInstr.fDst ≤ 10)) && (decide (p0.fInstr.fSrc ≤ 10))))] ?_ ?_))))))))))))))))
 · cases hc5 : (decide (p0.fInstr.fDst ≤ 10))
   · exact TO.s rfl rfl rfl rfl rfl rfl (TO.s rfl rfl rfl rfl rfl rfl (TO.s rfl rfl rfl rfl rfl rfl (TO.s rfl rfl rfl rfl rfl rfl (TO.u rfl rfl (TX.pickF rfl rfl rfl (TO.nil (TE.cutS 5 rfl rfl ⟨rfl, trivial⟩)))))))
   exact TO.g rfl rfl rfl rfl (TX.fieldAddr' Try.runUnderlying58 rfl Try.sizeOf27 rfl rfl rfl (TO.g rfl rfl rfl rfl (TX.fieldAddr' Try.runUnderlying27 rfl Try.sizeOf5 rfl rfl rfl (TO.g rfl rfl rfl rfl (TX.load1 (i := 0) Try.isAgg5 rfl rfl rfl rfl (TO.g rfl rfl rfl rfl (TX.ibin rfl rfl rfl rfl (TO.u rfl rfl (TX.pickT rfl rfl rfl (TO.nil (TE.cutS 5 rfl rfl ⟨rfl, trivial⟩)))))))))))
 refine TO.u rfl rfl (TX.move rfl rfl (TO.cutS 9 [(41, .bool (((decide (p0.fInstr.fDst ≤ 10)) && (decide (p0.fInstr.fSrc ≤ 10))) && (bif (((p0.fclass == 0) || (p0.fclass == 1)) || (p0.fclass == 4)) || (p0.fclass == 7) then !(p0.fInstr.fDst == 10) else true)))] ?_ ?_))
 · cases hc6 : ((decide (p0.fInstr.fDst ≤ 10)) && (decide (p0.fInstr.fSrc ≤ 10)))
   · exact TO.s rfl rfl rfl rfl rfl rfl (TO.s rfl rfl rfl rfl rfl rfl (TO.su rfl rfl rfl rfl rfl (TO.su rfl rfl rfl rfl rfl (TO.su rfl rfl rfl rfl rfl (TO.su rfl rfl rfl rfl rfl (TO.s rfl rfl rfl rfl rfl rfl (TO.s rfl rfl rfl rfl rfl rfl (TO.u rfl rfl (TX.pickF rfl rfl rfl (TO.nil (TE.cutS 9 rfl rfl ⟨rfl, trivial⟩)))))))))))
   refine TO.g rfl rfl rfl rfl (TX.move rfl rfl (TO.g rfl rfl rfl rfl (TX.move rfl rfl ?_)))
   cases hc7 : ((((p0.fclass == 0) || (p0.fclass == 1)) || (p0.fclass == 4)) || (p0.fclass == 7))
   · exact TO.s rfl rfl rfl rfl rfl rfl (TO.s rfl rfl rfl rfl rfl rfl (TO.s rfl rfl rfl rfl rfl rfl (TO.s rfl rfl rfl rfl rfl rfl (TO.g rfl rfl rfl rfl (TX.pickF rfl rfl rfl (TO.g rfl rfl rfl rfl (TX.not rfl rfl (TO.u rfl rfl (TX.pickT rfl rfl rfl (TO.nil (TE.cutS 9 rfl rfl ⟨rfl, trivial⟩)))))))))))
   exact TO.g rfl rfl rfl rfl (TX.fieldAddr' Try.runUnderlying58 rfl Try.sizeOf27 rfl rfl rfl (TO.g rfl rfl rfl rfl (TX.fieldAddr' Try.runUnderlying27 rfl Try.sizeOf5 rfl rfl rfl (TO.g rfl rfl rfl rfl (TX.load1 (i := 0) Try.isAgg5 rfl rfl rfl rfl (TO.g rfl rfl rfl rfl (TX.ibin rfl rfl rfl rfl (TO.g rfl rfl rfl rfl (TX.pickT rfl rfl rfl (TO.g rfl rfl rfl rfl (TX.not rfl rfl (TO.u rfl rfl (TX.pickT rfl rfl rfl (TO.nil (TE.cutS 9 rfl rfl ⟨rfl, trivial⟩)))))))))))))))
 exact TO.u rfl rfl (TX.assign rfl rfl (TO.nil (TE.thenN rfl rfl (TC.ret (TE.fin (R := ⟨[], []⟩) (TL.ret (R' := ⟨[], []⟩) Try.results36 (.cons (.tmp rfl) .nil) (subD 1 0 rfl rfl) ⟨congrArg ret36 h, rfl⟩))))))
/-- (hatchway/shape.slot).parts$1 -/
def fn63 (q0 : Slot) : Bool :=
  ((q0.fInstr.fOff == 0) && ((q0.fInstr.fSrc == 0) || ((q0.fInstr.fSrc == 1) && (decide ((0 : Int) ≤ q0.fInstr.fImm)))))
def ret63 (r : Bool) : Value := .bool r
theorem c63 (b_q0 : Nat) (q0 : Slot) (w : World) (r : Bool) (hat : HpOk w ⟨[(b_q0, .cells #[.int .u8 q0.fInstr.fOp, .int .u8 q0.fInstr.fDst, .int .u8 q0.fInstr.fSrc, .int .i16 q0.fInstr.fOff, .int .i32 q0.fInstr.fImm, .int .u8 q0.fclass, .int .u8 q0.fop, .bool q0.freg] 58)], []⟩) (h : fn63 q0 = r) : Ret Try.prog 63 [.pointer (some ⟨b_q0, 0, none⟩)] w ⟨[(b_q0, .cells #[.int .u8 q0.fInstr.fOp, .int .u8 q0.fInstr.fDst, .int .u8 q0.fInstr.fSrc, .int .i16 q0.fInstr.fOff, .int .i32 q0.fInstr.fImm, .int .u8 q0.fclass, .int .u8 q0.fop, .bool q0.freg] 58)], []⟩ (fun v R => v = ret63 r ∧ R = ⟨[(b_q0, .cells #[.int .u8 q0.fInstr.fOp, .int .u8 q0.fInstr.fDst, .int .u8 q0.fInstr.fSrc, .int .i16 q0.fInstr.fOff, .int .i32 q0.fInstr.fImm, .int .u8 q0.fclass, .int .u8 q0.fop, .bool q0.freg] 58)], []⟩) := by
 unfold fn63 at h
 refine Ret.of_body Try.func63 rfl Try.ntmps63 rfl hat.1 hat.2 (TC.seq (TC.region (TO.u rfl rfl (TX.assign rfl rfl (TO.nil (TE.thenN rfl rfl (TC.seq (TC.region (TO.u rfl rfl (TX.fieldAddr' Try.runUnderlying58 rfl Try.sizeOf27 rfl rfl rfl (TO.u rfl rfl (TX.fieldAddr' Try.runUnderlying27 rfl Try.sizeOf25 rfl rfl rfl (TO.u rfl rfl (TX.load1 (i := 0) Try.isAgg25 rfl rfl rfl rfl (TO.u rfl rfl (TX.ibin rfl rfl rfl rfl (TO.u rfl rfl (TX.move rfl rfl (TO.cutS 17 [(23, .bool ((q0.fInstr.fOff == 0) && ((q0.fInstr.fSrc == 0) || ((q0.fInstr.fSrc == 1) && (decide ((0 : Int) ≤ q0.fInstr.fImm))))))] ?_ ?_)))))))))))))))))))
 · cases hc1 : (q0.fInstr.fOff == 0)
   · exact TO.s rfl rfl rfl rfl rfl rfl (TO.s rfl rfl rfl rfl rfl rfl (TO.s rfl rfl rfl rfl rfl rfl (TO.s rfl rfl rfl rfl rfl rfl (TO.s rfl rfl rfl rfl rfl rfl (TO.su rfl rfl rfl rfl rfl (TO.su rfl rfl rfl rfl rfl (TO.su rfl rfl rfl rfl rfl (TO.su rfl rfl rfl rfl rfl (TO.su rfl rfl rfl rfl rfl (TO.su rfl rfl rfl rfl rfl (TO.su rfl rfl rfl rfl rfl (TO.su rfl rfl rfl rfl rfl (TO.su rfl rfl rfl rfl rfl (TO.su rfl rfl rfl rfl rfl (TO.s rfl rfl rfl rfl rfl rfl (TO.u rfl rfl (TX.pickF rfl rfl rfl (TO.nil (TE.cutS 17 rfl rfl ⟨rfl, trivial⟩)))))))))))))))))))
   refine TO.g rfl rfl rfl rfl (TX.fieldAddr' Try.runUnderlying58 rfl Try.sizeOf27 rfl rfl rfl (TO.g rfl rfl rfl rfl (TX.fieldAddr' Try.runUnderlying27 rfl Try.sizeOf5 rfl rfl rfl (TO.g rfl rfl rfl rfl (TX.load1 (i := 0) Try.isAgg5 rfl rfl rfl rfl (TO.g rfl rfl rfl rfl (TX.ibin rfl rfl rfl rfl (TO.g rfl rfl rfl rfl (TX.move rfl rfl ?_)))))))))
   cases hc2 : (q0.fInstr.fSrc == 0)
   · refine TO.g rfl rfl rfl rfl (TX.fieldAddr' Try.runUnderlying58 rfl Try.sizeOf27 rfl rfl rfl (TO.g rfl rfl rfl rfl (TX.fieldAddr' Try.runUnderlying27 rfl Try.sizeOf5 rfl rfl rfl (TO.g rfl rfl rfl rfl (TX.load1 (i := 0) Try.isAgg5 rfl rfl rfl rfl (TO.g rfl rfl rfl rfl (TX.ibin rfl rfl rfl rfl (TO.g rfl rfl rfl rfl (TX.move rfl rfl ?_)))))))))
     cases hc3 : (q0.fInstr.fSrc == 1)
     · exact TO.s rfl rfl rfl rfl rfl rfl (TO.s rfl rfl rfl rfl rfl rfl (TO.s rfl rfl rfl rfl rfl rfl (TO.s rfl rfl rfl rfl rfl rfl (TO.g rfl rfl rfl rfl (TX.pickF rfl rfl rfl (TO.g rfl rfl rfl rfl (TX.pickF rfl rfl rfl (TO.u rfl rfl (TX.pickT rfl rfl rfl (TO.nil (TE.cutS 17 rfl rfl ⟨rfl, trivial⟩)))))))))))
     exact TO.g rfl rfl rfl rfl (TX.fieldAddr' Try.runUnderlying58 rfl Try.sizeOf27 rfl rfl rfl (TO.g rfl rfl rfl rfl (TX.fieldAddr' Try.runUnderlying27 rfl Try.sizeOf21 rfl rfl rfl (TO.g rfl rfl rfl rfl (TX.load1 (i := 0) Try.isAgg21 rfl rfl rfl rfl (TO.g rfl rfl rfl rfl (TX.ibin rfl rfl rfl rfl (TO.g rfl rfl rfl rfl (TX.pickT rfl rfl rfl (TO.g rfl rfl rfl rfl (TX.pickF rfl rfl rfl (TO.u rfl rfl (TX.pickT rfl rfl rfl (TO.nil (TE.cutS 17 rfl rfl ⟨rfl, trivial⟩)))))))))))))))
   exact TO.s rfl rfl rfl rfl rfl rfl (TO.s rfl rfl rfl rfl rfl rfl (TO.s rfl rfl rfl rfl rfl rfl (TO.s rfl rfl rfl rfl rfl rfl (TO.s rfl rfl rfl rfl rfl rfl (TO.su rfl rfl rfl rfl rfl (TO.su rfl rfl rfl rfl rfl (TO.su rfl rfl rfl rfl rfl (TO.su rfl rfl rfl rfl rfl (TO.s rfl rfl rfl rfl rfl rfl (TO.g rfl rfl rfl rfl (TX.pickT rfl rfl rfl (TO.u rfl rfl (TX.pickT rfl rfl rfl (TO.nil (TE.cutS 17 rfl rfl ⟨rfl, trivial⟩)))))))))))))))
 exact TO.u rfl rfl (TX.assign rfl rfl (TO.nil (TE.thenN rfl rfl (TC.ret (TE.fin (R := ⟨[(b_q0, .cells #[.int .u8 q0.fInstr.fOp, .int .u8 q0.fInstr.fDst, .int .u8 q0.fInstr.fSrc, .int .i16 q0.fInstr.fOff, .int .i32 q0.fInstr.fImm, .int .u8 q0.fclass, .int .u8 q0.fop, .bool q0.freg] 58)], []⟩) (TL.ret (R' := ⟨[(b_q0, .cells #[.int .u8 q0.fInstr.fOp, .int .u8 q0.fInstr.fDst, .int .u8 q0.fInstr.fSrc, .int .i16 q0.fInstr.fOff, .int .i32 q0.fInstr.fImm, .int .u8 q0.fclass, .int .u8 q0.fop, .bool q0.freg] 58)], []⟩) Try.results63 (.cons (.tmp rfl) .nil) (subD 0 0 rfl rfl) ⟨congrArg ret63 h, rfl⟩))))))
/-- (hatchway/shape.slot).parts$2 -/
def fn64 (q0 : Slot) : Bool :=
  (q0.fInstr.fImm == 0)
def ret64 (r : Bool) : Value := .bool r
theorem c64 (b_q0 : Nat) (q0 : Slot) (w : World) (r : Bool) (hat : HpOk w ⟨[(b_q0, .cells #[.int .u8 q0.fInstr.fOp, .int .u8 q0.fInstr.fDst, .int .u8 q0.fInstr.fSrc, .int .i16 q0.fInstr.fOff, .int .i32 q0.fInstr.fImm, .int .u8 q0.fclass, .int .u8 q0.fop, .bool q0.freg] 58)], []⟩) (h : fn64 q0 = r) : Ret Try.prog 64 [.pointer (some ⟨b_q0, 0, none⟩)] w ⟨[(b_q0, .cells #[.int .u8 q0.fInstr.fOp, .int .u8 q0.fInstr.fDst, .int .u8 q0.fInstr.fSrc, .int .i16 q0.fInstr.fOff, .int .i32 q0.fInstr.fImm, .int .u8 q0.fclass, .int .u8 q0.fop, .bool q0.freg] 58)], []⟩ (fun v R => v = ret64 r ∧ R = ⟨[(b_q0, .cells #[.int .u8 q0.fInstr.fOp, .int .u8 q0.fInstr.fDst, .int .u8 q0.fInstr.fSrc, .int .i16 q0.fInstr.fOff, .int .i32 q0.fInstr.fImm, .int .u8 q0.fclass, .int .u8 q0.fop, .bool q0.freg] 58)], []⟩) := by
 unfold fn64 at h
 exact Ret.of_body Try.func64 rfl Try.ntmps64 rfl hat.1 hat.2 (TC.seq (TC.region (TO.u rfl rfl (TX.assign rfl rfl (TO.nil (TE.thenN rfl rfl (TC.seq (TC.region (TO.u rfl rfl (TX.fieldAddr' Try.runUnderlying58 rfl Try.sizeOf27 rfl rfl rfl (TO.u rfl rfl (TX.fieldAddr' Try.runUnderlying27 rfl Try.sizeOf21 rfl rfl rfl (TO.u rfl rfl (TX.load1 (i := 0) Try.isAgg21 rfl rfl rfl rfl (TO.u rfl rfl (TX.ibin rfl rfl rfl rfl (TO.u rfl rfl (TX.assign rfl rfl (TO.nil (TE.thenN rfl rfl (TC.ret (TE.fin (R := ⟨[(b_q0, .cells #[.int .u8 q0.fInstr.fOp, .int .u8 q0.fInstr.fDst, .int .u8 q0.fInstr.fSrc, .int .i16 q0.fInstr.fOff, .int .i32 q0.fInstr.fImm, .int .u8 q0.fclass, .int .u8 q0.fop, .bool q0.freg] 58)], []⟩) (TL.ret (R' := ⟨[(b_q0, .cells #[.int .u8 q0.fInstr.fOp, .int .u8 q0.fInstr.fDst, .int .u8 q0.fInstr.fSrc, .int .i16 q0.fInstr.fOff, .int .i32 q0.fInstr.fImm, .int .u8 q0.fclass, .int .u8 q0.fop, .bool q0.freg] 58)], []⟩) Try.results64 (.cons (.tmp rfl) .nil) (subD 0 0 rfl rfl) ⟨congrArg ret64 h, rfl⟩)))))))))))))))))))))))
/-- (hatchway/shape.slot).parts$3 -/
def fn65 (q0 : Slot) : Bool :=
  (q0.fInstr.fSrc == 0)
def ret65 (r : Bool) : Value := .bool r
theorem c65 (b_q0 : Nat) (q0 : Slot) (w : World) (r : Bool) (hat : HpOk w ⟨[(b_q0, .cells #[.int .u8 q0.fInstr.fOp, .int .u8 q0.fInstr.fDst, .int .u8 q0.fInstr.fSrc, .int .i16 q0.fInstr.fOff, .int .i32 q0.fInstr.fImm, .int .u8 q0.fclass, .int .u8 q0.fop, .bool q0.freg] 58)], []⟩) (h : fn65 q0 = r) : Ret Try.prog 65 [.pointer (some ⟨b_q0, 0, none⟩)] w ⟨[(b_q0, .cells #[.int .u8 q0.fInstr.fOp, .int .u8 q0.fInstr.fDst, .int .u8 q0.fInstr.fSrc, .int .i16 q0.fInstr.fOff, .int .i32 q0.fInstr.fImm, .int .u8 q0.fclass, .int .u8 q0.fop, .bool q0.freg] 58)], []⟩ (fun v R => v = ret65 r ∧ R = ⟨[(b_q0, .cells #[.int .u8 q0.fInstr.fOp, .int .u8 q0.fInstr.fDst, .int .u8 q0.fInstr.fSrc, .int .i16 q0.fInstr.fOff, .int .i32 q0.fInstr.fImm, .int .u8 q0.fclass, .int .u8 q0.fop, .bool q0.freg] 58)], []⟩) := by
 unfold fn65 at h
 exact Ret.of_body Try.func65 rfl Try.ntmps65 rfl hat.1 hat.2 (TC.seq (TC.region (TO.u rfl rfl (TX.assign rfl rfl (TO.nil (TE.thenN rfl rfl (TC.seq (TC.region (TO.u rfl rfl (TX.fieldAddr' Try.runUnderlying58 rfl Try.sizeOf27 rfl rfl rfl (TO.u rfl rfl (TX.fieldAddr' Try.runUnderlying27 rfl Try.sizeOf5 rfl rfl rfl (TO.u rfl rfl (TX.load1 (i := 0) Try.isAgg5 rfl rfl rfl rfl (TO.u rfl rfl (TX.ibin rfl rfl rfl rfl (TO.u rfl rfl (TX.assign rfl rfl (TO.nil (TE.thenN rfl rfl (TC.ret (TE.fin (R := ⟨[(b_q0, .cells #[.int .u8 q0.fInstr.fOp, .int .u8 q0.fInstr.fDst, .int .u8 q0.fInstr.fSrc, .int .i16 q0.fInstr.fOff, .int .i32 q0.fInstr.fImm, .int .u8 q0.fclass, .int .u8 q0.fop, .bool q0.freg] 58)], []⟩) (TL.ret (R' := ⟨[(b_q0, .cells #[.int .u8 q0.fInstr.fOp, .int .u8 q0.fInstr.fDst, .int .u8 q0.fInstr.fSrc, .int .i16 q0.fInstr.fOff, .int .i32 q0.fInstr.fImm, .int .u8 q0.fclass, .int .u8 q0.fop, .bool q0.freg] 58)], []⟩) Try.results65 (.cons (.tmp rfl) .nil) (subD 0 0 rfl rfl) ⟨congrArg ret65 h, rfl⟩)))))))))))))))))))))))
/-- (hatchway/shape.slot).parts$4 -/
def fn66 (q0 : Slot) : Bool :=
  (q0.fInstr.fImm == 0)
def ret66 (r : Bool) : Value := .bool r
theorem c66 (b_q0 : Nat) (q0 : Slot) (w : World) (r : Bool) (hat : HpOk w ⟨[(b_q0, .cells #[.int .u8 q0.fInstr.fOp, .int .u8 q0.fInstr.fDst, .int .u8 q0.fInstr.fSrc, .int .i16 q0.fInstr.fOff, .int .i32 q0.fInstr.fImm, .int .u8 q0.fclass, .int .u8 q0.fop, .bool q0.freg] 58)], []⟩) (h : fn66 q0 = r) : Ret Try.prog 66 [.pointer (some ⟨b_q0, 0, none⟩)] w ⟨[(b_q0, .cells #[.int .u8 q0.fInstr.fOp, .int .u8 q0.fInstr.fDst, .int .u8 q0.fInstr.fSrc, .int .i16 q0.fInstr.fOff, .int .i32 q0.fInstr.fImm, .int .u8 q0.fclass, .int .u8 q0.fop, .bool q0.freg] 58)], []⟩ (fun v R => v = ret66 r ∧ R = ⟨[(b_q0, .cells #[.int .u8 q0.fInstr.fOp, .int .u8 q0.fInstr.fDst, .int .u8 q0.fInstr.fSrc, .int .i16 q0.fInstr.fOff, .int .i32 q0.fInstr.fImm, .int .u8 q0.fclass, .int .u8 q0.fop, .bool q0.freg] 58)], []⟩) := by
 unfold fn66 at h
 exact Ret.of_body Try.func66 rfl Try.ntmps66 rfl hat.1 hat.2 (TC.seq (TC.region (TO.u rfl rfl (TX.assign rfl rfl (TO.nil (TE.thenN rfl rfl (TC.seq (TC.region (TO.u rfl rfl (TX.fieldAddr' Try.runUnderlying58 rfl Try.sizeOf27 rfl rfl rfl (TO.u rfl rfl (TX.fieldAddr' Try.runUnderlying27 rfl Try.sizeOf21 rfl rfl rfl (TO.u rfl rfl (TX.load1 (i := 0) Try.isAgg21 rfl rfl rfl rfl (TO.u rfl rfl (TX.ibin rfl rfl rfl rfl (TO.u rfl rfl (TX.assign rfl rfl (TO.nil (TE.thenN rfl rfl (TC.ret (TE.fin (R := ⟨[(b_q0, .cells #[.int .u8 q0.fInstr.fOp, .int .u8 q0.fInstr.fDst, .int .u8 q0.fInstr.fSrc, .int .i16 q0.fInstr.fOff, .int .i32 q0.fInstr.fImm, .int .u8 q0.fclass, .int .u8 q0.fop, .bool q0.freg] 58)], []⟩) (TL.ret (R' := ⟨[(b_q0, .cells #[.int .u8 q0.fInstr.fOp, .int .u8 q0.fInstr.fDst, .int .u8 q0.fInstr.fSrc, .int .i16 q0.fInstr.fOff, .int .i32 q0.fInstr.fImm, .int .u8 q0.fclass, .int .u8 q0.fop, .bool q0.freg] 58)], []⟩) Try.results66 (.cons (.tmp rfl) .nil) (subD 0 0 rfl rfl) ⟨congrArg ret66 h, rfl⟩)))))))))))))))))))))))
def fn92_l1 (p0 : List Int) (p1 : Int) : Nat → Int → Option ((Unit) ⊕ (Int))
  | 0, _ => none
  | n10 + 1, x5 => (bif decide (x5 < (p0.length : Int)) then (bif inb x5 p0.length then (bif p1 == (gt p0 x5) then (some (.inr x5)) else ((fn92_l1 p0 p1 n10) (IntKind.i64.wrap (x5 + 1)))) else none) else (some (.inl ())))
theorem fn92_l1_s (p0 : List Int) (p1 : Int) (n10 : Nat) (x5 : Int) : fn92_l1 p0 p1 (n10 + 1) x5 = (bif decide (x5 < (p0.length : Int)) then (bif inb x5 p0.length then (bif p1 == (gt p0 x5) then (some (.inr x5)) else ((fn92_l1 p0 p1 n10) (IntKind.i64.wrap (x5 + 1)))) else none) else (some (.inl ()))) := rfl
def fn92_k1 : Option (Int) :=
  (some (-1))
theorem fn92_k1_s : fn92_k1  = (some (-1)) := rfl
/-- slices.Index___int32,int32_ -/
def fn92 (F : Nat) (p0 : List Int) (p1 : Int) : Option (Int) :=
  (Option.bind (fn92_l1 p0 p1 F 0) fun o7 => (match o7 with | .inl u => fn92_k1  | .inr u => some u))
def ret92 (r : Int) : Value := .int .i64 r
theorem c92 (F : Nat) (sp_0 : Option Addr) (n_0 cap_0 : Nat) (p0 : List Int) (p1 : Int) (w : World) (r : Int) (qn0 : p0.length = n_0) (qc0 : p0.length ≤ cap_0) (qp0 : RdF (En.int .i32) w [] sp_0 p0) (h : fn92 F p0 p1 = some r) : Ret Try.prog 92 [.slice sp_0 n_0 cap_0, .int .i32 p1] w ⟨[], []⟩ (fun v R => v = ret92 r ∧ R = ⟨[], []⟩) := by
 unfold fn92 at h
 refine Ret.of_body Try.func92 rfl Try.ntmps92 rfl (fun _ hx => absurd hx List.not_mem_nil) List.nodup_nil (TC.seq (TC.region (TO.u rfl rfl (TX.assign rfl rfl (TO.nil (TE.thenN rfl rfl (TC.seq (TC.seq (TC.region (TO.u rfl rfl (TX.move rfl rfl (TO.u rfl rfl (TX.lenS (xs := p0) Try.runUnderlying109 rfl qn0 rfl (TO.u rfl rfl (TX.move rfl rfl (TO.nil (TE.thenN rfl rfl (TC.block ?_))))))))))))))))))
 obtain ⟨o7, hl8, h⟩ := bd h
 refine TC.to (L' := [(0, .slice sp_0 n_0 cap_0), (1, .int .i32 p1), (7, .int .i64 (p0.length : Int)), (8, .int .i64 0)]) (E' := []) (S' := []) 0 0 ⟨rfl, rfl, rfl, rfl, trivial⟩ rfl rfl (TC.cutE 0 (fun L' H' => .inl () = o7 ∧ L' = [] ∧ H' = ⟨[], []⟩) ?_ ?_)
 · have h012 := h
   clear h
   refine TC.loop (fun (n : Nat) (s : Int) => fn92_l1 p0 p1 n s) o7 (fun _ => rfl) (fun (x5 : Int) L' H' => L' = [(0, .slice sp_0 n_0 cap_0), (1, .int .i32 p1), (7, .int .i64 (p0.length : Int)), (8, .int .i64 x5)] ∧ H' = ⟨[], []⟩) ?_ F 0 ⟨rfl, rfl⟩ hl8
   clear hl8
   rintro K9 n10 x5 _ _ ⟨rfl, rfl⟩ h ih11
   replace h := (fn92_l1_s p0 p1 n10 x5).symm.trans h
   refine TC.seq (TC.region (TO.u rfl rfl (TX.ibin rfl rfl rfl rfl (TO.nil (TE.thenN rfl rfl (TC.seq (TC.cond rfl (fun hb13 => ?_) (fun hb13 => ?_))))))))
   · replace h := it h hb13
     refine TC.skip (TE.thenN rfl rfl (TC.seq (TC.block (TC.seq (TC.region (TO.u rfl rfl (TX.move rfl rfl (TO.u rfl rfl (TX.assign rfl rfl (TO.nil (TE.thenN rfl rfl (TC.seq (TC.region (TO.u rfl rfl (TX.move rfl rfl (TO.u rfl rfl (TX.move rfl rfl (TO.u rfl rfl (TX.move rfl rfl ?_)))))))))))))))))))
     obtain ⟨hk14, h⟩ := ck h
     refine TO.u rfl rfl (TX.indexR (N := (En.int .i32)) Try.runUnderlying109 Try.sizeOf21 rfl qn0 rfl (fun a w s => qp0 w s.ext) hk14 rfl (TO.u rfl rfl (TX.loadR1 (N := (En.int .i32)) Try.isAgg21 rfl (fun a w s => qp0 w s.ext) hk14 rfl rfl (TO.u rfl rfl (TX.ibin rfl rfl rfl rfl (TO.nil (TE.thenN rfl rfl (TC.cond rfl (fun hb15 => ?_) (fun hb15 => ?_)))))))))
     · replace h := it h hb15
       refine TC.seq (TC.region (TO.u rfl rfl (TX.move rfl rfl (TO.u rfl rfl (TX.assign rfl rfl (TO.nil (TE.thenN rfl rfl (TC.ret (TE.blockR (TE.thenR (TE.loopR (TE.cutR ?_))))))))))))
       have ho := Option.some.inj h
       subst ho
       replace h := h012
       exact TE.blockR (TE.thenR (TE.fin (R := ⟨[], []⟩) (TL.ret (R' := ⟨[], []⟩) Try.results92 (.cons (.tmp rfl) .nil) (subD 0 0 rfl rfl) ⟨congrArg ret92 (Option.some.inj h), rfl⟩)))
     replace h := ie h hb15
     exact TC.skip (TE.blockN (TE.thenN rfl rfl (TC.region (TO.u rfl rfl (TX.ibin rfl rfl rfl rfl (TO.u rfl rfl (TX.move rfl rfl (TO.nil (TE.to (L' := [(0, .slice sp_0 n_0 cap_0), (1, .int .i32 p1), (7, .int .i64 (p0.length : Int)), (8, .int .i64 (IntKind.i64.wrap (x5 + 1)))]) (E' := []) (S' := []) 0 0 ⟨rfl, rfl, rfl, rfl, trivial⟩ rfl rfl (ih11 (IntKind.i64.wrap (x5 + 1)) _ _ ⟨rfl, rfl⟩ h))))))))))
   replace h := ie h hb13
   exact TC.exit (TE.thenX (TE.loopX (TE.to (L' := []) (E' := []) (S' := []) 0 0 trivial rfl rfl (TE.cutE ⟨Option.some.inj h, rfl, rfl⟩))))
 rintro _ _ ⟨rfl, rfl, rfl⟩
 replace h := (fn92_k1_s ).symm.trans h
 exact TE.blockH (TE.thenN rfl rfl (TC.seq (TC.region (TO.u rfl rfl (TX.assign rfl rfl (TO.nil (TE.thenN rfl rfl (TC.ret (TE.fin (R := ⟨[], []⟩) (TL.ret (R' := ⟨[], []⟩) Try.results92 (.cons (.tmp rfl) .nil) (subD 0 0 rfl rfl) ⟨congrArg ret92 (Option.some.inj h), rfl⟩))))))))))
/-- slices.Contains___int32,int32_ -/
def fn80 (F : Nat) (p0 : List Int) (p1 : Int) : Option (Bool) :=
  (Option.bind (fn92 F p0 p1) fun v1 => (some (decide ((0 : Int) ≤ v1))))
def ret80 (r : Bool) : Value := .bool r
theorem c80 (F : Nat) (sp_0 : Option Addr) (n_0 cap_0 : Nat) (p0 : List Int) (p1 : Int) (w : World) (r : Bool) (qn0 : p0.length = n_0) (qc0 : p0.length ≤ cap_0) (qp0 : RdF (En.int .i32) w [] sp_0 p0) (h : fn80 F p0 p1 = some r) : Ret Try.prog 80 [.slice sp_0 n_0 cap_0, .int .i32 p1] w ⟨[], []⟩ (fun v R => v = ret80 r ∧ R = ⟨[], []⟩) := by
 unfold fn80 at h
 refine Ret.of_body Try.func80 rfl Try.ntmps80 rfl (fun _ hx => absurd hx List.not_mem_nil) List.nodup_nil (TC.seq (TC.region (TO.u rfl rfl (TX.assign rfl rfl (TO.nil (TE.thenN rfl rfl (TC.seq (TC.region (TO.u rfl rfl (TX.move rfl rfl (TO.u rfl rfl (TX.move rfl rfl ?_))))))))))))
 obtain ⟨v1, hv1, h⟩ := bd h
 exact TO.u rfl rfl (TX.callP Try.call92 rfl (fun a w s => c92 F _ _ _ p0 p1 _ _ qn0 qc0 (qp0.tr s.extB0) hv1) rfl (TO.u rfl rfl (TX.ibin rfl rfl rfl rfl (TO.u rfl rfl (TX.assign rfl rfl (TO.nil (TE.thenN rfl rfl (TC.ret (TE.fin (R := ⟨[], []⟩) (TL.ret (R' := ⟨[], []⟩) Try.results80 (.cons (.tmp rfl) .nil) (subD 0 0 rfl rfl) ⟨congrArg ret80 (Option.some.inj h), rfl⟩))))))))))
def fn93_l1 (p0 : List Int) (p1 : Int) : Nat → Int → Option ((Unit) ⊕ (Int))
  | 0, _ => none
  | n10 + 1, x5 => (bif decide (x5 < (p0.length : Int)) then (bif inb x5 p0.length then (bif p1 == (gt p0 x5) then (some (.inr x5)) else ((fn93_l1 p0 p1 n10) (IntKind.i64.wrap (x5 + 1)))) else none) else (some (.inl ())))
theorem fn93_l1_s (p0 : List Int) (p1 : Int) (n10 : Nat) (x5 : Int) : fn93_l1 p0 p1 (n10 + 1) x5 = (bif decide (x5 < (p0.length : Int)) then (bif inb x5 p0.length then (bif p1 == (gt p0 x5) then (some (.inr x5)) else ((fn93_l1 p0 p1 n10) (IntKind.i64.wrap (x5 + 1)))) else none) else (some (.inl ()))) := rfl
def fn93_k1 : Option (Int) :=
  (some (-1))
theorem fn93_k1_s : fn93_k1  = (some (-1)) := rfl
/-- slices.Index___int16,int16_ -/
def fn93 (F : Nat) (p0 : List Int) (p1 : Int) : Option (Int) :=
  (Option.bind (fn93_l1 p0 p1 F 0) fun o7 => (match o7 with | .inl u => fn93_k1  | .inr u => some u))
def ret93 (r : Int) : Value := .int .i64 r
theorem c93 (F : Nat) (sp_0 : Option Addr) (n_0 cap_0 : Nat) (p0 : List Int) (p1 : Int) (w : World) (r : Int) (qn0 : p0.length = n_0) (qc0 : p0.length ≤ cap_0) (qp0 : RdF (En.int .i16) w [] sp_0 p0) (h : fn93 F p0 p1 = some r) : Ret Try.prog 93 [.slice sp_0 n_0 cap_0, .int .i16 p1] w ⟨[], []⟩ (fun v R => v = ret93 r ∧ R = ⟨[], []⟩) := by
 unfold fn93 at h
 refine Ret.of_body Try.func93 rfl Try.ntmps93 rfl (fun _ hx => absurd hx List.not_mem_nil) List.nodup_nil (TC.seq (TC.region (TO.u rfl rfl (TX.assign rfl rfl (TO.nil (TE.thenN rfl rfl (TC.seq (TC.seq (TC.region (TO.u rfl rfl (TX.move rfl rfl (TO.u rfl rfl (TX.lenS (xs := p0) Try.runUnderlying110 rfl qn0 rfl (TO.u rfl rfl (TX.move rfl rfl (TO.nil (TE.thenN rfl rfl (TC.block ?_))))))))))))))))))
 obtain ⟨o7, hl8, h⟩ := bd h
 refine TC.to (L' := [(0, .slice sp_0 n_0 cap_0), (1, .int .i16 p1), (7, .int .i64 (p0.length : Int)), (8, .int .i64 0)]) (E' := []) (S' := []) 0 0 ⟨rfl, rfl, rfl, rfl, trivial⟩ rfl rfl (TC.cutE 0 (fun L' H' => .inl () = o7 ∧ L' = [] ∧ H' = ⟨[], []⟩) ?_ ?_)
 · have h012 := h
   clear h
   refine TC.loop (fun (n : Nat) (s : Int) => fn93_l1 p0 p1 n s) o7 (fun _ => rfl) (fun (x5 : Int) L' H' => L' = [(0, .slice sp_0 n_0 cap_0), (1, .int .i16 p1), (7, .int .i64 (p0.length : Int)), (8, .int .i64 x5)] ∧ H' = ⟨[], []⟩) ?_ F 0 ⟨rfl, rfl⟩ hl8
   clear hl8
   rintro K9 n10 x5 _ _ ⟨rfl, rfl⟩ h ih11
   replace h := (fn93_l1_s p0 p1 n10 x5).symm.trans h
   refine TC.seq (TC.region (TO.u rfl rfl (TX.ibin rfl rfl rfl rfl (TO.nil (TE.thenN rfl rfl (TC.seq (TC.cond rfl (fun hb13 => ?_) (fun hb13 => ?_))))))))
   · replace h := it h hb13
     refine TC.skip (TE.thenN rfl rfl (TC.seq (TC.block (TC.seq (TC.region (TO.u rfl rfl (TX.move rfl rfl (TO.u rfl rfl (TX.assign rfl rfl (TO.nil (TE.thenN rfl rfl (TC.seq (TC.region (TO.u rfl rfl (TX.move rfl rfl (TO.u rfl rfl (TX.move rfl rfl (TO.u rfl rfl (TX.move rfl rfl ?_)))))))))))))))))))
     obtain ⟨hk14, h⟩ := ck h
     refine TO.u rfl rfl (TX.indexR (N := (En.int .i16)) Try.runUnderlying110 Try.sizeOf25 rfl qn0 rfl (fun a w s => qp0 w s.ext) hk14 rfl (TO.u rfl rfl (TX.loadR1 (N := (En.int .i16)) Try.isAgg25 rfl (fun a w s => qp0 w s.ext) hk14 rfl rfl (TO.u rfl rfl (TX.ibin rfl rfl rfl rfl (TO.nil (TE.thenN rfl rfl (TC.cond rfl (fun hb15 => ?_) (fun hb15 => ?_)))))))))
     · replace h := it h hb15
       refine TC.seq (TC.region (TO.u rfl rfl (TX.move rfl rfl (TO.u rfl rfl (TX.assign rfl rfl (TO.nil (TE.thenN rfl rfl (TC.ret (TE.blockR (TE.thenR (TE.loopR (TE.cutR ?_))))))))))))
       have ho := Option.some.inj h
       subst ho
       replace h := h012
       exact TE.blockR (TE.thenR (TE.fin (R := ⟨[], []⟩) (TL.ret (R' := ⟨[], []⟩) Try.results93 (.cons (.tmp rfl) .nil) (subD 0 0 rfl rfl) ⟨congrArg ret93 (Option.some.inj h), rfl⟩)))
     replace h := ie h hb15
     exact TC.skip (TE.blockN (TE.thenN rfl rfl (TC.region (TO.u rfl rfl (TX.ibin rfl rfl rfl rfl (TO.u rfl rfl (TX.move rfl rfl (TO.nil (TE.to (L' := [(0, .slice sp_0 n_0 cap_0), (1, .int .i16 p1), (7, .int .i64 (p0.length : Int)), (8, .int .i64 (IntKind.i64.wrap (x5 + 1)))]) (E' := []) (S' := []) 0 0 ⟨rfl, rfl, rfl, rfl, trivial⟩ rfl rfl (ih11 (IntKind.i64.wrap (x5 + 1)) _ _ ⟨rfl, rfl⟩ h))))))))))
   replace h := ie h hb13
   exact TC.exit (TE.thenX (TE.loopX (TE.to (L' := []) (E' := []) (S' := []) 0 0 trivial rfl rfl (TE.cutE ⟨Option.some.inj h, rfl, rfl⟩))))
 rintro _ _ ⟨rfl, rfl, rfl⟩
 replace h := (fn93_k1_s ).symm.trans h
 exact TE.blockH (TE.thenN rfl rfl (TC.seq (TC.region (TO.u rfl rfl (TX.assign rfl rfl (TO.nil (TE.thenN rfl rfl (TC.ret (TE.fin (R := ⟨[], []⟩) (TL.ret (R' := ⟨[], []⟩) Try.results93 (.cons (.tmp rfl) .nil) (subD 0 0 rfl rfl) ⟨congrArg ret93 (Option.some.inj h), rfl⟩))))))))))
/-- slices.Contains___int16,int16_ -/
def fn81 (F : Nat) (p0 : List Int) (p1 : Int) : Option (Bool) :=
  (Option.bind (fn93 F p0 p1) fun v1 => (some (decide ((0 : Int) ≤ v1))))
def ret81 (r : Bool) : Value := .bool r
theorem c81 (F : Nat) (sp_0 : Option Addr) (n_0 cap_0 : Nat) (p0 : List Int) (p1 : Int) (w : World) (r : Bool) (qn0 : p0.length = n_0) (qc0 : p0.length ≤ cap_0) (qp0 : RdF (En.int .i16) w [] sp_0 p0) (h : fn81 F p0 p1 = some r) : Ret Try.prog 81 [.slice sp_0 n_0 cap_0, .int .i16 p1] w ⟨[], []⟩ (fun v R => v = ret81 r ∧ R = ⟨[], []⟩) := by
 unfold fn81 at h
 refine Ret.of_body Try.func81 rfl Try.ntmps81 rfl (fun _ hx => absurd hx List.not_mem_nil) List.nodup_nil (TC.seq (TC.region (TO.u rfl rfl (TX.assign rfl rfl (TO.nil (TE.thenN rfl rfl (TC.seq (TC.region (TO.u rfl rfl (TX.move rfl rfl (TO.u rfl rfl (TX.move rfl rfl ?_))))))))))))
 obtain ⟨v1, hv1, h⟩ := bd h
 exact TO.u rfl rfl (TX.callP Try.call93 rfl (fun a w s => c93 F _ _ _ p0 p1 _ _ qn0 qc0 (qp0.tr s.extB0) hv1) rfl (TO.u rfl rfl (TX.ibin rfl rfl rfl rfl (TO.u rfl rfl (TX.assign rfl rfl (TO.nil (TE.thenN rfl rfl (TC.ret (TE.fin (R := ⟨[], []⟩) (TL.ret (R' := ⟨[], []⟩) Try.results81 (.cons (.tmp rfl) .nil) (subD 0 0 rfl rfl) ⟨congrArg ret81 (Option.some.inj h), rfl⟩))))))))))
/-- (hatchway/shape.slot).arithmetic -/
def fn67 (F : Nat) (p0 : Slot) : Option (Bool) :=
  (bif p0.fop == 208 then (Option.bind (bif (p0.fInstr.fSrc == 0) && (p0.fInstr.fOff == 0) then (fn80 F ([16, 32, 64] : List Int) p0.fInstr.fImm) else some default) fun v8 => (some (((p0.fInstr.fSrc == 0) && (p0.fInstr.fOff == 0)) && v8))) else (bif p0.fop == 48 then (bif decide ((([0] : List Int).length + ([1] : List Int).length) * 2 ≤ 140737488355328 ∧ ([0] : List Int).length + ([1] : List Int).length ≤ 9223372036854775807) then (Option.bind (fn81 F (([0] : List Int) ++ ([1] : List Int)) p0.fInstr.fOff) fun v30 => (some ((v30 && (bif !p0.freg then (p0.fInstr.fSrc == 0) || (p0.freg && (p0.fInstr.fImm == 0)) else p0.freg && (p0.fInstr.fImm == 0))) && ((p0.fop != 128) || (p0.fInstr.fImm == 0))))) else none) else (bif p0.fop == 144 then (bif decide ((([0] : List Int).length + ([1] : List Int).length) * 2 ≤ 140737488355328 ∧ ([0] : List Int).length + ([1] : List Int).length ≤ 9223372036854775807) then (Option.bind (fn81 F (([0] : List Int) ++ ([1] : List Int)) p0.fInstr.fOff) fun v50 => (some ((v50 && (bif !p0.freg then (p0.fInstr.fSrc == 0) || (p0.freg && (p0.fInstr.fImm == 0)) else p0.freg && (p0.fInstr.fImm == 0))) && ((p0.fop != 128) || (p0.fInstr.fImm == 0))))) else none) else (bif ((p0.fop == 176) && p0.freg) && (p0.fclass == 7) then (bif decide ((([0] : List Int).length + ([8, 16, 32] : List Int).length) * 2 ≤ 140737488355328 ∧ ([0] : List Int).length + ([8, 16, 32] : List Int).length ≤ 9223372036854775807) then (Option.bind (fn81 F (([0] : List Int) ++ ([8, 16, 32] : List Int)) p0.fInstr.fOff) fun v72 => (some ((v72 && (bif !p0.freg then (p0.fInstr.fSrc == 0) || (p0.freg && (p0.fInstr.fImm == 0)) else p0.freg && (p0.fInstr.fImm == 0))) && ((p0.fop != 128) || (p0.fInstr.fImm == 0))))) else none) else (bif (p0.fop == 176) && p0.freg then (bif decide ((([0] : List Int).length + ([8, 16] : List Int).length) * 2 ≤ 140737488355328 ∧ ([0] : List Int).length + ([8, 16] : List Int).length ≤ 9223372036854775807) then (Option.bind (fn81 F (([0] : List Int) ++ ([8, 16] : List Int)) p0.fInstr.fOff) fun v93 => (some ((v93 && (bif !p0.freg then (p0.fInstr.fSrc == 0) || (p0.freg && (p0.fInstr.fImm == 0)) else p0.freg && (p0.fInstr.fImm == 0))) && ((p0.fop != 128) || (p0.fInstr.fImm == 0))))) else none) else (Option.bind (fn81 F ([0] : List Int) p0.fInstr.fOff) fun v101 => (some ((v101 && (bif !p0.freg then (p0.fInstr.fSrc == 0) || (p0.freg && (p0.fInstr.fImm == 0)) else p0.freg && (p0.fInstr.fImm == 0))) && ((p0.fop != 128) || (p0.fInstr.fImm == 0))))))))))
def ret67 (r : Bool) : Value := .bool r
set_option maxHeartbeats 8000000 in
theorem c67 (F : Nat) (p0 : Slot) (w : World) (r : Bool)  (h : fn67 F p0 = some r) : Ret Try.prog 67 [.agg #[.int .u8 p0.fInstr.fOp, .int .u8 p0.fInstr.fDst, .int .u8 p0.fInstr.fSrc, .int .i16 p0.fInstr.fOff, .int .i32 p0.fInstr.fImm, .int .u8 p0.fclass, .int .u8 p0.fop, .bool p0.freg]] w ⟨[], []⟩ (fun v R => v = ret67 r ∧ R = ⟨[], []⟩) := by
 unfold fn67 at h
 refine Ret.of_body Try.func67 rfl Try.ntmps67 rfl (fun _ hx => absurd hx List.not_mem_nil) List.nodup_nil (TC.seq (TC.region (TO.u rfl rfl (TX.box rfl rfl rfl (fun b1 => (TO.u rfl rfl (TX.assign rfl rfl (TO.nil (TE.thenN rfl rfl (TC.seq (TC.seq (TC.region (TO.u rfl rfl (TX.fieldAddr' Try.runUnderlying58 rfl Try.sizeOf5 rfl rfl rfl (TO.u rfl rfl (TX.load1 (i := 0) Try.isAgg5 rfl rfl rfl rfl (TO.u rfl rfl (TX.ibin rfl rfl rfl rfl (TO.nil (TE.thenN rfl rfl (TC.cond rfl (fun hb2 => ?_) (fun hb2 => ?_))))))))))))))))))))))
 · replace h := it h hb2
   refine TC.seq (TC.region (TO.u rfl rfl (TX.fieldAddr' Try.runUnderlying58 rfl Try.sizeOf27 rfl rfl rfl (TO.u rfl rfl (TX.fieldAddr' Try.runUnderlying27 rfl Try.sizeOf5 rfl rfl rfl (TO.u rfl rfl (TX.load1 (i := 0) Try.isAgg5 rfl rfl rfl rfl (TO.u rfl rfl (TX.ibin rfl rfl rfl rfl (TO.u rfl rfl (TX.move rfl rfl (TO.cutS 5 [(16, .bool ((p0.fInstr.fSrc == 0) && (p0.fInstr.fOff == 0)))] ?_ ?_))))))))))))
   · cases hc3 : (p0.fInstr.fSrc == 0)
     · exact TO.s rfl rfl rfl rfl rfl rfl (TO.s rfl rfl rfl rfl rfl rfl (TO.s rfl rfl rfl rfl rfl rfl (TO.s rfl rfl rfl rfl rfl rfl (TO.u rfl rfl (TX.pickF rfl rfl rfl (TO.nil (TE.cutS 5 rfl rfl ⟨rfl, trivial⟩)))))))
     exact TO.g rfl rfl rfl rfl (TX.fieldAddr' Try.runUnderlying58 rfl Try.sizeOf27 rfl rfl rfl (TO.g rfl rfl rfl rfl (TX.fieldAddr' Try.runUnderlying27 rfl Try.sizeOf25 rfl rfl rfl (TO.g rfl rfl rfl rfl (TX.load1 (i := 0) Try.isAgg25 rfl rfl rfl rfl (TO.g rfl rfl rfl rfl (TX.ibin rfl rfl rfl rfl (TO.u rfl rfl (TX.pickT rfl rfl rfl (TO.nil (TE.cutS 5 rfl rfl ⟨rfl, trivial⟩)))))))))))
   refine TO.u rfl rfl (TX.move rfl rfl ?_)
   obtain ⟨v8, hv8, h⟩ := bd h
   refine TO.cutS 6 [(23, .bool (((p0.fInstr.fSrc == 0) && (p0.fInstr.fOff == 0)) && v8))] ?_ ?_
   · cases hc9 : ((p0.fInstr.fSrc == 0) && (p0.fInstr.fOff == 0))
     · exact TO.s rfl rfl rfl rfl rfl rfl (TO.s rfl rfl rfl rfl rfl rfl (TO.s rfl rfl rfl rfl rfl rfl (TO.s rfl rfl rfl rfl rfl rfl (TO.s rfl rfl rfl rfl rfl rfl (TO.u rfl rfl (TX.pickF rfl rfl rfl (TO.nil (TE.cutS 6 rfl rfl ⟨rfl, trivial⟩))))))))
     exact TO.g rfl rfl rfl rfl (TX.buildS (N := (En.int .i32)) (ys := ([16, 32, 64] : List Int)) Try.runUnderlying109 Try.sizeOf21 Try.zeroValue21 rfl rfl rfl rfl (fillS [.int .i32 16, .int .i32 32, .int .i32 64] rfl rfl rfl rfl) rfl (fun sp10 Hs12 ho13 => (TO.g rfl rfl rfl rfl (TX.fieldAddr' Try.runUnderlying58 rfl Try.sizeOf27 rfl rfl rfl (TO.g rfl rfl rfl rfl (TX.fieldAddr' Try.runUnderlying27 rfl Try.sizeOf21 rfl rfl rfl (TO.g rfl rfl rfl rfl (TX.load1 (i := 0) Try.isAgg21 rfl rfl rfl rfl (TO.g rfl rfl rfl rfl (TX.callP Try.call80 rfl (fun a w s => c80 F _ _ _ ([16, 32, 64] : List Int) p0.fInstr.fImm _ _ rfl ho13.le_cap (ho13.rdf0 s (i := 0) rfl) (it hv8 hc9)) rfl (TO.u rfl rfl (TX.pickT rfl rfl rfl (TO.nil (TE.drop 0 1 rfl rfl (TE.cutS 6 rfl rfl ⟨rfl, trivial⟩)))))))))))))))
   exact TO.u rfl rfl (TX.assign rfl rfl (TO.nil (TE.thenN rfl rfl (TC.ret (TE.thenR (TE.fin (R := ⟨[], []⟩) (TL.ret (R' := ⟨[], []⟩) Try.results67 (.cons (.tmp rfl) .nil) (subD 1 0 rfl rfl) ⟨congrArg ret67 (Option.some.inj h), rfl⟩)))))))
 replace h := ie h hb2
 refine TC.skip (TE.thenN rfl rfl (TC.seq (TC.region (TO.u rfl rfl (TX.buildS (N := (En.int .i16)) (ys := ([0] : List Int)) Try.runUnderlying110 Try.sizeOf25 Try.zeroValue25 rfl rfl rfl rfl (fillS [.int .i16 0] rfl rfl rfl rfl) rfl (fun sp14 Hs16 ho17 => (TO.u rfl rfl (TX.assign rfl rfl (TO.nil (TE.thenN rfl rfl (TC.seq (TC.block (TC.seq (TC.seq (TC.region (TO.u rfl rfl (TX.fieldAddr' Try.runUnderlying58 rfl Try.sizeOf5 rfl rfl rfl (TO.u rfl rfl (TX.load1 (i := 0) Try.isAgg5 rfl rfl rfl rfl (TO.u rfl rfl (TX.ibin rfl rfl rfl rfl (TO.u rfl rfl (TX.assign rfl rfl (TO.nil (TE.thenN rfl rfl (TC.cond rfl (fun hb18 => ?_) (fun hb18 => ?_)))))))))))))))))))))))))))
 · replace h := it h hb18
   refine TC.skip (TE.thenN rfl rfl (TC.condT' rfl hb18 (TC.region (TO.u rfl rfl (TX.move rfl rfl (TO.u rfl rfl (TX.buildS (N := (En.int .i16)) (ys := ([1] : List Int)) Try.runUnderlying110 Try.sizeOf25 Try.zeroValue25 rfl rfl rfl rfl (fillS [.int .i16 1] rfl rfl rfl rfl) rfl (fun sp19 Hs21 ho22 => ?_))))))))
   obtain ⟨hk23, h⟩ := ck h
   refine TO.u rfl rfl (TX.appendS (N := (En.int .i16)) (si := 1) (xs := ([0] : List Int)) (ys := ([1] : List Int)) Try.runUnderlying110 Try.typeInfo25 rfl rfl rfl rfl rfl rfl rfl rfl rfl ho17 (fun a w s => ho22.rd s (i := 0) rfl) hk23 rfl (fun sp24 cap25 Hs26 _ S27 ho28 => ?_))
   cases S27
   refine TO.u rfl rfl (TX.assign rfl rfl (TO.nil (TE.blockN (TE.thenN rfl rfl (TC.seq (TC.region (TO.u rfl rfl (TX.move rfl rfl (TO.u rfl rfl (TX.fieldAddr' Try.runUnderlying58 rfl Try.sizeOf27 rfl rfl rfl (TO.u rfl rfl (TX.fieldAddr' Try.runUnderlying27 rfl Try.sizeOf25 rfl rfl rfl (TO.u rfl rfl (TX.load1 (i := 0) Try.isAgg25 rfl rfl rfl rfl ?_))))))))))))))
   obtain ⟨v30, hv30, h⟩ := bd h
   refine TO.u rfl rfl (TX.callP Try.call81 rfl (fun a w s => c81 F _ _ _ (([0] : List Int) ++ ([1] : List Int)) p0.fInstr.fOff _ _ rfl ho28.le_cap (ho28.rdf0 s (i := 1) rfl) hv30) rfl (TO.u rfl rfl (TX.move rfl rfl (TO.cutS 20 [(87, .bool (v30 && (bif !p0.freg then (p0.fInstr.fSrc == 0) || (p0.freg && (p0.fInstr.fImm == 0)) else p0.freg && (p0.fInstr.fImm == 0))))] ?_ ?_))))
   · cases hc31 : (v30)
     · exact TO.s rfl rfl rfl rfl rfl rfl (TO.s rfl rfl rfl rfl rfl rfl (TO.s rfl rfl rfl rfl rfl rfl (TO.s rfl rfl rfl rfl rfl rfl (TO.su rfl rfl rfl rfl rfl (TO.su rfl rfl rfl rfl rfl (TO.su rfl rfl rfl rfl rfl (TO.su rfl rfl rfl rfl rfl (TO.s rfl rfl rfl rfl rfl rfl (TO.s rfl rfl rfl rfl rfl rfl (TO.su rfl rfl rfl rfl rfl (TO.su rfl rfl rfl rfl rfl (TO.su rfl rfl rfl rfl rfl (TO.su rfl rfl rfl rfl rfl (TO.su rfl rfl rfl rfl rfl (TO.su rfl rfl rfl rfl rfl (TO.su rfl rfl rfl rfl rfl (TO.su rfl rfl rfl rfl rfl (TO.s rfl rfl rfl rfl rfl rfl (TO.u rfl rfl (TX.pickF rfl rfl rfl (TO.nil (TE.cutS 20 rfl rfl ⟨rfl, trivial⟩))))))))))))))))))))))
     refine TO.g rfl rfl rfl rfl (TX.fieldAddr' Try.runUnderlying58 rfl Try.sizeOf4 rfl rfl rfl (TO.g rfl rfl rfl rfl (TX.load1 (i := 0) Try.isAgg4 rfl rfl rfl rfl (TO.g rfl rfl rfl rfl (TX.not rfl rfl (TO.g rfl rfl rfl rfl (TX.move rfl rfl ?_)))))))
     cases hc32 : (!p0.freg)
     · refine TO.s rfl rfl rfl rfl rfl rfl (TO.s rfl rfl rfl rfl rfl rfl (TO.s rfl rfl rfl rfl rfl rfl (TO.s rfl rfl rfl rfl rfl rfl (TO.g rfl rfl rfl rfl (TX.pickF rfl rfl rfl (TO.g rfl rfl rfl rfl (TX.move rfl rfl (TO.g rfl rfl rfl rfl (TX.fieldAddr' Try.runUnderlying58 rfl Try.sizeOf4 rfl rfl rfl (TO.g rfl rfl rfl rfl (TX.load1 (i := 0) Try.isAgg4 rfl rfl rfl rfl (TO.g rfl rfl rfl rfl (TX.move rfl rfl ?_)))))))))))))
       cases hc33 : (p0.freg)
       · exact TO.s rfl rfl rfl rfl rfl rfl (TO.s rfl rfl rfl rfl rfl rfl (TO.s rfl rfl rfl rfl rfl rfl (TO.s rfl rfl rfl rfl rfl rfl (TO.g rfl rfl rfl rfl (TX.pickF rfl rfl rfl (TO.g rfl rfl rfl rfl (TX.pickF rfl rfl rfl (TO.u rfl rfl (TX.pickT rfl rfl rfl (TO.nil (TE.cutS 20 rfl rfl ⟨rfl, trivial⟩)))))))))))
       exact TO.g rfl rfl rfl rfl (TX.fieldAddr' Try.runUnderlying58 rfl Try.sizeOf27 rfl rfl rfl (TO.g rfl rfl rfl rfl (TX.fieldAddr' Try.runUnderlying27 rfl Try.sizeOf21 rfl rfl rfl (TO.g rfl rfl rfl rfl (TX.load1 (i := 0) Try.isAgg21 rfl rfl rfl rfl (TO.g rfl rfl rfl rfl (TX.ibin rfl rfl rfl rfl (TO.g rfl rfl rfl rfl (TX.pickT rfl rfl rfl (TO.g rfl rfl rfl rfl (TX.pickF rfl rfl rfl (TO.u rfl rfl (TX.pickT rfl rfl rfl (TO.nil (TE.cutS 20 rfl rfl ⟨rfl, trivial⟩)))))))))))))))
     refine TO.g rfl rfl rfl rfl (TX.fieldAddr' Try.runUnderlying58 rfl Try.sizeOf27 rfl rfl rfl (TO.g rfl rfl rfl rfl (TX.fieldAddr' Try.runUnderlying27 rfl Try.sizeOf5 rfl rfl rfl (TO.g rfl rfl rfl rfl (TX.load1 (i := 0) Try.isAgg5 rfl rfl rfl rfl (TO.g rfl rfl rfl rfl (TX.ibin rfl rfl rfl rfl (TO.g rfl rfl rfl rfl (TX.pickT rfl rfl rfl (TO.g rfl rfl rfl rfl (TX.move rfl rfl ?_)))))))))))
     cases hc34 : (p0.fInstr.fSrc == 0)
     · refine TO.g rfl rfl rfl rfl (TX.fieldAddr' Try.runUnderlying58 rfl Try.sizeOf4 rfl rfl rfl (TO.g rfl rfl rfl rfl (TX.load1 (i := 0) Try.isAgg4 rfl rfl rfl rfl (TO.g rfl rfl rfl rfl (TX.move rfl rfl ?_)))))
       cases hc35 : (p0.freg)
       · exact TO.s rfl rfl rfl rfl rfl rfl (TO.s rfl rfl rfl rfl rfl rfl (TO.s rfl rfl rfl rfl rfl rfl (TO.s rfl rfl rfl rfl rfl rfl (TO.g rfl rfl rfl rfl (TX.pickF rfl rfl rfl (TO.g rfl rfl rfl rfl (TX.pickF rfl rfl rfl (TO.u rfl rfl (TX.pickT rfl rfl rfl (TO.nil (TE.cutS 20 rfl rfl ⟨rfl, trivial⟩)))))))))))
       exact TO.g rfl rfl rfl rfl (TX.fieldAddr' Try.runUnderlying58 rfl Try.sizeOf27 rfl rfl rfl (TO.g rfl rfl rfl rfl (TX.fieldAddr' Try.runUnderlying27 rfl Try.sizeOf21 rfl rfl rfl (TO.g rfl rfl rfl rfl (TX.load1 (i := 0) Try.isAgg21 rfl rfl rfl rfl (TO.g rfl rfl rfl rfl (TX.ibin rfl rfl rfl rfl (TO.g rfl rfl rfl rfl (TX.pickT rfl rfl rfl (TO.g rfl rfl rfl rfl (TX.pickF rfl rfl rfl (TO.u rfl rfl (TX.pickT rfl rfl rfl (TO.nil (TE.cutS 20 rfl rfl ⟨rfl, trivial⟩)))))))))))))))
     exact TO.s rfl rfl rfl rfl rfl rfl (TO.s rfl rfl rfl rfl rfl rfl (TO.s rfl rfl rfl rfl rfl rfl (TO.su rfl rfl rfl rfl rfl (TO.su rfl rfl rfl rfl rfl (TO.su rfl rfl rfl rfl rfl (TO.su rfl rfl rfl rfl rfl (TO.s rfl rfl rfl rfl rfl rfl (TO.g rfl rfl rfl rfl (TX.pickT rfl rfl rfl (TO.u rfl rfl (TX.pickT rfl rfl rfl (TO.nil (TE.cutS 20 rfl rfl ⟨rfl, trivial⟩)))))))))))))
   refine TO.u rfl rfl (TX.move rfl rfl (TO.cutS 10 [(98, .bool ((v30 && (bif !p0.freg then (p0.fInstr.fSrc == 0) || (p0.freg && (p0.fInstr.fImm == 0)) else p0.freg && (p0.fInstr.fImm == 0))) && ((p0.fop != 128) || (p0.fInstr.fImm == 0))))] ?_ ?_))
   · cases hc36 : (v30 && (bif !p0.freg then (p0.fInstr.fSrc == 0) || (p0.freg && (p0.fInstr.fImm == 0)) else p0.freg && (p0.fInstr.fImm == 0)))
     · exact TO.s rfl rfl rfl rfl rfl rfl (TO.s rfl rfl rfl rfl rfl rfl (TO.s rfl rfl rfl rfl rfl rfl (TO.s rfl rfl rfl rfl rfl rfl (TO.su rfl rfl rfl rfl rfl (TO.su rfl rfl rfl rfl rfl (TO.su rfl rfl rfl rfl rfl (TO.su rfl rfl rfl rfl rfl (TO.s rfl rfl rfl rfl rfl rfl (TO.u rfl rfl (TX.pickF rfl rfl rfl (TO.nil (TE.cutS 10 rfl rfl ⟨rfl, trivial⟩))))))))))))
     refine TO.g rfl rfl rfl rfl (TX.fieldAddr' Try.runUnderlying58 rfl Try.sizeOf5 rfl rfl rfl (TO.g rfl rfl rfl rfl (TX.load1 (i := 0) Try.isAgg5 rfl rfl rfl rfl (TO.g rfl rfl rfl rfl (TX.ibin rfl rfl rfl rfl (TO.g rfl rfl rfl rfl (TX.move rfl rfl ?_)))))))
     cases hc37 : (p0.fop != 128)
     · exact TO.g rfl rfl rfl rfl (TX.fieldAddr' Try.runUnderlying58 rfl Try.sizeOf27 rfl rfl rfl (TO.g rfl rfl rfl rfl (TX.fieldAddr' Try.runUnderlying27 rfl Try.sizeOf21 rfl rfl rfl (TO.g rfl rfl rfl rfl (TX.load1 (i := 0) Try.isAgg21 rfl rfl rfl rfl (TO.g rfl rfl rfl rfl (TX.ibin rfl rfl rfl rfl (TO.g rfl rfl rfl rfl (TX.pickF rfl rfl rfl (TO.u rfl rfl (TX.pickT rfl rfl rfl (TO.nil (TE.cutS 10 rfl rfl ⟨rfl, trivial⟩)))))))))))))
     exact TO.s rfl rfl rfl rfl rfl rfl (TO.s rfl rfl rfl rfl rfl rfl (TO.s rfl rfl rfl rfl rfl rfl (TO.s rfl rfl rfl rfl rfl rfl (TO.g rfl rfl rfl rfl (TX.pickT rfl rfl rfl (TO.u rfl rfl (TX.pickT rfl rfl rfl (TO.nil (TE.cutS 10 rfl rfl ⟨rfl, trivial⟩)))))))))
   exact TO.u rfl rfl (TX.assign rfl rfl (TO.nil (TE.thenN rfl rfl (TC.ret (TE.fin (R := ⟨[], []⟩) (TL.ret (R' := ⟨[], []⟩) Try.results67 (.cons (.tmp rfl) .nil) (subD 1 2 rfl rfl) ⟨congrArg ret67 (Option.some.inj h), rfl⟩))))))
 replace h := ie h hb18
 refine TC.region (TO.u rfl rfl (TX.fieldAddr' Try.runUnderlying58 rfl Try.sizeOf5 rfl rfl rfl (TO.u rfl rfl (TX.load1 (i := 0) Try.isAgg5 rfl rfl rfl rfl (TO.u rfl rfl (TX.ibin rfl rfl rfl rfl (TO.u rfl rfl (TX.assign rfl rfl (TO.nil (TE.thenN rfl rfl (TC.cond rfl (fun hb38 => ?_) (fun hb38 => ?_))))))))))))
 · replace h := it h hb38
   refine TC.region (TO.u rfl rfl (TX.move rfl rfl (TO.u rfl rfl (TX.buildS (N := (En.int .i16)) (ys := ([1] : List Int)) Try.runUnderlying110 Try.sizeOf25 Try.zeroValue25 rfl rfl rfl rfl (fillS [.int .i16 1] rfl rfl rfl rfl) rfl (fun sp39 Hs41 ho42 => ?_)))))
   obtain ⟨hk43, h⟩ := ck h
   refine TO.u rfl rfl (TX.appendS (N := (En.int .i16)) (si := 1) (xs := ([0] : List Int)) (ys := ([1] : List Int)) Try.runUnderlying110 Try.typeInfo25 rfl rfl rfl rfl rfl rfl rfl rfl rfl ho17 (fun a w s => ho42.rd s (i := 0) rfl) hk43 rfl (fun sp44 cap45 Hs46 _ S47 ho48 => ?_))
   cases S47
   refine TO.u rfl rfl (TX.assign rfl rfl (TO.nil (TE.blockN (TE.thenN rfl rfl (TC.seq (TC.region (TO.u rfl rfl (TX.move rfl rfl (TO.u rfl rfl (TX.fieldAddr' Try.runUnderlying58 rfl Try.sizeOf27 rfl rfl rfl (TO.u rfl rfl (TX.fieldAddr' Try.runUnderlying27 rfl Try.sizeOf25 rfl rfl rfl (TO.u rfl rfl (TX.load1 (i := 0) Try.isAgg25 rfl rfl rfl rfl ?_))))))))))))))
   obtain ⟨v50, hv50, h⟩ := bd h
   refine TO.u rfl rfl (TX.callP Try.call81 rfl (fun a w s => c81 F _ _ _ (([0] : List Int) ++ ([1] : List Int)) p0.fInstr.fOff _ _ rfl ho48.le_cap (ho48.rdf0 s (i := 1) rfl) hv50) rfl (TO.u rfl rfl (TX.move rfl rfl (TO.cutS 20 [(87, .bool (v50 && (bif !p0.freg then (p0.fInstr.fSrc == 0) || (p0.freg && (p0.fInstr.fImm == 0)) else p0.freg && (p0.fInstr.fImm == 0))))] ?_ ?_))))
   · cases hc51 : (v50)
     · exact TO.s rfl rfl rfl rfl rfl rfl (TO.s rfl rfl rfl rfl rfl rfl (TO.s rfl rfl rfl rfl rfl rfl (TO.s rfl rfl rfl rfl rfl rfl (TO.su rfl rfl rfl rfl rfl (TO.su rfl rfl rfl rfl rfl (TO.su rfl rfl rfl rfl rfl (TO.su rfl rfl rfl rfl rfl (TO.s rfl rfl rfl rfl rfl rfl (TO.s rfl rfl rfl rfl rfl rfl (TO.su rfl rfl rfl rfl rfl (TO.su rfl rfl rfl rfl rfl (TO.su rfl rfl rfl rfl rfl (TO.su rfl rfl rfl rfl rfl (TO.su rfl rfl rfl rfl rfl (TO.su rfl rfl rfl rfl rfl (TO.su rfl rfl rfl rfl rfl (TO.su rfl rfl rfl rfl rfl (TO.s rfl rfl rfl rfl rfl rfl (TO.u rfl rfl (TX.pickF rfl rfl rfl (TO.nil (TE.cutS 20 rfl rfl ⟨rfl, trivial⟩))))))))))))))))))))))
     refine TO.g rfl rfl rfl rfl (TX.fieldAddr' Try.runUnderlying58 rfl Try.sizeOf4 rfl rfl rfl (TO.g rfl rfl rfl rfl (TX.load1 (i := 0) Try.isAgg4 rfl rfl rfl rfl (TO.g rfl rfl rfl rfl (TX.not rfl rfl (TO.g rfl rfl rfl rfl (TX.move rfl rfl ?_)))))))
     cases hc52 : (!p0.freg)
     · refine TO.s rfl rfl rfl rfl rfl rfl (TO.s rfl rfl rfl rfl rfl rfl (TO.s rfl rfl rfl rfl rfl rfl (TO.s rfl rfl rfl rfl rfl rfl (TO.g rfl rfl rfl rfl (TX.pickF rfl rfl rfl (TO.g rfl rfl rfl rfl (TX.move rfl rfl (TO.g rfl rfl rfl rfl (TX.fieldAddr' Try.runUnderlying58 rfl Try.sizeOf4 rfl rfl rfl (TO.g rfl rfl rfl rfl (TX.load1 (i := 0) Try.isAgg4 rfl rfl rfl rfl (TO.g rfl rfl rfl rfl (TX.move rfl rfl ?_)))))))))))))
       cases hc53 : (p0.freg)
       · exact TO.s rfl rfl rfl rfl rfl rfl (TO.s rfl rfl rfl rfl rfl rfl (TO.s rfl rfl rfl rfl rfl rfl (TO.s rfl rfl rfl rfl rfl rfl (TO.g rfl rfl rfl rfl (TX.pickF rfl rfl rfl (TO.g rfl rfl rfl rfl (TX.pickF rfl rfl rfl (TO.u rfl rfl (TX.pickT rfl rfl rfl (TO.nil (TE.cutS 20 rfl rfl ⟨rfl, trivial⟩)))))))))))
       exact TO.g rfl rfl rfl rfl (TX.fieldAddr' Try.runUnderlying58 rfl Try.sizeOf27 rfl rfl rfl (TO.g rfl rfl rfl rfl (TX.fieldAddr' Try.runUnderlying27 rfl Try.sizeOf21 rfl rfl rfl (TO.g rfl rfl rfl rfl (TX.load1 (i := 0) Try.isAgg21 rfl rfl rfl rfl (TO.g rfl rfl rfl rfl (TX.ibin rfl rfl rfl rfl (TO.g rfl rfl rfl rfl (TX.pickT rfl rfl rfl (TO.g rfl rfl rfl rfl (TX.pickF rfl rfl rfl (TO.u rfl rfl (TX.pickT rfl rfl rfl (TO.nil (TE.cutS 20 rfl rfl ⟨rfl, trivial⟩)))))))))))))))
     refine TO.g rfl rfl rfl rfl (TX.fieldAddr' Try.runUnderlying58 rfl Try.sizeOf27 rfl rfl rfl (TO.g rfl rfl rfl rfl (TX.fieldAddr' Try.runUnderlying27 rfl Try.sizeOf5 rfl rfl rfl (TO.g rfl rfl rfl rfl (TX.load1 (i := 0) Try.isAgg5 rfl rfl rfl rfl (TO.g rfl rfl rfl rfl (TX.ibin rfl rfl rfl rfl (TO.g rfl rfl rfl rfl (TX.pickT rfl rfl rfl (TO.g rfl rfl rfl rfl (TX.move rfl rfl ?_)))))))))))
     cases hc54 : (p0.fInstr.fSrc == 0)
     · refine TO.g rfl rfl rfl rfl (TX.fieldAddr' Try.runUnderlying58 rfl Try.sizeOf4 rfl rfl rfl (TO.g rfl rfl rfl rfl (TX.load1 (i := 0) Try.isAgg4 rfl rfl rfl rfl (TO.g rfl rfl rfl rfl (TX.move rfl rfl ?_)))))
       cases hc55 : (p0.freg)
       · exact TO.s rfl rfl rfl rfl rfl rfl (TO.s rfl rfl rfl rfl rfl rfl (TO.s rfl rfl rfl rfl rfl rfl (TO.s rfl rfl rfl rfl rfl rfl (TO.g rfl rfl rfl rfl (TX.pickF rfl rfl rfl (TO.g rfl rfl rfl rfl (TX.pickF rfl rfl rfl (TO.u rfl rfl (TX.pickT rfl rfl rfl (TO.nil (TE.cutS 20 rfl rfl ⟨rfl, trivial⟩)))))))))))
       exact TO.g rfl rfl rfl rfl (TX.fieldAddr' Try.runUnderlying58 rfl Try.sizeOf27 rfl rfl rfl (TO.g rfl rfl rfl rfl (TX.fieldAddr' Try.runUnderlying27 rfl Try.sizeOf21 rfl rfl rfl (TO.g rfl rfl rfl rfl (TX.load1 (i := 0) Try.isAgg21 rfl rfl rfl rfl (TO.g rfl rfl rfl rfl (TX.ibin rfl rfl rfl rfl (TO.g rfl rfl rfl rfl (TX.pickT rfl rfl rfl (TO.g rfl rfl rfl rfl (TX.pickF rfl rfl rfl (TO.u rfl rfl (TX.pickT rfl rfl rfl (TO.nil (TE.cutS 20 rfl rfl ⟨rfl, trivial⟩)))))))))))))))
     exact TO.s rfl rfl rfl rfl rfl rfl (TO.s rfl rfl rfl rfl rfl rfl (TO.s rfl rfl rfl rfl rfl rfl (TO.su rfl rfl rfl rfl rfl (TO.su rfl rfl rfl rfl rfl (TO.su rfl rfl rfl rfl rfl (TO.su rfl rfl rfl rfl rfl (TO.s rfl rfl rfl rfl rfl rfl (TO.g rfl rfl rfl rfl (TX.pickT rfl rfl rfl (TO.u rfl rfl (TX.pickT rfl rfl rfl (TO.nil (TE.cutS 20 rfl rfl ⟨rfl, trivial⟩)))))))))))))
   refine TO.u rfl rfl (TX.move rfl rfl (TO.cutS 10 [(98, .bool ((v50 && (bif !p0.freg then (p0.fInstr.fSrc == 0) || (p0.freg && (p0.fInstr.fImm == 0)) else p0.freg && (p0.fInstr.fImm == 0))) && ((p0.fop != 128) || (p0.fInstr.fImm == 0))))] ?_ ?_))
   · cases hc56 : (v50 && (bif !p0.freg then (p0.fInstr.fSrc == 0) || (p0.freg && (p0.fInstr.fImm == 0)) else p0.freg && (p0.fInstr.fImm == 0)))
     · exact TO.s rfl rfl rfl rfl rfl rfl (TO.s rfl rfl rfl rfl rfl rfl (TO.s rfl rfl rfl rfl rfl rfl (TO.s rfl rfl rfl rfl rfl rfl (TO.su rfl rfl rfl rfl rfl (TO.su rfl rfl rfl rfl rfl (TO.su rfl rfl rfl rfl rfl (TO.su rfl rfl rfl rfl rfl (TO.s rfl rfl rfl rfl rfl rfl (TO.u rfl rfl (TX.pickF rfl rfl rfl (TO.nil (TE.cutS 10 rfl rfl ⟨rfl, trivial⟩))))))))))))
     refine TO.g rfl rfl rfl rfl (TX.fieldAddr' Try.runUnderlying58 rfl Try.sizeOf5 rfl rfl rfl (TO.g rfl rfl rfl rfl (TX.load1 (i := 0) Try.isAgg5 rfl rfl rfl rfl (TO.g rfl rfl rfl rfl (TX.ibin rfl rfl rfl rfl (TO.g rfl rfl rfl rfl (TX.move rfl rfl ?_)))))))
     cases hc57 : (p0.fop != 128)
     · exact TO.g rfl rfl rfl rfl (TX.fieldAddr' Try.runUnderlying58 rfl Try.sizeOf27 rfl rfl rfl (TO.g rfl rfl rfl rfl (TX.fieldAddr' Try.runUnderlying27 rfl Try.sizeOf21 rfl rfl rfl (TO.g rfl rfl rfl rfl (TX.load1 (i := 0) Try.isAgg21 rfl rfl rfl rfl (TO.g rfl rfl rfl rfl (TX.ibin rfl rfl rfl rfl (TO.g rfl rfl rfl rfl (TX.pickF rfl rfl rfl (TO.u rfl rfl (TX.pickT rfl rfl rfl (TO.nil (TE.cutS 10 rfl rfl ⟨rfl, trivial⟩)))))))))))))
     exact TO.s rfl rfl rfl rfl rfl rfl (TO.s rfl rfl rfl rfl rfl rfl (TO.s rfl rfl rfl rfl rfl rfl (TO.s rfl rfl rfl rfl rfl rfl (TO.g rfl rfl rfl rfl (TX.pickT rfl rfl rfl (TO.u rfl rfl (TX.pickT rfl rfl rfl (TO.nil (TE.cutS 10 rfl rfl ⟨rfl, trivial⟩)))))))))
   exact TO.u rfl rfl (TX.assign rfl rfl (TO.nil (TE.thenN rfl rfl (TC.ret (TE.fin (R := ⟨[], []⟩) (TL.ret (R' := ⟨[], []⟩) Try.results67 (.cons (.tmp rfl) .nil) (subD 1 2 rfl rfl) ⟨congrArg ret67 (Option.some.inj h), rfl⟩))))))
 replace h := ie h hb38
 refine TC.seq (TC.region (TO.u rfl rfl (TX.fieldAddr' Try.runUnderlying58 rfl Try.sizeOf5 rfl rfl rfl (TO.u rfl rfl (TX.load1 (i := 0) Try.isAgg5 rfl rfl rfl rfl (TO.u rfl rfl (TX.ibin rfl rfl rfl rfl (TO.u rfl rfl (TX.move rfl rfl (TO.cutS 3 [(42, .bool ((p0.fop == 176) && p0.freg))] ?_ ?_))))))))))
 · cases hc58 : (p0.fop == 176)
   · exact TO.s rfl rfl rfl rfl rfl rfl (TO.s rfl rfl rfl rfl rfl rfl (TO.u rfl rfl (TX.pickF rfl rfl rfl (TO.nil (TE.cutS 3 rfl rfl ⟨rfl, trivial⟩)))))
   exact TO.g rfl rfl rfl rfl (TX.fieldAddr' Try.runUnderlying58 rfl Try.sizeOf4 rfl rfl rfl (TO.g rfl rfl rfl rfl (TX.load1 (i := 0) Try.isAgg4 rfl rfl rfl rfl (TO.u rfl rfl (TX.pickT rfl rfl rfl (TO.nil (TE.cutS 3 rfl rfl ⟨rfl, trivial⟩)))))))
 refine TO.u rfl rfl (TX.move rfl rfl (TO.cutS 4 [(47, .bool (((p0.fop == 176) && p0.freg) && (p0.fclass == 7)))] ?_ ?_))
 · cases hc59 : ((p0.fop == 176) && p0.freg)
   · exact TO.s rfl rfl rfl rfl rfl rfl (TO.s rfl rfl rfl rfl rfl rfl (TO.s rfl rfl rfl rfl rfl rfl (TO.u rfl rfl (TX.pickF rfl rfl rfl (TO.nil (TE.cutS 4 rfl rfl ⟨rfl, trivial⟩))))))
   exact TO.g rfl rfl rfl rfl (TX.fieldAddr' Try.runUnderlying58 rfl Try.sizeOf5 rfl rfl rfl (TO.g rfl rfl rfl rfl (TX.load1 (i := 0) Try.isAgg5 rfl rfl rfl rfl (TO.g rfl rfl rfl rfl (TX.ibin rfl rfl rfl rfl (TO.u rfl rfl (TX.pickT rfl rfl rfl (TO.nil (TE.cutS 4 rfl rfl ⟨rfl, trivial⟩)))))))))
 refine TO.u rfl rfl (TX.assign rfl rfl (TO.nil (TE.thenN rfl rfl (TC.cond rfl (fun hb60 => ?_) (fun hb60 => ?_)))))
 · replace h := it h hb60
   refine TC.region (TO.u rfl rfl (TX.move rfl rfl (TO.u rfl rfl (TX.buildS (N := (En.int .i16)) (ys := ([8, 16, 32] : List Int)) Try.runUnderlying110 Try.sizeOf25 Try.zeroValue25 rfl rfl rfl rfl (fillS [.int .i16 8, .int .i16 16, .int .i16 32] rfl rfl rfl rfl) rfl (fun sp61 Hs63 ho64 => ?_)))))
   obtain ⟨hk65, h⟩ := ck h
   refine TO.u rfl rfl (TX.appendS (N := (En.int .i16)) (si := 1) (xs := ([0] : List Int)) (ys := ([8, 16, 32] : List Int)) Try.runUnderlying110 Try.typeInfo25 rfl rfl rfl rfl rfl rfl rfl rfl rfl ho17 (fun a w s => ho64.rd s (i := 0) rfl) hk65 rfl (fun sp66 cap67 Hs68 _ S69 ho70 => ?_))
   cases S69
   refine TO.u rfl rfl (TX.assign rfl rfl (TO.nil (TE.blockN (TE.thenN rfl rfl (TC.seq (TC.region (TO.u rfl rfl (TX.move rfl rfl (TO.u rfl rfl (TX.fieldAddr' Try.runUnderlying58 rfl Try.sizeOf27 rfl rfl rfl (TO.u rfl rfl (TX.fieldAddr' Try.runUnderlying27 rfl Try.sizeOf25 rfl rfl rfl (TO.u rfl rfl (TX.load1 (i := 0) Try.isAgg25 rfl rfl rfl rfl ?_))))))))))))))
   obtain ⟨v72, hv72, h⟩ := bd h
   refine TO.u rfl rfl (TX.callP Try.call81 rfl (fun a w s => c81 F _ _ _ (([0] : List Int) ++ ([8, 16, 32] : List Int)) p0.fInstr.fOff _ _ rfl ho70.le_cap (ho70.rdf0 s (i := 1) rfl) hv72) rfl (TO.u rfl rfl (TX.move rfl rfl (TO.cutS 20 [(87, .bool (v72 && (bif !p0.freg then (p0.fInstr.fSrc == 0) || (p0.freg && (p0.fInstr.fImm == 0)) else p0.freg && (p0.fInstr.fImm == 0))))] ?_ ?_))))
   · cases hc73 : (v72)
     · exact TO.s rfl rfl rfl rfl rfl rfl (TO.s rfl rfl rfl rfl rfl rfl (TO.s rfl rfl rfl rfl rfl rfl (TO.s rfl rfl rfl rfl rfl rfl (TO.su rfl rfl rfl rfl rfl (TO.su rfl rfl rfl rfl rfl (TO.su rfl rfl rfl rfl rfl (TO.su rfl rfl rfl rfl rfl (TO.s rfl rfl rfl rfl rfl rfl (TO.s rfl rfl rfl rfl rfl rfl (TO.su rfl rfl rfl rfl rfl (TO.su rfl rfl rfl rfl rfl (TO.su rfl rfl rfl rfl rfl (TO.su rfl rfl rfl rfl rfl (TO.su rfl rfl rfl rfl rfl (TO.su rfl rfl rfl rfl rfl (TO.su rfl rfl rfl rfl rfl (TO.su rfl rfl rfl rfl rfl (TO.s rfl rfl rfl rfl rfl rfl (TO.u rfl rfl (TX.pickF rfl rfl rfl (TO.nil (TE.cutS 20 rfl rfl ⟨rfl, trivial⟩))))))))))))))))))))))
     refine TO.g rfl rfl rfl rfl (TX.fieldAddr' Try.runUnderlying58 rfl Try.sizeOf4 rfl rfl rfl (TO.g rfl rfl rfl rfl (TX.load1 (i := 0) Try.isAgg4 rfl rfl rfl rfl (TO.g rfl rfl rfl rfl (TX.not rfl rfl (TO.g rfl rfl rfl rfl (TX.move rfl rfl ?_)))))))
     cases hc74 : (!p0.freg)
     · refine TO.s rfl rfl rfl rfl rfl rfl (TO.s rfl rfl rfl rfl rfl rfl (TO.s rfl rfl rfl rfl rfl rfl (TO.s rfl rfl rfl rfl rfl rfl (TO.g rfl rfl rfl rfl (TX.pickF rfl rfl rfl (TO.g rfl rfl rfl rfl (TX.move rfl rfl (TO.g rfl rfl rfl rfl (TX.fieldAddr' Try.runUnderlying58 rfl Try.sizeOf4 rfl rfl rfl (TO.g rfl rfl rfl rfl (TX.load1 (i := 0) Try.isAgg4 rfl rfl rfl rfl (TO.g rfl rfl rfl rfl (TX.move rfl rfl ?_)))))))))))))
       cases hc75 : (p0.freg)
       · exact TO.s rfl rfl rfl rfl rfl rfl (TO.s rfl rfl rfl rfl rfl rfl (TO.s rfl rfl rfl rfl rfl rfl (TO.s rfl rfl rfl rfl rfl rfl (TO.g rfl rfl rfl rfl (TX.pickF rfl rfl rfl (TO.g rfl rfl rfl rfl (TX.pickF rfl rfl rfl (TO.u rfl rfl (TX.pickT rfl rfl rfl (TO.nil (TE.cutS 20 rfl rfl ⟨rfl, trivial⟩)))))))))))
       exact TO.g rfl rfl rfl rfl (TX.fieldAddr' Try.runUnderlying58 rfl Try.sizeOf27 rfl rfl rfl (TO.g rfl rfl rfl rfl (TX.fieldAddr' Try.runUnderlying27 rfl Try.sizeOf21 rfl rfl rfl (TO.g rfl rfl rfl rfl (TX.load1 (i := 0) Try.isAgg21 rfl rfl rfl rfl (TO.g rfl rfl rfl rfl (TX.ibin rfl rfl rfl rfl (TO.g rfl rfl rfl rfl (TX.pickT rfl rfl rfl (TO.g rfl rfl rfl rfl (TX.pickF rfl rfl rfl (TO.u rfl rfl (TX.pickT rfl rfl rfl (TO.nil (TE.cutS 20 rfl rfl ⟨rfl, trivial⟩)))))))))))))))
     refine TO.g rfl rfl rfl rfl (TX.fieldAddr' Try.runUnderlying58 rfl Try.sizeOf27 rfl rfl rfl (TO.g rfl rfl rfl rfl (TX.fieldAddr' Try.runUnderlying27 rfl Try.sizeOf5 rfl rfl rfl (TO.g rfl rfl rfl rfl (TX.load1 (i := 0) Try.isAgg5 rfl rfl rfl rfl (TO.g rfl rfl rfl rfl (TX.ibin rfl rfl rfl rfl (TO.g rfl rfl rfl rfl (TX.pickT rfl rfl rfl (TO.g rfl rfl rfl rfl (TX.move rfl rfl ?_)))))))))))
     cases hc76 : (p0.fInstr.fSrc == 0)
     · refine TO.g rfl rfl rfl rfl (TX.fieldAddr' Try.runUnderlying58 rfl Try.sizeOf4 rfl rfl rfl (TO.g rfl rfl rfl rfl (TX.load1 (i := 0) Try.isAgg4 rfl rfl rfl rfl (TO.g rfl rfl rfl rfl (TX.move rfl rfl ?_)))))
       cases hc77 : (p0.freg)
       · exact TO.s rfl rfl rfl rfl rfl rfl (TO.s rfl rfl rfl rfl rfl rfl (TO.s rfl rfl rfl rfl rfl rfl (TO.s rfl rfl rfl rfl rfl rfl (TO.g rfl rfl rfl rfl (TX.pickF rfl rfl rfl (TO.g rfl rfl rfl rfl (TX.pickF rfl rfl rfl (TO.u rfl rfl (TX.pickT rfl rfl rfl (TO.nil (TE.cutS 20 rfl rfl ⟨rfl, trivial⟩)))))))))))
       exact TO.g rfl rfl rfl rfl (TX.fieldAddr' Try.runUnderlying58 rfl Try.sizeOf27 rfl rfl rfl (TO.g rfl rfl rfl rfl (TX.fieldAddr' Try.runUnderlying27 rfl Try.sizeOf21 rfl rfl rfl (TO.g rfl rfl rfl rfl (TX.load1 (i := 0) Try.isAgg21 rfl rfl rfl rfl (TO.g rfl rfl rfl rfl (TX.ibin rfl rfl rfl rfl (TO.g rfl rfl rfl rfl (TX.pickT rfl rfl rfl (TO.g rfl rfl rfl rfl (TX.pickF rfl rfl rfl (TO.u rfl rfl (TX.pickT rfl rfl rfl (TO.nil (TE.cutS 20 rfl rfl ⟨rfl, trivial⟩)))))))))))))))
     exact TO.s rfl rfl rfl rfl rfl rfl (TO.s rfl rfl rfl rfl rfl rfl (TO.s rfl rfl rfl rfl rfl rfl (TO.su rfl rfl rfl rfl rfl (TO.su rfl rfl rfl rfl rfl (TO.su rfl rfl rfl rfl rfl (TO.su rfl rfl rfl rfl rfl (TO.s rfl rfl rfl rfl rfl rfl (TO.g rfl rfl rfl rfl (TX.pickT rfl rfl rfl (TO.u rfl rfl (TX.pickT rfl rfl rfl (TO.nil (TE.cutS 20 rfl rfl ⟨rfl, trivial⟩)))))))))))))
   refine TO.u rfl rfl (TX.move rfl rfl (TO.cutS 10 [(98, .bool ((v72 && (bif !p0.freg then (p0.fInstr.fSrc == 0) || (p0.freg && (p0.fInstr.fImm == 0)) else p0.freg && (p0.fInstr.fImm == 0))) && ((p0.fop != 128) || (p0.fInstr.fImm == 0))))] ?_ ?_))
   · cases hc78 : (v72 && (bif !p0.freg then (p0.fInstr.fSrc == 0) || (p0.freg && (p0.fInstr.fImm == 0)) else p0.freg && (p0.fInstr.fImm == 0)))
     · exact TO.s rfl rfl rfl rfl rfl rfl (TO.s rfl rfl rfl rfl rfl rfl (TO.s rfl rfl rfl rfl rfl rfl (TO.s rfl rfl rfl rfl rfl rfl (TO.su rfl rfl rfl rfl rfl (TO.su rfl rfl rfl rfl rfl (TO.su rfl rfl rfl rfl rfl (TO.su rfl rfl rfl rfl rfl (TO.s rfl rfl rfl rfl rfl rfl (TO.u rfl rfl (TX.pickF rfl rfl rfl (TO.nil (TE.cutS 10 rfl rfl ⟨rfl, trivial⟩))))))))))))
     refine TO.g rfl rfl rfl rfl (TX.fieldAddr' Try.runUnderlying58 rfl Try.sizeOf5 rfl rfl rfl (TO.g rfl rfl rfl rfl (TX.load1 (i := 0) Try.isAgg5 rfl rfl rfl rfl (TO.g rfl rfl rfl rfl (TX.ibin rfl rfl rfl rfl (TO.g rfl rfl rfl rfl (TX.move rfl rfl ?_)))))))
     cases hc79 : (p0.fop != 128)
     · exact TO.g rfl rfl rfl rfl (TX.fieldAddr' Try.runUnderlying58 rfl Try.sizeOf27 rfl rfl rfl (TO.g rfl rfl rfl rfl (TX.fieldAddr' Try.runUnderlying27 rfl Try.sizeOf21 rfl rfl rfl (TO.g rfl rfl rfl rfl (TX.load1 (i := 0) Try.isAgg21 rfl rfl rfl rfl (TO.g rfl rfl rfl rfl (TX.ibin rfl rfl rfl rfl (TO.g rfl rfl rfl rfl (TX.pickF rfl rfl rfl (TO.u rfl rfl (TX.pickT rfl rfl rfl (TO.nil (TE.cutS 10 rfl rfl ⟨rfl, trivial⟩)))))))))))))
     exact TO.s rfl rfl rfl rfl rfl rfl (TO.s rfl rfl rfl rfl rfl rfl (TO.s rfl rfl rfl rfl rfl rfl (TO.s rfl rfl rfl rfl rfl rfl (TO.g rfl rfl rfl rfl (TX.pickT rfl rfl rfl (TO.u rfl rfl (TX.pickT rfl rfl rfl (TO.nil (TE.cutS 10 rfl rfl ⟨rfl, trivial⟩)))))))))
   exact TO.u rfl rfl (TX.assign rfl rfl (TO.nil (TE.thenN rfl rfl (TC.ret (TE.fin (R := ⟨[], []⟩) (TL.ret (R' := ⟨[], []⟩) Try.results67 (.cons (.tmp rfl) .nil) (subD 1 2 rfl rfl) ⟨congrArg ret67 (Option.some.inj h), rfl⟩))))))
 replace h := ie h hb60
 refine TC.seq (TC.region (TO.u rfl rfl (TX.fieldAddr' Try.runUnderlying58 rfl Try.sizeOf5 rfl rfl rfl (TO.u rfl rfl (TX.load1 (i := 0) Try.isAgg5 rfl rfl rfl rfl (TO.u rfl rfl (TX.ibin rfl rfl rfl rfl (TO.u rfl rfl (TX.move rfl rfl (TO.cutS 3 [(58, .bool ((p0.fop == 176) && p0.freg))] ?_ ?_))))))))))
 · cases hc80 : (p0.fop == 176)
   · exact TO.s rfl rfl rfl rfl rfl rfl (TO.s rfl rfl rfl rfl rfl rfl (TO.u rfl rfl (TX.pickF rfl rfl rfl (TO.nil (TE.cutS 3 rfl rfl ⟨rfl, trivial⟩)))))
   exact TO.g rfl rfl rfl rfl (TX.fieldAddr' Try.runUnderlying58 rfl Try.sizeOf4 rfl rfl rfl (TO.g rfl rfl rfl rfl (TX.load1 (i := 0) Try.isAgg4 rfl rfl rfl rfl (TO.u rfl rfl (TX.pickT rfl rfl rfl (TO.nil (TE.cutS 3 rfl rfl ⟨rfl, trivial⟩)))))))
 refine TO.u rfl rfl (TX.assign rfl rfl (TO.nil (TE.thenN rfl rfl (TC.cond rfl (fun hb81 => ?_) (fun hb81 => ?_)))))
 · replace h := it h hb81
   refine TC.region (TO.u rfl rfl (TX.move rfl rfl (TO.u rfl rfl (TX.buildS (N := (En.int .i16)) (ys := ([8, 16] : List Int)) Try.runUnderlying110 Try.sizeOf25 Try.zeroValue25 rfl rfl rfl rfl (fillS [.int .i16 8, .int .i16 16] rfl rfl rfl rfl) rfl (fun sp82 Hs84 ho85 => ?_)))))
   obtain ⟨hk86, h⟩ := ck h
   refine TO.u rfl rfl (TX.appendS (N := (En.int .i16)) (si := 1) (xs := ([0] : List Int)) (ys := ([8, 16] : List Int)) Try.runUnderlying110 Try.typeInfo25 rfl rfl rfl rfl rfl rfl rfl rfl rfl ho17 (fun a w s => ho85.rd s (i := 0) rfl) hk86 rfl (fun sp87 cap88 Hs89 _ S90 ho91 => ?_))
   cases S90
   refine TO.u rfl rfl (TX.assign rfl rfl (TO.nil (TE.blockN (TE.thenN rfl rfl (TC.seq (TC.region (TO.u rfl rfl (TX.move rfl rfl (TO.u rfl rfl (TX.fieldAddr' Try.runUnderlying58 rfl Try.sizeOf27 rfl rfl rfl (TO.u rfl rfl (TX.fieldAddr' Try.runUnderlying27 rfl Try.sizeOf25 rfl rfl rfl (TO.u rfl rfl (TX.load1 (i := 0) Try.isAgg25 rfl rfl rfl rfl ?_))))))))))))))
   obtain ⟨v93, hv93, h⟩ := bd h
   refine TO.u rfl rfl (TX.callP Try.call81 rfl (fun a w s => c81 F _ _ _ (([0] : List Int) ++ ([8, 16] : List Int)) p0.fInstr.fOff _ _ rfl ho91.le_cap (ho91.rdf0 s (i := 1) rfl) hv93) rfl (TO.u rfl rfl (TX.move rfl rfl (TO.cutS 20 [(87, .bool (v93 && (bif !p0.freg then (p0.fInstr.fSrc == 0) || (p0.freg && (p0.fInstr.fImm == 0)) else p0.freg && (p0.fInstr.fImm == 0))))] ?_ ?_))))
   · cases hc94 : (v93)
     · exact TO.s rfl rfl rfl rfl rfl rfl (TO.s rfl rfl rfl rfl rfl rfl (TO.s rfl rfl rfl rfl rfl rfl (TO.s rfl rfl rfl rfl rfl rfl (TO.su rfl rfl rfl rfl rfl (TO.su rfl rfl rfl rfl rfl (TO.su rfl rfl rfl rfl rfl (TO.su rfl rfl rfl rfl rfl (TO.s rfl rfl rfl rfl rfl rfl (TO.s rfl rfl rfl rfl rfl rfl (TO.su rfl rfl rfl rfl rfl (TO.su rfl rfl rfl rfl rfl (TO.su rfl rfl rfl rfl rfl (TO.su rfl rfl rfl rfl rfl (TO.su rfl rfl rfl rfl rfl (TO.su rfl rfl rfl rfl rfl (TO.su rfl rfl rfl rfl rfl (TO.su rfl rfl rfl rfl rfl (TO.s rfl rfl rfl rfl rfl rfl (TO.u rfl rfl (TX.pickF rfl rfl rfl (TO.nil (TE.cutS 20 rfl rfl ⟨rfl, trivial⟩))))))))))))))))))))))
     refine TO.g rfl rfl rfl rfl (TX.fieldAddr' Try.runUnderlying58 rfl Try.sizeOf4 rfl rfl rfl (TO.g rfl rfl rfl rfl (TX.load1 (i := 0) Try.isAgg4 rfl rfl rfl rfl (TO.g rfl rfl rfl rfl (TX.not rfl rfl (TO.g rfl rfl rfl rfl (TX.move rfl rfl ?_)))))))
     cases hc95 : (!p0.freg)
     · refine TO.s rfl rfl rfl rfl rfl rfl (TO.s rfl rfl rfl rfl rfl rfl (TO.s rfl rfl rfl rfl rfl rfl (TO.s rfl rfl rfl rfl rfl rfl (TO.g rfl rfl rfl rfl (TX.pickF rfl rfl rfl (TO.g rfl rfl rfl rfl (TX.move rfl rfl (TO.g rfl rfl rfl rfl (TX.fieldAddr' Try.runUnderlying58 rfl Try.sizeOf4 rfl rfl rfl (TO.g rfl rfl rfl rfl (TX.load1 (i := 0) Try.isAgg4 rfl rfl rfl rfl (TO.g rfl rfl rfl rfl (TX.move rfl rfl ?_)))))))))))))
       cases hc96 : (p0.freg)
       · exact TO.s rfl rfl rfl rfl rfl rfl (TO.s rfl rfl rfl rfl rfl rfl (TO.s rfl rfl rfl rfl rfl rfl (TO.s rfl rfl rfl rfl rfl rfl (TO.g rfl rfl rfl rfl (TX.pickF rfl rfl rfl (TO.g rfl rfl rfl rfl (TX.pickF rfl rfl rfl (TO.u rfl rfl (TX.pickT rfl rfl rfl (TO.nil (TE.cutS 20 rfl rfl ⟨rfl, trivial⟩)))))))))))
       exact TO.g rfl rfl rfl rfl (TX.fieldAddr' Try.runUnderlying58 rfl Try.sizeOf27 rfl rfl rfl (TO.g rfl rfl rfl rfl (TX.fieldAddr' Try.runUnderlying27 rfl Try.sizeOf21 rfl rfl rfl (TO.g rfl rfl rfl rfl (TX.load1 (i := 0) Try.isAgg21 rfl rfl rfl rfl (TO.g rfl rfl rfl rfl (TX.ibin rfl rfl rfl rfl (TO.g rfl rfl rfl rfl (TX.pickT rfl rfl rfl (TO.g rfl rfl rfl rfl (TX.pickF rfl rfl rfl (TO.u rfl rfl (TX.pickT rfl rfl rfl (TO.nil (TE.cutS 20 rfl rfl ⟨rfl, trivial⟩)))))))))))))))
     refine TO.g rfl rfl rfl rfl (TX.fieldAddr' Try.runUnderlying58 rfl Try.sizeOf27 rfl rfl rfl (TO.g rfl rfl rfl rfl (TX.fieldAddr' Try.runUnderlying27 rfl Try.sizeOf5 rfl rfl rfl (TO.g rfl rfl rfl rfl (TX.load1 (i := 0) Try.isAgg5 rfl rfl rfl rfl (TO.g rfl rfl rfl rfl (TX.ibin rfl rfl rfl rfl (TO.g rfl rfl rfl rfl (TX.pickT rfl rfl rfl (TO.g rfl rfl rfl rfl (TX.move rfl rfl ?_)))))))))))
     cases hc97 : (p0.fInstr.fSrc == 0)
     · refine TO.g rfl rfl rfl rfl (TX.fieldAddr' Try.runUnderlying58 rfl Try.sizeOf4 rfl rfl rfl (TO.g rfl rfl rfl rfl (TX.load1 (i := 0) Try.isAgg4 rfl rfl rfl rfl (TO.g rfl rfl rfl rfl (TX.move rfl rfl ?_)))))
       cases hc98 : (p0.freg)
       · exact TO.s rfl rfl rfl rfl rfl rfl (TO.s rfl rfl rfl rfl rfl rfl (TO.s rfl rfl rfl rfl rfl rfl (TO.s rfl rfl rfl rfl rfl rfl (TO.g rfl rfl rfl rfl (TX.pickF rfl rfl rfl (TO.g rfl rfl rfl rfl (TX.pickF rfl rfl rfl (TO.u rfl rfl (TX.pickT rfl rfl rfl (TO.nil (TE.cutS 20 rfl rfl ⟨rfl, trivial⟩)))))))))))
       exact TO.g rfl rfl rfl rfl (TX.fieldAddr' Try.runUnderlying58 rfl Try.sizeOf27 rfl rfl rfl (TO.g rfl rfl rfl rfl (TX.fieldAddr' Try.runUnderlying27 rfl Try.sizeOf21 rfl rfl rfl (TO.g rfl rfl rfl rfl (TX.load1 (i := 0) Try.isAgg21 rfl rfl rfl rfl (TO.g rfl rfl rfl rfl (TX.ibin rfl rfl rfl rfl (TO.g rfl rfl rfl rfl (TX.pickT rfl rfl rfl (TO.g rfl rfl rfl rfl (TX.pickF rfl rfl rfl (TO.u rfl rfl (TX.pickT rfl rfl rfl (TO.nil (TE.cutS 20 rfl rfl ⟨rfl, trivial⟩)))))))))))))))
     exact TO.s rfl rfl rfl rfl rfl rfl (TO.s rfl rfl rfl rfl rfl rfl (TO.s rfl rfl rfl rfl rfl rfl (TO.su rfl rfl rfl rfl rfl (TO.su rfl rfl rfl rfl rfl (TO.su rfl rfl rfl rfl rfl (TO.su rfl rfl rfl rfl rfl (TO.s rfl rfl rfl rfl rfl rfl (TO.g rfl rfl rfl rfl (TX.pickT rfl rfl rfl (TO.u rfl rfl (TX.pickT rfl rfl rfl (TO.nil (TE.cutS 20 rfl rfl ⟨rfl, trivial⟩)))))))))))))
   refine TO.u rfl rfl (TX.move rfl rfl (TO.cutS 10 [(98, .bool ((v93 && (bif !p0.freg then (p0.fInstr.fSrc == 0) || (p0.freg && (p0.fInstr.fImm == 0)) else p0.freg && (p0.fInstr.fImm == 0))) && ((p0.fop != 128) || (p0.fInstr.fImm == 0))))] ?_ ?_))
   · cases hc99 : (v93 && (bif !p0.freg then (p0.fInstr.fSrc == 0) || (p0.freg && (p0.fInstr.fImm == 0)) else p0.freg && (p0.fInstr.fImm == 0)))
     · exact TO.s rfl rfl rfl rfl rfl rfl (TO.s rfl rfl rfl rfl rfl rfl (TO.s rfl rfl rfl rfl rfl rfl (TO.s rfl rfl rfl rfl rfl rfl (TO.su rfl rfl rfl rfl rfl (TO.su rfl rfl rfl rfl rfl (TO.su rfl rfl rfl rfl rfl (TO.su rfl rfl rfl rfl rfl (TO.s rfl rfl rfl rfl rfl rfl (TO.u rfl rfl (TX.pickF rfl rfl rfl (TO.nil (TE.cutS 10 rfl rfl ⟨rfl, trivial⟩))))))))))))
     refine TO.g rfl rfl rfl rfl (TX.fieldAddr' Try.runUnderlying58 rfl Try.sizeOf5 rfl rfl rfl (TO.g rfl rfl rfl rfl (TX.load1 (i := 0) Try.isAgg5 rfl rfl rfl rfl (TO.g rfl rfl rfl rfl (TX.ibin rfl rfl rfl rfl (TO.g rfl rfl rfl rfl (TX.move rfl rfl ?_)))))))
     cases hc100 : (p0.fop != 128)
     · exact TO.g rfl rfl rfl rfl (TX.fieldAddr' Try.runUnderlying58 rfl Try.sizeOf27 rfl rfl rfl (TO.g rfl rfl rfl rfl (TX.fieldAddr' Try.runUnderlying27 rfl Try.sizeOf21 rfl rfl rfl (TO.g rfl rfl rfl rfl (TX.load1 (i := 0) Try.isAgg21 rfl rfl rfl rfl (TO.g rfl rfl rfl rfl (TX.ibin rfl rfl rfl rfl (TO.g rfl rfl rfl rfl (TX.pickF rfl rfl rfl (TO.u rfl rfl (TX.pickT rfl rfl rfl (TO.nil (TE.cutS 10 rfl rfl ⟨rfl, trivial⟩)))))))))))))
     exact TO.s rfl rfl rfl rfl rfl rfl (TO.s rfl rfl rfl rfl rfl rfl (TO.s rfl rfl rfl rfl rfl rfl (TO.s rfl rfl rfl rfl rfl rfl (TO.g rfl rfl rfl rfl (TX.pickT rfl rfl rfl (TO.u rfl rfl (TX.pickT rfl rfl rfl (TO.nil (TE.cutS 10 rfl rfl ⟨rfl, trivial⟩)))))))))
   exact TO.u rfl rfl (TX.assign rfl rfl (TO.nil (TE.thenN rfl rfl (TC.ret (TE.fin (R := ⟨[], []⟩) (TL.ret (R' := ⟨[], []⟩) Try.results67 (.cons (.tmp rfl) .nil) (subD 1 2 rfl rfl) ⟨congrArg ret67 (Option.some.inj h), rfl⟩))))))
 replace h := ie h hb81
 refine TC.skip (TE.blockN (TE.thenN rfl rfl (TC.seq (TC.region (TO.u rfl rfl (TX.move rfl rfl (TO.u rfl rfl (TX.fieldAddr' Try.runUnderlying58 rfl Try.sizeOf27 rfl rfl rfl (TO.u rfl rfl (TX.fieldAddr' Try.runUnderlying27 rfl Try.sizeOf25 rfl rfl rfl (TO.u rfl rfl (TX.load1 (i := 0) Try.isAgg25 rfl rfl rfl rfl ?_))))))))))))
 obtain ⟨v101, hv101, h⟩ := bd h
 refine TO.u rfl rfl (TX.callP Try.call81 rfl (fun a w s => c81 F _ _ _ ([0] : List Int) p0.fInstr.fOff _ _ rfl ho17.le_cap (ho17.rdf0 s (i := 0) rfl) hv101) rfl (TO.u rfl rfl (TX.move rfl rfl (TO.cutS 20 [(87, .bool (v101 && (bif !p0.freg then (p0.fInstr.fSrc == 0) || (p0.freg && (p0.fInstr.fImm == 0)) else p0.freg && (p0.fInstr.fImm == 0))))] ?_ ?_))))
 · cases hc102 : (v101)
   · exact TO.s rfl rfl rfl rfl rfl rfl (TO.s rfl rfl rfl rfl rfl rfl (TO.s rfl rfl rfl rfl rfl rfl (TO.s rfl rfl rfl rfl rfl rfl (TO.su rfl rfl rfl rfl rfl (TO.su rfl rfl rfl rfl rfl (TO.su rfl rfl rfl rfl rfl (TO.su rfl rfl rfl rfl rfl (TO.s rfl rfl rfl rfl rfl rfl (TO.s rfl rfl rfl rfl rfl rfl (TO.su rfl rfl rfl rfl rfl (TO.su rfl rfl rfl rfl rfl (TO.su rfl rfl rfl rfl rfl (TO.su rfl rfl rfl rfl rfl (TO.su rfl rfl rfl rfl rfl (TO.su rfl rfl rfl rfl rfl (TO.su rfl rfl rfl rfl rfl (TO.su rfl rfl rfl rfl rfl (TO.s rfl rfl rfl rfl rfl rfl (TO.u rfl rfl (TX.pickF rfl rfl rfl (TO.nil (TE.cutS 20 rfl rfl ⟨rfl, trivial⟩))))))))))))))))))))))
   refine TO.g rfl rfl rfl rfl (TX.fieldAddr' Try.runUnderlying58 rfl Try.sizeOf4 rfl rfl rfl (TO.g rfl rfl rfl rfl (TX.load1 (i := 0) Try.isAgg4 rfl rfl rfl rfl (TO.g rfl rfl rfl rfl (TX.not rfl rfl (TO.g rfl rfl rfl rfl (TX.move rfl rfl ?_)))))))
   cases hc103 : (!p0.freg)
   · refine TO.s rfl rfl rfl rfl rfl rfl (TO.s rfl rfl rfl rfl rfl rfl (TO.s rfl rfl rfl rfl rfl rfl (TO.s rfl rfl rfl rfl rfl rfl (TO.g rfl rfl rfl rfl (TX.pickF rfl rfl rfl (TO.g rfl rfl rfl rfl (TX.move rfl rfl (TO.g rfl rfl rfl rfl (TX.fieldAddr' Try.runUnderlying58 rfl Try.sizeOf4 rfl rfl rfl (TO.g rfl rfl rfl rfl (TX.load1 (i := 0) Try.isAgg4 rfl rfl rfl rfl (TO.g rfl rfl rfl rfl (TX.move rfl rfl ?_)))))))))))))
     cases hc104 : (p0.freg)
     · exact TO.s rfl rfl rfl rfl rfl rfl (TO.s rfl rfl rfl rfl rfl rfl (TO.s rfl rfl rfl rfl rfl rfl (TO.s rfl rfl rfl rfl rfl rfl (TO.g rfl rfl rfl rfl (TX.pickF rfl rfl rfl (TO.g rfl rfl rfl rfl (TX.pickF rfl rfl rfl (TO.u rfl rfl (TX.pickT rfl rfl rfl (TO.nil (TE.cutS 20 rfl rfl ⟨rfl, trivial⟩)))))))))))
     exact TO.g rfl rfl rfl rfl (TX.fieldAddr' Try.runUnderlying58 rfl Try.sizeOf27 rfl rfl rfl (TO.g rfl rfl rfl rfl (TX.fieldAddr' Try.runUnderlying27 rfl Try.sizeOf21 rfl rfl rfl (TO.g rfl rfl rfl rfl (TX.load1 (i := 0) Try.isAgg21 rfl rfl rfl rfl (TO.g rfl rfl rfl rfl (TX.ibin rfl rfl rfl rfl (TO.g rfl rfl rfl rfl (TX.pickT rfl rfl rfl (TO.g rfl rfl rfl rfl (TX.pickF rfl rfl rfl (TO.u rfl rfl (TX.pickT rfl rfl rfl (TO.nil (TE.cutS 20 rfl rfl ⟨rfl, trivial⟩)))))))))))))))
   refine TO.g rfl rfl rfl rfl (TX.fieldAddr' Try.runUnderlying58 rfl Try.sizeOf27 rfl rfl rfl (TO.g rfl rfl rfl rfl (TX.fieldAddr' Try.runUnderlying27 rfl Try.sizeOf5 rfl rfl rfl (TO.g rfl rfl rfl rfl (TX.load1 (i := 0) Try.isAgg5 rfl rfl rfl rfl (TO.g rfl rfl rfl rfl (TX.ibin rfl rfl rfl rfl (TO.g rfl rfl rfl rfl (TX.pickT rfl rfl rfl (TO.g rfl rfl rfl rfl (TX.move rfl rfl ?_)))))))))))
   cases hc105 : (p0.fInstr.fSrc == 0)
   · refine TO.g rfl rfl rfl rfl (TX.fieldAddr' Try.runUnderlying58 rfl Try.sizeOf4 rfl rfl rfl (TO.g rfl rfl rfl rfl (TX.load1 (i := 0) Try.isAgg4 rfl rfl rfl rfl (TO.g rfl rfl rfl rfl (TX.move rfl rfl ?_)))))
     cases hc106 : (p0.freg)
     · exact TO.s rfl rfl rfl rfl rfl rfl (TO.s rfl rfl rfl rfl rfl rfl (TO.s rfl rfl rfl rfl rfl rfl (TO.s rfl rfl rfl rfl rfl rfl (TO.g rfl rfl rfl rfl (TX.pickF rfl rfl rfl (TO.g rfl rfl rfl rfl (TX.pickF rfl rfl rfl (TO.u rfl rfl (TX.pickT rfl rfl rfl (TO.nil (TE.cutS 20 rfl rfl ⟨rfl, trivial⟩)))))))))))
     exact TO.g rfl rfl rfl rfl (TX.fieldAddr' Try.runUnderlying58 rfl Try.sizeOf27 rfl rfl rfl (TO.g rfl rfl rfl rfl (TX.fieldAddr' Try.runUnderlying27 rfl Try.sizeOf21 rfl rfl rfl (TO.g rfl rfl rfl rfl (TX.load1 (i := 0) Try.isAgg21 rfl rfl rfl rfl (TO.g rfl rfl rfl rfl (TX.ibin rfl rfl rfl rfl (TO.g rfl rfl rfl rfl (TX.pickT rfl rfl rfl (TO.g rfl rfl rfl rfl (TX.pickF rfl rfl rfl (TO.u rfl rfl (TX.pickT rfl rfl rfl (TO.nil (TE.cutS 20 rfl rfl ⟨rfl, trivial⟩)))))))))))))))
   exact TO.s rfl rfl rfl rfl rfl rfl (TO.s rfl rfl rfl rfl rfl rfl (TO.s rfl rfl rfl rfl rfl rfl (TO.su rfl rfl rfl rfl rfl (TO.su rfl rfl rfl rfl rfl (TO.su rfl rfl rfl rfl rfl (TO.su rfl rfl rfl rfl rfl (TO.s rfl rfl rfl rfl rfl rfl (TO.g rfl rfl rfl rfl (TX.pickT rfl rfl rfl (TO.u rfl rfl (TX.pickT rfl rfl rfl (TO.nil (TE.cutS 20 rfl rfl ⟨rfl, trivial⟩)))))))))))))
 refine TO.u rfl rfl (TX.move rfl rfl (TO.cutS 10 [(98, .bool ((v101 && (bif !p0.freg then (p0.fInstr.fSrc == 0) || (p0.freg && (p0.fInstr.fImm == 0)) else p0.freg && (p0.fInstr.fImm == 0))) && ((p0.fop != 128) || (p0.fInstr.fImm == 0))))] ?_ ?_))
 · cases hc107 : (v101 && (bif !p0.freg then (p0.fInstr.fSrc == 0) || (p0.freg && (p0.fInstr.fImm == 0)) else p0.freg && (p0.fInstr.fImm == 0)))
   · exact TO.s rfl rfl rfl rfl rfl rfl (TO.s rfl rfl rfl rfl rfl rfl (TO.s rfl rfl rfl rfl rfl rfl (TO.s rfl rfl rfl rfl rfl rfl (TO.su rfl rfl rfl rfl rfl (TO.su rfl rfl rfl rfl rfl (TO.su rfl rfl rfl rfl rfl (TO.su rfl rfl rfl rfl rfl (TO.s rfl rfl rfl rfl rfl rfl (TO.u rfl rfl (TX.pickF rfl rfl rfl (TO.nil (TE.cutS 10 rfl rfl ⟨rfl, trivial⟩))))))))))))
   refine TO.g rfl rfl rfl rfl (TX.fieldAddr' Try.runUnderlying58 rfl Try.sizeOf5 rfl rfl rfl (TO.g rfl rfl rfl rfl (TX.load1 (i := 0) Try.isAgg5 rfl rfl rfl rfl (TO.g rfl rfl rfl rfl (TX.ibin rfl rfl rfl rfl (TO.g rfl rfl rfl rfl (TX.move rfl rfl ?_)))))))
   cases hc108 : (p0.fop != 128)
   · exact TO.g rfl rfl rfl rfl (TX.fieldAddr' Try.runUnderlying58 rfl Try.sizeOf27 rfl rfl rfl (TO.g rfl rfl rfl rfl (TX.fieldAddr' Try.runUnderlying27 rfl Try.sizeOf21 rfl rfl rfl (TO.g rfl rfl rfl rfl (TX.load1 (i := 0) Try.isAgg21 rfl rfl rfl rfl (TO.g rfl rfl rfl rfl (TX.ibin rfl rfl rfl rfl (TO.g rfl rfl rfl rfl (TX.pickF rfl rfl rfl (TO.u rfl rfl (TX.pickT rfl rfl rfl (TO.nil (TE.cutS 10 rfl rfl ⟨rfl, trivial⟩)))))))))))))
   exact TO.s rfl rfl rfl rfl rfl rfl (TO.s rfl rfl rfl rfl rfl rfl (TO.s rfl rfl rfl rfl rfl rfl (TO.s rfl rfl rfl rfl rfl rfl (TO.g rfl rfl rfl rfl (TX.pickT rfl rfl rfl (TO.u rfl rfl (TX.pickT rfl rfl rfl (TO.nil (TE.cutS 10 rfl rfl ⟨rfl, trivial⟩)))))))))
 exact TO.u rfl rfl (TX.assign rfl rfl (TO.nil (TE.thenN rfl rfl (TC.ret (TE.fin (R := ⟨[], []⟩) (TL.ret (R' := ⟨[], []⟩) Try.results67 (.cons (.tmp rfl) .nil) (subD 1 1 rfl rfl) ⟨congrArg ret67 (Option.some.inj h), rfl⟩))))))
/-- (hatchway/shape.slot).jumping -/
def fn68 (p0 : Slot) : Bool :=
  (bindP (fn62 p0) fun v3 => (bif v3 then (((!p0.freg) && (p0.fInstr.fSrc == 0)) || (p0.freg && (p0.fInstr.fImm == 0))) else (bif (p0.fop == 0) && (p0.fclass == 5) then (((p0.fInstr.fDst == 0) && (p0.fInstr.fSrc == 0)) && (p0.fInstr.fImm == 0)) else (bif p0.fop == 0 then (((p0.fInstr.fDst == 0) && (p0.fInstr.fSrc == 0)) && (p0.fInstr.fOff == 0)) else (bif p0.fop == 128 then ((((p0.fInstr.fDst == 0) && (p0.fInstr.fSrc == 0)) && (p0.fInstr.fOff == 0)) && (decide ((1 : Int) ≤ p0.fInstr.fImm))) else ((((p0.fInstr.fDst == 0) && (p0.fInstr.fSrc == 0)) && (p0.fInstr.fOff == 0)) && (p0.fInstr.fImm == 0)))))))
def ret68 (r : Bool) : Value := .bool r
theorem c68 (p0 : Slot) (w : World) (r : Bool)  (h : fn68 p0 = r) : Ret Try.prog 68 [.agg #[.int .u8 p0.fInstr.fOp, .int .u8 p0.fInstr.fDst, .int .u8 p0.fInstr.fSrc, .int .i16 p0.fInstr.fOff, .int .i32 p0.fInstr.fImm, .int .u8 p0.fclass, .int .u8 p0.fop, .bool p0.freg]] w ⟨[], []⟩ (fun v R => v = ret68 r ∧ R = ⟨[], []⟩) := by
 unfold fn68 at h
 refine Ret.of_body Try.func68 rfl Try.ntmps68 rfl (fun _ hx => absurd hx List.not_mem_nil) List.nodup_nil (TC.seq (TC.region (TO.u rfl rfl (TX.box rfl rfl rfl (fun b1 => (TO.u rfl rfl (TX.assign rfl rfl (TO.nil (TE.thenN rfl rfl (TC.seq (TC.region (TO.u rfl rfl (TX.fieldAddr' Try.runUnderlying58 rfl Try.sizeOf27 rfl rfl rfl (TO.u rfl rfl (TX.fieldAddr' Try.runUnderlying27 rfl Try.sizeOf5 rfl rfl rfl (TO.u rfl rfl (TX.load1 (i := 0) Try.isAgg5 rfl rfl rfl rfl (TO.u rfl rfl (TX.ibin rfl rfl rfl rfl (TO.u rfl rfl (TX.move rfl rfl (TO.cutS 5 [(13, .bool ((p0.fInstr.fDst == 0) && (p0.fInstr.fSrc == 0)))] ?_ ?_))))))))))))))))))))))
 · cases hc2 : (p0.fInstr.fDst == 0)
   · exact TO.s rfl rfl rfl rfl rfl rfl (TO.s rfl rfl rfl rfl rfl rfl (TO.s rfl rfl rfl rfl rfl rfl (TO.s rfl rfl rfl rfl rfl rfl (TO.u rfl rfl (TX.pickF rfl rfl rfl (TO.nil (TE.cutS 5 rfl rfl ⟨rfl, trivial⟩)))))))
   exact TO.g rfl rfl rfl rfl (TX.fieldAddr' Try.runUnderlying58 rfl Try.sizeOf27 rfl rfl rfl (TO.g rfl rfl rfl rfl (TX.fieldAddr' Try.runUnderlying27 rfl Try.sizeOf5 rfl rfl rfl (TO.g rfl rfl rfl rfl (TX.load1 (i := 0) Try.isAgg5 rfl rfl rfl rfl (TO.g rfl rfl rfl rfl (TX.ibin rfl rfl rfl rfl (TO.u rfl rfl (TX.pickT rfl rfl rfl (TO.nil (TE.cutS 5 rfl rfl ⟨rfl, trivial⟩)))))))))))
 refine TO.u rfl rfl (TX.assign rfl rfl (TO.nil (TE.thenN rfl rfl (TC.seq (TC.block (TC.seq (TC.region (TO.u rfl rfl (TX.loadN (i := 0) Try.isAgg58 Try.sizeOf58 rfl rfl rfl rfl ?_)))))))))
 obtain ⟨v3, hv3, h⟩ := bp h
 refine TO.u rfl rfl (TX.callP Try.call62 rfl (fun a w s => c62 p0 _ _  hv3) rfl (TO.u rfl rfl (TX.assign rfl rfl (TO.nil (TE.thenN rfl rfl (TC.cond rfl (fun hb4 => ?_) (fun hb4 => ?_)))))))
 · replace h := it h hb4
   refine TC.seq (TC.region (TO.u rfl rfl (TX.fieldAddr' Try.runUnderlying58 rfl Try.sizeOf4 rfl rfl rfl (TO.u rfl rfl (TX.load1 (i := 0) Try.isAgg4 rfl rfl rfl rfl (TO.u rfl rfl (TX.not rfl rfl (TO.u rfl rfl (TX.move rfl rfl (TO.cutS 5 [(25, .bool ((!p0.freg) && (p0.fInstr.fSrc == 0)))] ?_ ?_))))))))))
   · cases hc5 : (!p0.freg)
     · exact TO.s rfl rfl rfl rfl rfl rfl (TO.s rfl rfl rfl rfl rfl rfl (TO.s rfl rfl rfl rfl rfl rfl (TO.s rfl rfl rfl rfl rfl rfl (TO.u rfl rfl (TX.pickF rfl rfl rfl (TO.nil (TE.cutS 5 rfl rfl ⟨rfl, trivial⟩)))))))
     exact TO.g rfl rfl rfl rfl (TX.fieldAddr' Try.runUnderlying58 rfl Try.sizeOf27 rfl rfl rfl (TO.g rfl rfl rfl rfl (TX.fieldAddr' Try.runUnderlying27 rfl Try.sizeOf5 rfl rfl rfl (TO.g rfl rfl rfl rfl (TX.load1 (i := 0) Try.isAgg5 rfl rfl rfl rfl (TO.g rfl rfl rfl rfl (TX.ibin rfl rfl rfl rfl (TO.u rfl rfl (TX.pickT rfl rfl rfl (TO.nil (TE.cutS 5 rfl rfl ⟨rfl, trivial⟩)))))))))))
   refine TO.u rfl rfl (TX.move rfl rfl (TO.cutS 9 [(35, .bool (((!p0.freg) && (p0.fInstr.fSrc == 0)) || (p0.freg && (p0.fInstr.fImm == 0))))] ?_ ?_))
   · cases hc6 : ((!p0.freg) && (p0.fInstr.fSrc == 0))
     · refine TO.g rfl rfl rfl rfl (TX.fieldAddr' Try.runUnderlying58 rfl Try.sizeOf4 rfl rfl rfl (TO.g rfl rfl rfl rfl (TX.load1 (i := 0) Try.isAgg4 rfl rfl rfl rfl (TO.g rfl rfl rfl rfl (TX.move rfl rfl ?_)))))
       cases hc7 : (p0.freg)
       · exact TO.s rfl rfl rfl rfl rfl rfl (TO.s rfl rfl rfl rfl rfl rfl (TO.s rfl rfl rfl rfl rfl rfl (TO.s rfl rfl rfl rfl rfl rfl (TO.g rfl rfl rfl rfl (TX.pickF rfl rfl rfl (TO.u rfl rfl (TX.pickF rfl rfl rfl (TO.nil (TE.cutS 9 rfl rfl ⟨rfl, trivial⟩)))))))))
       exact TO.g rfl rfl rfl rfl (TX.fieldAddr' Try.runUnderlying58 rfl Try.sizeOf27 rfl rfl rfl (TO.g rfl rfl rfl rfl (TX.fieldAddr' Try.runUnderlying27 rfl Try.sizeOf21 rfl rfl rfl (TO.g rfl rfl rfl rfl (TX.load1 (i := 0) Try.isAgg21 rfl rfl rfl rfl (TO.g rfl rfl rfl rfl (TX.ibin rfl rfl rfl rfl (TO.g rfl rfl rfl rfl (TX.pickT rfl rfl rfl (TO.u rfl rfl (TX.pickF rfl rfl rfl (TO.nil (TE.cutS 9 rfl rfl ⟨rfl, trivial⟩)))))))))))))
     exact TO.s rfl rfl rfl rfl rfl rfl (TO.s rfl rfl rfl rfl rfl rfl (TO.s rfl rfl rfl rfl rfl rfl (TO.su rfl rfl rfl rfl rfl (TO.su rfl rfl rfl rfl rfl (TO.su rfl rfl rfl rfl rfl (TO.su rfl rfl rfl rfl rfl (TO.s rfl rfl rfl rfl rfl rfl (TO.u rfl rfl (TX.pickT rfl rfl rfl (TO.nil (TE.cutS 9 rfl rfl ⟨rfl, trivial⟩)))))))))))
   exact TO.u rfl rfl (TX.assign rfl rfl (TO.nil (TE.thenN rfl rfl (TC.ret (TE.blockR (TE.thenR (TE.fin (R := ⟨[], []⟩) (TL.ret (R' := ⟨[], []⟩) Try.results68 (.cons (.tmp rfl) .nil) (subD 1 0 rfl rfl) ⟨congrArg ret68 h, rfl⟩))))))))
 replace h := ie h hb4
 refine TC.seq (TC.region (TO.u rfl rfl (TX.fieldAddr' Try.runUnderlying58 rfl Try.sizeOf5 rfl rfl rfl (TO.u rfl rfl (TX.load1 (i := 0) Try.isAgg5 rfl rfl rfl rfl (TO.u rfl rfl (TX.ibin rfl rfl rfl rfl (TO.u rfl rfl (TX.move rfl rfl (TO.cutS 4 [(44, .bool ((p0.fop == 0) && (p0.fclass == 5)))] ?_ ?_))))))))))
 · cases hc8 : (p0.fop == 0)
   · exact TO.s rfl rfl rfl rfl rfl rfl (TO.s rfl rfl rfl rfl rfl rfl (TO.s rfl rfl rfl rfl rfl rfl (TO.u rfl rfl (TX.pickF rfl rfl rfl (TO.nil (TE.cutS 4 rfl rfl ⟨rfl, trivial⟩))))))
   exact TO.g rfl rfl rfl rfl (TX.fieldAddr' Try.runUnderlying58 rfl Try.sizeOf5 rfl rfl rfl (TO.g rfl rfl rfl rfl (TX.load1 (i := 0) Try.isAgg5 rfl rfl rfl rfl (TO.g rfl rfl rfl rfl (TX.ibin rfl rfl rfl rfl (TO.u rfl rfl (TX.pickT rfl rfl rfl (TO.nil (TE.cutS 4 rfl rfl ⟨rfl, trivial⟩)))))))))
 refine TO.u rfl rfl (TX.assign rfl rfl (TO.nil (TE.thenN rfl rfl (TC.cond rfl (fun hb9 => ?_) (fun hb9 => ?_)))))
 · replace h := it h hb9
   refine TC.seq (TC.region (TO.u rfl rfl (TX.move rfl rfl (TO.u rfl rfl (TX.move rfl rfl (TO.cutS 5 [(51, .bool (((p0.fInstr.fDst == 0) && (p0.fInstr.fSrc == 0)) && (p0.fInstr.fImm == 0)))] ?_ ?_))))))
   · cases hc10 : ((p0.fInstr.fDst == 0) && (p0.fInstr.fSrc == 0))
     · exact TO.s rfl rfl rfl rfl rfl rfl (TO.s rfl rfl rfl rfl rfl rfl (TO.s rfl rfl rfl rfl rfl rfl (TO.s rfl rfl rfl rfl rfl rfl (TO.u rfl rfl (TX.pickF rfl rfl rfl (TO.nil (TE.cutS 5 rfl rfl ⟨rfl, trivial⟩)))))))
     exact TO.g rfl rfl rfl rfl (TX.fieldAddr' Try.runUnderlying58 rfl Try.sizeOf27 rfl rfl rfl (TO.g rfl rfl rfl rfl (TX.fieldAddr' Try.runUnderlying27 rfl Try.sizeOf21 rfl rfl rfl (TO.g rfl rfl rfl rfl (TX.load1 (i := 0) Try.isAgg21 rfl rfl rfl rfl (TO.g rfl rfl rfl rfl (TX.ibin rfl rfl rfl rfl (TO.u rfl rfl (TX.pickT rfl rfl rfl (TO.nil (TE.cutS 5 rfl rfl ⟨rfl, trivial⟩)))))))))))
   exact TO.u rfl rfl (TX.assign rfl rfl (TO.nil (TE.thenN rfl rfl (TC.ret (TE.blockR (TE.thenR (TE.fin (R := ⟨[], []⟩) (TL.ret (R' := ⟨[], []⟩) Try.results68 (.cons (.tmp rfl) .nil) (subD 1 0 rfl rfl) ⟨congrArg ret68 h, rfl⟩))))))))
 replace h := ie h hb9
 refine TC.seq (TC.region (TO.u rfl rfl (TX.fieldAddr' Try.runUnderlying58 rfl Try.sizeOf5 rfl rfl rfl (TO.u rfl rfl (TX.load1 (i := 0) Try.isAgg5 rfl rfl rfl rfl (TO.u rfl rfl (TX.ibin rfl rfl rfl rfl (TO.u rfl rfl (TX.assign rfl rfl (TO.nil (TE.thenN rfl rfl (TC.cond rfl (fun hb11 => ?_) (fun hb11 => ?_)))))))))))))
 · replace h := it h hb11
   refine TC.seq (TC.region (TO.u rfl rfl (TX.move rfl rfl (TO.u rfl rfl (TX.move rfl rfl (TO.cutS 5 [(62, .bool (((p0.fInstr.fDst == 0) && (p0.fInstr.fSrc == 0)) && (p0.fInstr.fOff == 0)))] ?_ ?_))))))
   · cases hc12 : ((p0.fInstr.fDst == 0) && (p0.fInstr.fSrc == 0))
     · exact TO.s rfl rfl rfl rfl rfl rfl (TO.s rfl rfl rfl rfl rfl rfl (TO.s rfl rfl rfl rfl rfl rfl (TO.s rfl rfl rfl rfl rfl rfl (TO.u rfl rfl (TX.pickF rfl rfl rfl (TO.nil (TE.cutS 5 rfl rfl ⟨rfl, trivial⟩)))))))
     exact TO.g rfl rfl rfl rfl (TX.fieldAddr' Try.runUnderlying58 rfl Try.sizeOf27 rfl rfl rfl (TO.g rfl rfl rfl rfl (TX.fieldAddr' Try.runUnderlying27 rfl Try.sizeOf25 rfl rfl rfl (TO.g rfl rfl rfl rfl (TX.load1 (i := 0) Try.isAgg25 rfl rfl rfl rfl (TO.g rfl rfl rfl rfl (TX.ibin rfl rfl rfl rfl (TO.u rfl rfl (TX.pickT rfl rfl rfl (TO.nil (TE.cutS 5 rfl rfl ⟨rfl, trivial⟩)))))))))))
   exact TO.u rfl rfl (TX.assign rfl rfl (TO.nil (TE.thenN rfl rfl (TC.ret (TE.blockR (TE.thenR (TE.fin (R := ⟨[], []⟩) (TL.ret (R' := ⟨[], []⟩) Try.results68 (.cons (.tmp rfl) .nil) (subD 1 0 rfl rfl) ⟨congrArg ret68 h, rfl⟩))))))))
 replace h := ie h hb11
 refine TC.seq (TC.region (TO.u rfl rfl (TX.fieldAddr' Try.runUnderlying58 rfl Try.sizeOf5 rfl rfl rfl (TO.u rfl rfl (TX.load1 (i := 0) Try.isAgg5 rfl rfl rfl rfl (TO.u rfl rfl (TX.ibin rfl rfl rfl rfl (TO.u rfl rfl (TX.assign rfl rfl (TO.nil (TE.thenN rfl rfl (TC.cond rfl (fun hb13 => ?_) (fun hb13 => ?_)))))))))))))
 · replace h := it h hb13
   refine TC.seq (TC.region (TO.u rfl rfl (TX.move rfl rfl (TO.u rfl rfl (TX.move rfl rfl (TO.cutS 5 [(73, .bool (((p0.fInstr.fDst == 0) && (p0.fInstr.fSrc == 0)) && (p0.fInstr.fOff == 0)))] ?_ ?_))))))
   · cases hc14 : ((p0.fInstr.fDst == 0) && (p0.fInstr.fSrc == 0))
     · exact TO.s rfl rfl rfl rfl rfl rfl (TO.s rfl rfl rfl rfl rfl rfl (TO.s rfl rfl rfl rfl rfl rfl (TO.s rfl rfl rfl rfl rfl rfl (TO.u rfl rfl (TX.pickF rfl rfl rfl (TO.nil (TE.cutS 5 rfl rfl ⟨rfl, trivial⟩)))))))
     exact TO.g rfl rfl rfl rfl (TX.fieldAddr' Try.runUnderlying58 rfl Try.sizeOf27 rfl rfl rfl (TO.g rfl rfl rfl rfl (TX.fieldAddr' Try.runUnderlying27 rfl Try.sizeOf25 rfl rfl rfl (TO.g rfl rfl rfl rfl (TX.load1 (i := 0) Try.isAgg25 rfl rfl rfl rfl (TO.g rfl rfl rfl rfl (TX.ibin rfl rfl rfl rfl (TO.u rfl rfl (TX.pickT rfl rfl rfl (TO.nil (TE.cutS 5 rfl rfl ⟨rfl, trivial⟩)))))))))))
   refine TO.u rfl rfl (TX.move rfl rfl (TO.cutS 5 [(79, .bool ((((p0.fInstr.fDst == 0) && (p0.fInstr.fSrc == 0)) && (p0.fInstr.fOff == 0)) && (decide ((1 : Int) ≤ p0.fInstr.fImm))))] ?_ ?_))
   · cases hc15 : (((p0.fInstr.fDst == 0) && (p0.fInstr.fSrc == 0)) && (p0.fInstr.fOff == 0))
     · exact TO.s rfl rfl rfl rfl rfl rfl (TO.s rfl rfl rfl rfl rfl rfl (TO.s rfl rfl rfl rfl rfl rfl (TO.s rfl rfl rfl rfl rfl rfl (TO.u rfl rfl (TX.pickF rfl rfl rfl (TO.nil (TE.cutS 5 rfl rfl ⟨rfl, trivial⟩)))))))
     exact TO.g rfl rfl rfl rfl (TX.fieldAddr' Try.runUnderlying58 rfl Try.sizeOf27 rfl rfl rfl (TO.g rfl rfl rfl rfl (TX.fieldAddr' Try.runUnderlying27 rfl Try.sizeOf21 rfl rfl rfl (TO.g rfl rfl rfl rfl (TX.load1 (i := 0) Try.isAgg21 rfl rfl rfl rfl (TO.g rfl rfl rfl rfl (TX.ibin rfl rfl rfl rfl (TO.u rfl rfl (TX.pickT rfl rfl rfl (TO.nil (TE.cutS 5 rfl rfl ⟨rfl, trivial⟩)))))))))))
   exact TO.u rfl rfl (TX.assign rfl rfl (TO.nil (TE.thenN rfl rfl (TC.ret (TE.blockR (TE.thenR (TE.fin (R := ⟨[], []⟩) (TL.ret (R' := ⟨[], []⟩) Try.results68 (.cons (.tmp rfl) .nil) (subD 1 0 rfl rfl) ⟨congrArg ret68 h, rfl⟩))))))))
 replace h := ie h hb13
 refine TC.skip (TE.blockN (TE.thenN rfl rfl (TC.seq (TC.region (TO.u rfl rfl (TX.move rfl rfl (TO.u rfl rfl (TX.move rfl rfl (TO.cutS 5 [(86, .bool (((p0.fInstr.fDst == 0) && (p0.fInstr.fSrc == 0)) && (p0.fInstr.fOff == 0)))] ?_ ?_)))))))))
 · cases hc16 : ((p0.fInstr.fDst == 0) && (p0.fInstr.fSrc == 0))
   · exact TO.s rfl rfl rfl rfl rfl rfl (TO.s rfl rfl rfl rfl rfl rfl (TO.s rfl rfl rfl rfl rfl rfl (TO.s rfl rfl rfl rfl rfl rfl (TO.u rfl rfl (TX.pickF rfl rfl rfl (TO.nil (TE.cutS 5 rfl rfl ⟨rfl, trivial⟩)))))))
   exact TO.g rfl rfl rfl rfl (TX.fieldAddr' Try.runUnderlying58 rfl Try.sizeOf27 rfl rfl rfl (TO.g rfl rfl rfl rfl (TX.fieldAddr' Try.runUnderlying27 rfl Try.sizeOf25 rfl rfl rfl (TO.g rfl rfl rfl rfl (TX.load1 (i := 0) Try.isAgg25 rfl rfl rfl rfl (TO.g rfl rfl rfl rfl (TX.ibin rfl rfl rfl rfl (TO.u rfl rfl (TX.pickT rfl rfl rfl (TO.nil (TE.cutS 5 rfl rfl ⟨rfl, trivial⟩)))))))))))
 refine TO.u rfl rfl (TX.move rfl rfl (TO.cutS 5 [(92, .bool ((((p0.fInstr.fDst == 0) && (p0.fInstr.fSrc == 0)) && (p0.fInstr.fOff == 0)) && (p0.fInstr.fImm == 0)))] ?_ ?_))
 · cases hc17 : (((p0.fInstr.fDst == 0) && (p0.fInstr.fSrc == 0)) && (p0.fInstr.fOff == 0))
   · exact TO.s rfl rfl rfl rfl rfl rfl (TO.s rfl rfl rfl rfl rfl rfl (TO.s rfl rfl rfl rfl rfl rfl (TO.s rfl rfl rfl rfl rfl rfl (TO.u rfl rfl (TX.pickF rfl rfl rfl (TO.nil (TE.cutS 5 rfl rfl ⟨rfl, trivial⟩)))))))
   exact TO.g rfl rfl rfl rfl (TX.fieldAddr' Try.runUnderlying58 rfl Try.sizeOf27 rfl rfl rfl (TO.g rfl rfl rfl rfl (TX.fieldAddr' Try.runUnderlying27 rfl Try.sizeOf21 rfl rfl rfl (TO.g rfl rfl rfl rfl (TX.load1 (i := 0) Try.isAgg21 rfl rfl rfl rfl (TO.g rfl rfl rfl rfl (TX.ibin rfl rfl rfl rfl (TO.u rfl rfl (TX.pickT rfl rfl rfl (TO.nil (TE.cutS 5 rfl rfl ⟨rfl, trivial⟩)))))))))))
 exact TO.u rfl rfl (TX.assign rfl rfl (TO.nil (TE.thenN rfl rfl (TC.ret (TE.fin (R := ⟨[], []⟩) (TL.ret (R' := ⟨[], []⟩) Try.results68 (.cons (.tmp rfl) .nil) (subD 1 0 rfl rfl) ⟨congrArg ret68 h, rfl⟩))))))
/-- (hatchway/shape.slot).parts -/
def fn37 (F : Nat) (p0 : Slot) : Option (Bool) :=
  (bif p0.fclass == 0 then (bindP (fn63 p0) fun v4 => (some v4)) else (bif p0.fclass == 1 then (bindP (fn64 p0) fun v6 => (some v6)) else (bif p0.fclass == 2 then (bindP (fn65 p0) fun v8 => (some v8)) else (bif p0.fclass == 3 then (bindP (fn66 p0) fun v10 => (some v10)) else (bif p0.fclass == 4 then (Option.bind (fn67 F p0) fun v12 => (some v12)) else (bif p0.fclass == 7 then (Option.bind (fn67 F p0) fun v14 => (some v14)) else (bif p0.fclass == 5 then (bindP (fn68 p0) fun v16 => (some v16)) else (bif p0.fclass == 6 then (bindP (fn68 p0) fun v18 => (some v18)) else none))))))))
def ret37 (r : Bool) : Value := .bool r
theorem c37 (F : Nat) (p0 : Slot) (w : World) (r : Bool)  (h : fn37 F p0 = some r) : Ret Try.prog 37 [.agg #[.int .u8 p0.fInstr.fOp, .int .u8 p0.fInstr.fDst, .int .u8 p0.fInstr.fSrc, .int .i16 p0.fInstr.fOff, .int .i32 p0.fInstr.fImm, .int .u8 p0.fclass, .int .u8 p0.fop, .bool p0.freg]] w ⟨[], []⟩ (fun v R => v = ret37 r ∧ R = ⟨[], []⟩) := by
 unfold fn37 at h
 refine Ret.of_body Try.func37 rfl Try.ntmps37 rfl (fun _ hx => absurd hx List.not_mem_nil) List.nodup_nil (TC.seq (TC.region (TO.u rfl rfl (TX.box rfl rfl rfl (fun b1 => (TO.u rfl rfl (TX.assign rfl rfl (TO.nil (TE.thenN rfl rfl (TC.seq (TC.region (TO.u rfl rfl (TX.makeMapE rfl (fun m2 => (TO.u rfl rfl (TX.mkfunc rfl rfl rfl (TO.u rfl rfl (TX.insertE (i := 0) (.inr rfl) Try.runUnderlying97 Try.runUnderlying5 rfl rfl rfl rfl rfl (FN.nil) rfl (TO.u rfl rfl (TX.mkfunc rfl rfl rfl (TO.u rfl rfl (TX.insertE (i := 0) (.inr rfl) Try.runUnderlying97 Try.runUnderlying5 rfl rfl rfl rfl rfl (.miss rfl .nil) rfl (TO.u rfl rfl (TX.mkfunc rfl rfl rfl (TO.u rfl rfl (TX.insertE (i := 0) (.inr rfl) Try.runUnderlying97 Try.runUnderlying5 rfl rfl rfl rfl rfl (.miss rfl (.miss rfl .nil)) rfl (TO.u rfl rfl (TX.mkfunc rfl rfl rfl (TO.u rfl rfl (TX.insertE (i := 0) (.inr rfl) Try.runUnderlying97 Try.runUnderlying5 rfl rfl rfl rfl rfl (.miss rfl (.miss rfl (.miss rfl .nil))) rfl (TO.u rfl rfl (TX.loadN (i := 1) Try.isAgg58 Try.sizeOf58 rfl rfl rfl rfl (TO.u rfl rfl (TX.mkfunc rfl rfl rfl (TO.u rfl rfl (TX.insertE (i := 0) (.inr rfl) Try.runUnderlying97 Try.runUnderlying5 rfl rfl rfl rfl rfl (.miss rfl (.miss rfl (.miss rfl (.miss rfl .nil)))) rfl (TO.u rfl rfl (TX.loadN (i := 1) Try.isAgg58 Try.sizeOf58 rfl rfl rfl rfl (TO.u rfl rfl (TX.mkfunc rfl rfl rfl (TO.u rfl rfl (TX.insertE (i := 0) (.inr rfl) Try.runUnderlying97 Try.runUnderlying5 rfl rfl rfl rfl rfl (.miss rfl (.miss rfl (.miss rfl (.miss rfl (.miss rfl .nil))))) rfl (TO.u rfl rfl (TX.loadN (i := 1) Try.isAgg58 Try.sizeOf58 rfl rfl rfl rfl (TO.u rfl rfl (TX.mkfunc rfl rfl rfl (TO.u rfl rfl (TX.insertE (i := 0) (.inr rfl) Try.runUnderlying97 Try.runUnderlying5 rfl rfl rfl rfl rfl (.miss rfl (.miss rfl (.miss rfl (.miss rfl (.miss rfl (.miss rfl .nil)))))) rfl (TO.u rfl rfl (TX.loadN (i := 1) Try.isAgg58 Try.sizeOf58 rfl rfl rfl rfl (TO.u rfl rfl (TX.mkfunc rfl rfl rfl (TO.u rfl rfl (TX.insertE (i := 0) (.inr rfl) Try.runUnderlying97 Try.runUnderlying5 rfl rfl rfl rfl rfl (.miss rfl (.miss rfl (.miss rfl (.miss rfl (.miss rfl (.miss rfl (.miss rfl .nil))))))) rfl (TO.u rfl rfl (TX.move rfl rfl ?_))))))))))))))))))))))))))))))))))))))))))))))))))))))))
 refine TO.u rfl rfl (TX.assign rfl rfl (TO.nil (TE.thenN rfl rfl (TC.seq (TC.region (TO.u rfl rfl (TX.move rfl rfl (TO.u rfl rfl (TX.fieldAddr' Try.runUnderlying58 rfl Try.sizeOf5 rfl rfl rfl (TO.u rfl rfl (TX.load1 (i := 1) Try.isAgg5 rfl rfl rfl rfl (TO.fork (p0.fclass == 0) (fun hb3 => ?_) (fun hb3 => ?_)))))))))))))
 · replace h := it h hb3
   refine TO.u rfl rfl (TX.lookupE (i := 0) Try.runUnderlying97 Try.runUnderlying5 Try.zeroValue22 rfl rfl rfl rfl (.hit hb3) rfl rfl ?_)
   obtain ⟨v4, hv4, h⟩ := bp h
   exact TO.u rfl rfl (TX.callRO [1] [] rfl rfl Try.call63 rfl rfl (fun a w s => c63 b1 p0 _ _ s.hpOk hv4) rfl (TO.u rfl rfl (TX.assign rfl rfl (TO.nil (TE.thenN rfl rfl (TC.ret (TE.fin (R := ⟨[], []⟩) (TL.ret (R' := ⟨[], []⟩) Try.results37 (.cons (.tmp rfl) .nil) (subD 2 0 rfl rfl) ⟨congrArg ret37 (Option.some.inj h), rfl⟩))))))))
 replace h := ie h hb3
 refine TO.fork (p0.fclass == 1) (fun hb5 => ?_) (fun hb5 => ?_)
 · replace h := it h hb5
   refine TO.u rfl rfl (TX.lookupE (i := 0) Try.runUnderlying97 Try.runUnderlying5 Try.zeroValue22 rfl rfl rfl rfl (.miss hb3 (.hit hb5)) rfl rfl ?_)
   obtain ⟨v6, hv6, h⟩ := bp h
   exact TO.u rfl rfl (TX.callRO [1] [] rfl rfl Try.call64 rfl rfl (fun a w s => c64 b1 p0 _ _ s.hpOk hv6) rfl (TO.u rfl rfl (TX.assign rfl rfl (TO.nil (TE.thenN rfl rfl (TC.ret (TE.fin (R := ⟨[], []⟩) (TL.ret (R' := ⟨[], []⟩) Try.results37 (.cons (.tmp rfl) .nil) (subD 2 0 rfl rfl) ⟨congrArg ret37 (Option.some.inj h), rfl⟩))))))))
 replace h := ie h hb5
 refine TO.fork (p0.fclass == 2) (fun hb7 => ?_) (fun hb7 => ?_)
 · replace h := it h hb7
   refine TO.u rfl rfl (TX.lookupE (i := 0) Try.runUnderlying97 Try.runUnderlying5 Try.zeroValue22 rfl rfl rfl rfl (.miss hb3 (.miss hb5 (.hit hb7))) rfl rfl ?_)
   obtain ⟨v8, hv8, h⟩ := bp h
   exact TO.u rfl rfl (TX.callRO [1] [] rfl rfl Try.call65 rfl rfl (fun a w s => c65 b1 p0 _ _ s.hpOk hv8) rfl (TO.u rfl rfl (TX.assign rfl rfl (TO.nil (TE.thenN rfl rfl (TC.ret (TE.fin (R := ⟨[], []⟩) (TL.ret (R' := ⟨[], []⟩) Try.results37 (.cons (.tmp rfl) .nil) (subD 2 0 rfl rfl) ⟨congrArg ret37 (Option.some.inj h), rfl⟩))))))))
 replace h := ie h hb7
 refine TO.fork (p0.fclass == 3) (fun hb9 => ?_) (fun hb9 => ?_)
 · replace h := it h hb9
   refine TO.u rfl rfl (TX.lookupE (i := 0) Try.runUnderlying97 Try.runUnderlying5 Try.zeroValue22 rfl rfl rfl rfl (.miss hb3 (.miss hb5 (.miss hb7 (.hit hb9)))) rfl rfl ?_)
   obtain ⟨v10, hv10, h⟩ := bp h
   exact TO.u rfl rfl (TX.callRO [1] [] rfl rfl Try.call66 rfl rfl (fun a w s => c66 b1 p0 _ _ s.hpOk hv10) rfl (TO.u rfl rfl (TX.assign rfl rfl (TO.nil (TE.thenN rfl rfl (TC.ret (TE.fin (R := ⟨[], []⟩) (TL.ret (R' := ⟨[], []⟩) Try.results37 (.cons (.tmp rfl) .nil) (subD 2 0 rfl rfl) ⟨congrArg ret37 (Option.some.inj h), rfl⟩))))))))
 replace h := ie h hb9
 refine TO.fork (p0.fclass == 4) (fun hb11 => ?_) (fun hb11 => ?_)
 · replace h := it h hb11
   refine TO.u rfl rfl (TX.lookupE (i := 0) Try.runUnderlying97 Try.runUnderlying5 Try.zeroValue22 rfl rfl rfl rfl (.miss hb3 (.miss hb5 (.miss hb7 (.miss hb9 (.hit hb11))))) rfl rfl ?_)
   obtain ⟨v12, hv12, h⟩ := bd h
   exact TO.u rfl rfl (TX.callRO [] [] rfl rfl Try.call67 rfl rfl (fun a w s => c67 F p0 _ _  hv12) rfl (TO.u rfl rfl (TX.assign rfl rfl (TO.nil (TE.thenN rfl rfl (TC.ret (TE.fin (R := ⟨[], []⟩) (TL.ret (R' := ⟨[], []⟩) Try.results37 (.cons (.tmp rfl) .nil) (subD 2 0 rfl rfl) ⟨congrArg ret37 (Option.some.inj h), rfl⟩))))))))
 replace h := ie h hb11
 refine TO.fork (p0.fclass == 7) (fun hb13 => ?_) (fun hb13 => ?_)
 · replace h := it h hb13
   refine TO.u rfl rfl (TX.lookupE (i := 0) Try.runUnderlying97 Try.runUnderlying5 Try.zeroValue22 rfl rfl rfl rfl (.miss hb3 (.miss hb5 (.miss hb7 (.miss hb9 (.miss hb11 (.hit hb13)))))) rfl rfl ?_)
   obtain ⟨v14, hv14, h⟩ := bd h
   exact TO.u rfl rfl (TX.callRO [] [] rfl rfl Try.call67 rfl rfl (fun a w s => c67 F p0 _ _  hv14) rfl (TO.u rfl rfl (TX.assign rfl rfl (TO.nil (TE.thenN rfl rfl (TC.ret (TE.fin (R := ⟨[], []⟩) (TL.ret (R' := ⟨[], []⟩) Try.results37 (.cons (.tmp rfl) .nil) (subD 2 0 rfl rfl) ⟨congrArg ret37 (Option.some.inj h), rfl⟩))))))))
 replace h := ie h hb13
 refine TO.fork (p0.fclass == 5) (fun hb15 => ?_) (fun hb15 => ?_)
 · replace h := it h hb15
   refine TO.u rfl rfl (TX.lookupE (i := 0) Try.runUnderlying97 Try.runUnderlying5 Try.zeroValue22 rfl rfl rfl rfl (.miss hb3 (.miss hb5 (.miss hb7 (.miss hb9 (.miss hb11 (.miss hb13 (.hit hb15))))))) rfl rfl ?_)
   obtain ⟨v16, hv16, h⟩ := bp h
   exact TO.u rfl rfl (TX.callRO [] [] rfl rfl Try.call68 rfl rfl (fun a w s => c68 p0 _ _  hv16) rfl (TO.u rfl rfl (TX.assign rfl rfl (TO.nil (TE.thenN rfl rfl (TC.ret (TE.fin (R := ⟨[], []⟩) (TL.ret (R' := ⟨[], []⟩) Try.results37 (.cons (.tmp rfl) .nil) (subD 2 0 rfl rfl) ⟨congrArg ret37 (Option.some.inj h), rfl⟩))))))))
 replace h := ie h hb15
 refine TO.fork (p0.fclass == 6) (fun hb17 => ?_) (fun hb17 => ?_)
 · replace h := it h hb17
   refine TO.u rfl rfl (TX.lookupE (i := 0) Try.runUnderlying97 Try.runUnderlying5 Try.zeroValue22 rfl rfl rfl rfl (.miss hb3 (.miss hb5 (.miss hb7 (.miss hb9 (.miss hb11 (.miss hb13 (.miss hb15 (.hit hb17)))))))) rfl rfl ?_)
   obtain ⟨v18, hv18, h⟩ := bp h
   exact TO.u rfl rfl (TX.callRO [] [] rfl rfl Try.call68 rfl rfl (fun a w s => c68 p0 _ _  hv18) rfl (TO.u rfl rfl (TX.assign rfl rfl (TO.nil (TE.thenN rfl rfl (TC.ret (TE.fin (R := ⟨[], []⟩) (TL.ret (R' := ⟨[], []⟩) Try.results37 (.cons (.tmp rfl) .nil) (subD 2 0 rfl rfl) ⟨congrArg ret37 (Option.some.inj h), rfl⟩))))))))
 replace h := ie h hb17
 refine TO.u rfl rfl (TX.lookupE (i := 0) Try.runUnderlying97 Try.runUnderlying5 Try.zeroValue22 rfl rfl rfl rfl (.miss hb3 (.miss hb5 (.miss hb7 (.miss hb9 (.miss hb11 (.miss hb13 (.miss hb15 (.miss hb17 .nil)))))))) rfl rfl ?_)
 cases h
/-- hatchway/shape.second -/
def fn38 (p0 : List Instr) (p1 : Int) : Option (Int) :=
  (bif decide ((p0.length : Int) ≤ (IntKind.i64.wrap (p1 + 1))) then (some 23) else (bif inb (IntKind.i64.wrap (p1 + 1)) p0.length then (bif bif !((((gt p0 (IntKind.i64.wrap (p1 + 1))).fOp) == 0) && ((((gt p0 (IntKind.i64.wrap (p1 + 1))).fDst) == 0) && ((((gt p0 (IntKind.i64.wrap (p1 + 1))).fSrc) == 0) && ((((gt p0 (IntKind.i64.wrap (p1 + 1))).fOff) == 0) && ((((gt p0 (IntKind.i64.wrap (p1 + 1))).fImm) == ((gt p0 (IntKind.i64.wrap (p1 + 1))).fImm)) && true))))) then true else (inb p1 p0.length) then (bif (!((((gt p0 (IntKind.i64.wrap (p1 + 1))).fOp) == 0) && ((((gt p0 (IntKind.i64.wrap (p1 + 1))).fDst) == 0) && ((((gt p0 (IntKind.i64.wrap (p1 + 1))).fSrc) == 0) && ((((gt p0 (IntKind.i64.wrap (p1 + 1))).fOff) == 0) && ((((gt p0 (IntKind.i64.wrap (p1 + 1))).fImm) == ((gt p0 (IntKind.i64.wrap (p1 + 1))).fImm)) && true)))))) || ((((gt p0 p1).fSrc) == 1) && (((gt p0 (IntKind.i64.wrap (p1 + 1))).fImm) != 0)) then (some 22) else (some 0)) else none) else none))
def ret38 (r : Int) : Value := .int .i64 r
theorem c38 (sp_0 : Option Addr) (n_0 cap_0 : Nat) (p0 : List Instr) (p1 : Int) (w : World) (r : Int) (qn0 : p0.length = n_0) (qc0 : p0.length ≤ cap_0) (qp0 : RdF Instr.E w [] sp_0 p0) (h : fn38 p0 p1 = some r) : Ret Try.prog 38 [.slice sp_0 n_0 cap_0, .int .i64 p1] w ⟨[], []⟩ (fun v R => v = ret38 r ∧ R = ⟨[], []⟩) := by
 unfold fn38 at h
 refine Ret.of_body Try.func38 rfl Try.ntmps38 rfl (fun _ hx => absurd hx List.not_mem_nil) List.nodup_nil (TC.seq (TC.region (TO.u rfl rfl (TX.assign rfl rfl (TO.nil (TE.thenN rfl rfl (TC.seq (TC.seq (TC.region (TO.u rfl rfl (TX.move rfl rfl (TO.u rfl rfl (TX.ibin rfl rfl rfl rfl (TO.u rfl rfl (TX.move rfl rfl (TO.u rfl rfl (TX.lenS (xs := p0) Try.runUnderlying24 rfl qn0 rfl (TO.u rfl rfl (TX.ibin rfl rfl rfl rfl (TO.nil (TE.thenN rfl rfl (TC.cond rfl (fun hb1 => ?_) (fun hb1 => ?_)))))))))))))))))))))))
 · replace h := it h hb1
   exact TC.seq (TC.region (TO.u rfl rfl (TX.assign rfl rfl (TO.nil (TE.thenN rfl rfl (TC.ret (TE.thenR (TE.fin (R := ⟨[], []⟩) (TL.ret (R' := ⟨[], []⟩) Try.results38 (.cons (.tmp rfl) .nil) (subD 0 0 rfl rfl) ⟨congrArg ret38 (Option.some.inj h), rfl⟩)))))))))
 replace h := ie h hb1
 refine TC.skip (TE.thenN rfl rfl (TC.seq (TC.region (TO.u rfl rfl (TX.move rfl rfl (TO.u rfl rfl (TX.move rfl rfl (TO.u rfl rfl (TX.ibin rfl rfl rfl rfl ?_)))))))))
 obtain ⟨hk2, h⟩ := ck h
 refine TO.u rfl rfl (TX.indexR (N := Instr.E) Try.runUnderlying24 Try.sizeOf27 rfl qn0 rfl (fun a w s => qp0 w s.ext) hk2 rfl (TO.u rfl rfl (TX.loadRN (N := Instr.E) Try.isAgg27 Try.sizeOf27 rfl (fun a w s => qp0 w s.ext) hk2 rfl rfl (TO.u rfl rfl (TX.alloc Try.zeroValue27 rfl rfl (fun b3 => (TO.u rfl rfl (TX.store (i := 0) Try.sizeOf27 rfl rfl rfl rfl rfl rfl rfl rfl (TO.nil (TE.thenN rfl rfl (TC.seq (TC.seq (TC.region (TO.u rfl rfl (TX.loadN (i := 0) Try.isAgg27 Try.sizeOf27 rfl rfl rfl rfl (TO.u rfl rfl (TX.fieldAddr' Try.runUnderlying27 rfl Try.sizeOf21 rfl rfl rfl (TO.u rfl rfl (TX.load1 (i := 0) Try.isAgg21 rfl rfl rfl rfl (TO.u rfl rfl (TX.build Try.zeroValue27 rfl Try.runUnderlying27 (.cons Try.sizeOf5 (.cons Try.sizeOf5 (.cons Try.sizeOf5 (.cons Try.sizeOf25 (.cons Try.sizeOf21 .nil))))) rfl rfl rfl (TO.u rfl rfl (TX.aggNe Try.eqGuardType27 rfl rfl rfl (EqOk.struct (K := 1) Try.runUnderlying27 Try.stoodInHeld27 (.cons rfl (.one Try.isAgg5 rfl) (.one Try.isAgg5 rfl) (EqOk.int Try.runUnderlying5) (.cons rfl (.one Try.isAgg5 rfl) (.one Try.isAgg5 rfl) (EqOk.int Try.runUnderlying5) (.cons rfl (.one Try.isAgg5 rfl) (.one Try.isAgg5 rfl) (EqOk.int Try.runUnderlying5) (.cons rfl (.one Try.isAgg25 rfl) (.one Try.isAgg25 rfl) (EqOk.int Try.runUnderlying25) (.cons rfl (.one Try.isAgg21 rfl) (.one Try.isAgg21 rfl) (EqOk.int Try.runUnderlying21) .nil)))))) rfl (TO.u rfl rfl (TX.move rfl rfl ?_)))))))))))))))))))))))))
 obtain ⟨hk4, h⟩ := ck h
 refine TO.cutS 12 [(33, .bool ((!((((gt p0 (IntKind.i64.wrap (p1 + 1))).fOp) == 0) && ((((gt p0 (IntKind.i64.wrap (p1 + 1))).fDst) == 0) && ((((gt p0 (IntKind.i64.wrap (p1 + 1))).fSrc) == 0) && ((((gt p0 (IntKind.i64.wrap (p1 + 1))).fOff) == 0) && ((((gt p0 (IntKind.i64.wrap (p1 + 1))).fImm) == ((gt p0 (IntKind.i64.wrap (p1 + 1))).fImm)) && true)))))) || ((((gt p0 p1).fSrc) == 1) && (((gt p0 (IntKind.i64.wrap (p1 + 1))).fImm) != 0))))] ?_ ?_
 · cases hc5 : (!((((gt p0 (IntKind.i64.wrap (p1 + 1))).fOp) == 0) && ((((gt p0 (IntKind.i64.wrap (p1 + 1))).fDst) == 0) && ((((gt p0 (IntKind.i64.wrap (p1 + 1))).fSrc) == 0) && ((((gt p0 (IntKind.i64.wrap (p1 + 1))).fOff) == 0) && ((((gt p0 (IntKind.i64.wrap (p1 + 1))).fImm) == ((gt p0 (IntKind.i64.wrap (p1 + 1))).fImm)) && true))))))
   · refine TO.g rfl rfl rfl rfl (TX.move rfl rfl (TO.g rfl rfl rfl rfl (TX.move rfl rfl (TO.g rfl rfl rfl rfl (TX.indexR (N := Instr.E) Try.runUnderlying24 Try.sizeOf27 rfl qn0 rfl (fun a w s => qp0 w s.ext) (ce hk4 hc5) rfl (TO.g rfl rfl rfl rfl (TX.fieldAddrE Try.runUnderlying27 rfl Try.sizeOf5 rfl rfl rfl (TO.g rfl rfl rfl rfl (TX.loadR1 (N := Instr.E) Try.isAgg5 rfl (fun a w s => qp0 w s.ext) (ce hk4 hc5) rfl rfl (TO.g rfl rfl rfl rfl (TX.ibin rfl rfl rfl rfl (TO.g rfl rfl rfl rfl (TX.move rfl rfl ?_)))))))))))))
     cases hc6 : (((gt p0 p1).fSrc) == 1)
     · exact TO.s rfl rfl rfl rfl rfl rfl (TO.s rfl rfl rfl rfl rfl rfl (TO.s rfl rfl rfl rfl rfl rfl (TO.g rfl rfl rfl rfl (TX.pickF rfl rfl rfl (TO.u rfl rfl (TX.pickF rfl rfl rfl (TO.nil (TE.cutS 12 rfl rfl ⟨rfl, trivial⟩))))))))
     exact TO.g rfl rfl rfl rfl (TX.fieldAddr' Try.runUnderlying27 rfl Try.sizeOf21 rfl rfl rfl (TO.g rfl rfl rfl rfl (TX.load1 (i := 0) Try.isAgg21 rfl rfl rfl rfl (TO.g rfl rfl rfl rfl (TX.ibin rfl rfl rfl rfl (TO.g rfl rfl rfl rfl (TX.pickT rfl rfl rfl (TO.u rfl rfl (TX.pickF rfl rfl rfl (TO.nil (TE.cutS 12 rfl rfl ⟨rfl, trivial⟩)))))))))))
   exact TO.s rfl rfl rfl rfl rfl rfl (TO.s rfl rfl rfl rfl rfl rfl (TO.s rfl rfl rfl rfl rfl rfl (TO.s rfl rfl rfl rfl rfl rfl (TO.s rfl rfl rfl rfl rfl rfl (TO.s rfl rfl rfl rfl rfl rfl (TO.s rfl rfl rfl rfl rfl rfl (TO.su rfl rfl rfl rfl rfl (TO.su rfl rfl rfl rfl rfl (TO.su rfl rfl rfl rfl rfl (TO.s rfl rfl rfl rfl rfl rfl (TO.u rfl rfl (TX.pickT rfl rfl rfl (TO.nil (TE.cutS 12 rfl rfl ⟨rfl, trivial⟩))))))))))))))
 refine TO.nil (TE.thenN rfl rfl (TC.cond rfl (fun hb7 => ?_) (fun hb7 => ?_)))
 · replace h := it h hb7
   exact TC.seq (TC.region (TO.u rfl rfl (TX.assign rfl rfl (TO.nil (TE.thenN rfl rfl (TC.ret (TE.thenR (TE.fin (R := ⟨[], []⟩) (TL.ret (R' := ⟨[], []⟩) Try.results38 (.cons (.tmp rfl) .nil) (subD 1 0 rfl rfl) ⟨congrArg ret38 (Option.some.inj h), rfl⟩)))))))))
 replace h := ie h hb7
 exact TC.skip (TE.thenN rfl rfl (TC.seq (TC.region (TO.u rfl rfl (TX.assign rfl rfl (TO.nil (TE.thenN rfl rfl (TC.ret (TE.fin (R := ⟨[], []⟩) (TL.ret (R' := ⟨[], []⟩) Try.results38 (.cons (.tmp rfl) .nil) (subD 1 0 rfl rfl) ⟨congrArg ret38 (Option.some.inj h), rfl⟩))))))))))
/-- (hatchway/shape.slot).target -/
def fn39 (p0 : Slot) (p1 : Int) : Int × Bool :=
  (bif !((p0.fclass == 5) || (p0.fclass == 6)) then (0, false) else (bindP (fn62 p0) fun v4 => (bif (!v4) && (p0.fop != 0) then (0, false) else (bif (p0.fop == 0) && (p0.fclass == 6) then (IntKind.i64.wrap ((IntKind.i64.wrap (p1 + 1)) + (IntKind.i64.wrap p0.fInstr.fImm)), true) else (IntKind.i64.wrap ((IntKind.i64.wrap (p1 + 1)) + (IntKind.i64.wrap p0.fInstr.fOff)), true)))))
def ret39 (r : Int × Bool) : Value := .tuple #[.int .i64 r.1, .bool r.2]
theorem c39 (p0 : Slot) (p1 : Int) (w : World) (r : Int × Bool)  (h : fn39 p0 p1 = r) : Ret Try.prog 39 [.agg #[.int .u8 p0.fInstr.fOp, .int .u8 p0.fInstr.fDst, .int .u8 p0.fInstr.fSrc, .int .i16 p0.fInstr.fOff, .int .i32 p0.fInstr.fImm, .int .u8 p0.fclass, .int .u8 p0.fop, .bool p0.freg], .int .i64 p1] w ⟨[], []⟩ (fun v R => v = ret39 r ∧ R = ⟨[], []⟩) := by
 unfold fn39 at h
 refine Ret.of_body Try.func39 rfl Try.ntmps39 rfl (fun _ hx => absurd hx List.not_mem_nil) List.nodup_nil (TC.seq (TC.region (TO.u rfl rfl (TX.box rfl rfl rfl (fun b1 => (TO.u rfl rfl (TX.assign rfl rfl (TO.u rfl rfl (TX.assign rfl rfl (TO.nil (TE.thenN rfl rfl (TC.seq (TC.region (TO.u rfl rfl (TX.fieldAddr' Try.runUnderlying58 rfl Try.sizeOf5 rfl rfl rfl (TO.u rfl rfl (TX.load1 (i := 0) Try.isAgg5 rfl rfl rfl rfl (TO.u rfl rfl (TX.ibin rfl rfl rfl rfl (TO.u rfl rfl (TX.move rfl rfl (TO.cutS 4 [(14, .bool ((p0.fclass == 5) || (p0.fclass == 6)))] ?_ ?_))))))))))))))))))))))
 · cases hc2 : (p0.fclass == 5)
   · exact TO.g rfl rfl rfl rfl (TX.fieldAddr' Try.runUnderlying58 rfl Try.sizeOf5 rfl rfl rfl (TO.g rfl rfl rfl rfl (TX.load1 (i := 0) Try.isAgg5 rfl rfl rfl rfl (TO.g rfl rfl rfl rfl (TX.ibin rfl rfl rfl rfl (TO.u rfl rfl (TX.pickF rfl rfl rfl (TO.nil (TE.cutS 4 rfl rfl ⟨rfl, trivial⟩)))))))))
   exact TO.s rfl rfl rfl rfl rfl rfl (TO.s rfl rfl rfl rfl rfl rfl (TO.s rfl rfl rfl rfl rfl rfl (TO.u rfl rfl (TX.pickT rfl rfl rfl (TO.nil (TE.cutS 4 rfl rfl ⟨rfl, trivial⟩))))))
 refine TO.u rfl rfl (TX.assign rfl rfl (TO.nil (TE.thenN rfl rfl (TC.seq (TC.block (TC.seq (TC.seq (TC.region (TO.u rfl rfl (TX.move rfl rfl (TO.u rfl rfl (TX.not rfl rfl (TO.u rfl rfl (TX.assign rfl rfl (TO.nil (TE.thenN rfl rfl (TC.cond rfl (fun hb3 => ?_) (fun hb3 => ?_))))))))))))))))))
 · replace h := it h hb3
   exact TC.skip (TE.thenN rfl rfl (TC.condT' rfl hb3 (TC.seq (TC.region (TO.u rfl rfl (TX.assign rfl rfl (TO.u rfl rfl (TX.assign rfl rfl (TO.nil (TE.thenN rfl rfl (TC.ret (TE.blockR (TE.thenR (TE.fin (R := ⟨[], []⟩) (TL.ret (R' := ⟨[], []⟩) Try.results39 (.cons (.tmp rfl) (.cons (.tmp rfl) .nil)) (subD 1 0 rfl rfl) ⟨congrArg ret39 h, rfl⟩)))))))))))))))
 replace h := ie h hb3
 refine TC.region (TO.u rfl rfl (TX.loadN (i := 0) Try.isAgg58 Try.sizeOf58 rfl rfl rfl rfl ?_))
 obtain ⟨v4, hv4, h⟩ := bp h
 refine TO.u rfl rfl (TX.callP Try.call62 rfl (fun a w s => c62 p0 _ _  hv4) rfl (TO.u rfl rfl (TX.not rfl rfl (TO.u rfl rfl (TX.move rfl rfl (TO.cutS 4 [(25, .bool ((!v4) && (p0.fop != 0)))] ?_ ?_))))))
 · cases hc5 : (!v4)
   · exact TO.s rfl rfl rfl rfl rfl rfl (TO.s rfl rfl rfl rfl rfl rfl (TO.s rfl rfl rfl rfl rfl rfl (TO.u rfl rfl (TX.pickF rfl rfl rfl (TO.nil (TE.cutS 4 rfl rfl ⟨rfl, trivial⟩))))))
   exact TO.g rfl rfl rfl rfl (TX.fieldAddr' Try.runUnderlying58 rfl Try.sizeOf5 rfl rfl rfl (TO.g rfl rfl rfl rfl (TX.load1 (i := 0) Try.isAgg5 rfl rfl rfl rfl (TO.g rfl rfl rfl rfl (TX.ibin rfl rfl rfl rfl (TO.u rfl rfl (TX.pickT rfl rfl rfl (TO.nil (TE.cutS 4 rfl rfl ⟨rfl, trivial⟩)))))))))
 refine TO.u rfl rfl (TX.assign rfl rfl (TO.nil (TE.thenN rfl rfl (TC.cond rfl (fun hb6 => ?_) (fun hb6 => ?_)))))
 · replace h := it h hb6
   exact TC.seq (TC.region (TO.u rfl rfl (TX.assign rfl rfl (TO.u rfl rfl (TX.assign rfl rfl (TO.nil (TE.thenN rfl rfl (TC.ret (TE.blockR (TE.thenR (TE.fin (R := ⟨[], []⟩) (TL.ret (R' := ⟨[], []⟩) Try.results39 (.cons (.tmp rfl) (.cons (.tmp rfl) .nil)) (subD 1 0 rfl rfl) ⟨congrArg ret39 h, rfl⟩))))))))))))
 replace h := ie h hb6
 refine TC.seq (TC.region (TO.u rfl rfl (TX.fieldAddr' Try.runUnderlying58 rfl Try.sizeOf5 rfl rfl rfl (TO.u rfl rfl (TX.load1 (i := 0) Try.isAgg5 rfl rfl rfl rfl (TO.u rfl rfl (TX.ibin rfl rfl rfl rfl (TO.u rfl rfl (TX.move rfl rfl (TO.cutS 4 [(34, .bool ((p0.fop == 0) && (p0.fclass == 6)))] ?_ ?_))))))))))
 · cases hc7 : (p0.fop == 0)
   · exact TO.s rfl rfl rfl rfl rfl rfl (TO.s rfl rfl rfl rfl rfl rfl (TO.s rfl rfl rfl rfl rfl rfl (TO.u rfl rfl (TX.pickF rfl rfl rfl (TO.nil (TE.cutS 4 rfl rfl ⟨rfl, trivial⟩))))))
   exact TO.g rfl rfl rfl rfl (TX.fieldAddr' Try.runUnderlying58 rfl Try.sizeOf5 rfl rfl rfl (TO.g rfl rfl rfl rfl (TX.load1 (i := 0) Try.isAgg5 rfl rfl rfl rfl (TO.g rfl rfl rfl rfl (TX.ibin rfl rfl rfl rfl (TO.u rfl rfl (TX.pickT rfl rfl rfl (TO.nil (TE.cutS 4 rfl rfl ⟨rfl, trivial⟩)))))))))
 refine TO.u rfl rfl (TX.assign rfl rfl (TO.nil (TE.thenN rfl rfl (TC.cond rfl (fun hb8 => ?_) (fun hb8 => ?_)))))
 · replace h := it h hb8
   exact TC.seq (TC.region (TO.u rfl rfl (TX.move rfl rfl (TO.u rfl rfl (TX.ibin rfl rfl rfl rfl (TO.u rfl rfl (TX.fieldAddr' Try.runUnderlying58 rfl Try.sizeOf27 rfl rfl rfl (TO.u rfl rfl (TX.fieldAddr' Try.runUnderlying27 rfl Try.sizeOf21 rfl rfl rfl (TO.u rfl rfl (TX.load1 (i := 0) Try.isAgg21 rfl rfl rfl rfl (TO.u rfl rfl (TX.conv Try.runUnderlying21 Try.runUnderlying3 rfl rfl (TO.u rfl rfl (TX.ibin rfl rfl rfl rfl (TO.u rfl rfl (TX.assign rfl rfl (TO.u rfl rfl (TX.assign rfl rfl (TO.nil (TE.thenN rfl rfl (TC.ret (TE.blockR (TE.thenR (TE.fin (R := ⟨[], []⟩) (TL.ret (R' := ⟨[], []⟩) Try.results39 (.cons (.tmp rfl) (.cons (.tmp rfl) .nil)) (subD 1 0 rfl rfl) ⟨congrArg ret39 h, rfl⟩))))))))))))))))))))))))))
 replace h := ie h hb8
 exact TC.skip (TE.blockN (TE.thenN rfl rfl (TC.seq (TC.region (TO.u rfl rfl (TX.move rfl rfl (TO.u rfl rfl (TX.ibin rfl rfl rfl rfl (TO.u rfl rfl (TX.fieldAddr' Try.runUnderlying58 rfl Try.sizeOf27 rfl rfl rfl (TO.u rfl rfl (TX.fieldAddr' Try.runUnderlying27 rfl Try.sizeOf25 rfl rfl rfl (TO.u rfl rfl (TX.load1 (i := 0) Try.isAgg25 rfl rfl rfl rfl (TO.u rfl rfl (TX.conv Try.runUnderlying25 Try.runUnderlying3 rfl rfl (TO.u rfl rfl (TX.ibin rfl rfl rfl rfl (TO.u rfl rfl (TX.assign rfl rfl (TO.u rfl rfl (TX.assign rfl rfl (TO.nil (TE.thenN rfl rfl (TC.ret (TE.fin (R := ⟨[], []⟩) (TL.ret (R' := ⟨[], []⟩) Try.results39 (.cons (.tmp rfl) (.cons (.tmp rfl) .nil)) (subD 1 0 rfl rfl) ⟨congrArg ret39 h, rfl⟩)))))))))))))))))))))))))))
/-- (hatchway/shape.slot).ends -/
def fn40 (p0 : Slot) : Bool :=
  (((p0.fclass == 5) || (p0.fclass == 6)) && ((p0.fop == 0) || (p0.fop == 144)))
def ret40 (r : Bool) : Value := .bool r
theorem c40 (p0 : Slot) (w : World) (r : Bool)  (h : fn40 p0 = r) : Ret Try.prog 40 [.agg #[.int .u8 p0.fInstr.fOp, .int .u8 p0.fInstr.fDst, .int .u8 p0.fInstr.fSrc, .int .i16 p0.fInstr.fOff, .int .i32 p0.fInstr.fImm, .int .u8 p0.fclass, .int .u8 p0.fop, .bool p0.freg]] w ⟨[], []⟩ (fun v R => v = ret40 r ∧ R = ⟨[], []⟩) := by
 unfold fn40 at h
 refine Ret.of_body Try.func40 rfl Try.ntmps40 rfl (fun _ hx => absurd hx List.not_mem_nil) List.nodup_nil (TC.seq (TC.region (TO.u rfl rfl (TX.box rfl rfl rfl (fun b1 => (TO.u rfl rfl (TX.assign rfl rfl (TO.nil (TE.thenN rfl rfl (TC.seq (TC.region (TO.u rfl rfl (TX.fieldAddr' Try.runUnderlying58 rfl Try.sizeOf5 rfl rfl rfl (TO.u rfl rfl (TX.load1 (i := 0) Try.isAgg5 rfl rfl rfl rfl (TO.u rfl rfl (TX.ibin rfl rfl rfl rfl (TO.u rfl rfl (TX.move rfl rfl (TO.cutS 4 [(11, .bool ((p0.fclass == 5) || (p0.fclass == 6)))] ?_ ?_))))))))))))))))))))
 · cases hc2 : (p0.fclass == 5)
   · exact TO.g rfl rfl rfl rfl (TX.fieldAddr' Try.runUnderlying58 rfl Try.sizeOf5 rfl rfl rfl (TO.g rfl rfl rfl rfl (TX.load1 (i := 0) Try.isAgg5 rfl rfl rfl rfl (TO.g rfl rfl rfl rfl (TX.ibin rfl rfl rfl rfl (TO.u rfl rfl (TX.pickF rfl rfl rfl (TO.nil (TE.cutS 4 rfl rfl ⟨rfl, trivial⟩)))))))))
   exact TO.s rfl rfl rfl rfl rfl rfl (TO.s rfl rfl rfl rfl rfl rfl (TO.s rfl rfl rfl rfl rfl rfl (TO.u rfl rfl (TX.pickT rfl rfl rfl (TO.nil (TE.cutS 4 rfl rfl ⟨rfl, trivial⟩))))))
 refine TO.u rfl rfl (TX.assign rfl rfl (TO.nil (TE.thenN rfl rfl (TC.seq (TC.region (TO.u rfl rfl (TX.move rfl rfl (TO.u rfl rfl (TX.move rfl rfl (TO.cutS 9 [(22, .bool (((p0.fclass == 5) || (p0.fclass == 6)) && ((p0.fop == 0) || (p0.fop == 144))))] ?_ ?_))))))))))
 · cases hc3 : ((p0.fclass == 5) || (p0.fclass == 6))
   · exact TO.s rfl rfl rfl rfl rfl rfl (TO.s rfl rfl rfl rfl rfl rfl (TO.s rfl rfl rfl rfl rfl rfl (TO.s rfl rfl rfl rfl rfl rfl (TO.su rfl rfl rfl rfl rfl (TO.su rfl rfl rfl rfl rfl (TO.su rfl rfl rfl rfl rfl (TO.s rfl rfl rfl rfl rfl rfl (TO.u rfl rfl (TX.pickF rfl rfl rfl (TO.nil (TE.cutS 9 rfl rfl ⟨rfl, trivial⟩)))))))))))
   refine TO.g rfl rfl rfl rfl (TX.fieldAddr' Try.runUnderlying58 rfl Try.sizeOf5 rfl rfl rfl (TO.g rfl rfl rfl rfl (TX.load1 (i := 0) Try.isAgg5 rfl rfl rfl rfl (TO.g rfl rfl rfl rfl (TX.ibin rfl rfl rfl rfl (TO.g rfl rfl rfl rfl (TX.move rfl rfl ?_)))))))
   cases hc4 : (p0.fop == 0)
   · exact TO.g rfl rfl rfl rfl (TX.fieldAddr' Try.runUnderlying58 rfl Try.sizeOf5 rfl rfl rfl (TO.g rfl rfl rfl rfl (TX.load1 (i := 0) Try.isAgg5 rfl rfl rfl rfl (TO.g rfl rfl rfl rfl (TX.ibin rfl rfl rfl rfl (TO.g rfl rfl rfl rfl (TX.pickF rfl rfl rfl (TO.u rfl rfl (TX.pickT rfl rfl rfl (TO.nil (TE.cutS 9 rfl rfl ⟨rfl, trivial⟩)))))))))))
   exact TO.s rfl rfl rfl rfl rfl rfl (TO.s rfl rfl rfl rfl rfl rfl (TO.s rfl rfl rfl rfl rfl rfl (TO.g rfl rfl rfl rfl (TX.pickT rfl rfl rfl (TO.u rfl rfl (TX.pickT rfl rfl rfl (TO.nil (TE.cutS 9 rfl rfl ⟨rfl, trivial⟩))))))))
 exact TO.u rfl rfl (TX.assign rfl rfl (TO.nil (TE.thenN rfl rfl (TC.ret (TE.fin (R := ⟨[], []⟩) (TL.ret (R' := ⟨[], []⟩) Try.results40 (.cons (.tmp rfl) .nil) (subD 1 0 rfl rfl) ⟨congrArg ret40 h, rfl⟩))))))
def fn14_r1 (x25 : List (Int × Bool)) (y28 : Int) (y29 : Slot) : Option (((List (Int × Bool))) × Nat) :=
  (some (mput x25 y28 true, 0))
theorem fn14_r1_s (x25 : List (Int × Bool)) (y28 : Int) (y29 : Slot) : fn14_r1 x25 y28 y29 = (some (mput x25 y28 true, 0)) := rfl
def fn14_r2 (F : Nat) (p0 : List Instr) (x48 : List (Int × Bool)) (x96 : Int) (x97 : Int) (x98 : Bool) (y99 : Int) (y100 : Slot) : Option ((Int × Int × Bool) × Nat) :=
  (bindP (fn35 y100) fun v117 => (bif !v117 then (some ((y99, 20, x98), 1)) else (bindP (fn36 y100) fun v119 => (bif !v119 then (some ((y99, 21, x98), 1)) else (Option.bind (fn37 F y100) fun v121 => (bif !v121 then (some ((y99, 22, x98), 1)) else (bif y100.fInstr.fOp == 24 then (Option.bind (fn38 p0 y99) fun v124 => (bif v124 != 0 then (some ((y99, v124, x98), 1)) else (bindP (fn39 y100 y99) fun v126 => (bif v126.2 && (!(mget x48 v126.1 false)) then (some ((y99, 23, x98), 1)) else (bindP (fn40 y100) fun v129 => (some ((x96, x97, v129), 0))))))) else (bindP (fn39 y100 y99) fun v130 => (bif v130.2 && (!(mget x48 v130.1 false)) then (some ((y99, 23, x98), 1)) else (bindP (fn40 y100) fun v133 => (some ((x96, x97, v133), 0))))))))))))
theorem fn14_r2_s (F : Nat) (p0 : List Instr) (x48 : List (Int × Bool)) (x96 : Int) (x97 : Int) (x98 : Bool) (y99 : Int) (y100 : Slot) : fn14_r2 F p0 x48 x96 x97 x98 y99 y100 = (bindP (fn35 y100) fun v117 => (bif !v117 then (some ((y99, 20, x98), 1)) else (bindP (fn36 y100) fun v119 => (bif !v119 then (some ((y99, 21, x98), 1)) else (Option.bind (fn37 F y100) fun v121 => (bif !v121 then (some ((y99, 22, x98), 1)) else (bif y100.fInstr.fOp == 24 then (Option.bind (fn38 p0 y99) fun v124 => (bif v124 != 0 then (some ((y99, v124, x98), 1)) else (bindP (fn39 y100 y99) fun v126 => (bif v126.2 && (!(mget x48 v126.1 false)) then (some ((y99, 23, x98), 1)) else (bindP (fn40 y100) fun v129 => (some ((x96, x97, v129), 0))))))) else (bindP (fn39 y100 y99) fun v130 => (bif v130.2 && (!(mget x48 v130.1 false)) then (some ((y99, 23, x98), 1)) else (bindP (fn40 y100) fun v133 => (some ((x96, x97, v133), 0)))))))))))) := rfl
def fn14_k2_0 (p0 : List Instr) (x134 : Int) (x135 : Int) (x136 : Bool) : Option (Int × Int) :=
  (bif !x136 then (some (IntKind.i64.wrap ((p0.length : Int) - 1), 24)) else (some (0, 0)))
theorem fn14_k2_0_s (p0 : List Instr) (x134 : Int) (x135 : Int) (x136 : Bool) : fn14_k2_0 p0 x134 x135 x136 = (bif !x136 then (some (IntKind.i64.wrap ((p0.length : Int) - 1), 24)) else (some (0, 0))) := rfl
def fn14_k2_1 (x134 : Int) (x135 : Int) (x136 : Bool) : Option (Int × Int) :=
  (some (x134, x135))
theorem fn14_k2_1_s (x134 : Int) (x135 : Int) (x136 : Bool) : fn14_k2_1 x134 x135 x136 = (some (x134, x135)) := rfl
def fn14_k1_0 (F : Nat) (p0 : List Instr) (x48 : List (Int × Bool)) : Option (Int × Int) :=
  (Option.bind (fn59 F (stepR (fun (s : Int × Int × Bool) (y : Int × Slot) => fn14_r2 F p0 x48 s.1 s.2.1 s.2.2 y.1 y.2)) goR p0 (((0, 0, false), 0) : (Int × Int × Bool) × Nat)) fun o138 => (bif Nat.beq o138.2 0 then fn14_k2_0 p0 o138.1.1 o138.1.2.1 o138.1.2.2 else (bif Nat.beq o138.2 1 then fn14_k2_1 o138.1.1 o138.1.2.1 o138.1.2.2 else none)))
theorem fn14_k1_0_s (F : Nat) (p0 : List Instr) (x48 : List (Int × Bool)) : fn14_k1_0 F p0 x48 = (Option.bind (fn59 F (stepR (fun (s : Int × Int × Bool) (y : Int × Slot) => fn14_r2 F p0 x48 s.1 s.2.1 s.2.2 y.1 y.2)) goR p0 (((0, 0, false), 0) : (Int × Int × Bool) × Nat)) fun o138 => (bif Nat.beq o138.2 0 then fn14_k2_0 p0 o138.1.1 o138.1.2.1 o138.1.2.2 else (bif Nat.beq o138.2 1 then fn14_k2_1 o138.1.1 o138.1.2.1 o138.1.2.2 else none))) := rfl
/-- hatchway/shape.Check -/
def fn14 (F : Nat) (p0 : List Instr) : Option (Int × Int) :=
  (bif ((p0.length : Int) == 0) || (decide ((4096 : Int) < (p0.length : Int))) then (some (0, 3)) else (Option.bind (fn59 F (stepR (fun (s : (List (Int × Bool))) (y : Int × Slot) => fn14_r1 s y.1 y.2)) goR p0 ((([] : List (Int × Bool)), 0) : ((List (Int × Bool))) × Nat)) fun o52 => (bif Nat.beq o52.2 0 then fn14_k1_0 F p0 o52.1 else none)))
def ret14 (r : Int × Int) : Value := .tuple #[.int .i64 r.1, .int .i64 r.2]
set_option maxHeartbeats 8000000 in
theorem c14 (F : Nat) (sp_0 : Option Addr) (n_0 cap_0 : Nat) (p0 : List Instr) (w : World) (r : Int × Int) (qn0 : p0.length = n_0) (qc0 : p0.length ≤ cap_0) (qp0 : RdF Instr.E w [] sp_0 p0) (h : fn14 F p0 = some r) : Ret Try.prog 14 [.slice sp_0 n_0 cap_0] w ⟨[], []⟩ (fun v R => v = ret14 r ∧ R = ⟨[], []⟩) := by
 unfold fn14 at h
 refine Ret.of_body Try.func14 rfl Try.ntmps14 rfl (fun _ hx => absurd hx List.not_mem_nil) List.nodup_nil (TC.seq (TC.region (TO.u rfl rfl (TX.box rfl rfl rfl (fun b1 => (TO.u rfl rfl (TX.alloc Try.zeroValue3 rfl rfl (fun b2 => (TO.u rfl rfl (TX.alloc Try.zeroValue28 rfl rfl (fun b3 => (TO.nil (TE.thenN rfl rfl (TC.seq (TC.seq (TC.region (TO.u rfl rfl (TX.load1 (i := 2) Try.isAgg24 rfl rfl rfl rfl (TO.u rfl rfl (TX.lenS (xs := p0) Try.runUnderlying24 rfl qn0 rfl (TO.u rfl rfl (TX.ibin rfl rfl rfl rfl (TO.u rfl rfl (TX.move rfl rfl (TO.cutS 4 [(19, .bool (((p0.length : Int) == 0) || (decide ((4096 : Int) < (p0.length : Int)))))] ?_ ?_)))))))))))))))))))))))))
 · cases hc4 : ((p0.length : Int) == 0)
   · exact TO.g rfl rfl rfl rfl (TX.load1 (i := 2) Try.isAgg24 rfl rfl rfl rfl (TO.g rfl rfl rfl rfl (TX.lenS (xs := p0) Try.runUnderlying24 rfl qn0 rfl (TO.g rfl rfl rfl rfl (TX.ibin rfl rfl rfl rfl (TO.u rfl rfl (TX.pickF rfl rfl rfl (TO.nil (TE.cutS 4 rfl rfl ⟨rfl, trivial⟩)))))))))
   exact TO.s rfl rfl rfl rfl rfl rfl (TO.s rfl rfl rfl rfl rfl rfl (TO.s rfl rfl rfl rfl rfl rfl (TO.u rfl rfl (TX.pickT rfl rfl rfl (TO.nil (TE.cutS 4 rfl rfl ⟨rfl, trivial⟩))))))
 refine TO.nil (TE.thenN rfl rfl (TC.cond rfl (fun hb5 => ?_) (fun hb5 => ?_)))
 · replace h := it h hb5
   exact TC.seq (TC.region (TO.u rfl rfl (TX.store (i := 1) Try.sizeOf3 rfl rfl rfl rfl rfl rfl rfl rfl (TO.u rfl rfl (TX.store (i := 0) Try.sizeOf28 rfl rfl rfl rfl rfl rfl rfl rfl (TO.nil (TE.thenN rfl rfl (TC.ret (TE.thenR (TE.fin (R := ⟨[], []⟩) (TL.ret (R' := ⟨[], []⟩) Try.results14 (.cons (.cell1 (i := 1) Try.isAgg3 rfl rfl rfl) (.cons (.cell1 (i := 0) Try.isAgg28 rfl rfl rfl) .nil)) (subD 3 0 rfl rfl) ⟨congrArg ret14 (Option.some.inj h), rfl⟩)))))))))))
 replace h := ie h hb5
 refine TC.skip (TE.thenN rfl rfl (TC.seq (TC.region (TO.u rfl rfl (TX.makeMapS (N := (Kn.int .i64)) (V := (fun (v : Bool) => (.bool v : Value))) rfl (fun m6 Hs8 ho9 => (TO.u rfl rfl (TX.alloc Try.zeroValue53 rfl rfl (fun b10 => (TO.u rfl rfl (TX.store (i := 0) Try.sizeOf53 rfl rfl rfl rfl rfl rfl rfl rfl (TO.nil (TE.thenN rfl rfl (TC.seq (TC.seq (TC.region (TO.u rfl rfl (TX.load1 (i := 3) Try.isAgg24 rfl rfl rfl rfl (TO.u rfl rfl (TX.callQ _ Try.call34 rfl (fun a w s => c34 _ _ _ p0 _) rfl ?_))))))))))))))))))))
 rintro _ _ ⟨b11, rfl, rfl⟩
 refine TO.reH ⟨[(b11, .cells #[.slice sp_0 n_0 cap_0] 24), (b10, .cells #[.map (some m6)] 53), (b3, .cells #[.int .i64 0] 28), (b2, .cells #[.int .i64 0] 3), (b1, .cells #[.slice sp_0 n_0 cap_0] 24)], [Hs8]⟩ rfl (TO.nil (TE.thenN rfl rfl (TC.block ?_)))
 obtain ⟨⟨o52, m53⟩, hl54, h⟩ := bd h
 refine TC.to (L' := [(1, .pointer (some ⟨b1, 0, none⟩)), (2, .pointer (some ⟨b2, 0, none⟩)), (3, .pointer (some ⟨b3, 0, none⟩)), (4, .pointer (some ⟨b10, 0, none⟩)), (22, .func (.func 59) #[] #[.pointer (some ⟨b11, 0, none⟩)])]) (E' := [(b11, .cells #[.slice sp_0 n_0 cap_0] 24), (b10, .cells #[.map (some m6)] 53), (b3, .cells #[.int .i64 0] 28), (b2, .cells #[.int .i64 0] 3), (b1, .cells #[.slice sp_0 n_0 cap_0] 24)]) (S' := [Hs8]) 0 0 ⟨rfl, rfl, rfl, rfl, rfl, trivial⟩ rfl rfl (TC.rangeO [23, 24] [0] [] (fun (x25 : (List (Int × Bool))) (H' : Hp) => ∃ Hs26, OwnM (Kn.int .i64) (fun (v : Bool) => (.bool v : Value)) m6 x25 Hs26 ∧ H' = ⟨[(b10, .cells #[.map (some m6)] 53), (b3, .cells #[.int .i64 0] 28), (b2, .cells #[.int .i64 0] 3), (b1, .cells #[.slice sp_0 n_0 cap_0] 24)], [Hs26]⟩) (fun (x : Int × Slot) => [.int .i64 x.1, .agg #[.int .u8 x.2.fInstr.fOp, .int .u8 x.2.fInstr.fDst, .int .u8 x.2.fInstr.fSrc, .int .i16 x.2.fInstr.fOff, .int .i32 x.2.fInstr.fImm, .int .u8 x.2.fclass, .int .u8 x.2.fop, .bool x.2.freg]]) (fun (s : (List (Int × Bool))) (y : Int × Slot) => fn14_r1 s y.1 y.2) ([] : List (Int × Bool)) o52 m53 Try.call59 rfl rfl (fun _ => rfl) rfl rfl ⟨Hs8, ho9, rfl⟩ (fun zw zv zJ zH zd zx zo zy zj => c59 F (stepR (fun (s : (List (Int × Bool))) (y : Int × Slot) => fn14_r1 s y.1 y.2)) goR zJ zv ((([] : List (Int × Bool)), 0) : ((List (Int × Bool))) × Nat) zH b11 _ _ _ p0 zw (o52, m53) qn0 qc0 (qp0.tr zx) zo zy zj hl54) ?_ ?_)
 · clear h hl54
   intro l30 r31 lr32 w33 R34 x25 y36 s37 m38 H39 Rr40 hst41 h hI147 hx42 fin43
   obtain ⟨y28, y29⟩ := y36
   obtain ⟨Hs26, ho27, rfl⟩ := hI147
   replace h := (fn14_r1_s x25 y28 y29).symm.trans h
   have qx44 := qp0.tr hx42
   refine TC.to (L' := [(1, .pointer (some ⟨b1, 0, none⟩)), (2, .pointer (some ⟨b2, 0, none⟩)), (3, .pointer (some ⟨b3, 0, none⟩)), (4, .pointer (some ⟨b10, 0, none⟩)), (22, .func (.func 59) #[] #[.pointer (some ⟨b11, 0, none⟩)]), (23, .int .i64 y28), (24, .agg #[.int .u8 y29.fInstr.fOp, .int .u8 y29.fInstr.fDst, .int .u8 y29.fInstr.fSrc, .int .i16 y29.fInstr.fOff, .int .i32 y29.fInstr.fImm, .int .u8 y29.fclass, .int .u8 y29.fop, .bool y29.freg])]) (E' := [(l30, .loop lr32), (r31, .deferred (some [])), (b10, .cells #[.map (some m6)] 53), (b3, .cells #[.int .i64 0] 28), (b2, .cells #[.int .i64 0] 3), (b1, .cells #[.slice sp_0 n_0 cap_0] 24)]) (S' := [Hs26]) 0 0 ⟨rfl, rfl, rfl, rfl, rfl, rfl, rfl, trivial⟩ rfl rfl (TC.region (TO.u rfl rfl (TX.assign rfl rfl (TO.nil (TE.begin (i := 0) rfl (by assumption) rfl ?_)))))
   refine TC.block (TC.region (TO.u rfl rfl (TX.load1 (i := 2) Try.isAgg53 rfl rfl rfl rfl (TO.u rfl rfl (TX.move rfl rfl (TO.u rfl rfl (TX.updM (N := (Kn.int .i64)) (V := (fun (v : Bool) => (.bool v : Value))) (si := 0) (k := y28) (v := true) (.inl rfl) Try.runUnderlying53 Try.runUnderlying3 rfl rfl rfl rfl ho27 (fun Hs45 _ S46 ho47 => ?_))))))))
   cases S46
   refine TO.nil (TE.blockN ?_)
   cases h
   exact TE.to (L' := []) (E' := [(l30, .loop { lr32 with state := .busy }), (r31, .deferred (some [])), (b10, .cells #[.map (some m6)] 53), (b3, .cells #[.int .i64 0] 28), (b2, .cells #[.int .i64 0] 3), (b1, .cells #[.slice sp_0 n_0 cap_0] 24)]) (S' := [Hs45]) 0 0 trivial rfl rfl (fin43 [] ⟨[(b10, .cells #[.map (some m6)] 53), (b3, .cells #[.int .i64 0] 28), (b2, .cells #[.int .i64 0] 3), (b1, .cells #[.slice sp_0 n_0 cap_0] 24)], [Hs45]⟩ ⟨Hs45, ho47, rfl⟩)
 clear hl54
 intro r51 H148 hI149
 obtain ⟨x48, q_⟩ : ∃ z, z = o52 := ⟨_, rfl⟩
 subst q_
 obtain ⟨Hs49, ho50, rfl⟩ := hI149
 refine TE.reH ⟨[(r51, .deferred (some [])), (b11, .cells #[.slice sp_0 n_0 cap_0] 24), (b10, .cells #[.map (some m6)] 53), (b3, .cells #[.int .i64 0] 28), (b2, .cells #[.int .i64 0] 3), (b1, .cells #[.slice sp_0 n_0 cap_0] 24)], [Hs49]⟩ rfl ?_
 cases hm150 : Nat.beq m53 0
 · replace h := ie h hm150
   cases h
 replace h := it h hm150
 have q_ := Nat.eq_of_beq_eq_true hm150
 subst q_
 replace h := (fn14_k1_0_s F p0 x48).symm.trans h
 refine TE.asE (e := .normal) rfl (TE.blockN (TE.thenN rfl rfl (TC.seq (TC.region (TO.u rfl rfl (TX.alloc Try.zeroValue4 rfl rfl (fun b55 => (TO.u rfl rfl (TX.store (i := 0) Try.sizeOf4 rfl rfl rfl rfl rfl rfl rfl rfl (TO.nil (TE.thenN rfl rfl (TC.seq (TC.seq (TC.region (TO.u rfl rfl (TX.load1 (i := 6) Try.isAgg24 rfl rfl rfl rfl (TO.u rfl rfl (TX.callQ _ Try.call34 rfl (fun a w s => c34 _ _ _ p0 _) rfl ?_))))))))))))))))))
 rintro _ _ ⟨b56, rfl, rfl⟩
 refine TO.reH ⟨[(b56, .cells #[.slice sp_0 n_0 cap_0] 24), (b55, .cells #[.bool false] 4), (r51, .deferred (some [])), (b11, .cells #[.slice sp_0 n_0 cap_0] 24), (b10, .cells #[.map (some m6)] 53), (b3, .cells #[.int .i64 0] 28), (b2, .cells #[.int .i64 0] 3), (b1, .cells #[.slice sp_0 n_0 cap_0] 24)], [Hs49]⟩ rfl (TO.nil (TE.thenN rfl rfl (TC.block ?_)))
 obtain ⟨⟨o138, m139⟩, hl140, h⟩ := bd h
 refine TC.to (L' := [(1, .pointer (some ⟨b1, 0, none⟩)), (2, .pointer (some ⟨b2, 0, none⟩)), (3, .pointer (some ⟨b3, 0, none⟩)), (4, .pointer (some ⟨b10, 0, none⟩)), (6, .pointer (some ⟨b55, 0, none⟩)), (28, .func (.func 59) #[] #[.pointer (some ⟨b56, 0, none⟩)])]) (E' := [(b56, .cells #[.slice sp_0 n_0 cap_0] 24), (b55, .cells #[.bool false] 4), (r51, .deferred (some [])), (b11, .cells #[.slice sp_0 n_0 cap_0] 24), (b10, .cells #[.map (some m6)] 53), (b3, .cells #[.int .i64 0] 28), (b2, .cells #[.int .i64 0] 3), (b1, .cells #[.slice sp_0 n_0 cap_0] 24)]) (S' := [Hs49]) 0 0 ⟨rfl, rfl, rfl, rfl, rfl, rfl, trivial⟩ rfl rfl (TC.rangeO [29, 30] [0] [] (fun (s : Int × Int × Bool) (H' : Hp) => match s with | (x96, x97, x98) => H' = ⟨[(b55, .cells #[.bool x98] 4), (r51, .deferred (some [])), (b11, .cells #[.slice sp_0 n_0 cap_0] 24), (b10, .cells #[.map (some m6)] 53), (b3, .cells #[.int .i64 x97] 28), (b2, .cells #[.int .i64 x96] 3), (b1, .cells #[.slice sp_0 n_0 cap_0] 24)], [Hs49]⟩) (fun (x : Int × Slot) => [.int .i64 x.1, .agg #[.int .u8 x.2.fInstr.fOp, .int .u8 x.2.fInstr.fDst, .int .u8 x.2.fInstr.fSrc, .int .i16 x.2.fInstr.fOff, .int .i32 x.2.fInstr.fImm, .int .u8 x.2.fclass, .int .u8 x.2.fop, .bool x.2.freg]]) (fun (s : Int × Int × Bool) (y : Int × Slot) => fn14_r2 F p0 x48 s.1 s.2.1 s.2.2 y.1 y.2) (0, 0, false) o138 m139 Try.call59 rfl rfl (fun _ => rfl) rfl rfl rfl (fun zw zv zJ zH zd zx zo zy zj => c59 F (stepR (fun (s : Int × Int × Bool) (y : Int × Slot) => fn14_r2 F p0 x48 s.1 s.2.1 s.2.2 y.1 y.2)) goR zJ zv (((0, 0, false), 0) : (Int × Int × Bool) × Nat) zH b56 _ _ _ p0 zw (o138, m139) qn0 qc0 (qp0.tr zx) zo zy zj hl140) ?_ ?_)
 · clear h hl140
   intro l101 r102 lr103 w104 R105 s106 y107 s108 m109 H110 Rr111 hst112 h hI142 hx113 fin114
   obtain ⟨x96, x97, x98⟩ := s106
   obtain ⟨y99, y100⟩ := y107
   cases hI142
   replace h := (fn14_r2_s F p0 x48 x96 x97 x98 y99 y100).symm.trans h
   have qx115 := qp0.tr hx113
   refine TC.to (L' := [(1, .pointer (some ⟨b1, 0, none⟩)), (2, .pointer (some ⟨b2, 0, none⟩)), (3, .pointer (some ⟨b3, 0, none⟩)), (4, .pointer (some ⟨b10, 0, none⟩)), (6, .pointer (some ⟨b55, 0, none⟩)), (28, .func (.func 59) #[] #[.pointer (some ⟨b56, 0, none⟩)]), (29, .int .i64 y99), (30, .agg #[.int .u8 y100.fInstr.fOp, .int .u8 y100.fInstr.fDst, .int .u8 y100.fInstr.fSrc, .int .i16 y100.fInstr.fOff, .int .i32 y100.fInstr.fImm, .int .u8 y100.fclass, .int .u8 y100.fop, .bool y100.freg])]) (E' := [(l101, .loop lr103), (r102, .deferred (some [])), (b55, .cells #[.bool x98] 4), (r51, .deferred (some [])), (b11, .cells #[.slice sp_0 n_0 cap_0] 24), (b10, .cells #[.map (some m6)] 53), (b3, .cells #[.int .i64 x97] 28), (b2, .cells #[.int .i64 x96] 3), (b1, .cells #[.slice sp_0 n_0 cap_0] 24)]) (S' := [Hs49]) 0 0 ⟨rfl, rfl, rfl, rfl, rfl, rfl, rfl, rfl, trivial⟩ rfl rfl (TC.seq (TC.region (TO.u rfl rfl (TX.assign rfl rfl (TO.nil (TE.thenN rfl rfl (TC.region (TO.u rfl rfl (TX.alloc Try.zeroValue58 rfl rfl (fun b116 => (TO.u rfl rfl (TX.store (i := 0) Try.sizeOf58 rfl rfl rfl rfl rfl rfl rfl rfl (TO.nil (TE.begin (i := 1) rfl (by assumption) rfl ?_))))))))))))))
   refine TC.block (TC.seq (TC.block (TC.seq (TC.region (TO.u rfl rfl (TX.loadN (i := 0) Try.isAgg58 Try.sizeOf58 rfl rfl rfl rfl ?_))))))
   obtain ⟨v117, hv117, h⟩ := bp h
   refine TO.u rfl rfl (TX.callP Try.call35 rfl (fun a w s => c35 y100 _ _  hv117) rfl (TO.u rfl rfl (TX.not rfl rfl (TO.u rfl rfl (TX.assign rfl rfl (TO.nil (TE.thenN rfl rfl (TC.cond rfl (fun hb118 => ?_) (fun hb118 => ?_)))))))))
   · replace h := it h hb118
     refine TC.seq (TC.region (TO.u rfl rfl (TX.move rfl rfl (TO.u rfl rfl (TX.store (i := 8) Try.sizeOf3 rfl rfl rfl rfl rfl rfl rfl rfl (TO.u rfl rfl (TX.store (i := 7) Try.sizeOf28 rfl rfl rfl rfl rfl rfl rfl rfl (TO.nil (TE.thenN rfl rfl (TC.ret (TE.blockR (TE.thenR (TE.blockR ?_)))))))))))))
     cases h
     exact TE.to (L' := []) (E' := [(l101, .loop { lr103 with state := .busy }), (r102, .deferred (some [])), (b55, .cells #[.bool x98] 4), (r51, .deferred (some [])), (b11, .cells #[.slice sp_0 n_0 cap_0] 24), (b10, .cells #[.map (some m6)] 53), (b3, .cells #[.int .i64 20] 28), (b2, .cells #[.int .i64 y99] 3), (b1, .cells #[.slice sp_0 n_0 cap_0] 24)]) (S' := [Hs49]) 1 0 trivial rfl rfl (fin114 [] ⟨[(b55, .cells #[.bool x98] 4), (r51, .deferred (some [])), (b11, .cells #[.slice sp_0 n_0 cap_0] 24), (b10, .cells #[.map (some m6)] 53), (b3, .cells #[.int .i64 20] 28), (b2, .cells #[.int .i64 y99] 3), (b1, .cells #[.slice sp_0 n_0 cap_0] 24)], [Hs49]⟩ rfl)
   replace h := ie h hb118
   refine TC.seq (TC.region (TO.u rfl rfl (TX.loadN (i := 0) Try.isAgg58 Try.sizeOf58 rfl rfl rfl rfl ?_)))
   obtain ⟨v119, hv119, h⟩ := bp h
   refine TO.u rfl rfl (TX.callP Try.call36 rfl (fun a w s => c36 y100 _ _  hv119) rfl (TO.u rfl rfl (TX.not rfl rfl (TO.u rfl rfl (TX.assign rfl rfl (TO.nil (TE.thenN rfl rfl (TC.cond rfl (fun hb120 => ?_) (fun hb120 => ?_)))))))))
   · replace h := it h hb120
     refine TC.seq (TC.region (TO.u rfl rfl (TX.move rfl rfl (TO.u rfl rfl (TX.store (i := 8) Try.sizeOf3 rfl rfl rfl rfl rfl rfl rfl rfl (TO.u rfl rfl (TX.store (i := 7) Try.sizeOf28 rfl rfl rfl rfl rfl rfl rfl rfl (TO.nil (TE.thenN rfl rfl (TC.ret (TE.blockR (TE.thenR (TE.blockR ?_)))))))))))))
     cases h
     exact TE.to (L' := []) (E' := [(l101, .loop { lr103 with state := .busy }), (r102, .deferred (some [])), (b55, .cells #[.bool x98] 4), (r51, .deferred (some [])), (b11, .cells #[.slice sp_0 n_0 cap_0] 24), (b10, .cells #[.map (some m6)] 53), (b3, .cells #[.int .i64 21] 28), (b2, .cells #[.int .i64 y99] 3), (b1, .cells #[.slice sp_0 n_0 cap_0] 24)]) (S' := [Hs49]) 1 0 trivial rfl rfl (fin114 [] ⟨[(b55, .cells #[.bool x98] 4), (r51, .deferred (some [])), (b11, .cells #[.slice sp_0 n_0 cap_0] 24), (b10, .cells #[.map (some m6)] 53), (b3, .cells #[.int .i64 21] 28), (b2, .cells #[.int .i64 y99] 3), (b1, .cells #[.slice sp_0 n_0 cap_0] 24)], [Hs49]⟩ rfl)
   replace h := ie h hb120
   refine TC.seq (TC.region (TO.u rfl rfl (TX.loadN (i := 0) Try.isAgg58 Try.sizeOf58 rfl rfl rfl rfl ?_)))
   obtain ⟨v121, hv121, h⟩ := bd h
   refine TO.u rfl rfl (TX.callP Try.call37 rfl (fun a w s => c37 F y100 _ _  hv121) rfl (TO.u rfl rfl (TX.not rfl rfl (TO.u rfl rfl (TX.assign rfl rfl (TO.nil (TE.thenN rfl rfl (TC.cond rfl (fun hb122 => ?_) (fun hb122 => ?_)))))))))
   · replace h := it h hb122
     refine TC.seq (TC.region (TO.u rfl rfl (TX.move rfl rfl (TO.u rfl rfl (TX.store (i := 8) Try.sizeOf3 rfl rfl rfl rfl rfl rfl rfl rfl (TO.u rfl rfl (TX.store (i := 7) Try.sizeOf28 rfl rfl rfl rfl rfl rfl rfl rfl (TO.nil (TE.thenN rfl rfl (TC.ret (TE.blockR (TE.thenR (TE.blockR ?_)))))))))))))
     cases h
     exact TE.to (L' := []) (E' := [(l101, .loop { lr103 with state := .busy }), (r102, .deferred (some [])), (b55, .cells #[.bool x98] 4), (r51, .deferred (some [])), (b11, .cells #[.slice sp_0 n_0 cap_0] 24), (b10, .cells #[.map (some m6)] 53), (b3, .cells #[.int .i64 22] 28), (b2, .cells #[.int .i64 y99] 3), (b1, .cells #[.slice sp_0 n_0 cap_0] 24)]) (S' := [Hs49]) 1 0 trivial rfl rfl (fin114 [] ⟨[(b55, .cells #[.bool x98] 4), (r51, .deferred (some [])), (b11, .cells #[.slice sp_0 n_0 cap_0] 24), (b10, .cells #[.map (some m6)] 53), (b3, .cells #[.int .i64 22] 28), (b2, .cells #[.int .i64 y99] 3), (b1, .cells #[.slice sp_0 n_0 cap_0] 24)], [Hs49]⟩ rfl)
   replace h := ie h hb122
   refine TC.skip (TE.blockN (TE.thenN rfl rfl (TC.seq (TC.seq (TC.region (TO.u rfl rfl (TX.fieldAddr' Try.runUnderlying58 rfl Try.sizeOf27 rfl rfl rfl (TO.u rfl rfl (TX.fieldAddr' Try.runUnderlying27 rfl Try.sizeOf5 rfl rfl rfl (TO.u rfl rfl (TX.load1 (i := 0) Try.isAgg5 rfl rfl rfl rfl (TO.u rfl rfl (TX.ibin rfl rfl rfl rfl (TO.nil (TE.thenN rfl rfl (TC.cond rfl (fun hb123 => ?_) (fun hb123 => ?_)))))))))))))))))
   · replace h := it h hb123
     refine TC.seq (TC.region (TO.u rfl rfl (TX.load1 (i := 9) Try.isAgg24 rfl rfl rfl rfl (TO.u rfl rfl (TX.move rfl rfl ?_)))))
     obtain ⟨v124, hv124, h⟩ := bd h
     refine TO.u rfl rfl (TX.callP Try.call38 rfl (fun a w s => c38 _ _ _ p0 y99 _ _ qn0 qc0 (qx115.tr s.extB0) hv124) rfl (TO.u rfl rfl (TX.assign rfl rfl (TO.nil (TE.thenN rfl rfl (TC.seq (TC.region (TO.u rfl rfl (TX.move rfl rfl (TO.u rfl rfl (TX.ibin rfl rfl rfl rfl (TO.nil (TE.thenN rfl rfl (TC.cond rfl (fun hb125 => ?_) (fun hb125 => ?_)))))))))))))))
     · replace h := it h hb125
       refine TC.seq (TC.region (TO.u rfl rfl (TX.move rfl rfl (TO.u rfl rfl (TX.move rfl rfl (TO.u rfl rfl (TX.store (i := 8) Try.sizeOf3 rfl rfl rfl rfl rfl rfl rfl rfl (TO.u rfl rfl (TX.store (i := 7) Try.sizeOf28 rfl rfl rfl rfl rfl rfl rfl rfl (TO.nil (TE.thenN rfl rfl (TC.ret (TE.thenR (TE.blockR ?_))))))))))))))
       cases h
       exact TE.to (L' := []) (E' := [(l101, .loop { lr103 with state := .busy }), (r102, .deferred (some [])), (b55, .cells #[.bool x98] 4), (r51, .deferred (some [])), (b11, .cells #[.slice sp_0 n_0 cap_0] 24), (b10, .cells #[.map (some m6)] 53), (b3, .cells #[.int .i64 v124] 28), (b2, .cells #[.int .i64 y99] 3), (b1, .cells #[.slice sp_0 n_0 cap_0] 24)]) (S' := [Hs49]) 1 0 trivial rfl rfl (fin114 [] ⟨[(b55, .cells #[.bool x98] 4), (r51, .deferred (some [])), (b11, .cells #[.slice sp_0 n_0 cap_0] 24), (b10, .cells #[.map (some m6)] 53), (b3, .cells #[.int .i64 v124] 28), (b2, .cells #[.int .i64 y99] 3), (b1, .cells #[.slice sp_0 n_0 cap_0] 24)], [Hs49]⟩ rfl)
     replace h := ie h hb125
     refine TC.skip (TE.thenN rfl rfl (TC.seq (TC.seq (TC.region (TO.u rfl rfl (TX.loadN (i := 0) Try.isAgg58 Try.sizeOf58 rfl rfl rfl rfl (TO.u rfl rfl (TX.move rfl rfl ?_))))))))
     obtain ⟨v126, hv126, h⟩ := bp h
     refine TO.u rfl rfl (TX.callP Try.call39 rfl (fun a w s => c39 y100 y99 _ _  hv126) rfl (TO.u rfl rfl (TX.move rfl rfl (TO.u rfl rfl (TX.extract rfl rfl rfl (TO.u rfl rfl (TX.extract rfl rfl rfl (TO.u rfl rfl (TX.assign rfl rfl (TO.u rfl rfl (TX.assign rfl rfl (TO.nil (TE.thenN rfl rfl (TC.seq (TC.region (TO.u rfl rfl (TX.move rfl rfl (TO.u rfl rfl (TX.move rfl rfl (TO.cutS 5 [(69, .bool (v126.2 && (!(mget x48 v126.1 false))))] ?_ ?_))))))))))))))))))))
     · cases hc127 : (v126.2)
       · exact TO.s rfl rfl rfl rfl rfl rfl (TO.s rfl rfl rfl rfl rfl rfl (TO.s rfl rfl rfl rfl rfl rfl (TO.s rfl rfl rfl rfl rfl rfl (TO.u rfl rfl (TX.pickF rfl rfl rfl (TO.nil (TE.cutS 5 rfl rfl ⟨rfl, trivial⟩)))))))
       exact TO.g rfl rfl rfl rfl (TX.load1 (i := 6) Try.isAgg53 rfl rfl rfl rfl (TO.g rfl rfl rfl rfl (TX.move rfl rfl (TO.g rfl rfl rfl rfl (TX.lookM (N := (Kn.int .i64)) (V := (fun (v : Bool) => (.bool v : Value))) (i := 0) (k := v126.1) (z := false) Try.runUnderlying53 Try.runUnderlying3 Try.zeroValue4 rfl rfl rfl ho50 rfl (TO.g rfl rfl rfl rfl (TX.not rfl rfl (TO.u rfl rfl (TX.pickT rfl rfl rfl (TO.nil (TE.cutS 5 rfl rfl ⟨rfl, trivial⟩)))))))))))
     refine TO.nil (TE.thenN rfl rfl (TC.cond rfl (fun hb128 => ?_) (fun hb128 => ?_)))
     · replace h := it h hb128
       refine TC.seq (TC.region (TO.u rfl rfl (TX.move rfl rfl (TO.u rfl rfl (TX.store (i := 8) Try.sizeOf3 rfl rfl rfl rfl rfl rfl rfl rfl (TO.u rfl rfl (TX.store (i := 7) Try.sizeOf28 rfl rfl rfl rfl rfl rfl rfl rfl (TO.nil (TE.thenN rfl rfl (TC.ret (TE.thenR (TE.blockR ?_))))))))))))
       cases h
       exact TE.to (L' := []) (E' := [(l101, .loop { lr103 with state := .busy }), (r102, .deferred (some [])), (b55, .cells #[.bool x98] 4), (r51, .deferred (some [])), (b11, .cells #[.slice sp_0 n_0 cap_0] 24), (b10, .cells #[.map (some m6)] 53), (b3, .cells #[.int .i64 23] 28), (b2, .cells #[.int .i64 y99] 3), (b1, .cells #[.slice sp_0 n_0 cap_0] 24)]) (S' := [Hs49]) 1 0 trivial rfl rfl (fin114 [] ⟨[(b55, .cells #[.bool x98] 4), (r51, .deferred (some [])), (b11, .cells #[.slice sp_0 n_0 cap_0] 24), (b10, .cells #[.map (some m6)] 53), (b3, .cells #[.int .i64 23] 28), (b2, .cells #[.int .i64 y99] 3), (b1, .cells #[.slice sp_0 n_0 cap_0] 24)], [Hs49]⟩ rfl)
     replace h := ie h hb128
     refine TC.skip (TE.thenN rfl rfl (TC.region (TO.u rfl rfl (TX.loadN (i := 0) Try.isAgg58 Try.sizeOf58 rfl rfl rfl rfl ?_))))
     obtain ⟨v129, hv129, h⟩ := bp h
     refine TO.u rfl rfl (TX.callP Try.call40 rfl (fun a w s => c40 y100 _ _  hv129) rfl (TO.u rfl rfl (TX.store (i := 3) Try.sizeOf4 rfl rfl rfl rfl rfl rfl rfl rfl (TO.nil (TE.blockN ?_)))))
     cases h
     exact TE.to (L' := []) (E' := [(l101, .loop { lr103 with state := .busy }), (r102, .deferred (some [])), (b55, .cells #[.bool v129] 4), (r51, .deferred (some [])), (b11, .cells #[.slice sp_0 n_0 cap_0] 24), (b10, .cells #[.map (some m6)] 53), (b3, .cells #[.int .i64 x97] 28), (b2, .cells #[.int .i64 x96] 3), (b1, .cells #[.slice sp_0 n_0 cap_0] 24)]) (S' := [Hs49]) 1 0 trivial rfl rfl (fin114 [] ⟨[(b55, .cells #[.bool v129] 4), (r51, .deferred (some [])), (b11, .cells #[.slice sp_0 n_0 cap_0] 24), (b10, .cells #[.map (some m6)] 53), (b3, .cells #[.int .i64 x97] 28), (b2, .cells #[.int .i64 x96] 3), (b1, .cells #[.slice sp_0 n_0 cap_0] 24)], [Hs49]⟩ rfl)
   replace h := ie h hb123
   refine TC.skip (TE.thenN rfl rfl (TC.seq (TC.seq (TC.region (TO.u rfl rfl (TX.loadN (i := 0) Try.isAgg58 Try.sizeOf58 rfl rfl rfl rfl (TO.u rfl rfl (TX.move rfl rfl ?_))))))))
   obtain ⟨v130, hv130, h⟩ := bp h
   refine TO.u rfl rfl (TX.callP Try.call39 rfl (fun a w s => c39 y100 y99 _ _  hv130) rfl (TO.u rfl rfl (TX.move rfl rfl (TO.u rfl rfl (TX.extract rfl rfl rfl (TO.u rfl rfl (TX.extract rfl rfl rfl (TO.u rfl rfl (TX.assign rfl rfl (TO.u rfl rfl (TX.assign rfl rfl (TO.nil (TE.thenN rfl rfl (TC.seq (TC.region (TO.u rfl rfl (TX.move rfl rfl (TO.u rfl rfl (TX.move rfl rfl (TO.cutS 5 [(69, .bool (v130.2 && (!(mget x48 v130.1 false))))] ?_ ?_))))))))))))))))))))
   · cases hc131 : (v130.2)
     · exact TO.s rfl rfl rfl rfl rfl rfl (TO.s rfl rfl rfl rfl rfl rfl (TO.s rfl rfl rfl rfl rfl rfl (TO.s rfl rfl rfl rfl rfl rfl (TO.u rfl rfl (TX.pickF rfl rfl rfl (TO.nil (TE.cutS 5 rfl rfl ⟨rfl, trivial⟩)))))))
     exact TO.g rfl rfl rfl rfl (TX.load1 (i := 6) Try.isAgg53 rfl rfl rfl rfl (TO.g rfl rfl rfl rfl (TX.move rfl rfl (TO.g rfl rfl rfl rfl (TX.lookM (N := (Kn.int .i64)) (V := (fun (v : Bool) => (.bool v : Value))) (i := 0) (k := v130.1) (z := false) Try.runUnderlying53 Try.runUnderlying3 Try.zeroValue4 rfl rfl rfl ho50 rfl (TO.g rfl rfl rfl rfl (TX.not rfl rfl (TO.u rfl rfl (TX.pickT rfl rfl rfl (TO.nil (TE.cutS 5 rfl rfl ⟨rfl, trivial⟩)))))))))))
   refine TO.nil (TE.thenN rfl rfl (TC.cond rfl (fun hb132 => ?_) (fun hb132 => ?_)))
   · replace h := it h hb132
     refine TC.seq (TC.region (TO.u rfl rfl (TX.move rfl rfl (TO.u rfl rfl (TX.store (i := 8) Try.sizeOf3 rfl rfl rfl rfl rfl rfl rfl rfl (TO.u rfl rfl (TX.store (i := 7) Try.sizeOf28 rfl rfl rfl rfl rfl rfl rfl rfl (TO.nil (TE.thenN rfl rfl (TC.ret (TE.thenR (TE.blockR ?_))))))))))))
     cases h
     exact TE.to (L' := []) (E' := [(l101, .loop { lr103 with state := .busy }), (r102, .deferred (some [])), (b55, .cells #[.bool x98] 4), (r51, .deferred (some [])), (b11, .cells #[.slice sp_0 n_0 cap_0] 24), (b10, .cells #[.map (some m6)] 53), (b3, .cells #[.int .i64 23] 28), (b2, .cells #[.int .i64 y99] 3), (b1, .cells #[.slice sp_0 n_0 cap_0] 24)]) (S' := [Hs49]) 1 0 trivial rfl rfl (fin114 [] ⟨[(b55, .cells #[.bool x98] 4), (r51, .deferred (some [])), (b11, .cells #[.slice sp_0 n_0 cap_0] 24), (b10, .cells #[.map (some m6)] 53), (b3, .cells #[.int .i64 23] 28), (b2, .cells #[.int .i64 y99] 3), (b1, .cells #[.slice sp_0 n_0 cap_0] 24)], [Hs49]⟩ rfl)
   replace h := ie h hb132
   refine TC.skip (TE.thenN rfl rfl (TC.region (TO.u rfl rfl (TX.loadN (i := 0) Try.isAgg58 Try.sizeOf58 rfl rfl rfl rfl ?_))))
   obtain ⟨v133, hv133, h⟩ := bp h
   refine TO.u rfl rfl (TX.callP Try.call40 rfl (fun a w s => c40 y100 _ _  hv133) rfl (TO.u rfl rfl (TX.store (i := 3) Try.sizeOf4 rfl rfl rfl rfl rfl rfl rfl rfl (TO.nil (TE.blockN ?_)))))
   cases h
   exact TE.to (L' := []) (E' := [(l101, .loop { lr103 with state := .busy }), (r102, .deferred (some [])), (b55, .cells #[.bool v133] 4), (r51, .deferred (some [])), (b11, .cells #[.slice sp_0 n_0 cap_0] 24), (b10, .cells #[.map (some m6)] 53), (b3, .cells #[.int .i64 x97] 28), (b2, .cells #[.int .i64 x96] 3), (b1, .cells #[.slice sp_0 n_0 cap_0] 24)]) (S' := [Hs49]) 1 0 trivial rfl rfl (fin114 [] ⟨[(b55, .cells #[.bool v133] 4), (r51, .deferred (some [])), (b11, .cells #[.slice sp_0 n_0 cap_0] 24), (b10, .cells #[.map (some m6)] 53), (b3, .cells #[.int .i64 x97] 28), (b2, .cells #[.int .i64 x96] 3), (b1, .cells #[.slice sp_0 n_0 cap_0] 24)], [Hs49]⟩ rfl)
 clear hl140
 intro r137 H143 hI144
 obtain ⟨x134, x135, x136⟩ := o138
 cases hI144
 refine TE.reH ⟨[(r137, .deferred (some [])), (b56, .cells #[.slice sp_0 n_0 cap_0] 24), (b55, .cells #[.bool x136] 4), (r51, .deferred (some [])), (b11, .cells #[.slice sp_0 n_0 cap_0] 24), (b10, .cells #[.map (some m6)] 53), (b3, .cells #[.int .i64 x135] 28), (b2, .cells #[.int .i64 x134] 3), (b1, .cells #[.slice sp_0 n_0 cap_0] 24)], [Hs49]⟩ rfl ?_
 cases hm145 : Nat.beq m139 0
 · replace h := ie h hm145
   cases hm146 : Nat.beq m139 1
   · replace h := ie h hm146
     cases h
   replace h := it h hm146
   have q_ := Nat.eq_of_beq_eq_true hm146
   subst q_
   replace h := (fn14_k2_1_s x134 x135 x136).symm.trans h
   exact TE.asE (e := .ret) rfl (TE.blockR (TE.thenR (TE.fin (R := ⟨[], []⟩) (TL.mark (i := 0) rfl rfl (TL.mark (i := 3) rfl rfl (TL.ret (R' := ⟨[], []⟩) Try.results14 (.cons (.cell1 (i := 7) Try.isAgg3 rfl rfl rfl) (.cons (.cell1 (i := 6) Try.isAgg28 rfl rfl rfl) .nil)) (subD 9 1 rfl rfl) ⟨congrArg ret14 (Option.some.inj h), rfl⟩))))))
 replace h := it h hm145
 have q_ := Nat.eq_of_beq_eq_true hm145
 subst q_
 replace h := (fn14_k2_0_s p0 x134 x135 x136).symm.trans h
 refine TE.asE (e := .normal) rfl (TE.blockN (TE.thenN rfl rfl (TC.seq (TC.seq (TC.region (TO.u rfl rfl (TX.load1 (i := 2) Try.isAgg4 rfl rfl rfl rfl (TO.u rfl rfl (TX.not rfl rfl (TO.nil (TE.thenN rfl rfl (TC.cond rfl (fun hb141 => ?_) (fun hb141 => ?_)))))))))))))
 · replace h := it h hb141
   exact TC.seq (TC.region (TO.u rfl rfl (TX.load1 (i := 8) Try.isAgg24 rfl rfl rfl rfl (TO.u rfl rfl (TX.lenS (xs := p0) Try.runUnderlying24 rfl qn0 rfl (TO.u rfl rfl (TX.ibin rfl rfl rfl rfl (TO.u rfl rfl (TX.store (i := 7) Try.sizeOf3 rfl rfl rfl rfl rfl rfl rfl rfl (TO.u rfl rfl (TX.store (i := 6) Try.sizeOf28 rfl rfl rfl rfl rfl rfl rfl rfl (TO.nil (TE.thenN rfl rfl (TC.ret (TE.thenR (TE.fin (R := ⟨[], []⟩) (TL.mark (i := 0) rfl rfl (TL.mark (i := 3) rfl rfl (TL.ret (R' := ⟨[], []⟩) Try.results14 (.cons (.cell1 (i := 7) Try.isAgg3 rfl rfl rfl) (.cons (.cell1 (i := 6) Try.isAgg28 rfl rfl rfl) .nil)) (subD 9 1 rfl rfl) ⟨congrArg ret14 (Option.some.inj h), rfl⟩)))))))))))))))))))
 replace h := ie h hb141
 exact TC.skip (TE.thenN rfl rfl (TC.seq (TC.region (TO.u rfl rfl (TX.store (i := 7) Try.sizeOf3 rfl rfl rfl rfl rfl rfl rfl rfl (TO.u rfl rfl (TX.store (i := 6) Try.sizeOf28 rfl rfl rfl rfl rfl rfl rfl rfl (TO.nil (TE.thenN rfl rfl (TC.ret (TE.fin (R := ⟨[], []⟩) (TL.mark (i := 0) rfl rfl (TL.mark (i := 3) rfl rfl (TL.ret (R' := ⟨[], []⟩) Try.results14 (.cons (.cell1 (i := 7) Try.isAgg3 rfl rfl rfl) (.cons (.cell1 (i := 6) Try.isAgg28 rfl rfl rfl) .nil)) (subD 9 1 rfl rfl) ⟨congrArg ret14 (Option.some.inj h), rfl⟩))))))))))))))
/-- hatchway/hatchwaylaw03.awake -/
def fn12 (F : Nat)  : Option (Bool) :=
  (Option.bind (fn14 F ([(⟨183, 0, 0, 0, 1⟩ : Instr), (⟨149, 0, 0, 0, 0⟩ : Instr)] : List Instr)) fun v7 => (Option.bind (fn14 F ([(⟨149, 0, 0, 0, 1⟩ : Instr)] : List Instr)) fun v12 => (Option.bind (fn14 F ([(⟨5, 0, 0, 0, 0⟩ : Instr)] : List Instr)) fun v17 => (Option.bind (fn14 F ([(⟨183, 0, 0, 0, 1⟩ : Instr)] : List Instr)) fun v22 => (some (((((((v7.2 == 0) && (v12.1 == 0)) && (v12.2 == 22)) && (v17.1 == 0)) && (v17.2 == 23)) && (v22.1 == 0)) && (v22.2 == 24)))))))
def ret12 (r : Bool) : Value := .bool r
theorem c12 (F : Nat)  (w : World) (r : Bool)  (h : fn12 F  = some r) : Ret Try.prog 12 [] w ⟨[], []⟩ (fun v R => v = ret12 r ∧ R = ⟨[], []⟩) := by
 unfold fn12 at h
 refine Ret.of_body Try.func12 rfl Try.ntmps12 rfl (fun _ hx => absurd hx List.not_mem_nil) List.nodup_nil (TC.seq (TC.region (TO.u rfl rfl (TX.assign rfl rfl (TO.nil (TE.thenN rfl rfl (TC.seq (TC.region (TO.u rfl rfl (TX.build Try.zeroValue27 rfl Try.runUnderlying27 (.cons Try.sizeOf5 (.cons Try.sizeOf5 (.cons Try.sizeOf5 (.cons Try.sizeOf25 (.cons Try.sizeOf21 .nil))))) rfl rfl rfl (TO.u rfl rfl (TX.alloc Try.zeroValue27 rfl rfl (fun b1 => (TO.u rfl rfl (TX.store (i := 0) Try.sizeOf27 rfl rfl rfl rfl rfl rfl rfl rfl (TO.nil (TE.thenN rfl rfl (TC.seq (TC.region (TO.u rfl rfl (TX.build Try.zeroValue27 rfl Try.runUnderlying27 (.cons Try.sizeOf5 (.cons Try.sizeOf5 (.cons Try.sizeOf5 (.cons Try.sizeOf25 (.cons Try.sizeOf21 .nil))))) rfl rfl rfl (TO.u rfl rfl (TX.alloc Try.zeroValue27 rfl rfl (fun b2 => (TO.u rfl rfl (TX.store (i := 0) Try.sizeOf27 rfl rfl rfl rfl rfl rfl rfl rfl (TO.nil (TE.thenN rfl rfl (TC.seq (TC.region (TO.u rfl rfl (TX.loadN (i := 0) Try.isAgg27 Try.sizeOf27 rfl rfl rfl rfl (TO.u rfl rfl (TX.loadN (i := 1) Try.isAgg27 Try.sizeOf27 rfl rfl rfl rfl (TO.u rfl rfl (TX.buildS (N := Instr.E) (ys := ([(⟨183, 0, 0, 0, 1⟩ : Instr), (⟨149, 0, 0, 0, 0⟩ : Instr)] : List Instr)) Try.runUnderlying24 Try.sizeOf27 Try.zeroValue27 rfl rfl rfl rfl (fillS [.agg #[.int .u8 183, .int .u8 0, .int .u8 0, .int .i16 0, .int .i32 1], .agg #[.int .u8 149, .int .u8 0, .int .u8 0, .int .i16 0, .int .i32 0]] rfl rfl rfl rfl) rfl (fun sp3 Hs5 ho6 => ?_)))))))))))))))))))))))))))))))))))))
 obtain ⟨v7, hv7, h⟩ := bd h
 refine TO.u rfl rfl (TX.callP Try.call14 rfl (fun a w s => c14 F _ _ _ ([(⟨183, 0, 0, 0, 1⟩ : Instr), (⟨149, 0, 0, 0, 0⟩ : Instr)] : List Instr) _ _ rfl ho6.le_cap (ho6.rdf0 s (i := 0) rfl) hv7) rfl (TO.u rfl rfl (TX.move rfl rfl (TO.u rfl rfl (TX.extract rfl rfl rfl (TO.u rfl rfl (TX.extract rfl rfl rfl (TO.u rfl rfl (TX.assign rfl rfl (TO.u rfl rfl (TX.assign rfl rfl (TO.nil (TE.thenN rfl rfl (TC.seq (TC.region (TO.u rfl rfl (TX.build Try.zeroValue27 rfl Try.runUnderlying27 (.cons Try.sizeOf5 (.cons Try.sizeOf5 (.cons Try.sizeOf5 (.cons Try.sizeOf25 (.cons Try.sizeOf21 .nil))))) rfl rfl rfl (TO.u rfl rfl (TX.buildS (N := Instr.E) (ys := ([(⟨149, 0, 0, 0, 1⟩ : Instr)] : List Instr)) Try.runUnderlying24 Try.sizeOf27 Try.zeroValue27 rfl rfl rfl rfl (fillS [.agg #[.int .u8 149, .int .u8 0, .int .u8 0, .int .i16 0, .int .i32 1]] rfl rfl rfl rfl) rfl (fun sp8 Hs10 ho11 => ?_))))))))))))))))))))
 obtain ⟨v12, hv12, h⟩ := bd h
 refine TO.u rfl rfl (TX.callP Try.call14 rfl (fun a w s => c14 F _ _ _ ([(⟨149, 0, 0, 0, 1⟩ : Instr)] : List Instr) _ _ rfl ho11.le_cap (ho11.rdf0 s (i := 0) rfl) hv12) rfl (TO.u rfl rfl (TX.move rfl rfl (TO.u rfl rfl (TX.extract rfl rfl rfl (TO.u rfl rfl (TX.extract rfl rfl rfl (TO.u rfl rfl (TX.assign rfl rfl (TO.u rfl rfl (TX.assign rfl rfl (TO.nil (TE.thenN rfl rfl (TC.seq (TC.region (TO.u rfl rfl (TX.build Try.zeroValue27 rfl Try.runUnderlying27 (.cons Try.sizeOf5 (.cons Try.sizeOf5 (.cons Try.sizeOf5 (.cons Try.sizeOf25 (.cons Try.sizeOf21 .nil))))) rfl rfl rfl (TO.u rfl rfl (TX.buildS (N := Instr.E) (ys := ([(⟨5, 0, 0, 0, 0⟩ : Instr)] : List Instr)) Try.runUnderlying24 Try.sizeOf27 Try.zeroValue27 rfl rfl rfl rfl (fillS [.agg #[.int .u8 5, .int .u8 0, .int .u8 0, .int .i16 0, .int .i32 0]] rfl rfl rfl rfl) rfl (fun sp13 Hs15 ho16 => ?_))))))))))))))))))))
 obtain ⟨v17, hv17, h⟩ := bd h
 refine TO.u rfl rfl (TX.callP Try.call14 rfl (fun a w s => c14 F _ _ _ ([(⟨5, 0, 0, 0, 0⟩ : Instr)] : List Instr) _ _ rfl ho16.le_cap (ho16.rdf0 s (i := 0) rfl) hv17) rfl (TO.u rfl rfl (TX.move rfl rfl (TO.u rfl rfl (TX.extract rfl rfl rfl (TO.u rfl rfl (TX.extract rfl rfl rfl (TO.u rfl rfl (TX.assign rfl rfl (TO.u rfl rfl (TX.assign rfl rfl (TO.nil (TE.thenN rfl rfl (TC.seq (TC.region (TO.u rfl rfl (TX.loadN (i := 0) Try.isAgg27 Try.sizeOf27 rfl rfl rfl rfl (TO.u rfl rfl (TX.buildS (N := Instr.E) (ys := ([(⟨183, 0, 0, 0, 1⟩ : Instr)] : List Instr)) Try.runUnderlying24 Try.sizeOf27 Try.zeroValue27 rfl rfl rfl rfl (fillS [.agg #[.int .u8 183, .int .u8 0, .int .u8 0, .int .i16 0, .int .i32 1]] rfl rfl rfl rfl) rfl (fun sp18 Hs20 ho21 => ?_))))))))))))))))))))
 obtain ⟨v22, hv22, h⟩ := bd h
 refine TO.u rfl rfl (TX.callP Try.call14 rfl (fun a w s => c14 F _ _ _ ([(⟨183, 0, 0, 0, 1⟩ : Instr)] : List Instr) _ _ rfl ho21.le_cap (ho21.rdf0 s (i := 0) rfl) hv22) rfl (TO.u rfl rfl (TX.move rfl rfl (TO.u rfl rfl (TX.extract rfl rfl rfl (TO.u rfl rfl (TX.extract rfl rfl rfl (TO.u rfl rfl (TX.assign rfl rfl (TO.u rfl rfl (TX.assign rfl rfl (TO.nil (TE.thenN rfl rfl (TC.seq (TC.region (TO.u rfl rfl (TX.move rfl rfl (TO.u rfl rfl (TX.ibin rfl rfl rfl rfl (TO.u rfl rfl (TX.move rfl rfl (TO.cutS 3 [(43, .bool ((v7.2 == 0) && (v12.1 == 0)))] ?_ ?_))))))))))))))))))))))
 · cases hc23 : (v7.2 == 0)
   · exact TO.s rfl rfl rfl rfl rfl rfl (TO.s rfl rfl rfl rfl rfl rfl (TO.u rfl rfl (TX.pickF rfl rfl rfl (TO.nil (TE.cutS 3 rfl rfl ⟨rfl, trivial⟩)))))
   exact TO.g rfl rfl rfl rfl (TX.move rfl rfl (TO.g rfl rfl rfl rfl (TX.ibin rfl rfl rfl rfl (TO.u rfl rfl (TX.pickT rfl rfl rfl (TO.nil (TE.cutS 3 rfl rfl ⟨rfl, trivial⟩)))))))
 refine TO.u rfl rfl (TX.move rfl rfl (TO.cutS 3 [(47, .bool (((v7.2 == 0) && (v12.1 == 0)) && (v12.2 == 22)))] ?_ ?_))
 · cases hc24 : ((v7.2 == 0) && (v12.1 == 0))
   · exact TO.s rfl rfl rfl rfl rfl rfl (TO.s rfl rfl rfl rfl rfl rfl (TO.u rfl rfl (TX.pickF rfl rfl rfl (TO.nil (TE.cutS 3 rfl rfl ⟨rfl, trivial⟩)))))
   exact TO.g rfl rfl rfl rfl (TX.move rfl rfl (TO.g rfl rfl rfl rfl (TX.ibin rfl rfl rfl rfl (TO.u rfl rfl (TX.pickT rfl rfl rfl (TO.nil (TE.cutS 3 rfl rfl ⟨rfl, trivial⟩)))))))
 refine TO.u rfl rfl (TX.move rfl rfl (TO.cutS 3 [(51, .bool ((((v7.2 == 0) && (v12.1 == 0)) && (v12.2 == 22)) && (v17.1 == 0)))] ?_ ?_))
 · cases hc25 : (((v7.2 == 0) && (v12.1 == 0)) && (v12.2 == 22))
   · exact TO.s rfl rfl rfl rfl rfl rfl (TO.s rfl rfl rfl rfl rfl rfl (TO.u rfl rfl (TX.pickF rfl rfl rfl (TO.nil (TE.cutS 3 rfl rfl ⟨rfl, trivial⟩)))))
   exact TO.g rfl rfl rfl rfl (TX.move rfl rfl (TO.g rfl rfl rfl rfl (TX.ibin rfl rfl rfl rfl (TO.u rfl rfl (TX.pickT rfl rfl rfl (TO.nil (TE.cutS 3 rfl rfl ⟨rfl, trivial⟩)))))))
 refine TO.u rfl rfl (TX.move rfl rfl (TO.cutS 3 [(55, .bool (((((v7.2 == 0) && (v12.1 == 0)) && (v12.2 == 22)) && (v17.1 == 0)) && (v17.2 == 23)))] ?_ ?_))
 · cases hc26 : ((((v7.2 == 0) && (v12.1 == 0)) && (v12.2 == 22)) && (v17.1 == 0))
   · exact TO.s rfl rfl rfl rfl rfl rfl (TO.s rfl rfl rfl rfl rfl rfl (TO.u rfl rfl (TX.pickF rfl rfl rfl (TO.nil (TE.cutS 3 rfl rfl ⟨rfl, trivial⟩)))))
   exact TO.g rfl rfl rfl rfl (TX.move rfl rfl (TO.g rfl rfl rfl rfl (TX.ibin rfl rfl rfl rfl (TO.u rfl rfl (TX.pickT rfl rfl rfl (TO.nil (TE.cutS 3 rfl rfl ⟨rfl, trivial⟩)))))))
 refine TO.u rfl rfl (TX.move rfl rfl (TO.cutS 3 [(59, .bool ((((((v7.2 == 0) && (v12.1 == 0)) && (v12.2 == 22)) && (v17.1 == 0)) && (v17.2 == 23)) && (v22.1 == 0)))] ?_ ?_))
 · cases hc27 : (((((v7.2 == 0) && (v12.1 == 0)) && (v12.2 == 22)) && (v17.1 == 0)) && (v17.2 == 23))
   · exact TO.s rfl rfl rfl rfl rfl rfl (TO.s rfl rfl rfl rfl rfl rfl (TO.u rfl rfl (TX.pickF rfl rfl rfl (TO.nil (TE.cutS 3 rfl rfl ⟨rfl, trivial⟩)))))
   exact TO.g rfl rfl rfl rfl (TX.move rfl rfl (TO.g rfl rfl rfl rfl (TX.ibin rfl rfl rfl rfl (TO.u rfl rfl (TX.pickT rfl rfl rfl (TO.nil (TE.cutS 3 rfl rfl ⟨rfl, trivial⟩)))))))
 refine TO.u rfl rfl (TX.move rfl rfl (TO.cutS 3 [(63, .bool (((((((v7.2 == 0) && (v12.1 == 0)) && (v12.2 == 22)) && (v17.1 == 0)) && (v17.2 == 23)) && (v22.1 == 0)) && (v22.2 == 24)))] ?_ ?_))
 · cases hc28 : ((((((v7.2 == 0) && (v12.1 == 0)) && (v12.2 == 22)) && (v17.1 == 0)) && (v17.2 == 23)) && (v22.1 == 0))
   · exact TO.s rfl rfl rfl rfl rfl rfl (TO.s rfl rfl rfl rfl rfl rfl (TO.u rfl rfl (TX.pickF rfl rfl rfl (TO.nil (TE.cutS 3 rfl rfl ⟨rfl, trivial⟩)))))
   exact TO.g rfl rfl rfl rfl (TX.move rfl rfl (TO.g rfl rfl rfl rfl (TX.ibin rfl rfl rfl rfl (TO.u rfl rfl (TX.pickT rfl rfl rfl (TO.nil (TE.cutS 3 rfl rfl ⟨rfl, trivial⟩)))))))
 exact TO.u rfl rfl (TX.assign rfl rfl (TO.nil (TE.thenN rfl rfl (TC.ret (TE.fin (R := ⟨[], []⟩) (TL.ret (R' := ⟨[], []⟩) Try.results12 (.cons (.tmp rfl) .nil) (subD 2 4 rfl rfl) ⟨congrArg ret12 (Option.some.inj h), rfl⟩))))))
/-- hatchway/hatchwaylaw03.small -/
def fn26 (p0 : List Instr) : Bool :=
  (decide ((p0.length : Int) ≤ 300))
def ret26 (r : Bool) : Value := .bool r
theorem c26 (sp_0 : Option Addr) (n_0 cap_0 : Nat) (p0 : List Instr) (w : World) (r : Bool) (qn0 : p0.length = n_0) (qc0 : p0.length ≤ cap_0) (qp0 : RdF Instr.E w [] sp_0 p0) (h : fn26 p0 = r) : Ret Try.prog 26 [.slice sp_0 n_0 cap_0] w ⟨[], []⟩ (fun v R => v = ret26 r ∧ R = ⟨[], []⟩) := by
 unfold fn26 at h
 exact Ret.of_body Try.func26 rfl Try.ntmps26 rfl (fun _ hx => absurd hx List.not_mem_nil) List.nodup_nil (TC.seq (TC.region (TO.u rfl rfl (TX.assign rfl rfl (TO.nil (TE.thenN rfl rfl (TC.seq (TC.region (TO.u rfl rfl (TX.move rfl rfl (TO.u rfl rfl (TX.lenS (xs := p0) Try.runUnderlying24 rfl qn0 rfl (TO.u rfl rfl (TX.ibin rfl rfl rfl rfl (TO.u rfl rfl (TX.assign rfl rfl (TO.nil (TE.thenN rfl rfl (TC.ret (TE.fin (R := ⟨[], []⟩) (TL.ret (R' := ⟨[], []⟩) Try.results26 (.cons (.tmp rfl) .nil) (subD 0 0 rfl rfl) ⟨congrArg ret26 h, rfl⟩)))))))))))))))))))))

def fn27_r1 (x28 : List (Int × Bool)) (y31 : Int) (y32 : Slot) : Option (((List (Int × Bool))) × Nat) :=
  (bindP (fn39 y32 y31) fun v49 => (bif v49.2 then (some (mput x28 v49.1 true, 0)) else (some (x28, 0))))
theorem fn27_r1_s (x28 : List (Int × Bool)) (y31 : Int) (y32 : Slot) : fn27_r1 x28 y31 y32 = (bindP (fn39 y32 y31) fun v49 => (bif v49.2 then (some (mput x28 v49.1 true, 0)) else (some (x28, 0)))) := rfl
def fn27_k1_0 (x54 : List (Int × Bool)) : Option ((List Int)) :=
  (Option.bind (fn52 x54) fun v61 => (some v61))
theorem fn27_k1_0_s (x54 : List (Int × Bool)) : fn27_k1_0 x54 = (Option.bind (fn52 x54) fun v61 => (some v61)) := rfl
/-- hatchway/shape.Targets -/
def fn27 (F : Nat) (p0 : List Instr) : Option ((List Int)) :=
  (Option.bind (fn14 F p0) fun v1 => (bif v1.2 != 0 then (some ([] : List Int)) else (Option.bind (fn59 F (stepR (fun (s : (List (Int × Bool))) (y : Int × Slot) => fn27_r1 s y.1 y.2)) goR p0 ((([] : List (Int × Bool)), 0) : ((List (Int × Bool))) × Nat)) fun o58 => (bif Nat.beq o58.2 0 then fn27_k1_0 o58.1 else none))))
def post27 (r : (List Int)) (v : Value) (R : Hp) : Prop := ∃ sp n cap Hs, v = .slice sp n cap ∧ r.length = n ∧ R = ⟨[], [Hs]⟩ ∧ OwnL (En.int .i64) 3 sp cap r Hs
theorem c27 (F : Nat) (sp_0 : Option Addr) (n_0 cap_0 : Nat) (p0 : List Instr) (w : World) (r : (List Int)) (qn0 : p0.length = n_0) (qc0 : p0.length ≤ cap_0) (qp0 : RdF Instr.E w [] sp_0 p0) (h : fn27 F p0 = some r) : Ret Try.prog 27 [.slice sp_0 n_0 cap_0] w ⟨[], []⟩ (post27 r) := by
 unfold fn27 at h
 refine Ret.of_body Try.func27 rfl Try.ntmps27 rfl (fun _ hx => absurd hx List.not_mem_nil) List.nodup_nil (TC.seq (TC.region (TO.u rfl rfl (TX.assign rfl rfl (TO.nil (TE.thenN rfl rfl (TC.seq (TC.seq (TC.region (TO.u rfl rfl (TX.move rfl rfl ?_)))))))))))
 obtain ⟨v1, hv1, h⟩ := bd h
 refine TO.u rfl rfl (TX.callP Try.call14 rfl (fun a w s => c14 F _ _ _ p0 _ _ qn0 qc0 (qp0.tr s.extB0) hv1) rfl (TO.u rfl rfl (TX.move rfl rfl (TO.u rfl rfl (TX.extract rfl rfl rfl (TO.u rfl rfl (TX.extract rfl rfl rfl (TO.u rfl rfl (TX.assign rfl rfl (TO.u rfl rfl (TX.assign rfl rfl (TO.nil (TE.thenN rfl rfl (TC.seq (TC.region (TO.u rfl rfl (TX.move rfl rfl (TO.u rfl rfl (TX.ibin rfl rfl rfl rfl (TO.nil (TE.thenN rfl rfl (TC.cond rfl (fun hb2 => ?_) (fun hb2 => ?_)))))))))))))))))))))))
 · replace h := it h hb2
   refine TC.seq (TC.region (TO.u rfl rfl (TX.assign rfl rfl (TO.nil (TE.thenN rfl rfl (TC.ret (TE.thenR ?_)))))))
   have hr := (Option.some.inj h)
   subst hr
   exact TE.fin (R := ⟨[], []⟩) (TL.ret (R' := ⟨[], [[]]⟩) Try.results27 (.cons (.tmp rfl) .nil) segSub0 ⟨none, 0, 0, [], rfl, rfl, rfl, (OwnL.nil (En.int .i64) 3)⟩)
 replace h := ie h hb2
 refine TC.skip (TE.thenN rfl rfl (TC.seq (TC.region (TO.u rfl rfl (TX.makeMapS (N := (Kn.int .i64)) (V := (fun (v : Bool) => (.bool v : Value))) rfl (fun m3 Hs5 ho6 => (TO.u rfl rfl (TX.alloc Try.zeroValue53 rfl rfl (fun b7 => (TO.u rfl rfl (TX.store (i := 0) Try.sizeOf53 rfl rfl rfl rfl rfl rfl rfl rfl (TO.nil (TE.thenN rfl rfl (TC.seq (TC.seq (TC.region (TO.u rfl rfl (TX.move rfl rfl (TO.u rfl rfl (TX.callQ _ Try.call34 rfl (fun a w s => c34 _ _ _ p0 _) rfl ?_))))))))))))))))))))
 rintro _ _ ⟨b8, rfl, rfl⟩
 refine TO.reH ⟨[(b8, .cells #[.slice sp_0 n_0 cap_0] 24), (b7, .cells #[.map (some m3)] 53)], [Hs5]⟩ rfl (TO.nil (TE.thenN rfl rfl (TC.block ?_)))
 obtain ⟨⟨o58, m59⟩, hl60, h⟩ := bd h
 refine TC.to (L' := [(2, .slice none 0 0), (5, .pointer (some ⟨b7, 0, none⟩)), (19, .func (.func 59) #[] #[.pointer (some ⟨b8, 0, none⟩)])]) (E' := [(b8, .cells #[.slice sp_0 n_0 cap_0] 24), (b7, .cells #[.map (some m3)] 53)]) (S' := [Hs5]) 0 0 ⟨rfl, rfl, rfl, trivial⟩ rfl rfl (TC.rangeO [20, 21] [0] [] (fun (x28 : (List (Int × Bool))) (H' : Hp) => ∃ Hs29, OwnM (Kn.int .i64) (fun (v : Bool) => (.bool v : Value)) m3 x28 Hs29 ∧ H' = ⟨[(b7, .cells #[.map (some m3)] 53)], [Hs29]⟩) (fun (x : Int × Slot) => [.int .i64 x.1, .agg #[.int .u8 x.2.fInstr.fOp, .int .u8 x.2.fInstr.fDst, .int .u8 x.2.fInstr.fSrc, .int .i16 x.2.fInstr.fOff, .int .i32 x.2.fInstr.fImm, .int .u8 x.2.fclass, .int .u8 x.2.fop, .bool x.2.freg]]) (fun (s : (List (Int × Bool))) (y : Int × Slot) => fn27_r1 s y.1 y.2) ([] : List (Int × Bool)) o58 m59 Try.call59 rfl rfl (fun _ => rfl) rfl rfl ⟨Hs5, ho6, rfl⟩ (fun zw zv zJ zH zd zx zo zy zj => c59 F (stepR (fun (s : (List (Int × Bool))) (y : Int × Slot) => fn27_r1 s y.1 y.2)) goR zJ zv ((([] : List (Int × Bool)), 0) : ((List (Int × Bool))) × Nat) zH b8 _ _ _ p0 zw (o58, m59) qn0 qc0 (qp0.tr zx) zo zy zj hl60) ?_ ?_)
 · clear h hl60
   intro l33 r34 lr35 w36 R37 x28 y39 s40 m41 H42 Rr43 hst44 h hI69 hx45 fin46
   obtain ⟨y31, y32⟩ := y39
   obtain ⟨Hs29, ho30, rfl⟩ := hI69
   replace h := (fn27_r1_s x28 y31 y32).symm.trans h
   have qx47 := qp0.tr hx45
   refine TC.to (L' := [(2, .slice none 0 0), (5, .pointer (some ⟨b7, 0, none⟩)), (19, .func (.func 59) #[] #[.pointer (some ⟨b8, 0, none⟩)]), (20, .int .i64 y31), (21, .agg #[.int .u8 y32.fInstr.fOp, .int .u8 y32.fInstr.fDst, .int .u8 y32.fInstr.fSrc, .int .i16 y32.fInstr.fOff, .int .i32 y32.fInstr.fImm, .int .u8 y32.fclass, .int .u8 y32.fop, .bool y32.freg])]) (E' := [(l33, .loop lr35), (r34, .deferred (some [])), (b7, .cells #[.map (some m3)] 53)]) (S' := [Hs29]) 0 0 ⟨rfl, rfl, rfl, rfl, rfl, trivial⟩ rfl rfl (TC.seq (TC.region (TO.u rfl rfl (TX.assign rfl rfl (TO.nil (TE.thenN rfl rfl (TC.region (TO.u rfl rfl (TX.alloc Try.zeroValue58 rfl rfl (fun b48 => (TO.u rfl rfl (TX.store (i := 0) Try.sizeOf58 rfl rfl rfl rfl rfl rfl rfl rfl (TO.nil (TE.begin (i := 1) rfl (by assumption) rfl ?_))))))))))))))
   refine TC.block (TC.seq (TC.region (TO.u rfl rfl (TX.loadN (i := 0) Try.isAgg58 Try.sizeOf58 rfl rfl rfl rfl (TO.u rfl rfl (TX.move rfl rfl ?_))))))
   obtain ⟨v49, hv49, h⟩ := bp h
   refine TO.u rfl rfl (TX.callP Try.call39 rfl (fun a w s => c39 y32 y31 _ _  hv49) rfl (TO.u rfl rfl (TX.move rfl rfl (TO.u rfl rfl (TX.extract rfl rfl rfl (TO.u rfl rfl (TX.extract rfl rfl rfl (TO.u rfl rfl (TX.assign rfl rfl (TO.u rfl rfl (TX.assign rfl rfl (TO.nil (TE.thenN rfl rfl (TC.seq (TC.region (TO.u rfl rfl (TX.move rfl rfl (TO.nil (TE.thenN rfl rfl (TC.cond rfl (fun hb50 => ?_) (fun hb50 => ?_)))))))))))))))))))))
   · replace h := it h hb50
     refine TC.region (TO.u rfl rfl (TX.load1 (i := 3) Try.isAgg53 rfl rfl rfl rfl (TO.u rfl rfl (TX.move rfl rfl (TO.u rfl rfl (TX.updM (N := (Kn.int .i64)) (V := (fun (v : Bool) => (.bool v : Value))) (si := 0) (k := v49.1) (v := true) (.inl rfl) Try.runUnderlying53 Try.runUnderlying3 rfl rfl rfl rfl ho30 (fun Hs51 _ S52 ho53 => ?_)))))))
     cases S52
     refine TO.nil (TE.blockN ?_)
     cases h
     exact TE.to (L' := []) (E' := [(l33, .loop { lr35 with state := .busy }), (r34, .deferred (some [])), (b7, .cells #[.map (some m3)] 53)]) (S' := [Hs51]) 1 0 trivial rfl rfl (fin46 [] ⟨[(b7, .cells #[.map (some m3)] 53)], [Hs51]⟩ ⟨Hs51, ho53, rfl⟩)
   replace h := ie h hb50
   refine TC.skip (TE.blockN ?_)
   cases h
   exact TE.to (L' := []) (E' := [(l33, .loop { lr35 with state := .busy }), (r34, .deferred (some [])), (b7, .cells #[.map (some m3)] 53)]) (S' := [Hs29]) 1 0 trivial rfl rfl (fin46 [] ⟨[(b7, .cells #[.map (some m3)] 53)], [Hs29]⟩ ⟨Hs29, ho30, rfl⟩)
 clear hl60
 intro r57 H70 hI71
 obtain ⟨x54, q_⟩ : ∃ z, z = o58 := ⟨_, rfl⟩
 subst q_
 obtain ⟨Hs55, ho56, rfl⟩ := hI71
 refine TE.reH ⟨[(r57, .deferred (some [])), (b8, .cells #[.slice sp_0 n_0 cap_0] 24), (b7, .cells #[.map (some m3)] 53)], [Hs55]⟩ rfl ?_
 cases hm72 : Nat.beq m59 0
 · replace h := ie h hm72
   cases h
 replace h := it h hm72
 have q_ := Nat.eq_of_beq_eq_true hm72
 subst q_
 replace h := (fn27_k1_0_s x54).symm.trans h
 refine TE.asE (e := .normal) rfl (TE.blockN (TE.thenN rfl rfl (TC.seq (TC.region (TO.u rfl rfl (TX.load1 (i := 2) Try.isAgg53 rfl rfl rfl rfl ?_))))))
 obtain ⟨v61, hv61, h⟩ := bd h
 refine TO.u rfl rfl (TX.callRW [] [0] _ rfl rfl Try.call52 rfl rfl (fun a w s => c52 m3 x54 Hs55 _ _ ho56 s.hpOk hv61) rfl ?_)
 rintro _ _ ⟨sp62, n63, cap64, Hs66, rfl, rfl, hn65, ho67⟩
 refine ⟨[], [Hs66], [Hs55], rfl, ?_⟩
 refine TO.reH ⟨[(r57, .deferred (some [])), (b8, .cells #[.slice sp_0 n_0 cap_0] 24), (b7, .cells #[.map (some m3)] 53)], [Hs66, Hs55]⟩ rfl (TO.u rfl rfl (TX.assign rfl rfl (TO.nil (TE.thenN rfl rfl (TC.ret ?_)))))
 have hr := (Option.some.inj h)
 subst hr
 exact TE.fin (R := ⟨[], []⟩) (TL.mark (i := 0) rfl rfl (TL.ret (R' := ⟨[], [Hs66]⟩) Try.results27 (.cons (.tmp rfl) .nil) (segSub (i := 0) rfl) ⟨sp62, n63, cap64, Hs66, rfl, hn65, rfl, ho67⟩))
def fn28_l1 (p0 : List Int) (p1 : List Int) : Nat → Int → Option ((Unit) ⊕ (Bool))
  | 0, _ => none
  | n12 + 1, x7 => (bif decide (x7 < (p0.length : Int)) then (bif inb x7 p0.length then (bif inb x7 p1.length then (bif (gt p0 x7) != (gt p1 x7) then (some (.inr false)) else ((fn28_l1 p0 p1 n12) (IntKind.i64.wrap (x7 + 1)))) else none) else none) else (some (.inl ())))
theorem fn28_l1_s (p0 : List Int) (p1 : List Int) (n12 : Nat) (x7 : Int) : fn28_l1 p0 p1 (n12 + 1) x7 = (bif decide (x7 < (p0.length : Int)) then (bif inb x7 p0.length then (bif inb x7 p1.length then (bif (gt p0 x7) != (gt p1 x7) then (some (.inr false)) else ((fn28_l1 p0 p1 n12) (IntKind.i64.wrap (x7 + 1)))) else none) else none) else (some (.inl ()))) := rfl
def fn28_k1 : Option (Bool) :=
  (some true)
theorem fn28_k1_s : fn28_k1  = (some true) := rfl
/-- hatchway/hatchwaykit.SameInts -/
def fn28 (F : Nat) (p0 : List Int) (p1 : List Int) : Option (Bool) :=
  (bif (p0.length : Int) != (p1.length : Int) then (some false) else (Option.bind (fn28_l1 p0 p1 F 0) fun o9 => (match o9 with | .inl u => fn28_k1  | .inr u => some u)))
def ret28 (r : Bool) : Value := .bool r
theorem c28 (F : Nat) (sp_0 : Option Addr) (n_0 cap_0 : Nat) (p0 : List Int) (sp_1 : Option Addr) (n_1 cap_1 : Nat) (p1 : List Int) (w : World) (r : Bool) (qn0 : p0.length = n_0) (qc0 : p0.length ≤ cap_0) (qp0 : RdF (En.int .i64) w [] sp_0 p0) (qn1 : p1.length = n_1) (qc1 : p1.length ≤ cap_1) (qp1 : RdF (En.int .i64) w [] sp_1 p1) (h : fn28 F p0 p1 = some r) : Ret Try.prog 28 [.slice sp_0 n_0 cap_0, .slice sp_1 n_1 cap_1] w ⟨[], []⟩ (fun v R => v = ret28 r ∧ R = ⟨[], []⟩) := by
 unfold fn28 at h
 refine Ret.of_body Try.func28 rfl Try.ntmps28 rfl (fun _ hx => absurd hx List.not_mem_nil) List.nodup_nil (TC.seq (TC.region (TO.u rfl rfl (TX.assign rfl rfl (TO.nil (TE.thenN rfl rfl (TC.seq (TC.seq (TC.region (TO.u rfl rfl (TX.move rfl rfl (TO.u rfl rfl (TX.lenS (xs := p0) Try.runUnderlying45 rfl qn0 rfl (TO.u rfl rfl (TX.move rfl rfl (TO.u rfl rfl (TX.lenS (xs := p1) Try.runUnderlying45 rfl qn1 rfl (TO.u rfl rfl (TX.ibin rfl rfl rfl rfl (TO.nil (TE.thenN rfl rfl (TC.cond rfl (fun hb1 => ?_) (fun hb1 => ?_)))))))))))))))))))))))
 · replace h := it h hb1
   exact TC.seq (TC.region (TO.u rfl rfl (TX.assign rfl rfl (TO.nil (TE.thenN rfl rfl (TC.ret (TE.thenR (TE.fin (R := ⟨[], []⟩) (TL.ret (R' := ⟨[], []⟩) Try.results28 (.cons (.tmp rfl) .nil) (subD 0 0 rfl rfl) ⟨congrArg ret28 (Option.some.inj h), rfl⟩)))))))))
 replace h := ie h hb1
 refine TC.skip (TE.thenN rfl rfl (TC.seq (TC.seq (TC.region (TO.u rfl rfl (TX.assign rfl rfl (TO.nil (TE.thenN rfl rfl (TC.block ?_)))))))))
 obtain ⟨o9, hl10, h⟩ := bd h
 refine TC.to (L' := [(0, .slice sp_0 n_0 cap_0), (1, .slice sp_1 n_1 cap_1), (5, .int .i64 0)]) (E' := []) (S' := []) 0 0 ⟨rfl, rfl, rfl, trivial⟩ rfl rfl (TC.cutE 0 (fun L' H' => .inl () = o9 ∧ L' = [] ∧ H' = ⟨[], []⟩) ?_ ?_)
 · have h014 := h
   clear h
   refine TC.loop (fun (n : Nat) (s : Int) => fn28_l1 p0 p1 n s) o9 (fun _ => rfl) (fun (x7 : Int) L' H' => L' = [(0, .slice sp_0 n_0 cap_0), (1, .slice sp_1 n_1 cap_1), (5, .int .i64 x7)] ∧ H' = ⟨[], []⟩) ?_ F 0 ⟨rfl, rfl⟩ hl10
   clear hl10
   rintro K11 n12 x7 _ _ ⟨rfl, rfl⟩ h ih13
   replace h := (fn28_l1_s p0 p1 n12 x7).symm.trans h
   refine TC.seq (TC.seq (TC.region (TO.u rfl rfl (TX.move rfl rfl (TO.u rfl rfl (TX.move rfl rfl (TO.u rfl rfl (TX.lenS (xs := p0) Try.runUnderlying45 rfl qn0 rfl (TO.u rfl rfl (TX.ibin rfl rfl rfl rfl (TO.nil (TE.thenN rfl rfl (TC.cond rfl (fun hb15 => ?_) (fun hb15 => ?_))))))))))))))
   · replace h := it h hb15
     refine TC.skip (TE.thenN rfl rfl (TC.seq (TC.block (TC.seq (TC.keep (L' := [(0, .slice sp_0 n_0 cap_0), (1, .slice sp_1 n_1 cap_1), (5, .int .i64 x7)]) ⟨rfl, rfl, rfl, trivial⟩ ?_)))))
     obtain ⟨hk16, h⟩ := ck h
     obtain ⟨hk17, h⟩ := ck h
     refine TC.draw hmix 8 [.slice sp_0 n_0 cap_0, .int .i64 x7, .pointer (some (eAddr sp_0 (x7.toNat * (En.int .i64).sz + 0))), .int .i64 (gt p0 x7), .slice sp_1 n_1 cap_1, .int .i64 x7, .pointer (some (eAddr sp_1 (x7.toNat * (En.int .i64).sz + 0))), .int .i64 (gt p1 x7)] [(20, .int .i64 (gt p0 x7)), (24, .int .i64 (gt p1 x7))] rfl rfl rfl rfl ?_ (.cons 3 rfl rfl rfl (.cons 7 rfl rfl rfl .nil)) ?_
     · exact QAll.u [(0, .slice sp_0 n_0 cap_0)] (.old rfl .nil) rfl rfl (QV.move rfl).s rfl (QAll.u [(5, .int .i64 x7)] (.old rfl .nil) rfl rfl (QV.move rfl).s rfl (QAll.u [(17, .slice sp_0 n_0 cap_0), (18, .int .i64 x7)] (.dat 0 rfl rfl rfl (.dat 1 rfl rfl rfl .nil)) rfl rfl (QV.indexR (N := (En.int .i64)) Try.runUnderlying45 Try.sizeOf3 rfl qn0 rfl (fun a w s => qp0 w s.ext) hk16).s rfl (QAll.u [(19, .pointer (some (eAddr sp_0 (x7.toNat * (En.int .i64).sz + 0))))] (.dat 2 rfl rfl rfl .nil) rfl rfl (QV.loadR1 (N := (En.int .i64)) Try.isAgg3 rfl (fun a w s => qp0 w s.ext) hk16 rfl).s rfl (QAll.u [(1, .slice sp_1 n_1 cap_1)] (.old rfl .nil) rfl rfl (QV.move rfl).s rfl (QAll.u [(5, .int .i64 x7)] (.old rfl .nil) rfl rfl (QV.move rfl).s rfl (QAll.u [(21, .slice sp_1 n_1 cap_1), (22, .int .i64 x7)] (.dat 4 rfl rfl rfl (.dat 5 rfl rfl rfl .nil)) rfl rfl (QV.indexR (N := (En.int .i64)) Try.runUnderlying45 Try.sizeOf3 rfl qn1 rfl (fun a w s => qp1 w s.ext) hk17).s rfl (QAll.u [(23, .pointer (some (eAddr sp_1 (x7.toNat * (En.int .i64).sz + 0))))] (.dat 6 rfl rfl rfl .nil) rfl rfl (QV.loadR1 (N := (En.int .i64)) Try.isAgg3 rfl (fun a w s => qp1 w s.ext) hk17 rfl).s rfl (QAll.nil))))))))
     refine TO.u rfl rfl (TX.ibin rfl rfl rfl rfl (TO.nil (TE.thenN rfl rfl (TC.cond rfl (fun hb18 => ?_) (fun hb18 => ?_)))))
     · replace h := it h hb18
       refine TC.seq (TC.region (TO.u rfl rfl (TX.assign rfl rfl (TO.nil (TE.thenN rfl rfl (TC.ret (TE.blockR (TE.thenR (TE.loopR (TE.cutR ?_))))))))))
       have ho := Option.some.inj h
       subst ho
       replace h := h014
       exact TE.blockR (TE.thenR (TE.fin (R := ⟨[], []⟩) (TL.ret (R' := ⟨[], []⟩) Try.results28 (.cons (.tmp rfl) .nil) (subD 0 0 rfl rfl) ⟨congrArg ret28 (Option.some.inj h), rfl⟩)))
     replace h := ie h hb18
     exact TC.skip (TE.blockN (TE.thenN rfl rfl (TC.region (TO.u rfl rfl (TX.move rfl rfl (TO.u rfl rfl (TX.ibin rfl rfl rfl rfl (TO.u rfl rfl (TX.assign rfl rfl (TO.nil (TE.to (L' := [(0, .slice sp_0 n_0 cap_0), (1, .slice sp_1 n_1 cap_1), (5, .int .i64 (IntKind.i64.wrap (x7 + 1)))]) (E' := []) (S' := []) 0 0 ⟨rfl, rfl, rfl, trivial⟩ rfl rfl (ih13 (IntKind.i64.wrap (x7 + 1)) _ _ ⟨rfl, rfl⟩ h))))))))))))
   replace h := ie h hb15
   exact TC.exit (TE.thenX (TE.loopX (TE.to (L' := []) (E' := []) (S' := []) 0 0 trivial rfl rfl (TE.cutE ⟨Option.some.inj h, rfl, rfl⟩))))
 rintro _ _ ⟨rfl, rfl, rfl⟩
 replace h := (fn28_k1_s ).symm.trans h
 exact TE.blockH (TE.thenN rfl rfl (TC.seq (TC.region (TO.u rfl rfl (TX.assign rfl rfl (TO.nil (TE.thenN rfl rfl (TC.ret (TE.fin (R := ⟨[], []⟩) (TL.ret (R' := ⟨[], []⟩) Try.results28 (.cons (.tmp rfl) .nil) (subD 0 0 rfl rfl) ⟨congrArg ret28 (Option.some.inj h), rfl⟩))))))))))
def fn9_l1 (p0 : List Instr) (v49 : (List Int)) : Nat → (List Int) → Int → Option ((List Int))
  | 0, _, _ => none
  | n114 + 1, x93, x101 => (bif decide (x101 < (v49.length : Int)) then (bif inb x101 v49.length then (bif decide ((x93.length + ([IntKind.i64.wrap ((gt v49 x101) + (p0.length : Int))] : List Int).length) * 8 ≤ 140737488355328 ∧ x93.length + ([IntKind.i64.wrap ((gt v49 x101) + (p0.length : Int))] : List Int).length ≤ 9223372036854775807) then ((fn9_l1 p0 v49 n114) (x93 ++ ([IntKind.i64.wrap ((gt v49 x101) + (p0.length : Int))] : List Int)) (IntKind.i64.wrap (x101 + 1))) else none) else none) else (some x93))
theorem fn9_l1_s (p0 : List Instr) (v49 : (List Int)) (n114 : Nat) (x93 : List Int) (x101 : Int) : fn9_l1 p0 v49 (n114 + 1) x93 x101 = (bif decide (x101 < (v49.length : Int)) then (bif inb x101 v49.length then (bif decide ((x93.length + ([IntKind.i64.wrap ((gt v49 x101) + (p0.length : Int))] : List Int).length) * 8 ≤ 140737488355328 ∧ x93.length + ([IntKind.i64.wrap ((gt v49 x101) + (p0.length : Int))] : List Int).length ≤ 9223372036854775807) then ((fn9_l1 p0 v49 n114) (x93 ++ ([IntKind.i64.wrap ((gt v49 x101) + (p0.length : Int))] : List Int)) (IntKind.i64.wrap (x101 + 1))) else none) else none) else (some x93)) := rfl
def fn9_k1 (F : Nat) (p0 : List Instr) (p1 : List Instr) (v29 : Int × Int) (x103 : List Int) : Option (Bool) :=
  (Option.bind (bif v29.2 == 0 then (fn27 F ((([] : List Instr) ++ p0) ++ p1)) else some default) fun v130 => (Option.bind (bif v29.2 == 0 then (fn28 F v130 x103) else some default) fun v132 => (some ((v29.2 == 0) && v132))))
theorem fn9_k1_s (F : Nat) (p0 : List Instr) (p1 : List Instr) (v29 : Int × Int) (x103 : List Int) : fn9_k1 F p0 p1 v29 x103 = (Option.bind (bif v29.2 == 0 then (fn27 F ((([] : List Instr) ++ p0) ++ p1)) else some default) fun v130 => (Option.bind (bif v29.2 == 0 then (fn28 F v130 x103) else some default) fun v132 => (some ((v29.2 == 0) && v132)))) := rfl
/-- hatchway/hatchwaylaw03.ShapeMore -/
def fn9 (F : Nat) (p0 : List Instr) (p1 : List Instr) : Option (Bool) :=
  (Option.bind (fn12 F) fun v1 => (bif !v1 then (some false) else (bindP (fn26 p0) fun v3 => (bindP (fn26 p1) fun v4 => (bif (!v3) || (!v4) then (some true) else (Option.bind (fn14 F p0) fun v7 => (Option.bind (fn14 F p1) fun v8 => (bif (v7.2 != 0) || (v8.2 != 0) then (some true) else (bif decide ((([] : List Instr).length + p0.length) * 12 ≤ 140737488355328 ∧ ([] : List Instr).length + p0.length ≤ 9223372036854775807) then (bif decide (((([] : List Instr) ++ p0).length + p1.length) * 12 ≤ 140737488355328 ∧ (([] : List Instr) ++ p0).length + p1.length ≤ 9223372036854775807) then (Option.bind (fn14 F ((([] : List Instr) ++ p0) ++ p1)) fun v29 => (Option.bind (fn27 F p0) fun v34 => (bif decide ((([] : List Int).length + v34.length) * 8 ≤ 140737488355328 ∧ ([] : List Int).length + v34.length ≤ 9223372036854775807) then (Option.bind (fn27 F p1) fun v49 => (Option.bind (fn9_l1 p0 v49 F (([] : List Int) ++ v34) 0) fun o111 => (fn9_k1 F p0 p1 v29 o111))) else none))) else none) else none)))))))))
def ret9 (r : Bool) : Value := .bool r
theorem c9 (F : Nat) (sp_0 : Option Addr) (n_0 cap_0 : Nat) (p0 : List Instr) (sp_1 : Option Addr) (n_1 cap_1 : Nat) (p1 : List Instr) (w : World) (r : Bool) (qn0 : p0.length = n_0) (qc0 : p0.length ≤ cap_0) (qp0 : RdF Instr.E w [] sp_0 p0) (qn1 : p1.length = n_1) (qc1 : p1.length ≤ cap_1) (qp1 : RdF Instr.E w [] sp_1 p1) (h : fn9 F p0 p1 = some r) : Ret Try.prog 9 [.slice sp_0 n_0 cap_0, .slice sp_1 n_1 cap_1] w ⟨[], []⟩ (fun v R => v = ret9 r ∧ R = ⟨[], []⟩) := by
 unfold fn9 at h
 refine Ret.of_body Try.func9 rfl Try.ntmps9 rfl (fun _ hx => absurd hx List.not_mem_nil) List.nodup_nil (TC.seq (TC.region (TO.u rfl rfl (TX.assign rfl rfl (TO.nil (TE.thenN rfl rfl (TC.seq (TC.seq (TC.region ?_)))))))))
 obtain ⟨v1, hv1, h⟩ := bd h
 refine TO.u rfl rfl (TX.callP Try.call12 rfl (fun a w s => c12 F _ _  hv1) rfl (TO.u rfl rfl (TX.not rfl rfl (TO.nil (TE.thenN rfl rfl (TC.cond rfl (fun hb2 => ?_) (fun hb2 => ?_)))))))
 · replace h := it h hb2
   exact TC.seq (TC.region (TO.u rfl rfl (TX.assign rfl rfl (TO.nil (TE.thenN rfl rfl (TC.ret (TE.thenR (TE.fin (R := ⟨[], []⟩) (TL.ret (R' := ⟨[], []⟩) Try.results9 (.cons (.tmp rfl) .nil) (subD 0 0 rfl rfl) ⟨congrArg ret9 (Option.some.inj h), rfl⟩)))))))))
 replace h := ie h hb2
 refine TC.skip (TE.thenN rfl rfl (TC.seq (TC.seq (TC.region (TO.u rfl rfl (TX.move rfl rfl ?_))))))
 obtain ⟨v3, hv3, h⟩ := bp h
 refine TO.u rfl rfl (TX.callP Try.call26 rfl (fun a w s => c26 _ _ _ p0 _ _ qn0 qc0 (qp0.tr s.extB0) hv3) rfl (TO.u rfl rfl (TX.not rfl rfl (TO.u rfl rfl (TX.move rfl rfl ?_)))))
 obtain ⟨v4, hv4, h⟩ := bp h
 refine TO.cutS 4 [(24, .bool ((!v3) || (!v4)))] ?_ ?_
 · cases hc5 : (!v3)
   · exact TO.g rfl rfl rfl rfl (TX.move rfl rfl (TO.g rfl rfl rfl rfl (TX.callP Try.call26 rfl (fun a w s => c26 _ _ _ p1 _ _ qn1 qc1 (qp1.tr s.extB0) hv4) rfl (TO.g rfl rfl rfl rfl (TX.not rfl rfl (TO.u rfl rfl (TX.pickF rfl rfl rfl (TO.nil (TE.cutS 4 rfl rfl ⟨rfl, trivial⟩)))))))))
   exact TO.s rfl rfl rfl rfl rfl rfl (TO.s rfl rfl rfl rfl rfl rfl (TO.s rfl rfl rfl rfl rfl rfl (TO.u rfl rfl (TX.pickT rfl rfl rfl (TO.nil (TE.cutS 4 rfl rfl ⟨rfl, trivial⟩))))))
 refine TO.nil (TE.thenN rfl rfl (TC.cond rfl (fun hb6 => ?_) (fun hb6 => ?_)))
 · replace h := it h hb6
   exact TC.seq (TC.region (TO.u rfl rfl (TX.assign rfl rfl (TO.nil (TE.thenN rfl rfl (TC.ret (TE.thenR (TE.fin (R := ⟨[], []⟩) (TL.ret (R' := ⟨[], []⟩) Try.results9 (.cons (.tmp rfl) .nil) (subD 0 0 rfl rfl) ⟨congrArg ret9 (Option.some.inj h), rfl⟩)))))))))
 replace h := ie h hb6
 refine TC.skip (TE.thenN rfl rfl (TC.seq (TC.region (TO.u rfl rfl (TX.move rfl rfl ?_)))))
 obtain ⟨v7, hv7, h⟩ := bd h
 refine TO.u rfl rfl (TX.callP Try.call14 rfl (fun a w s => c14 F _ _ _ p0 _ _ qn0 qc0 (qp0.tr s.extB0) hv7) rfl (TO.u rfl rfl (TX.move rfl rfl (TO.u rfl rfl (TX.extract rfl rfl rfl (TO.u rfl rfl (TX.extract rfl rfl rfl (TO.u rfl rfl (TX.assign rfl rfl (TO.u rfl rfl (TX.assign rfl rfl (TO.nil (TE.thenN rfl rfl (TC.seq (TC.region (TO.u rfl rfl (TX.move rfl rfl ?_)))))))))))))))))
 obtain ⟨v8, hv8, h⟩ := bd h
 refine TO.u rfl rfl (TX.callP Try.call14 rfl (fun a w s => c14 F _ _ _ p1 _ _ qn1 qc1 (qp1.tr s.extB0) hv8) rfl (TO.u rfl rfl (TX.move rfl rfl (TO.u rfl rfl (TX.extract rfl rfl rfl (TO.u rfl rfl (TX.extract rfl rfl rfl (TO.u rfl rfl (TX.assign rfl rfl (TO.u rfl rfl (TX.assign rfl rfl (TO.nil (TE.thenN rfl rfl (TC.seq (TC.seq (TC.region (TO.u rfl rfl (TX.move rfl rfl (TO.u rfl rfl (TX.ibin rfl rfl rfl rfl (TO.u rfl rfl (TX.move rfl rfl (TO.cutS 3 [(40, .bool ((v7.2 != 0) || (v8.2 != 0)))] ?_ ?_)))))))))))))))))))))))
 · cases hc9 : (v7.2 != 0)
   · exact TO.g rfl rfl rfl rfl (TX.move rfl rfl (TO.g rfl rfl rfl rfl (TX.ibin rfl rfl rfl rfl (TO.u rfl rfl (TX.pickF rfl rfl rfl (TO.nil (TE.cutS 3 rfl rfl ⟨rfl, trivial⟩)))))))
   exact TO.s rfl rfl rfl rfl rfl rfl (TO.s rfl rfl rfl rfl rfl rfl (TO.u rfl rfl (TX.pickT rfl rfl rfl (TO.nil (TE.cutS 3 rfl rfl ⟨rfl, trivial⟩)))))
 refine TO.nil (TE.thenN rfl rfl (TC.cond rfl (fun hb10 => ?_) (fun hb10 => ?_)))
 · replace h := it h hb10
   exact TC.seq (TC.region (TO.u rfl rfl (TX.assign rfl rfl (TO.nil (TE.thenN rfl rfl (TC.ret (TE.thenR (TE.fin (R := ⟨[], []⟩) (TL.ret (R' := ⟨[], []⟩) Try.results9 (.cons (.tmp rfl) .nil) (subD 0 0 rfl rfl) ⟨congrArg ret9 (Option.some.inj h), rfl⟩)))))))))
 replace h := ie h hb10
 refine TC.skip (TE.thenN rfl rfl (TC.seq (TC.region (TO.u rfl rfl (TX.buildS (N := Instr.E) (ys := ([] : List Instr)) Try.runUnderlying24 Try.sizeOf27 Try.zeroValue27 rfl rfl rfl rfl (fillS [] rfl rfl rfl rfl) rfl (fun sp11 Hs13 ho14 => (TO.u rfl rfl (TX.move rfl rfl ?_))))))))
 obtain ⟨hk15, h⟩ := ck h
 refine TO.u rfl rfl (TX.appendS (N := Instr.E) (si := 0) (xs := ([] : List Instr)) (ys := p0) Try.runUnderlying24 Try.typeInfo27 rfl rfl rfl rfl rfl rfl rfl qn0 rfl ho14 (fun a w s => qp0 w s.ext) hk15 rfl (fun sp16 cap17 Hs18 _ S19 ho20 => ?_))
 cases S19
 refine TO.u rfl rfl (TX.move rfl rfl ?_)
 obtain ⟨hk22, h⟩ := ck h
 refine TO.u rfl rfl (TX.appendS (N := Instr.E) (si := 0) (xs := ([] : List Instr) ++ p0) (ys := p1) Try.runUnderlying24 Try.typeInfo27 rfl rfl rfl rfl rfl rfl rfl qn1 rfl ho20 (fun a w s => qp1 w s.ext) hk22 rfl (fun sp23 cap24 Hs25 _ S26 ho27 => ?_))
 cases S26
 refine TO.u rfl rfl (TX.assign rfl rfl (TO.nil (TE.thenN rfl rfl (TC.seq (TC.region (TO.u rfl rfl (TX.move rfl rfl ?_)))))))
 obtain ⟨v29, hv29, h⟩ := bd h
 refine TO.u rfl rfl (TX.callP Try.call14 rfl (fun a w s => c14 F _ _ _ ((([] : List Instr) ++ p0) ++ p1) _ _ rfl ho27.le_cap (ho27.rdf0 s (i := 0) rfl) hv29) rfl (TO.u rfl rfl (TX.move rfl rfl (TO.u rfl rfl (TX.extract rfl rfl rfl (TO.u rfl rfl (TX.extract rfl rfl rfl (TO.u rfl rfl (TX.assign rfl rfl (TO.u rfl rfl (TX.assign rfl rfl (TO.nil (TE.thenN rfl rfl (TC.seq (TC.region (TO.u rfl rfl (TX.buildS (N := (En.int .i64)) (ys := ([] : List Int)) Try.runUnderlying45 Try.sizeOf3 Try.zeroValue3 rfl rfl rfl rfl (fillS [] rfl rfl rfl rfl) rfl (fun sp30 Hs32 ho33 => (TO.u rfl rfl (TX.move rfl rfl ?_))))))))))))))))))))
 obtain ⟨v34, hv34, h⟩ := bd h
 refine TO.u rfl rfl (TX.callQ (post27 v34) Try.call27 rfl (fun a w s => c27 F _ _ _ p0 _ _ qn0 qc0 (qp0.tr s.extB0) hv34) rfl ?_)
 rintro _ _ ⟨sp35, n36, cap37, Hs39, rfl, hn38, rfl, ho40⟩
 refine TO.reH ⟨[], [Hs39, Hs32, Hs25]⟩ rfl ?_
 obtain ⟨hk42, h⟩ := ck h
 refine TO.u rfl rfl (TX.appendS (N := (En.int .i64)) (si := 1) (xs := ([] : List Int)) (ys := v34) Try.runUnderlying45 Try.typeInfo3 rfl rfl rfl rfl rfl rfl rfl hn38 rfl ho33 (fun a w s => ho40.rd s (i := 0) rfl) hk42 rfl (fun sp43 cap44 Hs45 _ S46 ho47 => ?_))
 cases S46
 refine TO.u rfl rfl (TX.assign rfl rfl (TO.nil (TE.thenN rfl rfl (TC.seq (TC.region (TO.u rfl rfl (TX.move rfl rfl ?_)))))))
 obtain ⟨v49, hv49, h⟩ := bd h
 refine TO.u rfl rfl (TX.callQ (post27 v49) Try.call27 rfl (fun a w s => c27 F _ _ _ p1 _ _ qn1 qc1 (qp1.tr s.extB0) hv49) rfl ?_)
 rintro _ _ ⟨sp50, n51, cap52, Hs54, rfl, hn53, rfl, ho55⟩
 refine TO.reH ⟨[], [Hs54, Hs39, Hs45, Hs25]⟩ rfl (TO.u rfl rfl (TX.assign rfl rfl (TO.nil (TE.thenN rfl rfl (TC.seq (TC.seq (TC.region (TO.u rfl rfl (TX.assign rfl rfl (TO.nil (TE.thenN rfl rfl (TC.block ?_))))))))))))
 obtain ⟨o111, hl112, h⟩ := bd h
 refine TC.to (L' := [(0, .slice sp_0 n_0 cap_0), (9, .slice sp23 (((([] : List Instr) ++ p0) ++ p1).length) cap24), (11, .int .i64 v29.2), (12, .slice sp43 ((([] : List Int) ++ v34).length) cap44), (13, .slice sp50 n51 cap52), (14, .int .i64 0)]) (E' := []) (S' := [Hs54, Hs39, Hs45, Hs25]) 0 0 ⟨rfl, rfl, rfl, rfl, rfl, rfl, trivial⟩ rfl rfl (TC.cutE 0 (fun L' H' => ∃ x103 : List Int, x103 = o111 ∧ ∃ sp104 n105 cap106 Hs108, OwnL (En.int .i64) 3 sp104 cap106 x103 Hs108 ∧ x103.length = n105 ∧ L' = [(9, .slice sp23 (((([] : List Instr) ++ p0) ++ p1).length) cap24), (11, .int .i64 v29.2), (12, .slice sp104 n105 cap106)] ∧ H' = ⟨[], [Hs54, Hs39, Hs108, Hs25]⟩) ?_ ?_)
 · have h0116 := h
   clear h
   refine TC.loop (fun (n : Nat) (s : (List Int) × Int) => fn9_l1 p0 v49 n s.1 s.2) o111 (fun _ => rfl) (fun (s : (List Int) × Int) L' H' => match s with | (x93, x101) => ∃ sp94 n95 cap96 Hs98, OwnL (En.int .i64) 3 sp94 cap96 x93 Hs98 ∧ x93.length = n95 ∧ L' = [(0, .slice sp_0 n_0 cap_0), (9, .slice sp23 (((([] : List Instr) ++ p0) ++ p1).length) cap24), (11, .int .i64 v29.2), (12, .slice sp94 n95 cap96), (13, .slice sp50 n51 cap52), (14, .int .i64 x101)] ∧ H' = ⟨[], [Hs54, Hs39, Hs98, Hs25]⟩) ?_ F (([] : List Int) ++ v34, 0) ⟨sp43, ((([] : List Int) ++ v34).length), cap44, Hs45, ho47, rfl, rfl, rfl⟩ hl112
   clear hl112
   rintro K113 n114 ⟨x93, x101⟩ _ _ ⟨sp94, n95, cap96, Hs98, ho99, hn97, rfl, rfl⟩ h ih115
   replace h := (fn9_l1_s p0 v49 n114 x93 x101).symm.trans h
   refine TC.seq (TC.seq (TC.region (TO.u rfl rfl (TX.move rfl rfl (TO.u rfl rfl (TX.move rfl rfl (TO.u rfl rfl (TX.lenS (xs := v49) Try.runUnderlying45 rfl hn53 rfl (TO.u rfl rfl (TX.ibin rfl rfl rfl rfl (TO.nil (TE.thenN rfl rfl (TC.cond rfl (fun hb117 => ?_) (fun hb117 => ?_))))))))))))))
   · replace h := it h hb117
     refine TC.skip (TE.thenN rfl rfl (TC.seq (TC.block (TC.region (TO.u rfl rfl (TX.move rfl rfl (TO.u rfl rfl (TX.move rfl rfl (TO.u rfl rfl (TX.move rfl rfl ?_))))))))))
     obtain ⟨hk118, h⟩ := ck h
     refine TO.u rfl rfl (TX.indexR (N := (En.int .i64)) Try.runUnderlying45 Try.sizeOf3 rfl hn53 rfl (fun a w s => ho55.rd s (i := 0) rfl) hk118 rfl (TO.u rfl rfl (TX.loadR1 (N := (En.int .i64)) Try.isAgg3 rfl (fun a w s => ho55.rd s (i := 0) rfl) hk118 rfl rfl (TO.u rfl rfl (TX.move rfl rfl (TO.u rfl rfl (TX.lenS (xs := p0) Try.runUnderlying24 rfl qn0 rfl (TO.u rfl rfl (TX.ibin rfl rfl rfl rfl (TO.u rfl rfl (TX.buildS (N := (En.int .i64)) (ys := ([IntKind.i64.wrap ((gt v49 x101) + (p0.length : Int))] : List Int)) Try.runUnderlying45 Try.sizeOf3 Try.zeroValue3 rfl rfl rfl rfl (fillS [.int .i64 (IntKind.i64.wrap ((gt v49 x101) + (p0.length : Int)))] rfl rfl rfl rfl) rfl (fun sp119 Hs121 ho122 => ?_))))))))))))
     obtain ⟨hk123, h⟩ := ck h
     refine TO.u rfl rfl (TX.appendS (N := (En.int .i64)) (si := 3) (xs := x93) (ys := ([IntKind.i64.wrap ((gt v49 x101) + (p0.length : Int))] : List Int)) Try.runUnderlying45 Try.typeInfo3 rfl rfl rfl rfl rfl hn97 rfl rfl rfl ho99 (fun a w s => ho122.rd s (i := 0) rfl) hk123 rfl (fun sp124 cap125 Hs126 _ S127 ho128 => ?_))
     cases S127
     exact TO.u rfl rfl (TX.assign rfl rfl (TO.nil (TE.blockN (TE.thenN rfl rfl (TC.region (TO.u rfl rfl (TX.move rfl rfl (TO.u rfl rfl (TX.ibin rfl rfl rfl rfl (TO.u rfl rfl (TX.assign rfl rfl (TO.nil (TE.to (L' := [(0, .slice sp_0 n_0 cap_0), (9, .slice sp23 (((([] : List Instr) ++ p0) ++ p1).length) cap24), (11, .int .i64 v29.2), (12, .slice sp124 ((x93 ++ ([IntKind.i64.wrap ((gt v49 x101) + (p0.length : Int))] : List Int)).length) cap125), (13, .slice sp50 n51 cap52), (14, .int .i64 (IntKind.i64.wrap (x101 + 1)))]) (E' := []) (S' := [Hs54, Hs39, Hs126, Hs25]) 0 1 ⟨rfl, rfl, rfl, rfl, rfl, rfl, trivial⟩ rfl rfl (ih115 (x93 ++ ([IntKind.i64.wrap ((gt v49 x101) + (p0.length : Int))] : List Int), IntKind.i64.wrap (x101 + 1)) _ _ ⟨sp124, ((x93 ++ ([IntKind.i64.wrap ((gt v49 x101) + (p0.length : Int))] : List Int)).length), cap125, Hs126, ho128, rfl, rfl, rfl⟩ h))))))))))))))
   replace h := ie h hb117
   exact TC.exit (TE.thenX (TE.loopX (TE.to (L' := [(9, .slice sp23 (((([] : List Instr) ++ p0) ++ p1).length) cap24), (11, .int .i64 v29.2), (12, .slice sp94 n95 cap96)]) (E' := []) (S' := [Hs54, Hs39, Hs98, Hs25]) 0 0 ⟨rfl, rfl, rfl, trivial⟩ rfl rfl (TE.cutE ⟨x93, Option.some.inj h, sp94, n95, cap96, Hs98, ho99, hn97, rfl, rfl⟩))))
 rintro _ _ ⟨x103, rfl, sp104, n105, cap106, Hs108, ho109, hn107, rfl, rfl⟩
 replace h := (fn9_k1_s F p0 p1 v29 x103).symm.trans h
 refine TE.blockH (TE.thenN rfl rfl (TC.seq (TC.region (TO.u rfl rfl (TX.move rfl rfl (TO.u rfl rfl (TX.ibin rfl rfl rfl rfl (TO.u rfl rfl (TX.move rfl rfl ?_)))))))))
 obtain ⟨v130, hv130, h⟩ := bd h
 obtain ⟨v132, hv132, h⟩ := bd h
 refine TO.cutS 5 [(80, .bool ((v29.2 == 0) && v132))] ?_ ?_
 · cases hc133 : (v29.2 == 0)
   · exact TO.s rfl rfl rfl rfl rfl rfl (TO.s rfl rfl rfl rfl rfl rfl (TO.s rfl rfl rfl rfl rfl rfl (TO.s rfl rfl rfl rfl rfl rfl (TO.u rfl rfl (TX.pickF rfl rfl rfl (TO.nil (TE.cutS 5 rfl rfl ⟨rfl, trivial⟩)))))))
   refine TO.g rfl rfl rfl rfl (TX.move rfl rfl (TO.g rfl rfl rfl rfl (TX.callQ (post27 v130) Try.call27 rfl (fun a w s => c27 F _ _ _ ((([] : List Instr) ++ p0) ++ p1) _ _ rfl ho27.le_cap (ho27.rdf0 s (i := 3) rfl) (it hv130 hc133)) rfl ?_)))
   rintro _ _ ⟨sp134, n135, cap136, Hs138, rfl, hn137, rfl, ho139⟩
   exact TO.reH ⟨[], [Hs138, Hs54, Hs39, Hs108, Hs25]⟩ rfl (TO.g rfl rfl rfl rfl (TX.move rfl rfl (TO.g rfl rfl rfl rfl (TX.callP Try.call28 rfl (fun a w s => c28 F _ _ _ v130 _ _ _ x103 _ _ hn137 ho139.le_cap (ho139.rdf0 s (i := 0) rfl) hn107 ho109.le_cap (ho109.rdf0 s (i := 3) rfl) (it hv132 hc133)) rfl (TO.u rfl rfl (TX.pickT rfl rfl rfl (TO.nil (TE.drop 0 1 rfl rfl (TE.cutS 5 rfl rfl ⟨rfl, trivial⟩)))))))))
 exact TO.u rfl rfl (TX.assign rfl rfl (TO.nil (TE.thenN rfl rfl (TC.ret (TE.fin (R := ⟨[], []⟩) (TL.ret (R' := ⟨[], []⟩) Try.results9 (.cons (.tmp rfl) .nil) (subD 0 4 rfl rfl) ⟨congrArg ret9 (Option.some.inj h), rfl⟩))))))
/-- hatchway/hatchwaykit.mark -/
def fn70 (p0 : Int) (p1 : Int) : Int :=
  (IntKind.i64.wrap ((IntKind.i64.wrap ((1000003 : Int) * (IntKind.i64.wrap (p0 + 7)))) + p1))
def ret70 (r : Int) : Value := .int .i64 r
theorem c70 (p0 : Int) (p1 : Int) (w : World) (r : Int)  (h : fn70 p0 p1 = r) : Ret Try.prog 70 [.int .i64 p0, .int .i64 p1] w ⟨[], []⟩ (fun v R => v = ret70 r ∧ R = ⟨[], []⟩) := by
 unfold fn70 at h
 exact Ret.of_body Try.func70 rfl Try.ntmps70 rfl (fun _ hx => absurd hx List.not_mem_nil) List.nodup_nil (TC.seq (TC.region (TO.u rfl rfl (TX.assign rfl rfl (TO.nil (TE.thenN rfl rfl (TC.seq (TC.region (TO.u rfl rfl (TX.move rfl rfl (TO.u rfl rfl (TX.ibin rfl rfl rfl rfl (TO.u rfl rfl (TX.ibin rfl rfl rfl rfl (TO.u rfl rfl (TX.move rfl rfl (TO.u rfl rfl (TX.ibin rfl rfl rfl rfl (TO.u rfl rfl (TX.assign rfl rfl (TO.nil (TE.thenN rfl rfl (TC.ret (TE.fin (R := ⟨[], []⟩) (TL.ret (R' := ⟨[], []⟩) Try.results70 (.cons (.tmp rfl) .nil) (subD 0 0 rfl rfl) ⟨congrArg ret70 h, rfl⟩)))))))))))))))))))))))))
/-- hatchway/hatchwaykit.markInstr -/
def fn42 (p0 : Int) (p1 : Int) : Instr :=
  (bindP (fn70 p0 p1) fun v2 => (⟨0, 0, 0, 0, IntKind.i32.wrap v2⟩ : Instr))
def ret42 (r : Instr) : Value := .agg #[.int .u8 r.fOp, .int .u8 r.fDst, .int .u8 r.fSrc, .int .i16 r.fOff, .int .i32 r.fImm]
theorem c42 (p0 : Int) (p1 : Int) (w : World) (r : Instr)  (h : fn42 p0 p1 = r) : Ret Try.prog 42 [.int .i64 p0, .int .i64 p1] w ⟨[], []⟩ (fun v R => v = ret42 r ∧ R = ⟨[], []⟩) := by
 unfold fn42 at h
 refine Ret.of_body Try.func42 rfl Try.ntmps42 rfl (fun _ hx => absurd hx List.not_mem_nil) List.nodup_nil (TC.seq (TC.region (TO.u rfl rfl (TX.alloc Try.zeroValue27 rfl rfl (fun b1 => (TO.nil (TE.thenN rfl rfl (TC.seq (TC.region (TO.u rfl rfl (TX.move rfl rfl (TO.u rfl rfl (TX.move rfl rfl ?_)))))))))))))
 obtain ⟨v2, hv2, h⟩ := bp h
 exact TO.u rfl rfl (TX.callP Try.call70 rfl (fun a w s => c70 p0 p1 _ _  hv2) rfl (TO.u rfl rfl (TX.conv Try.runUnderlying3 Try.runUnderlying21 rfl rfl (TO.u rfl rfl (TX.build Try.zeroValue27 rfl Try.runUnderlying27 (.cons Try.sizeOf5 (.cons Try.sizeOf5 (.cons Try.sizeOf5 (.cons Try.sizeOf25 (.cons Try.sizeOf21 .nil))))) rfl rfl rfl (TO.u rfl rfl (TX.store (i := 0) Try.sizeOf27 rfl rfl rfl rfl rfl rfl rfl rfl (TO.nil (TE.thenN rfl rfl (TC.ret (TE.fin (R := ⟨[], []⟩) (TL.ret (R' := ⟨[], []⟩) Try.results42 (.cons (.cellN (i := 0) Try.isAgg27 Try.sizeOf27 rfl rfl rfl) .nil) (subD 1 0 rfl rfl) ⟨congrArg ret42 h, rfl⟩))))))))))))
def fn18_l1 : Nat → (List Instr) → Int → Option ((List Instr))
  | 0, _, _ => none
  | n70 + 1, x49, x57 => (bif decide (x57 < 12) then (bindP (fn42 1 x57) fun v74 => (bif decide ((x49.length + ([v74] : List Instr).length) * 12 ≤ 140737488355328 ∧ x49.length + ([v74] : List Instr).length ≤ 9223372036854775807) then ((fn18_l1 n70) (x49 ++ ([v74] : List Instr)) (IntKind.i64.wrap (x57 + 1))) else none)) else (some x49))
theorem fn18_l1_s (n70 : Nat) (x49 : List Instr) (x57 : Int) : fn18_l1 (n70 + 1) x49 x57 = (bif decide (x57 < 12) then (bindP (fn42 1 x57) fun v74 => (bif decide ((x49.length + ([v74] : List Instr).length) * 12 ≤ 140737488355328 ∧ x49.length + ([v74] : List Instr).length ≤ 9223372036854775807) then ((fn18_l1 n70) (x49 ++ ([v74] : List Instr)) (IntKind.i64.wrap (x57 + 1))) else none)) else (some x49)) := rfl
def fn18_k1 (p0 : List Instr) (x59 : List Instr) : Option ((List Instr × Nat)) :=
  (bif sliceOk ((0 : Nat) : Int) (p0.length : Int) x59.length then (some (x59, (p0.length : Int).toNat)) else none)
theorem fn18_k1_s (p0 : List Instr) (x59 : List Instr) : fn18_k1 p0 x59 = (bif sliceOk ((0 : Nat) : Int) (p0.length : Int) x59.length then (some (x59, (p0.length : Int).toNat)) else none) := rfl
/-- hatchway/hatchwaykit.LentProgram -/
def fn18 (F : Nat) (p0 : List Instr) : Option ((List Instr × Nat)) :=
  (bif decide (0 ≤ 0) && decide (0 ≤ IntKind.i64.wrap ((p0.length : Int) + 12)) && decide ((12 : Int) * (IntKind.i64.wrap ((p0.length : Int) + 12)) ≤ 281474976710656) && decide (IntKind.i64.wrap ((p0.length : Int) + 12) ≤ 9223372036854775807) then (bif decide (((List.replicate (0 : Int).toNat (⟨0, 0, 0, 0, 0⟩ : Instr)).length + p0.length) * 12 ≤ 140737488355328 ∧ (List.replicate (0 : Int).toNat (⟨0, 0, 0, 0, 0⟩ : Instr)).length + p0.length ≤ 9223372036854775807) then (Option.bind (fn18_l1 F ((List.replicate (0 : Int).toNat (⟨0, 0, 0, 0, 0⟩ : Instr)) ++ p0) 0) fun o67 => (fn18_k1 p0 o67)) else none) else none)
def post18 (r : (List Instr × Nat)) (v : Value) (R : Hp) : Prop := ∃ sp cap Hs, v = .slice (subP sp Instr.E.sz cap 0) (r.2 - 0) (cap - 0) ∧ r.2 ≤ r.1.length ∧ R = ⟨[], [Hs]⟩ ∧ OwnL Instr.E 27 sp cap r.1 Hs
theorem c18 (F : Nat) (sp_0 : Option Addr) (n_0 cap_0 : Nat) (p0 : List Instr) (w : World) (r : (List Instr × Nat)) (qn0 : p0.length = n_0) (qc0 : p0.length ≤ cap_0) (qp0 : RdF Instr.E w [] sp_0 p0) (h : fn18 F p0 = some r) : Ret Try.prog 18 [.slice sp_0 n_0 cap_0] w ⟨[], []⟩ (post18 r) := by
 unfold fn18 at h
 refine Ret.of_body Try.func18 rfl Try.ntmps18 rfl (fun _ hx => absurd hx List.not_mem_nil) List.nodup_nil (TC.seq (TC.region (TO.u rfl rfl (TX.assign rfl rfl (TO.nil (TE.thenN rfl rfl (TC.seq (TC.region (TO.u rfl rfl (TX.move rfl rfl (TO.u rfl rfl (TX.lenS (xs := p0) Try.runUnderlying24 rfl qn0 rfl (TO.u rfl rfl (TX.ibin rfl rfl rfl rfl ?_))))))))))))))
 obtain ⟨hk1, h⟩ := ck h
 refine TO.u rfl rfl (TX.makeS (N := Instr.E) (z := (⟨0, 0, 0, 0, 0⟩ : Instr)) Try.runUnderlying24 Try.typeInfo27 rfl rfl rfl rfl rfl rfl hk1 rfl (fun sp2 Hs4 ho5 => (TO.u rfl rfl (TX.assign rfl rfl (TO.nil (TE.thenN rfl rfl (TC.seq (TC.region (TO.u rfl rfl (TX.move rfl rfl (TO.u rfl rfl (TX.move rfl rfl ?_))))))))))))
 obtain ⟨hk6, h⟩ := ck h
 refine TO.u rfl rfl (TX.appendS (N := Instr.E) (si := 0) (xs := List.replicate (0 : Int).toNat (⟨0, 0, 0, 0, 0⟩ : Instr)) (ys := p0) Try.runUnderlying24 Try.typeInfo27 rfl rfl rfl rfl rfl List.length_replicate rfl qn0 rfl ho5 (fun a w s => qp0 w s.ext) hk6 rfl (fun sp7 cap8 Hs9 _ S10 ho11 => ?_))
 cases S10
 refine TO.u rfl rfl (TX.assign rfl rfl (TO.nil (TE.thenN rfl rfl (TC.seq (TC.seq (TC.region (TO.u rfl rfl (TX.assign rfl rfl (TO.nil (TE.thenN rfl rfl (TC.block ?_)))))))))))
 obtain ⟨o67, hl68, h⟩ := bd h
 refine TC.to (L' := [(0, .slice sp_0 n_0 cap_0), (3, .slice sp7 (((List.replicate (0 : Int).toNat (⟨0, 0, 0, 0, 0⟩ : Instr)) ++ p0).length) cap8), (4, .int .i64 0)]) (E' := []) (S' := [Hs9]) 0 0 ⟨rfl, rfl, rfl, trivial⟩ rfl rfl (TC.cutE 0 (fun L' H' => ∃ x59 : List Instr, x59 = o67 ∧ ∃ sp60 n61 cap62 Hs64, OwnL Instr.E 27 sp60 cap62 x59 Hs64 ∧ x59.length = n61 ∧ L' = [(0, .slice sp_0 n_0 cap_0), (3, .slice sp60 n61 cap62)] ∧ H' = ⟨[], [Hs64]⟩) ?_ ?_)
 · have h072 := h
   clear h
   refine TC.loop (fun (n : Nat) (s : (List Instr) × Int) => fn18_l1 n s.1 s.2) o67 (fun _ => rfl) (fun (s : (List Instr) × Int) L' H' => match s with | (x49, x57) => ∃ sp50 n51 cap52 Hs54, OwnL Instr.E 27 sp50 cap52 x49 Hs54 ∧ x49.length = n51 ∧ L' = [(0, .slice sp_0 n_0 cap_0), (3, .slice sp50 n51 cap52), (4, .int .i64 x57)] ∧ H' = ⟨[], [Hs54]⟩) ?_ F ((List.replicate (0 : Int).toNat (⟨0, 0, 0, 0, 0⟩ : Instr)) ++ p0, 0) ⟨sp7, (((List.replicate (0 : Int).toNat (⟨0, 0, 0, 0, 0⟩ : Instr)) ++ p0).length), cap8, Hs9, ho11, rfl, rfl, rfl⟩ hl68
   clear hl68
   rintro K69 n70 ⟨x49, x57⟩ _ _ ⟨sp50, n51, cap52, Hs54, ho55, hn53, rfl, rfl⟩ h ih71
   replace h := (fn18_l1_s n70 x49 x57).symm.trans h
   refine TC.seq (TC.seq (TC.region (TO.u rfl rfl (TX.move rfl rfl (TO.u rfl rfl (TX.ibin rfl rfl rfl rfl (TO.nil (TE.thenN rfl rfl (TC.cond rfl (fun hb73 => ?_) (fun hb73 => ?_))))))))))
   · replace h := it h hb73
     refine TC.skip (TE.thenN rfl rfl (TC.seq (TC.block (TC.region (TO.u rfl rfl (TX.move rfl rfl (TO.u rfl rfl (TX.move rfl rfl ?_))))))))
     obtain ⟨v74, hv74, h⟩ := bp h
     refine TO.u rfl rfl (TX.callP Try.call42 rfl (fun a w s => c42 1 x57 _ _  hv74) rfl (TO.u rfl rfl (TX.buildS (N := Instr.E) (ys := ([v74] : List Instr)) Try.runUnderlying24 Try.sizeOf27 Try.zeroValue27 rfl rfl rfl rfl (fillS [.agg #[.int .u8 v74.fOp, .int .u8 v74.fDst, .int .u8 v74.fSrc, .int .i16 v74.fOff, .int .i32 v74.fImm]] rfl rfl rfl rfl) rfl (fun sp75 Hs77 ho78 => ?_))))
     obtain ⟨hk79, h⟩ := ck h
     refine TO.u rfl rfl (TX.appendS (N := Instr.E) (si := 1) (xs := x49) (ys := ([v74] : List Instr)) Try.runUnderlying24 Try.typeInfo27 rfl rfl rfl rfl rfl hn53 rfl rfl rfl ho55 (fun a w s => ho78.rd s (i := 0) rfl) hk79 rfl (fun sp80 cap81 Hs82 _ S83 ho84 => ?_))
     cases S83
     exact TO.u rfl rfl (TX.assign rfl rfl (TO.nil (TE.blockN (TE.thenN rfl rfl (TC.region (TO.u rfl rfl (TX.move rfl rfl (TO.u rfl rfl (TX.ibin rfl rfl rfl rfl (TO.u rfl rfl (TX.assign rfl rfl (TO.nil (TE.to (L' := [(0, .slice sp_0 n_0 cap_0), (3, .slice sp80 ((x49 ++ ([v74] : List Instr)).length) cap81), (4, .int .i64 (IntKind.i64.wrap (x57 + 1)))]) (E' := []) (S' := [Hs82]) 0 1 ⟨rfl, rfl, rfl, trivial⟩ rfl rfl (ih71 (x49 ++ ([v74] : List Instr), IntKind.i64.wrap (x57 + 1)) _ _ ⟨sp80, ((x49 ++ ([v74] : List Instr)).length), cap81, Hs82, ho84, rfl, rfl, rfl⟩ h))))))))))))))
   replace h := ie h hb73
   exact TC.exit (TE.thenX (TE.loopX (TE.to (L' := [(0, .slice sp_0 n_0 cap_0), (3, .slice sp50 n51 cap52)]) (E' := []) (S' := [Hs54]) 0 0 ⟨rfl, rfl, trivial⟩ rfl rfl (TE.cutE ⟨x49, Option.some.inj h, sp50, n51, cap52, Hs54, ho55, hn53, rfl, rfl⟩))))
 rintro _ _ ⟨x59, rfl, sp60, n61, cap62, Hs64, ho65, hn63, rfl, rfl⟩
 replace h := (fn18_k1_s p0 x59).symm.trans h
 refine TE.blockH (TE.thenN rfl rfl (TC.seq (TC.region (TO.u rfl rfl (TX.move rfl rfl (TO.u rfl rfl (TX.move rfl rfl (TO.u rfl rfl (TX.lenS (xs := p0) Try.runUnderlying24 rfl qn0 rfl ?_)))))))))
 obtain ⟨hk86, h⟩ := ck h
 refine TO.u rfl rfl (TX.slice (l := ((0 : Nat) : Int)) (h := (p0.length : Int)) Try.runUnderlying24 Try.sizeOf27 rfl .none (.some rfl) ho65.le_cap hk86 rfl (TO.u rfl rfl (TX.assign rfl rfl (TO.nil (TE.thenN rfl rfl (TC.ret ?_))))))
 have hr := (Option.some.inj h)
 subst hr
 exact TE.fin (R := ⟨[], []⟩) (TL.ret (R' := ⟨[], [Hs64]⟩) Try.results18 (.cons (.tmp rfl) .nil) (segSub (i := 0) rfl) ⟨sp60, cap62, Hs64, rfl, (sliceOk_hi hk86), rfl, ho65⟩)
/-- hatchway/hatchwayref03.Wide -/
def fn71 (p0 : Instr) : Bool :=
  (p0.fOp == 24)
def ret71 (r : Bool) : Value := .bool r
theorem c71 (p0 : Instr) (w : World) (r : Bool)  (h : fn71 p0 = r) : Ret Try.prog 71 [.agg #[.int .u8 p0.fOp, .int .u8 p0.fDst, .int .u8 p0.fSrc, .int .i16 p0.fOff, .int .i32 p0.fImm]] w ⟨[], []⟩ (fun v R => v = ret71 r ∧ R = ⟨[], []⟩) := by
 unfold fn71 at h
 exact Ret.of_body Try.func71 rfl Try.ntmps71 rfl (fun _ hx => absurd hx List.not_mem_nil) List.nodup_nil (TC.seq (TC.region (TO.u rfl rfl (TX.box rfl rfl rfl (fun b1 => (TO.u rfl rfl (TX.assign rfl rfl (TO.nil (TE.thenN rfl rfl (TC.seq (TC.region (TO.u rfl rfl (TX.fieldAddr' Try.runUnderlying27 rfl Try.sizeOf5 rfl rfl rfl (TO.u rfl rfl (TX.load1 (i := 0) Try.isAgg5 rfl rfl rfl rfl (TO.u rfl rfl (TX.ibin rfl rfl rfl rfl (TO.u rfl rfl (TX.assign rfl rfl (TO.nil (TE.thenN rfl rfl (TC.ret (TE.fin (R := ⟨[], []⟩) (TL.ret (R' := ⟨[], []⟩) Try.results71 (.cons (.tmp rfl) .nil) (subD 1 0 rfl rfl) ⟨congrArg ret71 h, rfl⟩))))))))))))))))))))))))
def fn43_l1 (p0 : List Instr) : Nat → (List Bool) → Int → Option ((List Bool))
  | 0, _, _ => none
  | n41 + 1, x28, x32 => (bif decide (x32 < (p0.length : Int)) then (bif inb x32 x28.length then (bif inb x32 p0.length then (bindP (fn71 (gt p0 x32)) fun v50 => (bif v50 then ((fn43_l1 p0 n41) (x28.set x32.toNat true) (IntKind.i64.wrap ((IntKind.i64.wrap (x32 + 1)) + 1))) else ((fn43_l1 p0 n41) (x28.set x32.toNat true) (IntKind.i64.wrap (x32 + 1))))) else none) else none) else (some x28))
theorem fn43_l1_s (p0 : List Instr) (n41 : Nat) (x28 : List Bool) (x32 : Int) : fn43_l1 p0 (n41 + 1) x28 x32 = (bif decide (x32 < (p0.length : Int)) then (bif inb x32 x28.length then (bif inb x32 p0.length then (bindP (fn71 (gt p0 x32)) fun v50 => (bif v50 then ((fn43_l1 p0 n41) (x28.set x32.toNat true) (IntKind.i64.wrap ((IntKind.i64.wrap (x32 + 1)) + 1))) else ((fn43_l1 p0 n41) (x28.set x32.toNat true) (IntKind.i64.wrap (x32 + 1))))) else none) else none) else (some x28)) := rfl
def fn43_k1 (x34 : List Bool) : Option ((List Bool)) :=
  (some x34)
theorem fn43_k1_s (x34 : List Bool) : fn43_k1 x34 = (some x34) := rfl
/-- hatchway/hatchwayref03.Firsts -/
def fn43 (F : Nat) (p0 : List Instr) : Option ((List Bool)) :=
  (bif decide (0 ≤ (p0.length : Int)) && decide ((p0.length : Int) ≤ (p0.length : Int)) && decide ((1 : Int) * (p0.length : Int) ≤ 281474976710656) && decide ((p0.length : Int) ≤ 9223372036854775807) then (Option.bind (fn43_l1 p0 F (List.replicate (p0.length : Int).toNat false) 0) fun o38 => (fn43_k1 o38)) else none)
def post43 (r : (List Bool)) (v : Value) (R : Hp) : Prop := ∃ sp n cap Hs, v = .slice sp n cap ∧ r.length = n ∧ R = ⟨[], [Hs]⟩ ∧ OwnL En.bool 4 sp cap r Hs
theorem c43 (F : Nat) (sp_0 : Option Addr) (n_0 cap_0 : Nat) (p0 : List Instr) (w : World) (r : (List Bool)) (qn0 : p0.length = n_0) (qc0 : p0.length ≤ cap_0) (qp0 : RdF Instr.E w [] sp_0 p0) (h : fn43 F p0 = some r) : Ret Try.prog 43 [.slice sp_0 n_0 cap_0] w ⟨[], []⟩ (post43 r) := by
 unfold fn43 at h
 refine Ret.of_body Try.func43 rfl Try.ntmps43 rfl (fun _ hx => absurd hx List.not_mem_nil) List.nodup_nil (TC.seq (TC.region (TO.u rfl rfl (TX.assign rfl rfl (TO.nil (TE.thenN rfl rfl (TC.seq (TC.region (TO.u rfl rfl (TX.move rfl rfl (TO.u rfl rfl (TX.lenS (xs := p0) Try.runUnderlying24 rfl qn0 rfl ?_))))))))))))
 obtain ⟨hk1, h⟩ := ck h
 refine TO.u rfl rfl (TX.makeS (N := En.bool) (z := false) Try.runUnderlying41 Try.typeInfo4 rfl rfl rfl rfl rfl rfl hk1 rfl (fun sp2 Hs4 ho5 => (TO.u rfl rfl (TX.assign rfl rfl (TO.nil (TE.thenN rfl rfl (TC.seq (TC.seq (TC.region (TO.u rfl rfl (TX.assign rfl rfl (TO.nil (TE.thenN rfl rfl (TC.block ?_))))))))))))))
 obtain ⟨o38, hl39, h⟩ := bd h
 refine TC.to (L' := [(0, .slice sp_0 n_0 cap_0), (3, .slice sp2 ((p0.length : Int).toNat) ((p0.length : Int).toNat)), (4, .int .i64 0)]) (E' := []) (S' := [Hs4]) 0 0 ⟨rfl, rfl, rfl, trivial⟩ rfl rfl (TC.cutE 0 (fun L' H' => ∃ x34 : List Bool, x34 = o38 ∧ ∃ Hs36, OwnL En.bool 4 sp2 ((p0.length : Int).toNat) x34 Hs36 ∧ x34.length = ((p0.length : Int).toNat) ∧ L' = [(3, .slice sp2 ((p0.length : Int).toNat) ((p0.length : Int).toNat))] ∧ H' = ⟨[], [Hs36]⟩) ?_ ?_)
 · have h043 := h
   clear h
   refine TC.loop (fun (n : Nat) (s : (List Bool) × Int) => fn43_l1 p0 n s.1 s.2) o38 (fun _ => rfl) (fun (s : (List Bool) × Int) L' H' => match s with | (x28, x32) => ∃ Hs30, OwnL En.bool 4 sp2 ((p0.length : Int).toNat) x28 Hs30 ∧ x28.length = ((p0.length : Int).toNat) ∧ L' = [(0, .slice sp_0 n_0 cap_0), (3, .slice sp2 ((p0.length : Int).toNat) ((p0.length : Int).toNat)), (4, .int .i64 x32)] ∧ H' = ⟨[], [Hs30]⟩) ?_ F (List.replicate (p0.length : Int).toNat false, 0) ⟨Hs4, ho5, List.length_replicate, rfl, rfl⟩ hl39
   clear hl39
   rintro K40 n41 ⟨x28, x32⟩ _ _ ⟨Hs30, ho31, hn29, rfl, rfl⟩ h ih42
   replace h := (fn43_l1_s p0 n41 x28 x32).symm.trans h
   refine TC.seq (TC.seq (TC.region (TO.u rfl rfl (TX.move rfl rfl (TO.u rfl rfl (TX.move rfl rfl (TO.u rfl rfl (TX.lenS (xs := p0) Try.runUnderlying24 rfl qn0 rfl (TO.u rfl rfl (TX.ibin rfl rfl rfl rfl (TO.nil (TE.thenN rfl rfl (TC.cond rfl (fun hb44 => ?_) (fun hb44 => ?_))))))))))))))
   · replace h := it h hb44
     refine TC.skip (TE.thenN rfl rfl (TC.seq (TC.block (TC.seq (TC.region (TO.u rfl rfl (TX.move rfl rfl (TO.u rfl rfl (TX.move rfl rfl ?_)))))))))
     obtain ⟨hk45, h⟩ := ck h
     refine TO.u rfl rfl (TX.indexR (N := En.bool) Try.runUnderlying41 Try.sizeOf4 rfl hn29 rfl (fun a w s => ho31.rd s (i := 0) rfl) hk45 rfl (TO.u rfl rfl (TX.storeS (N := En.bool) (si := 0) (u := true) Try.sizeOf4 rfl rfl rfl rfl rfl rfl ho31 hk45 rfl (fun Hs46 _ S47 ho48 => ?_))))
     cases S47
     refine TO.nil (TE.thenN rfl rfl (TC.seq (TC.region (TO.u rfl rfl (TX.move rfl rfl (TO.u rfl rfl (TX.move rfl rfl ?_)))))))
     obtain ⟨hk49, h⟩ := ck h
     refine TO.u rfl rfl (TX.indexR (N := Instr.E) Try.runUnderlying24 Try.sizeOf27 rfl qn0 rfl (fun a w s => qp0 w s.ext) hk49 rfl (TO.u rfl rfl (TX.loadRN (N := Instr.E) Try.isAgg27 Try.sizeOf27 rfl (fun a w s => qp0 w s.ext) hk49 rfl rfl ?_)))
     obtain ⟨v50, hv50, h⟩ := bp h
     refine TO.u rfl rfl (TX.callP Try.call71 rfl (fun a w s => c71 (gt p0 x32) _ _  hv50) rfl (TO.nil (TE.thenN rfl rfl (TC.cond rfl (fun hb51 => ?_) (fun hb51 => ?_)))))
     · replace h := it h hb51
       exact TC.region (TO.u rfl rfl (TX.move rfl rfl (TO.u rfl rfl (TX.ibin rfl rfl rfl rfl (TO.u rfl rfl (TX.assign rfl rfl (TO.nil (TE.blockN (TE.thenN rfl rfl (TC.region (TO.u rfl rfl (TX.move rfl rfl (TO.u rfl rfl (TX.ibin rfl rfl rfl rfl (TO.u rfl rfl (TX.assign rfl rfl (TO.nil (TE.to (L' := [(0, .slice sp_0 n_0 cap_0), (3, .slice sp2 ((p0.length : Int).toNat) ((p0.length : Int).toNat)), (4, .int .i64 (IntKind.i64.wrap ((IntKind.i64.wrap (x32 + 1)) + 1)))]) (E' := []) (S' := [Hs46]) 0 0 ⟨rfl, rfl, rfl, trivial⟩ rfl rfl (ih42 (x28.set x32.toNat true, IntKind.i64.wrap ((IntKind.i64.wrap (x32 + 1)) + 1)) _ _ ⟨Hs46, ho48, (List.length_set.trans hn29), rfl, rfl⟩ h)))))))))))))))))))
     replace h := ie h hb51
     exact TC.skip (TE.blockN (TE.thenN rfl rfl (TC.region (TO.u rfl rfl (TX.move rfl rfl (TO.u rfl rfl (TX.ibin rfl rfl rfl rfl (TO.u rfl rfl (TX.assign rfl rfl (TO.nil (TE.to (L' := [(0, .slice sp_0 n_0 cap_0), (3, .slice sp2 ((p0.length : Int).toNat) ((p0.length : Int).toNat)), (4, .int .i64 (IntKind.i64.wrap (x32 + 1)))]) (E' := []) (S' := [Hs46]) 0 0 ⟨rfl, rfl, rfl, trivial⟩ rfl rfl (ih42 (x28.set x32.toNat true, IntKind.i64.wrap (x32 + 1)) _ _ ⟨Hs46, ho48, (List.length_set.trans hn29), rfl, rfl⟩ h))))))))))))
   replace h := ie h hb44
   exact TC.exit (TE.thenX (TE.loopX (TE.to (L' := [(3, .slice sp2 ((p0.length : Int).toNat) ((p0.length : Int).toNat))]) (E' := []) (S' := [Hs30]) 0 0 ⟨rfl, trivial⟩ rfl rfl (TE.cutE ⟨x28, Option.some.inj h, Hs30, ho31, hn29, rfl, rfl⟩))))
 rintro _ _ ⟨x34, rfl, Hs36, ho37, hn35, rfl, rfl⟩
 replace h := (fn43_k1_s x34).symm.trans h
 refine TE.blockH (TE.thenN rfl rfl (TC.seq (TC.region (TO.u rfl rfl (TX.move rfl rfl (TO.u rfl rfl (TX.assign rfl rfl (TO.nil (TE.thenN rfl rfl (TC.ret ?_))))))))))
 have hr := (Option.some.inj h)
 subst hr
 exact TE.fin (R := ⟨[], []⟩) (TL.ret (R' := ⟨[], [Hs36]⟩) Try.results43 (.cons (.tmp rfl) .nil) (segSub (i := 0) rfl) ⟨sp2, ((p0.length : Int).toNat), ((p0.length : Int).toNat), Hs36, rfl, hn35, rfl, ho37⟩)
/-- hatchway/hatchwayref03.Op -/
def fn55 (p0 : Instr) : Int :=
  (iand .u8 p0.fOp 240)
def ret55 (r : Int) : Value := .int .u8 r
theorem c55 (p0 : Instr) (w : World) (r : Int)  (h : fn55 p0 = r) : Ret Try.prog 55 [.agg #[.int .u8 p0.fOp, .int .u8 p0.fDst, .int .u8 p0.fSrc, .int .i16 p0.fOff, .int .i32 p0.fImm]] w ⟨[], []⟩ (fun v R => v = ret55 r ∧ R = ⟨[], []⟩) := by
 unfold fn55 at h
 exact Ret.of_body Try.func55 rfl Try.ntmps55 rfl (fun _ hx => absurd hx List.not_mem_nil) List.nodup_nil (TC.seq (TC.region (TO.u rfl rfl (TX.box rfl rfl rfl (fun b1 => (TO.u rfl rfl (TX.assign rfl rfl (TO.nil (TE.thenN rfl rfl (TC.seq (TC.region (TO.u rfl rfl (TX.fieldAddr' Try.runUnderlying27 rfl Try.sizeOf5 rfl rfl rfl (TO.u rfl rfl (TX.load1 (i := 0) Try.isAgg5 rfl rfl rfl rfl (TO.u rfl rfl (TX.ibin rfl rfl rfl rfl (TO.u rfl rfl (TX.assign rfl rfl (TO.nil (TE.thenN rfl rfl (TC.ret (TE.fin (R := ⟨[], []⟩) (TL.ret (R' := ⟨[], []⟩) Try.results55 (.cons (.tmp rfl) .nil) (subD 1 0 rfl rfl) ⟨congrArg ret55 h, rfl⟩))))))))))))))))))))))))
/-- hatchway/hatchwayref03.Class -/
def fn54 (p0 : Instr) : Int :=
  (iand .u8 p0.fOp 7)
def ret54 (r : Int) : Value := .int .u8 r
theorem c54 (p0 : Instr) (w : World) (r : Int)  (h : fn54 p0 = r) : Ret Try.prog 54 [.agg #[.int .u8 p0.fOp, .int .u8 p0.fDst, .int .u8 p0.fSrc, .int .i16 p0.fOff, .int .i32 p0.fImm]] w ⟨[], []⟩ (fun v R => v = ret54 r ∧ R = ⟨[], []⟩) := by
 unfold fn54 at h
 exact Ret.of_body Try.func54 rfl Try.ntmps54 rfl (fun _ hx => absurd hx List.not_mem_nil) List.nodup_nil (TC.seq (TC.region (TO.u rfl rfl (TX.box rfl rfl rfl (fun b1 => (TO.u rfl rfl (TX.assign rfl rfl (TO.nil (TE.thenN rfl rfl (TC.seq (TC.region (TO.u rfl rfl (TX.fieldAddr' Try.runUnderlying27 rfl Try.sizeOf5 rfl rfl rfl (TO.u rfl rfl (TX.load1 (i := 0) Try.isAgg5 rfl rfl rfl rfl (TO.u rfl rfl (TX.ibin rfl rfl rfl rfl (TO.u rfl rfl (TX.assign rfl rfl (TO.nil (TE.thenN rfl rfl (TC.ret (TE.fin (R := ⟨[], []⟩) (TL.ret (R' := ⟨[], []⟩) Try.results54 (.cons (.tmp rfl) .nil) (subD 1 0 rfl rfl) ⟨congrArg ret54 h, rfl⟩))))))))))))))))))))))))
/-- hatchway/hatchwayref03.memory -/
def fn85 (p0 : Int) (p1 : Bool) : Bool :=
  (((iand .u8 p0 224) == 96) || (p1 && (((iand .u8 p0 224) == 128) && ((iand .u8 p0 24) != 24))))
def ret85 (r : Bool) : Value := .bool r
theorem c85 (p0 : Int) (p1 : Bool) (w : World) (r : Bool)  (h : fn85 p0 p1 = r) : Ret Try.prog 85 [.int .u8 p0, .bool p1] w ⟨[], []⟩ (fun v R => v = ret85 r ∧ R = ⟨[], []⟩) := by
 unfold fn85 at h
 refine Ret.of_body Try.func85 rfl Try.ntmps85 rfl (fun _ hx => absurd hx List.not_mem_nil) List.nodup_nil (TC.seq (TC.region (TO.u rfl rfl (TX.assign rfl rfl (TO.nil (TE.thenN rfl rfl (TC.seq (TC.region (TO.u rfl rfl (TX.move rfl rfl (TO.u rfl rfl (TX.ibin rfl rfl rfl rfl (TO.u rfl rfl (TX.move rfl rfl (TO.u rfl rfl (TX.ibin rfl rfl rfl rfl (TO.u rfl rfl (TX.assign rfl rfl (TO.u rfl rfl (TX.assign rfl rfl (TO.nil (TE.thenN rfl rfl (TC.seq (TC.region (TO.u rfl rfl (TX.move rfl rfl (TO.u rfl rfl (TX.ibin rfl rfl rfl rfl (TO.u rfl rfl (TX.move rfl rfl (TO.cutS 10 [(23, .bool (((iand .u8 p0 224) == 96) || (p1 && (((iand .u8 p0 224) == 128) && ((iand .u8 p0 24) != 24)))))] ?_ ?_)))))))))))))))))))))))))))))))
 · cases hc1 : ((iand .u8 p0 224) == 96)
   · refine TO.g rfl rfl rfl rfl (TX.move rfl rfl (TO.g rfl rfl rfl rfl (TX.move rfl rfl ?_)))
     cases hc2 : (p1)
     · exact TO.s rfl rfl rfl rfl rfl rfl (TO.s rfl rfl rfl rfl rfl rfl (TO.g rfl rfl rfl rfl (TX.pickF rfl rfl rfl (TO.g rfl rfl rfl rfl (TX.move rfl rfl (TO.s rfl rfl rfl rfl rfl rfl (TO.s rfl rfl rfl rfl rfl rfl (TO.g rfl rfl rfl rfl (TX.pickF rfl rfl rfl (TO.u rfl rfl (TX.pickF rfl rfl rfl (TO.nil (TE.cutS 10 rfl rfl ⟨rfl, trivial⟩)))))))))))))
     refine TO.g rfl rfl rfl rfl (TX.move rfl rfl (TO.g rfl rfl rfl rfl (TX.ibin rfl rfl rfl rfl (TO.g rfl rfl rfl rfl (TX.pickT rfl rfl rfl (TO.g rfl rfl rfl rfl (TX.move rfl rfl ?_)))))))
     cases hc3 : ((iand .u8 p0 224) == 128)
     · exact TO.s rfl rfl rfl rfl rfl rfl (TO.s rfl rfl rfl rfl rfl rfl (TO.g rfl rfl rfl rfl (TX.pickF rfl rfl rfl (TO.u rfl rfl (TX.pickF rfl rfl rfl (TO.nil (TE.cutS 10 rfl rfl ⟨rfl, trivial⟩)))))))
     exact TO.g rfl rfl rfl rfl (TX.move rfl rfl (TO.g rfl rfl rfl rfl (TX.ibin rfl rfl rfl rfl (TO.g rfl rfl rfl rfl (TX.pickT rfl rfl rfl (TO.u rfl rfl (TX.pickF rfl rfl rfl (TO.nil (TE.cutS 10 rfl rfl ⟨rfl, trivial⟩)))))))))
   exact TO.s rfl rfl rfl rfl rfl rfl (TO.s rfl rfl rfl rfl rfl rfl (TO.su rfl rfl rfl rfl rfl (TO.su rfl rfl rfl rfl rfl (TO.s rfl rfl rfl rfl rfl rfl (TO.s rfl rfl rfl rfl rfl rfl (TO.su rfl rfl rfl rfl rfl (TO.su rfl rfl rfl rfl rfl (TO.s rfl rfl rfl rfl rfl rfl (TO.u rfl rfl (TX.pickT rfl rfl rfl (TO.nil (TE.cutS 10 rfl rfl ⟨rfl, trivial⟩))))))))))))
 exact TO.u rfl rfl (TX.assign rfl rfl (TO.nil (TE.thenN rfl rfl (TC.ret (TE.fin (R := ⟨[], []⟩) (TL.ret (R' := ⟨[], []⟩) Try.results85 (.cons (.tmp rfl) .nil) (subD 0 0 rfl rfl) ⟨congrArg ret85 h, rfl⟩))))))
/-- hatchway/hatchwayref03.Reg -/
def fn86 (p0 : Instr) : Bool :=
  ((iand .u8 p0.fOp 8) != 0)
def ret86 (r : Bool) : Value := .bool r
theorem c86 (p0 : Instr) (w : World) (r : Bool)  (h : fn86 p0 = r) : Ret Try.prog 86 [.agg #[.int .u8 p0.fOp, .int .u8 p0.fDst, .int .u8 p0.fSrc, .int .i16 p0.fOff, .int .i32 p0.fImm]] w ⟨[], []⟩ (fun v R => v = ret86 r ∧ R = ⟨[], []⟩) := by
 unfold fn86 at h
 exact Ret.of_body Try.func86 rfl Try.ntmps86 rfl (fun _ hx => absurd hx List.not_mem_nil) List.nodup_nil (TC.seq (TC.region (TO.u rfl rfl (TX.box rfl rfl rfl (fun b1 => (TO.u rfl rfl (TX.assign rfl rfl (TO.nil (TE.thenN rfl rfl (TC.seq (TC.region (TO.u rfl rfl (TX.fieldAddr' Try.runUnderlying27 rfl Try.sizeOf5 rfl rfl rfl (TO.u rfl rfl (TX.load1 (i := 0) Try.isAgg5 rfl rfl rfl rfl (TO.u rfl rfl (TX.ibin rfl rfl rfl rfl (TO.u rfl rfl (TX.ibin rfl rfl rfl rfl (TO.u rfl rfl (TX.assign rfl rfl (TO.nil (TE.thenN rfl rfl (TC.ret (TE.fin (R := ⟨[], []⟩) (TL.ret (R' := ⟨[], []⟩) Try.results86 (.cons (.tmp rfl) .nil) (subD 1 0 rfl rfl) ⟨congrArg ret86 h, rfl⟩))))))))))))))))))))))))))
/-- hatchway/hatchwayref03.Condition -/
def fn87 (p0 : Int) : Bool :=
  (((decide ((16 : Int) ≤ p0)) && (decide (p0 ≤ 112))) || ((decide ((160 : Int) ≤ p0)) && (decide (p0 ≤ 208))))
def ret87 (r : Bool) : Value := .bool r
theorem c87 (p0 : Int) (w : World) (r : Bool)  (h : fn87 p0 = r) : Ret Try.prog 87 [.int .u8 p0] w ⟨[], []⟩ (fun v R => v = ret87 r ∧ R = ⟨[], []⟩) := by
 unfold fn87 at h
 refine Ret.of_body Try.func87 rfl Try.ntmps87 rfl (fun _ hx => absurd hx List.not_mem_nil) List.nodup_nil (TC.seq (TC.region (TO.u rfl rfl (TX.assign rfl rfl (TO.nil (TE.thenN rfl rfl (TC.seq (TC.region (TO.u rfl rfl (TX.move rfl rfl (TO.u rfl rfl (TX.ibin rfl rfl rfl rfl (TO.u rfl rfl (TX.move rfl rfl (TO.cutS 3 [(8, .bool ((decide ((16 : Int) ≤ p0)) && (decide (p0 ≤ 112))))] ?_ ?_)))))))))))))))
 · cases hc1 : (decide ((16 : Int) ≤ p0))
   · exact TO.s rfl rfl rfl rfl rfl rfl (TO.s rfl rfl rfl rfl rfl rfl (TO.u rfl rfl (TX.pickF rfl rfl rfl (TO.nil (TE.cutS 3 rfl rfl ⟨rfl, trivial⟩)))))
   exact TO.g rfl rfl rfl rfl (TX.move rfl rfl (TO.g rfl rfl rfl rfl (TX.ibin rfl rfl rfl rfl (TO.u rfl rfl (TX.pickT rfl rfl rfl (TO.nil (TE.cutS 3 rfl rfl ⟨rfl, trivial⟩)))))))
 refine TO.u rfl rfl (TX.move rfl rfl (TO.cutS 7 [(16, .bool (((decide ((16 : Int) ≤ p0)) && (decide (p0 ≤ 112))) || ((decide ((160 : Int) ≤ p0)) && (decide (p0 ≤ 208)))))] ?_ ?_))
 · cases hc2 : ((decide ((16 : Int) ≤ p0)) && (decide (p0 ≤ 112)))
   · refine TO.g rfl rfl rfl rfl (TX.move rfl rfl (TO.g rfl rfl rfl rfl (TX.ibin rfl rfl rfl rfl (TO.g rfl rfl rfl rfl (TX.move rfl rfl ?_)))))
     cases hc3 : (decide ((160 : Int) ≤ p0))
     · exact TO.s rfl rfl rfl rfl rfl rfl (TO.s rfl rfl rfl rfl rfl rfl (TO.g rfl rfl rfl rfl (TX.pickF rfl rfl rfl (TO.u rfl rfl (TX.pickF rfl rfl rfl (TO.nil (TE.cutS 7 rfl rfl ⟨rfl, trivial⟩)))))))
     exact TO.g rfl rfl rfl rfl (TX.move rfl rfl (TO.g rfl rfl rfl rfl (TX.ibin rfl rfl rfl rfl (TO.g rfl rfl rfl rfl (TX.pickT rfl rfl rfl (TO.u rfl rfl (TX.pickF rfl rfl rfl (TO.nil (TE.cutS 7 rfl rfl ⟨rfl, trivial⟩)))))))))
   exact TO.s rfl rfl rfl rfl rfl rfl (TO.s rfl rfl rfl rfl rfl rfl (TO.s rfl rfl rfl rfl rfl rfl (TO.su rfl rfl rfl rfl rfl (TO.su rfl rfl rfl rfl rfl (TO.s rfl rfl rfl rfl rfl rfl (TO.u rfl rfl (TX.pickT rfl rfl rfl (TO.nil (TE.cutS 7 rfl rfl ⟨rfl, trivial⟩)))))))))
 exact TO.u rfl rfl (TX.assign rfl rfl (TO.nil (TE.thenN rfl rfl (TC.ret (TE.fin (R := ⟨[], []⟩) (TL.ret (R' := ⟨[], []⟩) Try.results87 (.cons (.tmp rfl) .nil) (subD 0 0 rfl rfl) ⟨congrArg ret87 h, rfl⟩))))))
/-- hatchway/hatchwayref03.opcode -/
def fn76 (p0 : Instr) : Bool :=
  (bindP (fn55 p0) fun v2 => (bindP (fn54 p0) fun v3 => (bif v3 == 0 then (bindP (fn71 p0) fun v5 => v5) else (bif v3 == 1 then (bindP (fn85 p0.fOp true) fun v7 => v7) else (bif v3 == 2 then (bindP (fn85 p0.fOp false) fun v9 => v9) else (bif v3 == 3 then (bindP (fn85 p0.fOp false) fun v11 => v11) else (bif v3 == 4 then (bif v2 == 128 then (bindP (fn86 p0) fun v14 => (!v14)) else (bif v2 == 208 then (bindP (fn86 p0) fun v16 => (bindP (fn54 p0) fun v17 => ((!v16) || (v17 == 4)))) else (decide (v2 < 208)))) else (bif v3 == 7 then (bif v2 == 128 then (bindP (fn86 p0) fun v21 => (!v21)) else (bif v2 == 208 then (bindP (fn86 p0) fun v23 => (bindP (fn54 p0) fun v24 => ((!v23) || (v24 == 4)))) else (decide (v2 < 208)))) else (bif v3 == 5 then (bindP (fn87 v2) fun v27 => (bindP (fn86 p0) fun v28 => (v27 || (bif v2 == 0 then !v28 else bif v2 == 128 then !v28 else (v2 == 144) && (!v28))))) else (bindP (fn87 v2) fun v33 => (bindP (fn86 p0) fun v34 => (v33 || ((v2 == 0) && (!v34))))))))))))))
def ret76 (r : Bool) : Value := .bool r
set_option maxHeartbeats 8000000 in
theorem c76 (p0 : Instr) (w : World) (r : Bool)  (h : fn76 p0 = r) : Ret Try.prog 76 [.agg #[.int .u8 p0.fOp, .int .u8 p0.fDst, .int .u8 p0.fSrc, .int .i16 p0.fOff, .int .i32 p0.fImm]] w ⟨[], []⟩ (fun v R => v = ret76 r ∧ R = ⟨[], []⟩) := by
 unfold fn76 at h
 refine Ret.of_body Try.func76 rfl Try.ntmps76 rfl (fun _ hx => absurd hx List.not_mem_nil) List.nodup_nil (TC.seq (TC.region (TO.u rfl rfl (TX.box rfl rfl rfl (fun b1 => (TO.u rfl rfl (TX.assign rfl rfl (TO.nil (TE.thenN rfl rfl (TC.seq (TC.region (TO.u rfl rfl (TX.loadN (i := 0) Try.isAgg27 Try.sizeOf27 rfl rfl rfl rfl ?_)))))))))))))
 obtain ⟨v2, hv2, h⟩ := bp h
 refine TO.u rfl rfl (TX.callP Try.call55 rfl (fun a w s => c55 p0 _ _  hv2) rfl (TO.u rfl rfl (TX.assign rfl rfl (TO.nil (TE.thenN rfl rfl (TC.seq (TC.seq (TC.region (TO.u rfl rfl (TX.loadN (i := 0) Try.isAgg27 Try.sizeOf27 rfl rfl rfl rfl ?_))))))))))
 obtain ⟨v3, hv3, h⟩ := bp h
 refine TO.u rfl rfl (TX.callP Try.call54 rfl (fun a w s => c54 p0 _ _  hv3) rfl (TO.nil (TE.thenN rfl rfl (TC.block (TC.seq (TC.region (TO.u rfl rfl (TX.ibin rfl rfl rfl rfl (TO.u rfl rfl (TX.assign rfl rfl (TO.nil (TE.thenN rfl rfl (TC.cond rfl (fun hb4 => ?_) (fun hb4 => ?_))))))))))))))
 · replace h := it h hb4
   refine TC.seq (TC.region (TO.u rfl rfl (TX.loadN (i := 0) Try.isAgg27 Try.sizeOf27 rfl rfl rfl rfl ?_)))
   obtain ⟨v5, hv5, h⟩ := bp h
   exact TO.u rfl rfl (TX.callP Try.call71 rfl (fun a w s => c71 p0 _ _  hv5) rfl (TO.u rfl rfl (TX.assign rfl rfl (TO.nil (TE.thenN rfl rfl (TC.ret (TE.blockR (TE.thenR (TE.fin (R := ⟨[], []⟩) (TL.ret (R' := ⟨[], []⟩) Try.results76 (.cons (.tmp rfl) .nil) (subD 1 0 rfl rfl) ⟨congrArg ret76 h, rfl⟩))))))))))
 replace h := ie h hb4
 refine TC.seq (TC.region (TO.u rfl rfl (TX.ibin rfl rfl rfl rfl (TO.u rfl rfl (TX.assign rfl rfl (TO.nil (TE.thenN rfl rfl (TC.cond rfl (fun hb6 => ?_) (fun hb6 => ?_)))))))))
 · replace h := it h hb6
   refine TC.seq (TC.region (TO.u rfl rfl (TX.fieldAddr' Try.runUnderlying27 rfl Try.sizeOf5 rfl rfl rfl (TO.u rfl rfl (TX.load1 (i := 0) Try.isAgg5 rfl rfl rfl rfl ?_)))))
   obtain ⟨v7, hv7, h⟩ := bp h
   exact TO.u rfl rfl (TX.callP Try.call85 rfl (fun a w s => c85 p0.fOp true _ _  hv7) rfl (TO.u rfl rfl (TX.assign rfl rfl (TO.nil (TE.thenN rfl rfl (TC.ret (TE.blockR (TE.thenR (TE.fin (R := ⟨[], []⟩) (TL.ret (R' := ⟨[], []⟩) Try.results76 (.cons (.tmp rfl) .nil) (subD 1 0 rfl rfl) ⟨congrArg ret76 h, rfl⟩))))))))))
 replace h := ie h hb6
 refine TC.seq (TC.seq (TC.region (TO.u rfl rfl (TX.ibin rfl rfl rfl rfl (TO.u rfl rfl (TX.assign rfl rfl (TO.nil (TE.thenN rfl rfl (TC.cond rfl (fun hb8 => ?_) (fun hb8 => ?_))))))))))
 · replace h := it h hb8
   refine TC.skip (TE.thenN rfl rfl (TC.condT' rfl hb8 (TC.seq (TC.region (TO.u rfl rfl (TX.fieldAddr' Try.runUnderlying27 rfl Try.sizeOf5 rfl rfl rfl (TO.u rfl rfl (TX.load1 (i := 0) Try.isAgg5 rfl rfl rfl rfl ?_))))))))
   obtain ⟨v9, hv9, h⟩ := bp h
   exact TO.u rfl rfl (TX.callP Try.call85 rfl (fun a w s => c85 p0.fOp false _ _  hv9) rfl (TO.u rfl rfl (TX.assign rfl rfl (TO.nil (TE.thenN rfl rfl (TC.ret (TE.blockR (TE.thenR (TE.fin (R := ⟨[], []⟩) (TL.ret (R' := ⟨[], []⟩) Try.results76 (.cons (.tmp rfl) .nil) (subD 1 0 rfl rfl) ⟨congrArg ret76 h, rfl⟩))))))))))
 replace h := ie h hb8
 refine TC.region (TO.u rfl rfl (TX.ibin rfl rfl rfl rfl (TO.u rfl rfl (TX.assign rfl rfl (TO.nil (TE.thenN rfl rfl (TC.cond rfl (fun hb10 => ?_) (fun hb10 => ?_))))))))
 · replace h := it h hb10
   refine TC.seq (TC.region (TO.u rfl rfl (TX.fieldAddr' Try.runUnderlying27 rfl Try.sizeOf5 rfl rfl rfl (TO.u rfl rfl (TX.load1 (i := 0) Try.isAgg5 rfl rfl rfl rfl ?_)))))
   obtain ⟨v11, hv11, h⟩ := bp h
   exact TO.u rfl rfl (TX.callP Try.call85 rfl (fun a w s => c85 p0.fOp false _ _  hv11) rfl (TO.u rfl rfl (TX.assign rfl rfl (TO.nil (TE.thenN rfl rfl (TC.ret (TE.blockR (TE.thenR (TE.fin (R := ⟨[], []⟩) (TL.ret (R' := ⟨[], []⟩) Try.results76 (.cons (.tmp rfl) .nil) (subD 1 0 rfl rfl) ⟨congrArg ret76 h, rfl⟩))))))))))
 replace h := ie h hb10
 refine TC.seq (TC.seq (TC.region (TO.u rfl rfl (TX.ibin rfl rfl rfl rfl (TO.u rfl rfl (TX.assign rfl rfl (TO.nil (TE.thenN rfl rfl (TC.cond rfl (fun hb12 => ?_) (fun hb12 => ?_))))))))))
 · replace h := it h hb12
   refine TC.skip (TE.thenN rfl rfl (TC.condT' rfl hb12 (TC.seq (TC.seq (TC.region (TO.u rfl rfl (TX.move rfl rfl (TO.nil (TE.thenN rfl rfl (TC.block (TC.seq (TC.region (TO.u rfl rfl (TX.ibin rfl rfl rfl rfl (TO.u rfl rfl (TX.assign rfl rfl (TO.nil (TE.thenN rfl rfl (TC.cond rfl (fun hb13 => ?_) (fun hb13 => ?_))))))))))))))))))))
   · replace h := it h hb13
     refine TC.seq (TC.region (TO.u rfl rfl (TX.loadN (i := 0) Try.isAgg27 Try.sizeOf27 rfl rfl rfl rfl ?_)))
     obtain ⟨v14, hv14, h⟩ := bp h
     exact TO.u rfl rfl (TX.callP Try.call86 rfl (fun a w s => c86 p0 _ _  hv14) rfl (TO.u rfl rfl (TX.not rfl rfl (TO.u rfl rfl (TX.assign rfl rfl (TO.nil (TE.thenN rfl rfl (TC.ret (TE.blockR (TE.thenR (TE.blockR (TE.thenR (TE.fin (R := ⟨[], []⟩) (TL.ret (R' := ⟨[], []⟩) Try.results76 (.cons (.tmp rfl) .nil) (subD 1 0 rfl rfl) ⟨congrArg ret76 h, rfl⟩))))))))))))))
   replace h := ie h hb13
   refine TC.seq (TC.region (TO.u rfl rfl (TX.ibin rfl rfl rfl rfl (TO.u rfl rfl (TX.assign rfl rfl (TO.nil (TE.thenN rfl rfl (TC.cond rfl (fun hb15 => ?_) (fun hb15 => ?_)))))))))
   · replace h := it h hb15
     refine TC.seq (TC.region (TO.u rfl rfl (TX.loadN (i := 0) Try.isAgg27 Try.sizeOf27 rfl rfl rfl rfl ?_)))
     obtain ⟨v16, hv16, h⟩ := bp h
     refine TO.u rfl rfl (TX.callP Try.call86 rfl (fun a w s => c86 p0 _ _  hv16) rfl (TO.u rfl rfl (TX.not rfl rfl (TO.u rfl rfl (TX.move rfl rfl ?_)))))
     obtain ⟨v17, hv17, h⟩ := bp h
     refine TO.cutS 4 [(41, .bool ((!v16) || (v17 == 4)))] ?_ ?_
     · cases hc18 : (!v16)
       · exact TO.g rfl rfl rfl rfl (TX.loadN (i := 0) Try.isAgg27 Try.sizeOf27 rfl rfl rfl rfl (TO.g rfl rfl rfl rfl (TX.callP Try.call54 rfl (fun a w s => c54 p0 _ _  hv17) rfl (TO.g rfl rfl rfl rfl (TX.ibin rfl rfl rfl rfl (TO.u rfl rfl (TX.pickF rfl rfl rfl (TO.nil (TE.cutS 4 rfl rfl ⟨rfl, trivial⟩)))))))))
       exact TO.s rfl rfl rfl rfl rfl rfl (TO.s rfl rfl rfl rfl rfl rfl (TO.s rfl rfl rfl rfl rfl rfl (TO.u rfl rfl (TX.pickT rfl rfl rfl (TO.nil (TE.cutS 4 rfl rfl ⟨rfl, trivial⟩))))))
     exact TO.u rfl rfl (TX.assign rfl rfl (TO.nil (TE.thenN rfl rfl (TC.ret (TE.blockR (TE.thenR (TE.blockR (TE.thenR (TE.fin (R := ⟨[], []⟩) (TL.ret (R' := ⟨[], []⟩) Try.results76 (.cons (.tmp rfl) .nil) (subD 1 0 rfl rfl) ⟨congrArg ret76 h, rfl⟩))))))))))
   replace h := ie h hb15
   exact TC.skip (TE.blockN (TE.thenN rfl rfl (TC.seq (TC.region (TO.u rfl rfl (TX.move rfl rfl (TO.u rfl rfl (TX.ibin rfl rfl rfl rfl (TO.u rfl rfl (TX.assign rfl rfl (TO.nil (TE.thenN rfl rfl (TC.ret (TE.blockR (TE.thenR (TE.fin (R := ⟨[], []⟩) (TL.ret (R' := ⟨[], []⟩) Try.results76 (.cons (.tmp rfl) .nil) (subD 1 0 rfl rfl) ⟨congrArg ret76 h, rfl⟩)))))))))))))))))
 replace h := ie h hb12
 refine TC.region (TO.u rfl rfl (TX.ibin rfl rfl rfl rfl (TO.u rfl rfl (TX.assign rfl rfl (TO.nil (TE.thenN rfl rfl (TC.cond rfl (fun hb19 => ?_) (fun hb19 => ?_))))))))
 · replace h := it h hb19
   refine TC.seq (TC.seq (TC.region (TO.u rfl rfl (TX.move rfl rfl (TO.nil (TE.thenN rfl rfl (TC.block (TC.seq (TC.region (TO.u rfl rfl (TX.ibin rfl rfl rfl rfl (TO.u rfl rfl (TX.assign rfl rfl (TO.nil (TE.thenN rfl rfl (TC.cond rfl (fun hb20 => ?_) (fun hb20 => ?_)))))))))))))))))
   · replace h := it h hb20
     refine TC.seq (TC.region (TO.u rfl rfl (TX.loadN (i := 0) Try.isAgg27 Try.sizeOf27 rfl rfl rfl rfl ?_)))
     obtain ⟨v21, hv21, h⟩ := bp h
     exact TO.u rfl rfl (TX.callP Try.call86 rfl (fun a w s => c86 p0 _ _  hv21) rfl (TO.u rfl rfl (TX.not rfl rfl (TO.u rfl rfl (TX.assign rfl rfl (TO.nil (TE.thenN rfl rfl (TC.ret (TE.blockR (TE.thenR (TE.blockR (TE.thenR (TE.fin (R := ⟨[], []⟩) (TL.ret (R' := ⟨[], []⟩) Try.results76 (.cons (.tmp rfl) .nil) (subD 1 0 rfl rfl) ⟨congrArg ret76 h, rfl⟩))))))))))))))
   replace h := ie h hb20
   refine TC.seq (TC.region (TO.u rfl rfl (TX.ibin rfl rfl rfl rfl (TO.u rfl rfl (TX.assign rfl rfl (TO.nil (TE.thenN rfl rfl (TC.cond rfl (fun hb22 => ?_) (fun hb22 => ?_)))))))))
   · replace h := it h hb22
     refine TC.seq (TC.region (TO.u rfl rfl (TX.loadN (i := 0) Try.isAgg27 Try.sizeOf27 rfl rfl rfl rfl ?_)))
     obtain ⟨v23, hv23, h⟩ := bp h
     refine TO.u rfl rfl (TX.callP Try.call86 rfl (fun a w s => c86 p0 _ _  hv23) rfl (TO.u rfl rfl (TX.not rfl rfl (TO.u rfl rfl (TX.move rfl rfl ?_)))))
     obtain ⟨v24, hv24, h⟩ := bp h
     refine TO.cutS 4 [(41, .bool ((!v23) || (v24 == 4)))] ?_ ?_
     · cases hc25 : (!v23)
       · exact TO.g rfl rfl rfl rfl (TX.loadN (i := 0) Try.isAgg27 Try.sizeOf27 rfl rfl rfl rfl (TO.g rfl rfl rfl rfl (TX.callP Try.call54 rfl (fun a w s => c54 p0 _ _  hv24) rfl (TO.g rfl rfl rfl rfl (TX.ibin rfl rfl rfl rfl (TO.u rfl rfl (TX.pickF rfl rfl rfl (TO.nil (TE.cutS 4 rfl rfl ⟨rfl, trivial⟩)))))))))
       exact TO.s rfl rfl rfl rfl rfl rfl (TO.s rfl rfl rfl rfl rfl rfl (TO.s rfl rfl rfl rfl rfl rfl (TO.u rfl rfl (TX.pickT rfl rfl rfl (TO.nil (TE.cutS 4 rfl rfl ⟨rfl, trivial⟩))))))
     exact TO.u rfl rfl (TX.assign rfl rfl (TO.nil (TE.thenN rfl rfl (TC.ret (TE.blockR (TE.thenR (TE.blockR (TE.thenR (TE.fin (R := ⟨[], []⟩) (TL.ret (R' := ⟨[], []⟩) Try.results76 (.cons (.tmp rfl) .nil) (subD 1 0 rfl rfl) ⟨congrArg ret76 h, rfl⟩))))))))))
   replace h := ie h hb22
   exact TC.skip (TE.blockN (TE.thenN rfl rfl (TC.seq (TC.region (TO.u rfl rfl (TX.move rfl rfl (TO.u rfl rfl (TX.ibin rfl rfl rfl rfl (TO.u rfl rfl (TX.assign rfl rfl (TO.nil (TE.thenN rfl rfl (TC.ret (TE.blockR (TE.thenR (TE.fin (R := ⟨[], []⟩) (TL.ret (R' := ⟨[], []⟩) Try.results76 (.cons (.tmp rfl) .nil) (subD 1 0 rfl rfl) ⟨congrArg ret76 h, rfl⟩)))))))))))))))))
 replace h := ie h hb19
 refine TC.seq (TC.region (TO.u rfl rfl (TX.ibin rfl rfl rfl rfl (TO.u rfl rfl (TX.assign rfl rfl (TO.nil (TE.thenN rfl rfl (TC.cond rfl (fun hb26 => ?_) (fun hb26 => ?_)))))))))
 · replace h := it h hb26
   refine TC.seq (TC.region (TO.u rfl rfl (TX.move rfl rfl ?_)))
   obtain ⟨v27, hv27, h⟩ := bp h
   refine TO.u rfl rfl (TX.callP Try.call87 rfl (fun a w s => c87 v2 _ _  hv27) rfl (TO.u rfl rfl (TX.move rfl rfl ?_)))
   obtain ⟨v28, hv28, h⟩ := bp h
   refine TO.cutS 16 [(64, .bool (v27 || (bif v2 == 0 then !v28 else bif v2 == 128 then !v28 else (v2 == 144) && (!v28))))] ?_ ?_
   · cases hc29 : (v27)
     · refine TO.g rfl rfl rfl rfl (TX.move rfl rfl (TO.g rfl rfl rfl rfl (TX.ibin rfl rfl rfl rfl (TO.g rfl rfl rfl rfl (TX.move rfl rfl ?_)))))
       cases hc30 : (v2 == 0)
       · refine TO.g rfl rfl rfl rfl (TX.move rfl rfl (TO.g rfl rfl rfl rfl (TX.ibin rfl rfl rfl rfl (TO.g rfl rfl rfl rfl (TX.pickF rfl rfl rfl (TO.g rfl rfl rfl rfl (TX.move rfl rfl ?_)))))))
         cases hc31 : (v2 == 128)
         · refine TO.g rfl rfl rfl rfl (TX.move rfl rfl (TO.g rfl rfl rfl rfl (TX.ibin rfl rfl rfl rfl (TO.g rfl rfl rfl rfl (TX.pickF rfl rfl rfl (TO.g rfl rfl rfl rfl (TX.move rfl rfl ?_)))))))
           cases hc32 : (v2 == 144)
           · exact TO.s rfl rfl rfl rfl rfl rfl (TO.s rfl rfl rfl rfl rfl rfl (TO.s rfl rfl rfl rfl rfl rfl (TO.g rfl rfl rfl rfl (TX.pickF rfl rfl rfl (TO.u rfl rfl (TX.pickF rfl rfl rfl (TO.nil (TE.cutS 16 rfl rfl ⟨rfl, trivial⟩))))))))
           exact TO.g rfl rfl rfl rfl (TX.loadN (i := 0) Try.isAgg27 Try.sizeOf27 rfl rfl rfl rfl (TO.g rfl rfl rfl rfl (TX.callP Try.call86 rfl (fun a w s => c86 p0 _ _  hv28) rfl (TO.g rfl rfl rfl rfl (TX.not rfl rfl (TO.g rfl rfl rfl rfl (TX.pickT rfl rfl rfl (TO.u rfl rfl (TX.pickF rfl rfl rfl (TO.nil (TE.cutS 16 rfl rfl ⟨rfl, trivial⟩)))))))))))
         exact TO.s rfl rfl rfl rfl rfl rfl (TO.s rfl rfl rfl rfl rfl rfl (TO.g rfl rfl rfl rfl (TX.pickT rfl rfl rfl (TO.g rfl rfl rfl rfl (TX.move rfl rfl (TO.g rfl rfl rfl rfl (TX.loadN (i := 0) Try.isAgg27 Try.sizeOf27 rfl rfl rfl rfl (TO.g rfl rfl rfl rfl (TX.callP Try.call86 rfl (fun a w s => c86 p0 _ _  hv28) rfl (TO.g rfl rfl rfl rfl (TX.not rfl rfl (TO.g rfl rfl rfl rfl (TX.pickT rfl rfl rfl (TO.u rfl rfl (TX.pickF rfl rfl rfl (TO.nil (TE.cutS 16 rfl rfl ⟨rfl, trivial⟩)))))))))))))))))
       exact TO.s rfl rfl rfl rfl rfl rfl (TO.s rfl rfl rfl rfl rfl rfl (TO.g rfl rfl rfl rfl (TX.pickT rfl rfl rfl (TO.g rfl rfl rfl rfl (TX.move rfl rfl (TO.s rfl rfl rfl rfl rfl rfl (TO.s rfl rfl rfl rfl rfl rfl (TO.g rfl rfl rfl rfl (TX.pickT rfl rfl rfl (TO.g rfl rfl rfl rfl (TX.move rfl rfl (TO.g rfl rfl rfl rfl (TX.loadN (i := 0) Try.isAgg27 Try.sizeOf27 rfl rfl rfl rfl (TO.g rfl rfl rfl rfl (TX.callP Try.call86 rfl (fun a w s => c86 p0 _ _  hv28) rfl (TO.g rfl rfl rfl rfl (TX.not rfl rfl (TO.g rfl rfl rfl rfl (TX.pickT rfl rfl rfl (TO.u rfl rfl (TX.pickF rfl rfl rfl (TO.nil (TE.cutS 16 rfl rfl ⟨rfl, trivial⟩)))))))))))))))))))))))
     exact TO.s rfl rfl rfl rfl rfl rfl (TO.s rfl rfl rfl rfl rfl rfl (TO.s rfl rfl rfl rfl rfl rfl (TO.su rfl rfl rfl rfl rfl (TO.su rfl rfl rfl rfl rfl (TO.s rfl rfl rfl rfl rfl rfl (TO.s rfl rfl rfl rfl rfl rfl (TO.su rfl rfl rfl rfl rfl (TO.su rfl rfl rfl rfl rfl (TO.s rfl rfl rfl rfl rfl rfl (TO.s rfl rfl rfl rfl rfl rfl (TO.su rfl rfl rfl rfl rfl (TO.su rfl rfl rfl rfl rfl (TO.su rfl rfl rfl rfl rfl (TO.s rfl rfl rfl rfl rfl rfl (TO.u rfl rfl (TX.pickT rfl rfl rfl (TO.nil (TE.cutS 16 rfl rfl ⟨rfl, trivial⟩))))))))))))))))))
   exact TO.u rfl rfl (TX.assign rfl rfl (TO.nil (TE.thenN rfl rfl (TC.ret (TE.blockR (TE.thenR (TE.fin (R := ⟨[], []⟩) (TL.ret (R' := ⟨[], []⟩) Try.results76 (.cons (.tmp rfl) .nil) (subD 1 0 rfl rfl) ⟨congrArg ret76 h, rfl⟩))))))))
 replace h := ie h hb26
 refine TC.skip (TE.blockN (TE.thenN rfl rfl (TC.seq (TC.region (TO.u rfl rfl (TX.move rfl rfl ?_))))))
 obtain ⟨v33, hv33, h⟩ := bp h
 refine TO.u rfl rfl (TX.callP Try.call87 rfl (fun a w s => c87 v2 _ _  hv33) rfl (TO.u rfl rfl (TX.move rfl rfl ?_)))
 obtain ⟨v34, hv34, h⟩ := bp h
 refine TO.cutS 8 [(75, .bool (v33 || ((v2 == 0) && (!v34))))] ?_ ?_
 · cases hc35 : (v33)
   · refine TO.g rfl rfl rfl rfl (TX.move rfl rfl (TO.g rfl rfl rfl rfl (TX.ibin rfl rfl rfl rfl (TO.g rfl rfl rfl rfl (TX.move rfl rfl ?_)))))
     cases hc36 : (v2 == 0)
     · exact TO.s rfl rfl rfl rfl rfl rfl (TO.s rfl rfl rfl rfl rfl rfl (TO.s rfl rfl rfl rfl rfl rfl (TO.g rfl rfl rfl rfl (TX.pickF rfl rfl rfl (TO.u rfl rfl (TX.pickF rfl rfl rfl (TO.nil (TE.cutS 8 rfl rfl ⟨rfl, trivial⟩))))))))
     exact TO.g rfl rfl rfl rfl (TX.loadN (i := 0) Try.isAgg27 Try.sizeOf27 rfl rfl rfl rfl (TO.g rfl rfl rfl rfl (TX.callP Try.call86 rfl (fun a w s => c86 p0 _ _  hv34) rfl (TO.g rfl rfl rfl rfl (TX.not rfl rfl (TO.g rfl rfl rfl rfl (TX.pickT rfl rfl rfl (TO.u rfl rfl (TX.pickF rfl rfl rfl (TO.nil (TE.cutS 8 rfl rfl ⟨rfl, trivial⟩)))))))))))
   exact TO.s rfl rfl rfl rfl rfl rfl (TO.s rfl rfl rfl rfl rfl rfl (TO.s rfl rfl rfl rfl rfl rfl (TO.su rfl rfl rfl rfl rfl (TO.su rfl rfl rfl rfl rfl (TO.su rfl rfl rfl rfl rfl (TO.s rfl rfl rfl rfl rfl rfl (TO.u rfl rfl (TX.pickT rfl rfl rfl (TO.nil (TE.cutS 8 rfl rfl ⟨rfl, trivial⟩))))))))))
 exact TO.u rfl rfl (TX.assign rfl rfl (TO.nil (TE.thenN rfl rfl (TC.ret (TE.fin (R := ⟨[], []⟩) (TL.ret (R' := ⟨[], []⟩) Try.results76 (.cons (.tmp rfl) .nil) (subD 1 0 rfl rfl) ⟨congrArg ret76 h, rfl⟩))))))
/-- hatchway/hatchwayref03.Writes -/
def fn77 (p0 : Instr) : Bool :=
  (bindP (fn54 p0) fun v2 => ((((v2 == 0) || (v2 == 1)) || (v2 == 4)) || (v2 == 7)))
def ret77 (r : Bool) : Value := .bool r
theorem c77 (p0 : Instr) (w : World) (r : Bool)  (h : fn77 p0 = r) : Ret Try.prog 77 [.agg #[.int .u8 p0.fOp, .int .u8 p0.fDst, .int .u8 p0.fSrc, .int .i16 p0.fOff, .int .i32 p0.fImm]] w ⟨[], []⟩ (fun v R => v = ret77 r ∧ R = ⟨[], []⟩) := by
 unfold fn77 at h
 refine Ret.of_body Try.func77 rfl Try.ntmps77 rfl (fun _ hx => absurd hx List.not_mem_nil) List.nodup_nil (TC.seq (TC.region (TO.u rfl rfl (TX.box rfl rfl rfl (fun b1 => (TO.u rfl rfl (TX.assign rfl rfl (TO.nil (TE.thenN rfl rfl (TC.seq (TC.region (TO.u rfl rfl (TX.loadN (i := 0) Try.isAgg27 Try.sizeOf27 rfl rfl rfl rfl ?_)))))))))))))
 obtain ⟨v2, hv2, h⟩ := bp h
 refine TO.u rfl rfl (TX.callP Try.call54 rfl (fun a w s => c54 p0 _ _  hv2) rfl (TO.u rfl rfl (TX.assign rfl rfl (TO.nil (TE.thenN rfl rfl (TC.seq (TC.region (TO.u rfl rfl (TX.move rfl rfl (TO.u rfl rfl (TX.ibin rfl rfl rfl rfl (TO.u rfl rfl (TX.move rfl rfl (TO.cutS 3 [(11, .bool ((v2 == 0) || (v2 == 1)))] ?_ ?_))))))))))))))
 · cases hc3 : (v2 == 0)
   · exact TO.g rfl rfl rfl rfl (TX.move rfl rfl (TO.g rfl rfl rfl rfl (TX.ibin rfl rfl rfl rfl (TO.u rfl rfl (TX.pickF rfl rfl rfl (TO.nil (TE.cutS 3 rfl rfl ⟨rfl, trivial⟩)))))))
   exact TO.s rfl rfl rfl rfl rfl rfl (TO.s rfl rfl rfl rfl rfl rfl (TO.u rfl rfl (TX.pickT rfl rfl rfl (TO.nil (TE.cutS 3 rfl rfl ⟨rfl, trivial⟩)))))
 refine TO.u rfl rfl (TX.move rfl rfl (TO.cutS 3 [(15, .bool (((v2 == 0) || (v2 == 1)) || (v2 == 4)))] ?_ ?_))
 · cases hc4 : ((v2 == 0) || (v2 == 1))
   · exact TO.g rfl rfl rfl rfl (TX.move rfl rfl (TO.g rfl rfl rfl rfl (TX.ibin rfl rfl rfl rfl (TO.u rfl rfl (TX.pickF rfl rfl rfl (TO.nil (TE.cutS 3 rfl rfl ⟨rfl, trivial⟩)))))))
   exact TO.s rfl rfl rfl rfl rfl rfl (TO.s rfl rfl rfl rfl rfl rfl (TO.u rfl rfl (TX.pickT rfl rfl rfl (TO.nil (TE.cutS 3 rfl rfl ⟨rfl, trivial⟩)))))
 refine TO.u rfl rfl (TX.move rfl rfl (TO.cutS 3 [(19, .bool ((((v2 == 0) || (v2 == 1)) || (v2 == 4)) || (v2 == 7)))] ?_ ?_))
 · cases hc5 : (((v2 == 0) || (v2 == 1)) || (v2 == 4))
   · exact TO.g rfl rfl rfl rfl (TX.move rfl rfl (TO.g rfl rfl rfl rfl (TX.ibin rfl rfl rfl rfl (TO.u rfl rfl (TX.pickF rfl rfl rfl (TO.nil (TE.cutS 3 rfl rfl ⟨rfl, trivial⟩)))))))
   exact TO.s rfl rfl rfl rfl rfl rfl (TO.s rfl rfl rfl rfl rfl rfl (TO.u rfl rfl (TX.pickT rfl rfl rfl (TO.nil (TE.cutS 3 rfl rfl ⟨rfl, trivial⟩)))))
 exact TO.u rfl rfl (TX.assign rfl rfl (TO.nil (TE.thenN rfl rfl (TC.ret (TE.fin (R := ⟨[], []⟩) (TL.ret (R' := ⟨[], []⟩) Try.results77 (.cons (.tmp rfl) .nil) (subD 1 0 rfl rfl) ⟨congrArg ret77 h, rfl⟩))))))
end Go.Proofs.Ytbpldfhehpjbaaa
