/- Each Go function of this part computes the plain function beside it (walks, written by program). -/
import Derived.Test.YtbpldfhehpjbaaaProg
import Derived.Test.YtbpldfhehpjbaaaHwLaw
import Derived.KernelRfl
namespace Go.Proofs.Ytbpldfhehpjbaaa
open Go Go.HW Go.MapKept
set_option maxRecDepth 4000
set_option linter.unusedVariables false
theorem hmix : Try.prog.follows .mixedOrders = true := by kernel_rfl
structure Instr where
  fOp : Int
  fDst : Int
  fSrc : Int
  fOff : Int
  fImm : Int
  deriving DecidableEq, Inhabited
def Instr.enc (x : Instr) : List Value := [.int .u8 x.fOp, .int .u8 x.fDst, .int .u8 x.fSrc, .int .i16 x.fOff, .int .i32 x.fImm]
def Instr.E : En Instr := ⟨Instr.enc, 5, fun _ => rfl, fun _ => rfl, by decide⟩
structure Slot where
  fInstr : Instr
  fclass : Int
  fop : Int
  freg : Bool
  deriving DecidableEq, Inhabited
def Slot.enc (x : Slot) : List Value := [.int .u8 x.fInstr.fOp, .int .u8 x.fInstr.fDst, .int .u8 x.fInstr.fSrc, .int .i16 x.fInstr.fOff, .int .i32 x.fInstr.fImm, .int .u8 x.fclass, .int .u8 x.fop, .bool x.freg]
def Slot.E : En Slot := ⟨Slot.enc, 8, fun _ => rfl, fun _ => rfl, by decide⟩
/-- hatchway/shape.of -/
def fn60 (p0 : Instr) : Slot :=
  (⟨p0, iand .u8 p0.fOp 7, iand .u8 p0.fOp 240, (iand .u8 p0.fOp 8) != 0⟩ : Slot)
def ret60 (r : Slot) : Value := .agg #[.int .u8 r.fInstr.fOp, .int .u8 r.fInstr.fDst, .int .u8 r.fInstr.fSrc, .int .i16 r.fInstr.fOff, .int .i32 r.fInstr.fImm, .int .u8 r.fclass, .int .u8 r.fop, .bool r.freg]
theorem c60 (p0 : Instr) (w : World) (r : Slot)  (h : fn60 p0 = r) : Ret Try.prog 60 [.agg #[.int .u8 p0.fOp, .int .u8 p0.fDst, .int .u8 p0.fSrc, .int .i16 p0.fOff, .int .i32 p0.fImm]] w ⟨[], []⟩ (fun v R => v = ret60 r ∧ R = ⟨[], []⟩) := by
 unfold fn60 at h
 exact Ret.of_body Try.func60 rfl Try.ntmps60 rfl (fun _ hx => absurd hx List.not_mem_nil) List.nodup_nil (TC.seq (TC.region (TO.u rfl rfl (TX.box rfl rfl rfl (fun b1 => (TO.u rfl rfl (TX.alloc Try.zeroValue58 rfl rfl (fun b2 => (TO.nil (TE.thenN rfl rfl (TC.seq (TC.region (TO.u rfl rfl (TX.loadN (i := 1) Try.isAgg27 Try.sizeOf27 rfl rfl rfl rfl (TO.u rfl rfl (TX.fieldAddr' Try.runUnderlying27 rfl Try.sizeOf5 rfl rfl rfl (TO.u rfl rfl (TX.load1 (i := 1) Try.isAgg5 rfl rfl rfl rfl (TO.u rfl rfl (TX.ibin rfl rfl rfl rfl (TO.u rfl rfl (TX.fieldAddr' Try.runUnderlying27 rfl Try.sizeOf5 rfl rfl rfl (TO.u rfl rfl (TX.load1 (i := 1) Try.isAgg5 rfl rfl rfl rfl (TO.u rfl rfl (TX.ibin rfl rfl rfl rfl (TO.u rfl rfl (TX.fieldAddr' Try.runUnderlying27 rfl Try.sizeOf5 rfl rfl rfl (TO.u rfl rfl (TX.load1 (i := 1) Try.isAgg5 rfl rfl rfl rfl (TO.u rfl rfl (TX.ibin rfl rfl rfl rfl (TO.u rfl rfl (TX.ibin rfl rfl rfl rfl (TO.u rfl rfl (TX.build Try.zeroValue58 rfl Try.runUnderlying58 (.cons Try.sizeOf27 (.cons Try.sizeOf5 (.cons Try.sizeOf5 (.cons Try.sizeOf4 .nil)))) rfl rfl rfl (TO.u rfl rfl (TX.store (i := 0) Try.sizeOf58 rfl rfl rfl rfl rfl rfl rfl rfl (TO.nil (TE.thenN rfl rfl (TC.ret (TE.fin (R := ⟨[], []⟩) (TL.ret (R' := ⟨[], []⟩) Try.results60 (.cons (.cellN (i := 0) Try.isAgg58 Try.sizeOf58 rfl rfl rfl) .nil) (subD 2 0 rfl rfl) ⟨congrArg ret60 h, rfl⟩)))))))))))))))))))))))))))))))))))))))))))
def fn59_l1 {σ : Type} (step : σ → (Int × Slot) → Option σ) (go : σ → Bool) (q0 : List Instr) : Nat → σ → Int → Option ((σ) ⊕ (σ))
  | 0, _, _ => none
  | n35 + 1, x24, x27 => (bif decide (x27 < (q0.length : Int)) then (bif inb x27 q0.length then (bindP (fn60 (gt q0 x27)) fun v40 => (Option.bind (step x24 (x27, v40)) fun u42 => (bif !(go u42) then (some (.inr u42)) else (bif v40.fInstr.fOp == 24 then ((fn59_l1 step go q0 n35) u42 (IntKind.i64.wrap ((IntKind.i64.wrap (x27 + 1)) + 1))) else ((fn59_l1 step go q0 n35) u42 (IntKind.i64.wrap (x27 + 1))))))) else none) else (some (.inl x24)))
theorem fn59_l1_s {σ : Type} (step : σ → (Int × Slot) → Option σ) (go : σ → Bool) (q0 : List Instr) (n35 : Nat) (x24 : σ) (x27 : Int) : fn59_l1 step go q0 (n35 + 1) x24 x27 = (bif decide (x27 < (q0.length : Int)) then (bif inb x27 q0.length then (bindP (fn60 (gt q0 x27)) fun v40 => (Option.bind (step x24 (x27, v40)) fun u42 => (bif !(go u42) then (some (.inr u42)) else (bif v40.fInstr.fOp == 24 then ((fn59_l1 step go q0 n35) u42 (IntKind.i64.wrap ((IntKind.i64.wrap (x27 + 1)) + 1))) else ((fn59_l1 step go q0 n35) u42 (IntKind.i64.wrap (x27 + 1))))))) else none) else (some (.inl x24))) := rfl
def fn59_k1 {σ : Type} (x29 : σ) : Option (σ) :=
  (some x29)
theorem fn59_k1_s {σ : Type} (x29 : σ) : fn59_k1 x29 = (some x29) := rfl
/-- hatchway/shape.firsts$1 -/
def fn59 {σ : Type} (F : Nat) (step : σ → (Int × Slot) → Option σ) (go : σ → Bool) (q0 : List Instr) (s0 : σ) : Option (σ) :=
  (Option.bind (fn59_l1 step go q0 F s0 0) fun o32 => (match o32 with | .inl u => fn59_k1 u | .inr u => some u))
theorem c59 {σ : Type} (F : Nat) (step : σ → (Int × Slot) → Option σ) (go : σ → Bool) (I : σ → Blocks → Prop) (yv : Value) (s0 : σ) (Hs0 : Blocks) (b_q0 : Nat) (sp_q0 : Option Addr) (n_q0 cap_q0 : Nat) (q0 : List Instr) (w : World) (r : σ) (qnq0 : q0.length = n_q0) (qcq0 : q0.length ≤ cap_q0) (qpq0 : RdF Instr.E w ((⟨[(b_q0, .cells #[.slice sp_q0 n_q0 cap_q0] 24)], [Hs0]⟩ : Hp).all.map (·.1)) sp_q0 q0) (hat : HpOk w ⟨[(b_q0, .cells #[.slice sp_q0 n_q0 cap_q0] 24)], [Hs0]⟩) (hy : Yld Try.prog w ((⟨[(b_q0, .cells #[.slice sp_q0 n_q0 cap_q0] 24)], [Hs0]⟩ : Hp).all.map (·.1)) yv I (fun x => [.int .i64 x.1, .agg #[.int .u8 x.2.fInstr.fOp, .int .u8 x.2.fInstr.fDst, .int .u8 x.2.fInstr.fSrc, .int .i16 x.2.fInstr.fOff, .int .i32 x.2.fInstr.fImm, .int .u8 x.2.fclass, .int .u8 x.2.fop, .bool x.2.freg]]) step go) (hI : I s0 Hs0) (h : fn59 F step go q0 s0 = some r) : Ret Try.prog 59 [yv, .pointer (some ⟨b_q0, 0, none⟩)] w ⟨[(b_q0, .cells #[.slice sp_q0 n_q0 cap_q0] 24)], [Hs0]⟩ (fun v R => ∃ Hs1, I r Hs1 ∧ R = ⟨[(b_q0, .cells #[.slice sp_q0 n_q0 cap_q0] 24)], [Hs1]⟩) := by
 unfold fn59 at h
 refine Ret.of_body Try.func59 rfl Try.ntmps59 rfl hat.1 hat.2 (TC.seq (TC.region (TO.u rfl rfl (TX.assign rfl rfl (TO.nil (TE.thenN rfl rfl (TC.block ?_)))))))
 obtain ⟨o32, hl33, h⟩ := bd h
 refine TC.to (L' := [(0, yv), (1, .pointer (some ⟨b_q0, 0, none⟩)), (3, .int .i64 0)]) (E' := [(b_q0, .cells #[.slice sp_q0 n_q0 cap_q0] 24)]) (S' := [Hs0]) 0 0 ⟨rfl, rfl, rfl, trivial⟩ rfl rfl (TC.cutE 0 (fun L' H' => ∃ x29 : σ, .inl x29 = o32 ∧ ∃ Hs30, I x29 Hs30 ∧ L' = [] ∧ H' = ⟨[(b_q0, .cells #[.slice sp_q0 n_q0 cap_q0] 24)], [Hs30]⟩) ?_ ?_)
 · have h037 := h
   clear h
   refine TC.loop (fun (n : Nat) (s : σ × Int) => fn59_l1 step go q0 n s.1 s.2) o32 (fun _ => rfl) (fun (s : σ × Int) L' H' => match s with | (x24, x27) => ∃ Hs25, I x24 Hs25 ∧ L' = [(0, yv), (1, .pointer (some ⟨b_q0, 0, none⟩)), (3, .int .i64 x27)] ∧ H' = ⟨[(b_q0, .cells #[.slice sp_q0 n_q0 cap_q0] 24)], [Hs25]⟩) ?_ F (s0, 0) ⟨Hs0, hI, rfl, rfl⟩ hl33
   clear hl33
   rintro K34 n35 ⟨x24, x27⟩ _ _ ⟨Hs25, ho26, rfl, rfl⟩ h ih36
   replace h := (fn59_l1_s step go q0 n35 x24 x27).symm.trans h
   refine TC.seq (TC.seq (TC.region (TO.u rfl rfl (TX.move rfl rfl (TO.u rfl rfl (TX.load1 (i := 0) Try.isAgg24 rfl rfl rfl rfl (TO.u rfl rfl (TX.lenS (xs := q0) Try.runUnderlying24 rfl qnq0 rfl (TO.u rfl rfl (TX.ibin rfl rfl rfl rfl (TO.nil (TE.thenN rfl rfl (TC.cond rfl (fun hb38 => ?_) (fun hb38 => ?_))))))))))))))
   · replace h := it h hb38
     refine TC.skip (TE.thenN rfl rfl (TC.seq (TC.block (TC.seq (TC.region (TO.u rfl rfl (TX.load1 (i := 0) Try.isAgg24 rfl rfl rfl rfl (TO.u rfl rfl (TX.move rfl rfl ?_)))))))))
     obtain ⟨hk39, h⟩ := ck h
     refine TO.u rfl rfl (TX.indexR (N := Instr.E) Try.runUnderlying24 Try.sizeOf27 rfl qnq0 rfl (fun a w s => qpq0 w s.ext) hk39 rfl (TO.u rfl rfl (TX.loadRN (N := Instr.E) Try.isAgg27 Try.sizeOf27 rfl (fun a w s => qpq0 w s.ext) hk39 rfl rfl ?_)))
     obtain ⟨v40, hv40, h⟩ := bp h
     refine TO.u rfl rfl (TX.callP Try.call60 rfl (fun a w s => c60 (gt q0 x27) _ _  hv40) rfl (TO.u rfl rfl (TX.alloc Try.zeroValue58 rfl rfl (fun b41 => (TO.u rfl rfl (TX.store (i := 0) Try.sizeOf58 rfl rfl rfl rfl rfl rfl rfl rfl (TO.nil (TE.thenN rfl rfl (TC.seq (TC.seq (TC.region (TO.u rfl rfl (TX.move rfl rfl (TO.u rfl rfl (TX.move rfl rfl (TO.u rfl rfl (TX.loadN (i := 0) Try.isAgg58 Try.sizeOf58 rfl rfl rfl rfl ?_)))))))))))))))))
     obtain ⟨u42, hu42, h⟩ := bd h
     refine TO.u rfl rfl (TX.yield (x := (x27, v40)) 0 hy rfl rfl rfl rfl hu42 ho26 rfl (fun Hs43 hI44 => (TO.reH ⟨[(b41, .cells #[.int .u8 v40.fInstr.fOp, .int .u8 v40.fInstr.fDst, .int .u8 v40.fInstr.fSrc, .int .i16 v40.fInstr.fOff, .int .i32 v40.fInstr.fImm, .int .u8 v40.fclass, .int .u8 v40.fop, .bool v40.freg] 58), (b_q0, .cells #[.slice sp_q0 n_q0 cap_q0] 24)], [Hs43]⟩ rfl (TO.u rfl rfl (TX.not rfl rfl (TO.nil (TE.thenN rfl rfl (TC.cond rfl (fun hb45 => ?_) (fun hb45 => ?_)))))))))
     · replace h := it h hb45
       refine TC.ret (TE.thenR (TE.blockR (TE.thenR (TE.loopR (TE.cutR ?_)))))
       have ho := Option.some.inj h
       subst ho
       replace h := h037
       refine TE.blockR ?_
       have hr := (Option.some.inj h)
       subst hr
       exact TE.fin (R := ⟨[(b_q0, .cells #[.slice sp_q0 n_q0 cap_q0] 24)], [Hs0]⟩) (TL.ret (R' := ⟨[(b_q0, .cells #[.slice sp_q0 n_q0 cap_q0] 24)], [Hs43]⟩) Try.results59 .nil (subD 1 0 rfl rfl) ⟨Hs43, hI44, rfl⟩)
     replace h := ie h hb45
     refine TC.skip (TE.thenN rfl rfl (TC.seq (TC.region (TO.u rfl rfl (TX.fieldAddr' Try.runUnderlying58 rfl Try.sizeOf27 rfl rfl rfl (TO.u rfl rfl (TX.fieldAddr' Try.runUnderlying27 rfl Try.sizeOf5 rfl rfl rfl (TO.u rfl rfl (TX.load1 (i := 0) Try.isAgg5 rfl rfl rfl rfl (TO.u rfl rfl (TX.ibin rfl rfl rfl rfl (TO.nil (TE.thenN rfl rfl (TC.cond rfl (fun hb46 => ?_) (fun hb46 => ?_)))))))))))))))
     · replace h := it h hb46
       exact TC.region (TO.u rfl rfl (TX.move rfl rfl (TO.u rfl rfl (TX.ibin rfl rfl rfl rfl (TO.u rfl rfl (TX.assign rfl rfl (TO.nil (TE.blockN (TE.thenN rfl rfl (TC.region (TO.u rfl rfl (TX.move rfl rfl (TO.u rfl rfl (TX.ibin rfl rfl rfl rfl (TO.u rfl rfl (TX.assign rfl rfl (TO.nil (TE.to (L' := [(0, yv), (1, .pointer (some ⟨b_q0, 0, none⟩)), (3, .int .i64 (IntKind.i64.wrap ((IntKind.i64.wrap (x27 + 1)) + 1)))]) (E' := [(b_q0, .cells #[.slice sp_q0 n_q0 cap_q0] 24)]) (S' := [Hs43]) 1 0 ⟨rfl, rfl, rfl, trivial⟩ rfl rfl (ih36 (u42, IntKind.i64.wrap ((IntKind.i64.wrap (x27 + 1)) + 1)) _ _ ⟨Hs43, hI44, rfl, rfl⟩ h)))))))))))))))))))
     replace h := ie h hb46
     exact TC.skip (TE.blockN (TE.thenN rfl rfl (TC.region (TO.u rfl rfl (TX.move rfl rfl (TO.u rfl rfl (TX.ibin rfl rfl rfl rfl (TO.u rfl rfl (TX.assign rfl rfl (TO.nil (TE.to (L' := [(0, yv), (1, .pointer (some ⟨b_q0, 0, none⟩)), (3, .int .i64 (IntKind.i64.wrap (x27 + 1)))]) (E' := [(b_q0, .cells #[.slice sp_q0 n_q0 cap_q0] 24)]) (S' := [Hs43]) 1 0 ⟨rfl, rfl, rfl, trivial⟩ rfl rfl (ih36 (u42, IntKind.i64.wrap (x27 + 1)) _ _ ⟨Hs43, hI44, rfl, rfl⟩ h))))))))))))
   replace h := ie h hb38
   exact TC.exit (TE.thenX (TE.loopX (TE.to (L' := []) (E' := [(b_q0, .cells #[.slice sp_q0 n_q0 cap_q0] 24)]) (S' := [Hs25]) 0 0 trivial rfl rfl (TE.cutE ⟨x24, Option.some.inj h, Hs25, ho26, rfl, rfl⟩))))
 rintro _ _ ⟨x29, rfl, Hs30, ho31, rfl, rfl⟩
 replace h := (fn59_k1_s x29).symm.trans h
 refine TE.blockH ?_
 have hr := (Option.some.inj h)
 subst hr
 exact TE.finN (R := ⟨[(b_q0, .cells #[.slice sp_q0 n_q0 cap_q0] 24)], [Hs0]⟩) (TL.ret (R' := ⟨[(b_q0, .cells #[.slice sp_q0 n_q0 cap_q0] 24)], [Hs30]⟩) Try.results59 .nil (subD 0 0 rfl rfl) ⟨Hs30, ho31, rfl⟩)
/-- hatchway/shape.firsts -/
theorem c34 (sp_0 : Option Addr) (n_0 cap_0 : Nat) (p0 : List Instr) (w : World) : Ret Try.prog 34 [.slice sp_0 n_0 cap_0] w ⟨[], []⟩ (fun v R => ∃ c_0 : Nat, v = .func (.func 59) #[] #[.pointer (some ⟨c_0, 0, none⟩)] ∧ R = ⟨[(c_0, .cells #[.slice sp_0 n_0 cap_0] 24)], []⟩) := by
 exact Ret.of_body Try.func34 rfl Try.ntmps34 rfl (fun _ hx => absurd hx List.not_mem_nil) List.nodup_nil (TC.seq (TC.region (TO.u rfl rfl (TX.box rfl rfl rfl (fun b1 => (TO.u rfl rfl (TX.assign rfl rfl (TO.nil (TE.thenN rfl rfl (TC.seq (TC.region (TO.u rfl rfl (TX.mkfunc rfl rfl rfl (TO.u rfl rfl (TX.assign rfl rfl (TO.nil (TE.thenN rfl rfl (TC.ret (TE.fin (R := ⟨[], []⟩) (TL.ret (R' := ⟨[(b1, .cells #[.slice sp_0 n_0 cap_0] 24)], []⟩) Try.results34 (.cons (.tmp rfl) .nil) (List.Sublist.refl _) ⟨b1, rfl, rfl⟩))))))))))))))))))))
/-- (hatchway/shape.slot).memory -/
def fn61 (p0 : Slot) (p1 : Bool) : Bool :=
  (((iand .u8 p0.fInstr.fOp 224) == 96) || (p1 && (((iand .u8 p0.fInstr.fOp 224) == 128) && ((iand .u8 p0.fInstr.fOp 24) != 24))))
def ret61 (r : Bool) : Value := .bool r
theorem c61 (p0 : Slot) (p1 : Bool) (w : World) (r : Bool)  (h : fn61 p0 p1 = r) : Ret Try.prog 61 [.agg #[.int .u8 p0.fInstr.fOp, .int .u8 p0.fInstr.fDst, .int .u8 p0.fInstr.fSrc, .int .i16 p0.fInstr.fOff, .int .i32 p0.fInstr.fImm, .int .u8 p0.fclass, .int .u8 p0.fop, .bool p0.freg], .bool p1] w ⟨[], []⟩ (fun v R => v = ret61 r ∧ R = ⟨[], []⟩) := by
 unfold fn61 at h
 refine Ret.of_body Try.func61 rfl Try.ntmps61 rfl (fun _ hx => absurd hx List.not_mem_nil) List.nodup_nil (TC.seq (TC.region (TO.u rfl rfl (TX.box rfl rfl rfl (fun b1 => (TO.u rfl rfl (TX.assign rfl rfl (TO.nil (TE.thenN rfl rfl (TC.seq (TC.region (TO.u rfl rfl (TX.fieldAddr' Try.runUnderlying58 rfl Try.sizeOf27 rfl rfl rfl (TO.u rfl rfl (TX.fieldAddr' Try.runUnderlying27 rfl Try.sizeOf5 rfl rfl rfl (TO.u rfl rfl (TX.load1 (i := 0) Try.isAgg5 rfl rfl rfl rfl (TO.u rfl rfl (TX.ibin rfl rfl rfl rfl (TO.u rfl rfl (TX.assign rfl rfl (TO.nil (TE.thenN rfl rfl (TC.seq (TC.region (TO.u rfl rfl (TX.move rfl rfl (TO.u rfl rfl (TX.ibin rfl rfl rfl rfl (TO.u rfl rfl (TX.move rfl rfl (TO.cutS 13 [(25, .bool (((iand .u8 p0.fInstr.fOp 224) == 96) || (p1 && (((iand .u8 p0.fInstr.fOp 224) == 128) && ((iand .u8 p0.fInstr.fOp 24) != 24)))))] ?_ ?_))))))))))))))))))))))))))))))))
 · cases hc2 : ((iand .u8 p0.fInstr.fOp 224) == 96)
   · refine TO.g rfl rfl rfl rfl (TX.move rfl rfl (TO.g rfl rfl rfl rfl (TX.move rfl rfl ?_)))
     cases hc3 : (p1)
     · exact TO.s rfl rfl rfl rfl rfl rfl (TO.s rfl rfl rfl rfl rfl rfl (TO.g rfl rfl rfl rfl (TX.pickF rfl rfl rfl (TO.g rfl rfl rfl rfl (TX.move rfl rfl (TO.s rfl rfl rfl rfl rfl rfl (TO.s rfl rfl rfl rfl rfl rfl (TO.s rfl rfl rfl rfl rfl rfl (TO.s rfl rfl rfl rfl rfl rfl (TO.s rfl rfl rfl rfl rfl rfl (TO.g rfl rfl rfl rfl (TX.pickF rfl rfl rfl (TO.u rfl rfl (TX.pickF rfl rfl rfl (TO.nil (TE.cutS 13 rfl rfl ⟨rfl, trivial⟩))))))))))))))))
     refine TO.g rfl rfl rfl rfl (TX.move rfl rfl (TO.g rfl rfl rfl rfl (TX.ibin rfl rfl rfl rfl (TO.g rfl rfl rfl rfl (TX.pickT rfl rfl rfl (TO.g rfl rfl rfl rfl (TX.move rfl rfl ?_)))))))
     cases hc4 : ((iand .u8 p0.fInstr.fOp 224) == 128)
     · exact TO.s rfl rfl rfl rfl rfl rfl (TO.s rfl rfl rfl rfl rfl rfl (TO.s rfl rfl rfl rfl rfl rfl (TO.s rfl rfl rfl rfl rfl rfl (TO.s rfl rfl rfl rfl rfl rfl (TO.g rfl rfl rfl rfl (TX.pickF rfl rfl rfl (TO.u rfl rfl (TX.pickF rfl rfl rfl (TO.nil (TE.cutS 13 rfl rfl ⟨rfl, trivial⟩))))))))))
     exact TO.g rfl rfl rfl rfl (TX.fieldAddr' Try.runUnderlying58 rfl Try.sizeOf27 rfl rfl rfl (TO.g rfl rfl rfl rfl (TX.fieldAddr' Try.runUnderlying27 rfl Try.sizeOf5 rfl rfl rfl (TO.g rfl rfl rfl rfl (TX.load1 (i := 0) Try.isAgg5 rfl rfl rfl rfl (TO.g rfl rfl rfl rfl (TX.ibin rfl rfl rfl rfl (TO.g rfl rfl rfl rfl (TX.ibin rfl rfl rfl rfl (TO.g rfl rfl rfl rfl (TX.pickT rfl rfl rfl (TO.u rfl rfl (TX.pickF rfl rfl rfl (TO.nil (TE.cutS 13 rfl rfl ⟨rfl, trivial⟩)))))))))))))))
   exact TO.s rfl rfl rfl rfl rfl rfl (TO.s rfl rfl rfl rfl rfl rfl (TO.su rfl rfl rfl rfl rfl (TO.su rfl rfl rfl rfl rfl (TO.s rfl rfl rfl rfl rfl rfl (TO.s rfl rfl rfl rfl rfl rfl (TO.su rfl rfl rfl rfl rfl (TO.su rfl rfl rfl rfl rfl (TO.su rfl rfl rfl rfl rfl (TO.su rfl rfl rfl rfl rfl (TO.su rfl rfl rfl rfl rfl (TO.s rfl rfl rfl rfl rfl rfl (TO.u rfl rfl (TX.pickT rfl rfl rfl (TO.nil (TE.cutS 13 rfl rfl ⟨rfl, trivial⟩)))))))))))))))
 exact TO.u rfl rfl (TX.assign rfl rfl (TO.nil (TE.thenN rfl rfl (TC.ret (TE.fin (R := ⟨[], []⟩) (TL.ret (R' := ⟨[], []⟩) Try.results61 (.cons (.tmp rfl) .nil) (subD 1 0 rfl rfl) ⟨congrArg ret61 h, rfl⟩))))))
/-- (hatchway/shape.slot).condition -/
def fn62 (p0 : Slot) : Bool :=
  (((decide ((16 : Int) ≤ p0.fop)) && (decide (p0.fop ≤ 112))) || ((decide ((160 : Int) ≤ p0.fop)) && (decide (p0.fop ≤ 208))))
def ret62 (r : Bool) : Value := .bool r
theorem c62 (p0 : Slot) (w : World) (r : Bool)  (h : fn62 p0 = r) : Ret Try.prog 62 [.agg #[.int .u8 p0.fInstr.fOp, .int .u8 p0.fInstr.fDst, .int .u8 p0.fInstr.fSrc, .int .i16 p0.fInstr.fOff, .int .i32 p0.fInstr.fImm, .int .u8 p0.fclass, .int .u8 p0.fop, .bool p0.freg]] w ⟨[], []⟩ (fun v R => v = ret62 r ∧ R = ⟨[], []⟩) := by
 unfold fn62 at h
 refine Ret.of_body Try.func62 rfl Try.ntmps62 rfl (fun _ hx => absurd hx List.not_mem_nil) List.nodup_nil (TC.seq (TC.region (TO.u rfl rfl (TX.box rfl rfl rfl (fun b1 => (TO.u rfl rfl (TX.assign rfl rfl (TO.nil (TE.thenN rfl rfl (TC.seq (TC.region (TO.u rfl rfl (TX.fieldAddr' Try.runUnderlying58 rfl Try.sizeOf5 rfl rfl rfl (TO.u rfl rfl (TX.load1 (i := 0) Try.isAgg5 rfl rfl rfl rfl (TO.u rfl rfl (TX.ibin rfl rfl rfl rfl (TO.u rfl rfl (TX.move rfl rfl (TO.cutS 4 [(10, .bool ((decide ((16 : Int) ≤ p0.fop)) && (decide (p0.fop ≤ 112))))] ?_ ?_))))))))))))))))))))
 · cases hc2 : (decide ((16 : Int) ≤ p0.fop))
   · exact TO.s rfl rfl rfl rfl rfl rfl (TO.s rfl rfl rfl rfl rfl rfl (TO.s rfl rfl rfl rfl rfl rfl (TO.u rfl rfl (TX.pickF rfl rfl rfl (TO.nil (TE.cutS 4 rfl rfl ⟨rfl, trivial⟩))))))
   exact TO.g rfl rfl rfl rfl (TX.fieldAddr' Try.runUnderlying58 rfl Try.sizeOf5 rfl rfl rfl (TO.g rfl rfl rfl rfl (TX.load1 (i := 0) Try.isAgg5 rfl rfl rfl rfl (TO.g rfl rfl rfl rfl (TX.ibin rfl rfl rfl rfl (TO.u rfl rfl (TX.pickT rfl rfl rfl (TO.nil (TE.cutS 4 rfl rfl ⟨rfl, trivial⟩)))))))))
 refine TO.u rfl rfl (TX.move rfl rfl (TO.cutS 9 [(20, .bool (((decide ((16 : Int) ≤ p0.fop)) && (decide (p0.fop ≤ 112))) || ((decide ((160 : Int) ≤ p0.fop)) && (decide (p0.fop ≤ 208)))))] ?_ ?_))
 · cases hc3 : ((decide ((16 : Int) ≤ p0.fop)) && (decide (p0.fop ≤ 112)))
   · refine TO.g rfl rfl rfl rfl (TX.fieldAddr' Try.runUnderlying58 rfl Try.sizeOf5 rfl rfl rfl (TO.g rfl rfl rfl rfl (TX.load1 (i := 0) Try.isAgg5 rfl rfl rfl rfl (TO.g rfl rfl rfl rfl (TX.ibin rfl rfl rfl rfl (TO.g rfl rfl rfl rfl (TX.move rfl rfl ?_)))))))
     cases hc4 : (decide ((160 : Int) ≤ p0.fop))
     · exact TO.s rfl rfl rfl rfl rfl rfl (TO.s rfl rfl rfl rfl rfl rfl (TO.s rfl rfl rfl rfl rfl rfl (TO.g rfl rfl rfl rfl (TX.pickF rfl rfl rfl (TO.u rfl rfl (TX.pickF rfl rfl rfl (TO.nil (TE.cutS 9 rfl rfl ⟨rfl, trivial⟩))))))))
     exact TO.g rfl rfl rfl rfl (TX.fieldAddr' Try.runUnderlying58 rfl Try.sizeOf5 rfl rfl rfl (TO.g rfl rfl rfl rfl (TX.load1 (i := 0) Try.isAgg5 rfl rfl rfl rfl (TO.g rfl rfl rfl rfl (TX.ibin rfl rfl rfl rfl (TO.g rfl rfl rfl rfl (TX.pickT rfl rfl rfl (TO.u rfl rfl (TX.pickF rfl rfl rfl (TO.nil (TE.cutS 9 rfl rfl ⟨rfl, trivial⟩)))))))))))
   exact TO.s rfl rfl rfl rfl rfl rfl (TO.s rfl rfl rfl rfl rfl rfl (TO.s rfl rfl rfl rfl rfl rfl (TO.s rfl rfl rfl rfl rfl rfl (TO.su rfl rfl rfl rfl rfl (TO.su rfl rfl rfl rfl rfl (TO.su rfl rfl rfl rfl rfl (TO.s rfl rfl rfl rfl rfl rfl (TO.u rfl rfl (TX.pickT rfl rfl rfl (TO.nil (TE.cutS 9 rfl rfl ⟨rfl, trivial⟩)))))))))))
 exact TO.u rfl rfl (TX.assign rfl rfl (TO.nil (TE.thenN rfl rfl (TC.ret (TE.fin (R := ⟨[], []⟩) (TL.ret (R' := ⟨[], []⟩) Try.results62 (.cons (.tmp rfl) .nil) (subD 1 0 rfl rfl) ⟨congrArg ret62 h, rfl⟩))))))
/-- (hatchway/shape.slot).known -/
def fn35 (p0 : Slot) : Bool :=
  (bif p0.fclass == 0 then (p0.fInstr.fOp == 24) else (bif p0.fclass == 1 then (bindP (fn61 p0 true) fun v8 => v8) else (bif p0.fclass == 2 then (bindP (fn61 p0 false) fun v10 => v10) else (bif p0.fclass == 3 then (bindP (fn61 p0 false) fun v12 => v12) else (bif p0.fclass == 5 then (bindP (fn62 p0) fun v14 => (v14 || ((!p0.freg) && ((p0.fop == 0) || ((p0.fclass == 5) && ((p0.fop == 128) || (p0.fop == 144))))))) else (bif p0.fclass == 6 then (bindP (fn62 p0) fun v17 => (v17 || ((!p0.freg) && ((p0.fop == 0) || ((p0.fclass == 5) && ((p0.fop == 128) || (p0.fop == 144))))))) else (bif p0.fop == 128 then (!p0.freg) else (bif p0.fop == 208 then ((!p0.freg) || (p0.fclass == 4)) else (decide (p0.fop < 208))))))))))
def ret35 (r : Bool) : Value := .bool r
theorem c35 (p0 : Slot) (w : World) (r : Bool)  (h : fn35 p0 = r) : Ret Try.prog 35 [.agg #[.int .u8 p0.fInstr.fOp, .int .u8 p0.fInstr.fDst, .int .u8 p0.fInstr.fSrc, .int .i16 p0.fInstr.fOff, .int .i32 p0.fInstr.fImm, .int .u8 p0.fclass, .int .u8 p0.fop, .bool p0.freg]] w ⟨[], []⟩ (fun v R => v = ret35 r ∧ R = ⟨[], []⟩) := by
 unfold fn35 at h
 refine Ret.of_body Try.func35 rfl Try.ntmps35 rfl (fun _ hx => absurd hx List.not_mem_nil) List.nodup_nil (TC.seq (TC.region (TO.u rfl rfl (TX.box rfl rfl rfl (fun b1 => (TO.u rfl rfl (TX.assign rfl rfl (TO.nil (TE.thenN rfl rfl (TC.seq (TC.region (TO.u rfl rfl (TX.fieldAddr' Try.runUnderlying58 rfl Try.sizeOf4 rfl rfl rfl (TO.u rfl rfl (TX.load1 (i := 0) Try.isAgg4 rfl rfl rfl rfl (TO.u rfl rfl (TX.not rfl rfl (TO.u rfl rfl (TX.move rfl rfl (TO.cutS 19 [(26, .bool ((!p0.freg) && ((p0.fop == 0) || ((p0.fclass == 5) && ((p0.fop == 128) || (p0.fop == 144))))))] ?_ ?_))))))))))))))))))))
 · cases hc2 : (!p0.freg)
   · exact TO.s rfl rfl rfl rfl rfl rfl (TO.s rfl rfl rfl rfl rfl rfl (TO.s rfl rfl rfl rfl rfl rfl (TO.s rfl rfl rfl rfl rfl rfl (TO.su rfl rfl rfl rfl rfl (TO.su rfl rfl rfl rfl rfl (TO.su rfl rfl rfl rfl rfl (TO.su rfl rfl rfl rfl rfl (TO.su rfl rfl rfl rfl rfl (TO.su rfl rfl rfl rfl rfl (TO.su rfl rfl rfl rfl rfl (TO.su rfl rfl rfl rfl rfl (TO.su rfl rfl rfl rfl rfl (TO.su rfl rfl rfl rfl rfl (TO.su rfl rfl rfl rfl rfl (TO.su rfl rfl rfl rfl rfl (TO.su rfl rfl rfl rfl rfl (TO.s rfl rfl rfl rfl rfl rfl (TO.u rfl rfl (TX.pickF rfl rfl rfl (TO.nil (TE.cutS 19 rfl rfl ⟨rfl, trivial⟩)))))))))))))))))))))
   refine TO.g rfl rfl rfl rfl (TX.fieldAddr' Try.runUnderlying58 rfl Try.sizeOf5 rfl rfl rfl (TO.g rfl rfl rfl rfl (TX.load1 (i := 0) Try.isAgg5 rfl rfl rfl rfl (TO.g rfl rfl rfl rfl (TX.ibin rfl rfl rfl rfl (TO.g rfl rfl rfl rfl (TX.move rfl rfl ?_)))))))
   cases hc3 : (p0.fop == 0)
   · refine TO.g rfl rfl rfl rfl (TX.fieldAddr' Try.runUnderlying58 rfl Try.sizeOf5 rfl rfl rfl (TO.g rfl rfl rfl rfl (TX.load1 (i := 0) Try.isAgg5 rfl rfl rfl rfl (TO.g rfl rfl rfl rfl (TX.ibin rfl rfl rfl rfl (TO.g rfl rfl rfl rfl (TX.move rfl rfl ?_)))))))
     cases hc4 : (p0.fclass == 5)
     · exact TO.s rfl rfl rfl rfl rfl rfl (TO.s rfl rfl rfl rfl rfl rfl (TO.s rfl rfl rfl rfl rfl rfl (TO.s rfl rfl rfl rfl rfl rfl (TO.su rfl rfl rfl rfl rfl (TO.su rfl rfl rfl rfl rfl (TO.su rfl rfl rfl rfl rfl (TO.s rfl rfl rfl rfl rfl rfl (TO.g rfl rfl rfl rfl (TX.pickF rfl rfl rfl (TO.g rfl rfl rfl rfl (TX.pickF rfl rfl rfl (TO.u rfl rfl (TX.pickT rfl rfl rfl (TO.nil (TE.cutS 19 rfl rfl ⟨rfl, trivial⟩)))))))))))))))
     refine TO.g rfl rfl rfl rfl (TX.fieldAddr' Try.runUnderlying58 rfl Try.sizeOf5 rfl rfl rfl (TO.g rfl rfl rfl rfl (TX.load1 (i := 0) Try.isAgg5 rfl rfl rfl rfl (TO.g rfl rfl rfl rfl (TX.ibin rfl rfl rfl rfl (TO.g rfl rfl rfl rfl (TX.move rfl rfl ?_)))))))
     cases hc5 : (p0.fop == 128)
     · exact TO.g rfl rfl rfl rfl (TX.fieldAddr' Try.runUnderlying58 rfl Try.sizeOf5 rfl rfl rfl (TO.g rfl rfl rfl rfl (TX.load1 (i := 0) Try.isAgg5 rfl rfl rfl rfl (TO.g rfl rfl rfl rfl (TX.ibin rfl rfl rfl rfl (TO.g rfl rfl rfl rfl (TX.pickF rfl rfl rfl (TO.g rfl rfl rfl rfl (TX.pickT rfl rfl rfl (TO.g rfl rfl rfl rfl (TX.pickF rfl rfl rfl (TO.u rfl rfl (TX.pickT rfl rfl rfl (TO.nil (TE.cutS 19 rfl rfl ⟨rfl, trivial⟩)))))))))))))))
     exact TO.s rfl rfl rfl rfl rfl rfl (TO.s rfl rfl rfl rfl rfl rfl (TO.s rfl rfl rfl rfl rfl rfl (TO.g rfl rfl rfl rfl (TX.pickT rfl rfl rfl (TO.g rfl rfl rfl rfl (TX.pickT rfl rfl rfl (TO.g rfl rfl rfl rfl (TX.pickF rfl rfl rfl (TO.u rfl rfl (TX.pickT rfl rfl rfl (TO.nil (TE.cutS 19 rfl rfl ⟨rfl, trivial⟩))))))))))))
   exact TO.s rfl rfl rfl rfl rfl rfl (TO.s rfl rfl rfl rfl rfl rfl (TO.s rfl rfl rfl rfl rfl rfl (TO.s rfl rfl rfl rfl rfl rfl (TO.su rfl rfl rfl rfl rfl (TO.su rfl rfl rfl rfl rfl (TO.su rfl rfl rfl rfl rfl (TO.su rfl rfl rfl rfl rfl (TO.su rfl rfl rfl rfl rfl (TO.su rfl rfl rfl rfl rfl (TO.su rfl rfl rfl rfl rfl (TO.su rfl rfl rfl rfl rfl (TO.s rfl rfl rfl rfl rfl rfl (TO.g rfl rfl rfl rfl (TX.pickT rfl rfl rfl (TO.u rfl rfl (TX.pickT rfl rfl rfl (TO.nil (TE.cutS 19 rfl rfl ⟨rfl, trivial⟩))))))))))))))))))
 refine TO.u rfl rfl (TX.assign rfl rfl (TO.nil (TE.thenN rfl rfl (TC.seq (TC.seq (TC.region (TO.u rfl rfl (TX.fieldAddr' Try.runUnderlying58 rfl Try.sizeOf5 rfl rfl rfl (TO.u rfl rfl (TX.load1 (i := 0) Try.isAgg5 rfl rfl rfl rfl (TO.nil (TE.thenN rfl rfl (TC.block (TC.seq (TC.region (TO.u rfl rfl (TX.ibin rfl rfl rfl rfl (TO.u rfl rfl (TX.assign rfl rfl (TO.nil (TE.thenN rfl rfl (TC.cond rfl (fun hb6 => ?_) (fun hb6 => ?_)))))))))))))))))))))))
 · replace h := it h hb6
   exact TC.seq (TC.region (TO.u rfl rfl (TX.fieldAddr' Try.runUnderlying58 rfl Try.sizeOf27 rfl rfl rfl (TO.u rfl rfl (TX.fieldAddr' Try.runUnderlying27 rfl Try.sizeOf5 rfl rfl rfl (TO.u rfl rfl (TX.load1 (i := 0) Try.isAgg5 rfl rfl rfl rfl (TO.u rfl rfl (TX.ibin rfl rfl rfl rfl (TO.u rfl rfl (TX.assign rfl rfl (TO.nil (TE.thenN rfl rfl (TC.ret (TE.blockR (TE.thenR (TE.fin (R := ⟨[], []⟩) (TL.ret (R' := ⟨[], []⟩) Try.results35 (.cons (.tmp rfl) .nil) (subD 1 0 rfl rfl) ⟨congrArg ret35 h, rfl⟩))))))))))))))))))
 replace h := ie h hb6
 refine TC.seq (TC.region (TO.u rfl rfl (TX.ibin rfl rfl rfl rfl (TO.u rfl rfl (TX.assign rfl rfl (TO.nil (TE.thenN rfl rfl (TC.cond rfl (fun hb7 => ?_) (fun hb7 => ?_)))))))))
 · replace h := it h hb7
   refine TC.seq (TC.region (TO.u rfl rfl (TX.loadN (i := 0) Try.isAgg58 Try.sizeOf58 rfl rfl rfl rfl ?_)))
   obtain ⟨v8, hv8, h⟩ := bp h
   exact TO.u rfl rfl (TX.callP Try.call61 rfl (fun a w s => c61 p0 true _ _  hv8) rfl (TO.u rfl rfl (TX.assign rfl rfl (TO.nil (TE.thenN rfl rfl (TC.ret (TE.blockR (TE.thenR (TE.fin (R := ⟨[], []⟩) (TL.ret (R' := ⟨[], []⟩) Try.results35 (.cons (.tmp rfl) .nil) (subD 1 0 rfl rfl) ⟨congrArg ret35 h, rfl⟩))))))))))
 replace h := ie h hb7
 refine TC.seq (TC.seq (TC.region (TO.u rfl rfl (TX.ibin rfl rfl rfl rfl (TO.u rfl rfl (TX.assign rfl rfl (TO.nil (TE.thenN rfl rfl (TC.cond rfl (fun hb9 => ?_) (fun hb9 => ?_))))))))))
 · replace h := it h hb9
   refine TC.skip (TE.thenN rfl rfl (TC.condT' rfl hb9 (TC.seq (TC.region (TO.u rfl rfl (TX.loadN (i := 0) Try.isAgg58 Try.sizeOf58 rfl rfl rfl rfl ?_))))))
   obtain ⟨v10, hv10, h⟩ := bp h
   exact TO.u rfl rfl (TX.callP Try.call61 rfl (fun a w s => c61 p0 false _ _  hv10) rfl (TO.u rfl rfl (TX.assign rfl rfl (TO.nil (TE.thenN rfl rfl (TC.ret (TE.blockR (TE.thenR (TE.fin (R := ⟨[], []⟩) (TL.ret (R' := ⟨[], []⟩) Try.results35 (.cons (.tmp rfl) .nil) (subD 1 0 rfl rfl) ⟨congrArg ret35 h, rfl⟩))))))))))
 replace h := ie h hb9
 refine TC.region (TO.u rfl rfl (TX.ibin rfl rfl rfl rfl (TO.u rfl rfl (TX.assign rfl rfl (TO.nil (TE.thenN rfl rfl (TC.cond rfl (fun hb11 => ?_) (fun hb11 => ?_))))))))
 · replace h := it h hb11
   refine TC.seq (TC.region (TO.u rfl rfl (TX.loadN (i := 0) Try.isAgg58 Try.sizeOf58 rfl rfl rfl rfl ?_)))
   obtain ⟨v12, hv12, h⟩ := bp h
   exact TO.u rfl rfl (TX.callP Try.call61 rfl (fun a w s => c61 p0 false _ _  hv12) rfl (TO.u rfl rfl (TX.assign rfl rfl (TO.nil (TE.thenN rfl rfl (TC.ret (TE.blockR (TE.thenR (TE.fin (R := ⟨[], []⟩) (TL.ret (R' := ⟨[], []⟩) Try.results35 (.cons (.tmp rfl) .nil) (subD 1 0 rfl rfl) ⟨congrArg ret35 h, rfl⟩))))))))))
 replace h := ie h hb11
 refine TC.seq (TC.seq (TC.region (TO.u rfl rfl (TX.ibin rfl rfl rfl rfl (TO.u rfl rfl (TX.assign rfl rfl (TO.nil (TE.thenN rfl rfl (TC.cond rfl (fun hb13 => ?_) (fun hb13 => ?_))))))))))
 · replace h := it h hb13
   refine TC.skip (TE.thenN rfl rfl (TC.condT' rfl hb13 (TC.seq (TC.region (TO.u rfl rfl (TX.loadN (i := 0) Try.isAgg58 Try.sizeOf58 rfl rfl rfl rfl ?_))))))
   obtain ⟨v14, hv14, h⟩ := bp h
   refine TO.u rfl rfl (TX.callP Try.call62 rfl (fun a w s => c62 p0 _ _  hv14) rfl (TO.u rfl rfl (TX.move rfl rfl (TO.cutS 2 [(51, .bool (v14 || ((!p0.freg) && ((p0.fop == 0) || ((p0.fclass == 5) && ((p0.fop == 128) || (p0.fop == 144)))))))] ?_ ?_))))
   · cases hc15 : (v14)
     · exact TO.g rfl rfl rfl rfl (TX.move rfl rfl (TO.u rfl rfl (TX.pickF rfl rfl rfl (TO.nil (TE.cutS 2 rfl rfl ⟨rfl, trivial⟩)))))
     exact TO.s rfl rfl rfl rfl rfl rfl (TO.u rfl rfl (TX.pickT rfl rfl rfl (TO.nil (TE.cutS 2 rfl rfl ⟨rfl, trivial⟩))))
   exact TO.u rfl rfl (TX.assign rfl rfl (TO.nil (TE.thenN rfl rfl (TC.ret (TE.blockR (TE.thenR (TE.fin (R := ⟨[], []⟩) (TL.ret (R' := ⟨[], []⟩) Try.results35 (.cons (.tmp rfl) .nil) (subD 1 0 rfl rfl) ⟨congrArg ret35 h, rfl⟩))))))))
 replace h := ie h hb13
 refine TC.region (TO.u rfl rfl (TX.ibin rfl rfl rfl rfl (TO.u rfl rfl (TX.assign rfl rfl (TO.nil (TE.thenN rfl rfl (TC.cond rfl (fun hb16 => ?_) (fun hb16 => ?_))))))))
 · replace h := it h hb16
   refine TC.seq (TC.region (TO.u rfl rfl (TX.loadN (i := 0) Try.isAgg58 Try.sizeOf58 rfl rfl rfl rfl ?_)))
   obtain ⟨v17, hv17, h⟩ := bp h
   refine TO.u rfl rfl (TX.callP Try.call62 rfl (fun a w s => c62 p0 _ _  hv17) rfl (TO.u rfl rfl (TX.move rfl rfl (TO.cutS 2 [(51, .bool (v17 || ((!p0.freg) && ((p0.fop == 0) || ((p0.fclass == 5) && ((p0.fop == 128) || (p0.fop == 144)))))))] ?_ ?_))))
   · cases hc18 : (v17)
     · exact TO.g rfl rfl rfl rfl (TX.move rfl rfl (TO.u rfl rfl (TX.pickF rfl rfl rfl (TO.nil (TE.cutS 2 rfl rfl ⟨rfl, trivial⟩)))))
     exact TO.s rfl rfl rfl rfl rfl rfl (TO.u rfl rfl (TX.pickT rfl rfl rfl (TO.nil (TE.cutS 2 rfl rfl ⟨rfl, trivial⟩))))
   exact TO.u rfl rfl (TX.assign rfl rfl (TO.nil (TE.thenN rfl rfl (TC.ret (TE.blockR (TE.thenR (TE.fin (R := ⟨[], []⟩) (TL.ret (R' := ⟨[], []⟩) Try.results35 (.cons (.tmp rfl) .nil) (subD 1 0 rfl rfl) ⟨congrArg ret35 h, rfl⟩))))))))
 replace h := ie h hb16
 refine TC.skip (TE.blockN (TE.thenN rfl rfl (TC.seq (TC.seq (TC.region (TO.u rfl rfl (TX.fieldAddr' Try.runUnderlying58 rfl Try.sizeOf5 rfl rfl rfl (TO.u rfl rfl (TX.load1 (i := 0) Try.isAgg5 rfl rfl rfl rfl (TO.nil (TE.thenN rfl rfl (TC.block (TC.seq (TC.region (TO.u rfl rfl (TX.ibin rfl rfl rfl rfl (TO.u rfl rfl (TX.assign rfl rfl (TO.nil (TE.thenN rfl rfl (TC.cond rfl (fun hb19 => ?_) (fun hb19 => ?_))))))))))))))))))))))
 · replace h := it h hb19
   exact TC.seq (TC.region (TO.u rfl rfl (TX.fieldAddr' Try.runUnderlying58 rfl Try.sizeOf4 rfl rfl rfl (TO.u rfl rfl (TX.load1 (i := 0) Try.isAgg4 rfl rfl rfl rfl (TO.u rfl rfl (TX.not rfl rfl (TO.u rfl rfl (TX.assign rfl rfl (TO.nil (TE.thenN rfl rfl (TC.ret (TE.blockR (TE.thenR (TE.fin (R := ⟨[], []⟩) (TL.ret (R' := ⟨[], []⟩) Try.results35 (.cons (.tmp rfl) .nil) (subD 1 0 rfl rfl) ⟨congrArg ret35 h, rfl⟩))))))))))))))))
 replace h := ie h hb19
 refine TC.seq (TC.region (TO.u rfl rfl (TX.ibin rfl rfl rfl rfl (TO.u rfl rfl (TX.assign rfl rfl (TO.nil (TE.thenN rfl rfl (TC.cond rfl (fun hb20 => ?_) (fun hb20 => ?_)))))))))
 · replace h := it h hb20
   refine TC.seq (TC.region (TO.u rfl rfl (TX.fieldAddr' Try.runUnderlying58 rfl Try.sizeOf4 rfl rfl rfl (TO.u rfl rfl (TX.load1 (i := 0) Try.isAgg4 rfl rfl rfl rfl (TO.u rfl rfl (TX.not rfl rfl (TO.u rfl rfl (TX.move rfl rfl (TO.cutS 4 [(68, .bool ((!p0.freg) || (p0.fclass == 4)))] ?_ ?_))))))))))
   · cases hc21 : (!p0.freg)
     · exact TO.g rfl rfl rfl rfl (TX.fieldAddr' Try.runUnderlying58 rfl Try.sizeOf5 rfl rfl rfl (TO.g rfl rfl rfl rfl (TX.load1 (i := 0) Try.isAgg5 rfl rfl rfl rfl (TO.g rfl rfl rfl rfl (TX.ibin rfl rfl rfl rfl (TO.u rfl rfl (TX.pickF rfl rfl rfl (TO.nil (TE.cutS 4 rfl rfl ⟨rfl, trivial⟩)))))))))
     exact TO.s rfl rfl rfl rfl rfl rfl (TO.s rfl rfl rfl rfl rfl rfl (TO.s rfl rfl rfl rfl rfl rfl (TO.u rfl rfl (TX.pickT rfl rfl rfl (TO.nil (TE.cutS 4 rfl rfl ⟨rfl, trivial⟩))))))
   exact TO.u rfl rfl (TX.assign rfl rfl (TO.nil (TE.thenN rfl rfl (TC.ret (TE.blockR (TE.thenR (TE.fin (R := ⟨[], []⟩) (TL.ret (R' := ⟨[], []⟩) Try.results35 (.cons (.tmp rfl) .nil) (subD 1 0 rfl rfl) ⟨congrArg ret35 h, rfl⟩))))))))
 replace h := ie h hb20
 exact TC.skip (TE.blockN (TE.thenN rfl rfl (TC.seq (TC.region (TO.u rfl rfl (TX.fieldAddr' Try.runUnderlying58 rfl Try.sizeOf5 rfl rfl rfl (TO.u rfl rfl (TX.load1 (i := 0) Try.isAgg5 rfl rfl rfl rfl (TO.u rfl rfl (TX.ibin rfl rfl rfl rfl (TO.u rfl rfl (TX.assign rfl rfl (TO.nil (TE.thenN rfl rfl (TC.ret (TE.fin (R := ⟨[], []⟩) (TL.ret (R' := ⟨[], []⟩) Try.results35 (.cons (.tmp rfl) .nil) (subD 1 0 rfl rfl) ⟨congrArg ret35 h, rfl⟩)))))))))))))))))
/-- (hatchway/shape.slot).registers -/
def fn36 (p0 : Slot) : Bool :=
  (((decide (p0.fInstr.fDst ≤ 10)) && (decide (p0.fInstr.fSrc ≤ 10))) && (bif (((p0.fclass == 0) || (p0.fclass == 1)) || (p0.fclass == 4)) || (p0.fclass == 7) then !(p0.fInstr.fDst == 10) else true))
def ret36 (r : Bool) : Value := .bool r
theorem c36 (p0 : Slot) (w : World) (r : Bool)  (h : fn36 p0 = r) : Ret Try.prog 36 [.agg #[.int .u8 p0.fInstr.fOp, .int .u8 p0.fInstr.fDst, .int .u8 p0.fInstr.fSrc, .int .i16 p0.fInstr.fOff, .int .i32 p0.fInstr.fImm, .int .u8 p0.fclass, .int .u8 p0.fop, .bool p0.freg]] w ⟨[], []⟩ (fun v R => v = ret36 r ∧ R = ⟨[], []⟩) := by
 unfold fn36 at h
 refine Ret.of_body Try.func36 rfl Try.ntmps36 rfl (fun _ hx => absurd hx List.not_mem_nil) List.nodup_nil (TC.seq (TC.region (TO.u rfl rfl (TX.box rfl rfl rfl (fun b1 => (TO.u rfl rfl (TX.assign rfl rfl (TO.nil (TE.thenN rfl rfl (TC.seq (TC.region (TO.u rfl rfl (TX.fieldAddr' Try.runUnderlying58 rfl Try.sizeOf5 rfl rfl rfl (TO.u rfl rfl (TX.load1 (i := 0) Try.isAgg5 rfl rfl rfl rfl (TO.u rfl rfl (TX.ibin rfl rfl rfl rfl (TO.u rfl rfl (TX.move rfl rfl (TO.cutS 4 [(11, .bool ((p0.fclass == 0) || (p0.fclass == 1)))] ?_ ?_))))))))))))))))))))
 · cases hc2 : (p0.fclass == 0)
   · exact TO.g rfl rfl rfl rfl (TX.fieldAddr' Try.runUnderlying58 rfl Try.sizeOf5 rfl rfl rfl (TO.g rfl rfl rfl rfl (TX.load1 (i := 0) Try.isAgg5 rfl rfl rfl rfl (TO.g rfl rfl rfl rfl (TX.ibin rfl rfl rfl rfl (TO.u rfl rfl (TX.pickF rfl rfl rfl (TO.nil (TE.cutS 4 rfl rfl ⟨rfl, trivial⟩)))))))))
   exact TO.s rfl rfl rfl rfl rfl rfl (TO.s rfl rfl rfl rfl rfl rfl (TO.s rfl rfl rfl rfl rfl rfl (TO.u rfl rfl (TX.pickT rfl rfl rfl (TO.nil (TE.cutS 4 rfl rfl ⟨rfl, trivial⟩))))))
 refine TO.u rfl rfl (TX.move rfl rfl (TO.cutS 4 [(16, .bool (((p0.fclass == 0) || (p0.fclass == 1)) || (p0.fclass == 4)))] ?_ ?_))
 · cases hc3 : ((p0.fclass == 0) || (p0.fclass == 1))
   · exact TO.g rfl rfl rfl rfl (TX.fieldAddr' Try.runUnderlying58 rfl Try.sizeOf5 rfl rfl rfl (TO.g rfl rfl rfl rfl (TX.load1 (i := 0) Try.isAgg5 rfl rfl rfl rfl (TO.g rfl rfl rfl rfl (TX.ibin rfl rfl rfl rfl (TO.u rfl rfl (TX.pickF rfl rfl rfl (TO.nil (TE.cutS 4 rfl rfl ⟨rfl, trivial⟩)))))))))
   exact TO.s rfl rfl rfl rfl rfl rfl (TO.s rfl rfl rfl rfl rfl rfl (TO.s rfl rfl rfl rfl rfl rfl (TO.u rfl rfl (TX.pickT rfl rfl rfl (TO.nil (TE.cutS 4 rfl rfl ⟨rfl, trivial⟩))))))
 refine TO.u rfl rfl (TX.move rfl rfl (TO.cutS 4 [(21, .bool ((((p0.fclass == 0) || (p0.fclass == 1)) || (p0.fclass == 4)) || (p0.fclass == 7)))] ?_ ?_))
 · cases hc4 : (((p0.fclass == 0) || (p0.fclass == 1)) || (p0.fclass == 4))
   · exact TO.g rfl rfl rfl rfl (TX.fieldAddr' Try.runUnderlying58 rfl Try.sizeOf5 rfl rfl rfl (TO.g rfl rfl rfl rfl (TX.load1 (i := 0) Try.isAgg5 rfl rfl rfl rfl (TO.g rfl rfl rfl rfl (TX.ibin rfl rfl rfl rfl (TO.u rfl rfl (TX.pickF rfl rfl rfl (TO.nil (TE.cutS 4 rfl rfl ⟨rfl, trivial⟩)))))))))
   exact TO.s rfl rfl rfl rfl rfl rfl (TO.s rfl rfl rfl rfl rfl rfl (TO.s rfl rfl rfl rfl rfl rfl (TO.u rfl rfl (TX.pickT rfl rfl rfl (TO.nil (TE.cutS 4 rfl rfl ⟨rfl, trivial⟩))))))
 refine TO.u rfl rfl (TX.assign rfl rfl (TO.nil (TE.thenN rfl rfl (TC.seq (TC.region (TO.u rfl rfl (TX.fieldAddr' Try.runUnderlying58 rfl Try.sizeOf27 rfl rfl rfl (TO.u rfl rfl (TX.fieldAddr' Try.runUnderlying27 rfl Try.sizeOf5 rfl rfl rfl (TO.u rfl rfl (TX.load1 (i := 0) Try.isAgg5 rfl rfl rfl rfl (TO.u rfl rfl (TX.ibin rfl rfl rfl rfl (TO.u rfl rfl (TX.move rfl rfl (TO.cutS 5 [(31, .bool ((decide (p0.fInstr.fDst ≤ 10)) && (decide (p0.fInstr.fSrc ≤ 10))))] ?_ ?_))))))))))))))))
 · cases hc5 : (decide (p0.fInstr.fDst ≤ 10))
   · exact TO.s rfl rfl rfl rfl rfl rfl (TO.s rfl rfl rfl rfl rfl rfl (TO.s rfl rfl rfl rfl rfl rfl (TO.s rfl rfl rfl rfl rfl rfl (TO.u rfl rfl (TX.pickF rfl rfl rfl (TO.nil (TE.cutS 5 rfl rfl ⟨rfl, trivial⟩)))))))
   exact TO.g rfl rfl rfl rfl (TX.fieldAddr' Try.runUnderlying58 rfl Try.sizeOf27 rfl rfl rfl (TO.g rfl rfl rfl rfl (TX.fieldAddr' Try.runUnderlying27 rfl Try.sizeOf5 rfl rfl rfl (TO.g rfl rfl rfl rfl (TX.load1 (i := 0) Try.isAgg5 rfl rfl rfl rfl (TO.g rfl rfl rfl rfl (TX.ibin rfl rfl rfl rfl (TO.u rfl rfl (TX.pickT rfl rfl rfl (TO.nil (TE.cutS 5 rfl rfl ⟨rfl, trivial⟩)))))))))))
 refine TO.u rfl rfl (TX.move rfl rfl (TO.cutS 9 [(41, .bool (((decide (p0.fInstr.fDst ≤ 10)) && (decide (p0.fInstr.fSrc ≤ 10))) && (bif (((p0.fclass == 0) || (p0.fclass == 1)) || (p0.fclass == 4)) || (p0.fclass == 7) then !(p0.fInstr.fDst == 10) else true)))] ?_ ?_))
 · cases hc6 : ((decide (p0.fInstr.fDst ≤ 10)) && (decide (p0.fInstr.fSrc ≤ 10)))
   · exact TO.s rfl rfl rfl rfl rfl rfl (TO.s rfl rfl rfl rfl rfl rfl (TO.su rfl rfl rfl rfl rfl (TO.su rfl rfl rfl rfl rfl (TO.su rfl rfl rfl rfl rfl (TO.su rfl rfl rfl rfl rfl (TO.s rfl rfl rfl rfl rfl rfl (TO.s rfl rfl rfl rfl rfl rfl (TO.u rfl rfl (TX.pickF rfl rfl rfl (TO.nil (TE.cutS 9 rfl rfl ⟨rfl, trivial⟩)))))))))))
   refine TO.g rfl rfl rfl rfl (TX.move rfl rfl (TO.g rfl rfl rfl rfl (TX.move rfl rfl ?_)))
   cases hc7 : ((((p0.fclass == 0) || (p0.fclass == 1)) || (p0.fclass == 4)) || (p0.fclass == 7))
   · exact TO.s rfl rfl rfl rfl rfl rfl (TO.s rfl rfl rfl rfl rfl rfl (TO.s rfl rfl rfl rfl rfl rfl (TO.s rfl rfl rfl rfl rfl rfl (TO.g rfl rfl rfl rfl (TX.pickF rfl rfl rfl (TO.g rfl rfl rfl rfl (TX.not rfl rfl (TO.u rfl rfl (TX.pickT rfl rfl rfl (TO.nil (TE.cutS 9 rfl rfl ⟨rfl, trivial⟩)))))))))))
   exact TO.g rfl rfl rfl rfl (TX.fieldAddr' Try.runUnderlying58 rfl Try.sizeOf27 rfl rfl rfl (TO.g rfl rfl rfl rfl (TX.fieldAddr' Try.runUnderlying27 rfl Try.sizeOf5 rfl rfl rfl (TO.g rfl rfl rfl rfl (TX.load1 (i := 0) Try.isAgg5 rfl rfl rfl rfl (TO.g rfl rfl rfl rfl (TX.ibin rfl rfl rfl rfl (TO.g rfl rfl rfl rfl (TX.pickT rfl rfl rfl (TO.g rfl rfl rfl rfl (TX.not rfl rfl (TO.u rfl rfl (TX.pickT rfl rfl rfl (TO.nil (TE.cutS 9 rfl rfl ⟨rfl, trivial⟩)))))))))))))))
 exact TO.u rfl rfl (TX.assign rfl rfl (TO.nil (TE.thenN rfl rfl (TC.ret (TE.fin (R := ⟨[], []⟩) (TL.ret (R' := ⟨[], []⟩) Try.results36 (.cons (.tmp rfl) .nil) (subD 1 0 rfl rfl) ⟨congrArg ret36 h, rfl⟩))))))
/-- (hatchway/shape.slot).parts$1 -/
def fn63 (q0 : Slot) : Bool :=
  ((q0.fInstr.fOff == 0) && ((q0.fInstr.fSrc == 0) || ((q0.fInstr.fSrc == 1) && (decide ((0 : Int) ≤ q0.fInstr.fImm)))))
def ret63 (r : Bool) : Value := .bool r
theorem c63 (b_q0 : Nat) (q0 : Slot) (w : World) (r : Bool) (hat : HpOk w ⟨[(b_q0, .cells #[.int .u8 q0.fInstr.fOp, .int .u8 q0.fInstr.fDst, .int .u8 q0.fInstr.fSrc, .int .i16 q0.fInstr.fOff, .int .i32 q0.fInstr.fImm, .int .u8 q0.fclass, .int .u8 q0.fop, .bool q0.freg] 58)], []⟩) (h : fn63 q0 = r) : Ret Try.prog 63 [.pointer (some ⟨b_q0, 0, none⟩)] w ⟨[(b_q0, .cells #[.int .u8 q0.fInstr.fOp, .int .u8 q0.fInstr.fDst, .int .u8 q0.fInstr.fSrc, .int .i16 q0.fInstr.fOff, .int .i32 q0.fInstr.fImm, .int .u8 q0.fclass, .int .u8 q0.fop, .bool q0.freg] 58)], []⟩ (fun v R => v = ret63 r ∧ R = ⟨[(b_q0, .cells #[.int .u8 q0.fInstr.fOp, .int .u8 q0.fInstr.fDst, .int .u8 q0.fInstr.fSrc, .int .i16 q0.fInstr.fOff, .int .i32 q0.fInstr.fImm, .int .u8 q0.fclass, .int .u8 q0.fop, .bool q0.freg] 58)], []⟩) := by
 unfold fn63 at h
 refine Ret.of_body Try.func63 rfl Try.ntmps63 rfl hat.1 hat.2 (TC.seq (TC.region (TO.u rfl rfl (TX.assign rfl rfl (TO.nil (TE.thenN rfl rfl (TC.seq (TC.region (TO.u rfl rfl (TX.fieldAddr' Try.runUnderlying58 rfl Try.sizeOf27 rfl rfl rfl (TO.u rfl rfl (TX.fieldAddr' Try.runUnderlying27 rfl Try.sizeOf25 rfl rfl rfl (TO.u rfl rfl (TX.load1 (i := 0) Try.isAgg25 rfl rfl rfl rfl (TO.u rfl rfl (TX.ibin rfl rfl rfl rfl (TO.u rfl rfl (TX.move rfl rfl (TO.cutS 17 [(23, .bool ((q0.fInstr.fOff == 0) && ((q0.fInstr.fSrc == 0) || ((q0.fInstr.fSrc == 1) && (decide ((0 : Int) ≤ q0.fInstr.fImm))))))] ?_ ?_)))))))))))))))))))
 · cases hc1 : (q0.fInstr.fOff == 0)
   · exact TO.s rfl rfl rfl rfl rfl rfl (TO.s rfl rfl rfl rfl rfl rfl (TO.s rfl rfl rfl rfl rfl rfl (TO.s rfl rfl rfl rfl rfl rfl (TO.s rfl rfl rfl rfl rfl rfl (TO.su rfl rfl rfl rfl rfl (TO.su rfl rfl rfl rfl rfl (TO.su rfl rfl rfl rfl rfl (TO.su rfl rfl rfl rfl rfl (TO.su rfl rfl rfl rfl rfl (TO.su rfl rfl rfl rfl rfl (TO.su rfl rfl rfl rfl rfl (TO.su rfl rfl rfl rfl rfl (TO.su rfl rfl rfl rfl rfl (TO.su rfl rfl rfl rfl rfl (TO.s rfl rfl rfl rfl rfl rfl (TO.u rfl rfl (TX.pickF rfl rfl rfl (TO.nil (TE.cutS 17 rfl rfl ⟨rfl, trivial⟩)))))))))))))))))))
   refine TO.g rfl rfl rfl rfl (TX.fieldAddr' Try.runUnderlying58 rfl Try.sizeOf27 rfl rfl rfl (TO.g rfl rfl rfl rfl (TX.fieldAddr' Try.runUnderlying27 rfl Try.sizeOf5 rfl rfl rfl (TO.g rfl rfl rfl rfl (TX.load1 (i := 0) Try.isAgg5 rfl rfl rfl rfl (TO.g rfl rfl rfl rfl (TX.ibin rfl rfl rfl rfl (TO.g rfl rfl rfl rfl (TX.move rfl rfl ?_)))))))))
   cases hc2 : (q0.fInstr.fSrc == 0)
   · refine TO.g rfl rfl rfl rfl (TX.fieldAddr' Try.runUnderlying58 rfl Try.sizeOf27 rfl rfl rfl (TO.g rfl rfl rfl rfl (TX.fieldAddr' Try.runUnderlying27 rfl Try.sizeOf5 rfl rfl rfl (TO.g rfl rfl rfl rfl (TX.load1 (i := 0) Try.isAgg5 rfl rfl rfl rfl (TO.g rfl rfl rfl rfl (TX.ibin rfl rfl rfl rfl (TO.g rfl rfl rfl rfl (TX.move rfl rfl ?_)))))))))
     cases hc3 : (q0.fInstr.fSrc == 1)
     · exact TO.s rfl rfl rfl rfl rfl rfl (TO.s rfl rfl rfl rfl rfl rfl (TO.s rfl rfl rfl rfl rfl rfl (TO.s rfl rfl rfl rfl rfl rfl (TO.g rfl rfl rfl rfl (TX.pickF rfl rfl rfl (TO.g rfl rfl rfl rfl (TX.pickF rfl rfl rfl (TO.u rfl rfl (TX.pickT rfl rfl rfl (TO.nil (TE.cutS 17 rfl rfl ⟨rfl, trivial⟩)))))))))))
     exact TO.g rfl rfl rfl rfl (TX.fieldAddr' Try.runUnderlying58 rfl Try.sizeOf27 rfl rfl rfl (TO.g rfl rfl rfl rfl (TX.fieldAddr' Try.runUnderlying27 rfl Try.sizeOf21 rfl rfl rfl (TO.g rfl rfl rfl rfl (TX.load1 (i := 0) Try.isAgg21 rfl rfl rfl rfl (TO.g rfl rfl rfl rfl (TX.ibin rfl rfl rfl rfl (TO.g rfl rfl rfl rfl (TX.pickT rfl rfl rfl (TO.g rfl rfl rfl rfl (TX.pickF rfl rfl rfl (TO.u rfl rfl (TX.pickT rfl rfl rfl (TO.nil (TE.cutS 17 rfl rfl ⟨rfl, trivial⟩)))))))))))))))
   exact TO.s rfl rfl rfl rfl rfl rfl (TO.s rfl rfl rfl rfl rfl rfl (TO.s rfl rfl rfl rfl rfl rfl (TO.s rfl rfl rfl rfl rfl rfl (TO.s rfl rfl rfl rfl rfl rfl (TO.su rfl rfl rfl rfl rfl (TO.su rfl rfl rfl rfl rfl (TO.su rfl rfl rfl rfl rfl (TO.su rfl rfl rfl rfl rfl (TO.s rfl rfl rfl rfl rfl rfl (TO.g rfl rfl rfl rfl (TX.pickT rfl rfl rfl (TO.u rfl rfl (TX.pickT rfl rfl rfl (TO.nil (TE.cutS 17 rfl rfl ⟨rfl, trivial⟩)))))))))))))))
 exact TO.u rfl rfl (TX.assign rfl rfl (TO.nil (TE.thenN rfl rfl (TC.ret (TE.fin (R := ⟨[(b_q0, .cells #[.int .u8 q0.fInstr.fOp, .int .u8 q0.fInstr.fDst, .int .u8 q0.fInstr.fSrc, .int .i16 q0.fInstr.fOff, .int .i32 q0.fInstr.fImm, .int .u8 q0.fclass, .int .u8 q0.fop, .bool q0.freg] 58)], []⟩) (TL.ret (R' := ⟨[(b_q0, .cells #[.int .u8 q0.fInstr.fOp, .int .u8 q0.fInstr.fDst, .int .u8 q0.fInstr.fSrc, .int .i16 q0.fInstr.fOff, .int .i32 q0.fInstr.fImm, .int .u8 q0.fclass, .int .u8 q0.fop, .bool q0.freg] 58)], []⟩) Try.results63 (.cons (.tmp rfl) .nil) (subD 0 0 rfl rfl) ⟨congrArg ret63 h, rfl⟩))))))
/-- (hatchway/shape.slot).parts$2 -/
def fn64 (q0 : Slot) : Bool :=
  (q0.fInstr.fImm == 0)
def ret64 (r : Bool) : Value := .bool r
theorem c64 (b_q0 : Nat) (q0 : Slot) (w : World) (r : Bool) (hat : HpOk w ⟨[(b_q0, .cells #[.int .u8 q0.fInstr.fOp, .int .u8 q0.fInstr.fDst, .int .u8 q0.fInstr.fSrc, .int .i16 q0.fInstr.fOff, .int .i32 q0.fInstr.fImm, .int .u8 q0.fclass, .int .u8 q0.fop, .bool q0.freg] 58)], []⟩) (h : fn64 q0 = r) : Ret Try.prog 64 [.pointer (some ⟨b_q0, 0, none⟩)] w ⟨[(b_q0, .cells #[.int .u8 q0.fInstr.fOp, .int .u8 q0.fInstr.fDst, .int .u8 q0.fInstr.fSrc, .int .i16 q0.fInstr.fOff, .int .i32 q0.fInstr.fImm, .int .u8 q0.fclass, .int .u8 q0.fop, .bool q0.freg] 58)], []⟩ (fun v R => v = ret64 r ∧ R = ⟨[(b_q0, .cells #[.int .u8 q0.fInstr.fOp, .int .u8 q0.fInstr.fDst, .int .u8 q0.fInstr.fSrc, .int .i16 q0.fInstr.fOff, .int .i32 q0.fInstr.fImm, .int .u8 q0.fclass, .int .u8 q0.fop, .bool q0.freg] 58)], []⟩) := by
 unfold fn64 at h
 exact Ret.of_body Try.func64 rfl Try.ntmps64 rfl hat.1 hat.2 (TC.seq (TC.region (TO.u rfl rfl (TX.assign rfl rfl (TO.nil (TE.thenN rfl rfl (TC.seq (TC.region (TO.u rfl rfl (TX.fieldAddr' Try.runUnderlying58 rfl Try.sizeOf27 rfl rfl rfl (TO.u rfl rfl (TX.fieldAddr' Try.runUnderlying27 rfl Try.sizeOf21 rfl rfl rfl (TO.u rfl rfl (TX.load1 (i := 0) Try.isAgg21 rfl rfl rfl rfl (TO.u rfl rfl (TX.ibin rfl rfl rfl rfl (TO.u rfl rfl (TX.assign rfl rfl (TO.nil (TE.thenN rfl rfl (TC.ret (TE.fin (R := ⟨[(b_q0, .cells #[.int .u8 q0.fInstr.fOp, .int .u8 q0.fInstr.fDst, .int .u8 q0.fInstr.fSrc, .int .i16 q0.fInstr.fOff, .int .i32 q0.fInstr.fImm, .int .u8 q0.fclass, .int .u8 q0.fop, .bool q0.freg] 58)], []⟩) (TL.ret (R' := ⟨[(b_q0, .cells #[.int .u8 q0.fInstr.fOp, .int .u8 q0.fInstr.fDst, .int .u8 q0.fInstr.fSrc, .int .i16 q0.fInstr.fOff, .int .i32 q0.fInstr.fImm, .int .u8 q0.fclass, .int .u8 q0.fop, .bool q0.freg] 58)], []⟩) Try.results64 (.cons (.tmp rfl) .nil) (subD 0 0 rfl rfl) ⟨congrArg ret64 h, rfl⟩)))))))))))))))))))))))
/-- (hatchway/shape.slot).parts$3 -/
def fn65 (q0 : Slot) : Bool :=
  (q0.fInstr.fSrc == 0)
def ret65 (r : Bool) : Value := .bool r
theorem c65 (b_q0 : Nat) (q0 : Slot) (w : World) (r : Bool) (hat : HpOk w ⟨[(b_q0, .cells #[.int .u8 q0.fInstr.fOp, .int .u8 q0.fInstr.fDst, .int .u8 q0.fInstr.fSrc, .int .i16 q0.fInstr.fOff, .int .i32 q0.fInstr.fImm, .int .u8 q0.fclass, .int .u8 q0.fop, .bool q0.freg] 58)], []⟩) (h : fn65 q0 = r) : Ret Try.prog 65 [.pointer (some ⟨b_q0, 0, none⟩)] w ⟨[(b_q0, .cells #[.int .u8 q0.fInstr.fOp, .int .u8 q0.fInstr.fDst, .int .u8 q0.fInstr.fSrc, .int .i16 q0.fInstr.fOff, .int .i32 q0.fInstr.fImm, .int .u8 q0.fclass, .int .u8 q0.fop, .bool q0.freg] 58)], []⟩ (fun v R => v = ret65 r ∧ R = ⟨[(b_q0, .cells #[.int .u8 q0.fInstr.fOp, .int .u8 q0.fInstr.fDst, .int .u8 q0.fInstr.fSrc, .int .i16 q0.fInstr.fOff, .int .i32 q0.fInstr.fImm, .int .u8 q0.fclass, .int .u8 q0.fop, .bool q0.freg] 58)], []⟩) := by
 unfold fn65 at h
 exact Ret.of_body Try.func65 rfl Try.ntmps65 rfl hat.1 hat.2 (TC.seq (TC.region (TO.u rfl rfl (TX.assign rfl rfl (TO.nil (TE.thenN rfl rfl (TC.seq (TC.region (TO.u rfl rfl (TX.fieldAddr' Try.runUnderlying58 rfl Try.sizeOf27 rfl rfl rfl (TO.u rfl rfl (TX.fieldAddr' Try.runUnderlying27 rfl Try.sizeOf5 rfl rfl rfl (TO.u rfl rfl (TX.load1 (i := 0) Try.isAgg5 rfl rfl rfl rfl (TO.u rfl rfl (TX.ibin rfl rfl rfl rfl (TO.u rfl rfl (TX.assign rfl rfl (TO.nil (TE.thenN rfl rfl (TC.ret (TE.fin (R := ⟨[(b_q0, .cells #[.int .u8 q0.fInstr.fOp, .int .u8 q0.fInstr.fDst, .int .u8 q0.fInstr.fSrc, .int .i16 q0.fInstr.fOff, .int .i32 q0.fInstr.fImm, .int .u8 q0.fclass, .int .u8 q0.fop, .bool q0.freg] 58)], []⟩) (TL.ret (R' := ⟨[(b_q0, .cells #[.int .u8 q0.fInstr.fOp, .int .u8 q0.fInstr.fDst, .int .u8 q0.fInstr.fSrc, .int .i16 q0.fInstr.fOff, .int .i32 q0.fInstr.fImm, .int .u8 q0.fclass, .int .u8 q0.fop, .bool q0.freg] 58)], []⟩) Try.results65 (.cons (.tmp rfl) .nil) (subD 0 0 rfl rfl) ⟨congrArg ret65 h, rfl⟩)))))))))))))))))))))))
/-- (hatchway/shape.slot).parts$4 -/
def fn66 (q0 : Slot) : Bool :=
  (q0.fInstr.fImm == 0)
def ret66 (r : Bool) : Value := .bool r
theorem c66 (b_q0 : Nat) (q0 : Slot) (w : World) (r : Bool) (hat : HpOk w ⟨[(b_q0, .cells #[.int .u8 q0.fInstr.fOp, .int .u8 q0.fInstr.fDst, .int .u8 q0.fInstr.fSrc, .int .i16 q0.fInstr.fOff, .int .i32 q0.fInstr.fImm, .int .u8 q0.fclass, .int .u8 q0.fop, .bool q0.freg] 58)], []⟩) (h : fn66 q0 = r) : Ret Try.prog 66 [.pointer (some ⟨b_q0, 0, none⟩)] w ⟨[(b_q0, .cells #[.int .u8 q0.fInstr.fOp, .int .u8 q0.fInstr.fDst, .int .u8 q0.fInstr.fSrc, .int .i16 q0.fInstr.fOff, .int .i32 q0.fInstr.fImm, .int .u8 q0.fclass, .int .u8 q0.fop, .bool q0.freg] 58)], []⟩ (fun v R => v = ret66 r ∧ R = ⟨[(b_q0, .cells #[.int .u8 q0.fInstr.fOp, .int .u8 q0.fInstr.fDst, .int .u8 q0.fInstr.fSrc, .int .i16 q0.fInstr.fOff, .int .i32 q0.fInstr.fImm, .int .u8 q0.fclass, .int .u8 q0.fop, .bool q0.freg] 58)], []⟩) := by
 unfold fn66 at h
 exact Ret.of_body Try.func66 rfl Try.ntmps66 rfl hat.1 hat.2 (TC.seq (TC.region (TO.u rfl rfl (TX.assign rfl rfl (TO.nil (TE.thenN rfl rfl (TC.seq (TC.region (TO.u rfl rfl (TX.fieldAddr' Try.runUnderlying58 rfl Try.sizeOf27 rfl rfl rfl (TO.u rfl rfl (TX.fieldAddr' Try.runUnderlying27 rfl Try.sizeOf21 rfl rfl rfl (TO.u rfl rfl (TX.load1 (i := 0) Try.isAgg21 rfl rfl rfl rfl (TO.u rfl rfl (TX.ibin rfl rfl rfl rfl (TO.u rfl rfl (TX.assign rfl rfl (TO.nil (TE.thenN rfl rfl (TC.ret (TE.fin (R := ⟨[(b_q0, .cells #[.int .u8 q0.fInstr.fOp, .int .u8 q0.fInstr.fDst, .int .u8 q0.fInstr.fSrc, .int .i16 q0.fInstr.fOff, .int .i32 q0.fInstr.fImm, .int .u8 q0.fclass, .int .u8 q0.fop, .bool q0.freg] 58)], []⟩) (TL.ret (R' := ⟨[(b_q0, .cells #[.int .u8 q0.fInstr.fOp, .int .u8 q0.fInstr.fDst, .int .u8 q0.fInstr.fSrc, .int .i16 q0.fInstr.fOff, .int .i32 q0.fInstr.fImm, .int .u8 q0.fclass, .int .u8 q0.fop, .bool q0.freg] 58)], []⟩) Try.results66 (.cons (.tmp rfl) .nil) (subD 0 0 rfl rfl) ⟨congrArg ret66 h, rfl⟩)))))))))))))))))))))))
def fn92_l1 (p0 : List Int) (p1 : Int) : Nat → Int → Option ((Unit) ⊕ (Int))
  | 0, _ => none
  | n10 + 1, x5 => (bif decide (x5 < (p0.length : Int)) then (bif inb x5 p0.length then (bif p1 == (gt p0 x5) then (some (.inr x5)) else ((fn92_l1 p0 p1 n10) (IntKind.i64.wrap (x5 + 1)))) else none) else (some (.inl ())))
theorem fn92_l1_s (p0 : List Int) (p1 : Int) (n10 : Nat) (x5 : Int) : fn92_l1 p0 p1 (n10 + 1) x5 = (bif decide (x5 < (p0.length : Int)) then (bif inb x5 p0.length then (bif p1 == (gt p0 x5) then (some (.inr x5)) else ((fn92_l1 p0 p1 n10) (IntKind.i64.wrap (x5 + 1)))) else none) else (some (.inl ()))) := rfl
def fn92_k1 : Option (Int) :=
  (some (-1))
theorem fn92_k1_s : fn92_k1  = (some (-1)) := rfl
/-- slices.Index___int32,int32_ -/
def fn92 (F : Nat) (p0 : List Int) (p1 : Int) : Option (Int) :=
  (Option.bind (fn92_l1 p0 p1 F 0) fun o7 => (match o7 with | .inl u => fn92_k1  | .inr u => some u))
def ret92 (r : Int) : Value := .int .i64 r
theorem c92 (F : Nat) (sp_0 : Option Addr) (n_0 cap_0 : Nat) (p0 : List Int) (p1 : Int) (w : World) (r : Int) (qn0 : p0.length = n_0) (qc0 : p0.length ≤ cap_0) (qp0 : RdF (En.int .i32) w [] sp_0 p0) (h : fn92 F p0 p1 = some r) : Ret Try.prog 92 [.slice sp_0 n_0 cap_0, .int .i32 p1] w ⟨[], []⟩ (fun v R => v = ret92 r ∧ R = ⟨[], []⟩) := by
 unfold fn92 at h
 refine Ret.of_body Try.func92 rfl Try.ntmps92 rfl (fun _ hx => absurd hx List.not_mem_nil) List.nodup_nil (TC.seq (TC.region (TO.u rfl rfl (TX.assign rfl rfl (TO.nil (TE.thenN rfl rfl (TC.seq (TC.seq (TC.region (TO.u rfl rfl (TX.move rfl rfl (TO.u rfl rfl (TX.lenS (xs := p0) Try.runUnderlying109 rfl qn0 rfl (TO.u rfl rfl (TX.move rfl rfl (TO.nil (TE.thenN rfl rfl (TC.block ?_))))))))))))))))))
 obtain ⟨o7, hl8, h⟩ := bd h
 refine TC.to (L' := [(0, .slice sp_0 n_0 cap_0), (1, .int .i32 p1), (7, .int .i64 (p0.length : Int)), (8, .int .i64 0)]) (E' := []) (S' := []) 0 0 ⟨rfl, rfl, rfl, rfl, trivial⟩ rfl rfl (TC.cutE 0 (fun L' H' => .inl () = o7 ∧ L' = [] ∧ H' = ⟨[], []⟩) ?_ ?_)
 · have h012 := h
   clear h
   refine TC.loop (fun (n : Nat) (s : Int) => fn92_l1 p0 p1 n s) o7 (fun _ => rfl) (fun (x5 : Int) L' H' => L' = [(0, .slice sp_0 n_0 cap_0), (1, .int .i32 p1), (7, .int .i64 (p0.length : Int)), (8, .int .i64 x5)] ∧ H' = ⟨[], []⟩) ?_ F 0 ⟨rfl, rfl⟩ hl8
   clear hl8
   rintro K9 n10 x5 _ _ ⟨rfl, rfl⟩ h ih11
   replace h := (fn92_l1_s p0 p1 n10 x5).symm.trans h
   refine TC.seq (TC.region (TO.u rfl rfl (TX.ibin rfl rfl rfl rfl (TO.nil (TE.thenN rfl rfl (TC.seq (TC.cond rfl (fun hb13 => ?_) (fun hb13 => ?_))))))))
   · replace h := it h hb13
     refine TC.skip (TE.thenN rfl rfl (TC.seq (TC.block (TC.seq (TC.region (TO.u rfl rfl (TX.move rfl rfl (TO.u rfl rfl (TX.assign rfl rfl (TO.nil (TE.thenN rfl rfl (TC.seq (TC.region (TO.u rfl rfl (TX.move rfl rfl (TO.u rfl rfl (TX.move rfl rfl (TO.u rfl rfl (TX.move rfl rfl ?_)))))))))))))))))))
     obtain ⟨hk14, h⟩ := ck h
     refine TO.u rfl rfl (TX.indexR (N := (En.int .i32)) Try.runUnderlying109 Try.sizeOf21 rfl qn0 rfl (fun a w s => qp0 w s.ext) hk14 rfl (TO.u rfl rfl (TX.loadR1 (N := (En.int .i32)) Try.isAgg21 rfl (fun a w s => qp0 w s.ext) hk14 rfl rfl (TO.u rfl rfl (TX.ibin rfl rfl rfl rfl (TO.nil (TE.thenN rfl rfl (TC.cond rfl (fun hb15 => ?_) (fun hb15 => ?_)))))))))
     · replace h := it h hb15
       refine TC.seq (TC.region (TO.u rfl rfl (TX.move rfl rfl (TO.u rfl rfl (TX.assign rfl rfl (TO.nil (TE.thenN rfl rfl (TC.ret (TE.blockR (TE.thenR (TE.loopR (TE.cutR ?_))))))))))))
       have ho := Option.some.inj h
       subst ho
       replace h := h012
       exact TE.blockR (TE.thenR (TE.fin (R := ⟨[], []⟩) (TL.ret (R' := ⟨[], []⟩) Try.results92 (.cons (.tmp rfl) .nil) (subD 0 0 rfl rfl) ⟨congrArg ret92 (Option.some.inj h), rfl⟩)))
     replace h := ie h hb15
     exact TC.skip (TE.blockN (TE.thenN rfl rfl (TC.region (TO.u rfl rfl (TX.ibin rfl rfl rfl rfl (TO.u rfl rfl (TX.move rfl rfl (TO.nil (TE.to (L' := [(0, .slice sp_0 n_0 cap_0), (1, .int .i32 p1), (7, .int .i64 (p0.length : Int)), (8, .int .i64 (IntKind.i64.wrap (x5 + 1)))]) (E' := []) (S' := []) 0 0 ⟨rfl, rfl, rfl, rfl, trivial⟩ rfl rfl (ih11 (IntKind.i64.wrap (x5 + 1)) _ _ ⟨rfl, rfl⟩ h))))))))))
   replace h := ie h hb13
   exact TC.exit (TE.thenX (TE.loopX (TE.to (L' := []) (E' := []) (S' := []) 0 0 trivial rfl rfl (TE.cutE ⟨Option.some.inj h, rfl, rfl⟩))))
 rintro _ _ ⟨rfl, rfl, rfl⟩
 replace h := (fn92_k1_s ).symm.trans h
 exact TE.blockH (TE.thenN rfl rfl (TC.seq (TC.region (TO.u rfl rfl (TX.assign rfl rfl (TO.nil (TE.thenN rfl rfl (TC.ret (TE.fin (R := ⟨[], []⟩) (TL.ret (R' := ⟨[], []⟩) Try.results92 (.cons (.tmp rfl) .nil) (subD 0 0 rfl rfl) ⟨congrArg ret92 (Option.some.inj h), rfl⟩))))))))))
/-- slices.Contains___int32,int32_ -/
def fn80 (F : Nat) (p0 : List Int) (p1 : Int) : Option (Bool) :=
  (Option.bind (fn92 F p0 p1) fun v1 => (some (decide ((0 : Int) ≤ v1))))
def ret80 (r : Bool) : Value := .bool r
theorem c80 (F : Nat) (sp_0 : Option Addr) (n_0 cap_0 : Nat) (p0 : List Int) (p1 : Int) (w : World) (r : Bool) (qn0 : p0.length = n_0) (qc0 : p0.length ≤ cap_0) (qp0 : RdF (En.int .i32) w [] sp_0 p0) (h : fn80 F p0 p1 = some r) : Ret Try.prog 80 [.slice sp_0 n_0 cap_0, .int .i32 p1] w ⟨[], []⟩ (fun v R => v = ret80 r ∧ R = ⟨[], []⟩) := by
 unfold fn80 at h
 refine Ret.of_body Try.func80 rfl Try.ntmps80 rfl (fun _ hx => absurd hx List.not_mem_nil) List.nodup_nil (TC.seq (TC.region (TO.u rfl rfl (TX.assign rfl rfl (TO.nil (TE.thenN rfl rfl (TC.seq (TC.region (TO.u rfl rfl (TX.move rfl rfl (TO.u rfl rfl (TX.move rfl rfl ?_))))))))))))
 obtain ⟨v1, hv1, h⟩ := bd h
 exact TO.u rfl rfl (TX.callP Try.call92 rfl (fun a w s => c92 F _ _ _ p0 p1 _ _ qn0 qc0 (qp0.tr s.extB0) hv1) rfl (TO.u rfl rfl (TX.ibin rfl rfl rfl rfl (TO.u rfl rfl (TX.assign rfl rfl (TO.nil (TE.thenN rfl rfl (TC.ret (TE.fin (R := ⟨[], []⟩) (TL.ret (R' := ⟨[], []⟩) Try.results80 (.cons (.tmp rfl) .nil) (subD 0 0 rfl rfl) ⟨congrArg ret80 (Option.some.inj h), rfl⟩))))))))))
def fn93_l1 (p0 : List Int) (p1 : Int) : Nat → Int → Option ((Unit) ⊕ (Int))
  | 0, _ => none
  | n10 + 1, x5 => (bif decide (x5 < (p0.length : Int)) then (bif inb x5 p0.length then (bif p1 == (gt p0 x5) then (some (.inr x5)) else ((fn93_l1 p0 p1 n10) (IntKind.i64.wrap (x5 + 1)))) else none) else (some (.inl ())))
theorem fn93_l1_s (p0 : List Int) (p1 : Int) (n10 : Nat) (x5 : Int) : fn93_l1 p0 p1 (n10 + 1) x5 = (bif decide (x5 < (p0.length : Int)) then (bif inb x5 p0.length then (bif p1 == (gt p0 x5) then (some (.inr x5)) else ((fn93_l1 p0 p1 n10) (IntKind.i64.wrap (x5 + 1)))) else none) else (some (.inl ()))) := rfl
def fn93_k1 : Option (Int) :=
  (some (-1))
theorem fn93_k1_s : fn93_k1  = (some (-1)) := rfl
/-- slices.Index___int16,int16_ -/
def fn93 (F : Nat) (p0 : List Int) (p1 : Int) : Option (Int) :=
  (Option.bind (fn93_l1 p0 p1 F 0) fun o7 => (match o7 with | .inl u => fn93_k1  | .inr u => some u))
def ret93 (r : Int) : Value := .int .i64 r
theorem c93 (F : Nat) (sp_0 : Option Addr) (n_0 cap_0 : Nat) (p0 : List Int) (p1 : Int) (w : World) (r : Int) (qn0 : p0.length = n_0) (qc0 : p0.length ≤ cap_0) (qp0 : RdF (En.int .i16) w [] sp_0 p0) (h : fn93 F p0 p1 = some r) : Ret Try.prog 93 [.slice sp_0 n_0 cap_0, .int .i16 p1] w ⟨[], []⟩ (fun v R => v = ret93 r ∧ R = ⟨[], []⟩) := by
 unfold fn93 at h
 refine Ret.of_body Try.func93 rfl Try.ntmps93 rfl (fun _ hx => absurd hx List.not_mem_nil) List.nodup_nil (TC.seq (TC.region (TO.u rfl rfl (TX.assign rfl rfl (TO.nil (TE.thenN rfl rfl (TC.seq (TC.seq (TC.region (TO.u rfl rfl (TX.move rfl rfl (TO.u rfl rfl (TX.lenS (xs := p0) Try.runUnderlying110 rfl qn0 rfl (TO.u rfl rfl (TX.move rfl rfl (TO.nil (TE.thenN rfl rfl (TC.block ?_))))))))))))))))))
 obtain ⟨o7, hl8, h⟩ := bd h
 refine TC.to (L' := [(0, .slice sp_0 n_0 cap_0), (1, .int .i16 p1), (7, .int .i64 (p0.length : Int)), (8, .int .i64 0)]) (E' := []) (S' := []) 0 0 ⟨rfl, rfl, rfl, rfl, trivial⟩ rfl rfl (TC.cutE 0 (fun L' H' => .inl () = o7 ∧ L' = [] ∧ H' = ⟨[], []⟩) ?_ ?_)
 · have h012 := h
   clear h
   refine TC.loop (fun (n : Nat) (s : Int) => fn93_l1 p0 p1 n s) o7 (fun _ => rfl) (fun (x5 : Int) L' H' => L' = [(0, .slice sp_0 n_0 cap_0), (1, .int .i16 p1), (7, .int .i64 (p0.length : Int)), (8, .int .i64 x5)] ∧ H' = ⟨[], []⟩) ?_ F 0 ⟨rfl, rfl⟩ hl8
   clear hl8
   rintro K9 n10 x5 _ _ ⟨rfl, rfl⟩ h ih11
   replace h := (fn93_l1_s p0 p1 n10 x5).symm.trans h
   refine TC.seq (TC.region (TO.u rfl rfl (TX.ibin rfl rfl rfl rfl (TO.nil (TE.thenN rfl rfl (TC.seq (TC.cond rfl (fun hb13 => ?_) (fun hb13 => ?_))))))))
   · replace h := it h hb13
     refine TC.skip (TE.thenN rfl rfl (TC.seq (TC.block (TC.seq (TC.region (TO.u rfl rfl (TX.move rfl rfl (TO.u rfl rfl (TX.assign rfl rfl (TO.nil (TE.thenN rfl rfl (TC.seq (TC.region (TO.u rfl rfl (TX.move rfl rfl (TO.u rfl rfl (TX.move rfl rfl (TO.u rfl rfl (TX.move rfl rfl ?_)))))))))))))))))))
     obtain ⟨hk14, h⟩ := ck h
     refine TO.u rfl rfl (TX.indexR (N := (En.int .i16)) Try.runUnderlying110 Try.sizeOf25 rfl qn0 rfl (fun a w s => qp0 w s.ext) hk14 rfl (TO.u rfl rfl (TX.loadR1 (N := (En.int .i16)) Try.isAgg25 rfl (fun a w s => qp0 w s.ext) hk14 rfl rfl (TO.u rfl rfl (TX.ibin rfl rfl rfl rfl (TO.nil (TE.thenN rfl rfl (TC.cond rfl (fun hb15 => ?_) (fun hb15 => ?_)))))))))
     · replace h := it h hb15
       refine TC.seq (TC.region (TO.u rfl rfl (TX.move rfl rfl (TO.u rfl rfl (TX.assign rfl rfl (TO.nil (TE.thenN rfl rfl (TC.ret (TE.blockR (TE.thenR (TE.loopR (TE.cutR ?_))))))))))))
       have ho := Option.some.inj h
       subst ho
       replace h := h012
       exact TE.blockR (TE.thenR (TE.fin (R := ⟨[], []⟩) (TL.ret (R' := ⟨[], []⟩) Try.results93 (.cons (.tmp rfl) .nil) (subD 0 0 rfl rfl) ⟨congrArg ret93 (Option.some.inj h), rfl⟩)))
     replace h := ie h hb15
     exact TC.skip (TE.blockN (TE.thenN rfl rfl (TC.region (TO.u rfl rfl (TX.ibin rfl rfl rfl rfl (TO.u rfl rfl (TX.move rfl rfl (TO.nil (TE.to (L' := [(0, .slice sp_0 n_0 cap_0), (1, .int .i16 p1), (7, .int .i64 (p0.length : Int)), (8, .int .i64 (IntKind.i64.wrap (x5 + 1)))]) (E' := []) (S' := []) 0 0 ⟨rfl, rfl, rfl, rfl, trivial⟩ rfl rfl (ih11 (IntKind.i64.wrap (x5 + 1)) _ _ ⟨rfl, rfl⟩ h))))))))))
   replace h := ie h hb13
   exact TC.exit (TE.thenX (TE.loopX (TE.to (L' := []) (E' := []) (S' := []) 0 0 trivial rfl rfl (TE.cutE ⟨Option.some.inj h, rfl, rfl⟩))))
 rintro _ _ ⟨rfl, rfl, rfl⟩
 replace h := (fn93_k1_s ).symm.trans h
 exact TE.blockH (TE.thenN rfl rfl (TC.seq (TC.region (TO.u rfl rfl (TX.assign rfl rfl (TO.nil (TE.thenN rfl rfl (TC.ret (TE.fin (R := ⟨[], []⟩) (TL.ret (R' := ⟨[], []⟩) Try.results93 (.cons (.tmp rfl) .nil) (subD 0 0 rfl rfl) ⟨congrArg ret93 (Option.some.inj h), rfl⟩))))))))))
/-- slices.Contains___int16,int16_ -/
def fn81 (F : Nat) (p0 : List Int) (p1 : Int) : Option (Bool) :=
  (Option.bind (fn93 F p0 p1) fun v1 => (some (decide ((0 : Int) ≤ v1))))
def ret81 (r : Bool) : Value := .bool r
theorem c81 (F : Nat) (sp_0 : Option Addr) (n_0 cap_0 : Nat) (p0 : List Int) (p1 : Int) (w : World) (r : Bool) (qn0 : p0.length = n_0) (qc0 : p0.length ≤ cap_0) (qp0 : RdF (En.int .i16) w [] sp_0 p0) (h : fn81 F p0 p1 = some r) : Ret Try.prog 81 [.slice sp_0 n_0 cap_0, .int .i16 p1] w ⟨[], []⟩ (fun v R => v = ret81 r ∧ R = ⟨[], []⟩) := by
 unfold fn81 at h
 refine Ret.of_body Try.func81 rfl Try.ntmps81 rfl (fun _ hx => absurd hx List.not_mem_nil) List.nodup_nil (TC.seq (TC.region (TO.u rfl rfl (TX.assign rfl rfl (TO.nil (TE.thenN rfl rfl (TC.seq (TC.region (TO.u rfl rfl (TX.move rfl rfl (TO.u rfl rfl (TX.move rfl rfl ?_))))))))))))
 obtain ⟨v1, hv1, h⟩ := bd h
 exact TO.u rfl rfl (TX.callP Try.call93 rfl (fun a w s => c93 F _ _ _ p0 p1 _ _ qn0 qc0 (qp0.tr s.extB0) hv1) rfl (TO.u rfl rfl (TX.ibin rfl rfl rfl rfl (TO.u rfl rfl (TX.assign rfl rfl (TO.nil (TE.thenN rfl rfl (TC.ret (TE.fin (R := ⟨[], []⟩) (TL.ret (R' := ⟨[], []⟩) Try.results81 (.cons (.tmp rfl) .nil) (subD 0 0 rfl rfl) ⟨congrArg ret81 (Option.some.inj h), rfl⟩))))))))))
/-- (hatchway/shape.slot).arithmetic -/
def fn67 (F : Nat) (p0 : Slot) : Option (Bool) :=
  (bif p0.fop == 208 then (Option.bind (bif (p0.fInstr.fSrc == 0) && (p0.fInstr.fOff == 0) then (fn80 F ([16, 32, 64] : List Int) p0.fInstr.fImm) else some default) fun v8 => (some (((p0.fInstr.fSrc == 0) && (p0.fInstr.fOff == 0)) && v8))) else (bif p0.fop == 48 then (bif decide ((([0] : List Int).length + ([1] : List Int).length) * 2 ≤ 140737488355328 ∧ ([0] : List Int).length + ([1] : List Int).length ≤ 9223372036854775807) then (Option.bind (fn81 F (([0] : List Int) ++ ([1] : List Int)) p0.fInstr.fOff) fun v30 => (some ((v30 && (bif !p0.freg then (p0.fInstr.fSrc == 0) || (p0.freg && (p0.fInstr.fImm == 0)) else p0.freg && (p0.fInstr.fImm == 0))) && ((p0.fop != 128) || (p0.fInstr.fImm == 0))))) else none) else (bif p0.fop == 144 then (bif decide ((([0] : List Int).length + ([1] : List Int).length) * 2 ≤ 140737488355328 ∧ ([0] : List Int).length + ([1] : List Int).length ≤ 9223372036854775807) then (Option.bind (fn81 F (([0] : List Int) ++ ([1] : List Int)) p0.fInstr.fOff) fun v50 => (some ((v50 && (bif !p0.freg then (p0.fInstr.fSrc == 0) || (p0.freg && (p0.fInstr.fImm == 0)) else p0.freg && (p0.fInstr.fImm == 0))) && ((p0.fop != 128) || (p0.fInstr.fImm == 0))))) else none) else (bif ((p0.fop == 176) && p0.freg) && (p0.fclass == 7) then (bif decide ((([0] : List Int).length + ([8, 16, 32] : List Int).length) * 2 ≤ 140737488355328 ∧ ([0] : List Int).length + ([8, 16, 32] : List Int).length ≤ 9223372036854775807) then (Option.bind (fn81 F (([0] : List Int) ++ ([8, 16, 32] : List Int)) p0.fInstr.fOff) fun v72 => (some ((v72 && (bif !p0.freg then (p0.fInstr.fSrc == 0) || (p0.freg && (p0.fInstr.fImm == 0)) else p0.freg && (p0.fInstr.fImm == 0))) && ((p0.fop != 128) || (p0.fInstr.fImm == 0))))) else none) else (bif (p0.fop == 176) && p0.freg then (bif decide ((([0] : List Int).length + ([8, 16] : List Int).length) * 2 ≤ 140737488355328 ∧ ([0] : List Int).length + ([8, 16] : List Int).length ≤ 9223372036854775807) then (Option.bind (fn81 F (([0] : List Int) ++ ([8, 16] : List Int)) p0.fInstr.fOff) fun v93 => (some ((v93 && (bif !p0.freg then (p0.fInstr.fSrc == 0) || (p0.freg && (p0.fInstr.fImm == 0)) else p0.freg && (p0.fInstr.fImm == 0))) && ((p0.fop != 128) || (p0.fInstr.fImm == 0))))) else none) else (Option.bind (fn81 F ([0] : List Int) p0.fInstr.fOff) fun v101 => (some ((v101 && (bif !p0.freg then (p0.fInstr.fSrc == 0) || (p0.freg && (p0.fInstr.fImm == 0)) else p0.freg && (p0.fInstr.fImm == 0))) && ((p0.fop != 128) || (p0.fInstr.fImm == 0))))))))))
def ret67 (r : Bool) : Value := .bool r
set_option maxHeartbeats 8000000 in
theorem c67 (F : Nat) (p0 : Slot) (w : World) (r : Bool)  (h : fn67 F p0 = some r) : Ret Try.prog 67 [.agg #[.int .u8 p0.fInstr.fOp, .int .u8 p0.fInstr.fDst, .int .u8 p0.fInstr.fSrc, .int .i16 p0.fInstr.fOff, .int .i32 p0.fInstr.fImm, .int .u8 p0.fclass, .int .u8 p0.fop, .bool p0.freg]] w ⟨[], []⟩ (fun v R => v = ret67 r ∧ R = ⟨[], []⟩) := by
 unfold fn67 at h
 refine Ret.of_body Try.func67 rfl Try.ntmps67 rfl (fun _ hx => absurd hx List.not_mem_nil) List.nodup_nil (TC.seq (TC.region (TO.u rfl rfl (TX.box rfl rfl rfl (fun b1 => (TO.u rfl rfl (TX.assign rfl rfl (TO.nil (TE.thenN rfl rfl (TC.seq (TC.seq (TC.region (TO.u rfl rfl (TX.fieldAddr' Try.runUnderlying58 rfl Try.sizeOf5 rfl rfl rfl (TO.u rfl rfl (TX.load1 (i := 0) Try.isAgg5 rfl rfl rfl rfl (TO.u rfl rfl (TX.ibin rfl rfl rfl rfl (TO.nil (TE.thenN rfl rfl (TC.cond rfl (fun hb2 => ?_) (fun hb2 => ?_))))))))))))))))))))))
 · replace h := it h hb2
   refine TC.seq (TC.region (TO.u rfl rfl (TX.fieldAddr' Try.runUnderlying58 rfl Try.sizeOf27 rfl rfl rfl (TO.u rfl rfl (TX.fieldAddr' Try.runUnderlying27 rfl Try.sizeOf5 rfl rfl rfl (TO.u rfl rfl (TX.load1 (i := 0) Try.isAgg5 rfl rfl rfl rfl (TO.u rfl rfl (TX.ibin rfl rfl rfl rfl (TO.u rfl rfl (TX.move rfl rfl (TO.cutS 5 [(16, .bool ((p0.fInstr.fSrc == 0) && (p0.fInstr.fOff == 0)))] ?_ ?_))))))))))))
   · cases hc3 : (p0.fInstr.fSrc == 0)
     · exact TO.s rfl rfl rfl rfl rfl rfl (TO.s rfl rfl rfl rfl rfl rfl (TO.s rfl rfl rfl rfl rfl rfl (TO.s rfl rfl rfl rfl rfl rfl (TO.u rfl rfl (TX.pickF rfl rfl rfl (TO.nil (TE.cutS 5 rfl rfl ⟨rfl, trivial⟩)))))))
     exact TO.g rfl rfl rfl rfl (TX.fieldAddr' Try.runUnderlying58 rfl Try.sizeOf27 rfl rfl rfl (TO.g rfl rfl rfl rfl (TX.fieldAddr' Try.runUnderlying27 rfl Try.sizeOf25 rfl rfl rfl (TO.g rfl rfl rfl rfl (TX.load1 (i := 0) Try.isAgg25 rfl rfl rfl rfl (TO.g rfl rfl rfl rfl (TX.ibin rfl rfl rfl rfl (TO.u rfl rfl (TX.pickT rfl rfl rfl (TO.nil (TE.cutS 5 rfl rfl ⟨rfl, trivial⟩)))))))))))
   refine TO.u rfl rfl (TX.move rfl rfl ?_)
   obtain ⟨v8, hv8, h⟩ := bd h
   refine TO.cutS 6 [(23, .bool (((p0.fInstr.fSrc == 0) && (p0.fInstr.fOff == 0)) && v8))] ?_ ?_
   · cases hc9 : ((p0.fInstr.fSrc == 0) && (p0.fInstr.fOff == 0))
     · exact TO.s rfl rfl rfl rfl rfl rfl (TO.s rfl rfl rfl rfl rfl rfl (TO.s rfl rfl rfl rfl rfl rfl (TO.s rfl rfl rfl rfl rfl rfl (TO.s rfl rfl rfl rfl rfl rfl (TO.u rfl rfl (TX.pickF rfl rfl rfl (TO.nil (TE.cutS 6 rfl rfl ⟨rfl, trivial⟩))))))))
     exact TO.g rfl rfl rfl rfl (TX.buildS (N := (En.int .i32)) (ys := ([16, 32, 64] : List Int)) Try.runUnderlying109 Try.sizeOf21 Try.zeroValue21 rfl rfl rfl rfl (fillS [.int .i32 16, .int .i32 32, .int .i32 64] rfl rfl rfl rfl) rfl (fun sp10 Hs12 ho13 => (TO.g rfl rfl rfl rfl (TX.fieldAddr' Try.runUnderlying58 rfl Try.sizeOf27 rfl rfl rfl (TO.g rfl rfl rfl rfl (TX.fieldAddr' Try.runUnderlying27 rfl Try.sizeOf21 rfl rfl rfl (TO.g rfl rfl rfl rfl (TX.load1 (i := 0) Try.isAgg21 rfl rfl rfl rfl (TO.g rfl rfl rfl rfl (TX.callP Try.call80 rfl (fun a w s => c80 F _ _ _ ([16, 32, 64] : List Int) p0.fInstr.fImm _ _ rfl ho13.le_cap (ho13.rdf0 s (i := 0) rfl) (it hv8 hc9)) rfl (TO.u rfl rfl (TX.pickT rfl rfl rfl (TO.nil (TE.drop 0 1 rfl rfl (TE.cutS 6 rfl rfl ⟨rfl, trivial⟩)))))))))))))))
   exact TO.u rfl rfl (TX.assign rfl rfl (TO.nil (TE.thenN rfl rfl (TC.ret (TE.thenR (TE.fin (R := ⟨[], []⟩) (TL.ret (R' := ⟨[], []⟩) Try.results67 (.cons (.tmp rfl) .nil) (subD 1 0 rfl rfl) ⟨congrArg ret67 (Option.some.inj h), rfl⟩)))))))
 replace h := ie h hb2
 refine TC.skip (TE.thenN rfl rfl (TC.seq (TC.region (TO.u rfl rfl (TX.buildS (N := (En.int .i16)) (ys := ([0] : List Int)) Try.runUnderlying110 Try.sizeOf25 Try.zeroValue25 rfl rfl rfl rfl (fillS [.int .i16 0] rfl rfl rfl rfl) rfl (fun sp14 Hs16 ho17 => (TO.u rfl rfl (TX.assign rfl rfl (TO.nil (TE.thenN rfl rfl (TC.seq (TC.block (TC.seq (TC.seq (TC.region (TO.u rfl rfl (TX.fieldAddr' Try.runUnderlying58 rfl Try.sizeOf5 rfl rfl rfl (TO.u rfl rfl (TX.load1 (i := 0) Try.isAgg5 rfl rfl rfl rfl (TO.u rfl rfl (TX.ibin rfl rfl rfl rfl (TO.u rfl rfl (TX.assign rfl rfl (TO.nil (TE.thenN rfl rfl (TC.cond rfl (fun hb18 => ?_) (fun hb18 => ?_)))))))))))))))))))))))))))
 · replace h := it h hb18
   refine TC.skip (TE.thenN rfl rfl (TC.condT' rfl hb18 (TC.region (TO.u rfl rfl (TX.move rfl rfl (TO.u rfl rfl (TX.buildS (N := (En.int .i16)) (ys := ([1] : List Int)) Try.runUnderlying110 Try.sizeOf25 Try.zeroValue25 rfl rfl rfl rfl (fillS [.int .i16 1] rfl rfl rfl rfl) rfl (fun sp19 Hs21 ho22 => ?_))))))))
   obtain ⟨hk23, h⟩ := ck h
   refine TO.u rfl rfl (TX.appendS (N := (En.int .i16)) (si := 1) (xs := ([0] : List Int)) (ys := ([1] : List Int)) Try.runUnderlying110 Try.typeInfo25 rfl rfl rfl rfl rfl rfl rfl rfl rfl ho17 (fun a w s => ho22.rd s (i := 0) rfl) hk23 rfl (fun sp24 cap25 Hs26 _ S27 ho28 => ?_))
   cases S27
   refine TO.u rfl rfl (TX.assign rfl rfl (TO.nil (TE.blockN (TE.thenN rfl rfl (TC.seq (TC.region (TO.u rfl rfl (TX.move rfl rfl (TO.u rfl rfl (TX.fieldAddr' Try.runUnderlying58 rfl Try.sizeOf27 rfl rfl rfl (TO.u rfl rfl (TX.fieldAddr' Try.runUnderlying27 rfl Try.sizeOf25 rfl rfl rfl (TO.u rfl rfl (TX.load1 (i := 0) Try.isAgg25 rfl rfl rfl rfl ?_))))))))))))))
   obtain ⟨v30, hv30, h⟩ := bd h
   refine TO.u rfl rfl (TX.callP Try.call81 rfl (fun a w s => c81 F _ _ _ (([0] : List Int) ++ ([1] : List Int)) p0.fInstr.fOff _ _ rfl ho28.le_cap (ho28.rdf0 s (i := 1) rfl) hv30) rfl (TO.u rfl rfl (TX.move rfl rfl (TO.cutS 20 [(87, .bool (v30 && (bif !p0.freg then (p0.fInstr.fSrc == 0) || (p0.freg && (p0.fInstr.fImm == 0)) else p0.freg && (p0.fInstr.fImm == 0))))] ?_ ?_))))
   · cases hc31 : (v30)
     · exact TO.s rfl rfl rfl rfl rfl rfl (TO.s rfl rfl rfl rfl rfl rfl (TO.s rfl rfl rfl rfl rfl rfl (TO.s rfl rfl rfl rfl rfl rfl (TO.su rfl rfl rfl rfl rfl (TO.su rfl rfl rfl rfl rfl (TO.su rfl rfl rfl rfl rfl (TO.su rfl rfl rfl rfl rfl (TO.s rfl rfl rfl rfl rfl rfl (TO.s rfl rfl rfl rfl rfl rfl (TO.su rfl rfl rfl rfl rfl (TO.su rfl rfl rfl rfl rfl (TO.su rfl rfl rfl rfl rfl (TO.su rfl rfl rfl rfl rfl (TO.su rfl rfl rfl rfl rfl (TO.su rfl rfl rfl rfl rfl (TO.su rfl rfl rfl rfl rfl (TO.su rfl rfl rfl rfl rfl (TO.s rfl rfl rfl rfl rfl rfl (TO.u rfl rfl (TX.pickF rfl rfl rfl (TO.nil (TE.cutS 20 rfl rfl ⟨rfl, trivial⟩))))))))))))))))))))))
     refine TO.g rfl rfl rfl rfl (TX.fieldAddr' Try.runUnderlying58 rfl Try.sizeOf4 rfl rfl rfl (TO.g rfl rfl rfl rfl (TX.load1 (i := 0) Try.isAgg4 rfl rfl rfl rfl (TO.g rfl rfl rfl rfl (TX.not rfl rfl (TO.g rfl rfl rfl rfl (TX.move rfl rfl ?_)))))))
     cases hc32 : (!p0.freg)
     · refine TO.s rfl rfl rfl rfl rfl rfl (TO.s rfl rfl rfl rfl rfl rfl (TO.s rfl rfl rfl rfl rfl rfl (TO.s rfl rfl rfl rfl rfl rfl (TO.g rfl rfl rfl rfl (TX.pickF rfl rfl rfl (TO.g rfl rfl rfl rfl (TX.move rfl rfl (TO.g rfl rfl rfl rfl (TX.fieldAddr' Try.runUnderlying58 rfl Try.sizeOf4 rfl rfl rfl (TO.g rfl rfl rfl rfl (TX.load1 (i := 0) Try.isAgg4 rfl rfl rfl rfl (TO.g rfl rfl rfl rfl (TX.move rfl rfl ?_)))))))))))))
       cases hc33 : (p0.freg)
       · exact TO.s rfl rfl rfl rfl rfl rfl (TO.s rfl rfl rfl rfl rfl rfl (TO.s rfl rfl rfl rfl rfl rfl (TO.s rfl rfl rfl rfl rfl rfl (TO.g rfl rfl rfl rfl (TX.pickF rfl rfl rfl (TO.g rfl rfl rfl rfl (TX.pickF rfl rfl rfl (TO.u rfl rfl (TX.pickT rfl rfl rfl (TO.nil (TE.cutS 20 rfl rfl ⟨rfl, trivial⟩)))))))))))
       exact TO.g rfl rfl rfl rfl (TX.fieldAddr' Try.runUnderlying58 rfl Try.sizeOf27 rfl rfl rfl (TO.g rfl rfl rfl rfl (TX.fieldAddr' Try.runUnderlying27 rfl Try.sizeOf21 rfl rfl rfl (TO.g rfl rfl rfl rfl (TX.load1 (i := 0) Try.isAgg21 rfl rfl rfl rfl (TO.g rfl rfl rfl rfl (TX.ibin rfl rfl rfl rfl (TO.g rfl rfl rfl rfl (TX.pickT rfl rfl rfl (TO.g rfl rfl rfl rfl (TX.pickF rfl rfl rfl (TO.u rfl rfl (TX.pickT rfl rfl rfl (TO.nil (TE.cutS 20 rfl rfl ⟨rfl, trivial⟩)))))))))))))))
     refine TO.g rfl rfl rfl rfl (TX.fieldAddr' Try.runUnderlying58 rfl Try.sizeOf27 rfl rfl rfl (TO.g rfl rfl rfl rfl (TX.fieldAddr' Try.runUnderlying27 rfl Try.sizeOf5 rfl rfl rfl (TO.g rfl rfl rfl rfl (TX.load1 (i := 0) Try.isAgg5 rfl rfl rfl rfl (TO.g rfl rfl rfl rfl (TX.ibin rfl rfl rfl rfl (TO.g rfl rfl rfl rfl (TX.pickT rfl rfl rfl (TO.g rfl rfl rfl rfl (TX.move rfl rfl ?_)))))))))))
     cases hc34 : (p0.fInstr.fSrc == 0)
     · refine TO.g rfl rfl rfl rfl (TX.fieldAddr' Try.runUnderlying58 rfl Try.sizeOf4 rfl rfl rfl (TO.g rfl rfl rfl rfl (TX.load1 (i := 0) Try.isAgg4 rfl rfl rfl rfl (TO.g rfl rfl rfl rfl (TX.move rfl rfl ?_)))))
       cases hc35 : (p0.freg)
       · exact TO.s rfl rfl rfl rfl rfl rfl (TO.s rfl rfl rfl rfl rfl rfl (TO.s rfl rfl rfl rfl rfl rfl (TO.s rfl rfl rfl rfl rfl rfl (TO.g rfl rfl rfl rfl (TX.pickF rfl rfl rfl (TO.g rfl rfl rfl rfl (TX.pickF rfl rfl rfl (TO.u rfl rfl (TX.pickT rfl rfl rfl (TO.nil (TE.cutS 20 rfl rfl ⟨rfl, trivial⟩)))))))))))
       exact TO.g rfl rfl rfl rfl (TX.fieldAddr' Try.runUnderlying58 rfl Try.sizeOf27 rfl rfl rfl (TO.g rfl rfl rfl rfl (TX.fieldAddr' Try.runUnderlying27 rfl Try.sizeOf21 rfl rfl rfl (TO.g rfl rfl rfl rfl (TX.load1 (i := 0) Try.isAgg21 rfl rfl rfl rfl (TO.g rfl rfl rfl rfl (TX.ibin rfl rfl rfl rfl (TO.g rfl rfl rfl rfl (TX.pickT rfl rfl rfl (TO.g rfl rfl rfl rfl (TX.pickF rfl rfl rfl (TO.u rfl rfl (TX.pickT rfl rfl rfl (TO.nil (TE.cutS 20 rfl rfl ⟨rfl, trivial⟩)))))))))))))))
     exact TO.s rfl rfl rfl rfl rfl rfl (TO.s rfl rfl rfl rfl rfl rfl (TO.s rfl rfl rfl rfl rfl rfl (TO.su rfl rfl rfl rfl rfl (TO.su rfl rfl rfl rfl rfl (TO.su rfl rfl rfl rfl rfl (TO.su rfl rfl rfl rfl rfl (TO.s rfl rfl rfl rfl rfl rfl (TO.g rfl rfl rfl rfl (TX.pickT rfl rfl rfl (TO.u rfl rfl (TX.pickT rfl rfl rfl (TO.nil (TE.cutS 20 rfl rfl ⟨rfl, trivial⟩)))))))))))))
   refine TO.u rfl rfl (TX.move rfl rfl (TO.cutS 10 [(98, .bool ((v30 && (bif !p0.freg then (p0.fInstr.fSrc == 0) || (p0.freg && (p0.fInstr.fImm == 0)) else p0.freg && (p0.fInstr.fImm == 0))) && ((p0.fop != 128) || (p0.fInstr.fImm == 0))))] ?_ ?_))
   · cases hc36 : (v30 && (bif !p0.freg then (p0.fInstr.fSrc == 0) || (p0.freg && (p0.fInstr.fImm == 0)) else p0.freg && (p0.fInstr.fImm == 0)))
     · exact TO.s rfl rfl rfl rfl rfl rfl (TO.s rfl rfl rfl rfl rfl rfl (TO.s rfl rfl rfl rfl rfl rfl (TO.s rfl rfl rfl rfl rfl rfl (TO.su rfl rfl rfl rfl rfl (TO.su rfl rfl rfl rfl rfl (TO.su rfl rfl rfl rfl rfl (TO.su rfl rfl rfl rfl rfl (TO.s rfl rfl rfl rfl rfl rfl (TO.u rfl rfl (TX.pickF rfl rfl rfl (TO.nil (TE.cutS 10 rfl rfl ⟨rfl, trivial⟩))))))))))))
     refine TO.g rfl rfl rfl rfl (TX.fieldAddr' Try.runUnderlying58 rfl Try.sizeOf5 rfl rfl rfl (TO.g rfl rfl rfl rfl (TX.load1 (i := 0) Try.isAgg5 rfl rfl rfl rfl (TO.g rfl rfl rfl rfl (TX.ibin rfl rfl rfl rfl (TO.g rfl rfl rfl rfl (TX.move rfl rfl ?_)))))))
     cases hc37 : (p0.fop != 128)
     · exact TO.g rfl rfl rfl rfl (TX.fieldAddr' Try.runUnderlying58 rfl Try.sizeOf27 rfl rfl rfl (TO.g rfl rfl rfl rfl (TX.fieldAddr' Try.runUnderlying27 rfl Try.sizeOf21 rfl rfl rfl (TO.g rfl rfl rfl rfl (TX.load1 (i := 0) Try.isAgg21 rfl rfl rfl rfl (TO.g rfl rfl rfl rfl (TX.ibin rfl rfl rfl rfl (TO.g rfl rfl rfl rfl (TX.pickF rfl rfl rfl (TO.u rfl rfl (TX.pickT rfl rfl rfl (TO.nil (TE.cutS 10 rfl rfl ⟨rfl, trivial⟩)))))))))))))
     exact TO.s rfl rfl rfl rfl rfl rfl (TO.s rfl rfl rfl rfl rfl rfl (TO.s rfl rfl rfl rfl rfl rfl (TO.s rfl rfl rfl rfl rfl rfl (TO.g rfl rfl rfl rfl (TX.pickT rfl rfl rfl (TO.u rfl rfl (TX.pickT rfl rfl rfl (TO.nil (TE.cutS 10 rfl rfl ⟨rfl, trivial⟩)))))))))
   exact TO.u rfl rfl (TX.assign rfl rfl (TO.nil (TE.thenN rfl rfl (TC.ret (TE.fin (R := ⟨[], []⟩) (TL.ret (R' := ⟨[], []⟩) Try.results67 (.cons (.tmp rfl) .nil) (subD 1 2 rfl rfl) ⟨congrArg ret67 (Option.some.inj h), rfl⟩))))))
 replace h := ie h hb18
 refine TC.region (TO.u rfl rfl (TX.fieldAddr' Try.runUnderlying58 rfl Try.sizeOf5 rfl rfl rfl (TO.u rfl rfl (TX.load1 (i := 0) Try.isAgg5 rfl rfl rfl rfl (TO.u rfl rfl (TX.ibin rfl rfl rfl rfl (TO.u rfl rfl (TX.assign rfl rfl (TO.nil (TE.thenN rfl rfl (TC.cond rfl (fun hb38 => ?_) (fun hb38 => ?_))))))))))))
 · replace h := it h hb38
   refine TC.region (TO.u rfl rfl (TX.move rfl rfl (TO.u rfl rfl (TX.buildS (N := (En.int .i16)) (ys := ([1] : List Int)) Try.runUnderlying110 Try.sizeOf25 Try.zeroValue25 rfl rfl rfl rfl (fillS [.int .i16 1] rfl rfl rfl rfl) rfl (fun sp39 Hs41 ho42 => ?_)))))
   obtain ⟨hk43, h⟩ := ck h
   refine TO.u rfl rfl (TX.appendS (N := (En.int .i16)) (si := 1) (xs := ([0] : List Int)) (ys := ([1] : List Int)) Try.runUnderlying110 Try.typeInfo25 rfl rfl rfl rfl rfl rfl rfl rfl rfl ho17 (fun a w s => ho42.rd s (i := 0) rfl) hk43 rfl (fun sp44 cap45 Hs46 _ S47 ho48 => ?_))
   cases S47
   refine TO.u rfl rfl (TX.assign rfl rfl (TO.nil (TE.blockN (TE.thenN rfl rfl (TC.seq (TC.region (TO.u rfl rfl (TX.move rfl rfl (TO.u rfl rfl (TX.fieldAddr' Try.runUnderlying58 rfl Try.sizeOf27 rfl rfl rfl (TO.u rfl rfl (TX.fieldAddr' Try.runUnderlying27 rfl Try.sizeOf25 rfl rfl rfl (TO.u rfl rfl (TX.load1 (i := 0) Try.isAgg25 rfl rfl rfl rfl ?_))))))))))))))
   obtain ⟨v50, hv50, h⟩ := bd h
   refine TO.u rfl rfl (TX.callP Try.call81 rfl (fun a w s => c81 F _ _ _ (([0] : List Int) ++ ([1] : List Int)) p0.fInstr.fOff _ _ rfl ho48.le_cap (ho48.rdf0 s (i := 1) rfl) hv50) rfl (TO.u rfl rfl (TX.move rfl rfl (TO.cutS 20 [(87, .bool (v50 && (bif !p0.freg then (p0.fInstr.fSrc == 0) || (p0.freg && (p0.fInstr.fImm == 0)) else p0.freg && (p0.fInstr.fImm == 0))))] ?_ ?_))))
   · cases hc51 : (v50)
     · exact TO.s rfl rfl rfl rfl rfl rfl (TO.s rfl rfl rfl rfl rfl rfl (TO.s rfl rfl rfl rfl rfl rfl (TO.s rfl rfl rfl rfl rfl rfl (TO.su rfl rfl rfl rfl rfl (TO.su rfl rfl rfl rfl rfl (TO.su rfl rfl rfl rfl rfl (TO.su rfl rfl rfl rfl rfl (TO.s rfl rfl rfl rfl rfl rfl (TO.s rfl rfl rfl rfl rfl rfl (TO.su rfl rfl rfl rfl rfl (TO.su rfl rfl rfl rfl rfl (TO.su rfl rfl rfl rfl rfl (TO.su rfl rfl rfl rfl rfl (TO.su rfl rfl rfl rfl rfl (TO.su rfl rfl rfl rfl rfl (TO.su rfl rfl rfl rfl rfl (TO.su rfl rfl rfl rfl rfl (TO.s rfl rfl rfl rfl rfl rfl (TO.u rfl rfl (TX.pickF rfl rfl rfl (TO.nil (TE.cutS 20 rfl rfl ⟨rfl, trivial⟩))))))))))))))))))))))
     refine TO.g rfl rfl rfl rfl (TX.fieldAddr' Try.runUnderlying58 rfl Try.sizeOf4 rfl rfl rfl (TO.g rfl rfl rfl rfl (TX.load1 (i := 0) Try.isAgg4 rfl rfl rfl rfl (TO.g rfl rfl rfl rfl (TX.not rfl rfl (TO.g rfl rfl rfl rfl (TX.move rfl rfl ?_)))))))
     cases hc52 : (!p0.freg)
     · refine TO.s rfl rfl rfl rfl rfl rfl (TO.s rfl rfl rfl rfl rfl rfl (TO.s rfl rfl rfl rfl rfl rfl (TO.s rfl rfl rfl rfl rfl rfl (TO.g rfl rfl rfl rfl (TX.pickF rfl rfl rfl (TO.g rfl rfl rfl rfl (TX.move rfl rfl (TO.g rfl rfl rfl rfl (TX.fieldAddr' Try.runUnderlying58 rfl Try.sizeOf4 rfl rfl rfl (TO.g rfl rfl rfl rfl (TX.load1 (i := 0) Try.isAgg4 rfl rfl rfl rfl (TO.g rfl rfl rfl rfl (TX.move rfl rfl ?_)))))))))))))
       cases hc53 : (p0.freg)
       · exact TO.s rfl rfl rfl rfl rfl rfl (TO.s rfl rfl rfl rfl rfl rfl (TO.s rfl rfl rfl rfl rfl rfl (TO.s rfl rfl rfl rfl rfl rfl (TO.g rfl rfl rfl rfl (TX.pickF rfl rfl rfl (TO.g rfl rfl rfl rfl (TX.pickF rfl rfl rfl (TO.u rfl rfl (TX.pickT rfl rfl rfl (TO.nil (TE.cutS 20 rfl rfl ⟨rfl, trivial⟩)))))))))))
       exact TO.g rfl rfl rfl rfl (TX.fieldAddr' Try.runUnderlying58 rfl Try.sizeOf27 rfl rfl rfl (TO.g rfl rfl rfl rfl (TX.fieldAddr' Try.runUnderlying27 rfl Try.sizeOf21 rfl rfl rfl (TO.g rfl rfl rfl rfl (TX.load1 (i := 0) Try.isAgg21 rfl rfl rfl rfl (TO.g rfl rfl rfl rfl (TX.ibin rfl rfl rfl rfl (TO.g rfl rfl rfl rfl (TX.pickT rfl rfl rfl (TO.g rfl rfl rfl rfl (TX.pickF rfl rfl rfl (TO.u rfl rfl (TX.pickT rfl rfl rfl (TO.nil (TE.cutS 20 rfl rfl ⟨rfl, trivial⟩)))))))))))))))
     refine TO.g rfl rfl rfl rfl (TX.fieldAddr' Try.runUnderlying58 rfl Try.sizeOf27 rfl rfl rfl (TO.g rfl rfl rfl rfl (TX.fieldAddr' Try.runUnderlying27 rfl Try.sizeOf5 rfl rfl rfl (TO.g rfl rfl rfl rfl (TX.load1 (i := 0) Try.isAgg5 rfl rfl rfl rfl (TO.g rfl rfl rfl rfl (TX.ibin rfl rfl rfl rfl (TO.g rfl rfl rfl rfl (TX.pickT rfl rfl rfl (TO.g rfl rfl rfl rfl (TX.move rfl rfl ?_)))))))))))
     cases hc54 : (p0.fInstr.fSrc == 0)
     · refine TO.g rfl rfl rfl rfl (TX.fieldAddr' Try.runUnderlying58 rfl Try.sizeOf4 rfl rfl rfl (TO.g rfl rfl rfl rfl (TX.load1 (i := 0) Try.isAgg4 rfl rfl rfl rfl (TO.g rfl rfl rfl rfl (TX.move rfl rfl ?_)))))
       cases hc55 : (p0.freg)
       · exact TO.s rfl rfl rfl rfl rfl rfl (TO.s rfl rfl rfl rfl rfl rfl (TO.s rfl rfl rfl rfl rfl rfl (TO.s rfl rfl rfl rfl rfl rfl (TO.g rfl rfl rfl rfl (TX.pickF rfl rfl rfl (TO.g rfl rfl rfl rfl (TX.pickF rfl rfl rfl (TO.u rfl rfl (TX.pickT rfl rfl rfl (TO.nil (TE.cutS 20 rfl rfl ⟨rfl, trivial⟩)))))))))))
       exact TO.g rfl rfl rfl rfl (TX.fieldAddr' Try.runUnderlying58 rfl Try.sizeOf27 rfl rfl rfl (TO.g rfl rfl rfl rfl (TX.fieldAddr' Try.runUnderlying27 rfl Try.sizeOf21 rfl rfl rfl (TO.g rfl rfl rfl rfl (TX.load1 (i := 0) Try.isAgg21 rfl rfl rfl rfl (TO.g rfl rfl rfl rfl (TX.ibin rfl rfl rfl rfl (TO.g rfl rfl rfl rfl (TX.pickT rfl rfl rfl (TO.g rfl rfl rfl rfl (TX.pickF rfl rfl rfl (TO.u rfl rfl (TX.pickT rfl rfl rfl (TO.nil (TE.cutS 20 rfl rfl ⟨rfl, trivial⟩)))))))))))))))
     exact TO.s rfl rfl rfl rfl rfl rfl (TO.s rfl rfl rfl rfl rfl rfl (TO.s rfl rfl rfl rfl rfl rfl (TO.su rfl rfl rfl rfl rfl (TO.su rfl rfl rfl rfl rfl (TO.su rfl rfl rfl rfl rfl (TO.su rfl rfl rfl rfl rfl (TO.s rfl rfl rfl rfl rfl rfl (TO.g rfl rfl rfl rfl (TX.pickT rfl rfl rfl (TO.u rfl rfl (TX.pickT rfl rfl rfl (TO.nil (TE.cutS 20 rfl rfl ⟨rfl, trivial⟩)))))))))))))
   refine TO.u rfl rfl (TX.move rfl rfl (TO.cutS 10 [(98, .bool ((v50 && (bif !p0.freg then (p0.fInstr.fSrc == 0) || (p0.freg && (p0.fInstr.fImm == 0)) else p0.freg && (p0.fInstr.fImm == 0))) && ((p0.fop != 128) || (p0.fInstr.fImm == 0))))] ?_ ?_))
   · cases hc56 : (v50 && (bif !p0.freg then (p0.fInstr.fSrc == 0) || (p0.freg && (p0.fInstr.fImm == 0)) else p0.freg && (p0.fInstr.fImm == 0)))
     · exact TO.s rfl rfl rfl rfl rfl rfl (TO.s rfl rfl rfl rfl rfl rfl (TO.s rfl rfl rfl rfl rfl rfl (TO.s rfl rfl rfl rfl rfl rfl (TO.su rfl rfl rfl rfl rfl (TO.su rfl rfl rfl rfl rfl (TO.su rfl rfl rfl rfl rfl (TO.su rfl rfl rfl rfl rfl (TO.s rfl rfl rfl rfl rfl rfl (TO.u rfl rfl (TX.pickF rfl rfl rfl (TO.nil (TE.cutS 10 rfl rfl ⟨rfl, trivial⟩))))))))))))
     refine TO.g rfl rfl rfl rfl (TX.fieldAddr' Try.runUnderlying58 rfl Try.sizeOf5 rfl rfl rfl (TO.g rfl rfl rfl rfl (TX.load1 (i := 0) Try.isAgg5 rfl rfl rfl rfl (TO.g rfl rfl rfl rfl (TX.ibin rfl rfl rfl rfl (TO.g rfl rfl rfl rfl (TX.move rfl rfl ?_)))))))
     cases hc57 : (p0.fop != 128)
     · exact TO.g rfl rfl rfl rfl (TX.fieldAddr' Try.runUnderlying58 rfl Try.sizeOf27 rfl rfl rfl (TO.g rfl rfl rfl rfl (TX.fieldAddr' Try.runUnderlying27 rfl Try.sizeOf21 rfl rfl rfl (TO.g rfl rfl rfl rfl (TX.load1 (i := 0) Try.isAgg21 rfl rfl rfl rfl (TO.g rfl rfl rfl rfl (TX.ibin rfl rfl rfl rfl (TO.g rfl rfl rfl rfl (TX.pickF rfl rfl rfl (TO.u rfl rfl (TX.pickT rfl rfl rfl (TO.nil (TE.cutS 10 rfl rfl ⟨rfl, trivial⟩)))))))))))))
     exact TO.s rfl rfl rfl rfl rfl rfl (TO.s rfl rfl rfl rfl rfl rfl (TO.s rfl rfl rfl rfl rfl rfl (TO.s rfl rfl rfl rfl rfl rfl (TO.g rfl rfl rfl rfl (TX.pickT rfl rfl rfl (TO.u rfl rfl (TX.pickT rfl rfl rfl (TO.nil (TE.cutS 10 rfl rfl ⟨rfl, trivial⟩)))))))))
   exact TO.u rfl rfl (TX.assign rfl rfl (TO.nil (TE.thenN rfl rfl (TC.ret (TE.fin (R := ⟨[], []⟩) (TL.ret (R' := ⟨[], []⟩) Try.results67 (.cons (.tmp rfl) .nil) (subD 1 2 rfl rfl) ⟨congrArg ret67 (Option.some.inj h), rfl⟩))))))
 replace h := ie h hb38
 refine TC.seq (TC.region (TO.u rfl rfl (TX.fieldAddr' Try.runUnderlying58 rfl Try.sizeOf5 rfl rfl rfl (TO.u rfl rfl (TX.load1 (i := 0) Try.isAgg5 rfl rfl rfl rfl (TO.u rfl rfl (TX.ibin rfl rfl rfl rfl (TO.u rfl rfl (TX.move rfl rfl (TO.cutS 3 [(42, .bool ((p0.fop == 176) && p0.freg))] ?_ ?_))))))))))
 · cases hc58 : (p0.fop == 176)
   · exact TO.s rfl rfl rfl rfl rfl rfl (TO.s rfl rfl rfl rfl rfl rfl (TO.u rfl rfl (TX.pickF rfl rfl rfl (TO.nil (TE.cutS 3 rfl rfl ⟨rfl, trivial⟩)))))
   exact TO.g rfl rfl rfl rfl (TX.fieldAddr' Try.runUnderlying58 rfl Try.sizeOf4 rfl rfl rfl (TO.g rfl rfl rfl rfl (TX.load1 (i := 0) Try.isAgg4 rfl rfl rfl rfl (TO.u rfl rfl (TX.pickT rfl rfl rfl (TO.nil (TE.cutS 3 rfl rfl ⟨rfl, trivial⟩)))))))
 refine TO.u rfl rfl (TX.move rfl rfl (TO.cutS 4 [(47, .bool (((p0.fop == 176) && p0.freg) && (p0.fclass == 7)))] ?_ ?_))
 · cases hc59 : ((p0.fop == 176) && p0.freg)
   · exact TO.s rfl rfl rfl rfl rfl rfl (TO.s rfl rfl rfl rfl rfl rfl (TO.s rfl rfl rfl rfl rfl rfl (TO.u rfl rfl (TX.pickF rfl rfl rfl (TO.nil (TE.cutS 4 rfl rfl ⟨rfl, trivial⟩))))))
   exact TO.g rfl rfl rfl rfl (TX.fieldAddr' Try.runUnderlying58 rfl Try.sizeOf5 rfl rfl rfl (TO.g rfl rfl rfl rfl (TX.load1 (i := 0) Try.isAgg5 rfl rfl rfl rfl (TO.g rfl rfl rfl rfl (TX.ibin rfl rfl rfl rfl (TO.u rfl rfl (TX.pickT rfl rfl rfl (TO.nil (TE.cutS 4 rfl rfl ⟨rfl, trivial⟩)))))))))
 refine TO.u rfl rfl (TX.assign rfl rfl (TO.nil (TE.thenN rfl rfl (TC.cond rfl (fun hb60 => ?_) (fun hb60 => ?_)))))
 · replace h := it h hb60
   refine TC.region (TO.u rfl rfl (TX.move rfl rfl (TO.u rfl rfl (TX.buildS (N := (En.int .i16)) (ys := ([8, 16, 32] : List Int)) Try.runUnderlying110 Try.sizeOf25 Try.zeroValue25 rfl rfl rfl rfl (fillS [.int .i16 8, .int .i16 16, .int .i16 32] rfl rfl rfl rfl) rfl (fun sp61 Hs63 ho64 => ?_)))))
   obtain ⟨hk65, h⟩ := ck h
   refine TO.u rfl rfl (TX.appendS (N := (En.int .i16)) (si := 1) (xs := ([0] : List Int)) (ys := ([8, 16, 32] : List Int)) Try.runUnderlying110 Try.typeInfo25 rfl rfl rfl rfl rfl rfl rfl rfl rfl ho17 (fun a w s => ho64.rd s (i := 0) rfl) hk65 rfl (fun sp66 cap67 Hs68 _ S69 ho70 => ?_))
   cases S69
   refine TO.u rfl rfl (TX.assign rfl rfl (TO.nil (TE.blockN (TE.thenN rfl rfl (TC.seq (TC.region (TO.u rfl rfl (TX.move rfl rfl (TO.u rfl rfl (TX.fieldAddr' Try.runUnderlying58 rfl Try.sizeOf27 rfl rfl rfl (TO.u rfl rfl (TX.fieldAddr' Try.runUnderlying27 rfl Try.sizeOf25 rfl rfl rfl (TO.u rfl rfl (TX.load1 (i := 0) Try.isAgg25 rfl rfl rfl rfl ?_))))))))))))))
   obtain ⟨v72, hv72, h⟩ := bd h
   refine TO.u rfl rfl (TX.callP Try.call81 rfl (fun a w s => c81 F _ _ _ (([0] : List Int) ++ ([8, 16, 32] : List Int)) p0.fInstr.fOff _ _ rfl ho70.le_cap (ho70.rdf0 s (i := 1) rfl) hv72) rfl (TO.u rfl rfl (TX.move rfl rfl (TO.cutS 20 [(87, .bool (v72 && (bif !p0.freg then (p0.fInstr.fSrc == 0) || (p0.freg && (p0.fInstr.fImm == 0)) else p0.freg && (p0.fInstr.fImm == 0))))] ?_ ?_))))
   · cases hc73 : (v72)
     · exact TO.s rfl rfl rfl rfl rfl rfl (TO.s rfl rfl rfl rfl rfl rfl (TO.s rfl rfl rfl rfl rfl rfl (TO.s rfl rfl rfl rfl rfl rfl (TO.su rfl rfl rfl rfl rfl (TO.su rfl rfl rfl rfl rfl (TO.su rfl rfl rfl rfl rfl (TO.su rfl rfl rfl rfl rfl (TO.s rfl rfl rfl rfl rfl rfl (TO.s rfl rfl rfl rfl rfl rfl (TO.su rfl rfl rfl rfl rfl (TO.su rfl rfl rfl rfl rfl (TO.su rfl rfl rfl rfl rfl (TO.su rfl rfl rfl rfl rfl (TO.su rfl rfl rfl rfl rfl (TO.su rfl rfl rfl rfl rfl (TO.su rfl rfl rfl rfl rfl (TO.su rfl rfl rfl rfl rfl (TO.s rfl rfl rfl rfl rfl rfl (TO.u rfl rfl (TX.pickF rfl rfl rfl (TO.nil (TE.cutS 20 rfl rfl ⟨rfl, trivial⟩))))))))))))))))))))))
     refine TO.g rfl rfl rfl rfl (TX.fieldAddr' Try.runUnderlying58 rfl Try.sizeOf4 rfl rfl rfl (TO.g rfl rfl rfl rfl (TX.load1 (i := 0) Try.isAgg4 rfl rfl rfl rfl (TO.g rfl rfl rfl rfl (TX.not rfl rfl (TO.g rfl rfl rfl rfl (TX.move rfl rfl ?_)))))))
     cases hc74 : (!p0.freg)
     · refine TO.s rfl rfl rfl rfl rfl rfl (TO.s rfl rfl rfl rfl rfl rfl (TO.s rfl rfl rfl rfl rfl rfl (TO.s rfl rfl rfl rfl rfl rfl (TO.g rfl rfl rfl rfl (TX.pickF rfl rfl rfl (TO.g rfl rfl rfl rfl (TX.move rfl rfl (TO.g rfl rfl rfl rfl (TX.fieldAddr' Try.runUnderlying58 rfl Try.sizeOf4 rfl rfl rfl (TO.g rfl rfl rfl rfl (TX.load1 (i := 0) Try.isAgg4 rfl rfl rfl rfl (TO.g rfl rfl rfl rfl (TX.move rfl rfl ?_)))))))))))))
       cases hc75 : (p0.freg)
       · exact TO.s rfl rfl rfl rfl rfl rfl (TO.s rfl rfl rfl rfl rfl rfl (TO.s rfl rfl rfl rfl rfl rfl (TO.s rfl rfl rfl rfl rfl rfl (TO.g rfl rfl rfl rfl (TX.pickF rfl rfl rfl (TO.g rfl rfl rfl rfl (TX.pickF rfl rfl rfl (TO.u rfl rfl (TX.pickT rfl rfl rfl (TO.nil (TE.cutS 20 rfl rfl ⟨rfl, trivial⟩)))))))))))
       exact TO.g rfl rfl rfl rfl (TX.fieldAddr' Try.runUnderlying58 rfl Try.sizeOf27 rfl rfl rfl (TO.g rfl rfl rfl rfl (TX.fieldAddr' Try.runUnderlying27 rfl Try.sizeOf21 rfl rfl rfl (TO.g rfl rfl rfl rfl (TX.load1 (i := 0) Try.isAgg21 rfl rfl rfl rfl (TO.g rfl rfl rfl rfl (TX.ibin rfl rfl rfl rfl (TO.g rfl rfl rfl rfl (TX.pickT rfl rfl rfl (TO.g rfl rfl rfl rfl (TX.pickF rfl rfl rfl (TO.u rfl rfl (TX.pickT rfl rfl rfl (TO.nil (TE.cutS 20 rfl rfl ⟨rfl, trivial⟩)))))))))))))))
     refine TO.g rfl rfl rfl rfl (TX.fieldAddr' Try.runUnderlying58 rfl Try.sizeOf27 rfl rfl rfl (TO.g rfl rfl rfl rfl (TX.fieldAddr' Try.runUnderlying27 rfl Try.sizeOf5 rfl rfl rfl (TO.g rfl rfl rfl rfl (TX.load1 (i := 0) Try.isAgg5 rfl rfl rfl rfl (TO.g rfl rfl rfl rfl (TX.ibin rfl rfl rfl rfl (TO.g rfl rfl rfl rfl (TX.pickT rfl rfl rfl (TO.g rfl rfl rfl rfl (TX.move rfl rfl ?_)))))))))))
     cases hc76 : (p0.fInstr.fSrc == 0)
     · refine TO.g rfl rfl rfl rfl (TX.fieldAddr' Try.runUnderlying58 rfl Try.sizeOf4 rfl rfl rfl (TO.g rfl rfl rfl rfl (TX.load1 (i := 0) Try.isAgg4 rfl rfl rfl rfl (TO.g rfl rfl rfl rfl (TX.move rfl rfl ?_)))))
       cases hc77 : (p0.freg)
       · exact TO.s rfl rfl rfl rfl rfl rfl (TO.s rfl rfl rfl rfl rfl rfl (TO.s rfl rfl rfl rfl rfl rfl (TO.s rfl rfl rfl rfl rfl rfl (TO.g rfl rfl rfl rfl (TX.pickF rfl rfl rfl (TO.g rfl rfl rfl rfl (TX.pickF rfl rfl rfl (TO.u rfl rfl (TX.pickT rfl rfl rfl (TO.nil (TE.cutS 20 rfl rfl ⟨rfl, trivial⟩)))))))))))
       exact TO.g rfl rfl rfl rfl (TX.fieldAddr' Try.runUnderlying58 rfl Try.sizeOf27 rfl rfl rfl (TO.g rfl rfl rfl rfl (TX.fieldAddr' Try.runUnderlying27 rfl Try.sizeOf21 rfl rfl rfl (TO.g rfl rfl rfl rfl (TX.load1 (i := 0) Try.isAgg21 rfl rfl rfl rfl (TO.g rfl rfl rfl rfl (TX.ibin rfl rfl rfl rfl (TO.g rfl rfl rfl rfl (TX.pickT rfl rfl rfl (TO.g rfl rfl rfl rfl (TX.pickF rfl rfl rfl (TO.u rfl rfl (TX.pickT rfl rfl rfl (TO.nil (TE.cutS 20 rfl rfl ⟨rfl, trivial⟩)))))))))))))))
     exact TO.s rfl rfl rfl rfl rfl rfl (TO.s rfl rfl rfl rfl rfl rfl (TO.s rfl rfl rfl rfl rfl rfl (TO.su rfl rfl rfl rfl rfl (TO.su rfl rfl rfl rfl rfl (TO.su rfl rfl rfl rfl rfl (TO.su rfl rfl rfl rfl rfl (TO.s rfl rfl rfl rfl rfl rfl (TO.g rfl rfl rfl rfl (TX.pickT rfl rfl rfl (TO.u rfl rfl (TX.pickT rfl rfl rfl (TO.nil (TE.cutS 20 rfl rfl ⟨rfl, trivial⟩)))))))))))))
   refine TO.u rfl rfl (TX.move rfl rfl (TO.cutS 10 [(98, .bool ((v72 && (bif !p0.freg then (p0.fInstr.fSrc == 0) || (p0.freg && (p0.fInstr.fImm == 0)) else p0.freg && (p0.fInstr.fImm == 0))) && ((p0.fop != 128) || (p0.fInstr.fImm == 0))))] ?_ ?_))
   · cases hc78 : (v72 && (bif !p0.freg then (p0.fInstr.fSrc == 0) || (p0.freg && (p0.fInstr.fImm == 0)) else p0.freg && (p0.fInstr.fImm == 0)))
     · exact TO.s rfl rfl rfl rfl rfl rfl (TO.s rfl rfl rfl rfl rfl rfl (TO.s rfl rfl rfl rfl rfl rfl (TO.s rfl rfl rfl rfl rfl rfl (TO.su rfl rfl rfl rfl rfl (TO.su rfl rfl rfl rfl rfl (TO.su rfl rfl rfl rfl rfl (TO.su rfl rfl rfl rfl rfl (TO.s rfl rfl rfl rfl rfl rfl (TO.u rfl rfl (TX.pickF rfl rfl rfl (TO.nil (TE.cutS 10 rfl rfl ⟨rfl, trivial⟩))))))))))))
     refine TO.g rfl rfl rfl rfl (TX.fieldAddr' Try.runUnderlying58 rfl Try.sizeOf5 rfl rfl rfl (TO.g rfl rfl rfl rfl (TX.load1 (i := 0) Try.isAgg5 rfl rfl rfl rfl (TO.g rfl rfl rfl rfl (TX.ibin rfl rfl rfl rfl (TO.g rfl rfl rfl rfl (TX.move rfl rfl ?_)))))))
     cases hc79 : (p0.fop != 128)
     · exact TO.g rfl rfl rfl rfl (TX.fieldAddr' Try.runUnderlying58 rfl Try.sizeOf27 rfl rfl rfl (TO.g rfl rfl rfl rfl (TX.fieldAddr' Try.runUnderlying27 rfl Try.sizeOf21 rfl rfl rfl (TO.g rfl rfl rfl rfl (TX.load1 (i := 0) Try.isAgg21 rfl rfl rfl rfl (TO.g rfl rfl rfl rfl (TX.ibin rfl rfl rfl rfl (TO.g rfl rfl rfl rfl (TX.pickF rfl rfl rfl (TO.u rfl rfl (TX.pickT rfl rfl rfl (TO.nil (TE.cutS 10 rfl rfl ⟨rfl, trivial⟩)))))))))))))
     exact TO.s rfl rfl rfl rfl rfl rfl (TO.s rfl rfl rfl rfl rfl rfl (TO.s rfl rfl rfl rfl rfl rfl (TO.s rfl rfl rfl rfl rfl rfl (TO.g rfl rfl rfl rfl (TX.pickT rfl rfl rfl (TO.u rfl rfl (TX.pickT rfl rfl rfl (TO.nil (TE.cutS 10 rfl rfl ⟨rfl, trivial⟩)))))))))
   exact TO.u rfl rfl (TX.assign rfl rfl (TO.nil (TE.thenN rfl rfl (TC.ret (TE.fin (R := ⟨[], []⟩) (TL.ret (R' := ⟨[], []⟩) Try.results67 (.cons (.tmp rfl) .nil) (subD 1 2 rfl rfl) ⟨congrArg ret67 (Option.some.inj h), rfl⟩))))))
 replace h := ie h hb60
 refine TC.seq (TC.region (TO.u rfl rfl (TX.fieldAddr' Try.runUnderlying58 rfl Try.sizeOf5 rfl rfl rfl (TO.u rfl rfl (TX.load1 (i := 0) Try.isAgg5 rfl rfl rfl rfl (TO.u rfl rfl (TX.ibin rfl rfl rfl rfl (TO.u rfl rfl (TX.move rfl rfl (TO.cutS 3 [(58, .bool ((p0.fop == 176) && p0.freg))] ?_ ?_))))))))))
 · cases hc80 : (p0.fop == 176)
   · exact TO.s rfl rfl rfl rfl rfl rfl (TO.s rfl rfl rfl rfl rfl rfl (TO.u rfl rfl (TX.pickF rfl rfl rfl (TO.nil (TE.cutS 3 rfl rfl ⟨rfl, trivial⟩)))))
   exact TO.g rfl rfl rfl rfl (TX.fieldAddr' Try.runUnderlying58 rfl Try.sizeOf4 rfl rfl rfl (TO.g rfl rfl rfl rfl (TX.load1 (i := 0) Try.isAgg4 rfl rfl rfl rfl (TO.u rfl rfl (TX.pickT rfl rfl rfl (TO.nil (TE.cutS 3 rfl rfl ⟨rfl, trivial⟩)))))))
 refine TO.u rfl rfl (TX.assign rfl rfl (TO.nil (TE.thenN rfl rfl (TC.cond rfl (fun hb81 => ?_) (fun hb81 => ?_)))))
 · replace h := it h hb81
   refine TC.region (TO.u rfl rfl (TX.move rfl rfl (TO.u rfl rfl (TX.buildS (N := (En.int .i16)) (ys := ([8, 16] : List Int)) Try.runUnderlying110 Try.sizeOf25 Try.zeroValue25 rfl rfl rfl rfl (fillS [.int .i16 8, .int .i16 16] rfl rfl rfl rfl) rfl (fun sp82 Hs84 ho85 => ?_)))))
   obtain ⟨hk86, h⟩ := ck h
   refine TO.u rfl rfl (TX.appendS (N := (En.int .i16)) (si := 1) (xs := ([0] : List Int)) (ys := ([8, 16] : List Int)) Try.runUnderlying110 Try.typeInfo25 rfl rfl rfl rfl rfl rfl rfl rfl rfl ho17 (fun a w s => ho85.rd s (i := 0) rfl) hk86 rfl (fun sp87 cap88 Hs89 _ S90 ho91 => ?_))
   cases S90
   refine TO.u rfl rfl (TX.assign rfl rfl (TO.nil (TE.blockN (TE.thenN rfl rfl (TC.seq (TC.region (TO.u rfl rfl (TX.move rfl rfl (TO.u rfl rfl (TX.fieldAddr' Try.runUnderlying58 rfl Try.sizeOf27 rfl rfl rfl (TO.u rfl rfl (TX.fieldAddr' Try.runUnderlying27 rfl Try.sizeOf25 rfl rfl rfl (TO.u rfl rfl (TX.load1 (i := 0) Try.isAgg25 rfl rfl rfl rfl ?_))))))))))))))
   obtain ⟨v93, hv93, h⟩ := bd h
   refine TO.u rfl rfl (TX.callP Try.call81 rfl (fun a w s => c81 F _ _ _ (([0] : List Int) ++ ([8, 16] : List Int)) p0.fInstr.fOff _ _ rfl ho91.le_cap (ho91.rdf0 s (i := 1) rfl) hv93) rfl (TO.u rfl rfl (TX.move rfl rfl (TO.cutS 20 [(87, .bool (v93 && (bif !p0.freg then (p0.fInstr.fSrc == 0) || (p0.freg && (p0.fInstr.fImm == 0)) else p0.freg && (p0.fInstr.fImm == 0))))] ?_ ?_))))
   · cases hc94 : (v93)
     · exact TO.s rfl rfl rfl rfl rfl rfl (TO.s rfl rfl rfl rfl rfl rfl (TO.s rfl rfl rfl rfl rfl rfl (TO.s rfl rfl rfl rfl rfl rfl (TO.su rfl rfl rfl rfl rfl (TO.su rfl rfl rfl rfl rfl (TO.su rfl rfl rfl rfl rfl (TO.su rfl rfl rfl rfl rfl (TO.s rfl rfl rfl rfl rfl rfl (TO.s rfl rfl rfl rfl rfl rfl (TO.su rfl rfl rfl rfl rfl (TO.su rfl rfl rfl rfl rfl (TO.su rfl rfl rfl rfl rfl (TO.su rfl rfl rfl rfl rfl (TO.su rfl rfl rfl rfl rfl (TO.su rfl rfl rfl rfl rfl (TO.su rfl rfl rfl rfl rfl (TO.su rfl rfl rfl rfl rfl (TO.s rfl rfl rfl rfl rfl rfl (TO.u rfl rfl (TX.pickF rfl rfl rfl (TO.nil (TE.cutS 20 rfl rfl ⟨rfl, trivial⟩))))))))))))))))))))))
     refine TO.g rfl rfl rfl rfl (TX.fieldAddr' Try.runUnderlying58 rfl Try.sizeOf4 rfl rfl rfl (TO.g rfl rfl rfl rfl (TX.load1 (i := 0) Try.isAgg4 rfl rfl rfl rfl (TO.g rfl rfl rfl rfl (TX.not rfl rfl (TO.g rfl rfl rfl rfl (TX.move rfl rfl ?_)))))))
     cases hc95 : (!p0.freg)
     · refine TO.s rfl rfl rfl rfl rfl rfl (TO.s rfl rfl rfl rfl rfl rfl (TO.s rfl rfl rfl rfl rfl rfl (TO.s rfl rfl rfl rfl rfl rfl (TO.g rfl rfl rfl rfl (TX.pickF rfl rfl rfl (TO.g rfl rfl rfl rfl (TX.move rfl rfl (TO.g rfl rfl rfl rfl (TX.fieldAddr' Try.runUnderlying58 rfl Try.sizeOf4 rfl rfl rfl (TO.g rfl rfl rfl rfl (TX.load1 (i := 0) Try.isAgg4 rfl rfl rfl rfl (TO.g rfl rfl rfl rfl (TX.move rfl rfl ?_)))))))))))))
       cases hc96 : (p0.freg)
       · exact TO.s rfl rfl rfl rfl rfl rfl (TO.s rfl rfl rfl rfl rfl rfl (TO.s rfl rfl rfl rfl rfl rfl (TO.s rfl rfl rfl rfl rfl rfl (TO.g rfl rfl rfl rfl (TX.pickF rfl rfl rfl (TO.g rfl rfl rfl rfl (TX.pickF rfl rfl rfl (TO.u rfl rfl (TX.pickT rfl rfl rfl (TO.nil (TE.cutS 20 rfl rfl ⟨rfl, trivial⟩)))))))))))
       exact TO.g rfl rfl rfl rfl (TX.fieldAddr' Try.runUnderlying58 rfl Try.sizeOf27 rfl rfl rfl (TO.g rfl rfl rfl rfl (TX.fieldAddr' Try.runUnderlying27 rfl Try.sizeOf21 rfl rfl rfl (TO.g rfl rfl rfl rfl (TX.load1 (i := 0) Try.isAgg21 rfl rfl rfl rfl (TO.g rfl rfl rfl rfl (TX.ibin rfl rfl rfl rfl (TO.g rfl rfl rfl rfl (TX.pickT rfl rfl rfl (TO.g rfl rfl rfl rfl (TX.pickF rfl rfl rfl (TO.u rfl rfl (TX.pickT rfl rfl rfl (TO.nil (TE.cutS 20 rfl rfl ⟨rfl, trivial⟩)))))))))))))))
     refine TO.g rfl rfl rfl rfl (TX.fieldAddr' Try.runUnderlying58 rfl Try.sizeOf27 rfl rfl rfl (TO.g rfl rfl rfl rfl (TX.fieldAddr' Try.runUnderlying27 rfl Try.sizeOf5 rfl rfl rfl (TO.g rfl rfl rfl rfl (TX.load1 (i := 0) Try.isAgg5 rfl rfl rfl rfl (TO.g rfl rfl rfl rfl (TX.ibin rfl rfl rfl rfl (TO.g rfl rfl rfl rfl (TX.pickT rfl rfl rfl (TO.g rfl rfl rfl rfl (TX.move rfl rfl ?_)))))))))))
     cases hc97 : (p0.fInstr.fSrc == 0)
     · refine TO.g rfl rfl rfl rfl (TX.fieldAddr' Try.runUnderlying58 rfl Try.sizeOf4 rfl rfl rfl (TO.g rfl rfl rfl rfl (TX.load1 (i := 0) Try.isAgg4 rfl rfl rfl rfl (TO.g rfl rfl rfl rfl (TX.move rfl rfl ?_)))))
       cases hc98 : (p0.freg)
       · exact TO.s rfl rfl rfl rfl rfl rfl (TO.s rfl rfl rfl rfl rfl rfl (TO.s rfl rfl rfl rfl rfl rfl (TO.s rfl rfl rfl rfl rfl rfl (TO.g rfl rfl rfl rfl (TX.pickF rfl rfl rfl (TO.g rfl rfl rfl rfl (TX.pickF rfl rfl rfl (TO.u rfl rfl (TX.pickT rfl rfl rfl (TO.nil (TE.cutS 20 rfl rfl ⟨rfl, trivial⟩)))))))))))
       exact TO.g rfl rfl rfl rfl (TX.fieldAddr' Try.runUnderlying58 rfl Try.sizeOf27 rfl rfl rfl (TO.g rfl rfl rfl rfl (TX.fieldAddr' Try.runUnderlying27 rfl Try.sizeOf21 rfl rfl rfl (TO.g rfl rfl rfl rfl (TX.load1 (i := 0) Try.isAgg21 rfl rfl rfl rfl (TO.g rfl rfl rfl rfl (TX.ibin rfl rfl rfl rfl (TO.g rfl rfl rfl rfl (TX.pickT rfl rfl rfl (TO.g rfl rfl rfl rfl (TX.pickF rfl rfl rfl (TO.u rfl rfl (TX.pickT rfl rfl rfl (TO.nil (TE.cutS 20 rfl rfl ⟨rfl, trivial⟩)))))))))))))))
     exact TO.s rfl rfl rfl rfl rfl rfl (TO.s rfl rfl rfl rfl rfl rfl (TO.s rfl rfl rfl rfl rfl rfl (TO.su rfl rfl rfl rfl rfl (TO.su rfl rfl rfl rfl rfl (TO.su rfl rfl rfl rfl rfl (TO.su rfl rfl rfl rfl rfl (TO.s rfl rfl rfl rfl rfl rfl (TO.g rfl rfl rfl rfl (TX.pickT rfl rfl rfl (TO.u rfl rfl (TX.pickT rfl rfl rfl (TO.nil (TE.cutS 20 rfl rfl ⟨rfl, trivial⟩)))))))))))))
   refine TO.u rfl rfl (TX.move rfl rfl (TO.cutS 10 [(98, .bool ((v93 && (bif !p0.freg then (p0.fInstr.fSrc == 0) || (p0.freg && (p0.fInstr.fImm == 0)) else p0.freg && (p0.fInstr.fImm == 0))) && ((p0.fop != 128) || (p0.fInstr.fImm == 0))))] ?_ ?_))
   · cases hc99 : (v93 && (bif !p0.freg then (p0.fInstr.fSrc == 0) || (p0.freg && (p0.fInstr.fImm == 0)) else p0.freg && (p0.fInstr.fImm == 0)))
     · exact TO.s rfl rfl rfl rfl rfl rfl (TO.s rfl rfl rfl rfl rfl rfl (TO.s rfl rfl rfl rfl rfl rfl (TO.s rfl rfl rfl rfl rfl rfl (TO.su rfl rfl rfl rfl rfl (TO.su rfl rfl rfl rfl rfl (TO.su rfl rfl rfl rfl rfl (TO.su rfl rfl rfl rfl rfl (TO.s rfl rfl rfl rfl rfl rfl (TO.u rfl rfl (TX.pickF rfl rfl rfl (TO.nil (TE.cutS 10 rfl rfl ⟨rfl, trivial⟩))))))))))))
     refine TO.g rfl rfl rfl rfl (TX.fieldAddr' Try.runUnderlying58 rfl Try.sizeOf5 rfl rfl rfl (TO.g rfl rfl rfl rfl (TX.load1 (i := 0) Try.isAgg5 rfl rfl rfl rfl (TO.g rfl rfl rfl rfl (TX.ibin rfl rfl rfl rfl (TO.g rfl rfl rfl rfl (TX.move rfl rfl ?_)))))))
     cases hc100 : (p0.fop != 128)
     · exact TO.g rfl rfl rfl rfl (TX.fieldAddr' Try.runUnderlying58 rfl Try.sizeOf27 rfl rfl rfl (TO.g rfl rfl rfl rfl (TX.fieldAddr' Try.runUnderlying27 rfl Try.sizeOf21 rfl rfl rfl (TO.g rfl rfl rfl rfl (TX.load1 (i := 0) Try.isAgg21 rfl rfl rfl rfl (TO.g rfl rfl rfl rfl (TX.ibin rfl rfl rfl rfl (TO.g rfl rfl rfl rfl (TX.pickF rfl rfl rfl (TO.u rfl rfl (TX.pickT rfl rfl rfl (TO.nil (TE.cutS 10 rfl rfl ⟨rfl, trivial⟩)))))))))))))
     exact TO.s rfl rfl rfl rfl rfl rfl (TO.s rfl rfl rfl rfl rfl rfl (TO.s rfl rfl rfl rfl rfl rfl (TO.s rfl rfl rfl rfl rfl rfl (TO.g rfl rfl rfl rfl (TX.pickT rfl rfl rfl (TO.u rfl rfl (TX.pickT rfl rfl rfl (TO.nil (TE.cutS 10 rfl rfl ⟨rfl, trivial⟩)))))))))
   exact TO.u rfl rfl (TX.assign rfl rfl (TO.nil (TE.thenN rfl rfl (TC.ret (TE.fin (R := ⟨[], []⟩) (TL.ret (R' := ⟨[], []⟩) Try.results67 (.cons (.tmp rfl) .nil) (subD 1 2 rfl rfl) ⟨congrArg ret67 (Option.some.inj h), rfl⟩))))))
 replace h := ie h hb81
 refine TC.skip (TE.blockN (TE.thenN rfl rfl (TC.seq (TC.region (TO.u rfl rfl (TX.move rfl rfl (TO.u rfl rfl (TX.fieldAddr' Try.runUnderlying58 rfl Try.sizeOf27 rfl rfl rfl (TO.u rfl rfl (TX.fieldAddr' Try.runUnderlying27 rfl Try.sizeOf25 rfl rfl rfl (TO.u rfl rfl (TX.load1 (i := 0) Try.isAgg25 rfl rfl rfl rfl ?_))))))))))))
 obtain ⟨v101, hv101, h⟩ := bd h
 refine TO.u rfl rfl (TX.callP Try.call81 rfl (fun a w s => c81 F _ _ _ ([0] : List Int) p0.fInstr.fOff _ _ rfl ho17.le_cap (ho17.rdf0 s (i := 0) rfl) hv101) rfl (TO.u rfl rfl (TX.move rfl rfl (TO.cutS 20 [(87, .bool (v101 && (bif !p0.freg then (p0.fInstr.fSrc == 0) || (p0.freg && (p0.fInstr.fImm == 0)) else p0.freg && (p0.fInstr.fImm == 0))))] ?_ ?_))))
 · cases hc102 : (v101)
   · exact TO.s rfl rfl rfl rfl rfl rfl (TO.s rfl rfl rfl rfl rfl rfl (TO.s rfl rfl rfl rfl rfl rfl (TO.s rfl rfl rfl rfl rfl rfl (TO.su rfl rfl rfl rfl rfl (TO.su rfl rfl rfl rfl rfl (TO.su rfl rfl rfl rfl rfl (TO.su rfl rfl rfl rfl rfl (TO.s rfl rfl rfl rfl rfl rfl (TO.s rfl rfl rfl rfl rfl rfl (TO.su rfl rfl rfl rfl rfl (TO.su rfl rfl rfl rfl rfl (TO.su rfl rfl rfl rfl rfl (TO.su rfl rfl rfl rfl rfl (TO.su rfl rfl rfl rfl rfl (TO.su rfl rfl rfl rfl rfl (TO.su rfl rfl rfl rfl rfl (TO.su rfl rfl rfl rfl rfl (TO.s rfl rfl rfl rfl rfl rfl (TO.u rfl rfl (TX.pickF rfl rfl rfl (TO.nil (TE.cutS 20 rfl rfl ⟨rfl, trivial⟩))))))))))))))))))))))
   refine TO.g rfl rfl rfl rfl (TX.fieldAddr' Try.runUnderlying58 rfl Try.sizeOf4 rfl rfl rfl (TO.g rfl rfl rfl rfl (TX.load1 (i := 0) Try.isAgg4 rfl rfl rfl rfl (TO.g rfl rfl rfl rfl (TX.not rfl rfl (TO.g rfl rfl rfl rfl (TX.move rfl rfl ?_)))))))
   cases hc103 : (!p0.freg)
   · refine TO.s rfl rfl rfl rfl rfl rfl (TO.s rfl rfl rfl rfl rfl rfl (TO.s rfl rfl rfl rfl rfl rfl (TO.s rfl rfl rfl rfl rfl rfl (TO.g rfl rfl rfl rfl (TX.pickF rfl rfl rfl (TO.g rfl rfl rfl rfl (TX.move rfl rfl (TO.g rfl rfl rfl rfl (TX.fieldAddr' Try.runUnderlying58 rfl Try.sizeOf4 rfl rfl rfl (TO.g rfl rfl rfl rfl (TX.load1 (i := 0) Try.isAgg4 rfl rfl rfl rfl (TO.g rfl rfl rfl rfl (TX.move rfl rfl ?_)))))))))))))
     cases hc104 : (p0.freg)
     · exact TO.s rfl rfl rfl rfl rfl rfl (TO.s rfl rfl rfl rfl rfl rfl (TO.s rfl rfl rfl rfl rfl rfl (TO.s rfl rfl rfl rfl rfl rfl (TO.g rfl rfl rfl rfl (TX.pickF rfl rfl rfl (TO.g rfl rfl rfl rfl (TX.pickF rfl rfl rfl (TO.u rfl rfl (TX.pickT rfl rfl rfl (TO.nil (TE.cutS 20 rfl rfl ⟨rfl, trivial⟩)))))))))))
     exact TO.g rfl rfl rfl rfl (TX.fieldAddr' Try.runUnderlying58 rfl Try.sizeOf27 rfl rfl rfl (TO.g rfl rfl rfl rfl (TX.fieldAddr' Try.runUnderlying27 rfl Try.sizeOf21 rfl rfl rfl (TO.g rfl rfl rfl rfl (TX.load1 (i := 0) Try.isAgg21 rfl rfl rfl rfl (TO.g rfl rfl rfl rfl (TX.ibin rfl rfl rfl rfl (TO.g rfl rfl rfl rfl (TX.pickT rfl rfl rfl (TO.g rfl rfl rfl rfl (TX.pickF rfl rfl rfl (TO.u rfl rfl (TX.pickT rfl rfl rfl (TO.nil (TE.cutS 20 rfl rfl ⟨rfl, trivial⟩)))))))))))))))
   refine TO.g rfl rfl rfl rfl (TX.fieldAddr' Try.runUnderlying58 rfl Try.sizeOf27 rfl rfl rfl (TO.g rfl rfl rfl rfl (TX.fieldAddr' Try.runUnderlying27 rfl Try.sizeOf5 rfl rfl rfl (TO.g rfl rfl rfl rfl (TX.load1 (i := 0) Try.isAgg5 rfl rfl rfl rfl (TO.g rfl rfl rfl rfl (TX.ibin rfl rfl rfl rfl (TO.g rfl rfl rfl rfl (TX.pickT rfl rfl rfl (TO.g rfl rfl rfl rfl (TX.move rfl rfl ?_)))))))))))
   cases hc105 : (p0.fInstr.fSrc == 0)
   · refine TO.g rfl rfl rfl rfl (TX.fieldAddr' Try.runUnderlying58 rfl Try.sizeOf4 rfl rfl rfl (TO.g rfl rfl rfl rfl (TX.load1 (i := 0) Try.isAgg4 rfl rfl rfl rfl (TO.g rfl rfl rfl rfl (TX.move rfl rfl ?_)))))
     cases hc106 : (p0.freg)
     · exact TO.s rfl rfl rfl rfl rfl rfl (TO.s rfl rfl rfl rfl rfl rfl (TO.s rfl rfl rfl rfl rfl rfl (TO.s rfl rfl rfl rfl rfl rfl (TO.g rfl rfl rfl rfl (TX.pickF rfl rfl rfl (TO.g rfl rfl rfl rfl (TX.pickF rfl rfl rfl (TO.u rfl rfl (TX.pickT rfl rfl rfl (TO.nil (TE.cutS 20 rfl rfl ⟨rfl, trivial⟩)))))))))))
     exact TO.g rfl rfl rfl rfl (TX.fieldAddr' Try.runUnderlying58 rfl Try.sizeOf27 rfl rfl rfl (TO.g rfl rfl rfl rfl (TX.fieldAddr' Try.runUnderlying27 rfl Try.sizeOf21 rfl rfl rfl (TO.g rfl rfl rfl rfl (TX.load1 (i := 0) Try.isAgg21 rfl rfl rfl rfl (TO.g rfl rfl rfl rfl (TX.ibin rfl rfl rfl rfl (TO.g rfl rfl rfl rfl (TX.pickT rfl rfl rfl (TO.g rfl rfl rfl rfl (TX.pickF rfl rfl rfl (TO.u rfl rfl (TX.pickT rfl rfl rfl (TO.nil (TE.cutS 20 rfl rfl ⟨rfl, trivial⟩)))))))))))))))
   exact TO.s rfl rfl rfl rfl rfl rfl (TO.s rfl rfl rfl rfl rfl rfl (TO.s rfl rfl rfl rfl rfl rfl (TO.su rfl rfl rfl rfl rfl (TO.su rfl rfl rfl rfl rfl (TO.su rfl rfl rfl rfl rfl (TO.su rfl rfl rfl rfl rfl (TO.s rfl rfl rfl rfl rfl rfl (TO.g rfl rfl rfl rfl (TX.pickT rfl rfl rfl (TO.u rfl rfl (TX.pickT rfl rfl rfl (TO.nil (TE.cutS 20 rfl rfl ⟨rfl, trivial⟩)))))))))))))
 refine TO.u rfl rfl (TX.move rfl rfl (TO.cutS 10 [(98, .bool ((v101 && (bif !p0.freg then (p0.fInstr.fSrc == 0) || (p0.freg && (p0.fInstr.fImm == 0)) else p0.freg && (p0.fInstr.fImm == 0))) && ((p0.fop != 128) || (p0.fInstr.fImm == 0))))] ?_ ?_))
 · cases hc107 : (v101 && (bif !p0.freg then (p0.fInstr.fSrc == 0) || (p0.freg && (p0.fInstr.fImm == 0)) else p0.freg && (p0.fInstr.fImm == 0)))
   · exact TO.s rfl rfl rfl rfl rfl rfl (TO.s rfl rfl rfl rfl rfl rfl (TO.s rfl rfl rfl rfl rfl rfl (TO.s rfl rfl rfl rfl rfl rfl (TO.su rfl rfl rfl rfl rfl (TO.su rfl rfl rfl rfl rfl (TO.su rfl rfl rfl rfl rfl (TO.su rfl rfl rfl rfl rfl (TO.s rfl rfl rfl rfl rfl rfl (TO.u rfl rfl (TX.pickF rfl rfl rfl (TO.nil (TE.cutS 10 rfl rfl ⟨rfl, trivial⟩))))))))))))
   refine TO.g rfl rfl rfl rfl (TX.fieldAddr' Try.runUnderlying58 rfl Try.sizeOf5 rfl rfl rfl (TO.g rfl rfl rfl rfl (TX.load1 (i := 0) Try.isAgg5 rfl rfl rfl rfl (TO.g rfl rfl rfl rfl (TX.ibin rfl rfl rfl rfl (TO.g rfl rfl rfl rfl (TX.move rfl rfl ?_)))))))
   cases hc108 : (p0.fop != 128)
   · exact TO.g rfl rfl rfl rfl (TX.fieldAddr' Try.runUnderlying58 rfl Try.sizeOf27 rfl rfl rfl (TO.g rfl rfl rfl rfl (TX.fieldAddr' Try.runUnderlying27 rfl Try.sizeOf21 rfl rfl rfl (TO.g rfl rfl rfl rfl (TX.load1 (i := 0) Try.isAgg21 rfl rfl rfl rfl (TO.g rfl rfl rfl rfl (TX.ibin rfl rfl rfl rfl (TO.g rfl rfl rfl rfl (TX.pickF rfl rfl rfl (TO.u rfl rfl (TX.pickT rfl rfl rfl (TO.nil (TE.cutS 10 rfl rfl ⟨rfl, trivial⟩)))))))))))))
   exact TO.s rfl rfl rfl rfl rfl rfl (TO.s rfl rfl rfl rfl rfl rfl (TO.s rfl rfl rfl rfl rfl rfl (TO.s rfl rfl rfl rfl rfl rfl (TO.g rfl rfl rfl rfl (TX.pickT rfl rfl rfl (TO.u rfl rfl (TX.pickT rfl rfl rfl (TO.nil (TE.cutS 10 rfl rfl ⟨rfl, trivial⟩)))))))))
 exact TO.u rfl rfl (TX.assign rfl rfl (TO.nil (TE.thenN rfl rfl (TC.ret (TE.fin (R := ⟨[], []⟩) (TL.ret (R' := ⟨[], []⟩) Try.results67 (.cons (.tmp rfl) .nil) (subD 1 1 rfl rfl) ⟨congrArg ret67 (Option.some.inj h), rfl⟩))))))
/-- (hatchway/shape.slot).jumping -/
def fn68 (p0 : Slot) : Bool :=
  (bindP (fn62 p0) fun v3 => (bif v3 then (((!p0.freg) && (p0.fInstr.fSrc == 0)) || (p0.freg && (p0.fInstr.fImm == 0))) else (bif (p0.fop == 0) && (p0.fclass == 5) then (((p0.fInstr.fDst == 0) && (p0.fInstr.fSrc == 0)) && (p0.fInstr.fImm == 0)) else (bif p0.fop == 0 then (((p0.fInstr.fDst == 0) && (p0.fInstr.fSrc == 0)) && (p0.fInstr.fOff == 0)) else (bif p0.fop == 128 then ((((p0.fInstr.fDst == 0) && (p0.fInstr.fSrc == 0)) && (p0.fInstr.fOff == 0)) && (decide ((1 : Int) ≤ p0.fInstr.fImm))) else ((((p0.fInstr.fDst == 0) && (p0.fInstr.fSrc == 0)) && (p0.fInstr.fOff == 0)) && (p0.fInstr.fImm == 0)))))))
def ret68 (r : Bool) : Value := .bool r
theorem c68 (p0 : Slot) (w : World) (r : Bool)  (h : fn68 p0 = r) : Ret Try.prog 68 [.agg #[.int .u8 p0.fInstr.fOp, .int .u8 p0.fInstr.fDst, .int .u8 p0.fInstr.fSrc, .int .i16 p0.fInstr.fOff, .int .i32 p0.fInstr.fImm, .int .u8 p0.fclass, .int .u8 p0.fop, .bool p0.freg]] w ⟨[], []⟩ (fun v R => v = ret68 r ∧ R = ⟨[], []⟩) := by
 unfold fn68 at h
 refine Ret.of_body Try.func68 rfl Try.ntmps68 rfl (fun _ hx => absurd hx List.not_mem_nil) List.nodup_nil (TC.seq (TC.region (TO.u rfl rfl (TX.box rfl rfl rfl (fun b1 => (TO.u rfl rfl (TX.assign rfl rfl (TO.nil (TE.thenN rfl rfl (TC.seq (TC.region (TO.u rfl rfl (TX.fieldAddr' Try.runUnderlying58 rfl Try.sizeOf27 rfl rfl rfl (TO.u rfl rfl (TX.fieldAddr' Try.runUnderlying27 rfl Try.sizeOf5 rfl rfl rfl (TO.u rfl rfl (TX.load1 (i := 0) Try.isAgg5 rfl rfl rfl rfl (TO.u rfl rfl (TX.ibin rfl rfl rfl rfl (TO.u rfl rfl (TX.move rfl rfl (TO.cutS 5 [(13, .bool ((p0.fInstr.fDst == 0) && (p0.fInstr.fSrc == 0)))] ?_ ?_))))))))))))))))))))))
 · cases hc2 : (p0.fInstr.fDst == 0)
   · exact TO.s rfl rfl rfl rfl rfl rfl (TO.s rfl rfl rfl rfl rfl rfl (TO.s rfl rfl rfl rfl rfl rfl (TO.s rfl rfl rfl rfl rfl rfl (TO.u rfl rfl (TX.pickF rfl rfl rfl (TO.nil (TE.cutS 5 rfl rfl ⟨rfl, trivial⟩)))))))
   exact TO.g rfl rfl rfl rfl (TX.fieldAddr' Try.runUnderlying58 rfl Try.sizeOf27 rfl rfl rfl (TO.g rfl rfl rfl rfl (TX.fieldAddr' Try.runUnderlying27 rfl Try.sizeOf5 rfl rfl rfl (TO.g rfl rfl rfl rfl (TX.load1 (i := 0) Try.isAgg5 rfl rfl rfl rfl (TO.g rfl rfl rfl rfl (TX.ibin rfl rfl rfl rfl (TO.u rfl rfl (TX.pickT rfl rfl rfl (TO.nil (TE.cutS 5 rfl rfl ⟨rfl, trivial⟩)))))))))))
 refine TO.u rfl rfl (TX.assign rfl rfl (TO.nil (TE.thenN rfl rfl (TC.seq (TC.block (TC.seq (TC.region (TO.u rfl rfl (TX.loadN (i := 0) Try.isAgg58 Try.sizeOf58 rfl rfl rfl rfl ?_)))))))))
 obtain ⟨v3, hv3, h⟩ := bp h
 refine TO.u rfl rfl (TX.callP Try.call62 rfl (fun a w s => c62 p0 _ _  hv3) rfl (TO.u rfl rfl (TX.assign rfl rfl (TO.nil (TE.thenN rfl rfl (TC.cond rfl (fun hb4 => ?_) (fun hb4 => ?_)))))))
 · replace h := it h hb4
   refine TC.seq (TC.region (TO.u rfl rfl (TX.fieldAddr' Try.runUnderlying58 rfl Try.sizeOf4 rfl rfl rfl (TO.u rfl rfl (TX.load1 (i := 0) Try.isAgg4 rfl rfl rfl rfl (TO.u rfl rfl (TX.not rfl rfl (TO.u rfl rfl (TX.move rfl rfl (TO.cutS 5 [(25, .bool ((!p0.freg) && (p0.fInstr.fSrc == 0)))] ?_ ?_))))))))))
   · cases hc5 : (!p0.freg)
     · exact TO.s rfl rfl rfl rfl rfl rfl (TO.s rfl rfl rfl rfl rfl rfl (TO.s rfl rfl rfl rfl rfl rfl (TO.s rfl rfl rfl rfl rfl rfl (TO.u rfl rfl (TX.pickF rfl rfl rfl (TO.nil (TE.cutS 5 rfl rfl ⟨rfl, trivial⟩)))))))
     exact TO.g rfl rfl rfl rfl (TX.fieldAddr' Try.runUnderlying58 rfl Try.sizeOf27 rfl rfl rfl (TO.g rfl rfl rfl rfl (TX.fieldAddr' Try.runUnderlying27 rfl Try.sizeOf5 rfl rfl rfl (TO.g rfl rfl rfl rfl (TX.load1 (i := 0) Try.isAgg5 rfl rfl rfl rfl (TO.g rfl rfl rfl rfl (TX.ibin rfl rfl rfl rfl (TO.u rfl rfl (TX.pickT rfl rfl rfl (TO.nil (TE.cutS 5 rfl rfl ⟨rfl, trivial⟩)))))))))))
   refine TO.u rfl rfl (TX.move rfl rfl (TO.cutS 9 [(35, .bool (((!p0.freg) && (p0.fInstr.fSrc == 0)) || (p0.freg && (p0.fInstr.fImm == 0))))] ?_ ?_))
   · cases hc6 : ((!p0.freg) && (p0.fInstr.fSrc == 0))
     · refine TO.g rfl rfl rfl rfl (TX.fieldAddr' Try.runUnderlying58 rfl Try.sizeOf4 rfl rfl rfl (TO.g rfl rfl rfl rfl (TX.load1 (i := 0) Try.isAgg4 rfl rfl rfl rfl (TO.g rfl rfl rfl rfl (TX.move rfl rfl ?_)))))
       cases hc7 : (p0.freg)
       · exact TO.s rfl rfl rfl rfl rfl rfl (TO.s rfl rfl rfl rfl rfl rfl (TO.s rfl rfl rfl rfl rfl rfl (TO.s rfl rfl rfl rfl rfl rfl (TO.g rfl rfl rfl rfl (TX.pickF rfl rfl rfl (TO.u rfl rfl (TX.pickF rfl rfl rfl (TO.nil (TE.cutS 9 rfl rfl ⟨rfl, trivial⟩)))))))))
       exact TO.g rfl rfl rfl rfl (TX.fieldAddr' Try.runUnderlying58 rfl Try.sizeOf27 rfl rfl rfl (TO.g rfl rfl rfl rfl (TX.fieldAddr' Try.runUnderlying27 rfl Try.sizeOf21 rfl rfl rfl (TO.g rfl rfl rfl rfl (TX.load1 (i := 0) Try.isAgg21 rfl rfl rfl rfl (TO.g rfl rfl rfl rfl (TX.ibin rfl rfl rfl rfl (TO.g rfl rfl rfl rfl (TX.pickT rfl rfl rfl (TO.u rfl rfl (TX.pickF rfl rfl rfl (TO.nil (TE.cutS 9 rfl rfl ⟨rfl, trivial⟩)))))))))))))
     exact TO.s rfl rfl rfl rfl rfl rfl (TO.s rfl rfl rfl rfl rfl rfl (TO.s rfl rfl rfl rfl rfl rfl (TO.su rfl rfl rfl rfl rfl (TO.su rfl rfl rfl rfl rfl (TO.su rfl rfl rfl rfl rfl (TO.su rfl rfl rfl rfl rfl (TO.s rfl rfl rfl rfl rfl rfl (TO.u rfl rfl (TX.pickT rfl rfl rfl (TO.nil (TE.cutS 9 rfl rfl ⟨rfl, trivial⟩)))))))))))
   exact TO.u rfl rfl (TX.assign rfl rfl (TO.nil (TE.thenN rfl rfl (TC.ret (TE.blockR (TE.thenR (TE.fin (R := ⟨[], []⟩) (TL.ret (R' := ⟨[], []⟩) Try.results68 (.cons (.tmp rfl) .nil) (subD 1 0 rfl rfl) ⟨congrArg ret68 h, rfl⟩))))))))
 replace h := ie h hb4
 refine TC.seq (TC.region (TO.u rfl rfl (TX.fieldAddr' Try.runUnderlying58 rfl Try.sizeOf5 rfl rfl rfl (TO.u rfl rfl (TX.load1 (i := 0) Try.isAgg5 rfl rfl rfl rfl (TO.u rfl rfl (TX.ibin rfl rfl rfl rfl (TO.u rfl rfl (TX.move rfl rfl (TO.cutS 4 [(44, .bool ((p0.fop == 0) && (p0.fclass == 5)))] ?_ ?_))))))))))
 · cases hc8 : (p0.fop == 0)
   · exact TO.s rfl rfl rfl rfl rfl rfl (TO.s rfl rfl rfl rfl rfl rfl (TO.s rfl rfl rfl rfl rfl rfl (TO.u rfl rfl (TX.pickF rfl rfl rfl (TO.nil (TE.cutS 4 rfl rfl ⟨rfl, trivial⟩))))))
   exact TO.g rfl rfl rfl rfl (TX.fieldAddr' Try.runUnderlying58 rfl Try.sizeOf5 rfl rfl rfl (TO.g rfl rfl rfl rfl (TX.load1 (i := 0) Try.isAgg5 rfl rfl rfl rfl (TO.g rfl rfl rfl rfl (TX.ibin rfl rfl rfl rfl (TO.u rfl rfl (TX.pickT rfl rfl rfl (TO.nil (TE.cutS 4 rfl rfl ⟨rfl, trivial⟩)))))))))
 refine TO.u rfl rfl (TX.assign rfl rfl (TO.nil (TE.thenN rfl rfl (TC.cond rfl (fun hb9 => ?_) (fun hb9 => ?_)))))
 · replace h := it h hb9
   refine TC.seq (TC.region (TO.u rfl rfl (TX.move rfl rfl (TO.u rfl rfl (TX.move rfl rfl (TO.cutS 5 [(51, .bool (((p0.fInstr.fDst == 0) && (p0.fInstr.fSrc == 0)) && (p0.fInstr.fImm == 0)))] ?_ ?_))))))
   · cases hc10 : ((p0.fInstr.fDst == 0) && (p0.fInstr.fSrc == 0))
     · exact TO.s rfl rfl rfl rfl rfl rfl (TO.s rfl rfl rfl rfl rfl rfl (TO.s rfl rfl rfl rfl rfl rfl (TO.s rfl rfl rfl rfl rfl rfl (TO.u rfl rfl (TX.pickF rfl rfl rfl (TO.nil (TE.cutS 5 rfl rfl ⟨rfl, trivial⟩)))))))
     exact TO.g rfl rfl rfl rfl (TX.fieldAddr' Try.runUnderlying58 rfl Try.sizeOf27 rfl rfl rfl (TO.g rfl rfl rfl rfl (TX.fieldAddr' Try.runUnderlying27 rfl Try.sizeOf21 rfl rfl rfl (TO.g rfl rfl rfl rfl (TX.load1 (i := 0) Try.isAgg21 rfl rfl rfl rfl (TO.g rfl rfl rfl rfl (TX.ibin rfl rfl rfl rfl (TO.u rfl rfl (TX.pickT rfl rfl rfl (TO.nil (TE.cutS 5 rfl rfl ⟨rfl, trivial⟩)))))))))))
   exact TO.u rfl rfl (TX.assign rfl rfl (TO.nil (TE.thenN rfl rfl (TC.ret (TE.blockR (TE.thenR (TE.fin (R := ⟨[], []⟩) (TL.ret (R' := ⟨[], []⟩) Try.results68 (.cons (.tmp rfl) .nil) (subD 1 0 rfl rfl) ⟨congrArg ret68 h, rfl⟩))))))))
 replace h := ie h hb9
 refine TC.seq (TC.region (TO.u rfl rfl (TX.fieldAddr' Try.runUnderlying58 rfl Try.sizeOf5 rfl rfl rfl (TO.u rfl rfl (TX.load1 (i := 0) Try.isAgg5 rfl rfl rfl rfl (TO.u rfl rfl (TX.ibin rfl rfl rfl rfl (TO.u rfl rfl (TX.assign rfl rfl (TO.nil (TE.thenN rfl rfl (TC.cond rfl (fun hb11 => ?_) (fun hb11 => ?_)))))))))))))
 · replace h := it h hb11
   refine TC.seq (TC.region (TO.u rfl rfl (TX.move rfl rfl (TO.u rfl rfl (TX.move rfl rfl (TO.cutS 5 [(62, .bool (((p0.fInstr.fDst == 0) && (p0.fInstr.fSrc == 0)) && (p0.fInstr.fOff == 0)))] ?_ ?_))))))
   · cases hc12 : ((p0.fInstr.fDst == 0) && (p0.fInstr.fSrc == 0))
     · exact TO.s rfl rfl rfl rfl rfl rfl (TO.s rfl rfl rfl rfl rfl rfl (TO.s rfl rfl rfl rfl rfl rfl (TO.s rfl rfl rfl rfl rfl rfl (TO.u rfl rfl (TX.pickF rfl rfl rfl (TO.nil (TE.cutS 5 rfl rfl ⟨rfl, trivial⟩)))))))
     exact TO.g rfl rfl rfl rfl (TX.fieldAddr' Try.runUnderlying58 rfl Try.sizeOf27 rfl rfl rfl (TO.g rfl rfl rfl rfl (TX.fieldAddr' Try.runUnderlying27 rfl Try.sizeOf25 rfl rfl rfl (TO.g rfl rfl rfl rfl (TX.load1 (i := 0) Try.isAgg25 rfl rfl rfl rfl (TO.g rfl rfl rfl rfl (TX.ibin rfl rfl rfl rfl (TO.u rfl rfl (TX.pickT rfl rfl rfl (TO.nil (TE.cutS 5 rfl rfl ⟨rfl, trivial⟩)))))))))))
   exact TO.u rfl rfl (TX.assign rfl rfl (TO.nil (TE.thenN rfl rfl (TC.ret (TE.blockR (TE.thenR (TE.fin (R := ⟨[], []⟩) (TL.ret (R' := ⟨[], []⟩) Try.results68 (.cons (.tmp rfl) .nil) (subD 1 0 rfl rfl) ⟨congrArg ret68 h, rfl⟩))))))))
 replace h := ie h hb11
 refine TC.seq (TC.region (TO.u rfl rfl (TX.fieldAddr' Try.runUnderlying58 rfl Try.sizeOf5 rfl rfl rfl (TO.u rfl rfl (TX.load1 (i := 0) Try.isAgg5 rfl rfl rfl rfl (TO.u rfl rfl (TX.ibin rfl rfl rfl rfl (TO.u rfl rfl (TX.assign rfl rfl (TO.nil (TE.thenN rfl rfl (TC.cond rfl (fun hb13 => ?_) (fun hb13 => ?_)))))))))))))
 · replace h := it h hb13
   refine TC.seq (TC.region (TO.u rfl rfl (TX.move rfl rfl (TO.u rfl rfl (TX.move rfl rfl (TO.cutS 5 [(73, .bool (((p0.fInstr.fDst == 0) && (p0.fInstr.fSrc == 0)) && (p0.fInstr.fOff == 0)))] ?_ ?_))))))
   · cases hc14 : ((p0.fInstr.fDst == 0) && (p0.fInstr.fSrc == 0))
     · exact TO.s rfl rfl rfl rfl rfl rfl (TO.s rfl rfl rfl rfl rfl rfl (TO.s rfl rfl rfl rfl rfl rfl (TO.s rfl rfl rfl rfl rfl rfl (TO.u rfl rfl (TX.pickF rfl rfl rfl (TO.nil (TE.cutS 5 rfl rfl ⟨rfl, trivial⟩)))))))
     exact TO.g rfl rfl rfl rfl (TX.fieldAddr' Try.runUnderlying58 rfl Try.sizeOf27 rfl rfl rfl (TO.g rfl rfl rfl rfl (TX.fieldAddr' Try.runUnderlying27 rfl Try.sizeOf25 rfl rfl rfl (TO.g rfl rfl rfl rfl (TX.load1 (i := 0) Try.isAgg25 rfl rfl rfl rfl (TO.g rfl rfl rfl rfl (TX.ibin rfl rfl rfl rfl (TO.u rfl rfl (TX.pickT rfl rfl rfl (TO.nil (TE.cutS 5 rfl rfl ⟨rfl, trivial⟩)))))))))))
   refine TO.u rfl rfl (TX.move rfl rfl (TO.cutS 5 [(79, .bool ((((p0.fInstr.fDst == 0) && (p0.fInstr.fSrc == 0)) && (p0.fInstr.fOff == 0)) && (decide ((1 : Int) ≤ p0.fInstr.fImm))))] ?_ ?_))
   · cases hc15 : (((p0.fInstr.fDst == 0) && (p0.fInstr.fSrc == 0)) && (p0.fInstr.fOff == 0))
     · exact TO.s rfl rfl rfl rfl rfl rfl (TO.s rfl rfl rfl rfl rfl rfl (TO.s rfl rfl rfl rfl rfl rfl (TO.s rfl rfl rfl rfl rfl rfl (TO.u rfl rfl (TX.pickF rfl rfl rfl (TO.nil (TE.cutS 5 rfl rfl ⟨rfl, trivial⟩)))))))
     exact TO.g rfl rfl rfl rfl (TX.fieldAddr' Try.runUnderlying58 rfl Try.sizeOf27 rfl rfl rfl (TO.g rfl rfl rfl rfl (TX.fieldAddr' Try.runUnderlying27 rfl Try.sizeOf21 rfl rfl rfl (TO.g rfl rfl rfl rfl (TX.load1 (i := 0) Try.isAgg21 rfl rfl rfl rfl (TO.g rfl rfl rfl rfl (TX.ibin rfl rfl rfl rfl (TO.u rfl rfl (TX.pickT rfl rfl rfl (TO.nil (TE.cutS 5 rfl rfl ⟨rfl, trivial⟩)))))))))))
   exact TO.u rfl rfl (TX.assign rfl rfl (TO.nil (TE.thenN rfl rfl (TC.ret (TE.blockR (TE.thenR (TE.fin (R := ⟨[], []⟩) (TL.ret (R' := ⟨[], []⟩) Try.results68 (.cons (.tmp rfl) .nil) (subD 1 0 rfl rfl) ⟨congrArg ret68 h, rfl⟩))))))))
 replace h := ie h hb13
 refine TC.skip (TE.blockN (TE.thenN rfl rfl (TC.seq (TC.region (TO.u rfl rfl (TX.move rfl rfl (TO.u rfl rfl (TX.move rfl rfl (TO.cutS 5 [(86, .bool (((p0.fInstr.fDst == 0) && (p0.fInstr.fSrc == 0)) && (p0.fInstr.fOff == 0)))] ?_ ?_)))))))))
 · cases hc16 : ((p0.fInstr.fDst == 0) && (p0.fInstr.fSrc == 0))
   · exact TO.s rfl rfl rfl rfl rfl rfl (TO.s rfl rfl rfl rfl rfl rfl (TO.s rfl rfl rfl rfl rfl rfl (TO.s rfl rfl rfl rfl rfl rfl (TO.u rfl rfl (TX.pickF rfl rfl rfl (TO.nil (TE.cutS 5 rfl rfl ⟨rfl, trivial⟩)))))))
   exact TO.g rfl rfl rfl rfl (TX.fieldAddr' Try.runUnderlying58 rfl Try.sizeOf27 rfl rfl rfl (TO.g rfl rfl rfl rfl (TX.fieldAddr' Try.runUnderlying27 rfl Try.sizeOf25 rfl rfl rfl (TO.g rfl rfl rfl rfl (TX.load1 (i := 0) Try.isAgg25 rfl rfl rfl rfl (TO.g rfl rfl rfl rfl (TX.ibin rfl rfl rfl rfl (TO.u rfl rfl (TX.pickT rfl rfl rfl (TO.nil (TE.cutS 5 rfl rfl ⟨rfl, trivial⟩)))))))))))
 refine TO.u rfl rfl (TX.move rfl rfl (TO.cutS 5 [(92, .bool ((((p0.fInstr.fDst == 0) && (p0.fInstr.fSrc == 0)) && (p0.fInstr.fOff == 0)) && (p0.fInstr.fImm == 0)))] ?_ ?_))
 · cases hc17 : (((p0.fInstr.fDst == 0) && (p0.fInstr.fSrc == 0)) && (p0.fInstr.fOff == 0))
   · exact TO.s rfl rfl rfl rfl rfl rfl (TO.s rfl rfl rfl rfl rfl rfl (TO.s rfl rfl rfl rfl rfl rfl (TO.s rfl rfl rfl rfl rfl rfl (TO.u rfl rfl (TX.pickF rfl rfl rfl (TO.nil (TE.cutS 5 rfl rfl ⟨rfl, trivial⟩)))))))
   exact TO.g rfl rfl rfl rfl (TX.fieldAddr' Try.runUnderlying58 rfl Try.sizeOf27 rfl rfl rfl (TO.g rfl rfl rfl rfl (TX.fieldAddr' Try.runUnderlying27 rfl Try.sizeOf21 rfl rfl rfl (TO.g rfl rfl rfl rfl (TX.load1 (i := 0) Try.isAgg21 rfl rfl rfl rfl (TO.g rfl rfl rfl rfl (TX.ibin rfl rfl rfl rfl (TO.u rfl rfl (TX.pickT rfl rfl rfl (TO.nil (TE.cutS 5 rfl rfl ⟨rfl, trivial⟩)))))))))))
 exact TO.u rfl rfl (TX.assign rfl rfl (TO.nil (TE.thenN rfl rfl (TC.ret (TE.fin (R := ⟨[], []⟩) (TL.ret (R' := ⟨[], []⟩) Try.results68 (.cons (.tmp rfl) .nil) (subD 1 0 rfl rfl) ⟨congrArg ret68 h, rfl⟩))))))
/-- (hatchway/shape.slot).parts -/
def fn37 (F : Nat) (p0 : Slot) : Option (Bool) :=
  (bif p0.fclass == 0 then (bindP (fn63 p0) fun v4 => (some v4)) else (bif p0.fclass == 1 then (bindP (fn64 p0) fun v6 => (some v6)) else (bif p0.fclass == 2 then (bindP (fn65 p0) fun v8 => (some v8)) else (bif p0.fclass == 3 then (bindP (fn66 p0) fun v10 => (some v10)) else (bif p0.fclass == 4 then (Option.bind (fn67 F p0) fun v12 => (some v12)) else (bif p0.fclass == 7 then (Option.bind (fn67 F p0) fun v14 => (some v14)) else (bif p0.fclass == 5 then (bindP (fn68 p0) fun v16 => (some v16)) else (bif p0.fclass == 6 then (bindP (fn68 p0) fun v18 => (some v18)) else none))))))))
def ret37 (r : Bool) : Value := .bool r
theorem c37 (F : Nat) (p0 : Slot) (w : World) (r : Bool)  (h : fn37 F p0 = some r) : Ret Try.prog 37 [.agg #[.int .u8 p0.fInstr.fOp, .int .u8 p0.fInstr.fDst, .int .u8 p0.fInstr.fSrc, .int .i16 p0.fInstr.fOff, .int .i32 p0.fInstr.fImm, .int .u8 p0.fclass, .int .u8 p0.fop, .bool p0.freg]] w ⟨[], []⟩ (fun v R => v = ret37 r ∧ R = ⟨[], []⟩) := by
 unfold fn37 at h
 refine Ret.of_body Try.func37 rfl Try.ntmps37 rfl (fun _ hx => absurd hx List.not_mem_nil) List.nodup_nil (TC.seq (TC.region (TO.u rfl rfl (TX.box rfl rfl rfl (fun b1 => (TO.u rfl rfl (TX.assign rfl rfl (TO.nil (TE.thenN rfl rfl (TC.seq (TC.region (TO.u rfl rfl (TX.makeMapE rfl (fun m2 => (TO.u rfl rfl (TX.mkfunc rfl rfl rfl (TO.u rfl rfl (TX.insertE (i := 0) (.inr rfl) Try.runUnderlying97 Try.runUnderlying5 rfl rfl rfl rfl rfl (FN.nil) rfl (TO.u rfl rfl (TX.mkfunc rfl rfl rfl (TO.u rfl rfl (TX.insertE (i := 0) (.inr rfl) Try.runUnderlying97 Try.runUnderlying5 rfl rfl rfl rfl rfl (.miss rfl .nil) rfl (TO.u rfl rfl (TX.mkfunc rfl rfl rfl (TO.u rfl rfl (TX.insertE (i := 0) (.inr rfl) Try.runUnderlying97 Try.runUnderlying5 rfl rfl rfl rfl rfl (.miss rfl (.miss rfl .nil)) rfl (TO.u rfl rfl (TX.mkfunc rfl rfl rfl (TO.u rfl rfl (TX.insertE (i := 0) (.inr rfl) Try.runUnderlying97 Try.runUnderlying5 rfl rfl rfl rfl rfl (.miss rfl (.miss rfl (.miss rfl .nil))) rfl (TO.u rfl rfl (TX.loadN (i := 1) Try.isAgg58 Try.sizeOf58 rfl rfl rfl rfl (TO.u rfl rfl (TX.mkfunc rfl rfl rfl (TO.u rfl rfl (TX.insertE (i := 0) (.inr rfl) Try.runUnderlying97 Try.runUnderlying5 rfl rfl rfl rfl rfl (.miss rfl (.miss rfl (.miss rfl (.miss rfl .nil)))) rfl (TO.u rfl rfl (TX.loadN (i := 1) Try.isAgg58 Try.sizeOf58 rfl rfl rfl rfl (TO.u rfl rfl (TX.mkfunc rfl rfl rfl (TO.u rfl rfl (TX.insertE (i := 0) (.inr rfl) Try.runUnderlying97 Try.runUnderlying5 rfl rfl rfl rfl rfl (.miss rfl (.miss rfl (.miss rfl (.miss rfl (.miss rfl .nil))))) rfl (TO.u rfl rfl (TX.loadN (i := 1) Try.isAgg58 Try.sizeOf58 rfl rfl rfl rfl (TO.u rfl rfl (TX.mkfunc rfl rfl rfl (TO.u rfl rfl (TX.insertE (i := 0) (.inr rfl) Try.runUnderlying97 Try.runUnderlying5 rfl rfl rfl rfl rfl (.miss rfl (.miss rfl (.miss rfl (.miss rfl (.miss rfl (.miss rfl .nil)))))) rfl (TO.u rfl rfl (TX.loadN (i := 1) Try.isAgg58 Try.sizeOf58 rfl rfl rfl rfl (TO.u rfl rfl (TX.mkfunc rfl rfl rfl (TO.u rfl rfl (TX.insertE (i := 0) (.inr rfl) Try.runUnderlying97 Try.runUnderlying5 rfl rfl rfl rfl rfl (.miss rfl (.miss rfl (.miss rfl (.miss rfl (.miss rfl (.miss rfl (.miss rfl .nil))))))) rfl (TO.u rfl rfl (TX.move rfl rfl ?_))))))))))))))))))))))))))))))))))))))))))))))))))))))))
 refine TO.u rfl rfl (TX.assign rfl rfl (TO.nil (TE.thenN rfl rfl (TC.seq (TC.region (TO.u rfl rfl (TX.move rfl rfl (TO.u rfl rfl (TX.fieldAddr' Try.runUnderlying58 rfl Try.sizeOf5 rfl rfl rfl (TO.u rfl rfl (TX.load1 (i := 1) Try.isAgg5 rfl rfl rfl rfl (TO.fork (p0.fclass == 0) (fun hb3 => ?_) (fun hb3 => ?_)))))))))))))
 · replace h := it h hb3
   refine TO.u rfl rfl (TX.lookupE (i := 0) Try.runUnderlying97 Try.runUnderlying5 Try.zeroValue22 rfl rfl rfl rfl (.hit hb3) rfl rfl ?_)
   obtain ⟨v4, hv4, h⟩ := bp h
   exact TO.u rfl rfl (TX.callRO [1] [] rfl rfl Try.call63 rfl rfl (fun a w s => c63 b1 p0 _ _ s.hpOk hv4) rfl (TO.u rfl rfl (TX.assign rfl rfl (TO.nil (TE.thenN rfl rfl (TC.ret (TE.fin (R := ⟨[], []⟩) (TL.ret (R' := ⟨[], []⟩) Try.results37 (.cons (.tmp rfl) .nil) (subD 2 0 rfl rfl) ⟨congrArg ret37 (Option.some.inj h), rfl⟩))))))))
 replace h := ie h hb3
 refine TO.fork (p0.fclass == 1) (fun hb5 => ?_) (fun hb5 => ?_)
 · replace h := it h hb5
   refine TO.u rfl rfl (TX.lookupE (i := 0) Try.runUnderlying97 Try.runUnderlying5 Try.zeroValue22 rfl rfl rfl rfl (.miss hb3 (.hit hb5)) rfl rfl ?_)
   obtain ⟨v6, hv6, h⟩ := bp h
   exact TO.u rfl rfl (TX.callRO [1] [] rfl rfl Try.call64 rfl rfl (fun a w s => c64 b1 p0 _ _ s.hpOk hv6) rfl (TO.u rfl rfl (TX.assign rfl rfl (TO.nil (TE.thenN rfl rfl (TC.ret (TE.fin (R := ⟨[], []⟩) (TL.ret (R' := ⟨[], []⟩) Try.results37 (.cons (.tmp rfl) .nil) (subD 2 0 rfl rfl) ⟨congrArg ret37 (Option.some.inj h), rfl⟩))))))))
 replace h := ie h hb5
 refine TO.fork (p0.fclass == 2) (fun hb7 => ?_) (fun hb7 => ?_)
 · replace h := it h hb7
   refine TO.u rfl rfl (TX.lookupE (i := 0) Try.runUnderlying97 Try.runUnderlying5 Try.zeroValue22 rfl rfl rfl rfl (.miss hb3 (.miss hb5 (.hit hb7))) rfl rfl ?_)
   obtain ⟨v8, hv8, h⟩ := bp h
   exact TO.u rfl rfl (TX.callRO [1] [] rfl rfl Try.call65 rfl rfl (fun a w s => c65 b1 p0 _ _ s.hpOk hv8) rfl (TO.u rfl rfl (TX.assign rfl rfl (TO.nil (TE.thenN rfl rfl (TC.ret (TE.fin (R := ⟨[], []⟩) (TL.ret (R' := ⟨[], []⟩) Try.results37 (.cons (.tmp rfl) .nil) (subD 2 0 rfl rfl) ⟨congrArg ret37 (Option.some.inj h), rfl⟩))))))))
 replace h := ie h hb7
 refine TO.fork (p0.fclass == 3) (fun hb9 => ?_) (fun hb9 => ?_)
 · replace h := it h hb9
   refine TO.u rfl rfl (TX.lookupE (i := 0) Try.runUnderlying97 Try.runUnderlying5 Try.zeroValue22 rfl rfl rfl rfl (.miss hb3 (.miss hb5 (.miss hb7 (.hit hb9)))) rfl rfl ?_)
   obtain ⟨v10, hv10, h⟩ := bp h
   exact TO.u rfl rfl (TX.callRO [1] [] rfl rfl Try.call66 rfl rfl (fun a w s => c66 b1 p0 _ _ s.hpOk hv10) rfl (TO.u rfl rfl (TX.assign rfl rfl (TO.nil (TE.thenN rfl rfl (TC.ret (TE.fin (R := ⟨[], []⟩) (TL.ret (R' := ⟨[], []⟩) Try.results37 (.cons (.tmp rfl) .nil) (subD 2 0 rfl rfl) ⟨congrArg ret37 (Option.some.inj h), rfl⟩))))))))
 replace h := ie h hb9
 refine TO.fork (p0.fclass == 4) (fun hb11 => ?_) (fun hb11 => ?_)
 · replace h := it h hb11
   refine TO.u rfl rfl (TX.lookupE (i := 0) Try.runUnderlying97 Try.runUnderlying5 Try.zeroValue22 rfl rfl rfl rfl (.miss hb3 (.miss hb5 (.miss hb7 (.miss hb9 (.hit hb11))))) rfl rfl ?_)
   obtain ⟨v12, hv12, h⟩ := bd h
   exact TO.u rfl rfl (TX.callRO [] [] rfl rfl Try.call67 rfl rfl (fun a w s => c67 F p0 _ _  hv12) rfl (TO.u rfl rfl (TX.assign rfl rfl (TO.nil (TE.thenN rfl rfl (TC.ret (TE.fin (R := ⟨[], []⟩) (TL.ret (R' := ⟨[], []⟩) Try.results37 (.cons (.tmp rfl) .nil) (subD 2 0 rfl rfl) ⟨congrArg ret37 (Option.some.inj h), rfl⟩))))))))
 replace h := ie h hb11
 refine TO.fork (p0.fclass == 7) (fun hb13 => ?_) (fun hb13 => ?_)
 · replace h := it h hb13
   refine TO.u rfl rfl (TX.lookupE (i := 0) Try.runUnderlying97 Try.runUnderlying5 Try.zeroValue22 rfl rfl rfl rfl (.miss hb3 (.miss hb5 (.miss hb7 (.miss hb9 (.miss hb11 (.hit hb13)))))) rfl rfl ?_)
   obtain ⟨v14, hv14, h⟩ := bd h
   exact TO.u rfl rfl (TX.callRO [] [] rfl rfl Try.call67 rfl rfl (fun a w s => c67 F p0 _ _  hv14) rfl (TO.u rfl rfl (TX.assign rfl rfl (TO.nil (TE.thenN rfl rfl (TC.ret (TE.fin (R := ⟨[], []⟩) (TL.ret (R' := ⟨[], []⟩) Try.results37 (.cons (.tmp rfl) .nil) (subD 2 0 rfl rfl) ⟨congrArg ret37 (Option.some.inj h), rfl⟩))))))))
 replace h := ie h hb13
 refine TO.fork (p0.fclass == 5) (fun hb15 => ?_) (fun hb15 => ?_)
 · replace h := it h hb15
   refine TO.u rfl rfl (TX.lookupE (i := 0) Try.runUnderlying97 Try.runUnderlying5 Try.zeroValue22 rfl rfl rfl rfl (.miss hb3 (.miss hb5 (.miss hb7 (.miss hb9 (.miss hb11 (.miss hb13 (.hit hb15))))))) rfl rfl ?_)
   obtain ⟨v16, hv16, h⟩ := bp h
   exact TO.u rfl rfl (TX.callRO [] [] rfl rfl Try.call68 rfl rfl (fun a w s => c68 p0 _ _  hv16) rfl (TO.u rfl rfl (TX.assign rfl rfl (TO.nil (TE.thenN rfl rfl (TC.ret (TE.fin (R := ⟨[], []⟩) (TL.ret (R' := ⟨[], []⟩) Try.results37 (.cons (.tmp rfl) .nil) (subD 2 0 rfl rfl) ⟨congrArg ret37 (Option.some.inj h), rfl⟩))))))))
 replace h := ie h hb15
 refine TO.fork (p0.fclass == 6) (fun hb17 => ?_) (fun hb17 => ?_)
 · replace h := it h hb17
   refine TO.u rfl rfl (TX.lookupE (i := 0) Try.runUnderlying97 Try.runUnderlying5 Try.zeroValue22 rfl rfl rfl rfl (.miss hb3 (.miss hb5 (.miss hb7 (.miss hb9 (.miss hb11 (.miss hb13 (.miss hb15 (.hit hb17)))))))) rfl rfl ?_)
   obtain ⟨v18, hv18, h⟩ := bp h
   exact TO.u rfl rfl (TX.callRO [] [] rfl rfl Try.call68 rfl rfl (fun a w s => c68 p0 _ _  hv18) rfl (TO.u rfl rfl (TX.assign rfl rfl (TO.nil (TE.thenN rfl rfl (TC.ret (TE.fin (R := ⟨[], []⟩) (TL.ret (R' := ⟨[], []⟩) Try.results37 (.cons (.tmp rfl) .nil) (subD 2 0 rfl rfl) ⟨congrArg ret37 (Option.some.inj h), rfl⟩))))))))
 replace h := ie h hb17
 refine TO.u rfl rfl (TX.lookupE (i := 0) Try.runUnderlying97 Try.runUnderlying5 Try.zeroValue22 rfl rfl rfl rfl (.miss hb3 (.miss hb5 (.miss hb7 (.miss hb9 (.miss hb11 (.miss hb13 (.miss hb15 (.miss hb17 .nil)))))))) rfl rfl ?_)
 cases h
/-- hatchway/shape.second -/
def fn38 (p0 : List Instr) (p1 : Int) : Option (Int) :=
  (bif decide ((p0.length : Int) ≤ (IntKind.i64.wrap (p1 + 1))) then (some 23) else (bif inb (IntKind.i64.wrap (p1 + 1)) p0.length then (bif bif !((((gt p0 (IntKind.i64.wrap (p1 + 1))).fOp) == 0) && ((((gt p0 (IntKind.i64.wrap (p1 + 1))).fDst) == 0) && ((((gt p0 (IntKind.i64.wrap (p1 + 1))).fSrc) == 0) && ((((gt p0 (IntKind.i64.wrap (p1 + 1))).fOff) == 0) && ((((gt p0 (IntKind.i64.wrap (p1 + 1))).fImm) == ((gt p0 (IntKind.i64.wrap (p1 + 1))).fImm)) && true))))) then true else (inb p1 p0.length) then (bif (!((((gt p0 (IntKind.i64.wrap (p1 + 1))).fOp) == 0) && ((((gt p0 (IntKind.i64.wrap (p1 + 1))).fDst) == 0) && ((((gt p0 (IntKind.i64.wrap (p1 + 1))).fSrc) == 0) && ((((gt p0 (IntKind.i64.wrap (p1 + 1))).fOff) == 0) && ((((gt p0 (IntKind.i64.wrap (p1 + 1))).fImm) == ((gt p0 (IntKind.i64.wrap (p1 + 1))).fImm)) && true)))))) || ((((gt p0 p1).fSrc) == 1) && (((gt p0 (IntKind.i64.wrap (p1 + 1))).fImm) != 0)) then (some 22) else (some 0)) else none) else none))
def ret38 (r : Int) : Value := .int .i64 r
theorem c38 (sp_0 : Option Addr) (n_0 cap_0 : Nat) (p0 : List Instr) (p1 : Int) (w : World) (r : Int) (qn0 : p0.length = n_0) (qc0 : p0.length ≤ cap_0) (qp0 : RdF Instr.E w [] sp_0 p0) (h : fn38 p0 p1 = some r) : Ret Try.prog 38 [.slice sp_0 n_0 cap_0, .int .i64 p1] w ⟨[], []⟩ (fun v R => v = ret38 r ∧ R = ⟨[], []⟩) := by
 unfold fn38 at h
 refine Ret.of_body Try.func38 rfl Try.ntmps38 rfl (fun _ hx => absurd hx List.not_mem_nil) List.nodup_nil (TC.seq (TC.region (TO.u rfl rfl (TX.assign rfl rfl (TO.nil (TE.thenN rfl rfl (TC.seq (TC.seq (TC.region (TO.u rfl rfl (TX.move rfl rfl (TO.u rfl rfl (TX.ibin rfl rfl rfl rfl (TO.u rfl rfl (TX.move rfl rfl (TO.u rfl rfl (TX.lenS (xs := p0) Try.runUnderlying24 rfl qn0 rfl (TO.u rfl rfl (TX.ibin rfl rfl rfl rfl (TO.nil (TE.thenN rfl rfl (TC.cond rfl (fun hb1 => ?_) (fun hb1 => ?_)))))))))))))))))))))))
 · replace h := it h hb1
   exact TC.seq (TC.region (TO.u rfl rfl (TX.assign rfl rfl (TO.nil (TE.thenN rfl rfl (TC.ret (TE.thenR (TE.fin (R := ⟨[], []⟩) (TL.ret (R' := ⟨[], []⟩) Try.results38 (.cons (.tmp rfl) .nil) (subD 0 0 rfl rfl) ⟨congrArg ret38 (Option.some.inj h), rfl⟩)))))))))
 replace h := ie h hb1
 refine TC.skip (TE.thenN rfl rfl (TC.seq (TC.region (TO.u rfl rfl (TX.move rfl rfl (TO.u rfl rfl (TX.move rfl rfl (TO.u rfl rfl (TX.ibin rfl rfl rfl rfl ?_)))))))))
 obtain ⟨hk2, h⟩ := ck h
 refine TO.u rfl rfl (TX.indexR (N := Instr.E) Try.runUnderlying24 Try.sizeOf27 rfl qn0 rfl (fun a w s => qp0 w s.ext) hk2 rfl (TO.u rfl rfl (TX.loadRN (N := Instr.E) Try.isAgg27 Try.sizeOf27 rfl (fun a w s => qp0 w s.ext) hk2 rfl rfl (TO.u rfl rfl (TX.alloc Try.zeroValue27 rfl rfl (fun b3 => (TO.u rfl rfl (TX.store (i := 0) Try.sizeOf27 rfl rfl rfl rfl rfl rfl rfl rfl (TO.nil (TE.thenN rfl rfl (TC.seq (TC.seq (TC.region (TO.u rfl rfl (TX.loadN (i := 0) Try.isAgg27 Try.sizeOf27 rfl rfl rfl rfl (TO.u rfl rfl (TX.fieldAddr' Try.runUnderlying27 rfl Try.sizeOf21 rfl rfl rfl (TO.u rfl rfl (TX.load1 (i := 0) Try.isAgg21 rfl rfl rfl rfl (TO.u rfl rfl (TX.build Try.zeroValue27 rfl Try.runUnderlying27 (.cons Try.sizeOf5 (.cons Try.sizeOf5 (.cons Try.sizeOf5 (.cons Try.sizeOf25 (.cons Try.sizeOf21 .nil))))) rfl rfl rfl (TO.u rfl rfl (TX.aggNe Try.eqGuardType27 rfl rfl rfl (EqOk.struct (K := 1) Try.runUnderlying27 Try.stoodInHeld27 (.cons rfl (.one Try.isAgg5 rfl) (.one Try.isAgg5 rfl) (EqOk.int Try.runUnderlying5) (.cons rfl (.one Try.isAgg5 rfl) (.one Try.isAgg5 rfl) (EqOk.int Try.runUnderlying5) (.cons rfl (.one Try.isAgg5 rfl) (.one Try.isAgg5 rfl) (EqOk.int Try.runUnderlying5) (.cons rfl (.one Try.isAgg25 rfl) (.one Try.isAgg25 rfl) (EqOk.int Try.runUnderlying25) (.cons rfl (.one Try.isAgg21 rfl) (.one Try.isAgg21 rfl) (EqOk.int Try.runUnderlying21) .nil)))))) rfl (TO.u rfl rfl (TX.move rfl rfl ?_)))))))))))))))))))))))))
 obtain ⟨hk4, h⟩ := ck h
 refine TO.cutS 12 [(33, .bool ((!((((gt p0 (IntKind.i64.wrap (p1 + 1))).fOp) == 0) && ((((gt p0 (IntKind.i64.wrap (p1 + 1))).fDst) == 0) && ((((gt p0 (IntKind.i64.wrap (p1 + 1))).fSrc) == 0) && ((((gt p0 (IntKind.i64.wrap (p1 + 1))).fOff) == 0) && ((((gt p0 (IntKind.i64.wrap (p1 + 1))).fImm) == ((gt p0 (IntKind.i64.wrap (p1 + 1))).fImm)) && true)))))) || ((((gt p0 p1).fSrc) == 1) && (((gt p0 (IntKind.i64.wrap (p1 + 1))).fImm) != 0))))] ?_ ?_
 · cases hc5 : (!((((gt p0 (IntKind.i64.wrap (p1 + 1))).fOp) == 0) && ((((gt p0 (IntKind.i64.wrap (p1 + 1))).fDst) == 0) && ((((gt p0 (IntKind.i64.wrap (p1 + 1))).fSrc) == 0) && ((((gt p0 (IntKind.i64.wrap (p1 + 1))).fOff) == 0) && ((((gt p0 (IntKind.i64.wrap (p1 + 1))).fImm) == ((gt p0 (IntKind.i64.wrap (p1 + 1))).fImm)) && true))))))
   · refine TO.g rfl rfl rfl rfl (TX.move rfl rfl (TO.g rfl rfl rfl rfl (TX.move rfl rfl (TO.g rfl rfl rfl rfl (TX.indexR (N := Instr.E) Try.runUnderlying24 Try.sizeOf27 rfl qn0 rfl (fun a w s => qp0 w s.ext) (ce hk4 hc5) rfl (TO.g rfl rfl rfl rfl (TX.fieldAddrE Try.runUnderlying27 rfl Try.sizeOf5 rfl rfl rfl (TO.g rfl rfl rfl rfl (TX.loadR1 (N := Instr.E) Try.isAgg5 rfl (fun a w s => qp0 w s.ext) (ce hk4 hc5) rfl rfl (TO.g rfl rfl rfl rfl (TX.ibin rfl rfl rfl rfl (TO.g rfl rfl rfl rfl (TX.move rfl rfl ?_)))))))))))))
     cases hc6 : (((gt p0 p1).fSrc) == 1)
     · exact TO.s rfl rfl rfl rfl rfl rfl (TO.s rfl rfl rfl rfl rfl rfl (TO.s rfl rfl rfl rfl rfl rfl (TO.g rfl rfl rfl rfl (TX.pickF rfl rfl rfl (TO.u rfl rfl (TX.pickF rfl rfl rfl (TO.nil (TE.cutS 12 rfl rfl ⟨rfl, trivial⟩))))))))
     exact TO.g rfl rfl rfl rfl (TX.fieldAddr' Try.runUnderlying27 rfl Try.sizeOf21 rfl rfl rfl (TO.g rfl rfl rfl rfl (TX.load1 (i := 0) Try.isAgg21 rfl rfl rfl rfl (TO.g rfl rfl rfl rfl (TX.ibin rfl rfl rfl rfl (TO.g rfl rfl rfl rfl (TX.pickT rfl rfl rfl (TO.u rfl rfl (TX.pickF rfl rfl rfl (TO.nil (TE.cutS 12 rfl rfl ⟨rfl, trivial⟩)))))))))))
   exact TO.s rfl rfl rfl rfl rfl rfl (TO.s rfl rfl rfl rfl rfl rfl (TO.s rfl rfl rfl rfl rfl rfl (TO.s rfl rfl rfl rfl rfl rfl (TO.s rfl rfl rfl rfl rfl rfl (TO.s rfl rfl rfl rfl rfl rfl (TO.s rfl rfl rfl rfl rfl rfl (TO.su rfl rfl rfl rfl rfl (TO.su rfl rfl rfl rfl rfl (TO.su rfl rfl rfl rfl rfl (TO.s rfl rfl rfl rfl rfl rfl (TO.u rfl rfl (TX.pickT rfl rfl rfl (TO.nil (TE.cutS 12 rfl rfl ⟨rfl, trivial⟩))))))))))))))
 refine TO.nil (TE.thenN rfl rfl (TC.cond rfl (fun hb7 => ?_) (fun hb7 => ?_)))
 · replace h := it h hb7
   exact TC.seq (TC.region (TO.u rfl rfl (TX.assign rfl rfl (TO.nil (TE.thenN rfl rfl (TC.ret (TE.thenR (TE.fin (R := ⟨[], []⟩) (TL.ret (R' := ⟨[], []⟩) Try.results38 (.cons (.tmp rfl) .nil) (subD 1 0 rfl rfl) ⟨congrArg ret38 (Option.some.inj h), rfl⟩)))))))))
 replace h := ie h hb7
 exact TC.skip (TE.thenN rfl rfl (TC.seq (TC.region (TO.u rfl rfl (TX.assign rfl rfl (TO.nil (TE.thenN rfl rfl (TC.ret (TE.fin (R := ⟨[], []⟩) (TL.ret (R' := ⟨[], []⟩) Try.results38 (.cons (.tmp rfl) .nil) (subD 1 0 rfl rfl) ⟨congrArg ret38 (Option.some.inj h), rfl⟩))))))))))
/-- (hatchway/shape.slot).target -/
def fn39 (p0 : Slot) (p1 : Int) : Int × Bool :=
  (bif !((p0.fclass == 5) || (p0.fclass == 6)) then (0, false) else (bindP (fn62 p0) fun v4 => (bif (!v4) && (p0.fop != 0) then (0, false) else (bif (p0.fop == 0) && (p0.fclass == 6) then (IntKind.i64.wrap ((IntKind.i64.wrap (p1 + 1)) + (IntKind.i64.wrap p0.fInstr.fImm)), true) else (IntKind.i64.wrap ((IntKind.i64.wrap (p1 + 1)) + (IntKind.i64.wrap p0.fInstr.fOff)), true)))))
def ret39 (r : Int × Bool) : Value := .tuple #[.int .i64 r.1, .bool r.2]
theorem c39 (p0 : Slot) (p1 : Int) (w : World) (r : Int × Bool)  (h : fn39 p0 p1 = r) : Ret Try.prog 39 [.agg #[.int .u8 p0.fInstr.fOp, .int .u8 p0.fInstr.fDst, .int .u8 p0.fInstr.fSrc, .int .i16 p0.fInstr.fOff, .int .i32 p0.fInstr.fImm, .int .u8 p0.fclass, .int .u8 p0.fop, .bool p0.freg], .int .i64 p1] w ⟨[], []⟩ (fun v R => v = ret39 r ∧ R = ⟨[], []⟩) := by
 unfold fn39 at h
 refine Ret.of_body Try.func39 rfl Try.ntmps39 rfl (fun _ hx => absurd hx List.not_mem_nil) List.nodup_nil (TC.seq (TC.region (TO.u rfl rfl (TX.box rfl rfl rfl (fun b1 => (TO.u rfl rfl (TX.assign rfl rfl (TO.u rfl rfl (TX.assign rfl rfl (TO.nil (TE.thenN rfl rfl (TC.seq (TC.region (TO.u rfl rfl (TX.fieldAddr' Try.runUnderlying58 rfl Try.sizeOf5 rfl rfl rfl (TO.u rfl rfl (TX.load1 (i := 0) Try.isAgg5 rfl rfl rfl rfl (TO.u rfl rfl (TX.ibin rfl rfl rfl rfl (TO.u rfl rfl (TX.move rfl rfl (TO.cutS 4 [(14, .bool ((p0.fclass == 5) || (p0.fclass == 6)))] ?_ ?_))))))))))))))))))))))
 · cases hc2 : (p0.fclass == 5)
   · exact TO.g rfl rfl rfl rfl (TX.fieldAddr' Try.runUnderlying58 rfl Try.sizeOf5 rfl rfl rfl (TO.g rfl rfl rfl rfl (TX.load1 (i := 0) Try.isAgg5 rfl rfl rfl rfl (TO.g rfl rfl rfl rfl (TX.ibin rfl rfl rfl rfl (TO.u rfl rfl (TX.pickF rfl rfl rfl (TO.nil (TE.cutS 4 rfl rfl ⟨rfl, trivial⟩)))))))))
   exact TO.s rfl rfl rfl rfl rfl rfl (TO.s rfl rfl rfl rfl rfl rfl (TO.s rfl rfl rfl rfl rfl rfl (TO.u rfl rfl (TX.pickT rfl rfl rfl (TO.nil (TE.cutS 4 rfl rfl ⟨rfl, trivial⟩))))))
 refine TO.u rfl rfl (TX.assign rfl rfl (TO.nil (TE.thenN rfl rfl (TC.seq (TC.block (TC.seq (TC.seq (TC.region (TO.u rfl rfl (TX.move rfl rfl (TO.u rfl rfl (TX.not rfl rfl (TO.u rfl rfl (TX.assign rfl rfl (TO.nil (TE.thenN rfl rfl (TC.cond rfl (fun hb3 => ?_) (fun hb3 => ?_))))))))))))))))))
 · replace h := it h hb3
   exact TC.skip (TE.thenN rfl rfl (TC.condT' rfl hb3 (TC.seq (TC.region (TO.u rfl rfl (TX.assign rfl rfl (TO.u rfl rfl (TX.assign rfl rfl (TO.nil (TE.thenN rfl rfl (TC.ret (TE.blockR (TE.thenR (TE.fin (R := ⟨[], []⟩) (TL.ret (R' := ⟨[], []⟩) Try.results39 (.cons (.tmp rfl) (.cons (.tmp rfl) .nil)) (subD 1 0 rfl rfl) ⟨congrArg ret39 h, rfl⟩)))))))))))))))
 replace h := ie h hb3
 refine TC.region (TO.u rfl rfl (TX.loadN (i := 0) Try.isAgg58 Try.sizeOf58 rfl rfl rfl rfl ?_))
 obtain ⟨v4, hv4, h⟩ := bp h
 refine TO.u rfl rfl (TX.callP Try.call62 rfl (fun a w s => c62 p0 _ _  hv4) rfl (TO.u rfl rfl (TX.not rfl rfl (TO.u rfl rfl (TX.move rfl rfl (TO.cutS 4 [(25, .bool ((!v4) && (p0.fop != 0)))] ?_ ?_))))))
 · cases hc5 : (!v4)
   · exact TO.s rfl rfl rfl rfl rfl rfl (TO.s rfl rfl rfl rfl rfl rfl (TO.s rfl rfl rfl rfl rfl rfl (TO.u rfl rfl (TX.pickF rfl rfl rfl (TO.nil (TE.cutS 4 rfl rfl ⟨rfl, trivial⟩))))))
   exact TO.g rfl rfl rfl rfl (TX.fieldAddr' Try.runUnderlying58 rfl Try.sizeOf5 rfl rfl rfl (TO.g rfl rfl rfl rfl (TX.load1 (i := 0) Try.isAgg5 rfl rfl rfl rfl (TO.g rfl rfl rfl rfl (TX.ibin rfl rfl rfl rfl (TO.u rfl rfl (TX.pickT rfl rfl rfl (TO.nil (TE.cutS 4 rfl rfl ⟨rfl, trivial⟩)))))))))
 refine TO.u rfl rfl (TX.assign rfl rfl (TO.nil (TE.thenN rfl rfl (TC.cond rfl (fun hb6 => ?_) (fun hb6 => ?_)))))
 · replace h := it h hb6
   exact TC.seq (TC.region (TO.u rfl rfl (TX.assign rfl rfl (TO.u rfl rfl (TX.assign rfl rfl (TO.nil (TE.thenN rfl rfl (TC.ret (TE.blockR (TE.thenR (TE.fin (R := ⟨[], []⟩) (TL.ret (R' := ⟨[], []⟩) Try.results39 (.cons (.tmp rfl) (.cons (.tmp rfl) .nil)) (subD 1 0 rfl rfl) ⟨congrArg ret39 h, rfl⟩))))))))))))
 replace h := ie h hb6
 refine TC.seq (TC.region (TO.u rfl rfl (TX.fieldAddr' Try.runUnderlying58 rfl Try.sizeOf5 rfl rfl rfl (TO.u rfl rfl (TX.load1 (i := 0) Try.isAgg5 rfl rfl rfl rfl (TO.u rfl rfl (TX.ibin rfl rfl rfl rfl (TO.u rfl rfl (TX.move rfl rfl (TO.cutS 4 [(34, .bool ((p0.fop == 0) && (p0.fclass == 6)))] ?_ ?_))))))))))
 · cases hc7 : (p0.fop == 0)
   · exact TO.s rfl rfl rfl rfl rfl rfl (TO.s rfl rfl rfl rfl rfl rfl (TO.s rfl rfl rfl rfl rfl rfl (TO.u rfl rfl (TX.pickF rfl rfl rfl (TO.nil (TE.cutS 4 rfl rfl ⟨rfl, trivial⟩))))))
   exact TO.g rfl rfl rfl rfl (TX.fieldAddr' Try.runUnderlying58 rfl Try.sizeOf5 rfl rfl rfl (TO.g rfl rfl rfl rfl (TX.load1 (i := 0) Try.isAgg5 rfl rfl rfl rfl (TO.g rfl rfl rfl rfl (TX.ibin rfl rfl rfl rfl (TO.u rfl rfl (TX.pickT rfl rfl rfl (TO.nil (TE.cutS 4 rfl rfl ⟨rfl, trivial⟩)))))))))
 refine TO.u rfl rfl (TX.assign rfl rfl (TO.nil (TE.thenN rfl rfl (TC.cond rfl (fun hb8 => ?_) (fun hb8 => ?_)))))
 · replace h := it h hb8
   exact TC.seq (TC.region (TO.u rfl rfl (TX.move rfl rfl (TO.u rfl rfl (TX.ibin rfl rfl rfl rfl (TO.u rfl rfl (TX.fieldAddr' Try.runUnderlying58 rfl Try.sizeOf27 rfl rfl rfl (TO.u rfl rfl (TX.fieldAddr' Try.runUnderlying27 rfl Try.sizeOf21 rfl rfl rfl (TO.u rfl rfl (TX.load1 (i := 0) Try.isAgg21 rfl rfl rfl rfl (TO.u rfl rfl (TX.conv Try.runUnderlying21 Try.runUnderlying3 rfl rfl (TO.u rfl rfl (TX.ibin rfl rfl rfl rfl (TO.u rfl rfl (TX.assign rfl rfl (TO.u rfl rfl (TX.assign rfl rfl (TO.nil (TE.thenN rfl rfl (TC.ret (TE.blockR (TE.thenR (TE.fin (R := ⟨[], []⟩) (TL.ret (R' := ⟨[], []⟩) Try.results39 (.cons (.tmp rfl) (.cons (.tmp rfl) .nil)) (subD 1 0 rfl rfl) ⟨congrArg ret39 h, rfl⟩))))))))))))))))))))))))))
 replace h := ie h hb8
 exact TC.skip (TE.blockN (TE.thenN rfl rfl (TC.seq (TC.region (TO.u rfl rfl (TX.move rfl rfl (TO.u rfl rfl (TX.ibin rfl rfl rfl rfl (TO.u rfl rfl (TX.fieldAddr' Try.runUnderlying58 rfl Try.sizeOf27 rfl rfl rfl (TO.u rfl rfl (TX.fieldAddr' Try.runUnderlying27 rfl Try.sizeOf25 rfl rfl rfl (TO.u rfl rfl (TX.load1 (i := 0) Try.isAgg25 rfl rfl rfl rfl (TO.u rfl rfl (TX.conv Try.runUnderlying25 Try.runUnderlying3 rfl rfl (TO.u rfl rfl (TX.ibin rfl rfl rfl rfl (TO.u rfl rfl (TX.assign rfl rfl (TO.u rfl rfl (TX.assign rfl rfl (TO.nil (TE.thenN rfl rfl (TC.ret (TE.fin (R := ⟨[], []⟩) (TL.ret (R' := ⟨[], []⟩) Try.results39 (.cons (.tmp rfl) (.cons (.tmp rfl) .nil)) (subD 1 0 rfl rfl) ⟨congrArg ret39 h, rfl⟩)))))))))))))))))))))))))))
/-- (hatchway/shape.slot).ends -/
def fn40 (p0 : Slot) : Bool :=
  (((p0.fclass == 5) || (p0.fclass == 6)) && ((p0.fop == 0) || (p0.fop == 144)))
def ret40 (r : Bool) : Value := .bool r
theorem c40 (p0 : Slot) (w : World) (r : Bool)  (h : fn40 p0 = r) : Ret Try.prog 40 [.agg #[.int .u8 p0.fInstr.fOp, .int .u8 p0.fInstr.fDst, .int .u8 p0.fInstr.fSrc, .int .i16 p0.fInstr.fOff, .int .i32 p0.fInstr.fImm, .int .u8 p0.fclass, .int .u8 p0.fop, .bool p0.freg]] w ⟨[], []⟩ (fun v R => v = ret40 r ∧ R = ⟨[], []⟩) := by
 unfold fn40 at h
 refine Ret.of_body Try.func40 rfl Try.ntmps40 rfl (fun _ hx => absurd hx List.not_mem_nil) List.nodup_nil (TC.seq (TC.region (TO.u rfl rfl (TX.box rfl rfl rfl (fun b1 => (TO.u rfl rfl (TX.assign rfl rfl (TO.nil (TE.thenN rfl rfl (TC.seq (TC.region (TO.u rfl rfl (TX.fieldAddr' Try.runUnderlying58 rfl Try.sizeOf5 rfl rfl rfl (TO.u rfl rfl (TX.load1 (i := 0) Try.isAgg5 rfl rfl rfl rfl (TO.u rfl rfl (TX.ibin rfl rfl rfl rfl (TO.u rfl rfl (TX.move rfl rfl (TO.cutS 4 [(11, .bool ((p0.fclass == 5) || (p0.fclass == 6)))] ?_ ?_))))))))))))))))))))
 · cases hc2 : (p0.fclass == 5)
   · exact TO.g rfl rfl rfl rfl (TX.fieldAddr' Try.runUnderlying58 rfl Try.sizeOf5 rfl rfl rfl (TO.g rfl rfl rfl rfl (TX.load1 (i := 0) Try.isAgg5 rfl rfl rfl rfl (TO.g rfl rfl rfl rfl (TX.ibin rfl rfl rfl rfl (TO.u rfl rfl (TX.pickF rfl rfl rfl (TO.nil (TE.cutS 4 rfl rfl ⟨rfl, trivial⟩)))))))))
   exact TO.s rfl rfl rfl rfl rfl rfl (TO.s rfl rfl rfl rfl rfl rfl (TO.s rfl rfl rfl rfl rfl rfl (TO.u rfl rfl (TX.pickT rfl rfl rfl (TO.nil (TE.cutS 4 rfl rfl ⟨rfl, trivial⟩))))))
 refine TO.u rfl rfl (TX.assign rfl rfl (TO.nil (TE.thenN rfl rfl (TC.seq (TC.region (TO.u rfl rfl (TX.move rfl rfl (TO.u rfl rfl (TX.move rfl rfl (TO.cutS 9 [(22, .bool (((p0.fclass == 5) || (p0.fclass == 6)) && ((p0.fop == 0) || (p0.fop == 144))))] ?_ ?_))))))))))
 · cases hc3 : ((p0.fclass == 5) || (p0.fclass == 6))
   · exact TO.s rfl rfl rfl rfl rfl rfl (TO.s rfl rfl rfl rfl rfl rfl (TO.s rfl rfl rfl rfl rfl rfl (TO.s rfl rfl rfl rfl rfl rfl (TO.su rfl rfl rfl rfl rfl (TO.su rfl rfl rfl rfl rfl (TO.su rfl rfl rfl rfl rfl (TO.s rfl rfl rfl rfl rfl rfl (TO.u rfl rfl (TX.pickF rfl rfl rfl (TO.nil (TE.cutS 9 rfl rfl ⟨rfl, trivial⟩)))))))))))
   refine TO.g rfl rfl rfl rfl (TX.fieldAddr' Try.runUnderlying58 rfl Try.sizeOf5 rfl rfl rfl (TO.g rfl rfl rfl rfl (TX.load1 (i := 0) Try.isAgg5 rfl rfl rfl rfl (TO.g rfl rfl rfl rfl (TX.ibin rfl rfl rfl rfl (TO.g rfl rfl rfl rfl (TX.move rfl rfl ?_)))))))
   cases hc4 : (p0.fop == 0)
   · exact TO.g rfl rfl rfl rfl (TX.fieldAddr' Try.runUnderlying58 rfl Try.sizeOf5 rfl rfl rfl (TO.g rfl rfl rfl rfl (TX.load1 (i := 0) Try.isAgg5 rfl rfl rfl rfl (TO.g rfl rfl rfl rfl (TX.ibin rfl rfl rfl rfl (TO.g rfl rfl rfl rfl (TX.pickF rfl rfl rfl (TO.u rfl rfl (TX.pickT rfl rfl rfl (TO.nil (TE.cutS 9 rfl rfl ⟨rfl, trivial⟩)))))))))))
   exact TO.s rfl rfl rfl rfl rfl rfl (TO.s rfl rfl rfl rfl rfl rfl (TO.s rfl rfl rfl rfl rfl rfl (TO.g rfl rfl rfl rfl (TX.pickT rfl rfl rfl (TO.u rfl rfl (TX.pickT rfl rfl rfl (TO.nil (TE.cutS 9 rfl rfl ⟨rfl, trivial⟩))))))))
 exact TO.u rfl rfl (TX.assign rfl rfl (TO.nil (TE.thenN rfl rfl (TC.ret (TE.fin (R := ⟨[], []⟩) (TL.ret (R' := ⟨[], []⟩) Try.results40 (.cons (.tmp rfl) .nil) (subD 1 0 rfl rfl) ⟨congrArg ret40 h, rfl⟩))))))
def fn14_r1 (x25 : List (Int × Bool)) (y28 : Int) (y29 : Slot) : Option (((List (Int × Bool))) × Nat) :=
  (some (mput x25 y28 true, 0))
theorem fn14_r1_s (x25 : List (Int × Bool)) (y28 : Int) (y29 : Slot) : fn14_r1 x25 y28 y29 = (some (mput x25 y28 true, 0)) := rfl
def fn14_r2 (F : Nat) (p0 : List Instr) (x48 : List (Int × Bool)) (x96 : Int) (x97 : Int) (x98 : Bool) (y99 : Int) (y100 : Slot) : Option ((Int × Int × Bool) × Nat) :=
  (bindP (fn35 y100) fun v117 => (bif !v117 then (some ((y99, 20, x98), 1)) else (bindP (fn36 y100) fun v119 => (bif !v119 then (some ((y99, 21, x98), 1)) else (Option.bind (fn37 F y100) fun v121 => (bif !v121 then (some ((y99, 22, x98), 1)) else (bif y100.fInstr.fOp == 24 then (Option.bind (fn38 p0 y99) fun v124 => (bif v124 != 0 then (some ((y99, v124, x98), 1)) else (bindP (fn39 y100 y99) fun v126 => (bif v126.2 && (!(mget x48 v126.1 false)) then (some ((y99, 23, x98), 1)) else (bindP (fn40 y100) fun v129 => (some ((x96, x97, v129), 0))))))) else (bindP (fn39 y100 y99) fun v130 => (bif v130.2 && (!(mget x48 v130.1 false)) then (some ((y99, 23, x98), 1)) else (bindP (fn40 y100) fun v133 => (some ((x96, x97, v133), 0))))))))))))
theorem fn14_r2_s (F : Nat) (p0 : List Instr) (x48 : List (Int × Bool)) (x96 : Int) (x97 : Int) (x98 : Bool) (y99 : Int) (y100 : Slot) : fn14_r2 F p0 x48 x96 x97 x98 y99 y100 = (bindP (fn35 y100) fun v117 => (bif !v117 then (some ((y99, 20, x98), 1)) else (bindP (fn36 y100) fun v119 => (bif !v119 then (some ((y99, 21, x98), 1)) else (Option.bind (fn37 F y100) fun v121 => (bif !v121 then (some ((y99, 22, x98), 1)) else (bif y100.fInstr.fOp == 24 then (Option.bind (fn38 p0 y99) fun v124 => (bif v124 != 0 then (some ((y99, v124, x98), 1)) else (bindP (fn39 y100 y99) fun v126 => (bif v126.2 && (!(mget x48 v126.1 false)) then (some ((y99, 23, x98), 1)) else (bindP (fn40 y100) fun v129 => (some ((x96, x97, v129), 0))))))) else (bindP (fn39 y100 y99) fun v130 => (bif v130.2 && (!(mget x48 v130.1 false)) then (some ((y99, 23, x98), 1)) else (bindP (fn40 y100) fun v133 => (some ((x96, x97, v133), 0)))))))))))) := rfl
def fn14_k2_0 (p0 : List Instr) (x134 : Int) (x135 : Int) (x136 : Bool) : Option (Int × Int) :=
  (bif !x136 then (some (IntKind.i64.wrap ((p0.length : Int) - 1), 24)) else (some (0, 0)))
theorem fn14_k2_0_s (p0 : List Instr) (x134 : Int) (x135 : Int) (x136 : Bool) : fn14_k2_0 p0 x134 x135 x136 = (bif !x136 then (some (IntKind.i64.wrap ((p0.length : Int) - 1), 24)) else (some (0, 0))) := rfl
def fn14_k2_1 (x134 : Int) (x135 : Int) (x136 : Bool) : Option (Int × Int) :=
  (some (x134, x135))
theorem fn14_k2_1_s (x134 : Int) (x135 : Int) (x136 : Bool) : fn14_k2_1 x134 x135 x136 = (some (x134, x135)) := rfl
def fn14_k1_0 (F : Nat) (p0 : List Instr) (x48 : List (Int × Bool)) : Option (Int × Int) :=
  (Option.bind (fn59 F (stepR (fun (s : Int × Int × Bool) (y : Int × Slot) => fn14_r2 F p0 x48 s.1 s.2.1 s.2.2 y.1 y.2)) goR p0 (((0, 0, false), 0) : (Int × Int × Bool) × Nat)) fun o138 => (bif Nat.beq o138.2 0 then fn14_k2_0 p0 o138.1.1 o138.1.2.1 o138.1.2.2 else (bif Nat.beq o138.2 1 then fn14_k2_1 o138.1.1 o138.1.2.1 o138.1.2.2 else none)))
theorem fn14_k1_0_s (F : Nat) (p0 : List Instr) (x48 : List (Int × Bool)) : fn14_k1_0 F p0 x48 = (Option.bind (fn59 F (stepR (fun (s : Int × Int × Bool) (y : Int × Slot) => fn14_r2 F p0 x48 s.1 s.2.1 s.2.2 y.1 y.2)) goR p0 (((0, 0, false), 0) : (Int × Int × Bool) × Nat)) fun o138 => (bif Nat.beq o138.2 0 then fn14_k2_0 p0 o138.1.1 o138.1.2.1 o138.1.2.2 else (bif Nat.beq o138.2 1 then fn14_k2_1 o138.1.1 o138.1.2.1 o138.1.2.2 else none))) := rfl
/-- hatchway/shape.Check -/
def fn14 (F : Nat) (p0 : List Instr) : Option (Int × Int) :=
  (bif ((p0.length : Int) == 0) || (decide ((4096 : Int) < (p0.length : Int))) then (some (0, 3)) else (Option.bind (fn59 F (stepR (fun (s : (List (Int × Bool))) (y : Int × Slot) => fn14_r1 s y.1 y.2)) goR p0 ((([] : List (Int × Bool)), 0) : ((List (Int × Bool))) × Nat)) fun o52 => (bif Nat.beq o52.2 0 then fn14_k1_0 F p0 o52.1 else none)))
def ret14 (r : Int × Int) : Value := .tuple #[.int .i64 r.1, .int .i64 r.2]
set_option maxHeartbeats 8000000 in
theorem c14 (F : Nat) (sp_0 : Option Addr) (n_0 cap_0 : Nat) (p0 : List Instr) (w : World) (r : Int × Int) (qn0 : p0.length = n_0) (qc0 : p0.length ≤ cap_0) (qp0 : RdF Instr.E w [] sp_0 p0) (h : fn14 F p0 = some r) : Ret Try.prog 14 [.slice sp_0 n_0 cap_0] w ⟨[], []⟩ (fun v R => v = ret14 r ∧ R = ⟨[], []⟩) := by
 unfold fn14 at h
 refine Ret.of_body Try.func14 rfl Try.ntmps14 rfl (fun _ hx => absurd hx List.not_mem_nil) List.nodup_nil (TC.seq (TC.region (TO.u rfl rfl (TX.box rfl rfl rfl (fun b1 => (TO.u rfl rfl (TX.alloc Try.zeroValue3 rfl rfl (fun b2 => (TO.u rfl rfl (TX.alloc Try.zeroValue28 rfl rfl (fun b3 => (TO.nil (TE.thenN rfl rfl (TC.seq (TC.seq (TC.region (TO.u rfl rfl (TX.load1 (i := 2) Try.isAgg24 rfl rfl rfl rfl (TO.u rfl rfl (TX.lenS (xs := p0) Try.runUnderlying24 rfl qn0 rfl (TO.u rfl rfl (TX.ibin rfl rfl rfl rfl (TO.u rfl rfl (TX.move rfl rfl (TO.cutS 4 [(19, .bool (((p0.length : Int) == 0) || (decide ((4096 : Int) < (p0.length : Int)))))] ?_ ?_)))))))))))))))))))))))))
 · cases hc4 : ((p0.length : Int) == 0)
   · exact TO.g rfl rfl rfl rfl (TX.load1 (i := 2) Try.isAgg24 rfl rfl rfl rfl (TO.g rfl rfl rfl rfl (TX.lenS (xs := p0) Try.runUnderlying24 rfl qn0 rfl (TO.g rfl rfl rfl rfl (TX.ibin rfl rfl rfl rfl (TO.u rfl rfl (TX.pickF rfl rfl rfl (TO.nil (TE.cutS 4 rfl rfl ⟨rfl, trivial⟩)))))))))
   exact TO.s rfl rfl rfl rfl rfl rfl (TO.s rfl rfl rfl rfl rfl rfl (TO.s rfl rfl rfl rfl rfl rfl (TO.u rfl rfl (TX.pickT rfl rfl rfl (TO.nil (TE.cutS 4 rfl rfl ⟨rfl, trivial⟩))))))
 refine TO.nil (TE.thenN rfl rfl (TC.cond rfl (fun hb5 => ?_) (fun hb5 => ?_)))
 · replace h := it h hb5
   exact TC.seq (TC.region (TO.u rfl rfl (TX.store (i := 1) Try.sizeOf3 rfl rfl rfl rfl rfl rfl rfl rfl (TO.u rfl rfl (TX.store (i := 0) Try.sizeOf28 rfl rfl rfl rfl rfl rfl rfl rfl (TO.nil (TE.thenN rfl rfl (TC.ret (TE.thenR (TE.fin (R := ⟨[], []⟩) (TL.ret (R' := ⟨[], []⟩) Try.results14 (.cons (.cell1 (i := 1) Try.isAgg3 rfl rfl rfl) (.cons (.cell1 (i := 0) Try.isAgg28 rfl rfl rfl) .nil)) (subD 3 0 rfl rfl) ⟨congrArg ret14 (Option.some.inj h), rfl⟩)))))))))))
 replace h := ie h hb5
 refine TC.skip (TE.thenN rfl rfl (TC.seq (TC.region (TO.u rfl rfl (TX.makeMapS (N := (Kn.int .i64)) (V := (fun (v : Bool) => (.bool v : Value))) rfl (fun m6 Hs8 ho9 => (TO.u rfl rfl (TX.alloc Try.zeroValue53 rfl rfl (fun b10 => (TO.u rfl rfl (TX.store (i := 0) Try.sizeOf53 rfl rfl rfl rfl rfl rfl rfl rfl (TO.nil (TE.thenN rfl rfl (TC.seq (TC.seq (TC.region (TO.u rfl rfl (TX.load1 (i := 3) Try.isAgg24 rfl rfl rfl rfl (TO.u rfl rfl (TX.callQ _ Try.call34 rfl (fun a w s => c34 _ _ _ p0 _) rfl ?_))))))))))))))))))))
 rintro _ _ ⟨b11, rfl, rfl⟩
 refine TO.reH ⟨[(b11, .cells #[.slice sp_0 n_0 cap_0] 24), (b10, .cells #[.map (some m6)] 53), (b3, .cells #[.int .i64 0] 28), (b2, .cells #[.int .i64 0] 3), (b1, .cells #[.slice sp_0 n_0 cap_0] 24)], [Hs8]⟩ rfl (TO.nil (TE.thenN rfl rfl (TC.block ?_)))
 obtain ⟨⟨o52, m53⟩, hl54, h⟩ := bd h
 refine TC.to (L' := [(1, .pointer (some ⟨b1, 0, none⟩)), (2, .pointer (some ⟨b2, 0, none⟩)), (3, .pointer (some ⟨b3, 0, none⟩)), (4, .pointer (some ⟨b10, 0, none⟩)), (22, .func (.func 59) #[] #[.pointer (some ⟨b11, 0, none⟩)])]) (E' := [(b11, .cells #[.slice sp_0 n_0 cap_0] 24), (b10, .cells #[.map (some m6)] 53), (b3, .cells #[.int .i64 0] 28), (b2, .cells #[.int .i64 0] 3), (b1, .cells #[.slice sp_0 n_0 cap_0] 24)]) (S' := [Hs8]) 0 0 ⟨rfl, rfl, rfl, rfl, rfl, trivial⟩ rfl rfl (TC.rangeO [23, 24] [0] [] (fun (x25 : (List (Int × Bool))) (H' : Hp) => ∃ Hs26, OwnM (Kn.int .i64) (fun (v : Bool) => (.bool v : Value)) m6 x25 Hs26 ∧ H' = ⟨[(b10, .cells #[.map (some m6)] 53), (b3, .cells #[.int .i64 0] 28), (b2, .cells #[.int .i64 0] 3), (b1, .cells #[.slice sp_0 n_0 cap_0] 24)], [Hs26]⟩) (fun (x : Int × Slot) => [.int .i64 x.1, .agg #[.int .u8 x.2.fInstr.fOp, .int .u8 x.2.fInstr.fDst, .int .u8 x.2.fInstr.fSrc, .int .i16 x.2.fInstr.fOff, .int .i32 x.2.fInstr.fImm, .int .u8 x.2.fclass, .int .u8 x.2.fop, .bool x.2.freg]]) (fun (s : (List (Int × Bool))) (y : Int × Slot) => fn14_r1 s y.1 y.2) ([] : List (Int × Bool)) o52 m53 Try.call59 rfl rfl (fun _ => rfl) rfl rfl ⟨Hs8, ho9, rfl⟩ (fun zw zv zJ zH zd zx zo zy zj => c59 F (stepR (fun (s : (List (Int × Bool))) (y : Int × Slot) => fn14_r1 s y.1 y.2)) goR zJ zv ((([] : List (Int × Bool)), 0) : ((List (Int × Bool))) × Nat) zH b11 _ _ _ p0 zw (o52, m53) qn0 qc0 (qp0.tr zx) zo zy zj hl54) ?_ ?_)
 · clear h hl54
   intro l30 r31 lr32 w33 R34 x25 y36 s37 m38 H39 Rr40 hst41 h hI147 hx42 fin43
   obtain ⟨y28, y29⟩ := y36
   obtain ⟨Hs26, ho27, rfl⟩ := hI147
   replace h := (fn14_r1_s x25 y28 y29).symm.trans h
   have qx44 := qp0.tr hx42
   refine TC.to (L' := [(1, .pointer (some ⟨b1, 0, none⟩)), (2, .pointer (some ⟨b2, 0, none⟩)), (3, .pointer (some ⟨b3, 0, none⟩)), (4, .pointer (some ⟨b10, 0, none⟩)), (22, .func (.func 59) #[] #[.pointer (some ⟨b11, 0, none⟩)]), (23, .int .i64 y28), (24, .agg #[.int .u8 y29.fInstr.fOp, .int .u8 y29.fInstr.fDst, .int .u8 y29.fInstr.fSrc, .int .i16 y29.fInstr.fOff, .int .i32 y29.fInstr.fImm, .int .u8 y29.fclass, .int .u8 y29.fop, .bool y29.freg])]) (E' := [(l30, .loop lr32), (r31, .deferred (some [])), (b10, .cells #[.map (some m6)] 53), (b3, .cells #[.int .i64 0] 28), (b2, .cells #[.int .i64 0] 3), (b1, .cells #[.slice sp_0 n_0 cap_0] 24)]) (S' := [Hs26]) 0 0 ⟨rfl, rfl, rfl, rfl, rfl, rfl, rfl, trivial⟩ rfl rfl (TC.region (TO.u rfl rfl (TX.assign rfl rfl (TO.nil (TE.begin (i := 0) rfl (by assumption) rfl ?_)))))
   refine TC.block (TC.region (TO.u rfl rfl (TX.load1 (i := 2) Try.isAgg53 rfl rfl rfl rfl (TO.u rfl rfl (TX.move rfl rfl (TO.u rfl rfl (TX.updM (N := (Kn.int .i64)) (V := (fun (v : Bool) => (.bool v : Value))) (si := 0) (k := y28) (v := true) (.inl rfl) Try.runUnderlying53 Try.runUnderlying3 rfl rfl rfl rfl ho27 (fun Hs45 _ S46 ho47 => ?_))))))))
   cases S46
   refine TO.nil (TE.blockN ?_)
   cases h
   exact TE.to (L' := []) (E' := [(l30, .loop { lr32 with state := .busy }), (r31, .deferred (some [])), (b10, .cells #[.map (some m6)] 53), (b3, .cells #[.int .i64 0] 28), (b2, .cells #[.int .i64 0] 3), (b1, .cells #[.slice sp_0 n_0 cap_0] 24)]) (S' := [Hs45]) 0 0 trivial rfl rfl (fin43 [] ⟨[(b10, .cells #[.map (some m6)] 53), (b3, .cells #[.int .i64 0] 28), (b2, .cells #[.int .i64 0] 3), (b1, .cells #[.slice sp_0 n_0 cap_0] 24)], [Hs45]⟩ ⟨Hs45, ho47, rfl⟩)
 clear hl54
 intro r51 H148 hI149
 obtain ⟨x48, q_⟩ : ∃ z, z = o52 := ⟨_, rfl⟩
 subst q_
 obtain ⟨Hs49, ho50, rfl⟩ := hI149
 refine TE.reH ⟨[(r51, .deferred (some [])), (b11, .cells #[.slice sp_0 n_0 cap_0] 24), (b10, .cells #[.map (some m6)] 53), (b3, .cells #[.int .i64 0] 28), (b2, .cells #[.int .i64 0] 3), (b1, .cells #[.slice sp_0 n_0 cap_0] 24)], [Hs49]⟩ rfl ?_
 cases hm150 : Nat.beq m53 0
 · replace h := ie h hm150
   cases h
 replace h := it h hm150
 have q_ := Nat.eq_of_beq_eq_true hm150
 subst q_
 replace h := (fn14_k1_0_s F p0 x48).symm.trans h
 refine TE.asE (e := .normal) rfl (TE.blockN (TE.thenN rfl rfl (TC.seq (TC.region (TO.u rfl rfl (TX.alloc Try.zeroValue4 rfl rfl (fun b55 => (TO.u rfl rfl (TX.store (i := 0) Try.sizeOf4 rfl rfl rfl rfl rfl rfl rfl rfl (TO.nil (TE.thenN rfl rfl (TC.seq (TC.seq (TC.region (TO.u rfl rfl (TX.load1 (i := 6) Try.isAgg24 rfl rfl rfl rfl (TO.u rfl rfl (TX.callQ _ Try.call34 rfl (fun a w s => c34 _ _ _ p0 _) rfl ?_))))))))))))))))))
 rintro _ _ ⟨b56, rfl, rfl⟩
 refine TO.reH ⟨[(b56, .cells #[.slice sp_0 n_0 cap_0] 24), (b55, .cells #[.bool false] 4), (r51, .deferred (some [])), (b11, .cells #[.slice sp_0 n_0 cap_0] 24), (b10, .cells #[.map (some m6)] 53), (b3, .cells #[.int .i64 0] 28), (b2, .cells #[.int .i64 0] 3), (b1, .cells #[.slice sp_0 n_0 cap_0] 24)], [Hs49]⟩ rfl (TO.nil (TE.thenN rfl rfl (TC.block ?_)))
 obtain ⟨⟨o138, m139⟩, hl140, h⟩ := bd h
 refine TC.to (L' := [(1, .pointer (some ⟨b1, 0, none⟩)), (2, .pointer (some ⟨b2, 0, none⟩)), (3, .pointer (some ⟨b3, 0, none⟩)), (4, .pointer (some ⟨b10, 0, none⟩)), (6, .pointer (some ⟨b55, 0, none⟩)), (28, .func (.func 59) #[] #[.pointer (some ⟨b56, 0, none⟩)])]) (E' := [(b56, .cells #[.slice sp_0 n_0 cap_0] 24), (b55, .cells #[.bool false] 4), (r51, .deferred (some [])), (b11, .cells #[.slice sp_0 n_0 cap_0] 24), (b10, .cells #[.map (some m6)] 53), (b3, .cells #[.int .i64 0] 28), (b2, .cells #[.int .i64 0] 3), (b1, .cells #[.slice sp_0 n_0 cap_0] 24)]) (S' := [Hs49]) 0 0 ⟨rfl, rfl, rfl, rfl, rfl, rfl, trivial⟩ rfl rfl (TC.rangeO [29, 30] [0] [] (fun (s : Int × Int × Bool) (H' : Hp) => match s with | (x96, x97, x98) => H' = ⟨[(b55, .cells #[.bool x98] 4), (r51, .deferred (some [])), (b11, .cells #[.slice sp_0 n_0 cap_0] 24), (b10, .cells #[.map (some m6)] 53), (b3, .cells #[.int .i64 x97] 28), (b2, .cells #[.int .i64 x96] 3), (b1, .cells #[.slice sp_0 n_0 cap_0] 24)], [Hs49]⟩) (fun (x : Int × Slot) => [.int .i64 x.1, .agg #[.int .u8 x.2.fInstr.fOp, .int .u8 x.2.fInstr.fDst, .int .u8 x.2.fInstr.fSrc, .int .i16 x.2.fInstr.fOff, .int .i32 x.2.fInstr.fImm, .int .u8 x.2.fclass, .int .u8 x.2.fop, .bool x.2.freg]]) (fun (s : Int × Int × Bool) (y : Int × Slot) => fn14_r2 F p0 x48 s.1 s.2.1 s.2.2 y.1 y.2) (0, 0, false) o138 m139 Try.call59 rfl rfl (fun _ => rfl) rfl rfl rfl (fun zw zv zJ zH zd zx zo zy zj => c59 F (stepR (fun (s : Int × Int × Bool) (y : Int × Slot) => fn14_r2 F p0 x48 s.1 s.2.1 s.2.2 y.1 y.2)) goR zJ zv (((0, 0, false), 0) : (Int × Int × Bool) × Nat) zH b56 _ _ _ p0 zw (o138, m139) qn0 qc0 (qp0.tr zx) zo zy zj hl140) ?_ ?_)
 · clear h hl140
   intro l101 r102 lr103 w104 R105 s106 y107 s108 m109 H110 Rr111 hst112 h hI142 hx113 fin114
   obtain ⟨x96, x97, x98⟩ := s106
   obtain ⟨y99, y100⟩ := y107
   cases hI142
   replace h := (fn14_r2_s F p0 x48 x96 x97 x98 y99 y100).symm.trans h
   have qx115 := qp0.tr hx113
   refine TC.to (L' := [(1, .pointer (some ⟨b1, 0, none⟩)), (2, .pointer (some ⟨b2, 0, none⟩)), (3, .pointer (some ⟨b3, 0, none⟩)), (4, .pointer (some ⟨b10, 0, none⟩)), (6, .pointer (some ⟨b55, 0, none⟩)), (28, .func (.func 59) #[] #[.pointer (some ⟨b56, 0, none⟩)]), (29, .int .i64 y99), (30, .agg #[.int .u8 y100.fInstr.fOp, .int .u8 y100.fInstr.fDst, .int .u8 y100.fInstr.fSrc, .int .i16 y100.fInstr.fOff, .int .i32 y100.fInstr.fImm, .int .u8 y100.fclass, .int .u8 y100.fop, .bool y100.freg])]) (E' := [(l101, .loop lr103), (r102, .deferred (some [])), (b55, .cells #[.bool x98] 4), (r51, .deferred (some [])), (b11, .cells #[.slice sp_0 n_0 cap_0] 24), (b10, .cells #[.map (some m6)] 53), (b3, .cells #[.int .i64 x97] 28), (b2, .cells #[.int .i64 x96] 3), (b1, .cells #[.slice sp_0 n_0 cap_0] 24)]) (S' := [Hs49]) 0 0 ⟨rfl, rfl, rfl, rfl, rfl, rfl, rfl, rfl, trivial⟩ rfl rfl (TC.seq (TC.region (TO.u rfl rfl (TX.assign rfl rfl (TO.nil (TE.thenN rfl rfl (TC.region (TO.u rfl rfl (TX.alloc Try.zeroValue58 rfl rfl (fun b116 => (TO.u rfl rfl (TX.store (i := 0) Try.sizeOf58 rfl rfl rfl rfl rfl rfl rfl rfl (TO.nil (TE.begin (i := 1) rfl (by assumption) rfl ?_))))))))))))))
   refine TC.block (TC.seq (TC.block (TC.seq (TC.region (TO.u rfl rfl (TX.loadN (i := 0) Try.isAgg58 Try.sizeOf58 rfl rfl rfl rfl ?_))))))
   obtain ⟨v117, hv117, h⟩ := bp h
   refine TO.u rfl rfl (TX.callP Try.call35 rfl (fun a w s => c35 y100 _ _  hv117) rfl (TO.u rfl rfl (TX.not rfl rfl (TO.u rfl rfl (TX.assign rfl rfl (TO.nil (TE.thenN rfl rfl (TC.cond rfl (fun hb118 => ?_) (fun hb118 => ?_)))))))))
   · replace h := it h hb118
     refine TC.seq (TC.region (TO.u rfl rfl (TX.move rfl rfl (TO.u rfl rfl (TX.store (i := 8) Try.sizeOf3 rfl rfl rfl rfl rfl rfl rfl rfl (TO.u rfl rfl (TX.store (i := 7) Try.sizeOf28 rfl rfl rfl rfl rfl rfl rfl rfl (TO.nil (TE.thenN rfl rfl (TC.ret (TE.blockR (TE.thenR (TE.blockR ?_)))))))))))))
     cases h
     exact TE.to (L' := []) (E' := [(l101, .loop { lr103 with state := .busy }), (r102, .deferred (some [])), (b55, .cells #[.bool x98] 4), (r51, .deferred (some [])), (b11, .cells #[.slice sp_0 n_0 cap_0] 24), (b10, .cells #[.map (some m6)] 53), (b3, .cells #[.int .i64 20] 28), (b2, .cells #[.int .i64 y99] 3), (b1, .cells #[.slice sp_0 n_0 cap_0] 24)]) (S' := [Hs49]) 1 0 trivial rfl rfl (fin114 [] ⟨[(b55, .cells #[.bool x98] 4), (r51, .deferred (some [])), (b11, .cells #[.slice sp_0 n_0 cap_0] 24), (b10, .cells #[.map (some m6)] 53), (b3, .cells #[.int .i64 20] 28), (b2, .cells #[.int .i64 y99] 3), (b1, .cells #[.slice sp_0 n_0 cap_0] 24)], [Hs49]⟩ rfl)
   replace h := ie h hb118
   refine TC.seq (TC.region (TO.u rfl rfl (TX.loadN (i := 0) Try.isAgg58 Try.sizeOf58 rfl rfl rfl rfl ?_)))
   obtain ⟨v119, hv119, h⟩ := bp h
   refine TO.u rfl rfl (TX.callP Try.call36 rfl (fun a w s => c36 y100 _ _  hv119) rfl (TO.u rfl rfl (TX.not rfl rfl (TO.u rfl rfl (TX.assign rfl rfl (TO.nil (TE.thenN rfl rfl (TC.cond rfl (fun hb120 => ?_) (fun hb120 => ?_)))))))))
   · replace h := it h hb120
     refine TC.seq (TC.region (TO.u rfl rfl (TX.move rfl rfl (TO.u rfl rfl (TX.store (i := 8) Try.sizeOf3 rfl rfl rfl rfl rfl rfl rfl rfl (TO.u rfl rfl (TX.store (i := 7) Try.sizeOf28 rfl rfl rfl rfl rfl rfl rfl rfl (TO.nil (TE.thenN rfl rfl (TC.ret (TE.blockR (TE.thenR (TE.blockR ?_)))))))))))))
     cases h
     exact TE.to (L' := []) (E' := [(l101, .loop { lr103 with state := .busy }), (r102, .deferred (some [])), (b55, .cells #[.bool x98] 4), (r51, .deferred (some [])), (b11, .cells #[.slice sp_0 n_0 cap_0] 24), (b10, .cells #[.map (some m6)] 53), (b3, .cells #[.int .i64 21] 28), (b2, .cells #[.int .i64 y99] 3), (b1, .cells #[.slice sp_0 n_0 cap_0] 24)]) (S' := [Hs49]) 1 0 trivial rfl rfl (fin114 [] ⟨[(b55, .cells #[.bool x98] 4), (r51, .deferred (some [])), (b11, .cells #[.slice sp_0 n_0 cap_0] 24), (b10, .cells #[.map (some m6)] 53), (b3, .cells #[.int .i64 21] 28), (b2, .cells #[.int .i64 y99] 3), (b1, .cells #[.slice sp_0 n_0 cap_0] 24)], [Hs49]⟩ rfl)
   replace h := ie h hb120
   refine TC.seq (TC.region (TO.u rfl rfl (TX.loadN (i := 0) Try.isAgg58 Try.sizeOf58 rfl rfl rfl rfl ?_)))
   obtain ⟨v121, hv121, h⟩ := bd h
   refine TO.u rfl rfl (TX.callP Try.call37 rfl (fun a w s => c37 F y100 _ _  hv121) rfl (TO.u rfl rfl (TX.not rfl rfl (TO.u rfl rfl (TX.assign rfl rfl (TO.nil (TE.thenN rfl rfl (TC.cond rfl (fun hb122 => ?_) (fun hb122 => ?_)))))))))
   · replace h := it h hb122
     refine TC.seq (TC.region (TO.u rfl rfl (TX.move rfl rfl (TO.u rfl rfl (TX.store (i := 8) Try.sizeOf3 rfl rfl rfl rfl rfl rfl rfl rfl (TO.u rfl rfl (TX.store (i := 7) Try.sizeOf28 rfl rfl rfl rfl rfl rfl rfl rfl (TO.nil (TE.thenN rfl rfl (TC.ret (TE.blockR (TE.thenR (TE.blockR ?_)))))))))))))
     cases h
     exact TE.to (L' := []) (E' := [(l101, .loop { lr103 with state := .busy }), (r102, .deferred (some [])), (b55, .cells #[.bool x98] 4), (r51, .deferred (some [])), (b11, .cells #[.slice sp_0 n_0 cap_0] 24), (b10, .cells #[.map (some m6)] 53), (b3, .cells #[.int .i64 22] 28), (b2, .cells #[.int .i64 y99] 3), (b1, .cells #[.slice sp_0 n_0 cap_0] 24)]) (S' := [Hs49]) 1 0 trivial rfl rfl (fin114 [] ⟨[(b55, .cells #[.bool x98] 4), (r51, .deferred (some [])), (b11, .cells #[.slice sp_0 n_0 cap_0] 24), (b10, .cells #[.map (some m6)] 53), (b3, .cells #[.int .i64 22] 28), (b2, .cells #[.int .i64 y99] 3), (b1, .cells #[.slice sp_0 n_0 cap_0] 24)], [Hs49]⟩ rfl)
   replace h := ie h hb122
   refine TC.skip (TE.blockN (TE.thenN rfl rfl (TC.seq (TC.seq (TC.region (TO.u rfl rfl (TX.fieldAddr' Try.runUnderlying58 rfl Try.sizeOf27 rfl rfl rfl (TO.u rfl rfl (TX.fieldAddr' Try.runUnderlying27 rfl Try.sizeOf5 rfl rfl rfl (TO.u rfl rfl (TX.load1 (i := 0) Try.isAgg5 rfl rfl rfl rfl (TO.u rfl rfl (TX.ibin rfl rfl rfl rfl (TO.nil (TE.thenN rfl rfl (TC.cond rfl (fun hb123 => ?_) (fun hb123 => ?_)))))))))))))))))
   · replace h := it h hb123
     refine TC.seq (TC.region (TO.u rfl rfl (TX.load1 (i := 9) Try.isAgg24 rfl rfl rfl rfl (TO.u rfl rfl (TX.move rfl rfl ?_)))))
     obtain ⟨v124, hv124, h⟩ := bd h
     refine TO.u rfl rfl (TX.callP Try.call38 rfl (fun a w s => c38 _ _ _ p0 y99 _ _ qn0 qc0 (qx115.tr s.extB0) hv124) rfl (TO.u rfl rfl (TX.assign rfl rfl (TO.nil (TE.thenN rfl rfl (TC.seq (TC.region (TO.u rfl rfl (TX.move rfl rfl (TO.u rfl rfl (TX.ibin rfl rfl rfl rfl (TO.nil (TE.thenN rfl rfl (TC.cond rfl (fun hb125 => ?_) (fun hb125 => ?_)))))))))))))))
     · replace h := it h hb125
       refine TC.seq (TC.region (TO.u rfl rfl (TX.move rfl rfl (TO.u rfl rfl (TX.move rfl rfl (TO.u rfl rfl (TX.store (i := 8) Try.sizeOf3 rfl rfl rfl rfl rfl rfl rfl rfl (TO.u rfl rfl (TX.store (i := 7) Try.sizeOf28 rfl rfl rfl rfl rfl rfl rfl rfl (TO.nil (TE.thenN rfl rfl (TC.ret (TE.thenR (TE.blockR ?_))))))))))))))
       cases h
       exact TE.to (L' := []) (E' := [(l101, .loop { lr103 with state := .busy }), (r102, .deferred (some [])), (b55, .cells #[.bool x98] 4), (r51, .deferred (some [])), (b11, .cells #[.slice sp_0 n_0 cap_0] 24), (b10, .cells #[.map (some m6)] 53), (b3, .cells #[.int .i64 v124] 28), (b2, .cells #[.int .i64 y99] 3), (b1, .cells #[.slice sp_0 n_0 cap_0] 24)]) (S' := [Hs49]) 1 0 trivial rfl rfl (fin114 [] ⟨[(b55, .cells #[.bool x98] 4), (r51, .deferred (some [])), (b11, .cells #[.slice sp_0 n_0 cap_0] 24), (b10, .cells #[.map (some m6)] 53), (b3, .cells #[.int .i64 v124] 28), (b2, .cells #[.int .i64 y99] 3), (b1, .cells #[.slice sp_0 n_0 cap_0] 24)], [Hs49]⟩ rfl)
     replace h := ie h hb125
     refine TC.skip (TE.thenN rfl rfl (TC.seq (TC.seq (TC.region (TO.u rfl rfl (TX.loadN (i := 0) Try.isAgg58 Try.sizeOf58 rfl rfl rfl rfl (TO.u rfl rfl (TX.move rfl rfl ?_))))))))
     obtain ⟨v126, hv126, h⟩ := bp h
     refine TO.u rfl rfl (TX.callP Try.call39 rfl (fun a w s => c39 y100 y99 _ _  hv126) rfl (TO.u rfl rfl (TX.move rfl rfl (TO.u rfl rfl (TX.extract rfl rfl rfl (TO.u rfl rfl (TX.extract rfl rfl rfl (TO.u rfl rfl (TX.assign rfl rfl (TO.u rfl rfl (TX.assign rfl rfl (TO.nil (TE.thenN rfl rfl (TC.seq (TC.region (TO.u rfl rfl (TX.move rfl rfl (TO.u rfl rfl (TX.move rfl rfl (TO.cutS 5 [(69, .bool (v126.2 && (!(mget x48 v126.1 false))))] ?_ ?_))))))))))))))))))))
     · cases hc127 : (v126.2)
       · exact TO.s rfl rfl rfl rfl rfl rfl (TO.s rfl rfl rfl rfl rfl rfl (TO.s rfl rfl rfl rfl rfl rfl (TO.s rfl rfl rfl rfl rfl rfl (TO.u rfl rfl (TX.pickF rfl rfl rfl (TO.nil (TE.cutS 5 rfl rfl ⟨rfl, trivial⟩)))))))
       exact TO.g rfl rfl rfl rfl (TX.load1 (i := 6) Try.isAgg53 rfl rfl rfl rfl (TO.g rfl rfl rfl rfl (TX.move rfl rfl (TO.g rfl rfl rfl rfl (TX.lookM (N := (Kn.int .i64)) (V := (fun (v : Bool) => (.bool v : Value))) (i := 0) (k := v126.1) (z := false) Try.runUnderlying53 Try.runUnderlying3 Try.zeroValue4 rfl rfl rfl ho50 rfl (TO.g rfl rfl rfl rfl (TX.not rfl rfl (TO.u rfl rfl (TX.pickT rfl rfl rfl (TO.nil (TE.cutS 5 rfl rfl ⟨rfl, trivial⟩)))))))))))
     refine TO.nil (TE.thenN rfl rfl (TC.cond rfl (fun hb128 => ?_) (fun hb128 => ?_)))
     · replace h := it h hb128
       refine TC.seq (TC.region (TO.u rfl rfl (TX.move rfl rfl (TO.u rfl rfl (TX.store (i := 8) Try.sizeOf3 rfl rfl rfl rfl rfl rfl rfl rfl (TO.u rfl rfl (TX.store (i := 7) Try.sizeOf28 rfl rfl rfl rfl rfl rfl rfl rfl (TO.nil (TE.thenN rfl rfl (TC.ret (TE.thenR (TE.blockR ?_))))))))))))
       cases h
       exact TE.to (L' := []) (E' := [(l101, .loop { lr103 with state := .busy }), (r102, .deferred (some [])), (b55, .cells #[.bool x98] 4), (r51, .deferred (some [])), (b11, .cells #[.slice sp_0 n_0 cap_0] 24), (b10, .cells #[.map (some m6)] 53), (b3, .cells #[.int .i64 23] 28), (b2, .cells #[.int .i64 y99] 3), (b1, .cells #[.slice sp_0 n_0 cap_0] 24)]) (S' := [Hs49]) 1 0 trivial rfl rfl (fin114 [] ⟨[(b55, .cells #[.bool x98] 4), (r51, .deferred (some [])), (b11, .cells #[.slice sp_0 n_0 cap_0] 24), (b10, .cells #[.map (some m6)] 53), (b3, .cells #[.int .i64 23] 28), (b2, .cells #[.int .i64 y99] 3), (b1, .cells #[.slice sp_0 n_0 cap_0] 24)], [Hs49]⟩ rfl)
     replace h := ie h hb128
     refine TC.skip (TE.thenN rfl rfl (TC.region (TO.u rfl rfl (TX.loadN (i := 0) Try.isAgg58 Try.sizeOf58 rfl rfl rfl rfl ?_))))
     obtain ⟨v129, hv129, h⟩ := bp h
     refine TO.u rfl rfl (TX.callP Try.call40 rfl (fun a w s => c40 y100 _ _  hv129) rfl (TO.u rfl rfl (TX.store (i := 3) Try.sizeOf4 rfl rfl rfl rfl rfl rfl rfl rfl (TO.nil (TE.blockN ?_)))))
     cases h
     exact TE.to (L' := []) (E' := [(l101, .loop { lr103 with state := .busy }), (r102, .deferred (some [])), (b55, .cells #[.bool v129] 4), (r51, .deferred (some [])), (b11, .cells #[.slice sp_0 n_0 cap_0] 24), (b10, .cells #[.map (some m6)] 53), (b3, .cells #[.int .i64 x97] 28), (b2, .cells #[.int .i64 x96] 3), (b1, .cells #[.slice sp_0 n_0 cap_0] 24)]) (S' := [Hs49]) 1 0 trivial rfl rfl (fin114 [] ⟨[(b55, .cells #[.bool v129] 4), (r51, .deferred (some [])), (b11, .cells #[.slice sp_0 n_0 cap_0] 24), (b10, .cells #[.map (some m6)] 53), (b3, .cells #[.int .i64 x97] 28), (b2, .cells #[.int .i64 x96] 3), (b1, .cells #[.slice sp_0 n_0 cap_0] 24)], [Hs49]⟩ rfl)
   replace h := ie h hb123
   refine TC.skip (TE.thenN rfl rfl (TC.seq (TC.seq (TC.region (TO.u rfl rfl (TX.loadN (i := 0) Try.isAgg58 Try.sizeOf58 rfl rfl rfl rfl (TO.u rfl rfl (TX.move rfl rfl ?_))))))))
   obtain ⟨v130, hv130, h⟩ := bp h
   refine TO.u rfl rfl (TX.callP Try.call39 rfl (fun a w s => c39 y100 y99 _ _  hv130) rfl (TO.u rfl rfl (TX.move rfl rfl (TO.u rfl rfl (TX.extract rfl rfl rfl (TO.u rfl rfl (TX.extract rfl rfl rfl (TO.u rfl rfl (TX.assign rfl rfl (TO.u rfl rfl (TX.assign rfl rfl (TO.nil (TE.thenN rfl rfl (TC.seq (TC.region (TO.u rfl rfl (TX.move rfl rfl (TO.u rfl rfl (TX.move rfl rfl (TO.cutS 5 [(69, .bool (v130.2 && (!(mget x48 v130.1 false))))] ?_ ?_))))))))))))))))))))
   · cases hc131 : (v130.2)
     · exact TO.s rfl rfl rfl rfl rfl rfl (TO.s rfl rfl rfl rfl rfl rfl (TO.s rfl rfl rfl rfl rfl rfl (TO.s rfl rfl rfl rfl rfl rfl (TO.u rfl rfl (TX.pickF rfl rfl rfl (TO.nil (TE.cutS 5 rfl rfl ⟨rfl, trivial⟩)))))))
     exact TO.g rfl rfl rfl rfl (TX.load1 (i := 6) Try.isAgg53 rfl rfl rfl rfl (TO.g rfl rfl rfl rfl (TX.move rfl rfl (TO.g rfl rfl rfl rfl (TX.lookM (N := (Kn.int .i64)) (V := (fun (v : Bool) => (.bool v : Value))) (i := 0) (k := v130.1) (z := false) Try.runUnderlying53 Try.runUnderlying3 Try.zeroValue4 rfl rfl rfl ho50 rfl (TO.g rfl rfl rfl rfl (TX.not rfl rfl (TO.u rfl rfl (TX.pickT rfl rfl rfl (TO.nil (TE.cutS 5 rfl rfl ⟨rfl, trivial⟩)))))))))))
   refine TO.nil (TE.thenN rfl rfl (TC.cond rfl (fun hb132 => ?_) (fun hb132 => ?_)))
   · replace h := it h hb132
     refine TC.seq (TC.region (TO.u rfl rfl (TX.move rfl rfl (TO.u rfl rfl (TX.store (i := 8) Try.sizeOf3 rfl rfl rfl rfl rfl rfl rfl rfl (TO.u rfl rfl (TX.store (i := 7) Try.sizeOf28 rfl rfl rfl rfl rfl rfl rfl rfl (TO.nil (TE.thenN rfl rfl (TC.ret (TE.thenR (TE.blockR ?_))))))))))))
     cases h
     exact TE.to (L' := []) (E' := [(l101, .loop { lr103 with state := .busy }), (r102, .deferred (some [])), (b55, .cells #[.bool x98] 4), (r51, .deferred (some [])), (b11, .cells #[.slice sp_0 n_0 cap_0] 24), (b10, .cells #[.map (some m6)] 53), (b3, .cells #[.int .i64 23] 28), (b2, .cells #[.int .i64 y99] 3), (b1, .cells #[.slice sp_0 n_0 cap_0] 24)]) (S' := [Hs49]) 1 0 trivial rfl rfl (fin114 [] ⟨[(b55, .cells #[.bool x98] 4), (r51, .deferred (some [])), (b11, .cells #[.slice sp_0 n_0 cap_0] 24), (b10, .cells #[.map (some m6)] 53), (b3, .cells #[.int .i64 23] 28), (b2, .cells #[.int .i64 y99] 3), (b1, .cells #[.slice sp_0 n_0 cap_0] 24)], [Hs49]⟩ rfl)
   replace h := ie h hb132
   refine TC.skip (TE.thenN rfl rfl (TC.region (TO.u rfl rfl (TX.loadN (i := 0) Try.isAgg58 Try.sizeOf58 rfl rfl rfl rfl ?_))))
   obtain ⟨v133, hv133, h⟩ := bp h
   refine TO.u rfl rfl (TX.callP Try.call40 rfl (fun a w s => c40 y100 _ _  hv133) rfl (TO.u rfl rfl (TX.store (i := 3) Try.sizeOf4 rfl rfl rfl rfl rfl rfl rfl rfl (TO.nil (TE.blockN ?_)))))
   cases h
   exact TE.to (L' := []) (E' := [(l101, .loop { lr103 with state := .busy }), (r102, .deferred (some [])), (b55, .cells #[.bool v133] 4), (r51, .deferred (some [])), (b11, .cells #[.slice sp_0 n_0 cap_0] 24), (b10, .cells #[.map (some m6)] 53), (b3, .cells #[.int .i64 x97] 28), (b2, .cells #[.int .i64 x96] 3), (b1, .cells #[.slice sp_0 n_0 cap_0] 24)]) (S' := [Hs49]) 1 0 trivial rfl rfl (fin114 [] ⟨[(b55, .cells #[.bool v133] 4), (r51, .deferred (some [])), (b11, .cells #[.slice sp_0 n_0 cap_0] 24), (b10, .cells #[.map (some m6)] 53), (b3, .cells #[.int .i64 x97] 28), (b2, .cells #[.int .i64 x96] 3), (b1, .cells #[.slice sp_0 n_0 cap_0] 24)], [Hs49]⟩ rfl)
 clear hl140
 intro r137 H143 hI144
 obtain ⟨x134, x135, x136⟩ := o138
 cases hI144
 refine TE.reH ⟨[(r137, .deferred (some [])), (b56, .cells #[.slice sp_0 n_0 cap_0] 24), (b55, .cells #[.bool x136] 4), (r51, .deferred (some [])), (b11, .cells #[.slice sp_0 n_0 cap_0] 24), (b10, .cells #[.map (some m6)] 53), (b3, .cells #[.int .i64 x135] 28), (b2, .cells #[.int .i64 x134] 3), (b1, .cells #[.slice sp_0 n_0 cap_0] 24)], [Hs49]⟩ rfl ?_
 cases hm145 : Nat.beq m139 0
 · replace h := ie h hm145
   cases hm146 : Nat.beq m139 1
   · replace h := ie h hm146
     cases h
   replace h := it h hm146
   have q_ := Nat.eq_of_beq_eq_true hm146
   subst q_
   replace h := (fn14_k2_1_s x134 x135 x136).symm.trans h
   exact TE.asE (e := .ret) rfl (TE.blockR (TE.thenR (TE.fin (R := ⟨[], []⟩) (TL.mark (i := 0) rfl rfl (TL.mark (i := 3) rfl rfl (TL.ret (R' := ⟨[], []⟩) Try.results14 (.cons (.cell1 (i := 7) Try.isAgg3 rfl rfl rfl) (.cons (.cell1 (i := 6) Try.isAgg28 rfl rfl rfl) .nil)) (subD 9 1 rfl rfl) ⟨congrArg ret14 (Option.some.inj h), rfl⟩))))))
 replace h := it h hm145
 have q_ := Nat.eq_of_beq_eq_true hm145
 subst q_
 replace h := (fn14_k2_0_s p0 x134 x135 x136).symm.trans h
 refine TE.asE (e := .normal) rfl (TE.blockN (TE.thenN rfl rfl (TC.seq (TC.seq (TC.region (TO.u rfl rfl (TX.load1 (i := 2) Try.isAgg4 rfl rfl rfl rfl (TO.u rfl rfl (TX.not rfl rfl (TO.nil (TE.thenN rfl rfl (TC.cond rfl (fun hb141 => ?_) (fun hb141 => ?_)))))))))))))
 · replace h := it h hb141
   exact TC.seq (TC.region (TO.u rfl rfl (TX.load1 (i := 8) Try.isAgg24 rfl rfl rfl rfl (TO.u rfl rfl (TX.lenS (xs := p0) Try.runUnderlying24 rfl qn0 rfl (TO.u rfl rfl (TX.ibin rfl rfl rfl rfl (TO.u rfl rfl (TX.store (i := 7) Try.sizeOf3 rfl rfl rfl rfl rfl rfl rfl rfl (TO.u rfl rfl (TX.store (i := 6) Try.sizeOf28 rfl rfl rfl rfl rfl rfl rfl rfl (TO.nil (TE.thenN rfl rfl (TC.ret (TE.thenR (TE.fin (R := ⟨[], []⟩) (TL.mark (i := 0) rfl rfl (TL.mark (i := 3) rfl rfl (TL.ret (R' := ⟨[], []⟩) Try.results14 (.cons (.cell1 (i := 7) Try.isAgg3 rfl rfl rfl) (.cons (.cell1 (i := 6) Try.isAgg28 rfl rfl rfl) .nil)) (subD 9 1 rfl rfl) ⟨congrArg ret14 (Option.some.inj h), rfl⟩)))))))))))))))))))
 replace h := ie h hb141
 exact TC.skip (TE.thenN rfl rfl (TC.seq (TC.region (TO.u rfl rfl (TX.store (i := 7) Try.sizeOf3 rfl rfl rfl rfl rfl rfl rfl rfl (TO.u rfl rfl (TX.store (i := 6) Try.sizeOf28 rfl rfl rfl rfl rfl rfl rfl rfl (TO.nil (TE.thenN rfl rfl (TC.ret (TE.fin (R := ⟨[], []⟩) (TL.mark (i := 0) rfl rfl (TL.mark (i := 3) rfl rfl (TL.ret (R' := ⟨[], []⟩) Try.results14 (.cons (.cell1 (i := 7) Try.isAgg3 rfl rfl rfl) (.cons (.cell1 (i := 6) Try.isAgg28 rfl rfl rfl) .nil)) (subD 9 1 rfl rfl) ⟨congrArg ret14 (Option.some.inj h), rfl⟩))))))))))))))
/-- math/bits.Mul32 -/
def fn90 (p0 : Int) (p1 : Int) : Int × Int :=
  (IntKind.u32.wrap (ishr .u64 (IntKind.u64.wrap ((IntKind.u64.wrap p0) * (IntKind.u64.wrap p1))) 32), IntKind.u32.wrap (IntKind.u64.wrap ((IntKind.u64.wrap p0) * (IntKind.u64.wrap p1))))
def ret90 (r : Int × Int) : Value := .tuple #[.int .u32 r.1, .int .u32 r.2]
theorem c90 (p0 : Int) (p1 : Int) (w : World) (r : Int × Int)  (h : fn90 p0 p1 = r) : Ret Try.prog 90 [.int .u32 p0, .int .u32 p1] w ⟨[], []⟩ (fun v R => v = ret90 r ∧ R = ⟨[], []⟩) := by
 unfold fn90 at h
 refine Ret.of_body Try.func90 rfl Try.ntmps90 rfl (fun _ hx => absurd hx List.not_mem_nil) List.nodup_nil (TC.seq (TC.region (TO.u rfl rfl (TX.assign rfl rfl (TO.u rfl rfl (TX.assign rfl rfl (TO.nil (TE.thenN rfl rfl (TC.seq (TC.region (TO.u rfl rfl (TX.move rfl rfl (TO.u rfl rfl (TX.conv Try.runUnderlying115 Try.runUnderlying118 rfl rfl (TO.u rfl rfl (TX.move rfl rfl (TO.u rfl rfl (TX.conv Try.runUnderlying115 Try.runUnderlying118 rfl rfl (TO.u rfl rfl (TX.ibin rfl rfl rfl rfl (TO.u rfl rfl (TX.assign rfl rfl (TO.nil (TE.thenN rfl rfl (TC.seq (TC.region (TO.u rfl rfl (TX.move rfl rfl (TO.u rfl rfl (TX.shr rfl rfl (by decide) rfl ?_))))))))))))))))))))))))))))))
 exact TO.u rfl rfl (TX.conv Try.runUnderlying118 Try.runUnderlying115 rfl rfl (TO.u rfl rfl (TX.move rfl rfl (TO.u rfl rfl (TX.conv Try.runUnderlying118 Try.runUnderlying115 rfl rfl (TO.u rfl rfl (TX.assign rfl rfl (TO.u rfl rfl (TX.assign rfl rfl (TO.nil (TE.thenN rfl rfl (TC.ret (TE.fin (R := ⟨[], []⟩) (TL.ret (R' := ⟨[], []⟩) Try.results90 (.cons (.tmp rfl) (.cons (.tmp rfl) .nil)) (subD 0 0 rfl rfl) ⟨congrArg ret90 h, rfl⟩))))))))))))))
/-- math/bits.Mul64 -/
def fn91 (p0 : Int) (p1 : Int) : Int × Int :=
  (IntKind.u64.wrap ((IntKind.u64.wrap ((IntKind.u64.wrap ((ishr .u64 p0 32) * (ishr .u64 p1 32))) + (ishr .u64 (IntKind.u64.wrap ((IntKind.u64.wrap ((ishr .u64 p0 32) * (iand .u64 p1 4294967295))) + (ishr .u64 (IntKind.u64.wrap ((iand .u64 p0 4294967295) * (iand .u64 p1 4294967295))) 32))) 32))) + (ishr .u64 (IntKind.u64.wrap ((iand .u64 (IntKind.u64.wrap ((IntKind.u64.wrap ((ishr .u64 p0 32) * (iand .u64 p1 4294967295))) + (ishr .u64 (IntKind.u64.wrap ((iand .u64 p0 4294967295) * (iand .u64 p1 4294967295))) 32))) 4294967295) + (IntKind.u64.wrap ((iand .u64 p0 4294967295) * (ishr .u64 p1 32))))) 32)), IntKind.u64.wrap (p0 * p1))
def ret91 (r : Int × Int) : Value := .tuple #[.int .u64 r.1, .int .u64 r.2]
theorem c91 (p0 : Int) (p1 : Int) (w : World) (r : Int × Int)  (h : fn91 p0 p1 = r) : Ret Try.prog 91 [.int .u64 p0, .int .u64 p1] w ⟨[], []⟩ (fun v R => v = ret91 r ∧ R = ⟨[], []⟩) := by
 unfold fn91 at h
 refine Ret.of_body Try.func91 rfl Try.ntmps91 rfl (fun _ hx => absurd hx List.not_mem_nil) List.nodup_nil (TC.seq (TC.region (TO.u rfl rfl (TX.assign rfl rfl (TO.u rfl rfl (TX.assign rfl rfl (TO.nil (TE.thenN rfl rfl (TC.seq (TC.region (TO.u rfl rfl (TX.move rfl rfl (TO.u rfl rfl (TX.ibin rfl rfl rfl rfl (TO.u rfl rfl (TX.assign rfl rfl (TO.nil (TE.thenN rfl rfl (TC.seq (TC.region (TO.u rfl rfl (TX.move rfl rfl (TO.u rfl rfl (TX.shr rfl rfl (by decide) rfl ?_))))))))))))))))))))))))
 refine TO.u rfl rfl (TX.assign rfl rfl (TO.nil (TE.thenN rfl rfl (TC.seq (TC.region (TO.u rfl rfl (TX.move rfl rfl (TO.u rfl rfl (TX.ibin rfl rfl rfl rfl (TO.u rfl rfl (TX.assign rfl rfl (TO.nil (TE.thenN rfl rfl (TC.seq (TC.region (TO.u rfl rfl (TX.move rfl rfl (TO.u rfl rfl (TX.shr rfl rfl (by decide) rfl ?_)))))))))))))))))))
 refine TO.u rfl rfl (TX.assign rfl rfl (TO.nil (TE.thenN rfl rfl (TC.seq (TC.region (TO.u rfl rfl (TX.move rfl rfl (TO.u rfl rfl (TX.move rfl rfl (TO.u rfl rfl (TX.ibin rfl rfl rfl rfl (TO.u rfl rfl (TX.assign rfl rfl (TO.nil (TE.thenN rfl rfl (TC.seq (TC.region (TO.u rfl rfl (TX.move rfl rfl (TO.u rfl rfl (TX.move rfl rfl (TO.u rfl rfl (TX.ibin rfl rfl rfl rfl (TO.u rfl rfl (TX.move rfl rfl (TO.u rfl rfl (TX.shr rfl rfl (by decide) rfl ?_)))))))))))))))))))))))))))
 refine TO.u rfl rfl (TX.ibin rfl rfl rfl rfl (TO.u rfl rfl (TX.assign rfl rfl (TO.nil (TE.thenN rfl rfl (TC.seq (TC.region (TO.u rfl rfl (TX.move rfl rfl (TO.u rfl rfl (TX.ibin rfl rfl rfl rfl (TO.u rfl rfl (TX.assign rfl rfl (TO.nil (TE.thenN rfl rfl (TC.seq (TC.region (TO.u rfl rfl (TX.move rfl rfl (TO.u rfl rfl (TX.shr rfl rfl (by decide) rfl ?_)))))))))))))))))))))
 refine TO.u rfl rfl (TX.assign rfl rfl (TO.nil (TE.thenN rfl rfl (TC.seq (TC.region (TO.u rfl rfl (TX.move rfl rfl (TO.u rfl rfl (TX.move rfl rfl (TO.u rfl rfl (TX.move rfl rfl (TO.u rfl rfl (TX.ibin rfl rfl rfl rfl (TO.u rfl rfl (TX.ibin rfl rfl rfl rfl (TO.u rfl rfl (TX.assign rfl rfl (TO.nil (TE.thenN rfl rfl (TC.seq (TC.region (TO.u rfl rfl (TX.move rfl rfl (TO.u rfl rfl (TX.move rfl rfl (TO.u rfl rfl (TX.ibin rfl rfl rfl rfl (TO.u rfl rfl (TX.move rfl rfl (TO.u rfl rfl (TX.ibin rfl rfl rfl rfl (TO.u rfl rfl (TX.move rfl rfl (TO.u rfl rfl (TX.shr rfl rfl (by decide) rfl ?_)))))))))))))))))))))))))))))))))))
 exact TO.u rfl rfl (TX.ibin rfl rfl rfl rfl (TO.u rfl rfl (TX.assign rfl rfl (TO.nil (TE.thenN rfl rfl (TC.seq (TC.region (TO.u rfl rfl (TX.move rfl rfl (TO.u rfl rfl (TX.move rfl rfl (TO.u rfl rfl (TX.ibin rfl rfl rfl rfl (TO.u rfl rfl (TX.assign rfl rfl (TO.nil (TE.thenN rfl rfl (TC.ret (TE.fin (R := ⟨[], []⟩) (TL.ret (R' := ⟨[], []⟩) Try.results91 (.cons (.tmp rfl) (.cons (.tmp rfl) .nil)) (subD 0 0 rfl rfl) ⟨congrArg ret91 h, rfl⟩))))))))))))))))))))
/-- math/bits.Mul -/
def fn79 (p0 : Int) (p1 : Int) : Int × Int :=
  (bindP (fn91 p0 p1) fun v1 => (v1.1, v1.2))
def ret79 (r : Int × Int) : Value := .tuple #[.int .u64 r.1, .int .u64 r.2]
theorem c79 (p0 : Int) (p1 : Int) (w : World) (r : Int × Int)  (h : fn79 p0 p1 = r) : Ret Try.prog 79 [.int .u64 p0, .int .u64 p1] w ⟨[], []⟩ (fun v R => v = ret79 r ∧ R = ⟨[], []⟩) := by
 unfold fn79 at h
 refine Ret.of_body Try.func79 rfl Try.ntmps79 rfl (fun _ hx => absurd hx List.not_mem_nil) List.nodup_nil (TC.seq (TC.region (TO.u rfl rfl (TX.assign rfl rfl (TO.u rfl rfl (TX.assign rfl rfl (TO.nil (TE.thenN rfl rfl (TC.seq (TC.condF rfl (TC.skip (TE.thenN rfl rfl (TC.seq (TC.region (TO.u rfl rfl (TX.move rfl rfl (TO.u rfl rfl (TX.move rfl rfl ?_))))))))))))))))))
 obtain ⟨v1, hv1, h⟩ := bp h
 exact TO.u rfl rfl (TX.callP Try.call91 rfl (fun a w s => c91 p0 p1 _ _  hv1) rfl (TO.u rfl rfl (TX.move rfl rfl (TO.u rfl rfl (TX.extract rfl rfl rfl (TO.u rfl rfl (TX.extract rfl rfl rfl (TO.u rfl rfl (TX.assign rfl rfl (TO.u rfl rfl (TX.assign rfl rfl (TO.nil (TE.thenN rfl rfl (TC.seq (TC.region (TO.u rfl rfl (TX.move rfl rfl (TO.u rfl rfl (TX.move rfl rfl (TO.u rfl rfl (TX.assign rfl rfl (TO.u rfl rfl (TX.assign rfl rfl (TO.nil (TE.thenN rfl rfl (TC.ret (TE.fin (R := ⟨[], []⟩) (TL.ret (R' := ⟨[], []⟩) Try.results79 (.cons (.tmp rfl) (.cons (.tmp rfl) .nil)) (subD 0 0 rfl rfl) ⟨congrArg ret79 h, rfl⟩))))))))))))))))))))))))))))
structure S__2_int where
  e0 : Int
  e1 : Int
  deriving DecidableEq, Inhabited
def S__2_int.enc (x : S__2_int) : List Value := [.int .i64 x.e0, .int .i64 x.e1]
def S__2_int.E : En S__2_int := ⟨S__2_int.enc, 2, fun _ => rfl, fun _ => rfl, by decide⟩
def fn56_l1 : Nat → (List S__2_int) → Int → Option ((List S__2_int))
  | 0, _, _ => none
  | n26014 + 1, x26001, x26005 => (bif decide (x26005 < (x26001.length : Int)) then (bif sliceOk x26005 ((x26001.length : Nat) : Int) x26001.length then (bif sliceOk ((0 : Nat) : Int) x26005 x26001.length then ((fn56_l1 n26014) (pasteX x26001 x26005.toNat ((cutX x26001 ((0 : Nat) : Int).toNat x26005.toNat).take ((((x26001.length : Nat) : Int).toNat) - x26005.toNat))) (IntKind.i64.wrap (x26005 + ((min (cutX x26001 ((0 : Nat) : Int).toNat x26005.toNat).length ((((x26001.length : Nat) : Int).toNat) - x26005.toNat) : Nat) : Int)))) else none) else none) else (some x26001))
theorem fn56_l1_s (n26014 : Nat) (x26001 : List S__2_int) (x26005 : Int) : fn56_l1 (n26014 + 1) x26001 x26005 = (bif decide (x26005 < (x26001.length : Int)) then (bif sliceOk x26005 ((x26001.length : Nat) : Int) x26001.length then (bif sliceOk ((0 : Nat) : Int) x26005 x26001.length then ((fn56_l1 n26014) (pasteX x26001 x26005.toNat ((cutX x26001 ((0 : Nat) : Int).toNat x26005.toNat).take ((((x26001.length : Nat) : Int).toNat) - x26005.toNat))) (IntKind.i64.wrap (x26005 + ((min (cutX x26001 ((0 : Nat) : Int).toNat x26005.toNat).length ((((x26001.length : Nat) : Int).toNat) - x26005.toNat) : Nat) : Int)))) else none) else none) else (some x26001)) := rfl
def fn56_k1 (x26007 : List S__2_int) : Option ((List S__2_int)) :=
  (some x26007)
theorem fn56_k1_s (x26007 : List S__2_int) : fn56_k1 x26007 = (some x26007) := rfl
/-- slices.Repeat____2_int,_2_int_ -/
def fn56 (F : Nat) (p0 : List S__2_int) (p1 : Int) : Option ((List S__2_int)) :=
  (bif decide (p1 < 0) then none else (bindP (fn79 (IntKind.u64.wrap (p0.length : Int)) (IntKind.u64.wrap p1)) fun v2 => (bif (decide ((0 : Int) < v2.1)) || (decide ((9223372036854775807 : Int) < v2.2)) then none else (bif decide (0 ≤ IntKind.i64.wrap v2.2) && decide (IntKind.i64.wrap v2.2 ≤ IntKind.i64.wrap v2.2) && decide ((16 : Int) * (IntKind.i64.wrap v2.2) ≤ 281474976710656) && decide (IntKind.i64.wrap v2.2 ≤ 9223372036854775807) then (Option.bind (fn56_l1 F (pasteX (List.replicate (IntKind.i64.wrap v2.2).toNat (⟨0, 0⟩ : S__2_int)) 0 (p0.take (((List.replicate (IntKind.i64.wrap v2.2).toNat (⟨0, 0⟩ : S__2_int)).length) - 0))) ((min p0.length (((List.replicate (IntKind.i64.wrap v2.2).toNat (⟨0, 0⟩ : S__2_int)).length) - 0) : Nat) : Int)) fun o26011 => (fn56_k1 o26011)) else none))))
def post56 (r : (List S__2_int)) (v : Value) (R : Hp) : Prop := ∃ sp n cap Hs, v = .slice sp n cap ∧ r.length = n ∧ R = ⟨[], [Hs]⟩ ∧ OwnL S__2_int.E 51 sp cap r Hs
set_option maxHeartbeats 8000000 in
theorem c56 (F : Nat) (sp_0 : Option Addr) (n_0 cap_0 : Nat) (p0 : List S__2_int) (p1 : Int) (w : World) (r : (List S__2_int)) (qn0 : p0.length = n_0) (qc0 : p0.length ≤ cap_0) (qp0 : RdF S__2_int.E w [] sp_0 p0) (h : fn56 F p0 p1 = some r) : Ret Try.prog 56 [.slice sp_0 n_0 cap_0, .int .i64 p1] w ⟨[], []⟩ (post56 r) := by
 unfold fn56 at h
 refine Ret.of_body Try.func56 rfl Try.ntmps56 rfl (fun _ hx => absurd hx List.not_mem_nil) List.nodup_nil (TC.seq (TC.region (TO.u rfl rfl (TX.assign rfl rfl (TO.nil (TE.thenN rfl rfl (TC.seq (TC.seq (TC.region (TO.u rfl rfl (TX.move rfl rfl (TO.u rfl rfl (TX.ibin rfl rfl rfl rfl (TO.nil (TE.thenN rfl rfl (TC.cond rfl (fun hb1 => ?_) (fun hb1 => ?_)))))))))))))))))
 · replace h := it h hb1
   refine TC.region ?_
   cases h
 replace h := ie h hb1
 refine TC.skip (TE.thenN rfl rfl (TC.seq (TC.region (TO.u rfl rfl (TX.move rfl rfl (TO.u rfl rfl (TX.lenS (xs := p0) Try.runUnderlying49 rfl qn0 rfl (TO.u rfl rfl (TX.conv Try.runUnderlying3 Try.runUnderlying105 rfl rfl (TO.u rfl rfl (TX.move rfl rfl (TO.u rfl rfl (TX.conv Try.runUnderlying3 Try.runUnderlying105 rfl rfl ?_)))))))))))))
 obtain ⟨v2, hv2, h⟩ := bp h
 refine TO.u rfl rfl (TX.callP Try.call79 rfl (fun a w s => c79 (IntKind.u64.wrap (p0.length : Int)) (IntKind.u64.wrap p1) _ _  hv2) rfl (TO.u rfl rfl (TX.move rfl rfl (TO.u rfl rfl (TX.extract rfl rfl rfl (TO.u rfl rfl (TX.extract rfl rfl rfl (TO.u rfl rfl (TX.assign rfl rfl (TO.u rfl rfl (TX.assign rfl rfl (TO.nil (TE.thenN rfl rfl (TC.seq (TC.seq (TC.region (TO.u rfl rfl (TX.move rfl rfl (TO.u rfl rfl (TX.ibin rfl rfl rfl rfl (TO.u rfl rfl (TX.move rfl rfl (TO.cutS 3 [(26, .bool ((decide ((0 : Int) < v2.1)) || (decide ((9223372036854775807 : Int) < v2.2))))] ?_ ?_)))))))))))))))))))))))
 · cases hc3 : (decide ((0 : Int) < v2.1))
   · exact TO.g rfl rfl rfl rfl (TX.move rfl rfl (TO.g rfl rfl rfl rfl (TX.ibin rfl rfl rfl rfl (TO.u rfl rfl (TX.pickF rfl rfl rfl (TO.nil (TE.cutS 3 rfl rfl ⟨rfl, trivial⟩)))))))
   exact TO.s rfl rfl rfl rfl rfl rfl (TO.s rfl rfl rfl rfl rfl rfl (TO.u rfl rfl (TX.pickT rfl rfl rfl (TO.nil (TE.cutS 3 rfl rfl ⟨rfl, trivial⟩)))))
 refine TO.nil (TE.thenN rfl rfl (TC.cond rfl (fun hb4 => ?_) (fun hb4 => ?_)))
 · replace h := it h hb4
   refine TC.region ?_
   cases h
 replace h := ie h hb4
 refine TC.skip (TE.thenN rfl rfl (TC.seq (TC.region (TO.u rfl rfl (TX.move rfl rfl (TO.u rfl rfl (TX.conv Try.runUnderlying105 Try.runUnderlying3 rfl rfl ?_)))))))
 obtain ⟨hk5, h⟩ := ck h
 refine TO.u rfl rfl (TX.makeS (N := S__2_int.E) (z := (⟨0, 0⟩ : S__2_int)) Try.runUnderlying49 Try.typeInfo51 rfl rfl rfl rfl rfl rfl hk5 rfl (fun sp6 Hs8 ho9 => (TO.u rfl rfl (TX.assign rfl rfl (TO.nil (TE.thenN rfl rfl (TC.seq (TC.region (TO.u rfl rfl (TX.move rfl rfl (TO.u rfl rfl (TX.move rfl rfl (TO.u rfl rfl (TX.copyS (N := S__2_int.E) (si := 0) (xs := List.replicate (IntKind.i64.wrap v2.2).toNat (⟨0, 0⟩ : S__2_int)) (ys := p0) (lo := 0) (hi := (List.replicate (IntKind.i64.wrap v2.2).toNat (⟨0, 0⟩ : S__2_int)).length) (sp := sp6) (cap := (IntKind.i64.wrap v2.2).toNat) Try.runUnderlying49 Try.typeInfo51 rfl rfl (.inl ⟨rfl, rfl⟩) List.length_replicate (Nat.le_refl _) rfl qn0 rfl ho9 (fun a w s => qp0 w s.ext) rfl (fun Hs10 _ S11 ho12 => ?_)))))))))))))))
 cases S11
 refine TO.u rfl rfl (TX.assign rfl rfl (TO.nil (TE.thenN rfl rfl (TC.seq (TC.block ?_)))))
 obtain ⟨o26011, hl26012, h⟩ := bd h
 refine TC.to (L' := [(7, .slice sp6 ((IntKind.i64.wrap v2.2).toNat) ((IntKind.i64.wrap v2.2).toNat)), (8, .int .i64 ((min p0.length (((List.replicate (IntKind.i64.wrap v2.2).toNat (⟨0, 0⟩ : S__2_int)).length) - 0) : Nat) : Int))]) (E' := []) (S' := [Hs10]) 0 0 ⟨rfl, rfl, trivial⟩ rfl rfl (TC.cutE 0 (fun L' H' => ∃ x26007 : List S__2_int, x26007 = o26011 ∧ ∃ Hs26009, OwnL S__2_int.E 51 sp6 ((IntKind.i64.wrap v2.2).toNat) x26007 Hs26009 ∧ x26007.length = ((IntKind.i64.wrap v2.2).toNat) ∧ L' = [(7, .slice sp6 ((IntKind.i64.wrap v2.2).toNat) ((IntKind.i64.wrap v2.2).toNat))] ∧ H' = ⟨[], [Hs26009]⟩) ?_ ?_)
 · have h026016 := h
   clear h
   refine TC.loop (fun (n : Nat) (s : (List S__2_int) × Int) => fn56_l1 n s.1 s.2) o26011 (fun _ => rfl) (fun (s : (List S__2_int) × Int) L' H' => match s with | (x26001, x26005) => ∃ Hs26003, OwnL S__2_int.E 51 sp6 ((IntKind.i64.wrap v2.2).toNat) x26001 Hs26003 ∧ x26001.length = ((IntKind.i64.wrap v2.2).toNat) ∧ L' = [(7, .slice sp6 ((IntKind.i64.wrap v2.2).toNat) ((IntKind.i64.wrap v2.2).toNat)), (8, .int .i64 x26005)] ∧ H' = ⟨[], [Hs26003]⟩) ?_ F (pasteX (List.replicate (IntKind.i64.wrap v2.2).toNat (⟨0, 0⟩ : S__2_int)) 0 (p0.take (((List.replicate (IntKind.i64.wrap v2.2).toNat (⟨0, 0⟩ : S__2_int)).length) - 0)), ((min p0.length (((List.replicate (IntKind.i64.wrap v2.2).toNat (⟨0, 0⟩ : S__2_int)).length) - 0) : Nat) : Int)) ⟨Hs10, ho12, ((pasteX_len (Nat.le_refl _)).trans List.length_replicate), rfl, rfl⟩ hl26012
   clear hl26012
   rintro K26013 n26014 ⟨x26001, x26005⟩ _ _ ⟨Hs26003, ho26004, hn26002, rfl, rfl⟩ h ih26015
   replace h := (fn56_l1_s n26014 x26001 x26005).symm.trans h
   refine TC.seq (TC.seq (TC.region (TO.u rfl rfl (TX.move rfl rfl (TO.u rfl rfl (TX.move rfl rfl (TO.u rfl rfl (TX.lenS (xs := x26001) Try.runUnderlying49 rfl hn26002 rfl (TO.u rfl rfl (TX.ibin rfl rfl rfl rfl (TO.nil (TE.thenN rfl rfl (TC.cond rfl (fun hb26017 => ?_) (fun hb26017 => ?_))))))))))))))
   · replace h := it h hb26017
     refine TC.skip (TE.thenN rfl rfl (TC.block ?_))
     obtain ⟨hk31501, h⟩ := ck h
     obtain ⟨hk34501, h⟩ := ck h
     refine TC.to (L' := [(7, .slice sp6 ((IntKind.i64.wrap v2.2).toNat) ((IntKind.i64.wrap v2.2).toNat)), (8, .int .i64 x26005)]) (E' := []) (S' := [Hs26003]) 0 0 ⟨rfl, rfl, trivial⟩ rfl rfl (TC.drawD hmix (fun T37501 hdef37502 => ?_))
     have hS27000_0 : ∀ (Hs35001 : Blocks), ∀ (ho35003 : OwnL S__2_int.E 51 sp6 ((IntKind.i64.wrap v2.2).toNat) (pasteX x26001 x26005.toNat ((cutX x26001 ((0 : Nat) : Int).toNat x26005.toNat).take ((((x26001.length : Nat) : Int).toNat) - x26005.toNat))) Hs35001), T37501 0 [true, true, true, true, true, true, true, true, true, true] [(7, .slice sp6 ((IntKind.i64.wrap v2.2).toNat) ((IntKind.i64.wrap v2.2).toNat)), (8, .int .i64 (IntKind.i64.wrap (x26005 + ((min (cutX x26001 ((0 : Nat) : Int).toNat x26005.toNat).length ((((x26001.length : Nat) : Int).toNat) - x26005.toNat) : Nat) : Int))))] ⟨[], [Hs35001]⟩ := by
      intro Hs35001 ho35003
      rw [hdef37502]
      exact TD.done rfl rfl (TE.blockN (TE.to (L' := [(7, .slice sp6 ((IntKind.i64.wrap v2.2).toNat) ((IntKind.i64.wrap v2.2).toNat)), (8, .int .i64 (IntKind.i64.wrap (x26005 + ((min (cutX x26001 ((0 : Nat) : Int).toNat x26005.toNat).length ((((x26001.length : Nat) : Int).toNat) - x26005.toNat) : Nat) : Int))))]) (E' := []) (S' := [Hs35001]) 0 0 ⟨rfl, rfl, trivial⟩ rfl rfl (ih26015 (pasteX x26001 x26005.toNat ((cutX x26001 ((0 : Nat) : Int).toNat x26005.toNat).take ((((x26001.length : Nat) : Int).toNat) - x26005.toNat)), IntKind.i64.wrap (x26005 + ((min (cutX x26001 ((0 : Nat) : Int).toNat x26005.toNat).length ((((x26001.length : Nat) : Int).toNat) - x26005.toNat) : Nat) : Int))) _ _ ⟨Hs35001, ho35003, ((pasteX_len (sliceOk_hi hk31501)).trans hn26002), rfl, rfl⟩ h)))
     have hS27000_1 : ∀ (Hs35001 : Blocks), ∀ (ho35003 : OwnL S__2_int.E 51 sp6 ((IntKind.i64.wrap v2.2).toNat) (pasteX x26001 x26005.toNat ((cutX x26001 ((0 : Nat) : Int).toNat x26005.toNat).take ((((x26001.length : Nat) : Int).toNat) - x26005.toNat))) Hs35001), T37501 1 [true, true, true, true, true, true, true, true, true, false] [(7, .slice sp6 ((IntKind.i64.wrap v2.2).toNat) ((IntKind.i64.wrap v2.2).toNat)), (8, .int .i64 x26005), (46, .int .i64 (IntKind.i64.wrap (x26005 + ((min (cutX x26001 ((0 : Nat) : Int).toNat x26005.toNat).length ((((x26001.length : Nat) : Int).toNat) - x26005.toNat) : Nat) : Int))))] ⟨[], [Hs35001]⟩ := by
      intro Hs35001 ho35003
      rw [hdef37502]
      refine TD.step [9] 9 rfl rfl rfl rfl rfl (EdgeOk.cons rfl ?_ ?_)
      · exact TO.u rfl rfl (TX.assign rfl rfl (TO.nil (TE.toh (TE.td ((hdef37502 _ _ _ _).mp (hS27000_0 Hs35001 ho35003))) 0 0 ⟨rfl, rfl, trivial⟩ rfl rfl)))
      exact EdgeOk.nil
     have hS27000_2 : ∀ (Hs35001 : Blocks), ∀ (ho35003 : OwnL S__2_int.E 51 sp6 ((IntKind.i64.wrap v2.2).toNat) (pasteX x26001 x26005.toNat ((cutX x26001 ((0 : Nat) : Int).toNat x26005.toNat).take ((((x26001.length : Nat) : Int).toNat) - x26005.toNat))) Hs35001), T37501 2 [true, true, true, true, true, true, true, true, false, false] [(7, .slice sp6 ((IntKind.i64.wrap v2.2).toNat) ((IntKind.i64.wrap v2.2).toNat)), (8, .int .i64 x26005), (38, .int .i64 x26005), (45, .int .i64 ((min (cutX x26001 ((0 : Nat) : Int).toNat x26005.toNat).length ((((x26001.length : Nat) : Int).toNat) - x26005.toNat) : Nat) : Int))] ⟨[], [Hs35001]⟩ := by
      intro Hs35001 ho35003
      rw [hdef37502]
      refine TD.step [8] 8 rfl rfl rfl rfl rfl (EdgeOk.cons rfl ?_ ?_)
      · exact TO.u rfl rfl (TX.ibin rfl rfl rfl rfl (TO.nil (TE.toh (TE.td ((hdef37502 _ _ _ _).mp (hS27000_1 Hs35001 ho35003))) 0 0 ⟨rfl, rfl, rfl, trivial⟩ rfl rfl)))
      exact EdgeOk.nil
     have hS27000_3 : T37501 3 [true, true, true, true, true, true, true, false, false, false] [(7, .slice sp6 ((IntKind.i64.wrap v2.2).toNat) ((IntKind.i64.wrap v2.2).toNat)), (8, .int .i64 x26005), (38, .int .i64 x26005), (41, .slice (subP sp6 S__2_int.E.sz ((IntKind.i64.wrap v2.2).toNat) x26005.toNat) (((x26001.length : Nat) : Int).toNat - x26005.toNat) (((IntKind.i64.wrap v2.2).toNat) - x26005.toNat)), (44, .slice (subP sp6 S__2_int.E.sz ((IntKind.i64.wrap v2.2).toNat) ((0 : Nat) : Int).toNat) (x26005.toNat - ((0 : Nat) : Int).toNat) (((IntKind.i64.wrap v2.2).toNat) - ((0 : Nat) : Int).toNat))] ⟨[], [Hs26003]⟩ := by
      rw [hdef37502]
      refine TD.step [7] 7 rfl rfl rfl rfl rfl (EdgeOk.cons rfl ?_ ?_)
      · refine TO.u rfl rfl (TX.copyS (N := S__2_int.E) (si := 0) (xs := x26001) (ys := cutX x26001 ((0 : Nat) : Int).toNat x26005.toNat) (lo := x26005.toNat) (hi := ((x26001.length : Nat) : Int).toNat) (sp := sp6) (cap := (IntKind.i64.wrap v2.2).toNat) Try.runUnderlying49 Try.typeInfo51 rfl rfl (.inr rfl) rfl (sliceOk_hi hk31501) rfl (cutX_length (sliceOk_hi hk34501)) rfl ho26004 (fun a w s => (ho26004.rd s (i := 0) rfl).sub (sliceOk_hi hk34501) (Nat.le_trans (sliceOk_hi hk34501) ho26004.le_cap)) rfl (fun Hs35001 _ S35002 ho35003 => ?_))
        cases S35002
        exact TO.nil (TE.toh (TE.td ((hdef37502 _ _ _ _).mp (hS27000_2 Hs35001 ho35003))) 0 0 ⟨rfl, rfl, rfl, rfl, trivial⟩ rfl rfl)
      exact EdgeOk.nil
     have hS27000_4 : ∀ (Hs35001 : Blocks), ∀ (ho35003 : OwnL S__2_int.E 51 sp6 ((IntKind.i64.wrap v2.2).toNat) (pasteX x26001 x26005.toNat ((cutX x26001 ((0 : Nat) : Int).toNat x26005.toNat).take ((((x26001.length : Nat) : Int).toNat) - x26005.toNat))) Hs35001), T37501 3 [false, true, true, true, true, true, true, true, false, false] [(7, .slice sp6 ((IntKind.i64.wrap v2.2).toNat) ((IntKind.i64.wrap v2.2).toNat)), (8, .int .i64 x26005), (45, .int .i64 ((min (cutX x26001 ((0 : Nat) : Int).toNat x26005.toNat).length ((((x26001.length : Nat) : Int).toNat) - x26005.toNat) : Nat) : Int))] ⟨[], [Hs35001]⟩ := by
      intro Hs35001 ho35003
      rw [hdef37502]
      refine TD.step [0] 0 rfl rfl rfl rfl rfl (EdgeOk.cons rfl ?_ ?_)
      · exact TO.u rfl rfl (TX.move rfl rfl (TO.nil (TE.toh (TE.td ((hdef37502 _ _ _ _).mp (hS27000_2 Hs35001 ho35003))) 0 0 ⟨rfl, rfl, rfl, rfl, trivial⟩ rfl rfl)))
      exact EdgeOk.nil
     have hS27000_5 : T37501 4 [true, true, true, true, true, true, false, false, false, false] [(7, .slice sp6 ((IntKind.i64.wrap v2.2).toNat) ((IntKind.i64.wrap v2.2).toNat)), (8, .int .i64 x26005), (38, .int .i64 x26005), (41, .slice (subP sp6 S__2_int.E.sz ((IntKind.i64.wrap v2.2).toNat) x26005.toNat) (((x26001.length : Nat) : Int).toNat - x26005.toNat) (((IntKind.i64.wrap v2.2).toNat) - x26005.toNat)), (42, .slice sp6 ((IntKind.i64.wrap v2.2).toNat) ((IntKind.i64.wrap v2.2).toNat)), (43, .int .i64 x26005)] ⟨[], [Hs26003]⟩ := by
      rw [hdef37502]
      refine TD.step [6] 6 rfl rfl rfl rfl rfl (EdgeOk.cons rfl ?_ ?_)
      · exact TO.u rfl rfl (TX.slice (l := ((0 : Nat) : Int)) (h := x26005) Try.runUnderlying49 Try.sizeOf51 rfl .none (.some rfl) ho26004.le_cap hk34501 rfl (TO.nil (TE.toh (TE.td ((hdef37502 _ _ _ _).mp (hS27000_3))) 0 0 ⟨rfl, rfl, rfl, rfl, rfl, trivial⟩ rfl rfl)))
      exact EdgeOk.nil
     have hS27000_6 : T37501 4 [true, true, true, false, true, true, true, false, false, false] [(7, .slice sp6 ((IntKind.i64.wrap v2.2).toNat) ((IntKind.i64.wrap v2.2).toNat)), (8, .int .i64 x26005), (38, .int .i64 x26005), (39, .slice sp6 ((IntKind.i64.wrap v2.2).toNat) ((IntKind.i64.wrap v2.2).toNat)), (40, .int .i64 x26005), (44, .slice (subP sp6 S__2_int.E.sz ((IntKind.i64.wrap v2.2).toNat) ((0 : Nat) : Int).toNat) (x26005.toNat - ((0 : Nat) : Int).toNat) (((IntKind.i64.wrap v2.2).toNat) - ((0 : Nat) : Int).toNat))] ⟨[], [Hs26003]⟩ := by
      rw [hdef37502]
      refine TD.step [3] 3 rfl rfl rfl rfl rfl (EdgeOk.cons rfl ?_ ?_)
      · exact TO.u rfl rfl (TX.slice (l := x26005) (h := ((x26001.length : Nat) : Int)) Try.runUnderlying49 Try.sizeOf51 rfl (.some rfl) (.len hn26002) ho26004.le_cap hk31501 rfl (TO.nil (TE.toh (TE.td ((hdef37502 _ _ _ _).mp (hS27000_3))) 0 0 ⟨rfl, rfl, rfl, rfl, rfl, trivial⟩ rfl rfl)))
      exact EdgeOk.nil
     have hS27000_7 : T37501 4 [false, true, true, true, true, true, true, false, false, false] [(7, .slice sp6 ((IntKind.i64.wrap v2.2).toNat) ((IntKind.i64.wrap v2.2).toNat)), (8, .int .i64 x26005), (41, .slice (subP sp6 S__2_int.E.sz ((IntKind.i64.wrap v2.2).toNat) x26005.toNat) (((x26001.length : Nat) : Int).toNat - x26005.toNat) (((IntKind.i64.wrap v2.2).toNat) - x26005.toNat)), (44, .slice (subP sp6 S__2_int.E.sz ((IntKind.i64.wrap v2.2).toNat) ((0 : Nat) : Int).toNat) (x26005.toNat - ((0 : Nat) : Int).toNat) (((IntKind.i64.wrap v2.2).toNat) - ((0 : Nat) : Int).toNat))] ⟨[], [Hs26003]⟩ := by
      rw [hdef37502]
      refine TD.step [0, 7] 0 rfl rfl rfl rfl rfl (EdgeOk.cons rfl ?_ ?_)
      · exact TO.u rfl rfl (TX.move rfl rfl (TO.nil (TE.toh (TE.td ((hdef37502 _ _ _ _).mp (hS27000_3))) 0 0 ⟨rfl, rfl, rfl, rfl, rfl, trivial⟩ rfl rfl)))
      refine EdgeOk.cons rfl ?_ ?_
      · refine TO.u rfl rfl (TX.copyS (N := S__2_int.E) (si := 0) (xs := x26001) (ys := cutX x26001 ((0 : Nat) : Int).toNat x26005.toNat) (lo := x26005.toNat) (hi := ((x26001.length : Nat) : Int).toNat) (sp := sp6) (cap := (IntKind.i64.wrap v2.2).toNat) Try.runUnderlying49 Try.typeInfo51 rfl rfl (.inr rfl) rfl (sliceOk_hi hk31501) rfl (cutX_length (sliceOk_hi hk34501)) rfl ho26004 (fun a w s => (ho26004.rd s (i := 0) rfl).sub (sliceOk_hi hk34501) (Nat.le_trans (sliceOk_hi hk34501) ho26004.le_cap)) rfl (fun Hs35001 _ S35002 ho35003 => ?_))
        cases S35002
        exact TO.nil (TE.toh (TE.td ((hdef37502 _ _ _ _).mp (hS27000_4 Hs35001 ho35003))) 0 0 ⟨rfl, rfl, rfl, trivial⟩ rfl rfl)
      exact EdgeOk.nil
     have hS27000_8 : T37501 5 [true, true, true, true, true, false, false, false, false, false] [(7, .slice sp6 ((IntKind.i64.wrap v2.2).toNat) ((IntKind.i64.wrap v2.2).toNat)), (8, .int .i64 x26005), (38, .int .i64 x26005), (41, .slice (subP sp6 S__2_int.E.sz ((IntKind.i64.wrap v2.2).toNat) x26005.toNat) (((x26001.length : Nat) : Int).toNat - x26005.toNat) (((IntKind.i64.wrap v2.2).toNat) - x26005.toNat)), (42, .slice sp6 ((IntKind.i64.wrap v2.2).toNat) ((IntKind.i64.wrap v2.2).toNat))] ⟨[], [Hs26003]⟩ := by
      rw [hdef37502]
      refine TD.step [5] 5 rfl rfl rfl rfl rfl (EdgeOk.cons rfl ?_ ?_)
      · exact TO.u rfl rfl (TX.move rfl rfl (TO.nil (TE.toh (TE.td ((hdef37502 _ _ _ _).mp (hS27000_5))) 0 0 ⟨rfl, rfl, rfl, rfl, rfl, rfl, trivial⟩ rfl rfl)))
      exact EdgeOk.nil
     have hS27000_9 : T37501 5 [true, true, true, true, false, true, false, false, false, false] [(7, .slice sp6 ((IntKind.i64.wrap v2.2).toNat) ((IntKind.i64.wrap v2.2).toNat)), (8, .int .i64 x26005), (38, .int .i64 x26005), (41, .slice (subP sp6 S__2_int.E.sz ((IntKind.i64.wrap v2.2).toNat) x26005.toNat) (((x26001.length : Nat) : Int).toNat - x26005.toNat) (((IntKind.i64.wrap v2.2).toNat) - x26005.toNat)), (43, .int .i64 x26005)] ⟨[], [Hs26003]⟩ := by
      rw [hdef37502]
      refine TD.step [4] 4 rfl rfl rfl rfl rfl (EdgeOk.cons rfl ?_ ?_)
      · exact TO.u rfl rfl (TX.move rfl rfl (TO.nil (TE.toh (TE.td ((hdef37502 _ _ _ _).mp (hS27000_5))) 0 0 ⟨rfl, rfl, rfl, rfl, rfl, rfl, trivial⟩ rfl rfl)))
      exact EdgeOk.nil
     have hS27000_10 : T37501 5 [true, true, true, false, true, true, false, false, false, false] [(7, .slice sp6 ((IntKind.i64.wrap v2.2).toNat) ((IntKind.i64.wrap v2.2).toNat)), (8, .int .i64 x26005), (38, .int .i64 x26005), (39, .slice sp6 ((IntKind.i64.wrap v2.2).toNat) ((IntKind.i64.wrap v2.2).toNat)), (40, .int .i64 x26005), (42, .slice sp6 ((IntKind.i64.wrap v2.2).toNat) ((IntKind.i64.wrap v2.2).toNat)), (43, .int .i64 x26005)] ⟨[], [Hs26003]⟩ := by
      rw [hdef37502]
      refine TD.step [3, 6] 3 rfl rfl rfl rfl rfl (EdgeOk.cons rfl ?_ ?_)
      · exact TO.u rfl rfl (TX.slice (l := x26005) (h := ((x26001.length : Nat) : Int)) Try.runUnderlying49 Try.sizeOf51 rfl (.some rfl) (.len hn26002) ho26004.le_cap hk31501 rfl (TO.nil (TE.toh (TE.td ((hdef37502 _ _ _ _).mp (hS27000_5))) 0 0 ⟨rfl, rfl, rfl, rfl, rfl, rfl, trivial⟩ rfl rfl)))
      refine EdgeOk.cons rfl ?_ ?_
      · exact TO.u rfl rfl (TX.slice (l := ((0 : Nat) : Int)) (h := x26005) Try.runUnderlying49 Try.sizeOf51 rfl .none (.some rfl) ho26004.le_cap hk34501 rfl (TO.nil (TE.toh (TE.td ((hdef37502 _ _ _ _).mp (hS27000_6))) 0 0 ⟨rfl, rfl, rfl, rfl, rfl, rfl, trivial⟩ rfl rfl)))
      exact EdgeOk.nil
     have hS27000_11 : T37501 5 [true, true, false, false, true, true, true, false, false, false] [(7, .slice sp6 ((IntKind.i64.wrap v2.2).toNat) ((IntKind.i64.wrap v2.2).toNat)), (8, .int .i64 x26005), (38, .int .i64 x26005), (39, .slice sp6 ((IntKind.i64.wrap v2.2).toNat) ((IntKind.i64.wrap v2.2).toNat)), (44, .slice (subP sp6 S__2_int.E.sz ((IntKind.i64.wrap v2.2).toNat) ((0 : Nat) : Int).toNat) (x26005.toNat - ((0 : Nat) : Int).toNat) (((IntKind.i64.wrap v2.2).toNat) - ((0 : Nat) : Int).toNat))] ⟨[], [Hs26003]⟩ := by
      rw [hdef37502]
      refine TD.step [2] 2 rfl rfl rfl rfl rfl (EdgeOk.cons rfl ?_ ?_)
      · exact TO.u rfl rfl (TX.move rfl rfl (TO.nil (TE.toh (TE.td ((hdef37502 _ _ _ _).mp (hS27000_6))) 0 0 ⟨rfl, rfl, rfl, rfl, rfl, rfl, trivial⟩ rfl rfl)))
      exact EdgeOk.nil
     have hS27000_12 : T37501 5 [true, false, true, false, true, true, true, false, false, false] [(7, .slice sp6 ((IntKind.i64.wrap v2.2).toNat) ((IntKind.i64.wrap v2.2).toNat)), (8, .int .i64 x26005), (38, .int .i64 x26005), (40, .int .i64 x26005), (44, .slice (subP sp6 S__2_int.E.sz ((IntKind.i64.wrap v2.2).toNat) ((0 : Nat) : Int).toNat) (x26005.toNat - ((0 : Nat) : Int).toNat) (((IntKind.i64.wrap v2.2).toNat) - ((0 : Nat) : Int).toNat))] ⟨[], [Hs26003]⟩ := by
      rw [hdef37502]
      refine TD.step [1] 1 rfl rfl rfl rfl rfl (EdgeOk.cons rfl ?_ ?_)
      · exact TO.u rfl rfl (TX.move rfl rfl (TO.nil (TE.toh (TE.td ((hdef37502 _ _ _ _).mp (hS27000_6))) 0 0 ⟨rfl, rfl, rfl, rfl, rfl, rfl, trivial⟩ rfl rfl)))
      exact EdgeOk.nil
     have hS27000_13 : T37501 5 [false, true, true, true, true, true, false, false, false, false] [(7, .slice sp6 ((IntKind.i64.wrap v2.2).toNat) ((IntKind.i64.wrap v2.2).toNat)), (8, .int .i64 x26005), (41, .slice (subP sp6 S__2_int.E.sz ((IntKind.i64.wrap v2.2).toNat) x26005.toNat) (((x26001.length : Nat) : Int).toNat - x26005.toNat) (((IntKind.i64.wrap v2.2).toNat) - x26005.toNat)), (42, .slice sp6 ((IntKind.i64.wrap v2.2).toNat) ((IntKind.i64.wrap v2.2).toNat)), (43, .int .i64 x26005)] ⟨[], [Hs26003]⟩ := by
      rw [hdef37502]
      refine TD.step [0, 6] 0 rfl rfl rfl rfl rfl (EdgeOk.cons rfl ?_ ?_)
      · exact TO.u rfl rfl (TX.move rfl rfl (TO.nil (TE.toh (TE.td ((hdef37502 _ _ _ _).mp (hS27000_5))) 0 0 ⟨rfl, rfl, rfl, rfl, rfl, rfl, trivial⟩ rfl rfl)))
      refine EdgeOk.cons rfl ?_ ?_
      · exact TO.u rfl rfl (TX.slice (l := ((0 : Nat) : Int)) (h := x26005) Try.runUnderlying49 Try.sizeOf51 rfl .none (.some rfl) ho26004.le_cap hk34501 rfl (TO.nil (TE.toh (TE.td ((hdef37502 _ _ _ _).mp (hS27000_7))) 0 0 ⟨rfl, rfl, rfl, rfl, trivial⟩ rfl rfl)))
      exact EdgeOk.nil
     have hS27000_14 : T37501 5 [false, true, true, false, true, true, true, false, false, false] [(7, .slice sp6 ((IntKind.i64.wrap v2.2).toNat) ((IntKind.i64.wrap v2.2).toNat)), (8, .int .i64 x26005), (39, .slice sp6 ((IntKind.i64.wrap v2.2).toNat) ((IntKind.i64.wrap v2.2).toNat)), (40, .int .i64 x26005), (44, .slice (subP sp6 S__2_int.E.sz ((IntKind.i64.wrap v2.2).toNat) ((0 : Nat) : Int).toNat) (x26005.toNat - ((0 : Nat) : Int).toNat) (((IntKind.i64.wrap v2.2).toNat) - ((0 : Nat) : Int).toNat))] ⟨[], [Hs26003]⟩ := by
      rw [hdef37502]
      refine TD.step [0, 3] 0 rfl rfl rfl rfl rfl (EdgeOk.cons rfl ?_ ?_)
      · exact TO.u rfl rfl (TX.move rfl rfl (TO.nil (TE.toh (TE.td ((hdef37502 _ _ _ _).mp (hS27000_6))) 0 0 ⟨rfl, rfl, rfl, rfl, rfl, rfl, trivial⟩ rfl rfl)))
      refine EdgeOk.cons rfl ?_ ?_
      · exact TO.u rfl rfl (TX.slice (l := x26005) (h := ((x26001.length : Nat) : Int)) Try.runUnderlying49 Try.sizeOf51 rfl (.some rfl) (.len hn26002) ho26004.le_cap hk31501 rfl (TO.nil (TE.toh (TE.td ((hdef37502 _ _ _ _).mp (hS27000_7))) 0 0 ⟨rfl, rfl, rfl, rfl, trivial⟩ rfl rfl)))
      exact EdgeOk.nil
     have hS27000_15 : T37501 6 [true, true, true, true, false, false, false, false, false, false] [(7, .slice sp6 ((IntKind.i64.wrap v2.2).toNat) ((IntKind.i64.wrap v2.2).toNat)), (8, .int .i64 x26005), (38, .int .i64 x26005), (41, .slice (subP sp6 S__2_int.E.sz ((IntKind.i64.wrap v2.2).toNat) x26005.toNat) (((x26001.length : Nat) : Int).toNat - x26005.toNat) (((IntKind.i64.wrap v2.2).toNat) - x26005.toNat))] ⟨[], [Hs26003]⟩ := by
      rw [hdef37502]
      refine TD.step [4, 5] 4 rfl rfl rfl rfl rfl (EdgeOk.cons rfl ?_ ?_)
      · exact TO.u rfl rfl (TX.move rfl rfl (TO.nil (TE.toh (TE.td ((hdef37502 _ _ _ _).mp (hS27000_8))) 0 0 ⟨rfl, rfl, rfl, rfl, rfl, trivial⟩ rfl rfl)))
      refine EdgeOk.cons rfl ?_ ?_
      · exact TO.u rfl rfl (TX.move rfl rfl (TO.nil (TE.toh (TE.td ((hdef37502 _ _ _ _).mp (hS27000_9))) 0 0 ⟨rfl, rfl, rfl, rfl, rfl, trivial⟩ rfl rfl)))
      exact EdgeOk.nil
     have hS27000_16 : T37501 6 [true, true, true, false, true, false, false, false, false, false] [(7, .slice sp6 ((IntKind.i64.wrap v2.2).toNat) ((IntKind.i64.wrap v2.2).toNat)), (8, .int .i64 x26005), (38, .int .i64 x26005), (39, .slice sp6 ((IntKind.i64.wrap v2.2).toNat) ((IntKind.i64.wrap v2.2).toNat)), (40, .int .i64 x26005), (42, .slice sp6 ((IntKind.i64.wrap v2.2).toNat) ((IntKind.i64.wrap v2.2).toNat))] ⟨[], [Hs26003]⟩ := by
      rw [hdef37502]
      refine TD.step [3, 5] 3 rfl rfl rfl rfl rfl (EdgeOk.cons rfl ?_ ?_)
      · exact TO.u rfl rfl (TX.slice (l := x26005) (h := ((x26001.length : Nat) : Int)) Try.runUnderlying49 Try.sizeOf51 rfl (.some rfl) (.len hn26002) ho26004.le_cap hk31501 rfl (TO.nil (TE.toh (TE.td ((hdef37502 _ _ _ _).mp (hS27000_8))) 0 0 ⟨rfl, rfl, rfl, rfl, rfl, trivial⟩ rfl rfl)))
      refine EdgeOk.cons rfl ?_ ?_
      · exact TO.u rfl rfl (TX.move rfl rfl (TO.nil (TE.toh (TE.td ((hdef37502 _ _ _ _).mp (hS27000_10))) 0 0 ⟨rfl, rfl, rfl, rfl, rfl, rfl, rfl, trivial⟩ rfl rfl)))
      exact EdgeOk.nil
     have hS27000_17 : T37501 6 [true, true, true, false, false, true, false, false, false, false] [(7, .slice sp6 ((IntKind.i64.wrap v2.2).toNat) ((IntKind.i64.wrap v2.2).toNat)), (8, .int .i64 x26005), (38, .int .i64 x26005), (39, .slice sp6 ((IntKind.i64.wrap v2.2).toNat) ((IntKind.i64.wrap v2.2).toNat)), (40, .int .i64 x26005), (43, .int .i64 x26005)] ⟨[], [Hs26003]⟩ := by
      rw [hdef37502]
      refine TD.step [3, 4] 3 rfl rfl rfl rfl rfl (EdgeOk.cons rfl ?_ ?_)
      · exact TO.u rfl rfl (TX.slice (l := x26005) (h := ((x26001.length : Nat) : Int)) Try.runUnderlying49 Try.sizeOf51 rfl (.some rfl) (.len hn26002) ho26004.le_cap hk31501 rfl (TO.nil (TE.toh (TE.td ((hdef37502 _ _ _ _).mp (hS27000_9))) 0 0 ⟨rfl, rfl, rfl, rfl, rfl, trivial⟩ rfl rfl)))
      refine EdgeOk.cons rfl ?_ ?_
      · exact TO.u rfl rfl (TX.move rfl rfl (TO.nil (TE.toh (TE.td ((hdef37502 _ _ _ _).mp (hS27000_10))) 0 0 ⟨rfl, rfl, rfl, rfl, rfl, rfl, rfl, trivial⟩ rfl rfl)))
      exact EdgeOk.nil
     have hS27000_18 : T37501 6 [true, true, false, false, true, true, false, false, false, false] [(7, .slice sp6 ((IntKind.i64.wrap v2.2).toNat) ((IntKind.i64.wrap v2.2).toNat)), (8, .int .i64 x26005), (38, .int .i64 x26005), (39, .slice sp6 ((IntKind.i64.wrap v2.2).toNat) ((IntKind.i64.wrap v2.2).toNat)), (42, .slice sp6 ((IntKind.i64.wrap v2.2).toNat) ((IntKind.i64.wrap v2.2).toNat)), (43, .int .i64 x26005)] ⟨[], [Hs26003]⟩ := by
      rw [hdef37502]
      refine TD.step [2, 6] 2 rfl rfl rfl rfl rfl (EdgeOk.cons rfl ?_ ?_)
      · exact TO.u rfl rfl (TX.move rfl rfl (TO.nil (TE.toh (TE.td ((hdef37502 _ _ _ _).mp (hS27000_10))) 0 0 ⟨rfl, rfl, rfl, rfl, rfl, rfl, rfl, trivial⟩ rfl rfl)))
      refine EdgeOk.cons rfl ?_ ?_
      · exact TO.u rfl rfl (TX.slice (l := ((0 : Nat) : Int)) (h := x26005) Try.runUnderlying49 Try.sizeOf51 rfl .none (.some rfl) ho26004.le_cap hk34501 rfl (TO.nil (TE.toh (TE.td ((hdef37502 _ _ _ _).mp (hS27000_11))) 0 0 ⟨rfl, rfl, rfl, rfl, rfl, trivial⟩ rfl rfl)))
      exact EdgeOk.nil
     have hS27000_19 : T37501 6 [true, false, true, false, true, true, false, false, false, false] [(7, .slice sp6 ((IntKind.i64.wrap v2.2).toNat) ((IntKind.i64.wrap v2.2).toNat)), (8, .int .i64 x26005), (38, .int .i64 x26005), (40, .int .i64 x26005), (42, .slice sp6 ((IntKind.i64.wrap v2.2).toNat) ((IntKind.i64.wrap v2.2).toNat)), (43, .int .i64 x26005)] ⟨[], [Hs26003]⟩ := by
      rw [hdef37502]
      refine TD.step [1, 6] 1 rfl rfl rfl rfl rfl (EdgeOk.cons rfl ?_ ?_)
      · exact TO.u rfl rfl (TX.move rfl rfl (TO.nil (TE.toh (TE.td ((hdef37502 _ _ _ _).mp (hS27000_10))) 0 0 ⟨rfl, rfl, rfl, rfl, rfl, rfl, rfl, trivial⟩ rfl rfl)))
      refine EdgeOk.cons rfl ?_ ?_
      · exact TO.u rfl rfl (TX.slice (l := ((0 : Nat) : Int)) (h := x26005) Try.runUnderlying49 Try.sizeOf51 rfl .none (.some rfl) ho26004.le_cap hk34501 rfl (TO.nil (TE.toh (TE.td ((hdef37502 _ _ _ _).mp (hS27000_12))) 0 0 ⟨rfl, rfl, rfl, rfl, rfl, trivial⟩ rfl rfl)))
      exact EdgeOk.nil
     have hS27000_20 : T37501 6 [true, false, false, false, true, true, true, false, false, false] [(7, .slice sp6 ((IntKind.i64.wrap v2.2).toNat) ((IntKind.i64.wrap v2.2).toNat)), (8, .int .i64 x26005), (38, .int .i64 x26005), (44, .slice (subP sp6 S__2_int.E.sz ((IntKind.i64.wrap v2.2).toNat) ((0 : Nat) : Int).toNat) (x26005.toNat - ((0 : Nat) : Int).toNat) (((IntKind.i64.wrap v2.2).toNat) - ((0 : Nat) : Int).toNat))] ⟨[], [Hs26003]⟩ := by
      rw [hdef37502]
      refine TD.step [1, 2] 1 rfl rfl rfl rfl rfl (EdgeOk.cons rfl ?_ ?_)
      · exact TO.u rfl rfl (TX.move rfl rfl (TO.nil (TE.toh (TE.td ((hdef37502 _ _ _ _).mp (hS27000_11))) 0 0 ⟨rfl, rfl, rfl, rfl, rfl, trivial⟩ rfl rfl)))
      refine EdgeOk.cons rfl ?_ ?_
      · exact TO.u rfl rfl (TX.move rfl rfl (TO.nil (TE.toh (TE.td ((hdef37502 _ _ _ _).mp (hS27000_12))) 0 0 ⟨rfl, rfl, rfl, rfl, rfl, trivial⟩ rfl rfl)))
      exact EdgeOk.nil
     have hS27000_21 : T37501 6 [false, true, true, true, true, false, false, false, false, false] [(7, .slice sp6 ((IntKind.i64.wrap v2.2).toNat) ((IntKind.i64.wrap v2.2).toNat)), (8, .int .i64 x26005), (41, .slice (subP sp6 S__2_int.E.sz ((IntKind.i64.wrap v2.2).toNat) x26005.toNat) (((x26001.length : Nat) : Int).toNat - x26005.toNat) (((IntKind.i64.wrap v2.2).toNat) - x26005.toNat)), (42, .slice sp6 ((IntKind.i64.wrap v2.2).toNat) ((IntKind.i64.wrap v2.2).toNat))] ⟨[], [Hs26003]⟩ := by
      rw [hdef37502]
      refine TD.step [0, 5] 0 rfl rfl rfl rfl rfl (EdgeOk.cons rfl ?_ ?_)
      · exact TO.u rfl rfl (TX.move rfl rfl (TO.nil (TE.toh (TE.td ((hdef37502 _ _ _ _).mp (hS27000_8))) 0 0 ⟨rfl, rfl, rfl, rfl, rfl, trivial⟩ rfl rfl)))
      refine EdgeOk.cons rfl ?_ ?_
      · exact TO.u rfl rfl (TX.move rfl rfl (TO.nil (TE.toh (TE.td ((hdef37502 _ _ _ _).mp (hS27000_13))) 0 0 ⟨rfl, rfl, rfl, rfl, rfl, trivial⟩ rfl rfl)))
      exact EdgeOk.nil
     have hS27000_22 : T37501 6 [false, true, true, true, false, true, false, false, false, false] [(7, .slice sp6 ((IntKind.i64.wrap v2.2).toNat) ((IntKind.i64.wrap v2.2).toNat)), (8, .int .i64 x26005), (41, .slice (subP sp6 S__2_int.E.sz ((IntKind.i64.wrap v2.2).toNat) x26005.toNat) (((x26001.length : Nat) : Int).toNat - x26005.toNat) (((IntKind.i64.wrap v2.2).toNat) - x26005.toNat)), (43, .int .i64 x26005)] ⟨[], [Hs26003]⟩ := by
      rw [hdef37502]
      refine TD.step [0, 4] 0 rfl rfl rfl rfl rfl (EdgeOk.cons rfl ?_ ?_)
      · exact TO.u rfl rfl (TX.move rfl rfl (TO.nil (TE.toh (TE.td ((hdef37502 _ _ _ _).mp (hS27000_9))) 0 0 ⟨rfl, rfl, rfl, rfl, rfl, trivial⟩ rfl rfl)))
      refine EdgeOk.cons rfl ?_ ?_
      · exact TO.u rfl rfl (TX.move rfl rfl (TO.nil (TE.toh (TE.td ((hdef37502 _ _ _ _).mp (hS27000_13))) 0 0 ⟨rfl, rfl, rfl, rfl, rfl, trivial⟩ rfl rfl)))
      exact EdgeOk.nil
     have hS27000_23 : T37501 6 [false, true, true, false, true, true, false, false, false, false] [(7, .slice sp6 ((IntKind.i64.wrap v2.2).toNat) ((IntKind.i64.wrap v2.2).toNat)), (8, .int .i64 x26005), (39, .slice sp6 ((IntKind.i64.wrap v2.2).toNat) ((IntKind.i64.wrap v2.2).toNat)), (40, .int .i64 x26005), (42, .slice sp6 ((IntKind.i64.wrap v2.2).toNat) ((IntKind.i64.wrap v2.2).toNat)), (43, .int .i64 x26005)] ⟨[], [Hs26003]⟩ := by
      rw [hdef37502]
      refine TD.step [0, 3, 6] 0 rfl rfl rfl rfl rfl (EdgeOk.cons rfl ?_ ?_)
      · exact TO.u rfl rfl (TX.move rfl rfl (TO.nil (TE.toh (TE.td ((hdef37502 _ _ _ _).mp (hS27000_10))) 0 0 ⟨rfl, rfl, rfl, rfl, rfl, rfl, rfl, trivial⟩ rfl rfl)))
      refine EdgeOk.cons rfl ?_ ?_
      · exact TO.u rfl rfl (TX.slice (l := x26005) (h := ((x26001.length : Nat) : Int)) Try.runUnderlying49 Try.sizeOf51 rfl (.some rfl) (.len hn26002) ho26004.le_cap hk31501 rfl (TO.nil (TE.toh (TE.td ((hdef37502 _ _ _ _).mp (hS27000_13))) 0 0 ⟨rfl, rfl, rfl, rfl, rfl, trivial⟩ rfl rfl)))
      refine EdgeOk.cons rfl ?_ ?_
      · exact TO.u rfl rfl (TX.slice (l := ((0 : Nat) : Int)) (h := x26005) Try.runUnderlying49 Try.sizeOf51 rfl .none (.some rfl) ho26004.le_cap hk34501 rfl (TO.nil (TE.toh (TE.td ((hdef37502 _ _ _ _).mp (hS27000_14))) 0 0 ⟨rfl, rfl, rfl, rfl, rfl, trivial⟩ rfl rfl)))
      exact EdgeOk.nil
     have hS27000_24 : T37501 6 [false, true, false, false, true, true, true, false, false, false] [(7, .slice sp6 ((IntKind.i64.wrap v2.2).toNat) ((IntKind.i64.wrap v2.2).toNat)), (8, .int .i64 x26005), (39, .slice sp6 ((IntKind.i64.wrap v2.2).toNat) ((IntKind.i64.wrap v2.2).toNat)), (44, .slice (subP sp6 S__2_int.E.sz ((IntKind.i64.wrap v2.2).toNat) ((0 : Nat) : Int).toNat) (x26005.toNat - ((0 : Nat) : Int).toNat) (((IntKind.i64.wrap v2.2).toNat) - ((0 : Nat) : Int).toNat))] ⟨[], [Hs26003]⟩ := by
      rw [hdef37502]
      refine TD.step [0, 2] 0 rfl rfl rfl rfl rfl (EdgeOk.cons rfl ?_ ?_)
      · exact TO.u rfl rfl (TX.move rfl rfl (TO.nil (TE.toh (TE.td ((hdef37502 _ _ _ _).mp (hS27000_11))) 0 0 ⟨rfl, rfl, rfl, rfl, rfl, trivial⟩ rfl rfl)))
      refine EdgeOk.cons rfl ?_ ?_
      · exact TO.u rfl rfl (TX.move rfl rfl (TO.nil (TE.toh (TE.td ((hdef37502 _ _ _ _).mp (hS27000_14))) 0 0 ⟨rfl, rfl, rfl, rfl, rfl, trivial⟩ rfl rfl)))
      exact EdgeOk.nil
     have hS27000_25 : T37501 6 [false, false, true, false, true, true, true, false, false, false] [(7, .slice sp6 ((IntKind.i64.wrap v2.2).toNat) ((IntKind.i64.wrap v2.2).toNat)), (8, .int .i64 x26005), (40, .int .i64 x26005), (44, .slice (subP sp6 S__2_int.E.sz ((IntKind.i64.wrap v2.2).toNat) ((0 : Nat) : Int).toNat) (x26005.toNat - ((0 : Nat) : Int).toNat) (((IntKind.i64.wrap v2.2).toNat) - ((0 : Nat) : Int).toNat))] ⟨[], [Hs26003]⟩ := by
      rw [hdef37502]
      refine TD.step [0, 1] 0 rfl rfl rfl rfl rfl (EdgeOk.cons rfl ?_ ?_)
      · exact TO.u rfl rfl (TX.move rfl rfl (TO.nil (TE.toh (TE.td ((hdef37502 _ _ _ _).mp (hS27000_12))) 0 0 ⟨rfl, rfl, rfl, rfl, rfl, trivial⟩ rfl rfl)))
      refine EdgeOk.cons rfl ?_ ?_
      · exact TO.u rfl rfl (TX.move rfl rfl (TO.nil (TE.toh (TE.td ((hdef37502 _ _ _ _).mp (hS27000_14))) 0 0 ⟨rfl, rfl, rfl, rfl, rfl, trivial⟩ rfl rfl)))
      exact EdgeOk.nil
     have hS27000_26 : T37501 7 [true, true, true, false, false, false, false, false, false, false] [(7, .slice sp6 ((IntKind.i64.wrap v2.2).toNat) ((IntKind.i64.wrap v2.2).toNat)), (8, .int .i64 x26005), (38, .int .i64 x26005), (39, .slice sp6 ((IntKind.i64.wrap v2.2).toNat) ((IntKind.i64.wrap v2.2).toNat)), (40, .int .i64 x26005)] ⟨[], [Hs26003]⟩ := by
      rw [hdef37502]
      refine TD.step [3, 4, 5] 3 rfl rfl rfl rfl rfl (EdgeOk.cons rfl ?_ ?_)
      · exact TO.u rfl rfl (TX.slice (l := x26005) (h := ((x26001.length : Nat) : Int)) Try.runUnderlying49 Try.sizeOf51 rfl (.some rfl) (.len hn26002) ho26004.le_cap hk31501 rfl (TO.nil (TE.toh (TE.td ((hdef37502 _ _ _ _).mp (hS27000_15))) 0 0 ⟨rfl, rfl, rfl, rfl, trivial⟩ rfl rfl)))
      refine EdgeOk.cons rfl ?_ ?_
      · exact TO.u rfl rfl (TX.move rfl rfl (TO.nil (TE.toh (TE.td ((hdef37502 _ _ _ _).mp (hS27000_16))) 0 0 ⟨rfl, rfl, rfl, rfl, rfl, rfl, trivial⟩ rfl rfl)))
      refine EdgeOk.cons rfl ?_ ?_
      · exact TO.u rfl rfl (TX.move rfl rfl (TO.nil (TE.toh (TE.td ((hdef37502 _ _ _ _).mp (hS27000_17))) 0 0 ⟨rfl, rfl, rfl, rfl, rfl, rfl, trivial⟩ rfl rfl)))
      exact EdgeOk.nil
     have hS27000_27 : T37501 7 [true, true, false, false, true, false, false, false, false, false] [(7, .slice sp6 ((IntKind.i64.wrap v2.2).toNat) ((IntKind.i64.wrap v2.2).toNat)), (8, .int .i64 x26005), (38, .int .i64 x26005), (39, .slice sp6 ((IntKind.i64.wrap v2.2).toNat) ((IntKind.i64.wrap v2.2).toNat)), (42, .slice sp6 ((IntKind.i64.wrap v2.2).toNat) ((IntKind.i64.wrap v2.2).toNat))] ⟨[], [Hs26003]⟩ := by
      rw [hdef37502]
      refine TD.step [2, 5] 2 rfl rfl rfl rfl rfl (EdgeOk.cons rfl ?_ ?_)
      · exact TO.u rfl rfl (TX.move rfl rfl (TO.nil (TE.toh (TE.td ((hdef37502 _ _ _ _).mp (hS27000_16))) 0 0 ⟨rfl, rfl, rfl, rfl, rfl, rfl, trivial⟩ rfl rfl)))
      refine EdgeOk.cons rfl ?_ ?_
      · exact TO.u rfl rfl (TX.move rfl rfl (TO.nil (TE.toh (TE.td ((hdef37502 _ _ _ _).mp (hS27000_18))) 0 0 ⟨rfl, rfl, rfl, rfl, rfl, rfl, trivial⟩ rfl rfl)))
      exact EdgeOk.nil
     have hS27000_28 : T37501 7 [true, true, false, false, false, true, false, false, false, false] [(7, .slice sp6 ((IntKind.i64.wrap v2.2).toNat) ((IntKind.i64.wrap v2.2).toNat)), (8, .int .i64 x26005), (38, .int .i64 x26005), (39, .slice sp6 ((IntKind.i64.wrap v2.2).toNat) ((IntKind.i64.wrap v2.2).toNat)), (43, .int .i64 x26005)] ⟨[], [Hs26003]⟩ := by
      rw [hdef37502]
      refine TD.step [2, 4] 2 rfl rfl rfl rfl rfl (EdgeOk.cons rfl ?_ ?_)
      · exact TO.u rfl rfl (TX.move rfl rfl (TO.nil (TE.toh (TE.td ((hdef37502 _ _ _ _).mp (hS27000_17))) 0 0 ⟨rfl, rfl, rfl, rfl, rfl, rfl, trivial⟩ rfl rfl)))
      refine EdgeOk.cons rfl ?_ ?_
      · exact TO.u rfl rfl (TX.move rfl rfl (TO.nil (TE.toh (TE.td ((hdef37502 _ _ _ _).mp (hS27000_18))) 0 0 ⟨rfl, rfl, rfl, rfl, rfl, rfl, trivial⟩ rfl rfl)))
      exact EdgeOk.nil
     have hS27000_29 : T37501 7 [true, false, true, false, true, false, false, false, false, false] [(7, .slice sp6 ((IntKind.i64.wrap v2.2).toNat) ((IntKind.i64.wrap v2.2).toNat)), (8, .int .i64 x26005), (38, .int .i64 x26005), (40, .int .i64 x26005), (42, .slice sp6 ((IntKind.i64.wrap v2.2).toNat) ((IntKind.i64.wrap v2.2).toNat))] ⟨[], [Hs26003]⟩ := by
      rw [hdef37502]
      refine TD.step [1, 5] 1 rfl rfl rfl rfl rfl (EdgeOk.cons rfl ?_ ?_)
      · exact TO.u rfl rfl (TX.move rfl rfl (TO.nil (TE.toh (TE.td ((hdef37502 _ _ _ _).mp (hS27000_16))) 0 0 ⟨rfl, rfl, rfl, rfl, rfl, rfl, trivial⟩ rfl rfl)))
      refine EdgeOk.cons rfl ?_ ?_
      · exact TO.u rfl rfl (TX.move rfl rfl (TO.nil (TE.toh (TE.td ((hdef37502 _ _ _ _).mp (hS27000_19))) 0 0 ⟨rfl, rfl, rfl, rfl, rfl, rfl, trivial⟩ rfl rfl)))
      exact EdgeOk.nil
     have hS27000_30 : T37501 7 [true, false, true, false, false, true, false, false, false, false] [(7, .slice sp6 ((IntKind.i64.wrap v2.2).toNat) ((IntKind.i64.wrap v2.2).toNat)), (8, .int .i64 x26005), (38, .int .i64 x26005), (40, .int .i64 x26005), (43, .int .i64 x26005)] ⟨[], [Hs26003]⟩ := by
      rw [hdef37502]
      refine TD.step [1, 4] 1 rfl rfl rfl rfl rfl (EdgeOk.cons rfl ?_ ?_)
      · exact TO.u rfl rfl (TX.move rfl rfl (TO.nil (TE.toh (TE.td ((hdef37502 _ _ _ _).mp (hS27000_17))) 0 0 ⟨rfl, rfl, rfl, rfl, rfl, rfl, trivial⟩ rfl rfl)))
      refine EdgeOk.cons rfl ?_ ?_
      · exact TO.u rfl rfl (TX.move rfl rfl (TO.nil (TE.toh (TE.td ((hdef37502 _ _ _ _).mp (hS27000_19))) 0 0 ⟨rfl, rfl, rfl, rfl, rfl, rfl, trivial⟩ rfl rfl)))
      exact EdgeOk.nil
     have hS27000_31 : T37501 7 [true, false, false, false, true, true, false, false, false, false] [(7, .slice sp6 ((IntKind.i64.wrap v2.2).toNat) ((IntKind.i64.wrap v2.2).toNat)), (8, .int .i64 x26005), (38, .int .i64 x26005), (42, .slice sp6 ((IntKind.i64.wrap v2.2).toNat) ((IntKind.i64.wrap v2.2).toNat)), (43, .int .i64 x26005)] ⟨[], [Hs26003]⟩ := by
      rw [hdef37502]
      refine TD.step [1, 2, 6] 1 rfl rfl rfl rfl rfl (EdgeOk.cons rfl ?_ ?_)
      · exact TO.u rfl rfl (TX.move rfl rfl (TO.nil (TE.toh (TE.td ((hdef37502 _ _ _ _).mp (hS27000_18))) 0 0 ⟨rfl, rfl, rfl, rfl, rfl, rfl, trivial⟩ rfl rfl)))
      refine EdgeOk.cons rfl ?_ ?_
      · exact TO.u rfl rfl (TX.move rfl rfl (TO.nil (TE.toh (TE.td ((hdef37502 _ _ _ _).mp (hS27000_19))) 0 0 ⟨rfl, rfl, rfl, rfl, rfl, rfl, trivial⟩ rfl rfl)))
      refine EdgeOk.cons rfl ?_ ?_
      · exact TO.u rfl rfl (TX.slice (l := ((0 : Nat) : Int)) (h := x26005) Try.runUnderlying49 Try.sizeOf51 rfl .none (.some rfl) ho26004.le_cap hk34501 rfl (TO.nil (TE.toh (TE.td ((hdef37502 _ _ _ _).mp (hS27000_20))) 0 0 ⟨rfl, rfl, rfl, rfl, trivial⟩ rfl rfl)))
      exact EdgeOk.nil
     have hS27000_32 : T37501 7 [false, true, true, true, false, false, false, false, false, false] [(7, .slice sp6 ((IntKind.i64.wrap v2.2).toNat) ((IntKind.i64.wrap v2.2).toNat)), (8, .int .i64 x26005), (41, .slice (subP sp6 S__2_int.E.sz ((IntKind.i64.wrap v2.2).toNat) x26005.toNat) (((x26001.length : Nat) : Int).toNat - x26005.toNat) (((IntKind.i64.wrap v2.2).toNat) - x26005.toNat))] ⟨[], [Hs26003]⟩ := by
      rw [hdef37502]
      refine TD.step [0, 4, 5] 0 rfl rfl rfl rfl rfl (EdgeOk.cons rfl ?_ ?_)
      · exact TO.u rfl rfl (TX.move rfl rfl (TO.nil (TE.toh (TE.td ((hdef37502 _ _ _ _).mp (hS27000_15))) 0 0 ⟨rfl, rfl, rfl, rfl, trivial⟩ rfl rfl)))
      refine EdgeOk.cons rfl ?_ ?_
      · exact TO.u rfl rfl (TX.move rfl rfl (TO.nil (TE.toh (TE.td ((hdef37502 _ _ _ _).mp (hS27000_21))) 0 0 ⟨rfl, rfl, rfl, rfl, trivial⟩ rfl rfl)))
      refine EdgeOk.cons rfl ?_ ?_
      · exact TO.u rfl rfl (TX.move rfl rfl (TO.nil (TE.toh (TE.td ((hdef37502 _ _ _ _).mp (hS27000_22))) 0 0 ⟨rfl, rfl, rfl, rfl, trivial⟩ rfl rfl)))
      exact EdgeOk.nil
     have hS27000_33 : T37501 7 [false, true, true, false, true, false, false, false, false, false] [(7, .slice sp6 ((IntKind.i64.wrap v2.2).toNat) ((IntKind.i64.wrap v2.2).toNat)), (8, .int .i64 x26005), (39, .slice sp6 ((IntKind.i64.wrap v2.2).toNat) ((IntKind.i64.wrap v2.2).toNat)), (40, .int .i64 x26005), (42, .slice sp6 ((IntKind.i64.wrap v2.2).toNat) ((IntKind.i64.wrap v2.2).toNat))] ⟨[], [Hs26003]⟩ := by
      rw [hdef37502]
      refine TD.step [0, 3, 5] 0 rfl rfl rfl rfl rfl (EdgeOk.cons rfl ?_ ?_)
      · exact TO.u rfl rfl (TX.move rfl rfl (TO.nil (TE.toh (TE.td ((hdef37502 _ _ _ _).mp (hS27000_16))) 0 0 ⟨rfl, rfl, rfl, rfl, rfl, rfl, trivial⟩ rfl rfl)))
      refine EdgeOk.cons rfl ?_ ?_
      · exact TO.u rfl rfl (TX.slice (l := x26005) (h := ((x26001.length : Nat) : Int)) Try.runUnderlying49 Try.sizeOf51 rfl (.some rfl) (.len hn26002) ho26004.le_cap hk31501 rfl (TO.nil (TE.toh (TE.td ((hdef37502 _ _ _ _).mp (hS27000_21))) 0 0 ⟨rfl, rfl, rfl, rfl, trivial⟩ rfl rfl)))
      refine EdgeOk.cons rfl ?_ ?_
      · exact TO.u rfl rfl (TX.move rfl rfl (TO.nil (TE.toh (TE.td ((hdef37502 _ _ _ _).mp (hS27000_23))) 0 0 ⟨rfl, rfl, rfl, rfl, rfl, rfl, trivial⟩ rfl rfl)))
      exact EdgeOk.nil
     have hS27000_34 : T37501 7 [false, true, true, false, false, true, false, false, false, false] [(7, .slice sp6 ((IntKind.i64.wrap v2.2).toNat) ((IntKind.i64.wrap v2.2).toNat)), (8, .int .i64 x26005), (39, .slice sp6 ((IntKind.i64.wrap v2.2).toNat) ((IntKind.i64.wrap v2.2).toNat)), (40, .int .i64 x26005), (43, .int .i64 x26005)] ⟨[], [Hs26003]⟩ := by
      rw [hdef37502]
      refine TD.step [0, 3, 4] 0 rfl rfl rfl rfl rfl (EdgeOk.cons rfl ?_ ?_)
      · exact TO.u rfl rfl (TX.move rfl rfl (TO.nil (TE.toh (TE.td ((hdef37502 _ _ _ _).mp (hS27000_17))) 0 0 ⟨rfl, rfl, rfl, rfl, rfl, rfl, trivial⟩ rfl rfl)))
      refine EdgeOk.cons rfl ?_ ?_
      · exact TO.u rfl rfl (TX.slice (l := x26005) (h := ((x26001.length : Nat) : Int)) Try.runUnderlying49 Try.sizeOf51 rfl (.some rfl) (.len hn26002) ho26004.le_cap hk31501 rfl (TO.nil (TE.toh (TE.td ((hdef37502 _ _ _ _).mp (hS27000_22))) 0 0 ⟨rfl, rfl, rfl, rfl, trivial⟩ rfl rfl)))
      refine EdgeOk.cons rfl ?_ ?_
      · exact TO.u rfl rfl (TX.move rfl rfl (TO.nil (TE.toh (TE.td ((hdef37502 _ _ _ _).mp (hS27000_23))) 0 0 ⟨rfl, rfl, rfl, rfl, rfl, rfl, trivial⟩ rfl rfl)))
      exact EdgeOk.nil
     have hS27000_35 : T37501 7 [false, true, false, false, true, true, false, false, false, false] [(7, .slice sp6 ((IntKind.i64.wrap v2.2).toNat) ((IntKind.i64.wrap v2.2).toNat)), (8, .int .i64 x26005), (39, .slice sp6 ((IntKind.i64.wrap v2.2).toNat) ((IntKind.i64.wrap v2.2).toNat)), (42, .slice sp6 ((IntKind.i64.wrap v2.2).toNat) ((IntKind.i64.wrap v2.2).toNat)), (43, .int .i64 x26005)] ⟨[], [Hs26003]⟩ := by
      rw [hdef37502]
      refine TD.step [0, 2, 6] 0 rfl rfl rfl rfl rfl (EdgeOk.cons rfl ?_ ?_)
      · exact TO.u rfl rfl (TX.move rfl rfl (TO.nil (TE.toh (TE.td ((hdef37502 _ _ _ _).mp (hS27000_18))) 0 0 ⟨rfl, rfl, rfl, rfl, rfl, rfl, trivial⟩ rfl rfl)))
      refine EdgeOk.cons rfl ?_ ?_
      · exact TO.u rfl rfl (TX.move rfl rfl (TO.nil (TE.toh (TE.td ((hdef37502 _ _ _ _).mp (hS27000_23))) 0 0 ⟨rfl, rfl, rfl, rfl, rfl, rfl, trivial⟩ rfl rfl)))
      refine EdgeOk.cons rfl ?_ ?_
      · exact TO.u rfl rfl (TX.slice (l := ((0 : Nat) : Int)) (h := x26005) Try.runUnderlying49 Try.sizeOf51 rfl .none (.some rfl) ho26004.le_cap hk34501 rfl (TO.nil (TE.toh (TE.td ((hdef37502 _ _ _ _).mp (hS27000_24))) 0 0 ⟨rfl, rfl, rfl, rfl, trivial⟩ rfl rfl)))
      exact EdgeOk.nil
     have hS27000_36 : T37501 7 [false, false, true, false, true, true, false, false, false, false] [(7, .slice sp6 ((IntKind.i64.wrap v2.2).toNat) ((IntKind.i64.wrap v2.2).toNat)), (8, .int .i64 x26005), (40, .int .i64 x26005), (42, .slice sp6 ((IntKind.i64.wrap v2.2).toNat) ((IntKind.i64.wrap v2.2).toNat)), (43, .int .i64 x26005)] ⟨[], [Hs26003]⟩ := by
      rw [hdef37502]
      refine TD.step [0, 1, 6] 0 rfl rfl rfl rfl rfl (EdgeOk.cons rfl ?_ ?_)
      · exact TO.u rfl rfl (TX.move rfl rfl (TO.nil (TE.toh (TE.td ((hdef37502 _ _ _ _).mp (hS27000_19))) 0 0 ⟨rfl, rfl, rfl, rfl, rfl, rfl, trivial⟩ rfl rfl)))
      refine EdgeOk.cons rfl ?_ ?_
      · exact TO.u rfl rfl (TX.move rfl rfl (TO.nil (TE.toh (TE.td ((hdef37502 _ _ _ _).mp (hS27000_23))) 0 0 ⟨rfl, rfl, rfl, rfl, rfl, rfl, trivial⟩ rfl rfl)))
      refine EdgeOk.cons rfl ?_ ?_
      · exact TO.u rfl rfl (TX.slice (l := ((0 : Nat) : Int)) (h := x26005) Try.runUnderlying49 Try.sizeOf51 rfl .none (.some rfl) ho26004.le_cap hk34501 rfl (TO.nil (TE.toh (TE.td ((hdef37502 _ _ _ _).mp (hS27000_25))) 0 0 ⟨rfl, rfl, rfl, rfl, trivial⟩ rfl rfl)))
      exact EdgeOk.nil
     have hS27000_37 : T37501 7 [false, false, false, false, true, true, true, false, false, false] [(7, .slice sp6 ((IntKind.i64.wrap v2.2).toNat) ((IntKind.i64.wrap v2.2).toNat)), (8, .int .i64 x26005), (44, .slice (subP sp6 S__2_int.E.sz ((IntKind.i64.wrap v2.2).toNat) ((0 : Nat) : Int).toNat) (x26005.toNat - ((0 : Nat) : Int).toNat) (((IntKind.i64.wrap v2.2).toNat) - ((0 : Nat) : Int).toNat))] ⟨[], [Hs26003]⟩ := by
      rw [hdef37502]
      refine TD.step [0, 1, 2] 0 rfl rfl rfl rfl rfl (EdgeOk.cons rfl ?_ ?_)
      · exact TO.u rfl rfl (TX.move rfl rfl (TO.nil (TE.toh (TE.td ((hdef37502 _ _ _ _).mp (hS27000_20))) 0 0 ⟨rfl, rfl, rfl, rfl, trivial⟩ rfl rfl)))
      refine EdgeOk.cons rfl ?_ ?_
      · exact TO.u rfl rfl (TX.move rfl rfl (TO.nil (TE.toh (TE.td ((hdef37502 _ _ _ _).mp (hS27000_24))) 0 0 ⟨rfl, rfl, rfl, rfl, trivial⟩ rfl rfl)))
      refine EdgeOk.cons rfl ?_ ?_
      · exact TO.u rfl rfl (TX.move rfl rfl (TO.nil (TE.toh (TE.td ((hdef37502 _ _ _ _).mp (hS27000_25))) 0 0 ⟨rfl, rfl, rfl, rfl, trivial⟩ rfl rfl)))
      exact EdgeOk.nil
     have hS27000_38 : T37501 8 [true, true, false, false, false, false, false, false, false, false] [(7, .slice sp6 ((IntKind.i64.wrap v2.2).toNat) ((IntKind.i64.wrap v2.2).toNat)), (8, .int .i64 x26005), (38, .int .i64 x26005), (39, .slice sp6 ((IntKind.i64.wrap v2.2).toNat) ((IntKind.i64.wrap v2.2).toNat))] ⟨[], [Hs26003]⟩ := by
      rw [hdef37502]
      refine TD.step [2, 4, 5] 2 rfl rfl rfl rfl rfl (EdgeOk.cons rfl ?_ ?_)
      · exact TO.u rfl rfl (TX.move rfl rfl (TO.nil (TE.toh (TE.td ((hdef37502 _ _ _ _).mp (hS27000_26))) 0 0 ⟨rfl, rfl, rfl, rfl, rfl, trivial⟩ rfl rfl)))
      refine EdgeOk.cons rfl ?_ ?_
      · exact TO.u rfl rfl (TX.move rfl rfl (TO.nil (TE.toh (TE.td ((hdef37502 _ _ _ _).mp (hS27000_27))) 0 0 ⟨rfl, rfl, rfl, rfl, rfl, trivial⟩ rfl rfl)))
      refine EdgeOk.cons rfl ?_ ?_
      · exact TO.u rfl rfl (TX.move rfl rfl (TO.nil (TE.toh (TE.td ((hdef37502 _ _ _ _).mp (hS27000_28))) 0 0 ⟨rfl, rfl, rfl, rfl, rfl, trivial⟩ rfl rfl)))
      exact EdgeOk.nil
     have hS27000_39 : T37501 8 [true, false, true, false, false, false, false, false, false, false] [(7, .slice sp6 ((IntKind.i64.wrap v2.2).toNat) ((IntKind.i64.wrap v2.2).toNat)), (8, .int .i64 x26005), (38, .int .i64 x26005), (40, .int .i64 x26005)] ⟨[], [Hs26003]⟩ := by
      rw [hdef37502]
      refine TD.step [1, 4, 5] 1 rfl rfl rfl rfl rfl (EdgeOk.cons rfl ?_ ?_)
      · exact TO.u rfl rfl (TX.move rfl rfl (TO.nil (TE.toh (TE.td ((hdef37502 _ _ _ _).mp (hS27000_26))) 0 0 ⟨rfl, rfl, rfl, rfl, rfl, trivial⟩ rfl rfl)))
      refine EdgeOk.cons rfl ?_ ?_
      · exact TO.u rfl rfl (TX.move rfl rfl (TO.nil (TE.toh (TE.td ((hdef37502 _ _ _ _).mp (hS27000_29))) 0 0 ⟨rfl, rfl, rfl, rfl, rfl, trivial⟩ rfl rfl)))
      refine EdgeOk.cons rfl ?_ ?_
      · exact TO.u rfl rfl (TX.move rfl rfl (TO.nil (TE.toh (TE.td ((hdef37502 _ _ _ _).mp (hS27000_30))) 0 0 ⟨rfl, rfl, rfl, rfl, rfl, trivial⟩ rfl rfl)))
      exact EdgeOk.nil
     have hS27000_40 : T37501 8 [true, false, false, false, true, false, false, false, false, false] [(7, .slice sp6 ((IntKind.i64.wrap v2.2).toNat) ((IntKind.i64.wrap v2.2).toNat)), (8, .int .i64 x26005), (38, .int .i64 x26005), (42, .slice sp6 ((IntKind.i64.wrap v2.2).toNat) ((IntKind.i64.wrap v2.2).toNat))] ⟨[], [Hs26003]⟩ := by
      rw [hdef37502]
      refine TD.step [1, 2, 5] 1 rfl rfl rfl rfl rfl (EdgeOk.cons rfl ?_ ?_)
      · exact TO.u rfl rfl (TX.move rfl rfl (TO.nil (TE.toh (TE.td ((hdef37502 _ _ _ _).mp (hS27000_27))) 0 0 ⟨rfl, rfl, rfl, rfl, rfl, trivial⟩ rfl rfl)))
      refine EdgeOk.cons rfl ?_ ?_
      · exact TO.u rfl rfl (TX.move rfl rfl (TO.nil (TE.toh (TE.td ((hdef37502 _ _ _ _).mp (hS27000_29))) 0 0 ⟨rfl, rfl, rfl, rfl, rfl, trivial⟩ rfl rfl)))
      refine EdgeOk.cons rfl ?_ ?_
      · exact TO.u rfl rfl (TX.move rfl rfl (TO.nil (TE.toh (TE.td ((hdef37502 _ _ _ _).mp (hS27000_31))) 0 0 ⟨rfl, rfl, rfl, rfl, rfl, trivial⟩ rfl rfl)))
      exact EdgeOk.nil
     have hS27000_41 : T37501 8 [true, false, false, false, false, true, false, false, false, false] [(7, .slice sp6 ((IntKind.i64.wrap v2.2).toNat) ((IntKind.i64.wrap v2.2).toNat)), (8, .int .i64 x26005), (38, .int .i64 x26005), (43, .int .i64 x26005)] ⟨[], [Hs26003]⟩ := by
      rw [hdef37502]
      refine TD.step [1, 2, 4] 1 rfl rfl rfl rfl rfl (EdgeOk.cons rfl ?_ ?_)
      · exact TO.u rfl rfl (TX.move rfl rfl (TO.nil (TE.toh (TE.td ((hdef37502 _ _ _ _).mp (hS27000_28))) 0 0 ⟨rfl, rfl, rfl, rfl, rfl, trivial⟩ rfl rfl)))
      refine EdgeOk.cons rfl ?_ ?_
      · exact TO.u rfl rfl (TX.move rfl rfl (TO.nil (TE.toh (TE.td ((hdef37502 _ _ _ _).mp (hS27000_30))) 0 0 ⟨rfl, rfl, rfl, rfl, rfl, trivial⟩ rfl rfl)))
      refine EdgeOk.cons rfl ?_ ?_
      · exact TO.u rfl rfl (TX.move rfl rfl (TO.nil (TE.toh (TE.td ((hdef37502 _ _ _ _).mp (hS27000_31))) 0 0 ⟨rfl, rfl, rfl, rfl, rfl, trivial⟩ rfl rfl)))
      exact EdgeOk.nil
     have hS27000_42 : T37501 8 [false, true, true, false, false, false, false, false, false, false] [(7, .slice sp6 ((IntKind.i64.wrap v2.2).toNat) ((IntKind.i64.wrap v2.2).toNat)), (8, .int .i64 x26005), (39, .slice sp6 ((IntKind.i64.wrap v2.2).toNat) ((IntKind.i64.wrap v2.2).toNat)), (40, .int .i64 x26005)] ⟨[], [Hs26003]⟩ := by
      rw [hdef37502]
      refine TD.step [0, 3, 4, 5] 0 rfl rfl rfl rfl rfl (EdgeOk.cons rfl ?_ ?_)
      · exact TO.u rfl rfl (TX.move rfl rfl (TO.nil (TE.toh (TE.td ((hdef37502 _ _ _ _).mp (hS27000_26))) 0 0 ⟨rfl, rfl, rfl, rfl, rfl, trivial⟩ rfl rfl)))
      refine EdgeOk.cons rfl ?_ ?_
      · exact TO.u rfl rfl (TX.slice (l := x26005) (h := ((x26001.length : Nat) : Int)) Try.runUnderlying49 Try.sizeOf51 rfl (.some rfl) (.len hn26002) ho26004.le_cap hk31501 rfl (TO.nil (TE.toh (TE.td ((hdef37502 _ _ _ _).mp (hS27000_32))) 0 0 ⟨rfl, rfl, rfl, trivial⟩ rfl rfl)))
      refine EdgeOk.cons rfl ?_ ?_
      · exact TO.u rfl rfl (TX.move rfl rfl (TO.nil (TE.toh (TE.td ((hdef37502 _ _ _ _).mp (hS27000_33))) 0 0 ⟨rfl, rfl, rfl, rfl, rfl, trivial⟩ rfl rfl)))
      refine EdgeOk.cons rfl ?_ ?_
      · exact TO.u rfl rfl (TX.move rfl rfl (TO.nil (TE.toh (TE.td ((hdef37502 _ _ _ _).mp (hS27000_34))) 0 0 ⟨rfl, rfl, rfl, rfl, rfl, trivial⟩ rfl rfl)))
      exact EdgeOk.nil
     have hS27000_43 : T37501 8 [false, true, false, false, true, false, false, false, false, false] [(7, .slice sp6 ((IntKind.i64.wrap v2.2).toNat) ((IntKind.i64.wrap v2.2).toNat)), (8, .int .i64 x26005), (39, .slice sp6 ((IntKind.i64.wrap v2.2).toNat) ((IntKind.i64.wrap v2.2).toNat)), (42, .slice sp6 ((IntKind.i64.wrap v2.2).toNat) ((IntKind.i64.wrap v2.2).toNat))] ⟨[], [Hs26003]⟩ := by
      rw [hdef37502]
      refine TD.step [0, 2, 5] 0 rfl rfl rfl rfl rfl (EdgeOk.cons rfl ?_ ?_)
      · exact TO.u rfl rfl (TX.move rfl rfl (TO.nil (TE.toh (TE.td ((hdef37502 _ _ _ _).mp (hS27000_27))) 0 0 ⟨rfl, rfl, rfl, rfl, rfl, trivial⟩ rfl rfl)))
      refine EdgeOk.cons rfl ?_ ?_
      · exact TO.u rfl rfl (TX.move rfl rfl (TO.nil (TE.toh (TE.td ((hdef37502 _ _ _ _).mp (hS27000_33))) 0 0 ⟨rfl, rfl, rfl, rfl, rfl, trivial⟩ rfl rfl)))
      refine EdgeOk.cons rfl ?_ ?_
      · exact TO.u rfl rfl (TX.move rfl rfl (TO.nil (TE.toh (TE.td ((hdef37502 _ _ _ _).mp (hS27000_35))) 0 0 ⟨rfl, rfl, rfl, rfl, rfl, trivial⟩ rfl rfl)))
      exact EdgeOk.nil
     have hS27000_44 : T37501 8 [false, true, false, false, false, true, false, false, false, false] [(7, .slice sp6 ((IntKind.i64.wrap v2.2).toNat) ((IntKind.i64.wrap v2.2).toNat)), (8, .int .i64 x26005), (39, .slice sp6 ((IntKind.i64.wrap v2.2).toNat) ((IntKind.i64.wrap v2.2).toNat)), (43, .int .i64 x26005)] ⟨[], [Hs26003]⟩ := by
      rw [hdef37502]
      refine TD.step [0, 2, 4] 0 rfl rfl rfl rfl rfl (EdgeOk.cons rfl ?_ ?_)
      · exact TO.u rfl rfl (TX.move rfl rfl (TO.nil (TE.toh (TE.td ((hdef37502 _ _ _ _).mp (hS27000_28))) 0 0 ⟨rfl, rfl, rfl, rfl, rfl, trivial⟩ rfl rfl)))
      refine EdgeOk.cons rfl ?_ ?_
      · exact TO.u rfl rfl (TX.move rfl rfl (TO.nil (TE.toh (TE.td ((hdef37502 _ _ _ _).mp (hS27000_34))) 0 0 ⟨rfl, rfl, rfl, rfl, rfl, trivial⟩ rfl rfl)))
      refine EdgeOk.cons rfl ?_ ?_
      · exact TO.u rfl rfl (TX.move rfl rfl (TO.nil (TE.toh (TE.td ((hdef37502 _ _ _ _).mp (hS27000_35))) 0 0 ⟨rfl, rfl, rfl, rfl, rfl, trivial⟩ rfl rfl)))
      exact EdgeOk.nil
     have hS27000_45 : T37501 8 [false, false, true, false, true, false, false, false, false, false] [(7, .slice sp6 ((IntKind.i64.wrap v2.2).toNat) ((IntKind.i64.wrap v2.2).toNat)), (8, .int .i64 x26005), (40, .int .i64 x26005), (42, .slice sp6 ((IntKind.i64.wrap v2.2).toNat) ((IntKind.i64.wrap v2.2).toNat))] ⟨[], [Hs26003]⟩ := by
      rw [hdef37502]
      refine TD.step [0, 1, 5] 0 rfl rfl rfl rfl rfl (EdgeOk.cons rfl ?_ ?_)
      · exact TO.u rfl rfl (TX.move rfl rfl (TO.nil (TE.toh (TE.td ((hdef37502 _ _ _ _).mp (hS27000_29))) 0 0 ⟨rfl, rfl, rfl, rfl, rfl, trivial⟩ rfl rfl)))
      refine EdgeOk.cons rfl ?_ ?_
      · exact TO.u rfl rfl (TX.move rfl rfl (TO.nil (TE.toh (TE.td ((hdef37502 _ _ _ _).mp (hS27000_33))) 0 0 ⟨rfl, rfl, rfl, rfl, rfl, trivial⟩ rfl rfl)))
      refine EdgeOk.cons rfl ?_ ?_
      · exact TO.u rfl rfl (TX.move rfl rfl (TO.nil (TE.toh (TE.td ((hdef37502 _ _ _ _).mp (hS27000_36))) 0 0 ⟨rfl, rfl, rfl, rfl, rfl, trivial⟩ rfl rfl)))
      exact EdgeOk.nil
     have hS27000_46 : T37501 8 [false, false, true, false, false, true, false, false, false, false] [(7, .slice sp6 ((IntKind.i64.wrap v2.2).toNat) ((IntKind.i64.wrap v2.2).toNat)), (8, .int .i64 x26005), (40, .int .i64 x26005), (43, .int .i64 x26005)] ⟨[], [Hs26003]⟩ := by
      rw [hdef37502]
      refine TD.step [0, 1, 4] 0 rfl rfl rfl rfl rfl (EdgeOk.cons rfl ?_ ?_)
      · exact TO.u rfl rfl (TX.move rfl rfl (TO.nil (TE.toh (TE.td ((hdef37502 _ _ _ _).mp (hS27000_30))) 0 0 ⟨rfl, rfl, rfl, rfl, rfl, trivial⟩ rfl rfl)))
      refine EdgeOk.cons rfl ?_ ?_
      · exact TO.u rfl rfl (TX.move rfl rfl (TO.nil (TE.toh (TE.td ((hdef37502 _ _ _ _).mp (hS27000_34))) 0 0 ⟨rfl, rfl, rfl, rfl, rfl, trivial⟩ rfl rfl)))
      refine EdgeOk.cons rfl ?_ ?_
      · exact TO.u rfl rfl (TX.move rfl rfl (TO.nil (TE.toh (TE.td ((hdef37502 _ _ _ _).mp (hS27000_36))) 0 0 ⟨rfl, rfl, rfl, rfl, rfl, trivial⟩ rfl rfl)))
      exact EdgeOk.nil
     have hS27000_47 : T37501 8 [false, false, false, false, true, true, false, false, false, false] [(7, .slice sp6 ((IntKind.i64.wrap v2.2).toNat) ((IntKind.i64.wrap v2.2).toNat)), (8, .int .i64 x26005), (42, .slice sp6 ((IntKind.i64.wrap v2.2).toNat) ((IntKind.i64.wrap v2.2).toNat)), (43, .int .i64 x26005)] ⟨[], [Hs26003]⟩ := by
      rw [hdef37502]
      refine TD.step [0, 1, 2, 6] 0 rfl rfl rfl rfl rfl (EdgeOk.cons rfl ?_ ?_)
      · exact TO.u rfl rfl (TX.move rfl rfl (TO.nil (TE.toh (TE.td ((hdef37502 _ _ _ _).mp (hS27000_31))) 0 0 ⟨rfl, rfl, rfl, rfl, rfl, trivial⟩ rfl rfl)))
      refine EdgeOk.cons rfl ?_ ?_
      · exact TO.u rfl rfl (TX.move rfl rfl (TO.nil (TE.toh (TE.td ((hdef37502 _ _ _ _).mp (hS27000_35))) 0 0 ⟨rfl, rfl, rfl, rfl, rfl, trivial⟩ rfl rfl)))
      refine EdgeOk.cons rfl ?_ ?_
      · exact TO.u rfl rfl (TX.move rfl rfl (TO.nil (TE.toh (TE.td ((hdef37502 _ _ _ _).mp (hS27000_36))) 0 0 ⟨rfl, rfl, rfl, rfl, rfl, trivial⟩ rfl rfl)))
      refine EdgeOk.cons rfl ?_ ?_
      · exact TO.u rfl rfl (TX.slice (l := ((0 : Nat) : Int)) (h := x26005) Try.runUnderlying49 Try.sizeOf51 rfl .none (.some rfl) ho26004.le_cap hk34501 rfl (TO.nil (TE.toh (TE.td ((hdef37502 _ _ _ _).mp (hS27000_37))) 0 0 ⟨rfl, rfl, rfl, trivial⟩ rfl rfl)))
      exact EdgeOk.nil
     have hS27000_48 : T37501 9 [true, false, false, false, false, false, false, false, false, false] [(7, .slice sp6 ((IntKind.i64.wrap v2.2).toNat) ((IntKind.i64.wrap v2.2).toNat)), (8, .int .i64 x26005), (38, .int .i64 x26005)] ⟨[], [Hs26003]⟩ := by
      rw [hdef37502]
      refine TD.step [1, 2, 4, 5] 1 rfl rfl rfl rfl rfl (EdgeOk.cons rfl ?_ ?_)
      · exact TO.u rfl rfl (TX.move rfl rfl (TO.nil (TE.toh (TE.td ((hdef37502 _ _ _ _).mp (hS27000_38))) 0 0 ⟨rfl, rfl, rfl, rfl, trivial⟩ rfl rfl)))
      refine EdgeOk.cons rfl ?_ ?_
      · exact TO.u rfl rfl (TX.move rfl rfl (TO.nil (TE.toh (TE.td ((hdef37502 _ _ _ _).mp (hS27000_39))) 0 0 ⟨rfl, rfl, rfl, rfl, trivial⟩ rfl rfl)))
      refine EdgeOk.cons rfl ?_ ?_
      · exact TO.u rfl rfl (TX.move rfl rfl (TO.nil (TE.toh (TE.td ((hdef37502 _ _ _ _).mp (hS27000_40))) 0 0 ⟨rfl, rfl, rfl, rfl, trivial⟩ rfl rfl)))
      refine EdgeOk.cons rfl ?_ ?_
      · exact TO.u rfl rfl (TX.move rfl rfl (TO.nil (TE.toh (TE.td ((hdef37502 _ _ _ _).mp (hS27000_41))) 0 0 ⟨rfl, rfl, rfl, rfl, trivial⟩ rfl rfl)))
      exact EdgeOk.nil
     have hS27000_49 : T37501 9 [false, true, false, false, false, false, false, false, false, false] [(7, .slice sp6 ((IntKind.i64.wrap v2.2).toNat) ((IntKind.i64.wrap v2.2).toNat)), (8, .int .i64 x26005), (39, .slice sp6 ((IntKind.i64.wrap v2.2).toNat) ((IntKind.i64.wrap v2.2).toNat))] ⟨[], [Hs26003]⟩ := by
      rw [hdef37502]
      refine TD.step [0, 2, 4, 5] 0 rfl rfl rfl rfl rfl (EdgeOk.cons rfl ?_ ?_)
      · exact TO.u rfl rfl (TX.move rfl rfl (TO.nil (TE.toh (TE.td ((hdef37502 _ _ _ _).mp (hS27000_38))) 0 0 ⟨rfl, rfl, rfl, rfl, trivial⟩ rfl rfl)))
      refine EdgeOk.cons rfl ?_ ?_
      · exact TO.u rfl rfl (TX.move rfl rfl (TO.nil (TE.toh (TE.td ((hdef37502 _ _ _ _).mp (hS27000_42))) 0 0 ⟨rfl, rfl, rfl, rfl, trivial⟩ rfl rfl)))
      refine EdgeOk.cons rfl ?_ ?_
      · exact TO.u rfl rfl (TX.move rfl rfl (TO.nil (TE.toh (TE.td ((hdef37502 _ _ _ _).mp (hS27000_43))) 0 0 ⟨rfl, rfl, rfl, rfl, trivial⟩ rfl rfl)))
      refine EdgeOk.cons rfl ?_ ?_
      · exact TO.u rfl rfl (TX.move rfl rfl (TO.nil (TE.toh (TE.td ((hdef37502 _ _ _ _).mp (hS27000_44))) 0 0 ⟨rfl, rfl, rfl, rfl, trivial⟩ rfl rfl)))
      exact EdgeOk.nil
     have hS27000_50 : T37501 9 [false, false, true, false, false, false, false, false, false, false] [(7, .slice sp6 ((IntKind.i64.wrap v2.2).toNat) ((IntKind.i64.wrap v2.2).toNat)), (8, .int .i64 x26005), (40, .int .i64 x26005)] ⟨[], [Hs26003]⟩ := by
      rw [hdef37502]
      refine TD.step [0, 1, 4, 5] 0 rfl rfl rfl rfl rfl (EdgeOk.cons rfl ?_ ?_)
      · exact TO.u rfl rfl (TX.move rfl rfl (TO.nil (TE.toh (TE.td ((hdef37502 _ _ _ _).mp (hS27000_39))) 0 0 ⟨rfl, rfl, rfl, rfl, trivial⟩ rfl rfl)))
      refine EdgeOk.cons rfl ?_ ?_
      · exact TO.u rfl rfl (TX.move rfl rfl (TO.nil (TE.toh (TE.td ((hdef37502 _ _ _ _).mp (hS27000_42))) 0 0 ⟨rfl, rfl, rfl, rfl, trivial⟩ rfl rfl)))
      refine EdgeOk.cons rfl ?_ ?_
      · exact TO.u rfl rfl (TX.move rfl rfl (TO.nil (TE.toh (TE.td ((hdef37502 _ _ _ _).mp (hS27000_45))) 0 0 ⟨rfl, rfl, rfl, rfl, trivial⟩ rfl rfl)))
      refine EdgeOk.cons rfl ?_ ?_
      · exact TO.u rfl rfl (TX.move rfl rfl (TO.nil (TE.toh (TE.td ((hdef37502 _ _ _ _).mp (hS27000_46))) 0 0 ⟨rfl, rfl, rfl, rfl, trivial⟩ rfl rfl)))
      exact EdgeOk.nil
     have hS27000_51 : T37501 9 [false, false, false, false, true, false, false, false, false, false] [(7, .slice sp6 ((IntKind.i64.wrap v2.2).toNat) ((IntKind.i64.wrap v2.2).toNat)), (8, .int .i64 x26005), (42, .slice sp6 ((IntKind.i64.wrap v2.2).toNat) ((IntKind.i64.wrap v2.2).toNat))] ⟨[], [Hs26003]⟩ := by
      rw [hdef37502]
      refine TD.step [0, 1, 2, 5] 0 rfl rfl rfl rfl rfl (EdgeOk.cons rfl ?_ ?_)
      · exact TO.u rfl rfl (TX.move rfl rfl (TO.nil (TE.toh (TE.td ((hdef37502 _ _ _ _).mp (hS27000_40))) 0 0 ⟨rfl, rfl, rfl, rfl, trivial⟩ rfl rfl)))
      refine EdgeOk.cons rfl ?_ ?_
      · exact TO.u rfl rfl (TX.move rfl rfl (TO.nil (TE.toh (TE.td ((hdef37502 _ _ _ _).mp (hS27000_43))) 0 0 ⟨rfl, rfl, rfl, rfl, trivial⟩ rfl rfl)))
      refine EdgeOk.cons rfl ?_ ?_
      · exact TO.u rfl rfl (TX.move rfl rfl (TO.nil (TE.toh (TE.td ((hdef37502 _ _ _ _).mp (hS27000_45))) 0 0 ⟨rfl, rfl, rfl, rfl, trivial⟩ rfl rfl)))
      refine EdgeOk.cons rfl ?_ ?_
      · exact TO.u rfl rfl (TX.move rfl rfl (TO.nil (TE.toh (TE.td ((hdef37502 _ _ _ _).mp (hS27000_47))) 0 0 ⟨rfl, rfl, rfl, rfl, trivial⟩ rfl rfl)))
      exact EdgeOk.nil
     have hS27000_52 : T37501 9 [false, false, false, false, false, true, false, false, false, false] [(7, .slice sp6 ((IntKind.i64.wrap v2.2).toNat) ((IntKind.i64.wrap v2.2).toNat)), (8, .int .i64 x26005), (43, .int .i64 x26005)] ⟨[], [Hs26003]⟩ := by
      rw [hdef37502]
      refine TD.step [0, 1, 2, 4] 0 rfl rfl rfl rfl rfl (EdgeOk.cons rfl ?_ ?_)
      · exact TO.u rfl rfl (TX.move rfl rfl (TO.nil (TE.toh (TE.td ((hdef37502 _ _ _ _).mp (hS27000_41))) 0 0 ⟨rfl, rfl, rfl, rfl, trivial⟩ rfl rfl)))
      refine EdgeOk.cons rfl ?_ ?_
      · exact TO.u rfl rfl (TX.move rfl rfl (TO.nil (TE.toh (TE.td ((hdef37502 _ _ _ _).mp (hS27000_44))) 0 0 ⟨rfl, rfl, rfl, rfl, trivial⟩ rfl rfl)))
      refine EdgeOk.cons rfl ?_ ?_
      · exact TO.u rfl rfl (TX.move rfl rfl (TO.nil (TE.toh (TE.td ((hdef37502 _ _ _ _).mp (hS27000_46))) 0 0 ⟨rfl, rfl, rfl, rfl, trivial⟩ rfl rfl)))
      refine EdgeOk.cons rfl ?_ ?_
      · exact TO.u rfl rfl (TX.move rfl rfl (TO.nil (TE.toh (TE.td ((hdef37502 _ _ _ _).mp (hS27000_47))) 0 0 ⟨rfl, rfl, rfl, rfl, trivial⟩ rfl rfl)))
      exact EdgeOk.nil
     have hS27000_53 : T37501 10 [false, false, false, false, false, false, false, false, false, false] [(7, .slice sp6 ((IntKind.i64.wrap v2.2).toNat) ((IntKind.i64.wrap v2.2).toNat)), (8, .int .i64 x26005)] ⟨[], [Hs26003]⟩ := by
      rw [hdef37502]
      refine TD.step [0, 1, 2, 4, 5] 0 rfl rfl rfl rfl rfl (EdgeOk.cons rfl ?_ ?_)
      · exact TO.u rfl rfl (TX.move rfl rfl (TO.nil (TE.toh (TE.td ((hdef37502 _ _ _ _).mp (hS27000_48))) 0 0 ⟨rfl, rfl, rfl, trivial⟩ rfl rfl)))
      refine EdgeOk.cons rfl ?_ ?_
      · exact TO.u rfl rfl (TX.move rfl rfl (TO.nil (TE.toh (TE.td ((hdef37502 _ _ _ _).mp (hS27000_49))) 0 0 ⟨rfl, rfl, rfl, trivial⟩ rfl rfl)))
      refine EdgeOk.cons rfl ?_ ?_
      · exact TO.u rfl rfl (TX.move rfl rfl (TO.nil (TE.toh (TE.td ((hdef37502 _ _ _ _).mp (hS27000_50))) 0 0 ⟨rfl, rfl, rfl, trivial⟩ rfl rfl)))
      refine EdgeOk.cons rfl ?_ ?_
      · exact TO.u rfl rfl (TX.move rfl rfl (TO.nil (TE.toh (TE.td ((hdef37502 _ _ _ _).mp (hS27000_51))) 0 0 ⟨rfl, rfl, rfl, trivial⟩ rfl rfl)))
      refine EdgeOk.cons rfl ?_ ?_
      · exact TO.u rfl rfl (TX.move rfl rfl (TO.nil (TE.toh (TE.td ((hdef37502 _ _ _ _).mp (hS27000_52))) 0 0 ⟨rfl, rfl, rfl, trivial⟩ rfl rfl)))
      exact EdgeOk.nil
     exact hS27000_53
   replace h := ie h hb26017
   exact TC.exit (TE.thenX (TE.loopX (TE.to (L' := [(7, .slice sp6 ((IntKind.i64.wrap v2.2).toNat) ((IntKind.i64.wrap v2.2).toNat))]) (E' := []) (S' := [Hs26003]) 0 0 ⟨rfl, trivial⟩ rfl rfl (TE.cutE ⟨x26001, Option.some.inj h, Hs26003, ho26004, hn26002, rfl, rfl⟩))))
 rintro _ _ ⟨x26007, rfl, Hs26009, ho26010, hn26008, rfl, rfl⟩
 replace h := (fn56_k1_s x26007).symm.trans h
 refine TE.blockH (TE.thenN rfl rfl (TC.seq (TC.region (TO.u rfl rfl (TX.move rfl rfl (TO.u rfl rfl (TX.assign rfl rfl (TO.nil (TE.thenN rfl rfl (TC.ret ?_))))))))))
 have hr := (Option.some.inj h)
 subst hr
 exact TE.fin (R := ⟨[], []⟩) (TL.ret (R' := ⟨[], [Hs26009]⟩) Try.results56 (.cons (.tmp rfl) .nil) (segSub (i := 0) rfl) ⟨sp6, ((IntKind.i64.wrap v2.2).toNat), ((IntKind.i64.wrap v2.2).toNat), Hs26009, rfl, hn26008, rfl, ho26010⟩)
/-- (hatchway/shape.slot).way -/
def fn57 (p0 : Slot) (p1 : Int) : S__2_int :=
  (bif p0.fInstr.fOp == 24 then (bindP (fn39 p0 p1) fun v5 => (bif v5.2 then (bindP (fn40 p0) fun v7 => (bif v7 then (⟨(-1), v5.1⟩ : S__2_int) else (⟨IntKind.i64.wrap ((IntKind.i64.wrap (p1 + 1)) + 1), v5.1⟩ : S__2_int))) else (bindP (fn40 p0) fun v9 => (bif v9 then (⟨(-1), (-1)⟩ : S__2_int) else (⟨IntKind.i64.wrap ((IntKind.i64.wrap (p1 + 1)) + 1), (-1)⟩ : S__2_int))))) else (bindP (fn39 p0 p1) fun v11 => (bif v11.2 then (bindP (fn40 p0) fun v13 => (bif v13 then (⟨(-1), v11.1⟩ : S__2_int) else (⟨IntKind.i64.wrap (p1 + 1), v11.1⟩ : S__2_int))) else (bindP (fn40 p0) fun v15 => (bif v15 then (⟨(-1), (-1)⟩ : S__2_int) else (⟨IntKind.i64.wrap (p1 + 1), (-1)⟩ : S__2_int))))))
def ret57 (r : S__2_int) : Value := .agg #[.int .i64 r.e0, .int .i64 r.e1]
theorem c57 (p0 : Slot) (p1 : Int) (w : World) (r : S__2_int)  (h : fn57 p0 p1 = r) : Ret Try.prog 57 [.agg #[.int .u8 p0.fInstr.fOp, .int .u8 p0.fInstr.fDst, .int .u8 p0.fInstr.fSrc, .int .i16 p0.fInstr.fOff, .int .i32 p0.fInstr.fImm, .int .u8 p0.fclass, .int .u8 p0.fop, .bool p0.freg], .int .i64 p1] w ⟨[], []⟩ (fun v R => v = ret57 r ∧ R = ⟨[], []⟩) := by
 unfold fn57 at h
 refine Ret.of_body Try.func57 rfl Try.ntmps57 rfl (fun _ hx => absurd hx List.not_mem_nil) List.nodup_nil (TC.seq (TC.region (TO.u rfl rfl (TX.box rfl rfl rfl (fun b1 => (TO.u rfl rfl (TX.alloc Try.zeroValue51 rfl rfl (fun b2 => (TO.nil (TE.thenN rfl rfl (TC.seq (TC.region (TO.u rfl rfl (TX.move rfl rfl (TO.u rfl rfl (TX.ibin rfl rfl rfl rfl (TO.u rfl rfl (TX.buildA Try.zeroValue51 rfl Try.runUnderlying51 Try.sizeOf3 rfl rfl rfl (TO.u rfl rfl (TX.alloc Try.zeroValue51 rfl rfl (fun b3 => (TO.u rfl rfl (TX.store (i := 0) Try.sizeOf51 rfl rfl rfl rfl rfl rfl rfl rfl (TO.nil (TE.thenN rfl rfl (TC.seq (TC.seq (TC.region (TO.u rfl rfl (TX.fieldAddr' Try.runUnderlying58 rfl Try.sizeOf27 rfl rfl rfl (TO.u rfl rfl (TX.fieldAddr' Try.runUnderlying27 rfl Try.sizeOf5 rfl rfl rfl (TO.u rfl rfl (TX.load1 (i := 2) Try.isAgg5 rfl rfl rfl rfl (TO.u rfl rfl (TX.ibin rfl rfl rfl rfl (TO.nil (TE.thenN rfl rfl (TC.cond rfl (fun hb4 => ?_) (fun hb4 => ?_))))))))))))))))))))))))))))))))))))))))
 · replace h := it h hb4
   refine TC.region (TO.u rfl rfl (TX.indexA (i := 0) Try.runUnderlying51 Try.sizeOf3 rfl rfl rfl rfl rfl (TO.u rfl rfl (TX.load1 (i := 0) Try.isAgg3 rfl rfl rfl rfl (TO.u rfl rfl (TX.ibin rfl rfl rfl rfl (TO.u rfl rfl (TX.indexA (i := 0) Try.runUnderlying51 Try.sizeOf3 rfl rfl rfl rfl rfl (TO.u rfl rfl (TX.store (i := 0) Try.sizeOf3 rfl rfl rfl rfl rfl rfl rfl rfl (TO.nil (TE.thenN rfl rfl (TC.seq (TC.seq (TC.region (TO.u rfl rfl (TX.loadN (i := 2) Try.isAgg58 Try.sizeOf58 rfl rfl rfl rfl (TO.u rfl rfl (TX.move rfl rfl ?_)))))))))))))))))))
   obtain ⟨v5, hv5, h⟩ := bp h
   refine TO.u rfl rfl (TX.callP Try.call39 rfl (fun a w s => c39 p0 p1 _ _  hv5) rfl (TO.u rfl rfl (TX.move rfl rfl (TO.u rfl rfl (TX.extract rfl rfl rfl (TO.u rfl rfl (TX.extract rfl rfl rfl (TO.u rfl rfl (TX.assign rfl rfl (TO.u rfl rfl (TX.assign rfl rfl (TO.nil (TE.thenN rfl rfl (TC.seq (TC.region (TO.u rfl rfl (TX.move rfl rfl (TO.nil (TE.thenN rfl rfl (TC.cond rfl (fun hb6 => ?_) (fun hb6 => ?_)))))))))))))))))))))
   · replace h := it h hb6
     refine TC.region (TO.u rfl rfl (TX.move rfl rfl (TO.u rfl rfl (TX.indexA (i := 1) Try.runUnderlying51 Try.sizeOf3 rfl rfl rfl rfl rfl (TO.u rfl rfl (TX.store (i := 0) Try.sizeOf3 rfl rfl rfl rfl rfl rfl rfl rfl (TO.nil (TE.thenN rfl rfl (TC.seq (TC.seq (TC.region (TO.u rfl rfl (TX.loadN (i := 2) Try.isAgg58 Try.sizeOf58 rfl rfl rfl rfl ?_)))))))))))))
     obtain ⟨v7, hv7, h⟩ := bp h
     refine TO.u rfl rfl (TX.callP Try.call40 rfl (fun a w s => c40 p0 _ _  hv7) rfl (TO.nil (TE.thenN rfl rfl (TC.cond rfl (fun hb8 => ?_) (fun hb8 => ?_)))))
     · replace h := it h hb8
       exact TC.region (TO.u rfl rfl (TX.indexA (i := 0) Try.runUnderlying51 Try.sizeOf3 rfl rfl rfl rfl rfl (TO.u rfl rfl (TX.store (i := 0) Try.sizeOf3 rfl rfl rfl rfl rfl rfl rfl rfl (TO.nil (TE.thenN rfl rfl (TC.seq (TC.region (TO.u rfl rfl (TX.loadN (i := 0) Try.isAgg51 Try.sizeOf51 rfl rfl rfl rfl (TO.u rfl rfl (TX.store (i := 1) Try.sizeOf51 rfl rfl rfl rfl rfl rfl rfl rfl (TO.nil (TE.thenN rfl rfl (TC.ret (TE.fin (R := ⟨[], []⟩) (TL.ret (R' := ⟨[], []⟩) Try.results57 (.cons (.cellN (i := 1) Try.isAgg51 Try.sizeOf51 rfl rfl rfl) .nil) (subD 3 0 rfl rfl) ⟨congrArg ret57 h, rfl⟩)))))))))))))))))
     replace h := ie h hb8
     exact TC.skip (TE.thenN rfl rfl (TC.seq (TC.region (TO.u rfl rfl (TX.loadN (i := 0) Try.isAgg51 Try.sizeOf51 rfl rfl rfl rfl (TO.u rfl rfl (TX.store (i := 1) Try.sizeOf51 rfl rfl rfl rfl rfl rfl rfl rfl (TO.nil (TE.thenN rfl rfl (TC.ret (TE.fin (R := ⟨[], []⟩) (TL.ret (R' := ⟨[], []⟩) Try.results57 (.cons (.cellN (i := 1) Try.isAgg51 Try.sizeOf51 rfl rfl rfl) .nil) (subD 3 0 rfl rfl) ⟨congrArg ret57 h, rfl⟩))))))))))))
   replace h := ie h hb6
   refine TC.skip (TE.thenN rfl rfl (TC.seq (TC.seq (TC.region (TO.u rfl rfl (TX.loadN (i := 2) Try.isAgg58 Try.sizeOf58 rfl rfl rfl rfl ?_))))))
   obtain ⟨v9, hv9, h⟩ := bp h
   refine TO.u rfl rfl (TX.callP Try.call40 rfl (fun a w s => c40 p0 _ _  hv9) rfl (TO.nil (TE.thenN rfl rfl (TC.cond rfl (fun hb10 => ?_) (fun hb10 => ?_)))))
   · replace h := it h hb10
     exact TC.region (TO.u rfl rfl (TX.indexA (i := 0) Try.runUnderlying51 Try.sizeOf3 rfl rfl rfl rfl rfl (TO.u rfl rfl (TX.store (i := 0) Try.sizeOf3 rfl rfl rfl rfl rfl rfl rfl rfl (TO.nil (TE.thenN rfl rfl (TC.seq (TC.region (TO.u rfl rfl (TX.loadN (i := 0) Try.isAgg51 Try.sizeOf51 rfl rfl rfl rfl (TO.u rfl rfl (TX.store (i := 1) Try.sizeOf51 rfl rfl rfl rfl rfl rfl rfl rfl (TO.nil (TE.thenN rfl rfl (TC.ret (TE.fin (R := ⟨[], []⟩) (TL.ret (R' := ⟨[], []⟩) Try.results57 (.cons (.cellN (i := 1) Try.isAgg51 Try.sizeOf51 rfl rfl rfl) .nil) (subD 3 0 rfl rfl) ⟨congrArg ret57 h, rfl⟩)))))))))))))))))
   replace h := ie h hb10
   exact TC.skip (TE.thenN rfl rfl (TC.seq (TC.region (TO.u rfl rfl (TX.loadN (i := 0) Try.isAgg51 Try.sizeOf51 rfl rfl rfl rfl (TO.u rfl rfl (TX.store (i := 1) Try.sizeOf51 rfl rfl rfl rfl rfl rfl rfl rfl (TO.nil (TE.thenN rfl rfl (TC.ret (TE.fin (R := ⟨[], []⟩) (TL.ret (R' := ⟨[], []⟩) Try.results57 (.cons (.cellN (i := 1) Try.isAgg51 Try.sizeOf51 rfl rfl rfl) .nil) (subD 3 0 rfl rfl) ⟨congrArg ret57 h, rfl⟩))))))))))))
 replace h := ie h hb4
 refine TC.skip (TE.thenN rfl rfl (TC.seq (TC.seq (TC.region (TO.u rfl rfl (TX.loadN (i := 2) Try.isAgg58 Try.sizeOf58 rfl rfl rfl rfl (TO.u rfl rfl (TX.move rfl rfl ?_))))))))
 obtain ⟨v11, hv11, h⟩ := bp h
 refine TO.u rfl rfl (TX.callP Try.call39 rfl (fun a w s => c39 p0 p1 _ _  hv11) rfl (TO.u rfl rfl (TX.move rfl rfl (TO.u rfl rfl (TX.extract rfl rfl rfl (TO.u rfl rfl (TX.extract rfl rfl rfl (TO.u rfl rfl (TX.assign rfl rfl (TO.u rfl rfl (TX.assign rfl rfl (TO.nil (TE.thenN rfl rfl (TC.seq (TC.region (TO.u rfl rfl (TX.move rfl rfl (TO.nil (TE.thenN rfl rfl (TC.cond rfl (fun hb12 => ?_) (fun hb12 => ?_)))))))))))))))))))))
 · replace h := it h hb12
   refine TC.region (TO.u rfl rfl (TX.move rfl rfl (TO.u rfl rfl (TX.indexA (i := 1) Try.runUnderlying51 Try.sizeOf3 rfl rfl rfl rfl rfl (TO.u rfl rfl (TX.store (i := 0) Try.sizeOf3 rfl rfl rfl rfl rfl rfl rfl rfl (TO.nil (TE.thenN rfl rfl (TC.seq (TC.seq (TC.region (TO.u rfl rfl (TX.loadN (i := 2) Try.isAgg58 Try.sizeOf58 rfl rfl rfl rfl ?_)))))))))))))
   obtain ⟨v13, hv13, h⟩ := bp h
   refine TO.u rfl rfl (TX.callP Try.call40 rfl (fun a w s => c40 p0 _ _  hv13) rfl (TO.nil (TE.thenN rfl rfl (TC.cond rfl (fun hb14 => ?_) (fun hb14 => ?_)))))
   · replace h := it h hb14
     exact TC.region (TO.u rfl rfl (TX.indexA (i := 0) Try.runUnderlying51 Try.sizeOf3 rfl rfl rfl rfl rfl (TO.u rfl rfl (TX.store (i := 0) Try.sizeOf3 rfl rfl rfl rfl rfl rfl rfl rfl (TO.nil (TE.thenN rfl rfl (TC.seq (TC.region (TO.u rfl rfl (TX.loadN (i := 0) Try.isAgg51 Try.sizeOf51 rfl rfl rfl rfl (TO.u rfl rfl (TX.store (i := 1) Try.sizeOf51 rfl rfl rfl rfl rfl rfl rfl rfl (TO.nil (TE.thenN rfl rfl (TC.ret (TE.fin (R := ⟨[], []⟩) (TL.ret (R' := ⟨[], []⟩) Try.results57 (.cons (.cellN (i := 1) Try.isAgg51 Try.sizeOf51 rfl rfl rfl) .nil) (subD 3 0 rfl rfl) ⟨congrArg ret57 h, rfl⟩)))))))))))))))))
   replace h := ie h hb14
   exact TC.skip (TE.thenN rfl rfl (TC.seq (TC.region (TO.u rfl rfl (TX.loadN (i := 0) Try.isAgg51 Try.sizeOf51 rfl rfl rfl rfl (TO.u rfl rfl (TX.store (i := 1) Try.sizeOf51 rfl rfl rfl rfl rfl rfl rfl rfl (TO.nil (TE.thenN rfl rfl (TC.ret (TE.fin (R := ⟨[], []⟩) (TL.ret (R' := ⟨[], []⟩) Try.results57 (.cons (.cellN (i := 1) Try.isAgg51 Try.sizeOf51 rfl rfl rfl) .nil) (subD 3 0 rfl rfl) ⟨congrArg ret57 h, rfl⟩))))))))))))
 replace h := ie h hb12
 refine TC.skip (TE.thenN rfl rfl (TC.seq (TC.seq (TC.region (TO.u rfl rfl (TX.loadN (i := 2) Try.isAgg58 Try.sizeOf58 rfl rfl rfl rfl ?_))))))
 obtain ⟨v15, hv15, h⟩ := bp h
 refine TO.u rfl rfl (TX.callP Try.call40 rfl (fun a w s => c40 p0 _ _  hv15) rfl (TO.nil (TE.thenN rfl rfl (TC.cond rfl (fun hb16 => ?_) (fun hb16 => ?_)))))
 · replace h := it h hb16
   exact TC.region (TO.u rfl rfl (TX.indexA (i := 0) Try.runUnderlying51 Try.sizeOf3 rfl rfl rfl rfl rfl (TO.u rfl rfl (TX.store (i := 0) Try.sizeOf3 rfl rfl rfl rfl rfl rfl rfl rfl (TO.nil (TE.thenN rfl rfl (TC.seq (TC.region (TO.u rfl rfl (TX.loadN (i := 0) Try.isAgg51 Try.sizeOf51 rfl rfl rfl rfl (TO.u rfl rfl (TX.store (i := 1) Try.sizeOf51 rfl rfl rfl rfl rfl rfl rfl rfl (TO.nil (TE.thenN rfl rfl (TC.ret (TE.fin (R := ⟨[], []⟩) (TL.ret (R' := ⟨[], []⟩) Try.results57 (.cons (.cellN (i := 1) Try.isAgg51 Try.sizeOf51 rfl rfl rfl) .nil) (subD 3 0 rfl rfl) ⟨congrArg ret57 h, rfl⟩)))))))))))))))))
 replace h := ie h hb16
 exact TC.skip (TE.thenN rfl rfl (TC.seq (TC.region (TO.u rfl rfl (TX.loadN (i := 0) Try.isAgg51 Try.sizeOf51 rfl rfl rfl rfl (TO.u rfl rfl (TX.store (i := 1) Try.sizeOf51 rfl rfl rfl rfl rfl rfl rfl rfl (TO.nil (TE.thenN rfl rfl (TC.ret (TE.fin (R := ⟨[], []⟩) (TL.ret (R' := ⟨[], []⟩) Try.results57 (.cons (.cellN (i := 1) Try.isAgg51 Try.sizeOf51 rfl rfl rfl) .nil) (subD 3 0 rfl rfl) ⟨congrArg ret57 h, rfl⟩))))))))))))
def fn31_r1 (x41 : List S__2_int) (y49 : Int) (y50 : Slot) : Option (((List S__2_int)) × Nat) :=
  (bindP (fn57 y50 y49) fun v67 => (bif inb y49 x41.length then (some (x41.set y49.toNat v67, 0)) else none))
theorem fn31_r1_s (x41 : List S__2_int) (y49 : Int) (y50 : Slot) : fn31_r1 x41 y49 y50 = (bindP (fn57 y50 y49) fun v67 => (bif inb y49 x41.length then (some (x41.set y49.toNat v67, 0)) else none)) := rfl
def fn31_k1_0 (x72 : List S__2_int) : Option ((List S__2_int)) :=
  (some x72)
theorem fn31_k1_0_s (x72 : List S__2_int) : fn31_k1_0 x72 = (some x72) := rfl
/-- hatchway/shape.Ways -/
def fn31 (F : Nat) (p0 : List Instr) : Option ((List S__2_int)) :=
  (Option.bind (fn14 F p0) fun v1 => (bif v1.2 != 0 then (some ([] : List S__2_int)) else (Option.bind (fn56 F ([(⟨(-1), (-1)⟩ : S__2_int)] : List S__2_int) (p0.length : Int)) fun v7 => (Option.bind (fn59 F (stepR (fun (s : (List S__2_int)) (y : Int × Slot) => fn31_r1 s y.1 y.2)) goR p0 ((v7, 0) : ((List S__2_int)) × Nat)) fun o81 => (bif Nat.beq o81.2 0 then fn31_k1_0 o81.1 else none)))))
def post31 (r : (List S__2_int)) (v : Value) (R : Hp) : Prop := ∃ sp n cap Hs, v = .slice sp n cap ∧ r.length = n ∧ R = ⟨[], [Hs]⟩ ∧ OwnL S__2_int.E 51 sp cap r Hs
theorem c31 (F : Nat) (sp_0 : Option Addr) (n_0 cap_0 : Nat) (p0 : List Instr) (w : World) (r : (List S__2_int)) (qn0 : p0.length = n_0) (qc0 : p0.length ≤ cap_0) (qp0 : RdF Instr.E w [] sp_0 p0) (h : fn31 F p0 = some r) : Ret Try.prog 31 [.slice sp_0 n_0 cap_0] w ⟨[], []⟩ (post31 r) := by
 unfold fn31 at h
 refine Ret.of_body Try.func31 rfl Try.ntmps31 rfl (fun _ hx => absurd hx List.not_mem_nil) List.nodup_nil (TC.seq (TC.region (TO.u rfl rfl (TX.assign rfl rfl (TO.nil (TE.thenN rfl rfl (TC.seq (TC.seq (TC.region (TO.u rfl rfl (TX.move rfl rfl ?_)))))))))))
 obtain ⟨v1, hv1, h⟩ := bd h
 refine TO.u rfl rfl (TX.callP Try.call14 rfl (fun a w s => c14 F _ _ _ p0 _ _ qn0 qc0 (qp0.tr s.extB0) hv1) rfl (TO.u rfl rfl (TX.move rfl rfl (TO.u rfl rfl (TX.extract rfl rfl rfl (TO.u rfl rfl (TX.extract rfl rfl rfl (TO.u rfl rfl (TX.assign rfl rfl (TO.u rfl rfl (TX.assign rfl rfl (TO.nil (TE.thenN rfl rfl (TC.seq (TC.region (TO.u rfl rfl (TX.move rfl rfl (TO.u rfl rfl (TX.ibin rfl rfl rfl rfl (TO.nil (TE.thenN rfl rfl (TC.cond rfl (fun hb2 => ?_) (fun hb2 => ?_)))))))))))))))))))))))
 · replace h := it h hb2
   refine TC.seq (TC.region (TO.u rfl rfl (TX.assign rfl rfl (TO.nil (TE.thenN rfl rfl (TC.ret (TE.thenR ?_)))))))
   have hr := (Option.some.inj h)
   subst hr
   exact TE.fin (R := ⟨[], []⟩) (TL.ret (R' := ⟨[], [[]]⟩) Try.results31 (.cons (.tmp rfl) .nil) segSub0 ⟨none, 0, 0, [], rfl, rfl, rfl, (OwnL.nil S__2_int.E 51)⟩)
 replace h := ie h hb2
 refine TC.skip (TE.thenN rfl rfl (TC.seq (TC.region (TO.u rfl rfl (TX.buildA Try.zeroValue51 rfl Try.runUnderlying51 Try.sizeOf3 rfl rfl rfl (TO.u rfl rfl (TX.buildS (N := S__2_int.E) (ys := ([(⟨(-1), (-1)⟩ : S__2_int)] : List S__2_int)) Try.runUnderlying49 Try.sizeOf51 Try.zeroValue51 rfl rfl rfl rfl (fillS [.agg #[.int .i64 (-1), .int .i64 (-1)]] rfl rfl rfl rfl) rfl (fun sp3 Hs5 ho6 => (TO.u rfl rfl (TX.move rfl rfl (TO.u rfl rfl (TX.lenS (xs := p0) Try.runUnderlying24 rfl qn0 rfl ?_))))))))))))
 obtain ⟨v7, hv7, h⟩ := bd h
 refine TO.u rfl rfl (TX.callQ (post56 v7) Try.call56 rfl (fun a w s => c56 F _ _ _ ([(⟨(-1), (-1)⟩ : S__2_int)] : List S__2_int) (p0.length : Int) _ _ rfl ho6.le_cap (ho6.rdf0 s (i := 0) rfl) hv7) rfl ?_)
 rintro _ _ ⟨sp8, n9, cap10, Hs12, rfl, hn11, rfl, ho13⟩
 refine TO.reH ⟨[], [Hs12, Hs5]⟩ rfl (TO.u rfl rfl (TX.alloc Try.zeroValue49 rfl rfl (fun b15 => (TO.u rfl rfl (TX.store (i := 0) Try.sizeOf49 rfl rfl rfl rfl rfl rfl rfl rfl (TO.nil (TE.thenN rfl rfl (TC.seq (TC.seq (TC.region (TO.u rfl rfl (TX.move rfl rfl (TO.u rfl rfl (TX.callQ _ Try.call34 rfl (fun a w s => c34 _ _ _ p0 _) rfl ?_))))))))))))))
 rintro _ _ ⟨b16, rfl, rfl⟩
 refine TO.reH ⟨[(b16, .cells #[.slice sp_0 n_0 cap_0] 24), (b15, .cells #[.slice sp8 n9 cap10] 49)], [Hs12, Hs5]⟩ rfl (TO.nil (TE.thenN rfl rfl (TC.block ?_)))
 obtain ⟨⟨o81, m82⟩, hl83, h⟩ := bd h
 refine TC.to (L' := [(2, .slice none 0 0), (5, .pointer (some ⟨b15, 0, none⟩)), (21, .func (.func 59) #[] #[.pointer (some ⟨b16, 0, none⟩)])]) (E' := [(b16, .cells #[.slice sp_0 n_0 cap_0] 24), (b15, .cells #[.slice sp8 n9 cap10] 49)]) (S' := [Hs12, Hs5]) 0 0 ⟨rfl, rfl, rfl, trivial⟩ rfl rfl (TC.rangeO [22, 23] [0] [] (fun (x41 : (List S__2_int)) (H' : Hp) => ∃ sp42 n43 cap44 Hs46, OwnL S__2_int.E 51 sp42 cap44 x41 Hs46 ∧ x41.length = n43 ∧ H' = ⟨[(b15, .cells #[.slice sp42 n43 cap44] 49)], [Hs46, Hs5]⟩) (fun (x : Int × Slot) => [.int .i64 x.1, .agg #[.int .u8 x.2.fInstr.fOp, .int .u8 x.2.fInstr.fDst, .int .u8 x.2.fInstr.fSrc, .int .i16 x.2.fInstr.fOff, .int .i32 x.2.fInstr.fImm, .int .u8 x.2.fclass, .int .u8 x.2.fop, .bool x.2.freg]]) (fun (s : (List S__2_int)) (y : Int × Slot) => fn31_r1 s y.1 y.2) v7 o81 m82 Try.call59 rfl rfl (fun _ => rfl) rfl rfl ⟨sp8, n9, cap10, Hs12, ho13, hn11, rfl⟩ (fun zw zv zJ zH zd zx zo zy zj => c59 F (stepR (fun (s : (List S__2_int)) (y : Int × Slot) => fn31_r1 s y.1 y.2)) goR zJ zv ((v7, 0) : ((List S__2_int)) × Nat) zH b16 _ _ _ p0 zw (o81, m82) qn0 qc0 (qp0.tr zx) zo zy zj hl83) ?_ ?_)
 · clear h hl83
   intro l51 r52 lr53 w54 R55 x41 y57 s58 m59 H60 Rr61 hst62 h hI84 hx63 fin64
   obtain ⟨y49, y50⟩ := y57
   obtain ⟨sp42, n43, cap44, Hs46, ho47, hn45, rfl⟩ := hI84
   replace h := (fn31_r1_s x41 y49 y50).symm.trans h
   have qx65 := qp0.tr hx63
   refine TC.to (L' := [(2, .slice none 0 0), (5, .pointer (some ⟨b15, 0, none⟩)), (21, .func (.func 59) #[] #[.pointer (some ⟨b16, 0, none⟩)]), (22, .int .i64 y49), (23, .agg #[.int .u8 y50.fInstr.fOp, .int .u8 y50.fInstr.fDst, .int .u8 y50.fInstr.fSrc, .int .i16 y50.fInstr.fOff, .int .i32 y50.fInstr.fImm, .int .u8 y50.fclass, .int .u8 y50.fop, .bool y50.freg])]) (E' := [(l51, .loop lr53), (r52, .deferred (some [])), (b15, .cells #[.slice sp42 n43 cap44] 49)]) (S' := [Hs46, Hs5]) 0 0 ⟨rfl, rfl, rfl, rfl, rfl, trivial⟩ rfl rfl (TC.seq (TC.region (TO.u rfl rfl (TX.assign rfl rfl (TO.nil (TE.thenN rfl rfl (TC.region (TO.u rfl rfl (TX.alloc Try.zeroValue58 rfl rfl (fun b66 => (TO.u rfl rfl (TX.store (i := 0) Try.sizeOf58 rfl rfl rfl rfl rfl rfl rfl rfl (TO.nil (TE.begin (i := 1) rfl (by assumption) rfl ?_))))))))))))))
   refine TC.block (TC.keep (L' := [(5, .pointer (some ⟨b15, 0, none⟩)), (6, .int .i64 y49), (7, .pointer (some ⟨b66, 0, none⟩))]) ⟨rfl, rfl, rfl, trivial⟩ ?_)
   obtain ⟨v67, hv67, h⟩ := bp h
   refine TC.draw hmix 5 [.slice sp42 n43 cap44, .int .i64 y49, .agg #[.int .u8 y50.fInstr.fOp, .int .u8 y50.fInstr.fDst, .int .u8 y50.fInstr.fSrc, .int .i16 y50.fInstr.fOff, .int .i32 y50.fInstr.fImm, .int .u8 y50.fclass, .int .u8 y50.fop, .bool y50.freg], .int .i64 y49, .agg #[.int .i64 v67.e0, .int .i64 v67.e1]] [(24, .slice sp42 n43 cap44), (25, .int .i64 y49), (28, .agg #[.int .i64 v67.e0, .int .i64 v67.e1])] rfl rfl rfl rfl ?_ (.cons 0 rfl rfl rfl (.cons 1 rfl rfl rfl (.cons 4 rfl rfl rfl .nil))) ?_
   · exact QAll.u [(5, .pointer (some ⟨b15, 0, none⟩))] (.old rfl .nil) rfl rfl (QV.load1 (i := 3) Try.isAgg49 rfl rfl rfl).s rfl (QAll.u [(6, .int .i64 y49)] (.old rfl .nil) rfl rfl (QV.move rfl).s rfl (QAll.u [(7, .pointer (some ⟨b66, 0, none⟩))] (.old rfl .nil) rfl rfl (QV.loadN (i := 0) Try.isAgg58 Try.sizeOf58 rfl rfl rfl).s rfl (QAll.u [(6, .int .i64 y49)] (.old rfl .nil) rfl rfl (QV.move rfl).s rfl (QAll.u [(26, .agg #[.int .u8 y50.fInstr.fOp, .int .u8 y50.fInstr.fDst, .int .u8 y50.fInstr.fSrc, .int .i16 y50.fInstr.fOff, .int .i32 y50.fInstr.fImm, .int .u8 y50.fclass, .int .u8 y50.fop, .bool y50.freg]), (27, .int .i64 y49)] (.dat 2 rfl rfl rfl (.dat 3 rfl rfl rfl .nil)) rfl rfl (QS.callP Try.call57 rfl (fun a w s => c57 y50 y49 _ _  hv67)) rfl (QAll.nil)))))
   obtain ⟨hk68, h⟩ := ck h
   refine TO.u rfl rfl (TX.indexR (N := S__2_int.E) Try.runUnderlying49 Try.sizeOf51 rfl hn45 rfl (fun a w s => ho47.rd s (i := 0) rfl) hk68 rfl (TO.u rfl rfl (TX.storeS (N := S__2_int.E) (si := 0) (u := v67) Try.sizeOf51 rfl rfl rfl rfl rfl rfl ho47 hk68 rfl (fun Hs69 _ S70 ho71 => ?_))))
   cases S70
   refine TO.nil (TE.blockN ?_)
   cases h
   exact TE.to (L' := []) (E' := [(l51, .loop { lr53 with state := .busy }), (r52, .deferred (some [])), (b15, .cells #[.slice sp42 n43 cap44] 49)]) (S' := [Hs69, Hs5]) 1 0 trivial rfl rfl (fin64 [] ⟨[(b15, .cells #[.slice sp42 n43 cap44] 49)], [Hs69, Hs5]⟩ ⟨sp42, n43, cap44, Hs69, ho71, (List.length_set.trans hn45), rfl⟩)
 clear hl83
 intro r80 H85 hI86
 obtain ⟨x72, q_⟩ : ∃ z, z = o81 := ⟨_, rfl⟩
 subst q_
 obtain ⟨sp73, n74, cap75, Hs77, ho78, hn76, rfl⟩ := hI86
 refine TE.reH ⟨[(r80, .deferred (some [])), (b16, .cells #[.slice sp_0 n_0 cap_0] 24), (b15, .cells #[.slice sp73 n74 cap75] 49)], [Hs77, Hs5]⟩ rfl ?_
 cases hm87 : Nat.beq m82 0
 · replace h := ie h hm87
   cases h
 replace h := it h hm87
 have q_ := Nat.eq_of_beq_eq_true hm87
 subst q_
 replace h := (fn31_k1_0_s x72).symm.trans h
 refine TE.asE (e := .normal) rfl (TE.blockN (TE.thenN rfl rfl (TC.seq (TC.region (TO.u rfl rfl (TX.load1 (i := 2) Try.isAgg49 rfl rfl rfl rfl (TO.u rfl rfl (TX.assign rfl rfl (TO.nil (TE.thenN rfl rfl (TC.ret ?_)))))))))))
 have hr := (Option.some.inj h)
 subst hr
 exact TE.fin (R := ⟨[], []⟩) (TL.mark (i := 0) rfl rfl (TL.ret (R' := ⟨[], [Hs77]⟩) Try.results31 (.cons (.tmp rfl) .nil) (segSub (i := 0) rfl) ⟨sp73, n74, cap75, Hs77, rfl, hn76, rfl, ho78⟩))
end Go.Proofs.Ytbpldfhehpjbaaa
