/- Each Go function of this part computes the plain function beside it (walks, written by program). -/
import Derived.Test.YtbpldfhehpjbaaaGenA
namespace Go.Proofs.Ytbpldfhehpjbaaa
open Go Go.HW Go.MapKept
set_option maxRecDepth 4000
set_option linter.unusedVariables false
/-- hatchway/hatchwayref03.alu -/
def fn88 (p0 : Instr) : Bool :=
  (bindP (fn55 p0) fun v2 => (bif v2 == 208 then (((p0.fSrc == 0) && (p0.fOff == 0)) && ((p0.fImm == 16) || ((p0.fImm == 32) || (p0.fImm == 64)))) else (bindP (fn86 p0) fun v8 => (bindP (fn86 p0) fun v10 => (bif ((v8 && (p0.fImm != 0)) || ((!v10) && (p0.fSrc != 0))) || ((v2 == 128) && (p0.fImm != 0)) then false else (bif v2 == 48 then ((p0.fOff == 0) || (p0.fOff == 1)) else (bif v2 == 144 then ((p0.fOff == 0) || (p0.fOff == 1)) else (bif v2 == 176 then (bindP (fn86 p0) fun v21 => (bindP (fn54 p0) fun v22 => ((p0.fOff == 0) || (v21 && ((p0.fOff == 8) || ((p0.fOff == 16) || ((p0.fOff == 32) && (v22 == 7)))))))) else (p0.fOff == 0)))))))))
def ret88 (r : Bool) : Value := .bool r
set_option maxHeartbeats 8000000 in
theorem c88 (p0 : Instr) (w : World) (r : Bool)  (h : fn88 p0 = r) : Ret Try.prog 88 [.agg #[.int .u8 p0.fOp, .int .u8 p0.fDst, .int .u8 p0.fSrc, .int .i16 p0.fOff, .int .i32 p0.fImm]] w ⟨[], []⟩ (fun v R => v = ret88 r ∧ R = ⟨[], []⟩) := by
 unfold fn88 at h
 refine Ret.of_body Try.func88 rfl Try.ntmps88 rfl (fun _ hx => absurd hx List.not_mem_nil) List.nodup_nil (TC.seq (TC.region (TO.u rfl rfl (TX.box rfl rfl rfl (fun b1 => (TO.u rfl rfl (TX.assign rfl rfl (TO.nil (TE.thenN rfl rfl (TC.seq (TC.region (TO.u rfl rfl (TX.loadN (i := 0) Try.isAgg27 Try.sizeOf27 rfl rfl rfl rfl ?_)))))))))))))
 obtain ⟨v2, hv2, h⟩ := bp h
 refine TO.u rfl rfl (TX.callP Try.call55 rfl (fun a w s => c55 p0 _ _  hv2) rfl (TO.u rfl rfl (TX.assign rfl rfl (TO.nil (TE.thenN rfl rfl (TC.seq (TC.seq (TC.region (TO.u rfl rfl (TX.move rfl rfl (TO.u rfl rfl (TX.ibin rfl rfl rfl rfl (TO.nil (TE.thenN rfl rfl (TC.cond rfl (fun hb3 => ?_) (fun hb3 => ?_))))))))))))))))
 · replace h := it h hb3
   refine TC.seq (TC.region (TO.u rfl rfl (TX.fieldAddr' Try.runUnderlying27 rfl Try.sizeOf5 rfl rfl rfl (TO.u rfl rfl (TX.load1 (i := 0) Try.isAgg5 rfl rfl rfl rfl (TO.u rfl rfl (TX.ibin rfl rfl rfl rfl (TO.u rfl rfl (TX.move rfl rfl (TO.cutS 4 [(15, .bool ((p0.fSrc == 0) && (p0.fOff == 0)))] ?_ ?_))))))))))
   · cases hc4 : (p0.fSrc == 0)
     · exact TO.s rfl rfl rfl rfl rfl rfl (TO.s rfl rfl rfl rfl rfl rfl (TO.s rfl rfl rfl rfl rfl rfl (TO.u rfl rfl (TX.pickF rfl rfl rfl (TO.nil (TE.cutS 4 rfl rfl ⟨rfl, trivial⟩))))))
     exact TO.g rfl rfl rfl rfl (TX.fieldAddr' Try.runUnderlying27 rfl Try.sizeOf25 rfl rfl rfl (TO.g rfl rfl rfl rfl (TX.load1 (i := 0) Try.isAgg25 rfl rfl rfl rfl (TO.g rfl rfl rfl rfl (TX.ibin rfl rfl rfl rfl (TO.u rfl rfl (TX.pickT rfl rfl rfl (TO.nil (TE.cutS 4 rfl rfl ⟨rfl, trivial⟩)))))))))
   refine TO.u rfl rfl (TX.move rfl rfl (TO.cutS 14 [(30, .bool (((p0.fSrc == 0) && (p0.fOff == 0)) && ((p0.fImm == 16) || ((p0.fImm == 32) || (p0.fImm == 64)))))] ?_ ?_))
   · cases hc5 : ((p0.fSrc == 0) && (p0.fOff == 0))
     · exact TO.s rfl rfl rfl rfl rfl rfl (TO.s rfl rfl rfl rfl rfl rfl (TO.s rfl rfl rfl rfl rfl rfl (TO.s rfl rfl rfl rfl rfl rfl (TO.su rfl rfl rfl rfl rfl (TO.su rfl rfl rfl rfl rfl (TO.su rfl rfl rfl rfl rfl (TO.s rfl rfl rfl rfl rfl rfl (TO.s rfl rfl rfl rfl rfl rfl (TO.su rfl rfl rfl rfl rfl (TO.su rfl rfl rfl rfl rfl (TO.su rfl rfl rfl rfl rfl (TO.s rfl rfl rfl rfl rfl rfl (TO.u rfl rfl (TX.pickF rfl rfl rfl (TO.nil (TE.cutS 14 rfl rfl ⟨rfl, trivial⟩))))))))))))))))
     refine TO.g rfl rfl rfl rfl (TX.fieldAddr' Try.runUnderlying27 rfl Try.sizeOf21 rfl rfl rfl (TO.g rfl rfl rfl rfl (TX.load1 (i := 0) Try.isAgg21 rfl rfl rfl rfl (TO.g rfl rfl rfl rfl (TX.ibin rfl rfl rfl rfl (TO.g rfl rfl rfl rfl (TX.move rfl rfl ?_)))))))
     cases hc6 : (p0.fImm == 16)
     · refine TO.g rfl rfl rfl rfl (TX.fieldAddr' Try.runUnderlying27 rfl Try.sizeOf21 rfl rfl rfl (TO.g rfl rfl rfl rfl (TX.load1 (i := 0) Try.isAgg21 rfl rfl rfl rfl (TO.g rfl rfl rfl rfl (TX.ibin rfl rfl rfl rfl (TO.g rfl rfl rfl rfl (TX.pickF rfl rfl rfl (TO.g rfl rfl rfl rfl (TX.move rfl rfl ?_)))))))))
       cases hc7 : (p0.fImm == 32)
       · exact TO.g rfl rfl rfl rfl (TX.fieldAddr' Try.runUnderlying27 rfl Try.sizeOf21 rfl rfl rfl (TO.g rfl rfl rfl rfl (TX.load1 (i := 0) Try.isAgg21 rfl rfl rfl rfl (TO.g rfl rfl rfl rfl (TX.ibin rfl rfl rfl rfl (TO.g rfl rfl rfl rfl (TX.pickF rfl rfl rfl (TO.u rfl rfl (TX.pickT rfl rfl rfl (TO.nil (TE.cutS 14 rfl rfl ⟨rfl, trivial⟩)))))))))))
       exact TO.s rfl rfl rfl rfl rfl rfl (TO.s rfl rfl rfl rfl rfl rfl (TO.s rfl rfl rfl rfl rfl rfl (TO.g rfl rfl rfl rfl (TX.pickT rfl rfl rfl (TO.u rfl rfl (TX.pickT rfl rfl rfl (TO.nil (TE.cutS 14 rfl rfl ⟨rfl, trivial⟩))))))))
     exact TO.s rfl rfl rfl rfl rfl rfl (TO.s rfl rfl rfl rfl rfl rfl (TO.s rfl rfl rfl rfl rfl rfl (TO.g rfl rfl rfl rfl (TX.pickT rfl rfl rfl (TO.g rfl rfl rfl rfl (TX.move rfl rfl (TO.s rfl rfl rfl rfl rfl rfl (TO.s rfl rfl rfl rfl rfl rfl (TO.s rfl rfl rfl rfl rfl rfl (TO.g rfl rfl rfl rfl (TX.pickT rfl rfl rfl (TO.u rfl rfl (TX.pickT rfl rfl rfl (TO.nil (TE.cutS 14 rfl rfl ⟨rfl, trivial⟩)))))))))))))))
   exact TO.u rfl rfl (TX.assign rfl rfl (TO.nil (TE.thenN rfl rfl (TC.ret (TE.thenR (TE.fin (R := ⟨[], []⟩) (TL.ret (R' := ⟨[], []⟩) Try.results88 (.cons (.tmp rfl) .nil) (subD 1 0 rfl rfl) ⟨congrArg ret88 h, rfl⟩)))))))
 replace h := ie h hb3
 refine TC.skip (TE.thenN rfl rfl (TC.seq (TC.seq (TC.region (TO.u rfl rfl (TX.loadN (i := 0) Try.isAgg27 Try.sizeOf27 rfl rfl rfl rfl ?_))))))
 obtain ⟨v8, hv8, h⟩ := bp h
 refine TO.u rfl rfl (TX.callP Try.call86 rfl (fun a w s => c86 p0 _ _  hv8) rfl (TO.u rfl rfl (TX.move rfl rfl (TO.cutS 4 [(37, .bool (v8 && (p0.fImm != 0)))] ?_ ?_))))
 · cases hc9 : (v8)
   · exact TO.s rfl rfl rfl rfl rfl rfl (TO.s rfl rfl rfl rfl rfl rfl (TO.s rfl rfl rfl rfl rfl rfl (TO.u rfl rfl (TX.pickF rfl rfl rfl (TO.nil (TE.cutS 4 rfl rfl ⟨rfl, trivial⟩))))))
   exact TO.g rfl rfl rfl rfl (TX.fieldAddr' Try.runUnderlying27 rfl Try.sizeOf21 rfl rfl rfl (TO.g rfl rfl rfl rfl (TX.load1 (i := 0) Try.isAgg21 rfl rfl rfl rfl (TO.g rfl rfl rfl rfl (TX.ibin rfl rfl rfl rfl (TO.u rfl rfl (TX.pickT rfl rfl rfl (TO.nil (TE.cutS 4 rfl rfl ⟨rfl, trivial⟩)))))))))
 refine TO.u rfl rfl (TX.move rfl rfl ?_)
 obtain ⟨v10, hv10, h⟩ := bp h
 refine TO.cutS 9 [(47, .bool ((v8 && (p0.fImm != 0)) || ((!v10) && (p0.fSrc != 0))))] ?_ ?_
 · cases hc11 : (v8 && (p0.fImm != 0))
   · refine TO.g rfl rfl rfl rfl (TX.loadN (i := 0) Try.isAgg27 Try.sizeOf27 rfl rfl rfl rfl (TO.g rfl rfl rfl rfl (TX.callP Try.call86 rfl (fun a w s => c86 p0 _ _  hv10) rfl (TO.g rfl rfl rfl rfl (TX.not rfl rfl (TO.g rfl rfl rfl rfl (TX.move rfl rfl ?_)))))))
     cases hc12 : (!v10)
     · exact TO.s rfl rfl rfl rfl rfl rfl (TO.s rfl rfl rfl rfl rfl rfl (TO.s rfl rfl rfl rfl rfl rfl (TO.g rfl rfl rfl rfl (TX.pickF rfl rfl rfl (TO.u rfl rfl (TX.pickF rfl rfl rfl (TO.nil (TE.cutS 9 rfl rfl ⟨rfl, trivial⟩))))))))
     exact TO.g rfl rfl rfl rfl (TX.fieldAddr' Try.runUnderlying27 rfl Try.sizeOf5 rfl rfl rfl (TO.g rfl rfl rfl rfl (TX.load1 (i := 0) Try.isAgg5 rfl rfl rfl rfl (TO.g rfl rfl rfl rfl (TX.ibin rfl rfl rfl rfl (TO.g rfl rfl rfl rfl (TX.pickT rfl rfl rfl (TO.u rfl rfl (TX.pickF rfl rfl rfl (TO.nil (TE.cutS 9 rfl rfl ⟨rfl, trivial⟩)))))))))))
   exact TO.s rfl rfl rfl rfl rfl rfl (TO.s rfl rfl rfl rfl rfl rfl (TO.s rfl rfl rfl rfl rfl rfl (TO.s rfl rfl rfl rfl rfl rfl (TO.su rfl rfl rfl rfl rfl (TO.su rfl rfl rfl rfl rfl (TO.su rfl rfl rfl rfl rfl (TO.s rfl rfl rfl rfl rfl rfl (TO.u rfl rfl (TX.pickT rfl rfl rfl (TO.nil (TE.cutS 9 rfl rfl ⟨rfl, trivial⟩)))))))))))
 refine TO.u rfl rfl (TX.move rfl rfl (TO.cutS 8 [(56, .bool (((v8 && (p0.fImm != 0)) || ((!v10) && (p0.fSrc != 0))) || ((v2 == 128) && (p0.fImm != 0))))] ?_ ?_))
 · cases hc13 : ((v8 && (p0.fImm != 0)) || ((!v10) && (p0.fSrc != 0)))
   · refine TO.g rfl rfl rfl rfl (TX.move rfl rfl (TO.g rfl rfl rfl rfl (TX.ibin rfl rfl rfl rfl (TO.g rfl rfl rfl rfl (TX.move rfl rfl ?_)))))
     cases hc14 : (v2 == 128)
     · exact TO.s rfl rfl rfl rfl rfl rfl (TO.s rfl rfl rfl rfl rfl rfl (TO.s rfl rfl rfl rfl rfl rfl (TO.g rfl rfl rfl rfl (TX.pickF rfl rfl rfl (TO.u rfl rfl (TX.pickF rfl rfl rfl (TO.nil (TE.cutS 8 rfl rfl ⟨rfl, trivial⟩))))))))
     exact TO.g rfl rfl rfl rfl (TX.fieldAddr' Try.runUnderlying27 rfl Try.sizeOf21 rfl rfl rfl (TO.g rfl rfl rfl rfl (TX.load1 (i := 0) Try.isAgg21 rfl rfl rfl rfl (TO.g rfl rfl rfl rfl (TX.ibin rfl rfl rfl rfl (TO.g rfl rfl rfl rfl (TX.pickT rfl rfl rfl (TO.u rfl rfl (TX.pickF rfl rfl rfl (TO.nil (TE.cutS 8 rfl rfl ⟨rfl, trivial⟩)))))))))))
   exact TO.s rfl rfl rfl rfl rfl rfl (TO.s rfl rfl rfl rfl rfl rfl (TO.s rfl rfl rfl rfl rfl rfl (TO.su rfl rfl rfl rfl rfl (TO.su rfl rfl rfl rfl rfl (TO.su rfl rfl rfl rfl rfl (TO.s rfl rfl rfl rfl rfl rfl (TO.u rfl rfl (TX.pickT rfl rfl rfl (TO.nil (TE.cutS 8 rfl rfl ⟨rfl, trivial⟩))))))))))
 refine TO.nil (TE.thenN rfl rfl (TC.cond rfl (fun hb15 => ?_) (fun hb15 => ?_)))
 · replace h := it h hb15
   exact TC.seq (TC.region (TO.u rfl rfl (TX.assign rfl rfl (TO.nil (TE.thenN rfl rfl (TC.ret (TE.thenR (TE.fin (R := ⟨[], []⟩) (TL.ret (R' := ⟨[], []⟩) Try.results88 (.cons (.tmp rfl) .nil) (subD 1 0 rfl rfl) ⟨congrArg ret88 h, rfl⟩)))))))))
 replace h := ie h hb15
 refine TC.skip (TE.thenN rfl rfl (TC.seq (TC.seq (TC.region (TO.u rfl rfl (TX.move rfl rfl (TO.nil (TE.thenN rfl rfl (TC.block (TC.seq (TC.seq (TC.region (TO.u rfl rfl (TX.ibin rfl rfl rfl rfl (TO.u rfl rfl (TX.assign rfl rfl (TO.nil (TE.thenN rfl rfl (TC.cond rfl (fun hb16 => ?_) (fun hb16 => ?_))))))))))))))))))))
 · replace h := it h hb16
   refine TC.skip (TE.thenN rfl rfl (TC.condT' rfl hb16 (TC.seq (TC.region (TO.u rfl rfl (TX.fieldAddr' Try.runUnderlying27 rfl Try.sizeOf25 rfl rfl rfl (TO.u rfl rfl (TX.load1 (i := 0) Try.isAgg25 rfl rfl rfl rfl (TO.u rfl rfl (TX.ibin rfl rfl rfl rfl (TO.u rfl rfl (TX.move rfl rfl (TO.cutS 4 [(68, .bool ((p0.fOff == 0) || (p0.fOff == 1)))] ?_ ?_)))))))))))))
   · cases hc17 : (p0.fOff == 0)
     · exact TO.g rfl rfl rfl rfl (TX.fieldAddr' Try.runUnderlying27 rfl Try.sizeOf25 rfl rfl rfl (TO.g rfl rfl rfl rfl (TX.load1 (i := 0) Try.isAgg25 rfl rfl rfl rfl (TO.g rfl rfl rfl rfl (TX.ibin rfl rfl rfl rfl (TO.u rfl rfl (TX.pickF rfl rfl rfl (TO.nil (TE.cutS 4 rfl rfl ⟨rfl, trivial⟩)))))))))
     exact TO.s rfl rfl rfl rfl rfl rfl (TO.s rfl rfl rfl rfl rfl rfl (TO.s rfl rfl rfl rfl rfl rfl (TO.u rfl rfl (TX.pickT rfl rfl rfl (TO.nil (TE.cutS 4 rfl rfl ⟨rfl, trivial⟩))))))
   exact TO.u rfl rfl (TX.assign rfl rfl (TO.nil (TE.thenN rfl rfl (TC.ret (TE.blockR (TE.thenR (TE.fin (R := ⟨[], []⟩) (TL.ret (R' := ⟨[], []⟩) Try.results88 (.cons (.tmp rfl) .nil) (subD 1 0 rfl rfl) ⟨congrArg ret88 h, rfl⟩))))))))
 replace h := ie h hb16
 refine TC.region (TO.u rfl rfl (TX.ibin rfl rfl rfl rfl (TO.u rfl rfl (TX.assign rfl rfl (TO.nil (TE.thenN rfl rfl (TC.cond rfl (fun hb18 => ?_) (fun hb18 => ?_))))))))
 · replace h := it h hb18
   refine TC.seq (TC.region (TO.u rfl rfl (TX.fieldAddr' Try.runUnderlying27 rfl Try.sizeOf25 rfl rfl rfl (TO.u rfl rfl (TX.load1 (i := 0) Try.isAgg25 rfl rfl rfl rfl (TO.u rfl rfl (TX.ibin rfl rfl rfl rfl (TO.u rfl rfl (TX.move rfl rfl (TO.cutS 4 [(68, .bool ((p0.fOff == 0) || (p0.fOff == 1)))] ?_ ?_))))))))))
   · cases hc19 : (p0.fOff == 0)
     · exact TO.g rfl rfl rfl rfl (TX.fieldAddr' Try.runUnderlying27 rfl Try.sizeOf25 rfl rfl rfl (TO.g rfl rfl rfl rfl (TX.load1 (i := 0) Try.isAgg25 rfl rfl rfl rfl (TO.g rfl rfl rfl rfl (TX.ibin rfl rfl rfl rfl (TO.u rfl rfl (TX.pickF rfl rfl rfl (TO.nil (TE.cutS 4 rfl rfl ⟨rfl, trivial⟩)))))))))
     exact TO.s rfl rfl rfl rfl rfl rfl (TO.s rfl rfl rfl rfl rfl rfl (TO.s rfl rfl rfl rfl rfl rfl (TO.u rfl rfl (TX.pickT rfl rfl rfl (TO.nil (TE.cutS 4 rfl rfl ⟨rfl, trivial⟩))))))
   exact TO.u rfl rfl (TX.assign rfl rfl (TO.nil (TE.thenN rfl rfl (TC.ret (TE.blockR (TE.thenR (TE.fin (R := ⟨[], []⟩) (TL.ret (R' := ⟨[], []⟩) Try.results88 (.cons (.tmp rfl) .nil) (subD 1 0 rfl rfl) ⟨congrArg ret88 h, rfl⟩))))))))
 replace h := ie h hb18
 refine TC.seq (TC.region (TO.u rfl rfl (TX.ibin rfl rfl rfl rfl (TO.u rfl rfl (TX.assign rfl rfl (TO.nil (TE.thenN rfl rfl (TC.cond rfl (fun hb20 => ?_) (fun hb20 => ?_)))))))))
 · replace h := it h hb20
   refine TC.seq (TC.region (TO.u rfl rfl (TX.fieldAddr' Try.runUnderlying27 rfl Try.sizeOf25 rfl rfl rfl (TO.u rfl rfl (TX.load1 (i := 0) Try.isAgg25 rfl rfl rfl rfl (TO.u rfl rfl (TX.ibin rfl rfl rfl rfl (TO.u rfl rfl (TX.move rfl rfl ?_)))))))))
   obtain ⟨v21, hv21, h⟩ := bp h
   obtain ⟨v22, hv22, h⟩ := bp h
   refine TO.cutS 23 [(97, .bool ((p0.fOff == 0) || (v21 && ((p0.fOff == 8) || ((p0.fOff == 16) || ((p0.fOff == 32) && (v22 == 7)))))))] ?_ ?_
   · cases hc23 : (p0.fOff == 0)
     · refine TO.g rfl rfl rfl rfl (TX.loadN (i := 0) Try.isAgg27 Try.sizeOf27 rfl rfl rfl rfl (TO.g rfl rfl rfl rfl (TX.callP Try.call86 rfl (fun a w s => c86 p0 _ _  hv21) rfl (TO.g rfl rfl rfl rfl (TX.move rfl rfl ?_)))))
       cases hc24 : (v21)
       · exact TO.s rfl rfl rfl rfl rfl rfl (TO.s rfl rfl rfl rfl rfl rfl (TO.s rfl rfl rfl rfl rfl rfl (TO.s rfl rfl rfl rfl rfl rfl (TO.su rfl rfl rfl rfl rfl (TO.su rfl rfl rfl rfl rfl (TO.su rfl rfl rfl rfl rfl (TO.s rfl rfl rfl rfl rfl rfl (TO.s rfl rfl rfl rfl rfl rfl (TO.su rfl rfl rfl rfl rfl (TO.su rfl rfl rfl rfl rfl (TO.su rfl rfl rfl rfl rfl (TO.su rfl rfl rfl rfl rfl (TO.su rfl rfl rfl rfl rfl (TO.su rfl rfl rfl rfl rfl (TO.su rfl rfl rfl rfl rfl (TO.su rfl rfl rfl rfl rfl (TO.s rfl rfl rfl rfl rfl rfl (TO.g rfl rfl rfl rfl (TX.pickF rfl rfl rfl (TO.u rfl rfl (TX.pickF rfl rfl rfl (TO.nil (TE.cutS 23 rfl rfl ⟨rfl, trivial⟩)))))))))))))))))))))))
       refine TO.g rfl rfl rfl rfl (TX.fieldAddr' Try.runUnderlying27 rfl Try.sizeOf25 rfl rfl rfl (TO.g rfl rfl rfl rfl (TX.load1 (i := 0) Try.isAgg25 rfl rfl rfl rfl (TO.g rfl rfl rfl rfl (TX.ibin rfl rfl rfl rfl (TO.g rfl rfl rfl rfl (TX.move rfl rfl ?_)))))))
       cases hc25 : (p0.fOff == 8)
       · refine TO.g rfl rfl rfl rfl (TX.fieldAddr' Try.runUnderlying27 rfl Try.sizeOf25 rfl rfl rfl (TO.g rfl rfl rfl rfl (TX.load1 (i := 0) Try.isAgg25 rfl rfl rfl rfl (TO.g rfl rfl rfl rfl (TX.ibin rfl rfl rfl rfl (TO.g rfl rfl rfl rfl (TX.pickF rfl rfl rfl (TO.g rfl rfl rfl rfl (TX.move rfl rfl ?_)))))))))
         cases hc26 : (p0.fOff == 16)
         · refine TO.g rfl rfl rfl rfl (TX.fieldAddr' Try.runUnderlying27 rfl Try.sizeOf25 rfl rfl rfl (TO.g rfl rfl rfl rfl (TX.load1 (i := 0) Try.isAgg25 rfl rfl rfl rfl (TO.g rfl rfl rfl rfl (TX.ibin rfl rfl rfl rfl (TO.g rfl rfl rfl rfl (TX.move rfl rfl ?_)))))))
           cases hc27 : (p0.fOff == 32)
           · exact TO.s rfl rfl rfl rfl rfl rfl (TO.s rfl rfl rfl rfl rfl rfl (TO.s rfl rfl rfl rfl rfl rfl (TO.g rfl rfl rfl rfl (TX.pickF rfl rfl rfl (TO.g rfl rfl rfl rfl (TX.pickF rfl rfl rfl (TO.g rfl rfl rfl rfl (TX.pickT rfl rfl rfl (TO.u rfl rfl (TX.pickF rfl rfl rfl (TO.nil (TE.cutS 23 rfl rfl ⟨rfl, trivial⟩))))))))))))
           exact TO.g rfl rfl rfl rfl (TX.loadN (i := 0) Try.isAgg27 Try.sizeOf27 rfl rfl rfl rfl (TO.g rfl rfl rfl rfl (TX.callP Try.call54 rfl (fun a w s => c54 p0 _ _  hv22) rfl (TO.g rfl rfl rfl rfl (TX.ibin rfl rfl rfl rfl (TO.g rfl rfl rfl rfl (TX.pickT rfl rfl rfl (TO.g rfl rfl rfl rfl (TX.pickF rfl rfl rfl (TO.g rfl rfl rfl rfl (TX.pickT rfl rfl rfl (TO.u rfl rfl (TX.pickF rfl rfl rfl (TO.nil (TE.cutS 23 rfl rfl ⟨rfl, trivial⟩)))))))))))))))
         exact TO.s rfl rfl rfl rfl rfl rfl (TO.s rfl rfl rfl rfl rfl rfl (TO.s rfl rfl rfl rfl rfl rfl (TO.s rfl rfl rfl rfl rfl rfl (TO.su rfl rfl rfl rfl rfl (TO.su rfl rfl rfl rfl rfl (TO.su rfl rfl rfl rfl rfl (TO.s rfl rfl rfl rfl rfl rfl (TO.g rfl rfl rfl rfl (TX.pickT rfl rfl rfl (TO.g rfl rfl rfl rfl (TX.pickT rfl rfl rfl (TO.u rfl rfl (TX.pickF rfl rfl rfl (TO.nil (TE.cutS 23 rfl rfl ⟨rfl, trivial⟩)))))))))))))))
       exact TO.s rfl rfl rfl rfl rfl rfl (TO.s rfl rfl rfl rfl rfl rfl (TO.s rfl rfl rfl rfl rfl rfl (TO.g rfl rfl rfl rfl (TX.pickT rfl rfl rfl (TO.g rfl rfl rfl rfl (TX.move rfl rfl (TO.s rfl rfl rfl rfl rfl rfl (TO.s rfl rfl rfl rfl rfl rfl (TO.s rfl rfl rfl rfl rfl rfl (TO.s rfl rfl rfl rfl rfl rfl (TO.su rfl rfl rfl rfl rfl (TO.su rfl rfl rfl rfl rfl (TO.su rfl rfl rfl rfl rfl (TO.s rfl rfl rfl rfl rfl rfl (TO.g rfl rfl rfl rfl (TX.pickT rfl rfl rfl (TO.g rfl rfl rfl rfl (TX.pickT rfl rfl rfl (TO.u rfl rfl (TX.pickF rfl rfl rfl (TO.nil (TE.cutS 23 rfl rfl ⟨rfl, trivial⟩))))))))))))))))))))))
     exact TO.s rfl rfl rfl rfl rfl rfl (TO.s rfl rfl rfl rfl rfl rfl (TO.s rfl rfl rfl rfl rfl rfl (TO.su rfl rfl rfl rfl rfl (TO.su rfl rfl rfl rfl rfl (TO.su rfl rfl rfl rfl rfl (TO.su rfl rfl rfl rfl rfl (TO.su rfl rfl rfl rfl rfl (TO.su rfl rfl rfl rfl rfl (TO.su rfl rfl rfl rfl rfl (TO.su rfl rfl rfl rfl rfl (TO.su rfl rfl rfl rfl rfl (TO.su rfl rfl rfl rfl rfl (TO.su rfl rfl rfl rfl rfl (TO.su rfl rfl rfl rfl rfl (TO.su rfl rfl rfl rfl rfl (TO.su rfl rfl rfl rfl rfl (TO.su rfl rfl rfl rfl rfl (TO.su rfl rfl rfl rfl rfl (TO.su rfl rfl rfl rfl rfl (TO.su rfl rfl rfl rfl rfl (TO.s rfl rfl rfl rfl rfl rfl (TO.u rfl rfl (TX.pickT rfl rfl rfl (TO.nil (TE.cutS 23 rfl rfl ⟨rfl, trivial⟩)))))))))))))))))))))))))
   exact TO.u rfl rfl (TX.assign rfl rfl (TO.nil (TE.thenN rfl rfl (TC.ret (TE.blockR (TE.thenR (TE.fin (R := ⟨[], []⟩) (TL.ret (R' := ⟨[], []⟩) Try.results88 (.cons (.tmp rfl) .nil) (subD 1 0 rfl rfl) ⟨congrArg ret88 h, rfl⟩))))))))
 replace h := ie h hb20
 exact TC.skip (TE.blockN (TE.thenN rfl rfl (TC.seq (TC.region (TO.u rfl rfl (TX.fieldAddr' Try.runUnderlying27 rfl Try.sizeOf25 rfl rfl rfl (TO.u rfl rfl (TX.load1 (i := 0) Try.isAgg25 rfl rfl rfl rfl (TO.u rfl rfl (TX.ibin rfl rfl rfl rfl (TO.u rfl rfl (TX.assign rfl rfl (TO.nil (TE.thenN rfl rfl (TC.ret (TE.fin (R := ⟨[], []⟩) (TL.ret (R' := ⟨[], []⟩) Try.results88 (.cons (.tmp rfl) .nil) (subD 1 0 rfl rfl) ⟨congrArg ret88 h, rfl⟩)))))))))))))))))
/-- hatchway/hatchwayref03.jump -/
def fn89 (p0 : Instr) : Bool :=
  (bindP (fn55 p0) fun v2 => (bindP (fn87 v2) fun v3 => (bif v3 then (bindP (fn86 p0) fun v5 => (bindP (fn86 p0) fun v7 => ((v5 && (p0.fImm == 0)) || ((!v7) && (p0.fSrc == 0))))) else (bif (p0.fDst != 0) || (p0.fSrc != 0) then false else (bindP (fn54 p0) fun v12 => (bif (v2 == 0) && (v12 == 5) then (p0.fImm == 0) else (bif v2 == 0 then (p0.fOff == 0) else (bif v2 == 128 then ((p0.fOff == 0) && (decide ((1 : Int) ≤ p0.fImm))) else ((p0.fOff == 0) && (p0.fImm == 0))))))))))
def ret89 (r : Bool) : Value := .bool r
theorem c89 (p0 : Instr) (w : World) (r : Bool)  (h : fn89 p0 = r) : Ret Try.prog 89 [.agg #[.int .u8 p0.fOp, .int .u8 p0.fDst, .int .u8 p0.fSrc, .int .i16 p0.fOff, .int .i32 p0.fImm]] w ⟨[], []⟩ (fun v R => v = ret89 r ∧ R = ⟨[], []⟩) := by
 unfold fn89 at h
 refine Ret.of_body Try.func89 rfl Try.ntmps89 rfl (fun _ hx => absurd hx List.not_mem_nil) List.nodup_nil (TC.seq (TC.region (TO.u rfl rfl (TX.box rfl rfl rfl (fun b1 => (TO.u rfl rfl (TX.assign rfl rfl (TO.nil (TE.thenN rfl rfl (TC.seq (TC.region (TO.u rfl rfl (TX.loadN (i := 0) Try.isAgg27 Try.sizeOf27 rfl rfl rfl rfl ?_)))))))))))))
 obtain ⟨v2, hv2, h⟩ := bp h
 refine TO.u rfl rfl (TX.callP Try.call55 rfl (fun a w s => c55 p0 _ _  hv2) rfl (TO.u rfl rfl (TX.assign rfl rfl (TO.nil (TE.thenN rfl rfl (TC.seq (TC.seq (TC.region (TO.u rfl rfl (TX.move rfl rfl ?_))))))))))
 obtain ⟨v3, hv3, h⟩ := bp h
 refine TO.u rfl rfl (TX.callP Try.call87 rfl (fun a w s => c87 v2 _ _  hv3) rfl (TO.nil (TE.thenN rfl rfl (TC.cond rfl (fun hb4 => ?_) (fun hb4 => ?_)))))
 · replace h := it h hb4
   refine TC.seq (TC.region (TO.u rfl rfl (TX.loadN (i := 0) Try.isAgg27 Try.sizeOf27 rfl rfl rfl rfl ?_)))
   obtain ⟨v5, hv5, h⟩ := bp h
   refine TO.u rfl rfl (TX.callP Try.call86 rfl (fun a w s => c86 p0 _ _  hv5) rfl (TO.u rfl rfl (TX.move rfl rfl (TO.cutS 4 [(14, .bool (v5 && (p0.fImm == 0)))] ?_ ?_))))
   · cases hc6 : (v5)
     · exact TO.s rfl rfl rfl rfl rfl rfl (TO.s rfl rfl rfl rfl rfl rfl (TO.s rfl rfl rfl rfl rfl rfl (TO.u rfl rfl (TX.pickF rfl rfl rfl (TO.nil (TE.cutS 4 rfl rfl ⟨rfl, trivial⟩))))))
     exact TO.g rfl rfl rfl rfl (TX.fieldAddr' Try.runUnderlying27 rfl Try.sizeOf21 rfl rfl rfl (TO.g rfl rfl rfl rfl (TX.load1 (i := 0) Try.isAgg21 rfl rfl rfl rfl (TO.g rfl rfl rfl rfl (TX.ibin rfl rfl rfl rfl (TO.u rfl rfl (TX.pickT rfl rfl rfl (TO.nil (TE.cutS 4 rfl rfl ⟨rfl, trivial⟩)))))))))
   refine TO.u rfl rfl (TX.move rfl rfl ?_)
   obtain ⟨v7, hv7, h⟩ := bp h
   refine TO.cutS 9 [(24, .bool ((v5 && (p0.fImm == 0)) || ((!v7) && (p0.fSrc == 0))))] ?_ ?_
   · cases hc8 : (v5 && (p0.fImm == 0))
     · refine TO.g rfl rfl rfl rfl (TX.loadN (i := 0) Try.isAgg27 Try.sizeOf27 rfl rfl rfl rfl (TO.g rfl rfl rfl rfl (TX.callP Try.call86 rfl (fun a w s => c86 p0 _ _  hv7) rfl (TO.g rfl rfl rfl rfl (TX.not rfl rfl (TO.g rfl rfl rfl rfl (TX.move rfl rfl ?_)))))))
       cases hc9 : (!v7)
       · exact TO.s rfl rfl rfl rfl rfl rfl (TO.s rfl rfl rfl rfl rfl rfl (TO.s rfl rfl rfl rfl rfl rfl (TO.g rfl rfl rfl rfl (TX.pickF rfl rfl rfl (TO.u rfl rfl (TX.pickF rfl rfl rfl (TO.nil (TE.cutS 9 rfl rfl ⟨rfl, trivial⟩))))))))
       exact TO.g rfl rfl rfl rfl (TX.fieldAddr' Try.runUnderlying27 rfl Try.sizeOf5 rfl rfl rfl (TO.g rfl rfl rfl rfl (TX.load1 (i := 0) Try.isAgg5 rfl rfl rfl rfl (TO.g rfl rfl rfl rfl (TX.ibin rfl rfl rfl rfl (TO.g rfl rfl rfl rfl (TX.pickT rfl rfl rfl (TO.u rfl rfl (TX.pickF rfl rfl rfl (TO.nil (TE.cutS 9 rfl rfl ⟨rfl, trivial⟩)))))))))))
     exact TO.s rfl rfl rfl rfl rfl rfl (TO.s rfl rfl rfl rfl rfl rfl (TO.s rfl rfl rfl rfl rfl rfl (TO.s rfl rfl rfl rfl rfl rfl (TO.su rfl rfl rfl rfl rfl (TO.su rfl rfl rfl rfl rfl (TO.su rfl rfl rfl rfl rfl (TO.s rfl rfl rfl rfl rfl rfl (TO.u rfl rfl (TX.pickT rfl rfl rfl (TO.nil (TE.cutS 9 rfl rfl ⟨rfl, trivial⟩)))))))))))
   exact TO.u rfl rfl (TX.assign rfl rfl (TO.nil (TE.thenN rfl rfl (TC.ret (TE.thenR (TE.fin (R := ⟨[], []⟩) (TL.ret (R' := ⟨[], []⟩) Try.results89 (.cons (.tmp rfl) .nil) (subD 1 0 rfl rfl) ⟨congrArg ret89 h, rfl⟩)))))))
 replace h := ie h hb4
 refine TC.skip (TE.thenN rfl rfl (TC.seq (TC.seq (TC.region (TO.u rfl rfl (TX.fieldAddr' Try.runUnderlying27 rfl Try.sizeOf5 rfl rfl rfl (TO.u rfl rfl (TX.load1 (i := 0) Try.isAgg5 rfl rfl rfl rfl (TO.u rfl rfl (TX.ibin rfl rfl rfl rfl (TO.u rfl rfl (TX.move rfl rfl (TO.cutS 4 [(32, .bool ((p0.fDst != 0) || (p0.fSrc != 0)))] ?_ ?_)))))))))))))
 · cases hc10 : (p0.fDst != 0)
   · exact TO.g rfl rfl rfl rfl (TX.fieldAddr' Try.runUnderlying27 rfl Try.sizeOf5 rfl rfl rfl (TO.g rfl rfl rfl rfl (TX.load1 (i := 0) Try.isAgg5 rfl rfl rfl rfl (TO.g rfl rfl rfl rfl (TX.ibin rfl rfl rfl rfl (TO.u rfl rfl (TX.pickF rfl rfl rfl (TO.nil (TE.cutS 4 rfl rfl ⟨rfl, trivial⟩)))))))))
   exact TO.s rfl rfl rfl rfl rfl rfl (TO.s rfl rfl rfl rfl rfl rfl (TO.s rfl rfl rfl rfl rfl rfl (TO.u rfl rfl (TX.pickT rfl rfl rfl (TO.nil (TE.cutS 4 rfl rfl ⟨rfl, trivial⟩))))))
 refine TO.nil (TE.thenN rfl rfl (TC.cond rfl (fun hb11 => ?_) (fun hb11 => ?_)))
 · replace h := it h hb11
   exact TC.seq (TC.region (TO.u rfl rfl (TX.assign rfl rfl (TO.nil (TE.thenN rfl rfl (TC.ret (TE.thenR (TE.fin (R := ⟨[], []⟩) (TL.ret (R' := ⟨[], []⟩) Try.results89 (.cons (.tmp rfl) .nil) (subD 1 0 rfl rfl) ⟨congrArg ret89 h, rfl⟩)))))))))
 replace h := ie h hb11
 refine TC.skip (TE.thenN rfl rfl (TC.seq (TC.block (TC.seq (TC.region (TO.u rfl rfl (TX.move rfl rfl (TO.u rfl rfl (TX.ibin rfl rfl rfl rfl (TO.u rfl rfl (TX.move rfl rfl ?_)))))))))))
 obtain ⟨v12, hv12, h⟩ := bp h
 refine TO.cutS 4 [(40, .bool ((v2 == 0) && (v12 == 5)))] ?_ ?_
 · cases hc13 : (v2 == 0)
   · exact TO.s rfl rfl rfl rfl rfl rfl (TO.s rfl rfl rfl rfl rfl rfl (TO.s rfl rfl rfl rfl rfl rfl (TO.u rfl rfl (TX.pickF rfl rfl rfl (TO.nil (TE.cutS 4 rfl rfl ⟨rfl, trivial⟩))))))
   exact TO.g rfl rfl rfl rfl (TX.loadN (i := 0) Try.isAgg27 Try.sizeOf27 rfl rfl rfl rfl (TO.g rfl rfl rfl rfl (TX.callP Try.call54 rfl (fun a w s => c54 p0 _ _  hv12) rfl (TO.g rfl rfl rfl rfl (TX.ibin rfl rfl rfl rfl (TO.u rfl rfl (TX.pickT rfl rfl rfl (TO.nil (TE.cutS 4 rfl rfl ⟨rfl, trivial⟩)))))))))
 refine TO.u rfl rfl (TX.assign rfl rfl (TO.nil (TE.thenN rfl rfl (TC.cond rfl (fun hb14 => ?_) (fun hb14 => ?_)))))
 · replace h := it h hb14
   exact TC.seq (TC.region (TO.u rfl rfl (TX.fieldAddr' Try.runUnderlying27 rfl Try.sizeOf21 rfl rfl rfl (TO.u rfl rfl (TX.load1 (i := 0) Try.isAgg21 rfl rfl rfl rfl (TO.u rfl rfl (TX.ibin rfl rfl rfl rfl (TO.u rfl rfl (TX.assign rfl rfl (TO.nil (TE.thenN rfl rfl (TC.ret (TE.blockR (TE.thenR (TE.fin (R := ⟨[], []⟩) (TL.ret (R' := ⟨[], []⟩) Try.results89 (.cons (.tmp rfl) .nil) (subD 1 0 rfl rfl) ⟨congrArg ret89 h, rfl⟩))))))))))))))))
 replace h := ie h hb14
 refine TC.seq (TC.region (TO.u rfl rfl (TX.move rfl rfl (TO.u rfl rfl (TX.ibin rfl rfl rfl rfl (TO.u rfl rfl (TX.assign rfl rfl (TO.nil (TE.thenN rfl rfl (TC.cond rfl (fun hb15 => ?_) (fun hb15 => ?_)))))))))))
 · replace h := it h hb15
   exact TC.seq (TC.region (TO.u rfl rfl (TX.fieldAddr' Try.runUnderlying27 rfl Try.sizeOf25 rfl rfl rfl (TO.u rfl rfl (TX.load1 (i := 0) Try.isAgg25 rfl rfl rfl rfl (TO.u rfl rfl (TX.ibin rfl rfl rfl rfl (TO.u rfl rfl (TX.assign rfl rfl (TO.nil (TE.thenN rfl rfl (TC.ret (TE.blockR (TE.thenR (TE.fin (R := ⟨[], []⟩) (TL.ret (R' := ⟨[], []⟩) Try.results89 (.cons (.tmp rfl) .nil) (subD 1 0 rfl rfl) ⟨congrArg ret89 h, rfl⟩))))))))))))))))
 replace h := ie h hb15
 refine TC.seq (TC.region (TO.u rfl rfl (TX.move rfl rfl (TO.u rfl rfl (TX.ibin rfl rfl rfl rfl (TO.u rfl rfl (TX.assign rfl rfl (TO.nil (TE.thenN rfl rfl (TC.cond rfl (fun hb16 => ?_) (fun hb16 => ?_)))))))))))
 · replace h := it h hb16
   refine TC.seq (TC.region (TO.u rfl rfl (TX.fieldAddr' Try.runUnderlying27 rfl Try.sizeOf25 rfl rfl rfl (TO.u rfl rfl (TX.load1 (i := 0) Try.isAgg25 rfl rfl rfl rfl (TO.u rfl rfl (TX.ibin rfl rfl rfl rfl (TO.u rfl rfl (TX.move rfl rfl (TO.cutS 4 [(60, .bool ((p0.fOff == 0) && (decide ((1 : Int) ≤ p0.fImm))))] ?_ ?_))))))))))
   · cases hc17 : (p0.fOff == 0)
     · exact TO.s rfl rfl rfl rfl rfl rfl (TO.s rfl rfl rfl rfl rfl rfl (TO.s rfl rfl rfl rfl rfl rfl (TO.u rfl rfl (TX.pickF rfl rfl rfl (TO.nil (TE.cutS 4 rfl rfl ⟨rfl, trivial⟩))))))
     exact TO.g rfl rfl rfl rfl (TX.fieldAddr' Try.runUnderlying27 rfl Try.sizeOf21 rfl rfl rfl (TO.g rfl rfl rfl rfl (TX.load1 (i := 0) Try.isAgg21 rfl rfl rfl rfl (TO.g rfl rfl rfl rfl (TX.ibin rfl rfl rfl rfl (TO.u rfl rfl (TX.pickT rfl rfl rfl (TO.nil (TE.cutS 4 rfl rfl ⟨rfl, trivial⟩)))))))))
   exact TO.u rfl rfl (TX.assign rfl rfl (TO.nil (TE.thenN rfl rfl (TC.ret (TE.blockR (TE.thenR (TE.fin (R := ⟨[], []⟩) (TL.ret (R' := ⟨[], []⟩) Try.results89 (.cons (.tmp rfl) .nil) (subD 1 0 rfl rfl) ⟨congrArg ret89 h, rfl⟩))))))))
 replace h := ie h hb16
 refine TC.skip (TE.blockN (TE.thenN rfl rfl (TC.seq (TC.region (TO.u rfl rfl (TX.fieldAddr' Try.runUnderlying27 rfl Try.sizeOf25 rfl rfl rfl (TO.u rfl rfl (TX.load1 (i := 0) Try.isAgg25 rfl rfl rfl rfl (TO.u rfl rfl (TX.ibin rfl rfl rfl rfl (TO.u rfl rfl (TX.move rfl rfl (TO.cutS 4 [(68, .bool ((p0.fOff == 0) && (p0.fImm == 0)))] ?_ ?_)))))))))))))
 · cases hc18 : (p0.fOff == 0)
   · exact TO.s rfl rfl rfl rfl rfl rfl (TO.s rfl rfl rfl rfl rfl rfl (TO.s rfl rfl rfl rfl rfl rfl (TO.u rfl rfl (TX.pickF rfl rfl rfl (TO.nil (TE.cutS 4 rfl rfl ⟨rfl, trivial⟩))))))
   exact TO.g rfl rfl rfl rfl (TX.fieldAddr' Try.runUnderlying27 rfl Try.sizeOf21 rfl rfl rfl (TO.g rfl rfl rfl rfl (TX.load1 (i := 0) Try.isAgg21 rfl rfl rfl rfl (TO.g rfl rfl rfl rfl (TX.ibin rfl rfl rfl rfl (TO.u rfl rfl (TX.pickT rfl rfl rfl (TO.nil (TE.cutS 4 rfl rfl ⟨rfl, trivial⟩)))))))))
 exact TO.u rfl rfl (TX.assign rfl rfl (TO.nil (TE.thenN rfl rfl (TC.ret (TE.fin (R := ⟨[], []⟩) (TL.ret (R' := ⟨[], []⟩) Try.results89 (.cons (.tmp rfl) .nil) (subD 1 0 rfl rfl) ⟨congrArg ret89 h, rfl⟩))))))
/-- hatchway/hatchwayref03.parts -/
def fn78 (p0 : Instr) : Bool :=
  (bindP (fn54 p0) fun v2 => (bif v2 == 0 then ((p0.fOff == 0) && ((p0.fSrc == 0) || ((p0.fSrc == 1) && (decide ((0 : Int) ≤ p0.fImm))))) else (bif v2 == 1 then (p0.fImm == 0) else (bif v2 == 3 then (p0.fImm == 0) else (bif v2 == 2 then (p0.fSrc == 0) else (bif v2 == 4 then (bindP (fn88 p0) fun v11 => v11) else (bif v2 == 7 then (bindP (fn88 p0) fun v13 => v13) else (bindP (fn89 p0) fun v14 => v14))))))))
def ret78 (r : Bool) : Value := .bool r
theorem c78 (p0 : Instr) (w : World) (r : Bool)  (h : fn78 p0 = r) : Ret Try.prog 78 [.agg #[.int .u8 p0.fOp, .int .u8 p0.fDst, .int .u8 p0.fSrc, .int .i16 p0.fOff, .int .i32 p0.fImm]] w ⟨[], []⟩ (fun v R => v = ret78 r ∧ R = ⟨[], []⟩) := by
 unfold fn78 at h
 refine Ret.of_body Try.func78 rfl Try.ntmps78 rfl (fun _ hx => absurd hx List.not_mem_nil) List.nodup_nil (TC.seq (TC.region (TO.u rfl rfl (TX.box rfl rfl rfl (fun b1 => (TO.u rfl rfl (TX.assign rfl rfl (TO.nil (TE.thenN rfl rfl (TC.seq (TC.seq (TC.region (TO.u rfl rfl (TX.loadN (i := 0) Try.isAgg27 Try.sizeOf27 rfl rfl rfl rfl ?_))))))))))))))
 obtain ⟨v2, hv2, h⟩ := bp h
 refine TO.u rfl rfl (TX.callP Try.call54 rfl (fun a w s => c54 p0 _ _  hv2) rfl (TO.nil (TE.thenN rfl rfl (TC.block (TC.seq (TC.region (TO.u rfl rfl (TX.ibin rfl rfl rfl rfl (TO.u rfl rfl (TX.assign rfl rfl (TO.nil (TE.thenN rfl rfl (TC.cond rfl (fun hb3 => ?_) (fun hb3 => ?_))))))))))))))
 · replace h := it h hb3
   refine TC.seq (TC.region (TO.u rfl rfl (TX.fieldAddr' Try.runUnderlying27 rfl Try.sizeOf25 rfl rfl rfl (TO.u rfl rfl (TX.load1 (i := 0) Try.isAgg25 rfl rfl rfl rfl (TO.u rfl rfl (TX.ibin rfl rfl rfl rfl (TO.u rfl rfl (TX.move rfl rfl (TO.cutS 14 [(24, .bool ((p0.fOff == 0) && ((p0.fSrc == 0) || ((p0.fSrc == 1) && (decide ((0 : Int) ≤ p0.fImm))))))] ?_ ?_))))))))))
   · cases hc4 : (p0.fOff == 0)
     · exact TO.s rfl rfl rfl rfl rfl rfl (TO.s rfl rfl rfl rfl rfl rfl (TO.s rfl rfl rfl rfl rfl rfl (TO.s rfl rfl rfl rfl rfl rfl (TO.su rfl rfl rfl rfl rfl (TO.su rfl rfl rfl rfl rfl (TO.su rfl rfl rfl rfl rfl (TO.su rfl rfl rfl rfl rfl (TO.su rfl rfl rfl rfl rfl (TO.su rfl rfl rfl rfl rfl (TO.su rfl rfl rfl rfl rfl (TO.su rfl rfl rfl rfl rfl (TO.s rfl rfl rfl rfl rfl rfl (TO.u rfl rfl (TX.pickF rfl rfl rfl (TO.nil (TE.cutS 14 rfl rfl ⟨rfl, trivial⟩))))))))))))))))
     refine TO.g rfl rfl rfl rfl (TX.fieldAddr' Try.runUnderlying27 rfl Try.sizeOf5 rfl rfl rfl (TO.g rfl rfl rfl rfl (TX.load1 (i := 0) Try.isAgg5 rfl rfl rfl rfl (TO.g rfl rfl rfl rfl (TX.ibin rfl rfl rfl rfl (TO.g rfl rfl rfl rfl (TX.move rfl rfl ?_)))))))
     cases hc5 : (p0.fSrc == 0)
     · refine TO.g rfl rfl rfl rfl (TX.fieldAddr' Try.runUnderlying27 rfl Try.sizeOf5 rfl rfl rfl (TO.g rfl rfl rfl rfl (TX.load1 (i := 0) Try.isAgg5 rfl rfl rfl rfl (TO.g rfl rfl rfl rfl (TX.ibin rfl rfl rfl rfl (TO.g rfl rfl rfl rfl (TX.move rfl rfl ?_)))))))
       cases hc6 : (p0.fSrc == 1)
       · exact TO.s rfl rfl rfl rfl rfl rfl (TO.s rfl rfl rfl rfl rfl rfl (TO.s rfl rfl rfl rfl rfl rfl (TO.g rfl rfl rfl rfl (TX.pickF rfl rfl rfl (TO.g rfl rfl rfl rfl (TX.pickF rfl rfl rfl (TO.u rfl rfl (TX.pickT rfl rfl rfl (TO.nil (TE.cutS 14 rfl rfl ⟨rfl, trivial⟩))))))))))
       exact TO.g rfl rfl rfl rfl (TX.fieldAddr' Try.runUnderlying27 rfl Try.sizeOf21 rfl rfl rfl (TO.g rfl rfl rfl rfl (TX.load1 (i := 0) Try.isAgg21 rfl rfl rfl rfl (TO.g rfl rfl rfl rfl (TX.ibin rfl rfl rfl rfl (TO.g rfl rfl rfl rfl (TX.pickT rfl rfl rfl (TO.g rfl rfl rfl rfl (TX.pickF rfl rfl rfl (TO.u rfl rfl (TX.pickT rfl rfl rfl (TO.nil (TE.cutS 14 rfl rfl ⟨rfl, trivial⟩)))))))))))))
     exact TO.s rfl rfl rfl rfl rfl rfl (TO.s rfl rfl rfl rfl rfl rfl (TO.s rfl rfl rfl rfl rfl rfl (TO.s rfl rfl rfl rfl rfl rfl (TO.su rfl rfl rfl rfl rfl (TO.su rfl rfl rfl rfl rfl (TO.su rfl rfl rfl rfl rfl (TO.s rfl rfl rfl rfl rfl rfl (TO.g rfl rfl rfl rfl (TX.pickT rfl rfl rfl (TO.u rfl rfl (TX.pickT rfl rfl rfl (TO.nil (TE.cutS 14 rfl rfl ⟨rfl, trivial⟩)))))))))))))
   exact TO.u rfl rfl (TX.assign rfl rfl (TO.nil (TE.thenN rfl rfl (TC.ret (TE.blockR (TE.thenR (TE.fin (R := ⟨[], []⟩) (TL.ret (R' := ⟨[], []⟩) Try.results78 (.cons (.tmp rfl) .nil) (subD 1 0 rfl rfl) ⟨congrArg ret78 h, rfl⟩))))))))
 replace h := ie h hb3
 refine TC.seq (TC.seq (TC.region (TO.u rfl rfl (TX.ibin rfl rfl rfl rfl (TO.u rfl rfl (TX.assign rfl rfl (TO.nil (TE.thenN rfl rfl (TC.cond rfl (fun hb7 => ?_) (fun hb7 => ?_))))))))))
 · replace h := it h hb7
   exact TC.skip (TE.thenN rfl rfl (TC.condT' rfl hb7 (TC.seq (TC.region (TO.u rfl rfl (TX.fieldAddr' Try.runUnderlying27 rfl Try.sizeOf21 rfl rfl rfl (TO.u rfl rfl (TX.load1 (i := 0) Try.isAgg21 rfl rfl rfl rfl (TO.u rfl rfl (TX.ibin rfl rfl rfl rfl (TO.u rfl rfl (TX.assign rfl rfl (TO.nil (TE.thenN rfl rfl (TC.ret (TE.blockR (TE.thenR (TE.fin (R := ⟨[], []⟩) (TL.ret (R' := ⟨[], []⟩) Try.results78 (.cons (.tmp rfl) .nil) (subD 1 0 rfl rfl) ⟨congrArg ret78 h, rfl⟩)))))))))))))))))))
 replace h := ie h hb7
 refine TC.region (TO.u rfl rfl (TX.ibin rfl rfl rfl rfl (TO.u rfl rfl (TX.assign rfl rfl (TO.nil (TE.thenN rfl rfl (TC.cond rfl (fun hb8 => ?_) (fun hb8 => ?_))))))))
 · replace h := it h hb8
   exact TC.seq (TC.region (TO.u rfl rfl (TX.fieldAddr' Try.runUnderlying27 rfl Try.sizeOf21 rfl rfl rfl (TO.u rfl rfl (TX.load1 (i := 0) Try.isAgg21 rfl rfl rfl rfl (TO.u rfl rfl (TX.ibin rfl rfl rfl rfl (TO.u rfl rfl (TX.assign rfl rfl (TO.nil (TE.thenN rfl rfl (TC.ret (TE.blockR (TE.thenR (TE.fin (R := ⟨[], []⟩) (TL.ret (R' := ⟨[], []⟩) Try.results78 (.cons (.tmp rfl) .nil) (subD 1 0 rfl rfl) ⟨congrArg ret78 h, rfl⟩))))))))))))))))
 replace h := ie h hb8
 refine TC.seq (TC.region (TO.u rfl rfl (TX.ibin rfl rfl rfl rfl (TO.u rfl rfl (TX.assign rfl rfl (TO.nil (TE.thenN rfl rfl (TC.cond rfl (fun hb9 => ?_) (fun hb9 => ?_)))))))))
 · replace h := it h hb9
   exact TC.seq (TC.region (TO.u rfl rfl (TX.fieldAddr' Try.runUnderlying27 rfl Try.sizeOf5 rfl rfl rfl (TO.u rfl rfl (TX.load1 (i := 0) Try.isAgg5 rfl rfl rfl rfl (TO.u rfl rfl (TX.ibin rfl rfl rfl rfl (TO.u rfl rfl (TX.assign rfl rfl (TO.nil (TE.thenN rfl rfl (TC.ret (TE.blockR (TE.thenR (TE.fin (R := ⟨[], []⟩) (TL.ret (R' := ⟨[], []⟩) Try.results78 (.cons (.tmp rfl) .nil) (subD 1 0 rfl rfl) ⟨congrArg ret78 h, rfl⟩))))))))))))))))
 replace h := ie h hb9
 refine TC.seq (TC.seq (TC.region (TO.u rfl rfl (TX.ibin rfl rfl rfl rfl (TO.u rfl rfl (TX.assign rfl rfl (TO.nil (TE.thenN rfl rfl (TC.cond rfl (fun hb10 => ?_) (fun hb10 => ?_))))))))))
 · replace h := it h hb10
   refine TC.skip (TE.thenN rfl rfl (TC.condT' rfl hb10 (TC.seq (TC.region (TO.u rfl rfl (TX.loadN (i := 0) Try.isAgg27 Try.sizeOf27 rfl rfl rfl rfl ?_))))))
   obtain ⟨v11, hv11, h⟩ := bp h
   exact TO.u rfl rfl (TX.callP Try.call88 rfl (fun a w s => c88 p0 _ _  hv11) rfl (TO.u rfl rfl (TX.assign rfl rfl (TO.nil (TE.thenN rfl rfl (TC.ret (TE.blockR (TE.thenR (TE.fin (R := ⟨[], []⟩) (TL.ret (R' := ⟨[], []⟩) Try.results78 (.cons (.tmp rfl) .nil) (subD 1 0 rfl rfl) ⟨congrArg ret78 h, rfl⟩))))))))))
 replace h := ie h hb10
 refine TC.region (TO.u rfl rfl (TX.ibin rfl rfl rfl rfl (TO.u rfl rfl (TX.assign rfl rfl (TO.nil (TE.thenN rfl rfl (TC.cond rfl (fun hb12 => ?_) (fun hb12 => ?_))))))))
 · replace h := it h hb12
   refine TC.seq (TC.region (TO.u rfl rfl (TX.loadN (i := 0) Try.isAgg27 Try.sizeOf27 rfl rfl rfl rfl ?_)))
   obtain ⟨v13, hv13, h⟩ := bp h
   exact TO.u rfl rfl (TX.callP Try.call88 rfl (fun a w s => c88 p0 _ _  hv13) rfl (TO.u rfl rfl (TX.assign rfl rfl (TO.nil (TE.thenN rfl rfl (TC.ret (TE.blockR (TE.thenR (TE.fin (R := ⟨[], []⟩) (TL.ret (R' := ⟨[], []⟩) Try.results78 (.cons (.tmp rfl) .nil) (subD 1 0 rfl rfl) ⟨congrArg ret78 h, rfl⟩))))))))))
 replace h := ie h hb12
 refine TC.skip (TE.blockN (TE.thenN rfl rfl (TC.seq (TC.region (TO.u rfl rfl (TX.loadN (i := 0) Try.isAgg27 Try.sizeOf27 rfl rfl rfl rfl ?_))))))
 obtain ⟨v14, hv14, h⟩ := bp h
 exact TO.u rfl rfl (TX.callP Try.call89 rfl (fun a w s => c89 p0 _ _  hv14) rfl (TO.u rfl rfl (TX.assign rfl rfl (TO.nil (TE.thenN rfl rfl (TC.ret (TE.fin (R := ⟨[], []⟩) (TL.ret (R' := ⟨[], []⟩) Try.results78 (.cons (.tmp rfl) .nil) (subD 1 0 rfl rfl) ⟨congrArg ret78 h, rfl⟩))))))))
/-- hatchway/hatchwayref03.Jumps -/
def fn58 (p0 : Instr) (p1 : Int) : Int × Bool :=
  (bindP (fn54 p0) fun v2 => (bindP (fn55 p0) fun v3 => (bif (((v2 != 5) && (v2 != 6)) || (v3 == 128)) || (v3 == 144) then (0, false) else (bif (v3 == 0) && (v2 == 6) then (IntKind.i64.wrap ((IntKind.i64.wrap (p1 + 1)) + (IntKind.i64.wrap p0.fImm)), true) else (IntKind.i64.wrap ((IntKind.i64.wrap (p1 + 1)) + (IntKind.i64.wrap p0.fOff)), true)))))
def ret58 (r : Int × Bool) : Value := .tuple #[.int .i64 r.1, .bool r.2]
theorem c58 (p0 : Instr) (p1 : Int) (w : World) (r : Int × Bool)  (h : fn58 p0 p1 = r) : Ret Try.prog 58 [.agg #[.int .u8 p0.fOp, .int .u8 p0.fDst, .int .u8 p0.fSrc, .int .i16 p0.fOff, .int .i32 p0.fImm], .int .i64 p1] w ⟨[], []⟩ (fun v R => v = ret58 r ∧ R = ⟨[], []⟩) := by
 unfold fn58 at h
 refine Ret.of_body Try.func58 rfl Try.ntmps58 rfl (fun _ hx => absurd hx List.not_mem_nil) List.nodup_nil (TC.seq (TC.region (TO.u rfl rfl (TX.box rfl rfl rfl (fun b1 => (TO.u rfl rfl (TX.assign rfl rfl (TO.u rfl rfl (TX.assign rfl rfl (TO.nil (TE.thenN rfl rfl (TC.seq (TC.keep (L' := [(1, .int .i64 p1), (2, .pointer (some ⟨b1, 0, none⟩))]) ⟨rfl, rfl, trivial⟩ ?_)))))))))))))
 obtain ⟨v2, hv2, h⟩ := bp h
 refine TC.draw hmix 3 [.agg #[.int .u8 p0.fOp, .int .u8 p0.fDst, .int .u8 p0.fSrc, .int .i16 p0.fOff, .int .i32 p0.fImm], .int .u8 v2, .agg #[.int .u8 p0.fOp, .int .u8 p0.fDst, .int .u8 p0.fSrc, .int .i16 p0.fOff, .int .i32 p0.fImm]] [(9, .int .u8 v2), (10, .agg #[.int .u8 p0.fOp, .int .u8 p0.fDst, .int .u8 p0.fSrc, .int .i16 p0.fOff, .int .i32 p0.fImm])] rfl rfl rfl rfl ?_ (.cons 1 rfl rfl rfl (.cons 2 rfl rfl rfl .nil)) ?_
 · exact QAll.u [(2, .pointer (some ⟨b1, 0, none⟩))] (.old rfl .nil) rfl rfl (QV.loadN (i := 0) Try.isAgg27 Try.sizeOf27 rfl rfl rfl).s rfl (QAll.u [(8, .agg #[.int .u8 p0.fOp, .int .u8 p0.fDst, .int .u8 p0.fSrc, .int .i16 p0.fOff, .int .i32 p0.fImm])] (.dat 0 rfl rfl rfl .nil) rfl rfl (QS.callP Try.call54 rfl (fun a w s => c54 p0 _ _  hv2)) rfl (QAll.u [(2, .pointer (some ⟨b1, 0, none⟩))] (.old rfl .nil) rfl rfl (QV.loadN (i := 0) Try.isAgg27 Try.sizeOf27 rfl rfl rfl).s rfl (QAll.nil)))
 obtain ⟨v3, hv3, h⟩ := bp h
 refine TO.u rfl rfl (TX.callP Try.call55 rfl (fun a w s => c55 p0 _ _  hv3) rfl (TO.u rfl rfl (TX.assign rfl rfl (TO.u rfl rfl (TX.assign rfl rfl (TO.nil (TE.thenN rfl rfl (TC.seq (TC.seq (TC.region (TO.u rfl rfl (TX.move rfl rfl (TO.u rfl rfl (TX.ibin rfl rfl rfl rfl (TO.u rfl rfl (TX.move rfl rfl (TO.cutS 3 [(17, .bool ((v2 != 5) && (v2 != 6)))] ?_ ?_)))))))))))))))))
 · cases hc4 : (v2 != 5)
   · exact TO.s rfl rfl rfl rfl rfl rfl (TO.s rfl rfl rfl rfl rfl rfl (TO.u rfl rfl (TX.pickF rfl rfl rfl (TO.nil (TE.cutS 3 rfl rfl ⟨rfl, trivial⟩)))))
   exact TO.g rfl rfl rfl rfl (TX.move rfl rfl (TO.g rfl rfl rfl rfl (TX.ibin rfl rfl rfl rfl (TO.u rfl rfl (TX.pickT rfl rfl rfl (TO.nil (TE.cutS 3 rfl rfl ⟨rfl, trivial⟩)))))))
 refine TO.u rfl rfl (TX.move rfl rfl (TO.cutS 3 [(21, .bool (((v2 != 5) && (v2 != 6)) || (v3 == 128)))] ?_ ?_))
 · cases hc5 : ((v2 != 5) && (v2 != 6))
   · exact TO.g rfl rfl rfl rfl (TX.move rfl rfl (TO.g rfl rfl rfl rfl (TX.ibin rfl rfl rfl rfl (TO.u rfl rfl (TX.pickF rfl rfl rfl (TO.nil (TE.cutS 3 rfl rfl ⟨rfl, trivial⟩)))))))
   exact TO.s rfl rfl rfl rfl rfl rfl (TO.s rfl rfl rfl rfl rfl rfl (TO.u rfl rfl (TX.pickT rfl rfl rfl (TO.nil (TE.cutS 3 rfl rfl ⟨rfl, trivial⟩)))))
 refine TO.u rfl rfl (TX.move rfl rfl (TO.cutS 3 [(25, .bool ((((v2 != 5) && (v2 != 6)) || (v3 == 128)) || (v3 == 144)))] ?_ ?_))
 · cases hc6 : (((v2 != 5) && (v2 != 6)) || (v3 == 128))
   · exact TO.g rfl rfl rfl rfl (TX.move rfl rfl (TO.g rfl rfl rfl rfl (TX.ibin rfl rfl rfl rfl (TO.u rfl rfl (TX.pickF rfl rfl rfl (TO.nil (TE.cutS 3 rfl rfl ⟨rfl, trivial⟩)))))))
   exact TO.s rfl rfl rfl rfl rfl rfl (TO.s rfl rfl rfl rfl rfl rfl (TO.u rfl rfl (TX.pickT rfl rfl rfl (TO.nil (TE.cutS 3 rfl rfl ⟨rfl, trivial⟩)))))
 refine TO.nil (TE.thenN rfl rfl (TC.cond rfl (fun hb7 => ?_) (fun hb7 => ?_)))
 · replace h := it h hb7
   exact TC.seq (TC.region (TO.u rfl rfl (TX.assign rfl rfl (TO.u rfl rfl (TX.assign rfl rfl (TO.nil (TE.thenN rfl rfl (TC.ret (TE.thenR (TE.fin (R := ⟨[], []⟩) (TL.ret (R' := ⟨[], []⟩) Try.results58 (.cons (.tmp rfl) (.cons (.tmp rfl) .nil)) (subD 1 0 rfl rfl) ⟨congrArg ret58 h, rfl⟩)))))))))))
 replace h := ie h hb7
 refine TC.skip (TE.thenN rfl rfl (TC.seq (TC.seq (TC.region (TO.u rfl rfl (TX.move rfl rfl (TO.u rfl rfl (TX.ibin rfl rfl rfl rfl (TO.u rfl rfl (TX.move rfl rfl (TO.cutS 3 [(31, .bool ((v3 == 0) && (v2 == 6)))] ?_ ?_)))))))))))
 · cases hc8 : (v3 == 0)
   · exact TO.s rfl rfl rfl rfl rfl rfl (TO.s rfl rfl rfl rfl rfl rfl (TO.u rfl rfl (TX.pickF rfl rfl rfl (TO.nil (TE.cutS 3 rfl rfl ⟨rfl, trivial⟩)))))
   exact TO.g rfl rfl rfl rfl (TX.move rfl rfl (TO.g rfl rfl rfl rfl (TX.ibin rfl rfl rfl rfl (TO.u rfl rfl (TX.pickT rfl rfl rfl (TO.nil (TE.cutS 3 rfl rfl ⟨rfl, trivial⟩)))))))
 refine TO.nil (TE.thenN rfl rfl (TC.cond rfl (fun hb9 => ?_) (fun hb9 => ?_)))
 · replace h := it h hb9
   exact TC.seq (TC.region (TO.u rfl rfl (TX.move rfl rfl (TO.u rfl rfl (TX.ibin rfl rfl rfl rfl (TO.u rfl rfl (TX.fieldAddr' Try.runUnderlying27 rfl Try.sizeOf21 rfl rfl rfl (TO.u rfl rfl (TX.load1 (i := 0) Try.isAgg21 rfl rfl rfl rfl (TO.u rfl rfl (TX.conv Try.runUnderlying21 Try.runUnderlying3 rfl rfl (TO.u rfl rfl (TX.ibin rfl rfl rfl rfl (TO.u rfl rfl (TX.assign rfl rfl (TO.u rfl rfl (TX.assign rfl rfl (TO.nil (TE.thenN rfl rfl (TC.ret (TE.thenR (TE.fin (R := ⟨[], []⟩) (TL.ret (R' := ⟨[], []⟩) Try.results58 (.cons (.tmp rfl) (.cons (.tmp rfl) .nil)) (subD 1 0 rfl rfl) ⟨congrArg ret58 h, rfl⟩)))))))))))))))))))))))
 replace h := ie h hb9
 exact TC.skip (TE.thenN rfl rfl (TC.seq (TC.region (TO.u rfl rfl (TX.move rfl rfl (TO.u rfl rfl (TX.ibin rfl rfl rfl rfl (TO.u rfl rfl (TX.fieldAddr' Try.runUnderlying27 rfl Try.sizeOf25 rfl rfl rfl (TO.u rfl rfl (TX.load1 (i := 0) Try.isAgg25 rfl rfl rfl rfl (TO.u rfl rfl (TX.conv Try.runUnderlying25 Try.runUnderlying3 rfl rfl (TO.u rfl rfl (TX.ibin rfl rfl rfl rfl (TO.u rfl rfl (TX.assign rfl rfl (TO.u rfl rfl (TX.assign rfl rfl (TO.nil (TE.thenN rfl rfl (TC.ret (TE.fin (R := ⟨[], []⟩) (TL.ret (R' := ⟨[], []⟩) Try.results58 (.cons (.tmp rfl) (.cons (.tmp rfl) .nil)) (subD 1 0 rfl rfl) ⟨congrArg ret58 h, rfl⟩))))))))))))))))))))))))
/-- hatchway/hatchwayref03.one -/
def fn53 (p0 : List Instr) (p1 : List Bool) (p2 : Int) : Option (Int) :=
  (bif inb p2 p0.length then (bindP (fn76 (gt p0 p2)) fun v3 => (bif !v3 then (some 20) else (bindP (fn77 (gt p0 p2)) fun v6 => (bif ((decide ((10 : Int) < ((gt p0 p2).fDst))) || (decide ((10 : Int) < ((gt p0 p2).fSrc)))) || ((((gt p0 p2).fDst) == 10) && v6) then (some 21) else (bindP (fn78 (gt p0 p2)) fun v10 => (bif !v10 then (some 22) else (bindP (fn71 (gt p0 p2)) fun v12 => (bif v12 then (bif decide ((p0.length : Int) ≤ (IntKind.i64.wrap (p2 + 1))) then (some 23) else (bif inb (IntKind.i64.wrap (p2 + 1)) p0.length then (bif (!((((gt p0 (IntKind.i64.wrap (p2 + 1))).fOp) == 0) && ((((gt p0 (IntKind.i64.wrap (p2 + 1))).fDst) == 0) && ((((gt p0 (IntKind.i64.wrap (p2 + 1))).fSrc) == 0) && ((((gt p0 (IntKind.i64.wrap (p2 + 1))).fOff) == 0) && (((0 : Int) == 0) && true)))))) || ((((gt p0 p2).fSrc) == 1) && (((gt p0 (IntKind.i64.wrap (p2 + 1))).fImm) != 0)) then (some 22) else (bindP (fn58 (gt p0 p2) p2) fun v20 => (bif bif v20.2 then (bif decide (v20.1 < 0) then true else (bif decide ((p0.length : Int) ≤ v20.1) then true else (inb v20.1 p1.length))) else true then (bif v20.2 && ((decide (v20.1 < 0)) || ((decide ((p0.length : Int) ≤ v20.1)) || (!(gt p1 v20.1)))) then (some 23) else (some 0)) else none))) else none)) else (bindP (fn58 (gt p0 p2) p2) fun v26 => (bif bif v26.2 then (bif decide (v26.1 < 0) then true else (bif decide ((p0.length : Int) ≤ v26.1) then true else (inb v26.1 p1.length))) else true then (bif v26.2 && ((decide (v26.1 < 0)) || ((decide ((p0.length : Int) ≤ v26.1)) || (!(gt p1 v26.1)))) then (some 23) else (some 0)) else none)))))))))) else none)
def ret53 (r : Int) : Value := .int .i64 r
set_option maxHeartbeats 8000000 in
theorem c53 (sp_0 : Option Addr) (n_0 cap_0 : Nat) (p0 : List Instr) (sp_1 : Option Addr) (n_1 cap_1 : Nat) (p1 : List Bool) (p2 : Int) (w : World) (r : Int) (qn0 : p0.length = n_0) (qc0 : p0.length ≤ cap_0) (qp0 : RdF Instr.E w [] sp_0 p0) (qn1 : p1.length = n_1) (qc1 : p1.length ≤ cap_1) (qp1 : RdF En.bool w [] sp_1 p1) (h : fn53 p0 p1 p2 = some r) : Ret Try.prog 53 [.slice sp_0 n_0 cap_0, .slice sp_1 n_1 cap_1, .int .i64 p2] w ⟨[], []⟩ (fun v R => v = ret53 r ∧ R = ⟨[], []⟩) := by
 unfold fn53 at h
 refine Ret.of_body Try.func53 rfl Try.ntmps53 rfl (fun _ hx => absurd hx List.not_mem_nil) List.nodup_nil (TC.seq (TC.region (TO.u rfl rfl (TX.assign rfl rfl (TO.nil (TE.thenN rfl rfl (TC.seq (TC.region (TO.u rfl rfl (TX.move rfl rfl (TO.u rfl rfl (TX.move rfl rfl ?_))))))))))))
 obtain ⟨hk1, h⟩ := ck h
 refine TO.u rfl rfl (TX.indexR (N := Instr.E) Try.runUnderlying24 Try.sizeOf27 rfl qn0 rfl (fun a w s => qp0 w s.ext) hk1 rfl (TO.u rfl rfl (TX.loadRN (N := Instr.E) Try.isAgg27 Try.sizeOf27 rfl (fun a w s => qp0 w s.ext) hk1 rfl rfl (TO.u rfl rfl (TX.alloc Try.zeroValue27 rfl rfl (fun b2 => (TO.u rfl rfl (TX.store (i := 0) Try.sizeOf27 rfl rfl rfl rfl rfl rfl rfl rfl (TO.nil (TE.thenN rfl rfl (TC.seq (TC.seq (TC.region (TO.u rfl rfl (TX.loadN (i := 0) Try.isAgg27 Try.sizeOf27 rfl rfl rfl rfl ?_)))))))))))))))
 obtain ⟨v3, hv3, h⟩ := bp h
 refine TO.u rfl rfl (TX.callP Try.call76 rfl (fun a w s => c76 (gt p0 p2) _ _  hv3) rfl (TO.u rfl rfl (TX.not rfl rfl (TO.nil (TE.thenN rfl rfl (TC.cond rfl (fun hb4 => ?_) (fun hb4 => ?_)))))))
 · replace h := it h hb4
   exact TC.seq (TC.region (TO.u rfl rfl (TX.assign rfl rfl (TO.nil (TE.thenN rfl rfl (TC.ret (TE.thenR (TE.fin (R := ⟨[], []⟩) (TL.ret (R' := ⟨[], []⟩) Try.results53 (.cons (.tmp rfl) .nil) (subD 1 0 rfl rfl) ⟨congrArg ret53 (Option.some.inj h), rfl⟩)))))))))
 replace h := ie h hb4
 refine TC.skip (TE.thenN rfl rfl (TC.seq (TC.seq (TC.region (TO.u rfl rfl (TX.fieldAddr' Try.runUnderlying27 rfl Try.sizeOf5 rfl rfl rfl (TO.u rfl rfl (TX.load1 (i := 0) Try.isAgg5 rfl rfl rfl rfl (TO.u rfl rfl (TX.ibin rfl rfl rfl rfl (TO.u rfl rfl (TX.move rfl rfl (TO.cutS 4 [(25, .bool ((decide ((10 : Int) < ((gt p0 p2).fDst))) || (decide ((10 : Int) < ((gt p0 p2).fSrc)))))] ?_ ?_)))))))))))))
 · cases hc5 : (decide ((10 : Int) < ((gt p0 p2).fDst)))
   · exact TO.g rfl rfl rfl rfl (TX.fieldAddr' Try.runUnderlying27 rfl Try.sizeOf5 rfl rfl rfl (TO.g rfl rfl rfl rfl (TX.load1 (i := 0) Try.isAgg5 rfl rfl rfl rfl (TO.g rfl rfl rfl rfl (TX.ibin rfl rfl rfl rfl (TO.u rfl rfl (TX.pickF rfl rfl rfl (TO.nil (TE.cutS 4 rfl rfl ⟨rfl, trivial⟩)))))))))
   exact TO.s rfl rfl rfl rfl rfl rfl (TO.s rfl rfl rfl rfl rfl rfl (TO.s rfl rfl rfl rfl rfl rfl (TO.u rfl rfl (TX.pickT rfl rfl rfl (TO.nil (TE.cutS 4 rfl rfl ⟨rfl, trivial⟩))))))
 refine TO.u rfl rfl (TX.move rfl rfl ?_)
 obtain ⟨v6, hv6, h⟩ := bp h
 refine TO.cutS 8 [(34, .bool (((decide ((10 : Int) < ((gt p0 p2).fDst))) || (decide ((10 : Int) < ((gt p0 p2).fSrc)))) || ((((gt p0 p2).fDst) == 10) && v6)))] ?_ ?_
 · cases hc7 : ((decide ((10 : Int) < ((gt p0 p2).fDst))) || (decide ((10 : Int) < ((gt p0 p2).fSrc))))
   · refine TO.g rfl rfl rfl rfl (TX.fieldAddr' Try.runUnderlying27 rfl Try.sizeOf5 rfl rfl rfl (TO.g rfl rfl rfl rfl (TX.load1 (i := 0) Try.isAgg5 rfl rfl rfl rfl (TO.g rfl rfl rfl rfl (TX.ibin rfl rfl rfl rfl (TO.g rfl rfl rfl rfl (TX.move rfl rfl ?_)))))))
     cases hc8 : (((gt p0 p2).fDst) == 10)
     · exact TO.s rfl rfl rfl rfl rfl rfl (TO.s rfl rfl rfl rfl rfl rfl (TO.g rfl rfl rfl rfl (TX.pickF rfl rfl rfl (TO.u rfl rfl (TX.pickF rfl rfl rfl (TO.nil (TE.cutS 8 rfl rfl ⟨rfl, trivial⟩)))))))
     exact TO.g rfl rfl rfl rfl (TX.loadN (i := 0) Try.isAgg27 Try.sizeOf27 rfl rfl rfl rfl (TO.g rfl rfl rfl rfl (TX.callP Try.call77 rfl (fun a w s => c77 (gt p0 p2) _ _  hv6) rfl (TO.g rfl rfl rfl rfl (TX.pickT rfl rfl rfl (TO.u rfl rfl (TX.pickF rfl rfl rfl (TO.nil (TE.cutS 8 rfl rfl ⟨rfl, trivial⟩)))))))))
   exact TO.s rfl rfl rfl rfl rfl rfl (TO.s rfl rfl rfl rfl rfl rfl (TO.s rfl rfl rfl rfl rfl rfl (TO.s rfl rfl rfl rfl rfl rfl (TO.su rfl rfl rfl rfl rfl (TO.su rfl rfl rfl rfl rfl (TO.s rfl rfl rfl rfl rfl rfl (TO.u rfl rfl (TX.pickT rfl rfl rfl (TO.nil (TE.cutS 8 rfl rfl ⟨rfl, trivial⟩))))))))))
 refine TO.nil (TE.thenN rfl rfl (TC.cond rfl (fun hb9 => ?_) (fun hb9 => ?_)))
 · replace h := it h hb9
   exact TC.seq (TC.region (TO.u rfl rfl (TX.assign rfl rfl (TO.nil (TE.thenN rfl rfl (TC.ret (TE.thenR (TE.fin (R := ⟨[], []⟩) (TL.ret (R' := ⟨[], []⟩) Try.results53 (.cons (.tmp rfl) .nil) (subD 1 0 rfl rfl) ⟨congrArg ret53 (Option.some.inj h), rfl⟩)))))))))
 replace h := ie h hb9
 refine TC.skip (TE.thenN rfl rfl (TC.seq (TC.seq (TC.region (TO.u rfl rfl (TX.loadN (i := 0) Try.isAgg27 Try.sizeOf27 rfl rfl rfl rfl ?_))))))
 obtain ⟨v10, hv10, h⟩ := bp h
 refine TO.u rfl rfl (TX.callP Try.call78 rfl (fun a w s => c78 (gt p0 p2) _ _  hv10) rfl (TO.u rfl rfl (TX.not rfl rfl (TO.nil (TE.thenN rfl rfl (TC.cond rfl (fun hb11 => ?_) (fun hb11 => ?_)))))))
 · replace h := it h hb11
   exact TC.seq (TC.region (TO.u rfl rfl (TX.assign rfl rfl (TO.nil (TE.thenN rfl rfl (TC.ret (TE.thenR (TE.fin (R := ⟨[], []⟩) (TL.ret (R' := ⟨[], []⟩) Try.results53 (.cons (.tmp rfl) .nil) (subD 1 0 rfl rfl) ⟨congrArg ret53 (Option.some.inj h), rfl⟩)))))))))
 replace h := ie h hb11
 refine TC.skip (TE.thenN rfl rfl (TC.seq (TC.seq (TC.region (TO.u rfl rfl (TX.loadN (i := 0) Try.isAgg27 Try.sizeOf27 rfl rfl rfl rfl ?_))))))
 obtain ⟨v12, hv12, h⟩ := bp h
 refine TO.u rfl rfl (TX.callP Try.call71 rfl (fun a w s => c71 (gt p0 p2) _ _  hv12) rfl (TO.nil (TE.thenN rfl rfl (TC.cond rfl (fun hb13 => ?_) (fun hb13 => ?_)))))
 · replace h := it h hb13
   refine TC.seq (TC.seq (TC.region (TO.u rfl rfl (TX.move rfl rfl (TO.u rfl rfl (TX.ibin rfl rfl rfl rfl (TO.u rfl rfl (TX.move rfl rfl (TO.u rfl rfl (TX.lenS (xs := p0) Try.runUnderlying24 rfl qn0 rfl (TO.u rfl rfl (TX.ibin rfl rfl rfl rfl (TO.nil (TE.thenN rfl rfl (TC.cond rfl (fun hb14 => ?_) (fun hb14 => ?_))))))))))))))))
   · replace h := it h hb14
     exact TC.seq (TC.region (TO.u rfl rfl (TX.assign rfl rfl (TO.nil (TE.thenN rfl rfl (TC.ret (TE.thenR (TE.thenR (TE.fin (R := ⟨[], []⟩) (TL.ret (R' := ⟨[], []⟩) Try.results53 (.cons (.tmp rfl) .nil) (subD 1 0 rfl rfl) ⟨congrArg ret53 (Option.some.inj h), rfl⟩))))))))))
   replace h := ie h hb14
   refine TC.skip (TE.thenN rfl rfl (TC.seq (TC.region (TO.u rfl rfl (TX.move rfl rfl (TO.u rfl rfl (TX.move rfl rfl (TO.u rfl rfl (TX.ibin rfl rfl rfl rfl ?_)))))))))
   obtain ⟨hk15, h⟩ := ck h
   refine TO.u rfl rfl (TX.indexR (N := Instr.E) Try.runUnderlying24 Try.sizeOf27 rfl qn0 rfl (fun a w s => qp0 w s.ext) hk15 rfl (TO.u rfl rfl (TX.loadRN (N := Instr.E) Try.isAgg27 Try.sizeOf27 rfl (fun a w s => qp0 w s.ext) hk15 rfl rfl (TO.u rfl rfl (TX.alloc Try.zeroValue27 rfl rfl (fun b16 => (TO.u rfl rfl (TX.store (i := 0) Try.sizeOf27 rfl rfl rfl rfl rfl rfl rfl rfl (TO.nil (TE.thenN rfl rfl (TC.seq (TC.region (TO.u rfl rfl (TX.fieldAddr' Try.runUnderlying27 rfl Try.sizeOf21 rfl rfl rfl (TO.u rfl rfl (TX.store (i := 0) Try.sizeOf21 rfl rfl rfl rfl rfl rfl rfl rfl (TO.nil (TE.thenN rfl rfl (TC.seq (TC.region (TO.u rfl rfl (TX.loadN (i := 0) Try.isAgg27 Try.sizeOf27 rfl rfl rfl rfl (TO.u rfl rfl (TX.build Try.zeroValue27 rfl Try.runUnderlying27 (.cons Try.sizeOf5 (.cons Try.sizeOf5 (.cons Try.sizeOf5 (.cons Try.sizeOf25 (.cons Try.sizeOf21 .nil))))) rfl rfl rfl (TO.u rfl rfl (TX.aggNe Try.eqGuardType27 rfl rfl rfl (EqOk.struct (K := 1) Try.runUnderlying27 Try.stoodInHeld27 (.cons rfl (.one Try.isAgg5 rfl) (.one Try.isAgg5 rfl) (EqOk.int Try.runUnderlying5) (.cons rfl (.one Try.isAgg5 rfl) (.one Try.isAgg5 rfl) (EqOk.int Try.runUnderlying5) (.cons rfl (.one Try.isAgg5 rfl) (.one Try.isAgg5 rfl) (EqOk.int Try.runUnderlying5) (.cons rfl (.one Try.isAgg25 rfl) (.one Try.isAgg25 rfl) (EqOk.int Try.runUnderlying25) (.cons rfl (.one Try.isAgg21 rfl) (.one Try.isAgg21 rfl) (EqOk.int Try.runUnderlying21) .nil)))))) rfl (TO.u rfl rfl (TX.move rfl rfl (TO.cutS 13 [(67, .bool ((!((((gt p0 (IntKind.i64.wrap (p2 + 1))).fOp) == 0) && ((((gt p0 (IntKind.i64.wrap (p2 + 1))).fDst) == 0) && ((((gt p0 (IntKind.i64.wrap (p2 + 1))).fSrc) == 0) && ((((gt p0 (IntKind.i64.wrap (p2 + 1))).fOff) == 0) && (((0 : Int) == 0) && true)))))) || ((((gt p0 p2).fSrc) == 1) && (((gt p0 (IntKind.i64.wrap (p2 + 1))).fImm) != 0))))] ?_ ?_)))))))))))))))))))))))))))))
   · cases hc17 : (!((((gt p0 (IntKind.i64.wrap (p2 + 1))).fOp) == 0) && ((((gt p0 (IntKind.i64.wrap (p2 + 1))).fDst) == 0) && ((((gt p0 (IntKind.i64.wrap (p2 + 1))).fSrc) == 0) && ((((gt p0 (IntKind.i64.wrap (p2 + 1))).fOff) == 0) && (((0 : Int) == 0) && true))))))
     · refine TO.g rfl rfl rfl rfl (TX.fieldAddr' Try.runUnderlying27 rfl Try.sizeOf5 rfl rfl rfl (TO.g rfl rfl rfl rfl (TX.load1 (i := 1) Try.isAgg5 rfl rfl rfl rfl (TO.g rfl rfl rfl rfl (TX.ibin rfl rfl rfl rfl (TO.g rfl rfl rfl rfl (TX.move rfl rfl ?_)))))))
       cases hc18 : (((gt p0 p2).fSrc) == 1)
       · exact TO.s rfl rfl rfl rfl rfl rfl (TO.s rfl rfl rfl rfl rfl rfl (TO.s rfl rfl rfl rfl rfl rfl (TO.s rfl rfl rfl rfl rfl rfl (TO.s rfl rfl rfl rfl rfl rfl (TO.s rfl rfl rfl rfl rfl rfl (TO.s rfl rfl rfl rfl rfl rfl (TO.g rfl rfl rfl rfl (TX.pickF rfl rfl rfl (TO.u rfl rfl (TX.pickF rfl rfl rfl (TO.nil (TE.cutS 13 rfl rfl ⟨rfl, trivial⟩))))))))))))
       exact TO.g rfl rfl rfl rfl (TX.move rfl rfl (TO.g rfl rfl rfl rfl (TX.move rfl rfl (TO.g rfl rfl rfl rfl (TX.ibin rfl rfl rfl rfl (TO.g rfl rfl rfl rfl (TX.indexR (N := Instr.E) Try.runUnderlying24 Try.sizeOf27 rfl qn0 rfl (fun a w s => qp0 w s.ext) hk15 rfl (TO.g rfl rfl rfl rfl (TX.fieldAddrE Try.runUnderlying27 rfl Try.sizeOf21 rfl rfl rfl (TO.g rfl rfl rfl rfl (TX.loadR1 (N := Instr.E) Try.isAgg21 rfl (fun a w s => qp0 w s.ext) hk15 rfl rfl (TO.g rfl rfl rfl rfl (TX.ibin rfl rfl rfl rfl (TO.g rfl rfl rfl rfl (TX.pickT rfl rfl rfl (TO.u rfl rfl (TX.pickF rfl rfl rfl (TO.nil (TE.cutS 13 rfl rfl ⟨rfl, trivial⟩)))))))))))))))))))
     exact TO.s rfl rfl rfl rfl rfl rfl (TO.s rfl rfl rfl rfl rfl rfl (TO.s rfl rfl rfl rfl rfl rfl (TO.s rfl rfl rfl rfl rfl rfl (TO.su rfl rfl rfl rfl rfl (TO.su rfl rfl rfl rfl rfl (TO.su rfl rfl rfl rfl rfl (TO.su rfl rfl rfl rfl rfl (TO.su rfl rfl rfl rfl rfl (TO.su rfl rfl rfl rfl rfl (TO.su rfl rfl rfl rfl rfl (TO.s rfl rfl rfl rfl rfl rfl (TO.u rfl rfl (TX.pickT rfl rfl rfl (TO.nil (TE.cutS 13 rfl rfl ⟨rfl, trivial⟩)))))))))))))))
   refine TO.nil (TE.thenN rfl rfl (TC.cond rfl (fun hb19 => ?_) (fun hb19 => ?_)))
   · replace h := it h hb19
     exact TC.seq (TC.region (TO.u rfl rfl (TX.assign rfl rfl (TO.nil (TE.thenN rfl rfl (TC.ret (TE.thenR (TE.fin (R := ⟨[], []⟩) (TL.ret (R' := ⟨[], []⟩) Try.results53 (.cons (.tmp rfl) .nil) (subD 2 0 rfl rfl) ⟨congrArg ret53 (Option.some.inj h), rfl⟩)))))))))
   replace h := ie h hb19
   refine TC.skip (TE.thenN rfl rfl (TC.seq (TC.region (TO.u rfl rfl (TX.loadN (i := 1) Try.isAgg27 Try.sizeOf27 rfl rfl rfl rfl (TO.u rfl rfl (TX.move rfl rfl ?_)))))))
   obtain ⟨v20, hv20, h⟩ := bp h
   refine TO.u rfl rfl (TX.callP Try.call58 rfl (fun a w s => c58 (gt p0 p2) p2 _ _  hv20) rfl (TO.u rfl rfl (TX.move rfl rfl (TO.u rfl rfl (TX.extract rfl rfl rfl (TO.u rfl rfl (TX.extract rfl rfl rfl (TO.u rfl rfl (TX.assign rfl rfl (TO.u rfl rfl (TX.assign rfl rfl (TO.nil (TE.thenN rfl rfl (TC.seq (TC.seq (TC.region (TO.u rfl rfl (TX.move rfl rfl (TO.u rfl rfl (TX.move rfl rfl ?_))))))))))))))))))))
   obtain ⟨hk21, h⟩ := ck h
   refine TO.cutS 16 [(91, .bool (v20.2 && ((decide (v20.1 < 0)) || ((decide ((p0.length : Int) ≤ v20.1)) || (!(gt p1 v20.1))))))] ?_ ?_
   · cases hc22 : (v20.2)
     · exact TO.s rfl rfl rfl rfl rfl rfl (TO.s rfl rfl rfl rfl rfl rfl (TO.s rfl rfl rfl rfl rfl rfl (TO.su rfl rfl rfl rfl rfl (TO.su rfl rfl rfl rfl rfl (TO.su rfl rfl rfl rfl rfl (TO.su rfl rfl rfl rfl rfl (TO.s rfl rfl rfl rfl rfl rfl (TO.s rfl rfl rfl rfl rfl rfl (TO.su rfl rfl rfl rfl rfl (TO.su rfl rfl rfl rfl rfl (TO.su rfl rfl rfl rfl rfl (TO.su rfl rfl rfl rfl rfl (TO.su rfl rfl rfl rfl rfl (TO.s rfl rfl rfl rfl rfl rfl (TO.u rfl rfl (TX.pickF rfl rfl rfl (TO.nil (TE.cutS 16 rfl rfl ⟨rfl, trivial⟩))))))))))))))))))
     refine TO.g rfl rfl rfl rfl (TX.move rfl rfl (TO.g rfl rfl rfl rfl (TX.ibin rfl rfl rfl rfl (TO.g rfl rfl rfl rfl (TX.move rfl rfl ?_)))))
     cases hc23 : (decide (v20.1 < 0))
     · refine TO.g rfl rfl rfl rfl (TX.move rfl rfl (TO.g rfl rfl rfl rfl (TX.move rfl rfl (TO.g rfl rfl rfl rfl (TX.lenS (xs := p0) Try.runUnderlying24 rfl qn0 rfl (TO.g rfl rfl rfl rfl (TX.ibin rfl rfl rfl rfl (TO.g rfl rfl rfl rfl (TX.pickF rfl rfl rfl (TO.g rfl rfl rfl rfl (TX.move rfl rfl ?_)))))))))))
       cases hc24 : (decide ((p0.length : Int) ≤ v20.1))
       · exact TO.g rfl rfl rfl rfl (TX.move rfl rfl (TO.g rfl rfl rfl rfl (TX.move rfl rfl (TO.g rfl rfl rfl rfl (TX.indexR (N := En.bool) Try.runUnderlying41 Try.sizeOf4 rfl qn1 rfl (fun a w s => qp1 w s.ext) (ce (ce (cg hk21 hc22) hc23) hc24) rfl (TO.g rfl rfl rfl rfl (TX.loadR1 (N := En.bool) Try.isAgg4 rfl (fun a w s => qp1 w s.ext) (ce (ce (cg hk21 hc22) hc23) hc24) rfl rfl (TO.g rfl rfl rfl rfl (TX.not rfl rfl (TO.g rfl rfl rfl rfl (TX.pickF rfl rfl rfl (TO.u rfl rfl (TX.pickT rfl rfl rfl (TO.nil (TE.cutS 16 rfl rfl ⟨rfl, trivial⟩)))))))))))))))
       exact TO.s rfl rfl rfl rfl rfl rfl (TO.s rfl rfl rfl rfl rfl rfl (TO.s rfl rfl rfl rfl rfl rfl (TO.s rfl rfl rfl rfl rfl rfl (TO.s rfl rfl rfl rfl rfl rfl (TO.g rfl rfl rfl rfl (TX.pickT rfl rfl rfl (TO.u rfl rfl (TX.pickT rfl rfl rfl (TO.nil (TE.cutS 16 rfl rfl ⟨rfl, trivial⟩))))))))))
     exact TO.s rfl rfl rfl rfl rfl rfl (TO.s rfl rfl rfl rfl rfl rfl (TO.s rfl rfl rfl rfl rfl rfl (TO.s rfl rfl rfl rfl rfl rfl (TO.g rfl rfl rfl rfl (TX.pickT rfl rfl rfl (TO.g rfl rfl rfl rfl (TX.move rfl rfl (TO.s rfl rfl rfl rfl rfl rfl (TO.s rfl rfl rfl rfl rfl rfl (TO.s rfl rfl rfl rfl rfl rfl (TO.s rfl rfl rfl rfl rfl rfl (TO.s rfl rfl rfl rfl rfl rfl (TO.g rfl rfl rfl rfl (TX.pickT rfl rfl rfl (TO.u rfl rfl (TX.pickT rfl rfl rfl (TO.nil (TE.cutS 16 rfl rfl ⟨rfl, trivial⟩))))))))))))))))))
   refine TO.nil (TE.thenN rfl rfl (TC.cond rfl (fun hb25 => ?_) (fun hb25 => ?_)))
   · replace h := it h hb25
     exact TC.seq (TC.region (TO.u rfl rfl (TX.assign rfl rfl (TO.nil (TE.thenN rfl rfl (TC.ret (TE.thenR (TE.fin (R := ⟨[], []⟩) (TL.ret (R' := ⟨[], []⟩) Try.results53 (.cons (.tmp rfl) .nil) (subD 2 0 rfl rfl) ⟨congrArg ret53 (Option.some.inj h), rfl⟩)))))))))
   replace h := ie h hb25
   exact TC.skip (TE.thenN rfl rfl (TC.seq (TC.region (TO.u rfl rfl (TX.assign rfl rfl (TO.nil (TE.thenN rfl rfl (TC.ret (TE.fin (R := ⟨[], []⟩) (TL.ret (R' := ⟨[], []⟩) Try.results53 (.cons (.tmp rfl) .nil) (subD 2 0 rfl rfl) ⟨congrArg ret53 (Option.some.inj h), rfl⟩))))))))))
 replace h := ie h hb13
 refine TC.skip (TE.thenN rfl rfl (TC.seq (TC.region (TO.u rfl rfl (TX.loadN (i := 0) Try.isAgg27 Try.sizeOf27 rfl rfl rfl rfl (TO.u rfl rfl (TX.move rfl rfl ?_)))))))
 obtain ⟨v26, hv26, h⟩ := bp h
 refine TO.u rfl rfl (TX.callP Try.call58 rfl (fun a w s => c58 (gt p0 p2) p2 _ _  hv26) rfl (TO.u rfl rfl (TX.move rfl rfl (TO.u rfl rfl (TX.extract rfl rfl rfl (TO.u rfl rfl (TX.extract rfl rfl rfl (TO.u rfl rfl (TX.assign rfl rfl (TO.u rfl rfl (TX.assign rfl rfl (TO.nil (TE.thenN rfl rfl (TC.seq (TC.seq (TC.region (TO.u rfl rfl (TX.move rfl rfl (TO.u rfl rfl (TX.move rfl rfl ?_))))))))))))))))))))
 obtain ⟨hk27, h⟩ := ck h
 refine TO.cutS 16 [(91, .bool (v26.2 && ((decide (v26.1 < 0)) || ((decide ((p0.length : Int) ≤ v26.1)) || (!(gt p1 v26.1))))))] ?_ ?_
 · cases hc28 : (v26.2)
   · exact TO.s rfl rfl rfl rfl rfl rfl (TO.s rfl rfl rfl rfl rfl rfl (TO.s rfl rfl rfl rfl rfl rfl (TO.su rfl rfl rfl rfl rfl (TO.su rfl rfl rfl rfl rfl (TO.su rfl rfl rfl rfl rfl (TO.su rfl rfl rfl rfl rfl (TO.s rfl rfl rfl rfl rfl rfl (TO.s rfl rfl rfl rfl rfl rfl (TO.su rfl rfl rfl rfl rfl (TO.su rfl rfl rfl rfl rfl (TO.su rfl rfl rfl rfl rfl (TO.su rfl rfl rfl rfl rfl (TO.su rfl rfl rfl rfl rfl (TO.s rfl rfl rfl rfl rfl rfl (TO.u rfl rfl (TX.pickF rfl rfl rfl (TO.nil (TE.cutS 16 rfl rfl ⟨rfl, trivial⟩))))))))))))))))))
   refine TO.g rfl rfl rfl rfl (TX.move rfl rfl (TO.g rfl rfl rfl rfl (TX.ibin rfl rfl rfl rfl (TO.g rfl rfl rfl rfl (TX.move rfl rfl ?_)))))
   cases hc29 : (decide (v26.1 < 0))
   · refine TO.g rfl rfl rfl rfl (TX.move rfl rfl (TO.g rfl rfl rfl rfl (TX.move rfl rfl (TO.g rfl rfl rfl rfl (TX.lenS (xs := p0) Try.runUnderlying24 rfl qn0 rfl (TO.g rfl rfl rfl rfl (TX.ibin rfl rfl rfl rfl (TO.g rfl rfl rfl rfl (TX.pickF rfl rfl rfl (TO.g rfl rfl rfl rfl (TX.move rfl rfl ?_)))))))))))
     cases hc30 : (decide ((p0.length : Int) ≤ v26.1))
     · exact TO.g rfl rfl rfl rfl (TX.move rfl rfl (TO.g rfl rfl rfl rfl (TX.move rfl rfl (TO.g rfl rfl rfl rfl (TX.indexR (N := En.bool) Try.runUnderlying41 Try.sizeOf4 rfl qn1 rfl (fun a w s => qp1 w s.ext) (ce (ce (cg hk27 hc28) hc29) hc30) rfl (TO.g rfl rfl rfl rfl (TX.loadR1 (N := En.bool) Try.isAgg4 rfl (fun a w s => qp1 w s.ext) (ce (ce (cg hk27 hc28) hc29) hc30) rfl rfl (TO.g rfl rfl rfl rfl (TX.not rfl rfl (TO.g rfl rfl rfl rfl (TX.pickF rfl rfl rfl (TO.u rfl rfl (TX.pickT rfl rfl rfl (TO.nil (TE.cutS 16 rfl rfl ⟨rfl, trivial⟩)))))))))))))))
     exact TO.s rfl rfl rfl rfl rfl rfl (TO.s rfl rfl rfl rfl rfl rfl (TO.s rfl rfl rfl rfl rfl rfl (TO.s rfl rfl rfl rfl rfl rfl (TO.s rfl rfl rfl rfl rfl rfl (TO.g rfl rfl rfl rfl (TX.pickT rfl rfl rfl (TO.u rfl rfl (TX.pickT rfl rfl rfl (TO.nil (TE.cutS 16 rfl rfl ⟨rfl, trivial⟩))))))))))
   exact TO.s rfl rfl rfl rfl rfl rfl (TO.s rfl rfl rfl rfl rfl rfl (TO.s rfl rfl rfl rfl rfl rfl (TO.s rfl rfl rfl rfl rfl rfl (TO.g rfl rfl rfl rfl (TX.pickT rfl rfl rfl (TO.g rfl rfl rfl rfl (TX.move rfl rfl (TO.s rfl rfl rfl rfl rfl rfl (TO.s rfl rfl rfl rfl rfl rfl (TO.s rfl rfl rfl rfl rfl rfl (TO.s rfl rfl rfl rfl rfl rfl (TO.s rfl rfl rfl rfl rfl rfl (TO.g rfl rfl rfl rfl (TX.pickT rfl rfl rfl (TO.u rfl rfl (TX.pickT rfl rfl rfl (TO.nil (TE.cutS 16 rfl rfl ⟨rfl, trivial⟩))))))))))))))))))
 refine TO.nil (TE.thenN rfl rfl (TC.cond rfl (fun hb31 => ?_) (fun hb31 => ?_)))
 · replace h := it h hb31
   exact TC.seq (TC.region (TO.u rfl rfl (TX.assign rfl rfl (TO.nil (TE.thenN rfl rfl (TC.ret (TE.thenR (TE.fin (R := ⟨[], []⟩) (TL.ret (R' := ⟨[], []⟩) Try.results53 (.cons (.tmp rfl) .nil) (subD 1 0 rfl rfl) ⟨congrArg ret53 (Option.some.inj h), rfl⟩)))))))))
 replace h := ie h hb31
 exact TC.skip (TE.thenN rfl rfl (TC.seq (TC.region (TO.u rfl rfl (TX.assign rfl rfl (TO.nil (TE.thenN rfl rfl (TC.ret (TE.fin (R := ⟨[], []⟩) (TL.ret (R' := ⟨[], []⟩) Try.results53 (.cons (.tmp rfl) .nil) (subD 1 0 rfl rfl) ⟨congrArg ret53 (Option.some.inj h), rfl⟩))))))))))
def fn29_l1 (p0 : List Instr) (v3 : (List Bool)) : Nat → Int → Int → Option ((Int) ⊕ (Int × Int))
  | 0, _, _ => none
  | n25 + 1, x18, x19 => (bif decide (x19 < (p0.length : Int)) then (bif inb x19 v3.length then (bif !(gt v3 x19) then ((fn29_l1 p0 v3 n25) x18 (IntKind.i64.wrap (x19 + 1))) else (Option.bind (fn53 p0 v3 x19) fun v31 => (bif v31 != 0 then (some (.inr (x19, v31))) else ((fn29_l1 p0 v3 n25) x19 (IntKind.i64.wrap (x19 + 1)))))) else none) else (some (.inl x18)))
theorem fn29_l1_s (p0 : List Instr) (v3 : (List Bool)) (n25 : Nat) (x18 : Int) (x19 : Int) : fn29_l1 p0 v3 (n25 + 1) x18 x19 = (bif decide (x19 < (p0.length : Int)) then (bif inb x19 v3.length then (bif !(gt v3 x19) then ((fn29_l1 p0 v3 n25) x18 (IntKind.i64.wrap (x19 + 1))) else (Option.bind (fn53 p0 v3 x19) fun v31 => (bif v31 != 0 then (some (.inr (x19, v31))) else ((fn29_l1 p0 v3 n25) x19 (IntKind.i64.wrap (x19 + 1)))))) else none) else (some (.inl x18))) := rfl
def fn29_k1 (p0 : List Instr) (x21 : Int) : Option (Int × Int) :=
  (bif inb x21 p0.length then (bindP (fn54 (gt p0 x21)) fun v34 => (bindP (fn55 (gt p0 x21)) fun v35 => (bif ((v34 == 5) && ((v35 == 144) || (v35 == 0))) || ((v34 == 6) && (v35 == 0)) then (some (0, 0)) else (some (IntKind.i64.wrap ((p0.length : Int) - 1), 24))))) else none)
theorem fn29_k1_s (p0 : List Instr) (x21 : Int) : fn29_k1 p0 x21 = (bif inb x21 p0.length then (bindP (fn54 (gt p0 x21)) fun v34 => (bindP (fn55 (gt p0 x21)) fun v35 => (bif ((v34 == 5) && ((v35 == 144) || (v35 == 0))) || ((v34 == 6) && (v35 == 0)) then (some (0, 0)) else (some (IntKind.i64.wrap ((p0.length : Int) - 1), 24))))) else none) := rfl
/-- hatchway/hatchwayref03.Check -/
def fn29 (F : Nat) (p0 : List Instr) : Option (Int × Int) :=
  (bif ((p0.length : Int) == 0) || (decide ((4096 : Int) < (p0.length : Int))) then (some (0, 3)) else (Option.bind (fn43 F p0) fun v3 => (Option.bind (fn29_l1 p0 v3 F 0 0) fun o22 => (match o22 with | .inl u => fn29_k1 p0 u | .inr u => some u))))
def ret29 (r : Int × Int) : Value := .tuple #[.int .i64 r.1, .int .i64 r.2]
theorem c29 (F : Nat) (sp_0 : Option Addr) (n_0 cap_0 : Nat) (p0 : List Instr) (w : World) (r : Int × Int) (qn0 : p0.length = n_0) (qc0 : p0.length ≤ cap_0) (qp0 : RdF Instr.E w [] sp_0 p0) (h : fn29 F p0 = some r) : Ret Try.prog 29 [.slice sp_0 n_0 cap_0] w ⟨[], []⟩ (fun v R => v = ret29 r ∧ R = ⟨[], []⟩) := by
 unfold fn29 at h
 refine Ret.of_body Try.func29 rfl Try.ntmps29 rfl (fun _ hx => absurd hx List.not_mem_nil) List.nodup_nil (TC.seq (TC.region (TO.u rfl rfl (TX.assign rfl rfl (TO.u rfl rfl (TX.assign rfl rfl (TO.nil (TE.thenN rfl rfl (TC.seq (TC.seq (TC.region (TO.u rfl rfl (TX.move rfl rfl (TO.u rfl rfl (TX.lenS (xs := p0) Try.runUnderlying24 rfl qn0 rfl (TO.u rfl rfl (TX.ibin rfl rfl rfl rfl (TO.u rfl rfl (TX.move rfl rfl (TO.cutS 4 [(17, .bool (((p0.length : Int) == 0) || (decide ((4096 : Int) < (p0.length : Int)))))] ?_ ?_))))))))))))))))))))
 · cases hc1 : ((p0.length : Int) == 0)
   · exact TO.g rfl rfl rfl rfl (TX.move rfl rfl (TO.g rfl rfl rfl rfl (TX.lenS (xs := p0) Try.runUnderlying24 rfl qn0 rfl (TO.g rfl rfl rfl rfl (TX.ibin rfl rfl rfl rfl (TO.u rfl rfl (TX.pickF rfl rfl rfl (TO.nil (TE.cutS 4 rfl rfl ⟨rfl, trivial⟩)))))))))
   exact TO.s rfl rfl rfl rfl rfl rfl (TO.s rfl rfl rfl rfl rfl rfl (TO.s rfl rfl rfl rfl rfl rfl (TO.u rfl rfl (TX.pickT rfl rfl rfl (TO.nil (TE.cutS 4 rfl rfl ⟨rfl, trivial⟩))))))
 refine TO.nil (TE.thenN rfl rfl (TC.cond rfl (fun hb2 => ?_) (fun hb2 => ?_)))
 · replace h := it h hb2
   exact TC.seq (TC.region (TO.u rfl rfl (TX.assign rfl rfl (TO.u rfl rfl (TX.assign rfl rfl (TO.nil (TE.thenN rfl rfl (TC.ret (TE.thenR (TE.fin (R := ⟨[], []⟩) (TL.ret (R' := ⟨[], []⟩) Try.results29 (.cons (.tmp rfl) (.cons (.tmp rfl) .nil)) (subD 0 0 rfl rfl) ⟨congrArg ret29 (Option.some.inj h), rfl⟩)))))))))))
 replace h := ie h hb2
 refine TC.skip (TE.thenN rfl rfl (TC.seq (TC.region (TO.u rfl rfl (TX.move rfl rfl ?_)))))
 obtain ⟨v3, hv3, h⟩ := bd h
 refine TO.u rfl rfl (TX.callQ (post43 v3) Try.call43 rfl (fun a w s => c43 F _ _ _ p0 _ _ qn0 qc0 (qp0.tr s.extB0) hv3) rfl ?_)
 rintro _ _ ⟨sp4, n5, cap6, Hs8, rfl, hn7, rfl, ho9⟩
 refine TO.reH ⟨[], [Hs8]⟩ rfl (TO.u rfl rfl (TX.assign rfl rfl (TO.nil (TE.thenN rfl rfl (TC.seq (TC.region (TO.u rfl rfl (TX.assign rfl rfl (TO.nil (TE.thenN rfl rfl (TC.seq (TC.seq (TC.region (TO.u rfl rfl (TX.assign rfl rfl (TO.nil (TE.thenN rfl rfl (TC.block ?_))))))))))))))))))
 obtain ⟨o22, hl23, h⟩ := bd h
 refine TC.to (L' := [(0, .slice sp_0 n_0 cap_0), (4, .slice sp4 n5 cap6), (5, .int .i64 0), (6, .int .i64 0)]) (E' := []) (S' := [Hs8]) 0 0 ⟨rfl, rfl, rfl, rfl, trivial⟩ rfl rfl (TC.cutE 0 (fun L' H' => ∃ x21 : Int, .inl x21 = o22 ∧ L' = [(0, .slice sp_0 n_0 cap_0), (5, .int .i64 x21)] ∧ H' = ⟨[], [Hs8]⟩) ?_ ?_)
 · have h027 := h
   clear h
   refine TC.loop (fun (n : Nat) (s : Int × Int) => fn29_l1 p0 v3 n s.1 s.2) o22 (fun _ => rfl) (fun (s : Int × Int) L' H' => match s with | (x18, x19) => L' = [(0, .slice sp_0 n_0 cap_0), (4, .slice sp4 n5 cap6), (5, .int .i64 x18), (6, .int .i64 x19)] ∧ H' = ⟨[], [Hs8]⟩) ?_ F (0, 0) ⟨rfl, rfl⟩ hl23
   clear hl23
   rintro K24 n25 ⟨x18, x19⟩ _ _ ⟨rfl, rfl⟩ h ih26
   replace h := (fn29_l1_s p0 v3 n25 x18 x19).symm.trans h
   refine TC.seq (TC.seq (TC.region (TO.u rfl rfl (TX.move rfl rfl (TO.u rfl rfl (TX.move rfl rfl (TO.u rfl rfl (TX.lenS (xs := p0) Try.runUnderlying24 rfl qn0 rfl (TO.u rfl rfl (TX.ibin rfl rfl rfl rfl (TO.nil (TE.thenN rfl rfl (TC.cond rfl (fun hb28 => ?_) (fun hb28 => ?_))))))))))))))
   · replace h := it h hb28
     refine TC.skip (TE.thenN rfl rfl (TC.seq (TC.block (TC.seq (TC.seq (TC.region (TO.u rfl rfl (TX.move rfl rfl (TO.u rfl rfl (TX.move rfl rfl ?_))))))))))
     obtain ⟨hk29, h⟩ := ck h
     refine TO.u rfl rfl (TX.indexR (N := En.bool) Try.runUnderlying41 Try.sizeOf4 rfl hn7 rfl (fun a w s => ho9.rd s (i := 0) rfl) hk29 rfl (TO.u rfl rfl (TX.loadR1 (N := En.bool) Try.isAgg4 rfl (fun a w s => ho9.rd s (i := 0) rfl) hk29 rfl rfl (TO.u rfl rfl (TX.not rfl rfl (TO.nil (TE.thenN rfl rfl (TC.cond rfl (fun hb30 => ?_) (fun hb30 => ?_)))))))))
     · replace h := it h hb30
       exact TC.exit (TE.thenX (TE.blockH (TE.thenN rfl rfl (TC.region (TO.u rfl rfl (TX.move rfl rfl (TO.u rfl rfl (TX.ibin rfl rfl rfl rfl (TO.u rfl rfl (TX.assign rfl rfl (TO.nil (TE.to (L' := [(0, .slice sp_0 n_0 cap_0), (4, .slice sp4 n5 cap6), (5, .int .i64 x18), (6, .int .i64 (IntKind.i64.wrap (x19 + 1)))]) (E' := []) (S' := [Hs8]) 0 0 ⟨rfl, rfl, rfl, rfl, trivial⟩ rfl rfl (ih26 (x18, IntKind.i64.wrap (x19 + 1)) _ _ ⟨rfl, rfl⟩ h)))))))))))))
     replace h := ie h hb30
     refine TC.skip (TE.thenN rfl rfl (TC.seq (TC.region (TO.u rfl rfl (TX.move rfl rfl (TO.u rfl rfl (TX.move rfl rfl (TO.u rfl rfl (TX.move rfl rfl ?_)))))))))
     obtain ⟨v31, hv31, h⟩ := bd h
     refine TO.u rfl rfl (TX.callP Try.call53 rfl (fun a w s => c53 _ _ _ p0 _ _ _ v3 x19 _ _ qn0 qc0 (qp0.tr s.extB0) hn7 ho9.le_cap (ho9.rdf0 s (i := 0) rfl) hv31) rfl (TO.u rfl rfl (TX.assign rfl rfl (TO.nil (TE.thenN rfl rfl (TC.seq (TC.seq (TC.region (TO.u rfl rfl (TX.move rfl rfl (TO.u rfl rfl (TX.ibin rfl rfl rfl rfl (TO.nil (TE.thenN rfl rfl (TC.cond rfl (fun hb32 => ?_) (fun hb32 => ?_))))))))))))))))
     · replace h := it h hb32
       refine TC.seq (TC.region (TO.u rfl rfl (TX.move rfl rfl (TO.u rfl rfl (TX.move rfl rfl (TO.u rfl rfl (TX.assign rfl rfl (TO.u rfl rfl (TX.assign rfl rfl (TO.nil (TE.thenN rfl rfl (TC.ret (TE.thenR (TE.blockR (TE.thenR (TE.loopR (TE.cutR ?_)))))))))))))))))
       have ho := Option.some.inj h
       subst ho
       replace h := h027
       exact TE.blockR (TE.thenR (TE.fin (R := ⟨[], []⟩) (TL.ret (R' := ⟨[], []⟩) Try.results29 (.cons (.tmp rfl) (.cons (.tmp rfl) .nil)) (subD 0 1 rfl rfl) ⟨congrArg ret29 (Option.some.inj h), rfl⟩)))
     replace h := ie h hb32
     exact TC.skip (TE.thenN rfl rfl (TC.region (TO.u rfl rfl (TX.move rfl rfl (TO.u rfl rfl (TX.assign rfl rfl (TO.nil (TE.blockN (TE.thenN rfl rfl (TC.region (TO.u rfl rfl (TX.move rfl rfl (TO.u rfl rfl (TX.ibin rfl rfl rfl rfl (TO.u rfl rfl (TX.assign rfl rfl (TO.nil (TE.to (L' := [(0, .slice sp_0 n_0 cap_0), (4, .slice sp4 n5 cap6), (5, .int .i64 x19), (6, .int .i64 (IntKind.i64.wrap (x19 + 1)))]) (E' := []) (S' := [Hs8]) 0 0 ⟨rfl, rfl, rfl, rfl, trivial⟩ rfl rfl (ih26 (x19, IntKind.i64.wrap (x19 + 1)) _ _ ⟨rfl, rfl⟩ h)))))))))))))))))))
   replace h := ie h hb28
   exact TC.exit (TE.thenX (TE.loopX (TE.to (L' := [(0, .slice sp_0 n_0 cap_0), (5, .int .i64 x18)]) (E' := []) (S' := [Hs8]) 0 0 ⟨rfl, rfl, trivial⟩ rfl rfl (TE.cutE ⟨x18, Option.some.inj h, rfl, rfl⟩))))
 rintro _ _ ⟨x21, rfl, rfl, rfl⟩
 replace h := (fn29_k1_s p0 x21).symm.trans h
 refine TE.blockH (TE.thenN rfl rfl (TC.seq (TC.keep (L' := [(0, .slice sp_0 n_0 cap_0), (5, .int .i64 x21)]) ⟨rfl, rfl, trivial⟩ ?_)))
 obtain ⟨hk33, h⟩ := ck h
 obtain ⟨v34, hv34, h⟩ := bp h
 refine TC.draw hmix 9 [.slice sp_0 n_0 cap_0, .int .i64 x21, .pointer (some (eAddr sp_0 (x21.toNat * Instr.E.sz + 0))), .agg #[.int .u8 ((gt p0 x21).fOp), .int .u8 ((gt p0 x21).fDst), .int .u8 ((gt p0 x21).fSrc), .int .i16 ((gt p0 x21).fOff), .int .i32 ((gt p0 x21).fImm)], .int .u8 v34, .slice sp_0 n_0 cap_0, .int .i64 x21, .pointer (some (eAddr sp_0 (x21.toNat * Instr.E.sz + 0))), .agg #[.int .u8 ((gt p0 x21).fOp), .int .u8 ((gt p0 x21).fDst), .int .u8 ((gt p0 x21).fSrc), .int .i16 ((gt p0 x21).fOff), .int .i32 ((gt p0 x21).fImm)]] [(44, .int .u8 v34), (48, .agg #[.int .u8 ((gt p0 x21).fOp), .int .u8 ((gt p0 x21).fDst), .int .u8 ((gt p0 x21).fSrc), .int .i16 ((gt p0 x21).fOff), .int .i32 ((gt p0 x21).fImm)])] rfl rfl rfl rfl ?_ (.cons 4 rfl rfl rfl (.cons 8 rfl rfl rfl .nil)) ?_
 · exact QAll.u [(0, .slice sp_0 n_0 cap_0)] (.old rfl .nil) rfl rfl (QV.move rfl).s rfl (QAll.u [(5, .int .i64 x21)] (.old rfl .nil) rfl rfl (QV.move rfl).s rfl (QAll.u [(40, .slice sp_0 n_0 cap_0), (41, .int .i64 x21)] (.dat 0 rfl rfl rfl (.dat 1 rfl rfl rfl .nil)) rfl rfl (QV.indexR (N := Instr.E) Try.runUnderlying24 Try.sizeOf27 rfl qn0 rfl (fun a w s => qp0 w s.ext) hk33).s rfl (QAll.u [(42, .pointer (some (eAddr sp_0 (x21.toNat * Instr.E.sz + 0))))] (.dat 2 rfl rfl rfl .nil) rfl rfl (QV.loadRN (N := Instr.E) Try.isAgg27 Try.sizeOf27 rfl (fun a w s => qp0 w s.ext) hk33 rfl).s rfl (QAll.u [(43, .agg #[.int .u8 ((gt p0 x21).fOp), .int .u8 ((gt p0 x21).fDst), .int .u8 ((gt p0 x21).fSrc), .int .i16 ((gt p0 x21).fOff), .int .i32 ((gt p0 x21).fImm)])] (.dat 3 rfl rfl rfl .nil) rfl rfl (QS.callP Try.call54 rfl (fun a w s => c54 (gt p0 x21) _ _  hv34)) rfl (QAll.u [(0, .slice sp_0 n_0 cap_0)] (.old rfl .nil) rfl rfl (QV.move rfl).s rfl (QAll.u [(5, .int .i64 x21)] (.old rfl .nil) rfl rfl (QV.move rfl).s rfl (QAll.u [(45, .slice sp_0 n_0 cap_0), (46, .int .i64 x21)] (.dat 5 rfl rfl rfl (.dat 6 rfl rfl rfl .nil)) rfl rfl (QV.indexR (N := Instr.E) Try.runUnderlying24 Try.sizeOf27 rfl qn0 rfl (fun a w s => qp0 w s.ext) hk33).s rfl (QAll.u [(47, .pointer (some (eAddr sp_0 (x21.toNat * Instr.E.sz + 0))))] (.dat 7 rfl rfl rfl .nil) rfl rfl (QV.loadRN (N := Instr.E) Try.isAgg27 Try.sizeOf27 rfl (fun a w s => qp0 w s.ext) hk33 rfl).s rfl (QAll.nil)))))))))
 obtain ⟨v35, hv35, h⟩ := bp h
 refine TO.u rfl rfl (TX.callP Try.call55 rfl (fun a w s => c55 (gt p0 x21) _ _  hv35) rfl (TO.u rfl rfl (TX.assign rfl rfl (TO.u rfl rfl (TX.assign rfl rfl (TO.nil (TE.thenN rfl rfl (TC.seq (TC.seq (TC.region (TO.u rfl rfl (TX.move rfl rfl (TO.u rfl rfl (TX.ibin rfl rfl rfl rfl (TO.u rfl rfl (TX.move rfl rfl (TO.cutS 7 [(59, .bool ((v34 == 5) && ((v35 == 144) || (v35 == 0))))] ?_ ?_)))))))))))))))))
 · cases hc36 : (v34 == 5)
   · exact TO.s rfl rfl rfl rfl rfl rfl (TO.s rfl rfl rfl rfl rfl rfl (TO.s rfl rfl rfl rfl rfl rfl (TO.su rfl rfl rfl rfl rfl (TO.su rfl rfl rfl rfl rfl (TO.s rfl rfl rfl rfl rfl rfl (TO.u rfl rfl (TX.pickF rfl rfl rfl (TO.nil (TE.cutS 7 rfl rfl ⟨rfl, trivial⟩)))))))))
   refine TO.g rfl rfl rfl rfl (TX.move rfl rfl (TO.g rfl rfl rfl rfl (TX.ibin rfl rfl rfl rfl (TO.g rfl rfl rfl rfl (TX.move rfl rfl ?_)))))
   cases hc37 : (v35 == 144)
   · exact TO.g rfl rfl rfl rfl (TX.move rfl rfl (TO.g rfl rfl rfl rfl (TX.ibin rfl rfl rfl rfl (TO.g rfl rfl rfl rfl (TX.pickF rfl rfl rfl (TO.u rfl rfl (TX.pickT rfl rfl rfl (TO.nil (TE.cutS 7 rfl rfl ⟨rfl, trivial⟩)))))))))
   exact TO.s rfl rfl rfl rfl rfl rfl (TO.s rfl rfl rfl rfl rfl rfl (TO.g rfl rfl rfl rfl (TX.pickT rfl rfl rfl (TO.u rfl rfl (TX.pickT rfl rfl rfl (TO.nil (TE.cutS 7 rfl rfl ⟨rfl, trivial⟩)))))))
 refine TO.u rfl rfl (TX.move rfl rfl (TO.cutS 7 [(67, .bool (((v34 == 5) && ((v35 == 144) || (v35 == 0))) || ((v34 == 6) && (v35 == 0))))] ?_ ?_))
 · cases hc38 : ((v34 == 5) && ((v35 == 144) || (v35 == 0)))
   · refine TO.g rfl rfl rfl rfl (TX.move rfl rfl (TO.g rfl rfl rfl rfl (TX.ibin rfl rfl rfl rfl (TO.g rfl rfl rfl rfl (TX.move rfl rfl ?_)))))
     cases hc39 : (v34 == 6)
     · exact TO.s rfl rfl rfl rfl rfl rfl (TO.s rfl rfl rfl rfl rfl rfl (TO.g rfl rfl rfl rfl (TX.pickF rfl rfl rfl (TO.u rfl rfl (TX.pickF rfl rfl rfl (TO.nil (TE.cutS 7 rfl rfl ⟨rfl, trivial⟩)))))))
     exact TO.g rfl rfl rfl rfl (TX.move rfl rfl (TO.g rfl rfl rfl rfl (TX.ibin rfl rfl rfl rfl (TO.g rfl rfl rfl rfl (TX.pickT rfl rfl rfl (TO.u rfl rfl (TX.pickF rfl rfl rfl (TO.nil (TE.cutS 7 rfl rfl ⟨rfl, trivial⟩)))))))))
   exact TO.s rfl rfl rfl rfl rfl rfl (TO.s rfl rfl rfl rfl rfl rfl (TO.s rfl rfl rfl rfl rfl rfl (TO.su rfl rfl rfl rfl rfl (TO.su rfl rfl rfl rfl rfl (TO.s rfl rfl rfl rfl rfl rfl (TO.u rfl rfl (TX.pickT rfl rfl rfl (TO.nil (TE.cutS 7 rfl rfl ⟨rfl, trivial⟩)))))))))
 refine TO.nil (TE.thenN rfl rfl (TC.cond rfl (fun hb40 => ?_) (fun hb40 => ?_)))
 · replace h := it h hb40
   exact TC.seq (TC.region (TO.u rfl rfl (TX.assign rfl rfl (TO.u rfl rfl (TX.assign rfl rfl (TO.nil (TE.thenN rfl rfl (TC.ret (TE.thenR (TE.fin (R := ⟨[], []⟩) (TL.ret (R' := ⟨[], []⟩) Try.results29 (.cons (.tmp rfl) (.cons (.tmp rfl) .nil)) (subD 0 1 rfl rfl) ⟨congrArg ret29 (Option.some.inj h), rfl⟩)))))))))))
 replace h := ie h hb40
 exact TC.skip (TE.thenN rfl rfl (TC.seq (TC.region (TO.u rfl rfl (TX.move rfl rfl (TO.u rfl rfl (TX.lenS (xs := p0) Try.runUnderlying24 rfl qn0 rfl (TO.u rfl rfl (TX.ibin rfl rfl rfl rfl (TO.u rfl rfl (TX.assign rfl rfl (TO.u rfl rfl (TX.assign rfl rfl (TO.nil (TE.thenN rfl rfl (TC.ret (TE.fin (R := ⟨[], []⟩) (TL.ret (R' := ⟨[], []⟩) Try.results29 (.cons (.tmp rfl) (.cons (.tmp rfl) .nil)) (subD 0 1 rfl rfl) ⟨congrArg ret29 (Option.some.inj h), rfl⟩))))))))))))))))))
/-- math/bits.Mul32 -/
def fn90 (p0 : Int) (p1 : Int) : Int × Int :=
  (IntKind.u32.wrap (ishr .u64 (IntKind.u64.wrap ((IntKind.u64.wrap p0) * (IntKind.u64.wrap p1))) 32), IntKind.u32.wrap (IntKind.u64.wrap ((IntKind.u64.wrap p0) * (IntKind.u64.wrap p1))))
def ret90 (r : Int × Int) : Value := .tuple #[.int .u32 r.1, .int .u32 r.2]
theorem c90 (p0 : Int) (p1 : Int) (w : World) (r : Int × Int)  (h : fn90 p0 p1 = r) : Ret Try.prog 90 [.int .u32 p0, .int .u32 p1] w ⟨[], []⟩ (fun v R => v = ret90 r ∧ R = ⟨[], []⟩) := by
 unfold fn90 at h
 refine Ret.of_body Try.func90 rfl Try.ntmps90 rfl (fun _ hx => absurd hx List.not_mem_nil) List.nodup_nil (TC.seq (TC.region (TO.u rfl rfl (TX.assign rfl rfl (TO.u rfl rfl (TX.assign rfl rfl (TO.nil (TE.thenN rfl rfl (TC.seq (TC.region (TO.u rfl rfl (TX.move rfl rfl (TO.u rfl rfl (TX.conv Try.runUnderlying115 Try.runUnderlying118 rfl rfl (TO.u rfl rfl (TX.move rfl rfl (TO.u rfl rfl (TX.conv Try.runUnderlying115 Try.runUnderlying118 rfl rfl (TO.u rfl rfl (TX.ibin rfl rfl rfl rfl (TO.u rfl rfl (TX.assign rfl rfl (TO.nil (TE.thenN rfl rfl (TC.seq (TC.region (TO.u rfl rfl (TX.move rfl rfl (TO.u rfl rfl (TX.shr rfl rfl (by decide) rfl ?_))))))))))))))))))))))))))))))
 exact TO.u rfl rfl (TX.conv Try.runUnderlying118 Try.runUnderlying115 rfl rfl (TO.u rfl rfl (TX.move rfl rfl (TO.u rfl rfl (TX.conv Try.runUnderlying118 Try.runUnderlying115 rfl rfl (TO.u rfl rfl (TX.assign rfl rfl (TO.u rfl rfl (TX.assign rfl rfl (TO.nil (TE.thenN rfl rfl (TC.ret (TE.fin (R := ⟨[], []⟩) (TL.ret (R' := ⟨[], []⟩) Try.results90 (.cons (.tmp rfl) (.cons (.tmp rfl) .nil)) (subD 0 0 rfl rfl) ⟨congrArg ret90 h, rfl⟩))))))))))))))
/-- math/bits.Mul64 -/
def fn91 (p0 : Int) (p1 : Int) : Int × Int :=
  (IntKind.u64.wrap ((IntKind.u64.wrap ((IntKind.u64.wrap ((ishr .u64 p0 32) * (ishr .u64 p1 32))) + (ishr .u64 (IntKind.u64.wrap ((IntKind.u64.wrap ((ishr .u64 p0 32) * (iand .u64 p1 4294967295))) + (ishr .u64 (IntKind.u64.wrap ((iand .u64 p0 4294967295) * (iand .u64 p1 4294967295))) 32))) 32))) + (ishr .u64 (IntKind.u64.wrap ((iand .u64 (IntKind.u64.wrap ((IntKind.u64.wrap ((ishr .u64 p0 32) * (iand .u64 p1 4294967295))) + (ishr .u64 (IntKind.u64.wrap ((iand .u64 p0 4294967295) * (iand .u64 p1 4294967295))) 32))) 4294967295) + (IntKind.u64.wrap ((iand .u64 p0 4294967295) * (ishr .u64 p1 32))))) 32)), IntKind.u64.wrap (p0 * p1))
def ret91 (r : Int × Int) : Value := .tuple #[.int .u64 r.1, .int .u64 r.2]
theorem c91 (p0 : Int) (p1 : Int) (w : World) (r : Int × Int)  (h : fn91 p0 p1 = r) : Ret Try.prog 91 [.int .u64 p0, .int .u64 p1] w ⟨[], []⟩ (fun v R => v = ret91 r ∧ R = ⟨[], []⟩) := by
 unfold fn91 at h
 refine Ret.of_body Try.func91 rfl Try.ntmps91 rfl (fun _ hx => absurd hx List.not_mem_nil) List.nodup_nil (TC.seq (TC.region (TO.u rfl rfl (TX.assign rfl rfl (TO.u rfl rfl (TX.assign rfl rfl (TO.nil (TE.thenN rfl rfl (TC.seq (TC.region (TO.u rfl rfl (TX.move rfl rfl (TO.u rfl rfl (TX.ibin rfl rfl rfl rfl (TO.u rfl rfl (TX.assign rfl rfl (TO.nil (TE.thenN rfl rfl (TC.seq (TC.region (TO.u rfl rfl (TX.move rfl rfl (TO.u rfl rfl (TX.shr rfl rfl (by decide) rfl ?_))))))))))))))))))))))))
 refine TO.u rfl rfl (TX.assign rfl rfl (TO.nil (TE.thenN rfl rfl (TC.seq (TC.region (TO.u rfl rfl (TX.move rfl rfl (TO.u rfl rfl (TX.ibin rfl rfl rfl rfl (TO.u rfl rfl (TX.assign rfl rfl (TO.nil (TE.thenN rfl rfl (TC.seq (TC.region (TO.u rfl rfl (TX.move rfl rfl (TO.u rfl rfl (TX.shr rfl rfl (by decide) rfl ?_)))))))))))))))))))
 refine TO.u rfl rfl (TX.assign rfl rfl (TO.nil (TE.thenN rfl rfl (TC.seq (TC.region (TO.u rfl rfl (TX.move rfl rfl (TO.u rfl rfl (TX.move rfl rfl (TO.u rfl rfl (TX.ibin rfl rfl rfl rfl (TO.u rfl rfl (TX.assign rfl rfl (TO.nil (TE.thenN rfl rfl (TC.seq (TC.region (TO.u rfl rfl (TX.move rfl rfl (TO.u rfl rfl (TX.move rfl rfl (TO.u rfl rfl (TX.ibin rfl rfl rfl rfl (TO.u rfl rfl (TX.move rfl rfl (TO.u rfl rfl (TX.shr rfl rfl (by decide) rfl ?_)))))))))))))))))))))))))))
 refine TO.u rfl rfl (TX.ibin rfl rfl rfl rfl (TO.u rfl rfl (TX.assign rfl rfl (TO.nil (TE.thenN rfl rfl (TC.seq (TC.region (TO.u rfl rfl (TX.move rfl rfl (TO.u rfl rfl (TX.ibin rfl rfl rfl rfl (TO.u rfl rfl (TX.assign rfl rfl (TO.nil (TE.thenN rfl rfl (TC.seq (TC.region (TO.u rfl rfl (TX.move rfl rfl (TO.u rfl rfl (TX.shr rfl rfl (by decide) rfl ?_)))))))))))))))))))))
 refine TO.u rfl rfl (TX.assign rfl rfl (TO.nil (TE.thenN rfl rfl (TC.seq (TC.region (TO.u rfl rfl (TX.move rfl rfl (TO.u rfl rfl (TX.move rfl rfl (TO.u rfl rfl (TX.move rfl rfl (TO.u rfl rfl (TX.ibin rfl rfl rfl rfl (TO.u rfl rfl (TX.ibin rfl rfl rfl rfl (TO.u rfl rfl (TX.assign rfl rfl (TO.nil (TE.thenN rfl rfl (TC.seq (TC.region (TO.u rfl rfl (TX.move rfl rfl (TO.u rfl rfl (TX.move rfl rfl (TO.u rfl rfl (TX.ibin rfl rfl rfl rfl (TO.u rfl rfl (TX.move rfl rfl (TO.u rfl rfl (TX.ibin rfl rfl rfl rfl (TO.u rfl rfl (TX.move rfl rfl (TO.u rfl rfl (TX.shr rfl rfl (by decide) rfl ?_)))))))))))))))))))))))))))))))))))
 exact TO.u rfl rfl (TX.ibin rfl rfl rfl rfl (TO.u rfl rfl (TX.assign rfl rfl (TO.nil (TE.thenN rfl rfl (TC.seq (TC.region (TO.u rfl rfl (TX.move rfl rfl (TO.u rfl rfl (TX.move rfl rfl (TO.u rfl rfl (TX.ibin rfl rfl rfl rfl (TO.u rfl rfl (TX.assign rfl rfl (TO.nil (TE.thenN rfl rfl (TC.ret (TE.fin (R := ⟨[], []⟩) (TL.ret (R' := ⟨[], []⟩) Try.results91 (.cons (.tmp rfl) (.cons (.tmp rfl) .nil)) (subD 0 0 rfl rfl) ⟨congrArg ret91 h, rfl⟩))))))))))))))))))))
/-- math/bits.Mul -/
def fn79 (p0 : Int) (p1 : Int) : Int × Int :=
  (bindP (fn91 p0 p1) fun v1 => (v1.1, v1.2))
def ret79 (r : Int × Int) : Value := .tuple #[.int .u64 r.1, .int .u64 r.2]
theorem c79 (p0 : Int) (p1 : Int) (w : World) (r : Int × Int)  (h : fn79 p0 p1 = r) : Ret Try.prog 79 [.int .u64 p0, .int .u64 p1] w ⟨[], []⟩ (fun v R => v = ret79 r ∧ R = ⟨[], []⟩) := by
 unfold fn79 at h
 refine Ret.of_body Try.func79 rfl Try.ntmps79 rfl (fun _ hx => absurd hx List.not_mem_nil) List.nodup_nil (TC.seq (TC.region (TO.u rfl rfl (TX.assign rfl rfl (TO.u rfl rfl (TX.assign rfl rfl (TO.nil (TE.thenN rfl rfl (TC.seq (TC.condF rfl (TC.skip (TE.thenN rfl rfl (TC.seq (TC.region (TO.u rfl rfl (TX.move rfl rfl (TO.u rfl rfl (TX.move rfl rfl ?_))))))))))))))))))
 obtain ⟨v1, hv1, h⟩ := bp h
 exact TO.u rfl rfl (TX.callP Try.call91 rfl (fun a w s => c91 p0 p1 _ _  hv1) rfl (TO.u rfl rfl (TX.move rfl rfl (TO.u rfl rfl (TX.extract rfl rfl rfl (TO.u rfl rfl (TX.extract rfl rfl rfl (TO.u rfl rfl (TX.assign rfl rfl (TO.u rfl rfl (TX.assign rfl rfl (TO.nil (TE.thenN rfl rfl (TC.seq (TC.region (TO.u rfl rfl (TX.move rfl rfl (TO.u rfl rfl (TX.move rfl rfl (TO.u rfl rfl (TX.assign rfl rfl (TO.u rfl rfl (TX.assign rfl rfl (TO.nil (TE.thenN rfl rfl (TC.ret (TE.fin (R := ⟨[], []⟩) (TL.ret (R' := ⟨[], []⟩) Try.results79 (.cons (.tmp rfl) (.cons (.tmp rfl) .nil)) (subD 0 0 rfl rfl) ⟨congrArg ret79 h, rfl⟩))))))))))))))))))))))))))))
structure S__2_int where
  e0 : Int
  e1 : Int
  deriving DecidableEq, Inhabited
def S__2_int.enc (x : S__2_int) : List Value := [.int .i64 x.e0, .int .i64 x.e1]
def S__2_int.E : En S__2_int := ⟨S__2_int.enc, 2, fun _ => rfl, fun _ => rfl, by decide⟩
def fn56_l1 : Nat → (List S__2_int) → Int → Option ((List S__2_int))
  | 0, _, _ => none
  | n26014 + 1, x26001, x26005 => (bif decide (x26005 < (x26001.length : Int)) then (bif sliceOk x26005 ((x26001.length : Nat) : Int) x26001.length then (bif sliceOk ((0 : Nat) : Int) x26005 x26001.length then ((fn56_l1 n26014) (pasteX x26001 x26005.toNat ((cutX x26001 ((0 : Nat) : Int).toNat x26005.toNat).take ((((x26001.length : Nat) : Int).toNat) - x26005.toNat))) (IntKind.i64.wrap (x26005 + ((min (cutX x26001 ((0 : Nat) : Int).toNat x26005.toNat).length ((((x26001.length : Nat) : Int).toNat) - x26005.toNat) : Nat) : Int)))) else none) else none) else (some x26001))
theorem fn56_l1_s (n26014 : Nat) (x26001 : List S__2_int) (x26005 : Int) : fn56_l1 (n26014 + 1) x26001 x26005 = (bif decide (x26005 < (x26001.length : Int)) then (bif sliceOk x26005 ((x26001.length : Nat) : Int) x26001.length then (bif sliceOk ((0 : Nat) : Int) x26005 x26001.length then ((fn56_l1 n26014) (pasteX x26001 x26005.toNat ((cutX x26001 ((0 : Nat) : Int).toNat x26005.toNat).take ((((x26001.length : Nat) : Int).toNat) - x26005.toNat))) (IntKind.i64.wrap (x26005 + ((min (cutX x26001 ((0 : Nat) : Int).toNat x26005.toNat).length ((((x26001.length : Nat) : Int).toNat) - x26005.toNat) : Nat) : Int)))) else none) else none) else (some x26001)) := rfl
def fn56_k1 (x26007 : List S__2_int) : Option ((List S__2_int)) :=
  (some x26007)
theorem fn56_k1_s (x26007 : List S__2_int) : fn56_k1 x26007 = (some x26007) := rfl
/-- slices.Repeat____2_int,_2_int_ -/
def fn56 (F : Nat) (p0 : List S__2_int) (p1 : Int) : Option ((List S__2_int)) :=
  (bif decide (p1 < 0) then none else (bindP (fn79 (IntKind.u64.wrap (p0.length : Int)) (IntKind.u64.wrap p1)) fun v2 => (bif (decide ((0 : Int) < v2.1)) || (decide ((9223372036854775807 : Int) < v2.2)) then none else (bif decide (0 ≤ IntKind.i64.wrap v2.2) && decide (IntKind.i64.wrap v2.2 ≤ IntKind.i64.wrap v2.2) && decide ((16 : Int) * (IntKind.i64.wrap v2.2) ≤ 281474976710656) && decide (IntKind.i64.wrap v2.2 ≤ 9223372036854775807) then (Option.bind (fn56_l1 F (pasteX (List.replicate (IntKind.i64.wrap v2.2).toNat (⟨0, 0⟩ : S__2_int)) 0 (p0.take (((List.replicate (IntKind.i64.wrap v2.2).toNat (⟨0, 0⟩ : S__2_int)).length) - 0))) ((min p0.length (((List.replicate (IntKind.i64.wrap v2.2).toNat (⟨0, 0⟩ : S__2_int)).length) - 0) : Nat) : Int)) fun o26011 => (fn56_k1 o26011)) else none))))
def post56 (r : (List S__2_int)) (v : Value) (R : Hp) : Prop := ∃ sp n cap Hs, v = .slice sp n cap ∧ r.length = n ∧ R = ⟨[], [Hs]⟩ ∧ OwnL S__2_int.E 51 sp cap r Hs
set_option maxHeartbeats 8000000 in
theorem c56 (F : Nat) (sp_0 : Option Addr) (n_0 cap_0 : Nat) (p0 : List S__2_int) (p1 : Int) (w : World) (r : (List S__2_int)) (qn0 : p0.length = n_0) (qc0 : p0.length ≤ cap_0) (qp0 : RdF S__2_int.E w [] sp_0 p0) (h : fn56 F p0 p1 = some r) : Ret Try.prog 56 [.slice sp_0 n_0 cap_0, .int .i64 p1] w ⟨[], []⟩ (post56 r) := by
 unfold fn56 at h
 refine Ret.of_body Try.func56 rfl Try.ntmps56 rfl (fun _ hx => absurd hx List.not_mem_nil) List.nodup_nil (TC.seq (TC.region (TO.u rfl rfl (TX.assign rfl rfl (TO.nil (TE.thenN rfl rfl (TC.seq (TC.seq (TC.region (TO.u rfl rfl (TX.move rfl rfl (TO.u rfl rfl (TX.ibin rfl rfl rfl rfl (TO.nil (TE.thenN rfl rfl (TC.cond rfl (fun hb1 => ?_) (fun hb1 => ?_)))))))))))))))))
 · replace h := it h hb1
   refine TC.region ?_
   cases h
 replace h := ie h hb1
 refine TC.skip (TE.thenN rfl rfl (TC.seq (TC.region (TO.u rfl rfl (TX.move rfl rfl (TO.u rfl rfl (TX.lenS (xs := p0) Try.runUnderlying49 rfl qn0 rfl (TO.u rfl rfl (TX.conv Try.runUnderlying3 Try.runUnderlying105 rfl rfl (TO.u rfl rfl (TX.move rfl rfl (TO.u rfl rfl (TX.conv Try.runUnderlying3 Try.runUnderlying105 rfl rfl ?_)))))))))))))
 obtain ⟨v2, hv2, h⟩ := bp h
 refine TO.u rfl rfl (TX.callP Try.call79 rfl (fun a w s => c79 (IntKind.u64.wrap (p0.length : Int)) (IntKind.u64.wrap p1) _ _  hv2) rfl (TO.u rfl rfl (TX.move rfl rfl (TO.u rfl rfl (TX.extract rfl rfl rfl (TO.u rfl rfl (TX.extract rfl rfl rfl (TO.u rfl rfl (TX.assign rfl rfl (TO.u rfl rfl (TX.assign rfl rfl (TO.nil (TE.thenN rfl rfl (TC.seq (TC.seq (TC.region (TO.u rfl rfl (TX.move rfl rfl (TO.u rfl rfl (TX.ibin rfl rfl rfl rfl (TO.u rfl rfl (TX.move rfl rfl (TO.cutS 3 [(26, .bool ((decide ((0 : Int) < v2.1)) || (decide ((9223372036854775807 : Int) < v2.2))))] ?_ ?_)))))))))))))))))))))))
 · cases hc3 : (decide ((0 : Int) < v2.1))
   · exact TO.g rfl rfl rfl rfl (TX.move rfl rfl (TO.g rfl rfl rfl rfl (TX.ibin rfl rfl rfl rfl (TO.u rfl rfl (TX.pickF rfl rfl rfl (TO.nil (TE.cutS 3 rfl rfl ⟨rfl, trivial⟩)))))))
   exact TO.s rfl rfl rfl rfl rfl rfl (TO.s rfl rfl rfl rfl rfl rfl (TO.u rfl rfl (TX.pickT rfl rfl rfl (TO.nil (TE.cutS 3 rfl rfl ⟨rfl, trivial⟩)))))
 refine TO.nil (TE.thenN rfl rfl (TC.cond rfl (fun hb4 => ?_) (fun hb4 => ?_)))
 · replace h := it h hb4
   refine TC.region ?_
   cases h
 replace h := ie h hb4
 refine TC.skip (TE.thenN rfl rfl (TC.seq (TC.region (TO.u rfl rfl (TX.move rfl rfl (TO.u rfl rfl (TX.conv Try.runUnderlying105 Try.runUnderlying3 rfl rfl ?_)))))))
 obtain ⟨hk5, h⟩ := ck h
 refine TO.u rfl rfl (TX.makeS (N := S__2_int.E) (z := (⟨0, 0⟩ : S__2_int)) Try.runUnderlying49 Try.typeInfo51 rfl rfl rfl rfl rfl rfl hk5 rfl (fun sp6 Hs8 ho9 => (TO.u rfl rfl (TX.assign rfl rfl (TO.nil (TE.thenN rfl rfl (TC.seq (TC.region (TO.u rfl rfl (TX.move rfl rfl (TO.u rfl rfl (TX.move rfl rfl (TO.u rfl rfl (TX.copyS (N := S__2_int.E) (si := 0) (xs := List.replicate (IntKind.i64.wrap v2.2).toNat (⟨0, 0⟩ : S__2_int)) (ys := p0) (lo := 0) (hi := (List.replicate (IntKind.i64.wrap v2.2).toNat (⟨0, 0⟩ : S__2_int)).length) (sp := sp6) (cap := (IntKind.i64.wrap v2.2).toNat) Try.runUnderlying49 Try.typeInfo51 rfl rfl (.inl ⟨rfl, rfl⟩) List.length_replicate (Nat.le_refl _) rfl qn0 rfl ho9 (fun a w s => qp0 w s.ext) rfl (fun Hs10 _ S11 ho12 => ?_)))))))))))))))
 cases S11
 refine TO.u rfl rfl (TX.assign rfl rfl (TO.nil (TE.thenN rfl rfl (TC.seq (TC.block ?_)))))
 obtain ⟨o26011, hl26012, h⟩ := bd h
 refine TC.to (L' := [(7, .slice sp6 ((IntKind.i64.wrap v2.2).toNat) ((IntKind.i64.wrap v2.2).toNat)), (8, .int .i64 ((min p0.length (((List.replicate (IntKind.i64.wrap v2.2).toNat (⟨0, 0⟩ : S__2_int)).length) - 0) : Nat) : Int))]) (E' := []) (S' := [Hs10]) 0 0 ⟨rfl, rfl, trivial⟩ rfl rfl (TC.cutE 0 (fun L' H' => ∃ x26007 : List S__2_int, x26007 = o26011 ∧ ∃ Hs26009, OwnL S__2_int.E 51 sp6 ((IntKind.i64.wrap v2.2).toNat) x26007 Hs26009 ∧ x26007.length = ((IntKind.i64.wrap v2.2).toNat) ∧ L' = [(7, .slice sp6 ((IntKind.i64.wrap v2.2).toNat) ((IntKind.i64.wrap v2.2).toNat))] ∧ H' = ⟨[], [Hs26009]⟩) ?_ ?_)
 · have h026016 := h
   clear h
   refine TC.loop (fun (n : Nat) (s : (List S__2_int) × Int) => fn56_l1 n s.1 s.2) o26011 (fun _ => rfl) (fun (s : (List S__2_int) × Int) L' H' => match s with | (x26001, x26005) => ∃ Hs26003, OwnL S__2_int.E 51 sp6 ((IntKind.i64.wrap v2.2).toNat) x26001 Hs26003 ∧ x26001.length = ((IntKind.i64.wrap v2.2).toNat) ∧ L' = [(7, .slice sp6 ((IntKind.i64.wrap v2.2).toNat) ((IntKind.i64.wrap v2.2).toNat)), (8, .int .i64 x26005)] ∧ H' = ⟨[], [Hs26003]⟩) ?_ F (pasteX (List.replicate (IntKind.i64.wrap v2.2).toNat (⟨0, 0⟩ : S__2_int)) 0 (p0.take (((List.replicate (IntKind.i64.wrap v2.2).toNat (⟨0, 0⟩ : S__2_int)).length) - 0)), ((min p0.length (((List.replicate (IntKind.i64.wrap v2.2).toNat (⟨0, 0⟩ : S__2_int)).length) - 0) : Nat) : Int)) ⟨Hs10, ho12, ((pasteX_len (Nat.le_refl _)).trans List.length_replicate), rfl, rfl⟩ hl26012
   clear hl26012
   rintro K26013 n26014 ⟨x26001, x26005⟩ _ _ ⟨Hs26003, ho26004, hn26002, rfl, rfl⟩ h ih26015
   replace h := (fn56_l1_s n26014 x26001 x26005).symm.trans h
   refine TC.seq (TC.seq (TC.region (TO.u rfl rfl (TX.move rfl rfl (TO.u rfl rfl (TX.move rfl rfl (TO.u rfl rfl (TX.lenS (xs := x26001) Try.runUnderlying49 rfl hn26002 rfl (TO.u rfl rfl (TX.ibin rfl rfl rfl rfl (TO.nil (TE.thenN rfl rfl (TC.cond rfl (fun hb26017 => ?_) (fun hb26017 => ?_))))))))))))))
   · replace h := it h hb26017
     refine TC.skip (TE.thenN rfl rfl (TC.block ?_))
     obtain ⟨hk31501, h⟩ := ck h
     obtain ⟨hk34501, h⟩ := ck h
     refine TC.to (L' := [(7, .slice sp6 ((IntKind.i64.wrap v2.2).toNat) ((IntKind.i64.wrap v2.2).toNat)), (8, .int .i64 x26005)]) (E' := []) (S' := [Hs26003]) 0 0 ⟨rfl, rfl, trivial⟩ rfl rfl (TC.drawD hmix (fun T37501 hdef37502 => ?_))
     have hS27000_0 : ∀ (Hs35001 : Blocks), ∀ (ho35003 : OwnL S__2_int.E 51 sp6 ((IntKind.i64.wrap v2.2).toNat) (pasteX x26001 x26005.toNat ((cutX x26001 ((0 : Nat) : Int).toNat x26005.toNat).take ((((x26001.length : Nat) : Int).toNat) - x26005.toNat))) Hs35001), T37501 0 [true, true, true, true, true, true, true, true, true, true] [(7, .slice sp6 ((IntKind.i64.wrap v2.2).toNat) ((IntKind.i64.wrap v2.2).toNat)), (8, .int .i64 (IntKind.i64.wrap (x26005 + ((min (cutX x26001 ((0 : Nat) : Int).toNat x26005.toNat).length ((((x26001.length : Nat) : Int).toNat) - x26005.toNat) : Nat) : Int))))] ⟨[], [Hs35001]⟩ := by
      intro Hs35001 ho35003
      rw [hdef37502]
      exact TD.done rfl rfl (TE.blockN (TE.to (L' := [(7, .slice sp6 ((IntKind.i64.wrap v2.2).toNat) ((IntKind.i64.wrap v2.2).toNat)), (8, .int .i64 (IntKind.i64.wrap (x26005 + ((min (cutX x26001 ((0 : Nat) : Int).toNat x26005.toNat).length ((((x26001.length : Nat) : Int).toNat) - x26005.toNat) : Nat) : Int))))]) (E' := []) (S' := [Hs35001]) 0 0 ⟨rfl, rfl, trivial⟩ rfl rfl (ih26015 (pasteX x26001 x26005.toNat ((cutX x26001 ((0 : Nat) : Int).toNat x26005.toNat).take ((((x26001.length : Nat) : Int).toNat) - x26005.toNat)), IntKind.i64.wrap (x26005 + ((min (cutX x26001 ((0 : Nat) : Int).toNat x26005.toNat).length ((((x26001.length : Nat) : Int).toNat) - x26005.toNat) : Nat) : Int))) _ _ ⟨Hs35001, ho35003, ((pasteX_len (sliceOk_hi hk31501)).trans hn26002), rfl, rfl⟩ h)))
     have hS27000_1 : ∀ (Hs35001 : Blocks), ∀ (ho35003 : OwnL S__2_int.E 51 sp6 ((IntKind.i64.wrap v2.2).toNat) (pasteX x26001 x26005.toNat ((cutX x26001 ((0 : Nat) : Int).toNat x26005.toNat).take ((((x26001.length : Nat) : Int).toNat) - x26005.toNat))) Hs35001), T37501 1 [true, true, true, true, true, true, true, true, true, false] [(7, .slice sp6 ((IntKind.i64.wrap v2.2).toNat) ((IntKind.i64.wrap v2.2).toNat)), (8, .int .i64 x26005), (46, .int .i64 (IntKind.i64.wrap (x26005 + ((min (cutX x26001 ((0 : Nat) : Int).toNat x26005.toNat).length ((((x26001.length : Nat) : Int).toNat) - x26005.toNat) : Nat) : Int))))] ⟨[], [Hs35001]⟩ := by
      intro Hs35001 ho35003
      rw [hdef37502]
      refine TD.step [9] 9 rfl rfl rfl rfl rfl (EdgeOk.cons rfl ?_ ?_)
      · exact TO.u rfl rfl (TX.assign rfl rfl (TO.nil (TE.toh (TE.td ((hdef37502 _ _ _ _).mp (hS27000_0 Hs35001 ho35003))) 0 0 ⟨rfl, rfl, trivial⟩ rfl rfl)))
      exact EdgeOk.nil
     have hS27000_2 : ∀ (Hs35001 : Blocks), ∀ (ho35003 : OwnL S__2_int.E 51 sp6 ((IntKind.i64.wrap v2.2).toNat) (pasteX x26001 x26005.toNat ((cutX x26001 ((0 : Nat) : Int).toNat x26005.toNat).take ((((x26001.length : Nat) : Int).toNat) - x26005.toNat))) Hs35001), T37501 2 [true, true, true, true, true, true, true, true, false, false] [(7, .slice sp6 ((IntKind.i64.wrap v2.2).toNat) ((IntKind.i64.wrap v2.2).toNat)), (8, .int .i64 x26005), (38, .int .i64 x26005), (45, .int .i64 ((min (cutX x26001 ((0 : Nat) : Int).toNat x26005.toNat).length ((((x26001.length : Nat) : Int).toNat) - x26005.toNat) : Nat) : Int))] ⟨[], [Hs35001]⟩ := by
      intro Hs35001 ho35003
      rw [hdef37502]
      refine TD.step [8] 8 rfl rfl rfl rfl rfl (EdgeOk.cons rfl ?_ ?_)
      · exact TO.u rfl rfl (TX.ibin rfl rfl rfl rfl (TO.nil (TE.toh (TE.td ((hdef37502 _ _ _ _).mp (hS27000_1 Hs35001 ho35003))) 0 0 ⟨rfl, rfl, rfl, trivial⟩ rfl rfl)))
      exact EdgeOk.nil
     have hS27000_3 : T37501 3 [true, true, true, true, true, true, true, false, false, false] [(7, .slice sp6 ((IntKind.i64.wrap v2.2).toNat) ((IntKind.i64.wrap v2.2).toNat)), (8, .int .i64 x26005), (38, .int .i64 x26005), (41, .slice (subP sp6 S__2_int.E.sz ((IntKind.i64.wrap v2.2).toNat) x26005.toNat) (((x26001.length : Nat) : Int).toNat - x26005.toNat) (((IntKind.i64.wrap v2.2).toNat) - x26005.toNat)), (44, .slice (subP sp6 S__2_int.E.sz ((IntKind.i64.wrap v2.2).toNat) ((0 : Nat) : Int).toNat) (x26005.toNat - ((0 : Nat) : Int).toNat) (((IntKind.i64.wrap v2.2).toNat) - ((0 : Nat) : Int).toNat))] ⟨[], [Hs26003]⟩ := by
      rw [hdef37502]
      refine TD.step [7] 7 rfl rfl rfl rfl rfl (EdgeOk.cons rfl ?_ ?_)
      · refine TO.u rfl rfl (TX.copyS (N := S__2_int.E) (si := 0) (xs := x26001) (ys := cutX x26001 ((0 : Nat) : Int).toNat x26005.toNat) (lo := x26005.toNat) (hi := ((x26001.length : Nat) : Int).toNat) (sp := sp6) (cap := (IntKind.i64.wrap v2.2).toNat) Try.runUnderlying49 Try.typeInfo51 rfl rfl (.inr rfl) rfl (sliceOk_hi hk31501) rfl (cutX_length (sliceOk_hi hk34501)) rfl ho26004 (fun a w s => (ho26004.rd s (i := 0) rfl).sub (sliceOk_hi hk34501) (Nat.le_trans (sliceOk_hi hk34501) ho26004.le_cap)) rfl (fun Hs35001 _ S35002 ho35003 => ?_))
        cases S35002
        exact TO.nil (TE.toh (TE.td ((hdef37502 _ _ _ _).mp (hS27000_2 Hs35001 ho35003))) 0 0 ⟨rfl, rfl, rfl, rfl, trivial⟩ rfl rfl)
      exact EdgeOk.nil
     have hS27000_4 : ∀ (Hs35001 : Blocks), ∀ (ho35003 : OwnL S__2_int.E 51 sp6 ((IntKind.i64.wrap v2.2).toNat) (pasteX x26001 x26005.toNat ((cutX x26001 ((0 : Nat) : Int).toNat x26005.toNat).take ((((x26001.length : Nat) : Int).toNat) - x26005.toNat))) Hs35001), T37501 3 [false, true, true, true, true, true, true, true, false, false] [(7, .slice sp6 ((IntKind.i64.wrap v2.2).toNat) ((IntKind.i64.wrap v2.2).toNat)), (8, .int .i64 x26005), (45, .int .i64 ((min (cutX x26001 ((0 : Nat) : Int).toNat x26005.toNat).length ((((x26001.length : Nat) : Int).toNat) - x26005.toNat) : Nat) : Int))] ⟨[], [Hs35001]⟩ := by
      intro Hs35001 ho35003
      rw [hdef37502]
      refine TD.step [0] 0 rfl rfl rfl rfl rfl (EdgeOk.cons rfl ?_ ?_)
      · exact TO.u rfl rfl (TX.move rfl rfl (TO.nil (TE.toh (TE.td ((hdef37502 _ _ _ _).mp (hS27000_2 Hs35001 ho35003))) 0 0 ⟨rfl, rfl, rfl, rfl, trivial⟩ rfl rfl)))
      exact EdgeOk.nil
     have hS27000_5 : T37501 4 [true, true, true, true, true, true, false, false, false, false] [(7, .slice sp6 ((IntKind.i64.wrap v2.2).toNat) ((IntKind.i64.wrap v2.2).toNat)), (8, .int .i64 x26005), (38, .int .i64 x26005), (41, .slice (subP sp6 S__2_int.E.sz ((IntKind.i64.wrap v2.2).toNat) x26005.toNat) (((x26001.length : Nat) : Int).toNat - x26005.toNat) (((IntKind.i64.wrap v2.2).toNat) - x26005.toNat)), (42, .slice sp6 ((IntKind.i64.wrap v2.2).toNat) ((IntKind.i64.wrap v2.2).toNat)), (43, .int .i64 x26005)] ⟨[], [Hs26003]⟩ := by
      rw [hdef37502]
      refine TD.step [6] 6 rfl rfl rfl rfl rfl (EdgeOk.cons rfl ?_ ?_)
      · exact TO.u rfl rfl (TX.slice (l := ((0 : Nat) : Int)) (h := x26005) Try.runUnderlying49 Try.sizeOf51 rfl .none (.some rfl) ho26004.le_cap hk34501 rfl (TO.nil (TE.toh (TE.td ((hdef37502 _ _ _ _).mp (hS27000_3))) 0 0 ⟨rfl, rfl, rfl, rfl, rfl, trivial⟩ rfl rfl)))
      exact EdgeOk.nil
     have hS27000_6 : T37501 4 [true, true, true, false, true, true, true, false, false, false] [(7, .slice sp6 ((IntKind.i64.wrap v2.2).toNat) ((IntKind.i64.wrap v2.2).toNat)), (8, .int .i64 x26005), (38, .int .i64 x26005), (39, .slice sp6 ((IntKind.i64.wrap v2.2).toNat) ((IntKind.i64.wrap v2.2).toNat)), (40, .int .i64 x26005), (44, .slice (subP sp6 S__2_int.E.sz ((IntKind.i64.wrap v2.2).toNat) ((0 : Nat) : Int).toNat) (x26005.toNat - ((0 : Nat) : Int).toNat) (((IntKind.i64.wrap v2.2).toNat) - ((0 : Nat) : Int).toNat))] ⟨[], [Hs26003]⟩ := by
      rw [hdef37502]
      refine TD.step [3] 3 rfl rfl rfl rfl rfl (EdgeOk.cons rfl ?_ ?_)
      · exact TO.u rfl rfl (TX.slice (l := x26005) (h := ((x26001.length : Nat) : Int)) Try.runUnderlying49 Try.sizeOf51 rfl (.some rfl) (.len hn26002) ho26004.le_cap hk31501 rfl (TO.nil (TE.toh (TE.td ((hdef37502 _ _ _ _).mp (hS27000_3))) 0 0 ⟨rfl, rfl, rfl, rfl, rfl, trivial⟩ rfl rfl)))
      exact EdgeOk.nil
     have hS27000_7 : T37501 4 [false, true, true, true, true, true, true, false, false, false] [(7, .slice sp6 ((IntKind.i64.wrap v2.2).toNat) ((IntKind.i64.wrap v2.2).toNat)), (8, .int .i64 x26005), (41, .slice (subP sp6 S__2_int.E.sz ((IntKind.i64.wrap v2.2).toNat) x26005.toNat) (((x26001.length : Nat) : Int).toNat - x26005.toNat) (((IntKind.i64.wrap v2.2).toNat) - x26005.toNat)), (44, .slice (subP sp6 S__2_int.E.sz ((IntKind.i64.wrap v2.2).toNat) ((0 : Nat) : Int).toNat) (x26005.toNat - ((0 : Nat) : Int).toNat) (((IntKind.i64.wrap v2.2).toNat) - ((0 : Nat) : Int).toNat))] ⟨[], [Hs26003]⟩ := by
      rw [hdef37502]
      refine TD.step [0, 7] 0 rfl rfl rfl rfl rfl (EdgeOk.cons rfl ?_ ?_)
      · exact TO.u rfl rfl (TX.move rfl rfl (TO.nil (TE.toh (TE.td ((hdef37502 _ _ _ _).mp (hS27000_3))) 0 0 ⟨rfl, rfl, rfl, rfl, rfl, trivial⟩ rfl rfl)))
      refine EdgeOk.cons rfl ?_ ?_
      · refine TO.u rfl rfl (TX.copyS (N := S__2_int.E) (si := 0) (xs := x26001) (ys := cutX x26001 ((0 : Nat) : Int).toNat x26005.toNat) (lo := x26005.toNat) (hi := ((x26001.length : Nat) : Int).toNat) (sp := sp6) (cap := (IntKind.i64.wrap v2.2).toNat) Try.runUnderlying49 Try.typeInfo51 rfl rfl (.inr rfl) rfl (sliceOk_hi hk31501) rfl (cutX_length (sliceOk_hi hk34501)) rfl ho26004 (fun a w s => (ho26004.rd s (i := 0) rfl).sub (sliceOk_hi hk34501) (Nat.le_trans (sliceOk_hi hk34501) ho26004.le_cap)) rfl (fun Hs35001 _ S35002 ho35003 => ?_))
        cases S35002
        exact TO.nil (TE.toh (TE.td ((hdef37502 _ _ _ _).mp (hS27000_4 Hs35001 ho35003))) 0 0 ⟨rfl, rfl, rfl, trivial⟩ rfl rfl)
      exact EdgeOk.nil
     have hS27000_8 : T37501 5 [true, true, true, true, true, false, false, false, false, false] [(7, .slice sp6 ((IntKind.i64.wrap v2.2).toNat) ((IntKind.i64.wrap v2.2).toNat)), (8, .int .i64 x26005), (38, .int .i64 x26005), (41, .slice (subP sp6 S__2_int.E.sz ((IntKind.i64.wrap v2.2).toNat) x26005.toNat) (((x26001.length : Nat) : Int).toNat - x26005.toNat) (((IntKind.i64.wrap v2.2).toNat) - x26005.toNat)), (42, .slice sp6 ((IntKind.i64.wrap v2.2).toNat) ((IntKind.i64.wrap v2.2).toNat))] ⟨[], [Hs26003]⟩ := by
      rw [hdef37502]
      refine TD.step [5] 5 rfl rfl rfl rfl rfl (EdgeOk.cons rfl ?_ ?_)
      · exact TO.u rfl rfl (TX.move rfl rfl (TO.nil (TE.toh (TE.td ((hdef37502 _ _ _ _).mp (hS27000_5))) 0 0 ⟨rfl, rfl, rfl, rfl, rfl, rfl, trivial⟩ rfl rfl)))
      exact EdgeOk.nil
     have hS27000_9 : T37501 5 [true, true, true, true, false, true, false, false, false, false] [(7, .slice sp6 ((IntKind.i64.wrap v2.2).toNat) ((IntKind.i64.wrap v2.2).toNat)), (8, .int .i64 x26005), (38, .int .i64 x26005), (41, .slice (subP sp6 S__2_int.E.sz ((IntKind.i64.wrap v2.2).toNat) x26005.toNat) (((x26001.length : Nat) : Int).toNat - x26005.toNat) (((IntKind.i64.wrap v2.2).toNat) - x26005.toNat)), (43, .int .i64 x26005)] ⟨[], [Hs26003]⟩ := by
      rw [hdef37502]
      refine TD.step [4] 4 rfl rfl rfl rfl rfl (EdgeOk.cons rfl ?_ ?_)
      · exact TO.u rfl rfl (TX.move rfl rfl (TO.nil (TE.toh (TE.td ((hdef37502 _ _ _ _).mp (hS27000_5))) 0 0 ⟨rfl, rfl, rfl, rfl, rfl, rfl, trivial⟩ rfl rfl)))
      exact EdgeOk.nil
     have hS27000_10 : T37501 5 [true, true, true, false, true, true, false, false, false, false] [(7, .slice sp6 ((IntKind.i64.wrap v2.2).toNat) ((IntKind.i64.wrap v2.2).toNat)), (8, .int .i64 x26005), (38, .int .i64 x26005), (39, .slice sp6 ((IntKind.i64.wrap v2.2).toNat) ((IntKind.i64.wrap v2.2).toNat)), (40, .int .i64 x26005), (42, .slice sp6 ((IntKind.i64.wrap v2.2).toNat) ((IntKind.i64.wrap v2.2).toNat)), (43, .int .i64 x26005)] ⟨[], [Hs26003]⟩ := by
      rw [hdef37502]
      refine TD.step [3, 6] 3 rfl rfl rfl rfl rfl (EdgeOk.cons rfl ?_ ?_)
      · exact TO.u rfl rfl (TX.slice (l := x26005) (h := ((x26001.length : Nat) : Int)) Try.runUnderlying49 Try.sizeOf51 rfl (.some rfl) (.len hn26002) ho26004.le_cap hk31501 rfl (TO.nil (TE.toh (TE.td ((hdef37502 _ _ _ _).mp (hS27000_5))) 0 0 ⟨rfl, rfl, rfl, rfl, rfl, rfl, trivial⟩ rfl rfl)))
      refine EdgeOk.cons rfl ?_ ?_
      · exact TO.u rfl rfl (TX.slice (l := ((0 : Nat) : Int)) (h := x26005) Try.runUnderlying49 Try.sizeOf51 rfl .none (.some rfl) ho26004.le_cap hk34501 rfl (TO.nil (TE.toh (TE.td ((hdef37502 _ _ _ _).mp (hS27000_6))) 0 0 ⟨rfl, rfl, rfl, rfl, rfl, rfl, trivial⟩ rfl rfl)))
      exact EdgeOk.nil
     have hS27000_11 : T37501 5 [true, true, false, false, true, true, true, false, false, false] [(7, .slice sp6 ((IntKind.i64.wrap v2.2).toNat) ((IntKind.i64.wrap v2.2).toNat)), (8, .int .i64 x26005), (38, .int .i64 x26005), (39, .slice sp6 ((IntKind.i64.wrap v2.2).toNat) ((IntKind.i64.wrap v2.2).toNat)), (44, .slice (subP sp6 S__2_int.E.sz ((IntKind.i64.wrap v2.2).toNat) ((0 : Nat) : Int).toNat) (x26005.toNat - ((0 : Nat) : Int).toNat) (((IntKind.i64.wrap v2.2).toNat) - ((0 : Nat) : Int).toNat))] ⟨[], [Hs26003]⟩ := by
      rw [hdef37502]
      refine TD.step [2] 2 rfl rfl rfl rfl rfl (EdgeOk.cons rfl ?_ ?_)
      · exact TO.u rfl rfl (TX.move rfl rfl (TO.nil (TE.toh (TE.td ((hdef37502 _ _ _ _).mp (hS27000_6))) 0 0 ⟨rfl, rfl, rfl, rfl, rfl, rfl, trivial⟩ rfl rfl)))
      exact EdgeOk.nil
     have hS27000_12 : T37501 5 [true, false, true, false, true, true, true, false, false, false] [(7, .slice sp6 ((IntKind.i64.wrap v2.2).toNat) ((IntKind.i64.wrap v2.2).toNat)), (8, .int .i64 x26005), (38, .int .i64 x26005), (40, .int .i64 x26005), (44, .slice (subP sp6 S__2_int.E.sz ((IntKind.i64.wrap v2.2).toNat) ((0 : Nat) : Int).toNat) (x26005.toNat - ((0 : Nat) : Int).toNat) (((IntKind.i64.wrap v2.2).toNat) - ((0 : Nat) : Int).toNat))] ⟨[], [Hs26003]⟩ := by
      rw [hdef37502]
      refine TD.step [1] 1 rfl rfl rfl rfl rfl (EdgeOk.cons rfl ?_ ?_)
      · exact TO.u rfl rfl (TX.move rfl rfl (TO.nil (TE.toh (TE.td ((hdef37502 _ _ _ _).mp (hS27000_6))) 0 0 ⟨rfl, rfl, rfl, rfl, rfl, rfl, trivial⟩ rfl rfl)))
      exact EdgeOk.nil
     have hS27000_13 : T37501 5 [false, true, true, true, true, true, false, false, false, false] [(7, .slice sp6 ((IntKind.i64.wrap v2.2).toNat) ((IntKind.i64.wrap v2.2).toNat)), (8, .int .i64 x26005), (41, .slice (subP sp6 S__2_int.E.sz ((IntKind.i64.wrap v2.2).toNat) x26005.toNat) (((x26001.length : Nat) : Int).toNat - x26005.toNat) (((IntKind.i64.wrap v2.2).toNat) - x26005.toNat)), (42, .slice sp6 ((IntKind.i64.wrap v2.2).toNat) ((IntKind.i64.wrap v2.2).toNat)), (43, .int .i64 x26005)] ⟨[], [Hs26003]⟩ := by
      rw [hdef37502]
      refine TD.step [0, 6] 0 rfl rfl rfl rfl rfl (EdgeOk.cons rfl ?_ ?_)
      · exact TO.u rfl rfl (TX.move rfl rfl (TO.nil (TE.toh (TE.td ((hdef37502 _ _ _ _).mp (hS27000_5))) 0 0 ⟨rfl, rfl, rfl, rfl, rfl, rfl, trivial⟩ rfl rfl)))
      refine EdgeOk.cons rfl ?_ ?_
      · exact TO.u rfl rfl (TX.slice (l := ((0 : Nat) : Int)) (h := x26005) Try.runUnderlying49 Try.sizeOf51 rfl .none (.some rfl) ho26004.le_cap hk34501 rfl (TO.nil (TE.toh (TE.td ((hdef37502 _ _ _ _).mp (hS27000_7))) 0 0 ⟨rfl, rfl, rfl, rfl, trivial⟩ rfl rfl)))
      exact EdgeOk.nil
     have hS27000_14 : T37501 5 [false, true, true, false, true, true, true, false, false, false] [(7, .slice sp6 ((IntKind.i64.wrap v2.2).toNat) ((IntKind.i64.wrap v2.2).toNat)), (8, .int .i64 x26005), (39, .slice sp6 ((IntKind.i64.wrap v2.2).toNat) ((IntKind.i64.wrap v2.2).toNat)), (40, .int .i64 x26005), (44, .slice (subP sp6 S__2_int.E.sz ((IntKind.i64.wrap v2.2).toNat) ((0 : Nat) : Int).toNat) (x26005.toNat - ((0 : Nat) : Int).toNat) (((IntKind.i64.wrap v2.2).toNat) - ((0 : Nat) : Int).toNat))] ⟨[], [Hs26003]⟩ := by
      rw [hdef37502]
      refine TD.step [0, 3] 0 rfl rfl rfl rfl rfl (EdgeOk.cons rfl ?_ ?_)
      · exact TO.u rfl rfl (TX.move rfl rfl (TO.nil (TE.toh (TE.td ((hdef37502 _ _ _ _).mp (hS27000_6))) 0 0 ⟨rfl, rfl, rfl, rfl, rfl, rfl, trivial⟩ rfl rfl)))
      refine EdgeOk.cons rfl ?_ ?_
      · exact TO.u rfl rfl (TX.slice (l := x26005) (h := ((x26001.length : Nat) : Int)) Try.runUnderlying49 Try.sizeOf51 rfl (.some rfl) (.len hn26002) ho26004.le_cap hk31501 rfl (TO.nil (TE.toh (TE.td ((hdef37502 _ _ _ _).mp (hS27000_7))) 0 0 ⟨rfl, rfl, rfl, rfl, trivial⟩ rfl rfl)))
      exact EdgeOk.nil
     have hS27000_15 : T37501 6 [true, true, true, true, false, false, false, false, false, false] [(7, .slice sp6 ((IntKind.i64.wrap v2.2).toNat) ((IntKind.i64.wrap v2.2).toNat)), (8, .int .i64 x26005), (38, .int .i64 x26005), (41, .slice (subP sp6 S__2_int.E.sz ((IntKind.i64.wrap v2.2).toNat) x26005.toNat) (((x26001.length : Nat) : Int).toNat - x26005.toNat) (((IntKind.i64.wrap v2.2).toNat) - x26005.toNat))] ⟨[], [Hs26003]⟩ := by
      rw [hdef37502]
      refine TD.step [4, 5] 4 rfl rfl rfl rfl rfl (EdgeOk.cons rfl ?_ ?_)
      · exact TO.u rfl rfl (TX.move rfl rfl (TO.nil (TE.toh (TE.td ((hdef37502 _ _ _ _).mp (hS27000_8))) 0 0 ⟨rfl, rfl, rfl, rfl, rfl, trivial⟩ rfl rfl)))
      refine EdgeOk.cons rfl ?_ ?_
      · exact TO.u rfl rfl (TX.move rfl rfl (TO.nil (TE.toh (TE.td ((hdef37502 _ _ _ _).mp (hS27000_9))) 0 0 ⟨rfl, rfl, rfl, rfl, rfl, trivial⟩ rfl rfl)))
      exact EdgeOk.nil
     have hS27000_16 : T37501 6 [true, true, true, false, true, false, false, false, false, false] [(7, .slice sp6 ((IntKind.i64.wrap v2.2).toNat) ((IntKind.i64.wrap v2.2).toNat)), (8, .int .i64 x26005), (38, .int .i64 x26005), (39, .slice sp6 ((IntKind.i64.wrap v2.2).toNat) ((IntKind.i64.wrap v2.2).toNat)), (40, .int .i64 x26005), (42, .slice sp6 ((IntKind.i64.wrap v2.2).toNat) ((IntKind.i64.wrap v2.2).toNat))] ⟨[], [Hs26003]⟩ := by
      rw [hdef37502]
      refine TD.step [3, 5] 3 rfl rfl rfl rfl rfl (EdgeOk.cons rfl ?_ ?_)
      · exact TO.u rfl rfl (TX.slice (l := x26005) (h := ((x26001.length : Nat) : Int)) Try.runUnderlying49 Try.sizeOf51 rfl (.some rfl) (.len hn26002) ho26004.le_cap hk31501 rfl (TO.nil (TE.toh (TE.td ((hdef37502 _ _ _ _).mp (hS27000_8))) 0 0 ⟨rfl, rfl, rfl, rfl, rfl, trivial⟩ rfl rfl)))
      refine EdgeOk.cons rfl ?_ ?_
      · exact TO.u rfl rfl (TX.move rfl rfl (TO.nil (TE.toh (TE.td ((hdef37502 _ _ _ _).mp (hS27000_10))) 0 0 ⟨rfl, rfl, rfl, rfl, rfl, rfl, rfl, trivial⟩ rfl rfl)))
      exact EdgeOk.nil
     have hS27000_17 : T37501 6 [true, true, true, false, false, true, false, false, false, false] [(7, .slice sp6 ((IntKind.i64.wrap v2.2).toNat) ((IntKind.i64.wrap v2.2).toNat)), (8, .int .i64 x26005), (38, .int .i64 x26005), (39, .slice sp6 ((IntKind.i64.wrap v2.2).toNat) ((IntKind.i64.wrap v2.2).toNat)), (40, .int .i64 x26005), (43, .int .i64 x26005)] ⟨[], [Hs26003]⟩ := by
      rw [hdef37502]
      refine TD.step [3, 4] 3 rfl rfl rfl rfl rfl (EdgeOk.cons rfl ?_ ?_)
      · exact TO.u rfl rfl (TX.slice (l := x26005) (h := ((x26001.length : Nat) : Int)) Try.runUnderlying49 Try.sizeOf51 rfl (.some rfl) (.len hn26002) ho26004.le_cap hk31501 rfl (TO.nil (TE.toh (TE.td ((hdef37502 _ _ _ _).mp (hS27000_9))) 0 0 ⟨rfl, rfl, rfl, rfl, rfl, trivial⟩ rfl rfl)))
      refine EdgeOk.cons rfl ?_ ?_
      · exact TO.u rfl rfl (TX.move rfl rfl (TO.nil (TE.toh (TE.td ((hdef37502 _ _ _ _).mp (hS27000_10))) 0 0 ⟨rfl, rfl, rfl, rfl, rfl, rfl, rfl, trivial⟩ rfl rfl)))
      exact EdgeOk.nil
     have hS27000_18 : T37501 6 [true, true, false, false, true, true, false, false, false, false] [(7, .slice sp6 ((IntKind.i64.wrap v2.2).toNat) ((IntKind.i64.wrap v2.2).toNat)), (8, .int .i64 x26005), (38, .int .i64 x26005), (39, .slice sp6 ((IntKind.i64.wrap v2.2).toNat) ((IntKind.i64.wrap v2.2).toNat)), (42, .slice sp6 ((IntKind.i64.wrap v2.2).toNat) ((IntKind.i64.wrap v2.2).toNat)), (43, .int .i64 x26005)] ⟨[], [Hs26003]⟩ := by
      rw [hdef37502]
      refine TD.step [2, 6] 2 rfl rfl rfl rfl rfl (EdgeOk.cons rfl ?_ ?_)
      · exact TO.u rfl rfl (TX.move rfl rfl (TO.nil (TE.toh (TE.td ((hdef37502 _ _ _ _).mp (hS27000_10))) 0 0 ⟨rfl, rfl, rfl, rfl, rfl, rfl, rfl, trivial⟩ rfl rfl)))
      refine EdgeOk.cons rfl ?_ ?_
      · exact TO.u rfl rfl (TX.slice (l := ((0 : Nat) : Int)) (h := x26005) Try.runUnderlying49 Try.sizeOf51 rfl .none (.some rfl) ho26004.le_cap hk34501 rfl (TO.nil (TE.toh (TE.td ((hdef37502 _ _ _ _).mp (hS27000_11))) 0 0 ⟨rfl, rfl, rfl, rfl, rfl, trivial⟩ rfl rfl)))
      exact EdgeOk.nil
     have hS27000_19 : T37501 6 [true, false, true, false, true, true, false, false, false, false] [(7, .slice sp6 ((IntKind.i64.wrap v2.2).toNat) ((IntKind.i64.wrap v2.2).toNat)), (8, .int .i64 x26005), (38, .int .i64 x26005), (40, .int .i64 x26005), (42, .slice sp6 ((IntKind.i64.wrap v2.2).toNat) ((IntKind.i64.wrap v2.2).toNat)), (43, .int .i64 x26005)] ⟨[], [Hs26003]⟩ := by
      rw [hdef37502]
      refine TD.step [1, 6] 1 rfl rfl rfl rfl rfl (EdgeOk.cons rfl ?_ ?_)
      · exact TO.u rfl rfl (TX.move rfl rfl (TO.nil (TE.toh (TE.td ((hdef37502 _ _ _ _).mp (hS27000_10))) 0 0 ⟨rfl, rfl, rfl, rfl, rfl, rfl, rfl, trivial⟩ rfl rfl)))
      refine EdgeOk.cons rfl ?_ ?_
      · exact TO.u rfl rfl (TX.slice (l := ((0 : Nat) : Int)) (h := x26005) Try.runUnderlying49 Try.sizeOf51 rfl .none (.some rfl) ho26004.le_cap hk34501 rfl (TO.nil (TE.toh (TE.td ((hdef37502 _ _ _ _).mp (hS27000_12))) 0 0 ⟨rfl, rfl, rfl, rfl, rfl, trivial⟩ rfl rfl)))
      exact EdgeOk.nil
     have hS27000_20 : T37501 6 [true, false, false, false, true, true, true, false, false, false] [(7, .slice sp6 ((IntKind.i64.wrap v2.2).toNat) ((IntKind.i64.wrap v2.2).toNat)), (8, .int .i64 x26005), (38, .int .i64 x26005), (44, .slice (subP sp6 S__2_int.E.sz ((IntKind.i64.wrap v2.2).toNat) ((0 : Nat) : Int).toNat) (x26005.toNat - ((0 : Nat) : Int).toNat) (((IntKind.i64.wrap v2.2).toNat) - ((0 : Nat) : Int).toNat))] ⟨[], [Hs26003]⟩ := by
      rw [hdef37502]
      refine TD.step [1, 2] 1 rfl rfl rfl rfl rfl (EdgeOk.cons rfl ?_ ?_)
      · exact TO.u rfl rfl (TX.move rfl rfl (TO.nil (TE.toh (TE.td ((hdef37502 _ _ _ _).mp (hS27000_11))) 0 0 ⟨rfl, rfl, rfl, rfl, rfl, trivial⟩ rfl rfl)))
      refine EdgeOk.cons rfl ?_ ?_
      · exact TO.u rfl rfl (TX.move rfl rfl (TO.nil (TE.toh (TE.td ((hdef37502 _ _ _ _).mp (hS27000_12))) 0 0 ⟨rfl, rfl, rfl, rfl, rfl, trivial⟩ rfl rfl)))
      exact EdgeOk.nil
     have hS27000_21 : T37501 6 [false, true, true, true, true, false, false, false, false, false] [(7, .slice sp6 ((IntKind.i64.wrap v2.2).toNat) ((IntKind.i64.wrap v2.2).toNat)), (8, .int .i64 x26005), (41, .slice (subP sp6 S__2_int.E.sz ((IntKind.i64.wrap v2.2).toNat) x26005.toNat) (((x26001.length : Nat) : Int).toNat - x26005.toNat) (((IntKind.i64.wrap v2.2).toNat) - x26005.toNat)), (42, .slice sp6 ((IntKind.i64.wrap v2.2).toNat) ((IntKind.i64.wrap v2.2).toNat))] ⟨[], [Hs26003]⟩ := by
      rw [hdef37502]
      refine TD.step [0, 5] 0 rfl rfl rfl rfl rfl (EdgeOk.cons rfl ?_ ?_)
      · exact TO.u rfl rfl (TX.move rfl rfl (TO.nil (TE.toh (TE.td ((hdef37502 _ _ _ _).mp (hS27000_8))) 0 0 ⟨rfl, rfl, rfl, rfl, rfl, trivial⟩ rfl rfl)))
      refine EdgeOk.cons rfl ?_ ?_
      · exact TO.u rfl rfl (TX.move rfl rfl (TO.nil (TE.toh (TE.td ((hdef37502 _ _ _ _).mp (hS27000_13))) 0 0 ⟨rfl, rfl, rfl, rfl, rfl, trivial⟩ rfl rfl)))
      exact EdgeOk.nil
     have hS27000_22 : T37501 6 [false, true, true, true, false, true, false, false, false, false] [(7, .slice sp6 ((IntKind.i64.wrap v2.2).toNat) ((IntKind.i64.wrap v2.2).toNat)), (8, .int .i64 x26005), (41, .slice (subP sp6 S__2_int.E.sz ((IntKind.i64.wrap v2.2).toNat) x26005.toNat) (((x26001.length : Nat) : Int).toNat - x26005.toNat) (((IntKind.i64.wrap v2.2).toNat) - x26005.toNat)), (43, .int .i64 x26005)] ⟨[], [Hs26003]⟩ := by
      rw [hdef37502]
      refine TD.step [0, 4] 0 rfl rfl rfl rfl rfl (EdgeOk.cons rfl ?_ ?_)
      · exact TO.u rfl rfl (TX.move rfl rfl (TO.nil (TE.toh (TE.td ((hdef37502 _ _ _ _).mp (hS27000_9))) 0 0 ⟨rfl, rfl, rfl, rfl, rfl, trivial⟩ rfl rfl)))
      refine EdgeOk.cons rfl ?_ ?_
      · exact TO.u rfl rfl (TX.move rfl rfl (TO.nil (TE.toh (TE.td ((hdef37502 _ _ _ _).mp (hS27000_13))) 0 0 ⟨rfl, rfl, rfl, rfl, rfl, trivial⟩ rfl rfl)))
      exact EdgeOk.nil
     have hS27000_23 : T37501 6 [false, true, true, false, true, true, false, false, false, false] [(7, .slice sp6 ((IntKind.i64.wrap v2.2).toNat) ((IntKind.i64.wrap v2.2).toNat)), (8, .int .i64 x26005), (39, .slice sp6 ((IntKind.i64.wrap v2.2).toNat) ((IntKind.i64.wrap v2.2).toNat)), (40, .int .i64 x26005), (42, .slice sp6 ((IntKind.i64.wrap v2.2).toNat) ((IntKind.i64.wrap v2.2).toNat)), (43, .int .i64 x26005)] ⟨[], [Hs26003]⟩ := by
      rw [hdef37502]
      refine TD.step [0, 3, 6] 0 rfl rfl rfl rfl rfl (EdgeOk.cons rfl ?_ ?_)
      · exact TO.u rfl rfl (TX.move rfl rfl (TO.nil (TE.toh (TE.td ((hdef37502 _ _ _ _).mp (hS27000_10))) 0 0 ⟨rfl, rfl, rfl, rfl, rfl, rfl, rfl, trivial⟩ rfl rfl)))
      refine EdgeOk.cons rfl ?_ ?_
      · exact TO.u rfl rfl (TX.slice (l := x26005) (h := ((x26001.length : Nat) : Int)) Try.runUnderlying49 Try.sizeOf51 rfl (.some rfl) (.len hn26002) ho26004.le_cap hk31501 rfl (TO.nil (TE.toh (TE.td ((hdef37502 _ _ _ _).mp (hS27000_13))) 0 0 ⟨rfl, rfl, rfl, rfl, rfl, trivial⟩ rfl rfl)))
      refine EdgeOk.cons rfl ?_ ?_
      · exact TO.u rfl rfl (TX.slice (l := ((0 : Nat) : Int)) (h := x26005) Try.runUnderlying49 Try.sizeOf51 rfl .none (.some rfl) ho26004.le_cap hk34501 rfl (TO.nil (TE.toh (TE.td ((hdef37502 _ _ _ _).mp (hS27000_14))) 0 0 ⟨rfl, rfl, rfl, rfl, rfl, trivial⟩ rfl rfl)))
      exact EdgeOk.nil
     have hS27000_24 : T37501 6 [false, true, false, false, true, true, true, false, false, false] [(7, .slice sp6 ((IntKind.i64.wrap v2.2).toNat) ((IntKind.i64.wrap v2.2).toNat)), (8, .int .i64 x26005), (39, .slice sp6 ((IntKind.i64.wrap v2.2).toNat) ((IntKind.i64.wrap v2.2).toNat)), (44, .slice (subP sp6 S__2_int.E.sz ((IntKind.i64.wrap v2.2).toNat) ((0 : Nat) : Int).toNat) (x26005.toNat - ((0 : Nat) : Int).toNat) (((IntKind.i64.wrap v2.2).toNat) - ((0 : Nat) : Int).toNat))] ⟨[], [Hs26003]⟩ := by
      rw [hdef37502]
      refine TD.step [0, 2] 0 rfl rfl rfl rfl rfl (EdgeOk.cons rfl ?_ ?_)
      · exact TO.u rfl rfl (TX.move rfl rfl (TO.nil (TE.toh (TE.td ((hdef37502 _ _ _ _).mp (hS27000_11))) 0 0 ⟨rfl, rfl, rfl, rfl, rfl, trivial⟩ rfl rfl)))
      refine EdgeOk.cons rfl ?_ ?_
      · exact TO.u rfl rfl (TX.move rfl rfl (TO.nil (TE.toh (TE.td ((hdef37502 _ _ _ _).mp (hS27000_14))) 0 0 ⟨rfl, rfl, rfl, rfl, rfl, trivial⟩ rfl rfl)))
      exact EdgeOk.nil
     have hS27000_25 : T37501 6 [false, false, true, false, true, true, true, false, false, false] [(7, .slice sp6 ((IntKind.i64.wrap v2.2).toNat) ((IntKind.i64.wrap v2.2).toNat)), (8, .int .i64 x26005), (40, .int .i64 x26005), (44, .slice (subP sp6 S__2_int.E.sz ((IntKind.i64.wrap v2.2).toNat) ((0 : Nat) : Int).toNat) (x26005.toNat - ((0 : Nat) : Int).toNat) (((IntKind.i64.wrap v2.2).toNat) - ((0 : Nat) : Int).toNat))] ⟨[], [Hs26003]⟩ := by
      rw [hdef37502]
      refine TD.step [0, 1] 0 rfl rfl rfl rfl rfl (EdgeOk.cons rfl ?_ ?_)
      · exact TO.u rfl rfl (TX.move rfl rfl (TO.nil (TE.toh (TE.td ((hdef37502 _ _ _ _).mp (hS27000_12))) 0 0 ⟨rfl, rfl, rfl, rfl, rfl, trivial⟩ rfl rfl)))
      refine EdgeOk.cons rfl ?_ ?_
      · exact TO.u rfl rfl (TX.move rfl rfl (TO.nil (TE.toh (TE.td ((hdef37502 _ _ _ _).mp (hS27000_14))) 0 0 ⟨rfl, rfl, rfl, rfl, rfl, trivial⟩ rfl rfl)))
      exact EdgeOk.nil
     have hS27000_26 : T37501 7 [true, true, true, false, false, false, false, false, false, false] [(7, .slice sp6 ((IntKind.i64.wrap v2.2).toNat) ((IntKind.i64.wrap v2.2).toNat)), (8, .int .i64 x26005), (38, .int .i64 x26005), (39, .slice sp6 ((IntKind.i64.wrap v2.2).toNat) ((IntKind.i64.wrap v2.2).toNat)), (40, .int .i64 x26005)] ⟨[], [Hs26003]⟩ := by
      rw [hdef37502]
      refine TD.step [3, 4, 5] 3 rfl rfl rfl rfl rfl (EdgeOk.cons rfl ?_ ?_)
      · exact TO.u rfl rfl (TX.slice (l := x26005) (h := ((x26001.length : Nat) : Int)) Try.runUnderlying49 Try.sizeOf51 rfl (.some rfl) (.len hn26002) ho26004.le_cap hk31501 rfl (TO.nil (TE.toh (TE.td ((hdef37502 _ _ _ _).mp (hS27000_15))) 0 0 ⟨rfl, rfl, rfl, rfl, trivial⟩ rfl rfl)))
      refine EdgeOk.cons rfl ?_ ?_
      · exact TO.u rfl rfl (TX.move rfl rfl (TO.nil (TE.toh (TE.td ((hdef37502 _ _ _ _).mp (hS27000_16))) 0 0 ⟨rfl, rfl, rfl, rfl, rfl, rfl, trivial⟩ rfl rfl)))
      refine EdgeOk.cons rfl ?_ ?_
      · exact TO.u rfl rfl (TX.move rfl rfl (TO.nil (TE.toh (TE.td ((hdef37502 _ _ _ _).mp (hS27000_17))) 0 0 ⟨rfl, rfl, rfl, rfl, rfl, rfl, trivial⟩ rfl rfl)))
      exact EdgeOk.nil
     have hS27000_27 : T37501 7 [true, true, false, false, true, false, false, false, false, false] [(7, .slice sp6 ((IntKind.i64.wrap v2.2).toNat) ((IntKind.i64.wrap v2.2).toNat)), (8, .int .i64 x26005), (38, .int .i64 x26005), (39, .slice sp6 ((IntKind.i64.wrap v2.2).toNat) ((IntKind.i64.wrap v2.2).toNat)), (42, .slice sp6 ((IntKind.i64.wrap v2.2).toNat) ((IntKind.i64.wrap v2.2).toNat))] ⟨[], [Hs26003]⟩ := by
      rw [hdef37502]
      refine TD.step [2, 5] 2 rfl rfl rfl rfl rfl (EdgeOk.cons rfl ?_ ?_)
      · exact TO.u rfl rfl (TX.move rfl rfl (TO.nil (TE.toh (TE.td ((hdef37502 _ _ _ _).mp (hS27000_16))) 0 0 ⟨rfl, rfl, rfl, rfl, rfl, rfl, trivial⟩ rfl rfl)))
      refine EdgeOk.cons rfl ?_ ?_
      · exact TO.u rfl rfl (TX.move rfl rfl (TO.nil (TE.toh (TE.td ((hdef37502 _ _ _ _).mp (hS27000_18))) 0 0 ⟨rfl, rfl, rfl, rfl, rfl, rfl, trivial⟩ rfl rfl)))
      exact EdgeOk.nil
     have hS27000_28 : T37501 7 [true, true, false, false, false, true, false, false, false, false] [(7, .slice sp6 ((IntKind.i64.wrap v2.2).toNat) ((IntKind.i64.wrap v2.2).toNat)), (8, .int .i64 x26005), (38, .int .i64 x26005), (39, .slice sp6 ((IntKind.i64.wrap v2.2).toNat) ((IntKind.i64.wrap v2.2).toNat)), (43, .int .i64 x26005)] ⟨[], [Hs26003]⟩ := by
      rw [hdef37502]
      refine TD.step [2, 4] 2 rfl rfl rfl rfl rfl (EdgeOk.cons rfl ?_ ?_)
      · exact TO.u rfl rfl (TX.move rfl rfl (TO.nil (TE.toh (TE.td ((hdef37502 _ _ _ _).mp (hS27000_17))) 0 0 ⟨rfl, rfl, rfl, rfl, rfl, rfl, trivial⟩ rfl rfl)))
      refine EdgeOk.cons rfl ?_ ?_
      · exact TO.u rfl rfl (TX.move rfl rfl (TO.nil (TE.toh (TE.td ((hdef37502 _ _ _ _).mp (hS27000_18))) 0 0 ⟨rfl, rfl, rfl, rfl, rfl, rfl, trivial⟩ rfl rfl)))
      exact EdgeOk.nil
     have hS27000_29 : T37501 7 [true, false, true, false, true, false, false, false, false, false] [(7, .slice sp6 ((IntKind.i64.wrap v2.2).toNat) ((IntKind.i64.wrap v2.2).toNat)), (8, .int .i64 x26005), (38, .int .i64 x26005), (40, .int .i64 x26005), (42, .slice sp6 ((IntKind.i64.wrap v2.2).toNat) ((IntKind.i64.wrap v2.2).toNat))] ⟨[], [Hs26003]⟩ := by
      rw [hdef37502]
      refine TD.step [1, 5] 1 rfl rfl rfl rfl rfl (EdgeOk.cons rfl ?_ ?_)
      · exact TO.u rfl rfl (TX.move rfl rfl (TO.nil (TE.toh (TE.td ((hdef37502 _ _ _ _).mp (hS27000_16))) 0 0 ⟨rfl, rfl, rfl, rfl, rfl, rfl, trivial⟩ rfl rfl)))
      refine EdgeOk.cons rfl ?_ ?_
      · exact TO.u rfl rfl (TX.move rfl rfl (TO.nil (TE.toh (TE.td ((hdef37502 _ _ _ _).mp (hS27000_19))) 0 0 ⟨rfl, rfl, rfl, rfl, rfl, rfl, trivial⟩ rfl rfl)))
      exact EdgeOk.nil
     have hS27000_30 : T37501 7 [true, false, true, false, false, true, false, false, false, false] [(7, .slice sp6 ((IntKind.i64.wrap v2.2).toNat) ((IntKind.i64.wrap v2.2).toNat)), (8, .int .i64 x26005), (38, .int .i64 x26005), (40, .int .i64 x26005), (43, .int .i64 x26005)] ⟨[], [Hs26003]⟩ := by
      rw [hdef37502]
      refine TD.step [1, 4] 1 rfl rfl rfl rfl rfl (EdgeOk.cons rfl ?_ ?_)
      · exact TO.u rfl rfl (TX.move rfl rfl (TO.nil (TE.toh (TE.td ((hdef37502 _ _ _ _).mp (hS27000_17))) 0 0 ⟨rfl, rfl, rfl, rfl, rfl, rfl, trivial⟩ rfl rfl)))
      refine EdgeOk.cons rfl ?_ ?_
      · exact TO.u rfl rfl (TX.move rfl rfl (TO.nil (TE.toh (TE.td ((hdef37502 _ _ _ _).mp (hS27000_19))) 0 0 ⟨rfl, rfl, rfl, rfl, rfl, rfl, trivial⟩ rfl rfl)))
      exact EdgeOk.nil
     have hS27000_31 : T37501 7 [true, false, false, false, true, true, false, false, false, false] [(7, .slice sp6 ((IntKind.i64.wrap v2.2).toNat) ((IntKind.i64.wrap v2.2).toNat)), (8, .int .i64 x26005), (38, .int .i64 x26005), (42, .slice sp6 ((IntKind.i64.wrap v2.2).toNat) ((IntKind.i64.wrap v2.2).toNat)), (43, .int .i64 x26005)] ⟨[], [Hs26003]⟩ := by
      rw [hdef37502]
      refine TD.step [1, 2, 6] 1 rfl rfl rfl rfl rfl (EdgeOk.cons rfl ?_ ?_)
      · exact TO.u rfl rfl (TX.move rfl rfl (TO.nil (TE.toh (TE.td ((hdef37502 _ _ _ _).mp (hS27000_18))) 0 0 ⟨rfl, rfl, rfl, rfl, rfl, rfl, trivial⟩ rfl rfl)))
      refine EdgeOk.cons rfl ?_ ?_
      · exact TO.u rfl rfl (TX.move rfl rfl (TO.nil (TE.toh (TE.td ((hdef37502 _ _ _ _).mp (hS27000_19))) 0 0 ⟨rfl, rfl, rfl, rfl, rfl, rfl, trivial⟩ rfl rfl)))
      refine EdgeOk.cons rfl ?_ ?_
      · exact TO.u rfl rfl (TX.slice (l := ((0 : Nat) : Int)) (h := x26005) Try.runUnderlying49 Try.sizeOf51 rfl .none (.some rfl) ho26004.le_cap hk34501 rfl (TO.nil (TE.toh (TE.td ((hdef37502 _ _ _ _).mp (hS27000_20))) 0 0 ⟨rfl, rfl, rfl, rfl, trivial⟩ rfl rfl)))
      exact EdgeOk.nil
     have hS27000_32 : T37501 7 [false, true, true, true, false, false, false, false, false, false] [(7, .slice sp6 ((IntKind.i64.wrap v2.2).toNat) ((IntKind.i64.wrap v2.2).toNat)), (8, .int .i64 x26005), (41, .slice (subP sp6 S__2_int.E.sz ((IntKind.i64.wrap v2.2).toNat) x26005.toNat) (((x26001.length : Nat) : Int).toNat - x26005.toNat) (((IntKind.i64.wrap v2.2).toNat) - x26005.toNat))] ⟨[], [Hs26003]⟩ := by
      rw [hdef37502]
      refine TD.step [0, 4, 5] 0 rfl rfl rfl rfl rfl (EdgeOk.cons rfl ?_ ?_)
      · exact TO.u rfl rfl (TX.move rfl rfl (TO.nil (TE.toh (TE.td ((hdef37502 _ _ _ _).mp (hS27000_15))) 0 0 ⟨rfl, rfl, rfl, rfl, trivial⟩ rfl rfl)))
      refine EdgeOk.cons rfl ?_ ?_
      · exact TO.u rfl rfl (TX.move rfl rfl (TO.nil (TE.toh (TE.td ((hdef37502 _ _ _ _).mp (hS27000_21))) 0 0 ⟨rfl, rfl, rfl, rfl, trivial⟩ rfl rfl)))
      refine EdgeOk.cons rfl ?_ ?_
      · exact TO.u rfl rfl (TX.move rfl rfl (TO.nil (TE.toh (TE.td ((hdef37502 _ _ _ _).mp (hS27000_22))) 0 0 ⟨rfl, rfl, rfl, rfl, trivial⟩ rfl rfl)))
      exact EdgeOk.nil
     have hS27000_33 : T37501 7 [false, true, true, false, true, false, false, false, false, false] [(7, .slice sp6 ((IntKind.i64.wrap v2.2).toNat) ((IntKind.i64.wrap v2.2).toNat)), (8, .int .i64 x26005), (39, .slice sp6 ((IntKind.i64.wrap v2.2).toNat) ((IntKind.i64.wrap v2.2).toNat)), (40, .int .i64 x26005), (42, .slice sp6 ((IntKind.i64.wrap v2.2).toNat) ((IntKind.i64.wrap v2.2).toNat))] ⟨[], [Hs26003]⟩ := by
      rw [hdef37502]
      refine TD.step [0, 3, 5] 0 rfl rfl rfl rfl rfl (EdgeOk.cons rfl ?_ ?_)
      · exact TO.u rfl rfl (TX.move rfl rfl (TO.nil (TE.toh (TE.td ((hdef37502 _ _ _ _).mp (hS27000_16))) 0 0 ⟨rfl, rfl, rfl, rfl, rfl, rfl, trivial⟩ rfl rfl)))
      refine EdgeOk.cons rfl ?_ ?_
      · exact TO.u rfl rfl (TX.slice (l := x26005) (h := ((x26001.length : Nat) : Int)) Try.runUnderlying49 Try.sizeOf51 rfl (.some rfl) (.len hn26002) ho26004.le_cap hk31501 rfl (TO.nil (TE.toh (TE.td ((hdef37502 _ _ _ _).mp (hS27000_21))) 0 0 ⟨rfl, rfl, rfl, rfl, trivial⟩ rfl rfl)))
      refine EdgeOk.cons rfl ?_ ?_
      · exact TO.u rfl rfl (TX.move rfl rfl (TO.nil (TE.toh (TE.td ((hdef37502 _ _ _ _).mp (hS27000_23))) 0 0 ⟨rfl, rfl, rfl, rfl, rfl, rfl, trivial⟩ rfl rfl)))
      exact EdgeOk.nil
     have hS27000_34 : T37501 7 [false, true, true, false, false, true, false, false, false, false] [(7, .slice sp6 ((IntKind.i64.wrap v2.2).toNat) ((IntKind.i64.wrap v2.2).toNat)), (8, .int .i64 x26005), (39, .slice sp6 ((IntKind.i64.wrap v2.2).toNat) ((IntKind.i64.wrap v2.2).toNat)), (40, .int .i64 x26005), (43, .int .i64 x26005)] ⟨[], [Hs26003]⟩ := by
      rw [hdef37502]
      refine TD.step [0, 3, 4] 0 rfl rfl rfl rfl rfl (EdgeOk.cons rfl ?_ ?_)
      · exact TO.u rfl rfl (TX.move rfl rfl (TO.nil (TE.toh (TE.td ((hdef37502 _ _ _ _).mp (hS27000_17))) 0 0 ⟨rfl, rfl, rfl, rfl, rfl, rfl, trivial⟩ rfl rfl)))
      refine EdgeOk.cons rfl ?_ ?_
      · exact TO.u rfl rfl (TX.slice (l := x26005) (h := ((x26001.length : Nat) : Int)) Try.runUnderlying49 Try.sizeOf51 rfl (.some rfl) (.len hn26002) ho26004.le_cap hk31501 rfl (TO.nil (TE.toh (TE.td ((hdef37502 _ _ _ _).mp (hS27000_22))) 0 0 ⟨rfl, rfl, rfl, rfl, trivial⟩ rfl rfl)))
      refine EdgeOk.cons rfl ?_ ?_
      · exact TO.u rfl rfl (TX.move rfl rfl (TO.nil (TE.toh (TE.td ((hdef37502 _ _ _ _).mp (hS27000_23))) 0 0 ⟨rfl, rfl, rfl, rfl, rfl, rfl, trivial⟩ rfl rfl)))
      exact EdgeOk.nil
     have hS27000_35 : T37501 7 [false, true, false, false, true, true, false, false, false, false] [(7, .slice sp6 ((IntKind.i64.wrap v2.2).toNat) ((IntKind.i64.wrap v2.2).toNat)), (8, .int .i64 x26005), (39, .slice sp6 ((IntKind.i64.wrap v2.2).toNat) ((IntKind.i64.wrap v2.2).toNat)), (42, .slice sp6 ((IntKind.i64.wrap v2.2).toNat) ((IntKind.i64.wrap v2.2).toNat)), (43, .int .i64 x26005)] ⟨[], [Hs26003]⟩ := by
      rw [hdef37502]
      refine TD.step [0, 2, 6] 0 rfl rfl rfl rfl rfl (EdgeOk.cons rfl ?_ ?_)
      · exact TO.u rfl rfl (TX.move rfl rfl (TO.nil (TE.toh (TE.td ((hdef37502 _ _ _ _).mp (hS27000_18))) 0 0 ⟨rfl, rfl, rfl, rfl, rfl, rfl, trivial⟩ rfl rfl)))
      refine EdgeOk.cons rfl ?_ ?_
      · exact TO.u rfl rfl (TX.move rfl rfl (TO.nil (TE.toh (TE.td ((hdef37502 _ _ _ _).mp (hS27000_23))) 0 0 ⟨rfl, rfl, rfl, rfl, rfl, rfl, trivial⟩ rfl rfl)))
      refine EdgeOk.cons rfl ?_ ?_
      · exact TO.u rfl rfl (TX.slice (l := ((0 : Nat) : Int)) (h := x26005) Try.runUnderlying49 Try.sizeOf51 rfl .none (.some rfl) ho26004.le_cap hk34501 rfl (TO.nil (TE.toh (TE.td ((hdef37502 _ _ _ _).mp (hS27000_24))) 0 0 ⟨rfl, rfl, rfl, rfl, trivial⟩ rfl rfl)))
      exact EdgeOk.nil
     have hS27000_36 : T37501 7 [false, false, true, false, true, true, false, false, false, false] [(7, .slice sp6 ((IntKind.i64.wrap v2.2).toNat) ((IntKind.i64.wrap v2.2).toNat)), (8, .int .i64 x26005), (40, .int .i64 x26005), (42, .slice sp6 ((IntKind.i64.wrap v2.2).toNat) ((IntKind.i64.wrap v2.2).toNat)), (43, .int .i64 x26005)] ⟨[], [Hs26003]⟩ := by
      rw [hdef37502]
      refine TD.step [0, 1, 6] 0 rfl rfl rfl rfl rfl (EdgeOk.cons rfl ?_ ?_)
      · exact TO.u rfl rfl (TX.move rfl rfl (TO.nil (TE.toh (TE.td ((hdef37502 _ _ _ _).mp (hS27000_19))) 0 0 ⟨rfl, rfl, rfl, rfl, rfl, rfl, trivial⟩ rfl rfl)))
      refine EdgeOk.cons rfl ?_ ?_
      · exact TO.u rfl rfl (TX.move rfl rfl (TO.nil (TE.toh (TE.td ((hdef37502 _ _ _ _).mp (hS27000_23))) 0 0 ⟨rfl, rfl, rfl, rfl, rfl, rfl, trivial⟩ rfl rfl)))
      refine EdgeOk.cons rfl ?_ ?_
      · exact TO.u rfl rfl (TX.slice (l := ((0 : Nat) : Int)) (h := x26005) Try.runUnderlying49 Try.sizeOf51 rfl .none (.some rfl) ho26004.le_cap hk34501 rfl (TO.nil (TE.toh (TE.td ((hdef37502 _ _ _ _).mp (hS27000_25))) 0 0 ⟨rfl, rfl, rfl, rfl, trivial⟩ rfl rfl)))
      exact EdgeOk.nil
     have hS27000_37 : T37501 7 [false, false, false, false, true, true, true, false, false, false] [(7, .slice sp6 ((IntKind.i64.wrap v2.2).toNat) ((IntKind.i64.wrap v2.2).toNat)), (8, .int .i64 x26005), (44, .slice (subP sp6 S__2_int.E.sz ((IntKind.i64.wrap v2.2).toNat) ((0 : Nat) : Int).toNat) (x26005.toNat - ((0 : Nat) : Int).toNat) (((IntKind.i64.wrap v2.2).toNat) - ((0 : Nat) : Int).toNat))] ⟨[], [Hs26003]⟩ := by
      rw [hdef37502]
      refine TD.step [0, 1, 2] 0 rfl rfl rfl rfl rfl (EdgeOk.cons rfl ?_ ?_)
      · exact TO.u rfl rfl (TX.move rfl rfl (TO.nil (TE.toh (TE.td ((hdef37502 _ _ _ _).mp (hS27000_20))) 0 0 ⟨rfl, rfl, rfl, rfl, trivial⟩ rfl rfl)))
      refine EdgeOk.cons rfl ?_ ?_
      · exact TO.u rfl rfl (TX.move rfl rfl (TO.nil (TE.toh (TE.td ((hdef37502 _ _ _ _).mp (hS27000_24))) 0 0 ⟨rfl, rfl, rfl, rfl, trivial⟩ rfl rfl)))
      refine EdgeOk.cons rfl ?_ ?_
      · exact TO.u rfl rfl (TX.move rfl rfl (TO.nil (TE.toh (TE.td ((hdef37502 _ _ _ _).mp (hS27000_25))) 0 0 ⟨rfl, rfl, rfl, rfl, trivial⟩ rfl rfl)))
      exact EdgeOk.nil
     have hS27000_38 : T37501 8 [true, true, false, false, false, false, false, false, false, false] [(7, .slice sp6 ((IntKind.i64.wrap v2.2).toNat) ((IntKind.i64.wrap v2.2).toNat)), (8, .int .i64 x26005), (38, .int .i64 x26005), (39, .slice sp6 ((IntKind.i64.wrap v2.2).toNat) ((IntKind.i64.wrap v2.2).toNat))] ⟨[], [Hs26003]⟩ := by
      rw [hdef37502]
      refine TD.step [2, 4, 5] 2 rfl rfl rfl rfl rfl (EdgeOk.cons rfl ?_ ?_)
      · exact TO.u rfl rfl (TX.move rfl rfl (TO.nil (TE.toh (TE.td ((hdef37502 _ _ _ _).mp (hS27000_26))) 0 0 ⟨rfl, rfl, rfl, rfl, rfl, trivial⟩ rfl rfl)))
      refine EdgeOk.cons rfl ?_ ?_
      · exact TO.u rfl rfl (TX.move rfl rfl (TO.nil (TE.toh (TE.td ((hdef37502 _ _ _ _).mp (hS27000_27))) 0 0 ⟨rfl, rfl, rfl, rfl, rfl, trivial⟩ rfl rfl)))
      refine EdgeOk.cons rfl ?_ ?_
      · exact TO.u rfl rfl (TX.move rfl rfl (TO.nil (TE.toh (TE.td ((hdef37502 _ _ _ _).mp (hS27000_28))) 0 0 ⟨rfl, rfl, rfl, rfl, rfl, trivial⟩ rfl rfl)))
      exact EdgeOk.nil
     have hS27000_39 : T37501 8 [true, false, true, false, false, false, false, false, false, false] [(7, .slice sp6 ((IntKind.i64.wrap v2.2).toNat) ((IntKind.i64.wrap v2.2).toNat)), (8, .int .i64 x26005), (38, .int .i64 x26005), (40, .int .i64 x26005)] ⟨[], [Hs26003]⟩ := by
      rw [hdef37502]
      refine TD.step [1, 4, 5] 1 rfl rfl rfl rfl rfl (EdgeOk.cons rfl ?_ ?_)
      · exact TO.u rfl rfl (TX.move rfl rfl (TO.nil (TE.toh (TE.td ((hdef37502 _ _ _ _).mp (hS27000_26))) 0 0 ⟨rfl, rfl, rfl, rfl, rfl, trivial⟩ rfl rfl)))
      refine EdgeOk.cons rfl ?_ ?_
      · exact TO.u rfl rfl (TX.move rfl rfl (TO.nil (TE.toh (TE.td ((hdef37502 _ _ _ _).mp (hS27000_29))) 0 0 ⟨rfl, rfl, rfl, rfl, rfl, trivial⟩ rfl rfl)))
      refine EdgeOk.cons rfl ?_ ?_
      · exact TO.u rfl rfl (TX.move rfl rfl (TO.nil (TE.toh (TE.td ((hdef37502 _ _ _ _).mp (hS27000_30))) 0 0 ⟨rfl, rfl, rfl, rfl, rfl, trivial⟩ rfl rfl)))
      exact EdgeOk.nil
     have hS27000_40 : T37501 8 [true, false, false, false, true, false, false, false, false, false] [(7, .slice sp6 ((IntKind.i64.wrap v2.2).toNat) ((IntKind.i64.wrap v2.2).toNat)), (8, .int .i64 x26005), (38, .int .i64 x26005), (42, .slice sp6 ((IntKind.i64.wrap v2.2).toNat) ((IntKind.i64.wrap v2.2).toNat))] ⟨[], [Hs26003]⟩ := by
      rw [hdef37502]
      refine TD.step [1, 2, 5] 1 rfl rfl rfl rfl rfl (EdgeOk.cons rfl ?_ ?_)
      · exact TO.u rfl rfl (TX.move rfl rfl (TO.nil (TE.toh (TE.td ((hdef37502 _ _ _ _).mp (hS27000_27))) 0 0 ⟨rfl, rfl, rfl, rfl, rfl, trivial⟩ rfl rfl)))
      refine EdgeOk.cons rfl ?_ ?_
      · exact TO.u rfl rfl (TX.move rfl rfl (TO.nil (TE.toh (TE.td ((hdef37502 _ _ _ _).mp (hS27000_29))) 0 0 ⟨rfl, rfl, rfl, rfl, rfl, trivial⟩ rfl rfl)))
      refine EdgeOk.cons rfl ?_ ?_
      · exact TO.u rfl rfl (TX.move rfl rfl (TO.nil (TE.toh (TE.td ((hdef37502 _ _ _ _).mp (hS27000_31))) 0 0 ⟨rfl, rfl, rfl, rfl, rfl, trivial⟩ rfl rfl)))
      exact EdgeOk.nil
     have hS27000_41 : T37501 8 [true, false, false, false, false, true, false, false, false, false] [(7, .slice sp6 ((IntKind.i64.wrap v2.2).toNat) ((IntKind.i64.wrap v2.2).toNat)), (8, .int .i64 x26005), (38, .int .i64 x26005), (43, .int .i64 x26005)] ⟨[], [Hs26003]⟩ := by
      rw [hdef37502]
      refine TD.step [1, 2, 4] 1 rfl rfl rfl rfl rfl (EdgeOk.cons rfl ?_ ?_)
      · exact TO.u rfl rfl (TX.move rfl rfl (TO.nil (TE.toh (TE.td ((hdef37502 _ _ _ _).mp (hS27000_28))) 0 0 ⟨rfl, rfl, rfl, rfl, rfl, trivial⟩ rfl rfl)))
      refine EdgeOk.cons rfl ?_ ?_
      · exact TO.u rfl rfl (TX.move rfl rfl (TO.nil (TE.toh (TE.td ((hdef37502 _ _ _ _).mp (hS27000_30))) 0 0 ⟨rfl, rfl, rfl, rfl, rfl, trivial⟩ rfl rfl)))
      refine EdgeOk.cons rfl ?_ ?_
      · exact TO.u rfl rfl (TX.move rfl rfl (TO.nil (TE.toh (TE.td ((hdef37502 _ _ _ _).mp (hS27000_31))) 0 0 ⟨rfl, rfl, rfl, rfl, rfl, trivial⟩ rfl rfl)))
      exact EdgeOk.nil
     have hS27000_42 : T37501 8 [false, true, true, false, false, false, false, false, false, false] [(7, .slice sp6 ((IntKind.i64.wrap v2.2).toNat) ((IntKind.i64.wrap v2.2).toNat)), (8, .int .i64 x26005), (39, .slice sp6 ((IntKind.i64.wrap v2.2).toNat) ((IntKind.i64.wrap v2.2).toNat)), (40, .int .i64 x26005)] ⟨[], [Hs26003]⟩ := by
      rw [hdef37502]
      refine TD.step [0, 3, 4, 5] 0 rfl rfl rfl rfl rfl (EdgeOk.cons rfl ?_ ?_)
      · exact TO.u rfl rfl (TX.move rfl rfl (TO.nil (TE.toh (TE.td ((hdef37502 _ _ _ _).mp (hS27000_26))) 0 0 ⟨rfl, rfl, rfl, rfl, rfl, trivial⟩ rfl rfl)))
      refine EdgeOk.cons rfl ?_ ?_
      · exact TO.u rfl rfl (TX.slice (l := x26005) (h := ((x26001.length : Nat) : Int)) Try.runUnderlying49 Try.sizeOf51 rfl (.some rfl) (.len hn26002) ho26004.le_cap hk31501 rfl (TO.nil (TE.toh (TE.td ((hdef37502 _ _ _ _).mp (hS27000_32))) 0 0 ⟨rfl, rfl, rfl, trivial⟩ rfl rfl)))
      refine EdgeOk.cons rfl ?_ ?_
      · exact TO.u rfl rfl (TX.move rfl rfl (TO.nil (TE.toh (TE.td ((hdef37502 _ _ _ _).mp (hS27000_33))) 0 0 ⟨rfl, rfl, rfl, rfl, rfl, trivial⟩ rfl rfl)))
      refine EdgeOk.cons rfl ?_ ?_
      · exact TO.u rfl rfl (TX.move rfl rfl (TO.nil (TE.toh (TE.td ((hdef37502 _ _ _ _).mp (hS27000_34))) 0 0 ⟨rfl, rfl, rfl, rfl, rfl, trivial⟩ rfl rfl)))
      exact EdgeOk.nil
     have hS27000_43 : T37501 8 [false, true, false, false, true, false, false, false, false, false] [(7, .slice sp6 ((IntKind.i64.wrap v2.2).toNat) ((IntKind.i64.wrap v2.2).toNat)), (8, .int .i64 x26005), (39, .slice sp6 ((IntKind.i64.wrap v2.2).toNat) ((IntKind.i64.wrap v2.2).toNat)), (42, .slice sp6 ((IntKind.i64.wrap v2.2).toNat) ((IntKind.i64.wrap v2.2).toNat))] ⟨[], [Hs26003]⟩ := by
      rw [hdef37502]
      refine TD.step [0, 2, 5] 0 rfl rfl rfl rfl rfl (EdgeOk.cons rfl ?_ ?_)
      · exact TO.u rfl rfl (TX.move rfl rfl (TO.nil (TE.toh (TE.td ((hdef37502 _ _ _ _).mp (hS27000_27))) 0 0 ⟨rfl, rfl, rfl, rfl, rfl, trivial⟩ rfl rfl)))
      refine EdgeOk.cons rfl ?_ ?_
      · exact TO.u rfl rfl (TX.move rfl rfl (TO.nil (TE.toh (TE.td ((hdef37502 _ _ _ _).mp (hS27000_33))) 0 0 ⟨rfl, rfl, rfl, rfl, rfl, trivial⟩ rfl rfl)))
      refine EdgeOk.cons rfl ?_ ?_
      · exact TO.u rfl rfl (TX.move rfl rfl (TO.nil (TE.toh (TE.td ((hdef37502 _ _ _ _).mp (hS27000_35))) 0 0 ⟨rfl, rfl, rfl, rfl, rfl, trivial⟩ rfl rfl)))
      exact EdgeOk.nil
     have hS27000_44 : T37501 8 [false, true, false, false, false, true, false, false, false, false] [(7, .slice sp6 ((IntKind.i64.wrap v2.2).toNat) ((IntKind.i64.wrap v2.2).toNat)), (8, .int .i64 x26005), (39, .slice sp6 ((IntKind.i64.wrap v2.2).toNat) ((IntKind.i64.wrap v2.2).toNat)), (43, .int .i64 x26005)] ⟨[], [Hs26003]⟩ := by
      rw [hdef37502]
      refine TD.step [0, 2, 4] 0 rfl rfl rfl rfl rfl (EdgeOk.cons rfl ?_ ?_)
      · exact TO.u rfl rfl (TX.move rfl rfl (TO.nil (TE.toh (TE.td ((hdef37502 _ _ _ _).mp (hS27000_28))) 0 0 ⟨rfl, rfl, rfl, rfl, rfl, trivial⟩ rfl rfl)))
      refine EdgeOk.cons rfl ?_ ?_
      · exact TO.u rfl rfl (TX.move rfl rfl (TO.nil (TE.toh (TE.td ((hdef37502 _ _ _ _).mp (hS27000_34))) 0 0 ⟨rfl, rfl, rfl, rfl, rfl, trivial⟩ rfl rfl)))
      refine EdgeOk.cons rfl ?_ ?_
      · exact TO.u rfl rfl (TX.move rfl rfl (TO.nil (TE.toh (TE.td ((hdef37502 _ _ _ _).mp (hS27000_35))) 0 0 ⟨rfl, rfl, rfl, rfl, rfl, trivial⟩ rfl rfl)))
      exact EdgeOk.nil
     have hS27000_45 : T37501 8 [false, false, true, false, true, false, false, false, false, false] [(7, .slice sp6 ((IntKind.i64.wrap v2.2).toNat) ((IntKind.i64.wrap v2.2).toNat)), (8, .int .i64 x26005), (40, .int .i64 x26005), (42, .slice sp6 ((IntKind.i64.wrap v2.2).toNat) ((IntKind.i64.wrap v2.2).toNat))] ⟨[], [Hs26003]⟩ := by
      rw [hdef37502]
      refine TD.step [0, 1, 5] 0 rfl rfl rfl rfl rfl (EdgeOk.cons rfl ?_ ?_)
      · exact TO.u rfl rfl (TX.move rfl rfl (TO.nil (TE.toh (TE.td ((hdef37502 _ _ _ _).mp (hS27000_29))) 0 0 ⟨rfl, rfl, rfl, rfl, rfl, trivial⟩ rfl rfl)))
      refine EdgeOk.cons rfl ?_ ?_
      · exact TO.u rfl rfl (TX.move rfl rfl (TO.nil (TE.toh (TE.td ((hdef37502 _ _ _ _).mp (hS27000_33))) 0 0 ⟨rfl, rfl, rfl, rfl, rfl, trivial⟩ rfl rfl)))
      refine EdgeOk.cons rfl ?_ ?_
      · exact TO.u rfl rfl (TX.move rfl rfl (TO.nil (TE.toh (TE.td ((hdef37502 _ _ _ _).mp (hS27000_36))) 0 0 ⟨rfl, rfl, rfl, rfl, rfl, trivial⟩ rfl rfl)))
      exact EdgeOk.nil
     have hS27000_46 : T37501 8 [false, false, true, false, false, true, false, false, false, false] [(7, .slice sp6 ((IntKind.i64.wrap v2.2).toNat) ((IntKind.i64.wrap v2.2).toNat)), (8, .int .i64 x26005), (40, .int .i64 x26005), (43, .int .i64 x26005)] ⟨[], [Hs26003]⟩ := by
      rw [hdef37502]
      refine TD.step [0, 1, 4] 0 rfl rfl rfl rfl rfl (EdgeOk.cons rfl ?_ ?_)
      · exact TO.u rfl rfl (TX.move rfl rfl (TO.nil (TE.toh (TE.td ((hdef37502 _ _ _ _).mp (hS27000_30))) 0 0 ⟨rfl, rfl, rfl, rfl, rfl, trivial⟩ rfl rfl)))
      refine EdgeOk.cons rfl ?_ ?_
      · exact TO.u rfl rfl (TX.move rfl rfl (TO.nil (TE.toh (TE.td ((hdef37502 _ _ _ _).mp (hS27000_34))) 0 0 ⟨rfl, rfl, rfl, rfl, rfl, trivial⟩ rfl rfl)))
      refine EdgeOk.cons rfl ?_ ?_
      · exact TO.u rfl rfl (TX.move rfl rfl (TO.nil (TE.toh (TE.td ((hdef37502 _ _ _ _).mp (hS27000_36))) 0 0 ⟨rfl, rfl, rfl, rfl, rfl, trivial⟩ rfl rfl)))
      exact EdgeOk.nil
     have hS27000_47 : T37501 8 [false, false, false, false, true, true, false, false, false, false] [(7, .slice sp6 ((IntKind.i64.wrap v2.2).toNat) ((IntKind.i64.wrap v2.2).toNat)), (8, .int .i64 x26005), (42, .slice sp6 ((IntKind.i64.wrap v2.2).toNat) ((IntKind.i64.wrap v2.2).toNat)), (43, .int .i64 x26005)] ⟨[], [Hs26003]⟩ := by
      rw [hdef37502]
      refine TD.step [0, 1, 2, 6] 0 rfl rfl rfl rfl rfl (EdgeOk.cons rfl ?_ ?_)
      · exact TO.u rfl rfl (TX.move rfl rfl (TO.nil (TE.toh (TE.td ((hdef37502 _ _ _ _).mp (hS27000_31))) 0 0 ⟨rfl, rfl, rfl, rfl, rfl, trivial⟩ rfl rfl)))
      refine EdgeOk.cons rfl ?_ ?_
      · exact TO.u rfl rfl (TX.move rfl rfl (TO.nil (TE.toh (TE.td ((hdef37502 _ _ _ _).mp (hS27000_35))) 0 0 ⟨rfl, rfl, rfl, rfl, rfl, trivial⟩ rfl rfl)))
      refine EdgeOk.cons rfl ?_ ?_
      · exact TO.u rfl rfl (TX.move rfl rfl (TO.nil (TE.toh (TE.td ((hdef37502 _ _ _ _).mp (hS27000_36))) 0 0 ⟨rfl, rfl, rfl, rfl, rfl, trivial⟩ rfl rfl)))
      refine EdgeOk.cons rfl ?_ ?_
      · exact TO.u rfl rfl (TX.slice (l := ((0 : Nat) : Int)) (h := x26005) Try.runUnderlying49 Try.sizeOf51 rfl .none (.some rfl) ho26004.le_cap hk34501 rfl (TO.nil (TE.toh (TE.td ((hdef37502 _ _ _ _).mp (hS27000_37))) 0 0 ⟨rfl, rfl, rfl, trivial⟩ rfl rfl)))
      exact EdgeOk.nil
     have hS27000_48 : T37501 9 [true, false, false, false, false, false, false, false, false, false] [(7, .slice sp6 ((IntKind.i64.wrap v2.2).toNat) ((IntKind.i64.wrap v2.2).toNat)), (8, .int .i64 x26005), (38, .int .i64 x26005)] ⟨[], [Hs26003]⟩ := by
      rw [hdef37502]
      refine TD.step [1, 2, 4, 5] 1 rfl rfl rfl rfl rfl (EdgeOk.cons rfl ?_ ?_)
      · exact TO.u rfl rfl (TX.move rfl rfl (TO.nil (TE.toh (TE.td ((hdef37502 _ _ _ _).mp (hS27000_38))) 0 0 ⟨rfl, rfl, rfl, rfl, trivial⟩ rfl rfl)))
      refine EdgeOk.cons rfl ?_ ?_
      · exact TO.u rfl rfl (TX.move rfl rfl (TO.nil (TE.toh (TE.td ((hdef37502 _ _ _ _).mp (hS27000_39))) 0 0 ⟨rfl, rfl, rfl, rfl, trivial⟩ rfl rfl)))
      refine EdgeOk.cons rfl ?_ ?_
      · exact TO.u rfl rfl (TX.move rfl rfl (TO.nil (TE.toh (TE.td ((hdef37502 _ _ _ _).mp (hS27000_40))) 0 0 ⟨rfl, rfl, rfl, rfl, trivial⟩ rfl rfl)))
      refine EdgeOk.cons rfl ?_ ?_
      · exact TO.u rfl rfl (TX.move rfl rfl (TO.nil (TE.toh (TE.td ((hdef37502 _ _ _ _).mp (hS27000_41))) 0 0 ⟨rfl, rfl, rfl, rfl, trivial⟩ rfl rfl)))
      exact EdgeOk.nil
     have hS27000_49 : T37501 9 [false, true, false, false, false, false, false, false, false, false] [(7, .slice sp6 ((IntKind.i64.wrap v2.2).toNat) ((IntKind.i64.wrap v2.2).toNat)), (8, .int .i64 x26005), (39, .slice sp6 ((IntKind.i64.wrap v2.2).toNat) ((IntKind.i64.wrap v2.2).toNat))] ⟨[], [Hs26003]⟩ := by
      rw [hdef37502]
      refine TD.step [0, 2, 4, 5] 0 rfl rfl rfl rfl rfl (EdgeOk.cons rfl ?_ ?_)
      · exact TO.u rfl rfl (TX.move rfl rfl (TO.nil (TE.toh (TE.td ((hdef37502 _ _ _ _).mp (hS27000_38))) 0 0 ⟨rfl, rfl, rfl, rfl, trivial⟩ rfl rfl)))
      refine EdgeOk.cons rfl ?_ ?_
      · exact TO.u rfl rfl (TX.move rfl rfl (TO.nil (TE.toh (TE.td ((hdef37502 _ _ _ _).mp (hS27000_42))) 0 0 ⟨rfl, rfl, rfl, rfl, trivial⟩ rfl rfl)))
      refine EdgeOk.cons rfl ?_ ?_
      · exact TO.u rfl rfl (TX.move rfl rfl (TO.nil (TE.toh (TE.td ((hdef37502 _ _ _ _).mp (hS27000_43))) 0 0 ⟨rfl, rfl, rfl, rfl, trivial⟩ rfl rfl)))
      refine EdgeOk.cons rfl ?_ ?_
      · exact TO.u rfl rfl (TX.move rfl rfl (TO.nil (TE.toh (TE.td ((hdef37502 _ _ _ _).mp (hS27000_44))) 0 0 ⟨rfl, rfl, rfl, rfl, trivial⟩ rfl rfl)))
      exact EdgeOk.nil
     have hS27000_50 : T37501 9 [false, false, true, false, false, false, false, false, false, false] [(7, .slice sp6 ((IntKind.i64.wrap v2.2).toNat) ((IntKind.i64.wrap v2.2).toNat)), (8, .int .i64 x26005), (40, .int .i64 x26005)] ⟨[], [Hs26003]⟩ := by
      rw [hdef37502]
      refine TD.step [0, 1, 4, 5] 0 rfl rfl rfl rfl rfl (EdgeOk.cons rfl ?_ ?_)
      · exact TO.u rfl rfl (TX.move rfl rfl (TO.nil (TE.toh (TE.td ((hdef37502 _ _ _ _).mp (hS27000_39))) 0 0 ⟨rfl, rfl, rfl, rfl, trivial⟩ rfl rfl)))
      refine EdgeOk.cons rfl ?_ ?_
      · exact TO.u rfl rfl (TX.move rfl rfl (TO.nil (TE.toh (TE.td ((hdef37502 _ _ _ _).mp (hS27000_42))) 0 0 ⟨rfl, rfl, rfl, rfl, trivial⟩ rfl rfl)))
      refine EdgeOk.cons rfl ?_ ?_
      · exact TO.u rfl rfl (TX.move rfl rfl (TO.nil (TE.toh (TE.td ((hdef37502 _ _ _ _).mp (hS27000_45))) 0 0 ⟨rfl, rfl, rfl, rfl, trivial⟩ rfl rfl)))
      refine EdgeOk.cons rfl ?_ ?_
      · exact TO.u rfl rfl (TX.move rfl rfl (TO.nil (TE.toh (TE.td ((hdef37502 _ _ _ _).mp (hS27000_46))) 0 0 ⟨rfl, rfl, rfl, rfl, trivial⟩ rfl rfl)))
      exact EdgeOk.nil
     have hS27000_51 : T37501 9 [false, false, false, false, true, false, false, false, false, false] [(7, .slice sp6 ((IntKind.i64.wrap v2.2).toNat) ((IntKind.i64.wrap v2.2).toNat)), (8, .int .i64 x26005), (42, .slice sp6 ((IntKind.i64.wrap v2.2).toNat) ((IntKind.i64.wrap v2.2).toNat))] ⟨[], [Hs26003]⟩ := by
      rw [hdef37502]
      refine TD.step [0, 1, 2, 5] 0 rfl rfl rfl rfl rfl (EdgeOk.cons rfl ?_ ?_)
      · exact TO.u rfl rfl (TX.move rfl rfl (TO.nil (TE.toh (TE.td ((hdef37502 _ _ _ _).mp (hS27000_40))) 0 0 ⟨rfl, rfl, rfl, rfl, trivial⟩ rfl rfl)))
      refine EdgeOk.cons rfl ?_ ?_
      · exact TO.u rfl rfl (TX.move rfl rfl (TO.nil (TE.toh (TE.td ((hdef37502 _ _ _ _).mp (hS27000_43))) 0 0 ⟨rfl, rfl, rfl, rfl, trivial⟩ rfl rfl)))
      refine EdgeOk.cons rfl ?_ ?_
      · exact TO.u rfl rfl (TX.move rfl rfl (TO.nil (TE.toh (TE.td ((hdef37502 _ _ _ _).mp (hS27000_45))) 0 0 ⟨rfl, rfl, rfl, rfl, trivial⟩ rfl rfl)))
      refine EdgeOk.cons rfl ?_ ?_
      · exact TO.u rfl rfl (TX.move rfl rfl (TO.nil (TE.toh (TE.td ((hdef37502 _ _ _ _).mp (hS27000_47))) 0 0 ⟨rfl, rfl, rfl, rfl, trivial⟩ rfl rfl)))
      exact EdgeOk.nil
     have hS27000_52 : T37501 9 [false, false, false, false, false, true, false, false, false, false] [(7, .slice sp6 ((IntKind.i64.wrap v2.2).toNat) ((IntKind.i64.wrap v2.2).toNat)), (8, .int .i64 x26005), (43, .int .i64 x26005)] ⟨[], [Hs26003]⟩ := by
      rw [hdef37502]
      refine TD.step [0, 1, 2, 4] 0 rfl rfl rfl rfl rfl (EdgeOk.cons rfl ?_ ?_)
      · exact TO.u rfl rfl (TX.move rfl rfl (TO.nil (TE.toh (TE.td ((hdef37502 _ _ _ _).mp (hS27000_41))) 0 0 ⟨rfl, rfl, rfl, rfl, trivial⟩ rfl rfl)))
      refine EdgeOk.cons rfl ?_ ?_
      · exact TO.u rfl rfl (TX.move rfl rfl (TO.nil (TE.toh (TE.td ((hdef37502 _ _ _ _).mp (hS27000_44))) 0 0 ⟨rfl, rfl, rfl, rfl, trivial⟩ rfl rfl)))
      refine EdgeOk.cons rfl ?_ ?_
      · exact TO.u rfl rfl (TX.move rfl rfl (TO.nil (TE.toh (TE.td ((hdef37502 _ _ _ _).mp (hS27000_46))) 0 0 ⟨rfl, rfl, rfl, rfl, trivial⟩ rfl rfl)))
      refine EdgeOk.cons rfl ?_ ?_
      · exact TO.u rfl rfl (TX.move rfl rfl (TO.nil (TE.toh (TE.td ((hdef37502 _ _ _ _).mp (hS27000_47))) 0 0 ⟨rfl, rfl, rfl, rfl, trivial⟩ rfl rfl)))
      exact EdgeOk.nil
     have hS27000_53 : T37501 10 [false, false, false, false, false, false, false, false, false, false] [(7, .slice sp6 ((IntKind.i64.wrap v2.2).toNat) ((IntKind.i64.wrap v2.2).toNat)), (8, .int .i64 x26005)] ⟨[], [Hs26003]⟩ := by
      rw [hdef37502]
      refine TD.step [0, 1, 2, 4, 5] 0 rfl rfl rfl rfl rfl (EdgeOk.cons rfl ?_ ?_)
      · exact TO.u rfl rfl (TX.move rfl rfl (TO.nil (TE.toh (TE.td ((hdef37502 _ _ _ _).mp (hS27000_48))) 0 0 ⟨rfl, rfl, rfl, trivial⟩ rfl rfl)))
      refine EdgeOk.cons rfl ?_ ?_
      · exact TO.u rfl rfl (TX.move rfl rfl (TO.nil (TE.toh (TE.td ((hdef37502 _ _ _ _).mp (hS27000_49))) 0 0 ⟨rfl, rfl, rfl, trivial⟩ rfl rfl)))
      refine EdgeOk.cons rfl ?_ ?_
      · exact TO.u rfl rfl (TX.move rfl rfl (TO.nil (TE.toh (TE.td ((hdef37502 _ _ _ _).mp (hS27000_50))) 0 0 ⟨rfl, rfl, rfl, trivial⟩ rfl rfl)))
      refine EdgeOk.cons rfl ?_ ?_
      · exact TO.u rfl rfl (TX.move rfl rfl (TO.nil (TE.toh (TE.td ((hdef37502 _ _ _ _).mp (hS27000_51))) 0 0 ⟨rfl, rfl, rfl, trivial⟩ rfl rfl)))
      refine EdgeOk.cons rfl ?_ ?_
      · exact TO.u rfl rfl (TX.move rfl rfl (TO.nil (TE.toh (TE.td ((hdef37502 _ _ _ _).mp (hS27000_52))) 0 0 ⟨rfl, rfl, rfl, trivial⟩ rfl rfl)))
      exact EdgeOk.nil
     exact hS27000_53
   replace h := ie h hb26017
   exact TC.exit (TE.thenX (TE.loopX (TE.to (L' := [(7, .slice sp6 ((IntKind.i64.wrap v2.2).toNat) ((IntKind.i64.wrap v2.2).toNat))]) (E' := []) (S' := [Hs26003]) 0 0 ⟨rfl, trivial⟩ rfl rfl (TE.cutE ⟨x26001, Option.some.inj h, Hs26003, ho26004, hn26002, rfl, rfl⟩))))
 rintro _ _ ⟨x26007, rfl, Hs26009, ho26010, hn26008, rfl, rfl⟩
 replace h := (fn56_k1_s x26007).symm.trans h
 refine TE.blockH (TE.thenN rfl rfl (TC.seq (TC.region (TO.u rfl rfl (TX.move rfl rfl (TO.u rfl rfl (TX.assign rfl rfl (TO.nil (TE.thenN rfl rfl (TC.ret ?_))))))))))
 have hr := (Option.some.inj h)
 subst hr
 exact TE.fin (R := ⟨[], []⟩) (TL.ret (R' := ⟨[], [Hs26009]⟩) Try.results56 (.cons (.tmp rfl) .nil) (segSub (i := 0) rfl) ⟨sp6, ((IntKind.i64.wrap v2.2).toNat), ((IntKind.i64.wrap v2.2).toNat), Hs26009, rfl, hn26008, rfl, ho26010⟩)
/-- (hatchway/shape.slot).way -/
def fn57 (p0 : Slot) (p1 : Int) : S__2_int :=
  (bif p0.fInstr.fOp == 24 then (bindP (fn39 p0 p1) fun v5 => (bif v5.2 then (bindP (fn40 p0) fun v7 => (bif v7 then (⟨(-1), v5.1⟩ : S__2_int) else (⟨IntKind.i64.wrap ((IntKind.i64.wrap (p1 + 1)) + 1), v5.1⟩ : S__2_int))) else (bindP (fn40 p0) fun v9 => (bif v9 then (⟨(-1), (-1)⟩ : S__2_int) else (⟨IntKind.i64.wrap ((IntKind.i64.wrap (p1 + 1)) + 1), (-1)⟩ : S__2_int))))) else (bindP (fn39 p0 p1) fun v11 => (bif v11.2 then (bindP (fn40 p0) fun v13 => (bif v13 then (⟨(-1), v11.1⟩ : S__2_int) else (⟨IntKind.i64.wrap (p1 + 1), v11.1⟩ : S__2_int))) else (bindP (fn40 p0) fun v15 => (bif v15 then (⟨(-1), (-1)⟩ : S__2_int) else (⟨IntKind.i64.wrap (p1 + 1), (-1)⟩ : S__2_int))))))
def ret57 (r : S__2_int) : Value := .agg #[.int .i64 r.e0, .int .i64 r.e1]
theorem c57 (p0 : Slot) (p1 : Int) (w : World) (r : S__2_int)  (h : fn57 p0 p1 = r) : Ret Try.prog 57 [.agg #[.int .u8 p0.fInstr.fOp, .int .u8 p0.fInstr.fDst, .int .u8 p0.fInstr.fSrc, .int .i16 p0.fInstr.fOff, .int .i32 p0.fInstr.fImm, .int .u8 p0.fclass, .int .u8 p0.fop, .bool p0.freg], .int .i64 p1] w ⟨[], []⟩ (fun v R => v = ret57 r ∧ R = ⟨[], []⟩) := by
 unfold fn57 at h
 refine Ret.of_body Try.func57 rfl Try.ntmps57 rfl (fun _ hx => absurd hx List.not_mem_nil) List.nodup_nil (TC.seq (TC.region (TO.u rfl rfl (TX.box rfl rfl rfl (fun b1 => (TO.u rfl rfl (TX.alloc Try.zeroValue51 rfl rfl (fun b2 => (TO.nil (TE.thenN rfl rfl (TC.seq (TC.region (TO.u rfl rfl (TX.move rfl rfl (TO.u rfl rfl (TX.ibin rfl rfl rfl rfl (TO.u rfl rfl (TX.buildA Try.zeroValue51 rfl Try.runUnderlying51 Try.sizeOf3 rfl rfl rfl (TO.u rfl rfl (TX.alloc Try.zeroValue51 rfl rfl (fun b3 => (TO.u rfl rfl (TX.store (i := 0) Try.sizeOf51 rfl rfl rfl rfl rfl rfl rfl rfl (TO.nil (TE.thenN rfl rfl (TC.seq (TC.seq (TC.region (TO.u rfl rfl (TX.fieldAddr' Try.runUnderlying58 rfl Try.sizeOf27 rfl rfl rfl (TO.u rfl rfl (TX.fieldAddr' Try.runUnderlying27 rfl Try.sizeOf5 rfl rfl rfl (TO.u rfl rfl (TX.load1 (i := 2) Try.isAgg5 rfl rfl rfl rfl (TO.u rfl rfl (TX.ibin rfl rfl rfl rfl (TO.nil (TE.thenN rfl rfl (TC.cond rfl (fun hb4 => ?_) (fun hb4 => ?_))))))))))))))))))))))))))))))))))))))))
 · replace h := it h hb4
   refine TC.region (TO.u rfl rfl (TX.indexA (i := 0) Try.runUnderlying51 Try.sizeOf3 rfl rfl rfl rfl rfl (TO.u rfl rfl (TX.load1 (i := 0) Try.isAgg3 rfl rfl rfl rfl (TO.u rfl rfl (TX.ibin rfl rfl rfl rfl (TO.u rfl rfl (TX.indexA (i := 0) Try.runUnderlying51 Try.sizeOf3 rfl rfl rfl rfl rfl (TO.u rfl rfl (TX.store (i := 0) Try.sizeOf3 rfl rfl rfl rfl rfl rfl rfl rfl (TO.nil (TE.thenN rfl rfl (TC.seq (TC.seq (TC.region (TO.u rfl rfl (TX.loadN (i := 2) Try.isAgg58 Try.sizeOf58 rfl rfl rfl rfl (TO.u rfl rfl (TX.move rfl rfl ?_)))))))))))))))))))
   obtain ⟨v5, hv5, h⟩ := bp h
   refine TO.u rfl rfl (TX.callP Try.call39 rfl (fun a w s => c39 p0 p1 _ _  hv5) rfl (TO.u rfl rfl (TX.move rfl rfl (TO.u rfl rfl (TX.extract rfl rfl rfl (TO.u rfl rfl (TX.extract rfl rfl rfl (TO.u rfl rfl (TX.assign rfl rfl (TO.u rfl rfl (TX.assign rfl rfl (TO.nil (TE.thenN rfl rfl (TC.seq (TC.region (TO.u rfl rfl (TX.move rfl rfl (TO.nil (TE.thenN rfl rfl (TC.cond rfl (fun hb6 => ?_) (fun hb6 => ?_)))))))))))))))))))))
   · replace h := it h hb6
     refine TC.region (TO.u rfl rfl (TX.move rfl rfl (TO.u rfl rfl (TX.indexA (i := 1) Try.runUnderlying51 Try.sizeOf3 rfl rfl rfl rfl rfl (TO.u rfl rfl (TX.store (i := 0) Try.sizeOf3 rfl rfl rfl rfl rfl rfl rfl rfl (TO.nil (TE.thenN rfl rfl (TC.seq (TC.seq (TC.region (TO.u rfl rfl (TX.loadN (i := 2) Try.isAgg58 Try.sizeOf58 rfl rfl rfl rfl ?_)))))))))))))
     obtain ⟨v7, hv7, h⟩ := bp h
     refine TO.u rfl rfl (TX.callP Try.call40 rfl (fun a w s => c40 p0 _ _  hv7) rfl (TO.nil (TE.thenN rfl rfl (TC.cond rfl (fun hb8 => ?_) (fun hb8 => ?_)))))
     · replace h := it h hb8
       exact TC.region (TO.u rfl rfl (TX.indexA (i := 0) Try.runUnderlying51 Try.sizeOf3 rfl rfl rfl rfl rfl (TO.u rfl rfl (TX.store (i := 0) Try.sizeOf3 rfl rfl rfl rfl rfl rfl rfl rfl (TO.nil (TE.thenN rfl rfl (TC.seq (TC.region (TO.u rfl rfl (TX.loadN (i := 0) Try.isAgg51 Try.sizeOf51 rfl rfl rfl rfl (TO.u rfl rfl (TX.store (i := 1) Try.sizeOf51 rfl rfl rfl rfl rfl rfl rfl rfl (TO.nil (TE.thenN rfl rfl (TC.ret (TE.fin (R := ⟨[], []⟩) (TL.ret (R' := ⟨[], []⟩) Try.results57 (.cons (.cellN (i := 1) Try.isAgg51 Try.sizeOf51 rfl rfl rfl) .nil) (subD 3 0 rfl rfl) ⟨congrArg ret57 h, rfl⟩)))))))))))))))))
     replace h := ie h hb8
     exact TC.skip (TE.thenN rfl rfl (TC.seq (TC.region (TO.u rfl rfl (TX.loadN (i := 0) Try.isAgg51 Try.sizeOf51 rfl rfl rfl rfl (TO.u rfl rfl (TX.store (i := 1) Try.sizeOf51 rfl rfl rfl rfl rfl rfl rfl rfl (TO.nil (TE.thenN rfl rfl (TC.ret (TE.fin (R := ⟨[], []⟩) (TL.ret (R' := ⟨[], []⟩) Try.results57 (.cons (.cellN (i := 1) Try.isAgg51 Try.sizeOf51 rfl rfl rfl) .nil) (subD 3 0 rfl rfl) ⟨congrArg ret57 h, rfl⟩))))))))))))
   replace h := ie h hb6
   refine TC.skip (TE.thenN rfl rfl (TC.seq (TC.seq (TC.region (TO.u rfl rfl (TX.loadN (i := 2) Try.isAgg58 Try.sizeOf58 rfl rfl rfl rfl ?_))))))
   obtain ⟨v9, hv9, h⟩ := bp h
   refine TO.u rfl rfl (TX.callP Try.call40 rfl (fun a w s => c40 p0 _ _  hv9) rfl (TO.nil (TE.thenN rfl rfl (TC.cond rfl (fun hb10 => ?_) (fun hb10 => ?_)))))
   · replace h := it h hb10
     exact TC.region (TO.u rfl rfl (TX.indexA (i := 0) Try.runUnderlying51 Try.sizeOf3 rfl rfl rfl rfl rfl (TO.u rfl rfl (TX.store (i := 0) Try.sizeOf3 rfl rfl rfl rfl rfl rfl rfl rfl (TO.nil (TE.thenN rfl rfl (TC.seq (TC.region (TO.u rfl rfl (TX.loadN (i := 0) Try.isAgg51 Try.sizeOf51 rfl rfl rfl rfl (TO.u rfl rfl (TX.store (i := 1) Try.sizeOf51 rfl rfl rfl rfl rfl rfl rfl rfl (TO.nil (TE.thenN rfl rfl (TC.ret (TE.fin (R := ⟨[], []⟩) (TL.ret (R' := ⟨[], []⟩) Try.results57 (.cons (.cellN (i := 1) Try.isAgg51 Try.sizeOf51 rfl rfl rfl) .nil) (subD 3 0 rfl rfl) ⟨congrArg ret57 h, rfl⟩)))))))))))))))))
   replace h := ie h hb10
   exact TC.skip (TE.thenN rfl rfl (TC.seq (TC.region (TO.u rfl rfl (TX.loadN (i := 0) Try.isAgg51 Try.sizeOf51 rfl rfl rfl rfl (TO.u rfl rfl (TX.store (i := 1) Try.sizeOf51 rfl rfl rfl rfl rfl rfl rfl rfl (TO.nil (TE.thenN rfl rfl (TC.ret (TE.fin (R := ⟨[], []⟩) (TL.ret (R' := ⟨[], []⟩) Try.results57 (.cons (.cellN (i := 1) Try.isAgg51 Try.sizeOf51 rfl rfl rfl) .nil) (subD 3 0 rfl rfl) ⟨congrArg ret57 h, rfl⟩))))))))))))
 replace h := ie h hb4
 refine TC.skip (TE.thenN rfl rfl (TC.seq (TC.seq (TC.region (TO.u rfl rfl (TX.loadN (i := 2) Try.isAgg58 Try.sizeOf58 rfl rfl rfl rfl (TO.u rfl rfl (TX.move rfl rfl ?_))))))))
 obtain ⟨v11, hv11, h⟩ := bp h
 refine TO.u rfl rfl (TX.callP Try.call39 rfl (fun a w s => c39 p0 p1 _ _  hv11) rfl (TO.u rfl rfl (TX.move rfl rfl (TO.u rfl rfl (TX.extract rfl rfl rfl (TO.u rfl rfl (TX.extract rfl rfl rfl (TO.u rfl rfl (TX.assign rfl rfl (TO.u rfl rfl (TX.assign rfl rfl (TO.nil (TE.thenN rfl rfl (TC.seq (TC.region (TO.u rfl rfl (TX.move rfl rfl (TO.nil (TE.thenN rfl rfl (TC.cond rfl (fun hb12 => ?_) (fun hb12 => ?_)))))))))))))))))))))
 · replace h := it h hb12
   refine TC.region (TO.u rfl rfl (TX.move rfl rfl (TO.u rfl rfl (TX.indexA (i := 1) Try.runUnderlying51 Try.sizeOf3 rfl rfl rfl rfl rfl (TO.u rfl rfl (TX.store (i := 0) Try.sizeOf3 rfl rfl rfl rfl rfl rfl rfl rfl (TO.nil (TE.thenN rfl rfl (TC.seq (TC.seq (TC.region (TO.u rfl rfl (TX.loadN (i := 2) Try.isAgg58 Try.sizeOf58 rfl rfl rfl rfl ?_)))))))))))))
   obtain ⟨v13, hv13, h⟩ := bp h
   refine TO.u rfl rfl (TX.callP Try.call40 rfl (fun a w s => c40 p0 _ _  hv13) rfl (TO.nil (TE.thenN rfl rfl (TC.cond rfl (fun hb14 => ?_) (fun hb14 => ?_)))))
   · replace h := it h hb14
     exact TC.region (TO.u rfl rfl (TX.indexA (i := 0) Try.runUnderlying51 Try.sizeOf3 rfl rfl rfl rfl rfl (TO.u rfl rfl (TX.store (i := 0) Try.sizeOf3 rfl rfl rfl rfl rfl rfl rfl rfl (TO.nil (TE.thenN rfl rfl (TC.seq (TC.region (TO.u rfl rfl (TX.loadN (i := 0) Try.isAgg51 Try.sizeOf51 rfl rfl rfl rfl (TO.u rfl rfl (TX.store (i := 1) Try.sizeOf51 rfl rfl rfl rfl rfl rfl rfl rfl (TO.nil (TE.thenN rfl rfl (TC.ret (TE.fin (R := ⟨[], []⟩) (TL.ret (R' := ⟨[], []⟩) Try.results57 (.cons (.cellN (i := 1) Try.isAgg51 Try.sizeOf51 rfl rfl rfl) .nil) (subD 3 0 rfl rfl) ⟨congrArg ret57 h, rfl⟩)))))))))))))))))
   replace h := ie h hb14
   exact TC.skip (TE.thenN rfl rfl (TC.seq (TC.region (TO.u rfl rfl (TX.loadN (i := 0) Try.isAgg51 Try.sizeOf51 rfl rfl rfl rfl (TO.u rfl rfl (TX.store (i := 1) Try.sizeOf51 rfl rfl rfl rfl rfl rfl rfl rfl (TO.nil (TE.thenN rfl rfl (TC.ret (TE.fin (R := ⟨[], []⟩) (TL.ret (R' := ⟨[], []⟩) Try.results57 (.cons (.cellN (i := 1) Try.isAgg51 Try.sizeOf51 rfl rfl rfl) .nil) (subD 3 0 rfl rfl) ⟨congrArg ret57 h, rfl⟩))))))))))))
 replace h := ie h hb12
 refine TC.skip (TE.thenN rfl rfl (TC.seq (TC.seq (TC.region (TO.u rfl rfl (TX.loadN (i := 2) Try.isAgg58 Try.sizeOf58 rfl rfl rfl rfl ?_))))))
 obtain ⟨v15, hv15, h⟩ := bp h
 refine TO.u rfl rfl (TX.callP Try.call40 rfl (fun a w s => c40 p0 _ _  hv15) rfl (TO.nil (TE.thenN rfl rfl (TC.cond rfl (fun hb16 => ?_) (fun hb16 => ?_)))))
 · replace h := it h hb16
   exact TC.region (TO.u rfl rfl (TX.indexA (i := 0) Try.runUnderlying51 Try.sizeOf3 rfl rfl rfl rfl rfl (TO.u rfl rfl (TX.store (i := 0) Try.sizeOf3 rfl rfl rfl rfl rfl rfl rfl rfl (TO.nil (TE.thenN rfl rfl (TC.seq (TC.region (TO.u rfl rfl (TX.loadN (i := 0) Try.isAgg51 Try.sizeOf51 rfl rfl rfl rfl (TO.u rfl rfl (TX.store (i := 1) Try.sizeOf51 rfl rfl rfl rfl rfl rfl rfl rfl (TO.nil (TE.thenN rfl rfl (TC.ret (TE.fin (R := ⟨[], []⟩) (TL.ret (R' := ⟨[], []⟩) Try.results57 (.cons (.cellN (i := 1) Try.isAgg51 Try.sizeOf51 rfl rfl rfl) .nil) (subD 3 0 rfl rfl) ⟨congrArg ret57 h, rfl⟩)))))))))))))))))
 replace h := ie h hb16
 exact TC.skip (TE.thenN rfl rfl (TC.seq (TC.region (TO.u rfl rfl (TX.loadN (i := 0) Try.isAgg51 Try.sizeOf51 rfl rfl rfl rfl (TO.u rfl rfl (TX.store (i := 1) Try.sizeOf51 rfl rfl rfl rfl rfl rfl rfl rfl (TO.nil (TE.thenN rfl rfl (TC.ret (TE.fin (R := ⟨[], []⟩) (TL.ret (R' := ⟨[], []⟩) Try.results57 (.cons (.cellN (i := 1) Try.isAgg51 Try.sizeOf51 rfl rfl rfl) .nil) (subD 3 0 rfl rfl) ⟨congrArg ret57 h, rfl⟩))))))))))))
def fn31_r1 (x41 : List S__2_int) (y49 : Int) (y50 : Slot) : Option (((List S__2_int)) × Nat) :=
  (bindP (fn57 y50 y49) fun v67 => (bif inb y49 x41.length then (some (x41.set y49.toNat v67, 0)) else none))
theorem fn31_r1_s (x41 : List S__2_int) (y49 : Int) (y50 : Slot) : fn31_r1 x41 y49 y50 = (bindP (fn57 y50 y49) fun v67 => (bif inb y49 x41.length then (some (x41.set y49.toNat v67, 0)) else none)) := rfl
def fn31_k1_0 (x72 : List S__2_int) : Option ((List S__2_int)) :=
  (some x72)
theorem fn31_k1_0_s (x72 : List S__2_int) : fn31_k1_0 x72 = (some x72) := rfl
/-- hatchway/shape.Ways -/
def fn31 (F : Nat) (p0 : List Instr) : Option ((List S__2_int)) :=
  (Option.bind (fn14 F p0) fun v1 => (bif v1.2 != 0 then (some ([] : List S__2_int)) else (Option.bind (fn56 F ([(⟨(-1), (-1)⟩ : S__2_int)] : List S__2_int) (p0.length : Int)) fun v7 => (Option.bind (fn59 F (stepR (fun (s : (List S__2_int)) (y : Int × Slot) => fn31_r1 s y.1 y.2)) goR p0 ((v7, 0) : ((List S__2_int)) × Nat)) fun o81 => (bif Nat.beq o81.2 0 then fn31_k1_0 o81.1 else none)))))
def post31 (r : (List S__2_int)) (v : Value) (R : Hp) : Prop := ∃ sp n cap Hs, v = .slice sp n cap ∧ r.length = n ∧ R = ⟨[], [Hs]⟩ ∧ OwnL S__2_int.E 51 sp cap r Hs
theorem c31 (F : Nat) (sp_0 : Option Addr) (n_0 cap_0 : Nat) (p0 : List Instr) (w : World) (r : (List S__2_int)) (qn0 : p0.length = n_0) (qc0 : p0.length ≤ cap_0) (qp0 : RdF Instr.E w [] sp_0 p0) (h : fn31 F p0 = some r) : Ret Try.prog 31 [.slice sp_0 n_0 cap_0] w ⟨[], []⟩ (post31 r) := by
 unfold fn31 at h
 refine Ret.of_body Try.func31 rfl Try.ntmps31 rfl (fun _ hx => absurd hx List.not_mem_nil) List.nodup_nil (TC.seq (TC.region (TO.u rfl rfl (TX.assign rfl rfl (TO.nil (TE.thenN rfl rfl (TC.seq (TC.seq (TC.region (TO.u rfl rfl (TX.move rfl rfl ?_)))))))))))
 obtain ⟨v1, hv1, h⟩ := bd h
 refine TO.u rfl rfl (TX.callP Try.call14 rfl (fun a w s => c14 F _ _ _ p0 _ _ qn0 qc0 (qp0.tr s.extB0) hv1) rfl (TO.u rfl rfl (TX.move rfl rfl (TO.u rfl rfl (TX.extract rfl rfl rfl (TO.u rfl rfl (TX.extract rfl rfl rfl (TO.u rfl rfl (TX.assign rfl rfl (TO.u rfl rfl (TX.assign rfl rfl (TO.nil (TE.thenN rfl rfl (TC.seq (TC.region (TO.u rfl rfl (TX.move rfl rfl (TO.u rfl rfl (TX.ibin rfl rfl rfl rfl (TO.nil (TE.thenN rfl rfl (TC.cond rfl (fun hb2 => ?_) (fun hb2 => ?_)))))))))))))))))))))))
 · replace h := it h hb2
   refine TC.seq (TC.region (TO.u rfl rfl (TX.assign rfl rfl (TO.nil (TE.thenN rfl rfl (TC.ret (TE.thenR ?_)))))))
   have hr := (Option.some.inj h)
   subst hr
   exact TE.fin (R := ⟨[], []⟩) (TL.ret (R' := ⟨[], [[]]⟩) Try.results31 (.cons (.tmp rfl) .nil) segSub0 ⟨none, 0, 0, [], rfl, rfl, rfl, (OwnL.nil S__2_int.E 51)⟩)
 replace h := ie h hb2
 refine TC.skip (TE.thenN rfl rfl (TC.seq (TC.region (TO.u rfl rfl (TX.buildA Try.zeroValue51 rfl Try.runUnderlying51 Try.sizeOf3 rfl rfl rfl (TO.u rfl rfl (TX.buildS (N := S__2_int.E) (ys := ([(⟨(-1), (-1)⟩ : S__2_int)] : List S__2_int)) Try.runUnderlying49 Try.sizeOf51 Try.zeroValue51 rfl rfl rfl rfl (fillS [.agg #[.int .i64 (-1), .int .i64 (-1)]] rfl rfl rfl rfl) rfl (fun sp3 Hs5 ho6 => (TO.u rfl rfl (TX.move rfl rfl (TO.u rfl rfl (TX.lenS (xs := p0) Try.runUnderlying24 rfl qn0 rfl ?_))))))))))))
 obtain ⟨v7, hv7, h⟩ := bd h
 refine TO.u rfl rfl (TX.callQ (post56 v7) Try.call56 rfl (fun a w s => c56 F _ _ _ ([(⟨(-1), (-1)⟩ : S__2_int)] : List S__2_int) (p0.length : Int) _ _ rfl ho6.le_cap (ho6.rdf0 s (i := 0) rfl) hv7) rfl ?_)
 rintro _ _ ⟨sp8, n9, cap10, Hs12, rfl, hn11, rfl, ho13⟩
 refine TO.reH ⟨[], [Hs12, Hs5]⟩ rfl (TO.u rfl rfl (TX.alloc Try.zeroValue49 rfl rfl (fun b15 => (TO.u rfl rfl (TX.store (i := 0) Try.sizeOf49 rfl rfl rfl rfl rfl rfl rfl rfl (TO.nil (TE.thenN rfl rfl (TC.seq (TC.seq (TC.region (TO.u rfl rfl (TX.move rfl rfl (TO.u rfl rfl (TX.callQ _ Try.call34 rfl (fun a w s => c34 _ _ _ p0 _) rfl ?_))))))))))))))
 rintro _ _ ⟨b16, rfl, rfl⟩
 refine TO.reH ⟨[(b16, .cells #[.slice sp_0 n_0 cap_0] 24), (b15, .cells #[.slice sp8 n9 cap10] 49)], [Hs12, Hs5]⟩ rfl (TO.nil (TE.thenN rfl rfl (TC.block ?_)))
 obtain ⟨⟨o81, m82⟩, hl83, h⟩ := bd h
 refine TC.to (L' := [(2, .slice none 0 0), (5, .pointer (some ⟨b15, 0, none⟩)), (21, .func (.func 59) #[] #[.pointer (some ⟨b16, 0, none⟩)])]) (E' := [(b16, .cells #[.slice sp_0 n_0 cap_0] 24), (b15, .cells #[.slice sp8 n9 cap10] 49)]) (S' := [Hs12, Hs5]) 0 0 ⟨rfl, rfl, rfl, trivial⟩ rfl rfl (TC.rangeO [22, 23] [0] [] (fun (x41 : (List S__2_int)) (H' : Hp) => ∃ sp42 n43 cap44 Hs46, OwnL S__2_int.E 51 sp42 cap44 x41 Hs46 ∧ x41.length = n43 ∧ H' = ⟨[(b15, .cells #[.slice sp42 n43 cap44] 49)], [Hs46, Hs5]⟩) (fun (x : Int × Slot) => [.int .i64 x.1, .agg #[.int .u8 x.2.fInstr.fOp, .int .u8 x.2.fInstr.fDst, .int .u8 x.2.fInstr.fSrc, .int .i16 x.2.fInstr.fOff, .int .i32 x.2.fInstr.fImm, .int .u8 x.2.fclass, .int .u8 x.2.fop, .bool x.2.freg]]) (fun (s : (List S__2_int)) (y : Int × Slot) => fn31_r1 s y.1 y.2) v7 o81 m82 Try.call59 rfl rfl (fun _ => rfl) rfl rfl ⟨sp8, n9, cap10, Hs12, ho13, hn11, rfl⟩ (fun zw zv zJ zH zd zx zo zy zj => c59 F (stepR (fun (s : (List S__2_int)) (y : Int × Slot) => fn31_r1 s y.1 y.2)) goR zJ zv ((v7, 0) : ((List S__2_int)) × Nat) zH b16 _ _ _ p0 zw (o81, m82) qn0 qc0 (qp0.tr zx) zo zy zj hl83) ?_ ?_)
 · clear h hl83
   intro l51 r52 lr53 w54 R55 x41 y57 s58 m59 H60 Rr61 hst62 h hI84 hx63 fin64
   obtain ⟨y49, y50⟩ := y57
   obtain ⟨sp42, n43, cap44, Hs46, ho47, hn45, rfl⟩ := hI84
   replace h := (fn31_r1_s x41 y49 y50).symm.trans h
   have qx65 := qp0.tr hx63
   refine TC.to (L' := [(2, .slice none 0 0), (5, .pointer (some ⟨b15, 0, none⟩)), (21, .func (.func 59) #[] #[.pointer (some ⟨b16, 0, none⟩)]), (22, .int .i64 y49), (23, .agg #[.int .u8 y50.fInstr.fOp, .int .u8 y50.fInstr.fDst, .int .u8 y50.fInstr.fSrc, .int .i16 y50.fInstr.fOff, .int .i32 y50.fInstr.fImm, .int .u8 y50.fclass, .int .u8 y50.fop, .bool y50.freg])]) (E' := [(l51, .loop lr53), (r52, .deferred (some [])), (b15, .cells #[.slice sp42 n43 cap44] 49)]) (S' := [Hs46, Hs5]) 0 0 ⟨rfl, rfl, rfl, rfl, rfl, trivial⟩ rfl rfl (TC.seq (TC.region (TO.u rfl rfl (TX.assign rfl rfl (TO.nil (TE.thenN rfl rfl (TC.region (TO.u rfl rfl (TX.alloc Try.zeroValue58 rfl rfl (fun b66 => (TO.u rfl rfl (TX.store (i := 0) Try.sizeOf58 rfl rfl rfl rfl rfl rfl rfl rfl (TO.nil (TE.begin (i := 1) rfl (by assumption) rfl ?_))))))))))))))
   refine TC.block (TC.keep (L' := [(5, .pointer (some ⟨b15, 0, none⟩)), (6, .int .i64 y49), (7, .pointer (some ⟨b66, 0, none⟩))]) ⟨rfl, rfl, rfl, trivial⟩ ?_)
   obtain ⟨v67, hv67, h⟩ := bp h
   refine TC.draw hmix 5 [.slice sp42 n43 cap44, .int .i64 y49, .agg #[.int .u8 y50.fInstr.fOp, .int .u8 y50.fInstr.fDst, .int .u8 y50.fInstr.fSrc, .int .i16 y50.fInstr.fOff, .int .i32 y50.fInstr.fImm, .int .u8 y50.fclass, .int .u8 y50.fop, .bool y50.freg], .int .i64 y49, .agg #[.int .i64 v67.e0, .int .i64 v67.e1]] [(24, .slice sp42 n43 cap44), (25, .int .i64 y49), (28, .agg #[.int .i64 v67.e0, .int .i64 v67.e1])] rfl rfl rfl rfl ?_ (.cons 0 rfl rfl rfl (.cons 1 rfl rfl rfl (.cons 4 rfl rfl rfl .nil))) ?_
   · exact QAll.u [(5, .pointer (some ⟨b15, 0, none⟩))] (.old rfl .nil) rfl rfl (QV.load1 (i := 3) Try.isAgg49 rfl rfl rfl).s rfl (QAll.u [(6, .int .i64 y49)] (.old rfl .nil) rfl rfl (QV.move rfl).s rfl (QAll.u [(7, .pointer (some ⟨b66, 0, none⟩))] (.old rfl .nil) rfl rfl (QV.loadN (i := 0) Try.isAgg58 Try.sizeOf58 rfl rfl rfl).s rfl (QAll.u [(6, .int .i64 y49)] (.old rfl .nil) rfl rfl (QV.move rfl).s rfl (QAll.u [(26, .agg #[.int .u8 y50.fInstr.fOp, .int .u8 y50.fInstr.fDst, .int .u8 y50.fInstr.fSrc, .int .i16 y50.fInstr.fOff, .int .i32 y50.fInstr.fImm, .int .u8 y50.fclass, .int .u8 y50.fop, .bool y50.freg]), (27, .int .i64 y49)] (.dat 2 rfl rfl rfl (.dat 3 rfl rfl rfl .nil)) rfl rfl (QS.callP Try.call57 rfl (fun a w s => c57 y50 y49 _ _  hv67)) rfl (QAll.nil)))))
   obtain ⟨hk68, h⟩ := ck h
   refine TO.u rfl rfl (TX.indexR (N := S__2_int.E) Try.runUnderlying49 Try.sizeOf51 rfl hn45 rfl (fun a w s => ho47.rd s (i := 0) rfl) hk68 rfl (TO.u rfl rfl (TX.storeS (N := S__2_int.E) (si := 0) (u := v67) Try.sizeOf51 rfl rfl rfl rfl rfl rfl ho47 hk68 rfl (fun Hs69 _ S70 ho71 => ?_))))
   cases S70
   refine TO.nil (TE.blockN ?_)
   cases h
   exact TE.to (L' := []) (E' := [(l51, .loop { lr53 with state := .busy }), (r52, .deferred (some [])), (b15, .cells #[.slice sp42 n43 cap44] 49)]) (S' := [Hs69, Hs5]) 1 0 trivial rfl rfl (fin64 [] ⟨[(b15, .cells #[.slice sp42 n43 cap44] 49)], [Hs69, Hs5]⟩ ⟨sp42, n43, cap44, Hs69, ho71, (List.length_set.trans hn45), rfl⟩)
 clear hl83
 intro r80 H85 hI86
 obtain ⟨x72, q_⟩ : ∃ z, z = o81 := ⟨_, rfl⟩
 subst q_
 obtain ⟨sp73, n74, cap75, Hs77, ho78, hn76, rfl⟩ := hI86
 refine TE.reH ⟨[(r80, .deferred (some [])), (b16, .cells #[.slice sp_0 n_0 cap_0] 24), (b15, .cells #[.slice sp73 n74 cap75] 49)], [Hs77, Hs5]⟩ rfl ?_
 cases hm87 : Nat.beq m82 0
 · replace h := ie h hm87
   cases h
 replace h := it h hm87
 have q_ := Nat.eq_of_beq_eq_true hm87
 subst q_
 replace h := (fn31_k1_0_s x72).symm.trans h
 refine TE.asE (e := .normal) rfl (TE.blockN (TE.thenN rfl rfl (TC.seq (TC.region (TO.u rfl rfl (TX.load1 (i := 2) Try.isAgg49 rfl rfl rfl rfl (TO.u rfl rfl (TX.assign rfl rfl (TO.nil (TE.thenN rfl rfl (TC.ret ?_)))))))))))
 have hr := (Option.some.inj h)
 subst hr
 exact TE.fin (R := ⟨[], []⟩) (TL.mark (i := 0) rfl rfl (TL.ret (R' := ⟨[], [Hs77]⟩) Try.results31 (.cons (.tmp rfl) .nil) (segSub (i := 0) rfl) ⟨sp73, n74, cap75, Hs77, rfl, hn76, rfl, ho78⟩))
/-- hatchway/shape.Next -/
def fn15 (F : Nat) (p0 : List Instr) (p1 : Int) : Option (Int × Int) :=
  (Option.bind (fn31 F p0) fun v1 => (bif (decide (p1 < 0)) || (decide ((v1.length : Int) ≤ p1)) then (some ((-1), (-1))) else (bif inb p1 v1.length then (some ((gt v1 p1).e0, (gt v1 p1).e1)) else none)))
def ret15 (r : Int × Int) : Value := .tuple #[.int .i64 r.1, .int .i64 r.2]
theorem c15 (F : Nat) (sp_0 : Option Addr) (n_0 cap_0 : Nat) (p0 : List Instr) (p1 : Int) (w : World) (r : Int × Int) (qn0 : p0.length = n_0) (qc0 : p0.length ≤ cap_0) (qp0 : RdF Instr.E w [] sp_0 p0) (h : fn15 F p0 p1 = some r) : Ret Try.prog 15 [.slice sp_0 n_0 cap_0, .int .i64 p1] w ⟨[], []⟩ (fun v R => v = ret15 r ∧ R = ⟨[], []⟩) := by
 unfold fn15 at h
 refine Ret.of_body Try.func15 rfl Try.ntmps15 rfl (fun _ hx => absurd hx List.not_mem_nil) List.nodup_nil (TC.seq (TC.region (TO.u rfl rfl (TX.assign rfl rfl (TO.u rfl rfl (TX.assign rfl rfl (TO.nil (TE.thenN rfl rfl (TC.seq (TC.region (TO.u rfl rfl (TX.move rfl rfl ?_))))))))))))
 obtain ⟨v1, hv1, h⟩ := bd h
 refine TO.u rfl rfl (TX.callQ (post31 v1) Try.call31 rfl (fun a w s => c31 F _ _ _ p0 _ _ qn0 qc0 (qp0.tr s.extB0) hv1) rfl ?_)
 rintro _ _ ⟨sp2, n3, cap4, Hs6, rfl, hn5, rfl, ho7⟩
 refine TO.reH ⟨[], [Hs6]⟩ rfl (TO.u rfl rfl (TX.assign rfl rfl (TO.nil (TE.thenN rfl rfl (TC.seq (TC.seq (TC.region (TO.u rfl rfl (TX.move rfl rfl (TO.u rfl rfl (TX.ibin rfl rfl rfl rfl (TO.u rfl rfl (TX.move rfl rfl (TO.cutS 5 [(16, .bool ((decide (p1 < 0)) || (decide ((v1.length : Int) ≤ p1))))] ?_ ?_))))))))))))))
 · cases hc9 : (decide (p1 < 0))
   · exact TO.g rfl rfl rfl rfl (TX.move rfl rfl (TO.g rfl rfl rfl rfl (TX.move rfl rfl (TO.g rfl rfl rfl rfl (TX.lenS (xs := v1) Try.runUnderlying49 rfl hn5 rfl (TO.g rfl rfl rfl rfl (TX.ibin rfl rfl rfl rfl (TO.u rfl rfl (TX.pickF rfl rfl rfl (TO.nil (TE.cutS 5 rfl rfl ⟨rfl, trivial⟩)))))))))))
   exact TO.s rfl rfl rfl rfl rfl rfl (TO.s rfl rfl rfl rfl rfl rfl (TO.s rfl rfl rfl rfl rfl rfl (TO.s rfl rfl rfl rfl rfl rfl (TO.u rfl rfl (TX.pickT rfl rfl rfl (TO.nil (TE.cutS 5 rfl rfl ⟨rfl, trivial⟩)))))))
 refine TO.nil (TE.thenN rfl rfl (TC.cond rfl (fun hb10 => ?_) (fun hb10 => ?_)))
 · replace h := it h hb10
   exact TC.seq (TC.region (TO.u rfl rfl (TX.assign rfl rfl (TO.u rfl rfl (TX.assign rfl rfl (TO.nil (TE.thenN rfl rfl (TC.ret (TE.thenR (TE.fin (R := ⟨[], []⟩) (TL.ret (R' := ⟨[], []⟩) Try.results15 (.cons (.tmp rfl) (.cons (.tmp rfl) .nil)) (subD 0 1 rfl rfl) ⟨congrArg ret15 (Option.some.inj h), rfl⟩)))))))))))
 replace h := ie h hb10
 refine TC.skip (TE.thenN rfl rfl (TC.seq (TC.keep (L' := [(1, .int .i64 p1), (6, .slice sp2 n3 cap4)]) ⟨rfl, rfl, trivial⟩ ?_)))
 obtain ⟨hk11, h⟩ := ck h
 refine TC.draw hmix 11 [.slice sp2 n3 cap4, .int .i64 p1, .pointer (some (eAddr sp2 (p1.toNat * S__2_int.E.sz + 0))), .pointer (some (eAddr sp2 (p1.toNat * S__2_int.E.sz + 0))), .int .i64 ((gt v1 p1).e0), .slice sp2 n3 cap4, .int .i64 p1, .pointer (some (eAddr sp2 (p1.toNat * S__2_int.E.sz + 0))), .pointer (some (eAddr sp2 (p1.toNat * S__2_int.E.sz + 1))), .int .i64 ((gt v1 p1).e1), .int .i64 ((gt v1 p1).e0)] [(26, .int .i64 ((gt v1 p1).e1)), (4, .int .i64 ((gt v1 p1).e0))] rfl rfl rfl rfl ?_ (.cons 9 rfl rfl rfl (.cons 10 rfl rfl rfl .nil)) ?_
 · exact QAll.u [(6, .slice sp2 n3 cap4)] (.old rfl .nil) rfl rfl (QV.move rfl).s rfl (QAll.u [(1, .int .i64 p1)] (.old rfl .nil) rfl rfl (QV.move rfl).s rfl (QAll.u [(17, .slice sp2 n3 cap4), (18, .int .i64 p1)] (.dat 0 rfl rfl rfl (.dat 1 rfl rfl rfl .nil)) rfl rfl (QV.indexR (N := S__2_int.E) Try.runUnderlying49 Try.sizeOf51 rfl hn5 rfl (fun a w s => ho7.rd s (i := 0) rfl) hk11).s rfl (QAll.u [(19, .pointer (some (eAddr sp2 (p1.toNat * S__2_int.E.sz + 0))))] (.dat 2 rfl rfl rfl .nil) rfl rfl (QV.indexE (i := 0) Try.runUnderlying51 Try.sizeOf3 rfl rfl rfl rfl).s rfl (QAll.u [(20, .pointer (some (eAddr sp2 (p1.toNat * S__2_int.E.sz + 0))))] (.dat 3 rfl rfl rfl .nil) rfl rfl (QV.loadR1 (N := S__2_int.E) Try.isAgg3 rfl (fun a w s => ho7.rd s (i := 0) rfl) hk11 rfl).s rfl (QAll.u [(6, .slice sp2 n3 cap4)] (.old rfl .nil) rfl rfl (QV.move rfl).s rfl (QAll.u [(1, .int .i64 p1)] (.old rfl .nil) rfl rfl (QV.move rfl).s rfl (QAll.u [(22, .slice sp2 n3 cap4), (23, .int .i64 p1)] (.dat 5 rfl rfl rfl (.dat 6 rfl rfl rfl .nil)) rfl rfl (QV.indexR (N := S__2_int.E) Try.runUnderlying49 Try.sizeOf51 rfl hn5 rfl (fun a w s => ho7.rd s (i := 0) rfl) hk11).s rfl (QAll.u [(24, .pointer (some (eAddr sp2 (p1.toNat * S__2_int.E.sz + 0))))] (.dat 7 rfl rfl rfl .nil) rfl rfl (QV.indexE (i := 1) Try.runUnderlying51 Try.sizeOf3 rfl rfl rfl rfl).s rfl (QAll.u [(25, .pointer (some (eAddr sp2 (p1.toNat * S__2_int.E.sz + 1))))] (.dat 8 rfl rfl rfl .nil) rfl rfl (QV.loadR1 (N := S__2_int.E) Try.isAgg3 rfl (fun a w s => ho7.rd s (i := 0) rfl) hk11 rfl).s rfl (QAll.u [(21, .int .i64 ((gt v1 p1).e0))] (.dat 4 rfl rfl rfl .nil) rfl rfl (QV.assign rfl).s rfl (QAll.nil)))))))))))
 exact TO.u rfl rfl (TX.assign rfl rfl (TO.nil (TE.thenN rfl rfl (TC.ret (TE.fin (R := ⟨[], []⟩) (TL.ret (R' := ⟨[], []⟩) Try.results15 (.cons (.tmp rfl) (.cons (.tmp rfl) .nil)) (subD 0 1 rfl rfl) ⟨congrArg ret15 (Option.some.inj h), rfl⟩))))))
/-- hatchway/hatchwayref03.Next1 -/
def fn44 (p0 : List Instr) (p1 : Int) : Option (Int × Int) :=
  (bif inb p1 p0.length then (bindP (fn71 (gt p0 p1)) fun v3 => (bif v3 then (bindP (fn58 (gt p0 p1) p1) fun v5 => (bif v5.2 then (bindP (fn54 (gt p0 p1)) fun v7 => (bindP (fn55 (gt p0 p1)) fun v8 => (bif ((v7 == 5) && ((v8 == 144) || (v8 == 0))) || ((v7 == 6) && (v8 == 0)) then (some ((-1), v5.1)) else (some (IntKind.i64.wrap (p1 + 2), v5.1))))) else (bindP (fn54 (gt p0 p1)) fun v14 => (bindP (fn55 (gt p0 p1)) fun v15 => (bif ((v14 == 5) && ((v15 == 144) || (v15 == 0))) || ((v14 == 6) && (v15 == 0)) then (some ((-1), (-1))) else (some (IntKind.i64.wrap (p1 + 2), (-1)))))))) else (bindP (fn58 (gt p0 p1) p1) fun v21 => (bif v21.2 then (bindP (fn54 (gt p0 p1)) fun v23 => (bindP (fn55 (gt p0 p1)) fun v24 => (bif ((v23 == 5) && ((v24 == 144) || (v24 == 0))) || ((v23 == 6) && (v24 == 0)) then (some ((-1), v21.1)) else (some (IntKind.i64.wrap (p1 + 1), v21.1))))) else (bindP (fn54 (gt p0 p1)) fun v30 => (bindP (fn55 (gt p0 p1)) fun v31 => (bif ((v30 == 5) && ((v31 == 144) || (v31 == 0))) || ((v30 == 6) && (v31 == 0)) then (some ((-1), (-1))) else (some (IntKind.i64.wrap (p1 + 1), (-1)))))))))) else none)
def ret44 (r : Int × Int) : Value := .tuple #[.int .i64 r.1, .int .i64 r.2]
set_option maxHeartbeats 8000000 in
theorem c44 (sp_0 : Option Addr) (n_0 cap_0 : Nat) (p0 : List Instr) (p1 : Int) (w : World) (r : Int × Int) (qn0 : p0.length = n_0) (qc0 : p0.length ≤ cap_0) (qp0 : RdF Instr.E w [] sp_0 p0) (h : fn44 p0 p1 = some r) : Ret Try.prog 44 [.slice sp_0 n_0 cap_0, .int .i64 p1] w ⟨[], []⟩ (fun v R => v = ret44 r ∧ R = ⟨[], []⟩) := by
 unfold fn44 at h
 refine Ret.of_body Try.func44 rfl Try.ntmps44 rfl (fun _ hx => absurd hx List.not_mem_nil) List.nodup_nil (TC.seq (TC.region (TO.u rfl rfl (TX.assign rfl rfl (TO.u rfl rfl (TX.assign rfl rfl (TO.nil (TE.thenN rfl rfl (TC.seq (TC.region (TO.u rfl rfl (TX.move rfl rfl (TO.u rfl rfl (TX.move rfl rfl ?_))))))))))))))
 obtain ⟨hk1, h⟩ := ck h
 refine TO.u rfl rfl (TX.indexR (N := Instr.E) Try.runUnderlying24 Try.sizeOf27 rfl qn0 rfl (fun a w s => qp0 w s.ext) hk1 rfl (TO.u rfl rfl (TX.loadRN (N := Instr.E) Try.isAgg27 Try.sizeOf27 rfl (fun a w s => qp0 w s.ext) hk1 rfl rfl (TO.u rfl rfl (TX.alloc Try.zeroValue27 rfl rfl (fun b2 => (TO.u rfl rfl (TX.store (i := 0) Try.sizeOf27 rfl rfl rfl rfl rfl rfl rfl rfl (TO.nil (TE.thenN rfl rfl (TC.seq (TC.region (TO.u rfl rfl (TX.move rfl rfl (TO.u rfl rfl (TX.ibin rfl rfl rfl rfl (TO.u rfl rfl (TX.assign rfl rfl (TO.u rfl rfl (TX.assign rfl rfl (TO.nil (TE.thenN rfl rfl (TC.seq (TC.seq (TC.region (TO.u rfl rfl (TX.loadN (i := 0) Try.isAgg27 Try.sizeOf27 rfl rfl rfl rfl ?_)))))))))))))))))))))))))))
 obtain ⟨v3, hv3, h⟩ := bp h
 refine TO.u rfl rfl (TX.callP Try.call71 rfl (fun a w s => c71 (gt p0 p1) _ _  hv3) rfl (TO.nil (TE.thenN rfl rfl (TC.cond rfl (fun hb4 => ?_) (fun hb4 => ?_)))))
 · replace h := it h hb4
   refine TC.region (TO.u rfl rfl (TX.move rfl rfl (TO.u rfl rfl (TX.ibin rfl rfl rfl rfl (TO.u rfl rfl (TX.assign rfl rfl (TO.nil (TE.thenN rfl rfl (TC.seq (TC.region (TO.u rfl rfl (TX.loadN (i := 0) Try.isAgg27 Try.sizeOf27 rfl rfl rfl rfl (TO.u rfl rfl (TX.move rfl rfl ?_))))))))))))))
   obtain ⟨v5, hv5, h⟩ := bp h
   refine TO.u rfl rfl (TX.callP Try.call58 rfl (fun a w s => c58 (gt p0 p1) p1 _ _  hv5) rfl (TO.u rfl rfl (TX.move rfl rfl (TO.u rfl rfl (TX.extract rfl rfl rfl (TO.u rfl rfl (TX.extract rfl rfl rfl (TO.u rfl rfl (TX.assign rfl rfl (TO.u rfl rfl (TX.assign rfl rfl (TO.nil (TE.thenN rfl rfl (TC.seq (TC.seq (TC.region (TO.u rfl rfl (TX.move rfl rfl (TO.nil (TE.thenN rfl rfl (TC.cond rfl (fun hb6 => ?_) (fun hb6 => ?_))))))))))))))))))))))
   · replace h := it h hb6
     refine TC.region (TO.u rfl rfl (TX.move rfl rfl (TO.u rfl rfl (TX.assign rfl rfl (TO.nil (TE.thenN rfl rfl (TC.seq (TC.keep (L' := [(6, .pointer (some ⟨b2, 0, none⟩)), (7, .int .i64 (IntKind.i64.wrap (p1 + 2))), (8, .int .i64 v5.1)]) ⟨rfl, rfl, rfl, trivial⟩ ?_))))))))
     obtain ⟨v7, hv7, h⟩ := bp h
     refine TC.draw hmix 3 [.agg #[.int .u8 ((gt p0 p1).fOp), .int .u8 ((gt p0 p1).fDst), .int .u8 ((gt p0 p1).fSrc), .int .i16 ((gt p0 p1).fOff), .int .i32 ((gt p0 p1).fImm)], .int .u8 v7, .agg #[.int .u8 ((gt p0 p1).fOp), .int .u8 ((gt p0 p1).fDst), .int .u8 ((gt p0 p1).fSrc), .int .i16 ((gt p0 p1).fOff), .int .i32 ((gt p0 p1).fImm)]] [(32, .int .u8 v7), (33, .agg #[.int .u8 ((gt p0 p1).fOp), .int .u8 ((gt p0 p1).fDst), .int .u8 ((gt p0 p1).fSrc), .int .i16 ((gt p0 p1).fOff), .int .i32 ((gt p0 p1).fImm)])] rfl rfl rfl rfl ?_ (.cons 1 rfl rfl rfl (.cons 2 rfl rfl rfl .nil)) ?_
     · exact QAll.u [(6, .pointer (some ⟨b2, 0, none⟩))] (.old rfl .nil) rfl rfl (QV.loadN (i := 0) Try.isAgg27 Try.sizeOf27 rfl rfl rfl).s rfl (QAll.u [(31, .agg #[.int .u8 ((gt p0 p1).fOp), .int .u8 ((gt p0 p1).fDst), .int .u8 ((gt p0 p1).fSrc), .int .i16 ((gt p0 p1).fOff), .int .i32 ((gt p0 p1).fImm)])] (.dat 0 rfl rfl rfl .nil) rfl rfl (QS.callP Try.call54 rfl (fun a w s => c54 (gt p0 p1) _ _  hv7)) rfl (QAll.u [(6, .pointer (some ⟨b2, 0, none⟩))] (.old rfl .nil) rfl rfl (QV.loadN (i := 0) Try.isAgg27 Try.sizeOf27 rfl rfl rfl).s rfl (QAll.nil)))
     obtain ⟨v8, hv8, h⟩ := bp h
     refine TO.u rfl rfl (TX.callP Try.call55 rfl (fun a w s => c55 (gt p0 p1) _ _  hv8) rfl (TO.u rfl rfl (TX.assign rfl rfl (TO.u rfl rfl (TX.assign rfl rfl (TO.nil (TE.thenN rfl rfl (TC.seq (TC.seq (TC.region (TO.u rfl rfl (TX.move rfl rfl (TO.u rfl rfl (TX.ibin rfl rfl rfl rfl (TO.u rfl rfl (TX.move rfl rfl (TO.cutS 7 [(44, .bool ((v7 == 5) && ((v8 == 144) || (v8 == 0))))] ?_ ?_)))))))))))))))))
     · cases hc9 : (v7 == 5)
       · exact TO.s rfl rfl rfl rfl rfl rfl (TO.s rfl rfl rfl rfl rfl rfl (TO.s rfl rfl rfl rfl rfl rfl (TO.su rfl rfl rfl rfl rfl (TO.su rfl rfl rfl rfl rfl (TO.s rfl rfl rfl rfl rfl rfl (TO.u rfl rfl (TX.pickF rfl rfl rfl (TO.nil (TE.cutS 7 rfl rfl ⟨rfl, trivial⟩)))))))))
       refine TO.g rfl rfl rfl rfl (TX.move rfl rfl (TO.g rfl rfl rfl rfl (TX.ibin rfl rfl rfl rfl (TO.g rfl rfl rfl rfl (TX.move rfl rfl ?_)))))
       cases hc10 : (v8 == 144)
       · exact TO.g rfl rfl rfl rfl (TX.move rfl rfl (TO.g rfl rfl rfl rfl (TX.ibin rfl rfl rfl rfl (TO.g rfl rfl rfl rfl (TX.pickF rfl rfl rfl (TO.u rfl rfl (TX.pickT rfl rfl rfl (TO.nil (TE.cutS 7 rfl rfl ⟨rfl, trivial⟩)))))))))
       exact TO.s rfl rfl rfl rfl rfl rfl (TO.s rfl rfl rfl rfl rfl rfl (TO.g rfl rfl rfl rfl (TX.pickT rfl rfl rfl (TO.u rfl rfl (TX.pickT rfl rfl rfl (TO.nil (TE.cutS 7 rfl rfl ⟨rfl, trivial⟩)))))))
     refine TO.u rfl rfl (TX.move rfl rfl (TO.cutS 7 [(52, .bool (((v7 == 5) && ((v8 == 144) || (v8 == 0))) || ((v7 == 6) && (v8 == 0))))] ?_ ?_))
     · cases hc11 : ((v7 == 5) && ((v8 == 144) || (v8 == 0)))
       · refine TO.g rfl rfl rfl rfl (TX.move rfl rfl (TO.g rfl rfl rfl rfl (TX.ibin rfl rfl rfl rfl (TO.g rfl rfl rfl rfl (TX.move rfl rfl ?_)))))
         cases hc12 : (v7 == 6)
         · exact TO.s rfl rfl rfl rfl rfl rfl (TO.s rfl rfl rfl rfl rfl rfl (TO.g rfl rfl rfl rfl (TX.pickF rfl rfl rfl (TO.u rfl rfl (TX.pickF rfl rfl rfl (TO.nil (TE.cutS 7 rfl rfl ⟨rfl, trivial⟩)))))))
         exact TO.g rfl rfl rfl rfl (TX.move rfl rfl (TO.g rfl rfl rfl rfl (TX.ibin rfl rfl rfl rfl (TO.g rfl rfl rfl rfl (TX.pickT rfl rfl rfl (TO.u rfl rfl (TX.pickF rfl rfl rfl (TO.nil (TE.cutS 7 rfl rfl ⟨rfl, trivial⟩)))))))))
       exact TO.s rfl rfl rfl rfl rfl rfl (TO.s rfl rfl rfl rfl rfl rfl (TO.s rfl rfl rfl rfl rfl rfl (TO.su rfl rfl rfl rfl rfl (TO.su rfl rfl rfl rfl rfl (TO.s rfl rfl rfl rfl rfl rfl (TO.u rfl rfl (TX.pickT rfl rfl rfl (TO.nil (TE.cutS 7 rfl rfl ⟨rfl, trivial⟩)))))))))
     refine TO.nil (TE.thenN rfl rfl (TC.cond rfl (fun hb13 => ?_) (fun hb13 => ?_)))
     · replace h := it h hb13
       exact TC.region (TO.u rfl rfl (TX.assign rfl rfl (TO.nil (TE.thenN rfl rfl (TC.seq (TC.region (TO.u rfl rfl (TX.move rfl rfl (TO.u rfl rfl (TX.move rfl rfl (TO.u rfl rfl (TX.assign rfl rfl (TO.u rfl rfl (TX.assign rfl rfl (TO.nil (TE.thenN rfl rfl (TC.ret (TE.fin (R := ⟨[], []⟩) (TL.ret (R' := ⟨[], []⟩) Try.results44 (.cons (.tmp rfl) (.cons (.tmp rfl) .nil)) (subD 1 0 rfl rfl) ⟨congrArg ret44 (Option.some.inj h), rfl⟩)))))))))))))))))))
     replace h := ie h hb13
     exact TC.skip (TE.thenN rfl rfl (TC.seq (TC.region (TO.u rfl rfl (TX.move rfl rfl (TO.u rfl rfl (TX.move rfl rfl (TO.u rfl rfl (TX.assign rfl rfl (TO.u rfl rfl (TX.assign rfl rfl (TO.nil (TE.thenN rfl rfl (TC.ret (TE.fin (R := ⟨[], []⟩) (TL.ret (R' := ⟨[], []⟩) Try.results44 (.cons (.tmp rfl) (.cons (.tmp rfl) .nil)) (subD 1 0 rfl rfl) ⟨congrArg ret44 (Option.some.inj h), rfl⟩))))))))))))))))
   replace h := ie h hb6
   refine TC.skip (TE.thenN rfl rfl (TC.seq (TC.keep (L' := [(6, .pointer (some ⟨b2, 0, none⟩)), (7, .int .i64 (IntKind.i64.wrap (p1 + 2))), (8, .int .i64 (-1))]) ⟨rfl, rfl, rfl, trivial⟩ ?_)))
   obtain ⟨v14, hv14, h⟩ := bp h
   refine TC.draw hmix 3 [.agg #[.int .u8 ((gt p0 p1).fOp), .int .u8 ((gt p0 p1).fDst), .int .u8 ((gt p0 p1).fSrc), .int .i16 ((gt p0 p1).fOff), .int .i32 ((gt p0 p1).fImm)], .int .u8 v14, .agg #[.int .u8 ((gt p0 p1).fOp), .int .u8 ((gt p0 p1).fDst), .int .u8 ((gt p0 p1).fSrc), .int .i16 ((gt p0 p1).fOff), .int .i32 ((gt p0 p1).fImm)]] [(32, .int .u8 v14), (33, .agg #[.int .u8 ((gt p0 p1).fOp), .int .u8 ((gt p0 p1).fDst), .int .u8 ((gt p0 p1).fSrc), .int .i16 ((gt p0 p1).fOff), .int .i32 ((gt p0 p1).fImm)])] rfl rfl rfl rfl ?_ (.cons 1 rfl rfl rfl (.cons 2 rfl rfl rfl .nil)) ?_
   · exact QAll.u [(6, .pointer (some ⟨b2, 0, none⟩))] (.old rfl .nil) rfl rfl (QV.loadN (i := 0) Try.isAgg27 Try.sizeOf27 rfl rfl rfl).s rfl (QAll.u [(31, .agg #[.int .u8 ((gt p0 p1).fOp), .int .u8 ((gt p0 p1).fDst), .int .u8 ((gt p0 p1).fSrc), .int .i16 ((gt p0 p1).fOff), .int .i32 ((gt p0 p1).fImm)])] (.dat 0 rfl rfl rfl .nil) rfl rfl (QS.callP Try.call54 rfl (fun a w s => c54 (gt p0 p1) _ _  hv14)) rfl (QAll.u [(6, .pointer (some ⟨b2, 0, none⟩))] (.old rfl .nil) rfl rfl (QV.loadN (i := 0) Try.isAgg27 Try.sizeOf27 rfl rfl rfl).s rfl (QAll.nil)))
   obtain ⟨v15, hv15, h⟩ := bp h
   refine TO.u rfl rfl (TX.callP Try.call55 rfl (fun a w s => c55 (gt p0 p1) _ _  hv15) rfl (TO.u rfl rfl (TX.assign rfl rfl (TO.u rfl rfl (TX.assign rfl rfl (TO.nil (TE.thenN rfl rfl (TC.seq (TC.seq (TC.region (TO.u rfl rfl (TX.move rfl rfl (TO.u rfl rfl (TX.ibin rfl rfl rfl rfl (TO.u rfl rfl (TX.move rfl rfl (TO.cutS 7 [(44, .bool ((v14 == 5) && ((v15 == 144) || (v15 == 0))))] ?_ ?_)))))))))))))))))
   · cases hc16 : (v14 == 5)
     · exact TO.s rfl rfl rfl rfl rfl rfl (TO.s rfl rfl rfl rfl rfl rfl (TO.s rfl rfl rfl rfl rfl rfl (TO.su rfl rfl rfl rfl rfl (TO.su rfl rfl rfl rfl rfl (TO.s rfl rfl rfl rfl rfl rfl (TO.u rfl rfl (TX.pickF rfl rfl rfl (TO.nil (TE.cutS 7 rfl rfl ⟨rfl, trivial⟩)))))))))
     refine TO.g rfl rfl rfl rfl (TX.move rfl rfl (TO.g rfl rfl rfl rfl (TX.ibin rfl rfl rfl rfl (TO.g rfl rfl rfl rfl (TX.move rfl rfl ?_)))))
     cases hc17 : (v15 == 144)
     · exact TO.g rfl rfl rfl rfl (TX.move rfl rfl (TO.g rfl rfl rfl rfl (TX.ibin rfl rfl rfl rfl (TO.g rfl rfl rfl rfl (TX.pickF rfl rfl rfl (TO.u rfl rfl (TX.pickT rfl rfl rfl (TO.nil (TE.cutS 7 rfl rfl ⟨rfl, trivial⟩)))))))))
     exact TO.s rfl rfl rfl rfl rfl rfl (TO.s rfl rfl rfl rfl rfl rfl (TO.g rfl rfl rfl rfl (TX.pickT rfl rfl rfl (TO.u rfl rfl (TX.pickT rfl rfl rfl (TO.nil (TE.cutS 7 rfl rfl ⟨rfl, trivial⟩)))))))
   refine TO.u rfl rfl (TX.move rfl rfl (TO.cutS 7 [(52, .bool (((v14 == 5) && ((v15 == 144) || (v15 == 0))) || ((v14 == 6) && (v15 == 0))))] ?_ ?_))
   · cases hc18 : ((v14 == 5) && ((v15 == 144) || (v15 == 0)))
     · refine TO.g rfl rfl rfl rfl (TX.move rfl rfl (TO.g rfl rfl rfl rfl (TX.ibin rfl rfl rfl rfl (TO.g rfl rfl rfl rfl (TX.move rfl rfl ?_)))))
       cases hc19 : (v14 == 6)
       · exact TO.s rfl rfl rfl rfl rfl rfl (TO.s rfl rfl rfl rfl rfl rfl (TO.g rfl rfl rfl rfl (TX.pickF rfl rfl rfl (TO.u rfl rfl (TX.pickF rfl rfl rfl (TO.nil (TE.cutS 7 rfl rfl ⟨rfl, trivial⟩)))))))
       exact TO.g rfl rfl rfl rfl (TX.move rfl rfl (TO.g rfl rfl rfl rfl (TX.ibin rfl rfl rfl rfl (TO.g rfl rfl rfl rfl (TX.pickT rfl rfl rfl (TO.u rfl rfl (TX.pickF rfl rfl rfl (TO.nil (TE.cutS 7 rfl rfl ⟨rfl, trivial⟩)))))))))
     exact TO.s rfl rfl rfl rfl rfl rfl (TO.s rfl rfl rfl rfl rfl rfl (TO.s rfl rfl rfl rfl rfl rfl (TO.su rfl rfl rfl rfl rfl (TO.su rfl rfl rfl rfl rfl (TO.s rfl rfl rfl rfl rfl rfl (TO.u rfl rfl (TX.pickT rfl rfl rfl (TO.nil (TE.cutS 7 rfl rfl ⟨rfl, trivial⟩)))))))))
   refine TO.nil (TE.thenN rfl rfl (TC.cond rfl (fun hb20 => ?_) (fun hb20 => ?_)))
   · replace h := it h hb20
     exact TC.region (TO.u rfl rfl (TX.assign rfl rfl (TO.nil (TE.thenN rfl rfl (TC.seq (TC.region (TO.u rfl rfl (TX.move rfl rfl (TO.u rfl rfl (TX.move rfl rfl (TO.u rfl rfl (TX.assign rfl rfl (TO.u rfl rfl (TX.assign rfl rfl (TO.nil (TE.thenN rfl rfl (TC.ret (TE.fin (R := ⟨[], []⟩) (TL.ret (R' := ⟨[], []⟩) Try.results44 (.cons (.tmp rfl) (.cons (.tmp rfl) .nil)) (subD 1 0 rfl rfl) ⟨congrArg ret44 (Option.some.inj h), rfl⟩)))))))))))))))))))
   replace h := ie h hb20
   exact TC.skip (TE.thenN rfl rfl (TC.seq (TC.region (TO.u rfl rfl (TX.move rfl rfl (TO.u rfl rfl (TX.move rfl rfl (TO.u rfl rfl (TX.assign rfl rfl (TO.u rfl rfl (TX.assign rfl rfl (TO.nil (TE.thenN rfl rfl (TC.ret (TE.fin (R := ⟨[], []⟩) (TL.ret (R' := ⟨[], []⟩) Try.results44 (.cons (.tmp rfl) (.cons (.tmp rfl) .nil)) (subD 1 0 rfl rfl) ⟨congrArg ret44 (Option.some.inj h), rfl⟩))))))))))))))))
 replace h := ie h hb4
 refine TC.skip (TE.thenN rfl rfl (TC.seq (TC.region (TO.u rfl rfl (TX.loadN (i := 0) Try.isAgg27 Try.sizeOf27 rfl rfl rfl rfl (TO.u rfl rfl (TX.move rfl rfl ?_)))))))
 obtain ⟨v21, hv21, h⟩ := bp h
 refine TO.u rfl rfl (TX.callP Try.call58 rfl (fun a w s => c58 (gt p0 p1) p1 _ _  hv21) rfl (TO.u rfl rfl (TX.move rfl rfl (TO.u rfl rfl (TX.extract rfl rfl rfl (TO.u rfl rfl (TX.extract rfl rfl rfl (TO.u rfl rfl (TX.assign rfl rfl (TO.u rfl rfl (TX.assign rfl rfl (TO.nil (TE.thenN rfl rfl (TC.seq (TC.seq (TC.region (TO.u rfl rfl (TX.move rfl rfl (TO.nil (TE.thenN rfl rfl (TC.cond rfl (fun hb22 => ?_) (fun hb22 => ?_))))))))))))))))))))))
 · replace h := it h hb22
   refine TC.region (TO.u rfl rfl (TX.move rfl rfl (TO.u rfl rfl (TX.assign rfl rfl (TO.nil (TE.thenN rfl rfl (TC.seq (TC.keep (L' := [(6, .pointer (some ⟨b2, 0, none⟩)), (7, .int .i64 (IntKind.i64.wrap (p1 + 1))), (8, .int .i64 v21.1)]) ⟨rfl, rfl, rfl, trivial⟩ ?_))))))))
   obtain ⟨v23, hv23, h⟩ := bp h
   refine TC.draw hmix 3 [.agg #[.int .u8 ((gt p0 p1).fOp), .int .u8 ((gt p0 p1).fDst), .int .u8 ((gt p0 p1).fSrc), .int .i16 ((gt p0 p1).fOff), .int .i32 ((gt p0 p1).fImm)], .int .u8 v23, .agg #[.int .u8 ((gt p0 p1).fOp), .int .u8 ((gt p0 p1).fDst), .int .u8 ((gt p0 p1).fSrc), .int .i16 ((gt p0 p1).fOff), .int .i32 ((gt p0 p1).fImm)]] [(32, .int .u8 v23), (33, .agg #[.int .u8 ((gt p0 p1).fOp), .int .u8 ((gt p0 p1).fDst), .int .u8 ((gt p0 p1).fSrc), .int .i16 ((gt p0 p1).fOff), .int .i32 ((gt p0 p1).fImm)])] rfl rfl rfl rfl ?_ (.cons 1 rfl rfl rfl (.cons 2 rfl rfl rfl .nil)) ?_
   · exact QAll.u [(6, .pointer (some ⟨b2, 0, none⟩))] (.old rfl .nil) rfl rfl (QV.loadN (i := 0) Try.isAgg27 Try.sizeOf27 rfl rfl rfl).s rfl (QAll.u [(31, .agg #[.int .u8 ((gt p0 p1).fOp), .int .u8 ((gt p0 p1).fDst), .int .u8 ((gt p0 p1).fSrc), .int .i16 ((gt p0 p1).fOff), .int .i32 ((gt p0 p1).fImm)])] (.dat 0 rfl rfl rfl .nil) rfl rfl (QS.callP Try.call54 rfl (fun a w s => c54 (gt p0 p1) _ _  hv23)) rfl (QAll.u [(6, .pointer (some ⟨b2, 0, none⟩))] (.old rfl .nil) rfl rfl (QV.loadN (i := 0) Try.isAgg27 Try.sizeOf27 rfl rfl rfl).s rfl (QAll.nil)))
   obtain ⟨v24, hv24, h⟩ := bp h
   refine TO.u rfl rfl (TX.callP Try.call55 rfl (fun a w s => c55 (gt p0 p1) _ _  hv24) rfl (TO.u rfl rfl (TX.assign rfl rfl (TO.u rfl rfl (TX.assign rfl rfl (TO.nil (TE.thenN rfl rfl (TC.seq (TC.seq (TC.region (TO.u rfl rfl (TX.move rfl rfl (TO.u rfl rfl (TX.ibin rfl rfl rfl rfl (TO.u rfl rfl (TX.move rfl rfl (TO.cutS 7 [(44, .bool ((v23 == 5) && ((v24 == 144) || (v24 == 0))))] ?_ ?_)))))))))))))))))
   · cases hc25 : (v23 == 5)
     · exact TO.s rfl rfl rfl rfl rfl rfl (TO.s rfl rfl rfl rfl rfl rfl (TO.s rfl rfl rfl rfl rfl rfl (TO.su rfl rfl rfl rfl rfl (TO.su rfl rfl rfl rfl rfl (TO.s rfl rfl rfl rfl rfl rfl (TO.u rfl rfl (TX.pickF rfl rfl rfl (TO.nil (TE.cutS 7 rfl rfl ⟨rfl, trivial⟩)))))))))
     refine TO.g rfl rfl rfl rfl (TX.move rfl rfl (TO.g rfl rfl rfl rfl (TX.ibin rfl rfl rfl rfl (TO.g rfl rfl rfl rfl (TX.move rfl rfl ?_)))))
     cases hc26 : (v24 == 144)
     · exact TO.g rfl rfl rfl rfl (TX.move rfl rfl (TO.g rfl rfl rfl rfl (TX.ibin rfl rfl rfl rfl (TO.g rfl rfl rfl rfl (TX.pickF rfl rfl rfl (TO.u rfl rfl (TX.pickT rfl rfl rfl (TO.nil (TE.cutS 7 rfl rfl ⟨rfl, trivial⟩)))))))))
     exact TO.s rfl rfl rfl rfl rfl rfl (TO.s rfl rfl rfl rfl rfl rfl (TO.g rfl rfl rfl rfl (TX.pickT rfl rfl rfl (TO.u rfl rfl (TX.pickT rfl rfl rfl (TO.nil (TE.cutS 7 rfl rfl ⟨rfl, trivial⟩)))))))
   refine TO.u rfl rfl (TX.move rfl rfl (TO.cutS 7 [(52, .bool (((v23 == 5) && ((v24 == 144) || (v24 == 0))) || ((v23 == 6) && (v24 == 0))))] ?_ ?_))
   · cases hc27 : ((v23 == 5) && ((v24 == 144) || (v24 == 0)))
     · refine TO.g rfl rfl rfl rfl (TX.move rfl rfl (TO.g rfl rfl rfl rfl (TX.ibin rfl rfl rfl rfl (TO.g rfl rfl rfl rfl (TX.move rfl rfl ?_)))))
       cases hc28 : (v23 == 6)
       · exact TO.s rfl rfl rfl rfl rfl rfl (TO.s rfl rfl rfl rfl rfl rfl (TO.g rfl rfl rfl rfl (TX.pickF rfl rfl rfl (TO.u rfl rfl (TX.pickF rfl rfl rfl (TO.nil (TE.cutS 7 rfl rfl ⟨rfl, trivial⟩)))))))
       exact TO.g rfl rfl rfl rfl (TX.move rfl rfl (TO.g rfl rfl rfl rfl (TX.ibin rfl rfl rfl rfl (TO.g rfl rfl rfl rfl (TX.pickT rfl rfl rfl (TO.u rfl rfl (TX.pickF rfl rfl rfl (TO.nil (TE.cutS 7 rfl rfl ⟨rfl, trivial⟩)))))))))
     exact TO.s rfl rfl rfl rfl rfl rfl (TO.s rfl rfl rfl rfl rfl rfl (TO.s rfl rfl rfl rfl rfl rfl (TO.su rfl rfl rfl rfl rfl (TO.su rfl rfl rfl rfl rfl (TO.s rfl rfl rfl rfl rfl rfl (TO.u rfl rfl (TX.pickT rfl rfl rfl (TO.nil (TE.cutS 7 rfl rfl ⟨rfl, trivial⟩)))))))))
   refine TO.nil (TE.thenN rfl rfl (TC.cond rfl (fun hb29 => ?_) (fun hb29 => ?_)))
   · replace h := it h hb29
     exact TC.region (TO.u rfl rfl (TX.assign rfl rfl (TO.nil (TE.thenN rfl rfl (TC.seq (TC.region (TO.u rfl rfl (TX.move rfl rfl (TO.u rfl rfl (TX.move rfl rfl (TO.u rfl rfl (TX.assign rfl rfl (TO.u rfl rfl (TX.assign rfl rfl (TO.nil (TE.thenN rfl rfl (TC.ret (TE.fin (R := ⟨[], []⟩) (TL.ret (R' := ⟨[], []⟩) Try.results44 (.cons (.tmp rfl) (.cons (.tmp rfl) .nil)) (subD 1 0 rfl rfl) ⟨congrArg ret44 (Option.some.inj h), rfl⟩)))))))))))))))))))
   replace h := ie h hb29
   exact TC.skip (TE.thenN rfl rfl (TC.seq (TC.region (TO.u rfl rfl (TX.move rfl rfl (TO.u rfl rfl (TX.move rfl rfl (TO.u rfl rfl (TX.assign rfl rfl (TO.u rfl rfl (TX.assign rfl rfl (TO.nil (TE.thenN rfl rfl (TC.ret (TE.fin (R := ⟨[], []⟩) (TL.ret (R' := ⟨[], []⟩) Try.results44 (.cons (.tmp rfl) (.cons (.tmp rfl) .nil)) (subD 1 0 rfl rfl) ⟨congrArg ret44 (Option.some.inj h), rfl⟩))))))))))))))))
 replace h := ie h hb22
 refine TC.skip (TE.thenN rfl rfl (TC.seq (TC.keep (L' := [(6, .pointer (some ⟨b2, 0, none⟩)), (7, .int .i64 (IntKind.i64.wrap (p1 + 1))), (8, .int .i64 (-1))]) ⟨rfl, rfl, rfl, trivial⟩ ?_)))
 obtain ⟨v30, hv30, h⟩ := bp h
 refine TC.draw hmix 3 [.agg #[.int .u8 ((gt p0 p1).fOp), .int .u8 ((gt p0 p1).fDst), .int .u8 ((gt p0 p1).fSrc), .int .i16 ((gt p0 p1).fOff), .int .i32 ((gt p0 p1).fImm)], .int .u8 v30, .agg #[.int .u8 ((gt p0 p1).fOp), .int .u8 ((gt p0 p1).fDst), .int .u8 ((gt p0 p1).fSrc), .int .i16 ((gt p0 p1).fOff), .int .i32 ((gt p0 p1).fImm)]] [(32, .int .u8 v30), (33, .agg #[.int .u8 ((gt p0 p1).fOp), .int .u8 ((gt p0 p1).fDst), .int .u8 ((gt p0 p1).fSrc), .int .i16 ((gt p0 p1).fOff), .int .i32 ((gt p0 p1).fImm)])] rfl rfl rfl rfl ?_ (.cons 1 rfl rfl rfl (.cons 2 rfl rfl rfl .nil)) ?_
 · exact QAll.u [(6, .pointer (some ⟨b2, 0, none⟩))] (.old rfl .nil) rfl rfl (QV.loadN (i := 0) Try.isAgg27 Try.sizeOf27 rfl rfl rfl).s rfl (QAll.u [(31, .agg #[.int .u8 ((gt p0 p1).fOp), .int .u8 ((gt p0 p1).fDst), .int .u8 ((gt p0 p1).fSrc), .int .i16 ((gt p0 p1).fOff), .int .i32 ((gt p0 p1).fImm)])] (.dat 0 rfl rfl rfl .nil) rfl rfl (QS.callP Try.call54 rfl (fun a w s => c54 (gt p0 p1) _ _  hv30)) rfl (QAll.u [(6, .pointer (some ⟨b2, 0, none⟩))] (.old rfl .nil) rfl rfl (QV.loadN (i := 0) Try.isAgg27 Try.sizeOf27 rfl rfl rfl).s rfl (QAll.nil)))
 obtain ⟨v31, hv31, h⟩ := bp h
 refine TO.u rfl rfl (TX.callP Try.call55 rfl (fun a w s => c55 (gt p0 p1) _ _  hv31) rfl (TO.u rfl rfl (TX.assign rfl rfl (TO.u rfl rfl (TX.assign rfl rfl (TO.nil (TE.thenN rfl rfl (TC.seq (TC.seq (TC.region (TO.u rfl rfl (TX.move rfl rfl (TO.u rfl rfl (TX.ibin rfl rfl rfl rfl (TO.u rfl rfl (TX.move rfl rfl (TO.cutS 7 [(44, .bool ((v30 == 5) && ((v31 == 144) || (v31 == 0))))] ?_ ?_)))))))))))))))))
 · cases hc32 : (v30 == 5)
   · exact TO.s rfl rfl rfl rfl rfl rfl (TO.s rfl rfl rfl rfl rfl rfl (TO.s rfl rfl rfl rfl rfl rfl (TO.su rfl rfl rfl rfl rfl (TO.su rfl rfl rfl rfl rfl (TO.s rfl rfl rfl rfl rfl rfl (TO.u rfl rfl (TX.pickF rfl rfl rfl (TO.nil (TE.cutS 7 rfl rfl ⟨rfl, trivial⟩)))))))))
   refine TO.g rfl rfl rfl rfl (TX.move rfl rfl (TO.g rfl rfl rfl rfl (TX.ibin rfl rfl rfl rfl (TO.g rfl rfl rfl rfl (TX.move rfl rfl ?_)))))
   cases hc33 : (v31 == 144)
   · exact TO.g rfl rfl rfl rfl (TX.move rfl rfl (TO.g rfl rfl rfl rfl (TX.ibin rfl rfl rfl rfl (TO.g rfl rfl rfl rfl (TX.pickF rfl rfl rfl (TO.u rfl rfl (TX.pickT rfl rfl rfl (TO.nil (TE.cutS 7 rfl rfl ⟨rfl, trivial⟩)))))))))
   exact TO.s rfl rfl rfl rfl rfl rfl (TO.s rfl rfl rfl rfl rfl rfl (TO.g rfl rfl rfl rfl (TX.pickT rfl rfl rfl (TO.u rfl rfl (TX.pickT rfl rfl rfl (TO.nil (TE.cutS 7 rfl rfl ⟨rfl, trivial⟩)))))))
 refine TO.u rfl rfl (TX.move rfl rfl (TO.cutS 7 [(52, .bool (((v30 == 5) && ((v31 == 144) || (v31 == 0))) || ((v30 == 6) && (v31 == 0))))] ?_ ?_))
 · cases hc34 : ((v30 == 5) && ((v31 == 144) || (v31 == 0)))
   · refine TO.g rfl rfl rfl rfl (TX.move rfl rfl (TO.g rfl rfl rfl rfl (TX.ibin rfl rfl rfl rfl (TO.g rfl rfl rfl rfl (TX.move rfl rfl ?_)))))
     cases hc35 : (v30 == 6)
     · exact TO.s rfl rfl rfl rfl rfl rfl (TO.s rfl rfl rfl rfl rfl rfl (TO.g rfl rfl rfl rfl (TX.pickF rfl rfl rfl (TO.u rfl rfl (TX.pickF rfl rfl rfl (TO.nil (TE.cutS 7 rfl rfl ⟨rfl, trivial⟩)))))))
     exact TO.g rfl rfl rfl rfl (TX.move rfl rfl (TO.g rfl rfl rfl rfl (TX.ibin rfl rfl rfl rfl (TO.g rfl rfl rfl rfl (TX.pickT rfl rfl rfl (TO.u rfl rfl (TX.pickF rfl rfl rfl (TO.nil (TE.cutS 7 rfl rfl ⟨rfl, trivial⟩)))))))))
   exact TO.s rfl rfl rfl rfl rfl rfl (TO.s rfl rfl rfl rfl rfl rfl (TO.s rfl rfl rfl rfl rfl rfl (TO.su rfl rfl rfl rfl rfl (TO.su rfl rfl rfl rfl rfl (TO.s rfl rfl rfl rfl rfl rfl (TO.u rfl rfl (TX.pickT rfl rfl rfl (TO.nil (TE.cutS 7 rfl rfl ⟨rfl, trivial⟩)))))))))
 refine TO.nil (TE.thenN rfl rfl (TC.cond rfl (fun hb36 => ?_) (fun hb36 => ?_)))
 · replace h := it h hb36
   exact TC.region (TO.u rfl rfl (TX.assign rfl rfl (TO.nil (TE.thenN rfl rfl (TC.seq (TC.region (TO.u rfl rfl (TX.move rfl rfl (TO.u rfl rfl (TX.move rfl rfl (TO.u rfl rfl (TX.assign rfl rfl (TO.u rfl rfl (TX.assign rfl rfl (TO.nil (TE.thenN rfl rfl (TC.ret (TE.fin (R := ⟨[], []⟩) (TL.ret (R' := ⟨[], []⟩) Try.results44 (.cons (.tmp rfl) (.cons (.tmp rfl) .nil)) (subD 1 0 rfl rfl) ⟨congrArg ret44 (Option.some.inj h), rfl⟩)))))))))))))))))))
 replace h := ie h hb36
 exact TC.skip (TE.thenN rfl rfl (TC.seq (TC.region (TO.u rfl rfl (TX.move rfl rfl (TO.u rfl rfl (TX.move rfl rfl (TO.u rfl rfl (TX.assign rfl rfl (TO.u rfl rfl (TX.assign rfl rfl (TO.nil (TE.thenN rfl rfl (TC.ret (TE.fin (R := ⟨[], []⟩) (TL.ret (R' := ⟨[], []⟩) Try.results44 (.cons (.tmp rfl) (.cons (.tmp rfl) .nil)) (subD 1 0 rfl rfl) ⟨congrArg ret44 (Option.some.inj h), rfl⟩))))))))))))))))
/-- hatchway/hatchwayref03.Next -/
def fn30 (F : Nat) (p0 : List Instr) (p1 : Int) : Option (Int × Int) :=
  (Option.bind (fn29 F p0) fun v1 => (Option.bind (bif ((v1.2 != 0) || (decide (p1 < 0))) || (decide ((p0.length : Int) ≤ p1)) then some default else (fn43 F p0)) fun v4 => (bif bif ((v1.2 != 0) || (decide (p1 < 0))) || (decide ((p0.length : Int) ≤ p1)) then true else (inb p1 v4.length) then (bif (((v1.2 != 0) || (decide (p1 < 0))) || (decide ((p0.length : Int) ≤ p1))) || (!(gt v4 p1)) then (some ((-1), (-1))) else (Option.bind (fn44 p0 p1) fun v16 => (some (v16.1, v16.2)))) else none)))
def ret30 (r : Int × Int) : Value := .tuple #[.int .i64 r.1, .int .i64 r.2]
theorem c30 (F : Nat) (sp_0 : Option Addr) (n_0 cap_0 : Nat) (p0 : List Instr) (p1 : Int) (w : World) (r : Int × Int) (qn0 : p0.length = n_0) (qc0 : p0.length ≤ cap_0) (qp0 : RdF Instr.E w [] sp_0 p0) (h : fn30 F p0 p1 = some r) : Ret Try.prog 30 [.slice sp_0 n_0 cap_0, .int .i64 p1] w ⟨[], []⟩ (fun v R => v = ret30 r ∧ R = ⟨[], []⟩) := by
 unfold fn30 at h
 refine Ret.of_body Try.func30 rfl Try.ntmps30 rfl (fun _ hx => absurd hx List.not_mem_nil) List.nodup_nil (TC.seq (TC.region (TO.u rfl rfl (TX.assign rfl rfl (TO.u rfl rfl (TX.assign rfl rfl (TO.nil (TE.thenN rfl rfl (TC.seq (TC.region (TO.u rfl rfl (TX.move rfl rfl ?_))))))))))))
 obtain ⟨v1, hv1, h⟩ := bd h
 refine TO.u rfl rfl (TX.callP Try.call29 rfl (fun a w s => c29 F _ _ _ p0 _ _ qn0 qc0 (qp0.tr s.extB0) hv1) rfl (TO.u rfl rfl (TX.move rfl rfl (TO.u rfl rfl (TX.extract rfl rfl rfl (TO.u rfl rfl (TX.extract rfl rfl rfl (TO.u rfl rfl (TX.assign rfl rfl (TO.u rfl rfl (TX.assign rfl rfl (TO.nil (TE.thenN rfl rfl (TC.seq (TC.seq (TC.region (TO.u rfl rfl (TX.move rfl rfl (TO.u rfl rfl (TX.ibin rfl rfl rfl rfl (TO.u rfl rfl (TX.move rfl rfl (TO.cutS 3 [(18, .bool ((v1.2 != 0) || (decide (p1 < 0))))] ?_ ?_)))))))))))))))))))))))
 · cases hc2 : (v1.2 != 0)
   · exact TO.g rfl rfl rfl rfl (TX.move rfl rfl (TO.g rfl rfl rfl rfl (TX.ibin rfl rfl rfl rfl (TO.u rfl rfl (TX.pickF rfl rfl rfl (TO.nil (TE.cutS 3 rfl rfl ⟨rfl, trivial⟩)))))))
   exact TO.s rfl rfl rfl rfl rfl rfl (TO.s rfl rfl rfl rfl rfl rfl (TO.u rfl rfl (TX.pickT rfl rfl rfl (TO.nil (TE.cutS 3 rfl rfl ⟨rfl, trivial⟩)))))
 refine TO.u rfl rfl (TX.move rfl rfl (TO.cutS 5 [(24, .bool (((v1.2 != 0) || (decide (p1 < 0))) || (decide ((p0.length : Int) ≤ p1))))] ?_ ?_))
 · cases hc3 : ((v1.2 != 0) || (decide (p1 < 0)))
   · exact TO.g rfl rfl rfl rfl (TX.move rfl rfl (TO.g rfl rfl rfl rfl (TX.move rfl rfl (TO.g rfl rfl rfl rfl (TX.lenS (xs := p0) Try.runUnderlying24 rfl qn0 rfl (TO.g rfl rfl rfl rfl (TX.ibin rfl rfl rfl rfl (TO.u rfl rfl (TX.pickF rfl rfl rfl (TO.nil (TE.cutS 5 rfl rfl ⟨rfl, trivial⟩)))))))))))
   exact TO.s rfl rfl rfl rfl rfl rfl (TO.s rfl rfl rfl rfl rfl rfl (TO.s rfl rfl rfl rfl rfl rfl (TO.s rfl rfl rfl rfl rfl rfl (TO.u rfl rfl (TX.pickT rfl rfl rfl (TO.nil (TE.cutS 5 rfl rfl ⟨rfl, trivial⟩)))))))
 refine TO.u rfl rfl (TX.move rfl rfl ?_)
 obtain ⟨v4, hv4, h⟩ := bd h
 obtain ⟨hk6, h⟩ := ck h
 refine TO.cutS 7 [(32, .bool ((((v1.2 != 0) || (decide (p1 < 0))) || (decide ((p0.length : Int) ≤ p1))) || (!(gt v4 p1))))] ?_ ?_
 · cases hc7 : (((v1.2 != 0) || (decide (p1 < 0))) || (decide ((p0.length : Int) ≤ p1)))
   · refine TO.g rfl rfl rfl rfl (TX.move rfl rfl (TO.g rfl rfl rfl rfl (TX.callQ (post43 v4) Try.call43 rfl (fun a w s => c43 F _ _ _ p0 _ _ qn0 qc0 (qp0.tr s.extB0) (ie hv4 hc7)) rfl ?_)))
     rintro _ _ ⟨sp8, n9, cap10, Hs12, rfl, hn11, rfl, ho13⟩
     exact TO.reH ⟨[], [Hs12]⟩ rfl (TO.g rfl rfl rfl rfl (TX.move rfl rfl (TO.g rfl rfl rfl rfl (TX.indexR (N := En.bool) Try.runUnderlying41 Try.sizeOf4 rfl hn11 rfl (fun a w s => ho13.rd s (i := 0) rfl) (ce hk6 hc7) rfl (TO.g rfl rfl rfl rfl (TX.loadR1 (N := En.bool) Try.isAgg4 rfl (fun a w s => ho13.rd s (i := 0) rfl) (ce hk6 hc7) rfl rfl (TO.g rfl rfl rfl rfl (TX.not rfl rfl (TO.u rfl rfl (TX.pickF rfl rfl rfl (TO.nil (TE.drop 0 1 rfl rfl (TE.cutS 7 rfl rfl ⟨rfl, trivial⟩)))))))))))))
   exact TO.s rfl rfl rfl rfl rfl rfl (TO.s rfl rfl rfl rfl rfl rfl (TO.s rfl rfl rfl rfl rfl rfl (TO.s rfl rfl rfl rfl rfl rfl (TO.s rfl rfl rfl rfl rfl rfl (TO.s rfl rfl rfl rfl rfl rfl (TO.u rfl rfl (TX.pickT rfl rfl rfl (TO.nil (TE.cutS 7 rfl rfl ⟨rfl, trivial⟩)))))))))
 refine TO.nil (TE.thenN rfl rfl (TC.cond rfl (fun hb15 => ?_) (fun hb15 => ?_)))
 · replace h := it h hb15
   exact TC.seq (TC.region (TO.u rfl rfl (TX.assign rfl rfl (TO.u rfl rfl (TX.assign rfl rfl (TO.nil (TE.thenN rfl rfl (TC.ret (TE.thenR (TE.fin (R := ⟨[], []⟩) (TL.ret (R' := ⟨[], []⟩) Try.results30 (.cons (.tmp rfl) (.cons (.tmp rfl) .nil)) (subD 0 0 rfl rfl) ⟨congrArg ret30 (Option.some.inj h), rfl⟩)))))))))))
 replace h := ie h hb15
 refine TC.skip (TE.thenN rfl rfl (TC.seq (TC.region (TO.u rfl rfl (TX.move rfl rfl (TO.u rfl rfl (TX.move rfl rfl ?_)))))))
 obtain ⟨v16, hv16, h⟩ := bd h
 exact TO.u rfl rfl (TX.callP Try.call44 rfl (fun a w s => c44 _ _ _ p0 p1 _ _ qn0 qc0 (qp0.tr s.extB0) hv16) rfl (TO.u rfl rfl (TX.extract rfl rfl rfl (TO.u rfl rfl (TX.extract rfl rfl rfl (TO.u rfl rfl (TX.assign rfl rfl (TO.u rfl rfl (TX.assign rfl rfl (TO.nil (TE.thenN rfl rfl (TC.ret (TE.fin (R := ⟨[], []⟩) (TL.ret (R' := ⟨[], []⟩) Try.results30 (.cons (.tmp rfl) (.cons (.tmp rfl) .nil)) (subD 0 0 rfl rfl) ⟨congrArg ret30 (Option.some.inj h), rfl⟩))))))))))))))
def fn32_l1 (p0 : List Instr) (v3 : (List Bool)) : Nat → (List S__2_int) → Int → Option ((List S__2_int))
  | 0, _, _ => none
  | n57 + 1, x44, x48 => (bif decide (x48 < (p0.length : Int)) then (bif inb x48 x44.length then (bif inb x48 v3.length then (bif gt v3 x48 then (Option.bind (fn44 p0 x48) fun v67 => ((fn32_l1 p0 v3 n57) ((x44.set x48.toNat (⟨(-1), (-1)⟩ : S__2_int)).set x48.toNat (⟨v67.1, v67.2⟩ : S__2_int)) (IntKind.i64.wrap (x48 + 1)))) else ((fn32_l1 p0 v3 n57) (x44.set x48.toNat (⟨(-1), (-1)⟩ : S__2_int)) (IntKind.i64.wrap (x48 + 1)))) else none) else none) else (some x44))
theorem fn32_l1_s (p0 : List Instr) (v3 : (List Bool)) (n57 : Nat) (x44 : List S__2_int) (x48 : Int) : fn32_l1 p0 v3 (n57 + 1) x44 x48 = (bif decide (x48 < (p0.length : Int)) then (bif inb x48 x44.length then (bif inb x48 v3.length then (bif gt v3 x48 then (Option.bind (fn44 p0 x48) fun v67 => ((fn32_l1 p0 v3 n57) ((x44.set x48.toNat (⟨(-1), (-1)⟩ : S__2_int)).set x48.toNat (⟨v67.1, v67.2⟩ : S__2_int)) (IntKind.i64.wrap (x48 + 1)))) else ((fn32_l1 p0 v3 n57) (x44.set x48.toNat (⟨(-1), (-1)⟩ : S__2_int)) (IntKind.i64.wrap (x48 + 1)))) else none) else none) else (some x44)) := rfl
def fn32_k1 (x50 : List S__2_int) : Option ((List S__2_int)) :=
  (some x50)
theorem fn32_k1_s (x50 : List S__2_int) : fn32_k1 x50 = (some x50) := rfl
/-- hatchway/hatchwayref03.Ways -/
def fn32 (F : Nat) (p0 : List Instr) : Option ((List S__2_int)) :=
  (Option.bind (fn29 F p0) fun v1 => (bif v1.2 != 0 then (some ([] : List S__2_int)) else (Option.bind (fn43 F p0) fun v3 => (bif decide (0 ≤ (p0.length : Int)) && decide ((p0.length : Int) ≤ (p0.length : Int)) && decide ((16 : Int) * (p0.length : Int) ≤ 281474976710656) && decide ((p0.length : Int) ≤ 9223372036854775807) then (Option.bind (fn32_l1 p0 v3 F (List.replicate (p0.length : Int).toNat (⟨0, 0⟩ : S__2_int)) 0) fun o54 => (fn32_k1 o54)) else none))))
def post32 (r : (List S__2_int)) (v : Value) (R : Hp) : Prop := ∃ sp n cap Hs, v = .slice sp n cap ∧ r.length = n ∧ R = ⟨[], [Hs]⟩ ∧ OwnL S__2_int.E 51 sp cap r Hs
theorem c32 (F : Nat) (sp_0 : Option Addr) (n_0 cap_0 : Nat) (p0 : List Instr) (w : World) (r : (List S__2_int)) (qn0 : p0.length = n_0) (qc0 : p0.length ≤ cap_0) (qp0 : RdF Instr.E w [] sp_0 p0) (h : fn32 F p0 = some r) : Ret Try.prog 32 [.slice sp_0 n_0 cap_0] w ⟨[], []⟩ (post32 r) := by
 unfold fn32 at h
 refine Ret.of_body Try.func32 rfl Try.ntmps32 rfl (fun _ hx => absurd hx List.not_mem_nil) List.nodup_nil (TC.seq (TC.region (TO.u rfl rfl (TX.assign rfl rfl (TO.nil (TE.thenN rfl rfl (TC.seq (TC.region (TO.u rfl rfl (TX.move rfl rfl ?_))))))))))
 obtain ⟨v1, hv1, h⟩ := bd h
 refine TO.u rfl rfl (TX.callP Try.call29 rfl (fun a w s => c29 F _ _ _ p0 _ _ qn0 qc0 (qp0.tr s.extB0) hv1) rfl (TO.u rfl rfl (TX.move rfl rfl (TO.u rfl rfl (TX.extract rfl rfl rfl (TO.u rfl rfl (TX.extract rfl rfl rfl (TO.u rfl rfl (TX.assign rfl rfl (TO.u rfl rfl (TX.assign rfl rfl (TO.nil (TE.thenN rfl rfl (TC.seq (TC.seq (TC.region (TO.u rfl rfl (TX.move rfl rfl (TO.u rfl rfl (TX.ibin rfl rfl rfl rfl (TO.nil (TE.thenN rfl rfl (TC.cond rfl (fun hb2 => ?_) (fun hb2 => ?_))))))))))))))))))))))))
 · replace h := it h hb2
   refine TC.seq (TC.region (TO.u rfl rfl (TX.assign rfl rfl (TO.nil (TE.thenN rfl rfl (TC.ret (TE.thenR ?_)))))))
   have hr := (Option.some.inj h)
   subst hr
   exact TE.fin (R := ⟨[], []⟩) (TL.ret (R' := ⟨[], [[]]⟩) Try.results32 (.cons (.tmp rfl) .nil) segSub0 ⟨none, 0, 0, [], rfl, rfl, rfl, (OwnL.nil S__2_int.E 51)⟩)
 replace h := ie h hb2
 refine TC.skip (TE.thenN rfl rfl (TC.seq (TC.region (TO.u rfl rfl (TX.move rfl rfl ?_)))))
 obtain ⟨v3, hv3, h⟩ := bd h
 refine TO.u rfl rfl (TX.callQ (post43 v3) Try.call43 rfl (fun a w s => c43 F _ _ _ p0 _ _ qn0 qc0 (qp0.tr s.extB0) hv3) rfl ?_)
 rintro _ _ ⟨sp4, n5, cap6, Hs8, rfl, hn7, rfl, ho9⟩
 refine TO.reH ⟨[], [Hs8]⟩ rfl (TO.u rfl rfl (TX.assign rfl rfl (TO.nil (TE.thenN rfl rfl (TC.seq (TC.region (TO.u rfl rfl (TX.move rfl rfl (TO.u rfl rfl (TX.lenS (xs := p0) Try.runUnderlying24 rfl qn0 rfl ?_))))))))))
 obtain ⟨hk11, h⟩ := ck h
 refine TO.u rfl rfl (TX.makeS (N := S__2_int.E) (z := (⟨0, 0⟩ : S__2_int)) Try.runUnderlying49 Try.typeInfo51 rfl rfl rfl rfl rfl rfl hk11 rfl (fun sp12 Hs14 ho15 => (TO.u rfl rfl (TX.assign rfl rfl (TO.nil (TE.thenN rfl rfl (TC.seq (TC.seq (TC.region (TO.u rfl rfl (TX.assign rfl rfl (TO.nil (TE.thenN rfl rfl (TC.block ?_))))))))))))))
 obtain ⟨o54, hl55, h⟩ := bd h
 refine TC.to (L' := [(0, .slice sp_0 n_0 cap_0), (5, .slice sp4 n5 cap6), (6, .slice sp12 ((p0.length : Int).toNat) ((p0.length : Int).toNat)), (7, .int .i64 0)]) (E' := []) (S' := [Hs14, Hs8]) 0 0 ⟨rfl, rfl, rfl, rfl, trivial⟩ rfl rfl (TC.cutE 0 (fun L' H' => ∃ x50 : List S__2_int, x50 = o54 ∧ ∃ Hs52, OwnL S__2_int.E 51 sp12 ((p0.length : Int).toNat) x50 Hs52 ∧ x50.length = ((p0.length : Int).toNat) ∧ L' = [(6, .slice sp12 ((p0.length : Int).toNat) ((p0.length : Int).toNat))] ∧ H' = ⟨[], [Hs52, Hs8]⟩) ?_ ?_)
 · have h059 := h
   clear h
   refine TC.loop (fun (n : Nat) (s : (List S__2_int) × Int) => fn32_l1 p0 v3 n s.1 s.2) o54 (fun _ => rfl) (fun (s : (List S__2_int) × Int) L' H' => match s with | (x44, x48) => ∃ Hs46, OwnL S__2_int.E 51 sp12 ((p0.length : Int).toNat) x44 Hs46 ∧ x44.length = ((p0.length : Int).toNat) ∧ L' = [(0, .slice sp_0 n_0 cap_0), (5, .slice sp4 n5 cap6), (6, .slice sp12 ((p0.length : Int).toNat) ((p0.length : Int).toNat)), (7, .int .i64 x48)] ∧ H' = ⟨[], [Hs46, Hs8]⟩) ?_ F (List.replicate (p0.length : Int).toNat (⟨0, 0⟩ : S__2_int), 0) ⟨Hs14, ho15, List.length_replicate, rfl, rfl⟩ hl55
   clear hl55
   rintro K56 n57 ⟨x44, x48⟩ _ _ ⟨Hs46, ho47, hn45, rfl, rfl⟩ h ih58
   replace h := (fn32_l1_s p0 v3 n57 x44 x48).symm.trans h
   refine TC.seq (TC.seq (TC.region (TO.u rfl rfl (TX.move rfl rfl (TO.u rfl rfl (TX.move rfl rfl (TO.u rfl rfl (TX.lenS (xs := p0) Try.runUnderlying24 rfl qn0 rfl (TO.u rfl rfl (TX.ibin rfl rfl rfl rfl (TO.nil (TE.thenN rfl rfl (TC.cond rfl (fun hb60 => ?_) (fun hb60 => ?_))))))))))))))
   · replace h := it h hb60
     refine TC.skip (TE.thenN rfl rfl (TC.seq (TC.block (TC.seq (TC.region (TO.u rfl rfl (TX.move rfl rfl (TO.u rfl rfl (TX.move rfl rfl (TO.u rfl rfl (TX.buildA Try.zeroValue51 rfl Try.runUnderlying51 Try.sizeOf3 rfl rfl rfl ?_)))))))))))
     obtain ⟨hk61, h⟩ := ck h
     refine TO.u rfl rfl (TX.indexR (N := S__2_int.E) Try.runUnderlying49 Try.sizeOf51 rfl hn45 rfl (fun a w s => ho47.rd s (i := 0) rfl) hk61 rfl (TO.u rfl rfl (TX.storeS (N := S__2_int.E) (si := 0) (u := (⟨(-1), (-1)⟩ : S__2_int)) Try.sizeOf51 rfl rfl rfl rfl rfl rfl ho47 hk61 rfl (fun Hs62 _ S63 ho64 => ?_))))
     cases S63
     refine TO.nil (TE.thenN rfl rfl (TC.seq (TC.region (TO.u rfl rfl (TX.move rfl rfl (TO.u rfl rfl (TX.move rfl rfl ?_)))))))
     obtain ⟨hk65, h⟩ := ck h
     refine TO.u rfl rfl (TX.indexR (N := En.bool) Try.runUnderlying41 Try.sizeOf4 rfl hn7 rfl (fun a w s => ho9.rd s (i := 1) rfl) hk65 rfl (TO.u rfl rfl (TX.loadR1 (N := En.bool) Try.isAgg4 rfl (fun a w s => ho9.rd s (i := 1) rfl) hk65 rfl rfl (TO.nil (TE.thenN rfl rfl (TC.cond rfl (fun hb66 => ?_) (fun hb66 => ?_)))))))
     · replace h := it h hb66
       refine TC.seq (TC.region (TO.u rfl rfl (TX.move rfl rfl (TO.u rfl rfl (TX.move rfl rfl ?_)))))
       obtain ⟨v67, hv67, h⟩ := bd h
       refine TO.u rfl rfl (TX.callP Try.call44 rfl (fun a w s => c44 _ _ _ p0 x48 _ _ qn0 qc0 (qp0.tr s.extB0) hv67) rfl (TO.u rfl rfl (TX.move rfl rfl (TO.u rfl rfl (TX.extract rfl rfl rfl (TO.u rfl rfl (TX.extract rfl rfl rfl (TO.u rfl rfl (TX.assign rfl rfl (TO.u rfl rfl (TX.assign rfl rfl (TO.nil (TE.thenN rfl rfl (TC.region (TO.u rfl rfl (TX.move rfl rfl (TO.u rfl rfl (TX.move rfl rfl (TO.u rfl rfl (TX.move rfl rfl (TO.u rfl rfl (TX.move rfl rfl (TO.u rfl rfl (TX.buildA Try.zeroValue51 rfl Try.runUnderlying51 Try.sizeOf3 rfl rfl rfl (TO.u rfl rfl (TX.indexR (N := S__2_int.E) Try.runUnderlying49 Try.sizeOf51 rfl (List.length_set.trans hn45) rfl (fun a w s => ho64.rd s (i := 0) rfl) (inb_of List.length_set hk61) rfl (TO.u rfl rfl (TX.storeS (N := S__2_int.E) (si := 0) (u := (⟨v67.1, v67.2⟩ : S__2_int)) Try.sizeOf51 rfl rfl rfl rfl rfl rfl ho64 (inb_of List.length_set hk61) rfl (fun Hs68 _ S69 ho70 => ?_)))))))))))))))))))))))))))))
       cases S69
       exact TO.nil (TE.blockN (TE.thenN rfl rfl (TC.region (TO.u rfl rfl (TX.move rfl rfl (TO.u rfl rfl (TX.ibin rfl rfl rfl rfl (TO.u rfl rfl (TX.assign rfl rfl (TO.nil (TE.to (L' := [(0, .slice sp_0 n_0 cap_0), (5, .slice sp4 n5 cap6), (6, .slice sp12 ((p0.length : Int).toNat) ((p0.length : Int).toNat)), (7, .int .i64 (IntKind.i64.wrap (x48 + 1)))]) (E' := []) (S' := [Hs68, Hs8]) 0 0 ⟨rfl, rfl, rfl, rfl, trivial⟩ rfl rfl (ih58 ((x44.set x48.toNat (⟨(-1), (-1)⟩ : S__2_int)).set x48.toNat (⟨v67.1, v67.2⟩ : S__2_int), IntKind.i64.wrap (x48 + 1)) _ _ ⟨Hs68, ho70, (List.length_set.trans (List.length_set.trans hn45)), rfl, rfl⟩ h))))))))))))
     replace h := ie h hb66
     exact TC.skip (TE.blockN (TE.thenN rfl rfl (TC.region (TO.u rfl rfl (TX.move rfl rfl (TO.u rfl rfl (TX.ibin rfl rfl rfl rfl (TO.u rfl rfl (TX.assign rfl rfl (TO.nil (TE.to (L' := [(0, .slice sp_0 n_0 cap_0), (5, .slice sp4 n5 cap6), (6, .slice sp12 ((p0.length : Int).toNat) ((p0.length : Int).toNat)), (7, .int .i64 (IntKind.i64.wrap (x48 + 1)))]) (E' := []) (S' := [Hs62, Hs8]) 0 0 ⟨rfl, rfl, rfl, rfl, trivial⟩ rfl rfl (ih58 (x44.set x48.toNat (⟨(-1), (-1)⟩ : S__2_int), IntKind.i64.wrap (x48 + 1)) _ _ ⟨Hs62, ho64, (List.length_set.trans hn45), rfl, rfl⟩ h))))))))))))
   replace h := ie h hb60
   exact TC.exit (TE.thenX (TE.loopX (TE.to (L' := [(6, .slice sp12 ((p0.length : Int).toNat) ((p0.length : Int).toNat))]) (E' := []) (S' := [Hs46, Hs8]) 0 0 ⟨rfl, trivial⟩ rfl rfl (TE.cutE ⟨x44, Option.some.inj h, Hs46, ho47, hn45, rfl, rfl⟩))))
 rintro _ _ ⟨x50, rfl, Hs52, ho53, hn51, rfl, rfl⟩
 replace h := (fn32_k1_s x50).symm.trans h
 refine TE.blockH (TE.thenN rfl rfl (TC.seq (TC.region (TO.u rfl rfl (TX.move rfl rfl (TO.u rfl rfl (TX.assign rfl rfl (TO.nil (TE.thenN rfl rfl (TC.ret ?_))))))))))
 have hr := (Option.some.inj h)
 subst hr
 exact TE.fin (R := ⟨[], []⟩) (TL.ret (R' := ⟨[], [Hs52]⟩) Try.results32 (.cons (.tmp rfl) .nil) (segSub (i := 0) rfl) ⟨sp12, ((p0.length : Int).toNat), ((p0.length : Int).toNat), Hs52, rfl, hn51, rfl, ho53⟩)
def fn33_l2 (x48 : List Bool) : Nat → (List Int) → Int → Option ((List Int))
  | 0, _, _ => none
  | n128 + 1, x107, x115 => (bif decide (x115 < (x48.length : Int)) then (bif inb x115 x48.length then (bif gt x48 x115 then (bif decide ((x107.length + ([x115] : List Int).length) * 8 ≤ 140737488355328 ∧ x107.length + ([x115] : List Int).length ≤ 9223372036854775807) then ((fn33_l2 x48 n128) (x107 ++ ([x115] : List Int)) (IntKind.i64.wrap (x115 + 1))) else none) else ((fn33_l2 x48 n128) x107 (IntKind.i64.wrap (x115 + 1)))) else none) else (some x107))
theorem fn33_l2_s (x48 : List Bool) (n128 : Nat) (x107 : List Int) (x115 : Int) : fn33_l2 x48 (n128 + 1) x107 x115 = (bif decide (x115 < (x48.length : Int)) then (bif inb x115 x48.length then (bif gt x48 x115 then (bif decide ((x107.length + ([x115] : List Int).length) * 8 ≤ 140737488355328 ∧ x107.length + ([x115] : List Int).length ≤ 9223372036854775807) then ((fn33_l2 x48 n128) (x107 ++ ([x115] : List Int)) (IntKind.i64.wrap (x115 + 1))) else none) else ((fn33_l2 x48 n128) x107 (IntKind.i64.wrap (x115 + 1)))) else none) else (some x107)) := rfl
def fn33_k2 (x117 : List Int) : Option ((List Int)) :=
  (some x117)
theorem fn33_k2_s (x117 : List Int) : fn33_k2 x117 = (some x117) := rfl
def fn33_l1 (p0 : List Instr) (v8 : (List Bool)) : Nat → (List Bool) → Int → Option ((List Bool))
  | 0, _, _ => none
  | n55 + 1, x42, x46 => (bif decide (x46 < (p0.length : Int)) then (bif inb x46 v8.length then (bif !(gt v8 x46) then ((fn33_l1 p0 v8 n55) x42 (IntKind.i64.wrap (x46 + 1))) else (bif inb x46 p0.length then (bindP (fn58 (gt p0 x46) x46) fun v62 => (bif v62.2 then (bif inb v62.1 x42.length then ((fn33_l1 p0 v8 n55) (x42.set v62.1.toNat true) (IntKind.i64.wrap (x46 + 1))) else none) else ((fn33_l1 p0 v8 n55) x42 (IntKind.i64.wrap (x46 + 1))))) else none)) else none) else (some x42))
theorem fn33_l1_s (p0 : List Instr) (v8 : (List Bool)) (n55 : Nat) (x42 : List Bool) (x46 : Int) : fn33_l1 p0 v8 (n55 + 1) x42 x46 = (bif decide (x46 < (p0.length : Int)) then (bif inb x46 v8.length then (bif !(gt v8 x46) then ((fn33_l1 p0 v8 n55) x42 (IntKind.i64.wrap (x46 + 1))) else (bif inb x46 p0.length then (bindP (fn58 (gt p0 x46) x46) fun v62 => (bif v62.2 then (bif inb v62.1 x42.length then ((fn33_l1 p0 v8 n55) (x42.set v62.1.toNat true) (IntKind.i64.wrap (x46 + 1))) else none) else ((fn33_l1 p0 v8 n55) x42 (IntKind.i64.wrap (x46 + 1))))) else none)) else none) else (some x42)) := rfl
def fn33_k1 (F : Nat) (x48 : List Bool) : Option ((List Int)) :=
  (Option.bind (fn33_l2 x48 F ([] : List Int) 0) fun o125 => (fn33_k2 o125))
theorem fn33_k1_s (F : Nat) (x48 : List Bool) : fn33_k1 F x48 = (Option.bind (fn33_l2 x48 F ([] : List Int) 0) fun o125 => (fn33_k2 o125)) := rfl
/-- hatchway/hatchwayref03.Targets -/
def fn33 (F : Nat) (p0 : List Instr) : Option ((List Int)) :=
  (Option.bind (fn29 F p0) fun v1 => (bif v1.2 != 0 then (some ([] : List Int)) else (bif decide (0 ≤ (p0.length : Int)) && decide ((p0.length : Int) ≤ (p0.length : Int)) && decide ((1 : Int) * (p0.length : Int) ≤ 281474976710656) && decide ((p0.length : Int) ≤ 9223372036854775807) then (Option.bind (fn43 F p0) fun v8 => (Option.bind (fn33_l1 p0 v8 F (List.replicate (p0.length : Int).toNat false) 0) fun o52 => (fn33_k1 F o52))) else none)))
def post33 (r : (List Int)) (v : Value) (R : Hp) : Prop := ∃ sp n cap Hs, v = .slice sp n cap ∧ r.length = n ∧ R = ⟨[], [Hs]⟩ ∧ OwnL (En.int .i64) 3 sp cap r Hs
theorem c33 (F : Nat) (sp_0 : Option Addr) (n_0 cap_0 : Nat) (p0 : List Instr) (w : World) (r : (List Int)) (qn0 : p0.length = n_0) (qc0 : p0.length ≤ cap_0) (qp0 : RdF Instr.E w [] sp_0 p0) (h : fn33 F p0 = some r) : Ret Try.prog 33 [.slice sp_0 n_0 cap_0] w ⟨[], []⟩ (post33 r) := by
 unfold fn33 at h
 refine Ret.of_body Try.func33 rfl Try.ntmps33 rfl (fun _ hx => absurd hx List.not_mem_nil) List.nodup_nil (TC.seq (TC.region (TO.u rfl rfl (TX.assign rfl rfl (TO.nil (TE.thenN rfl rfl (TC.seq (TC.region (TO.u rfl rfl (TX.move rfl rfl ?_))))))))))
 obtain ⟨v1, hv1, h⟩ := bd h
 refine TO.u rfl rfl (TX.callP Try.call29 rfl (fun a w s => c29 F _ _ _ p0 _ _ qn0 qc0 (qp0.tr s.extB0) hv1) rfl (TO.u rfl rfl (TX.move rfl rfl (TO.u rfl rfl (TX.extract rfl rfl rfl (TO.u rfl rfl (TX.extract rfl rfl rfl (TO.u rfl rfl (TX.assign rfl rfl (TO.u rfl rfl (TX.assign rfl rfl (TO.nil (TE.thenN rfl rfl (TC.seq (TC.seq (TC.region (TO.u rfl rfl (TX.move rfl rfl (TO.u rfl rfl (TX.ibin rfl rfl rfl rfl (TO.nil (TE.thenN rfl rfl (TC.cond rfl (fun hb2 => ?_) (fun hb2 => ?_))))))))))))))))))))))))
 · replace h := it h hb2
   refine TC.seq (TC.region (TO.u rfl rfl (TX.assign rfl rfl (TO.nil (TE.thenN rfl rfl (TC.ret (TE.thenR ?_)))))))
   have hr := (Option.some.inj h)
   subst hr
   exact TE.fin (R := ⟨[], []⟩) (TL.ret (R' := ⟨[], [[]]⟩) Try.results33 (.cons (.tmp rfl) .nil) segSub0 ⟨none, 0, 0, [], rfl, rfl, rfl, (OwnL.nil (En.int .i64) 3)⟩)
 replace h := ie h hb2
 refine TC.skip (TE.thenN rfl rfl (TC.seq (TC.region (TO.u rfl rfl (TX.move rfl rfl (TO.u rfl rfl (TX.lenS (xs := p0) Try.runUnderlying24 rfl qn0 rfl ?_)))))))
 obtain ⟨hk3, h⟩ := ck h
 refine TO.u rfl rfl (TX.makeS (N := En.bool) (z := false) Try.runUnderlying41 Try.typeInfo4 rfl rfl rfl rfl rfl rfl hk3 rfl (fun sp4 Hs6 ho7 => (TO.u rfl rfl (TX.assign rfl rfl (TO.nil (TE.thenN rfl rfl (TC.seq (TC.region (TO.u rfl rfl (TX.move rfl rfl ?_))))))))))
 obtain ⟨v8, hv8, h⟩ := bd h
 refine TO.u rfl rfl (TX.callQ (post43 v8) Try.call43 rfl (fun a w s => c43 F _ _ _ p0 _ _ qn0 qc0 (qp0.tr s.extB0) hv8) rfl ?_)
 rintro _ _ ⟨sp9, n10, cap11, Hs13, rfl, hn12, rfl, ho14⟩
 refine TO.reH ⟨[], [Hs13, Hs6]⟩ rfl (TO.u rfl rfl (TX.assign rfl rfl (TO.nil (TE.thenN rfl rfl (TC.seq (TC.seq (TC.region (TO.u rfl rfl (TX.assign rfl rfl (TO.nil (TE.thenN rfl rfl (TC.block ?_))))))))))))
 obtain ⟨o52, hl53, h⟩ := bd h
 refine TC.to (L' := [(0, .slice sp_0 n_0 cap_0), (5, .slice sp4 ((p0.length : Int).toNat) ((p0.length : Int).toNat)), (6, .slice sp9 n10 cap11), (7, .int .i64 0)]) (E' := []) (S' := [Hs13, Hs6]) 0 0 ⟨rfl, rfl, rfl, rfl, trivial⟩ rfl rfl (TC.cutE 0 (fun L' H' => ∃ x48 : List Bool, x48 = o52 ∧ ∃ Hs50, OwnL En.bool 4 sp4 ((p0.length : Int).toNat) x48 Hs50 ∧ x48.length = ((p0.length : Int).toNat) ∧ L' = [(5, .slice sp4 ((p0.length : Int).toNat) ((p0.length : Int).toNat))] ∧ H' = ⟨[], [Hs13, Hs50]⟩) ?_ ?_)
 · have h057 := h
   clear h
   refine TC.loop (fun (n : Nat) (s : (List Bool) × Int) => fn33_l1 p0 v8 n s.1 s.2) o52 (fun _ => rfl) (fun (s : (List Bool) × Int) L' H' => match s with | (x42, x46) => ∃ Hs44, OwnL En.bool 4 sp4 ((p0.length : Int).toNat) x42 Hs44 ∧ x42.length = ((p0.length : Int).toNat) ∧ L' = [(0, .slice sp_0 n_0 cap_0), (5, .slice sp4 ((p0.length : Int).toNat) ((p0.length : Int).toNat)), (6, .slice sp9 n10 cap11), (7, .int .i64 x46)] ∧ H' = ⟨[], [Hs13, Hs44]⟩) ?_ F (List.replicate (p0.length : Int).toNat false, 0) ⟨Hs6, ho7, List.length_replicate, rfl, rfl⟩ hl53
   clear hl53
   rintro K54 n55 ⟨x42, x46⟩ _ _ ⟨Hs44, ho45, hn43, rfl, rfl⟩ h ih56
   replace h := (fn33_l1_s p0 v8 n55 x42 x46).symm.trans h
   refine TC.seq (TC.seq (TC.region (TO.u rfl rfl (TX.move rfl rfl (TO.u rfl rfl (TX.move rfl rfl (TO.u rfl rfl (TX.lenS (xs := p0) Try.runUnderlying24 rfl qn0 rfl (TO.u rfl rfl (TX.ibin rfl rfl rfl rfl (TO.nil (TE.thenN rfl rfl (TC.cond rfl (fun hb58 => ?_) (fun hb58 => ?_))))))))))))))
   · replace h := it h hb58
     refine TC.skip (TE.thenN rfl rfl (TC.seq (TC.block (TC.seq (TC.seq (TC.region (TO.u rfl rfl (TX.move rfl rfl (TO.u rfl rfl (TX.move rfl rfl ?_))))))))))
     obtain ⟨hk59, h⟩ := ck h
     refine TO.u rfl rfl (TX.indexR (N := En.bool) Try.runUnderlying41 Try.sizeOf4 rfl hn12 rfl (fun a w s => ho14.rd s (i := 0) rfl) hk59 rfl (TO.u rfl rfl (TX.loadR1 (N := En.bool) Try.isAgg4 rfl (fun a w s => ho14.rd s (i := 0) rfl) hk59 rfl rfl (TO.u rfl rfl (TX.not rfl rfl (TO.nil (TE.thenN rfl rfl (TC.cond rfl (fun hb60 => ?_) (fun hb60 => ?_)))))))))
     · replace h := it h hb60
       exact TC.exit (TE.thenX (TE.blockH (TE.thenN rfl rfl (TC.region (TO.u rfl rfl (TX.move rfl rfl (TO.u rfl rfl (TX.ibin rfl rfl rfl rfl (TO.u rfl rfl (TX.assign rfl rfl (TO.nil (TE.to (L' := [(0, .slice sp_0 n_0 cap_0), (5, .slice sp4 ((p0.length : Int).toNat) ((p0.length : Int).toNat)), (6, .slice sp9 n10 cap11), (7, .int .i64 (IntKind.i64.wrap (x46 + 1)))]) (E' := []) (S' := [Hs13, Hs44]) 0 0 ⟨rfl, rfl, rfl, rfl, trivial⟩ rfl rfl (ih56 (x42, IntKind.i64.wrap (x46 + 1)) _ _ ⟨Hs44, ho45, hn43, rfl, rfl⟩ h)))))))))))))
     replace h := ie h hb60
     refine TC.skip (TE.thenN rfl rfl (TC.seq (TC.region (TO.u rfl rfl (TX.move rfl rfl (TO.u rfl rfl (TX.move rfl rfl ?_)))))))
     obtain ⟨hk61, h⟩ := ck h
     refine TO.u rfl rfl (TX.indexR (N := Instr.E) Try.runUnderlying24 Try.sizeOf27 rfl qn0 rfl (fun a w s => qp0 w s.ext) hk61 rfl (TO.u rfl rfl (TX.loadRN (N := Instr.E) Try.isAgg27 Try.sizeOf27 rfl (fun a w s => qp0 w s.ext) hk61 rfl rfl (TO.u rfl rfl (TX.move rfl rfl ?_)))))
     obtain ⟨v62, hv62, h⟩ := bp h
     refine TO.u rfl rfl (TX.callP Try.call58 rfl (fun a w s => c58 (gt p0 x46) x46 _ _  hv62) rfl (TO.u rfl rfl (TX.move rfl rfl (TO.u rfl rfl (TX.extract rfl rfl rfl (TO.u rfl rfl (TX.extract rfl rfl rfl (TO.u rfl rfl (TX.assign rfl rfl (TO.u rfl rfl (TX.assign rfl rfl (TO.nil (TE.thenN rfl rfl (TC.seq (TC.region (TO.u rfl rfl (TX.move rfl rfl (TO.nil (TE.thenN rfl rfl (TC.cond rfl (fun hb63 => ?_) (fun hb63 => ?_)))))))))))))))))))))
     · replace h := it h hb63
       refine TC.region (TO.u rfl rfl (TX.move rfl rfl (TO.u rfl rfl (TX.move rfl rfl ?_))))
       obtain ⟨hk64, h⟩ := ck h
       refine TO.u rfl rfl (TX.indexR (N := En.bool) Try.runUnderlying41 Try.sizeOf4 rfl hn43 rfl (fun a w s => ho45.rd s (i := 1) rfl) hk64 rfl (TO.u rfl rfl (TX.storeS (N := En.bool) (si := 1) (u := true) Try.sizeOf4 rfl rfl rfl rfl rfl rfl ho45 hk64 rfl (fun Hs65 _ S66 ho67 => ?_))))
       cases S66
       exact TO.nil (TE.blockN (TE.thenN rfl rfl (TC.region (TO.u rfl rfl (TX.move rfl rfl (TO.u rfl rfl (TX.ibin rfl rfl rfl rfl (TO.u rfl rfl (TX.assign rfl rfl (TO.nil (TE.to (L' := [(0, .slice sp_0 n_0 cap_0), (5, .slice sp4 ((p0.length : Int).toNat) ((p0.length : Int).toNat)), (6, .slice sp9 n10 cap11), (7, .int .i64 (IntKind.i64.wrap (x46 + 1)))]) (E' := []) (S' := [Hs13, Hs65]) 0 0 ⟨rfl, rfl, rfl, rfl, trivial⟩ rfl rfl (ih56 (x42.set v62.1.toNat true, IntKind.i64.wrap (x46 + 1)) _ _ ⟨Hs65, ho67, (List.length_set.trans hn43), rfl, rfl⟩ h))))))))))))
     replace h := ie h hb63
     exact TC.skip (TE.blockN (TE.thenN rfl rfl (TC.region (TO.u rfl rfl (TX.move rfl rfl (TO.u rfl rfl (TX.ibin rfl rfl rfl rfl (TO.u rfl rfl (TX.assign rfl rfl (TO.nil (TE.to (L' := [(0, .slice sp_0 n_0 cap_0), (5, .slice sp4 ((p0.length : Int).toNat) ((p0.length : Int).toNat)), (6, .slice sp9 n10 cap11), (7, .int .i64 (IntKind.i64.wrap (x46 + 1)))]) (E' := []) (S' := [Hs13, Hs44]) 0 0 ⟨rfl, rfl, rfl, rfl, trivial⟩ rfl rfl (ih56 (x42, IntKind.i64.wrap (x46 + 1)) _ _ ⟨Hs44, ho45, hn43, rfl, rfl⟩ h))))))))))))
   replace h := ie h hb58
   exact TC.exit (TE.thenX (TE.loopX (TE.to (L' := [(5, .slice sp4 ((p0.length : Int).toNat) ((p0.length : Int).toNat))]) (E' := []) (S' := [Hs13, Hs44]) 0 0 ⟨rfl, trivial⟩ rfl rfl (TE.cutE ⟨x42, Option.some.inj h, Hs44, ho45, hn43, rfl, rfl⟩))))
 rintro _ _ ⟨x48, rfl, Hs50, ho51, hn49, rfl, rfl⟩
 replace h := (fn33_k1_s F x48).symm.trans h
 refine TE.blockH (TE.thenN rfl rfl (TC.seq (TC.region (TO.u rfl rfl (TX.assign rfl rfl (TO.nil (TE.thenN rfl rfl (TC.seq (TC.seq (TC.region (TO.u rfl rfl (TX.assign rfl rfl (TO.nil (TE.thenN rfl rfl (TC.block ?_)))))))))))))))
 obtain ⟨o125, hl126, h⟩ := bd h
 refine TC.addNil (TC.to (L' := [(5, .slice sp4 ((p0.length : Int).toNat) ((p0.length : Int).toNat)), (10, .slice none 0 0), (11, .int .i64 0)]) (E' := []) (S' := [[], Hs13, Hs50]) 0 0 ⟨rfl, rfl, rfl, trivial⟩ rfl rfl (TC.cutE 2 (fun L' H' => ∃ x117 : List Int, x117 = o125 ∧ ∃ sp118 n119 cap120 Hs122, OwnL (En.int .i64) 3 sp118 cap120 x117 Hs122 ∧ x117.length = n119 ∧ L' = [(10, .slice sp118 n119 cap120)] ∧ H' = ⟨[], [Hs122, Hs13, Hs50]⟩) ?_ ?_))
 · have h0130 := h
   clear h
   refine TC.loop (fun (n : Nat) (s : (List Int) × Int) => fn33_l2 x48 n s.1 s.2) o125 (fun _ => rfl) (fun (s : (List Int) × Int) L' H' => match s with | (x107, x115) => ∃ sp108 n109 cap110 Hs112, OwnL (En.int .i64) 3 sp108 cap110 x107 Hs112 ∧ x107.length = n109 ∧ L' = [(5, .slice sp4 ((p0.length : Int).toNat) ((p0.length : Int).toNat)), (10, .slice sp108 n109 cap110), (11, .int .i64 x115)] ∧ H' = ⟨[], [Hs112, Hs13, Hs50]⟩) ?_ F (([] : List Int), 0) ⟨none, 0, 0, [], (OwnL.nil (En.int .i64) 3), rfl, rfl, rfl⟩ hl126
   clear hl126
   rintro K127 n128 ⟨x107, x115⟩ _ _ ⟨sp108, n109, cap110, Hs112, ho113, hn111, rfl, rfl⟩ h ih129
   replace h := (fn33_l2_s x48 n128 x107 x115).symm.trans h
   refine TC.seq (TC.seq (TC.region (TO.u rfl rfl (TX.move rfl rfl (TO.u rfl rfl (TX.move rfl rfl (TO.u rfl rfl (TX.lenS (xs := x48) Try.runUnderlying41 rfl hn49 rfl (TO.u rfl rfl (TX.ibin rfl rfl rfl rfl (TO.nil (TE.thenN rfl rfl (TC.cond rfl (fun hb131 => ?_) (fun hb131 => ?_))))))))))))))
   · replace h := it h hb131
     refine TC.skip (TE.thenN rfl rfl (TC.seq (TC.block (TC.seq (TC.region (TO.u rfl rfl (TX.move rfl rfl (TO.u rfl rfl (TX.move rfl rfl ?_)))))))))
     obtain ⟨hk132, h⟩ := ck h
     refine TO.u rfl rfl (TX.indexR (N := En.bool) Try.runUnderlying41 Try.sizeOf4 rfl hn49 rfl (fun a w s => ho51.rd s (i := 2) rfl) hk132 rfl (TO.u rfl rfl (TX.loadR1 (N := En.bool) Try.isAgg4 rfl (fun a w s => ho51.rd s (i := 2) rfl) hk132 rfl rfl (TO.nil (TE.thenN rfl rfl (TC.cond rfl (fun hb133 => ?_) (fun hb133 => ?_)))))))
     · replace h := it h hb133
       refine TC.region (TO.u rfl rfl (TX.move rfl rfl (TO.u rfl rfl (TX.move rfl rfl (TO.u rfl rfl (TX.buildS (N := (En.int .i64)) (ys := ([x115] : List Int)) Try.runUnderlying45 Try.sizeOf3 Try.zeroValue3 rfl rfl rfl rfl (fillS [.int .i64 x115] rfl rfl rfl rfl) rfl (fun sp134 Hs136 ho137 => ?_)))))))
       obtain ⟨hk138, h⟩ := ck h
       refine TO.u rfl rfl (TX.appendS (N := (En.int .i64)) (si := 1) (xs := x107) (ys := ([x115] : List Int)) Try.runUnderlying45 Try.typeInfo3 rfl rfl rfl rfl rfl hn111 rfl rfl rfl ho113 (fun a w s => ho137.rd s (i := 0) rfl) hk138 rfl (fun sp139 cap140 Hs141 _ S142 ho143 => ?_))
       cases S142
       exact TO.u rfl rfl (TX.assign rfl rfl (TO.nil (TE.blockN (TE.thenN rfl rfl (TC.region (TO.u rfl rfl (TX.move rfl rfl (TO.u rfl rfl (TX.ibin rfl rfl rfl rfl (TO.u rfl rfl (TX.assign rfl rfl (TO.nil (TE.to (L' := [(5, .slice sp4 ((p0.length : Int).toNat) ((p0.length : Int).toNat)), (10, .slice sp139 ((x107 ++ ([x115] : List Int)).length) cap140), (11, .int .i64 (IntKind.i64.wrap (x115 + 1)))]) (E' := []) (S' := [Hs141, Hs13, Hs50]) 0 1 ⟨rfl, rfl, rfl, trivial⟩ rfl rfl (ih129 (x107 ++ ([x115] : List Int), IntKind.i64.wrap (x115 + 1)) _ _ ⟨sp139, ((x107 ++ ([x115] : List Int)).length), cap140, Hs141, ho143, rfl, rfl, rfl⟩ h))))))))))))))
     replace h := ie h hb133
     exact TC.skip (TE.blockN (TE.thenN rfl rfl (TC.region (TO.u rfl rfl (TX.move rfl rfl (TO.u rfl rfl (TX.ibin rfl rfl rfl rfl (TO.u rfl rfl (TX.assign rfl rfl (TO.nil (TE.to (L' := [(5, .slice sp4 ((p0.length : Int).toNat) ((p0.length : Int).toNat)), (10, .slice sp108 n109 cap110), (11, .int .i64 (IntKind.i64.wrap (x115 + 1)))]) (E' := []) (S' := [Hs112, Hs13, Hs50]) 0 0 ⟨rfl, rfl, rfl, trivial⟩ rfl rfl (ih129 (x107, IntKind.i64.wrap (x115 + 1)) _ _ ⟨sp108, n109, cap110, Hs112, ho113, hn111, rfl, rfl⟩ h))))))))))))
   replace h := ie h hb131
   exact TC.exit (TE.thenX (TE.loopX (TE.to (L' := [(10, .slice sp108 n109 cap110)]) (E' := []) (S' := [Hs112, Hs13, Hs50]) 0 0 ⟨rfl, trivial⟩ rfl rfl (TE.cutE ⟨x107, Option.some.inj h, sp108, n109, cap110, Hs112, ho113, hn111, rfl, rfl⟩))))
 rintro _ _ ⟨x117, rfl, sp118, n119, cap120, Hs122, ho123, hn121, rfl, rfl⟩
 replace h := (fn33_k2_s x117).symm.trans h
 refine TE.blockH (TE.thenN rfl rfl (TC.seq (TC.region (TO.u rfl rfl (TX.move rfl rfl (TO.u rfl rfl (TX.assign rfl rfl (TO.nil (TE.thenN rfl rfl (TC.ret ?_))))))))))
 have hr := (Option.some.inj h)
 subst hr
 exact TE.fin (R := ⟨[], []⟩) (TL.ret (R' := ⟨[], [Hs122]⟩) Try.results33 (.cons (.tmp rfl) .nil) (segSub (i := 0) rfl) ⟨sp118, n119, cap120, Hs122, rfl, hn121, rfl, ho123⟩)
end Go.Proofs.Ytbpldfhehpjbaaa
