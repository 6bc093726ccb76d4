/- Each Go function of this part computes the plain function beside it (walks, written by program). -/
import Derived.Test.YtbpldfhehpjbaaaGenA
namespace Go.Proofs.Ytbpldfhehpjbaaa
open Go Go.HW Go.MapKept
set_option maxRecDepth 4000
set_option linter.unusedVariables false
def fn45_l2 (v1 : (List S__2_int)) (x208 : Int) : Nat → (List Int) → Int → Option ((List Int))
  | 0, _, _ => none
  | n287 + 1, x266, x274 => (bif decide (x274 < 2) then (bif inb x274 ([(gt v1 x208).e0, (gt v1 x208).e1] : List Int).length then (bif decide ((0 : Int) ≤ (gt ([(gt v1 x208).e0, (gt v1 x208).e1] : List Int) x274)) then (bif decide ((x266.length + ([gt ([(gt v1 x208).e0, (gt v1 x208).e1] : List Int) x274] : List Int).length) * 8 ≤ 140737488355328 ∧ x266.length + ([gt ([(gt v1 x208).e0, (gt v1 x208).e1] : List Int) x274] : List Int).length ≤ 9223372036854775807) then ((fn45_l2 v1 x208 n287) (x266 ++ ([gt ([(gt v1 x208).e0, (gt v1 x208).e1] : List Int) x274] : List Int)) (IntKind.i64.wrap (x274 + 1))) else none) else ((fn45_l2 v1 x208 n287) x266 (IntKind.i64.wrap (x274 + 1)))) else none) else (some x266))
theorem fn45_l2_s (v1 : (List S__2_int)) (x208 : Int) (n287 : Nat) (x266 : List Int) (x274 : Int) : fn45_l2 v1 x208 (n287 + 1) x266 x274 = (bif decide (x274 < 2) then (bif inb x274 ([(gt v1 x208).e0, (gt v1 x208).e1] : List Int).length then (bif decide ((0 : Int) ≤ (gt ([(gt v1 x208).e0, (gt v1 x208).e1] : List Int) x274)) then (bif decide ((x266.length + ([gt ([(gt v1 x208).e0, (gt v1 x208).e1] : List Int) x274] : List Int).length) * 8 ≤ 140737488355328 ∧ x266.length + ([gt ([(gt v1 x208).e0, (gt v1 x208).e1] : List Int) x274] : List Int).length ≤ 9223372036854775807) then ((fn45_l2 v1 x208 n287) (x266 ++ ([gt ([(gt v1 x208).e0, (gt v1 x208).e1] : List Int) x274] : List Int)) (IntKind.i64.wrap (x274 + 1))) else none) else ((fn45_l2 v1 x208 n287) x266 (IntKind.i64.wrap (x274 + 1)))) else none) else (some x266)) := rfl
def fn45_k2 (x200 : List (List Int)) (x208 : Int) (rl1 : (List (List Int)) → Int → Option ((List (List Int)))) (x276 : List Int) : Option ((List (List Int))) :=
  (bif decide ((x200.length + 1) * 24 ≤ 140737488355328 ∧ x200.length + 1 ≤ 9223372036854775807) then (rl1 (x200 ++ [x276]) (IntKind.i64.wrap (x208 + 1))) else none)
theorem fn45_k2_s (x200 : List (List Int)) (x208 : Int) (rl1 : (List (List Int)) → Int → Option ((List (List Int)))) (x276 : List Int) : fn45_k2 x200 x208 rl1 x276 = (bif decide ((x200.length + 1) * 24 ≤ 140737488355328 ∧ x200.length + 1 ≤ 9223372036854775807) then (rl1 (x200 ++ [x276]) (IntKind.i64.wrap (x208 + 1))) else none) := rfl
def fn45_l1 (F : Nat) (v1 : (List S__2_int)) : Nat → (List (List Int)) → Int → Option ((List (List Int)))
  | 0, _, _ => none
  | n221 + 1, x200, x208 => (bif decide (x208 < (v1.length : Int)) then (bif inb x208 v1.length then (Option.bind (fn45_l2 v1 x208 F ([] : List Int) 0) fun o284 => (fn45_k2 x200 x208 (fn45_l1 F v1 n221) o284)) else none) else (some x200))
theorem fn45_l1_s (F : Nat) (v1 : (List S__2_int)) (n221 : Nat) (x200 : List (List Int)) (x208 : Int) : fn45_l1 F v1 (n221 + 1) x200 x208 = (bif decide (x208 < (v1.length : Int)) then (bif inb x208 v1.length then (Option.bind (fn45_l2 v1 x208 F ([] : List Int) 0) fun o284 => (fn45_k2 x200 x208 (fn45_l1 F v1 n221) o284)) else none) else (some x200)) := rfl
def fn45_k1 (x210 : List (List Int)) : Option ((List (List Int))) :=
  (some x210)
theorem fn45_k1_s (x210 : List (List Int)) : fn45_k1 x210 = (some x210) := rfl
/-- hatchway/flow.steps -/
def fn45 (F : Nat) (p0 : List Instr) : Option ((List (List Int))) :=
  (Option.bind (fn31 F p0) fun v1 => (Option.bind (fn45_l1 F v1 F ([] : List (List Int)) 0) fun o218 => (fn45_k1 o218)))
def post45 (r : (List (List Int))) (v : Value) (R : Hp) : Prop := ∃ sp n cap Hs, v = .slice sp n cap ∧ r.length = n ∧ R = ⟨[], [Hs]⟩ ∧ OwnLL (En.int .i64) 3 45 sp cap r Hs
theorem c45 (F : Nat) (sp_0 : Option Addr) (n_0 cap_0 : Nat) (p0 : List Instr) (w : World) (r : (List (List Int))) (qn0 : p0.length = n_0) (qc0 : p0.length ≤ cap_0) (qp0 : RdF Instr.E w [] sp_0 p0) (h : fn45 F p0 = some r) : Ret Try.prog 45 [.slice sp_0 n_0 cap_0] w ⟨[], []⟩ (post45 r) := by
 unfold fn45 at h
 refine Ret.of_body Try.func45 rfl Try.ntmps45 rfl (fun _ hx => absurd hx List.not_mem_nil) List.nodup_nil (TC.seq (TC.region (TO.u rfl rfl (TX.assign rfl rfl (TO.nil (TE.thenN rfl rfl (TC.seq (TC.region (TO.u rfl rfl (TX.assign rfl rfl (TO.nil (TE.thenN rfl rfl (TC.seq (TC.seq (TC.region (TO.u rfl rfl (TX.move rfl rfl ?_)))))))))))))))))
 obtain ⟨v1, hv1, h⟩ := bd h
 refine TO.u rfl rfl (TX.callQ (post31 v1) Try.call31 rfl (fun a w s => c31 F _ _ _ p0 _ _ qn0 qc0 (qp0.tr s.extB0) hv1) rfl ?_)
 rintro _ _ ⟨sp2, n3, cap4, Hs6, rfl, hn5, rfl, ho7⟩
 refine TO.reH ⟨[], [Hs6]⟩ rfl (TO.u rfl rfl (TX.lenS (xs := v1) Try.runUnderlying49 rfl hn5 rfl (TO.u rfl rfl (TX.move rfl rfl (TO.nil (TE.thenN rfl rfl (TC.block ?_)))))))
 obtain ⟨o218, hl219, h⟩ := bd h
 refine TC.addNil (TC.to (L' := [(3, .slice none 0 0), (10, .slice sp2 n3 cap4), (11, .int .i64 (v1.length : Int)), (12, .int .i64 0)]) (E' := []) (S' := [[], Hs6]) 0 0 ⟨rfl, rfl, rfl, rfl, trivial⟩ rfl rfl (TC.cutE 0 (fun L' H' => ∃ x210 : List (List Int), x210 = o218 ∧ ∃ sp211 n212 cap213 Hs215, OwnLL (En.int .i64) 3 45 sp211 cap213 x210 Hs215 ∧ x210.length = n212 ∧ L' = [(3, .slice sp211 n212 cap213)] ∧ H' = ⟨[], [Hs215, Hs6]⟩) ?_ ?_))
 · have h0223 := h
   clear h
   refine TC.loop (fun (n : Nat) (s : (List (List Int)) × Int) => fn45_l1 F v1 n s.1 s.2) o218 (fun _ => rfl) (fun (s : (List (List Int)) × Int) L' H' => match s with | (x200, x208) => ∃ sp201 n202 cap203 Hs205, OwnLL (En.int .i64) 3 45 sp201 cap203 x200 Hs205 ∧ x200.length = n202 ∧ L' = [(3, .slice sp201 n202 cap203), (10, .slice sp2 n3 cap4), (11, .int .i64 (v1.length : Int)), (12, .int .i64 x208)] ∧ H' = ⟨[], [Hs205, Hs6]⟩) ?_ F (([] : List (List Int)), 0) ⟨none, 0, 0, [], (OwnLL.nil (N := (En.int .i64)) (e := 3) (e2 := 45)), rfl, rfl, rfl⟩ hl219
   clear hl219
   rintro K220 n221 ⟨x200, x208⟩ _ _ ⟨sp201, n202, cap203, Hs205, ho206, hn204, rfl, rfl⟩ h ih222
   replace h := (fn45_l1_s F v1 n221 x200 x208).symm.trans h
   refine TC.seq (TC.region (TO.u rfl rfl (TX.ibin rfl rfl rfl rfl (TO.nil (TE.thenN rfl rfl (TC.seq (TC.cond rfl (fun hb224 => ?_) (fun hb224 => ?_))))))))
   · replace h := it h hb224
     refine TC.skip (TE.thenN rfl rfl (TC.seq (TC.block (TC.seq (TC.region ?_)))))
     obtain ⟨hk225, h⟩ := ck h
     refine TO.u rfl rfl (TX.indexR (N := S__2_int.E) Try.runUnderlying49 Try.sizeOf51 rfl hn5 rfl (fun a w s => ho7.rd s (i := 1) rfl) hk225 rfl (TO.u rfl rfl (TX.loadRN (N := S__2_int.E) Try.isAgg51 Try.sizeOf51 rfl (fun a w s => ho7.rd s (i := 1) rfl) hk225 rfl rfl (TO.u rfl rfl (TX.alloc Try.zeroValue51 rfl rfl (fun b226 => (TO.u rfl rfl (TX.store (i := 0) Try.sizeOf51 rfl rfl rfl rfl rfl rfl rfl rfl (TO.nil (TE.thenN rfl rfl (TC.seq (TC.region (TO.u rfl rfl (TX.assign rfl rfl (TO.nil (TE.thenN rfl rfl (TC.seq (TC.seq (TC.region (TO.u rfl rfl (TX.loadN (i := 0) Try.isAgg51 Try.sizeOf51 rfl rfl rfl rfl (TO.u rfl rfl (TX.move rfl rfl (TO.nil (TE.thenN rfl rfl (TC.block ?_))))))))))))))))))))))))))
     obtain ⟨o284, hl285, h⟩ := bd h
     refine TC.addNil (TC.to (L' := [(3, .slice sp201 n202 cap203), (6, .slice none 0 0), (10, .slice sp2 n3 cap4), (11, .int .i64 (v1.length : Int)), (12, .int .i64 x208), (16, .agg #[.int .i64 ((gt v1 x208).e0), .int .i64 ((gt v1 x208).e1)]), (17, .int .i64 0)]) (E' := [(b226, .cells #[.int .i64 ((gt v1 x208).e0), .int .i64 ((gt v1 x208).e1)] 51)]) (S' := [[], Hs205, Hs6]) 0 0 ⟨rfl, rfl, rfl, rfl, rfl, rfl, rfl, trivial⟩ rfl rfl (TC.cutE 2 (fun L' H' => ∃ x276 : List Int, x276 = o284 ∧ ∃ sp277 n278 cap279 Hs281, OwnL (En.int .i64) 3 sp277 cap279 x276 Hs281 ∧ x276.length = n278 ∧ L' = [(3, .slice sp201 n202 cap203), (6, .slice sp277 n278 cap279), (10, .slice sp2 n3 cap4), (11, .int .i64 (v1.length : Int)), (12, .int .i64 x208)] ∧ H' = ⟨[(b226, .cells #[.int .i64 ((gt v1 x208).e0), .int .i64 ((gt v1 x208).e1)] 51)], [Hs281, Hs205, Hs6]⟩) ?_ ?_))
     · have h0289 := h
       clear h
       refine TC.loop (fun (n : Nat) (s : (List Int) × Int) => fn45_l2 v1 x208 n s.1 s.2) o284 (fun _ => rfl) (fun (s : (List Int) × Int) L' H' => match s with | (x266, x274) => ∃ sp267 n268 cap269 Hs271, OwnL (En.int .i64) 3 sp267 cap269 x266 Hs271 ∧ x266.length = n268 ∧ L' = [(3, .slice sp201 n202 cap203), (6, .slice sp267 n268 cap269), (10, .slice sp2 n3 cap4), (11, .int .i64 (v1.length : Int)), (12, .int .i64 x208), (16, .agg #[.int .i64 ((gt v1 x208).e0), .int .i64 ((gt v1 x208).e1)]), (17, .int .i64 x274)] ∧ H' = ⟨[(b226, .cells #[.int .i64 ((gt v1 x208).e0), .int .i64 ((gt v1 x208).e1)] 51)], [Hs271, Hs205, Hs6]⟩) ?_ F (([] : List Int), 0) ⟨none, 0, 0, [], (OwnL.nil (En.int .i64) 3), rfl, rfl, rfl⟩ hl285
       clear hl285
       rintro K286 n287 ⟨x266, x274⟩ _ _ ⟨sp267, n268, cap269, Hs271, ho272, hn270, rfl, rfl⟩ h ih288
       replace h := (fn45_l2_s v1 x208 n287 x266 x274).symm.trans h
       refine TC.seq (TC.region (TO.u rfl rfl (TX.ibin rfl rfl rfl rfl (TO.nil (TE.thenN rfl rfl (TC.seq (TC.cond rfl (fun hb290 => ?_) (fun hb290 => ?_))))))))
       · replace h := it h hb290
         refine TC.skip (TE.thenN rfl rfl (TC.seq (TC.block (TC.seq (TC.region ?_)))))
         obtain ⟨hk291, h⟩ := ck h
         refine TO.u rfl rfl (TX.indexArr1 (xs := ([(gt v1 x208).e0, (gt v1 x208).e1] : List Int)) (V := (Value.int .i64)) Try.runUnderlying51 Try.sizeOf3 Try.isAgg3 rfl rfl rfl hk291 rfl (TO.u rfl rfl (TX.assign rfl rfl (TO.nil (TE.thenN rfl rfl (TC.seq (TC.region (TO.u rfl rfl (TX.move rfl rfl (TO.u rfl rfl (TX.ibin rfl rfl rfl rfl (TO.nil (TE.thenN rfl rfl (TC.cond rfl (fun hb292 => ?_) (fun hb292 => ?_)))))))))))))))
         · replace h := it h hb292
           refine TC.region (TO.u rfl rfl (TX.move rfl rfl (TO.u rfl rfl (TX.move rfl rfl (TO.u rfl rfl (TX.buildS (N := (En.int .i64)) (ys := ([gt ([(gt v1 x208).e0, (gt v1 x208).e1] : List Int) x274] : List Int)) Try.runUnderlying45 Try.sizeOf3 Try.zeroValue3 rfl rfl rfl rfl (fillS [.int .i64 (gt ([(gt v1 x208).e0, (gt v1 x208).e1] : List Int) x274)] rfl rfl rfl rfl) rfl (fun sp293 Hs295 ho296 => ?_)))))))
           obtain ⟨hk297, h⟩ := ck h
           refine TO.u rfl rfl (TX.appendS (N := (En.int .i64)) (si := 1) (xs := x266) (ys := ([gt ([(gt v1 x208).e0, (gt v1 x208).e1] : List Int) x274] : List Int)) Try.runUnderlying45 Try.typeInfo3 rfl rfl rfl rfl rfl hn270 rfl rfl rfl ho272 (fun a w s => ho296.rd s (i := 0) rfl) hk297 rfl (fun sp298 cap299 Hs300 _ S301 ho302 => ?_))
           cases S301
           exact TO.u rfl rfl (TX.assign rfl rfl (TO.nil (TE.blockN (TE.thenN rfl rfl (TC.region (TO.u rfl rfl (TX.ibin rfl rfl rfl rfl (TO.u rfl rfl (TX.move rfl rfl (TO.nil (TE.to (L' := [(3, .slice sp201 n202 cap203), (6, .slice sp298 ((x266 ++ ([gt ([(gt v1 x208).e0, (gt v1 x208).e1] : List Int) x274] : List Int)).length) cap299), (10, .slice sp2 n3 cap4), (11, .int .i64 (v1.length : Int)), (12, .int .i64 x208), (16, .agg #[.int .i64 ((gt v1 x208).e0), .int .i64 ((gt v1 x208).e1)]), (17, .int .i64 (IntKind.i64.wrap (x274 + 1)))]) (E' := [(b226, .cells #[.int .i64 ((gt v1 x208).e0), .int .i64 ((gt v1 x208).e1)] 51)]) (S' := [Hs300, Hs205, Hs6]) 0 1 ⟨rfl, rfl, rfl, rfl, rfl, rfl, rfl, trivial⟩ rfl rfl (ih288 (x266 ++ ([gt ([(gt v1 x208).e0, (gt v1 x208).e1] : List Int) x274] : List Int), IntKind.i64.wrap (x274 + 1)) _ _ ⟨sp298, ((x266 ++ ([gt ([(gt v1 x208).e0, (gt v1 x208).e1] : List Int) x274] : List Int)).length), cap299, Hs300, ho302, rfl, rfl, rfl⟩ h))))))))))))
         replace h := ie h hb292
         exact TC.skip (TE.blockN (TE.thenN rfl rfl (TC.region (TO.u rfl rfl (TX.ibin rfl rfl rfl rfl (TO.u rfl rfl (TX.move rfl rfl (TO.nil (TE.to (L' := [(3, .slice sp201 n202 cap203), (6, .slice sp267 n268 cap269), (10, .slice sp2 n3 cap4), (11, .int .i64 (v1.length : Int)), (12, .int .i64 x208), (16, .agg #[.int .i64 ((gt v1 x208).e0), .int .i64 ((gt v1 x208).e1)]), (17, .int .i64 (IntKind.i64.wrap (x274 + 1)))]) (E' := [(b226, .cells #[.int .i64 ((gt v1 x208).e0), .int .i64 ((gt v1 x208).e1)] 51)]) (S' := [Hs271, Hs205, Hs6]) 0 0 ⟨rfl, rfl, rfl, rfl, rfl, rfl, rfl, trivial⟩ rfl rfl (ih288 (x266, IntKind.i64.wrap (x274 + 1)) _ _ ⟨sp267, n268, cap269, Hs271, ho272, hn270, rfl, rfl⟩ h))))))))))
       replace h := ie h hb290
       exact TC.exit (TE.thenX (TE.loopX (TE.to (L' := [(3, .slice sp201 n202 cap203), (6, .slice sp267 n268 cap269), (10, .slice sp2 n3 cap4), (11, .int .i64 (v1.length : Int)), (12, .int .i64 x208)]) (E' := [(b226, .cells #[.int .i64 ((gt v1 x208).e0), .int .i64 ((gt v1 x208).e1)] 51)]) (S' := [Hs271, Hs205, Hs6]) 0 0 ⟨rfl, rfl, rfl, rfl, rfl, trivial⟩ rfl rfl (TE.cutE ⟨x266, Option.some.inj h, sp267, n268, cap269, Hs271, ho272, hn270, rfl, rfl⟩))))
     rintro _ _ ⟨x276, rfl, sp277, n278, cap279, Hs281, ho282, hn280, rfl, rfl⟩
     replace h := (fn45_k2_s x200 x208 (fn45_l1 F v1 n221) x276).symm.trans h
     refine TE.blockH (TE.thenN rfl rfl (TC.region (TO.u rfl rfl (TX.move rfl rfl (TO.u rfl rfl (TX.move rfl rfl (TO.u rfl rfl (TX.buildS (N := En.sl) (ys := ([(sp277, n278, cap279)] : List Sl)) Try.runUnderlying66 Try.sizeOf45 Try.zeroValue45 rfl rfl rfl rfl (fillS [.slice sp277 n278 cap279] rfl rfl rfl rfl) rfl (fun sp304 Hs306 ho307 => ?_)))))))))
     obtain ⟨hk308, h⟩ := ck h
     exact TO.u rfl rfl (TX.appendLL 1 (N := (En.int .i64)) (si := 2) (sj := 1) (xss := x200) (xs1 := x276) Try.runUnderlying66 Try.typeInfo45 rfl rfl rfl rfl rfl hn204 rfl rfl ho206 rfl ho282 hn280 (fun a w s => ho307.rd s (i := 0) rfl) hk308 rfl (fun sp309 cap310 Hs311 ho312 => (TO.reH ⟨[(b226, .cells #[.int .i64 ((gt v1 x208).e0), .int .i64 ((gt v1 x208).e1)] 51)], [Hs306, Hs311, Hs6]⟩ rfl (TO.u rfl rfl (TX.assign rfl rfl (TO.nil (TE.blockN (TE.thenN rfl rfl (TC.region (TO.u rfl rfl (TX.ibin rfl rfl rfl rfl (TO.u rfl rfl (TX.move rfl rfl (TO.nil (TE.to (L' := [(3, .slice sp309 ((x200 ++ [x276]).length) cap310), (10, .slice sp2 n3 cap4), (11, .int .i64 (v1.length : Int)), (12, .int .i64 (IntKind.i64.wrap (x208 + 1)))]) (E' := []) (S' := [Hs311, Hs6]) 1 1 ⟨rfl, rfl, rfl, rfl, trivial⟩ rfl rfl (ih222 (x200 ++ [x276], IntKind.i64.wrap (x208 + 1)) _ _ ⟨sp309, ((x200 ++ [x276]).length), cap310, Hs311, ho312, rfl, rfl, rfl⟩ h))))))))))))))))
   replace h := ie h hb224
   exact TC.exit (TE.thenX (TE.loopX (TE.to (L' := [(3, .slice sp201 n202 cap203)]) (E' := []) (S' := [Hs205, Hs6]) 0 0 ⟨rfl, trivial⟩ rfl rfl (TE.cutE ⟨x200, Option.some.inj h, sp201, n202, cap203, Hs205, ho206, hn204, rfl, rfl⟩))))
 rintro _ _ ⟨x210, rfl, sp211, n212, cap213, Hs215, ho216, hn214, rfl, rfl⟩
 replace h := (fn45_k1_s x210).symm.trans h
 refine TE.blockH (TE.thenN rfl rfl (TC.seq (TC.region (TO.u rfl rfl (TX.move rfl rfl (TO.u rfl rfl (TX.assign rfl rfl (TO.nil (TE.thenN rfl rfl (TC.ret ?_))))))))))
 have hr := (Option.some.inj h)
 subst hr
 exact TE.fin (R := ⟨[], []⟩) (TL.ret (R' := ⟨[], [Hs215]⟩) Try.results45 (.cons (.tmp rfl) .nil) (segSub (i := 0) rfl) ⟨sp211, n212, cap213, Hs215, rfl, hn214, rfl, ho216⟩)
def fn69_l2 {σ : Type} (step : σ → (Int × Int) → Option σ) (go : σ → Bool) (v1 : (List (List Int))) (x105 : Int) : Nat → σ → Int → Option ((σ) ⊕ ((σ) ⊕ (σ)))
  | 0, _, _ => none
  | n151 + 1, x140, x143 => (bif decide (x143 < ((gt v1 x105).length : Int)) then (bif inb x143 (gt v1 x105).length then (Option.bind (step x140 (x105, gt (gt v1 x105) x143)) fun u156 => (bif !(go u156) then (some (.inr (.inr u156))) else ((fn69_l2 step go v1 x105 n151) u156 (IntKind.i64.wrap (x143 + 1))))) else none) else (some (.inl x140)))
theorem fn69_l2_s {σ : Type} (step : σ → (Int × Int) → Option σ) (go : σ → Bool) (v1 : (List (List Int))) (x105 : Int) (n151 : Nat) (x140 : σ) (x143 : Int) : fn69_l2 step go v1 x105 (n151 + 1) x140 x143 = (bif decide (x143 < ((gt v1 x105).length : Int)) then (bif inb x143 (gt v1 x105).length then (Option.bind (step x140 (x105, gt (gt v1 x105) x143)) fun u156 => (bif !(go u156) then (some (.inr (.inr u156))) else ((fn69_l2 step go v1 x105 n151) u156 (IntKind.i64.wrap (x143 + 1))))) else none) else (some (.inl x140))) := rfl
def fn69_k2 {σ : Type} (x105 : Int) (rl1 : σ → Int → Option ((σ) ⊕ (σ))) (x145 : σ) : Option ((σ) ⊕ (σ)) :=
  (rl1 x145 (IntKind.i64.wrap (x105 + 1)))
theorem fn69_k2_s {σ : Type} (x105 : Int) (rl1 : σ → Int → Option ((σ) ⊕ (σ))) (x145 : σ) : fn69_k2 x105 rl1 x145 = (rl1 x145 (IntKind.i64.wrap (x105 + 1))) := rfl
def fn69_l1 {σ : Type} (F : Nat) (step : σ → (Int × Int) → Option σ) (go : σ → Bool) (v1 : (List (List Int))) : Nat → σ → Int → Option ((σ) ⊕ (σ))
  | 0, _, _ => none
  | n113 + 1, x102, x105 => (bif decide (x105 < (v1.length : Int)) then (bif inb x105 v1.length then (Option.bind (fn69_l2 step go v1 x105 F x102 0) fun o148 => (match o148 with | .inl u => fn69_k2 x105 (fn69_l1 F step go v1 n113) u | .inr u => some u)) else none) else (some (.inl x102)))
theorem fn69_l1_s {σ : Type} (F : Nat) (step : σ → (Int × Int) → Option σ) (go : σ → Bool) (v1 : (List (List Int))) (n113 : Nat) (x102 : σ) (x105 : Int) : fn69_l1 F step go v1 (n113 + 1) x102 x105 = (bif decide (x105 < (v1.length : Int)) then (bif inb x105 v1.length then (Option.bind (fn69_l2 step go v1 x105 F x102 0) fun o148 => (match o148 with | .inl u => fn69_k2 x105 (fn69_l1 F step go v1 n113) u | .inr u => some u)) else none) else (some (.inl x102))) := rfl
def fn69_k1 {σ : Type} (x107 : σ) : Option (σ) :=
  (some x107)
theorem fn69_k1_s {σ : Type} (x107 : σ) : fn69_k1 x107 = (some x107) := rfl
/-- hatchway/flow.Edges$1 -/
def fn69 {σ : Type} (F : Nat) (step : σ → (Int × Int) → Option σ) (go : σ → Bool) (q0 : List Instr) (s0 : σ) : Option (σ) :=
  (Option.bind (fn45 F q0) fun v1 => (Option.bind (fn69_l1 F step go v1 F s0 0) fun o110 => (match o110 with | .inl u => fn69_k1 u | .inr u => some u)))
theorem c69 {σ : Type} (F : Nat) (step : σ → (Int × Int) → Option σ) (go : σ → Bool) (I : σ → Blocks → Prop) (yv : Value) (s0 : σ) (Hs0 : Blocks) (b_q0 : Nat) (sp_q0 : Option Addr) (n_q0 cap_q0 : Nat) (q0 : List Instr) (w : World) (r : σ) (qnq0 : q0.length = n_q0) (qcq0 : q0.length ≤ cap_q0) (qpq0 : RdF Instr.E w ((⟨[(b_q0, .cells #[.slice sp_q0 n_q0 cap_q0] 24)], [Hs0]⟩ : Hp).all.map (·.1)) sp_q0 q0) (hat : HpOk w ⟨[(b_q0, .cells #[.slice sp_q0 n_q0 cap_q0] 24)], [Hs0]⟩) (hy : Yld Try.prog w ((⟨[(b_q0, .cells #[.slice sp_q0 n_q0 cap_q0] 24)], [Hs0]⟩ : Hp).all.map (·.1)) yv I (fun x => [.int .i64 x.1, .int .i64 x.2]) step go) (hI : I s0 Hs0) (h : fn69 F step go q0 s0 = some r) : Ret Try.prog 69 [yv, .pointer (some ⟨b_q0, 0, none⟩)] w ⟨[(b_q0, .cells #[.slice sp_q0 n_q0 cap_q0] 24)], [Hs0]⟩ (fun v R => ∃ Hs1, I r Hs1 ∧ R = ⟨[(b_q0, .cells #[.slice sp_q0 n_q0 cap_q0] 24)], [Hs1]⟩) := by
 unfold fn69 at h
 refine Ret.of_body Try.func69 rfl Try.ntmps69 rfl hat.1 hat.2 (TC.seq (TC.region (TO.u rfl rfl (TX.load1 (i := 0) Try.isAgg24 rfl rfl rfl rfl ?_))))
 obtain ⟨v1, hv1, h⟩ := bd h
 refine TO.u rfl rfl (TX.callQ (post45 v1) Try.call45 rfl (fun a w s => c45 F _ _ _ q0 _ _ qnq0 qcq0 (qpq0.tr s.extB0) hv1) rfl ?_)
 rintro _ _ ⟨sp2, n3, cap4, Hs6, rfl, hn5, rfl, ho7⟩
 refine TO.reH ⟨[(b_q0, .cells #[.slice sp_q0 n_q0 cap_q0] 24)], [Hs6, Hs0]⟩ rfl (TO.u rfl rfl (TX.lenS (xs := v1) Try.runUnderlying66 rfl hn5 rfl (TO.u rfl rfl (TX.move rfl rfl (TO.nil (TE.thenN rfl rfl (TC.block ?_)))))))
 obtain ⟨o110, hl111, h⟩ := bd h
 refine TC.to (L' := [(0, yv), (8, .slice sp2 n3 cap4), (9, .int .i64 (v1.length : Int)), (10, .int .i64 0)]) (E' := [(b_q0, .cells #[.slice sp_q0 n_q0 cap_q0] 24)]) (S' := [Hs6, Hs0]) 0 0 ⟨rfl, rfl, rfl, rfl, trivial⟩ rfl rfl (TC.cutE 0 (fun L' H' => ∃ x107 : σ, .inl x107 = o110 ∧ ∃ Hs108, I x107 Hs108 ∧ L' = [] ∧ H' = ⟨[(b_q0, .cells #[.slice sp_q0 n_q0 cap_q0] 24)], [Hs6, Hs108]⟩) ?_ ?_)
 · have h0115 := h
   clear h
   refine TC.loop (fun (n : Nat) (s : σ × Int) => fn69_l1 F step go v1 n s.1 s.2) o110 (fun _ => rfl) (fun (s : σ × Int) L' H' => match s with | (x102, x105) => ∃ Hs103, I x102 Hs103 ∧ L' = [(0, yv), (8, .slice sp2 n3 cap4), (9, .int .i64 (v1.length : Int)), (10, .int .i64 x105)] ∧ H' = ⟨[(b_q0, .cells #[.slice sp_q0 n_q0 cap_q0] 24)], [Hs6, Hs103]⟩) ?_ F (s0, 0) ⟨Hs0, hI, rfl, rfl⟩ hl111
   clear hl111
   rintro K112 n113 ⟨x102, x105⟩ _ _ ⟨Hs103, ho104, rfl, rfl⟩ h ih114
   replace h := (fn69_l1_s F step go v1 n113 x102 x105).symm.trans h
   refine TC.seq (TC.region (TO.u rfl rfl (TX.ibin rfl rfl rfl rfl (TO.nil (TE.thenN rfl rfl (TC.seq (TC.cond rfl (fun hb116 => ?_) (fun hb116 => ?_))))))))
   · replace h := it h hb116
     refine TC.skip (TE.thenN rfl rfl (TC.seq (TC.block (TC.seq (TC.region (TO.u rfl rfl (TX.move rfl rfl ?_)))))))
     obtain ⟨hk117, h⟩ := ck h
     refine TO.u rfl rfl (TX.indexLL (si := 0) Try.runUnderlying66 Try.sizeOf45 rfl hn5 rfl rfl ho7 hk117 rfl (TO.u rfl rfl (TX.loadLL (si := 0) (i := x105) Try.isAgg45 rfl rfl ho7 hk117 rfl (fun sp118 n119 cap120 hn121 => (TO.u rfl rfl (TX.assign rfl rfl (TO.u rfl rfl (TX.assign rfl rfl (TO.nil (TE.thenN rfl rfl (TC.seq (TC.region (TO.u rfl rfl (TX.move rfl rfl (TO.u rfl rfl (TX.lenS (xs := gt v1 x105) Try.runUnderlying45 rfl hn121.1 rfl (TO.u rfl rfl (TX.move rfl rfl (TO.nil (TE.thenN rfl rfl (TC.block ?_)))))))))))))))))))))
     obtain ⟨o148, hl149, h⟩ := bd h
     refine TC.to (L' := [(0, yv), (3, .int .i64 x105), (8, .slice sp2 n3 cap4), (9, .int .i64 (v1.length : Int)), (10, .int .i64 x105), (15, .slice sp118 n119 cap120), (16, .int .i64 ((gt v1 x105).length : Int)), (17, .int .i64 0)]) (E' := [(b_q0, .cells #[.slice sp_q0 n_q0 cap_q0] 24)]) (S' := [Hs6, Hs103]) 0 0 ⟨rfl, rfl, rfl, rfl, rfl, rfl, rfl, rfl, trivial⟩ rfl rfl (TC.cutE 2 (fun L' H' => ∃ x145 : σ, .inl x145 = o148 ∧ ∃ Hs146, I x145 Hs146 ∧ L' = [(0, yv), (8, .slice sp2 n3 cap4), (9, .int .i64 (v1.length : Int)), (10, .int .i64 x105)] ∧ H' = ⟨[(b_q0, .cells #[.slice sp_q0 n_q0 cap_q0] 24)], [Hs6, Hs146]⟩) ?_ ?_)
     · have h0153 := h
       clear h
       refine TC.loop (fun (n : Nat) (s : σ × Int) => fn69_l2 step go v1 x105 n s.1 s.2) o148 (fun _ => rfl) (fun (s : σ × Int) L' H' => match s with | (x140, x143) => ∃ Hs141, I x140 Hs141 ∧ L' = [(0, yv), (3, .int .i64 x105), (8, .slice sp2 n3 cap4), (9, .int .i64 (v1.length : Int)), (10, .int .i64 x105), (15, .slice sp118 n119 cap120), (16, .int .i64 ((gt v1 x105).length : Int)), (17, .int .i64 x143)] ∧ H' = ⟨[(b_q0, .cells #[.slice sp_q0 n_q0 cap_q0] 24)], [Hs6, Hs141]⟩) ?_ F (x102, 0) ⟨Hs103, ho104, rfl, rfl⟩ hl149
       clear hl149
       rintro K150 n151 ⟨x140, x143⟩ _ _ ⟨Hs141, ho142, rfl, rfl⟩ h ih152
       replace h := (fn69_l2_s step go v1 x105 n151 x140 x143).symm.trans h
       refine TC.seq (TC.region (TO.u rfl rfl (TX.ibin rfl rfl rfl rfl (TO.nil (TE.thenN rfl rfl (TC.seq (TC.cond rfl (fun hb154 => ?_) (fun hb154 => ?_))))))))
       · replace h := it h hb154
         refine TC.skip (TE.thenN rfl rfl (TC.seq (TC.block (TC.seq (TC.region ?_)))))
         obtain ⟨hk155, h⟩ := ck h
         refine TO.u rfl rfl (TX.indexR (N := (En.int .i64)) Try.runUnderlying45 Try.sizeOf3 rfl hn121.1 rfl (fun a w s => hn121.rd s (i := 0) rfl) hk155 rfl (TO.u rfl rfl (TX.loadR1 (N := (En.int .i64)) Try.isAgg3 rfl (fun a w s => hn121.rd s (i := 0) rfl) hk155 rfl rfl (TO.u rfl rfl (TX.assign rfl rfl (TO.nil (TE.thenN rfl rfl (TC.seq (TC.region (TO.u rfl rfl (TX.move rfl rfl (TO.u rfl rfl (TX.move rfl rfl (TO.u rfl rfl (TX.move rfl rfl ?_)))))))))))))))
         obtain ⟨u156, hu156, h⟩ := bd h
         refine TO.u rfl rfl (TX.yield (x := (x105, gt (gt v1 x105) x143)) 1 hy rfl rfl rfl rfl hu156 ho142 rfl (fun Hs157 hI158 => (TO.reH ⟨[(b_q0, .cells #[.slice sp_q0 n_q0 cap_q0] 24)], [Hs6, Hs157]⟩ rfl (TO.u rfl rfl (TX.not rfl rfl (TO.nil (TE.thenN rfl rfl (TC.cond rfl (fun hb159 => ?_) (fun hb159 => ?_)))))))))
         · replace h := it h hb159
           refine TC.ret (TE.blockR (TE.thenR (TE.loopR (TE.cutR ?_))))
           have ho := Option.some.inj h
           subst ho
           replace h := h0153
           refine TE.blockR (TE.blockR (TE.thenR (TE.loopR (TE.cutR ?_))))
           have ho := Option.some.inj h
           subst ho
           replace h := h0115
           refine TE.blockR ?_
           have hr := (Option.some.inj h)
           subst hr
           exact TE.fin (R := ⟨[(b_q0, .cells #[.slice sp_q0 n_q0 cap_q0] 24)], [Hs0]⟩) (TL.ret (R' := ⟨[(b_q0, .cells #[.slice sp_q0 n_q0 cap_q0] 24)], [Hs157]⟩) Try.results69 .nil (subD 0 1 rfl rfl) ⟨Hs157, hI158, rfl⟩)
         replace h := ie h hb159
         exact TC.skip (TE.blockN (TE.thenN rfl rfl (TC.region (TO.u rfl rfl (TX.ibin rfl rfl rfl rfl (TO.u rfl rfl (TX.move rfl rfl (TO.nil (TE.to (L' := [(0, yv), (3, .int .i64 x105), (8, .slice sp2 n3 cap4), (9, .int .i64 (v1.length : Int)), (10, .int .i64 x105), (15, .slice sp118 n119 cap120), (16, .int .i64 ((gt v1 x105).length : Int)), (17, .int .i64 (IntKind.i64.wrap (x143 + 1)))]) (E' := [(b_q0, .cells #[.slice sp_q0 n_q0 cap_q0] 24)]) (S' := [Hs6, Hs157]) 0 0 ⟨rfl, rfl, rfl, rfl, rfl, rfl, rfl, rfl, trivial⟩ rfl rfl (ih152 (u156, IntKind.i64.wrap (x143 + 1)) _ _ ⟨Hs157, hI158, rfl, rfl⟩ h))))))))))
       replace h := ie h hb154
       exact TC.exit (TE.thenX (TE.loopX (TE.to (L' := [(0, yv), (8, .slice sp2 n3 cap4), (9, .int .i64 (v1.length : Int)), (10, .int .i64 x105)]) (E' := [(b_q0, .cells #[.slice sp_q0 n_q0 cap_q0] 24)]) (S' := [Hs6, Hs141]) 0 0 ⟨rfl, rfl, rfl, rfl, trivial⟩ rfl rfl (TE.cutE ⟨x140, Option.some.inj h, Hs141, ho142, rfl, rfl⟩))))
     rintro _ _ ⟨x145, rfl, Hs146, ho147, rfl, rfl⟩
     replace h := (fn69_k2_s x105 (fn69_l1 F step go v1 n113) x145).symm.trans h
     exact TE.blockH (TE.blockN (TE.thenN rfl rfl (TC.region (TO.u rfl rfl (TX.ibin rfl rfl rfl rfl (TO.u rfl rfl (TX.move rfl rfl (TO.nil (TE.to (L' := [(0, yv), (8, .slice sp2 n3 cap4), (9, .int .i64 (v1.length : Int)), (10, .int .i64 (IntKind.i64.wrap (x105 + 1)))]) (E' := [(b_q0, .cells #[.slice sp_q0 n_q0 cap_q0] 24)]) (S' := [Hs6, Hs146]) 0 0 ⟨rfl, rfl, rfl, rfl, trivial⟩ rfl rfl (ih114 (x145, IntKind.i64.wrap (x105 + 1)) _ _ ⟨Hs146, ho147, rfl, rfl⟩ h))))))))))
   replace h := ie h hb116
   exact TC.exit (TE.thenX (TE.loopX (TE.to (L' := []) (E' := [(b_q0, .cells #[.slice sp_q0 n_q0 cap_q0] 24)]) (S' := [Hs6, Hs103]) 0 0 trivial rfl rfl (TE.cutE ⟨x102, Option.some.inj h, Hs103, ho104, rfl, rfl⟩))))
 rintro _ _ ⟨x107, rfl, Hs108, ho109, rfl, rfl⟩
 replace h := (fn69_k1_s x107).symm.trans h
 refine TE.blockH ?_
 have hr := (Option.some.inj h)
 subst hr
 exact TE.finN (R := ⟨[(b_q0, .cells #[.slice sp_q0 n_q0 cap_q0] 24)], [Hs0]⟩) (TL.ret (R' := ⟨[(b_q0, .cells #[.slice sp_q0 n_q0 cap_q0] 24)], [Hs108]⟩) Try.results69 .nil (subD 0 1 rfl rfl) ⟨Hs108, ho109, rfl⟩)
/-- hatchway/flow.Edges -/
theorem c41 (sp_0 : Option Addr) (n_0 cap_0 : Nat) (p0 : List Instr) (w : World) : Ret Try.prog 41 [.slice sp_0 n_0 cap_0] w ⟨[], []⟩ (fun v R => ∃ c_0 : Nat, v = .func (.func 69) #[] #[.pointer (some ⟨c_0, 0, none⟩)] ∧ R = ⟨[(c_0, .cells #[.slice sp_0 n_0 cap_0] 24)], []⟩) := by
 exact Ret.of_body Try.func41 rfl Try.ntmps41 rfl (fun _ hx => absurd hx List.not_mem_nil) List.nodup_nil (TC.seq (TC.region (TO.u rfl rfl (TX.box rfl rfl rfl (fun b1 => (TO.u rfl rfl (TX.assign rfl rfl (TO.nil (TE.thenN rfl rfl (TC.seq (TC.region (TO.u rfl rfl (TX.mkfunc rfl rfl rfl (TO.u rfl rfl (TX.assign rfl rfl (TO.nil (TE.thenN rfl rfl (TC.ret (TE.fin (R := ⟨[], []⟩) (TL.ret (R' := ⟨[(b1, .cells #[.slice sp_0 n_0 cap_0] 24)], []⟩) Try.results41 (.cons (.tmp rfl) .nil) (List.Sublist.refl _) ⟨b1, rfl, rfl⟩))))))))))))))))))))
structure Visit where
  fat : Int
  fleft : Bool
  deriving DecidableEq, Inhabited
def Visit.enc (x : Visit) : List Value := [.int .i64 x.fat, .bool x.fleft]
def Visit.E : En Visit := ⟨Visit.enc, 2, fun _ => rfl, fun _ => rfl, by decide⟩
structure S_flow_visit_ where
  fl : List Visit
  deriving DecidableEq, Inhabited
/-- (*hatchway/flow.stack_hatchway/flow.visit_).push -/
def fn50 (p0 : S_flow_visit_) (p1 : List Visit) : Option (S_flow_visit_) :=
  (bif decide ((p0.fl.length + p1.length) * 16 ≤ 140737488355328 ∧ p0.fl.length + p1.length ≤ 9223372036854775807) then (some (⟨(p0.fl ++ p1)⟩ : S_flow_visit_)) else none)
theorem c50 (b_0 : Nat) (p0 : S_flow_visit_) (sp_0_0 : Option Addr) (n_0_0 cap_0_0 : Nat) (Hs_0_0 : Blocks) (sp_1 : Option Addr) (n_1 cap_1 : Nat) (p1 : List Visit) (w : World) (r : S_flow_visit_) (qn0_0 : p0.fl.length = n_0_0) (ho_0_0 : OwnL Visit.E 82 sp_0_0 cap_0_0 p0.fl Hs_0_0) (qn1 : p1.length = n_1) (qc1 : p1.length ≤ cap_1) (qp1 : RdF Visit.E w ((⟨[(b_0, .cells #[.slice sp_0_0 n_0_0 cap_0_0] 79)], [Hs_0_0]⟩ : Hp).all.map (·.1)) sp_1 p1) (hat : HpOk w ⟨[(b_0, .cells #[.slice sp_0_0 n_0_0 cap_0_0] 79)], [Hs_0_0]⟩) (h : fn50 p0 p1 = some r) : Ret Try.prog 50 [.pointer (some ⟨b_0, 0, none⟩), .slice sp_1 n_1 cap_1] w ⟨[(b_0, .cells #[.slice sp_0_0 n_0_0 cap_0_0] 79)], [Hs_0_0]⟩ (fun v R => ∃ (os0_0 : Option Addr), ∃ (on0_0 oc0_0 : Nat), ∃ (oH0_0 : Blocks), v = .tuple #[] ∧ R = ⟨[(b_0, .cells #[.slice os0_0 on0_0 oc0_0] 79)], [oH0_0]⟩ ∧ r.fl.length = on0_0 ∧ OwnL Visit.E 82 os0_0 oc0_0 r.fl oH0_0) := by
 unfold fn50 at h
 refine Ret.of_body Try.func50 rfl Try.ntmps50 rfl hat.1 hat.2 (TC.region (TO.u rfl rfl (TX.move rfl rfl (TO.u rfl rfl (TX.move rfl rfl (TO.u rfl rfl (TX.nilCheckP rfl rfl (TO.u rfl rfl (TX.fieldAddr' Try.runUnderlying79 rfl Try.sizeOf77 rfl rfl rfl (TO.u rfl rfl (TX.load1 (i := 0) Try.isAgg77 rfl rfl rfl rfl (TO.u rfl rfl (TX.move rfl rfl ?_)))))))))))))
 obtain ⟨hk1, h⟩ := ck h
 refine TO.u rfl rfl (TX.appendS (N := Visit.E) (si := 0) (xs := p0.fl) (ys := p1) Try.runUnderlying77 Try.typeInfo82 rfl rfl rfl rfl rfl qn0_0 rfl qn1 rfl ho_0_0 (fun a w s => qp1 w s.ext) hk1 rfl (fun sp2 cap3 Hs4 _ S5 ho6 => ?_))
 cases S5
 refine TO.u rfl rfl (TX.nilCheckP rfl rfl (TO.u rfl rfl (TX.fieldAddr' Try.runUnderlying79 rfl Try.sizeOf77 rfl rfl rfl (TO.u rfl rfl (TX.store (i := 0) Try.sizeOf77 rfl rfl rfl rfl rfl rfl rfl rfl (TO.nil ?_))))))
 have hr := (Option.some.inj h)
 subst hr
 exact TE.finN (R := ⟨[(b_0, .cells #[.slice sp_0_0 n_0_0 cap_0_0] 79)], [Hs_0_0]⟩) (TL.ret (R' := ⟨[(b_0, .cells #[.slice sp2 ((p0.fl ++ p1).length) cap3] 79)], [Hs4]⟩) Try.results50 .nil (subD 0 0 rfl rfl) ⟨sp2, ((p0.fl ++ p1).length), cap3, Hs4, rfl, rfl, rfl, ho6⟩)
def fn73_l {σ : Type} (step : σ → (Visit) → Option σ) (go : σ → Bool) (get : σ → List Visit) (put : List Visit → σ → σ) : Nat → σ → Option σ
  | 0, _ => none
  | n1 + 1, sx => (bif decide ((0 : Int) < ((get sx).length : Int)) then (bif inb (IntKind.i64.wrap (((get sx).length : Int) - 1)) (get sx).length then (bif sliceOk ((0 : Nat) : Int) (IntKind.i64.wrap (((get sx).length : Int) - 1)) (get sx).length then (Option.bind (step (put (cutX (get sx) ((0 : Nat) : Int).toNat (IntKind.i64.wrap (((get sx).length : Int) - 1)).toNat) sx) (gt (get sx) (IntKind.i64.wrap (((get sx).length : Int) - 1)))) fun u17007 => (bif !(go u17007) then (some u17007) else ((fn73_l step go get put n1) u17007))) else none) else none) else (some sx))
theorem fn73_l_s {σ : Type} (step : σ → (Visit) → Option σ) (go : σ → Bool) (get : σ → List Visit) (put : List Visit → σ → σ) (n1 : Nat) (sx : σ) : fn73_l step go get put (n1 + 1) sx = (bif decide ((0 : Int) < ((get sx).length : Int)) then (bif inb (IntKind.i64.wrap (((get sx).length : Int) - 1)) (get sx).length then (bif sliceOk ((0 : Nat) : Int) (IntKind.i64.wrap (((get sx).length : Int) - 1)) (get sx).length then (Option.bind (step (put (cutX (get sx) ((0 : Nat) : Int).toNat (IntKind.i64.wrap (((get sx).length : Int) - 1)).toNat) sx) (gt (get sx) (IntKind.i64.wrap (((get sx).length : Int) - 1)))) fun u17007 => (bif !(go u17007) then (some u17007) else ((fn73_l step go get put n1) u17007))) else none) else none) else (some sx)) := rfl
/-- (*hatchway/flow.stack_hatchway/flow.visit_).pops$1 -/
def fn73 {σ : Type} (F : Nat) (step : σ → (Visit) → Option σ) (go : σ → Bool) (get : σ → List Visit) (put : List Visit → σ → σ) (s0 : σ) : Option σ := fn73_l step go get put F s0
set_option maxHeartbeats 8000000 in
theorem c73 {σ : Type} (F : Nat) (step : σ → (Visit) → Option σ) (go : σ → Bool) (get : σ → List Visit) (put : List Visit → σ → σ) (I : σ → Blocks → Prop) (yv : Value) (s0 : σ) (Hs0 : Blocks) (b_q0 bp : Nat) (w : World) (r : σ) (hl : LensB Visit.E 82 bp 79 get put I) (hat : HpOk w ⟨[(b_q0, .cells #[.pointer (some ⟨bp, 0, none⟩)] 101)], [Hs0]⟩) (hy : Yld Try.prog w ((⟨[(b_q0, .cells #[.pointer (some ⟨bp, 0, none⟩)] 101)], [Hs0]⟩ : Hp).all.map (·.1)) yv I (fun x => [.agg #[.int .i64 x.fat, .bool x.fleft]]) step go) (hI : I s0 Hs0) (h : fn73 F step go get put s0 = some r) : Ret Try.prog 73 [yv, .pointer (some ⟨b_q0, 0, none⟩)] w ⟨[(b_q0, .cells #[.pointer (some ⟨bp, 0, none⟩)] 101)], [Hs0]⟩ (fun v R => ∃ Hs1, I r Hs1 ∧ R = ⟨[(b_q0, .cells #[.pointer (some ⟨bp, 0, none⟩)] 101)], [Hs1]⟩) := by
 unfold fn73 at h
 refine Ret.of_body Try.func73 rfl Try.ntmps73 rfl hat.1 hat.2 (TC.block (TC.loop (fun (n : Nat) (s : σ) => fn73_l step go get put n s) r (fun _ => rfl) (fun s L' H' => ∃ Hs, I s Hs ∧ L' = [(0, yv), (1, .pointer (some ⟨b_q0, 0, none⟩))] ∧ H' = ⟨[(b_q0, .cells #[.pointer (some ⟨bp, 0, none⟩)] 101)], [Hs]⟩) ?_ F s0 ⟨Hs0, hI, rfl, rfl⟩ h))
 clear h
 rintro K1 n1 sx _ _ ⟨Hs, hI1, rfl, rfl⟩ h ih
 replace h := (fn73_l_s step go get put n1 sx).symm.trans h
 obtain ⟨sp, n, cap, row, X, hp, hn, ho, hc⟩ := hl sx Hs hI1
 refine TC.perm (H' := ⟨[(bp, .cells #[.slice sp n cap] 79), (b_q0, .cells #[.pointer (some ⟨bp, 0, none⟩)] 101)], [row, X]⟩) (open_perm hp) (TC.seq (TC.seq (TC.region (TO.u rfl rfl (TX.load1 (i := 1) Try.isAgg101 rfl rfl rfl rfl (TO.u rfl rfl (TX.nilCheckP rfl rfl (TO.u rfl rfl (TX.fieldAddr' Try.runUnderlying79 rfl Try.sizeOf77 rfl rfl rfl (TO.u rfl rfl (TX.load1 (i := 0) Try.isAgg77 rfl rfl rfl rfl (TO.u rfl rfl (TX.lenS (xs := (get sx)) Try.runUnderlying77 rfl hn rfl (TO.u rfl rfl (TX.ibin rfl rfl rfl rfl (TO.nil (TE.thenN rfl rfl (TC.cond rfl (fun hb1 => ?_) (fun hb1 => ?_)))))))))))))))))))
 · replace h := it h hb1
   refine TC.skip (TE.thenN rfl rfl (TC.block (TC.seq ?_)))
   obtain ⟨hk12501, h⟩ := ck h
   refine TC.to (L' := [(0, yv), (1, .pointer (some ⟨b_q0, 0, none⟩))]) (E' := [(bp, .cells #[.slice sp n cap] 79), (b_q0, .cells #[.pointer (some ⟨bp, 0, none⟩)] 101)]) (S' := [row, X]) 0 0 ⟨rfl, rfl, trivial⟩ rfl rfl (TC.drawD hmix (fun T15501 hdef15502 => ?_))
   have hS1000_0 : ∀ (b14001 : Nat), T15501 0 [true, true, true, true, true, true, true, true, true, true, true, true, true, true] [(0, yv), (1, .pointer (some ⟨b_q0, 0, none⟩)), (3, .pointer (some ⟨b14001, 0, none⟩))] ⟨[(b14001, .cells #[.int .i64 ((gt (get sx) (IntKind.i64.wrap (((get sx).length : Int) - 1))).fat), .bool ((gt (get sx) (IntKind.i64.wrap (((get sx).length : Int) - 1))).fleft)] 82), (bp, .cells #[.slice sp n cap] 79), (b_q0, .cells #[.pointer (some ⟨bp, 0, none⟩)] 101)], [row, X]⟩ := by
    intro b14001
    rw [hdef15502]
    refine TD.done rfl rfl (TE.thenN rfl rfl (TC.seq (TC.keep (L' := [(0, yv), (1, .pointer (some ⟨b_q0, 0, none⟩)), (3, .pointer (some ⟨b14001, 0, none⟩))]) ⟨rfl, rfl, rfl, trivial⟩ ?_)))
    obtain ⟨hk17001, h⟩ := ck h
    refine TC.draw hmix 12 [.pointer (some ⟨bp, 0, none⟩), .pointer (some ⟨bp, 0, none⟩), .pointer (some ⟨bp, 0, none⟩), .pointer (some ⟨bp, 0, none⟩), .slice sp n cap, .pointer (some ⟨bp, 0, none⟩), .pointer (some ⟨bp, 0, none⟩), .pointer (some ⟨bp, 0, none⟩), .slice sp n cap, .int .i64 ((get sx).length : Int), .int .i64 (IntKind.i64.wrap (((get sx).length : Int) - 1)), .slice (subP sp Visit.E.sz cap ((0 : Nat) : Int).toNat) ((IntKind.i64.wrap (((get sx).length : Int) - 1)).toNat - ((0 : Nat) : Int).toNat) (cap - ((0 : Nat) : Int).toNat)] [(22, .pointer (some ⟨bp, 0, none⟩)), (33, .slice (subP sp Visit.E.sz cap ((0 : Nat) : Int).toNat) ((IntKind.i64.wrap (((get sx).length : Int) - 1)).toNat - ((0 : Nat) : Int).toNat) (cap - ((0 : Nat) : Int).toNat))] rfl rfl rfl rfl ?_ (.cons 0 rfl rfl rfl (.cons 11 rfl rfl rfl .nil)) ?_
    · exact QAll.u [(1, .pointer (some ⟨b_q0, 0, none⟩))] (.old rfl .nil) rfl rfl (QV.load1 (i := 2) Try.isAgg101 rfl rfl rfl).s rfl (QAll.u [(1, .pointer (some ⟨b_q0, 0, none⟩))] (.old rfl .nil) rfl rfl (QV.load1 (i := 2) Try.isAgg101 rfl rfl rfl).s rfl (QAll.u [(23, .pointer (some ⟨bp, 0, none⟩))] (.dat 1 rfl rfl rfl .nil) rfl rfl (QV.nilCheckP rfl).s rfl (QAll.u [(24, .pointer (some ⟨bp, 0, none⟩))] (.dat 2 rfl rfl rfl .nil) rfl rfl (QV.fieldAddr' Try.runUnderlying79 rfl Try.sizeOf77 rfl rfl).s rfl (QAll.u [(25, .pointer (some ⟨bp, 0, none⟩))] (.dat 3 rfl rfl rfl .nil) rfl rfl (QV.load1 (i := 1) Try.isAgg77 rfl rfl rfl).s rfl (QAll.u [(1, .pointer (some ⟨b_q0, 0, none⟩))] (.old rfl .nil) rfl rfl (QV.load1 (i := 2) Try.isAgg101 rfl rfl rfl).s rfl (QAll.u [(27, .pointer (some ⟨bp, 0, none⟩))] (.dat 5 rfl rfl rfl .nil) rfl rfl (QV.nilCheckP rfl).s rfl (QAll.u [(28, .pointer (some ⟨bp, 0, none⟩))] (.dat 6 rfl rfl rfl .nil) rfl rfl (QV.fieldAddr' Try.runUnderlying79 rfl Try.sizeOf77 rfl rfl).s rfl (QAll.u [(29, .pointer (some ⟨bp, 0, none⟩))] (.dat 7 rfl rfl rfl .nil) rfl rfl (QV.load1 (i := 1) Try.isAgg77 rfl rfl rfl).s rfl (QAll.u [(30, .slice sp n cap)] (.dat 8 rfl rfl rfl .nil) rfl rfl (QV.lenS (xs := (get sx)) Try.runUnderlying77 rfl hn).s rfl (QAll.u [(31, .int .i64 ((get sx).length : Int))] (.dat 9 rfl rfl rfl .nil) rfl rfl (QV.ibin rfl rfl rfl).s rfl (QAll.u [(26, .slice sp n cap), (32, .int .i64 (IntKind.i64.wrap (((get sx).length : Int) - 1)))] (.dat 4 rfl rfl rfl (.dat 10 rfl rfl rfl .nil)) rfl rfl (QV.slice (l := ((0 : Nat) : Int)) (h := (IntKind.i64.wrap (((get sx).length : Int) - 1))) Try.runUnderlying77 Try.sizeOf82 rfl .none (.some rfl) ho.le_cap hk17001).s rfl (QAll.nil))))))))))))
    refine TO.u rfl rfl (TX.nilCheckP rfl rfl (TO.u rfl rfl (TX.fieldAddr' Try.runUnderlying79 rfl Try.sizeOf77 rfl rfl rfl (TO.u rfl rfl (TX.store (i := 1) Try.sizeOf77 rfl rfl rfl rfl rfl rfl rfl rfl (TO.nil (TE.thenN rfl rfl (TC.seq (TC.region (TO.u rfl rfl (TX.move rfl rfl (TO.u rfl rfl (TX.loadN (i := 0) Try.isAgg82 Try.sizeOf82 rfl rfl rfl rfl ?_)))))))))))))
    obtain ⟨Hs17005, hI17006, hp17004⟩ := hc _ _ _ _ _ (cutX_length (sliceOk_hi hk17001)) (OwnL.cut ho rfl (sliceOk_hi hk17001))
    refine TO.perm (H' := ⟨[(b14001, .cells #[.int .i64 ((gt (get sx) (IntKind.i64.wrap (((get sx).length : Int) - 1))).fat), .bool ((gt (get sx) (IntKind.i64.wrap (((get sx).length : Int) - 1))).fleft)] 82), (b_q0, .cells #[.pointer (some ⟨bp, 0, none⟩)] 101)], [Hs17005]⟩) (open_permA (A := [(b14001, .cells #[.int .i64 ((gt (get sx) (IntKind.i64.wrap (((get sx).length : Int) - 1))).fat), .bool ((gt (get sx) (IntKind.i64.wrap (((get sx).length : Int) - 1))).fleft)] 82)]) hp17004).symm ?_
    obtain ⟨u17007, hu17007, h⟩ := bd h
    refine TO.u rfl rfl (TX.yield (x := (gt (get sx) (IntKind.i64.wrap (((get sx).length : Int) - 1)))) 0 hy rfl rfl rfl rfl hu17007 hI17006 rfl (fun Hs17008 hI17009 => (TO.reH ⟨[(b14001, .cells #[.int .i64 ((gt (get sx) (IntKind.i64.wrap (((get sx).length : Int) - 1))).fat), .bool ((gt (get sx) (IntKind.i64.wrap (((get sx).length : Int) - 1))).fleft)] 82), (b_q0, .cells #[.pointer (some ⟨bp, 0, none⟩)] 101)], [Hs17008]⟩ rfl (TO.u rfl rfl (TX.not rfl rfl (TO.nil (TE.thenN rfl rfl (TC.cond rfl (fun hb17010 => ?_) (fun hb17010 => ?_)))))))))
    · replace h := it h hb17010
      refine TC.ret (TE.blockR (TE.loopR (TE.blockR ?_)))
      have hr := (Option.some.inj h)
      subst hr
      exact TE.fin (R := ⟨[(b_q0, .cells #[.pointer (some ⟨bp, 0, none⟩)] 101)], [Hs0]⟩) (TL.ret (R' := ⟨[(b_q0, .cells #[.pointer (some ⟨bp, 0, none⟩)] 101)], [Hs17008]⟩) Try.results73 .nil (subD 1 0 rfl rfl) ⟨Hs17008, hI17009, rfl⟩)
    replace h := ie h hb17010
    exact TC.skip (TE.blockN (TE.to (L' := [(0, yv), (1, .pointer (some ⟨b_q0, 0, none⟩))]) (E' := [(b_q0, .cells #[.pointer (some ⟨bp, 0, none⟩)] 101)]) (S' := [Hs17008]) 1 0 ⟨rfl, rfl, trivial⟩ rfl rfl (ih u17007 _ _ ⟨_, hI17009, rfl, rfl⟩ h)))
   have hS1000_1 : ∀ (b14001 : Nat), T15501 1 [true, true, true, true, true, true, true, true, true, true, true, true, true, false] [(0, yv), (1, .pointer (some ⟨b_q0, 0, none⟩)), (3, .pointer (some ⟨b14001, 0, none⟩)), (21, .agg #[.int .i64 ((gt (get sx) (IntKind.i64.wrap (((get sx).length : Int) - 1))).fat), .bool ((gt (get sx) (IntKind.i64.wrap (((get sx).length : Int) - 1))).fleft)])] ⟨[(b14001, .cells #[.int .i64 0, .bool false] 82), (bp, .cells #[.slice sp n cap] 79), (b_q0, .cells #[.pointer (some ⟨bp, 0, none⟩)] 101)], [row, X]⟩ := by
    intro b14001
    rw [hdef15502]
    refine TD.step [13] 13 rfl rfl rfl rfl rfl (EdgeOk.cons rfl ?_ ?_)
    · exact TO.u rfl rfl (TX.store (i := 0) Try.sizeOf82 rfl rfl rfl rfl rfl rfl rfl rfl (TO.nil (TE.toh (TE.td ((hdef15502 _ _ _ _).mp (hS1000_0 b14001))) 0 0 ⟨rfl, rfl, rfl, trivial⟩ rfl rfl)))
    exact EdgeOk.nil
   have hS1000_2 : T15501 2 [true, true, true, true, true, true, true, true, true, true, true, true, false, false] [(0, yv), (1, .pointer (some ⟨b_q0, 0, none⟩)), (21, .agg #[.int .i64 ((gt (get sx) (IntKind.i64.wrap (((get sx).length : Int) - 1))).fat), .bool ((gt (get sx) (IntKind.i64.wrap (((get sx).length : Int) - 1))).fleft)])] ⟨[(bp, .cells #[.slice sp n cap] 79), (b_q0, .cells #[.pointer (some ⟨bp, 0, none⟩)] 101)], [row, X]⟩ := by
    rw [hdef15502]
    refine TD.step [12] 12 rfl rfl rfl rfl rfl (EdgeOk.cons rfl ?_ ?_)
    · exact TO.u rfl rfl (TX.alloc Try.zeroValue82 rfl rfl (fun b14001 => (TO.nil (TE.toh (TE.td ((hdef15502 _ _ _ _).mp (hS1000_1 b14001))) 0 0 ⟨rfl, rfl, rfl, rfl, trivial⟩ rfl rfl))))
    exact EdgeOk.nil
   have hS1000_3 : ∀ (b14001 : Nat), T15501 2 [true, true, true, true, true, true, true, true, true, true, true, false, true, false] [(0, yv), (1, .pointer (some ⟨b_q0, 0, none⟩)), (3, .pointer (some ⟨b14001, 0, none⟩)), (20, .pointer (some (eAddr sp ((IntKind.i64.wrap (((get sx).length : Int) - 1)).toNat * Visit.E.sz + 0))))] ⟨[(b14001, .cells #[.int .i64 0, .bool false] 82), (bp, .cells #[.slice sp n cap] 79), (b_q0, .cells #[.pointer (some ⟨bp, 0, none⟩)] 101)], [row, X]⟩ := by
    intro b14001
    rw [hdef15502]
    refine TD.step [11] 11 rfl rfl rfl rfl rfl (EdgeOk.cons rfl ?_ ?_)
    · exact TO.u rfl rfl (TX.loadRN (N := Visit.E) Try.isAgg82 Try.sizeOf82 rfl (fun a w s => ho.rd s (i := 0) rfl) hk12501 rfl rfl (TO.nil (TE.toh (TE.td ((hdef15502 _ _ _ _).mp (hS1000_1 b14001))) 0 0 ⟨rfl, rfl, rfl, rfl, trivial⟩ rfl rfl)))
    exact EdgeOk.nil
   have hS1000_4 : T15501 3 [true, true, true, true, true, true, true, true, true, true, true, false, false, false] [(0, yv), (1, .pointer (some ⟨b_q0, 0, none⟩)), (20, .pointer (some (eAddr sp ((IntKind.i64.wrap (((get sx).length : Int) - 1)).toNat * Visit.E.sz + 0))))] ⟨[(bp, .cells #[.slice sp n cap] 79), (b_q0, .cells #[.pointer (some ⟨bp, 0, none⟩)] 101)], [row, X]⟩ := by
    rw [hdef15502]
    refine TD.step [11, 12] 11 rfl rfl rfl rfl rfl (EdgeOk.cons rfl ?_ ?_)
    · exact TO.u rfl rfl (TX.loadRN (N := Visit.E) Try.isAgg82 Try.sizeOf82 rfl (fun a w s => ho.rd s (i := 0) rfl) hk12501 rfl rfl (TO.nil (TE.toh (TE.td ((hdef15502 _ _ _ _).mp (hS1000_2))) 0 0 ⟨rfl, rfl, rfl, trivial⟩ rfl rfl)))
    refine EdgeOk.cons rfl ?_ ?_
    · exact TO.u rfl rfl (TX.alloc Try.zeroValue82 rfl rfl (fun b14001 => (TO.nil (TE.toh (TE.td ((hdef15502 _ _ _ _).mp (hS1000_3 b14001))) 0 0 ⟨rfl, rfl, rfl, rfl, trivial⟩ rfl rfl))))
    exact EdgeOk.nil
   have hS1000_5 : ∀ (b14001 : Nat), T15501 3 [true, true, true, true, true, true, true, true, true, true, false, false, true, false] [(0, yv), (1, .pointer (some ⟨b_q0, 0, none⟩)), (3, .pointer (some ⟨b14001, 0, none⟩)), (13, .slice sp n cap), (19, .int .i64 (IntKind.i64.wrap (((get sx).length : Int) - 1)))] ⟨[(b14001, .cells #[.int .i64 0, .bool false] 82), (bp, .cells #[.slice sp n cap] 79), (b_q0, .cells #[.pointer (some ⟨bp, 0, none⟩)] 101)], [row, X]⟩ := by
    intro b14001
    rw [hdef15502]
    refine TD.step [10] 10 rfl rfl rfl rfl rfl (EdgeOk.cons rfl ?_ ?_)
    · exact TO.u rfl rfl (TX.indexR (N := Visit.E) Try.runUnderlying77 Try.sizeOf82 rfl hn rfl (fun a w s => ho.rd s (i := 0) rfl) hk12501 rfl (TO.nil (TE.toh (TE.td ((hdef15502 _ _ _ _).mp (hS1000_3 b14001))) 0 0 ⟨rfl, rfl, rfl, rfl, trivial⟩ rfl rfl)))
    exact EdgeOk.nil
   have hS1000_6 : T15501 4 [true, true, true, true, true, true, true, true, true, true, false, false, false, false] [(0, yv), (1, .pointer (some ⟨b_q0, 0, none⟩)), (13, .slice sp n cap), (19, .int .i64 (IntKind.i64.wrap (((get sx).length : Int) - 1)))] ⟨[(bp, .cells #[.slice sp n cap] 79), (b_q0, .cells #[.pointer (some ⟨bp, 0, none⟩)] 101)], [row, X]⟩ := by
    rw [hdef15502]
    refine TD.step [10, 12] 10 rfl rfl rfl rfl rfl (EdgeOk.cons rfl ?_ ?_)
    · exact TO.u rfl rfl (TX.indexR (N := Visit.E) Try.runUnderlying77 Try.sizeOf82 rfl hn rfl (fun a w s => ho.rd s (i := 0) rfl) hk12501 rfl (TO.nil (TE.toh (TE.td ((hdef15502 _ _ _ _).mp (hS1000_4))) 0 0 ⟨rfl, rfl, rfl, trivial⟩ rfl rfl)))
    refine EdgeOk.cons rfl ?_ ?_
    · exact TO.u rfl rfl (TX.alloc Try.zeroValue82 rfl rfl (fun b14001 => (TO.nil (TE.toh (TE.td ((hdef15502 _ _ _ _).mp (hS1000_5 b14001))) 0 0 ⟨rfl, rfl, rfl, rfl, rfl, trivial⟩ rfl rfl))))
    exact EdgeOk.nil
   have hS1000_7 : ∀ (b14001 : Nat), T15501 4 [true, true, true, true, true, true, true, true, true, false, false, false, true, false] [(0, yv), (1, .pointer (some ⟨b_q0, 0, none⟩)), (3, .pointer (some ⟨b14001, 0, none⟩)), (13, .slice sp n cap), (18, .int .i64 ((get sx).length : Int))] ⟨[(b14001, .cells #[.int .i64 0, .bool false] 82), (bp, .cells #[.slice sp n cap] 79), (b_q0, .cells #[.pointer (some ⟨bp, 0, none⟩)] 101)], [row, X]⟩ := by
    intro b14001
    rw [hdef15502]
    refine TD.step [9] 9 rfl rfl rfl rfl rfl (EdgeOk.cons rfl ?_ ?_)
    · exact TO.u rfl rfl (TX.ibin rfl rfl rfl rfl (TO.nil (TE.toh (TE.td ((hdef15502 _ _ _ _).mp (hS1000_5 b14001))) 0 0 ⟨rfl, rfl, rfl, rfl, rfl, trivial⟩ rfl rfl)))
    exact EdgeOk.nil
   have hS1000_8 : ∀ (b14001 : Nat), T15501 4 [true, true, true, false, true, true, true, true, true, true, false, false, true, false] [(0, yv), (1, .pointer (some ⟨b_q0, 0, none⟩)), (3, .pointer (some ⟨b14001, 0, none⟩)), (12, .pointer (some ⟨bp, 0, none⟩)), (19, .int .i64 (IntKind.i64.wrap (((get sx).length : Int) - 1)))] ⟨[(b14001, .cells #[.int .i64 0, .bool false] 82), (bp, .cells #[.slice sp n cap] 79), (b_q0, .cells #[.pointer (some ⟨bp, 0, none⟩)] 101)], [row, X]⟩ := by
    intro b14001
    rw [hdef15502]
    refine TD.step [3] 3 rfl rfl rfl rfl rfl (EdgeOk.cons rfl ?_ ?_)
    · exact TO.u rfl rfl (TX.load1 (i := 1) Try.isAgg77 rfl rfl rfl rfl (TO.nil (TE.toh (TE.td ((hdef15502 _ _ _ _).mp (hS1000_5 b14001))) 0 0 ⟨rfl, rfl, rfl, rfl, rfl, trivial⟩ rfl rfl)))
    exact EdgeOk.nil
   have hS1000_9 : T15501 5 [true, true, true, true, true, true, true, true, true, false, false, false, false, false] [(0, yv), (1, .pointer (some ⟨b_q0, 0, none⟩)), (13, .slice sp n cap), (18, .int .i64 ((get sx).length : Int))] ⟨[(bp, .cells #[.slice sp n cap] 79), (b_q0, .cells #[.pointer (some ⟨bp, 0, none⟩)] 101)], [row, X]⟩ := by
    rw [hdef15502]
    refine TD.step [9, 12] 9 rfl rfl rfl rfl rfl (EdgeOk.cons rfl ?_ ?_)
    · exact TO.u rfl rfl (TX.ibin rfl rfl rfl rfl (TO.nil (TE.toh (TE.td ((hdef15502 _ _ _ _).mp (hS1000_6))) 0 0 ⟨rfl, rfl, rfl, rfl, trivial⟩ rfl rfl)))
    refine EdgeOk.cons rfl ?_ ?_
    · exact TO.u rfl rfl (TX.alloc Try.zeroValue82 rfl rfl (fun b14001 => (TO.nil (TE.toh (TE.td ((hdef15502 _ _ _ _).mp (hS1000_7 b14001))) 0 0 ⟨rfl, rfl, rfl, rfl, rfl, trivial⟩ rfl rfl))))
    exact EdgeOk.nil
   have hS1000_10 : ∀ (b14001 : Nat), T15501 5 [true, true, true, true, true, true, true, true, false, false, false, false, true, false] [(0, yv), (1, .pointer (some ⟨b_q0, 0, none⟩)), (3, .pointer (some ⟨b14001, 0, none⟩)), (13, .slice sp n cap), (17, .slice sp n cap)] ⟨[(b14001, .cells #[.int .i64 0, .bool false] 82), (bp, .cells #[.slice sp n cap] 79), (b_q0, .cells #[.pointer (some ⟨bp, 0, none⟩)] 101)], [row, X]⟩ := by
    intro b14001
    rw [hdef15502]
    refine TD.step [8] 8 rfl rfl rfl rfl rfl (EdgeOk.cons rfl ?_ ?_)
    · exact TO.u rfl rfl (TX.lenS (xs := (get sx)) Try.runUnderlying77 rfl hn rfl (TO.nil (TE.toh (TE.td ((hdef15502 _ _ _ _).mp (hS1000_7 b14001))) 0 0 ⟨rfl, rfl, rfl, rfl, rfl, trivial⟩ rfl rfl)))
    exact EdgeOk.nil
   have hS1000_11 : T15501 5 [true, true, true, false, true, true, true, true, true, true, false, false, false, false] [(0, yv), (1, .pointer (some ⟨b_q0, 0, none⟩)), (12, .pointer (some ⟨bp, 0, none⟩)), (19, .int .i64 (IntKind.i64.wrap (((get sx).length : Int) - 1)))] ⟨[(bp, .cells #[.slice sp n cap] 79), (b_q0, .cells #[.pointer (some ⟨bp, 0, none⟩)] 101)], [row, X]⟩ := by
    rw [hdef15502]
    refine TD.step [3, 12] 3 rfl rfl rfl rfl rfl (EdgeOk.cons rfl ?_ ?_)
    · exact TO.u rfl rfl (TX.load1 (i := 0) Try.isAgg77 rfl rfl rfl rfl (TO.nil (TE.toh (TE.td ((hdef15502 _ _ _ _).mp (hS1000_6))) 0 0 ⟨rfl, rfl, rfl, rfl, trivial⟩ rfl rfl)))
    refine EdgeOk.cons rfl ?_ ?_
    · exact TO.u rfl rfl (TX.alloc Try.zeroValue82 rfl rfl (fun b14001 => (TO.nil (TE.toh (TE.td ((hdef15502 _ _ _ _).mp (hS1000_8 b14001))) 0 0 ⟨rfl, rfl, rfl, rfl, rfl, trivial⟩ rfl rfl))))
    exact EdgeOk.nil
   have hS1000_12 : ∀ (b14001 : Nat), T15501 5 [true, true, true, false, true, true, true, true, true, false, false, false, true, false] [(0, yv), (1, .pointer (some ⟨b_q0, 0, none⟩)), (3, .pointer (some ⟨b14001, 0, none⟩)), (12, .pointer (some ⟨bp, 0, none⟩)), (18, .int .i64 ((get sx).length : Int))] ⟨[(b14001, .cells #[.int .i64 0, .bool false] 82), (bp, .cells #[.slice sp n cap] 79), (b_q0, .cells #[.pointer (some ⟨bp, 0, none⟩)] 101)], [row, X]⟩ := by
    intro b14001
    rw [hdef15502]
    refine TD.step [3, 9] 3 rfl rfl rfl rfl rfl (EdgeOk.cons rfl ?_ ?_)
    · exact TO.u rfl rfl (TX.load1 (i := 1) Try.isAgg77 rfl rfl rfl rfl (TO.nil (TE.toh (TE.td ((hdef15502 _ _ _ _).mp (hS1000_7 b14001))) 0 0 ⟨rfl, rfl, rfl, rfl, rfl, trivial⟩ rfl rfl)))
    refine EdgeOk.cons rfl ?_ ?_
    · exact TO.u rfl rfl (TX.ibin rfl rfl rfl rfl (TO.nil (TE.toh (TE.td ((hdef15502 _ _ _ _).mp (hS1000_8 b14001))) 0 0 ⟨rfl, rfl, rfl, rfl, rfl, trivial⟩ rfl rfl)))
    exact EdgeOk.nil
   have hS1000_13 : ∀ (b14001 : Nat), T15501 5 [true, true, false, false, true, true, true, true, true, true, false, false, true, false] [(0, yv), (1, .pointer (some ⟨b_q0, 0, none⟩)), (3, .pointer (some ⟨b14001, 0, none⟩)), (11, .pointer (some ⟨bp, 0, none⟩)), (19, .int .i64 (IntKind.i64.wrap (((get sx).length : Int) - 1)))] ⟨[(b14001, .cells #[.int .i64 0, .bool false] 82), (bp, .cells #[.slice sp n cap] 79), (b_q0, .cells #[.pointer (some ⟨bp, 0, none⟩)] 101)], [row, X]⟩ := by
    intro b14001
    rw [hdef15502]
    refine TD.step [2] 2 rfl rfl rfl rfl rfl (EdgeOk.cons rfl ?_ ?_)
    · exact TO.u rfl rfl (TX.fieldAddr' Try.runUnderlying79 rfl Try.sizeOf77 rfl rfl rfl (TO.nil (TE.toh (TE.td ((hdef15502 _ _ _ _).mp (hS1000_8 b14001))) 0 0 ⟨rfl, rfl, rfl, rfl, rfl, trivial⟩ rfl rfl)))
    exact EdgeOk.nil
   have hS1000_14 : T15501 6 [true, true, true, true, true, true, true, true, false, false, false, false, false, false] [(0, yv), (1, .pointer (some ⟨b_q0, 0, none⟩)), (13, .slice sp n cap), (17, .slice sp n cap)] ⟨[(bp, .cells #[.slice sp n cap] 79), (b_q0, .cells #[.pointer (some ⟨bp, 0, none⟩)] 101)], [row, X]⟩ := by
    rw [hdef15502]
    refine TD.step [8, 12] 8 rfl rfl rfl rfl rfl (EdgeOk.cons rfl ?_ ?_)
    · exact TO.u rfl rfl (TX.lenS (xs := (get sx)) Try.runUnderlying77 rfl hn rfl (TO.nil (TE.toh (TE.td ((hdef15502 _ _ _ _).mp (hS1000_9))) 0 0 ⟨rfl, rfl, rfl, rfl, trivial⟩ rfl rfl)))
    refine EdgeOk.cons rfl ?_ ?_
    · exact TO.u rfl rfl (TX.alloc Try.zeroValue82 rfl rfl (fun b14001 => (TO.nil (TE.toh (TE.td ((hdef15502 _ _ _ _).mp (hS1000_10 b14001))) 0 0 ⟨rfl, rfl, rfl, rfl, rfl, trivial⟩ rfl rfl))))
    exact EdgeOk.nil
   have hS1000_15 : ∀ (b14001 : Nat), T15501 6 [true, true, true, true, true, true, true, false, false, false, false, false, true, false] [(0, yv), (1, .pointer (some ⟨b_q0, 0, none⟩)), (3, .pointer (some ⟨b14001, 0, none⟩)), (13, .slice sp n cap), (16, .pointer (some ⟨bp, 0, none⟩))] ⟨[(b14001, .cells #[.int .i64 0, .bool false] 82), (bp, .cells #[.slice sp n cap] 79), (b_q0, .cells #[.pointer (some ⟨bp, 0, none⟩)] 101)], [row, X]⟩ := by
    intro b14001
    rw [hdef15502]
    refine TD.step [7] 7 rfl rfl rfl rfl rfl (EdgeOk.cons rfl ?_ ?_)
    · exact TO.u rfl rfl (TX.load1 (i := 1) Try.isAgg77 rfl rfl rfl rfl (TO.nil (TE.toh (TE.td ((hdef15502 _ _ _ _).mp (hS1000_10 b14001))) 0 0 ⟨rfl, rfl, rfl, rfl, rfl, trivial⟩ rfl rfl)))
    exact EdgeOk.nil
   have hS1000_16 : T15501 6 [true, true, true, false, true, true, true, true, true, false, false, false, false, false] [(0, yv), (1, .pointer (some ⟨b_q0, 0, none⟩)), (12, .pointer (some ⟨bp, 0, none⟩)), (18, .int .i64 ((get sx).length : Int))] ⟨[(bp, .cells #[.slice sp n cap] 79), (b_q0, .cells #[.pointer (some ⟨bp, 0, none⟩)] 101)], [row, X]⟩ := by
    rw [hdef15502]
    refine TD.step [3, 9, 12] 3 rfl rfl rfl rfl rfl (EdgeOk.cons rfl ?_ ?_)
    · exact TO.u rfl rfl (TX.load1 (i := 0) Try.isAgg77 rfl rfl rfl rfl (TO.nil (TE.toh (TE.td ((hdef15502 _ _ _ _).mp (hS1000_9))) 0 0 ⟨rfl, rfl, rfl, rfl, trivial⟩ rfl rfl)))
    refine EdgeOk.cons rfl ?_ ?_
    · exact TO.u rfl rfl (TX.ibin rfl rfl rfl rfl (TO.nil (TE.toh (TE.td ((hdef15502 _ _ _ _).mp (hS1000_11))) 0 0 ⟨rfl, rfl, rfl, rfl, trivial⟩ rfl rfl)))
    refine EdgeOk.cons rfl ?_ ?_
    · exact TO.u rfl rfl (TX.alloc Try.zeroValue82 rfl rfl (fun b14001 => (TO.nil (TE.toh (TE.td ((hdef15502 _ _ _ _).mp (hS1000_12 b14001))) 0 0 ⟨rfl, rfl, rfl, rfl, rfl, trivial⟩ rfl rfl))))
    exact EdgeOk.nil
   have hS1000_17 : ∀ (b14001 : Nat), T15501 6 [true, true, true, false, true, true, true, true, false, false, false, false, true, false] [(0, yv), (1, .pointer (some ⟨b_q0, 0, none⟩)), (3, .pointer (some ⟨b14001, 0, none⟩)), (12, .pointer (some ⟨bp, 0, none⟩)), (17, .slice sp n cap)] ⟨[(b14001, .cells #[.int .i64 0, .bool false] 82), (bp, .cells #[.slice sp n cap] 79), (b_q0, .cells #[.pointer (some ⟨bp, 0, none⟩)] 101)], [row, X]⟩ := by
    intro b14001
    rw [hdef15502]
    refine TD.step [3, 8] 3 rfl rfl rfl rfl rfl (EdgeOk.cons rfl ?_ ?_)
    · exact TO.u rfl rfl (TX.load1 (i := 1) Try.isAgg77 rfl rfl rfl rfl (TO.nil (TE.toh (TE.td ((hdef15502 _ _ _ _).mp (hS1000_10 b14001))) 0 0 ⟨rfl, rfl, rfl, rfl, rfl, trivial⟩ rfl rfl)))
    refine EdgeOk.cons rfl ?_ ?_
    · exact TO.u rfl rfl (TX.lenS (xs := (get sx)) Try.runUnderlying77 rfl hn rfl (TO.nil (TE.toh (TE.td ((hdef15502 _ _ _ _).mp (hS1000_12 b14001))) 0 0 ⟨rfl, rfl, rfl, rfl, rfl, trivial⟩ rfl rfl)))
    exact EdgeOk.nil
   have hS1000_18 : T15501 6 [true, true, false, false, true, true, true, true, true, true, false, false, false, false] [(0, yv), (1, .pointer (some ⟨b_q0, 0, none⟩)), (11, .pointer (some ⟨bp, 0, none⟩)), (19, .int .i64 (IntKind.i64.wrap (((get sx).length : Int) - 1)))] ⟨[(bp, .cells #[.slice sp n cap] 79), (b_q0, .cells #[.pointer (some ⟨bp, 0, none⟩)] 101)], [row, X]⟩ := by
    rw [hdef15502]
    refine TD.step [2, 12] 2 rfl rfl rfl rfl rfl (EdgeOk.cons rfl ?_ ?_)
    · exact TO.u rfl rfl (TX.fieldAddr' Try.runUnderlying79 rfl Try.sizeOf77 rfl rfl rfl (TO.nil (TE.toh (TE.td ((hdef15502 _ _ _ _).mp (hS1000_11))) 0 0 ⟨rfl, rfl, rfl, rfl, trivial⟩ rfl rfl)))
    refine EdgeOk.cons rfl ?_ ?_
    · exact TO.u rfl rfl (TX.alloc Try.zeroValue82 rfl rfl (fun b14001 => (TO.nil (TE.toh (TE.td ((hdef15502 _ _ _ _).mp (hS1000_13 b14001))) 0 0 ⟨rfl, rfl, rfl, rfl, rfl, trivial⟩ rfl rfl))))
    exact EdgeOk.nil
   have hS1000_19 : ∀ (b14001 : Nat), T15501 6 [true, true, false, false, true, true, true, true, true, false, false, false, true, false] [(0, yv), (1, .pointer (some ⟨b_q0, 0, none⟩)), (3, .pointer (some ⟨b14001, 0, none⟩)), (11, .pointer (some ⟨bp, 0, none⟩)), (18, .int .i64 ((get sx).length : Int))] ⟨[(b14001, .cells #[.int .i64 0, .bool false] 82), (bp, .cells #[.slice sp n cap] 79), (b_q0, .cells #[.pointer (some ⟨bp, 0, none⟩)] 101)], [row, X]⟩ := by
    intro b14001
    rw [hdef15502]
    refine TD.step [2, 9] 2 rfl rfl rfl rfl rfl (EdgeOk.cons rfl ?_ ?_)
    · exact TO.u rfl rfl (TX.fieldAddr' Try.runUnderlying79 rfl Try.sizeOf77 rfl rfl rfl (TO.nil (TE.toh (TE.td ((hdef15502 _ _ _ _).mp (hS1000_12 b14001))) 0 0 ⟨rfl, rfl, rfl, rfl, rfl, trivial⟩ rfl rfl)))
    refine EdgeOk.cons rfl ?_ ?_
    · exact TO.u rfl rfl (TX.ibin rfl rfl rfl rfl (TO.nil (TE.toh (TE.td ((hdef15502 _ _ _ _).mp (hS1000_13 b14001))) 0 0 ⟨rfl, rfl, rfl, rfl, rfl, trivial⟩ rfl rfl)))
    exact EdgeOk.nil
   have hS1000_20 : ∀ (b14001 : Nat), T15501 6 [true, false, false, false, true, true, true, true, true, true, false, false, true, false] [(0, yv), (1, .pointer (some ⟨b_q0, 0, none⟩)), (3, .pointer (some ⟨b14001, 0, none⟩)), (10, .pointer (some ⟨bp, 0, none⟩)), (19, .int .i64 (IntKind.i64.wrap (((get sx).length : Int) - 1)))] ⟨[(b14001, .cells #[.int .i64 0, .bool false] 82), (bp, .cells #[.slice sp n cap] 79), (b_q0, .cells #[.pointer (some ⟨bp, 0, none⟩)] 101)], [row, X]⟩ := by
    intro b14001
    rw [hdef15502]
    refine TD.step [1] 1 rfl rfl rfl rfl rfl (EdgeOk.cons rfl ?_ ?_)
    · exact TO.u rfl rfl (TX.nilCheckP rfl rfl (TO.nil (TE.toh (TE.td ((hdef15502 _ _ _ _).mp (hS1000_13 b14001))) 0 0 ⟨rfl, rfl, rfl, rfl, rfl, trivial⟩ rfl rfl)))
    exact EdgeOk.nil
   have hS1000_21 : T15501 7 [true, true, true, true, true, true, true, false, false, false, false, false, false, false] [(0, yv), (1, .pointer (some ⟨b_q0, 0, none⟩)), (13, .slice sp n cap), (16, .pointer (some ⟨bp, 0, none⟩))] ⟨[(bp, .cells #[.slice sp n cap] 79), (b_q0, .cells #[.pointer (some ⟨bp, 0, none⟩)] 101)], [row, X]⟩ := by
    rw [hdef15502]
    refine TD.step [7, 12] 7 rfl rfl rfl rfl rfl (EdgeOk.cons rfl ?_ ?_)
    · exact TO.u rfl rfl (TX.load1 (i := 0) Try.isAgg77 rfl rfl rfl rfl (TO.nil (TE.toh (TE.td ((hdef15502 _ _ _ _).mp (hS1000_14))) 0 0 ⟨rfl, rfl, rfl, rfl, trivial⟩ rfl rfl)))
    refine EdgeOk.cons rfl ?_ ?_
    · exact TO.u rfl rfl (TX.alloc Try.zeroValue82 rfl rfl (fun b14001 => (TO.nil (TE.toh (TE.td ((hdef15502 _ _ _ _).mp (hS1000_15 b14001))) 0 0 ⟨rfl, rfl, rfl, rfl, rfl, trivial⟩ rfl rfl))))
    exact EdgeOk.nil
   have hS1000_22 : ∀ (b14001 : Nat), T15501 7 [true, true, true, true, true, true, false, false, false, false, false, false, true, false] [(0, yv), (1, .pointer (some ⟨b_q0, 0, none⟩)), (3, .pointer (some ⟨b14001, 0, none⟩)), (13, .slice sp n cap), (15, .pointer (some ⟨bp, 0, none⟩))] ⟨[(b14001, .cells #[.int .i64 0, .bool false] 82), (bp, .cells #[.slice sp n cap] 79), (b_q0, .cells #[.pointer (some ⟨bp, 0, none⟩)] 101)], [row, X]⟩ := by
    intro b14001
    rw [hdef15502]
    refine TD.step [6] 6 rfl rfl rfl rfl rfl (EdgeOk.cons rfl ?_ ?_)
    · exact TO.u rfl rfl (TX.fieldAddr' Try.runUnderlying79 rfl Try.sizeOf77 rfl rfl rfl (TO.nil (TE.toh (TE.td ((hdef15502 _ _ _ _).mp (hS1000_15 b14001))) 0 0 ⟨rfl, rfl, rfl, rfl, rfl, trivial⟩ rfl rfl)))
    exact EdgeOk.nil
   have hS1000_23 : T15501 7 [true, true, true, false, true, true, true, true, false, false, false, false, false, false] [(0, yv), (1, .pointer (some ⟨b_q0, 0, none⟩)), (12, .pointer (some ⟨bp, 0, none⟩)), (17, .slice sp n cap)] ⟨[(bp, .cells #[.slice sp n cap] 79), (b_q0, .cells #[.pointer (some ⟨bp, 0, none⟩)] 101)], [row, X]⟩ := by
    rw [hdef15502]
    refine TD.step [3, 8, 12] 3 rfl rfl rfl rfl rfl (EdgeOk.cons rfl ?_ ?_)
    · exact TO.u rfl rfl (TX.load1 (i := 0) Try.isAgg77 rfl rfl rfl rfl (TO.nil (TE.toh (TE.td ((hdef15502 _ _ _ _).mp (hS1000_14))) 0 0 ⟨rfl, rfl, rfl, rfl, trivial⟩ rfl rfl)))
    refine EdgeOk.cons rfl ?_ ?_
    · exact TO.u rfl rfl (TX.lenS (xs := (get sx)) Try.runUnderlying77 rfl hn rfl (TO.nil (TE.toh (TE.td ((hdef15502 _ _ _ _).mp (hS1000_16))) 0 0 ⟨rfl, rfl, rfl, rfl, trivial⟩ rfl rfl)))
    refine EdgeOk.cons rfl ?_ ?_
    · exact TO.u rfl rfl (TX.alloc Try.zeroValue82 rfl rfl (fun b14001 => (TO.nil (TE.toh (TE.td ((hdef15502 _ _ _ _).mp (hS1000_17 b14001))) 0 0 ⟨rfl, rfl, rfl, rfl, rfl, trivial⟩ rfl rfl))))
    exact EdgeOk.nil
   have hS1000_24 : ∀ (b14001 : Nat), T15501 7 [true, true, true, false, true, true, true, false, false, false, false, false, true, false] [(0, yv), (1, .pointer (some ⟨b_q0, 0, none⟩)), (3, .pointer (some ⟨b14001, 0, none⟩)), (12, .pointer (some ⟨bp, 0, none⟩)), (16, .pointer (some ⟨bp, 0, none⟩))] ⟨[(b14001, .cells #[.int .i64 0, .bool false] 82), (bp, .cells #[.slice sp n cap] 79), (b_q0, .cells #[.pointer (some ⟨bp, 0, none⟩)] 101)], [row, X]⟩ := by
    intro b14001
    rw [hdef15502]
    refine TD.step [3, 7] 3 rfl rfl rfl rfl rfl (EdgeOk.cons rfl ?_ ?_)
    · exact TO.u rfl rfl (TX.load1 (i := 1) Try.isAgg77 rfl rfl rfl rfl (TO.nil (TE.toh (TE.td ((hdef15502 _ _ _ _).mp (hS1000_15 b14001))) 0 0 ⟨rfl, rfl, rfl, rfl, rfl, trivial⟩ rfl rfl)))
    refine EdgeOk.cons rfl ?_ ?_
    · exact TO.u rfl rfl (TX.load1 (i := 1) Try.isAgg77 rfl rfl rfl rfl (TO.nil (TE.toh (TE.td ((hdef15502 _ _ _ _).mp (hS1000_17 b14001))) 0 0 ⟨rfl, rfl, rfl, rfl, rfl, trivial⟩ rfl rfl)))
    exact EdgeOk.nil
   have hS1000_25 : T15501 7 [true, true, false, false, true, true, true, true, true, false, false, false, false, false] [(0, yv), (1, .pointer (some ⟨b_q0, 0, none⟩)), (11, .pointer (some ⟨bp, 0, none⟩)), (18, .int .i64 ((get sx).length : Int))] ⟨[(bp, .cells #[.slice sp n cap] 79), (b_q0, .cells #[.pointer (some ⟨bp, 0, none⟩)] 101)], [row, X]⟩ := by
    rw [hdef15502]
    refine TD.step [2, 9, 12] 2 rfl rfl rfl rfl rfl (EdgeOk.cons rfl ?_ ?_)
    · exact TO.u rfl rfl (TX.fieldAddr' Try.runUnderlying79 rfl Try.sizeOf77 rfl rfl rfl (TO.nil (TE.toh (TE.td ((hdef15502 _ _ _ _).mp (hS1000_16))) 0 0 ⟨rfl, rfl, rfl, rfl, trivial⟩ rfl rfl)))
    refine EdgeOk.cons rfl ?_ ?_
    · exact TO.u rfl rfl (TX.ibin rfl rfl rfl rfl (TO.nil (TE.toh (TE.td ((hdef15502 _ _ _ _).mp (hS1000_18))) 0 0 ⟨rfl, rfl, rfl, rfl, trivial⟩ rfl rfl)))
    refine EdgeOk.cons rfl ?_ ?_
    · exact TO.u rfl rfl (TX.alloc Try.zeroValue82 rfl rfl (fun b14001 => (TO.nil (TE.toh (TE.td ((hdef15502 _ _ _ _).mp (hS1000_19 b14001))) 0 0 ⟨rfl, rfl, rfl, rfl, rfl, trivial⟩ rfl rfl))))
    exact EdgeOk.nil
   have hS1000_26 : ∀ (b14001 : Nat), T15501 7 [true, true, false, false, true, true, true, true, false, false, false, false, true, false] [(0, yv), (1, .pointer (some ⟨b_q0, 0, none⟩)), (3, .pointer (some ⟨b14001, 0, none⟩)), (11, .pointer (some ⟨bp, 0, none⟩)), (17, .slice sp n cap)] ⟨[(b14001, .cells #[.int .i64 0, .bool false] 82), (bp, .cells #[.slice sp n cap] 79), (b_q0, .cells #[.pointer (some ⟨bp, 0, none⟩)] 101)], [row, X]⟩ := by
    intro b14001
    rw [hdef15502]
    refine TD.step [2, 8] 2 rfl rfl rfl rfl rfl (EdgeOk.cons rfl ?_ ?_)
    · exact TO.u rfl rfl (TX.fieldAddr' Try.runUnderlying79 rfl Try.sizeOf77 rfl rfl rfl (TO.nil (TE.toh (TE.td ((hdef15502 _ _ _ _).mp (hS1000_17 b14001))) 0 0 ⟨rfl, rfl, rfl, rfl, rfl, trivial⟩ rfl rfl)))
    refine EdgeOk.cons rfl ?_ ?_
    · exact TO.u rfl rfl (TX.lenS (xs := (get sx)) Try.runUnderlying77 rfl hn rfl (TO.nil (TE.toh (TE.td ((hdef15502 _ _ _ _).mp (hS1000_19 b14001))) 0 0 ⟨rfl, rfl, rfl, rfl, rfl, trivial⟩ rfl rfl)))
    exact EdgeOk.nil
   have hS1000_27 : T15501 7 [true, false, false, false, true, true, true, true, true, true, false, false, false, false] [(0, yv), (1, .pointer (some ⟨b_q0, 0, none⟩)), (10, .pointer (some ⟨bp, 0, none⟩)), (19, .int .i64 (IntKind.i64.wrap (((get sx).length : Int) - 1)))] ⟨[(bp, .cells #[.slice sp n cap] 79), (b_q0, .cells #[.pointer (some ⟨bp, 0, none⟩)] 101)], [row, X]⟩ := by
    rw [hdef15502]
    refine TD.step [1, 12] 1 rfl rfl rfl rfl rfl (EdgeOk.cons rfl ?_ ?_)
    · exact TO.u rfl rfl (TX.nilCheckP rfl rfl (TO.nil (TE.toh (TE.td ((hdef15502 _ _ _ _).mp (hS1000_18))) 0 0 ⟨rfl, rfl, rfl, rfl, trivial⟩ rfl rfl)))
    refine EdgeOk.cons rfl ?_ ?_
    · exact TO.u rfl rfl (TX.alloc Try.zeroValue82 rfl rfl (fun b14001 => (TO.nil (TE.toh (TE.td ((hdef15502 _ _ _ _).mp (hS1000_20 b14001))) 0 0 ⟨rfl, rfl, rfl, rfl, rfl, trivial⟩ rfl rfl))))
    exact EdgeOk.nil
   have hS1000_28 : ∀ (b14001 : Nat), T15501 7 [true, false, false, false, true, true, true, true, true, false, false, false, true, false] [(0, yv), (1, .pointer (some ⟨b_q0, 0, none⟩)), (3, .pointer (some ⟨b14001, 0, none⟩)), (10, .pointer (some ⟨bp, 0, none⟩)), (18, .int .i64 ((get sx).length : Int))] ⟨[(b14001, .cells #[.int .i64 0, .bool false] 82), (bp, .cells #[.slice sp n cap] 79), (b_q0, .cells #[.pointer (some ⟨bp, 0, none⟩)] 101)], [row, X]⟩ := by
    intro b14001
    rw [hdef15502]
    refine TD.step [1, 9] 1 rfl rfl rfl rfl rfl (EdgeOk.cons rfl ?_ ?_)
    · exact TO.u rfl rfl (TX.nilCheckP rfl rfl (TO.nil (TE.toh (TE.td ((hdef15502 _ _ _ _).mp (hS1000_19 b14001))) 0 0 ⟨rfl, rfl, rfl, rfl, rfl, trivial⟩ rfl rfl)))
    refine EdgeOk.cons rfl ?_ ?_
    · exact TO.u rfl rfl (TX.ibin rfl rfl rfl rfl (TO.nil (TE.toh (TE.td ((hdef15502 _ _ _ _).mp (hS1000_20 b14001))) 0 0 ⟨rfl, rfl, rfl, rfl, rfl, trivial⟩ rfl rfl)))
    exact EdgeOk.nil
   have hS1000_29 : ∀ (b14001 : Nat), T15501 7 [false, false, false, false, true, true, true, true, true, true, false, false, true, false] [(0, yv), (1, .pointer (some ⟨b_q0, 0, none⟩)), (3, .pointer (some ⟨b14001, 0, none⟩)), (19, .int .i64 (IntKind.i64.wrap (((get sx).length : Int) - 1)))] ⟨[(b14001, .cells #[.int .i64 0, .bool false] 82), (bp, .cells #[.slice sp n cap] 79), (b_q0, .cells #[.pointer (some ⟨bp, 0, none⟩)] 101)], [row, X]⟩ := by
    intro b14001
    rw [hdef15502]
    refine TD.step [0] 0 rfl rfl rfl rfl rfl (EdgeOk.cons rfl ?_ ?_)
    · exact TO.u rfl rfl (TX.load1 (i := 2) Try.isAgg101 rfl rfl rfl rfl (TO.nil (TE.toh (TE.td ((hdef15502 _ _ _ _).mp (hS1000_20 b14001))) 0 0 ⟨rfl, rfl, rfl, rfl, rfl, trivial⟩ rfl rfl)))
    exact EdgeOk.nil
   have hS1000_30 : T15501 8 [true, true, true, true, true, true, false, false, false, false, false, false, false, false] [(0, yv), (1, .pointer (some ⟨b_q0, 0, none⟩)), (13, .slice sp n cap), (15, .pointer (some ⟨bp, 0, none⟩))] ⟨[(bp, .cells #[.slice sp n cap] 79), (b_q0, .cells #[.pointer (some ⟨bp, 0, none⟩)] 101)], [row, X]⟩ := by
    rw [hdef15502]
    refine TD.step [6, 12] 6 rfl rfl rfl rfl rfl (EdgeOk.cons rfl ?_ ?_)
    · exact TO.u rfl rfl (TX.fieldAddr' Try.runUnderlying79 rfl Try.sizeOf77 rfl rfl rfl (TO.nil (TE.toh (TE.td ((hdef15502 _ _ _ _).mp (hS1000_21))) 0 0 ⟨rfl, rfl, rfl, rfl, trivial⟩ rfl rfl)))
    refine EdgeOk.cons rfl ?_ ?_
    · exact TO.u rfl rfl (TX.alloc Try.zeroValue82 rfl rfl (fun b14001 => (TO.nil (TE.toh (TE.td ((hdef15502 _ _ _ _).mp (hS1000_22 b14001))) 0 0 ⟨rfl, rfl, rfl, rfl, rfl, trivial⟩ rfl rfl))))
    exact EdgeOk.nil
   have hS1000_31 : ∀ (b14001 : Nat), T15501 8 [true, true, true, true, true, false, false, false, false, false, false, false, true, false] [(0, yv), (1, .pointer (some ⟨b_q0, 0, none⟩)), (3, .pointer (some ⟨b14001, 0, none⟩)), (13, .slice sp n cap), (14, .pointer (some ⟨bp, 0, none⟩))] ⟨[(b14001, .cells #[.int .i64 0, .bool false] 82), (bp, .cells #[.slice sp n cap] 79), (b_q0, .cells #[.pointer (some ⟨bp, 0, none⟩)] 101)], [row, X]⟩ := by
    intro b14001
    rw [hdef15502]
    refine TD.step [5] 5 rfl rfl rfl rfl rfl (EdgeOk.cons rfl ?_ ?_)
    · exact TO.u rfl rfl (TX.nilCheckP rfl rfl (TO.nil (TE.toh (TE.td ((hdef15502 _ _ _ _).mp (hS1000_22 b14001))) 0 0 ⟨rfl, rfl, rfl, rfl, rfl, trivial⟩ rfl rfl)))
    exact EdgeOk.nil
   have hS1000_32 : T15501 8 [true, true, true, false, true, true, true, false, false, false, false, false, false, false] [(0, yv), (1, .pointer (some ⟨b_q0, 0, none⟩)), (12, .pointer (some ⟨bp, 0, none⟩)), (16, .pointer (some ⟨bp, 0, none⟩))] ⟨[(bp, .cells #[.slice sp n cap] 79), (b_q0, .cells #[.pointer (some ⟨bp, 0, none⟩)] 101)], [row, X]⟩ := by
    rw [hdef15502]
    refine TD.step [3, 7, 12] 3 rfl rfl rfl rfl rfl (EdgeOk.cons rfl ?_ ?_)
    · exact TO.u rfl rfl (TX.load1 (i := 0) Try.isAgg77 rfl rfl rfl rfl (TO.nil (TE.toh (TE.td ((hdef15502 _ _ _ _).mp (hS1000_21))) 0 0 ⟨rfl, rfl, rfl, rfl, trivial⟩ rfl rfl)))
    refine EdgeOk.cons rfl ?_ ?_
    · exact TO.u rfl rfl (TX.load1 (i := 0) Try.isAgg77 rfl rfl rfl rfl (TO.nil (TE.toh (TE.td ((hdef15502 _ _ _ _).mp (hS1000_23))) 0 0 ⟨rfl, rfl, rfl, rfl, trivial⟩ rfl rfl)))
    refine EdgeOk.cons rfl ?_ ?_
    · exact TO.u rfl rfl (TX.alloc Try.zeroValue82 rfl rfl (fun b14001 => (TO.nil (TE.toh (TE.td ((hdef15502 _ _ _ _).mp (hS1000_24 b14001))) 0 0 ⟨rfl, rfl, rfl, rfl, rfl, trivial⟩ rfl rfl))))
    exact EdgeOk.nil
   have hS1000_33 : ∀ (b14001 : Nat), T15501 8 [true, true, true, false, true, true, false, false, false, false, false, false, true, false] [(0, yv), (1, .pointer (some ⟨b_q0, 0, none⟩)), (3, .pointer (some ⟨b14001, 0, none⟩)), (12, .pointer (some ⟨bp, 0, none⟩)), (15, .pointer (some ⟨bp, 0, none⟩))] ⟨[(b14001, .cells #[.int .i64 0, .bool false] 82), (bp, .cells #[.slice sp n cap] 79), (b_q0, .cells #[.pointer (some ⟨bp, 0, none⟩)] 101)], [row, X]⟩ := by
    intro b14001
    rw [hdef15502]
    refine TD.step [3, 6] 3 rfl rfl rfl rfl rfl (EdgeOk.cons rfl ?_ ?_)
    · exact TO.u rfl rfl (TX.load1 (i := 1) Try.isAgg77 rfl rfl rfl rfl (TO.nil (TE.toh (TE.td ((hdef15502 _ _ _ _).mp (hS1000_22 b14001))) 0 0 ⟨rfl, rfl, rfl, rfl, rfl, trivial⟩ rfl rfl)))
    refine EdgeOk.cons rfl ?_ ?_
    · exact TO.u rfl rfl (TX.fieldAddr' Try.runUnderlying79 rfl Try.sizeOf77 rfl rfl rfl (TO.nil (TE.toh (TE.td ((hdef15502 _ _ _ _).mp (hS1000_24 b14001))) 0 0 ⟨rfl, rfl, rfl, rfl, rfl, trivial⟩ rfl rfl)))
    exact EdgeOk.nil
   have hS1000_34 : T15501 8 [true, true, false, false, true, true, true, true, false, false, false, false, false, false] [(0, yv), (1, .pointer (some ⟨b_q0, 0, none⟩)), (11, .pointer (some ⟨bp, 0, none⟩)), (17, .slice sp n cap)] ⟨[(bp, .cells #[.slice sp n cap] 79), (b_q0, .cells #[.pointer (some ⟨bp, 0, none⟩)] 101)], [row, X]⟩ := by
    rw [hdef15502]
    refine TD.step [2, 8, 12] 2 rfl rfl rfl rfl rfl (EdgeOk.cons rfl ?_ ?_)
    · exact TO.u rfl rfl (TX.fieldAddr' Try.runUnderlying79 rfl Try.sizeOf77 rfl rfl rfl (TO.nil (TE.toh (TE.td ((hdef15502 _ _ _ _).mp (hS1000_23))) 0 0 ⟨rfl, rfl, rfl, rfl, trivial⟩ rfl rfl)))
    refine EdgeOk.cons rfl ?_ ?_
    · exact TO.u rfl rfl (TX.lenS (xs := (get sx)) Try.runUnderlying77 rfl hn rfl (TO.nil (TE.toh (TE.td ((hdef15502 _ _ _ _).mp (hS1000_25))) 0 0 ⟨rfl, rfl, rfl, rfl, trivial⟩ rfl rfl)))
    refine EdgeOk.cons rfl ?_ ?_
    · exact TO.u rfl rfl (TX.alloc Try.zeroValue82 rfl rfl (fun b14001 => (TO.nil (TE.toh (TE.td ((hdef15502 _ _ _ _).mp (hS1000_26 b14001))) 0 0 ⟨rfl, rfl, rfl, rfl, rfl, trivial⟩ rfl rfl))))
    exact EdgeOk.nil
   have hS1000_35 : ∀ (b14001 : Nat), T15501 8 [true, true, false, false, true, true, true, false, false, false, false, false, true, false] [(0, yv), (1, .pointer (some ⟨b_q0, 0, none⟩)), (3, .pointer (some ⟨b14001, 0, none⟩)), (11, .pointer (some ⟨bp, 0, none⟩)), (16, .pointer (some ⟨bp, 0, none⟩))] ⟨[(b14001, .cells #[.int .i64 0, .bool false] 82), (bp, .cells #[.slice sp n cap] 79), (b_q0, .cells #[.pointer (some ⟨bp, 0, none⟩)] 101)], [row, X]⟩ := by
    intro b14001
    rw [hdef15502]
    refine TD.step [2, 7] 2 rfl rfl rfl rfl rfl (EdgeOk.cons rfl ?_ ?_)
    · exact TO.u rfl rfl (TX.fieldAddr' Try.runUnderlying79 rfl Try.sizeOf77 rfl rfl rfl (TO.nil (TE.toh (TE.td ((hdef15502 _ _ _ _).mp (hS1000_24 b14001))) 0 0 ⟨rfl, rfl, rfl, rfl, rfl, trivial⟩ rfl rfl)))
    refine EdgeOk.cons rfl ?_ ?_
    · exact TO.u rfl rfl (TX.load1 (i := 1) Try.isAgg77 rfl rfl rfl rfl (TO.nil (TE.toh (TE.td ((hdef15502 _ _ _ _).mp (hS1000_26 b14001))) 0 0 ⟨rfl, rfl, rfl, rfl, rfl, trivial⟩ rfl rfl)))
    exact EdgeOk.nil
   have hS1000_36 : T15501 8 [true, false, false, false, true, true, true, true, true, false, false, false, false, false] [(0, yv), (1, .pointer (some ⟨b_q0, 0, none⟩)), (10, .pointer (some ⟨bp, 0, none⟩)), (18, .int .i64 ((get sx).length : Int))] ⟨[(bp, .cells #[.slice sp n cap] 79), (b_q0, .cells #[.pointer (some ⟨bp, 0, none⟩)] 101)], [row, X]⟩ := by
    rw [hdef15502]
    refine TD.step [1, 9, 12] 1 rfl rfl rfl rfl rfl (EdgeOk.cons rfl ?_ ?_)
    · exact TO.u rfl rfl (TX.nilCheckP rfl rfl (TO.nil (TE.toh (TE.td ((hdef15502 _ _ _ _).mp (hS1000_25))) 0 0 ⟨rfl, rfl, rfl, rfl, trivial⟩ rfl rfl)))
    refine EdgeOk.cons rfl ?_ ?_
    · exact TO.u rfl rfl (TX.ibin rfl rfl rfl rfl (TO.nil (TE.toh (TE.td ((hdef15502 _ _ _ _).mp (hS1000_27))) 0 0 ⟨rfl, rfl, rfl, rfl, trivial⟩ rfl rfl)))
    refine EdgeOk.cons rfl ?_ ?_
    · exact TO.u rfl rfl (TX.alloc Try.zeroValue82 rfl rfl (fun b14001 => (TO.nil (TE.toh (TE.td ((hdef15502 _ _ _ _).mp (hS1000_28 b14001))) 0 0 ⟨rfl, rfl, rfl, rfl, rfl, trivial⟩ rfl rfl))))
    exact EdgeOk.nil
   have hS1000_37 : ∀ (b14001 : Nat), T15501 8 [true, false, false, false, true, true, true, true, false, false, false, false, true, false] [(0, yv), (1, .pointer (some ⟨b_q0, 0, none⟩)), (3, .pointer (some ⟨b14001, 0, none⟩)), (10, .pointer (some ⟨bp, 0, none⟩)), (17, .slice sp n cap)] ⟨[(b14001, .cells #[.int .i64 0, .bool false] 82), (bp, .cells #[.slice sp n cap] 79), (b_q0, .cells #[.pointer (some ⟨bp, 0, none⟩)] 101)], [row, X]⟩ := by
    intro b14001
    rw [hdef15502]
    refine TD.step [1, 8] 1 rfl rfl rfl rfl rfl (EdgeOk.cons rfl ?_ ?_)
    · exact TO.u rfl rfl (TX.nilCheckP rfl rfl (TO.nil (TE.toh (TE.td ((hdef15502 _ _ _ _).mp (hS1000_26 b14001))) 0 0 ⟨rfl, rfl, rfl, rfl, rfl, trivial⟩ rfl rfl)))
    refine EdgeOk.cons rfl ?_ ?_
    · exact TO.u rfl rfl (TX.lenS (xs := (get sx)) Try.runUnderlying77 rfl hn rfl (TO.nil (TE.toh (TE.td ((hdef15502 _ _ _ _).mp (hS1000_28 b14001))) 0 0 ⟨rfl, rfl, rfl, rfl, rfl, trivial⟩ rfl rfl)))
    exact EdgeOk.nil
   have hS1000_38 : T15501 8 [false, false, false, false, true, true, true, true, true, true, false, false, false, false] [(0, yv), (1, .pointer (some ⟨b_q0, 0, none⟩)), (19, .int .i64 (IntKind.i64.wrap (((get sx).length : Int) - 1)))] ⟨[(bp, .cells #[.slice sp n cap] 79), (b_q0, .cells #[.pointer (some ⟨bp, 0, none⟩)] 101)], [row, X]⟩ := by
    rw [hdef15502]
    refine TD.step [0, 12] 0 rfl rfl rfl rfl rfl (EdgeOk.cons rfl ?_ ?_)
    · exact TO.u rfl rfl (TX.load1 (i := 1) Try.isAgg101 rfl rfl rfl rfl (TO.nil (TE.toh (TE.td ((hdef15502 _ _ _ _).mp (hS1000_27))) 0 0 ⟨rfl, rfl, rfl, rfl, trivial⟩ rfl rfl)))
    refine EdgeOk.cons rfl ?_ ?_
    · exact TO.u rfl rfl (TX.alloc Try.zeroValue82 rfl rfl (fun b14001 => (TO.nil (TE.toh (TE.td ((hdef15502 _ _ _ _).mp (hS1000_29 b14001))) 0 0 ⟨rfl, rfl, rfl, rfl, trivial⟩ rfl rfl))))
    exact EdgeOk.nil
   have hS1000_39 : ∀ (b14001 : Nat), T15501 8 [false, false, false, false, true, true, true, true, true, false, false, false, true, false] [(0, yv), (1, .pointer (some ⟨b_q0, 0, none⟩)), (3, .pointer (some ⟨b14001, 0, none⟩)), (18, .int .i64 ((get sx).length : Int))] ⟨[(b14001, .cells #[.int .i64 0, .bool false] 82), (bp, .cells #[.slice sp n cap] 79), (b_q0, .cells #[.pointer (some ⟨bp, 0, none⟩)] 101)], [row, X]⟩ := by
    intro b14001
    rw [hdef15502]
    refine TD.step [0, 9] 0 rfl rfl rfl rfl rfl (EdgeOk.cons rfl ?_ ?_)
    · exact TO.u rfl rfl (TX.load1 (i := 2) Try.isAgg101 rfl rfl rfl rfl (TO.nil (TE.toh (TE.td ((hdef15502 _ _ _ _).mp (hS1000_28 b14001))) 0 0 ⟨rfl, rfl, rfl, rfl, rfl, trivial⟩ rfl rfl)))
    refine EdgeOk.cons rfl ?_ ?_
    · exact TO.u rfl rfl (TX.ibin rfl rfl rfl rfl (TO.nil (TE.toh (TE.td ((hdef15502 _ _ _ _).mp (hS1000_29 b14001))) 0 0 ⟨rfl, rfl, rfl, rfl, trivial⟩ rfl rfl)))
    exact EdgeOk.nil
   have hS1000_40 : T15501 9 [true, true, true, true, true, false, false, false, false, false, false, false, false, false] [(0, yv), (1, .pointer (some ⟨b_q0, 0, none⟩)), (13, .slice sp n cap), (14, .pointer (some ⟨bp, 0, none⟩))] ⟨[(bp, .cells #[.slice sp n cap] 79), (b_q0, .cells #[.pointer (some ⟨bp, 0, none⟩)] 101)], [row, X]⟩ := by
    rw [hdef15502]
    refine TD.step [5, 12] 5 rfl rfl rfl rfl rfl (EdgeOk.cons rfl ?_ ?_)
    · exact TO.u rfl rfl (TX.nilCheckP rfl rfl (TO.nil (TE.toh (TE.td ((hdef15502 _ _ _ _).mp (hS1000_30))) 0 0 ⟨rfl, rfl, rfl, rfl, trivial⟩ rfl rfl)))
    refine EdgeOk.cons rfl ?_ ?_
    · exact TO.u rfl rfl (TX.alloc Try.zeroValue82 rfl rfl (fun b14001 => (TO.nil (TE.toh (TE.td ((hdef15502 _ _ _ _).mp (hS1000_31 b14001))) 0 0 ⟨rfl, rfl, rfl, rfl, rfl, trivial⟩ rfl rfl))))
    exact EdgeOk.nil
   have hS1000_41 : ∀ (b14001 : Nat), T15501 9 [true, true, true, true, false, false, false, false, false, false, false, false, true, false] [(0, yv), (1, .pointer (some ⟨b_q0, 0, none⟩)), (3, .pointer (some ⟨b14001, 0, none⟩)), (13, .slice sp n cap)] ⟨[(b14001, .cells #[.int .i64 0, .bool false] 82), (bp, .cells #[.slice sp n cap] 79), (b_q0, .cells #[.pointer (some ⟨bp, 0, none⟩)] 101)], [row, X]⟩ := by
    intro b14001
    rw [hdef15502]
    refine TD.step [4] 4 rfl rfl rfl rfl rfl (EdgeOk.cons rfl ?_ ?_)
    · exact TO.u rfl rfl (TX.load1 (i := 2) Try.isAgg101 rfl rfl rfl rfl (TO.nil (TE.toh (TE.td ((hdef15502 _ _ _ _).mp (hS1000_31 b14001))) 0 0 ⟨rfl, rfl, rfl, rfl, rfl, trivial⟩ rfl rfl)))
    exact EdgeOk.nil
   have hS1000_42 : T15501 9 [true, true, true, false, true, true, false, false, false, false, false, false, false, false] [(0, yv), (1, .pointer (some ⟨b_q0, 0, none⟩)), (12, .pointer (some ⟨bp, 0, none⟩)), (15, .pointer (some ⟨bp, 0, none⟩))] ⟨[(bp, .cells #[.slice sp n cap] 79), (b_q0, .cells #[.pointer (some ⟨bp, 0, none⟩)] 101)], [row, X]⟩ := by
    rw [hdef15502]
    refine TD.step [3, 6, 12] 3 rfl rfl rfl rfl rfl (EdgeOk.cons rfl ?_ ?_)
    · exact TO.u rfl rfl (TX.load1 (i := 0) Try.isAgg77 rfl rfl rfl rfl (TO.nil (TE.toh (TE.td ((hdef15502 _ _ _ _).mp (hS1000_30))) 0 0 ⟨rfl, rfl, rfl, rfl, trivial⟩ rfl rfl)))
    refine EdgeOk.cons rfl ?_ ?_
    · exact TO.u rfl rfl (TX.fieldAddr' Try.runUnderlying79 rfl Try.sizeOf77 rfl rfl rfl (TO.nil (TE.toh (TE.td ((hdef15502 _ _ _ _).mp (hS1000_32))) 0 0 ⟨rfl, rfl, rfl, rfl, trivial⟩ rfl rfl)))
    refine EdgeOk.cons rfl ?_ ?_
    · exact TO.u rfl rfl (TX.alloc Try.zeroValue82 rfl rfl (fun b14001 => (TO.nil (TE.toh (TE.td ((hdef15502 _ _ _ _).mp (hS1000_33 b14001))) 0 0 ⟨rfl, rfl, rfl, rfl, rfl, trivial⟩ rfl rfl))))
    exact EdgeOk.nil
   have hS1000_43 : ∀ (b14001 : Nat), T15501 9 [true, true, true, false, true, false, false, false, false, false, false, false, true, false] [(0, yv), (1, .pointer (some ⟨b_q0, 0, none⟩)), (3, .pointer (some ⟨b14001, 0, none⟩)), (12, .pointer (some ⟨bp, 0, none⟩)), (14, .pointer (some ⟨bp, 0, none⟩))] ⟨[(b14001, .cells #[.int .i64 0, .bool false] 82), (bp, .cells #[.slice sp n cap] 79), (b_q0, .cells #[.pointer (some ⟨bp, 0, none⟩)] 101)], [row, X]⟩ := by
    intro b14001
    rw [hdef15502]
    refine TD.step [3, 5] 3 rfl rfl rfl rfl rfl (EdgeOk.cons rfl ?_ ?_)
    · exact TO.u rfl rfl (TX.load1 (i := 1) Try.isAgg77 rfl rfl rfl rfl (TO.nil (TE.toh (TE.td ((hdef15502 _ _ _ _).mp (hS1000_31 b14001))) 0 0 ⟨rfl, rfl, rfl, rfl, rfl, trivial⟩ rfl rfl)))
    refine EdgeOk.cons rfl ?_ ?_
    · exact TO.u rfl rfl (TX.nilCheckP rfl rfl (TO.nil (TE.toh (TE.td ((hdef15502 _ _ _ _).mp (hS1000_33 b14001))) 0 0 ⟨rfl, rfl, rfl, rfl, rfl, trivial⟩ rfl rfl)))
    exact EdgeOk.nil
   have hS1000_44 : T15501 9 [true, true, false, false, true, true, true, false, false, false, false, false, false, false] [(0, yv), (1, .pointer (some ⟨b_q0, 0, none⟩)), (11, .pointer (some ⟨bp, 0, none⟩)), (16, .pointer (some ⟨bp, 0, none⟩))] ⟨[(bp, .cells #[.slice sp n cap] 79), (b_q0, .cells #[.pointer (some ⟨bp, 0, none⟩)] 101)], [row, X]⟩ := by
    rw [hdef15502]
    refine TD.step [2, 7, 12] 2 rfl rfl rfl rfl rfl (EdgeOk.cons rfl ?_ ?_)
    · exact TO.u rfl rfl (TX.fieldAddr' Try.runUnderlying79 rfl Try.sizeOf77 rfl rfl rfl (TO.nil (TE.toh (TE.td ((hdef15502 _ _ _ _).mp (hS1000_32))) 0 0 ⟨rfl, rfl, rfl, rfl, trivial⟩ rfl rfl)))
    refine EdgeOk.cons rfl ?_ ?_
    · exact TO.u rfl rfl (TX.load1 (i := 0) Try.isAgg77 rfl rfl rfl rfl (TO.nil (TE.toh (TE.td ((hdef15502 _ _ _ _).mp (hS1000_34))) 0 0 ⟨rfl, rfl, rfl, rfl, trivial⟩ rfl rfl)))
    refine EdgeOk.cons rfl ?_ ?_
    · exact TO.u rfl rfl (TX.alloc Try.zeroValue82 rfl rfl (fun b14001 => (TO.nil (TE.toh (TE.td ((hdef15502 _ _ _ _).mp (hS1000_35 b14001))) 0 0 ⟨rfl, rfl, rfl, rfl, rfl, trivial⟩ rfl rfl))))
    exact EdgeOk.nil
   have hS1000_45 : ∀ (b14001 : Nat), T15501 9 [true, true, false, false, true, true, false, false, false, false, false, false, true, false] [(0, yv), (1, .pointer (some ⟨b_q0, 0, none⟩)), (3, .pointer (some ⟨b14001, 0, none⟩)), (11, .pointer (some ⟨bp, 0, none⟩)), (15, .pointer (some ⟨bp, 0, none⟩))] ⟨[(b14001, .cells #[.int .i64 0, .bool false] 82), (bp, .cells #[.slice sp n cap] 79), (b_q0, .cells #[.pointer (some ⟨bp, 0, none⟩)] 101)], [row, X]⟩ := by
    intro b14001
    rw [hdef15502]
    refine TD.step [2, 6] 2 rfl rfl rfl rfl rfl (EdgeOk.cons rfl ?_ ?_)
    · exact TO.u rfl rfl (TX.fieldAddr' Try.runUnderlying79 rfl Try.sizeOf77 rfl rfl rfl (TO.nil (TE.toh (TE.td ((hdef15502 _ _ _ _).mp (hS1000_33 b14001))) 0 0 ⟨rfl, rfl, rfl, rfl, rfl, trivial⟩ rfl rfl)))
    refine EdgeOk.cons rfl ?_ ?_
    · exact TO.u rfl rfl (TX.fieldAddr' Try.runUnderlying79 rfl Try.sizeOf77 rfl rfl rfl (TO.nil (TE.toh (TE.td ((hdef15502 _ _ _ _).mp (hS1000_35 b14001))) 0 0 ⟨rfl, rfl, rfl, rfl, rfl, trivial⟩ rfl rfl)))
    exact EdgeOk.nil
   have hS1000_46 : T15501 9 [true, false, false, false, true, true, true, true, false, false, false, false, false, false] [(0, yv), (1, .pointer (some ⟨b_q0, 0, none⟩)), (10, .pointer (some ⟨bp, 0, none⟩)), (17, .slice sp n cap)] ⟨[(bp, .cells #[.slice sp n cap] 79), (b_q0, .cells #[.pointer (some ⟨bp, 0, none⟩)] 101)], [row, X]⟩ := by
    rw [hdef15502]
    refine TD.step [1, 8, 12] 1 rfl rfl rfl rfl rfl (EdgeOk.cons rfl ?_ ?_)
    · exact TO.u rfl rfl (TX.nilCheckP rfl rfl (TO.nil (TE.toh (TE.td ((hdef15502 _ _ _ _).mp (hS1000_34))) 0 0 ⟨rfl, rfl, rfl, rfl, trivial⟩ rfl rfl)))
    refine EdgeOk.cons rfl ?_ ?_
    · exact TO.u rfl rfl (TX.lenS (xs := (get sx)) Try.runUnderlying77 rfl hn rfl (TO.nil (TE.toh (TE.td ((hdef15502 _ _ _ _).mp (hS1000_36))) 0 0 ⟨rfl, rfl, rfl, rfl, trivial⟩ rfl rfl)))
    refine EdgeOk.cons rfl ?_ ?_
    · exact TO.u rfl rfl (TX.alloc Try.zeroValue82 rfl rfl (fun b14001 => (TO.nil (TE.toh (TE.td ((hdef15502 _ _ _ _).mp (hS1000_37 b14001))) 0 0 ⟨rfl, rfl, rfl, rfl, rfl, trivial⟩ rfl rfl))))
    exact EdgeOk.nil
   have hS1000_47 : ∀ (b14001 : Nat), T15501 9 [true, false, false, false, true, true, true, false, false, false, false, false, true, false] [(0, yv), (1, .pointer (some ⟨b_q0, 0, none⟩)), (3, .pointer (some ⟨b14001, 0, none⟩)), (10, .pointer (some ⟨bp, 0, none⟩)), (16, .pointer (some ⟨bp, 0, none⟩))] ⟨[(b14001, .cells #[.int .i64 0, .bool false] 82), (bp, .cells #[.slice sp n cap] 79), (b_q0, .cells #[.pointer (some ⟨bp, 0, none⟩)] 101)], [row, X]⟩ := by
    intro b14001
    rw [hdef15502]
    refine TD.step [1, 7] 1 rfl rfl rfl rfl rfl (EdgeOk.cons rfl ?_ ?_)
    · exact TO.u rfl rfl (TX.nilCheckP rfl rfl (TO.nil (TE.toh (TE.td ((hdef15502 _ _ _ _).mp (hS1000_35 b14001))) 0 0 ⟨rfl, rfl, rfl, rfl, rfl, trivial⟩ rfl rfl)))
    refine EdgeOk.cons rfl ?_ ?_
    · exact TO.u rfl rfl (TX.load1 (i := 1) Try.isAgg77 rfl rfl rfl rfl (TO.nil (TE.toh (TE.td ((hdef15502 _ _ _ _).mp (hS1000_37 b14001))) 0 0 ⟨rfl, rfl, rfl, rfl, rfl, trivial⟩ rfl rfl)))
    exact EdgeOk.nil
   have hS1000_48 : T15501 9 [false, false, false, false, true, true, true, true, true, false, false, false, false, false] [(0, yv), (1, .pointer (some ⟨b_q0, 0, none⟩)), (18, .int .i64 ((get sx).length : Int))] ⟨[(bp, .cells #[.slice sp n cap] 79), (b_q0, .cells #[.pointer (some ⟨bp, 0, none⟩)] 101)], [row, X]⟩ := by
    rw [hdef15502]
    refine TD.step [0, 9, 12] 0 rfl rfl rfl rfl rfl (EdgeOk.cons rfl ?_ ?_)
    · exact TO.u rfl rfl (TX.load1 (i := 1) Try.isAgg101 rfl rfl rfl rfl (TO.nil (TE.toh (TE.td ((hdef15502 _ _ _ _).mp (hS1000_36))) 0 0 ⟨rfl, rfl, rfl, rfl, trivial⟩ rfl rfl)))
    refine EdgeOk.cons rfl ?_ ?_
    · exact TO.u rfl rfl (TX.ibin rfl rfl rfl rfl (TO.nil (TE.toh (TE.td ((hdef15502 _ _ _ _).mp (hS1000_38))) 0 0 ⟨rfl, rfl, rfl, trivial⟩ rfl rfl)))
    refine EdgeOk.cons rfl ?_ ?_
    · exact TO.u rfl rfl (TX.alloc Try.zeroValue82 rfl rfl (fun b14001 => (TO.nil (TE.toh (TE.td ((hdef15502 _ _ _ _).mp (hS1000_39 b14001))) 0 0 ⟨rfl, rfl, rfl, rfl, trivial⟩ rfl rfl))))
    exact EdgeOk.nil
   have hS1000_49 : ∀ (b14001 : Nat), T15501 9 [false, false, false, false, true, true, true, true, false, false, false, false, true, false] [(0, yv), (1, .pointer (some ⟨b_q0, 0, none⟩)), (3, .pointer (some ⟨b14001, 0, none⟩)), (17, .slice sp n cap)] ⟨[(b14001, .cells #[.int .i64 0, .bool false] 82), (bp, .cells #[.slice sp n cap] 79), (b_q0, .cells #[.pointer (some ⟨bp, 0, none⟩)] 101)], [row, X]⟩ := by
    intro b14001
    rw [hdef15502]
    refine TD.step [0, 8] 0 rfl rfl rfl rfl rfl (EdgeOk.cons rfl ?_ ?_)
    · exact TO.u rfl rfl (TX.load1 (i := 2) Try.isAgg101 rfl rfl rfl rfl (TO.nil (TE.toh (TE.td ((hdef15502 _ _ _ _).mp (hS1000_37 b14001))) 0 0 ⟨rfl, rfl, rfl, rfl, rfl, trivial⟩ rfl rfl)))
    refine EdgeOk.cons rfl ?_ ?_
    · exact TO.u rfl rfl (TX.lenS (xs := (get sx)) Try.runUnderlying77 rfl hn rfl (TO.nil (TE.toh (TE.td ((hdef15502 _ _ _ _).mp (hS1000_39 b14001))) 0 0 ⟨rfl, rfl, rfl, rfl, trivial⟩ rfl rfl)))
    exact EdgeOk.nil
   have hS1000_50 : T15501 10 [true, true, true, true, false, false, false, false, false, false, false, false, false, false] [(0, yv), (1, .pointer (some ⟨b_q0, 0, none⟩)), (13, .slice sp n cap)] ⟨[(bp, .cells #[.slice sp n cap] 79), (b_q0, .cells #[.pointer (some ⟨bp, 0, none⟩)] 101)], [row, X]⟩ := by
    rw [hdef15502]
    refine TD.step [4, 12] 4 rfl rfl rfl rfl rfl (EdgeOk.cons rfl ?_ ?_)
    · exact TO.u rfl rfl (TX.load1 (i := 1) Try.isAgg101 rfl rfl rfl rfl (TO.nil (TE.toh (TE.td ((hdef15502 _ _ _ _).mp (hS1000_40))) 0 0 ⟨rfl, rfl, rfl, rfl, trivial⟩ rfl rfl)))
    refine EdgeOk.cons rfl ?_ ?_
    · exact TO.u rfl rfl (TX.alloc Try.zeroValue82 rfl rfl (fun b14001 => (TO.nil (TE.toh (TE.td ((hdef15502 _ _ _ _).mp (hS1000_41 b14001))) 0 0 ⟨rfl, rfl, rfl, rfl, trivial⟩ rfl rfl))))
    exact EdgeOk.nil
   have hS1000_51 : T15501 10 [true, true, true, false, true, false, false, false, false, false, false, false, false, false] [(0, yv), (1, .pointer (some ⟨b_q0, 0, none⟩)), (12, .pointer (some ⟨bp, 0, none⟩)), (14, .pointer (some ⟨bp, 0, none⟩))] ⟨[(bp, .cells #[.slice sp n cap] 79), (b_q0, .cells #[.pointer (some ⟨bp, 0, none⟩)] 101)], [row, X]⟩ := by
    rw [hdef15502]
    refine TD.step [3, 5, 12] 3 rfl rfl rfl rfl rfl (EdgeOk.cons rfl ?_ ?_)
    · exact TO.u rfl rfl (TX.load1 (i := 0) Try.isAgg77 rfl rfl rfl rfl (TO.nil (TE.toh (TE.td ((hdef15502 _ _ _ _).mp (hS1000_40))) 0 0 ⟨rfl, rfl, rfl, rfl, trivial⟩ rfl rfl)))
    refine EdgeOk.cons rfl ?_ ?_
    · exact TO.u rfl rfl (TX.nilCheckP rfl rfl (TO.nil (TE.toh (TE.td ((hdef15502 _ _ _ _).mp (hS1000_42))) 0 0 ⟨rfl, rfl, rfl, rfl, trivial⟩ rfl rfl)))
    refine EdgeOk.cons rfl ?_ ?_
    · exact TO.u rfl rfl (TX.alloc Try.zeroValue82 rfl rfl (fun b14001 => (TO.nil (TE.toh (TE.td ((hdef15502 _ _ _ _).mp (hS1000_43 b14001))) 0 0 ⟨rfl, rfl, rfl, rfl, rfl, trivial⟩ rfl rfl))))
    exact EdgeOk.nil
   have hS1000_52 : ∀ (b14001 : Nat), T15501 10 [true, true, true, false, false, false, false, false, false, false, false, false, true, false] [(0, yv), (1, .pointer (some ⟨b_q0, 0, none⟩)), (3, .pointer (some ⟨b14001, 0, none⟩)), (12, .pointer (some ⟨bp, 0, none⟩))] ⟨[(b14001, .cells #[.int .i64 0, .bool false] 82), (bp, .cells #[.slice sp n cap] 79), (b_q0, .cells #[.pointer (some ⟨bp, 0, none⟩)] 101)], [row, X]⟩ := by
    intro b14001
    rw [hdef15502]
    refine TD.step [3, 4] 3 rfl rfl rfl rfl rfl (EdgeOk.cons rfl ?_ ?_)
    · exact TO.u rfl rfl (TX.load1 (i := 1) Try.isAgg77 rfl rfl rfl rfl (TO.nil (TE.toh (TE.td ((hdef15502 _ _ _ _).mp (hS1000_41 b14001))) 0 0 ⟨rfl, rfl, rfl, rfl, trivial⟩ rfl rfl)))
    refine EdgeOk.cons rfl ?_ ?_
    · exact TO.u rfl rfl (TX.load1 (i := 2) Try.isAgg101 rfl rfl rfl rfl (TO.nil (TE.toh (TE.td ((hdef15502 _ _ _ _).mp (hS1000_43 b14001))) 0 0 ⟨rfl, rfl, rfl, rfl, rfl, trivial⟩ rfl rfl)))
    exact EdgeOk.nil
   have hS1000_53 : T15501 10 [true, true, false, false, true, true, false, false, false, false, false, false, false, false] [(0, yv), (1, .pointer (some ⟨b_q0, 0, none⟩)), (11, .pointer (some ⟨bp, 0, none⟩)), (15, .pointer (some ⟨bp, 0, none⟩))] ⟨[(bp, .cells #[.slice sp n cap] 79), (b_q0, .cells #[.pointer (some ⟨bp, 0, none⟩)] 101)], [row, X]⟩ := by
    rw [hdef15502]
    refine TD.step [2, 6, 12] 2 rfl rfl rfl rfl rfl (EdgeOk.cons rfl ?_ ?_)
    · exact TO.u rfl rfl (TX.fieldAddr' Try.runUnderlying79 rfl Try.sizeOf77 rfl rfl rfl (TO.nil (TE.toh (TE.td ((hdef15502 _ _ _ _).mp (hS1000_42))) 0 0 ⟨rfl, rfl, rfl, rfl, trivial⟩ rfl rfl)))
    refine EdgeOk.cons rfl ?_ ?_
    · exact TO.u rfl rfl (TX.fieldAddr' Try.runUnderlying79 rfl Try.sizeOf77 rfl rfl rfl (TO.nil (TE.toh (TE.td ((hdef15502 _ _ _ _).mp (hS1000_44))) 0 0 ⟨rfl, rfl, rfl, rfl, trivial⟩ rfl rfl)))
    refine EdgeOk.cons rfl ?_ ?_
    · exact TO.u rfl rfl (TX.alloc Try.zeroValue82 rfl rfl (fun b14001 => (TO.nil (TE.toh (TE.td ((hdef15502 _ _ _ _).mp (hS1000_45 b14001))) 0 0 ⟨rfl, rfl, rfl, rfl, rfl, trivial⟩ rfl rfl))))
    exact EdgeOk.nil
   have hS1000_54 : ∀ (b14001 : Nat), T15501 10 [true, true, false, false, true, false, false, false, false, false, false, false, true, false] [(0, yv), (1, .pointer (some ⟨b_q0, 0, none⟩)), (3, .pointer (some ⟨b14001, 0, none⟩)), (11, .pointer (some ⟨bp, 0, none⟩)), (14, .pointer (some ⟨bp, 0, none⟩))] ⟨[(b14001, .cells #[.int .i64 0, .bool false] 82), (bp, .cells #[.slice sp n cap] 79), (b_q0, .cells #[.pointer (some ⟨bp, 0, none⟩)] 101)], [row, X]⟩ := by
    intro b14001
    rw [hdef15502]
    refine TD.step [2, 5] 2 rfl rfl rfl rfl rfl (EdgeOk.cons rfl ?_ ?_)
    · exact TO.u rfl rfl (TX.fieldAddr' Try.runUnderlying79 rfl Try.sizeOf77 rfl rfl rfl (TO.nil (TE.toh (TE.td ((hdef15502 _ _ _ _).mp (hS1000_43 b14001))) 0 0 ⟨rfl, rfl, rfl, rfl, rfl, trivial⟩ rfl rfl)))
    refine EdgeOk.cons rfl ?_ ?_
    · exact TO.u rfl rfl (TX.nilCheckP rfl rfl (TO.nil (TE.toh (TE.td ((hdef15502 _ _ _ _).mp (hS1000_45 b14001))) 0 0 ⟨rfl, rfl, rfl, rfl, rfl, trivial⟩ rfl rfl)))
    exact EdgeOk.nil
   have hS1000_55 : T15501 10 [true, false, false, false, true, true, true, false, false, false, false, false, false, false] [(0, yv), (1, .pointer (some ⟨b_q0, 0, none⟩)), (10, .pointer (some ⟨bp, 0, none⟩)), (16, .pointer (some ⟨bp, 0, none⟩))] ⟨[(bp, .cells #[.slice sp n cap] 79), (b_q0, .cells #[.pointer (some ⟨bp, 0, none⟩)] 101)], [row, X]⟩ := by
    rw [hdef15502]
    refine TD.step [1, 7, 12] 1 rfl rfl rfl rfl rfl (EdgeOk.cons rfl ?_ ?_)
    · exact TO.u rfl rfl (TX.nilCheckP rfl rfl (TO.nil (TE.toh (TE.td ((hdef15502 _ _ _ _).mp (hS1000_44))) 0 0 ⟨rfl, rfl, rfl, rfl, trivial⟩ rfl rfl)))
    refine EdgeOk.cons rfl ?_ ?_
    · exact TO.u rfl rfl (TX.load1 (i := 0) Try.isAgg77 rfl rfl rfl rfl (TO.nil (TE.toh (TE.td ((hdef15502 _ _ _ _).mp (hS1000_46))) 0 0 ⟨rfl, rfl, rfl, rfl, trivial⟩ rfl rfl)))
    refine EdgeOk.cons rfl ?_ ?_
    · exact TO.u rfl rfl (TX.alloc Try.zeroValue82 rfl rfl (fun b14001 => (TO.nil (TE.toh (TE.td ((hdef15502 _ _ _ _).mp (hS1000_47 b14001))) 0 0 ⟨rfl, rfl, rfl, rfl, rfl, trivial⟩ rfl rfl))))
    exact EdgeOk.nil
   have hS1000_56 : ∀ (b14001 : Nat), T15501 10 [true, false, false, false, true, true, false, false, false, false, false, false, true, false] [(0, yv), (1, .pointer (some ⟨b_q0, 0, none⟩)), (3, .pointer (some ⟨b14001, 0, none⟩)), (10, .pointer (some ⟨bp, 0, none⟩)), (15, .pointer (some ⟨bp, 0, none⟩))] ⟨[(b14001, .cells #[.int .i64 0, .bool false] 82), (bp, .cells #[.slice sp n cap] 79), (b_q0, .cells #[.pointer (some ⟨bp, 0, none⟩)] 101)], [row, X]⟩ := by
    intro b14001
    rw [hdef15502]
    refine TD.step [1, 6] 1 rfl rfl rfl rfl rfl (EdgeOk.cons rfl ?_ ?_)
    · exact TO.u rfl rfl (TX.nilCheckP rfl rfl (TO.nil (TE.toh (TE.td ((hdef15502 _ _ _ _).mp (hS1000_45 b14001))) 0 0 ⟨rfl, rfl, rfl, rfl, rfl, trivial⟩ rfl rfl)))
    refine EdgeOk.cons rfl ?_ ?_
    · exact TO.u rfl rfl (TX.fieldAddr' Try.runUnderlying79 rfl Try.sizeOf77 rfl rfl rfl (TO.nil (TE.toh (TE.td ((hdef15502 _ _ _ _).mp (hS1000_47 b14001))) 0 0 ⟨rfl, rfl, rfl, rfl, rfl, trivial⟩ rfl rfl)))
    exact EdgeOk.nil
   have hS1000_57 : T15501 10 [false, false, false, false, true, true, true, true, false, false, false, false, false, false] [(0, yv), (1, .pointer (some ⟨b_q0, 0, none⟩)), (17, .slice sp n cap)] ⟨[(bp, .cells #[.slice sp n cap] 79), (b_q0, .cells #[.pointer (some ⟨bp, 0, none⟩)] 101)], [row, X]⟩ := by
    rw [hdef15502]
    refine TD.step [0, 8, 12] 0 rfl rfl rfl rfl rfl (EdgeOk.cons rfl ?_ ?_)
    · exact TO.u rfl rfl (TX.load1 (i := 1) Try.isAgg101 rfl rfl rfl rfl (TO.nil (TE.toh (TE.td ((hdef15502 _ _ _ _).mp (hS1000_46))) 0 0 ⟨rfl, rfl, rfl, rfl, trivial⟩ rfl rfl)))
    refine EdgeOk.cons rfl ?_ ?_
    · exact TO.u rfl rfl (TX.lenS (xs := (get sx)) Try.runUnderlying77 rfl hn rfl (TO.nil (TE.toh (TE.td ((hdef15502 _ _ _ _).mp (hS1000_48))) 0 0 ⟨rfl, rfl, rfl, trivial⟩ rfl rfl)))
    refine EdgeOk.cons rfl ?_ ?_
    · exact TO.u rfl rfl (TX.alloc Try.zeroValue82 rfl rfl (fun b14001 => (TO.nil (TE.toh (TE.td ((hdef15502 _ _ _ _).mp (hS1000_49 b14001))) 0 0 ⟨rfl, rfl, rfl, rfl, trivial⟩ rfl rfl))))
    exact EdgeOk.nil
   have hS1000_58 : ∀ (b14001 : Nat), T15501 10 [false, false, false, false, true, true, true, false, false, false, false, false, true, false] [(0, yv), (1, .pointer (some ⟨b_q0, 0, none⟩)), (3, .pointer (some ⟨b14001, 0, none⟩)), (16, .pointer (some ⟨bp, 0, none⟩))] ⟨[(b14001, .cells #[.int .i64 0, .bool false] 82), (bp, .cells #[.slice sp n cap] 79), (b_q0, .cells #[.pointer (some ⟨bp, 0, none⟩)] 101)], [row, X]⟩ := by
    intro b14001
    rw [hdef15502]
    refine TD.step [0, 7] 0 rfl rfl rfl rfl rfl (EdgeOk.cons rfl ?_ ?_)
    · exact TO.u rfl rfl (TX.load1 (i := 2) Try.isAgg101 rfl rfl rfl rfl (TO.nil (TE.toh (TE.td ((hdef15502 _ _ _ _).mp (hS1000_47 b14001))) 0 0 ⟨rfl, rfl, rfl, rfl, rfl, trivial⟩ rfl rfl)))
    refine EdgeOk.cons rfl ?_ ?_
    · exact TO.u rfl rfl (TX.load1 (i := 1) Try.isAgg77 rfl rfl rfl rfl (TO.nil (TE.toh (TE.td ((hdef15502 _ _ _ _).mp (hS1000_49 b14001))) 0 0 ⟨rfl, rfl, rfl, rfl, trivial⟩ rfl rfl)))
    exact EdgeOk.nil
   have hS1000_59 : T15501 11 [true, true, true, false, false, false, false, false, false, false, false, false, false, false] [(0, yv), (1, .pointer (some ⟨b_q0, 0, none⟩)), (12, .pointer (some ⟨bp, 0, none⟩))] ⟨[(bp, .cells #[.slice sp n cap] 79), (b_q0, .cells #[.pointer (some ⟨bp, 0, none⟩)] 101)], [row, X]⟩ := by
    rw [hdef15502]
    refine TD.step [3, 4, 12] 3 rfl rfl rfl rfl rfl (EdgeOk.cons rfl ?_ ?_)
    · exact TO.u rfl rfl (TX.load1 (i := 0) Try.isAgg77 rfl rfl rfl rfl (TO.nil (TE.toh (TE.td ((hdef15502 _ _ _ _).mp (hS1000_50))) 0 0 ⟨rfl, rfl, rfl, trivial⟩ rfl rfl)))
    refine EdgeOk.cons rfl ?_ ?_
    · exact TO.u rfl rfl (TX.load1 (i := 1) Try.isAgg101 rfl rfl rfl rfl (TO.nil (TE.toh (TE.td ((hdef15502 _ _ _ _).mp (hS1000_51))) 0 0 ⟨rfl, rfl, rfl, rfl, trivial⟩ rfl rfl)))
    refine EdgeOk.cons rfl ?_ ?_
    · exact TO.u rfl rfl (TX.alloc Try.zeroValue82 rfl rfl (fun b14001 => (TO.nil (TE.toh (TE.td ((hdef15502 _ _ _ _).mp (hS1000_52 b14001))) 0 0 ⟨rfl, rfl, rfl, rfl, trivial⟩ rfl rfl))))
    exact EdgeOk.nil
   have hS1000_60 : T15501 11 [true, true, false, false, true, false, false, false, false, false, false, false, false, false] [(0, yv), (1, .pointer (some ⟨b_q0, 0, none⟩)), (11, .pointer (some ⟨bp, 0, none⟩)), (14, .pointer (some ⟨bp, 0, none⟩))] ⟨[(bp, .cells #[.slice sp n cap] 79), (b_q0, .cells #[.pointer (some ⟨bp, 0, none⟩)] 101)], [row, X]⟩ := by
    rw [hdef15502]
    refine TD.step [2, 5, 12] 2 rfl rfl rfl rfl rfl (EdgeOk.cons rfl ?_ ?_)
    · exact TO.u rfl rfl (TX.fieldAddr' Try.runUnderlying79 rfl Try.sizeOf77 rfl rfl rfl (TO.nil (TE.toh (TE.td ((hdef15502 _ _ _ _).mp (hS1000_51))) 0 0 ⟨rfl, rfl, rfl, rfl, trivial⟩ rfl rfl)))
    refine EdgeOk.cons rfl ?_ ?_
    · exact TO.u rfl rfl (TX.nilCheckP rfl rfl (TO.nil (TE.toh (TE.td ((hdef15502 _ _ _ _).mp (hS1000_53))) 0 0 ⟨rfl, rfl, rfl, rfl, trivial⟩ rfl rfl)))
    refine EdgeOk.cons rfl ?_ ?_
    · exact TO.u rfl rfl (TX.alloc Try.zeroValue82 rfl rfl (fun b14001 => (TO.nil (TE.toh (TE.td ((hdef15502 _ _ _ _).mp (hS1000_54 b14001))) 0 0 ⟨rfl, rfl, rfl, rfl, rfl, trivial⟩ rfl rfl))))
    exact EdgeOk.nil
   have hS1000_61 : ∀ (b14001 : Nat), T15501 11 [true, true, false, false, false, false, false, false, false, false, false, false, true, false] [(0, yv), (1, .pointer (some ⟨b_q0, 0, none⟩)), (3, .pointer (some ⟨b14001, 0, none⟩)), (11, .pointer (some ⟨bp, 0, none⟩))] ⟨[(b14001, .cells #[.int .i64 0, .bool false] 82), (bp, .cells #[.slice sp n cap] 79), (b_q0, .cells #[.pointer (some ⟨bp, 0, none⟩)] 101)], [row, X]⟩ := by
    intro b14001
    rw [hdef15502]
    refine TD.step [2, 4] 2 rfl rfl rfl rfl rfl (EdgeOk.cons rfl ?_ ?_)
    · exact TO.u rfl rfl (TX.fieldAddr' Try.runUnderlying79 rfl Try.sizeOf77 rfl rfl rfl (TO.nil (TE.toh (TE.td ((hdef15502 _ _ _ _).mp (hS1000_52 b14001))) 0 0 ⟨rfl, rfl, rfl, rfl, trivial⟩ rfl rfl)))
    refine EdgeOk.cons rfl ?_ ?_
    · exact TO.u rfl rfl (TX.load1 (i := 2) Try.isAgg101 rfl rfl rfl rfl (TO.nil (TE.toh (TE.td ((hdef15502 _ _ _ _).mp (hS1000_54 b14001))) 0 0 ⟨rfl, rfl, rfl, rfl, rfl, trivial⟩ rfl rfl)))
    exact EdgeOk.nil
   have hS1000_62 : T15501 11 [true, false, false, false, true, true, false, false, false, false, false, false, false, false] [(0, yv), (1, .pointer (some ⟨b_q0, 0, none⟩)), (10, .pointer (some ⟨bp, 0, none⟩)), (15, .pointer (some ⟨bp, 0, none⟩))] ⟨[(bp, .cells #[.slice sp n cap] 79), (b_q0, .cells #[.pointer (some ⟨bp, 0, none⟩)] 101)], [row, X]⟩ := by
    rw [hdef15502]
    refine TD.step [1, 6, 12] 1 rfl rfl rfl rfl rfl (EdgeOk.cons rfl ?_ ?_)
    · exact TO.u rfl rfl (TX.nilCheckP rfl rfl (TO.nil (TE.toh (TE.td ((hdef15502 _ _ _ _).mp (hS1000_53))) 0 0 ⟨rfl, rfl, rfl, rfl, trivial⟩ rfl rfl)))
    refine EdgeOk.cons rfl ?_ ?_
    · exact TO.u rfl rfl (TX.fieldAddr' Try.runUnderlying79 rfl Try.sizeOf77 rfl rfl rfl (TO.nil (TE.toh (TE.td ((hdef15502 _ _ _ _).mp (hS1000_55))) 0 0 ⟨rfl, rfl, rfl, rfl, trivial⟩ rfl rfl)))
    refine EdgeOk.cons rfl ?_ ?_
    · exact TO.u rfl rfl (TX.alloc Try.zeroValue82 rfl rfl (fun b14001 => (TO.nil (TE.toh (TE.td ((hdef15502 _ _ _ _).mp (hS1000_56 b14001))) 0 0 ⟨rfl, rfl, rfl, rfl, rfl, trivial⟩ rfl rfl))))
    exact EdgeOk.nil
   have hS1000_63 : ∀ (b14001 : Nat), T15501 11 [true, false, false, false, true, false, false, false, false, false, false, false, true, false] [(0, yv), (1, .pointer (some ⟨b_q0, 0, none⟩)), (3, .pointer (some ⟨b14001, 0, none⟩)), (10, .pointer (some ⟨bp, 0, none⟩)), (14, .pointer (some ⟨bp, 0, none⟩))] ⟨[(b14001, .cells #[.int .i64 0, .bool false] 82), (bp, .cells #[.slice sp n cap] 79), (b_q0, .cells #[.pointer (some ⟨bp, 0, none⟩)] 101)], [row, X]⟩ := by
    intro b14001
    rw [hdef15502]
    refine TD.step [1, 5] 1 rfl rfl rfl rfl rfl (EdgeOk.cons rfl ?_ ?_)
    · exact TO.u rfl rfl (TX.nilCheckP rfl rfl (TO.nil (TE.toh (TE.td ((hdef15502 _ _ _ _).mp (hS1000_54 b14001))) 0 0 ⟨rfl, rfl, rfl, rfl, rfl, trivial⟩ rfl rfl)))
    refine EdgeOk.cons rfl ?_ ?_
    · exact TO.u rfl rfl (TX.nilCheckP rfl rfl (TO.nil (TE.toh (TE.td ((hdef15502 _ _ _ _).mp (hS1000_56 b14001))) 0 0 ⟨rfl, rfl, rfl, rfl, rfl, trivial⟩ rfl rfl)))
    exact EdgeOk.nil
   have hS1000_64 : T15501 11 [false, false, false, false, true, true, true, false, false, false, false, false, false, false] [(0, yv), (1, .pointer (some ⟨b_q0, 0, none⟩)), (16, .pointer (some ⟨bp, 0, none⟩))] ⟨[(bp, .cells #[.slice sp n cap] 79), (b_q0, .cells #[.pointer (some ⟨bp, 0, none⟩)] 101)], [row, X]⟩ := by
    rw [hdef15502]
    refine TD.step [0, 7, 12] 0 rfl rfl rfl rfl rfl (EdgeOk.cons rfl ?_ ?_)
    · exact TO.u rfl rfl (TX.load1 (i := 1) Try.isAgg101 rfl rfl rfl rfl (TO.nil (TE.toh (TE.td ((hdef15502 _ _ _ _).mp (hS1000_55))) 0 0 ⟨rfl, rfl, rfl, rfl, trivial⟩ rfl rfl)))
    refine EdgeOk.cons rfl ?_ ?_
    · exact TO.u rfl rfl (TX.load1 (i := 0) Try.isAgg77 rfl rfl rfl rfl (TO.nil (TE.toh (TE.td ((hdef15502 _ _ _ _).mp (hS1000_57))) 0 0 ⟨rfl, rfl, rfl, trivial⟩ rfl rfl)))
    refine EdgeOk.cons rfl ?_ ?_
    · exact TO.u rfl rfl (TX.alloc Try.zeroValue82 rfl rfl (fun b14001 => (TO.nil (TE.toh (TE.td ((hdef15502 _ _ _ _).mp (hS1000_58 b14001))) 0 0 ⟨rfl, rfl, rfl, rfl, trivial⟩ rfl rfl))))
    exact EdgeOk.nil
   have hS1000_65 : ∀ (b14001 : Nat), T15501 11 [false, false, false, false, true, true, false, false, false, false, false, false, true, false] [(0, yv), (1, .pointer (some ⟨b_q0, 0, none⟩)), (3, .pointer (some ⟨b14001, 0, none⟩)), (15, .pointer (some ⟨bp, 0, none⟩))] ⟨[(b14001, .cells #[.int .i64 0, .bool false] 82), (bp, .cells #[.slice sp n cap] 79), (b_q0, .cells #[.pointer (some ⟨bp, 0, none⟩)] 101)], [row, X]⟩ := by
    intro b14001
    rw [hdef15502]
    refine TD.step [0, 6] 0 rfl rfl rfl rfl rfl (EdgeOk.cons rfl ?_ ?_)
    · exact TO.u rfl rfl (TX.load1 (i := 2) Try.isAgg101 rfl rfl rfl rfl (TO.nil (TE.toh (TE.td ((hdef15502 _ _ _ _).mp (hS1000_56 b14001))) 0 0 ⟨rfl, rfl, rfl, rfl, rfl, trivial⟩ rfl rfl)))
    refine EdgeOk.cons rfl ?_ ?_
    · exact TO.u rfl rfl (TX.fieldAddr' Try.runUnderlying79 rfl Try.sizeOf77 rfl rfl rfl (TO.nil (TE.toh (TE.td ((hdef15502 _ _ _ _).mp (hS1000_58 b14001))) 0 0 ⟨rfl, rfl, rfl, rfl, trivial⟩ rfl rfl)))
    exact EdgeOk.nil
   have hS1000_66 : T15501 12 [true, true, false, false, false, false, false, false, false, false, false, false, false, false] [(0, yv), (1, .pointer (some ⟨b_q0, 0, none⟩)), (11, .pointer (some ⟨bp, 0, none⟩))] ⟨[(bp, .cells #[.slice sp n cap] 79), (b_q0, .cells #[.pointer (some ⟨bp, 0, none⟩)] 101)], [row, X]⟩ := by
    rw [hdef15502]
    refine TD.step [2, 4, 12] 2 rfl rfl rfl rfl rfl (EdgeOk.cons rfl ?_ ?_)
    · exact TO.u rfl rfl (TX.fieldAddr' Try.runUnderlying79 rfl Try.sizeOf77 rfl rfl rfl (TO.nil (TE.toh (TE.td ((hdef15502 _ _ _ _).mp (hS1000_59))) 0 0 ⟨rfl, rfl, rfl, trivial⟩ rfl rfl)))
    refine EdgeOk.cons rfl ?_ ?_
    · exact TO.u rfl rfl (TX.load1 (i := 1) Try.isAgg101 rfl rfl rfl rfl (TO.nil (TE.toh (TE.td ((hdef15502 _ _ _ _).mp (hS1000_60))) 0 0 ⟨rfl, rfl, rfl, rfl, trivial⟩ rfl rfl)))
    refine EdgeOk.cons rfl ?_ ?_
    · exact TO.u rfl rfl (TX.alloc Try.zeroValue82 rfl rfl (fun b14001 => (TO.nil (TE.toh (TE.td ((hdef15502 _ _ _ _).mp (hS1000_61 b14001))) 0 0 ⟨rfl, rfl, rfl, rfl, trivial⟩ rfl rfl))))
    exact EdgeOk.nil
   have hS1000_67 : T15501 12 [true, false, false, false, true, false, false, false, false, false, false, false, false, false] [(0, yv), (1, .pointer (some ⟨b_q0, 0, none⟩)), (10, .pointer (some ⟨bp, 0, none⟩)), (14, .pointer (some ⟨bp, 0, none⟩))] ⟨[(bp, .cells #[.slice sp n cap] 79), (b_q0, .cells #[.pointer (some ⟨bp, 0, none⟩)] 101)], [row, X]⟩ := by
    rw [hdef15502]
    refine TD.step [1, 5, 12] 1 rfl rfl rfl rfl rfl (EdgeOk.cons rfl ?_ ?_)
    · exact TO.u rfl rfl (TX.nilCheckP rfl rfl (TO.nil (TE.toh (TE.td ((hdef15502 _ _ _ _).mp (hS1000_60))) 0 0 ⟨rfl, rfl, rfl, rfl, trivial⟩ rfl rfl)))
    refine EdgeOk.cons rfl ?_ ?_
    · exact TO.u rfl rfl (TX.nilCheckP rfl rfl (TO.nil (TE.toh (TE.td ((hdef15502 _ _ _ _).mp (hS1000_62))) 0 0 ⟨rfl, rfl, rfl, rfl, trivial⟩ rfl rfl)))
    refine EdgeOk.cons rfl ?_ ?_
    · exact TO.u rfl rfl (TX.alloc Try.zeroValue82 rfl rfl (fun b14001 => (TO.nil (TE.toh (TE.td ((hdef15502 _ _ _ _).mp (hS1000_63 b14001))) 0 0 ⟨rfl, rfl, rfl, rfl, rfl, trivial⟩ rfl rfl))))
    exact EdgeOk.nil
   have hS1000_68 : ∀ (b14001 : Nat), T15501 12 [true, false, false, false, false, false, false, false, false, false, false, false, true, false] [(0, yv), (1, .pointer (some ⟨b_q0, 0, none⟩)), (3, .pointer (some ⟨b14001, 0, none⟩)), (10, .pointer (some ⟨bp, 0, none⟩))] ⟨[(b14001, .cells #[.int .i64 0, .bool false] 82), (bp, .cells #[.slice sp n cap] 79), (b_q0, .cells #[.pointer (some ⟨bp, 0, none⟩)] 101)], [row, X]⟩ := by
    intro b14001
    rw [hdef15502]
    refine TD.step [1, 4] 1 rfl rfl rfl rfl rfl (EdgeOk.cons rfl ?_ ?_)
    · exact TO.u rfl rfl (TX.nilCheckP rfl rfl (TO.nil (TE.toh (TE.td ((hdef15502 _ _ _ _).mp (hS1000_61 b14001))) 0 0 ⟨rfl, rfl, rfl, rfl, trivial⟩ rfl rfl)))
    refine EdgeOk.cons rfl ?_ ?_
    · exact TO.u rfl rfl (TX.load1 (i := 2) Try.isAgg101 rfl rfl rfl rfl (TO.nil (TE.toh (TE.td ((hdef15502 _ _ _ _).mp (hS1000_63 b14001))) 0 0 ⟨rfl, rfl, rfl, rfl, rfl, trivial⟩ rfl rfl)))
    exact EdgeOk.nil
   have hS1000_69 : T15501 12 [false, false, false, false, true, true, false, false, false, false, false, false, false, false] [(0, yv), (1, .pointer (some ⟨b_q0, 0, none⟩)), (15, .pointer (some ⟨bp, 0, none⟩))] ⟨[(bp, .cells #[.slice sp n cap] 79), (b_q0, .cells #[.pointer (some ⟨bp, 0, none⟩)] 101)], [row, X]⟩ := by
    rw [hdef15502]
    refine TD.step [0, 6, 12] 0 rfl rfl rfl rfl rfl (EdgeOk.cons rfl ?_ ?_)
    · exact TO.u rfl rfl (TX.load1 (i := 1) Try.isAgg101 rfl rfl rfl rfl (TO.nil (TE.toh (TE.td ((hdef15502 _ _ _ _).mp (hS1000_62))) 0 0 ⟨rfl, rfl, rfl, rfl, trivial⟩ rfl rfl)))
    refine EdgeOk.cons rfl ?_ ?_
    · exact TO.u rfl rfl (TX.fieldAddr' Try.runUnderlying79 rfl Try.sizeOf77 rfl rfl rfl (TO.nil (TE.toh (TE.td ((hdef15502 _ _ _ _).mp (hS1000_64))) 0 0 ⟨rfl, rfl, rfl, trivial⟩ rfl rfl)))
    refine EdgeOk.cons rfl ?_ ?_
    · exact TO.u rfl rfl (TX.alloc Try.zeroValue82 rfl rfl (fun b14001 => (TO.nil (TE.toh (TE.td ((hdef15502 _ _ _ _).mp (hS1000_65 b14001))) 0 0 ⟨rfl, rfl, rfl, rfl, trivial⟩ rfl rfl))))
    exact EdgeOk.nil
   have hS1000_70 : ∀ (b14001 : Nat), T15501 12 [false, false, false, false, true, false, false, false, false, false, false, false, true, false] [(0, yv), (1, .pointer (some ⟨b_q0, 0, none⟩)), (3, .pointer (some ⟨b14001, 0, none⟩)), (14, .pointer (some ⟨bp, 0, none⟩))] ⟨[(b14001, .cells #[.int .i64 0, .bool false] 82), (bp, .cells #[.slice sp n cap] 79), (b_q0, .cells #[.pointer (some ⟨bp, 0, none⟩)] 101)], [row, X]⟩ := by
    intro b14001
    rw [hdef15502]
    refine TD.step [0, 5] 0 rfl rfl rfl rfl rfl (EdgeOk.cons rfl ?_ ?_)
    · exact TO.u rfl rfl (TX.load1 (i := 2) Try.isAgg101 rfl rfl rfl rfl (TO.nil (TE.toh (TE.td ((hdef15502 _ _ _ _).mp (hS1000_63 b14001))) 0 0 ⟨rfl, rfl, rfl, rfl, rfl, trivial⟩ rfl rfl)))
    refine EdgeOk.cons rfl ?_ ?_
    · exact TO.u rfl rfl (TX.nilCheckP rfl rfl (TO.nil (TE.toh (TE.td ((hdef15502 _ _ _ _).mp (hS1000_65 b14001))) 0 0 ⟨rfl, rfl, rfl, rfl, trivial⟩ rfl rfl)))
    exact EdgeOk.nil
   have hS1000_71 : T15501 13 [true, false, false, false, false, false, false, false, false, false, false, false, false, false] [(0, yv), (1, .pointer (some ⟨b_q0, 0, none⟩)), (10, .pointer (some ⟨bp, 0, none⟩))] ⟨[(bp, .cells #[.slice sp n cap] 79), (b_q0, .cells #[.pointer (some ⟨bp, 0, none⟩)] 101)], [row, X]⟩ := by
    rw [hdef15502]
    refine TD.step [1, 4, 12] 1 rfl rfl rfl rfl rfl (EdgeOk.cons rfl ?_ ?_)
    · exact TO.u rfl rfl (TX.nilCheckP rfl rfl (TO.nil (TE.toh (TE.td ((hdef15502 _ _ _ _).mp (hS1000_66))) 0 0 ⟨rfl, rfl, rfl, trivial⟩ rfl rfl)))
    refine EdgeOk.cons rfl ?_ ?_
    · exact TO.u rfl rfl (TX.load1 (i := 1) Try.isAgg101 rfl rfl rfl rfl (TO.nil (TE.toh (TE.td ((hdef15502 _ _ _ _).mp (hS1000_67))) 0 0 ⟨rfl, rfl, rfl, rfl, trivial⟩ rfl rfl)))
    refine EdgeOk.cons rfl ?_ ?_
    · exact TO.u rfl rfl (TX.alloc Try.zeroValue82 rfl rfl (fun b14001 => (TO.nil (TE.toh (TE.td ((hdef15502 _ _ _ _).mp (hS1000_68 b14001))) 0 0 ⟨rfl, rfl, rfl, rfl, trivial⟩ rfl rfl))))
    exact EdgeOk.nil
   have hS1000_72 : T15501 13 [false, false, false, false, true, false, false, false, false, false, false, false, false, false] [(0, yv), (1, .pointer (some ⟨b_q0, 0, none⟩)), (14, .pointer (some ⟨bp, 0, none⟩))] ⟨[(bp, .cells #[.slice sp n cap] 79), (b_q0, .cells #[.pointer (some ⟨bp, 0, none⟩)] 101)], [row, X]⟩ := by
    rw [hdef15502]
    refine TD.step [0, 5, 12] 0 rfl rfl rfl rfl rfl (EdgeOk.cons rfl ?_ ?_)
    · exact TO.u rfl rfl (TX.load1 (i := 1) Try.isAgg101 rfl rfl rfl rfl (TO.nil (TE.toh (TE.td ((hdef15502 _ _ _ _).mp (hS1000_67))) 0 0 ⟨rfl, rfl, rfl, rfl, trivial⟩ rfl rfl)))
    refine EdgeOk.cons rfl ?_ ?_
    · exact TO.u rfl rfl (TX.nilCheckP rfl rfl (TO.nil (TE.toh (TE.td ((hdef15502 _ _ _ _).mp (hS1000_69))) 0 0 ⟨rfl, rfl, rfl, trivial⟩ rfl rfl)))
    refine EdgeOk.cons rfl ?_ ?_
    · exact TO.u rfl rfl (TX.alloc Try.zeroValue82 rfl rfl (fun b14001 => (TO.nil (TE.toh (TE.td ((hdef15502 _ _ _ _).mp (hS1000_70 b14001))) 0 0 ⟨rfl, rfl, rfl, rfl, trivial⟩ rfl rfl))))
    exact EdgeOk.nil
   have hS1000_73 : ∀ (b14001 : Nat), T15501 13 [false, false, false, false, false, false, false, false, false, false, false, false, true, false] [(0, yv), (1, .pointer (some ⟨b_q0, 0, none⟩)), (3, .pointer (some ⟨b14001, 0, none⟩))] ⟨[(b14001, .cells #[.int .i64 0, .bool false] 82), (bp, .cells #[.slice sp n cap] 79), (b_q0, .cells #[.pointer (some ⟨bp, 0, none⟩)] 101)], [row, X]⟩ := by
    intro b14001
    rw [hdef15502]
    refine TD.step [0, 4] 0 rfl rfl rfl rfl rfl (EdgeOk.cons rfl ?_ ?_)
    · exact TO.u rfl rfl (TX.load1 (i := 2) Try.isAgg101 rfl rfl rfl rfl (TO.nil (TE.toh (TE.td ((hdef15502 _ _ _ _).mp (hS1000_68 b14001))) 0 0 ⟨rfl, rfl, rfl, rfl, trivial⟩ rfl rfl)))
    refine EdgeOk.cons rfl ?_ ?_
    · exact TO.u rfl rfl (TX.load1 (i := 2) Try.isAgg101 rfl rfl rfl rfl (TO.nil (TE.toh (TE.td ((hdef15502 _ _ _ _).mp (hS1000_70 b14001))) 0 0 ⟨rfl, rfl, rfl, rfl, trivial⟩ rfl rfl)))
    exact EdgeOk.nil
   have hS1000_74 : T15501 14 [false, false, false, false, false, false, false, false, false, false, false, false, false, false] [(0, yv), (1, .pointer (some ⟨b_q0, 0, none⟩))] ⟨[(bp, .cells #[.slice sp n cap] 79), (b_q0, .cells #[.pointer (some ⟨bp, 0, none⟩)] 101)], [row, X]⟩ := by
    rw [hdef15502]
    refine TD.step [0, 4, 12] 0 rfl rfl rfl rfl rfl (EdgeOk.cons rfl ?_ ?_)
    · exact TO.u rfl rfl (TX.load1 (i := 1) Try.isAgg101 rfl rfl rfl rfl (TO.nil (TE.toh (TE.td ((hdef15502 _ _ _ _).mp (hS1000_71))) 0 0 ⟨rfl, rfl, rfl, trivial⟩ rfl rfl)))
    refine EdgeOk.cons rfl ?_ ?_
    · exact TO.u rfl rfl (TX.load1 (i := 1) Try.isAgg101 rfl rfl rfl rfl (TO.nil (TE.toh (TE.td ((hdef15502 _ _ _ _).mp (hS1000_72))) 0 0 ⟨rfl, rfl, rfl, trivial⟩ rfl rfl)))
    refine EdgeOk.cons rfl ?_ ?_
    · exact TO.u rfl rfl (TX.alloc Try.zeroValue82 rfl rfl (fun b14001 => (TO.nil (TE.toh (TE.td ((hdef15502 _ _ _ _).mp (hS1000_73 b14001))) 0 0 ⟨rfl, rfl, rfl, trivial⟩ rfl rfl))))
    exact EdgeOk.nil
   exact hS1000_74
 replace h := ie h hb1
 refine TC.exit (TE.thenX (TE.perm (H' := ⟨[(b_q0, .cells #[.pointer (some ⟨bp, 0, none⟩)] 101)], [Hs]⟩) (open_permA (A := []) hp).symm (TE.loopX (TE.blockH ?_))))
 have hr := (Option.some.inj h)
 subst hr
 exact TE.finN (R := ⟨[(b_q0, .cells #[.pointer (some ⟨bp, 0, none⟩)] 101)], [Hs0]⟩) (TL.ret (R' := ⟨[(b_q0, .cells #[.pointer (some ⟨bp, 0, none⟩)] 101)], [Hs]⟩) Try.results73 .nil (subD 0 0 rfl rfl) ⟨Hs, hI1, rfl⟩)
/-- (*hatchway/flow.stack_hatchway/flow.visit_).pops -/
theorem c51 (b_0 : Nat) (w : World) : Ret Try.prog 51 [.pointer (some ⟨b_0, 0, none⟩)] w ⟨[], []⟩ (fun v R => ∃ c_0 : Nat, v = .func (.func 73) #[] #[.pointer (some ⟨c_0, 0, none⟩)] ∧ R = ⟨[(c_0, .cells #[.pointer (some ⟨b_0, 0, none⟩)] 101)], []⟩) := by
 exact Ret.of_body Try.func51 rfl Try.ntmps51 rfl (fun _ hx => absurd hx List.not_mem_nil) List.nodup_nil (TC.seq (TC.region (TO.u rfl rfl (TX.box rfl rfl rfl (fun b1 => (TO.u rfl rfl (TX.assign rfl rfl (TO.nil (TE.thenN rfl rfl (TC.seq (TC.region (TO.u rfl rfl (TX.mkfunc rfl rfl rfl (TO.u rfl rfl (TX.assign rfl rfl (TO.nil (TE.thenN rfl rfl (TC.ret (TE.fin (R := ⟨[], []⟩) (TL.ret (R' := ⟨[(b1, .cells #[.pointer (some ⟨b_0, 0, none⟩)] 101)], []⟩) Try.results51 (.cons (.tmp rfl) .nil) (List.Sublist.refl _) ⟨b1, rfl, rfl⟩))))))))))))))))))))
structure S_struct___ where
  deriving DecidableEq, Inhabited
def S_struct___.enc (x : S_struct___) : List Value := []
/-- (hatchway/flow.set_int_).add -/
def fn48 (p0 : List (Int × S_struct___)) (p1 : Int) : Bool × (List (Int × S_struct___)) :=
  (!(mhas p0 p1), mput p0 p1 (⟨⟩ : S_struct___))
theorem c48 (m_0 : Nat) (p0 : List (Int × S_struct___)) (Hs_0 : Blocks) (p1 : Int) (w : World) (r : Bool × (List (Int × S_struct___))) (ho_0 : OwnM (Kn.int .i64) (fun (v : S_struct___) => (.agg #[] : Value)) m_0 p0 Hs_0) (hat : HpOk w ⟨[], [Hs_0]⟩) (h : fn48 p0 p1 = r) : Ret Try.prog 48 [.map (some m_0), .int .i64 p1] w ⟨[], [Hs_0]⟩ (fun v R => ∃ (oH0 : Blocks), v = .bool r.1 ∧ R = ⟨[], [oH0]⟩ ∧ OwnM (Kn.int .i64) (fun (v : S_struct___) => (.agg #[] : Value)) m_0 r.2 oH0) := by
 unfold fn48 at h
 refine Ret.of_body Try.func48 rfl Try.ntmps48 rfl hat.1 hat.2 (TC.seq (TC.region (TO.u rfl rfl (TX.assign rfl rfl (TO.nil (TE.thenN rfl rfl (TC.seq (TC.region (TO.u rfl rfl (TX.move rfl rfl (TO.u rfl rfl (TX.move rfl rfl (TO.u rfl rfl (TX.lookM2 (N := (Kn.int .i64)) (V := (fun (v : S_struct___) => (.agg #[] : Value))) (i := 0) (k := p1) (z := (⟨⟩ : S_struct___)) Try.runUnderlying69 Try.runUnderlying3 Try.zeroValue86 rfl rfl rfl ho_0 rfl (TO.u rfl rfl (TX.move rfl rfl (TO.u rfl rfl (TX.extract rfl rfl rfl (TO.u rfl rfl (TX.extract rfl rfl rfl (TO.u rfl rfl (TX.alloc Try.zeroValue86 rfl rfl (fun b1 => (TO.u rfl rfl (TX.store (i := 0) Try.sizeOf86 rfl rfl rfl rfl rfl rfl rfl rfl (TO.u rfl rfl (TX.assign rfl rfl (TO.nil (TE.thenN rfl rfl (TC.seq (TC.region (TO.u rfl rfl (TX.move rfl rfl (TO.u rfl rfl (TX.move rfl rfl (TO.u rfl rfl (TX.build Try.zeroValue86 rfl Try.runUnderlying86 .nil rfl rfl rfl (TO.u rfl rfl (TX.updM (N := (Kn.int .i64)) (V := (fun (v : S_struct___) => (.agg #[] : Value))) (si := 0) (k := p1) (v := (⟨⟩ : S_struct___)) (.inl rfl) Try.runUnderlying69 Try.runUnderlying3 rfl rfl rfl rfl ho_0 (fun Hs2 _ S3 ho4 => ?_))))))))))))))))))))))))))))))))))))))))
 cases S3
 refine TO.nil (TE.thenN rfl rfl (TC.seq (TC.region (TO.u rfl rfl (TX.move rfl rfl (TO.u rfl rfl (TX.not rfl rfl (TO.u rfl rfl (TX.assign rfl rfl (TO.nil (TE.thenN rfl rfl (TC.ret ?_))))))))))))
 have hr := h
 subst hr
 exact TE.fin (R := ⟨[], [Hs_0]⟩) (TL.ret (R' := ⟨[], [Hs2]⟩) Try.results48 (.cons (.tmp rfl) .nil) (subD 1 0 rfl rfl) ⟨Hs2, rfl, rfl, ho4⟩)
def fn23_l2 (v2 : (List (List Int))) (y297 : Visit) : Nat → (List Visit) → Int → Option ((List Visit))
  | 0, _, _ => none
  | n406 + 1, x385, x393 => (bif decide (x393 < ((gt v2 y297.fat).length : Int)) then (bif inb x393 (gt v2 y297.fat).length then (Option.bind (fn50 (⟨x385⟩ : S_flow_visit_) ([(⟨gt (gt v2 y297.fat) x393, false⟩ : Visit)] : List Visit)) fun v415 => ((fn23_l2 v2 y297 n406) v415.fl (IntKind.i64.wrap (x393 + 1)))) else none) else (some x385))
theorem fn23_l2_s (v2 : (List (List Int))) (y297 : Visit) (n406 : Nat) (x385 : List Visit) (x393 : Int) : fn23_l2 v2 y297 (n406 + 1) x385 x393 = (bif decide (x393 < ((gt v2 y297.fat).length : Int)) then (bif inb x393 (gt v2 y297.fat).length then (Option.bind (fn50 (⟨x385⟩ : S_flow_visit_) ([(⟨gt (gt v2 y297.fat) x393, false⟩ : Visit)] : List Visit)) fun v415 => ((fn23_l2 v2 y297 n406) v415.fl (IntKind.i64.wrap (x393 + 1)))) else none) else (some x385)) := rfl
def fn23_k2 (x285 : List (Int × S_struct___)) (x296 : Bool) (v324 : Bool × (List (Int × S_struct___))) (x395 : List Visit) : Option (((List (Int × S_struct___)) × (List (Int × S_struct___)) × (List Visit) × Bool) × Nat) :=
  (some ((v324.2, x285, x395, x296), 0))
theorem fn23_k2_s (x285 : List (Int × S_struct___)) (x296 : Bool) (v324 : Bool × (List (Int × S_struct___))) (x395 : List Visit) : fn23_k2 x285 x296 v324 x395 = (some ((v324.2, x285, x395, x296), 0)) := rfl
def fn23_r1 (F : Nat) (v2 : (List (List Int))) (x282 : List (Int × S_struct___)) (x285 : List (Int × S_struct___)) (x288 : List Visit) (x296 : Bool) (y297 : Visit) : Option (((List (Int × S_struct___)) × (List (Int × S_struct___)) × (List Visit) × Bool) × Nat) :=
  (bif y297.fleft then (bindP (fn48 x285 y297.fat) fun v318 => (some ((mdel x282 y297.fat, v318.2, x288, x296), 0))) else (bif mhas x285 y297.fat then (some ((x282, x285, x288, x296), 0)) else (bindP (fn48 x282 y297.fat) fun v324 => (bif !v324.1 then (some ((v324.2, x285, x288, true), 1)) else (Option.bind (fn50 (⟨x288⟩ : S_flow_visit_) ([(⟨y297.fat, true⟩ : Visit)] : List Visit)) fun v333 => (bif inb y297.fat v2.length then (Option.bind (fn23_l2 v2 y297 F v333.fl 0) fun o403 => (fn23_k2 x285 x296 v324 o403)) else none))))))
theorem fn23_r1_s (F : Nat) (v2 : (List (List Int))) (x282 : List (Int × S_struct___)) (x285 : List (Int × S_struct___)) (x288 : List Visit) (x296 : Bool) (y297 : Visit) : fn23_r1 F v2 x282 x285 x288 x296 y297 = (bif y297.fleft then (bindP (fn48 x285 y297.fat) fun v318 => (some ((mdel x282 y297.fat, v318.2, x288, x296), 0))) else (bif mhas x285 y297.fat then (some ((x282, x285, x288, x296), 0)) else (bindP (fn48 x282 y297.fat) fun v324 => (bif !v324.1 then (some ((v324.2, x285, x288, true), 1)) else (Option.bind (fn50 (⟨x288⟩ : S_flow_visit_) ([(⟨y297.fat, true⟩ : Visit)] : List Visit)) fun v333 => (bif inb y297.fat v2.length then (Option.bind (fn23_l2 v2 y297 F v333.fl 0) fun o403 => (fn23_k2 x285 x296 v324 o403)) else none)))))) := rfl
def fn23_k1_0 (x423 : List (Int × S_struct___)) (x426 : List (Int × S_struct___)) (x429 : List Visit) (x437 : Bool) : Option (Bool) :=
  (some false)
theorem fn23_k1_0_s (x423 : List (Int × S_struct___)) (x426 : List (Int × S_struct___)) (x429 : List Visit) (x437 : Bool) : fn23_k1_0 x423 x426 x429 x437 = (some false) := rfl
def fn23_k1_1 (x423 : List (Int × S_struct___)) (x426 : List (Int × S_struct___)) (x429 : List Visit) (x437 : Bool) : Option (Bool) :=
  (some x437)
theorem fn23_k1_1_s (x423 : List (Int × S_struct___)) (x426 : List (Int × S_struct___)) (x429 : List Visit) (x437 : Bool) : fn23_k1_1 x423 x426 x429 x437 = (some x437) := rfl
/-- hatchway/flow.Loops -/
def fn23 (F : Nat) (p0 : List Instr) : Option (Bool) :=
  (Option.bind (fn45 F p0) fun v2 => (bif v2.isEmpty then (some false) else (Option.bind (fn50 (⟨([] : List Visit)⟩ : S_flow_visit_) ([(⟨0, false⟩ : Visit)] : List Visit)) fun v28 => (Option.bind (fn73 F (stepR (fun (s : (List (Int × S_struct___)) × (List (Int × S_struct___)) × (List Visit) × Bool) (y : Visit) => fn23_r1 F v2 s.1 s.2.1 s.2.2.1 s.2.2.2 y)) goR (fun s : ((List (Int × S_struct___)) × (List (Int × S_struct___)) × (List Visit) × Bool) × Nat => s.1.2.2.1) (fun (xs : List Visit) (s : ((List (Int × S_struct___)) × (List (Int × S_struct___)) × (List Visit) × Bool) × Nat) => ((s.1.1, s.1.2.1, xs, s.1.2.2.2), s.2))  (((([] : List (Int × S_struct___)), ([] : List (Int × S_struct___)), v28.fl, false), 0) : ((List (Int × S_struct___)) × (List (Int × S_struct___)) × (List Visit) × Bool) × Nat)) fun o439 => (bif Nat.beq o439.2 0 then fn23_k1_0 o439.1.1 o439.1.2.1 o439.1.2.2.1 o439.1.2.2.2 else (bif Nat.beq o439.2 1 then fn23_k1_1 o439.1.1 o439.1.2.1 o439.1.2.2.1 o439.1.2.2.2 else none))))))
def ret23 (r : Bool) : Value := .bool r
theorem c23 (F : Nat) (sp_0 : Option Addr) (n_0 cap_0 : Nat) (p0 : List Instr) (w : World) (r : Bool) (qn0 : p0.length = n_0) (qc0 : p0.length ≤ cap_0) (qp0 : RdF Instr.E w [] sp_0 p0) (h : fn23 F p0 = some r) : Ret Try.prog 23 [.slice sp_0 n_0 cap_0] w ⟨[], []⟩ (fun v R => v = ret23 r ∧ R = ⟨[], []⟩) := by
 unfold fn23 at h
 refine Ret.of_body Try.func23 rfl Try.ntmps23 rfl (fun _ hx => absurd hx List.not_mem_nil) List.nodup_nil (TC.seq (TC.region (TO.u rfl rfl (TX.alloc Try.zeroValue4 rfl rfl (fun b1 => (TO.nil (TE.thenN rfl rfl (TC.seq (TC.region (TO.u rfl rfl (TX.move rfl rfl ?_)))))))))))
 obtain ⟨v2, hv2, h⟩ := bd h
 refine TO.u rfl rfl (TX.callQ (post45 v2) Try.call45 rfl (fun a w s => c45 F _ _ _ p0 _ _ qn0 qc0 (qp0.tr s.extB0) hv2) rfl ?_)
 rintro _ _ ⟨sp3, n4, cap5, Hs7, rfl, hn6, rfl, ho8⟩
 refine TO.reH ⟨[(b1, .cells #[.bool false] 4)], [Hs7]⟩ rfl (TO.u rfl rfl (TX.alloc Try.zeroValue66 rfl rfl (fun b10 => (TO.u rfl rfl (TX.store (i := 0) Try.sizeOf66 rfl rfl rfl rfl rfl rfl rfl rfl (TO.nil (TE.thenN rfl rfl (TC.seq (TC.seq (TC.region (TO.u rfl rfl (TX.load1 (i := 0) Try.isAgg66 rfl rfl rfl rfl (TO.u rfl rfl (TX.eqNilS Try.runUnderlying66 rfl rfl ho8.isNone rfl (TO.nil (TE.thenN rfl rfl (TC.cond rfl (fun hb11 => ?_) (fun hb11 => ?_))))))))))))))))))
 · replace h := it h hb11
   exact TC.seq (TC.region (TO.u rfl rfl (TX.store (i := 1) Try.sizeOf4 rfl rfl rfl rfl rfl rfl rfl rfl (TO.nil (TE.thenN rfl rfl (TC.ret (TE.thenR (TE.fin (R := ⟨[], []⟩) (TL.ret (R' := ⟨[], []⟩) Try.results23 (.cons (.cell1 (i := 1) Try.isAgg4 rfl rfl rfl) .nil) (subD 2 1 rfl rfl) ⟨congrArg ret23 (Option.some.inj h), rfl⟩)))))))))
 replace h := ie h hb11
 refine TC.skip (TE.thenN rfl rfl (TC.seq (TC.region (TO.u rfl rfl (TX.makeMapS (N := (Kn.int .i64)) (V := (fun (v : S_struct___) => (.agg #[] : Value))) rfl (fun m12 Hs14 ho15 => (TO.u rfl rfl (TX.makeMapS (N := (Kn.int .i64)) (V := (fun (v : S_struct___) => (.agg #[] : Value))) rfl (fun m16 Hs18 ho19 => (TO.u rfl rfl (TX.alloc Try.zeroValue69 rfl rfl (fun b20 => (TO.u rfl rfl (TX.alloc Try.zeroValue69 rfl rfl (fun b21 => (TO.u rfl rfl (TX.store (i := 1) Try.sizeOf69 rfl rfl rfl rfl rfl rfl rfl rfl (TO.u rfl rfl (TX.store (i := 0) Try.sizeOf69 rfl rfl rfl rfl rfl rfl rfl rfl (TO.nil (TE.thenN rfl rfl (TC.seq (TC.region (TO.u rfl rfl (TX.alloc Try.zeroValue79 rfl rfl (fun b22 => (TO.nil (TE.thenN rfl rfl (TC.seq (TC.region (TO.u rfl rfl (TX.build Try.zeroValue82 rfl Try.runUnderlying82 (.cons Try.sizeOf3 (.cons Try.sizeOf4 .nil)) rfl rfl rfl (TO.u rfl rfl (TX.buildS (N := Visit.E) (ys := ([(⟨0, false⟩ : Visit)] : List Visit)) Try.runUnderlying77 Try.sizeOf82 Try.zeroValue82 rfl rfl rfl rfl (fillS [.agg #[.int .i64 0, .bool false]] rfl rfl rfl rfl) rfl (fun sp23 Hs25 ho26 => ?_)))))))))))))))))))))))))))))))))))
 obtain ⟨v28, hv28, h⟩ := bd h
 refine TO.addNil (TO.u rfl rfl (TX.callRW [0] [0] _ rfl rfl Try.call50 rfl rfl (fun a w s => c50 b22 (⟨([] : List Visit)⟩ : S_flow_visit_) none _ 0 [] _ _ _ ([(⟨0, false⟩ : Visit)] : List Visit) _ _ rfl (OwnL.nil Visit.E 82) rfl ho26.le_cap (ho26.rdf s (i := 0) rfl) s.hpOk hv28) rfl ?_))
 rintro _ _ ⟨sp29, n30, cap31, Hs33, rfl, rfl, hn32, ho34⟩
 refine ⟨[(b22, .cells #[.slice sp29 n30 cap31] 79)], [], [Hs33], rfl, ?_⟩
 refine TO.reH ⟨[(b22, .cells #[.slice sp29 n30 cap31] 79), (b21, .cells #[.map (some m16)] 69), (b20, .cells #[.map (some m12)] 69), (b10, .cells #[.slice sp3 n4 cap5] 66), (b1, .cells #[.bool false] 4)], [Hs33, Hs25, Hs18, Hs14, Hs7]⟩ rfl (TO.nil (TE.thenN rfl rfl (TC.seq (TC.seq (TC.region (TO.u rfl rfl (TX.callQ _ Try.call51 rfl (fun a w s => c51 b22 _) rfl ?_)))))))
 rintro _ _ ⟨b36, rfl, rfl⟩
 refine TO.reH ⟨[(b36, .cells #[.pointer (some ⟨b22, 0, none⟩)] 101), (b22, .cells #[.slice sp29 n30 cap31] 79), (b21, .cells #[.map (some m16)] 69), (b20, .cells #[.map (some m12)] 69), (b10, .cells #[.slice sp3 n4 cap5] 66), (b1, .cells #[.bool false] 4)], [Hs33, Hs25, Hs18, Hs14, Hs7]⟩ rfl (TO.nil (TE.thenN rfl rfl (TC.block ?_)))
 obtain ⟨⟨o439, m440⟩, hl441, h⟩ := bd h
 refine TC.to (L' := [(2, .pointer (some ⟨b1, 0, none⟩)), (3, .pointer (some ⟨b10, 0, none⟩)), (4, .pointer (some ⟨b20, 0, none⟩)), (5, .pointer (some ⟨b21, 0, none⟩)), (6, .pointer (some ⟨b22, 0, none⟩)), (21, .func (.func 73) #[] #[.pointer (some ⟨b36, 0, none⟩)])]) (E' := [(b36, .cells #[.pointer (some ⟨b22, 0, none⟩)] 101), (b22, .cells #[.slice sp29 n30 cap31] 79), (b21, .cells #[.map (some m16)] 69), (b20, .cells #[.map (some m12)] 69), (b10, .cells #[.slice sp3 n4 cap5] 66), (b1, .cells #[.bool false] 4)]) (S' := [Hs33, Hs25, Hs18, Hs14, Hs7]) 0 0 ⟨rfl, rfl, rfl, rfl, rfl, rfl, trivial⟩ rfl rfl ?_
 have hlens : LensI Visit.E 82 b22 79 (fun s : (List (Int × S_struct___)) × (List (Int × S_struct___)) × (List Visit) × Bool => s.2.2.1) (fun (xs : List Visit) (s : (List (Int × S_struct___)) × (List (Int × S_struct___)) × (List Visit) × Bool) => (s.1, s.2.1, xs, s.2.2.2)) (fun (s : (List (Int × S_struct___)) × (List (Int × S_struct___)) × (List Visit) × Bool) (H' : Hp) => match s with | (x282, x285, x288, x296) => ∃ Hs283, ∃ Hs286, ∃ sp289 n290 cap291 Hs293, OwnM (Kn.int .i64) (fun (v : S_struct___) => (.agg #[] : Value)) m12 x282 Hs283 ∧ OwnM (Kn.int .i64) (fun (v : S_struct___) => (.agg #[] : Value)) m16 x285 Hs286 ∧ OwnL Visit.E 82 sp289 cap291 x288 Hs293 ∧ x288.length = n290 ∧ H' = ⟨[(b22, .cells #[.slice sp289 n290 cap291] 79), (b21, .cells #[.map (some m16)] 69), (b20, .cells #[.map (some m12)] 69), (b10, .cells #[.slice sp3 n4 cap5] 66), (b1, .cells #[.bool x296] 4)], [Hs293, Hs25, Hs286, Hs283, Hs7]⟩) := by
  rintro ⟨x282, x285, x288, x296⟩ H ⟨Hs283, Hs286, sp289, n290, cap291, Hs293, ho284, ho287, ho294, hn292, rfl⟩
  refine ⟨sp289, n290, cap291, Hs293, _, pull_perm (i := 0) (j := 0) rfl rfl, hn292, ho294, ?_⟩
  intro sp' n' cap' row' xs' hn' ho'
  exact ⟨⟨[(b22, .cells #[.slice sp' n' cap'] 79), (b21, .cells #[.map (some m16)] 69), (b20, .cells #[.map (some m12)] 69), (b10, .cells #[.slice sp3 n4 cap5] 66), (b1, .cells #[.bool x296] 4)], [row', Hs25, Hs286, Hs283, Hs7]⟩, ⟨Hs283, Hs286, sp', n', cap', row', ho284, ho287, ho', hn', rfl⟩, pull_perm (i := 0) (j := 0) rfl rfl⟩
 refine TC.rangeO [22] [0] [] (fun (s : (List (Int × S_struct___)) × (List (Int × S_struct___)) × (List Visit) × Bool) (H' : Hp) => match s with | (x282, x285, x288, x296) => ∃ Hs283, ∃ Hs286, ∃ sp289 n290 cap291 Hs293, OwnM (Kn.int .i64) (fun (v : S_struct___) => (.agg #[] : Value)) m12 x282 Hs283 ∧ OwnM (Kn.int .i64) (fun (v : S_struct___) => (.agg #[] : Value)) m16 x285 Hs286 ∧ OwnL Visit.E 82 sp289 cap291 x288 Hs293 ∧ x288.length = n290 ∧ H' = ⟨[(b22, .cells #[.slice sp289 n290 cap291] 79), (b21, .cells #[.map (some m16)] 69), (b20, .cells #[.map (some m12)] 69), (b10, .cells #[.slice sp3 n4 cap5] 66), (b1, .cells #[.bool x296] 4)], [Hs293, Hs25, Hs286, Hs283, Hs7]⟩) (fun (x : Visit) => [.agg #[.int .i64 x.fat, .bool x.fleft]]) (fun (s : (List (Int × S_struct___)) × (List (Int × S_struct___)) × (List Visit) × Bool) (y : Visit) => fn23_r1 F v2 s.1 s.2.1 s.2.2.1 s.2.2.2 y) (([] : List (Int × S_struct___)), ([] : List (Int × S_struct___)), v28.fl, false) o439 m440 Try.call73 rfl rfl (fun _ => rfl) rfl rfl ⟨Hs14, Hs18, sp29, n30, cap31, Hs33, ho15, ho19, ho34, hn32, rfl⟩ (fun zw zv zJ zH zd zx zo zy zj => c73 F (stepR (fun (s : (List (Int × S_struct___)) × (List (Int × S_struct___)) × (List Visit) × Bool) (y : Visit) => fn23_r1 F v2 s.1 s.2.1 s.2.2.1 s.2.2.2 y)) goR (fun s : ((List (Int × S_struct___)) × (List (Int × S_struct___)) × (List Visit) × Bool) × Nat => s.1.2.2.1) (fun (xs : List Visit) (s : ((List (Int × S_struct___)) × (List (Int × S_struct___)) × (List Visit) × Bool) × Nat) => ((s.1.1, s.1.2.1, xs, s.1.2.2.2), s.2)) zJ zv (((([] : List (Int × S_struct___)), ([] : List (Int × S_struct___)), v28.fl, false), 0) : ((List (Int × S_struct___)) × (List (Int × S_struct___)) × (List Visit) × Bool) × Nat) zH b36 b22 zw (o439, m440) (lens_comp hlens zd) zo zy zj hl441) ?_ ?_
 · clear h hl441
   intro l298 r299 lr300 w301 R302 s303 y297 s305 m306 H307 Rr308 hst309 h hI457 hx310 fin311
   obtain ⟨x282, x285, x288, x296⟩ := s303
   obtain ⟨Hs283, Hs286, sp289, n290, cap291, Hs293, ho284, ho287, ho294, hn292, rfl⟩ := hI457
   replace h := (fn23_r1_s F v2 x282 x285 x288 x296 y297).symm.trans h
   have qx312 := qp0.tr hx310
   refine TC.to (L' := [(2, .pointer (some ⟨b1, 0, none⟩)), (3, .pointer (some ⟨b10, 0, none⟩)), (4, .pointer (some ⟨b20, 0, none⟩)), (5, .pointer (some ⟨b21, 0, none⟩)), (6, .pointer (some ⟨b22, 0, none⟩)), (21, .func (.func 73) #[] #[.pointer (some ⟨b36, 0, none⟩)]), (22, .agg #[.int .i64 y297.fat, .bool y297.fleft])]) (E' := [(l298, .loop lr300), (r299, .deferred (some [])), (b22, .cells #[.slice sp289 n290 cap291] 79), (b21, .cells #[.map (some m16)] 69), (b20, .cells #[.map (some m12)] 69), (b10, .cells #[.slice sp3 n4 cap5] 66), (b1, .cells #[.bool x296] 4)]) (S' := [Hs293, Hs25, Hs286, Hs283, Hs7]) 0 0 ⟨rfl, rfl, rfl, rfl, rfl, rfl, rfl, trivial⟩ rfl rfl (TC.region (TO.u rfl rfl (TX.alloc Try.zeroValue82 rfl rfl (fun b313 => (TO.u rfl rfl (TX.store (i := 0) Try.sizeOf82 rfl rfl rfl rfl rfl rfl rfl rfl (TO.nil (TE.begin (i := 1) rfl (by assumption) rfl ?_))))))))
   refine TC.block (TC.seq (TC.seq (TC.region (TO.u rfl rfl (TX.fieldAddr' Try.runUnderlying82 rfl Try.sizeOf4 rfl rfl rfl (TO.u rfl rfl (TX.load1 (i := 0) Try.isAgg4 rfl rfl rfl rfl (TO.nil (TE.thenN rfl rfl (TC.cond rfl (fun hb314 => ?_) (fun hb314 => ?_)))))))))))
   · replace h := it h hb314
     refine TC.seq (TC.region (TO.u rfl rfl (TX.load1 (i := 5) Try.isAgg69 rfl rfl rfl rfl (TO.u rfl rfl (TX.fieldAddr' Try.runUnderlying82 rfl Try.sizeOf3 rfl rfl rfl (TO.u rfl rfl (TX.load1 (i := 0) Try.isAgg3 rfl rfl rfl rfl (TO.u rfl rfl (TX.delM (N := (Kn.int .i64)) (V := (fun (v : S_struct___) => (.agg #[] : Value))) (si := 3) (k := y297.fat) rfl Try.runUnderlying69 Try.runUnderlying3 rfl rfl rfl ho284 (fun Hs315 _ S316 ho317 => ?_))))))))))
     cases S316
     refine TO.nil (TE.thenN rfl rfl (TC.seq (TC.region (TO.u rfl rfl (TX.load1 (i := 4) Try.isAgg69 rfl rfl rfl rfl (TO.u rfl rfl (TX.fieldAddr' Try.runUnderlying82 rfl Try.sizeOf3 rfl rfl rfl (TO.u rfl rfl (TX.load1 (i := 0) Try.isAgg3 rfl rfl rfl rfl ?_)))))))))
     obtain ⟨v318, hv318, h⟩ := bp h
     refine TO.u rfl rfl (TX.callRW [] [2] _ rfl rfl Try.call48 rfl rfl (fun a w s => c48 m16 x285 Hs286 y297.fat _ _ ho287 s.hpOk hv318) rfl ?_)
     rintro _ _ ⟨Hs319, rfl, rfl, ho320⟩
     refine ⟨[], [], [Hs319], rfl, ?_⟩
     refine TO.reH ⟨[(b313, .cells #[.int .i64 y297.fat, .bool y297.fleft] 82), (l298, .loop { lr300 with state := .busy }), (r299, .deferred (some [])), (b22, .cells #[.slice sp289 n290 cap291] 79), (b21, .cells #[.map (some m16)] 69), (b20, .cells #[.map (some m12)] 69), (b10, .cells #[.slice sp3 n4 cap5] 66), (b1, .cells #[.bool x296] 4)], [Hs293, Hs25, Hs319, Hs315, Hs7]⟩ rfl (TO.nil (TE.thenN rfl rfl (TC.exit (TE.thenX (TE.blockH ?_)))))
     cases h
     exact TE.to (L' := []) (E' := [(l298, .loop { lr300 with state := .busy }), (r299, .deferred (some [])), (b22, .cells #[.slice sp289 n290 cap291] 79), (b21, .cells #[.map (some m16)] 69), (b20, .cells #[.map (some m12)] 69), (b10, .cells #[.slice sp3 n4 cap5] 66), (b1, .cells #[.bool x296] 4)]) (S' := [Hs293, Hs25, Hs319, Hs315, Hs7]) 1 0 trivial rfl rfl (fin311 [] ⟨[(b22, .cells #[.slice sp289 n290 cap291] 79), (b21, .cells #[.map (some m16)] 69), (b20, .cells #[.map (some m12)] 69), (b10, .cells #[.slice sp3 n4 cap5] 66), (b1, .cells #[.bool x296] 4)], [Hs293, Hs25, Hs319, Hs315, Hs7]⟩ ⟨Hs315, Hs319, sp289, n290, cap291, Hs293, ho317, ho320, ho294, hn292, rfl⟩)
   replace h := ie h hb314
   refine TC.skip (TE.thenN rfl rfl (TC.seq (TC.seq (TC.region (TO.u rfl rfl (TX.load1 (i := 4) Try.isAgg69 rfl rfl rfl rfl (TO.u rfl rfl (TX.fieldAddr' Try.runUnderlying82 rfl Try.sizeOf3 rfl rfl rfl (TO.u rfl rfl (TX.load1 (i := 0) Try.isAgg3 rfl rfl rfl rfl (TO.u rfl rfl (TX.lookM2 (N := (Kn.int .i64)) (V := (fun (v : S_struct___) => (.agg #[] : Value))) (i := 2) (k := y297.fat) (z := (⟨⟩ : S_struct___)) Try.runUnderlying69 Try.runUnderlying3 Try.zeroValue86 rfl rfl rfl ho287 rfl (TO.u rfl rfl (TX.move rfl rfl (TO.u rfl rfl (TX.extract rfl rfl rfl (TO.u rfl rfl (TX.extract rfl rfl rfl (TO.u rfl rfl (TX.alloc Try.zeroValue86 rfl rfl (fun b322 => (TO.u rfl rfl (TX.store (i := 0) Try.sizeOf86 rfl rfl rfl rfl rfl rfl rfl rfl (TO.u rfl rfl (TX.assign rfl rfl (TO.nil (TE.thenN rfl rfl (TC.seq (TC.region (TO.u rfl rfl (TX.move rfl rfl (TO.nil (TE.thenN rfl rfl (TC.cond rfl (fun hb323 => ?_) (fun hb323 => ?_)))))))))))))))))))))))))))))))))))
   · replace h := it h hb323
     refine TC.exit (TE.thenX (TE.blockH ?_))
     cases h
     exact TE.to (L' := []) (E' := [(l298, .loop { lr300 with state := .busy }), (r299, .deferred (some [])), (b22, .cells #[.slice sp289 n290 cap291] 79), (b21, .cells #[.map (some m16)] 69), (b20, .cells #[.map (some m12)] 69), (b10, .cells #[.slice sp3 n4 cap5] 66), (b1, .cells #[.bool x296] 4)]) (S' := [Hs293, Hs25, Hs286, Hs283, Hs7]) 2 0 trivial rfl rfl (fin311 [] ⟨[(b22, .cells #[.slice sp289 n290 cap291] 79), (b21, .cells #[.map (some m16)] 69), (b20, .cells #[.map (some m12)] 69), (b10, .cells #[.slice sp3 n4 cap5] 66), (b1, .cells #[.bool x296] 4)], [Hs293, Hs25, Hs286, Hs283, Hs7]⟩ ⟨Hs283, Hs286, sp289, n290, cap291, Hs293, ho284, ho287, ho294, hn292, rfl⟩)
   replace h := ie h hb323
   refine TC.skip (TE.thenN rfl rfl (TC.seq (TC.seq (TC.region (TO.u rfl rfl (TX.load1 (i := 6) Try.isAgg69 rfl rfl rfl rfl (TO.u rfl rfl (TX.fieldAddr' Try.runUnderlying82 rfl Try.sizeOf3 rfl rfl rfl (TO.u rfl rfl (TX.load1 (i := 1) Try.isAgg3 rfl rfl rfl rfl ?_))))))))))
   obtain ⟨v324, hv324, h⟩ := bp h
   refine TO.u rfl rfl (TX.callRW [] [3] _ rfl rfl Try.call48 rfl rfl (fun a w s => c48 m12 x282 Hs283 y297.fat _ _ ho284 s.hpOk hv324) rfl ?_)
   rintro _ _ ⟨Hs325, rfl, rfl, ho326⟩
   refine ⟨[], [], [Hs325], rfl, ?_⟩
   refine TO.reH ⟨[(b322, .cells #[] 86), (b313, .cells #[.int .i64 y297.fat, .bool y297.fleft] 82), (l298, .loop { lr300 with state := .busy }), (r299, .deferred (some [])), (b22, .cells #[.slice sp289 n290 cap291] 79), (b21, .cells #[.map (some m16)] 69), (b20, .cells #[.map (some m12)] 69), (b10, .cells #[.slice sp3 n4 cap5] 66), (b1, .cells #[.bool x296] 4)], [Hs293, Hs25, Hs286, Hs325, Hs7]⟩ rfl (TO.u rfl rfl (TX.not rfl rfl (TO.nil (TE.thenN rfl rfl (TC.cond rfl (fun hb328 => ?_) (fun hb328 => ?_))))))
   · replace h := it h hb328
     refine TC.seq (TC.region (TO.u rfl rfl (TX.store (i := 8) Try.sizeOf4 rfl rfl rfl rfl rfl rfl rfl rfl (TO.nil (TE.thenN rfl rfl (TC.ret (TE.thenR (TE.blockR ?_))))))))
     cases h
     exact TE.to (L' := []) (E' := [(l298, .loop { lr300 with state := .busy }), (r299, .deferred (some [])), (b22, .cells #[.slice sp289 n290 cap291] 79), (b21, .cells #[.map (some m16)] 69), (b20, .cells #[.map (some m12)] 69), (b10, .cells #[.slice sp3 n4 cap5] 66), (b1, .cells #[.bool true] 4)]) (S' := [Hs293, Hs25, Hs286, Hs325, Hs7]) 2 0 trivial rfl rfl (fin311 [] ⟨[(b22, .cells #[.slice sp289 n290 cap291] 79), (b21, .cells #[.map (some m16)] 69), (b20, .cells #[.map (some m12)] 69), (b10, .cells #[.slice sp3 n4 cap5] 66), (b1, .cells #[.bool true] 4)], [Hs293, Hs25, Hs286, Hs325, Hs7]⟩ ⟨Hs325, Hs286, sp289, n290, cap291, Hs293, ho326, ho287, ho294, hn292, rfl⟩)
   replace h := ie h hb328
   refine TC.skip (TE.thenN rfl rfl (TC.seq (TC.region (TO.u rfl rfl (TX.fieldAddr' Try.runUnderlying82 rfl Try.sizeOf3 rfl rfl rfl (TO.u rfl rfl (TX.load1 (i := 1) Try.isAgg3 rfl rfl rfl rfl (TO.u rfl rfl (TX.build Try.zeroValue82 rfl Try.runUnderlying82 (.cons Try.sizeOf3 (.cons Try.sizeOf4 .nil)) rfl rfl rfl (TO.u rfl rfl (TX.buildS (N := Visit.E) (ys := ([(⟨y297.fat, true⟩ : Visit)] : List Visit)) Try.runUnderlying77 Try.sizeOf82 Try.zeroValue82 rfl rfl rfl rfl (fillS [.agg #[.int .i64 y297.fat, .bool true]] rfl rfl rfl rfl) rfl (fun sp329 Hs331 ho332 => ?_))))))))))))
   obtain ⟨v333, hv333, h⟩ := bd h
   refine TO.u rfl rfl (TX.callRW [4] [1] _ rfl rfl Try.call50 rfl rfl (fun a w s => c50 b22 (⟨x288⟩ : S_flow_visit_) sp289 _ cap291 Hs293 _ _ _ ([(⟨y297.fat, true⟩ : Visit)] : List Visit) _ _ hn292 ho294 rfl ho332.le_cap (ho332.rdf s (i := 0) rfl) s.hpOk hv333) rfl ?_)
   rintro _ _ ⟨sp334, n335, cap336, Hs338, rfl, rfl, hn337, ho339⟩
   refine ⟨[(b22, .cells #[.slice sp334 n335 cap336] 79)], [], [Hs338], rfl, ?_⟩
   refine TO.reH ⟨[(b322, .cells #[] 86), (b313, .cells #[.int .i64 y297.fat, .bool y297.fleft] 82), (l298, .loop { lr300 with state := .busy }), (r299, .deferred (some [])), (b22, .cells #[.slice sp334 n335 cap336] 79), (b21, .cells #[.map (some m16)] 69), (b20, .cells #[.map (some m12)] 69), (b10, .cells #[.slice sp3 n4 cap5] 66), (b1, .cells #[.bool x296] 4)], [Hs331, Hs338, Hs25, Hs286, Hs325, Hs7]⟩ rfl (TO.nil (TE.thenN rfl rfl (TC.seq (TC.region (TO.u rfl rfl (TX.load1 (i := 7) Try.isAgg66 rfl rfl rfl rfl (TO.u rfl rfl (TX.fieldAddr' Try.runUnderlying82 rfl Try.sizeOf3 rfl rfl rfl (TO.u rfl rfl (TX.load1 (i := 1) Try.isAgg3 rfl rfl rfl rfl ?_))))))))))
   obtain ⟨hk341, h⟩ := ck h
   refine TO.u rfl rfl (TX.indexLL (si := 5) Try.runUnderlying66 Try.sizeOf45 rfl hn6 rfl rfl ho8 hk341 rfl (TO.u rfl rfl (TX.loadLL (si := 5) (i := y297.fat) Try.isAgg45 rfl rfl ho8 hk341 rfl (fun sp342 n343 cap344 hn345 => (TO.u rfl rfl (TX.lenS (xs := gt v2 y297.fat) Try.runUnderlying45 rfl hn345.1 rfl (TO.u rfl rfl (TX.move rfl rfl (TO.nil (TE.thenN rfl rfl (TC.block ?_)))))))))))
   obtain ⟨o403, hl404, h⟩ := bd h
   refine TC.to (L' := [(6, .pointer (some ⟨b22, 0, none⟩)), (54, .slice sp342 n343 cap344), (55, .int .i64 ((gt v2 y297.fat).length : Int)), (56, .int .i64 0)]) (E' := [(b322, .cells #[] 86), (b313, .cells #[.int .i64 y297.fat, .bool y297.fleft] 82), (l298, .loop { lr300 with state := .busy }), (r299, .deferred (some [])), (b22, .cells #[.slice sp334 n335 cap336] 79), (b21, .cells #[.map (some m16)] 69), (b20, .cells #[.map (some m12)] 69), (b10, .cells #[.slice sp3 n4 cap5] 66), (b1, .cells #[.bool x296] 4)]) (S' := [Hs331, Hs338, Hs25, Hs286, Hs325, Hs7]) 0 0 ⟨rfl, rfl, rfl, rfl, trivial⟩ rfl rfl (TC.cutE 2 (fun L' H' => ∃ x395 : List Visit, x395 = o403 ∧ ∃ sp396 n397 cap398 Hs400, OwnL Visit.E 82 sp396 cap398 x395 Hs400 ∧ x395.length = n397 ∧ L' = [] ∧ H' = ⟨[(b322, .cells #[] 86), (b313, .cells #[.int .i64 y297.fat, .bool y297.fleft] 82), (l298, .loop { lr300 with state := .busy }), (r299, .deferred (some [])), (b22, .cells #[.slice sp396 n397 cap398] 79), (b21, .cells #[.map (some m16)] 69), (b20, .cells #[.map (some m12)] 69), (b10, .cells #[.slice sp3 n4 cap5] 66), (b1, .cells #[.bool x296] 4)], [Hs331, Hs400, Hs25, Hs286, Hs325, Hs7]⟩) ?_ ?_)
   · have h0408 := h
     clear h
     refine TC.loop (fun (n : Nat) (s : (List Visit) × Int) => fn23_l2 v2 y297 n s.1 s.2) o403 (fun _ => rfl) (fun (s : (List Visit) × Int) L' H' => match s with | (x385, x393) => ∃ sp386 n387 cap388 Hs390, OwnL Visit.E 82 sp386 cap388 x385 Hs390 ∧ x385.length = n387 ∧ L' = [(6, .pointer (some ⟨b22, 0, none⟩)), (54, .slice sp342 n343 cap344), (55, .int .i64 ((gt v2 y297.fat).length : Int)), (56, .int .i64 x393)] ∧ H' = ⟨[(b322, .cells #[] 86), (b313, .cells #[.int .i64 y297.fat, .bool y297.fleft] 82), (l298, .loop { lr300 with state := .busy }), (r299, .deferred (some [])), (b22, .cells #[.slice sp386 n387 cap388] 79), (b21, .cells #[.map (some m16)] 69), (b20, .cells #[.map (some m12)] 69), (b10, .cells #[.slice sp3 n4 cap5] 66), (b1, .cells #[.bool x296] 4)], [Hs331, Hs390, Hs25, Hs286, Hs325, Hs7]⟩) ?_ F (v333.fl, 0) ⟨sp334, n335, cap336, Hs338, ho339, hn337, rfl, rfl⟩ hl404
     clear hl404
     rintro K405 n406 ⟨x385, x393⟩ _ _ ⟨sp386, n387, cap388, Hs390, ho391, hn389, rfl, rfl⟩ h ih407
     replace h := (fn23_l2_s v2 y297 n406 x385 x393).symm.trans h
     refine TC.seq (TC.region (TO.u rfl rfl (TX.ibin rfl rfl rfl rfl (TO.nil (TE.thenN rfl rfl (TC.seq (TC.cond rfl (fun hb409 => ?_) (fun hb409 => ?_))))))))
     · replace h := it h hb409
       refine TC.skip (TE.thenN rfl rfl (TC.seq (TC.block (TC.seq (TC.region ?_)))))
       obtain ⟨hk410, h⟩ := ck h
       refine TO.u rfl rfl (TX.indexR (N := (En.int .i64)) Try.runUnderlying45 Try.sizeOf3 rfl hn345.1 rfl (fun a w s => hn345.rd s (i := 5) rfl) hk410 rfl (TO.u rfl rfl (TX.loadR1 (N := (En.int .i64)) Try.isAgg3 rfl (fun a w s => hn345.rd s (i := 5) rfl) hk410 rfl rfl (TO.u rfl rfl (TX.assign rfl rfl (TO.nil (TE.thenN rfl rfl (TC.region (TO.u rfl rfl (TX.move rfl rfl (TO.u rfl rfl (TX.build Try.zeroValue82 rfl Try.runUnderlying82 (.cons Try.sizeOf3 (.cons Try.sizeOf4 .nil)) rfl rfl rfl (TO.u rfl rfl (TX.buildS (N := Visit.E) (ys := ([(⟨gt (gt v2 y297.fat) x393, false⟩ : Visit)] : List Visit)) Try.runUnderlying77 Try.sizeOf82 Try.zeroValue82 rfl rfl rfl rfl (fillS [.agg #[.int .i64 (gt (gt v2 y297.fat) x393), .bool false]] rfl rfl rfl rfl) rfl (fun sp411 Hs413 ho414 => ?_)))))))))))))))
       obtain ⟨v415, hv415, h⟩ := bd h
       refine TO.u rfl rfl (TX.callRW [4] [2] _ rfl rfl Try.call50 rfl rfl (fun a w s => c50 b22 (⟨x385⟩ : S_flow_visit_) sp386 _ cap388 Hs390 _ _ _ ([(⟨gt (gt v2 y297.fat) x393, false⟩ : Visit)] : List Visit) _ _ hn389 ho391 rfl ho414.le_cap (ho414.rdf s (i := 0) rfl) s.hpOk hv415) rfl ?_)
       rintro _ _ ⟨sp416, n417, cap418, Hs420, rfl, rfl, hn419, ho421⟩
       refine ⟨[(b22, .cells #[.slice sp416 n417 cap418] 79)], [], [Hs420], rfl, ?_⟩
       exact TO.reH ⟨[(b322, .cells #[] 86), (b313, .cells #[.int .i64 y297.fat, .bool y297.fleft] 82), (l298, .loop { lr300 with state := .busy }), (r299, .deferred (some [])), (b22, .cells #[.slice sp416 n417 cap418] 79), (b21, .cells #[.map (some m16)] 69), (b20, .cells #[.map (some m12)] 69), (b10, .cells #[.slice sp3 n4 cap5] 66), (b1, .cells #[.bool x296] 4)], [Hs413, Hs331, Hs420, Hs25, Hs286, Hs325, Hs7]⟩ rfl (TO.nil (TE.blockN (TE.thenN rfl rfl (TC.region (TO.u rfl rfl (TX.ibin rfl rfl rfl rfl (TO.u rfl rfl (TX.move rfl rfl (TO.nil (TE.to (L' := [(6, .pointer (some ⟨b22, 0, none⟩)), (54, .slice sp342 n343 cap344), (55, .int .i64 ((gt v2 y297.fat).length : Int)), (56, .int .i64 (IntKind.i64.wrap (x393 + 1)))]) (E' := [(b322, .cells #[] 86), (b313, .cells #[.int .i64 y297.fat, .bool y297.fleft] 82), (l298, .loop { lr300 with state := .busy }), (r299, .deferred (some [])), (b22, .cells #[.slice sp416 n417 cap418] 79), (b21, .cells #[.map (some m16)] 69), (b20, .cells #[.map (some m12)] 69), (b10, .cells #[.slice sp3 n4 cap5] 66), (b1, .cells #[.bool x296] 4)]) (S' := [Hs331, Hs420, Hs25, Hs286, Hs325, Hs7]) 0 1 ⟨rfl, rfl, rfl, rfl, trivial⟩ rfl rfl (ih407 (v415.fl, IntKind.i64.wrap (x393 + 1)) _ _ ⟨sp416, n417, cap418, Hs420, ho421, hn419, rfl, rfl⟩ h)))))))))))
     replace h := ie h hb409
     exact TC.exit (TE.thenX (TE.loopX (TE.to (L' := []) (E' := [(b322, .cells #[] 86), (b313, .cells #[.int .i64 y297.fat, .bool y297.fleft] 82), (l298, .loop { lr300 with state := .busy }), (r299, .deferred (some [])), (b22, .cells #[.slice sp386 n387 cap388] 79), (b21, .cells #[.map (some m16)] 69), (b20, .cells #[.map (some m12)] 69), (b10, .cells #[.slice sp3 n4 cap5] 66), (b1, .cells #[.bool x296] 4)]) (S' := [Hs331, Hs390, Hs25, Hs286, Hs325, Hs7]) 0 0 trivial rfl rfl (TE.cutE ⟨x385, Option.some.inj h, sp386, n387, cap388, Hs390, ho391, hn389, rfl, rfl⟩))))
   rintro _ _ ⟨x395, rfl, sp396, n397, cap398, Hs400, ho401, hn399, rfl, rfl⟩
   replace h := (fn23_k2_s x285 x296 v324 x395).symm.trans h
   refine TE.blockH (TE.blockN ?_)
   cases h
   exact TE.to (L' := []) (E' := [(l298, .loop { lr300 with state := .busy }), (r299, .deferred (some [])), (b22, .cells #[.slice sp396 n397 cap398] 79), (b21, .cells #[.map (some m16)] 69), (b20, .cells #[.map (some m12)] 69), (b10, .cells #[.slice sp3 n4 cap5] 66), (b1, .cells #[.bool x296] 4)]) (S' := [Hs400, Hs25, Hs286, Hs325, Hs7]) 2 1 trivial rfl rfl (fin311 [] ⟨[(b22, .cells #[.slice sp396 n397 cap398] 79), (b21, .cells #[.map (some m16)] 69), (b20, .cells #[.map (some m12)] 69), (b10, .cells #[.slice sp3 n4 cap5] 66), (b1, .cells #[.bool x296] 4)], [Hs400, Hs25, Hs286, Hs325, Hs7]⟩ ⟨Hs325, Hs286, sp396, n397, cap398, Hs400, ho326, ho287, ho401, hn399, rfl⟩)
 clear hl441
 intro r438 H458 hI459
 obtain ⟨x423, x426, x429, x437⟩ := o439
 obtain ⟨Hs424, Hs427, sp430, n431, cap432, Hs434, ho425, ho428, ho435, hn433, rfl⟩ := hI459
 refine TE.reH ⟨[(r438, .deferred (some [])), (b36, .cells #[.pointer (some ⟨b22, 0, none⟩)] 101), (b22, .cells #[.slice sp430 n431 cap432] 79), (b21, .cells #[.map (some m16)] 69), (b20, .cells #[.map (some m12)] 69), (b10, .cells #[.slice sp3 n4 cap5] 66), (b1, .cells #[.bool x437] 4)], [Hs434, Hs25, Hs427, Hs424, Hs7]⟩ rfl ?_
 cases hm460 : Nat.beq m440 0
 · replace h := ie h hm460
   cases hm461 : Nat.beq m440 1
   · replace h := ie h hm461
     cases h
   replace h := it h hm461
   have q_ := Nat.eq_of_beq_eq_true hm461
   subst q_
   replace h := (fn23_k1_1_s x423 x426 x429 x437).symm.trans h
   exact TE.asE (e := .ret) rfl (TE.blockR (TE.thenR (TE.fin (R := ⟨[], []⟩) (TL.mark (i := 0) rfl rfl (TL.ret (R' := ⟨[], []⟩) Try.results23 (.cons (.cell1 (i := 6) Try.isAgg4 rfl rfl rfl) .nil) (subD 7 5 rfl rfl) ⟨congrArg ret23 (Option.some.inj h), rfl⟩)))))
 replace h := it h hm460
 have q_ := Nat.eq_of_beq_eq_true hm460
 subst q_
 replace h := (fn23_k1_0_s x423 x426 x429 x437).symm.trans h
 exact TE.asE (e := .normal) rfl (TE.blockN (TE.thenN rfl rfl (TC.seq (TC.region (TO.u rfl rfl (TX.store (i := 6) Try.sizeOf4 rfl rfl rfl rfl rfl rfl rfl rfl (TO.nil (TE.thenN rfl rfl (TC.ret (TE.fin (R := ⟨[], []⟩) (TL.mark (i := 0) rfl rfl (TL.ret (R' := ⟨[], []⟩) Try.results23 (.cons (.cell1 (i := 6) Try.isAgg4 rfl rfl rfl) .nil) (subD 7 5 rfl rfl) ⟨congrArg ret23 (Option.some.inj h), rfl⟩))))))))))))
structure Edge where
  fFrom : Int
  fTo : Int
  deriving DecidableEq, Inhabited
def Edge.enc (x : Edge) : List Value := [.int .i64 x.fFrom, .int .i64 x.fTo]
def Edge.E : En Edge := ⟨Edge.enc, 2, fun _ => rfl, fun _ => rfl, by decide⟩
def fn16_r1 (x64 : List Edge) (y72 : Int) (y73 : Int) : Option (((List Edge)) × Nat) :=
  (bif decide ((x64.length + ([(⟨y72, y73⟩ : Edge)] : List Edge).length) * 16 ≤ 140737488355328 ∧ x64.length + ([(⟨y72, y73⟩ : Edge)] : List Edge).length ≤ 9223372036854775807) then (some (x64 ++ ([(⟨y72, y73⟩ : Edge)] : List Edge), 0)) else none)
theorem fn16_r1_s (x64 : List Edge) (y72 : Int) (y73 : Int) : fn16_r1 x64 y72 y73 = (bif decide ((x64.length + ([(⟨y72, y73⟩ : Edge)] : List Edge).length) * 16 ≤ 140737488355328 ∧ x64.length + ([(⟨y72, y73⟩ : Edge)] : List Edge).length ≤ 9223372036854775807) then (some (x64 ++ ([(⟨y72, y73⟩ : Edge)] : List Edge), 0)) else none) := rfl
def fn16_k1_0 (F : Nat) (x100 : List Edge) : Option (Bool) :=
  (bif (x100.length : Int) != 3 then (some false) else (bif inb 0 x100.length then (bif inb 1 x100.length then (Option.bind (bif (((((gt x100 0).fFrom) == 0) && (((gt x100 0).fTo) == 1)) && (((gt x100 1).fFrom) == 0)) && (((gt x100 1).fTo) == 2) then (fn23 F ([(⟨21, 0, 0, (-1), 0⟩ : Instr), (⟨149, 0, 0, 0, 0⟩ : Instr)] : List Instr)) else some default) fun v13008 => (Option.bind (bif ((((((gt x100 0).fFrom) == 0) && (((gt x100 0).fTo) == 1)) && (((gt x100 1).fFrom) == 0)) && (((gt x100 1).fTo) == 2)) && v13008 then (fn23 F ([(⟨149, 0, 0, 0, 0⟩ : Instr), (⟨5, 0, 0, (-1), 0⟩ : Instr)] : List Instr)) else some default) fun v13018 => (some ((((((((gt x100 0).fFrom) == 0) && (((gt x100 0).fTo) == 1)) && (((gt x100 1).fFrom) == 0)) && (((gt x100 1).fTo) == 2)) && v13008) && (!v13018))))) else none) else none))
theorem fn16_k1_0_s (F : Nat) (x100 : List Edge) : fn16_k1_0 F x100 = (bif (x100.length : Int) != 3 then (some false) else (bif inb 0 x100.length then (bif inb 1 x100.length then (Option.bind (bif (((((gt x100 0).fFrom) == 0) && (((gt x100 0).fTo) == 1)) && (((gt x100 1).fFrom) == 0)) && (((gt x100 1).fTo) == 2) then (fn23 F ([(⟨21, 0, 0, (-1), 0⟩ : Instr), (⟨149, 0, 0, 0, 0⟩ : Instr)] : List Instr)) else some default) fun v13008 => (Option.bind (bif ((((((gt x100 0).fFrom) == 0) && (((gt x100 0).fTo) == 1)) && (((gt x100 1).fFrom) == 0)) && (((gt x100 1).fTo) == 2)) && v13008 then (fn23 F ([(⟨149, 0, 0, 0, 0⟩ : Instr), (⟨5, 0, 0, (-1), 0⟩ : Instr)] : List Instr)) else some default) fun v13018 => (some ((((((((gt x100 0).fFrom) == 0) && (((gt x100 0).fTo) == 1)) && (((gt x100 1).fFrom) == 0)) && (((gt x100 1).fTo) == 2)) && v13008) && (!v13018))))) else none) else none)) := rfl
/-- hatchway/hatchwaylaw24.awake -/
def fn16 (F : Nat)  : Option (Bool) :=
  (Option.bind (fn69 F (stepR (fun (s : (List Edge)) (y : Int × Int) => fn16_r1 s y.1 y.2)) goR ([(⟨21, 0, 0, 1, 0⟩ : Instr), (⟨183, 0, 0, 0, 0⟩ : Instr), (⟨149, 0, 0, 0, 0⟩ : Instr)] : List Instr) ((([] : List Edge), 0) : ((List Edge)) × Nat)) fun o109 => (bif Nat.beq o109.2 0 then fn16_k1_0 F o109.1 else none))
def ret16 (r : Bool) : Value := .bool r
set_option maxHeartbeats 8000000 in
theorem c16 (F : Nat)  (w : World) (r : Bool)  (h : fn16 F  = some r) : Ret Try.prog 16 [] w ⟨[], []⟩ (fun v R => v = ret16 r ∧ R = ⟨[], []⟩) := by
 unfold fn16 at h
 refine Ret.of_body Try.func16 rfl Try.ntmps16 rfl (fun _ hx => absurd hx List.not_mem_nil) List.nodup_nil (TC.seq (TC.region (TO.u rfl rfl (TX.assign rfl rfl (TO.nil (TE.thenN rfl rfl (TC.seq (TC.region (TO.u rfl rfl (TX.build Try.zeroValue27 rfl Try.runUnderlying27 (.cons Try.sizeOf5 (.cons Try.sizeOf5 (.cons Try.sizeOf5 (.cons Try.sizeOf25 (.cons Try.sizeOf21 .nil))))) rfl rfl rfl (TO.u rfl rfl (TX.alloc Try.zeroValue27 rfl rfl (fun b1 => (TO.u rfl rfl (TX.store (i := 0) Try.sizeOf27 rfl rfl rfl rfl rfl rfl rfl rfl (TO.nil (TE.thenN rfl rfl (TC.seq (TC.region (TO.u rfl rfl (TX.alloc Try.zeroValue36 rfl rfl (fun b2 => (TO.nil (TE.thenN rfl rfl (TC.seq (TC.seq (TC.region (TO.u rfl rfl (TX.callQ _ Try.call41 rfl (fun a w s => c41 _ _ _ ([] : List Instr) _) rfl ?_)))))))))))))))))))))))))))))
 rintro _ _ ⟨b3, rfl, rfl⟩
 refine TO.reH ⟨[(b3, .cells #[.slice none 0 0] 24), (b2, .cells #[.slice none 0 0] 36), (b1, .cells #[.int .u8 149, .int .u8 0, .int .u8 0, .int .i16 0, .int .i32 0] 27)], []⟩ rfl (TO.u rfl rfl (TX.eqNilF Try.runUnderlying63 rfl rfl rfl (TO.u rfl rfl (TX.move rfl rfl (TO.g rfl rfl rfl rfl (TX.loadN (i := 2) Try.isAgg27 Try.sizeOf27 rfl rfl rfl rfl (TO.g rfl rfl rfl rfl (TX.buildS (N := Instr.E) (ys := ([(⟨149, 0, 0, 0, 0⟩ : Instr)] : List Instr)) Try.runUnderlying24 Try.sizeOf27 Try.zeroValue27 rfl rfl rfl rfl (fillS [.agg #[.int .u8 149, .int .u8 0, .int .u8 0, .int .i16 0, .int .i32 0]] rfl rfl rfl rfl) rfl (fun sp4 Hs6 ho7 => (TO.g rfl rfl rfl rfl (TX.callQ _ Try.call41 rfl (fun a w s => c41 _ _ _ ([(⟨149, 0, 0, 0, 0⟩ : Instr)] : List Instr) _) rfl ?_)))))))))))
 rintro _ _ ⟨b8, rfl, rfl⟩
 refine TO.reH ⟨[(b8, .cells #[.slice sp4 1 1] 24), (b3, .cells #[.slice none 0 0] 24), (b2, .cells #[.slice none 0 0] 36), (b1, .cells #[.int .u8 149, .int .u8 0, .int .u8 0, .int .i16 0, .int .i32 0] 27)], [Hs6]⟩ rfl (TO.g rfl rfl rfl rfl (TX.eqNilF Try.runUnderlying63 rfl rfl rfl (TO.u rfl rfl (TX.pickF rfl rfl rfl (TO.nil (TE.thenN rfl rfl (TC.condF rfl (TC.skip (TE.thenN rfl rfl (TC.seq (TC.seq (TC.region (TO.u rfl rfl (TX.build Try.zeroValue27 rfl Try.runUnderlying27 (.cons Try.sizeOf5 (.cons Try.sizeOf5 (.cons Try.sizeOf5 (.cons Try.sizeOf25 (.cons Try.sizeOf21 .nil))))) rfl rfl rfl (TO.u rfl rfl (TX.build Try.zeroValue27 rfl Try.runUnderlying27 (.cons Try.sizeOf5 (.cons Try.sizeOf5 (.cons Try.sizeOf5 (.cons Try.sizeOf25 (.cons Try.sizeOf21 .nil))))) rfl rfl rfl (TO.u rfl rfl (TX.loadN (i := 3) Try.isAgg27 Try.sizeOf27 rfl rfl rfl rfl (TO.u rfl rfl (TX.buildS (N := Instr.E) (ys := ([(⟨21, 0, 0, 1, 0⟩ : Instr), (⟨183, 0, 0, 0, 0⟩ : Instr), (⟨149, 0, 0, 0, 0⟩ : Instr)] : List Instr)) Try.runUnderlying24 Try.sizeOf27 Try.zeroValue27 rfl rfl rfl rfl (fillS [.agg #[.int .u8 21, .int .u8 0, .int .u8 0, .int .i16 1, .int .i32 0], .agg #[.int .u8 183, .int .u8 0, .int .u8 0, .int .i16 0, .int .i32 0], .agg #[.int .u8 149, .int .u8 0, .int .u8 0, .int .i16 0, .int .i32 0]] rfl rfl rfl rfl) rfl (fun sp9 Hs11 ho12 => (TO.u rfl rfl (TX.callQ _ Try.call41 rfl (fun a w s => c41 _ _ _ ([(⟨21, 0, 0, 1, 0⟩ : Instr), (⟨183, 0, 0, 0, 0⟩ : Instr), (⟨149, 0, 0, 0, 0⟩ : Instr)] : List Instr) _) rfl ?_)))))))))))))))))))))))
 rintro _ _ ⟨b13, rfl, rfl⟩
 refine TO.reH ⟨[(b13, .cells #[.slice sp9 3 3] 24), (b8, .cells #[.slice sp4 1 1] 24), (b3, .cells #[.slice none 0 0] 24), (b2, .cells #[.slice none 0 0] 36), (b1, .cells #[.int .u8 149, .int .u8 0, .int .u8 0, .int .i16 0, .int .i32 0] 27)], [Hs11, Hs6]⟩ rfl (TO.nil (TE.thenN rfl rfl (TC.block ?_)))
 obtain ⟨⟨o109, m110⟩, hl111, h⟩ := bd h
 refine TC.addNil (TC.to (L' := [(0, .bool false), (1, .pointer (some ⟨b1, 0, none⟩)), (2, .pointer (some ⟨b2, 0, none⟩)), (20, .func (.func 69) #[] #[.pointer (some ⟨b13, 0, none⟩)])]) (E' := [(b13, .cells #[.slice sp9 3 3] 24), (b8, .cells #[.slice sp4 1 1] 24), (b3, .cells #[.slice none 0 0] 24), (b2, .cells #[.slice none 0 0] 36), (b1, .cells #[.int .u8 149, .int .u8 0, .int .u8 0, .int .i16 0, .int .i32 0] 27)]) (S' := [[], Hs11, Hs6]) 0 0 ⟨rfl, rfl, rfl, rfl, trivial⟩ rfl rfl (TC.frame [1] rfl (fun za zw0 zs0 => ?_)))
 have zp29 := OwnL.rdf ho12 zs0 (i := 0) rfl
 refine TC.rangeO [21, 22] [0] [] (fun (x64 : (List Edge)) (H' : Hp) => ∃ sp65 n66 cap67 Hs69, OwnL Edge.E 40 sp65 cap67 x64 Hs69 ∧ x64.length = n66 ∧ H' = ⟨[(b8, .cells #[.slice sp4 1 1] 24), (b3, .cells #[.slice none 0 0] 24), (b2, .cells #[.slice sp65 n66 cap67] 36), (b1, .cells #[.int .u8 149, .int .u8 0, .int .u8 0, .int .i16 0, .int .i32 0] 27)], [Hs69, Hs6]⟩) (fun (x : Int × Int) => [.int .i64 x.1, .int .i64 x.2]) (fun (s : (List Edge)) (y : Int × Int) => fn16_r1 s y.1 y.2) ([] : List Edge) o109 m110 Try.call69 rfl rfl (fun _ => rfl) rfl rfl ⟨none, 0, 0, [], (OwnL.nil Edge.E 40), rfl, rfl⟩ (fun zw zv zJ zH zd zx zo zy zj => c69 F (stepR (fun (s : (List Edge)) (y : Int × Int) => fn16_r1 s y.1 y.2)) goR zJ zv ((([] : List Edge), 0) : ((List Edge)) × Nat) zH b13 _ _ _ ([(⟨21, 0, 0, 1, 0⟩ : Instr), (⟨183, 0, 0, 0, 0⟩ : Instr), (⟨149, 0, 0, 0, 0⟩ : Instr)] : List Instr) zw (o109, m110) rfl (OwnL.le_cap ho12) (zp29.tr zx) zo zy zj hl111) ?_ ?_
 · clear h hl111
   intro l74 r75 lr76 w77 R78 x64 y80 s81 m82 H83 Rr84 hst85 h hI13024 hx86 fin87
   obtain ⟨y72, y73⟩ := y80
   obtain ⟨sp65, n66, cap67, Hs69, ho70, hn68, rfl⟩ := hI13024
   replace h := (fn16_r1_s x64 y72 y73).symm.trans h
   have qx88 := zp29.tr hx86
   refine TC.to (L' := [(0, .bool false), (1, .pointer (some ⟨b1, 0, none⟩)), (2, .pointer (some ⟨b2, 0, none⟩)), (20, .func (.func 69) #[] #[.pointer (some ⟨b13, 0, none⟩)]), (21, .int .i64 y72), (22, .int .i64 y73)]) (E' := [(l74, .loop lr76), (r75, .deferred (some [])), (b8, .cells #[.slice sp4 1 1] 24), (b3, .cells #[.slice none 0 0] 24), (b2, .cells #[.slice sp65 n66 cap67] 36), (b1, .cells #[.int .u8 149, .int .u8 0, .int .u8 0, .int .i16 0, .int .i32 0] 27)]) (S' := [Hs69, Hs6]) 0 0 ⟨rfl, rfl, rfl, rfl, rfl, rfl, trivial⟩ rfl rfl (TC.seq (TC.region (TO.u rfl rfl (TX.assign rfl rfl (TO.nil (TE.thenN rfl rfl (TC.region (TO.u rfl rfl (TX.assign rfl rfl (TO.nil (TE.begin (i := 0) rfl (by assumption) rfl ?_)))))))))))
   refine TC.block (TC.region (TO.u rfl rfl (TX.load1 (i := 4) Try.isAgg36 rfl rfl rfl rfl (TO.u rfl rfl (TX.move rfl rfl (TO.u rfl rfl (TX.move rfl rfl (TO.u rfl rfl (TX.build Try.zeroValue40 rfl Try.runUnderlying40 (.cons Try.sizeOf3 (.cons Try.sizeOf3 .nil)) rfl rfl rfl (TO.u rfl rfl (TX.buildS (N := Edge.E) (ys := ([(⟨y72, y73⟩ : Edge)] : List Edge)) Try.runUnderlying36 Try.sizeOf40 Try.zeroValue40 rfl rfl rfl rfl (fillS [.agg #[.int .i64 y72, .int .i64 y73]] rfl rfl rfl rfl) rfl (fun sp89 Hs91 ho92 => ?_))))))))))))
   obtain ⟨hk93, h⟩ := ck h
   refine TO.u rfl rfl (TX.appendS (N := Edge.E) (si := 1) (xs := x64) (ys := ([(⟨y72, y73⟩ : Edge)] : List Edge)) Try.runUnderlying36 Try.typeInfo40 rfl rfl rfl rfl rfl hn68 rfl rfl rfl ho70 (fun a w s => ho92.rd s (i := 0) rfl) hk93 rfl (fun sp94 cap95 Hs96 _ S97 ho98 => ?_))
   cases S97
   refine TO.u rfl rfl (TX.store (i := 4) Try.sizeOf36 rfl rfl rfl rfl rfl rfl rfl rfl (TO.nil (TE.blockN ?_)))
   cases h
   exact TE.to (L' := []) (E' := [(l74, .loop { lr76 with state := .busy }), (r75, .deferred (some [])), (b8, .cells #[.slice sp4 1 1] 24), (b3, .cells #[.slice none 0 0] 24), (b2, .cells #[.slice sp94 ((x64 ++ ([(⟨y72, y73⟩ : Edge)] : List Edge)).length) cap95] 36), (b1, .cells #[.int .u8 149, .int .u8 0, .int .u8 0, .int .i16 0, .int .i32 0] 27)]) (S' := [Hs96, Hs6]) 0 1 trivial rfl rfl (fin87 [] ⟨[(b8, .cells #[.slice sp4 1 1] 24), (b3, .cells #[.slice none 0 0] 24), (b2, .cells #[.slice sp94 ((x64 ++ ([(⟨y72, y73⟩ : Edge)] : List Edge)).length) cap95] 36), (b1, .cells #[.int .u8 149, .int .u8 0, .int .u8 0, .int .i16 0, .int .i32 0] 27)], [Hs96, Hs6]⟩ ⟨sp94, ((x64 ++ ([(⟨y72, y73⟩ : Edge)] : List Edge)).length), cap95, Hs96, ho98, rfl, rfl⟩)
 clear hl111
 intro r108 H13025 hI13026
 obtain ⟨x100, q_⟩ : ∃ z, z = o109 := ⟨_, rfl⟩
 subst q_
 obtain ⟨sp101, n102, cap103, Hs105, ho106, hn104, rfl⟩ := hI13026
 refine TE.unframe zs0 (TE.reH ⟨[(r108, .deferred (some [])), (b13, .cells #[.slice sp9 3 3] 24), (b8, .cells #[.slice sp4 1 1] 24), (b3, .cells #[.slice none 0 0] 24), (b2, .cells #[.slice sp101 n102 cap103] 36), (b1, .cells #[.int .u8 149, .int .u8 0, .int .u8 0, .int .i16 0, .int .i32 0] 27)], [Hs105, Hs6, Hs11]⟩ rfl ?_)
 cases hm13027 : Nat.beq m110 0
 · replace h := ie h hm13027
   cases h
 replace h := it h hm13027
 have q_ := Nat.eq_of_beq_eq_true hm13027
 subst q_
 replace h := (fn16_k1_0_s F x100).symm.trans h
 refine TE.asE (e := .normal) rfl (TE.blockN (TE.thenN rfl rfl (TC.seq (TC.seq (TC.region (TO.u rfl rfl (TX.load1 (i := 4) Try.isAgg36 rfl rfl rfl rfl (TO.u rfl rfl (TX.lenS (xs := x100) Try.runUnderlying36 rfl hn104 rfl (TO.u rfl rfl (TX.ibin rfl rfl rfl rfl (TO.nil (TE.thenN rfl rfl (TC.cond rfl (fun hb112 => ?_) (fun hb112 => ?_)))))))))))))))
 · replace h := it h hb112
   exact TC.seq (TC.region (TO.u rfl rfl (TX.assign rfl rfl (TO.nil (TE.thenN rfl rfl (TC.ret (TE.thenR (TE.fin (R := ⟨[], []⟩) (TL.mark (i := 0) rfl rfl (TL.ret (R' := ⟨[], []⟩) Try.results16 (.cons (.tmp rfl) .nil) (subD 6 3 rfl rfl) ⟨congrArg ret16 (Option.some.inj h), rfl⟩))))))))))
 replace h := ie h hb112
 refine TC.skip (TE.thenN rfl rfl (TC.seq ?_))
 obtain ⟨hk3501, h⟩ := ck h
 obtain ⟨hk6501, h⟩ := ck h
 refine TC.to (L' := [(1, .pointer (some ⟨b1, 0, none⟩)), (2, .pointer (some ⟨b2, 0, none⟩))]) (E' := [(r108, .deferred (some [])), (b13, .cells #[.slice sp9 3 3] 24), (b8, .cells #[.slice sp4 1 1] 24), (b3, .cells #[.slice none 0 0] 24), (b2, .cells #[.slice sp101 n102 cap103] 36), (b1, .cells #[.int .u8 149, .int .u8 0, .int .u8 0, .int .i16 0, .int .i32 0] 27)]) (S' := [Hs105, Hs6, Hs11]) 0 0 ⟨rfl, rfl, trivial⟩ rfl rfl (TC.drawD hmix (fun T11501 hdef11502 => ?_))
 have hS1000_0 : ∀ (b8001 : Nat), ∀ (b9001 : Nat), T11501 0 [true, true, true, true, true, true, true, true, true, true] [(1, .pointer (some ⟨b1, 0, none⟩)), (5, .pointer (some ⟨b8001, 0, none⟩)), (6, .pointer (some ⟨b9001, 0, none⟩))] ⟨[(b9001, .cells #[.int .i64 ((gt x100 1).fFrom), .int .i64 ((gt x100 1).fTo)] 40), (b8001, .cells #[.int .i64 ((gt x100 0).fFrom), .int .i64 ((gt x100 0).fTo)] 40), (r108, .deferred (some [])), (b13, .cells #[.slice sp9 3 3] 24), (b8, .cells #[.slice sp4 1 1] 24), (b3, .cells #[.slice none 0 0] 24), (b2, .cells #[.slice sp101 n102 cap103] 36), (b1, .cells #[.int .u8 149, .int .u8 0, .int .u8 0, .int .i16 0, .int .i32 0] 27)], [Hs105, Hs6, Hs11]⟩ := by
  intro b8001 b9001
  rw [hdef11502]
  refine TD.done rfl rfl (TE.thenN rfl rfl (TC.seq (TC.region (TO.u rfl rfl (TX.fieldAddr' Try.runUnderlying40 rfl Try.sizeOf3 rfl rfl rfl (TO.u rfl rfl (TX.load1 (i := 1) Try.isAgg3 rfl rfl rfl rfl (TO.u rfl rfl (TX.ibin rfl rfl rfl rfl (TO.u rfl rfl (TX.move rfl rfl (TO.cutS 4 [(45, .bool ((((gt x100 0).fFrom) == 0) && (((gt x100 0).fTo) == 1)))] ?_ ?_))))))))))))
  · cases hc13001 : (((gt x100 0).fFrom) == 0)
    · exact TO.s rfl rfl rfl rfl rfl rfl (TO.s rfl rfl rfl rfl rfl rfl (TO.s rfl rfl rfl rfl rfl rfl (TO.u rfl rfl (TX.pickF rfl rfl rfl (TO.nil (TE.cutS 4 rfl rfl ⟨rfl, trivial⟩))))))
    exact TO.g rfl rfl rfl rfl (TX.fieldAddr' Try.runUnderlying40 rfl Try.sizeOf3 rfl rfl rfl (TO.g rfl rfl rfl rfl (TX.load1 (i := 1) Try.isAgg3 rfl rfl rfl rfl (TO.g rfl rfl rfl rfl (TX.ibin rfl rfl rfl rfl (TO.u rfl rfl (TX.pickT rfl rfl rfl (TO.nil (TE.cutS 4 rfl rfl ⟨rfl, trivial⟩)))))))))
  refine TO.u rfl rfl (TX.move rfl rfl (TO.cutS 4 [(50, .bool (((((gt x100 0).fFrom) == 0) && (((gt x100 0).fTo) == 1)) && (((gt x100 1).fFrom) == 0)))] ?_ ?_))
  · cases hc13002 : ((((gt x100 0).fFrom) == 0) && (((gt x100 0).fTo) == 1))
    · exact TO.s rfl rfl rfl rfl rfl rfl (TO.s rfl rfl rfl rfl rfl rfl (TO.s rfl rfl rfl rfl rfl rfl (TO.u rfl rfl (TX.pickF rfl rfl rfl (TO.nil (TE.cutS 4 rfl rfl ⟨rfl, trivial⟩))))))
    exact TO.g rfl rfl rfl rfl (TX.fieldAddr' Try.runUnderlying40 rfl Try.sizeOf3 rfl rfl rfl (TO.g rfl rfl rfl rfl (TX.load1 (i := 0) Try.isAgg3 rfl rfl rfl rfl (TO.g rfl rfl rfl rfl (TX.ibin rfl rfl rfl rfl (TO.u rfl rfl (TX.pickT rfl rfl rfl (TO.nil (TE.cutS 4 rfl rfl ⟨rfl, trivial⟩)))))))))
  refine TO.u rfl rfl (TX.move rfl rfl (TO.cutS 4 [(55, .bool ((((((gt x100 0).fFrom) == 0) && (((gt x100 0).fTo) == 1)) && (((gt x100 1).fFrom) == 0)) && (((gt x100 1).fTo) == 2)))] ?_ ?_))
  · cases hc13003 : (((((gt x100 0).fFrom) == 0) && (((gt x100 0).fTo) == 1)) && (((gt x100 1).fFrom) == 0))
    · exact TO.s rfl rfl rfl rfl rfl rfl (TO.s rfl rfl rfl rfl rfl rfl (TO.s rfl rfl rfl rfl rfl rfl (TO.u rfl rfl (TX.pickF rfl rfl rfl (TO.nil (TE.cutS 4 rfl rfl ⟨rfl, trivial⟩))))))
    exact TO.g rfl rfl rfl rfl (TX.fieldAddr' Try.runUnderlying40 rfl Try.sizeOf3 rfl rfl rfl (TO.g rfl rfl rfl rfl (TX.load1 (i := 0) Try.isAgg3 rfl rfl rfl rfl (TO.g rfl rfl rfl rfl (TX.ibin rfl rfl rfl rfl (TO.u rfl rfl (TX.pickT rfl rfl rfl (TO.nil (TE.cutS 4 rfl rfl ⟨rfl, trivial⟩)))))))))
  refine TO.u rfl rfl (TX.move rfl rfl ?_)
  obtain ⟨v13008, hv13008, h⟩ := bd h
  refine TO.cutS 5 [(61, .bool (((((((gt x100 0).fFrom) == 0) && (((gt x100 0).fTo) == 1)) && (((gt x100 1).fFrom) == 0)) && (((gt x100 1).fTo) == 2)) && v13008))] ?_ ?_
  · cases hc13009 : ((((((gt x100 0).fFrom) == 0) && (((gt x100 0).fTo) == 1)) && (((gt x100 1).fFrom) == 0)) && (((gt x100 1).fTo) == 2))
    · exact TO.s rfl rfl rfl rfl rfl rfl (TO.s rfl rfl rfl rfl rfl rfl (TO.s rfl rfl rfl rfl rfl rfl (TO.s rfl rfl rfl rfl rfl rfl (TO.u rfl rfl (TX.pickF rfl rfl rfl (TO.nil (TE.cutS 5 rfl rfl ⟨rfl, trivial⟩)))))))
    exact TO.g rfl rfl rfl rfl (TX.build Try.zeroValue27 rfl Try.runUnderlying27 (.cons Try.sizeOf5 (.cons Try.sizeOf5 (.cons Try.sizeOf5 (.cons Try.sizeOf25 (.cons Try.sizeOf21 .nil))))) rfl rfl rfl (TO.g rfl rfl rfl rfl (TX.loadN (i := 7) Try.isAgg27 Try.sizeOf27 rfl rfl rfl rfl (TO.g rfl rfl rfl rfl (TX.buildS (N := Instr.E) (ys := ([(⟨21, 0, 0, (-1), 0⟩ : Instr), (⟨149, 0, 0, 0, 0⟩ : Instr)] : List Instr)) Try.runUnderlying24 Try.sizeOf27 Try.zeroValue27 rfl rfl rfl rfl (fillS [.agg #[.int .u8 21, .int .u8 0, .int .u8 0, .int .i16 (-1), .int .i32 0], .agg #[.int .u8 149, .int .u8 0, .int .u8 0, .int .i16 0, .int .i32 0]] rfl rfl rfl rfl) rfl (fun sp13010 Hs13012 ho13013 => (TO.g rfl rfl rfl rfl (TX.callP Try.call23 rfl (fun a w s => c23 F _ _ _ ([(⟨21, 0, 0, (-1), 0⟩ : Instr), (⟨149, 0, 0, 0, 0⟩ : Instr)] : List Instr) _ _ rfl ho13013.le_cap (ho13013.rdf0 s (i := 0) rfl) (it hv13008 hc13009)) rfl (TO.u rfl rfl (TX.pickT rfl rfl rfl (TO.nil (TE.drop 0 1 rfl rfl (TE.cutS 5 rfl rfl ⟨rfl, trivial⟩)))))))))))))
  refine TO.u rfl rfl (TX.move rfl rfl ?_)
  obtain ⟨v13018, hv13018, h⟩ := bd h
  refine TO.cutS 6 [(68, .bool ((((((((gt x100 0).fFrom) == 0) && (((gt x100 0).fTo) == 1)) && (((gt x100 1).fFrom) == 0)) && (((gt x100 1).fTo) == 2)) && v13008) && (!v13018)))] ?_ ?_
  · cases hc13019 : (((((((gt x100 0).fFrom) == 0) && (((gt x100 0).fTo) == 1)) && (((gt x100 1).fFrom) == 0)) && (((gt x100 1).fTo) == 2)) && v13008)
    · exact TO.s rfl rfl rfl rfl rfl rfl (TO.s rfl rfl rfl rfl rfl rfl (TO.s rfl rfl rfl rfl rfl rfl (TO.s rfl rfl rfl rfl rfl rfl (TO.s rfl rfl rfl rfl rfl rfl (TO.u rfl rfl (TX.pickF rfl rfl rfl (TO.nil (TE.cutS 6 rfl rfl ⟨rfl, trivial⟩))))))))
    exact TO.g rfl rfl rfl rfl (TX.loadN (i := 7) Try.isAgg27 Try.sizeOf27 rfl rfl rfl rfl (TO.g rfl rfl rfl rfl (TX.build Try.zeroValue27 rfl Try.runUnderlying27 (.cons Try.sizeOf5 (.cons Try.sizeOf5 (.cons Try.sizeOf5 (.cons Try.sizeOf25 (.cons Try.sizeOf21 .nil))))) rfl rfl rfl (TO.g rfl rfl rfl rfl (TX.buildS (N := Instr.E) (ys := ([(⟨149, 0, 0, 0, 0⟩ : Instr), (⟨5, 0, 0, (-1), 0⟩ : Instr)] : List Instr)) Try.runUnderlying24 Try.sizeOf27 Try.zeroValue27 rfl rfl rfl rfl (fillS [.agg #[.int .u8 149, .int .u8 0, .int .u8 0, .int .i16 0, .int .i32 0], .agg #[.int .u8 5, .int .u8 0, .int .u8 0, .int .i16 (-1), .int .i32 0]] rfl rfl rfl rfl) rfl (fun sp13020 Hs13022 ho13023 => (TO.g rfl rfl rfl rfl (TX.callP Try.call23 rfl (fun a w s => c23 F _ _ _ ([(⟨149, 0, 0, 0, 0⟩ : Instr), (⟨5, 0, 0, (-1), 0⟩ : Instr)] : List Instr) _ _ rfl ho13023.le_cap (ho13023.rdf0 s (i := 0) rfl) (it hv13018 hc13019)) rfl (TO.g rfl rfl rfl rfl (TX.not rfl rfl (TO.u rfl rfl (TX.pickT rfl rfl rfl (TO.nil (TE.drop 0 1 rfl rfl (TE.cutS 6 rfl rfl ⟨rfl, trivial⟩)))))))))))))))
  exact TO.u rfl rfl (TX.assign rfl rfl (TO.nil (TE.thenN rfl rfl (TC.ret (TE.fin (R := ⟨[], []⟩) (TL.mark (i := 2) rfl rfl (TL.ret (R' := ⟨[], []⟩) Try.results16 (.cons (.tmp rfl) .nil) (subD 8 3 rfl rfl) ⟨congrArg ret16 (Option.some.inj h), rfl⟩)))))))
 have hS1000_1 : ∀ (b8001 : Nat), ∀ (b9001 : Nat), T11501 1 [true, true, true, true, true, true, true, true, true, false] [(1, .pointer (some ⟨b1, 0, none⟩)), (5, .pointer (some ⟨b8001, 0, none⟩)), (6, .pointer (some ⟨b9001, 0, none⟩)), (37, .agg #[.int .i64 ((gt x100 1).fFrom), .int .i64 ((gt x100 1).fTo)])] ⟨[(b9001, .cells #[.int .i64 0, .int .i64 0] 40), (b8001, .cells #[.int .i64 ((gt x100 0).fFrom), .int .i64 ((gt x100 0).fTo)] 40), (r108, .deferred (some [])), (b13, .cells #[.slice sp9 3 3] 24), (b8, .cells #[.slice sp4 1 1] 24), (b3, .cells #[.slice none 0 0] 24), (b2, .cells #[.slice sp101 n102 cap103] 36), (b1, .cells #[.int .u8 149, .int .u8 0, .int .u8 0, .int .i16 0, .int .i32 0] 27)], [Hs105, Hs6, Hs11]⟩ := by
  intro b8001 b9001
  rw [hdef11502]
  refine TD.step [9] 9 rfl rfl rfl rfl rfl (EdgeOk.cons rfl ?_ ?_)
  · exact TO.u rfl rfl (TX.store (i := 0) Try.sizeOf40 rfl rfl rfl rfl rfl rfl rfl rfl (TO.nil (TE.toh (TE.td ((hdef11502 _ _ _ _).mp (hS1000_0 b8001 b9001))) 0 0 ⟨rfl, rfl, rfl, trivial⟩ rfl rfl)))
  exact EdgeOk.nil
 have hS1000_2 : ∀ (b8001 : Nat), ∀ (b9001 : Nat), T11501 2 [true, true, true, true, true, true, true, true, false, false] [(1, .pointer (some ⟨b1, 0, none⟩)), (5, .pointer (some ⟨b8001, 0, none⟩)), (6, .pointer (some ⟨b9001, 0, none⟩)), (34, .agg #[.int .i64 ((gt x100 0).fFrom), .int .i64 ((gt x100 0).fTo)]), (37, .agg #[.int .i64 ((gt x100 1).fFrom), .int .i64 ((gt x100 1).fTo)])] ⟨[(b9001, .cells #[.int .i64 0, .int .i64 0] 40), (b8001, .cells #[.int .i64 0, .int .i64 0] 40), (r108, .deferred (some [])), (b13, .cells #[.slice sp9 3 3] 24), (b8, .cells #[.slice sp4 1 1] 24), (b3, .cells #[.slice none 0 0] 24), (b2, .cells #[.slice sp101 n102 cap103] 36), (b1, .cells #[.int .u8 149, .int .u8 0, .int .u8 0, .int .i16 0, .int .i32 0] 27)], [Hs105, Hs6, Hs11]⟩ := by
  intro b8001 b9001
  rw [hdef11502]
  refine TD.step [8] 8 rfl rfl rfl rfl rfl (EdgeOk.cons rfl ?_ ?_)
  · exact TO.u rfl rfl (TX.store (i := 1) Try.sizeOf40 rfl rfl rfl rfl rfl rfl rfl rfl (TO.nil (TE.toh (TE.td ((hdef11502 _ _ _ _).mp (hS1000_1 b8001 b9001))) 0 0 ⟨rfl, rfl, rfl, rfl, trivial⟩ rfl rfl)))
  exact EdgeOk.nil
 have hS1000_3 : ∀ (b8001 : Nat), ∀ (b9001 : Nat), T11501 2 [true, true, true, true, true, false, true, true, true, false] [(1, .pointer (some ⟨b1, 0, none⟩)), (5, .pointer (some ⟨b8001, 0, none⟩)), (6, .pointer (some ⟨b9001, 0, none⟩)), (36, .pointer (some (eAddr sp101 ((1 : Int).toNat * Edge.E.sz + 0))))] ⟨[(b9001, .cells #[.int .i64 0, .int .i64 0] 40), (b8001, .cells #[.int .i64 ((gt x100 0).fFrom), .int .i64 ((gt x100 0).fTo)] 40), (r108, .deferred (some [])), (b13, .cells #[.slice sp9 3 3] 24), (b8, .cells #[.slice sp4 1 1] 24), (b3, .cells #[.slice none 0 0] 24), (b2, .cells #[.slice sp101 n102 cap103] 36), (b1, .cells #[.int .u8 149, .int .u8 0, .int .u8 0, .int .i16 0, .int .i32 0] 27)], [Hs105, Hs6, Hs11]⟩ := by
  intro b8001 b9001
  rw [hdef11502]
  refine TD.step [5] 5 rfl rfl rfl rfl rfl (EdgeOk.cons rfl ?_ ?_)
  · exact TO.u rfl rfl (TX.loadRN (N := Edge.E) Try.isAgg40 Try.sizeOf40 rfl (fun a w s => ho106.rd s (i := 0) rfl) hk6501 rfl rfl (TO.nil (TE.toh (TE.td ((hdef11502 _ _ _ _).mp (hS1000_1 b8001 b9001))) 0 0 ⟨rfl, rfl, rfl, rfl, trivial⟩ rfl rfl)))
  exact EdgeOk.nil
 have hS1000_4 : ∀ (b8001 : Nat), T11501 3 [true, true, true, true, true, true, true, false, false, false] [(1, .pointer (some ⟨b1, 0, none⟩)), (5, .pointer (some ⟨b8001, 0, none⟩)), (34, .agg #[.int .i64 ((gt x100 0).fFrom), .int .i64 ((gt x100 0).fTo)]), (37, .agg #[.int .i64 ((gt x100 1).fFrom), .int .i64 ((gt x100 1).fTo)])] ⟨[(b8001, .cells #[.int .i64 0, .int .i64 0] 40), (r108, .deferred (some [])), (b13, .cells #[.slice sp9 3 3] 24), (b8, .cells #[.slice sp4 1 1] 24), (b3, .cells #[.slice none 0 0] 24), (b2, .cells #[.slice sp101 n102 cap103] 36), (b1, .cells #[.int .u8 149, .int .u8 0, .int .u8 0, .int .i16 0, .int .i32 0] 27)], [Hs105, Hs6, Hs11]⟩ := by
  intro b8001
  rw [hdef11502]
  refine TD.step [7] 7 rfl rfl rfl rfl rfl (EdgeOk.cons rfl ?_ ?_)
  · exact TO.u rfl rfl (TX.alloc Try.zeroValue40 rfl rfl (fun b9001 => (TO.nil (TE.toh (TE.td ((hdef11502 _ _ _ _).mp (hS1000_2 b8001 b9001))) 0 0 ⟨rfl, rfl, rfl, rfl, rfl, trivial⟩ rfl rfl))))
  exact EdgeOk.nil
 have hS1000_5 : ∀ (b9001 : Nat), T11501 3 [true, true, true, true, true, true, false, true, false, false] [(1, .pointer (some ⟨b1, 0, none⟩)), (6, .pointer (some ⟨b9001, 0, none⟩)), (34, .agg #[.int .i64 ((gt x100 0).fFrom), .int .i64 ((gt x100 0).fTo)]), (37, .agg #[.int .i64 ((gt x100 1).fFrom), .int .i64 ((gt x100 1).fTo)])] ⟨[(b9001, .cells #[.int .i64 0, .int .i64 0] 40), (r108, .deferred (some [])), (b13, .cells #[.slice sp9 3 3] 24), (b8, .cells #[.slice sp4 1 1] 24), (b3, .cells #[.slice none 0 0] 24), (b2, .cells #[.slice sp101 n102 cap103] 36), (b1, .cells #[.int .u8 149, .int .u8 0, .int .u8 0, .int .i16 0, .int .i32 0] 27)], [Hs105, Hs6, Hs11]⟩ := by
  intro b9001
  rw [hdef11502]
  refine TD.step [6] 6 rfl rfl rfl rfl rfl (EdgeOk.cons rfl ?_ ?_)
  · exact TO.u rfl rfl (TX.alloc Try.zeroValue40 rfl rfl (fun b8001 => (TO.nil (TE.mvE 1 0 rfl rfl (TE.toh (TE.td ((hdef11502 _ _ _ _).mp (hS1000_2 b8001 b9001))) 0 0 ⟨rfl, rfl, rfl, rfl, rfl, trivial⟩ rfl rfl)))))
  exact EdgeOk.nil
 have hS1000_6 : ∀ (b8001 : Nat), ∀ (b9001 : Nat), T11501 3 [true, true, true, true, true, false, true, true, false, false] [(1, .pointer (some ⟨b1, 0, none⟩)), (5, .pointer (some ⟨b8001, 0, none⟩)), (6, .pointer (some ⟨b9001, 0, none⟩)), (34, .agg #[.int .i64 ((gt x100 0).fFrom), .int .i64 ((gt x100 0).fTo)]), (36, .pointer (some (eAddr sp101 ((1 : Int).toNat * Edge.E.sz + 0))))] ⟨[(b9001, .cells #[.int .i64 0, .int .i64 0] 40), (b8001, .cells #[.int .i64 0, .int .i64 0] 40), (r108, .deferred (some [])), (b13, .cells #[.slice sp9 3 3] 24), (b8, .cells #[.slice sp4 1 1] 24), (b3, .cells #[.slice none 0 0] 24), (b2, .cells #[.slice sp101 n102 cap103] 36), (b1, .cells #[.int .u8 149, .int .u8 0, .int .u8 0, .int .i16 0, .int .i32 0] 27)], [Hs105, Hs6, Hs11]⟩ := by
  intro b8001 b9001
  rw [hdef11502]
  refine TD.step [5, 8] 5 rfl rfl rfl rfl rfl (EdgeOk.cons rfl ?_ ?_)
  · exact TO.u rfl rfl (TX.loadRN (N := Edge.E) Try.isAgg40 Try.sizeOf40 rfl (fun a w s => ho106.rd s (i := 0) rfl) hk6501 rfl rfl (TO.nil (TE.toh (TE.td ((hdef11502 _ _ _ _).mp (hS1000_2 b8001 b9001))) 0 0 ⟨rfl, rfl, rfl, rfl, rfl, trivial⟩ rfl rfl)))
  refine EdgeOk.cons rfl ?_ ?_
  · exact TO.u rfl rfl (TX.store (i := 1) Try.sizeOf40 rfl rfl rfl rfl rfl rfl rfl rfl (TO.nil (TE.toh (TE.td ((hdef11502 _ _ _ _).mp (hS1000_3 b8001 b9001))) 0 0 ⟨rfl, rfl, rfl, rfl, trivial⟩ rfl rfl)))
  exact EdgeOk.nil
 have hS1000_7 : ∀ (b8001 : Nat), ∀ (b9001 : Nat), T11501 3 [true, true, true, true, false, false, true, true, true, false] [(1, .pointer (some ⟨b1, 0, none⟩)), (5, .pointer (some ⟨b8001, 0, none⟩)), (6, .pointer (some ⟨b9001, 0, none⟩)), (35, .slice sp101 n102 cap103)] ⟨[(b9001, .cells #[.int .i64 0, .int .i64 0] 40), (b8001, .cells #[.int .i64 ((gt x100 0).fFrom), .int .i64 ((gt x100 0).fTo)] 40), (r108, .deferred (some [])), (b13, .cells #[.slice sp9 3 3] 24), (b8, .cells #[.slice sp4 1 1] 24), (b3, .cells #[.slice none 0 0] 24), (b2, .cells #[.slice sp101 n102 cap103] 36), (b1, .cells #[.int .u8 149, .int .u8 0, .int .u8 0, .int .i16 0, .int .i32 0] 27)], [Hs105, Hs6, Hs11]⟩ := by
  intro b8001 b9001
  rw [hdef11502]
  refine TD.step [4] 4 rfl rfl rfl rfl rfl (EdgeOk.cons rfl ?_ ?_)
  · exact TO.u rfl rfl (TX.indexR (N := Edge.E) Try.runUnderlying36 Try.sizeOf40 rfl hn104 rfl (fun a w s => ho106.rd s (i := 0) rfl) hk6501 rfl (TO.nil (TE.toh (TE.td ((hdef11502 _ _ _ _).mp (hS1000_3 b8001 b9001))) 0 0 ⟨rfl, rfl, rfl, rfl, trivial⟩ rfl rfl)))
  exact EdgeOk.nil
 have hS1000_8 : ∀ (b8001 : Nat), ∀ (b9001 : Nat), T11501 3 [true, true, false, true, true, true, true, true, false, false] [(1, .pointer (some ⟨b1, 0, none⟩)), (5, .pointer (some ⟨b8001, 0, none⟩)), (6, .pointer (some ⟨b9001, 0, none⟩)), (33, .pointer (some (eAddr sp101 ((0 : Int).toNat * Edge.E.sz + 0)))), (37, .agg #[.int .i64 ((gt x100 1).fFrom), .int .i64 ((gt x100 1).fTo)])] ⟨[(b9001, .cells #[.int .i64 0, .int .i64 0] 40), (b8001, .cells #[.int .i64 0, .int .i64 0] 40), (r108, .deferred (some [])), (b13, .cells #[.slice sp9 3 3] 24), (b8, .cells #[.slice sp4 1 1] 24), (b3, .cells #[.slice none 0 0] 24), (b2, .cells #[.slice sp101 n102 cap103] 36), (b1, .cells #[.int .u8 149, .int .u8 0, .int .u8 0, .int .i16 0, .int .i32 0] 27)], [Hs105, Hs6, Hs11]⟩ := by
  intro b8001 b9001
  rw [hdef11502]
  refine TD.step [2] 2 rfl rfl rfl rfl rfl (EdgeOk.cons rfl ?_ ?_)
  · exact TO.u rfl rfl (TX.loadRN (N := Edge.E) Try.isAgg40 Try.sizeOf40 rfl (fun a w s => ho106.rd s (i := 0) rfl) hk3501 rfl rfl (TO.nil (TE.toh (TE.td ((hdef11502 _ _ _ _).mp (hS1000_2 b8001 b9001))) 0 0 ⟨rfl, rfl, rfl, rfl, rfl, trivial⟩ rfl rfl)))
  exact EdgeOk.nil
 have hS1000_9 : T11501 4 [true, true, true, true, true, true, false, false, false, false] [(1, .pointer (some ⟨b1, 0, none⟩)), (34, .agg #[.int .i64 ((gt x100 0).fFrom), .int .i64 ((gt x100 0).fTo)]), (37, .agg #[.int .i64 ((gt x100 1).fFrom), .int .i64 ((gt x100 1).fTo)])] ⟨[(r108, .deferred (some [])), (b13, .cells #[.slice sp9 3 3] 24), (b8, .cells #[.slice sp4 1 1] 24), (b3, .cells #[.slice none 0 0] 24), (b2, .cells #[.slice sp101 n102 cap103] 36), (b1, .cells #[.int .u8 149, .int .u8 0, .int .u8 0, .int .i16 0, .int .i32 0] 27)], [Hs105, Hs6, Hs11]⟩ := by
  rw [hdef11502]
  refine TD.step [6, 7] 6 rfl rfl rfl rfl rfl (EdgeOk.cons rfl ?_ ?_)
  · exact TO.u rfl rfl (TX.alloc Try.zeroValue40 rfl rfl (fun b8001 => (TO.nil (TE.toh (TE.td ((hdef11502 _ _ _ _).mp (hS1000_4 b8001))) 0 0 ⟨rfl, rfl, rfl, rfl, trivial⟩ rfl rfl))))
  refine EdgeOk.cons rfl ?_ ?_
  · exact TO.u rfl rfl (TX.alloc Try.zeroValue40 rfl rfl (fun b9001 => (TO.nil (TE.toh (TE.td ((hdef11502 _ _ _ _).mp (hS1000_5 b9001))) 0 0 ⟨rfl, rfl, rfl, rfl, trivial⟩ rfl rfl))))
  exact EdgeOk.nil
 have hS1000_10 : ∀ (b8001 : Nat), T11501 4 [true, true, true, true, true, false, true, false, false, false] [(1, .pointer (some ⟨b1, 0, none⟩)), (5, .pointer (some ⟨b8001, 0, none⟩)), (34, .agg #[.int .i64 ((gt x100 0).fFrom), .int .i64 ((gt x100 0).fTo)]), (36, .pointer (some (eAddr sp101 ((1 : Int).toNat * Edge.E.sz + 0))))] ⟨[(b8001, .cells #[.int .i64 0, .int .i64 0] 40), (r108, .deferred (some [])), (b13, .cells #[.slice sp9 3 3] 24), (b8, .cells #[.slice sp4 1 1] 24), (b3, .cells #[.slice none 0 0] 24), (b2, .cells #[.slice sp101 n102 cap103] 36), (b1, .cells #[.int .u8 149, .int .u8 0, .int .u8 0, .int .i16 0, .int .i32 0] 27)], [Hs105, Hs6, Hs11]⟩ := by
  intro b8001
  rw [hdef11502]
  refine TD.step [5, 7] 5 rfl rfl rfl rfl rfl (EdgeOk.cons rfl ?_ ?_)
  · exact TO.u rfl rfl (TX.loadRN (N := Edge.E) Try.isAgg40 Try.sizeOf40 rfl (fun a w s => ho106.rd s (i := 0) rfl) hk6501 rfl rfl (TO.nil (TE.toh (TE.td ((hdef11502 _ _ _ _).mp (hS1000_4 b8001))) 0 0 ⟨rfl, rfl, rfl, rfl, trivial⟩ rfl rfl)))
  refine EdgeOk.cons rfl ?_ ?_
  · exact TO.u rfl rfl (TX.alloc Try.zeroValue40 rfl rfl (fun b9001 => (TO.nil (TE.toh (TE.td ((hdef11502 _ _ _ _).mp (hS1000_6 b8001 b9001))) 0 0 ⟨rfl, rfl, rfl, rfl, rfl, trivial⟩ rfl rfl))))
  exact EdgeOk.nil
 have hS1000_11 : ∀ (b9001 : Nat), T11501 4 [true, true, true, true, true, false, false, true, false, false] [(1, .pointer (some ⟨b1, 0, none⟩)), (6, .pointer (some ⟨b9001, 0, none⟩)), (34, .agg #[.int .i64 ((gt x100 0).fFrom), .int .i64 ((gt x100 0).fTo)]), (36, .pointer (some (eAddr sp101 ((1 : Int).toNat * Edge.E.sz + 0))))] ⟨[(b9001, .cells #[.int .i64 0, .int .i64 0] 40), (r108, .deferred (some [])), (b13, .cells #[.slice sp9 3 3] 24), (b8, .cells #[.slice sp4 1 1] 24), (b3, .cells #[.slice none 0 0] 24), (b2, .cells #[.slice sp101 n102 cap103] 36), (b1, .cells #[.int .u8 149, .int .u8 0, .int .u8 0, .int .i16 0, .int .i32 0] 27)], [Hs105, Hs6, Hs11]⟩ := by
  intro b9001
  rw [hdef11502]
  refine TD.step [5, 6] 5 rfl rfl rfl rfl rfl (EdgeOk.cons rfl ?_ ?_)
  · exact TO.u rfl rfl (TX.loadRN (N := Edge.E) Try.isAgg40 Try.sizeOf40 rfl (fun a w s => ho106.rd s (i := 0) rfl) hk6501 rfl rfl (TO.nil (TE.toh (TE.td ((hdef11502 _ _ _ _).mp (hS1000_5 b9001))) 0 0 ⟨rfl, rfl, rfl, rfl, trivial⟩ rfl rfl)))
  refine EdgeOk.cons rfl ?_ ?_
  · exact TO.u rfl rfl (TX.alloc Try.zeroValue40 rfl rfl (fun b8001 => (TO.nil (TE.mvE 1 0 rfl rfl (TE.toh (TE.td ((hdef11502 _ _ _ _).mp (hS1000_6 b8001 b9001))) 0 0 ⟨rfl, rfl, rfl, rfl, rfl, trivial⟩ rfl rfl)))))
  exact EdgeOk.nil
 have hS1000_12 : ∀ (b8001 : Nat), ∀ (b9001 : Nat), T11501 4 [true, true, true, true, false, false, true, true, false, false] [(1, .pointer (some ⟨b1, 0, none⟩)), (5, .pointer (some ⟨b8001, 0, none⟩)), (6, .pointer (some ⟨b9001, 0, none⟩)), (34, .agg #[.int .i64 ((gt x100 0).fFrom), .int .i64 ((gt x100 0).fTo)]), (35, .slice sp101 n102 cap103)] ⟨[(b9001, .cells #[.int .i64 0, .int .i64 0] 40), (b8001, .cells #[.int .i64 0, .int .i64 0] 40), (r108, .deferred (some [])), (b13, .cells #[.slice sp9 3 3] 24), (b8, .cells #[.slice sp4 1 1] 24), (b3, .cells #[.slice none 0 0] 24), (b2, .cells #[.slice sp101 n102 cap103] 36), (b1, .cells #[.int .u8 149, .int .u8 0, .int .u8 0, .int .i16 0, .int .i32 0] 27)], [Hs105, Hs6, Hs11]⟩ := by
  intro b8001 b9001
  rw [hdef11502]
  refine TD.step [4, 8] 4 rfl rfl rfl rfl rfl (EdgeOk.cons rfl ?_ ?_)
  · exact TO.u rfl rfl (TX.indexR (N := Edge.E) Try.runUnderlying36 Try.sizeOf40 rfl hn104 rfl (fun a w s => ho106.rd s (i := 0) rfl) hk6501 rfl (TO.nil (TE.toh (TE.td ((hdef11502 _ _ _ _).mp (hS1000_6 b8001 b9001))) 0 0 ⟨rfl, rfl, rfl, rfl, rfl, trivial⟩ rfl rfl)))
  refine EdgeOk.cons rfl ?_ ?_
  · exact TO.u rfl rfl (TX.store (i := 1) Try.sizeOf40 rfl rfl rfl rfl rfl rfl rfl rfl (TO.nil (TE.toh (TE.td ((hdef11502 _ _ _ _).mp (hS1000_7 b8001 b9001))) 0 0 ⟨rfl, rfl, rfl, rfl, trivial⟩ rfl rfl)))
  exact EdgeOk.nil
 have hS1000_13 : ∀ (b8001 : Nat), ∀ (b9001 : Nat), T11501 4 [true, true, true, false, false, false, true, true, true, false] [(1, .pointer (some ⟨b1, 0, none⟩)), (2, .pointer (some ⟨b2, 0, none⟩)), (5, .pointer (some ⟨b8001, 0, none⟩)), (6, .pointer (some ⟨b9001, 0, none⟩))] ⟨[(b9001, .cells #[.int .i64 0, .int .i64 0] 40), (b8001, .cells #[.int .i64 ((gt x100 0).fFrom), .int .i64 ((gt x100 0).fTo)] 40), (r108, .deferred (some [])), (b13, .cells #[.slice sp9 3 3] 24), (b8, .cells #[.slice sp4 1 1] 24), (b3, .cells #[.slice none 0 0] 24), (b2, .cells #[.slice sp101 n102 cap103] 36), (b1, .cells #[.int .u8 149, .int .u8 0, .int .u8 0, .int .i16 0, .int .i32 0] 27)], [Hs105, Hs6, Hs11]⟩ := by
  intro b8001 b9001
  rw [hdef11502]
  refine TD.step [3] 3 rfl rfl rfl rfl rfl (EdgeOk.cons rfl ?_ ?_)
  · exact TO.u rfl rfl (TX.load1 (i := 6) Try.isAgg36 rfl rfl rfl rfl (TO.nil (TE.toh (TE.td ((hdef11502 _ _ _ _).mp (hS1000_7 b8001 b9001))) 0 0 ⟨rfl, rfl, rfl, rfl, trivial⟩ rfl rfl)))
  exact EdgeOk.nil
 have hS1000_14 : ∀ (b8001 : Nat), T11501 4 [true, true, false, true, true, true, true, false, false, false] [(1, .pointer (some ⟨b1, 0, none⟩)), (5, .pointer (some ⟨b8001, 0, none⟩)), (33, .pointer (some (eAddr sp101 ((0 : Int).toNat * Edge.E.sz + 0)))), (37, .agg #[.int .i64 ((gt x100 1).fFrom), .int .i64 ((gt x100 1).fTo)])] ⟨[(b8001, .cells #[.int .i64 0, .int .i64 0] 40), (r108, .deferred (some [])), (b13, .cells #[.slice sp9 3 3] 24), (b8, .cells #[.slice sp4 1 1] 24), (b3, .cells #[.slice none 0 0] 24), (b2, .cells #[.slice sp101 n102 cap103] 36), (b1, .cells #[.int .u8 149, .int .u8 0, .int .u8 0, .int .i16 0, .int .i32 0] 27)], [Hs105, Hs6, Hs11]⟩ := by
  intro b8001
  rw [hdef11502]
  refine TD.step [2, 7] 2 rfl rfl rfl rfl rfl (EdgeOk.cons rfl ?_ ?_)
  · exact TO.u rfl rfl (TX.loadRN (N := Edge.E) Try.isAgg40 Try.sizeOf40 rfl (fun a w s => ho106.rd s (i := 0) rfl) hk3501 rfl rfl (TO.nil (TE.toh (TE.td ((hdef11502 _ _ _ _).mp (hS1000_4 b8001))) 0 0 ⟨rfl, rfl, rfl, rfl, trivial⟩ rfl rfl)))
  refine EdgeOk.cons rfl ?_ ?_
  · exact TO.u rfl rfl (TX.alloc Try.zeroValue40 rfl rfl (fun b9001 => (TO.nil (TE.toh (TE.td ((hdef11502 _ _ _ _).mp (hS1000_8 b8001 b9001))) 0 0 ⟨rfl, rfl, rfl, rfl, rfl, trivial⟩ rfl rfl))))
  exact EdgeOk.nil
 have hS1000_15 : ∀ (b9001 : Nat), T11501 4 [true, true, false, true, true, true, false, true, false, false] [(1, .pointer (some ⟨b1, 0, none⟩)), (6, .pointer (some ⟨b9001, 0, none⟩)), (33, .pointer (some (eAddr sp101 ((0 : Int).toNat * Edge.E.sz + 0)))), (37, .agg #[.int .i64 ((gt x100 1).fFrom), .int .i64 ((gt x100 1).fTo)])] ⟨[(b9001, .cells #[.int .i64 0, .int .i64 0] 40), (r108, .deferred (some [])), (b13, .cells #[.slice sp9 3 3] 24), (b8, .cells #[.slice sp4 1 1] 24), (b3, .cells #[.slice none 0 0] 24), (b2, .cells #[.slice sp101 n102 cap103] 36), (b1, .cells #[.int .u8 149, .int .u8 0, .int .u8 0, .int .i16 0, .int .i32 0] 27)], [Hs105, Hs6, Hs11]⟩ := by
  intro b9001
  rw [hdef11502]
  refine TD.step [2, 6] 2 rfl rfl rfl rfl rfl (EdgeOk.cons rfl ?_ ?_)
  · exact TO.u rfl rfl (TX.loadRN (N := Edge.E) Try.isAgg40 Try.sizeOf40 rfl (fun a w s => ho106.rd s (i := 0) rfl) hk3501 rfl rfl (TO.nil (TE.toh (TE.td ((hdef11502 _ _ _ _).mp (hS1000_5 b9001))) 0 0 ⟨rfl, rfl, rfl, rfl, trivial⟩ rfl rfl)))
  refine EdgeOk.cons rfl ?_ ?_
  · exact TO.u rfl rfl (TX.alloc Try.zeroValue40 rfl rfl (fun b8001 => (TO.nil (TE.mvE 1 0 rfl rfl (TE.toh (TE.td ((hdef11502 _ _ _ _).mp (hS1000_8 b8001 b9001))) 0 0 ⟨rfl, rfl, rfl, rfl, rfl, trivial⟩ rfl rfl)))))
  exact EdgeOk.nil
 have hS1000_16 : ∀ (b8001 : Nat), ∀ (b9001 : Nat), T11501 4 [true, true, false, true, true, false, true, true, false, false] [(1, .pointer (some ⟨b1, 0, none⟩)), (5, .pointer (some ⟨b8001, 0, none⟩)), (6, .pointer (some ⟨b9001, 0, none⟩)), (33, .pointer (some (eAddr sp101 ((0 : Int).toNat * Edge.E.sz + 0)))), (36, .pointer (some (eAddr sp101 ((1 : Int).toNat * Edge.E.sz + 0))))] ⟨[(b9001, .cells #[.int .i64 0, .int .i64 0] 40), (b8001, .cells #[.int .i64 0, .int .i64 0] 40), (r108, .deferred (some [])), (b13, .cells #[.slice sp9 3 3] 24), (b8, .cells #[.slice sp4 1 1] 24), (b3, .cells #[.slice none 0 0] 24), (b2, .cells #[.slice sp101 n102 cap103] 36), (b1, .cells #[.int .u8 149, .int .u8 0, .int .u8 0, .int .i16 0, .int .i32 0] 27)], [Hs105, Hs6, Hs11]⟩ := by
  intro b8001 b9001
  rw [hdef11502]
  refine TD.step [2, 5] 2 rfl rfl rfl rfl rfl (EdgeOk.cons rfl ?_ ?_)
  · exact TO.u rfl rfl (TX.loadRN (N := Edge.E) Try.isAgg40 Try.sizeOf40 rfl (fun a w s => ho106.rd s (i := 0) rfl) hk3501 rfl rfl (TO.nil (TE.toh (TE.td ((hdef11502 _ _ _ _).mp (hS1000_6 b8001 b9001))) 0 0 ⟨rfl, rfl, rfl, rfl, rfl, trivial⟩ rfl rfl)))
  refine EdgeOk.cons rfl ?_ ?_
  · exact TO.u rfl rfl (TX.loadRN (N := Edge.E) Try.isAgg40 Try.sizeOf40 rfl (fun a w s => ho106.rd s (i := 0) rfl) hk6501 rfl rfl (TO.nil (TE.toh (TE.td ((hdef11502 _ _ _ _).mp (hS1000_8 b8001 b9001))) 0 0 ⟨rfl, rfl, rfl, rfl, rfl, trivial⟩ rfl rfl)))
  exact EdgeOk.nil
 have hS1000_17 : ∀ (b8001 : Nat), ∀ (b9001 : Nat), T11501 4 [true, false, false, true, true, true, true, true, false, false] [(1, .pointer (some ⟨b1, 0, none⟩)), (5, .pointer (some ⟨b8001, 0, none⟩)), (6, .pointer (some ⟨b9001, 0, none⟩)), (32, .slice sp101 n102 cap103), (37, .agg #[.int .i64 ((gt x100 1).fFrom), .int .i64 ((gt x100 1).fTo)])] ⟨[(b9001, .cells #[.int .i64 0, .int .i64 0] 40), (b8001, .cells #[.int .i64 0, .int .i64 0] 40), (r108, .deferred (some [])), (b13, .cells #[.slice sp9 3 3] 24), (b8, .cells #[.slice sp4 1 1] 24), (b3, .cells #[.slice none 0 0] 24), (b2, .cells #[.slice sp101 n102 cap103] 36), (b1, .cells #[.int .u8 149, .int .u8 0, .int .u8 0, .int .i16 0, .int .i32 0] 27)], [Hs105, Hs6, Hs11]⟩ := by
  intro b8001 b9001
  rw [hdef11502]
  refine TD.step [1] 1 rfl rfl rfl rfl rfl (EdgeOk.cons rfl ?_ ?_)
  · exact TO.u rfl rfl (TX.indexR (N := Edge.E) Try.runUnderlying36 Try.sizeOf40 rfl hn104 rfl (fun a w s => ho106.rd s (i := 0) rfl) hk3501 rfl (TO.nil (TE.toh (TE.td ((hdef11502 _ _ _ _).mp (hS1000_8 b8001 b9001))) 0 0 ⟨rfl, rfl, rfl, rfl, rfl, trivial⟩ rfl rfl)))
  exact EdgeOk.nil
 have hS1000_18 : T11501 5 [true, true, true, true, true, false, false, false, false, false] [(1, .pointer (some ⟨b1, 0, none⟩)), (34, .agg #[.int .i64 ((gt x100 0).fFrom), .int .i64 ((gt x100 0).fTo)]), (36, .pointer (some (eAddr sp101 ((1 : Int).toNat * Edge.E.sz + 0))))] ⟨[(r108, .deferred (some [])), (b13, .cells #[.slice sp9 3 3] 24), (b8, .cells #[.slice sp4 1 1] 24), (b3, .cells #[.slice none 0 0] 24), (b2, .cells #[.slice sp101 n102 cap103] 36), (b1, .cells #[.int .u8 149, .int .u8 0, .int .u8 0, .int .i16 0, .int .i32 0] 27)], [Hs105, Hs6, Hs11]⟩ := by
  rw [hdef11502]
  refine TD.step [5, 6, 7] 5 rfl rfl rfl rfl rfl (EdgeOk.cons rfl ?_ ?_)
  · exact TO.u rfl rfl (TX.loadRN (N := Edge.E) Try.isAgg40 Try.sizeOf40 rfl (fun a w s => ho106.rd s (i := 0) rfl) hk6501 rfl rfl (TO.nil (TE.toh (TE.td ((hdef11502 _ _ _ _).mp (hS1000_9))) 0 0 ⟨rfl, rfl, rfl, trivial⟩ rfl rfl)))
  refine EdgeOk.cons rfl ?_ ?_
  · exact TO.u rfl rfl (TX.alloc Try.zeroValue40 rfl rfl (fun b8001 => (TO.nil (TE.toh (TE.td ((hdef11502 _ _ _ _).mp (hS1000_10 b8001))) 0 0 ⟨rfl, rfl, rfl, rfl, trivial⟩ rfl rfl))))
  refine EdgeOk.cons rfl ?_ ?_
  · exact TO.u rfl rfl (TX.alloc Try.zeroValue40 rfl rfl (fun b9001 => (TO.nil (TE.toh (TE.td ((hdef11502 _ _ _ _).mp (hS1000_11 b9001))) 0 0 ⟨rfl, rfl, rfl, rfl, trivial⟩ rfl rfl))))
  exact EdgeOk.nil
 have hS1000_19 : ∀ (b8001 : Nat), T11501 5 [true, true, true, true, false, false, true, false, false, false] [(1, .pointer (some ⟨b1, 0, none⟩)), (5, .pointer (some ⟨b8001, 0, none⟩)), (34, .agg #[.int .i64 ((gt x100 0).fFrom), .int .i64 ((gt x100 0).fTo)]), (35, .slice sp101 n102 cap103)] ⟨[(b8001, .cells #[.int .i64 0, .int .i64 0] 40), (r108, .deferred (some [])), (b13, .cells #[.slice sp9 3 3] 24), (b8, .cells #[.slice sp4 1 1] 24), (b3, .cells #[.slice none 0 0] 24), (b2, .cells #[.slice sp101 n102 cap103] 36), (b1, .cells #[.int .u8 149, .int .u8 0, .int .u8 0, .int .i16 0, .int .i32 0] 27)], [Hs105, Hs6, Hs11]⟩ := by
  intro b8001
  rw [hdef11502]
  refine TD.step [4, 7] 4 rfl rfl rfl rfl rfl (EdgeOk.cons rfl ?_ ?_)
  · exact TO.u rfl rfl (TX.indexR (N := Edge.E) Try.runUnderlying36 Try.sizeOf40 rfl hn104 rfl (fun a w s => ho106.rd s (i := 0) rfl) hk6501 rfl (TO.nil (TE.toh (TE.td ((hdef11502 _ _ _ _).mp (hS1000_10 b8001))) 0 0 ⟨rfl, rfl, rfl, rfl, trivial⟩ rfl rfl)))
  refine EdgeOk.cons rfl ?_ ?_
  · exact TO.u rfl rfl (TX.alloc Try.zeroValue40 rfl rfl (fun b9001 => (TO.nil (TE.toh (TE.td ((hdef11502 _ _ _ _).mp (hS1000_12 b8001 b9001))) 0 0 ⟨rfl, rfl, rfl, rfl, rfl, trivial⟩ rfl rfl))))
  exact EdgeOk.nil
 have hS1000_20 : ∀ (b9001 : Nat), T11501 5 [true, true, true, true, false, false, false, true, false, false] [(1, .pointer (some ⟨b1, 0, none⟩)), (6, .pointer (some ⟨b9001, 0, none⟩)), (34, .agg #[.int .i64 ((gt x100 0).fFrom), .int .i64 ((gt x100 0).fTo)]), (35, .slice sp101 n102 cap103)] ⟨[(b9001, .cells #[.int .i64 0, .int .i64 0] 40), (r108, .deferred (some [])), (b13, .cells #[.slice sp9 3 3] 24), (b8, .cells #[.slice sp4 1 1] 24), (b3, .cells #[.slice none 0 0] 24), (b2, .cells #[.slice sp101 n102 cap103] 36), (b1, .cells #[.int .u8 149, .int .u8 0, .int .u8 0, .int .i16 0, .int .i32 0] 27)], [Hs105, Hs6, Hs11]⟩ := by
  intro b9001
  rw [hdef11502]
  refine TD.step [4, 6] 4 rfl rfl rfl rfl rfl (EdgeOk.cons rfl ?_ ?_)
  · exact TO.u rfl rfl (TX.indexR (N := Edge.E) Try.runUnderlying36 Try.sizeOf40 rfl hn104 rfl (fun a w s => ho106.rd s (i := 0) rfl) hk6501 rfl (TO.nil (TE.toh (TE.td ((hdef11502 _ _ _ _).mp (hS1000_11 b9001))) 0 0 ⟨rfl, rfl, rfl, rfl, trivial⟩ rfl rfl)))
  refine EdgeOk.cons rfl ?_ ?_
  · exact TO.u rfl rfl (TX.alloc Try.zeroValue40 rfl rfl (fun b8001 => (TO.nil (TE.mvE 1 0 rfl rfl (TE.toh (TE.td ((hdef11502 _ _ _ _).mp (hS1000_12 b8001 b9001))) 0 0 ⟨rfl, rfl, rfl, rfl, rfl, trivial⟩ rfl rfl)))))
  exact EdgeOk.nil
 have hS1000_21 : ∀ (b8001 : Nat), ∀ (b9001 : Nat), T11501 5 [true, true, true, false, false, false, true, true, false, false] [(1, .pointer (some ⟨b1, 0, none⟩)), (2, .pointer (some ⟨b2, 0, none⟩)), (5, .pointer (some ⟨b8001, 0, none⟩)), (6, .pointer (some ⟨b9001, 0, none⟩)), (34, .agg #[.int .i64 ((gt x100 0).fFrom), .int .i64 ((gt x100 0).fTo)])] ⟨[(b9001, .cells #[.int .i64 0, .int .i64 0] 40), (b8001, .cells #[.int .i64 0, .int .i64 0] 40), (r108, .deferred (some [])), (b13, .cells #[.slice sp9 3 3] 24), (b8, .cells #[.slice sp4 1 1] 24), (b3, .cells #[.slice none 0 0] 24), (b2, .cells #[.slice sp101 n102 cap103] 36), (b1, .cells #[.int .u8 149, .int .u8 0, .int .u8 0, .int .i16 0, .int .i32 0] 27)], [Hs105, Hs6, Hs11]⟩ := by
  intro b8001 b9001
  rw [hdef11502]
  refine TD.step [3, 8] 3 rfl rfl rfl rfl rfl (EdgeOk.cons rfl ?_ ?_)
  · exact TO.u rfl rfl (TX.load1 (i := 6) Try.isAgg36 rfl rfl rfl rfl (TO.nil (TE.toh (TE.td ((hdef11502 _ _ _ _).mp (hS1000_12 b8001 b9001))) 0 0 ⟨rfl, rfl, rfl, rfl, rfl, trivial⟩ rfl rfl)))
  refine EdgeOk.cons rfl ?_ ?_
  · exact TO.u rfl rfl (TX.store (i := 1) Try.sizeOf40 rfl rfl rfl rfl rfl rfl rfl rfl (TO.nil (TE.toh (TE.td ((hdef11502 _ _ _ _).mp (hS1000_13 b8001 b9001))) 0 0 ⟨rfl, rfl, rfl, rfl, trivial⟩ rfl rfl)))
  exact EdgeOk.nil
 have hS1000_22 : T11501 5 [true, true, false, true, true, true, false, false, false, false] [(1, .pointer (some ⟨b1, 0, none⟩)), (33, .pointer (some (eAddr sp101 ((0 : Int).toNat * Edge.E.sz + 0)))), (37, .agg #[.int .i64 ((gt x100 1).fFrom), .int .i64 ((gt x100 1).fTo)])] ⟨[(r108, .deferred (some [])), (b13, .cells #[.slice sp9 3 3] 24), (b8, .cells #[.slice sp4 1 1] 24), (b3, .cells #[.slice none 0 0] 24), (b2, .cells #[.slice sp101 n102 cap103] 36), (b1, .cells #[.int .u8 149, .int .u8 0, .int .u8 0, .int .i16 0, .int .i32 0] 27)], [Hs105, Hs6, Hs11]⟩ := by
  rw [hdef11502]
  refine TD.step [2, 6, 7] 2 rfl rfl rfl rfl rfl (EdgeOk.cons rfl ?_ ?_)
  · exact TO.u rfl rfl (TX.loadRN (N := Edge.E) Try.isAgg40 Try.sizeOf40 rfl (fun a w s => ho106.rd s (i := 0) rfl) hk3501 rfl rfl (TO.nil (TE.toh (TE.td ((hdef11502 _ _ _ _).mp (hS1000_9))) 0 0 ⟨rfl, rfl, rfl, trivial⟩ rfl rfl)))
  refine EdgeOk.cons rfl ?_ ?_
  · exact TO.u rfl rfl (TX.alloc Try.zeroValue40 rfl rfl (fun b8001 => (TO.nil (TE.toh (TE.td ((hdef11502 _ _ _ _).mp (hS1000_14 b8001))) 0 0 ⟨rfl, rfl, rfl, rfl, trivial⟩ rfl rfl))))
  refine EdgeOk.cons rfl ?_ ?_
  · exact TO.u rfl rfl (TX.alloc Try.zeroValue40 rfl rfl (fun b9001 => (TO.nil (TE.toh (TE.td ((hdef11502 _ _ _ _).mp (hS1000_15 b9001))) 0 0 ⟨rfl, rfl, rfl, rfl, trivial⟩ rfl rfl))))
  exact EdgeOk.nil
 have hS1000_23 : ∀ (b8001 : Nat), T11501 5 [true, true, false, true, true, false, true, false, false, false] [(1, .pointer (some ⟨b1, 0, none⟩)), (5, .pointer (some ⟨b8001, 0, none⟩)), (33, .pointer (some (eAddr sp101 ((0 : Int).toNat * Edge.E.sz + 0)))), (36, .pointer (some (eAddr sp101 ((1 : Int).toNat * Edge.E.sz + 0))))] ⟨[(b8001, .cells #[.int .i64 0, .int .i64 0] 40), (r108, .deferred (some [])), (b13, .cells #[.slice sp9 3 3] 24), (b8, .cells #[.slice sp4 1 1] 24), (b3, .cells #[.slice none 0 0] 24), (b2, .cells #[.slice sp101 n102 cap103] 36), (b1, .cells #[.int .u8 149, .int .u8 0, .int .u8 0, .int .i16 0, .int .i32 0] 27)], [Hs105, Hs6, Hs11]⟩ := by
  intro b8001
  rw [hdef11502]
  refine TD.step [2, 5, 7] 2 rfl rfl rfl rfl rfl (EdgeOk.cons rfl ?_ ?_)
  · exact TO.u rfl rfl (TX.loadRN (N := Edge.E) Try.isAgg40 Try.sizeOf40 rfl (fun a w s => ho106.rd s (i := 0) rfl) hk3501 rfl rfl (TO.nil (TE.toh (TE.td ((hdef11502 _ _ _ _).mp (hS1000_10 b8001))) 0 0 ⟨rfl, rfl, rfl, rfl, trivial⟩ rfl rfl)))
  refine EdgeOk.cons rfl ?_ ?_
  · exact TO.u rfl rfl (TX.loadRN (N := Edge.E) Try.isAgg40 Try.sizeOf40 rfl (fun a w s => ho106.rd s (i := 0) rfl) hk6501 rfl rfl (TO.nil (TE.toh (TE.td ((hdef11502 _ _ _ _).mp (hS1000_14 b8001))) 0 0 ⟨rfl, rfl, rfl, rfl, trivial⟩ rfl rfl)))
  refine EdgeOk.cons rfl ?_ ?_
  · exact TO.u rfl rfl (TX.alloc Try.zeroValue40 rfl rfl (fun b9001 => (TO.nil (TE.toh (TE.td ((hdef11502 _ _ _ _).mp (hS1000_16 b8001 b9001))) 0 0 ⟨rfl, rfl, rfl, rfl, rfl, trivial⟩ rfl rfl))))
  exact EdgeOk.nil
 have hS1000_24 : ∀ (b9001 : Nat), T11501 5 [true, true, false, true, true, false, false, true, false, false] [(1, .pointer (some ⟨b1, 0, none⟩)), (6, .pointer (some ⟨b9001, 0, none⟩)), (33, .pointer (some (eAddr sp101 ((0 : Int).toNat * Edge.E.sz + 0)))), (36, .pointer (some (eAddr sp101 ((1 : Int).toNat * Edge.E.sz + 0))))] ⟨[(b9001, .cells #[.int .i64 0, .int .i64 0] 40), (r108, .deferred (some [])), (b13, .cells #[.slice sp9 3 3] 24), (b8, .cells #[.slice sp4 1 1] 24), (b3, .cells #[.slice none 0 0] 24), (b2, .cells #[.slice sp101 n102 cap103] 36), (b1, .cells #[.int .u8 149, .int .u8 0, .int .u8 0, .int .i16 0, .int .i32 0] 27)], [Hs105, Hs6, Hs11]⟩ := by
  intro b9001
  rw [hdef11502]
  refine TD.step [2, 5, 6] 2 rfl rfl rfl rfl rfl (EdgeOk.cons rfl ?_ ?_)
  · exact TO.u rfl rfl (TX.loadRN (N := Edge.E) Try.isAgg40 Try.sizeOf40 rfl (fun a w s => ho106.rd s (i := 0) rfl) hk3501 rfl rfl (TO.nil (TE.toh (TE.td ((hdef11502 _ _ _ _).mp (hS1000_11 b9001))) 0 0 ⟨rfl, rfl, rfl, rfl, trivial⟩ rfl rfl)))
  refine EdgeOk.cons rfl ?_ ?_
  · exact TO.u rfl rfl (TX.loadRN (N := Edge.E) Try.isAgg40 Try.sizeOf40 rfl (fun a w s => ho106.rd s (i := 0) rfl) hk6501 rfl rfl (TO.nil (TE.toh (TE.td ((hdef11502 _ _ _ _).mp (hS1000_15 b9001))) 0 0 ⟨rfl, rfl, rfl, rfl, trivial⟩ rfl rfl)))
  refine EdgeOk.cons rfl ?_ ?_
  · exact TO.u rfl rfl (TX.alloc Try.zeroValue40 rfl rfl (fun b8001 => (TO.nil (TE.mvE 1 0 rfl rfl (TE.toh (TE.td ((hdef11502 _ _ _ _).mp (hS1000_16 b8001 b9001))) 0 0 ⟨rfl, rfl, rfl, rfl, rfl, trivial⟩ rfl rfl)))))
  exact EdgeOk.nil
 have hS1000_25 : ∀ (b8001 : Nat), ∀ (b9001 : Nat), T11501 5 [true, true, false, true, false, false, true, true, false, false] [(1, .pointer (some ⟨b1, 0, none⟩)), (5, .pointer (some ⟨b8001, 0, none⟩)), (6, .pointer (some ⟨b9001, 0, none⟩)), (33, .pointer (some (eAddr sp101 ((0 : Int).toNat * Edge.E.sz + 0)))), (35, .slice sp101 n102 cap103)] ⟨[(b9001, .cells #[.int .i64 0, .int .i64 0] 40), (b8001, .cells #[.int .i64 0, .int .i64 0] 40), (r108, .deferred (some [])), (b13, .cells #[.slice sp9 3 3] 24), (b8, .cells #[.slice sp4 1 1] 24), (b3, .cells #[.slice none 0 0] 24), (b2, .cells #[.slice sp101 n102 cap103] 36), (b1, .cells #[.int .u8 149, .int .u8 0, .int .u8 0, .int .i16 0, .int .i32 0] 27)], [Hs105, Hs6, Hs11]⟩ := by
  intro b8001 b9001
  rw [hdef11502]
  refine TD.step [2, 4] 2 rfl rfl rfl rfl rfl (EdgeOk.cons rfl ?_ ?_)
  · exact TO.u rfl rfl (TX.loadRN (N := Edge.E) Try.isAgg40 Try.sizeOf40 rfl (fun a w s => ho106.rd s (i := 0) rfl) hk3501 rfl rfl (TO.nil (TE.toh (TE.td ((hdef11502 _ _ _ _).mp (hS1000_12 b8001 b9001))) 0 0 ⟨rfl, rfl, rfl, rfl, rfl, trivial⟩ rfl rfl)))
  refine EdgeOk.cons rfl ?_ ?_
  · exact TO.u rfl rfl (TX.indexR (N := Edge.E) Try.runUnderlying36 Try.sizeOf40 rfl hn104 rfl (fun a w s => ho106.rd s (i := 0) rfl) hk6501 rfl (TO.nil (TE.toh (TE.td ((hdef11502 _ _ _ _).mp (hS1000_16 b8001 b9001))) 0 0 ⟨rfl, rfl, rfl, rfl, rfl, trivial⟩ rfl rfl)))
  exact EdgeOk.nil
 have hS1000_26 : ∀ (b8001 : Nat), T11501 5 [true, false, false, true, true, true, true, false, false, false] [(1, .pointer (some ⟨b1, 0, none⟩)), (5, .pointer (some ⟨b8001, 0, none⟩)), (32, .slice sp101 n102 cap103), (37, .agg #[.int .i64 ((gt x100 1).fFrom), .int .i64 ((gt x100 1).fTo)])] ⟨[(b8001, .cells #[.int .i64 0, .int .i64 0] 40), (r108, .deferred (some [])), (b13, .cells #[.slice sp9 3 3] 24), (b8, .cells #[.slice sp4 1 1] 24), (b3, .cells #[.slice none 0 0] 24), (b2, .cells #[.slice sp101 n102 cap103] 36), (b1, .cells #[.int .u8 149, .int .u8 0, .int .u8 0, .int .i16 0, .int .i32 0] 27)], [Hs105, Hs6, Hs11]⟩ := by
  intro b8001
  rw [hdef11502]
  refine TD.step [1, 7] 1 rfl rfl rfl rfl rfl (EdgeOk.cons rfl ?_ ?_)
  · exact TO.u rfl rfl (TX.indexR (N := Edge.E) Try.runUnderlying36 Try.sizeOf40 rfl hn104 rfl (fun a w s => ho106.rd s (i := 0) rfl) hk3501 rfl (TO.nil (TE.toh (TE.td ((hdef11502 _ _ _ _).mp (hS1000_14 b8001))) 0 0 ⟨rfl, rfl, rfl, rfl, trivial⟩ rfl rfl)))
  refine EdgeOk.cons rfl ?_ ?_
  · exact TO.u rfl rfl (TX.alloc Try.zeroValue40 rfl rfl (fun b9001 => (TO.nil (TE.toh (TE.td ((hdef11502 _ _ _ _).mp (hS1000_17 b8001 b9001))) 0 0 ⟨rfl, rfl, rfl, rfl, rfl, trivial⟩ rfl rfl))))
  exact EdgeOk.nil
 have hS1000_27 : ∀ (b9001 : Nat), T11501 5 [true, false, false, true, true, true, false, true, false, false] [(1, .pointer (some ⟨b1, 0, none⟩)), (6, .pointer (some ⟨b9001, 0, none⟩)), (32, .slice sp101 n102 cap103), (37, .agg #[.int .i64 ((gt x100 1).fFrom), .int .i64 ((gt x100 1).fTo)])] ⟨[(b9001, .cells #[.int .i64 0, .int .i64 0] 40), (r108, .deferred (some [])), (b13, .cells #[.slice sp9 3 3] 24), (b8, .cells #[.slice sp4 1 1] 24), (b3, .cells #[.slice none 0 0] 24), (b2, .cells #[.slice sp101 n102 cap103] 36), (b1, .cells #[.int .u8 149, .int .u8 0, .int .u8 0, .int .i16 0, .int .i32 0] 27)], [Hs105, Hs6, Hs11]⟩ := by
  intro b9001
  rw [hdef11502]
  refine TD.step [1, 6] 1 rfl rfl rfl rfl rfl (EdgeOk.cons rfl ?_ ?_)
  · exact TO.u rfl rfl (TX.indexR (N := Edge.E) Try.runUnderlying36 Try.sizeOf40 rfl hn104 rfl (fun a w s => ho106.rd s (i := 0) rfl) hk3501 rfl (TO.nil (TE.toh (TE.td ((hdef11502 _ _ _ _).mp (hS1000_15 b9001))) 0 0 ⟨rfl, rfl, rfl, rfl, trivial⟩ rfl rfl)))
  refine EdgeOk.cons rfl ?_ ?_
  · exact TO.u rfl rfl (TX.alloc Try.zeroValue40 rfl rfl (fun b8001 => (TO.nil (TE.mvE 1 0 rfl rfl (TE.toh (TE.td ((hdef11502 _ _ _ _).mp (hS1000_17 b8001 b9001))) 0 0 ⟨rfl, rfl, rfl, rfl, rfl, trivial⟩ rfl rfl)))))
  exact EdgeOk.nil
 have hS1000_28 : ∀ (b8001 : Nat), ∀ (b9001 : Nat), T11501 5 [true, false, false, true, true, false, true, true, false, false] [(1, .pointer (some ⟨b1, 0, none⟩)), (5, .pointer (some ⟨b8001, 0, none⟩)), (6, .pointer (some ⟨b9001, 0, none⟩)), (32, .slice sp101 n102 cap103), (36, .pointer (some (eAddr sp101 ((1 : Int).toNat * Edge.E.sz + 0))))] ⟨[(b9001, .cells #[.int .i64 0, .int .i64 0] 40), (b8001, .cells #[.int .i64 0, .int .i64 0] 40), (r108, .deferred (some [])), (b13, .cells #[.slice sp9 3 3] 24), (b8, .cells #[.slice sp4 1 1] 24), (b3, .cells #[.slice none 0 0] 24), (b2, .cells #[.slice sp101 n102 cap103] 36), (b1, .cells #[.int .u8 149, .int .u8 0, .int .u8 0, .int .i16 0, .int .i32 0] 27)], [Hs105, Hs6, Hs11]⟩ := by
  intro b8001 b9001
  rw [hdef11502]
  refine TD.step [1, 5] 1 rfl rfl rfl rfl rfl (EdgeOk.cons rfl ?_ ?_)
  · exact TO.u rfl rfl (TX.indexR (N := Edge.E) Try.runUnderlying36 Try.sizeOf40 rfl hn104 rfl (fun a w s => ho106.rd s (i := 0) rfl) hk3501 rfl (TO.nil (TE.toh (TE.td ((hdef11502 _ _ _ _).mp (hS1000_16 b8001 b9001))) 0 0 ⟨rfl, rfl, rfl, rfl, rfl, trivial⟩ rfl rfl)))
  refine EdgeOk.cons rfl ?_ ?_
  · exact TO.u rfl rfl (TX.loadRN (N := Edge.E) Try.isAgg40 Try.sizeOf40 rfl (fun a w s => ho106.rd s (i := 0) rfl) hk6501 rfl rfl (TO.nil (TE.toh (TE.td ((hdef11502 _ _ _ _).mp (hS1000_17 b8001 b9001))) 0 0 ⟨rfl, rfl, rfl, rfl, rfl, trivial⟩ rfl rfl)))
  exact EdgeOk.nil
 have hS1000_29 : ∀ (b8001 : Nat), ∀ (b9001 : Nat), T11501 5 [false, false, false, true, true, true, true, true, false, false] [(1, .pointer (some ⟨b1, 0, none⟩)), (2, .pointer (some ⟨b2, 0, none⟩)), (5, .pointer (some ⟨b8001, 0, none⟩)), (6, .pointer (some ⟨b9001, 0, none⟩)), (37, .agg #[.int .i64 ((gt x100 1).fFrom), .int .i64 ((gt x100 1).fTo)])] ⟨[(b9001, .cells #[.int .i64 0, .int .i64 0] 40), (b8001, .cells #[.int .i64 0, .int .i64 0] 40), (r108, .deferred (some [])), (b13, .cells #[.slice sp9 3 3] 24), (b8, .cells #[.slice sp4 1 1] 24), (b3, .cells #[.slice none 0 0] 24), (b2, .cells #[.slice sp101 n102 cap103] 36), (b1, .cells #[.int .u8 149, .int .u8 0, .int .u8 0, .int .i16 0, .int .i32 0] 27)], [Hs105, Hs6, Hs11]⟩ := by
  intro b8001 b9001
  rw [hdef11502]
  refine TD.step [0] 0 rfl rfl rfl rfl rfl (EdgeOk.cons rfl ?_ ?_)
  · exact TO.u rfl rfl (TX.load1 (i := 6) Try.isAgg36 rfl rfl rfl rfl (TO.nil (TE.toh (TE.td ((hdef11502 _ _ _ _).mp (hS1000_17 b8001 b9001))) 0 0 ⟨rfl, rfl, rfl, rfl, rfl, trivial⟩ rfl rfl)))
  exact EdgeOk.nil
 have hS1000_30 : T11501 6 [true, true, true, true, false, false, false, false, false, false] [(1, .pointer (some ⟨b1, 0, none⟩)), (34, .agg #[.int .i64 ((gt x100 0).fFrom), .int .i64 ((gt x100 0).fTo)]), (35, .slice sp101 n102 cap103)] ⟨[(r108, .deferred (some [])), (b13, .cells #[.slice sp9 3 3] 24), (b8, .cells #[.slice sp4 1 1] 24), (b3, .cells #[.slice none 0 0] 24), (b2, .cells #[.slice sp101 n102 cap103] 36), (b1, .cells #[.int .u8 149, .int .u8 0, .int .u8 0, .int .i16 0, .int .i32 0] 27)], [Hs105, Hs6, Hs11]⟩ := by
  rw [hdef11502]
  refine TD.step [4, 6, 7] 4 rfl rfl rfl rfl rfl (EdgeOk.cons rfl ?_ ?_)
  · exact TO.u rfl rfl (TX.indexR (N := Edge.E) Try.runUnderlying36 Try.sizeOf40 rfl hn104 rfl (fun a w s => ho106.rd s (i := 0) rfl) hk6501 rfl (TO.nil (TE.toh (TE.td ((hdef11502 _ _ _ _).mp (hS1000_18))) 0 0 ⟨rfl, rfl, rfl, trivial⟩ rfl rfl)))
  refine EdgeOk.cons rfl ?_ ?_
  · exact TO.u rfl rfl (TX.alloc Try.zeroValue40 rfl rfl (fun b8001 => (TO.nil (TE.toh (TE.td ((hdef11502 _ _ _ _).mp (hS1000_19 b8001))) 0 0 ⟨rfl, rfl, rfl, rfl, trivial⟩ rfl rfl))))
  refine EdgeOk.cons rfl ?_ ?_
  · exact TO.u rfl rfl (TX.alloc Try.zeroValue40 rfl rfl (fun b9001 => (TO.nil (TE.toh (TE.td ((hdef11502 _ _ _ _).mp (hS1000_20 b9001))) 0 0 ⟨rfl, rfl, rfl, rfl, trivial⟩ rfl rfl))))
  exact EdgeOk.nil
 have hS1000_31 : ∀ (b8001 : Nat), T11501 6 [true, true, true, false, false, false, true, false, false, false] [(1, .pointer (some ⟨b1, 0, none⟩)), (2, .pointer (some ⟨b2, 0, none⟩)), (5, .pointer (some ⟨b8001, 0, none⟩)), (34, .agg #[.int .i64 ((gt x100 0).fFrom), .int .i64 ((gt x100 0).fTo)])] ⟨[(b8001, .cells #[.int .i64 0, .int .i64 0] 40), (r108, .deferred (some [])), (b13, .cells #[.slice sp9 3 3] 24), (b8, .cells #[.slice sp4 1 1] 24), (b3, .cells #[.slice none 0 0] 24), (b2, .cells #[.slice sp101 n102 cap103] 36), (b1, .cells #[.int .u8 149, .int .u8 0, .int .u8 0, .int .i16 0, .int .i32 0] 27)], [Hs105, Hs6, Hs11]⟩ := by
  intro b8001
  rw [hdef11502]
  refine TD.step [3, 7] 3 rfl rfl rfl rfl rfl (EdgeOk.cons rfl ?_ ?_)
  · exact TO.u rfl rfl (TX.load1 (i := 5) Try.isAgg36 rfl rfl rfl rfl (TO.nil (TE.toh (TE.td ((hdef11502 _ _ _ _).mp (hS1000_19 b8001))) 0 0 ⟨rfl, rfl, rfl, rfl, trivial⟩ rfl rfl)))
  refine EdgeOk.cons rfl ?_ ?_
  · exact TO.u rfl rfl (TX.alloc Try.zeroValue40 rfl rfl (fun b9001 => (TO.nil (TE.toh (TE.td ((hdef11502 _ _ _ _).mp (hS1000_21 b8001 b9001))) 0 0 ⟨rfl, rfl, rfl, rfl, rfl, trivial⟩ rfl rfl))))
  exact EdgeOk.nil
 have hS1000_32 : ∀ (b9001 : Nat), T11501 6 [true, true, true, false, false, false, false, true, false, false] [(1, .pointer (some ⟨b1, 0, none⟩)), (2, .pointer (some ⟨b2, 0, none⟩)), (6, .pointer (some ⟨b9001, 0, none⟩)), (34, .agg #[.int .i64 ((gt x100 0).fFrom), .int .i64 ((gt x100 0).fTo)])] ⟨[(b9001, .cells #[.int .i64 0, .int .i64 0] 40), (r108, .deferred (some [])), (b13, .cells #[.slice sp9 3 3] 24), (b8, .cells #[.slice sp4 1 1] 24), (b3, .cells #[.slice none 0 0] 24), (b2, .cells #[.slice sp101 n102 cap103] 36), (b1, .cells #[.int .u8 149, .int .u8 0, .int .u8 0, .int .i16 0, .int .i32 0] 27)], [Hs105, Hs6, Hs11]⟩ := by
  intro b9001
  rw [hdef11502]
  refine TD.step [3, 6] 3 rfl rfl rfl rfl rfl (EdgeOk.cons rfl ?_ ?_)
  · exact TO.u rfl rfl (TX.load1 (i := 5) Try.isAgg36 rfl rfl rfl rfl (TO.nil (TE.toh (TE.td ((hdef11502 _ _ _ _).mp (hS1000_20 b9001))) 0 0 ⟨rfl, rfl, rfl, rfl, trivial⟩ rfl rfl)))
  refine EdgeOk.cons rfl ?_ ?_
  · exact TO.u rfl rfl (TX.alloc Try.zeroValue40 rfl rfl (fun b8001 => (TO.nil (TE.mvE 1 0 rfl rfl (TE.toh (TE.td ((hdef11502 _ _ _ _).mp (hS1000_21 b8001 b9001))) 0 0 ⟨rfl, rfl, rfl, rfl, rfl, trivial⟩ rfl rfl)))))
  exact EdgeOk.nil
 have hS1000_33 : T11501 6 [true, true, false, true, true, false, false, false, false, false] [(1, .pointer (some ⟨b1, 0, none⟩)), (33, .pointer (some (eAddr sp101 ((0 : Int).toNat * Edge.E.sz + 0)))), (36, .pointer (some (eAddr sp101 ((1 : Int).toNat * Edge.E.sz + 0))))] ⟨[(r108, .deferred (some [])), (b13, .cells #[.slice sp9 3 3] 24), (b8, .cells #[.slice sp4 1 1] 24), (b3, .cells #[.slice none 0 0] 24), (b2, .cells #[.slice sp101 n102 cap103] 36), (b1, .cells #[.int .u8 149, .int .u8 0, .int .u8 0, .int .i16 0, .int .i32 0] 27)], [Hs105, Hs6, Hs11]⟩ := by
  rw [hdef11502]
  refine TD.step [2, 5, 6, 7] 2 rfl rfl rfl rfl rfl (EdgeOk.cons rfl ?_ ?_)
  · exact TO.u rfl rfl (TX.loadRN (N := Edge.E) Try.isAgg40 Try.sizeOf40 rfl (fun a w s => ho106.rd s (i := 0) rfl) hk3501 rfl rfl (TO.nil (TE.toh (TE.td ((hdef11502 _ _ _ _).mp (hS1000_18))) 0 0 ⟨rfl, rfl, rfl, trivial⟩ rfl rfl)))
  refine EdgeOk.cons rfl ?_ ?_
  · exact TO.u rfl rfl (TX.loadRN (N := Edge.E) Try.isAgg40 Try.sizeOf40 rfl (fun a w s => ho106.rd s (i := 0) rfl) hk6501 rfl rfl (TO.nil (TE.toh (TE.td ((hdef11502 _ _ _ _).mp (hS1000_22))) 0 0 ⟨rfl, rfl, rfl, trivial⟩ rfl rfl)))
  refine EdgeOk.cons rfl ?_ ?_
  · exact TO.u rfl rfl (TX.alloc Try.zeroValue40 rfl rfl (fun b8001 => (TO.nil (TE.toh (TE.td ((hdef11502 _ _ _ _).mp (hS1000_23 b8001))) 0 0 ⟨rfl, rfl, rfl, rfl, trivial⟩ rfl rfl))))
  refine EdgeOk.cons rfl ?_ ?_
  · exact TO.u rfl rfl (TX.alloc Try.zeroValue40 rfl rfl (fun b9001 => (TO.nil (TE.toh (TE.td ((hdef11502 _ _ _ _).mp (hS1000_24 b9001))) 0 0 ⟨rfl, rfl, rfl, rfl, trivial⟩ rfl rfl))))
  exact EdgeOk.nil
 have hS1000_34 : ∀ (b8001 : Nat), T11501 6 [true, true, false, true, false, false, true, false, false, false] [(1, .pointer (some ⟨b1, 0, none⟩)), (5, .pointer (some ⟨b8001, 0, none⟩)), (33, .pointer (some (eAddr sp101 ((0 : Int).toNat * Edge.E.sz + 0)))), (35, .slice sp101 n102 cap103)] ⟨[(b8001, .cells #[.int .i64 0, .int .i64 0] 40), (r108, .deferred (some [])), (b13, .cells #[.slice sp9 3 3] 24), (b8, .cells #[.slice sp4 1 1] 24), (b3, .cells #[.slice none 0 0] 24), (b2, .cells #[.slice sp101 n102 cap103] 36), (b1, .cells #[.int .u8 149, .int .u8 0, .int .u8 0, .int .i16 0, .int .i32 0] 27)], [Hs105, Hs6, Hs11]⟩ := by
  intro b8001
  rw [hdef11502]
  refine TD.step [2, 4, 7] 2 rfl rfl rfl rfl rfl (EdgeOk.cons rfl ?_ ?_)
  · exact TO.u rfl rfl (TX.loadRN (N := Edge.E) Try.isAgg40 Try.sizeOf40 rfl (fun a w s => ho106.rd s (i := 0) rfl) hk3501 rfl rfl (TO.nil (TE.toh (TE.td ((hdef11502 _ _ _ _).mp (hS1000_19 b8001))) 0 0 ⟨rfl, rfl, rfl, rfl, trivial⟩ rfl rfl)))
  refine EdgeOk.cons rfl ?_ ?_
  · exact TO.u rfl rfl (TX.indexR (N := Edge.E) Try.runUnderlying36 Try.sizeOf40 rfl hn104 rfl (fun a w s => ho106.rd s (i := 0) rfl) hk6501 rfl (TO.nil (TE.toh (TE.td ((hdef11502 _ _ _ _).mp (hS1000_23 b8001))) 0 0 ⟨rfl, rfl, rfl, rfl, trivial⟩ rfl rfl)))
  refine EdgeOk.cons rfl ?_ ?_
  · exact TO.u rfl rfl (TX.alloc Try.zeroValue40 rfl rfl (fun b9001 => (TO.nil (TE.toh (TE.td ((hdef11502 _ _ _ _).mp (hS1000_25 b8001 b9001))) 0 0 ⟨rfl, rfl, rfl, rfl, rfl, trivial⟩ rfl rfl))))
  exact EdgeOk.nil
 have hS1000_35 : ∀ (b9001 : Nat), T11501 6 [true, true, false, true, false, false, false, true, false, false] [(1, .pointer (some ⟨b1, 0, none⟩)), (6, .pointer (some ⟨b9001, 0, none⟩)), (33, .pointer (some (eAddr sp101 ((0 : Int).toNat * Edge.E.sz + 0)))), (35, .slice sp101 n102 cap103)] ⟨[(b9001, .cells #[.int .i64 0, .int .i64 0] 40), (r108, .deferred (some [])), (b13, .cells #[.slice sp9 3 3] 24), (b8, .cells #[.slice sp4 1 1] 24), (b3, .cells #[.slice none 0 0] 24), (b2, .cells #[.slice sp101 n102 cap103] 36), (b1, .cells #[.int .u8 149, .int .u8 0, .int .u8 0, .int .i16 0, .int .i32 0] 27)], [Hs105, Hs6, Hs11]⟩ := by
  intro b9001
  rw [hdef11502]
  refine TD.step [2, 4, 6] 2 rfl rfl rfl rfl rfl (EdgeOk.cons rfl ?_ ?_)
  · exact TO.u rfl rfl (TX.loadRN (N := Edge.E) Try.isAgg40 Try.sizeOf40 rfl (fun a w s => ho106.rd s (i := 0) rfl) hk3501 rfl rfl (TO.nil (TE.toh (TE.td ((hdef11502 _ _ _ _).mp (hS1000_20 b9001))) 0 0 ⟨rfl, rfl, rfl, rfl, trivial⟩ rfl rfl)))
  refine EdgeOk.cons rfl ?_ ?_
  · exact TO.u rfl rfl (TX.indexR (N := Edge.E) Try.runUnderlying36 Try.sizeOf40 rfl hn104 rfl (fun a w s => ho106.rd s (i := 0) rfl) hk6501 rfl (TO.nil (TE.toh (TE.td ((hdef11502 _ _ _ _).mp (hS1000_24 b9001))) 0 0 ⟨rfl, rfl, rfl, rfl, trivial⟩ rfl rfl)))
  refine EdgeOk.cons rfl ?_ ?_
  · exact TO.u rfl rfl (TX.alloc Try.zeroValue40 rfl rfl (fun b8001 => (TO.nil (TE.mvE 1 0 rfl rfl (TE.toh (TE.td ((hdef11502 _ _ _ _).mp (hS1000_25 b8001 b9001))) 0 0 ⟨rfl, rfl, rfl, rfl, rfl, trivial⟩ rfl rfl)))))
  exact EdgeOk.nil
 have hS1000_36 : ∀ (b8001 : Nat), ∀ (b9001 : Nat), T11501 6 [true, true, false, false, false, false, true, true, false, false] [(1, .pointer (some ⟨b1, 0, none⟩)), (2, .pointer (some ⟨b2, 0, none⟩)), (5, .pointer (some ⟨b8001, 0, none⟩)), (6, .pointer (some ⟨b9001, 0, none⟩)), (33, .pointer (some (eAddr sp101 ((0 : Int).toNat * Edge.E.sz + 0))))] ⟨[(b9001, .cells #[.int .i64 0, .int .i64 0] 40), (b8001, .cells #[.int .i64 0, .int .i64 0] 40), (r108, .deferred (some [])), (b13, .cells #[.slice sp9 3 3] 24), (b8, .cells #[.slice sp4 1 1] 24), (b3, .cells #[.slice none 0 0] 24), (b2, .cells #[.slice sp101 n102 cap103] 36), (b1, .cells #[.int .u8 149, .int .u8 0, .int .u8 0, .int .i16 0, .int .i32 0] 27)], [Hs105, Hs6, Hs11]⟩ := by
  intro b8001 b9001
  rw [hdef11502]
  refine TD.step [2, 3] 2 rfl rfl rfl rfl rfl (EdgeOk.cons rfl ?_ ?_)
  · exact TO.u rfl rfl (TX.loadRN (N := Edge.E) Try.isAgg40 Try.sizeOf40 rfl (fun a w s => ho106.rd s (i := 0) rfl) hk3501 rfl rfl (TO.nil (TE.toh (TE.td ((hdef11502 _ _ _ _).mp (hS1000_21 b8001 b9001))) 0 0 ⟨rfl, rfl, rfl, rfl, rfl, trivial⟩ rfl rfl)))
  refine EdgeOk.cons rfl ?_ ?_
  · exact TO.u rfl rfl (TX.load1 (i := 6) Try.isAgg36 rfl rfl rfl rfl (TO.nil (TE.toh (TE.td ((hdef11502 _ _ _ _).mp (hS1000_25 b8001 b9001))) 0 0 ⟨rfl, rfl, rfl, rfl, rfl, trivial⟩ rfl rfl)))
  exact EdgeOk.nil
 have hS1000_37 : T11501 6 [true, false, false, true, true, true, false, false, false, false] [(1, .pointer (some ⟨b1, 0, none⟩)), (32, .slice sp101 n102 cap103), (37, .agg #[.int .i64 ((gt x100 1).fFrom), .int .i64 ((gt x100 1).fTo)])] ⟨[(r108, .deferred (some [])), (b13, .cells #[.slice sp9 3 3] 24), (b8, .cells #[.slice sp4 1 1] 24), (b3, .cells #[.slice none 0 0] 24), (b2, .cells #[.slice sp101 n102 cap103] 36), (b1, .cells #[.int .u8 149, .int .u8 0, .int .u8 0, .int .i16 0, .int .i32 0] 27)], [Hs105, Hs6, Hs11]⟩ := by
  rw [hdef11502]
  refine TD.step [1, 6, 7] 1 rfl rfl rfl rfl rfl (EdgeOk.cons rfl ?_ ?_)
  · exact TO.u rfl rfl (TX.indexR (N := Edge.E) Try.runUnderlying36 Try.sizeOf40 rfl hn104 rfl (fun a w s => ho106.rd s (i := 0) rfl) hk3501 rfl (TO.nil (TE.toh (TE.td ((hdef11502 _ _ _ _).mp (hS1000_22))) 0 0 ⟨rfl, rfl, rfl, trivial⟩ rfl rfl)))
  refine EdgeOk.cons rfl ?_ ?_
  · exact TO.u rfl rfl (TX.alloc Try.zeroValue40 rfl rfl (fun b8001 => (TO.nil (TE.toh (TE.td ((hdef11502 _ _ _ _).mp (hS1000_26 b8001))) 0 0 ⟨rfl, rfl, rfl, rfl, trivial⟩ rfl rfl))))
  refine EdgeOk.cons rfl ?_ ?_
  · exact TO.u rfl rfl (TX.alloc Try.zeroValue40 rfl rfl (fun b9001 => (TO.nil (TE.toh (TE.td ((hdef11502 _ _ _ _).mp (hS1000_27 b9001))) 0 0 ⟨rfl, rfl, rfl, rfl, trivial⟩ rfl rfl))))
  exact EdgeOk.nil
 have hS1000_38 : ∀ (b8001 : Nat), T11501 6 [true, false, false, true, true, false, true, false, false, false] [(1, .pointer (some ⟨b1, 0, none⟩)), (5, .pointer (some ⟨b8001, 0, none⟩)), (32, .slice sp101 n102 cap103), (36, .pointer (some (eAddr sp101 ((1 : Int).toNat * Edge.E.sz + 0))))] ⟨[(b8001, .cells #[.int .i64 0, .int .i64 0] 40), (r108, .deferred (some [])), (b13, .cells #[.slice sp9 3 3] 24), (b8, .cells #[.slice sp4 1 1] 24), (b3, .cells #[.slice none 0 0] 24), (b2, .cells #[.slice sp101 n102 cap103] 36), (b1, .cells #[.int .u8 149, .int .u8 0, .int .u8 0, .int .i16 0, .int .i32 0] 27)], [Hs105, Hs6, Hs11]⟩ := by
  intro b8001
  rw [hdef11502]
  refine TD.step [1, 5, 7] 1 rfl rfl rfl rfl rfl (EdgeOk.cons rfl ?_ ?_)
  · exact TO.u rfl rfl (TX.indexR (N := Edge.E) Try.runUnderlying36 Try.sizeOf40 rfl hn104 rfl (fun a w s => ho106.rd s (i := 0) rfl) hk3501 rfl (TO.nil (TE.toh (TE.td ((hdef11502 _ _ _ _).mp (hS1000_23 b8001))) 0 0 ⟨rfl, rfl, rfl, rfl, trivial⟩ rfl rfl)))
  refine EdgeOk.cons rfl ?_ ?_
  · exact TO.u rfl rfl (TX.loadRN (N := Edge.E) Try.isAgg40 Try.sizeOf40 rfl (fun a w s => ho106.rd s (i := 0) rfl) hk6501 rfl rfl (TO.nil (TE.toh (TE.td ((hdef11502 _ _ _ _).mp (hS1000_26 b8001))) 0 0 ⟨rfl, rfl, rfl, rfl, trivial⟩ rfl rfl)))
  refine EdgeOk.cons rfl ?_ ?_
  · exact TO.u rfl rfl (TX.alloc Try.zeroValue40 rfl rfl (fun b9001 => (TO.nil (TE.toh (TE.td ((hdef11502 _ _ _ _).mp (hS1000_28 b8001 b9001))) 0 0 ⟨rfl, rfl, rfl, rfl, rfl, trivial⟩ rfl rfl))))
  exact EdgeOk.nil
 have hS1000_39 : ∀ (b9001 : Nat), T11501 6 [true, false, false, true, true, false, false, true, false, false] [(1, .pointer (some ⟨b1, 0, none⟩)), (6, .pointer (some ⟨b9001, 0, none⟩)), (32, .slice sp101 n102 cap103), (36, .pointer (some (eAddr sp101 ((1 : Int).toNat * Edge.E.sz + 0))))] ⟨[(b9001, .cells #[.int .i64 0, .int .i64 0] 40), (r108, .deferred (some [])), (b13, .cells #[.slice sp9 3 3] 24), (b8, .cells #[.slice sp4 1 1] 24), (b3, .cells #[.slice none 0 0] 24), (b2, .cells #[.slice sp101 n102 cap103] 36), (b1, .cells #[.int .u8 149, .int .u8 0, .int .u8 0, .int .i16 0, .int .i32 0] 27)], [Hs105, Hs6, Hs11]⟩ := by
  intro b9001
  rw [hdef11502]
  refine TD.step [1, 5, 6] 1 rfl rfl rfl rfl rfl (EdgeOk.cons rfl ?_ ?_)
  · exact TO.u rfl rfl (TX.indexR (N := Edge.E) Try.runUnderlying36 Try.sizeOf40 rfl hn104 rfl (fun a w s => ho106.rd s (i := 0) rfl) hk3501 rfl (TO.nil (TE.toh (TE.td ((hdef11502 _ _ _ _).mp (hS1000_24 b9001))) 0 0 ⟨rfl, rfl, rfl, rfl, trivial⟩ rfl rfl)))
  refine EdgeOk.cons rfl ?_ ?_
  · exact TO.u rfl rfl (TX.loadRN (N := Edge.E) Try.isAgg40 Try.sizeOf40 rfl (fun a w s => ho106.rd s (i := 0) rfl) hk6501 rfl rfl (TO.nil (TE.toh (TE.td ((hdef11502 _ _ _ _).mp (hS1000_27 b9001))) 0 0 ⟨rfl, rfl, rfl, rfl, trivial⟩ rfl rfl)))
  refine EdgeOk.cons rfl ?_ ?_
  · exact TO.u rfl rfl (TX.alloc Try.zeroValue40 rfl rfl (fun b8001 => (TO.nil (TE.mvE 1 0 rfl rfl (TE.toh (TE.td ((hdef11502 _ _ _ _).mp (hS1000_28 b8001 b9001))) 0 0 ⟨rfl, rfl, rfl, rfl, rfl, trivial⟩ rfl rfl)))))
  exact EdgeOk.nil
 have hS1000_40 : ∀ (b8001 : Nat), ∀ (b9001 : Nat), T11501 6 [true, false, false, true, false, false, true, true, false, false] [(1, .pointer (some ⟨b1, 0, none⟩)), (5, .pointer (some ⟨b8001, 0, none⟩)), (6, .pointer (some ⟨b9001, 0, none⟩)), (32, .slice sp101 n102 cap103), (35, .slice sp101 n102 cap103)] ⟨[(b9001, .cells #[.int .i64 0, .int .i64 0] 40), (b8001, .cells #[.int .i64 0, .int .i64 0] 40), (r108, .deferred (some [])), (b13, .cells #[.slice sp9 3 3] 24), (b8, .cells #[.slice sp4 1 1] 24), (b3, .cells #[.slice none 0 0] 24), (b2, .cells #[.slice sp101 n102 cap103] 36), (b1, .cells #[.int .u8 149, .int .u8 0, .int .u8 0, .int .i16 0, .int .i32 0] 27)], [Hs105, Hs6, Hs11]⟩ := by
  intro b8001 b9001
  rw [hdef11502]
  refine TD.step [1, 4] 1 rfl rfl rfl rfl rfl (EdgeOk.cons rfl ?_ ?_)
  · exact TO.u rfl rfl (TX.indexR (N := Edge.E) Try.runUnderlying36 Try.sizeOf40 rfl hn104 rfl (fun a w s => ho106.rd s (i := 0) rfl) hk3501 rfl (TO.nil (TE.toh (TE.td ((hdef11502 _ _ _ _).mp (hS1000_25 b8001 b9001))) 0 0 ⟨rfl, rfl, rfl, rfl, rfl, trivial⟩ rfl rfl)))
  refine EdgeOk.cons rfl ?_ ?_
  · exact TO.u rfl rfl (TX.indexR (N := Edge.E) Try.runUnderlying36 Try.sizeOf40 rfl hn104 rfl (fun a w s => ho106.rd s (i := 0) rfl) hk6501 rfl (TO.nil (TE.toh (TE.td ((hdef11502 _ _ _ _).mp (hS1000_28 b8001 b9001))) 0 0 ⟨rfl, rfl, rfl, rfl, rfl, trivial⟩ rfl rfl)))
  exact EdgeOk.nil
 have hS1000_41 : ∀ (b8001 : Nat), T11501 6 [false, false, false, true, true, true, true, false, false, false] [(1, .pointer (some ⟨b1, 0, none⟩)), (2, .pointer (some ⟨b2, 0, none⟩)), (5, .pointer (some ⟨b8001, 0, none⟩)), (37, .agg #[.int .i64 ((gt x100 1).fFrom), .int .i64 ((gt x100 1).fTo)])] ⟨[(b8001, .cells #[.int .i64 0, .int .i64 0] 40), (r108, .deferred (some [])), (b13, .cells #[.slice sp9 3 3] 24), (b8, .cells #[.slice sp4 1 1] 24), (b3, .cells #[.slice none 0 0] 24), (b2, .cells #[.slice sp101 n102 cap103] 36), (b1, .cells #[.int .u8 149, .int .u8 0, .int .u8 0, .int .i16 0, .int .i32 0] 27)], [Hs105, Hs6, Hs11]⟩ := by
  intro b8001
  rw [hdef11502]
  refine TD.step [0, 7] 0 rfl rfl rfl rfl rfl (EdgeOk.cons rfl ?_ ?_)
  · exact TO.u rfl rfl (TX.load1 (i := 5) Try.isAgg36 rfl rfl rfl rfl (TO.nil (TE.toh (TE.td ((hdef11502 _ _ _ _).mp (hS1000_26 b8001))) 0 0 ⟨rfl, rfl, rfl, rfl, trivial⟩ rfl rfl)))
  refine EdgeOk.cons rfl ?_ ?_
  · exact TO.u rfl rfl (TX.alloc Try.zeroValue40 rfl rfl (fun b9001 => (TO.nil (TE.toh (TE.td ((hdef11502 _ _ _ _).mp (hS1000_29 b8001 b9001))) 0 0 ⟨rfl, rfl, rfl, rfl, rfl, trivial⟩ rfl rfl))))
  exact EdgeOk.nil
 have hS1000_42 : ∀ (b9001 : Nat), T11501 6 [false, false, false, true, true, true, false, true, false, false] [(1, .pointer (some ⟨b1, 0, none⟩)), (2, .pointer (some ⟨b2, 0, none⟩)), (6, .pointer (some ⟨b9001, 0, none⟩)), (37, .agg #[.int .i64 ((gt x100 1).fFrom), .int .i64 ((gt x100 1).fTo)])] ⟨[(b9001, .cells #[.int .i64 0, .int .i64 0] 40), (r108, .deferred (some [])), (b13, .cells #[.slice sp9 3 3] 24), (b8, .cells #[.slice sp4 1 1] 24), (b3, .cells #[.slice none 0 0] 24), (b2, .cells #[.slice sp101 n102 cap103] 36), (b1, .cells #[.int .u8 149, .int .u8 0, .int .u8 0, .int .i16 0, .int .i32 0] 27)], [Hs105, Hs6, Hs11]⟩ := by
  intro b9001
  rw [hdef11502]
  refine TD.step [0, 6] 0 rfl rfl rfl rfl rfl (EdgeOk.cons rfl ?_ ?_)
  · exact TO.u rfl rfl (TX.load1 (i := 5) Try.isAgg36 rfl rfl rfl rfl (TO.nil (TE.toh (TE.td ((hdef11502 _ _ _ _).mp (hS1000_27 b9001))) 0 0 ⟨rfl, rfl, rfl, rfl, trivial⟩ rfl rfl)))
  refine EdgeOk.cons rfl ?_ ?_
  · exact TO.u rfl rfl (TX.alloc Try.zeroValue40 rfl rfl (fun b8001 => (TO.nil (TE.mvE 1 0 rfl rfl (TE.toh (TE.td ((hdef11502 _ _ _ _).mp (hS1000_29 b8001 b9001))) 0 0 ⟨rfl, rfl, rfl, rfl, rfl, trivial⟩ rfl rfl)))))
  exact EdgeOk.nil
 have hS1000_43 : ∀ (b8001 : Nat), ∀ (b9001 : Nat), T11501 6 [false, false, false, true, true, false, true, true, false, false] [(1, .pointer (some ⟨b1, 0, none⟩)), (2, .pointer (some ⟨b2, 0, none⟩)), (5, .pointer (some ⟨b8001, 0, none⟩)), (6, .pointer (some ⟨b9001, 0, none⟩)), (36, .pointer (some (eAddr sp101 ((1 : Int).toNat * Edge.E.sz + 0))))] ⟨[(b9001, .cells #[.int .i64 0, .int .i64 0] 40), (b8001, .cells #[.int .i64 0, .int .i64 0] 40), (r108, .deferred (some [])), (b13, .cells #[.slice sp9 3 3] 24), (b8, .cells #[.slice sp4 1 1] 24), (b3, .cells #[.slice none 0 0] 24), (b2, .cells #[.slice sp101 n102 cap103] 36), (b1, .cells #[.int .u8 149, .int .u8 0, .int .u8 0, .int .i16 0, .int .i32 0] 27)], [Hs105, Hs6, Hs11]⟩ := by
  intro b8001 b9001
  rw [hdef11502]
  refine TD.step [0, 5] 0 rfl rfl rfl rfl rfl (EdgeOk.cons rfl ?_ ?_)
  · exact TO.u rfl rfl (TX.load1 (i := 6) Try.isAgg36 rfl rfl rfl rfl (TO.nil (TE.toh (TE.td ((hdef11502 _ _ _ _).mp (hS1000_28 b8001 b9001))) 0 0 ⟨rfl, rfl, rfl, rfl, rfl, trivial⟩ rfl rfl)))
  refine EdgeOk.cons rfl ?_ ?_
  · exact TO.u rfl rfl (TX.loadRN (N := Edge.E) Try.isAgg40 Try.sizeOf40 rfl (fun a w s => ho106.rd s (i := 0) rfl) hk6501 rfl rfl (TO.nil (TE.toh (TE.td ((hdef11502 _ _ _ _).mp (hS1000_29 b8001 b9001))) 0 0 ⟨rfl, rfl, rfl, rfl, rfl, trivial⟩ rfl rfl)))
  exact EdgeOk.nil
 have hS1000_44 : T11501 7 [true, true, true, false, false, false, false, false, false, false] [(1, .pointer (some ⟨b1, 0, none⟩)), (2, .pointer (some ⟨b2, 0, none⟩)), (34, .agg #[.int .i64 ((gt x100 0).fFrom), .int .i64 ((gt x100 0).fTo)])] ⟨[(r108, .deferred (some [])), (b13, .cells #[.slice sp9 3 3] 24), (b8, .cells #[.slice sp4 1 1] 24), (b3, .cells #[.slice none 0 0] 24), (b2, .cells #[.slice sp101 n102 cap103] 36), (b1, .cells #[.int .u8 149, .int .u8 0, .int .u8 0, .int .i16 0, .int .i32 0] 27)], [Hs105, Hs6, Hs11]⟩ := by
  rw [hdef11502]
  refine TD.step [3, 6, 7] 3 rfl rfl rfl rfl rfl (EdgeOk.cons rfl ?_ ?_)
  · exact TO.u rfl rfl (TX.load1 (i := 4) Try.isAgg36 rfl rfl rfl rfl (TO.nil (TE.toh (TE.td ((hdef11502 _ _ _ _).mp (hS1000_30))) 0 0 ⟨rfl, rfl, rfl, trivial⟩ rfl rfl)))
  refine EdgeOk.cons rfl ?_ ?_
  · exact TO.u rfl rfl (TX.alloc Try.zeroValue40 rfl rfl (fun b8001 => (TO.nil (TE.toh (TE.td ((hdef11502 _ _ _ _).mp (hS1000_31 b8001))) 0 0 ⟨rfl, rfl, rfl, rfl, trivial⟩ rfl rfl))))
  refine EdgeOk.cons rfl ?_ ?_
  · exact TO.u rfl rfl (TX.alloc Try.zeroValue40 rfl rfl (fun b9001 => (TO.nil (TE.toh (TE.td ((hdef11502 _ _ _ _).mp (hS1000_32 b9001))) 0 0 ⟨rfl, rfl, rfl, rfl, trivial⟩ rfl rfl))))
  exact EdgeOk.nil
 have hS1000_45 : T11501 7 [true, true, false, true, false, false, false, false, false, false] [(1, .pointer (some ⟨b1, 0, none⟩)), (33, .pointer (some (eAddr sp101 ((0 : Int).toNat * Edge.E.sz + 0)))), (35, .slice sp101 n102 cap103)] ⟨[(r108, .deferred (some [])), (b13, .cells #[.slice sp9 3 3] 24), (b8, .cells #[.slice sp4 1 1] 24), (b3, .cells #[.slice none 0 0] 24), (b2, .cells #[.slice sp101 n102 cap103] 36), (b1, .cells #[.int .u8 149, .int .u8 0, .int .u8 0, .int .i16 0, .int .i32 0] 27)], [Hs105, Hs6, Hs11]⟩ := by
  rw [hdef11502]
  refine TD.step [2, 4, 6, 7] 2 rfl rfl rfl rfl rfl (EdgeOk.cons rfl ?_ ?_)
  · exact TO.u rfl rfl (TX.loadRN (N := Edge.E) Try.isAgg40 Try.sizeOf40 rfl (fun a w s => ho106.rd s (i := 0) rfl) hk3501 rfl rfl (TO.nil (TE.toh (TE.td ((hdef11502 _ _ _ _).mp (hS1000_30))) 0 0 ⟨rfl, rfl, rfl, trivial⟩ rfl rfl)))
  refine EdgeOk.cons rfl ?_ ?_
  · exact TO.u rfl rfl (TX.indexR (N := Edge.E) Try.runUnderlying36 Try.sizeOf40 rfl hn104 rfl (fun a w s => ho106.rd s (i := 0) rfl) hk6501 rfl (TO.nil (TE.toh (TE.td ((hdef11502 _ _ _ _).mp (hS1000_33))) 0 0 ⟨rfl, rfl, rfl, trivial⟩ rfl rfl)))
  refine EdgeOk.cons rfl ?_ ?_
  · exact TO.u rfl rfl (TX.alloc Try.zeroValue40 rfl rfl (fun b8001 => (TO.nil (TE.toh (TE.td ((hdef11502 _ _ _ _).mp (hS1000_34 b8001))) 0 0 ⟨rfl, rfl, rfl, rfl, trivial⟩ rfl rfl))))
  refine EdgeOk.cons rfl ?_ ?_
  · exact TO.u rfl rfl (TX.alloc Try.zeroValue40 rfl rfl (fun b9001 => (TO.nil (TE.toh (TE.td ((hdef11502 _ _ _ _).mp (hS1000_35 b9001))) 0 0 ⟨rfl, rfl, rfl, rfl, trivial⟩ rfl rfl))))
  exact EdgeOk.nil
 have hS1000_46 : ∀ (b8001 : Nat), T11501 7 [true, true, false, false, false, false, true, false, false, false] [(1, .pointer (some ⟨b1, 0, none⟩)), (2, .pointer (some ⟨b2, 0, none⟩)), (5, .pointer (some ⟨b8001, 0, none⟩)), (33, .pointer (some (eAddr sp101 ((0 : Int).toNat * Edge.E.sz + 0))))] ⟨[(b8001, .cells #[.int .i64 0, .int .i64 0] 40), (r108, .deferred (some [])), (b13, .cells #[.slice sp9 3 3] 24), (b8, .cells #[.slice sp4 1 1] 24), (b3, .cells #[.slice none 0 0] 24), (b2, .cells #[.slice sp101 n102 cap103] 36), (b1, .cells #[.int .u8 149, .int .u8 0, .int .u8 0, .int .i16 0, .int .i32 0] 27)], [Hs105, Hs6, Hs11]⟩ := by
  intro b8001
  rw [hdef11502]
  refine TD.step [2, 3, 7] 2 rfl rfl rfl rfl rfl (EdgeOk.cons rfl ?_ ?_)
  · exact TO.u rfl rfl (TX.loadRN (N := Edge.E) Try.isAgg40 Try.sizeOf40 rfl (fun a w s => ho106.rd s (i := 0) rfl) hk3501 rfl rfl (TO.nil (TE.toh (TE.td ((hdef11502 _ _ _ _).mp (hS1000_31 b8001))) 0 0 ⟨rfl, rfl, rfl, rfl, trivial⟩ rfl rfl)))
  refine EdgeOk.cons rfl ?_ ?_
  · exact TO.u rfl rfl (TX.load1 (i := 5) Try.isAgg36 rfl rfl rfl rfl (TO.nil (TE.toh (TE.td ((hdef11502 _ _ _ _).mp (hS1000_34 b8001))) 0 0 ⟨rfl, rfl, rfl, rfl, trivial⟩ rfl rfl)))
  refine EdgeOk.cons rfl ?_ ?_
  · exact TO.u rfl rfl (TX.alloc Try.zeroValue40 rfl rfl (fun b9001 => (TO.nil (TE.toh (TE.td ((hdef11502 _ _ _ _).mp (hS1000_36 b8001 b9001))) 0 0 ⟨rfl, rfl, rfl, rfl, rfl, trivial⟩ rfl rfl))))
  exact EdgeOk.nil
 have hS1000_47 : ∀ (b9001 : Nat), T11501 7 [true, true, false, false, false, false, false, true, false, false] [(1, .pointer (some ⟨b1, 0, none⟩)), (2, .pointer (some ⟨b2, 0, none⟩)), (6, .pointer (some ⟨b9001, 0, none⟩)), (33, .pointer (some (eAddr sp101 ((0 : Int).toNat * Edge.E.sz + 0))))] ⟨[(b9001, .cells #[.int .i64 0, .int .i64 0] 40), (r108, .deferred (some [])), (b13, .cells #[.slice sp9 3 3] 24), (b8, .cells #[.slice sp4 1 1] 24), (b3, .cells #[.slice none 0 0] 24), (b2, .cells #[.slice sp101 n102 cap103] 36), (b1, .cells #[.int .u8 149, .int .u8 0, .int .u8 0, .int .i16 0, .int .i32 0] 27)], [Hs105, Hs6, Hs11]⟩ := by
  intro b9001
  rw [hdef11502]
  refine TD.step [2, 3, 6] 2 rfl rfl rfl rfl rfl (EdgeOk.cons rfl ?_ ?_)
  · exact TO.u rfl rfl (TX.loadRN (N := Edge.E) Try.isAgg40 Try.sizeOf40 rfl (fun a w s => ho106.rd s (i := 0) rfl) hk3501 rfl rfl (TO.nil (TE.toh (TE.td ((hdef11502 _ _ _ _).mp (hS1000_32 b9001))) 0 0 ⟨rfl, rfl, rfl, rfl, trivial⟩ rfl rfl)))
  refine EdgeOk.cons rfl ?_ ?_
  · exact TO.u rfl rfl (TX.load1 (i := 5) Try.isAgg36 rfl rfl rfl rfl (TO.nil (TE.toh (TE.td ((hdef11502 _ _ _ _).mp (hS1000_35 b9001))) 0 0 ⟨rfl, rfl, rfl, rfl, trivial⟩ rfl rfl)))
  refine EdgeOk.cons rfl ?_ ?_
  · exact TO.u rfl rfl (TX.alloc Try.zeroValue40 rfl rfl (fun b8001 => (TO.nil (TE.mvE 1 0 rfl rfl (TE.toh (TE.td ((hdef11502 _ _ _ _).mp (hS1000_36 b8001 b9001))) 0 0 ⟨rfl, rfl, rfl, rfl, rfl, trivial⟩ rfl rfl)))))
  exact EdgeOk.nil
 have hS1000_48 : T11501 7 [true, false, false, true, true, false, false, false, false, false] [(1, .pointer (some ⟨b1, 0, none⟩)), (32, .slice sp101 n102 cap103), (36, .pointer (some (eAddr sp101 ((1 : Int).toNat * Edge.E.sz + 0))))] ⟨[(r108, .deferred (some [])), (b13, .cells #[.slice sp9 3 3] 24), (b8, .cells #[.slice sp4 1 1] 24), (b3, .cells #[.slice none 0 0] 24), (b2, .cells #[.slice sp101 n102 cap103] 36), (b1, .cells #[.int .u8 149, .int .u8 0, .int .u8 0, .int .i16 0, .int .i32 0] 27)], [Hs105, Hs6, Hs11]⟩ := by
  rw [hdef11502]
  refine TD.step [1, 5, 6, 7] 1 rfl rfl rfl rfl rfl (EdgeOk.cons rfl ?_ ?_)
  · exact TO.u rfl rfl (TX.indexR (N := Edge.E) Try.runUnderlying36 Try.sizeOf40 rfl hn104 rfl (fun a w s => ho106.rd s (i := 0) rfl) hk3501 rfl (TO.nil (TE.toh (TE.td ((hdef11502 _ _ _ _).mp (hS1000_33))) 0 0 ⟨rfl, rfl, rfl, trivial⟩ rfl rfl)))
  refine EdgeOk.cons rfl ?_ ?_
  · exact TO.u rfl rfl (TX.loadRN (N := Edge.E) Try.isAgg40 Try.sizeOf40 rfl (fun a w s => ho106.rd s (i := 0) rfl) hk6501 rfl rfl (TO.nil (TE.toh (TE.td ((hdef11502 _ _ _ _).mp (hS1000_37))) 0 0 ⟨rfl, rfl, rfl, trivial⟩ rfl rfl)))
  refine EdgeOk.cons rfl ?_ ?_
  · exact TO.u rfl rfl (TX.alloc Try.zeroValue40 rfl rfl (fun b8001 => (TO.nil (TE.toh (TE.td ((hdef11502 _ _ _ _).mp (hS1000_38 b8001))) 0 0 ⟨rfl, rfl, rfl, rfl, trivial⟩ rfl rfl))))
  refine EdgeOk.cons rfl ?_ ?_
  · exact TO.u rfl rfl (TX.alloc Try.zeroValue40 rfl rfl (fun b9001 => (TO.nil (TE.toh (TE.td ((hdef11502 _ _ _ _).mp (hS1000_39 b9001))) 0 0 ⟨rfl, rfl, rfl, rfl, trivial⟩ rfl rfl))))
  exact EdgeOk.nil
 have hS1000_49 : ∀ (b8001 : Nat), T11501 7 [true, false, false, true, false, false, true, false, false, false] [(1, .pointer (some ⟨b1, 0, none⟩)), (5, .pointer (some ⟨b8001, 0, none⟩)), (32, .slice sp101 n102 cap103), (35, .slice sp101 n102 cap103)] ⟨[(b8001, .cells #[.int .i64 0, .int .i64 0] 40), (r108, .deferred (some [])), (b13, .cells #[.slice sp9 3 3] 24), (b8, .cells #[.slice sp4 1 1] 24), (b3, .cells #[.slice none 0 0] 24), (b2, .cells #[.slice sp101 n102 cap103] 36), (b1, .cells #[.int .u8 149, .int .u8 0, .int .u8 0, .int .i16 0, .int .i32 0] 27)], [Hs105, Hs6, Hs11]⟩ := by
  intro b8001
  rw [hdef11502]
  refine TD.step [1, 4, 7] 1 rfl rfl rfl rfl rfl (EdgeOk.cons rfl ?_ ?_)
  · exact TO.u rfl rfl (TX.indexR (N := Edge.E) Try.runUnderlying36 Try.sizeOf40 rfl hn104 rfl (fun a w s => ho106.rd s (i := 0) rfl) hk3501 rfl (TO.nil (TE.toh (TE.td ((hdef11502 _ _ _ _).mp (hS1000_34 b8001))) 0 0 ⟨rfl, rfl, rfl, rfl, trivial⟩ rfl rfl)))
  refine EdgeOk.cons rfl ?_ ?_
  · exact TO.u rfl rfl (TX.indexR (N := Edge.E) Try.runUnderlying36 Try.sizeOf40 rfl hn104 rfl (fun a w s => ho106.rd s (i := 0) rfl) hk6501 rfl (TO.nil (TE.toh (TE.td ((hdef11502 _ _ _ _).mp (hS1000_38 b8001))) 0 0 ⟨rfl, rfl, rfl, rfl, trivial⟩ rfl rfl)))
  refine EdgeOk.cons rfl ?_ ?_
  · exact TO.u rfl rfl (TX.alloc Try.zeroValue40 rfl rfl (fun b9001 => (TO.nil (TE.toh (TE.td ((hdef11502 _ _ _ _).mp (hS1000_40 b8001 b9001))) 0 0 ⟨rfl, rfl, rfl, rfl, rfl, trivial⟩ rfl rfl))))
  exact EdgeOk.nil
 have hS1000_50 : ∀ (b9001 : Nat), T11501 7 [true, false, false, true, false, false, false, true, false, false] [(1, .pointer (some ⟨b1, 0, none⟩)), (6, .pointer (some ⟨b9001, 0, none⟩)), (32, .slice sp101 n102 cap103), (35, .slice sp101 n102 cap103)] ⟨[(b9001, .cells #[.int .i64 0, .int .i64 0] 40), (r108, .deferred (some [])), (b13, .cells #[.slice sp9 3 3] 24), (b8, .cells #[.slice sp4 1 1] 24), (b3, .cells #[.slice none 0 0] 24), (b2, .cells #[.slice sp101 n102 cap103] 36), (b1, .cells #[.int .u8 149, .int .u8 0, .int .u8 0, .int .i16 0, .int .i32 0] 27)], [Hs105, Hs6, Hs11]⟩ := by
  intro b9001
  rw [hdef11502]
  refine TD.step [1, 4, 6] 1 rfl rfl rfl rfl rfl (EdgeOk.cons rfl ?_ ?_)
  · exact TO.u rfl rfl (TX.indexR (N := Edge.E) Try.runUnderlying36 Try.sizeOf40 rfl hn104 rfl (fun a w s => ho106.rd s (i := 0) rfl) hk3501 rfl (TO.nil (TE.toh (TE.td ((hdef11502 _ _ _ _).mp (hS1000_35 b9001))) 0 0 ⟨rfl, rfl, rfl, rfl, trivial⟩ rfl rfl)))
  refine EdgeOk.cons rfl ?_ ?_
  · exact TO.u rfl rfl (TX.indexR (N := Edge.E) Try.runUnderlying36 Try.sizeOf40 rfl hn104 rfl (fun a w s => ho106.rd s (i := 0) rfl) hk6501 rfl (TO.nil (TE.toh (TE.td ((hdef11502 _ _ _ _).mp (hS1000_39 b9001))) 0 0 ⟨rfl, rfl, rfl, rfl, trivial⟩ rfl rfl)))
  refine EdgeOk.cons rfl ?_ ?_
  · exact TO.u rfl rfl (TX.alloc Try.zeroValue40 rfl rfl (fun b8001 => (TO.nil (TE.mvE 1 0 rfl rfl (TE.toh (TE.td ((hdef11502 _ _ _ _).mp (hS1000_40 b8001 b9001))) 0 0 ⟨rfl, rfl, rfl, rfl, rfl, trivial⟩ rfl rfl)))))
  exact EdgeOk.nil
 have hS1000_51 : ∀ (b8001 : Nat), ∀ (b9001 : Nat), T11501 7 [true, false, false, false, false, false, true, true, false, false] [(1, .pointer (some ⟨b1, 0, none⟩)), (2, .pointer (some ⟨b2, 0, none⟩)), (5, .pointer (some ⟨b8001, 0, none⟩)), (6, .pointer (some ⟨b9001, 0, none⟩)), (32, .slice sp101 n102 cap103)] ⟨[(b9001, .cells #[.int .i64 0, .int .i64 0] 40), (b8001, .cells #[.int .i64 0, .int .i64 0] 40), (r108, .deferred (some [])), (b13, .cells #[.slice sp9 3 3] 24), (b8, .cells #[.slice sp4 1 1] 24), (b3, .cells #[.slice none 0 0] 24), (b2, .cells #[.slice sp101 n102 cap103] 36), (b1, .cells #[.int .u8 149, .int .u8 0, .int .u8 0, .int .i16 0, .int .i32 0] 27)], [Hs105, Hs6, Hs11]⟩ := by
  intro b8001 b9001
  rw [hdef11502]
  refine TD.step [1, 3] 1 rfl rfl rfl rfl rfl (EdgeOk.cons rfl ?_ ?_)
  · exact TO.u rfl rfl (TX.indexR (N := Edge.E) Try.runUnderlying36 Try.sizeOf40 rfl hn104 rfl (fun a w s => ho106.rd s (i := 0) rfl) hk3501 rfl (TO.nil (TE.toh (TE.td ((hdef11502 _ _ _ _).mp (hS1000_36 b8001 b9001))) 0 0 ⟨rfl, rfl, rfl, rfl, rfl, trivial⟩ rfl rfl)))
  refine EdgeOk.cons rfl ?_ ?_
  · exact TO.u rfl rfl (TX.load1 (i := 6) Try.isAgg36 rfl rfl rfl rfl (TO.nil (TE.toh (TE.td ((hdef11502 _ _ _ _).mp (hS1000_40 b8001 b9001))) 0 0 ⟨rfl, rfl, rfl, rfl, rfl, trivial⟩ rfl rfl)))
  exact EdgeOk.nil
 have hS1000_52 : T11501 7 [false, false, false, true, true, true, false, false, false, false] [(1, .pointer (some ⟨b1, 0, none⟩)), (2, .pointer (some ⟨b2, 0, none⟩)), (37, .agg #[.int .i64 ((gt x100 1).fFrom), .int .i64 ((gt x100 1).fTo)])] ⟨[(r108, .deferred (some [])), (b13, .cells #[.slice sp9 3 3] 24), (b8, .cells #[.slice sp4 1 1] 24), (b3, .cells #[.slice none 0 0] 24), (b2, .cells #[.slice sp101 n102 cap103] 36), (b1, .cells #[.int .u8 149, .int .u8 0, .int .u8 0, .int .i16 0, .int .i32 0] 27)], [Hs105, Hs6, Hs11]⟩ := by
  rw [hdef11502]
  refine TD.step [0, 6, 7] 0 rfl rfl rfl rfl rfl (EdgeOk.cons rfl ?_ ?_)
  · exact TO.u rfl rfl (TX.load1 (i := 4) Try.isAgg36 rfl rfl rfl rfl (TO.nil (TE.toh (TE.td ((hdef11502 _ _ _ _).mp (hS1000_37))) 0 0 ⟨rfl, rfl, rfl, trivial⟩ rfl rfl)))
  refine EdgeOk.cons rfl ?_ ?_
  · exact TO.u rfl rfl (TX.alloc Try.zeroValue40 rfl rfl (fun b8001 => (TO.nil (TE.toh (TE.td ((hdef11502 _ _ _ _).mp (hS1000_41 b8001))) 0 0 ⟨rfl, rfl, rfl, rfl, trivial⟩ rfl rfl))))
  refine EdgeOk.cons rfl ?_ ?_
  · exact TO.u rfl rfl (TX.alloc Try.zeroValue40 rfl rfl (fun b9001 => (TO.nil (TE.toh (TE.td ((hdef11502 _ _ _ _).mp (hS1000_42 b9001))) 0 0 ⟨rfl, rfl, rfl, rfl, trivial⟩ rfl rfl))))
  exact EdgeOk.nil
 have hS1000_53 : ∀ (b8001 : Nat), T11501 7 [false, false, false, true, true, false, true, false, false, false] [(1, .pointer (some ⟨b1, 0, none⟩)), (2, .pointer (some ⟨b2, 0, none⟩)), (5, .pointer (some ⟨b8001, 0, none⟩)), (36, .pointer (some (eAddr sp101 ((1 : Int).toNat * Edge.E.sz + 0))))] ⟨[(b8001, .cells #[.int .i64 0, .int .i64 0] 40), (r108, .deferred (some [])), (b13, .cells #[.slice sp9 3 3] 24), (b8, .cells #[.slice sp4 1 1] 24), (b3, .cells #[.slice none 0 0] 24), (b2, .cells #[.slice sp101 n102 cap103] 36), (b1, .cells #[.int .u8 149, .int .u8 0, .int .u8 0, .int .i16 0, .int .i32 0] 27)], [Hs105, Hs6, Hs11]⟩ := by
  intro b8001
  rw [hdef11502]
  refine TD.step [0, 5, 7] 0 rfl rfl rfl rfl rfl (EdgeOk.cons rfl ?_ ?_)
  · exact TO.u rfl rfl (TX.load1 (i := 5) Try.isAgg36 rfl rfl rfl rfl (TO.nil (TE.toh (TE.td ((hdef11502 _ _ _ _).mp (hS1000_38 b8001))) 0 0 ⟨rfl, rfl, rfl, rfl, trivial⟩ rfl rfl)))
  refine EdgeOk.cons rfl ?_ ?_
  · exact TO.u rfl rfl (TX.loadRN (N := Edge.E) Try.isAgg40 Try.sizeOf40 rfl (fun a w s => ho106.rd s (i := 0) rfl) hk6501 rfl rfl (TO.nil (TE.toh (TE.td ((hdef11502 _ _ _ _).mp (hS1000_41 b8001))) 0 0 ⟨rfl, rfl, rfl, rfl, trivial⟩ rfl rfl)))
  refine EdgeOk.cons rfl ?_ ?_
  · exact TO.u rfl rfl (TX.alloc Try.zeroValue40 rfl rfl (fun b9001 => (TO.nil (TE.toh (TE.td ((hdef11502 _ _ _ _).mp (hS1000_43 b8001 b9001))) 0 0 ⟨rfl, rfl, rfl, rfl, rfl, trivial⟩ rfl rfl))))
  exact EdgeOk.nil
 have hS1000_54 : ∀ (b9001 : Nat), T11501 7 [false, false, false, true, true, false, false, true, false, false] [(1, .pointer (some ⟨b1, 0, none⟩)), (2, .pointer (some ⟨b2, 0, none⟩)), (6, .pointer (some ⟨b9001, 0, none⟩)), (36, .pointer (some (eAddr sp101 ((1 : Int).toNat * Edge.E.sz + 0))))] ⟨[(b9001, .cells #[.int .i64 0, .int .i64 0] 40), (r108, .deferred (some [])), (b13, .cells #[.slice sp9 3 3] 24), (b8, .cells #[.slice sp4 1 1] 24), (b3, .cells #[.slice none 0 0] 24), (b2, .cells #[.slice sp101 n102 cap103] 36), (b1, .cells #[.int .u8 149, .int .u8 0, .int .u8 0, .int .i16 0, .int .i32 0] 27)], [Hs105, Hs6, Hs11]⟩ := by
  intro b9001
  rw [hdef11502]
  refine TD.step [0, 5, 6] 0 rfl rfl rfl rfl rfl (EdgeOk.cons rfl ?_ ?_)
  · exact TO.u rfl rfl (TX.load1 (i := 5) Try.isAgg36 rfl rfl rfl rfl (TO.nil (TE.toh (TE.td ((hdef11502 _ _ _ _).mp (hS1000_39 b9001))) 0 0 ⟨rfl, rfl, rfl, rfl, trivial⟩ rfl rfl)))
  refine EdgeOk.cons rfl ?_ ?_
  · exact TO.u rfl rfl (TX.loadRN (N := Edge.E) Try.isAgg40 Try.sizeOf40 rfl (fun a w s => ho106.rd s (i := 0) rfl) hk6501 rfl rfl (TO.nil (TE.toh (TE.td ((hdef11502 _ _ _ _).mp (hS1000_42 b9001))) 0 0 ⟨rfl, rfl, rfl, rfl, trivial⟩ rfl rfl)))
  refine EdgeOk.cons rfl ?_ ?_
  · exact TO.u rfl rfl (TX.alloc Try.zeroValue40 rfl rfl (fun b8001 => (TO.nil (TE.mvE 1 0 rfl rfl (TE.toh (TE.td ((hdef11502 _ _ _ _).mp (hS1000_43 b8001 b9001))) 0 0 ⟨rfl, rfl, rfl, rfl, rfl, trivial⟩ rfl rfl)))))
  exact EdgeOk.nil
 have hS1000_55 : ∀ (b8001 : Nat), ∀ (b9001 : Nat), T11501 7 [false, false, false, true, false, false, true, true, false, false] [(1, .pointer (some ⟨b1, 0, none⟩)), (2, .pointer (some ⟨b2, 0, none⟩)), (5, .pointer (some ⟨b8001, 0, none⟩)), (6, .pointer (some ⟨b9001, 0, none⟩)), (35, .slice sp101 n102 cap103)] ⟨[(b9001, .cells #[.int .i64 0, .int .i64 0] 40), (b8001, .cells #[.int .i64 0, .int .i64 0] 40), (r108, .deferred (some [])), (b13, .cells #[.slice sp9 3 3] 24), (b8, .cells #[.slice sp4 1 1] 24), (b3, .cells #[.slice none 0 0] 24), (b2, .cells #[.slice sp101 n102 cap103] 36), (b1, .cells #[.int .u8 149, .int .u8 0, .int .u8 0, .int .i16 0, .int .i32 0] 27)], [Hs105, Hs6, Hs11]⟩ := by
  intro b8001 b9001
  rw [hdef11502]
  refine TD.step [0, 4] 0 rfl rfl rfl rfl rfl (EdgeOk.cons rfl ?_ ?_)
  · exact TO.u rfl rfl (TX.load1 (i := 6) Try.isAgg36 rfl rfl rfl rfl (TO.nil (TE.toh (TE.td ((hdef11502 _ _ _ _).mp (hS1000_40 b8001 b9001))) 0 0 ⟨rfl, rfl, rfl, rfl, rfl, trivial⟩ rfl rfl)))
  refine EdgeOk.cons rfl ?_ ?_
  · exact TO.u rfl rfl (TX.indexR (N := Edge.E) Try.runUnderlying36 Try.sizeOf40 rfl hn104 rfl (fun a w s => ho106.rd s (i := 0) rfl) hk6501 rfl (TO.nil (TE.toh (TE.td ((hdef11502 _ _ _ _).mp (hS1000_43 b8001 b9001))) 0 0 ⟨rfl, rfl, rfl, rfl, rfl, trivial⟩ rfl rfl)))
  exact EdgeOk.nil
 have hS1000_56 : T11501 8 [true, true, false, false, false, false, false, false, false, false] [(1, .pointer (some ⟨b1, 0, none⟩)), (2, .pointer (some ⟨b2, 0, none⟩)), (33, .pointer (some (eAddr sp101 ((0 : Int).toNat * Edge.E.sz + 0))))] ⟨[(r108, .deferred (some [])), (b13, .cells #[.slice sp9 3 3] 24), (b8, .cells #[.slice sp4 1 1] 24), (b3, .cells #[.slice none 0 0] 24), (b2, .cells #[.slice sp101 n102 cap103] 36), (b1, .cells #[.int .u8 149, .int .u8 0, .int .u8 0, .int .i16 0, .int .i32 0] 27)], [Hs105, Hs6, Hs11]⟩ := by
  rw [hdef11502]
  refine TD.step [2, 3, 6, 7] 2 rfl rfl rfl rfl rfl (EdgeOk.cons rfl ?_ ?_)
  · exact TO.u rfl rfl (TX.loadRN (N := Edge.E) Try.isAgg40 Try.sizeOf40 rfl (fun a w s => ho106.rd s (i := 0) rfl) hk3501 rfl rfl (TO.nil (TE.toh (TE.td ((hdef11502 _ _ _ _).mp (hS1000_44))) 0 0 ⟨rfl, rfl, rfl, trivial⟩ rfl rfl)))
  refine EdgeOk.cons rfl ?_ ?_
  · exact TO.u rfl rfl (TX.load1 (i := 4) Try.isAgg36 rfl rfl rfl rfl (TO.nil (TE.toh (TE.td ((hdef11502 _ _ _ _).mp (hS1000_45))) 0 0 ⟨rfl, rfl, rfl, trivial⟩ rfl rfl)))
  refine EdgeOk.cons rfl ?_ ?_
  · exact TO.u rfl rfl (TX.alloc Try.zeroValue40 rfl rfl (fun b8001 => (TO.nil (TE.toh (TE.td ((hdef11502 _ _ _ _).mp (hS1000_46 b8001))) 0 0 ⟨rfl, rfl, rfl, rfl, trivial⟩ rfl rfl))))
  refine EdgeOk.cons rfl ?_ ?_
  · exact TO.u rfl rfl (TX.alloc Try.zeroValue40 rfl rfl (fun b9001 => (TO.nil (TE.toh (TE.td ((hdef11502 _ _ _ _).mp (hS1000_47 b9001))) 0 0 ⟨rfl, rfl, rfl, rfl, trivial⟩ rfl rfl))))
  exact EdgeOk.nil
 have hS1000_57 : T11501 8 [true, false, false, true, false, false, false, false, false, false] [(1, .pointer (some ⟨b1, 0, none⟩)), (32, .slice sp101 n102 cap103), (35, .slice sp101 n102 cap103)] ⟨[(r108, .deferred (some [])), (b13, .cells #[.slice sp9 3 3] 24), (b8, .cells #[.slice sp4 1 1] 24), (b3, .cells #[.slice none 0 0] 24), (b2, .cells #[.slice sp101 n102 cap103] 36), (b1, .cells #[.int .u8 149, .int .u8 0, .int .u8 0, .int .i16 0, .int .i32 0] 27)], [Hs105, Hs6, Hs11]⟩ := by
  rw [hdef11502]
  refine TD.step [1, 4, 6, 7] 1 rfl rfl rfl rfl rfl (EdgeOk.cons rfl ?_ ?_)
  · exact TO.u rfl rfl (TX.indexR (N := Edge.E) Try.runUnderlying36 Try.sizeOf40 rfl hn104 rfl (fun a w s => ho106.rd s (i := 0) rfl) hk3501 rfl (TO.nil (TE.toh (TE.td ((hdef11502 _ _ _ _).mp (hS1000_45))) 0 0 ⟨rfl, rfl, rfl, trivial⟩ rfl rfl)))
  refine EdgeOk.cons rfl ?_ ?_
  · exact TO.u rfl rfl (TX.indexR (N := Edge.E) Try.runUnderlying36 Try.sizeOf40 rfl hn104 rfl (fun a w s => ho106.rd s (i := 0) rfl) hk6501 rfl (TO.nil (TE.toh (TE.td ((hdef11502 _ _ _ _).mp (hS1000_48))) 0 0 ⟨rfl, rfl, rfl, trivial⟩ rfl rfl)))
  refine EdgeOk.cons rfl ?_ ?_
  · exact TO.u rfl rfl (TX.alloc Try.zeroValue40 rfl rfl (fun b8001 => (TO.nil (TE.toh (TE.td ((hdef11502 _ _ _ _).mp (hS1000_49 b8001))) 0 0 ⟨rfl, rfl, rfl, rfl, trivial⟩ rfl rfl))))
  refine EdgeOk.cons rfl ?_ ?_
  · exact TO.u rfl rfl (TX.alloc Try.zeroValue40 rfl rfl (fun b9001 => (TO.nil (TE.toh (TE.td ((hdef11502 _ _ _ _).mp (hS1000_50 b9001))) 0 0 ⟨rfl, rfl, rfl, rfl, trivial⟩ rfl rfl))))
  exact EdgeOk.nil
 have hS1000_58 : ∀ (b8001 : Nat), T11501 8 [true, false, false, false, false, false, true, false, false, false] [(1, .pointer (some ⟨b1, 0, none⟩)), (2, .pointer (some ⟨b2, 0, none⟩)), (5, .pointer (some ⟨b8001, 0, none⟩)), (32, .slice sp101 n102 cap103)] ⟨[(b8001, .cells #[.int .i64 0, .int .i64 0] 40), (r108, .deferred (some [])), (b13, .cells #[.slice sp9 3 3] 24), (b8, .cells #[.slice sp4 1 1] 24), (b3, .cells #[.slice none 0 0] 24), (b2, .cells #[.slice sp101 n102 cap103] 36), (b1, .cells #[.int .u8 149, .int .u8 0, .int .u8 0, .int .i16 0, .int .i32 0] 27)], [Hs105, Hs6, Hs11]⟩ := by
  intro b8001
  rw [hdef11502]
  refine TD.step [1, 3, 7] 1 rfl rfl rfl rfl rfl (EdgeOk.cons rfl ?_ ?_)
  · exact TO.u rfl rfl (TX.indexR (N := Edge.E) Try.runUnderlying36 Try.sizeOf40 rfl hn104 rfl (fun a w s => ho106.rd s (i := 0) rfl) hk3501 rfl (TO.nil (TE.toh (TE.td ((hdef11502 _ _ _ _).mp (hS1000_46 b8001))) 0 0 ⟨rfl, rfl, rfl, rfl, trivial⟩ rfl rfl)))
  refine EdgeOk.cons rfl ?_ ?_
  · exact TO.u rfl rfl (TX.load1 (i := 5) Try.isAgg36 rfl rfl rfl rfl (TO.nil (TE.toh (TE.td ((hdef11502 _ _ _ _).mp (hS1000_49 b8001))) 0 0 ⟨rfl, rfl, rfl, rfl, trivial⟩ rfl rfl)))
  refine EdgeOk.cons rfl ?_ ?_
  · exact TO.u rfl rfl (TX.alloc Try.zeroValue40 rfl rfl (fun b9001 => (TO.nil (TE.toh (TE.td ((hdef11502 _ _ _ _).mp (hS1000_51 b8001 b9001))) 0 0 ⟨rfl, rfl, rfl, rfl, rfl, trivial⟩ rfl rfl))))
  exact EdgeOk.nil
 have hS1000_59 : ∀ (b9001 : Nat), T11501 8 [true, false, false, false, false, false, false, true, false, false] [(1, .pointer (some ⟨b1, 0, none⟩)), (2, .pointer (some ⟨b2, 0, none⟩)), (6, .pointer (some ⟨b9001, 0, none⟩)), (32, .slice sp101 n102 cap103)] ⟨[(b9001, .cells #[.int .i64 0, .int .i64 0] 40), (r108, .deferred (some [])), (b13, .cells #[.slice sp9 3 3] 24), (b8, .cells #[.slice sp4 1 1] 24), (b3, .cells #[.slice none 0 0] 24), (b2, .cells #[.slice sp101 n102 cap103] 36), (b1, .cells #[.int .u8 149, .int .u8 0, .int .u8 0, .int .i16 0, .int .i32 0] 27)], [Hs105, Hs6, Hs11]⟩ := by
  intro b9001
  rw [hdef11502]
  refine TD.step [1, 3, 6] 1 rfl rfl rfl rfl rfl (EdgeOk.cons rfl ?_ ?_)
  · exact TO.u rfl rfl (TX.indexR (N := Edge.E) Try.runUnderlying36 Try.sizeOf40 rfl hn104 rfl (fun a w s => ho106.rd s (i := 0) rfl) hk3501 rfl (TO.nil (TE.toh (TE.td ((hdef11502 _ _ _ _).mp (hS1000_47 b9001))) 0 0 ⟨rfl, rfl, rfl, rfl, trivial⟩ rfl rfl)))
  refine EdgeOk.cons rfl ?_ ?_
  · exact TO.u rfl rfl (TX.load1 (i := 5) Try.isAgg36 rfl rfl rfl rfl (TO.nil (TE.toh (TE.td ((hdef11502 _ _ _ _).mp (hS1000_50 b9001))) 0 0 ⟨rfl, rfl, rfl, rfl, trivial⟩ rfl rfl)))
  refine EdgeOk.cons rfl ?_ ?_
  · exact TO.u rfl rfl (TX.alloc Try.zeroValue40 rfl rfl (fun b8001 => (TO.nil (TE.mvE 1 0 rfl rfl (TE.toh (TE.td ((hdef11502 _ _ _ _).mp (hS1000_51 b8001 b9001))) 0 0 ⟨rfl, rfl, rfl, rfl, rfl, trivial⟩ rfl rfl)))))
  exact EdgeOk.nil
 have hS1000_60 : T11501 8 [false, false, false, true, true, false, false, false, false, false] [(1, .pointer (some ⟨b1, 0, none⟩)), (2, .pointer (some ⟨b2, 0, none⟩)), (36, .pointer (some (eAddr sp101 ((1 : Int).toNat * Edge.E.sz + 0))))] ⟨[(r108, .deferred (some [])), (b13, .cells #[.slice sp9 3 3] 24), (b8, .cells #[.slice sp4 1 1] 24), (b3, .cells #[.slice none 0 0] 24), (b2, .cells #[.slice sp101 n102 cap103] 36), (b1, .cells #[.int .u8 149, .int .u8 0, .int .u8 0, .int .i16 0, .int .i32 0] 27)], [Hs105, Hs6, Hs11]⟩ := by
  rw [hdef11502]
  refine TD.step [0, 5, 6, 7] 0 rfl rfl rfl rfl rfl (EdgeOk.cons rfl ?_ ?_)
  · exact TO.u rfl rfl (TX.load1 (i := 4) Try.isAgg36 rfl rfl rfl rfl (TO.nil (TE.toh (TE.td ((hdef11502 _ _ _ _).mp (hS1000_48))) 0 0 ⟨rfl, rfl, rfl, trivial⟩ rfl rfl)))
  refine EdgeOk.cons rfl ?_ ?_
  · exact TO.u rfl rfl (TX.loadRN (N := Edge.E) Try.isAgg40 Try.sizeOf40 rfl (fun a w s => ho106.rd s (i := 0) rfl) hk6501 rfl rfl (TO.nil (TE.toh (TE.td ((hdef11502 _ _ _ _).mp (hS1000_52))) 0 0 ⟨rfl, rfl, rfl, trivial⟩ rfl rfl)))
  refine EdgeOk.cons rfl ?_ ?_
  · exact TO.u rfl rfl (TX.alloc Try.zeroValue40 rfl rfl (fun b8001 => (TO.nil (TE.toh (TE.td ((hdef11502 _ _ _ _).mp (hS1000_53 b8001))) 0 0 ⟨rfl, rfl, rfl, rfl, trivial⟩ rfl rfl))))
  refine EdgeOk.cons rfl ?_ ?_
  · exact TO.u rfl rfl (TX.alloc Try.zeroValue40 rfl rfl (fun b9001 => (TO.nil (TE.toh (TE.td ((hdef11502 _ _ _ _).mp (hS1000_54 b9001))) 0 0 ⟨rfl, rfl, rfl, rfl, trivial⟩ rfl rfl))))
  exact EdgeOk.nil
 have hS1000_61 : ∀ (b8001 : Nat), T11501 8 [false, false, false, true, false, false, true, false, false, false] [(1, .pointer (some ⟨b1, 0, none⟩)), (2, .pointer (some ⟨b2, 0, none⟩)), (5, .pointer (some ⟨b8001, 0, none⟩)), (35, .slice sp101 n102 cap103)] ⟨[(b8001, .cells #[.int .i64 0, .int .i64 0] 40), (r108, .deferred (some [])), (b13, .cells #[.slice sp9 3 3] 24), (b8, .cells #[.slice sp4 1 1] 24), (b3, .cells #[.slice none 0 0] 24), (b2, .cells #[.slice sp101 n102 cap103] 36), (b1, .cells #[.int .u8 149, .int .u8 0, .int .u8 0, .int .i16 0, .int .i32 0] 27)], [Hs105, Hs6, Hs11]⟩ := by
  intro b8001
  rw [hdef11502]
  refine TD.step [0, 4, 7] 0 rfl rfl rfl rfl rfl (EdgeOk.cons rfl ?_ ?_)
  · exact TO.u rfl rfl (TX.load1 (i := 5) Try.isAgg36 rfl rfl rfl rfl (TO.nil (TE.toh (TE.td ((hdef11502 _ _ _ _).mp (hS1000_49 b8001))) 0 0 ⟨rfl, rfl, rfl, rfl, trivial⟩ rfl rfl)))
  refine EdgeOk.cons rfl ?_ ?_
  · exact TO.u rfl rfl (TX.indexR (N := Edge.E) Try.runUnderlying36 Try.sizeOf40 rfl hn104 rfl (fun a w s => ho106.rd s (i := 0) rfl) hk6501 rfl (TO.nil (TE.toh (TE.td ((hdef11502 _ _ _ _).mp (hS1000_53 b8001))) 0 0 ⟨rfl, rfl, rfl, rfl, trivial⟩ rfl rfl)))
  refine EdgeOk.cons rfl ?_ ?_
  · exact TO.u rfl rfl (TX.alloc Try.zeroValue40 rfl rfl (fun b9001 => (TO.nil (TE.toh (TE.td ((hdef11502 _ _ _ _).mp (hS1000_55 b8001 b9001))) 0 0 ⟨rfl, rfl, rfl, rfl, rfl, trivial⟩ rfl rfl))))
  exact EdgeOk.nil
 have hS1000_62 : ∀ (b9001 : Nat), T11501 8 [false, false, false, true, false, false, false, true, false, false] [(1, .pointer (some ⟨b1, 0, none⟩)), (2, .pointer (some ⟨b2, 0, none⟩)), (6, .pointer (some ⟨b9001, 0, none⟩)), (35, .slice sp101 n102 cap103)] ⟨[(b9001, .cells #[.int .i64 0, .int .i64 0] 40), (r108, .deferred (some [])), (b13, .cells #[.slice sp9 3 3] 24), (b8, .cells #[.slice sp4 1 1] 24), (b3, .cells #[.slice none 0 0] 24), (b2, .cells #[.slice sp101 n102 cap103] 36), (b1, .cells #[.int .u8 149, .int .u8 0, .int .u8 0, .int .i16 0, .int .i32 0] 27)], [Hs105, Hs6, Hs11]⟩ := by
  intro b9001
  rw [hdef11502]
  refine TD.step [0, 4, 6] 0 rfl rfl rfl rfl rfl (EdgeOk.cons rfl ?_ ?_)
  · exact TO.u rfl rfl (TX.load1 (i := 5) Try.isAgg36 rfl rfl rfl rfl (TO.nil (TE.toh (TE.td ((hdef11502 _ _ _ _).mp (hS1000_50 b9001))) 0 0 ⟨rfl, rfl, rfl, rfl, trivial⟩ rfl rfl)))
  refine EdgeOk.cons rfl ?_ ?_
  · exact TO.u rfl rfl (TX.indexR (N := Edge.E) Try.runUnderlying36 Try.sizeOf40 rfl hn104 rfl (fun a w s => ho106.rd s (i := 0) rfl) hk6501 rfl (TO.nil (TE.toh (TE.td ((hdef11502 _ _ _ _).mp (hS1000_54 b9001))) 0 0 ⟨rfl, rfl, rfl, rfl, trivial⟩ rfl rfl)))
  refine EdgeOk.cons rfl ?_ ?_
  · exact TO.u rfl rfl (TX.alloc Try.zeroValue40 rfl rfl (fun b8001 => (TO.nil (TE.mvE 1 0 rfl rfl (TE.toh (TE.td ((hdef11502 _ _ _ _).mp (hS1000_55 b8001 b9001))) 0 0 ⟨rfl, rfl, rfl, rfl, rfl, trivial⟩ rfl rfl)))))
  exact EdgeOk.nil
 have hS1000_63 : ∀ (b8001 : Nat), ∀ (b9001 : Nat), T11501 8 [false, false, false, false, false, false, true, true, false, false] [(1, .pointer (some ⟨b1, 0, none⟩)), (2, .pointer (some ⟨b2, 0, none⟩)), (5, .pointer (some ⟨b8001, 0, none⟩)), (6, .pointer (some ⟨b9001, 0, none⟩))] ⟨[(b9001, .cells #[.int .i64 0, .int .i64 0] 40), (b8001, .cells #[.int .i64 0, .int .i64 0] 40), (r108, .deferred (some [])), (b13, .cells #[.slice sp9 3 3] 24), (b8, .cells #[.slice sp4 1 1] 24), (b3, .cells #[.slice none 0 0] 24), (b2, .cells #[.slice sp101 n102 cap103] 36), (b1, .cells #[.int .u8 149, .int .u8 0, .int .u8 0, .int .i16 0, .int .i32 0] 27)], [Hs105, Hs6, Hs11]⟩ := by
  intro b8001 b9001
  rw [hdef11502]
  refine TD.step [0, 3] 0 rfl rfl rfl rfl rfl (EdgeOk.cons rfl ?_ ?_)
  · exact TO.u rfl rfl (TX.load1 (i := 6) Try.isAgg36 rfl rfl rfl rfl (TO.nil (TE.toh (TE.td ((hdef11502 _ _ _ _).mp (hS1000_51 b8001 b9001))) 0 0 ⟨rfl, rfl, rfl, rfl, rfl, trivial⟩ rfl rfl)))
  refine EdgeOk.cons rfl ?_ ?_
  · exact TO.u rfl rfl (TX.load1 (i := 6) Try.isAgg36 rfl rfl rfl rfl (TO.nil (TE.toh (TE.td ((hdef11502 _ _ _ _).mp (hS1000_55 b8001 b9001))) 0 0 ⟨rfl, rfl, rfl, rfl, rfl, trivial⟩ rfl rfl)))
  exact EdgeOk.nil
 have hS1000_64 : T11501 9 [true, false, false, false, false, false, false, false, false, false] [(1, .pointer (some ⟨b1, 0, none⟩)), (2, .pointer (some ⟨b2, 0, none⟩)), (32, .slice sp101 n102 cap103)] ⟨[(r108, .deferred (some [])), (b13, .cells #[.slice sp9 3 3] 24), (b8, .cells #[.slice sp4 1 1] 24), (b3, .cells #[.slice none 0 0] 24), (b2, .cells #[.slice sp101 n102 cap103] 36), (b1, .cells #[.int .u8 149, .int .u8 0, .int .u8 0, .int .i16 0, .int .i32 0] 27)], [Hs105, Hs6, Hs11]⟩ := by
  rw [hdef11502]
  refine TD.step [1, 3, 6, 7] 1 rfl rfl rfl rfl rfl (EdgeOk.cons rfl ?_ ?_)
  · exact TO.u rfl rfl (TX.indexR (N := Edge.E) Try.runUnderlying36 Try.sizeOf40 rfl hn104 rfl (fun a w s => ho106.rd s (i := 0) rfl) hk3501 rfl (TO.nil (TE.toh (TE.td ((hdef11502 _ _ _ _).mp (hS1000_56))) 0 0 ⟨rfl, rfl, rfl, trivial⟩ rfl rfl)))
  refine EdgeOk.cons rfl ?_ ?_
  · exact TO.u rfl rfl (TX.load1 (i := 4) Try.isAgg36 rfl rfl rfl rfl (TO.nil (TE.toh (TE.td ((hdef11502 _ _ _ _).mp (hS1000_57))) 0 0 ⟨rfl, rfl, rfl, trivial⟩ rfl rfl)))
  refine EdgeOk.cons rfl ?_ ?_
  · exact TO.u rfl rfl (TX.alloc Try.zeroValue40 rfl rfl (fun b8001 => (TO.nil (TE.toh (TE.td ((hdef11502 _ _ _ _).mp (hS1000_58 b8001))) 0 0 ⟨rfl, rfl, rfl, rfl, trivial⟩ rfl rfl))))
  refine EdgeOk.cons rfl ?_ ?_
  · exact TO.u rfl rfl (TX.alloc Try.zeroValue40 rfl rfl (fun b9001 => (TO.nil (TE.toh (TE.td ((hdef11502 _ _ _ _).mp (hS1000_59 b9001))) 0 0 ⟨rfl, rfl, rfl, rfl, trivial⟩ rfl rfl))))
  exact EdgeOk.nil
 have hS1000_65 : T11501 9 [false, false, false, true, false, false, false, false, false, false] [(1, .pointer (some ⟨b1, 0, none⟩)), (2, .pointer (some ⟨b2, 0, none⟩)), (35, .slice sp101 n102 cap103)] ⟨[(r108, .deferred (some [])), (b13, .cells #[.slice sp9 3 3] 24), (b8, .cells #[.slice sp4 1 1] 24), (b3, .cells #[.slice none 0 0] 24), (b2, .cells #[.slice sp101 n102 cap103] 36), (b1, .cells #[.int .u8 149, .int .u8 0, .int .u8 0, .int .i16 0, .int .i32 0] 27)], [Hs105, Hs6, Hs11]⟩ := by
  rw [hdef11502]
  refine TD.step [0, 4, 6, 7] 0 rfl rfl rfl rfl rfl (EdgeOk.cons rfl ?_ ?_)
  · exact TO.u rfl rfl (TX.load1 (i := 4) Try.isAgg36 rfl rfl rfl rfl (TO.nil (TE.toh (TE.td ((hdef11502 _ _ _ _).mp (hS1000_57))) 0 0 ⟨rfl, rfl, rfl, trivial⟩ rfl rfl)))
  refine EdgeOk.cons rfl ?_ ?_
  · exact TO.u rfl rfl (TX.indexR (N := Edge.E) Try.runUnderlying36 Try.sizeOf40 rfl hn104 rfl (fun a w s => ho106.rd s (i := 0) rfl) hk6501 rfl (TO.nil (TE.toh (TE.td ((hdef11502 _ _ _ _).mp (hS1000_60))) 0 0 ⟨rfl, rfl, rfl, trivial⟩ rfl rfl)))
  refine EdgeOk.cons rfl ?_ ?_
  · exact TO.u rfl rfl (TX.alloc Try.zeroValue40 rfl rfl (fun b8001 => (TO.nil (TE.toh (TE.td ((hdef11502 _ _ _ _).mp (hS1000_61 b8001))) 0 0 ⟨rfl, rfl, rfl, rfl, trivial⟩ rfl rfl))))
  refine EdgeOk.cons rfl ?_ ?_
  · exact TO.u rfl rfl (TX.alloc Try.zeroValue40 rfl rfl (fun b9001 => (TO.nil (TE.toh (TE.td ((hdef11502 _ _ _ _).mp (hS1000_62 b9001))) 0 0 ⟨rfl, rfl, rfl, rfl, trivial⟩ rfl rfl))))
  exact EdgeOk.nil
 have hS1000_66 : ∀ (b8001 : Nat), T11501 9 [false, false, false, false, false, false, true, false, false, false] [(1, .pointer (some ⟨b1, 0, none⟩)), (2, .pointer (some ⟨b2, 0, none⟩)), (5, .pointer (some ⟨b8001, 0, none⟩))] ⟨[(b8001, .cells #[.int .i64 0, .int .i64 0] 40), (r108, .deferred (some [])), (b13, .cells #[.slice sp9 3 3] 24), (b8, .cells #[.slice sp4 1 1] 24), (b3, .cells #[.slice none 0 0] 24), (b2, .cells #[.slice sp101 n102 cap103] 36), (b1, .cells #[.int .u8 149, .int .u8 0, .int .u8 0, .int .i16 0, .int .i32 0] 27)], [Hs105, Hs6, Hs11]⟩ := by
  intro b8001
  rw [hdef11502]
  refine TD.step [0, 3, 7] 0 rfl rfl rfl rfl rfl (EdgeOk.cons rfl ?_ ?_)
  · exact TO.u rfl rfl (TX.load1 (i := 5) Try.isAgg36 rfl rfl rfl rfl (TO.nil (TE.toh (TE.td ((hdef11502 _ _ _ _).mp (hS1000_58 b8001))) 0 0 ⟨rfl, rfl, rfl, rfl, trivial⟩ rfl rfl)))
  refine EdgeOk.cons rfl ?_ ?_
  · exact TO.u rfl rfl (TX.load1 (i := 5) Try.isAgg36 rfl rfl rfl rfl (TO.nil (TE.toh (TE.td ((hdef11502 _ _ _ _).mp (hS1000_61 b8001))) 0 0 ⟨rfl, rfl, rfl, rfl, trivial⟩ rfl rfl)))
  refine EdgeOk.cons rfl ?_ ?_
  · exact TO.u rfl rfl (TX.alloc Try.zeroValue40 rfl rfl (fun b9001 => (TO.nil (TE.toh (TE.td ((hdef11502 _ _ _ _).mp (hS1000_63 b8001 b9001))) 0 0 ⟨rfl, rfl, rfl, rfl, trivial⟩ rfl rfl))))
  exact EdgeOk.nil
 have hS1000_67 : ∀ (b9001 : Nat), T11501 9 [false, false, false, false, false, false, false, true, false, false] [(1, .pointer (some ⟨b1, 0, none⟩)), (2, .pointer (some ⟨b2, 0, none⟩)), (6, .pointer (some ⟨b9001, 0, none⟩))] ⟨[(b9001, .cells #[.int .i64 0, .int .i64 0] 40), (r108, .deferred (some [])), (b13, .cells #[.slice sp9 3 3] 24), (b8, .cells #[.slice sp4 1 1] 24), (b3, .cells #[.slice none 0 0] 24), (b2, .cells #[.slice sp101 n102 cap103] 36), (b1, .cells #[.int .u8 149, .int .u8 0, .int .u8 0, .int .i16 0, .int .i32 0] 27)], [Hs105, Hs6, Hs11]⟩ := by
  intro b9001
  rw [hdef11502]
  refine TD.step [0, 3, 6] 0 rfl rfl rfl rfl rfl (EdgeOk.cons rfl ?_ ?_)
  · exact TO.u rfl rfl (TX.load1 (i := 5) Try.isAgg36 rfl rfl rfl rfl (TO.nil (TE.toh (TE.td ((hdef11502 _ _ _ _).mp (hS1000_59 b9001))) 0 0 ⟨rfl, rfl, rfl, rfl, trivial⟩ rfl rfl)))
  refine EdgeOk.cons rfl ?_ ?_
  · exact TO.u rfl rfl (TX.load1 (i := 5) Try.isAgg36 rfl rfl rfl rfl (TO.nil (TE.toh (TE.td ((hdef11502 _ _ _ _).mp (hS1000_62 b9001))) 0 0 ⟨rfl, rfl, rfl, rfl, trivial⟩ rfl rfl)))
  refine EdgeOk.cons rfl ?_ ?_
  · exact TO.u rfl rfl (TX.alloc Try.zeroValue40 rfl rfl (fun b8001 => (TO.nil (TE.mvE 1 0 rfl rfl (TE.toh (TE.td ((hdef11502 _ _ _ _).mp (hS1000_63 b8001 b9001))) 0 0 ⟨rfl, rfl, rfl, rfl, trivial⟩ rfl rfl)))))
  exact EdgeOk.nil
 have hS1000_68 : T11501 10 [false, false, false, false, false, false, false, false, false, false] [(1, .pointer (some ⟨b1, 0, none⟩)), (2, .pointer (some ⟨b2, 0, none⟩))] ⟨[(r108, .deferred (some [])), (b13, .cells #[.slice sp9 3 3] 24), (b8, .cells #[.slice sp4 1 1] 24), (b3, .cells #[.slice none 0 0] 24), (b2, .cells #[.slice sp101 n102 cap103] 36), (b1, .cells #[.int .u8 149, .int .u8 0, .int .u8 0, .int .i16 0, .int .i32 0] 27)], [Hs105, Hs6, Hs11]⟩ := by
  rw [hdef11502]
  refine TD.step [0, 3, 6, 7] 0 rfl rfl rfl rfl rfl (EdgeOk.cons rfl ?_ ?_)
  · exact TO.u rfl rfl (TX.load1 (i := 4) Try.isAgg36 rfl rfl rfl rfl (TO.nil (TE.toh (TE.td ((hdef11502 _ _ _ _).mp (hS1000_64))) 0 0 ⟨rfl, rfl, rfl, trivial⟩ rfl rfl)))
  refine EdgeOk.cons rfl ?_ ?_
  · exact TO.u rfl rfl (TX.load1 (i := 4) Try.isAgg36 rfl rfl rfl rfl (TO.nil (TE.toh (TE.td ((hdef11502 _ _ _ _).mp (hS1000_65))) 0 0 ⟨rfl, rfl, rfl, trivial⟩ rfl rfl)))
  refine EdgeOk.cons rfl ?_ ?_
  · exact TO.u rfl rfl (TX.alloc Try.zeroValue40 rfl rfl (fun b8001 => (TO.nil (TE.toh (TE.td ((hdef11502 _ _ _ _).mp (hS1000_66 b8001))) 0 0 ⟨rfl, rfl, rfl, trivial⟩ rfl rfl))))
  refine EdgeOk.cons rfl ?_ ?_
  · exact TO.u rfl rfl (TX.alloc Try.zeroValue40 rfl rfl (fun b9001 => (TO.nil (TE.toh (TE.td ((hdef11502 _ _ _ _).mp (hS1000_67 b9001))) 0 0 ⟨rfl, rfl, rfl, trivial⟩ rfl rfl))))
  exact EdgeOk.nil
 exact hS1000_68
/-- hatchway/hatchwaylaw24.small -/
def fn17 (p0 : List Instr) : Bool :=
  (decide ((p0.length : Int) ≤ 200))
def ret17 (r : Bool) : Value := .bool r
theorem c17 (sp_0 : Option Addr) (n_0 cap_0 : Nat) (p0 : List Instr) (w : World) (r : Bool) (qn0 : p0.length = n_0) (qc0 : p0.length ≤ cap_0) (qp0 : RdF Instr.E w [] sp_0 p0) (h : fn17 p0 = r) : Ret Try.prog 17 [.slice sp_0 n_0 cap_0] w ⟨[], []⟩ (fun v R => v = ret17 r ∧ R = ⟨[], []⟩) := by
 unfold fn17 at h
 exact Ret.of_body Try.func17 rfl Try.ntmps17 rfl (fun _ hx => absurd hx List.not_mem_nil) List.nodup_nil (TC.seq (TC.region (TO.u rfl rfl (TX.assign rfl rfl (TO.nil (TE.thenN rfl rfl (TC.seq (TC.region (TO.u rfl rfl (TX.move rfl rfl (TO.u rfl rfl (TX.lenS (xs := p0) Try.runUnderlying24 rfl qn0 rfl (TO.u rfl rfl (TX.ibin rfl rfl rfl rfl (TO.u rfl rfl (TX.assign rfl rfl (TO.nil (TE.thenN rfl rfl (TC.ret (TE.fin (R := ⟨[], []⟩) (TL.ret (R' := ⟨[], []⟩) Try.results17 (.cons (.tmp rfl) .nil) (subD 0 0 rfl rfl) ⟨congrArg ret17 h, rfl⟩)))))))))))))))))))))
def fn20_r1 (p1 : Int) (x56 : List Edge) (y64 : Int) (y65 : Int) : Option (((List Edge)) × Nat) :=
  (bif (x56.length : Int) == p1 then (some (x56, 2)) else (bif decide ((x56.length + ([(⟨y64, y65⟩ : Edge)] : List Edge).length) * 16 ≤ 140737488355328 ∧ x56.length + ([(⟨y64, y65⟩ : Edge)] : List Edge).length ≤ 9223372036854775807) then (some (x56 ++ ([(⟨y64, y65⟩ : Edge)] : List Edge), 0)) else none))
theorem fn20_r1_s (p1 : Int) (x56 : List Edge) (y64 : Int) (y65 : Int) : fn20_r1 p1 x56 y64 y65 = (bif (x56.length : Int) == p1 then (some (x56, 2)) else (bif decide ((x56.length + ([(⟨y64, y65⟩ : Edge)] : List Edge).length) * 16 ≤ 140737488355328 ∧ x56.length + ([(⟨y64, y65⟩ : Edge)] : List Edge).length ≤ 9223372036854775807) then (some (x56 ++ ([(⟨y64, y65⟩ : Edge)] : List Edge), 0)) else none)) := rfl
def fn20_k1_0 (x93 : List Edge) : Option ((List Edge)) :=
  (some x93)
theorem fn20_k1_0_s (x93 : List Edge) : fn20_k1_0 x93 = (some x93) := rfl
def fn20_k1_2 (x93 : List Edge) : Option ((List Edge)) :=
  (some x93)
theorem fn20_k1_2_s (x93 : List Edge) : fn20_k1_2 x93 = (some x93) := rfl
/-- hatchway/hatchwaylaw24.edges -/
def fn20 (F : Nat) (p0 : List Instr) (p1 : Int) : Option ((List Edge)) :=
  (Option.bind (fn69 F (stepR (fun (s : (List Edge)) (y : Int × Int) => fn20_r1 p1 s y.1 y.2)) goR p0 ((([] : List Edge), 0) : ((List Edge)) × Nat)) fun o102 => (bif Nat.beq o102.2 0 then fn20_k1_0 o102.1 else (bif Nat.beq o102.2 2 then fn20_k1_2 o102.1 else none)))
def post20 (r : (List Edge)) (v : Value) (R : Hp) : Prop := ∃ sp n cap Hs, v = .slice sp n cap ∧ r.length = n ∧ R = ⟨[], [Hs]⟩ ∧ OwnL Edge.E 40 sp cap r Hs
theorem c20 (F : Nat) (sp_0 : Option Addr) (n_0 cap_0 : Nat) (p0 : List Instr) (p1 : Int) (w : World) (r : (List Edge)) (qn0 : p0.length = n_0) (qc0 : p0.length ≤ cap_0) (qp0 : RdF Instr.E w [] sp_0 p0) (h : fn20 F p0 p1 = some r) : Ret Try.prog 20 [.slice sp_0 n_0 cap_0, .int .i64 p1] w ⟨[], []⟩ (post20 r) := by
 unfold fn20 at h
 refine Ret.of_body Try.func20 rfl Try.ntmps20 rfl (fun _ hx => absurd hx List.not_mem_nil) List.nodup_nil (TC.seq (TC.region (TO.u rfl rfl (TX.box rfl rfl rfl (fun b1 => (TO.u rfl rfl (TX.assign rfl rfl (TO.nil (TE.thenN rfl rfl (TC.seq (TC.region (TO.u rfl rfl (TX.alloc Try.zeroValue36 rfl rfl (fun b2 => (TO.nil (TE.thenN rfl rfl (TC.seq (TC.seq (TC.region (TO.u rfl rfl (TX.move rfl rfl (TO.u rfl rfl (TX.callQ _ Try.call41 rfl (fun a w s => c41 _ _ _ p0 _) rfl ?_)))))))))))))))))))))))
 rintro _ _ ⟨b3, rfl, rfl⟩
 refine TO.reH ⟨[(b3, .cells #[.slice sp_0 n_0 cap_0] 24), (b2, .cells #[.slice none 0 0] 36), (b1, .cells #[.int .i64 p1] 3)], []⟩ rfl (TO.u rfl rfl (TX.eqNilF Try.runUnderlying63 rfl rfl rfl (TO.nil (TE.thenN rfl rfl (TC.condF rfl (TC.skip (TE.thenN rfl rfl (TC.seq (TC.seq (TC.region (TO.u rfl rfl (TX.move rfl rfl (TO.u rfl rfl (TX.callQ _ Try.call41 rfl (fun a w s => c41 _ _ _ p0 _) rfl ?_))))))))))))))
 rintro _ _ ⟨b4, rfl, rfl⟩
 refine TO.reH ⟨[(b4, .cells #[.slice sp_0 n_0 cap_0] 24), (b3, .cells #[.slice sp_0 n_0 cap_0] 24), (b2, .cells #[.slice none 0 0] 36), (b1, .cells #[.int .i64 p1] 3)], []⟩ rfl (TO.nil (TE.thenN rfl rfl (TC.block ?_)))
 obtain ⟨⟨o102, m103⟩, hl104, h⟩ := bd h
 refine TC.addNil (TC.to (L' := [(3, .pointer (some ⟨b1, 0, none⟩)), (4, .slice none 0 0), (5, .pointer (some ⟨b2, 0, none⟩)), (12, .func (.func 69) #[] #[.pointer (some ⟨b4, 0, none⟩)])]) (E' := [(b4, .cells #[.slice sp_0 n_0 cap_0] 24), (b3, .cells #[.slice sp_0 n_0 cap_0] 24), (b2, .cells #[.slice none 0 0] 36), (b1, .cells #[.int .i64 p1] 3)]) (S' := [[]]) 0 0 ⟨rfl, rfl, rfl, rfl, trivial⟩ rfl rfl (TC.rangeO [13, 14] [0] [] (fun (x56 : (List Edge)) (H' : Hp) => ∃ sp57 n58 cap59 Hs61, OwnL Edge.E 40 sp57 cap59 x56 Hs61 ∧ x56.length = n58 ∧ H' = ⟨[(b3, .cells #[.slice sp_0 n_0 cap_0] 24), (b2, .cells #[.slice sp57 n58 cap59] 36), (b1, .cells #[.int .i64 p1] 3)], [Hs61]⟩) (fun (x : Int × Int) => [.int .i64 x.1, .int .i64 x.2]) (fun (s : (List Edge)) (y : Int × Int) => fn20_r1 p1 s y.1 y.2) ([] : List Edge) o102 m103 Try.call69 rfl rfl (fun _ => rfl) rfl rfl ⟨none, 0, 0, [], (OwnL.nil Edge.E 40), rfl, rfl⟩ (fun zw zv zJ zH zd zx zo zy zj => c69 F (stepR (fun (s : (List Edge)) (y : Int × Int) => fn20_r1 p1 s y.1 y.2)) goR zJ zv ((([] : List Edge), 0) : ((List Edge)) × Nat) zH b4 _ _ _ p0 zw (o102, m103) qn0 qc0 (qp0.tr zx) zo zy zj hl104) ?_ ?_))
 · clear h hl104
   intro l66 r67 lr68 w69 R70 x56 y72 s73 m74 H75 Rr76 hst77 h hI105 hx78 fin79
   obtain ⟨y64, y65⟩ := y72
   obtain ⟨sp57, n58, cap59, Hs61, ho62, hn60, rfl⟩ := hI105
   replace h := (fn20_r1_s p1 x56 y64 y65).symm.trans h
   have qx80 := qp0.tr hx78
   refine TC.to (L' := [(3, .pointer (some ⟨b1, 0, none⟩)), (4, .slice none 0 0), (5, .pointer (some ⟨b2, 0, none⟩)), (12, .func (.func 69) #[] #[.pointer (some ⟨b4, 0, none⟩)]), (13, .int .i64 y64), (14, .int .i64 y65)]) (E' := [(l66, .loop lr68), (r67, .deferred (some [])), (b3, .cells #[.slice sp_0 n_0 cap_0] 24), (b2, .cells #[.slice sp57 n58 cap59] 36), (b1, .cells #[.int .i64 p1] 3)]) (S' := [Hs61]) 0 0 ⟨rfl, rfl, rfl, rfl, rfl, rfl, trivial⟩ rfl rfl (TC.seq (TC.region (TO.u rfl rfl (TX.assign rfl rfl (TO.nil (TE.thenN rfl rfl (TC.region (TO.u rfl rfl (TX.assign rfl rfl (TO.nil (TE.begin (i := 0) rfl (by assumption) rfl ?_)))))))))))
   refine TC.block (TC.seq (TC.seq (TC.region (TO.u rfl rfl (TX.load1 (i := 3) Try.isAgg36 rfl rfl rfl rfl (TO.u rfl rfl (TX.lenS (xs := x56) Try.runUnderlying36 rfl hn60 rfl (TO.u rfl rfl (TX.load1 (i := 4) Try.isAgg3 rfl rfl rfl rfl (TO.u rfl rfl (TX.ibin rfl rfl rfl rfl (TO.nil (TE.thenN rfl rfl (TC.cond rfl (fun hb81 => ?_) (fun hb81 => ?_)))))))))))))))
   · replace h := it h hb81
     refine TC.exit (TE.thenX (TE.blockX rfl ?_))
     cases h
     exact TE.to (L' := []) (E' := [(l66, .loop { lr68 with state := .busy }), (r67, .deferred (some [])), (b3, .cells #[.slice sp_0 n_0 cap_0] 24), (b2, .cells #[.slice sp57 n58 cap59] 36), (b1, .cells #[.int .i64 p1] 3)]) (S' := [Hs61]) 0 0 trivial rfl rfl (fin79 [] ⟨[(b3, .cells #[.slice sp_0 n_0 cap_0] 24), (b2, .cells #[.slice sp57 n58 cap59] 36), (b1, .cells #[.int .i64 p1] 3)], [Hs61]⟩ ⟨sp57, n58, cap59, Hs61, ho62, hn60, rfl⟩)
   replace h := ie h hb81
   refine TC.skip (TE.thenN rfl rfl (TC.region (TO.u rfl rfl (TX.load1 (i := 3) Try.isAgg36 rfl rfl rfl rfl (TO.u rfl rfl (TX.move rfl rfl (TO.u rfl rfl (TX.move rfl rfl (TO.u rfl rfl (TX.build Try.zeroValue40 rfl Try.runUnderlying40 (.cons Try.sizeOf3 (.cons Try.sizeOf3 .nil)) rfl rfl rfl (TO.u rfl rfl (TX.buildS (N := Edge.E) (ys := ([(⟨y64, y65⟩ : Edge)] : List Edge)) Try.runUnderlying36 Try.sizeOf40 Try.zeroValue40 rfl rfl rfl rfl (fillS [.agg #[.int .i64 y64, .int .i64 y65]] rfl rfl rfl rfl) rfl (fun sp82 Hs84 ho85 => ?_)))))))))))))
   obtain ⟨hk86, h⟩ := ck h
   refine TO.u rfl rfl (TX.appendS (N := Edge.E) (si := 1) (xs := x56) (ys := ([(⟨y64, y65⟩ : Edge)] : List Edge)) Try.runUnderlying36 Try.typeInfo40 rfl rfl rfl rfl rfl hn60 rfl rfl rfl ho62 (fun a w s => ho85.rd s (i := 0) rfl) hk86 rfl (fun sp87 cap88 Hs89 _ S90 ho91 => ?_))
   cases S90
   refine TO.u rfl rfl (TX.store (i := 3) Try.sizeOf36 rfl rfl rfl rfl rfl rfl rfl rfl (TO.nil (TE.blockN ?_)))
   cases h
   exact TE.to (L' := []) (E' := [(l66, .loop { lr68 with state := .busy }), (r67, .deferred (some [])), (b3, .cells #[.slice sp_0 n_0 cap_0] 24), (b2, .cells #[.slice sp87 ((x56 ++ ([(⟨y64, y65⟩ : Edge)] : List Edge)).length) cap88] 36), (b1, .cells #[.int .i64 p1] 3)]) (S' := [Hs89]) 0 1 trivial rfl rfl (fin79 [] ⟨[(b3, .cells #[.slice sp_0 n_0 cap_0] 24), (b2, .cells #[.slice sp87 ((x56 ++ ([(⟨y64, y65⟩ : Edge)] : List Edge)).length) cap88] 36), (b1, .cells #[.int .i64 p1] 3)], [Hs89]⟩ ⟨sp87, ((x56 ++ ([(⟨y64, y65⟩ : Edge)] : List Edge)).length), cap88, Hs89, ho91, rfl, rfl⟩)
 clear hl104
 intro r101 H106 hI107
 obtain ⟨x93, q_⟩ : ∃ z, z = o102 := ⟨_, rfl⟩
 subst q_
 obtain ⟨sp94, n95, cap96, Hs98, ho99, hn97, rfl⟩ := hI107
 refine TE.reH ⟨[(r101, .deferred (some [])), (b4, .cells #[.slice sp_0 n_0 cap_0] 24), (b3, .cells #[.slice sp_0 n_0 cap_0] 24), (b2, .cells #[.slice sp94 n95 cap96] 36), (b1, .cells #[.int .i64 p1] 3)], [Hs98]⟩ rfl ?_
 cases hm108 : Nat.beq m103 0
 · replace h := ie h hm108
   cases hm109 : Nat.beq m103 2
   · replace h := ie h hm109
     cases h
   replace h := it h hm109
   have q_ := Nat.eq_of_beq_eq_true hm109
   subst q_
   replace h := (fn20_k1_2_s x93).symm.trans h
   refine TE.asE (e := (.exit 0)) rfl (TE.blockH (TE.thenN rfl rfl (TC.seq (TC.region (TO.u rfl rfl (TX.load1 (i := 3) Try.isAgg36 rfl rfl rfl rfl (TO.u rfl rfl (TX.assign rfl rfl (TO.nil (TE.thenN rfl rfl (TC.ret ?_)))))))))))
   have hr := (Option.some.inj h)
   subst hr
   exact TE.fin (R := ⟨[], []⟩) (TL.mark (i := 0) rfl rfl (TL.ret (R' := ⟨[], [Hs98]⟩) Try.results20 (.cons (.tmp rfl) .nil) (segSub (i := 0) rfl) ⟨sp94, n95, cap96, Hs98, rfl, hn97, rfl, ho99⟩))
 replace h := it h hm108
 have q_ := Nat.eq_of_beq_eq_true hm108
 subst q_
 replace h := (fn20_k1_0_s x93).symm.trans h
 refine TE.asE (e := .normal) rfl (TE.blockN (TE.thenN rfl rfl (TC.seq (TC.region (TO.u rfl rfl (TX.load1 (i := 3) Try.isAgg36 rfl rfl rfl rfl (TO.u rfl rfl (TX.assign rfl rfl (TO.nil (TE.thenN rfl rfl (TC.ret ?_)))))))))))
 have hr := (Option.some.inj h)
 subst hr
 exact TE.fin (R := ⟨[], []⟩) (TL.mark (i := 0) rfl rfl (TL.ret (R' := ⟨[], [Hs98]⟩) Try.results20 (.cons (.tmp rfl) .nil) (segSub (i := 0) rfl) ⟨sp94, n95, cap96, Hs98, rfl, hn97, rfl, ho99⟩))
structure S_flow_stack_int_ where
  fl : List Int
  deriving DecidableEq, Inhabited
/-- (*hatchway/flow.stack_int_).push -/
def fn46 (p0 : S_flow_stack_int_) (p1 : List Int) : Option (S_flow_stack_int_) :=
  (bif decide ((p0.fl.length + p1.length) * 8 ≤ 140737488355328 ∧ p0.fl.length + p1.length ≤ 9223372036854775807) then (some (⟨(p0.fl ++ p1)⟩ : S_flow_stack_int_)) else none)
theorem c46 (b_0 : Nat) (p0 : S_flow_stack_int_) (sp_0_0 : Option Addr) (n_0_0 cap_0_0 : Nat) (Hs_0_0 : Blocks) (sp_1 : Option Addr) (n_1 cap_1 : Nat) (p1 : List Int) (w : World) (r : S_flow_stack_int_) (qn0_0 : p0.fl.length = n_0_0) (ho_0_0 : OwnL (En.int .i64) 3 sp_0_0 cap_0_0 p0.fl Hs_0_0) (qn1 : p1.length = n_1) (qc1 : p1.length ≤ cap_1) (qp1 : RdF (En.int .i64) w ((⟨[(b_0, .cells #[.slice sp_0_0 n_0_0 cap_0_0] 71)], [Hs_0_0]⟩ : Hp).all.map (·.1)) sp_1 p1) (hat : HpOk w ⟨[(b_0, .cells #[.slice sp_0_0 n_0_0 cap_0_0] 71)], [Hs_0_0]⟩) (h : fn46 p0 p1 = some r) : Ret Try.prog 46 [.pointer (some ⟨b_0, 0, none⟩), .slice sp_1 n_1 cap_1] w ⟨[(b_0, .cells #[.slice sp_0_0 n_0_0 cap_0_0] 71)], [Hs_0_0]⟩ (fun v R => ∃ (os0_0 : Option Addr), ∃ (on0_0 oc0_0 : Nat), ∃ (oH0_0 : Blocks), v = .tuple #[] ∧ R = ⟨[(b_0, .cells #[.slice os0_0 on0_0 oc0_0] 71)], [oH0_0]⟩ ∧ r.fl.length = on0_0 ∧ OwnL (En.int .i64) 3 os0_0 oc0_0 r.fl oH0_0) := by
 unfold fn46 at h
 refine Ret.of_body Try.func46 rfl Try.ntmps46 rfl hat.1 hat.2 (TC.region (TO.u rfl rfl (TX.move rfl rfl (TO.u rfl rfl (TX.move rfl rfl (TO.u rfl rfl (TX.nilCheckP rfl rfl (TO.u rfl rfl (TX.fieldAddr' Try.runUnderlying71 rfl Try.sizeOf45 rfl rfl rfl (TO.u rfl rfl (TX.load1 (i := 0) Try.isAgg45 rfl rfl rfl rfl (TO.u rfl rfl (TX.move rfl rfl ?_)))))))))))))
 obtain ⟨hk1, h⟩ := ck h
 refine TO.u rfl rfl (TX.appendS (N := (En.int .i64)) (si := 0) (xs := p0.fl) (ys := p1) Try.runUnderlying45 Try.typeInfo3 rfl rfl rfl rfl rfl qn0_0 rfl qn1 rfl ho_0_0 (fun a w s => qp1 w s.ext) hk1 rfl (fun sp2 cap3 Hs4 _ S5 ho6 => ?_))
 cases S5
 refine TO.u rfl rfl (TX.nilCheckP rfl rfl (TO.u rfl rfl (TX.fieldAddr' Try.runUnderlying71 rfl Try.sizeOf45 rfl rfl rfl (TO.u rfl rfl (TX.store (i := 0) Try.sizeOf45 rfl rfl rfl rfl rfl rfl rfl rfl (TO.nil ?_))))))
 have hr := (Option.some.inj h)
 subst hr
 exact TE.finN (R := ⟨[(b_0, .cells #[.slice sp_0_0 n_0_0 cap_0_0] 71)], [Hs_0_0]⟩) (TL.ret (R' := ⟨[(b_0, .cells #[.slice sp2 ((p0.fl ++ p1).length) cap3] 71)], [Hs4]⟩) Try.results46 .nil (subD 0 0 rfl rfl) ⟨sp2, ((p0.fl ++ p1).length), cap3, Hs4, rfl, rfl, rfl, ho6⟩)
end Go.Proofs.Ytbpldfhehpjbaaa
