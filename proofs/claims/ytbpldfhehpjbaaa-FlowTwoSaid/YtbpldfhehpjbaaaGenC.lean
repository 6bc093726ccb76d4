/- Each Go function of this part computes the plain function beside it (walks, written by program). -/
import Derived.Test.YtbpldfhehpjbaaaGenB
namespace Go.Proofs.Ytbpldfhehpjbaaa
open Go Go.HW Go.MapKept
set_option maxRecDepth 4000
set_option linter.unusedVariables false
def fn72_l {σ : Type} (step : σ → (Int) → Option σ) (go : σ → Bool) (get : σ → List Int) (put : List Int → σ → σ) : Nat → σ → Option σ
  | 0, _ => none
  | n1 + 1, sx => (bif decide ((0 : Int) < ((get sx).length : Int)) then (bif inb (IntKind.i64.wrap (((get sx).length : Int) - 1)) (get sx).length then (bif sliceOk ((0 : Nat) : Int) (IntKind.i64.wrap (((get sx).length : Int) - 1)) (get sx).length then (Option.bind (step (put (cutX (get sx) ((0 : Nat) : Int).toNat (IntKind.i64.wrap (((get sx).length : Int) - 1)).toNat) sx) (gt (get sx) (IntKind.i64.wrap (((get sx).length : Int) - 1)))) fun u9 => (bif !(go u9) then (some u9) else ((fn72_l step go get put n1) u9))) else none) else none) else (some sx))
theorem fn72_l_s {σ : Type} (step : σ → (Int) → Option σ) (go : σ → Bool) (get : σ → List Int) (put : List Int → σ → σ) (n1 : Nat) (sx : σ) : fn72_l step go get put (n1 + 1) sx = (bif decide ((0 : Int) < ((get sx).length : Int)) then (bif inb (IntKind.i64.wrap (((get sx).length : Int) - 1)) (get sx).length then (bif sliceOk ((0 : Nat) : Int) (IntKind.i64.wrap (((get sx).length : Int) - 1)) (get sx).length then (Option.bind (step (put (cutX (get sx) ((0 : Nat) : Int).toNat (IntKind.i64.wrap (((get sx).length : Int) - 1)).toNat) sx) (gt (get sx) (IntKind.i64.wrap (((get sx).length : Int) - 1)))) fun u9 => (bif !(go u9) then (some u9) else ((fn72_l step go get put n1) u9))) else none) else none) else (some sx)) := rfl
/-- (*hatchway/flow.stack_int_).pops$1 -/
def fn72 {σ : Type} (F : Nat) (step : σ → (Int) → Option σ) (go : σ → Bool) (get : σ → List Int) (put : List Int → σ → σ) (s0 : σ) : Option σ := fn72_l step go get put F s0
theorem c72 {σ : Type} (F : Nat) (step : σ → (Int) → Option σ) (go : σ → Bool) (get : σ → List Int) (put : List Int → σ → σ) (I : σ → Blocks → Prop) (yv : Value) (s0 : σ) (Hs0 : Blocks) (b_q0 bp : Nat) (w : World) (r : σ) (hl : LensB (En.int .i64) 3 bp 71 get put I) (hat : HpOk w ⟨[(b_q0, .cells #[.pointer (some ⟨bp, 0, none⟩)] 100)], [Hs0]⟩) (hy : Yld Try.prog w ((⟨[(b_q0, .cells #[.pointer (some ⟨bp, 0, none⟩)] 100)], [Hs0]⟩ : Hp).all.map (·.1)) yv I (fun x => [.int .i64 x]) step go) (hI : I s0 Hs0) (h : fn72 F step go get put s0 = some r) : Ret Try.prog 72 [yv, .pointer (some ⟨b_q0, 0, none⟩)] w ⟨[(b_q0, .cells #[.pointer (some ⟨bp, 0, none⟩)] 100)], [Hs0]⟩ (fun v R => ∃ Hs1, I r Hs1 ∧ R = ⟨[(b_q0, .cells #[.pointer (some ⟨bp, 0, none⟩)] 100)], [Hs1]⟩) := by
 unfold fn72 at h
 refine Ret.of_body Try.func72 rfl Try.ntmps72 rfl hat.1 hat.2 (TC.block (TC.loop (fun (n : Nat) (s : σ) => fn72_l step go get put n s) r (fun _ => rfl) (fun s L' H' => ∃ Hs, I s Hs ∧ L' = [(0, yv), (1, .pointer (some ⟨b_q0, 0, none⟩))] ∧ H' = ⟨[(b_q0, .cells #[.pointer (some ⟨bp, 0, none⟩)] 100)], [Hs]⟩) ?_ F s0 ⟨Hs0, hI, rfl, rfl⟩ h))
 clear h
 rintro K1 n1 sx _ _ ⟨Hs, hI1, rfl, rfl⟩ h ih
 replace h := (fn72_l_s step go get put n1 sx).symm.trans h
 obtain ⟨sp, n, cap, row, X, hp, hn, ho, hc⟩ := hl sx Hs hI1
 refine TC.perm (H' := ⟨[(bp, .cells #[.slice sp n cap] 71), (b_q0, .cells #[.pointer (some ⟨bp, 0, none⟩)] 100)], [row, X]⟩) (open_perm hp) (TC.seq (TC.seq (TC.region (TO.u rfl rfl (TX.load1 (i := 1) Try.isAgg100 rfl rfl rfl rfl (TO.u rfl rfl (TX.nilCheckP rfl rfl (TO.u rfl rfl (TX.fieldAddr' Try.runUnderlying71 rfl Try.sizeOf45 rfl rfl rfl (TO.u rfl rfl (TX.load1 (i := 0) Try.isAgg45 rfl rfl rfl rfl (TO.u rfl rfl (TX.lenS (xs := (get sx)) Try.runUnderlying45 rfl hn rfl (TO.u rfl rfl (TX.ibin rfl rfl rfl rfl (TO.nil (TE.thenN rfl rfl (TC.cond rfl (fun hb1 => ?_) (fun hb1 => ?_)))))))))))))))))))
 · replace h := it h hb1
   refine TC.skip (TE.thenN rfl rfl (TC.block (TC.seq (TC.keep (L' := [(0, yv), (1, .pointer (some ⟨b_q0, 0, none⟩))]) ⟨rfl, rfl, trivial⟩ (TC.draw hmix 10 [.pointer (some ⟨bp, 0, none⟩), .pointer (some ⟨bp, 0, none⟩), .pointer (some ⟨bp, 0, none⟩), .slice sp n cap, .pointer (some ⟨bp, 0, none⟩), .pointer (some ⟨bp, 0, none⟩), .pointer (some ⟨bp, 0, none⟩), .slice sp n cap, .int .i64 ((get sx).length : Int), .int .i64 (IntKind.i64.wrap (((get sx).length : Int) - 1))] [(13, .slice sp n cap), (19, .int .i64 (IntKind.i64.wrap (((get sx).length : Int) - 1)))] rfl rfl rfl rfl ?_ (.cons 3 rfl rfl rfl (.cons 9 rfl rfl rfl .nil)) ?_)))))
   · exact QAll.u [(1, .pointer (some ⟨b_q0, 0, none⟩))] (.old rfl .nil) rfl rfl (QV.load1 (i := 1) Try.isAgg100 rfl rfl rfl).s rfl (QAll.u [(10, .pointer (some ⟨bp, 0, none⟩))] (.dat 0 rfl rfl rfl .nil) rfl rfl (QV.nilCheckP rfl).s rfl (QAll.u [(11, .pointer (some ⟨bp, 0, none⟩))] (.dat 1 rfl rfl rfl .nil) rfl rfl (QV.fieldAddr' Try.runUnderlying71 rfl Try.sizeOf45 rfl rfl).s rfl (QAll.u [(12, .pointer (some ⟨bp, 0, none⟩))] (.dat 2 rfl rfl rfl .nil) rfl rfl (QV.load1 (i := 0) Try.isAgg45 rfl rfl rfl).s rfl (QAll.u [(1, .pointer (some ⟨b_q0, 0, none⟩))] (.old rfl .nil) rfl rfl (QV.load1 (i := 1) Try.isAgg100 rfl rfl rfl).s rfl (QAll.u [(14, .pointer (some ⟨bp, 0, none⟩))] (.dat 4 rfl rfl rfl .nil) rfl rfl (QV.nilCheckP rfl).s rfl (QAll.u [(15, .pointer (some ⟨bp, 0, none⟩))] (.dat 5 rfl rfl rfl .nil) rfl rfl (QV.fieldAddr' Try.runUnderlying71 rfl Try.sizeOf45 rfl rfl).s rfl (QAll.u [(16, .pointer (some ⟨bp, 0, none⟩))] (.dat 6 rfl rfl rfl .nil) rfl rfl (QV.load1 (i := 0) Try.isAgg45 rfl rfl rfl).s rfl (QAll.u [(17, .slice sp n cap)] (.dat 7 rfl rfl rfl .nil) rfl rfl (QV.lenS (xs := (get sx)) Try.runUnderlying45 rfl hn).s rfl (QAll.u [(18, .int .i64 ((get sx).length : Int))] (.dat 8 rfl rfl rfl .nil) rfl rfl (QV.ibin rfl rfl rfl).s rfl (QAll.nil))))))))))
   obtain ⟨hk2, h⟩ := ck h
   refine TO.u rfl rfl (TX.indexR (N := (En.int .i64)) Try.runUnderlying45 Try.sizeOf3 rfl hn rfl (fun a w s => ho.rd s (i := 0) rfl) hk2 rfl (TO.u rfl rfl (TX.loadR1 (N := (En.int .i64)) Try.isAgg3 rfl (fun a w s => ho.rd s (i := 0) rfl) hk2 rfl rfl (TO.u rfl rfl (TX.assign rfl rfl (TO.nil (TE.thenN rfl rfl (TC.seq (TC.keep (L' := [(0, yv), (1, .pointer (some ⟨b_q0, 0, none⟩)), (3, .int .i64 (gt (get sx) (IntKind.i64.wrap (((get sx).length : Int) - 1))))]) ⟨rfl, rfl, rfl, trivial⟩ ?_)))))))))
   obtain ⟨hk3, h⟩ := ck h
   refine TC.draw hmix 12 [.pointer (some ⟨bp, 0, none⟩), .pointer (some ⟨bp, 0, none⟩), .pointer (some ⟨bp, 0, none⟩), .pointer (some ⟨bp, 0, none⟩), .slice sp n cap, .pointer (some ⟨bp, 0, none⟩), .pointer (some ⟨bp, 0, none⟩), .pointer (some ⟨bp, 0, none⟩), .slice sp n cap, .int .i64 ((get sx).length : Int), .int .i64 (IntKind.i64.wrap (((get sx).length : Int) - 1)), .slice (subP sp (En.int .i64).sz cap ((0 : Nat) : Int).toNat) ((IntKind.i64.wrap (((get sx).length : Int) - 1)).toNat - ((0 : Nat) : Int).toNat) (cap - ((0 : Nat) : Int).toNat)] [(22, .pointer (some ⟨bp, 0, none⟩)), (33, .slice (subP sp (En.int .i64).sz cap ((0 : Nat) : Int).toNat) ((IntKind.i64.wrap (((get sx).length : Int) - 1)).toNat - ((0 : Nat) : Int).toNat) (cap - ((0 : Nat) : Int).toNat))] rfl rfl rfl rfl ?_ (.cons 0 rfl rfl rfl (.cons 11 rfl rfl rfl .nil)) ?_
   · exact QAll.u [(1, .pointer (some ⟨b_q0, 0, none⟩))] (.old rfl .nil) rfl rfl (QV.load1 (i := 1) Try.isAgg100 rfl rfl rfl).s rfl (QAll.u [(1, .pointer (some ⟨b_q0, 0, none⟩))] (.old rfl .nil) rfl rfl (QV.load1 (i := 1) Try.isAgg100 rfl rfl rfl).s rfl (QAll.u [(23, .pointer (some ⟨bp, 0, none⟩))] (.dat 1 rfl rfl rfl .nil) rfl rfl (QV.nilCheckP rfl).s rfl (QAll.u [(24, .pointer (some ⟨bp, 0, none⟩))] (.dat 2 rfl rfl rfl .nil) rfl rfl (QV.fieldAddr' Try.runUnderlying71 rfl Try.sizeOf45 rfl rfl).s rfl (QAll.u [(25, .pointer (some ⟨bp, 0, none⟩))] (.dat 3 rfl rfl rfl .nil) rfl rfl (QV.load1 (i := 0) Try.isAgg45 rfl rfl rfl).s rfl (QAll.u [(1, .pointer (some ⟨b_q0, 0, none⟩))] (.old rfl .nil) rfl rfl (QV.load1 (i := 1) Try.isAgg100 rfl rfl rfl).s rfl (QAll.u [(27, .pointer (some ⟨bp, 0, none⟩))] (.dat 5 rfl rfl rfl .nil) rfl rfl (QV.nilCheckP rfl).s rfl (QAll.u [(28, .pointer (some ⟨bp, 0, none⟩))] (.dat 6 rfl rfl rfl .nil) rfl rfl (QV.fieldAddr' Try.runUnderlying71 rfl Try.sizeOf45 rfl rfl).s rfl (QAll.u [(29, .pointer (some ⟨bp, 0, none⟩))] (.dat 7 rfl rfl rfl .nil) rfl rfl (QV.load1 (i := 0) Try.isAgg45 rfl rfl rfl).s rfl (QAll.u [(30, .slice sp n cap)] (.dat 8 rfl rfl rfl .nil) rfl rfl (QV.lenS (xs := (get sx)) Try.runUnderlying45 rfl hn).s rfl (QAll.u [(31, .int .i64 ((get sx).length : Int))] (.dat 9 rfl rfl rfl .nil) rfl rfl (QV.ibin rfl rfl rfl).s rfl (QAll.u [(26, .slice sp n cap), (32, .int .i64 (IntKind.i64.wrap (((get sx).length : Int) - 1)))] (.dat 4 rfl rfl rfl (.dat 10 rfl rfl rfl .nil)) rfl rfl (QV.slice (l := ((0 : Nat) : Int)) (h := (IntKind.i64.wrap (((get sx).length : Int) - 1))) Try.runUnderlying45 Try.sizeOf3 rfl .none (.some rfl) ho.le_cap hk3).s rfl (QAll.nil))))))))))))
   refine TO.u rfl rfl (TX.nilCheckP rfl rfl (TO.u rfl rfl (TX.fieldAddr' Try.runUnderlying71 rfl Try.sizeOf45 rfl rfl rfl (TO.u rfl rfl (TX.store (i := 0) Try.sizeOf45 rfl rfl rfl rfl rfl rfl rfl rfl (TO.nil (TE.thenN rfl rfl (TC.seq (TC.region (TO.u rfl rfl (TX.move rfl rfl (TO.u rfl rfl (TX.move rfl rfl ?_)))))))))))))
   obtain ⟨Hs7, hI8, hp6⟩ := hc _ _ _ _ _ (cutX_length (sliceOk_hi hk3)) (OwnL.cut ho rfl (sliceOk_hi hk3))
   refine TO.perm (H' := ⟨[(b_q0, .cells #[.pointer (some ⟨bp, 0, none⟩)] 100)], [Hs7]⟩) (open_permA (A := []) hp6).symm ?_
   obtain ⟨u9, hu9, h⟩ := bd h
   refine TO.u rfl rfl (TX.yield (x := (gt (get sx) (IntKind.i64.wrap (((get sx).length : Int) - 1)))) 0 hy rfl rfl rfl rfl hu9 hI8 rfl (fun Hs10 hI11 => (TO.reH ⟨[(b_q0, .cells #[.pointer (some ⟨bp, 0, none⟩)] 100)], [Hs10]⟩ rfl (TO.u rfl rfl (TX.not rfl rfl (TO.nil (TE.thenN rfl rfl (TC.cond rfl (fun hb12 => ?_) (fun hb12 => ?_)))))))))
   · replace h := it h hb12
     refine TC.ret (TE.blockR (TE.loopR (TE.blockR ?_)))
     have hr := (Option.some.inj h)
     subst hr
     exact TE.fin (R := ⟨[(b_q0, .cells #[.pointer (some ⟨bp, 0, none⟩)] 100)], [Hs0]⟩) (TL.ret (R' := ⟨[(b_q0, .cells #[.pointer (some ⟨bp, 0, none⟩)] 100)], [Hs10]⟩) Try.results72 .nil (subD 0 0 rfl rfl) ⟨Hs10, hI11, rfl⟩)
   replace h := ie h hb12
   exact TC.skip (TE.blockN (TE.to (L' := [(0, yv), (1, .pointer (some ⟨b_q0, 0, none⟩))]) (E' := [(b_q0, .cells #[.pointer (some ⟨bp, 0, none⟩)] 100)]) (S' := [Hs10]) 0 0 ⟨rfl, rfl, trivial⟩ rfl rfl (ih u9 _ _ ⟨_, hI11, rfl, rfl⟩ h)))
 replace h := ie h hb1
 refine TC.exit (TE.thenX (TE.perm (H' := ⟨[(b_q0, .cells #[.pointer (some ⟨bp, 0, none⟩)] 100)], [Hs]⟩) (open_permA (A := []) hp).symm (TE.loopX (TE.blockH ?_))))
 have hr := (Option.some.inj h)
 subst hr
 exact TE.finN (R := ⟨[(b_q0, .cells #[.pointer (some ⟨bp, 0, none⟩)] 100)], [Hs0]⟩) (TL.ret (R' := ⟨[(b_q0, .cells #[.pointer (some ⟨bp, 0, none⟩)] 100)], [Hs]⟩) Try.results72 .nil (subD 0 0 rfl rfl) ⟨Hs, hI1, rfl⟩)
/-- (*hatchway/flow.stack_int_).pops -/
theorem c47 (b_0 : Nat) (w : World) : Ret Try.prog 47 [.pointer (some ⟨b_0, 0, none⟩)] w ⟨[], []⟩ (fun v R => ∃ c_0 : Nat, v = .func (.func 72) #[] #[.pointer (some ⟨c_0, 0, none⟩)] ∧ R = ⟨[(c_0, .cells #[.pointer (some ⟨b_0, 0, none⟩)] 100)], []⟩) := by
 exact Ret.of_body Try.func47 rfl Try.ntmps47 rfl (fun _ hx => absurd hx List.not_mem_nil) List.nodup_nil (TC.seq (TC.region (TO.u rfl rfl (TX.box rfl rfl rfl (fun b1 => (TO.u rfl rfl (TX.assign rfl rfl (TO.nil (TE.thenN rfl rfl (TC.seq (TC.region (TO.u rfl rfl (TX.mkfunc rfl rfl rfl (TO.u rfl rfl (TX.assign rfl rfl (TO.nil (TE.thenN rfl rfl (TC.ret (TE.fin (R := ⟨[], []⟩) (TL.ret (R' := ⟨[(b1, .cells #[.pointer (some ⟨b_0, 0, none⟩)] 100)], []⟩) Try.results47 (.cons (.tmp rfl) .nil) (List.Sublist.refl _) ⟨b1, rfl, rfl⟩))))))))))))))))))))
def fn21_r1 (v1 : (List (List Int))) (x11091 : List Int) (x11099 : List (Int × S_struct___)) (x11102 : List Bool) (y11110 : Int) : Option (((List Int) × (List (Int × S_struct___)) × (List Bool)) × Nat) :=
  (bindP (fn48 x11099 y11110) fun v11126 => (bif v11126.1 then (bif inb y11110 x11102.length then (bif inb y11110 v1.length then (Option.bind (fn46 (⟨x11091⟩ : S_flow_stack_int_) (gt v1 y11110)) fun v11141 => (some ((v11141.fl, v11126.2, x11102.set y11110.toNat true), 0))) else none) else none) else (some ((x11091, v11126.2, x11102), 0))))
theorem fn21_r1_s (v1 : (List (List Int))) (x11091 : List Int) (x11099 : List (Int × S_struct___)) (x11102 : List Bool) (y11110 : Int) : fn21_r1 v1 x11091 x11099 x11102 y11110 = (bindP (fn48 x11099 y11110) fun v11126 => (bif v11126.1 then (bif inb y11110 x11102.length then (bif inb y11110 v1.length then (Option.bind (fn46 (⟨x11091⟩ : S_flow_stack_int_) (gt v1 y11110)) fun v11141 => (some ((v11141.fl, v11126.2, x11102.set y11110.toNat true), 0))) else none) else none) else (some ((x11091, v11126.2, x11102), 0)))) := rfl
def fn21_k1_0 (x11149 : List Int) (x11157 : List (Int × S_struct___)) (x11160 : List Bool) : Option ((List Bool)) :=
  (some x11160)
theorem fn21_k1_0_s (x11149 : List Int) (x11157 : List (Int × S_struct___)) (x11160 : List Bool) : fn21_k1_0 x11149 x11157 x11160 = (some x11160) := rfl
/-- hatchway/flow.Reached -/
def fn21 (F : Nat) (p0 : List Instr) : Option ((List Bool)) :=
  (Option.bind (fn45 F p0) fun v1 => (bif v1.isEmpty then (some ([] : List Bool)) else (bif decide (0 ≤ (p0.length : Int)) && decide ((p0.length : Int) ≤ (p0.length : Int)) && decide ((1 : Int) * (p0.length : Int) ≤ 281474976710656) && decide ((p0.length : Int) ≤ 9223372036854775807) then (Option.bind (fn46 (⟨([] : List Int)⟩ : S_flow_stack_int_) ([0] : List Int)) fun v11007 => (Option.bind (fn72 F (stepR (fun (s : (List Int) × (List (Int × S_struct___)) × (List Bool)) (y : Int) => fn21_r1 v1 s.1 s.2.1 s.2.2 y)) goR (fun s : ((List Int) × (List (Int × S_struct___)) × (List Bool)) × Nat => s.1.1) (fun (xs : List Int) (s : ((List Int) × (List (Int × S_struct___)) × (List Bool)) × Nat) => ((xs, s.1.2.1, s.1.2.2), s.2))  (((v11007.fl, ([] : List (Int × S_struct___)), List.replicate (p0.length : Int).toNat false), 0) : ((List Int) × (List (Int × S_struct___)) × (List Bool)) × Nat)) fun o11169 => (bif Nat.beq o11169.2 0 then fn21_k1_0 o11169.1.1 o11169.1.2.1 o11169.1.2.2 else none))) else none)))
def post21 (r : (List Bool)) (v : Value) (R : Hp) : Prop := ∃ sp n cap Hs, v = .slice sp n cap ∧ r.length = n ∧ R = ⟨[], [Hs]⟩ ∧ OwnL En.bool 4 sp cap r Hs
set_option maxHeartbeats 8000000 in
theorem c21 (F : Nat) (sp_0 : Option Addr) (n_0 cap_0 : Nat) (p0 : List Instr) (w : World) (r : (List Bool)) (qn0 : p0.length = n_0) (qc0 : p0.length ≤ cap_0) (qp0 : RdF Instr.E w [] sp_0 p0) (h : fn21 F p0 = some r) : Ret Try.prog 21 [.slice sp_0 n_0 cap_0] w ⟨[], []⟩ (post21 r) := by
 unfold fn21 at h
 refine Ret.of_body Try.func21 rfl Try.ntmps21 rfl (fun _ hx => absurd hx List.not_mem_nil) List.nodup_nil (TC.seq (TC.region (TO.u rfl rfl (TX.assign rfl rfl (TO.nil (TE.thenN rfl rfl (TC.seq (TC.region (TO.u rfl rfl (TX.move rfl rfl ?_))))))))))
 obtain ⟨v1, hv1, h⟩ := bd h
 refine TO.u rfl rfl (TX.callQ (post45 v1) Try.call45 rfl (fun a w s => c45 F _ _ _ p0 _ _ qn0 qc0 (qp0.tr s.extB0) hv1) rfl ?_)
 rintro _ _ ⟨sp2, n3, cap4, Hs6, rfl, hn5, rfl, ho7⟩
 refine TO.reH ⟨[], [Hs6]⟩ rfl (TO.u rfl rfl (TX.alloc Try.zeroValue66 rfl rfl (fun b9 => (TO.u rfl rfl (TX.store (i := 0) Try.sizeOf66 rfl rfl rfl rfl rfl rfl rfl rfl (TO.nil (TE.thenN rfl rfl (TC.seq (TC.seq (TC.region (TO.u rfl rfl (TX.load1 (i := 0) Try.isAgg66 rfl rfl rfl rfl (TO.u rfl rfl (TX.eqNilS Try.runUnderlying66 rfl rfl ho7.isNone rfl (TO.nil (TE.thenN rfl rfl (TC.cond rfl (fun hb10 => ?_) (fun hb10 => ?_))))))))))))))))))
 · replace h := it h hb10
   refine TC.seq (TC.region (TO.u rfl rfl (TX.assign rfl rfl (TO.nil (TE.thenN rfl rfl (TC.ret (TE.thenR ?_)))))))
   have hr := (Option.some.inj h)
   subst hr
   exact TE.fin (R := ⟨[], []⟩) (TL.ret (R' := ⟨[], [[]]⟩) Try.results21 (.cons (.tmp rfl) .nil) segSub0 ⟨none, 0, 0, [], rfl, rfl, rfl, (OwnL.nil En.bool 4)⟩)
 replace h := ie h hb10
 refine TC.skip (TE.thenN rfl rfl (TC.seq ?_))
 obtain ⟨hk5501, h⟩ := ck h
 refine TC.to (L' := [(0, .slice sp_0 n_0 cap_0), (3, .pointer (some ⟨b9, 0, none⟩))]) (E' := [(b9, .cells #[.slice sp2 n3 cap4] 66)]) (S' := [Hs6]) 0 0 ⟨rfl, rfl, trivial⟩ rfl rfl (TC.drawD hmix (fun T9501 hdef9502 => ?_))
 have hS1000_0 : ∀ (m2001 : Nat), ∀ (sp5001 : Option Addr), ∀ (b6001 : Nat), ∀ (b7001 : Nat), ∀ (Hs5003 : Blocks), ∀ (ho5004 : OwnL En.bool 4 sp5001 ((p0.length : Int).toNat) (List.replicate (p0.length : Int).toNat false) Hs5003), ∀ (Hs2003 : Blocks), ∀ (ho2004 : OwnM (Kn.int .i64) (fun (v : S_struct___) => (.agg #[] : Value)) m2001 ([] : List (Int × S_struct___)) Hs2003), T9501 0 [true, true, true, true, true, true, true, true] [(3, .pointer (some ⟨b9, 0, none⟩)), (4, .pointer (some ⟨b6001, 0, none⟩)), (5, .pointer (some ⟨b7001, 0, none⟩))] ⟨[(b7001, .cells #[.slice sp5001 ((p0.length : Int).toNat) ((p0.length : Int).toNat)] 41), (b6001, .cells #[.map (some m2001)] 69), (b9, .cells #[.slice sp2 n3 cap4] 66)], [Hs5003, Hs2003, Hs6]⟩ := by
  intro m2001 sp5001 b6001 b7001 Hs5003 ho5004 Hs2003 ho2004
  rw [hdef9502]
  refine TD.done rfl rfl (TE.thenN rfl rfl (TC.seq (TC.region (TO.u rfl rfl (TX.alloc Try.zeroValue71 rfl rfl (fun b11001 => (TO.nil (TE.thenN rfl rfl (TC.seq (TC.region (TO.u rfl rfl (TX.buildS (N := (En.int .i64)) (ys := ([0] : List Int)) Try.runUnderlying45 Try.sizeOf3 Try.zeroValue3 rfl rfl rfl rfl (fillS [.int .i64 0] rfl rfl rfl rfl) rfl (fun sp11002 Hs11004 ho11005 => ?_)))))))))))))
  obtain ⟨v11007, hv11007, h⟩ := bd h
  refine TO.addNil (TO.u rfl rfl (TX.callRW [0] [0] _ rfl rfl Try.call46 rfl rfl (fun a w s => c46 b11001 (⟨([] : List Int)⟩ : S_flow_stack_int_) none _ 0 [] _ _ _ ([0] : List Int) _ _ rfl (OwnL.nil (En.int .i64) 3) rfl ho11005.le_cap (ho11005.rdf s (i := 0) rfl) s.hpOk hv11007) rfl ?_))
  rintro _ _ ⟨sp11008, n11009, cap11010, Hs11012, rfl, rfl, hn11011, ho11013⟩
  refine ⟨[(b11001, .cells #[.slice sp11008 n11009 cap11010] 71)], [], [Hs11012], rfl, ?_⟩
  refine TO.reH ⟨[(b11001, .cells #[.slice sp11008 n11009 cap11010] 71), (b7001, .cells #[.slice sp5001 ((p0.length : Int).toNat) ((p0.length : Int).toNat)] 41), (b6001, .cells #[.map (some m2001)] 69), (b9, .cells #[.slice sp2 n3 cap4] 66)], [Hs11012, Hs11004, Hs5003, Hs2003, Hs6]⟩ rfl (TO.nil (TE.thenN rfl rfl (TC.seq (TC.seq (TC.region (TO.u rfl rfl (TX.callQ _ Try.call47 rfl (fun a w s => c47 b11001 _) rfl ?_)))))))
  rintro _ _ ⟨b11015, rfl, rfl⟩
  refine TO.reH ⟨[(b11015, .cells #[.pointer (some ⟨b11001, 0, none⟩)] 100), (b11001, .cells #[.slice sp11008 n11009 cap11010] 71), (b7001, .cells #[.slice sp5001 ((p0.length : Int).toNat) ((p0.length : Int).toNat)] 41), (b6001, .cells #[.map (some m2001)] 69), (b9, .cells #[.slice sp2 n3 cap4] 66)], [Hs11012, Hs11004, Hs5003, Hs2003, Hs6]⟩ rfl (TO.nil (TE.thenN rfl rfl (TC.block ?_)))
  obtain ⟨⟨o11169, m11170⟩, hl11171, h⟩ := bd h
  refine TC.to (L' := [(3, .pointer (some ⟨b9, 0, none⟩)), (4, .pointer (some ⟨b6001, 0, none⟩)), (5, .pointer (some ⟨b7001, 0, none⟩)), (6, .pointer (some ⟨b11001, 0, none⟩)), (18, .func (.func 72) #[] #[.pointer (some ⟨b11015, 0, none⟩)])]) (E' := [(b11015, .cells #[.pointer (some ⟨b11001, 0, none⟩)] 100), (b11001, .cells #[.slice sp11008 n11009 cap11010] 71), (b7001, .cells #[.slice sp5001 ((p0.length : Int).toNat) ((p0.length : Int).toNat)] 41), (b6001, .cells #[.map (some m2001)] 69), (b9, .cells #[.slice sp2 n3 cap4] 66)]) (S' := [Hs11012, Hs11004, Hs5003, Hs2003, Hs6]) 0 0 ⟨rfl, rfl, rfl, rfl, rfl, trivial⟩ rfl rfl ?_
  have hlens : LensI (En.int .i64) 3 b11001 71 (fun s : (List Int) × (List (Int × S_struct___)) × (List Bool) => s.1) (fun (xs : List Int) (s : (List Int) × (List (Int × S_struct___)) × (List Bool)) => (xs, s.2.1, s.2.2)) (fun (s : (List Int) × (List (Int × S_struct___)) × (List Bool)) (H' : Hp) => match s with | (x11091, x11099, x11102) => ∃ sp11092 n11093 cap11094 Hs11096, ∃ Hs11100, ∃ sp11103 n11104 cap11105 Hs11107, OwnL (En.int .i64) 3 sp11092 cap11094 x11091 Hs11096 ∧ x11091.length = n11093 ∧ OwnM (Kn.int .i64) (fun (v : S_struct___) => (.agg #[] : Value)) m2001 x11099 Hs11100 ∧ OwnL En.bool 4 sp11103 cap11105 x11102 Hs11107 ∧ x11102.length = n11104 ∧ H' = ⟨[(b11001, .cells #[.slice sp11092 n11093 cap11094] 71), (b7001, .cells #[.slice sp11103 n11104 cap11105] 41), (b6001, .cells #[.map (some m2001)] 69), (b9, .cells #[.slice sp2 n3 cap4] 66)], [Hs11096, Hs11004, Hs11107, Hs11100, Hs6]⟩) := by
   rintro ⟨x11091, x11099, x11102⟩ H ⟨sp11092, n11093, cap11094, Hs11096, Hs11100, sp11103, n11104, cap11105, Hs11107, ho11097, hn11095, ho11101, ho11108, hn11106, rfl⟩
   refine ⟨sp11092, n11093, cap11094, Hs11096, _, pull_perm (i := 0) (j := 0) rfl rfl, hn11095, ho11097, ?_⟩
   intro sp' n' cap' row' xs' hn' ho'
   exact ⟨⟨[(b11001, .cells #[.slice sp' n' cap'] 71), (b7001, .cells #[.slice sp11103 n11104 cap11105] 41), (b6001, .cells #[.map (some m2001)] 69), (b9, .cells #[.slice sp2 n3 cap4] 66)], [row', Hs11004, Hs11107, Hs11100, Hs6]⟩, ⟨sp', n', cap', row', Hs11100, sp11103, n11104, cap11105, Hs11107, ho', hn', ho11101, ho11108, hn11106, rfl⟩, pull_perm (i := 0) (j := 0) rfl rfl⟩
  refine TC.rangeO [19] [0] [] (fun (s : (List Int) × (List (Int × S_struct___)) × (List Bool)) (H' : Hp) => match s with | (x11091, x11099, x11102) => ∃ sp11092 n11093 cap11094 Hs11096, ∃ Hs11100, ∃ sp11103 n11104 cap11105 Hs11107, OwnL (En.int .i64) 3 sp11092 cap11094 x11091 Hs11096 ∧ x11091.length = n11093 ∧ OwnM (Kn.int .i64) (fun (v : S_struct___) => (.agg #[] : Value)) m2001 x11099 Hs11100 ∧ OwnL En.bool 4 sp11103 cap11105 x11102 Hs11107 ∧ x11102.length = n11104 ∧ H' = ⟨[(b11001, .cells #[.slice sp11092 n11093 cap11094] 71), (b7001, .cells #[.slice sp11103 n11104 cap11105] 41), (b6001, .cells #[.map (some m2001)] 69), (b9, .cells #[.slice sp2 n3 cap4] 66)], [Hs11096, Hs11004, Hs11107, Hs11100, Hs6]⟩) (fun (x : Int) => [.int .i64 x]) (fun (s : (List Int) × (List (Int × S_struct___)) × (List Bool)) (y : Int) => fn21_r1 v1 s.1 s.2.1 s.2.2 y) (v11007.fl, ([] : List (Int × S_struct___)), List.replicate (p0.length : Int).toNat false) o11169 m11170 Try.call72 rfl rfl (fun _ => rfl) rfl rfl ⟨sp11008, n11009, cap11010, Hs11012, Hs2003, sp5001, ((p0.length : Int).toNat), ((p0.length : Int).toNat), Hs5003, ho11013, hn11011, ho2004, ho5004, List.length_replicate, rfl⟩ (fun zw zv zJ zH zd zx zo zy zj => c72 F (stepR (fun (s : (List Int) × (List (Int × S_struct___)) × (List Bool)) (y : Int) => fn21_r1 v1 s.1 s.2.1 s.2.2 y)) goR (fun s : ((List Int) × (List (Int × S_struct___)) × (List Bool)) × Nat => s.1.1) (fun (xs : List Int) (s : ((List Int) × (List (Int × S_struct___)) × (List Bool)) × Nat) => ((xs, s.1.2.1, s.1.2.2), s.2)) zJ zv (((v11007.fl, ([] : List (Int × S_struct___)), List.replicate (p0.length : Int).toNat false), 0) : ((List Int) × (List (Int × S_struct___)) × (List Bool)) × Nat) zH b11015 b11001 zw (o11169, m11170) (lens_comp hlens zd) zo zy zj hl11171) ?_ ?_
  · clear h hl11171
    intro l11111 r11112 lr11113 w11114 R11115 s11116 y11110 s11118 m11119 H11120 Rr11121 hst11122 h hI11191 hx11123 fin11124
    obtain ⟨x11091, x11099, x11102⟩ := s11116
    obtain ⟨sp11092, n11093, cap11094, Hs11096, Hs11100, sp11103, n11104, cap11105, Hs11107, ho11097, hn11095, ho11101, ho11108, hn11106, rfl⟩ := hI11191
    replace h := (fn21_r1_s v1 x11091 x11099 x11102 y11110).symm.trans h
    have qx11125 := qp0.tr hx11123
    refine TC.to (L' := [(3, .pointer (some ⟨b9, 0, none⟩)), (4, .pointer (some ⟨b6001, 0, none⟩)), (5, .pointer (some ⟨b7001, 0, none⟩)), (6, .pointer (some ⟨b11001, 0, none⟩)), (18, .func (.func 72) #[] #[.pointer (some ⟨b11015, 0, none⟩)]), (19, .int .i64 y11110)]) (E' := [(l11111, .loop lr11113), (r11112, .deferred (some [])), (b11001, .cells #[.slice sp11092 n11093 cap11094] 71), (b7001, .cells #[.slice sp11103 n11104 cap11105] 41), (b6001, .cells #[.map (some m2001)] 69), (b9, .cells #[.slice sp2 n3 cap4] 66)]) (S' := [Hs11096, Hs11004, Hs11107, Hs11100, Hs6]) 0 0 ⟨rfl, rfl, rfl, rfl, rfl, rfl, trivial⟩ rfl rfl (TC.region (TO.u rfl rfl (TX.assign rfl rfl (TO.nil (TE.begin (i := 0) rfl (by assumption) rfl ?_)))))
    refine TC.block (TC.seq (TC.region (TO.u rfl rfl (TX.load1 (i := 4) Try.isAgg69 rfl rfl rfl rfl (TO.u rfl rfl (TX.move rfl rfl ?_))))))
    obtain ⟨v11126, hv11126, h⟩ := bp h
    refine TO.u rfl rfl (TX.callRW [] [3] _ rfl rfl Try.call48 rfl rfl (fun a w s => c48 m2001 x11099 Hs11100 y11110 _ _ ho11101 s.hpOk hv11126) rfl ?_)
    rintro _ _ ⟨Hs11127, rfl, rfl, ho11128⟩
    refine ⟨[], [], [Hs11127], rfl, ?_⟩
    refine TO.reH ⟨[(l11111, .loop { lr11113 with state := .busy }), (r11112, .deferred (some [])), (b11001, .cells #[.slice sp11092 n11093 cap11094] 71), (b7001, .cells #[.slice sp11103 n11104 cap11105] 41), (b6001, .cells #[.map (some m2001)] 69), (b9, .cells #[.slice sp2 n3 cap4] 66)], [Hs11096, Hs11004, Hs11107, Hs11127, Hs6]⟩ rfl (TO.nil (TE.thenN rfl rfl (TC.cond rfl (fun hb11130 => ?_) (fun hb11130 => ?_))))
    · replace h := it h hb11130
      refine TC.seq (TC.region (TO.u rfl rfl (TX.load1 (i := 3) Try.isAgg41 rfl rfl rfl rfl (TO.u rfl rfl (TX.move rfl rfl ?_)))))
      obtain ⟨hk11131, h⟩ := ck h
      refine TO.u rfl rfl (TX.indexR (N := En.bool) Try.runUnderlying41 Try.sizeOf4 rfl hn11106 rfl (fun a w s => ho11108.rd s (i := 2) rfl) hk11131 rfl (TO.u rfl rfl (TX.storeS (N := En.bool) (si := 2) (u := true) Try.sizeOf4 rfl rfl rfl rfl rfl rfl ho11108 hk11131 rfl (fun Hs11132 _ S11133 ho11134 => ?_))))
      cases S11133
      refine TO.nil (TE.thenN rfl rfl (TC.region (TO.u rfl rfl (TX.load1 (i := 5) Try.isAgg66 rfl rfl rfl rfl (TO.u rfl rfl (TX.move rfl rfl ?_))))))
      obtain ⟨hk11135, h⟩ := ck h
      refine TO.u rfl rfl (TX.indexLL (si := 4) Try.runUnderlying66 Try.sizeOf45 rfl hn5 rfl rfl ho7 hk11135 rfl (TO.u rfl rfl (TX.loadLL (si := 4) (i := y11110) Try.isAgg45 rfl rfl ho7 hk11135 rfl (fun sp11136 n11137 cap11138 hn11139 => ?_))))
      obtain ⟨v11141, hv11141, h⟩ := bd h
      refine TO.u rfl rfl (TX.callRW [2] [0] _ rfl rfl Try.call46 rfl rfl (fun a w s => c46 b11001 (⟨x11091⟩ : S_flow_stack_int_) sp11092 _ cap11094 Hs11096 _ _ _ (gt v1 y11110) _ _ hn11095 ho11097 hn11139.1 hn11139.le_cap (hn11139.rdf s (i := 3) rfl) s.hpOk hv11141) rfl ?_)
      rintro _ _ ⟨sp11142, n11143, cap11144, Hs11146, rfl, rfl, hn11145, ho11147⟩
      refine ⟨[(b11001, .cells #[.slice sp11142 n11143 cap11144] 71)], [], [Hs11146], rfl, ?_⟩
      refine TO.reH ⟨[(l11111, .loop { lr11113 with state := .busy }), (r11112, .deferred (some [])), (b11001, .cells #[.slice sp11142 n11143 cap11144] 71), (b7001, .cells #[.slice sp11103 n11104 cap11105] 41), (b6001, .cells #[.map (some m2001)] 69), (b9, .cells #[.slice sp2 n3 cap4] 66)], [Hs11146, Hs11004, Hs11132, Hs11127, Hs6]⟩ rfl (TO.nil (TE.blockN ?_))
      cases h
      exact TE.to (L' := []) (E' := [(l11111, .loop { lr11113 with state := .busy }), (r11112, .deferred (some [])), (b11001, .cells #[.slice sp11142 n11143 cap11144] 71), (b7001, .cells #[.slice sp11103 n11104 cap11105] 41), (b6001, .cells #[.map (some m2001)] 69), (b9, .cells #[.slice sp2 n3 cap4] 66)]) (S' := [Hs11146, Hs11004, Hs11132, Hs11127, Hs6]) 0 0 trivial rfl rfl (fin11124 [] ⟨[(b11001, .cells #[.slice sp11142 n11143 cap11144] 71), (b7001, .cells #[.slice sp11103 n11104 cap11105] 41), (b6001, .cells #[.map (some m2001)] 69), (b9, .cells #[.slice sp2 n3 cap4] 66)], [Hs11146, Hs11004, Hs11132, Hs11127, Hs6]⟩ ⟨sp11142, n11143, cap11144, Hs11146, Hs11127, sp11103, n11104, cap11105, Hs11132, ho11147, hn11145, ho11128, ho11134, (List.length_set.trans hn11106), rfl⟩)
    replace h := ie h hb11130
    refine TC.skip (TE.blockN ?_)
    cases h
    exact TE.to (L' := []) (E' := [(l11111, .loop { lr11113 with state := .busy }), (r11112, .deferred (some [])), (b11001, .cells #[.slice sp11092 n11093 cap11094] 71), (b7001, .cells #[.slice sp11103 n11104 cap11105] 41), (b6001, .cells #[.map (some m2001)] 69), (b9, .cells #[.slice sp2 n3 cap4] 66)]) (S' := [Hs11096, Hs11004, Hs11107, Hs11127, Hs6]) 0 0 trivial rfl rfl (fin11124 [] ⟨[(b11001, .cells #[.slice sp11092 n11093 cap11094] 71), (b7001, .cells #[.slice sp11103 n11104 cap11105] 41), (b6001, .cells #[.map (some m2001)] 69), (b9, .cells #[.slice sp2 n3 cap4] 66)], [Hs11096, Hs11004, Hs11107, Hs11127, Hs6]⟩ ⟨sp11092, n11093, cap11094, Hs11096, Hs11127, sp11103, n11104, cap11105, Hs11107, ho11097, hn11095, ho11128, ho11108, hn11106, rfl⟩)
  clear hl11171
  intro r11168 H11192 hI11193
  obtain ⟨x11149, x11157, x11160⟩ := o11169
  obtain ⟨sp11150, n11151, cap11152, Hs11154, Hs11158, sp11161, n11162, cap11163, Hs11165, ho11155, hn11153, ho11159, ho11166, hn11164, rfl⟩ := hI11193
  refine TE.reH ⟨[(r11168, .deferred (some [])), (b11015, .cells #[.pointer (some ⟨b11001, 0, none⟩)] 100), (b11001, .cells #[.slice sp11150 n11151 cap11152] 71), (b7001, .cells #[.slice sp11161 n11162 cap11163] 41), (b6001, .cells #[.map (some m2001)] 69), (b9, .cells #[.slice sp2 n3 cap4] 66)], [Hs11154, Hs11004, Hs11165, Hs11158, Hs6]⟩ rfl ?_
  cases hm11194 : Nat.beq m11170 0
  · replace h := ie h hm11194
    cases h
  replace h := it h hm11194
  have q_ := Nat.eq_of_beq_eq_true hm11194
  subst q_
  replace h := (fn21_k1_0_s x11149 x11157 x11160).symm.trans h
  refine TE.asE (e := .normal) rfl (TE.blockN (TE.thenN rfl rfl (TC.seq (TC.region (TO.u rfl rfl (TX.load1 (i := 3) Try.isAgg41 rfl rfl rfl rfl (TO.u rfl rfl (TX.assign rfl rfl (TO.nil (TE.thenN rfl rfl (TC.ret ?_)))))))))))
  have hr := (Option.some.inj h)
  subst hr
  exact TE.fin (R := ⟨[], []⟩) (TL.mark (i := 0) rfl rfl (TL.ret (R' := ⟨[], [Hs11165]⟩) Try.results21 (.cons (.tmp rfl) .nil) (segSub (i := 2) rfl) ⟨sp11161, n11162, cap11163, Hs11165, rfl, hn11164, rfl, ho11166⟩))
 have hS1000_1 : ∀ (m2001 : Nat), ∀ (sp5001 : Option Addr), ∀ (b6001 : Nat), ∀ (b7001 : Nat), ∀ (Hs5003 : Blocks), ∀ (ho5004 : OwnL En.bool 4 sp5001 ((p0.length : Int).toNat) (List.replicate (p0.length : Int).toNat false) Hs5003), ∀ (Hs2003 : Blocks), ∀ (ho2004 : OwnM (Kn.int .i64) (fun (v : S_struct___) => (.agg #[] : Value)) m2001 ([] : List (Int × S_struct___)) Hs2003), T9501 1 [true, true, true, true, true, true, true, false] [(3, .pointer (some ⟨b9, 0, none⟩)), (4, .pointer (some ⟨b6001, 0, none⟩)), (5, .pointer (some ⟨b7001, 0, none⟩)), (15, .slice sp5001 ((p0.length : Int).toNat) ((p0.length : Int).toNat))] ⟨[(b7001, .cells #[.slice none 0 0] 41), (b6001, .cells #[.map (some m2001)] 69), (b9, .cells #[.slice sp2 n3 cap4] 66)], [Hs5003, Hs2003, Hs6]⟩ := by
  intro m2001 sp5001 b6001 b7001 Hs5003 ho5004 Hs2003 ho2004
  rw [hdef9502]
  refine TD.step [7] 7 rfl rfl rfl rfl rfl (EdgeOk.cons rfl ?_ ?_)
  · exact TO.u rfl rfl (TX.store (i := 0) Try.sizeOf41 rfl rfl rfl rfl rfl rfl rfl rfl (TO.nil (TE.toh (TE.td ((hdef9502 _ _ _ _).mp (hS1000_0 m2001 sp5001 b6001 b7001 Hs5003 ho5004 Hs2003 ho2004))) 0 0 ⟨rfl, rfl, rfl, trivial⟩ rfl rfl)))
  exact EdgeOk.nil
 have hS1000_2 : ∀ (m2001 : Nat), ∀ (sp5001 : Option Addr), ∀ (b6001 : Nat), ∀ (b7001 : Nat), ∀ (Hs5003 : Blocks), ∀ (ho5004 : OwnL En.bool 4 sp5001 ((p0.length : Int).toNat) (List.replicate (p0.length : Int).toNat false) Hs5003), ∀ (Hs2003 : Blocks), ∀ (ho2004 : OwnM (Kn.int .i64) (fun (v : S_struct___) => (.agg #[] : Value)) m2001 ([] : List (Int × S_struct___)) Hs2003), T9501 2 [true, true, true, true, true, true, false, false] [(3, .pointer (some ⟨b9, 0, none⟩)), (4, .pointer (some ⟨b6001, 0, none⟩)), (5, .pointer (some ⟨b7001, 0, none⟩)), (12, .map (some m2001)), (15, .slice sp5001 ((p0.length : Int).toNat) ((p0.length : Int).toNat))] ⟨[(b7001, .cells #[.slice none 0 0] 41), (b6001, .cells #[.map none] 69), (b9, .cells #[.slice sp2 n3 cap4] 66)], [Hs5003, Hs2003, Hs6]⟩ := by
  intro m2001 sp5001 b6001 b7001 Hs5003 ho5004 Hs2003 ho2004
  rw [hdef9502]
  refine TD.step [6] 6 rfl rfl rfl rfl rfl (EdgeOk.cons rfl ?_ ?_)
  · exact TO.u rfl rfl (TX.store (i := 1) Try.sizeOf69 rfl rfl rfl rfl rfl rfl rfl rfl (TO.nil (TE.toh (TE.td ((hdef9502 _ _ _ _).mp (hS1000_1 m2001 sp5001 b6001 b7001 Hs5003 ho5004 Hs2003 ho2004))) 0 0 ⟨rfl, rfl, rfl, rfl, trivial⟩ rfl rfl)))
  exact EdgeOk.nil
 have hS1000_3 : ∀ (m2001 : Nat), ∀ (b6001 : Nat), ∀ (b7001 : Nat), ∀ (Hs2003 : Blocks), ∀ (ho2004 : OwnM (Kn.int .i64) (fun (v : S_struct___) => (.agg #[] : Value)) m2001 ([] : List (Int × S_struct___)) Hs2003), T9501 2 [true, true, true, false, true, true, true, false] [(3, .pointer (some ⟨b9, 0, none⟩)), (4, .pointer (some ⟨b6001, 0, none⟩)), (5, .pointer (some ⟨b7001, 0, none⟩)), (14, .int .i64 (p0.length : Int))] ⟨[(b7001, .cells #[.slice none 0 0] 41), (b6001, .cells #[.map (some m2001)] 69), (b9, .cells #[.slice sp2 n3 cap4] 66)], [Hs2003, Hs6]⟩ := by
  intro m2001 b6001 b7001 Hs2003 ho2004
  rw [hdef9502]
  refine TD.step [3] 3 rfl rfl rfl rfl rfl (EdgeOk.cons rfl ?_ ?_)
  · exact TO.u rfl rfl (TX.makeS (N := En.bool) (z := false) Try.runUnderlying41 Try.typeInfo4 rfl rfl rfl rfl rfl rfl hk5501 rfl (fun sp5001 Hs5003 ho5004 => (TO.nil (TE.toh (TE.td ((hdef9502 _ _ _ _).mp (hS1000_1 m2001 sp5001 b6001 b7001 Hs5003 ho5004 Hs2003 ho2004))) 0 0 ⟨rfl, rfl, rfl, rfl, trivial⟩ rfl rfl))))
  exact EdgeOk.nil
 have hS1000_4 : ∀ (m2001 : Nat), ∀ (sp5001 : Option Addr), ∀ (b6001 : Nat), ∀ (Hs5003 : Blocks), ∀ (ho5004 : OwnL En.bool 4 sp5001 ((p0.length : Int).toNat) (List.replicate (p0.length : Int).toNat false) Hs5003), ∀ (Hs2003 : Blocks), ∀ (ho2004 : OwnM (Kn.int .i64) (fun (v : S_struct___) => (.agg #[] : Value)) m2001 ([] : List (Int × S_struct___)) Hs2003), T9501 3 [true, true, true, true, true, false, false, false] [(3, .pointer (some ⟨b9, 0, none⟩)), (4, .pointer (some ⟨b6001, 0, none⟩)), (12, .map (some m2001)), (15, .slice sp5001 ((p0.length : Int).toNat) ((p0.length : Int).toNat))] ⟨[(b6001, .cells #[.map none] 69), (b9, .cells #[.slice sp2 n3 cap4] 66)], [Hs5003, Hs2003, Hs6]⟩ := by
  intro m2001 sp5001 b6001 Hs5003 ho5004 Hs2003 ho2004
  rw [hdef9502]
  refine TD.step [5] 5 rfl rfl rfl rfl rfl (EdgeOk.cons rfl ?_ ?_)
  · exact TO.u rfl rfl (TX.alloc Try.zeroValue41 rfl rfl (fun b7001 => (TO.nil (TE.toh (TE.td ((hdef9502 _ _ _ _).mp (hS1000_2 m2001 sp5001 b6001 b7001 Hs5003 ho5004 Hs2003 ho2004))) 0 0 ⟨rfl, rfl, rfl, rfl, rfl, trivial⟩ rfl rfl))))
  exact EdgeOk.nil
 have hS1000_5 : ∀ (m2001 : Nat), ∀ (sp5001 : Option Addr), ∀ (b7001 : Nat), ∀ (Hs5003 : Blocks), ∀ (ho5004 : OwnL En.bool 4 sp5001 ((p0.length : Int).toNat) (List.replicate (p0.length : Int).toNat false) Hs5003), ∀ (Hs2003 : Blocks), ∀ (ho2004 : OwnM (Kn.int .i64) (fun (v : S_struct___) => (.agg #[] : Value)) m2001 ([] : List (Int × S_struct___)) Hs2003), T9501 3 [true, true, true, true, false, true, false, false] [(3, .pointer (some ⟨b9, 0, none⟩)), (5, .pointer (some ⟨b7001, 0, none⟩)), (12, .map (some m2001)), (15, .slice sp5001 ((p0.length : Int).toNat) ((p0.length : Int).toNat))] ⟨[(b7001, .cells #[.slice none 0 0] 41), (b9, .cells #[.slice sp2 n3 cap4] 66)], [Hs5003, Hs2003, Hs6]⟩ := by
  intro m2001 sp5001 b7001 Hs5003 ho5004 Hs2003 ho2004
  rw [hdef9502]
  refine TD.step [4] 4 rfl rfl rfl rfl rfl (EdgeOk.cons rfl ?_ ?_)
  · exact TO.u rfl rfl (TX.alloc Try.zeroValue69 rfl rfl (fun b6001 => (TO.nil (TE.mvE 1 0 rfl rfl (TE.toh (TE.td ((hdef9502 _ _ _ _).mp (hS1000_2 m2001 sp5001 b6001 b7001 Hs5003 ho5004 Hs2003 ho2004))) 0 0 ⟨rfl, rfl, rfl, rfl, rfl, trivial⟩ rfl rfl)))))
  exact EdgeOk.nil
 have hS1000_6 : ∀ (m2001 : Nat), ∀ (b6001 : Nat), ∀ (b7001 : Nat), ∀ (Hs2003 : Blocks), ∀ (ho2004 : OwnM (Kn.int .i64) (fun (v : S_struct___) => (.agg #[] : Value)) m2001 ([] : List (Int × S_struct___)) Hs2003), T9501 3 [true, true, true, false, true, true, false, false] [(3, .pointer (some ⟨b9, 0, none⟩)), (4, .pointer (some ⟨b6001, 0, none⟩)), (5, .pointer (some ⟨b7001, 0, none⟩)), (12, .map (some m2001)), (14, .int .i64 (p0.length : Int))] ⟨[(b7001, .cells #[.slice none 0 0] 41), (b6001, .cells #[.map none] 69), (b9, .cells #[.slice sp2 n3 cap4] 66)], [Hs2003, Hs6]⟩ := by
  intro m2001 b6001 b7001 Hs2003 ho2004
  rw [hdef9502]
  refine TD.step [3, 6] 3 rfl rfl rfl rfl rfl (EdgeOk.cons rfl ?_ ?_)
  · exact TO.u rfl rfl (TX.makeS (N := En.bool) (z := false) Try.runUnderlying41 Try.typeInfo4 rfl rfl rfl rfl rfl rfl hk5501 rfl (fun sp5001 Hs5003 ho5004 => (TO.nil (TE.toh (TE.td ((hdef9502 _ _ _ _).mp (hS1000_2 m2001 sp5001 b6001 b7001 Hs5003 ho5004 Hs2003 ho2004))) 0 0 ⟨rfl, rfl, rfl, rfl, rfl, trivial⟩ rfl rfl))))
  refine EdgeOk.cons rfl ?_ ?_
  · exact TO.u rfl rfl (TX.store (i := 1) Try.sizeOf69 rfl rfl rfl rfl rfl rfl rfl rfl (TO.nil (TE.toh (TE.td ((hdef9502 _ _ _ _).mp (hS1000_3 m2001 b6001 b7001 Hs2003 ho2004))) 0 0 ⟨rfl, rfl, rfl, rfl, trivial⟩ rfl rfl)))
  exact EdgeOk.nil
 have hS1000_7 : ∀ (m2001 : Nat), ∀ (b6001 : Nat), ∀ (b7001 : Nat), ∀ (Hs2003 : Blocks), ∀ (ho2004 : OwnM (Kn.int .i64) (fun (v : S_struct___) => (.agg #[] : Value)) m2001 ([] : List (Int × S_struct___)) Hs2003), T9501 3 [true, true, false, false, true, true, true, false] [(3, .pointer (some ⟨b9, 0, none⟩)), (4, .pointer (some ⟨b6001, 0, none⟩)), (5, .pointer (some ⟨b7001, 0, none⟩)), (13, .slice sp_0 n_0 cap_0)] ⟨[(b7001, .cells #[.slice none 0 0] 41), (b6001, .cells #[.map (some m2001)] 69), (b9, .cells #[.slice sp2 n3 cap4] 66)], [Hs2003, Hs6]⟩ := by
  intro m2001 b6001 b7001 Hs2003 ho2004
  rw [hdef9502]
  refine TD.step [2] 2 rfl rfl rfl rfl rfl (EdgeOk.cons rfl ?_ ?_)
  · exact TO.u rfl rfl (TX.lenS (xs := p0) Try.runUnderlying24 rfl qn0 rfl (TO.nil (TE.toh (TE.td ((hdef9502 _ _ _ _).mp (hS1000_3 m2001 b6001 b7001 Hs2003 ho2004))) 0 0 ⟨rfl, rfl, rfl, rfl, trivial⟩ rfl rfl)))
  exact EdgeOk.nil
 have hS1000_8 : ∀ (sp5001 : Option Addr), ∀ (b6001 : Nat), ∀ (b7001 : Nat), ∀ (Hs5003 : Blocks), ∀ (ho5004 : OwnL En.bool 4 sp5001 ((p0.length : Int).toNat) (List.replicate (p0.length : Int).toNat false) Hs5003), T9501 3 [false, true, true, true, true, true, false, false] [(3, .pointer (some ⟨b9, 0, none⟩)), (4, .pointer (some ⟨b6001, 0, none⟩)), (5, .pointer (some ⟨b7001, 0, none⟩)), (15, .slice sp5001 ((p0.length : Int).toNat) ((p0.length : Int).toNat))] ⟨[(b7001, .cells #[.slice none 0 0] 41), (b6001, .cells #[.map none] 69), (b9, .cells #[.slice sp2 n3 cap4] 66)], [Hs5003, Hs6]⟩ := by
  intro sp5001 b6001 b7001 Hs5003 ho5004
  rw [hdef9502]
  refine TD.step [0] 0 rfl rfl rfl rfl rfl (EdgeOk.cons rfl ?_ ?_)
  · exact TO.u rfl rfl (TX.makeMapS (N := (Kn.int .i64)) (V := (fun (v : S_struct___) => (.agg #[] : Value))) rfl (fun m2001 Hs2003 ho2004 => (TO.nil (TE.mvS 1 0 rfl rfl (TE.toh (TE.td ((hdef9502 _ _ _ _).mp (hS1000_2 m2001 sp5001 b6001 b7001 Hs5003 ho5004 Hs2003 ho2004))) 0 0 ⟨rfl, rfl, rfl, rfl, rfl, trivial⟩ rfl rfl)))))
  exact EdgeOk.nil
 have hS1000_9 : ∀ (m2001 : Nat), ∀ (sp5001 : Option Addr), ∀ (Hs5003 : Blocks), ∀ (ho5004 : OwnL En.bool 4 sp5001 ((p0.length : Int).toNat) (List.replicate (p0.length : Int).toNat false) Hs5003), ∀ (Hs2003 : Blocks), ∀ (ho2004 : OwnM (Kn.int .i64) (fun (v : S_struct___) => (.agg #[] : Value)) m2001 ([] : List (Int × S_struct___)) Hs2003), T9501 4 [true, true, true, true, false, false, false, false] [(3, .pointer (some ⟨b9, 0, none⟩)), (12, .map (some m2001)), (15, .slice sp5001 ((p0.length : Int).toNat) ((p0.length : Int).toNat))] ⟨[(b9, .cells #[.slice sp2 n3 cap4] 66)], [Hs5003, Hs2003, Hs6]⟩ := by
  intro m2001 sp5001 Hs5003 ho5004 Hs2003 ho2004
  rw [hdef9502]
  refine TD.step [4, 5] 4 rfl rfl rfl rfl rfl (EdgeOk.cons rfl ?_ ?_)
  · exact TO.u rfl rfl (TX.alloc Try.zeroValue69 rfl rfl (fun b6001 => (TO.nil (TE.toh (TE.td ((hdef9502 _ _ _ _).mp (hS1000_4 m2001 sp5001 b6001 Hs5003 ho5004 Hs2003 ho2004))) 0 0 ⟨rfl, rfl, rfl, rfl, trivial⟩ rfl rfl))))
  refine EdgeOk.cons rfl ?_ ?_
  · exact TO.u rfl rfl (TX.alloc Try.zeroValue41 rfl rfl (fun b7001 => (TO.nil (TE.toh (TE.td ((hdef9502 _ _ _ _).mp (hS1000_5 m2001 sp5001 b7001 Hs5003 ho5004 Hs2003 ho2004))) 0 0 ⟨rfl, rfl, rfl, rfl, trivial⟩ rfl rfl))))
  exact EdgeOk.nil
 have hS1000_10 : ∀ (m2001 : Nat), ∀ (b6001 : Nat), ∀ (Hs2003 : Blocks), ∀ (ho2004 : OwnM (Kn.int .i64) (fun (v : S_struct___) => (.agg #[] : Value)) m2001 ([] : List (Int × S_struct___)) Hs2003), T9501 4 [true, true, true, false, true, false, false, false] [(3, .pointer (some ⟨b9, 0, none⟩)), (4, .pointer (some ⟨b6001, 0, none⟩)), (12, .map (some m2001)), (14, .int .i64 (p0.length : Int))] ⟨[(b6001, .cells #[.map none] 69), (b9, .cells #[.slice sp2 n3 cap4] 66)], [Hs2003, Hs6]⟩ := by
  intro m2001 b6001 Hs2003 ho2004
  rw [hdef9502]
  refine TD.step [3, 5] 3 rfl rfl rfl rfl rfl (EdgeOk.cons rfl ?_ ?_)
  · exact TO.u rfl rfl (TX.makeS (N := En.bool) (z := false) Try.runUnderlying41 Try.typeInfo4 rfl rfl rfl rfl rfl rfl hk5501 rfl (fun sp5001 Hs5003 ho5004 => (TO.nil (TE.toh (TE.td ((hdef9502 _ _ _ _).mp (hS1000_4 m2001 sp5001 b6001 Hs5003 ho5004 Hs2003 ho2004))) 0 0 ⟨rfl, rfl, rfl, rfl, trivial⟩ rfl rfl))))
  refine EdgeOk.cons rfl ?_ ?_
  · exact TO.u rfl rfl (TX.alloc Try.zeroValue41 rfl rfl (fun b7001 => (TO.nil (TE.toh (TE.td ((hdef9502 _ _ _ _).mp (hS1000_6 m2001 b6001 b7001 Hs2003 ho2004))) 0 0 ⟨rfl, rfl, rfl, rfl, rfl, trivial⟩ rfl rfl))))
  exact EdgeOk.nil
 have hS1000_11 : ∀ (m2001 : Nat), ∀ (b7001 : Nat), ∀ (Hs2003 : Blocks), ∀ (ho2004 : OwnM (Kn.int .i64) (fun (v : S_struct___) => (.agg #[] : Value)) m2001 ([] : List (Int × S_struct___)) Hs2003), T9501 4 [true, true, true, false, false, true, false, false] [(3, .pointer (some ⟨b9, 0, none⟩)), (5, .pointer (some ⟨b7001, 0, none⟩)), (12, .map (some m2001)), (14, .int .i64 (p0.length : Int))] ⟨[(b7001, .cells #[.slice none 0 0] 41), (b9, .cells #[.slice sp2 n3 cap4] 66)], [Hs2003, Hs6]⟩ := by
  intro m2001 b7001 Hs2003 ho2004
  rw [hdef9502]
  refine TD.step [3, 4] 3 rfl rfl rfl rfl rfl (EdgeOk.cons rfl ?_ ?_)
  · exact TO.u rfl rfl (TX.makeS (N := En.bool) (z := false) Try.runUnderlying41 Try.typeInfo4 rfl rfl rfl rfl rfl rfl hk5501 rfl (fun sp5001 Hs5003 ho5004 => (TO.nil (TE.toh (TE.td ((hdef9502 _ _ _ _).mp (hS1000_5 m2001 sp5001 b7001 Hs5003 ho5004 Hs2003 ho2004))) 0 0 ⟨rfl, rfl, rfl, rfl, trivial⟩ rfl rfl))))
  refine EdgeOk.cons rfl ?_ ?_
  · exact TO.u rfl rfl (TX.alloc Try.zeroValue69 rfl rfl (fun b6001 => (TO.nil (TE.mvE 1 0 rfl rfl (TE.toh (TE.td ((hdef9502 _ _ _ _).mp (hS1000_6 m2001 b6001 b7001 Hs2003 ho2004))) 0 0 ⟨rfl, rfl, rfl, rfl, rfl, trivial⟩ rfl rfl)))))
  exact EdgeOk.nil
 have hS1000_12 : ∀ (m2001 : Nat), ∀ (b6001 : Nat), ∀ (b7001 : Nat), ∀ (Hs2003 : Blocks), ∀ (ho2004 : OwnM (Kn.int .i64) (fun (v : S_struct___) => (.agg #[] : Value)) m2001 ([] : List (Int × S_struct___)) Hs2003), T9501 4 [true, true, false, false, true, true, false, false] [(3, .pointer (some ⟨b9, 0, none⟩)), (4, .pointer (some ⟨b6001, 0, none⟩)), (5, .pointer (some ⟨b7001, 0, none⟩)), (12, .map (some m2001)), (13, .slice sp_0 n_0 cap_0)] ⟨[(b7001, .cells #[.slice none 0 0] 41), (b6001, .cells #[.map none] 69), (b9, .cells #[.slice sp2 n3 cap4] 66)], [Hs2003, Hs6]⟩ := by
  intro m2001 b6001 b7001 Hs2003 ho2004
  rw [hdef9502]
  refine TD.step [2, 6] 2 rfl rfl rfl rfl rfl (EdgeOk.cons rfl ?_ ?_)
  · exact TO.u rfl rfl (TX.lenS (xs := p0) Try.runUnderlying24 rfl qn0 rfl (TO.nil (TE.toh (TE.td ((hdef9502 _ _ _ _).mp (hS1000_6 m2001 b6001 b7001 Hs2003 ho2004))) 0 0 ⟨rfl, rfl, rfl, rfl, rfl, trivial⟩ rfl rfl)))
  refine EdgeOk.cons rfl ?_ ?_
  · exact TO.u rfl rfl (TX.store (i := 1) Try.sizeOf69 rfl rfl rfl rfl rfl rfl rfl rfl (TO.nil (TE.toh (TE.td ((hdef9502 _ _ _ _).mp (hS1000_7 m2001 b6001 b7001 Hs2003 ho2004))) 0 0 ⟨rfl, rfl, rfl, rfl, trivial⟩ rfl rfl)))
  exact EdgeOk.nil
 have hS1000_13 : ∀ (m2001 : Nat), ∀ (b6001 : Nat), ∀ (b7001 : Nat), ∀ (Hs2003 : Blocks), ∀ (ho2004 : OwnM (Kn.int .i64) (fun (v : S_struct___) => (.agg #[] : Value)) m2001 ([] : List (Int × S_struct___)) Hs2003), T9501 4 [true, false, false, false, true, true, true, false] [(0, .slice sp_0 n_0 cap_0), (3, .pointer (some ⟨b9, 0, none⟩)), (4, .pointer (some ⟨b6001, 0, none⟩)), (5, .pointer (some ⟨b7001, 0, none⟩))] ⟨[(b7001, .cells #[.slice none 0 0] 41), (b6001, .cells #[.map (some m2001)] 69), (b9, .cells #[.slice sp2 n3 cap4] 66)], [Hs2003, Hs6]⟩ := by
  intro m2001 b6001 b7001 Hs2003 ho2004
  rw [hdef9502]
  refine TD.step [1] 1 rfl rfl rfl rfl rfl (EdgeOk.cons rfl ?_ ?_)
  · exact TO.u rfl rfl (TX.move rfl rfl (TO.nil (TE.toh (TE.td ((hdef9502 _ _ _ _).mp (hS1000_7 m2001 b6001 b7001 Hs2003 ho2004))) 0 0 ⟨rfl, rfl, rfl, rfl, trivial⟩ rfl rfl)))
  exact EdgeOk.nil
 have hS1000_14 : ∀ (sp5001 : Option Addr), ∀ (b6001 : Nat), ∀ (Hs5003 : Blocks), ∀ (ho5004 : OwnL En.bool 4 sp5001 ((p0.length : Int).toNat) (List.replicate (p0.length : Int).toNat false) Hs5003), T9501 4 [false, true, true, true, true, false, false, false] [(3, .pointer (some ⟨b9, 0, none⟩)), (4, .pointer (some ⟨b6001, 0, none⟩)), (15, .slice sp5001 ((p0.length : Int).toNat) ((p0.length : Int).toNat))] ⟨[(b6001, .cells #[.map none] 69), (b9, .cells #[.slice sp2 n3 cap4] 66)], [Hs5003, Hs6]⟩ := by
  intro sp5001 b6001 Hs5003 ho5004
  rw [hdef9502]
  refine TD.step [0, 5] 0 rfl rfl rfl rfl rfl (EdgeOk.cons rfl ?_ ?_)
  · exact TO.u rfl rfl (TX.makeMapS (N := (Kn.int .i64)) (V := (fun (v : S_struct___) => (.agg #[] : Value))) rfl (fun m2001 Hs2003 ho2004 => (TO.nil (TE.mvS 1 0 rfl rfl (TE.toh (TE.td ((hdef9502 _ _ _ _).mp (hS1000_4 m2001 sp5001 b6001 Hs5003 ho5004 Hs2003 ho2004))) 0 0 ⟨rfl, rfl, rfl, rfl, trivial⟩ rfl rfl)))))
  refine EdgeOk.cons rfl ?_ ?_
  · exact TO.u rfl rfl (TX.alloc Try.zeroValue41 rfl rfl (fun b7001 => (TO.nil (TE.toh (TE.td ((hdef9502 _ _ _ _).mp (hS1000_8 sp5001 b6001 b7001 Hs5003 ho5004))) 0 0 ⟨rfl, rfl, rfl, rfl, trivial⟩ rfl rfl))))
  exact EdgeOk.nil
 have hS1000_15 : ∀ (sp5001 : Option Addr), ∀ (b7001 : Nat), ∀ (Hs5003 : Blocks), ∀ (ho5004 : OwnL En.bool 4 sp5001 ((p0.length : Int).toNat) (List.replicate (p0.length : Int).toNat false) Hs5003), T9501 4 [false, true, true, true, false, true, false, false] [(3, .pointer (some ⟨b9, 0, none⟩)), (5, .pointer (some ⟨b7001, 0, none⟩)), (15, .slice sp5001 ((p0.length : Int).toNat) ((p0.length : Int).toNat))] ⟨[(b7001, .cells #[.slice none 0 0] 41), (b9, .cells #[.slice sp2 n3 cap4] 66)], [Hs5003, Hs6]⟩ := by
  intro sp5001 b7001 Hs5003 ho5004
  rw [hdef9502]
  refine TD.step [0, 4] 0 rfl rfl rfl rfl rfl (EdgeOk.cons rfl ?_ ?_)
  · exact TO.u rfl rfl (TX.makeMapS (N := (Kn.int .i64)) (V := (fun (v : S_struct___) => (.agg #[] : Value))) rfl (fun m2001 Hs2003 ho2004 => (TO.nil (TE.mvS 1 0 rfl rfl (TE.toh (TE.td ((hdef9502 _ _ _ _).mp (hS1000_5 m2001 sp5001 b7001 Hs5003 ho5004 Hs2003 ho2004))) 0 0 ⟨rfl, rfl, rfl, rfl, trivial⟩ rfl rfl)))))
  refine EdgeOk.cons rfl ?_ ?_
  · exact TO.u rfl rfl (TX.alloc Try.zeroValue69 rfl rfl (fun b6001 => (TO.nil (TE.mvE 1 0 rfl rfl (TE.toh (TE.td ((hdef9502 _ _ _ _).mp (hS1000_8 sp5001 b6001 b7001 Hs5003 ho5004))) 0 0 ⟨rfl, rfl, rfl, rfl, trivial⟩ rfl rfl)))))
  exact EdgeOk.nil
 have hS1000_16 : ∀ (b6001 : Nat), ∀ (b7001 : Nat), T9501 4 [false, true, true, false, true, true, false, false] [(3, .pointer (some ⟨b9, 0, none⟩)), (4, .pointer (some ⟨b6001, 0, none⟩)), (5, .pointer (some ⟨b7001, 0, none⟩)), (14, .int .i64 (p0.length : Int))] ⟨[(b7001, .cells #[.slice none 0 0] 41), (b6001, .cells #[.map none] 69), (b9, .cells #[.slice sp2 n3 cap4] 66)], [Hs6]⟩ := by
  intro b6001 b7001
  rw [hdef9502]
  refine TD.step [0, 3] 0 rfl rfl rfl rfl rfl (EdgeOk.cons rfl ?_ ?_)
  · exact TO.u rfl rfl (TX.makeMapS (N := (Kn.int .i64)) (V := (fun (v : S_struct___) => (.agg #[] : Value))) rfl (fun m2001 Hs2003 ho2004 => (TO.nil (TE.toh (TE.td ((hdef9502 _ _ _ _).mp (hS1000_6 m2001 b6001 b7001 Hs2003 ho2004))) 0 0 ⟨rfl, rfl, rfl, rfl, rfl, trivial⟩ rfl rfl))))
  refine EdgeOk.cons rfl ?_ ?_
  · exact TO.u rfl rfl (TX.makeS (N := En.bool) (z := false) Try.runUnderlying41 Try.typeInfo4 rfl rfl rfl rfl rfl rfl hk5501 rfl (fun sp5001 Hs5003 ho5004 => (TO.nil (TE.toh (TE.td ((hdef9502 _ _ _ _).mp (hS1000_8 sp5001 b6001 b7001 Hs5003 ho5004))) 0 0 ⟨rfl, rfl, rfl, rfl, trivial⟩ rfl rfl))))
  exact EdgeOk.nil
 have hS1000_17 : ∀ (m2001 : Nat), ∀ (Hs2003 : Blocks), ∀ (ho2004 : OwnM (Kn.int .i64) (fun (v : S_struct___) => (.agg #[] : Value)) m2001 ([] : List (Int × S_struct___)) Hs2003), T9501 5 [true, true, true, false, false, false, false, false] [(3, .pointer (some ⟨b9, 0, none⟩)), (12, .map (some m2001)), (14, .int .i64 (p0.length : Int))] ⟨[(b9, .cells #[.slice sp2 n3 cap4] 66)], [Hs2003, Hs6]⟩ := by
  intro m2001 Hs2003 ho2004
  rw [hdef9502]
  refine TD.step [3, 4, 5] 3 rfl rfl rfl rfl rfl (EdgeOk.cons rfl ?_ ?_)
  · exact TO.u rfl rfl (TX.makeS (N := En.bool) (z := false) Try.runUnderlying41 Try.typeInfo4 rfl rfl rfl rfl rfl rfl hk5501 rfl (fun sp5001 Hs5003 ho5004 => (TO.nil (TE.toh (TE.td ((hdef9502 _ _ _ _).mp (hS1000_9 m2001 sp5001 Hs5003 ho5004 Hs2003 ho2004))) 0 0 ⟨rfl, rfl, rfl, trivial⟩ rfl rfl))))
  refine EdgeOk.cons rfl ?_ ?_
  · exact TO.u rfl rfl (TX.alloc Try.zeroValue69 rfl rfl (fun b6001 => (TO.nil (TE.toh (TE.td ((hdef9502 _ _ _ _).mp (hS1000_10 m2001 b6001 Hs2003 ho2004))) 0 0 ⟨rfl, rfl, rfl, rfl, trivial⟩ rfl rfl))))
  refine EdgeOk.cons rfl ?_ ?_
  · exact TO.u rfl rfl (TX.alloc Try.zeroValue41 rfl rfl (fun b7001 => (TO.nil (TE.toh (TE.td ((hdef9502 _ _ _ _).mp (hS1000_11 m2001 b7001 Hs2003 ho2004))) 0 0 ⟨rfl, rfl, rfl, rfl, trivial⟩ rfl rfl))))
  exact EdgeOk.nil
 have hS1000_18 : ∀ (m2001 : Nat), ∀ (b6001 : Nat), ∀ (Hs2003 : Blocks), ∀ (ho2004 : OwnM (Kn.int .i64) (fun (v : S_struct___) => (.agg #[] : Value)) m2001 ([] : List (Int × S_struct___)) Hs2003), T9501 5 [true, true, false, false, true, false, false, false] [(3, .pointer (some ⟨b9, 0, none⟩)), (4, .pointer (some ⟨b6001, 0, none⟩)), (12, .map (some m2001)), (13, .slice sp_0 n_0 cap_0)] ⟨[(b6001, .cells #[.map none] 69), (b9, .cells #[.slice sp2 n3 cap4] 66)], [Hs2003, Hs6]⟩ := by
  intro m2001 b6001 Hs2003 ho2004
  rw [hdef9502]
  refine TD.step [2, 5] 2 rfl rfl rfl rfl rfl (EdgeOk.cons rfl ?_ ?_)
  · exact TO.u rfl rfl (TX.lenS (xs := p0) Try.runUnderlying24 rfl qn0 rfl (TO.nil (TE.toh (TE.td ((hdef9502 _ _ _ _).mp (hS1000_10 m2001 b6001 Hs2003 ho2004))) 0 0 ⟨rfl, rfl, rfl, rfl, trivial⟩ rfl rfl)))
  refine EdgeOk.cons rfl ?_ ?_
  · exact TO.u rfl rfl (TX.alloc Try.zeroValue41 rfl rfl (fun b7001 => (TO.nil (TE.toh (TE.td ((hdef9502 _ _ _ _).mp (hS1000_12 m2001 b6001 b7001 Hs2003 ho2004))) 0 0 ⟨rfl, rfl, rfl, rfl, rfl, trivial⟩ rfl rfl))))
  exact EdgeOk.nil
 have hS1000_19 : ∀ (m2001 : Nat), ∀ (b7001 : Nat), ∀ (Hs2003 : Blocks), ∀ (ho2004 : OwnM (Kn.int .i64) (fun (v : S_struct___) => (.agg #[] : Value)) m2001 ([] : List (Int × S_struct___)) Hs2003), T9501 5 [true, true, false, false, false, true, false, false] [(3, .pointer (some ⟨b9, 0, none⟩)), (5, .pointer (some ⟨b7001, 0, none⟩)), (12, .map (some m2001)), (13, .slice sp_0 n_0 cap_0)] ⟨[(b7001, .cells #[.slice none 0 0] 41), (b9, .cells #[.slice sp2 n3 cap4] 66)], [Hs2003, Hs6]⟩ := by
  intro m2001 b7001 Hs2003 ho2004
  rw [hdef9502]
  refine TD.step [2, 4] 2 rfl rfl rfl rfl rfl (EdgeOk.cons rfl ?_ ?_)
  · exact TO.u rfl rfl (TX.lenS (xs := p0) Try.runUnderlying24 rfl qn0 rfl (TO.nil (TE.toh (TE.td ((hdef9502 _ _ _ _).mp (hS1000_11 m2001 b7001 Hs2003 ho2004))) 0 0 ⟨rfl, rfl, rfl, rfl, trivial⟩ rfl rfl)))
  refine EdgeOk.cons rfl ?_ ?_
  · exact TO.u rfl rfl (TX.alloc Try.zeroValue69 rfl rfl (fun b6001 => (TO.nil (TE.mvE 1 0 rfl rfl (TE.toh (TE.td ((hdef9502 _ _ _ _).mp (hS1000_12 m2001 b6001 b7001 Hs2003 ho2004))) 0 0 ⟨rfl, rfl, rfl, rfl, rfl, trivial⟩ rfl rfl)))))
  exact EdgeOk.nil
 have hS1000_20 : ∀ (m2001 : Nat), ∀ (b6001 : Nat), ∀ (b7001 : Nat), ∀ (Hs2003 : Blocks), ∀ (ho2004 : OwnM (Kn.int .i64) (fun (v : S_struct___) => (.agg #[] : Value)) m2001 ([] : List (Int × S_struct___)) Hs2003), T9501 5 [true, false, false, false, true, true, false, false] [(0, .slice sp_0 n_0 cap_0), (3, .pointer (some ⟨b9, 0, none⟩)), (4, .pointer (some ⟨b6001, 0, none⟩)), (5, .pointer (some ⟨b7001, 0, none⟩)), (12, .map (some m2001))] ⟨[(b7001, .cells #[.slice none 0 0] 41), (b6001, .cells #[.map none] 69), (b9, .cells #[.slice sp2 n3 cap4] 66)], [Hs2003, Hs6]⟩ := by
  intro m2001 b6001 b7001 Hs2003 ho2004
  rw [hdef9502]
  refine TD.step [1, 6] 1 rfl rfl rfl rfl rfl (EdgeOk.cons rfl ?_ ?_)
  · exact TO.u rfl rfl (TX.move rfl rfl (TO.nil (TE.toh (TE.td ((hdef9502 _ _ _ _).mp (hS1000_12 m2001 b6001 b7001 Hs2003 ho2004))) 0 0 ⟨rfl, rfl, rfl, rfl, rfl, trivial⟩ rfl rfl)))
  refine EdgeOk.cons rfl ?_ ?_
  · exact TO.u rfl rfl (TX.store (i := 1) Try.sizeOf69 rfl rfl rfl rfl rfl rfl rfl rfl (TO.nil (TE.toh (TE.td ((hdef9502 _ _ _ _).mp (hS1000_13 m2001 b6001 b7001 Hs2003 ho2004))) 0 0 ⟨rfl, rfl, rfl, rfl, trivial⟩ rfl rfl)))
  exact EdgeOk.nil
 have hS1000_21 : ∀ (sp5001 : Option Addr), ∀ (Hs5003 : Blocks), ∀ (ho5004 : OwnL En.bool 4 sp5001 ((p0.length : Int).toNat) (List.replicate (p0.length : Int).toNat false) Hs5003), T9501 5 [false, true, true, true, false, false, false, false] [(3, .pointer (some ⟨b9, 0, none⟩)), (15, .slice sp5001 ((p0.length : Int).toNat) ((p0.length : Int).toNat))] ⟨[(b9, .cells #[.slice sp2 n3 cap4] 66)], [Hs5003, Hs6]⟩ := by
  intro sp5001 Hs5003 ho5004
  rw [hdef9502]
  refine TD.step [0, 4, 5] 0 rfl rfl rfl rfl rfl (EdgeOk.cons rfl ?_ ?_)
  · exact TO.u rfl rfl (TX.makeMapS (N := (Kn.int .i64)) (V := (fun (v : S_struct___) => (.agg #[] : Value))) rfl (fun m2001 Hs2003 ho2004 => (TO.nil (TE.mvS 1 0 rfl rfl (TE.toh (TE.td ((hdef9502 _ _ _ _).mp (hS1000_9 m2001 sp5001 Hs5003 ho5004 Hs2003 ho2004))) 0 0 ⟨rfl, rfl, rfl, trivial⟩ rfl rfl)))))
  refine EdgeOk.cons rfl ?_ ?_
  · exact TO.u rfl rfl (TX.alloc Try.zeroValue69 rfl rfl (fun b6001 => (TO.nil (TE.toh (TE.td ((hdef9502 _ _ _ _).mp (hS1000_14 sp5001 b6001 Hs5003 ho5004))) 0 0 ⟨rfl, rfl, rfl, trivial⟩ rfl rfl))))
  refine EdgeOk.cons rfl ?_ ?_
  · exact TO.u rfl rfl (TX.alloc Try.zeroValue41 rfl rfl (fun b7001 => (TO.nil (TE.toh (TE.td ((hdef9502 _ _ _ _).mp (hS1000_15 sp5001 b7001 Hs5003 ho5004))) 0 0 ⟨rfl, rfl, rfl, trivial⟩ rfl rfl))))
  exact EdgeOk.nil
 have hS1000_22 : ∀ (b6001 : Nat), T9501 5 [false, true, true, false, true, false, false, false] [(3, .pointer (some ⟨b9, 0, none⟩)), (4, .pointer (some ⟨b6001, 0, none⟩)), (14, .int .i64 (p0.length : Int))] ⟨[(b6001, .cells #[.map none] 69), (b9, .cells #[.slice sp2 n3 cap4] 66)], [Hs6]⟩ := by
  intro b6001
  rw [hdef9502]
  refine TD.step [0, 3, 5] 0 rfl rfl rfl rfl rfl (EdgeOk.cons rfl ?_ ?_)
  · exact TO.u rfl rfl (TX.makeMapS (N := (Kn.int .i64)) (V := (fun (v : S_struct___) => (.agg #[] : Value))) rfl (fun m2001 Hs2003 ho2004 => (TO.nil (TE.toh (TE.td ((hdef9502 _ _ _ _).mp (hS1000_10 m2001 b6001 Hs2003 ho2004))) 0 0 ⟨rfl, rfl, rfl, rfl, trivial⟩ rfl rfl))))
  refine EdgeOk.cons rfl ?_ ?_
  · exact TO.u rfl rfl (TX.makeS (N := En.bool) (z := false) Try.runUnderlying41 Try.typeInfo4 rfl rfl rfl rfl rfl rfl hk5501 rfl (fun sp5001 Hs5003 ho5004 => (TO.nil (TE.toh (TE.td ((hdef9502 _ _ _ _).mp (hS1000_14 sp5001 b6001 Hs5003 ho5004))) 0 0 ⟨rfl, rfl, rfl, trivial⟩ rfl rfl))))
  refine EdgeOk.cons rfl ?_ ?_
  · exact TO.u rfl rfl (TX.alloc Try.zeroValue41 rfl rfl (fun b7001 => (TO.nil (TE.toh (TE.td ((hdef9502 _ _ _ _).mp (hS1000_16 b6001 b7001))) 0 0 ⟨rfl, rfl, rfl, rfl, trivial⟩ rfl rfl))))
  exact EdgeOk.nil
 have hS1000_23 : ∀ (b7001 : Nat), T9501 5 [false, true, true, false, false, true, false, false] [(3, .pointer (some ⟨b9, 0, none⟩)), (5, .pointer (some ⟨b7001, 0, none⟩)), (14, .int .i64 (p0.length : Int))] ⟨[(b7001, .cells #[.slice none 0 0] 41), (b9, .cells #[.slice sp2 n3 cap4] 66)], [Hs6]⟩ := by
  intro b7001
  rw [hdef9502]
  refine TD.step [0, 3, 4] 0 rfl rfl rfl rfl rfl (EdgeOk.cons rfl ?_ ?_)
  · exact TO.u rfl rfl (TX.makeMapS (N := (Kn.int .i64)) (V := (fun (v : S_struct___) => (.agg #[] : Value))) rfl (fun m2001 Hs2003 ho2004 => (TO.nil (TE.toh (TE.td ((hdef9502 _ _ _ _).mp (hS1000_11 m2001 b7001 Hs2003 ho2004))) 0 0 ⟨rfl, rfl, rfl, rfl, trivial⟩ rfl rfl))))
  refine EdgeOk.cons rfl ?_ ?_
  · exact TO.u rfl rfl (TX.makeS (N := En.bool) (z := false) Try.runUnderlying41 Try.typeInfo4 rfl rfl rfl rfl rfl rfl hk5501 rfl (fun sp5001 Hs5003 ho5004 => (TO.nil (TE.toh (TE.td ((hdef9502 _ _ _ _).mp (hS1000_15 sp5001 b7001 Hs5003 ho5004))) 0 0 ⟨rfl, rfl, rfl, trivial⟩ rfl rfl))))
  refine EdgeOk.cons rfl ?_ ?_
  · exact TO.u rfl rfl (TX.alloc Try.zeroValue69 rfl rfl (fun b6001 => (TO.nil (TE.mvE 1 0 rfl rfl (TE.toh (TE.td ((hdef9502 _ _ _ _).mp (hS1000_16 b6001 b7001))) 0 0 ⟨rfl, rfl, rfl, rfl, trivial⟩ rfl rfl)))))
  exact EdgeOk.nil
 have hS1000_24 : ∀ (b6001 : Nat), ∀ (b7001 : Nat), T9501 5 [false, true, false, false, true, true, false, false] [(3, .pointer (some ⟨b9, 0, none⟩)), (4, .pointer (some ⟨b6001, 0, none⟩)), (5, .pointer (some ⟨b7001, 0, none⟩)), (13, .slice sp_0 n_0 cap_0)] ⟨[(b7001, .cells #[.slice none 0 0] 41), (b6001, .cells #[.map none] 69), (b9, .cells #[.slice sp2 n3 cap4] 66)], [Hs6]⟩ := by
  intro b6001 b7001
  rw [hdef9502]
  refine TD.step [0, 2] 0 rfl rfl rfl rfl rfl (EdgeOk.cons rfl ?_ ?_)
  · exact TO.u rfl rfl (TX.makeMapS (N := (Kn.int .i64)) (V := (fun (v : S_struct___) => (.agg #[] : Value))) rfl (fun m2001 Hs2003 ho2004 => (TO.nil (TE.toh (TE.td ((hdef9502 _ _ _ _).mp (hS1000_12 m2001 b6001 b7001 Hs2003 ho2004))) 0 0 ⟨rfl, rfl, rfl, rfl, rfl, trivial⟩ rfl rfl))))
  refine EdgeOk.cons rfl ?_ ?_
  · exact TO.u rfl rfl (TX.lenS (xs := p0) Try.runUnderlying24 rfl qn0 rfl (TO.nil (TE.toh (TE.td ((hdef9502 _ _ _ _).mp (hS1000_16 b6001 b7001))) 0 0 ⟨rfl, rfl, rfl, rfl, trivial⟩ rfl rfl)))
  exact EdgeOk.nil
 have hS1000_25 : ∀ (m2001 : Nat), ∀ (Hs2003 : Blocks), ∀ (ho2004 : OwnM (Kn.int .i64) (fun (v : S_struct___) => (.agg #[] : Value)) m2001 ([] : List (Int × S_struct___)) Hs2003), T9501 6 [true, true, false, false, false, false, false, false] [(3, .pointer (some ⟨b9, 0, none⟩)), (12, .map (some m2001)), (13, .slice sp_0 n_0 cap_0)] ⟨[(b9, .cells #[.slice sp2 n3 cap4] 66)], [Hs2003, Hs6]⟩ := by
  intro m2001 Hs2003 ho2004
  rw [hdef9502]
  refine TD.step [2, 4, 5] 2 rfl rfl rfl rfl rfl (EdgeOk.cons rfl ?_ ?_)
  · exact TO.u rfl rfl (TX.lenS (xs := p0) Try.runUnderlying24 rfl qn0 rfl (TO.nil (TE.toh (TE.td ((hdef9502 _ _ _ _).mp (hS1000_17 m2001 Hs2003 ho2004))) 0 0 ⟨rfl, rfl, rfl, trivial⟩ rfl rfl)))
  refine EdgeOk.cons rfl ?_ ?_
  · exact TO.u rfl rfl (TX.alloc Try.zeroValue69 rfl rfl (fun b6001 => (TO.nil (TE.toh (TE.td ((hdef9502 _ _ _ _).mp (hS1000_18 m2001 b6001 Hs2003 ho2004))) 0 0 ⟨rfl, rfl, rfl, rfl, trivial⟩ rfl rfl))))
  refine EdgeOk.cons rfl ?_ ?_
  · exact TO.u rfl rfl (TX.alloc Try.zeroValue41 rfl rfl (fun b7001 => (TO.nil (TE.toh (TE.td ((hdef9502 _ _ _ _).mp (hS1000_19 m2001 b7001 Hs2003 ho2004))) 0 0 ⟨rfl, rfl, rfl, rfl, trivial⟩ rfl rfl))))
  exact EdgeOk.nil
 have hS1000_26 : ∀ (m2001 : Nat), ∀ (b6001 : Nat), ∀ (Hs2003 : Blocks), ∀ (ho2004 : OwnM (Kn.int .i64) (fun (v : S_struct___) => (.agg #[] : Value)) m2001 ([] : List (Int × S_struct___)) Hs2003), T9501 6 [true, false, false, false, true, false, false, false] [(0, .slice sp_0 n_0 cap_0), (3, .pointer (some ⟨b9, 0, none⟩)), (4, .pointer (some ⟨b6001, 0, none⟩)), (12, .map (some m2001))] ⟨[(b6001, .cells #[.map none] 69), (b9, .cells #[.slice sp2 n3 cap4] 66)], [Hs2003, Hs6]⟩ := by
  intro m2001 b6001 Hs2003 ho2004
  rw [hdef9502]
  refine TD.step [1, 5] 1 rfl rfl rfl rfl rfl (EdgeOk.cons rfl ?_ ?_)
  · exact TO.u rfl rfl (TX.move rfl rfl (TO.nil (TE.toh (TE.td ((hdef9502 _ _ _ _).mp (hS1000_18 m2001 b6001 Hs2003 ho2004))) 0 0 ⟨rfl, rfl, rfl, rfl, trivial⟩ rfl rfl)))
  refine EdgeOk.cons rfl ?_ ?_
  · exact TO.u rfl rfl (TX.alloc Try.zeroValue41 rfl rfl (fun b7001 => (TO.nil (TE.toh (TE.td ((hdef9502 _ _ _ _).mp (hS1000_20 m2001 b6001 b7001 Hs2003 ho2004))) 0 0 ⟨rfl, rfl, rfl, rfl, rfl, trivial⟩ rfl rfl))))
  exact EdgeOk.nil
 have hS1000_27 : ∀ (m2001 : Nat), ∀ (b7001 : Nat), ∀ (Hs2003 : Blocks), ∀ (ho2004 : OwnM (Kn.int .i64) (fun (v : S_struct___) => (.agg #[] : Value)) m2001 ([] : List (Int × S_struct___)) Hs2003), T9501 6 [true, false, false, false, false, true, false, false] [(0, .slice sp_0 n_0 cap_0), (3, .pointer (some ⟨b9, 0, none⟩)), (5, .pointer (some ⟨b7001, 0, none⟩)), (12, .map (some m2001))] ⟨[(b7001, .cells #[.slice none 0 0] 41), (b9, .cells #[.slice sp2 n3 cap4] 66)], [Hs2003, Hs6]⟩ := by
  intro m2001 b7001 Hs2003 ho2004
  rw [hdef9502]
  refine TD.step [1, 4] 1 rfl rfl rfl rfl rfl (EdgeOk.cons rfl ?_ ?_)
  · exact TO.u rfl rfl (TX.move rfl rfl (TO.nil (TE.toh (TE.td ((hdef9502 _ _ _ _).mp (hS1000_19 m2001 b7001 Hs2003 ho2004))) 0 0 ⟨rfl, rfl, rfl, rfl, trivial⟩ rfl rfl)))
  refine EdgeOk.cons rfl ?_ ?_
  · exact TO.u rfl rfl (TX.alloc Try.zeroValue69 rfl rfl (fun b6001 => (TO.nil (TE.mvE 1 0 rfl rfl (TE.toh (TE.td ((hdef9502 _ _ _ _).mp (hS1000_20 m2001 b6001 b7001 Hs2003 ho2004))) 0 0 ⟨rfl, rfl, rfl, rfl, rfl, trivial⟩ rfl rfl)))))
  exact EdgeOk.nil
 have hS1000_28 : T9501 6 [false, true, true, false, false, false, false, false] [(3, .pointer (some ⟨b9, 0, none⟩)), (14, .int .i64 (p0.length : Int))] ⟨[(b9, .cells #[.slice sp2 n3 cap4] 66)], [Hs6]⟩ := by
  rw [hdef9502]
  refine TD.step [0, 3, 4, 5] 0 rfl rfl rfl rfl rfl (EdgeOk.cons rfl ?_ ?_)
  · exact TO.u rfl rfl (TX.makeMapS (N := (Kn.int .i64)) (V := (fun (v : S_struct___) => (.agg #[] : Value))) rfl (fun m2001 Hs2003 ho2004 => (TO.nil (TE.toh (TE.td ((hdef9502 _ _ _ _).mp (hS1000_17 m2001 Hs2003 ho2004))) 0 0 ⟨rfl, rfl, rfl, trivial⟩ rfl rfl))))
  refine EdgeOk.cons rfl ?_ ?_
  · exact TO.u rfl rfl (TX.makeS (N := En.bool) (z := false) Try.runUnderlying41 Try.typeInfo4 rfl rfl rfl rfl rfl rfl hk5501 rfl (fun sp5001 Hs5003 ho5004 => (TO.nil (TE.toh (TE.td ((hdef9502 _ _ _ _).mp (hS1000_21 sp5001 Hs5003 ho5004))) 0 0 ⟨rfl, rfl, trivial⟩ rfl rfl))))
  refine EdgeOk.cons rfl ?_ ?_
  · exact TO.u rfl rfl (TX.alloc Try.zeroValue69 rfl rfl (fun b6001 => (TO.nil (TE.toh (TE.td ((hdef9502 _ _ _ _).mp (hS1000_22 b6001))) 0 0 ⟨rfl, rfl, rfl, trivial⟩ rfl rfl))))
  refine EdgeOk.cons rfl ?_ ?_
  · exact TO.u rfl rfl (TX.alloc Try.zeroValue41 rfl rfl (fun b7001 => (TO.nil (TE.toh (TE.td ((hdef9502 _ _ _ _).mp (hS1000_23 b7001))) 0 0 ⟨rfl, rfl, rfl, trivial⟩ rfl rfl))))
  exact EdgeOk.nil
 have hS1000_29 : ∀ (b6001 : Nat), T9501 6 [false, true, false, false, true, false, false, false] [(3, .pointer (some ⟨b9, 0, none⟩)), (4, .pointer (some ⟨b6001, 0, none⟩)), (13, .slice sp_0 n_0 cap_0)] ⟨[(b6001, .cells #[.map none] 69), (b9, .cells #[.slice sp2 n3 cap4] 66)], [Hs6]⟩ := by
  intro b6001
  rw [hdef9502]
  refine TD.step [0, 2, 5] 0 rfl rfl rfl rfl rfl (EdgeOk.cons rfl ?_ ?_)
  · exact TO.u rfl rfl (TX.makeMapS (N := (Kn.int .i64)) (V := (fun (v : S_struct___) => (.agg #[] : Value))) rfl (fun m2001 Hs2003 ho2004 => (TO.nil (TE.toh (TE.td ((hdef9502 _ _ _ _).mp (hS1000_18 m2001 b6001 Hs2003 ho2004))) 0 0 ⟨rfl, rfl, rfl, rfl, trivial⟩ rfl rfl))))
  refine EdgeOk.cons rfl ?_ ?_
  · exact TO.u rfl rfl (TX.lenS (xs := p0) Try.runUnderlying24 rfl qn0 rfl (TO.nil (TE.toh (TE.td ((hdef9502 _ _ _ _).mp (hS1000_22 b6001))) 0 0 ⟨rfl, rfl, rfl, trivial⟩ rfl rfl)))
  refine EdgeOk.cons rfl ?_ ?_
  · exact TO.u rfl rfl (TX.alloc Try.zeroValue41 rfl rfl (fun b7001 => (TO.nil (TE.toh (TE.td ((hdef9502 _ _ _ _).mp (hS1000_24 b6001 b7001))) 0 0 ⟨rfl, rfl, rfl, rfl, trivial⟩ rfl rfl))))
  exact EdgeOk.nil
 have hS1000_30 : ∀ (b7001 : Nat), T9501 6 [false, true, false, false, false, true, false, false] [(3, .pointer (some ⟨b9, 0, none⟩)), (5, .pointer (some ⟨b7001, 0, none⟩)), (13, .slice sp_0 n_0 cap_0)] ⟨[(b7001, .cells #[.slice none 0 0] 41), (b9, .cells #[.slice sp2 n3 cap4] 66)], [Hs6]⟩ := by
  intro b7001
  rw [hdef9502]
  refine TD.step [0, 2, 4] 0 rfl rfl rfl rfl rfl (EdgeOk.cons rfl ?_ ?_)
  · exact TO.u rfl rfl (TX.makeMapS (N := (Kn.int .i64)) (V := (fun (v : S_struct___) => (.agg #[] : Value))) rfl (fun m2001 Hs2003 ho2004 => (TO.nil (TE.toh (TE.td ((hdef9502 _ _ _ _).mp (hS1000_19 m2001 b7001 Hs2003 ho2004))) 0 0 ⟨rfl, rfl, rfl, rfl, trivial⟩ rfl rfl))))
  refine EdgeOk.cons rfl ?_ ?_
  · exact TO.u rfl rfl (TX.lenS (xs := p0) Try.runUnderlying24 rfl qn0 rfl (TO.nil (TE.toh (TE.td ((hdef9502 _ _ _ _).mp (hS1000_23 b7001))) 0 0 ⟨rfl, rfl, rfl, trivial⟩ rfl rfl)))
  refine EdgeOk.cons rfl ?_ ?_
  · exact TO.u rfl rfl (TX.alloc Try.zeroValue69 rfl rfl (fun b6001 => (TO.nil (TE.mvE 1 0 rfl rfl (TE.toh (TE.td ((hdef9502 _ _ _ _).mp (hS1000_24 b6001 b7001))) 0 0 ⟨rfl, rfl, rfl, rfl, trivial⟩ rfl rfl)))))
  exact EdgeOk.nil
 have hS1000_31 : ∀ (b6001 : Nat), ∀ (b7001 : Nat), T9501 6 [false, false, false, false, true, true, false, false] [(0, .slice sp_0 n_0 cap_0), (3, .pointer (some ⟨b9, 0, none⟩)), (4, .pointer (some ⟨b6001, 0, none⟩)), (5, .pointer (some ⟨b7001, 0, none⟩))] ⟨[(b7001, .cells #[.slice none 0 0] 41), (b6001, .cells #[.map none] 69), (b9, .cells #[.slice sp2 n3 cap4] 66)], [Hs6]⟩ := by
  intro b6001 b7001
  rw [hdef9502]
  refine TD.step [0, 1] 0 rfl rfl rfl rfl rfl (EdgeOk.cons rfl ?_ ?_)
  · exact TO.u rfl rfl (TX.makeMapS (N := (Kn.int .i64)) (V := (fun (v : S_struct___) => (.agg #[] : Value))) rfl (fun m2001 Hs2003 ho2004 => (TO.nil (TE.toh (TE.td ((hdef9502 _ _ _ _).mp (hS1000_20 m2001 b6001 b7001 Hs2003 ho2004))) 0 0 ⟨rfl, rfl, rfl, rfl, rfl, trivial⟩ rfl rfl))))
  refine EdgeOk.cons rfl ?_ ?_
  · exact TO.u rfl rfl (TX.move rfl rfl (TO.nil (TE.toh (TE.td ((hdef9502 _ _ _ _).mp (hS1000_24 b6001 b7001))) 0 0 ⟨rfl, rfl, rfl, rfl, trivial⟩ rfl rfl)))
  exact EdgeOk.nil
 have hS1000_32 : ∀ (m2001 : Nat), ∀ (Hs2003 : Blocks), ∀ (ho2004 : OwnM (Kn.int .i64) (fun (v : S_struct___) => (.agg #[] : Value)) m2001 ([] : List (Int × S_struct___)) Hs2003), T9501 7 [true, false, false, false, false, false, false, false] [(0, .slice sp_0 n_0 cap_0), (3, .pointer (some ⟨b9, 0, none⟩)), (12, .map (some m2001))] ⟨[(b9, .cells #[.slice sp2 n3 cap4] 66)], [Hs2003, Hs6]⟩ := by
  intro m2001 Hs2003 ho2004
  rw [hdef9502]
  refine TD.step [1, 4, 5] 1 rfl rfl rfl rfl rfl (EdgeOk.cons rfl ?_ ?_)
  · exact TO.u rfl rfl (TX.move rfl rfl (TO.nil (TE.toh (TE.td ((hdef9502 _ _ _ _).mp (hS1000_25 m2001 Hs2003 ho2004))) 0 0 ⟨rfl, rfl, rfl, trivial⟩ rfl rfl)))
  refine EdgeOk.cons rfl ?_ ?_
  · exact TO.u rfl rfl (TX.alloc Try.zeroValue69 rfl rfl (fun b6001 => (TO.nil (TE.toh (TE.td ((hdef9502 _ _ _ _).mp (hS1000_26 m2001 b6001 Hs2003 ho2004))) 0 0 ⟨rfl, rfl, rfl, rfl, trivial⟩ rfl rfl))))
  refine EdgeOk.cons rfl ?_ ?_
  · exact TO.u rfl rfl (TX.alloc Try.zeroValue41 rfl rfl (fun b7001 => (TO.nil (TE.toh (TE.td ((hdef9502 _ _ _ _).mp (hS1000_27 m2001 b7001 Hs2003 ho2004))) 0 0 ⟨rfl, rfl, rfl, rfl, trivial⟩ rfl rfl))))
  exact EdgeOk.nil
 have hS1000_33 : T9501 7 [false, true, false, false, false, false, false, false] [(3, .pointer (some ⟨b9, 0, none⟩)), (13, .slice sp_0 n_0 cap_0)] ⟨[(b9, .cells #[.slice sp2 n3 cap4] 66)], [Hs6]⟩ := by
  rw [hdef9502]
  refine TD.step [0, 2, 4, 5] 0 rfl rfl rfl rfl rfl (EdgeOk.cons rfl ?_ ?_)
  · exact TO.u rfl rfl (TX.makeMapS (N := (Kn.int .i64)) (V := (fun (v : S_struct___) => (.agg #[] : Value))) rfl (fun m2001 Hs2003 ho2004 => (TO.nil (TE.toh (TE.td ((hdef9502 _ _ _ _).mp (hS1000_25 m2001 Hs2003 ho2004))) 0 0 ⟨rfl, rfl, rfl, trivial⟩ rfl rfl))))
  refine EdgeOk.cons rfl ?_ ?_
  · exact TO.u rfl rfl (TX.lenS (xs := p0) Try.runUnderlying24 rfl qn0 rfl (TO.nil (TE.toh (TE.td ((hdef9502 _ _ _ _).mp (hS1000_28))) 0 0 ⟨rfl, rfl, trivial⟩ rfl rfl)))
  refine EdgeOk.cons rfl ?_ ?_
  · exact TO.u rfl rfl (TX.alloc Try.zeroValue69 rfl rfl (fun b6001 => (TO.nil (TE.toh (TE.td ((hdef9502 _ _ _ _).mp (hS1000_29 b6001))) 0 0 ⟨rfl, rfl, rfl, trivial⟩ rfl rfl))))
  refine EdgeOk.cons rfl ?_ ?_
  · exact TO.u rfl rfl (TX.alloc Try.zeroValue41 rfl rfl (fun b7001 => (TO.nil (TE.toh (TE.td ((hdef9502 _ _ _ _).mp (hS1000_30 b7001))) 0 0 ⟨rfl, rfl, rfl, trivial⟩ rfl rfl))))
  exact EdgeOk.nil
 have hS1000_34 : ∀ (b6001 : Nat), T9501 7 [false, false, false, false, true, false, false, false] [(0, .slice sp_0 n_0 cap_0), (3, .pointer (some ⟨b9, 0, none⟩)), (4, .pointer (some ⟨b6001, 0, none⟩))] ⟨[(b6001, .cells #[.map none] 69), (b9, .cells #[.slice sp2 n3 cap4] 66)], [Hs6]⟩ := by
  intro b6001
  rw [hdef9502]
  refine TD.step [0, 1, 5] 0 rfl rfl rfl rfl rfl (EdgeOk.cons rfl ?_ ?_)
  · exact TO.u rfl rfl (TX.makeMapS (N := (Kn.int .i64)) (V := (fun (v : S_struct___) => (.agg #[] : Value))) rfl (fun m2001 Hs2003 ho2004 => (TO.nil (TE.toh (TE.td ((hdef9502 _ _ _ _).mp (hS1000_26 m2001 b6001 Hs2003 ho2004))) 0 0 ⟨rfl, rfl, rfl, rfl, trivial⟩ rfl rfl))))
  refine EdgeOk.cons rfl ?_ ?_
  · exact TO.u rfl rfl (TX.move rfl rfl (TO.nil (TE.toh (TE.td ((hdef9502 _ _ _ _).mp (hS1000_29 b6001))) 0 0 ⟨rfl, rfl, rfl, trivial⟩ rfl rfl)))
  refine EdgeOk.cons rfl ?_ ?_
  · exact TO.u rfl rfl (TX.alloc Try.zeroValue41 rfl rfl (fun b7001 => (TO.nil (TE.toh (TE.td ((hdef9502 _ _ _ _).mp (hS1000_31 b6001 b7001))) 0 0 ⟨rfl, rfl, rfl, rfl, trivial⟩ rfl rfl))))
  exact EdgeOk.nil
 have hS1000_35 : ∀ (b7001 : Nat), T9501 7 [false, false, false, false, false, true, false, false] [(0, .slice sp_0 n_0 cap_0), (3, .pointer (some ⟨b9, 0, none⟩)), (5, .pointer (some ⟨b7001, 0, none⟩))] ⟨[(b7001, .cells #[.slice none 0 0] 41), (b9, .cells #[.slice sp2 n3 cap4] 66)], [Hs6]⟩ := by
  intro b7001
  rw [hdef9502]
  refine TD.step [0, 1, 4] 0 rfl rfl rfl rfl rfl (EdgeOk.cons rfl ?_ ?_)
  · exact TO.u rfl rfl (TX.makeMapS (N := (Kn.int .i64)) (V := (fun (v : S_struct___) => (.agg #[] : Value))) rfl (fun m2001 Hs2003 ho2004 => (TO.nil (TE.toh (TE.td ((hdef9502 _ _ _ _).mp (hS1000_27 m2001 b7001 Hs2003 ho2004))) 0 0 ⟨rfl, rfl, rfl, rfl, trivial⟩ rfl rfl))))
  refine EdgeOk.cons rfl ?_ ?_
  · exact TO.u rfl rfl (TX.move rfl rfl (TO.nil (TE.toh (TE.td ((hdef9502 _ _ _ _).mp (hS1000_30 b7001))) 0 0 ⟨rfl, rfl, rfl, trivial⟩ rfl rfl)))
  refine EdgeOk.cons rfl ?_ ?_
  · exact TO.u rfl rfl (TX.alloc Try.zeroValue69 rfl rfl (fun b6001 => (TO.nil (TE.mvE 1 0 rfl rfl (TE.toh (TE.td ((hdef9502 _ _ _ _).mp (hS1000_31 b6001 b7001))) 0 0 ⟨rfl, rfl, rfl, rfl, trivial⟩ rfl rfl)))))
  exact EdgeOk.nil
 have hS1000_36 : T9501 8 [false, false, false, false, false, false, false, false] [(0, .slice sp_0 n_0 cap_0), (3, .pointer (some ⟨b9, 0, none⟩))] ⟨[(b9, .cells #[.slice sp2 n3 cap4] 66)], [Hs6]⟩ := by
  rw [hdef9502]
  refine TD.step [0, 1, 4, 5] 0 rfl rfl rfl rfl rfl (EdgeOk.cons rfl ?_ ?_)
  · exact TO.u rfl rfl (TX.makeMapS (N := (Kn.int .i64)) (V := (fun (v : S_struct___) => (.agg #[] : Value))) rfl (fun m2001 Hs2003 ho2004 => (TO.nil (TE.toh (TE.td ((hdef9502 _ _ _ _).mp (hS1000_32 m2001 Hs2003 ho2004))) 0 0 ⟨rfl, rfl, rfl, trivial⟩ rfl rfl))))
  refine EdgeOk.cons rfl ?_ ?_
  · exact TO.u rfl rfl (TX.move rfl rfl (TO.nil (TE.toh (TE.td ((hdef9502 _ _ _ _).mp (hS1000_33))) 0 0 ⟨rfl, rfl, trivial⟩ rfl rfl)))
  refine EdgeOk.cons rfl ?_ ?_
  · exact TO.u rfl rfl (TX.alloc Try.zeroValue69 rfl rfl (fun b6001 => (TO.nil (TE.toh (TE.td ((hdef9502 _ _ _ _).mp (hS1000_34 b6001))) 0 0 ⟨rfl, rfl, rfl, trivial⟩ rfl rfl))))
  refine EdgeOk.cons rfl ?_ ?_
  · exact TO.u rfl rfl (TX.alloc Try.zeroValue41 rfl rfl (fun b7001 => (TO.nil (TE.toh (TE.td ((hdef9502 _ _ _ _).mp (hS1000_35 b7001))) 0 0 ⟨rfl, rfl, rfl, trivial⟩ rfl rfl))))
  exact EdgeOk.nil
 exact hS1000_36
def fn7_l2 (p0 : List Instr) (v79 : (List Bool)) (v87 : (List Bool)) : Nat → Int → Option ((Unit) ⊕ (Bool))
  | 0, _ => none
  | n105 + 1, x100 => (bif decide (x100 < (v79.length : Int)) then (bif inb x100 v79.length then (bif bif decide (x100 < (p0.length : Int)) then (inb x100 v87.length) else true then (bif bif decide (x100 < (p0.length : Int)) then (gt v79 x100) != (gt v87 x100) else (gt v79 x100) != false then (some (.inr false)) else ((fn7_l2 p0 v79 v87 n105) (IntKind.i64.wrap (x100 + 1)))) else none) else none) else (some (.inl ())))
theorem fn7_l2_s (p0 : List Instr) (v79 : (List Bool)) (v87 : (List Bool)) (n105 : Nat) (x100 : Int) : fn7_l2 p0 v79 v87 (n105 + 1) x100 = (bif decide (x100 < (v79.length : Int)) then (bif inb x100 v79.length then (bif bif decide (x100 < (p0.length : Int)) then (inb x100 v87.length) else true then (bif bif decide (x100 < (p0.length : Int)) then (gt v79 x100) != (gt v87 x100) else (gt v79 x100) != false then (some (.inr false)) else ((fn7_l2 p0 v79 v87 n105) (IntKind.i64.wrap (x100 + 1)))) else none) else none) else (some (.inl ()))) := rfl
def fn7_k2 (F : Nat) (p0 : List Instr) (p1 : List Instr) (v79 : (List Bool)) : Option (Bool) :=
  (Option.bind (bif (v79.length : Int) == (((([] : List Instr) ++ p0) ++ p1).length : Int) then (fn23 F ((([] : List Instr) ++ p0) ++ p1)) else some default) fun v113 => (Option.bind (bif (v79.length : Int) == (((([] : List Instr) ++ p0) ++ p1).length : Int) then (fn23 F p0) else some default) fun v114 => (some (((v79.length : Int) == (((([] : List Instr) ++ p0) ++ p1).length : Int)) && (v113 == v114)))))
theorem fn7_k2_s (F : Nat) (p0 : List Instr) (p1 : List Instr) (v79 : (List Bool)) : fn7_k2 F p0 p1 v79  = (Option.bind (bif (v79.length : Int) == (((([] : List Instr) ++ p0) ++ p1).length : Int) then (fn23 F ((([] : List Instr) ++ p0) ++ p1)) else some default) fun v113 => (Option.bind (bif (v79.length : Int) == (((([] : List Instr) ++ p0) ++ p1).length : Int) then (fn23 F p0) else some default) fun v114 => (some (((v79.length : Int) == (((([] : List Instr) ++ p0) ++ p1).length : Int)) && (v113 == v114))))) := rfl
def fn7_l1 (p0 : List Instr) (v29 : (List Edge)) (v37 : (List Edge)) (v45 : (List Edge)) : Nat → Int → Option ((Unit) ⊕ (Bool))
  | 0, _ => none
  | n68 + 1, x63 => (bif decide (x63 < (v45.length : Int)) then (bif inb x63 v45.length then (bif decide (x63 < (v29.length : Int)) then (bif inb x63 v29.length then (bif !((((gt v45 x63).fFrom) == ((gt v29 x63).fFrom)) && ((((gt v45 x63).fTo) == ((gt v29 x63).fTo)) && true)) then (some (.inr false)) else ((fn7_l1 p0 v29 v37 v45 n68) (IntKind.i64.wrap (x63 + 1)))) else none) else (bif inb (IntKind.i64.wrap (x63 - (v29.length : Int))) v37.length then (bif !((((gt v45 x63).fFrom) == (IntKind.i64.wrap (((gt v37 (IntKind.i64.wrap (x63 - (v29.length : Int)))).fFrom) + (p0.length : Int)))) && ((((gt v45 x63).fTo) == (IntKind.i64.wrap (((gt v37 (IntKind.i64.wrap (x63 - (v29.length : Int)))).fTo) + (p0.length : Int)))) && true)) then (some (.inr false)) else ((fn7_l1 p0 v29 v37 v45 n68) (IntKind.i64.wrap (x63 + 1)))) else none)) else none) else (some (.inl ())))
theorem fn7_l1_s (p0 : List Instr) (v29 : (List Edge)) (v37 : (List Edge)) (v45 : (List Edge)) (n68 : Nat) (x63 : Int) : fn7_l1 p0 v29 v37 v45 (n68 + 1) x63 = (bif decide (x63 < (v45.length : Int)) then (bif inb x63 v45.length then (bif decide (x63 < (v29.length : Int)) then (bif inb x63 v29.length then (bif !((((gt v45 x63).fFrom) == ((gt v29 x63).fFrom)) && ((((gt v45 x63).fTo) == ((gt v29 x63).fTo)) && true)) then (some (.inr false)) else ((fn7_l1 p0 v29 v37 v45 n68) (IntKind.i64.wrap (x63 + 1)))) else none) else (bif inb (IntKind.i64.wrap (x63 - (v29.length : Int))) v37.length then (bif !((((gt v45 x63).fFrom) == (IntKind.i64.wrap (((gt v37 (IntKind.i64.wrap (x63 - (v29.length : Int)))).fFrom) + (p0.length : Int)))) && ((((gt v45 x63).fTo) == (IntKind.i64.wrap (((gt v37 (IntKind.i64.wrap (x63 - (v29.length : Int)))).fTo) + (p0.length : Int)))) && true)) then (some (.inr false)) else ((fn7_l1 p0 v29 v37 v45 n68) (IntKind.i64.wrap (x63 + 1)))) else none)) else none) else (some (.inl ()))) := rfl
def fn7_k1 (F : Nat) (p0 : List Instr) (p1 : List Instr) : Option (Bool) :=
  (Option.bind (fn21 F ((([] : List Instr) ++ p0) ++ p1)) fun v79 => (Option.bind (fn21 F p0) fun v87 => (Option.bind (fn7_l2 p0 v79 v87 F 0) fun o102 => (match o102 with | .inl u => fn7_k2 F p0 p1 v79  | .inr u => some u))))
theorem fn7_k1_s (F : Nat) (p0 : List Instr) (p1 : List Instr) : fn7_k1 F p0 p1  = (Option.bind (fn21 F ((([] : List Instr) ++ p0) ++ p1)) fun v79 => (Option.bind (fn21 F p0) fun v87 => (Option.bind (fn7_l2 p0 v79 v87 F 0) fun o102 => (match o102 with | .inl u => fn7_k2 F p0 p1 v79  | .inr u => some u)))) := rfl
/-- hatchway/hatchwaylaw24.FlowTwo -/
def fn7 (F : Nat) (p0 : List Instr) (p1 : List Instr) : Option (Bool) :=
  (Option.bind (fn16 F) fun v1 => (bif !v1 then (some false) else (bindP (fn17 p0) fun v3 => (bindP (fn17 p1) fun v4 => (bif (!v3) || (!v4) then (some true) else (Option.bind (fn14 F p0) fun v7 => (Option.bind (fn14 F p1) fun v8 => (bif (v7.2 != 0) || (v8.2 != 0) then (some true) else (bif decide ((([] : List Instr).length + p0.length) * 12 ≤ 140737488355328 ∧ ([] : List Instr).length + p0.length ≤ 9223372036854775807) then (bif decide (((([] : List Instr) ++ p0).length + p1.length) * 12 ≤ 140737488355328 ∧ (([] : List Instr) ++ p0).length + p1.length ≤ 9223372036854775807) then (Option.bind (fn20 F p0 1000) fun v29 => (Option.bind (fn20 F p1 1000) fun v37 => (Option.bind (fn20 F ((([] : List Instr) ++ p0) ++ p1) 2000) fun v45 => (bif (v45.length : Int) != (IntKind.i64.wrap ((v29.length : Int) + (v37.length : Int))) then (some false) else (Option.bind (fn7_l1 p0 v29 v37 v45 F 0) fun o65 => (match o65 with | .inl u => fn7_k1 F p0 p1  | .inr u => some u)))))) else none) else none)))))))))
def ret7 (r : Bool) : Value := .bool r
set_option maxHeartbeats 8000000 in
theorem c7 (F : Nat) (sp_0 : Option Addr) (n_0 cap_0 : Nat) (p0 : List Instr) (sp_1 : Option Addr) (n_1 cap_1 : Nat) (p1 : List Instr) (w : World) (r : Bool) (qn0 : p0.length = n_0) (qc0 : p0.length ≤ cap_0) (qp0 : RdF Instr.E w [] sp_0 p0) (qn1 : p1.length = n_1) (qc1 : p1.length ≤ cap_1) (qp1 : RdF Instr.E w [] sp_1 p1) (h : fn7 F p0 p1 = some r) : Ret Try.prog 7 [.slice sp_0 n_0 cap_0, .slice sp_1 n_1 cap_1] w ⟨[], []⟩ (fun v R => v = ret7 r ∧ R = ⟨[], []⟩) := by
 unfold fn7 at h
 refine Ret.of_body Try.func7 rfl Try.ntmps7 rfl (fun _ hx => absurd hx List.not_mem_nil) List.nodup_nil (TC.seq (TC.region (TO.u rfl rfl (TX.assign rfl rfl (TO.nil (TE.thenN rfl rfl (TC.seq (TC.seq (TC.region ?_)))))))))
 obtain ⟨v1, hv1, h⟩ := bd h
 refine TO.u rfl rfl (TX.callP Try.call16 rfl (fun a w s => c16 F _ _  hv1) rfl (TO.u rfl rfl (TX.not rfl rfl (TO.nil (TE.thenN rfl rfl (TC.cond rfl (fun hb2 => ?_) (fun hb2 => ?_)))))))
 · replace h := it h hb2
   exact TC.seq (TC.region (TO.u rfl rfl (TX.assign rfl rfl (TO.nil (TE.thenN rfl rfl (TC.ret (TE.thenR (TE.fin (R := ⟨[], []⟩) (TL.ret (R' := ⟨[], []⟩) Try.results7 (.cons (.tmp rfl) .nil) (subD 0 0 rfl rfl) ⟨congrArg ret7 (Option.some.inj h), rfl⟩)))))))))
 replace h := ie h hb2
 refine TC.skip (TE.thenN rfl rfl (TC.seq (TC.seq (TC.region (TO.u rfl rfl (TX.move rfl rfl ?_))))))
 obtain ⟨v3, hv3, h⟩ := bp h
 refine TO.u rfl rfl (TX.callP Try.call17 rfl (fun a w s => c17 _ _ _ p0 _ _ qn0 qc0 (qp0.tr s.extB0) hv3) rfl (TO.u rfl rfl (TX.not rfl rfl (TO.u rfl rfl (TX.move rfl rfl ?_)))))
 obtain ⟨v4, hv4, h⟩ := bp h
 refine TO.cutS 4 [(27, .bool ((!v3) || (!v4)))] ?_ ?_
 · cases hc5 : (!v3)
   · exact TO.g rfl rfl rfl rfl (TX.move rfl rfl (TO.g rfl rfl rfl rfl (TX.callP Try.call17 rfl (fun a w s => c17 _ _ _ p1 _ _ qn1 qc1 (qp1.tr s.extB0) hv4) rfl (TO.g rfl rfl rfl rfl (TX.not rfl rfl (TO.u rfl rfl (TX.pickF rfl rfl rfl (TO.nil (TE.cutS 4 rfl rfl ⟨rfl, trivial⟩)))))))))
   exact TO.s rfl rfl rfl rfl rfl rfl (TO.s rfl rfl rfl rfl rfl rfl (TO.s rfl rfl rfl rfl rfl rfl (TO.u rfl rfl (TX.pickT rfl rfl rfl (TO.nil (TE.cutS 4 rfl rfl ⟨rfl, trivial⟩))))))
 refine TO.nil (TE.thenN rfl rfl (TC.cond rfl (fun hb6 => ?_) (fun hb6 => ?_)))
 · replace h := it h hb6
   exact TC.seq (TC.region (TO.u rfl rfl (TX.assign rfl rfl (TO.nil (TE.thenN rfl rfl (TC.ret (TE.thenR (TE.fin (R := ⟨[], []⟩) (TL.ret (R' := ⟨[], []⟩) Try.results7 (.cons (.tmp rfl) .nil) (subD 0 0 rfl rfl) ⟨congrArg ret7 (Option.some.inj h), rfl⟩)))))))))
 replace h := ie h hb6
 refine TC.skip (TE.thenN rfl rfl (TC.seq (TC.region (TO.u rfl rfl (TX.move rfl rfl ?_)))))
 obtain ⟨v7, hv7, h⟩ := bd h
 refine TO.u rfl rfl (TX.callP Try.call14 rfl (fun a w s => c14 F _ _ _ p0 _ _ qn0 qc0 (qp0.tr s.extB0) hv7) rfl (TO.u rfl rfl (TX.move rfl rfl (TO.u rfl rfl (TX.extract rfl rfl rfl (TO.u rfl rfl (TX.extract rfl rfl rfl (TO.u rfl rfl (TX.assign rfl rfl (TO.u rfl rfl (TX.assign rfl rfl (TO.nil (TE.thenN rfl rfl (TC.seq (TC.region (TO.u rfl rfl (TX.move rfl rfl ?_)))))))))))))))))
 obtain ⟨v8, hv8, h⟩ := bd h
 refine TO.u rfl rfl (TX.callP Try.call14 rfl (fun a w s => c14 F _ _ _ p1 _ _ qn1 qc1 (qp1.tr s.extB0) hv8) rfl (TO.u rfl rfl (TX.move rfl rfl (TO.u rfl rfl (TX.extract rfl rfl rfl (TO.u rfl rfl (TX.extract rfl rfl rfl (TO.u rfl rfl (TX.assign rfl rfl (TO.u rfl rfl (TX.assign rfl rfl (TO.nil (TE.thenN rfl rfl (TC.seq (TC.seq (TC.region (TO.u rfl rfl (TX.move rfl rfl (TO.u rfl rfl (TX.ibin rfl rfl rfl rfl (TO.u rfl rfl (TX.move rfl rfl (TO.cutS 3 [(43, .bool ((v7.2 != 0) || (v8.2 != 0)))] ?_ ?_)))))))))))))))))))))))
 · cases hc9 : (v7.2 != 0)
   · exact TO.g rfl rfl rfl rfl (TX.move rfl rfl (TO.g rfl rfl rfl rfl (TX.ibin rfl rfl rfl rfl (TO.u rfl rfl (TX.pickF rfl rfl rfl (TO.nil (TE.cutS 3 rfl rfl ⟨rfl, trivial⟩)))))))
   exact TO.s rfl rfl rfl rfl rfl rfl (TO.s rfl rfl rfl rfl rfl rfl (TO.u rfl rfl (TX.pickT rfl rfl rfl (TO.nil (TE.cutS 3 rfl rfl ⟨rfl, trivial⟩)))))
 refine TO.nil (TE.thenN rfl rfl (TC.cond rfl (fun hb10 => ?_) (fun hb10 => ?_)))
 · replace h := it h hb10
   exact TC.seq (TC.region (TO.u rfl rfl (TX.assign rfl rfl (TO.nil (TE.thenN rfl rfl (TC.ret (TE.thenR (TE.fin (R := ⟨[], []⟩) (TL.ret (R' := ⟨[], []⟩) Try.results7 (.cons (.tmp rfl) .nil) (subD 0 0 rfl rfl) ⟨congrArg ret7 (Option.some.inj h), rfl⟩)))))))))
 replace h := ie h hb10
 refine TC.skip (TE.thenN rfl rfl (TC.seq (TC.region (TO.u rfl rfl (TX.buildS (N := Instr.E) (ys := ([] : List Instr)) Try.runUnderlying24 Try.sizeOf27 Try.zeroValue27 rfl rfl rfl rfl (fillS [] rfl rfl rfl rfl) rfl (fun sp11 Hs13 ho14 => (TO.u rfl rfl (TX.move rfl rfl ?_))))))))
 obtain ⟨hk15, h⟩ := ck h
 refine TO.u rfl rfl (TX.appendS (N := Instr.E) (si := 0) (xs := ([] : List Instr)) (ys := p0) Try.runUnderlying24 Try.typeInfo27 rfl rfl rfl rfl rfl rfl rfl qn0 rfl ho14 (fun a w s => qp0 w s.ext) hk15 rfl (fun sp16 cap17 Hs18 _ S19 ho20 => ?_))
 cases S19
 refine TO.u rfl rfl (TX.move rfl rfl ?_)
 obtain ⟨hk22, h⟩ := ck h
 refine TO.u rfl rfl (TX.appendS (N := Instr.E) (si := 0) (xs := ([] : List Instr) ++ p0) (ys := p1) Try.runUnderlying24 Try.typeInfo27 rfl rfl rfl rfl rfl rfl rfl qn1 rfl ho20 (fun a w s => qp1 w s.ext) hk22 rfl (fun sp23 cap24 Hs25 _ S26 ho27 => ?_))
 cases S26
 refine TO.u rfl rfl (TX.assign rfl rfl (TO.nil (TE.thenN rfl rfl (TC.seq (TC.region (TO.u rfl rfl (TX.move rfl rfl ?_)))))))
 obtain ⟨v29, hv29, h⟩ := bd h
 refine TO.u rfl rfl (TX.callQ (post20 v29) Try.call20 rfl (fun a w s => c20 F _ _ _ p0 1000 _ _ qn0 qc0 (qp0.tr s.extB0) hv29) rfl ?_)
 rintro _ _ ⟨sp30, n31, cap32, Hs34, rfl, hn33, rfl, ho35⟩
 refine TO.reH ⟨[], [Hs34, Hs25]⟩ rfl (TO.u rfl rfl (TX.move rfl rfl ?_))
 obtain ⟨v37, hv37, h⟩ := bd h
 refine TO.u rfl rfl (TX.callQ (post20 v37) Try.call20 rfl (fun a w s => c20 F _ _ _ p1 1000 _ _ qn1 qc1 (qp1.tr s.extB0) hv37) rfl ?_)
 rintro _ _ ⟨sp38, n39, cap40, Hs42, rfl, hn41, rfl, ho43⟩
 refine TO.reH ⟨[], [Hs42, Hs34, Hs25]⟩ rfl (TO.u rfl rfl (TX.move rfl rfl ?_))
 obtain ⟨v45, hv45, h⟩ := bd h
 refine TO.u rfl rfl (TX.callQ (post20 v45) Try.call20 rfl (fun a w s => c20 F _ _ _ ((([] : List Instr) ++ p0) ++ p1) 2000 _ _ rfl ho27.le_cap (ho27.rdf0 s (i := 2) rfl) hv45) rfl ?_)
 rintro _ _ ⟨sp46, n47, cap48, Hs50, rfl, hn49, rfl, ho51⟩
 refine TO.reH ⟨[], [Hs50, Hs42, Hs34, Hs25]⟩ rfl (TO.u rfl rfl (TX.assign rfl rfl (TO.u rfl rfl (TX.assign rfl rfl (TO.u rfl rfl (TX.assign rfl rfl (TO.nil (TE.thenN rfl rfl (TC.seq (TC.seq (TC.region (TO.u rfl rfl (TX.move rfl rfl (TO.u rfl rfl (TX.lenS (xs := v45) Try.runUnderlying36 rfl hn49 rfl (TO.u rfl rfl (TX.move rfl rfl (TO.u rfl rfl (TX.lenS (xs := v29) Try.runUnderlying36 rfl hn33 rfl (TO.u rfl rfl (TX.move rfl rfl (TO.u rfl rfl (TX.lenS (xs := v37) Try.runUnderlying36 rfl hn41 rfl (TO.u rfl rfl (TX.ibin rfl rfl rfl rfl (TO.u rfl rfl (TX.ibin rfl rfl rfl rfl (TO.nil (TE.thenN rfl rfl (TC.cond rfl (fun hb53 => ?_) (fun hb53 => ?_)))))))))))))))))))))))))))))))
 · replace h := it h hb53
   exact TC.seq (TC.region (TO.u rfl rfl (TX.assign rfl rfl (TO.nil (TE.thenN rfl rfl (TC.ret (TE.thenR (TE.fin (R := ⟨[], []⟩) (TL.ret (R' := ⟨[], []⟩) Try.results7 (.cons (.tmp rfl) .nil) (subD 0 4 rfl rfl) ⟨congrArg ret7 (Option.some.inj h), rfl⟩)))))))))
 replace h := ie h hb53
 refine TC.skip (TE.thenN rfl rfl (TC.seq (TC.seq (TC.region (TO.u rfl rfl (TX.assign rfl rfl (TO.nil (TE.thenN rfl rfl (TC.block ?_)))))))))
 obtain ⟨o65, hl66, h⟩ := bd h
 refine TC.to (L' := [(0, .slice sp_0 n_0 cap_0), (9, .slice sp23 (((([] : List Instr) ++ p0) ++ p1).length) cap24), (10, .slice sp30 n31 cap32), (11, .slice sp38 n39 cap40), (12, .slice sp46 n47 cap48), (13, .int .i64 0)]) (E' := []) (S' := [Hs50, Hs42, Hs34, Hs25]) 0 0 ⟨rfl, rfl, rfl, rfl, rfl, rfl, trivial⟩ rfl rfl (TC.cutE 0 (fun L' H' => .inl () = o65 ∧ L' = [(0, .slice sp_0 n_0 cap_0), (9, .slice sp23 (((([] : List Instr) ++ p0) ++ p1).length) cap24)] ∧ H' = ⟨[], [Hs50, Hs42, Hs34, Hs25]⟩) ?_ ?_)
 · have h070 := h
   clear h
   refine TC.loop (fun (n : Nat) (s : Int) => fn7_l1 p0 v29 v37 v45 n s) o65 (fun _ => rfl) (fun (x63 : Int) L' H' => L' = [(0, .slice sp_0 n_0 cap_0), (9, .slice sp23 (((([] : List Instr) ++ p0) ++ p1).length) cap24), (10, .slice sp30 n31 cap32), (11, .slice sp38 n39 cap40), (12, .slice sp46 n47 cap48), (13, .int .i64 x63)] ∧ H' = ⟨[], [Hs50, Hs42, Hs34, Hs25]⟩) ?_ F 0 ⟨rfl, rfl⟩ hl66
   clear hl66
   rintro K67 n68 x63 _ _ ⟨rfl, rfl⟩ h ih69
   replace h := (fn7_l1_s p0 v29 v37 v45 n68 x63).symm.trans h
   refine TC.seq (TC.seq (TC.region (TO.u rfl rfl (TX.move rfl rfl (TO.u rfl rfl (TX.move rfl rfl (TO.u rfl rfl (TX.lenS (xs := v45) Try.runUnderlying36 rfl hn49 rfl (TO.u rfl rfl (TX.ibin rfl rfl rfl rfl (TO.nil (TE.thenN rfl rfl (TC.cond rfl (fun hb71 => ?_) (fun hb71 => ?_))))))))))))))
   · replace h := it h hb71
     refine TC.skip (TE.thenN rfl rfl (TC.seq (TC.block (TC.seq (TC.region (TO.u rfl rfl (TX.move rfl rfl (TO.u rfl rfl (TX.move rfl rfl ?_)))))))))
     obtain ⟨hk72, h⟩ := ck h
     refine TO.u rfl rfl (TX.indexR (N := Edge.E) Try.runUnderlying36 Try.sizeOf40 rfl hn49 rfl (fun a w s => ho51.rd s (i := 0) rfl) hk72 rfl (TO.u rfl rfl (TX.loadRN (N := Edge.E) Try.isAgg40 Try.sizeOf40 rfl (fun a w s => ho51.rd s (i := 0) rfl) hk72 rfl rfl (TO.u rfl rfl (TX.alloc Try.zeroValue40 rfl rfl (fun b73 => (TO.u rfl rfl (TX.store (i := 0) Try.sizeOf40 rfl rfl rfl rfl rfl rfl rfl rfl (TO.nil (TE.thenN rfl rfl (TC.seq (TC.seq (TC.region (TO.u rfl rfl (TX.move rfl rfl (TO.u rfl rfl (TX.move rfl rfl (TO.u rfl rfl (TX.lenS (xs := v29) Try.runUnderlying36 rfl hn33 rfl (TO.u rfl rfl (TX.ibin rfl rfl rfl rfl (TO.nil (TE.thenN rfl rfl (TC.cond rfl (fun hb74 => ?_) (fun hb74 => ?_)))))))))))))))))))))))))
     · replace h := it h hb74
       refine TC.region (TO.u rfl rfl (TX.move rfl rfl (TO.u rfl rfl (TX.move rfl rfl ?_))))
       obtain ⟨hk75, h⟩ := ck h
       refine TO.u rfl rfl (TX.indexR (N := Edge.E) Try.runUnderlying36 Try.sizeOf40 rfl hn33 rfl (fun a w s => ho35.rd s (i := 2) rfl) hk75 rfl (TO.u rfl rfl (TX.loadRN (N := Edge.E) Try.isAgg40 Try.sizeOf40 rfl (fun a w s => ho35.rd s (i := 2) rfl) hk75 rfl rfl (TO.u rfl rfl (TX.store (i := 0) Try.sizeOf40 rfl rfl rfl rfl rfl rfl rfl rfl (TO.nil (TE.thenN rfl rfl (TC.seq (TC.keep (L' := [(0, .slice sp_0 n_0 cap_0), (9, .slice sp23 (((([] : List Instr) ++ p0) ++ p1).length) cap24), (10, .slice sp30 n31 cap32), (11, .slice sp38 n39 cap40), (12, .slice sp46 n47 cap48), (13, .int .i64 x63), (14, .pointer (some ⟨b73, 0, none⟩))]) ⟨rfl, rfl, rfl, rfl, rfl, rfl, rfl, trivial⟩ (TC.draw hmix 5 [.slice sp46 n47 cap48, .int .i64 x63, .pointer (some (eAddr sp46 (x63.toNat * Edge.E.sz + 0))), .agg #[.int .i64 ((gt v45 x63).fFrom), .int .i64 ((gt v45 x63).fTo)], .agg #[.int .i64 ((gt v29 x63).fFrom), .int .i64 ((gt v29 x63).fTo)]] [(103, .agg #[.int .i64 ((gt v45 x63).fFrom), .int .i64 ((gt v45 x63).fTo)]), (104, .agg #[.int .i64 ((gt v29 x63).fFrom), .int .i64 ((gt v29 x63).fTo)])] rfl rfl rfl rfl ?_ (.cons 3 rfl rfl rfl (.cons 4 rfl rfl rfl .nil)) ?_))))))))))
       · exact QAll.u [(12, .slice sp46 n47 cap48)] (.old rfl .nil) rfl rfl (QV.move rfl).s rfl (QAll.u [(13, .int .i64 x63)] (.old rfl .nil) rfl rfl (QV.move rfl).s rfl (QAll.u [(100, .slice sp46 n47 cap48), (101, .int .i64 x63)] (.dat 0 rfl rfl rfl (.dat 1 rfl rfl rfl .nil)) rfl rfl (QV.indexR (N := Edge.E) Try.runUnderlying36 Try.sizeOf40 rfl hn49 rfl (fun a w s => ho51.rd s (i := 0) rfl) hk72).s rfl (QAll.u [(102, .pointer (some (eAddr sp46 (x63.toNat * Edge.E.sz + 0))))] (.dat 2 rfl rfl rfl .nil) rfl rfl (QV.loadRN (N := Edge.E) Try.isAgg40 Try.sizeOf40 rfl (fun a w s => ho51.rd s (i := 0) rfl) hk72 rfl).s rfl (QAll.u [(14, .pointer (some ⟨b73, 0, none⟩))] (.old rfl .nil) rfl rfl (QV.loadN (i := 0) Try.isAgg40 Try.sizeOf40 rfl rfl rfl).s rfl (QAll.nil)))))
       refine TO.u rfl rfl (TX.aggNe Try.eqGuardType40 rfl rfl rfl (EqOk.struct (K := 1) Try.runUnderlying40 Try.stoodInHeld40 (.cons rfl (.one Try.isAgg3 rfl) (.one Try.isAgg3 rfl) (EqOk.int Try.runUnderlying3) (.cons rfl (.one Try.isAgg3 rfl) (.one Try.isAgg3 rfl) (EqOk.int Try.runUnderlying3) .nil))) rfl (TO.nil (TE.thenN rfl rfl (TC.cond rfl (fun hb76 => ?_) (fun hb76 => ?_)))))
       · replace h := it h hb76
         refine TC.seq (TC.region (TO.u rfl rfl (TX.assign rfl rfl (TO.nil (TE.thenN rfl rfl (TC.ret (TE.blockR (TE.thenR (TE.loopR (TE.cutR ?_))))))))))
         have ho := Option.some.inj h
         subst ho
         replace h := h070
         exact TE.blockR (TE.thenR (TE.fin (R := ⟨[], []⟩) (TL.ret (R' := ⟨[], []⟩) Try.results7 (.cons (.tmp rfl) .nil) (subD 1 4 rfl rfl) ⟨congrArg ret7 (Option.some.inj h), rfl⟩)))
       replace h := ie h hb76
       exact TC.skip (TE.blockN (TE.thenN rfl rfl (TC.region (TO.u rfl rfl (TX.move rfl rfl (TO.u rfl rfl (TX.ibin rfl rfl rfl rfl (TO.u rfl rfl (TX.assign rfl rfl (TO.nil (TE.to (L' := [(0, .slice sp_0 n_0 cap_0), (9, .slice sp23 (((([] : List Instr) ++ p0) ++ p1).length) cap24), (10, .slice sp30 n31 cap32), (11, .slice sp38 n39 cap40), (12, .slice sp46 n47 cap48), (13, .int .i64 (IntKind.i64.wrap (x63 + 1)))]) (E' := []) (S' := [Hs50, Hs42, Hs34, Hs25]) 1 0 ⟨rfl, rfl, rfl, rfl, rfl, rfl, trivial⟩ rfl rfl (ih69 (IntKind.i64.wrap (x63 + 1)) _ _ ⟨rfl, rfl⟩ h))))))))))))
     replace h := ie h hb74
     refine TC.seq (TC.region (TO.u rfl rfl (TX.move rfl rfl (TO.u rfl rfl (TX.move rfl rfl (TO.u rfl rfl (TX.move rfl rfl (TO.u rfl rfl (TX.lenS (xs := v29) Try.runUnderlying36 rfl hn33 rfl (TO.u rfl rfl (TX.ibin rfl rfl rfl rfl ?_)))))))))))
     obtain ⟨hk77, h⟩ := ck h
     refine TO.u rfl rfl (TX.indexR (N := Edge.E) Try.runUnderlying36 Try.sizeOf40 rfl hn41 rfl (fun a w s => ho43.rd s (i := 1) rfl) hk77 rfl (TO.u rfl rfl (TX.loadRN (N := Edge.E) Try.isAgg40 Try.sizeOf40 rfl (fun a w s => ho43.rd s (i := 1) rfl) hk77 rfl rfl (TO.u rfl rfl (TX.store (i := 0) Try.sizeOf40 rfl rfl rfl rfl rfl rfl rfl rfl (TO.nil (TE.thenN rfl rfl (TC.seq (TC.region (TO.u rfl rfl (TX.fieldAddr' Try.runUnderlying40 rfl Try.sizeOf3 rfl rfl rfl (TO.u rfl rfl (TX.load1 (i := 0) Try.isAgg3 rfl rfl rfl rfl (TO.u rfl rfl (TX.move rfl rfl (TO.u rfl rfl (TX.lenS (xs := p0) Try.runUnderlying24 rfl qn0 rfl (TO.u rfl rfl (TX.ibin rfl rfl rfl rfl (TO.u rfl rfl (TX.fieldAddr' Try.runUnderlying40 rfl Try.sizeOf3 rfl rfl rfl (TO.u rfl rfl (TX.store (i := 0) Try.sizeOf3 rfl rfl rfl rfl rfl rfl rfl rfl (TO.nil (TE.thenN rfl rfl (TC.region (TO.u rfl rfl (TX.fieldAddr' Try.runUnderlying40 rfl Try.sizeOf3 rfl rfl rfl (TO.u rfl rfl (TX.load1 (i := 0) Try.isAgg3 rfl rfl rfl rfl (TO.u rfl rfl (TX.move rfl rfl (TO.u rfl rfl (TX.lenS (xs := p0) Try.runUnderlying24 rfl qn0 rfl (TO.u rfl rfl (TX.ibin rfl rfl rfl rfl (TO.u rfl rfl (TX.fieldAddr' Try.runUnderlying40 rfl Try.sizeOf3 rfl rfl rfl (TO.u rfl rfl (TX.store (i := 0) Try.sizeOf3 rfl rfl rfl rfl rfl rfl rfl rfl (TO.nil (TE.thenN rfl rfl (TC.seq (TC.keep (L' := [(0, .slice sp_0 n_0 cap_0), (9, .slice sp23 (((([] : List Instr) ++ p0) ++ p1).length) cap24), (10, .slice sp30 n31 cap32), (11, .slice sp38 n39 cap40), (12, .slice sp46 n47 cap48), (13, .int .i64 x63), (14, .pointer (some ⟨b73, 0, none⟩))]) ⟨rfl, rfl, rfl, rfl, rfl, rfl, rfl, trivial⟩ (TC.draw hmix 5 [.slice sp46 n47 cap48, .int .i64 x63, .pointer (some (eAddr sp46 (x63.toNat * Edge.E.sz + 0))), .agg #[.int .i64 ((gt v45 x63).fFrom), .int .i64 ((gt v45 x63).fTo)], .agg #[.int .i64 (IntKind.i64.wrap (((gt v37 (IntKind.i64.wrap (x63 - (v29.length : Int)))).fFrom) + (p0.length : Int))), .int .i64 (IntKind.i64.wrap (((gt v37 (IntKind.i64.wrap (x63 - (v29.length : Int)))).fTo) + (p0.length : Int)))]] [(103, .agg #[.int .i64 ((gt v45 x63).fFrom), .int .i64 ((gt v45 x63).fTo)]), (104, .agg #[.int .i64 (IntKind.i64.wrap (((gt v37 (IntKind.i64.wrap (x63 - (v29.length : Int)))).fFrom) + (p0.length : Int))), .int .i64 (IntKind.i64.wrap (((gt v37 (IntKind.i64.wrap (x63 - (v29.length : Int)))).fTo) + (p0.length : Int)))])] rfl rfl rfl rfl ?_ (.cons 3 rfl rfl rfl (.cons 4 rfl rfl rfl .nil)) ?_)))))))))))))))))))))))))))))))))))))))))))))
     · exact QAll.u [(12, .slice sp46 n47 cap48)] (.old rfl .nil) rfl rfl (QV.move rfl).s rfl (QAll.u [(13, .int .i64 x63)] (.old rfl .nil) rfl rfl (QV.move rfl).s rfl (QAll.u [(100, .slice sp46 n47 cap48), (101, .int .i64 x63)] (.dat 0 rfl rfl rfl (.dat 1 rfl rfl rfl .nil)) rfl rfl (QV.indexR (N := Edge.E) Try.runUnderlying36 Try.sizeOf40 rfl hn49 rfl (fun a w s => ho51.rd s (i := 0) rfl) hk72).s rfl (QAll.u [(102, .pointer (some (eAddr sp46 (x63.toNat * Edge.E.sz + 0))))] (.dat 2 rfl rfl rfl .nil) rfl rfl (QV.loadRN (N := Edge.E) Try.isAgg40 Try.sizeOf40 rfl (fun a w s => ho51.rd s (i := 0) rfl) hk72 rfl).s rfl (QAll.u [(14, .pointer (some ⟨b73, 0, none⟩))] (.old rfl .nil) rfl rfl (QV.loadN (i := 0) Try.isAgg40 Try.sizeOf40 rfl rfl rfl).s rfl (QAll.nil)))))
     refine TO.u rfl rfl (TX.aggNe Try.eqGuardType40 rfl rfl rfl (EqOk.struct (K := 1) Try.runUnderlying40 Try.stoodInHeld40 (.cons rfl (.one Try.isAgg3 rfl) (.one Try.isAgg3 rfl) (EqOk.int Try.runUnderlying3) (.cons rfl (.one Try.isAgg3 rfl) (.one Try.isAgg3 rfl) (EqOk.int Try.runUnderlying3) .nil))) rfl (TO.nil (TE.thenN rfl rfl (TC.cond rfl (fun hb78 => ?_) (fun hb78 => ?_)))))
     · replace h := it h hb78
       refine TC.seq (TC.region (TO.u rfl rfl (TX.assign rfl rfl (TO.nil (TE.thenN rfl rfl (TC.ret (TE.blockR (TE.thenR (TE.loopR (TE.cutR ?_))))))))))
       have ho := Option.some.inj h
       subst ho
       replace h := h070
       exact TE.blockR (TE.thenR (TE.fin (R := ⟨[], []⟩) (TL.ret (R' := ⟨[], []⟩) Try.results7 (.cons (.tmp rfl) .nil) (subD 1 4 rfl rfl) ⟨congrArg ret7 (Option.some.inj h), rfl⟩)))
     replace h := ie h hb78
     exact TC.skip (TE.blockN (TE.thenN rfl rfl (TC.region (TO.u rfl rfl (TX.move rfl rfl (TO.u rfl rfl (TX.ibin rfl rfl rfl rfl (TO.u rfl rfl (TX.assign rfl rfl (TO.nil (TE.to (L' := [(0, .slice sp_0 n_0 cap_0), (9, .slice sp23 (((([] : List Instr) ++ p0) ++ p1).length) cap24), (10, .slice sp30 n31 cap32), (11, .slice sp38 n39 cap40), (12, .slice sp46 n47 cap48), (13, .int .i64 (IntKind.i64.wrap (x63 + 1)))]) (E' := []) (S' := [Hs50, Hs42, Hs34, Hs25]) 1 0 ⟨rfl, rfl, rfl, rfl, rfl, rfl, trivial⟩ rfl rfl (ih69 (IntKind.i64.wrap (x63 + 1)) _ _ ⟨rfl, rfl⟩ h))))))))))))
   replace h := ie h hb71
   exact TC.exit (TE.thenX (TE.loopX (TE.to (L' := [(0, .slice sp_0 n_0 cap_0), (9, .slice sp23 (((([] : List Instr) ++ p0) ++ p1).length) cap24)]) (E' := []) (S' := [Hs50, Hs42, Hs34, Hs25]) 0 0 ⟨rfl, rfl, trivial⟩ rfl rfl (TE.cutE ⟨Option.some.inj h, rfl, rfl⟩))))
 rintro _ _ ⟨rfl, rfl, rfl⟩
 replace h := (fn7_k1_s F p0 p1 ).symm.trans h
 refine TE.blockH (TE.thenN rfl rfl (TC.seq (TC.region (TO.u rfl rfl (TX.move rfl rfl ?_)))))
 obtain ⟨v79, hv79, h⟩ := bd h
 refine TO.u rfl rfl (TX.callQ (post21 v79) Try.call21 rfl (fun a w s => c21 F _ _ _ ((([] : List Instr) ++ p0) ++ p1) _ _ rfl ho27.le_cap (ho27.rdf0 s (i := 3) rfl) hv79) rfl ?_)
 rintro _ _ ⟨sp80, n81, cap82, Hs84, rfl, hn83, rfl, ho85⟩
 refine TO.reH ⟨[], [Hs84, Hs50, Hs42, Hs34, Hs25]⟩ rfl (TO.u rfl rfl (TX.move rfl rfl ?_))
 obtain ⟨v87, hv87, h⟩ := bd h
 refine TO.u rfl rfl (TX.callQ (post21 v87) Try.call21 rfl (fun a w s => c21 F _ _ _ p0 _ _ qn0 qc0 (qp0.tr s.extB0) hv87) rfl ?_)
 rintro _ _ ⟨sp88, n89, cap90, Hs92, rfl, hn91, rfl, ho93⟩
 refine TO.reH ⟨[], [Hs92, Hs84, Hs50, Hs42, Hs34, Hs25]⟩ rfl (TO.u rfl rfl (TX.assign rfl rfl (TO.u rfl rfl (TX.assign rfl rfl (TO.nil (TE.thenN rfl rfl (TC.seq (TC.seq (TC.region (TO.u rfl rfl (TX.assign rfl rfl (TO.nil (TE.thenN rfl rfl (TC.block ?_))))))))))))))
 obtain ⟨o102, hl103, h⟩ := bd h
 refine TC.to (L' := [(0, .slice sp_0 n_0 cap_0), (9, .slice sp23 (((([] : List Instr) ++ p0) ++ p1).length) cap24), (15, .slice sp80 n81 cap82), (16, .slice sp88 n89 cap90), (17, .int .i64 0)]) (E' := []) (S' := [Hs92, Hs84, Hs50, Hs42, Hs34, Hs25]) 0 0 ⟨rfl, rfl, rfl, rfl, rfl, trivial⟩ rfl rfl (TC.cutE 2 (fun L' H' => .inl () = o102 ∧ L' = [(0, .slice sp_0 n_0 cap_0), (9, .slice sp23 (((([] : List Instr) ++ p0) ++ p1).length) cap24), (15, .slice sp80 n81 cap82)] ∧ H' = ⟨[], [Hs92, Hs84, Hs50, Hs42, Hs34, Hs25]⟩) ?_ ?_)
 · have h0107 := h
   clear h
   refine TC.loop (fun (n : Nat) (s : Int) => fn7_l2 p0 v79 v87 n s) o102 (fun _ => rfl) (fun (x100 : Int) L' H' => L' = [(0, .slice sp_0 n_0 cap_0), (9, .slice sp23 (((([] : List Instr) ++ p0) ++ p1).length) cap24), (15, .slice sp80 n81 cap82), (16, .slice sp88 n89 cap90), (17, .int .i64 x100)] ∧ H' = ⟨[], [Hs92, Hs84, Hs50, Hs42, Hs34, Hs25]⟩) ?_ F 0 ⟨rfl, rfl⟩ hl103
   clear hl103
   rintro K104 n105 x100 _ _ ⟨rfl, rfl⟩ h ih106
   replace h := (fn7_l2_s p0 v79 v87 n105 x100).symm.trans h
   refine TC.seq (TC.seq (TC.region (TO.u rfl rfl (TX.move rfl rfl (TO.u rfl rfl (TX.move rfl rfl (TO.u rfl rfl (TX.lenS (xs := v79) Try.runUnderlying41 rfl hn83 rfl (TO.u rfl rfl (TX.ibin rfl rfl rfl rfl (TO.nil (TE.thenN rfl rfl (TC.cond rfl (fun hb108 => ?_) (fun hb108 => ?_))))))))))))))
   · replace h := it h hb108
     refine TC.skip (TE.thenN rfl rfl (TC.seq (TC.block (TC.seq (TC.keep (L' := [(0, .slice sp_0 n_0 cap_0), (9, .slice sp23 (((([] : List Instr) ++ p0) ++ p1).length) cap24), (15, .slice sp80 n81 cap82), (16, .slice sp88 n89 cap90), (17, .int .i64 x100)]) ⟨rfl, rfl, rfl, rfl, rfl, trivial⟩ ?_)))))
     obtain ⟨hk109, h⟩ := ck h
     obtain ⟨hk110, h⟩ := ck h
     refine TC.cutN [(130, .bool (bif decide (x100 < (p0.length : Int)) then (gt v79 x100) != (gt v87 x100) else (gt v79 x100) != false))] ?_ ?_
     · cases hc111 : (decide (x100 < (p0.length : Int)))
       · refine TC.draw hmix 15 [.slice sp80 n81 cap82, .int .i64 x100, .pointer (some (eAddr sp80 (x100.toNat * En.bool.sz + 0))), .bool (gt v79 x100), .int .i64 x100, .slice sp_0 n_0 cap_0, .int .i64 (p0.length : Int), .bool (decide (x100 < (p0.length : Int))), .bool (decide (x100 < (p0.length : Int))), undef, undef, undef, undef, .bool false, .bool ((gt v79 x100) != false)] [(130, .bool ((gt v79 x100) != false))] rfl rfl rfl rfl ?_ (.cons 14 rfl rfl rfl .nil) ?_
         · exact QAll.u [(15, .slice sp80 n81 cap82)] (.old rfl .nil) rfl rfl (QV.move rfl).s rfl (QAll.u [(17, .int .i64 x100)] (.old rfl .nil) rfl rfl (QV.move rfl).s rfl (QAll.u [(116, .slice sp80 n81 cap82), (117, .int .i64 x100)] (.dat 0 rfl rfl rfl (.dat 1 rfl rfl rfl .nil)) rfl rfl (QV.indexR (N := En.bool) Try.runUnderlying41 Try.sizeOf4 rfl hn83 rfl (fun a w s => ho85.rd s (i := 1) rfl) hk109).s rfl (QAll.u [(118, .pointer (some (eAddr sp80 (x100.toNat * En.bool.sz + 0))))] (.dat 2 rfl rfl rfl .nil) rfl rfl (QV.loadR1 (N := En.bool) Try.isAgg4 rfl (fun a w s => ho85.rd s (i := 1) rfl) hk109 rfl).s rfl (QAll.u [(17, .int .i64 x100)] (.old rfl .nil) rfl rfl (QV.move rfl).s rfl (QAll.u [(0, .slice sp_0 n_0 cap_0)] (.old rfl .nil) rfl rfl (QV.move rfl).s rfl (QAll.u [(121, .slice sp_0 n_0 cap_0)] (.dat 5 rfl rfl rfl .nil) rfl rfl (QV.lenS (xs := p0) Try.runUnderlying24 rfl qn0).s rfl (QAll.u [(120, .int .i64 x100), (122, .int .i64 (p0.length : Int))] (.dat 4 rfl rfl rfl (.dat 6 rfl rfl rfl .nil)) rfl rfl (QV.ibin rfl rfl rfl).s rfl (QAll.u [(123, .bool (decide (x100 < (p0.length : Int))))] (.dat 7 rfl rfl rfl .nil) rfl rfl (QV.move rfl).s rfl (QAll.s [(124, .bool false)] (.dat 8 rfl rfl (congrArg Value.bool hc111) .nil) rfl rfl rfl rfl rfl rfl (QAll.s [(124, .bool false)] (.dat 8 rfl rfl (congrArg Value.bool hc111) .nil) rfl rfl rfl rfl rfl rfl (QAll.s [(124, .bool false)] (.dat 8 rfl rfl (congrArg Value.bool hc111) .nil) rfl rfl rfl rfl rfl rfl (QAll.s [(124, .bool false)] (.dat 8 rfl rfl (congrArg Value.bool hc111) .nil) rfl rfl rfl rfl rfl rfl (QAll.u [(124, .bool false), (128, undef)] (.dat 8 rfl rfl (congrArg Value.bool hc111) (.dat 12 rfl rfl rfl .nil)) rfl rfl (QV.pickF rfl rfl).s rfl (QAll.u [(119, .bool (gt v79 x100)), (129, .bool false)] (.dat 3 rfl rfl rfl (.dat 13 rfl rfl rfl .nil)) rfl rfl (QV.bneq Try.runUnderlying4 rfl rfl).s rfl (QAll.nil)))))))))))))))
         exact TO.nil (TE.cutS 1 rfl rfl ⟨rfl, trivial⟩)
       refine TC.draw hmix 15 [.slice sp80 n81 cap82, .int .i64 x100, .pointer (some (eAddr sp80 (x100.toNat * En.bool.sz + 0))), .bool (gt v79 x100), .int .i64 x100, .slice sp_0 n_0 cap_0, .int .i64 (p0.length : Int), .bool (decide (x100 < (p0.length : Int))), .bool (decide (x100 < (p0.length : Int))), .slice sp88 n89 cap90, .int .i64 x100, .pointer (some (eAddr sp88 (x100.toNat * En.bool.sz + 0))), .bool (gt v87 x100), .bool (gt v87 x100), .bool ((gt v79 x100) != (gt v87 x100))] [(130, .bool ((gt v79 x100) != (gt v87 x100)))] rfl rfl rfl rfl ?_ (.cons 14 rfl rfl rfl .nil) ?_
       · exact QAll.u [(15, .slice sp80 n81 cap82)] (.old rfl .nil) rfl rfl (QV.move rfl).s rfl (QAll.u [(17, .int .i64 x100)] (.old rfl .nil) rfl rfl (QV.move rfl).s rfl (QAll.u [(116, .slice sp80 n81 cap82), (117, .int .i64 x100)] (.dat 0 rfl rfl rfl (.dat 1 rfl rfl rfl .nil)) rfl rfl (QV.indexR (N := En.bool) Try.runUnderlying41 Try.sizeOf4 rfl hn83 rfl (fun a w s => ho85.rd s (i := 1) rfl) hk109).s rfl (QAll.u [(118, .pointer (some (eAddr sp80 (x100.toNat * En.bool.sz + 0))))] (.dat 2 rfl rfl rfl .nil) rfl rfl (QV.loadR1 (N := En.bool) Try.isAgg4 rfl (fun a w s => ho85.rd s (i := 1) rfl) hk109 rfl).s rfl (QAll.u [(17, .int .i64 x100)] (.old rfl .nil) rfl rfl (QV.move rfl).s rfl (QAll.u [(0, .slice sp_0 n_0 cap_0)] (.old rfl .nil) rfl rfl (QV.move rfl).s rfl (QAll.u [(121, .slice sp_0 n_0 cap_0)] (.dat 5 rfl rfl rfl .nil) rfl rfl (QV.lenS (xs := p0) Try.runUnderlying24 rfl qn0).s rfl (QAll.u [(120, .int .i64 x100), (122, .int .i64 (p0.length : Int))] (.dat 4 rfl rfl rfl (.dat 6 rfl rfl rfl .nil)) rfl rfl (QV.ibin rfl rfl rfl).s rfl (QAll.u [(123, .bool (decide (x100 < (p0.length : Int))))] (.dat 7 rfl rfl rfl .nil) rfl rfl (QV.move rfl).s rfl (QAll.g [(16, .slice sp88 n89 cap90), (124, .bool true)] (.old rfl (.dat 8 rfl rfl (congrArg Value.bool hc111) .nil)) rfl rfl rfl rfl (QV.move rfl).s rfl (QAll.g [(17, .int .i64 x100), (124, .bool true)] (.old rfl (.dat 8 rfl rfl (congrArg Value.bool hc111) .nil)) rfl rfl rfl rfl (QV.move rfl).s rfl (QAll.g [(124, .bool true), (125, .slice sp88 n89 cap90), (126, .int .i64 x100)] (.dat 8 rfl rfl (congrArg Value.bool hc111) (.dat 9 rfl rfl rfl (.dat 10 rfl rfl rfl .nil))) rfl rfl rfl rfl (QV.indexR (N := En.bool) Try.runUnderlying41 Try.sizeOf4 rfl hn91 rfl (fun a w s => ho93.rd s (i := 0) rfl) (cg hk110 hc111)).s rfl (QAll.g [(124, .bool true), (127, .pointer (some (eAddr sp88 (x100.toNat * En.bool.sz + 0))))] (.dat 8 rfl rfl (congrArg Value.bool hc111) (.dat 11 rfl rfl rfl .nil)) rfl rfl rfl rfl (QV.loadR1 (N := En.bool) Try.isAgg4 rfl (fun a w s => ho93.rd s (i := 0) rfl) (cg hk110 hc111) rfl).s rfl (QAll.u [(124, .bool true), (128, .bool (gt v87 x100))] (.dat 8 rfl rfl (congrArg Value.bool hc111) (.dat 12 rfl rfl rfl .nil)) rfl rfl (QV.pickT rfl rfl).s rfl (QAll.u [(119, .bool (gt v79 x100)), (129, .bool (gt v87 x100))] (.dat 3 rfl rfl rfl (.dat 13 rfl rfl rfl .nil)) rfl rfl (QV.bneq Try.runUnderlying4 rfl rfl).s rfl (QAll.nil)))))))))))))))
       exact TO.nil (TE.cutS 1 rfl rfl ⟨rfl, trivial⟩)
     refine TE.thenN rfl rfl (TC.cond rfl (fun hb112 => ?_) (fun hb112 => ?_))
     · replace h := it h hb112
       refine TC.seq (TC.region (TO.u rfl rfl (TX.assign rfl rfl (TO.nil (TE.thenN rfl rfl (TC.ret (TE.blockR (TE.thenR (TE.loopR (TE.cutR ?_))))))))))
       have ho := Option.some.inj h
       subst ho
       replace h := h0107
       exact TE.blockR (TE.thenR (TE.fin (R := ⟨[], []⟩) (TL.ret (R' := ⟨[], []⟩) Try.results7 (.cons (.tmp rfl) .nil) (subD 0 6 rfl rfl) ⟨congrArg ret7 (Option.some.inj h), rfl⟩)))
     replace h := ie h hb112
     exact TC.skip (TE.blockN (TE.thenN rfl rfl (TC.region (TO.u rfl rfl (TX.move rfl rfl (TO.u rfl rfl (TX.ibin rfl rfl rfl rfl (TO.u rfl rfl (TX.assign rfl rfl (TO.nil (TE.to (L' := [(0, .slice sp_0 n_0 cap_0), (9, .slice sp23 (((([] : List Instr) ++ p0) ++ p1).length) cap24), (15, .slice sp80 n81 cap82), (16, .slice sp88 n89 cap90), (17, .int .i64 (IntKind.i64.wrap (x100 + 1)))]) (E' := []) (S' := [Hs92, Hs84, Hs50, Hs42, Hs34, Hs25]) 0 0 ⟨rfl, rfl, rfl, rfl, rfl, trivial⟩ rfl rfl (ih106 (IntKind.i64.wrap (x100 + 1)) _ _ ⟨rfl, rfl⟩ h))))))))))))
   replace h := ie h hb108
   exact TC.exit (TE.thenX (TE.loopX (TE.to (L' := [(0, .slice sp_0 n_0 cap_0), (9, .slice sp23 (((([] : List Instr) ++ p0) ++ p1).length) cap24), (15, .slice sp80 n81 cap82)]) (E' := []) (S' := [Hs92, Hs84, Hs50, Hs42, Hs34, Hs25]) 0 0 ⟨rfl, rfl, rfl, trivial⟩ rfl rfl (TE.cutE ⟨Option.some.inj h, rfl, rfl⟩))))
 rintro _ _ ⟨rfl, rfl, rfl⟩
 replace h := (fn7_k2_s F p0 p1 v79 ).symm.trans h
 refine TE.blockH (TE.thenN rfl rfl (TC.seq (TC.region (TO.u rfl rfl (TX.move rfl rfl (TO.u rfl rfl (TX.lenS (xs := v79) Try.runUnderlying41 rfl hn83 rfl (TO.u rfl rfl (TX.move rfl rfl (TO.u rfl rfl (TX.lenS (xs := (([] : List Instr) ++ p0) ++ p1) Try.runUnderlying24 rfl rfl rfl (TO.u rfl rfl (TX.ibin rfl rfl rfl rfl (TO.u rfl rfl (TX.move rfl rfl ?_)))))))))))))))
 obtain ⟨v113, hv113, h⟩ := bd h
 obtain ⟨v114, hv114, h⟩ := bd h
 refine TO.cutS 6 [(142, .bool (((v79.length : Int) == (((([] : List Instr) ++ p0) ++ p1).length : Int)) && (v113 == v114)))] ?_ ?_
 · cases hc115 : ((v79.length : Int) == (((([] : List Instr) ++ p0) ++ p1).length : Int))
   · exact TO.s rfl rfl rfl rfl rfl rfl (TO.s rfl rfl rfl rfl rfl rfl (TO.s rfl rfl rfl rfl rfl rfl (TO.s rfl rfl rfl rfl rfl rfl (TO.s rfl rfl rfl rfl rfl rfl (TO.u rfl rfl (TX.pickF rfl rfl rfl (TO.nil (TE.cutS 6 rfl rfl ⟨rfl, trivial⟩))))))))
   exact TO.g rfl rfl rfl rfl (TX.move rfl rfl (TO.g rfl rfl rfl rfl (TX.callP Try.call23 rfl (fun a w s => c23 F _ _ _ ((([] : List Instr) ++ p0) ++ p1) _ _ rfl ho27.le_cap (ho27.rdf0 s (i := 5) rfl) (it hv113 hc115)) rfl (TO.g rfl rfl rfl rfl (TX.move rfl rfl (TO.g rfl rfl rfl rfl (TX.callP Try.call23 rfl (fun a w s => c23 F _ _ _ p0 _ _ qn0 qc0 (qp0.tr s.extB0) (it hv114 hc115)) rfl (TO.g rfl rfl rfl rfl (TX.beq Try.runUnderlying4 rfl rfl rfl (TO.u rfl rfl (TX.pickT rfl rfl rfl (TO.nil (TE.cutS 6 rfl rfl ⟨rfl, trivial⟩)))))))))))))
 exact TO.u rfl rfl (TX.assign rfl rfl (TO.nil (TE.thenN rfl rfl (TC.ret (TE.fin (R := ⟨[], []⟩) (TL.ret (R' := ⟨[], []⟩) Try.results7 (.cons (.tmp rfl) .nil) (subD 0 6 rfl rfl) ⟨congrArg ret7 (Option.some.inj h), rfl⟩))))))
/-- hatchway/hatchwayref03.Wide -/
def fn71 (p0 : Instr) : Bool :=
  (p0.fOp == 24)
def ret71 (r : Bool) : Value := .bool r
theorem c71 (p0 : Instr) (w : World) (r : Bool)  (h : fn71 p0 = r) : Ret Try.prog 71 [.agg #[.int .u8 p0.fOp, .int .u8 p0.fDst, .int .u8 p0.fSrc, .int .i16 p0.fOff, .int .i32 p0.fImm]] w ⟨[], []⟩ (fun v R => v = ret71 r ∧ R = ⟨[], []⟩) := by
 unfold fn71 at h
 exact Ret.of_body Try.func71 rfl Try.ntmps71 rfl (fun _ hx => absurd hx List.not_mem_nil) List.nodup_nil (TC.seq (TC.region (TO.u rfl rfl (TX.box rfl rfl rfl (fun b1 => (TO.u rfl rfl (TX.assign rfl rfl (TO.nil (TE.thenN rfl rfl (TC.seq (TC.region (TO.u rfl rfl (TX.fieldAddr' Try.runUnderlying27 rfl Try.sizeOf5 rfl rfl rfl (TO.u rfl rfl (TX.load1 (i := 0) Try.isAgg5 rfl rfl rfl rfl (TO.u rfl rfl (TX.ibin rfl rfl rfl rfl (TO.u rfl rfl (TX.assign rfl rfl (TO.nil (TE.thenN rfl rfl (TC.ret (TE.fin (R := ⟨[], []⟩) (TL.ret (R' := ⟨[], []⟩) Try.results71 (.cons (.tmp rfl) .nil) (subD 1 0 rfl rfl) ⟨congrArg ret71 h, rfl⟩))))))))))))))))))))))))
def fn43_l1 (p0 : List Instr) : Nat → (List Bool) → Int → Option ((List Bool))
  | 0, _, _ => none
  | n41 + 1, x28, x32 => (bif decide (x32 < (p0.length : Int)) then (bif inb x32 x28.length then (bif inb x32 p0.length then (bindP (fn71 (gt p0 x32)) fun v50 => (bif v50 then ((fn43_l1 p0 n41) (x28.set x32.toNat true) (IntKind.i64.wrap ((IntKind.i64.wrap (x32 + 1)) + 1))) else ((fn43_l1 p0 n41) (x28.set x32.toNat true) (IntKind.i64.wrap (x32 + 1))))) else none) else none) else (some x28))
theorem fn43_l1_s (p0 : List Instr) (n41 : Nat) (x28 : List Bool) (x32 : Int) : fn43_l1 p0 (n41 + 1) x28 x32 = (bif decide (x32 < (p0.length : Int)) then (bif inb x32 x28.length then (bif inb x32 p0.length then (bindP (fn71 (gt p0 x32)) fun v50 => (bif v50 then ((fn43_l1 p0 n41) (x28.set x32.toNat true) (IntKind.i64.wrap ((IntKind.i64.wrap (x32 + 1)) + 1))) else ((fn43_l1 p0 n41) (x28.set x32.toNat true) (IntKind.i64.wrap (x32 + 1))))) else none) else none) else (some x28)) := rfl
def fn43_k1 (x34 : List Bool) : Option ((List Bool)) :=
  (some x34)
theorem fn43_k1_s (x34 : List Bool) : fn43_k1 x34 = (some x34) := rfl
/-- hatchway/hatchwayref03.Firsts -/
def fn43 (F : Nat) (p0 : List Instr) : Option ((List Bool)) :=
  (bif decide (0 ≤ (p0.length : Int)) && decide ((p0.length : Int) ≤ (p0.length : Int)) && decide ((1 : Int) * (p0.length : Int) ≤ 281474976710656) && decide ((p0.length : Int) ≤ 9223372036854775807) then (Option.bind (fn43_l1 p0 F (List.replicate (p0.length : Int).toNat false) 0) fun o38 => (fn43_k1 o38)) else none)
def post43 (r : (List Bool)) (v : Value) (R : Hp) : Prop := ∃ sp n cap Hs, v = .slice sp n cap ∧ r.length = n ∧ R = ⟨[], [Hs]⟩ ∧ OwnL En.bool 4 sp cap r Hs
theorem c43 (F : Nat) (sp_0 : Option Addr) (n_0 cap_0 : Nat) (p0 : List Instr) (w : World) (r : (List Bool)) (qn0 : p0.length = n_0) (qc0 : p0.length ≤ cap_0) (qp0 : RdF Instr.E w [] sp_0 p0) (h : fn43 F p0 = some r) : Ret Try.prog 43 [.slice sp_0 n_0 cap_0] w ⟨[], []⟩ (post43 r) := by
 unfold fn43 at h
 refine Ret.of_body Try.func43 rfl Try.ntmps43 rfl (fun _ hx => absurd hx List.not_mem_nil) List.nodup_nil (TC.seq (TC.region (TO.u rfl rfl (TX.assign rfl rfl (TO.nil (TE.thenN rfl rfl (TC.seq (TC.region (TO.u rfl rfl (TX.move rfl rfl (TO.u rfl rfl (TX.lenS (xs := p0) Try.runUnderlying24 rfl qn0 rfl ?_))))))))))))
 obtain ⟨hk1, h⟩ := ck h
 refine TO.u rfl rfl (TX.makeS (N := En.bool) (z := false) Try.runUnderlying41 Try.typeInfo4 rfl rfl rfl rfl rfl rfl hk1 rfl (fun sp2 Hs4 ho5 => (TO.u rfl rfl (TX.assign rfl rfl (TO.nil (TE.thenN rfl rfl (TC.seq (TC.seq (TC.region (TO.u rfl rfl (TX.assign rfl rfl (TO.nil (TE.thenN rfl rfl (TC.block ?_))))))))))))))
 obtain ⟨o38, hl39, h⟩ := bd h
 refine TC.to (L' := [(0, .slice sp_0 n_0 cap_0), (3, .slice sp2 ((p0.length : Int).toNat) ((p0.length : Int).toNat)), (4, .int .i64 0)]) (E' := []) (S' := [Hs4]) 0 0 ⟨rfl, rfl, rfl, trivial⟩ rfl rfl (TC.cutE 0 (fun L' H' => ∃ x34 : List Bool, x34 = o38 ∧ ∃ Hs36, OwnL En.bool 4 sp2 ((p0.length : Int).toNat) x34 Hs36 ∧ x34.length = ((p0.length : Int).toNat) ∧ L' = [(3, .slice sp2 ((p0.length : Int).toNat) ((p0.length : Int).toNat))] ∧ H' = ⟨[], [Hs36]⟩) ?_ ?_)
 · have h043 := h
   clear h
   refine TC.loop (fun (n : Nat) (s : (List Bool) × Int) => fn43_l1 p0 n s.1 s.2) o38 (fun _ => rfl) (fun (s : (List Bool) × Int) L' H' => match s with | (x28, x32) => ∃ Hs30, OwnL En.bool 4 sp2 ((p0.length : Int).toNat) x28 Hs30 ∧ x28.length = ((p0.length : Int).toNat) ∧ L' = [(0, .slice sp_0 n_0 cap_0), (3, .slice sp2 ((p0.length : Int).toNat) ((p0.length : Int).toNat)), (4, .int .i64 x32)] ∧ H' = ⟨[], [Hs30]⟩) ?_ F (List.replicate (p0.length : Int).toNat false, 0) ⟨Hs4, ho5, List.length_replicate, rfl, rfl⟩ hl39
   clear hl39
   rintro K40 n41 ⟨x28, x32⟩ _ _ ⟨Hs30, ho31, hn29, rfl, rfl⟩ h ih42
   replace h := (fn43_l1_s p0 n41 x28 x32).symm.trans h
   refine TC.seq (TC.seq (TC.region (TO.u rfl rfl (TX.move rfl rfl (TO.u rfl rfl (TX.move rfl rfl (TO.u rfl rfl (TX.lenS (xs := p0) Try.runUnderlying24 rfl qn0 rfl (TO.u rfl rfl (TX.ibin rfl rfl rfl rfl (TO.nil (TE.thenN rfl rfl (TC.cond rfl (fun hb44 => ?_) (fun hb44 => ?_))))))))))))))
   · replace h := it h hb44
     refine TC.skip (TE.thenN rfl rfl (TC.seq (TC.block (TC.seq (TC.region (TO.u rfl rfl (TX.move rfl rfl (TO.u rfl rfl (TX.move rfl rfl ?_)))))))))
     obtain ⟨hk45, h⟩ := ck h
     refine TO.u rfl rfl (TX.indexR (N := En.bool) Try.runUnderlying41 Try.sizeOf4 rfl hn29 rfl (fun a w s => ho31.rd s (i := 0) rfl) hk45 rfl (TO.u rfl rfl (TX.storeS (N := En.bool) (si := 0) (u := true) Try.sizeOf4 rfl rfl rfl rfl rfl rfl ho31 hk45 rfl (fun Hs46 _ S47 ho48 => ?_))))
     cases S47
     refine TO.nil (TE.thenN rfl rfl (TC.seq (TC.region (TO.u rfl rfl (TX.move rfl rfl (TO.u rfl rfl (TX.move rfl rfl ?_)))))))
     obtain ⟨hk49, h⟩ := ck h
     refine TO.u rfl rfl (TX.indexR (N := Instr.E) Try.runUnderlying24 Try.sizeOf27 rfl qn0 rfl (fun a w s => qp0 w s.ext) hk49 rfl (TO.u rfl rfl (TX.loadRN (N := Instr.E) Try.isAgg27 Try.sizeOf27 rfl (fun a w s => qp0 w s.ext) hk49 rfl rfl ?_)))
     obtain ⟨v50, hv50, h⟩ := bp h
     refine TO.u rfl rfl (TX.callP Try.call71 rfl (fun a w s => c71 (gt p0 x32) _ _  hv50) rfl (TO.nil (TE.thenN rfl rfl (TC.cond rfl (fun hb51 => ?_) (fun hb51 => ?_)))))
     · replace h := it h hb51
       exact TC.region (TO.u rfl rfl (TX.move rfl rfl (TO.u rfl rfl (TX.ibin rfl rfl rfl rfl (TO.u rfl rfl (TX.assign rfl rfl (TO.nil (TE.blockN (TE.thenN rfl rfl (TC.region (TO.u rfl rfl (TX.move rfl rfl (TO.u rfl rfl (TX.ibin rfl rfl rfl rfl (TO.u rfl rfl (TX.assign rfl rfl (TO.nil (TE.to (L' := [(0, .slice sp_0 n_0 cap_0), (3, .slice sp2 ((p0.length : Int).toNat) ((p0.length : Int).toNat)), (4, .int .i64 (IntKind.i64.wrap ((IntKind.i64.wrap (x32 + 1)) + 1)))]) (E' := []) (S' := [Hs46]) 0 0 ⟨rfl, rfl, rfl, trivial⟩ rfl rfl (ih42 (x28.set x32.toNat true, IntKind.i64.wrap ((IntKind.i64.wrap (x32 + 1)) + 1)) _ _ ⟨Hs46, ho48, (List.length_set.trans hn29), rfl, rfl⟩ h)))))))))))))))))))
     replace h := ie h hb51
     exact TC.skip (TE.blockN (TE.thenN rfl rfl (TC.region (TO.u rfl rfl (TX.move rfl rfl (TO.u rfl rfl (TX.ibin rfl rfl rfl rfl (TO.u rfl rfl (TX.assign rfl rfl (TO.nil (TE.to (L' := [(0, .slice sp_0 n_0 cap_0), (3, .slice sp2 ((p0.length : Int).toNat) ((p0.length : Int).toNat)), (4, .int .i64 (IntKind.i64.wrap (x32 + 1)))]) (E' := []) (S' := [Hs46]) 0 0 ⟨rfl, rfl, rfl, trivial⟩ rfl rfl (ih42 (x28.set x32.toNat true, IntKind.i64.wrap (x32 + 1)) _ _ ⟨Hs46, ho48, (List.length_set.trans hn29), rfl, rfl⟩ h))))))))))))
   replace h := ie h hb44
   exact TC.exit (TE.thenX (TE.loopX (TE.to (L' := [(3, .slice sp2 ((p0.length : Int).toNat) ((p0.length : Int).toNat))]) (E' := []) (S' := [Hs30]) 0 0 ⟨rfl, trivial⟩ rfl rfl (TE.cutE ⟨x28, Option.some.inj h, Hs30, ho31, hn29, rfl, rfl⟩))))
 rintro _ _ ⟨x34, rfl, Hs36, ho37, hn35, rfl, rfl⟩
 replace h := (fn43_k1_s x34).symm.trans h
 refine TE.blockH (TE.thenN rfl rfl (TC.seq (TC.region (TO.u rfl rfl (TX.move rfl rfl (TO.u rfl rfl (TX.assign rfl rfl (TO.nil (TE.thenN rfl rfl (TC.ret ?_))))))))))
 have hr := (Option.some.inj h)
 subst hr
 exact TE.fin (R := ⟨[], []⟩) (TL.ret (R' := ⟨[], [Hs36]⟩) Try.results43 (.cons (.tmp rfl) .nil) (segSub (i := 0) rfl) ⟨sp2, ((p0.length : Int).toNat), ((p0.length : Int).toNat), Hs36, rfl, hn35, rfl, ho37⟩)
/-- hatchway/hatchwayref03.Op -/
def fn55 (p0 : Instr) : Int :=
  (iand .u8 p0.fOp 240)
def ret55 (r : Int) : Value := .int .u8 r
theorem c55 (p0 : Instr) (w : World) (r : Int)  (h : fn55 p0 = r) : Ret Try.prog 55 [.agg #[.int .u8 p0.fOp, .int .u8 p0.fDst, .int .u8 p0.fSrc, .int .i16 p0.fOff, .int .i32 p0.fImm]] w ⟨[], []⟩ (fun v R => v = ret55 r ∧ R = ⟨[], []⟩) := by
 unfold fn55 at h
 exact Ret.of_body Try.func55 rfl Try.ntmps55 rfl (fun _ hx => absurd hx List.not_mem_nil) List.nodup_nil (TC.seq (TC.region (TO.u rfl rfl (TX.box rfl rfl rfl (fun b1 => (TO.u rfl rfl (TX.assign rfl rfl (TO.nil (TE.thenN rfl rfl (TC.seq (TC.region (TO.u rfl rfl (TX.fieldAddr' Try.runUnderlying27 rfl Try.sizeOf5 rfl rfl rfl (TO.u rfl rfl (TX.load1 (i := 0) Try.isAgg5 rfl rfl rfl rfl (TO.u rfl rfl (TX.ibin rfl rfl rfl rfl (TO.u rfl rfl (TX.assign rfl rfl (TO.nil (TE.thenN rfl rfl (TC.ret (TE.fin (R := ⟨[], []⟩) (TL.ret (R' := ⟨[], []⟩) Try.results55 (.cons (.tmp rfl) .nil) (subD 1 0 rfl rfl) ⟨congrArg ret55 h, rfl⟩))))))))))))))))))))))))
/-- hatchway/hatchwayref03.Class -/
def fn54 (p0 : Instr) : Int :=
  (iand .u8 p0.fOp 7)
def ret54 (r : Int) : Value := .int .u8 r
theorem c54 (p0 : Instr) (w : World) (r : Int)  (h : fn54 p0 = r) : Ret Try.prog 54 [.agg #[.int .u8 p0.fOp, .int .u8 p0.fDst, .int .u8 p0.fSrc, .int .i16 p0.fOff, .int .i32 p0.fImm]] w ⟨[], []⟩ (fun v R => v = ret54 r ∧ R = ⟨[], []⟩) := by
 unfold fn54 at h
 exact Ret.of_body Try.func54 rfl Try.ntmps54 rfl (fun _ hx => absurd hx List.not_mem_nil) List.nodup_nil (TC.seq (TC.region (TO.u rfl rfl (TX.box rfl rfl rfl (fun b1 => (TO.u rfl rfl (TX.assign rfl rfl (TO.nil (TE.thenN rfl rfl (TC.seq (TC.region (TO.u rfl rfl (TX.fieldAddr' Try.runUnderlying27 rfl Try.sizeOf5 rfl rfl rfl (TO.u rfl rfl (TX.load1 (i := 0) Try.isAgg5 rfl rfl rfl rfl (TO.u rfl rfl (TX.ibin rfl rfl rfl rfl (TO.u rfl rfl (TX.assign rfl rfl (TO.nil (TE.thenN rfl rfl (TC.ret (TE.fin (R := ⟨[], []⟩) (TL.ret (R' := ⟨[], []⟩) Try.results54 (.cons (.tmp rfl) .nil) (subD 1 0 rfl rfl) ⟨congrArg ret54 h, rfl⟩))))))))))))))))))))))))
/-- hatchway/hatchwayref03.memory -/
def fn85 (p0 : Int) (p1 : Bool) : Bool :=
  (((iand .u8 p0 224) == 96) || (p1 && (((iand .u8 p0 224) == 128) && ((iand .u8 p0 24) != 24))))
def ret85 (r : Bool) : Value := .bool r
theorem c85 (p0 : Int) (p1 : Bool) (w : World) (r : Bool)  (h : fn85 p0 p1 = r) : Ret Try.prog 85 [.int .u8 p0, .bool p1] w ⟨[], []⟩ (fun v R => v = ret85 r ∧ R = ⟨[], []⟩) := by
 unfold fn85 at h
 refine Ret.of_body Try.func85 rfl Try.ntmps85 rfl (fun _ hx => absurd hx List.not_mem_nil) List.nodup_nil (TC.seq (TC.region (TO.u rfl rfl (TX.assign rfl rfl (TO.nil (TE.thenN rfl rfl (TC.seq (TC.region (TO.u rfl rfl (TX.move rfl rfl (TO.u rfl rfl (TX.ibin rfl rfl rfl rfl (TO.u rfl rfl (TX.move rfl rfl (TO.u rfl rfl (TX.ibin rfl rfl rfl rfl (TO.u rfl rfl (TX.assign rfl rfl (TO.u rfl rfl (TX.assign rfl rfl (TO.nil (TE.thenN rfl rfl (TC.seq (TC.region (TO.u rfl rfl (TX.move rfl rfl (TO.u rfl rfl (TX.ibin rfl rfl rfl rfl (TO.u rfl rfl (TX.move rfl rfl (TO.cutS 10 [(23, .bool (((iand .u8 p0 224) == 96) || (p1 && (((iand .u8 p0 224) == 128) && ((iand .u8 p0 24) != 24)))))] ?_ ?_)))))))))))))))))))))))))))))))
 · cases hc1 : ((iand .u8 p0 224) == 96)
   · refine TO.g rfl rfl rfl rfl (TX.move rfl rfl (TO.g rfl rfl rfl rfl (TX.move rfl rfl ?_)))
     cases hc2 : (p1)
     · exact TO.s rfl rfl rfl rfl rfl rfl (TO.s rfl rfl rfl rfl rfl rfl (TO.g rfl rfl rfl rfl (TX.pickF rfl rfl rfl (TO.g rfl rfl rfl rfl (TX.move rfl rfl (TO.s rfl rfl rfl rfl rfl rfl (TO.s rfl rfl rfl rfl rfl rfl (TO.g rfl rfl rfl rfl (TX.pickF rfl rfl rfl (TO.u rfl rfl (TX.pickF rfl rfl rfl (TO.nil (TE.cutS 10 rfl rfl ⟨rfl, trivial⟩)))))))))))))
     refine TO.g rfl rfl rfl rfl (TX.move rfl rfl (TO.g rfl rfl rfl rfl (TX.ibin rfl rfl rfl rfl (TO.g rfl rfl rfl rfl (TX.pickT rfl rfl rfl (TO.g rfl rfl rfl rfl (TX.move rfl rfl ?_)))))))
     cases hc3 : ((iand .u8 p0 224) == 128)
     · exact TO.s rfl rfl rfl rfl rfl rfl (TO.s rfl rfl rfl rfl rfl rfl (TO.g rfl rfl rfl rfl (TX.pickF rfl rfl rfl (TO.u rfl rfl (TX.pickF rfl rfl rfl (TO.nil (TE.cutS 10 rfl rfl ⟨rfl, trivial⟩)))))))
     exact TO.g rfl rfl rfl rfl (TX.move rfl rfl (TO.g rfl rfl rfl rfl (TX.ibin rfl rfl rfl rfl (TO.g rfl rfl rfl rfl (TX.pickT rfl rfl rfl (TO.u rfl rfl (TX.pickF rfl rfl rfl (TO.nil (TE.cutS 10 rfl rfl ⟨rfl, trivial⟩)))))))))
   exact TO.s rfl rfl rfl rfl rfl rfl (TO.s rfl rfl rfl rfl rfl rfl (TO.su rfl rfl rfl rfl rfl (TO.su rfl rfl rfl rfl rfl (TO.s rfl rfl rfl rfl rfl rfl (TO.s rfl rfl rfl rfl rfl rfl (TO.su rfl rfl rfl rfl rfl (TO.su rfl rfl rfl rfl rfl (TO.s rfl rfl rfl rfl rfl rfl (TO.u rfl rfl (TX.pickT rfl rfl rfl (TO.nil (TE.cutS 10 rfl rfl ⟨rfl, trivial⟩))))))))))))
 exact TO.u rfl rfl (TX.assign rfl rfl (TO.nil (TE.thenN rfl rfl (TC.ret (TE.fin (R := ⟨[], []⟩) (TL.ret (R' := ⟨[], []⟩) Try.results85 (.cons (.tmp rfl) .nil) (subD 0 0 rfl rfl) ⟨congrArg ret85 h, rfl⟩))))))
/-- hatchway/hatchwayref03.Reg -/
def fn86 (p0 : Instr) : Bool :=
  ((iand .u8 p0.fOp 8) != 0)
def ret86 (r : Bool) : Value := .bool r
theorem c86 (p0 : Instr) (w : World) (r : Bool)  (h : fn86 p0 = r) : Ret Try.prog 86 [.agg #[.int .u8 p0.fOp, .int .u8 p0.fDst, .int .u8 p0.fSrc, .int .i16 p0.fOff, .int .i32 p0.fImm]] w ⟨[], []⟩ (fun v R => v = ret86 r ∧ R = ⟨[], []⟩) := by
 unfold fn86 at h
 exact Ret.of_body Try.func86 rfl Try.ntmps86 rfl (fun _ hx => absurd hx List.not_mem_nil) List.nodup_nil (TC.seq (TC.region (TO.u rfl rfl (TX.box rfl rfl rfl (fun b1 => (TO.u rfl rfl (TX.assign rfl rfl (TO.nil (TE.thenN rfl rfl (TC.seq (TC.region (TO.u rfl rfl (TX.fieldAddr' Try.runUnderlying27 rfl Try.sizeOf5 rfl rfl rfl (TO.u rfl rfl (TX.load1 (i := 0) Try.isAgg5 rfl rfl rfl rfl (TO.u rfl rfl (TX.ibin rfl rfl rfl rfl (TO.u rfl rfl (TX.ibin rfl rfl rfl rfl (TO.u rfl rfl (TX.assign rfl rfl (TO.nil (TE.thenN rfl rfl (TC.ret (TE.fin (R := ⟨[], []⟩) (TL.ret (R' := ⟨[], []⟩) Try.results86 (.cons (.tmp rfl) .nil) (subD 1 0 rfl rfl) ⟨congrArg ret86 h, rfl⟩))))))))))))))))))))))))))
/-- hatchway/hatchwayref03.Condition -/
def fn87 (p0 : Int) : Bool :=
  (((decide ((16 : Int) ≤ p0)) && (decide (p0 ≤ 112))) || ((decide ((160 : Int) ≤ p0)) && (decide (p0 ≤ 208))))
def ret87 (r : Bool) : Value := .bool r
theorem c87 (p0 : Int) (w : World) (r : Bool)  (h : fn87 p0 = r) : Ret Try.prog 87 [.int .u8 p0] w ⟨[], []⟩ (fun v R => v = ret87 r ∧ R = ⟨[], []⟩) := by
 unfold fn87 at h
 refine Ret.of_body Try.func87 rfl Try.ntmps87 rfl (fun _ hx => absurd hx List.not_mem_nil) List.nodup_nil (TC.seq (TC.region (TO.u rfl rfl (TX.assign rfl rfl (TO.nil (TE.thenN rfl rfl (TC.seq (TC.region (TO.u rfl rfl (TX.move rfl rfl (TO.u rfl rfl (TX.ibin rfl rfl rfl rfl (TO.u rfl rfl (TX.move rfl rfl (TO.cutS 3 [(8, .bool ((decide ((16 : Int) ≤ p0)) && (decide (p0 ≤ 112))))] ?_ ?_)))))))))))))))
 · cases hc1 : (decide ((16 : Int) ≤ p0))
   · exact TO.s rfl rfl rfl rfl rfl rfl (TO.s rfl rfl rfl rfl rfl rfl (TO.u rfl rfl (TX.pickF rfl rfl rfl (TO.nil (TE.cutS 3 rfl rfl ⟨rfl, trivial⟩)))))
   exact TO.g rfl rfl rfl rfl (TX.move rfl rfl (TO.g rfl rfl rfl rfl (TX.ibin rfl rfl rfl rfl (TO.u rfl rfl (TX.pickT rfl rfl rfl (TO.nil (TE.cutS 3 rfl rfl ⟨rfl, trivial⟩)))))))
 refine TO.u rfl rfl (TX.move rfl rfl (TO.cutS 7 [(16, .bool (((decide ((16 : Int) ≤ p0)) && (decide (p0 ≤ 112))) || ((decide ((160 : Int) ≤ p0)) && (decide (p0 ≤ 208)))))] ?_ ?_))
 · cases hc2 : ((decide ((16 : Int) ≤ p0)) && (decide (p0 ≤ 112)))
   · refine TO.g rfl rfl rfl rfl (TX.move rfl rfl (TO.g rfl rfl rfl rfl (TX.ibin rfl rfl rfl rfl (TO.g rfl rfl rfl rfl (TX.move rfl rfl ?_)))))
     cases hc3 : (decide ((160 : Int) ≤ p0))
     · exact TO.s rfl rfl rfl rfl rfl rfl (TO.s rfl rfl rfl rfl rfl rfl (TO.g rfl rfl rfl rfl (TX.pickF rfl rfl rfl (TO.u rfl rfl (TX.pickF rfl rfl rfl (TO.nil (TE.cutS 7 rfl rfl ⟨rfl, trivial⟩)))))))
     exact TO.g rfl rfl rfl rfl (TX.move rfl rfl (TO.g rfl rfl rfl rfl (TX.ibin rfl rfl rfl rfl (TO.g rfl rfl rfl rfl (TX.pickT rfl rfl rfl (TO.u rfl rfl (TX.pickF rfl rfl rfl (TO.nil (TE.cutS 7 rfl rfl ⟨rfl, trivial⟩)))))))))
   exact TO.s rfl rfl rfl rfl rfl rfl (TO.s rfl rfl rfl rfl rfl rfl (TO.s rfl rfl rfl rfl rfl rfl (TO.su rfl rfl rfl rfl rfl (TO.su rfl rfl rfl rfl rfl (TO.s rfl rfl rfl rfl rfl rfl (TO.u rfl rfl (TX.pickT rfl rfl rfl (TO.nil (TE.cutS 7 rfl rfl ⟨rfl, trivial⟩)))))))))
 exact TO.u rfl rfl (TX.assign rfl rfl (TO.nil (TE.thenN rfl rfl (TC.ret (TE.fin (R := ⟨[], []⟩) (TL.ret (R' := ⟨[], []⟩) Try.results87 (.cons (.tmp rfl) .nil) (subD 0 0 rfl rfl) ⟨congrArg ret87 h, rfl⟩))))))
/-- hatchway/hatchwayref03.opcode -/
def fn76 (p0 : Instr) : Bool :=
  (bindP (fn55 p0) fun v2 => (bindP (fn54 p0) fun v3 => (bif v3 == 0 then (bindP (fn71 p0) fun v5 => v5) else (bif v3 == 1 then (bindP (fn85 p0.fOp true) fun v7 => v7) else (bif v3 == 2 then (bindP (fn85 p0.fOp false) fun v9 => v9) else (bif v3 == 3 then (bindP (fn85 p0.fOp false) fun v11 => v11) else (bif v3 == 4 then (bif v2 == 128 then (bindP (fn86 p0) fun v14 => (!v14)) else (bif v2 == 208 then (bindP (fn86 p0) fun v16 => (bindP (fn54 p0) fun v17 => ((!v16) || (v17 == 4)))) else (decide (v2 < 208)))) else (bif v3 == 7 then (bif v2 == 128 then (bindP (fn86 p0) fun v21 => (!v21)) else (bif v2 == 208 then (bindP (fn86 p0) fun v23 => (bindP (fn54 p0) fun v24 => ((!v23) || (v24 == 4)))) else (decide (v2 < 208)))) else (bif v3 == 5 then (bindP (fn87 v2) fun v27 => (bindP (fn86 p0) fun v28 => (v27 || (bif v2 == 0 then !v28 else bif v2 == 128 then !v28 else (v2 == 144) && (!v28))))) else (bindP (fn87 v2) fun v33 => (bindP (fn86 p0) fun v34 => (v33 || ((v2 == 0) && (!v34))))))))))))))
def ret76 (r : Bool) : Value := .bool r
set_option maxHeartbeats 8000000 in
theorem c76 (p0 : Instr) (w : World) (r : Bool)  (h : fn76 p0 = r) : Ret Try.prog 76 [.agg #[.int .u8 p0.fOp, .int .u8 p0.fDst, .int .u8 p0.fSrc, .int .i16 p0.fOff, .int .i32 p0.fImm]] w ⟨[], []⟩ (fun v R => v = ret76 r ∧ R = ⟨[], []⟩) := by
 unfold fn76 at h
 refine Ret.of_body Try.func76 rfl Try.ntmps76 rfl (fun _ hx => absurd hx List.not_mem_nil) List.nodup_nil (TC.seq (TC.region (TO.u rfl rfl (TX.box rfl rfl rfl (fun b1 => (TO.u rfl rfl (TX.assign rfl rfl (TO.nil (TE.thenN rfl rfl (TC.seq (TC.region (TO.u rfl rfl (TX.loadN (i := 0) Try.isAgg27 Try.sizeOf27 rfl rfl rfl rfl ?_)))))))))))))
 obtain ⟨v2, hv2, h⟩ := bp h
 refine TO.u rfl rfl (TX.callP Try.call55 rfl (fun a w s => c55 p0 _ _  hv2) rfl (TO.u rfl rfl (TX.assign rfl rfl (TO.nil (TE.thenN rfl rfl (TC.seq (TC.seq (TC.region (TO.u rfl rfl (TX.loadN (i := 0) Try.isAgg27 Try.sizeOf27 rfl rfl rfl rfl ?_))))))))))
 obtain ⟨v3, hv3, h⟩ := bp h
 refine TO.u rfl rfl (TX.callP Try.call54 rfl (fun a w s => c54 p0 _ _  hv3) rfl (TO.nil (TE.thenN rfl rfl (TC.block (TC.seq (TC.region (TO.u rfl rfl (TX.ibin rfl rfl rfl rfl (TO.u rfl rfl (TX.assign rfl rfl (TO.nil (TE.thenN rfl rfl (TC.cond rfl (fun hb4 => ?_) (fun hb4 => ?_))))))))))))))
 · replace h := it h hb4
   refine TC.seq (TC.region (TO.u rfl rfl (TX.loadN (i := 0) Try.isAgg27 Try.sizeOf27 rfl rfl rfl rfl ?_)))
   obtain ⟨v5, hv5, h⟩ := bp h
   exact TO.u rfl rfl (TX.callP Try.call71 rfl (fun a w s => c71 p0 _ _  hv5) rfl (TO.u rfl rfl (TX.assign rfl rfl (TO.nil (TE.thenN rfl rfl (TC.ret (TE.blockR (TE.thenR (TE.fin (R := ⟨[], []⟩) (TL.ret (R' := ⟨[], []⟩) Try.results76 (.cons (.tmp rfl) .nil) (subD 1 0 rfl rfl) ⟨congrArg ret76 h, rfl⟩))))))))))
 replace h := ie h hb4
 refine TC.seq (TC.region (TO.u rfl rfl (TX.ibin rfl rfl rfl rfl (TO.u rfl rfl (TX.assign rfl rfl (TO.nil (TE.thenN rfl rfl (TC.cond rfl (fun hb6 => ?_) (fun hb6 => ?_)))))))))
 · replace h := it h hb6
   refine TC.seq (TC.region (TO.u rfl rfl (TX.fieldAddr' Try.runUnderlying27 rfl Try.sizeOf5 rfl rfl rfl (TO.u rfl rfl (TX.load1 (i := 0) Try.isAgg5 rfl rfl rfl rfl ?_)))))
   obtain ⟨v7, hv7, h⟩ := bp h
   exact TO.u rfl rfl (TX.callP Try.call85 rfl (fun a w s => c85 p0.fOp true _ _  hv7) rfl (TO.u rfl rfl (TX.assign rfl rfl (TO.nil (TE.thenN rfl rfl (TC.ret (TE.blockR (TE.thenR (TE.fin (R := ⟨[], []⟩) (TL.ret (R' := ⟨[], []⟩) Try.results76 (.cons (.tmp rfl) .nil) (subD 1 0 rfl rfl) ⟨congrArg ret76 h, rfl⟩))))))))))
 replace h := ie h hb6
 refine TC.seq (TC.seq (TC.region (TO.u rfl rfl (TX.ibin rfl rfl rfl rfl (TO.u rfl rfl (TX.assign rfl rfl (TO.nil (TE.thenN rfl rfl (TC.cond rfl (fun hb8 => ?_) (fun hb8 => ?_))))))))))
 · replace h := it h hb8
   refine TC.skip (TE.thenN rfl rfl (TC.condT' rfl hb8 (TC.seq (TC.region (TO.u rfl rfl (TX.fieldAddr' Try.runUnderlying27 rfl Try.sizeOf5 rfl rfl rfl (TO.u rfl rfl (TX.load1 (i := 0) Try.isAgg5 rfl rfl rfl rfl ?_))))))))
   obtain ⟨v9, hv9, h⟩ := bp h
   exact TO.u rfl rfl (TX.callP Try.call85 rfl (fun a w s => c85 p0.fOp false _ _  hv9) rfl (TO.u rfl rfl (TX.assign rfl rfl (TO.nil (TE.thenN rfl rfl (TC.ret (TE.blockR (TE.thenR (TE.fin (R := ⟨[], []⟩) (TL.ret (R' := ⟨[], []⟩) Try.results76 (.cons (.tmp rfl) .nil) (subD 1 0 rfl rfl) ⟨congrArg ret76 h, rfl⟩))))))))))
 replace h := ie h hb8
 refine TC.region (TO.u rfl rfl (TX.ibin rfl rfl rfl rfl (TO.u rfl rfl (TX.assign rfl rfl (TO.nil (TE.thenN rfl rfl (TC.cond rfl (fun hb10 => ?_) (fun hb10 => ?_))))))))
 · replace h := it h hb10
   refine TC.seq (TC.region (TO.u rfl rfl (TX.fieldAddr' Try.runUnderlying27 rfl Try.sizeOf5 rfl rfl rfl (TO.u rfl rfl (TX.load1 (i := 0) Try.isAgg5 rfl rfl rfl rfl ?_)))))
   obtain ⟨v11, hv11, h⟩ := bp h
   exact TO.u rfl rfl (TX.callP Try.call85 rfl (fun a w s => c85 p0.fOp false _ _  hv11) rfl (TO.u rfl rfl (TX.assign rfl rfl (TO.nil (TE.thenN rfl rfl (TC.ret (TE.blockR (TE.thenR (TE.fin (R := ⟨[], []⟩) (TL.ret (R' := ⟨[], []⟩) Try.results76 (.cons (.tmp rfl) .nil) (subD 1 0 rfl rfl) ⟨congrArg ret76 h, rfl⟩))))))))))
 replace h := ie h hb10
 refine TC.seq (TC.seq (TC.region (TO.u rfl rfl (TX.ibin rfl rfl rfl rfl (TO.u rfl rfl (TX.assign rfl rfl (TO.nil (TE.thenN rfl rfl (TC.cond rfl (fun hb12 => ?_) (fun hb12 => ?_))))))))))
 · replace h := it h hb12
   refine TC.skip (TE.thenN rfl rfl (TC.condT' rfl hb12 (TC.seq (TC.seq (TC.region (TO.u rfl rfl (TX.move rfl rfl (TO.nil (TE.thenN rfl rfl (TC.block (TC.seq (TC.region (TO.u rfl rfl (TX.ibin rfl rfl rfl rfl (TO.u rfl rfl (TX.assign rfl rfl (TO.nil (TE.thenN rfl rfl (TC.cond rfl (fun hb13 => ?_) (fun hb13 => ?_))))))))))))))))))))
   · replace h := it h hb13
     refine TC.seq (TC.region (TO.u rfl rfl (TX.loadN (i := 0) Try.isAgg27 Try.sizeOf27 rfl rfl rfl rfl ?_)))
     obtain ⟨v14, hv14, h⟩ := bp h
     exact TO.u rfl rfl (TX.callP Try.call86 rfl (fun a w s => c86 p0 _ _  hv14) rfl (TO.u rfl rfl (TX.not rfl rfl (TO.u rfl rfl (TX.assign rfl rfl (TO.nil (TE.thenN rfl rfl (TC.ret (TE.blockR (TE.thenR (TE.blockR (TE.thenR (TE.fin (R := ⟨[], []⟩) (TL.ret (R' := ⟨[], []⟩) Try.results76 (.cons (.tmp rfl) .nil) (subD 1 0 rfl rfl) ⟨congrArg ret76 h, rfl⟩))))))))))))))
   replace h := ie h hb13
   refine TC.seq (TC.region (TO.u rfl rfl (TX.ibin rfl rfl rfl rfl (TO.u rfl rfl (TX.assign rfl rfl (TO.nil (TE.thenN rfl rfl (TC.cond rfl (fun hb15 => ?_) (fun hb15 => ?_)))))))))
   · replace h := it h hb15
     refine TC.seq (TC.region (TO.u rfl rfl (TX.loadN (i := 0) Try.isAgg27 Try.sizeOf27 rfl rfl rfl rfl ?_)))
     obtain ⟨v16, hv16, h⟩ := bp h
     refine TO.u rfl rfl (TX.callP Try.call86 rfl (fun a w s => c86 p0 _ _  hv16) rfl (TO.u rfl rfl (TX.not rfl rfl (TO.u rfl rfl (TX.move rfl rfl ?_)))))
     obtain ⟨v17, hv17, h⟩ := bp h
     refine TO.cutS 4 [(41, .bool ((!v16) || (v17 == 4)))] ?_ ?_
     · cases hc18 : (!v16)
       · exact TO.g rfl rfl rfl rfl (TX.loadN (i := 0) Try.isAgg27 Try.sizeOf27 rfl rfl rfl rfl (TO.g rfl rfl rfl rfl (TX.callP Try.call54 rfl (fun a w s => c54 p0 _ _  hv17) rfl (TO.g rfl rfl rfl rfl (TX.ibin rfl rfl rfl rfl (TO.u rfl rfl (TX.pickF rfl rfl rfl (TO.nil (TE.cutS 4 rfl rfl ⟨rfl, trivial⟩)))))))))
       exact TO.s rfl rfl rfl rfl rfl rfl (TO.s rfl rfl rfl rfl rfl rfl (TO.s rfl rfl rfl rfl rfl rfl (TO.u rfl rfl (TX.pickT rfl rfl rfl (TO.nil (TE.cutS 4 rfl rfl ⟨rfl, trivial⟩))))))
     exact TO.u rfl rfl (TX.assign rfl rfl (TO.nil (TE.thenN rfl rfl (TC.ret (TE.blockR (TE.thenR (TE.blockR (TE.thenR (TE.fin (R := ⟨[], []⟩) (TL.ret (R' := ⟨[], []⟩) Try.results76 (.cons (.tmp rfl) .nil) (subD 1 0 rfl rfl) ⟨congrArg ret76 h, rfl⟩))))))))))
   replace h := ie h hb15
   exact TC.skip (TE.blockN (TE.thenN rfl rfl (TC.seq (TC.region (TO.u rfl rfl (TX.move rfl rfl (TO.u rfl rfl (TX.ibin rfl rfl rfl rfl (TO.u rfl rfl (TX.assign rfl rfl (TO.nil (TE.thenN rfl rfl (TC.ret (TE.blockR (TE.thenR (TE.fin (R := ⟨[], []⟩) (TL.ret (R' := ⟨[], []⟩) Try.results76 (.cons (.tmp rfl) .nil) (subD 1 0 rfl rfl) ⟨congrArg ret76 h, rfl⟩)))))))))))))))))
 replace h := ie h hb12
 refine TC.region (TO.u rfl rfl (TX.ibin rfl rfl rfl rfl (TO.u rfl rfl (TX.assign rfl rfl (TO.nil (TE.thenN rfl rfl (TC.cond rfl (fun hb19 => ?_) (fun hb19 => ?_))))))))
 · replace h := it h hb19
   refine TC.seq (TC.seq (TC.region (TO.u rfl rfl (TX.move rfl rfl (TO.nil (TE.thenN rfl rfl (TC.block (TC.seq (TC.region (TO.u rfl rfl (TX.ibin rfl rfl rfl rfl (TO.u rfl rfl (TX.assign rfl rfl (TO.nil (TE.thenN rfl rfl (TC.cond rfl (fun hb20 => ?_) (fun hb20 => ?_)))))))))))))))))
   · replace h := it h hb20
     refine TC.seq (TC.region (TO.u rfl rfl (TX.loadN (i := 0) Try.isAgg27 Try.sizeOf27 rfl rfl rfl rfl ?_)))
     obtain ⟨v21, hv21, h⟩ := bp h
     exact TO.u rfl rfl (TX.callP Try.call86 rfl (fun a w s => c86 p0 _ _  hv21) rfl (TO.u rfl rfl (TX.not rfl rfl (TO.u rfl rfl (TX.assign rfl rfl (TO.nil (TE.thenN rfl rfl (TC.ret (TE.blockR (TE.thenR (TE.blockR (TE.thenR (TE.fin (R := ⟨[], []⟩) (TL.ret (R' := ⟨[], []⟩) Try.results76 (.cons (.tmp rfl) .nil) (subD 1 0 rfl rfl) ⟨congrArg ret76 h, rfl⟩))))))))))))))
   replace h := ie h hb20
   refine TC.seq (TC.region (TO.u rfl rfl (TX.ibin rfl rfl rfl rfl (TO.u rfl rfl (TX.assign rfl rfl (TO.nil (TE.thenN rfl rfl (TC.cond rfl (fun hb22 => ?_) (fun hb22 => ?_)))))))))
   · replace h := it h hb22
     refine TC.seq (TC.region (TO.u rfl rfl (TX.loadN (i := 0) Try.isAgg27 Try.sizeOf27 rfl rfl rfl rfl ?_)))
     obtain ⟨v23, hv23, h⟩ := bp h
     refine TO.u rfl rfl (TX.callP Try.call86 rfl (fun a w s => c86 p0 _ _  hv23) rfl (TO.u rfl rfl (TX.not rfl rfl (TO.u rfl rfl (TX.move rfl rfl ?_)))))
     obtain ⟨v24, hv24, h⟩ := bp h
     refine TO.cutS 4 [(41, .bool ((!v23) || (v24 == 4)))] ?_ ?_
     · cases hc25 : (!v23)
       · exact TO.g rfl rfl rfl rfl (TX.loadN (i := 0) Try.isAgg27 Try.sizeOf27 rfl rfl rfl rfl (TO.g rfl rfl rfl rfl (TX.callP Try.call54 rfl (fun a w s => c54 p0 _ _  hv24) rfl (TO.g rfl rfl rfl rfl (TX.ibin rfl rfl rfl rfl (TO.u rfl rfl (TX.pickF rfl rfl rfl (TO.nil (TE.cutS 4 rfl rfl ⟨rfl, trivial⟩)))))))))
       exact TO.s rfl rfl rfl rfl rfl rfl (TO.s rfl rfl rfl rfl rfl rfl (TO.s rfl rfl rfl rfl rfl rfl (TO.u rfl rfl (TX.pickT rfl rfl rfl (TO.nil (TE.cutS 4 rfl rfl ⟨rfl, trivial⟩))))))
     exact TO.u rfl rfl (TX.assign rfl rfl (TO.nil (TE.thenN rfl rfl (TC.ret (TE.blockR (TE.thenR (TE.blockR (TE.thenR (TE.fin (R := ⟨[], []⟩) (TL.ret (R' := ⟨[], []⟩) Try.results76 (.cons (.tmp rfl) .nil) (subD 1 0 rfl rfl) ⟨congrArg ret76 h, rfl⟩))))))))))
   replace h := ie h hb22
   exact TC.skip (TE.blockN (TE.thenN rfl rfl (TC.seq (TC.region (TO.u rfl rfl (TX.move rfl rfl (TO.u rfl rfl (TX.ibin rfl rfl rfl rfl (TO.u rfl rfl (TX.assign rfl rfl (TO.nil (TE.thenN rfl rfl (TC.ret (TE.blockR (TE.thenR (TE.fin (R := ⟨[], []⟩) (TL.ret (R' := ⟨[], []⟩) Try.results76 (.cons (.tmp rfl) .nil) (subD 1 0 rfl rfl) ⟨congrArg ret76 h, rfl⟩)))))))))))))))))
 replace h := ie h hb19
 refine TC.seq (TC.region (TO.u rfl rfl (TX.ibin rfl rfl rfl rfl (TO.u rfl rfl (TX.assign rfl rfl (TO.nil (TE.thenN rfl rfl (TC.cond rfl (fun hb26 => ?_) (fun hb26 => ?_)))))))))
 · replace h := it h hb26
   refine TC.seq (TC.region (TO.u rfl rfl (TX.move rfl rfl ?_)))
   obtain ⟨v27, hv27, h⟩ := bp h
   refine TO.u rfl rfl (TX.callP Try.call87 rfl (fun a w s => c87 v2 _ _  hv27) rfl (TO.u rfl rfl (TX.move rfl rfl ?_)))
   obtain ⟨v28, hv28, h⟩ := bp h
   refine TO.cutS 16 [(64, .bool (v27 || (bif v2 == 0 then !v28 else bif v2 == 128 then !v28 else (v2 == 144) && (!v28))))] ?_ ?_
   · cases hc29 : (v27)
     · refine TO.g rfl rfl rfl rfl (TX.move rfl rfl (TO.g rfl rfl rfl rfl (TX.ibin rfl rfl rfl rfl (TO.g rfl rfl rfl rfl (TX.move rfl rfl ?_)))))
       cases hc30 : (v2 == 0)
       · refine TO.g rfl rfl rfl rfl (TX.move rfl rfl (TO.g rfl rfl rfl rfl (TX.ibin rfl rfl rfl rfl (TO.g rfl rfl rfl rfl (TX.pickF rfl rfl rfl (TO.g rfl rfl rfl rfl (TX.move rfl rfl ?_)))))))
         cases hc31 : (v2 == 128)
         · refine TO.g rfl rfl rfl rfl (TX.move rfl rfl (TO.g rfl rfl rfl rfl (TX.ibin rfl rfl rfl rfl (TO.g rfl rfl rfl rfl (TX.pickF rfl rfl rfl (TO.g rfl rfl rfl rfl (TX.move rfl rfl ?_)))))))
           cases hc32 : (v2 == 144)
           · exact TO.s rfl rfl rfl rfl rfl rfl (TO.s rfl rfl rfl rfl rfl rfl (TO.s rfl rfl rfl rfl rfl rfl (TO.g rfl rfl rfl rfl (TX.pickF rfl rfl rfl (TO.u rfl rfl (TX.pickF rfl rfl rfl (TO.nil (TE.cutS 16 rfl rfl ⟨rfl, trivial⟩))))))))
           exact TO.g rfl rfl rfl rfl (TX.loadN (i := 0) Try.isAgg27 Try.sizeOf27 rfl rfl rfl rfl (TO.g rfl rfl rfl rfl (TX.callP Try.call86 rfl (fun a w s => c86 p0 _ _  hv28) rfl (TO.g rfl rfl rfl rfl (TX.not rfl rfl (TO.g rfl rfl rfl rfl (TX.pickT rfl rfl rfl (TO.u rfl rfl (TX.pickF rfl rfl rfl (TO.nil (TE.cutS 16 rfl rfl ⟨rfl, trivial⟩)))))))))))
         exact TO.s rfl rfl rfl rfl rfl rfl (TO.s rfl rfl rfl rfl rfl rfl (TO.g rfl rfl rfl rfl (TX.pickT rfl rfl rfl (TO.g rfl rfl rfl rfl (TX.move rfl rfl (TO.g rfl rfl rfl rfl (TX.loadN (i := 0) Try.isAgg27 Try.sizeOf27 rfl rfl rfl rfl (TO.g rfl rfl rfl rfl (TX.callP Try.call86 rfl (fun a w s => c86 p0 _ _  hv28) rfl (TO.g rfl rfl rfl rfl (TX.not rfl rfl (TO.g rfl rfl rfl rfl (TX.pickT rfl rfl rfl (TO.u rfl rfl (TX.pickF rfl rfl rfl (TO.nil (TE.cutS 16 rfl rfl ⟨rfl, trivial⟩)))))))))))))))))
       exact TO.s rfl rfl rfl rfl rfl rfl (TO.s rfl rfl rfl rfl rfl rfl (TO.g rfl rfl rfl rfl (TX.pickT rfl rfl rfl (TO.g rfl rfl rfl rfl (TX.move rfl rfl (TO.s rfl rfl rfl rfl rfl rfl (TO.s rfl rfl rfl rfl rfl rfl (TO.g rfl rfl rfl rfl (TX.pickT rfl rfl rfl (TO.g rfl rfl rfl rfl (TX.move rfl rfl (TO.g rfl rfl rfl rfl (TX.loadN (i := 0) Try.isAgg27 Try.sizeOf27 rfl rfl rfl rfl (TO.g rfl rfl rfl rfl (TX.callP Try.call86 rfl (fun a w s => c86 p0 _ _  hv28) rfl (TO.g rfl rfl rfl rfl (TX.not rfl rfl (TO.g rfl rfl rfl rfl (TX.pickT rfl rfl rfl (TO.u rfl rfl (TX.pickF rfl rfl rfl (TO.nil (TE.cutS 16 rfl rfl ⟨rfl, trivial⟩)))))))))))))))))))))))
     exact TO.s rfl rfl rfl rfl rfl rfl (TO.s rfl rfl rfl rfl rfl rfl (TO.s rfl rfl rfl rfl rfl rfl (TO.su rfl rfl rfl rfl rfl (TO.su rfl rfl rfl rfl rfl (TO.s rfl rfl rfl rfl rfl rfl (TO.s rfl rfl rfl rfl rfl rfl (TO.su rfl rfl rfl rfl rfl (TO.su rfl rfl rfl rfl rfl (TO.s rfl rfl rfl rfl rfl rfl (TO.s rfl rfl rfl rfl rfl rfl (TO.su rfl rfl rfl rfl rfl (TO.su rfl rfl rfl rfl rfl (TO.su rfl rfl rfl rfl rfl (TO.s rfl rfl rfl rfl rfl rfl (TO.u rfl rfl (TX.pickT rfl rfl rfl (TO.nil (TE.cutS 16 rfl rfl ⟨rfl, trivial⟩))))))))))))))))))
   exact TO.u rfl rfl (TX.assign rfl rfl (TO.nil (TE.thenN rfl rfl (TC.ret (TE.blockR (TE.thenR (TE.fin (R := ⟨[], []⟩) (TL.ret (R' := ⟨[], []⟩) Try.results76 (.cons (.tmp rfl) .nil) (subD 1 0 rfl rfl) ⟨congrArg ret76 h, rfl⟩))))))))
 replace h := ie h hb26
 refine TC.skip (TE.blockN (TE.thenN rfl rfl (TC.seq (TC.region (TO.u rfl rfl (TX.move rfl rfl ?_))))))
 obtain ⟨v33, hv33, h⟩ := bp h
 refine TO.u rfl rfl (TX.callP Try.call87 rfl (fun a w s => c87 v2 _ _  hv33) rfl (TO.u rfl rfl (TX.move rfl rfl ?_)))
 obtain ⟨v34, hv34, h⟩ := bp h
 refine TO.cutS 8 [(75, .bool (v33 || ((v2 == 0) && (!v34))))] ?_ ?_
 · cases hc35 : (v33)
   · refine TO.g rfl rfl rfl rfl (TX.move rfl rfl (TO.g rfl rfl rfl rfl (TX.ibin rfl rfl rfl rfl (TO.g rfl rfl rfl rfl (TX.move rfl rfl ?_)))))
     cases hc36 : (v2 == 0)
     · exact TO.s rfl rfl rfl rfl rfl rfl (TO.s rfl rfl rfl rfl rfl rfl (TO.s rfl rfl rfl rfl rfl rfl (TO.g rfl rfl rfl rfl (TX.pickF rfl rfl rfl (TO.u rfl rfl (TX.pickF rfl rfl rfl (TO.nil (TE.cutS 8 rfl rfl ⟨rfl, trivial⟩))))))))
     exact TO.g rfl rfl rfl rfl (TX.loadN (i := 0) Try.isAgg27 Try.sizeOf27 rfl rfl rfl rfl (TO.g rfl rfl rfl rfl (TX.callP Try.call86 rfl (fun a w s => c86 p0 _ _  hv34) rfl (TO.g rfl rfl rfl rfl (TX.not rfl rfl (TO.g rfl rfl rfl rfl (TX.pickT rfl rfl rfl (TO.u rfl rfl (TX.pickF rfl rfl rfl (TO.nil (TE.cutS 8 rfl rfl ⟨rfl, trivial⟩)))))))))))
   exact TO.s rfl rfl rfl rfl rfl rfl (TO.s rfl rfl rfl rfl rfl rfl (TO.s rfl rfl rfl rfl rfl rfl (TO.su rfl rfl rfl rfl rfl (TO.su rfl rfl rfl rfl rfl (TO.su rfl rfl rfl rfl rfl (TO.s rfl rfl rfl rfl rfl rfl (TO.u rfl rfl (TX.pickT rfl rfl rfl (TO.nil (TE.cutS 8 rfl rfl ⟨rfl, trivial⟩))))))))))
 exact TO.u rfl rfl (TX.assign rfl rfl (TO.nil (TE.thenN rfl rfl (TC.ret (TE.fin (R := ⟨[], []⟩) (TL.ret (R' := ⟨[], []⟩) Try.results76 (.cons (.tmp rfl) .nil) (subD 1 0 rfl rfl) ⟨congrArg ret76 h, rfl⟩))))))
/-- hatchway/hatchwayref03.Writes -/
def fn77 (p0 : Instr) : Bool :=
  (bindP (fn54 p0) fun v2 => ((((v2 == 0) || (v2 == 1)) || (v2 == 4)) || (v2 == 7)))
def ret77 (r : Bool) : Value := .bool r
theorem c77 (p0 : Instr) (w : World) (r : Bool)  (h : fn77 p0 = r) : Ret Try.prog 77 [.agg #[.int .u8 p0.fOp, .int .u8 p0.fDst, .int .u8 p0.fSrc, .int .i16 p0.fOff, .int .i32 p0.fImm]] w ⟨[], []⟩ (fun v R => v = ret77 r ∧ R = ⟨[], []⟩) := by
 unfold fn77 at h
 refine Ret.of_body Try.func77 rfl Try.ntmps77 rfl (fun _ hx => absurd hx List.not_mem_nil) List.nodup_nil (TC.seq (TC.region (TO.u rfl rfl (TX.box rfl rfl rfl (fun b1 => (TO.u rfl rfl (TX.assign rfl rfl (TO.nil (TE.thenN rfl rfl (TC.seq (TC.region (TO.u rfl rfl (TX.loadN (i := 0) Try.isAgg27 Try.sizeOf27 rfl rfl rfl rfl ?_)))))))))))))
 obtain ⟨v2, hv2, h⟩ := bp h
 refine TO.u rfl rfl (TX.callP Try.call54 rfl (fun a w s => c54 p0 _ _  hv2) rfl (TO.u rfl rfl (TX.assign rfl rfl (TO.nil (TE.thenN rfl rfl (TC.seq (TC.region (TO.u rfl rfl (TX.move rfl rfl (TO.u rfl rfl (TX.ibin rfl rfl rfl rfl (TO.u rfl rfl (TX.move rfl rfl (TO.cutS 3 [(11, .bool ((v2 == 0) || (v2 == 1)))] ?_ ?_))))))))))))))
 · cases hc3 : (v2 == 0)
   · exact TO.g rfl rfl rfl rfl (TX.move rfl rfl (TO.g rfl rfl rfl rfl (TX.ibin rfl rfl rfl rfl (TO.u rfl rfl (TX.pickF rfl rfl rfl (TO.nil (TE.cutS 3 rfl rfl ⟨rfl, trivial⟩)))))))
   exact TO.s rfl rfl rfl rfl rfl rfl (TO.s rfl rfl rfl rfl rfl rfl (TO.u rfl rfl (TX.pickT rfl rfl rfl (TO.nil (TE.cutS 3 rfl rfl ⟨rfl, trivial⟩)))))
 refine TO.u rfl rfl (TX.move rfl rfl (TO.cutS 3 [(15, .bool (((v2 == 0) || (v2 == 1)) || (v2 == 4)))] ?_ ?_))
 · cases hc4 : ((v2 == 0) || (v2 == 1))
   · exact TO.g rfl rfl rfl rfl (TX.move rfl rfl (TO.g rfl rfl rfl rfl (TX.ibin rfl rfl rfl rfl (TO.u rfl rfl (TX.pickF rfl rfl rfl (TO.nil (TE.cutS 3 rfl rfl ⟨rfl, trivial⟩)))))))
   exact TO.s rfl rfl rfl rfl rfl rfl (TO.s rfl rfl rfl rfl rfl rfl (TO.u rfl rfl (TX.pickT rfl rfl rfl (TO.nil (TE.cutS 3 rfl rfl ⟨rfl, trivial⟩)))))
 refine TO.u rfl rfl (TX.move rfl rfl (TO.cutS 3 [(19, .bool ((((v2 == 0) || (v2 == 1)) || (v2 == 4)) || (v2 == 7)))] ?_ ?_))
 · cases hc5 : (((v2 == 0) || (v2 == 1)) || (v2 == 4))
   · exact TO.g rfl rfl rfl rfl (TX.move rfl rfl (TO.g rfl rfl rfl rfl (TX.ibin rfl rfl rfl rfl (TO.u rfl rfl (TX.pickF rfl rfl rfl (TO.nil (TE.cutS 3 rfl rfl ⟨rfl, trivial⟩)))))))
   exact TO.s rfl rfl rfl rfl rfl rfl (TO.s rfl rfl rfl rfl rfl rfl (TO.u rfl rfl (TX.pickT rfl rfl rfl (TO.nil (TE.cutS 3 rfl rfl ⟨rfl, trivial⟩)))))
 exact TO.u rfl rfl (TX.assign rfl rfl (TO.nil (TE.thenN rfl rfl (TC.ret (TE.fin (R := ⟨[], []⟩) (TL.ret (R' := ⟨[], []⟩) Try.results77 (.cons (.tmp rfl) .nil) (subD 1 0 rfl rfl) ⟨congrArg ret77 h, rfl⟩))))))
/-- hatchway/hatchwayref03.alu -/
def fn88 (p0 : Instr) : Bool :=
  (bindP (fn55 p0) fun v2 => (bif v2 == 208 then (((p0.fSrc == 0) && (p0.fOff == 0)) && ((p0.fImm == 16) || ((p0.fImm == 32) || (p0.fImm == 64)))) else (bindP (fn86 p0) fun v8 => (bindP (fn86 p0) fun v10 => (bif ((v8 && (p0.fImm != 0)) || ((!v10) && (p0.fSrc != 0))) || ((v2 == 128) && (p0.fImm != 0)) then false else (bif v2 == 48 then ((p0.fOff == 0) || (p0.fOff == 1)) else (bif v2 == 144 then ((p0.fOff == 0) || (p0.fOff == 1)) else (bif v2 == 176 then (bindP (fn86 p0) fun v21 => (bindP (fn54 p0) fun v22 => ((p0.fOff == 0) || (v21 && ((p0.fOff == 8) || ((p0.fOff == 16) || ((p0.fOff == 32) && (v22 == 7)))))))) else (p0.fOff == 0)))))))))
def ret88 (r : Bool) : Value := .bool r
set_option maxHeartbeats 8000000 in
theorem c88 (p0 : Instr) (w : World) (r : Bool)  (h : fn88 p0 = r) : Ret Try.prog 88 [.agg #[.int .u8 p0.fOp, .int .u8 p0.fDst, .int .u8 p0.fSrc, .int .i16 p0.fOff, .int .i32 p0.fImm]] w ⟨[], []⟩ (fun v R => v = ret88 r ∧ R = ⟨[], []⟩) := by
 unfold fn88 at h
 refine Ret.of_body Try.func88 rfl Try.ntmps88 rfl (fun _ hx => absurd hx List.not_mem_nil) List.nodup_nil (TC.seq (TC.region (TO.u rfl rfl (TX.box rfl rfl rfl (fun b1 => (TO.u rfl rfl (TX.assign rfl rfl (TO.nil (TE.thenN rfl rfl (TC.seq (TC.region (TO.u rfl rfl (TX.loadN (i := 0) Try.isAgg27 Try.sizeOf27 rfl rfl rfl rfl ?_)))))))))))))
 obtain ⟨v2, hv2, h⟩ := bp h
 refine TO.u rfl rfl (TX.callP Try.call55 rfl (fun a w s => c55 p0 _ _  hv2) rfl (TO.u rfl rfl (TX.assign rfl rfl (TO.nil (TE.thenN rfl rfl (TC.seq (TC.seq (TC.region (TO.u rfl rfl (TX.move rfl rfl (TO.u rfl rfl (TX.ibin rfl rfl rfl rfl (TO.nil (TE.thenN rfl rfl (TC.cond rfl (fun hb3 => ?_) (fun hb3 => ?_))))))))))))))))
 · replace h := it h hb3
   refine TC.seq (TC.region (TO.u rfl rfl (TX.fieldAddr' Try.runUnderlying27 rfl Try.sizeOf5 rfl rfl rfl (TO.u rfl rfl (TX.load1 (i := 0) Try.isAgg5 rfl rfl rfl rfl (TO.u rfl rfl (TX.ibin rfl rfl rfl rfl (TO.u rfl rfl (TX.move rfl rfl (TO.cutS 4 [(15, .bool ((p0.fSrc == 0) && (p0.fOff == 0)))] ?_ ?_))))))))))
   · cases hc4 : (p0.fSrc == 0)
     · exact TO.s rfl rfl rfl rfl rfl rfl (TO.s rfl rfl rfl rfl rfl rfl (TO.s rfl rfl rfl rfl rfl rfl (TO.u rfl rfl (TX.pickF rfl rfl rfl (TO.nil (TE.cutS 4 rfl rfl ⟨rfl, trivial⟩))))))
     exact TO.g rfl rfl rfl rfl (TX.fieldAddr' Try.runUnderlying27 rfl Try.sizeOf25 rfl rfl rfl (TO.g rfl rfl rfl rfl (TX.load1 (i := 0) Try.isAgg25 rfl rfl rfl rfl (TO.g rfl rfl rfl rfl (TX.ibin rfl rfl rfl rfl (TO.u rfl rfl (TX.pickT rfl rfl rfl (TO.nil (TE.cutS 4 rfl rfl ⟨rfl, trivial⟩)))))))))
   refine TO.u rfl rfl (TX.move rfl rfl (TO.cutS 14 [(30, .bool (((p0.fSrc == 0) && (p0.fOff == 0)) && ((p0.fImm == 16) || ((p0.fImm == 32) || (p0.fImm == 64)))))] ?_ ?_))
   · cases hc5 : ((p0.fSrc == 0) && (p0.fOff == 0))
     · exact TO.s rfl rfl rfl rfl rfl rfl (TO.s rfl rfl rfl rfl rfl rfl (TO.s rfl rfl rfl rfl rfl rfl (TO.s rfl rfl rfl rfl rfl rfl (TO.su rfl rfl rfl rfl rfl (TO.su rfl rfl rfl rfl rfl (TO.su rfl rfl rfl rfl rfl (TO.s rfl rfl rfl rfl rfl rfl (TO.s rfl rfl rfl rfl rfl rfl (TO.su rfl rfl rfl rfl rfl (TO.su rfl rfl rfl rfl rfl (TO.su rfl rfl rfl rfl rfl (TO.s rfl rfl rfl rfl rfl rfl (TO.u rfl rfl (TX.pickF rfl rfl rfl (TO.nil (TE.cutS 14 rfl rfl ⟨rfl, trivial⟩))))))))))))))))
     refine TO.g rfl rfl rfl rfl (TX.fieldAddr' Try.runUnderlying27 rfl Try.sizeOf21 rfl rfl rfl (TO.g rfl rfl rfl rfl (TX.load1 (i := 0) Try.isAgg21 rfl rfl rfl rfl (TO.g rfl rfl rfl rfl (TX.ibin rfl rfl rfl rfl (TO.g rfl rfl rfl rfl (TX.move rfl rfl ?_)))))))
     cases hc6 : (p0.fImm == 16)
     · refine TO.g rfl rfl rfl rfl (TX.fieldAddr' Try.runUnderlying27 rfl Try.sizeOf21 rfl rfl rfl (TO.g rfl rfl rfl rfl (TX.load1 (i := 0) Try.isAgg21 rfl rfl rfl rfl (TO.g rfl rfl rfl rfl (TX.ibin rfl rfl rfl rfl (TO.g rfl rfl rfl rfl (TX.pickF rfl rfl rfl (TO.g rfl rfl rfl rfl (TX.move rfl rfl ?_)))))))))
       cases hc7 : (p0.fImm == 32)
       · exact TO.g rfl rfl rfl rfl (TX.fieldAddr' Try.runUnderlying27 rfl Try.sizeOf21 rfl rfl rfl (TO.g rfl rfl rfl rfl (TX.load1 (i := 0) Try.isAgg21 rfl rfl rfl rfl (TO.g rfl rfl rfl rfl (TX.ibin rfl rfl rfl rfl (TO.g rfl rfl rfl rfl (TX.pickF rfl rfl rfl (TO.u rfl rfl (TX.pickT rfl rfl rfl (TO.nil (TE.cutS 14 rfl rfl ⟨rfl, trivial⟩)))))))))))
       exact TO.s rfl rfl rfl rfl rfl rfl (TO.s rfl rfl rfl rfl rfl rfl (TO.s rfl rfl rfl rfl rfl rfl (TO.g rfl rfl rfl rfl (TX.pickT rfl rfl rfl (TO.u rfl rfl (TX.pickT rfl rfl rfl (TO.nil (TE.cutS 14 rfl rfl ⟨rfl, trivial⟩))))))))
     exact TO.s rfl rfl rfl rfl rfl rfl (TO.s rfl rfl rfl rfl rfl rfl (TO.s rfl rfl rfl rfl rfl rfl (TO.g rfl rfl rfl rfl (TX.pickT rfl rfl rfl (TO.g rfl rfl rfl rfl (TX.move rfl rfl (TO.s rfl rfl rfl rfl rfl rfl (TO.s rfl rfl rfl rfl rfl rfl (TO.s rfl rfl rfl rfl rfl rfl (TO.g rfl rfl rfl rfl (TX.pickT rfl rfl rfl (TO.u rfl rfl (TX.pickT rfl rfl rfl (TO.nil (TE.cutS 14 rfl rfl ⟨rfl, trivial⟩)))))))))))))))
   exact TO.u rfl rfl (TX.assign rfl rfl (TO.nil (TE.thenN rfl rfl (TC.ret (TE.thenR (TE.fin (R := ⟨[], []⟩) (TL.ret (R' := ⟨[], []⟩) Try.results88 (.cons (.tmp rfl) .nil) (subD 1 0 rfl rfl) ⟨congrArg ret88 h, rfl⟩)))))))
 replace h := ie h hb3
 refine TC.skip (TE.thenN rfl rfl (TC.seq (TC.seq (TC.region (TO.u rfl rfl (TX.loadN (i := 0) Try.isAgg27 Try.sizeOf27 rfl rfl rfl rfl ?_))))))
 obtain ⟨v8, hv8, h⟩ := bp h
 refine TO.u rfl rfl (TX.callP Try.call86 rfl (fun a w s => c86 p0 _ _  hv8) rfl (TO.u rfl rfl (TX.move rfl rfl (TO.cutS 4 [(37, .bool (v8 && (p0.fImm != 0)))] ?_ ?_))))
 · cases hc9 : (v8)
   · exact TO.s rfl rfl rfl rfl rfl rfl (TO.s rfl rfl rfl rfl rfl rfl (TO.s rfl rfl rfl rfl rfl rfl (TO.u rfl rfl (TX.pickF rfl rfl rfl (TO.nil (TE.cutS 4 rfl rfl ⟨rfl, trivial⟩))))))
   exact TO.g rfl rfl rfl rfl (TX.fieldAddr' Try.runUnderlying27 rfl Try.sizeOf21 rfl rfl rfl (TO.g rfl rfl rfl rfl (TX.load1 (i := 0) Try.isAgg21 rfl rfl rfl rfl (TO.g rfl rfl rfl rfl (TX.ibin rfl rfl rfl rfl (TO.u rfl rfl (TX.pickT rfl rfl rfl (TO.nil (TE.cutS 4 rfl rfl ⟨rfl, trivial⟩)))))))))
 refine TO.u rfl rfl (TX.move rfl rfl ?_)
 obtain ⟨v10, hv10, h⟩ := bp h
 refine TO.cutS 9 [(47, .bool ((v8 && (p0.fImm != 0)) || ((!v10) && (p0.fSrc != 0))))] ?_ ?_
 · cases hc11 : (v8 && (p0.fImm != 0))
   · refine TO.g rfl rfl rfl rfl (TX.loadN (i := 0) Try.isAgg27 Try.sizeOf27 rfl rfl rfl rfl (TO.g rfl rfl rfl rfl (TX.callP Try.call86 rfl (fun a w s => c86 p0 _ _  hv10) rfl (TO.g rfl rfl rfl rfl (TX.not rfl rfl (TO.g rfl rfl rfl rfl (TX.move rfl rfl ?_)))))))
     cases hc12 : (!v10)
     · exact TO.s rfl rfl rfl rfl rfl rfl (TO.s rfl rfl rfl rfl rfl rfl (TO.s rfl rfl rfl rfl rfl rfl (TO.g rfl rfl rfl rfl (TX.pickF rfl rfl rfl (TO.u rfl rfl (TX.pickF rfl rfl rfl (TO.nil (TE.cutS 9 rfl rfl ⟨rfl, trivial⟩))))))))
     exact TO.g rfl rfl rfl rfl (TX.fieldAddr' Try.runUnderlying27 rfl Try.sizeOf5 rfl rfl rfl (TO.g rfl rfl rfl rfl (TX.load1 (i := 0) Try.isAgg5 rfl rfl rfl rfl (TO.g rfl rfl rfl rfl (TX.ibin rfl rfl rfl rfl (TO.g rfl rfl rfl rfl (TX.pickT rfl rfl rfl (TO.u rfl rfl (TX.pickF rfl rfl rfl (TO.nil (TE.cutS 9 rfl rfl ⟨rfl, trivial⟩)))))))))))
   exact TO.s rfl rfl rfl rfl rfl rfl (TO.s rfl rfl rfl rfl rfl rfl (TO.s rfl rfl rfl rfl rfl rfl (TO.s rfl rfl rfl rfl rfl rfl (TO.su rfl rfl rfl rfl rfl (TO.su rfl rfl rfl rfl rfl (TO.su rfl rfl rfl rfl rfl (TO.s rfl rfl rfl rfl rfl rfl (TO.u rfl rfl (TX.pickT rfl rfl rfl (TO.nil (TE.cutS 9 rfl rfl ⟨rfl, trivial⟩)))))))))))
 refine TO.u rfl rfl (TX.move rfl rfl (TO.cutS 8 [(56, .bool (((v8 && (p0.fImm != 0)) || ((!v10) && (p0.fSrc != 0))) || ((v2 == 128) && (p0.fImm != 0))))] ?_ ?_))
 · cases hc13 : ((v8 && (p0.fImm != 0)) || ((!v10) && (p0.fSrc != 0)))
   · refine TO.g rfl rfl rfl rfl (TX.move rfl rfl (TO.g rfl rfl rfl rfl (TX.ibin rfl rfl rfl rfl (TO.g rfl rfl rfl rfl (TX.move rfl rfl ?_)))))
     cases hc14 : (v2 == 128)
     · exact TO.s rfl rfl rfl rfl rfl rfl (TO.s rfl rfl rfl rfl rfl rfl (TO.s rfl rfl rfl rfl rfl rfl (TO.g rfl rfl rfl rfl (TX.pickF rfl rfl rfl (TO.u rfl rfl (TX.pickF rfl rfl rfl (TO.nil (TE.cutS 8 rfl rfl ⟨rfl, trivial⟩))))))))
     exact TO.g rfl rfl rfl rfl (TX.fieldAddr' Try.runUnderlying27 rfl Try.sizeOf21 rfl rfl rfl (TO.g rfl rfl rfl rfl (TX.load1 (i := 0) Try.isAgg21 rfl rfl rfl rfl (TO.g rfl rfl rfl rfl (TX.ibin rfl rfl rfl rfl (TO.g rfl rfl rfl rfl (TX.pickT rfl rfl rfl (TO.u rfl rfl (TX.pickF rfl rfl rfl (TO.nil (TE.cutS 8 rfl rfl ⟨rfl, trivial⟩)))))))))))
   exact TO.s rfl rfl rfl rfl rfl rfl (TO.s rfl rfl rfl rfl rfl rfl (TO.s rfl rfl rfl rfl rfl rfl (TO.su rfl rfl rfl rfl rfl (TO.su rfl rfl rfl rfl rfl (TO.su rfl rfl rfl rfl rfl (TO.s rfl rfl rfl rfl rfl rfl (TO.u rfl rfl (TX.pickT rfl rfl rfl (TO.nil (TE.cutS 8 rfl rfl ⟨rfl, trivial⟩))))))))))
 refine TO.nil (TE.thenN rfl rfl (TC.cond rfl (fun hb15 => ?_) (fun hb15 => ?_)))
 · replace h := it h hb15
   exact TC.seq (TC.region (TO.u rfl rfl (TX.assign rfl rfl (TO.nil (TE.thenN rfl rfl (TC.ret (TE.thenR (TE.fin (R := ⟨[], []⟩) (TL.ret (R' := ⟨[], []⟩) Try.results88 (.cons (.tmp rfl) .nil) (subD 1 0 rfl rfl) ⟨congrArg ret88 h, rfl⟩)))))))))
 replace h := ie h hb15
 refine TC.skip (TE.thenN rfl rfl (TC.seq (TC.seq (TC.region (TO.u rfl rfl (TX.move rfl rfl (TO.nil (TE.thenN rfl rfl (TC.block (TC.seq (TC.seq (TC.region (TO.u rfl rfl (TX.ibin rfl rfl rfl rfl (TO.u rfl rfl (TX.assign rfl rfl (TO.nil (TE.thenN rfl rfl (TC.cond rfl (fun hb16 => ?_) (fun hb16 => ?_))))))))))))))))))))
 · replace h := it h hb16
   refine TC.skip (TE.thenN rfl rfl (TC.condT' rfl hb16 (TC.seq (TC.region (TO.u rfl rfl (TX.fieldAddr' Try.runUnderlying27 rfl Try.sizeOf25 rfl rfl rfl (TO.u rfl rfl (TX.load1 (i := 0) Try.isAgg25 rfl rfl rfl rfl (TO.u rfl rfl (TX.ibin rfl rfl rfl rfl (TO.u rfl rfl (TX.move rfl rfl (TO.cutS 4 [(68, .bool ((p0.fOff == 0) || (p0.fOff == 1)))] ?_ ?_)))))))))))))
   · cases hc17 : (p0.fOff == 0)
     · exact TO.g rfl rfl rfl rfl (TX.fieldAddr' Try.runUnderlying27 rfl Try.sizeOf25 rfl rfl rfl (TO.g rfl rfl rfl rfl (TX.load1 (i := 0) Try.isAgg25 rfl rfl rfl rfl (TO.g rfl rfl rfl rfl (TX.ibin rfl rfl rfl rfl (TO.u rfl rfl (TX.pickF rfl rfl rfl (TO.nil (TE.cutS 4 rfl rfl ⟨rfl, trivial⟩)))))))))
     exact TO.s rfl rfl rfl rfl rfl rfl (TO.s rfl rfl rfl rfl rfl rfl (TO.s rfl rfl rfl rfl rfl rfl (TO.u rfl rfl (TX.pickT rfl rfl rfl (TO.nil (TE.cutS 4 rfl rfl ⟨rfl, trivial⟩))))))
   exact TO.u rfl rfl (TX.assign rfl rfl (TO.nil (TE.thenN rfl rfl (TC.ret (TE.blockR (TE.thenR (TE.fin (R := ⟨[], []⟩) (TL.ret (R' := ⟨[], []⟩) Try.results88 (.cons (.tmp rfl) .nil) (subD 1 0 rfl rfl) ⟨congrArg ret88 h, rfl⟩))))))))
 replace h := ie h hb16
 refine TC.region (TO.u rfl rfl (TX.ibin rfl rfl rfl rfl (TO.u rfl rfl (TX.assign rfl rfl (TO.nil (TE.thenN rfl rfl (TC.cond rfl (fun hb18 => ?_) (fun hb18 => ?_))))))))
 · replace h := it h hb18
   refine TC.seq (TC.region (TO.u rfl rfl (TX.fieldAddr' Try.runUnderlying27 rfl Try.sizeOf25 rfl rfl rfl (TO.u rfl rfl (TX.load1 (i := 0) Try.isAgg25 rfl rfl rfl rfl (TO.u rfl rfl (TX.ibin rfl rfl rfl rfl (TO.u rfl rfl (TX.move rfl rfl (TO.cutS 4 [(68, .bool ((p0.fOff == 0) || (p0.fOff == 1)))] ?_ ?_))))))))))
   · cases hc19 : (p0.fOff == 0)
     · exact TO.g rfl rfl rfl rfl (TX.fieldAddr' Try.runUnderlying27 rfl Try.sizeOf25 rfl rfl rfl (TO.g rfl rfl rfl rfl (TX.load1 (i := 0) Try.isAgg25 rfl rfl rfl rfl (TO.g rfl rfl rfl rfl (TX.ibin rfl rfl rfl rfl (TO.u rfl rfl (TX.pickF rfl rfl rfl (TO.nil (TE.cutS 4 rfl rfl ⟨rfl, trivial⟩)))))))))
     exact TO.s rfl rfl rfl rfl rfl rfl (TO.s rfl rfl rfl rfl rfl rfl (TO.s rfl rfl rfl rfl rfl rfl (TO.u rfl rfl (TX.pickT rfl rfl rfl (TO.nil (TE.cutS 4 rfl rfl ⟨rfl, trivial⟩))))))
   exact TO.u rfl rfl (TX.assign rfl rfl (TO.nil (TE.thenN rfl rfl (TC.ret (TE.blockR (TE.thenR (TE.fin (R := ⟨[], []⟩) (TL.ret (R' := ⟨[], []⟩) Try.results88 (.cons (.tmp rfl) .nil) (subD 1 0 rfl rfl) ⟨congrArg ret88 h, rfl⟩))))))))
 replace h := ie h hb18
 refine TC.seq (TC.region (TO.u rfl rfl (TX.ibin rfl rfl rfl rfl (TO.u rfl rfl (TX.assign rfl rfl (TO.nil (TE.thenN rfl rfl (TC.cond rfl (fun hb20 => ?_) (fun hb20 => ?_)))))))))
 · replace h := it h hb20
   refine TC.seq (TC.region (TO.u rfl rfl (TX.fieldAddr' Try.runUnderlying27 rfl Try.sizeOf25 rfl rfl rfl (TO.u rfl rfl (TX.load1 (i := 0) Try.isAgg25 rfl rfl rfl rfl (TO.u rfl rfl (TX.ibin rfl rfl rfl rfl (TO.u rfl rfl (TX.move rfl rfl ?_)))))))))
   obtain ⟨v21, hv21, h⟩ := bp h
   obtain ⟨v22, hv22, h⟩ := bp h
   refine TO.cutS 23 [(97, .bool ((p0.fOff == 0) || (v21 && ((p0.fOff == 8) || ((p0.fOff == 16) || ((p0.fOff == 32) && (v22 == 7)))))))] ?_ ?_
   · cases hc23 : (p0.fOff == 0)
     · refine TO.g rfl rfl rfl rfl (TX.loadN (i := 0) Try.isAgg27 Try.sizeOf27 rfl rfl rfl rfl (TO.g rfl rfl rfl rfl (TX.callP Try.call86 rfl (fun a w s => c86 p0 _ _  hv21) rfl (TO.g rfl rfl rfl rfl (TX.move rfl rfl ?_)))))
       cases hc24 : (v21)
       · exact TO.s rfl rfl rfl rfl rfl rfl (TO.s rfl rfl rfl rfl rfl rfl (TO.s rfl rfl rfl rfl rfl rfl (TO.s rfl rfl rfl rfl rfl rfl (TO.su rfl rfl rfl rfl rfl (TO.su rfl rfl rfl rfl rfl (TO.su rfl rfl rfl rfl rfl (TO.s rfl rfl rfl rfl rfl rfl (TO.s rfl rfl rfl rfl rfl rfl (TO.su rfl rfl rfl rfl rfl (TO.su rfl rfl rfl rfl rfl (TO.su rfl rfl rfl rfl rfl (TO.su rfl rfl rfl rfl rfl (TO.su rfl rfl rfl rfl rfl (TO.su rfl rfl rfl rfl rfl (TO.su rfl rfl rfl rfl rfl (TO.su rfl rfl rfl rfl rfl (TO.s rfl rfl rfl rfl rfl rfl (TO.g rfl rfl rfl rfl (TX.pickF rfl rfl rfl (TO.u rfl rfl (TX.pickF rfl rfl rfl (TO.nil (TE.cutS 23 rfl rfl ⟨rfl, trivial⟩)))))))))))))))))))))))
       refine TO.g rfl rfl rfl rfl (TX.fieldAddr' Try.runUnderlying27 rfl Try.sizeOf25 rfl rfl rfl (TO.g rfl rfl rfl rfl (TX.load1 (i := 0) Try.isAgg25 rfl rfl rfl rfl (TO.g rfl rfl rfl rfl (TX.ibin rfl rfl rfl rfl (TO.g rfl rfl rfl rfl (TX.move rfl rfl ?_)))))))
       cases hc25 : (p0.fOff == 8)
       · refine TO.g rfl rfl rfl rfl (TX.fieldAddr' Try.runUnderlying27 rfl Try.sizeOf25 rfl rfl rfl (TO.g rfl rfl rfl rfl (TX.load1 (i := 0) Try.isAgg25 rfl rfl rfl rfl (TO.g rfl rfl rfl rfl (TX.ibin rfl rfl rfl rfl (TO.g rfl rfl rfl rfl (TX.pickF rfl rfl rfl (TO.g rfl rfl rfl rfl (TX.move rfl rfl ?_)))))))))
         cases hc26 : (p0.fOff == 16)
         · refine TO.g rfl rfl rfl rfl (TX.fieldAddr' Try.runUnderlying27 rfl Try.sizeOf25 rfl rfl rfl (TO.g rfl rfl rfl rfl (TX.load1 (i := 0) Try.isAgg25 rfl rfl rfl rfl (TO.g rfl rfl rfl rfl (TX.ibin rfl rfl rfl rfl (TO.g rfl rfl rfl rfl (TX.move rfl rfl ?_)))))))
           cases hc27 : (p0.fOff == 32)
           · exact TO.s rfl rfl rfl rfl rfl rfl (TO.s rfl rfl rfl rfl rfl rfl (TO.s rfl rfl rfl rfl rfl rfl (TO.g rfl rfl rfl rfl (TX.pickF rfl rfl rfl (TO.g rfl rfl rfl rfl (TX.pickF rfl rfl rfl (TO.g rfl rfl rfl rfl (TX.pickT rfl rfl rfl (TO.u rfl rfl (TX.pickF rfl rfl rfl (TO.nil (TE.cutS 23 rfl rfl ⟨rfl, trivial⟩))))))))))))
           exact TO.g rfl rfl rfl rfl (TX.loadN (i := 0) Try.isAgg27 Try.sizeOf27 rfl rfl rfl rfl (TO.g rfl rfl rfl rfl (TX.callP Try.call54 rfl (fun a w s => c54 p0 _ _  hv22) rfl (TO.g rfl rfl rfl rfl (TX.ibin rfl rfl rfl rfl (TO.g rfl rfl rfl rfl (TX.pickT rfl rfl rfl (TO.g rfl rfl rfl rfl (TX.pickF rfl rfl rfl (TO.g rfl rfl rfl rfl (TX.pickT rfl rfl rfl (TO.u rfl rfl (TX.pickF rfl rfl rfl (TO.nil (TE.cutS 23 rfl rfl ⟨rfl, trivial⟩)))))))))))))))
         exact TO.s rfl rfl rfl rfl rfl rfl (TO.s rfl rfl rfl rfl rfl rfl (TO.s rfl rfl rfl rfl rfl rfl (TO.s rfl rfl rfl rfl rfl rfl (TO.su rfl rfl rfl rfl rfl (TO.su rfl rfl rfl rfl rfl (TO.su rfl rfl rfl rfl rfl (TO.s rfl rfl rfl rfl rfl rfl (TO.g rfl rfl rfl rfl (TX.pickT rfl rfl rfl (TO.g rfl rfl rfl rfl (TX.pickT rfl rfl rfl (TO.u rfl rfl (TX.pickF rfl rfl rfl (TO.nil (TE.cutS 23 rfl rfl ⟨rfl, trivial⟩)))))))))))))))
       exact TO.s rfl rfl rfl rfl rfl rfl (TO.s rfl rfl rfl rfl rfl rfl (TO.s rfl rfl rfl rfl rfl rfl (TO.g rfl rfl rfl rfl (TX.pickT rfl rfl rfl (TO.g rfl rfl rfl rfl (TX.move rfl rfl (TO.s rfl rfl rfl rfl rfl rfl (TO.s rfl rfl rfl rfl rfl rfl (TO.s rfl rfl rfl rfl rfl rfl (TO.s rfl rfl rfl rfl rfl rfl (TO.su rfl rfl rfl rfl rfl (TO.su rfl rfl rfl rfl rfl (TO.su rfl rfl rfl rfl rfl (TO.s rfl rfl rfl rfl rfl rfl (TO.g rfl rfl rfl rfl (TX.pickT rfl rfl rfl (TO.g rfl rfl rfl rfl (TX.pickT rfl rfl rfl (TO.u rfl rfl (TX.pickF rfl rfl rfl (TO.nil (TE.cutS 23 rfl rfl ⟨rfl, trivial⟩))))))))))))))))))))))
     exact TO.s rfl rfl rfl rfl rfl rfl (TO.s rfl rfl rfl rfl rfl rfl (TO.s rfl rfl rfl rfl rfl rfl (TO.su rfl rfl rfl rfl rfl (TO.su rfl rfl rfl rfl rfl (TO.su rfl rfl rfl rfl rfl (TO.su rfl rfl rfl rfl rfl (TO.su rfl rfl rfl rfl rfl (TO.su rfl rfl rfl rfl rfl (TO.su rfl rfl rfl rfl rfl (TO.su rfl rfl rfl rfl rfl (TO.su rfl rfl rfl rfl rfl (TO.su rfl rfl rfl rfl rfl (TO.su rfl rfl rfl rfl rfl (TO.su rfl rfl rfl rfl rfl (TO.su rfl rfl rfl rfl rfl (TO.su rfl rfl rfl rfl rfl (TO.su rfl rfl rfl rfl rfl (TO.su rfl rfl rfl rfl rfl (TO.su rfl rfl rfl rfl rfl (TO.su rfl rfl rfl rfl rfl (TO.s rfl rfl rfl rfl rfl rfl (TO.u rfl rfl (TX.pickT rfl rfl rfl (TO.nil (TE.cutS 23 rfl rfl ⟨rfl, trivial⟩)))))))))))))))))))))))))
   exact TO.u rfl rfl (TX.assign rfl rfl (TO.nil (TE.thenN rfl rfl (TC.ret (TE.blockR (TE.thenR (TE.fin (R := ⟨[], []⟩) (TL.ret (R' := ⟨[], []⟩) Try.results88 (.cons (.tmp rfl) .nil) (subD 1 0 rfl rfl) ⟨congrArg ret88 h, rfl⟩))))))))
 replace h := ie h hb20
 exact TC.skip (TE.blockN (TE.thenN rfl rfl (TC.seq (TC.region (TO.u rfl rfl (TX.fieldAddr' Try.runUnderlying27 rfl Try.sizeOf25 rfl rfl rfl (TO.u rfl rfl (TX.load1 (i := 0) Try.isAgg25 rfl rfl rfl rfl (TO.u rfl rfl (TX.ibin rfl rfl rfl rfl (TO.u rfl rfl (TX.assign rfl rfl (TO.nil (TE.thenN rfl rfl (TC.ret (TE.fin (R := ⟨[], []⟩) (TL.ret (R' := ⟨[], []⟩) Try.results88 (.cons (.tmp rfl) .nil) (subD 1 0 rfl rfl) ⟨congrArg ret88 h, rfl⟩)))))))))))))))))
/-- hatchway/hatchwayref03.jump -/
def fn89 (p0 : Instr) : Bool :=
  (bindP (fn55 p0) fun v2 => (bindP (fn87 v2) fun v3 => (bif v3 then (bindP (fn86 p0) fun v5 => (bindP (fn86 p0) fun v7 => ((v5 && (p0.fImm == 0)) || ((!v7) && (p0.fSrc == 0))))) else (bif (p0.fDst != 0) || (p0.fSrc != 0) then false else (bindP (fn54 p0) fun v12 => (bif (v2 == 0) && (v12 == 5) then (p0.fImm == 0) else (bif v2 == 0 then (p0.fOff == 0) else (bif v2 == 128 then ((p0.fOff == 0) && (decide ((1 : Int) ≤ p0.fImm))) else ((p0.fOff == 0) && (p0.fImm == 0))))))))))
def ret89 (r : Bool) : Value := .bool r
theorem c89 (p0 : Instr) (w : World) (r : Bool)  (h : fn89 p0 = r) : Ret Try.prog 89 [.agg #[.int .u8 p0.fOp, .int .u8 p0.fDst, .int .u8 p0.fSrc, .int .i16 p0.fOff, .int .i32 p0.fImm]] w ⟨[], []⟩ (fun v R => v = ret89 r ∧ R = ⟨[], []⟩) := by
 unfold fn89 at h
 refine Ret.of_body Try.func89 rfl Try.ntmps89 rfl (fun _ hx => absurd hx List.not_mem_nil) List.nodup_nil (TC.seq (TC.region (TO.u rfl rfl (TX.box rfl rfl rfl (fun b1 => (TO.u rfl rfl (TX.assign rfl rfl (TO.nil (TE.thenN rfl rfl (TC.seq (TC.region (TO.u rfl rfl (TX.loadN (i := 0) Try.isAgg27 Try.sizeOf27 rfl rfl rfl rfl ?_)))))))))))))
 obtain ⟨v2, hv2, h⟩ := bp h
 refine TO.u rfl rfl (TX.callP Try.call55 rfl (fun a w s => c55 p0 _ _  hv2) rfl (TO.u rfl rfl (TX.assign rfl rfl (TO.nil (TE.thenN rfl rfl (TC.seq (TC.seq (TC.region (TO.u rfl rfl (TX.move rfl rfl ?_))))))))))
 obtain ⟨v3, hv3, h⟩ := bp h
 refine TO.u rfl rfl (TX.callP Try.call87 rfl (fun a w s => c87 v2 _ _  hv3) rfl (TO.nil (TE.thenN rfl rfl (TC.cond rfl (fun hb4 => ?_) (fun hb4 => ?_)))))
 · replace h := it h hb4
   refine TC.seq (TC.region (TO.u rfl rfl (TX.loadN (i := 0) Try.isAgg27 Try.sizeOf27 rfl rfl rfl rfl ?_)))
   obtain ⟨v5, hv5, h⟩ := bp h
   refine TO.u rfl rfl (TX.callP Try.call86 rfl (fun a w s => c86 p0 _ _  hv5) rfl (TO.u rfl rfl (TX.move rfl rfl (TO.cutS 4 [(14, .bool (v5 && (p0.fImm == 0)))] ?_ ?_))))
   · cases hc6 : (v5)
     · exact TO.s rfl rfl rfl rfl rfl rfl (TO.s rfl rfl rfl rfl rfl rfl (TO.s rfl rfl rfl rfl rfl rfl (TO.u rfl rfl (TX.pickF rfl rfl rfl (TO.nil (TE.cutS 4 rfl rfl ⟨rfl, trivial⟩))))))
     exact TO.g rfl rfl rfl rfl (TX.fieldAddr' Try.runUnderlying27 rfl Try.sizeOf21 rfl rfl rfl (TO.g rfl rfl rfl rfl (TX.load1 (i := 0) Try.isAgg21 rfl rfl rfl rfl (TO.g rfl rfl rfl rfl (TX.ibin rfl rfl rfl rfl (TO.u rfl rfl (TX.pickT rfl rfl rfl (TO.nil (TE.cutS 4 rfl rfl ⟨rfl, trivial⟩)))))))))
   refine TO.u rfl rfl (TX.move rfl rfl ?_)
   obtain ⟨v7, hv7, h⟩ := bp h
   refine TO.cutS 9 [(24, .bool ((v5 && (p0.fImm == 0)) || ((!v7) && (p0.fSrc == 0))))] ?_ ?_
   · cases hc8 : (v5 && (p0.fImm == 0))
     · refine TO.g rfl rfl rfl rfl (TX.loadN (i := 0) Try.isAgg27 Try.sizeOf27 rfl rfl rfl rfl (TO.g rfl rfl rfl rfl (TX.callP Try.call86 rfl (fun a w s => c86 p0 _ _  hv7) rfl (TO.g rfl rfl rfl rfl (TX.not rfl rfl (TO.g rfl rfl rfl rfl (TX.move rfl rfl ?_)))))))
       cases hc9 : (!v7)
       · exact TO.s rfl rfl rfl rfl rfl rfl (TO.s rfl rfl rfl rfl rfl rfl (TO.s rfl rfl rfl rfl rfl rfl (TO.g rfl rfl rfl rfl (TX.pickF rfl rfl rfl (TO.u rfl rfl (TX.pickF rfl rfl rfl (TO.nil (TE.cutS 9 rfl rfl ⟨rfl, trivial⟩))))))))
       exact TO.g rfl rfl rfl rfl (TX.fieldAddr' Try.runUnderlying27 rfl Try.sizeOf5 rfl rfl rfl (TO.g rfl rfl rfl rfl (TX.load1 (i := 0) Try.isAgg5 rfl rfl rfl rfl (TO.g rfl rfl rfl rfl (TX.ibin rfl rfl rfl rfl (TO.g rfl rfl rfl rfl (TX.pickT rfl rfl rfl (TO.u rfl rfl (TX.pickF rfl rfl rfl (TO.nil (TE.cutS 9 rfl rfl ⟨rfl, trivial⟩)))))))))))
     exact TO.s rfl rfl rfl rfl rfl rfl (TO.s rfl rfl rfl rfl rfl rfl (TO.s rfl rfl rfl rfl rfl rfl (TO.s rfl rfl rfl rfl rfl rfl (TO.su rfl rfl rfl rfl rfl (TO.su rfl rfl rfl rfl rfl (TO.su rfl rfl rfl rfl rfl (TO.s rfl rfl rfl rfl rfl rfl (TO.u rfl rfl (TX.pickT rfl rfl rfl (TO.nil (TE.cutS 9 rfl rfl ⟨rfl, trivial⟩)))))))))))
   exact TO.u rfl rfl (TX.assign rfl rfl (TO.nil (TE.thenN rfl rfl (TC.ret (TE.thenR (TE.fin (R := ⟨[], []⟩) (TL.ret (R' := ⟨[], []⟩) Try.results89 (.cons (.tmp rfl) .nil) (subD 1 0 rfl rfl) ⟨congrArg ret89 h, rfl⟩)))))))
 replace h := ie h hb4
 refine TC.skip (TE.thenN rfl rfl (TC.seq (TC.seq (TC.region (TO.u rfl rfl (TX.fieldAddr' Try.runUnderlying27 rfl Try.sizeOf5 rfl rfl rfl (TO.u rfl rfl (TX.load1 (i := 0) Try.isAgg5 rfl rfl rfl rfl (TO.u rfl rfl (TX.ibin rfl rfl rfl rfl (TO.u rfl rfl (TX.move rfl rfl (TO.cutS 4 [(32, .bool ((p0.fDst != 0) || (p0.fSrc != 0)))] ?_ ?_)))))))))))))
 · cases hc10 : (p0.fDst != 0)
   · exact TO.g rfl rfl rfl rfl (TX.fieldAddr' Try.runUnderlying27 rfl Try.sizeOf5 rfl rfl rfl (TO.g rfl rfl rfl rfl (TX.load1 (i := 0) Try.isAgg5 rfl rfl rfl rfl (TO.g rfl rfl rfl rfl (TX.ibin rfl rfl rfl rfl (TO.u rfl rfl (TX.pickF rfl rfl rfl (TO.nil (TE.cutS 4 rfl rfl ⟨rfl, trivial⟩)))))))))
   exact TO.s rfl rfl rfl rfl rfl rfl (TO.s rfl rfl rfl rfl rfl rfl (TO.s rfl rfl rfl rfl rfl rfl (TO.u rfl rfl (TX.pickT rfl rfl rfl (TO.nil (TE.cutS 4 rfl rfl ⟨rfl, trivial⟩))))))
 refine TO.nil (TE.thenN rfl rfl (TC.cond rfl (fun hb11 => ?_) (fun hb11 => ?_)))
 · replace h := it h hb11
   exact TC.seq (TC.region (TO.u rfl rfl (TX.assign rfl rfl (TO.nil (TE.thenN rfl rfl (TC.ret (TE.thenR (TE.fin (R := ⟨[], []⟩) (TL.ret (R' := ⟨[], []⟩) Try.results89 (.cons (.tmp rfl) .nil) (subD 1 0 rfl rfl) ⟨congrArg ret89 h, rfl⟩)))))))))
 replace h := ie h hb11
 refine TC.skip (TE.thenN rfl rfl (TC.seq (TC.block (TC.seq (TC.region (TO.u rfl rfl (TX.move rfl rfl (TO.u rfl rfl (TX.ibin rfl rfl rfl rfl (TO.u rfl rfl (TX.move rfl rfl ?_)))))))))))
 obtain ⟨v12, hv12, h⟩ := bp h
 refine TO.cutS 4 [(40, .bool ((v2 == 0) && (v12 == 5)))] ?_ ?_
 · cases hc13 : (v2 == 0)
   · exact TO.s rfl rfl rfl rfl rfl rfl (TO.s rfl rfl rfl rfl rfl rfl (TO.s rfl rfl rfl rfl rfl rfl (TO.u rfl rfl (TX.pickF rfl rfl rfl (TO.nil (TE.cutS 4 rfl rfl ⟨rfl, trivial⟩))))))
   exact TO.g rfl rfl rfl rfl (TX.loadN (i := 0) Try.isAgg27 Try.sizeOf27 rfl rfl rfl rfl (TO.g rfl rfl rfl rfl (TX.callP Try.call54 rfl (fun a w s => c54 p0 _ _  hv12) rfl (TO.g rfl rfl rfl rfl (TX.ibin rfl rfl rfl rfl (TO.u rfl rfl (TX.pickT rfl rfl rfl (TO.nil (TE.cutS 4 rfl rfl ⟨rfl, trivial⟩)))))))))
 refine TO.u rfl rfl (TX.assign rfl rfl (TO.nil (TE.thenN rfl rfl (TC.cond rfl (fun hb14 => ?_) (fun hb14 => ?_)))))
 · replace h := it h hb14
   exact TC.seq (TC.region (TO.u rfl rfl (TX.fieldAddr' Try.runUnderlying27 rfl Try.sizeOf21 rfl rfl rfl (TO.u rfl rfl (TX.load1 (i := 0) Try.isAgg21 rfl rfl rfl rfl (TO.u rfl rfl (TX.ibin rfl rfl rfl rfl (TO.u rfl rfl (TX.assign rfl rfl (TO.nil (TE.thenN rfl rfl (TC.ret (TE.blockR (TE.thenR (TE.fin (R := ⟨[], []⟩) (TL.ret (R' := ⟨[], []⟩) Try.results89 (.cons (.tmp rfl) .nil) (subD 1 0 rfl rfl) ⟨congrArg ret89 h, rfl⟩))))))))))))))))
 replace h := ie h hb14
 refine TC.seq (TC.region (TO.u rfl rfl (TX.move rfl rfl (TO.u rfl rfl (TX.ibin rfl rfl rfl rfl (TO.u rfl rfl (TX.assign rfl rfl (TO.nil (TE.thenN rfl rfl (TC.cond rfl (fun hb15 => ?_) (fun hb15 => ?_)))))))))))
 · replace h := it h hb15
   exact TC.seq (TC.region (TO.u rfl rfl (TX.fieldAddr' Try.runUnderlying27 rfl Try.sizeOf25 rfl rfl rfl (TO.u rfl rfl (TX.load1 (i := 0) Try.isAgg25 rfl rfl rfl rfl (TO.u rfl rfl (TX.ibin rfl rfl rfl rfl (TO.u rfl rfl (TX.assign rfl rfl (TO.nil (TE.thenN rfl rfl (TC.ret (TE.blockR (TE.thenR (TE.fin (R := ⟨[], []⟩) (TL.ret (R' := ⟨[], []⟩) Try.results89 (.cons (.tmp rfl) .nil) (subD 1 0 rfl rfl) ⟨congrArg ret89 h, rfl⟩))))))))))))))))
 replace h := ie h hb15
 refine TC.seq (TC.region (TO.u rfl rfl (TX.move rfl rfl (TO.u rfl rfl (TX.ibin rfl rfl rfl rfl (TO.u rfl rfl (TX.assign rfl rfl (TO.nil (TE.thenN rfl rfl (TC.cond rfl (fun hb16 => ?_) (fun hb16 => ?_)))))))))))
 · replace h := it h hb16
   refine TC.seq (TC.region (TO.u rfl rfl (TX.fieldAddr' Try.runUnderlying27 rfl Try.sizeOf25 rfl rfl rfl (TO.u rfl rfl (TX.load1 (i := 0) Try.isAgg25 rfl rfl rfl rfl (TO.u rfl rfl (TX.ibin rfl rfl rfl rfl (TO.u rfl rfl (TX.move rfl rfl (TO.cutS 4 [(60, .bool ((p0.fOff == 0) && (decide ((1 : Int) ≤ p0.fImm))))] ?_ ?_))))))))))
   · cases hc17 : (p0.fOff == 0)
     · exact TO.s rfl rfl rfl rfl rfl rfl (TO.s rfl rfl rfl rfl rfl rfl (TO.s rfl rfl rfl rfl rfl rfl (TO.u rfl rfl (TX.pickF rfl rfl rfl (TO.nil (TE.cutS 4 rfl rfl ⟨rfl, trivial⟩))))))
     exact TO.g rfl rfl rfl rfl (TX.fieldAddr' Try.runUnderlying27 rfl Try.sizeOf21 rfl rfl rfl (TO.g rfl rfl rfl rfl (TX.load1 (i := 0) Try.isAgg21 rfl rfl rfl rfl (TO.g rfl rfl rfl rfl (TX.ibin rfl rfl rfl rfl (TO.u rfl rfl (TX.pickT rfl rfl rfl (TO.nil (TE.cutS 4 rfl rfl ⟨rfl, trivial⟩)))))))))
   exact TO.u rfl rfl (TX.assign rfl rfl (TO.nil (TE.thenN rfl rfl (TC.ret (TE.blockR (TE.thenR (TE.fin (R := ⟨[], []⟩) (TL.ret (R' := ⟨[], []⟩) Try.results89 (.cons (.tmp rfl) .nil) (subD 1 0 rfl rfl) ⟨congrArg ret89 h, rfl⟩))))))))
 replace h := ie h hb16
 refine TC.skip (TE.blockN (TE.thenN rfl rfl (TC.seq (TC.region (TO.u rfl rfl (TX.fieldAddr' Try.runUnderlying27 rfl Try.sizeOf25 rfl rfl rfl (TO.u rfl rfl (TX.load1 (i := 0) Try.isAgg25 rfl rfl rfl rfl (TO.u rfl rfl (TX.ibin rfl rfl rfl rfl (TO.u rfl rfl (TX.move rfl rfl (TO.cutS 4 [(68, .bool ((p0.fOff == 0) && (p0.fImm == 0)))] ?_ ?_)))))))))))))
 · cases hc18 : (p0.fOff == 0)
   · exact TO.s rfl rfl rfl rfl rfl rfl (TO.s rfl rfl rfl rfl rfl rfl (TO.s rfl rfl rfl rfl rfl rfl (TO.u rfl rfl (TX.pickF rfl rfl rfl (TO.nil (TE.cutS 4 rfl rfl ⟨rfl, trivial⟩))))))
   exact TO.g rfl rfl rfl rfl (TX.fieldAddr' Try.runUnderlying27 rfl Try.sizeOf21 rfl rfl rfl (TO.g rfl rfl rfl rfl (TX.load1 (i := 0) Try.isAgg21 rfl rfl rfl rfl (TO.g rfl rfl rfl rfl (TX.ibin rfl rfl rfl rfl (TO.u rfl rfl (TX.pickT rfl rfl rfl (TO.nil (TE.cutS 4 rfl rfl ⟨rfl, trivial⟩)))))))))
 exact TO.u rfl rfl (TX.assign rfl rfl (TO.nil (TE.thenN rfl rfl (TC.ret (TE.fin (R := ⟨[], []⟩) (TL.ret (R' := ⟨[], []⟩) Try.results89 (.cons (.tmp rfl) .nil) (subD 1 0 rfl rfl) ⟨congrArg ret89 h, rfl⟩))))))
/-- hatchway/hatchwayref03.parts -/
def fn78 (p0 : Instr) : Bool :=
  (bindP (fn54 p0) fun v2 => (bif v2 == 0 then ((p0.fOff == 0) && ((p0.fSrc == 0) || ((p0.fSrc == 1) && (decide ((0 : Int) ≤ p0.fImm))))) else (bif v2 == 1 then (p0.fImm == 0) else (bif v2 == 3 then (p0.fImm == 0) else (bif v2 == 2 then (p0.fSrc == 0) else (bif v2 == 4 then (bindP (fn88 p0) fun v11 => v11) else (bif v2 == 7 then (bindP (fn88 p0) fun v13 => v13) else (bindP (fn89 p0) fun v14 => v14))))))))
def ret78 (r : Bool) : Value := .bool r
theorem c78 (p0 : Instr) (w : World) (r : Bool)  (h : fn78 p0 = r) : Ret Try.prog 78 [.agg #[.int .u8 p0.fOp, .int .u8 p0.fDst, .int .u8 p0.fSrc, .int .i16 p0.fOff, .int .i32 p0.fImm]] w ⟨[], []⟩ (fun v R => v = ret78 r ∧ R = ⟨[], []⟩) := by
 unfold fn78 at h
 refine Ret.of_body Try.func78 rfl Try.ntmps78 rfl (fun _ hx => absurd hx List.not_mem_nil) List.nodup_nil (TC.seq (TC.region (TO.u rfl rfl (TX.box rfl rfl rfl (fun b1 => (TO.u rfl rfl (TX.assign rfl rfl (TO.nil (TE.thenN rfl rfl (TC.seq (TC.seq (TC.region (TO.u rfl rfl (TX.loadN (i := 0) Try.isAgg27 Try.sizeOf27 rfl rfl rfl rfl ?_))))))))))))))
 obtain ⟨v2, hv2, h⟩ := bp h
 refine TO.u rfl rfl (TX.callP Try.call54 rfl (fun a w s => c54 p0 _ _  hv2) rfl (TO.nil (TE.thenN rfl rfl (TC.block (TC.seq (TC.region (TO.u rfl rfl (TX.ibin rfl rfl rfl rfl (TO.u rfl rfl (TX.assign rfl rfl (TO.nil (TE.thenN rfl rfl (TC.cond rfl (fun hb3 => ?_) (fun hb3 => ?_))))))))))))))
 · replace h := it h hb3
   refine TC.seq (TC.region (TO.u rfl rfl (TX.fieldAddr' Try.runUnderlying27 rfl Try.sizeOf25 rfl rfl rfl (TO.u rfl rfl (TX.load1 (i := 0) Try.isAgg25 rfl rfl rfl rfl (TO.u rfl rfl (TX.ibin rfl rfl rfl rfl (TO.u rfl rfl (TX.move rfl rfl (TO.cutS 14 [(24, .bool ((p0.fOff == 0) && ((p0.fSrc == 0) || ((p0.fSrc == 1) && (decide ((0 : Int) ≤ p0.fImm))))))] ?_ ?_))))))))))
   · cases hc4 : (p0.fOff == 0)
     · exact TO.s rfl rfl rfl rfl rfl rfl (TO.s rfl rfl rfl rfl rfl rfl (TO.s rfl rfl rfl rfl rfl rfl (TO.s rfl rfl rfl rfl rfl rfl (TO.su rfl rfl rfl rfl rfl (TO.su rfl rfl rfl rfl rfl (TO.su rfl rfl rfl rfl rfl (TO.su rfl rfl rfl rfl rfl (TO.su rfl rfl rfl rfl rfl (TO.su rfl rfl rfl rfl rfl (TO.su rfl rfl rfl rfl rfl (TO.su rfl rfl rfl rfl rfl (TO.s rfl rfl rfl rfl rfl rfl (TO.u rfl rfl (TX.pickF rfl rfl rfl (TO.nil (TE.cutS 14 rfl rfl ⟨rfl, trivial⟩))))))))))))))))
     refine TO.g rfl rfl rfl rfl (TX.fieldAddr' Try.runUnderlying27 rfl Try.sizeOf5 rfl rfl rfl (TO.g rfl rfl rfl rfl (TX.load1 (i := 0) Try.isAgg5 rfl rfl rfl rfl (TO.g rfl rfl rfl rfl (TX.ibin rfl rfl rfl rfl (TO.g rfl rfl rfl rfl (TX.move rfl rfl ?_)))))))
     cases hc5 : (p0.fSrc == 0)
     · refine TO.g rfl rfl rfl rfl (TX.fieldAddr' Try.runUnderlying27 rfl Try.sizeOf5 rfl rfl rfl (TO.g rfl rfl rfl rfl (TX.load1 (i := 0) Try.isAgg5 rfl rfl rfl rfl (TO.g rfl rfl rfl rfl (TX.ibin rfl rfl rfl rfl (TO.g rfl rfl rfl rfl (TX.move rfl rfl ?_)))))))
       cases hc6 : (p0.fSrc == 1)
       · exact TO.s rfl rfl rfl rfl rfl rfl (TO.s rfl rfl rfl rfl rfl rfl (TO.s rfl rfl rfl rfl rfl rfl (TO.g rfl rfl rfl rfl (TX.pickF rfl rfl rfl (TO.g rfl rfl rfl rfl (TX.pickF rfl rfl rfl (TO.u rfl rfl (TX.pickT rfl rfl rfl (TO.nil (TE.cutS 14 rfl rfl ⟨rfl, trivial⟩))))))))))
       exact TO.g rfl rfl rfl rfl (TX.fieldAddr' Try.runUnderlying27 rfl Try.sizeOf21 rfl rfl rfl (TO.g rfl rfl rfl rfl (TX.load1 (i := 0) Try.isAgg21 rfl rfl rfl rfl (TO.g rfl rfl rfl rfl (TX.ibin rfl rfl rfl rfl (TO.g rfl rfl rfl rfl (TX.pickT rfl rfl rfl (TO.g rfl rfl rfl rfl (TX.pickF rfl rfl rfl (TO.u rfl rfl (TX.pickT rfl rfl rfl (TO.nil (TE.cutS 14 rfl rfl ⟨rfl, trivial⟩)))))))))))))
     exact TO.s rfl rfl rfl rfl rfl rfl (TO.s rfl rfl rfl rfl rfl rfl (TO.s rfl rfl rfl rfl rfl rfl (TO.s rfl rfl rfl rfl rfl rfl (TO.su rfl rfl rfl rfl rfl (TO.su rfl rfl rfl rfl rfl (TO.su rfl rfl rfl rfl rfl (TO.s rfl rfl rfl rfl rfl rfl (TO.g rfl rfl rfl rfl (TX.pickT rfl rfl rfl (TO.u rfl rfl (TX.pickT rfl rfl rfl (TO.nil (TE.cutS 14 rfl rfl ⟨rfl, trivial⟩)))))))))))))
   exact TO.u rfl rfl (TX.assign rfl rfl (TO.nil (TE.thenN rfl rfl (TC.ret (TE.blockR (TE.thenR (TE.fin (R := ⟨[], []⟩) (TL.ret (R' := ⟨[], []⟩) Try.results78 (.cons (.tmp rfl) .nil) (subD 1 0 rfl rfl) ⟨congrArg ret78 h, rfl⟩))))))))
 replace h := ie h hb3
 refine TC.seq (TC.seq (TC.region (TO.u rfl rfl (TX.ibin rfl rfl rfl rfl (TO.u rfl rfl (TX.assign rfl rfl (TO.nil (TE.thenN rfl rfl (TC.cond rfl (fun hb7 => ?_) (fun hb7 => ?_))))))))))
 · replace h := it h hb7
   exact TC.skip (TE.thenN rfl rfl (TC.condT' rfl hb7 (TC.seq (TC.region (TO.u rfl rfl (TX.fieldAddr' Try.runUnderlying27 rfl Try.sizeOf21 rfl rfl rfl (TO.u rfl rfl (TX.load1 (i := 0) Try.isAgg21 rfl rfl rfl rfl (TO.u rfl rfl (TX.ibin rfl rfl rfl rfl (TO.u rfl rfl (TX.assign rfl rfl (TO.nil (TE.thenN rfl rfl (TC.ret (TE.blockR (TE.thenR (TE.fin (R := ⟨[], []⟩) (TL.ret (R' := ⟨[], []⟩) Try.results78 (.cons (.tmp rfl) .nil) (subD 1 0 rfl rfl) ⟨congrArg ret78 h, rfl⟩)))))))))))))))))))
 replace h := ie h hb7
 refine TC.region (TO.u rfl rfl (TX.ibin rfl rfl rfl rfl (TO.u rfl rfl (TX.assign rfl rfl (TO.nil (TE.thenN rfl rfl (TC.cond rfl (fun hb8 => ?_) (fun hb8 => ?_))))))))
 · replace h := it h hb8
   exact TC.seq (TC.region (TO.u rfl rfl (TX.fieldAddr' Try.runUnderlying27 rfl Try.sizeOf21 rfl rfl rfl (TO.u rfl rfl (TX.load1 (i := 0) Try.isAgg21 rfl rfl rfl rfl (TO.u rfl rfl (TX.ibin rfl rfl rfl rfl (TO.u rfl rfl (TX.assign rfl rfl (TO.nil (TE.thenN rfl rfl (TC.ret (TE.blockR (TE.thenR (TE.fin (R := ⟨[], []⟩) (TL.ret (R' := ⟨[], []⟩) Try.results78 (.cons (.tmp rfl) .nil) (subD 1 0 rfl rfl) ⟨congrArg ret78 h, rfl⟩))))))))))))))))
 replace h := ie h hb8
 refine TC.seq (TC.region (TO.u rfl rfl (TX.ibin rfl rfl rfl rfl (TO.u rfl rfl (TX.assign rfl rfl (TO.nil (TE.thenN rfl rfl (TC.cond rfl (fun hb9 => ?_) (fun hb9 => ?_)))))))))
 · replace h := it h hb9
   exact TC.seq (TC.region (TO.u rfl rfl (TX.fieldAddr' Try.runUnderlying27 rfl Try.sizeOf5 rfl rfl rfl (TO.u rfl rfl (TX.load1 (i := 0) Try.isAgg5 rfl rfl rfl rfl (TO.u rfl rfl (TX.ibin rfl rfl rfl rfl (TO.u rfl rfl (TX.assign rfl rfl (TO.nil (TE.thenN rfl rfl (TC.ret (TE.blockR (TE.thenR (TE.fin (R := ⟨[], []⟩) (TL.ret (R' := ⟨[], []⟩) Try.results78 (.cons (.tmp rfl) .nil) (subD 1 0 rfl rfl) ⟨congrArg ret78 h, rfl⟩))))))))))))))))
 replace h := ie h hb9
 refine TC.seq (TC.seq (TC.region (TO.u rfl rfl (TX.ibin rfl rfl rfl rfl (TO.u rfl rfl (TX.assign rfl rfl (TO.nil (TE.thenN rfl rfl (TC.cond rfl (fun hb10 => ?_) (fun hb10 => ?_))))))))))
 · replace h := it h hb10
   refine TC.skip (TE.thenN rfl rfl (TC.condT' rfl hb10 (TC.seq (TC.region (TO.u rfl rfl (TX.loadN (i := 0) Try.isAgg27 Try.sizeOf27 rfl rfl rfl rfl ?_))))))
   obtain ⟨v11, hv11, h⟩ := bp h
   exact TO.u rfl rfl (TX.callP Try.call88 rfl (fun a w s => c88 p0 _ _  hv11) rfl (TO.u rfl rfl (TX.assign rfl rfl (TO.nil (TE.thenN rfl rfl (TC.ret (TE.blockR (TE.thenR (TE.fin (R := ⟨[], []⟩) (TL.ret (R' := ⟨[], []⟩) Try.results78 (.cons (.tmp rfl) .nil) (subD 1 0 rfl rfl) ⟨congrArg ret78 h, rfl⟩))))))))))
 replace h := ie h hb10
 refine TC.region (TO.u rfl rfl (TX.ibin rfl rfl rfl rfl (TO.u rfl rfl (TX.assign rfl rfl (TO.nil (TE.thenN rfl rfl (TC.cond rfl (fun hb12 => ?_) (fun hb12 => ?_))))))))
 · replace h := it h hb12
   refine TC.seq (TC.region (TO.u rfl rfl (TX.loadN (i := 0) Try.isAgg27 Try.sizeOf27 rfl rfl rfl rfl ?_)))
   obtain ⟨v13, hv13, h⟩ := bp h
   exact TO.u rfl rfl (TX.callP Try.call88 rfl (fun a w s => c88 p0 _ _  hv13) rfl (TO.u rfl rfl (TX.assign rfl rfl (TO.nil (TE.thenN rfl rfl (TC.ret (TE.blockR (TE.thenR (TE.fin (R := ⟨[], []⟩) (TL.ret (R' := ⟨[], []⟩) Try.results78 (.cons (.tmp rfl) .nil) (subD 1 0 rfl rfl) ⟨congrArg ret78 h, rfl⟩))))))))))
 replace h := ie h hb12
 refine TC.skip (TE.blockN (TE.thenN rfl rfl (TC.seq (TC.region (TO.u rfl rfl (TX.loadN (i := 0) Try.isAgg27 Try.sizeOf27 rfl rfl rfl rfl ?_))))))
 obtain ⟨v14, hv14, h⟩ := bp h
 exact TO.u rfl rfl (TX.callP Try.call89 rfl (fun a w s => c89 p0 _ _  hv14) rfl (TO.u rfl rfl (TX.assign rfl rfl (TO.nil (TE.thenN rfl rfl (TC.ret (TE.fin (R := ⟨[], []⟩) (TL.ret (R' := ⟨[], []⟩) Try.results78 (.cons (.tmp rfl) .nil) (subD 1 0 rfl rfl) ⟨congrArg ret78 h, rfl⟩))))))))
/-- hatchway/hatchwayref03.Jumps -/
def fn58 (p0 : Instr) (p1 : Int) : Int × Bool :=
  (bindP (fn54 p0) fun v2 => (bindP (fn55 p0) fun v3 => (bif (((v2 != 5) && (v2 != 6)) || (v3 == 128)) || (v3 == 144) then (0, false) else (bif (v3 == 0) && (v2 == 6) then (IntKind.i64.wrap ((IntKind.i64.wrap (p1 + 1)) + (IntKind.i64.wrap p0.fImm)), true) else (IntKind.i64.wrap ((IntKind.i64.wrap (p1 + 1)) + (IntKind.i64.wrap p0.fOff)), true)))))
def ret58 (r : Int × Bool) : Value := .tuple #[.int .i64 r.1, .bool r.2]
theorem c58 (p0 : Instr) (p1 : Int) (w : World) (r : Int × Bool)  (h : fn58 p0 p1 = r) : Ret Try.prog 58 [.agg #[.int .u8 p0.fOp, .int .u8 p0.fDst, .int .u8 p0.fSrc, .int .i16 p0.fOff, .int .i32 p0.fImm], .int .i64 p1] w ⟨[], []⟩ (fun v R => v = ret58 r ∧ R = ⟨[], []⟩) := by
 unfold fn58 at h
 refine Ret.of_body Try.func58 rfl Try.ntmps58 rfl (fun _ hx => absurd hx List.not_mem_nil) List.nodup_nil (TC.seq (TC.region (TO.u rfl rfl (TX.box rfl rfl rfl (fun b1 => (TO.u rfl rfl (TX.assign rfl rfl (TO.u rfl rfl (TX.assign rfl rfl (TO.nil (TE.thenN rfl rfl (TC.seq (TC.keep (L' := [(1, .int .i64 p1), (2, .pointer (some ⟨b1, 0, none⟩))]) ⟨rfl, rfl, trivial⟩ ?_)))))))))))))
 obtain ⟨v2, hv2, h⟩ := bp h
 refine TC.draw hmix 3 [.agg #[.int .u8 p0.fOp, .int .u8 p0.fDst, .int .u8 p0.fSrc, .int .i16 p0.fOff, .int .i32 p0.fImm], .int .u8 v2, .agg #[.int .u8 p0.fOp, .int .u8 p0.fDst, .int .u8 p0.fSrc, .int .i16 p0.fOff, .int .i32 p0.fImm]] [(9, .int .u8 v2), (10, .agg #[.int .u8 p0.fOp, .int .u8 p0.fDst, .int .u8 p0.fSrc, .int .i16 p0.fOff, .int .i32 p0.fImm])] rfl rfl rfl rfl ?_ (.cons 1 rfl rfl rfl (.cons 2 rfl rfl rfl .nil)) ?_
 · exact QAll.u [(2, .pointer (some ⟨b1, 0, none⟩))] (.old rfl .nil) rfl rfl (QV.loadN (i := 0) Try.isAgg27 Try.sizeOf27 rfl rfl rfl).s rfl (QAll.u [(8, .agg #[.int .u8 p0.fOp, .int .u8 p0.fDst, .int .u8 p0.fSrc, .int .i16 p0.fOff, .int .i32 p0.fImm])] (.dat 0 rfl rfl rfl .nil) rfl rfl (QS.callP Try.call54 rfl (fun a w s => c54 p0 _ _  hv2)) rfl (QAll.u [(2, .pointer (some ⟨b1, 0, none⟩))] (.old rfl .nil) rfl rfl (QV.loadN (i := 0) Try.isAgg27 Try.sizeOf27 rfl rfl rfl).s rfl (QAll.nil)))
 obtain ⟨v3, hv3, h⟩ := bp h
 refine TO.u rfl rfl (TX.callP Try.call55 rfl (fun a w s => c55 p0 _ _  hv3) rfl (TO.u rfl rfl (TX.assign rfl rfl (TO.u rfl rfl (TX.assign rfl rfl (TO.nil (TE.thenN rfl rfl (TC.seq (TC.seq (TC.region (TO.u rfl rfl (TX.move rfl rfl (TO.u rfl rfl (TX.ibin rfl rfl rfl rfl (TO.u rfl rfl (TX.move rfl rfl (TO.cutS 3 [(17, .bool ((v2 != 5) && (v2 != 6)))] ?_ ?_)))))))))))))))))
 · cases hc4 : (v2 != 5)
   · exact TO.s rfl rfl rfl rfl rfl rfl (TO.s rfl rfl rfl rfl rfl rfl (TO.u rfl rfl (TX.pickF rfl rfl rfl (TO.nil (TE.cutS 3 rfl rfl ⟨rfl, trivial⟩)))))
   exact TO.g rfl rfl rfl rfl (TX.move rfl rfl (TO.g rfl rfl rfl rfl (TX.ibin rfl rfl rfl rfl (TO.u rfl rfl (TX.pickT rfl rfl rfl (TO.nil (TE.cutS 3 rfl rfl ⟨rfl, trivial⟩)))))))
 refine TO.u rfl rfl (TX.move rfl rfl (TO.cutS 3 [(21, .bool (((v2 != 5) && (v2 != 6)) || (v3 == 128)))] ?_ ?_))
 · cases hc5 : ((v2 != 5) && (v2 != 6))
   · exact TO.g rfl rfl rfl rfl (TX.move rfl rfl (TO.g rfl rfl rfl rfl (TX.ibin rfl rfl rfl rfl (TO.u rfl rfl (TX.pickF rfl rfl rfl (TO.nil (TE.cutS 3 rfl rfl ⟨rfl, trivial⟩)))))))
   exact TO.s rfl rfl rfl rfl rfl rfl (TO.s rfl rfl rfl rfl rfl rfl (TO.u rfl rfl (TX.pickT rfl rfl rfl (TO.nil (TE.cutS 3 rfl rfl ⟨rfl, trivial⟩)))))
 refine TO.u rfl rfl (TX.move rfl rfl (TO.cutS 3 [(25, .bool ((((v2 != 5) && (v2 != 6)) || (v3 == 128)) || (v3 == 144)))] ?_ ?_))
 · cases hc6 : (((v2 != 5) && (v2 != 6)) || (v3 == 128))
   · exact TO.g rfl rfl rfl rfl (TX.move rfl rfl (TO.g rfl rfl rfl rfl (TX.ibin rfl rfl rfl rfl (TO.u rfl rfl (TX.pickF rfl rfl rfl (TO.nil (TE.cutS 3 rfl rfl ⟨rfl, trivial⟩)))))))
   exact TO.s rfl rfl rfl rfl rfl rfl (TO.s rfl rfl rfl rfl rfl rfl (TO.u rfl rfl (TX.pickT rfl rfl rfl (TO.nil (TE.cutS 3 rfl rfl ⟨rfl, trivial⟩)))))
 refine TO.nil (TE.thenN rfl rfl (TC.cond rfl (fun hb7 => ?_) (fun hb7 => ?_)))
 · replace h := it h hb7
   exact TC.seq (TC.region (TO.u rfl rfl (TX.assign rfl rfl (TO.u rfl rfl (TX.assign rfl rfl (TO.nil (TE.thenN rfl rfl (TC.ret (TE.thenR (TE.fin (R := ⟨[], []⟩) (TL.ret (R' := ⟨[], []⟩) Try.results58 (.cons (.tmp rfl) (.cons (.tmp rfl) .nil)) (subD 1 0 rfl rfl) ⟨congrArg ret58 h, rfl⟩)))))))))))
 replace h := ie h hb7
 refine TC.skip (TE.thenN rfl rfl (TC.seq (TC.seq (TC.region (TO.u rfl rfl (TX.move rfl rfl (TO.u rfl rfl (TX.ibin rfl rfl rfl rfl (TO.u rfl rfl (TX.move rfl rfl (TO.cutS 3 [(31, .bool ((v3 == 0) && (v2 == 6)))] ?_ ?_)))))))))))
 · cases hc8 : (v3 == 0)
   · exact TO.s rfl rfl rfl rfl rfl rfl (TO.s rfl rfl rfl rfl rfl rfl (TO.u rfl rfl (TX.pickF rfl rfl rfl (TO.nil (TE.cutS 3 rfl rfl ⟨rfl, trivial⟩)))))
   exact TO.g rfl rfl rfl rfl (TX.move rfl rfl (TO.g rfl rfl rfl rfl (TX.ibin rfl rfl rfl rfl (TO.u rfl rfl (TX.pickT rfl rfl rfl (TO.nil (TE.cutS 3 rfl rfl ⟨rfl, trivial⟩)))))))
 refine TO.nil (TE.thenN rfl rfl (TC.cond rfl (fun hb9 => ?_) (fun hb9 => ?_)))
 · replace h := it h hb9
   exact TC.seq (TC.region (TO.u rfl rfl (TX.move rfl rfl (TO.u rfl rfl (TX.ibin rfl rfl rfl rfl (TO.u rfl rfl (TX.fieldAddr' Try.runUnderlying27 rfl Try.sizeOf21 rfl rfl rfl (TO.u rfl rfl (TX.load1 (i := 0) Try.isAgg21 rfl rfl rfl rfl (TO.u rfl rfl (TX.conv Try.runUnderlying21 Try.runUnderlying3 rfl rfl (TO.u rfl rfl (TX.ibin rfl rfl rfl rfl (TO.u rfl rfl (TX.assign rfl rfl (TO.u rfl rfl (TX.assign rfl rfl (TO.nil (TE.thenN rfl rfl (TC.ret (TE.thenR (TE.fin (R := ⟨[], []⟩) (TL.ret (R' := ⟨[], []⟩) Try.results58 (.cons (.tmp rfl) (.cons (.tmp rfl) .nil)) (subD 1 0 rfl rfl) ⟨congrArg ret58 h, rfl⟩)))))))))))))))))))))))
 replace h := ie h hb9
 exact TC.skip (TE.thenN rfl rfl (TC.seq (TC.region (TO.u rfl rfl (TX.move rfl rfl (TO.u rfl rfl (TX.ibin rfl rfl rfl rfl (TO.u rfl rfl (TX.fieldAddr' Try.runUnderlying27 rfl Try.sizeOf25 rfl rfl rfl (TO.u rfl rfl (TX.load1 (i := 0) Try.isAgg25 rfl rfl rfl rfl (TO.u rfl rfl (TX.conv Try.runUnderlying25 Try.runUnderlying3 rfl rfl (TO.u rfl rfl (TX.ibin rfl rfl rfl rfl (TO.u rfl rfl (TX.assign rfl rfl (TO.u rfl rfl (TX.assign rfl rfl (TO.nil (TE.thenN rfl rfl (TC.ret (TE.fin (R := ⟨[], []⟩) (TL.ret (R' := ⟨[], []⟩) Try.results58 (.cons (.tmp rfl) (.cons (.tmp rfl) .nil)) (subD 1 0 rfl rfl) ⟨congrArg ret58 h, rfl⟩))))))))))))))))))))))))
/-- hatchway/hatchwayref03.one -/
def fn53 (p0 : List Instr) (p1 : List Bool) (p2 : Int) : Option (Int) :=
  (bif inb p2 p0.length then (bindP (fn76 (gt p0 p2)) fun v3 => (bif !v3 then (some 20) else (bindP (fn77 (gt p0 p2)) fun v6 => (bif ((decide ((10 : Int) < ((gt p0 p2).fDst))) || (decide ((10 : Int) < ((gt p0 p2).fSrc)))) || ((((gt p0 p2).fDst) == 10) && v6) then (some 21) else (bindP (fn78 (gt p0 p2)) fun v10 => (bif !v10 then (some 22) else (bindP (fn71 (gt p0 p2)) fun v12 => (bif v12 then (bif decide ((p0.length : Int) ≤ (IntKind.i64.wrap (p2 + 1))) then (some 23) else (bif inb (IntKind.i64.wrap (p2 + 1)) p0.length then (bif (!((((gt p0 (IntKind.i64.wrap (p2 + 1))).fOp) == 0) && ((((gt p0 (IntKind.i64.wrap (p2 + 1))).fDst) == 0) && ((((gt p0 (IntKind.i64.wrap (p2 + 1))).fSrc) == 0) && ((((gt p0 (IntKind.i64.wrap (p2 + 1))).fOff) == 0) && (((0 : Int) == 0) && true)))))) || ((((gt p0 p2).fSrc) == 1) && (((gt p0 (IntKind.i64.wrap (p2 + 1))).fImm) != 0)) then (some 22) else (bindP (fn58 (gt p0 p2) p2) fun v20 => (bif bif v20.2 then (bif decide (v20.1 < 0) then true else (bif decide ((p0.length : Int) ≤ v20.1) then true else (inb v20.1 p1.length))) else true then (bif v20.2 && ((decide (v20.1 < 0)) || ((decide ((p0.length : Int) ≤ v20.1)) || (!(gt p1 v20.1)))) then (some 23) else (some 0)) else none))) else none)) else (bindP (fn58 (gt p0 p2) p2) fun v26 => (bif bif v26.2 then (bif decide (v26.1 < 0) then true else (bif decide ((p0.length : Int) ≤ v26.1) then true else (inb v26.1 p1.length))) else true then (bif v26.2 && ((decide (v26.1 < 0)) || ((decide ((p0.length : Int) ≤ v26.1)) || (!(gt p1 v26.1)))) then (some 23) else (some 0)) else none)))))))))) else none)
def ret53 (r : Int) : Value := .int .i64 r
set_option maxHeartbeats 8000000 in
theorem c53 (sp_0 : Option Addr) (n_0 cap_0 : Nat) (p0 : List Instr) (sp_1 : Option Addr) (n_1 cap_1 : Nat) (p1 : List Bool) (p2 : Int) (w : World) (r : Int) (qn0 : p0.length = n_0) (qc0 : p0.length ≤ cap_0) (qp0 : RdF Instr.E w [] sp_0 p0) (qn1 : p1.length = n_1) (qc1 : p1.length ≤ cap_1) (qp1 : RdF En.bool w [] sp_1 p1) (h : fn53 p0 p1 p2 = some r) : Ret Try.prog 53 [.slice sp_0 n_0 cap_0, .slice sp_1 n_1 cap_1, .int .i64 p2] w ⟨[], []⟩ (fun v R => v = ret53 r ∧ R = ⟨[], []⟩) := by
 unfold fn53 at h
 refine Ret.of_body Try.func53 rfl Try.ntmps53 rfl (fun _ hx => absurd hx List.not_mem_nil) List.nodup_nil (TC.seq (TC.region (TO.u rfl rfl (TX.assign rfl rfl (TO.nil (TE.thenN rfl rfl (TC.seq (TC.region (TO.u rfl rfl (TX.move rfl rfl (TO.u rfl rfl (TX.move rfl rfl ?_))))))))))))
 obtain ⟨hk1, h⟩ := ck h
 refine TO.u rfl rfl (TX.indexR (N := Instr.E) Try.runUnderlying24 Try.sizeOf27 rfl qn0 rfl (fun a w s => qp0 w s.ext) hk1 rfl (TO.u rfl rfl (TX.loadRN (N := Instr.E) Try.isAgg27 Try.sizeOf27 rfl (fun a w s => qp0 w s.ext) hk1 rfl rfl (TO.u rfl rfl (TX.alloc Try.zeroValue27 rfl rfl (fun b2 => (TO.u rfl rfl (TX.store (i := 0) Try.sizeOf27 rfl rfl rfl rfl rfl rfl rfl rfl (TO.nil (TE.thenN rfl rfl (TC.seq (TC.seq (TC.region (TO.u rfl rfl (TX.loadN (i := 0) Try.isAgg27 Try.sizeOf27 rfl rfl rfl rfl ?_)))))))))))))))
 obtain ⟨v3, hv3, h⟩ := bp h
 refine TO.u rfl rfl (TX.callP Try.call76 rfl (fun a w s => c76 (gt p0 p2) _ _  hv3) rfl (TO.u rfl rfl (TX.not rfl rfl (TO.nil (TE.thenN rfl rfl (TC.cond rfl (fun hb4 => ?_) (fun hb4 => ?_)))))))
 · replace h := it h hb4
   exact TC.seq (TC.region (TO.u rfl rfl (TX.assign rfl rfl (TO.nil (TE.thenN rfl rfl (TC.ret (TE.thenR (TE.fin (R := ⟨[], []⟩) (TL.ret (R' := ⟨[], []⟩) Try.results53 (.cons (.tmp rfl) .nil) (subD 1 0 rfl rfl) ⟨congrArg ret53 (Option.some.inj h), rfl⟩)))))))))
 replace h := ie h hb4
 refine TC.skip (TE.thenN rfl rfl (TC.seq (TC.seq (TC.region (TO.u rfl rfl (TX.fieldAddr' Try.runUnderlying27 rfl Try.sizeOf5 rfl rfl rfl (TO.u rfl rfl (TX.load1 (i := 0) Try.isAgg5 rfl rfl rfl rfl (TO.u rfl rfl (TX.ibin rfl rfl rfl rfl (TO.u rfl rfl (TX.move rfl rfl (TO.cutS 4 [(25, .bool ((decide ((10 : Int) < ((gt p0 p2).fDst))) || (decide ((10 : Int) < ((gt p0 p2).fSrc)))))] ?_ ?_)))))))))))))
 · cases hc5 : (decide ((10 : Int) < ((gt p0 p2).fDst)))
   · exact TO.g rfl rfl rfl rfl (TX.fieldAddr' Try.runUnderlying27 rfl Try.sizeOf5 rfl rfl rfl (TO.g rfl rfl rfl rfl (TX.load1 (i := 0) Try.isAgg5 rfl rfl rfl rfl (TO.g rfl rfl rfl rfl (TX.ibin rfl rfl rfl rfl (TO.u rfl rfl (TX.pickF rfl rfl rfl (TO.nil (TE.cutS 4 rfl rfl ⟨rfl, trivial⟩)))))))))
   exact TO.s rfl rfl rfl rfl rfl rfl (TO.s rfl rfl rfl rfl rfl rfl (TO.s rfl rfl rfl rfl rfl rfl (TO.u rfl rfl (TX.pickT rfl rfl rfl (TO.nil (TE.cutS 4 rfl rfl ⟨rfl, trivial⟩))))))
 refine TO.u rfl rfl (TX.move rfl rfl ?_)
 obtain ⟨v6, hv6, h⟩ := bp h
 refine TO.cutS 8 [(34, .bool (((decide ((10 : Int) < ((gt p0 p2).fDst))) || (decide ((10 : Int) < ((gt p0 p2).fSrc)))) || ((((gt p0 p2).fDst) == 10) && v6)))] ?_ ?_
 · cases hc7 : ((decide ((10 : Int) < ((gt p0 p2).fDst))) || (decide ((10 : Int) < ((gt p0 p2).fSrc))))
   · refine TO.g rfl rfl rfl rfl (TX.fieldAddr' Try.runUnderlying27 rfl Try.sizeOf5 rfl rfl rfl (TO.g rfl rfl rfl rfl (TX.load1 (i := 0) Try.isAgg5 rfl rfl rfl rfl (TO.g rfl rfl rfl rfl (TX.ibin rfl rfl rfl rfl (TO.g rfl rfl rfl rfl (TX.move rfl rfl ?_)))))))
     cases hc8 : (((gt p0 p2).fDst) == 10)
     · exact TO.s rfl rfl rfl rfl rfl rfl (TO.s rfl rfl rfl rfl rfl rfl (TO.g rfl rfl rfl rfl (TX.pickF rfl rfl rfl (TO.u rfl rfl (TX.pickF rfl rfl rfl (TO.nil (TE.cutS 8 rfl rfl ⟨rfl, trivial⟩)))))))
     exact TO.g rfl rfl rfl rfl (TX.loadN (i := 0) Try.isAgg27 Try.sizeOf27 rfl rfl rfl rfl (TO.g rfl rfl rfl rfl (TX.callP Try.call77 rfl (fun a w s => c77 (gt p0 p2) _ _  hv6) rfl (TO.g rfl rfl rfl rfl (TX.pickT rfl rfl rfl (TO.u rfl rfl (TX.pickF rfl rfl rfl (TO.nil (TE.cutS 8 rfl rfl ⟨rfl, trivial⟩)))))))))
   exact TO.s rfl rfl rfl rfl rfl rfl (TO.s rfl rfl rfl rfl rfl rfl (TO.s rfl rfl rfl rfl rfl rfl (TO.s rfl rfl rfl rfl rfl rfl (TO.su rfl rfl rfl rfl rfl (TO.su rfl rfl rfl rfl rfl (TO.s rfl rfl rfl rfl rfl rfl (TO.u rfl rfl (TX.pickT rfl rfl rfl (TO.nil (TE.cutS 8 rfl rfl ⟨rfl, trivial⟩))))))))))
 refine TO.nil (TE.thenN rfl rfl (TC.cond rfl (fun hb9 => ?_) (fun hb9 => ?_)))
 · replace h := it h hb9
   exact TC.seq (TC.region (TO.u rfl rfl (TX.assign rfl rfl (TO.nil (TE.thenN rfl rfl (TC.ret (TE.thenR (TE.fin (R := ⟨[], []⟩) (TL.ret (R' := ⟨[], []⟩) Try.results53 (.cons (.tmp rfl) .nil) (subD 1 0 rfl rfl) ⟨congrArg ret53 (Option.some.inj h), rfl⟩)))))))))
 replace h := ie h hb9
 refine TC.skip (TE.thenN rfl rfl (TC.seq (TC.seq (TC.region (TO.u rfl rfl (TX.loadN (i := 0) Try.isAgg27 Try.sizeOf27 rfl rfl rfl rfl ?_))))))
 obtain ⟨v10, hv10, h⟩ := bp h
 refine TO.u rfl rfl (TX.callP Try.call78 rfl (fun a w s => c78 (gt p0 p2) _ _  hv10) rfl (TO.u rfl rfl (TX.not rfl rfl (TO.nil (TE.thenN rfl rfl (TC.cond rfl (fun hb11 => ?_) (fun hb11 => ?_)))))))
 · replace h := it h hb11
   exact TC.seq (TC.region (TO.u rfl rfl (TX.assign rfl rfl (TO.nil (TE.thenN rfl rfl (TC.ret (TE.thenR (TE.fin (R := ⟨[], []⟩) (TL.ret (R' := ⟨[], []⟩) Try.results53 (.cons (.tmp rfl) .nil) (subD 1 0 rfl rfl) ⟨congrArg ret53 (Option.some.inj h), rfl⟩)))))))))
 replace h := ie h hb11
 refine TC.skip (TE.thenN rfl rfl (TC.seq (TC.seq (TC.region (TO.u rfl rfl (TX.loadN (i := 0) Try.isAgg27 Try.sizeOf27 rfl rfl rfl rfl ?_))))))
 obtain ⟨v12, hv12, h⟩ := bp h
 refine TO.u rfl rfl (TX.callP Try.call71 rfl (fun a w s => c71 (gt p0 p2) _ _  hv12) rfl (TO.nil (TE.thenN rfl rfl (TC.cond rfl (fun hb13 => ?_) (fun hb13 => ?_)))))
 · replace h := it h hb13
   refine TC.seq (TC.seq (TC.region (TO.u rfl rfl (TX.move rfl rfl (TO.u rfl rfl (TX.ibin rfl rfl rfl rfl (TO.u rfl rfl (TX.move rfl rfl (TO.u rfl rfl (TX.lenS (xs := p0) Try.runUnderlying24 rfl qn0 rfl (TO.u rfl rfl (TX.ibin rfl rfl rfl rfl (TO.nil (TE.thenN rfl rfl (TC.cond rfl (fun hb14 => ?_) (fun hb14 => ?_))))))))))))))))
   · replace h := it h hb14
     exact TC.seq (TC.region (TO.u rfl rfl (TX.assign rfl rfl (TO.nil (TE.thenN rfl rfl (TC.ret (TE.thenR (TE.thenR (TE.fin (R := ⟨[], []⟩) (TL.ret (R' := ⟨[], []⟩) Try.results53 (.cons (.tmp rfl) .nil) (subD 1 0 rfl rfl) ⟨congrArg ret53 (Option.some.inj h), rfl⟩))))))))))
   replace h := ie h hb14
   refine TC.skip (TE.thenN rfl rfl (TC.seq (TC.region (TO.u rfl rfl (TX.move rfl rfl (TO.u rfl rfl (TX.move rfl rfl (TO.u rfl rfl (TX.ibin rfl rfl rfl rfl ?_)))))))))
   obtain ⟨hk15, h⟩ := ck h
   refine TO.u rfl rfl (TX.indexR (N := Instr.E) Try.runUnderlying24 Try.sizeOf27 rfl qn0 rfl (fun a w s => qp0 w s.ext) hk15 rfl (TO.u rfl rfl (TX.loadRN (N := Instr.E) Try.isAgg27 Try.sizeOf27 rfl (fun a w s => qp0 w s.ext) hk15 rfl rfl (TO.u rfl rfl (TX.alloc Try.zeroValue27 rfl rfl (fun b16 => (TO.u rfl rfl (TX.store (i := 0) Try.sizeOf27 rfl rfl rfl rfl rfl rfl rfl rfl (TO.nil (TE.thenN rfl rfl (TC.seq (TC.region (TO.u rfl rfl (TX.fieldAddr' Try.runUnderlying27 rfl Try.sizeOf21 rfl rfl rfl (TO.u rfl rfl (TX.store (i := 0) Try.sizeOf21 rfl rfl rfl rfl rfl rfl rfl rfl (TO.nil (TE.thenN rfl rfl (TC.seq (TC.region (TO.u rfl rfl (TX.loadN (i := 0) Try.isAgg27 Try.sizeOf27 rfl rfl rfl rfl (TO.u rfl rfl (TX.build Try.zeroValue27 rfl Try.runUnderlying27 (.cons Try.sizeOf5 (.cons Try.sizeOf5 (.cons Try.sizeOf5 (.cons Try.sizeOf25 (.cons Try.sizeOf21 .nil))))) rfl rfl rfl (TO.u rfl rfl (TX.aggNe Try.eqGuardType27 rfl rfl rfl (EqOk.struct (K := 1) Try.runUnderlying27 Try.stoodInHeld27 (.cons rfl (.one Try.isAgg5 rfl) (.one Try.isAgg5 rfl) (EqOk.int Try.runUnderlying5) (.cons rfl (.one Try.isAgg5 rfl) (.one Try.isAgg5 rfl) (EqOk.int Try.runUnderlying5) (.cons rfl (.one Try.isAgg5 rfl) (.one Try.isAgg5 rfl) (EqOk.int Try.runUnderlying5) (.cons rfl (.one Try.isAgg25 rfl) (.one Try.isAgg25 rfl) (EqOk.int Try.runUnderlying25) (.cons rfl (.one Try.isAgg21 rfl) (.one Try.isAgg21 rfl) (EqOk.int Try.runUnderlying21) .nil)))))) rfl (TO.u rfl rfl (TX.move rfl rfl (TO.cutS 13 [(67, .bool ((!((((gt p0 (IntKind.i64.wrap (p2 + 1))).fOp) == 0) && ((((gt p0 (IntKind.i64.wrap (p2 + 1))).fDst) == 0) && ((((gt p0 (IntKind.i64.wrap (p2 + 1))).fSrc) == 0) && ((((gt p0 (IntKind.i64.wrap (p2 + 1))).fOff) == 0) && (((0 : Int) == 0) && true)))))) || ((((gt p0 p2).fSrc) == 1) && (((gt p0 (IntKind.i64.wrap (p2 + 1))).fImm) != 0))))] ?_ ?_)))))))))))))))))))))))))))))
   · cases hc17 : (!((((gt p0 (IntKind.i64.wrap (p2 + 1))).fOp) == 0) && ((((gt p0 (IntKind.i64.wrap (p2 + 1))).fDst) == 0) && ((((gt p0 (IntKind.i64.wrap (p2 + 1))).fSrc) == 0) && ((((gt p0 (IntKind.i64.wrap (p2 + 1))).fOff) == 0) && (((0 : Int) == 0) && true))))))
     · refine TO.g rfl rfl rfl rfl (TX.fieldAddr' Try.runUnderlying27 rfl Try.sizeOf5 rfl rfl rfl (TO.g rfl rfl rfl rfl (TX.load1 (i := 1) Try.isAgg5 rfl rfl rfl rfl (TO.g rfl rfl rfl rfl (TX.ibin rfl rfl rfl rfl (TO.g rfl rfl rfl rfl (TX.move rfl rfl ?_)))))))
       cases hc18 : (((gt p0 p2).fSrc) == 1)
       · exact TO.s rfl rfl rfl rfl rfl rfl (TO.s rfl rfl rfl rfl rfl rfl (TO.s rfl rfl rfl rfl rfl rfl (TO.s rfl rfl rfl rfl rfl rfl (TO.s rfl rfl rfl rfl rfl rfl (TO.s rfl rfl rfl rfl rfl rfl (TO.s rfl rfl rfl rfl rfl rfl (TO.g rfl rfl rfl rfl (TX.pickF rfl rfl rfl (TO.u rfl rfl (TX.pickF rfl rfl rfl (TO.nil (TE.cutS 13 rfl rfl ⟨rfl, trivial⟩))))))))))))
       exact TO.g rfl rfl rfl rfl (TX.move rfl rfl (TO.g rfl rfl rfl rfl (TX.move rfl rfl (TO.g rfl rfl rfl rfl (TX.ibin rfl rfl rfl rfl (TO.g rfl rfl rfl rfl (TX.indexR (N := Instr.E) Try.runUnderlying24 Try.sizeOf27 rfl qn0 rfl (fun a w s => qp0 w s.ext) hk15 rfl (TO.g rfl rfl rfl rfl (TX.fieldAddrE Try.runUnderlying27 rfl Try.sizeOf21 rfl rfl rfl (TO.g rfl rfl rfl rfl (TX.loadR1 (N := Instr.E) Try.isAgg21 rfl (fun a w s => qp0 w s.ext) hk15 rfl rfl (TO.g rfl rfl rfl rfl (TX.ibin rfl rfl rfl rfl (TO.g rfl rfl rfl rfl (TX.pickT rfl rfl rfl (TO.u rfl rfl (TX.pickF rfl rfl rfl (TO.nil (TE.cutS 13 rfl rfl ⟨rfl, trivial⟩)))))))))))))))))))
     exact TO.s rfl rfl rfl rfl rfl rfl (TO.s rfl rfl rfl rfl rfl rfl (TO.s rfl rfl rfl rfl rfl rfl (TO.s rfl rfl rfl rfl rfl rfl (TO.su rfl rfl rfl rfl rfl (TO.su rfl rfl rfl rfl rfl (TO.su rfl rfl rfl rfl rfl (TO.su rfl rfl rfl rfl rfl (TO.su rfl rfl rfl rfl rfl (TO.su rfl rfl rfl rfl rfl (TO.su rfl rfl rfl rfl rfl (TO.s rfl rfl rfl rfl rfl rfl (TO.u rfl rfl (TX.pickT rfl rfl rfl (TO.nil (TE.cutS 13 rfl rfl ⟨rfl, trivial⟩)))))))))))))))
   refine TO.nil (TE.thenN rfl rfl (TC.cond rfl (fun hb19 => ?_) (fun hb19 => ?_)))
   · replace h := it h hb19
     exact TC.seq (TC.region (TO.u rfl rfl (TX.assign rfl rfl (TO.nil (TE.thenN rfl rfl (TC.ret (TE.thenR (TE.fin (R := ⟨[], []⟩) (TL.ret (R' := ⟨[], []⟩) Try.results53 (.cons (.tmp rfl) .nil) (subD 2 0 rfl rfl) ⟨congrArg ret53 (Option.some.inj h), rfl⟩)))))))))
   replace h := ie h hb19
   refine TC.skip (TE.thenN rfl rfl (TC.seq (TC.region (TO.u rfl rfl (TX.loadN (i := 1) Try.isAgg27 Try.sizeOf27 rfl rfl rfl rfl (TO.u rfl rfl (TX.move rfl rfl ?_)))))))
   obtain ⟨v20, hv20, h⟩ := bp h
   refine TO.u rfl rfl (TX.callP Try.call58 rfl (fun a w s => c58 (gt p0 p2) p2 _ _  hv20) rfl (TO.u rfl rfl (TX.move rfl rfl (TO.u rfl rfl (TX.extract rfl rfl rfl (TO.u rfl rfl (TX.extract rfl rfl rfl (TO.u rfl rfl (TX.assign rfl rfl (TO.u rfl rfl (TX.assign rfl rfl (TO.nil (TE.thenN rfl rfl (TC.seq (TC.seq (TC.region (TO.u rfl rfl (TX.move rfl rfl (TO.u rfl rfl (TX.move rfl rfl ?_))))))))))))))))))))
   obtain ⟨hk21, h⟩ := ck h
   refine TO.cutS 16 [(91, .bool (v20.2 && ((decide (v20.1 < 0)) || ((decide ((p0.length : Int) ≤ v20.1)) || (!(gt p1 v20.1))))))] ?_ ?_
   · cases hc22 : (v20.2)
     · exact TO.s rfl rfl rfl rfl rfl rfl (TO.s rfl rfl rfl rfl rfl rfl (TO.s rfl rfl rfl rfl rfl rfl (TO.su rfl rfl rfl rfl rfl (TO.su rfl rfl rfl rfl rfl (TO.su rfl rfl rfl rfl rfl (TO.su rfl rfl rfl rfl rfl (TO.s rfl rfl rfl rfl rfl rfl (TO.s rfl rfl rfl rfl rfl rfl (TO.su rfl rfl rfl rfl rfl (TO.su rfl rfl rfl rfl rfl (TO.su rfl rfl rfl rfl rfl (TO.su rfl rfl rfl rfl rfl (TO.su rfl rfl rfl rfl rfl (TO.s rfl rfl rfl rfl rfl rfl (TO.u rfl rfl (TX.pickF rfl rfl rfl (TO.nil (TE.cutS 16 rfl rfl ⟨rfl, trivial⟩))))))))))))))))))
     refine TO.g rfl rfl rfl rfl (TX.move rfl rfl (TO.g rfl rfl rfl rfl (TX.ibin rfl rfl rfl rfl (TO.g rfl rfl rfl rfl (TX.move rfl rfl ?_)))))
     cases hc23 : (decide (v20.1 < 0))
     · refine TO.g rfl rfl rfl rfl (TX.move rfl rfl (TO.g rfl rfl rfl rfl (TX.move rfl rfl (TO.g rfl rfl rfl rfl (TX.lenS (xs := p0) Try.runUnderlying24 rfl qn0 rfl (TO.g rfl rfl rfl rfl (TX.ibin rfl rfl rfl rfl (TO.g rfl rfl rfl rfl (TX.pickF rfl rfl rfl (TO.g rfl rfl rfl rfl (TX.move rfl rfl ?_)))))))))))
       cases hc24 : (decide ((p0.length : Int) ≤ v20.1))
       · exact TO.g rfl rfl rfl rfl (TX.move rfl rfl (TO.g rfl rfl rfl rfl (TX.move rfl rfl (TO.g rfl rfl rfl rfl (TX.indexR (N := En.bool) Try.runUnderlying41 Try.sizeOf4 rfl qn1 rfl (fun a w s => qp1 w s.ext) (ce (ce (cg hk21 hc22) hc23) hc24) rfl (TO.g rfl rfl rfl rfl (TX.loadR1 (N := En.bool) Try.isAgg4 rfl (fun a w s => qp1 w s.ext) (ce (ce (cg hk21 hc22) hc23) hc24) rfl rfl (TO.g rfl rfl rfl rfl (TX.not rfl rfl (TO.g rfl rfl rfl rfl (TX.pickF rfl rfl rfl (TO.u rfl rfl (TX.pickT rfl rfl rfl (TO.nil (TE.cutS 16 rfl rfl ⟨rfl, trivial⟩)))))))))))))))
       exact TO.s rfl rfl rfl rfl rfl rfl (TO.s rfl rfl rfl rfl rfl rfl (TO.s rfl rfl rfl rfl rfl rfl (TO.s rfl rfl rfl rfl rfl rfl (TO.s rfl rfl rfl rfl rfl rfl (TO.g rfl rfl rfl rfl (TX.pickT rfl rfl rfl (TO.u rfl rfl (TX.pickT rfl rfl rfl (TO.nil (TE.cutS 16 rfl rfl ⟨rfl, trivial⟩))))))))))
     exact TO.s rfl rfl rfl rfl rfl rfl (TO.s rfl rfl rfl rfl rfl rfl (TO.s rfl rfl rfl rfl rfl rfl (TO.s rfl rfl rfl rfl rfl rfl (TO.g rfl rfl rfl rfl (TX.pickT rfl rfl rfl (TO.g rfl rfl rfl rfl (TX.move rfl rfl (TO.s rfl rfl rfl rfl rfl rfl (TO.s rfl rfl rfl rfl rfl rfl (TO.s rfl rfl rfl rfl rfl rfl (TO.s rfl rfl rfl rfl rfl rfl (TO.s rfl rfl rfl rfl rfl rfl (TO.g rfl rfl rfl rfl (TX.pickT rfl rfl rfl (TO.u rfl rfl (TX.pickT rfl rfl rfl (TO.nil (TE.cutS 16 rfl rfl ⟨rfl, trivial⟩))))))))))))))))))
   refine TO.nil (TE.thenN rfl rfl (TC.cond rfl (fun hb25 => ?_) (fun hb25 => ?_)))
   · replace h := it h hb25
     exact TC.seq (TC.region (TO.u rfl rfl (TX.assign rfl rfl (TO.nil (TE.thenN rfl rfl (TC.ret (TE.thenR (TE.fin (R := ⟨[], []⟩) (TL.ret (R' := ⟨[], []⟩) Try.results53 (.cons (.tmp rfl) .nil) (subD 2 0 rfl rfl) ⟨congrArg ret53 (Option.some.inj h), rfl⟩)))))))))
   replace h := ie h hb25
   exact TC.skip (TE.thenN rfl rfl (TC.seq (TC.region (TO.u rfl rfl (TX.assign rfl rfl (TO.nil (TE.thenN rfl rfl (TC.ret (TE.fin (R := ⟨[], []⟩) (TL.ret (R' := ⟨[], []⟩) Try.results53 (.cons (.tmp rfl) .nil) (subD 2 0 rfl rfl) ⟨congrArg ret53 (Option.some.inj h), rfl⟩))))))))))
 replace h := ie h hb13
 refine TC.skip (TE.thenN rfl rfl (TC.seq (TC.region (TO.u rfl rfl (TX.loadN (i := 0) Try.isAgg27 Try.sizeOf27 rfl rfl rfl rfl (TO.u rfl rfl (TX.move rfl rfl ?_)))))))
 obtain ⟨v26, hv26, h⟩ := bp h
 refine TO.u rfl rfl (TX.callP Try.call58 rfl (fun a w s => c58 (gt p0 p2) p2 _ _  hv26) rfl (TO.u rfl rfl (TX.move rfl rfl (TO.u rfl rfl (TX.extract rfl rfl rfl (TO.u rfl rfl (TX.extract rfl rfl rfl (TO.u rfl rfl (TX.assign rfl rfl (TO.u rfl rfl (TX.assign rfl rfl (TO.nil (TE.thenN rfl rfl (TC.seq (TC.seq (TC.region (TO.u rfl rfl (TX.move rfl rfl (TO.u rfl rfl (TX.move rfl rfl ?_))))))))))))))))))))
 obtain ⟨hk27, h⟩ := ck h
 refine TO.cutS 16 [(91, .bool (v26.2 && ((decide (v26.1 < 0)) || ((decide ((p0.length : Int) ≤ v26.1)) || (!(gt p1 v26.1))))))] ?_ ?_
 · cases hc28 : (v26.2)
   · exact TO.s rfl rfl rfl rfl rfl rfl (TO.s rfl rfl rfl rfl rfl rfl (TO.s rfl rfl rfl rfl rfl rfl (TO.su rfl rfl rfl rfl rfl (TO.su rfl rfl rfl rfl rfl (TO.su rfl rfl rfl rfl rfl (TO.su rfl rfl rfl rfl rfl (TO.s rfl rfl rfl rfl rfl rfl (TO.s rfl rfl rfl rfl rfl rfl (TO.su rfl rfl rfl rfl rfl (TO.su rfl rfl rfl rfl rfl (TO.su rfl rfl rfl rfl rfl (TO.su rfl rfl rfl rfl rfl (TO.su rfl rfl rfl rfl rfl (TO.s rfl rfl rfl rfl rfl rfl (TO.u rfl rfl (TX.pickF rfl rfl rfl (TO.nil (TE.cutS 16 rfl rfl ⟨rfl, trivial⟩))))))))))))))))))
   refine TO.g rfl rfl rfl rfl (TX.move rfl rfl (TO.g rfl rfl rfl rfl (TX.ibin rfl rfl rfl rfl (TO.g rfl rfl rfl rfl (TX.move rfl rfl ?_)))))
   cases hc29 : (decide (v26.1 < 0))
   · refine TO.g rfl rfl rfl rfl (TX.move rfl rfl (TO.g rfl rfl rfl rfl (TX.move rfl rfl (TO.g rfl rfl rfl rfl (TX.lenS (xs := p0) Try.runUnderlying24 rfl qn0 rfl (TO.g rfl rfl rfl rfl (TX.ibin rfl rfl rfl rfl (TO.g rfl rfl rfl rfl (TX.pickF rfl rfl rfl (TO.g rfl rfl rfl rfl (TX.move rfl rfl ?_)))))))))))
     cases hc30 : (decide ((p0.length : Int) ≤ v26.1))
     · exact TO.g rfl rfl rfl rfl (TX.move rfl rfl (TO.g rfl rfl rfl rfl (TX.move rfl rfl (TO.g rfl rfl rfl rfl (TX.indexR (N := En.bool) Try.runUnderlying41 Try.sizeOf4 rfl qn1 rfl (fun a w s => qp1 w s.ext) (ce (ce (cg hk27 hc28) hc29) hc30) rfl (TO.g rfl rfl rfl rfl (TX.loadR1 (N := En.bool) Try.isAgg4 rfl (fun a w s => qp1 w s.ext) (ce (ce (cg hk27 hc28) hc29) hc30) rfl rfl (TO.g rfl rfl rfl rfl (TX.not rfl rfl (TO.g rfl rfl rfl rfl (TX.pickF rfl rfl rfl (TO.u rfl rfl (TX.pickT rfl rfl rfl (TO.nil (TE.cutS 16 rfl rfl ⟨rfl, trivial⟩)))))))))))))))
     exact TO.s rfl rfl rfl rfl rfl rfl (TO.s rfl rfl rfl rfl rfl rfl (TO.s rfl rfl rfl rfl rfl rfl (TO.s rfl rfl rfl rfl rfl rfl (TO.s rfl rfl rfl rfl rfl rfl (TO.g rfl rfl rfl rfl (TX.pickT rfl rfl rfl (TO.u rfl rfl (TX.pickT rfl rfl rfl (TO.nil (TE.cutS 16 rfl rfl ⟨rfl, trivial⟩))))))))))
   exact TO.s rfl rfl rfl rfl rfl rfl (TO.s rfl rfl rfl rfl rfl rfl (TO.s rfl rfl rfl rfl rfl rfl (TO.s rfl rfl rfl rfl rfl rfl (TO.g rfl rfl rfl rfl (TX.pickT rfl rfl rfl (TO.g rfl rfl rfl rfl (TX.move rfl rfl (TO.s rfl rfl rfl rfl rfl rfl (TO.s rfl rfl rfl rfl rfl rfl (TO.s rfl rfl rfl rfl rfl rfl (TO.s rfl rfl rfl rfl rfl rfl (TO.s rfl rfl rfl rfl rfl rfl (TO.g rfl rfl rfl rfl (TX.pickT rfl rfl rfl (TO.u rfl rfl (TX.pickT rfl rfl rfl (TO.nil (TE.cutS 16 rfl rfl ⟨rfl, trivial⟩))))))))))))))))))
 refine TO.nil (TE.thenN rfl rfl (TC.cond rfl (fun hb31 => ?_) (fun hb31 => ?_)))
 · replace h := it h hb31
   exact TC.seq (TC.region (TO.u rfl rfl (TX.assign rfl rfl (TO.nil (TE.thenN rfl rfl (TC.ret (TE.thenR (TE.fin (R := ⟨[], []⟩) (TL.ret (R' := ⟨[], []⟩) Try.results53 (.cons (.tmp rfl) .nil) (subD 1 0 rfl rfl) ⟨congrArg ret53 (Option.some.inj h), rfl⟩)))))))))
 replace h := ie h hb31
 exact TC.skip (TE.thenN rfl rfl (TC.seq (TC.region (TO.u rfl rfl (TX.assign rfl rfl (TO.nil (TE.thenN rfl rfl (TC.ret (TE.fin (R := ⟨[], []⟩) (TL.ret (R' := ⟨[], []⟩) Try.results53 (.cons (.tmp rfl) .nil) (subD 1 0 rfl rfl) ⟨congrArg ret53 (Option.some.inj h), rfl⟩))))))))))
def fn29_l1 (p0 : List Instr) (v3 : (List Bool)) : Nat → Int → Int → Option ((Int) ⊕ (Int × Int))
  | 0, _, _ => none
  | n25 + 1, x18, x19 => (bif decide (x19 < (p0.length : Int)) then (bif inb x19 v3.length then (bif !(gt v3 x19) then ((fn29_l1 p0 v3 n25) x18 (IntKind.i64.wrap (x19 + 1))) else (Option.bind (fn53 p0 v3 x19) fun v31 => (bif v31 != 0 then (some (.inr (x19, v31))) else ((fn29_l1 p0 v3 n25) x19 (IntKind.i64.wrap (x19 + 1)))))) else none) else (some (.inl x18)))
theorem fn29_l1_s (p0 : List Instr) (v3 : (List Bool)) (n25 : Nat) (x18 : Int) (x19 : Int) : fn29_l1 p0 v3 (n25 + 1) x18 x19 = (bif decide (x19 < (p0.length : Int)) then (bif inb x19 v3.length then (bif !(gt v3 x19) then ((fn29_l1 p0 v3 n25) x18 (IntKind.i64.wrap (x19 + 1))) else (Option.bind (fn53 p0 v3 x19) fun v31 => (bif v31 != 0 then (some (.inr (x19, v31))) else ((fn29_l1 p0 v3 n25) x19 (IntKind.i64.wrap (x19 + 1)))))) else none) else (some (.inl x18))) := rfl
def fn29_k1 (p0 : List Instr) (x21 : Int) : Option (Int × Int) :=
  (bif inb x21 p0.length then (bindP (fn54 (gt p0 x21)) fun v34 => (bindP (fn55 (gt p0 x21)) fun v35 => (bif ((v34 == 5) && ((v35 == 144) || (v35 == 0))) || ((v34 == 6) && (v35 == 0)) then (some (0, 0)) else (some (IntKind.i64.wrap ((p0.length : Int) - 1), 24))))) else none)
theorem fn29_k1_s (p0 : List Instr) (x21 : Int) : fn29_k1 p0 x21 = (bif inb x21 p0.length then (bindP (fn54 (gt p0 x21)) fun v34 => (bindP (fn55 (gt p0 x21)) fun v35 => (bif ((v34 == 5) && ((v35 == 144) || (v35 == 0))) || ((v34 == 6) && (v35 == 0)) then (some (0, 0)) else (some (IntKind.i64.wrap ((p0.length : Int) - 1), 24))))) else none) := rfl
/-- hatchway/hatchwayref03.Check -/
def fn29 (F : Nat) (p0 : List Instr) : Option (Int × Int) :=
  (bif ((p0.length : Int) == 0) || (decide ((4096 : Int) < (p0.length : Int))) then (some (0, 3)) else (Option.bind (fn43 F p0) fun v3 => (Option.bind (fn29_l1 p0 v3 F 0 0) fun o22 => (match o22 with | .inl u => fn29_k1 p0 u | .inr u => some u))))
def ret29 (r : Int × Int) : Value := .tuple #[.int .i64 r.1, .int .i64 r.2]
theorem c29 (F : Nat) (sp_0 : Option Addr) (n_0 cap_0 : Nat) (p0 : List Instr) (w : World) (r : Int × Int) (qn0 : p0.length = n_0) (qc0 : p0.length ≤ cap_0) (qp0 : RdF Instr.E w [] sp_0 p0) (h : fn29 F p0 = some r) : Ret Try.prog 29 [.slice sp_0 n_0 cap_0] w ⟨[], []⟩ (fun v R => v = ret29 r ∧ R = ⟨[], []⟩) := by
 unfold fn29 at h
 refine Ret.of_body Try.func29 rfl Try.ntmps29 rfl (fun _ hx => absurd hx List.not_mem_nil) List.nodup_nil (TC.seq (TC.region (TO.u rfl rfl (TX.assign rfl rfl (TO.u rfl rfl (TX.assign rfl rfl (TO.nil (TE.thenN rfl rfl (TC.seq (TC.seq (TC.region (TO.u rfl rfl (TX.move rfl rfl (TO.u rfl rfl (TX.lenS (xs := p0) Try.runUnderlying24 rfl qn0 rfl (TO.u rfl rfl (TX.ibin rfl rfl rfl rfl (TO.u rfl rfl (TX.move rfl rfl (TO.cutS 4 [(17, .bool (((p0.length : Int) == 0) || (decide ((4096 : Int) < (p0.length : Int)))))] ?_ ?_))))))))))))))))))))
 · cases hc1 : ((p0.length : Int) == 0)
   · exact TO.g rfl rfl rfl rfl (TX.move rfl rfl (TO.g rfl rfl rfl rfl (TX.lenS (xs := p0) Try.runUnderlying24 rfl qn0 rfl (TO.g rfl rfl rfl rfl (TX.ibin rfl rfl rfl rfl (TO.u rfl rfl (TX.pickF rfl rfl rfl (TO.nil (TE.cutS 4 rfl rfl ⟨rfl, trivial⟩)))))))))
   exact TO.s rfl rfl rfl rfl rfl rfl (TO.s rfl rfl rfl rfl rfl rfl (TO.s rfl rfl rfl rfl rfl rfl (TO.u rfl rfl (TX.pickT rfl rfl rfl (TO.nil (TE.cutS 4 rfl rfl ⟨rfl, trivial⟩))))))
 refine TO.nil (TE.thenN rfl rfl (TC.cond rfl (fun hb2 => ?_) (fun hb2 => ?_)))
 · replace h := it h hb2
   exact TC.seq (TC.region (TO.u rfl rfl (TX.assign rfl rfl (TO.u rfl rfl (TX.assign rfl rfl (TO.nil (TE.thenN rfl rfl (TC.ret (TE.thenR (TE.fin (R := ⟨[], []⟩) (TL.ret (R' := ⟨[], []⟩) Try.results29 (.cons (.tmp rfl) (.cons (.tmp rfl) .nil)) (subD 0 0 rfl rfl) ⟨congrArg ret29 (Option.some.inj h), rfl⟩)))))))))))
 replace h := ie h hb2
 refine TC.skip (TE.thenN rfl rfl (TC.seq (TC.region (TO.u rfl rfl (TX.move rfl rfl ?_)))))
 obtain ⟨v3, hv3, h⟩ := bd h
 refine TO.u rfl rfl (TX.callQ (post43 v3) Try.call43 rfl (fun a w s => c43 F _ _ _ p0 _ _ qn0 qc0 (qp0.tr s.extB0) hv3) rfl ?_)
 rintro _ _ ⟨sp4, n5, cap6, Hs8, rfl, hn7, rfl, ho9⟩
 refine TO.reH ⟨[], [Hs8]⟩ rfl (TO.u rfl rfl (TX.assign rfl rfl (TO.nil (TE.thenN rfl rfl (TC.seq (TC.region (TO.u rfl rfl (TX.assign rfl rfl (TO.nil (TE.thenN rfl rfl (TC.seq (TC.seq (TC.region (TO.u rfl rfl (TX.assign rfl rfl (TO.nil (TE.thenN rfl rfl (TC.block ?_))))))))))))))))))
 obtain ⟨o22, hl23, h⟩ := bd h
 refine TC.to (L' := [(0, .slice sp_0 n_0 cap_0), (4, .slice sp4 n5 cap6), (5, .int .i64 0), (6, .int .i64 0)]) (E' := []) (S' := [Hs8]) 0 0 ⟨rfl, rfl, rfl, rfl, trivial⟩ rfl rfl (TC.cutE 0 (fun L' H' => ∃ x21 : Int, .inl x21 = o22 ∧ L' = [(0, .slice sp_0 n_0 cap_0), (5, .int .i64 x21)] ∧ H' = ⟨[], [Hs8]⟩) ?_ ?_)
 · have h027 := h
   clear h
   refine TC.loop (fun (n : Nat) (s : Int × Int) => fn29_l1 p0 v3 n s.1 s.2) o22 (fun _ => rfl) (fun (s : Int × Int) L' H' => match s with | (x18, x19) => L' = [(0, .slice sp_0 n_0 cap_0), (4, .slice sp4 n5 cap6), (5, .int .i64 x18), (6, .int .i64 x19)] ∧ H' = ⟨[], [Hs8]⟩) ?_ F (0, 0) ⟨rfl, rfl⟩ hl23
   clear hl23
   rintro K24 n25 ⟨x18, x19⟩ _ _ ⟨rfl, rfl⟩ h ih26
   replace h := (fn29_l1_s p0 v3 n25 x18 x19).symm.trans h
   refine TC.seq (TC.seq (TC.region (TO.u rfl rfl (TX.move rfl rfl (TO.u rfl rfl (TX.move rfl rfl (TO.u rfl rfl (TX.lenS (xs := p0) Try.runUnderlying24 rfl qn0 rfl (TO.u rfl rfl (TX.ibin rfl rfl rfl rfl (TO.nil (TE.thenN rfl rfl (TC.cond rfl (fun hb28 => ?_) (fun hb28 => ?_))))))))))))))
   · replace h := it h hb28
     refine TC.skip (TE.thenN rfl rfl (TC.seq (TC.block (TC.seq (TC.seq (TC.region (TO.u rfl rfl (TX.move rfl rfl (TO.u rfl rfl (TX.move rfl rfl ?_))))))))))
     obtain ⟨hk29, h⟩ := ck h
     refine TO.u rfl rfl (TX.indexR (N := En.bool) Try.runUnderlying41 Try.sizeOf4 rfl hn7 rfl (fun a w s => ho9.rd s (i := 0) rfl) hk29 rfl (TO.u rfl rfl (TX.loadR1 (N := En.bool) Try.isAgg4 rfl (fun a w s => ho9.rd s (i := 0) rfl) hk29 rfl rfl (TO.u rfl rfl (TX.not rfl rfl (TO.nil (TE.thenN rfl rfl (TC.cond rfl (fun hb30 => ?_) (fun hb30 => ?_)))))))))
     · replace h := it h hb30
       exact TC.exit (TE.thenX (TE.blockH (TE.thenN rfl rfl (TC.region (TO.u rfl rfl (TX.move rfl rfl (TO.u rfl rfl (TX.ibin rfl rfl rfl rfl (TO.u rfl rfl (TX.assign rfl rfl (TO.nil (TE.to (L' := [(0, .slice sp_0 n_0 cap_0), (4, .slice sp4 n5 cap6), (5, .int .i64 x18), (6, .int .i64 (IntKind.i64.wrap (x19 + 1)))]) (E' := []) (S' := [Hs8]) 0 0 ⟨rfl, rfl, rfl, rfl, trivial⟩ rfl rfl (ih26 (x18, IntKind.i64.wrap (x19 + 1)) _ _ ⟨rfl, rfl⟩ h)))))))))))))
     replace h := ie h hb30
     refine TC.skip (TE.thenN rfl rfl (TC.seq (TC.region (TO.u rfl rfl (TX.move rfl rfl (TO.u rfl rfl (TX.move rfl rfl (TO.u rfl rfl (TX.move rfl rfl ?_)))))))))
     obtain ⟨v31, hv31, h⟩ := bd h
     refine TO.u rfl rfl (TX.callP Try.call53 rfl (fun a w s => c53 _ _ _ p0 _ _ _ v3 x19 _ _ qn0 qc0 (qp0.tr s.extB0) hn7 ho9.le_cap (ho9.rdf0 s (i := 0) rfl) hv31) rfl (TO.u rfl rfl (TX.assign rfl rfl (TO.nil (TE.thenN rfl rfl (TC.seq (TC.seq (TC.region (TO.u rfl rfl (TX.move rfl rfl (TO.u rfl rfl (TX.ibin rfl rfl rfl rfl (TO.nil (TE.thenN rfl rfl (TC.cond rfl (fun hb32 => ?_) (fun hb32 => ?_))))))))))))))))
     · replace h := it h hb32
       refine TC.seq (TC.region (TO.u rfl rfl (TX.move rfl rfl (TO.u rfl rfl (TX.move rfl rfl (TO.u rfl rfl (TX.assign rfl rfl (TO.u rfl rfl (TX.assign rfl rfl (TO.nil (TE.thenN rfl rfl (TC.ret (TE.thenR (TE.blockR (TE.thenR (TE.loopR (TE.cutR ?_)))))))))))))))))
       have ho := Option.some.inj h
       subst ho
       replace h := h027
       exact TE.blockR (TE.thenR (TE.fin (R := ⟨[], []⟩) (TL.ret (R' := ⟨[], []⟩) Try.results29 (.cons (.tmp rfl) (.cons (.tmp rfl) .nil)) (subD 0 1 rfl rfl) ⟨congrArg ret29 (Option.some.inj h), rfl⟩)))
     replace h := ie h hb32
     exact TC.skip (TE.thenN rfl rfl (TC.region (TO.u rfl rfl (TX.move rfl rfl (TO.u rfl rfl (TX.assign rfl rfl (TO.nil (TE.blockN (TE.thenN rfl rfl (TC.region (TO.u rfl rfl (TX.move rfl rfl (TO.u rfl rfl (TX.ibin rfl rfl rfl rfl (TO.u rfl rfl (TX.assign rfl rfl (TO.nil (TE.to (L' := [(0, .slice sp_0 n_0 cap_0), (4, .slice sp4 n5 cap6), (5, .int .i64 x19), (6, .int .i64 (IntKind.i64.wrap (x19 + 1)))]) (E' := []) (S' := [Hs8]) 0 0 ⟨rfl, rfl, rfl, rfl, trivial⟩ rfl rfl (ih26 (x19, IntKind.i64.wrap (x19 + 1)) _ _ ⟨rfl, rfl⟩ h)))))))))))))))))))
   replace h := ie h hb28
   exact TC.exit (TE.thenX (TE.loopX (TE.to (L' := [(0, .slice sp_0 n_0 cap_0), (5, .int .i64 x18)]) (E' := []) (S' := [Hs8]) 0 0 ⟨rfl, rfl, trivial⟩ rfl rfl (TE.cutE ⟨x18, Option.some.inj h, rfl, rfl⟩))))
 rintro _ _ ⟨x21, rfl, rfl, rfl⟩
 replace h := (fn29_k1_s p0 x21).symm.trans h
 refine TE.blockH (TE.thenN rfl rfl (TC.seq (TC.keep (L' := [(0, .slice sp_0 n_0 cap_0), (5, .int .i64 x21)]) ⟨rfl, rfl, trivial⟩ ?_)))
 obtain ⟨hk33, h⟩ := ck h
 obtain ⟨v34, hv34, h⟩ := bp h
 refine TC.draw hmix 9 [.slice sp_0 n_0 cap_0, .int .i64 x21, .pointer (some (eAddr sp_0 (x21.toNat * Instr.E.sz + 0))), .agg #[.int .u8 ((gt p0 x21).fOp), .int .u8 ((gt p0 x21).fDst), .int .u8 ((gt p0 x21).fSrc), .int .i16 ((gt p0 x21).fOff), .int .i32 ((gt p0 x21).fImm)], .int .u8 v34, .slice sp_0 n_0 cap_0, .int .i64 x21, .pointer (some (eAddr sp_0 (x21.toNat * Instr.E.sz + 0))), .agg #[.int .u8 ((gt p0 x21).fOp), .int .u8 ((gt p0 x21).fDst), .int .u8 ((gt p0 x21).fSrc), .int .i16 ((gt p0 x21).fOff), .int .i32 ((gt p0 x21).fImm)]] [(44, .int .u8 v34), (48, .agg #[.int .u8 ((gt p0 x21).fOp), .int .u8 ((gt p0 x21).fDst), .int .u8 ((gt p0 x21).fSrc), .int .i16 ((gt p0 x21).fOff), .int .i32 ((gt p0 x21).fImm)])] rfl rfl rfl rfl ?_ (.cons 4 rfl rfl rfl (.cons 8 rfl rfl rfl .nil)) ?_
 · exact QAll.u [(0, .slice sp_0 n_0 cap_0)] (.old rfl .nil) rfl rfl (QV.move rfl).s rfl (QAll.u [(5, .int .i64 x21)] (.old rfl .nil) rfl rfl (QV.move rfl).s rfl (QAll.u [(40, .slice sp_0 n_0 cap_0), (41, .int .i64 x21)] (.dat 0 rfl rfl rfl (.dat 1 rfl rfl rfl .nil)) rfl rfl (QV.indexR (N := Instr.E) Try.runUnderlying24 Try.sizeOf27 rfl qn0 rfl (fun a w s => qp0 w s.ext) hk33).s rfl (QAll.u [(42, .pointer (some (eAddr sp_0 (x21.toNat * Instr.E.sz + 0))))] (.dat 2 rfl rfl rfl .nil) rfl rfl (QV.loadRN (N := Instr.E) Try.isAgg27 Try.sizeOf27 rfl (fun a w s => qp0 w s.ext) hk33 rfl).s rfl (QAll.u [(43, .agg #[.int .u8 ((gt p0 x21).fOp), .int .u8 ((gt p0 x21).fDst), .int .u8 ((gt p0 x21).fSrc), .int .i16 ((gt p0 x21).fOff), .int .i32 ((gt p0 x21).fImm)])] (.dat 3 rfl rfl rfl .nil) rfl rfl (QS.callP Try.call54 rfl (fun a w s => c54 (gt p0 x21) _ _  hv34)) rfl (QAll.u [(0, .slice sp_0 n_0 cap_0)] (.old rfl .nil) rfl rfl (QV.move rfl).s rfl (QAll.u [(5, .int .i64 x21)] (.old rfl .nil) rfl rfl (QV.move rfl).s rfl (QAll.u [(45, .slice sp_0 n_0 cap_0), (46, .int .i64 x21)] (.dat 5 rfl rfl rfl (.dat 6 rfl rfl rfl .nil)) rfl rfl (QV.indexR (N := Instr.E) Try.runUnderlying24 Try.sizeOf27 rfl qn0 rfl (fun a w s => qp0 w s.ext) hk33).s rfl (QAll.u [(47, .pointer (some (eAddr sp_0 (x21.toNat * Instr.E.sz + 0))))] (.dat 7 rfl rfl rfl .nil) rfl rfl (QV.loadRN (N := Instr.E) Try.isAgg27 Try.sizeOf27 rfl (fun a w s => qp0 w s.ext) hk33 rfl).s rfl (QAll.nil)))))))))
 obtain ⟨v35, hv35, h⟩ := bp h
 refine TO.u rfl rfl (TX.callP Try.call55 rfl (fun a w s => c55 (gt p0 x21) _ _  hv35) rfl (TO.u rfl rfl (TX.assign rfl rfl (TO.u rfl rfl (TX.assign rfl rfl (TO.nil (TE.thenN rfl rfl (TC.seq (TC.seq (TC.region (TO.u rfl rfl (TX.move rfl rfl (TO.u rfl rfl (TX.ibin rfl rfl rfl rfl (TO.u rfl rfl (TX.move rfl rfl (TO.cutS 7 [(59, .bool ((v34 == 5) && ((v35 == 144) || (v35 == 0))))] ?_ ?_)))))))))))))))))
 · cases hc36 : (v34 == 5)
   · exact TO.s rfl rfl rfl rfl rfl rfl (TO.s rfl rfl rfl rfl rfl rfl (TO.s rfl rfl rfl rfl rfl rfl (TO.su rfl rfl rfl rfl rfl (TO.su rfl rfl rfl rfl rfl (TO.s rfl rfl rfl rfl rfl rfl (TO.u rfl rfl (TX.pickF rfl rfl rfl (TO.nil (TE.cutS 7 rfl rfl ⟨rfl, trivial⟩)))))))))
   refine TO.g rfl rfl rfl rfl (TX.move rfl rfl (TO.g rfl rfl rfl rfl (TX.ibin rfl rfl rfl rfl (TO.g rfl rfl rfl rfl (TX.move rfl rfl ?_)))))
   cases hc37 : (v35 == 144)
   · exact TO.g rfl rfl rfl rfl (TX.move rfl rfl (TO.g rfl rfl rfl rfl (TX.ibin rfl rfl rfl rfl (TO.g rfl rfl rfl rfl (TX.pickF rfl rfl rfl (TO.u rfl rfl (TX.pickT rfl rfl rfl (TO.nil (TE.cutS 7 rfl rfl ⟨rfl, trivial⟩)))))))))
   exact TO.s rfl rfl rfl rfl rfl rfl (TO.s rfl rfl rfl rfl rfl rfl (TO.g rfl rfl rfl rfl (TX.pickT rfl rfl rfl (TO.u rfl rfl (TX.pickT rfl rfl rfl (TO.nil (TE.cutS 7 rfl rfl ⟨rfl, trivial⟩)))))))
 refine TO.u rfl rfl (TX.move rfl rfl (TO.cutS 7 [(67, .bool (((v34 == 5) && ((v35 == 144) || (v35 == 0))) || ((v34 == 6) && (v35 == 0))))] ?_ ?_))
 · cases hc38 : ((v34 == 5) && ((v35 == 144) || (v35 == 0)))
   · refine TO.g rfl rfl rfl rfl (TX.move rfl rfl (TO.g rfl rfl rfl rfl (TX.ibin rfl rfl rfl rfl (TO.g rfl rfl rfl rfl (TX.move rfl rfl ?_)))))
     cases hc39 : (v34 == 6)
     · exact TO.s rfl rfl rfl rfl rfl rfl (TO.s rfl rfl rfl rfl rfl rfl (TO.g rfl rfl rfl rfl (TX.pickF rfl rfl rfl (TO.u rfl rfl (TX.pickF rfl rfl rfl (TO.nil (TE.cutS 7 rfl rfl ⟨rfl, trivial⟩)))))))
     exact TO.g rfl rfl rfl rfl (TX.move rfl rfl (TO.g rfl rfl rfl rfl (TX.ibin rfl rfl rfl rfl (TO.g rfl rfl rfl rfl (TX.pickT rfl rfl rfl (TO.u rfl rfl (TX.pickF rfl rfl rfl (TO.nil (TE.cutS 7 rfl rfl ⟨rfl, trivial⟩)))))))))
   exact TO.s rfl rfl rfl rfl rfl rfl (TO.s rfl rfl rfl rfl rfl rfl (TO.s rfl rfl rfl rfl rfl rfl (TO.su rfl rfl rfl rfl rfl (TO.su rfl rfl rfl rfl rfl (TO.s rfl rfl rfl rfl rfl rfl (TO.u rfl rfl (TX.pickT rfl rfl rfl (TO.nil (TE.cutS 7 rfl rfl ⟨rfl, trivial⟩)))))))))
 refine TO.nil (TE.thenN rfl rfl (TC.cond rfl (fun hb40 => ?_) (fun hb40 => ?_)))
 · replace h := it h hb40
   exact TC.seq (TC.region (TO.u rfl rfl (TX.assign rfl rfl (TO.u rfl rfl (TX.assign rfl rfl (TO.nil (TE.thenN rfl rfl (TC.ret (TE.thenR (TE.fin (R := ⟨[], []⟩) (TL.ret (R' := ⟨[], []⟩) Try.results29 (.cons (.tmp rfl) (.cons (.tmp rfl) .nil)) (subD 0 1 rfl rfl) ⟨congrArg ret29 (Option.some.inj h), rfl⟩)))))))))))
 replace h := ie h hb40
 exact TC.skip (TE.thenN rfl rfl (TC.seq (TC.region (TO.u rfl rfl (TX.move rfl rfl (TO.u rfl rfl (TX.lenS (xs := p0) Try.runUnderlying24 rfl qn0 rfl (TO.u rfl rfl (TX.ibin rfl rfl rfl rfl (TO.u rfl rfl (TX.assign rfl rfl (TO.u rfl rfl (TX.assign rfl rfl (TO.nil (TE.thenN rfl rfl (TC.ret (TE.fin (R := ⟨[], []⟩) (TL.ret (R' := ⟨[], []⟩) Try.results29 (.cons (.tmp rfl) (.cons (.tmp rfl) .nil)) (subD 0 1 rfl rfl) ⟨congrArg ret29 (Option.some.inj h), rfl⟩))))))))))))))))))
/-- hatchway/hatchwayref03.Next1 -/
def fn44 (p0 : List Instr) (p1 : Int) : Option (Int × Int) :=
  (bif inb p1 p0.length then (bindP (fn71 (gt p0 p1)) fun v3 => (bif v3 then (bindP (fn58 (gt p0 p1) p1) fun v5 => (bif v5.2 then (bindP (fn54 (gt p0 p1)) fun v7 => (bindP (fn55 (gt p0 p1)) fun v8 => (bif ((v7 == 5) && ((v8 == 144) || (v8 == 0))) || ((v7 == 6) && (v8 == 0)) then (some ((-1), v5.1)) else (some (IntKind.i64.wrap (p1 + 2), v5.1))))) else (bindP (fn54 (gt p0 p1)) fun v14 => (bindP (fn55 (gt p0 p1)) fun v15 => (bif ((v14 == 5) && ((v15 == 144) || (v15 == 0))) || ((v14 == 6) && (v15 == 0)) then (some ((-1), (-1))) else (some (IntKind.i64.wrap (p1 + 2), (-1)))))))) else (bindP (fn58 (gt p0 p1) p1) fun v21 => (bif v21.2 then (bindP (fn54 (gt p0 p1)) fun v23 => (bindP (fn55 (gt p0 p1)) fun v24 => (bif ((v23 == 5) && ((v24 == 144) || (v24 == 0))) || ((v23 == 6) && (v24 == 0)) then (some ((-1), v21.1)) else (some (IntKind.i64.wrap (p1 + 1), v21.1))))) else (bindP (fn54 (gt p0 p1)) fun v30 => (bindP (fn55 (gt p0 p1)) fun v31 => (bif ((v30 == 5) && ((v31 == 144) || (v31 == 0))) || ((v30 == 6) && (v31 == 0)) then (some ((-1), (-1))) else (some (IntKind.i64.wrap (p1 + 1), (-1)))))))))) else none)
def ret44 (r : Int × Int) : Value := .tuple #[.int .i64 r.1, .int .i64 r.2]
set_option maxHeartbeats 8000000 in
theorem c44 (sp_0 : Option Addr) (n_0 cap_0 : Nat) (p0 : List Instr) (p1 : Int) (w : World) (r : Int × Int) (qn0 : p0.length = n_0) (qc0 : p0.length ≤ cap_0) (qp0 : RdF Instr.E w [] sp_0 p0) (h : fn44 p0 p1 = some r) : Ret Try.prog 44 [.slice sp_0 n_0 cap_0, .int .i64 p1] w ⟨[], []⟩ (fun v R => v = ret44 r ∧ R = ⟨[], []⟩) := by
 unfold fn44 at h
 refine Ret.of_body Try.func44 rfl Try.ntmps44 rfl (fun _ hx => absurd hx List.not_mem_nil) List.nodup_nil (TC.seq (TC.region (TO.u rfl rfl (TX.assign rfl rfl (TO.u rfl rfl (TX.assign rfl rfl (TO.nil (TE.thenN rfl rfl (TC.seq (TC.region (TO.u rfl rfl (TX.move rfl rfl (TO.u rfl rfl (TX.move rfl rfl ?_))))))))))))))
 obtain ⟨hk1, h⟩ := ck h
 refine TO.u rfl rfl (TX.indexR (N := Instr.E) Try.runUnderlying24 Try.sizeOf27 rfl qn0 rfl (fun a w s => qp0 w s.ext) hk1 rfl (TO.u rfl rfl (TX.loadRN (N := Instr.E) Try.isAgg27 Try.sizeOf27 rfl (fun a w s => qp0 w s.ext) hk1 rfl rfl (TO.u rfl rfl (TX.alloc Try.zeroValue27 rfl rfl (fun b2 => (TO.u rfl rfl (TX.store (i := 0) Try.sizeOf27 rfl rfl rfl rfl rfl rfl rfl rfl (TO.nil (TE.thenN rfl rfl (TC.seq (TC.region (TO.u rfl rfl (TX.move rfl rfl (TO.u rfl rfl (TX.ibin rfl rfl rfl rfl (TO.u rfl rfl (TX.assign rfl rfl (TO.u rfl rfl (TX.assign rfl rfl (TO.nil (TE.thenN rfl rfl (TC.seq (TC.seq (TC.region (TO.u rfl rfl (TX.loadN (i := 0) Try.isAgg27 Try.sizeOf27 rfl rfl rfl rfl ?_)))))))))))))))))))))))))))
 obtain ⟨v3, hv3, h⟩ := bp h
 refine TO.u rfl rfl (TX.callP Try.call71 rfl (fun a w s => c71 (gt p0 p1) _ _  hv3) rfl (TO.nil (TE.thenN rfl rfl (TC.cond rfl (fun hb4 => ?_) (fun hb4 => ?_)))))
 · replace h := it h hb4
   refine TC.region (TO.u rfl rfl (TX.move rfl rfl (TO.u rfl rfl (TX.ibin rfl rfl rfl rfl (TO.u rfl rfl (TX.assign rfl rfl (TO.nil (TE.thenN rfl rfl (TC.seq (TC.region (TO.u rfl rfl (TX.loadN (i := 0) Try.isAgg27 Try.sizeOf27 rfl rfl rfl rfl (TO.u rfl rfl (TX.move rfl rfl ?_))))))))))))))
   obtain ⟨v5, hv5, h⟩ := bp h
   refine TO.u rfl rfl (TX.callP Try.call58 rfl (fun a w s => c58 (gt p0 p1) p1 _ _  hv5) rfl (TO.u rfl rfl (TX.move rfl rfl (TO.u rfl rfl (TX.extract rfl rfl rfl (TO.u rfl rfl (TX.extract rfl rfl rfl (TO.u rfl rfl (TX.assign rfl rfl (TO.u rfl rfl (TX.assign rfl rfl (TO.nil (TE.thenN rfl rfl (TC.seq (TC.seq (TC.region (TO.u rfl rfl (TX.move rfl rfl (TO.nil (TE.thenN rfl rfl (TC.cond rfl (fun hb6 => ?_) (fun hb6 => ?_))))))))))))))))))))))
   · replace h := it h hb6
     refine TC.region (TO.u rfl rfl (TX.move rfl rfl (TO.u rfl rfl (TX.assign rfl rfl (TO.nil (TE.thenN rfl rfl (TC.seq (TC.keep (L' := [(6, .pointer (some ⟨b2, 0, none⟩)), (7, .int .i64 (IntKind.i64.wrap (p1 + 2))), (8, .int .i64 v5.1)]) ⟨rfl, rfl, rfl, trivial⟩ ?_))))))))
     obtain ⟨v7, hv7, h⟩ := bp h
     refine TC.draw hmix 3 [.agg #[.int .u8 ((gt p0 p1).fOp), .int .u8 ((gt p0 p1).fDst), .int .u8 ((gt p0 p1).fSrc), .int .i16 ((gt p0 p1).fOff), .int .i32 ((gt p0 p1).fImm)], .int .u8 v7, .agg #[.int .u8 ((gt p0 p1).fOp), .int .u8 ((gt p0 p1).fDst), .int .u8 ((gt p0 p1).fSrc), .int .i16 ((gt p0 p1).fOff), .int .i32 ((gt p0 p1).fImm)]] [(32, .int .u8 v7), (33, .agg #[.int .u8 ((gt p0 p1).fOp), .int .u8 ((gt p0 p1).fDst), .int .u8 ((gt p0 p1).fSrc), .int .i16 ((gt p0 p1).fOff), .int .i32 ((gt p0 p1).fImm)])] rfl rfl rfl rfl ?_ (.cons 1 rfl rfl rfl (.cons 2 rfl rfl rfl .nil)) ?_
     · exact QAll.u [(6, .pointer (some ⟨b2, 0, none⟩))] (.old rfl .nil) rfl rfl (QV.loadN (i := 0) Try.isAgg27 Try.sizeOf27 rfl rfl rfl).s rfl (QAll.u [(31, .agg #[.int .u8 ((gt p0 p1).fOp), .int .u8 ((gt p0 p1).fDst), .int .u8 ((gt p0 p1).fSrc), .int .i16 ((gt p0 p1).fOff), .int .i32 ((gt p0 p1).fImm)])] (.dat 0 rfl rfl rfl .nil) rfl rfl (QS.callP Try.call54 rfl (fun a w s => c54 (gt p0 p1) _ _  hv7)) rfl (QAll.u [(6, .pointer (some ⟨b2, 0, none⟩))] (.old rfl .nil) rfl rfl (QV.loadN (i := 0) Try.isAgg27 Try.sizeOf27 rfl rfl rfl).s rfl (QAll.nil)))
     obtain ⟨v8, hv8, h⟩ := bp h
     refine TO.u rfl rfl (TX.callP Try.call55 rfl (fun a w s => c55 (gt p0 p1) _ _  hv8) rfl (TO.u rfl rfl (TX.assign rfl rfl (TO.u rfl rfl (TX.assign rfl rfl (TO.nil (TE.thenN rfl rfl (TC.seq (TC.seq (TC.region (TO.u rfl rfl (TX.move rfl rfl (TO.u rfl rfl (TX.ibin rfl rfl rfl rfl (TO.u rfl rfl (TX.move rfl rfl (TO.cutS 7 [(44, .bool ((v7 == 5) && ((v8 == 144) || (v8 == 0))))] ?_ ?_)))))))))))))))))
     · cases hc9 : (v7 == 5)
       · exact TO.s rfl rfl rfl rfl rfl rfl (TO.s rfl rfl rfl rfl rfl rfl (TO.s rfl rfl rfl rfl rfl rfl (TO.su rfl rfl rfl rfl rfl (TO.su rfl rfl rfl rfl rfl (TO.s rfl rfl rfl rfl rfl rfl (TO.u rfl rfl (TX.pickF rfl rfl rfl (TO.nil (TE.cutS 7 rfl rfl ⟨rfl, trivial⟩)))))))))
       refine TO.g rfl rfl rfl rfl (TX.move rfl rfl (TO.g rfl rfl rfl rfl (TX.ibin rfl rfl rfl rfl (TO.g rfl rfl rfl rfl (TX.move rfl rfl ?_)))))
       cases hc10 : (v8 == 144)
       · exact TO.g rfl rfl rfl rfl (TX.move rfl rfl (TO.g rfl rfl rfl rfl (TX.ibin rfl rfl rfl rfl (TO.g rfl rfl rfl rfl (TX.pickF rfl rfl rfl (TO.u rfl rfl (TX.pickT rfl rfl rfl (TO.nil (TE.cutS 7 rfl rfl ⟨rfl, trivial⟩)))))))))
       exact TO.s rfl rfl rfl rfl rfl rfl (TO.s rfl rfl rfl rfl rfl rfl (TO.g rfl rfl rfl rfl (TX.pickT rfl rfl rfl (TO.u rfl rfl (TX.pickT rfl rfl rfl (TO.nil (TE.cutS 7 rfl rfl ⟨rfl, trivial⟩)))))))
     refine TO.u rfl rfl (TX.move rfl rfl (TO.cutS 7 [(52, .bool (((v7 == 5) && ((v8 == 144) || (v8 == 0))) || ((v7 == 6) && (v8 == 0))))] ?_ ?_))
     · cases hc11 : ((v7 == 5) && ((v8 == 144) || (v8 == 0)))
       · refine TO.g rfl rfl rfl rfl (TX.move rfl rfl (TO.g rfl rfl rfl rfl (TX.ibin rfl rfl rfl rfl (TO.g rfl rfl rfl rfl (TX.move rfl rfl ?_)))))
         cases hc12 : (v7 == 6)
         · exact TO.s rfl rfl rfl rfl rfl rfl (TO.s rfl rfl rfl rfl rfl rfl (TO.g rfl rfl rfl rfl (TX.pickF rfl rfl rfl (TO.u rfl rfl (TX.pickF rfl rfl rfl (TO.nil (TE.cutS 7 rfl rfl ⟨rfl, trivial⟩)))))))
         exact TO.g rfl rfl rfl rfl (TX.move rfl rfl (TO.g rfl rfl rfl rfl (TX.ibin rfl rfl rfl rfl (TO.g rfl rfl rfl rfl (TX.pickT rfl rfl rfl (TO.u rfl rfl (TX.pickF rfl rfl rfl (TO.nil (TE.cutS 7 rfl rfl ⟨rfl, trivial⟩)))))))))
       exact TO.s rfl rfl rfl rfl rfl rfl (TO.s rfl rfl rfl rfl rfl rfl (TO.s rfl rfl rfl rfl rfl rfl (TO.su rfl rfl rfl rfl rfl (TO.su rfl rfl rfl rfl rfl (TO.s rfl rfl rfl rfl rfl rfl (TO.u rfl rfl (TX.pickT rfl rfl rfl (TO.nil (TE.cutS 7 rfl rfl ⟨rfl, trivial⟩)))))))))
     refine TO.nil (TE.thenN rfl rfl (TC.cond rfl (fun hb13 => ?_) (fun hb13 => ?_)))
     · replace h := it h hb13
       exact TC.region (TO.u rfl rfl (TX.assign rfl rfl (TO.nil (TE.thenN rfl rfl (TC.seq (TC.region (TO.u rfl rfl (TX.move rfl rfl (TO.u rfl rfl (TX.move rfl rfl (TO.u rfl rfl (TX.assign rfl rfl (TO.u rfl rfl (TX.assign rfl rfl (TO.nil (TE.thenN rfl rfl (TC.ret (TE.fin (R := ⟨[], []⟩) (TL.ret (R' := ⟨[], []⟩) Try.results44 (.cons (.tmp rfl) (.cons (.tmp rfl) .nil)) (subD 1 0 rfl rfl) ⟨congrArg ret44 (Option.some.inj h), rfl⟩)))))))))))))))))))
     replace h := ie h hb13
     exact TC.skip (TE.thenN rfl rfl (TC.seq (TC.region (TO.u rfl rfl (TX.move rfl rfl (TO.u rfl rfl (TX.move rfl rfl (TO.u rfl rfl (TX.assign rfl rfl (TO.u rfl rfl (TX.assign rfl rfl (TO.nil (TE.thenN rfl rfl (TC.ret (TE.fin (R := ⟨[], []⟩) (TL.ret (R' := ⟨[], []⟩) Try.results44 (.cons (.tmp rfl) (.cons (.tmp rfl) .nil)) (subD 1 0 rfl rfl) ⟨congrArg ret44 (Option.some.inj h), rfl⟩))))))))))))))))
   replace h := ie h hb6
   refine TC.skip (TE.thenN rfl rfl (TC.seq (TC.keep (L' := [(6, .pointer (some ⟨b2, 0, none⟩)), (7, .int .i64 (IntKind.i64.wrap (p1 + 2))), (8, .int .i64 (-1))]) ⟨rfl, rfl, rfl, trivial⟩ ?_)))
   obtain ⟨v14, hv14, h⟩ := bp h
   refine TC.draw hmix 3 [.agg #[.int .u8 ((gt p0 p1).fOp), .int .u8 ((gt p0 p1).fDst), .int .u8 ((gt p0 p1).fSrc), .int .i16 ((gt p0 p1).fOff), .int .i32 ((gt p0 p1).fImm)], .int .u8 v14, .agg #[.int .u8 ((gt p0 p1).fOp), .int .u8 ((gt p0 p1).fDst), .int .u8 ((gt p0 p1).fSrc), .int .i16 ((gt p0 p1).fOff), .int .i32 ((gt p0 p1).fImm)]] [(32, .int .u8 v14), (33, .agg #[.int .u8 ((gt p0 p1).fOp), .int .u8 ((gt p0 p1).fDst), .int .u8 ((gt p0 p1).fSrc), .int .i16 ((gt p0 p1).fOff), .int .i32 ((gt p0 p1).fImm)])] rfl rfl rfl rfl ?_ (.cons 1 rfl rfl rfl (.cons 2 rfl rfl rfl .nil)) ?_
   · exact QAll.u [(6, .pointer (some ⟨b2, 0, none⟩))] (.old rfl .nil) rfl rfl (QV.loadN (i := 0) Try.isAgg27 Try.sizeOf27 rfl rfl rfl).s rfl (QAll.u [(31, .agg #[.int .u8 ((gt p0 p1).fOp), .int .u8 ((gt p0 p1).fDst), .int .u8 ((gt p0 p1).fSrc), .int .i16 ((gt p0 p1).fOff), .int .i32 ((gt p0 p1).fImm)])] (.dat 0 rfl rfl rfl .nil) rfl rfl (QS.callP Try.call54 rfl (fun a w s => c54 (gt p0 p1) _ _  hv14)) rfl (QAll.u [(6, .pointer (some ⟨b2, 0, none⟩))] (.old rfl .nil) rfl rfl (QV.loadN (i := 0) Try.isAgg27 Try.sizeOf27 rfl rfl rfl).s rfl (QAll.nil)))
   obtain ⟨v15, hv15, h⟩ := bp h
   refine TO.u rfl rfl (TX.callP Try.call55 rfl (fun a w s => c55 (gt p0 p1) _ _  hv15) rfl (TO.u rfl rfl (TX.assign rfl rfl (TO.u rfl rfl (TX.assign rfl rfl (TO.nil (TE.thenN rfl rfl (TC.seq (TC.seq (TC.region (TO.u rfl rfl (TX.move rfl rfl (TO.u rfl rfl (TX.ibin rfl rfl rfl rfl (TO.u rfl rfl (TX.move rfl rfl (TO.cutS 7 [(44, .bool ((v14 == 5) && ((v15 == 144) || (v15 == 0))))] ?_ ?_)))))))))))))))))
   · cases hc16 : (v14 == 5)
     · exact TO.s rfl rfl rfl rfl rfl rfl (TO.s rfl rfl rfl rfl rfl rfl (TO.s rfl rfl rfl rfl rfl rfl (TO.su rfl rfl rfl rfl rfl (TO.su rfl rfl rfl rfl rfl (TO.s rfl rfl rfl rfl rfl rfl (TO.u rfl rfl (TX.pickF rfl rfl rfl (TO.nil (TE.cutS 7 rfl rfl ⟨rfl, trivial⟩)))))))))
     refine TO.g rfl rfl rfl rfl (TX.move rfl rfl (TO.g rfl rfl rfl rfl (TX.ibin rfl rfl rfl rfl (TO.g rfl rfl rfl rfl (TX.move rfl rfl ?_)))))
     cases hc17 : (v15 == 144)
     · exact TO.g rfl rfl rfl rfl (TX.move rfl rfl (TO.g rfl rfl rfl rfl (TX.ibin rfl rfl rfl rfl (TO.g rfl rfl rfl rfl (TX.pickF rfl rfl rfl (TO.u rfl rfl (TX.pickT rfl rfl rfl (TO.nil (TE.cutS 7 rfl rfl ⟨rfl, trivial⟩)))))))))
     exact TO.s rfl rfl rfl rfl rfl rfl (TO.s rfl rfl rfl rfl rfl rfl (TO.g rfl rfl rfl rfl (TX.pickT rfl rfl rfl (TO.u rfl rfl (TX.pickT rfl rfl rfl (TO.nil (TE.cutS 7 rfl rfl ⟨rfl, trivial⟩)))))))
   refine TO.u rfl rfl (TX.move rfl rfl (TO.cutS 7 [(52, .bool (((v14 == 5) && ((v15 == 144) || (v15 == 0))) || ((v14 == 6) && (v15 == 0))))] ?_ ?_))
   · cases hc18 : ((v14 == 5) && ((v15 == 144) || (v15 == 0)))
     · refine TO.g rfl rfl rfl rfl (TX.move rfl rfl (TO.g rfl rfl rfl rfl (TX.ibin rfl rfl rfl rfl (TO.g rfl rfl rfl rfl (TX.move rfl rfl ?_)))))
       cases hc19 : (v14 == 6)
       · exact TO.s rfl rfl rfl rfl rfl rfl (TO.s rfl rfl rfl rfl rfl rfl (TO.g rfl rfl rfl rfl (TX.pickF rfl rfl rfl (TO.u rfl rfl (TX.pickF rfl rfl rfl (TO.nil (TE.cutS 7 rfl rfl ⟨rfl, trivial⟩)))))))
       exact TO.g rfl rfl rfl rfl (TX.move rfl rfl (TO.g rfl rfl rfl rfl (TX.ibin rfl rfl rfl rfl (TO.g rfl rfl rfl rfl (TX.pickT rfl rfl rfl (TO.u rfl rfl (TX.pickF rfl rfl rfl (TO.nil (TE.cutS 7 rfl rfl ⟨rfl, trivial⟩)))))))))
     exact TO.s rfl rfl rfl rfl rfl rfl (TO.s rfl rfl rfl rfl rfl rfl (TO.s rfl rfl rfl rfl rfl rfl (TO.su rfl rfl rfl rfl rfl (TO.su rfl rfl rfl rfl rfl (TO.s rfl rfl rfl rfl rfl rfl (TO.u rfl rfl (TX.pickT rfl rfl rfl (TO.nil (TE.cutS 7 rfl rfl ⟨rfl, trivial⟩)))))))))
   refine TO.nil (TE.thenN rfl rfl (TC.cond rfl (fun hb20 => ?_) (fun hb20 => ?_)))
   · replace h := it h hb20
     exact TC.region (TO.u rfl rfl (TX.assign rfl rfl (TO.nil (TE.thenN rfl rfl (TC.seq (TC.region (TO.u rfl rfl (TX.move rfl rfl (TO.u rfl rfl (TX.move rfl rfl (TO.u rfl rfl (TX.assign rfl rfl (TO.u rfl rfl (TX.assign rfl rfl (TO.nil (TE.thenN rfl rfl (TC.ret (TE.fin (R := ⟨[], []⟩) (TL.ret (R' := ⟨[], []⟩) Try.results44 (.cons (.tmp rfl) (.cons (.tmp rfl) .nil)) (subD 1 0 rfl rfl) ⟨congrArg ret44 (Option.some.inj h), rfl⟩)))))))))))))))))))
   replace h := ie h hb20
   exact TC.skip (TE.thenN rfl rfl (TC.seq (TC.region (TO.u rfl rfl (TX.move rfl rfl (TO.u rfl rfl (TX.move rfl rfl (TO.u rfl rfl (TX.assign rfl rfl (TO.u rfl rfl (TX.assign rfl rfl (TO.nil (TE.thenN rfl rfl (TC.ret (TE.fin (R := ⟨[], []⟩) (TL.ret (R' := ⟨[], []⟩) Try.results44 (.cons (.tmp rfl) (.cons (.tmp rfl) .nil)) (subD 1 0 rfl rfl) ⟨congrArg ret44 (Option.some.inj h), rfl⟩))))))))))))))))
 replace h := ie h hb4
 refine TC.skip (TE.thenN rfl rfl (TC.seq (TC.region (TO.u rfl rfl (TX.loadN (i := 0) Try.isAgg27 Try.sizeOf27 rfl rfl rfl rfl (TO.u rfl rfl (TX.move rfl rfl ?_)))))))
 obtain ⟨v21, hv21, h⟩ := bp h
 refine TO.u rfl rfl (TX.callP Try.call58 rfl (fun a w s => c58 (gt p0 p1) p1 _ _  hv21) rfl (TO.u rfl rfl (TX.move rfl rfl (TO.u rfl rfl (TX.extract rfl rfl rfl (TO.u rfl rfl (TX.extract rfl rfl rfl (TO.u rfl rfl (TX.assign rfl rfl (TO.u rfl rfl (TX.assign rfl rfl (TO.nil (TE.thenN rfl rfl (TC.seq (TC.seq (TC.region (TO.u rfl rfl (TX.move rfl rfl (TO.nil (TE.thenN rfl rfl (TC.cond rfl (fun hb22 => ?_) (fun hb22 => ?_))))))))))))))))))))))
 · replace h := it h hb22
   refine TC.region (TO.u rfl rfl (TX.move rfl rfl (TO.u rfl rfl (TX.assign rfl rfl (TO.nil (TE.thenN rfl rfl (TC.seq (TC.keep (L' := [(6, .pointer (some ⟨b2, 0, none⟩)), (7, .int .i64 (IntKind.i64.wrap (p1 + 1))), (8, .int .i64 v21.1)]) ⟨rfl, rfl, rfl, trivial⟩ ?_))))))))
   obtain ⟨v23, hv23, h⟩ := bp h
   refine TC.draw hmix 3 [.agg #[.int .u8 ((gt p0 p1).fOp), .int .u8 ((gt p0 p1).fDst), .int .u8 ((gt p0 p1).fSrc), .int .i16 ((gt p0 p1).fOff), .int .i32 ((gt p0 p1).fImm)], .int .u8 v23, .agg #[.int .u8 ((gt p0 p1).fOp), .int .u8 ((gt p0 p1).fDst), .int .u8 ((gt p0 p1).fSrc), .int .i16 ((gt p0 p1).fOff), .int .i32 ((gt p0 p1).fImm)]] [(32, .int .u8 v23), (33, .agg #[.int .u8 ((gt p0 p1).fOp), .int .u8 ((gt p0 p1).fDst), .int .u8 ((gt p0 p1).fSrc), .int .i16 ((gt p0 p1).fOff), .int .i32 ((gt p0 p1).fImm)])] rfl rfl rfl rfl ?_ (.cons 1 rfl rfl rfl (.cons 2 rfl rfl rfl .nil)) ?_
   · exact QAll.u [(6, .pointer (some ⟨b2, 0, none⟩))] (.old rfl .nil) rfl rfl (QV.loadN (i := 0) Try.isAgg27 Try.sizeOf27 rfl rfl rfl).s rfl (QAll.u [(31, .agg #[.int .u8 ((gt p0 p1).fOp), .int .u8 ((gt p0 p1).fDst), .int .u8 ((gt p0 p1).fSrc), .int .i16 ((gt p0 p1).fOff), .int .i32 ((gt p0 p1).fImm)])] (.dat 0 rfl rfl rfl .nil) rfl rfl (QS.callP Try.call54 rfl (fun a w s => c54 (gt p0 p1) _ _  hv23)) rfl (QAll.u [(6, .pointer (some ⟨b2, 0, none⟩))] (.old rfl .nil) rfl rfl (QV.loadN (i := 0) Try.isAgg27 Try.sizeOf27 rfl rfl rfl).s rfl (QAll.nil)))
   obtain ⟨v24, hv24, h⟩ := bp h
   refine TO.u rfl rfl (TX.callP Try.call55 rfl (fun a w s => c55 (gt p0 p1) _ _  hv24) rfl (TO.u rfl rfl (TX.assign rfl rfl (TO.u rfl rfl (TX.assign rfl rfl (TO.nil (TE.thenN rfl rfl (TC.seq (TC.seq (TC.region (TO.u rfl rfl (TX.move rfl rfl (TO.u rfl rfl (TX.ibin rfl rfl rfl rfl (TO.u rfl rfl (TX.move rfl rfl (TO.cutS 7 [(44, .bool ((v23 == 5) && ((v24 == 144) || (v24 == 0))))] ?_ ?_)))))))))))))))))
   · cases hc25 : (v23 == 5)
     · exact TO.s rfl rfl rfl rfl rfl rfl (TO.s rfl rfl rfl rfl rfl rfl (TO.s rfl rfl rfl rfl rfl rfl (TO.su rfl rfl rfl rfl rfl (TO.su rfl rfl rfl rfl rfl (TO.s rfl rfl rfl rfl rfl rfl (TO.u rfl rfl (TX.pickF rfl rfl rfl (TO.nil (TE.cutS 7 rfl rfl ⟨rfl, trivial⟩)))))))))
     refine TO.g rfl rfl rfl rfl (TX.move rfl rfl (TO.g rfl rfl rfl rfl (TX.ibin rfl rfl rfl rfl (TO.g rfl rfl rfl rfl (TX.move rfl rfl ?_)))))
     cases hc26 : (v24 == 144)
     · exact TO.g rfl rfl rfl rfl (TX.move rfl rfl (TO.g rfl rfl rfl rfl (TX.ibin rfl rfl rfl rfl (TO.g rfl rfl rfl rfl (TX.pickF rfl rfl rfl (TO.u rfl rfl (TX.pickT rfl rfl rfl (TO.nil (TE.cutS 7 rfl rfl ⟨rfl, trivial⟩)))))))))
     exact TO.s rfl rfl rfl rfl rfl rfl (TO.s rfl rfl rfl rfl rfl rfl (TO.g rfl rfl rfl rfl (TX.pickT rfl rfl rfl (TO.u rfl rfl (TX.pickT rfl rfl rfl (TO.nil (TE.cutS 7 rfl rfl ⟨rfl, trivial⟩)))))))
   refine TO.u rfl rfl (TX.move rfl rfl (TO.cutS 7 [(52, .bool (((v23 == 5) && ((v24 == 144) || (v24 == 0))) || ((v23 == 6) && (v24 == 0))))] ?_ ?_))
   · cases hc27 : ((v23 == 5) && ((v24 == 144) || (v24 == 0)))
     · refine TO.g rfl rfl rfl rfl (TX.move rfl rfl (TO.g rfl rfl rfl rfl (TX.ibin rfl rfl rfl rfl (TO.g rfl rfl rfl rfl (TX.move rfl rfl ?_)))))
       cases hc28 : (v23 == 6)
       · exact TO.s rfl rfl rfl rfl rfl rfl (TO.s rfl rfl rfl rfl rfl rfl (TO.g rfl rfl rfl rfl (TX.pickF rfl rfl rfl (TO.u rfl rfl (TX.pickF rfl rfl rfl (TO.nil (TE.cutS 7 rfl rfl ⟨rfl, trivial⟩)))))))
       exact TO.g rfl rfl rfl rfl (TX.move rfl rfl (TO.g rfl rfl rfl rfl (TX.ibin rfl rfl rfl rfl (TO.g rfl rfl rfl rfl (TX.pickT rfl rfl rfl (TO.u rfl rfl (TX.pickF rfl rfl rfl (TO.nil (TE.cutS 7 rfl rfl ⟨rfl, trivial⟩)))))))))
     exact TO.s rfl rfl rfl rfl rfl rfl (TO.s rfl rfl rfl rfl rfl rfl (TO.s rfl rfl rfl rfl rfl rfl (TO.su rfl rfl rfl rfl rfl (TO.su rfl rfl rfl rfl rfl (TO.s rfl rfl rfl rfl rfl rfl (TO.u rfl rfl (TX.pickT rfl rfl rfl (TO.nil (TE.cutS 7 rfl rfl ⟨rfl, trivial⟩)))))))))
   refine TO.nil (TE.thenN rfl rfl (TC.cond rfl (fun hb29 => ?_) (fun hb29 => ?_)))
   · replace h := it h hb29
     exact TC.region (TO.u rfl rfl (TX.assign rfl rfl (TO.nil (TE.thenN rfl rfl (TC.seq (TC.region (TO.u rfl rfl (TX.move rfl rfl (TO.u rfl rfl (TX.move rfl rfl (TO.u rfl rfl (TX.assign rfl rfl (TO.u rfl rfl (TX.assign rfl rfl (TO.nil (TE.thenN rfl rfl (TC.ret (TE.fin (R := ⟨[], []⟩) (TL.ret (R' := ⟨[], []⟩) Try.results44 (.cons (.tmp rfl) (.cons (.tmp rfl) .nil)) (subD 1 0 rfl rfl) ⟨congrArg ret44 (Option.some.inj h), rfl⟩)))))))))))))))))))
   replace h := ie h hb29
   exact TC.skip (TE.thenN rfl rfl (TC.seq (TC.region (TO.u rfl rfl (TX.move rfl rfl (TO.u rfl rfl (TX.move rfl rfl (TO.u rfl rfl (TX.assign rfl rfl (TO.u rfl rfl (TX.assign rfl rfl (TO.nil (TE.thenN rfl rfl (TC.ret (TE.fin (R := ⟨[], []⟩) (TL.ret (R' := ⟨[], []⟩) Try.results44 (.cons (.tmp rfl) (.cons (.tmp rfl) .nil)) (subD 1 0 rfl rfl) ⟨congrArg ret44 (Option.some.inj h), rfl⟩))))))))))))))))
 replace h := ie h hb22
 refine TC.skip (TE.thenN rfl rfl (TC.seq (TC.keep (L' := [(6, .pointer (some ⟨b2, 0, none⟩)), (7, .int .i64 (IntKind.i64.wrap (p1 + 1))), (8, .int .i64 (-1))]) ⟨rfl, rfl, rfl, trivial⟩ ?_)))
 obtain ⟨v30, hv30, h⟩ := bp h
 refine TC.draw hmix 3 [.agg #[.int .u8 ((gt p0 p1).fOp), .int .u8 ((gt p0 p1).fDst), .int .u8 ((gt p0 p1).fSrc), .int .i16 ((gt p0 p1).fOff), .int .i32 ((gt p0 p1).fImm)], .int .u8 v30, .agg #[.int .u8 ((gt p0 p1).fOp), .int .u8 ((gt p0 p1).fDst), .int .u8 ((gt p0 p1).fSrc), .int .i16 ((gt p0 p1).fOff), .int .i32 ((gt p0 p1).fImm)]] [(32, .int .u8 v30), (33, .agg #[.int .u8 ((gt p0 p1).fOp), .int .u8 ((gt p0 p1).fDst), .int .u8 ((gt p0 p1).fSrc), .int .i16 ((gt p0 p1).fOff), .int .i32 ((gt p0 p1).fImm)])] rfl rfl rfl rfl ?_ (.cons 1 rfl rfl rfl (.cons 2 rfl rfl rfl .nil)) ?_
 · exact QAll.u [(6, .pointer (some ⟨b2, 0, none⟩))] (.old rfl .nil) rfl rfl (QV.loadN (i := 0) Try.isAgg27 Try.sizeOf27 rfl rfl rfl).s rfl (QAll.u [(31, .agg #[.int .u8 ((gt p0 p1).fOp), .int .u8 ((gt p0 p1).fDst), .int .u8 ((gt p0 p1).fSrc), .int .i16 ((gt p0 p1).fOff), .int .i32 ((gt p0 p1).fImm)])] (.dat 0 rfl rfl rfl .nil) rfl rfl (QS.callP Try.call54 rfl (fun a w s => c54 (gt p0 p1) _ _  hv30)) rfl (QAll.u [(6, .pointer (some ⟨b2, 0, none⟩))] (.old rfl .nil) rfl rfl (QV.loadN (i := 0) Try.isAgg27 Try.sizeOf27 rfl rfl rfl).s rfl (QAll.nil)))
 obtain ⟨v31, hv31, h⟩ := bp h
 refine TO.u rfl rfl (TX.callP Try.call55 rfl (fun a w s => c55 (gt p0 p1) _ _  hv31) rfl (TO.u rfl rfl (TX.assign rfl rfl (TO.u rfl rfl (TX.assign rfl rfl (TO.nil (TE.thenN rfl rfl (TC.seq (TC.seq (TC.region (TO.u rfl rfl (TX.move rfl rfl (TO.u rfl rfl (TX.ibin rfl rfl rfl rfl (TO.u rfl rfl (TX.move rfl rfl (TO.cutS 7 [(44, .bool ((v30 == 5) && ((v31 == 144) || (v31 == 0))))] ?_ ?_)))))))))))))))))
 · cases hc32 : (v30 == 5)
   · exact TO.s rfl rfl rfl rfl rfl rfl (TO.s rfl rfl rfl rfl rfl rfl (TO.s rfl rfl rfl rfl rfl rfl (TO.su rfl rfl rfl rfl rfl (TO.su rfl rfl rfl rfl rfl (TO.s rfl rfl rfl rfl rfl rfl (TO.u rfl rfl (TX.pickF rfl rfl rfl (TO.nil (TE.cutS 7 rfl rfl ⟨rfl, trivial⟩)))))))))
   refine TO.g rfl rfl rfl rfl (TX.move rfl rfl (TO.g rfl rfl rfl rfl (TX.ibin rfl rfl rfl rfl (TO.g rfl rfl rfl rfl (TX.move rfl rfl ?_)))))
   cases hc33 : (v31 == 144)
   · exact TO.g rfl rfl rfl rfl (TX.move rfl rfl (TO.g rfl rfl rfl rfl (TX.ibin rfl rfl rfl rfl (TO.g rfl rfl rfl rfl (TX.pickF rfl rfl rfl (TO.u rfl rfl (TX.pickT rfl rfl rfl (TO.nil (TE.cutS 7 rfl rfl ⟨rfl, trivial⟩)))))))))
   exact TO.s rfl rfl rfl rfl rfl rfl (TO.s rfl rfl rfl rfl rfl rfl (TO.g rfl rfl rfl rfl (TX.pickT rfl rfl rfl (TO.u rfl rfl (TX.pickT rfl rfl rfl (TO.nil (TE.cutS 7 rfl rfl ⟨rfl, trivial⟩)))))))
 refine TO.u rfl rfl (TX.move rfl rfl (TO.cutS 7 [(52, .bool (((v30 == 5) && ((v31 == 144) || (v31 == 0))) || ((v30 == 6) && (v31 == 0))))] ?_ ?_))
 · cases hc34 : ((v30 == 5) && ((v31 == 144) || (v31 == 0)))
   · refine TO.g rfl rfl rfl rfl (TX.move rfl rfl (TO.g rfl rfl rfl rfl (TX.ibin rfl rfl rfl rfl (TO.g rfl rfl rfl rfl (TX.move rfl rfl ?_)))))
     cases hc35 : (v30 == 6)
     · exact TO.s rfl rfl rfl rfl rfl rfl (TO.s rfl rfl rfl rfl rfl rfl (TO.g rfl rfl rfl rfl (TX.pickF rfl rfl rfl (TO.u rfl rfl (TX.pickF rfl rfl rfl (TO.nil (TE.cutS 7 rfl rfl ⟨rfl, trivial⟩)))))))
     exact TO.g rfl rfl rfl rfl (TX.move rfl rfl (TO.g rfl rfl rfl rfl (TX.ibin rfl rfl rfl rfl (TO.g rfl rfl rfl rfl (TX.pickT rfl rfl rfl (TO.u rfl rfl (TX.pickF rfl rfl rfl (TO.nil (TE.cutS 7 rfl rfl ⟨rfl, trivial⟩)))))))))
   exact TO.s rfl rfl rfl rfl rfl rfl (TO.s rfl rfl rfl rfl rfl rfl (TO.s rfl rfl rfl rfl rfl rfl (TO.su rfl rfl rfl rfl rfl (TO.su rfl rfl rfl rfl rfl (TO.s rfl rfl rfl rfl rfl rfl (TO.u rfl rfl (TX.pickT rfl rfl rfl (TO.nil (TE.cutS 7 rfl rfl ⟨rfl, trivial⟩)))))))))
 refine TO.nil (TE.thenN rfl rfl (TC.cond rfl (fun hb36 => ?_) (fun hb36 => ?_)))
 · replace h := it h hb36
   exact TC.region (TO.u rfl rfl (TX.assign rfl rfl (TO.nil (TE.thenN rfl rfl (TC.seq (TC.region (TO.u rfl rfl (TX.move rfl rfl (TO.u rfl rfl (TX.move rfl rfl (TO.u rfl rfl (TX.assign rfl rfl (TO.u rfl rfl (TX.assign rfl rfl (TO.nil (TE.thenN rfl rfl (TC.ret (TE.fin (R := ⟨[], []⟩) (TL.ret (R' := ⟨[], []⟩) Try.results44 (.cons (.tmp rfl) (.cons (.tmp rfl) .nil)) (subD 1 0 rfl rfl) ⟨congrArg ret44 (Option.some.inj h), rfl⟩)))))))))))))))))))
 replace h := ie h hb36
 exact TC.skip (TE.thenN rfl rfl (TC.seq (TC.region (TO.u rfl rfl (TX.move rfl rfl (TO.u rfl rfl (TX.move rfl rfl (TO.u rfl rfl (TX.assign rfl rfl (TO.u rfl rfl (TX.assign rfl rfl (TO.nil (TE.thenN rfl rfl (TC.ret (TE.fin (R := ⟨[], []⟩) (TL.ret (R' := ⟨[], []⟩) Try.results44 (.cons (.tmp rfl) (.cons (.tmp rfl) .nil)) (subD 1 0 rfl rfl) ⟨congrArg ret44 (Option.some.inj h), rfl⟩))))))))))))))))
def fn19_l1 (p0 : List Instr) (v3 : (List Bool)) : Nat → (List Edge) → Int → Option ((List Edge))
  | 0, _, _ => none
  | n123 + 1, x102, x110 => (bif decide (x110 < (p0.length : Int)) then (bif inb x110 v3.length then (bif !(gt v3 x110) then ((fn19_l1 p0 v3 n123) x102 (IntKind.i64.wrap (x110 + 1))) else (Option.bind (fn44 p0 x110) fun v129 => (bif decide ((0 : Int) ≤ v129.1) then (bif decide ((x102.length + ([(⟨x110, v129.1⟩ : Edge)] : List Edge).length) * 16 ≤ 140737488355328 ∧ x102.length + ([(⟨x110, v129.1⟩ : Edge)] : List Edge).length ≤ 9223372036854775807) then (bif decide ((0 : Int) ≤ v129.2) then (bif decide (((x102 ++ ([(⟨x110, v129.1⟩ : Edge)] : List Edge)).length + ([(⟨x110, v129.2⟩ : Edge)] : List Edge).length) * 16 ≤ 140737488355328 ∧ (x102 ++ ([(⟨x110, v129.1⟩ : Edge)] : List Edge)).length + ([(⟨x110, v129.2⟩ : Edge)] : List Edge).length ≤ 9223372036854775807) then ((fn19_l1 p0 v3 n123) ((x102 ++ ([(⟨x110, v129.1⟩ : Edge)] : List Edge)) ++ ([(⟨x110, v129.2⟩ : Edge)] : List Edge)) (IntKind.i64.wrap (x110 + 1))) else none) else ((fn19_l1 p0 v3 n123) (x102 ++ ([(⟨x110, v129.1⟩ : Edge)] : List Edge)) (IntKind.i64.wrap (x110 + 1)))) else none) else (bif decide ((0 : Int) ≤ v129.2) then (bif decide ((x102.length + ([(⟨x110, v129.2⟩ : Edge)] : List Edge).length) * 16 ≤ 140737488355328 ∧ x102.length + ([(⟨x110, v129.2⟩ : Edge)] : List Edge).length ≤ 9223372036854775807) then ((fn19_l1 p0 v3 n123) (x102 ++ ([(⟨x110, v129.2⟩ : Edge)] : List Edge)) (IntKind.i64.wrap (x110 + 1))) else none) else ((fn19_l1 p0 v3 n123) x102 (IntKind.i64.wrap (x110 + 1))))))) else none) else (some x102))
theorem fn19_l1_s (p0 : List Instr) (v3 : (List Bool)) (n123 : Nat) (x102 : List Edge) (x110 : Int) : fn19_l1 p0 v3 (n123 + 1) x102 x110 = (bif decide (x110 < (p0.length : Int)) then (bif inb x110 v3.length then (bif !(gt v3 x110) then ((fn19_l1 p0 v3 n123) x102 (IntKind.i64.wrap (x110 + 1))) else (Option.bind (fn44 p0 x110) fun v129 => (bif decide ((0 : Int) ≤ v129.1) then (bif decide ((x102.length + ([(⟨x110, v129.1⟩ : Edge)] : List Edge).length) * 16 ≤ 140737488355328 ∧ x102.length + ([(⟨x110, v129.1⟩ : Edge)] : List Edge).length ≤ 9223372036854775807) then (bif decide ((0 : Int) ≤ v129.2) then (bif decide (((x102 ++ ([(⟨x110, v129.1⟩ : Edge)] : List Edge)).length + ([(⟨x110, v129.2⟩ : Edge)] : List Edge).length) * 16 ≤ 140737488355328 ∧ (x102 ++ ([(⟨x110, v129.1⟩ : Edge)] : List Edge)).length + ([(⟨x110, v129.2⟩ : Edge)] : List Edge).length ≤ 9223372036854775807) then ((fn19_l1 p0 v3 n123) ((x102 ++ ([(⟨x110, v129.1⟩ : Edge)] : List Edge)) ++ ([(⟨x110, v129.2⟩ : Edge)] : List Edge)) (IntKind.i64.wrap (x110 + 1))) else none) else ((fn19_l1 p0 v3 n123) (x102 ++ ([(⟨x110, v129.1⟩ : Edge)] : List Edge)) (IntKind.i64.wrap (x110 + 1)))) else none) else (bif decide ((0 : Int) ≤ v129.2) then (bif decide ((x102.length + ([(⟨x110, v129.2⟩ : Edge)] : List Edge).length) * 16 ≤ 140737488355328 ∧ x102.length + ([(⟨x110, v129.2⟩ : Edge)] : List Edge).length ≤ 9223372036854775807) then ((fn19_l1 p0 v3 n123) (x102 ++ ([(⟨x110, v129.2⟩ : Edge)] : List Edge)) (IntKind.i64.wrap (x110 + 1))) else none) else ((fn19_l1 p0 v3 n123) x102 (IntKind.i64.wrap (x110 + 1))))))) else none) else (some x102)) := rfl
def fn19_k1 (x112 : List Edge) : Option ((List Edge)) :=
  (some x112)
theorem fn19_k1_s (x112 : List Edge) : fn19_k1 x112 = (some x112) := rfl
/-- hatchway/hatchwayref24.Edges -/
def fn19 (F : Nat) (p0 : List Instr) : Option ((List Edge)) :=
  (Option.bind (fn29 F p0) fun v1 => (bif v1.2 != 0 then (some ([] : List Edge)) else (Option.bind (fn43 F p0) fun v3 => (Option.bind (fn19_l1 p0 v3 F ([] : List Edge) 0) fun o120 => (fn19_k1 o120)))))
def post19 (r : (List Edge)) (v : Value) (R : Hp) : Prop := ∃ sp n cap Hs, v = .slice sp n cap ∧ r.length = n ∧ R = ⟨[], [Hs]⟩ ∧ OwnL Edge.E 40 sp cap r Hs
theorem c19 (F : Nat) (sp_0 : Option Addr) (n_0 cap_0 : Nat) (p0 : List Instr) (w : World) (r : (List Edge)) (qn0 : p0.length = n_0) (qc0 : p0.length ≤ cap_0) (qp0 : RdF Instr.E w [] sp_0 p0) (h : fn19 F p0 = some r) : Ret Try.prog 19 [.slice sp_0 n_0 cap_0] w ⟨[], []⟩ (post19 r) := by
 unfold fn19 at h
 refine Ret.of_body Try.func19 rfl Try.ntmps19 rfl (fun _ hx => absurd hx List.not_mem_nil) List.nodup_nil (TC.seq (TC.region (TO.u rfl rfl (TX.assign rfl rfl (TO.nil (TE.thenN rfl rfl (TC.seq (TC.region (TO.u rfl rfl (TX.move rfl rfl ?_))))))))))
 obtain ⟨v1, hv1, h⟩ := bd h
 refine TO.u rfl rfl (TX.callP Try.call29 rfl (fun a w s => c29 F _ _ _ p0 _ _ qn0 qc0 (qp0.tr s.extB0) hv1) rfl (TO.u rfl rfl (TX.move rfl rfl (TO.u rfl rfl (TX.extract rfl rfl rfl (TO.u rfl rfl (TX.extract rfl rfl rfl (TO.u rfl rfl (TX.assign rfl rfl (TO.u rfl rfl (TX.assign rfl rfl (TO.nil (TE.thenN rfl rfl (TC.seq (TC.seq (TC.region (TO.u rfl rfl (TX.move rfl rfl (TO.u rfl rfl (TX.ibin rfl rfl rfl rfl (TO.nil (TE.thenN rfl rfl (TC.cond rfl (fun hb2 => ?_) (fun hb2 => ?_))))))))))))))))))))))))
 · replace h := it h hb2
   refine TC.seq (TC.region (TO.u rfl rfl (TX.assign rfl rfl (TO.nil (TE.thenN rfl rfl (TC.ret (TE.thenR ?_)))))))
   have hr := (Option.some.inj h)
   subst hr
   exact TE.fin (R := ⟨[], []⟩) (TL.ret (R' := ⟨[], [[]]⟩) Try.results19 (.cons (.tmp rfl) .nil) segSub0 ⟨none, 0, 0, [], rfl, rfl, rfl, (OwnL.nil Edge.E 40)⟩)
 replace h := ie h hb2
 refine TC.skip (TE.thenN rfl rfl (TC.seq (TC.region (TO.u rfl rfl (TX.move rfl rfl ?_)))))
 obtain ⟨v3, hv3, h⟩ := bd h
 refine TO.u rfl rfl (TX.callQ (post43 v3) Try.call43 rfl (fun a w s => c43 F _ _ _ p0 _ _ qn0 qc0 (qp0.tr s.extB0) hv3) rfl ?_)
 rintro _ _ ⟨sp4, n5, cap6, Hs8, rfl, hn7, rfl, ho9⟩
 refine TO.reH ⟨[], [Hs8]⟩ rfl (TO.u rfl rfl (TX.assign rfl rfl (TO.nil (TE.thenN rfl rfl (TC.seq (TC.region (TO.u rfl rfl (TX.assign rfl rfl (TO.nil (TE.thenN rfl rfl (TC.seq (TC.seq (TC.region (TO.u rfl rfl (TX.assign rfl rfl (TO.nil (TE.thenN rfl rfl (TC.block ?_))))))))))))))))))
 obtain ⟨o120, hl121, h⟩ := bd h
 refine TC.addNil (TC.to (L' := [(0, .slice sp_0 n_0 cap_0), (5, .slice sp4 n5 cap6), (6, .slice none 0 0), (7, .int .i64 0)]) (E' := []) (S' := [[], Hs8]) 0 0 ⟨rfl, rfl, rfl, rfl, trivial⟩ rfl rfl (TC.cutE 0 (fun L' H' => ∃ x112 : List Edge, x112 = o120 ∧ ∃ sp113 n114 cap115 Hs117, OwnL Edge.E 40 sp113 cap115 x112 Hs117 ∧ x112.length = n114 ∧ L' = [(6, .slice sp113 n114 cap115)] ∧ H' = ⟨[], [Hs117, Hs8]⟩) ?_ ?_))
 · have h0125 := h
   clear h
   refine TC.loop (fun (n : Nat) (s : (List Edge) × Int) => fn19_l1 p0 v3 n s.1 s.2) o120 (fun _ => rfl) (fun (s : (List Edge) × Int) L' H' => match s with | (x102, x110) => ∃ sp103 n104 cap105 Hs107, OwnL Edge.E 40 sp103 cap105 x102 Hs107 ∧ x102.length = n104 ∧ L' = [(0, .slice sp_0 n_0 cap_0), (5, .slice sp4 n5 cap6), (6, .slice sp103 n104 cap105), (7, .int .i64 x110)] ∧ H' = ⟨[], [Hs107, Hs8]⟩) ?_ F (([] : List Edge), 0) ⟨none, 0, 0, [], (OwnL.nil Edge.E 40), rfl, rfl, rfl⟩ hl121
   clear hl121
   rintro K122 n123 ⟨x102, x110⟩ _ _ ⟨sp103, n104, cap105, Hs107, ho108, hn106, rfl, rfl⟩ h ih124
   replace h := (fn19_l1_s p0 v3 n123 x102 x110).symm.trans h
   refine TC.seq (TC.seq (TC.region (TO.u rfl rfl (TX.move rfl rfl (TO.u rfl rfl (TX.move rfl rfl (TO.u rfl rfl (TX.lenS (xs := p0) Try.runUnderlying24 rfl qn0 rfl (TO.u rfl rfl (TX.ibin rfl rfl rfl rfl (TO.nil (TE.thenN rfl rfl (TC.cond rfl (fun hb126 => ?_) (fun hb126 => ?_))))))))))))))
   · replace h := it h hb126
     refine TC.skip (TE.thenN rfl rfl (TC.seq (TC.block (TC.seq (TC.seq (TC.region (TO.u rfl rfl (TX.move rfl rfl (TO.u rfl rfl (TX.move rfl rfl ?_))))))))))
     obtain ⟨hk127, h⟩ := ck h
     refine TO.u rfl rfl (TX.indexR (N := En.bool) Try.runUnderlying41 Try.sizeOf4 rfl hn7 rfl (fun a w s => ho9.rd s (i := 1) rfl) hk127 rfl (TO.u rfl rfl (TX.loadR1 (N := En.bool) Try.isAgg4 rfl (fun a w s => ho9.rd s (i := 1) rfl) hk127 rfl rfl (TO.u rfl rfl (TX.not rfl rfl (TO.nil (TE.thenN rfl rfl (TC.cond rfl (fun hb128 => ?_) (fun hb128 => ?_)))))))))
     · replace h := it h hb128
       exact TC.exit (TE.thenX (TE.blockH (TE.thenN rfl rfl (TC.region (TO.u rfl rfl (TX.move rfl rfl (TO.u rfl rfl (TX.ibin rfl rfl rfl rfl (TO.u rfl rfl (TX.assign rfl rfl (TO.nil (TE.to (L' := [(0, .slice sp_0 n_0 cap_0), (5, .slice sp4 n5 cap6), (6, .slice sp103 n104 cap105), (7, .int .i64 (IntKind.i64.wrap (x110 + 1)))]) (E' := []) (S' := [Hs107, Hs8]) 0 0 ⟨rfl, rfl, rfl, rfl, trivial⟩ rfl rfl (ih124 (x102, IntKind.i64.wrap (x110 + 1)) _ _ ⟨sp103, n104, cap105, Hs107, ho108, hn106, rfl, rfl⟩ h)))))))))))))
     replace h := ie h hb128
     refine TC.skip (TE.thenN rfl rfl (TC.seq (TC.region (TO.u rfl rfl (TX.move rfl rfl (TO.u rfl rfl (TX.move rfl rfl ?_)))))))
     obtain ⟨v129, hv129, h⟩ := bd h
     refine TO.u rfl rfl (TX.callP Try.call44 rfl (fun a w s => c44 _ _ _ p0 x110 _ _ qn0 qc0 (qp0.tr s.extB0) hv129) rfl (TO.u rfl rfl (TX.move rfl rfl (TO.u rfl rfl (TX.extract rfl rfl rfl (TO.u rfl rfl (TX.extract rfl rfl rfl (TO.u rfl rfl (TX.assign rfl rfl (TO.u rfl rfl (TX.assign rfl rfl (TO.nil (TE.thenN rfl rfl (TC.seq (TC.seq (TC.region (TO.u rfl rfl (TX.move rfl rfl (TO.u rfl rfl (TX.ibin rfl rfl rfl rfl (TO.nil (TE.thenN rfl rfl (TC.cond rfl (fun hb130 => ?_) (fun hb130 => ?_))))))))))))))))))))))))
     · replace h := it h hb130
       refine TC.region (TO.u rfl rfl (TX.move rfl rfl (TO.u rfl rfl (TX.move rfl rfl (TO.u rfl rfl (TX.move rfl rfl (TO.u rfl rfl (TX.build Try.zeroValue40 rfl Try.runUnderlying40 (.cons Try.sizeOf3 (.cons Try.sizeOf3 .nil)) rfl rfl rfl (TO.u rfl rfl (TX.buildS (N := Edge.E) (ys := ([(⟨x110, v129.1⟩ : Edge)] : List Edge)) Try.runUnderlying36 Try.sizeOf40 Try.zeroValue40 rfl rfl rfl rfl (fillS [.agg #[.int .i64 x110, .int .i64 v129.1]] rfl rfl rfl rfl) rfl (fun sp131 Hs133 ho134 => ?_)))))))))))
       obtain ⟨hk135, h⟩ := ck h
       refine TO.u rfl rfl (TX.appendS (N := Edge.E) (si := 1) (xs := x102) (ys := ([(⟨x110, v129.1⟩ : Edge)] : List Edge)) Try.runUnderlying36 Try.typeInfo40 rfl rfl rfl rfl rfl hn106 rfl rfl rfl ho108 (fun a w s => ho134.rd s (i := 0) rfl) hk135 rfl (fun sp136 cap137 Hs138 _ S139 ho140 => ?_))
       cases S139
       refine TO.u rfl rfl (TX.assign rfl rfl (TO.nil (TE.thenN rfl rfl (TC.seq (TC.region (TO.u rfl rfl (TX.move rfl rfl (TO.u rfl rfl (TX.ibin rfl rfl rfl rfl (TO.nil (TE.thenN rfl rfl (TC.cond rfl (fun hb142 => ?_) (fun hb142 => ?_)))))))))))))
       · replace h := it h hb142
         refine TC.region (TO.u rfl rfl (TX.move rfl rfl (TO.u rfl rfl (TX.move rfl rfl (TO.u rfl rfl (TX.move rfl rfl (TO.u rfl rfl (TX.build Try.zeroValue40 rfl Try.runUnderlying40 (.cons Try.sizeOf3 (.cons Try.sizeOf3 .nil)) rfl rfl rfl (TO.u rfl rfl (TX.buildS (N := Edge.E) (ys := ([(⟨x110, v129.2⟩ : Edge)] : List Edge)) Try.runUnderlying36 Try.sizeOf40 Try.zeroValue40 rfl rfl rfl rfl (fillS [.agg #[.int .i64 x110, .int .i64 v129.2]] rfl rfl rfl rfl) rfl (fun sp143 Hs145 ho146 => ?_)))))))))))
         obtain ⟨hk147, h⟩ := ck h
         refine TO.u rfl rfl (TX.appendS (N := Edge.E) (si := 2) (xs := x102 ++ ([(⟨x110, v129.1⟩ : Edge)] : List Edge)) (ys := ([(⟨x110, v129.2⟩ : Edge)] : List Edge)) Try.runUnderlying36 Try.typeInfo40 rfl rfl rfl rfl rfl rfl rfl rfl rfl ho140 (fun a w s => ho146.rd s (i := 0) rfl) hk147 rfl (fun sp148 cap149 Hs150 _ S151 ho152 => ?_))
         cases S151
         exact TO.u rfl rfl (TX.assign rfl rfl (TO.nil (TE.blockN (TE.thenN rfl rfl (TC.region (TO.u rfl rfl (TX.move rfl rfl (TO.u rfl rfl (TX.ibin rfl rfl rfl rfl (TO.u rfl rfl (TX.assign rfl rfl (TO.nil (TE.to (L' := [(0, .slice sp_0 n_0 cap_0), (5, .slice sp4 n5 cap6), (6, .slice sp148 (((x102 ++ ([(⟨x110, v129.1⟩ : Edge)] : List Edge)) ++ ([(⟨x110, v129.2⟩ : Edge)] : List Edge)).length) cap149), (7, .int .i64 (IntKind.i64.wrap (x110 + 1)))]) (E' := []) (S' := [Hs150, Hs8]) 0 2 ⟨rfl, rfl, rfl, rfl, trivial⟩ rfl rfl (ih124 ((x102 ++ ([(⟨x110, v129.1⟩ : Edge)] : List Edge)) ++ ([(⟨x110, v129.2⟩ : Edge)] : List Edge), IntKind.i64.wrap (x110 + 1)) _ _ ⟨sp148, (((x102 ++ ([(⟨x110, v129.1⟩ : Edge)] : List Edge)) ++ ([(⟨x110, v129.2⟩ : Edge)] : List Edge)).length), cap149, Hs150, ho152, rfl, rfl, rfl⟩ h))))))))))))))
       replace h := ie h hb142
       exact TC.skip (TE.blockN (TE.thenN rfl rfl (TC.region (TO.u rfl rfl (TX.move rfl rfl (TO.u rfl rfl (TX.ibin rfl rfl rfl rfl (TO.u rfl rfl (TX.assign rfl rfl (TO.nil (TE.to (L' := [(0, .slice sp_0 n_0 cap_0), (5, .slice sp4 n5 cap6), (6, .slice sp136 ((x102 ++ ([(⟨x110, v129.1⟩ : Edge)] : List Edge)).length) cap137), (7, .int .i64 (IntKind.i64.wrap (x110 + 1)))]) (E' := []) (S' := [Hs138, Hs8]) 0 1 ⟨rfl, rfl, rfl, rfl, trivial⟩ rfl rfl (ih124 (x102 ++ ([(⟨x110, v129.1⟩ : Edge)] : List Edge), IntKind.i64.wrap (x110 + 1)) _ _ ⟨sp136, ((x102 ++ ([(⟨x110, v129.1⟩ : Edge)] : List Edge)).length), cap137, Hs138, ho140, rfl, rfl, rfl⟩ h))))))))))))
     replace h := ie h hb130
     refine TC.skip (TE.thenN rfl rfl (TC.seq (TC.region (TO.u rfl rfl (TX.move rfl rfl (TO.u rfl rfl (TX.ibin rfl rfl rfl rfl (TO.nil (TE.thenN rfl rfl (TC.cond rfl (fun hb154 => ?_) (fun hb154 => ?_)))))))))))
     · replace h := it h hb154
       refine TC.region (TO.u rfl rfl (TX.move rfl rfl (TO.u rfl rfl (TX.move rfl rfl (TO.u rfl rfl (TX.move rfl rfl (TO.u rfl rfl (TX.build Try.zeroValue40 rfl Try.runUnderlying40 (.cons Try.sizeOf3 (.cons Try.sizeOf3 .nil)) rfl rfl rfl (TO.u rfl rfl (TX.buildS (N := Edge.E) (ys := ([(⟨x110, v129.2⟩ : Edge)] : List Edge)) Try.runUnderlying36 Try.sizeOf40 Try.zeroValue40 rfl rfl rfl rfl (fillS [.agg #[.int .i64 x110, .int .i64 v129.2]] rfl rfl rfl rfl) rfl (fun sp155 Hs157 ho158 => ?_)))))))))))
       obtain ⟨hk159, h⟩ := ck h
       refine TO.u rfl rfl (TX.appendS (N := Edge.E) (si := 1) (xs := x102) (ys := ([(⟨x110, v129.2⟩ : Edge)] : List Edge)) Try.runUnderlying36 Try.typeInfo40 rfl rfl rfl rfl rfl hn106 rfl rfl rfl ho108 (fun a w s => ho158.rd s (i := 0) rfl) hk159 rfl (fun sp160 cap161 Hs162 _ S163 ho164 => ?_))
       cases S163
       exact TO.u rfl rfl (TX.assign rfl rfl (TO.nil (TE.blockN (TE.thenN rfl rfl (TC.region (TO.u rfl rfl (TX.move rfl rfl (TO.u rfl rfl (TX.ibin rfl rfl rfl rfl (TO.u rfl rfl (TX.assign rfl rfl (TO.nil (TE.to (L' := [(0, .slice sp_0 n_0 cap_0), (5, .slice sp4 n5 cap6), (6, .slice sp160 ((x102 ++ ([(⟨x110, v129.2⟩ : Edge)] : List Edge)).length) cap161), (7, .int .i64 (IntKind.i64.wrap (x110 + 1)))]) (E' := []) (S' := [Hs162, Hs8]) 0 1 ⟨rfl, rfl, rfl, rfl, trivial⟩ rfl rfl (ih124 (x102 ++ ([(⟨x110, v129.2⟩ : Edge)] : List Edge), IntKind.i64.wrap (x110 + 1)) _ _ ⟨sp160, ((x102 ++ ([(⟨x110, v129.2⟩ : Edge)] : List Edge)).length), cap161, Hs162, ho164, rfl, rfl, rfl⟩ h))))))))))))))
     replace h := ie h hb154
     exact TC.skip (TE.blockN (TE.thenN rfl rfl (TC.region (TO.u rfl rfl (TX.move rfl rfl (TO.u rfl rfl (TX.ibin rfl rfl rfl rfl (TO.u rfl rfl (TX.assign rfl rfl (TO.nil (TE.to (L' := [(0, .slice sp_0 n_0 cap_0), (5, .slice sp4 n5 cap6), (6, .slice sp103 n104 cap105), (7, .int .i64 (IntKind.i64.wrap (x110 + 1)))]) (E' := []) (S' := [Hs107, Hs8]) 0 0 ⟨rfl, rfl, rfl, rfl, trivial⟩ rfl rfl (ih124 (x102, IntKind.i64.wrap (x110 + 1)) _ _ ⟨sp103, n104, cap105, Hs107, ho108, hn106, rfl, rfl⟩ h))))))))))))
   replace h := ie h hb126
   exact TC.exit (TE.thenX (TE.loopX (TE.to (L' := [(6, .slice sp103 n104 cap105)]) (E' := []) (S' := [Hs107, Hs8]) 0 0 ⟨rfl, trivial⟩ rfl rfl (TE.cutE ⟨x102, Option.some.inj h, sp103, n104, cap105, Hs107, ho108, hn106, rfl, rfl⟩))))
 rintro _ _ ⟨x112, rfl, sp113, n114, cap115, Hs117, ho118, hn116, rfl, rfl⟩
 replace h := (fn19_k1_s x112).symm.trans h
 refine TE.blockH (TE.thenN rfl rfl (TC.seq (TC.region (TO.u rfl rfl (TX.move rfl rfl (TO.u rfl rfl (TX.assign rfl rfl (TO.nil (TE.thenN rfl rfl (TC.ret ?_))))))))))
 have hr := (Option.some.inj h)
 subst hr
 exact TE.fin (R := ⟨[], []⟩) (TL.ret (R' := ⟨[], [Hs117]⟩) Try.results19 (.cons (.tmp rfl) .nil) (segSub (i := 0) rfl) ⟨sp113, n114, cap115, Hs117, rfl, hn116, rfl, ho118⟩)
end Go.Proofs.Ytbpldfhehpjbaaa
