/- Each Go function of this part computes the plain function beside it (walks, written by program). -/
import Derived.Test.YtbpldfhehpjbaaaGenA
namespace Go.Proofs.Ytbpldfhehpjbaaa
open Go Go.HW Go.MapKept
set_option maxRecDepth 4000
set_option linter.unusedVariables false
structure S__2_int where
  e0 : Int
  e1 : Int
  deriving DecidableEq, Inhabited
def S__2_int.enc (x : S__2_int) : List Value := [.int .i64 x.e0, .int .i64 x.e1]
def S__2_int.E : En S__2_int := ⟨S__2_int.enc, 2, fun _ => rfl, fun _ => rfl, by decide⟩
def fn56_l1 : Nat → (List S__2_int) → Int → Option ((List S__2_int))
  | 0, _, _ => none
  | n26022 + 1, x26001, x26009 => (bif decide (x26009 < (x26001.length : Int)) then (bif sliceOk x26009 ((x26001.length : Nat) : Int) x26001.length then (bif sliceOk ((0 : Nat) : Int) x26009 x26001.length then (fn56_l1 n26022 (pasteX x26001 x26009.toNat ((cutX x26001 ((0 : Nat) : Int).toNat x26009.toNat).take ((((x26001.length : Nat) : Int).toNat) - x26009.toNat))) (IntKind.i64.wrap (x26009 + ((min (cutX x26001 ((0 : Nat) : Int).toNat x26009.toNat).length ((((x26001.length : Nat) : Int).toNat) - x26009.toNat) : Nat) : Int)))) else none) else none) else (some x26001))
theorem fn56_l1_s (n26022 : Nat) (x26001 : List S__2_int) (x26009 : Int) : fn56_l1 (n26022 + 1) x26001 x26009 = (bif decide (x26009 < (x26001.length : Int)) then (bif sliceOk x26009 ((x26001.length : Nat) : Int) x26001.length then (bif sliceOk ((0 : Nat) : Int) x26009 x26001.length then (fn56_l1 n26022 (pasteX x26001 x26009.toNat ((cutX x26001 ((0 : Nat) : Int).toNat x26009.toNat).take ((((x26001.length : Nat) : Int).toNat) - x26009.toNat))) (IntKind.i64.wrap (x26009 + ((min (cutX x26001 ((0 : Nat) : Int).toNat x26009.toNat).length ((((x26001.length : Nat) : Int).toNat) - x26009.toNat) : Nat) : Int)))) else none) else none) else (some x26001)) := rfl
def fn56_k1 (x26011 : List S__2_int) : Option ((List S__2_int)) :=
  (some x26011)
theorem fn56_k1_s (x26011 : List S__2_int) : fn56_k1 x26011 = (some x26011) := rfl
/-- slices.Repeat____2_int,_2_int_ -/
def fn56 (F : Nat) (p0 : List S__2_int) (p1 : Int) : Option ((List S__2_int)) :=
  (bif decide (p1 < 0) then none else (bindP (fn79 (IntKind.u64.wrap (p0.length : Int)) (IntKind.u64.wrap p1)) fun v2 => (bif (decide ((0 : Int) < v2.1)) || (decide ((9223372036854775807 : Int) < v2.2)) then none else (bif decide (0 ≤ IntKind.i64.wrap v2.2) && decide (IntKind.i64.wrap v2.2 ≤ IntKind.i64.wrap v2.2) && decide ((16 : Int) * (IntKind.i64.wrap v2.2) ≤ 281474976710656) && decide (IntKind.i64.wrap v2.2 ≤ 9223372036854775807) then (Option.bind (fn56_l1 F (pasteX (List.replicate (IntKind.i64.wrap v2.2).toNat (⟨0, 0⟩ : S__2_int)) 0 (p0.take (((List.replicate (IntKind.i64.wrap v2.2).toNat (⟨0, 0⟩ : S__2_int)).length) - 0))) ((min p0.length (((List.replicate (IntKind.i64.wrap v2.2).toNat (⟨0, 0⟩ : S__2_int)).length) - 0) : Nat) : Int)) fun o26019 => (fn56_k1 o26019)) else none))))
def post56 (r : (List S__2_int)) (v : Value) (R : Hp) : Prop := ∃ sp n cap Hs, v = .slice sp n cap ∧ r.length = n ∧ R = ⟨[], [Hs]⟩ ∧ OwnL S__2_int.E 51 sp cap r Hs
theorem c56 (F : Nat) (sp_0 : Option Addr) (n_0 cap_0 : Nat) (p0 : List S__2_int) (p1 : Int) (w : World) (r : (List S__2_int)) (qn0 : p0.length = n_0) (qc0 : p0.length ≤ cap_0) (qp0 : RdF S__2_int.E w [] sp_0 p0) (h : fn56 F p0 p1 = some r) : Ret Try.prog 56 [.slice sp_0 n_0 cap_0, .int .i64 p1] w ⟨[], []⟩ (post56 r) := by
  unfold fn56 at h
  refine Ret.of_body Try.func56 rfl Try.ntmps56 rfl (fun _ hx => absurd hx List.not_mem_nil) List.nodup_nil ?_
  refine TC.seq ?_
  refine TC.region ?_
  refine TO.u rfl rfl (TX.assign rfl rfl ?_)
  refine TO.nil ?_
  refine TE.thenN rfl rfl ?_
  refine TC.seq ?_
  refine TC.seq ?_
  refine TC.region ?_
  refine TO.u rfl rfl (TX.move rfl rfl ?_)
  refine TO.u rfl rfl (TX.ibin rfl rfl rfl rfl ?_)
  refine TO.nil ?_
  refine TE.thenN rfl rfl ?_
  refine TC.cond rfl (fun hb1 => ?_) (fun hb1 => ?_)
  · replace h := it h hb1
    refine TC.region ?_
    cases h
  · replace h := ie h hb1
    refine TC.skip ?_
    refine TE.thenN rfl rfl ?_
    refine TC.seq ?_
    refine TC.region ?_
    refine TO.u rfl rfl (TX.move rfl rfl ?_)
    refine TO.u rfl rfl (TX.lenS (xs := p0) Try.runUnderlying49 rfl qn0 rfl ?_)
    refine TO.u rfl rfl (TX.conv Try.runUnderlying3 Try.runUnderlying105 rfl rfl ?_)
    refine TO.u rfl rfl (TX.move rfl rfl ?_)
    refine TO.u rfl rfl (TX.conv Try.runUnderlying3 Try.runUnderlying105 rfl rfl ?_)
    obtain ⟨v2, hv2, h⟩ := bp h
    refine TO.u rfl rfl (TX.callP Try.call79 rfl (fun a w s => c79 (IntKind.u64.wrap (p0.length : Int)) (IntKind.u64.wrap p1) _ _  hv2) rfl ?_)
    refine TO.u rfl rfl (TX.move rfl rfl ?_)
    refine TO.u rfl rfl (TX.extract rfl rfl rfl ?_)
    refine TO.u rfl rfl (TX.extract rfl rfl rfl ?_)
    refine TO.u rfl rfl (TX.assign rfl rfl ?_)
    refine TO.u rfl rfl (TX.assign rfl rfl ?_)
    refine TO.nil ?_
    refine TE.thenN rfl rfl ?_
    refine TC.seq ?_
    refine TC.seq ?_
    refine TC.region ?_
    refine TO.u rfl rfl (TX.move rfl rfl ?_)
    refine TO.u rfl rfl (TX.ibin rfl rfl rfl rfl ?_)
    refine TO.u rfl rfl (TX.move rfl rfl ?_)
    refine TO.cutS 3 [(26, .bool ((decide ((0 : Int) < v2.1)) || (decide ((9223372036854775807 : Int) < v2.2))))] ?_ ?_
    · cases hc3 : (decide ((0 : Int) < v2.1))
      · refine TO.g rfl rfl rfl rfl (TX.move rfl rfl ?_)
        refine TO.g rfl rfl rfl rfl (TX.ibin rfl rfl rfl rfl ?_)
        refine TO.u rfl rfl (TX.pickF rfl rfl rfl ?_)
        exact TO.nil (TE.cutS 3 rfl rfl ⟨rfl, trivial⟩)
      · refine TO.s rfl rfl rfl rfl rfl rfl ?_
        refine TO.s rfl rfl rfl rfl rfl rfl ?_
        refine TO.u rfl rfl (TX.pickT rfl rfl rfl ?_)
        exact TO.nil (TE.cutS 3 rfl rfl ⟨rfl, trivial⟩)
    refine TO.nil ?_
    refine TE.thenN rfl rfl ?_
    refine TC.cond rfl (fun hb4 => ?_) (fun hb4 => ?_)
    · replace h := it h hb4
      refine TC.region ?_
      cases h
    · replace h := ie h hb4
      refine TC.skip ?_
      refine TE.thenN rfl rfl ?_
      refine TC.seq ?_
      refine TC.region ?_
      refine TO.u rfl rfl (TX.move rfl rfl ?_)
      refine TO.u rfl rfl (TX.conv Try.runUnderlying105 Try.runUnderlying3 rfl rfl ?_)
      obtain ⟨hk5, h⟩ := ck h
      refine TO.u rfl rfl (TX.makeS (N := S__2_int.E) (z := (⟨0, 0⟩ : S__2_int)) Try.runUnderlying49 Try.typeInfo51 rfl rfl rfl rfl rfl rfl hk5 rfl (fun sp6 Hs8 ho9 => ?_))
      refine TO.u rfl rfl (TX.assign rfl rfl ?_)
      refine TO.nil ?_
      refine TE.thenN rfl rfl ?_
      refine TC.seq ?_
      refine TC.region ?_
      refine TO.u rfl rfl (TX.move rfl rfl ?_)
      refine TO.u rfl rfl (TX.move rfl rfl ?_)
      refine TO.u rfl rfl (TX.copyS (N := S__2_int.E) (si := 0) (xs := List.replicate (IntKind.i64.wrap v2.2).toNat (⟨0, 0⟩ : S__2_int)) (ys := p0) (lo := 0) (hi := (List.replicate (IntKind.i64.wrap v2.2).toNat (⟨0, 0⟩ : S__2_int)).length) (sp := sp6) (cap := (IntKind.i64.wrap v2.2).toNat) Try.runUnderlying49 Try.typeInfo51 rfl rfl (.inl ⟨rfl, rfl⟩) List.length_replicate (Nat.le_refl _) rfl qn0 rfl ho9 (fun a w s => qp0 w s.ext) rfl (fun Hs10 _ S11 ho12 => ?_))
      cases S11
      refine TO.u rfl rfl (TX.assign rfl rfl ?_)
      refine TO.nil ?_
      refine TE.thenN rfl rfl ?_
      refine TC.seq ?_
      refine TC.block ?_
      obtain ⟨o26019, hl26020, h⟩ := bd h
      refine TC.to (L' := [(7, .slice sp6 ((IntKind.i64.wrap v2.2).toNat) ((IntKind.i64.wrap v2.2).toNat)), (8, .int .i64 ((min p0.length (((List.replicate (IntKind.i64.wrap v2.2).toNat (⟨0, 0⟩ : S__2_int)).length) - 0) : Nat) : Int))]) (E' := []) (S' := [Hs10]) 0 0 ⟨rfl, rfl, trivial⟩ rfl rfl ?_
      refine TC.cutE 0 (fun L' H' => ∃ x26011 : List S__2_int, x26011 = o26019 ∧ ∃ sp26012 n26013 cap26014 Hs26016, OwnL S__2_int.E 51 sp26012 cap26014 x26011 Hs26016 ∧ x26011.length = n26013 ∧ L' = [(7, .slice sp26012 n26013 cap26014)] ∧ H' = ⟨[], [Hs26016]⟩) ?_ ?_
      · have h026024 := h
        clear h
        refine TC.loop (fun (n : Nat) (s : (List S__2_int) × Int) => fn56_l1 n s.1 s.2) o26019 (fun _ => rfl) (fun (s : (List S__2_int) × Int) L' H' => match s with | (x26001, x26009) => ∃ sp26002 n26003 cap26004 Hs26006, OwnL S__2_int.E 51 sp26002 cap26004 x26001 Hs26006 ∧ x26001.length = n26003 ∧ L' = [(7, .slice sp26002 n26003 cap26004), (8, .int .i64 x26009)] ∧ H' = ⟨[], [Hs26006]⟩) ?_ F (pasteX (List.replicate (IntKind.i64.wrap v2.2).toNat (⟨0, 0⟩ : S__2_int)) 0 (p0.take (((List.replicate (IntKind.i64.wrap v2.2).toNat (⟨0, 0⟩ : S__2_int)).length) - 0)), ((min p0.length (((List.replicate (IntKind.i64.wrap v2.2).toNat (⟨0, 0⟩ : S__2_int)).length) - 0) : Nat) : Int)) ⟨sp6, ((IntKind.i64.wrap v2.2).toNat), ((IntKind.i64.wrap v2.2).toNat), Hs10, ho12, ((pasteX_len (Nat.le_refl _)).trans List.length_replicate), rfl, rfl⟩ hl26020
        clear hl26020
        rintro K26021 n26022 ⟨x26001, x26009⟩ _ _ ⟨sp26002, n26003, cap26004, Hs26006, ho26007, hn26005, rfl, rfl⟩ h ih26023
        replace h := (fn56_l1_s n26022 x26001 x26009).symm.trans h
        refine TC.seq ?_
        refine TC.seq ?_
        refine TC.region ?_
        refine TO.u rfl rfl (TX.move rfl rfl ?_)
        refine TO.u rfl rfl (TX.move rfl rfl ?_)
        refine TO.u rfl rfl (TX.lenS (xs := x26001) Try.runUnderlying49 rfl hn26005 rfl ?_)
        refine TO.u rfl rfl (TX.ibin rfl rfl rfl rfl ?_)
        refine TO.nil ?_
        refine TE.thenN rfl rfl ?_
        refine TC.cond rfl (fun hb26025 => ?_) (fun hb26025 => ?_)
        · replace h := it h hb26025
          refine TC.skip ?_
          refine TE.thenN rfl rfl ?_
          refine TC.block ?_
          obtain ⟨hk31501, h⟩ := ck h
          obtain ⟨hk34501, h⟩ := ck h
          refine TC.to (L' := [(7, .slice sp26002 n26003 cap26004), (8, .int .i64 x26009)]) (E' := []) (S' := [Hs26006]) 0 0 ⟨rfl, rfl, trivial⟩ rfl rfl ?_
          refine TC.drawD hmix (fun T37501 hdef37502 => ?_)
          have hS27000_0 : ∀ (Hs35001 : Blocks), ∀ (ho35003 : OwnL S__2_int.E 51 sp26002 cap26004 (pasteX x26001 x26009.toNat ((cutX x26001 ((0 : Nat) : Int).toNat x26009.toNat).take ((((x26001.length : Nat) : Int).toNat) - x26009.toNat))) Hs35001), T37501 0 [true, true, true, true, true, true, true, true, true, true] [(7, .slice sp26002 n26003 cap26004), (8, .int .i64 (IntKind.i64.wrap (x26009 + ((min (cutX x26001 ((0 : Nat) : Int).toNat x26009.toNat).length ((((x26001.length : Nat) : Int).toNat) - x26009.toNat) : Nat) : Int)))), (38, .int .i64 x26009), (39, .slice sp26002 n26003 cap26004), (40, .int .i64 x26009), (41, .slice (subP sp26002 S__2_int.E.sz cap26004 x26009.toNat) (((x26001.length : Nat) : Int).toNat - x26009.toNat) (cap26004 - x26009.toNat)), (42, .slice sp26002 n26003 cap26004), (43, .int .i64 x26009), (44, .slice (subP sp26002 S__2_int.E.sz cap26004 ((0 : Nat) : Int).toNat) (x26009.toNat - ((0 : Nat) : Int).toNat) (cap26004 - ((0 : Nat) : Int).toNat)), (45, .int .i64 ((min (cutX x26001 ((0 : Nat) : Int).toNat x26009.toNat).length ((((x26001.length : Nat) : Int).toNat) - x26009.toNat) : Nat) : Int)), (46, .int .i64 (IntKind.i64.wrap (x26009 + ((min (cutX x26001 ((0 : Nat) : Int).toNat x26009.toNat).length ((((x26001.length : Nat) : Int).toNat) - x26009.toNat) : Nat) : Int))))] ⟨[], [Hs35001]⟩ := by
            intro Hs35001 ho35003
            rw [hdef37502]
            refine TD.done rfl rfl ?_
            refine TE.blockN ?_
            exact TE.to (L' := [(7, .slice sp26002 n26003 cap26004), (8, .int .i64 (IntKind.i64.wrap (x26009 + ((min (cutX x26001 ((0 : Nat) : Int).toNat x26009.toNat).length ((((x26001.length : Nat) : Int).toNat) - x26009.toNat) : Nat) : Int))))]) (E' := []) (S' := [Hs35001]) 0 0 ⟨rfl, rfl, trivial⟩ rfl rfl (ih26023 (pasteX x26001 x26009.toNat ((cutX x26001 ((0 : Nat) : Int).toNat x26009.toNat).take ((((x26001.length : Nat) : Int).toNat) - x26009.toNat)), IntKind.i64.wrap (x26009 + ((min (cutX x26001 ((0 : Nat) : Int).toNat x26009.toNat).length ((((x26001.length : Nat) : Int).toNat) - x26009.toNat) : Nat) : Int))) _ _ ⟨sp26002, n26003, cap26004, Hs35001, ho35003, ((pasteX_len (sliceOk_hi hk31501)).trans hn26005), rfl, rfl⟩ h)
          have hS27000_1 : ∀ (Hs35001 : Blocks), ∀ (ho35003 : OwnL S__2_int.E 51 sp26002 cap26004 (pasteX x26001 x26009.toNat ((cutX x26001 ((0 : Nat) : Int).toNat x26009.toNat).take ((((x26001.length : Nat) : Int).toNat) - x26009.toNat))) Hs35001), T37501 1 [true, true, true, true, true, true, true, true, true, false] [(7, .slice sp26002 n26003 cap26004), (8, .int .i64 x26009), (38, .int .i64 x26009), (39, .slice sp26002 n26003 cap26004), (40, .int .i64 x26009), (41, .slice (subP sp26002 S__2_int.E.sz cap26004 x26009.toNat) (((x26001.length : Nat) : Int).toNat - x26009.toNat) (cap26004 - x26009.toNat)), (42, .slice sp26002 n26003 cap26004), (43, .int .i64 x26009), (44, .slice (subP sp26002 S__2_int.E.sz cap26004 ((0 : Nat) : Int).toNat) (x26009.toNat - ((0 : Nat) : Int).toNat) (cap26004 - ((0 : Nat) : Int).toNat)), (45, .int .i64 ((min (cutX x26001 ((0 : Nat) : Int).toNat x26009.toNat).length ((((x26001.length : Nat) : Int).toNat) - x26009.toNat) : Nat) : Int)), (46, .int .i64 (IntKind.i64.wrap (x26009 + ((min (cutX x26001 ((0 : Nat) : Int).toNat x26009.toNat).length ((((x26001.length : Nat) : Int).toNat) - x26009.toNat) : Nat) : Int))))] ⟨[], [Hs35001]⟩ := by
            intro Hs35001 ho35003
            rw [hdef37502]
            refine TD.step [9] 9 rfl rfl rfl rfl rfl ?_
            refine EdgeOk.cons rfl ?_ ?_
            · refine TO.u rfl rfl (TX.assign rfl rfl ?_)
              refine TO.nil ?_
              exact TE.to (L' := [(7, .slice sp26002 n26003 cap26004), (8, .int .i64 (IntKind.i64.wrap (x26009 + ((min (cutX x26001 ((0 : Nat) : Int).toNat x26009.toNat).length ((((x26001.length : Nat) : Int).toNat) - x26009.toNat) : Nat) : Int)))), (38, .int .i64 x26009), (39, .slice sp26002 n26003 cap26004), (40, .int .i64 x26009), (41, .slice (subP sp26002 S__2_int.E.sz cap26004 x26009.toNat) (((x26001.length : Nat) : Int).toNat - x26009.toNat) (cap26004 - x26009.toNat)), (42, .slice sp26002 n26003 cap26004), (43, .int .i64 x26009), (44, .slice (subP sp26002 S__2_int.E.sz cap26004 ((0 : Nat) : Int).toNat) (x26009.toNat - ((0 : Nat) : Int).toNat) (cap26004 - ((0 : Nat) : Int).toNat)), (45, .int .i64 ((min (cutX x26001 ((0 : Nat) : Int).toNat x26009.toNat).length ((((x26001.length : Nat) : Int).toNat) - x26009.toNat) : Nat) : Int)), (46, .int .i64 (IntKind.i64.wrap (x26009 + ((min (cutX x26001 ((0 : Nat) : Int).toNat x26009.toNat).length ((((x26001.length : Nat) : Int).toNat) - x26009.toNat) : Nat) : Int))))]) (E' := []) (S' := [Hs35001]) 0 0 ⟨rfl, rfl, rfl, rfl, rfl, rfl, rfl, rfl, rfl, rfl, rfl, trivial⟩ rfl rfl (TE.td ((hdef37502 _ _ _ _).mp (hS27000_0 Hs35001 ho35003)))
            exact EdgeOk.nil
          have hS27000_2 : ∀ (Hs35001 : Blocks), ∀ (ho35003 : OwnL S__2_int.E 51 sp26002 cap26004 (pasteX x26001 x26009.toNat ((cutX x26001 ((0 : Nat) : Int).toNat x26009.toNat).take ((((x26001.length : Nat) : Int).toNat) - x26009.toNat))) Hs35001), T37501 2 [true, true, true, true, true, true, true, true, false, false] [(7, .slice sp26002 n26003 cap26004), (8, .int .i64 x26009), (38, .int .i64 x26009), (39, .slice sp26002 n26003 cap26004), (40, .int .i64 x26009), (41, .slice (subP sp26002 S__2_int.E.sz cap26004 x26009.toNat) (((x26001.length : Nat) : Int).toNat - x26009.toNat) (cap26004 - x26009.toNat)), (42, .slice sp26002 n26003 cap26004), (43, .int .i64 x26009), (44, .slice (subP sp26002 S__2_int.E.sz cap26004 ((0 : Nat) : Int).toNat) (x26009.toNat - ((0 : Nat) : Int).toNat) (cap26004 - ((0 : Nat) : Int).toNat)), (45, .int .i64 ((min (cutX x26001 ((0 : Nat) : Int).toNat x26009.toNat).length ((((x26001.length : Nat) : Int).toNat) - x26009.toNat) : Nat) : Int))] ⟨[], [Hs35001]⟩ := by
            intro Hs35001 ho35003
            rw [hdef37502]
            refine TD.step [8] 8 rfl rfl rfl rfl rfl ?_
            refine EdgeOk.cons rfl ?_ ?_
            · refine TO.u rfl rfl (TX.ibin rfl rfl rfl rfl ?_)
              refine TO.nil ?_
              exact TE.to (L' := [(7, .slice sp26002 n26003 cap26004), (8, .int .i64 x26009), (38, .int .i64 x26009), (39, .slice sp26002 n26003 cap26004), (40, .int .i64 x26009), (41, .slice (subP sp26002 S__2_int.E.sz cap26004 x26009.toNat) (((x26001.length : Nat) : Int).toNat - x26009.toNat) (cap26004 - x26009.toNat)), (42, .slice sp26002 n26003 cap26004), (43, .int .i64 x26009), (44, .slice (subP sp26002 S__2_int.E.sz cap26004 ((0 : Nat) : Int).toNat) (x26009.toNat - ((0 : Nat) : Int).toNat) (cap26004 - ((0 : Nat) : Int).toNat)), (45, .int .i64 ((min (cutX x26001 ((0 : Nat) : Int).toNat x26009.toNat).length ((((x26001.length : Nat) : Int).toNat) - x26009.toNat) : Nat) : Int)), (46, .int .i64 (IntKind.i64.wrap (x26009 + ((min (cutX x26001 ((0 : Nat) : Int).toNat x26009.toNat).length ((((x26001.length : Nat) : Int).toNat) - x26009.toNat) : Nat) : Int))))]) (E' := []) (S' := [Hs35001]) 0 0 ⟨rfl, rfl, rfl, rfl, rfl, rfl, rfl, rfl, rfl, rfl, rfl, trivial⟩ rfl rfl (TE.td ((hdef37502 _ _ _ _).mp (hS27000_1 Hs35001 ho35003)))
            exact EdgeOk.nil
          have hS27000_3 : T37501 3 [true, true, true, true, true, true, true, false, false, false] [(7, .slice sp26002 n26003 cap26004), (8, .int .i64 x26009), (38, .int .i64 x26009), (39, .slice sp26002 n26003 cap26004), (40, .int .i64 x26009), (41, .slice (subP sp26002 S__2_int.E.sz cap26004 x26009.toNat) (((x26001.length : Nat) : Int).toNat - x26009.toNat) (cap26004 - x26009.toNat)), (42, .slice sp26002 n26003 cap26004), (43, .int .i64 x26009), (44, .slice (subP sp26002 S__2_int.E.sz cap26004 ((0 : Nat) : Int).toNat) (x26009.toNat - ((0 : Nat) : Int).toNat) (cap26004 - ((0 : Nat) : Int).toNat))] ⟨[], [Hs26006]⟩ := by
            rw [hdef37502]
            refine TD.step [7] 7 rfl rfl rfl rfl rfl ?_
            refine EdgeOk.cons rfl ?_ ?_
            · refine TO.u rfl rfl (TX.copyS (N := S__2_int.E) (si := 0) (xs := x26001) (ys := cutX x26001 ((0 : Nat) : Int).toNat x26009.toNat) (lo := x26009.toNat) (hi := ((x26001.length : Nat) : Int).toNat) (sp := sp26002) (cap := cap26004) Try.runUnderlying49 Try.typeInfo51 rfl rfl (.inr rfl) rfl (sliceOk_hi hk31501) rfl (cutX_length (sliceOk_hi hk34501)) rfl ho26007 (fun a w s => (ho26007.rd s (i := 0) rfl).sub (sliceOk_hi hk34501) (Nat.le_trans (sliceOk_hi hk34501) ho26007.le_cap)) rfl (fun Hs35001 _ S35002 ho35003 => ?_))
              cases S35002
              refine TO.nil ?_
              exact TE.to (L' := [(7, .slice sp26002 n26003 cap26004), (8, .int .i64 x26009), (38, .int .i64 x26009), (39, .slice sp26002 n26003 cap26004), (40, .int .i64 x26009), (41, .slice (subP sp26002 S__2_int.E.sz cap26004 x26009.toNat) (((x26001.length : Nat) : Int).toNat - x26009.toNat) (cap26004 - x26009.toNat)), (42, .slice sp26002 n26003 cap26004), (43, .int .i64 x26009), (44, .slice (subP sp26002 S__2_int.E.sz cap26004 ((0 : Nat) : Int).toNat) (x26009.toNat - ((0 : Nat) : Int).toNat) (cap26004 - ((0 : Nat) : Int).toNat)), (45, .int .i64 ((min (cutX x26001 ((0 : Nat) : Int).toNat x26009.toNat).length ((((x26001.length : Nat) : Int).toNat) - x26009.toNat) : Nat) : Int))]) (E' := []) (S' := [Hs35001]) 0 0 ⟨rfl, rfl, rfl, rfl, rfl, rfl, rfl, rfl, rfl, rfl, trivial⟩ rfl rfl (TE.td ((hdef37502 _ _ _ _).mp (hS27000_2 Hs35001 ho35003)))
            exact EdgeOk.nil
          have hS27000_4 : ∀ (Hs35001 : Blocks), ∀ (ho35003 : OwnL S__2_int.E 51 sp26002 cap26004 (pasteX x26001 x26009.toNat ((cutX x26001 ((0 : Nat) : Int).toNat x26009.toNat).take ((((x26001.length : Nat) : Int).toNat) - x26009.toNat))) Hs35001), T37501 3 [false, true, true, true, true, true, true, true, false, false] [(7, .slice sp26002 n26003 cap26004), (8, .int .i64 x26009), (39, .slice sp26002 n26003 cap26004), (40, .int .i64 x26009), (41, .slice (subP sp26002 S__2_int.E.sz cap26004 x26009.toNat) (((x26001.length : Nat) : Int).toNat - x26009.toNat) (cap26004 - x26009.toNat)), (42, .slice sp26002 n26003 cap26004), (43, .int .i64 x26009), (44, .slice (subP sp26002 S__2_int.E.sz cap26004 ((0 : Nat) : Int).toNat) (x26009.toNat - ((0 : Nat) : Int).toNat) (cap26004 - ((0 : Nat) : Int).toNat)), (45, .int .i64 ((min (cutX x26001 ((0 : Nat) : Int).toNat x26009.toNat).length ((((x26001.length : Nat) : Int).toNat) - x26009.toNat) : Nat) : Int))] ⟨[], [Hs35001]⟩ := by
            intro Hs35001 ho35003
            rw [hdef37502]
            refine TD.step [0] 0 rfl rfl rfl rfl rfl ?_
            refine EdgeOk.cons rfl ?_ ?_
            · refine TO.u rfl rfl (TX.move rfl rfl ?_)
              refine TO.nil ?_
              exact TE.to (L' := [(7, .slice sp26002 n26003 cap26004), (8, .int .i64 x26009), (38, .int .i64 x26009), (39, .slice sp26002 n26003 cap26004), (40, .int .i64 x26009), (41, .slice (subP sp26002 S__2_int.E.sz cap26004 x26009.toNat) (((x26001.length : Nat) : Int).toNat - x26009.toNat) (cap26004 - x26009.toNat)), (42, .slice sp26002 n26003 cap26004), (43, .int .i64 x26009), (44, .slice (subP sp26002 S__2_int.E.sz cap26004 ((0 : Nat) : Int).toNat) (x26009.toNat - ((0 : Nat) : Int).toNat) (cap26004 - ((0 : Nat) : Int).toNat)), (45, .int .i64 ((min (cutX x26001 ((0 : Nat) : Int).toNat x26009.toNat).length ((((x26001.length : Nat) : Int).toNat) - x26009.toNat) : Nat) : Int))]) (E' := []) (S' := [Hs35001]) 0 0 ⟨rfl, rfl, rfl, rfl, rfl, rfl, rfl, rfl, rfl, rfl, trivial⟩ rfl rfl (TE.td ((hdef37502 _ _ _ _).mp (hS27000_2 Hs35001 ho35003)))
            exact EdgeOk.nil
          have hS27000_5 : T37501 4 [true, true, true, true, true, true, false, false, false, false] [(7, .slice sp26002 n26003 cap26004), (8, .int .i64 x26009), (38, .int .i64 x26009), (39, .slice sp26002 n26003 cap26004), (40, .int .i64 x26009), (41, .slice (subP sp26002 S__2_int.E.sz cap26004 x26009.toNat) (((x26001.length : Nat) : Int).toNat - x26009.toNat) (cap26004 - x26009.toNat)), (42, .slice sp26002 n26003 cap26004), (43, .int .i64 x26009)] ⟨[], [Hs26006]⟩ := by
            rw [hdef37502]
            refine TD.step [6] 6 rfl rfl rfl rfl rfl ?_
            refine EdgeOk.cons rfl ?_ ?_
            · refine TO.u rfl rfl (TX.slice (l := ((0 : Nat) : Int)) (h := x26009) Try.runUnderlying49 Try.sizeOf51 rfl .none (.some rfl) ho26007.le_cap hk34501 rfl ?_)
              refine TO.nil ?_
              exact TE.to (L' := [(7, .slice sp26002 n26003 cap26004), (8, .int .i64 x26009), (38, .int .i64 x26009), (39, .slice sp26002 n26003 cap26004), (40, .int .i64 x26009), (41, .slice (subP sp26002 S__2_int.E.sz cap26004 x26009.toNat) (((x26001.length : Nat) : Int).toNat - x26009.toNat) (cap26004 - x26009.toNat)), (42, .slice sp26002 n26003 cap26004), (43, .int .i64 x26009), (44, .slice (subP sp26002 S__2_int.E.sz cap26004 ((0 : Nat) : Int).toNat) (x26009.toNat - ((0 : Nat) : Int).toNat) (cap26004 - ((0 : Nat) : Int).toNat))]) (E' := []) (S' := [Hs26006]) 0 0 ⟨rfl, rfl, rfl, rfl, rfl, rfl, rfl, rfl, rfl, trivial⟩ rfl rfl (TE.td ((hdef37502 _ _ _ _).mp (hS27000_3)))
            exact EdgeOk.nil
          have hS27000_6 : T37501 4 [true, true, true, false, true, true, true, false, false, false] [(7, .slice sp26002 n26003 cap26004), (8, .int .i64 x26009), (38, .int .i64 x26009), (39, .slice sp26002 n26003 cap26004), (40, .int .i64 x26009), (42, .slice sp26002 n26003 cap26004), (43, .int .i64 x26009), (44, .slice (subP sp26002 S__2_int.E.sz cap26004 ((0 : Nat) : Int).toNat) (x26009.toNat - ((0 : Nat) : Int).toNat) (cap26004 - ((0 : Nat) : Int).toNat))] ⟨[], [Hs26006]⟩ := by
            rw [hdef37502]
            refine TD.step [3] 3 rfl rfl rfl rfl rfl ?_
            refine EdgeOk.cons rfl ?_ ?_
            · refine TO.u rfl rfl (TX.slice (l := x26009) (h := ((x26001.length : Nat) : Int)) Try.runUnderlying49 Try.sizeOf51 rfl (.some rfl) (.len hn26005) ho26007.le_cap hk31501 rfl ?_)
              refine TO.nil ?_
              exact TE.to (L' := [(7, .slice sp26002 n26003 cap26004), (8, .int .i64 x26009), (38, .int .i64 x26009), (39, .slice sp26002 n26003 cap26004), (40, .int .i64 x26009), (41, .slice (subP sp26002 S__2_int.E.sz cap26004 x26009.toNat) (((x26001.length : Nat) : Int).toNat - x26009.toNat) (cap26004 - x26009.toNat)), (42, .slice sp26002 n26003 cap26004), (43, .int .i64 x26009), (44, .slice (subP sp26002 S__2_int.E.sz cap26004 ((0 : Nat) : Int).toNat) (x26009.toNat - ((0 : Nat) : Int).toNat) (cap26004 - ((0 : Nat) : Int).toNat))]) (E' := []) (S' := [Hs26006]) 0 0 ⟨rfl, rfl, rfl, rfl, rfl, rfl, rfl, rfl, rfl, trivial⟩ rfl rfl (TE.td ((hdef37502 _ _ _ _).mp (hS27000_3)))
            exact EdgeOk.nil
          have hS27000_7 : T37501 4 [false, true, true, true, true, true, true, false, false, false] [(7, .slice sp26002 n26003 cap26004), (8, .int .i64 x26009), (39, .slice sp26002 n26003 cap26004), (40, .int .i64 x26009), (41, .slice (subP sp26002 S__2_int.E.sz cap26004 x26009.toNat) (((x26001.length : Nat) : Int).toNat - x26009.toNat) (cap26004 - x26009.toNat)), (42, .slice sp26002 n26003 cap26004), (43, .int .i64 x26009), (44, .slice (subP sp26002 S__2_int.E.sz cap26004 ((0 : Nat) : Int).toNat) (x26009.toNat - ((0 : Nat) : Int).toNat) (cap26004 - ((0 : Nat) : Int).toNat))] ⟨[], [Hs26006]⟩ := by
            rw [hdef37502]
            refine TD.step [0, 7] 0 rfl rfl rfl rfl rfl ?_
            refine EdgeOk.cons rfl ?_ ?_
            · refine TO.u rfl rfl (TX.move rfl rfl ?_)
              refine TO.nil ?_
              exact TE.to (L' := [(7, .slice sp26002 n26003 cap26004), (8, .int .i64 x26009), (38, .int .i64 x26009), (39, .slice sp26002 n26003 cap26004), (40, .int .i64 x26009), (41, .slice (subP sp26002 S__2_int.E.sz cap26004 x26009.toNat) (((x26001.length : Nat) : Int).toNat - x26009.toNat) (cap26004 - x26009.toNat)), (42, .slice sp26002 n26003 cap26004), (43, .int .i64 x26009), (44, .slice (subP sp26002 S__2_int.E.sz cap26004 ((0 : Nat) : Int).toNat) (x26009.toNat - ((0 : Nat) : Int).toNat) (cap26004 - ((0 : Nat) : Int).toNat))]) (E' := []) (S' := [Hs26006]) 0 0 ⟨rfl, rfl, rfl, rfl, rfl, rfl, rfl, rfl, rfl, trivial⟩ rfl rfl (TE.td ((hdef37502 _ _ _ _).mp (hS27000_3)))
            refine EdgeOk.cons rfl ?_ ?_
            · refine TO.u rfl rfl (TX.copyS (N := S__2_int.E) (si := 0) (xs := x26001) (ys := cutX x26001 ((0 : Nat) : Int).toNat x26009.toNat) (lo := x26009.toNat) (hi := ((x26001.length : Nat) : Int).toNat) (sp := sp26002) (cap := cap26004) Try.runUnderlying49 Try.typeInfo51 rfl rfl (.inr rfl) rfl (sliceOk_hi hk31501) rfl (cutX_length (sliceOk_hi hk34501)) rfl ho26007 (fun a w s => (ho26007.rd s (i := 0) rfl).sub (sliceOk_hi hk34501) (Nat.le_trans (sliceOk_hi hk34501) ho26007.le_cap)) rfl (fun Hs35001 _ S35002 ho35003 => ?_))
              cases S35002
              refine TO.nil ?_
              exact TE.to (L' := [(7, .slice sp26002 n26003 cap26004), (8, .int .i64 x26009), (39, .slice sp26002 n26003 cap26004), (40, .int .i64 x26009), (41, .slice (subP sp26002 S__2_int.E.sz cap26004 x26009.toNat) (((x26001.length : Nat) : Int).toNat - x26009.toNat) (cap26004 - x26009.toNat)), (42, .slice sp26002 n26003 cap26004), (43, .int .i64 x26009), (44, .slice (subP sp26002 S__2_int.E.sz cap26004 ((0 : Nat) : Int).toNat) (x26009.toNat - ((0 : Nat) : Int).toNat) (cap26004 - ((0 : Nat) : Int).toNat)), (45, .int .i64 ((min (cutX x26001 ((0 : Nat) : Int).toNat x26009.toNat).length ((((x26001.length : Nat) : Int).toNat) - x26009.toNat) : Nat) : Int))]) (E' := []) (S' := [Hs35001]) 0 0 ⟨rfl, rfl, rfl, rfl, rfl, rfl, rfl, rfl, rfl, trivial⟩ rfl rfl (TE.td ((hdef37502 _ _ _ _).mp (hS27000_4 Hs35001 ho35003)))
            exact EdgeOk.nil
          have hS27000_8 : T37501 5 [true, true, true, true, true, false, false, false, false, false] [(7, .slice sp26002 n26003 cap26004), (8, .int .i64 x26009), (38, .int .i64 x26009), (39, .slice sp26002 n26003 cap26004), (40, .int .i64 x26009), (41, .slice (subP sp26002 S__2_int.E.sz cap26004 x26009.toNat) (((x26001.length : Nat) : Int).toNat - x26009.toNat) (cap26004 - x26009.toNat)), (42, .slice sp26002 n26003 cap26004)] ⟨[], [Hs26006]⟩ := by
            rw [hdef37502]
            refine TD.step [5] 5 rfl rfl rfl rfl rfl ?_
            refine EdgeOk.cons rfl ?_ ?_
            · refine TO.u rfl rfl (TX.move rfl rfl ?_)
              refine TO.nil ?_
              exact TE.to (L' := [(7, .slice sp26002 n26003 cap26004), (8, .int .i64 x26009), (38, .int .i64 x26009), (39, .slice sp26002 n26003 cap26004), (40, .int .i64 x26009), (41, .slice (subP sp26002 S__2_int.E.sz cap26004 x26009.toNat) (((x26001.length : Nat) : Int).toNat - x26009.toNat) (cap26004 - x26009.toNat)), (42, .slice sp26002 n26003 cap26004), (43, .int .i64 x26009)]) (E' := []) (S' := [Hs26006]) 0 0 ⟨rfl, rfl, rfl, rfl, rfl, rfl, rfl, rfl, trivial⟩ rfl rfl (TE.td ((hdef37502 _ _ _ _).mp (hS27000_5)))
            exact EdgeOk.nil
          have hS27000_9 : T37501 5 [true, true, true, true, false, true, false, false, false, false] [(7, .slice sp26002 n26003 cap26004), (8, .int .i64 x26009), (38, .int .i64 x26009), (39, .slice sp26002 n26003 cap26004), (40, .int .i64 x26009), (41, .slice (subP sp26002 S__2_int.E.sz cap26004 x26009.toNat) (((x26001.length : Nat) : Int).toNat - x26009.toNat) (cap26004 - x26009.toNat)), (43, .int .i64 x26009)] ⟨[], [Hs26006]⟩ := by
            rw [hdef37502]
            refine TD.step [4] 4 rfl rfl rfl rfl rfl ?_
            refine EdgeOk.cons rfl ?_ ?_
            · refine TO.u rfl rfl (TX.move rfl rfl ?_)
              refine TO.nil ?_
              exact TE.to (L' := [(7, .slice sp26002 n26003 cap26004), (8, .int .i64 x26009), (38, .int .i64 x26009), (39, .slice sp26002 n26003 cap26004), (40, .int .i64 x26009), (41, .slice (subP sp26002 S__2_int.E.sz cap26004 x26009.toNat) (((x26001.length : Nat) : Int).toNat - x26009.toNat) (cap26004 - x26009.toNat)), (42, .slice sp26002 n26003 cap26004), (43, .int .i64 x26009)]) (E' := []) (S' := [Hs26006]) 0 0 ⟨rfl, rfl, rfl, rfl, rfl, rfl, rfl, rfl, trivial⟩ rfl rfl (TE.td ((hdef37502 _ _ _ _).mp (hS27000_5)))
            exact EdgeOk.nil
          have hS27000_10 : T37501 5 [true, true, true, false, true, true, false, false, false, false] [(7, .slice sp26002 n26003 cap26004), (8, .int .i64 x26009), (38, .int .i64 x26009), (39, .slice sp26002 n26003 cap26004), (40, .int .i64 x26009), (42, .slice sp26002 n26003 cap26004), (43, .int .i64 x26009)] ⟨[], [Hs26006]⟩ := by
            rw [hdef37502]
            refine TD.step [3, 6] 3 rfl rfl rfl rfl rfl ?_
            refine EdgeOk.cons rfl ?_ ?_
            · refine TO.u rfl rfl (TX.slice (l := x26009) (h := ((x26001.length : Nat) : Int)) Try.runUnderlying49 Try.sizeOf51 rfl (.some rfl) (.len hn26005) ho26007.le_cap hk31501 rfl ?_)
              refine TO.nil ?_
              exact TE.to (L' := [(7, .slice sp26002 n26003 cap26004), (8, .int .i64 x26009), (38, .int .i64 x26009), (39, .slice sp26002 n26003 cap26004), (40, .int .i64 x26009), (41, .slice (subP sp26002 S__2_int.E.sz cap26004 x26009.toNat) (((x26001.length : Nat) : Int).toNat - x26009.toNat) (cap26004 - x26009.toNat)), (42, .slice sp26002 n26003 cap26004), (43, .int .i64 x26009)]) (E' := []) (S' := [Hs26006]) 0 0 ⟨rfl, rfl, rfl, rfl, rfl, rfl, rfl, rfl, trivial⟩ rfl rfl (TE.td ((hdef37502 _ _ _ _).mp (hS27000_5)))
            refine EdgeOk.cons rfl ?_ ?_
            · refine TO.u rfl rfl (TX.slice (l := ((0 : Nat) : Int)) (h := x26009) Try.runUnderlying49 Try.sizeOf51 rfl .none (.some rfl) ho26007.le_cap hk34501 rfl ?_)
              refine TO.nil ?_
              exact TE.to (L' := [(7, .slice sp26002 n26003 cap26004), (8, .int .i64 x26009), (38, .int .i64 x26009), (39, .slice sp26002 n26003 cap26004), (40, .int .i64 x26009), (42, .slice sp26002 n26003 cap26004), (43, .int .i64 x26009), (44, .slice (subP sp26002 S__2_int.E.sz cap26004 ((0 : Nat) : Int).toNat) (x26009.toNat - ((0 : Nat) : Int).toNat) (cap26004 - ((0 : Nat) : Int).toNat))]) (E' := []) (S' := [Hs26006]) 0 0 ⟨rfl, rfl, rfl, rfl, rfl, rfl, rfl, rfl, trivial⟩ rfl rfl (TE.td ((hdef37502 _ _ _ _).mp (hS27000_6)))
            exact EdgeOk.nil
          have hS27000_11 : T37501 5 [true, true, false, false, true, true, true, false, false, false] [(7, .slice sp26002 n26003 cap26004), (8, .int .i64 x26009), (38, .int .i64 x26009), (39, .slice sp26002 n26003 cap26004), (42, .slice sp26002 n26003 cap26004), (43, .int .i64 x26009), (44, .slice (subP sp26002 S__2_int.E.sz cap26004 ((0 : Nat) : Int).toNat) (x26009.toNat - ((0 : Nat) : Int).toNat) (cap26004 - ((0 : Nat) : Int).toNat))] ⟨[], [Hs26006]⟩ := by
            rw [hdef37502]
            refine TD.step [2] 2 rfl rfl rfl rfl rfl ?_
            refine EdgeOk.cons rfl ?_ ?_
            · refine TO.u rfl rfl (TX.move rfl rfl ?_)
              refine TO.nil ?_
              exact TE.to (L' := [(7, .slice sp26002 n26003 cap26004), (8, .int .i64 x26009), (38, .int .i64 x26009), (39, .slice sp26002 n26003 cap26004), (40, .int .i64 x26009), (42, .slice sp26002 n26003 cap26004), (43, .int .i64 x26009), (44, .slice (subP sp26002 S__2_int.E.sz cap26004 ((0 : Nat) : Int).toNat) (x26009.toNat - ((0 : Nat) : Int).toNat) (cap26004 - ((0 : Nat) : Int).toNat))]) (E' := []) (S' := [Hs26006]) 0 0 ⟨rfl, rfl, rfl, rfl, rfl, rfl, rfl, rfl, trivial⟩ rfl rfl (TE.td ((hdef37502 _ _ _ _).mp (hS27000_6)))
            exact EdgeOk.nil
          have hS27000_12 : T37501 5 [true, false, true, false, true, true, true, false, false, false] [(7, .slice sp26002 n26003 cap26004), (8, .int .i64 x26009), (38, .int .i64 x26009), (40, .int .i64 x26009), (42, .slice sp26002 n26003 cap26004), (43, .int .i64 x26009), (44, .slice (subP sp26002 S__2_int.E.sz cap26004 ((0 : Nat) : Int).toNat) (x26009.toNat - ((0 : Nat) : Int).toNat) (cap26004 - ((0 : Nat) : Int).toNat))] ⟨[], [Hs26006]⟩ := by
            rw [hdef37502]
            refine TD.step [1] 1 rfl rfl rfl rfl rfl ?_
            refine EdgeOk.cons rfl ?_ ?_
            · refine TO.u rfl rfl (TX.move rfl rfl ?_)
              refine TO.nil ?_
              exact TE.to (L' := [(7, .slice sp26002 n26003 cap26004), (8, .int .i64 x26009), (38, .int .i64 x26009), (39, .slice sp26002 n26003 cap26004), (40, .int .i64 x26009), (42, .slice sp26002 n26003 cap26004), (43, .int .i64 x26009), (44, .slice (subP sp26002 S__2_int.E.sz cap26004 ((0 : Nat) : Int).toNat) (x26009.toNat - ((0 : Nat) : Int).toNat) (cap26004 - ((0 : Nat) : Int).toNat))]) (E' := []) (S' := [Hs26006]) 0 0 ⟨rfl, rfl, rfl, rfl, rfl, rfl, rfl, rfl, trivial⟩ rfl rfl (TE.td ((hdef37502 _ _ _ _).mp (hS27000_6)))
            exact EdgeOk.nil
          have hS27000_13 : T37501 5 [false, true, true, true, true, true, false, false, false, false] [(7, .slice sp26002 n26003 cap26004), (8, .int .i64 x26009), (39, .slice sp26002 n26003 cap26004), (40, .int .i64 x26009), (41, .slice (subP sp26002 S__2_int.E.sz cap26004 x26009.toNat) (((x26001.length : Nat) : Int).toNat - x26009.toNat) (cap26004 - x26009.toNat)), (42, .slice sp26002 n26003 cap26004), (43, .int .i64 x26009)] ⟨[], [Hs26006]⟩ := by
            rw [hdef37502]
            refine TD.step [0, 6] 0 rfl rfl rfl rfl rfl ?_
            refine EdgeOk.cons rfl ?_ ?_
            · refine TO.u rfl rfl (TX.move rfl rfl ?_)
              refine TO.nil ?_
              exact TE.to (L' := [(7, .slice sp26002 n26003 cap26004), (8, .int .i64 x26009), (38, .int .i64 x26009), (39, .slice sp26002 n26003 cap26004), (40, .int .i64 x26009), (41, .slice (subP sp26002 S__2_int.E.sz cap26004 x26009.toNat) (((x26001.length : Nat) : Int).toNat - x26009.toNat) (cap26004 - x26009.toNat)), (42, .slice sp26002 n26003 cap26004), (43, .int .i64 x26009)]) (E' := []) (S' := [Hs26006]) 0 0 ⟨rfl, rfl, rfl, rfl, rfl, rfl, rfl, rfl, trivial⟩ rfl rfl (TE.td ((hdef37502 _ _ _ _).mp (hS27000_5)))
            refine EdgeOk.cons rfl ?_ ?_
            · refine TO.u rfl rfl (TX.slice (l := ((0 : Nat) : Int)) (h := x26009) Try.runUnderlying49 Try.sizeOf51 rfl .none (.some rfl) ho26007.le_cap hk34501 rfl ?_)
              refine TO.nil ?_
              exact TE.to (L' := [(7, .slice sp26002 n26003 cap26004), (8, .int .i64 x26009), (39, .slice sp26002 n26003 cap26004), (40, .int .i64 x26009), (41, .slice (subP sp26002 S__2_int.E.sz cap26004 x26009.toNat) (((x26001.length : Nat) : Int).toNat - x26009.toNat) (cap26004 - x26009.toNat)), (42, .slice sp26002 n26003 cap26004), (43, .int .i64 x26009), (44, .slice (subP sp26002 S__2_int.E.sz cap26004 ((0 : Nat) : Int).toNat) (x26009.toNat - ((0 : Nat) : Int).toNat) (cap26004 - ((0 : Nat) : Int).toNat))]) (E' := []) (S' := [Hs26006]) 0 0 ⟨rfl, rfl, rfl, rfl, rfl, rfl, rfl, rfl, trivial⟩ rfl rfl (TE.td ((hdef37502 _ _ _ _).mp (hS27000_7)))
            exact EdgeOk.nil
          have hS27000_14 : T37501 5 [false, true, true, false, true, true, true, false, false, false] [(7, .slice sp26002 n26003 cap26004), (8, .int .i64 x26009), (39, .slice sp26002 n26003 cap26004), (40, .int .i64 x26009), (42, .slice sp26002 n26003 cap26004), (43, .int .i64 x26009), (44, .slice (subP sp26002 S__2_int.E.sz cap26004 ((0 : Nat) : Int).toNat) (x26009.toNat - ((0 : Nat) : Int).toNat) (cap26004 - ((0 : Nat) : Int).toNat))] ⟨[], [Hs26006]⟩ := by
            rw [hdef37502]
            refine TD.step [0, 3] 0 rfl rfl rfl rfl rfl ?_
            refine EdgeOk.cons rfl ?_ ?_
            · refine TO.u rfl rfl (TX.move rfl rfl ?_)
              refine TO.nil ?_
              exact TE.to (L' := [(7, .slice sp26002 n26003 cap26004), (8, .int .i64 x26009), (38, .int .i64 x26009), (39, .slice sp26002 n26003 cap26004), (40, .int .i64 x26009), (42, .slice sp26002 n26003 cap26004), (43, .int .i64 x26009), (44, .slice (subP sp26002 S__2_int.E.sz cap26004 ((0 : Nat) : Int).toNat) (x26009.toNat - ((0 : Nat) : Int).toNat) (cap26004 - ((0 : Nat) : Int).toNat))]) (E' := []) (S' := [Hs26006]) 0 0 ⟨rfl, rfl, rfl, rfl, rfl, rfl, rfl, rfl, trivial⟩ rfl rfl (TE.td ((hdef37502 _ _ _ _).mp (hS27000_6)))
            refine EdgeOk.cons rfl ?_ ?_
            · refine TO.u rfl rfl (TX.slice (l := x26009) (h := ((x26001.length : Nat) : Int)) Try.runUnderlying49 Try.sizeOf51 rfl (.some rfl) (.len hn26005) ho26007.le_cap hk31501 rfl ?_)
              refine TO.nil ?_
              exact TE.to (L' := [(7, .slice sp26002 n26003 cap26004), (8, .int .i64 x26009), (39, .slice sp26002 n26003 cap26004), (40, .int .i64 x26009), (41, .slice (subP sp26002 S__2_int.E.sz cap26004 x26009.toNat) (((x26001.length : Nat) : Int).toNat - x26009.toNat) (cap26004 - x26009.toNat)), (42, .slice sp26002 n26003 cap26004), (43, .int .i64 x26009), (44, .slice (subP sp26002 S__2_int.E.sz cap26004 ((0 : Nat) : Int).toNat) (x26009.toNat - ((0 : Nat) : Int).toNat) (cap26004 - ((0 : Nat) : Int).toNat))]) (E' := []) (S' := [Hs26006]) 0 0 ⟨rfl, rfl, rfl, rfl, rfl, rfl, rfl, rfl, trivial⟩ rfl rfl (TE.td ((hdef37502 _ _ _ _).mp (hS27000_7)))
            exact EdgeOk.nil
          have hS27000_15 : T37501 6 [true, true, true, true, false, false, false, false, false, false] [(7, .slice sp26002 n26003 cap26004), (8, .int .i64 x26009), (38, .int .i64 x26009), (39, .slice sp26002 n26003 cap26004), (40, .int .i64 x26009), (41, .slice (subP sp26002 S__2_int.E.sz cap26004 x26009.toNat) (((x26001.length : Nat) : Int).toNat - x26009.toNat) (cap26004 - x26009.toNat))] ⟨[], [Hs26006]⟩ := by
            rw [hdef37502]
            refine TD.step [4, 5] 4 rfl rfl rfl rfl rfl ?_
            refine EdgeOk.cons rfl ?_ ?_
            · refine TO.u rfl rfl (TX.move rfl rfl ?_)
              refine TO.nil ?_
              exact TE.to (L' := [(7, .slice sp26002 n26003 cap26004), (8, .int .i64 x26009), (38, .int .i64 x26009), (39, .slice sp26002 n26003 cap26004), (40, .int .i64 x26009), (41, .slice (subP sp26002 S__2_int.E.sz cap26004 x26009.toNat) (((x26001.length : Nat) : Int).toNat - x26009.toNat) (cap26004 - x26009.toNat)), (42, .slice sp26002 n26003 cap26004)]) (E' := []) (S' := [Hs26006]) 0 0 ⟨rfl, rfl, rfl, rfl, rfl, rfl, rfl, trivial⟩ rfl rfl (TE.td ((hdef37502 _ _ _ _).mp (hS27000_8)))
            refine EdgeOk.cons rfl ?_ ?_
            · refine TO.u rfl rfl (TX.move rfl rfl ?_)
              refine TO.nil ?_
              exact TE.to (L' := [(7, .slice sp26002 n26003 cap26004), (8, .int .i64 x26009), (38, .int .i64 x26009), (39, .slice sp26002 n26003 cap26004), (40, .int .i64 x26009), (41, .slice (subP sp26002 S__2_int.E.sz cap26004 x26009.toNat) (((x26001.length : Nat) : Int).toNat - x26009.toNat) (cap26004 - x26009.toNat)), (43, .int .i64 x26009)]) (E' := []) (S' := [Hs26006]) 0 0 ⟨rfl, rfl, rfl, rfl, rfl, rfl, rfl, trivial⟩ rfl rfl (TE.td ((hdef37502 _ _ _ _).mp (hS27000_9)))
            exact EdgeOk.nil
          have hS27000_16 : T37501 6 [true, true, true, false, true, false, false, false, false, false] [(7, .slice sp26002 n26003 cap26004), (8, .int .i64 x26009), (38, .int .i64 x26009), (39, .slice sp26002 n26003 cap26004), (40, .int .i64 x26009), (42, .slice sp26002 n26003 cap26004)] ⟨[], [Hs26006]⟩ := by
            rw [hdef37502]
            refine TD.step [3, 5] 3 rfl rfl rfl rfl rfl ?_
            refine EdgeOk.cons rfl ?_ ?_
            · refine TO.u rfl rfl (TX.slice (l := x26009) (h := ((x26001.length : Nat) : Int)) Try.runUnderlying49 Try.sizeOf51 rfl (.some rfl) (.len hn26005) ho26007.le_cap hk31501 rfl ?_)
              refine TO.nil ?_
              exact TE.to (L' := [(7, .slice sp26002 n26003 cap26004), (8, .int .i64 x26009), (38, .int .i64 x26009), (39, .slice sp26002 n26003 cap26004), (40, .int .i64 x26009), (41, .slice (subP sp26002 S__2_int.E.sz cap26004 x26009.toNat) (((x26001.length : Nat) : Int).toNat - x26009.toNat) (cap26004 - x26009.toNat)), (42, .slice sp26002 n26003 cap26004)]) (E' := []) (S' := [Hs26006]) 0 0 ⟨rfl, rfl, rfl, rfl, rfl, rfl, rfl, trivial⟩ rfl rfl (TE.td ((hdef37502 _ _ _ _).mp (hS27000_8)))
            refine EdgeOk.cons rfl ?_ ?_
            · refine TO.u rfl rfl (TX.move rfl rfl ?_)
              refine TO.nil ?_
              exact TE.to (L' := [(7, .slice sp26002 n26003 cap26004), (8, .int .i64 x26009), (38, .int .i64 x26009), (39, .slice sp26002 n26003 cap26004), (40, .int .i64 x26009), (42, .slice sp26002 n26003 cap26004), (43, .int .i64 x26009)]) (E' := []) (S' := [Hs26006]) 0 0 ⟨rfl, rfl, rfl, rfl, rfl, rfl, rfl, trivial⟩ rfl rfl (TE.td ((hdef37502 _ _ _ _).mp (hS27000_10)))
            exact EdgeOk.nil
          have hS27000_17 : T37501 6 [true, true, true, false, false, true, false, false, false, false] [(7, .slice sp26002 n26003 cap26004), (8, .int .i64 x26009), (38, .int .i64 x26009), (39, .slice sp26002 n26003 cap26004), (40, .int .i64 x26009), (43, .int .i64 x26009)] ⟨[], [Hs26006]⟩ := by
            rw [hdef37502]
            refine TD.step [3, 4] 3 rfl rfl rfl rfl rfl ?_
            refine EdgeOk.cons rfl ?_ ?_
            · refine TO.u rfl rfl (TX.slice (l := x26009) (h := ((x26001.length : Nat) : Int)) Try.runUnderlying49 Try.sizeOf51 rfl (.some rfl) (.len hn26005) ho26007.le_cap hk31501 rfl ?_)
              refine TO.nil ?_
              exact TE.to (L' := [(7, .slice sp26002 n26003 cap26004), (8, .int .i64 x26009), (38, .int .i64 x26009), (39, .slice sp26002 n26003 cap26004), (40, .int .i64 x26009), (41, .slice (subP sp26002 S__2_int.E.sz cap26004 x26009.toNat) (((x26001.length : Nat) : Int).toNat - x26009.toNat) (cap26004 - x26009.toNat)), (43, .int .i64 x26009)]) (E' := []) (S' := [Hs26006]) 0 0 ⟨rfl, rfl, rfl, rfl, rfl, rfl, rfl, trivial⟩ rfl rfl (TE.td ((hdef37502 _ _ _ _).mp (hS27000_9)))
            refine EdgeOk.cons rfl ?_ ?_
            · refine TO.u rfl rfl (TX.move rfl rfl ?_)
              refine TO.nil ?_
              exact TE.to (L' := [(7, .slice sp26002 n26003 cap26004), (8, .int .i64 x26009), (38, .int .i64 x26009), (39, .slice sp26002 n26003 cap26004), (40, .int .i64 x26009), (42, .slice sp26002 n26003 cap26004), (43, .int .i64 x26009)]) (E' := []) (S' := [Hs26006]) 0 0 ⟨rfl, rfl, rfl, rfl, rfl, rfl, rfl, trivial⟩ rfl rfl (TE.td ((hdef37502 _ _ _ _).mp (hS27000_10)))
            exact EdgeOk.nil
          have hS27000_18 : T37501 6 [true, true, false, false, true, true, false, false, false, false] [(7, .slice sp26002 n26003 cap26004), (8, .int .i64 x26009), (38, .int .i64 x26009), (39, .slice sp26002 n26003 cap26004), (42, .slice sp26002 n26003 cap26004), (43, .int .i64 x26009)] ⟨[], [Hs26006]⟩ := by
            rw [hdef37502]
            refine TD.step [2, 6] 2 rfl rfl rfl rfl rfl ?_
            refine EdgeOk.cons rfl ?_ ?_
            · refine TO.u rfl rfl (TX.move rfl rfl ?_)
              refine TO.nil ?_
              exact TE.to (L' := [(7, .slice sp26002 n26003 cap26004), (8, .int .i64 x26009), (38, .int .i64 x26009), (39, .slice sp26002 n26003 cap26004), (40, .int .i64 x26009), (42, .slice sp26002 n26003 cap26004), (43, .int .i64 x26009)]) (E' := []) (S' := [Hs26006]) 0 0 ⟨rfl, rfl, rfl, rfl, rfl, rfl, rfl, trivial⟩ rfl rfl (TE.td ((hdef37502 _ _ _ _).mp (hS27000_10)))
            refine EdgeOk.cons rfl ?_ ?_
            · refine TO.u rfl rfl (TX.slice (l := ((0 : Nat) : Int)) (h := x26009) Try.runUnderlying49 Try.sizeOf51 rfl .none (.some rfl) ho26007.le_cap hk34501 rfl ?_)
              refine TO.nil ?_
              exact TE.to (L' := [(7, .slice sp26002 n26003 cap26004), (8, .int .i64 x26009), (38, .int .i64 x26009), (39, .slice sp26002 n26003 cap26004), (42, .slice sp26002 n26003 cap26004), (43, .int .i64 x26009), (44, .slice (subP sp26002 S__2_int.E.sz cap26004 ((0 : Nat) : Int).toNat) (x26009.toNat - ((0 : Nat) : Int).toNat) (cap26004 - ((0 : Nat) : Int).toNat))]) (E' := []) (S' := [Hs26006]) 0 0 ⟨rfl, rfl, rfl, rfl, rfl, rfl, rfl, trivial⟩ rfl rfl (TE.td ((hdef37502 _ _ _ _).mp (hS27000_11)))
            exact EdgeOk.nil
          have hS27000_19 : T37501 6 [true, false, true, false, true, true, false, false, false, false] [(7, .slice sp26002 n26003 cap26004), (8, .int .i64 x26009), (38, .int .i64 x26009), (40, .int .i64 x26009), (42, .slice sp26002 n26003 cap26004), (43, .int .i64 x26009)] ⟨[], [Hs26006]⟩ := by
            rw [hdef37502]
            refine TD.step [1, 6] 1 rfl rfl rfl rfl rfl ?_
            refine EdgeOk.cons rfl ?_ ?_
            · refine TO.u rfl rfl (TX.move rfl rfl ?_)
              refine TO.nil ?_
              exact TE.to (L' := [(7, .slice sp26002 n26003 cap26004), (8, .int .i64 x26009), (38, .int .i64 x26009), (39, .slice sp26002 n26003 cap26004), (40, .int .i64 x26009), (42, .slice sp26002 n26003 cap26004), (43, .int .i64 x26009)]) (E' := []) (S' := [Hs26006]) 0 0 ⟨rfl, rfl, rfl, rfl, rfl, rfl, rfl, trivial⟩ rfl rfl (TE.td ((hdef37502 _ _ _ _).mp (hS27000_10)))
            refine EdgeOk.cons rfl ?_ ?_
            · refine TO.u rfl rfl (TX.slice (l := ((0 : Nat) : Int)) (h := x26009) Try.runUnderlying49 Try.sizeOf51 rfl .none (.some rfl) ho26007.le_cap hk34501 rfl ?_)
              refine TO.nil ?_
              exact TE.to (L' := [(7, .slice sp26002 n26003 cap26004), (8, .int .i64 x26009), (38, .int .i64 x26009), (40, .int .i64 x26009), (42, .slice sp26002 n26003 cap26004), (43, .int .i64 x26009), (44, .slice (subP sp26002 S__2_int.E.sz cap26004 ((0 : Nat) : Int).toNat) (x26009.toNat - ((0 : Nat) : Int).toNat) (cap26004 - ((0 : Nat) : Int).toNat))]) (E' := []) (S' := [Hs26006]) 0 0 ⟨rfl, rfl, rfl, rfl, rfl, rfl, rfl, trivial⟩ rfl rfl (TE.td ((hdef37502 _ _ _ _).mp (hS27000_12)))
            exact EdgeOk.nil
          have hS27000_20 : T37501 6 [true, false, false, false, true, true, true, false, false, false] [(7, .slice sp26002 n26003 cap26004), (8, .int .i64 x26009), (38, .int .i64 x26009), (42, .slice sp26002 n26003 cap26004), (43, .int .i64 x26009), (44, .slice (subP sp26002 S__2_int.E.sz cap26004 ((0 : Nat) : Int).toNat) (x26009.toNat - ((0 : Nat) : Int).toNat) (cap26004 - ((0 : Nat) : Int).toNat))] ⟨[], [Hs26006]⟩ := by
            rw [hdef37502]
            refine TD.step [1, 2] 1 rfl rfl rfl rfl rfl ?_
            refine EdgeOk.cons rfl ?_ ?_
            · refine TO.u rfl rfl (TX.move rfl rfl ?_)
              refine TO.nil ?_
              exact TE.to (L' := [(7, .slice sp26002 n26003 cap26004), (8, .int .i64 x26009), (38, .int .i64 x26009), (39, .slice sp26002 n26003 cap26004), (42, .slice sp26002 n26003 cap26004), (43, .int .i64 x26009), (44, .slice (subP sp26002 S__2_int.E.sz cap26004 ((0 : Nat) : Int).toNat) (x26009.toNat - ((0 : Nat) : Int).toNat) (cap26004 - ((0 : Nat) : Int).toNat))]) (E' := []) (S' := [Hs26006]) 0 0 ⟨rfl, rfl, rfl, rfl, rfl, rfl, rfl, trivial⟩ rfl rfl (TE.td ((hdef37502 _ _ _ _).mp (hS27000_11)))
            refine EdgeOk.cons rfl ?_ ?_
            · refine TO.u rfl rfl (TX.move rfl rfl ?_)
              refine TO.nil ?_
              exact TE.to (L' := [(7, .slice sp26002 n26003 cap26004), (8, .int .i64 x26009), (38, .int .i64 x26009), (40, .int .i64 x26009), (42, .slice sp26002 n26003 cap26004), (43, .int .i64 x26009), (44, .slice (subP sp26002 S__2_int.E.sz cap26004 ((0 : Nat) : Int).toNat) (x26009.toNat - ((0 : Nat) : Int).toNat) (cap26004 - ((0 : Nat) : Int).toNat))]) (E' := []) (S' := [Hs26006]) 0 0 ⟨rfl, rfl, rfl, rfl, rfl, rfl, rfl, trivial⟩ rfl rfl (TE.td ((hdef37502 _ _ _ _).mp (hS27000_12)))
            exact EdgeOk.nil
          have hS27000_21 : T37501 6 [false, true, true, true, true, false, false, false, false, false] [(7, .slice sp26002 n26003 cap26004), (8, .int .i64 x26009), (39, .slice sp26002 n26003 cap26004), (40, .int .i64 x26009), (41, .slice (subP sp26002 S__2_int.E.sz cap26004 x26009.toNat) (((x26001.length : Nat) : Int).toNat - x26009.toNat) (cap26004 - x26009.toNat)), (42, .slice sp26002 n26003 cap26004)] ⟨[], [Hs26006]⟩ := by
            rw [hdef37502]
            refine TD.step [0, 5] 0 rfl rfl rfl rfl rfl ?_
            refine EdgeOk.cons rfl ?_ ?_
            · refine TO.u rfl rfl (TX.move rfl rfl ?_)
              refine TO.nil ?_
              exact TE.to (L' := [(7, .slice sp26002 n26003 cap26004), (8, .int .i64 x26009), (38, .int .i64 x26009), (39, .slice sp26002 n26003 cap26004), (40, .int .i64 x26009), (41, .slice (subP sp26002 S__2_int.E.sz cap26004 x26009.toNat) (((x26001.length : Nat) : Int).toNat - x26009.toNat) (cap26004 - x26009.toNat)), (42, .slice sp26002 n26003 cap26004)]) (E' := []) (S' := [Hs26006]) 0 0 ⟨rfl, rfl, rfl, rfl, rfl, rfl, rfl, trivial⟩ rfl rfl (TE.td ((hdef37502 _ _ _ _).mp (hS27000_8)))
            refine EdgeOk.cons rfl ?_ ?_
            · refine TO.u rfl rfl (TX.move rfl rfl ?_)
              refine TO.nil ?_
              exact TE.to (L' := [(7, .slice sp26002 n26003 cap26004), (8, .int .i64 x26009), (39, .slice sp26002 n26003 cap26004), (40, .int .i64 x26009), (41, .slice (subP sp26002 S__2_int.E.sz cap26004 x26009.toNat) (((x26001.length : Nat) : Int).toNat - x26009.toNat) (cap26004 - x26009.toNat)), (42, .slice sp26002 n26003 cap26004), (43, .int .i64 x26009)]) (E' := []) (S' := [Hs26006]) 0 0 ⟨rfl, rfl, rfl, rfl, rfl, rfl, rfl, trivial⟩ rfl rfl (TE.td ((hdef37502 _ _ _ _).mp (hS27000_13)))
            exact EdgeOk.nil
          have hS27000_22 : T37501 6 [false, true, true, true, false, true, false, false, false, false] [(7, .slice sp26002 n26003 cap26004), (8, .int .i64 x26009), (39, .slice sp26002 n26003 cap26004), (40, .int .i64 x26009), (41, .slice (subP sp26002 S__2_int.E.sz cap26004 x26009.toNat) (((x26001.length : Nat) : Int).toNat - x26009.toNat) (cap26004 - x26009.toNat)), (43, .int .i64 x26009)] ⟨[], [Hs26006]⟩ := by
            rw [hdef37502]
            refine TD.step [0, 4] 0 rfl rfl rfl rfl rfl ?_
            refine EdgeOk.cons rfl ?_ ?_
            · refine TO.u rfl rfl (TX.move rfl rfl ?_)
              refine TO.nil ?_
              exact TE.to (L' := [(7, .slice sp26002 n26003 cap26004), (8, .int .i64 x26009), (38, .int .i64 x26009), (39, .slice sp26002 n26003 cap26004), (40, .int .i64 x26009), (41, .slice (subP sp26002 S__2_int.E.sz cap26004 x26009.toNat) (((x26001.length : Nat) : Int).toNat - x26009.toNat) (cap26004 - x26009.toNat)), (43, .int .i64 x26009)]) (E' := []) (S' := [Hs26006]) 0 0 ⟨rfl, rfl, rfl, rfl, rfl, rfl, rfl, trivial⟩ rfl rfl (TE.td ((hdef37502 _ _ _ _).mp (hS27000_9)))
            refine EdgeOk.cons rfl ?_ ?_
            · refine TO.u rfl rfl (TX.move rfl rfl ?_)
              refine TO.nil ?_
              exact TE.to (L' := [(7, .slice sp26002 n26003 cap26004), (8, .int .i64 x26009), (39, .slice sp26002 n26003 cap26004), (40, .int .i64 x26009), (41, .slice (subP sp26002 S__2_int.E.sz cap26004 x26009.toNat) (((x26001.length : Nat) : Int).toNat - x26009.toNat) (cap26004 - x26009.toNat)), (42, .slice sp26002 n26003 cap26004), (43, .int .i64 x26009)]) (E' := []) (S' := [Hs26006]) 0 0 ⟨rfl, rfl, rfl, rfl, rfl, rfl, rfl, trivial⟩ rfl rfl (TE.td ((hdef37502 _ _ _ _).mp (hS27000_13)))
            exact EdgeOk.nil
          have hS27000_23 : T37501 6 [false, true, true, false, true, true, false, false, false, false] [(7, .slice sp26002 n26003 cap26004), (8, .int .i64 x26009), (39, .slice sp26002 n26003 cap26004), (40, .int .i64 x26009), (42, .slice sp26002 n26003 cap26004), (43, .int .i64 x26009)] ⟨[], [Hs26006]⟩ := by
            rw [hdef37502]
            refine TD.step [0, 3, 6] 0 rfl rfl rfl rfl rfl ?_
            refine EdgeOk.cons rfl ?_ ?_
            · refine TO.u rfl rfl (TX.move rfl rfl ?_)
              refine TO.nil ?_
              exact TE.to (L' := [(7, .slice sp26002 n26003 cap26004), (8, .int .i64 x26009), (38, .int .i64 x26009), (39, .slice sp26002 n26003 cap26004), (40, .int .i64 x26009), (42, .slice sp26002 n26003 cap26004), (43, .int .i64 x26009)]) (E' := []) (S' := [Hs26006]) 0 0 ⟨rfl, rfl, rfl, rfl, rfl, rfl, rfl, trivial⟩ rfl rfl (TE.td ((hdef37502 _ _ _ _).mp (hS27000_10)))
            refine EdgeOk.cons rfl ?_ ?_
            · refine TO.u rfl rfl (TX.slice (l := x26009) (h := ((x26001.length : Nat) : Int)) Try.runUnderlying49 Try.sizeOf51 rfl (.some rfl) (.len hn26005) ho26007.le_cap hk31501 rfl ?_)
              refine TO.nil ?_
              exact TE.to (L' := [(7, .slice sp26002 n26003 cap26004), (8, .int .i64 x26009), (39, .slice sp26002 n26003 cap26004), (40, .int .i64 x26009), (41, .slice (subP sp26002 S__2_int.E.sz cap26004 x26009.toNat) (((x26001.length : Nat) : Int).toNat - x26009.toNat) (cap26004 - x26009.toNat)), (42, .slice sp26002 n26003 cap26004), (43, .int .i64 x26009)]) (E' := []) (S' := [Hs26006]) 0 0 ⟨rfl, rfl, rfl, rfl, rfl, rfl, rfl, trivial⟩ rfl rfl (TE.td ((hdef37502 _ _ _ _).mp (hS27000_13)))
            refine EdgeOk.cons rfl ?_ ?_
            · refine TO.u rfl rfl (TX.slice (l := ((0 : Nat) : Int)) (h := x26009) Try.runUnderlying49 Try.sizeOf51 rfl .none (.some rfl) ho26007.le_cap hk34501 rfl ?_)
              refine TO.nil ?_
              exact TE.to (L' := [(7, .slice sp26002 n26003 cap26004), (8, .int .i64 x26009), (39, .slice sp26002 n26003 cap26004), (40, .int .i64 x26009), (42, .slice sp26002 n26003 cap26004), (43, .int .i64 x26009), (44, .slice (subP sp26002 S__2_int.E.sz cap26004 ((0 : Nat) : Int).toNat) (x26009.toNat - ((0 : Nat) : Int).toNat) (cap26004 - ((0 : Nat) : Int).toNat))]) (E' := []) (S' := [Hs26006]) 0 0 ⟨rfl, rfl, rfl, rfl, rfl, rfl, rfl, trivial⟩ rfl rfl (TE.td ((hdef37502 _ _ _ _).mp (hS27000_14)))
            exact EdgeOk.nil
          have hS27000_24 : T37501 6 [false, true, false, false, true, true, true, false, false, false] [(7, .slice sp26002 n26003 cap26004), (8, .int .i64 x26009), (39, .slice sp26002 n26003 cap26004), (42, .slice sp26002 n26003 cap26004), (43, .int .i64 x26009), (44, .slice (subP sp26002 S__2_int.E.sz cap26004 ((0 : Nat) : Int).toNat) (x26009.toNat - ((0 : Nat) : Int).toNat) (cap26004 - ((0 : Nat) : Int).toNat))] ⟨[], [Hs26006]⟩ := by
            rw [hdef37502]
            refine TD.step [0, 2] 0 rfl rfl rfl rfl rfl ?_
            refine EdgeOk.cons rfl ?_ ?_
            · refine TO.u rfl rfl (TX.move rfl rfl ?_)
              refine TO.nil ?_
              exact TE.to (L' := [(7, .slice sp26002 n26003 cap26004), (8, .int .i64 x26009), (38, .int .i64 x26009), (39, .slice sp26002 n26003 cap26004), (42, .slice sp26002 n26003 cap26004), (43, .int .i64 x26009), (44, .slice (subP sp26002 S__2_int.E.sz cap26004 ((0 : Nat) : Int).toNat) (x26009.toNat - ((0 : Nat) : Int).toNat) (cap26004 - ((0 : Nat) : Int).toNat))]) (E' := []) (S' := [Hs26006]) 0 0 ⟨rfl, rfl, rfl, rfl, rfl, rfl, rfl, trivial⟩ rfl rfl (TE.td ((hdef37502 _ _ _ _).mp (hS27000_11)))
            refine EdgeOk.cons rfl ?_ ?_
            · refine TO.u rfl rfl (TX.move rfl rfl ?_)
              refine TO.nil ?_
              exact TE.to (L' := [(7, .slice sp26002 n26003 cap26004), (8, .int .i64 x26009), (39, .slice sp26002 n26003 cap26004), (40, .int .i64 x26009), (42, .slice sp26002 n26003 cap26004), (43, .int .i64 x26009), (44, .slice (subP sp26002 S__2_int.E.sz cap26004 ((0 : Nat) : Int).toNat) (x26009.toNat - ((0 : Nat) : Int).toNat) (cap26004 - ((0 : Nat) : Int).toNat))]) (E' := []) (S' := [Hs26006]) 0 0 ⟨rfl, rfl, rfl, rfl, rfl, rfl, rfl, trivial⟩ rfl rfl (TE.td ((hdef37502 _ _ _ _).mp (hS27000_14)))
            exact EdgeOk.nil
          have hS27000_25 : T37501 6 [false, false, true, false, true, true, true, false, false, false] [(7, .slice sp26002 n26003 cap26004), (8, .int .i64 x26009), (40, .int .i64 x26009), (42, .slice sp26002 n26003 cap26004), (43, .int .i64 x26009), (44, .slice (subP sp26002 S__2_int.E.sz cap26004 ((0 : Nat) : Int).toNat) (x26009.toNat - ((0 : Nat) : Int).toNat) (cap26004 - ((0 : Nat) : Int).toNat))] ⟨[], [Hs26006]⟩ := by
            rw [hdef37502]
            refine TD.step [0, 1] 0 rfl rfl rfl rfl rfl ?_
            refine EdgeOk.cons rfl ?_ ?_
            · refine TO.u rfl rfl (TX.move rfl rfl ?_)
              refine TO.nil ?_
              exact TE.to (L' := [(7, .slice sp26002 n26003 cap26004), (8, .int .i64 x26009), (38, .int .i64 x26009), (40, .int .i64 x26009), (42, .slice sp26002 n26003 cap26004), (43, .int .i64 x26009), (44, .slice (subP sp26002 S__2_int.E.sz cap26004 ((0 : Nat) : Int).toNat) (x26009.toNat - ((0 : Nat) : Int).toNat) (cap26004 - ((0 : Nat) : Int).toNat))]) (E' := []) (S' := [Hs26006]) 0 0 ⟨rfl, rfl, rfl, rfl, rfl, rfl, rfl, trivial⟩ rfl rfl (TE.td ((hdef37502 _ _ _ _).mp (hS27000_12)))
            refine EdgeOk.cons rfl ?_ ?_
            · refine TO.u rfl rfl (TX.move rfl rfl ?_)
              refine TO.nil ?_
              exact TE.to (L' := [(7, .slice sp26002 n26003 cap26004), (8, .int .i64 x26009), (39, .slice sp26002 n26003 cap26004), (40, .int .i64 x26009), (42, .slice sp26002 n26003 cap26004), (43, .int .i64 x26009), (44, .slice (subP sp26002 S__2_int.E.sz cap26004 ((0 : Nat) : Int).toNat) (x26009.toNat - ((0 : Nat) : Int).toNat) (cap26004 - ((0 : Nat) : Int).toNat))]) (E' := []) (S' := [Hs26006]) 0 0 ⟨rfl, rfl, rfl, rfl, rfl, rfl, rfl, trivial⟩ rfl rfl (TE.td ((hdef37502 _ _ _ _).mp (hS27000_14)))
            exact EdgeOk.nil
          have hS27000_26 : T37501 7 [true, true, true, false, false, false, false, false, false, false] [(7, .slice sp26002 n26003 cap26004), (8, .int .i64 x26009), (38, .int .i64 x26009), (39, .slice sp26002 n26003 cap26004), (40, .int .i64 x26009)] ⟨[], [Hs26006]⟩ := by
            rw [hdef37502]
            refine TD.step [3, 4, 5] 3 rfl rfl rfl rfl rfl ?_
            refine EdgeOk.cons rfl ?_ ?_
            · refine TO.u rfl rfl (TX.slice (l := x26009) (h := ((x26001.length : Nat) : Int)) Try.runUnderlying49 Try.sizeOf51 rfl (.some rfl) (.len hn26005) ho26007.le_cap hk31501 rfl ?_)
              refine TO.nil ?_
              exact TE.to (L' := [(7, .slice sp26002 n26003 cap26004), (8, .int .i64 x26009), (38, .int .i64 x26009), (39, .slice sp26002 n26003 cap26004), (40, .int .i64 x26009), (41, .slice (subP sp26002 S__2_int.E.sz cap26004 x26009.toNat) (((x26001.length : Nat) : Int).toNat - x26009.toNat) (cap26004 - x26009.toNat))]) (E' := []) (S' := [Hs26006]) 0 0 ⟨rfl, rfl, rfl, rfl, rfl, rfl, trivial⟩ rfl rfl (TE.td ((hdef37502 _ _ _ _).mp (hS27000_15)))
            refine EdgeOk.cons rfl ?_ ?_
            · refine TO.u rfl rfl (TX.move rfl rfl ?_)
              refine TO.nil ?_
              exact TE.to (L' := [(7, .slice sp26002 n26003 cap26004), (8, .int .i64 x26009), (38, .int .i64 x26009), (39, .slice sp26002 n26003 cap26004), (40, .int .i64 x26009), (42, .slice sp26002 n26003 cap26004)]) (E' := []) (S' := [Hs26006]) 0 0 ⟨rfl, rfl, rfl, rfl, rfl, rfl, trivial⟩ rfl rfl (TE.td ((hdef37502 _ _ _ _).mp (hS27000_16)))
            refine EdgeOk.cons rfl ?_ ?_
            · refine TO.u rfl rfl (TX.move rfl rfl ?_)
              refine TO.nil ?_
              exact TE.to (L' := [(7, .slice sp26002 n26003 cap26004), (8, .int .i64 x26009), (38, .int .i64 x26009), (39, .slice sp26002 n26003 cap26004), (40, .int .i64 x26009), (43, .int .i64 x26009)]) (E' := []) (S' := [Hs26006]) 0 0 ⟨rfl, rfl, rfl, rfl, rfl, rfl, trivial⟩ rfl rfl (TE.td ((hdef37502 _ _ _ _).mp (hS27000_17)))
            exact EdgeOk.nil
          have hS27000_27 : T37501 7 [true, true, false, false, true, false, false, false, false, false] [(7, .slice sp26002 n26003 cap26004), (8, .int .i64 x26009), (38, .int .i64 x26009), (39, .slice sp26002 n26003 cap26004), (42, .slice sp26002 n26003 cap26004)] ⟨[], [Hs26006]⟩ := by
            rw [hdef37502]
            refine TD.step [2, 5] 2 rfl rfl rfl rfl rfl ?_
            refine EdgeOk.cons rfl ?_ ?_
            · refine TO.u rfl rfl (TX.move rfl rfl ?_)
              refine TO.nil ?_
              exact TE.to (L' := [(7, .slice sp26002 n26003 cap26004), (8, .int .i64 x26009), (38, .int .i64 x26009), (39, .slice sp26002 n26003 cap26004), (40, .int .i64 x26009), (42, .slice sp26002 n26003 cap26004)]) (E' := []) (S' := [Hs26006]) 0 0 ⟨rfl, rfl, rfl, rfl, rfl, rfl, trivial⟩ rfl rfl (TE.td ((hdef37502 _ _ _ _).mp (hS27000_16)))
            refine EdgeOk.cons rfl ?_ ?_
            · refine TO.u rfl rfl (TX.move rfl rfl ?_)
              refine TO.nil ?_
              exact TE.to (L' := [(7, .slice sp26002 n26003 cap26004), (8, .int .i64 x26009), (38, .int .i64 x26009), (39, .slice sp26002 n26003 cap26004), (42, .slice sp26002 n26003 cap26004), (43, .int .i64 x26009)]) (E' := []) (S' := [Hs26006]) 0 0 ⟨rfl, rfl, rfl, rfl, rfl, rfl, trivial⟩ rfl rfl (TE.td ((hdef37502 _ _ _ _).mp (hS27000_18)))
            exact EdgeOk.nil
          have hS27000_28 : T37501 7 [true, true, false, false, false, true, false, false, false, false] [(7, .slice sp26002 n26003 cap26004), (8, .int .i64 x26009), (38, .int .i64 x26009), (39, .slice sp26002 n26003 cap26004), (43, .int .i64 x26009)] ⟨[], [Hs26006]⟩ := by
            rw [hdef37502]
            refine TD.step [2, 4] 2 rfl rfl rfl rfl rfl ?_
            refine EdgeOk.cons rfl ?_ ?_
            · refine TO.u rfl rfl (TX.move rfl rfl ?_)
              refine TO.nil ?_
              exact TE.to (L' := [(7, .slice sp26002 n26003 cap26004), (8, .int .i64 x26009), (38, .int .i64 x26009), (39, .slice sp26002 n26003 cap26004), (40, .int .i64 x26009), (43, .int .i64 x26009)]) (E' := []) (S' := [Hs26006]) 0 0 ⟨rfl, rfl, rfl, rfl, rfl, rfl, trivial⟩ rfl rfl (TE.td ((hdef37502 _ _ _ _).mp (hS27000_17)))
            refine EdgeOk.cons rfl ?_ ?_
            · refine TO.u rfl rfl (TX.move rfl rfl ?_)
              refine TO.nil ?_
              exact TE.to (L' := [(7, .slice sp26002 n26003 cap26004), (8, .int .i64 x26009), (38, .int .i64 x26009), (39, .slice sp26002 n26003 cap26004), (42, .slice sp26002 n26003 cap26004), (43, .int .i64 x26009)]) (E' := []) (S' := [Hs26006]) 0 0 ⟨rfl, rfl, rfl, rfl, rfl, rfl, trivial⟩ rfl rfl (TE.td ((hdef37502 _ _ _ _).mp (hS27000_18)))
            exact EdgeOk.nil
          have hS27000_29 : T37501 7 [true, false, true, false, true, false, false, false, false, false] [(7, .slice sp26002 n26003 cap26004), (8, .int .i64 x26009), (38, .int .i64 x26009), (40, .int .i64 x26009), (42, .slice sp26002 n26003 cap26004)] ⟨[], [Hs26006]⟩ := by
            rw [hdef37502]
            refine TD.step [1, 5] 1 rfl rfl rfl rfl rfl ?_
            refine EdgeOk.cons rfl ?_ ?_
            · refine TO.u rfl rfl (TX.move rfl rfl ?_)
              refine TO.nil ?_
              exact TE.to (L' := [(7, .slice sp26002 n26003 cap26004), (8, .int .i64 x26009), (38, .int .i64 x26009), (39, .slice sp26002 n26003 cap26004), (40, .int .i64 x26009), (42, .slice sp26002 n26003 cap26004)]) (E' := []) (S' := [Hs26006]) 0 0 ⟨rfl, rfl, rfl, rfl, rfl, rfl, trivial⟩ rfl rfl (TE.td ((hdef37502 _ _ _ _).mp (hS27000_16)))
            refine EdgeOk.cons rfl ?_ ?_
            · refine TO.u rfl rfl (TX.move rfl rfl ?_)
              refine TO.nil ?_
              exact TE.to (L' := [(7, .slice sp26002 n26003 cap26004), (8, .int .i64 x26009), (38, .int .i64 x26009), (40, .int .i64 x26009), (42, .slice sp26002 n26003 cap26004), (43, .int .i64 x26009)]) (E' := []) (S' := [Hs26006]) 0 0 ⟨rfl, rfl, rfl, rfl, rfl, rfl, trivial⟩ rfl rfl (TE.td ((hdef37502 _ _ _ _).mp (hS27000_19)))
            exact EdgeOk.nil
          have hS27000_30 : T37501 7 [true, false, true, false, false, true, false, false, false, false] [(7, .slice sp26002 n26003 cap26004), (8, .int .i64 x26009), (38, .int .i64 x26009), (40, .int .i64 x26009), (43, .int .i64 x26009)] ⟨[], [Hs26006]⟩ := by
            rw [hdef37502]
            refine TD.step [1, 4] 1 rfl rfl rfl rfl rfl ?_
            refine EdgeOk.cons rfl ?_ ?_
            · refine TO.u rfl rfl (TX.move rfl rfl ?_)
              refine TO.nil ?_
              exact TE.to (L' := [(7, .slice sp26002 n26003 cap26004), (8, .int .i64 x26009), (38, .int .i64 x26009), (39, .slice sp26002 n26003 cap26004), (40, .int .i64 x26009), (43, .int .i64 x26009)]) (E' := []) (S' := [Hs26006]) 0 0 ⟨rfl, rfl, rfl, rfl, rfl, rfl, trivial⟩ rfl rfl (TE.td ((hdef37502 _ _ _ _).mp (hS27000_17)))
            refine EdgeOk.cons rfl ?_ ?_
            · refine TO.u rfl rfl (TX.move rfl rfl ?_)
              refine TO.nil ?_
              exact TE.to (L' := [(7, .slice sp26002 n26003 cap26004), (8, .int .i64 x26009), (38, .int .i64 x26009), (40, .int .i64 x26009), (42, .slice sp26002 n26003 cap26004), (43, .int .i64 x26009)]) (E' := []) (S' := [Hs26006]) 0 0 ⟨rfl, rfl, rfl, rfl, rfl, rfl, trivial⟩ rfl rfl (TE.td ((hdef37502 _ _ _ _).mp (hS27000_19)))
            exact EdgeOk.nil
          have hS27000_31 : T37501 7 [true, false, false, false, true, true, false, false, false, false] [(7, .slice sp26002 n26003 cap26004), (8, .int .i64 x26009), (38, .int .i64 x26009), (42, .slice sp26002 n26003 cap26004), (43, .int .i64 x26009)] ⟨[], [Hs26006]⟩ := by
            rw [hdef37502]
            refine TD.step [1, 2, 6] 1 rfl rfl rfl rfl rfl ?_
            refine EdgeOk.cons rfl ?_ ?_
            · refine TO.u rfl rfl (TX.move rfl rfl ?_)
              refine TO.nil ?_
              exact TE.to (L' := [(7, .slice sp26002 n26003 cap26004), (8, .int .i64 x26009), (38, .int .i64 x26009), (39, .slice sp26002 n26003 cap26004), (42, .slice sp26002 n26003 cap26004), (43, .int .i64 x26009)]) (E' := []) (S' := [Hs26006]) 0 0 ⟨rfl, rfl, rfl, rfl, rfl, rfl, trivial⟩ rfl rfl (TE.td ((hdef37502 _ _ _ _).mp (hS27000_18)))
            refine EdgeOk.cons rfl ?_ ?_
            · refine TO.u rfl rfl (TX.move rfl rfl ?_)
              refine TO.nil ?_
              exact TE.to (L' := [(7, .slice sp26002 n26003 cap26004), (8, .int .i64 x26009), (38, .int .i64 x26009), (40, .int .i64 x26009), (42, .slice sp26002 n26003 cap26004), (43, .int .i64 x26009)]) (E' := []) (S' := [Hs26006]) 0 0 ⟨rfl, rfl, rfl, rfl, rfl, rfl, trivial⟩ rfl rfl (TE.td ((hdef37502 _ _ _ _).mp (hS27000_19)))
            refine EdgeOk.cons rfl ?_ ?_
            · refine TO.u rfl rfl (TX.slice (l := ((0 : Nat) : Int)) (h := x26009) Try.runUnderlying49 Try.sizeOf51 rfl .none (.some rfl) ho26007.le_cap hk34501 rfl ?_)
              refine TO.nil ?_
              exact TE.to (L' := [(7, .slice sp26002 n26003 cap26004), (8, .int .i64 x26009), (38, .int .i64 x26009), (42, .slice sp26002 n26003 cap26004), (43, .int .i64 x26009), (44, .slice (subP sp26002 S__2_int.E.sz cap26004 ((0 : Nat) : Int).toNat) (x26009.toNat - ((0 : Nat) : Int).toNat) (cap26004 - ((0 : Nat) : Int).toNat))]) (E' := []) (S' := [Hs26006]) 0 0 ⟨rfl, rfl, rfl, rfl, rfl, rfl, trivial⟩ rfl rfl (TE.td ((hdef37502 _ _ _ _).mp (hS27000_20)))
            exact EdgeOk.nil
          have hS27000_32 : T37501 7 [false, true, true, true, false, false, false, false, false, false] [(7, .slice sp26002 n26003 cap26004), (8, .int .i64 x26009), (39, .slice sp26002 n26003 cap26004), (40, .int .i64 x26009), (41, .slice (subP sp26002 S__2_int.E.sz cap26004 x26009.toNat) (((x26001.length : Nat) : Int).toNat - x26009.toNat) (cap26004 - x26009.toNat))] ⟨[], [Hs26006]⟩ := by
            rw [hdef37502]
            refine TD.step [0, 4, 5] 0 rfl rfl rfl rfl rfl ?_
            refine EdgeOk.cons rfl ?_ ?_
            · refine TO.u rfl rfl (TX.move rfl rfl ?_)
              refine TO.nil ?_
              exact TE.to (L' := [(7, .slice sp26002 n26003 cap26004), (8, .int .i64 x26009), (38, .int .i64 x26009), (39, .slice sp26002 n26003 cap26004), (40, .int .i64 x26009), (41, .slice (subP sp26002 S__2_int.E.sz cap26004 x26009.toNat) (((x26001.length : Nat) : Int).toNat - x26009.toNat) (cap26004 - x26009.toNat))]) (E' := []) (S' := [Hs26006]) 0 0 ⟨rfl, rfl, rfl, rfl, rfl, rfl, trivial⟩ rfl rfl (TE.td ((hdef37502 _ _ _ _).mp (hS27000_15)))
            refine EdgeOk.cons rfl ?_ ?_
            · refine TO.u rfl rfl (TX.move rfl rfl ?_)
              refine TO.nil ?_
              exact TE.to (L' := [(7, .slice sp26002 n26003 cap26004), (8, .int .i64 x26009), (39, .slice sp26002 n26003 cap26004), (40, .int .i64 x26009), (41, .slice (subP sp26002 S__2_int.E.sz cap26004 x26009.toNat) (((x26001.length : Nat) : Int).toNat - x26009.toNat) (cap26004 - x26009.toNat)), (42, .slice sp26002 n26003 cap26004)]) (E' := []) (S' := [Hs26006]) 0 0 ⟨rfl, rfl, rfl, rfl, rfl, rfl, trivial⟩ rfl rfl (TE.td ((hdef37502 _ _ _ _).mp (hS27000_21)))
            refine EdgeOk.cons rfl ?_ ?_
            · refine TO.u rfl rfl (TX.move rfl rfl ?_)
              refine TO.nil ?_
              exact TE.to (L' := [(7, .slice sp26002 n26003 cap26004), (8, .int .i64 x26009), (39, .slice sp26002 n26003 cap26004), (40, .int .i64 x26009), (41, .slice (subP sp26002 S__2_int.E.sz cap26004 x26009.toNat) (((x26001.length : Nat) : Int).toNat - x26009.toNat) (cap26004 - x26009.toNat)), (43, .int .i64 x26009)]) (E' := []) (S' := [Hs26006]) 0 0 ⟨rfl, rfl, rfl, rfl, rfl, rfl, trivial⟩ rfl rfl (TE.td ((hdef37502 _ _ _ _).mp (hS27000_22)))
            exact EdgeOk.nil
          have hS27000_33 : T37501 7 [false, true, true, false, true, false, false, false, false, false] [(7, .slice sp26002 n26003 cap26004), (8, .int .i64 x26009), (39, .slice sp26002 n26003 cap26004), (40, .int .i64 x26009), (42, .slice sp26002 n26003 cap26004)] ⟨[], [Hs26006]⟩ := by
            rw [hdef37502]
            refine TD.step [0, 3, 5] 0 rfl rfl rfl rfl rfl ?_
            refine EdgeOk.cons rfl ?_ ?_
            · refine TO.u rfl rfl (TX.move rfl rfl ?_)
              refine TO.nil ?_
              exact TE.to (L' := [(7, .slice sp26002 n26003 cap26004), (8, .int .i64 x26009), (38, .int .i64 x26009), (39, .slice sp26002 n26003 cap26004), (40, .int .i64 x26009), (42, .slice sp26002 n26003 cap26004)]) (E' := []) (S' := [Hs26006]) 0 0 ⟨rfl, rfl, rfl, rfl, rfl, rfl, trivial⟩ rfl rfl (TE.td ((hdef37502 _ _ _ _).mp (hS27000_16)))
            refine EdgeOk.cons rfl ?_ ?_
            · refine TO.u rfl rfl (TX.slice (l := x26009) (h := ((x26001.length : Nat) : Int)) Try.runUnderlying49 Try.sizeOf51 rfl (.some rfl) (.len hn26005) ho26007.le_cap hk31501 rfl ?_)
              refine TO.nil ?_
              exact TE.to (L' := [(7, .slice sp26002 n26003 cap26004), (8, .int .i64 x26009), (39, .slice sp26002 n26003 cap26004), (40, .int .i64 x26009), (41, .slice (subP sp26002 S__2_int.E.sz cap26004 x26009.toNat) (((x26001.length : Nat) : Int).toNat - x26009.toNat) (cap26004 - x26009.toNat)), (42, .slice sp26002 n26003 cap26004)]) (E' := []) (S' := [Hs26006]) 0 0 ⟨rfl, rfl, rfl, rfl, rfl, rfl, trivial⟩ rfl rfl (TE.td ((hdef37502 _ _ _ _).mp (hS27000_21)))
            refine EdgeOk.cons rfl ?_ ?_
            · refine TO.u rfl rfl (TX.move rfl rfl ?_)
              refine TO.nil ?_
              exact TE.to (L' := [(7, .slice sp26002 n26003 cap26004), (8, .int .i64 x26009), (39, .slice sp26002 n26003 cap26004), (40, .int .i64 x26009), (42, .slice sp26002 n26003 cap26004), (43, .int .i64 x26009)]) (E' := []) (S' := [Hs26006]) 0 0 ⟨rfl, rfl, rfl, rfl, rfl, rfl, trivial⟩ rfl rfl (TE.td ((hdef37502 _ _ _ _).mp (hS27000_23)))
            exact EdgeOk.nil
          have hS27000_34 : T37501 7 [false, true, true, false, false, true, false, false, false, false] [(7, .slice sp26002 n26003 cap26004), (8, .int .i64 x26009), (39, .slice sp26002 n26003 cap26004), (40, .int .i64 x26009), (43, .int .i64 x26009)] ⟨[], [Hs26006]⟩ := by
            rw [hdef37502]
            refine TD.step [0, 3, 4] 0 rfl rfl rfl rfl rfl ?_
            refine EdgeOk.cons rfl ?_ ?_
            · refine TO.u rfl rfl (TX.move rfl rfl ?_)
              refine TO.nil ?_
              exact TE.to (L' := [(7, .slice sp26002 n26003 cap26004), (8, .int .i64 x26009), (38, .int .i64 x26009), (39, .slice sp26002 n26003 cap26004), (40, .int .i64 x26009), (43, .int .i64 x26009)]) (E' := []) (S' := [Hs26006]) 0 0 ⟨rfl, rfl, rfl, rfl, rfl, rfl, trivial⟩ rfl rfl (TE.td ((hdef37502 _ _ _ _).mp (hS27000_17)))
            refine EdgeOk.cons rfl ?_ ?_
            · refine TO.u rfl rfl (TX.slice (l := x26009) (h := ((x26001.length : Nat) : Int)) Try.runUnderlying49 Try.sizeOf51 rfl (.some rfl) (.len hn26005) ho26007.le_cap hk31501 rfl ?_)
              refine TO.nil ?_
              exact TE.to (L' := [(7, .slice sp26002 n26003 cap26004), (8, .int .i64 x26009), (39, .slice sp26002 n26003 cap26004), (40, .int .i64 x26009), (41, .slice (subP sp26002 S__2_int.E.sz cap26004 x26009.toNat) (((x26001.length : Nat) : Int).toNat - x26009.toNat) (cap26004 - x26009.toNat)), (43, .int .i64 x26009)]) (E' := []) (S' := [Hs26006]) 0 0 ⟨rfl, rfl, rfl, rfl, rfl, rfl, trivial⟩ rfl rfl (TE.td ((hdef37502 _ _ _ _).mp (hS27000_22)))
            refine EdgeOk.cons rfl ?_ ?_
            · refine TO.u rfl rfl (TX.move rfl rfl ?_)
              refine TO.nil ?_
              exact TE.to (L' := [(7, .slice sp26002 n26003 cap26004), (8, .int .i64 x26009), (39, .slice sp26002 n26003 cap26004), (40, .int .i64 x26009), (42, .slice sp26002 n26003 cap26004), (43, .int .i64 x26009)]) (E' := []) (S' := [Hs26006]) 0 0 ⟨rfl, rfl, rfl, rfl, rfl, rfl, trivial⟩ rfl rfl (TE.td ((hdef37502 _ _ _ _).mp (hS27000_23)))
            exact EdgeOk.nil
          have hS27000_35 : T37501 7 [false, true, false, false, true, true, false, false, false, false] [(7, .slice sp26002 n26003 cap26004), (8, .int .i64 x26009), (39, .slice sp26002 n26003 cap26004), (42, .slice sp26002 n26003 cap26004), (43, .int .i64 x26009)] ⟨[], [Hs26006]⟩ := by
            rw [hdef37502]
            refine TD.step [0, 2, 6] 0 rfl rfl rfl rfl rfl ?_
            refine EdgeOk.cons rfl ?_ ?_
            · refine TO.u rfl rfl (TX.move rfl rfl ?_)
              refine TO.nil ?_
              exact TE.to (L' := [(7, .slice sp26002 n26003 cap26004), (8, .int .i64 x26009), (38, .int .i64 x26009), (39, .slice sp26002 n26003 cap26004), (42, .slice sp26002 n26003 cap26004), (43, .int .i64 x26009)]) (E' := []) (S' := [Hs26006]) 0 0 ⟨rfl, rfl, rfl, rfl, rfl, rfl, trivial⟩ rfl rfl (TE.td ((hdef37502 _ _ _ _).mp (hS27000_18)))
            refine EdgeOk.cons rfl ?_ ?_
            · refine TO.u rfl rfl (TX.move rfl rfl ?_)
              refine TO.nil ?_
              exact TE.to (L' := [(7, .slice sp26002 n26003 cap26004), (8, .int .i64 x26009), (39, .slice sp26002 n26003 cap26004), (40, .int .i64 x26009), (42, .slice sp26002 n26003 cap26004), (43, .int .i64 x26009)]) (E' := []) (S' := [Hs26006]) 0 0 ⟨rfl, rfl, rfl, rfl, rfl, rfl, trivial⟩ rfl rfl (TE.td ((hdef37502 _ _ _ _).mp (hS27000_23)))
            refine EdgeOk.cons rfl ?_ ?_
            · refine TO.u rfl rfl (TX.slice (l := ((0 : Nat) : Int)) (h := x26009) Try.runUnderlying49 Try.sizeOf51 rfl .none (.some rfl) ho26007.le_cap hk34501 rfl ?_)
              refine TO.nil ?_
              exact TE.to (L' := [(7, .slice sp26002 n26003 cap26004), (8, .int .i64 x26009), (39, .slice sp26002 n26003 cap26004), (42, .slice sp26002 n26003 cap26004), (43, .int .i64 x26009), (44, .slice (subP sp26002 S__2_int.E.sz cap26004 ((0 : Nat) : Int).toNat) (x26009.toNat - ((0 : Nat) : Int).toNat) (cap26004 - ((0 : Nat) : Int).toNat))]) (E' := []) (S' := [Hs26006]) 0 0 ⟨rfl, rfl, rfl, rfl, rfl, rfl, trivial⟩ rfl rfl (TE.td ((hdef37502 _ _ _ _).mp (hS27000_24)))
            exact EdgeOk.nil
          have hS27000_36 : T37501 7 [false, false, true, false, true, true, false, false, false, false] [(7, .slice sp26002 n26003 cap26004), (8, .int .i64 x26009), (40, .int .i64 x26009), (42, .slice sp26002 n26003 cap26004), (43, .int .i64 x26009)] ⟨[], [Hs26006]⟩ := by
            rw [hdef37502]
            refine TD.step [0, 1, 6] 0 rfl rfl rfl rfl rfl ?_
            refine EdgeOk.cons rfl ?_ ?_
            · refine TO.u rfl rfl (TX.move rfl rfl ?_)
              refine TO.nil ?_
              exact TE.to (L' := [(7, .slice sp26002 n26003 cap26004), (8, .int .i64 x26009), (38, .int .i64 x26009), (40, .int .i64 x26009), (42, .slice sp26002 n26003 cap26004), (43, .int .i64 x26009)]) (E' := []) (S' := [Hs26006]) 0 0 ⟨rfl, rfl, rfl, rfl, rfl, rfl, trivial⟩ rfl rfl (TE.td ((hdef37502 _ _ _ _).mp (hS27000_19)))
            refine EdgeOk.cons rfl ?_ ?_
            · refine TO.u rfl rfl (TX.move rfl rfl ?_)
              refine TO.nil ?_
              exact TE.to (L' := [(7, .slice sp26002 n26003 cap26004), (8, .int .i64 x26009), (39, .slice sp26002 n26003 cap26004), (40, .int .i64 x26009), (42, .slice sp26002 n26003 cap26004), (43, .int .i64 x26009)]) (E' := []) (S' := [Hs26006]) 0 0 ⟨rfl, rfl, rfl, rfl, rfl, rfl, trivial⟩ rfl rfl (TE.td ((hdef37502 _ _ _ _).mp (hS27000_23)))
            refine EdgeOk.cons rfl ?_ ?_
            · refine TO.u rfl rfl (TX.slice (l := ((0 : Nat) : Int)) (h := x26009) Try.runUnderlying49 Try.sizeOf51 rfl .none (.some rfl) ho26007.le_cap hk34501 rfl ?_)
              refine TO.nil ?_
              exact TE.to (L' := [(7, .slice sp26002 n26003 cap26004), (8, .int .i64 x26009), (40, .int .i64 x26009), (42, .slice sp26002 n26003 cap26004), (43, .int .i64 x26009), (44, .slice (subP sp26002 S__2_int.E.sz cap26004 ((0 : Nat) : Int).toNat) (x26009.toNat - ((0 : Nat) : Int).toNat) (cap26004 - ((0 : Nat) : Int).toNat))]) (E' := []) (S' := [Hs26006]) 0 0 ⟨rfl, rfl, rfl, rfl, rfl, rfl, trivial⟩ rfl rfl (TE.td ((hdef37502 _ _ _ _).mp (hS27000_25)))
            exact EdgeOk.nil
          have hS27000_37 : T37501 7 [false, false, false, false, true, true, true, false, false, false] [(7, .slice sp26002 n26003 cap26004), (8, .int .i64 x26009), (42, .slice sp26002 n26003 cap26004), (43, .int .i64 x26009), (44, .slice (subP sp26002 S__2_int.E.sz cap26004 ((0 : Nat) : Int).toNat) (x26009.toNat - ((0 : Nat) : Int).toNat) (cap26004 - ((0 : Nat) : Int).toNat))] ⟨[], [Hs26006]⟩ := by
            rw [hdef37502]
            refine TD.step [0, 1, 2] 0 rfl rfl rfl rfl rfl ?_
            refine EdgeOk.cons rfl ?_ ?_
            · refine TO.u rfl rfl (TX.move rfl rfl ?_)
              refine TO.nil ?_
              exact TE.to (L' := [(7, .slice sp26002 n26003 cap26004), (8, .int .i64 x26009), (38, .int .i64 x26009), (42, .slice sp26002 n26003 cap26004), (43, .int .i64 x26009), (44, .slice (subP sp26002 S__2_int.E.sz cap26004 ((0 : Nat) : Int).toNat) (x26009.toNat - ((0 : Nat) : Int).toNat) (cap26004 - ((0 : Nat) : Int).toNat))]) (E' := []) (S' := [Hs26006]) 0 0 ⟨rfl, rfl, rfl, rfl, rfl, rfl, trivial⟩ rfl rfl (TE.td ((hdef37502 _ _ _ _).mp (hS27000_20)))
            refine EdgeOk.cons rfl ?_ ?_
            · refine TO.u rfl rfl (TX.move rfl rfl ?_)
              refine TO.nil ?_
              exact TE.to (L' := [(7, .slice sp26002 n26003 cap26004), (8, .int .i64 x26009), (39, .slice sp26002 n26003 cap26004), (42, .slice sp26002 n26003 cap26004), (43, .int .i64 x26009), (44, .slice (subP sp26002 S__2_int.E.sz cap26004 ((0 : Nat) : Int).toNat) (x26009.toNat - ((0 : Nat) : Int).toNat) (cap26004 - ((0 : Nat) : Int).toNat))]) (E' := []) (S' := [Hs26006]) 0 0 ⟨rfl, rfl, rfl, rfl, rfl, rfl, trivial⟩ rfl rfl (TE.td ((hdef37502 _ _ _ _).mp (hS27000_24)))
            refine EdgeOk.cons rfl ?_ ?_
            · refine TO.u rfl rfl (TX.move rfl rfl ?_)
              refine TO.nil ?_
              exact TE.to (L' := [(7, .slice sp26002 n26003 cap26004), (8, .int .i64 x26009), (40, .int .i64 x26009), (42, .slice sp26002 n26003 cap26004), (43, .int .i64 x26009), (44, .slice (subP sp26002 S__2_int.E.sz cap26004 ((0 : Nat) : Int).toNat) (x26009.toNat - ((0 : Nat) : Int).toNat) (cap26004 - ((0 : Nat) : Int).toNat))]) (E' := []) (S' := [Hs26006]) 0 0 ⟨rfl, rfl, rfl, rfl, rfl, rfl, trivial⟩ rfl rfl (TE.td ((hdef37502 _ _ _ _).mp (hS27000_25)))
            exact EdgeOk.nil
          have hS27000_38 : T37501 8 [true, true, false, false, false, false, false, false, false, false] [(7, .slice sp26002 n26003 cap26004), (8, .int .i64 x26009), (38, .int .i64 x26009), (39, .slice sp26002 n26003 cap26004)] ⟨[], [Hs26006]⟩ := by
            rw [hdef37502]
            refine TD.step [2, 4, 5] 2 rfl rfl rfl rfl rfl ?_
            refine EdgeOk.cons rfl ?_ ?_
            · refine TO.u rfl rfl (TX.move rfl rfl ?_)
              refine TO.nil ?_
              exact TE.to (L' := [(7, .slice sp26002 n26003 cap26004), (8, .int .i64 x26009), (38, .int .i64 x26009), (39, .slice sp26002 n26003 cap26004), (40, .int .i64 x26009)]) (E' := []) (S' := [Hs26006]) 0 0 ⟨rfl, rfl, rfl, rfl, rfl, trivial⟩ rfl rfl (TE.td ((hdef37502 _ _ _ _).mp (hS27000_26)))
            refine EdgeOk.cons rfl ?_ ?_
            · refine TO.u rfl rfl (TX.move rfl rfl ?_)
              refine TO.nil ?_
              exact TE.to (L' := [(7, .slice sp26002 n26003 cap26004), (8, .int .i64 x26009), (38, .int .i64 x26009), (39, .slice sp26002 n26003 cap26004), (42, .slice sp26002 n26003 cap26004)]) (E' := []) (S' := [Hs26006]) 0 0 ⟨rfl, rfl, rfl, rfl, rfl, trivial⟩ rfl rfl (TE.td ((hdef37502 _ _ _ _).mp (hS27000_27)))
            refine EdgeOk.cons rfl ?_ ?_
            · refine TO.u rfl rfl (TX.move rfl rfl ?_)
              refine TO.nil ?_
              exact TE.to (L' := [(7, .slice sp26002 n26003 cap26004), (8, .int .i64 x26009), (38, .int .i64 x26009), (39, .slice sp26002 n26003 cap26004), (43, .int .i64 x26009)]) (E' := []) (S' := [Hs26006]) 0 0 ⟨rfl, rfl, rfl, rfl, rfl, trivial⟩ rfl rfl (TE.td ((hdef37502 _ _ _ _).mp (hS27000_28)))
            exact EdgeOk.nil
          have hS27000_39 : T37501 8 [true, false, true, false, false, false, false, false, false, false] [(7, .slice sp26002 n26003 cap26004), (8, .int .i64 x26009), (38, .int .i64 x26009), (40, .int .i64 x26009)] ⟨[], [Hs26006]⟩ := by
            rw [hdef37502]
            refine TD.step [1, 4, 5] 1 rfl rfl rfl rfl rfl ?_
            refine EdgeOk.cons rfl ?_ ?_
            · refine TO.u rfl rfl (TX.move rfl rfl ?_)
              refine TO.nil ?_
              exact TE.to (L' := [(7, .slice sp26002 n26003 cap26004), (8, .int .i64 x26009), (38, .int .i64 x26009), (39, .slice sp26002 n26003 cap26004), (40, .int .i64 x26009)]) (E' := []) (S' := [Hs26006]) 0 0 ⟨rfl, rfl, rfl, rfl, rfl, trivial⟩ rfl rfl (TE.td ((hdef37502 _ _ _ _).mp (hS27000_26)))
            refine EdgeOk.cons rfl ?_ ?_
            · refine TO.u rfl rfl (TX.move rfl rfl ?_)
              refine TO.nil ?_
              exact TE.to (L' := [(7, .slice sp26002 n26003 cap26004), (8, .int .i64 x26009), (38, .int .i64 x26009), (40, .int .i64 x26009), (42, .slice sp26002 n26003 cap26004)]) (E' := []) (S' := [Hs26006]) 0 0 ⟨rfl, rfl, rfl, rfl, rfl, trivial⟩ rfl rfl (TE.td ((hdef37502 _ _ _ _).mp (hS27000_29)))
            refine EdgeOk.cons rfl ?_ ?_
            · refine TO.u rfl rfl (TX.move rfl rfl ?_)
              refine TO.nil ?_
              exact TE.to (L' := [(7, .slice sp26002 n26003 cap26004), (8, .int .i64 x26009), (38, .int .i64 x26009), (40, .int .i64 x26009), (43, .int .i64 x26009)]) (E' := []) (S' := [Hs26006]) 0 0 ⟨rfl, rfl, rfl, rfl, rfl, trivial⟩ rfl rfl (TE.td ((hdef37502 _ _ _ _).mp (hS27000_30)))
            exact EdgeOk.nil
          have hS27000_40 : T37501 8 [true, false, false, false, true, false, false, false, false, false] [(7, .slice sp26002 n26003 cap26004), (8, .int .i64 x26009), (38, .int .i64 x26009), (42, .slice sp26002 n26003 cap26004)] ⟨[], [Hs26006]⟩ := by
            rw [hdef37502]
            refine TD.step [1, 2, 5] 1 rfl rfl rfl rfl rfl ?_
            refine EdgeOk.cons rfl ?_ ?_
            · refine TO.u rfl rfl (TX.move rfl rfl ?_)
              refine TO.nil ?_
              exact TE.to (L' := [(7, .slice sp26002 n26003 cap26004), (8, .int .i64 x26009), (38, .int .i64 x26009), (39, .slice sp26002 n26003 cap26004), (42, .slice sp26002 n26003 cap26004)]) (E' := []) (S' := [Hs26006]) 0 0 ⟨rfl, rfl, rfl, rfl, rfl, trivial⟩ rfl rfl (TE.td ((hdef37502 _ _ _ _).mp (hS27000_27)))
            refine EdgeOk.cons rfl ?_ ?_
            · refine TO.u rfl rfl (TX.move rfl rfl ?_)
              refine TO.nil ?_
              exact TE.to (L' := [(7, .slice sp26002 n26003 cap26004), (8, .int .i64 x26009), (38, .int .i64 x26009), (40, .int .i64 x26009), (42, .slice sp26002 n26003 cap26004)]) (E' := []) (S' := [Hs26006]) 0 0 ⟨rfl, rfl, rfl, rfl, rfl, trivial⟩ rfl rfl (TE.td ((hdef37502 _ _ _ _).mp (hS27000_29)))
            refine EdgeOk.cons rfl ?_ ?_
            · refine TO.u rfl rfl (TX.move rfl rfl ?_)
              refine TO.nil ?_
              exact TE.to (L' := [(7, .slice sp26002 n26003 cap26004), (8, .int .i64 x26009), (38, .int .i64 x26009), (42, .slice sp26002 n26003 cap26004), (43, .int .i64 x26009)]) (E' := []) (S' := [Hs26006]) 0 0 ⟨rfl, rfl, rfl, rfl, rfl, trivial⟩ rfl rfl (TE.td ((hdef37502 _ _ _ _).mp (hS27000_31)))
            exact EdgeOk.nil
          have hS27000_41 : T37501 8 [true, false, false, false, false, true, false, false, false, false] [(7, .slice sp26002 n26003 cap26004), (8, .int .i64 x26009), (38, .int .i64 x26009), (43, .int .i64 x26009)] ⟨[], [Hs26006]⟩ := by
            rw [hdef37502]
            refine TD.step [1, 2, 4] 1 rfl rfl rfl rfl rfl ?_
            refine EdgeOk.cons rfl ?_ ?_
            · refine TO.u rfl rfl (TX.move rfl rfl ?_)
              refine TO.nil ?_
              exact TE.to (L' := [(7, .slice sp26002 n26003 cap26004), (8, .int .i64 x26009), (38, .int .i64 x26009), (39, .slice sp26002 n26003 cap26004), (43, .int .i64 x26009)]) (E' := []) (S' := [Hs26006]) 0 0 ⟨rfl, rfl, rfl, rfl, rfl, trivial⟩ rfl rfl (TE.td ((hdef37502 _ _ _ _).mp (hS27000_28)))
            refine EdgeOk.cons rfl ?_ ?_
            · refine TO.u rfl rfl (TX.move rfl rfl ?_)
              refine TO.nil ?_
              exact TE.to (L' := [(7, .slice sp26002 n26003 cap26004), (8, .int .i64 x26009), (38, .int .i64 x26009), (40, .int .i64 x26009), (43, .int .i64 x26009)]) (E' := []) (S' := [Hs26006]) 0 0 ⟨rfl, rfl, rfl, rfl, rfl, trivial⟩ rfl rfl (TE.td ((hdef37502 _ _ _ _).mp (hS27000_30)))
            refine EdgeOk.cons rfl ?_ ?_
            · refine TO.u rfl rfl (TX.move rfl rfl ?_)
              refine TO.nil ?_
              exact TE.to (L' := [(7, .slice sp26002 n26003 cap26004), (8, .int .i64 x26009), (38, .int .i64 x26009), (42, .slice sp26002 n26003 cap26004), (43, .int .i64 x26009)]) (E' := []) (S' := [Hs26006]) 0 0 ⟨rfl, rfl, rfl, rfl, rfl, trivial⟩ rfl rfl (TE.td ((hdef37502 _ _ _ _).mp (hS27000_31)))
            exact EdgeOk.nil
          have hS27000_42 : T37501 8 [false, true, true, false, false, false, false, false, false, false] [(7, .slice sp26002 n26003 cap26004), (8, .int .i64 x26009), (39, .slice sp26002 n26003 cap26004), (40, .int .i64 x26009)] ⟨[], [Hs26006]⟩ := by
            rw [hdef37502]
            refine TD.step [0, 3, 4, 5] 0 rfl rfl rfl rfl rfl ?_
            refine EdgeOk.cons rfl ?_ ?_
            · refine TO.u rfl rfl (TX.move rfl rfl ?_)
              refine TO.nil ?_
              exact TE.to (L' := [(7, .slice sp26002 n26003 cap26004), (8, .int .i64 x26009), (38, .int .i64 x26009), (39, .slice sp26002 n26003 cap26004), (40, .int .i64 x26009)]) (E' := []) (S' := [Hs26006]) 0 0 ⟨rfl, rfl, rfl, rfl, rfl, trivial⟩ rfl rfl (TE.td ((hdef37502 _ _ _ _).mp (hS27000_26)))
            refine EdgeOk.cons rfl ?_ ?_
            · refine TO.u rfl rfl (TX.slice (l := x26009) (h := ((x26001.length : Nat) : Int)) Try.runUnderlying49 Try.sizeOf51 rfl (.some rfl) (.len hn26005) ho26007.le_cap hk31501 rfl ?_)
              refine TO.nil ?_
              exact TE.to (L' := [(7, .slice sp26002 n26003 cap26004), (8, .int .i64 x26009), (39, .slice sp26002 n26003 cap26004), (40, .int .i64 x26009), (41, .slice (subP sp26002 S__2_int.E.sz cap26004 x26009.toNat) (((x26001.length : Nat) : Int).toNat - x26009.toNat) (cap26004 - x26009.toNat))]) (E' := []) (S' := [Hs26006]) 0 0 ⟨rfl, rfl, rfl, rfl, rfl, trivial⟩ rfl rfl (TE.td ((hdef37502 _ _ _ _).mp (hS27000_32)))
            refine EdgeOk.cons rfl ?_ ?_
            · refine TO.u rfl rfl (TX.move rfl rfl ?_)
              refine TO.nil ?_
              exact TE.to (L' := [(7, .slice sp26002 n26003 cap26004), (8, .int .i64 x26009), (39, .slice sp26002 n26003 cap26004), (40, .int .i64 x26009), (42, .slice sp26002 n26003 cap26004)]) (E' := []) (S' := [Hs26006]) 0 0 ⟨rfl, rfl, rfl, rfl, rfl, trivial⟩ rfl rfl (TE.td ((hdef37502 _ _ _ _).mp (hS27000_33)))
            refine EdgeOk.cons rfl ?_ ?_
            · refine TO.u rfl rfl (TX.move rfl rfl ?_)
              refine TO.nil ?_
              exact TE.to (L' := [(7, .slice sp26002 n26003 cap26004), (8, .int .i64 x26009), (39, .slice sp26002 n26003 cap26004), (40, .int .i64 x26009), (43, .int .i64 x26009)]) (E' := []) (S' := [Hs26006]) 0 0 ⟨rfl, rfl, rfl, rfl, rfl, trivial⟩ rfl rfl (TE.td ((hdef37502 _ _ _ _).mp (hS27000_34)))
            exact EdgeOk.nil
          have hS27000_43 : T37501 8 [false, true, false, false, true, false, false, false, false, false] [(7, .slice sp26002 n26003 cap26004), (8, .int .i64 x26009), (39, .slice sp26002 n26003 cap26004), (42, .slice sp26002 n26003 cap26004)] ⟨[], [Hs26006]⟩ := by
            rw [hdef37502]
            refine TD.step [0, 2, 5] 0 rfl rfl rfl rfl rfl ?_
            refine EdgeOk.cons rfl ?_ ?_
            · refine TO.u rfl rfl (TX.move rfl rfl ?_)
              refine TO.nil ?_
              exact TE.to (L' := [(7, .slice sp26002 n26003 cap26004), (8, .int .i64 x26009), (38, .int .i64 x26009), (39, .slice sp26002 n26003 cap26004), (42, .slice sp26002 n26003 cap26004)]) (E' := []) (S' := [Hs26006]) 0 0 ⟨rfl, rfl, rfl, rfl, rfl, trivial⟩ rfl rfl (TE.td ((hdef37502 _ _ _ _).mp (hS27000_27)))
            refine EdgeOk.cons rfl ?_ ?_
            · refine TO.u rfl rfl (TX.move rfl rfl ?_)
              refine TO.nil ?_
              exact TE.to (L' := [(7, .slice sp26002 n26003 cap26004), (8, .int .i64 x26009), (39, .slice sp26002 n26003 cap26004), (40, .int .i64 x26009), (42, .slice sp26002 n26003 cap26004)]) (E' := []) (S' := [Hs26006]) 0 0 ⟨rfl, rfl, rfl, rfl, rfl, trivial⟩ rfl rfl (TE.td ((hdef37502 _ _ _ _).mp (hS27000_33)))
            refine EdgeOk.cons rfl ?_ ?_
            · refine TO.u rfl rfl (TX.move rfl rfl ?_)
              refine TO.nil ?_
              exact TE.to (L' := [(7, .slice sp26002 n26003 cap26004), (8, .int .i64 x26009), (39, .slice sp26002 n26003 cap26004), (42, .slice sp26002 n26003 cap26004), (43, .int .i64 x26009)]) (E' := []) (S' := [Hs26006]) 0 0 ⟨rfl, rfl, rfl, rfl, rfl, trivial⟩ rfl rfl (TE.td ((hdef37502 _ _ _ _).mp (hS27000_35)))
            exact EdgeOk.nil
          have hS27000_44 : T37501 8 [false, true, false, false, false, true, false, false, false, false] [(7, .slice sp26002 n26003 cap26004), (8, .int .i64 x26009), (39, .slice sp26002 n26003 cap26004), (43, .int .i64 x26009)] ⟨[], [Hs26006]⟩ := by
            rw [hdef37502]
            refine TD.step [0, 2, 4] 0 rfl rfl rfl rfl rfl ?_
            refine EdgeOk.cons rfl ?_ ?_
            · refine TO.u rfl rfl (TX.move rfl rfl ?_)
              refine TO.nil ?_
              exact TE.to (L' := [(7, .slice sp26002 n26003 cap26004), (8, .int .i64 x26009), (38, .int .i64 x26009), (39, .slice sp26002 n26003 cap26004), (43, .int .i64 x26009)]) (E' := []) (S' := [Hs26006]) 0 0 ⟨rfl, rfl, rfl, rfl, rfl, trivial⟩ rfl rfl (TE.td ((hdef37502 _ _ _ _).mp (hS27000_28)))
            refine EdgeOk.cons rfl ?_ ?_
            · refine TO.u rfl rfl (TX.move rfl rfl ?_)
              refine TO.nil ?_
              exact TE.to (L' := [(7, .slice sp26002 n26003 cap26004), (8, .int .i64 x26009), (39, .slice sp26002 n26003 cap26004), (40, .int .i64 x26009), (43, .int .i64 x26009)]) (E' := []) (S' := [Hs26006]) 0 0 ⟨rfl, rfl, rfl, rfl, rfl, trivial⟩ rfl rfl (TE.td ((hdef37502 _ _ _ _).mp (hS27000_34)))
            refine EdgeOk.cons rfl ?_ ?_
            · refine TO.u rfl rfl (TX.move rfl rfl ?_)
              refine TO.nil ?_
              exact TE.to (L' := [(7, .slice sp26002 n26003 cap26004), (8, .int .i64 x26009), (39, .slice sp26002 n26003 cap26004), (42, .slice sp26002 n26003 cap26004), (43, .int .i64 x26009)]) (E' := []) (S' := [Hs26006]) 0 0 ⟨rfl, rfl, rfl, rfl, rfl, trivial⟩ rfl rfl (TE.td ((hdef37502 _ _ _ _).mp (hS27000_35)))
            exact EdgeOk.nil
          have hS27000_45 : T37501 8 [false, false, true, false, true, false, false, false, false, false] [(7, .slice sp26002 n26003 cap26004), (8, .int .i64 x26009), (40, .int .i64 x26009), (42, .slice sp26002 n26003 cap26004)] ⟨[], [Hs26006]⟩ := by
            rw [hdef37502]
            refine TD.step [0, 1, 5] 0 rfl rfl rfl rfl rfl ?_
            refine EdgeOk.cons rfl ?_ ?_
            · refine TO.u rfl rfl (TX.move rfl rfl ?_)
              refine TO.nil ?_
              exact TE.to (L' := [(7, .slice sp26002 n26003 cap26004), (8, .int .i64 x26009), (38, .int .i64 x26009), (40, .int .i64 x26009), (42, .slice sp26002 n26003 cap26004)]) (E' := []) (S' := [Hs26006]) 0 0 ⟨rfl, rfl, rfl, rfl, rfl, trivial⟩ rfl rfl (TE.td ((hdef37502 _ _ _ _).mp (hS27000_29)))
            refine EdgeOk.cons rfl ?_ ?_
            · refine TO.u rfl rfl (TX.move rfl rfl ?_)
              refine TO.nil ?_
              exact TE.to (L' := [(7, .slice sp26002 n26003 cap26004), (8, .int .i64 x26009), (39, .slice sp26002 n26003 cap26004), (40, .int .i64 x26009), (42, .slice sp26002 n26003 cap26004)]) (E' := []) (S' := [Hs26006]) 0 0 ⟨rfl, rfl, rfl, rfl, rfl, trivial⟩ rfl rfl (TE.td ((hdef37502 _ _ _ _).mp (hS27000_33)))
            refine EdgeOk.cons rfl ?_ ?_
            · refine TO.u rfl rfl (TX.move rfl rfl ?_)
              refine TO.nil ?_
              exact TE.to (L' := [(7, .slice sp26002 n26003 cap26004), (8, .int .i64 x26009), (40, .int .i64 x26009), (42, .slice sp26002 n26003 cap26004), (43, .int .i64 x26009)]) (E' := []) (S' := [Hs26006]) 0 0 ⟨rfl, rfl, rfl, rfl, rfl, trivial⟩ rfl rfl (TE.td ((hdef37502 _ _ _ _).mp (hS27000_36)))
            exact EdgeOk.nil
          have hS27000_46 : T37501 8 [false, false, true, false, false, true, false, false, false, false] [(7, .slice sp26002 n26003 cap26004), (8, .int .i64 x26009), (40, .int .i64 x26009), (43, .int .i64 x26009)] ⟨[], [Hs26006]⟩ := by
            rw [hdef37502]
            refine TD.step [0, 1, 4] 0 rfl rfl rfl rfl rfl ?_
            refine EdgeOk.cons rfl ?_ ?_
            · refine TO.u rfl rfl (TX.move rfl rfl ?_)
              refine TO.nil ?_
              exact TE.to (L' := [(7, .slice sp26002 n26003 cap26004), (8, .int .i64 x26009), (38, .int .i64 x26009), (40, .int .i64 x26009), (43, .int .i64 x26009)]) (E' := []) (S' := [Hs26006]) 0 0 ⟨rfl, rfl, rfl, rfl, rfl, trivial⟩ rfl rfl (TE.td ((hdef37502 _ _ _ _).mp (hS27000_30)))
            refine EdgeOk.cons rfl ?_ ?_
            · refine TO.u rfl rfl (TX.move rfl rfl ?_)
              refine TO.nil ?_
              exact TE.to (L' := [(7, .slice sp26002 n26003 cap26004), (8, .int .i64 x26009), (39, .slice sp26002 n26003 cap26004), (40, .int .i64 x26009), (43, .int .i64 x26009)]) (E' := []) (S' := [Hs26006]) 0 0 ⟨rfl, rfl, rfl, rfl, rfl, trivial⟩ rfl rfl (TE.td ((hdef37502 _ _ _ _).mp (hS27000_34)))
            refine EdgeOk.cons rfl ?_ ?_
            · refine TO.u rfl rfl (TX.move rfl rfl ?_)
              refine TO.nil ?_
              exact TE.to (L' := [(7, .slice sp26002 n26003 cap26004), (8, .int .i64 x26009), (40, .int .i64 x26009), (42, .slice sp26002 n26003 cap26004), (43, .int .i64 x26009)]) (E' := []) (S' := [Hs26006]) 0 0 ⟨rfl, rfl, rfl, rfl, rfl, trivial⟩ rfl rfl (TE.td ((hdef37502 _ _ _ _).mp (hS27000_36)))
            exact EdgeOk.nil
          have hS27000_47 : T37501 8 [false, false, false, false, true, true, false, false, false, false] [(7, .slice sp26002 n26003 cap26004), (8, .int .i64 x26009), (42, .slice sp26002 n26003 cap26004), (43, .int .i64 x26009)] ⟨[], [Hs26006]⟩ := by
            rw [hdef37502]
            refine TD.step [0, 1, 2, 6] 0 rfl rfl rfl rfl rfl ?_
            refine EdgeOk.cons rfl ?_ ?_
            · refine TO.u rfl rfl (TX.move rfl rfl ?_)
              refine TO.nil ?_
              exact TE.to (L' := [(7, .slice sp26002 n26003 cap26004), (8, .int .i64 x26009), (38, .int .i64 x26009), (42, .slice sp26002 n26003 cap26004), (43, .int .i64 x26009)]) (E' := []) (S' := [Hs26006]) 0 0 ⟨rfl, rfl, rfl, rfl, rfl, trivial⟩ rfl rfl (TE.td ((hdef37502 _ _ _ _).mp (hS27000_31)))
            refine EdgeOk.cons rfl ?_ ?_
            · refine TO.u rfl rfl (TX.move rfl rfl ?_)
              refine TO.nil ?_
              exact TE.to (L' := [(7, .slice sp26002 n26003 cap26004), (8, .int .i64 x26009), (39, .slice sp26002 n26003 cap26004), (42, .slice sp26002 n26003 cap26004), (43, .int .i64 x26009)]) (E' := []) (S' := [Hs26006]) 0 0 ⟨rfl, rfl, rfl, rfl, rfl, trivial⟩ rfl rfl (TE.td ((hdef37502 _ _ _ _).mp (hS27000_35)))
            refine EdgeOk.cons rfl ?_ ?_
            · refine TO.u rfl rfl (TX.move rfl rfl ?_)
              refine TO.nil ?_
              exact TE.to (L' := [(7, .slice sp26002 n26003 cap26004), (8, .int .i64 x26009), (40, .int .i64 x26009), (42, .slice sp26002 n26003 cap26004), (43, .int .i64 x26009)]) (E' := []) (S' := [Hs26006]) 0 0 ⟨rfl, rfl, rfl, rfl, rfl, trivial⟩ rfl rfl (TE.td ((hdef37502 _ _ _ _).mp (hS27000_36)))
            refine EdgeOk.cons rfl ?_ ?_
            · refine TO.u rfl rfl (TX.slice (l := ((0 : Nat) : Int)) (h := x26009) Try.runUnderlying49 Try.sizeOf51 rfl .none (.some rfl) ho26007.le_cap hk34501 rfl ?_)
              refine TO.nil ?_
              exact TE.to (L' := [(7, .slice sp26002 n26003 cap26004), (8, .int .i64 x26009), (42, .slice sp26002 n26003 cap26004), (43, .int .i64 x26009), (44, .slice (subP sp26002 S__2_int.E.sz cap26004 ((0 : Nat) : Int).toNat) (x26009.toNat - ((0 : Nat) : Int).toNat) (cap26004 - ((0 : Nat) : Int).toNat))]) (E' := []) (S' := [Hs26006]) 0 0 ⟨rfl, rfl, rfl, rfl, rfl, trivial⟩ rfl rfl (TE.td ((hdef37502 _ _ _ _).mp (hS27000_37)))
            exact EdgeOk.nil
          have hS27000_48 : T37501 9 [true, false, false, false, false, false, false, false, false, false] [(7, .slice sp26002 n26003 cap26004), (8, .int .i64 x26009), (38, .int .i64 x26009)] ⟨[], [Hs26006]⟩ := by
            rw [hdef37502]
            refine TD.step [1, 2, 4, 5] 1 rfl rfl rfl rfl rfl ?_
            refine EdgeOk.cons rfl ?_ ?_
            · refine TO.u rfl rfl (TX.move rfl rfl ?_)
              refine TO.nil ?_
              exact TE.to (L' := [(7, .slice sp26002 n26003 cap26004), (8, .int .i64 x26009), (38, .int .i64 x26009), (39, .slice sp26002 n26003 cap26004)]) (E' := []) (S' := [Hs26006]) 0 0 ⟨rfl, rfl, rfl, rfl, trivial⟩ rfl rfl (TE.td ((hdef37502 _ _ _ _).mp (hS27000_38)))
            refine EdgeOk.cons rfl ?_ ?_
            · refine TO.u rfl rfl (TX.move rfl rfl ?_)
              refine TO.nil ?_
              exact TE.to (L' := [(7, .slice sp26002 n26003 cap26004), (8, .int .i64 x26009), (38, .int .i64 x26009), (40, .int .i64 x26009)]) (E' := []) (S' := [Hs26006]) 0 0 ⟨rfl, rfl, rfl, rfl, trivial⟩ rfl rfl (TE.td ((hdef37502 _ _ _ _).mp (hS27000_39)))
            refine EdgeOk.cons rfl ?_ ?_
            · refine TO.u rfl rfl (TX.move rfl rfl ?_)
              refine TO.nil ?_
              exact TE.to (L' := [(7, .slice sp26002 n26003 cap26004), (8, .int .i64 x26009), (38, .int .i64 x26009), (42, .slice sp26002 n26003 cap26004)]) (E' := []) (S' := [Hs26006]) 0 0 ⟨rfl, rfl, rfl, rfl, trivial⟩ rfl rfl (TE.td ((hdef37502 _ _ _ _).mp (hS27000_40)))
            refine EdgeOk.cons rfl ?_ ?_
            · refine TO.u rfl rfl (TX.move rfl rfl ?_)
              refine TO.nil ?_
              exact TE.to (L' := [(7, .slice sp26002 n26003 cap26004), (8, .int .i64 x26009), (38, .int .i64 x26009), (43, .int .i64 x26009)]) (E' := []) (S' := [Hs26006]) 0 0 ⟨rfl, rfl, rfl, rfl, trivial⟩ rfl rfl (TE.td ((hdef37502 _ _ _ _).mp (hS27000_41)))
            exact EdgeOk.nil
          have hS27000_49 : T37501 9 [false, true, false, false, false, false, false, false, false, false] [(7, .slice sp26002 n26003 cap26004), (8, .int .i64 x26009), (39, .slice sp26002 n26003 cap26004)] ⟨[], [Hs26006]⟩ := by
            rw [hdef37502]
            refine TD.step [0, 2, 4, 5] 0 rfl rfl rfl rfl rfl ?_
            refine EdgeOk.cons rfl ?_ ?_
            · refine TO.u rfl rfl (TX.move rfl rfl ?_)
              refine TO.nil ?_
              exact TE.to (L' := [(7, .slice sp26002 n26003 cap26004), (8, .int .i64 x26009), (38, .int .i64 x26009), (39, .slice sp26002 n26003 cap26004)]) (E' := []) (S' := [Hs26006]) 0 0 ⟨rfl, rfl, rfl, rfl, trivial⟩ rfl rfl (TE.td ((hdef37502 _ _ _ _).mp (hS27000_38)))
            refine EdgeOk.cons rfl ?_ ?_
            · refine TO.u rfl rfl (TX.move rfl rfl ?_)
              refine TO.nil ?_
              exact TE.to (L' := [(7, .slice sp26002 n26003 cap26004), (8, .int .i64 x26009), (39, .slice sp26002 n26003 cap26004), (40, .int .i64 x26009)]) (E' := []) (S' := [Hs26006]) 0 0 ⟨rfl, rfl, rfl, rfl, trivial⟩ rfl rfl (TE.td ((hdef37502 _ _ _ _).mp (hS27000_42)))
            refine EdgeOk.cons rfl ?_ ?_
            · refine TO.u rfl rfl (TX.move rfl rfl ?_)
              refine TO.nil ?_
              exact TE.to (L' := [(7, .slice sp26002 n26003 cap26004), (8, .int .i64 x26009), (39, .slice sp26002 n26003 cap26004), (42, .slice sp26002 n26003 cap26004)]) (E' := []) (S' := [Hs26006]) 0 0 ⟨rfl, rfl, rfl, rfl, trivial⟩ rfl rfl (TE.td ((hdef37502 _ _ _ _).mp (hS27000_43)))
            refine EdgeOk.cons rfl ?_ ?_
            · refine TO.u rfl rfl (TX.move rfl rfl ?_)
              refine TO.nil ?_
              exact TE.to (L' := [(7, .slice sp26002 n26003 cap26004), (8, .int .i64 x26009), (39, .slice sp26002 n26003 cap26004), (43, .int .i64 x26009)]) (E' := []) (S' := [Hs26006]) 0 0 ⟨rfl, rfl, rfl, rfl, trivial⟩ rfl rfl (TE.td ((hdef37502 _ _ _ _).mp (hS27000_44)))
            exact EdgeOk.nil
          have hS27000_50 : T37501 9 [false, false, true, false, false, false, false, false, false, false] [(7, .slice sp26002 n26003 cap26004), (8, .int .i64 x26009), (40, .int .i64 x26009)] ⟨[], [Hs26006]⟩ := by
            rw [hdef37502]
            refine TD.step [0, 1, 4, 5] 0 rfl rfl rfl rfl rfl ?_
            refine EdgeOk.cons rfl ?_ ?_
            · refine TO.u rfl rfl (TX.move rfl rfl ?_)
              refine TO.nil ?_
              exact TE.to (L' := [(7, .slice sp26002 n26003 cap26004), (8, .int .i64 x26009), (38, .int .i64 x26009), (40, .int .i64 x26009)]) (E' := []) (S' := [Hs26006]) 0 0 ⟨rfl, rfl, rfl, rfl, trivial⟩ rfl rfl (TE.td ((hdef37502 _ _ _ _).mp (hS27000_39)))
            refine EdgeOk.cons rfl ?_ ?_
            · refine TO.u rfl rfl (TX.move rfl rfl ?_)
              refine TO.nil ?_
              exact TE.to (L' := [(7, .slice sp26002 n26003 cap26004), (8, .int .i64 x26009), (39, .slice sp26002 n26003 cap26004), (40, .int .i64 x26009)]) (E' := []) (S' := [Hs26006]) 0 0 ⟨rfl, rfl, rfl, rfl, trivial⟩ rfl rfl (TE.td ((hdef37502 _ _ _ _).mp (hS27000_42)))
            refine EdgeOk.cons rfl ?_ ?_
            · refine TO.u rfl rfl (TX.move rfl rfl ?_)
              refine TO.nil ?_
              exact TE.to (L' := [(7, .slice sp26002 n26003 cap26004), (8, .int .i64 x26009), (40, .int .i64 x26009), (42, .slice sp26002 n26003 cap26004)]) (E' := []) (S' := [Hs26006]) 0 0 ⟨rfl, rfl, rfl, rfl, trivial⟩ rfl rfl (TE.td ((hdef37502 _ _ _ _).mp (hS27000_45)))
            refine EdgeOk.cons rfl ?_ ?_
            · refine TO.u rfl rfl (TX.move rfl rfl ?_)
              refine TO.nil ?_
              exact TE.to (L' := [(7, .slice sp26002 n26003 cap26004), (8, .int .i64 x26009), (40, .int .i64 x26009), (43, .int .i64 x26009)]) (E' := []) (S' := [Hs26006]) 0 0 ⟨rfl, rfl, rfl, rfl, trivial⟩ rfl rfl (TE.td ((hdef37502 _ _ _ _).mp (hS27000_46)))
            exact EdgeOk.nil
          have hS27000_51 : T37501 9 [false, false, false, false, true, false, false, false, false, false] [(7, .slice sp26002 n26003 cap26004), (8, .int .i64 x26009), (42, .slice sp26002 n26003 cap26004)] ⟨[], [Hs26006]⟩ := by
            rw [hdef37502]
            refine TD.step [0, 1, 2, 5] 0 rfl rfl rfl rfl rfl ?_
            refine EdgeOk.cons rfl ?_ ?_
            · refine TO.u rfl rfl (TX.move rfl rfl ?_)
              refine TO.nil ?_
              exact TE.to (L' := [(7, .slice sp26002 n26003 cap26004), (8, .int .i64 x26009), (38, .int .i64 x26009), (42, .slice sp26002 n26003 cap26004)]) (E' := []) (S' := [Hs26006]) 0 0 ⟨rfl, rfl, rfl, rfl, trivial⟩ rfl rfl (TE.td ((hdef37502 _ _ _ _).mp (hS27000_40)))
            refine EdgeOk.cons rfl ?_ ?_
            · refine TO.u rfl rfl (TX.move rfl rfl ?_)
              refine TO.nil ?_
              exact TE.to (L' := [(7, .slice sp26002 n26003 cap26004), (8, .int .i64 x26009), (39, .slice sp26002 n26003 cap26004), (42, .slice sp26002 n26003 cap26004)]) (E' := []) (S' := [Hs26006]) 0 0 ⟨rfl, rfl, rfl, rfl, trivial⟩ rfl rfl (TE.td ((hdef37502 _ _ _ _).mp (hS27000_43)))
            refine EdgeOk.cons rfl ?_ ?_
            · refine TO.u rfl rfl (TX.move rfl rfl ?_)
              refine TO.nil ?_
              exact TE.to (L' := [(7, .slice sp26002 n26003 cap26004), (8, .int .i64 x26009), (40, .int .i64 x26009), (42, .slice sp26002 n26003 cap26004)]) (E' := []) (S' := [Hs26006]) 0 0 ⟨rfl, rfl, rfl, rfl, trivial⟩ rfl rfl (TE.td ((hdef37502 _ _ _ _).mp (hS27000_45)))
            refine EdgeOk.cons rfl ?_ ?_
            · refine TO.u rfl rfl (TX.move rfl rfl ?_)
              refine TO.nil ?_
              exact TE.to (L' := [(7, .slice sp26002 n26003 cap26004), (8, .int .i64 x26009), (42, .slice sp26002 n26003 cap26004), (43, .int .i64 x26009)]) (E' := []) (S' := [Hs26006]) 0 0 ⟨rfl, rfl, rfl, rfl, trivial⟩ rfl rfl (TE.td ((hdef37502 _ _ _ _).mp (hS27000_47)))
            exact EdgeOk.nil
          have hS27000_52 : T37501 9 [false, false, false, false, false, true, false, false, false, false] [(7, .slice sp26002 n26003 cap26004), (8, .int .i64 x26009), (43, .int .i64 x26009)] ⟨[], [Hs26006]⟩ := by
            rw [hdef37502]
            refine TD.step [0, 1, 2, 4] 0 rfl rfl rfl rfl rfl ?_
            refine EdgeOk.cons rfl ?_ ?_
            · refine TO.u rfl rfl (TX.move rfl rfl ?_)
              refine TO.nil ?_
              exact TE.to (L' := [(7, .slice sp26002 n26003 cap26004), (8, .int .i64 x26009), (38, .int .i64 x26009), (43, .int .i64 x26009)]) (E' := []) (S' := [Hs26006]) 0 0 ⟨rfl, rfl, rfl, rfl, trivial⟩ rfl rfl (TE.td ((hdef37502 _ _ _ _).mp (hS27000_41)))
            refine EdgeOk.cons rfl ?_ ?_
            · refine TO.u rfl rfl (TX.move rfl rfl ?_)
              refine TO.nil ?_
              exact TE.to (L' := [(7, .slice sp26002 n26003 cap26004), (8, .int .i64 x26009), (39, .slice sp26002 n26003 cap26004), (43, .int .i64 x26009)]) (E' := []) (S' := [Hs26006]) 0 0 ⟨rfl, rfl, rfl, rfl, trivial⟩ rfl rfl (TE.td ((hdef37502 _ _ _ _).mp (hS27000_44)))
            refine EdgeOk.cons rfl ?_ ?_
            · refine TO.u rfl rfl (TX.move rfl rfl ?_)
              refine TO.nil ?_
              exact TE.to (L' := [(7, .slice sp26002 n26003 cap26004), (8, .int .i64 x26009), (40, .int .i64 x26009), (43, .int .i64 x26009)]) (E' := []) (S' := [Hs26006]) 0 0 ⟨rfl, rfl, rfl, rfl, trivial⟩ rfl rfl (TE.td ((hdef37502 _ _ _ _).mp (hS27000_46)))
            refine EdgeOk.cons rfl ?_ ?_
            · refine TO.u rfl rfl (TX.move rfl rfl ?_)
              refine TO.nil ?_
              exact TE.to (L' := [(7, .slice sp26002 n26003 cap26004), (8, .int .i64 x26009), (42, .slice sp26002 n26003 cap26004), (43, .int .i64 x26009)]) (E' := []) (S' := [Hs26006]) 0 0 ⟨rfl, rfl, rfl, rfl, trivial⟩ rfl rfl (TE.td ((hdef37502 _ _ _ _).mp (hS27000_47)))
            exact EdgeOk.nil
          have hS27000_53 : T37501 10 [false, false, false, false, false, false, false, false, false, false] [(7, .slice sp26002 n26003 cap26004), (8, .int .i64 x26009)] ⟨[], [Hs26006]⟩ := by
            rw [hdef37502]
            refine TD.step [0, 1, 2, 4, 5] 0 rfl rfl rfl rfl rfl ?_
            refine EdgeOk.cons rfl ?_ ?_
            · refine TO.u rfl rfl (TX.move rfl rfl ?_)
              refine TO.nil ?_
              exact TE.to (L' := [(7, .slice sp26002 n26003 cap26004), (8, .int .i64 x26009), (38, .int .i64 x26009)]) (E' := []) (S' := [Hs26006]) 0 0 ⟨rfl, rfl, rfl, trivial⟩ rfl rfl (TE.td ((hdef37502 _ _ _ _).mp (hS27000_48)))
            refine EdgeOk.cons rfl ?_ ?_
            · refine TO.u rfl rfl (TX.move rfl rfl ?_)
              refine TO.nil ?_
              exact TE.to (L' := [(7, .slice sp26002 n26003 cap26004), (8, .int .i64 x26009), (39, .slice sp26002 n26003 cap26004)]) (E' := []) (S' := [Hs26006]) 0 0 ⟨rfl, rfl, rfl, trivial⟩ rfl rfl (TE.td ((hdef37502 _ _ _ _).mp (hS27000_49)))
            refine EdgeOk.cons rfl ?_ ?_
            · refine TO.u rfl rfl (TX.move rfl rfl ?_)
              refine TO.nil ?_
              exact TE.to (L' := [(7, .slice sp26002 n26003 cap26004), (8, .int .i64 x26009), (40, .int .i64 x26009)]) (E' := []) (S' := [Hs26006]) 0 0 ⟨rfl, rfl, rfl, trivial⟩ rfl rfl (TE.td ((hdef37502 _ _ _ _).mp (hS27000_50)))
            refine EdgeOk.cons rfl ?_ ?_
            · refine TO.u rfl rfl (TX.move rfl rfl ?_)
              refine TO.nil ?_
              exact TE.to (L' := [(7, .slice sp26002 n26003 cap26004), (8, .int .i64 x26009), (42, .slice sp26002 n26003 cap26004)]) (E' := []) (S' := [Hs26006]) 0 0 ⟨rfl, rfl, rfl, trivial⟩ rfl rfl (TE.td ((hdef37502 _ _ _ _).mp (hS27000_51)))
            refine EdgeOk.cons rfl ?_ ?_
            · refine TO.u rfl rfl (TX.move rfl rfl ?_)
              refine TO.nil ?_
              exact TE.to (L' := [(7, .slice sp26002 n26003 cap26004), (8, .int .i64 x26009), (43, .int .i64 x26009)]) (E' := []) (S' := [Hs26006]) 0 0 ⟨rfl, rfl, rfl, trivial⟩ rfl rfl (TE.td ((hdef37502 _ _ _ _).mp (hS27000_52)))
            exact EdgeOk.nil
          exact hS27000_53
        · replace h := ie h hb26025
          refine TC.exit ?_
          refine TE.thenX ?_
          exact TE.loopX (TE.to (L' := [(7, .slice sp26002 n26003 cap26004)]) (E' := []) (S' := [Hs26006]) 0 0 ⟨rfl, trivial⟩ rfl rfl (TE.cutE ⟨x26001, Option.some.inj h, sp26002, n26003, cap26004, Hs26006, ho26007, hn26005, rfl, rfl⟩))
      · rintro _ _ ⟨x26011, rfl, sp26012, n26013, cap26014, Hs26016, ho26017, hn26015, rfl, rfl⟩
        replace h := (fn56_k1_s x26011).symm.trans h
        refine TE.blockH ?_
        refine TE.thenN rfl rfl ?_
        refine TC.seq ?_
        refine TC.region ?_
        refine TO.u rfl rfl (TX.move rfl rfl ?_)
        refine TO.u rfl rfl (TX.assign rfl rfl ?_)
        refine TO.nil ?_
        refine TE.thenN rfl rfl ?_
        refine TC.ret ?_
        have hr := (Option.some.inj h)
        subst hr
        exact TE.fin (R := ⟨[], []⟩) (TL.ret (R' := ⟨[], [Hs26016]⟩) Try.results56 (.cons (.tmp rfl) .nil) (segSub (i := 0) rfl) ⟨sp26012, n26013, cap26014, Hs26016, rfl, hn26015, rfl, ho26017⟩)
/-- (hatchway/shape.slot).way -/
def fn57 (p0 : Slot) (p1 : Int) : S__2_int :=
  (bif p0.fInstr.fOp == 24 then (bindP (fn39 p0 p1) fun v5 => (bif v5.2 then (bindP (fn40 p0) fun v7 => (bif v7 then (⟨(-1), v5.1⟩ : S__2_int) else (⟨IntKind.i64.wrap ((IntKind.i64.wrap (p1 + 1)) + 1), v5.1⟩ : S__2_int))) else (bindP (fn40 p0) fun v9 => (bif v9 then (⟨(-1), (-1)⟩ : S__2_int) else (⟨IntKind.i64.wrap ((IntKind.i64.wrap (p1 + 1)) + 1), (-1)⟩ : S__2_int))))) else (bindP (fn39 p0 p1) fun v11 => (bif v11.2 then (bindP (fn40 p0) fun v13 => (bif v13 then (⟨(-1), v11.1⟩ : S__2_int) else (⟨IntKind.i64.wrap (p1 + 1), v11.1⟩ : S__2_int))) else (bindP (fn40 p0) fun v15 => (bif v15 then (⟨(-1), (-1)⟩ : S__2_int) else (⟨IntKind.i64.wrap (p1 + 1), (-1)⟩ : S__2_int))))))
def ret57 (r : S__2_int) : Value := .agg #[.int .i64 r.e0, .int .i64 r.e1]
theorem c57 (p0 : Slot) (p1 : Int) (w : World) (r : S__2_int)  (h : fn57 p0 p1 = r) : Ret Try.prog 57 [.agg #[.int .u8 p0.fInstr.fOp, .int .u8 p0.fInstr.fDst, .int .u8 p0.fInstr.fSrc, .int .i16 p0.fInstr.fOff, .int .i32 p0.fInstr.fImm, .int .u8 p0.fclass, .int .u8 p0.fop, .bool p0.freg], .int .i64 p1] w ⟨[], []⟩ (fun v R => v = ret57 r ∧ R = ⟨[], []⟩) := by
  unfold fn57 at h
  refine Ret.of_body Try.func57 rfl Try.ntmps57 rfl (fun _ hx => absurd hx List.not_mem_nil) List.nodup_nil ?_
  refine TC.seq ?_
  refine TC.region ?_
  refine TO.u rfl rfl (TX.box rfl rfl rfl (fun b1 => ?_))
  refine TO.u rfl rfl (TX.alloc Try.zeroValue51 rfl rfl (fun b2 => ?_))
  refine TO.nil ?_
  refine TE.thenN rfl rfl ?_
  refine TC.seq ?_
  refine TC.region ?_
  refine TO.u rfl rfl (TX.move rfl rfl ?_)
  refine TO.u rfl rfl (TX.ibin rfl rfl rfl rfl ?_)
  refine TO.u rfl rfl (TX.buildA Try.zeroValue51 rfl Try.runUnderlying51 Try.sizeOf3 rfl rfl rfl ?_)
  refine TO.u rfl rfl (TX.alloc Try.zeroValue51 rfl rfl (fun b3 => ?_))
  refine TO.u rfl rfl (TX.store (i := 0) Try.sizeOf51 rfl rfl rfl rfl rfl rfl rfl rfl ?_)
  refine TO.nil ?_
  refine TE.thenN rfl rfl ?_
  refine TC.seq ?_
  refine TC.seq ?_
  refine TC.region ?_
  refine TO.u rfl rfl (TX.fieldAddr' Try.runUnderlying58 rfl Try.sizeOf27 rfl rfl rfl ?_)
  refine TO.u rfl rfl (TX.fieldAddr' Try.runUnderlying27 rfl Try.sizeOf5 rfl rfl rfl ?_)
  refine TO.u rfl rfl (TX.load1 (i := 2) Try.isAgg5 rfl rfl rfl rfl ?_)
  refine TO.u rfl rfl (TX.ibin rfl rfl rfl rfl ?_)
  refine TO.nil ?_
  refine TE.thenN rfl rfl ?_
  refine TC.cond rfl (fun hb4 => ?_) (fun hb4 => ?_)
  · replace h := it h hb4
    refine TC.region ?_
    refine TO.u rfl rfl (TX.indexA (i := 0) Try.runUnderlying51 Try.sizeOf3 rfl rfl rfl rfl rfl ?_)
    refine TO.u rfl rfl (TX.load1 (i := 0) Try.isAgg3 rfl rfl rfl rfl ?_)
    refine TO.u rfl rfl (TX.ibin rfl rfl rfl rfl ?_)
    refine TO.u rfl rfl (TX.indexA (i := 0) Try.runUnderlying51 Try.sizeOf3 rfl rfl rfl rfl rfl ?_)
    refine TO.u rfl rfl (TX.store (i := 0) Try.sizeOf3 rfl rfl rfl rfl rfl rfl rfl rfl ?_)
    refine TO.nil ?_
    refine TE.thenN rfl rfl ?_
    refine TC.seq ?_
    refine TC.seq ?_
    refine TC.region ?_
    refine TO.u rfl rfl (TX.loadN (i := 2) Try.isAgg58 Try.sizeOf58 rfl rfl rfl rfl ?_)
    refine TO.u rfl rfl (TX.move rfl rfl ?_)
    obtain ⟨v5, hv5, h⟩ := bp h
    refine TO.u rfl rfl (TX.callP Try.call39 rfl (fun a w s => c39 p0 p1 _ _  hv5) rfl ?_)
    refine TO.u rfl rfl (TX.move rfl rfl ?_)
    refine TO.u rfl rfl (TX.extract rfl rfl rfl ?_)
    refine TO.u rfl rfl (TX.extract rfl rfl rfl ?_)
    refine TO.u rfl rfl (TX.assign rfl rfl ?_)
    refine TO.u rfl rfl (TX.assign rfl rfl ?_)
    refine TO.nil ?_
    refine TE.thenN rfl rfl ?_
    refine TC.seq ?_
    refine TC.region ?_
    refine TO.u rfl rfl (TX.move rfl rfl ?_)
    refine TO.nil ?_
    refine TE.thenN rfl rfl ?_
    refine TC.cond rfl (fun hb6 => ?_) (fun hb6 => ?_)
    · replace h := it h hb6
      refine TC.region ?_
      refine TO.u rfl rfl (TX.move rfl rfl ?_)
      refine TO.u rfl rfl (TX.indexA (i := 1) Try.runUnderlying51 Try.sizeOf3 rfl rfl rfl rfl rfl ?_)
      refine TO.u rfl rfl (TX.store (i := 0) Try.sizeOf3 rfl rfl rfl rfl rfl rfl rfl rfl ?_)
      refine TO.nil ?_
      refine TE.thenN rfl rfl ?_
      refine TC.seq ?_
      refine TC.seq ?_
      refine TC.region ?_
      refine TO.u rfl rfl (TX.loadN (i := 2) Try.isAgg58 Try.sizeOf58 rfl rfl rfl rfl ?_)
      obtain ⟨v7, hv7, h⟩ := bp h
      refine TO.u rfl rfl (TX.callP Try.call40 rfl (fun a w s => c40 p0 _ _  hv7) rfl ?_)
      refine TO.nil ?_
      refine TE.thenN rfl rfl ?_
      refine TC.cond rfl (fun hb8 => ?_) (fun hb8 => ?_)
      · replace h := it h hb8
        refine TC.region ?_
        refine TO.u rfl rfl (TX.indexA (i := 0) Try.runUnderlying51 Try.sizeOf3 rfl rfl rfl rfl rfl ?_)
        refine TO.u rfl rfl (TX.store (i := 0) Try.sizeOf3 rfl rfl rfl rfl rfl rfl rfl rfl ?_)
        refine TO.nil ?_
        refine TE.thenN rfl rfl ?_
        refine TC.seq ?_
        refine TC.region ?_
        refine TO.u rfl rfl (TX.loadN (i := 0) Try.isAgg51 Try.sizeOf51 rfl rfl rfl rfl ?_)
        refine TO.u rfl rfl (TX.store (i := 1) Try.sizeOf51 rfl rfl rfl rfl rfl rfl rfl rfl ?_)
        refine TO.nil ?_
        refine TE.thenN rfl rfl ?_
        refine TC.ret ?_
        exact TE.fin (R := ⟨[], []⟩) (TL.ret (R' := ⟨[], []⟩) Try.results57 (.cons (.cellN (i := 1) Try.isAgg51 Try.sizeOf51 rfl rfl rfl) .nil) (subD 3 0 rfl rfl) ⟨congrArg ret57 h, rfl⟩)
      · replace h := ie h hb8
        refine TC.skip ?_
        refine TE.thenN rfl rfl ?_
        refine TC.seq ?_
        refine TC.region ?_
        refine TO.u rfl rfl (TX.loadN (i := 0) Try.isAgg51 Try.sizeOf51 rfl rfl rfl rfl ?_)
        refine TO.u rfl rfl (TX.store (i := 1) Try.sizeOf51 rfl rfl rfl rfl rfl rfl rfl rfl ?_)
        refine TO.nil ?_
        refine TE.thenN rfl rfl ?_
        refine TC.ret ?_
        exact TE.fin (R := ⟨[], []⟩) (TL.ret (R' := ⟨[], []⟩) Try.results57 (.cons (.cellN (i := 1) Try.isAgg51 Try.sizeOf51 rfl rfl rfl) .nil) (subD 3 0 rfl rfl) ⟨congrArg ret57 h, rfl⟩)
    · replace h := ie h hb6
      refine TC.skip ?_
      refine TE.thenN rfl rfl ?_
      refine TC.seq ?_
      refine TC.seq ?_
      refine TC.region ?_
      refine TO.u rfl rfl (TX.loadN (i := 2) Try.isAgg58 Try.sizeOf58 rfl rfl rfl rfl ?_)
      obtain ⟨v9, hv9, h⟩ := bp h
      refine TO.u rfl rfl (TX.callP Try.call40 rfl (fun a w s => c40 p0 _ _  hv9) rfl ?_)
      refine TO.nil ?_
      refine TE.thenN rfl rfl ?_
      refine TC.cond rfl (fun hb10 => ?_) (fun hb10 => ?_)
      · replace h := it h hb10
        refine TC.region ?_
        refine TO.u rfl rfl (TX.indexA (i := 0) Try.runUnderlying51 Try.sizeOf3 rfl rfl rfl rfl rfl ?_)
        refine TO.u rfl rfl (TX.store (i := 0) Try.sizeOf3 rfl rfl rfl rfl rfl rfl rfl rfl ?_)
        refine TO.nil ?_
        refine TE.thenN rfl rfl ?_
        refine TC.seq ?_
        refine TC.region ?_
        refine TO.u rfl rfl (TX.loadN (i := 0) Try.isAgg51 Try.sizeOf51 rfl rfl rfl rfl ?_)
        refine TO.u rfl rfl (TX.store (i := 1) Try.sizeOf51 rfl rfl rfl rfl rfl rfl rfl rfl ?_)
        refine TO.nil ?_
        refine TE.thenN rfl rfl ?_
        refine TC.ret ?_
        exact TE.fin (R := ⟨[], []⟩) (TL.ret (R' := ⟨[], []⟩) Try.results57 (.cons (.cellN (i := 1) Try.isAgg51 Try.sizeOf51 rfl rfl rfl) .nil) (subD 3 0 rfl rfl) ⟨congrArg ret57 h, rfl⟩)
      · replace h := ie h hb10
        refine TC.skip ?_
        refine TE.thenN rfl rfl ?_
        refine TC.seq ?_
        refine TC.region ?_
        refine TO.u rfl rfl (TX.loadN (i := 0) Try.isAgg51 Try.sizeOf51 rfl rfl rfl rfl ?_)
        refine TO.u rfl rfl (TX.store (i := 1) Try.sizeOf51 rfl rfl rfl rfl rfl rfl rfl rfl ?_)
        refine TO.nil ?_
        refine TE.thenN rfl rfl ?_
        refine TC.ret ?_
        exact TE.fin (R := ⟨[], []⟩) (TL.ret (R' := ⟨[], []⟩) Try.results57 (.cons (.cellN (i := 1) Try.isAgg51 Try.sizeOf51 rfl rfl rfl) .nil) (subD 3 0 rfl rfl) ⟨congrArg ret57 h, rfl⟩)
  · replace h := ie h hb4
    refine TC.skip ?_
    refine TE.thenN rfl rfl ?_
    refine TC.seq ?_
    refine TC.seq ?_
    refine TC.region ?_
    refine TO.u rfl rfl (TX.loadN (i := 2) Try.isAgg58 Try.sizeOf58 rfl rfl rfl rfl ?_)
    refine TO.u rfl rfl (TX.move rfl rfl ?_)
    obtain ⟨v11, hv11, h⟩ := bp h
    refine TO.u rfl rfl (TX.callP Try.call39 rfl (fun a w s => c39 p0 p1 _ _  hv11) rfl ?_)
    refine TO.u rfl rfl (TX.move rfl rfl ?_)
    refine TO.u rfl rfl (TX.extract rfl rfl rfl ?_)
    refine TO.u rfl rfl (TX.extract rfl rfl rfl ?_)
    refine TO.u rfl rfl (TX.assign rfl rfl ?_)
    refine TO.u rfl rfl (TX.assign rfl rfl ?_)
    refine TO.nil ?_
    refine TE.thenN rfl rfl ?_
    refine TC.seq ?_
    refine TC.region ?_
    refine TO.u rfl rfl (TX.move rfl rfl ?_)
    refine TO.nil ?_
    refine TE.thenN rfl rfl ?_
    refine TC.cond rfl (fun hb12 => ?_) (fun hb12 => ?_)
    · replace h := it h hb12
      refine TC.region ?_
      refine TO.u rfl rfl (TX.move rfl rfl ?_)
      refine TO.u rfl rfl (TX.indexA (i := 1) Try.runUnderlying51 Try.sizeOf3 rfl rfl rfl rfl rfl ?_)
      refine TO.u rfl rfl (TX.store (i := 0) Try.sizeOf3 rfl rfl rfl rfl rfl rfl rfl rfl ?_)
      refine TO.nil ?_
      refine TE.thenN rfl rfl ?_
      refine TC.seq ?_
      refine TC.seq ?_
      refine TC.region ?_
      refine TO.u rfl rfl (TX.loadN (i := 2) Try.isAgg58 Try.sizeOf58 rfl rfl rfl rfl ?_)
      obtain ⟨v13, hv13, h⟩ := bp h
      refine TO.u rfl rfl (TX.callP Try.call40 rfl (fun a w s => c40 p0 _ _  hv13) rfl ?_)
      refine TO.nil ?_
      refine TE.thenN rfl rfl ?_
      refine TC.cond rfl (fun hb14 => ?_) (fun hb14 => ?_)
      · replace h := it h hb14
        refine TC.region ?_
        refine TO.u rfl rfl (TX.indexA (i := 0) Try.runUnderlying51 Try.sizeOf3 rfl rfl rfl rfl rfl ?_)
        refine TO.u rfl rfl (TX.store (i := 0) Try.sizeOf3 rfl rfl rfl rfl rfl rfl rfl rfl ?_)
        refine TO.nil ?_
        refine TE.thenN rfl rfl ?_
        refine TC.seq ?_
        refine TC.region ?_
        refine TO.u rfl rfl (TX.loadN (i := 0) Try.isAgg51 Try.sizeOf51 rfl rfl rfl rfl ?_)
        refine TO.u rfl rfl (TX.store (i := 1) Try.sizeOf51 rfl rfl rfl rfl rfl rfl rfl rfl ?_)
        refine TO.nil ?_
        refine TE.thenN rfl rfl ?_
        refine TC.ret ?_
        exact TE.fin (R := ⟨[], []⟩) (TL.ret (R' := ⟨[], []⟩) Try.results57 (.cons (.cellN (i := 1) Try.isAgg51 Try.sizeOf51 rfl rfl rfl) .nil) (subD 3 0 rfl rfl) ⟨congrArg ret57 h, rfl⟩)
      · replace h := ie h hb14
        refine TC.skip ?_
        refine TE.thenN rfl rfl ?_
        refine TC.seq ?_
        refine TC.region ?_
        refine TO.u rfl rfl (TX.loadN (i := 0) Try.isAgg51 Try.sizeOf51 rfl rfl rfl rfl ?_)
        refine TO.u rfl rfl (TX.store (i := 1) Try.sizeOf51 rfl rfl rfl rfl rfl rfl rfl rfl ?_)
        refine TO.nil ?_
        refine TE.thenN rfl rfl ?_
        refine TC.ret ?_
        exact TE.fin (R := ⟨[], []⟩) (TL.ret (R' := ⟨[], []⟩) Try.results57 (.cons (.cellN (i := 1) Try.isAgg51 Try.sizeOf51 rfl rfl rfl) .nil) (subD 3 0 rfl rfl) ⟨congrArg ret57 h, rfl⟩)
    · replace h := ie h hb12
      refine TC.skip ?_
      refine TE.thenN rfl rfl ?_
      refine TC.seq ?_
      refine TC.seq ?_
      refine TC.region ?_
      refine TO.u rfl rfl (TX.loadN (i := 2) Try.isAgg58 Try.sizeOf58 rfl rfl rfl rfl ?_)
      obtain ⟨v15, hv15, h⟩ := bp h
      refine TO.u rfl rfl (TX.callP Try.call40 rfl (fun a w s => c40 p0 _ _  hv15) rfl ?_)
      refine TO.nil ?_
      refine TE.thenN rfl rfl ?_
      refine TC.cond rfl (fun hb16 => ?_) (fun hb16 => ?_)
      · replace h := it h hb16
        refine TC.region ?_
        refine TO.u rfl rfl (TX.indexA (i := 0) Try.runUnderlying51 Try.sizeOf3 rfl rfl rfl rfl rfl ?_)
        refine TO.u rfl rfl (TX.store (i := 0) Try.sizeOf3 rfl rfl rfl rfl rfl rfl rfl rfl ?_)
        refine TO.nil ?_
        refine TE.thenN rfl rfl ?_
        refine TC.seq ?_
        refine TC.region ?_
        refine TO.u rfl rfl (TX.loadN (i := 0) Try.isAgg51 Try.sizeOf51 rfl rfl rfl rfl ?_)
        refine TO.u rfl rfl (TX.store (i := 1) Try.sizeOf51 rfl rfl rfl rfl rfl rfl rfl rfl ?_)
        refine TO.nil ?_
        refine TE.thenN rfl rfl ?_
        refine TC.ret ?_
        exact TE.fin (R := ⟨[], []⟩) (TL.ret (R' := ⟨[], []⟩) Try.results57 (.cons (.cellN (i := 1) Try.isAgg51 Try.sizeOf51 rfl rfl rfl) .nil) (subD 3 0 rfl rfl) ⟨congrArg ret57 h, rfl⟩)
      · replace h := ie h hb16
        refine TC.skip ?_
        refine TE.thenN rfl rfl ?_
        refine TC.seq ?_
        refine TC.region ?_
        refine TO.u rfl rfl (TX.loadN (i := 0) Try.isAgg51 Try.sizeOf51 rfl rfl rfl rfl ?_)
        refine TO.u rfl rfl (TX.store (i := 1) Try.sizeOf51 rfl rfl rfl rfl rfl rfl rfl rfl ?_)
        refine TO.nil ?_
        refine TE.thenN rfl rfl ?_
        refine TC.ret ?_
        exact TE.fin (R := ⟨[], []⟩) (TL.ret (R' := ⟨[], []⟩) Try.results57 (.cons (.cellN (i := 1) Try.isAgg51 Try.sizeOf51 rfl rfl rfl) .nil) (subD 3 0 rfl rfl) ⟨congrArg ret57 h, rfl⟩)
def fn31_r1 (x41 : List S__2_int) (y49 : Int) (y50 : Slot) : Option (((List S__2_int)) × Nat) :=
  (bindP (fn57 y50 y49) fun v67 => (bif inb y49 x41.length then (some (x41.set y49.toNat v67, 0)) else none))
theorem fn31_r1_s (x41 : List S__2_int) (y49 : Int) (y50 : Slot) : fn31_r1 x41 y49 y50 = (bindP (fn57 y50 y49) fun v67 => (bif inb y49 x41.length then (some (x41.set y49.toNat v67, 0)) else none)) := rfl
def fn31_k1_0 (x72 : List S__2_int) : Option ((List S__2_int)) :=
  (some x72)
theorem fn31_k1_0_s (x72 : List S__2_int) : fn31_k1_0 x72 = (some x72) := rfl
/-- hatchway/shape.Ways -/
def fn31 (F : Nat) (p0 : List Instr) : Option ((List S__2_int)) :=
  (Option.bind (fn14 F p0) fun v1 => (bif v1.2 != 0 then (some ([] : List S__2_int)) else (Option.bind (fn56 F ([(⟨(-1), (-1)⟩ : S__2_int)] : List S__2_int) (p0.length : Int)) fun v7 => (Option.bind (fn59 F (stepR (fun (s : (List S__2_int)) (y : Int × Slot) => fn31_r1 s y.1 y.2)) goR p0 ((v7, 0) : ((List S__2_int)) × Nat)) fun o81 => (bif Nat.beq o81.2 0 then fn31_k1_0 o81.1 else none)))))
def post31 (r : (List S__2_int)) (v : Value) (R : Hp) : Prop := ∃ sp n cap Hs, v = .slice sp n cap ∧ r.length = n ∧ R = ⟨[], [Hs]⟩ ∧ OwnL S__2_int.E 51 sp cap r Hs
theorem c31 (F : Nat) (sp_0 : Option Addr) (n_0 cap_0 : Nat) (p0 : List Instr) (w : World) (r : (List S__2_int)) (qn0 : p0.length = n_0) (qc0 : p0.length ≤ cap_0) (qp0 : RdF Instr.E w [] sp_0 p0) (h : fn31 F p0 = some r) : Ret Try.prog 31 [.slice sp_0 n_0 cap_0] w ⟨[], []⟩ (post31 r) := by
  unfold fn31 at h
  refine Ret.of_body Try.func31 rfl Try.ntmps31 rfl (fun _ hx => absurd hx List.not_mem_nil) List.nodup_nil ?_
  refine TC.seq ?_
  refine TC.region ?_
  refine TO.u rfl rfl (TX.assign rfl rfl ?_)
  refine TO.nil ?_
  refine TE.thenN rfl rfl ?_
  refine TC.seq ?_
  refine TC.seq ?_
  refine TC.region ?_
  refine TO.u rfl rfl (TX.move rfl rfl ?_)
  obtain ⟨v1, hv1, h⟩ := bd h
  refine TO.u rfl rfl (TX.callP Try.call14 rfl (fun a w s => c14 F _ _ _ p0 _ _ qn0 qc0 (qp0.tr s.extB0) hv1) rfl ?_)
  refine TO.u rfl rfl (TX.move rfl rfl ?_)
  refine TO.u rfl rfl (TX.extract rfl rfl rfl ?_)
  refine TO.u rfl rfl (TX.extract rfl rfl rfl ?_)
  refine TO.u rfl rfl (TX.assign rfl rfl ?_)
  refine TO.u rfl rfl (TX.assign rfl rfl ?_)
  refine TO.nil ?_
  refine TE.thenN rfl rfl ?_
  refine TC.seq ?_
  refine TC.region ?_
  refine TO.u rfl rfl (TX.move rfl rfl ?_)
  refine TO.u rfl rfl (TX.ibin rfl rfl rfl rfl ?_)
  refine TO.nil ?_
  refine TE.thenN rfl rfl ?_
  refine TC.cond rfl (fun hb2 => ?_) (fun hb2 => ?_)
  · replace h := it h hb2
    refine TC.seq ?_
    refine TC.region ?_
    refine TO.u rfl rfl (TX.assign rfl rfl ?_)
    refine TO.nil ?_
    refine TE.thenN rfl rfl ?_
    refine TC.ret ?_
    refine TE.thenR ?_
    have hr := (Option.some.inj h)
    subst hr
    exact TE.fin (R := ⟨[], []⟩) (TL.ret (R' := ⟨[], [[]]⟩) Try.results31 (.cons (.tmp rfl) .nil) segSub0 ⟨none, 0, 0, [], rfl, rfl, rfl, (OwnL.nil S__2_int.E 51)⟩)
  · replace h := ie h hb2
    refine TC.skip ?_
    refine TE.thenN rfl rfl ?_
    refine TC.seq ?_
    refine TC.region ?_
    refine TO.u rfl rfl (TX.buildA Try.zeroValue51 rfl Try.runUnderlying51 Try.sizeOf3 rfl rfl rfl ?_)
    refine TO.u rfl rfl (TX.buildS (N := S__2_int.E) (ys := ([(⟨(-1), (-1)⟩ : S__2_int)] : List S__2_int)) Try.runUnderlying49 Try.sizeOf51 Try.zeroValue51 rfl rfl rfl rfl (fillS [.agg #[.int .i64 (-1), .int .i64 (-1)]] rfl rfl rfl rfl) rfl (fun sp3 Hs5 ho6 => ?_))
    refine TO.u rfl rfl (TX.move rfl rfl ?_)
    refine TO.u rfl rfl (TX.lenS (xs := p0) Try.runUnderlying24 rfl qn0 rfl ?_)
    obtain ⟨v7, hv7, h⟩ := bd h
    refine TO.u rfl rfl (TX.callQ (post56 v7) Try.call56 rfl (fun a w s => c56 F _ _ _ ([(⟨(-1), (-1)⟩ : S__2_int)] : List S__2_int) (p0.length : Int) _ _ rfl ho6.le_cap (ho6.rdf0 s (i := 0) rfl) hv7) rfl ?_)
    rintro _ _ ⟨sp8, n9, cap10, Hs12, rfl, hn11, rfl, ho13⟩
    refine TO.reH ⟨[], [Hs12, Hs5]⟩ rfl ?_
    refine TO.u rfl rfl (TX.alloc Try.zeroValue49 rfl rfl (fun b15 => ?_))
    refine TO.u rfl rfl (TX.store (i := 0) Try.sizeOf49 rfl rfl rfl rfl rfl rfl rfl rfl ?_)
    refine TO.nil ?_
    refine TE.thenN rfl rfl ?_
    refine TC.seq ?_
    refine TC.seq ?_
    refine TC.region ?_
    refine TO.u rfl rfl (TX.move rfl rfl ?_)
    refine TO.u rfl rfl (TX.callQ _ Try.call34 rfl (fun a w s => c34 _ _ _ p0 _) rfl ?_)
    rintro _ _ ⟨b16, rfl, rfl⟩
    refine TO.reH ⟨[(b16, .cells #[.slice sp_0 n_0 cap_0] 24), (b15, .cells #[.slice sp8 n9 cap10] 49)], [Hs12, Hs5]⟩ rfl ?_
    refine TO.nil ?_
    refine TE.thenN rfl rfl ?_
    refine TC.block ?_
    obtain ⟨⟨o81, m82⟩, hl83, h⟩ := bd h
    refine TC.to (L' := [(2, .slice none 0 0), (5, .pointer (some ⟨b15, 0, none⟩)), (21, .func (.func 59) #[] #[.pointer (some ⟨b16, 0, none⟩)])]) (E' := [(b16, .cells #[.slice sp_0 n_0 cap_0] 24), (b15, .cells #[.slice sp8 n9 cap10] 49)]) (S' := [Hs12, Hs5]) 0 0 ⟨rfl, rfl, rfl, trivial⟩ rfl rfl ?_
    refine TC.rangeO [22, 23] [0] [] (fun (x41 : (List S__2_int)) (H' : Hp) => ∃ sp42 n43 cap44 Hs46, OwnL S__2_int.E 51 sp42 cap44 x41 Hs46 ∧ x41.length = n43 ∧ H' = ⟨[(b15, .cells #[.slice sp42 n43 cap44] 49)], [Hs46, Hs5]⟩) (fun (x : Int × Slot) => [.int .i64 x.1, .agg #[.int .u8 x.2.fInstr.fOp, .int .u8 x.2.fInstr.fDst, .int .u8 x.2.fInstr.fSrc, .int .i16 x.2.fInstr.fOff, .int .i32 x.2.fInstr.fImm, .int .u8 x.2.fclass, .int .u8 x.2.fop, .bool x.2.freg]]) (fun (s : (List S__2_int)) (y : Int × Slot) => fn31_r1 s y.1 y.2) v7 o81 m82 Try.call59 rfl rfl (fun _ => rfl) rfl rfl ⟨sp8, n9, cap10, Hs12, ho13, hn11, rfl⟩ (fun zw zv zJ zH zx zo zy zj => c59 F (stepR (fun (s : (List S__2_int)) (y : Int × Slot) => fn31_r1 s y.1 y.2)) goR zJ zv ((v7, 0) : ((List S__2_int)) × Nat) zH b16 _ _ _ p0 zw (o81, m82) qn0 qc0 (qp0.tr zx) zo zy zj hl83) ?_ ?_
    · clear h hl83
      intro l51 r52 lr53 w54 R55 x41 y57 s58 m59 H60 Rr61 hst62 h hI84 hx63 fin64
      obtain ⟨y49, y50⟩ := y57
      obtain ⟨sp42, n43, cap44, Hs46, ho47, hn45, rfl⟩ := hI84
      replace h := (fn31_r1_s x41 y49 y50).symm.trans h
      have qx65 := qp0.tr hx63
      refine TC.to (L' := [(2, .slice none 0 0), (5, .pointer (some ⟨b15, 0, none⟩)), (21, .func (.func 59) #[] #[.pointer (some ⟨b16, 0, none⟩)]), (22, .int .i64 y49), (23, .agg #[.int .u8 y50.fInstr.fOp, .int .u8 y50.fInstr.fDst, .int .u8 y50.fInstr.fSrc, .int .i16 y50.fInstr.fOff, .int .i32 y50.fInstr.fImm, .int .u8 y50.fclass, .int .u8 y50.fop, .bool y50.freg])]) (E' := [(l51, .loop lr53), (r52, .deferred (some [])), (b15, .cells #[.slice sp42 n43 cap44] 49)]) (S' := [Hs46, Hs5]) 0 0 ⟨rfl, rfl, rfl, rfl, rfl, trivial⟩ rfl rfl ?_
      refine TC.seq ?_
      refine TC.region ?_
      refine TO.u rfl rfl (TX.assign rfl rfl ?_)
      refine TO.nil ?_
      refine TE.thenN rfl rfl ?_
      refine TC.region ?_
      refine TO.u rfl rfl (TX.alloc Try.zeroValue58 rfl rfl (fun b66 => ?_))
      refine TO.u rfl rfl (TX.store (i := 0) Try.sizeOf58 rfl rfl rfl rfl rfl rfl rfl rfl ?_)
      refine TO.nil ?_
      refine TE.begin (i := 1) rfl (by assumption) rfl ?_
      refine TC.block ?_
      refine TC.keep (L' := [(5, .pointer (some ⟨b15, 0, none⟩)), (6, .int .i64 y49), (7, .pointer (some ⟨b66, 0, none⟩))]) ⟨rfl, rfl, rfl, trivial⟩ ?_
      obtain ⟨v67, hv67, h⟩ := bp h
      refine TC.draw hmix 5 [.slice sp42 n43 cap44, .int .i64 y49, .agg #[.int .u8 y50.fInstr.fOp, .int .u8 y50.fInstr.fDst, .int .u8 y50.fInstr.fSrc, .int .i16 y50.fInstr.fOff, .int .i32 y50.fInstr.fImm, .int .u8 y50.fclass, .int .u8 y50.fop, .bool y50.freg], .int .i64 y49, .agg #[.int .i64 v67.e0, .int .i64 v67.e1]] [(24, .slice sp42 n43 cap44), (25, .int .i64 y49), (28, .agg #[.int .i64 v67.e0, .int .i64 v67.e1])] rfl rfl rfl rfl ?_ (.cons 0 rfl rfl rfl (.cons 1 rfl rfl rfl (.cons 4 rfl rfl rfl .nil))) ?_
      · refine QAll.u [(5, .pointer (some ⟨b15, 0, none⟩))] (.old rfl .nil) rfl rfl (QV.load1 (i := 3) Try.isAgg49 rfl rfl rfl).s rfl ?_
        refine QAll.u [(6, .int .i64 y49)] (.old rfl .nil) rfl rfl (QV.move rfl).s rfl ?_
        refine QAll.u [(7, .pointer (some ⟨b66, 0, none⟩))] (.old rfl .nil) rfl rfl (QV.loadN (i := 0) Try.isAgg58 Try.sizeOf58 rfl rfl rfl).s rfl ?_
        refine QAll.u [(6, .int .i64 y49)] (.old rfl .nil) rfl rfl (QV.move rfl).s rfl ?_
        refine QAll.u [(26, .agg #[.int .u8 y50.fInstr.fOp, .int .u8 y50.fInstr.fDst, .int .u8 y50.fInstr.fSrc, .int .i16 y50.fInstr.fOff, .int .i32 y50.fInstr.fImm, .int .u8 y50.fclass, .int .u8 y50.fop, .bool y50.freg]), (27, .int .i64 y49)] (.dat 2 rfl rfl rfl (.dat 3 rfl rfl rfl .nil)) rfl rfl (QS.callP Try.call57 rfl (fun a w s => c57 y50 y49 _ _  hv67)) rfl ?_
        exact QAll.nil
      obtain ⟨hk68, h⟩ := ck h
      refine TO.u rfl rfl (TX.indexR (N := S__2_int.E) Try.runUnderlying49 Try.sizeOf51 rfl hn45 rfl (fun a w s => ho47.rd s (i := 0) rfl) hk68 rfl ?_)
      refine TO.u rfl rfl (TX.storeS (N := S__2_int.E) (si := 0) (u := v67) Try.sizeOf51 rfl rfl rfl rfl rfl rfl ho47 hk68 rfl (fun Hs69 _ S70 ho71 => ?_))
      cases S70
      refine TO.nil ?_
      refine TE.blockN ?_
      cases h
      exact TE.to (L' := []) (E' := [(l51, .loop { lr53 with state := .busy }), (r52, .deferred (some [])), (b15, .cells #[.slice sp42 n43 cap44] 49)]) (S' := [Hs69, Hs5]) 1 0 trivial rfl rfl (fin64 [] ⟨[(b15, .cells #[.slice sp42 n43 cap44] 49)], [Hs69, Hs5]⟩ ⟨sp42, n43, cap44, Hs69, ho71, (List.length_set.trans hn45), rfl⟩)
    · clear hl83
      intro r80 H85 hI86
      obtain ⟨x72, q_⟩ : ∃ z, z = o81 := ⟨_, rfl⟩
      subst q_
      obtain ⟨sp73, n74, cap75, Hs77, ho78, hn76, rfl⟩ := hI86
      refine TE.reH ⟨[(r80, .deferred (some [])), (b16, .cells #[.slice sp_0 n_0 cap_0] 24), (b15, .cells #[.slice sp73 n74 cap75] 49)], [Hs77, Hs5]⟩ rfl ?_
      cases hm87 : Nat.beq m82 0
      · replace h := ie h hm87
        cases h
      · replace h := it h hm87
        have q_ := Nat.eq_of_beq_eq_true hm87
        subst q_
        replace h := (fn31_k1_0_s x72).symm.trans h
        refine TE.asE (e := .normal) rfl ?_
        refine TE.blockN ?_
        refine TE.thenN rfl rfl ?_
        refine TC.seq ?_
        refine TC.region ?_
        refine TO.u rfl rfl (TX.load1 (i := 2) Try.isAgg49 rfl rfl rfl rfl ?_)
        refine TO.u rfl rfl (TX.assign rfl rfl ?_)
        refine TO.nil ?_
        refine TE.thenN rfl rfl ?_
        refine TC.ret ?_
        have hr := (Option.some.inj h)
        subst hr
        exact TE.fin (R := ⟨[], []⟩) (TL.mark (i := 0) rfl rfl (TL.ret (R' := ⟨[], [Hs77]⟩) Try.results31 (.cons (.tmp rfl) .nil) (segSub (i := 0) rfl) ⟨sp73, n74, cap75, Hs77, rfl, hn76, rfl, ho78⟩))
/-- hatchway/shape.Next -/
def fn15 (F : Nat) (p0 : List Instr) (p1 : Int) : Option (Int × Int) :=
  (Option.bind (fn31 F p0) fun v1 => (bif (decide (p1 < 0)) || (decide ((v1.length : Int) ≤ p1)) then (some ((-1), (-1))) else (bif inb p1 v1.length then (some ((gt v1 p1).e0, (gt v1 p1).e1)) else none)))
def ret15 (r : Int × Int) : Value := .tuple #[.int .i64 r.1, .int .i64 r.2]
theorem c15 (F : Nat) (sp_0 : Option Addr) (n_0 cap_0 : Nat) (p0 : List Instr) (p1 : Int) (w : World) (r : Int × Int) (qn0 : p0.length = n_0) (qc0 : p0.length ≤ cap_0) (qp0 : RdF Instr.E w [] sp_0 p0) (h : fn15 F p0 p1 = some r) : Ret Try.prog 15 [.slice sp_0 n_0 cap_0, .int .i64 p1] w ⟨[], []⟩ (fun v R => v = ret15 r ∧ R = ⟨[], []⟩) := by
  unfold fn15 at h
  refine Ret.of_body Try.func15 rfl Try.ntmps15 rfl (fun _ hx => absurd hx List.not_mem_nil) List.nodup_nil ?_
  refine TC.seq ?_
  refine TC.region ?_
  refine TO.u rfl rfl (TX.assign rfl rfl ?_)
  refine TO.u rfl rfl (TX.assign rfl rfl ?_)
  refine TO.nil ?_
  refine TE.thenN rfl rfl ?_
  refine TC.seq ?_
  refine TC.region ?_
  refine TO.u rfl rfl (TX.move rfl rfl ?_)
  obtain ⟨v1, hv1, h⟩ := bd h
  refine TO.u rfl rfl (TX.callQ (post31 v1) Try.call31 rfl (fun a w s => c31 F _ _ _ p0 _ _ qn0 qc0 (qp0.tr s.extB0) hv1) rfl ?_)
  rintro _ _ ⟨sp2, n3, cap4, Hs6, rfl, hn5, rfl, ho7⟩
  refine TO.reH ⟨[], [Hs6]⟩ rfl ?_
  refine TO.u rfl rfl (TX.assign rfl rfl ?_)
  refine TO.nil ?_
  refine TE.thenN rfl rfl ?_
  refine TC.seq ?_
  refine TC.seq ?_
  refine TC.region ?_
  refine TO.u rfl rfl (TX.move rfl rfl ?_)
  refine TO.u rfl rfl (TX.ibin rfl rfl rfl rfl ?_)
  refine TO.u rfl rfl (TX.move rfl rfl ?_)
  refine TO.cutS 5 [(16, .bool ((decide (p1 < 0)) || (decide ((v1.length : Int) ≤ p1))))] ?_ ?_
  · cases hc9 : (decide (p1 < 0))
    · refine TO.g rfl rfl rfl rfl (TX.move rfl rfl ?_)
      refine TO.g rfl rfl rfl rfl (TX.move rfl rfl ?_)
      refine TO.g rfl rfl rfl rfl (TX.lenS (xs := v1) Try.runUnderlying49 rfl hn5 rfl ?_)
      refine TO.g rfl rfl rfl rfl (TX.ibin rfl rfl rfl rfl ?_)
      refine TO.u rfl rfl (TX.pickF rfl rfl rfl ?_)
      exact TO.nil (TE.cutS 5 rfl rfl ⟨rfl, trivial⟩)
    · refine TO.s rfl rfl rfl rfl rfl rfl ?_
      refine TO.s rfl rfl rfl rfl rfl rfl ?_
      refine TO.s rfl rfl rfl rfl rfl rfl ?_
      refine TO.s rfl rfl rfl rfl rfl rfl ?_
      refine TO.u rfl rfl (TX.pickT rfl rfl rfl ?_)
      exact TO.nil (TE.cutS 5 rfl rfl ⟨rfl, trivial⟩)
  refine TO.nil ?_
  refine TE.thenN rfl rfl ?_
  refine TC.cond rfl (fun hb10 => ?_) (fun hb10 => ?_)
  · replace h := it h hb10
    refine TC.seq ?_
    refine TC.region ?_
    refine TO.u rfl rfl (TX.assign rfl rfl ?_)
    refine TO.u rfl rfl (TX.assign rfl rfl ?_)
    refine TO.nil ?_
    refine TE.thenN rfl rfl ?_
    refine TC.ret ?_
    refine TE.thenR ?_
    exact TE.fin (R := ⟨[], []⟩) (TL.ret (R' := ⟨[], []⟩) Try.results15 (.cons (.tmp rfl) (.cons (.tmp rfl) .nil)) (subD 0 1 rfl rfl) ⟨congrArg ret15 (Option.some.inj h), rfl⟩)
  · replace h := ie h hb10
    refine TC.skip ?_
    refine TE.thenN rfl rfl ?_
    refine TC.seq ?_
    refine TC.keep (L' := [(1, .int .i64 p1), (6, .slice sp2 n3 cap4)]) ⟨rfl, rfl, trivial⟩ ?_
    obtain ⟨hk11, h⟩ := ck h
    refine TC.draw hmix 11 [.slice sp2 n3 cap4, .int .i64 p1, .pointer (some (eAddr sp2 ((p1).toNat * S__2_int.E.sz + 0))), .pointer (some (eAddr sp2 ((p1).toNat * S__2_int.E.sz + 0))), .int .i64 ((gt v1 p1).e0), .slice sp2 n3 cap4, .int .i64 p1, .pointer (some (eAddr sp2 ((p1).toNat * S__2_int.E.sz + 0))), .pointer (some (eAddr sp2 ((p1).toNat * S__2_int.E.sz + 1))), .int .i64 ((gt v1 p1).e1), .int .i64 ((gt v1 p1).e0)] [(26, .int .i64 ((gt v1 p1).e1)), (4, .int .i64 ((gt v1 p1).e0))] rfl rfl rfl rfl ?_ (.cons 9 rfl rfl rfl (.cons 10 rfl rfl rfl .nil)) ?_
    · refine QAll.u [(6, .slice sp2 n3 cap4)] (.old rfl .nil) rfl rfl (QV.move rfl).s rfl ?_
      refine QAll.u [(1, .int .i64 p1)] (.old rfl .nil) rfl rfl (QV.move rfl).s rfl ?_
      refine QAll.u [(17, .slice sp2 n3 cap4), (18, .int .i64 p1)] (.dat 0 rfl rfl rfl (.dat 1 rfl rfl rfl .nil)) rfl rfl (QV.indexR (N := S__2_int.E) Try.runUnderlying49 Try.sizeOf51 rfl hn5 rfl (fun a w s => ho7.rd s (i := 0) rfl) hk11).s rfl ?_
      refine QAll.u [(19, .pointer (some (eAddr sp2 ((p1).toNat * S__2_int.E.sz + 0))))] (.dat 2 rfl rfl rfl .nil) rfl rfl (QV.indexE (i := 0) Try.runUnderlying51 Try.sizeOf3 rfl rfl rfl rfl).s rfl ?_
      refine QAll.u [(20, .pointer (some (eAddr sp2 ((p1).toNat * S__2_int.E.sz + 0))))] (.dat 3 rfl rfl rfl .nil) rfl rfl (QV.loadR1 (N := S__2_int.E) Try.isAgg3 rfl (fun a w s => ho7.rd s (i := 0) rfl) hk11 rfl).s rfl ?_
      refine QAll.u [(6, .slice sp2 n3 cap4)] (.old rfl .nil) rfl rfl (QV.move rfl).s rfl ?_
      refine QAll.u [(1, .int .i64 p1)] (.old rfl .nil) rfl rfl (QV.move rfl).s rfl ?_
      refine QAll.u [(22, .slice sp2 n3 cap4), (23, .int .i64 p1)] (.dat 5 rfl rfl rfl (.dat 6 rfl rfl rfl .nil)) rfl rfl (QV.indexR (N := S__2_int.E) Try.runUnderlying49 Try.sizeOf51 rfl hn5 rfl (fun a w s => ho7.rd s (i := 0) rfl) hk11).s rfl ?_
      refine QAll.u [(24, .pointer (some (eAddr sp2 ((p1).toNat * S__2_int.E.sz + 0))))] (.dat 7 rfl rfl rfl .nil) rfl rfl (QV.indexE (i := 1) Try.runUnderlying51 Try.sizeOf3 rfl rfl rfl rfl).s rfl ?_
      refine QAll.u [(25, .pointer (some (eAddr sp2 ((p1).toNat * S__2_int.E.sz + 1))))] (.dat 8 rfl rfl rfl .nil) rfl rfl (QV.loadR1 (N := S__2_int.E) Try.isAgg3 rfl (fun a w s => ho7.rd s (i := 0) rfl) hk11 rfl).s rfl ?_
      refine QAll.u [(21, .int .i64 ((gt v1 p1).e0))] (.dat 4 rfl rfl rfl .nil) rfl rfl (QV.assign rfl).s rfl ?_
      exact QAll.nil
    refine TO.u rfl rfl (TX.assign rfl rfl ?_)
    refine TO.nil ?_
    refine TE.thenN rfl rfl ?_
    refine TC.ret ?_
    exact TE.fin (R := ⟨[], []⟩) (TL.ret (R' := ⟨[], []⟩) Try.results15 (.cons (.tmp rfl) (.cons (.tmp rfl) .nil)) (subD 0 1 rfl rfl) ⟨congrArg ret15 (Option.some.inj h), rfl⟩)
def fn3_l1 (v3 : Int) : Nat → (List Instr) → Int → Option ((List Instr))
  | 0, _, _ => none
  | n50 + 1, x29, x37 => (bif decide (x37 < (IntKind.i64.wrap ((4095 : Int) + v3))) then (bif inb x37 x29.length then (fn3_l1 v3 n50 (x29.set x37.toNat (⟨183, 0, 0, 0, 0⟩ : Instr)) (IntKind.i64.wrap (x37 + 1))) else none) else (some x29))
theorem fn3_l1_s (v3 : Int) (n50 : Nat) (x29 : List Instr) (x37 : Int) : fn3_l1 v3 (n50 + 1) x29 x37 = (bif decide (x37 < (IntKind.i64.wrap ((4095 : Int) + v3))) then (bif inb x37 x29.length then (fn3_l1 v3 n50 (x29.set x37.toNat (⟨183, 0, 0, 0, 0⟩ : Instr)) (IntKind.i64.wrap (x37 + 1))) else none) else (some x29)) := rfl
def fn3_k1 (F : Nat) (v3 : Int) (x39 : List Instr) : Option (Bool) :=
  (bif inb (IntKind.i64.wrap ((IntKind.i64.wrap ((4095 : Int) + v3)) - 1)) x39.length then (Option.bind (fn14 F (x39.set (IntKind.i64.wrap ((IntKind.i64.wrap ((4095 : Int) + v3)) - 1)).toNat (⟨149, 0, 0, 0, 0⟩ : Instr))) fun v62 => (Option.bind (fn14 F ([] : List Instr)) fun v63 => (Option.bind (fn15 F (x39.set (IntKind.i64.wrap ((IntKind.i64.wrap ((4095 : Int) + v3)) - 1)).toNat (⟨149, 0, 0, 0, 0⟩ : Instr)) 5) fun v64 => (some ((((((v62.2 == 0) == (decide ((IntKind.i64.wrap ((4095 : Int) + v3)) ≤ 4096))) && ((v62.2 == 0) || (v62.2 == 3))) && (v63.2 == 3)) && ((v64.1 == 6) == (decide ((IntKind.i64.wrap ((4095 : Int) + v3)) ≤ 4096)))) && (v64.2 == (-1))))))) else none)
theorem fn3_k1_s (F : Nat) (v3 : Int) (x39 : List Instr) : fn3_k1 F v3 x39 = (bif inb (IntKind.i64.wrap ((IntKind.i64.wrap ((4095 : Int) + v3)) - 1)) x39.length then (Option.bind (fn14 F (x39.set (IntKind.i64.wrap ((IntKind.i64.wrap ((4095 : Int) + v3)) - 1)).toNat (⟨149, 0, 0, 0, 0⟩ : Instr))) fun v62 => (Option.bind (fn14 F ([] : List Instr)) fun v63 => (Option.bind (fn15 F (x39.set (IntKind.i64.wrap ((IntKind.i64.wrap ((4095 : Int) + v3)) - 1)).toNat (⟨149, 0, 0, 0, 0⟩ : Instr)) 5) fun v64 => (some ((((((v62.2 == 0) == (decide ((IntKind.i64.wrap ((4095 : Int) + v3)) ≤ 4096))) && ((v62.2 == 0) || (v62.2 == 3))) && (v63.2 == 3)) && ((v64.1 == 6) == (decide ((IntKind.i64.wrap ((4095 : Int) + v3)) ≤ 4096)))) && (v64.2 == (-1))))))) else none) := rfl
/-- hatchway/hatchwaylaw03.ShapeLong -/
def fn3 (F : Nat) (p0 : Int) : Option (Bool) :=
  (Option.bind (fn12 F) fun v1 => (bif !v1 then (some false) else (Option.bind (fn13 p0 3) fun v3 => (bif decide (0 ≤ IntKind.i64.wrap ((4095 : Int) + v3)) && decide (IntKind.i64.wrap ((4095 : Int) + v3) ≤ IntKind.i64.wrap ((4095 : Int) + v3)) && decide ((12 : Int) * (IntKind.i64.wrap ((4095 : Int) + v3)) ≤ 281474976710656) && decide (IntKind.i64.wrap ((4095 : Int) + v3) ≤ 9223372036854775807) then (Option.bind (fn3_l1 v3 F (List.replicate (IntKind.i64.wrap ((4095 : Int) + v3)).toNat (⟨0, 0, 0, 0, 0⟩ : Instr)) 0) fun o47 => (fn3_k1 F v3 o47)) else none))))
def ret3 (r : Bool) : Value := .bool r
theorem c3 (F : Nat) (p0 : Int) (w : World) (r : Bool)  (h : fn3 F p0 = some r) : Ret Try.prog 3 [.int .i64 p0] w ⟨[], []⟩ (fun v R => v = ret3 r ∧ R = ⟨[], []⟩) := by
  unfold fn3 at h
  refine Ret.of_body Try.func3 rfl Try.ntmps3 rfl (fun _ hx => absurd hx List.not_mem_nil) List.nodup_nil ?_
  refine TC.seq ?_
  refine TC.region ?_
  refine TO.u rfl rfl (TX.assign rfl rfl ?_)
  refine TO.nil ?_
  refine TE.thenN rfl rfl ?_
  refine TC.seq ?_
  refine TC.seq ?_
  refine TC.region ?_
  obtain ⟨v1, hv1, h⟩ := bd h
  refine TO.u rfl rfl (TX.callP Try.call12 rfl (fun a w s => c12 F _ _  hv1) rfl ?_)
  refine TO.u rfl rfl (TX.not rfl rfl ?_)
  refine TO.nil ?_
  refine TE.thenN rfl rfl ?_
  refine TC.cond rfl (fun hb2 => ?_) (fun hb2 => ?_)
  · replace h := it h hb2
    refine TC.seq ?_
    refine TC.region ?_
    refine TO.u rfl rfl (TX.assign rfl rfl ?_)
    refine TO.nil ?_
    refine TE.thenN rfl rfl ?_
    refine TC.ret ?_
    refine TE.thenR ?_
    exact TE.fin (R := ⟨[], []⟩) (TL.ret (R' := ⟨[], []⟩) Try.results3 (.cons (.tmp rfl) .nil) (subD 0 0 rfl rfl) ⟨congrArg ret3 (Option.some.inj h), rfl⟩)
  · replace h := ie h hb2
    refine TC.skip ?_
    refine TE.thenN rfl rfl ?_
    refine TC.seq ?_
    refine TC.region ?_
    refine TO.u rfl rfl (TX.move rfl rfl ?_)
    obtain ⟨v3, hv3, h⟩ := bd h
    refine TO.u rfl rfl (TX.callP Try.call13 rfl (fun a w s => c13 p0 3 _ _  hv3) rfl ?_)
    refine TO.u rfl rfl (TX.ibin rfl rfl rfl rfl ?_)
    refine TO.u rfl rfl (TX.assign rfl rfl ?_)
    refine TO.nil ?_
    refine TE.thenN rfl rfl ?_
    refine TC.seq ?_
    refine TC.region ?_
    refine TO.u rfl rfl (TX.move rfl rfl ?_)
    obtain ⟨hk4, h⟩ := ck h
    refine TO.u rfl rfl (TX.makeS (N := Instr.E) (z := (⟨0, 0, 0, 0, 0⟩ : Instr)) Try.runUnderlying24 Try.typeInfo27 rfl rfl rfl rfl rfl rfl hk4 rfl (fun sp5 Hs7 ho8 => ?_))
    refine TO.u rfl rfl (TX.assign rfl rfl ?_)
    refine TO.nil ?_
    refine TE.thenN rfl rfl ?_
    refine TC.seq ?_
    refine TC.seq ?_
    refine TC.region ?_
    refine TO.u rfl rfl (TX.assign rfl rfl ?_)
    refine TO.nil ?_
    refine TE.thenN rfl rfl ?_
    refine TC.block ?_
    obtain ⟨o47, hl48, h⟩ := bd h
    refine TC.to (L' := [(3, .int .i64 (IntKind.i64.wrap ((4095 : Int) + v3))), (4, .slice sp5 ((IntKind.i64.wrap ((4095 : Int) + v3)).toNat) ((IntKind.i64.wrap ((4095 : Int) + v3)).toNat)), (5, .int .i64 0)]) (E' := []) (S' := [Hs7]) 0 0 ⟨rfl, rfl, rfl, trivial⟩ rfl rfl ?_
    refine TC.cutE 0 (fun L' H' => ∃ x39 : List Instr, x39 = o47 ∧ ∃ sp40 n41 cap42 Hs44, OwnL Instr.E 27 sp40 cap42 x39 Hs44 ∧ x39.length = n41 ∧ L' = [(3, .int .i64 (IntKind.i64.wrap ((4095 : Int) + v3))), (4, .slice sp40 n41 cap42)] ∧ H' = ⟨[], [Hs44]⟩) ?_ ?_
    · have h052 := h
      clear h
      refine TC.loop (fun (n : Nat) (s : (List Instr) × Int) => fn3_l1 v3 n s.1 s.2) o47 (fun _ => rfl) (fun (s : (List Instr) × Int) L' H' => match s with | (x29, x37) => ∃ sp30 n31 cap32 Hs34, OwnL Instr.E 27 sp30 cap32 x29 Hs34 ∧ x29.length = n31 ∧ L' = [(3, .int .i64 (IntKind.i64.wrap ((4095 : Int) + v3))), (4, .slice sp30 n31 cap32), (5, .int .i64 x37)] ∧ H' = ⟨[], [Hs34]⟩) ?_ F (List.replicate (IntKind.i64.wrap ((4095 : Int) + v3)).toNat (⟨0, 0, 0, 0, 0⟩ : Instr), 0) ⟨sp5, ((IntKind.i64.wrap ((4095 : Int) + v3)).toNat), ((IntKind.i64.wrap ((4095 : Int) + v3)).toNat), Hs7, ho8, List.length_replicate, rfl, rfl⟩ hl48
      clear hl48
      rintro K49 n50 ⟨x29, x37⟩ _ _ ⟨sp30, n31, cap32, Hs34, ho35, hn33, rfl, rfl⟩ h ih51
      replace h := (fn3_l1_s v3 n50 x29 x37).symm.trans h
      refine TC.seq ?_
      refine TC.seq ?_
      refine TC.region ?_
      refine TO.u rfl rfl (TX.move rfl rfl ?_)
      refine TO.u rfl rfl (TX.move rfl rfl ?_)
      refine TO.u rfl rfl (TX.ibin rfl rfl rfl rfl ?_)
      refine TO.nil ?_
      refine TE.thenN rfl rfl ?_
      refine TC.cond rfl (fun hb53 => ?_) (fun hb53 => ?_)
      · replace h := it h hb53
        refine TC.skip ?_
        refine TE.thenN rfl rfl ?_
        refine TC.seq ?_
        refine TC.block ?_
        refine TC.region ?_
        refine TO.u rfl rfl (TX.move rfl rfl ?_)
        refine TO.u rfl rfl (TX.move rfl rfl ?_)
        refine TO.u rfl rfl (TX.build Try.zeroValue27 rfl Try.runUnderlying27 (.cons Try.sizeOf5 (.cons Try.sizeOf5 (.cons Try.sizeOf5 (.cons Try.sizeOf25 (.cons Try.sizeOf21 .nil))))) rfl rfl rfl ?_)
        obtain ⟨hk54, h⟩ := ck h
        refine TO.u rfl rfl (TX.indexR (N := Instr.E) Try.runUnderlying24 Try.sizeOf27 rfl hn33 rfl (fun a w s => ho35.rd s (i := 0) rfl) hk54 rfl ?_)
        refine TO.u rfl rfl (TX.storeS (N := Instr.E) (si := 0) (u := (⟨183, 0, 0, 0, 0⟩ : Instr)) Try.sizeOf27 rfl rfl rfl rfl rfl rfl ho35 hk54 rfl (fun Hs55 _ S56 ho57 => ?_))
        cases S56
        refine TO.nil ?_
        refine TE.blockN ?_
        refine TE.thenN rfl rfl ?_
        refine TC.region ?_
        refine TO.u rfl rfl (TX.move rfl rfl ?_)
        refine TO.u rfl rfl (TX.ibin rfl rfl rfl rfl ?_)
        refine TO.u rfl rfl (TX.assign rfl rfl ?_)
        refine TO.nil ?_
        exact TE.to (L' := [(3, .int .i64 (IntKind.i64.wrap ((4095 : Int) + v3))), (4, .slice sp30 n31 cap32), (5, .int .i64 (IntKind.i64.wrap (x37 + 1)))]) (E' := []) (S' := [Hs55]) 0 0 ⟨rfl, rfl, rfl, trivial⟩ rfl rfl (ih51 (x29.set x37.toNat (⟨183, 0, 0, 0, 0⟩ : Instr), IntKind.i64.wrap (x37 + 1)) _ _ ⟨sp30, n31, cap32, Hs55, ho57, (List.length_set.trans hn33), rfl, rfl⟩ h)
      · replace h := ie h hb53
        refine TC.exit ?_
        refine TE.thenX ?_
        exact TE.loopX (TE.to (L' := [(3, .int .i64 (IntKind.i64.wrap ((4095 : Int) + v3))), (4, .slice sp30 n31 cap32)]) (E' := []) (S' := [Hs34]) 0 0 ⟨rfl, rfl, trivial⟩ rfl rfl (TE.cutE ⟨x29, Option.some.inj h, sp30, n31, cap32, Hs34, ho35, hn33, rfl, rfl⟩))
    · rintro _ _ ⟨x39, rfl, sp40, n41, cap42, Hs44, ho45, hn43, rfl, rfl⟩
      replace h := (fn3_k1_s F v3 x39).symm.trans h
      refine TE.blockH ?_
      refine TE.thenN rfl rfl ?_
      refine TC.seq ?_
      refine TC.region ?_
      refine TO.u rfl rfl (TX.move rfl rfl ?_)
      refine TO.u rfl rfl (TX.move rfl rfl ?_)
      refine TO.u rfl rfl (TX.ibin rfl rfl rfl rfl ?_)
      refine TO.u rfl rfl (TX.build Try.zeroValue27 rfl Try.runUnderlying27 (.cons Try.sizeOf5 (.cons Try.sizeOf5 (.cons Try.sizeOf5 (.cons Try.sizeOf25 (.cons Try.sizeOf21 .nil))))) rfl rfl rfl ?_)
      obtain ⟨hk58, h⟩ := ck h
      refine TO.u rfl rfl (TX.indexR (N := Instr.E) Try.runUnderlying24 Try.sizeOf27 rfl hn43 rfl (fun a w s => ho45.rd s (i := 0) rfl) hk58 rfl ?_)
      refine TO.u rfl rfl (TX.storeS (N := Instr.E) (si := 0) (u := (⟨149, 0, 0, 0, 0⟩ : Instr)) Try.sizeOf27 rfl rfl rfl rfl rfl rfl ho45 hk58 rfl (fun Hs59 _ S60 ho61 => ?_))
      cases S60
      refine TO.nil ?_
      refine TE.thenN rfl rfl ?_
      refine TC.seq ?_
      refine TC.region ?_
      refine TO.u rfl rfl (TX.move rfl rfl ?_)
      obtain ⟨v62, hv62, h⟩ := bd h
      refine TO.u rfl rfl (TX.callP Try.call14 rfl (fun a w s => c14 F _ _ _ (x39.set (IntKind.i64.wrap ((IntKind.i64.wrap ((4095 : Int) + v3)) - 1)).toNat (⟨149, 0, 0, 0, 0⟩ : Instr)) _ _ (List.length_set.trans hn43) ho61.le_cap (ho61.rdf0 s (i := 0) rfl) hv62) rfl ?_)
      refine TO.u rfl rfl (TX.move rfl rfl ?_)
      refine TO.u rfl rfl (TX.extract rfl rfl rfl ?_)
      refine TO.u rfl rfl (TX.extract rfl rfl rfl ?_)
      refine TO.u rfl rfl (TX.assign rfl rfl ?_)
      refine TO.u rfl rfl (TX.assign rfl rfl ?_)
      refine TO.nil ?_
      refine TE.thenN rfl rfl ?_
      refine TC.seq ?_
      refine TC.region ?_
      obtain ⟨v63, hv63, h⟩ := bd h
      refine TO.u rfl rfl (TX.callP Try.call14 rfl (fun a w s => c14 F _ _ _ ([] : List Instr) _ _ rfl (Nat.le_refl 0) RdF.nil hv63) rfl ?_)
      refine TO.u rfl rfl (TX.move rfl rfl ?_)
      refine TO.u rfl rfl (TX.extract rfl rfl rfl ?_)
      refine TO.u rfl rfl (TX.extract rfl rfl rfl ?_)
      refine TO.u rfl rfl (TX.assign rfl rfl ?_)
      refine TO.u rfl rfl (TX.assign rfl rfl ?_)
      refine TO.nil ?_
      refine TE.thenN rfl rfl ?_
      refine TC.seq ?_
      refine TC.region ?_
      refine TO.u rfl rfl (TX.move rfl rfl ?_)
      obtain ⟨v64, hv64, h⟩ := bd h
      refine TO.u rfl rfl (TX.callP Try.call15 rfl (fun a w s => c15 F _ _ _ (x39.set (IntKind.i64.wrap ((IntKind.i64.wrap ((4095 : Int) + v3)) - 1)).toNat (⟨149, 0, 0, 0, 0⟩ : Instr)) 5 _ _ (List.length_set.trans hn43) ho61.le_cap (ho61.rdf0 s (i := 0) rfl) hv64) rfl ?_)
      refine TO.u rfl rfl (TX.move rfl rfl ?_)
      refine TO.u rfl rfl (TX.extract rfl rfl rfl ?_)
      refine TO.u rfl rfl (TX.extract rfl rfl rfl ?_)
      refine TO.u rfl rfl (TX.assign rfl rfl ?_)
      refine TO.u rfl rfl (TX.assign rfl rfl ?_)
      refine TO.nil ?_
      refine TE.thenN rfl rfl ?_
      refine TC.seq ?_
      refine TC.region ?_
      refine TO.u rfl rfl (TX.move rfl rfl ?_)
      refine TO.u rfl rfl (TX.ibin rfl rfl rfl rfl ?_)
      refine TO.u rfl rfl (TX.move rfl rfl ?_)
      refine TO.u rfl rfl (TX.ibin rfl rfl rfl rfl ?_)
      refine TO.u rfl rfl (TX.beq Try.runUnderlying4 rfl rfl rfl ?_)
      refine TO.u rfl rfl (TX.move rfl rfl ?_)
      refine TO.cutS 7 [(59, .bool (((v62.2 == 0) == (decide ((IntKind.i64.wrap ((4095 : Int) + v3)) ≤ 4096))) && ((v62.2 == 0) || (v62.2 == 3))))] ?_ ?_
      · cases hc65 : ((v62.2 == 0) == (decide ((IntKind.i64.wrap ((4095 : Int) + v3)) ≤ 4096)))
        · refine TO.s rfl rfl rfl rfl rfl rfl ?_
          refine TO.s rfl rfl rfl rfl rfl rfl ?_
          refine TO.s rfl rfl rfl rfl rfl rfl ?_
          refine TO.su rfl rfl rfl rfl rfl ?_
          refine TO.su rfl rfl rfl rfl rfl ?_
          refine TO.s rfl rfl rfl rfl rfl rfl ?_
          refine TO.u rfl rfl (TX.pickF rfl rfl rfl ?_)
          exact TO.nil (TE.cutS 7 rfl rfl ⟨rfl, trivial⟩)
        · refine TO.g rfl rfl rfl rfl (TX.move rfl rfl ?_)
          refine TO.g rfl rfl rfl rfl (TX.ibin rfl rfl rfl rfl ?_)
          refine TO.g rfl rfl rfl rfl (TX.move rfl rfl ?_)
          cases hc66 : (v62.2 == 0)
          · refine TO.g rfl rfl rfl rfl (TX.move rfl rfl ?_)
            refine TO.g rfl rfl rfl rfl (TX.ibin rfl rfl rfl rfl ?_)
            refine TO.g rfl rfl rfl rfl (TX.pickF rfl rfl rfl ?_)
            refine TO.u rfl rfl (TX.pickT rfl rfl rfl ?_)
            exact TO.nil (TE.cutS 7 rfl rfl ⟨rfl, trivial⟩)
          · refine TO.s rfl rfl rfl rfl rfl rfl ?_
            refine TO.s rfl rfl rfl rfl rfl rfl ?_
            refine TO.g rfl rfl rfl rfl (TX.pickT rfl rfl rfl ?_)
            refine TO.u rfl rfl (TX.pickT rfl rfl rfl ?_)
            exact TO.nil (TE.cutS 7 rfl rfl ⟨rfl, trivial⟩)
      refine TO.u rfl rfl (TX.move rfl rfl ?_)
      refine TO.cutS 3 [(63, .bool ((((v62.2 == 0) == (decide ((IntKind.i64.wrap ((4095 : Int) + v3)) ≤ 4096))) && ((v62.2 == 0) || (v62.2 == 3))) && (v63.2 == 3)))] ?_ ?_
      · cases hc67 : (((v62.2 == 0) == (decide ((IntKind.i64.wrap ((4095 : Int) + v3)) ≤ 4096))) && ((v62.2 == 0) || (v62.2 == 3)))
        · refine TO.s rfl rfl rfl rfl rfl rfl ?_
          refine TO.s rfl rfl rfl rfl rfl rfl ?_
          refine TO.u rfl rfl (TX.pickF rfl rfl rfl ?_)
          exact TO.nil (TE.cutS 3 rfl rfl ⟨rfl, trivial⟩)
        · refine TO.g rfl rfl rfl rfl (TX.move rfl rfl ?_)
          refine TO.g rfl rfl rfl rfl (TX.ibin rfl rfl rfl rfl ?_)
          refine TO.u rfl rfl (TX.pickT rfl rfl rfl ?_)
          exact TO.nil (TE.cutS 3 rfl rfl ⟨rfl, trivial⟩)
      refine TO.u rfl rfl (TX.move rfl rfl ?_)
      refine TO.cutS 6 [(70, .bool (((((v62.2 == 0) == (decide ((IntKind.i64.wrap ((4095 : Int) + v3)) ≤ 4096))) && ((v62.2 == 0) || (v62.2 == 3))) && (v63.2 == 3)) && ((v64.1 == 6) == (decide ((IntKind.i64.wrap ((4095 : Int) + v3)) ≤ 4096)))))] ?_ ?_
      · cases hc68 : ((((v62.2 == 0) == (decide ((IntKind.i64.wrap ((4095 : Int) + v3)) ≤ 4096))) && ((v62.2 == 0) || (v62.2 == 3))) && (v63.2 == 3))
        · refine TO.s rfl rfl rfl rfl rfl rfl ?_
          refine TO.s rfl rfl rfl rfl rfl rfl ?_
          refine TO.s rfl rfl rfl rfl rfl rfl ?_
          refine TO.s rfl rfl rfl rfl rfl rfl ?_
          refine TO.s rfl rfl rfl rfl rfl rfl ?_
          refine TO.u rfl rfl (TX.pickF rfl rfl rfl ?_)
          exact TO.nil (TE.cutS 6 rfl rfl ⟨rfl, trivial⟩)
        · refine TO.g rfl rfl rfl rfl (TX.move rfl rfl ?_)
          refine TO.g rfl rfl rfl rfl (TX.ibin rfl rfl rfl rfl ?_)
          refine TO.g rfl rfl rfl rfl (TX.move rfl rfl ?_)
          refine TO.g rfl rfl rfl rfl (TX.ibin rfl rfl rfl rfl ?_)
          refine TO.g rfl rfl rfl rfl (TX.beq Try.runUnderlying4 rfl rfl rfl ?_)
          refine TO.u rfl rfl (TX.pickT rfl rfl rfl ?_)
          exact TO.nil (TE.cutS 6 rfl rfl ⟨rfl, trivial⟩)
      refine TO.u rfl rfl (TX.move rfl rfl ?_)
      refine TO.cutS 3 [(74, .bool ((((((v62.2 == 0) == (decide ((IntKind.i64.wrap ((4095 : Int) + v3)) ≤ 4096))) && ((v62.2 == 0) || (v62.2 == 3))) && (v63.2 == 3)) && ((v64.1 == 6) == (decide ((IntKind.i64.wrap ((4095 : Int) + v3)) ≤ 4096)))) && (v64.2 == (-1))))] ?_ ?_
      · cases hc69 : (((((v62.2 == 0) == (decide ((IntKind.i64.wrap ((4095 : Int) + v3)) ≤ 4096))) && ((v62.2 == 0) || (v62.2 == 3))) && (v63.2 == 3)) && ((v64.1 == 6) == (decide ((IntKind.i64.wrap ((4095 : Int) + v3)) ≤ 4096))))
        · refine TO.s rfl rfl rfl rfl rfl rfl ?_
          refine TO.s rfl rfl rfl rfl rfl rfl ?_
          refine TO.u rfl rfl (TX.pickF rfl rfl rfl ?_)
          exact TO.nil (TE.cutS 3 rfl rfl ⟨rfl, trivial⟩)
        · refine TO.g rfl rfl rfl rfl (TX.move rfl rfl ?_)
          refine TO.g rfl rfl rfl rfl (TX.ibin rfl rfl rfl rfl ?_)
          refine TO.u rfl rfl (TX.pickT rfl rfl rfl ?_)
          exact TO.nil (TE.cutS 3 rfl rfl ⟨rfl, trivial⟩)
      refine TO.u rfl rfl (TX.assign rfl rfl ?_)
      refine TO.nil ?_
      refine TE.thenN rfl rfl ?_
      refine TC.ret ?_
      exact TE.fin (R := ⟨[], []⟩) (TL.ret (R' := ⟨[], []⟩) Try.results3 (.cons (.tmp rfl) .nil) (subD 0 1 rfl rfl) ⟨congrArg ret3 (Option.some.inj h), rfl⟩)
end Go.Proofs.Ytbpldfhehpjbaaa
