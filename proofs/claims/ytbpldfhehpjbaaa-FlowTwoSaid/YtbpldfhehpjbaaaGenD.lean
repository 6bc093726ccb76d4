/- Each Go function of this part computes the plain function beside it (walks, written by program). -/
import Derived.Test.YtbpldfhehpjbaaaGenC
namespace Go.Proofs.Ytbpldfhehpjbaaa
open Go Go.HW Go.MapKept
set_option maxRecDepth 4000
set_option linter.unusedVariables false
def fn49_l3 (p0 : List Edge) (p2 : List Bool) : Nat → (List Bool) → Bool → Int → Option ((List Bool) × Bool)
  | 0, _, _, _ => none
  | n219 + 1, x204, x208, x209 => (bif decide (x209 < (p0.length : Int)) then (bif inb x209 p0.length then (bif inb ((gt p0 x209).fFrom) p2.length then (bif bif gt p2 ((gt p0 x209).fFrom) then true else (inb ((gt p0 x209).fFrom) x204.length) then (bif bif (gt p2 ((gt p0 x209).fFrom)) || (gt x204 ((gt p0 x209).fFrom)) then (inb ((gt p0 x209).fTo) x204.length) else true then (bif ((gt p2 ((gt p0 x209).fFrom)) || (gt x204 ((gt p0 x209).fFrom))) && (!(gt x204 ((gt p0 x209).fTo))) then (bif inb ((gt p0 x209).fTo) x204.length then ((fn49_l3 p0 p2 n219) (x204.set ((gt p0 x209).fTo).toNat true) true (IntKind.i64.wrap (x209 + 1))) else none) else ((fn49_l3 p0 p2 n219) x204 x208 (IntKind.i64.wrap (x209 + 1)))) else none) else none) else none) else none) else (some (x204, x208)))
theorem fn49_l3_s (p0 : List Edge) (p2 : List Bool) (n219 : Nat) (x204 : List Bool) (x208 : Bool) (x209 : Int) : fn49_l3 p0 p2 (n219 + 1) x204 x208 x209 = (bif decide (x209 < (p0.length : Int)) then (bif inb x209 p0.length then (bif inb ((gt p0 x209).fFrom) p2.length then (bif bif gt p2 ((gt p0 x209).fFrom) then true else (inb ((gt p0 x209).fFrom) x204.length) then (bif bif (gt p2 ((gt p0 x209).fFrom)) || (gt x204 ((gt p0 x209).fFrom)) then (inb ((gt p0 x209).fTo) x204.length) else true then (bif ((gt p2 ((gt p0 x209).fFrom)) || (gt x204 ((gt p0 x209).fFrom))) && (!(gt x204 ((gt p0 x209).fTo))) then (bif inb ((gt p0 x209).fTo) x204.length then ((fn49_l3 p0 p2 n219) (x204.set ((gt p0 x209).fTo).toNat true) true (IntKind.i64.wrap (x209 + 1))) else none) else ((fn49_l3 p0 p2 n219) x204 x208 (IntKind.i64.wrap (x209 + 1)))) else none) else none) else none) else none) else (some (x204, x208))) := rfl
def fn49_k3 (rl2 : (List Bool) → Bool → Option ((List Bool))) (x211 : List Bool) (x215 : Bool) : Option ((List Bool)) :=
  (rl2 x211 x215)
theorem fn49_k3_s (rl2 : (List Bool) → Bool → Option ((List Bool))) (x211 : List Bool) (x215 : Bool) : fn49_k3 rl2 x211 x215 = (rl2 x211 x215) := rfl
def fn49_l2 (F : Nat) (p0 : List Edge) (p2 : List Bool) : Nat → (List Bool) → Bool → Option ((List Bool))
  | 0, _, _ => none
  | n172 + 1, x159, x163 => (bif x163 then (Option.bind (fn49_l3 p0 p2 F x159 false 0) fun o216 => (fn49_k3 (fn49_l2 F p0 p2 n172) o216.1 o216.2)) else (some x159))
theorem fn49_l2_s (F : Nat) (p0 : List Edge) (p2 : List Bool) (n172 : Nat) (x159 : List Bool) (x163 : Bool) : fn49_l2 F p0 p2 (n172 + 1) x159 x163 = (bif x163 then (Option.bind (fn49_l3 p0 p2 F x159 false 0) fun o216 => (fn49_k3 (fn49_l2 F p0 p2 n172) o216.1 o216.2)) else (some x159)) := rfl
def fn49_k2 (x165 : List Bool) : Option ((List Bool)) :=
  (some x165)
theorem fn49_k2_s (x165 : List Bool) : fn49_k2 x165 = (some x165) := rfl
def fn49_l1 (p1 : Int) (p2 : List Bool) (p3 : Bool) : Nat → (List Bool) → Int → Option ((List Bool))
  | 0, _, _ => none
  | n37 + 1, x24, x28 => (bif decide (x28 < p1) then (bif bif p3 then (inb x28 p2.length) else true then (bif inb x28 x24.length then ((fn49_l1 p1 p2 p3 n37) (x24.set x28.toNat (p3 && (gt p2 x28))) (IntKind.i64.wrap (x28 + 1))) else none) else none) else (some x24))
theorem fn49_l1_s (p1 : Int) (p2 : List Bool) (p3 : Bool) (n37 : Nat) (x24 : List Bool) (x28 : Int) : fn49_l1 p1 p2 p3 (n37 + 1) x24 x28 = (bif decide (x28 < p1) then (bif bif p3 then (inb x28 p2.length) else true then (bif inb x28 x24.length then ((fn49_l1 p1 p2 p3 n37) (x24.set x28.toNat (p3 && (gt p2 x28))) (IntKind.i64.wrap (x28 + 1))) else none) else none) else (some x24)) := rfl
def fn49_k1 (F : Nat) (p0 : List Edge) (p2 : List Bool) (x30 : List Bool) : Option ((List Bool)) :=
  (Option.bind (fn49_l2 F p0 p2 F x30 true) fun o169 => (fn49_k2 o169))
theorem fn49_k1_s (F : Nat) (p0 : List Edge) (p2 : List Bool) (x30 : List Bool) : fn49_k1 F p0 p2 x30 = (Option.bind (fn49_l2 F p0 p2 F x30 true) fun o169 => (fn49_k2 o169)) := rfl
/-- hatchway/hatchwayref24.from -/
def fn49 (F : Nat) (p0 : List Edge) (p1 : Int) (p2 : List Bool) (p3 : Bool) : Option ((List Bool)) :=
  (bif decide (0 ≤ p1) && decide (p1 ≤ p1) && decide ((1 : Int) * p1 ≤ 281474976710656) && decide (p1 ≤ 9223372036854775807) then (Option.bind (fn49_l1 p1 p2 p3 F (List.replicate p1.toNat false) 0) fun o34 => (fn49_k1 F p0 p2 o34)) else none)
def post49 (r : (List Bool)) (v : Value) (R : Hp) : Prop := ∃ sp n cap Hs, v = .slice sp n cap ∧ r.length = n ∧ R = ⟨[], [Hs]⟩ ∧ OwnL En.bool 4 sp cap r Hs
theorem c49 (F : Nat) (sp_0 : Option Addr) (n_0 cap_0 : Nat) (p0 : List Edge) (p1 : Int) (sp_2 : Option Addr) (n_2 cap_2 : Nat) (p2 : List Bool) (p3 : Bool) (w : World) (r : (List Bool)) (qn0 : p0.length = n_0) (qc0 : p0.length ≤ cap_0) (qp0 : RdF Edge.E w [] sp_0 p0) (qn2 : p2.length = n_2) (qc2 : p2.length ≤ cap_2) (qp2 : RdF En.bool w [] sp_2 p2) (h : fn49 F p0 p1 p2 p3 = some r) : Ret Try.prog 49 [.slice sp_0 n_0 cap_0, .int .i64 p1, .slice sp_2 n_2 cap_2, .bool p3] w ⟨[], []⟩ (post49 r) := by
 unfold fn49 at h
 refine Ret.of_body Try.func49 rfl Try.ntmps49 rfl (fun _ hx => absurd hx List.not_mem_nil) List.nodup_nil (TC.seq (TC.region (TO.u rfl rfl (TX.assign rfl rfl (TO.nil (TE.thenN rfl rfl (TC.seq (TC.region (TO.u rfl rfl (TX.move rfl rfl ?_))))))))))
 obtain ⟨hk1, h⟩ := ck h
 refine TO.u rfl rfl (TX.makeS (N := En.bool) (z := false) Try.runUnderlying41 Try.typeInfo4 rfl rfl rfl rfl rfl rfl hk1 rfl (fun sp2 Hs4 ho5 => (TO.u rfl rfl (TX.assign rfl rfl (TO.nil (TE.thenN rfl rfl (TC.seq (TC.seq (TC.region (TO.u rfl rfl (TX.assign rfl rfl (TO.nil (TE.thenN rfl rfl (TC.block ?_))))))))))))))
 obtain ⟨o34, hl35, h⟩ := bd h
 refine TC.to (L' := [(0, .slice sp_0 n_0 cap_0), (1, .int .i64 p1), (2, .slice sp_2 n_2 cap_2), (3, .bool p3), (9, .slice sp2 p1.toNat p1.toNat), (10, .int .i64 0)]) (E' := []) (S' := [Hs4]) 0 0 ⟨rfl, rfl, rfl, rfl, rfl, rfl, trivial⟩ rfl rfl (TC.cutE 0 (fun L' H' => ∃ x30 : List Bool, x30 = o34 ∧ ∃ Hs32, OwnL En.bool 4 sp2 p1.toNat x30 Hs32 ∧ x30.length = p1.toNat ∧ L' = [(0, .slice sp_0 n_0 cap_0), (2, .slice sp_2 n_2 cap_2), (9, .slice sp2 p1.toNat p1.toNat)] ∧ H' = ⟨[], [Hs32]⟩) ?_ ?_)
 · have h039 := h
   clear h
   refine TC.loop (fun (n : Nat) (s : (List Bool) × Int) => fn49_l1 p1 p2 p3 n s.1 s.2) o34 (fun _ => rfl) (fun (s : (List Bool) × Int) L' H' => match s with | (x24, x28) => ∃ Hs26, OwnL En.bool 4 sp2 p1.toNat x24 Hs26 ∧ x24.length = p1.toNat ∧ L' = [(0, .slice sp_0 n_0 cap_0), (1, .int .i64 p1), (2, .slice sp_2 n_2 cap_2), (3, .bool p3), (9, .slice sp2 p1.toNat p1.toNat), (10, .int .i64 x28)] ∧ H' = ⟨[], [Hs26]⟩) ?_ F (List.replicate p1.toNat false, 0) ⟨Hs4, ho5, List.length_replicate, rfl, rfl⟩ hl35
   clear hl35
   rintro K36 n37 ⟨x24, x28⟩ _ _ ⟨Hs26, ho27, hn25, rfl, rfl⟩ h ih38
   replace h := (fn49_l1_s p1 p2 p3 n37 x24 x28).symm.trans h
   refine TC.seq (TC.seq (TC.region (TO.u rfl rfl (TX.move rfl rfl (TO.u rfl rfl (TX.move rfl rfl (TO.u rfl rfl (TX.ibin rfl rfl rfl rfl (TO.nil (TE.thenN rfl rfl (TC.cond rfl (fun hb40 => ?_) (fun hb40 => ?_))))))))))))
   · replace h := it h hb40
     refine TC.skip (TE.thenN rfl rfl (TC.seq (TC.block (TC.region (TO.u rfl rfl (TX.move rfl rfl (TO.u rfl rfl (TX.move rfl rfl (TO.u rfl rfl (TX.move rfl rfl (TO.u rfl rfl (TX.move rfl rfl ?_))))))))))))
     obtain ⟨hk41, h⟩ := ck h
     refine TO.cutS 5 [(28, .bool (p3 && (gt p2 x28)))] ?_ ?_
     · cases hc42 : (p3)
       · exact TO.s rfl rfl rfl rfl rfl rfl (TO.s rfl rfl rfl rfl rfl rfl (TO.s rfl rfl rfl rfl rfl rfl (TO.s rfl rfl rfl rfl rfl rfl (TO.u rfl rfl (TX.pickF rfl rfl rfl (TO.nil (TE.cutS 5 rfl rfl ⟨rfl, trivial⟩)))))))
       exact TO.g rfl rfl rfl rfl (TX.move rfl rfl (TO.g rfl rfl rfl rfl (TX.move rfl rfl (TO.g rfl rfl rfl rfl (TX.indexR (N := En.bool) Try.runUnderlying41 Try.sizeOf4 rfl qn2 rfl (fun a w s => qp2 w s.ext) (cg hk41 hc42) rfl (TO.g rfl rfl rfl rfl (TX.loadR1 (N := En.bool) Try.isAgg4 rfl (fun a w s => qp2 w s.ext) (cg hk41 hc42) rfl rfl (TO.u rfl rfl (TX.pickT rfl rfl rfl (TO.nil (TE.cutS 5 rfl rfl ⟨rfl, trivial⟩)))))))))))
     obtain ⟨hk43, h⟩ := ck h
     refine TO.u rfl rfl (TX.indexR (N := En.bool) Try.runUnderlying41 Try.sizeOf4 rfl hn25 rfl (fun a w s => ho27.rd s (i := 0) rfl) hk43 rfl (TO.u rfl rfl (TX.storeS (N := En.bool) (si := 0) (u := p3 && (gt p2 x28)) Try.sizeOf4 rfl rfl rfl rfl rfl rfl ho27 hk43 rfl (fun Hs44 _ S45 ho46 => ?_))))
     cases S45
     exact TO.nil (TE.blockN (TE.thenN rfl rfl (TC.region (TO.u rfl rfl (TX.move rfl rfl (TO.u rfl rfl (TX.ibin rfl rfl rfl rfl (TO.u rfl rfl (TX.assign rfl rfl (TO.nil (TE.to (L' := [(0, .slice sp_0 n_0 cap_0), (1, .int .i64 p1), (2, .slice sp_2 n_2 cap_2), (3, .bool p3), (9, .slice sp2 p1.toNat p1.toNat), (10, .int .i64 (IntKind.i64.wrap (x28 + 1)))]) (E' := []) (S' := [Hs44]) 0 0 ⟨rfl, rfl, rfl, rfl, rfl, rfl, trivial⟩ rfl rfl (ih38 (x24.set x28.toNat (p3 && (gt p2 x28)), IntKind.i64.wrap (x28 + 1)) _ _ ⟨Hs44, ho46, (List.length_set.trans hn25), rfl, rfl⟩ h))))))))))))
   replace h := ie h hb40
   exact TC.exit (TE.thenX (TE.loopX (TE.to (L' := [(0, .slice sp_0 n_0 cap_0), (2, .slice sp_2 n_2 cap_2), (9, .slice sp2 p1.toNat p1.toNat)]) (E' := []) (S' := [Hs26]) 0 0 ⟨rfl, rfl, rfl, trivial⟩ rfl rfl (TE.cutE ⟨x24, Option.some.inj h, Hs26, ho27, hn25, rfl, rfl⟩))))
 rintro _ _ ⟨x30, rfl, Hs32, ho33, hn31, rfl, rfl⟩
 replace h := (fn49_k1_s F p0 p2 x30).symm.trans h
 refine TE.blockH (TE.thenN rfl rfl (TC.seq (TC.seq (TC.region (TO.u rfl rfl (TX.assign rfl rfl (TO.nil (TE.thenN rfl rfl (TC.block ?_)))))))))
 obtain ⟨o169, hl170, h⟩ := bd h
 refine TC.to (L' := [(0, .slice sp_0 n_0 cap_0), (2, .slice sp_2 n_2 cap_2), (9, .slice sp2 p1.toNat p1.toNat), (11, .bool true)]) (E' := []) (S' := [Hs32]) 0 0 ⟨rfl, rfl, rfl, rfl, trivial⟩ rfl rfl (TC.cutE 2 (fun L' H' => ∃ x165 : List Bool, x165 = o169 ∧ ∃ Hs167, OwnL En.bool 4 sp2 p1.toNat x165 Hs167 ∧ x165.length = p1.toNat ∧ L' = [(9, .slice sp2 p1.toNat p1.toNat)] ∧ H' = ⟨[], [Hs167]⟩) ?_ ?_)
 · have h0174 := h
   clear h
   refine TC.loop (fun (n : Nat) (s : (List Bool) × Bool) => fn49_l2 F p0 p2 n s.1 s.2) o169 (fun _ => rfl) (fun (s : (List Bool) × Bool) L' H' => match s with | (x159, x163) => ∃ Hs161, OwnL En.bool 4 sp2 p1.toNat x159 Hs161 ∧ x159.length = p1.toNat ∧ L' = [(0, .slice sp_0 n_0 cap_0), (2, .slice sp_2 n_2 cap_2), (9, .slice sp2 p1.toNat p1.toNat), (11, .bool x163)] ∧ H' = ⟨[], [Hs161]⟩) ?_ F (x30, true) ⟨Hs32, ho33, hn31, rfl, rfl⟩ hl170
   clear hl170
   rintro K171 n172 ⟨x159, x163⟩ _ _ ⟨Hs161, ho162, hn160, rfl, rfl⟩ h ih173
   replace h := (fn49_l2_s F p0 p2 n172 x159 x163).symm.trans h
   refine TC.seq (TC.seq (TC.region (TO.u rfl rfl (TX.move rfl rfl (TO.nil (TE.thenN rfl rfl (TC.cond rfl (fun hb175 => ?_) (fun hb175 => ?_))))))))
   · replace h := it h hb175
     refine TC.skip (TE.thenN rfl rfl (TC.block (TC.seq (TC.region (TO.u rfl rfl (TX.assign rfl rfl (TO.nil (TE.thenN rfl rfl (TC.seq (TC.region (TO.u rfl rfl (TX.assign rfl rfl (TO.nil (TE.thenN rfl rfl (TC.block ?_)))))))))))))))
     obtain ⟨o216, hl217, h⟩ := bd h
     refine TC.to (L' := [(0, .slice sp_0 n_0 cap_0), (2, .slice sp_2 n_2 cap_2), (9, .slice sp2 p1.toNat p1.toNat), (11, .bool false), (12, .int .i64 0)]) (E' := []) (S' := [Hs161]) 0 0 ⟨rfl, rfl, rfl, rfl, rfl, trivial⟩ rfl rfl (TC.cutE 4 (fun L' H' => ∃ x211 : List Bool, ∃ x215 : Bool, (x211, x215) = o216 ∧ ∃ Hs213, OwnL En.bool 4 sp2 p1.toNat x211 Hs213 ∧ x211.length = p1.toNat ∧ L' = [(0, .slice sp_0 n_0 cap_0), (2, .slice sp_2 n_2 cap_2), (9, .slice sp2 p1.toNat p1.toNat), (11, .bool x215)] ∧ H' = ⟨[], [Hs213]⟩) ?_ ?_)
     · have h0221 := h
       clear h
       refine TC.loop (fun (n : Nat) (s : (List Bool) × Bool × Int) => fn49_l3 p0 p2 n s.1 s.2.1 s.2.2) o216 (fun _ => rfl) (fun (s : (List Bool) × Bool × Int) L' H' => match s with | (x204, x208, x209) => ∃ Hs206, OwnL En.bool 4 sp2 p1.toNat x204 Hs206 ∧ x204.length = p1.toNat ∧ L' = [(0, .slice sp_0 n_0 cap_0), (2, .slice sp_2 n_2 cap_2), (9, .slice sp2 p1.toNat p1.toNat), (11, .bool x208), (12, .int .i64 x209)] ∧ H' = ⟨[], [Hs206]⟩) ?_ F (x159, false, 0) ⟨Hs161, ho162, hn160, rfl, rfl⟩ hl217
       clear hl217
       rintro K218 n219 ⟨x204, x208, x209⟩ _ _ ⟨Hs206, ho207, hn205, rfl, rfl⟩ h ih220
       replace h := (fn49_l3_s p0 p2 n219 x204 x208 x209).symm.trans h
       refine TC.seq (TC.seq (TC.region (TO.u rfl rfl (TX.move rfl rfl (TO.u rfl rfl (TX.move rfl rfl (TO.u rfl rfl (TX.lenS (xs := p0) Try.runUnderlying36 rfl qn0 rfl (TO.u rfl rfl (TX.ibin rfl rfl rfl rfl (TO.nil (TE.thenN rfl rfl (TC.cond rfl (fun hb222 => ?_) (fun hb222 => ?_))))))))))))))
       · replace h := it h hb222
         refine TC.skip (TE.thenN rfl rfl (TC.seq (TC.block (TC.seq (TC.region (TO.u rfl rfl (TX.move rfl rfl (TO.u rfl rfl (TX.move rfl rfl (TO.u rfl rfl (TX.move rfl rfl ?_)))))))))))
         obtain ⟨hk223, h⟩ := ck h
         refine TO.u rfl rfl (TX.indexR (N := Edge.E) Try.runUnderlying36 Try.sizeOf40 rfl qn0 rfl (fun a w s => qp0 w s.ext) hk223 rfl (TO.u rfl rfl (TX.fieldAddrE Try.runUnderlying40 rfl Try.sizeOf3 rfl rfl rfl (TO.u rfl rfl (TX.loadR1 (N := Edge.E) Try.isAgg3 rfl (fun a w s => qp0 w s.ext) hk223 rfl rfl ?_)))))
         obtain ⟨hk224, h⟩ := ck h
         refine TO.u rfl rfl (TX.indexR (N := En.bool) Try.runUnderlying41 Try.sizeOf4 rfl qn2 rfl (fun a w s => qp2 w s.ext) hk224 rfl (TO.u rfl rfl (TX.loadR1 (N := En.bool) Try.isAgg4 rfl (fun a w s => qp2 w s.ext) hk224 rfl rfl (TO.u rfl rfl (TX.move rfl rfl ?_)))))
         obtain ⟨hk225, h⟩ := ck h
         refine TO.cutS 9 [(54, .bool ((gt p2 ((gt p0 x209).fFrom)) || (gt x204 ((gt p0 x209).fFrom))))] ?_ ?_
         · cases hc226 : (gt p2 ((gt p0 x209).fFrom))
           · exact TO.g rfl rfl rfl rfl (TX.move rfl rfl (TO.g rfl rfl rfl rfl (TX.move rfl rfl (TO.g rfl rfl rfl rfl (TX.move rfl rfl (TO.g rfl rfl rfl rfl (TX.indexR (N := Edge.E) Try.runUnderlying36 Try.sizeOf40 rfl qn0 rfl (fun a w s => qp0 w s.ext) hk223 rfl (TO.g rfl rfl rfl rfl (TX.fieldAddrE Try.runUnderlying40 rfl Try.sizeOf3 rfl rfl rfl (TO.g rfl rfl rfl rfl (TX.loadR1 (N := Edge.E) Try.isAgg3 rfl (fun a w s => qp0 w s.ext) hk223 rfl rfl (TO.g rfl rfl rfl rfl (TX.indexR (N := En.bool) Try.runUnderlying41 Try.sizeOf4 rfl hn205 rfl (fun a w s => ho207.rd s (i := 0) rfl) (ce hk225 hc226) rfl (TO.g rfl rfl rfl rfl (TX.loadR1 (N := En.bool) Try.isAgg4 rfl (fun a w s => ho207.rd s (i := 0) rfl) (ce hk225 hc226) rfl rfl (TO.u rfl rfl (TX.pickF rfl rfl rfl (TO.nil (TE.cutS 9 rfl rfl ⟨rfl, trivial⟩)))))))))))))))))))
           exact TO.s rfl rfl rfl rfl rfl rfl (TO.s rfl rfl rfl rfl rfl rfl (TO.s rfl rfl rfl rfl rfl rfl (TO.s rfl rfl rfl rfl rfl rfl (TO.s rfl rfl rfl rfl rfl rfl (TO.s rfl rfl rfl rfl rfl rfl (TO.s rfl rfl rfl rfl rfl rfl (TO.s rfl rfl rfl rfl rfl rfl (TO.u rfl rfl (TX.pickT rfl rfl rfl (TO.nil (TE.cutS 9 rfl rfl ⟨rfl, trivial⟩)))))))))))
         refine TO.u rfl rfl (TX.move rfl rfl ?_)
         obtain ⟨hk227, h⟩ := ck h
         refine TO.cutS 10 [(65, .bool (((gt p2 ((gt p0 x209).fFrom)) || (gt x204 ((gt p0 x209).fFrom))) && (!(gt x204 ((gt p0 x209).fTo)))))] ?_ ?_
         · cases hc228 : ((gt p2 ((gt p0 x209).fFrom)) || (gt x204 ((gt p0 x209).fFrom)))
           · exact TO.s rfl rfl rfl rfl rfl rfl (TO.s rfl rfl rfl rfl rfl rfl (TO.s rfl rfl rfl rfl rfl rfl (TO.s rfl rfl rfl rfl rfl rfl (TO.s rfl rfl rfl rfl rfl rfl (TO.s rfl rfl rfl rfl rfl rfl (TO.s rfl rfl rfl rfl rfl rfl (TO.s rfl rfl rfl rfl rfl rfl (TO.s rfl rfl rfl rfl rfl rfl (TO.u rfl rfl (TX.pickF rfl rfl rfl (TO.nil (TE.cutS 10 rfl rfl ⟨rfl, trivial⟩))))))))))))
           exact TO.g rfl rfl rfl rfl (TX.move rfl rfl (TO.g rfl rfl rfl rfl (TX.move rfl rfl (TO.g rfl rfl rfl rfl (TX.move rfl rfl (TO.g rfl rfl rfl rfl (TX.indexR (N := Edge.E) Try.runUnderlying36 Try.sizeOf40 rfl qn0 rfl (fun a w s => qp0 w s.ext) hk223 rfl (TO.g rfl rfl rfl rfl (TX.fieldAddrE Try.runUnderlying40 rfl Try.sizeOf3 rfl rfl rfl (TO.g rfl rfl rfl rfl (TX.loadR1 (N := Edge.E) Try.isAgg3 rfl (fun a w s => qp0 w s.ext) hk223 rfl rfl (TO.g rfl rfl rfl rfl (TX.indexR (N := En.bool) Try.runUnderlying41 Try.sizeOf4 rfl hn205 rfl (fun a w s => ho207.rd s (i := 0) rfl) (cg hk227 hc228) rfl (TO.g rfl rfl rfl rfl (TX.loadR1 (N := En.bool) Try.isAgg4 rfl (fun a w s => ho207.rd s (i := 0) rfl) (cg hk227 hc228) rfl rfl (TO.g rfl rfl rfl rfl (TX.not rfl rfl (TO.u rfl rfl (TX.pickT rfl rfl rfl (TO.nil (TE.cutS 10 rfl rfl ⟨rfl, trivial⟩)))))))))))))))))))))
         refine TO.nil (TE.thenN rfl rfl (TC.cond rfl (fun hb229 => ?_) (fun hb229 => ?_)))
         · replace h := it h hb229
           refine TC.seq (TC.region (TO.u rfl rfl (TX.move rfl rfl (TO.u rfl rfl (TX.move rfl rfl (TO.u rfl rfl (TX.move rfl rfl (TO.u rfl rfl (TX.indexR (N := Edge.E) Try.runUnderlying36 Try.sizeOf40 rfl qn0 rfl (fun a w s => qp0 w s.ext) hk223 rfl (TO.u rfl rfl (TX.fieldAddrE Try.runUnderlying40 rfl Try.sizeOf3 rfl rfl rfl (TO.u rfl rfl (TX.loadR1 (N := Edge.E) Try.isAgg3 rfl (fun a w s => qp0 w s.ext) hk223 rfl rfl ?_)))))))))))))
           obtain ⟨hk230, h⟩ := ck h
           refine TO.u rfl rfl (TX.indexR (N := En.bool) Try.runUnderlying41 Try.sizeOf4 rfl hn205 rfl (fun a w s => ho207.rd s (i := 0) rfl) hk230 rfl (TO.u rfl rfl (TX.storeS (N := En.bool) (si := 0) (u := true) Try.sizeOf4 rfl rfl rfl rfl rfl rfl ho207 hk230 rfl (fun Hs231 _ S232 ho233 => ?_))))
           cases S232
           exact TO.nil (TE.thenN rfl rfl (TC.region (TO.u rfl rfl (TX.assign rfl rfl (TO.nil (TE.blockN (TE.thenN rfl rfl (TC.region (TO.u rfl rfl (TX.move rfl rfl (TO.u rfl rfl (TX.ibin rfl rfl rfl rfl (TO.u rfl rfl (TX.assign rfl rfl (TO.nil (TE.to (L' := [(0, .slice sp_0 n_0 cap_0), (2, .slice sp_2 n_2 cap_2), (9, .slice sp2 p1.toNat p1.toNat), (11, .bool true), (12, .int .i64 (IntKind.i64.wrap (x209 + 1)))]) (E' := []) (S' := [Hs231]) 0 0 ⟨rfl, rfl, rfl, rfl, rfl, trivial⟩ rfl rfl (ih220 (x204.set ((gt p0 x209).fTo).toNat true, true, IntKind.i64.wrap (x209 + 1)) _ _ ⟨Hs231, ho233, (List.length_set.trans hn205), rfl, rfl⟩ h)))))))))))))))))
         replace h := ie h hb229
         exact TC.skip (TE.blockN (TE.thenN rfl rfl (TC.region (TO.u rfl rfl (TX.move rfl rfl (TO.u rfl rfl (TX.ibin rfl rfl rfl rfl (TO.u rfl rfl (TX.assign rfl rfl (TO.nil (TE.to (L' := [(0, .slice sp_0 n_0 cap_0), (2, .slice sp_2 n_2 cap_2), (9, .slice sp2 p1.toNat p1.toNat), (11, .bool x208), (12, .int .i64 (IntKind.i64.wrap (x209 + 1)))]) (E' := []) (S' := [Hs206]) 0 0 ⟨rfl, rfl, rfl, rfl, rfl, trivial⟩ rfl rfl (ih220 (x204, x208, IntKind.i64.wrap (x209 + 1)) _ _ ⟨Hs206, ho207, hn205, rfl, rfl⟩ h))))))))))))
       replace h := ie h hb222
       exact TC.exit (TE.thenX (TE.loopX (TE.to (L' := [(0, .slice sp_0 n_0 cap_0), (2, .slice sp_2 n_2 cap_2), (9, .slice sp2 p1.toNat p1.toNat), (11, .bool x208)]) (E' := []) (S' := [Hs206]) 0 0 ⟨rfl, rfl, rfl, rfl, trivial⟩ rfl rfl (TE.cutE ⟨x204, x208, Option.some.inj h, Hs206, ho207, hn205, rfl, rfl⟩))))
     rintro _ _ ⟨x211, x215, rfl, Hs213, ho214, hn212, rfl, rfl⟩
     replace h := (fn49_k3_s (fn49_l2 F p0 p2 n172) x211 x215).symm.trans h
     exact TE.blockH (TE.blockN (TE.to (L' := [(0, .slice sp_0 n_0 cap_0), (2, .slice sp_2 n_2 cap_2), (9, .slice sp2 p1.toNat p1.toNat), (11, .bool x215)]) (E' := []) (S' := [Hs213]) 0 0 ⟨rfl, rfl, rfl, rfl, trivial⟩ rfl rfl (ih173 (x211, x215) _ _ ⟨Hs213, ho214, hn212, rfl, rfl⟩ h)))
   replace h := ie h hb175
   exact TC.exit (TE.thenX (TE.loopX (TE.to (L' := [(9, .slice sp2 p1.toNat p1.toNat)]) (E' := []) (S' := [Hs161]) 0 0 ⟨rfl, trivial⟩ rfl rfl (TE.cutE ⟨x159, Option.some.inj h, Hs161, ho162, hn160, rfl, rfl⟩))))
 rintro _ _ ⟨x165, rfl, Hs167, ho168, hn166, rfl, rfl⟩
 replace h := (fn49_k2_s x165).symm.trans h
 refine TE.blockH (TE.thenN rfl rfl (TC.seq (TC.region (TO.u rfl rfl (TX.move rfl rfl (TO.u rfl rfl (TX.assign rfl rfl (TO.nil (TE.thenN rfl rfl (TC.ret ?_))))))))))
 have hr := (Option.some.inj h)
 subst hr
 exact TE.fin (R := ⟨[], []⟩) (TL.ret (R' := ⟨[], [Hs167]⟩) Try.results49 (.cons (.tmp rfl) .nil) (segSub (i := 0) rfl) ⟨sp2, p1.toNat, p1.toNat, Hs167, rfl, hn166, rfl, ho168⟩)
/-- hatchway/hatchwayref24.Reached -/
def fn22 (F : Nat) (p0 : List Instr) : Option ((List Bool)) :=
  (Option.bind (fn29 F p0) fun v1 => (bif v1.2 != 0 then (some ([] : List Bool)) else (bif decide (0 ≤ (p0.length : Int)) && decide ((p0.length : Int) ≤ (p0.length : Int)) && decide ((1 : Int) * (p0.length : Int) ≤ 281474976710656) && decide ((p0.length : Int) ≤ 9223372036854775807) then (bif inb 0 (List.replicate (p0.length : Int).toNat false).length then (Option.bind (fn19 F p0) fun v12 => (Option.bind (fn49 F v12 (p0.length : Int) ((List.replicate (p0.length : Int).toNat false).set (0 : Int).toNat true) true) fun v20 => (some v20))) else none) else none)))
def post22 (r : (List Bool)) (v : Value) (R : Hp) : Prop := ∃ sp n cap Hs, v = .slice sp n cap ∧ r.length = n ∧ R = ⟨[], [Hs]⟩ ∧ OwnL En.bool 4 sp cap r Hs
theorem c22 (F : Nat) (sp_0 : Option Addr) (n_0 cap_0 : Nat) (p0 : List Instr) (w : World) (r : (List Bool)) (qn0 : p0.length = n_0) (qc0 : p0.length ≤ cap_0) (qp0 : RdF Instr.E w [] sp_0 p0) (h : fn22 F p0 = some r) : Ret Try.prog 22 [.slice sp_0 n_0 cap_0] w ⟨[], []⟩ (post22 r) := by
 unfold fn22 at h
 refine Ret.of_body Try.func22 rfl Try.ntmps22 rfl (fun _ hx => absurd hx List.not_mem_nil) List.nodup_nil (TC.seq (TC.region (TO.u rfl rfl (TX.assign rfl rfl (TO.nil (TE.thenN rfl rfl (TC.seq (TC.region (TO.u rfl rfl (TX.move rfl rfl ?_))))))))))
 obtain ⟨v1, hv1, h⟩ := bd h
 refine TO.u rfl rfl (TX.callP Try.call29 rfl (fun a w s => c29 F _ _ _ p0 _ _ qn0 qc0 (qp0.tr s.extB0) hv1) rfl (TO.u rfl rfl (TX.move rfl rfl (TO.u rfl rfl (TX.extract rfl rfl rfl (TO.u rfl rfl (TX.extract rfl rfl rfl (TO.u rfl rfl (TX.assign rfl rfl (TO.u rfl rfl (TX.assign rfl rfl (TO.nil (TE.thenN rfl rfl (TC.seq (TC.seq (TC.region (TO.u rfl rfl (TX.move rfl rfl (TO.u rfl rfl (TX.ibin rfl rfl rfl rfl (TO.nil (TE.thenN rfl rfl (TC.cond rfl (fun hb2 => ?_) (fun hb2 => ?_))))))))))))))))))))))))
 · replace h := it h hb2
   refine TC.seq (TC.region (TO.u rfl rfl (TX.assign rfl rfl (TO.nil (TE.thenN rfl rfl (TC.ret (TE.thenR ?_)))))))
   have hr := (Option.some.inj h)
   subst hr
   exact TE.fin (R := ⟨[], []⟩) (TL.ret (R' := ⟨[], [[]]⟩) Try.results22 (.cons (.tmp rfl) .nil) segSub0 ⟨none, 0, 0, [], rfl, rfl, rfl, (OwnL.nil En.bool 4)⟩)
 replace h := ie h hb2
 refine TC.skip (TE.thenN rfl rfl (TC.seq (TC.region (TO.u rfl rfl (TX.move rfl rfl (TO.u rfl rfl (TX.lenS (xs := p0) Try.runUnderlying24 rfl qn0 rfl ?_)))))))
 obtain ⟨hk3, h⟩ := ck h
 refine TO.u rfl rfl (TX.makeS (N := En.bool) (z := false) Try.runUnderlying41 Try.typeInfo4 rfl rfl rfl rfl rfl rfl hk3 rfl (fun sp4 Hs6 ho7 => (TO.u rfl rfl (TX.assign rfl rfl (TO.nil (TE.thenN rfl rfl (TC.seq (TC.region (TO.u rfl rfl (TX.move rfl rfl ?_))))))))))
 obtain ⟨hk8, h⟩ := ck h
 refine TO.u rfl rfl (TX.indexR (N := En.bool) Try.runUnderlying41 Try.sizeOf4 rfl List.length_replicate rfl (fun a w s => ho7.rd s (i := 0) rfl) hk8 rfl (TO.u rfl rfl (TX.storeS (N := En.bool) (si := 0) (u := true) Try.sizeOf4 rfl rfl rfl rfl rfl rfl ho7 hk8 rfl (fun Hs9 _ S10 ho11 => ?_))))
 cases S10
 refine TO.nil (TE.thenN rfl rfl (TC.seq (TC.region (TO.u rfl rfl (TX.move rfl rfl ?_)))))
 obtain ⟨v12, hv12, h⟩ := bd h
 refine TO.u rfl rfl (TX.callQ (post19 v12) Try.call19 rfl (fun a w s => c19 F _ _ _ p0 _ _ qn0 qc0 (qp0.tr s.extB0) hv12) rfl ?_)
 rintro _ _ ⟨sp13, n14, cap15, Hs17, rfl, hn16, rfl, ho18⟩
 refine TO.reH ⟨[], [Hs17, Hs9]⟩ rfl (TO.u rfl rfl (TX.move rfl rfl (TO.u rfl rfl (TX.lenS (xs := p0) Try.runUnderlying24 rfl qn0 rfl (TO.u rfl rfl (TX.move rfl rfl ?_))))))
 obtain ⟨v20, hv20, h⟩ := bd h
 refine TO.u rfl rfl (TX.callQ (post49 v20) Try.call49 rfl (fun a w s => c49 F _ _ _ v12 (p0.length : Int) _ _ _ ((List.replicate (p0.length : Int).toNat false).set (0 : Int).toNat true) true _ _ hn16 ho18.le_cap (ho18.rdf0 s (i := 0) rfl) (List.length_set.trans List.length_replicate) ho11.le_cap (ho11.rdf0 s (i := 1) rfl) hv20) rfl ?_)
 rintro _ _ ⟨sp21, n22, cap23, Hs25, rfl, hn24, rfl, ho26⟩
 refine TO.reH ⟨[], [Hs25, Hs17, Hs9]⟩ rfl (TO.u rfl rfl (TX.assign rfl rfl (TO.nil (TE.thenN rfl rfl (TC.ret ?_)))))
 have hr := (Option.some.inj h)
 subst hr
 exact TE.fin (R := ⟨[], []⟩) (TL.ret (R' := ⟨[], [Hs25]⟩) Try.results22 (.cons (.tmp rfl) .nil) (segSub (i := 0) rfl) ⟨sp21, n22, cap23, Hs25, rfl, hn24, rfl, ho26⟩)
def fn24_l3 (v9 : (List Edge)) (x302 : List Bool) (x307 : Int) : Nat → Bool → Int → Option (Bool)
  | 0, _, _ => none
  | n335 + 1, x328, x329 => (bif decide (x329 < (v9.length : Int)) then (bif bif x328 then true else (inb x329 v9.length) then (bif bif x328 then true else (bif ((gt v9 x329).fFrom) == x307 then (inb ((gt v9 x329).fTo) x302.length) else true) then ((fn24_l3 v9 x302 x307 n335) (x328 || ((((gt v9 x329).fFrom) == x307) && (gt x302 ((gt v9 x329).fTo)))) (IntKind.i64.wrap (x329 + 1))) else none) else none) else (some x328))
theorem fn24_l3_s (v9 : (List Edge)) (x302 : List Bool) (x307 : Int) (n335 : Nat) (x328 : Bool) (x329 : Int) : fn24_l3 v9 x302 x307 (n335 + 1) x328 x329 = (bif decide (x329 < (v9.length : Int)) then (bif bif x328 then true else (inb x329 v9.length) then (bif bif x328 then true else (bif ((gt v9 x329).fFrom) == x307 then (inb ((gt v9 x329).fTo) x302.length) else true) then ((fn24_l3 v9 x302 x307 n335) (x328 || ((((gt v9 x329).fFrom) == x307) && (gt x302 ((gt v9 x329).fTo)))) (IntKind.i64.wrap (x329 + 1))) else none) else none) else (some x328)) := rfl
def fn24_k3 (x302 : List Bool) (x306 : Bool) (x307 : Int) (rl2 : (List Bool) → Bool → Int → Option ((List Bool) × Bool)) (x331 : Bool) : Option ((List Bool) × Bool) :=
  (bif !x331 then (bif inb x307 x302.length then (rl2 (x302.set x307.toNat false) true (IntKind.i64.wrap (x307 + 1))) else none) else (rl2 x302 x306 (IntKind.i64.wrap (x307 + 1))))
theorem fn24_k3_s (x302 : List Bool) (x306 : Bool) (x307 : Int) (rl2 : (List Bool) → Bool → Int → Option ((List Bool) × Bool)) (x331 : Bool) : fn24_k3 x302 x306 x307 rl2 x331 = (bif !x331 then (bif inb x307 x302.length then (rl2 (x302.set x307.toNat false) true (IntKind.i64.wrap (x307 + 1))) else none) else (rl2 x302 x306 (IntKind.i64.wrap (x307 + 1)))) := rfl
def fn24_l2 (F : Nat) (v9 : (List Edge)) : Nat → (List Bool) → Bool → Int → Option ((List Bool) × Bool)
  | 0, _, _, _ => none
  | n317 + 1, x302, x306, x307 => (bif decide (x307 < (x302.length : Int)) then (bif inb x307 x302.length then (bif !(gt x302 x307) then ((fn24_l2 F v9 n317) x302 x306 (IntKind.i64.wrap (x307 + 1))) else (Option.bind (fn24_l3 v9 x302 x307 F false 0) fun o332 => (fn24_k3 x302 x306 x307 (fn24_l2 F v9 n317) o332))) else none) else (some (x302, x306)))
theorem fn24_l2_s (F : Nat) (v9 : (List Edge)) (n317 : Nat) (x302 : List Bool) (x306 : Bool) (x307 : Int) : fn24_l2 F v9 (n317 + 1) x302 x306 x307 = (bif decide (x307 < (x302.length : Int)) then (bif inb x307 x302.length then (bif !(gt x302 x307) then ((fn24_l2 F v9 n317) x302 x306 (IntKind.i64.wrap (x307 + 1))) else (Option.bind (fn24_l3 v9 x302 x307 F false 0) fun o332 => (fn24_k3 x302 x306 x307 (fn24_l2 F v9 n317) o332))) else none) else (some (x302, x306))) := rfl
def fn24_k2 (rl1 : (List Bool) → Bool → Option ((List Bool))) (x309 : List Bool) (x313 : Bool) : Option ((List Bool)) :=
  (rl1 x309 x313)
theorem fn24_k2_s (rl1 : (List Bool) → Bool → Option ((List Bool))) (x309 : List Bool) (x313 : Bool) : fn24_k2 rl1 x309 x313 = (rl1 x309 x313) := rfl
def fn24_l4 (x231 : List Bool) : Nat → Int → Option ((Unit) ⊕ (Bool))
  | 0, _ => none
  | n357 + 1, x352 => (bif decide (x352 < (x231.length : Int)) then (bif inb x352 x231.length then (bif gt x231 x352 then (some (.inr true)) else ((fn24_l4 x231 n357) (IntKind.i64.wrap (x352 + 1)))) else none) else (some (.inl ())))
theorem fn24_l4_s (x231 : List Bool) (n357 : Nat) (x352 : Int) : fn24_l4 x231 (n357 + 1) x352 = (bif decide (x352 < (x231.length : Int)) then (bif inb x352 x231.length then (bif gt x231 x352 then (some (.inr true)) else ((fn24_l4 x231 n357) (IntKind.i64.wrap (x352 + 1)))) else none) else (some (.inl ()))) := rfl
def fn24_k4 : Option (Bool) :=
  (some false)
theorem fn24_k4_s : fn24_k4  = (some false) := rfl
def fn24_l1 (F : Nat) (v9 : (List Edge)) : Nat → (List Bool) → Bool → Option ((List Bool))
  | 0, _, _ => none
  | n238 + 1, x225, x229 => (bif x229 then (Option.bind (fn24_l2 F v9 F x225 false 0) fun o314 => (fn24_k2 (fn24_l1 F v9 n238) o314.1 o314.2)) else (some x225))
theorem fn24_l1_s (F : Nat) (v9 : (List Edge)) (n238 : Nat) (x225 : List Bool) (x229 : Bool) : fn24_l1 F v9 (n238 + 1) x225 x229 = (bif x229 then (Option.bind (fn24_l2 F v9 F x225 false 0) fun o314 => (fn24_k2 (fn24_l1 F v9 n238) o314.1 o314.2)) else (some x225)) := rfl
def fn24_k1 (F : Nat) (x231 : List Bool) : Option (Bool) :=
  (Option.bind (fn24_l4 x231 F 0) fun o354 => (match o354 with | .inl u => fn24_k4  | .inr u => some u))
theorem fn24_k1_s (F : Nat) (x231 : List Bool) : fn24_k1 F x231 = (Option.bind (fn24_l4 x231 F 0) fun o354 => (match o354 with | .inl u => fn24_k4  | .inr u => some u)) := rfl
/-- hatchway/hatchwayref24.Loops -/
def fn24 (F : Nat) (p0 : List Instr) : Option (Bool) :=
  (Option.bind (fn22 F p0) fun v1 => (Option.bind (fn19 F p0) fun v9 => (Option.bind (fn24_l1 F v9 F v1 true) fun o235 => (fn24_k1 F o235))))
def ret24 (r : Bool) : Value := .bool r
theorem c24 (F : Nat) (sp_0 : Option Addr) (n_0 cap_0 : Nat) (p0 : List Instr) (w : World) (r : Bool) (qn0 : p0.length = n_0) (qc0 : p0.length ≤ cap_0) (qp0 : RdF Instr.E w [] sp_0 p0) (h : fn24 F p0 = some r) : Ret Try.prog 24 [.slice sp_0 n_0 cap_0] w ⟨[], []⟩ (fun v R => v = ret24 r ∧ R = ⟨[], []⟩) := by
 unfold fn24 at h
 refine Ret.of_body Try.func24 rfl Try.ntmps24 rfl (fun _ hx => absurd hx List.not_mem_nil) List.nodup_nil (TC.seq (TC.region (TO.u rfl rfl (TX.assign rfl rfl (TO.nil (TE.thenN rfl rfl (TC.seq (TC.region (TO.u rfl rfl (TX.move rfl rfl ?_))))))))))
 obtain ⟨v1, hv1, h⟩ := bd h
 refine TO.u rfl rfl (TX.callQ (post22 v1) Try.call22 rfl (fun a w s => c22 F _ _ _ p0 _ _ qn0 qc0 (qp0.tr s.extB0) hv1) rfl ?_)
 rintro _ _ ⟨sp2, n3, cap4, Hs6, rfl, hn5, rfl, ho7⟩
 refine TO.reH ⟨[], [Hs6]⟩ rfl (TO.u rfl rfl (TX.assign rfl rfl (TO.nil (TE.thenN rfl rfl (TC.seq (TC.region (TO.u rfl rfl (TX.move rfl rfl ?_))))))))
 obtain ⟨v9, hv9, h⟩ := bd h
 refine TO.u rfl rfl (TX.callQ (post19 v9) Try.call19 rfl (fun a w s => c19 F _ _ _ p0 _ _ qn0 qc0 (qp0.tr s.extB0) hv9) rfl ?_)
 rintro _ _ ⟨sp10, n11, cap12, Hs14, rfl, hn13, rfl, ho15⟩
 refine TO.reH ⟨[], [Hs14, Hs6]⟩ rfl (TO.u rfl rfl (TX.assign rfl rfl (TO.nil (TE.thenN rfl rfl (TC.seq (TC.seq (TC.region (TO.u rfl rfl (TX.assign rfl rfl (TO.nil (TE.thenN rfl rfl (TC.block ?_))))))))))))
 obtain ⟨o235, hl236, h⟩ := bd h
 refine TC.to (L' := [(3, .slice sp2 n3 cap4), (4, .slice sp10 n11 cap12), (5, .bool true)]) (E' := []) (S' := [Hs14, Hs6]) 0 0 ⟨rfl, rfl, rfl, trivial⟩ rfl rfl (TC.cutE 0 (fun L' H' => ∃ x231 : List Bool, x231 = o235 ∧ ∃ Hs233, OwnL En.bool 4 sp2 cap4 x231 Hs233 ∧ x231.length = n3 ∧ L' = [(3, .slice sp2 n3 cap4)] ∧ H' = ⟨[], [Hs14, Hs233]⟩) ?_ ?_)
 · have h0240 := h
   clear h
   refine TC.loop (fun (n : Nat) (s : (List Bool) × Bool) => fn24_l1 F v9 n s.1 s.2) o235 (fun _ => rfl) (fun (s : (List Bool) × Bool) L' H' => match s with | (x225, x229) => ∃ Hs227, OwnL En.bool 4 sp2 cap4 x225 Hs227 ∧ x225.length = n3 ∧ L' = [(3, .slice sp2 n3 cap4), (4, .slice sp10 n11 cap12), (5, .bool x229)] ∧ H' = ⟨[], [Hs14, Hs227]⟩) ?_ F (v1, true) ⟨Hs6, ho7, hn5, rfl, rfl⟩ hl236
   clear hl236
   rintro K237 n238 ⟨x225, x229⟩ _ _ ⟨Hs227, ho228, hn226, rfl, rfl⟩ h ih239
   replace h := (fn24_l1_s F v9 n238 x225 x229).symm.trans h
   refine TC.seq (TC.seq (TC.region (TO.u rfl rfl (TX.move rfl rfl (TO.nil (TE.thenN rfl rfl (TC.cond rfl (fun hb241 => ?_) (fun hb241 => ?_))))))))
   · replace h := it h hb241
     refine TC.skip (TE.thenN rfl rfl (TC.block (TC.seq (TC.region (TO.u rfl rfl (TX.assign rfl rfl (TO.nil (TE.thenN rfl rfl (TC.seq (TC.region (TO.u rfl rfl (TX.assign rfl rfl (TO.nil (TE.thenN rfl rfl (TC.block ?_)))))))))))))))
     obtain ⟨o314, hl315, h⟩ := bd h
     refine TC.to (L' := [(3, .slice sp2 n3 cap4), (4, .slice sp10 n11 cap12), (5, .bool false), (6, .int .i64 0)]) (E' := []) (S' := [Hs14, Hs227]) 0 0 ⟨rfl, rfl, rfl, rfl, trivial⟩ rfl rfl (TC.cutE 2 (fun L' H' => ∃ x309 : List Bool, ∃ x313 : Bool, (x309, x313) = o314 ∧ ∃ Hs311, OwnL En.bool 4 sp2 cap4 x309 Hs311 ∧ x309.length = n3 ∧ L' = [(3, .slice sp2 n3 cap4), (4, .slice sp10 n11 cap12), (5, .bool x313)] ∧ H' = ⟨[], [Hs14, Hs311]⟩) ?_ ?_)
     · have h0319 := h
       clear h
       refine TC.loop (fun (n : Nat) (s : (List Bool) × Bool × Int) => fn24_l2 F v9 n s.1 s.2.1 s.2.2) o314 (fun _ => rfl) (fun (s : (List Bool) × Bool × Int) L' H' => match s with | (x302, x306, x307) => ∃ Hs304, OwnL En.bool 4 sp2 cap4 x302 Hs304 ∧ x302.length = n3 ∧ L' = [(3, .slice sp2 n3 cap4), (4, .slice sp10 n11 cap12), (5, .bool x306), (6, .int .i64 x307)] ∧ H' = ⟨[], [Hs14, Hs304]⟩) ?_ F (x225, false, 0) ⟨Hs227, ho228, hn226, rfl, rfl⟩ hl315
       clear hl315
       rintro K316 n317 ⟨x302, x306, x307⟩ _ _ ⟨Hs304, ho305, hn303, rfl, rfl⟩ h ih318
       replace h := (fn24_l2_s F v9 n317 x302 x306 x307).symm.trans h
       refine TC.seq (TC.seq (TC.region (TO.u rfl rfl (TX.move rfl rfl (TO.u rfl rfl (TX.move rfl rfl (TO.u rfl rfl (TX.lenS (xs := x302) Try.runUnderlying41 rfl hn303 rfl (TO.u rfl rfl (TX.ibin rfl rfl rfl rfl (TO.nil (TE.thenN rfl rfl (TC.cond rfl (fun hb320 => ?_) (fun hb320 => ?_))))))))))))))
       · replace h := it h hb320
         refine TC.skip (TE.thenN rfl rfl (TC.seq (TC.block (TC.seq (TC.seq (TC.region (TO.u rfl rfl (TX.move rfl rfl (TO.u rfl rfl (TX.move rfl rfl ?_))))))))))
         obtain ⟨hk321, h⟩ := ck h
         refine TO.u rfl rfl (TX.indexR (N := En.bool) Try.runUnderlying41 Try.sizeOf4 rfl hn303 rfl (fun a w s => ho305.rd s (i := 1) rfl) hk321 rfl (TO.u rfl rfl (TX.loadR1 (N := En.bool) Try.isAgg4 rfl (fun a w s => ho305.rd s (i := 1) rfl) hk321 rfl rfl (TO.u rfl rfl (TX.not rfl rfl (TO.nil (TE.thenN rfl rfl (TC.cond rfl (fun hb322 => ?_) (fun hb322 => ?_)))))))))
         · replace h := it h hb322
           exact TC.exit (TE.thenX (TE.blockH (TE.thenN rfl rfl (TC.region (TO.u rfl rfl (TX.move rfl rfl (TO.u rfl rfl (TX.ibin rfl rfl rfl rfl (TO.u rfl rfl (TX.assign rfl rfl (TO.nil (TE.to (L' := [(3, .slice sp2 n3 cap4), (4, .slice sp10 n11 cap12), (5, .bool x306), (6, .int .i64 (IntKind.i64.wrap (x307 + 1)))]) (E' := []) (S' := [Hs14, Hs304]) 0 0 ⟨rfl, rfl, rfl, rfl, trivial⟩ rfl rfl (ih318 (x302, x306, IntKind.i64.wrap (x307 + 1)) _ _ ⟨Hs304, ho305, hn303, rfl, rfl⟩ h)))))))))))))
         replace h := ie h hb322
         refine TC.skip (TE.thenN rfl rfl (TC.seq (TC.region (TO.u rfl rfl (TX.assign rfl rfl (TO.nil (TE.thenN rfl rfl (TC.seq (TC.seq (TC.region (TO.u rfl rfl (TX.assign rfl rfl (TO.nil (TE.thenN rfl rfl (TC.block ?_)))))))))))))))
         obtain ⟨o332, hl333, h⟩ := bd h
         refine TC.to (L' := [(3, .slice sp2 n3 cap4), (4, .slice sp10 n11 cap12), (5, .bool x306), (6, .int .i64 x307), (7, .bool false), (8, .int .i64 0)]) (E' := []) (S' := [Hs14, Hs304]) 0 0 ⟨rfl, rfl, rfl, rfl, rfl, rfl, trivial⟩ rfl rfl (TC.cutE 4 (fun L' H' => ∃ x331 : Bool, x331 = o332 ∧ L' = [(3, .slice sp2 n3 cap4), (4, .slice sp10 n11 cap12), (5, .bool x306), (6, .int .i64 x307), (7, .bool x331)] ∧ H' = ⟨[], [Hs14, Hs304]⟩) ?_ ?_)
         · have h0337 := h
           clear h
           refine TC.loop (fun (n : Nat) (s : Bool × Int) => fn24_l3 v9 x302 x307 n s.1 s.2) o332 (fun _ => rfl) (fun (s : Bool × Int) L' H' => match s with | (x328, x329) => L' = [(3, .slice sp2 n3 cap4), (4, .slice sp10 n11 cap12), (5, .bool x306), (6, .int .i64 x307), (7, .bool x328), (8, .int .i64 x329)] ∧ H' = ⟨[], [Hs14, Hs304]⟩) ?_ F (false, 0) ⟨rfl, rfl⟩ hl333
           clear hl333
           rintro K334 n335 ⟨x328, x329⟩ _ _ ⟨rfl, rfl⟩ h ih336
           replace h := (fn24_l3_s v9 x302 x307 n335 x328 x329).symm.trans h
           refine TC.seq (TC.seq (TC.region (TO.u rfl rfl (TX.move rfl rfl (TO.u rfl rfl (TX.move rfl rfl (TO.u rfl rfl (TX.lenS (xs := v9) Try.runUnderlying36 rfl hn13 rfl (TO.u rfl rfl (TX.ibin rfl rfl rfl rfl (TO.nil (TE.thenN rfl rfl (TC.cond rfl (fun hb338 => ?_) (fun hb338 => ?_))))))))))))))
           · replace h := it h hb338
             refine TC.skip (TE.thenN rfl rfl (TC.seq (TC.block (TC.region (TO.u rfl rfl (TX.move rfl rfl (TO.u rfl rfl (TX.move rfl rfl ?_))))))))
             obtain ⟨hk339, h⟩ := ck h
             obtain ⟨hk340, h⟩ := ck h
             refine TO.cutS 18 [(51, .bool (x328 || ((((gt v9 x329).fFrom) == x307) && (gt x302 ((gt v9 x329).fTo)))))] ?_ ?_
             · cases hc341 : (x328)
               · refine TO.g rfl rfl rfl rfl (TX.move rfl rfl (TO.g rfl rfl rfl rfl (TX.move rfl rfl (TO.g rfl rfl rfl rfl (TX.indexR (N := Edge.E) Try.runUnderlying36 Try.sizeOf40 rfl hn13 rfl (fun a w s => ho15.rd s (i := 0) rfl) (ce hk339 hc341) rfl (TO.g rfl rfl rfl rfl (TX.fieldAddrE Try.runUnderlying40 rfl Try.sizeOf3 rfl rfl rfl (TO.g rfl rfl rfl rfl (TX.loadR1 (N := Edge.E) Try.isAgg3 rfl (fun a w s => ho15.rd s (i := 0) rfl) (ce hk339 hc341) rfl rfl (TO.g rfl rfl rfl rfl (TX.move rfl rfl (TO.g rfl rfl rfl rfl (TX.ibin rfl rfl rfl rfl (TO.g rfl rfl rfl rfl (TX.move rfl rfl ?_)))))))))))))))
                 cases hc342 : (((gt v9 x329).fFrom) == x307)
                 · exact TO.s rfl rfl rfl rfl rfl rfl (TO.s rfl rfl rfl rfl rfl rfl (TO.s rfl rfl rfl rfl rfl rfl (TO.s rfl rfl rfl rfl rfl rfl (TO.s rfl rfl rfl rfl rfl rfl (TO.s rfl rfl rfl rfl rfl rfl (TO.s rfl rfl rfl rfl rfl rfl (TO.s rfl rfl rfl rfl rfl rfl (TO.g rfl rfl rfl rfl (TX.pickF rfl rfl rfl (TO.u rfl rfl (TX.pickF rfl rfl rfl (TO.nil (TE.cutS 18 rfl rfl ⟨rfl, trivial⟩)))))))))))))
                 exact TO.g rfl rfl rfl rfl (TX.move rfl rfl (TO.g rfl rfl rfl rfl (TX.move rfl rfl (TO.g rfl rfl rfl rfl (TX.move rfl rfl (TO.g rfl rfl rfl rfl (TX.indexR (N := Edge.E) Try.runUnderlying36 Try.sizeOf40 rfl hn13 rfl (fun a w s => ho15.rd s (i := 0) rfl) (ce hk339 hc341) rfl (TO.g rfl rfl rfl rfl (TX.fieldAddrE Try.runUnderlying40 rfl Try.sizeOf3 rfl rfl rfl (TO.g rfl rfl rfl rfl (TX.loadR1 (N := Edge.E) Try.isAgg3 rfl (fun a w s => ho15.rd s (i := 0) rfl) (ce hk339 hc341) rfl rfl (TO.g rfl rfl rfl rfl (TX.indexR (N := En.bool) Try.runUnderlying41 Try.sizeOf4 rfl hn303 rfl (fun a w s => ho305.rd s (i := 1) rfl) (cg (ce hk340 hc341) hc342) rfl (TO.g rfl rfl rfl rfl (TX.loadR1 (N := En.bool) Try.isAgg4 rfl (fun a w s => ho305.rd s (i := 1) rfl) (cg (ce hk340 hc341) hc342) rfl rfl (TO.g rfl rfl rfl rfl (TX.pickT rfl rfl rfl (TO.u rfl rfl (TX.pickF rfl rfl rfl (TO.nil (TE.cutS 18 rfl rfl ⟨rfl, trivial⟩)))))))))))))))))))))
               exact TO.s rfl rfl rfl rfl rfl rfl (TO.s rfl rfl rfl rfl rfl rfl (TO.s rfl rfl rfl rfl rfl rfl (TO.s rfl rfl rfl rfl rfl rfl (TO.s rfl rfl rfl rfl rfl rfl (TO.s rfl rfl rfl rfl rfl rfl (TO.s rfl rfl rfl rfl rfl rfl (TO.s rfl rfl rfl rfl rfl rfl (TO.su rfl rfl rfl rfl rfl (TO.su rfl rfl rfl rfl rfl (TO.su rfl rfl rfl rfl rfl (TO.su rfl rfl rfl rfl rfl (TO.su rfl rfl rfl rfl rfl (TO.su rfl rfl rfl rfl rfl (TO.su rfl rfl rfl rfl rfl (TO.su rfl rfl rfl rfl rfl (TO.s rfl rfl rfl rfl rfl rfl (TO.u rfl rfl (TX.pickT rfl rfl rfl (TO.nil (TE.cutS 18 rfl rfl ⟨rfl, trivial⟩))))))))))))))))))))
             exact TO.u rfl rfl (TX.assign rfl rfl (TO.nil (TE.blockN (TE.thenN rfl rfl (TC.region (TO.u rfl rfl (TX.move rfl rfl (TO.u rfl rfl (TX.ibin rfl rfl rfl rfl (TO.u rfl rfl (TX.assign rfl rfl (TO.nil (TE.to (L' := [(3, .slice sp2 n3 cap4), (4, .slice sp10 n11 cap12), (5, .bool x306), (6, .int .i64 x307), (7, .bool (x328 || ((((gt v9 x329).fFrom) == x307) && (gt x302 ((gt v9 x329).fTo))))), (8, .int .i64 (IntKind.i64.wrap (x329 + 1)))]) (E' := []) (S' := [Hs14, Hs304]) 0 0 ⟨rfl, rfl, rfl, rfl, rfl, rfl, trivial⟩ rfl rfl (ih336 (x328 || ((((gt v9 x329).fFrom) == x307) && (gt x302 ((gt v9 x329).fTo))), IntKind.i64.wrap (x329 + 1)) _ _ ⟨rfl, rfl⟩ h))))))))))))))
           replace h := ie h hb338
           exact TC.exit (TE.thenX (TE.loopX (TE.to (L' := [(3, .slice sp2 n3 cap4), (4, .slice sp10 n11 cap12), (5, .bool x306), (6, .int .i64 x307), (7, .bool x328)]) (E' := []) (S' := [Hs14, Hs304]) 0 0 ⟨rfl, rfl, rfl, rfl, rfl, trivial⟩ rfl rfl (TE.cutE ⟨x328, Option.some.inj h, rfl, rfl⟩))))
         rintro _ _ ⟨x331, rfl, rfl, rfl⟩
         replace h := (fn24_k3_s x302 x306 x307 (fn24_l2 F v9 n317) x331).symm.trans h
         refine TE.blockH (TE.thenN rfl rfl (TC.seq (TC.region (TO.u rfl rfl (TX.move rfl rfl (TO.u rfl rfl (TX.not rfl rfl (TO.nil (TE.thenN rfl rfl (TC.cond rfl (fun hb343 => ?_) (fun hb343 => ?_)))))))))))
         · replace h := it h hb343
           refine TC.seq (TC.region (TO.u rfl rfl (TX.move rfl rfl (TO.u rfl rfl (TX.move rfl rfl ?_)))))
           obtain ⟨hk344, h⟩ := ck h
           refine TO.u rfl rfl (TX.indexR (N := En.bool) Try.runUnderlying41 Try.sizeOf4 rfl hn303 rfl (fun a w s => ho305.rd s (i := 1) rfl) hk344 rfl (TO.u rfl rfl (TX.storeS (N := En.bool) (si := 1) (u := false) Try.sizeOf4 rfl rfl rfl rfl rfl rfl ho305 hk344 rfl (fun Hs345 _ S346 ho347 => ?_))))
           cases S346
           exact TO.nil (TE.thenN rfl rfl (TC.region (TO.u rfl rfl (TX.assign rfl rfl (TO.nil (TE.blockN (TE.thenN rfl rfl (TC.region (TO.u rfl rfl (TX.move rfl rfl (TO.u rfl rfl (TX.ibin rfl rfl rfl rfl (TO.u rfl rfl (TX.assign rfl rfl (TO.nil (TE.to (L' := [(3, .slice sp2 n3 cap4), (4, .slice sp10 n11 cap12), (5, .bool true), (6, .int .i64 (IntKind.i64.wrap (x307 + 1)))]) (E' := []) (S' := [Hs14, Hs345]) 0 0 ⟨rfl, rfl, rfl, rfl, trivial⟩ rfl rfl (ih318 (x302.set x307.toNat false, true, IntKind.i64.wrap (x307 + 1)) _ _ ⟨Hs345, ho347, (List.length_set.trans hn303), rfl, rfl⟩ h)))))))))))))))))
         replace h := ie h hb343
         exact TC.skip (TE.blockN (TE.thenN rfl rfl (TC.region (TO.u rfl rfl (TX.move rfl rfl (TO.u rfl rfl (TX.ibin rfl rfl rfl rfl (TO.u rfl rfl (TX.assign rfl rfl (TO.nil (TE.to (L' := [(3, .slice sp2 n3 cap4), (4, .slice sp10 n11 cap12), (5, .bool x306), (6, .int .i64 (IntKind.i64.wrap (x307 + 1)))]) (E' := []) (S' := [Hs14, Hs304]) 0 0 ⟨rfl, rfl, rfl, rfl, trivial⟩ rfl rfl (ih318 (x302, x306, IntKind.i64.wrap (x307 + 1)) _ _ ⟨Hs304, ho305, hn303, rfl, rfl⟩ h))))))))))))
       replace h := ie h hb320
       exact TC.exit (TE.thenX (TE.loopX (TE.to (L' := [(3, .slice sp2 n3 cap4), (4, .slice sp10 n11 cap12), (5, .bool x306)]) (E' := []) (S' := [Hs14, Hs304]) 0 0 ⟨rfl, rfl, rfl, trivial⟩ rfl rfl (TE.cutE ⟨x302, x306, Option.some.inj h, Hs304, ho305, hn303, rfl, rfl⟩))))
     rintro _ _ ⟨x309, x313, rfl, Hs311, ho312, hn310, rfl, rfl⟩
     replace h := (fn24_k2_s (fn24_l1 F v9 n238) x309 x313).symm.trans h
     exact TE.blockH (TE.blockN (TE.to (L' := [(3, .slice sp2 n3 cap4), (4, .slice sp10 n11 cap12), (5, .bool x313)]) (E' := []) (S' := [Hs14, Hs311]) 0 0 ⟨rfl, rfl, rfl, trivial⟩ rfl rfl (ih239 (x309, x313) _ _ ⟨Hs311, ho312, hn310, rfl, rfl⟩ h)))
   replace h := ie h hb241
   exact TC.exit (TE.thenX (TE.loopX (TE.to (L' := [(3, .slice sp2 n3 cap4)]) (E' := []) (S' := [Hs14, Hs227]) 0 0 ⟨rfl, trivial⟩ rfl rfl (TE.cutE ⟨x225, Option.some.inj h, Hs227, ho228, hn226, rfl, rfl⟩))))
 rintro _ _ ⟨x231, rfl, Hs233, ho234, hn232, rfl, rfl⟩
 replace h := (fn24_k1_s F x231).symm.trans h
 refine TE.blockH (TE.thenN rfl rfl (TC.seq (TC.seq (TC.region (TO.u rfl rfl (TX.assign rfl rfl (TO.nil (TE.thenN rfl rfl (TC.block ?_)))))))))
 obtain ⟨o354, hl355, h⟩ := bd h
 refine TC.to (L' := [(3, .slice sp2 n3 cap4), (9, .int .i64 0)]) (E' := []) (S' := [Hs14, Hs233]) 0 0 ⟨rfl, rfl, trivial⟩ rfl rfl (TC.cutE 6 (fun L' H' => .inl () = o354 ∧ L' = [] ∧ H' = ⟨[], [Hs14, Hs233]⟩) ?_ ?_)
 · have h0359 := h
   clear h
   refine TC.loop (fun (n : Nat) (s : Int) => fn24_l4 x231 n s) o354 (fun _ => rfl) (fun (x352 : Int) L' H' => L' = [(3, .slice sp2 n3 cap4), (9, .int .i64 x352)] ∧ H' = ⟨[], [Hs14, Hs233]⟩) ?_ F 0 ⟨rfl, rfl⟩ hl355
   clear hl355
   rintro K356 n357 x352 _ _ ⟨rfl, rfl⟩ h ih358
   replace h := (fn24_l4_s x231 n357 x352).symm.trans h
   refine TC.seq (TC.seq (TC.region (TO.u rfl rfl (TX.move rfl rfl (TO.u rfl rfl (TX.move rfl rfl (TO.u rfl rfl (TX.lenS (xs := x231) Try.runUnderlying41 rfl hn232 rfl (TO.u rfl rfl (TX.ibin rfl rfl rfl rfl (TO.nil (TE.thenN rfl rfl (TC.cond rfl (fun hb360 => ?_) (fun hb360 => ?_))))))))))))))
   · replace h := it h hb360
     refine TC.skip (TE.thenN rfl rfl (TC.seq (TC.block (TC.seq (TC.region (TO.u rfl rfl (TX.move rfl rfl (TO.u rfl rfl (TX.move rfl rfl ?_)))))))))
     obtain ⟨hk361, h⟩ := ck h
     refine TO.u rfl rfl (TX.indexR (N := En.bool) Try.runUnderlying41 Try.sizeOf4 rfl hn232 rfl (fun a w s => ho234.rd s (i := 1) rfl) hk361 rfl (TO.u rfl rfl (TX.loadR1 (N := En.bool) Try.isAgg4 rfl (fun a w s => ho234.rd s (i := 1) rfl) hk361 rfl rfl (TO.nil (TE.thenN rfl rfl (TC.cond rfl (fun hb362 => ?_) (fun hb362 => ?_)))))))
     · replace h := it h hb362
       refine TC.seq (TC.region (TO.u rfl rfl (TX.assign rfl rfl (TO.nil (TE.thenN rfl rfl (TC.ret (TE.blockR (TE.thenR (TE.loopR (TE.cutR ?_))))))))))
       have ho := Option.some.inj h
       subst ho
       replace h := h0359
       exact TE.blockR (TE.thenR (TE.fin (R := ⟨[], []⟩) (TL.ret (R' := ⟨[], []⟩) Try.results24 (.cons (.tmp rfl) .nil) (subD 0 2 rfl rfl) ⟨congrArg ret24 (Option.some.inj h), rfl⟩)))
     replace h := ie h hb362
     exact TC.skip (TE.blockN (TE.thenN rfl rfl (TC.region (TO.u rfl rfl (TX.move rfl rfl (TO.u rfl rfl (TX.ibin rfl rfl rfl rfl (TO.u rfl rfl (TX.assign rfl rfl (TO.nil (TE.to (L' := [(3, .slice sp2 n3 cap4), (9, .int .i64 (IntKind.i64.wrap (x352 + 1)))]) (E' := []) (S' := [Hs14, Hs233]) 0 0 ⟨rfl, rfl, trivial⟩ rfl rfl (ih358 (IntKind.i64.wrap (x352 + 1)) _ _ ⟨rfl, rfl⟩ h))))))))))))
   replace h := ie h hb360
   exact TC.exit (TE.thenX (TE.loopX (TE.to (L' := []) (E' := []) (S' := [Hs14, Hs233]) 0 0 trivial rfl rfl (TE.cutE ⟨Option.some.inj h, rfl, rfl⟩))))
 rintro _ _ ⟨rfl, rfl, rfl⟩
 replace h := (fn24_k4_s ).symm.trans h
 exact TE.blockH (TE.thenN rfl rfl (TC.seq (TC.region (TO.u rfl rfl (TX.assign rfl rfl (TO.nil (TE.thenN rfl rfl (TC.ret (TE.fin (R := ⟨[], []⟩) (TL.ret (R' := ⟨[], []⟩) Try.results24 (.cons (.tmp rfl) .nil) (subD 0 2 rfl rfl) ⟨congrArg ret24 (Option.some.inj h), rfl⟩))))))))))
end Go.Proofs.Ytbpldfhehpjbaaa
