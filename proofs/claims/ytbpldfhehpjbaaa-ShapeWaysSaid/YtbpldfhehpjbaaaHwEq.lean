/- Structs and arrays compared; places in arrays. -/
import Derived.Test.YtbpldfhehpjbaaaHwDraw
import Derived.Laws.StructEq
namespace Go.HW
open Go Go.RowKit
set_option linter.unusedVariables false

/-- the model's comparison of x and y at type T gives b, K levels deep -/
def EqOk (P : Program) (K : Nat) (T : TypeId) (x y : Value) (b : Bool) : Prop := ∀ d w, (Op.equalIn (d + K) T x y).run P w = .ok b w

def PartOk (P : Program) (T : TypeId) (xs : List Value) (off : Nat) (v : Value) : Prop := ∀ w, (part T xs.toArray off).run P w = .ok v w

theorem PartOk.one {P : Program} {T : TypeId} {xs : List Value} {off : Nat} {v : Value} (ha : ∀ w, (isAgg T).run P w = .ok false w) (hv : getL xs off = some v) : PartOk P T xs off v := fun w => by
  rw [getL_eq] at hv
  simp [part, ha, hv]

theorem PartOk.agg {P : Program} {T : TypeId} {xs vs : List Value} {off n : Nat} (ha : ∀ w, (isAgg T).run P w = .ok true w) (hs : ∀ w, (sizeOf T).run P w = .ok n w) (hv : cutL xs off n = some vs) : PartOk P T xs off (.agg vs.toArray) := fun w => by
  obtain ⟨h1, h2⟩ := cutL_eq xs off n vs hv
  simp only [part, Sem.run_bind, ha, hs, Result.andThen_ok, if_true, Sem.run_pure]
  congr 2
  apply Array.ext'
  simp only [List.extract_toArray, List.extract_eq_take_drop]
  apply List.ext_getElem?
  intro i
  rw [List.getElem?_take, List.getElem?_drop]
  by_cases hi : i < n
  · rw [if_pos (by omega)]
    have : i < vs.length := by omega
    have h3 : vs[i]? = some vs[i] := by simp [this]
    rw [h2 i _ h3, h3]
  · rw [if_neg (by omega), List.getElem?_eq_none (by omega)]

theorem EqOk.int {P : Program} {T : TypeId} {k k' : IntKind} {a b : Int} (hu : ∀ w, (underlying T).run P w = .ok (.int k') w) : EqOk P 1 T (.int k a) (.int k b) (a == b) := fun d w => by
  simp [Op.equalIn, hu]
theorem EqOk.bool {P : Program} {T : TypeId} {a b : Bool} (hu : ∀ w, (underlying T).run P w = .ok .bool w) : EqOk P 1 T (.bool a) (.bool b) (a == b) := fun d w => by
  simp [Op.equalIn, hu]

theorem EqOk.up {P : Program} {K : Nat} {T : TypeId} {x y : Value} {b : Bool} (h : EqOk P K T x y b) {K' : Nat} (hle : Nat.ble K K' = true) : EqOk P K' T x y b := fun d w => by
  have := Nat.le_of_ble_eq_true hle
  have h2 := h (d + (K' - K)) w
  rw [show d + (K' - K) + K = d + K' from by omega] at h2; exact h2

inductive EqF (P : Program) (K : Nat) (xs ys : List Value) : List Field → Bool → Prop
  | nil : EqF P K xs ys [] true
  | cons {f : Field} {fs : List Field} {x y : Value} {b b' : Bool} (hn : (f.name == "_") = false) (hx : PartOk P f.type xs f.offset x) (hy : PartOk P f.type ys f.offset y) (he : EqOk P K f.type x y b)
      (r : EqF P K xs ys fs b') : EqF P K xs ys (f :: fs) (b && b')

theorem EqF.run {P : Program} {K : Nat} {xs ys : List Value} {d : Nat} {w : World} : ∀ {fs : List Field} {b : Bool}, EqF P K xs ys fs b → (Op.eqFields (d + K) xs.toArray ys.toArray fs).run P w = .ok b w
  | _, _, .nil => by simp [Op.eqFields]
  | _, _, @EqF.cons _ _ _ _ f fs x y b b' hn hx hy he r => by
    have hn' : f.name ≠ "_" := by simpa using hn
    simp only [Op.eqFields, hn', ne_eq, not_false_eq_true, if_true, Sem.run_bind, hx w, hy w, he d w, Result.andThen_ok]
    cases b with
    | true => simpa using r.run
    | false => simp

theorem EqOk.struct {P : Program} {K : Nat} {T : TypeId} {fs : List Field} {xs ys : List Value} {b : Bool} (hu : ∀ w, (underlying T).run P w = .ok (.struct fs.toArray) w) (hs : P.stoodInHeld T = false) (h : EqF P K xs ys fs b) :
    EqOk P (K + 1) T (.agg xs.toArray) (.agg ys.toArray) b := fun d w => by
  have hf : P.fieldsOf T = fs.toArray := by simp [Program.fieldsOf, und_of hu]
  have := run_equalIn_struct (P := P) w (d + K) T xs.toArray ys.toArray (by rw [hf]; exact und_of hu) hs
  rw [show d + (K + 1) = d + K + 1 from by omega, this, hf]
  exact h.run

inductive EqA (P : Program) (K : Nat) (T : TypeId) (sz : Nat) (xs ys : List Value) : Nat → Nat → Bool → Prop
  | nil {i : Nat} : EqA P K T sz xs ys i 0 true
  | cons {i n : Nat} {x y : Value} {b b' : Bool} (hx : PartOk P T xs (i * sz) x) (hy : PartOk P T ys (i * sz) y) (he : EqOk P K T x y b) (r : EqA P K T sz xs ys (i + 1) n b') : EqA P K T sz xs ys i (n + 1) (b && b')

theorem EqA.run {P : Program} {K : Nat} {T : TypeId} {sz : Nat} {xs ys : List Value} {d : Nat} : ∀ {n i : Nat} {b : Bool}, EqA P K T sz xs ys i n b → ∀ w,
    ((forIn (List.range' i n) ((none : Option Bool), ()) fun i r => (do
        let a ← part T xs.toArray (i * sz)
        let c ← part T ys.toArray (i * sz)
        let e ← Op.equalIn (d + K) T a c
        if (!e) = true then pure (ForInStep.done (some false, ())) else pure (ForInStep.yield (none, ())) : Sem (ForInStep (Option Bool × Unit)))) : Sem (Option Bool × Unit)).run P w = .ok (if b then (none, ()) else (some false, ())) w
  | 0, i, _, .nil, w => by simp
  | n + 1, i, _, @EqA.cons _ _ _ _ _ _ _ _ x y b b' hx hy he r, w => by
    have ih := r.run (d := d) w
    simp only [List.range'_succ, List.forIn_cons, Sem.run_bind, hx w, hy w, he d w, Result.andThen_ok]
    cases b with
    | true => simpa using ih
    | false => simp

theorem EqOk.array {P : Program} {K n A sz : Nat} {T : TypeId} {xs ys : List Value} {b : Bool} (hu : ∀ w, (underlying T).run P w = .ok (.array n A) w) (hs : ∀ w, (sizeOf A).run P w = .ok sz w) (h : EqA P K A sz xs ys 0 n b) :
    EqOk P (K + 1) T (.agg xs.toArray) (.agg ys.toArray) b := fun d w => by
  have hr := h.run (d := d) w
  rw [show d + (K + 1) = d + K + 1 from by omega]
  rw [Op.equalIn]
  simp only [Sem.run_bind, hu, hs, Result.andThen_ok]
  simp only [Std.Legacy.Range.forIn_eq_forIn_range', Std.Legacy.Range.size]
  simp only [Nat.sub_zero, Nat.add_one_sub_one, Nat.div_one]
  rw [hr]
  cases b <;> simp

section
variable {c : Cx} {ops : Array Oper} {Q : Exit → Act → World → Prop} {rest : List Oper} {L : Slots} {H : Hp}
variable {d : Nat} {T : TypeId} {pos : String} {af : Array Edge} {g : Option (Nat × Bool)}

theorem QV.aggEq {X yT : TypeId} {x y : Operand} {xs ys : List Value} {K : Nat} {b : Bool} (hm : c.P.eqGuardType c.P.depth X = false) (hx : ev L x = some (.agg xs.toArray)) (hy : ev L y = some (.agg ys.toArray)) (hK : Nat.ble K 10000 = true)
    (he : EqOk c.P K X (.agg xs.toArray) (.agg ys.toArray) b) : QV c ⟨some d, .binOp .eql X x y yT, T, pos, af, g⟩ L H (.bool b) := fun a w s => by
  have hK' : K ≤ 10000 := Nat.le_of_ble_eq_true hK
  have h1 := run_eqGuard_agg (P := c.P) w .eql X x y xs.toArray ys.toArray hm
  have h2 := run_eql_struct (P := c.P) w X xs.toArray ys.toArray
  have h3 := he (10000 - K) w
  rw [Nat.sub_add_cancel hK'] at h3
  rw [h3] at h2
  simp only [execOp, s.eval hx, s.eval hy, Sem.run_bind, h1, Result.andThen_ok, h2]
  rfl

theorem QV.aggNe {X yT : TypeId} {x y : Operand} {xs ys : List Value} {K : Nat} {b : Bool} (hm : c.P.eqGuardType c.P.depth X = false) (hx : ev L x = some (.agg xs.toArray)) (hy : ev L y = some (.agg ys.toArray)) (hK : Nat.ble K 10000 = true)
    (he : EqOk c.P K X (.agg xs.toArray) (.agg ys.toArray) b) : QV c ⟨some d, .binOp .neq X x y yT, T, pos, af, g⟩ L H (.bool (!b)) := fun a w s => by
  have hK' : K ≤ 10000 := Nat.le_of_ble_eq_true hK
  have h1 := run_eqGuard_agg (P := c.P) w .neq X x y xs.toArray ys.toArray hm
  have h2 := run_neq_struct (P := c.P) w X xs.toArray ys.toArray
  have h3 := he (10000 - K) w
  rw [Nat.sub_add_cancel hK'] at h3
  rw [h3] at h2
  simp only [execOp, s.eval hx, s.eval hy, Sem.run_bind, h1, Result.andThen_ok, h2]
  rfl

theorem TX.aggEq {X yT : TypeId} {x y : Operand} {xs ys : List Value} {K : Nat} {b : Bool} (hm : c.P.eqGuardType c.P.depth X = false) (hx : ev L x = some (.agg xs.toArray)) (hy : ev L y = some (.agg ys.toArray)) (hK : Nat.ble K 10000 = true)
    (he : EqOk c.P K X (.agg xs.toArray) (.agg ys.toArray) b) (hd : Nat.blt d c.n = true) (h : TO c ops Q rest ((d, .bool b) :: L) H) : TX c ops Q ⟨some d, .binOp .eql X x y yT, T, pos, af, g⟩ rest L H :=
  TX.val hd (QV.aggEq hm hx hy hK he) h
theorem TX.aggNe {X yT : TypeId} {x y : Operand} {xs ys : List Value} {K : Nat} {b : Bool} (hm : c.P.eqGuardType c.P.depth X = false) (hx : ev L x = some (.agg xs.toArray)) (hy : ev L y = some (.agg ys.toArray)) (hK : Nat.ble K 10000 = true)
    (he : EqOk c.P K X (.agg xs.toArray) (.agg ys.toArray) b) (hd : Nat.blt d c.n = true) (h : TO c ops Q rest ((d, .bool (!b)) :: L) H) : TX c ops Q ⟨some d, .binOp .neq X x y yT, T, pos, af, g⟩ rest L H :=
  TX.val hd (QV.aggNe hm hx hy hK he) h

/-- a place in an array behind a pointer, the index known -/
theorem QV.indexA {X A n k : Nat} {x ix : Operand} {b off i o' : Nat} {ik : IntKind} (hu : ∀ w, (underlying X).run c.P w = .ok (.array n A) w) (hs : ∀ w, (sizeOf A).run c.P w = .ok k w)
    (hx : ev L x = some (.pointer (some ⟨b, off, none⟩))) (hi : ev L ix = some (.int ik (i : Int))) (hin : Nat.blt i n = true) (ho : off + i * k = o') : QV c ⟨some d, .indexAddr X x ix, T, pos, af, g⟩ L H (.pointer (some ⟨b, o', none⟩)) := fun a w s => by
  have h1 : i < n := by simpa [Nat.blt_eq] using hin
  have h2 : (i : Int) < (n : Int) := by omega
  simp [execOp, Instr.indexAt, s.eval hx, s.eval hi, asIntOf, hu, hs, Instr.sureAddr, h1, add_none, ho]
theorem TX.indexA {X A n k : Nat} {x ix : Operand} {b off i o' : Nat} {ik : IntKind} (hu : ∀ w, (underlying X).run c.P w = .ok (.array n A) w) (hs : ∀ w, (sizeOf A).run c.P w = .ok k w)
    (hx : ev L x = some (.pointer (some ⟨b, off, none⟩))) (hi : ev L ix = some (.int ik (i : Int))) (hin : Nat.blt i n = true) (ho : off + i * k = o') (hd : Nat.blt d c.n = true)
    (h : TO c ops Q rest ((d, .pointer (some ⟨b, o', none⟩)) :: L) H) : TX c ops Q ⟨some d, .indexAddr X x ix, T, pos, af, g⟩ rest L H :=
  TX.val hd (QV.indexA hu hs hx hi hin ho) h

/-- a place in an array that lies in a slice's element -/
theorem QV.indexE {X A n k : Nat} {x ix : Operand} {sp : Option Addr} {m off i o' : Nat} {ik : IntKind} (hu : ∀ w, (underlying X).run c.P w = .ok (.array n A) w) (hs : ∀ w, (sizeOf A).run c.P w = .ok k w)
    (hx : ev L x = some (.pointer (some (eAddr sp (m + off))))) (hi : ev L ix = some (.int ik (i : Int))) (hin : Nat.blt i n = true) (ho : off + i * k = o') : QV c ⟨some d, .indexAddr X x ix, T, pos, af, g⟩ L H (.pointer (some (eAddr sp (m + o')))) := fun a w s => by
  have h1 : i < n := by simpa [Nat.blt_eq] using hin
  have h2 : (i : Int) < (n : Int) := by omega
  simp [execOp, Instr.indexAt, s.eval hx, s.eval hi, asIntOf, hu, hs, Instr.sureAddr, h1, eAddr_add, Nat.add_assoc, ho]
theorem TX.indexE {X A n k : Nat} {x ix : Operand} {sp : Option Addr} {m off i o' : Nat} {ik : IntKind} (hu : ∀ w, (underlying X).run c.P w = .ok (.array n A) w) (hs : ∀ w, (sizeOf A).run c.P w = .ok k w)
    (hx : ev L x = some (.pointer (some (eAddr sp (m + off))))) (hi : ev L ix = some (.int ik (i : Int))) (hin : Nat.blt i n = true) (ho : off + i * k = o') (hd : Nat.blt d c.n = true)
    (h : TO c ops Q rest ((d, .pointer (some (eAddr sp (m + o')))) :: L) H) : TX c ops Q ⟨some d, .indexAddr X x ix, T, pos, af, g⟩ rest L H :=
  TX.val hd (QV.indexE hu hs hx hi hin ho) h

theorem paste_front : ∀ (vs B : List Value), vs.length ≤ B.length → pasteL B 0 vs = some (vs ++ B.drop vs.length)
  | [], B, h => by cases B <;> simp [pasteL]
  | v :: vs, [], h => by simp at h
  | v :: vs, x :: B, h => by simp [pasteL, paste_front vs B (by simpa using h)]
theorem paste_mid : ∀ (A B vs : List Value), vs.length ≤ B.length → pasteL (A ++ B) A.length vs = some (A ++ (vs ++ B.drop vs.length))
  | [], B, vs, h => by simpa using paste_front vs B h
  | x :: A, B, vs, h => by simp [pasteL, paste_mid A B vs h]

/-- all elements of a slice literal are there -/
theorem fillS_ok {sz : Nat} : ∀ (vs : List Value) (k : Nat) (done zl : List Value), done.length = k * sz → zl.length = vs.length * sz → (vs.all fun v => Nat.beq v.cells.toList.length sz) = true →
    fillL (fun i => some (i * sz, sz)) (done ++ zl) ((List.range' k vs.length).zip vs) = some (done ++ vs.flatMap fun v => v.cells.toList)
  | [], k, done, zl, h1, h2, h3 => by simp at h2; subst h2; simp [fillL]
  | v :: vs, k, done, zl, h1, h2, h3 => by
    simp only [List.all_cons, Bool.and_eq_true] at h3
    have hv := Nat.eq_of_beq_eq_true h3.1
    simp only [List.length_cons, List.range'_succ, List.zip_cons_cons, fillL, h3.1, cond_true]
    have hz : sz ≤ zl.length := by rw [h2, List.length_cons, Nat.add_mul]; omega
    rw [← h1, paste_mid done zl v.cells.toList (by omega)]
    simp only
    rw [← List.append_assoc]
    rw [fillS_ok vs (k + 1) (done ++ v.cells.toList) (zl.drop v.cells.toList.length) (by rw [List.length_append, h1, hv, Nat.add_mul]; omega)
      (by rw [List.length_drop, h2, hv, List.length_cons, Nat.add_mul]; omega) h3.2]
    simp
theorem fillS {sz n : Nat} {pv : List (Nat × Value)} {cells : List Value} (vs : List Value) (hp : (List.range' 0 vs.length).zip vs = pv) (hn : vs.length = n) (h3 : (vs.all fun v => Nat.beq v.cells.toList.length sz) = true) (hc : (vs.flatMap fun v => v.cells.toList) = cells) :
    ∀ zl : List Value, zl.length = n * sz → fillL (fun i => some (i * sz, sz)) zl pv = some cells := fun zl hz => by
  subst hp; subst hc; subst hn
  have := fillS_ok vs 0 [] zl (by simp) hz h3
  simpa using this
end
end Go.HW
