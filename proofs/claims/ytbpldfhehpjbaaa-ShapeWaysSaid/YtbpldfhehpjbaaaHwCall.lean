/- Calls and returns over the states of HwCore. -/
import Derived.Test.YtbpldfhehpjbaaaHwOps
namespace Go.HW
open Go Go.RowKit
set_option linter.unusedVariables false

/-- what a call has done: R: blocks that were the caller's, R': what they are now, new ones with them; nothing else that there was has changed -/
structure Eff (w : World) (R : Hp) (w' : World) (R' : Hp) : Prop where
  ext : Ext w (R.all.map (·.1)) w'
  nodup : (R'.all.map (·.1)).Nodup
  heap : ∀ p ∈ R'.all, w'.heap[p.1]? = some p.2
  own : ∀ p ∈ R'.all, p.1 ∈ R.all.map (·.1) ∨ w.heap.size ≤ p.1

abbrev Hp.nil : Hp := ⟨[], []⟩
def Hp.add (A B : Hp) : Hp := ⟨A.E ++ B.E, A.S ++ B.S⟩
theorem Hp.add_perm (A B : Hp) : (A.add B).all.Perm (A.all ++ B.all) := by
  simp only [Hp.all, Hp.add, List.flatten_append, List.append_assoc]
  refine List.Perm.append_left _ ?_
  rw [← List.append_assoc, ← List.append_assoc]
  exact List.Perm.append_right _ List.perm_append_comm

def RetE (w : World) (R : Hp) (post : Value → Hp → Prop) : Ending → World → Prop :=
  fun e w' => ∃ v R', e = .returned v ∧ Eff w R w' R' ∧ post v R'

def Ret (P : Program) (f : FuncId) (args : List Value) (w : World) (R : Hp) (post : Value → Hp → Prop) : Prop :=
  Calls P f args.toArray w (RetE w R post)

theorem Ret.mono {P : Program} {f : FuncId} {args : List Value} {w : World} {R : Hp} {post post' : Value → Hp → Prop} (h : Ret P f args w R post)
    (hp : ∀ v R', post v R' → post' v R') : Ret P f args w R post' :=
  Calls.mono h fun e w' ⟨v, R', he, hf, hq⟩ => ⟨v, R', he, hf, hp _ _ hq⟩

section
variable {c : Cx} {ops : Array Oper} {Q : Exit → Act → World → Prop} {rest : List Oper} {L : Slots} {H : Hp}
variable {dst : Option Tmp} {T : TypeId} {pos : String} {af : Array Edge} {g : Option (Nat × Bool)}

theorem Sat.eff {a : Act} {w w' : World} {R R' H : Hp} (s : Sat c L (R.add H) a w) (e : Eff w R w' R') : Sat c L (R'.add H) a w' := by
  have s0 := s
  have hp := Hp.add_perm R H
  have hnd := (hp.map (·.1)).nodup_iff.1 s.nodup
  rw [List.map_append, List.nodup_append] at hnd
  obtain ⟨n1, n2, n3⟩ := hnd
  have hsz := s.ext.size
  have memL : ∀ p ∈ R.all, p ∈ (R.add H).all := fun p h => hp.mem_iff.2 (List.mem_append.2 (.inl h))
  have memR : ∀ p ∈ H.all, p ∈ (R.add H).all := fun p h => hp.mem_iff.2 (List.mem_append.2 (.inr h))
  have hlt : ∀ p ∈ H.all, p.1 < w.heap.size := fun p hp => s.lt (memR p hp)
  have hp' := Hp.add_perm R' H
  refine s.world ⟨e.ext.os.trans s.ext.os, e.ext.tape.trans s.ext.tape, e.ext.output.trans s.ext.output, Nat.le_trans hsz e.ext.size, ?_⟩ ?_ ?_ ?_
  · intro k hk hR
    rw [← s.ext.same k hk hR]
    refine e.ext.same k (by omega) ?_
    intro hm
    obtain ⟨p, hp, rfl⟩ := List.mem_map.1 hm
    rcases s.own p (memL p hp) with h | h
    · exact hR h
    · omega
  · refine (hp'.map (·.1)).nodup_iff.2 ?_
    rw [List.map_append, List.nodup_append]
    refine ⟨e.nodup, n2, ?_⟩
    intro x hx y hy hxy
    subst hxy
    obtain ⟨p, hp, rfl⟩ := List.mem_map.1 hx
    obtain ⟨q, hq, hqe⟩ := List.mem_map.1 hy
    rcases e.own p hp with h | h
    · exact n3 _ h _ hy rfl
    · have := hlt q hq; omega
  · intro p hp
    rcases List.mem_append.1 (hp'.mem_iff.1 hp) with hp | hp
    · exact e.heap p hp
    · rw [e.ext.same p.1 (hlt p hp) (fun hm => n3 _ hm p.1 (List.mem_map.2 ⟨p, hp, rfl⟩) rfl)]
      exact s.heap p (memR p hp)
  · intro p hp
    rcases List.mem_append.1 (hp'.mem_iff.1 hp) with hp | hp
    · rcases e.own p hp with h | h
      · obtain ⟨q, hq, e2⟩ := List.mem_map.1 h
        rw [← e2]; exact s.own q (memL q hq)
      · exact .inr (by omega)
    · exact s.own p (memR p hp)

theorem callsIn_FW {P : Program} {ro : Option Nat} {f : FuncId} {args : Array Value} {w : World} {R : Ending → World → Prop} (h : Calls P f args w R) : CallsIn (FW ro) 0 P f args w R :=
  (callsIn_wide (n := 0)).2 h

/-- a call of a function value -/
theorem TX.call {d : Nat} {f : Operand} {k : FuncId} {fi ca vs : List Value} {args : List Operand} {ats : Array TypeId} (R H1 : Hp) (post : Value → Hp → Prop)
    (hk : ∀ (args : Array Value) (w : World), (callFunc k args).run c.P w = .ok (.enter k args) w)
    (hf : ev L f = some (.func (.func k) fi.toArray ca.toArray)) (ha : evs L args = some vs) (hH : (R.add H1).all.Perm H.all)
    (hc : ∀ a w, Sat c L (R.add H1) a w → Ret c.P k (fi ++ (vs ++ ca)) w R post) (hd : Nat.blt d c.n = true)
    (h : ∀ v R', post v R' → TO c ops Q rest ((d, v) :: L) (R'.add H1)) : TX c ops Q ⟨some d, .call ⟨.value f, args.toArray, ats⟩, T, pos, af, g⟩ rest L H := by
  intro a w s0
  have s := s0.perm hH
  have hrun : (execOp a.eval ⟨some d, .call ⟨.value f, args.toArray, ats⟩, T, pos, af, g⟩).run c.P w = .ok (.enter k (fi ++ (vs ++ ca)).toArray) w := by
    simp [execOp, resolve, Deferred.ofValue, invoke, s.eval hf, s.evals ha, hk]
  rw [hrun]
  refine ⟨fun h => by simp [FW] at h, ?_⟩
  refine callsIn_FW (Calls.mono (hc a w s) ?_)
  rintro e w' ⟨v, R', rfl, he, hp⟩
  exact h v R' hp _ _ ((s.eff he).put (dst := some d) hd v)

/-- a call of a declared function that makes nothing known and writes nothing known -/
theorem TX.callP {d : Nat} {k : FuncId} {vs : List Value} {args : List Operand} {ats : Array TypeId} {v : Value}
    (hk : ∀ (args : Array Value) (w : World), (callFunc k args).run c.P w = .ok (.enter k args) w)
    (ha : evs L args = some vs) (hc : ∀ a w, Sat c L H a w → Ret c.P k vs w Hp.nil fun v' R' => v' = v ∧ R' = Hp.nil) (hd : Nat.blt d c.n = true)
    (h : TO c ops Q rest ((d, v) :: L) H) : TX c ops Q ⟨some d, .call ⟨.value (.func k), args.toArray, ats⟩, T, pos, af, g⟩ rest L H :=
  TX.call (fi := []) (ca := []) Hp.nil H (fun v' R' => v' = v ∧ R' = Hp.nil) hk rfl ha (List.Perm.refl _) (fun a w s => by simpa using hc a w s) hd (by rintro v' R' ⟨rfl, rfl⟩; exact h)
end

section
variable {c : Cx} {ops : Array Oper} {Q : Exit → Act → World → Prop} {rest : List Oper} {L : Slots} {H : Hp}
variable {T : TypeId} {pos : String} {af : Array Edge} {g : Option (Nat × Bool)}
/-- a call of a declared function that writes nothing known; what it makes is post's word -/
theorem TX.callQ {d : Nat} {k : FuncId} {vs : List Value} {args : List Operand} {ats : Array TypeId} (post : Value → Hp → Prop)
    (hk : ∀ (args : Array Value) (w : World), (callFunc k args).run c.P w = .ok (.enter k args) w)
    (ha : evs L args = some vs) (hc : ∀ a w, Sat c L H a w → Ret c.P k vs w Hp.nil post) (hd : Nat.blt d c.n = true)
    (h : ∀ v R', post v R' → TO c ops Q rest ((d, v) :: L) (R'.add H)) : TX c ops Q ⟨some d, .call ⟨.value (.func k), args.toArray, ats⟩, T, pos, af, g⟩ rest L H :=
  TX.call (fi := []) (ca := []) Hp.nil H post hk rfl ha (List.Perm.refl _) (fun a w s => by simpa using hc a w s) hd h
end

/-! ### From the body to the call -/
def argS : Nat → List Value → Slots
  | _, [] => []
  | k, v :: vs => (k, v) :: argS (k + 1) vs

theorem look_argS : ∀ (vs : List Value) (k t : Nat) (v : Value), look (argS k vs) t = some v → k ≤ t ∧ vs[t - k]? = some v
  | [], k, t, v, h => by simp [argS, look] at h
  | u :: vs, k, t, v, h => by
    simp only [argS, look] at h
    cases hb : Nat.beq k t with
    | true =>
      rw [hb] at h
      have := Nat.eq_of_beq_eq_true hb
      subst this
      simp at h
      simp [h]
    | false =>
      rw [hb] at h
      obtain ⟨h1, h2⟩ := look_argS vs (k + 1) t v h
      refine ⟨by omega, ?_⟩
      rw [show t - k = (t - (k + 1)) + 1 from by omega]
      simpa using h2

def Fin (P : Program) (fn : Func) (w : World) (R : Hp) (post : Value → Hp → Prop) : Exit → Act → World → Prop :=
  bodyPostM (FW none) 1 P fn (RetE w R post)

theorem Ret.of_body {P : Program} {f : FuncId} {fn : Func} {code : Code} {args : List Value} {w : World} {R : Hp} {post : Value → Hp → Prop} {n : Nat}
    (hf : P.funcs[f]? = some fn) (hb : fn.body = some code) (hn : fn.ntmps = n) (ha : Nat.ble args.length n = true)
    (hR : ∀ p ∈ R.all, w.heap[p.1]? = some p.2) (hnd : (R.all.map (·.1)).Nodup)
    (h : TC ⟨P, none, w, R.all.map (·.1), n, []⟩ code (Fin P fn w R post) (argS 0 args) R) : Ret P f args w R post := by
  unfold Ret
  refine (callsIn_wide (n := 1)).1 ?_
  have ha' : args.length ≤ n := Nat.le_of_ble_eq_true ha
  refine callsIn_of_wp_marks (F := Fence.wide) (n := 1) hf hb trivial ?_
  rw [hn]
  refine h _ w ⟨by simp; omega, rfl, ?_, Ext.refl _ _, hnd, hR, fun p hp => .inl (List.mem_map.2 ⟨p, hp, rfl⟩)⟩
  intro t v hl
  obtain ⟨_, h2⟩ := look_argS args 0 t v hl
  simp only [Nat.sub_zero] at h2
  have ht : t < args.length := (List.getElem?_eq_some_iff.1 h2).1
  have hv : args[t] = v := (List.getElem?_eq_some_iff.1 h2).2
  simp [Array.getD, show t < args.length + (n - args.length) from by omega, ht, hv]

/-- leaving, from a state -/
def TL (fn : Func) (Rr : Ending → World → Prop) (ds : List Deferred) (c : Cx) (L : Slots) (H : Hp) : Prop :=
  ∀ a w, Sat c L H a w → LeavesInM (FW none) 1 c.P fn a.tmps Rr ds .returning w

def resOne (r : ResultVar) (tmps : Array Value) : Sem Value :=
  match r with
  | .tmp t => pure (tmps.getD t undef)
  | .cell a t => do loadVar t (← asAddr (tmps.getD a undef))

def ResOk (c : Cx) (L : Slots) (H : Hp) (r : ResultVar) (v : Value) : Prop := ∀ a w, Sat c L H a w → (resOne r a.tmps).run c.P w = .ok v w

inductive ResAll (c : Cx) (L : Slots) (H : Hp) : List ResultVar → List Value → Prop
  | nil : ResAll c L H [] []
  | cons {r v rs vs} : ResOk c L H r v → ResAll c L H rs vs → ResAll c L H (r :: rs) (v :: vs)

section
variable {c : Cx} {L : Slots} {H : Hp}

theorem ResOk.tmp {t : Nat} {v : Value} (h : look L t = some v) : ResOk c L H (.tmp t) v := fun a w s => by simp [resOne, s.slots t v h]

theorem ResOk.cell1 {t : Nat} {T T' : TypeId} {b off i : Nat} {l : List Value} {fr : Nat × Nat} {v : Value} (hagg : ∀ w, (isAgg T).run c.P w = .ok false w) (h : look L t = some (.pointer (some ⟨b, off, none⟩)))
    (hi : getB H.E i = some (b, .cells l.toArray T' fr)) (hv : getL l off = some v) : ResOk c L H (.cell t T) v := fun a w s => by
  simp [resOne, s.slots t _ h, asAddr, run_loadVar1 (P := c.P) w hagg ⟨b, off, none⟩ (cell_of (s.heap _ (getB_mem hi)) hv)]

theorem ResOk.cellN {t : Nat} {T T' : TypeId} {b off i n : Nat} {l vs : List Value} {fr : Nat × Nat} (hagg : ∀ w, (isAgg T).run c.P w = .ok true w) (hsz : ∀ w, (sizeOf T).run c.P w = .ok n w)
    (h : look L t = some (.pointer (some ⟨b, off, none⟩))) (hi : getB H.E i = some (b, .cells l.toArray T' fr)) (hv : cutL l off n = some vs) : ResOk c L H (.cell t T) (.agg vs.toArray) := fun a w s => by
  obtain ⟨h1, h2⟩ := cutL_eq l off n vs hv
  have hb := s.heap _ (getB_mem hi)
  have := run_loadVarN (P := c.P) w hagg hsz ⟨b, off, none⟩ vs h1 (fun j v hj => by rw [add_none]; exact cell_of hb (by rw [getL_eq]; exact h2 j v hj))
  simp [resOne, s.slots t _ h, asAddr, this]

theorem ResAll.run {a : Act} {w : World} (s : Sat c L H a w) : ∀ {rs : List ResultVar} {vs : List Value}, ResAll c L H rs vs → (rs.mapM fun r => resOne r a.tmps).run c.P w = .ok vs w
  | _, _, .nil => by simp
  | _, _, .cons h t => by simp [h a w s, t.run s]

def retV : List Value → Value
  | [v] => v
  | vs => .tuple vs.toArray

theorem results_run {fn : Func} {rs : List ResultVar} {vs : List Value} (hrs : fn.results = rs.toArray) {a : Act} {w : World} (s : Sat c L H a w) (h : ResAll c L H rs vs) :
    (results fn a.tmps).run c.P w = .ok (retV vs) w := by
  have h1 := h.run s
  have e : results fn a.tmps = (fn.results.mapM (fun r => resOne r a.tmps) >>= fun us => pure (if h : us.size = 1 then us[0] else .tuple us)) := rfl
  rw [e, hrs]
  simp only [List.mapM_toArray, Sem.run_bind, Sem.run_map, h1, Result.andThen_ok]
  match vs with
  | [] => simp [retV]
  | [v] => simp [retV]
  | u :: v :: vs => simp [retV]

theorem TL.nil {fn : Func} {Rr : Ending → World → Prop} {rs : List ResultVar} {vs : List Value} (hrs : fn.results = rs.toArray) (hv : ResAll c L H rs vs)
    (hR : ∀ w, Ext c.w0 c.R0 w → (∀ p ∈ H.all, w.heap[p.1]? = some p.2) → (H.all.map (·.1)).Nodup → (∀ p ∈ H.all, p.1 ∈ c.R0 ∨ c.w0.heap.size ≤ p.1) → Rr (.returned (retV vs)) w) : TL fn Rr [] c L H :=
  fun a w s => ⟨_, results_run hrs s hv, hR w s.ext s.heap s.nodup s.own⟩

/-- the whole: the results are read, what is told holds -/
theorem TL.ret {P : Program} {w0 : World} {R : Hp} {n : Nat} {ds : List Deferred} {fn : Func} {post : Value → Hp → Prop} {rs : List ResultVar} {vs : List Value} {R' : Hp} (hrs : fn.results = rs.toArray)
    (hv : ResAll ⟨P, none, w0, R.all.map (·.1), n, ds⟩ L H rs vs) (hsub : R'.all.Sublist H.all) (hp : post (retV vs) R') : TL fn (RetE w0 R post) [] ⟨P, none, w0, R.all.map (·.1), n, ds⟩ L H :=
  TL.nil hrs hv fun w he hh hn ho => ⟨_, R', rfl, ⟨he, (hsub.map _).nodup hn, fun p hp => hh p (hsub.subset hp), fun p hp => ho p (hsub.subset hp)⟩, hp⟩

theorem TL.mark {fn : Func} {Rr : Ending → World → Prop} {ds : List Deferred} {r i : Nat} {as : Array Value} {E E' : Blocks} {S : List Blocks} (hi : getB E i = some (r, .deferred (some []))) (hs : setB E i (r, .deferred none) = some E')
    (h : TL fn Rr ds c L ⟨E', S⟩) : TL fn Rr ({ target := .collected r, args := as } :: ds) c L ⟨E, S⟩ := fun a w s => by
  have hb := s.heap _ (getB_mem (H := ⟨E, S⟩) hi)
  have hlt := s.lt (getB_mem (H := ⟨E, S⟩) hi)
  refine ⟨by simp, .inl ⟨r, World.withBlock w r (.deferred none), rfl, ?_, h a _ (s.setBlock hi hs)⟩⟩
  simp [Instr.takeDeferred, getObj, setObj, Sem.run, hb, World.withBlock]

theorem TE.fin {P : Program} {w0 : World} {R : Hp} {n : Nat} {fn : Func} {post : Value → Hp → Prop} {ds : List Deferred} (h : TL fn (RetE w0 R post) ds ⟨P, none, w0, R.all.map (·.1), n, ds⟩ L H) :
    TE (Fin P fn w0 R post) .ret ⟨P, none, w0, R.all.map (·.1), n, ds⟩ L H := fun a w s => by
  have := h a w s
  show LeavesInM (FW none) 1 P fn a.tmps (RetE w0 R post) a.defers .returning w
  rw [s.defers]; exact this

theorem TE.finN {P : Program} {w0 : World} {R : Hp} {n : Nat} {fn : Func} {post : Value → Hp → Prop} {ds : List Deferred} (h : TL fn (RetE w0 R post) ds ⟨P, none, w0, R.all.map (·.1), n, ds⟩ L H) :
    TE (Fin P fn w0 R post) .normal ⟨P, none, w0, R.all.map (·.1), n, ds⟩ L H := fun a w s => by
  have := h a w s
  show LeavesInM (FW none) 1 P fn a.tmps (RetE w0 R post) a.defers .returning w
  rw [s.defers]; exact this
end
end Go.HW
