/- The statement 'for .. := range g', g an iterator. -/
import Derived.Test.YtbpldfhehpjbaaaHwRange
namespace Go.HW
open Go Go.RowKit
set_option linter.unusedVariables false

/-- what a round may leave behind: 0 goes on; 1 returns; m + 2 exits block m -/
def pendOf : Nat → Option Code
  | 0 => none
  | 1 => some .ret
  | m + 2 => some (.exit m)
def exitOf : Nat → Exit
  | 0 => .normal
  | 1 => .ret
  | m + 2 => .exit m
def stOf (m : Nat) : LoopState := if (pendOf m).isNone then .ready else .done

structure LoopAt (lr : Loop) (tmps : Array Value) (ps : Array Tmp) (assign body : Code) (m r : Nat) : Prop where
  state : lr.state = stOf m
  pending : lr.pending = pendOf m
  tmps : lr.tmps = tmps
  params : lr.params = ps
  assign : lr.assign = assign
  body : lr.body = body
  defers : lr.defers = r

/-- the slots with the parameters set -/
def argP : List Nat → List Value → Slots → Slots
  | p :: ps, v :: vs, L => argP ps vs ((p, v) :: L)
  | _, _, L => L

theorem argP_ok : ∀ (ps : List Nat) (vs : List Value) (L : Slots) (tm : Array Value), (∀ p ∈ ps, p < tm.size) → (∀ t v, look L t = some v → tm.getD t undef = v) →
    ∀ t v, look (argP ps vs L) t = some v → ((ps.zip vs).foldl (fun tm (x : Nat × Value) => tm.setIfInBounds x.1 x.2) tm).getD t undef = v
  | [], vs, L, tm, _, h => by intro t v hl; exact h t v (by simpa [argP] using hl)
  | p :: ps, [], L, tm, _, h => by intro t v hl; exact h t v (by simpa [argP] using hl)
  | p :: ps, v :: vs, L, tm, hp, h => by
    intro t u hl
    simp only [List.zip_cons_cons, List.foldl_cons]
    refine argP_ok ps vs ((p, v) :: L) _ (fun q hq => by simp; exact hp q (by simp [hq])) ?_ t u hl
    intro t u hl
    have hps : p < tm.size := hp p (by simp)
    simp only [look] at hl
    cases hb : Nat.beq p t with
    | true =>
      rw [hb] at hl
      have := Nat.eq_of_beq_eq_true hb
      subst this
      simp at hl; subst hl
      simp [Array.getD, hps]
    | false =>
      rw [hb] at hl
      have := h t u hl
      have hne : p ≠ t := fun e => by subst e; simp at hb
      rw [← this]
      simp only [Array.getD, Array.size_setIfInBounds]
      split
      · rename_i ht'; exact Array.getElem_setIfInBounds_ne ht' hne
      · rfl

theorem foldl_size : ∀ (l : List (Nat × Value)) (tm : Array Value), (l.foldl (fun tm (x : Nat × Value) => tm.setIfInBounds x.1 x.2) tm).size = tm.size
  | [], tm => rfl
  | x :: l, tm => by rw [List.foldl_cons, foldl_size l]; simp

/-- what is asked behind the assignment to the loop's left sides -/
def RndQ (P : Program) (l : Nat) (body : Code) (Rr : Ending → World → Prop) : Exit → Act → World → Prop :=
  Exit.then (fun a₁ w₁ => ∃ w₂, (Instr.beginRound l).run P w₁ = .ok () w₂ ∧ body.wpIn (FW (some l)) 1 P (roundPost P l Rr) a₁ w₂) (fun _ _ _ => False)

theorem getLoop_run {P : Program} {w : World} {l : Nat} {lr : Loop} (h : w.heap[l]? = some (.loop lr)) : (Instr.getLoop l).run P w = .ok lr w := by
  simp [Instr.getLoop, getObj, Sem.run, h]

theorem beginRound_run {P : Program} {w : World} {l : Nat} {lr : Loop} (h : w.heap[l]? = some (.loop lr)) (hs : lr.state = .ready) :
    (Instr.beginRound l).run P w = .ok () (World.withBlock w l (.loop { lr with state := .busy })) := by
  simp [Instr.beginRound, Instr.getLoop, getObj, setObj, Sem.run, h, hs, World.withBlock]

theorem endRound_run {P : Program} {w : World} {l : Nat} {lr : Loop} {j : Option Code} (h : w.heap[l]? = some (.loop lr)) :
    (Instr.endRound l j).run P w = .ok (.bool j.isNone) (World.withBlock w l (.loop { lr with state := if j.isNone then .ready else .done, pending := j })) := by
  simp [Instr.endRound, Instr.getLoop, getObj, setObj, Sem.run, h, World.withBlock]

theorem endLoop_run {P : Program} {w : World} {l : Nat} {lr : Loop} (h : w.heap[l]? = some (.loop lr)) (hs : lr.state ≠ .busy) :
    (Instr.endLoop l).run P w = .ok lr.pending (World.withBlock w l (.loop { lr with state := .exhausted })) := by
  simp [Instr.endLoop, Instr.getLoop, getObj, setObj, Sem.run, h, hs, World.withBlock]

theorem yield_run {P : Program} {w : World} {l : Nat} {lr : Loop} {args : Array Value} (h : w.heap[l]? = some (.loop lr)) (hs : args.size = lr.params.size) :
    (Instr.yield l args).run P w = .ok (.round l lr.fn ((lr.params.zip args).foldl (fun tmps (t, a) => tmps.setIfInBounds t a) lr.tmps) lr.assign lr.body) w := by
  simp [Instr.yield, Instr.getLoop, getObj, Sem.run, h, hs]

theorem one_all (X : Blocks) : (⟨[], [X]⟩ : Hp).all = X := by simp [Hp.all]

section
variable {c : Cx} {L : Slots} {Q : Exit → Act → World → Prop}
theorem TE.begin {P : Program} {w0 : World} {R0 : List Nat} {n : Nat} {ds : List Deferred} {l i : Nat} {lr : Loop} {body : Code} {Rr : Ending → World → Prop} {E E' : Blocks} {S : List Blocks}
    (hi : getB E i = some (l, .loop lr)) (hst : lr.state = .ready) (hs : setB E i (l, .loop { lr with state := .busy }) = some E')
    (h : TC ⟨P, some l, w0, R0, n, ds⟩ body (roundPost P l Rr) L ⟨E', S⟩) : TE (RndQ P l body Rr) .normal ⟨P, some l, w0, R0, n, ds⟩ L ⟨E, S⟩ := by
  intro a w s
  have hb := s.heap _ (getB_mem (H := ⟨E, S⟩) hi)
  exact ⟨_, beginRound_run hb hst, h a _ (s.setBlock hi hs)⟩

/-- a round's end -/
theorem TE.rend {P : Program} {w0 : World} {Hs0 : Blocks} {n l m : Nat} {lr : Loop} {post : Value → Hp → Prop} {E : Blocks} {S : List Blocks}
    (hp : post (.bool (Nat.beq m 0)) ⟨[], [(⟨(l, .loop { lr with state := stOf m, pending := pendOf m }) :: E, S⟩ : Hp).all]⟩) :
    TE (roundPost P l (RetE w0 ⟨[], [Hs0]⟩ post)) (exitOf m) ⟨P, some l, w0, Hs0.map (·.1), n, []⟩ L ⟨(l, .loop lr) :: E, S⟩ := by
  intro a w s
  have hb := s.heap (l, .loop lr) (by simp [Hp.all])
  have s2 := s.setBlock (i := 0) (E' := (l, .loop { lr with state := stOf m, pending := pendOf m }) :: E) (o' := .loop { lr with state := stOf m, pending := pendOf m }) rfl rfl
  have hr : (RetE w0 ⟨[], [Hs0]⟩ post) (.returned (.bool (pendOf m).isNone)) (World.withBlock w l (.loop { lr with state := stOf m, pending := pendOf m })) := by
    refine ⟨_, ⟨[], [(⟨(l, .loop { lr with state := stOf m, pending := pendOf m }) :: E, S⟩ : Hp).all]⟩, rfl, ⟨?_, ?_, ?_, ?_⟩, ?_⟩
    · rw [one_all]; exact s2.ext
    · rw [one_all]; exact s2.nodup
    · rw [one_all]; exact s2.heap
    · rw [one_all, one_all]; exact s2.own
    · have : (pendOf m).isNone = Nat.beq m 0 := by rcases m with _ | _ | m <;> rfl
      rw [this]; exact hp
  rcases m with _ | _ | m
  · exact ⟨_, _, endRound_run hb, hr⟩
  · exact ⟨_, _, endRound_run hb, hr⟩
  · exact ⟨_, _, endRound_run hb, hr⟩

/-- the iterator's blocks and its row of the consumer's -/
def HpOk (w : World) (R : Hp) : Prop := (∀ p ∈ R.all, w.heap[p.1]? = some p.2) ∧ (R.all.map (·.1)).Nodup

theorem Sat.hpOk {c : Cx} {L : Slots} {a : Act} {w : World} {R H : Hp} (s : Sat c L (R.add H) a w) : HpOk w R :=
  ⟨fun p hp => s.heap p ((Hp.add_perm R H).mem_iff.2 (List.mem_append.2 (.inl hp))), by
    have := ((Hp.add_perm R H).map (·.1)).nodup_iff.1 s.nodup
    rw [List.map_append, List.nodup_append] at this
    exact this.1⟩
theorem TE.asE {Q : Exit → Act → World → Prop} {e e' : Exit} {c : Cx} {L : Slots} {H : Hp} (he : e' = e) (h : TE Q e c L H) : TE Q e' c L H := by subst he; exact h

theorem subD {E E' : Blocks} {S S' : List Blocks} (ke ks : Nat) (hE : dropL' ke E = E') (hS : dropL' ks S = S') : (⟨E', S'⟩ : Hp).all.Sublist (⟨E, S⟩ : Hp).all := by
  subst hE; subst hS; exact drop_all ke ks E S

theorem subRet0 {E E' : Blocks} {S S' : List Blocks} (ke ks : Nat) (hE : dropL' ke E = E') (hS : dropL' ks S = S') : (⟨E', [] :: S'⟩ : Hp).all.Sublist (⟨E, S⟩ : Hp).all := by
  subst hE; subst hS; exact drop_all ke ks E S
theorem subRet {E E' : Blocks} {S S' : List Blocks} {Hs : Blocks} {i : Nat} (ke ks : Nat) (hi : getS S i = some Hs) (hE : dropL' ke E = E') (hS : dropL' ks S = S') (hlt : Nat.blt i ks = true) : (⟨E', Hs :: S'⟩ : Hp).all.Sublist (⟨E, S⟩ : Hp).all := by
  subst hE; subst hS
  refine List.Sublist.append (dropL'_sub ke E) (flatten_sub ?_)
  have hlt' : i < ks := by simpa [Nat.blt_eq] using hlt
  clear hlt
  induction S generalizing i ks with
  | nil => simp [getS] at hi
  | cons y l ih =>
    cases ks with
    | zero => omega
    | succ k =>
      cases i with
      | zero => simp [getS] at hi; subst hi; exact List.Sublist.cons_cons _ (dropL'_sub k l)
      | succ i => exact (ih k (by simpa [getS] using hi) (by omega)).cons y

/-- the consumer's blocks, outermost: the record, the mark's block, its own -/
def JO {σ : Type} (tmps : Array Value) (ps : Array Tmp) (assign body : Code) (l r : Nat) (Ed : Blocks) (I : σ → Hp → Prop) (s : σ × Nat) (Hs : Blocks) : Prop :=
  ∃ H' lr, I s.1 H' ∧ LoopAt lr tmps ps assign body s.2 r ∧ Hs = (⟨(l, .loop lr) :: (Ed ++ H'.E), H'.S⟩ : Hp).all

def stepR {σ α : Type} (stepB : σ → α → Option (σ × Nat)) (s : σ × Nat) (x : α) : Option (σ × Nat) := bif Nat.beq s.2 0 then stepB s.1 x else none
def goR {σ : Type} (s : σ × Nat) : Bool := Nat.beq s.2 0

/-- what the rounds' walk must show -/
def Rounds {σ α : Type} (c : Cx) (L : Slots) (ps : List Nat) (assign body : Code) (Ed : Nat → Blocks) (I : σ → Hp → Prop) (enc : α → List Value) (stepB : σ → α → Option (σ × Nat)) : Prop :=
  ∀ (l r : Nat) (lr : Loop) (w' : World) (R : List Nat) (s : σ) (x : α) (s' : σ) (m : Nat) (H' : Hp) (Rr : Ending → World → Prop), lr.state = .ready → stepB s x = some (s', m) → I s H' → ExtB c.w0 c.R0 w' R →
    (∀ L2 H2, I s' H2 → TE (roundPost c.P l Rr) (exitOf m) ⟨c.P, some l, w', R, c.n, []⟩ L2 ⟨(l, .loop { lr with state := .busy }) :: (Ed r ++ H2.E), H2.S⟩) →
    TC ⟨c.P, some l, w', R, c.n, []⟩ assign (RndQ c.P l body Rr) (argP ps (enc x) L) ⟨(l, .loop lr) :: (Ed r ++ H'.E), H'.S⟩

theorem yld_of {σ α : Type} {c : Cx} {a : Act} {w w1 : World} {L : Slots} {H0 : Hp} {l r : Nat} {lr : Loop} {ps : List Nat} {assign body : Code} {Ed : Nat → Blocks} {I : σ → Hp → Prop}
    {enc : α → List Value} {stepB : σ → α → Option (σ × Nat)} {R0 : List Nat} (s : Sat c L H0 a w) (hx : ExtB c.w0 c.R0 w1 R0)
    (hps : ∀ p ∈ ps, p < c.n) (henc : ∀ x, (enc x).length = ps.length) (hr : Rounds c L ps assign body Ed I enc stepB) :
    Yld c.P w1 R0 (.func (.yield l) #[] #[]) (JO a.tmps ps.toArray assign body l r (Ed r) I) enc (stepR stepB) goR := by
  rintro ⟨s0, m0⟩ x ⟨s1, m1⟩ w' Hs hst ⟨H', lr, hI, hat, rfl⟩ he hh hn ho
  cases m0 with
  | succ m0 => cases hst
  | zero =>
    have hst' : stepB s0 x = some (s1, m1) := hst
    have hb : w'.heap[l]? = some (.loop lr) := hh (l, .loop lr) (by simp [Hp.all])
    refine ⟨l, lr.fn, _, lr.assign, lr.body, rfl, yield_run hb (by simp [hat.params, henc]), ?_⟩
    refine roundIn_FW (ro := none) (n := 1) (roundIn_of_wpIn (F := FW none) trivial ?_)
    rw [hat.assign, hat.body, hat.params, hat.tmps]
    have hready : lr.state = .ready := by rw [hat.state]; rfl
    have hx' : ExtB c.w0 c.R0 w' (((⟨(l, .loop lr) :: (Ed r ++ H'.E), H'.S⟩ : Hp).all).map (·.1)) := by
      refine ⟨hx.tr he, fun k hk => ?_⟩
      obtain ⟨p, hp, rfl⟩ := List.mem_map.1 hk
      rcases ho p hp with h | h
      · exact hx.2 _ h
      · have := hx.1.size; exact .inr (by omega)
    refine hr l r lr w' (((⟨(l, .loop lr) :: (Ed r ++ H'.E), H'.S⟩ : Hp).all).map (·.1)) s0 x s1 m1 H' _ hready hst' hI hx' ?_ _ w' ?_
    · intro L2 H2 hI2
      refine TE.rend (post := fun v R' => v = .bool (goR (s1, m1)) ∧ ∃ Hs', R' = ⟨[], [Hs']⟩ ∧ JO a.tmps ps.toArray assign body l r (Ed r) I (s1, m1) Hs') ⟨rfl, _, rfl, H2, { lr with state := stOf m1, pending := pendOf m1 }, hI2, ⟨rfl, rfl, hat.tmps, hat.params, hat.assign, hat.body, hat.defers⟩, rfl⟩
    · have hz : (Array.foldl (fun tmps (x : Tmp × Value) => match x with | (t, a) => tmps.setIfInBounds t a) a.tmps (ps.toArray.zip (enc x).toArray)) = (ps.zip (enc x)).foldl (fun tm (x : Nat × Value) => tm.setIfInBounds x.1 x.2) a.tmps := by
        simp
      refine ⟨?_, rfl, ?_, Ext.refl _ _, hn, hh, fun p hp => .inl (List.mem_map.2 ⟨p, hp, rfl⟩)⟩
      · rw [show (Act.tmps _) = _ from rfl]
        simp only [hz]
        rw [foldl_size]; exact s.size
      · simp only [hz]
        exact argP_ok ps (enc x) L a.tmps (fun p hp => by rw [s.size]; exact hps p hp) s.slots

theorem enterLoop_run0 {P : Program} {w : World} {fn : FuncId} {tmps : Array Value} {ps : Array Tmp} {assign body : Code} :
    (Instr.enterLoop fn tmps ps assign body none).run P w = .ok (w.heap.size + 1, [{ target := .collected w.heap.size, args := #[] }])
      { w with heap := (w.heap.push (.deferred (some []))).push (.loop { state := .ready, pending := none, fn, tmps, params := ps, assign, body, defers := w.heap.size }) } := by
  simp [Instr.enterLoop, newObj, Sem.run]; constructor <;> rfl

theorem enterLoop_run1 {P : Program} {w : World} {fn l0 : Nat} {lr0 : Loop} {tmps : Array Value} {ps : Array Tmp} {assign body : Code} (h : w.heap[l0]? = some (.loop lr0)) :
    (Instr.enterLoop fn tmps ps assign body (some l0)).run P w = .ok (w.heap.size, [])
      { w with heap := w.heap.push (.loop { state := .ready, pending := none, fn, tmps, params := ps, assign, body, defers := lr0.defers }) } := by
  simp [Instr.enterLoop, Instr.getLoop, getObj, newObj, Sem.run, h]

/-- what the iterator's contract must give -/
def JDec {σ : Type} (I : σ → Hp → Prop) (J : σ × Nat → Blocks → Prop) : Prop :=
  ∀ s m Hs, J (s, m) Hs → ∃ H' X, I s H' ∧ Hs.Perm (X ++ H'.all) ∧ ∀ s' H'', I s' H'' → ∃ Hs', J (s', m) Hs' ∧ Hs'.Perm (X ++ H''.all)

theorem JO.dec {σ : Type} {tmps : Array Value} {ps : Array Tmp} {assign body : Code} {l r : Nat} {Ed : Blocks} {I : σ → Hp → Prop} : JDec I (JO tmps ps assign body l r Ed I) := by
  rintro s m Hs ⟨H', lr, hI, hat, rfl⟩
  refine ⟨H', (l, .loop lr) :: Ed, hI, by simp [Hp.all], fun s' H'' hI' => ⟨_, ⟨H'', lr, hI', hat, rfl⟩, by simp [Hp.all]⟩⟩

def IterOk {σ α : Type} (c : Cx) (L : Slots) (k : FuncId) (fi ca : List Value) (Ec : Blocks) (Sc : List Blocks) (I : σ → Hp → Prop) (enc : α → List Value) (step : σ × Nat → α → Option (σ × Nat)) (s0 s1 : σ × Nat) : Prop :=
  ∀ (w : World) (yv : Value) (J : σ × Nat → Blocks → Prop) (Hs0 : Blocks), JDec I J → ExtB c.w0 c.R0 w ((⟨Ec, Sc ++ [Hs0]⟩ : Hp).all.map (·.1)) → HpOk w ⟨Ec, Sc ++ [Hs0]⟩ →
    Yld c.P w ((⟨Ec, Sc ++ [Hs0]⟩ : Hp).all.map (·.1)) yv J enc step goR → J s0 Hs0 →
    Ret c.P k (fi ++ ([yv] ++ ca)) w ⟨Ec, Sc ++ [Hs0]⟩ fun v R' => ∃ Hs1, J s1 Hs1 ∧ R' = ⟨Ec, Sc ++ [Hs1]⟩

theorem range_core {σ α : Type} {c : Cx} {L : Slots} {Q : Exit → Act → World → Prop} {g : Operand} {k : FuncId} {fi ca : List Value} {ps : List Nat} {assign body : Code} {E1 Ec : Blocks} {S1 Sc : List Blocks} {Ed : Nat → Blocks} {I : σ → Hp → Prop}
    {enc : α → List Value} {stepB : σ → α → Option (σ × Nat)} {s0 s1 : σ} {m1 : Nat} {mk : Nat → List Deferred} {a : Act} {w : World}
    (hk : ∀ (args : Array Value) (w : World), (callFunc k args).run c.P w = .ok (.enter k args) w)
    (hg : ev L g = some (.func (.func k) fi.toArray ca.toArray)) (hps : ∀ p ∈ ps, p < c.n) (henc : ∀ x, (enc x).length = ps.length)
    (hi : IterOk c L k fi ca Ec Sc I enc (stepR stepB) (s0, 0) (s1, m1)) (hI : I s0 ⟨E1, S1⟩) (hr : Rounds c L ps assign body Ed I enc stepB)
    (he : ∀ fn, ∃ l r w1 lr, (Instr.enterLoop fn a.tmps ps.toArray assign body c.ro).run c.P w = .ok (l, mk r) w1 ∧ LoopAt lr a.tmps ps.toArray assign body 0 r ∧
      Sat c L ((⟨Ec, Sc⟩ : Hp).add ⟨(l, .loop lr) :: (Ed r ++ E1), S1⟩) a w1)
    (hq : ∀ l r lr a' w' H1, I s1 H1 → a'.tmps = a.tmps → a'.defers = mk r ++ a.defers → Sat c L ((⟨Ec, Sc⟩ : Hp).add ⟨(l, .loop lr) :: (Ed r ++ H1.E), H1.S⟩) a w' → Q (exitOf m1) a' w') :
    (Code.rangeFunc g ps.toArray assign body).wpIn (FW c.ro) 1 c.P Q a w := by
  refine wpIn_rangeFunc fun fn _ => ?_
  obtain ⟨l, r, w1, lr, hent, hat, s⟩ := he fn
  have hgv : a.eval g = .func (.func k) fi.toArray ca.toArray := s.eval hg
  refine ⟨l, mk r, w1, { target := .fn (.func k) ca.toArray, args := fi.toArray ++ #[Value.func (.yield l) #[] #[]] }, w1, k, (fi ++ ([Value.func (.yield l) #[] #[]] ++ ca)).toArray, w1, hent, ?_, fun _ _ => trivial, ?_, by simp [FW], ?_⟩
  · simp only [resolve, hgv]
    simp [Deferred.ofValue, Act.eval]
  · simp [invoke, hk]
  · have hp : ((⟨Ec, Sc ++ [(⟨(l, .loop lr) :: (Ed r ++ E1), S1⟩ : Hp).all]⟩ : Hp).add Hp.nil).all.Perm ((⟨Ec, Sc⟩ : Hp).add ⟨(l, .loop lr) :: (Ed r ++ E1), S1⟩).all := by
      refine (Hp.add_perm _ _).trans (List.Perm.trans ?_ (Hp.add_perm _ _).symm)
      simp [Hp.all]
    have sp := s.perm hp
    have hall : ∀ X : Hp, (X.add Hp.nil).all = X.all := fun X => by simp [Hp.add, Hp.all]
    have hok : HpOk w1 ⟨Ec, Sc ++ [(⟨(l, .loop lr) :: (Ed r ++ E1), S1⟩ : Hp).all]⟩ := ⟨fun p hp => sp.heap p (by rw [hall]; exact hp), by have := sp.nodup; rwa [hall] at this⟩
    have hx := sp.extB
    have hJ : JO a.tmps ps.toArray assign body l r (Ed r) I (s0, 0) (⟨(l, .loop lr) :: (Ed r ++ E1), S1⟩ : Hp).all := ⟨⟨E1, S1⟩, lr, hI, hat, rfl⟩
    have hy := yld_of (a := a) (L := L) (l := l) (r := r) (lr := lr) (Ed := Ed) (I := I) s hx hps henc hr
    have hcall := hi w1 (.func (.yield l) #[] #[]) (JO a.tmps ps.toArray assign body l r (Ed r) I) _ JO.dec hx hok hy hJ
    refine callsIn_FW (Calls.mono hcall ?_)
    rintro e w2 ⟨v, R', rfl, heff, Hs1, ⟨H1, lr1, hI1, hat1, rfl⟩, rfl⟩
    have s2 := (sp.eff heff).perm (H' := (⟨Ec, Sc⟩ : Hp).add ⟨(l, .loop lr1) :: (Ed r ++ H1.E), H1.S⟩) (by
      refine (Hp.add_perm _ _).trans (List.Perm.trans ?_ (Hp.add_perm _ _).symm)
      simp [Hp.all])
    have hb : w2.heap[l]? = some (.loop lr1) := s2.heap (l, .loop lr1) ((Hp.add_perm _ _).mem_iff.2 (by simp [Hp.all]))
    have hnb : lr1.state ≠ .busy := by rw [hat1.state, stOf]; split <;> simp
    have hps2 := (Hp.add_perm ⟨Ec, Sc⟩ ⟨(l, .loop lr1) :: (Ed r ++ H1.E), H1.S⟩)
    have s3 : Sat c L ((⟨Ec, Sc⟩ : Hp).add ⟨(l, .loop { lr1 with state := .exhausted }) :: (Ed r ++ H1.E), H1.S⟩) a (World.withBlock w2 l (.loop { lr1 with state := .exhausted })) := by
      refine s2.setBlockG (o := .loop lr1) (A := Ec) (B := (Ed r ++ H1.E) ++ (Sc ++ H1.S).flatten) ?_ ?_ <;> simp [Hp.all, Hp.add]
    have hfin := hq l r _ { a with defers := mk r ++ a.defers } _ H1 hI1 rfl rfl s3
    refine ⟨lr1.pending, _, endLoop_run hb hnb, ?_⟩
    generalize World.withBlock w2 l (.loop { lr1 with state := .exhausted }) = w3 at hfin ⊢
    rw [hat1.pending]
    rcases m1 with _ | _ | m1
    · exact hfin
    · exact wpIn_ret hfin
    · exact wpIn_exit hfin

theorem Sat.act {P : Program} {ro : Option Nat} {w0 w : World} {R0 : List Nat} {n : Nat} {ds ds' : List Deferred} {L : Slots} {H : Hp} {a a' : Act} (ht : a'.tmps = a.tmps) (hd : a'.defers = ds')
    (s : Sat ⟨P, ro, w0, R0, n, ds⟩ L H a w) : Sat ⟨P, ro, w0, R0, n, ds'⟩ L H a' w :=
  ⟨by rw [ht]; exact s.size, hd, fun t v h => by rw [ht]; exact s.slots t v h, s.ext, s.nodup, s.heap, s.own⟩

/-- the statement, outermost: the mark's block stays -/
theorem TC.rangeO {σ α : Type} {P : Program} {w0 : World} {R0 : List Nat} {n : Nat} {ds : List Deferred} {L : Slots} {Q : Exit → Act → World → Prop} {g : Operand} {k : FuncId} {fi ca : List Value} (ps : List Nat) {assign body : Code} {E E1 Ec : Blocks} {S S1 Sc : List Blocks} (is js : List Nat)
    (I : σ → Hp → Prop) (enc : α → List Value) (stepB : σ → α → Option (σ × Nat)) (s0 s1 : σ) (m1 : Nat)
    (hk : ∀ (args : Array Value) (w : World), (callFunc k args).run P w = .ok (.enter k args) w)
    (hg : ev L g = some (.func (.func k) fi.toArray ca.toArray)) (hps : ps.all (fun p => Nat.blt p n) = true) (henc : ∀ x, (enc x).length = ps.length)
    (hE : takeBs E is = some (Ec, E1)) (hS : takeSs S js = some (Sc, S1)) (hI : I s0 ⟨E1, S1⟩)
    (hi : IterOk ⟨P, none, w0, R0, n, ds⟩ L k fi ca Ec Sc I enc (stepR stepB) (s0, 0) (s1, m1))
    (hr : Rounds ⟨P, none, w0, R0, n, ds⟩ L ps assign body (fun r => [(r, .deferred (some []))]) I enc stepB)
    (hq : ∀ r H1, I s1 H1 → TE Q (exitOf m1) ⟨P, none, w0, R0, n, { target := .collected r, args := #[] } :: ds⟩ L ⟨(r, .deferred (some [])) :: insBs H1.E is Ec, insBs H1.S js Sc⟩) :
    TC ⟨P, none, w0, R0, n, ds⟩ (.rangeFunc g ps.toArray assign body) Q L ⟨E, S⟩ := by
  intro a w s
  refine range_core (Ed := fun r => [(r, .deferred (some []))]) (mk := fun r => [{ target := .collected r, args := #[] }]) hk hg (fun p hp => by simpa [Nat.blt_eq] using List.all_eq_true.1 hps p hp) henc hi hI hr ?_ ?_
  · intro fn
    have s1 := (s.alloc (.deferred (some []))).alloc (.loop { state := .ready, pending := none, fn, tmps := a.tmps, params := ps.toArray, assign, body, defers := w.heap.size })
    have e : ({ w with heap := w.heap.push (.deferred (some [])) } : World).heap.size = w.heap.size + 1 := by simp
    rw [e] at s1
    refine ⟨_, w.heap.size, _, { state := .ready, pending := none, fn, tmps := a.tmps, params := ps.toArray, assign, body, defers := w.heap.size }, enterLoop_run0, ⟨rfl, rfl, rfl, rfl, rfl, rfl, rfl⟩, ?_⟩
    exact s1.perm (Hp.perm_of (List.perm_middle.trans ((List.perm_middle.trans ((takeBs_perm hE).cons _)).cons _)) (takeSs_perm hS))
  · intro l r lr a' w' H1 hI1 ht hd s'
    refine hq r H1 hI1 a' w' (Sat.act ht (by rw [hd, s'.defers]; rfl) ((s'.perm (H' := ⟨(l, .loop lr) :: (r, .deferred (some [])) :: insBs H1.E is Ec, insBs H1.S js Sc⟩) ?_).weak (fun _ _ h => h) ?_))
    · refine Hp.perm_of ?_ (insBs_perm js H1.S Sc)
      refine List.Perm.symm (List.perm_middle.trans (List.Perm.cons _ (List.perm_middle.trans (List.Perm.cons _ (insBs_perm is H1.E Ec).symm))))
    · exact List.sublist_cons_self _ _

/-- the statement within a round -/
theorem TC.rangeN {σ α : Type} {P : Program} {w0 : World} {R0 : List Nat} {n l0 i0 : Nat} {lr0 : Loop} {L : Slots} {Q : Exit → Act → World → Prop} {g : Operand} {k : FuncId} {fi ca : List Value} (ps : List Nat) {assign body : Code} {E E1 Ec : Blocks} {S S1 Sc : List Blocks} (is js : List Nat)
    (I : σ → Hp → Prop) (enc : α → List Value) (stepB : σ → α → Option (σ × Nat)) (s0 s1 : σ) (m1 : Nat)
    (hk : ∀ (args : Array Value) (w : World), (callFunc k args).run P w = .ok (.enter k args) w)
    (hg : ev L g = some (.func (.func k) fi.toArray ca.toArray)) (hps : ps.all (fun p => Nat.blt p n) = true) (henc : ∀ x, (enc x).length = ps.length) (h0 : getB E i0 = some (l0, .loop lr0))
    (hE : takeBs E is = some (Ec, E1)) (hS : takeSs S js = some (Sc, S1)) (hI : I s0 ⟨E1, S1⟩)
    (hi : IterOk ⟨P, some l0, w0, R0, n, []⟩ L k fi ca Ec Sc I enc (stepR stepB) (s0, 0) (s1, m1))
    (hr : Rounds ⟨P, some l0, w0, R0, n, []⟩ L ps assign body (fun r => []) I enc stepB)
    (hq : ∀ H1, I s1 H1 → TE Q (exitOf m1) ⟨P, some l0, w0, R0, n, []⟩ L ⟨insBs H1.E is Ec, insBs H1.S js Sc⟩) :
    TC ⟨P, some l0, w0, R0, n, []⟩ (.rangeFunc g ps.toArray assign body) Q L ⟨E, S⟩ := by
  intro a w s
  refine range_core (Ed := fun r => []) (mk := fun r => []) hk hg (fun p hp => by simpa [Nat.blt_eq] using List.all_eq_true.1 hps p hp) henc hi hI hr ?_ ?_
  · intro fn
    have hb := s.heap _ (getB_mem (H := ⟨E, S⟩) h0)
    have s1 := s.alloc (.loop { state := .ready, pending := none, fn, tmps := a.tmps, params := ps.toArray, assign, body, defers := lr0.defers })
    refine ⟨_, lr0.defers, _, { state := .ready, pending := none, fn, tmps := a.tmps, params := ps.toArray, assign, body, defers := lr0.defers }, enterLoop_run1 hb, ⟨rfl, rfl, rfl, rfl, rfl, rfl, rfl⟩, ?_⟩
    exact s1.perm (Hp.perm_of (List.perm_middle.trans ((takeBs_perm hE).cons _)) (takeSs_perm hS))
  · intro l r lr a' w' H1 hI1 ht hd s'
    refine hq H1 hI1 a' w' (Sat.act ht (by rw [hd, s'.defers]; rfl) ((s'.perm (H' := ⟨(l, .loop lr) :: insBs H1.E is Ec, insBs H1.S js Sc⟩) ?_).weak (fun _ _ h => h) ?_))
    · refine Hp.perm_of ?_ (insBs_perm js H1.S Sc)
      refine List.Perm.symm (List.perm_middle.trans (List.Perm.cons _ (insBs_perm is H1.E Ec).symm))
    · exact List.sublist_cons_self _ _
end
end Go.HW
