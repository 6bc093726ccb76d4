/- Part of the proof: the logic, the walks, and what they compute. -/
import Derived.Lib.AppendStr
import Derived.Lib.UnsafeStr
import Derived.Shelf.Strings.OnBuilder
import Derived.Shelf.Strings.BuilderK
import Derived.Shelf.Strconv.Itoa4
import Derived.Shelf.Strconv.ParseIntPublic10
import Derived.Shelf.Strings.Split
import Derived.Shelf.Strings.Fields
import Derived.Ground.NamesProg
import Derived.Test.YtfjefnnbodgfbaaGreatDoorProg
import Derived.Lib.SplitLaws
import Derived.Lib.ItoaNum
import Derived.Shelf.Strings.Repeat
import Derived.Shelf.Strings.Builder1
import Derived.Test.YtfjefnnbodgfbaaGreatDoorTB
set_option linter.all false
namespace Go.HW
open Go Go.RowKit
set_option linter.unusedVariables false
section
variable {c : C4}
end
def IterOkP {σ α : Type} (c : Cx) (L : Slots) (k : FuncId) (fi ca : List Value) (Sc : List Blocks) (Φ : List Blocks → Prop) (I : σ → Hp → Prop) (enc : α → List Value) (step : σ × Nat → α → Option (σ × Nat)) (s0 s1 : σ × Nat) : Prop :=
 ∀ (w : World) (yv : Value) (J : σ × Nat → Blocks → Prop) (Hs0 : Blocks), JDec I J → ExtB c.w0 c.R0 w ((⟨[], Sc ++ [Hs0]⟩ : Hp).all.map (·.1)) → HpOk w ⟨[], Sc ++ [Hs0]⟩ →
  Yld c.P w ((⟨[], Sc ++ [Hs0]⟩ : Hp).all.map (·.1)) yv J enc step goR → J s0 Hs0 →
  Ret c.P k (fi ++ ([yv] ++ ca)) w ⟨[], Sc ++ [Hs0]⟩ fun v R' => ∃ Hs1 Sc1, J s1 Hs1 ∧ Φ Sc1 ∧ R' = ⟨[], Sc1 ++ [Hs1]⟩
theorem range_coreP {σ α : Type} {c : Cx} {L : Slots} {Q : Exit → Act → World → Prop} {g : Operand} {k : FuncId} {fi ca : List Value} {ps : List Nat} {assign body : Code} {E1 : Blocks} {S1 Sc : List Blocks} {Φ : List Blocks → Prop} {Ed : Nat → Blocks} {I : σ → Hp → Prop}
  {enc : α → List Value} {stepB : σ → α → Option (σ × Nat)} {s0 s1 : σ} {m1 : Nat} {mk : Nat → List Deferred} {a : Act} {w : World}
  (hk : ∀ (args : Array Value) (w : World), (callFunc k args).run c.P w = .ok (.enter k args) w)
  (hg : ev L g = some (.func (.func k) fi.toArray ca.toArray)) (hps : ∀ p ∈ ps, p < c.n) (henc : ∀ x, (enc x).length = ps.length)
  (hi : IterOkP c L k fi ca Sc Φ I enc (stepR stepB) (s0, 0) (s1, m1)) (hI : I s0 ⟨E1, S1⟩) (hr : Rounds c L ps assign body Ed I enc stepB)
  (he : ∀ fn, ∃ l r w1 lr, (Instr.enterLoop fn a.tmps ps.toArray assign body c.ro).run c.P w = .ok (l, mk r) w1 ∧ LoopAt lr a.tmps ps.toArray assign body 0 r ∧
   Sat c L ((⟨[], Sc⟩ : Hp).add ⟨(l, .loop lr) :: (Ed r ++ E1), S1⟩) a w1)
  (hq : ∀ l r lr a' w' H1 Sc1, I s1 H1 → Φ Sc1 → a'.tmps = a.tmps → a'.defers = mk r ++ a.defers → Sat c L ((⟨[], Sc1⟩ : Hp).add ⟨(l, .loop lr) :: (Ed r ++ H1.E), H1.S⟩) a w' → Q (exitOf m1) a' w') :
  (Code.rangeFunc g ps.toArray assign body).wpIn (FW c.ro) 1 c.P Q a w := by
 refine wpIn_rangeFunc fun fn _ => ?_
 obtain ⟨l, r, w1, lr, hent, hat, s⟩ := he fn
 have hgv : a.eval g = .func (.func k) fi.toArray ca.toArray := s.eval hg
 refine ⟨l, mk r, w1, { target := .fn (.func k) ca.toArray, args := fi.toArray ++ #[Value.func (.yield l) #[] #[]] }, w1, k, (fi ++ ([Value.func (.yield l) #[] #[]] ++ ca)).toArray, w1, hent, ?_, fun _ _ => trivial, ?_, by simp [FW], ?_⟩
 ·simp only [resolve, hgv]
  simp [Deferred.ofValue, Act.eval]
 ·simp [invoke, hk]
 ·have hp : ((⟨[], Sc ++ [(⟨(l, .loop lr) :: (Ed r ++ E1), S1⟩ : Hp).all]⟩ : Hp).add Hp.nil).all.Perm ((⟨[], Sc⟩ : Hp).add ⟨(l, .loop lr) :: (Ed r ++ E1), S1⟩).all := by
   refine (Hp.add_perm _ _).trans (List.Perm.trans ?_ (Hp.add_perm _ _).symm)
   simp [Hp.all]
  have sp := s.perm hp
  have hall : ∀ X : Hp, (X.add Hp.nil).all = X.all := fun X => by simp [Hp.add, Hp.all]
  have hok : HpOk w1 ⟨[], Sc ++ [(⟨(l, .loop lr) :: (Ed r ++ E1), S1⟩ : Hp).all]⟩ := ⟨fun p hp => sp.heap p (by rw [hall]; exact hp), by have := sp.nodup; rwa [hall] at this⟩
  have hx := sp.extB
  have hJ : JO a.tmps ps.toArray assign body l r (Ed r) I (s0, 0) (⟨(l, .loop lr) :: (Ed r ++ E1), S1⟩ : Hp).all := ⟨⟨E1, S1⟩, lr, hI, hat, rfl⟩
  have hy := yld_of (a := a) (L := L) (l := l) (r := r) (lr := lr) (Ed := Ed) (I := I) s hx hps henc hr
  have hcall := hi w1 (.func (.yield l) #[] #[]) (JO a.tmps ps.toArray assign body l r (Ed r) I) _ JO.dec hx hok hy hJ
  refine callsIn_FW (Calls.mono hcall ?_)
  rintro e w2 ⟨v, R', rfl, heff, Hs1, Sc1, ⟨H1, lr1, hI1, hat1, rfl⟩, hΦ, rfl⟩
  have s2 := (sp.eff heff).perm (H' := (⟨[], Sc1⟩ : Hp).add ⟨(l, .loop lr1) :: (Ed r ++ H1.E), H1.S⟩) (by
   refine (Hp.add_perm _ _).trans (List.Perm.trans ?_ (Hp.add_perm _ _).symm)
   simp [Hp.all])
  have hb : w2.heap[l]? = some (.loop lr1) := s2.heap (l, .loop lr1) ((Hp.add_perm _ _).mem_iff.2 (by simp [Hp.all]))
  have hnb : lr1.state ≠ .busy := by rw [hat1.state, stOf]; split <;> simp
  have s3 : Sat c L ((⟨[], Sc1⟩ : Hp).add ⟨(l, .loop { lr1 with state := .exhausted }) :: (Ed r ++ H1.E), H1.S⟩) a (World.withBlock w2 l (.loop { lr1 with state := .exhausted })) := by
   refine s2.setBlockG (o := .loop lr1) (A := []) (B := (Ed r ++ H1.E) ++ (Sc1 ++ H1.S).flatten) ?_ ?_ <;> simp [Hp.all, Hp.add]
  have hfin := hq l r _ { a with defers := mk r ++ a.defers } _ H1 Sc1 hI1 hΦ rfl rfl s3
  refine ⟨lr1.pending, _, endLoop_run hb hnb, ?_⟩
  generalize World.withBlock w2 l (.loop { lr1 with state := .exhausted }) = w3 at hfin ⊢
  rw [hat1.pending]
  rcases m1 with _ | _ | m1
  ·exact hfin
  ·exact wpIn_ret hfin
  ·exact wpIn_exit hfin
theorem TC.rangeOP {σ α : Type} {P : Program} {w0 : World} {R0 : List Nat} {n : Nat} {ds : List Deferred} {L : Slots} {Q : Exit → Act → World → Prop} {g : Operand} {k : FuncId} {fi ca : List Value} (ps : List Nat) {assign body : Code} {Sc S1 : List Blocks} {Φ : List Blocks → Prop}
  (I : σ → Hp → Prop) (enc : α → List Value) (stepB : σ → α → Option (σ × Nat)) (s0 s1 : σ) (m1 : Nat)
  (hk : ∀ (args : Array Value) (w : World), (callFunc k args).run P w = .ok (.enter k args) w)
  (hg : ev L g = some (.func (.func k) fi.toArray ca.toArray)) (hps : ps.all (fun p => Nat.blt p n) = true) (henc : ∀ x, (enc x).length = ps.length)
  (hI : I s0 ⟨[], S1⟩)
  (hi : IterOkP ⟨P, none, w0, R0, n, ds⟩ L k fi ca Sc Φ I enc (stepR stepB) (s0, 0) (s1, m1))
  (hr : Rounds ⟨P, none, w0, R0, n, ds⟩ L ps assign body (fun r => [(r, .deferred (some []))]) I enc stepB)
  (hq : ∀ r H1 Sc1, I s1 H1 → Φ Sc1 → TE Q (exitOf m1) ⟨P, none, w0, R0, n, { target := .collected r, args := #[] } :: ds⟩ L ⟨(r, .deferred (some [])) :: H1.E, Sc1 ++ H1.S⟩) :
  TC ⟨P, none, w0, R0, n, ds⟩ (.rangeFunc g ps.toArray assign body) Q L ⟨[], Sc ++ S1⟩ := by
 intro a w s
 refine range_coreP (Ed := fun r => [(r, .deferred (some []))]) (mk := fun r => [{ target := .collected r, args := #[] }]) hk hg (fun p hp => by simpa [Nat.blt_eq] using List.all_eq_true.1 hps p hp) henc hi hI hr ?_ ?_
 ·intro fn
  have s1 := (s.alloc (.deferred (some []))).alloc (.loop { state := .ready, pending := none, fn, tmps := a.tmps, params := ps.toArray, assign, body, defers := w.heap.size })
  have e : ({ w with heap := w.heap.push (.deferred (some [])) } : World).heap.size = w.heap.size + 1 := by simp
  rw [e] at s1
  refine ⟨_, w.heap.size, _, { state := .ready, pending := none, fn, tmps := a.tmps, params := ps.toArray, assign, body, defers := w.heap.size }, enterLoop_run0, ⟨rfl, rfl, rfl, rfl, rfl, rfl, rfl⟩, ?_⟩
  exact s1.perm (by simp [Hp.all, Hp.add])
 ·intro l r lr a' w' H1 Sc1 hI1 hΦ ht hd s'
  refine hq r H1 Sc1 hI1 hΦ a' w' (Sat.act ht (by rw [hd, s'.defers]; rfl) (s'.weak (fun _ _ h => h) ?_))
  simp only [Hp.all, Hp.add, List.nil_append, List.cons_append]
  exact List.sublist_cons_self _ _
section
variable {P : Program} {w0 : World} {R0 : List Nat} {N : Nat} {ds : List Deferred} {gl : GlF w0 R0} {ρ0 : Env} {m : Nat}
theorem ltL_dens {ρ ρ' : Env} {np : Nat} (h1 : ∀ t, t < np → ρ' t = ρ t) : ∀ {L : SL}, ltL np L = true → DensL ρ L → DensL ρ' L ∧ realL ρ' L = realL ρ L
 | [], _, _ => ⟨trivial, rfl⟩
 | (t, y) :: L, hl, ⟨⟨v, hv⟩, hd⟩ => by
  simp only [ltL, Bool.and_eq_true] at hl
  have hh := SV.lt_den (fun u hu => (h1 u hu).symm) hl.1
  obtain ⟨j1, j2⟩ := ltL_dens h1 hl.2 hd
  exact ⟨⟨⟨v, by rw [hh]; exact hv⟩, j1⟩, by simp only [realL, hh, j2]⟩
theorem sel_old {ρ ρ' : Env} {τ : List Nat} {np : Nat} (h1 : ∀ t, t < np → ρ' t = ρ t) (hτ : ltAll np τ = true) : ρ'.sel τ = ρ.sel τ := by
 funext t
 simp only [Env.sel]
 cases ht : tgO τ t with
 | none => rfl
 | some u => exact h1 u (ltAll_spec hτ u (by rw [tgO_eq] at ht; exact List.mem_of_getElem? ht))
theorem RFO {σ α : Type} {k : FuncId} {g : Operand} (ps : List Nat) {assign body : Code} {K : List Fr} {Q : Exit → Act → World → Prop} {L : SL} {n : Nat}
  (Y : Yn α) (HI : SH) (TS : σ → SH) (RD : SH) (np mI : Nat) (τ : List Nat) (cca : List SV) (T0 : TypeId) (l0 : List SV) (cI : SH) (stepB : σ → α → Option (σ × Nat)) (s0 s1 : σ) (m1 : Nat) {ca : List SV}
  (hk : ∀ (args : Array Value) (w : World), (callFunc k args).run P w = .ok (.enter k args) w)
  (hg : evS L g = some (.fn (.func k) [] ca)) (hca : ca = SV.rens τ cca) (hT0 : takesH τ HI ((0, .cells T0 l0) :: cI) = some (renBs τ ((0, .cells T0 l0) :: cI)))
  (hb : (Nat.ble m np && Nat.ble np n && ltAll np τ && Nat.beq τ.length mI && ltL np L && ltH np RD && allRd RD && ps.all (fun p => Nat.blt p N) && allOwn ((0, .cells T0 l0) :: cI) && Nat.blt 0 mI && ltH mI ((0, .cells T0 l0) :: cI)) = true)
  (hlen : ∀ l x, (Y.val l x).length = ps.length) (hYP : ∀ l, Y.P l) (hT : ∀ s, (ltH n (TS s) && allOwn (TS s)) = true)
  (hI : ∀ (yv : Value) (J : σ × Nat → Blocks → Prop), ConY P k (.v yv :: cca) ((0, .cells T0 l0) :: cI ++ [(mI, .bx (J (s0, 0)))]) (mI + 1) (.tu []) ((0, .cells T0 l0) :: cI ++ [(mI, .bx (J (s1, m1)))]) (mI + 1) (fun w R ρ => YldY P w R ρ 0 yv J Y (stepR stepB) goR))
  (hr : RoundsY P w0 R0 N ps assign body Y TS RD L np n ((τ.head?).getD 0) stepB)
  (hq : ∀ r, G4 ⟨⟨P, none, w0, R0, N, { target := .collected r, args := #[] } :: ds⟩, ρ0, m, gl⟩ Q (.exit (exitOf m1) K) ⟨L, (n, .bx (fun f => f = [(r, .deferred (some []))])) :: nH τ (TS s1 ++ RD) ((0, .cells T0 l0) :: cI), n + 1⟩) :
  G4 ⟨⟨P, none, w0, R0, N, ds⟩, ρ0, m, gl⟩ Q (.code (.rangeFunc g ps.toArray assign body) K) ⟨L, HI ++ (TS s0 ++ RD), n⟩ := by
 simp only [Bool.and_eq_true] at hb
 obtain ⟨⟨⟨⟨⟨⟨⟨⟨⟨⟨b1, b2⟩, bτ⟩, bm⟩, b5⟩, b6⟩, b7⟩, b8⟩, b9⟩, b10⟩, b11⟩ := hb
 have b1 := Nat.le_of_ble_eq_true b1
 have b2 := Nat.le_of_ble_eq_true b2
 have bm := Nat.eq_of_beq_eq_true bm
 have b10 : 0 < mI := by simpa [Nat.blt_eq] using b10
 have hT1 := fun s => (Bool.and_eq_true _ _ ▸ hT s).1
 have hT2 := fun s => (Bool.and_eq_true _ _ ▸ hT s).2
 generalize hcI : ((0, .cells T0 l0) :: cI : SH) = cH at *
 intro ρ F a w hs
 obtain ⟨FI, F1, rfl, r0, hR1⟩ := Reps.append.1 hs.ok.reps
 obtain ⟨FT, FR, rfl, r1, r2⟩ := Reps.append.1 hR1
 have hFR := Reps.rdNil b7 r2
 obtain ⟨Fc, G, k1, k2⟩ := takesH_ren r0 hT0
 obtain ⟨vg, g1, g2⟩ := evS_ok hs.ok.dens hg
 rw [SV.den, dens_nil] at g1
 simp only [Option.bind_some] at g1
 obtain ⟨cav, g3, g4⟩ := Option.map_eq_some_iff.1 g1
 subst g4
 have hcav : SV.dens (ρ.sel τ) cca = some cav := dens_ren (by rw [← hca]; exact g3)
 obtain ⟨ll0, hll0⟩ : ∃ l, ρ.sel τ 0 = some l := by
  rw [← hcI] at k1
  obtain ⟨f, F', _, ⟨b, vs, h1, _, _⟩, _⟩ := k1
  cases hx : ρ.sel τ 0 with
  | none => rw [hx] at h1; cases h1
  | some l => exact ⟨l, rfl⟩
 have htr : ρ ((τ.head?).getD 0) = some ll0 := by
  cases τ with
  | nil => simp at bm; omega
  | cons u τ => exact hll0
 have htrlt : (τ.head?).getD 0 < np := by
  cases τ with
  | nil => simp at bm; omega
  | cons u τ => exact ltAll_spec bτ u (by simp)
 have s2 : Sat ⟨P, none, w0, R0, N, ds⟩ (realL ρ L) ⟨[], Fc ++ FT⟩ a w := by
  refine (hs.sat.perm (H' := ⟨[], (Fc ++ G) ++ (FT ++ FR)⟩) ?_).weak (fun _ _ h => h) ?_
  ·simp only [Hp.all, List.nil_append, List.flatten_append]
   have := k2.flatten
   simp only [List.flatten_append] at this
   exact this.append_right _
  ·simp only [Hp.all, List.nil_append, List.flatten_append, hFR, List.append_nil]
   exact List.Sublist.append (List.sublist_append_left _ _) (List.Sublist.refl _)
 refine TC.rangeOP (fi := []) (ca := cav) (Φ := fun Sc => Reps (cB P w0 []) (ρ.sel τ) cH Sc) ps
  (fun s H' => ∃ ρ' F', (∀ t, t < np → ρ' t = ρ t) ∧ (∀ t, n ≤ t → ρ' t = none) ∧ Reps (⟨P, none, w0, R0, N, ds⟩ : Cx) ρ' (TS s) F' ∧ H' = ⟨[], F'⟩)
  (Y.val ll0) stepB s0 s1 m1 hk g2 b8 (hlen _) ⟨ρ, FT, fun _ _ => rfl, hs.ok.fr, r1, rfl⟩ ?_ ?_ ?_ a w s2
 ·-- the iterator
  intro w1 yv J Hs0 hdec hx hok hy hJ
  let ρc : Env := fun t => if t < mI then ρ.sel τ t else if t = mI then some ⟨none, 0, 0⟩ else none
  have c1 : ∀ t, t < mI → ρc t = ρ.sel τ t := fun t ht => by simp only [ρc, ht, if_true]
  have c2 : ρc mI = some ⟨none, 0, 0⟩ := by simp [ρc]
  have c3 : Env.le (ρ.sel τ) ρc := fun t l e => by
   rcases Nat.lt_or_ge t mI with ht | ht
   ·rw [c1 t ht]; exact e
   ·simp [Env.sel, tgO_none (σ := τ) (t := t) (by omega)] at e
  have hall : (⟨[], Fc ++ [Hs0]⟩ : Hp).all = (Fc ++ [Hs0]).flatten := by simp [Hp.all]
  have hret := hI yv J w1 ρc (Fc ++ [Hs0]) (yv :: cav) (dens_cons_some.2 ⟨[yv], cav, by simp [SV.deni, SV.den], dens_mono c3 hcav, rfl⟩)
   (Reps.append.2 ⟨Fc, [Hs0], rfl, Reps.ownTr (n := mI) (c := (⟨P, none, w0, R0, N, ds⟩ : Cx)) c1 b9 b11 k1, Hs0, [], rfl, ⟨⟨_, c2⟩, hJ⟩, rfl⟩)
   (fun t ht => by simp only [ρc]; rw [if_neg (by omega), if_neg (by omega)]) (by rw [← hall]; exact hok.1) (by rw [← hall]; exact hok.2) (gl.tr (by rw [← hall]; exact hx)) (by rw [← hall]; exact ⟨ll0, by rw [c1 0 b10]; exact hll0, hYP _, hy⟩)
  refine Ret.mono hret ?_
  rintro v R' ⟨cc, ρ', F', rfl, hgr, _, hR'⟩
  obtain ⟨FA, FB, rfl, p1, f3, F3, rfl, ⟨_, hJ1⟩, hnil⟩ := Reps.append.1 hR'
  have hnil : F3 = [] := hnil
  subst hnil
  exact ⟨f3, FA, hJ1, Reps.ownTr (n := mI) (fun t ht => by rw [hgr.old t (by omega), c1 t ht]) b9 b11 p1, rfl⟩
 ·-- the rounds
  rintro l r lr w' R s x s' mm _ Rr hrdy hst ⟨ρ', F', h1, h2, h3, rfl⟩ hx hcont a2 w2 sat2
  obtain ⟨hL1, hL2⟩ := ltL_dens h1 b5 hs.ok.dens
  have hle : Env.le ρ' (ρ'.set n ⟨none, 0, 0⟩) := (Env.set_grow h2).toLe h2
  obtain ⟨i1, i2⟩ := argPS_ok (ps := ps) (L := L) (Y.ok (ρ'.set n ⟨none, 0, 0⟩) ((τ.head?).getD 0) ll0 x (hle _ _ (by rw [h1 _ htrlt]; exact htr)) (hYP _)) (hL1.mono hle)
  rw [realL_mono hle hL1, hL2] at i2
  have hx2 : ExtB w0 R0 w' R := hx
  refine hr l w' R (gl.tr hx2) ρ (fun f => f = [(l, .loop lr), (r, .deferred (some []))]) (fun f => f = [(l, .loop { lr with state := .busy }), (r, .deferred (some []))]) (RndQ P l body Rr) (roundPost P l Rr) s x s' mm (fun f hf => ⟨_, _, hf⟩) hst ?_ ?_
   (ρ'.set n ⟨none, 0, 0⟩) ([(l, .loop lr), (r, .deferred (some []))] :: (F' ++ FR)) a2 w2 ⟨⟨i1, ⟨_, _, rfl, ⟨⟨_, Env.set_self⟩, rfl⟩, Reps.append.2 ⟨F', FR, rfl, ?_, ?_⟩⟩, ?_, ?_, ?_⟩, ?_⟩
  ·intro L' H' n' hlk hbody ρ3 F3 a3 w3 s3
   obtain ⟨FA3, f, FB3, rfl, ⟨hloc, rfl⟩, hrep, _⟩ := s3.ok.reps.look hlk
   have hhp : w3.heap[l]? = some (.loop lr) := s3.sat.heap (l, .loop lr) (by simp [Hp.all])
   refine ⟨_, beginRound_run hhp hrdy, hbody ρ3 (FA3 ++ [(l, .loop { lr with state := .busy }), (r, .deferred (some []))] :: FB3) a3 _ ⟨⟨s3.ok.dens, hrep ρ3 n (.bx _) _ (Env.le_refl _) ⟨hloc, rfl⟩, s3.ok.fr, s3.ok.pin, s3.ok.mle⟩, ?_⟩⟩
   exact s3.sat.setBlockG (o := .loop lr) (A := FA3.flatten) (B := (r, .deferred (some [])) :: FB3.flatten) (by simp [Hp.all]) (by simp [Hp.all])
  ·intro st hi ρ3 F3 a3 w3 s3
   obtain ⟨ρ4, F4, s4⟩ := hi ρ3 F3 a3 w3 s3
   obtain ⟨fX, F5, rfl, ⟨_, rfl⟩, hR5⟩ := s4.ok.reps
   refine hcont [] ⟨[], F5⟩ ⟨fun t => if t < n then ρ4 t else none, F5, ?_, ?_, ?_, rfl⟩ a3 w3 ?_
   ·intro t ht
    have : t < n := by omega
    simp only [this, if_true]; exact s4.ok.pin t ht
   ·intro t ht
    simp only [show ¬ t < n from by omega, if_false]
   ·exact Reps.ownTr (n := n) (fun t ht => by simp [ht]) (hT2 s') (hT1 s') hR5
   ·refine ⟨s4.sat.size, s4.sat.defers, fun t v h => by simp [look] at h, s4.sat.ext, ?_, ?_, ?_⟩
    ·simpa [Hp.all] using s4.sat.nodup
    ·intro p hp; exact s4.sat.heap p (by simpa [Hp.all] using hp)
    ·intro p hp; exact s4.sat.own p (by simpa [Hp.all] using hp)
  ·exact Reps.ownTr (n := n) (fun t ht => by simp [Env.set, Nat.ne_of_lt ht]) (hT2 s) (hT1 s) h3
  ·exact Reps.rdTr (np := np) hx2 (fun t ht => by simp [Env.set, Nat.ne_of_lt (Nat.lt_of_lt_of_le ht b2), h1 t ht]) b7 b6 r2
  ·intro t ht; simp only at ht; simp only [Env.set, show t ≠ n from by omega, if_false]; exact h2 t (by omega)
  ·intro t ht; simp only at ht; simp only [Env.set, show t ≠ n from by omega, if_false]; exact h1 t ht
  ·show np ≤ n + 1; omega
  ·have : Sat ⟨P, some l, w', R, N, []⟩ (realL (ρ'.set n ⟨none, 0, 0⟩) (argPS ps (Y.sv ((τ.head?).getD 0) x) L)) ⟨[], [(l, .loop lr), (r, .deferred (some []))] :: (F' ++ FR)⟩ a2 w2 := by
    rw [i2]
    refine sat2.perm ?_
    simp only [Hp.all, List.nil_append, List.flatten_cons, List.flatten_append, hFR, List.append_nil, List.cons_append]
    exact List.Perm.refl _
   exact this
 ·-- behind it
  rintro r _ Sc1 ⟨ρ', F', h1, h2, h3, rfl⟩ hΦ a2 w2 sat2
  obtain ⟨hL1, hL2⟩ := ltL_dens h1 b5 hs.ok.dens
  have hle : Env.le ρ' (ρ'.set n ⟨none, 0, 0⟩) := (Env.set_grow h2).toLe h2
  have hsel : (ρ'.set n ⟨none, 0, 0⟩).sel τ = ρ.sel τ := sel_old (np := np) (fun t ht => by simp [Env.set, Nat.ne_of_lt (Nat.lt_of_lt_of_le ht b2), h1 t ht]) bτ
  refine hq r (ρ'.set n ⟨none, 0, 0⟩) ([(r, .deferred (some []))] :: (Sc1 ++ (F' ++ FR))) a2 w2 ⟨⟨hL1.mono hle, ⟨_, _, rfl, ⟨⟨_, Env.set_self⟩, rfl⟩, nH_reps (c' := cB P w0 []) (Reps.append.2 ⟨F', FR, rfl, Reps.cx (c := ⟨P, none, w0, R0, N, ds⟩) (c' := ⟨P, none, w0, R0, N, { target := .collected r, args := #[] } :: ds⟩) rfl rfl (h3.mono hle), ?_⟩) b9 (by rw [hsel]; exact hΦ)⟩, ?_, ?_, ?_⟩, ?_⟩
  ·exact Reps.rdTr (c := ⟨P, none, w0, R0, N, ds⟩) (np := np) (c' := ⟨P, none, w0, R0, N, { target := .collected r, args := #[] } :: ds⟩) ⟨Ext.refl _ _, fun k hk => .inl hk⟩ (fun t ht => by simp [Env.set, Nat.ne_of_lt (Nat.lt_of_lt_of_le ht b2), h1 t ht]) b7 b6 r2
  ·intro t ht; simp only at ht; simp only [Env.set, show t ≠ n from by omega, if_false]; exact h2 t (by omega)
  ·intro t ht; simp only at ht; simp only [Env.set, show t ≠ n from by omega, if_false]; rw [h1 t (by omega)]; exact hs.ok.pin t ht
  ·show m ≤ n + 1; omega
  ·have : Sat ⟨P, none, w0, R0, N, { target := .collected r, args := #[] } :: ds⟩ (realL (ρ'.set n ⟨none, 0, 0⟩) L) ⟨[], [(r, .deferred (some []))] :: (Sc1 ++ (F' ++ FR))⟩ a2 w2 := by
    rw [realL_mono hle hL1, hL2]
    refine sat2.perm ?_
    simp only [Hp.all, List.nil_append, List.flatten_cons, List.flatten_append, hFR, List.append_nil, List.cons_append]
    exact List.Perm.refl _
   exact this
end
def TLU (u : FrameMode) (fn : Func) (Rr : Ending → World → Prop) (ds : List Deferred) (c : Cx) (L : Slots) (H : Hp) : Prop :=
 ∀ a w, Sat c L H a w → LeavesInM (FW none) 1 c.P fn a.tmps Rr ds u w
theorem TLU.mark {u : FrameMode} (hu : u ≠ .run) {fn : Func} {Rr : Ending → World → Prop} {c : Cx} {L : Slots} {ds : List Deferred} {r i : Nat} {aa : Array Value} {E E' : Blocks} {S : List Blocks} (hi : getB E i = some (r, .deferred (some []))) (hs : setB E i (r, .deferred none) = some E')
  (h : TLU u fn Rr ds c L ⟨E', S⟩) : TLU u fn Rr ({ target := .collected r, args := aa } :: ds) c L ⟨E, S⟩ := fun a w s => by
 have hb := s.heap _ (getB_mem (H := ⟨E, S⟩) hi)
 have hlt := s.lt (getB_mem (H := ⟨E, S⟩) hi)
 refine ⟨by simpa using hu, .inl ⟨r, World.withBlock w r (.deferred none), rfl, ?_, h a _ (s.setBlock hi hs)⟩⟩
 simp [Instr.takeDeferred, getObj, setObj, Sem.run, hb, World.withBlock]
theorem TLU.marks {u : FrameMode} (hu : u ≠ .run) {fn : Func} {Rr : Ending → World → Prop} {c : Cx} {L : Slots} {S : List Blocks} : ∀ (ms : List (Nat × Nat)) (D : Blocks), TLU u fn Rr [] c L ⟨D ++ ms.map (fun p => (p.2, Obj.deferred none)), S⟩ →
  TLU u fn Rr (colls ms) c L ⟨D ++ ms.map (fun p => (p.2, Obj.deferred (some []))), S⟩
 | [], D, h => h
 | p :: ms, D, h => by
  refine TLU.mark hu (i := D.length) (E' := D ++ (p.2, .deferred none) :: ms.map (fun p => (p.2, Obj.deferred (some [])))) getB_app setB_app ?_
  have := TLU.marks hu (fn := fn) (Rr := Rr) (c := c) (L := L) (S := S) ms (D ++ [(p.2, .deferred none)]) (by simpa using h)
  simpa using this
section
variable {P : Program} {w0 : World} {F0 : List Blocks} {gl : GlF w0 (F0.flatten.map (·.1))} {ρ0 : Env} {N m n' : Nat} {fn : Func} {r : SV} {H' : SH} {L : SL} {H : SH} {n : Nat} {rs : List ResultVar} {ys : List SV} {o : Out}
theorem TOM_ {t : Tab} (ht : TabOk P t) (ms : List (Nat × Nat)) {ds : List Deferred} (hrs : fn.results = rs.toArray) (σ : List Nat) (hms : marksIn ms H) (hds : ds = colls ms := by rfl) (ho : o = .ret r H' n' := by rfl) (hy : resS t L (delHs ms H) rs = some ys := by rfl) (hr : retS ys = r.ren σ := by rfl) (h2 : takesH σ (delHs ms H) H' = some (renBs σ H') := by rfl) (h3 : idB 0 m σ = true := by rfl) (h4 : σ.length = n' := by rfl) :
  G4 ⟨⟨P, none, w0, F0.flatten.map (·.1), N, ds⟩, ρ0, m, gl⟩ (FinO P fn w0 F0 ρ0 m o) (.exit .ret []) ⟨L, H, n⟩ := by subst ho; exact RTM ht ms hds hms hrs σ hy hr h2 h3 h4
theorem TPM_ {v : Value} (ms : List (Nat × Nat)) {ds : List Deferred} (σ : List Nat) (hms : marksIn ms H) (hds : ds = colls ms := by rfl) (ho : o = .pan v H' n' := by rfl) (h2 : takesH σ (delHs ms H) H' = some (renBs σ H') := by rfl) (h3 : idB 0 m σ = true := by rfl) (h4 : σ.length = n' := by rfl) :
  G4 ⟨⟨P, none, w0, F0.flatten.map (·.1), N, ds⟩, ρ0, m, gl⟩ (FinO P fn w0 F0 ρ0 m o) (.exit (.panic [{ v := v, recovered := false }]) []) ⟨L, H, n⟩ := by
 subst ho; subst hds
 intro ρ F a w s
 obtain ⟨F1, k1, k2⟩ := marks_split hms s.ok.reps
 obtain ⟨F', G, j1, j2⟩ := takesH_ren k1 h2
 have hg : Env.grow m n' ρ0 (ρ.sel σ) := ⟨fun t ht => by simp only [Env.sel, idB_spec h3 t ht, Nat.zero_add]; exact s.ok.pin t ht, fun t ht => by simp [Env.sel, tgO_none (σ := σ) (t := t) (by rw [h4]; exact ht)], by rw [← h4]; exact idB_len h3⟩
 show LeavesInM (FW none) 1 P fn a.tmps _ a.defers (.panicking _) w
 rw [s.sat.defers]
 have key : TLU (.panicking [{ v := v, recovered := false }]) fn (EndO w0 F0 ρ0 m (.pan v H' n')) [] ⟨P, none, w0, F0.flatten.map (·.1), N, colls ms⟩ (realL ρ L) ⟨[] ++ ms.map (fun p => (p.2, Obj.deferred none)), F' ++ G⟩ := by
  intro a2 w2 s2
  refine ⟨⟨[], F'⟩, rfl, ?_, _, ρ.sel σ, F', rfl, hg, j1⟩
  have hsub : (⟨[], F'⟩ : Hp).all.Sublist (⟨[] ++ ms.map (fun p => (p.2, Obj.deferred none)), F' ++ G⟩ : Hp).all := by
   simp only [Hp.all, List.nil_append, List.flatten_append]; exact (List.sublist_append_left _ _).trans (List.sublist_append_right _ _)
  have hx := s2.ext
  exact ⟨by simpa [Hp.all] using hx, (hsub.map _).nodup s2.nodup, fun p hp => s2.heap p (hsub.subset hp), fun p hp => by have := s2.own p (hsub.subset hp); simpa [Hp.all] using this⟩
 refine TLU.marks (by simp) ms [] key a w (s.sat.perm ?_)
 simp only [Hp.all, List.nil_append]
 exact (List.Perm.append_left _ j2.flatten).trans k2.symm
end
end Go.HW
namespace Go.HW
open Go Go.RowKit
set_option linter.unusedVariables false
section
variable {c : C4} {Q : Exit → Act → World → Prop} {x : Code} {K : List Fr}
def UR (c : C4) (Q : Exit → Act → World → Prop) (x : Code) (K : List Fr) : Nat → St → Prop
 | 0, _ => False
 | n + 1, s => ∀ R : Act → World → Prop, (∀ s' K', UR c Q x K n s' → G4 c Q (.exit .normal (.st R :: K')) s') → G4 c Q (.code x (.st R :: K)) s
theorem LPU (n : Nat) {s : St} (h : UR c Q x K n s) : G4 c Q (.code (.loop x) K) s := by
 intro ρ F a w hs
 refine wpIn_loop_rounds n ?_
 induction n generalizing s ρ F a w with
 | zero => exact h.elim
 | succ n ih =>
  rw [roundsIn_succ]
  exact h _ (fun s' K' h' ρ' F' a' w' hs' => ih h' ρ' F' a' w' hs') ρ F a w hs
end
end Go.HW
namespace Go.HW
open Go Go.RowKit
set_option linter.unusedVariables false
section
variable {c : C4} {Q : Exit → Act → World → Prop} {α : Type} [i : Inhabited α] {N : Et α} {e A : TypeId} {xss : List (List α)} {m : Nat} {L : SL} {H : SH} {n : Nat}
end
def keepS (ks : List Nat) : SL → SL
 | [] => []
 | (t, x) :: L => bif hasN ks t then (t, x) :: keepS ks L else keepS ks L
theorem keepS_dens {ρ : Env} {ks : List Nat} : ∀ {L : SL}, DensL ρ L → DensL ρ (keepS ks L)
 | [], h => h
 | (t, x) :: L, h => by
  simp only [keepS]
  cases hasN ks t with
  | true => exact ⟨h.1, keepS_dens h.2⟩
  | false => exact keepS_dens h.2
theorem keepS_has {ρ : Env} {ks : List Nat} : ∀ {L : SL} {t : Nat} {v : Value}, look (realL ρ (keepS ks L)) t = some v → hasN ks t = true
 | [], t, v, h => by simp [keepS, realL, look] at h
 | (u, x) :: L, t, v, h => by
  simp only [keepS] at h
  cases hh : hasN ks u with
  | false => rw [hh] at h; exact keepS_has h
  | true =>
   rw [hh] at h
   simp only [cond_true, realL, look] at h
   cases hb : Nat.beq u t with
   | true => have := Nat.eq_of_beq_eq_true hb; subst this; exact hh
   | false => rw [hb] at h; exact keepS_has h
theorem keepS_look {ρ : Env} {ks : List Nat} : ∀ {L : SL} {t : Nat} {v : Value}, look (realL ρ (keepS ks L)) t = some v → look (realL ρ L) t = some v
 | [], t, v, h => h
 | (u, x) :: L, t, v, h => by
  have hk := keepS_has h
  simp only [keepS] at h
  simp only [realL, look]
  cases hh : hasN ks u with
  | true =>
   rw [hh] at h
   simp only [cond_true, realL, look] at h
   cases hb : Nat.beq u t with
   | true => rw [hb] at h; exact h
   | false => rw [hb] at h; exact keepS_look h
  | false =>
   rw [hh] at h
   cases hb : Nat.beq u t with
   | true => have := Nat.eq_of_beq_eq_true hb; subst this; rw [hh] at hk; cases hk
   | false => exact keepS_look h
theorem Imp.keep {c : C4} (ks : List Nat) {L : SL} {H : SH} {n : Nat} : Imp c ⟨L, H, n⟩ ⟨keepS ks L, H, n⟩ := fun ρ F a w hs =>
 ⟨ρ, F, ⟨keepS_dens hs.ok.dens, hs.ok.reps, hs.ok.fr, hs.ok.pin, hs.ok.mle⟩, hs.sat.weak (fun _ _ h => keepS_look h) (List.Sublist.refl _)⟩
end Go.HW
namespace Go.HW
open Go Go.RowKit
set_option linter.unusedVariables false
def zsF : EvV := fun b L H op => match op with
 | .slice X x lo hi none => match evS L x, lk b.t.und X with
  | some (.v (.string s)), some .string => match bdS L lo ((0 : Nat) : Int), bdS L hi ((s.size : Nat) : Int) with
   | some i, some j => some ([sliceOk i j s.size = true], .v (.string (s.extract i.toNat j.toNat)))
   | _, _ => none
  | _, _ => none
 | _ => none
theorem QV.sliceS {c : Cx} {L : Slots} {H : Hp} {d : Nat} {T : TypeId} {pos : String} {af : Array Edge} {g : Option (Nat × Bool)} {X : TypeId} {x : Operand} {lo hi : Option Operand} {z : ByteArray} {l h : Int} (hu : ∀ w, (underlying X).run c.P w = .ok .string w)
  (hx : ev L x = some (.string z)) (hl : Bd L lo 0 l) (hh : Bd L hi z.size h) (hk : sliceOk l h z.size = true) :
  QV c ⟨some d, .slice X x lo hi none, T, pos, af, g⟩ L H (.string (z.extract l.toNat h.toNat)) := fun a w s => by
 obtain ⟨k0, k1, k2⟩ := sliceOk_iff.1 hk
 have hb : (Instr.sliceBounds false z.size z.size (lo.map a.eval) (hi.map a.eval) none).run c.P w = .ok (l.toNat, h.toNat, z.size) w := by
  cases hl with
  | none =>
   cases hh with
   | none => simp [Instr.sliceBounds]
   | some h2 =>
    simp [Instr.sliceBounds, s.eval h2]
    rw [run_sliceBound_ok (by omega) (by omega)]; simp
  | some h1 =>
   cases hh with
   | none =>
    simp [Instr.sliceBounds, s.eval h1]
    rw [run_sliceBound_ok k0 (by omega)]; simp
   | some h2 =>
    simp [Instr.sliceBounds, s.eval h1, s.eval h2]
    rw [run_sliceBound_ok (by omega) (by omega)]
    simp only [Result.andThen_ok]
    rw [run_sliceBound_ok k0 (by omega)]; simp
 simp [execOp, Instr.sliceAt, Instr.slice, s.eval hx, hu, hb]
theorem zsF_ok {c : C4} : EvVOk c zsF := by
 intro b L H n op cs r hB h hc
 unfold zsF at h
 split at h
 ·rename_i X x lo hi; split at h
  ·rename_i s hx hX; split at h
   ·rename_i i j hi' hj; cases h
    have hk : sliceOk i j s.size = true := (allP_cons hc).1
    obtain ⟨k0, k1, k2⟩ := sliceOk_iff.1 hk
    refine ⟨rfl, fun ρ F Fx o Lr hLr => ⟨_, by rw [SV.den], fun d T pos af g a w st => ?_⟩⟩
    obtain ⟨vx, x1, x2⟩ := evS_ok o.dens hx
    rw [SV.den] at x1; cases x1
    have hu := hB.t.und.mem _ (lk_mem hX)
    have bl := bdS_ok o.dens hLr hi'
    have bh := bdS_ok o.dens hLr hj
    exact QV.sliceS hu (ev_ext hLr x2) bl bh hk a w st
   ·cases h
  ·cases h
 ·cases h
def Ev.zs {c : C4} : Ev c := .ot (liftV zsF) (liftV_ok zsF_ok)
def fdF : EvV := fun b L H op => match op with
 | .field X x i => match evS L x, lk b.t.und X with
  | some (.ag l), some (.struct fs) => match fs.toList[i]? with
   | some fd => match lk b.t.agg fd.type with
    | some false => match getI l fd.offset with | some v => some ([], v) | none => none
    | some true => match lk b.t.siz fd.type with
     | some n => match cutI l fd.offset n with | some vs => some ([], .ag vs) | none => none
     | none => none
    | none => none
   | none => none
  | _, _ => none
 | _ => none
theorem fdF_ok {c : C4} : EvVOk c fdF := by
 intro b L H n op cs r hB h hc
 unfold fdF at h
 split at h
 ·rename_i X x i; split at h
  ·rename_i l fs hx hX; split at h
   ·rename_i fd hf
    have hu := hB.t.und.mem _ (lk_mem hX)
    have hf' : fs[i]? = some fd := by rw [← Array.getElem?_toList]; exact hf
    split at h
    ·rename_i hA; split at h
     ·rename_i v hg; cases h
      refine ⟨rfl, fun ρ F Fx o Lr hLr => ?_⟩
      obtain ⟨vx, x1, x2⟩ := evS_ok o.dens hx
      rw [SV.den] at x1; obtain ⟨vs, v1, rfl⟩ := Option.map_eq_some_iff.1 x1
      obtain ⟨u, u1, u2⟩ := getI_spec hg v1
      refine ⟨u, u1, fun d T pos af g a w st => ?_⟩
      have ha := hB.t.agg.mem _ (lk_mem hA)
      simp [execOp, st.eval (ev_ext hLr x2), Instr.field, hu, hf', part, ha, asAgg, u2]
     ·cases h
    ·rename_i hA; split at h
     ·rename_i k hk; split at h
      ·rename_i ws hg; cases h
       refine ⟨rfl, fun ρ F Fx o Lr hLr => ?_⟩
       obtain ⟨vx, x1, x2⟩ := evS_ok o.dens hx
       rw [SV.den] at x1; obtain ⟨vs, v1, rfl⟩ := Option.map_eq_some_iff.1 x1
       obtain ⟨u1, u2⟩ := cutI_spec hg v1
       refine ⟨.agg ((vs.drop fd.offset).take k).toArray, by rw [SV.den, u1]; rfl, fun d T pos af g a w st => ?_⟩
       have ha := hB.t.agg.mem _ (lk_mem hA)
       have hz := hB.t.siz.mem _ (lk_mem hk)
       have he : vs.toArray.extract fd.offset (fd.offset + k) = ((vs.drop fd.offset).take k).toArray := by
        apply Array.toList_inj.1
        simp [List.extract_eq_drop_take]
       simp [execOp, st.eval (ev_ext hLr x2), Instr.field, hu, hf', part, ha, asAgg, hz, he]
      ·cases h
     ·cases h
    ·cases h
   ·cases h
  ·cases h
 ·cases h
def Ev.fd {c : C4} : Ev c := .ot (liftV fdF) (liftV_ok fdF_ok)
def rsF : EvF := fun b L H n op => match op with
 | .range X x => match evS L x, lk b.t.und X with
  | some (.v (.string s)), some .string => some ([], some (.p n 0), (n, .obj (.stringIter s 0)) :: H, n + 1)
  | _, _ => none
 | _ => none
theorem rsF_ok {c : C4} : EvOk c rsF := by
 intro b L H n op cs r H' n' hB h hc dst T pos af g hdr hd
 unfold rsF at h
 split at h
 ·rename_i X x; split at h
  ·rename_i s hx hX; cases h
   cases dst with
   | none => simp at hdr
   | some d =>
    refine ⟨rfl, OT.run fun ρ F Fx a w o st => ?_⟩
    obtain ⟨vx, x1, x2⟩ := evS_ok o.dens hx
    rw [SV.den] at x1; cases x1
    have hu := hB.t.und.mem _ (lk_mem hX)
    refine ⟨ρ.set n ⟨some ⟨w.heap.size, 0, none⟩, 0, 0⟩, [(w.heap.size, .stringIter s 0)] :: F, _, .pointer (some ⟨w.heap.size, 0, none⟩), by simp [execOp, st.eval x2, Instr.range, hu, newObj]; rfl, Env.set_grow o.fr, by rw [Option.getD_some, SV.den, Env.set_self]; rfl, (by intro e; cases e),
     Env.set_row o.reps o.fr ⟨w.heap.size, by rw [Env.set_self]; rfl, rfl⟩, ?_⟩
    exact (st.alloc (.stringIter s 0)).perm (by simp [Hp.all])
  ·cases h
 ·cases h
def Ev.rs {c : C4} : Ev c := .ot rsF rsF_ok
section
variable {c : C4} {Q : Exit → Act → World → Prop} {o : Array Oper} {l : List Oper} {K : List Fr} {L : SL} {H : SH} {n d : Nat} {x : Operand} {T : TypeId} {pos : String} {af : Array Edge} {ti p : Nat} {s : ByteArray}
theorem NS0_ (hb : decide (p < s.size) = false) (h0 : G4 c Q (.ops o l K []) ⟨(d, .tu [.v (.bool false)]) :: L, H, n⟩) (hx : evS L x = some (.p ti 0) := by rfl) (hl : lookH H ti = some (.obj (.stringIter s p)) := by rfl) (hd : Nat.blt d c.n = true := by rfl) :
  G4 c Q (.ops o (⟨some d, .next x true, T, pos, af, none⟩ :: l) K []) ⟨L, H, n⟩ := by
 intro ρ F a w hs hG
 obtain ⟨vx, x1, x2⟩ := evS_ok hs.ok.dens hx
 obtain ⟨FA, f, FB, rfl, ⟨gg, q1, rfl⟩, _, _⟩ := hs.ok.reps.look hl
 rw [SV.den, q1] at x1; cases x1
 have b1 : w.heap[gg]? = some (.stringIter s p) := hs.sat.heap (gg, _) (by simp [Hp.all])
 have hev := hs.sat.eval x2
 have hp : ¬ p < s.size := by simpa using hb
 unfold wpListIn
 rw [if_pos (by simp [Region.wanted])]
 have hden : (SV.tu [.v (.bool false)]).den ρ = some (.tuple #[.bool false]) := by
  rw [SV.den, denAll_dens (l := [.v (.bool false)]) (r := [.bool false]) ⟨by rw [SV.den], trivial⟩]; rfl
 refine wpIn_of (c := c) rfl ?_
 have hex : (execOp a.eval ⟨some d, .next x true, T, pos, af, none⟩).run c.P w = .ok (.value (.tuple #[.bool false])) w := by simp [execOp, hev, Instr.next, getObj, Sem.run, b1, hp]
 rw [hex]
 exact h0 ρ _ _ w (hs.ok.put (n' := n) (dst := some d) hs.ok.grow0 hd hden hs.ok.reps hs.sat) trivial
theorem NS1_ (hb : decide (p < s.size) = true) (h1 : G4 c Q (.ops o l K []) ⟨(d, .tu [.v (.bool true), .v (.int .i64 (p : Int)), .v (.int .i32 ((Utf8.decode s p).1 : Int))]) :: L, repH H ti ti (.obj (.stringIter s (p + (Utf8.decode s p).2))), n⟩) (hx : evS L x = some (.p ti 0) := by rfl) (hl : lookH H ti = some (.obj (.stringIter s p)) := by rfl) (hd : Nat.blt d c.n = true := by rfl) :
  G4 c Q (.ops o (⟨some d, .next x true, T, pos, af, none⟩ :: l) K []) ⟨L, H, n⟩ := by
 intro ρ F a w hs hG
 obtain ⟨vx, x1, x2⟩ := evS_ok hs.ok.dens hx
 obtain ⟨FA, f, FB, rfl, ⟨gg, q1, rfl⟩, hrep, _⟩ := hs.ok.reps.look hl
 rw [SV.den, q1] at x1; cases x1
 have b1 : w.heap[gg]? = some (.stringIter s p) := hs.sat.heap (gg, _) (by simp [Hp.all])
 have hev := hs.sat.eval x2
 have hp : p < s.size := by simpa using hb
 unfold wpListIn
 rw [if_pos (by simp [Region.wanted])]
 have hden : (SV.tu [.v (.bool true), .v (.int .i64 (p : Int)), .v (.int .i32 ((Utf8.decode s p).1 : Int))]).den ρ = some (.tuple #[.bool true, .int .i64 (p : Int), .int .i32 ((Utf8.decode s p).1 : Int)]) := by
  rw [SV.den, denAll_dens (l := [.v (.bool true), .v (.int .i64 (p : Int)), .v (.int .i32 ((Utf8.decode s p).1 : Int))]) (r := [.bool true, .int .i64 (p : Int), .int .i32 ((Utf8.decode s p).1 : Int)]) ⟨by rw [SV.den], by rw [SV.den], by rw [SV.den], trivial⟩]; rfl
 refine wpIn_of (c := c) rfl ?_
 have hex : (execOp a.eval ⟨some d, .next x true, T, pos, af, none⟩).run c.P w = .ok (.value (.tuple #[.bool true, .int .i64 (p : Int), .int .i32 ((Utf8.decode s p).1 : Int)])) (World.withBlock w gg (.stringIter s (p + (Utf8.decode s p).2))) := by
  simp [execOp, hev, Instr.next, getObj, setObj, Sem.run, b1, hp, World.withBlock, goInt]
 rw [hex]
 refine h1 ρ _ _ _ (hs.ok.put (n' := n) (dst := some d) hs.ok.grow0 hd hden (hrep ρ ti _ [(gg, .stringIter s (p + (Utf8.decode s p).2))] (Env.le_refl _) ⟨gg, q1, rfl⟩) ?_) trivial
 have s2 := hs.sat.perm (H' := ⟨[(gg, .stringIter s p)], FA ++ FB⟩) (by simp only [Hp.all, List.nil_append, List.flatten_append, List.flatten_cons, List.cons_append]; exact List.perm_middle.symm)
 have s3 := s2.setBlock (i := 0) (E' := [(gg, .stringIter s (p + (Utf8.decode s p).2))]) rfl rfl
 exact s3.perm (by simp only [Hp.all, List.nil_append, List.flatten_append, List.flatten_cons, List.cons_append]; exact List.perm_middle)
end
end Go.HW
namespace Go.HW
open Go Go.RowKit
set_option linter.unusedVariables false
def slV (h : Sl) : Value := .slice h.1 h.2.1 h.2.2
section
variable {κ α : Type} [DecidableEq κ]
def RM (N : En α) (e : TypeId) : List (κ × Sl) → List (κ × List α) → List Blocks → Prop
 | [], [], [] => True
 | h :: hs, x :: xs, r :: rs => (h.1 = x.1 ∧ OwnL N e h.2.1 h.2.2.2 x.2 r ∧ x.2.length = h.2.2.1) ∧ RM N e hs xs rs
 | _, _, _ => False
theorem rm_none {N : En α} {e : TypeId} {k : κ} : ∀ {hs : List (κ × Sl)} {xs : List (κ × List α)} {rs : List Blocks}, RM N e hs xs rs → mfind hs k = none →
  mfind xs k = none ∧ ∀ (h' : Sl) (ys : List α) (r' : Blocks), OwnL N e h'.1 h'.2.2 ys r' → ys.length = h'.2.1 → RM N e (mput hs k h') (mput xs k ys) (rs ++ [r'])
 | [], [], [], _, _ => ⟨rfl, fun h' ys r' h1 h2 => ⟨⟨rfl, h1, h2⟩, trivial⟩⟩
 | h :: hs, x :: xs, r :: rs, hh, hf => by
  by_cases hk : h.1 = k
  ·simp [mfind, hk] at hf
  ·have hf' : mfind hs k = none := by simpa [mfind, hk] using hf
   have hx : ¬ x.1 = k := by rw [← hh.1.1]; exact hk
   obtain ⟨i1, i2⟩ := rm_none hh.2 hf'
   refine ⟨by simp [mfind, hx, i1], fun h' ys r' h1 h2 => ?_⟩
   simp only [mput, hk, hx, decide_false, cond_false]
   exact ⟨hh.1, i2 h' ys r' h1 h2⟩
 | [], [], _ :: _, h, _ => h.elim
 | [], _ :: _, _, h, _ => h.elim
 | _ :: _, [], _, h, _ => h.elim
 | _ :: _, _ :: _, [], h, _ => h.elim
theorem rm_some {N : En α} {e : TypeId} {k : κ} {h0 : Sl} : ∀ {hs : List (κ × Sl)} {xs : List (κ × List α)} {rs : List Blocks}, RM N e hs xs rs → mfind hs k = some h0 →
  ∃ xk rsA r rsB, mfind xs k = some xk ∧ rs = rsA ++ r :: rsB ∧ OwnL N e h0.1 h0.2.2 xk r ∧ xk.length = h0.2.1 ∧
   (∀ (h' : Sl) (ys : List α) (r' : Blocks), OwnL N e h'.1 h'.2.2 ys r' → ys.length = h'.2.1 → RM N e (mput hs k h') (mput xs k ys) (rsA ++ r' :: rsB)) ∧
   ∀ r', OwnL N e h0.1 h0.2.2 xk r' → RM N e hs xs (rsA ++ r' :: rsB)
 | [], [], [], _, hf => by simp [mfind] at hf
 | h :: hs, x :: xs, r :: rs, hh, hf => by
  by_cases hk : h.1 = k
  ·have hx : x.1 = k := by rw [← hh.1.1]; exact hk
   have he : h.2 = h0 := by simpa [mfind, hk] using hf
   subst he
   refine ⟨x.2, [], r, rs, by simp [mfind, hx], rfl, hh.1.2.1, hh.1.2.2, fun h' ys r' h1 h2 => ?_, fun r' h1 => ⟨⟨hh.1.1, h1, hh.1.2.2⟩, hh.2⟩⟩
   simp only [mput, hk, hx, decide_true, cond_true]
   exact ⟨⟨rfl, h1, h2⟩, hh.2⟩
  ·have hf' : mfind hs k = some h0 := by simpa [mfind, hk] using hf
   have hx : ¬ x.1 = k := by rw [← hh.1.1]; exact hk
   obtain ⟨xk, rsA, r0, rsB, i1, rfl, i3, i4, i5, i6⟩ := rm_some hh.2 hf'
   refine ⟨xk, r :: rsA, r0, rsB, by simp [mfind, hx, i1], rfl, i3, i4, fun h' ys r' h1 h2 => ?_, fun r' h1 => ⟨hh.1, i6 r' h1⟩⟩
   simp only [mput, hk, hx, decide_false, cond_false]
   exact ⟨hh.1, i5 h' ys r' h1 h2⟩
 | [], [], _ :: _, h, _ => h.elim
 | [], _ :: _, _, h, _ => h.elim
 | _ :: _, [], _, h, _ => h.elim
 | _ :: _, _ :: _, [], h, _ => h.elim
def pMR (K : Kn κ) (N : Et α) (e : TypeId) (xs : List (κ × List α)) : Loc → List Value → Blocks → Prop := fun l vs f =>
 vs = [] ∧ ∃ b hs H0 rs, blkOf (some l) = some b ∧ OwnM K slV b hs H0 ∧ RM N.toEn e hs xs rs ∧ f = H0 ++ rs.flatten
def pMO (K : Kn κ) (N : Et α) (e : TypeId) (xs : List (κ × List α)) (k : κ) : Loc → List Value → Blocks → Prop := fun l vs f =>
 ∃ b hs H0 h R, blkOf (some l) = some b ∧ OwnM K slV b hs H0 ∧ vs = [slV h] ∧ f = H0 ++ R ∧
  (∀ (h' : Sl) (ys : List α) (r' : Blocks), OwnL N.toEn e h'.1 h'.2.2 ys r' → ys.length = h'.2.1 → ∃ rs', RM N.toEn e (mput hs k h') (mput xs k ys) rs' ∧ rs'.flatten.Perm (r' ++ R)) ∧
  (∀ r', OwnL N.toEn e h.1 h.2.2 (mget xs k []) r' → ∃ rs', RM N.toEn e hs xs rs' ∧ rs'.flatten.Perm (r' ++ R))
theorem rm_open {K : Kn κ} {N : Et α} {e : TypeId} {hs : List (κ × Sl)} {xs : List (κ × List α)} {rs : List Blocks} (k : κ) (h : RM N.toEn e hs xs rs) :
  ∃ r R, OwnL N.toEn e (mget hs k ((none, 0, 0) : Sl)).1 (mget hs k ((none, 0, 0) : Sl)).2.2 (mget xs k []) r ∧ (mget xs k []).length = (mget hs k ((none, 0, 0) : Sl)).2.1 ∧ rs.flatten.Perm (r ++ R) ∧
   (∀ (h' : Sl) (ys : List α) (r' : Blocks), OwnL N.toEn e h'.1 h'.2.2 ys r' → ys.length = h'.2.1 → ∃ rs', RM N.toEn e (mput hs k h') (mput xs k ys) rs' ∧ rs'.flatten.Perm (r' ++ R)) ∧
   (∀ r', OwnL N.toEn e (mget hs k ((none, 0, 0) : Sl)).1 (mget hs k ((none, 0, 0) : Sl)).2.2 (mget xs k []) r' → ∃ rs', RM N.toEn e hs xs rs' ∧ rs'.flatten.Perm (r' ++ R)) := by
 have mv : ∀ (A B : List Blocks) (r : Blocks), (A ++ r :: B).flatten.Perm (r ++ (A ++ B).flatten) := fun A B r => by
  simp only [List.flatten_append, List.flatten_cons]
  rw [← List.append_assoc, ← List.append_assoc]; exact List.Perm.append_right _ List.perm_append_comm
 cases hf : mfind hs k with
 | none =>
  obtain ⟨i1, i2⟩ := rm_none h hf
  have e1 : mget hs k ((none, 0, 0) : Sl) = (none, 0, 0) := by simp [mget, hf]
  have e2 : mget xs k ([] : List α) = [] := by simp [mget, i1]
  rw [e1, e2]
  refine ⟨[], rs.flatten, .nil _ _, rfl, List.Perm.refl _, fun h' ys r' h1 h2 => ⟨rs ++ [r'], i2 h' ys r' h1 h2, ?_⟩, fun r' h1 => ⟨rs, h, ?_⟩⟩
  ·simp only [List.flatten_append, List.flatten_cons, List.flatten_nil, List.append_nil]; exact List.perm_append_comm
  ·rcases h1 with ⟨_, _, _, rfl⟩ | ⟨g, cur, h1, _⟩
   ·exact List.Perm.refl _
   ·cases h1
 | some h0 =>
  obtain ⟨xk, rsA, r, rsB, i1, rfl, i3, i4, i5, i6⟩ := rm_some h hf
  have e1 : mget hs k ((none, 0, 0) : Sl) = h0 := by simp [mget, hf]
  have e2 : mget xs k ([] : List α) = xk := by simp [mget, i1]
  rw [e1, e2]
  exact ⟨r, (rsA ++ rsB).flatten, i3, i4, mv _ _ _, fun h' ys r' h1 h2 => ⟨_, i5 h' ys r' h1 h2, mv _ _ _⟩, fun r' h1 => ⟨_, i6 r' h1, mv _ _ _⟩⟩
end
section
variable {κ α : Type} [DecidableEq κ] [Inhabited α]
def mkrF (K : Kn κ) (N : Et α) (e : TypeId) : EvF := fun _ L H n op => match op with
 | .makeMap _ none => some ([], some (.mp n), (n, .ex (pMR K N e []) []) :: H, n + 1)
 | _ => none
theorem mkrF_ok {c : C4} (K : Kn κ) (N : Et α) (e : TypeId) : EvOk c (mkrF K N e) := by
 intro b L H n op cs r H' n' hB h hc dst T pos af g hdr hd
 unfold mkrF at h
 split at h
 ·cases h
  cases dst with
  | none => simp at hdr
  | some d =>
   refine ⟨rfl, OT.ofTX hd fun ρ F Fx o Lr hLr Q hk => ?_⟩
   refine TX.makeMapS (N := K) (V := slV) hd (fun q Hs ho => ?_)
   exact hk (ρ.set n ⟨some ⟨q, 0, none⟩, 0, 0⟩) (Hs :: F) (.map (some q)) (Env.set_grow o.fr) (by rw [Option.getD_some, SV.den, Env.set_self]; rfl)
    (Env.set_row o.reps o.fr ⟨_, [], Env.set_self, dens_nil, rfl, q, [], Hs, [], rfl, ho, trivial, by simp⟩)
 ·cases h
def Ev.mr {c : C4} (K : Kn κ) (N : Et α) (e : TypeId) : Ev c := .ot (mkrF K N e) (mkrF_ok K N e)
def lkrF (K : Kn κ) (N : Et α) (e : TypeId) (xs : List (κ × List α)) (k : κ) (m : TypeId) : EvF := fun _ L H n op => match op with
 | .lookup m' x y false => match evS L x, evS L y with
  | some (.mp t), some (.v kv) => bif Nat.beq m' m then
    some ([lookH H t = some (.ex (pMR K N e xs) []), kv = K.enc k], some (.sl n), (n, .row N e (mget xs k []) (mget xs k []).length .unk) :: repH H t t (.ex (pMO K N e xs k) [.sl n]), n + 1) else none
  | _, _ => none
 | _ => none
theorem lkrF_ok {c : C4} {K : Kn κ} {N : Et α} {e : TypeId} {xs : List (κ × List α)} {k : κ} {m kt et : TypeId} (hm : ∀ w, (underlying m).run c.P w = .ok (.map kt et) w) (hD : ∀ w, (underlying kt).run c.P w = .ok K.d w)
  (hz : ∀ w, (zeroValue et).run c.P w = .ok (.slice none 0 0) w) : EvOk c (lkrF K N e xs k m) := by
 intro b L H n op cs r H' n' hB h hc dst T pos af g hdr hd
 unfold lkrF at h
 split at h
 ·rename_i m' x y; split at h
  ·rename_i t kv hx hy
   cases hb : Nat.beq m' m with
   | false => rw [hb] at h; cases h
   | true =>
    rw [hb, cond_true] at h; cases h
    have := Nat.eq_of_beq_eq_true hb; subst this
    obtain ⟨c1, c2⟩ := allP_cons hc
    have c2 : kv = K.enc k := (allP_cons c2).1
    subst c2
    cases dst with
    | none => simp at hdr
    | some d =>
     refine ⟨rfl, OT.ofTX hd fun ρ F Fx o Lr hLr Q hk => ?_⟩
     obtain ⟨vx, x1, x2⟩ := evS_ok o.dens hx
     obtain ⟨vy, y1, y2⟩ := evS_ok o.dens hy
     rw [SV.den] at y1; cases y1
     obtain ⟨FA, f, FB, rfl, ⟨l, vs, q1, q2, rfl, bb, hs, H0, rs, q3, q4, q5, rfl⟩, hrep, _⟩ := o.reps.look c1
     rw [SV.den, q1, q3] at x1; cases x1
     obtain ⟨r, R, o1, o2, o3, o4, o5⟩ := rm_open (K := K) k q5
     have hg := Env.set_grow (ρ := ρ) (n := n) (l := ⟨(mget hs k ((none, 0, 0) : Sl)).1, (mget hs k ((none, 0, 0) : Sl)).2.2, (mget hs k ((none, 0, 0) : Sl)).2.1⟩) o.fr
     have hle := hg.toLe o.fr
     have hself : ρ.set n ⟨(mget hs k ((none, 0, 0) : Sl)).1, (mget hs k ((none, 0, 0) : Sl)).2.2, (mget hs k ((none, 0, 0) : Sl)).2.1⟩ n = some ⟨(mget hs k ((none, 0, 0) : Sl)).1, (mget hs k ((none, 0, 0) : Sl)).2.2, (mget hs k ((none, 0, 0) : Sl)).2.1⟩ := Env.set_self
     have hsl : (SV.sl n).den (ρ.set n ⟨(mget hs k ((none, 0, 0) : Sl)).1, (mget hs k ((none, 0, 0) : Sl)).2.2, (mget hs k ((none, 0, 0) : Sl)).2.1⟩) = some (slV (mget hs k (none, 0, 0))) := by rw [SV.den, hself]; rfl
     have hR := hrep _ t (.ex (pMO K N e xs k) [.sl n]) (H0 ++ R) hle ⟨l, [slV (mget hs k (none, 0, 0))], hle _ _ q1, denAll_dens (l := [.sl n]) ⟨hsl, trivial⟩, bb, hs, H0, mget hs k (none, 0, 0), R, q3, q4, rfl, rfl, o4, o5⟩
     have hkk := hk _ (r :: (FA ++ (H0 ++ R) :: FB)) (slV (mget hs k (none, 0, 0))) hg (by rw [Option.getD_some]; exact hsl) ⟨r, _, rfl, ⟨_, _, by rw [hself, o2], rfl, o1, trivial⟩, hR⟩
     have hp : (⟨[], r :: (FA ++ (H0 ++ R) :: FB) ++ Fx⟩ : Hp).all.Perm (⟨[], H0 :: (rs.flatten :: (FA ++ FB ++ Fx))⟩ : Hp).all := by
      simp only [Hp.all, List.nil_append, List.flatten_append, List.flatten_cons, List.append_assoc, List.cons_append]
      have a1 : (r ++ (FA.flatten ++ (H0 ++ (R ++ (FB.flatten ++ Fx.flatten))))).Perm (H0 ++ ((r ++ R) ++ (FA.flatten ++ (FB.flatten ++ Fx.flatten)))) := by
       refine (List.perm_append_comm_assoc r FA.flatten _).trans ?_
       refine (List.Perm.append_left FA.flatten (List.perm_append_comm_assoc r H0 _)).trans ?_
       refine (List.perm_append_comm_assoc FA.flatten H0 _).trans (List.Perm.append_left H0 ?_)
       refine (List.perm_append_comm_assoc FA.flatten r _).trans ?_
       rw [List.append_assoc]
       exact List.Perm.append_left r (List.perm_append_comm_assoc FA.flatten R _)
      exact a1.trans (List.Perm.append_left H0 (List.Perm.append_right _ o3.symm))
     have hp2 : (⟨[], FA ++ (H0 ++ rs.flatten) :: FB ++ Fx⟩ : Hp).all.Perm (⟨[], H0 :: (rs.flatten :: (FA ++ FB ++ Fx))⟩ : Hp).all := by
      simp only [Hp.all, List.nil_append, List.flatten_append, List.flatten_cons, List.append_assoc, List.cons_append]
      refine (List.perm_append_comm_assoc FA.flatten H0 _).trans (List.Perm.append_left H0 ?_)
      exact List.perm_append_comm_assoc FA.flatten rs.flatten _
     refine TX.permL hp2 ?_
     refine TX.lookM (N := K) (V := slV) (z := ((none, 0, 0) : Sl)) (i := 0) hm hD hz (ev_ext hLr x2) (ev_ext hLr y2) rfl q4 hd ?_
     exact TO.perm hp hkk
  ·cases h
 ·cases h
def Ev.lr {c : C4} (K : Kn κ) (N : Et α) (e : TypeId) (xs : List (κ × List α)) (k : κ) {m kt et : TypeId} (hm : ∀ w, (underlying m).run c.P w = .ok (.map kt et) w) (hD : ∀ w, (underlying kt).run c.P w = .ok K.d w)
  (hz : ∀ w, (zeroValue et).run c.P w = .ok (.slice none 0 0) w) : Ev c := .ot (lkrF K N e xs k m) (lkrF_ok hm hD hz)
def urF (K : Kn κ) (N : Et α) (e : TypeId) (xs : List (κ × List α)) (k : κ) (ys : List α) (m : TypeId) (L : SL) (H : SH) (n : Nat) (m' : TypeId) (x y u : Operand) : Option (List Prop × Option SV × SH × Nat) :=
 match evS L x, evS L y, evS L u with
 | some (.mp t), some (.v kv), some (.sl u') => match lookH H t with
  | some (.ex _ [.sl u0]) => match lookH H u' with
   | some (@Blk.row _ _ _ _ _ mm kk) => bif Nat.beq m' m then
     some ([lookH H u' = some (.row N e ys mm kk), lookH (delH H u') t = some (.ex (pMO K N e xs k) [.sl u0]), kv = K.enc k], none, repH (delH H u') t t (.ex (pMR K N e (mput xs k ys)) []), n) else none
   | _ => none
  | _ => none
 | _, _, _ => none
def updrF (K : Kn κ) (N : Et α) (e : TypeId) (xs : List (κ × List α)) (k : κ) (ys : List α) (m : TypeId) : EvF := fun _ L H n op => match op with
 | .mapUpdate m' x y u => urF K N e xs k ys m L H n m' x y u
 | .insert m' x y u => urF K N e xs k ys m L H n m' x y u
 | _ => none
theorem urF_ok {c : C4} {L : SL} {H : SH} {n : Nat} {K : Kn κ} {N : Et α} {e : TypeId} {xs : List (κ × List α)} {k : κ} {ys : List α} {m kt et : TypeId} (hm : ∀ w, (underlying m).run c.P w = .ok (.map kt et) w) (hD : ∀ w, (underlying kt).run c.P w = .ok K.d w)
  {m' : TypeId} {x y u : Operand} {cs : List Prop} {r : Option SV} {H' : SH} {n' : Nat} (h : urF K N e xs k ys m L H n m' x y u = some (cs, r, H', n')) (hc : allP cs) {dst : Option Tmp} {T : TypeId} {pos : String} {af : Array Edge} {g : Option (Nat × Bool)}
  (hdr : r.isSome = dst.isSome) {op : Op} (ho : op = .mapUpdate m' x y u ∨ op = .insert m' x y u) : OT c ⟨dst, op, T, pos, af, g⟩ ⟨L, H, n⟩ (r.getD (.v undef)) H' n' := by
 unfold urF at h
 split at h
 ·rename_i t kv u' hx hy hu; split at h
  ·rename_i p0 u0 ht0; split at h
   ·rename_i β j N2 e2 ys2 mm kk hu0
    cases hb : Nat.beq m' m with
    | false => rw [hb] at h; cases h
    | true =>
     rw [hb, cond_true] at h; cases h
     have := Nat.eq_of_beq_eq_true hb; subst this
     obtain ⟨c1, hc2⟩ := allP_cons hc
     obtain ⟨d2, hc3⟩ := allP_cons hc2
     have c3 : kv = K.enc k := (allP_cons hc3).1
     subst c3
     have hdn : dst = none := by cases dst <;> simp_all
     subst hdn
     refine OT.ofTX rfl fun ρ F Fx o Lr hLr Q hk => ?_
     obtain ⟨vx, x1, x2⟩ := evS_ok o.dens hx
     obtain ⟨vy, y1, y2⟩ := evS_ok o.dens hy
     obtain ⟨vu, z1, z2⟩ := evS_ok o.dens hu
     rw [SV.den] at y1; cases y1
     obtain ⟨FA, f, FB, rfl, ⟨sp, cap, r1, r2, r3, r4⟩, _, hdel⟩ := o.reps.look c1
     obtain ⟨FA2, f2, FB2, e2, ⟨l, vs, q1, q2, bb, hs, H0, h0, R, q3, q4, q5, rfl, q7, q8⟩, hr2, _⟩ := hdel.look d2
     rw [SV.den, q1, q3] at x1; cases x1
     rw [SV.den, r1] at z1; cases z1
     obtain ⟨rs', s1, s2⟩ := q7 (sp, mm, cap) ys f r3 r2
     have e3 : (FA ++ FB).flatten = FA.flatten ++ FB.flatten := List.flatten_append
     have e4 : FA.flatten ++ FB.flatten = FA2.flatten ++ ((H0 ++ R) ++ FB2.flatten) := by rw [← e3, e2]; simp
     have hp : (⟨[], FA ++ f :: FB ++ Fx⟩ : Hp).all.Perm (⟨[], H0 :: ((f ++ R) :: (FA2 ++ FB2 ++ Fx))⟩ : Hp).all := by
      simp only [Hp.all, List.nil_append, List.flatten_append, List.flatten_cons, List.append_assoc, List.cons_append]
      refine (List.perm_append_comm_assoc FA.flatten f _).trans ?_
      rw [← List.append_assoc FA.flatten, e4]
      simp only [List.append_assoc]
      refine (List.Perm.append_left f (List.perm_append_comm_assoc FA2.flatten H0 _)).trans ?_
      refine (List.perm_append_comm_assoc f H0 _).trans (List.Perm.append_left H0 (List.Perm.append_left f ?_))
      exact List.perm_append_comm_assoc FA2.flatten R _
     refine TX.permL hp ?_
     refine TX.updM (N := K) (V := slV) (si := 0) (xs := hs) (k := k) (v := (sp, mm, cap)) (E := []) ho hm hD (ev_ext hLr x2) (ev_ext hLr y2) (ev_ext hLr z2) rfl q4 (fun Hs' S' hS h' => ?_)
     cases hS
     have hkk := hk ρ (FA2 ++ (Hs' ++ rs'.flatten) :: FB2) undef o.grow0 (by rw [Option.getD_none, SV.den]) (hr2 ρ t (.ex (pMR K N e (mput xs k ys)) []) (Hs' ++ rs'.flatten) (Env.le_refl _) ⟨l, [], q1, dens_nil, rfl, bb, _, Hs', rs', q3, h', s1, rfl⟩)
     simp only [putS] at hkk
     refine TO.perm ?_ hkk
     simp only [Hp.all, List.nil_append, List.flatten_append, List.flatten_cons, List.append_assoc, List.cons_append]
     refine (List.perm_append_comm_assoc FA2.flatten Hs' _).trans (List.Perm.append_left Hs' ?_)
     refine (List.perm_append_comm_assoc FA2.flatten rs'.flatten _).trans ?_
     rw [← List.append_assoc f]
     exact List.Perm.append_right _ s2
   ·cases h
  ·cases h
 ·cases h
theorem updrF_ok {c : C4} {K : Kn κ} {N : Et α} {e : TypeId} {xs : List (κ × List α)} {k : κ} {ys : List α} {m kt et : TypeId} (hm : ∀ w, (underlying m).run c.P w = .ok (.map kt et) w) (hD : ∀ w, (underlying kt).run c.P w = .ok K.d w) : EvOk c (updrF K N e xs k ys m) := by
 intro b L H n op cs r H' n' hB h hc dst T pos af g hdr hd
 unfold updrF at h
 split at h
 ·exact ⟨rfl, urF_ok hm hD h hc hdr (.inl rfl)⟩
 ·exact ⟨rfl, urF_ok hm hD h hc hdr (.inr rfl)⟩
 ·cases h
def Ev.ur {c : C4} (K : Kn κ) (N : Et α) (e : TypeId) (xs : List (κ × List α)) (k : κ) (ys : List α) {m kt et : TypeId} (hm : ∀ w, (underlying m).run c.P w = .ok (.map kt et) w) (hD : ∀ w, (underlying kt).run c.P w = .ok K.d w) : Ev c := .ot (updrF K N e xs k ys m) (updrF_ok hm hD)
theorem Imp.closeMR {c : C4} (t u : Nat) {K : Kn κ} {N : Et α} {e : TypeId} {xs : List (κ × List α)} {k : κ} {m : Nat} {kk : NK} {L : SL} {H : SH} {n : Nat} (hu : lookH H u = some (.row N e (mget xs k []) m kk))
  (hl2 : lookH (delH H u) t = some (.ex (pMO K N e xs k) [.sl u])) : Imp c ⟨L, H, n⟩ ⟨L, repH (delH H u) t t (.ex (pMR K N e xs) []), n⟩ := by
 intro ρ F a w hs
 obtain ⟨FA, f, FB, rfl, ⟨sp, cap, r1, r2, r3, r4⟩, _, hdel⟩ := hs.ok.reps.look hu
 obtain ⟨FA2, f2, FB2, e2, ⟨l, vs, q1, q2, bb, hs0, H0, h0, R, q3, q4, rfl, rfl, q7, q8⟩, hr2, _⟩ := hdel.look hl2
 have hv : SV.dens ρ [.sl u] = some [.slice sp m cap] := denAll_dens (l := [.sl u]) ⟨by rw [SV.den, r1]; rfl, trivial⟩
 rw [hv] at q2
 simp only [slV, Option.some.injEq, List.cons.injEq, Value.slice.injEq, and_true] at q2
 obtain ⟨j1, j2, j3⟩ := q2
 obtain ⟨rs', s1, s2⟩ := q8 f (by rw [← j1, ← j3]; exact r3)
 refine ⟨ρ, FA2 ++ (H0 ++ rs'.flatten) :: FB2, ⟨⟨hs.ok.dens, hr2 ρ t (.ex (pMR K N e xs) []) _ (Env.le_refl _) ⟨l, [], q1, dens_nil, rfl, bb, hs0, H0, rs', q3, q4, s1, rfl⟩, hs.ok.fr, hs.ok.pin, hs.ok.mle⟩, ?_⟩⟩
 refine hs.sat.perm ?_
 have e3 : (FA ++ FB).flatten = FA.flatten ++ FB.flatten := List.flatten_append
 have e4 : FA.flatten ++ FB.flatten = FA2.flatten ++ ((H0 ++ R) ++ FB2.flatten) := by rw [← e3, e2]; simp
 simp only [Hp.all, List.nil_append, List.flatten_append, List.flatten_cons, List.append_assoc]
 refine List.Perm.trans ?_ (List.perm_append_comm_assoc FA.flatten f _).symm
 rw [e4]
 simp only [List.append_assoc]
 refine List.Perm.trans ?_ (List.perm_append_comm_assoc f FA2.flatten _).symm
 refine List.Perm.append_left FA2.flatten ?_
 refine List.Perm.trans ?_ (List.perm_append_comm_assoc f H0 _).symm
 refine List.Perm.append_left H0 ?_
 rw [← List.append_assoc f]
 exact List.Perm.append_right _ s2
end
end Go.HW
namespace Go.HW
open Go Go.RowKit
set_option linter.unusedVariables false
def nfF : EvV := fun b L H op => match op with
 | .binOp o X x y _ => match evS L x, evS L y, lk b.t.und X with
  | some (.fc _ _), some (.v .nilIface), some (.interface _) => match o with
   | .eql => some ([], .v (.bool false)) | .neq => some ([], .v (.bool true)) | _ => none
  | _, _, _ => none
 | _ => none
theorem nfF_ok {c : C4} : EvVOk c nfF := by
 intro b L H n op cs r hB h hc
 unfold nfF at h
 split at h
 ·rename_i o X x y Y; split at h
  ·rename_i T0 v0 ms hx hy hX
   have key : ∀ (ρ : Env) (F : List Blocks), Ok c ρ F ⟨L, H, n⟩ → ∀ Lr : Slots, (∀ t v, look (realL ρ L) t = some v → look Lr t = some v) → ∃ v, ev Lr x = some (.iface T0 v) ∧ ev Lr y = some .nilIface := fun ρ F o Lr hLr => by
    obtain ⟨vx, x1, x2⟩ := evS_ok o.dens hx
    obtain ⟨vy, y1, y2⟩ := evS_ok o.dens hy
    rw [SV.den] at y1; cases y1
    rw [SV.den] at x1
    obtain ⟨v, _, rfl⟩ := Option.map_eq_some_iff.1 x1
    exact ⟨v, ev_ext hLr x2, ev_ext hLr y2⟩
   split at h
   ·cases h; refine ⟨rfl, fun ρ F Fx o Lr hLr => ⟨_, by rw [SV.den], fun d T pos af g => ?_⟩⟩
    obtain ⟨v, e1, e2⟩ := key ρ F o Lr hLr
    exact QV.bin e1 e2 (fun w => by simp [eqGuard]) fun w => by simp [binOp, ifc_nil (hB.t.und.mem _ (lk_mem hX))]
   ·cases h; refine ⟨rfl, fun ρ F Fx o Lr hLr => ⟨_, by rw [SV.den], fun d T pos af g => ?_⟩⟩
    obtain ⟨v, e1, e2⟩ := key ρ F o Lr hLr
    exact QV.bin e1 e2 (fun w => by simp [eqGuard]) fun w => by simp [binOp, ifc_nil (hB.t.und.mem _ (lk_mem hX))]
   ·cases h
  ·cases h
 ·cases h
def Ev.nf {c : C4} : Ev c := .ot (liftV nfF) (liftV_ok nfF_ok)
theorem Con.below {P : Program} {k : FuncId} {args : List SV} {H Hn : SH} {n n' : Nat} {r : SV}
  (h : ∀ (w : World) (ρ : Env) (F : List Blocks) (vs : List Value), SV.dens ρ args = some vs → Reps (cB P w F) ρ H F → (∀ t, n ≤ t → ρ t = none) → (∀ p ∈ F.flatten, w.heap[p.1]? = some p.2) → GlF w (F.flatten.map (·.1)) →
   Calls P k vs.toArray w fun e w' => ∃ v ρ' Fn, e = .returned v ∧ Below w.heap.size w w' ∧ Env.grow n n' ρ ρ' ∧ r.den ρ' = some v ∧ Reps (cB P w F) ρ' Hn Fn ∧
    (Fn.flatten.map (·.1)).Nodup ∧ (∀ p ∈ Fn.flatten, w.heap.size ≤ p.1) ∧ ∀ p ∈ Fn.flatten, w'.heap[p.1]? = some p.2)
  (htr : ∀ (w : World) (ρ ρ' : Env) (F : List Blocks), Env.grow n n' ρ ρ' → (∀ t, n ≤ t → ρ t = none) → Reps (cB P w F) ρ H F → Reps (cB P w F) ρ' H F) : Con P k args H n r (Hn ++ H) n' := by
 intro w ρ F vs hv hR hf hh hn gl
 refine Calls.mono (h w ρ F vs hv hR hf hh gl) ?_
 rintro e w' ⟨v, ρ', Fn, rfl, hbe, hg, hr, hRn, h3, h2, h1⟩
 have hlt : ∀ p ∈ F.flatten, p.1 < w.heap.size := fun p hp => (Array.getElem?_eq_some_iff.1 (hh p hp)).1
 refine ⟨_, ⟨[], Fn ++ F⟩, rfl, ⟨⟨hbe.os, hbe.tape, hbe.output, hbe.size, fun k hk _ => hbe.block k hk⟩, ?_, ?_, ?_⟩, cB P w F, ρ', _, rfl, hg, hr, ?_⟩
 ·simp only [Hp.all, List.nil_append, List.flatten_append, List.map_append]
  refine List.nodup_append.2 ⟨h3, hn, fun x hx y hy he => ?_⟩
  obtain ⟨p, hp, rfl⟩ := List.mem_map.1 hx
  obtain ⟨q, hq, rfl⟩ := List.mem_map.1 hy
  have := h2 p hp; have := hlt q hq; omega
 ·intro p hp
  simp only [Hp.all, List.nil_append, List.flatten_append, List.mem_append] at hp
  rcases hp with hp | hp
  ·exact h1 p hp
  ·rw [hbe.block p.1 (hlt p hp)]; exact hh p hp
 ·intro p hp
  simp only [Hp.all, List.nil_append, List.flatten_append, List.mem_append] at hp
  rcases hp with hp | hp
  ·exact .inr (h2 p hp)
  ·exact .inl (List.mem_map.2 ⟨p, by simpa [Hp.all] using hp, rfl⟩)
 ·exact Reps.append.2 ⟨Fn, F, rfl, hRn, htr w ρ ρ' F hg hf hR⟩
theorem Con.vals {P : Program} {k : FuncId} {args : List SV} {vs : List Value} {v : Value} (ha : ∀ ρ, SV.dens ρ args = some vs) (h : ∀ w, GlW w → Calls P k vs.toArray w fun e w' => e = .returned v ∧ Below w.heap.size w w') : Con P k args [] 0 (.v v) [] 0 :=
 Con.below (Hn := []) (fun w ρ F us hu hR hf hh gl => by
  rw [ha ρ] at hu; cases hu
  refine Calls.mono (h w (gl w (Ext.refl _ _))) ?_
  rintro e w' ⟨rfl, hb⟩
  exact ⟨v, ρ, [], rfl, hb, .refl hf, by rw [SV.den], rfl, by simp, by simp, by simp⟩) (fun w ρ ρ' F hg hf hR => hR)
end Go.HW
namespace Go.HW
open Go Go.RowKit
set_option linter.unusedVariables false
theorem TC.rangeON {σ α : Type} {P : Program} {w0 : World} {R0 : List Nat} {n : Nat} {ds : List Deferred} {lo : Nat} {lr0 : Loop} {L : Slots} {Q : Exit → Act → World → Prop} {g : Operand} {k : FuncId} {fi ca : List Value} (ps : List Nat) {assign body : Code} {Sc S1 : List Blocks} {Φ : List Blocks → Prop}
  (I : σ → Hp → Prop) (enc : α → List Value) (stepB : σ → α → Option (σ × Nat)) (s0 s1 : σ) (m1 : Nat)
  (hk : ∀ (args : Array Value) (w : World), (callFunc k args).run P w = .ok (.enter k args) w)
  (hg : ev L g = some (.func (.func k) fi.toArray ca.toArray)) (hps : ps.all (fun p => Nat.blt p n) = true) (henc : ∀ x, (enc x).length = ps.length)
  (hI : I s0 ⟨[], S1⟩)
  (hi : IterOkP ⟨P, some lo, w0, R0, n, ds⟩ L k fi ca Sc Φ I enc (stepR stepB) (s0, 0) (s1, m1))
  (hr : Rounds ⟨P, some lo, w0, R0, n, ds⟩ L ps assign body (fun _ => []) I enc stepB)
  (hlo : ∀ a w, Sat ⟨P, some lo, w0, R0, n, ds⟩ L ⟨[], Sc ++ S1⟩ a w → w.heap[lo]? = some (.loop lr0))
  (hq : ∀ H1 Sc1, I s1 H1 → Φ Sc1 → TE Q (exitOf m1) ⟨P, some lo, w0, R0, n, ds⟩ L ⟨H1.E, Sc1 ++ H1.S⟩) :
  TC ⟨P, some lo, w0, R0, n, ds⟩ (.rangeFunc g ps.toArray assign body) Q L ⟨[], Sc ++ S1⟩ := by
 intro a w s
 have hb0 := hlo a w s
 refine range_coreP (Ed := fun _ => []) (mk := fun _ => []) hk hg (fun p hp => by simpa [Nat.blt_eq] using List.all_eq_true.1 hps p hp) henc hi hI hr ?_ ?_
 ·intro fn
  have s1 := s.alloc (.loop { state := .ready, pending := none, fn, tmps := a.tmps, params := ps.toArray, assign, body, defers := lr0.defers })
  refine ⟨_, lr0.defers, _, { state := .ready, pending := none, fn, tmps := a.tmps, params := ps.toArray, assign, body, defers := lr0.defers }, enterLoop_run1 hb0, ⟨rfl, rfl, rfl, rfl, rfl, rfl, rfl⟩, ?_⟩
  exact s1.perm (by simp [Hp.all, Hp.add])
 ·intro l r lr a' w' H1 Sc1 hI1 hΦ ht hd s'
  refine hq H1 Sc1 hI1 hΦ a' w' (Sat.act ht (by rw [hd, s'.defers]; rfl) (s'.weak (fun _ _ h => h) ?_))
  simp only [Hp.all, Hp.add, List.nil_append, List.cons_append]
  exact List.sublist_cons_self _ _
section
variable {P : Program} {w0 : World} {R0 : List Nat} {N lo : Nat} {ds : List Deferred} {gl : GlF w0 R0} {ρ0 : Env} {m : Nat}
theorem RFN {σ α : Type} {k : FuncId} {g : Operand} (ps : List Nat) {assign body : Code} {K : List Fr} {Q : Exit → Act → World → Prop} {L : SL} {n : Nat}
  (Y : Yn α) (HI : SH) (TS : σ → SH) (RD : SH) (np mI : Nat) (τ : List Nat) (cca : List SV) (T0 : TypeId) (l0 : List SV) (cI : SH) (stepB : σ → α → Option (σ × Nat)) (s0 s1 : σ) (m1 : Nat) (tM : Nat) {pM : Blocks → Prop} {ca : List SV}
  (hk : ∀ (args : Array Value) (w : World), (callFunc k args).run P w = .ok (.enter k args) w)
  (hg : evS L g = some (.fn (.func k) [] ca)) (hca : ca = SV.rens τ cca) (hT0 : takesH τ HI ((0, .cells T0 l0) :: cI) = some (renBs τ ((0, .cells T0 l0) :: cI)))
  (hb : (Nat.ble m np && Nat.ble np n && ltAll np τ && Nat.beq τ.length mI && ltL np L && ltH np RD && allRd RD && ps.all (fun p => Nat.blt p N) && allOwn ((0, .cells T0 l0) :: cI) && Nat.blt 0 mI && ltH mI ((0, .cells T0 l0) :: cI)) = true)
  (hlen : ∀ l x, (Y.val l x).length = ps.length) (hYP : ∀ l, Y.P l) (hT : ∀ s, (ltH n (TS s) && allOwn (TS s)) = true)
  (hI : ∀ (yv : Value) (J : σ × Nat → Blocks → Prop), ConY P k (.v yv :: cca) ((0, .cells T0 l0) :: cI ++ [(mI, .bx (J (s0, 0)))]) (mI + 1) (.tu []) ((0, .cells T0 l0) :: cI ++ [(mI, .bx (J (s1, m1)))]) (mI + 1) (fun w R ρ => YldY P w R ρ 0 yv J Y (stepR stepB) goR))
  (hr : RoundsY P w0 R0 N ps assign body Y TS RD L np n ((τ.head?).getD 0) stepB)
  (hM : lookH (TS s0) tM = some (.bx pM)) (hpM : ∀ f, pM f → ∃ lr q, f = (lo, .loop lr) :: q)
  (hq : G4 ⟨⟨P, some lo, w0, R0, N, ds⟩, ρ0, m, gl⟩ Q (.exit (exitOf m1) K) ⟨L, nH τ (TS s1 ++ RD) ((0, .cells T0 l0) :: cI), n⟩) :
  G4 ⟨⟨P, some lo, w0, R0, N, ds⟩, ρ0, m, gl⟩ Q (.code (.rangeFunc g ps.toArray assign body) K) ⟨L, HI ++ (TS s0 ++ RD), n⟩ := by
 simp only [Bool.and_eq_true] at hb
 obtain ⟨⟨⟨⟨⟨⟨⟨⟨⟨⟨b1, b2⟩, bτ⟩, bm⟩, b5⟩, b6⟩, b7⟩, b8⟩, b9⟩, b10⟩, b11⟩ := hb
 have b1 := Nat.le_of_ble_eq_true b1
 have b2 := Nat.le_of_ble_eq_true b2
 have bm := Nat.eq_of_beq_eq_true bm
 have b10 : 0 < mI := by simpa [Nat.blt_eq] using b10
 have hT1 := fun s => (Bool.and_eq_true _ _ ▸ hT s).1
 have hT2 := fun s => (Bool.and_eq_true _ _ ▸ hT s).2
 generalize hcI : ((0, .cells T0 l0) :: cI : SH) = cH at *
 intro ρ F a w hs
 obtain ⟨FI, F1, rfl, r0, hR1⟩ := Reps.append.1 hs.ok.reps
 obtain ⟨FT, FR, rfl, r1, r2⟩ := Reps.append.1 hR1
 have hFR := Reps.rdNil b7 r2
 obtain ⟨Fc, G, k1, k2⟩ := takesH_ren r0 hT0
 obtain ⟨vg, g1, g2⟩ := evS_ok hs.ok.dens hg
 rw [SV.den, dens_nil] at g1
 simp only [Option.bind_some] at g1
 obtain ⟨cav, g3, g4⟩ := Option.map_eq_some_iff.1 g1
 subst g4
 have hcav : SV.dens (ρ.sel τ) cca = some cav := dens_ren (by rw [← hca]; exact g3)
 obtain ⟨ll0, hll0⟩ : ∃ l, ρ.sel τ 0 = some l := by
  rw [← hcI] at k1
  obtain ⟨f, F', _, ⟨b, vs, h1, _, _⟩, _⟩ := k1
  cases hx : ρ.sel τ 0 with
  | none => rw [hx] at h1; cases h1
  | some l => exact ⟨l, rfl⟩
 have htr : ρ ((τ.head?).getD 0) = some ll0 := by
  cases τ with
  | nil => simp at bm; omega
  | cons u τ => exact hll0
 have htrlt : (τ.head?).getD 0 < np := by
  cases τ with
  | nil => simp at bm; omega
  | cons u τ => exact ltAll_spec bτ u (by simp)
 have s2 : Sat ⟨P, some lo, w0, R0, N, ds⟩ (realL ρ L) ⟨[], Fc ++ FT⟩ a w := by
  refine (hs.sat.perm (H' := ⟨[], (Fc ++ G) ++ (FT ++ FR)⟩) ?_).weak (fun _ _ h => h) ?_
  ·simp only [Hp.all, List.nil_append, List.flatten_append]
   have := k2.flatten
   simp only [List.flatten_append] at this
   exact this.append_right _
  ·simp only [Hp.all, List.nil_append, List.flatten_append, hFR, List.append_nil]
   exact List.Sublist.append (List.sublist_append_left _ _) (List.Sublist.refl _)
 obtain ⟨FA0, f0, FB0, hFT, ⟨_, hp0⟩, _, _⟩ := r1.look hM
 obtain ⟨lr0, q0, hf0⟩ := hpM _ hp0
 refine TC.rangeON (lo := lo) (lr0 := lr0) (fi := []) (ca := cav) (Φ := fun Sc => Reps (cB P w0 []) (ρ.sel τ) cH Sc) ps
  (fun s H' => ∃ ρ' F', (∀ t, t < np → ρ' t = ρ t) ∧ (∀ t, n ≤ t → ρ' t = none) ∧ Reps (⟨P, some lo, w0, R0, N, ds⟩ : Cx) ρ' (TS s) F' ∧ H' = ⟨[], F'⟩)
  (Y.val ll0) stepB s0 s1 m1 hk g2 b8 (hlen _) ⟨ρ, FT, fun _ _ => rfl, hs.ok.fr, r1, rfl⟩ ?_ ?_ (fun a w s => s.heap (lo, .loop lr0) (by subst hFT hf0; simp [Hp.all])) ?_ a w s2
 ·-- the iterator
  intro w1 yv J Hs0 hdec hx hok hy hJ
  let ρc : Env := fun t => if t < mI then ρ.sel τ t else if t = mI then some ⟨none, 0, 0⟩ else none
  have c1 : ∀ t, t < mI → ρc t = ρ.sel τ t := fun t ht => by simp only [ρc, ht, if_true]
  have c2 : ρc mI = some ⟨none, 0, 0⟩ := by simp [ρc]
  have c3 : Env.le (ρ.sel τ) ρc := fun t l e => by
   rcases Nat.lt_or_ge t mI with ht | ht
   ·rw [c1 t ht]; exact e
   ·simp [Env.sel, tgO_none (σ := τ) (t := t) (by omega)] at e
  have hall : (⟨[], Fc ++ [Hs0]⟩ : Hp).all = (Fc ++ [Hs0]).flatten := by simp [Hp.all]
  have hret := hI yv J w1 ρc (Fc ++ [Hs0]) (yv :: cav) (dens_cons_some.2 ⟨[yv], cav, by simp [SV.deni, SV.den], dens_mono c3 hcav, rfl⟩)
   (Reps.append.2 ⟨Fc, [Hs0], rfl, Reps.ownTr (n := mI) (c := (⟨P, some lo, w0, R0, N, ds⟩ : Cx)) c1 b9 b11 k1, Hs0, [], rfl, ⟨⟨_, c2⟩, hJ⟩, rfl⟩)
   (fun t ht => by simp only [ρc]; rw [if_neg (by omega), if_neg (by omega)]) (by rw [← hall]; exact hok.1) (by rw [← hall]; exact hok.2) (gl.tr (by rw [← hall]; exact hx)) (by rw [← hall]; exact ⟨ll0, by rw [c1 0 b10]; exact hll0, hYP _, hy⟩)
  refine Ret.mono hret ?_
  rintro v R' ⟨cc, ρ', F', rfl, hgr, _, hR'⟩
  obtain ⟨FA, FB, rfl, p1, f3, F3, rfl, ⟨_, hJ1⟩, hnil⟩ := Reps.append.1 hR'
  have hnil : F3 = [] := hnil
  subst hnil
  exact ⟨f3, FA, hJ1, Reps.ownTr (n := mI) (fun t ht => by rw [hgr.old t (by omega), c1 t ht]) b9 b11 p1, rfl⟩
 ·-- the rounds
  rintro l r lr w' R s x s' mm _ Rr hrdy hst ⟨ρ', F', h1, h2, h3, rfl⟩ hx hcont a2 w2 sat2
  obtain ⟨hL1, hL2⟩ := ltL_dens h1 b5 hs.ok.dens
  have hle : Env.le ρ' (ρ'.set n ⟨none, 0, 0⟩) := (Env.set_grow h2).toLe h2
  obtain ⟨i1, i2⟩ := argPS_ok (ps := ps) (L := L) (Y.ok (ρ'.set n ⟨none, 0, 0⟩) ((τ.head?).getD 0) ll0 x (hle _ _ (by rw [h1 _ htrlt]; exact htr)) (hYP _)) (hL1.mono hle)
  rw [realL_mono hle hL1, hL2] at i2
  have hx2 : ExtB w0 R0 w' R := hx
  refine hr l w' R (gl.tr hx2) ρ (fun f => f = [(l, .loop lr)]) (fun f => f = [(l, .loop { lr with state := .busy })]) (RndQ P l body Rr) (roundPost P l Rr) s x s' mm (fun f hf => ⟨_, _, hf⟩) hst ?_ ?_
   (ρ'.set n ⟨none, 0, 0⟩) ([(l, .loop lr)] :: (F' ++ FR)) a2 w2 ⟨⟨i1, ⟨_, _, rfl, ⟨⟨_, Env.set_self⟩, rfl⟩, Reps.append.2 ⟨F', FR, rfl, ?_, ?_⟩⟩, ?_, ?_, ?_⟩, ?_⟩
  ·intro L' H' n' hlk hbody ρ3 F3 a3 w3 s3
   obtain ⟨FA3, f, FB3, rfl, ⟨hloc, rfl⟩, hrep, _⟩ := s3.ok.reps.look hlk
   have hhp : w3.heap[l]? = some (.loop lr) := s3.sat.heap (l, .loop lr) (by simp [Hp.all])
   refine ⟨_, beginRound_run hhp hrdy, hbody ρ3 (FA3 ++ [(l, .loop { lr with state := .busy })] :: FB3) a3 _ ⟨⟨s3.ok.dens, hrep ρ3 n (.bx _) _ (Env.le_refl _) ⟨hloc, rfl⟩, s3.ok.fr, s3.ok.pin, s3.ok.mle⟩, ?_⟩⟩
   exact s3.sat.setBlockG (o := .loop lr) (A := FA3.flatten) (B := FB3.flatten) (by simp [Hp.all]) (by simp [Hp.all])
  ·intro st hi ρ3 F3 a3 w3 s3
   obtain ⟨ρ4, F4, s4⟩ := hi ρ3 F3 a3 w3 s3
   obtain ⟨fX, F5, rfl, ⟨_, rfl⟩, hR5⟩ := s4.ok.reps
   refine hcont [] ⟨[], F5⟩ ⟨fun t => if t < n then ρ4 t else none, F5, ?_, ?_, ?_, rfl⟩ a3 w3 ?_
   ·intro t ht
    have : t < n := by omega
    simp only [this, if_true]; exact s4.ok.pin t ht
   ·intro t ht
    simp only [show ¬ t < n from by omega, if_false]
   ·exact Reps.ownTr (n := n) (fun t ht => by simp [ht]) (hT2 s') (hT1 s') hR5
   ·refine ⟨s4.sat.size, s4.sat.defers, fun t v h => by simp [look] at h, s4.sat.ext, ?_, ?_, ?_⟩
    ·simpa [Hp.all] using s4.sat.nodup
    ·intro p hp; exact s4.sat.heap p (by simpa [Hp.all] using hp)
    ·intro p hp; exact s4.sat.own p (by simpa [Hp.all] using hp)
  ·exact Reps.ownTr (n := n) (fun t ht => by simp [Env.set, Nat.ne_of_lt ht]) (hT2 s) (hT1 s) h3
  ·exact Reps.rdTr (np := np) hx2 (fun t ht => by simp [Env.set, Nat.ne_of_lt (Nat.lt_of_lt_of_le ht b2), h1 t ht]) b7 b6 r2
  ·intro t ht; simp only at ht; simp only [Env.set, show t ≠ n from by omega, if_false]; exact h2 t (by omega)
  ·intro t ht; simp only at ht; simp only [Env.set, show t ≠ n from by omega, if_false]; exact h1 t ht
  ·show np ≤ n + 1; omega
  ·have : Sat ⟨P, some l, w', R, N, []⟩ (realL (ρ'.set n ⟨none, 0, 0⟩) (argPS ps (Y.sv ((τ.head?).getD 0) x) L)) ⟨[], [(l, .loop lr)] :: (F' ++ FR)⟩ a2 w2 := by
    rw [i2]
    refine sat2.perm ?_
    simp only [Hp.all, List.nil_append, List.flatten_cons, List.flatten_append, hFR, List.append_nil, List.cons_append]
    exact List.Perm.refl _
   exact this
 ·-- behind it
  rintro _ Sc1 ⟨ρ', F', h1, h2, h3, rfl⟩ hΦ a2 w2 sat2
  obtain ⟨hL1, hL2⟩ := ltL_dens h1 b5 hs.ok.dens
  have hsel : ρ'.sel τ = ρ.sel τ := sel_old (np := np) h1 bτ
  refine hq ρ' (Sc1 ++ (F' ++ FR)) a2 w2 ⟨⟨hL1, nH_reps (c' := cB P w0 []) (Reps.append.2 ⟨F', FR, rfl, h3, ?_⟩) b9 (by rw [hsel]; exact hΦ), h2, ?_, ?_⟩, ?_⟩
  ·exact Reps.rdTr (c := ⟨P, some lo, w0, R0, N, ds⟩) (np := np) (c' := ⟨P, some lo, w0, R0, N, ds⟩) ⟨Ext.refl _ _, fun k hk => .inl hk⟩ h1 b7 b6 r2
  ·intro t ht; rw [h1 t (Nat.lt_of_lt_of_le (show t < m from ht) b1)]; exact hs.ok.pin t ht
  ·show m ≤ n; omega
  ·have : Sat ⟨P, some lo, w0, R0, N, ds⟩ (realL ρ' L) ⟨[], Sc1 ++ (F' ++ FR)⟩ a2 w2 := by
    rw [hL2]
    refine sat2.perm ?_
    simp only [Hp.all, List.nil_append, List.flatten_append, hFR, List.append_nil]
    exact List.Perm.refl _
   exact this
end
section
variable {c : C4}
theorem Imp.joinT (t k : Nat) {r : Nat} {rs : List Nat} {L : SL} {H : SH} {n : Nat} (h1 : lookH H t = some (.bx (fun f => f = [(r, .deferred (some []))]))) (h2 : lookH (delH H t) k = some (.bx (mkB rs))) :
  Imp c ⟨L, H, n⟩ ⟨L, repH (delH H t) k k (.bx (mkB (rs ++ [r]))), n⟩ := by
 intro ρ F a w hs
 obtain ⟨FA, f, FB, rfl, ⟨_, rfl⟩, _, hdel⟩ := hs.ok.reps.look h1
 obtain ⟨FA2, f2, FB2, e2, ⟨hl, rfl⟩, hr2, _⟩ := hdel.look h2
 refine ⟨ρ, FA2 ++ (rs ++ [r]).map (fun r => (r, Obj.deferred (some []))) :: FB2, ⟨⟨hs.ok.dens, hr2 ρ k _ _ (Env.le_refl _) ⟨hl, rfl⟩, hs.ok.fr, hs.ok.pin, hs.ok.mle⟩, ?_⟩⟩
 refine hs.sat.perm ?_
 simp only [Hp.all, List.nil_append, List.flatten_append, List.flatten_cons, List.map_append, List.map_cons, List.map_nil]
 have p1 : (FA.flatten ++ (r, Obj.deferred (some [])) :: FB.flatten).Perm ((r, Obj.deferred (some [])) :: (FA ++ FB).flatten) := by rw [List.flatten_append]; exact List.perm_middle
 refine List.Perm.trans ?_ p1.symm
 rw [e2]
 simp only [List.flatten_append, List.flatten_cons]
 refine List.Perm.trans ?_ (List.perm_middle (a := (r, Obj.deferred (some []))) (l₁ := FA2.flatten))
 refine List.Perm.append_left _ ?_
 rw [List.append_assoc, List.singleton_append]
 exact List.perm_middle
end
section
variable {P : Program} {w0 : World} {F0 : List Blocks} {gl : GlF w0 (F0.flatten.map (·.1))} {ρ0 : Env} {N m n' : Nat} {fn : Func} {r : SV} {H' : SH} {L : SL} {H : SH} {n : Nat} {rs : List ResultVar} {ys : List SV} {ds : List Deferred}
theorem RTMsD {t : Tab} (ht : TabOk P t) (k : Nat) (ms : List Nat) (hds : ds = collsL ms ++ []) (hms : lookH H k = some (.bx (mkB ms))) (hrs : fn.results = rs.toArray) (σ : List Nat) (hy : resS t L (delH H k) rs = some ys) (hr : retS ys = r.ren σ) (h2 : takesH σ (delH H k) H' = some (renBs σ H')) (h3 : idB 0 m σ = true) (h4 : σ.length = n') :
  G4 ⟨⟨P, none, w0, F0.flatten.map (·.1), N, ds⟩, ρ0, m, gl⟩ (FinC P fn w0 F0 ρ0 m r H' n') (.exit .ret []) ⟨L, H, n⟩ := by subst hds; exact RTMs (gl := gl) ht k hms hrs σ hy hr h2 h3 h4
end
end Go.HW
namespace Go.HW
open Go Go.RowKit
set_option linter.unusedVariables false
section
variable {c : C4}
theorem OT.vw {o : Oper} {s : St} {H' : SH} {n' t lo sz k : Nat} (h : OT c o s (.ss t lo sz k) H' n') : OT c o s (.sl n') ((n', .vw (.ss t lo sz k)) :: H') (n' + 1) := by
 intro ρ F Fx a w ho hs K Q hK
 refine h ρ F Fx a w ho hs K Q fun ρ' F' w' v hg hr hR s' => ?_
 have e0 := hr
 rw [SV.den] at hr
 obtain ⟨l, hl, e1⟩ := Option.bind_eq_some_iff.1 hr
 cases hb : Nat.ble (lo + k) l.len with
 | false => rw [hb] at e1; cases e1
 | true =>
 rw [hb, cond_true] at e1; cases e1
 have hg2 := Env.set_grow (ρ := ρ') (n := n') (l := ⟨subP l.sp sz l.cap lo, l.cap - lo, k⟩) hg.fr
 have hle := hg2.toLe hg.fr
 have hρ : ρ'.set n' ⟨subP l.sp sz l.cap lo, l.cap - lo, k⟩ n' = some ⟨subP l.sp sz l.cap lo, l.cap - lo, k⟩ := Env.set_self
 refine hK (ρ'.set n' ⟨subP l.sp sz l.cap lo, l.cap - lo, k⟩) ([] :: F') w' _ ⟨fun t ht => by rw [hg2.old t (Nat.lt_of_lt_of_le ht hg.le)]; exact hg.old t ht, hg2.fr, Nat.le_trans hg.le hg2.le⟩ (by rw [SV.den, hρ]; rfl) ⟨[], F', rfl, ⟨_, _, _, hρ, den_mono hle e0, rfl⟩, hR.mono hle⟩ ?_
 exact s'.perm (by simp [Hp.all])
def vwF (f : EvF) : EvF := fun b L H n op => match f b L H n op with
 | some (cs, some (.ss t lo sz k), H', n') => some (cs, some (.sl n'), (n', .vw (.ss t lo sz k)) :: H', n' + 1)
 | _ => none
theorem vwF_ok {f : EvF} (hf : EvOk c f) : EvOk c (vwF f) := by
 intro b L H n op cs r H' n' hB h hc dst T pos af g hdr hd
 unfold vwF at h
 split at h
 ·rename_i cs1 t lo sz k H1 n1 h1
  cases h
  obtain ⟨a1, a2⟩ := hf b L H n op _ _ _ _ hB h1 hc (dst := dst) (T := T) (pos := pos) (af := af) (g := g) (by simpa using hdr) hd
  exact ⟨a1, OT.vw a2⟩
 ·cases h
def Ev.sw {c : C4} : Ev c := .ot (vwF slF) (vwF_ok slF_ok)
end
end Go.HW
namespace Go.HW
open Go Go.RowKit
set_option linter.unusedVariables false
section
variable {P : Program} {w0 : World} {R0 : List Nat} {gl : GlF w0 R0} {ρ0 : Env} {N m : Nat} {fn : Func} {L : SL} {H : SH} {n : Nat} {ds : List Deferred} {Rr : Ending → World → Prop}
theorem mark_sat {t : Nat} {r : Nat} {aa : Array Value} {ρ : Env} {F : List Blocks} {a : Act} {w : World} (hm : lookH H t = some (.bx (fun f => f = [(r, .deferred (some []))])))
  (s : Sat4 ⟨⟨P, none, w0, R0, N, { target := .collected r, args := aa } :: ds⟩, ρ0, m, gl⟩ ρ F ⟨L, H, n⟩ a w) :
  a.defers = { target := .collected r, args := aa } :: ds ∧ w.heap[r]? = some (.deferred (some [])) ∧ ∃ F', Sat4 ⟨⟨P, none, w0, R0, N, ds⟩, ρ0, m, gl⟩ ρ F' ⟨L, delH H t, n⟩ { a with defers := ds } (World.withBlock w r (.deferred none)) := by
 obtain ⟨FA, f, FB, rfl, ⟨hloc, rfl⟩, hrep, k1⟩ := s.ok.reps.look hm
 have hb : w.heap[r]? = some (.deferred (some [])) := s.sat.heap (r, .deferred (some [])) (by simp [Hp.all])
 refine ⟨s.sat.defers, hb, FA ++ FB, ⟨s.ok.dens, Reps.cx (c := ⟨P, none, w0, R0, N, { target := .collected r, args := aa } :: ds⟩) (c' := ⟨P, none, w0, R0, N, ds⟩) rfl rfl k1, s.ok.fr, s.ok.pin, s.ok.mle⟩, ?_⟩
 have s1 : Sat ⟨P, none, w0, R0, N, { target := .collected r, args := aa } :: ds⟩ (realL ρ L) ⟨[], FA ++ [(r, .deferred none)] :: FB⟩ a (World.withBlock w r (.deferred none)) :=
  s.sat.setBlockG (o := .deferred (some [])) (A := FA.flatten) (B := FB.flatten) (by simp [Hp.all]) (by simp [Hp.all])
 have s2 : Sat ⟨P, none, w0, R0, N, { target := .collected r, args := aa } :: ds⟩ (realL ρ L) ⟨[], FA ++ FB⟩ a (World.withBlock w r (.deferred none)) := s1.weak (fun _ _ h => h) (by
  simp only [Hp.all, List.nil_append, List.flatten_append, List.flatten_cons]
  exact List.Sublist.append (List.Sublist.refl _) (List.sublist_append_right _ _))
 exact (show Sat ⟨P, none, w0, R0, N, ds⟩ (realL ρ L) ⟨[], FA ++ FB⟩ { a with defers := ds } (World.withBlock w r (.deferred none)) from Sat.act (a := a) rfl rfl s2)
theorem G4.markE (t : Nat) {r : Nat} {aa : Array Value} {e : Exit} {o : Ending → World → Prop} (he : e = .ret ∨ e = .normal ∨ ∃ l, e = .panic l) (hm : lookH H t = some (.bx (fun f => f = [(r, .deferred (some []))])))
  (h : G4 ⟨⟨P, none, w0, R0, N, ds⟩, ρ0, m, gl⟩ (bodyPostM (FW none) 1 P fn o) (.exit e []) ⟨L, delH H t, n⟩) :
  G4 ⟨⟨P, none, w0, R0, N, { target := .collected r, args := aa } :: ds⟩, ρ0, m, gl⟩ (bodyPostM (FW none) 1 P fn o) (.exit e []) ⟨L, H, n⟩ := by
 intro ρ F a w s
 obtain ⟨h1, h2, F', s'⟩ := mark_sat hm s
 have h3 := h ρ F' _ _ s'
 have hrun : (Instr.takeDeferred r).run P w = .ok [] (World.withBlock w r (.deferred none)) := by
  simp [Instr.takeDeferred, getObj, setObj, Sem.run, h2, World.withBlock]
 rcases he with rfl | rfl | ⟨l, rfl⟩
 ·show LeavesInM (FW none) 1 P fn a.tmps o a.defers .returning w
  rw [h1]; exact ⟨by simp, .inl ⟨r, _, rfl, hrun, h3⟩⟩
 ·show LeavesInM (FW none) 1 P fn a.tmps o a.defers .returning w
  rw [h1]; exact ⟨by simp, .inl ⟨r, _, rfl, hrun, h3⟩⟩
 ·show LeavesInM (FW none) 1 P fn a.tmps o a.defers (.panicking l) w
  rw [h1]; exact ⟨by simp, .inl ⟨r, _, rfl, hrun, h3⟩⟩
end
end Go.HW
namespace Go.HW
open Go Go.RowKit
set_option linter.unusedVariables false
def bytesZ (s : ByteArray) : List Int := s.data.toList.map fun b => (b.toNat : Int)
theorem bytesZ_len (s : ByteArray) : (bytesZ s).length = s.size := by simp [bytesZ]
theorem bytesZ_enc (s : ByteArray) : (bytesZ s).flatMap (En.int .u8).enc = Lib.strCells s := by
 unfold bytesZ Lib.strCells
 induction s.data.toList with
 | nil => rfl
 | cons b l ih => simp only [List.map_cons, List.flatMap_cons, ih]; rfl
theorem run_append_roomS {P : Program} (w : World) (t u ty e : TypeId) (i : TypeInfo) (ht : P.underlying t = some (.slice e)) (hu : P.underlying u = some .string) (hi : P.info? e = some i) (hi1 : i.size = 1) (g sLen sCap : Nat) (l : List Value) (fz : Nat × Nat) (hz : NoFz fz l.length)
  (hg : w.heap[g]? = some (.cells l.toArray e fz)) (s : ByteArray) (hroom : sLen + s.size ≤ sCap) (hfit : sLen + s.size ≤ l.length) :
  ∃ l' : List Value, (Builtin.append_ #[t, u] ty #[.slice (some ⟨g, 0, none⟩) sLen sCap, .string s]).run P w = .ok (.slice (some ⟨g, 0, none⟩) (sLen + s.size) sCap) (World.withBlock w g (.cells l'.toArray e fz)) ∧ l'.length = l.length ∧
   ∀ j, l'[j]? = if sLen ≤ j ∧ j < sLen + s.size then (Lib.strCells s)[j - sLen]? else l[j]? := by
 have hf := Lib.run_firstCells_string (P := P) w 1 s
 obtain ⟨l', r1, r2, r3⟩ := run_storeCellsF (P := P) (off := sLen) (Lib.strCells s) 0 l [] w hg hz (Lib.strCells_oneCell s) (by rw [Lib.strCells_length]; omega)
 refine ⟨l', ?_, r2, by simpa [Lib.strCells_length] using r3⟩
 simp [Builtin.append_, run_underlying ht, run_underlying hu, sizeOf, typeInfo, hi, hi1, Builtin.lenOf, hroom, hf, Addr.add_lit, r1]
theorem append_casesS {P : Program} {w : World} {X Y A : TypeId} {info : TypeInfo} {zv : Value} {sp : Option Addr} {cap : Nat} {xs : List Int} {s : ByteArray} {Hs : Blocks} {T : TypeId}
  (hu : P.underlying X = some (.slice A)) (hY : P.underlying Y = some .string) (hi : P.info? A = some info) (hz : info.zero = some zv) (hzc : zv.cells.size = 1) (hsz : info.size = 1)
  (ho : OwnL (En.int .u8) A sp cap xs Hs) (hh : ∀ p ∈ Hs, w.heap[p.1]? = some p.2) (hb1 : (xs.length + s.size) * info.bytes ≤ 140737488355328) (hb2 : xs.length + s.size ≤ 9223372036854775807) :
  ∃ sp' cap' Hs' w', (Builtin.append_ #[X, Y] T #[.slice sp xs.length cap, .string s]).run P w = .ok (.slice sp' (xs ++ bytesZ s).length cap') w' ∧ OwnL (En.int .u8) A sp' cap' (xs ++ bytesZ s) Hs' ∧
   Eff w ⟨[], [Hs]⟩ w' ⟨[], [Hs']⟩ := by
 have hcapm : ∀ old, grownCap w (xs.length + s.size) old A ≤ maxLen := fun old => grownCap_le_maxLen w _ old A (by unfold maxLen; omega)
 have hcapg : ∀ old, xs.length + s.size ≤ grownCap w (xs.length + s.size) old A := fun old => grownCap_ge w _ old A
 have hsz1 : (En.int .u8).sz = 1 := rfl
 have fl : ∀ l : List Int, (l.flatMap (En.int .u8).enc).length = l.length := fun l => by rw [flat_len, hsz1, Nat.mul_one]
 have newOwn : ∀ old, OwnL (En.int .u8) A (some ⟨w.heap.size, 0, none⟩) (grownCap w (xs.length + s.size) old A) (xs ++ bytesZ s)
   [(w.heap.size, .cells ((xs.flatMap (En.int .u8).enc).toArray ++ (Lib.strCells s).toArray ++ Builtin.zeroCells zv.cells (grownCap w (xs.length + s.size) old A - (xs.length + s.size))) A (0, 0))] := by
  intro old
  refine .inr ⟨_, _, rfl, ⟨(0, 0), nofz0, rfl⟩, by simpa [bytesZ_len] using hcapg old, hcapm old, ?_, ?_⟩
  ·have := hcapg old
   simp only [Array.size_append, List.size_toArray, size_zeroCells, hzc, fl, Lib.strCells_length, hsz1]
   omega
  ·simp only [Array.toList_append, List.append_assoc, List.flatMap_append, bytesZ_enc]
   rw [← List.append_assoc, ← bytesZ_enc, ← List.flatMap_append, show (xs ++ bytesZ s).length * (En.int .u8).sz = ((xs ++ bytesZ s).flatMap (En.int .u8).enc).length from (flat_len _ _).symm]
   exact List.take_left
 have hlen : (xs ++ bytesZ s).length = xs.length + s.size := by rw [List.length_append, bytesZ_len]
 rcases ho with ⟨rfl, rfl, rfl, rfl⟩ | ⟨g, cur, rfl, ⟨fz, hfz, rfl⟩, h1, h2, h3, h4⟩
 ·by_cases hm : s.size = 0
  ·have hs0 : bytesZ s = [] := List.eq_nil_of_length_eq_zero (by rw [bytesZ_len]; exact hm)
   refine ⟨none, 0, [], w, ?_, by rw [hs0]; exact .nil _ _, eff_same hh (by simp)⟩
   have hf := Lib.run_firstCells_string (P := P) w info.size s
   have hc0 : Lib.strCells s = [] := List.eq_nil_of_length_eq_zero (by rw [Lib.strCells_length]; exact hm)
   rw [hm] at hf
   simp [Builtin.append_, run_underlying hu, run_underlying hY, sizeOf, typeInfo, hi, Builtin.lenOf, hm, hf, hs0]
  ·have hr := run_append_nil_string (P := P) (w := w) X Y T A info zv hu hY hi hz s (by omega) (by simp at hb2; omega) (by simp at hb1; omega)
   have := newOwn 0
   simp only [List.length_nil, Nat.zero_add, List.nil_append, List.flatMap_nil] at this
   have hsc : s.data.map (fun b => Value.int IntKind.u8 (b.toNat : Int)) = (Lib.strCells s).toArray := by
    apply Array.ext'; simp [Lib.strCells]
   rw [hsc] at hr
   exact ⟨_, _, _, w.drew.alloc (.cells ((Lib.strCells s).toArray ++ Builtin.zeroCells zv.cells (grownCap w s.size 0 A - s.size)) A), by simpa [bytesZ_len] using hr, by simpa using this,
    eff_new hh (heap_alloc_new w.drew _) rfl rfl rfl (by simp) (fun k hk => heap_alloc_old w.drew _ hk)⟩
 ·have hg : w.heap[g]? = some (.cells cur A fz) := hh (g, .cells cur A fz) (by simp)
  by_cases hroom : xs.length + s.size ≤ cap
  ·obtain ⟨lc⟩ := cur
   simp only [List.size_toArray, hsz1, Nat.mul_one] at h3 h4 hfz
   have hfit : xs.length + s.size ≤ lc.length := by omega
   obtain ⟨l', r1, r2, r3⟩ := run_append_roomS (P := P) w X Y T A info hu hY hi hsz g xs.length cap lc fz hfz hg s hroom hfit
   refine ⟨some ⟨g, 0, none⟩, cap, _, World.withBlock w g (.cells l'.toArray A fz), by rw [r1, hlen], ?_,
    eff_old hg (withBlock_heap (Array.getElem?_eq_some_iff.1 hg).1) rfl rfl rfl (by simp [World.withBlock]) (fun k hk => withBlock_other hk)⟩
   refine .inr ⟨g, l'.toArray, rfl, ⟨fz, by simpa [r2] using hfz, rfl⟩, by rw [hlen]; exact hroom, h2, by simpa [r2, hsz1] using h3, ?_⟩
   apply List.ext_getElem?
   intro j
   rw [hlen, hsz1, Nat.mul_one, List.getElem?_take, List.flatMap_append, bytesZ_enc]
   have q4j : ∀ j, (xs.flatMap (En.int .u8).enc)[j]? = if j < xs.length then lc[j]? else none := by
    intro j; rw [← h4, List.getElem?_take]
   simp only [r3 j]
   by_cases j1 : j < xs.length
   ·rw [if_pos (by omega), if_neg (by omega), List.getElem?_append_left (by rw [fl]; exact j1), q4j, if_pos j1]
   ·rw [List.getElem?_append_right (by rw [fl]; omega), fl]
    by_cases j2 : j < xs.length + s.size
    ·rw [if_pos j2, if_pos (by omega)]
    ·rw [if_neg j2, List.getElem?_eq_none (by rw [Lib.strCells_length]; omega)]
  ·have holds : ∀ j u, (xs.flatMap (En.int .u8).enc)[j]? = some u → w.cell? ((⟨g, 0, none⟩ : Addr).add j) = some u := by
    intro j u hu
    rw [← h4, List.getElem?_take] at hu
    split at hu
    ·rw [add_none]; simp [World.cell?, hg]; simpa using hu
    ·cases hu
   have hr := Lib.run_append_grow_string (P := P) (w := w) X Y T A info zv hu hY hi hz ⟨g, 0, none⟩ xs.length cap (xs.flatMap (En.int .u8).enc) (by rw [hsz, Nat.mul_one]; exact fl xs) holds s (by omega) (by omega) (growslice_fits (by omega) hb1)
   exact ⟨_, _, _, _, by rw [hlen]; exact hr, newOwn cap,
    eff_new hh (heap_alloc_new w.drew _) rfl rfl rfl (by simp) (fun k hk => heap_alloc_old w.drew _ hk)⟩
section
variable {c : Cx} {ops : Array Oper} {Q : Exit → Act → World → Prop} {rest : List Oper} {L : Slots} {d : Nat} {T : TypeId} {pos : String} {af : Array Edge} {g : Option (Nat × Bool)}
theorem TX.appendStr {X Y A : TypeId} {info : TypeInfo} {zv : Value} {x y : Operand} {sp : Option Addr} {cap : Nat} {xs : List Int} {sv : ByteArray} {si by' : Nat} {E : Blocks} {S : List Blocks} {Hs : Blocks}
  (hu : ∀ w, (underlying X).run c.P w = .ok (.slice A) w) (hY : ∀ w, (underlying Y).run c.P w = .ok .string w) (hi : ∀ w, (typeInfo A).run c.P w = .ok info w) (hz : info.zero = some zv) (hzc : zv.cells.size = 1) (hsz : info.size = 1) (hby : info.bytes = by')
  {n : Nat} (hx : ev L x = some (.slice sp n cap)) (hn : xs.length = n) (hy : ev L y = some (.string sv)) (hS : getS S si = some Hs) (ho : OwnL (En.int .u8) A sp cap xs Hs)
  (hb : decide ((xs.length + sv.size) * by' ≤ 140737488355328 ∧ xs.length + sv.size ≤ 9223372036854775807) = true) (hd : Nat.blt d c.n = true)
  (h : ∀ sp' cap' Hs' S', setS S si Hs' = some S' → OwnL (En.int .u8) A sp' cap' (xs ++ bytesZ sv) Hs' → TO c ops Q rest ((d, .slice sp' (xs ++ bytesZ sv).length cap') :: L) ⟨E, S'⟩) :
  TX c ops Q ⟨some d, .call ⟨.builtin .append, #[x, y], #[X, Y]⟩, T, pos, af, g⟩ rest L ⟨E, S⟩ := by
 intro a w s
 simp only [decide_eq_true_eq] at hb
 obtain ⟨hb1, hb2⟩ := hb
 subst hby
 subst hn
 have hmem : ∀ p ∈ Hs, p ∈ (⟨E, S⟩ : Hp).all := fun p hp => List.mem_append.2 (.inr (getS_sub hS p hp))
 obtain ⟨sp', cap', Hs', w', hrun, hown, heff⟩ := append_casesS (P := c.P) (T := T) (und_of hu) (und_of hY) (info_of hi) hz hzc hsz ho (fun p hp => s.heap p (hmem p hp)) hb1 hb2 (cap := cap)
 obtain ⟨S', hS'⟩ := setS_some Hs' hS
 have hex : (execOp a.eval ⟨some d, .call ⟨.builtin .append, #[x, y], #[X, Y]⟩, T, pos, af, g⟩).run c.P w = .ok (.value (.slice sp' (xs ++ bytesZ sv).length cap')) w' := by
  simp only [List.length_append] at hrun ⊢
  simp [execOp, resolve, invoke, builtin, s.eval hx, s.eval hy, hrun]
 rw [hex]
 refine h _ _ _ _ hS' hown _ _ (Sat.put (dst := some d) ?_ hd _)
 obtain ⟨A1, B1, p, h1, h2, h3⟩ := setS_spec hS'
 rw [hS] at h3; cases h3
 have e1 : (⟨E, S⟩ : Hp).all.Perm ((⟨[], [Hs]⟩ : Hp).add ⟨E, A1 ++ B1⟩).all := by
  simp only [Hp.all, Hp.add, h1, List.nil_append, List.flatten_append, List.flatten_cons, List.cons_append]
  refine List.Perm.append_left _ ?_
  rw [← List.append_assoc, ← List.append_assoc]
  exact List.Perm.append_right _ List.perm_append_comm
 have e2 : (⟨E, S'⟩ : Hp).all.Perm ((⟨[], [Hs']⟩ : Hp).add ⟨E, A1 ++ B1⟩).all := by
  simp only [Hp.all, Hp.add, h2, List.nil_append, List.flatten_append, List.flatten_cons, List.cons_append]
  refine List.Perm.append_left _ ?_
  rw [← List.append_assoc, ← List.append_assoc]
  exact List.Perm.append_right _ List.perm_append_comm
 exact ((s.perm e1.symm).eff heff).perm e2
end
def asF (xs : List Int) (s : ByteArray) : EvF := fun b L H n op => match op with
 | .call ⟨.builtin .append, args, ts⟩ => match args.toList, ts.toList with
  | [x, y], [X, X'] => match evS L x, evS L y, lk b.t.und X, lk b.t.und X' with
   | some (.sl t), some (.v (.string s')), some (.slice A), some .string => match lk b.i.inf A, lookH H t with
    | some (sz, by', _), some (@Blk.row _ _ _ A' _ m kk) => bif Nat.beq A A' && Nat.beq sz 1 then
      some ([lookH H t = some (.row (Et.int .u8) A' xs m kk), s' = s, appHyp by' xs.length s.size = true],
       some (.sl n), repH H t n (.row (Et.int .u8) A' (xs ++ bytesZ s) (xs ++ bytesZ s).length .unk), n + 1) else none
    | _, _ => none
   | _, _, _, _ => none
  | _, _ => none
 | _ => none
theorem asF_ok {c : C4} {xs : List Int} {s : ByteArray} : EvOk c (asF xs s) := by
 intro b L H n op cs r H' n' hB h hc dst T pos af g hdr hd
 unfold asF at h
 split at h
 ·rename_i args tys; split at h
  ·rename_i x y X X' hargs htys; split at h
   ·rename_i t s' A hx hy hX hX'; split at h
    ·rename_i sz by' zi β j N2 A' xs2 m kk hinf hl
     cases hb : Nat.beq A A' && Nat.beq sz 1 with
     | false => rw [hb] at h; cases h
     | true =>
      rw [hb, cond_true] at h; cases h
      simp only [Bool.and_eq_true] at hb
      obtain ⟨b2, b3⟩ := hb
      have e2 := Nat.eq_of_beq_eq_true b2; subst e2
      have e3 := Nat.eq_of_beq_eq_true b3; subst e3
      obtain ⟨c1, c2⟩ := allP_cons hc
      obtain ⟨c2, c3⟩ := allP_cons c2
      have c3 : appHyp by' xs.length s.size = true := c3
      subst c2
      cases dst with
      | none => simp at hdr
      | some d =>
       refine ⟨rfl, OT.ofTX hd fun ρ F Fx o Lr hLr Q hk => ?_⟩
       obtain ⟨info, zv, vs, i1, i2, i3, i4, i5, i6, i7⟩ := hB.i.inf.mem _ (lk_mem hinf)
       obtain ⟨vx, e1, e2⟩ := evS_ok o.dens hx
       obtain ⟨vy, e3, e4⟩ := evS_ok o.dens hy
       rw [SV.den] at e3; cases e3
       obtain ⟨FA, f, FB, rfl, ⟨sp, cap, r1, r2, r3, r4⟩, hrep, _⟩ := o.reps.look c1
       rw [SV.den, r1] at e1; cases e1
       have ea : args = #[x, y] := by cases args; simpa using hargs
       have et : tys = #[X, X'] := by cases tys; simpa using htys
       subst ea; subst et
       have hFe : FA ++ f :: FB ++ Fx = FA ++ f :: (FB ++ Fx) := by simp
       rw [hFe]
       refine TX.appendStr (si := FA.length) (xs := xs) (E := []) (hB.t.und.mem _ (lk_mem hX)) (hB.t.und.mem _ (lk_mem hX')) i1 i2 (by rw [i5, List.size_toArray]; exact i7) i3 i4 (ev_ext hLr e2) r2 (ev_ext hLr e4) getS_app r3 c3 hd (fun sp' cap' Hs' S' hS ho => ?_)
       rw [setS_app] at hS; cases hS
       have hg : Env.grow n (n + 1) ρ (ρ.set n ⟨sp', cap', (xs ++ bytesZ s').length⟩) := Env.set_grow o.fr
       have := hk (ρ.set n ⟨sp', cap', (xs ++ bytesZ s').length⟩) (FA ++ Hs' :: FB) (.slice sp' (xs ++ bytesZ s').length cap') hg (by rw [Option.getD_some, SV.den, Env.set_self]; rfl)
        (hrep _ n _ Hs' (hg.toLe o.fr) ⟨sp', cap', Env.set_self, rfl, ho, trivial⟩)
       simpa [putS] using this
    ·cases h
   ·cases h
  ·cases h
 ·cases h
def Ev.az {c : C4} (xs : List Int) (s : ByteArray) : Ev c := .ot (asF xs s) asF_ok
end Go.HW
namespace Go.HW
open Go Go.RowKit
set_option linter.unusedVariables false
def udF (A : TypeId) (xs : List Int) : EvF := fun b L H n op => match op with
 | .call ⟨.builtin .unsafeSliceData, args, ts⟩ => match args.toList with
  | [x] => match evS L x with
   | some (.v (.slice none 0 0)) => some ([], some (.v (.pointer none)), H, n)
   | some (.sl u) => match lookH H u with
    | some (@Blk.row _ _ _ _ _ m kk) => some ([lookH H u = some (.row (Et.int .u8) A xs m kk), (!xs.isEmpty) = true], some (.e u 0 1 0), H, n)
    | _ => none
   | _ => none
  | _ => none
 | _ => none
theorem udF_ok {c : C4} {A : TypeId} {xs : List Int} : EvOk c (udF A xs) := by
 intro b L H n op cs r H' n' hB h hc dst T pos af g hdr hd
 unfold udF at h
 split at h
 ·rename_i args tys; split at h
  ·rename_i x hargs
   have ea : args = #[x] := by cases args; simpa using hargs
   subst ea
   split at h
   ·rename_i hx; cases h
    cases dst with
    | none => simp at hdr
    | some d =>
     refine ⟨rfl, OT.run fun ρ F Fx a w ho hs => ?_⟩
     obtain ⟨vx, e1, e2⟩ := evS_ok ho.dens hx
     rw [SV.den] at e1; cases e1
     refine ⟨ρ, F, w, .pointer none, ?_, ho.grow0, by rw [Option.getD_some, SV.den], fun h => by simp at h, ho.reps, hs⟩
     simp [execOp, resolve, invoke, builtin, hs.eval e2, Lib.run_unsafeSliceData_nil]
   ·rename_i u hx; split at h
    ·rename_i β j N2 A' xs2 m kk hl; cases h
     obtain ⟨c1, c2⟩ := allP_cons hc
     have c2 : (!xs.isEmpty) = true := c2
     cases dst with
     | none => simp at hdr
     | some d =>
      refine ⟨rfl, OT.run fun ρ F Fx a w ho hs => ?_⟩
      obtain ⟨vx, e1, e2⟩ := evS_ok ho.dens hx
      obtain ⟨FA, f, FB, hF, ⟨sp, cap, r1, r2, r3, r4⟩, hrep, _⟩ := ho.reps.look c1
      rw [SV.den, r1] at e1; cases e1
      rcases r3 with ⟨rfl, rfl, rfl, rfl⟩ | ⟨gg, cur, rfl, ⟨fz, hfz, rfl⟩, h1, h2, h3, h4⟩
      ·simp at c2
      have hne : xs.length ≠ 0 := fun h0 => by rw [List.eq_nil_of_length_eq_zero h0] at c2; simp at c2
      refine ⟨ρ, F, w, .pointer (some ⟨gg, 0, none⟩), ?_, ho.grow0, ?_, fun h => by simp at h, ho.reps, hs⟩
      ·simp [execOp, resolve, invoke, builtin, hs.eval e2, Lib.run_unsafeSliceData_row (w := w) _ _ _ _ _ (show cap ≠ 0 by omega)]
      ·rw [Option.getD_some, SV.den, r1]
       have : inb 0 m = true := by simp [inb]; omega
       simp [this, eAddr]
    ·cases h
   ·cases h
  ·cases h
 ·cases h
def Ev.ud {c : C4} (A : TypeId) (xs : List Int) : Ev c := .ot (udF A xs) udF_ok
theorem freeze_block {w : World} {g n : Nat} {cur : Array Value} {A : TypeId} {fz : Nat × Nat} (hg : w.heap[g]? = some (.cells cur A fz)) :
  ∃ fz', w.freeze ⟨g, 0, none⟩ n = World.withBlock w g (.cells cur A fz') := by
 unfold World.freeze
 by_cases h0 : n = 0
 ·refine ⟨fz, ?_⟩
  rw [if_pos h0]
  unfold World.withBlock
  obtain ⟨hlt, he⟩ := Array.getElem?_eq_some_iff.1 hg
  have : w.heap.setIfInBounds g (.cells cur A fz) = w.heap := by
   apply Array.ext_getElem?
   intro k
   rw [Array.getElem?_setIfInBounds]
   split
   ·rename_i h; subst h; simp only [hlt, if_true, hg]
   ·rfl
  rw [this]
 ·rw [if_neg h0]
  refine ⟨if fz.1 == fz.2 then (0, 0 + n) else (min fz.1 0, max fz.2 (0 + n)), ?_⟩
  unfold World.withBlock
  congr 1
  apply Array.ext_getElem?
  intro k
  rw [Array.getElem?_modify, Array.getElem?_setIfInBounds]
  split
  ·rename_i h; subst h
   obtain ⟨hlt, he⟩ := Array.getElem?_eq_some_iff.1 hg
   simp only [hlt, if_true, hg, Option.map_some]
  ·rfl
def usF (A pt : TypeId) (s : ByteArray) : EvF := fun b L H n op => match op with
 | .call ⟨.builtin .unsafeString, args, ts⟩ => match args.toList, ts.toList with
  | [x, y], [X, X'] => match evS L x, evS L y with
   | some (.v (.pointer none)), some (.v (.int .i64 k)) => some ([k = 0], some (.v (.string ⟨#[]⟩)), H, n)
   | some (.e u i sz off), some (.v (.int .i64 k)) => match lookH H u with
    | some (@Blk.row _ _ _ _ _ m kk) => bif Nat.beq X pt then
      some ([lookH H u = some (.row (Et.int .u8) A (bytesZ s) m kk), (i, sz, off) = (0, 1, 0), k = (m : Int), decide (0 < s.size) = true], some (.v (.string s)), delH H u, n) else none
    | _ => none
   | _, _ => none
  | _, _ => none
 | _ => none
theorem usF_ok {c : C4} {A pt : TypeId} {s : ByteArray} (hp : c.P.underlying pt = some (.pointer A)) (hcells : c.P.cellsOf A = 1) : EvOk c (usF A pt s) := by
 intro b L H n op cs r H' n' hB h hc dst T pos af g hdr hd
 unfold usF at h
 split at h
 ·rename_i args tys; split at h
  ·rename_i x y X X' hargs htys
   have ea : args = #[x, y] := by cases args; simpa using hargs
   have et : tys = #[X, X'] := by cases tys; simpa using htys
   subst ea; subst et
   split at h
   ·rename_i k hx hy; cases h
    have hk : k = 0 := (allP_cons hc).1
    subst hk
    cases dst with
    | none => simp at hdr
    | some d =>
     refine ⟨rfl, OT.run fun ρ F Fx a w ho hs => ?_⟩
     obtain ⟨vx, e1, e2⟩ := evS_ok ho.dens hx
     obtain ⟨vy, e3, e4⟩ := evS_ok ho.dens hy
     rw [SV.den] at e1 e3; cases e1; cases e3
     refine ⟨ρ, F, w, .string ⟨#[]⟩, ?_, ho.grow0, by rw [Option.getD_some, SV.den], fun h => by simp at h, ho.reps, hs⟩
     have hrun := Lib.run_unsafeString_none (P := c.P) w X X' T none
     simp [execOp, resolve, invoke, builtin, hs.eval e2, hs.eval e4, hrun]
     rfl
   ·rename_i u i sz off k hx hy; split at h
    ·rename_i β j N2 A' xs2 m kk hl
     cases hb : Nat.beq X pt with
     | false => rw [hb] at h; cases h
     | true =>
     rw [hb, cond_true] at h; cases h
     have := Nat.eq_of_beq_eq_true hb; subst this
     obtain ⟨c1, c2⟩ := allP_cons hc
     obtain ⟨c2, c3⟩ := allP_cons c2
     obtain ⟨c3, c4⟩ := allP_cons c3
     have c2 : (i, sz, off) = ((0 : Int), 1, 0) := c2
     have c4 : decide (0 < s.size) = true := c4
     have c4 : 0 < s.size := of_decide_eq_true c4
     cases c2
     subst c3
     cases dst with
     | none => simp at hdr
     | some d =>
      refine ⟨rfl, OT.run fun ρ F Fx a w ho hs => ?_⟩
      obtain ⟨vx, e1, e2⟩ := evS_ok ho.dens hx
      obtain ⟨vy, e3, e4⟩ := evS_ok ho.dens hy
      rw [SV.den] at e3; cases e3
      obtain ⟨FA, f, FB, rfl, ⟨sp, cap, r1, r2, r3, r4⟩, _, hdel⟩ := ho.reps.look c1
      have hm : m = s.size := by rw [← r2, bytesZ_len]
      have hpos : 0 < m := by omega
      have hin : inb 0 m = true := by simp [inb, hpos]
      rw [SV.den, r1] at e1
      simp only [Option.bind_some, hin, cond_true, Option.some.injEq] at e1
      subst e1
      rcases r3 with ⟨_, _, h0, _⟩ | ⟨gg, cur, rfl, ⟨fz, hfz, rfl⟩, h1, h2, h3, h4⟩
      ·have h9 : (bytesZ s).length = 0 := by rw [h0]; rfl
       rw [bytesZ_len] at h9; omega
      have hg : w.heap[gg]? = some (.cells cur A fz) := hs.heap (gg, .cells cur A fz) (by simp [Hp.all])
      obtain ⟨fz', hfr⟩ := freeze_block (n := s.size) hg
      have hle : s.size ≤ cap := by rw [bytesZ_len] at h1; exact h1
      have hl0 : s.data.toList ≠ [] := fun h0 => by
       have : s.size = 0 := by simpa using congrArg List.length h0
       omega
      have hsz : s.data.toList.length = s.size := by simp
      have h3' : cur.size = cap := by rw [h3]; exact Nat.mul_one _
      have h4' : cur.toList.take ((bytesZ s).length * 1) = (bytesZ s).flatMap (En.int .u8).enc := h4
      rw [bytesZ_enc, bytesZ_len, Nat.mul_one] at h4'
      have hrun := Lib.run_unsafeString_row (P := c.P) w X X' T A hp hcells gg cur.size (by simp [World.shape?, hg]) s.data.toList hl0 (by rw [hsz, h3']; exact hle) (by rw [hsz]; unfold maxLen at h2; omega) (fun j x hj => by
       have hlt : j < s.size := by rw [← hsz]; exact (List.getElem?_eq_some_iff.1 hj).1
       have h6 : (cur.toList.take s.size)[j]? = some (.int .u8 x.toNat) := by rw [h4']; simp [Lib.strCells, hj]
       rw [List.getElem?_take_of_lt hlt] at h6
       rw [add_none]; simp [World.cell?, hg]; simpa using h6)
      rw [hsz, hfr] at hrun
      refine ⟨ρ, FA ++ FB, World.withBlock w gg (.cells cur A fz'), .string s, ?_, ho.grow0, by rw [Option.getD_some, SV.den], fun h => by simp at h, hdel, ?_⟩
      ·have hea : eAddr (some ⟨gg, 0, none⟩) ((0 : Int).toNat * 1 + 0) = ⟨gg, 0, none⟩ := rfl
       rw [hea] at e2
       subst hm
       simp [execOp, resolve, invoke, builtin, hs.eval e2, hs.eval e4, hrun]
      ·refine (hs.setBlockG (H' := ⟨[], (FA ++ [(gg, .cells cur A fz')] :: FB) ++ Fx⟩) (o := .cells cur A fz) (A := FA.flatten) (B := FB.flatten ++ Fx.flatten) (by simp [Hp.all]) (by simp [Hp.all])).weak (fun _ _ h => h) ?_
       simp only [Hp.all, List.nil_append, List.flatten_append, List.flatten_cons, List.append_assoc]
       exact List.Sublist.append (List.Sublist.refl _) (List.sublist_append_right _ _)
    ·cases h
   ·cases h
  ·cases h
 ·cases h
def Ev.us {c : C4} (A pt : TypeId) (s : ByteArray) (hp : c.P.underlying pt = some (.pointer A)) (hcells : c.P.cellsOf A = 1) : Ev c := .ot (usF A pt s) (usF_ok hp hcells)
end Go.HW
namespace Go.HW
open Go Go.RowKit
set_option linter.unusedVariables false
def srF : EvF := fun b L H n op => match op with
 | .slice X x lo hi none => match evS L x, lk b.t.und X with
  | some (.sl t), some (.slice A) => match lookH H t, lk b.t.siz A with
   | some (@Blk.rd α i N xs), some sz => match bdS L lo ((0 : Nat) : Int), bdS L hi ((xs.length : Nat) : Int) with
    | some l, some h => bif Nat.beq sz N.sz then some ([sliceOk l h xs.length = true], some (.sl n), (n, @Blk.rd α i N (cutX xs l.toNat h.toNat)) :: H, n + 1) else none
    | _, _ => none
   | _, _ => none
  | _, _ => none
 | _ => none
theorem srF_ok {c : C4} : EvOk c srF := by
 intro b L H n op cs r H' n' hB h hc dst T pos af g hdr hd
 unfold srF at h
 split at h
 ·rename_i X x lo hi; split at h
  ·rename_i t A hx hX; split at h
   ·rename_i α i N xs sz hro hs; split at h
    ·rename_i l hh hl hhi
     cases hb : Nat.beq sz N.sz with
     | false => rw [hb] at h; cases h
     | true =>
      rw [hb, cond_true] at h; cases h
      have e1 := Nat.eq_of_beq_eq_true hb; subst e1
      have hc : sliceOk l hh xs.length = true := (allP_cons hc).1
      have hsl := sliceOk_iff.1 hc
      cases dst with
      | none => simp at hdr
      | some d =>
       refine ⟨rfl, OT.ofTX hd fun ρ F Fx o Lr hLr Q hk => ?_⟩
       obtain ⟨vx, e1, e2⟩ := evS_ok o.dens hx
       obtain ⟨FA, f, FB, rfl, ⟨sp, cap, r1, rfl, r3, r4⟩, hrep, _⟩ := o.reps.look hro
       rw [SV.den, r1] at e1; cases e1
       refine TX.slice (hB.t.und.mem _ (lk_mem hX)) (hB.t.siz.mem _ (lk_mem hs)) (ev_ext hLr e2) (bdS_ok o.dens hLr hl) (bdS_ok o.dens hLr hhi) (m := xs.length) r3 hc hd ?_
       have hlen : (cutX xs l.toNat hh.toNat).length = hh.toNat - l.toNat := cutX_length (by omega)
       have hg := Env.set_grow (ρ := ρ) (n := n) (l := ⟨subP sp N.sz cap l.toNat, cap - l.toNat, hh.toNat - l.toNat⟩) o.fr
       have hle := hg.toLe o.fr
       have hself : ρ.set n ⟨subP sp N.sz cap l.toNat, cap - l.toNat, hh.toNat - l.toNat⟩ n = some ⟨subP sp N.sz cap l.toNat, cap - l.toNat, hh.toNat - l.toNat⟩ := Env.set_self
       have := hk (ρ.set n ⟨subP sp N.sz cap l.toNat, cap - l.toNat, hh.toNat - l.toNat⟩) ([] :: (FA ++ [] :: FB)) (.slice (subP sp N.sz cap l.toNat) (hh.toNat - l.toNat) (cap - l.toNat)) hg (by rw [Option.getD_some, SV.den, hself]; rfl)
        ⟨[], _, rfl, ⟨_, _, by rw [hlen]; exact hself, rfl, by rw [hlen]; omega, RdF.sub r4 (by omega) (by omega)⟩, o.reps.mono hle⟩
       exact fun a w s => this a w (s.perm (by simp [Hp.all]))
    ·cases h
   ·cases h
  ·cases h
 ·cases h
def Ev.sr {c : C4} : Ev c := .ot srF srF_ok
theorem Imp.rdC {c : C4} (d : Nat) {t : Nat} {α : Type} [i : Inhabited α] {N : Et α} {xs : List α} {L : SL} {H : SH} {n : Nat} (h : lookV L d = some (.sl t)) (h2 : lookH H t = some (@Blk.rd α i N xs)) : Imp c ⟨L, H, n⟩ ⟨(d, .sl n) :: L, (n, @Blk.rd α i N xs) :: H, n + 1⟩ := by
 intro ρ F a w hs
 obtain ⟨v, e1, e2⟩ := hs.ok.dens.look h
 obtain ⟨FA, f, FB, rfl, ⟨sp, cap, r1, rfl, r3, r4⟩, hrep, _⟩ := hs.ok.reps.look h2
 rw [SV.den, r1] at e1; cases e1
 have hg := Env.set_grow (ρ := ρ) (n := n) (l := ⟨sp, cap, xs.length⟩) hs.ok.fr
 have hle := hg.toLe hs.ok.fr
 have hρ : ρ.set n ⟨sp, cap, xs.length⟩ n = some ⟨sp, cap, xs.length⟩ := Env.set_self
 have hd : (SV.sl n).den (ρ.set n ⟨sp, cap, xs.length⟩) = some (.slice sp xs.length cap) := by rw [SV.den, hρ]; rfl
 refine ⟨_, [] :: (FA ++ [] :: FB), ⟨⟨⟨⟨_, hd⟩, hs.ok.dens.mono hle⟩, ⟨[], _, rfl, ⟨sp, cap, hρ, rfl, r3, r4⟩, hs.ok.reps.mono hle⟩, hg.fr, fun t ht => ?_, Nat.le_succ_of_le hs.ok.mle⟩, ?_⟩⟩
 ·have := hs.ok.mle
  rw [hg.old t (by simp only at this; omega)]; exact hs.ok.pin t ht
 ·have s1 := hs.sat
  refine ⟨s1.size, s1.defers, fun t v hl => ?_, s1.ext, by simpa [Hp.all] using s1.nodup, fun p hp => s1.heap p (by simpa [Hp.all] using hp), fun p hp => by have := s1.own p (by simpa [Hp.all] using hp); simpa [Hp.all] using this⟩
  simp only [realL, realL_mono hle hs.ok.dens, hd, Option.getD_some, look] at hl
  cases hb : Nat.beq d t with
  | true =>
   rw [hb] at hl; cases hl
   have := Nat.eq_of_beq_eq_true hb; subst this
   exact s1.slots d _ e2
  | false => rw [hb] at hl; exact s1.slots t v hl
end Go.HW
namespace Go.HW
open Go Go.RowKit
set_option linter.unusedVariables false
def noDoor : List Item → Prop
 | .call _ _ _ _ :: _ => False
 | _ => True
theorem fw_fenced {P : Program} {ro : Option Nat} (m : Machine) : m.fenced P (FW ro) := by
 intro g _
 refine ⟨fun h => ?_, Or.inl trivial, fun _ _ => trivial, fun _ h => ?_⟩
 ·simp [FW] at h
 ·simp [FW] at h
theorem fw_room {ro : Option Nat} (n : Nat) : (FW ro).room n := fun _ h => by simp [FW] at h
def ArrT (ro : Option Nat) (P : Program) (m : Machine) (b : Frame) (k : List Item) (cs : List Frame) : Exit → Act → World → Prop
 | .panic chain, a, w => ∃ todo, noDoor todo ∧ StepsIn (Machine.fenced P (FW ro)) P m (lone { b.atR a todo with mode := .panicking chain } cs w)
 | e, a, w => ArrivesIn (Machine.fenced P (FW ro)) P m b k cs e a w
def isPan : Exit → Bool
 | .panic _ => true
 | _ => false
theorem ArrT.of {ro : Option Nat} {P : Program} {m : Machine} {b : Frame} {k : List Item} {cs : List Frame} {e : Exit} {a : Act} {w : World} (he : isPan e = false) (h : ArrivesIn (Machine.fenced P (FW ro)) P m b k cs e a w) : ArrT ro P m b k cs e a w := by
 cases e <;> first | exact h | cases he
theorem ArrT.back {ro : Option Nat} {P : Program} {m : Machine} {b : Frame} {k : List Item} {cs : List Frame} {e : Exit} {a : Act} {w : World} (h : ArrT ro P m b k cs e a w) : ArrivesIn (Machine.fenced P (FW ro)) P m b k cs e a w := by
 cases e <;> first | exact h | skip
 obtain ⟨t, _, h⟩ := h
 exact ⟨t, h⟩
theorem ArrT.of_steps {ro : Option Nat} {P : Program} {m m₁ : Machine} {b : Frame} {k : List Item} {cs : List Frame} {e : Exit} {a : Act} {w : World} (h : StepsIn (Machine.fenced P (FW ro)) P m m₁) (h' : ArrT ro P m₁ b k cs e a w) : ArrT ro P m b k cs e a w := by
 cases hp : isPan e with
 | false => exact ArrT.of hp (.of_steps h h'.back)
 | true =>
  cases e <;> first | cases hp | skip
  obtain ⟨t, h1, h2⟩ := h'
  exact ⟨t, h1, StepsIn.trans h h2⟩
def wpT (ro : Option Nat) (P : Program) (c : Code) (Q : Exit → Act → World → Prop) (a : Act) (w : World) : Prop :=
 ∀ (b : Frame) (k : List Item) (cs : List Frame), b.roundOf = ro → ∃ e a' w', Q e a' w' ∧ ArrT ro P (lone (b.atR a (.code c :: k)) cs w) b k cs e a' w'
section
variable {ro : Option Nat} {P : Program} {Q : Exit → Act → World → Prop} {a : Act} {w : World}
theorem wpT_of {c : Code} (h : c.wpIn (FW ro) 1 P (fun e a w => isPan e = false ∧ Q e a w) a w) : wpT ro P c Q a w := fun b k cs hb => by
 obtain ⟨e, a', w', ⟨q1, q2⟩, r⟩ := h b k cs hb trivial (fw_room _)
 exact ⟨e, a', w', q2, ArrT.of q1 r⟩
theorem wpT_seq {x y : Code} (h : x.wpIn (FW ro) 1 P (fun e a w => isPan e = false ∧ Exit.then (fun a w => wpT ro P y Q a w) Q e a w) a w) : wpT ro P (.seq x y) Q a w := by
 intro b k cs hb
 have h0 := @fw_fenced P ro (lone (b.atR a (.code (.seq x y) :: k)) cs w)
 obtain ⟨e, a₁, w₁, ⟨he, hq⟩, harr⟩ := h b (.code y :: k) cs hb trivial (fw_room _)
 cases e with
 | normal =>
  obtain ⟨e₂, a₂, w₂, hq₂, harr₂⟩ := hq b k cs hb
  exact ⟨e₂, a₂, w₂, hq₂, .of_steps (.head h0 stepR_seq harr) harr₂⟩
 | exit id => exact ⟨_, a₁, w₁, hq, .of rfl (.of_steps (.one h0 stepR_seq) (.pass (x := .code y) rfl (fun _ _ => .inl (by simp)) harr))⟩
 | goto l => exact ⟨_, a₁, w₁, hq, .of rfl (.of_steps (.one h0 stepR_seq) (.pass (x := .code y) rfl (fun _ _ => .inl (by simp)) harr))⟩
 | ret => exact ⟨_, a₁, w₁, hq, .of rfl (.of_steps (.one h0 stepR_seq) (.pass (x := .code y) rfl (fun _ _ => .inl (by simp)) harr))⟩
 | panic ch => cases he
 | outgrown => exact ⟨_, a₁, w₁, hq, .of rfl (.of_steps (.one h0 stepR_seq) (.pass (x := .code y) rfl (fun _ _ => .inl (by simp)) harr))⟩
theorem wpT_block {id : Nat} {c : Code} (h : wpT ro P c (fun e a w => (e = .normal ∨ isPan e = true) ∧ Q e a w) a w) : wpT ro P (.block id c) Q a w := by
 intro b k cs hb
 have h0 := @fw_fenced P ro (lone (b.atR a (.code (.block id c) :: k)) cs w)
 obtain ⟨e, a₁, w₁, ⟨he, hq⟩, harr⟩ := h b (.inBlock id :: k) cs hb
 cases e with
 | normal => exact ⟨.normal, a₁, w₁, hq, .of rfl (.head h0 stepR_block (StepsIn.trans harr (.one (fw_fenced _) stepR_inBlock)))⟩
 | panic ch =>
  obtain ⟨t, h1, h2⟩ := harr
  exact ⟨.panic ch, a₁, w₁, hq, t, h1, .head h0 stepR_block h2⟩
 | exit id => simp [isPan] at he
 | goto l => simp [isPan] at he
 | ret => simp [isPan] at he
 | outgrown => simp [isPan] at he
theorem wp_opsT {ops : Array Oper} (l : List Nat) : ∀ (a : Act) (w : World), wpOpsIn (FW ro) 1 P ops Q l a w → ∀ (b : Frame) (k : List Item) (cs : List Frame), b.roundOf = ro →
   ∃ e a' w', Q e a' w' ∧ ArrT ro P (lone (b.atR a (.inRegion ops l :: k)) cs w) b k cs e a' w' := by
 induction l with
 | nil => exact fun a w h b k cs _ => ⟨.normal, a, w, h, .one (fw_fenced _) stepR_region_end⟩
 | cons i rest ih =>
  intro a w h b k cs hb
  have h0 := @fw_fenced P ro (lone (b.atR a (.inRegion ops (i :: rest) :: k)) cs w)
  simp only [wpOpsIn] at h
  cases ho : ops[i]? with
  | none =>
   simp only [ho] at h
   obtain ⟨e, a', w', hq, harr⟩ := ih a w h b k cs hb
   have hs := stepR_op_skip (P := P) (b := b) (a := a) (k := k) (cs := cs) (w := w) (ops := ops) (i := i) (rest := rest) (by simp [ho])
   simp only [ho, Option.bind_none, Act.put] at hs
   exact ⟨e, a', w', hq, .of_steps (.one h0 hs) harr⟩
  | some o =>
   simp only [ho] at h
   by_cases hw : Region.wanted o (yielded ops a.tmps) = true
   ·simp only [hw, if_true, Oper.wpIn] at h
    obtain ⟨_, h⟩ := h
    simp only [Oper.uponIn] at h
    have hg := stepGR_op (P := P) (b := b) (k := k) (cs := cs) (w := w) (rest := rest) ho hw
    rw [show b.roundOf = (FW ro).round from hb] at hg
    have hfin : ∀ v, (b.atR a (.inRegion ops (i :: rest) :: k)).finish v = b.atR (a.put o.dst v) (.inRegion ops rest :: k) := by
     intro v; rw [Frame.finish_atR, ho]; rfl
    split at h
    ·rename_i v w' hr'
     obtain ⟨e, a', w'', hq, harr⟩ := ih _ _ h b k cs hb
     refine ⟨e, a', w'', hq, .of_steps (.one h0 (step_lone_go ?_)) harr⟩
     rw [hg, ← hfin]; simp [stepG.apply, hr']
    ·rename_i w' hr'
     obtain ⟨e, a', w'', hq, harr⟩ := ih _ _ h b k cs hb
     refine ⟨e, a', w'', hq, .of_steps (.one h0 (step_lone_go ?_)) harr⟩
     rw [hg, ← hfin]; simp [stepG.apply, hr']
    ·rename_i d w' hr'
     obtain ⟨e, a', w'', hq, harr⟩ := ih _ _ h b k cs hb
     refine ⟨e, a', w'', hq, .of_steps (.one h0 (step_lone_go ?_)) harr⟩
     have : ({ b.atR a (.inRegion ops (i :: rest) :: k) with defers := d :: a.defers } : Frame).finish undef =
       b.atR ({ a with defers := d :: a.defers }.put o.dst undef) (.inRegion ops rest :: k) := by
      have := Frame.finish_atR b { a with defers := d :: a.defers } ops i rest k undef
      rw [ho] at this; exact this
     rw [hg]; simp only [stepG.apply, Sem.runT_eq, hr', GStep.bare_after]
     exact congrArg (fun fr => GStep.go { frame := fr, callers := cs, status := .running, dying := none } w') this
    ·rename_i f args w' hr'
     obtain ⟨hn, _, h⟩ := h
     obtain ⟨e, w'', fr, hR, hsteps, _, hleave⟩ := h (b.atR a (.inRegion ops (i :: rest) :: k) :: cs) (fw_room _)
     have henter : step P (lone (b.atR a (.inRegion ops (i :: rest) :: k)) cs w) =
       .next (lone (Frame.enter P f args .normal) (b.atR a (.inRegion ops (i :: rest) :: k) :: cs) w') :=
      step_lone_go (by rw [hg]; simp [stepG.apply, hr', Frame.atR])
     cases e with
     | returned v =>
      obtain ⟨e, a', w₃, hq, harr⟩ := ih _ _ hR b k cs hb
      refine ⟨e, a', w₃, hq, .of_steps (.head h0 henter (StepsIn.trans hsteps (.one (fw_fenced _) ?_))) harr⟩
      rw [← hfin]; exact step_leave_returned hleave
     | panicked chain =>
      refine ⟨.panic chain, a, w'', hR, .inRegion ops (i :: rest) :: k, trivial, .head h0 henter (StepsIn.trans hsteps (.one (fw_fenced _) ?_))⟩
      rw [← Frame.raise_atR]; exact step_leave_panicked hleave
     | outgrown =>
      obtain ⟨a₀, w₀, hq⟩ := hR
      exact ⟨.outgrown, a₀, w₀, hq, .inr (Outgrown.of_steps (.one henter) hsteps)⟩
    ·rename_i row args w' hr'
     obtain ⟨hn, h⟩ := h
     obtain ⟨v, w'', hR, hsteps⟩ := h (b.atR a (.inRegion ops (i :: rest) :: k)) cs (fw_room _)
     have henter : step P (lone (b.atR a (.inRegion ops (i :: rest) :: k)) cs w) =
       .next (lone (Frame.ofRow P row args .normal) (b.atR a (.inRegion ops (i :: rest) :: k) :: cs) w') :=
      step_lone_go (by rw [hg]; simp [stepG.apply, hr', Frame.atR])
     obtain ⟨e, a', w₃, hq, harr⟩ := ih _ _ hR b k cs hb
     refine ⟨e, a', w₃, hq, .of_steps (.head h0 henter ?_) harr⟩
     rw [← hfin]; exact hsteps
    ·rename_i l f tmps assign body w' hr'
     obtain ⟨hn, _, h⟩ := h
     obtain ⟨e, w'', hR, hsteps⟩ := h (b.atR a (.inRegion ops (i :: rest) :: k)) cs (fw_room _)
     have henter : step P (lone (b.atR a (.inRegion ops (i :: rest) :: k)) cs w) =
       .next (lone (Frame.round l f tmps assign body .normal) (b.atR a (.inRegion ops (i :: rest) :: k) :: cs) w') :=
      step_lone_go (by rw [hg]; simp [stepG.apply, hr', Frame.atR])
     cases e with
     | returned v =>
      obtain ⟨e, a', w₃, hq, harr⟩ := ih _ _ hR b k cs hb
      refine ⟨e, a', w₃, hq, .of_steps (.head h0 henter ?_) harr⟩
      rw [← hfin]; exact hsteps
     | panicked chain =>
      refine ⟨.panic chain, a, w'', hR, .inRegion ops (i :: rest) :: k, trivial, .head h0 henter ?_⟩
      rw [← Frame.raise_atR]; exact hsteps
     | outgrown =>
      obtain ⟨a₀, w₀, hq⟩ := hR
      exact ⟨.outgrown, a₀, w₀, hq, .inr (Outgrown.of_steps (.one henter) hsteps)⟩
    ·rename_i v w' hr'
     refine ⟨_, a, w', h, .inRegion ops (i :: rest) :: k, trivial, .one h0 (step_lone_go ?_)⟩
     rw [hg, ← Frame.raise_atR]; simp [stepG.apply, hr']
    ·exact h.elim
   ·simp only [hw, if_false, Bool.false_eq_true] at h
    obtain ⟨_, h⟩ := h
    obtain ⟨e, a', w', hq, harr⟩ := ih _ _ h b k cs hb
    have hs := stepR_op_skip (P := P) (b := b) (a := a) (k := k) (cs := cs) (w := w) (ops := ops) (i := i) (rest := rest)
     (by simp [ho]; simpa using hw)
    simp only [ho, Option.bind_some] at hs
    exact ⟨e, a', w', hq, .of_steps (.one h0 hs) harr⟩
theorem wpT_any {id : Nat} {ops : Array Oper} (hm : P.follows .mixedOrders = true) (h : wpAnyIn (FW ro) 1 P .any ops Q ops.size (Array.replicate ops.size false) a { w with drawn := w.drawn + 1 }) : wpT ro P (.region id ops true) Q a w := fun b k cs hb => by
 have hall : ∀ t, wpOpsIn (FW ro) 1 P ops Q (Region.schedule (P.follows .mixedOrders) ops t) a { w with drawn := w.drawn + 1 } := fun t => by
  simp only [Region.schedule, hm, Bool.true_or, if_true]
  exact wpAnyIn_sound ops.size _ _ a _ h
 obtain ⟨e, a', w', q, r⟩ := wp_opsT _ a _ (hall _) b k cs hb
 exact ⟨e, a', w', q, .of_steps (.one (fw_fenced _) stepR_region_draw) r⟩
theorem step_leave_pan {fr c : Frame} {cs : List Frame} {w : World} {chain : List PanicEntry} (hm : fr.mode = .panicking chain) (hd : fr.defers = []) (ht : noDoor fr.todo) : step P (lone fr (c :: cs) w) = .next (lone (c.raise chain) cs w) := by
 have hc : fr.catches P = false := by
  unfold Frame.catches
  split
  ·rename_i h1 h2; rw [h2] at ht; exact ht.elim
  ·rfl
 exact step_lone_go (by simp [stepG, unwind, hm, hd, hc])
def roundPostP (P : Program) (l : Nat) (R : Ending → World → Prop) : Exit → Act → World → Prop
 | .panic ch, a, w => a.defers = [] ∧ R (.panicked ch) w
 | e, a, w => roundPost P l R e a w
theorem roundIn_T {l : Nat} {f : FuncId} {tmps : Array Value} {assign body : Code} {R : Ending → World → Prop}
  (h : assign.wpIn (FW (some l)) 1 P (Exit.then (fun a₁ w₁ => ∃ w₂, (Instr.beginRound l).run P w₁ = .ok () w₂ ∧ wpT (some l) P body (roundPostP P l R) a₁ w₂) (fun _ _ _ => False)) { tmps := tmps, defers := [] } w) :
  RoundIn (FW none) 1 P l f tmps assign body w R := by
 refine ⟨trivial, fun c cs hr => ?_⟩
 let b : Frame := { (default : Frame) with fn := f, kind := .normal, roundOf := some l }
 have hb0 : Frame.round l f tmps assign body .normal = b.atR { tmps := tmps, defers := [] } [.code assign, .beginRound, .code body] := by
  simp [Frame.round, Frame.atR, b]
 obtain ⟨e, a₁, w₁, hq, harr⟩ := h b [.beginRound, .code body] (c :: cs) rfl trivial (fw_room _)
 rw [← hb0] at harr
 cases e with
 | normal =>
  obtain ⟨w₂, hbr, hbody⟩ := hq
  have s1 : StepsIn (Machine.fenced P (FW none)) P (lone (b.atR a₁ [.beginRound, .code body]) (c :: cs) w₁) (lone (b.atR a₁ [.code body]) (c :: cs) w₂) :=
   .one (fw_fenced _) (stepR_beginRound rfl hbr)
  have s0 : StepsIn (Machine.fenced P (FW none)) P (lone (Frame.round l f tmps assign body .normal) (c :: cs) w) (lone (b.atR a₁ [.code body]) (c :: cs) w₂) := StepsIn.trans harr s1
  obtain ⟨e₂, a₂, w₃, hq₂, harr₂⟩ := hbody b [] (c :: cs) rfl
  cases e₂ with
  | normal =>
   obtain ⟨v, w₄, hend, hR⟩ := hq₂
   exact ⟨.returned v, w₄, hR, s0.trans (StepsIn.trans harr₂ (.one (fw_fenced _) (stepR_round_end rfl rfl hend)))⟩
  | ret =>
   obtain ⟨v, w₄, hend, hR⟩ := hq₂
   obtain ⟨k₁, hs⟩ := harr₂.2 rfl
   exact ⟨.returned v, w₄, hR, s0.trans (StepsIn.trans hs (.one (fw_fenced _) (stepR_round_ret rfl rfl hend)))⟩
  | exit id =>
   obtain ⟨v, w₄, hend, hR⟩ := hq₂
   obtain ⟨k₁, hk, hs⟩ := harr₂.2 rfl rfl
   exact ⟨.returned v, w₄, hR, s0.trans (StepsIn.trans hs (.one (fw_fenced _) (stepR_round_exit rfl rfl hk hend)))⟩
  | goto t =>
   obtain ⟨v, w₄, hend, hR⟩ := hq₂
   obtain ⟨k₁, hk, hs⟩ := harr₂.2 rfl rfl
   exact ⟨.returned v, w₄, hR, s0.trans (StepsIn.trans hs (.one (fw_fenced _) (stepR_round_goto rfl rfl hk hend)))⟩
  | panic chain =>
   obtain ⟨hd, hR⟩ := hq₂
   obtain ⟨t, ht, hs⟩ := harr₂
   exact ⟨.panicked chain, w₃, hR, s0.trans (StepsIn.trans hs (.one (fw_fenced _) (step_leave_pan (by rfl) (by simpa [Frame.atR] using hd) (by simpa [Frame.atR] using ht))))⟩
  | outgrown => exact hq₂.elim
 | exit id => exact hq.elim
 | goto t => exact hq.elim
 | ret => exact hq.elim
 | panic chain => exact hq.elim
 | outgrown => exact hq.elim
end
end Go.HW
namespace Go.HW
open Go Go.RowKit
set_option linter.unusedVariables false
def upI (ids : List Nat) (l : List Oper) : Nat → (Nat → Bool) → Bool
 | 0, _ => true
 | i + 1, A => bif memN ids i then upI ids l i A else (A i && (match l[i]? with | some o => upI ids l i (fun t => A t || bindsOn o t) | none => false))
theorem upI_ok {ids : List Nat} {l : List Oper} {S : Nat → Bool} (hS : ∀ (j : Nat) (o : Oper) (i : Nat), S j = true → l[j]? = some o → bindsOn o i = true → S i = true) : ∀ {i : Nat} {A : Nat → Bool}, upI ids l i A = true → (∀ t, A t = true → S t = true) → ∀ t, t < i → memN ids t = false → S t = true
 | 0, A, _, _, t, ht, _ => by omega
 | i + 1, A, h, hA, t, ht, hn => by
  simp only [upI] at h
  rcases Nat.lt_or_ge t i with h3 | h3
  ·cases hm : memN ids i with
   | true => rw [hm, cond_true] at h; exact upI_ok hS h hA t h3 hn
   | false =>
    rw [hm, cond_false, Bool.and_eq_true] at h
    obtain ⟨h1, h2⟩ := h
    split at h2
    ·rename_i o ho
     refine upI_ok hS h2 (fun u hu => ?_) t h3 hn
     simp only [Bool.or_eq_true] at hu
     rcases hu with hu | hu
     ·exact hA u hu
     ·exact hS i o u (hA i h1) ho hu
    ·cases h2
  ·have : t = i := by omega
   subst this
   rw [hn, cond_false, Bool.and_eq_true] at h
   exact hA t h.1
def idleX (ids kp : List Nat) : List DEx → Nat → Bool
 | [], _ => true
 | x :: X, k => (bif memN ids k then (match x.e.md with | [] => (match x.e.dst with | some d => !(memN kp d) | none => true) | _ => false) else true) && idleX ids kp X (k + 1)
theorem idleX_ok {ids kp : List Nat} : ∀ {X : List DEx} {k j : Nat} {x : DEx}, idleX ids kp X k = true → X[j]? = some x → memN ids (k + j) = true → x.e.md = [] ∧ ∀ d, x.e.dst = some d → memN kp d = false
 | [], k, j, x, _, hx, _ => by simp at hx
 | y :: X, k, 0, x, h, hx, hm => by
  simp only [List.getElem?_cons_zero, Option.some.injEq] at hx
  subst hx
  simp only [idleX, Bool.and_eq_true] at h
  rw [Nat.add_zero] at hm
  rw [hm, cond_true] at h
  obtain ⟨h, _⟩ := h
  split at h
  ·rename_i he
   refine ⟨he, fun d hd => ?_⟩
   rw [hd] at h
   simpa using h
  ·cases h
 | y :: X, k, j + 1, x, h, hx, hm => by
  simp only [idleX, Bool.and_eq_true] at h
  exact idleX_ok (k := k + 1) (j := j) h.2 (by simpa using hx) (by rwa [show k + 1 + j = k + (j + 1) from by omega])
theorem finL_mem2 {kp : List Nat} {L : SL} : ∀ {X : List DEx} {p : Nat × SV}, p ∈ finL kp X L → p ∈ L ∨ ∃ (j : Nat) (x : DEx), X[j]? = some x ∧ x.e.dst = some p.1 ∧ x.e.π = [] ∧ x.e.r = p.2 ∧ memN kp p.1 = true
 | [], p, h => .inl h
 | x :: X, p, h => by
  have rest : p ∈ finL kp X L → p ∈ L ∨ ∃ (j : Nat) (y : DEx), (x :: X)[j]? = some y ∧ y.e.dst = some p.1 ∧ y.e.π = [] ∧ y.e.r = p.2 ∧ memN kp p.1 = true := fun h => by
   rcases finL_mem2 h with h | ⟨j, y, h1, h2⟩
   ·exact .inl h
   ·exact .inr ⟨j + 1, y, by simpa using h1, h2⟩
  simp only [finL, fS_eq] at h
  split at h
  ·rename_i d hd hπ
   cases hk : memN kp d with
   | false => rw [hk, cond_false] at h; exact rest h
   | true =>
    rw [hk, cond_true] at h
    rcases List.mem_cons.1 h with rfl | h
    ·exact .inr ⟨0, x, rfl, hd, hπ, rfl, hk⟩
    ·exact rest h
  ·exact rest h
def drawI {c : C4} (ids : List Nat) (b : TB) (kp : List Nat) (N : Nat) (l : List Oper) (L : SL) (H : SH) (n : Nat) (ts : List (List Nat × List Nat)) (es : List (Ev c)) : Option (List Prop × St) :=
 partL l [] L fun Ld Lc => bif backB l 0 && ltL n L && ltH n H && ndK (tagsH H) then (match dplan b l (clos l []) Lc Ld l 0 [] H n es ts with
  | some (cs, X, H', n') => bif chainN X n n' && entsOk N Lc X (clsX X) l X 0 && ltH n' H' && ndK (tagsH H') && idleX ids kp X 0 then (fLs (finL kp X Lc) fun L' => some (cs, ⟨L', H', n'⟩)) else none
  | none => none) else none
section
variable {c : C4} {QX : Exit → Act → World → Prop}
theorem DRX0 {b : TB} (hB : TBOk c.P b) (hmx : c.P.follows .mixedOrders = true) (ids : List Nat) {ops : Array Oper} {L : SL} {H : SH} {n : Nat} {s' : St} (kp : List Nat) (ts : List (List Nat × List Nat)) (es : List (Ev c)) {cs : List Prop} (hc : allP cs)
  {l1 l2 : List Oper} {o : Oper} (hl : ops.toList = l1 ++ o :: l2) (hup : upI ids l1 l1.length (fun t => bindsOn o t) = true) (hdn : l2.all (dnB l1.length) = true) (hgd : l1.all (fun x => gdB x l1.length) = true) (hback : backB (l1 ++ o :: l2) 0 = true)
  (h : drawI ids b kp c.n l1 L H n ts es = some (cs, s')) (hog : o.guard = none) (hon : notDefer o.op = true) {ch : List PanicEntry} {H2 : SH} {n2 : Nat} (hox : OX c o s' (.panic ch) H2 n2)
  (g : ∀ ρ F a w, Sat4 c ρ F ⟨s'.L, H2, n2⟩ a w → QX (.panic ch) a w) {ρ : Env} {F : List Blocks} {a : Act} {w : World} (hs : Sat4 c ρ F ⟨L, H, n⟩ a w) :
  wpAnyIn (FW c.ro) 1 c.P .any ops QX ops.size (Array.replicate ops.size false) a { w with drawn := w.drawn + 1 } := by
 obtain ⟨l0⟩ := ops
 simp only at hl
 subst hl
 unfold drawI at h
 obtain ⟨Ld, Lc, hk, hmem0⟩ := partL_ok h
 have hmem : ∀ p, p ∈ Ld ∨ p ∈ Lc → lookV L p.1 = some p.2 := fun p hp => (hmem0 p hp).2
 cases hb1 : backB l1 0 && ltL n L && ltH n H && ndK (tagsH H) with
 | false => rw [hb1] at hk; cases hk
 | true =>
  rw [hb1, cond_true] at hk
  simp only [Bool.and_eq_true] at hb1
  obtain ⟨⟨⟨h1, h2⟩, h3⟩, h4⟩ := hb1
  split at hk
  ·rename_i cs1 X H' n' hpl
   cases hb2 : chainN X n n' && entsOk c.n Lc X (clsX X) l1 X 0 && ltH n' H' && ndK (tagsH H') && idleX ids kp X 0 with
   | false => rw [hb2] at hk; cases hk
   | true =>
    rw [hb2, cond_true, fLs_eq] at hk; cases hk
    simp only [Bool.and_eq_true] at hb2
    obtain ⟨⟨⟨⟨h5, h6⟩, h7⟩, h8⟩, h9⟩ := hb2
    rw [tagsH_eq] at h4 h8
    have hnd := ndK_ok h4
    have hnd' := ndK_ok h8
    obtain ⟨A, hver⟩ := DAll.of hB hmem h1 h2 h3 hs.ok.mle hpl hc h5 h6
    obtain ⟨c1, c2, c3⟩ := chainN_ok h5
    have hlen : X.length = l1.length := by simpa using A.len
    -- at the start
    obtain ⟨φ, f1, f2⟩ := Reps.foot hs.ok.reps hnd
    have hk0 : ∀ t ∈ H.map (·.1), t < n' := fun t ht => by
     obtain ⟨p, hp, rfl⟩ := List.mem_map.1 ht
     have := (ltH_mem h3 p hp).1; omega
    have I0 : DInv c ⟨l1, X.map (·.e), H, Lc, Ld, n, n'⟩ (fun _ => false) a { w with drawn := w.drawn + 1 } ρ (fun t => if memN (H.map (·.1)) t then φ t else []) := by
     have hslot : ∀ p, p ∈ Ld ∨ p ∈ Lc → p.2.den ρ = some (a.tmps.getD p.1 undef) := fun p hp => by
      obtain ⟨v, e1, e2⟩ := hs.ok.dens.look (hmem p hp)
      rw [e1, hs.sat.slots p.1 v e2]
     refine ⟨fun p hp => hslot p (.inr hp), fun p hp => ⟨⟨_, hslot p (.inl hp)⟩, fun _ => hslot p (.inl hp)⟩, fun j e d _ hj => (by cases hj), fun t ht => hs.ok.fr t (by simp only at ht ⊢; omega), fun j e he _ t ht1 ht2 => ?_, hs.ok.pin, fun t => ?_, ?_⟩
     ·obtain ⟨x, hx, rfl⟩ := getE' he
      have := (c1 j x hx).1
      exact hs.ok.fr t (by simp only at ht1 ⊢; omega)
     ·rw [verL_none]
      show HB c ρ t _ (lookH H t)
      cases hm : memN (H.map (·.1)) t with
      | true =>
       obtain ⟨b', hb'⟩ := lookH_some (memN_iff.1 hm)
       rw [hb']; exact f2 t b' hb'
      | false =>
       rw [lookH_none (fun h => by rw [memN_iff.2 h] at hm; cases hm)]
       rfl
     ·have s1 : Sat c [] ⟨[], F⟩ a { w with drawn := w.drawn + 1 } := ⟨hs.sat.size, hs.sat.defers, fun t v h => by simp [look] at h, ⟨hs.sat.ext.os, hs.sat.ext.tape, hs.sat.ext.output, hs.sat.ext.size, hs.sat.ext.same⟩, hs.sat.nodup, hs.sat.heap, hs.sat.own⟩
      refine s1.perm ?_
      simp only [Hp.all, List.nil_append]
      refine (foot_split hnd hk0).trans ?_
      have e1 : ((H.map (·.1)).map fun t => if memN (H.map (·.1)) t = true then φ t else []) = F := by
       rw [f1]; apply List.map_congr_left; intro t ht; rw [memN_iff.2 ht]; rfl
      have e2 : (fun t => if memN (H.map (·.1)) t = true then [] else (if memN (H.map (·.1)) t = true then φ t else [])) = fun _ : Nat => ([] : Blocks) := by
       funext t; cases memN (H.map (·.1)) t <;> rfl
      rw [e1, e2]
      have e3 : ∀ l : List Nat, (l.map fun _ : Nat => ([] : Blocks)).flatten = [] := fun l => by induction l with
       | nil => rfl
       | cons x l ih => simp [ih]
      rw [e3]; simp
    have hb0 : backB (l1 ++ o :: l2) 0 = true := hback
    refine draw_gen (c := c.toCx) (fun S a w => (∃ ρ Φ, DInv c ⟨l1, X.map (·.e), H, Lc, Ld, n, n'⟩ S a w ρ Φ) ∧ ∀ k, l1.length ≤ k → S k = false) hb0 ?_ ?_ ?_ _ _ a { w with drawn := w.drawn + 1 } (by simp) ⟨⟨ρ, (fun t => if memN (H.map (·.1)) t then φ t else []), ?_⟩, ?_⟩ ?_ ?_
    ·rintro S k o' a w ho hk hcl hp ⟨hI, hJ⟩ K' hK'
     rcases Nat.lt_trichotomy k l1.length with hlt | heq | hgt
     ·have ho1 : l1[k]? = some o' := by rw [List.getElem?_append_left hlt] at ho; exact ho
      have hkl : k < X.length := by rw [hlen]; exact hlt
      have hcl1 : Closed (c := c) ⟨l1, X.map (·.e), H, Lc, Ld, n, n'⟩ S := fun j o2 i hj ho2 hbd => hcl j o2 i hj (by rw [List.getElem?_append_left (List.getElem?_eq_some_iff.1 ho2).1]; exact ho2) hbd
      have st := DInv.step (D := ⟨l1, X.map (·.e), H, Lc, Ld, n, n'⟩) A hcl1 ho1 (getE (List.getElem?_eq_getElem hkl)) hk hp hI (Q := QX) (K := K') (fun a' w' h' => hK' a' w' ⟨h', fun k' hk' => by
       unfold addB
       rw [if_neg (by omega)]; exact hJ k' hk'⟩)
      have hw : Region.wanted o' (yielded (l1 ++ o :: l2).toArray a.tmps) = Region.wanted o' (yielded l1.toArray a.tmps) := by
       have hg1 := List.all_eq_true.1 hgd o' (List.mem_of_getElem? ho1)
       unfold gdB at hg1
       unfold Region.wanted
       split
       ·rfl
       ·rename_i j want hgu
        rw [hgu] at hg1
        have hj : j < l1.length := by simpa [Nat.blt_eq] using hg1
        unfold yielded
        simp [List.getElem?_append_left hj]
      rw [hw]; exact st
     ·subst heq
      have hoo : o' = o := by simpa using ho.symm
      subst hoo
      have hwt : Region.wanted o' (yielded (l1 ++ o' :: l2).toArray a.tmps) = true := by simp [Region.wanted, hog]
      refine ⟨fun _ => ?_, fun h0 => by rw [hwt] at h0; cases h0⟩
      have hS : ∀ k, k < l1.length → memN ids k = false → S k = true := upI_ok (l := l1) (S := S) (fun j o2 i hj ho2 hbd => hcl j o2 i hj (by rw [List.getElem?_append_left (List.getElem?_eq_some_iff.1 ho2).1]; exact ho2) hbd) hup hp
      obtain ⟨ρ', Φ, I⟩ := hI
      have hvr : ∀ t, verL S t (X.map (·.e)) 0 (lookH H t) = lookH H' t := fun t => by
       rw [← hver t]
       refine verL_congr fun j e' he' hte => ?_
       obtain ⟨x, hx, rfl⟩ := getE' he'
       have hj : j < l1.length := by rw [← hlen]; exact (List.getElem?_eq_some_iff.1 hx).1
       rw [Nat.zero_add]
       cases hm : memN ids j with
       | true =>
        have := (idleX_ok (k := 0) (j := j) h9 hx (by rw [Nat.zero_add]; exact hm)).1
        rw [this] at hte; cases hte
       | false => rw [hS j hj hm]; simp [hj]
      have hfs : ∀ p ∈ finL kp X Lc, p.2.den ρ' = some (a.tmps.getD p.1 undef) := by
       intro p hp
       rcases finL_mem2 hp with h | ⟨j, x, q1, q2, q3, q4, q5⟩
       ·exact I.sc p h
       ·have hj : j < l1.length := by rw [← hlen]; exact (List.getElem?_eq_some_iff.1 q1).1
        have hm : memN ids j = false := by
         cases hm : memN ids j with
         | false => rfl
         | true =>
          have := (idleX_ok (k := 0) (j := j) h9 q1 (by rw [Nat.zero_add]; exact hm)).2 _ q2
          rw [q5] at this; cases this
        have := (I.se j x.e p.1 (getE q1) (hS j hj hm) q2).1 (by rw [q3]; exact fun y hy => by cases hy)
        rw [q4] at this; exact this
      have hk1 : ∀ t ∈ H'.map (·.1), t < n' := fun t ht => by
       obtain ⟨p, hp, rfl⟩ := List.mem_map.1 ht
       exact (ltH_mem h7 p hp).1
      have hs4 : Sat4 c ρ' ((H'.map (·.1)).map Φ) ⟨finL kp X Lc, H', n'⟩ a w := by
       refine ⟨⟨DensL.ofAll fun p hp => ⟨_, hfs p hp⟩, Reps.ofFoot hnd' fun t b' hb' => ?_, I.efr, I.epin, Nat.le_trans hs.ok.mle c3⟩, ?_⟩
       ·have := I.hb t
        rw [hvr t, hb'] at this; exact this
       ·have s1 : Sat c [] ⟨[], (H'.map (·.1)).map Φ⟩ a w := by
         refine I.sat.perm ?_
         simp only [Hp.all, List.nil_append]
         refine List.Perm.trans ?_ (foot_split (Φ := Φ) hnd' hk1).symm
         have e2 : (fun t => if memN (H'.map (·.1)) t = true then [] else Φ t) = fun _ : Nat => ([] : Blocks) := by
          funext t
          cases hm : memN (H'.map (·.1)) t with
          | true => rfl
          | false =>
           have h1 := I.hb t
           rw [hvr t, lookH_none (fun h => by rw [memN_iff.2 h] at hm; cases hm)] at h1
           exact h1
         rw [e2]
         have e3 : ∀ l : List Nat, (l.map fun _ : Nat => ([] : Blocks)).flatten = [] := fun l => by induction l with
          | nil => rfl
          | cons x l ih => simp [ih]
         rw [e3]; simp
        exact ⟨s1.size, s1.defers, realL_all hfs, s1.ext, s1.nodup, s1.heap, s1.own⟩
      refine wpIn_of hon (hox ρ' _ [] a w hs4.ok (by simpa using hs4.sat) _ _ ?_)
      intro ρ2 F2 w2 hg hR hSat
      refine g ρ2 F2 a w2 (⟨⟨hs4.ok.dens.mono (hg.toLe hs4.ok.fr), hR, hg.fr, fun t ht => ?_, Nat.le_trans hs4.ok.mle hg.le⟩, ?_⟩)
      ·rw [hg.old t (Nat.lt_of_lt_of_le ht hs4.ok.mle)]; exact hs4.ok.pin t ht
      ·have hS' : Sat c.toCx (realL ρ' (finL kp X Lc)) ⟨[], F2⟩ a w2 := by simpa using hSat
       show Sat c.toCx (realL ρ2 (finL kp X Lc)) ⟨[], F2⟩ a w2
       rw [realL_mono (hg.toLe hs4.ok.fr) hs4.ok.dens]; exact hS'
     ·exfalso
      have ho2 : l2[k - (l1.length + 1)]? = some o' := by
       rw [List.getElem?_append_right (by omega)] at ho
       rw [show k - l1.length = (k - (l1.length + 1)) + 1 from by omega] at ho
       simpa using ho
      have := List.all_eq_true.1 hdn o' (List.mem_of_getElem? ho2)
      unfold dnB at this
      obtain ⟨e, he, hb⟩ := List.any_eq_true.1 this
      simp only [Bool.and_eq_true] at hb
      have hSe := hp e.on (bindsOn_iff.2 ⟨e, by simpa using he, hb.1, rfl⟩)
      rw [hJ e.on (Nat.le_of_ble_eq_true hb.2)] at hSe; cases hSe
    ·intro S S' a w hSS hI
     rw [show S' = S from (funext hSS).symm]; exact hI
    ·rintro S a w hS ⟨_, hJ⟩
     have := hS l1.length (by simp)
     rw [hJ _ (Nat.le_refl _)] at this; cases this
    ·rw [show (fun k => (Array.replicate (l1 ++ o :: l2).toArray.size false).getD k false) = fun _ => false from by funext k; simp [Array.getD]]
     exact I0
    ·intro k hk; simp [Array.getD]
    ·intro k o i hl; simp [Array.getD] at hl
    ·exact Nat.le_trans (List.length_filter_le _ _) (by simp)
  ·cases hk
end
end Go.HW
namespace Go.HW
open Go Go.RowKit
set_option linter.unusedVariables false
section
variable {c : C4} {Q : Exit → Act → World → Prop}
def GT (c : C4) (Q : Exit → Act → World → Prop) (x : Code) (s : St) : Prop := ∀ ρ F a w, Sat4 c ρ F s a w → wpT c.ro c.P x Q a w
theorem GTB {id : Nat} {x : Code} {s : St} (h : ∀ Q', (∀ s', G4 c Q (.exit .normal []) s' → G4 c Q' (.exit .normal []) s') → (∀ ch s', G4 c Q (.exit (.panic ch) []) s' → G4 c Q' (.exit (.panic ch) []) s') → GT c Q' x s) : GT c Q (.block id x) s := fun ρ F a w hs =>
 wpT_block (h (fun e a w => (e = .normal ∨ isPan e = true) ∧ Q e a w) (fun s' h ρ F a w hs => ⟨.inl rfl, h ρ F a w hs⟩) (fun ch s' h ρ F a w hs => ⟨.inr rfl, h ρ F a w hs⟩) ρ F a w hs)
theorem GTS {x y : Code} {s : St} (h : ∀ Q', (∀ s', GT c Q y s' → G4 c Q' (.exit .normal []) s') → G4 c Q' (.code x []) s) : GT c Q (.seq x y) s := fun ρ F a w hs =>
 wpT_seq (h (fun e a w => isPan e = false ∧ Exit.then (fun a w => wpT c.ro c.P y Q a w) Q e a w) (fun s' h ρ F a w hs => ⟨rfl, h ρ F a w hs⟩) ρ F a w hs)
theorem GTN {x : Code} {s : St} (h : ∀ Q', (∀ s', G4 c Q (.exit .normal []) s' → G4 c Q' (.exit .normal []) s') → G4 c Q' (.code x []) s) : GT c Q x s := fun ρ F a w hs =>
 wpT_of (h (fun e a w => isPan e = false ∧ Q e a w) (fun s' h ρ F a w hs => ⟨rfl, h ρ F a w hs⟩) ρ F a w hs)
theorem DCT_ {b : TB} (hB : TBOk c.P b) (hmx : c.P.follows .mixedOrders = true) (j : Nat) (ids : List Nat) (ts : List (List Nat × List Nat)) (es : List (Ev c)) {cs : List Prop} (hc : allP cs) (σ : List Nat) {k : FuncId} {cargs : List SV} {cH cH' : SH} {m m' : Nat} {v : Value}
  (con : ConX c.P k cargs cH m v cH' m') {cs2 : List Prop} (hc2 : allP cs2) (kp : List Nat) {id : Nat} {ops : Array Oper} {L : SL} {H H2 : SH} {n n2 : Nat} {s' : St}
  {l1 l2 : List Oper} {d : Option Nat} {op : Op} {T : TypeId} {pos : String} {af : Array Edge} (g : G4 c Q (.exit (.panic [{ v := v, recovered := false }]) []) ⟨s'.L, H2, n2⟩)
  (hl : cutO ops.toList j = some (l1, ⟨d, op, T, pos, af, none⟩, l2) := by rfl)
  (hup : upI ids l1 l1.length (fun t => bindsOn ⟨d, op, T, pos, af, none⟩ t) = true := by rfl) (hdn : l2.all (dnB l1.length) = true := by rfl) (hgd : l1.all (fun x => gdB x l1.length) = true := by rfl) (hback : backB (l1 ++ ⟨d, op, T, pos, af, none⟩ :: l2) 0 = true := by rfl)
  (h : drawI ids b kp c.n l1 L H n ts es = some (cs, s') := by rfl) (hon : notDefer op = true := by rfl) (hx : cxO b s'.L s'.H s'.n op σ k cargs cH m cH' m' = some (cs2, H2, n2) := by rfl) : GT c Q (.region id ops true) ⟨L, H, n⟩ := fun ρ F a w hs =>
 wpT_any hmx (DRX0 hB hmx ids kp ts es hc (cutO_spec hl) hup hdn hgd hback h rfl hon (OXC hB σ con hc2 hx) g hs)
end
def CallVE (P : Program) (f : Value) (args : List Value) (w : World) (E : Ending → World → Prop) : Prop :=
 ∃ l fn tmps assign body, f = .func (.yield l) #[] #[] ∧ (Instr.yield l args.toArray).run P w = .ok (.round l fn tmps assign body) w ∧ RoundIn (FW none) 0 P l fn tmps assign body w E
def YEnd {σ : Type} (w : World) (Hs : Blocks) (I : σ → Blocks → Prop) (s' : σ) (go pn : σ → Bool) (pvl : σ → Value) : Ending → World → Prop := fun e w2 =>
 (pn s' = true → PanE w ⟨[], [Hs]⟩ (pvl s') (fun R' => ∃ Hs', R' = ⟨[], [Hs']⟩ ∧ I s' Hs') e w2) ∧ (pn s' = false → RetE w ⟨[], [Hs]⟩ (fun v R' => v = .bool (go s') ∧ ∃ Hs', R' = ⟨[], [Hs']⟩ ∧ I s' Hs') e w2)
def YldP (P : Program) (w : World) (R0 : List Nat) (yv : Value) {σ α : Type} (I : σ → Blocks → Prop) (enc : α → List Value) (step : σ → α → Option σ) (go pn : σ → Bool) (pvl : σ → Value) : Prop :=
 ∀ s x s' w' Hs, step s x = some s' → I s Hs → Ext w R0 w' → (∀ p ∈ Hs, w'.heap[p.1]? = some p.2) → (Hs.map (·.1)).Nodup → (∀ p ∈ Hs, p.1 ∈ R0 ∨ w.heap.size ≤ p.1) →
  CallVE P yv (enc x) w' (YEnd w' Hs I s' go pn pvl)
def stepN {σ α : Type} (step : σ → α → Option σ) (pn : σ → Bool) (s : σ) (x : α) : Option σ := match step s x with
 | some s' => bif pn s' then none else some s'
 | none => none
theorem stepN_of {σ α : Type} {step : σ → α → Option σ} {pn : σ → Bool} {s s' : σ} {x : α} (h : step s x = some s') (hp : pn s' = false) : stepN step pn s x = some s' := by
 simp [stepN, h, hp]
theorem YldP.nm {P : Program} {w : World} {R0 : List Nat} {yv : Value} {σ α : Type} {I : σ → Blocks → Prop} {enc : α → List Value} {step : σ → α → Option σ} {go pn : σ → Bool} {pvl : σ → Value} (h : YldP P w R0 yv I enc step go pn pvl) : Yld P w R0 yv I enc (stepN step pn) go := by
 intro s x s' w' Hs hst hI he hh hn ho
 unfold stepN at hst
 split at hst
 ·rename_i s2 h2
  cases hp : pn s2 with
  | true => rw [hp] at hst; cases hst
  | false =>
   rw [hp] at hst; cases hst
   obtain ⟨l, fn, tmps, assign, body, h3, h4, h5⟩ := h s x s' w' Hs h2 hI he hh hn ho
   exact ⟨l, fn, tmps, assign, body, h3, h4, h5.mono fun e w2 h => h.2 hp⟩
 ·cases hst
def YldYP (P : Program) {σ α : Type} (w : World) (R : List Nat) (ρ : Env) (t : Nat) (yv : Value) (J : σ → Blocks → Prop) (Y : Yn α) (step : σ → α → Option σ) (go pn : σ → Bool) (pvl : σ → Value) : Prop :=
 ∃ l, ρ t = some l ∧ Y.P l ∧ YldP P w R yv J (Y.val l) step go pn pvl
theorem YldYP.nm {P : Program} {σ α : Type} {w : World} {R : List Nat} {ρ : Env} {t : Nat} {yv : Value} {J : σ → Blocks → Prop} {Y : Yn α} {step : σ → α → Option σ} {go pn : σ → Bool} {pvl : σ → Value} (h : YldYP P w R ρ t yv J Y step go pn pvl) : YldY P w R ρ t yv J Y (stepN step pn) go := by
 obtain ⟨l, h1, h2, h3⟩ := h
 exact ⟨l, h1, h2, h3.nm⟩
def pnO {σ : Type} (pn : σ → Bool) : Option σ → Bool
 | some s => pn s
 | none => false
theorem pnO_t {σ : Type} {pn : σ → Bool} {x : Option σ} {s : σ} (h : pnO pn x = true) (hx : x = some s) : pn s = true := by subst hx; exact h
theorem pnO_f {σ : Type} {pn : σ → Bool} {x : Option σ} {s : σ} (h : pnO pn x = false) (hx : x = some s) : pn s = false := by subst hx; exact h
section
variable {c : C4} {Q : Exit → Act → World → Prop}
theorem OX.yieldP {σ α : Type} {tj t : Nat} {J : σ → Blocks → Prop} {Y : Yn α} {yv : Value} {s s' : σ} {step : σ → α → Option σ} {go pn : σ → Bool} {pvl : σ → Value} {x : α}
  (hy : YldYP c.P c.w0 c.R0 c.π t yv J Y step go pn pvl) (ht : t < c.m) (hst : step s x = some s') (hpn : pn s' = true) {d : Option Nat} {f : Operand} {args : Array Operand} {ats : Array TypeId} {T : TypeId} {pos : String} {af : Array Edge} {g : Option (Nat × Bool)} {L : SL} {H : SH} {n : Nat}
  (hf : evS L f = some (.v yv)) (ha : evSs L args.toList = some (Y.sv t x)) (hl : lookH H tj = some (.bx (J s))) :
  OX c ⟨d, .call ⟨.value f, args, ats⟩, T, pos, af, g⟩ ⟨L, H, n⟩ (.panic [{ v := pvl s', recovered := false }]) (repH H tj tj (.bx (J s'))) n := by
 obtain ⟨lc, h1, h2, h3⟩ := hy
 intro ρ F Fx a w ok sa K Q hK
 obtain ⟨vf, e1, e2⟩ := evS_ok ok.dens hf
 obtain ⟨va, e3, e4⟩ := evSs_ok ok.dens ha
 rw [SV.den] at e1; cases e1
 rw [Y.dens (by rw [ok.pin t ht]; exact h1) h2 x] at e3; cases e3
 obtain ⟨FA, f', FB, rfl, ⟨⟨ll, r1⟩, r2⟩, hrep, _⟩ := ok.reps.look hl
 have hp : ((⟨[], [f']⟩ : Hp).add ⟨[], FA ++ FB ++ Fx⟩).all.Perm (⟨[], FA ++ f' :: FB ++ Fx⟩ : Hp).all := by
  simp only [Hp.all, Hp.add, List.nil_append, List.flatten_append, List.flatten_cons, List.append_assoc, List.cons_append, List.flatten_nil, List.append_nil]
  exact List.perm_append_comm_assoc f' FA.flatten (FB.flatten ++ Fx.flatten)
 have s2 := sa.perm hp
 have k1 : ∀ p ∈ f', w.heap[p.1]? = some p.2 := fun p hp' => s2.hpOk.1 p (by simpa [Hp.all] using hp')
 have k2 : (f'.map (·.1)).Nodup := by have := s2.hpOk.2; simpa [Hp.all] using this
 have k3 : ∀ p ∈ f', p.1 ∈ c.R0 ∨ c.w0.heap.size ≤ p.1 := fun p hp' => sa.own p (by simp only [Hp.all, List.nil_append, List.flatten_append, List.flatten_cons, List.mem_append]; exact .inl (.inr (.inl hp')))
 obtain ⟨l, fn, tmps, assign, body, hfv, hyr, hround⟩ := h3 s x s' w f' hst r2 sa.ext k1 k2 k3
 obtain ⟨al⟩ := args
 have e4' : evs (realL ρ L) al = some (Y.val lc x) := e4
 have hrun : (execOp a.eval ⟨d, .call ⟨.value f, al.toArray, ats⟩, T, pos, af, g⟩).run c.P w = .ok (.round l fn tmps assign body) w := by
  simp [execOp, resolve, Deferred.ofValue, invoke, sa.eval e2, sa.evals e4', hfv, hyr]
 rw [show (⟨al⟩ : Array Operand) = al.toArray from rfl]
 rw [hrun, Oper.uponIn_round]
 refine ⟨fun h => by simp [FW] at h, ?_⟩
 refine roundIn_FW (ro := none) (n := 0) (RoundIn.mono hround ?_)
 intro e w' he
 obtain ⟨R', rfl, heff, Hs', rfl, hJ⟩ := he.1 hpn
 have h6 := s2.eff heff
 refine hK ρ (FA ++ Hs' :: FB) w' ok.grow0 (hrep ρ tj (.bx (J s')) Hs' (Env.le_refl _) ⟨⟨ll, r1⟩, hJ⟩) ?_
 refine h6.perm ?_
 simp only [Hp.all, Hp.add, List.nil_append, List.flatten_append, List.flatten_cons, List.append_assoc, List.cons_append, List.flatten_nil, List.append_nil]
 exact (List.perm_append_comm_assoc Hs' FA.flatten (FB.flatten ++ Fx.flatten)).symm
theorem YX_ {σ α : Type} (li : List (Nat × Nat × Bool)) (tj : Nat) {t : Nat} {J : σ → Blocks → Prop} {Y : Yn α} {yv : Value} {s s' : σ} {step : σ → α → Option σ} {go pn : σ → Bool} {pvl : σ → Value} (x : α)
  (hy : YldYP c.P c.w0 c.R0 c.π t yv J Y step go pn pvl) (ht : Nat.blt t c.m = true) (hst : step s x = some s') (hpn : pn s' = true) {d : Option Nat} {f : Operand} {args : Array Operand} {ats : Array TypeId} {T : TypeId} {pos : String} {af : Array Edge} {g : Option (Nat × Bool)} {ops : Array Oper} {l : List Oper} {K : List Fr} {G : SG} {L : SL} {H H2 : SH} {n : Nat}
  (kk : G4 c Q (.exit (.panic [{ v := pvl s', recovered := false }]) []) ⟨L, H2, n⟩) (hf : evS L f = some (.v yv) := by rfl) (ha : evSs L args.toList = some (Y.sv t x) := by rfl) (hl : lookH H tj = some (.bx (J s)) := by rfl) (hH : repH H tj tj (.bx (J s')) = H2 := by rfl)
  (hg : pathOf li ops L G ⟨d, .call ⟨.value f, args, ats⟩, T, pos, af, g⟩ = some [] := by rfl) : G4 c Q (.ops ops (⟨d, .call ⟨.value f, args, ats⟩, T, pos, af, g⟩ :: l) K G) ⟨L, H, n⟩ := by
 subst hH
 have ht : t < c.m := by simpa [Nat.blt_eq] using ht
 intro ρ F a w hs hG
 unfold wpListIn
 have hw := (pathOf_ok hs hG hg).1 (fun x hx => by cases hx)
 rw [if_pos hw]
 refine wpIn_of rfl (OX.yieldP hy ht hst hpn hf ha hl ρ F [] a w hs.ok (by simpa using hs.sat) _ _ ?_)
 intro ρ' F' w' hgr hR hS
 refine QK_panic K a w' (kk ρ' F' a w' ⟨⟨hs.ok.dens.mono (hgr.toLe hs.ok.fr), hR, hgr.fr, fun t ht => ?_, Nat.le_trans hs.ok.mle hgr.le⟩, ?_⟩)
 ·rw [hgr.old t (Nat.lt_of_lt_of_le ht hs.ok.mle)]; exact hs.ok.pin t ht
 ·have hS' : Sat c.toCx (realL ρ L) ⟨[], F'⟩ a w' := by simpa using hS
  show Sat c.toCx (realL ρ' L) ⟨[], F'⟩ a w'
  rw [realL_mono (hgr.toLe hs.ok.fr) hs.ok.dens]; exact hS'
end
def ConYO (P : Program) (k : FuncId) (args : List SV) (H : SH) (n : Nat) (o : Out) (Y : World → List Nat → Env → Prop) : Prop :=
 ∀ (w : World) (ρ : Env) (F : List Blocks) (vs : List Value), SV.dens ρ args = some vs → Reps (cB P w F) ρ H F → (∀ t, n ≤ t → ρ t = none) → (∀ p ∈ F.flatten, w.heap[p.1]? = some p.2) → (F.flatten.map (·.1)).Nodup → GlF w (F.flatten.map (·.1)) →
  Y w (F.flatten.map (·.1)) ρ → Calls P k vs.toArray w (EndO w F ρ n o)
theorem ConYO.of_body {P : Program} {k : FuncId} {fn : Func} {code : Code} {N : Nat} {args : List SV} {H : SH} {n : Nat} {o : Out} {Y : World → List Nat → Env → Prop} (hf : P.funcs[k]? = some fn) (hN : fn.ntmps = N)
  (h : ∀ w F ρ gl, Y w (F.flatten.map (·.1)) ρ → G4 (c0 P w F N ρ n gl) (FinO P fn w F ρ n o) (.code code []) ⟨argL 0 args, H, n⟩) (hb : fn.body = some code := by rfl) (ha : (Nat.ble args.length N && noAr args) = true := by rfl) : ConYO P k args H n o Y := by
 intro w ρ F vs hd hR hl hh hn gl hY
 simp only [Bool.and_eq_true] at ha
 obtain ⟨d1, d2, d3⟩ := argL_dens (k := 0) (noAr_spec ha.2) hd
 have ha' : vs.length ≤ N := by rw [d3]; exact Nat.le_of_ble_eq_true ha.1
 refine (callsIn_wide (n := 1)).1 ?_
 refine callsIn_of_wp_marks (F := Fence.wide) (n := 1) hf hb trivial ?_
 rw [hN]
 have s : Sat ⟨P, none, w, F.flatten.map (·.1), N, []⟩ (argS 0 vs) ⟨[], F⟩ { tmps := vs.toArray ++ Array.replicate (N - vs.toArray.size) undef, defers := [] } w := by
  refine ⟨by simp; omega, rfl, ?_, Ext.refl _ _, by simpa [Hp.all] using hn, by simpa [Hp.all] using hh, fun p hp => .inl (List.mem_map.2 ⟨p, by simpa [Hp.all] using hp, rfl⟩)⟩
  intro t v hl
  obtain ⟨_, h2⟩ := look_argS vs 0 t v hl
  simp only [Nat.sub_zero] at h2
  have ht : t < vs.length := (List.getElem?_eq_some_iff.1 h2).1
  have hv : vs[t] = v := (List.getElem?_eq_some_iff.1 h2).2
  simp [Array.getD, show t < vs.length + (N - vs.length) from by omega, ht, hv]
 refine h w F ρ gl hY ρ F _ w ⟨⟨d1, Reps.cx (c := cB P w F) (c' := (c0 P w F N ρ n gl).toCx) rfl rfl hR, hl, fun _ _ => rfl, Nat.le_refl _⟩, ?_⟩
 show Sat _ (realL ρ (argL 0 args)) ⟨[], F⟩ _ w
 rw [d2]; exact s
end Go.HW
namespace Go.HW
open Go Go.RowKit
set_option linter.unusedVariables false
def pnR {σ : Type} (s : σ × Nat) : Bool := Nat.ble 1000 s.2
def pvR {σ : Type} (mk : Nat → Value) (s : σ × Nat) : Value := mk (s.2 - 1000)
def JOP {σ : Type} (tmps : Array Value) (ps : Array Tmp) (assign body : Code) (l r : Nat) (Ed : Blocks) (I : σ → Hp → Prop) (s : σ × Nat) (Hs : Blocks) : Prop :=
 ∃ H' lr, I s.1 H' ∧ (s.2 < 1000 → LoopAt lr tmps ps assign body s.2 r) ∧ Hs = (⟨(l, .loop lr) :: (Ed ++ H'.E), H'.S⟩ : Hp).all
def RndQT (P : Program) (l : Nat) (body : Code) (Rr : Ending → World → Prop) : Exit → Act → World → Prop :=
 Exit.then (fun a₁ w₁ => ∃ w₂, (Instr.beginRound l).run P w₁ = .ok () w₂ ∧ wpT (some l) P body (roundPostP P l Rr) a₁ w₂) (fun _ _ _ => False)
def ExR (mk : Nat → Value) (m : Nat) (e : Exit) : Prop := (m < 1000 ∧ e = exitOf m) ∨ (1000 ≤ m ∧ e = .panic [{ v := mk (m - 1000), recovered := false }])
def RoundsP {σ α : Type} (c : Cx) (L : Slots) (ps : List Nat) (assign body : Code) (Ed : Nat → Blocks) (I : σ → Hp → Prop) (enc : α → List Value) (stepB : σ → α → Option (σ × Nat)) (mk : Nat → Value) : Prop :=
 ∀ (l r : Nat) (lr : Loop) (w' : World) (R : List Nat) (s : σ) (x : α) (s' : σ) (m : Nat) (H' : Hp) (Rr : Ending → World → Prop), lr.state = .ready → stepB s x = some (s', m) → I s H' → ExtB c.w0 c.R0 w' R →
  (∀ e L2 H2, ExR mk m e → I s' H2 → TE (roundPostP c.P l Rr) e ⟨c.P, some l, w', R, c.n, []⟩ L2 ⟨(l, .loop { lr with state := .busy }) :: (Ed r ++ H2.E), H2.S⟩) →
  TC ⟨c.P, some l, w', R, c.n, []⟩ assign (RndQT c.P l body Rr) (argP ps (enc x) L) ⟨(l, .loop lr) :: (Ed r ++ H'.E), H'.S⟩
def mkE (T : TypeId) (k : IntKind) (n : Nat) : Value := .iface T (.int k (n : Int))
theorem exr_ok {mk : Nat → Value} {m : Nat} (h : m < 1000) : ExR mk m (exitOf m) := .inl ⟨h, rfl⟩
theorem exr_pan {T : TypeId} {k : IntKind} {v : Int} (h : 0 ≤ v) : ExR (mkE T k) (1000 + v.toNat) (.panic [{ v := .iface T (.int k v), recovered := false }]) := by
 refine .inr ⟨Nat.le_add_right _ _, ?_⟩
 have : ((1000 + v.toNat - 1000 : Nat) : Int) = v := by omega
 unfold mkE
 rw [this]
theorem roundPost_P {P : Program} {l : Nat} {R R' : Ending → World → Prop} (h : ∀ e w, R e w → R' e w) : ∀ {e : Exit} {a : Act} {w : World}, roundPost P l R e a w → roundPostP P l R' e a w
 | .normal, a, w, ⟨v, w', h1, h2⟩ => ⟨v, w', h1, h _ _ h2⟩
 | .ret, a, w, ⟨v, w', h1, h2⟩ => ⟨v, w', h1, h _ _ h2⟩
 | .exit id, a, w, ⟨v, w', h1, h2⟩ => ⟨v, w', h1, h _ _ h2⟩
 | .goto t, a, w, ⟨v, w', h1, h2⟩ => ⟨v, w', h1, h _ _ h2⟩
 | .panic _, a, w, h0 => h0.elim
 | .outgrown, a, w, h0 => h0.elim
theorem yld_ofP {σ α : Type} {c : Cx} {a : Act} {w w1 : World} {L : Slots} {H0 : Hp} {l r : Nat} {lr : Loop} {ps : List Nat} {assign body : Code} {Ed : Nat → Blocks} {I : σ → Hp → Prop}
  {enc : α → List Value} {stepB : σ → α → Option (σ × Nat)} {mk : Nat → Value} {R0 : List Nat} (s : Sat c L H0 a w) (hx : ExtB c.w0 c.R0 w1 R0)
  (hps : ∀ p ∈ ps, p < c.n) (henc : ∀ x, (enc x).length = ps.length) (hr : RoundsP c L ps assign body Ed I enc stepB mk) :
  YldP c.P w1 R0 (.func (.yield l) #[] #[]) (JOP a.tmps ps.toArray assign body l r (Ed r) I) enc (stepR stepB) goR pnR (pvR mk) := by
 rintro ⟨s0, m0⟩ x ⟨s1, m1⟩ w' Hs hst ⟨H', lr, hI, hat, rfl⟩ he hh hn ho
 cases m0 with
 | succ m0 => cases hst
 | zero =>
  have hat := hat (by simp)
  have hst' : stepB s0 x = some (s1, m1) := hst
  have hb : w'.heap[l]? = some (.loop lr) := hh (l, .loop lr) (by simp [Hp.all])
  refine ⟨l, lr.fn, _, lr.assign, lr.body, rfl, yield_run hb (by simp [hat.params, henc]), ?_⟩
  refine roundIn_FW (ro := none) (n := 1) (roundIn_T ?_)
  rw [hat.assign, hat.body, hat.params, hat.tmps]
  have hready : lr.state = .ready := by rw [hat.state]; rfl
  have hx' : ExtB c.w0 c.R0 w' (((⟨(l, .loop lr) :: (Ed r ++ H'.E), H'.S⟩ : Hp).all).map (·.1)) := by
   refine ⟨hx.tr he, fun k hk => ?_⟩
   obtain ⟨p, hp, rfl⟩ := List.mem_map.1 hk
   rcases ho p hp with h | h
   ·exact hx.2 _ h
   ·have := hx.1.size; exact .inr (by omega)
  refine hr l r lr w' (((⟨(l, .loop lr) :: (Ed r ++ H'.E), H'.S⟩ : Hp).all).map (·.1)) s0 x s1 m1 H' _ hready hst' hI hx' ?_ _ w' ?_
  ·rintro e L2 H2 (⟨hm, rfl⟩ | ⟨hm, rfl⟩) hI2
   ·intro a2 w2 s2
    have h1 := TE.rend (L := L2) (n := c.n) (w0 := w') (Hs0 := (⟨(l, .loop lr) :: (Ed r ++ H'.E), H'.S⟩ : Hp).all) (lr := { lr with state := .busy }) (l := l) (P := c.P) (m := m1) (E := Ed r ++ H2.E) (S := H2.S)
     (post := fun v R' => v = .bool (goR (s1, m1)) ∧ ∃ Hs', R' = ⟨[], [Hs']⟩ ∧ JOP a.tmps ps.toArray assign body l r (Ed r) I (s1, m1) Hs') ⟨rfl, _, rfl, H2, { lr with state := stOf m1, pending := pendOf m1 }, hI2, fun _ => ⟨rfl, rfl, hat.tmps, hat.params, hat.assign, hat.body, hat.defers⟩, rfl⟩ a2 w2 s2
    refine roundPost_P (fun e w q => ⟨fun hp => ?_, fun _ => q⟩) h1
    have : pnR (s1, m1) = false := by unfold pnR; rw [Bool.eq_false_iff]; intro h; have := Nat.le_of_ble_eq_true h; simp only at this; omega
    rw [this] at hp; cases hp
   ·intro a2 w2 s2
    refine ⟨s2.defers, fun _ => ?_, fun hp => ?_⟩
    ·refine ⟨⟨[], [(⟨(l, .loop { lr with state := .busy }) :: (Ed r ++ H2.E), H2.S⟩ : Hp).all]⟩, rfl, ⟨?_, ?_, ?_, ?_⟩, _, rfl, H2, { lr with state := .busy }, hI2, fun h => ?_, rfl⟩
     ·rw [one_all]; exact s2.ext
     ·rw [one_all]; exact s2.nodup
     ·rw [one_all]; exact s2.heap
     ·rw [one_all, one_all]; exact s2.own
     ·simp only at h; omega
    ·have : pnR (s1, m1) = true := Nat.ble_eq_true_of_le hm
     rw [this] at hp; cases hp
  ·have hz : (Array.foldl (fun tmps (x : Tmp × Value) => match x with | (t, a) => tmps.setIfInBounds t a) a.tmps (ps.toArray.zip (enc x).toArray)) = (ps.zip (enc x)).foldl (fun tm (x : Nat × Value) => tm.setIfInBounds x.1 x.2) a.tmps := by
    simp
   refine ⟨?_, rfl, ?_, Ext.refl _ _, hn, hh, fun p hp => .inl (List.mem_map.2 ⟨p, hp, rfl⟩)⟩
   ·rw [show (Act.tmps _) = _ from rfl]
    simp only [hz]
    rw [foldl_size]; exact s.size
   ·simp only [hz]
    exact argP_ok ps (enc x) L a.tmps (fun p hp => by rw [s.size]; exact hps p hp) s.slots
def endE (pan : Bool) (v : Value) (w : World) (R : Hp) (post : Hp → Prop) : Ending → World → Prop := match pan with
 | true => PanE w R v post
 | false => RetE w R fun _ R' => post R'
def exE (pan : Bool) (v : Value) (m : Nat) : Exit := match pan with
 | true => .panic [{ v := v, recovered := false }]
 | false => exitOf m
def IterOkE {σ α : Type} (c : Cx) (L : Slots) (k : FuncId) (fi ca : List Value) (Sc : List Blocks) (Φ : List Blocks → Prop) (I : σ → Hp → Prop) (enc : α → List Value) (step : σ × Nat → α → Option (σ × Nat)) (mk : Nat → Value) (pan : Bool) (v : Value) (s0 s1 : σ × Nat) : Prop :=
 ∀ (w : World) (yv : Value) (J : σ × Nat → Blocks → Prop) (Hs0 : Blocks), ExtB c.w0 c.R0 w ((⟨[], Sc ++ [Hs0]⟩ : Hp).all.map (·.1)) → HpOk w ⟨[], Sc ++ [Hs0]⟩ →
  YldP c.P w ((⟨[], Sc ++ [Hs0]⟩ : Hp).all.map (·.1)) yv J enc step goR pnR (pvR mk) → J s0 Hs0 →
  Calls c.P k (fi ++ ([yv] ++ ca)).toArray w (endE pan v w ⟨[], Sc ++ [Hs0]⟩ fun R' => ∃ Hs1 Sc1, J s1 Hs1 ∧ Φ Sc1 ∧ R' = ⟨[], Sc1 ++ [Hs1]⟩)
theorem range_coreE {σ α : Type} {c : Cx} {L : Slots} {Q : Exit → Act → World → Prop} {g : Operand} {k : FuncId} {fi ca : List Value} {ps : List Nat} {assign body : Code} {E1 : Blocks} {S1 Sc : List Blocks} {Φ : List Blocks → Prop} {Ed : Nat → Blocks} {I : σ → Hp → Prop}
  {enc : α → List Value} {stepB : σ → α → Option (σ × Nat)} {mk : Nat → Value} {pan : Bool} {pv : Value} {s0 s1 : σ} {m1 : Nat} {mk' : Nat → List Deferred} {a : Act} {w : World}
  (hk : ∀ (args : Array Value) (w : World), (callFunc k args).run c.P w = .ok (.enter k args) w)
  (hg : ev L g = some (.func (.func k) fi.toArray ca.toArray)) (hps : ∀ p ∈ ps, p < c.n) (henc : ∀ x, (enc x).length = ps.length)
  (hi : IterOkE c L k fi ca Sc Φ I enc (stepR stepB) mk pan pv (s0, 0) (s1, m1)) (hm : pan = false → m1 < 1000) (hI : I s0 ⟨E1, S1⟩) (hr : RoundsP c L ps assign body Ed I enc stepB mk)
  (he : ∀ fn, ∃ l r w1 lr, (Instr.enterLoop fn a.tmps ps.toArray assign body c.ro).run c.P w = .ok (l, mk' r) w1 ∧ LoopAt lr a.tmps ps.toArray assign body 0 r ∧
   Sat c L ((⟨[], Sc⟩ : Hp).add ⟨(l, .loop lr) :: (Ed r ++ E1), S1⟩) a w1)
  (hq : ∀ l r lr a' w' H1 Sc1, I s1 H1 → Φ Sc1 → a'.tmps = a.tmps → a'.defers = mk' r ++ a.defers → Sat c L ((⟨[], Sc1⟩ : Hp).add ⟨(l, .loop lr) :: (Ed r ++ H1.E), H1.S⟩) a w' → Q (exE pan pv m1) a' w') :
  (Code.rangeFunc g ps.toArray assign body).wpIn (FW c.ro) 1 c.P Q a w := by
 refine wpIn_rangeFunc fun fn _ => ?_
 obtain ⟨l, r, w1, lr, hent, hat, s⟩ := he fn
 have hgv : a.eval g = .func (.func k) fi.toArray ca.toArray := s.eval hg
 refine ⟨l, mk' r, w1, { target := .fn (.func k) ca.toArray, args := fi.toArray ++ #[Value.func (.yield l) #[] #[]] }, w1, k, (fi ++ ([Value.func (.yield l) #[] #[]] ++ ca)).toArray, w1, hent, ?_, fun _ _ => trivial, ?_, by simp [FW], ?_⟩
 ·simp only [resolve, hgv]
  simp [Deferred.ofValue, Act.eval]
 ·simp [invoke, hk]
 ·have hp : ((⟨[], Sc ++ [(⟨(l, .loop lr) :: (Ed r ++ E1), S1⟩ : Hp).all]⟩ : Hp).add Hp.nil).all.Perm ((⟨[], Sc⟩ : Hp).add ⟨(l, .loop lr) :: (Ed r ++ E1), S1⟩).all := by
   refine (Hp.add_perm _ _).trans (List.Perm.trans ?_ (Hp.add_perm _ _).symm)
   simp [Hp.all]
  have sp := s.perm hp
  have hall : ∀ X : Hp, (X.add Hp.nil).all = X.all := fun X => by simp [Hp.add, Hp.all]
  have hok : HpOk w1 ⟨[], Sc ++ [(⟨(l, .loop lr) :: (Ed r ++ E1), S1⟩ : Hp).all]⟩ := ⟨fun p hp => sp.heap p (by rw [hall]; exact hp), by have := sp.nodup; rwa [hall] at this⟩
  have hx := sp.extB
  have hJ : JOP a.tmps ps.toArray assign body l r (Ed r) I (s0, 0) (⟨(l, .loop lr) :: (Ed r ++ E1), S1⟩ : Hp).all := ⟨⟨E1, S1⟩, lr, hI, fun _ => hat, rfl⟩
  have hy := yld_ofP (a := a) (L := L) (l := l) (r := r) (lr := lr) (Ed := Ed) (I := I) s hx hps henc hr
  have hcall := hi w1 (.func (.yield l) #[] #[]) (JOP a.tmps ps.toArray assign body l r (Ed r) I) _ hx hok hy hJ
  cases pan with
  | true =>
   refine callsIn_FW (Calls.mono hcall ?_)
   rintro e w2 ⟨R', rfl, heff, Hs1, Sc1, ⟨H1, lr1, hI1, _, rfl⟩, hΦ, rfl⟩
   have s2 := (sp.eff heff).perm (H' := (⟨[], Sc1⟩ : Hp).add ⟨(l, .loop lr1) :: (Ed r ++ H1.E), H1.S⟩) (by
    refine (Hp.add_perm _ _).trans (List.Perm.trans ?_ (Hp.add_perm _ _).symm)
    simp [Hp.all])
   exact hq l r _ { a with defers := mk' r ++ a.defers } _ H1 Sc1 hI1 hΦ rfl rfl s2
  | false =>
   refine callsIn_FW (Calls.mono hcall ?_)
   rintro e w2 ⟨v, R', rfl, heff, Hs1, Sc1, ⟨H1, lr1, hI1, hat0, rfl⟩, hΦ, rfl⟩
   have hat1 := hat0 (hm rfl)
   have s2 := (sp.eff heff).perm (H' := (⟨[], Sc1⟩ : Hp).add ⟨(l, .loop lr1) :: (Ed r ++ H1.E), H1.S⟩) (by
    refine (Hp.add_perm _ _).trans (List.Perm.trans ?_ (Hp.add_perm _ _).symm)
    simp [Hp.all])
   have hb : w2.heap[l]? = some (.loop lr1) := s2.heap (l, .loop lr1) ((Hp.add_perm _ _).mem_iff.2 (by simp [Hp.all]))
   have hnb : lr1.state ≠ .busy := by rw [hat1.state, stOf]; split <;> simp
   have s3 : Sat c L ((⟨[], Sc1⟩ : Hp).add ⟨(l, .loop { lr1 with state := .exhausted }) :: (Ed r ++ H1.E), H1.S⟩) a (World.withBlock w2 l (.loop { lr1 with state := .exhausted })) := by
    refine s2.setBlockG (o := .loop lr1) (A := []) (B := (Ed r ++ H1.E) ++ (Sc1 ++ H1.S).flatten) ?_ ?_ <;> simp [Hp.all, Hp.add]
   have hfin := hq l r _ { a with defers := mk' r ++ a.defers } _ H1 Sc1 hI1 hΦ rfl rfl s3
   refine ⟨lr1.pending, _, endLoop_run hb hnb, ?_⟩
   generalize World.withBlock w2 l (.loop { lr1 with state := .exhausted }) = w3 at hfin ⊢
   rw [hat1.pending]
   rcases m1 with _ | _ | m1
   ·exact hfin
   ·exact wpIn_ret hfin
   ·exact wpIn_exit hfin
theorem TC.rangeOE {σ α : Type} {P : Program} {w0 : World} {R0 : List Nat} {n : Nat} {ds : List Deferred} {L : Slots} {Q : Exit → Act → World → Prop} {g : Operand} {k : FuncId} {fi ca : List Value} (ps : List Nat) {assign body : Code} {Sc S1 : List Blocks} {Φ : List Blocks → Prop}
  (I : σ → Hp → Prop) (enc : α → List Value) (stepB : σ → α → Option (σ × Nat)) (mk : Nat → Value) (pan : Bool) (pv : Value) (s0 s1 : σ) (m1 : Nat)
  (hk : ∀ (args : Array Value) (w : World), (callFunc k args).run P w = .ok (.enter k args) w)
  (hg : ev L g = some (.func (.func k) fi.toArray ca.toArray)) (hps : ps.all (fun p => Nat.blt p n) = true) (henc : ∀ x, (enc x).length = ps.length)
  (hI : I s0 ⟨[], S1⟩)
  (hi : IterOkE ⟨P, none, w0, R0, n, ds⟩ L k fi ca Sc Φ I enc (stepR stepB) mk pan pv (s0, 0) (s1, m1)) (hm : pan = false → m1 < 1000)
  (hr : RoundsP ⟨P, none, w0, R0, n, ds⟩ L ps assign body (fun r => [(r, .deferred (some []))]) I enc stepB mk)
  (hq : ∀ r H1 Sc1, I s1 H1 → Φ Sc1 → TE Q (exE pan pv m1) ⟨P, none, w0, R0, n, { target := .collected r, args := #[] } :: ds⟩ L ⟨(r, .deferred (some [])) :: H1.E, Sc1 ++ H1.S⟩) :
  TC ⟨P, none, w0, R0, n, ds⟩ (.rangeFunc g ps.toArray assign body) Q L ⟨[], Sc ++ S1⟩ := by
 intro a w s
 refine range_coreE (Ed := fun r => [(r, .deferred (some []))]) (mk' := fun r => [{ target := .collected r, args := #[] }]) hk hg (fun p hp => by simpa [Nat.blt_eq] using List.all_eq_true.1 hps p hp) henc hi hm hI hr ?_ ?_
 ·intro fn
  have s1 := (s.alloc (.deferred (some []))).alloc (.loop { state := .ready, pending := none, fn, tmps := a.tmps, params := ps.toArray, assign, body, defers := w.heap.size })
  have e : ({ w with heap := w.heap.push (.deferred (some [])) } : World).heap.size = w.heap.size + 1 := by simp
  rw [e] at s1
  refine ⟨_, w.heap.size, _, { state := .ready, pending := none, fn, tmps := a.tmps, params := ps.toArray, assign, body, defers := w.heap.size }, enterLoop_run0, ⟨rfl, rfl, rfl, rfl, rfl, rfl, rfl⟩, ?_⟩
  exact s1.perm (by simp [Hp.all, Hp.add])
 ·intro l r lr a' w' H1 Sc1 hI1 hΦ ht hd s'
  refine hq r H1 Sc1 hI1 hΦ a' w' (Sat.act ht (by rw [hd, s'.defers]; rfl) (s'.weak (fun _ _ h => h) ?_))
  simp only [Hp.all, Hp.add, List.nil_append, List.cons_append]
  exact List.sublist_cons_self _ _
section
variable {P : Program} {w0 : World} {R0 : List Nat} {N : Nat} {ds : List Deferred} {gl : GlF w0 R0} {ρ0 : Env} {m : Nat}
def RoundsYP {σ α : Type} (P : Program) (w0 : World) (R0 : List Nat) (N : Nat) (ps : List Nat) (assign body : Code) (Y : Yn α) (TS : σ → SH) (RD : SH) (L : SL) (np n2 tr : Nat) (stepB : σ → α → Option (σ × Nat)) (mk : Nat → Value) : Prop :=
 ∀ (l : Nat) (w' : World) (R : List Nat) (gl : GlF w' R) (ρ : Env) (pA pB : Blocks → Prop) (QA QB : Exit → Act → World → Prop) (s : σ) (x : α) (s' : σ) (m : Nat), (∀ f, pB f → ∃ lr q, f = (l, .loop lr) :: q) → stepB s x = some (s', m) →
  (∀ L' H' n', lookH H' n2 = some (.bx pA) → GT ⟨⟨P, some l, w', R, N, []⟩, ρ, np, gl⟩ QB body ⟨L', repH H' n2 n2 (.bx pB), n'⟩ → G4 ⟨⟨P, some l, w', R, N, []⟩, ρ, np, gl⟩ QA (.exit .normal []) ⟨L', H', n'⟩) →
  (∀ e st, ExR mk m e → Imp ⟨⟨P, some l, w', R, N, []⟩, ρ, np, gl⟩ st ⟨[], (n2, .bx pB) :: TS s', n2 + 1⟩ → G4 ⟨⟨P, some l, w', R, N, []⟩, ρ, np, gl⟩ QB (.exit e []) st) →
  G4 ⟨⟨P, some l, w', R, N, []⟩, ρ, np, gl⟩ QA (.code assign []) ⟨argPS ps (Y.sv tr x) L, (n2, .bx pA) :: (TS s ++ RD), n2 + 1⟩
theorem RFOE {σ α : Type} {k : FuncId} {g : Operand} (ps : List Nat) {assign body : Code} {K : List Fr} {Q : Exit → Act → World → Prop} {L : SL} {n : Nat}
  (Y : Yn α) (HI : SH) (TS : σ → SH) (RD : SH) (np mI : Nat) (τ : List Nat) (cca : List SV) (T0 : TypeId) (l0 : List SV) (cI : SH) (stepB : σ → α → Option (σ × Nat)) (mk : Nat → Value) (pan : Bool) (pv : Value) (s0 s1 : σ) (m1 : Nat) {ca : List SV}
  (hk : ∀ (args : Array Value) (w : World), (callFunc k args).run P w = .ok (.enter k args) w)
  (hg : evS L g = some (.fn (.func k) [] ca)) (hca : ca = SV.rens τ cca) (hT0 : takesH τ HI ((0, .cells T0 l0) :: cI) = some (renBs τ ((0, .cells T0 l0) :: cI)))
  (hb : (Nat.ble m np && Nat.ble np n && ltAll np τ && Nat.beq τ.length mI && ltL np L && ltH np RD && allRd RD && ps.all (fun p => Nat.blt p N) && allOwn ((0, .cells T0 l0) :: cI) && Nat.blt 0 mI && ltH mI ((0, .cells T0 l0) :: cI)) = true)
  (hlen : ∀ l x, (Y.val l x).length = ps.length) (hYP : ∀ l, Y.P l) (hT : ∀ s, (ltH n (TS s) && allOwn (TS s)) = true)
  (hI : ∀ (yv : Value) (J : σ × Nat → Blocks → Prop), ConYO P k (.v yv :: cca) ((0, .cells T0 l0) :: cI ++ [(mI, .bx (J (s0, 0)))]) (mI + 1) (match pan with | true => .pan pv ((0, .cells T0 l0) :: cI ++ [(mI, .bx (J (s1, m1)))]) (mI + 1) | false => .ret (.tu []) ((0, .cells T0 l0) :: cI ++ [(mI, .bx (J (s1, m1)))]) (mI + 1)) (fun w R ρ => YldYP P w R ρ 0 yv J Y (stepR stepB) goR pnR (pvR mk))) (hm : pan = false → m1 < 1000)
  (hr : RoundsYP P w0 R0 N ps assign body Y TS RD L np n ((τ.head?).getD 0) stepB mk)
  (hq : ∀ r, G4 ⟨⟨P, none, w0, R0, N, { target := .collected r, args := #[] } :: ds⟩, ρ0, m, gl⟩ Q (.exit (exE pan pv m1) K) ⟨L, (n, .bx (fun f => f = [(r, .deferred (some []))])) :: nH τ (TS s1 ++ RD) ((0, .cells T0 l0) :: cI), n + 1⟩) :
  G4 ⟨⟨P, none, w0, R0, N, ds⟩, ρ0, m, gl⟩ Q (.code (.rangeFunc g ps.toArray assign body) K) ⟨L, HI ++ (TS s0 ++ RD), n⟩ := by
 simp only [Bool.and_eq_true] at hb
 obtain ⟨⟨⟨⟨⟨⟨⟨⟨⟨⟨b1, b2⟩, bτ⟩, bm⟩, b5⟩, b6⟩, b7⟩, b8⟩, b9⟩, b10⟩, b11⟩ := hb
 have b1 := Nat.le_of_ble_eq_true b1
 have b2 := Nat.le_of_ble_eq_true b2
 have bm := Nat.eq_of_beq_eq_true bm
 have b10 : 0 < mI := by simpa [Nat.blt_eq] using b10
 have hT1 := fun s => (Bool.and_eq_true _ _ ▸ hT s).1
 have hT2 := fun s => (Bool.and_eq_true _ _ ▸ hT s).2
 generalize hcI : ((0, .cells T0 l0) :: cI : SH) = cH at *
 intro ρ F a w hs
 obtain ⟨FI, F1, rfl, r0, hR1⟩ := Reps.append.1 hs.ok.reps
 obtain ⟨FT, FR, rfl, r1, r2⟩ := Reps.append.1 hR1
 have hFR := Reps.rdNil b7 r2
 obtain ⟨Fc, G, k1, k2⟩ := takesH_ren r0 hT0
 obtain ⟨vg, g1, g2⟩ := evS_ok hs.ok.dens hg
 rw [SV.den, dens_nil] at g1
 simp only [Option.bind_some] at g1
 obtain ⟨cav, g3, g4⟩ := Option.map_eq_some_iff.1 g1
 subst g4
 have hcav : SV.dens (ρ.sel τ) cca = some cav := dens_ren (by rw [← hca]; exact g3)
 obtain ⟨ll0, hll0⟩ : ∃ l, ρ.sel τ 0 = some l := by
  rw [← hcI] at k1
  obtain ⟨f, F', _, ⟨b, vs, h1, _, _⟩, _⟩ := k1
  cases hx : ρ.sel τ 0 with
  | none => rw [hx] at h1; cases h1
  | some l => exact ⟨l, rfl⟩
 have htr : ρ ((τ.head?).getD 0) = some ll0 := by
  cases τ with
  | nil => simp at bm; omega
  | cons u τ => exact hll0
 have htrlt : (τ.head?).getD 0 < np := by
  cases τ with
  | nil => simp at bm; omega
  | cons u τ => exact ltAll_spec bτ u (by simp)
 have s2 : Sat ⟨P, none, w0, R0, N, ds⟩ (realL ρ L) ⟨[], Fc ++ FT⟩ a w := by
  refine (hs.sat.perm (H' := ⟨[], (Fc ++ G) ++ (FT ++ FR)⟩) ?_).weak (fun _ _ h => h) ?_
  ·simp only [Hp.all, List.nil_append, List.flatten_append]
   have := k2.flatten
   simp only [List.flatten_append] at this
   exact this.append_right _
  ·simp only [Hp.all, List.nil_append, List.flatten_append, hFR, List.append_nil]
   exact List.Sublist.append (List.sublist_append_left _ _) (List.Sublist.refl _)
 refine TC.rangeOE (fi := []) (ca := cav) (Φ := fun Sc => Reps (cB P w0 []) (ρ.sel τ) cH Sc) ps
  (fun s H' => ∃ ρ' F', (∀ t, t < np → ρ' t = ρ t) ∧ (∀ t, n ≤ t → ρ' t = none) ∧ Reps (⟨P, none, w0, R0, N, ds⟩ : Cx) ρ' (TS s) F' ∧ H' = ⟨[], F'⟩)
  (Y.val ll0) stepB mk pan pv s0 s1 m1 hk g2 b8 (hlen _) ⟨ρ, FT, fun _ _ => rfl, hs.ok.fr, r1, rfl⟩ ?_ hm ?_ ?_ a w s2
 ·-- the iterator
  intro w1 yv J Hs0 hx hok hy hJ
  let ρc : Env := fun t => if t < mI then ρ.sel τ t else if t = mI then some ⟨none, 0, 0⟩ else none
  have c1 : ∀ t, t < mI → ρc t = ρ.sel τ t := fun t ht => by simp only [ρc, ht, if_true]
  have c2 : ρc mI = some ⟨none, 0, 0⟩ := by simp [ρc]
  have c3 : Env.le (ρ.sel τ) ρc := fun t l e => by
   rcases Nat.lt_or_ge t mI with ht | ht
   ·rw [c1 t ht]; exact e
   ·simp [Env.sel, tgO_none (σ := τ) (t := t) (by omega)] at e
  have hall : (⟨[], Fc ++ [Hs0]⟩ : Hp).all = (Fc ++ [Hs0]).flatten := by simp [Hp.all]
  have hret := hI yv J w1 ρc (Fc ++ [Hs0]) (yv :: cav) (dens_cons_some.2 ⟨[yv], cav, by simp [SV.deni, SV.den], dens_mono c3 hcav, rfl⟩)
   (Reps.append.2 ⟨Fc, [Hs0], rfl, Reps.ownTr (n := mI) (c := (⟨P, none, w0, R0, N, ds⟩ : Cx)) c1 b9 b11 k1, Hs0, [], rfl, ⟨⟨_, c2⟩, hJ⟩, rfl⟩)
   (fun t ht => by simp only [ρc]; rw [if_neg (by omega), if_neg (by omega)]) (by rw [← hall]; exact hok.1) (by rw [← hall]; exact hok.2) (gl.tr (by rw [← hall]; exact hx)) (by rw [← hall]; exact ⟨ll0, by rw [c1 0 b10]; exact hll0, hYP _, hy⟩)
  cases pan with
  | true =>
   refine Calls.mono hret ?_
   rintro e w2 ⟨R', rfl, heff, cc, ρ', F', rfl, hgr, hR'⟩
   obtain ⟨FA, FB, rfl, p1, f3, F3, rfl, ⟨_, hJ1⟩, hnil⟩ := Reps.append.1 hR'
   have hnil : F3 = [] := hnil
   subst hnil
   exact ⟨_, rfl, heff, f3, FA, hJ1, Reps.ownTr (n := mI) (fun t ht => by rw [hgr.old t (by omega), c1 t ht]) b9 b11 p1, rfl⟩
  | false =>
   refine Ret.mono hret ?_
   rintro v R' ⟨cc, ρ', F', rfl, hgr, _, hR'⟩
   obtain ⟨FA, FB, rfl, p1, f3, F3, rfl, ⟨_, hJ1⟩, hnil⟩ := Reps.append.1 hR'
   have hnil : F3 = [] := hnil
   subst hnil
   exact ⟨f3, FA, hJ1, Reps.ownTr (n := mI) (fun t ht => by rw [hgr.old t (by omega), c1 t ht]) b9 b11 p1, rfl⟩
 ·-- the rounds
  rintro l r lr w' R s x s' mm _ Rr hrdy hst ⟨ρ', F', h1, h2, h3, rfl⟩ hx hcont a2 w2 sat2
  obtain ⟨hL1, hL2⟩ := ltL_dens h1 b5 hs.ok.dens
  have hle : Env.le ρ' (ρ'.set n ⟨none, 0, 0⟩) := (Env.set_grow h2).toLe h2
  obtain ⟨i1, i2⟩ := argPS_ok (ps := ps) (L := L) (Y.ok (ρ'.set n ⟨none, 0, 0⟩) ((τ.head?).getD 0) ll0 x (hle _ _ (by rw [h1 _ htrlt]; exact htr)) (hYP _)) (hL1.mono hle)
  rw [realL_mono hle hL1, hL2] at i2
  have hx2 : ExtB w0 R0 w' R := hx
  refine hr l w' R (gl.tr hx2) ρ (fun f => f = [(l, .loop lr), (r, .deferred (some []))]) (fun f => f = [(l, .loop { lr with state := .busy }), (r, .deferred (some []))]) (RndQT P l body Rr) (roundPostP P l Rr) s x s' mm (fun f hf => ⟨_, _, hf⟩) hst ?_ ?_
   (ρ'.set n ⟨none, 0, 0⟩) ([(l, .loop lr), (r, .deferred (some []))] :: (F' ++ FR)) a2 w2 ⟨⟨i1, ⟨_, _, rfl, ⟨⟨_, Env.set_self⟩, rfl⟩, Reps.append.2 ⟨F', FR, rfl, ?_, ?_⟩⟩, ?_, ?_, ?_⟩, ?_⟩
  ·intro L' H' n' hlk hbody ρ3 F3 a3 w3 s3
   obtain ⟨FA3, f, FB3, rfl, ⟨hloc, rfl⟩, hrep, _⟩ := s3.ok.reps.look hlk
   have hhp : w3.heap[l]? = some (.loop lr) := s3.sat.heap (l, .loop lr) (by simp [Hp.all])
   refine ⟨_, beginRound_run hhp hrdy, hbody ρ3 (FA3 ++ [(l, .loop { lr with state := .busy }), (r, .deferred (some []))] :: FB3) a3 _ ⟨⟨s3.ok.dens, hrep ρ3 n (.bx _) _ (Env.le_refl _) ⟨hloc, rfl⟩, s3.ok.fr, s3.ok.pin, s3.ok.mle⟩, ?_⟩⟩
   exact s3.sat.setBlockG (o := .loop lr) (A := FA3.flatten) (B := (r, .deferred (some [])) :: FB3.flatten) (by simp [Hp.all]) (by simp [Hp.all])
  ·intro e st hex hi ρ3 F3 a3 w3 s3
   obtain ⟨ρ4, F4, s4⟩ := hi ρ3 F3 a3 w3 s3
   obtain ⟨fX, F5, rfl, ⟨_, rfl⟩, hR5⟩ := s4.ok.reps
   refine hcont e [] ⟨[], F5⟩ hex ⟨fun t => if t < n then ρ4 t else none, F5, ?_, ?_, ?_, rfl⟩ a3 w3 ?_
   ·intro t ht
    have : t < n := by omega
    simp only [this, if_true]; exact s4.ok.pin t ht
   ·intro t ht
    simp only [show ¬ t < n from by omega, if_false]
   ·exact Reps.ownTr (n := n) (fun t ht => by simp [ht]) (hT2 s') (hT1 s') hR5
   ·refine ⟨s4.sat.size, s4.sat.defers, fun t v h => by simp [look] at h, s4.sat.ext, ?_, ?_, ?_⟩
    ·simpa [Hp.all] using s4.sat.nodup
    ·intro p hp; exact s4.sat.heap p (by simpa [Hp.all] using hp)
    ·intro p hp; exact s4.sat.own p (by simpa [Hp.all] using hp)
  ·exact Reps.ownTr (n := n) (fun t ht => by simp [Env.set, Nat.ne_of_lt ht]) (hT2 s) (hT1 s) h3
  ·exact Reps.rdTr (np := np) hx2 (fun t ht => by simp [Env.set, Nat.ne_of_lt (Nat.lt_of_lt_of_le ht b2), h1 t ht]) b7 b6 r2
  ·intro t ht; simp only at ht; simp only [Env.set, show t ≠ n from by omega, if_false]; exact h2 t (by omega)
  ·intro t ht; simp only at ht; simp only [Env.set, show t ≠ n from by omega, if_false]; exact h1 t ht
  ·show np ≤ n + 1; omega
  ·have : Sat ⟨P, some l, w', R, N, []⟩ (realL (ρ'.set n ⟨none, 0, 0⟩) (argPS ps (Y.sv ((τ.head?).getD 0) x) L)) ⟨[], [(l, .loop lr), (r, .deferred (some []))] :: (F' ++ FR)⟩ a2 w2 := by
    rw [i2]
    refine sat2.perm ?_
    simp only [Hp.all, List.nil_append, List.flatten_cons, List.flatten_append, hFR, List.append_nil, List.cons_append]
    exact List.Perm.refl _
   exact this
 ·-- behind it
  rintro r _ Sc1 ⟨ρ', F', h1, h2, h3, rfl⟩ hΦ a2 w2 sat2
  obtain ⟨hL1, hL2⟩ := ltL_dens h1 b5 hs.ok.dens
  have hle : Env.le ρ' (ρ'.set n ⟨none, 0, 0⟩) := (Env.set_grow h2).toLe h2
  have hsel : (ρ'.set n ⟨none, 0, 0⟩).sel τ = ρ.sel τ := sel_old (np := np) (fun t ht => by simp [Env.set, Nat.ne_of_lt (Nat.lt_of_lt_of_le ht b2), h1 t ht]) bτ
  refine hq r (ρ'.set n ⟨none, 0, 0⟩) ([(r, .deferred (some []))] :: (Sc1 ++ (F' ++ FR))) a2 w2 ⟨⟨hL1.mono hle, ⟨_, _, rfl, ⟨⟨_, Env.set_self⟩, rfl⟩, nH_reps (c' := cB P w0 []) (Reps.append.2 ⟨F', FR, rfl, Reps.cx (c := ⟨P, none, w0, R0, N, ds⟩) (c' := ⟨P, none, w0, R0, N, { target := .collected r, args := #[] } :: ds⟩) rfl rfl (h3.mono hle), ?_⟩) b9 (by rw [hsel]; exact hΦ)⟩, ?_, ?_, ?_⟩, ?_⟩
  ·exact Reps.rdTr (c := ⟨P, none, w0, R0, N, ds⟩) (np := np) (c' := ⟨P, none, w0, R0, N, { target := .collected r, args := #[] } :: ds⟩) ⟨Ext.refl _ _, fun k hk => .inl hk⟩ (fun t ht => by simp [Env.set, Nat.ne_of_lt (Nat.lt_of_lt_of_le ht b2), h1 t ht]) b7 b6 r2
  ·intro t ht; simp only at ht; simp only [Env.set, show t ≠ n from by omega, if_false]; exact h2 t (by omega)
  ·intro t ht; simp only at ht; simp only [Env.set, show t ≠ n from by omega, if_false]; rw [h1 t (by omega)]; exact hs.ok.pin t ht
  ·show m ≤ n + 1; omega
  ·have : Sat ⟨P, none, w0, R0, N, { target := .collected r, args := #[] } :: ds⟩ (realL (ρ'.set n ⟨none, 0, 0⟩) L) ⟨[], [(r, .deferred (some []))] :: (Sc1 ++ (F' ++ FR))⟩ a2 w2 := by
    rw [realL_mono hle hL1, hL2]
    refine sat2.perm ?_
    simp only [Hp.all, List.nil_append, List.flatten_cons, List.flatten_append, hFR, List.append_nil, List.cons_append]
    exact List.Perm.refl _
   exact this
end
end Go.HW
namespace Go.Proofs
open Go.Shelf
def Tryz.lays156_ren : Go.Shelf.Ren := ⟨fun | 156 => 19 | 165 => 36 | 166 => 27 | 169 => 28 | 240 => 61 | 241 => 77 | 276 => 98 | 277 => 107 | n => n, fun | 31 => 40 | 9 => 9 | 3 => 3 | 4 => 4 | 0 => 0 | 20 => 20 | 72 => 53 | 76 => 58 | 70 => 50 | 37 => 51 | 75 => 57 | 127 => 110 | 164 => 154 | 5 => 5 | 80 => 60 | n => n, fun | n => n⟩
theorem Tryz.lays156 : Go.Proofs.Lays.n156 Tryz.prog Tryz.lays156_ren := {
 mixed := by kernel_rfl
 f156 := Tryz.func19.trans (congrArg some (by kernel_rfl))
 f165 := Tryz.func36.trans (congrArg some (by kernel_rfl))
 f166 := Tryz.func27.trans (congrArg some (by kernel_rfl))
 f169 := Tryz.func28.trans (congrArg some (by kernel_rfl))
 f240 := Tryz.func61.trans (congrArg some (by kernel_rfl))
 f241 := Tryz.func77.trans (congrArg some (by kernel_rfl))
 f276 := Tryz.func98.trans (congrArg some (by kernel_rfl))
 f277 := Tryz.func107.trans (congrArg some (by kernel_rfl))
 t0 := Tryz.underlying0
 a0 := Tryz.isAgg0
 z0 := Tryz.sizeOf0
 v0 := Tryz.zeroValue0
 t3 := Tryz.underlying3
 a3 := Tryz.isAgg3
 z3 := Tryz.sizeOf3
 v3 := Tryz.zeroValue3
 t4 := Tryz.underlying4
 a4 := Tryz.isAgg4
 z4 := Tryz.sizeOf4
 v4 := Tryz.zeroValue4
 t9 := Tryz.underlying9
 a9 := Tryz.isAgg9
 z9 := Tryz.sizeOf9
 v9 := Tryz.zeroValue9
 t20 := Tryz.underlying20
 a20 := Tryz.isAgg20
 z20 := Tryz.sizeOf20
 v20 := Tryz.zeroValue20
 t31 := Tryz.underlying40
 a31 := Tryz.isAgg40
 z31 := Tryz.sizeOf40
 v31 := Tryz.zeroValue40
 t37 := Tryz.underlying51
 a37 := Tryz.isAgg51
 z37 := Tryz.sizeOf51
 v37 := Tryz.zeroValue51
 t70 := Tryz.underlying50
 a70 := Tryz.isAgg50
 z70 := Tryz.sizeOf50
 v70 := Tryz.zeroValue50
 t72 := Tryz.underlying53
 a72 := Tryz.isAgg53
 z72 := Tryz.sizeOf53
 v72 := Tryz.zeroValue53
 t75 := Tryz.underlying57
 a75 := Tryz.isAgg57
 z75 := Tryz.sizeOf57
 v75 := Tryz.zeroValue57
 t76 := Tryz.underlying58
 a76 := Tryz.isAgg58
 z76 := Tryz.sizeOf58
 v76 := Tryz.zeroValue58
 t127 := Tryz.underlying110
 a127 := Tryz.isAgg110
 z127 := Tryz.sizeOf110
 v127 := Tryz.zeroValue110
 t164 := Tryz.underlying154
 a164 := Tryz.isAgg154
 z164 := Tryz.sizeOf154
 v164 := Tryz.zeroValue154 }
theorem Tryz.Builder_Extra_156 : Builder.Extra Tryz.prog Tryz.lays156_ren := {
 sizeBuilder := by kernel_rfl
 liesBuilder := by kernel_rfl
 t5 := Tryz.underlying5
 a5 := Tryz.isAgg5
 z5 := Tryz.sizeOf5
 v5 := Tryz.zeroValue5
 infoByte := by kernel_rfl
 cellsByte := by kernel_rfl
 sizeByte := by kernel_rfl
 neB5 := by decide }
def Tryz.laysM171_ren : Go.Shelf.Ren := ⟨fun | 171 => 53 | 243 => 95 | 246 => 114 | 283 => 127 | 284 => 128 | 285 => 129 | 286 => 130 | 129 => 141 | 317 => 140 | 318 => 142 | 319 => 143 | 320 => 144 | 337 => 149 | 338 => 150 | n => n, fun | 3 => 3 | 9 => 9 | 2 => 2 | 4 => 4 | 171 => 188 | 0 => 0 | 53 => 120 | 37 => 51 | 5 => 5 | 173 => 191 | 212 => 216 | 51 => 121 | 20 => 20 | 213 => 217 | 46 => 29 | 232 => 230 | 233 => 231 | n => n, fun | 17 => 6 | 18 => 9 | 19 => 10 | n => n⟩
theorem Tryz.laysM171 : Go.Proofs.LaysM.n171 Tryz.prog Tryz.laysM171_ren := {
 mixed := by kernel_rfl
 f129 := Tryz.func141.trans (congrArg some (by kernel_rfl))
 f171 := Tryz.func53.trans (congrArg some (by kernel_rfl))
 f243 := Tryz.func95.trans (congrArg some (by kernel_rfl))
 f246 := Tryz.func114.trans (congrArg some (by kernel_rfl))
 f283 := Tryz.func127.trans (congrArg some (by kernel_rfl))
 f284 := Tryz.func128.trans (congrArg some (by kernel_rfl))
 f285 := Tryz.func129.trans (congrArg some (by kernel_rfl))
 f286 := Tryz.func130.trans (congrArg some (by kernel_rfl))
 f317 := Tryz.func140.trans (congrArg some (by kernel_rfl))
 f318 := Tryz.func142.trans (congrArg some (by kernel_rfl))
 f319 := Tryz.func143.trans (congrArg some (by kernel_rfl))
 f320 := Tryz.func144.trans (congrArg some (by kernel_rfl))
 f337 := Tryz.func149.trans (congrArg some (by kernel_rfl))
 f338 := Tryz.func150.trans (congrArg some (by kernel_rfl))
 t0 := Tryz.underlying0
 a0 := Tryz.isAgg0
 z0 := Tryz.sizeOf0
 v0 := Tryz.zeroValue0
 t2 := Tryz.underlying2
 a2 := Tryz.isAgg2
 z2 := Tryz.sizeOf2
 v2 := Tryz.zeroValue2
 t3 := Tryz.underlying3
 a3 := Tryz.isAgg3
 z3 := Tryz.sizeOf3
 v3 := Tryz.zeroValue3
 t4 := Tryz.underlying4
 a4 := Tryz.isAgg4
 z4 := Tryz.sizeOf4
 v4 := Tryz.zeroValue4
 t5 := Tryz.underlying5
 a5 := Tryz.isAgg5
 z5 := Tryz.sizeOf5
 v5 := Tryz.zeroValue5
 t9 := Tryz.underlying9
 a9 := Tryz.isAgg9
 z9 := Tryz.sizeOf9
 v9 := Tryz.zeroValue9
 t20 := Tryz.underlying20
 a20 := Tryz.isAgg20
 z20 := Tryz.sizeOf20
 v20 := Tryz.zeroValue20
 t37 := Tryz.underlying51
 a37 := Tryz.isAgg51
 z37 := Tryz.sizeOf51
 v37 := Tryz.zeroValue51
 t46 := Tryz.underlying29
 a46 := Tryz.isAgg29
 z46 := Tryz.sizeOf29
 v46 := Tryz.zeroValue29
 t51 := Tryz.underlying121
 a51 := Tryz.isAgg121
 z51 := Tryz.sizeOf121
 v51 := Tryz.zeroValue121
 t53 := Tryz.underlying120
 a53 := Tryz.isAgg120
 z53 := Tryz.sizeOf120
 v53 := Tryz.zeroValue120
 t171 := Tryz.underlying188
 a171 := Tryz.isAgg188
 z171 := Tryz.sizeOf188
 v171 := Tryz.zeroValue188
 t173 := Tryz.underlying191
 a173 := Tryz.isAgg191
 z173 := Tryz.sizeOf191
 v173 := Tryz.zeroValue191
 t212 := Tryz.underlying216
 a212 := Tryz.isAgg216
 z212 := Tryz.sizeOf216
 v212 := Tryz.zeroValue216
 t213 := Tryz.underlying217
 a213 := Tryz.isAgg217
 z213 := Tryz.sizeOf217
 t232 := Tryz.underlying230
 a232 := Tryz.isAgg230
 z232 := Tryz.sizeOf230
 v232 := Tryz.zeroValue230
 t233 := Tryz.underlying231
 a233 := Tryz.isAgg231
 z233 := Tryz.sizeOf231
 v233 := Tryz.zeroValue231
 g17 := by kernel_rfl
 g18 := by kernel_rfl
 g19 := by kernel_rfl
 i0 := by kernel_rfl
 i2 := by kernel_rfl
 i3 := by kernel_rfl
 i4 := by kernel_rfl
 i5 := by kernel_rfl
 i9 := by kernel_rfl
 i20 := by kernel_rfl
 i37 := by kernel_rfl
 i46 := by kernel_rfl
 i51 := by kernel_rfl
 i53 := by kernel_rfl
 i171 := by kernel_rfl
 i173 := by kernel_rfl
 i212 := by kernel_rfl
 i232 := by kernel_rfl
 i233 := by kernel_rfl
 m17 := by kernel_rfl
 m18 := by kernel_rfl
 m19 := by kernel_rfl }
def Tryz.laysM173_ren : Go.Shelf.Ren := ⟨fun | 173 => 100 | 246 => 114 | 283 => 127 | 284 => 128 | 285 => 129 | 286 => 130 | 129 => 141 | 317 => 140 | 318 => 142 | 319 => 143 | 320 => 144 | 337 => 149 | 338 => 150 | n => n, fun | 2 => 2 | 3 => 3 | 9 => 9 | 4 => 4 | 171 => 188 | 0 => 0 | 53 => 120 | 37 => 51 | 5 => 5 | 173 => 191 | 212 => 216 | 51 => 121 | 20 => 20 | 213 => 217 | 46 => 29 | 232 => 230 | 233 => 231 | n => n, fun | 17 => 6 | 18 => 9 | 19 => 10 | n => n⟩
theorem Tryz.laysM173 : Go.Proofs.LaysM.n173 Tryz.prog Tryz.laysM173_ren := {
 mixed := by kernel_rfl
 f129 := Tryz.func141.trans (congrArg some (by kernel_rfl))
 f173 := Tryz.func100.trans (congrArg some (by kernel_rfl))
 f246 := Tryz.func114.trans (congrArg some (by kernel_rfl))
 f283 := Tryz.func127.trans (congrArg some (by kernel_rfl))
 f284 := Tryz.func128.trans (congrArg some (by kernel_rfl))
 f285 := Tryz.func129.trans (congrArg some (by kernel_rfl))
 f286 := Tryz.func130.trans (congrArg some (by kernel_rfl))
 f317 := Tryz.func140.trans (congrArg some (by kernel_rfl))
 f318 := Tryz.func142.trans (congrArg some (by kernel_rfl))
 f319 := Tryz.func143.trans (congrArg some (by kernel_rfl))
 f320 := Tryz.func144.trans (congrArg some (by kernel_rfl))
 f337 := Tryz.func149.trans (congrArg some (by kernel_rfl))
 f338 := Tryz.func150.trans (congrArg some (by kernel_rfl))
 t0 := Tryz.underlying0
 a0 := Tryz.isAgg0
 z0 := Tryz.sizeOf0
 v0 := Tryz.zeroValue0
 t2 := Tryz.underlying2
 a2 := Tryz.isAgg2
 z2 := Tryz.sizeOf2
 v2 := Tryz.zeroValue2
 t3 := Tryz.underlying3
 a3 := Tryz.isAgg3
 z3 := Tryz.sizeOf3
 v3 := Tryz.zeroValue3
 t4 := Tryz.underlying4
 a4 := Tryz.isAgg4
 z4 := Tryz.sizeOf4
 v4 := Tryz.zeroValue4
 t5 := Tryz.underlying5
 a5 := Tryz.isAgg5
 z5 := Tryz.sizeOf5
 v5 := Tryz.zeroValue5
 t9 := Tryz.underlying9
 a9 := Tryz.isAgg9
 z9 := Tryz.sizeOf9
 v9 := Tryz.zeroValue9
 t20 := Tryz.underlying20
 a20 := Tryz.isAgg20
 z20 := Tryz.sizeOf20
 v20 := Tryz.zeroValue20
 t37 := Tryz.underlying51
 a37 := Tryz.isAgg51
 z37 := Tryz.sizeOf51
 v37 := Tryz.zeroValue51
 t46 := Tryz.underlying29
 a46 := Tryz.isAgg29
 z46 := Tryz.sizeOf29
 v46 := Tryz.zeroValue29
 t51 := Tryz.underlying121
 a51 := Tryz.isAgg121
 z51 := Tryz.sizeOf121
 v51 := Tryz.zeroValue121
 t53 := Tryz.underlying120
 a53 := Tryz.isAgg120
 z53 := Tryz.sizeOf120
 v53 := Tryz.zeroValue120
 t171 := Tryz.underlying188
 a171 := Tryz.isAgg188
 z171 := Tryz.sizeOf188
 v171 := Tryz.zeroValue188
 t173 := Tryz.underlying191
 a173 := Tryz.isAgg191
 z173 := Tryz.sizeOf191
 v173 := Tryz.zeroValue191
 t212 := Tryz.underlying216
 a212 := Tryz.isAgg216
 z212 := Tryz.sizeOf216
 v212 := Tryz.zeroValue216
 t213 := Tryz.underlying217
 a213 := Tryz.isAgg217
 z213 := Tryz.sizeOf217
 t232 := Tryz.underlying230
 a232 := Tryz.isAgg230
 z232 := Tryz.sizeOf230
 v232 := Tryz.zeroValue230
 t233 := Tryz.underlying231
 a233 := Tryz.isAgg231
 z233 := Tryz.sizeOf231
 v233 := Tryz.zeroValue231
 g17 := by kernel_rfl
 g18 := by kernel_rfl
 g19 := by kernel_rfl
 i0 := by kernel_rfl
 i2 := by kernel_rfl
 i3 := by kernel_rfl
 i4 := by kernel_rfl
 i5 := by kernel_rfl
 i9 := by kernel_rfl
 i20 := by kernel_rfl
 i37 := by kernel_rfl
 i46 := by kernel_rfl
 i51 := by kernel_rfl
 i53 := by kernel_rfl
 i171 := by kernel_rfl
 i173 := by kernel_rfl
 i212 := by kernel_rfl
 i232 := by kernel_rfl
 i233 := by kernel_rfl
 m17 := by kernel_rfl
 m18 := by kernel_rfl
 m19 := by kernel_rfl }
def Tryz.laysC174_ren : Go.Shelf.Ren := ⟨fun | 174 => 101 | 247 => 116 | 245 => 117 | 287 => 131 | 279 => 132 | 280 => 133 | 281 => 134 | 282 => 135 | 321 => 145 | 322 => 146 | 316 => 147 | 171 => 53 | 205 => 148 | 243 => 95 | 246 => 114 | 283 => 127 | 284 => 128 | 285 => 129 | 286 => 130 | 129 => 141 | 317 => 140 | 318 => 142 | 319 => 143 | 320 => 144 | 337 => 149 | 338 => 150 | n => n, fun | 9 => 9 | 3 => 3 | 2 => 2 | 75 => 57 | 85 => 157 | 4 => 4 | 167 => 193 | 5 => 5 | 53 => 120 | 175 => 194 | 46 => 29 | 168 => 196 | 37 => 51 | 0 => 0 | 210 => 222 | 21 => 21 | 127 => 110 | 145 => 229 | 143 => 227 | 171 => 188 | 173 => 191 | 212 => 216 | 51 => 121 | 20 => 20 | 213 => 217 | 232 => 230 | 233 => 231 | 80 => 60 | n => n, fun | 15 => 7 | 16 => 8 | 17 => 6 | 18 => 9 | 19 => 10 | n => n⟩
theorem Tryz.laysC174 : Go.Proofs.LaysC.n174 Tryz.prog Tryz.laysC174_ren := {
 mixed := by kernel_rfl
 f129 := Tryz.func141.trans (congrArg some (by kernel_rfl))
 f171 := Tryz.func53.trans (congrArg some (by kernel_rfl))
 f174 := Tryz.func101.trans (congrArg some (by kernel_rfl))
 f205 := Tryz.func148.trans (congrArg some (by kernel_rfl))
 f243 := Tryz.func95.trans (congrArg some (by kernel_rfl))
 f245 := Tryz.func117.trans (congrArg some (by kernel_rfl))
 f246 := Tryz.func114.trans (congrArg some (by kernel_rfl))
 f247 := Tryz.func116.trans (congrArg some (by kernel_rfl))
 f279 := Tryz.func132.trans (congrArg some (by kernel_rfl))
 f280 := Tryz.func133.trans (congrArg some (by kernel_rfl))
 f281 := Tryz.func134.trans (congrArg some (by kernel_rfl))
 f282 := Tryz.func135.trans (congrArg some (by kernel_rfl))
 f283 := Tryz.func127.trans (congrArg some (by kernel_rfl))
 f284 := Tryz.func128.trans (congrArg some (by kernel_rfl))
 f285 := Tryz.func129.trans (congrArg some (by kernel_rfl))
 f286 := Tryz.func130.trans (congrArg some (by kernel_rfl))
 f287 := Tryz.func131.trans (congrArg some (by kernel_rfl))
 f316 := Tryz.func147.trans (congrArg some (by kernel_rfl))
 f317 := Tryz.func140.trans (congrArg some (by kernel_rfl))
 f318 := Tryz.func142.trans (congrArg some (by kernel_rfl))
 f319 := Tryz.func143.trans (congrArg some (by kernel_rfl))
 f320 := Tryz.func144.trans (congrArg some (by kernel_rfl))
 f321 := Tryz.func145.trans (congrArg some (by kernel_rfl))
 f322 := Tryz.func146.trans (congrArg some (by kernel_rfl))
 f337 := Tryz.func149.trans (congrArg some (by kernel_rfl))
 f338 := Tryz.func150.trans (congrArg some (by kernel_rfl))
 t0 := Tryz.underlying0
 a0 := Tryz.isAgg0
 z0 := Tryz.sizeOf0
 v0 := Tryz.zeroValue0
 t2 := Tryz.underlying2
 a2 := Tryz.isAgg2
 z2 := Tryz.sizeOf2
 v2 := Tryz.zeroValue2
 t3 := Tryz.underlying3
 a3 := Tryz.isAgg3
 z3 := Tryz.sizeOf3
 v3 := Tryz.zeroValue3
 t4 := Tryz.underlying4
 a4 := Tryz.isAgg4
 z4 := Tryz.sizeOf4
 v4 := Tryz.zeroValue4
 t5 := Tryz.underlying5
 a5 := Tryz.isAgg5
 z5 := Tryz.sizeOf5
 v5 := Tryz.zeroValue5
 t9 := Tryz.underlying9
 a9 := Tryz.isAgg9
 z9 := Tryz.sizeOf9
 v9 := Tryz.zeroValue9
 t20 := Tryz.underlying20
 a20 := Tryz.isAgg20
 z20 := Tryz.sizeOf20
 v20 := Tryz.zeroValue20
 t21 := Tryz.underlying21
 a21 := Tryz.isAgg21
 z21 := Tryz.sizeOf21
 v21 := Tryz.zeroValue21
 t37 := Tryz.underlying51
 a37 := Tryz.isAgg51
 z37 := Tryz.sizeOf51
 v37 := Tryz.zeroValue51
 t46 := Tryz.underlying29
 a46 := Tryz.isAgg29
 z46 := Tryz.sizeOf29
 v46 := Tryz.zeroValue29
 t51 := Tryz.underlying121
 a51 := Tryz.isAgg121
 z51 := Tryz.sizeOf121
 v51 := Tryz.zeroValue121
 t53 := Tryz.underlying120
 a53 := Tryz.isAgg120
 z53 := Tryz.sizeOf120
 v53 := Tryz.zeroValue120
 t75 := Tryz.underlying57
 a75 := Tryz.isAgg57
 z75 := Tryz.sizeOf57
 v75 := Tryz.zeroValue57
 t85 := Tryz.underlying157
 a85 := Tryz.isAgg157
 z85 := Tryz.sizeOf157
 v85 := Tryz.zeroValue157
 t127 := Tryz.underlying110
 a127 := Tryz.isAgg110
 z127 := Tryz.sizeOf110
 v127 := Tryz.zeroValue110
 t143 := Tryz.underlying227
 a143 := Tryz.isAgg227
 z143 := Tryz.sizeOf227
 v143 := Tryz.zeroValue227
 t145 := Tryz.underlying229
 a145 := Tryz.isAgg229
 z145 := Tryz.sizeOf229
 v145 := Tryz.zeroValue229
 t167 := Tryz.underlying193
 a167 := Tryz.isAgg193
 z167 := Tryz.sizeOf193
 v167 := Tryz.zeroValue193
 t168 := Tryz.underlying196
 a168 := Tryz.isAgg196
 z168 := Tryz.sizeOf196
 v168 := Tryz.zeroValue196
 t171 := Tryz.underlying188
 a171 := Tryz.isAgg188
 z171 := Tryz.sizeOf188
 v171 := Tryz.zeroValue188
 t173 := Tryz.underlying191
 a173 := Tryz.isAgg191
 z173 := Tryz.sizeOf191
 v173 := Tryz.zeroValue191
 t175 := Tryz.underlying194
 a175 := Tryz.isAgg194
 z175 := Tryz.sizeOf194
 v175 := Tryz.zeroValue194
 t210 := Tryz.underlying222
 a210 := Tryz.isAgg222
 z210 := Tryz.sizeOf222
 v210 := Tryz.zeroValue222
 t212 := Tryz.underlying216
 a212 := Tryz.isAgg216
 z212 := Tryz.sizeOf216
 v212 := Tryz.zeroValue216
 t213 := Tryz.underlying217
 a213 := Tryz.isAgg217
 z213 := Tryz.sizeOf217
 t232 := Tryz.underlying230
 a232 := Tryz.isAgg230
 z232 := Tryz.sizeOf230
 v232 := Tryz.zeroValue230
 t233 := Tryz.underlying231
 a233 := Tryz.isAgg231
 z233 := Tryz.sizeOf231
 v233 := Tryz.zeroValue231
 g15 := by kernel_rfl
 g16 := by kernel_rfl
 g17 := by kernel_rfl
 g18 := by kernel_rfl
 g19 := by kernel_rfl
 t80 := Tryz.underlying60
 a80 := Tryz.isAgg60
 z80 := Tryz.sizeOf60
 v80 := Tryz.zeroValue60
 i0 := by kernel_rfl
 i2 := by kernel_rfl
 i3 := by kernel_rfl
 i4 := by kernel_rfl
 i5 := by kernel_rfl
 i9 := by kernel_rfl
 i20 := by kernel_rfl
 i21 := by kernel_rfl
 i37 := by kernel_rfl
 i46 := by kernel_rfl
 i51 := by kernel_rfl
 i53 := by kernel_rfl
 i75 := by kernel_rfl
 i80 := by kernel_rfl
 i85 := by kernel_rfl
 i127 := by kernel_rfl
 i143 := by kernel_rfl
 i145 := by kernel_rfl
 i167 := by kernel_rfl
 i168 := by kernel_rfl
 i171 := by kernel_rfl
 i173 := by kernel_rfl
 i175 := by kernel_rfl
 i210 := by kernel_rfl
 i212 := by kernel_rfl
 i232 := by kernel_rfl
 i233 := by kernel_rfl
 m15 := by kernel_rfl
 m16 := by kernel_rfl
 m17 := by kernel_rfl
 m18 := by kernel_rfl
 m19 := by kernel_rfl
 c0 := by kernel_rfl
 c2 := by kernel_rfl
 c3 := by kernel_rfl
 c4 := by kernel_rfl
 c5 := by kernel_rfl
 c9 := by kernel_rfl
 c20 := by kernel_rfl
 c21 := by kernel_rfl
 c37 := by kernel_rfl
 c46 := by kernel_rfl
 c51 := by kernel_rfl
 c53 := by kernel_rfl
 c75 := by kernel_rfl
 c80 := by kernel_rfl
 c85 := by kernel_rfl
 c127 := by kernel_rfl
 c143 := by kernel_rfl
 c145 := by kernel_rfl
 c167 := by kernel_rfl
 c168 := by kernel_rfl
 c171 := by kernel_rfl
 c173 := by kernel_rfl
 c175 := by kernel_rfl
 c210 := by kernel_rfl
 c212 := by kernel_rfl
 c213 := by kernel_rfl
 c232 := by kernel_rfl
 c233 := by kernel_rfl }
def Tryz.lays146_ren : Go.Shelf.Ren := ⟨fun | 146 => 17 | 221 => 35 | 268 => 74 | 138 => 75 | 143 => 76 | 195 => 104 | 197 => 78 | 218 => 105 | 219 => 106 | 260 => 108 | 217 => 119 | 225 => 120 | 224 => 121 | 267 => 122 | 266 => 136 | 314 => 137 | n => n, fun | 9 => 9 | 31 => 40 | 3 => 3 | 4 => 4 | 0 => 0 | 105 => 131 | 21 => 21 | 5 => 5 | 46 => 29 | 119 => 170 | 139 => 179 | 138 => 178 | 146 => 136 | 51 => 121 | n => n, fun | 1 => 2 | 3 => 3 | 4 => 4 | n => n⟩
theorem Tryz.lays146 : Go.Proofs.Lays.n146 Tryz.prog Tryz.lays146_ren := {
 mixed := by kernel_rfl
 f138 := Tryz.func75.trans (congrArg some (by kernel_rfl))
 f143 := Tryz.func76.trans (congrArg some (by kernel_rfl))
 f146 := Tryz.func17.trans (congrArg some (by kernel_rfl))
 f195 := Tryz.func104.trans (congrArg some (by kernel_rfl))
 f197 := Tryz.func78.trans (congrArg some (by kernel_rfl))
 f217 := Tryz.func119.trans (congrArg some (by kernel_rfl))
 f218 := Tryz.func105.trans (congrArg some (by kernel_rfl))
 f219 := Tryz.func106.trans (congrArg some (by kernel_rfl))
 f221 := Tryz.func35.trans (congrArg some (by kernel_rfl))
 f224 := Tryz.func121.trans (congrArg some (by kernel_rfl))
 f225 := Tryz.func120.trans (congrArg some (by kernel_rfl))
 f260 := Tryz.func108.trans (congrArg some (by kernel_rfl))
 f266 := Tryz.func136.trans (congrArg some (by kernel_rfl))
 f267 := Tryz.func122.trans (congrArg some (by kernel_rfl))
 f268 := Tryz.func74.trans (congrArg some (by kernel_rfl))
 f314 := Tryz.func137.trans (congrArg some (by kernel_rfl))
 t0 := Tryz.underlying0
 a0 := Tryz.isAgg0
 z0 := Tryz.sizeOf0
 v0 := Tryz.zeroValue0
 t3 := Tryz.underlying3
 a3 := Tryz.isAgg3
 z3 := Tryz.sizeOf3
 v3 := Tryz.zeroValue3
 t4 := Tryz.underlying4
 a4 := Tryz.isAgg4
 z4 := Tryz.sizeOf4
 v4 := Tryz.zeroValue4
 t5 := Tryz.underlying5
 a5 := Tryz.isAgg5
 z5 := Tryz.sizeOf5
 v5 := Tryz.zeroValue5
 t9 := Tryz.underlying9
 a9 := Tryz.isAgg9
 z9 := Tryz.sizeOf9
 v9 := Tryz.zeroValue9
 t21 := Tryz.underlying21
 a21 := Tryz.isAgg21
 z21 := Tryz.sizeOf21
 v21 := Tryz.zeroValue21
 t31 := Tryz.underlying40
 a31 := Tryz.isAgg40
 z31 := Tryz.sizeOf40
 v31 := Tryz.zeroValue40
 t46 := Tryz.underlying29
 a46 := Tryz.isAgg29
 z46 := Tryz.sizeOf29
 v46 := Tryz.zeroValue29
 t51 := Tryz.underlying121
 a51 := Tryz.isAgg121
 z51 := Tryz.sizeOf121
 v51 := Tryz.zeroValue121
 t105 := Tryz.underlying131
 a105 := Tryz.isAgg131
 z105 := Tryz.sizeOf131
 v105 := Tryz.zeroValue131
 t119 := Tryz.underlying170
 a119 := Tryz.isAgg170
 z119 := Tryz.sizeOf170
 t138 := Tryz.underlying178
 a138 := Tryz.isAgg178
 z138 := Tryz.sizeOf178
 v138 := Tryz.zeroValue178
 t139 := Tryz.underlying179
 a139 := Tryz.isAgg179
 z139 := Tryz.sizeOf179
 v139 := Tryz.zeroValue179
 t146 := Tryz.underlying136
 a146 := Tryz.isAgg136
 z146 := Tryz.sizeOf136
 v146 := Tryz.zeroValue136
 g1 := by kernel_rfl
 g3 := by kernel_rfl
 g4 := by kernel_rfl }
def Tryz.lays157_ren : Go.Shelf.Ren := ⟨fun | 157 => 92 | 229 => 112 | 199 => 113 | 261 => 126 | 311 => 138 | 312 => 139 | n => n, fun | 9 => 9 | 31 => 40 | 3 => 3 | 5 => 5 | 4 => 4 | 119 => 170 | 0 => 0 | 40 => 172 | 152 => 183 | 21 => 21 | 154 => 185 | 51 => 121 | 141 => 187 | 196 => 207 | 193 => 204 | 198 => 210 | 49 => 208 | 194 => 205 | 201 => 213 | 226 => 224 | 46 => 29 | 227 => 225 | n => n, fun | 0 => 1 | 6 => 5 | n => n⟩
theorem Tryz.lays157 : Go.Proofs.Lays.n157 Tryz.prog Tryz.lays157_ren := {
 mixed := by kernel_rfl
 f157 := Tryz.func92.trans (congrArg some (by kernel_rfl))
 f199 := Tryz.func113.trans (congrArg some (by kernel_rfl))
 f229 := Tryz.func112.trans (congrArg some (by kernel_rfl))
 f261 := Tryz.func126.trans (congrArg some (by kernel_rfl))
 f311 := Tryz.func138.trans (congrArg some (by kernel_rfl))
 f312 := Tryz.func139.trans (congrArg some (by kernel_rfl))
 t0 := Tryz.underlying0
 a0 := Tryz.isAgg0
 z0 := Tryz.sizeOf0
 v0 := Tryz.zeroValue0
 t3 := Tryz.underlying3
 a3 := Tryz.isAgg3
 z3 := Tryz.sizeOf3
 v3 := Tryz.zeroValue3
 t4 := Tryz.underlying4
 a4 := Tryz.isAgg4
 z4 := Tryz.sizeOf4
 v4 := Tryz.zeroValue4
 t5 := Tryz.underlying5
 a5 := Tryz.isAgg5
 z5 := Tryz.sizeOf5
 v5 := Tryz.zeroValue5
 t9 := Tryz.underlying9
 a9 := Tryz.isAgg9
 z9 := Tryz.sizeOf9
 v9 := Tryz.zeroValue9
 t21 := Tryz.underlying21
 a21 := Tryz.isAgg21
 z21 := Tryz.sizeOf21
 v21 := Tryz.zeroValue21
 t31 := Tryz.underlying40
 a31 := Tryz.isAgg40
 z31 := Tryz.sizeOf40
 v31 := Tryz.zeroValue40
 t40 := Tryz.underlying172
 a40 := Tryz.isAgg172
 z40 := Tryz.sizeOf172
 v40 := Tryz.zeroValue172
 t46 := Tryz.underlying29
 a46 := Tryz.isAgg29
 z46 := Tryz.sizeOf29
 v46 := Tryz.zeroValue29
 t49 := Tryz.underlying208
 a49 := Tryz.isAgg208
 z49 := Tryz.sizeOf208
 v49 := Tryz.zeroValue208
 t51 := Tryz.underlying121
 a51 := Tryz.isAgg121
 z51 := Tryz.sizeOf121
 v51 := Tryz.zeroValue121
 t119 := Tryz.underlying170
 a119 := Tryz.isAgg170
 z119 := Tryz.sizeOf170
 t141 := Tryz.underlying187
 a141 := Tryz.isAgg187
 z141 := Tryz.sizeOf187
 v141 := Tryz.zeroValue187
 t152 := Tryz.underlying183
 a152 := Tryz.isAgg183
 z152 := Tryz.sizeOf183
 v152 := Tryz.zeroValue183
 t154 := Tryz.underlying185
 a154 := Tryz.isAgg185
 z154 := Tryz.sizeOf185
 v154 := Tryz.zeroValue185
 t193 := Tryz.underlying204
 a193 := Tryz.isAgg204
 z193 := Tryz.sizeOf204
 v193 := Tryz.zeroValue204
 t194 := Tryz.underlying205
 a194 := Tryz.isAgg205
 z194 := Tryz.sizeOf205
 v194 := Tryz.zeroValue205
 t196 := Tryz.underlying207
 a196 := Tryz.isAgg207
 z196 := Tryz.sizeOf207
 v196 := Tryz.zeroValue207
 t198 := Tryz.underlying210
 a198 := Tryz.isAgg210
 z198 := Tryz.sizeOf210
 v198 := Tryz.zeroValue210
 t201 := Tryz.underlying213
 a201 := Tryz.isAgg213
 z201 := Tryz.sizeOf213
 v201 := Tryz.zeroValue213
 t226 := Tryz.underlying224
 a226 := Tryz.isAgg224
 z226 := Tryz.sizeOf224
 v226 := Tryz.zeroValue224
 t227 := Tryz.underlying225
 a227 := Tryz.isAgg225
 z227 := Tryz.sizeOf225
 v227 := Tryz.zeroValue225
 g0 := by kernel_rfl
 g6 := by kernel_rfl }
end Go.Proofs
namespace Go.HW
open Go
def spl (c : UInt8) : List UInt8 → List (List UInt8)
 | [] => [[]]
 | b :: l => bif b == c then [] :: spl c l else match spl c l with | x :: r => (b :: x) :: r | [] => [[b]]
theorem spl_ne (c : UInt8) : ∀ l, spl c l ≠ []
 | [] => by simp [spl]
 | b :: l => by
  unfold spl
  cases b == c
  ·cases spl c l <;> simp
  ·simp
theorem index_cons (b c : UInt8) (l : List UInt8) : Lib.index (b :: l) [c] = if b = c then 0 else if Lib.index l [c] = -1 then -1 else Lib.index l [c] + 1 := by
 rw [Lib.index]
 simp only [List.isPrefixOf, Bool.and_true, beq_iff_eq, eq_comm (a := c)]
theorem splitK_spl (c : UInt8) : ∀ l : List UInt8, Lib.splitK [c] 0 (Lib.count l [c]) l = spl c l
 | [] => by simp [Lib.count_one, Lib.splitK, spl]
 | b :: l => by
  have ih := splitK_spl c l
  rw [Lib.count_one] at ih ⊢
  by_cases hb : b = c
  ·subst hb
   rw [List.count_cons_self, Lib.splitK, index_cons]
   simp [ih, spl]
  ·have hge := Lib.index_ge l [c]
   rw [List.count_cons_of_ne (by simpa using hb)]
   cases hk : List.count c l with
   | zero =>
    rw [hk] at ih
    simp only [Lib.splitK] at ih
    rw [Lib.splitK, spl, ← ih, show (b == c) = false from by simpa using hb]
    rfl
   | succ k =>
    rw [hk] at ih
    have hi : Lib.index l [c] ≠ -1 := fun e => by
     have h0 := Lib.count_miss (s := l) (sub := [c]) e
     rw [Lib.count_one, hk] at h0
     cases h0
    rw [Lib.splitK, index_cons, if_neg hb, if_neg hi]
    rw [Lib.splitK] at ih
    simp only [beq_iff_eq, hi, if_false, List.length_cons, List.length_nil, Nat.add_zero] at ih ⊢
    have e1 : ¬ (Lib.index l [c] + 1 = -1) := by omega
    have e2 : (Lib.index l [c] + 1).toNat = (Lib.index l [c]).toNat + 1 := by omega
    rw [if_neg e1, e2]
    simp only [List.take_succ_cons, Nat.add_right_comm _ 1 (0 + 1), List.drop_succ_cons]
    unfold spl
    rw [← ih, show (b == c) = false from by simpa using hb]
    rfl
def digs : Nat → Nat → List UInt8 → List UInt8
 | 0, _, a => a
 | f + 1, u, a => bif Nat.blt u 10 then UInt8.ofNat (48 + u) :: a else digs f (u / 10) (UInt8.ofNat (48 + u % 10) :: a)
theorem digs_eq : ∀ (f u : Nat) (a : List UInt8), u < 10 ^ f → 0 < f → digs f u a = Lib.decDigits u ++ a
 | 0, _, _, _, h => by omega
 | f + 1, u, a, h, _ => by
  unfold digs
  rw [Lib.decDigits]
  by_cases hu : u < 10
  ·have hb : Nat.blt u 10 = true := by simpa [Nat.blt_eq] using hu
   rw [hb, cond_true, dif_pos hu]; rfl
  ·have hb : Nat.blt u 10 = false := by
    cases he : Nat.blt u 10
    ·rfl
    ·exact absurd (by simpa [Nat.blt_eq] using he) hu
   rw [hb, cond_false, dif_neg hu]
   have hf : 0 < f := by
    rcases Nat.eq_zero_or_pos f with rfl | h'
    ·simp at h; omega
    ·exact h'
   rw [digs_eq f (u / 10) _ (by rw [Nat.pow_succ] at h; omega) hf]
   simp
def itoaL (n : Int) : List UInt8 := bif decide (n < 0) then 45 :: digs 20 n.natAbs [] else digs 20 n.toNat []
theorem itoaL_eq (n : Int) (h0 : -9223372036854775808 ≤ n) (h1 : n ≤ 9223372036854775807) : itoaL n = Lib.itoa n := by
 unfold itoaL Lib.itoa
 by_cases hn : n < 0
 ·simp only [hn, decide_true, cond_true, if_true]
  rw [digs_eq 20 _ _ (by omega) (by omega), List.append_nil]
 ·simp only [hn, decide_false, cond_false, if_false]
  rw [digs_eq 20 _ _ (by omega) (by omega), List.append_nil]
end Go.HW
namespace Go.Proofs.YtfjefnnbodgfbaaGreatDoor
open Go Go.HW Go.RowKit Go.Shelf
set_option linter.unusedVariables false
theorem tabIs {w : World} {name : String} {g : Nat} {k : IntKind} {zs : List Int} (hg : Tryz.prog.globalNamed name = some g) (h : TabAt w g k zs) : Lib.TabIs Tryz.prog w name k zs := by
 obtain ⟨T, fz, h⟩ := h
 unfold Lib.TabIs World.var?
 rw [hg]; simp [h]
theorem tab10 {w : World} (h : GlW w) : Lib.TabIs Tryz.prog w "internal/strconv.uint64pow10" .u64 Lib.pow10Tab := tabIs (by kernel_rfl) h.2.2.2.1
theorem tabSp {w : World} (h : GlW w) : Lib.TabIs Tryz.prog w "strings.asciiSpace" .u8 Lib.asciiSpaceTab := tabIs (by kernel_rfl) h.2.2.2.2
theorem bel {w : World} {k : Nat} {os : Array Obj} : Below w.heap.size w (Sort.grow (w.drewN k) os) :=
 (show Below w.heap.size w (w.drewN k) from ⟨rfl, rfl, rfl, Nat.le_refl _, fun _ _ => rfl⟩).trans ⟨rfl, rfl, rfl, by simp [Sort.grow], fun i hi => by
  have : i < (w.drewN k).heap.size := hi
  show (w.heap ++ os)[i]? = w.heap[i]?
  exact Array.getElem?_append_left hi⟩
theorem dens1 {x : Value} : ∀ ρ, SV.dens ρ [.v x] = some [x] := fun ρ => dens_v [x]
theorem dens2 {x y : Value} : ∀ ρ, SV.dens ρ [.v x, .v y] = some [x, y] := fun ρ => dens_v [x, y]
theorem dens3 {x y z : Value} : ∀ ρ, SV.dens ρ [.v x, .v y, .v z] = some [x, y, z] := fun ρ => dens_v [x, y, z]
def in64 (n : Int) : Bool := decide (-9223372036854775808 ≤ n) && decide (n ≤ 9223372036854775807)
def fn53 (p0 : Int) : Option ByteArray := bif in64 p0 then some ⟨(itoaL p0).toArray⟩ else none
theorem c53 (p0 : Int) (r : ByteArray) (h : fn53 p0 = some r) : Con Tryz.prog 53 [.v (.int .i64 p0)] [] 0 (.v (.string r)) [] 0 := by
 obtain ⟨hk, hr⟩ := ck h
 cases hr
 simp only [in64, Bool.and_eq_true, decide_eq_true_eq] at hk
 rw [itoaL_eq p0 hk.1 hk.2]
 refine Con.vals dens1 fun w hg => Calls.mono (Any.strconv_Itoa Tryz.laysM171 p0 hk.1 hk.2 w (tab10 hg)) ?_
 rintro e w' ⟨rfl, k, os, rfl⟩
 exact ⟨rfl, bel⟩
def fn100 (p0 p1 : Int) : Option ByteArray := bif in64 p0 && decide (p1 = 10) then some ⟨(itoaL p0).toArray⟩ else none
theorem c100 (p0 p1 : Int) (r : ByteArray) (h : fn100 p0 p1 = some r) : Con Tryz.prog 100 [.v (.int .i64 p0), .v (.int .i64 p1)] [] 0 (.v (.string r)) [] 0 := by
 obtain ⟨hk, hr⟩ := ck h
 cases hr
 simp only [in64, Bool.and_eq_true, decide_eq_true_eq] at hk
 obtain ⟨hk, rfl⟩ := hk
 rw [itoaL_eq p0 hk.1 hk.2]
 refine Con.vals dens2 fun w hg => Calls.mono (Any.strconv_FormatInt_10 Tryz.laysM173 p0 hk.1 hk.2 w (tab10 hg)) ?_
 rintro e w' ⟨rfl, k, os, rfl⟩
 exact ⟨rfl, bel⟩
def fn101 (p0 : ByteArray) (p1 p2 : Int) : Option (Int ⊕ Int) :=
 bif decide (p1 = 10) && (decide (p2 = 64) || decide (p2 = 32) || decide (p2 = 16)) && decide (p0.size ≤ 281474976710656) then
  match Lib.parseIntB p2.toNat p0.data.toList with
  | .ok v => some (.inl v)
  | .range => some (.inr (Lib.intSat p2.toNat p0.data.toList))
  | _ => some (.inr 0)
 else none
theorem fn101_pre {p0 : ByteArray} {p1 p2 : Int} {r : Int ⊕ Int} (h : fn101 p0 p1 p2 = some r) : p1 = 10 ∧ (p2 = 64 ∨ p2 = 32 ∨ p2 = 16) ∧ p0.size ≤ 281474976710656 ∧
  match Lib.parseIntB p2.toNat p0.data.toList with
  | .ok v => r = .inl v
  | .range => r = .inr (Lib.intSat p2.toNat p0.data.toList)
  | _ => r = .inr 0 := by
 obtain ⟨hk, h⟩ := ck h
 simp only [Bool.and_eq_true, Bool.or_eq_true, decide_eq_true_eq] at hk
 refine ⟨hk.1.1, by omega, hk.2, ?_⟩
 revert h
 cases Lib.parseIntB p2.toNat p0.data.toList <;> intro h <;> simpa [eq_comm] using h
theorem c101_0 (p0 : ByteArray) (p1 p2 : Int) (r : Int) (h : fn101 p0 p1 p2 = some (.inl r)) : Con Tryz.prog 101 [.v (.string p0), .v (.int .i64 p1), .v (.int .i64 p2)] [] 0 (.tu [.v (.int .i64 r), .v .nilIface]) [] 0 := by
 obtain ⟨rfl, hb, hs, hm⟩ := fn101_pre h
 have hv : Lib.parseIntB p2.toNat p0.data.toList = .ok r := by
  revert hm
  cases Lib.parseIntB p2.toNat p0.data.toList <;> intro hm <;> simp at hm
  rw [hm]
 have hz : p0.size ≤ 9223372036854775806 := by omega
 have key : ∀ w, Calls Tryz.prog 101 #[.string p0, .int .i64 10, .int .i64 p2] w fun e w' => e = .returned (.tuple #[.int .i64 r, .nilIface]) ∧ (w' = w ∨ ∃ t, w' = Lib.bytesWorld w 5 t) := fun w => by
  rcases hb with rfl | rfl | rfl
  ·exact Any.strconv_ParseInt_10_at64_ok Tryz.laysC174 p0 hz r hv w
  ·exact Any.strconv_ParseInt_10_at32_ok Tryz.laysC174 p0 hz r hv w
  ·exact Any.strconv_ParseInt_10_at16_ok Tryz.laysC174 p0 hz r hv w
 refine Con.below (Hn := []) (fun w ρ F us hu hR hf hh gl => ?_) (fun w ρ ρ' F hg hf hR => hR)
 rw [dens3 ρ] at hu; cases hu
 refine Calls.mono (key w) ?_
 rintro e w' ⟨rfl, hw⟩
 have hbl : Below w.heap.size w w' := by
  rcases hw with rfl | ⟨t, rfl⟩
  ·exact Below.refl _ _
  ·exact ⟨rfl, rfl, rfl, by rw [Lib.bytesWorld_size]; omega, fun k hk => Lib.bytesWorld_at_old w 5 t k hk⟩
 exact ⟨_, ρ, [], rfl, hbl, .refl hf, by simp [SV.den, SV.dens], rfl, by simp, by simp, by simp⟩
theorem c101_1 (p0 : ByteArray) (p1 p2 : Int) (r : Int) (h : fn101 p0 p1 p2 = some (.inr r)) : Con Tryz.prog 101 [.v (.string p0), .v (.int .i64 p1), .v (.int .i64 p2)] [] 0 (.tu [.v (.int .i64 r), .fc 196 (.p 0 0)]) [] 1 := by
 obtain ⟨rfl, hb, hs, hm⟩ := fn101_pre h
 have key : ∀ w, GlW w → Calls Tryz.prog 101 #[.string p0, .int .i64 10, .int .i64 p2] w fun e w' => ∃ N, e = .returned (.tuple #[.int .i64 r, .iface 196 (.pointer (some ⟨N, 0, none⟩))]) ∧ Below w.heap.size w w' := fun w hg => by
  obtain ⟨_, ⟨e7, h7, k7⟩, ⟨e8, h8, k8⟩, _⟩ := hg
  cases hv : Lib.parseIntB p2.toNat p0.data.toList
  ·rw [hv] at hm; cases hm
  ·rw [hv] at hm
   obtain rfl : r = 0 := by simpa using hm
   have : Calls Tryz.prog 101 #[.string p0, .int .i64 10, .int .i64 p2] w fun e w' => ∃ N, e = .returned (.tuple #[.int .i64 (0), .iface 196 (.pointer (some ⟨N, 0, none⟩))]) ∧ w.heap.size ≤ N ∧ w'.heap[N]? = some (.cells #[.string ⟨#[80, 97, 114, 115, 101, 73, 110, 116]⟩, .string p0, e7] 222 (0, 0)) ∧ Below w.heap.size w w' := by
    rcases hb with rfl | rfl | rfl
    ·exact Any.strconv_ParseInt_10_at64_syntax Tryz.laysC174 p0 hs hv e7 w h7 k7
    ·exact Any.strconv_ParseInt_10_at32_syntax Tryz.laysC174 p0 hs hv e7 w h7 k7
    ·exact Any.strconv_ParseInt_10_at16_syntax Tryz.laysC174 p0 hs hv e7 w h7 k7
   exact Calls.mono this fun e w' ⟨N, h1, _, _, h2⟩ => ⟨N, h1, h2⟩
  ·rw [hv] at hm
   obtain rfl : r = Lib.intSat p2.toNat p0.data.toList := by simpa using hm
   have : Calls Tryz.prog 101 #[.string p0, .int .i64 10, .int .i64 p2] w fun e w' => ∃ N, e = .returned (.tuple #[.int .i64 (Lib.intSat p2.toNat p0.data.toList), .iface 196 (.pointer (some ⟨N, 0, none⟩))]) ∧ w.heap.size ≤ N ∧ w'.heap[N]? = some (.cells #[.string ⟨#[80, 97, 114, 115, 101, 73, 110, 116]⟩, .string p0, e8] 222 (0, 0)) ∧ Below w.heap.size w w' := by
    rcases hb with rfl | rfl | rfl
    ·exact Any.strconv_ParseInt_10_at64_range Tryz.laysC174 p0 hs hv e8 w h8 k8
    ·exact Any.strconv_ParseInt_10_at32_range Tryz.laysC174 p0 hs hv e8 w h8 k8
    ·exact Any.strconv_ParseInt_10_at16_range Tryz.laysC174 p0 hs hv e8 w h8 k8
   exact Calls.mono this fun e w' ⟨N, h1, _, _, h2⟩ => ⟨N, h1, h2⟩
 refine Con.below (Hn := []) (fun w ρ F us hu hR hf hh gl => ?_) (fun w ρ ρ' F hg hf hR => hR)
 rw [dens3 ρ] at hu; cases hu
 refine Calls.mono (key w (gl w (Ext.refl _ _))) ?_
 rintro e w' ⟨N, rfl, hbl⟩
 exact ⟨_, ρ.set 0 ⟨some ⟨N, 0, none⟩, 0, 0⟩, [], rfl, hbl, Env.set_grow hf, by simp [SV.den, SV.dens, Env.set_self, blkOf], rfl, by simp, by simp, by simp⟩
theorem encs_str : ∀ l : List ByteArray, l.flatMap En.str.enc = l.map .string := fun l => by
 induction l with
 | nil => rfl
 | cons x l ih => simp only [List.flatMap_cons, List.map_cons, ih]; rfl
theorem newRow {k : FuncId} {args : List SV} {vs : List Value} (ha : ∀ ρ, SV.dens ρ args = some vs) (r : List ByteArray) (hr : r.length ≤ maxLen)
  (h : ∀ w, GlW w → Calls Tryz.prog k vs.toArray w fun e w' => e = .returned (.slice (some ⟨w.heap.size, 0, none⟩) r.length r.length) ∧ w' = w.alloc (.cells (r.map Value.string).toArray 9)) :
  Con Tryz.prog k args [] 0 (.sl 0) [(0, .row Et.str 9 r r.length .unk)] 1 := by
 refine Con.below (H := []) (Hn := [(0, .row Et.str 9 r r.length .unk)]) (fun w ρ F us hu hR hf hh gl => ?_) (fun w ρ ρ' F hg hf hR => hR)
 rw [ha ρ] at hu; cases hu
 refine Calls.mono (h w (gl w (Ext.refl _ _))) ?_
 rintro e w' ⟨rfl, rfl⟩
 refine ⟨_, ρ.set 0 ⟨some ⟨w.heap.size, 0, none⟩, r.length, r.length⟩, [[(w.heap.size, .cells (r.map Value.string).toArray 9 (0, 0))]], rfl, (Below.refl _ w).alloc (Nat.le_refl _) _, Env.set_grow hf, by rw [SV.den, Env.set_self]; rfl,
  ⟨_, [], rfl, ⟨some ⟨w.heap.size, 0, none⟩, r.length, Env.set_self, rfl, .inr ⟨w.heap.size, _, rfl, ⟨(0, 0), nofz0, rfl⟩, Nat.le_refl _, hr, ?_, ?_⟩, trivial⟩, rfl⟩, by simp, by simp, ?_⟩
 ·show (r.map Value.string).toArray.size = r.length * 1
  simp
 ·show ((r.map Value.string).toArray.toList).take (r.length * 1) = r.flatMap En.str.enc
  rw [encs_str, List.take_of_length_le (by simp)]
 ·intro p hp
  simp only [List.flatten_cons, List.flatten_nil, List.append_nil, List.mem_singleton] at hp
  subst hp
  show (w.heap.push _)[w.heap.size]? = _
  exact Array.getElem?_push_size
def fn17 (p0 p1 : ByteArray) : Option (List ByteArray) :=
 match p1.data.toList with
 | [c] => bif decide (p0.size < 4294967281) then some ((spl c p0.data.toList).map fun l => ⟨l.toArray⟩) else none
 | _ => none
theorem c17 (p0 p1 : ByteArray) (r : List ByteArray) (h : fn17 p0 p1 = some r) : Con Tryz.prog 17 [.v (.string p0), .v (.string p1)] [] 0 (.sl 0) [(0, .row Et.str 9 r r.length .unk)] 1 := by
 unfold fn17 at h
 split at h
 case h_2 => cases h
 case h_1 c hc =>
  obtain ⟨hs, h⟩ := ck h
  simp only [decide_eq_true_eq] at hs
  have hsz : p1.size = 1 := by
   have := congrArg List.length hc
   simpa using this
  have e1 : Lib.splitB p1 0 (Lib.countB p0 p1) p0 = r := by
   have e := Lib.splitB_data p1 0 (Lib.countB p0 p1) p0
   rw [hc, show Lib.countB p0 p1 = Lib.count p0.data.toList [c] from by rw [← hc], splitK_spl] at e
   rw [← hc] at e
   have h2 := congrArg (List.map fun l : List UInt8 => (⟨l.toArray⟩ : ByteArray)) e
   rw [List.map_map] at h2
   have : (fun l : List UInt8 => (⟨l.toArray⟩ : ByteArray)) ∘ (fun x : ByteArray => x.data.toList) = id := by funext x; rfl
   rw [this, List.map_id] at h2
   exact h2.trans (Option.some.inj h)
  have hlen : r.length = Lib.countB p0 p1 + 1 := by rw [← e1, Lib.splitB_all p1 (by omega) 0 _ p0 rfl]
  have hle := Lib.countB_le p1 (by omega) p0.size p0 (Nat.le_refl _)
  refine newRow dens2 r (by rw [hlen]; simp only [maxLen]; omega) fun w hg => ?_
  obtain ⟨⟨m, hm⟩, _⟩ := hg
  have h5 := Any.strings_Split Tryz.lays146 (by kernel_rfl) p0 p1 m w hs hm (by omega)
  rw [e1, ← hlen] at h5
  exact h5
theorem cntF_le : ∀ (l : List UInt8) (b : Bool), Lib.cntF b l ≤ l.length
 | [], _ => Nat.le_refl _
 | x :: l, b => by
  have := cntF_le l (Lib.isSp x)
  unfold Lib.cntF
  simp only [List.length_cons]
  split <;> omega
def fn92 (p0 : ByteArray) : Option (List ByteArray) := bif decide (p0.size < 4294967281) && p0.data.toList.all (fun b => decide (b.toNat < 128)) then some ((Lib.fields p0.data.toList).map fun l => ⟨l.toArray⟩) else none
theorem c92 (p0 : ByteArray) (r : List ByteArray) (h : fn92 p0 = some r) : Con Tryz.prog 92 [.v (.string p0)] [] 0 (.sl 0) [(0, .row Et.str 9 r r.length .unk)] 1 := by
 obtain ⟨hk, h⟩ := ck h
 simp only [Bool.and_eq_true, decide_eq_true_eq, List.all_eq_true] at hk
 have hr := Option.some.inj h
 have hlen : r.length = (Lib.fields p0.data.toList).length := by rw [← hr]; simp
 refine newRow dens1 r ?_ fun w hg => ?_
 ·rw [hlen, Lib.fields_length]
  have := cntF_le p0.data.toList true
  have h3 : p0.data.toList.length = p0.size := by simp
  simp only [maxLen]; omega
 ·have := Any.strings_Fields Tryz.lays157 (by kernel_rfl) (by kernel_rfl) p0 w hk.1 (fun j b hj => hk.2 b (List.mem_of_getElem? hj)) (tabSp hg)
  rw [← hlen] at this
  have e3 : (Lib.fields p0.data.toList).map (fun l => Value.string ⟨l.toArray⟩) = r.map Value.string := by rw [← hr, List.map_map]; rfl
  rw [e3] at this
  exact this
def fn19 (p0 : List ByteArray) (p1 : ByteArray) : Option ByteArray :=
 bif decide (p0.length ≤ 140737488355328) && decide ((Lib.join (p0.map (·.data.toList)) p1.data.toList).length ≤ 140737488355328) then some ⟨(Lib.join (p0.map (·.data.toList)) p1.data.toList).toArray⟩ else none
end Go.Proofs.YtfjefnnbodgfbaaGreatDoor
namespace Go.Proofs
open Go.Shelf
def Tryz.lays158_ren : Go.Shelf.Ren := ⟨fun | 158 => 18 | 165 => 36 | 166 => 27 | 167 => 37 | 169 => 28 | 230 => 38 | 203 => 39 | 240 => 61 | 241 => 77 | 197 => 78 | 118 => 79 | 168 => 80 | 270 => 81 | 262 => 82 | 276 => 98 | 277 => 107 | 260 => 108 | 242 => 109 | 313 => 110 | 278 => 123 | 274 => 124 | 275 => 125 | n => n, fun | 9 => 9 | 4 => 4 | 3 => 3 | 5 => 5 | 72 => 53 | 0 => 0 | 76 => 58 | 75 => 57 | 107 => 74 | 70 => 50 | 20 => 20 | 37 => 51 | 127 => 110 | 21 => 21 | 105 => 131 | 164 => 154 | 162 => 167 | 203 => 165 | 119 => 170 | 46 => 29 | 139 => 179 | 138 => 178 | 51 => 121 | 160 => 180 | 208 => 203 | 206 => 201 | 80 => 60 | n => n, fun | 13 => 0 | 3 => 3 | 4 => 4 | n => n⟩
theorem Tryz.lays158 : Go.Proofs.Lays.n158 Tryz.prog Tryz.lays158_ren := {
 mixed := by kernel_rfl
 f118 := Tryz.func79.trans (congrArg some (by kernel_rfl))
 f158 := Tryz.func18.trans (congrArg some (by kernel_rfl))
 f165 := Tryz.func36.trans (congrArg some (by kernel_rfl))
 f166 := Tryz.func27.trans (congrArg some (by kernel_rfl))
 f167 := Tryz.func37.trans (congrArg some (by kernel_rfl))
 f168 := Tryz.func80.trans (congrArg some (by kernel_rfl))
 f169 := Tryz.func28.trans (congrArg some (by kernel_rfl))
 f197 := Tryz.func78.trans (congrArg some (by kernel_rfl))
 f203 := Tryz.func39.trans (congrArg some (by kernel_rfl))
 f230 := Tryz.func38.trans (congrArg some (by kernel_rfl))
 f240 := Tryz.func61.trans (congrArg some (by kernel_rfl))
 f241 := Tryz.func77.trans (congrArg some (by kernel_rfl))
 f242 := Tryz.func109.trans (congrArg some (by kernel_rfl))
 f260 := Tryz.func108.trans (congrArg some (by kernel_rfl))
 f262 := Tryz.func82.trans (congrArg some (by kernel_rfl))
 f270 := Tryz.func81.trans (congrArg some (by kernel_rfl))
 f274 := Tryz.func124.trans (congrArg some (by kernel_rfl))
 f275 := Tryz.func125.trans (congrArg some (by kernel_rfl))
 f276 := Tryz.func98.trans (congrArg some (by kernel_rfl))
 f277 := Tryz.func107.trans (congrArg some (by kernel_rfl))
 f278 := Tryz.func123.trans (congrArg some (by kernel_rfl))
 f313 := Tryz.func110.trans (congrArg some (by kernel_rfl))
 t0 := Tryz.underlying0
 a0 := Tryz.isAgg0
 z0 := Tryz.sizeOf0
 v0 := Tryz.zeroValue0
 t3 := Tryz.underlying3
 a3 := Tryz.isAgg3
 z3 := Tryz.sizeOf3
 v3 := Tryz.zeroValue3
 t4 := Tryz.underlying4
 a4 := Tryz.isAgg4
 z4 := Tryz.sizeOf4
 v4 := Tryz.zeroValue4
 t5 := Tryz.underlying5
 a5 := Tryz.isAgg5
 z5 := Tryz.sizeOf5
 v5 := Tryz.zeroValue5
 t9 := Tryz.underlying9
 a9 := Tryz.isAgg9
 z9 := Tryz.sizeOf9
 v9 := Tryz.zeroValue9
 t20 := Tryz.underlying20
 a20 := Tryz.isAgg20
 z20 := Tryz.sizeOf20
 v20 := Tryz.zeroValue20
 t21 := Tryz.underlying21
 a21 := Tryz.isAgg21
 z21 := Tryz.sizeOf21
 v21 := Tryz.zeroValue21
 t37 := Tryz.underlying51
 a37 := Tryz.isAgg51
 z37 := Tryz.sizeOf51
 v37 := Tryz.zeroValue51
 t46 := Tryz.underlying29
 a46 := Tryz.isAgg29
 z46 := Tryz.sizeOf29
 v46 := Tryz.zeroValue29
 t51 := Tryz.underlying121
 a51 := Tryz.isAgg121
 z51 := Tryz.sizeOf121
 v51 := Tryz.zeroValue121
 t70 := Tryz.underlying50
 a70 := Tryz.isAgg50
 z70 := Tryz.sizeOf50
 v70 := Tryz.zeroValue50
 t72 := Tryz.underlying53
 a72 := Tryz.isAgg53
 z72 := Tryz.sizeOf53
 v72 := Tryz.zeroValue53
 t75 := Tryz.underlying57
 a75 := Tryz.isAgg57
 z75 := Tryz.sizeOf57
 v75 := Tryz.zeroValue57
 t76 := Tryz.underlying58
 a76 := Tryz.isAgg58
 z76 := Tryz.sizeOf58
 v76 := Tryz.zeroValue58
 t105 := Tryz.underlying131
 a105 := Tryz.isAgg131
 z105 := Tryz.sizeOf131
 v105 := Tryz.zeroValue131
 t107 := Tryz.underlying74
 a107 := Tryz.isAgg74
 z107 := Tryz.sizeOf74
 v107 := Tryz.zeroValue74
 t119 := Tryz.underlying170
 a119 := Tryz.isAgg170
 z119 := Tryz.sizeOf170
 t127 := Tryz.underlying110
 a127 := Tryz.isAgg110
 z127 := Tryz.sizeOf110
 v127 := Tryz.zeroValue110
 t138 := Tryz.underlying178
 a138 := Tryz.isAgg178
 z138 := Tryz.sizeOf178
 v138 := Tryz.zeroValue178
 t139 := Tryz.underlying179
 a139 := Tryz.isAgg179
 z139 := Tryz.sizeOf179
 v139 := Tryz.zeroValue179
 t160 := Tryz.underlying180
 a160 := Tryz.isAgg180
 z160 := Tryz.sizeOf180
 v160 := Tryz.zeroValue180
 t162 := Tryz.underlying167
 a162 := Tryz.isAgg167
 z162 := Tryz.sizeOf167
 v162 := Tryz.zeroValue167
 t164 := Tryz.underlying154
 a164 := Tryz.isAgg154
 z164 := Tryz.sizeOf154
 v164 := Tryz.zeroValue154
 t203 := Tryz.underlying165
 a203 := Tryz.isAgg165
 z203 := Tryz.sizeOf165
 v203 := Tryz.zeroValue165
 t206 := Tryz.underlying201
 a206 := Tryz.isAgg201
 z206 := Tryz.sizeOf201
 v206 := Tryz.zeroValue201
 t208 := Tryz.underlying203
 a208 := Tryz.isAgg203
 z208 := Tryz.sizeOf203
 v208 := Tryz.zeroValue203
 g3 := by kernel_rfl
 g4 := by kernel_rfl
 g13 := by kernel_rfl }
theorem Tryz.Builder_Extra_158 : Builder.Extra Tryz.prog Tryz.lays158_ren := {
 sizeBuilder := by kernel_rfl
 liesBuilder := by kernel_rfl
 t5 := Tryz.underlying5
 a5 := Tryz.isAgg5
 z5 := Tryz.sizeOf5
 v5 := Tryz.zeroValue5
 infoByte := by kernel_rfl
 cellsByte := by kernel_rfl
 sizeByte := by kernel_rfl
 neB5 := by decide }
def Tryz.lays105_ren : Go.Shelf.Ren := ⟨fun | 105 => 20 | 212 => 40 | 99 => 41 | 165 => 36 | 166 => 27 | 170 => 42 | 169 => 28 | 263 => 83 | 264 => 84 | 206 => 85 | 240 => 61 | 241 => 77 | 276 => 98 | 277 => 107 | n => n, fun | 9 => 9 | 3 => 3 | 4 => 4 | 20 => 20 | 0 => 0 | 46 => 29 | 109 => 75 | 5 => 5 | 72 => 53 | 76 => 58 | 51 => 121 | 146 => 136 | 53 => 120 | 148 => 138 | 70 => 50 | 37 => 51 | 75 => 57 | 127 => 110 | 164 => 154 | 80 => 60 | n => n, fun | n => n⟩
theorem Tryz.lays105 : Go.Proofs.Lays.n105 Tryz.prog Tryz.lays105_ren := {
 mixed := by kernel_rfl
 f99 := Tryz.func41.trans (congrArg some (by kernel_rfl))
 f105 := Tryz.func20.trans (congrArg some (by kernel_rfl))
 f165 := Tryz.func36.trans (congrArg some (by kernel_rfl))
 f166 := Tryz.func27.trans (congrArg some (by kernel_rfl))
 f169 := Tryz.func28.trans (congrArg some (by kernel_rfl))
 f170 := Tryz.func42.trans (congrArg some (by kernel_rfl))
 f206 := Tryz.func85.trans (congrArg some (by kernel_rfl))
 f212 := Tryz.func40.trans (congrArg some (by kernel_rfl))
 f240 := Tryz.func61.trans (congrArg some (by kernel_rfl))
 f241 := Tryz.func77.trans (congrArg some (by kernel_rfl))
 f263 := Tryz.func83.trans (congrArg some (by kernel_rfl))
 f264 := Tryz.func84.trans (congrArg some (by kernel_rfl))
 f276 := Tryz.func98.trans (congrArg some (by kernel_rfl))
 f277 := Tryz.func107.trans (congrArg some (by kernel_rfl))
 t0 := Tryz.underlying0
 a0 := Tryz.isAgg0
 z0 := Tryz.sizeOf0
 v0 := Tryz.zeroValue0
 t3 := Tryz.underlying3
 a3 := Tryz.isAgg3
 z3 := Tryz.sizeOf3
 v3 := Tryz.zeroValue3
 t4 := Tryz.underlying4
 a4 := Tryz.isAgg4
 z4 := Tryz.sizeOf4
 v4 := Tryz.zeroValue4
 t5 := Tryz.underlying5
 a5 := Tryz.isAgg5
 z5 := Tryz.sizeOf5
 v5 := Tryz.zeroValue5
 t9 := Tryz.underlying9
 a9 := Tryz.isAgg9
 z9 := Tryz.sizeOf9
 v9 := Tryz.zeroValue9
 t20 := Tryz.underlying20
 a20 := Tryz.isAgg20
 z20 := Tryz.sizeOf20
 v20 := Tryz.zeroValue20
 t37 := Tryz.underlying51
 a37 := Tryz.isAgg51
 z37 := Tryz.sizeOf51
 v37 := Tryz.zeroValue51
 t46 := Tryz.underlying29
 a46 := Tryz.isAgg29
 z46 := Tryz.sizeOf29
 v46 := Tryz.zeroValue29
 t51 := Tryz.underlying121
 a51 := Tryz.isAgg121
 z51 := Tryz.sizeOf121
 v51 := Tryz.zeroValue121
 t53 := Tryz.underlying120
 a53 := Tryz.isAgg120
 z53 := Tryz.sizeOf120
 v53 := Tryz.zeroValue120
 t70 := Tryz.underlying50
 a70 := Tryz.isAgg50
 z70 := Tryz.sizeOf50
 v70 := Tryz.zeroValue50
 t72 := Tryz.underlying53
 a72 := Tryz.isAgg53
 z72 := Tryz.sizeOf53
 v72 := Tryz.zeroValue53
 t75 := Tryz.underlying57
 a75 := Tryz.isAgg57
 z75 := Tryz.sizeOf57
 v75 := Tryz.zeroValue57
 t76 := Tryz.underlying58
 a76 := Tryz.isAgg58
 z76 := Tryz.sizeOf58
 v76 := Tryz.zeroValue58
 t109 := Tryz.underlying75
 a109 := Tryz.isAgg75
 z109 := Tryz.sizeOf75
 v109 := Tryz.zeroValue75
 t127 := Tryz.underlying110
 a127 := Tryz.isAgg110
 z127 := Tryz.sizeOf110
 v127 := Tryz.zeroValue110
 t146 := Tryz.underlying136
 a146 := Tryz.isAgg136
 z146 := Tryz.sizeOf136
 v146 := Tryz.zeroValue136
 t148 := Tryz.underlying138
 a148 := Tryz.isAgg138
 z148 := Tryz.sizeOf138
 v148 := Tryz.zeroValue138
 t164 := Tryz.underlying154
 a164 := Tryz.isAgg154
 z164 := Tryz.sizeOf154
 v164 := Tryz.zeroValue154 }
theorem Tryz.Builder_Extra_105 : Builder.Extra Tryz.prog Tryz.lays105_ren := {
 sizeBuilder := by kernel_rfl
 liesBuilder := by kernel_rfl
 t5 := Tryz.underlying5
 a5 := Tryz.isAgg5
 z5 := Tryz.sizeOf5
 v5 := Tryz.zeroValue5
 infoByte := by kernel_rfl
 cellsByte := by kernel_rfl
 sizeByte := by kernel_rfl
 neB5 := by decide }
end Go.Proofs
namespace Go.HW
open Go Go.RowKit
theorem Con.rdDrop {P : Program} {k : FuncId} {args : List SV} {H : SH} {n n' : Nat} {r : SV} {t : Nat} {α : Type} {i : Inhabited α} {N : Et α} {xs : List α} (h : Con P k args H n r [(t, @Blk.rd α i N xs)] n') : Con P k args H n r [] n' := by
 intro w ρ F vs hv hR hf hh hn gl
 refine Calls.mono (h w ρ F vs hv hR hf hh hn gl) ?_
 rintro e w' ⟨v, R', rfl, heff, c, ρ', F', rfl, hg, hr, hRR⟩
 obtain ⟨f, F2, rfl, ⟨sp, cap, _, rfl, _⟩, hnil⟩ := hRR
 have hnil : F2 = [] := hnil
 subst hnil
 exact ⟨_, ⟨[], []⟩, rfl, ⟨heff.ext, heff.nodup, heff.heap, heff.own⟩, c, ρ', [], rfl, hg, hr, rfl⟩
theorem Con.rdNil {P : Program} {k : FuncId} {x : Value} {α : Type} {i : Inhabited α} {N : Et α} (h : Con P k [.sl 0] [(0, @Blk.rd α i N [])] 1 (.v x) [] 1) : Con P k [.v (.slice none 0 0)] [] 0 (.v x) [] 0 := by
 intro w ρ F vs hv hR hf hh hn gl
 have hF : F = [] := hR
 subst hF
 obtain rfl : vs = [.slice none 0 0] := by
  have : SV.dens ρ [.v (.slice none 0 0)] = some [.slice none 0 0] := dens_v [_]
  rw [this] at hv; exact (Option.some.inj hv).symm
 have h2 := h w (fun t => bif Nat.beq t 0 then some ⟨none, 0, 0⟩ else none) [[]] [.slice none 0 0] (denAll_dens (l := [.sl 0]) ⟨by rw [SV.den]; rfl, trivial⟩) ⟨[], [], rfl, ⟨none, 0, rfl, rfl, Nat.zero_le _, .nil⟩, rfl⟩ (fun t ht => by cases t with | zero => omega | succ t => rfl) (fun p hp => by simp at hp) (by simp) gl
 refine Calls.mono h2 ?_
 rintro e w' ⟨v, R', rfl, heff, c, ρ', F', rfl, hg, hr, hRR⟩
 have hnil : F' = [] := hRR
 subst hnil
 rw [SV.den] at hr; cases hr
 exact ⟨_, ⟨[], []⟩, rfl, ⟨heff.ext, heff.nodup, heff.heap, heff.own⟩, c, ρ, [], rfl, .refl hf, by rw [SV.den], rfl⟩
end Go.HW
namespace Go.Proofs.YtfjefnnbodgfbaaGreatDoor
open Go Go.HW Go.RowKit Go.Shelf
set_option linter.unusedVariables false
def fn18 (p0 : ByteArray) : Option ByteArray := bif decide (p0.size ≤ 140737488355328) && p0.data.toList.all (fun b => decide (b.toNat < 128)) then some ⟨(Lib.toUpperA p0.data.toList).toArray⟩ else none
theorem c18 (p0 : ByteArray) (r : ByteArray) (h : fn18 p0 = some r) : Con Tryz.prog 18 [.v (.string p0)] [] 0 (.v (.string r)) [] 0 := by
 obtain ⟨hk, hr⟩ := ck h
 cases hr
 simp only [Bool.and_eq_true, decide_eq_true_eq, List.all_eq_true] at hk
 refine Con.vals dens1 fun w hg => Any.strings_ToUpper_ascii Tryz.lays158 Tryz.Builder_Extra_158 p0 w hk.1 fun j b hb => hk.2 b (List.mem_of_getElem? hb)
def fn20 (p0 : ByteArray) (p1 : Int) : Option ByteArray := bif decide (0 ≤ p1) && decide (p1 ≤ 9223372036854775807) && decide (p0.size * p1.toNat ≤ 140737488355328) then some ⟨(Lib.repeatL p0.data.toList p1.toNat).toArray⟩ else none
theorem c20 (p0 : ByteArray) (p1 : Int) (r : ByteArray) (h : fn20 p0 p1 = some r) : Con Tryz.prog 20 [.v (.string p0), .v (.int .i64 p1)] [] 0 (.v (.string r)) [] 0 := by
 obtain ⟨hk, hr⟩ := ck h
 cases hr
 simp only [Bool.and_eq_true, decide_eq_true_eq] at hk
 obtain ⟨n, rfl⟩ : ∃ n : Nat, p1 = (n : Int) := ⟨p1.toNat, by omega⟩
 exact Con.vals dens2 fun w hg => Any.strings_Repeat Tryz.lays105 Tryz.Builder_Extra_105 p0 n w (by omega) hk.2
theorem c19q (p0 : List ByteArray) (p1 : ByteArray) (r : ByteArray) (h : fn19 p0 p1 = some r) : Con Tryz.prog 19 [.sl 0, .v (.string p1)] [(0, .rd Et.str p0)] 1 (.v (.string r)) [] 1 := by
 obtain ⟨hk, hr⟩ := ck h
 cases hr
 simp only [Bool.and_eq_true, decide_eq_true_eq] at hk
 refine Con.rdDrop (t := 0) (xs := p0) (N := Et.str) (Con.below (Hn := []) (fun w ρ F us hu hR hf hh gl => ?_) (fun w ρ ρ' F hg hf hR => ?_))
 ·obtain ⟨f, F2, rfl, ⟨sp, cap, q1, q2, q3, q4⟩, hnil⟩ := hR
  obtain rfl : F2 = [] := hnil
  have hus : us = [.slice sp p0.length cap, .string p1] := by
   have : SV.dens ρ [.sl 0, .v (.string p1)] = some [.slice sp p0.length cap, .string p1] := denAll_dens (l := [.sl 0, .v (.string p1)]) ⟨by rw [SV.den, q1]; rfl, by rw [SV.den], trivial⟩
   rw [this] at hu; exact (Option.some.inj hu).symm
  subst hus
  have key : Calls Tryz.prog 19 #[.slice sp p0.length cap, .string p1] w fun e w' => e = .returned (.string ⟨(Lib.join (p0.map (·.data.toList)) p1.data.toList).toArray⟩) ∧ Below w.heap.size w w' := by
   obtain ⟨_, q5⟩ := q4 w (Ext.refl _ _)
   rcases q5 with rfl | ⟨⟨g, off, spot⟩, rfl, hs, hcell⟩
   ·refine Calls.mono (Any.strings_Join_none Tryz.lays156 Tryz.Builder_Extra_156 sp cap p1 w) ?_
    rintro e w' ⟨rfl, rfl⟩
    exact ⟨rfl, Below.refl _ _⟩
   ·cases hs
    cases hp : p0 with
    | nil =>
     refine Calls.mono (Any.strings_Join_none Tryz.lays156 Tryz.Builder_Extra_156 (some ⟨g, off, none⟩) cap p1 w) ?_
     rintro e w' ⟨rfl, rfl⟩
     exact ⟨rfl, Below.refl _ _⟩
    | cons y ys =>
     rw [← hp]
     have hc : ∀ (j : Nat) x, p0[j]? = some x → w.cell? ⟨g, off + j, none⟩ = some (.string x) := fun j x hj => by
      have := hcell j x hj 0 (.string x) rfl
      have e : (Et.str.toEn).sz = 1 := rfl
      rw [e] at this
      simpa using this
     have hlt : g < w.heap.size := by
      have h0 := hc 0 y (by rw [hp]; rfl)
      rcases Nat.lt_or_ge g w.heap.size with h1 | h1
      ·exact h1
      ·simp [World.cell?, Array.getElem?_eq_none h1] at h0
     exact Any.strings_Join Tryz.lays156 Tryz.Builder_Extra_156 g off cap p0 p1 w hc hlt hk.1 q3 hk.2
  refine Calls.mono key ?_
  rintro e w' ⟨rfl, hbl⟩
  exact ⟨_, ρ, [], rfl, hbl, .refl hf, by rw [SV.den], rfl, by simp, by simp, by simp⟩
 ·have : ρ' = ρ := by
   funext t
   rcases Nat.lt_or_ge t 1 with ht | ht
   ·exact hg.1 t ht
   ·rw [hf t ht, hg.2 t ht]
  rw [this]; exact hR
end Go.Proofs.YtfjefnnbodgfbaaGreatDoor
namespace Go.Proofs.YtfjefnnbodgfbaaGreatDoor
open Go Go.HW Go.RowKit Go.Shelf
set_option linter.unusedVariables false
theorem lays240 : Go.Proofs.Lays.n240 Tryz.prog Tryz.lays156_ren := { Tryz.lays156 with }
def fn61f (p0 : List Int) : Unit := ()
theorem c61f (p0 : List Int) (r : Unit) (h : fn61f p0 = r) : Con Tryz.prog 61 [.p 0 0] [(0, .cells 53 [.v (.pointer none), .sl 1]), (1, .row (Et.int .u8) 5 p0 p0.length .unk)] 2 (.tu []) [(0, .cells 53 [.p 0 0, .sl 1]), (1, .row (Et.int .u8) 5 p0 p0.length .unk)] 2 := by
 intro w ρ F vs hv hR hf hh hn gl
 obtain ⟨f, F2, rfl, ⟨b, us, b1, b2, rfl⟩, g, F3, rfl, ⟨sp, cap, q1, q2, q3, q4⟩, hnil⟩ := hR
 obtain rfl : F3 = [] := hnil
 have hus : us = [.pointer none, .slice sp p0.length cap] := by
  have : SV.dens ρ [.v (.pointer none), .sl 1] = some [.pointer none, .slice sp p0.length cap] := denAll_dens (l := [.v (.pointer none), .sl 1]) ⟨by rw [SV.den], by rw [SV.den, q1]; rfl, trivial⟩
  rw [this] at b2; exact (Option.some.inj b2).symm
 subst hus
 have hvs : vs = [.pointer (some ⟨b, 0, none⟩)] := by
  have : SV.dens ρ [.p 0 0] = some [.pointer (some ⟨b, 0, none⟩)] := denAll_dens (l := [.p 0 0]) ⟨by rw [SV.den, b1]; rfl, trivial⟩
  rw [this] at hv; exact (Option.some.inj hv).symm
 subst hvs
 have hb : w.heap[b]? = some (.cells #[.pointer none, .slice sp p0.length cap] 53 (0, 0)) := hh (b, _) (by simp)
 have hlt : b < w.heap.size := (Array.getElem?_eq_some_iff.1 hb).1
 refine Calls.mono (Any.Builder_copyCheck_fresh lays240 Tryz.Builder_Extra_156.toX72 b w (by simp [World.cell?, hb]) (by simp [World.shape?, hb]; rfl) (by simp [World.frozen?, hb])) ?_
 rintro e w' ⟨rfl, rfl⟩
 have hb' : (w.setCell ⟨b, 0, none⟩ (.pointer (some ⟨b, 0, none⟩))).heap[b]? = some (.cells #[.pointer (some ⟨b, 0, none⟩), .slice sp p0.length cap] 53 (0, 0)) := by
  unfold World.setCell
  show (w.heap.modify b _)[b]? = _
  rw [Array.getElem?_modify]
  simp [hb]
 have hne : ∀ p ∈ g, p.1 ≠ b := fun p hp he => by
  simp only [List.flatten_cons, List.flatten_nil, List.append_nil, List.singleton_append, List.map_cons, List.nodup_cons] at hn
  exact hn.1 (he ▸ List.mem_map.2 ⟨p, hp, rfl⟩)
 refine ⟨_, ⟨[], [[(b, .cells #[.pointer (some ⟨b, 0, none⟩), .slice sp p0.length cap] 53 (0, 0))], g]⟩, rfl, ⟨⟨rfl, rfl, rfl, Nat.le_of_eq (by show w.heap.size = (w.heap.modify b _).size; rw [Array.size_modify]), fun k hk hR => Below.heap_setCell w _ _ k (fun h => hR (by simp [Hp.all, h]))⟩, by simpa [Hp.all] using hn, ?_, ?_⟩, cB Tryz.prog w [[(b, .cells #[.pointer none, .slice sp p0.length cap] 53 (0, 0))], g], ρ, _, rfl, .refl hf, by simp [SV.den, SV.dens], ?_⟩
 ·intro p hp
  simp only [Hp.all, List.nil_append, List.flatten_cons, List.flatten_nil, List.append_nil, List.singleton_append, List.mem_cons] at hp
  rcases hp with rfl | hp
  ·exact hb'
  ·rw [Below.heap_setCell w _ _ _ (hne p hp)]; exact hh p (by simp [hp])
 ·intro p hp
  simp only [Hp.all, List.nil_append, List.flatten_cons, List.flatten_nil, List.append_nil, List.singleton_append, List.mem_cons] at hp
  refine .inl ?_
  rcases hp with rfl | hp
  ·simp [Hp.all]
  ·exact List.mem_map.2 ⟨p, by simp [Hp.all, hp], rfl⟩
 ·exact ⟨_, _, rfl, ⟨b, [.pointer (some ⟨b, 0, none⟩), .slice sp p0.length cap], b1, denAll_dens (l := [.p 0 0, .sl 1]) ⟨by rw [SV.den, b1]; rfl, by rw [SV.den, q1]; rfl, trivial⟩, rfl⟩, g, [], rfl, ⟨sp, cap, q1, q2, q3, q4⟩, rfl⟩
def fn61u (p0 : List Int) : Unit := ()
theorem c61u (p0 : List Int) (r : Unit) (h : fn61u p0 = r) : Con Tryz.prog 61 [.p 0 0] [(0, .cells 53 [.p 0 0, .sl 1]), (1, .row (Et.int .u8) 5 p0 p0.length .unk)] 2 (.tu []) [(0, .cells 53 [.p 0 0, .sl 1]), (1, .row (Et.int .u8) 5 p0 p0.length .unk)] 2 := by
 refine Con.below (Hn := []) (fun w ρ F us hu hR hf hh gl => ?_) (fun w ρ ρ' F hg hf hR => ?_)
 ·obtain ⟨f, F2, rfl, ⟨b, us2, b1, b2, rfl⟩, g, F3, rfl, ⟨sp, cap, q1, q2, q3, q4⟩, hnil⟩ := hR
  have hus : us2 = [.pointer (some ⟨b, 0, none⟩), .slice sp p0.length cap] := by
   have : SV.dens ρ [.p 0 0, .sl 1] = some [.pointer (some ⟨b, 0, none⟩), .slice sp p0.length cap] := denAll_dens (l := [.p 0 0, .sl 1]) ⟨by rw [SV.den, b1]; rfl, by rw [SV.den, q1]; rfl, trivial⟩
   rw [this] at b2; exact (Option.some.inj b2).symm
  subst hus
  have hvs : us = [.pointer (some ⟨b, 0, none⟩)] := by
   have : SV.dens ρ [.p 0 0] = some [.pointer (some ⟨b, 0, none⟩)] := denAll_dens (l := [.p 0 0]) ⟨by rw [SV.den, b1]; rfl, trivial⟩
   rw [this] at hu; exact (Option.some.inj hu).symm
  subst hvs
  have hb : w.heap[b]? = some (.cells #[.pointer (some ⟨b, 0, none⟩), .slice sp p0.length cap] 53 (0, 0)) := hh (b, _) (by simp)
  refine Calls.mono (Any.Builder_copyCheck_used lays240 Tryz.Builder_Extra_156.toX72 b w (by simp [World.cell?, hb])) ?_
  rintro e w' ⟨rfl, rfl⟩
  exact ⟨_, ρ, [], rfl, Below.refl _ _, .refl hf, by simp [SV.den, SV.dens], rfl, by simp, by simp, by simp⟩
 ·have : ρ' = ρ := by
   funext t
   rcases Nat.lt_or_ge t 2 with ht | ht
   ·exact hg.1 t ht
   ·rw [hf t ht]; exact hg.fr t ht
  rw [this]; exact hR
end Go.Proofs.YtfjefnnbodgfbaaGreatDoor
namespace Go.Proofs.YtfjefnnbodgfbaaGreatDoor.Bl
open Go Go.HW
set_option linter.unusedVariables false
set_option maxRecDepth 40000
set_option maxHeartbeats 8000000
noncomputable def tb : TB := ⟨⟨[(9, .string), (51, .slice 5), (53, Tryz.t52.desc)], [(51, false)], [(51, 1)]⟩, ⟨[]⟩, ⟨[], [], [61]⟩, ⟨[(5, (1, 1, [.v (.int .u8 0)]))]⟩, []⟩
theorem tbOk : TBOk Tryz.prog tb :=
 ⟨⟨⟨Tryz.runUnderlying9, Tryz.runUnderlying51, Tryz.runUnderlying53, trivial⟩, ⟨Tryz.isAgg51, trivial⟩, ⟨Tryz.sizeOf51, trivial⟩⟩, ⟨trivial⟩, ⟨trivial, trivial, ⟨Tryz.call61, trivial⟩⟩, ⟨⟨⟨_, _, _, Tryz.typeInfo5, rfl, rfl, rfl, rfl, rfl, rfl⟩, trivial⟩⟩⟩
theorem hmix : Tryz.prog.follows .mixedOrders = true := by kernel_rfl
def fn27 (p1 : ByteArray) : Option (Int × (List Int)) :=
 bif appHyp 1 ([] : List Int).length p1.size then (some (((p1.size : Int), ([] : List Int) ++ bytesZ p1))) else none
theorem c27 (p1 : ByteArray) (r : Int × (List Int)) (h : fn27 p1 = some r) : Con Tryz.prog 27 [.p 0 0, .v (.string p1)] [(0, .cells 53 [.v (.pointer none), .v (.slice none 0 0)])] 1 (.tu [.v (.int .i64 r.1), .v .nilIface]) [(0, .cells 53 [.p 0 0, .sl 1]), (1, .row (Et.int .u8) 5 r.2 r.2.length .unk)] 2 := by
 rw [fn27] at h
 refine Con.of_body Tryz.func27 rfl Tryz.ntmps27 rfl fun w F0 ρ gl => ?_
 refine RU tbOk false 999 3 [] aN (by rfl) ?_
 refine G4.imp (Imp.nilC (Et.int .u8) 5 0 1 (by rfl) (by rfl) (by rfl)) ?_
 refine RU tbOk false 999 0 [] aN (by rfl) ?_
 refine G4.imp (Imp.row 1 (by rfl)) ?_
 refine RU tbOk false 999 1 [.cl true [0, 1] (fun _ => c61f ([] : List Int) _ rfl)] (aK aN) (by rfl) ?_
 obtain ⟨hk1, h⟩ := ck h
 refine RU tbOk false 999 14 [.az ([] : List Int) p1] (aR (aR (aC hk1 aN))) (by rfl) ?_
 have hr := Option.some.inj h
 subst hr
 exact RT tbOk.t Tryz.results27 [0, 2] (by rfl) (by rfl) (by rfl) rfl rfl
def fn27v1 (p0_1 : ByteArray) (p1 : ByteArray) : Option (Int × (List Int)) :=
 bif appHyp 1 (bytesZ p0_1).length p1.size then (some (((p1.size : Int), (bytesZ p0_1) ++ bytesZ p1))) else none
theorem c27v1 (p0_1 : ByteArray) (p1 : ByteArray) (r : Int × (List Int)) (h : fn27v1 p0_1 p1 = some r) : Con Tryz.prog 27 [.p 0 0, .v (.string p1)] [(0, .cells 53 [.p 0 0, .sl 1]), (1, .row (Et.int .u8) 5 (bytesZ p0_1) ((bytesZ p0_1).length) .unk)] 2 (.tu [.v (.int .i64 r.1), .v .nilIface]) [(0, .cells 53 [.p 0 0, .sl 2]), (2, .row (Et.int .u8) 5 r.2 r.2.length .unk)] 3 := by
 rw [fn27v1] at h
 refine Con.of_body Tryz.func27 rfl Tryz.ntmps27 rfl fun w F0 ρ gl => ?_
 refine RU tbOk false 999 4 [.cl true [0, 1] (fun _ => c61u (bytesZ p0_1) _ rfl)] (aK aN) (by rfl) ?_
 obtain ⟨hk1, h⟩ := ck h
 refine RU tbOk false 999 14 [.az (bytesZ p0_1) p1] (aR (aR (aC hk1 aN))) (by rfl) ?_
 have hr := Option.some.inj h
 subst hr
 exact RT tbOk.t Tryz.results27 [0, 1, 2] (by rfl) (by rfl) (by rfl) rfl rfl
def fn28 : ByteArray :=
 (⟨#[]⟩ : ByteArray)
theorem c28 (r : ByteArray) (h : fn28 = r) : Con Tryz.prog 28 [.p 0 0] [(0, .cells 53 [.v (.pointer none), .v (.slice none 0 0)])] 1 (.v (.string r)) [(0, .cells 53 [.v (.pointer none), .v (.slice none 0 0)])] 1 := by
 rw [fn28] at h
 refine Con.of_body Tryz.func28 rfl Tryz.ntmps28 rfl fun w F0 ρ gl => ?_
 refine RU tbOk false 999 1 [] aN (by rfl) ?_
 refine DR tbOk hmix [2] [([], []), ([], []), ([], []), ([0], []), ([], []), ([], []), ([], []), ([], []), ([0], []), ([], []), ([], []), ([], [])] [.ud 5 [], .us 5 110 ⟨#[]⟩ Tryz.underlying110 (by kernel_rfl)] (aR (aR (aC rfl aN))) (by rfl) ?_
 refine RU tbOk false 999 0 [] aN (by rfl) ?_
 subst h
 exact RT tbOk.t Tryz.results28 [0] (by rfl) (by rfl) (by rfl) rfl rfl
def fn28v1 (p0_1 : ByteArray) : Option (ByteArray) :=
 bif !(bytesZ p0_1).isEmpty then (bif decide (0 < p0_1.size) then (some (p0_1)) else none) else none
theorem c28v1 (p0_1 : ByteArray) (r : ByteArray) (h : fn28v1 p0_1 = some r) : Con Tryz.prog 28 [.p 0 0] [(0, .cells 53 [.p 0 0, .sl 1]), (1, .row (Et.int .u8) 5 (bytesZ p0_1) ((bytesZ p0_1).length) .unk)] 2 (.v (.string r)) [(0, .cells 53 [.p 0 0, .sl 1])] 2 := by
 rw [fn28v1] at h
 refine Con.of_body Tryz.func28 rfl Tryz.ntmps28 rfl fun w F0 ρ gl => ?_
 refine RU tbOk false 999 1 [] aN (by rfl) ?_
 obtain ⟨hk1, h⟩ := ck h
 obtain ⟨hk2, h⟩ := ck h
 refine DR tbOk hmix [2] [([], []), ([], []), ([], []), ([0], []), ([1], []), ([], []), ([], []), ([], []), ([0], []), ([1], []), ([1], []), ([], [])] [.ud 5 (bytesZ p0_1), .us 5 110 p0_1 Tryz.underlying110 (by kernel_rfl)] (aR (aR (aR (aC hk1 (aR (aR (aR (aR (aC rfl (aR (aC hk2 aN))))))))))) (by rfl) ?_
 refine RU tbOk false 999 0 [] aN (by rfl) ?_
 have hr := Option.some.inj h
 subst hr
 exact RT tbOk.t Tryz.results28 [0, 1] (by rfl) (by rfl) (by rfl) rfl rfl
end Go.Proofs.YtfjefnnbodgfbaaGreatDoor.Bl
namespace Go.Proofs.YtfjefnnbodgfbaaGreatDoor
open Go Go.HW Go.RowKit
set_option linter.unusedVariables false
def pBl (s : ByteArray) : HW.Loc → List Value → Blocks → Prop := fun l vs f => ∃ b, l = ⟨some ⟨b, 0, none⟩, l.cap, l.len⟩ ∧
  ((s = ⟨#[]⟩ ∧ f = [(b, .cells #[.pointer none, .slice none 0 0] 53 (0, 0))]) ∨
   (0 < s.size ∧ ∃ sp cap Hs, OwnL (En.int .u8) 5 sp cap (bytesZ s) Hs ∧ f = (b, .cells #[.pointer (some ⟨b, 0, none⟩), .slice sp (bytesZ s).length cap] 53 (0, 0)) :: Hs))
theorem blkOf_loc {l : Option HW.Loc} {b : Nat} (h : blkOf l = some b) : ∃ x, l = some x ∧ x = ⟨some ⟨b, 0, none⟩, x.cap, x.len⟩ := by
 unfold blkOf at h
 split at h
 ·cases h; exact ⟨_, rfl, rfl⟩
 ·cases h
theorem loc_blkOf {x : HW.Loc} {b : Nat} (h : x = ⟨some ⟨b, 0, none⟩, x.cap, x.len⟩) : blkOf (some x) = some b := by rw [h]; rfl
theorem toU8 (s t : ByteArray) : bytesZ (s ++ t) = bytesZ s ++ bytesZ t := by
 unfold bytesZ
 rw [ByteArray.data_append]; simp
theorem bl_fresh {P : Program} {w : World} {ρ : Env} {F : List Blocks} (h : Reps (cB P w F) ρ [(0, .ex (pBl ⟨#[]⟩) [])] F) : Reps (cB P w F) ρ [(0, .cells 53 [.v (.pointer none), .v (.slice none 0 0)])] F := by
 obtain ⟨f, F2, rfl, ⟨l, us, q1, q2, b, hb, hx⟩, hnil⟩ := h
 rcases hx with ⟨_, rfl⟩ | ⟨h0, _⟩
 ·exact ⟨_, F2, rfl, ⟨b, [.pointer none, .slice none 0 0], by rw [q1]; exact loc_blkOf hb, dens_v [.pointer none, .slice none 0 0], rfl⟩, hnil⟩
 ·exact absurd h0 (by decide)
theorem bl_post {c : Cx} {ρ : Env} {F : List Blocks} {s : ByteArray} {j m : Nat} {r : List Int} {kk : NK} (hr : r = bytesZ s) (hs : 0 < s.size) (h : Reps c ρ [(0, .cells 53 [.p 0 0, .sl j]), (j, .row (Et.int .u8) 5 r m kk)] F) :
  ∃ f l, F.flatten = f ∧ ρ 0 = some l ∧ pBl s l [] f := by
 obtain ⟨f, F2, rfl, ⟨b, us, b1, b2, rfl⟩, g, F3, rfl, ⟨sp, cap, q1, q2, q3, q4⟩, hnil⟩ := h
 obtain rfl : F3 = [] := hnil
 obtain ⟨l, hl, hl2⟩ := blkOf_loc b1
 have hus : us = [.pointer (some ⟨b, 0, none⟩), .slice sp m cap] := by
  have : SV.dens ρ [.p 0 0, .sl j] = some [.pointer (some ⟨b, 0, none⟩), .slice sp m cap] := denAll_dens (l := [.p 0 0, .sl j]) ⟨by rw [SV.den, b1]; rfl, by rw [SV.den, q1]; rfl, trivial⟩
  rw [this] at b2; exact (Option.some.inj b2).symm
 subst hus
 subst hr
 refine ⟨_, l, rfl, hl, b, hl2, .inr ⟨hs, sp, cap, g, q3, ?_⟩⟩
 rw [q2]; simp
theorem ret_bl {P : Program} {k : FuncId} {vs : List Value} {w : World} {F : List Blocks} {ρ : Env} {n n' j m : Nat} {rs : SV} {v : Value} {s : ByteArray} {r : List Int} {kk : NK} (hn : 1 ≤ n) (ρ0 : Env) (h0 : ρ0 0 = ρ 0) (hz : ∀ t, 1 ≤ t → ρ0 t = none)
  (hv : ∀ ρ', rs.den ρ' = some v) (hr : r = bytesZ s) (hs : 0 < s.size)
  (h : Ret P k vs w ⟨[], F⟩ (postC ρ n rs [(0, .cells 53 [.p 0 0, .sl j]), (j, .row (Et.int .u8) 5 r m kk)] n')) : Ret P k vs w ⟨[], F⟩ (postC ρ0 1 rs [(0, .ex (pBl s) [])] 1) := by
 refine Calls.mono h ?_
 rintro e w' ⟨v', R', rfl, he, c, ρ', F', rfl, hg, hd, hR⟩
 obtain ⟨f, l, hf, hl, hp⟩ := bl_post hr hs hR
 have hall : (⟨[], [f]⟩ : Hp).all = (⟨[], F'⟩ : Hp).all := by simp [Hp.all, hf]
 refine ⟨v', ⟨[], [f]⟩, rfl, ⟨he.ext, by rw [hall]; exact he.nodup, by rw [hall]; exact he.heap, by rw [hall]; exact he.own⟩, c, fun t => if t < 1 then ρ' t else none, [f], rfl, ⟨fun t ht => ?_, fun t ht => by simp [show ¬ t < 1 from by omega], Nat.le_refl _⟩, ?_, f, [], rfl, ⟨l, [], by simpa using hl, dens_nil, hp⟩, rfl⟩
 ·have : t = 0 := by omega
  subst this
  simp only [Nat.zero_lt_one, if_true]; rw [hg.old 0 (by omega), h0]
 ·rw [hv] at hd ⊢; exact hd
theorem args_old {ρ ρ2 : Env} {s : ByteArray} (h : ρ2 0 = ρ 0) : SV.dens ρ2 [.p 0 0, .v (.string s)] = SV.dens ρ [.p 0 0, .v (.string s)] := by
 simp [SV.dens, SV.den, h]
theorem args_old1 {ρ ρ2 : Env} (h : ρ2 0 = ρ 0) : SV.dens ρ2 [.p 0 0] = SV.dens ρ [.p 0 0] := by
 simp [SV.dens, SV.den, h]
theorem bl_used {P : Program} {w : World} {ρ : Env} {F : List Blocks} {s : ByteArray} (hs : 0 < s.size) (h : Reps (cB P w F) ρ [(0, .ex (pBl s) [])] F) (hf : ∀ t, 1 ≤ t → ρ t = none) :
  ∃ (ρ2 : Env) (f1 f2 : Blocks), F.flatten = ([f1, f2] : List Blocks).flatten ∧ ρ2 0 = ρ 0 ∧ (∀ t, 2 ≤ t → ρ2 t = none) ∧ Reps (cB P w [f1, f2]) ρ2 [(0, .cells 53 [.p 0 0, .sl 1]), (1, .row (Et.int .u8) 5 (bytesZ s) (bytesZ s).length .unk)] [f1, f2] := by
 obtain ⟨f, F2, rfl, ⟨l, us, q1, q2, b, hb, hx⟩, hnil⟩ := h
 obtain rfl : F2 = [] := hnil
 rcases hx with ⟨rfl, _⟩ | ⟨_, sp, cap, Hs, ho, rfl⟩
 ·exact absurd hs (by decide)
 ·let ρ2 : Env := fun t => if t = 0 then ρ 0 else if t = 1 then some ⟨sp, cap, (bytesZ s).length⟩ else none
  have e0 : ρ2 0 = ρ 0 := rfl
  have e1 : ρ2 1 = some ⟨sp, cap, (bytesZ s).length⟩ := rfl
  have b1 : blkOf (ρ2 0) = some b := by rw [e0, q1]; exact loc_blkOf hb
  refine ⟨ρ2, [(b, .cells #[.pointer (some ⟨b, 0, none⟩), .slice sp (bytesZ s).length cap] 53 (0, 0))], Hs, by simp, e0, fun t ht => by simp only [ρ2]; rw [if_neg (by omega), if_neg (by omega)], ?_⟩
  exact ⟨_, _, rfl, ⟨b, [.pointer (some ⟨b, 0, none⟩), .slice sp (bytesZ s).length cap], b1, denAll_dens (l := [.p 0 0, .sl 1]) ⟨by rw [SV.den, b1]; rfl, by rw [SV.den, e1]; rfl, trivial⟩, rfl⟩, Hs, [], rfl, ⟨sp, cap, e1, rfl, ho, trivial⟩, rfl⟩
def fn27b (p0 p1 : ByteArray) : Option (ByteArray × Int) := bif decide (0 < p1.size) && appHyp 1 (bytesZ p0).length p1.size then some (p0 ++ p1, (p1.size : Int)) else none
theorem c27b (p0 p1 : ByteArray) (r : ByteArray × Int) (h : fn27b p0 p1 = some r) : Con Tryz.prog 27 [.p 0 0, .v (.string p1)] [(0, .ex (pBl p0) [])] 1 (.tu [.v (.int .i64 r.2), .v .nilIface]) [(0, .ex (pBl r.1) [])] 1 := by
 obtain ⟨hk, hr⟩ := ck h
 cases hr
 simp only [Bool.and_eq_true, decide_eq_true_eq] at hk
 have hsz : 0 < (p0 ++ p1).size := by rw [ByteArray.size_append]; omega
 intro w ρ F vs hv hR hf hh hn gl
 by_cases h0 : 0 < p0.size
 ·obtain ⟨ρ2, f1, f2, hfl, e0, hz, hR2⟩ := bl_used h0 hR hf
  have hret := Bl.c27v1 p0 p1 ((p1.size : Int), bytesZ p0 ++ bytesZ p1) (by rw [Bl.fn27v1, hk.2]; rfl) w ρ2 [f1, f2] vs (by rw [args_old e0]; exact hv) hR2 hz (by rw [← hfl]; exact hh) (by rw [← hfl]; exact hn) (by rw [← hfl]; exact gl)
  have hall : (⟨[], [f1, f2]⟩ : Hp).all = (⟨[], F⟩ : Hp).all := by simp only [Hp.all, List.nil_append]; exact hfl.symm
  exact Ret.all (ret_bl (n := 2) (j := 2) (by omega) ρ e0.symm hf (v := .tuple #[.int .i64 p1.size, .nilIface]) (fun ρ' => by simp [SV.den, SV.dens]) (toU8 p0 p1).symm hsz hret) hall
 ·have hp : p0 = ⟨#[]⟩ := by
   obtain ⟨⟨l⟩⟩ := p0
   have : l.length = 0 := by simpa [ByteArray.size] using h0
   rw [List.eq_nil_of_length_eq_zero this]
  subst hp
  have hret := Bl.c27 p1 ((p1.size : Int), [] ++ bytesZ p1) (by
   have := hk.2
   rw [Bl.fn27, show ([] : List Int).length = (bytesZ ⟨#[]⟩).length from rfl, this]; rfl) w ρ F vs hv (bl_fresh hR) hf hh hn gl
  exact ret_bl (n := 1) (j := 1) (Nat.le_refl _) ρ rfl hf (v := .tuple #[.int .i64 p1.size, .nilIface]) (fun ρ' => by simp [SV.den, SV.dens]) (by rw [toU8]; rfl) hsz hret
def fn28b (p0 : ByteArray) : ByteArray := p0
theorem c28b (p0 r : ByteArray) (h : fn28b p0 = r) : Con Tryz.prog 28 [.p 0 0] [(0, .ex (pBl p0) [])] 1 (.v (.string r)) [] 1 := by
 subst h
 intro w ρ F vs hv hR hf hh hn gl
 have fin : ∀ {k : FuncId} {n n' : Nat} {H' : SH} {ρ2 : Env}, 1 ≤ n → ρ2 0 = ρ 0 → Ret Tryz.prog k vs w ⟨[], F⟩ (postC ρ2 n (.v (.string p0)) H' n') → Ret Tryz.prog k vs w ⟨[], F⟩ (postC ρ 1 (.v (.string p0)) [] 1) := by
  intro k n n' H' ρ2 hn1 e0 hret
  refine Calls.mono hret ?_
  rintro e w' ⟨v', R', rfl, he, c, ρ', F', rfl, hg, hd, hR'⟩
  refine ⟨v', ⟨[], []⟩, rfl, ⟨he.ext, by simp [Hp.all], by simp [Hp.all], by simp [Hp.all]⟩, c, ρ, [], rfl, .refl hf, ?_, rfl⟩
  rw [SV.den] at hd ⊢; exact hd
 by_cases h0 : 0 < p0.size
 ·obtain ⟨ρ2, f1, f2, hfl, e0, hz, hR2⟩ := bl_used h0 hR hf
  have hne : (!(bytesZ p0).isEmpty) = true := by
   cases hb : bytesZ p0 with
   | nil => have := bytesZ_len p0; rw [hb] at this; simp at this; omega
   | cons a l => rfl
  have hret := Bl.c28v1 p0 p0 (by rw [Bl.fn28v1, hne]; simp [h0]) w ρ2 [f1, f2] vs (by rw [args_old1 e0]; exact hv) hR2 hz (by rw [← hfl]; exact hh) (by rw [← hfl]; exact hn) (by rw [← hfl]; exact gl)
  have hall : (⟨[], [f1, f2]⟩ : Hp).all = (⟨[], F⟩ : Hp).all := by simp only [Hp.all, List.nil_append]; exact hfl.symm
  exact fin (n := 2) (by omega) e0 (Ret.all hret hall)
 ·have hp : p0 = ⟨#[]⟩ := by
   obtain ⟨⟨l⟩⟩ := p0
   have : l.length = 0 := by simpa [ByteArray.size] using h0
   rw [List.eq_nil_of_length_eq_zero this]
  subst hp
  exact fin (n := 1) (Nat.le_refl _) rfl (Bl.c28 ⟨#[]⟩ rfl w ρ F vs hv (bl_fresh hR) hf hh hn gl)
theorem Imp.bl {c : C4} (t : Nat) {L : SL} {H : SH} {n : Nat} (hl : lookH H t = some (.cells 53 [.v (.pointer none), .v (.slice none 0 0)])) : Imp c ⟨L, H, n⟩ ⟨L, repH H t t (.ex (pBl ⟨#[]⟩) []), n⟩ := by
 intro ρ F a w hs
 obtain ⟨FA, f, FB, rfl, ⟨b, us, h1, h2, rfl⟩, hr, _⟩ := hs.ok.reps.look hl
 obtain ⟨l, hl1, hl2⟩ := blkOf_loc h1
 have hus : us = [.pointer none, .slice none 0 0] := by
  have := dens_v (ρ := ρ) [.pointer none, .slice none 0 0]
  rw [show SV.dens ρ [.v (.pointer none), .v (.slice none 0 0)] = some [.pointer none, .slice none 0 0] from this] at h2
  exact (Option.some.inj h2).symm
 subst hus
 exact ⟨ρ, _, ⟨⟨hs.ok.dens, hr ρ t (.ex (pBl ⟨#[]⟩) []) _ (Env.le_refl _) ⟨l, [], hl1, dens_nil, b, hl2, .inl ⟨rfl, rfl⟩⟩, hs.ok.fr, hs.ok.pin, hs.ok.mle⟩, hs.sat⟩⟩
end Go.Proofs.YtfjefnnbodgfbaaGreatDoor
