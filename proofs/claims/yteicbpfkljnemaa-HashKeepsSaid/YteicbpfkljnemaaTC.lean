/- Part of the proof: the logic, the walks, and what they compute. -/
import Derived.Laws.BytesArg
import Derived.Laws.Concat
import Derived.Laws.Cover1
import Derived.RecoverIn
import Derived.Laws.IdiomStrings
import Derived.Shelf.SlIter.Sorted
import Derived.Shelf.SlIter.Collect
import Derived.Shelf.SlIter.Keys
import Derived.Shelf.SlIter.Nil
import Derived.Shelf.SortM.Plain
import Derived.Shelf.SortM.SortNone
import Derived.Ground.GgzProg
import Derived.Ground.SlgmProg
import Derived.Test.YteicbpfkljnemaaProg
import Derived.Shelf.AbstractIn
import Derived.Test.YteicbpfkljnemaaTB
set_option linter.all false
namespace Go.HW
open Go Go.RowKit
set_option linter.unusedVariables false
inductive Out : Type 1 where
 | ret (r : SV) (H : SH) (n : Nat)
 | pan (v : Value) (H : SH) (n : Nat)
def PanE (w : World) (R : Hp) (v : Value) (post : Hp → Prop) : Ending → World → Prop :=
 fun e w' => ∃ R', e = .panicked [{ v := v, recovered := false }] ∧ Eff w R w' R' ∧ post R'
def postP (ρ : Env) (n : Nat) (H' : SH) (n' : Nat) (R' : Hp) : Prop :=
 ∃ (c : Cx) (ρ' : Env) (F' : List Blocks), R' = ⟨[], F'⟩ ∧ Env.grow n n' ρ ρ' ∧ Reps c ρ' H' F'
def EndO (w : World) (F : List Blocks) (ρ : Env) (m : Nat) : Out → Ending → World → Prop
 | .ret r H' n' => RetE w ⟨[], F⟩ (postC ρ m r H' n')
 | .pan v H' n' => PanE w ⟨[], F⟩ v (postP ρ m H' n')
def ConE (P : Program) (k : FuncId) (args : List SV) (H : SH) (n : Nat) (E : World → List Blocks → Env → Ending → World → Prop) : Prop :=
 ∀ (w : World) (ρ : Env) (F : List Blocks) (vs : List Value), SV.dens ρ args = some vs → Reps (cB P w F) ρ H F → (∀ t, n ≤ t → ρ t = none) → (∀ p ∈ F.flatten, w.heap[p.1]? = some p.2) → (F.flatten.map (·.1)).Nodup →
  Calls P k vs.toArray w (E w F ρ)
def ConX (P : Program) (k : FuncId) (args : List SV) (H : SH) (n : Nat) (v : Value) (H' : SH) (n' : Nat) : Prop := ConE P k args H n fun w F ρ => EndO w F ρ n (.pan v H' n')
def ConO (P : Program) (k : FuncId) (args : List SV) (H : SH) (n : Nat) : Out → Prop
 | .ret r H' n' => Con P k args H n r H' n'
 | .pan v H' n' => ConX P k args H n v H' n'
theorem ConO.of {P : Program} {k : FuncId} {args : List SV} {H : SH} {n : Nat} {o : Out} (h : ConE P k args H n fun w F ρ => EndO w F ρ n o) : ConO P k args H n o := by
 cases o with
 | ret r H' n' => exact h
 | pan v H' n' => exact h
def FinO (P : Program) (fn : Func) (w : World) (F : List Blocks) (ρ : Env) (m : Nat) (o : Out) : Exit → Act → World → Prop := bodyPostM (FW none) 1 P fn (EndO w F ρ m o)
theorem ConE.of_body {P : Program} {k : FuncId} {fn : Func} {code : Code} {N : Nat} {args : List SV} {H : SH} {n : Nat} {E : World → List Blocks → Env → Ending → World → Prop} (hf : P.funcs[k]? = some fn) (hb : fn.body = some code) (hN : fn.ntmps = N)
  (ha : (Nat.ble args.length N && noAr args) = true) (h : ∀ w F ρ, G4 (c0 P w F N ρ n) (bodyPostM (FW none) 1 P fn (E w F ρ)) (.code code []) ⟨argL 0 args, H, n⟩) : ConE P k args H n E := by
 intro w ρ F vs hd hR hl hh hn
 simp only [Bool.and_eq_true] at ha
 obtain ⟨d1, d2, d3⟩ := argL_dens (k := 0) (noAr_spec ha.2) hd
 have ha' : vs.length ≤ N := by rw [d3]; exact Nat.le_of_ble_eq_true ha.1
 refine (callsIn_wide (n := 1)).1 ?_
 refine callsIn_of_wp_marks (F := Fence.wide) (n := 1) hf hb trivial ?_
 rw [hN]
 have s : Sat ⟨P, none, w, F.flatten.map (·.1), N, []⟩ (argS 0 vs) ⟨[], F⟩ { tmps := vs.toArray ++ Array.replicate (N - vs.toArray.size) undef, defers := [] } w := by
  refine ⟨by simp; omega, rfl, ?_, Ext.refl _ _, by simpa [Hp.all] using hn, by simpa [Hp.all] using hh, fun p hp => .inl (List.mem_map.2 ⟨p, by simpa [Hp.all] using hp, rfl⟩)⟩
  intro t v hl
  obtain ⟨_, h2⟩ := look_argS vs 0 t v hl
  simp only [Nat.sub_zero] at h2
  have ht : t < vs.length := (List.getElem?_eq_some_iff.1 h2).1
  have hv : vs[t] = v := (List.getElem?_eq_some_iff.1 h2).2
  simp [Array.getD, show t < vs.length + (N - vs.length) from by omega, ht, hv]
 refine h w F ρ ρ F _ w ⟨⟨d1, Reps.cx (c := cB P w F) (c' := (c0 P w F N ρ n).toCx) rfl rfl hR, hl, fun _ _ => rfl, Nat.le_refl _⟩, ?_⟩
 show Sat _ (realL ρ (argL 0 args)) ⟨[], F⟩ _ w
 rw [d2]; exact s
theorem ConO.of_body {P : Program} {k : FuncId} {fn : Func} {code : Code} {N : Nat} {args : List SV} {H : SH} {n : Nat} {o : Out} (hf : P.funcs[k]? = some fn) (hN : fn.ntmps = N)
  (h : ∀ w F ρ, G4 (c0 P w F N ρ n) (FinO P fn w F ρ n o) (.code code []) ⟨argL 0 args, H, n⟩) (hb : fn.body = some code := by rfl) (ha : (Nat.ble args.length N && noAr args) = true := by rfl) : ConO P k args H n o :=
 ConO.of (ConE.of_body hf hb hN ha h)
section
variable {c : C4} {Q : Exit → Act → World → Prop} {ch : List PanicEntry} {s : St}
theorem QK_panic {ro : Option Nat} {P : Program} : ∀ (K : List Fr) (a : Act) (w : World), Q (.panic ch) a w → QK ro P Q K (.panic ch) a w
 | [], a, w, h => h
 | .th y :: K, a, w, h => QK_panic K a w h
 | .bl id :: K, a, w, h => QK_panic K a w h
 | .st M :: K, a, w, h => QK_panic K a w h
 | .ct id M :: K, a, w, h => QK_panic K a w h
theorem G4.panic {K : List Fr} (h : G4 c Q (.exit (.panic ch) []) s) : G4 c Q (.exit (.panic ch) K) s :=
 fun ρ F a w hs => QK_panic K a w (h ρ F a w hs)
def OX (c : C4) (o : Oper) (s : St) (e : Exit) (H' : SH) (n' : Nat) : Prop :=
 ∀ ρ F Fx a w, Ok c ρ F s → Sat c (realL ρ s.L) ⟨[], F ++ Fx⟩ a w → ∀ (K : Act → World → Prop) (Q : Exit → Act → World → Prop),
  (∀ ρ' F' w', Env.grow s.n n' ρ ρ' → Reps c ρ' H' F' → Sat c (realL ρ s.L) ⟨[], F' ++ Fx⟩ a w' → Q e a w') →
  o.uponIn (FW c.ro) 1 c.P a K Q ((execOp a.eval o).run c.P w)
theorem OX.use {o : Oper} {ops : Array Oper} {l : List Oper} {K : List Fr} {e : Exit} {H' : SH} {n' : Nat} (hg : o.guard = none) (hn : notDefer o.op = true) (h : OX c o s e H' n') (k : G4 c Q (.exit e K) ⟨s.L, H', n'⟩) : G4 c Q (.ops ops (o :: l) K []) s := by
 intro ρ F a w hs _
 unfold wpListIn
 rw [if_pos (by simp [Region.wanted, hg])]
 refine wpIn_of hn (h ρ F [] a w hs.ok (by simpa using hs.sat) _ _ ?_)
 intro ρ' F' w' hg hR hS
 refine k ρ' F' a w' ⟨⟨hs.ok.dens.mono (hg.toLe hs.ok.fr), hR, hg.fr, fun t ht => ?_, Nat.le_trans hs.ok.mle hg.le⟩, ?_⟩
 ·rw [hg.old t (Nat.lt_of_lt_of_le ht hs.ok.mle)]; exact hs.ok.pin t ht
 ·have hS' : Sat c.toCx (realL ρ s.L) ⟨[], F'⟩ a w' := by simpa using hS
  show Sat c.toCx (realL ρ' s.L) ⟨[], F'⟩ a w'
  rw [realL_mono (hg.toLe hs.ok.fr) hs.ok.dens]; exact hS'
theorem OX.call {L : SL} {H : SH} {n : Nat} {T : TypeId} {pos : String} {af : Array Edge} {g : Option (Nat × Bool)} {ats : Array TypeId} {d : Option Nat} {f : Operand} {args : Array Operand} {k : FuncId} {cargs : List SV} {cH cH' : SH} {m m' : Nat}
  {v : Value} {fi ca vs : List SV} {H1 : SH} (σ : List Nat) (con : ConX c.P k cargs cH m v cH' m')
  (hk : ∀ (args : Array Value) (w : World), (callFunc k args).run c.P w = .ok (.enter k args) w)
  (hf : evS L f = some (.fn (.func k) fi ca)) (ha : evSs L args.toList = some vs)
  (hargs : appI fi (appI vs ca) = SV.rens σ cargs) (hO : takeW σ H cH = some (ownBs σ cH, H1)) (hR : rdsOf σ H1 cH = some (rdsW cH))
  (hb : (ltAll n σ && Nat.beq σ.length m && Nat.ble m m' && allOwn cH') = true) :
  OX c ⟨d, .call ⟨.value f, args, ats⟩, T, pos, af, g⟩ ⟨L, H, n⟩ (.panic [{ v := v, recovered := false }]) (nH (appN σ (seqN n (m' - m))) H1 cH') (n + (m' - m)) := by
 simp only [Bool.and_eq_true] at hb
 obtain ⟨⟨⟨hb1, hb2⟩, hb3⟩, hb4⟩ := hb
 have hm : σ.length = m := Nat.eq_of_beq_eq_true hb2
 have hσ := ltAll_spec hb1
 intro ρ F Fx a w ok s K Q hK
 obtain ⟨Fc, F1, t1, t2, t3⟩ := takeW_spec ok.reps hO
 obtain ⟨vf, e1, e2⟩ := evS_ok ok.dens hf
 obtain ⟨va, e3, e4⟩ := evSs_ok ok.dens ha
 rw [SV.den] at e1
 obtain ⟨xf, e5, e6⟩ := Option.bind_eq_some_iff.1 e1
 obtain ⟨xc, e7, rfl⟩ := Option.map_eq_some_iff.1 e6
 have hcargs : SV.dens (ρ.sel σ) cargs = some (xf ++ (va ++ xc)) := by
  refine dens_ren ?_
  rw [← hargs, appI_eq, appI_eq]
  exact dens_append.2 ⟨_, _, e5, dens_append.2 ⟨_, _, e3, e7, rfl⟩, rfl⟩
 have hp : ((⟨[], Fc⟩ : Hp).add ⟨[], F1 ++ Fx⟩).all.Perm (⟨[], F ++ Fx⟩ : Hp).all := by
  simp only [Hp.all, Hp.add, List.nil_append, List.flatten_append, ← List.append_assoc]; exact t3.append_right _
 have s' := s.perm hp
 have eargs : args = args.toList.toArray := by simp
 have hrun : (execOp a.eval ⟨d, .call ⟨.value f, args, ats⟩, T, pos, af, g⟩).run c.P w = .ok (.enter k (xf ++ (va ++ xc)).toArray) w := by
  rw [eargs]
  simp [execOp, resolve, Deferred.ofValue, invoke, s.eval e2, s.evals e4, hk]
 rw [hrun]
 refine ⟨fun h => by simp [FW] at h, ?_⟩
 have hok := s'.hpOk
 have hret := con w (ρ.sel σ) Fc _ hcargs (callee_reps t2 s' t1 hR) (fun t ht => by simp [Env.sel, tgO_none (σ := σ) (t := t) (by rw [hm]; exact ht)]) (by simpa [Hp.all] using hok.1) (by simpa [Hp.all] using hok.2)
 refine callsIn_FW (Calls.mono hret ?_)
 rintro e w' ⟨R', rfl, he, c', ρ', F', rfl, p0, p2⟩
 have hle := backE_sel (n := n) hm hσ p0
 have hg : Env.grow n (n + (m' - m)) ρ (backE ρ ρ' n m m') := backE_grow
 have h6 := s'.eff he
 refine hK (backE ρ ρ' n m m') (F' ++ F1) w' hg (nH_reps (t2.mono (hg.toLe ok.fr)) hb4 (p2.mono hle)) ?_
 have : ((⟨[], F'⟩ : Hp).add ⟨[], F1 ++ Fx⟩) = ⟨[], F' ++ F1 ++ Fx⟩ := by simp [Hp.add]
 rwa [this] at h6
def cxO (b : TB) (L : SL) (H : SH) (n : Nat) (op : Op) (σ : List Nat) (k : FuncId) (cargs : List SV) (cH : SH) (m : Nat) (cH' : SH) (m' : Nat) : Option (List Prop × SH × Nat) :=
 match op with
 | .call ⟨.value f, args, _⟩ => match evS L f, evSs L args.toList, takeW σ H cH with
  | some (.fn (.func k') fi ca), some vs, some (bs, H1) => bif Nat.beq k' k && hasN b.e.cal k && (ltAll n σ && Nat.beq σ.length m && Nat.ble m m' && allOwn cH') then
    some ([appI fi (appI vs ca) = SV.rens σ cargs, bs = ownBs σ cH, rdsOf σ H1 cH = some (rdsW cH)], nH (appN σ (seqN n (m' - m))) H1 cH', n + (m' - m)) else none
  | _, _, _ => none
 | _ => none
theorem CX_ {b : TB} (hB : TBOk c.P b) (σ : List Nat) {k : FuncId} {cargs : List SV} {cH cH' : SH} {m m' : Nat} {v : Value} (con : ConX c.P k cargs cH m v cH' m') {cs : List Prop} (hc : allP cs)
  {d : Option Nat} {op : Op} {T : TypeId} {pos : String} {af : Array Edge} {ops : Array Oper} {l : List Oper} {K : List Fr} {L : SL} {H H2 : SH} {n n2 : Nat}
  (kk : G4 c Q (.exit (.panic [{ v := v, recovered := false }]) []) ⟨L, H2, n2⟩) (h : cxO b L H n op σ k cargs cH m cH' m' = some (cs, H2, n2) := by rfl) : G4 c Q (.ops ops (⟨d, op, T, pos, af, none⟩ :: l) K []) ⟨L, H, n⟩ := by
 unfold cxO at h
 split at h
 ·rename_i f args ats; split at h
  ·rename_i k' fi ca vs bs H1 hf ha hO
   cases hb : Nat.beq k' k && hasN b.e.cal k && (ltAll n σ && Nat.beq σ.length m && Nat.ble m m' && allOwn cH') with
   | false => rw [hb] at h; cases h
   | true =>
    rw [hb, cond_true] at h; cases h
    simp only [Bool.and_eq_true] at hb
    obtain ⟨⟨b1, b2⟩, b3⟩ := hb
    have := Nat.eq_of_beq_eq_true b1; subst this
    obtain ⟨c1, c2⟩ := allP_cons hc
    obtain ⟨c2, c3⟩ := allP_cons c2
    have c3 : rdsOf σ H1 cH = some (rdsW cH) := c3
    exact OX.use rfl rfl (OX.call σ con (hB.e.cal.mem _ (hasN_mem b2)) hf ha c1 (by rw [hO, c2]) c3 (by simp only [Bool.and_eq_true]; exact b3)) kk.panic
  ·cases h
 ·cases h
theorem PX_ {x : Operand} {t : TypeId} {v : Value} {d : Option Nat} {T : TypeId} {pos : String} {af : Array Edge} {ops : Array Oper} {l : List Oper} {K : List Fr}
  (kk : G4 c Q (.exit (.panic [{ v := .iface t v, recovered := false }]) []) s) (h : evS s.L x = some (.v (.iface t v)) := by rfl) : G4 c Q (.ops ops (⟨d, .panic x, T, pos, af, none⟩ :: l) K []) s := by
 obtain ⟨L, H, n⟩ := s
 refine OX.use rfl rfl (H' := H) (n' := n) ?_ kk.panic
 intro ρ F Fx a w ok s K Q hK
 obtain ⟨v', e1, e2⟩ := evS_ok ok.dens h
 rw [SV.den] at e1; cases e1
 have hrun : (execOp a.eval ⟨d, .panic x, T, pos, af, none⟩).run c.P w = .halt (.panic (.iface t v)) w := by
  simp [execOp, s.eval e2]; rfl
 rw [hrun]
 exact hK ρ F w ok.grow0 ok.reps s
end
section
variable {P : Program} {w0 : World} {F0 : List Blocks} {ρ0 : Env} {N m n' : Nat} {fn : Func} {r : SV} {H' : SH} {L : SL} {H : SH} {n : Nat} {rs : List ResultVar} {ys : List SV} {o : Out}
theorem TO_ {t : Tab} (ht : TabOk P t) (hrs : fn.results = rs.toArray) (σ : List Nat) (ho : o = .ret r H' n' := by rfl) (hy : resS t L H rs = some ys := by rfl) (hr : retS ys = r.ren σ := by rfl) (h2 : takesH σ H H' = some (renBs σ H') := by rfl) (h3 : idB 0 m σ = true := by rfl) (h4 : σ.length = n' := by rfl) :
  G4 (c0 P w0 F0 N ρ0 m) (FinO P fn w0 F0 ρ0 m o) (.exit .ret []) ⟨L, H, n⟩ := by subst ho; exact RT ht hrs σ hy hr h2 h3 h4
theorem TNO_ {t : Tab} (ht : TabOk P t) (hrs : fn.results = rs.toArray) (σ : List Nat) (ho : o = .ret r H' n' := by rfl) (hy : resS t L H rs = some ys := by rfl) (hr : retS ys = r.ren σ := by rfl) (h2 : takesH σ H H' = some (renBs σ H') := by rfl) (h3 : idB 0 m σ = true := by rfl) (h4 : σ.length = n' := by rfl) :
  G4 (c0 P w0 F0 N ρ0 m) (FinO P fn w0 F0 ρ0 m o) (.exit .normal []) ⟨L, H, n⟩ := by subst ho; exact RTN ht hrs σ hy hr h2 h3 h4
theorem TP_ {v : Value} (σ : List Nat) (ho : o = .pan v H' n' := by rfl) (h2 : takesH σ H H' = some (renBs σ H') := by rfl) (h3 : idB 0 m σ = true := by rfl) (h4 : σ.length = n' := by rfl) :
  G4 (c0 P w0 F0 N ρ0 m) (FinO P fn w0 F0 ρ0 m o) (.exit (.panic [{ v := v, recovered := false }]) []) ⟨L, H, n⟩ := by
 subst ho
 intro ρ F a w s
 obtain ⟨F', G, j1, j2⟩ := takesH_ren s.ok.reps h2
 have hp : (⟨[], F' ++ G⟩ : Hp).all.Perm (⟨[], F⟩ : Hp).all := by simp only [Hp.all, List.nil_append]; exact j2.flatten
 have hg : Env.grow m n' ρ0 (ρ.sel σ) := ⟨fun t ht => by simp only [Env.sel, idB_spec h3 t ht, Nat.zero_add]; exact s.ok.pin t ht, fun t ht => by simp [Env.sel, tgO_none (σ := σ) (t := t) (by rw [h4]; exact ht)], by rw [← h4]; exact idB_len h3⟩
 have s2 := s.sat.perm hp
 show LeavesInM (FW none) 1 P fn a.tmps _ a.defers (.panicking _) w
 rw [s.sat.defers]
 refine ⟨⟨[], F'⟩, rfl, ?_, _, ρ.sel σ, F', rfl, hg, j1⟩
 have hsub : (⟨[], F'⟩ : Hp).all.Sublist (⟨[], F' ++ G⟩ : Hp).all := by simp only [Hp.all, List.nil_append]; rw [List.flatten_append]; exact List.sublist_append_left _ _
 exact ⟨s2.ext, (hsub.map _).nodup s2.nodup, fun p hp => s2.heap p (hsub.subset hp), fun p hp => s2.own p (hsub.subset hp)⟩
end
end Go.HW
namespace Go.HW
open Go Go.RowKit
set_option linter.unusedVariables false
abbrev EvV := TB → SL → SH → Op → Option (List Prop × SV)
abbrev EvVOk (c : C4) (f : EvV) : Prop := ∀ (b : TB) (L : SL) (H : SH) (n : Nat) (op : Op) (cs : List Prop) (r : SV), TBOk c.P b → f b L H op = some (cs, r) → allP cs →
 notDefer op = true ∧ ∀ ρ F Fx, Ok c ρ F ⟨L, H, n⟩ → ∀ Lr : Slots, (∀ t v, look (realL ρ L) t = some v → look Lr t = some v) → ∃ v, r.den ρ = some v ∧ ∀ (d : Nat) (T : TypeId) (pos : String) (af : Array Edge) (g : Option (Nat × Bool)), QV c.toCx ⟨some d, op, T, pos, af, g⟩ Lr ⟨[], F ++ Fx⟩ v
def liftV (f : EvV) : EvF := fun b L H n op => match f b L H op with
 | some (cs, r) => some (cs, some r, H, n)
 | none => none
theorem liftV_ok {c : C4} {f : EvV} (hf : EvVOk c f) : EvOk c (liftV f) := by
 intro b L H n op cs r H' n' hB h hc dst T pos af g hdr hd
 unfold liftV at h
 split at h
 ·rename_i cs1 r1 h1; cases h
  obtain ⟨a1, a2⟩ := hf b L H n op _ _ hB h1 hc
  cases dst with
  | none => simp at hdr
  | some d =>
   refine ⟨a1, OT.ofTX hd fun ρ F Fx o Lr hLr Q hk => ?_⟩
   obtain ⟨v, e1, e2⟩ := a2 ρ F Fx o Lr hLr
   exact TX.val hd (e2 d T pos af g) (hk ρ F v o.grow0 (by rw [Option.getD_some]; exact e1) o.reps)
 ·cases h
def miF : EvV := fun b L H op => match op with
 | .makeInterface X x => match evS L x, lk b.t.und X with
  | some (.v v), some (.int k) => some ([], .v (.iface X v))
  | _, _ => none
 | _ => none
theorem miF_ok {c : C4} : EvVOk c miF := by
 intro b L H n op cs r hB h hc
 unfold miF at h
 split at h
 ·rename_i X x; split at h
  ·rename_i v k hx hX; cases h
   refine ⟨rfl, fun ρ F Fx o Lr hLr => ⟨_, by rw [SV.den], fun d T pos af g a w s => ?_⟩⟩
   obtain ⟨vx, x1, x2⟩ := evS_ok o.dens hx
   rw [SV.den] at x1; cases x1
   simp [execOp, s.eval (ev_ext hLr x2), Instr.makeInterface, hB.t.und.mem _ (lk_mem hX) w]
  ·cases h
 ·cases h
def Ev.mi {c : C4} : Ev c := .ot (liftV miF) (liftV_ok miF_ok)
theorem ptr_nil {P : Program} {X : TypeId} {e : TypeId} (hu : ∀ w, (underlying X).run P w = .ok (.pointer e) w) (ad : Addr) (w : World) : (Op.equal X (.pointer (some ad)) (.pointer none)).run P w = .ok false w := by
 unfold Op.equal
 rw [show Op.maxDepth = 9999 + 1 from rfl, Op.equalIn]
 simp only [Sem.run_bind, hu, Result.andThen_ok]
 simp
theorem nil_nil {P : Program} {X : TypeId} {e : TypeId} (hu : ∀ w, (underlying X).run P w = .ok (.pointer e) w) (w : World) : (Op.equal X (.pointer none) (.pointer none)).run P w = .ok true w := by
 unfold Op.equal
 rw [show Op.maxDepth = 9999 + 1 from rfl, Op.equalIn]
 simp only [Sem.run_bind, hu, Result.andThen_ok]
 simp
def pnF : EvV := fun b L H op => match op with
 | .binOp o X x y _ => match evS L x, evS L y, lk b.t.und X with
  | some (.p t k), some (.v (.pointer none)), some (.pointer _) => match o with
   | .eql => some ([], .v (.bool false)) | .neq => some ([], .v (.bool true)) | _ => none
  | some (.v (.pointer none)), some (.v (.pointer none)), some (.pointer _) => match o with
   | .eql => some ([], .v (.bool true)) | .neq => some ([], .v (.bool false)) | _ => none
  | _, _, _ => none
 | _ => none
theorem pnF_ok {c : C4} : EvVOk c pnF := by
 intro b L H n op cs r hB h hc
 unfold pnF at h
 split at h
 ·rename_i o X x y Y; split at h
  ·rename_i t k e hx hy hX
   have key : ∀ (ρ : Env) (F : List Blocks), Ok c ρ F ⟨L, H, n⟩ → ∀ Lr : Slots, (∀ t v, look (realL ρ L) t = some v → look Lr t = some v) → ∃ ad, ev Lr x = some (.pointer (some ad)) ∧ ev Lr y = some (.pointer none) := fun ρ F o Lr hLr => by
    obtain ⟨vx, x1, x2⟩ := evS_ok o.dens hx
    obtain ⟨vy, y1, y2⟩ := evS_ok o.dens hy
    rw [SV.den] at y1; cases y1
    rw [SV.den] at x1
    obtain ⟨bb, _, rfl⟩ := Option.map_eq_some_iff.1 x1
    exact ⟨_, ev_ext hLr x2, ev_ext hLr y2⟩
   split at h
   ·cases h; refine ⟨rfl, fun ρ F Fx o Lr hLr => ⟨_, by rw [SV.den], fun d T pos af g a w s => ?_⟩⟩
    obtain ⟨ad, e1, e2⟩ := key ρ F o Lr hLr
    simp [execOp, s.eval e1, s.eval e2, eqGuard, binOp, ptr_nil (hB.t.und.mem _ (lk_mem hX))]
   ·cases h; refine ⟨rfl, fun ρ F Fx o Lr hLr => ⟨_, by rw [SV.den], fun d T pos af g a w s => ?_⟩⟩
    obtain ⟨ad, e1, e2⟩ := key ρ F o Lr hLr
    simp [execOp, s.eval e1, s.eval e2, eqGuard, binOp, ptr_nil (hB.t.und.mem _ (lk_mem hX))]
   ·cases h
  ·rename_i e hx hy hX
   have key : ∀ (ρ : Env) (F : List Blocks), Ok c ρ F ⟨L, H, n⟩ → ∀ Lr : Slots, (∀ t v, look (realL ρ L) t = some v → look Lr t = some v) → ev Lr x = some (.pointer none) ∧ ev Lr y = some (.pointer none) := fun ρ F o Lr hLr => by
    obtain ⟨vx, x1, x2⟩ := evS_ok o.dens hx
    obtain ⟨vy, y1, y2⟩ := evS_ok o.dens hy
    rw [SV.den] at y1; cases y1
    rw [SV.den] at x1; cases x1
    exact ⟨ev_ext hLr x2, ev_ext hLr y2⟩
   split at h
   ·cases h; refine ⟨rfl, fun ρ F Fx o Lr hLr => ⟨_, by rw [SV.den], fun d T pos af g a w s => ?_⟩⟩
    obtain ⟨e1, e2⟩ := key ρ F o Lr hLr
    simp [execOp, s.eval e1, s.eval e2, eqGuard, binOp, nil_nil (hB.t.und.mem _ (lk_mem hX))]
   ·cases h; refine ⟨rfl, fun ρ F Fx o Lr hLr => ⟨_, by rw [SV.den], fun d T pos af g a w s => ?_⟩⟩
    obtain ⟨e1, e2⟩ := key ρ F o Lr hLr
    simp [execOp, s.eval e1, s.eval e2, eqGuard, binOp, nil_nil (hB.t.und.mem _ (lk_mem hX))]
   ·cases h
  ·cases h
 ·cases h
def Ev.pn {c : C4} : Ev c := .ot (liftV pnF) (liftV_ok pnF_ok)
def scF : EvV := fun b L H op => match op with
 | .binOp o X x y _ => match evS L x, evS L y with
  | some (.v (.string m)), some (.v (.string k)) => match o with
   | .lss => some ([], .v (.bool (Op.bytesLess m.toList k.toList)))
   | .geq => some ([], .v (.bool (!(Op.bytesLess m.toList k.toList))))
   | .add => some ([decide (m.size + k.size ≤ 9223372036854775807) = true], .v (.string (m ++ k)))
   | _ => none
  | _, _ => none
 | _ => none
theorem scF_ok {c : C4} : EvVOk c scF := by
 intro b L H n op cs r hB h hc
 unfold scF at h
 split at h
 ·rename_i o X x y Y; split at h
  ·rename_i m k hx hy
   have key : ∀ (ρ : Env) (F : List Blocks), Ok c ρ F ⟨L, H, n⟩ → ∀ Lr : Slots, (∀ t v, look (realL ρ L) t = some v → look Lr t = some v) → ev Lr x = some (.string m) ∧ ev Lr y = some (.string k) := fun ρ F o Lr hLr => by
    obtain ⟨vx, x1, x2⟩ := evS_ok o.dens hx
    obtain ⟨vy, y1, y2⟩ := evS_ok o.dens hy
    rw [SV.den] at y1; cases y1
    rw [SV.den] at x1; cases x1
    exact ⟨ev_ext hLr x2, ev_ext hLr y2⟩
   split at h
   ·cases h; refine ⟨rfl, fun ρ F Fx o Lr hLr => ⟨_, by rw [SV.den], fun d T pos af g a w s => ?_⟩⟩
    obtain ⟨e1, e2⟩ := key ρ F o Lr hLr
    simp [execOp, s.eval e1, s.eval e2, eqGuard, binOp, Op.stringOp]
   ·cases h; refine ⟨rfl, fun ρ F Fx o Lr hLr => ⟨_, by rw [SV.den], fun d T pos af g a w s => ?_⟩⟩
    obtain ⟨e1, e2⟩ := key ρ F o Lr hLr
    simp [execOp, s.eval e1, s.eval e2, eqGuard, binOp, Op.stringOp]
   ·cases h
    have hle : m.size + k.size ≤ 9223372036854775807 := of_decide_eq_true hc
    refine ⟨rfl, fun ρ F Fx o Lr hLr => ⟨_, by rw [SV.den], fun d T pos af g a w s => ?_⟩⟩
    obtain ⟨e1, e2⟩ := key ρ F o Lr hLr
    simp [execOp, s.eval e1, s.eval e2, eqGuard, binOp, run_string_add_sum (P := c.P) w _ _ hle]
   ·cases h
  ·cases h
 ·cases h
def Ev.st {c : C4} : Ev c := .ot (liftV scF) (liftV_ok scF_ok)
end Go.HW
namespace Go.HW
open Go Go.RowKit
set_option linter.unusedVariables false
structure Od (α : Type) where
 β : Type
 ib : Inhabited β
 N : Et β
 e : TypeId
 g : α → List β
 put : α → List β → α
 E : En (α × Sl)
 its : α → SV → List SV
 hits : ∀ (ρ : Env) (x : α) (u : Nat) (s : Sl), ρ u = some ⟨s.1, s.2.2, s.2.1⟩ → SV.dens ρ (its x (.sl u)) = some (E.enc (x, s))
 gput : ∀ x r, g (put x r) = r
 eput : ∀ x r s, E.enc (put x r, s) = E.enc (x, s)
 self : ∀ x, put x (g x) = x
attribute [instance] Od.ib
def OwnO {α : Type} (D : Od α) (A : TypeId) (sp : Option Addr) (cap : Nat) (xs : List α) (Hs : Blocks) : Prop :=
 ∃ (sls : List Sl) (H0 : Blocks) (rs : List Blocks), sls.length = xs.length ∧ OwnL D.E A sp cap (xs.zip sls) H0 ∧ InAll D.N.toEn D.e sls (xs.map D.g) rs ∧ Hs = H0 ++ rs.flatten
def pO {α : Type} (D : Od α) (A : TypeId) (xs : List α) : Loc → List Value → Blocks → Prop := fun l vs f => l.len = xs.length ∧ OwnO D A l.sp l.cap xs f
def pH {α : Type} (D : Od α) (A : TypeId) (xs : List α) (i : Int) (x : α) : Loc → List Value → Blocks → Prop := fun l vs f =>
 ∃ (sls : List Sl) (H0 : Blocks) (rs1 rs2 : List Blocks) (s : Sl), l.len = xs.length ∧ inb i xs.length = true ∧ sls.length = xs.length ∧ vs = [.slice s.1 s.2.1 s.2.2] ∧ OwnL D.E A l.sp l.cap ((xs.zip sls).set i.toNat (x, s)) H0 ∧
  (∀ (s' : Sl) (r : List D.β) (q : Blocks), OwnL D.N.toEn D.e s'.1 s'.2.2 r q → r.length = s'.2.1 → InAll D.N.toEn D.e (sls.set i.toNat s') ((xs.map D.g).set i.toNat r) (rs1 ++ q :: rs2)) ∧ f = H0 ++ (rs1 ++ rs2).flatten
theorem InAll.openW {α : Type} {N : En α} {e : TypeId} : ∀ {hl : List Sl} {xss : List (List α)} {rs : List Blocks} {k : Nat} {xs : List α} {s : Sl}, InAll N e hl xss rs → xss[k]? = some xs → hl[k]? = some s →
  ∃ rs1 q rs2, rs = rs1 ++ q :: rs2 ∧ OwnL N e s.1 s.2.2 xs q ∧ xs.length = s.2.1 ∧ ∀ (s' : Sl) (r : List α) (q' : Blocks), OwnL N e s'.1 s'.2.2 r q' → r.length = s'.2.1 → InAll N e (hl.set k s') (xss.set k r) (rs1 ++ q' :: rs2)
 | h :: hs, ys :: xss, r :: rs, 0, xs, s, hh, hk, hs0 => by
  simp at hk hs0; subst hk; subst hs0
  exact ⟨[], r, rs, rfl, hh.1.1, hh.1.2, fun s' r' q' h1 h2 => ⟨⟨h1, h2⟩, hh.2⟩⟩
 | h :: hs, ys :: xss, r :: rs, k + 1, xs, s, hh, hk, hs0 => by
  obtain ⟨rs1, q, rs2, rfl, h3, h4, h5⟩ := InAll.openW (k := k) hh.2 (by simpa using hk) (by simpa using hs0)
  exact ⟨r :: rs1, q, rs2, rfl, h3, h4, fun s' r' q' h1 h2 => ⟨hh.1, h5 s' r' q' h1 h2⟩⟩
 | [], [], [], _, _, _, _, hk, _ => by simp at hk
 | [], _ :: _, _, _, _, _, h, _, _ => by simp [InAll] at h
 | [], [], _ :: _, _, _, _, h, _, _ => by simp [InAll] at h
 | _ :: _, [], _, _, _, _, h, _, _ => by simp [InAll] at h
 | _ :: _, _ :: _, [], _, _, _, h, _, _ => by simp [InAll] at h
theorem OwnL.cells {α : Type} {N : En α} {e : TypeId} {sp : Option Addr} {cap : Nat} {xs ys : List α} {Hs : Blocks} (h : OwnL N e sp cap xs Hs) (hl : ys.length = xs.length) (he : ys.flatMap N.enc = xs.flatMap N.enc) : OwnL N e sp cap ys Hs := by
 rcases h with ⟨rfl, rfl, rfl, rfl⟩ | ⟨g, cur, rfl, ⟨fz, hfz, rfl⟩, h1, h2, h3, h4⟩
 ·exact .inl ⟨rfl, rfl, List.eq_nil_of_length_eq_zero hl, rfl⟩
 ·exact .inr ⟨g, cur, rfl, ⟨fz, hfz, rfl⟩, by omega, h2, h3, by rw [hl, he]; exact h4⟩
theorem flatMap_set {α β : Type} (f : α → List β) : ∀ (l : List α) (k : Nat) (a b : α), f a = f b → (l.set k a).flatMap f = (l.set k b).flatMap f
 | [], _, _, _, _ => rfl
 | x :: l, 0, a, b, h => by simp [h]
 | x :: l, k + 1, a, b, h => by simp [flatMap_set f l k a b h]
theorem zip_set {α β : Type} : ∀ (xs : List α) (ys : List β) (k : Nat) (a : α) (b : β), (xs.set k a).zip (ys.set k b) = (xs.zip ys).set k (a, b)
 | [], _, _, _, _ => by simp
 | _ :: _, [], _, _, _ => by simp
 | x :: xs, y :: ys, 0, a, b => rfl
 | x :: xs, y :: ys, k + 1, a, b => by simp [zip_set xs ys k a b]
theorem set_self_of {α : Type} {l : List α} {k : Nat} {x : α} (h : l[k]? = some x) : l.set k x = l := by
 apply List.ext_getElem?
 intro j
 rw [List.getElem?_set]
 by_cases e : k = j
 ·subst e; rw [if_pos rfl, h]
  have : k < l.length := (List.getElem?_eq_some_iff.1 h).1
  rw [if_pos this]
 ·rw [if_neg e]
theorem perm_mid (X Y Z W f : Blocks) : (X ++ (Y ++ (f ++ (Z ++ W)))).Perm (f ++ (X ++ (Y ++ (Z ++ W)))) :=
 (List.Perm.append_left X (List.perm_append_comm_assoc Y f _)).trans (List.perm_append_comm_assoc X f _)
section
variable {c : C4} {α : Type} [Inhabited α] {D : Od α} {A : TypeId}
theorem Imp.openO (t : Nat) (i : Int) {xs : List α} {L : SL} {H : SH} {n : Nat} (hi : inb i xs.length = true) (hl : lookH H t = some (.ex (pO D A xs) [])) :
  Imp c ⟨L, H, n⟩ ⟨L, (n, @Blk.row _ D.ib D.N D.e (D.g (gt xs i)) (D.g (gt xs i)).length .unk) :: repH H t t (.ex (pH D A xs i (gt xs i)) [.sl n]), n + 1⟩ := by
 intro ρ F a w hs
 obtain ⟨FA, f, FB, rfl, ⟨l, vs, q1, q2, q3, sls, H0, rs, h1, h2, h3, rfl⟩, hrep, _⟩ := hs.ok.reps.look hl
 have hx := gt_some (α := α) hi
 have hk := inb_iff.1 hi
 have hkl : i.toNat < sls.length := by omega
 have hs0 : sls[i.toNat]? = some sls[i.toNat] := List.getElem?_eq_getElem hkl
 generalize hsd : sls[i.toNat] = s at hs0
 obtain ⟨rs1, q, rs2, rfl, g1, g2, g3⟩ := InAll.openW h3 (by rw [List.getElem?_map, hx]; rfl) hs0
 have hg := Env.set_grow (ρ := ρ) (n := n) (l := ⟨s.1, s.2.2, s.2.1⟩) hs.ok.fr
 have hle := hg.toLe hs.ok.fr
 have hself : ρ.set n ⟨s.1, s.2.2, s.2.1⟩ n = some ⟨s.1, s.2.2, s.2.1⟩ := Env.set_self
 have hz : (xs.zip sls)[i.toNat]? = some (gt xs i, s) := by rw [List.getElem?_zip_eq_some]; exact ⟨hx, hs0⟩
 have hR := hrep _ t (.ex (pH D A xs i (gt xs i)) [.sl n]) (H0 ++ (rs1 ++ rs2).flatten) hle ⟨l, [.slice s.1 s.2.1 s.2.2], hle _ _ q1, denAll_dens (l := [.sl n]) ⟨by rw [SV.den, hself]; rfl, trivial⟩, sls, H0, rs1, rs2, s, q3, hi, h1, rfl,
  by rw [set_self_of hz]; exact h2, g3, rfl⟩
 refine ⟨_, q :: (FA ++ (H0 ++ (rs1 ++ rs2).flatten) :: FB), ⟨⟨hs.ok.dens.mono hle, ⟨q, _, rfl, ⟨s.1, s.2.2, by rw [hself, g2], rfl, g1, trivial⟩, hR⟩, hg.fr, fun t ht => ?_, Nat.le_succ_of_le hs.ok.mle⟩, ?_⟩⟩
 ·have := hs.ok.mle
  rw [hg.old t (by simp only at this; omega)]; exact hs.ok.pin t ht
 ·have s1 := hs.sat
  have e : realL (ρ.set n ⟨s.1, s.2.2, s.2.1⟩) L = realL ρ L := realL_mono hle hs.ok.dens
  simp only [e]
  refine s1.perm ?_
  simp only [Hp.all, List.nil_append, List.flatten_append, List.flatten_cons, List.append_assoc]
  have := perm_mid (FA.flatten ++ H0) rs1.flatten rs2.flatten FB.flatten q
  simpa [List.append_assoc] using this.symm
theorem Imp.closeO (t u : Nat) {xs : List α} {i : Int} {x : α} {r : List D.β} {m : Nat} {kk : NK} {L : SL} {H : SH} {n : Nat} (hl : lookH H t = some (.ex (pH D A xs i x) [.sl u])) (hu : lookH H u = some (@Blk.row _ D.ib D.N D.e r m kk))
  (hl2 : lookH (delH H u) t = some (.ex (pH D A xs i x) [.sl u])) : Imp c ⟨L, H, n⟩ ⟨L, repH (delH H u) t t (.ex (pO D A (xs.set i.toNat (D.put x r))) []), n⟩ := by
 intro ρ F a w hs
 obtain ⟨FA, f, FB, rfl, ⟨sp, cap, r1, r2, r3, r4⟩, _, hdel⟩ := hs.ok.reps.look hu
 obtain ⟨FA2, f2, FB2, e2, ⟨l, vs, q1, q2, sls, H0, rs1, rs2, s, q3, q4, q5, rfl, q7, q8, rfl⟩, hr2, _⟩ := hdel.look hl2
 have hv : SV.dens ρ [.sl u] = some [.slice sp m cap] := denAll_dens (l := [.sl u]) ⟨by rw [SV.den, r1]; rfl, trivial⟩
 rw [hv] at q2
 simp only [Option.some.injEq, List.cons.injEq, Value.slice.injEq, and_true] at q2
 obtain ⟨j1, j2, j3⟩ := q2
 have hin := q8 s r f (by rw [← j1, ← j3]; exact r3) (by rw [r2, j2])
 have hown : OwnL D.E A l.sp l.cap ((xs.set i.toNat (D.put x r)).zip (sls.set i.toNat s)) H0 := by
  rw [zip_set]
  exact q7.cells (by simp) (flatMap_set _ _ _ _ _ (D.eput x r s))
 have hmap : (xs.set i.toNat (D.put x r)).map D.g = (xs.map D.g).set i.toNat r := by rw [List.map_set, D.gput]
 refine ⟨ρ, FA2 ++ (H0 ++ (rs1 ++ f :: rs2).flatten) :: FB2, ⟨⟨hs.ok.dens, hr2 ρ t (.ex (pO D A (xs.set i.toNat (D.put x r))) []) _ (Env.le_refl _) ⟨l, [], q1, dens_nil, by rw [q3]; simp, sls.set i.toNat s, H0, rs1 ++ f :: rs2, by simp [q5], hown, by rw [hmap]; exact hin, rfl⟩, hs.ok.fr, hs.ok.pin, hs.ok.mle⟩, ?_⟩⟩
 refine hs.sat.perm ?_
 simp only [Hp.all, List.nil_append, List.flatten_append, List.flatten_cons]
 have p1 : (FA.flatten ++ (f ++ FB.flatten)).Perm (f ++ (FA ++ FB).flatten) := by
  rw [List.flatten_append, ← List.append_assoc, ← List.append_assoc]
  exact List.Perm.append_right _ List.perm_append_comm
 refine List.Perm.trans ?_ p1.symm
 rw [e2]
 simp only [List.flatten_append, List.flatten_cons, List.append_assoc]
 have := perm_mid (FA2.flatten ++ H0) rs1.flatten rs2.flatten FB2.flatten f
 simpa [List.append_assoc] using this
def IsO {α : Type} (D : Od α) (A : TypeId) (xs : List α) (H : SH) (t : Nat) : Prop := lookH H t = some (.ex (pO D A xs) []) ∨ ∃ i x u, lookH H t = some (.ex (pH D A xs i x) [.sl u])
def OB {α : Type} (D : Od α) (A : TypeId) (xs : List α) : Option (Int × α × Nat) → Blk
 | none => .ex (pO D A xs) []
 | some (i, x, u) => .ex (pH D A xs i x) [.sl u]
theorem IsO.of {xs : List α} {H : SH} {t : Nat} : ∀ {q : Option (Int × α × Nat)}, lookH H t = some (OB D A xs q) → IsO D A xs H t
 | none, h => .inl h
 | some (i, x, u), h => .inr ⟨i, x, u, h⟩
theorem IsO.get {xs : List α} {L : SL} {H : SH} {n t : Nat} {ρ : Env} {F : List Blocks} (o : Ok c ρ F ⟨L, H, n⟩) (h : IsO D A xs H t) :
  ∃ sp cap, ∃ zs : List (α × Sl), ρ t = some ⟨sp, cap, xs.length⟩ ∧ zs.length = xs.length ∧ ∀ L' Fx a w, Sat c.toCx L' ⟨[], F ++ Fx⟩ a w → RdS D.E w sp zs := by
 rcases h with h | ⟨i, x, u, h⟩
 ·obtain ⟨FA, f, FB, rfl, ⟨l, vs, q1, q2, q3, sls, H0, rs, h1, h2, h3, rfl⟩, _, _⟩ := o.reps.look h
  refine ⟨l.sp, l.cap, xs.zip sls, by rw [q1, ← q3], by simp [h1], fun L' Fx a w s => h2.rdm s fun p hp => ?_⟩
  simp only [Hp.all, List.nil_append, List.flatten_append, List.flatten_cons, List.mem_append]
  exact .inl (.inr (.inl (.inl hp)))
 ·obtain ⟨FA, f, FB, rfl, ⟨l, vs, q1, q2, sls, H0, rs1, rs2, s, q3, q4, q5, rfl, q7, q8, rfl⟩, _, _⟩ := o.reps.look h
  refine ⟨l.sp, l.cap, (xs.zip sls).set i.toNat (x, s), by rw [q1, ← q3], by simp [q5], fun L' Fx a w s => q7.rdm s fun p hp => ?_⟩
  simp only [Hp.all, List.nil_append, List.flatten_append, List.flatten_cons, List.mem_append]
  exact .inl (.inr (.inl (.inl hp)))
end
section
variable {α : Type} [Inhabited α]
def ixOF (D : Od α) (A : TypeId) (xs : List α) (q : Option (Int × α × Nat)) : EvF := fun b L H n op => match op with
 | .indexAddr X x ix => match evS L x, evS L ix, lk b.t.und X with
  | some (.sl t), some (.v (.int _ i)), some (.slice A') => match lk b.t.siz A' with
   | some sz => bif Nat.beq sz D.E.sz then some ([lookH H t = some (OB D A xs q), inb i xs.length = true], some (.e t i sz 0), H, n) else none
   | none => none
  | _, _, _ => none
 | _ => none
theorem ixOF_ok {c : C4} {D : Od α} {A : TypeId} {xs : List α} {q : Option (Int × α × Nat)} : EvOk c (ixOF D A xs q) := by
 intro b L H n op cs r H' n' hB h hc dst T pos af g hdr hd
 unfold ixOF at h
 split at h
 ·rename_i X x ix; split at h
  ·rename_i t k i A' hx hi hX; split at h
   ·rename_i sz hs
    cases hb : Nat.beq sz D.E.sz with
    | false => rw [hb] at h; cases h
    | true =>
     rw [hb, cond_true] at h; cases h
     have e1 := Nat.eq_of_beq_eq_true hb; subst e1
     obtain ⟨c1, c2⟩ := allP_cons hc
     have c1 := IsO.of c1
     have c2 : inb i xs.length = true := c2
     cases dst with
     | none => simp at hdr
     | some d =>
      refine ⟨rfl, OT.ofTX hd fun ρ F Fx o Lr hLr Q hk => ?_⟩
      obtain ⟨vx, x1, x2⟩ := evS_ok o.dens hx
      obtain ⟨vi, i1, i2⟩ := evS_ok o.dens hi
      obtain ⟨sp, cap, zs, r1, r2, r3⟩ := c1.get o
      rw [SV.den, r1] at x1; cases x1
      rw [SV.den] at i1; cases i1
      exact TX.indexR (N := D.E) (xs := zs) (hB.t.und.mem _ (lk_mem hX)) (hB.t.siz.mem _ (lk_mem hs)) (ev_ext hLr x2) r2 (ev_ext hLr i2) (fun a w s => r3 _ Fx a w s) (by rw [r2]; exact c2) hd
       (hk ρ F _ o.grow0 (by rw [Option.getD_some, SV.den, r1]; simp only [Option.bind_some]; rw [c2]; rfl) o.reps)
   ·cases h
  ·cases h
 ·cases h
def Ev.io {c : C4} (D : Od α) (A : TypeId) (xs : List α) (q : Option (Int × α × Nat)) : Ev c := .ot (ixOF D A xs q) ixOF_ok
def lnOF (D : Od α) (A : TypeId) (xs : List α) (q : Option (Int × α × Nat)) : EvF := fun b L H n op => match op with
 | .call ⟨.builtin .len, args, ts⟩ => match args.toList, ts.toList with
  | [x], [X] => match evS L x, lk b.t.und X with
   | some (.sl t), some (.slice _) => some ([lookH H t = some (OB D A xs q)], some (.v (.int .i64 (xs.length : Int))), H, n)
   | _, _ => none
  | _, _ => none
 | _ => none
theorem lnOF_ok {c : C4} {D : Od α} {A : TypeId} {xs : List α} {q : Option (Int × α × Nat)} : EvOk c (lnOF D A xs q) := by
 intro b L H n op cs r H' n' hB h hc dst T pos af g hdr hd
 unfold lnOF at h
 split at h
 ·rename_i args tys; split at h
  ·rename_i x X hargs htys; split at h
   ·rename_i t A' hx hX; cases h
    have c0 : lookH H t = some (OB D A xs q) := hc
    have c1 := IsO.of c0
    cases dst with
    | none => simp at hdr
    | some d =>
     refine ⟨rfl, OT.ofTX hd fun ρ F Fx o Lr hLr Q hk => ?_⟩
     obtain ⟨vx, x1, x2⟩ := evS_ok o.dens hx
     obtain ⟨sp, cap, zs, r1, r2, r3⟩ := c1.get o
     rw [SV.den, r1] at x1; cases x1
     have ea : args = #[x] := by cases args; simpa using hargs
     have et : tys = #[X] := by cases tys; simpa using htys
     subst ea; subst et
     exact TX.lenS (xs := xs) (hB.t.und.mem _ (lk_mem hX)) (ev_ext hLr x2) rfl hd (hk ρ F _ o.grow0 (by rw [Option.getD_some, SV.den]) o.reps)
   ·cases h
  ·cases h
 ·cases h
def Ev.no {c : C4} (D : Od α) (A : TypeId) (xs : List α) (q : Option (Int × α × Nat)) : Ev c := .ot (lnOF D A xs q) lnOF_ok
end
end Go.HW
namespace Go.HW
open Go Go.RowKit
set_option linter.unusedVariables false
theorem getL_of {vs : List Value} {o : Nat} {v : Value} (h : vs[o]? = some v) : getL vs o = some v := by
 induction vs generalizing o with
 | nil => simp at h
 | cons x l ih =>
  cases o with
  | zero => simpa [getL] using h
  | succ o => simp only [getL]; exact ih (by simpa using h)
section
variable {α : Type} [Inhabited α]
theorem its_cell {D : Od α} {x : α} {s : Sl} {off : Nat} {v : Value} (h : getI (D.its x (.sl 0)) off = some (.v v)) : getL (D.E.enc (x, s)) off = some v := by
 obtain ⟨u, e1, e2⟩ := getI_spec (ρ := fun _ => some ⟨s.1, s.2.2, s.2.1⟩) h (D.hits _ x 0 s rfl)
 rw [SV.den] at e1; cases e1
 exact getL_of e2
def lpOF (D : Od α) (A : TypeId) (xs : List α) : EvF := fun b L H n op => match op with
 | .load A0 x => match evS L x, lk b.t.agg A0 with
  | some (.e t i sz off), some false => match getI (D.its (gt xs i) (.sl 0)) off with
   | some (.v v) => bif Nat.beq sz D.E.sz then some ([lookH H t = some (.ex (pO D A xs) []), inb i xs.length = true], some (.v v), H, n) else none
   | _ => none
  | _, _ => none
 | _ => none
theorem lpOF_ok {c : C4} {D : Od α} {A : TypeId} {xs : List α} : EvOk c (lpOF D A xs) := by
 intro b L H n op cs r H' n' hB h hc dst T pos af g hdr hd
 unfold lpOF at h
 split at h
 ·rename_i A0 x; split at h
  ·rename_i t i sz off hx hag; split at h
   ·rename_i v hv
    cases hb : Nat.beq sz D.E.sz with
    | false => rw [hb] at h; cases h
    | true =>
     rw [hb, cond_true] at h; cases h
     have e1 := Nat.eq_of_beq_eq_true hb; subst e1
     obtain ⟨c1, c2⟩ := allP_cons hc
     have c2 : inb i xs.length = true := c2
     cases dst with
     | none => simp at hdr
     | some d =>
      refine ⟨rfl, OT.ofTX hd fun ρ F Fx o Lr hLr Q hk => ?_⟩
      obtain ⟨vx, x1, x2⟩ := evS_ok o.dens hx
      obtain ⟨FA, f, FB, rfl, ⟨l, vs, q1, q2, q3, sls, H0, rs, h1, h2, h3, rfl⟩, _, _⟩ := o.reps.look c1
      rw [SV.den, q1] at x1
      simp only [Option.bind_some] at x1
      rw [show inb i l.len = true from by rw [q3]; exact c2, cond_true] at x1; cases x1
      have hzl : (xs.zip sls).length = xs.length := by simp [h1]
      have hkz : inb i (xs.zip sls).length = true := by rw [hzl]; exact c2
      have hz : gt (xs.zip sls) i = (gt xs i, gt sls i) := by
       have a1 := gt_some hkz
       have a2 := gt_some c2
       have a3 := gt_some (xs := sls) (i := i) (by rw [h1]; exact c2)
       rw [(List.getElem?_zip_eq_some (z := (gt xs i, gt sls i))).2 ⟨a2, a3⟩] at a1
       exact (Option.some.inj a1).symm
      refine TX.loadR1 (N := D.E) (xs := xs.zip sls) (hB.t.agg.mem _ (lk_mem hag)) (ev_ext hLr x2) (fun a w s => h2.rdm s fun p hp => ?_) hkz (by rw [hz]; exact its_cell hv) hd (hk ρ _ _ o.grow0 (by rw [Option.getD_some, SV.den]) o.reps)
      simp only [Hp.all, List.nil_append, List.flatten_append, List.flatten_cons, List.mem_append]
      exact .inl (.inr (.inl (.inl hp)))
   ·cases h
  ·cases h
 ·cases h
def Ev.lp {c : C4} (D : Od α) (A : TypeId) (xs : List α) : Ev c := .ot (lpOF D A xs) lpOF_ok
def lhOF (D : Od α) (A : TypeId) (xs : List α) (i0 : Int) (x0 : α) : EvF := fun b L H n op => match op with
 | .load A0 x => match evS L x, lk b.t.agg A0 with
  | some (.e t i sz off), some false => match lookH H t with
   | some (.ex _ [.sl u]) => match getI (D.its x0 (.sl u)) off with
    | some r => bif Nat.beq sz D.E.sz then some ([lookH H t = some (.ex (pH D A xs i0 x0) [.sl u]), i = i0], some r, H, n) else none
    | none => none
   | _ => none
  | _, _ => none
 | _ => none
theorem lhOF_ok {c : C4} {D : Od α} {A : TypeId} {xs : List α} {i0 : Int} {x0 : α} : EvOk c (lhOF D A xs i0 x0) := by
 intro b L H n op cs r H' n' hB h hc dst T pos af g hdr hd
 unfold lhOF at h
 split at h
 ·rename_i A0 x; split at h
  ·rename_i t i sz off hx hag; split at h
   ·rename_i p0 u hlk; split at h
    ·rename_i r0 hv
     cases hb : Nat.beq sz D.E.sz with
     | false => rw [hb] at h; cases h
     | true =>
      rw [hb, cond_true] at h; cases h
      have e1 := Nat.eq_of_beq_eq_true hb; subst e1
      obtain ⟨c1, c2⟩ := allP_cons hc
      have c2 : i = i0 := c2
      subst c2
      cases dst with
      | none => simp at hdr
      | some d =>
       refine ⟨rfl, OT.ofTX hd fun ρ F Fx o Lr hLr Q hk => ?_⟩
       obtain ⟨vx, x1, x2⟩ := evS_ok o.dens hx
       obtain ⟨FA, f, FB, rfl, ⟨l, vs, q1, q2, sls, H0, rs1, rs2, s, q3, q4, q5, rfl, q7, q8, rfl⟩, _, _⟩ := o.reps.look c1
       rw [SV.den, q1] at x1
       simp only [Option.bind_some] at x1
       rw [show inb i l.len = true from by rw [q3]; exact q4, cond_true] at x1; cases x1
       obtain ⟨lu, u1, u2⟩ : ∃ lu, ρ u = some lu ∧ lu = ⟨s.1, s.2.2, s.2.1⟩ := by
        rw [dens_cons_some] at q2
        obtain ⟨v1, r1, d1, d2, d3⟩ := q2
        rw [dens_nil] at d2; cases d2
        rw [deni_na rfl, SV.den] at d1
        cases hu : ρ u with
        | none => rw [hu] at d1; cases d1
        | some lu =>
         rw [hu] at d1; cases d1
         simp only [List.append_nil, List.cons.injEq, Value.slice.injEq, and_true] at d3
         obtain ⟨a, b, e⟩ := d3
         refine ⟨lu, rfl, ?_⟩
         cases lu; simp_all
       subst u2
       obtain ⟨v, e1, e2⟩ := getI_spec hv (D.hits ρ x0 u s u1)
       have hzl : ((xs.zip sls).set i.toNat (x0, s)).length = xs.length := by simp [q5]
       have hkz : inb i ((xs.zip sls).set i.toNat (x0, s)).length = true := by rw [hzl]; exact q4
       have hz : gt ((xs.zip sls).set i.toNat (x0, s)) i = (x0, s) := by
        have a1 := gt_some hkz
        have := (inb_iff.1 q4)
        rw [List.getElem?_set_self (by simp [q5]; omega)] at a1
        exact (Option.some.inj a1).symm
       refine TX.loadR1 (N := D.E) (xs := (xs.zip sls).set i.toNat (x0, s)) (hB.t.agg.mem _ (lk_mem hag)) (ev_ext hLr x2) (fun a w s => q7.rdm s fun p hp => ?_) hkz (by rw [hz]; exact getL_of e2) hd (hk ρ _ _ o.grow0 (by rw [Option.getD_some]; exact e1) o.reps)
       simp only [Hp.all, List.nil_append, List.flatten_append, List.flatten_cons, List.mem_append]
       exact .inl (.inr (.inl (.inl hp)))
    ·cases h
   ·cases h
  ·cases h
 ·cases h
def Ev.lh {c : C4} (D : Od α) (A : TypeId) (xs : List α) (i0 : Int) (x0 : α) : Ev c := .ot (lhOF D A xs i0 x0) lhOF_ok
def shOF (D : Od α) (A : TypeId) (xs : List α) (i0 : Int) (x0 x1 : α) (u1 : Nat) (r : List D.β) (m : Nat) (kk : NK) : EvF := fun b L H n op => match op with
 | .store A0 x y => match evS L x, evS L y, lk b.t.siz A0 with
  | some (.e t i sz off), some v, some k => match lookH H t with
   | some (.ex _ [.sl u]) => bif Nat.beq sz D.E.sz && oneI (itemsS v) && Nat.beq (sizeI (itemsS v)) k then
     some ([lookH H t = some (.ex (pH D A xs i0 x0) [.sl u]), i = i0, pasteI (D.its x0 (.sl u)) off k (itemsS v) = some (D.its x1 (.sl u1)), lookH H u1 = some (@Blk.row _ D.ib D.N D.e r m kk)], none, repH H t t (.ex (pH D A xs i0 x1) [.sl u1]), n) else none
   | _ => none
  | _, _, _ => none
 | _ => none
theorem shOF_ok {c : C4} {D : Od α} {A : TypeId} {xs : List α} {i0 : Int} {x0 x1 : α} {u1 : Nat} {r : List D.β} {m : Nat} {kk : NK} : EvOk c (shOF D A xs i0 x0 x1 u1 r m kk) := by
 intro b L H n op cs r H' n' hB h hc dst T pos af g hdr hd
 unfold shOF at h
 split at h
 ·rename_i A0 x y; split at h
  ·rename_i t i sz off v k hx hy hs; split at h
   ·rename_i p0 u hlk
    cases hb : Nat.beq sz D.E.sz && oneI (itemsS v) && Nat.beq (sizeI (itemsS v)) k with
    | false => rw [hb] at h; cases h
    | true =>
     rw [hb, cond_true] at h; cases h
     simp only [Bool.and_eq_true] at hb
     obtain ⟨⟨b1, b2⟩, b3⟩ := hb
     have e1 := Nat.eq_of_beq_eq_true b1; subst e1
     obtain ⟨c1, c2⟩ := allP_cons hc
     obtain ⟨c2, c3⟩ := allP_cons c2
     obtain ⟨c3, c4⟩ := allP_cons c3
     subst c2
     have c4 : ∃ (r : List D.β) (m : Nat) (kk : NK), lookH H u1 = some (@Blk.row _ D.ib D.N D.e r m kk) := ⟨r, m, kk, c4⟩
     have hdn : dst = none := by cases dst <;> simp_all
     subst hdn
     refine ⟨rfl, OT.ofTX hd fun ρ F Fx o Lr hLr Q hk => ?_⟩
     obtain ⟨vx, x1', x2⟩ := evS_ok o.dens hx
     obtain ⟨vy, y1, y2⟩ := evS_ok o.dens hy
     obtain ⟨us, e5, e6⟩ := itemsS_ok y1 b2
     obtain ⟨ru, mu, ku, hbu⟩ := c4
     obtain ⟨lu1, hlu1⟩ : ∃ lu1, ρ u1 = some lu1 := by
      obtain ⟨FA, f, FB, _, ⟨sp, cap, hr, _⟩, _, _⟩ := o.reps.look hbu
      exact ⟨_, hr⟩
     obtain ⟨FA, f, FB, rfl, ⟨l, vs, q1, q2, sls, H0, rs1, rs2, s, q3, q4, q5, rfl, q7, q8, rfl⟩, hrep, _⟩ := o.reps.look c1
     rw [SV.den, q1] at x1'
     simp only [Option.bind_some] at x1'
     rw [show inb i l.len = true from by rw [q3]; exact q4, cond_true] at x1'; cases x1'
     obtain ⟨lu, u2, u3⟩ : ∃ lu, ρ u = some lu ∧ lu = ⟨s.1, s.2.2, s.2.1⟩ := by
      rw [dens_cons_some] at q2
      obtain ⟨v1, r1, d1, d2, d3⟩ := q2
      rw [dens_nil] at d2; cases d2
      rw [deni_na rfl, SV.den] at d1
      cases hu : ρ u with
      | none => rw [hu] at d1; cases d1
      | some lu =>
       rw [hu] at d1; cases d1
       simp only [List.append_nil, List.cons.injEq, Value.slice.injEq, and_true] at d3
       obtain ⟨a, b, e⟩ := d3
       refine ⟨lu, rfl, ?_⟩
       cases lu; simp_all
     subst u3
     have hsz : us.length = k := by rw [dens_size e5]; exact Nat.eq_of_beq_eq_true b3
     have hits0 := D.hits ρ x0 u s u2
     have hits1 := D.hits ρ x1 u1 (lu1.sp, lu1.len, lu1.cap) (by rw [hlu1])
     obtain ⟨p1, p2⟩ := pasteI_spec c3 hits0 e5
     rw [hits1] at p1
     have hzl : ((xs.zip sls).set i.toNat (x0, s)).length = xs.length := by simp [q5]
     have hkz : inb i ((xs.zip sls).set i.toNat (x0, s)).length = true := by rw [hzl]; exact q4
     have hki := inb_iff.1 q4
     have hz : gt ((xs.zip sls).set i.toNat (x0, s)) i = (x0, s) := by
      have a1 := gt_some hkz
      rw [List.getElem?_set_self (by simp [q5]; omega)] at a1
      exact (Option.some.inj a1).symm
     have hp : (⟨[], FA ++ H0 :: ((rs1 ++ rs2).flatten :: (FB ++ Fx))⟩ : Hp).all.Perm (⟨[], FA ++ (H0 ++ (rs1 ++ rs2).flatten) :: FB ++ Fx⟩ : Hp).all := by
      simp only [Hp.all, List.nil_append, List.flatten_append, List.flatten_cons, List.append_assoc, List.cons_append]; exact List.Perm.refl _
     refine TX.permL hp.symm (TX.storeS (N := D.E) (si := FA.length) (xs := (xs.zip sls).set i.toNat (x0, s)) (u := (x1, (lu1.sp, lu1.len, lu1.cap))) (E := []) (hB.t.siz.mem _ (lk_mem hs)) (ev_ext hLr x2) (ev_ext hLr y2) e6 hsz (oneI_ok b2 e5) getS_app q7 hkz ?_ (fun Hs' S' hS ho => ?_))
     ·rw [hz, pasteL_some (by omega), hsz]; exact p1.symm
     ·rw [setS_app] at hS; cases hS
      rw [List.set_set] at ho
      have hR := hrep ρ t (.ex (pH D A xs i x1) [.sl u1]) (Hs' ++ (rs1 ++ rs2).flatten) (Env.le_refl _) ⟨l, [.slice lu1.sp lu1.len lu1.cap], q1, denAll_dens (l := [.sl u1]) ⟨by rw [SV.den, hlu1]; rfl, trivial⟩, sls, Hs', rs1, rs2, (lu1.sp, lu1.len, lu1.cap), q3, q4, q5, rfl, ho, q8, rfl⟩
      have := hk ρ (FA ++ (Hs' ++ (rs1 ++ rs2).flatten) :: FB) undef o.grow0 (by rw [Option.getD_none, SV.den]) hR
      refine TO.perm ?_ (by simpa [putS] using this)
      simp only [Hp.all, List.nil_append, List.flatten_append, List.flatten_cons, List.append_assoc, List.cons_append]; exact List.Perm.refl _
   ·cases h
  ·cases h
 ·cases h
def Ev.sh {c : C4} (D : Od α) (A : TypeId) (xs : List α) (i0 : Int) (x0 x1 : α) (u1 : Nat) (r : List D.β) (m : Nat) (kk : NK) : Ev c := .ot (shOF D A xs i0 x0 x1 u1 r m kk) shOF_ok
end
end Go.HW
namespace Go.HW
open Go Go.RowKit
set_option linter.unusedVariables false
theorem Reps.out {c : Cx} {ρ : Env} {H : SH} {F : List Blocks} {t : Nat} {b : Blk} (h : Reps c ρ H F) (hl : lookH H t = some b) : ∃ f G, Rep c ρ t b f ∧ Reps c ρ (delH H t) G ∧ F.flatten.Perm (f ++ G.flatten) := by
 obtain ⟨FA, f, FB, rfl, h1, _, h2⟩ := h.look hl
 refine ⟨f, FA ++ FB, h1, h2, ?_⟩
 have := (List.perm_middle (l₁ := FA) (a := f) (l₂ := FB)).flatten
 simpa using this
section
variable {α : Type} [Inhabited α]
theorem zip_snoc {α β : Type} : ∀ {xs : List α} {ys : List β} (a : α) (b : β), ys.length = xs.length → (xs ++ [a]).zip (ys ++ [b]) = xs.zip ys ++ [(a, b)]
 | [], [], _, _, _ => rfl
 | [], _ :: _, _, _, h => by simp at h
 | _ :: _, [], _, _, h => by simp at h
 | x :: xs, y :: ys, a, b, h => by simp [zip_snoc (xs := xs) (ys := ys) a b (by simpa using h)]
def aOF (D : Od α) (A : TypeId) (xs : List α) (x1 : α) (r : List D.β) (m : Nat) (kk : NK) (w u : Nat) (T0 : TypeId) : EvF := fun b L H n op => match op with
 | .call ⟨.builtin .append, args, ts⟩ => match args.toList, ts.toList with
  | [x, y], [X, X'] => match evS L x, evS L y, lk b.t.und X with
   | some (.sl t), some (.sl v), some (.slice A') => match lk b.i.inf A' with
    | some (sz, by', _) => bif Nat.beq X X' && Nat.beq A A' && Nat.beq sz D.E.sz then
      some ([lookH H v = some (.ex pS1 [.p w 0]), lookH (delH H v) w = some (.cells T0 (D.its x1 (.sl u))), lookH (delH (delH H v) w) u = some (@Blk.row _ D.ib D.N D.e r m kk), lookH (delH (delH (delH H v) w) u) t = some (.ex (pO D A xs) []), appHyp by' xs.length 1 = true],
       some (.sl n), (n, .ex (pO D A (xs ++ [D.put x1 r])) []) :: delH (delH (delH (delH H v) w) u) t, n + 1) else none
    | _ => none
   | _, _, _ => none
  | _, _ => none
 | _ => none
theorem aOF_ok {c : C4} {D : Od α} {A : TypeId} {xs : List α} {x1 : α} {r : List D.β} {m : Nat} {kk : NK} {w u : Nat} {T0 : TypeId} : EvOk c (aOF D A xs x1 r m kk w u T0) := by
 intro b L H n op cs r0 H' n' hB h hc dst T pos af g hdr hd
 unfold aOF at h
 split at h
 ·rename_i args tys; split at h
  ·rename_i x y X X' hargs htys; split at h
   ·rename_i t v A' hx hy hX; split at h
    ·rename_i sz by' zi hinf
     cases hb : Nat.beq X X' && Nat.beq A A' && Nat.beq sz D.E.sz with
     | false => rw [hb] at h; cases h
     | true =>
      rw [hb, cond_true] at h; cases h
      simp only [Bool.and_eq_true] at hb
      obtain ⟨⟨b1, b2⟩, b3⟩ := hb
      have e1 := Nat.eq_of_beq_eq_true b1; subst e1
      have e2 := Nat.eq_of_beq_eq_true b2; subst e2
      have e3 := Nat.eq_of_beq_eq_true b3; subst e3
      obtain ⟨c1, c2⟩ := allP_cons hc
      obtain ⟨c2, c3⟩ := allP_cons c2
      obtain ⟨T', c2⟩ : ∃ T', lookH (delH H v) w = some (.cells T' (D.its x1 (.sl u))) := ⟨T0, c2⟩
      obtain ⟨c3, c4⟩ := allP_cons c3
      obtain ⟨c4, c5⟩ := allP_cons c4
      have c5 : appHyp by' xs.length 1 = true := c5
      cases dst with
      | none => simp at hdr
      | some d =>
       refine ⟨rfl, OT.ofTX hd fun ρ F Fx o Lr hLr Q hk => ?_⟩
       obtain ⟨info, zv, vs0, i1, i2, i3, i4, i5, i6, i7⟩ := hB.i.inf.mem _ (lk_mem hinf)
       obtain ⟨vx, x1', x2⟩ := evS_ok o.dens hx
       obtain ⟨vy, y1, y2⟩ := evS_ok o.dens hy
       obtain ⟨f1, G1, ⟨lv, vs1, p1, p2, gg, p3, p4, rfl⟩, d1, m1⟩ := o.reps.out c1
       obtain ⟨f2, G2, ⟨bw, vs2, w1, w2, rfl⟩, d2, m2⟩ := d1.out c2
       obtain ⟨f3, G3, ⟨sp1, cap1, u1, u2, u3, _⟩, d3, m3⟩ := d2.out c3
       obtain ⟨f4, G4, ⟨l, vs4, q1, q2, q3, sls, H0, rs, h1, h2, h3, rfl⟩, d4, m4⟩ := d3.out c4
       have hgw : bw = gg := by
        rw [p3] at p2
        rw [dens_cons_some] at p2
        obtain ⟨v1, r1, e1, e2, e3⟩ := p2
        rw [dens_nil] at e2; cases e2
        rw [deni_na rfl, SV.den, w1] at e1; cases e1
        simp at e3; exact e3.symm
       subst hgw
       rw [SV.den, q1] at x1'; cases x1'
       rw [SV.den, p1, p4] at y1; cases y1
       have hits := D.hits ρ x1 u (sp1, m, cap1) (by rw [u1])
       rw [hits] at w2; cases w2
       have ea : args = #[x, y] := by cases args; simpa using hargs
       have et : tys = #[X, X] := by cases tys; simpa using htys
       subst ea; subst et
       have hzl : (xs.zip sls).length = xs.length := by simp [h1]
       have hp : (⟨[], H0 :: (rs.flatten :: f3 :: [(bw, Obj.cells (D.E.enc (x1, (sp1, m, cap1))).toArray T' (0, 0))] :: (G4 ++ Fx))⟩ : Hp).all.Perm (⟨[], F ++ Fx⟩ : Hp).all := by
        simp only [Hp.all, List.nil_append, List.flatten_append, List.flatten_cons]
        rw [← List.append_assoc, ← List.append_assoc, ← List.append_assoc, ← List.append_assoc]
        refine List.Perm.append_right _ ?_
        refine List.Perm.trans ?_ m1.symm
        refine List.Perm.trans ?_ (List.Perm.append_left [] m2.symm)
        simp only [List.nil_append]
        refine List.Perm.trans ?_ (List.Perm.append_left _ m3.symm)
        refine List.Perm.trans ?_ (List.Perm.append_left _ (List.Perm.append_left _ m4.symm))
        simp only [List.append_assoc]
        have := perm_mid (H0 ++ rs.flatten) f3 [] G4.flatten [(bw, Obj.cells (D.E.enc (x1, (sp1, m, cap1))).toArray T' (0, 0))]
        refine List.Perm.trans ?_ (List.Perm.append_left _ (perm_mid H0 rs.flatten G4.flatten [] f3 |> fun h => by simpa [List.append_assoc] using h))
        simpa [List.append_assoc] using this
       refine TX.permL hp.symm (TX.appendS (N := D.E) (si := 0) (xs := xs.zip sls) (ys := [(x1, (sp1, m, cap1))]) (E := []) (S := H0 :: (rs.flatten :: f3 :: [(bw, Obj.cells (D.E.enc (x1, (sp1, m, cap1))).toArray T' (0, 0))] :: (G4 ++ Fx))) (hB.t.und.mem _ (lk_mem hX)) i1 i2 (by rw [i5, List.size_toArray]; exact i7) i3 i4 (ev_ext hLr x2) (by rw [hzl, q3]) (ev_ext hLr y2) rfl rfl h2 (fun a w sa => ?_) (by rw [hzl]; exact c5) hd (fun sp' cap' Hs' S' hS ho => ?_))
       ·have hb : w.heap[bw]? = some (.cells (D.E.enc (x1, (sp1, m, cap1))).toArray T' (0, 0)) := sa.heap (bw, _) (by simp [Hp.all])
        refine ⟨(by decide : 1 ≤ maxLen), .inr ⟨⟨bw, 0, none⟩, rfl, rfl, fun k x hk j v hj => ?_⟩⟩
        cases k with
        | zero =>
         simp at hk; subst hk
         simp only [World.cell?, hb]
         simpa using hj
        | succ k => simp at hk
       ·cases hS
        have e1 : (xs.zip sls ++ [(x1, (sp1, m, cap1))]).length = (xs ++ [D.put x1 r]).length := by simp [h1]
        rw [e1]
        have hg := Env.set_grow (ρ := ρ) (n := n) (l := ⟨sp', cap', (xs ++ [D.put x1 r]).length⟩) o.fr
        have hle := hg.toLe o.fr
        have hown : OwnL D.E A sp' cap' ((xs ++ [D.put x1 r]).zip (sls ++ [(sp1, m, cap1)])) Hs' := by
         rw [zip_snoc _ _ h1]
         exact ho.cells (by simp) (by simp [D.eput])
        have hall : InAll D.N.toEn D.e (sls ++ [(sp1, m, cap1)]) ((xs ++ [D.put x1 r]).map D.g) (rs ++ [f3]) := by
         rw [List.map_append, List.map_singleton, D.gput]; exact h3.snoc u3 u2
        have := hk (ρ.set n ⟨sp', cap', (xs ++ [D.put x1 r]).length⟩) ((Hs' ++ (rs ++ [f3]).flatten) :: G4) (.slice sp' (xs ++ [D.put x1 r]).length cap') hg (by rw [Option.getD_some, SV.den, Env.set_self]; rfl)
         ⟨_, _, rfl, ⟨⟨sp', cap', (xs ++ [D.put x1 r]).length⟩, [], Env.set_self, dens_nil, rfl, sls ++ [(sp1, m, cap1)], Hs', rs ++ [f3], by simp [h1], hown, hall, rfl⟩, d4.mono hle⟩
        refine fun a w sa => this a w (sa.weak (fun _ _ h => by simpa [putS] using h) ?_)
        simp only [Hp.all, List.nil_append, List.flatten_append, List.flatten_cons, List.cons_append, List.flatten_nil, List.append_nil, List.append_assoc]
        refine List.Sublist.append_left (l := Hs') (List.Sublist.append_left (l := rs.flatten) (List.Sublist.append_left (l := f3) ?_))
        exact List.Sublist.cons _ (List.Sublist.refl _)
    ·cases h
   ·cases h
  ·cases h
 ·cases h
def Ev.ao {c : C4} (D : Od α) (A : TypeId) (xs : List α) (x1 : α) (r : List D.β) (m : Nat) (kk : NK) (w u : Nat) (T0 : TypeId) : Ev c := .ot (aOF D A xs x1 r m kk w u T0) aOF_ok
end
end Go.HW
namespace Go.HW
open Go Go.RowKit
set_option linter.unusedVariables false
def upB (l : List Oper) : Nat → (Nat → Bool) → Bool
 | 0, _ => true
 | i + 1, A => A i && (match l[i]? with | some o => upB l i (fun t => A t || bindsOn o t) | none => false)
theorem upB_ok {l : List Oper} {S : Nat → Bool} (hS : ∀ (j : Nat) (o : Oper) (i : Nat), S j = true → l[j]? = some o → bindsOn o i = true → S i = true) : ∀ {i : Nat} {A : Nat → Bool}, upB l i A = true → (∀ t, A t = true → S t = true) → ∀ t, t < i → S t = true
 | 0, A, _, _, t, ht => by omega
 | i + 1, A, h, hA, t, ht => by
  simp only [upB, Bool.and_eq_true] at h
  obtain ⟨h1, h2⟩ := h
  have hi := hA i h1
  split at h2
  ·rename_i o ho
   rcases Nat.lt_or_ge t i with h3 | h3
   ·refine upB_ok hS h2 (fun u hu => ?_) t h3
    simp only [Bool.or_eq_true] at hu
    rcases hu with hu | hu
    ·exact hA u hu
    ·exact hS i o u hi ho hu
   ·have : t = i := by omega
    rw [this]; exact hi
  ·cases h2
def dnB (j : Nat) (o : Oper) : Bool := o.after.toList.any fun e => Region.binds .any e && Nat.ble j e.on
def gdB (o : Oper) (j : Nat) : Bool := match o.guard with | some (i, _) => Nat.blt i j | none => true
section
variable {c : C4} {Q : Exit → Act → World → Prop}
theorem DRX {b : TB} (hB : TBOk c.P b) (hmx : c.P.follows .mixedOrders = true) {id : Nat} {ops : Array Oper} {K : List Fr} {L : SL} {H : SH} {n : Nat} {s' : St} (kp : List Nat) (ts : List (List Nat × List Nat)) (es : List (Ev c)) {cs : List Prop} (hc : allP cs)
  {l1 l2 : List Oper} {o : Oper} (hl : ops.toList = l1 ++ o :: l2) (hup : upB l1 l1.length (fun t => bindsOn o t) = true) (hdn : l2.all (dnB l1.length) = true) (hgd : l1.all (fun x => gdB x l1.length) = true) (hback : backB (l1 ++ o :: l2) 0 = true)
  (h : drawR b kp c.n l1 L H n ts es = some (cs, s')) (hog : o.guard = none) (hon : notDefer o.op = true) {ch : List PanicEntry} {H2 : SH} {n2 : Nat} (hox : OX c o s' (.panic ch) H2 n2)
  (g : G4 c Q (.exit (.panic ch) []) ⟨s'.L, H2, n2⟩) : G4 c Q (.code (.region id ops true) K) ⟨L, H, n⟩ := by
 intro ρ F a w hs
 obtain ⟨l0⟩ := ops
 simp only at hl
 subst hl
 unfold drawR at h
 obtain ⟨Ld, Lc, hk, hmem0⟩ := partL_ok h
 have hmem : ∀ p, p ∈ Ld ∨ p ∈ Lc → lookV L p.1 = some p.2 := fun p hp => (hmem0 p hp).2
 cases hb1 : backB l1 0 && ltL n L && ltH n H && ndK (tagsH H) with
 | false => rw [hb1] at hk; cases hk
 | true =>
  rw [hb1, cond_true] at hk
  simp only [Bool.and_eq_true] at hb1
  obtain ⟨⟨⟨h1, h2⟩, h3⟩, h4⟩ := hb1
  split at hk
  ·rename_i cs1 X H' n' hpl
   cases hb2 : chainN X n n' && entsOk c.n Lc X (clsX X) l1 X 0 && ltH n' H' && ndK (tagsH H') with
   | false => rw [hb2] at hk; cases hk
   | true =>
    rw [hb2, cond_true, fLs_eq] at hk; cases hk
    simp only [Bool.and_eq_true] at hb2
    obtain ⟨⟨⟨h5, h6⟩, h7⟩, h8⟩ := hb2
    rw [tagsH_eq] at h4 h8
    have hnd := ndK_ok h4
    have hnd' := ndK_ok h8
    obtain ⟨A, hver⟩ := DAll.of hB hmem h1 h2 h3 hs.ok.mle hpl hc h5 h6
    obtain ⟨c1, c2, c3⟩ := chainN_ok h5
    have hlen : X.length = l1.length := by simpa using A.len
    -- at the start
    obtain ⟨φ, f1, f2⟩ := Reps.foot hs.ok.reps hnd
    have hk0 : ∀ t ∈ H.map (·.1), t < n' := fun t ht => by
     obtain ⟨p, hp, rfl⟩ := List.mem_map.1 ht
     have := (ltH_mem h3 p hp).1; omega
    have I0 : DInv c ⟨l1, X.map (·.e), H, Lc, Ld, n, n'⟩ (fun _ => false) a { w with drawn := w.drawn + 1 } ρ (fun t => if memN (H.map (·.1)) t then φ t else []) := by
     have hslot : ∀ p, p ∈ Ld ∨ p ∈ Lc → p.2.den ρ = some (a.tmps.getD p.1 undef) := fun p hp => by
      obtain ⟨v, e1, e2⟩ := hs.ok.dens.look (hmem p hp)
      rw [e1, hs.sat.slots p.1 v e2]
     refine ⟨fun p hp => hslot p (.inr hp), fun p hp => ⟨⟨_, hslot p (.inl hp)⟩, fun _ => hslot p (.inl hp)⟩, fun j e d _ hj => (by cases hj), fun t ht => hs.ok.fr t (by simp only at ht ⊢; omega), fun j e he _ t ht1 ht2 => ?_, hs.ok.pin, fun t => ?_, ?_⟩
     ·obtain ⟨x, hx, rfl⟩ := getE' he
      have := (c1 j x hx).1
      exact hs.ok.fr t (by simp only at ht1 ⊢; omega)
     ·rw [verL_none]
      show HB c ρ t _ (lookH H t)
      cases hm : memN (H.map (·.1)) t with
      | true =>
       obtain ⟨b', hb'⟩ := lookH_some (memN_iff.1 hm)
       rw [hb']; exact f2 t b' hb'
      | false =>
       rw [lookH_none (fun h => by rw [memN_iff.2 h] at hm; cases hm)]
       rfl
     ·have s1 : Sat c [] ⟨[], F⟩ a { w with drawn := w.drawn + 1 } := ⟨hs.sat.size, hs.sat.defers, fun t v h => by simp [look] at h, ⟨hs.sat.ext.os, hs.sat.ext.tape, hs.sat.ext.output, hs.sat.ext.size, hs.sat.ext.same⟩, hs.sat.nodup, hs.sat.heap, hs.sat.own⟩
      refine s1.perm ?_
      simp only [Hp.all, List.nil_append]
      refine (foot_split hnd hk0).trans ?_
      have e1 : ((H.map (·.1)).map fun t => if memN (H.map (·.1)) t = true then φ t else []) = F := by
       rw [f1]; apply List.map_congr_left; intro t ht; rw [memN_iff.2 ht]; rfl
      have e2 : (fun t => if memN (H.map (·.1)) t = true then [] else (if memN (H.map (·.1)) t = true then φ t else [])) = fun _ : Nat => ([] : Blocks) := by
       funext t; cases memN (H.map (·.1)) t <;> rfl
      rw [e1, e2]
      have e3 : ∀ l : List Nat, (l.map fun _ : Nat => ([] : Blocks)).flatten = [] := fun l => by induction l with
       | nil => rfl
       | cons x l ih => simp [ih]
      rw [e3]; simp
    refine wpIn_region_any hmx ?_
    have hb0 : backB (l1 ++ o :: l2) 0 = true := hback
    refine draw_gen (c := c.toCx) (fun S a w => (∃ ρ Φ, DInv c ⟨l1, X.map (·.e), H, Lc, Ld, n, n'⟩ S a w ρ Φ) ∧ ∀ k, l1.length ≤ k → S k = false) hb0 ?_ ?_ ?_ _ _ a { w with drawn := w.drawn + 1 } (by simp) ⟨⟨ρ, (fun t => if memN (H.map (·.1)) t then φ t else []), ?_⟩, ?_⟩ ?_ ?_
    ·rintro S k o' a w ho hk hcl hp ⟨hI, hJ⟩ K' hK'
     rcases Nat.lt_trichotomy k l1.length with hlt | heq | hgt
     ·have ho1 : l1[k]? = some o' := by rw [List.getElem?_append_left hlt] at ho; exact ho
      have hkl : k < X.length := by rw [hlen]; exact hlt
      have hcl1 : Closed (c := c) ⟨l1, X.map (·.e), H, Lc, Ld, n, n'⟩ S := fun j o2 i hj ho2 hbd => hcl j o2 i hj (by rw [List.getElem?_append_left (List.getElem?_eq_some_iff.1 ho2).1]; exact ho2) hbd
      have st := DInv.step (D := ⟨l1, X.map (·.e), H, Lc, Ld, n, n'⟩) A hcl1 ho1 (getE (List.getElem?_eq_getElem hkl)) hk hp hI (Q := QK c.ro c.P Q K) (K := K') (fun a' w' h' => hK' a' w' ⟨h', fun k' hk' => by
       unfold addB
       rw [if_neg (by omega)]; exact hJ k' hk'⟩)
      have hw : Region.wanted o' (yielded (l1 ++ o :: l2).toArray a.tmps) = Region.wanted o' (yielded l1.toArray a.tmps) := by
       have hg1 := List.all_eq_true.1 hgd o' (List.mem_of_getElem? ho1)
       unfold gdB at hg1
       unfold Region.wanted
       split
       ·rfl
       ·rename_i j want hgu
        rw [hgu] at hg1
        have hj : j < l1.length := by simpa [Nat.blt_eq] using hg1
        unfold yielded
        simp [List.getElem?_append_left hj]
      rw [hw]; exact st
     ·subst heq
      have hoo : o' = o := by simpa using ho.symm
      subst hoo
      have hwt : Region.wanted o' (yielded (l1 ++ o' :: l2).toArray a.tmps) = true := by simp [Region.wanted, hog]
      refine ⟨fun _ => ?_, fun h0 => by rw [hwt] at h0; cases h0⟩
      have hS : ∀ k, k < l1.length → S k = true := upB_ok (l := l1) (S := S) (fun j o2 i hj ho2 hbd => hcl j o2 i hj (by rw [List.getElem?_append_left (List.getElem?_eq_some_iff.1 ho2).1]; exact ho2) hbd) hup hp
      obtain ⟨ρ', Φ, I⟩ := hI
      have hvr : ∀ t, verL S t (X.map (·.e)) 0 (lookH H t) = lookH H' t := fun t => by
       rw [← hver t]
       refine verL_congr fun j e' he' _ => ?_
       obtain ⟨x, hx, rfl⟩ := getE' he'
       have hj : j < l1.length := by rw [← hlen]; exact (List.getElem?_eq_some_iff.1 hx).1
       rw [Nat.zero_add, hS j hj]; simp [hj]
      have hfs : ∀ p ∈ finL kp X Lc, p.2.den ρ' = some (a.tmps.getD p.1 undef) := by
       intro p hp
       rcases finL_mem hp with h | ⟨j, x, q1, q2, q3, q4⟩
       ·exact I.sc p h
       ·have hj : j < l1.length := by rw [← hlen]; exact (List.getElem?_eq_some_iff.1 q1).1
        have := (I.se j x.e p.1 (getE q1) (hS j hj) q2).1 (by rw [q3]; exact fun y hy => by cases hy)
        rw [q4] at this; exact this
      have hk1 : ∀ t ∈ H'.map (·.1), t < n' := fun t ht => by
       obtain ⟨p, hp, rfl⟩ := List.mem_map.1 ht
       exact (ltH_mem h7 p hp).1
      have hs4 : Sat4 c ρ' ((H'.map (·.1)).map Φ) ⟨finL kp X Lc, H', n'⟩ a w := by
       refine ⟨⟨DensL.ofAll fun p hp => ⟨_, hfs p hp⟩, Reps.ofFoot hnd' fun t b' hb' => ?_, I.efr, I.epin, Nat.le_trans hs.ok.mle c3⟩, ?_⟩
       ·have := I.hb t
        rw [hvr t, hb'] at this; exact this
       ·have s1 : Sat c [] ⟨[], (H'.map (·.1)).map Φ⟩ a w := by
         refine I.sat.perm ?_
         simp only [Hp.all, List.nil_append]
         refine List.Perm.trans ?_ (foot_split (Φ := Φ) hnd' hk1).symm
         have e2 : (fun t => if memN (H'.map (·.1)) t = true then [] else Φ t) = fun _ : Nat => ([] : Blocks) := by
          funext t
          cases hm : memN (H'.map (·.1)) t with
          | true => rfl
          | false =>
           have h1 := I.hb t
           rw [hvr t, lookH_none (fun h => by rw [memN_iff.2 h] at hm; cases hm)] at h1
           exact h1
         rw [e2]
         have e3 : ∀ l : List Nat, (l.map fun _ : Nat => ([] : Blocks)).flatten = [] := fun l => by induction l with
          | nil => rfl
          | cons x l ih => simp [ih]
         rw [e3]; simp
        exact ⟨s1.size, s1.defers, realL_all hfs, s1.ext, s1.nodup, s1.heap, s1.own⟩
      refine wpIn_of hon (hox ρ' _ [] a w hs4.ok (by simpa using hs4.sat) _ _ ?_)
      intro ρ2 F2 w2 hg hR hSat
      refine QK_panic K a w2 (g ρ2 F2 a w2 ⟨⟨hs4.ok.dens.mono (hg.toLe hs4.ok.fr), hR, hg.fr, fun t ht => ?_, Nat.le_trans hs4.ok.mle hg.le⟩, ?_⟩)
      ·rw [hg.old t (Nat.lt_of_lt_of_le ht hs4.ok.mle)]; exact hs4.ok.pin t ht
      ·have hS' : Sat c.toCx (realL ρ' (finL kp X Lc)) ⟨[], F2⟩ a w2 := by simpa using hSat
       show Sat c.toCx (realL ρ2 (finL kp X Lc)) ⟨[], F2⟩ a w2
       rw [realL_mono (hg.toLe hs4.ok.fr) hs4.ok.dens]; exact hS'
     ·exfalso
      have ho2 : l2[k - (l1.length + 1)]? = some o' := by
       rw [List.getElem?_append_right (by omega)] at ho
       rw [show k - l1.length = (k - (l1.length + 1)) + 1 from by omega] at ho
       simpa using ho
      have := List.all_eq_true.1 hdn o' (List.mem_of_getElem? ho2)
      unfold dnB at this
      obtain ⟨e, he, hb⟩ := List.any_eq_true.1 this
      simp only [Bool.and_eq_true] at hb
      have hSe := hp e.on (bindsOn_iff.2 ⟨e, by simpa using he, hb.1, rfl⟩)
      rw [hJ e.on (Nat.le_of_ble_eq_true hb.2)] at hSe; cases hSe
    ·intro S S' a w hSS hI
     rw [show S' = S from (funext hSS).symm]; exact hI
    ·rintro S a w hS ⟨_, hJ⟩
     have := hS l1.length (by simp)
     rw [hJ _ (Nat.le_refl _)] at this; cases this
    ·rw [show (fun k => (Array.replicate (l1 ++ o :: l2).toArray.size false).getD k false) = fun _ => false from by funext k; simp [Array.getD]]
     exact I0
    ·intro k hk; simp [Array.getD]
    ·intro k o i hl; simp [Array.getD] at hl
    ·exact Nat.le_trans (List.length_filter_le _ _) (by simp)
  ·cases hk
end
end Go.HW
namespace Go.HW
open Go Go.RowKit
set_option linter.unusedVariables false
inductive Um where
 | ret
 | pan (v : Value)
def Um.mode : Um → FrameMode
 | .ret => .returning
 | .pan v => .panicking [{ v := v, recovered := false }]
def Um.mode' : Um → FrameMode
 | .ret => .returning
 | .pan v => .panicking [{ v := v, recovered := true }]
def Um.val : Um → Value
 | .ret => .nilIface
 | .pan v => v
theorem Um.settled (u : Um) : settle u.mode' = .returning := by cases u <;> rfl
theorem Um.notRun (u : Um) : u.mode ≠ .run := by cases u <;> simp [Um.mode]
def EndD (w : World) (F : List Blocks) (ρ : Env) (m : Nat) (um : Um) (H' : SH) (n' : Nat) : Ending → FrameMode → World → Prop := fun e u w' =>
 ∃ R', (∃ v, e = .returned v) ∧ u = um.mode' ∧ Eff w ⟨[], F⟩ w' R' ∧ postP ρ m H' n' R'
def ConD (P : Program) (k : FuncId) (args : List SV) (H : SH) (n : Nat) (um : Um) (H' : SH) (n' : Nat) : Prop :=
 ∀ (w : World) (ρ : Env) (F : List Blocks) (vs : List Value), SV.dens ρ args = some vs → Reps (cB P w F) ρ H F → (∀ t, n ≤ t → ρ t = none) → (∀ p ∈ F.flatten, w.heap[p.1]? = some p.2) → (F.flatten.map (·.1)).Nodup →
  CallsDIn (FW none) 0 P k vs.toArray um.mode w (EndD w F ρ n um H' n')
def FinD (P : Program) (fn : Func) (w : World) (F : List Blocks) (ρ : Env) (m : Nat) (H' : SH) (n' : Nat) : Exit → Act → World → Prop
 | .normal, a, w' | .ret, a, w' => a.defers = [] ∧ ∃ v, (results fn a.tmps).run P w' = .ok v w' ∧ ∃ R', Eff w ⟨[], F⟩ w' R' ∧ postP ρ m H' n' R'
 | _, _, _ => False
theorem ConD.of_body {P : Program} {k : FuncId} {fn : Func} {rest : Code} {N : Nat} {args : List SV} {H H' : SH} {n n' : Nat} {um : Um} {id : Nat} {d1 d2 : Nat} {T1 T2 : TypeId} {p1 p2 : String} {a1 a2 : Array Edge}
  (hf : P.funcs[k]? = some fn) (hN : fn.ntmps = N)
  (h : ∀ w F ρ, G4 (c0 P w F N ρ n) (FinD P fn w F ρ n H' n') (.code rest []) ⟨(d2, .v um.val) :: (d1, .v um.val) :: argL 0 args, H, n⟩)
  (hb : fn.body = some (.seq (.region id #[⟨some d1, .call ⟨.builtin .recover, #[], #[]⟩, T1, p1, a1, none⟩, ⟨some d2, .assign (.tmp d1), T2, p2, a2, none⟩] false) rest) := by rfl)
  (ha : (Nat.ble args.length N && noAr args) = true := by rfl) (hd1 : Nat.blt d1 N = true := by rfl) (hd2 : Nat.blt d2 N = true := by rfl) : ConD P k args H n um H' n' := by
 intro w ρ F vs hd hR hl hh hn
 simp only [Bool.and_eq_true] at ha
 obtain ⟨e1, e2, e3⟩ := argL_dens (k := 0) (noAr_spec ha.2) hd
 have ha' : vs.length ≤ N := by rw [e3]; exact Nat.le_of_ble_eq_true ha.1
 refine callsDIn_of_wpSIn (F := FW none) hf hb trivial fun c₀ cs hu => ?_
 rw [hN]
 have s : Sat ⟨P, none, w, F.flatten.map (·.1), N, []⟩ (argS 0 vs) ⟨[], F⟩ { tmps := vs.toArray ++ Array.replicate (N - vs.toArray.size) undef, defers := [] } w := by
  refine ⟨by simp; omega, rfl, ?_, Ext.refl _ _, by simpa [Hp.all] using hn, by simpa [Hp.all] using hh, fun p hp => .inl (List.mem_map.2 ⟨p, by simpa [Hp.all] using hp, rfl⟩)⟩
  intro t v hl
  obtain ⟨_, h2⟩ := look_argS vs 0 t v hl
  simp only [Nat.sub_zero] at h2
  have ht : t < vs.length := (List.getElem?_eq_some_iff.1 h2).1
  have hv : vs[t] = v := (List.getElem?_eq_some_iff.1 h2).2
  simp [Array.getD, show t < vs.length + (N - vs.length) from by omega, ht, hv]
 refine wpSIn_seq (wpSIn_region ?_)
 have key : ∀ (cs' : List Frame), cs' = { c₀ with mode := um.mode' } :: cs → ∀ a, a = ((({ tmps := vs.toArray ++ Array.replicate (N - vs.toArray.size) undef, defers := [] } : Act).put (some d1) um.val).put (some d2) um.val) →
   rest.wpSIn (FW none) 0 P (bodyPostS P fn c₀ cs (EndD w F ρ n um H' n')) a cs' w := by
  rintro cs' rfl a rfl
  refine wpSIn_of_wpIn rfl ?_
  have s2 := (s.put (dst := some d1) hd1 um.val).put (dst := some d2) hd2 um.val
  have g := h w F ρ ρ F _ w ⟨⟨⟨⟨um.val, by rw [SV.den]⟩, ⟨⟨um.val, by rw [SV.den]⟩, e1⟩⟩, Reps.cx (c := cB P w F) (c' := (c0 P w F N ρ n).toCx) rfl rfl hR, hl, fun _ _ => rfl, Nat.le_refl _⟩, by
   show Sat _ (realL ρ ((d2, .v um.val) :: (d1, .v um.val) :: argL 0 args)) ⟨[], F⟩ _ w
   simp only [realL, SV.den, Option.getD_some, e2]
   exact s2⟩
  refine fun b k cs0 q1 q2 q3 => wpIn_mono g ?_ b k cs0 q1 q2 (room_wide _)
  intro e a' w' hq
  cases e with
  | normal =>
   obtain ⟨q1, v, q2, R', q3, q4⟩ := hq
   exact ⟨q1, _, rfl, v, q2, R', ⟨v, rfl⟩, rfl, q3, q4⟩
  | ret =>
   obtain ⟨q1, v, q2, R', q3, q4⟩ := hq
   exact ⟨q1, _, rfl, v, q2, R', ⟨v, rfl⟩, rfl, q3, q4⟩
  | exit i => exact hq.elim
  | goto l => exact hq.elim
  | panic ch => exact hq.elim
  | outgrown => exact hq.elim
 have hrec : ∀ (a : Act), (execOp a.eval ⟨some d1, .call ⟨.builtin .recover, #[], #[]⟩, T1, p1, a1, none⟩).run P w = .ok .recover w := fun a => by
  simp [execOp, resolve, invoke, builtin]
 have hasg : ∀ (a : Act) (v : Value), a.tmps.getD d1 undef = v → (execOp a.eval ⟨some d2, .assign (.tmp d1), T2, p2, a2, none⟩).run P w = .ok (.value v) w := fun a v hv => by
  simp [execOp, Act.eval, hv]
 have hget : ∀ v, ((({ tmps := vs.toArray ++ Array.replicate (N - vs.toArray.size) undef, defers := [] } : Act).put (some d1) v)).tmps.getD d1 undef = v := fun v =>
  (s.put (dst := some d1) hd1 v).slots d1 v (by simp [putS, look])
 have step2 : ∀ (cs' : List Frame) (v : Value), v = um.val → cs' = { c₀ with mode := um.mode' } :: cs → wpOpsSIn (FW none) 0 P #[⟨some d1, .call ⟨.builtin .recover, #[], #[]⟩, T1, p1, a1, none⟩, ⟨some d2, .assign (.tmp d1), T2, p2, a2, none⟩]
   (Exit.thenS (rest.wpSIn (FW none) 0 P (bodyPostS P fn c₀ cs (EndD w F ρ n um H' n'))) (bodyPostS P fn c₀ cs (EndD w F ρ n um H' n'))) [1] ((({ tmps := vs.toArray ++ Array.replicate (N - vs.toArray.size) undef, defers := [] } : Act).put (some d1) v)) cs' w := by
  rintro cs' v rfl hcs
  unfold wpOpsSIn
  refine ⟨fun _ _ => trivial, ?_⟩
  simp only [List.getElem_toArray, List.getElem_cons_succ, List.getElem_cons_zero]
  rw [if_pos (by simp [Region.wanted]), hasg _ _ (hget _)]
  exact key cs' hcs _ rfl
 show wpOpsSIn (FW none) 0 P _ _ [0, 1] _ _ w
 unfold wpOpsSIn
 refine ⟨fun _ _ => trivial, ?_⟩
 simp only [List.getElem_toArray, List.getElem_cons_succ, List.getElem_cons_zero]
 rw [if_pos (by simp [Region.wanted]), hrec]
 cases um with
 | ret =>
  have : recoverD (c₀ :: cs) = none := by simp [recoverD, hu, Um.mode]
  simp only [this]
  exact step2 _ _ rfl (by simp only [Um.mode']; rw [← show c₀.mode = FrameMode.returning from hu])
 | pan v =>
  have : recoverD (c₀ :: cs) = some (v, { c₀ with mode := .panicking [{ v := v, recovered := true }] } :: cs) := by simp [recoverD, hu, Um.mode]
  simp only [this]
  exact step2 _ _ rfl rfl
section
variable {P : Program} {w0 : World} {F0 : List Blocks} {ρ0 : Env} {N m n' : Nat} {fn : Func} {r : SV} {H' : SH} {L : SL} {H : SH} {n : Nat} {rs : List ResultVar} {ys : List SV} {o : Out}
theorem TQ0 {ρ : Env} {F : List Blocks} {a : Act} {w : World} (hrs : fn.results = #[]) (σ : List Nat) (h2 : takesH σ H H' = some (renBs σ H')) (h3 : idB 0 m σ = true) (h4 : σ.length = n') (s : Sat4 (c0 P w0 F0 N ρ0 m) ρ F ⟨L, H, n⟩ a w) :
  a.defers = [] ∧ ∃ v, (results fn a.tmps).run P w = .ok v w ∧ ∃ R', Eff w0 ⟨[], F0⟩ w R' ∧ postP ρ0 m H' n' R' := by
 obtain ⟨F', G, j1, j2⟩ := takesH_ren s.ok.reps h2
 have hp : (⟨[], F' ++ G⟩ : Hp).all.Perm (⟨[], F⟩ : Hp).all := by simp only [Hp.all, List.nil_append]; exact j2.flatten
 have hg : Env.grow m n' ρ0 (ρ.sel σ) := ⟨fun t ht => by simp only [Env.sel, idB_spec h3 t ht, Nat.zero_add]; exact s.ok.pin t ht, fun t ht => by simp [Env.sel, tgO_none (σ := σ) (t := t) (by rw [h4]; exact ht)], by rw [← h4]; exact idB_len h3⟩
 have s2 := s.sat.perm hp
 have hsub : (⟨[], F'⟩ : Hp).all.Sublist (⟨[], F' ++ G⟩ : Hp).all := by simp only [Hp.all, List.nil_append]; rw [List.flatten_append]; exact List.sublist_append_left _ _
 refine ⟨s.sat.defers, .tuple #[], by simp [results, hrs], ⟨[], F'⟩, ⟨s2.ext, (hsub.map _).nodup s2.nodup, fun p hp => s2.heap p (hsub.subset hp), fun p hp => s2.own p (hsub.subset hp)⟩, _, ρ.sel σ, F', rfl, hg, j1⟩
theorem TQN_ (hrs : fn.results = #[]) (σ : List Nat) (h2 : takesH σ H H' = some (renBs σ H') := by rfl) (h3 : idB 0 m σ = true := by rfl) (h4 : σ.length = n' := by rfl) :
  G4 (c0 P w0 F0 N ρ0 m) (FinD P fn w0 F0 ρ0 m H' n') (.exit .normal []) ⟨L, H, n⟩ := fun ρ F a w s => TQ0 hrs σ h2 h3 h4 s
end
def pD (vs : List Value) : Loc → List Value → Blocks → Prop := fun l us f => us = vs ∧ f = []
def C4.df (c : C4) (k : FuncId) (vs : List Value) : C4 := ⟨⟨c.P, c.ro, c.w0, c.R0, c.n, ⟨.fn (.func k) vs.toArray, #[]⟩ :: c.ds⟩, c.π, c.m⟩
section
variable {c : C4} {Q : Exit → Act → World → Prop}
theorem DF_ {f : Operand} {k : FuncId} {ca : List SV} {ats : Array TypeId} {d : Option Nat} {T : TypeId} {pos : String} {af : Array Edge} {ops : Array Oper} {l : List Oper} {K : List Fr} {L : SL} {H : SH} {n : Nat}
  (h : ∀ vs, G4 (c.df k vs) Q (.ops ops l K []) ⟨L, (n, .ex (pD vs) ca) :: H, n + 1⟩) (hf : evS L f = some (.fn (.func k) [] ca) := by rfl) (hd : d = none := by rfl) (hro : c.ro = none := by rfl) :
  G4 c Q (.ops ops (⟨d, .defer ⟨.value f, #[], ats⟩, T, pos, af, none⟩ :: l) K []) ⟨L, H, n⟩ := by
 subst hd
 intro ρ F a w hs _
 obtain ⟨vf, e1, e2⟩ := evS_ok hs.ok.dens hf
 rw [SV.den] at e1
 obtain ⟨xf, e5, e6⟩ := Option.bind_eq_some_iff.1 e1
 obtain ⟨vs, e7, rfl⟩ := Option.map_eq_some_iff.1 e6
 rw [dens_nil] at e5; cases e5
 have hg := Env.set_grow (ρ := ρ) (n := n) (l := ⟨none, 0, 0⟩) hs.ok.fr
 have hle := hg.toLe hs.ok.fr
 have hself : ρ.set n ⟨none, 0, 0⟩ n = some ⟨none, 0, 0⟩ := Env.set_self
 unfold wpListIn
 rw [if_pos (by simp [Region.wanted])]
 refine ⟨fun _ _ => trivial, ?_⟩
 have hsem : (⟨none, .defer ⟨.value f, #[], ats⟩, T, pos, af, none⟩ : Oper).semAt (FW c.ro).round a.eval = execOp a.eval ⟨none, .defer ⟨.value f, #[], ats⟩, T, pos, af, none⟩ := by
  simp [Oper.semAt, FW, hro]
 rw [hsem]
 have hrun : (execOp a.eval ⟨none, .defer ⟨.value f, #[], ats⟩, T, pos, af, none⟩).run c.P w = .ok (.defer ⟨.fn (.func k) vs.toArray, #[]⟩) w := by
  simp [execOp, resolve, Deferred.ofValue, hs.sat.eval e2]
 rw [hrun]
 have hs1 := hs.sat
 refine h vs (ρ.set n ⟨none, 0, 0⟩) ([] :: F) _ w ⟨⟨hs.ok.dens.mono hle, ⟨[], F, rfl, ⟨_, vs, hself, dens_mono hle e7, rfl, rfl⟩, Reps.cx (c := c.toCx) (c' := (c.df k vs).toCx) rfl rfl (hs.ok.reps.mono hle)⟩, hg.fr, fun t ht => ?_, Nat.le_succ_of_le hs.ok.mle⟩, ?_⟩ trivial
 ·have := hs.ok.mle
  rw [hg.old t (by simp only [C4.df] at ht this ⊢; omega)]; exact hs.ok.pin t ht
 ·have e : realL (ρ.set n ⟨none, 0, 0⟩) L = realL ρ L := realL_mono hle hs.ok.dens
  show Sat (c.df k vs).toCx (realL (ρ.set n ⟨none, 0, 0⟩) L) ⟨[], [] :: F⟩ ({ a with defers := ⟨.fn (.func k) vs.toArray, #[]⟩ :: a.defers }) w
  rw [e]
  exact ⟨hs1.size, by show _ :: a.defers = _ :: c.ds; rw [hs1.defers], hs1.slots, hs1.ext, by simpa [Hp.all] using hs1.nodup, by simpa [Hp.all] using hs1.heap, by simpa [Hp.all, C4.df] using hs1.own⟩
end
section
variable {P : Program} {w0 : World} {F0 : List Blocks} {ρ0 : Env} {N m n' : Nat} {fn : Func} {r : SV} {H' : SH} {L : SL} {H : SH} {n : Nat} {rs : List ResultVar} {ys : List SV} {o : Out}
theorem CallsDIn.mono {Fc : Fence} {n : Nat} {f : FuncId} {args : Array Value} {u : FrameMode} {w : World} {R R' : Ending → FrameMode → World → Prop} (h : CallsDIn Fc n P f args u w R) (hi : ∀ e u w, R e u w → R' e u w) : CallsDIn Fc n P f args u w R' :=
 ⟨h.1, fun c cs hu hr => let ⟨e, u', w', fr, q, x⟩ := h.2 c cs hu hr; ⟨e, u', w', fr, hi _ _ _ q, x⟩⟩
theorem TD0 {b : TB} (hB : TBOk P b) (hrs : fn.results = rs.toArray) {k : FuncId} {vs : List Value} {ca : List SV} (td : Nat) (hpd : lookH H td = some (.ex (pD vs) ca)) {um : Um} (σc : List Nat) {cargs : List SV} {cH cH' : SH} {mc mc' : Nat} {H1 : SH}
  (con : ConD P k cargs cH mc um cH' mc') (hk : hasN b.e.cal k = true) (hargs : ca = SV.rens σc cargs) (hO : takeW σc H cH = some (ownBs σc cH, H1)) (hR : rdsOf σc H1 cH = some (rdsW cH)) (hb : (ltAll n σc && Nat.beq σc.length mc && Nat.ble mc mc' && allOwn cH') = true)
  (σ : List Nat) (hy : resS b.t L (nH (appN σc (seqN n (mc' - mc))) H1 cH') rs = some ys) (hr : retS ys = r.ren σ) (h2 : takesH σ (nH (appN σc (seqN n (mc' - mc))) H1 cH') H' = some (renBs σ H')) (h3 : idB 0 m σ = true) (h4 : σ.length = n')
  {ρ : Env} {F : List Blocks} {a : Act} {w : World} (s : Sat4 ((c0 P w0 F0 N ρ0 m).df k vs) ρ F ⟨L, H, n⟩ a w) : LeavesInM (FW none) 1 P fn a.tmps (EndO w0 F0 ρ0 m (.ret r H' n')) a.defers um.mode w := by
 have ok := s.ok
 simp only [Bool.and_eq_true] at hb
 obtain ⟨⟨⟨hb1, hb2⟩, hb3⟩, hb4⟩ := hb
 have hm : σc.length = mc := Nat.eq_of_beq_eq_true hb2
 have hσ := ltAll_spec hb1
 obtain ⟨FA, f, FB, _, ⟨lp, us, _, d2, rfl, _⟩, _, _⟩ := ok.reps.look hpd
 obtain ⟨Fc, F1, t1, t2, t3⟩ := takeW_spec ok.reps hO
 have hcargs : SV.dens (ρ.sel σc) cargs = some us := dens_ren (by rw [← hargs]; exact d2)
 have hp : ((⟨[], Fc⟩ : Hp).add ⟨[], F1 ++ []⟩).all.Perm (⟨[], F⟩ : Hp).all := by
  simp only [Hp.all, Hp.add, List.nil_append, List.flatten_append, List.append_nil]; exact t3
 have s' := s.sat.perm hp
 rw [show a.defers = [⟨.fn (.func k) us.toArray, #[]⟩] from s.sat.defers]
 refine ⟨um.notRun, .inr ⟨fun h => by simp [FW] at h, .func k, us.toArray, k, us.toArray, rfl, ?_, fun _ _ => trivial, ?_⟩⟩
 ·simp [invoke, hB.e.cal.mem _ (hasN_mem hk)]
 have hok := s'.hpOk
 have hret := con w (ρ.sel σc) Fc _ hcargs (callee_reps (c := (c0 P w0 F0 N ρ0 m).df k us) t2 s' t1 hR) (fun t ht => by simp [Env.sel, tgO_none (σ := σc) (t := t) (by rw [hm]; exact ht)]) (by simpa [Hp.all] using hok.1) (by simpa [Hp.all] using hok.2)
 refine CallsDIn.mono hret ?_
 rintro e u2 w' ⟨R', ⟨v, rfl⟩, rfl, he, c', ρ', F', rfl, p0, p2⟩
 show LeavesInM (FW none) 1 P fn a.tmps _ [] (settle um.mode') w'
 rw [um.settled]
 have hle := backE_sel (n := n) hm hσ p0
 have hg : Env.grow n (n + (mc' - mc)) ρ (backE ρ ρ' n mc mc') := backE_grow
 have h6 := s'.eff he
 have e6 : ((⟨[], F'⟩ : Hp).add ⟨[], F1 ++ []⟩) = ⟨[], F' ++ F1⟩ := by simp [Hp.add]
 rw [e6] at h6
 have hN := nH_reps (t2.mono (hg.toLe ok.fr)) hb4 (p2.mono hle)
 have s2 : Sat4 (c0 P w0 F0 N ρ0 m) (backE ρ ρ' n mc mc') (F' ++ F1) ⟨L, nH (appN σc (seqN n (mc' - mc))) H1 cH', n + (mc' - mc)⟩ { a with defers := [] } w' := by
  refine ⟨⟨ok.dens.mono (hg.toLe ok.fr), Reps.cx (c := ((c0 P w0 F0 N ρ0 m).df k us).toCx) (c' := (c0 P w0 F0 N ρ0 m).toCx) rfl rfl hN, hg.fr, fun t ht => ?_, Nat.le_trans ok.mle hg.le⟩, ?_⟩
  ·rw [hg.old t (Nat.lt_of_lt_of_le ht ok.mle)]; exact ok.pin t ht
  ·show Sat _ (realL (backE ρ ρ' n mc mc') L) ⟨[], F' ++ F1⟩ _ w'
   rw [realL_mono (hg.toLe ok.fr) ok.dens]
   exact ⟨h6.size, rfl, h6.slots, h6.ext, h6.nodup, h6.heap, h6.own⟩
 have := TL4 (a := { a with defers := [] }) hB.t hrs σ hy hr h2 h3 h4 s2
 exact this
variable {b : TB} {k : FuncId} {vs : List Value} {ca : List SV} {cargs : List SV} {cH cH' : SH} {mc mc' : Nat} {H1 : SH}
theorem TD_ (hB : TBOk P b) (hrs : fn.results = rs.toArray) (td : Nat) (σc : List Nat) (con : ConD P k cargs cH mc .ret cH' mc') (σ : List Nat) (ho : o = .ret r H' n' := by rfl) (hpd : lookH H td = some (.ex (pD vs) ca) := by rfl) (hk : hasN b.e.cal k = true := by rfl) (hargs : ca = SV.rens σc cargs := by rfl)
  (hO : takeW σc H cH = some (ownBs σc cH, H1) := by rfl) (hR : rdsOf σc H1 cH = some (rdsW cH) := by rfl) (hb : (ltAll n σc && Nat.beq σc.length mc && Nat.ble mc mc' && allOwn cH') = true := by rfl)
  (hy : resS b.t L (nH (appN σc (seqN n (mc' - mc))) H1 cH') rs = some ys := by rfl) (hr : retS ys = r.ren σ := by rfl) (h2 : takesH σ (nH (appN σc (seqN n (mc' - mc))) H1 cH') H' = some (renBs σ H') := by rfl) (h3 : idB 0 m σ = true := by rfl) (h4 : σ.length = n' := by rfl) :
  G4 ((c0 P w0 F0 N ρ0 m).df k vs) (FinO P fn w0 F0 ρ0 m o) (.exit .ret []) ⟨L, H, n⟩ := by
 subst ho
 exact fun ρ F a w s => TD0 (um := .ret) hB hrs td hpd σc con hk hargs hO hR hb σ hy hr h2 h3 h4 s
theorem TDP_ {v : Value} (hB : TBOk P b) (hrs : fn.results = rs.toArray) (td : Nat) (σc : List Nat) (con : ConD P k cargs cH mc (.pan v) cH' mc') (σ : List Nat) (ho : o = .ret r H' n' := by rfl) (hpd : lookH H td = some (.ex (pD vs) ca) := by rfl) (hk : hasN b.e.cal k = true := by rfl) (hargs : ca = SV.rens σc cargs := by rfl)
  (hO : takeW σc H cH = some (ownBs σc cH, H1) := by rfl) (hR : rdsOf σc H1 cH = some (rdsW cH) := by rfl) (hb : (ltAll n σc && Nat.beq σc.length mc && Nat.ble mc mc' && allOwn cH') = true := by rfl)
  (hy : resS b.t L (nH (appN σc (seqN n (mc' - mc))) H1 cH') rs = some ys := by rfl) (hr : retS ys = r.ren σ := by rfl) (h2 : takesH σ (nH (appN σc (seqN n (mc' - mc))) H1 cH') H' = some (renBs σ H') := by rfl) (h3 : idB 0 m σ = true := by rfl) (h4 : σ.length = n' := by rfl) :
  G4 ((c0 P w0 F0 N ρ0 m).df k vs) (FinO P fn w0 F0 ρ0 m o) (.exit (.panic [{ v := v, recovered := false }]) []) ⟨L, H, n⟩ := by
 subst ho
 exact fun ρ F a w s => TD0 (um := .pan v) hB hrs td hpd σc con hk hargs hO hR hb σ hy hr h2 h3 h4 s
end
end Go.HW
namespace Go.HW
open Go Go.RowKit
set_option linter.unusedVariables false
set_option maxRecDepth 4000
theorem ifc_nil {P : Program} {X : TypeId} {ms : Array (String × TypeId)} (hu : ∀ w, (underlying X).run P w = .ok (.interface ms) w) (T : TypeId) (v : Value) (w : World) : (Op.equal X (.iface T v) .nilIface).run P w = .ok false w := by
 unfold Op.equal
 rw [show Op.maxDepth = 9999 + 1 from rfl, Op.equalIn]
 simp only [Sem.run_bind, hu, Result.andThen_ok]
 simp
theorem nif_nil {P : Program} {X : TypeId} {ms : Array (String × TypeId)} (hu : ∀ w, (underlying X).run P w = .ok (.interface ms) w) (w : World) : (Op.equal X .nilIface .nilIface).run P w = .ok true w := by
 unfold Op.equal
 rw [show Op.maxDepth = 9999 + 1 from rfl, Op.equalIn]
 simp only [Sem.run_bind, hu, Result.andThen_ok]
 simp
theorem map_nil {P : Program} {X k e : TypeId} (hu : ∀ w, (underlying X).run P w = .ok (.map k e) w) (b : Nat) (w : World) : (Op.equal X (.map (some b)) (.map none)).run P w = .ok false w := by
 unfold Op.equal
 rw [show Op.maxDepth = 9999 + 1 from rfl, Op.equalIn]
 simp only [Sem.run_bind, hu, Result.andThen_ok]
 simp
theorem nmap_nil {P : Program} {X k e : TypeId} (hu : ∀ w, (underlying X).run P w = .ok (.map k e) w) (w : World) : (Op.equal X (.map none) (.map none)).run P w = .ok true w := by
 unfold Op.equal
 rw [show Op.maxDepth = 9999 + 1 from rfl, Op.equalIn]
 simp only [Sem.run_bind, hu, Result.andThen_ok]
 simp
theorem QV.bin {c : Cx} {o : BinOp} {X : TypeId} {x y : Operand} {Y : TypeId} {d : Nat} {T : TypeId} {pos : String} {af : Array Edge} {g : Option (Nat × Bool)} {Lr : Slots} {Fs : Hp} {u v r : Value} (hx : ev Lr x = some u) (hy : ev Lr y = some v)
  (h0 : ∀ w, (eqGuard o X x y u v).run c.P w = .ok () w) (h : ∀ w, (binOp o X u v).run c.P w = .ok r w) : QV c ⟨some d, .binOp o X x y Y, T, pos, af, g⟩ Lr Fs r := fun a w s => by
 simp [execOp, s.eval hx, s.eval hy, h, h0]
def niF : EvV := fun b L H op => match op with
 | .binOp o X x y _ => match evS L x, evS L y, lk b.t.und X with
  | some (.v (.iface _ _)), some (.v .nilIface), some (.interface _) => match o with
   | .eql => some ([], .v (.bool false)) | .neq => some ([], .v (.bool true)) | _ => none
  | some (.v .nilIface), some (.v .nilIface), some (.interface _) => match o, y with
   | .eql, .const _ => some ([], .v (.bool true)) | .neq, .const _ => some ([], .v (.bool false)) | _, _ => none
  | some (.mp _), some (.v (.map none)), some (.map _ _) => match o with
   | .eql => some ([], .v (.bool false)) | .neq => some ([], .v (.bool true)) | _ => none
  | some (.v (.map none)), some (.v (.map none)), some (.map _ _) => match o with
   | .eql => some ([], .v (.bool true)) | .neq => some ([], .v (.bool false)) | _ => none
  | _, _, _ => none
 | _ => none
theorem niF_ok {c : C4} : EvVOk c niF := by
 intro b L H n op cs r hB h hc
 unfold niF at h
 split at h
 ·rename_i o X x y Y; split at h
  ·rename_i T0 v0 ms hx hy hX
   have key : ∀ (ρ : Env) (F : List Blocks), Ok c ρ F ⟨L, H, n⟩ → ∀ Lr : Slots, (∀ t v, look (realL ρ L) t = some v → look Lr t = some v) → ev Lr x = some (.iface T0 v0) ∧ ev Lr y = some .nilIface := fun ρ F o Lr hLr => by
    obtain ⟨vx, x1, x2⟩ := evS_ok o.dens hx
    obtain ⟨vy, y1, y2⟩ := evS_ok o.dens hy
    rw [SV.den] at y1; cases y1
    rw [SV.den] at x1; cases x1
    exact ⟨ev_ext hLr x2, ev_ext hLr y2⟩
   split at h
   ·cases h; exact ⟨rfl, fun ρ F Fx o Lr hLr => ⟨_, by rw [SV.den], fun d T pos af g => QV.bin (key ρ F o Lr hLr).1 (key ρ F o Lr hLr).2 (fun w => by simp [eqGuard]) fun w => by simp [binOp, ifc_nil (hB.t.und.mem _ (lk_mem hX))]⟩⟩
   ·cases h; exact ⟨rfl, fun ρ F Fx o Lr hLr => ⟨_, by rw [SV.den], fun d T pos af g => QV.bin (key ρ F o Lr hLr).1 (key ρ F o Lr hLr).2 (fun w => by simp [eqGuard]) fun w => by simp [binOp, ifc_nil (hB.t.und.mem _ (lk_mem hX))]⟩⟩
   ·cases h
  ·rename_i ms hx hy hX
   have key : ∀ (ρ : Env) (F : List Blocks), Ok c ρ F ⟨L, H, n⟩ → ∀ Lr : Slots, (∀ t v, look (realL ρ L) t = some v → look Lr t = some v) → ev Lr x = some .nilIface ∧ ev Lr y = some .nilIface := fun ρ F o Lr hLr => by
    obtain ⟨vx, x1, x2⟩ := evS_ok o.dens hx
    obtain ⟨vy, y1, y2⟩ := evS_ok o.dens hy
    rw [SV.den] at y1; cases y1
    rw [SV.den] at x1; cases x1
    exact ⟨ev_ext hLr x2, ev_ext hLr y2⟩
   split at h
   ·cases h; exact ⟨rfl, fun ρ F Fx o Lr hLr => ⟨_, by rw [SV.den], fun d T pos af g => QV.bin (key ρ F o Lr hLr).1 (key ρ F o Lr hLr).2 (fun w => by simp [eqGuard]) fun w => by simp [binOp, nif_nil (hB.t.und.mem _ (lk_mem hX))]⟩⟩
   ·cases h; exact ⟨rfl, fun ρ F Fx o Lr hLr => ⟨_, by rw [SV.den], fun d T pos af g => QV.bin (key ρ F o Lr hLr).1 (key ρ F o Lr hLr).2 (fun w => by simp [eqGuard]) fun w => by simp [binOp, nif_nil (hB.t.und.mem _ (lk_mem hX))]⟩⟩
   ·cases h
  ·rename_i t k e hx hy hX
   have key : ∀ (ρ : Env) (F : List Blocks), Ok c ρ F ⟨L, H, n⟩ → ∀ Lr : Slots, (∀ t v, look (realL ρ L) t = some v → look Lr t = some v) → ∃ q, ev Lr x = some (.map (some q)) ∧ ev Lr y = some (.map none) := fun ρ F o Lr hLr => by
    obtain ⟨vx, x1, x2⟩ := evS_ok o.dens hx
    obtain ⟨vy, y1, y2⟩ := evS_ok o.dens hy
    rw [SV.den] at y1; cases y1
    rw [SV.den] at x1
    obtain ⟨q, _, rfl⟩ := Option.map_eq_some_iff.1 x1
    exact ⟨q, ev_ext hLr x2, ev_ext hLr y2⟩
   split at h
   ·cases h; refine ⟨rfl, fun ρ F Fx o Lr hLr => ⟨_, by rw [SV.den], fun d T pos af g => ?_⟩⟩
    obtain ⟨q, e1, e2⟩ := key ρ F o Lr hLr
    exact QV.bin e1 e2 (fun w => by simp [eqGuard]) fun w => by simp [binOp, map_nil (hB.t.und.mem _ (lk_mem hX))]
   ·cases h; refine ⟨rfl, fun ρ F Fx o Lr hLr => ⟨_, by rw [SV.den], fun d T pos af g => ?_⟩⟩
    obtain ⟨q, e1, e2⟩ := key ρ F o Lr hLr
    exact QV.bin e1 e2 (fun w => by simp [eqGuard]) fun w => by simp [binOp, map_nil (hB.t.und.mem _ (lk_mem hX))]
   ·cases h
  ·rename_i k e hx hy hX
   have key : ∀ (ρ : Env) (F : List Blocks), Ok c ρ F ⟨L, H, n⟩ → ∀ Lr : Slots, (∀ t v, look (realL ρ L) t = some v → look Lr t = some v) → ev Lr x = some (.map none) ∧ ev Lr y = some (.map none) := fun ρ F o Lr hLr => by
    obtain ⟨vx, x1, x2⟩ := evS_ok o.dens hx
    obtain ⟨vy, y1, y2⟩ := evS_ok o.dens hy
    rw [SV.den] at y1; cases y1
    rw [SV.den] at x1; cases x1
    exact ⟨ev_ext hLr x2, ev_ext hLr y2⟩
   split at h
   ·cases h; exact ⟨rfl, fun ρ F Fx o Lr hLr => ⟨_, by rw [SV.den], fun d T pos af g => QV.bin (key ρ F o Lr hLr).1 (key ρ F o Lr hLr).2 (fun w => by simp [eqGuard]) fun w => by simp [binOp, nmap_nil (hB.t.und.mem _ (lk_mem hX))]⟩⟩
   ·cases h; exact ⟨rfl, fun ρ F Fx o Lr hLr => ⟨_, by rw [SV.den], fun d T pos af g => QV.bin (key ρ F o Lr hLr).1 (key ρ F o Lr hLr).2 (fun w => by simp [eqGuard]) fun w => by simp [binOp, nmap_nil (hB.t.und.mem _ (lk_mem hX))]⟩⟩
   ·cases h
  ·cases h
 ·cases h
def Ev.ni {c : C4} : Ev c := .ot (liftV niF) (liftV_ok niF_ok)
def taF : EvV := fun b L H op => match op with
 | .typeAssert x _ A true => match evS L x, lk b.t.und A with
  | some (.v (.iface U v)), some (.int _) => bif Nat.beq U A then some ([], .tu [.v v, .v (.bool true)]) else none
  | _, _ => none
 | _ => none
theorem taF_ok {c : C4} : EvVOk c taF := by
 intro b L H n op cs r hB h hc
 unfold taF at h
 split at h
 ·rename_i x X A; split at h
  ·rename_i U v k hx hA
   cases hb : Nat.beq U A with
   | false => rw [hb] at h; cases h
   | true =>
    rw [hb, cond_true] at h; cases h
    have := Nat.eq_of_beq_eq_true hb; subst this
    refine ⟨rfl, fun ρ F Fx o Lr hLr => ⟨.tuple #[v, .bool true], by simp [SV.den, SV.dens, SV.deni], fun d T pos af g a w s => ?_⟩⟩
    obtain ⟨vx, x1, x2⟩ := evS_ok o.dens hx
    rw [SV.den] at x1; cases x1
    simp [execOp, s.eval (ev_ext hLr x2), Instr.typeAssert, hB.t.und.mem _ (lk_mem hA)]
  ·cases h
 ·cases h
def Ev.ta {c : C4} : Ev c := .ot (liftV taF) (liftV_ok taF_ok)
theorem b2s_run {P : Program} {w : World} {X Y e : TypeId} (hX : ∀ w, (underlying X).run P w = .ok (.slice e) w) (hE : ∀ w, (underlying e).run P w = .ok (.int .u8) w) (hY : ∀ w, (underlying Y).run P w = .ok .string w)
  {sq : Option Addr} {m cq : Nat} {ys : List Int} (hm : ys.length = m) (h : RdS (En.int .u8) w sq ys) : (convert X Y (.slice sq m cq)).run P w = .ok (.string (strOfNums ys)) w := by
 rcases sq with _ | ad
 ·have : ys = [] := by
   rcases h.2 with h | ⟨ad, h, _⟩
   ·exact h
   ·cases h
  subst this
  rw [run_convert_bytes_nil w X e (und_of hX) (und_of hE) m cq Y (und_of hY)]; rfl
 ·rcases h.2 with h0 | ⟨ad', h1, h2, h3⟩
  ·subst h0; cases hm
   rw [run_convert_bytes_string w X Y e (some ad) _ cq (und_of hX) (und_of hE) (und_of hY)]
   simp [Conv.bytesToString, loadCells]; rfl
  ·cases h1
   obtain ⟨b, off, sp⟩ := ad
   have h2 : sp = none := h2
   subst h2
   refine run_convert_bytes_arg w X e (und_of hX) (und_of hE) b off m cq ys hm (fun i hi => ?_) Y (und_of hY)
   have := h3 i ys[i] (by simp [hm, hi]) 0 (.int .u8 ys[i]) rfl
   simpa [En.int, List.getD, hm, hi] using this
def b2sF (ys : List Int) : EvV := fun b L H op => match op with
 | .convert X Y x => match evS L x, lk b.t.und X, lk b.t.und Y with
  | some yv, some (.slice e), some .string => match lk b.t.und e, rowS H yv with
   | some (.int .u8), some (@RowOf.mk _ _ _ _ m) => some ([rowS H yv = some (@RowOf.mk Int _ (Et.int .u8) ys m)], .v (.string (strOfNums ys)))
   | _, _ => none
  | _, _, _ => none
 | _ => none
theorem b2sF_ok {c : C4} {ys : List Int} : EvVOk c (b2sF ys) := by
 intro b L H n op cs r hB h hc
 unfold b2sF at h
 split at h
 ·rename_i X Y x; split at h
  ·rename_i yv e hx hX hY; split at h
   ·rename_i α i N zs m hE hr; cases h
    have hc : rowS H yv = some (@RowOf.mk Int _ (Et.int .u8) ys m) := hc
    refine ⟨rfl, fun ρ F Fx o Lr hLr => ⟨_, by rw [SV.den], fun d T pos af g a w s => ?_⟩⟩
    obtain ⟨vx, x1, x2⟩ := evS_ok o.dens hx
    obtain ⟨sq, cq, rfl, k1, k2⟩ := rowS_ok o hc x1
    simp [execOp, s.eval (ev_ext hLr x2), b2s_run (hB.t.und.mem _ (lk_mem hX)) (hB.t.und.mem _ (lk_mem hE)) (hB.t.und.mem _ (lk_mem hY)) k1 (k2 Lr Fx a w s)]
   ·cases h
  ·cases h
 ·cases h
def Ev.b2 {c : C4} (ys : List Int) : Ev c := .ot (liftV (b2sF ys)) (liftV_ok b2sF_ok)
def numsOf (s : ByteArray) : List Int := s.data.toList.map fun b => (b.toNat : Int)
theorem numsOf_length (s : ByteArray) : (numsOf s).length = s.size := by unfold numsOf; rw [List.length_map, Array.length_toList]; rfl
section
variable {c : Cx} {ops : Array Oper} {Q : Exit → Act → World → Prop} {rest : List Oper} {L : Slots} {H : Hp}
variable {d : Nat} {T : TypeId} {pos : String} {af : Array Edge} {g : Option (Nat × Bool)}
theorem TX.s2b {X Y e : TypeId} {x : Operand} {s : ByteArray} {E : Blocks} {S : List Blocks} (hX : ∀ w, (underlying X).run c.P w = .ok .string w) (hY : ∀ w, (underlying Y).run c.P w = .ok (.slice e) w) (hE : ∀ w, (underlying e).run c.P w = .ok (.int .u8) w)
  (hx : ev L x = some (.string s)) (hs : s.size ≤ maxLen) (hd : Nat.blt d c.n = true)
  (h : ∀ q cap Hs, OwnL (En.int .u8) e (some q) cap (numsOf s) Hs → TO c ops Q rest ((d, .slice (some q) (numsOf s).length cap) :: L) ⟨E, Hs :: S⟩) : TX c ops Q ⟨some d, .convert X Y x, T, pos, af, g⟩ rest L ⟨E, S⟩ := by
 intro a w st
 have hrun := run_bytes_of_string (P := c.P) w X Y e s (und_of hX) (und_of hY) (und_of hE)
 have hg := grownCap_ge w s.size 0 e
 have hm := grownCap_le_maxLen w s.size 0 e hs
 have hsz : (bytesRow s (grownCap w s.size 0 e)).size = grownCap w s.size 0 e := by
  have : s.data.size = s.size := rfl
  simp [bytesRow]; omega
 have hex : (execOp a.eval ⟨some d, .convert X Y x, T, pos, af, g⟩).run c.P w = .ok (.value (.slice (some ⟨w.heap.size, 0, none⟩) (numsOf s).length (grownCap w s.size 0 e))) (w.drew.alloc (.cells (bytesRow s (grownCap w s.size 0 e)) e ((bytesRow s (grownCap w s.size 0 e)).size, (bytesRow s (grownCap w s.size 0 e)).size + 1))) := by
  simp [execOp, st.eval hx, hrun, numsOf_length]
 rw [hex]
 have own : OwnL (En.int .u8) e (some ⟨w.heap.size, 0, none⟩) (grownCap w s.size 0 e) (numsOf s) [(w.heap.size, .cells (bytesRow s (grownCap w s.size 0 e)) e ((bytesRow s (grownCap w s.size 0 e)).size, (bytesRow s (grownCap w s.size 0 e)).size + 1))] := by
  refine .inr ⟨_, _, rfl, ⟨_, .inr (Nat.le_refl _), rfl⟩, by rw [numsOf_length]; exact hg, hm, by rw [hsz]; simp [En.int], ?_⟩
  have e1 : (numsOf s).flatMap (En.int .u8).enc = s.data.toList.map fun b => Value.int .u8 (b.toNat : Int) := by
   simp only [numsOf, En.int, List.flatMap_map]
   induction s.data.toList with
   | nil => rfl
   | cons b l ih => simp [ih]
  have e2 : (numsOf s).length * (En.int .u8).sz = (s.data.toList.map fun b => Value.int .u8 (b.toNat : Int)).length := by simp [numsOf, En.int]
  rw [e1, e2]
  simp only [bytesRow, Array.toList_append, Array.toList_map]
  exact List.take_left
 refine h _ _ _ own _ _ (Sat.put (dst := some d) (st.addSeg (w' := w.drew.alloc _) ⟨rfl, rfl, rfl, by show w.heap.size ≤ (w.heap.push _).size; rw [Array.size_push]; exact Nat.le_succ _, fun k hk _ => heap_alloc_old w.drew _ hk⟩ (by simp) ?_ (by simp)) hd _)
 intro p hp
 simp at hp; subst hp
 exact heap_alloc_new w.drew _
end
def s2bF : EvF := fun b L H n op => match op with
 | .convert X Y x => match evS L x, lk b.t.und X, lk b.t.und Y with
  | some (.v (.string s)), some .string, some (.slice e) => match lk b.t.und e with
   | some (.int .u8) => some ([decide (s.size ≤ 9223372036854775807) = true], some (.sl n), (n, .row (Et.int .u8) e (numsOf s) (numsOf s).length .no) :: H, n + 1)
   | _ => none
  | _, _, _ => none
 | _ => none
theorem s2bF_ok {c : C4} : EvOk c s2bF := by
 intro b L H n op cs r H' n' hB h hc dst T pos af g hdr hd
 unfold s2bF at h
 split at h
 ·rename_i X Y x; split at h
  ·rename_i s e hx hX hY; split at h
   ·rename_i hE; cases h
    have hc : decide (s.size ≤ 9223372036854775807) = true := hc
    have hs : s.size ≤ maxLen := by have := of_decide_eq_true hc; unfold maxLen; omega
    cases dst with
    | none => simp at hdr
    | some d =>
     refine ⟨rfl, OT.ofTX hd fun ρ F Fx o Lr hLr Q hk => ?_⟩
     obtain ⟨vx, e1, e2⟩ := evS_ok o.dens hx
     rw [SV.den] at e1; cases e1
     refine TX.s2b (hB.t.und.mem _ (lk_mem hX)) (hB.t.und.mem _ (lk_mem hY)) (hB.t.und.mem _ (lk_mem hE)) (ev_ext hLr e2) hs hd fun q cap Hs ho => ?_
     exact hk (ρ.set n ⟨some q, cap, (numsOf s).length⟩) (Hs :: F) (.slice (some q) (numsOf s).length cap) (Env.set_grow o.fr) (by rw [Option.getD_some, SV.den, Env.set_self]; rfl) (Env.set_row o.reps o.fr ⟨some q, cap, by rw [Env.set_self], rfl, ho, by simp [NKok]⟩)
   ·cases h
  ·cases h
 ·cases h
def Ev.s2 {c : C4} : Ev c := .ot s2bF s2bF_ok
theorem run_mark {P : Program} {w : World} {g : Nat} {cur : Array Value} {A : TypeId} {fz : Nat × Nat} (hg : w.heap[g]? = some (.cells cur A fz)) (hz : NoFz fz cur.size) :
  ∃ fz', NoFz fz' cur.size ∧ (markStringish ⟨g, 0, none⟩).run P w = .ok () (World.withBlock w g (.cells cur A fz')) := by
 obtain ⟨lo, hi⟩ := fz
 refine ⟨if lo == hi then (cur.size, cur.size + 1) else (min lo cur.size, max hi (cur.size + 1)), ?_, ?_⟩
 ·by_cases h : lo = hi
  ·subst h; simp [NoFz]
  ·have h2 : cur.size ≤ lo := by
    rcases hz with hz | hz
    ·exact absurd hz h
    ·exact hz
   rw [if_neg (by simpa using h)]
   right
   show cur.size ≤ min lo cur.size
   omega
 ·have hsh : w.shape? g = some (A, cur.size) := by simp [World.shape?, hg]
  have hlt : g < w.heap.size := (Array.getElem?_eq_some_iff.1 hg).1
  have he : w.heap[g] = .cells cur A (lo, hi) := (Array.getElem?_eq_some_iff.1 hg).2
  have hf : w.freeze ⟨g, cur.size, none⟩ 1 = World.withBlock w g (.cells cur A (if lo == hi then (cur.size, cur.size + 1) else (min lo cur.size, max hi (cur.size + 1)))) := by
   unfold World.freeze
   rw [if_neg (by decide)]
   unfold World.withBlock
   congr 1
   apply Array.ext
   ·simp
   ·intro i h1 h2
    have hi2 : i < w.heap.size := by simpa using h1
    simp only [Array.getElem_modify]
    by_cases h : g = i
    ·subst h; simp [he]
    ·rw [if_neg h, Array.getElem_setIfInBounds_ne hi2 h]
  simp [markStringish, hsh, hf]
section
variable {c : Cx} {ops : Array Oper} {Q : Exit → Act → World → Prop} {rest : List Oper} {L : Slots} {H : Hp}
variable {d : Nat} {T : TypeId} {pos : String} {af : Array Edge} {g : Option (Nat × Bool)}
theorem TX.cvt {α : Type} {N : En α} {X A e : TypeId} {x : Operand} {sp : Option Addr} {m cap si : Nat} {xs : List α} {E : Blocks} {S : List Blocks} {Hs : Blocks} (hX : ∀ w, (underlying X).run c.P w = .ok (.slice e) w) (hE : ∀ w, (underlying e).run c.P w = .ok (.int .u8) w)
  (hx : ev L x = some (.slice sp m cap)) (hS : getS S si = some Hs) (ho : OwnL N A sp cap xs Hs) (hne : sp.isNone = false) (hd : Nat.blt d c.n = true)
  (h : ∀ Hs' S', setS S si Hs' = some S' → OwnL N A sp cap xs Hs' → TO c ops Q rest ((d, .slice sp m cap) :: L) ⟨E, S'⟩) : TX c ops Q ⟨some d, .convert X X x, T, pos, af, g⟩ rest L ⟨E, S⟩ := by
 rcases ho with ⟨rfl, _⟩ | ⟨b, cur, rfl, ⟨fz, hfz, rfl⟩, h1, h2, h3, h4⟩
 ·simp at hne
 intro a w s
 have hb : w.heap[b]? = some (.cells cur A fz) := s.heap (b, Obj.cells cur A fz) (List.mem_append.2 (.inr (getS_sub hS _ (List.mem_singleton.2 rfl))))
 obtain ⟨fz', hz', hrun⟩ := run_mark (P := c.P) hb hfz
 have hex : (execOp a.eval ⟨some d, .convert X X x, T, pos, af, g⟩).run c.P w = .ok (.value (.slice (some ⟨b, 0, none⟩) m cap)) (World.withBlock w b (.cells cur A fz')) := by
  simp [execOp, s.eval hx, convert, hX, hE, hrun]
 rw [hex]
 obtain ⟨S', hS'⟩ := setS_some [(b, .cells cur A fz')] hS
 refine h _ _ hS' (.inr ⟨b, cur, rfl, ⟨fz', hz', rfl⟩, h1, h2, h3, h4⟩) _ _ (Sat.put (dst := some d) ?_ hd _)
 obtain ⟨A1, B1, p, e1, e2, e3⟩ := setS_spec hS'
 rw [hS] at e3; cases e3
 refine s.setBlockG (A := E ++ A1.flatten) (B := B1.flatten) (o := .cells cur A fz) ?_ ?_
 ·simp [Hp.all, e1]
 ·simp [Hp.all, e2]
end
theorem repH_self {b : Blk} : ∀ {H : SH} {t : Nat}, lookH H t = some b → repH H t t b = H
 | [], t, h => rfl
 | (k, x) :: L, t, h => by
  simp only [lookH] at h
  simp only [repH]
  cases hk : Nat.beq k t with
  | true => rw [hk, cond_true] at h; cases h; have := Nat.eq_of_beq_eq_true hk; subst this; rfl
  | false => rw [hk, cond_false] at h; rw [cond_false, repH_self h]
def cvF : EvF := fun b L H n op => match op with
 | .convert X Y x => match evS L x, lk b.t.und X with
  | some (.sl t), some (.slice e) => match lk b.t.und e, lookH H t with
   | some (.int .u8), some (@Blk.row _ _ _ _ _ _ .no) => bif Nat.beq X Y then some ([], some (.sl t), H, n) else none
   | _, _ => none
  | _, _ => none
 | _ => none
theorem cvF_ok {c : C4} : EvOk c cvF := by
 intro b L H n op cs r H' n' hB h hc dst T pos af g hdr hd
 unfold cvF at h
 split at h
 ·rename_i X Y x; split at h
  ·rename_i t e hx hX; split at h
   ·rename_i α i N A xs m hE hl
    cases hb : Nat.beq X Y with
    | false => rw [hb] at h; cases h
    | true =>
     rw [hb, cond_true] at h; cases h
     have := Nat.eq_of_beq_eq_true hb; subst this
     cases dst with
     | none => simp at hdr
     | some d =>
      refine ⟨rfl, OT.ofTX hd fun ρ F Fx o Lr hLr Q hk => ?_⟩
      obtain ⟨vx, e1, e2⟩ := evS_ok o.dens hx
      obtain ⟨FA, f, FB, rfl, ⟨sp, cap, r1, r2, r3, r4⟩, hrep, hself⟩ := o.reps.look hl
      rw [SV.den, r1] at e1; cases e1
      have hFe : FA ++ f :: FB ++ Fx = FA ++ f :: (FB ++ Fx) := by simp
      rw [hFe]
      refine TX.cvt (si := FA.length) (hB.t.und.mem _ (lk_mem hX)) (hB.t.und.mem _ (lk_mem hE)) (ev_ext hLr e2) getS_app r3 r4 hd fun Hs' S' hS ho => ?_
      rw [setS_app] at hS; cases hS
      have h9 := hrep ρ t (.row N A xs m .no) Hs' (Env.le_refl _) ⟨sp, cap, r1, r2, ho, r4⟩
      rw [repH_self hl] at h9
      have := hk ρ (FA ++ Hs' :: FB) (.slice sp m cap) o.grow0 (by rw [Option.getD_some, SV.den, r1]; rfl) h9
      simpa [putS] using this
   ·cases h
  ·cases h
 ·cases h
def Ev.cv {c : C4} : Ev c := .ot cvF cvF_ok
end Go.HW
namespace Go.HW
open Go Go.RowKit
set_option linter.unusedVariables false
section
variable {α : Type} [Inhabited α]
def kdF (N : Et α) (K : α → List Kid) (xs : List α) (j : Nat) (kd : Kid) : EvF := fun b L H n op => match op with
 | .load A x => match evS L x, lk b.t.agg A with
  | some (.e t i sz off), some false => bif Nat.beq sz N.sz then
    some ([lookH H t = some (.rds N K xs), inb i xs.length = true, (K (gt xs i))[j]? = some kd, getI (N.it (gt xs i)) off = some (.v (.slice kd.sl.1 kd.sl.2.1 kd.sl.2.2))], some (.sl n), (n, @Blk.rd _ kd.ib kd.N kd.xs) :: H, n + 1) else none
  | _, _ => none
 | _ => none
theorem kdF_ok {c : C4} {N : Et α} {K : α → List Kid} {xs : List α} {j : Nat} {kd : Kid} : EvOk c (kdF N K xs j kd) := by
 intro b L H n op cs r H' n' hB h hc dst T pos af g hdr hd
 unfold kdF at h
 split at h
 ·rename_i A x; split at h
  ·rename_i t i sz off hx hag
   cases hb : Nat.beq sz N.sz with
   | false => rw [hb] at h; cases h
   | true =>
    rw [hb, cond_true] at h; cases h
    have e1 := Nat.eq_of_beq_eq_true hb; subst e1
    obtain ⟨c1, c2⟩ := allP_cons hc
    obtain ⟨c2, c3⟩ := allP_cons c2
    obtain ⟨c3, c4⟩ := allP_cons c3
    have c4 : getI (N.it (gt xs i)) off = some (.v (.slice kd.sl.1 kd.sl.2.1 kd.sl.2.2)) := c4
    cases dst with
    | none => simp at hdr
    | some d =>
     refine ⟨rfl, OT.ofTX hd fun ρ F Fx o Lr hLr Q hk => ?_⟩
     obtain ⟨vx, x1, x2⟩ := evS_ok o.dens hx
     obtain ⟨FA, f, FB, e0, ⟨sp, cap, q1, q2, q3, q4, q5⟩, _, _⟩ := o.reps.look c1
     rw [SV.den, q1] at x1
     simp only [Option.bind_some] at x1
     rw [c2, cond_true] at x1; cases x1
     have hkm : kd ∈ K (gt xs i) := List.mem_of_getElem? c3
     have hxm : gt xs i ∈ xs := List.mem_of_getElem? (gt_some c2)
     obtain ⟨k1, k2, k3⟩ := q5 _ hxm _ hkm
     have hg := Env.set_grow (ρ := ρ) (n := n) (l := ⟨kd.sl.1, kd.sl.2.2, kd.sl.2.1⟩) o.fr
     have hle := hg.toLe o.fr
     have hself : ρ.set n ⟨kd.sl.1, kd.sl.2.2, kd.sl.2.1⟩ n = some ⟨kd.sl.1, kd.sl.2.2, kd.sl.2.1⟩ := Env.set_self
     obtain ⟨v, v1, v2⟩ := getL_dens c4 (N.hit ρ (gt xs i))
     rw [SV.den] at v1; cases v1
     refine TX.permL (H' := ⟨[], [] :: F ++ Fx⟩) (by simp [Hp.all]) ?_
     refine TX.loadR1 (N := N.toEn) (xs := xs) (hB.t.agg.mem _ (lk_mem hag)) (ev_ext hLr x2) (fun a w s => q4 w s.ext) c2 v2 hd (hk _ ([] :: F) _ hg (by rw [Option.getD_some, SV.den, hself]; rfl) ⟨[], F, rfl, ⟨kd.sl.1, kd.sl.2.2, by rw [hself, k2], rfl, k3, k1⟩, o.reps.mono hle⟩)
  ·cases h
 ·cases h
def Ev.kd {c : C4} (N : Et α) (K : α → List Kid) (xs : List α) (j : Nat) (kd : Kid) : Ev c := .ot (kdF N K xs j kd) kdF_ok
def ldOF (D : Od α) (A : TypeId) (xs : List α) : EvF := fun b L H n op => match op with
 | .load A0 x => match evS L x, lk b.t.agg A0 with
  | some (.e t i sz off), some false => match getI (D.its (gt xs i) (.sl n)) off with
   | some (.sl m) => bif Nat.beq sz D.E.sz && Nat.beq m n then
     some ([lookH H t = some (.ex (pO D A xs) []), inb i xs.length = true], some (.sl n), (n, @Blk.row _ D.ib D.N D.e (D.g (gt xs i)) (D.g (gt xs i)).length .unk) :: repH H t t (.ex (pH D A xs i (gt xs i)) [.sl n]), n + 1) else none
   | _ => none
  | _, _ => none
 | _ => none
theorem ldOF_ok {c : C4} {D : Od α} {A : TypeId} {xs : List α} : EvOk c (ldOF D A xs) := by
 intro b L H n op cs r H' n' hB h hc dst T pos af g hdr hd
 unfold ldOF at h
 split at h
 ·rename_i A0 x; split at h
  ·rename_i t i sz off hx hag; split at h
   ·rename_i m hv
    cases hb : Nat.beq sz D.E.sz && Nat.beq m n with
    | false => rw [hb] at h; cases h
    | true =>
     rw [hb, cond_true] at h; cases h
     simp only [Bool.and_eq_true] at hb
     have e1 := Nat.eq_of_beq_eq_true hb.1; subst e1
     have e2 := Nat.eq_of_beq_eq_true hb.2; subst e2
     obtain ⟨c1, c2⟩ := allP_cons hc
     have c2 : inb i xs.length = true := c2
     cases dst with
     | none => simp at hdr
     | some d =>
      refine ⟨rfl, OT.ofTX hd fun ρ F Fx o Lr hLr Q hk => ?_⟩
      obtain ⟨vx, x1, x2⟩ := evS_ok o.dens hx
      obtain ⟨FA, f, FB, rfl, ⟨l, vs, q1, q2, q3, sls, H0, rs, h1, h2, h3, rfl⟩, hrep, _⟩ := o.reps.look c1
      rw [SV.den, q1] at x1
      simp only [Option.bind_some] at x1
      rw [show inb i l.len = true from by rw [q3]; exact c2, cond_true] at x1; cases x1
      have hx0 := gt_some (α := α) c2
      have hk0 := inb_iff.1 c2
      have hkl : i.toNat < sls.length := by omega
      have hs0 : sls[i.toNat]? = some sls[i.toNat] := List.getElem?_eq_getElem hkl
      generalize hsd : sls[i.toNat] = s at hs0
      obtain ⟨rs1, q, rs2, rfl, g1, g2, g3⟩ := InAll.openW h3 (by rw [List.getElem?_map, hx0]; rfl) hs0
      have hg := Env.set_grow (ρ := ρ) (n := m) (l := ⟨s.1, s.2.2, s.2.1⟩) o.fr
      have hle := hg.toLe o.fr
      have hself : ρ.set m ⟨s.1, s.2.2, s.2.1⟩ m = some ⟨s.1, s.2.2, s.2.1⟩ := Env.set_self
      have hz0 : (xs.zip sls)[i.toNat]? = some (gt xs i, s) := by rw [List.getElem?_zip_eq_some]; exact ⟨hx0, hs0⟩
      have hzl : (xs.zip sls).length = xs.length := by simp [h1]
      have hkz : inb i (xs.zip sls).length = true := by rw [hzl]; exact c2
      have hz : gt (xs.zip sls) i = (gt xs i, s) := by
       have a1 := gt_some hkz
       rw [hz0] at a1
       exact (Option.some.inj a1).symm
      obtain ⟨v, v1, v2⟩ := getI_spec hv (D.hits (ρ.set m ⟨s.1, s.2.2, s.2.1⟩) (gt xs i) m s hself)
      have hR := hrep _ t (.ex (pH D A xs i (gt xs i)) [.sl m]) (H0 ++ (rs1 ++ rs2).flatten) hle ⟨l, [.slice s.1 s.2.1 s.2.2], hle _ _ q1, denAll_dens (l := [.sl m]) ⟨by rw [SV.den, hself]; rfl, trivial⟩, sls, H0, rs1, rs2, s, q3, c2, h1, rfl,
       by rw [set_self_of hz0]; exact h2, g3, rfl⟩
      have hkk := hk _ (q :: (FA ++ (H0 ++ (rs1 ++ rs2).flatten) :: FB)) v hg (by rw [Option.getD_some]; exact v1) ⟨q, _, rfl, ⟨s.1, s.2.2, by rw [hself, g2], rfl, g1, trivial⟩, hR⟩
      have hp : (⟨[], q :: (FA ++ (H0 ++ (rs1 ++ rs2).flatten) :: FB) ++ Fx⟩ : Hp).all.Perm (⟨[], FA ++ (H0 ++ (rs1 ++ q :: rs2).flatten) :: FB ++ Fx⟩ : Hp).all := by
       simp only [Hp.all, List.nil_append, List.flatten_append, List.flatten_cons, List.append_assoc, List.cons_append]
       have := perm_mid (FA.flatten ++ H0) rs1.flatten rs2.flatten (FB.flatten ++ Fx.flatten) q
       simpa [List.append_assoc] using this.symm
      refine TX.permL hp.symm ?_
      refine TX.loadR1 (N := D.E) (xs := xs.zip sls) (hB.t.agg.mem _ (lk_mem hag)) (ev_ext hLr x2) (fun a w s => h2.rdm s fun p hp => ?_) hkz (by rw [hz]; exact getL_of v2) hd hkk
      simp only [Hp.all, List.nil_append, List.flatten_append, List.flatten_cons, List.mem_append, List.cons_append]
      exact .inr (.inl (.inr (.inl (.inl hp))))
   ·cases h
  ·cases h
 ·cases h
def Ev.lO {c : C4} (D : Od α) (A : TypeId) (xs : List α) : Ev c := .ot (ldOF D A xs) ldOF_ok
end
theorem Imp.nilOC {c : C4} {α : Type} [Inhabited α] (D : Od α) (A : TypeId) (t off : Nat) {T : TypeId} {is is' : List SV} {L : SL} {H : SH} {n : Nat} (hl : lookH H t = some (.cells T is)) (hg : getI is off = some (.v (.slice none 0 0))) (hp : pasteI is off 1 [.sl n] = some is') :
  Imp c ⟨L, H, n⟩ ⟨L, (n, .ex (pO D A []) []) :: repH H t t (.cells T is'), n + 1⟩ := by
 intro ρ F a w hs
 have hgr := Env.set_grow (ρ := ρ) (n := n) (l := ⟨none, 0, 0⟩) hs.ok.fr
 have hle := hgr.toLe hs.ok.fr
 have hρ : ρ.set n ⟨none, 0, 0⟩ n = some ⟨none, 0, 0⟩ := by simp [Env.set]
 have hd : (SV.sl n).den (ρ.set n ⟨none, 0, 0⟩) = some (.slice none 0 0) := by rw [SV.den, hρ]; rfl
 obtain ⟨FA, f, FB, rfl, ⟨b, vs, h7, h8, h9⟩, hr, _⟩ := hs.ok.reps.look hl
 obtain ⟨z, z1, z2⟩ := getI_spec hg h8
 rw [SV.den] at z1; cases z1
 have h8' := dens_mono hle h8
 obtain ⟨p1, p2⟩ := pasteI_spec hp h8' (us := [.slice none 0 0]) (dens_cons_some.2 ⟨[_], [], deni_of hd, dens_nil, rfl⟩)
 have hvs : vs.take off ++ ([.slice none 0 0] ++ vs.drop (off + 1)) = vs := by
  obtain ⟨hlt, hz⟩ := List.getElem?_eq_some_iff.1 z2
  rw [← hz]
  have := List.take_append_drop off vs
  rw [List.drop_eq_getElem_cons hlt] at this
  simpa using this
 rw [hvs] at p1
 have hR := hr _ t (.cells T is') f hle ⟨b, vs, blkOf_mono hle h7, p1, h9⟩
 refine ⟨ρ.set n ⟨none, 0, 0⟩, [] :: (FA ++ f :: FB), ⟨⟨hs.ok.dens.mono hle, ⟨[], _, rfl, ⟨_, [], hρ, dens_nil, rfl, [], [], [], rfl, OwnL.nil _ _, trivial, rfl⟩, hR⟩, hgr.fr, fun u hu => ?_, Nat.le_succ_of_le hs.ok.mle⟩, ?_⟩⟩
 ·have := hs.ok.mle
  rw [hgr.old u (by simp only at this; omega)]; exact hs.ok.pin u hu
 ·have s1 := hs.sat
  refine ⟨s1.size, s1.defers, fun u v hl => ?_, s1.ext, by simpa [Hp.all] using s1.nodup, by simpa [Hp.all] using s1.heap, by simpa [Hp.all] using s1.own⟩
  rw [realL_mono hle hs.ok.dens] at hl
  exact s1.slots u v hl
end Go.HW
namespace Go.HW
open Go Go.RowKit
set_option linter.unusedVariables false
def frk1 {α γ : Type} (x : Option α) (f : α → Option γ) : Option γ := match x with
 | some a => f a
 | none => none
def frk2 {α β γ : Type} (x : Option (α ⊕ β)) (f : α → Option γ) (g : β → Option γ) : Option γ := match x with
 | some (.inl a) => f a
 | some (.inr b) => g b
 | none => none
theorem fk1 {α γ : Type} {x : Option α} {f : α → Option γ} {r : γ} {G : Prop} (h : frk1 x f = some r) (h1 : ∀ v, x = some v → f v = some r → G) : G := by
 unfold frk1 at h
 split at h
 ·exact h1 _ rfl h
 ·cases h
theorem fk2 {α β γ : Type} {x : Option (α ⊕ β)} {f : α → Option γ} {g : β → Option γ} {r : γ} {G : Prop} (h : frk2 x f g = some r) (h1 : ∀ v, x = some (.inl v) → f v = some r → G) (h2 : ∀ v, x = some (.inr v) → g v = some r → G) : G := by
 unfold frk2 at h
 split at h
 ·exact h1 _ rfl h
 ·exact h2 _ rfl h
 ·cases h
def cutO : List Oper → Nat → Option (List Oper × Oper × List Oper)
 | [], _ => none
 | o :: l, 0 => some ([], o, l)
 | x :: l, j + 1 => match cutO l j with
  | some (a, o, b) => some (x :: a, o, b)
  | none => none
theorem cutO_spec : ∀ {l : List Oper} {j : Nat} {a b : List Oper} {o : Oper}, cutO l j = some (a, o, b) → l = a ++ o :: b
 | [], _, a, b, o, h => by simp only [cutO] at h; cases h
 | x :: l, 0, a, b, o, h => by
  simp only [cutO, Option.some.injEq, Prod.mk.injEq] at h
  obtain ⟨rfl, rfl, rfl⟩ := h; rfl
 | x :: l, j + 1, a, b, o, h => by
  simp only [cutO] at h
  cases h' : cutO l j with
  | none => rw [h'] at h; cases h
  | some q =>
   obtain ⟨a', o', b'⟩ := q
   rw [h'] at h
   simp only [Option.some.injEq, Prod.mk.injEq] at h
   obtain ⟨rfl, rfl, rfl⟩ := h
   rw [cutO_spec h']; rfl
section
variable {c : C4} {Q : Exit → Act → World → Prop}
theorem OXC {b : TB} (hB : TBOk c.P b) (σ : List Nat) {k : FuncId} {cargs : List SV} {cH cH' : SH} {m m' : Nat} {v : Value} (con : ConX c.P k cargs cH m v cH' m') {cs : List Prop} (hc : allP cs)
  {d : Option Nat} {op : Op} {T : TypeId} {pos : String} {af : Array Edge} {g : Option (Nat × Bool)} {L : SL} {H H2 : SH} {n n2 : Nat}
  (h : cxO b L H n op σ k cargs cH m cH' m' = some (cs, H2, n2)) : OX c ⟨d, op, T, pos, af, g⟩ ⟨L, H, n⟩ (.panic [{ v := v, recovered := false }]) H2 n2 := by
 unfold cxO at h
 split at h
 ·rename_i f args ats; split at h
  ·rename_i k' fi ca vs bs H1 hf ha hO
   cases hb : Nat.beq k' k && hasN b.e.cal k && (ltAll n σ && Nat.beq σ.length m && Nat.ble m m' && allOwn cH') with
   | false => rw [hb] at h; cases h
   | true =>
    rw [hb, cond_true] at h; cases h
    simp only [Bool.and_eq_true] at hb
    obtain ⟨⟨b1, b2⟩, b3⟩ := hb
    have := Nat.eq_of_beq_eq_true b1; subst this
    obtain ⟨c1, c2⟩ := allP_cons hc
    obtain ⟨c2, c3⟩ := allP_cons c2
    have c3 : rdsOf σ H1 cH = some (rdsW cH) := c3
    exact OX.call σ con (hB.e.cal.mem _ (hasN_mem b2)) hf ha c1 (by rw [hO, c2]) c3 (by simp only [Bool.and_eq_true]; exact b3)
  ·cases h
 ·cases h
theorem DC_ {b : TB} (hB : TBOk c.P b) (hmx : c.P.follows .mixedOrders = true) (j : Nat) (ts : List (List Nat × List Nat)) (es : List (Ev c)) {cs : List Prop} (hc : allP cs) (σ : List Nat) {k : FuncId} {cargs : List SV} {cH cH' : SH} {m m' : Nat} {v : Value}
  (con : ConX c.P k cargs cH m v cH' m') {cs2 : List Prop} (hc2 : allP cs2) (kp : List Nat) {id : Nat} {ops : Array Oper} {K : List Fr} {L : SL} {H H2 : SH} {n n2 : Nat} {s' : St}
  {l1 l2 : List Oper} {d : Option Nat} {op : Op} {T : TypeId} {pos : String} {af : Array Edge} (g : G4 c Q (.exit (.panic [{ v := v, recovered := false }]) []) ⟨s'.L, H2, n2⟩)
  (hl : cutO ops.toList j = some (l1, ⟨d, op, T, pos, af, none⟩, l2) := by rfl)
  (hup : upB l1 l1.length (fun t => bindsOn ⟨d, op, T, pos, af, none⟩ t) = true := by rfl) (hdn : l2.all (dnB l1.length) = true := by rfl) (hgd : l1.all (fun x => gdB x l1.length) = true := by rfl) (hback : backB (l1 ++ ⟨d, op, T, pos, af, none⟩ :: l2) 0 = true := by rfl)
  (h : drawR b kp c.n l1 L H n ts es = some (cs, s') := by rfl) (hon : notDefer op = true := by rfl) (hx : cxO b s'.L s'.H s'.n op σ k cargs cH m cH' m' = some (cs2, H2, n2) := by rfl) : G4 c Q (.code (.region id ops true) K) ⟨L, H, n⟩ :=
 DRX hB hmx kp ts es hc (cutO_spec hl) hup hdn hgd hback h rfl hon (OXC hB σ con hc2 hx) g
end
section
variable {c : C4} {α : Type} [Inhabited α] {D : Od α} {A : TypeId}
theorem Imp.closeS (t u : Nat) {xs : List α} {i : Int} {r : List D.β} {m : Nat} {kk : NK} {L : SL} {H : SH} {n : Nat} (hl : lookH H t = some (.ex (pH D A xs i (gt xs i)) [.sl u])) (hu : lookH H u = some (@Blk.row _ D.ib D.N D.e r m kk))
  (hl2 : lookH (delH H u) t = some (.ex (pH D A xs i (gt xs i)) [.sl u])) (hr : r = D.g (gt xs i)) : Imp c ⟨L, H, n⟩ ⟨L, repH (delH H u) t t (.ex (pO D A xs) []), n⟩ := by
 intro ρ F a w hs
 have hi : inb i xs.length = true := by
  obtain ⟨FA, f, FB, _, ⟨l, vs, q1, q2, sls, H0, rs1, rs2, s, q3, q4, _⟩, _, _⟩ := hs.ok.reps.look hl
  exact q4
 have h := Imp.closeO (c := c) (n := n) (L := L) t u hl hu hl2
 subst hr
 have e : xs.set i.toNat (D.put (gt xs i) (D.g (gt xs i))) = xs := by rw [D.self]; exact set_self_of (gt_some hi)
 rw [e] at h
 exact h ρ F a w hs
end
end Go.HW
namespace Go.HW
open Go Go.RowKit
set_option linter.unusedVariables false
section
variable {c : C4}
theorem Imp.rowL (t : Nat) {α : Type} [i : Inhabited α] {N : Et α} {e A : TypeId} {xs : List (List α)} {m : Nat} {L : SL} {H : SH} {n : Nat} (hl : lookH H t = some (@Blk.rowL α i N e A xs m)) : Imp c ⟨L, H, n⟩ ⟨L, repH H t t (@Blk.rowL α i N e A xs xs.length), n⟩ := by
 intro ρ F a w hs
 obtain ⟨FA, f, FB, rfl, ⟨sp, cap, h1, h2, h3⟩, hr, _⟩ := hs.ok.reps.look hl
 subst h2
 exact ⟨ρ, FA ++ f :: FB, ⟨⟨hs.ok.dens, hr ρ t _ f (Env.le_refl _) ⟨sp, cap, h1, rfl, h3⟩, hs.ok.fr, hs.ok.pin, hs.ok.mle⟩, hs.sat⟩⟩
end
def IterOkP {σ α : Type} (c : Cx) (L : Slots) (k : FuncId) (fi ca : List Value) (Sc : List Blocks) (Φ : List Blocks → Prop) (I : σ → Hp → Prop) (enc : α → List Value) (step : σ × Nat → α → Option (σ × Nat)) (s0 s1 : σ × Nat) : Prop :=
 ∀ (w : World) (yv : Value) (J : σ × Nat → Blocks → Prop) (Hs0 : Blocks), JDec I J → ExtB c.w0 c.R0 w ((⟨[], Sc ++ [Hs0]⟩ : Hp).all.map (·.1)) → HpOk w ⟨[], Sc ++ [Hs0]⟩ →
  Yld c.P w ((⟨[], Sc ++ [Hs0]⟩ : Hp).all.map (·.1)) yv J enc step goR → J s0 Hs0 →
  Ret c.P k (fi ++ ([yv] ++ ca)) w ⟨[], Sc ++ [Hs0]⟩ fun v R' => ∃ Hs1 Sc1, J s1 Hs1 ∧ Φ Sc1 ∧ R' = ⟨[], Sc1 ++ [Hs1]⟩
theorem range_coreP {σ α : Type} {c : Cx} {L : Slots} {Q : Exit → Act → World → Prop} {g : Operand} {k : FuncId} {fi ca : List Value} {ps : List Nat} {assign body : Code} {E1 : Blocks} {S1 Sc : List Blocks} {Φ : List Blocks → Prop} {Ed : Nat → Blocks} {I : σ → Hp → Prop}
  {enc : α → List Value} {stepB : σ → α → Option (σ × Nat)} {s0 s1 : σ} {m1 : Nat} {mk : Nat → List Deferred} {a : Act} {w : World}
  (hk : ∀ (args : Array Value) (w : World), (callFunc k args).run c.P w = .ok (.enter k args) w)
  (hg : ev L g = some (.func (.func k) fi.toArray ca.toArray)) (hps : ∀ p ∈ ps, p < c.n) (henc : ∀ x, (enc x).length = ps.length)
  (hi : IterOkP c L k fi ca Sc Φ I enc (stepR stepB) (s0, 0) (s1, m1)) (hI : I s0 ⟨E1, S1⟩) (hr : Rounds c L ps assign body Ed I enc stepB)
  (he : ∀ fn, ∃ l r w1 lr, (Instr.enterLoop fn a.tmps ps.toArray assign body c.ro).run c.P w = .ok (l, mk r) w1 ∧ LoopAt lr a.tmps ps.toArray assign body 0 r ∧
   Sat c L ((⟨[], Sc⟩ : Hp).add ⟨(l, .loop lr) :: (Ed r ++ E1), S1⟩) a w1)
  (hq : ∀ l r lr a' w' H1 Sc1, I s1 H1 → Φ Sc1 → a'.tmps = a.tmps → a'.defers = mk r ++ a.defers → Sat c L ((⟨[], Sc1⟩ : Hp).add ⟨(l, .loop lr) :: (Ed r ++ H1.E), H1.S⟩) a w' → Q (exitOf m1) a' w') :
  (Code.rangeFunc g ps.toArray assign body).wpIn (FW c.ro) 1 c.P Q a w := by
 refine wpIn_rangeFunc fun fn _ => ?_
 obtain ⟨l, r, w1, lr, hent, hat, s⟩ := he fn
 have hgv : a.eval g = .func (.func k) fi.toArray ca.toArray := s.eval hg
 refine ⟨l, mk r, w1, { target := .fn (.func k) ca.toArray, args := fi.toArray ++ #[Value.func (.yield l) #[] #[]] }, w1, k, (fi ++ ([Value.func (.yield l) #[] #[]] ++ ca)).toArray, w1, hent, ?_, fun _ _ => trivial, ?_, by simp [FW], ?_⟩
 ·simp only [resolve, hgv]
  simp [Deferred.ofValue, Act.eval]
 ·simp [invoke, hk]
 ·have hp : ((⟨[], Sc ++ [(⟨(l, .loop lr) :: (Ed r ++ E1), S1⟩ : Hp).all]⟩ : Hp).add Hp.nil).all.Perm ((⟨[], Sc⟩ : Hp).add ⟨(l, .loop lr) :: (Ed r ++ E1), S1⟩).all := by
   refine (Hp.add_perm _ _).trans (List.Perm.trans ?_ (Hp.add_perm _ _).symm)
   simp [Hp.all]
  have sp := s.perm hp
  have hall : ∀ X : Hp, (X.add Hp.nil).all = X.all := fun X => by simp [Hp.add, Hp.all]
  have hok : HpOk w1 ⟨[], Sc ++ [(⟨(l, .loop lr) :: (Ed r ++ E1), S1⟩ : Hp).all]⟩ := ⟨fun p hp => sp.heap p (by rw [hall]; exact hp), by have := sp.nodup; rwa [hall] at this⟩
  have hx := sp.extB
  have hJ : JO a.tmps ps.toArray assign body l r (Ed r) I (s0, 0) (⟨(l, .loop lr) :: (Ed r ++ E1), S1⟩ : Hp).all := ⟨⟨E1, S1⟩, lr, hI, hat, rfl⟩
  have hy := yld_of (a := a) (L := L) (l := l) (r := r) (lr := lr) (Ed := Ed) (I := I) s hx hps henc hr
  have hcall := hi w1 (.func (.yield l) #[] #[]) (JO a.tmps ps.toArray assign body l r (Ed r) I) _ JO.dec hx hok hy hJ
  refine callsIn_FW (Calls.mono hcall ?_)
  rintro e w2 ⟨v, R', rfl, heff, Hs1, Sc1, ⟨H1, lr1, hI1, hat1, rfl⟩, hΦ, rfl⟩
  have s2 := (sp.eff heff).perm (H' := (⟨[], Sc1⟩ : Hp).add ⟨(l, .loop lr1) :: (Ed r ++ H1.E), H1.S⟩) (by
   refine (Hp.add_perm _ _).trans (List.Perm.trans ?_ (Hp.add_perm _ _).symm)
   simp [Hp.all])
  have hb : w2.heap[l]? = some (.loop lr1) := s2.heap (l, .loop lr1) ((Hp.add_perm _ _).mem_iff.2 (by simp [Hp.all]))
  have hnb : lr1.state ≠ .busy := by rw [hat1.state, stOf]; split <;> simp
  have s3 : Sat c L ((⟨[], Sc1⟩ : Hp).add ⟨(l, .loop { lr1 with state := .exhausted }) :: (Ed r ++ H1.E), H1.S⟩) a (World.withBlock w2 l (.loop { lr1 with state := .exhausted })) := by
   refine s2.setBlockG (o := .loop lr1) (A := []) (B := (Ed r ++ H1.E) ++ (Sc1 ++ H1.S).flatten) ?_ ?_ <;> simp [Hp.all, Hp.add]
  have hfin := hq l r _ { a with defers := mk r ++ a.defers } _ H1 Sc1 hI1 hΦ rfl rfl s3
  refine ⟨lr1.pending, _, endLoop_run hb hnb, ?_⟩
  generalize World.withBlock w2 l (.loop { lr1 with state := .exhausted }) = w3 at hfin ⊢
  rw [hat1.pending]
  rcases m1 with _ | _ | m1
  ·exact hfin
  ·exact wpIn_ret hfin
  ·exact wpIn_exit hfin
theorem TC.rangeOP {σ α : Type} {P : Program} {w0 : World} {R0 : List Nat} {n : Nat} {ds : List Deferred} {L : Slots} {Q : Exit → Act → World → Prop} {g : Operand} {k : FuncId} {fi ca : List Value} (ps : List Nat) {assign body : Code} {Sc S1 : List Blocks} {Φ : List Blocks → Prop}
  (I : σ → Hp → Prop) (enc : α → List Value) (stepB : σ → α → Option (σ × Nat)) (s0 s1 : σ) (m1 : Nat)
  (hk : ∀ (args : Array Value) (w : World), (callFunc k args).run P w = .ok (.enter k args) w)
  (hg : ev L g = some (.func (.func k) fi.toArray ca.toArray)) (hps : ps.all (fun p => Nat.blt p n) = true) (henc : ∀ x, (enc x).length = ps.length)
  (hI : I s0 ⟨[], S1⟩)
  (hi : IterOkP ⟨P, none, w0, R0, n, ds⟩ L k fi ca Sc Φ I enc (stepR stepB) (s0, 0) (s1, m1))
  (hr : Rounds ⟨P, none, w0, R0, n, ds⟩ L ps assign body (fun r => [(r, .deferred (some []))]) I enc stepB)
  (hq : ∀ r H1 Sc1, I s1 H1 → Φ Sc1 → TE Q (exitOf m1) ⟨P, none, w0, R0, n, { target := .collected r, args := #[] } :: ds⟩ L ⟨(r, .deferred (some [])) :: H1.E, Sc1 ++ H1.S⟩) :
  TC ⟨P, none, w0, R0, n, ds⟩ (.rangeFunc g ps.toArray assign body) Q L ⟨[], Sc ++ S1⟩ := by
 intro a w s
 refine range_coreP (Ed := fun r => [(r, .deferred (some []))]) (mk := fun r => [{ target := .collected r, args := #[] }]) hk hg (fun p hp => by simpa [Nat.blt_eq] using List.all_eq_true.1 hps p hp) henc hi hI hr ?_ ?_
 ·intro fn
  have s1 := (s.alloc (.deferred (some []))).alloc (.loop { state := .ready, pending := none, fn, tmps := a.tmps, params := ps.toArray, assign, body, defers := w.heap.size })
  have e : ({ w with heap := w.heap.push (.deferred (some [])) } : World).heap.size = w.heap.size + 1 := by simp
  rw [e] at s1
  refine ⟨_, w.heap.size, _, { state := .ready, pending := none, fn, tmps := a.tmps, params := ps.toArray, assign, body, defers := w.heap.size }, enterLoop_run0, ⟨rfl, rfl, rfl, rfl, rfl, rfl, rfl⟩, ?_⟩
  exact s1.perm (by simp [Hp.all, Hp.add])
 ·intro l r lr a' w' H1 Sc1 hI1 hΦ ht hd s'
  refine hq r H1 Sc1 hI1 hΦ a' w' (Sat.act ht (by rw [hd, s'.defers]; rfl) (s'.weak (fun _ _ h => h) ?_))
  simp only [Hp.all, Hp.add, List.nil_append, List.cons_append]
  exact List.sublist_cons_self _ _
section
variable {P : Program} {w0 : World} {R0 : List Nat} {N : Nat} {ds : List Deferred} {ρ0 : Env} {m : Nat}
theorem ltL_dens {ρ ρ' : Env} {np : Nat} (h1 : ∀ t, t < np → ρ' t = ρ t) : ∀ {L : SL}, ltL np L = true → DensL ρ L → DensL ρ' L ∧ realL ρ' L = realL ρ L
 | [], _, _ => ⟨trivial, rfl⟩
 | (t, y) :: L, hl, ⟨⟨v, hv⟩, hd⟩ => by
  simp only [ltL, Bool.and_eq_true] at hl
  have hh := SV.lt_den (fun u hu => (h1 u hu).symm) hl.1
  obtain ⟨j1, j2⟩ := ltL_dens h1 hl.2 hd
  exact ⟨⟨⟨v, by rw [hh]; exact hv⟩, j1⟩, by simp only [realL, hh, j2]⟩
theorem sel_old {ρ ρ' : Env} {τ : List Nat} {np : Nat} (h1 : ∀ t, t < np → ρ' t = ρ t) (hτ : ltAll np τ = true) : ρ'.sel τ = ρ.sel τ := by
 funext t
 simp only [Env.sel]
 cases ht : tgO τ t with
 | none => rfl
 | some u => exact h1 u (ltAll_spec hτ u (by rw [tgO_eq] at ht; exact List.mem_of_getElem? ht))
theorem RFO {σ α : Type} {k : FuncId} {g : Operand} (ps : List Nat) {assign body : Code} {K : List Fr} {Q : Exit → Act → World → Prop} {L : SL} {n : Nat}
  (Y : Yn α) (HI : SH) (TS : σ → SH) (RD : SH) (np mI : Nat) (τ : List Nat) (cca : List SV) (T0 : TypeId) (l0 : List SV) (cI : SH) (stepB : σ → α → Option (σ × Nat)) (s0 s1 : σ) (m1 : Nat) {ca : List SV}
  (hk : ∀ (args : Array Value) (w : World), (callFunc k args).run P w = .ok (.enter k args) w)
  (hg : evS L g = some (.fn (.func k) [] ca)) (hca : ca = SV.rens τ cca) (hT0 : takesH τ HI ((0, .cells T0 l0) :: cI) = some (renBs τ ((0, .cells T0 l0) :: cI)))
  (hb : (Nat.ble m np && Nat.ble np n && ltAll np τ && Nat.beq τ.length mI && ltL np L && ltH np RD && allRd RD && ps.all (fun p => Nat.blt p N) && allOwn ((0, .cells T0 l0) :: cI) && Nat.blt 0 mI && ltH mI ((0, .cells T0 l0) :: cI)) = true)
  (hlen : ∀ l x, (Y.val l x).length = ps.length) (hYP : ∀ l, Y.P l) (hT : ∀ s, (ltH n (TS s) && allOwn (TS s)) = true)
  (hI : ∀ (yv : Value) (J : σ × Nat → Blocks → Prop), ConY P k (.v yv :: cca) ((0, .cells T0 l0) :: cI ++ [(mI, .bx (J (s0, 0)))]) (mI + 1) (.tu []) ((0, .cells T0 l0) :: cI ++ [(mI, .bx (J (s1, m1)))]) (mI + 1) (fun w R ρ => YldY P w R ρ 0 yv J Y (stepR stepB) goR))
  (hr : RoundsY P w0 R0 N ps assign body Y TS RD L np n ((τ.head?).getD 0) stepB)
  (hq : ∀ r, G4 ⟨⟨P, none, w0, R0, N, { target := .collected r, args := #[] } :: ds⟩, ρ0, m⟩ Q (.exit (exitOf m1) K) ⟨L, (n, .bx (fun f => f = [(r, .deferred (some []))])) :: nH τ (TS s1 ++ RD) ((0, .cells T0 l0) :: cI), n + 1⟩) :
  G4 ⟨⟨P, none, w0, R0, N, ds⟩, ρ0, m⟩ Q (.code (.rangeFunc g ps.toArray assign body) K) ⟨L, HI ++ (TS s0 ++ RD), n⟩ := by
 simp only [Bool.and_eq_true] at hb
 obtain ⟨⟨⟨⟨⟨⟨⟨⟨⟨⟨b1, b2⟩, bτ⟩, bm⟩, b5⟩, b6⟩, b7⟩, b8⟩, b9⟩, b10⟩, b11⟩ := hb
 have b1 := Nat.le_of_ble_eq_true b1
 have b2 := Nat.le_of_ble_eq_true b2
 have bm := Nat.eq_of_beq_eq_true bm
 have b10 : 0 < mI := by simpa [Nat.blt_eq] using b10
 have hT1 := fun s => (Bool.and_eq_true _ _ ▸ hT s).1
 have hT2 := fun s => (Bool.and_eq_true _ _ ▸ hT s).2
 generalize hcI : ((0, .cells T0 l0) :: cI : SH) = cH at *
 intro ρ F a w hs
 obtain ⟨FI, F1, rfl, r0, hR1⟩ := Reps.append.1 hs.ok.reps
 obtain ⟨FT, FR, rfl, r1, r2⟩ := Reps.append.1 hR1
 have hFR := Reps.rdNil b7 r2
 obtain ⟨Fc, G, k1, k2⟩ := takesH_ren r0 hT0
 obtain ⟨vg, g1, g2⟩ := evS_ok hs.ok.dens hg
 rw [SV.den, dens_nil] at g1
 simp only [Option.bind_some] at g1
 obtain ⟨cav, g3, g4⟩ := Option.map_eq_some_iff.1 g1
 subst g4
 have hcav : SV.dens (ρ.sel τ) cca = some cav := dens_ren (by rw [← hca]; exact g3)
 obtain ⟨ll0, hll0⟩ : ∃ l, ρ.sel τ 0 = some l := by
  rw [← hcI] at k1
  obtain ⟨f, F', _, ⟨b, vs, h1, _, _⟩, _⟩ := k1
  cases hx : ρ.sel τ 0 with
  | none => rw [hx] at h1; cases h1
  | some l => exact ⟨l, rfl⟩
 have htr : ρ ((τ.head?).getD 0) = some ll0 := by
  cases τ with
  | nil => simp at bm; omega
  | cons u τ => exact hll0
 have htrlt : (τ.head?).getD 0 < np := by
  cases τ with
  | nil => simp at bm; omega
  | cons u τ => exact ltAll_spec bτ u (by simp)
 have s2 : Sat ⟨P, none, w0, R0, N, ds⟩ (realL ρ L) ⟨[], Fc ++ FT⟩ a w := by
  refine (hs.sat.perm (H' := ⟨[], (Fc ++ G) ++ (FT ++ FR)⟩) ?_).weak (fun _ _ h => h) ?_
  ·simp only [Hp.all, List.nil_append, List.flatten_append]
   have := k2.flatten
   simp only [List.flatten_append] at this
   exact this.append_right _
  ·simp only [Hp.all, List.nil_append, List.flatten_append, hFR, List.append_nil]
   exact List.Sublist.append (List.sublist_append_left _ _) (List.Sublist.refl _)
 refine TC.rangeOP (fi := []) (ca := cav) (Φ := fun Sc => Reps (cB P w0 []) (ρ.sel τ) cH Sc) ps
  (fun s H' => ∃ ρ' F', (∀ t, t < np → ρ' t = ρ t) ∧ (∀ t, n ≤ t → ρ' t = none) ∧ Reps (⟨P, none, w0, R0, N, ds⟩ : Cx) ρ' (TS s) F' ∧ H' = ⟨[], F'⟩)
  (Y.val ll0) stepB s0 s1 m1 hk g2 b8 (hlen _) ⟨ρ, FT, fun _ _ => rfl, hs.ok.fr, r1, rfl⟩ ?_ ?_ ?_ a w s2
 ·-- the iterator
  intro w1 yv J Hs0 hdec hx hok hy hJ
  let ρc : Env := fun t => if t < mI then ρ.sel τ t else if t = mI then some ⟨none, 0, 0⟩ else none
  have c1 : ∀ t, t < mI → ρc t = ρ.sel τ t := fun t ht => by simp only [ρc, ht, if_true]
  have c2 : ρc mI = some ⟨none, 0, 0⟩ := by simp [ρc]
  have c3 : Env.le (ρ.sel τ) ρc := fun t l e => by
   rcases Nat.lt_or_ge t mI with ht | ht
   ·rw [c1 t ht]; exact e
   ·simp [Env.sel, tgO_none (σ := τ) (t := t) (by omega)] at e
  have hall : (⟨[], Fc ++ [Hs0]⟩ : Hp).all = (Fc ++ [Hs0]).flatten := by simp [Hp.all]
  have hret := hI yv J w1 ρc (Fc ++ [Hs0]) (yv :: cav) (dens_cons_some.2 ⟨[yv], cav, by simp [SV.deni, SV.den], dens_mono c3 hcav, rfl⟩)
   (Reps.append.2 ⟨Fc, [Hs0], rfl, Reps.ownTr (n := mI) (c := (⟨P, none, w0, R0, N, ds⟩ : Cx)) c1 b9 b11 k1, Hs0, [], rfl, ⟨⟨_, c2⟩, hJ⟩, rfl⟩)
   (fun t ht => by simp only [ρc]; rw [if_neg (by omega), if_neg (by omega)]) (by rw [← hall]; exact hok.1) (by rw [← hall]; exact hok.2) (by rw [← hall]; exact ⟨ll0, by rw [c1 0 b10]; exact hll0, hYP _, hy⟩)
  refine Ret.mono hret ?_
  rintro v R' ⟨cc, ρ', F', rfl, hgr, _, hR'⟩
  obtain ⟨FA, FB, rfl, p1, f3, F3, rfl, ⟨_, hJ1⟩, hnil⟩ := Reps.append.1 hR'
  have hnil : F3 = [] := hnil
  subst hnil
  exact ⟨f3, FA, hJ1, Reps.ownTr (n := mI) (fun t ht => by rw [hgr.old t (by omega), c1 t ht]) b9 b11 p1, rfl⟩
 ·-- the rounds
  rintro l r lr w' R s x s' mm _ Rr hrdy hst ⟨ρ', F', h1, h2, h3, rfl⟩ hx hcont a2 w2 sat2
  obtain ⟨hL1, hL2⟩ := ltL_dens h1 b5 hs.ok.dens
  have hle : Env.le ρ' (ρ'.set n ⟨none, 0, 0⟩) := (Env.set_grow h2).toLe h2
  obtain ⟨i1, i2⟩ := argPS_ok (ps := ps) (L := L) (Y.ok (ρ'.set n ⟨none, 0, 0⟩) ((τ.head?).getD 0) ll0 x (hle _ _ (by rw [h1 _ htrlt]; exact htr)) (hYP _)) (hL1.mono hle)
  rw [realL_mono hle hL1, hL2] at i2
  have hx2 : ExtB w0 R0 w' R := hx
  refine hr l w' R ρ (fun f => f = [(l, .loop lr), (r, .deferred (some []))]) (fun f => f = [(l, .loop { lr with state := .busy }), (r, .deferred (some []))]) (RndQ P l body Rr) (roundPost P l Rr) s x s' mm hst ?_ ?_
   (ρ'.set n ⟨none, 0, 0⟩) ([(l, .loop lr), (r, .deferred (some []))] :: (F' ++ FR)) a2 w2 ⟨⟨i1, ⟨_, _, rfl, ⟨⟨_, Env.set_self⟩, rfl⟩, Reps.append.2 ⟨F', FR, rfl, ?_, ?_⟩⟩, ?_, ?_, ?_⟩, ?_⟩
  ·intro L' H' n' hlk hbody ρ3 F3 a3 w3 s3
   obtain ⟨FA3, f, FB3, rfl, ⟨hloc, rfl⟩, hrep, _⟩ := s3.ok.reps.look hlk
   have hhp : w3.heap[l]? = some (.loop lr) := s3.sat.heap (l, .loop lr) (by simp [Hp.all])
   refine ⟨_, beginRound_run hhp hrdy, hbody ρ3 (FA3 ++ [(l, .loop { lr with state := .busy }), (r, .deferred (some []))] :: FB3) a3 _ ⟨⟨s3.ok.dens, hrep ρ3 n (.bx _) _ (Env.le_refl _) ⟨hloc, rfl⟩, s3.ok.fr, s3.ok.pin, s3.ok.mle⟩, ?_⟩⟩
   exact s3.sat.setBlockG (o := .loop lr) (A := FA3.flatten) (B := (r, .deferred (some [])) :: FB3.flatten) (by simp [Hp.all]) (by simp [Hp.all])
  ·intro st hi ρ3 F3 a3 w3 s3
   obtain ⟨ρ4, F4, s4⟩ := hi ρ3 F3 a3 w3 s3
   obtain ⟨fX, F5, rfl, ⟨_, rfl⟩, hR5⟩ := s4.ok.reps
   refine hcont [] ⟨[], F5⟩ ⟨fun t => if t < n then ρ4 t else none, F5, ?_, ?_, ?_, rfl⟩ a3 w3 ?_
   ·intro t ht
    have : t < n := by omega
    simp only [this, if_true]; exact s4.ok.pin t ht
   ·intro t ht
    simp only [show ¬ t < n from by omega, if_false]
   ·exact Reps.ownTr (n := n) (fun t ht => by simp [ht]) (hT2 s') (hT1 s') hR5
   ·refine ⟨s4.sat.size, s4.sat.defers, fun t v h => by simp [look] at h, s4.sat.ext, ?_, ?_, ?_⟩
    ·simpa [Hp.all] using s4.sat.nodup
    ·intro p hp; exact s4.sat.heap p (by simpa [Hp.all] using hp)
    ·intro p hp; exact s4.sat.own p (by simpa [Hp.all] using hp)
  ·exact Reps.ownTr (n := n) (fun t ht => by simp [Env.set, Nat.ne_of_lt ht]) (hT2 s) (hT1 s) h3
  ·exact Reps.rdTr (np := np) hx2 (fun t ht => by simp [Env.set, Nat.ne_of_lt (Nat.lt_of_lt_of_le ht b2), h1 t ht]) b7 b6 r2
  ·intro t ht; simp only at ht; simp only [Env.set, show t ≠ n from by omega, if_false]; exact h2 t (by omega)
  ·intro t ht; simp only at ht; simp only [Env.set, show t ≠ n from by omega, if_false]; exact h1 t ht
  ·show np ≤ n + 1; omega
  ·have : Sat ⟨P, some l, w', R, N, []⟩ (realL (ρ'.set n ⟨none, 0, 0⟩) (argPS ps (Y.sv ((τ.head?).getD 0) x) L)) ⟨[], [(l, .loop lr), (r, .deferred (some []))] :: (F' ++ FR)⟩ a2 w2 := by
    rw [i2]
    refine sat2.perm ?_
    simp only [Hp.all, List.nil_append, List.flatten_cons, List.flatten_append, hFR, List.append_nil, List.cons_append]
    exact List.Perm.refl _
   exact this
 ·-- behind it
  rintro r _ Sc1 ⟨ρ', F', h1, h2, h3, rfl⟩ hΦ a2 w2 sat2
  obtain ⟨hL1, hL2⟩ := ltL_dens h1 b5 hs.ok.dens
  have hle : Env.le ρ' (ρ'.set n ⟨none, 0, 0⟩) := (Env.set_grow h2).toLe h2
  have hsel : (ρ'.set n ⟨none, 0, 0⟩).sel τ = ρ.sel τ := sel_old (np := np) (fun t ht => by simp [Env.set, Nat.ne_of_lt (Nat.lt_of_lt_of_le ht b2), h1 t ht]) bτ
  refine hq r (ρ'.set n ⟨none, 0, 0⟩) ([(r, .deferred (some []))] :: (Sc1 ++ (F' ++ FR))) a2 w2 ⟨⟨hL1.mono hle, ⟨_, _, rfl, ⟨⟨_, Env.set_self⟩, rfl⟩, nH_reps (c' := cB P w0 []) (Reps.append.2 ⟨F', FR, rfl, Reps.cx (c := ⟨P, none, w0, R0, N, ds⟩) (c' := ⟨P, none, w0, R0, N, { target := .collected r, args := #[] } :: ds⟩) rfl rfl (h3.mono hle), ?_⟩) b9 (by rw [hsel]; exact hΦ)⟩, ?_, ?_, ?_⟩, ?_⟩
  ·exact Reps.rdTr (c := ⟨P, none, w0, R0, N, ds⟩) (np := np) (c' := ⟨P, none, w0, R0, N, { target := .collected r, args := #[] } :: ds⟩) ⟨Ext.refl _ _, fun k hk => .inl hk⟩ (fun t ht => by simp [Env.set, Nat.ne_of_lt (Nat.lt_of_lt_of_le ht b2), h1 t ht]) b7 b6 r2
  ·intro t ht; simp only at ht; simp only [Env.set, show t ≠ n from by omega, if_false]; exact h2 t (by omega)
  ·intro t ht; simp only at ht; simp only [Env.set, show t ≠ n from by omega, if_false]; rw [h1 t (by omega)]; exact hs.ok.pin t ht
  ·show m ≤ n + 1; omega
  ·have : Sat ⟨P, none, w0, R0, N, { target := .collected r, args := #[] } :: ds⟩ (realL (ρ'.set n ⟨none, 0, 0⟩) L) ⟨[], [(r, .deferred (some []))] :: (Sc1 ++ (F' ++ FR))⟩ a2 w2 := by
    rw [realL_mono hle hL1, hL2]
    refine sat2.perm ?_
    simp only [Hp.all, List.nil_append, List.flatten_cons, List.flatten_append, hFR, List.append_nil, List.cons_append]
    exact List.Perm.refl _
   exact this
end
def TLU (u : FrameMode) (fn : Func) (Rr : Ending → World → Prop) (ds : List Deferred) (c : Cx) (L : Slots) (H : Hp) : Prop :=
 ∀ a w, Sat c L H a w → LeavesInM (FW none) 1 c.P fn a.tmps Rr ds u w
theorem TLU.mark {u : FrameMode} (hu : u ≠ .run) {fn : Func} {Rr : Ending → World → Prop} {c : Cx} {L : Slots} {ds : List Deferred} {r i : Nat} {aa : Array Value} {E E' : Blocks} {S : List Blocks} (hi : getB E i = some (r, .deferred (some []))) (hs : setB E i (r, .deferred none) = some E')
  (h : TLU u fn Rr ds c L ⟨E', S⟩) : TLU u fn Rr ({ target := .collected r, args := aa } :: ds) c L ⟨E, S⟩ := fun a w s => by
 have hb := s.heap _ (getB_mem (H := ⟨E, S⟩) hi)
 have hlt := s.lt (getB_mem (H := ⟨E, S⟩) hi)
 refine ⟨by simpa using hu, .inl ⟨r, World.withBlock w r (.deferred none), rfl, ?_, h a _ (s.setBlock hi hs)⟩⟩
 simp [Instr.takeDeferred, getObj, setObj, Sem.run, hb, World.withBlock]
theorem TLU.marks {u : FrameMode} (hu : u ≠ .run) {fn : Func} {Rr : Ending → World → Prop} {c : Cx} {L : Slots} {S : List Blocks} : ∀ (ms : List (Nat × Nat)) (D : Blocks), TLU u fn Rr [] c L ⟨D ++ ms.map (fun p => (p.2, Obj.deferred none)), S⟩ →
  TLU u fn Rr (colls ms) c L ⟨D ++ ms.map (fun p => (p.2, Obj.deferred (some []))), S⟩
 | [], D, h => h
 | p :: ms, D, h => by
  refine TLU.mark hu (i := D.length) (E' := D ++ (p.2, .deferred none) :: ms.map (fun p => (p.2, Obj.deferred (some [])))) getB_app setB_app ?_
  have := TLU.marks hu (fn := fn) (Rr := Rr) (c := c) (L := L) (S := S) ms (D ++ [(p.2, .deferred none)]) (by simpa using h)
  simpa using this
section
variable {P : Program} {w0 : World} {F0 : List Blocks} {ρ0 : Env} {N m n' : Nat} {fn : Func} {r : SV} {H' : SH} {L : SL} {H : SH} {n : Nat} {rs : List ResultVar} {ys : List SV} {o : Out}
theorem TOM_ {t : Tab} (ht : TabOk P t) (ms : List (Nat × Nat)) {ds : List Deferred} (hrs : fn.results = rs.toArray) (σ : List Nat) (hms : marksIn ms H) (hds : ds = colls ms := by rfl) (ho : o = .ret r H' n' := by rfl) (hy : resS t L (delHs ms H) rs = some ys := by rfl) (hr : retS ys = r.ren σ := by rfl) (h2 : takesH σ (delHs ms H) H' = some (renBs σ H') := by rfl) (h3 : idB 0 m σ = true := by rfl) (h4 : σ.length = n' := by rfl) :
  G4 ⟨⟨P, none, w0, F0.flatten.map (·.1), N, ds⟩, ρ0, m⟩ (FinO P fn w0 F0 ρ0 m o) (.exit .ret []) ⟨L, H, n⟩ := by subst ho; exact RTM ht ms hds hms hrs σ hy hr h2 h3 h4
theorem TPM_ {v : Value} (ms : List (Nat × Nat)) {ds : List Deferred} (σ : List Nat) (hms : marksIn ms H) (hds : ds = colls ms := by rfl) (ho : o = .pan v H' n' := by rfl) (h2 : takesH σ (delHs ms H) H' = some (renBs σ H') := by rfl) (h3 : idB 0 m σ = true := by rfl) (h4 : σ.length = n' := by rfl) :
  G4 ⟨⟨P, none, w0, F0.flatten.map (·.1), N, ds⟩, ρ0, m⟩ (FinO P fn w0 F0 ρ0 m o) (.exit (.panic [{ v := v, recovered := false }]) []) ⟨L, H, n⟩ := by
 subst ho; subst hds
 intro ρ F a w s
 obtain ⟨F1, k1, k2⟩ := marks_split hms s.ok.reps
 obtain ⟨F', G, j1, j2⟩ := takesH_ren k1 h2
 have hg : Env.grow m n' ρ0 (ρ.sel σ) := ⟨fun t ht => by simp only [Env.sel, idB_spec h3 t ht, Nat.zero_add]; exact s.ok.pin t ht, fun t ht => by simp [Env.sel, tgO_none (σ := σ) (t := t) (by rw [h4]; exact ht)], by rw [← h4]; exact idB_len h3⟩
 show LeavesInM (FW none) 1 P fn a.tmps _ a.defers (.panicking _) w
 rw [s.sat.defers]
 have key : TLU (.panicking [{ v := v, recovered := false }]) fn (EndO w0 F0 ρ0 m (.pan v H' n')) [] ⟨P, none, w0, F0.flatten.map (·.1), N, colls ms⟩ (realL ρ L) ⟨[] ++ ms.map (fun p => (p.2, Obj.deferred none)), F' ++ G⟩ := by
  intro a2 w2 s2
  refine ⟨⟨[], F'⟩, rfl, ?_, _, ρ.sel σ, F', rfl, hg, j1⟩
  have hsub : (⟨[], F'⟩ : Hp).all.Sublist (⟨[] ++ ms.map (fun p => (p.2, Obj.deferred none)), F' ++ G⟩ : Hp).all := by
   simp only [Hp.all, List.nil_append, List.flatten_append]; exact (List.sublist_append_left _ _).trans (List.sublist_append_right _ _)
  have hx := s2.ext
  exact ⟨by simpa [Hp.all] using hx, (hsub.map _).nodup s2.nodup, fun p hp => s2.heap p (hsub.subset hp), fun p hp => by have := s2.own p (hsub.subset hp); simpa [Hp.all] using this⟩
 refine TLU.marks (by simp) ms [] key a w (s.sat.perm ?_)
 simp only [Hp.all, List.nil_append]
 exact (List.Perm.append_left _ j2.flatten).trans k2.symm
end
end Go.HW
namespace Go.HW
open Go Go.RowKit
set_option linter.unusedVariables false
def lmF {κ α : Type} [DecidableEq κ] [Inhabited α] (K : Kn κ) (V : Vn α) (xs : List (κ × α)) (m : TypeId) : EvF := fun _ L H n op => match op with
 | .call ⟨.builtin .len, args, ts⟩ => match args.toList, ts.toList with
  | [x], [m'] => match evS L x with
   | some (.mp t) => bif Nat.beq m' m then some ([lookH H t = some (.omap K V xs)], some (.v (.int .i64 (xs.length : Int))), H, n) else none
   | _ => none
  | _, _ => none
 | _ => none
theorem lmF_ok {c : C4} {κ α : Type} [DecidableEq κ] [Inhabited α] {K : Kn κ} {V : Vn α} {xs : List (κ × α)} {m kt et : TypeId} (hm : ∀ w, (underlying m).run c.P w = .ok (.map kt et) w) : EvOk c (lmF K V xs m) := by
 intro b L H n op cs r H' n' hB h hc dst T pos af g hdr hd
 unfold lmF at h
 split at h
 ·rename_i args ts; split at h
  ·rename_i x m' hargs hts; split at h
   ·rename_i t hx
    cases hb : Nat.beq m' m with
    | false => rw [hb] at h; cases h
    | true =>
     rw [hb, cond_true] at h; cases h
     have := Nat.eq_of_beq_eq_true hb; subst this
     have c1 : lookH H t = some (.omap K V xs) := hc
     have ea : args = #[x] := by cases args; simpa using hargs
     have et : ts = #[m'] := by cases ts; simpa using hts
     subst ea; subst et
     cases dst with
     | none => simp at hdr
     | some d =>
      refine ⟨rfl, OT.ofTX hd fun ρ F Fx o Lr hLr Q hk => ?_⟩
      obtain ⟨vx, e1, e2⟩ := evS_ok o.dens hx
      obtain ⟨FA, f, FB, rfl, ⟨q, r1, es, clock, rfl, r3, r4⟩, _, _⟩ := o.reps.look c1
      rw [SV.den, r1] at e1; cases e1
      have hes : es.size = xs.length := by have := congrArg List.length r3; simpa using this
      refine TX.val hd (v := .int .i64 (xs.length : Int)) (fun a w s => ?_) (hk ρ _ _ o.grow0 (by rw [Option.getD_some, SV.den]) o.reps)
      have hb : w.heap[q]? = some (.map es clock) := s.heap (q, .map es clock) (by simp [Hp.all])
      simp [execOp, resolve, invoke, builtin, Builtin.len_, hm, goInt, getObj, Sem.run, hb, hes, s.eval (ev_ext hLr e2)]
   ·cases h
  ·cases h
 ·cases h
def Ev.lm {c : C4} {κ α : Type} [DecidableEq κ] [Inhabited α] (K : Kn κ) (V : Vn α) (xs : List (κ × α)) {m kt et : TypeId} (hm : ∀ w, (underlying m).run c.P w = .ok (.map kt et) w) : Ev c := .ot (lmF K V xs m) (lmF_ok hm)
section
variable {c : C4} {Q : Exit → Act → World → Prop} {x : Code} {K : List Fr}
end
end Go.HW
namespace Go.HW
open Go Go.RowKit
set_option linter.unusedVariables false
def pRK {α : Type} [Inhabited α] (N : Et α) (e A : TypeId) (xss : List (List α)) (hl : List Sl) : Loc → List Value → Blocks → Prop := fun l vs f =>
 vs = [] ∧ l.len = xss.length ∧ (xss = [] → l.sp = none) ∧ ∃ H0 rs, OwnL En.sl A l.sp l.cap hl H0 ∧ InAll N.toEn e hl xss rs ∧ f = H0 ++ rs.flatten
section
variable {c : C4} {Q : Exit → Act → World → Prop} {α : Type} [i : Inhabited α] {N : Et α} {e A : TypeId} {xss : List (List α)} {m : Nat} {L : SL} {H : SH} {n : Nat}
theorem G4.openK (t : Nat) {p : Pos} (hl : lookH H t = some (@Blk.rowL α i N e A xss m)) (g : ∀ hh : List Sl, G4 c Q p.noG ⟨L, repH H t t (.ex (@pRK α i N e A xss hh) []), n⟩) : G4 c Q p ⟨L, H, n⟩ := by
 have key : ∀ ρ F a w, Sat4 c ρ F ⟨L, H, n⟩ a w → ∃ hh, Sat4 c ρ F ⟨L, repH H t t (.ex (@pRK α i N e A xss hh) []), n⟩ a w := by
  intro ρ F a w hs
  obtain ⟨FA, f, FB, rfl, ⟨sp, cap, q1, q2, h0, hh, H0, rs, h1, h2, rfl⟩, hrep, _⟩ := hs.ok.reps.look hl
  exact ⟨hh, ⟨hs.ok.dens, hrep ρ t _ _ (Env.le_refl _) ⟨_, [], q1, dens_nil, rfl, q2.symm, h0, H0, rs, h1, h2, rfl⟩, hs.ok.fr, hs.ok.pin, hs.ok.mle⟩, hs.sat⟩
 cases p with
 | ops o l K G => exact fun ρ F a w hs _ => by obtain ⟨hh, h⟩ := key ρ F a w hs; exact g hh ρ F a w h trivial
 | _ => exact fun ρ F a w hs => by obtain ⟨hh, h⟩ := key ρ F a w hs; exact g hh ρ F a w h
theorem Imp.shutK (t : Nat) {hh : List Sl} (hl : lookH H t = some (.ex (@pRK α i N e A xss hh) [])) : Imp c ⟨L, H, n⟩ ⟨L, repH H t t (@Blk.rowL α i N e A xss xss.length), n⟩ := by
 intro ρ F a w hs
 obtain ⟨FA, f, FB, rfl, ⟨l, vs, q1, q2, _, q3, h0, H0, rs, h1, h2, rfl⟩, hrep, _⟩ := hs.ok.reps.look hl
 obtain ⟨sp, cap, ln⟩ := l
 simp only at q3 h0 h1
 subst q3
 exact ⟨ρ, FA ++ (H0 ++ rs.flatten) :: FB, ⟨⟨hs.ok.dens, hrep ρ t _ _ (Env.le_refl _) ⟨sp, cap, q1, rfl, h0, hh, H0, rs, h1, h2, rfl⟩, hs.ok.fr, hs.ok.pin, hs.ok.mle⟩, hs.sat⟩⟩
end
def ikF {α : Type} [Inhabited α] (N : Et α) (e : TypeId) (xss : List (List α)) (hh : List Sl) : EvF := fun b L H n op => match op with
 | .indexAddr X x ix => match evS L x, evS L ix, lk b.t.und X with
  | some (.sl t), some (.v (.int _ i)), some (.slice A) => match lookH H t, lk b.t.siz A with
   | some (.ex p []), some sz => bif Nat.beq sz 1 then some ([p = pRK N e A xss hh, inb i xss.length = true], some (.e t i 1 0), H, n) else none
   | _, _ => none
  | _, _, _ => none
 | _ => none
theorem ikF_ok {c : C4} {α : Type} [Inhabited α] {N : Et α} {e : TypeId} {xss : List (List α)} {hh : List Sl} : EvOk c (ikF N e xss hh) := by
 intro b L H n op cs r H' n' hB h hc dst T pos af g hdr hd
 unfold ikF at h
 split at h
 ·rename_i X x ix; split at h
  ·rename_i t k i A hx hix hX; split at h
   ·rename_i p sz hl hs
    cases hb : Nat.beq sz 1 with
    | false => rw [hb] at h; cases h
    | true =>
     rw [hb, cond_true] at h; cases h
     have e1 := Nat.eq_of_beq_eq_true hb; subst e1
     obtain ⟨c1, c2⟩ := allP_cons hc
     have c2 : inb i xss.length = true := c2
     have c1 : p = pRK N e A xss hh := c1
     subst c1
     cases dst with
     | none => simp at hdr
     | some d =>
      refine ⟨rfl, OT.ofTX hd fun ρ F Fx o Lr hLr Q hk => ?_⟩
      obtain ⟨vx, x1, x2⟩ := evS_ok o.dens hx
      obtain ⟨vi, y1, y2⟩ := evS_ok o.dens hix
      rw [SV.den] at y1; cases y1
      obtain ⟨FA, f, FB, rfl, ⟨l, vs, q1, q2, _, q3, h0, hrest⟩, _, _⟩ := o.reps.look hl
      obtain ⟨sp, cap, ln⟩ := l
      simp only at q3 h0 hrest
      subst q3
      rw [SV.den, q1] at x1; cases x1
      have hFe : FA ++ f :: FB ++ Fx = FA ++ f :: (FB ++ Fx) := by simp
      have hk' := hk ρ (FA ++ f :: FB) (.pointer (some (eAddr sp (i.toNat * 1 + 0)))) o.grow0 (by rw [Option.getD_some, SV.den, q1]; simp only [Option.bind_some, c2, cond_true]) o.reps
      rw [hFe] at hk' ⊢
      exact TX.indexLL (N := N.toEn) (e := e) (xss := xss) (si := FA.length) (E := []) (hB.t.und.mem _ (lk_mem hX)) (hB.t.siz.mem _ (lk_mem hs)) (ev_ext hLr x2) rfl (ev_ext hLr y2) getS_app ⟨h0, hh, hrest⟩ c2 hd hk'
   ·cases h
  ·cases h
 ·cases h
def Ev.ik {c : C4} {α : Type} [Inhabited α] (N : Et α) (e : TypeId) (xss : List (List α)) (hh : List Sl) : Ev c := .ot (ikF N e xss hh) ikF_ok
def lkF {α : Type} [Inhabited α] (N : Et α) (e : TypeId) (xss : List (List α)) (hh : List Sl) : EvF := fun b L H n op => match op with
 | .load A x => match evS L x, lk b.t.agg A with
  | some (.e t i 1 0), some false => match lookH H t with
   | some (.ex p []) => some ([p = pRK N e A xss hh, inb i xss.length = true], some (.v (.slice (gt hh i).1 (gt hh i).2.1 (gt hh i).2.2)), H, n)
   | _ => none
  | _, _ => none
 | _ => none
theorem lkF_ok {c : C4} {α : Type} [Inhabited α] {N : Et α} {e : TypeId} {xss : List (List α)} {hh : List Sl} : EvOk c (lkF N e xss hh) := by
 intro b L H n op cs r H' n' hB h hc dst T pos af g hdr hd
 unfold lkF at h
 split at h
 ·rename_i A x; split at h
  ·rename_i t i hx hag; split at h
   ·rename_i p hl
    cases h
    obtain ⟨c1, c2⟩ := allP_cons hc
    have c2 : inb i xss.length = true := c2
    have c1 : p = pRK N e A xss hh := c1
    subst c1
    cases dst with
    | none => simp at hdr
    | some d =>
     refine ⟨rfl, OT.ofTX hd fun ρ F Fx o Lr hLr Q hk => ?_⟩
     obtain ⟨vx, x1, x2⟩ := evS_ok o.dens hx
     obtain ⟨FA, f, FB, rfl, ⟨l, vs, q1, q2, _, q3, h0, H0, rs, h1, h2, rfl⟩, _, _⟩ := o.reps.look hl
     obtain ⟨sp, cap, ln⟩ := l
     simp only at q3 h0 h1
     subst q3
     rw [SV.den, q1] at x1
     simp only [Option.bind_some] at x1
     rw [c2, cond_true] at x1; cases x1
     have hk1 : inb i hh.length = true := by rw [h2.len]; exact c2
     refine TX.loadR1 (N := En.sl) (xs := hh) (o := 0) (hB.t.agg.mem _ (lk_mem hag)) (ev_ext hLr x2) (fun a w s => h1.rdm s (fun p hp => ?_)) hk1 (by rfl) hd (hk ρ _ (.slice (gt hh i).1 (gt hh i).2.1 (gt hh i).2.2) o.grow0 (by rw [Option.getD_some, SV.den]) o.reps)
     simp only [Hp.all, List.nil_append, List.flatten_append, List.flatten_cons, List.mem_append, List.cons_append]
     exact .inl (.inr (.inl (.inl hp)))
   ·cases h
  ·cases h
 ·cases h
def Ev.lk {c : C4} {α : Type} [Inhabited α] (N : Et α) (e : TypeId) (xss : List (List α)) (hh : List Sl) : Ev c := .ot (lkF N e xss hh) lkF_ok
def bkF (t : Nat) (e A : TypeId) (xss : List (List Int)) (hh : List Sl) (i : Int) : EvF := fun b L H n op => match op with
 | .convert X Y x => match evS L x, lk b.t.und X, lk b.t.und Y with
  | some (.v v), some (.slice e'), some .string => match lk b.t.und e' with
   | some (.int .u8) => some ([v = .slice (gt hh i).1 (gt hh i).2.1 (gt hh i).2.2, lookH H t = some (.ex (pRK (Et.int .u8) e A xss hh) []), inb i xss.length = true], some (.v (.string (strOfNums (gt xss i)))), H, n)
   | _ => none
  | _, _, _ => none
 | _ => none
theorem bkF_ok {c : C4} {t e A : Nat} {xss : List (List Int)} {hh : List Sl} {i : Int} : EvOk c (bkF t e A xss hh i) := by
 intro b L H n op cs r H' n' hB h hc dst T pos af g hdr hd
 unfold bkF at h
 split at h
 ·rename_i X Y x; split at h
  ·rename_i v e' hx hX hY; split at h
   ·rename_i hE
    cases h
    obtain ⟨c1, c2⟩ := allP_cons hc
    obtain ⟨c2, c3⟩ := allP_cons c2
    have c3 : inb i xss.length = true := c3
    subst c1
    cases dst with
    | none => simp at hdr
    | some d =>
     refine ⟨rfl, OT.ofTX hd fun ρ F Fx o Lr hLr Q hk => ?_⟩
     obtain ⟨vx, x1, x2⟩ := evS_ok o.dens hx
     rw [SV.den] at x1; cases x1
     obtain ⟨FA, f, FB, rfl, ⟨l, vs, q1, q2, _, q3, h0, H0, rs, h1, h2, rfl⟩, _, _⟩ := o.reps.look c2
     obtain ⟨hb, g1, g2, row, g3, g4⟩ := h2.get (gt_some c3)
     have hk1 : inb i hh.length = true := by rw [h2.len]; exact c3
     have hq : gt hh i = hb := by have := gt_some hk1; rw [g1] at this; cases this; rfl
     refine TX.val hd (v := .string (strOfNums (gt xss i))) (fun a w s => ?_) (hk ρ _ _ o.grow0 (by rw [Option.getD_some, SV.den]) o.reps)
     have hrd : RdS (En.int .u8) w (gt hh i).1 (gt xss i) := by
      rw [hq]
      refine g3.rdm s fun p hp => ?_
      have := g4 p hp
      simp only [Hp.all, List.nil_append, List.flatten_append, List.flatten_cons, List.mem_append, List.cons_append]
      exact .inl (.inr (.inl (.inr this)))
     have hlen : (gt xss i).length = (gt hh i).2.1 := by rw [hq]; exact g2
     simp [execOp, s.eval (ev_ext hLr x2), b2s_run (hB.t.und.mem _ (lk_mem hX)) (hB.t.und.mem _ (lk_mem hE)) (hB.t.und.mem _ (lk_mem hY)) hlen hrd]
   ·cases h
  ·cases h
 ·cases h
def Ev.bk {c : C4} (t : Nat) (e A : TypeId) (xss : List (List Int)) (hh : List Sl) (i : Int) : Ev c := .ot (bkF t e A xss hh i) bkF_ok
end Go.HW
namespace Go.HW
open Go Go.RowKit
set_option linter.unusedVariables false
section
variable {c : C4} {Q : Exit → Act → World → Prop}
theorem NT_ {α : Type} [i0 : Inhabited α] {N : Et α} {xs : List α} {m : Nat} {x : Nat} {t d : Nat} {X A yT T : TypeId} {n' k' : Nat} {pos : String} {af : Array Edge} {ops : Array Oper} {l : List Oper} {K : List Fr} {L : SL} {H : SH} {n : Nat}
  (hu : ∀ w, (underlying X).run c.P w = .ok (.slice A) w)
  (h : ∀ b, (b = true → xs = []) → G4 c Q (.ops ops l K []) ⟨(d, .v (.bool b)) :: L, H, n⟩) (hx : lookV L x = some (.sl t) := by rfl) (hr : rowOf H t = some (@RowOf.mk _ i0 N xs m) := by rfl) (hd : Nat.blt d c.n = true := by rfl) :
  G4 c Q (.ops ops (⟨some d, .binOp .eql X (.tmp x) (.const (.slice none n' k')) yT, T, pos, af, none⟩ :: l) K []) ⟨L, H, n⟩ := by
 intro ρ F a w hs hk
 obtain ⟨vf, e1, e2⟩ := evS_ok hs.ok.dens (x := .tmp x) hx
 obtain ⟨sp, cap, r1, r2, r3, r4⟩ := rowOf_ok hs.ok hr
 rw [SV.den, r1] at e1; cases e1
 have hb : sp.isNone = true → xs = [] := fun hn => by
  rcases (r4 _ a w hs.sat).2 with h1 | ⟨ad, h1, _⟩
  ·exact h1
  ·rw [h1] at hn; cases hn
 have hT : TG c ops (QK c.ro c.P Q K) l ⟨(d, .v (.bool sp.isNone)) :: L, H, n⟩ [] := h sp.isNone hb
 unfold wpListIn
 rw [if_pos (by simp [Region.wanted])]
 have hq := QV.eqNilS (c := c) (H := ⟨[], F⟩) (d := d) (T := T) (pos := pos) (af := af) (g := none) (yT := yT) (b := sp.isNone) hu e2 (y := .const (.slice none n' k')) rfl rfl
 refine wpIn_of rfl ?_
 rw [hq a w hs.sat]
 exact hT ρ F _ w (hs.ok.put (dst := some d) (r := .v (.bool sp.isNone)) hs.ok.grow0 hd (by rw [SV.den]) hs.ok.reps hs.sat) trivial
end
end Go.HW
namespace Go.Proofs
open Go.Shelf
def Try.keysA_ren : Go.Shelf.Ren := ⟨fun | 10 => 43 | n => n, fun | 33 => 95 | 23 => 34 | 0 => 0 | 4 => 4 | 26 => 9 | 3 => 3 | n => n, fun | n => n⟩
theorem Try.keysA : Go.Proofs.SlLaysZ.n10 Try.prog Try.keysA_ren := {
 mixed := by kernel_rfl
 f10 := ⟨Try.f43.name, by decide, Try.func43.trans (congrArg some (by kernel_rfl))⟩
 t0 := Try.underlying0
 a0 := Try.isAgg0
 z0 := Try.sizeOf0
 v0 := Try.zeroValue0
 t4 := Try.underlying4
 a4 := Try.isAgg4
 z4 := Try.sizeOf4
 v4 := Try.zeroValue4
 t23 := Try.underlying34
 a23 := Try.isAgg34
 z23 := Try.sizeOf34
 v23 := Try.zeroValue34
 t26 := Try.underlying9
 a26 := Try.isAgg9
 z26 := Try.sizeOf9
 v26 := Try.zeroValue9
 t33 := Try.underlying95
 a33 := Try.isAgg95
 z33 := Try.sizeOf95
 v33 := Try.zeroValue95 }
def Try.sortedA_ren : Go.Shelf.Ren := ⟨fun | 6 => 28 | 8 => 41 | 9 => 42 | 11 => 46 | 13 => 48 | 12 => 47 | 23 => 58 | 24 => 59 | 14 => 49 | 15 => 50 | 16 => 51 | 17 => 52 | 18 => 53 | 19 => 54 | 20 => 55 | 21 => 56 | 22 => 57 | 25 => 60 | 26 => 61 | 27 => 62 | 28 => 63 | 29 => 64 | 30 => 65 | 31 => 66 | n => n, fun | 26 => 9 | 28 => 76 | 24 => 73 | 0 => 0 | 3 => 3 | 37 => 99 | 48 => 109 | 50 => 36 | 4 => 4 | 40 => 102 | 39 => 101 | 45 => 67 | 5 => 5 | 9 => 9 | 51 => 111 | 55 => 115 | 57 => 117 | 58 => 118 | 33 => 95 | n => n, fun | n => n⟩
theorem Try.sortedA : Go.Proofs.SlLaysZ.n6 Try.prog Try.sortedA_ren := {
 mixed := by kernel_rfl
 f6 := ⟨Try.f28.name, by decide, Try.func28.trans (congrArg some (by kernel_rfl))⟩
 f8 := ⟨Try.f41.name, by decide, Try.func41.trans (congrArg some (by kernel_rfl))⟩
 f11 := ⟨Try.f46.name, by decide, Try.func46.trans (congrArg some (by kernel_rfl))⟩
 t0 := Try.underlying0
 a0 := Try.isAgg0
 z0 := Try.sizeOf0
 v0 := Try.zeroValue0
 t24 := Try.underlying73
 a24 := Try.isAgg73
 z24 := Try.sizeOf73
 v24 := Try.zeroValue73
 t26 := Try.underlying9
 a26 := Try.isAgg9
 z26 := Try.sizeOf9
 v26 := Try.zeroValue9
 t28 := Try.underlying76
 a28 := Try.isAgg76
 z28 := Try.sizeOf76
 v28 := Try.zeroValue76
 i26 := by kernel_rfl }
def Try.sortA_ren : Go.Shelf.Ren := ⟨fun | 6 => 42 | 8 => 48 | 9 => 47 | 19 => 58 | 20 => 59 | 21 => 49 | 22 => 50 | 23 => 51 | 24 => 52 | 25 => 53 | 26 => 54 | 27 => 55 | 28 => 56 | 29 => 57 | 36 => 60 | 31 => 61 | 32 => 62 | 37 => 63 | 38 => 64 | 39 => 65 | 41 => 66 | n => n, fun | 27 => 73 | 29 => 9 | 3 => 3 | 32 => 99 | 26 => 73 | 0 => 0 | 44 => 109 | 46 => 36 | 4 => 4 | 36 => 102 | 35 => 101 | 41 => 67 | 5 => 5 | 9 => 9 | 53 => 111 | 57 => 115 | 63 => 117 | 64 => 118 | n => n, fun | n => n⟩
theorem Try.sortA : Go.Proofs.SlLaysM.n6 Try.prog Try.sortA_ren := {
 mixed := by kernel_rfl
 f6 := ⟨Try.f42.name, by decide, Try.func42.trans (congrArg some (by kernel_rfl))⟩
 f8 := Try.func48.trans (congrArg some (by kernel_rfl))
 f9 := ⟨Try.f47.name, by decide, Try.func47.trans (congrArg some (by kernel_rfl))⟩
 f19 := Try.func58.trans (congrArg some (by kernel_rfl))
 f20 := Try.func59.trans (congrArg some (by kernel_rfl))
 f21 := ⟨Try.f49.name, by decide, Try.func49.trans (congrArg some (by kernel_rfl))⟩
 f22 := ⟨Try.f50.name, by decide, Try.func50.trans (congrArg some (by kernel_rfl))⟩
 f23 := ⟨Try.f51.name, by decide, Try.func51.trans (congrArg some (by kernel_rfl))⟩
 f24 := ⟨Try.f52.name, by decide, Try.func52.trans (congrArg some (by kernel_rfl))⟩
 f25 := ⟨Try.f53.name, by decide, Try.func53.trans (congrArg some (by kernel_rfl))⟩
 f26 := ⟨Try.f54.name, by decide, Try.func54.trans (congrArg some (by kernel_rfl))⟩
 f27 := ⟨Try.f55.name, by decide, Try.func55.trans (congrArg some (by kernel_rfl))⟩
 f28 := ⟨Try.f56.name, by decide, Try.func56.trans (congrArg some (by kernel_rfl))⟩
 f29 := ⟨Try.f57.name, by decide, Try.func57.trans (congrArg some (by kernel_rfl))⟩
 f31 := Try.func61.trans (congrArg some (by kernel_rfl))
 f32 := Try.func62.trans (congrArg some (by kernel_rfl))
 f36 := ⟨Try.f60.name, by decide, Try.func60.trans (congrArg some (by kernel_rfl))⟩
 f37 := ⟨Try.f63.name, by decide, Try.func63.trans (congrArg some (by kernel_rfl))⟩
 f38 := ⟨Try.f64.name, by decide, Try.func64.trans (congrArg some (by kernel_rfl))⟩
 f39 := ⟨Try.f65.name, by decide, Try.func65.trans (congrArg some (by kernel_rfl))⟩
 f41 := ⟨Try.f66.name, by decide, Try.func66.trans (congrArg some (by kernel_rfl))⟩
 t0 := Try.underlying0
 a0 := Try.isAgg0
 z0 := Try.sizeOf0
 v0 := Try.zeroValue0
 t3 := Try.underlying3
 a3 := Try.isAgg3
 z3 := Try.sizeOf3
 v3 := Try.zeroValue3
 t4 := Try.underlying4
 a4 := Try.isAgg4
 z4 := Try.sizeOf4
 v4 := Try.zeroValue4
 t5 := Try.underlying5
 a5 := Try.isAgg5
 z5 := Try.sizeOf5
 v5 := Try.zeroValue5
 t9 := Try.underlying9
 a9 := Try.isAgg9
 z9 := Try.sizeOf9
 v9 := Try.zeroValue9
 t26 := Try.underlying73
 a26 := Try.isAgg73
 z26 := Try.sizeOf73
 v26 := Try.zeroValue73
 t27 := Try.underlying73
 a27 := Try.isAgg73
 z27 := Try.sizeOf73
 v27 := Try.zeroValue73
 t29 := Try.underlying9
 a29 := Try.isAgg9
 z29 := Try.sizeOf9
 v29 := Try.zeroValue9
 t32 := Try.underlying99
 a32 := Try.isAgg99
 z32 := Try.sizeOf99
 v32 := Try.zeroValue99
 t35 := Try.underlying101
 a35 := Try.isAgg101
 z35 := Try.sizeOf101
 v35 := Try.zeroValue101
 t36 := Try.underlying102
 a36 := Try.isAgg102
 z36 := Try.sizeOf102
 v36 := Try.zeroValue102
 t41 := Try.underlying67
 a41 := Try.isAgg67
 z41 := Try.sizeOf67
 v41 := Try.zeroValue67
 t44 := Try.underlying109
 a44 := Try.isAgg109
 z44 := Try.sizeOf109
 v44 := Try.zeroValue109
 t46 := Try.underlying36
 a46 := Try.isAgg36
 z46 := Try.sizeOf36
 v46 := Try.zeroValue36
 t53 := Try.underlying111
 a53 := Try.isAgg111
 z53 := Try.sizeOf111
 v53 := Try.zeroValue111
 t57 := Try.underlying115
 a57 := Try.isAgg115
 z57 := Try.sizeOf115
 v57 := Try.zeroValue115
 t63 := Try.underlying117
 a63 := Try.isAgg117
 z63 := Try.sizeOf117
 v63 := Try.zeroValue117
 t64 := Try.underlying118
 a64 := Try.isAgg118
 z64 := Try.sizeOf118
 v64 := Try.zeroValue118 }
end Go.Proofs
namespace Go.Proofs.Yteicbpfkljnemaa
open Go Go.HW Go.MapKept Go.RowKit Go.Maps Go.Sort Go.Shelf
set_option linter.unusedVariables false
theorem sortsA (m : Nat) : AnyZ.SortsIn Try.prog Try.sortedA_ren Fence.wide m :=
  ⟨fun blk off cap ss W hH hblk hsz => callsIn_wide.2 (AnyM.slices_Sort_string Try.sortA blk off cap ss W hH hblk hsz),
   fun p cap W => callsIn_wide.2 (AnyM.slices_Sort_string_none Try.sortA p cap W)⟩
theorem sortedSeq (bx : Nat) (w : World) (S : List (List UInt8) → Prop) (M : Nat) (hM : M ≤ maxLen) (hMb : M * 16 ≤ 140737488355328) (hseq : SeqGives Fence.wide 2 Try.prog 43 #[.pointer (some ⟨bx, 0, none⟩)] encStr S M w) :
  Calls Try.prog 28 #[.func (.func 43) #[] #[.pointer (some ⟨bx, 0, none⟩)]] w fun e w' => ∃ (v : Value) (ss : List (List UInt8)), e = .returned v ∧ S ss ∧
   w'.ownsRow w.heap.size 9 1 v ss.length ((ss.mergeSort (fun x y => decide (x ≤ y))).map encStr) ∧ (v = .slice none 0 0 ↔ ss = []) ∧ Below w.heap.size w w' := by
 refine (callsIn_wide (n := 5)).1 ?_
 exact AnyZ.sorted_in Try.sortedA Fence.wide 5 trivial trivial trivial trivial rfl (by omega) (sortsA _) (enters_of Try.func42 (by kernel_rfl) rfl) 43 #[.pointer (some ⟨bx, 0, none⟩)] trivial (enters_of Try.func43 (by kernel_rfl) rfl) S M hM hMb w hseq
theorem leB_trans (a b c : List UInt8) (h1 : leB a b = true) (h2 : leB b c = true) : leB a c = true := by simp only [leB, decide_eq_true_eq] at *; exact List.le_trans h1 h2
theorem leB_total (a b : List UInt8) : (leB a b || leB b a) = true := by simp only [leB, Bool.or_eq_true, decide_eq_true_eq]; exact List.le_total a b
theorem leB_anti (a b : List UInt8) (h1 : leB a b = true) (h2 : leB b a = true) : a = b := by simp only [leB, decide_eq_true_eq] at h1 h2; exact List.le_antisymm h1 h2
def insL (x : List UInt8) : List (List UInt8) → List (List UInt8)
 | [] => [x]
 | y :: l => bif decide (x ≤ y) then x :: y :: l else y :: insL x l
def sortL : List (List UInt8) → List (List UInt8)
 | [] => []
 | x :: l => insL x (sortL l)
theorem insL_perm (x : List UInt8) : ∀ l, (insL x l).Perm (x :: l)
 | [] => .refl _
 | y :: l => by
  simp only [insL]
  cases decide (x ≤ y) with
  | true => exact .refl _
  | false => exact ((insL_perm x l).cons y).trans (.swap x y l)
theorem sortL_perm : ∀ l, (sortL l).Perm l
 | [] => .refl _
 | x :: l => (insL_perm x _).trans ((sortL_perm l).cons x)
theorem insL_sorted (x : List UInt8) : ∀ l, l.Pairwise (fun a b => decide (a ≤ b) = true) → (insL x l).Pairwise (fun a b => decide (a ≤ b) = true)
 | [], _ => by simp [insL]
 | y :: l, h => by
  simp only [insL]
  have h1 := List.pairwise_cons.1 h
  cases hd : decide (x ≤ y) with
  | true =>
   refine List.pairwise_cons.2 ⟨fun a ha => ?_, h⟩
   rcases List.mem_cons.1 ha with rfl | ha
   ·exact hd
   ·exact leB_trans x y a hd (h1.1 a ha)
  | false =>
   refine List.pairwise_cons.2 ⟨fun a ha => ?_, insL_sorted x l h1.2⟩
   rcases List.mem_cons.1 ((insL_perm x l).subset ha) with rfl | ha
   ·have := leB_total a y
    rcases Bool.or_eq_true _ _ |>.mp this with h2 | h2
    ·exact absurd h2 (by rw [show leB a y = decide (a ≤ y) from rfl, hd]; decide)
    ·exact h2
   ·exact h1.1 a ha
theorem sortL_sorted : ∀ l, (sortL l).Pairwise (fun a b => decide (a ≤ b) = true)
 | [] => .nil
 | x :: l => insL_sorted x _ (sortL_sorted l)
theorem mergeSort_sortL (l : List (List UInt8)) : (l.mergeSort fun x y => decide (x ≤ y)) = sortL l :=
 List.Perm.eq_of_pairwise (le := fun a b => decide (a ≤ b) = true) (fun a b _ _ h1 h2 => leB_anti a b h1 h2)
  (List.pairwise_mergeSort (le := fun x y => decide (x ≤ y)) leB_trans leB_total l) (sortL_sorted l) ((List.mergeSort_perm l _).trans (sortL_perm l).symm)
def srt (l : List ByteArray) : List ByteArray := (sortL (l.map (·.data.toList))).map fun x => ⟨x.toArray⟩
def fn28 (p0 : List (ByteArray × Int)) : Option (List ByteArray) :=
 bif decide ((p0.length : Int) ≤ 8796093022208) && p0.all (fun p => decide (p.1.size ≤ 9223372036854775807)) then some (srt (p0.map (·.1))) else none
theorem encs_str : ∀ l : List ByteArray, l.flatMap En.str.enc = l.map .string := fun l => by
 induction l with
 | nil => rfl
 | cons x l ih => simp only [List.flatMap_cons, List.map_cons, ih]; rfl
theorem cRow (w w' : World) (v : Value) (ss : List (List UInt8)) (r : List ByteArray) (hr : (ss.mergeSort fun x y => decide (x ≤ y)).map (fun x => (⟨x.toArray⟩ : ByteArray)) = r)
  (hrow : w'.ownsRow w.heap.size 9 1 v ss.length ((ss.mergeSort (fun x y => decide (x ≤ y))).map encStr)) :
  ∃ sp n cap Hs, v = .slice sp n cap ∧ r.length = n ∧ OwnL En.str 9 sp cap r Hs ∧ (∀ p ∈ Hs, w'.heap[p.1]? = some p.2) ∧ (∀ p ∈ Hs, w.heap.size ≤ p.1) ∧ (Hs.map (·.1)).Nodup := by
 have hlr : r.length = ss.length := by rw [← hr]; simp
 have he : (ss.mergeSort (fun x y => decide (x ≤ y))).map encStr = r.map .string := by
  rw [← hr, List.map_map]; rfl
 rw [he] at hrow
 rcases hrow.2 with ⟨rfl, h0⟩ | ⟨g, cap, cur, rfl, hg, hgb, q1, q2, q3, q4⟩
 ·have hr0 : r = [] := List.eq_nil_of_length_eq_zero (by omega)
  exact ⟨none, 0, 0, [], rfl, by simp [hr0], .inl ⟨rfl, rfl, hr0, rfl⟩, by simp, by simp, by simp⟩
 ·refine ⟨some ⟨g, 0, none⟩, ss.length, cap, [(g, .cells cur 9 (0, 0))], rfl, hlr, .inr ⟨g, cur, rfl, ⟨(0, 0), nofz0, rfl⟩, by omega, q2, by simpa [En.str] using q3, ?_⟩, by simpa using hgb, by simpa using hg, by simp⟩
  have e2 : En.str.sz = 1 := rfl
  rw [e2, encs_str, hlr]; exact q4
theorem mapKeys {p0 : List (ByteArray × Int)} {r : List ByteArray} (h : fn28 p0 = some r) {w : World} {m : Nat} {Hs : Blocks} (ho : OwnM Kn.str (Value.int .i64) m p0 Hs) (hb0 : ∀ p ∈ Hs, w.heap[p.1]? = some p.2) :
  ∃ (nn : Nat) (D0 : DataW Unit) (R : Value → Option (DataW Unit × List MemPlace)), w.ownsMap Try.prog 9 R m nn D0 ∧ Maps.size D0 ≤ maxLen ∧ Maps.size D0 * 16 ≤ 140737488355328 ∧
   ∀ ss : List (List UInt8), ss.Perm (strKeys D0) → (ss.mergeSort fun x y => decide (x ≤ y)).map (fun x => (⟨x.toArray⟩ : ByteArray)) = r := by
 obtain ⟨hk, hr⟩ := ck h
 simp only [Bool.and_eq_true, decide_eq_true_eq, List.all_eq_true] at hk
 obtain ⟨hlen, hwf⟩ := hk
 obtain ⟨es, clock, rfl, h1, h2⟩ := ho
 have hb : w.heap[m]? = some (.map es clock) := hb0 (m, .map es clock) (by simp)
 have hu : Try.prog.underlying 9 = some .string := Try.underlying9
 have hes : es.size = p0.length := by have := congrArg List.length h1; simpa using this
 have hkey : ∀ x ∈ es.toList, ∃ p ∈ p0, x.key = .string p.1 := fun x hx => by
  have : (x.key, x.val) ∈ p0.map (fun p => (Kn.str.enc p.1, Value.int .i64 p.2)) := by rw [← h1]; exact List.mem_map.2 ⟨x, hx, rfl⟩
  obtain ⟨p, hp, he⟩ := List.mem_map.1 this
  exact ⟨p, hp, (congrArg Prod.fst he).symm⟩
 let R : Value → Option (DataW Unit × List MemPlace) := fun _ => some (.nil, [])
 have hmx : (8796093022208 : Nat) ≤ maxLen := by decide
 have hml : (9223372036854775807 : Nat) = maxLen := by decide
 have hkf : ∀ x : ByteArray, x.size ≤ maxLen → keyOf Try.prog 9 (.string x) = some (.string x.data.toList) := fun x hx => by
  simp [keyOf, hu, mapKey, hx]
 have F : Go.WideElems.Fit Try.prog 9 R es clock := ⟨by omega, h2, fun x hx => by
  obtain ⟨p, hp, he⟩ := hkey x hx
  exact ⟨(.string p.1.data.toList, .nil), by simp [Go.WideElems.rd, he, hkf p.1 (hml ▸ hwf p hp), R]⟩⟩
 have hown := World.ownsMap_of_fit hb F (R := R) (fun _ _ _ h => h)
 have hperm : (strKeys (H := Unit) (.map ((es.toList.map (Go.WideElems.rg Try.prog 9 R)).foldr DataW.insert []))).Perm (p0.map (·.1.data.toList)) := by
  have e1 : (es.toList.map (Go.WideElems.rg Try.prog 9 R)).map (fun p => Go.strOf p.1) = p0.map (·.1.data.toList) := by
   apply List.ext_getElem?
   intro i
   have h1i := congrArg (fun l => l[i]?) h1
   simp only [List.getElem?_map] at h1i ⊢
   cases hx : es.toList[i]? with
   | none => rw [hx] at h1i; cases hp : p0[i]? with
    | none => rfl
    | some p => rw [hp] at h1i; cases h1i
   | some x =>
    rw [hx] at h1i
    cases hp : p0[i]? with
    | none => rw [hp] at h1i; cases h1i
    | some p =>
     rw [hp] at h1i
     have hk1 : x.key = .string p.1 := congrArg Prod.fst (Option.some.inj h1i)
     simp [Go.WideElems.rg, Go.WideElems.rd, hk1, hkf p.1 (hml ▸ hwf p (List.mem_of_getElem? hp)), R, Go.strOf]
  rw [← e1]
  exact (Go.WideShapes.sorted_perm _).map _
 have hsz : Maps.size (H := Unit) (.map ((es.toList.map (Go.WideElems.rg Try.prog 9 R)).foldr DataW.insert [])) = p0.length := by
  have := hperm.length_eq
  simpa [strKeys, Maps.size] using this
 refine ⟨es.size, _, R, hown, by rw [hsz]; omega, by rw [hsz]; omega, fun ss hS => ?_⟩
 have := Option.some.inj hr
 rw [← this, srt, ← mergeSort_sortL, List.map_map]
 rw [show (fun x y : List UInt8 => decide (x ≤ y)) = leB from rfl, mergeSort_of_perm (hS.trans hperm)]
 rfl
theorem c28 (p0 : List (ByteArray × Int)) (r : List ByteArray) (h : fn28 p0 = some r) : Con Try.prog 28 [.fn (.func 43) [] [.p 0 0]] [(0, .cells 34 [.mp 1]), (1, .omap Kn.str (Vn.int .i64) p0)] 2 (.sl 2) [(2, .row Et.str 9 r r.length .unk), (0, .cells 34 [.mp 1]), (1, .omap Kn.str (Vn.int .i64) p0)] 3 := by
 intro w ρ F vs hv hR hf hh hn
 obtain ⟨f, F2, rfl, ⟨bx, us, b1, b2, rfl⟩, g, F3, rfl, ⟨b, b3, b4⟩, hR2⟩ := hR
 obtain rfl : F3 = [] := hR2
 have hvs : vs = [.func (.func 43) #[] #[.pointer (some ⟨bx, 0, none⟩)]] := by
  have e1 : SV.dens ρ [.p 0 0] = some [.pointer (some ⟨bx, 0, none⟩)] := denAll_dens (l := [.p 0 0]) ⟨by rw [SV.den, b1]; rfl, trivial⟩
  have : SV.dens ρ [.fn (.func 43) [] [.p 0 0]] = some [.func (.func 43) #[] #[.pointer (some ⟨bx, 0, none⟩)]] := denAll_dens (l := [.fn (.func 43) [] [.p 0 0]]) ⟨by rw [SV.den, dens_nil, e1]; rfl, trivial⟩
  rw [this] at hv; exact (Option.some.inj hv).symm
 subst hvs
 have hus : us = [.map (some b)] := by
  have : SV.dens ρ [.mp 1] = some [.map (some b)] := denAll_dens (l := [.mp 1]) ⟨by rw [SV.den, b3]; rfl, trivial⟩
  rw [this] at b2; exact (Option.some.inj b2).symm
 subst hus
 have hbx : w.heap[bx]? = some (.cells #[.map (some b)] 34 (0, 0)) := hh (bx, _) (by simp)
 obtain ⟨nn, D0, R, hown, hsz, hsb, hfin⟩ := mapKeys h b4 (fun p hp => hh p (by simp [hp]))
 have hbl : bx < w.heap.size := (Array.getElem?_eq_some_iff.1 hbx).1
 have hseq : SeqGives Fence.wide 2 Try.prog 43 #[.pointer (some ⟨bx, 0, none⟩)] encStr (fun ss => ss.Perm (strKeys D0)) (Maps.size D0) w :=
  AnyZ.keys_gives (ρ := Try.keysA_ren) Try.keysA Fence.wide 2 trivial rfl (by omega) bx b nn D0 w hbl (by simp [World.cell?, hbx]) hown
 refine Calls.mono (sortedSeq bx w _ _ hsz hsb hseq) ?_
 rintro e w' ⟨v, ss, rfl, hS, hrow, hnil, hbe⟩
 obtain ⟨sp, n, cap, Hs, rfl, hlen, ho, h1, h2, h3⟩ := cRow w w' v ss r (hfin ss hS) hrow
 have hold : ∀ p ∈ ([(bx, Obj.cells [Value.map (some b)].toArray 34 (0, 0))] ++ g : Blocks), w'.heap[p.1]? = some p.2 := fun p hp => by
  have hw := hh p (by simpa using hp)
  rw [hbe.block p.1 (Array.getElem?_eq_some_iff.1 hw).1]; exact hw
 have hg := Env.set_grow (ρ := ρ) (n := 2) (l := ⟨sp, cap, r.length⟩) hf
 have hle := hg.toLe hf
 have hlt : ∀ p ∈ ([(bx, Obj.cells [Value.map (some b)].toArray 34 (0, 0))] ++ g : Blocks), p.1 < w.heap.size := fun p hp => (Array.getElem?_eq_some_iff.1 (hh p (by simpa using hp))).1
 subst hlen
 refine ⟨_, ⟨[], [Hs, [(bx, Obj.cells [Value.map (some b)].toArray 34 (0, 0))], g]⟩, rfl, ⟨⟨hbe.os, hbe.tape, hbe.output, hbe.size, fun k hk _ => hbe.block k hk⟩, ?_, ?_, ?_⟩, cB Try.prog w [[(bx, .cells [Value.map (some b)].toArray 34 (0, 0))], g], ρ.set 2 ⟨sp, cap, r.length⟩, _, rfl, hg, by rw [SV.den, Env.set_self]; rfl, ?_⟩
 ·simp only [Hp.all, List.nil_append, List.flatten_cons, List.flatten_nil, List.append_nil, List.map_append]
  refine List.nodup_append.2 ⟨h3, by simpa using hn, fun x hx y hy he => ?_⟩
  obtain ⟨p, hp, rfl⟩ := List.mem_map.1 hx
  rw [← List.map_append] at hy
  obtain ⟨q, hq, rfl⟩ := List.mem_map.1 hy
  have := h2 p hp; have := hlt q hq; omega
 ·intro p hp
  simp only [Hp.all, List.nil_append, List.flatten_cons, List.flatten_nil, List.append_nil, List.mem_append] at hp
  rcases hp with hp | hp
  ·exact h1 p hp
  ·exact hold p (by simpa using hp)
 ·intro p hp
  simp only [Hp.all, List.nil_append, List.flatten_cons, List.flatten_nil, List.append_nil, List.mem_append] at hp
  rcases hp with hp | hp
  ·exact .inr (h2 p hp)
  ·exact .inl (List.mem_map.2 ⟨p, by simpa [Hp.all] using hp, rfl⟩)
 ·exact ⟨Hs, _, rfl, ⟨sp, cap, Env.set_self, rfl, ho, trivial⟩, _, _, rfl, ⟨bx, _, blkOf_mono hle b1, dens_mono hle b2, rfl⟩, _, [], rfl, ⟨b, blkOf_mono hle b3, b4⟩, rfl⟩
end Go.Proofs.Yteicbpfkljnemaa
