/- Part of the proof: the logic, the walks, and what they compute. -/
import Derived.KernelRfl
import Derived.ChangeSame
import Derived.Carry
import Derived.ProofKit
import Derived.OpenShut
import Derived.SizedLaws
import Derived.Test.YthpjmknpkdoadaaGreatTE
set_option linter.all false
namespace Go.Proofs.YthpjmknpkdoadaaGreat
open Go Go.HW
set_option maxRecDepth 8000
set_option linter.unusedVariables false
def fn104_l {σ : Type} (step : σ → (Visit) → Option σ) (go : σ → Bool) (get : σ → List Visit) (put : List Visit → σ → σ) : Nat → σ → Option σ
 | 0, _ => none
 | n1 + 1, sx => (bif decide ((0 : Int) < ((get sx).length : Int)) then (bif inb (IntKind.i64.wrap (((get sx).length : Int) - 1)) (get sx).length then (bif sliceOk ((0 : Nat) : Int) (IntKind.i64.wrap (((get sx).length : Int) - 1)) (get sx).length then (Option.bind (step (put (cutX (get sx) ((0 : Nat) : Int).toNat (IntKind.i64.wrap (((get sx).length : Int) - 1)).toNat) sx) (gt (get sx) (IntKind.i64.wrap (((get sx).length : Int) - 1)))) fun u17007 => (bif !(go u17007) then (some u17007) else ((fn104_l step go get put n1) u17007))) else none) else none) else (some sx))
theorem fn104_l_s {σ : Type} (step : σ → (Visit) → Option σ) (go : σ → Bool) (get : σ → List Visit) (put : List Visit → σ → σ) (n1 : Nat) (sx : σ) : fn104_l step go get put (n1 + 1) sx = (bif decide ((0 : Int) < ((get sx).length : Int)) then (bif inb (IntKind.i64.wrap (((get sx).length : Int) - 1)) (get sx).length then (bif sliceOk ((0 : Nat) : Int) (IntKind.i64.wrap (((get sx).length : Int) - 1)) (get sx).length then (Option.bind (step (put (cutX (get sx) ((0 : Nat) : Int).toNat (IntKind.i64.wrap (((get sx).length : Int) - 1)).toNat) sx) (gt (get sx) (IntKind.i64.wrap (((get sx).length : Int) - 1)))) fun u17007 => (bif !(go u17007) then (some u17007) else ((fn104_l step go get put n1) u17007))) else none) else none) else (some sx)) := rfl
theorem fn104_run {σ : Type} (step : σ → (Visit) → Option σ) (go : σ → Bool) (get : σ → List Visit) (put : List Visit → σ → σ) : ∀ (n : Nat) (s : σ), (Option.bind (fn104_l1 step go get put n s) fun o => (match o with | .inl u => fn104_k1 u | .inr u => some u)) = fn104_l step go get put n s
 | 0, s => rfl
 | n + 1, s => by
  rw [fn104_l1_s, fn104_l_s]
  cases decide ((0 : Int) < ((get s).length : Int)) with
  | false => rfl
  | true =>
  cases inb (IntKind.i64.wrap (((get s).length : Int) - 1)) (get s).length with
  | false => rfl
  | true =>
  cases sliceOk ((0 : Nat) : Int) (IntKind.i64.wrap (((get s).length : Int) - 1)) (get s).length with
  | false => rfl
  | true =>
  simp only [cond_true]
  show Option.bind (Option.bind (step (put (cutX (get s) ((0 : Nat) : Int).toNat (IntKind.i64.wrap (((get s).length : Int) - 1)).toNat) s) (gt (get s) (IntKind.i64.wrap (((get s).length : Int) - 1)))) _) _ = _
  cases step (put (cutX (get s) ((0 : Nat) : Int).toNat (IntKind.i64.wrap (((get s).length : Int) - 1)).toNat) s) (gt (get s) (IntKind.i64.wrap (((get s).length : Int) - 1))) with
  | none => rfl
  | some u =>
   simp only [Option.bind_some]
   cases go u with
   | false => rfl
   | true => exact fn104_run step go get put n u
theorem fn104_eq {σ : Type} (F : Nat) (step : σ → (Visit) → Option σ) (go : σ → Bool) (get : σ → List Visit) (put : List Visit → σ → σ) (s : σ) : fn104 F step go get put s = fn104_l step go get put F s := fn104_run step go get put F s
abbrev SL := Bool × (List (Int × U)) × (List (Int × U)) × (List Visit)
abbrev stepW (F : Nat) (G : List (List Int)) := stepR (fun (s : SL) (y : Visit) => fn25_r1 F G s.1 s.2.1 s.2.2.1 s.2.2.2 y)
abbrev getW := (fun s : SL × Nat => s.1.2.2.2)
abbrev putW := (fun (xs : List Visit) (s : SL × Nat) => ((s.1.1, s.1.2.1, s.1.2.2.1, xs), s.2))
theorem append_cases' {α : Type} : ∀ {l m a b : List α}, l ++ m = a ++ b → (∃ c, l = a ++ c ∧ b = c ++ m) ∨ ∃ c, c ≠ [] ∧ a = l ++ c ∧ m = c ++ b
 | [], m, a, b, h => by
  cases a with
  | nil => exact .inl ⟨[], rfl, by simpa using h.symm⟩
  | cons x a => exact .inr ⟨x :: a, by simp, rfl, by simpa using h⟩
 | x :: l, m, [], b, h => .inl ⟨x :: l, rfl, by simpa using h.symm⟩
 | x :: l, m, y :: a, b, h => by
  simp only [List.cons_append, List.cons.injEq] at h
  obtain ⟨rfl, h⟩ := h
  rcases append_cases' h with ⟨c, h1, h2⟩ | ⟨c, h0, h1, h2⟩
  ·exact .inl ⟨c, by rw [h1]; rfl, h2⟩
  ·exact .inr ⟨c, h0, by rw [h1]; rfl, h2⟩
abbrev white (Un D : List (Int × U)) : Int → Bool := fun i => mhas Un i || mhas D i
theorem loop_loop {F : Nat} (hF : 6000 ≤ F) {G : List (List Int)} (hG : Valid G) (hN : G.length ≤ 5000) : ∀ (n : Nat) (st : List Visit) (Un D : List (Int × U)), LInv G Un D st.reverse → 4 * cnt (white Un D) G.length + st.length < n → 4 * cnt (white Un D) G.length + st.length ≤ 100000 → 0 < G.length →
  (∃ Un' D' st', fn104_l (stepW F G) goR getW putW n ((false, Un, D, st), 0) = some ((true, Un', D', st'), 1) ∧ Rnd G) ∨
  (∃ Un' D', fn104_l (stepW F G) goR getW putW n ((false, Un, D, st), 0) = some ((false, Un', D', []), 0) ∧ ¬ Rnd G ∧ Topo G D' ∧ mhas D' 0 = true ∧ D'.length ≤ G.length)
 | 0, st, Un, D, _, h, _, _ => by omega
 | n + 1, st, Un, D, hI, hn, hb, hp => by
  rw [fn104_l_s]
  rcases Nat.eq_zero_or_pos st.length with h0 | h0
  ·have : st = [] := List.eq_nil_of_length_eq_zero h0
   subst this
   rcases hI.zero with h | ⟨e, h, _⟩
   ·exact .inr ⟨Un, D, rfl, hI.topo.none h, hI.topo, h, by have := hI.size; omega⟩
   ·simp at h
  ·obtain ⟨p1, p2, p3, p4⟩ := pop_step (α := Visit) (σ := Unit) h0 (by omega)
   obtain ⟨r, e1, e2⟩ := split_last h0
   have hgoal : ∀ (X : Option (SL × Nat)), X = (bif decide ((0 : Int) < (st.length : Int)) then (bif inb (IntKind.i64.wrap ((st.length : Int) - 1)) st.length then (bif sliceOk ((0 : Nat) : Int) (IntKind.i64.wrap ((st.length : Int) - 1)) st.length then (Option.bind (stepW F G (putW (cutX st ((0 : Nat) : Int).toNat (IntKind.i64.wrap ((st.length : Int) - 1)).toNat) ((false, Un, D, st), 0)) (gt st (IntKind.i64.wrap ((st.length : Int) - 1)))) fun u => (bif !(goR u) then (some u) else ((fn104_l (stepW F G) goR getW putW n) u))) else none) else none) else (some ((false, Un, D, st), 0))) →
     (∃ Un' D' st', X = some ((true, Un', D', st'), 1) ∧ Rnd G) ∨ (∃ Un' D', X = some ((false, Un', D', []), 0) ∧ ¬ Rnd G ∧ Topo G D' ∧ mhas D' 0 = true ∧ D'.length ≤ G.length) := by
    rintro X rfl
    rw [p1, p2, p3, p4, e2]
    simp only [cond_true]
    generalize hx : gt st ((st.length : Int) - 1) = e at e1
    obtain ⟨v, b⟩ := e
    have hlr : st.length = r.length + 1 := by rw [e1]; simp
    have hrev : st.reverse = (⟨v, b⟩ : Visit) :: r.reverse := by rw [e1]; simp
    rw [hrev] at hI
    have hstep : stepW F G (putW r ((false, Un, D, st), 0)) ⟨v, b⟩ = fn25_r1 F G false Un D r ⟨v, b⟩ := rfl
    rw [hstep, fn25_r1]
    obtain ⟨path, hstk⟩ := hI.stk
    obtain ⟨pp1, pp2, pp3⟩ := hstk.path
    cases b with
    | true =>
     -- a mark: all behind v is done
     simp only [cond_true, bindP, fn62, Option.bind_some, goR, show Nat.beq 0 0 = true from rfl, Bool.not_true, cond_false]
     have hDv : mhas D v = false := hI.grey v (by simp)
     have hpt : ∃ pt, Stk G r.reverse pt := by
      rw [Stk, if_pos rfl] at hstk
      obtain ⟨pt, _, _, h⟩ := hstk; exact ⟨pt, h⟩
     have hone := hI.one
     rw [List.filter_cons_of_pos rfl, List.map_cons, List.nodup_cons] at hone
     have hnot : (⟨v, true⟩ : Visit) ∉ r.reverse := fun h => hone.1 (List.mem_map.2 ⟨_, List.mem_filter.2 ⟨h, rfl⟩, rfl⟩)
     have hD' := mput_new D v () hDv
     have hhas : ∀ t, mhas (mput D v ()) t = (decide (v = t) || mhas D t) := fun t => mhas_put v _ t D
     have hI' : LInv G (mdel Un v) (mput D v ()) r.reverse := by
      refine ⟨hpt, fun t => ?_, hI.knd.del, hone.2, fun t ht => ?_, ?_, ?_, ?_, ?_⟩
      ·rw [mhas_del _ _ _ hI.knd, Bool.and_eq_true, hI.un t]
       constructor
       ·rintro ⟨h1, h2⟩
        rcases List.mem_cons.1 h2 with h2 | h2
        ·have : t = v := congrArg Visit.fat h2
         subst this; simp at h1
        ·exact h2
       ·intro h
        have hne : v ≠ t := by rintro rfl; exact hnot h
        exact ⟨by simp [hne], by simp [h]⟩
      ·have hne : v ≠ t := by rintro rfl; exact hnot ht
       rw [hhas, hI.grey t (by simp [ht])]; simp [hne]
      ·rw [hD']
       intro k q hq t ht
       rcases Nat.lt_or_ge k D.length with hk | hk
       ·rw [List.getElem?_append_left hk] at hq
        obtain ⟨m, r', h1, h2, h3⟩ := hI.topo k q hq t ht
        exact ⟨m, r', h1, by rw [List.getElem?_append_left (by omega)]; exact h2, h3⟩
       ·rw [List.getElem?_append_right hk] at hq
        have hk0 : k - D.length = 0 := by
         cases hh : k - D.length with
         | zero => rfl
         | succ j => rw [hh] at hq; simp at hq
        rw [hk0] at hq; simp at hq; subst hq
        rcases hI.cov [] v r.reverse rfl t ht with h | ⟨e, h, _⟩
        ·obtain ⟨q, h1, h2⟩ := (mhas_iff D t).1 h
         obtain ⟨m, hm, e⟩ := List.mem_iff_getElem.1 h1
         exact ⟨m, q, by omega, by rw [List.getElem?_append_left hm, List.getElem?_eq_some_iff]; exact ⟨hm, e⟩, h2⟩
        ·simp at h
      ·intro ab m be hab t ht
       rcases hI.cov ((⟨v, true⟩ : Visit) :: ab) m be (by rw [hab]; rfl) t ht with h | ⟨e, h, he⟩
       ·exact .inl (by rw [hhas, h]; simp)
       ·rcases List.mem_cons.1 h with rfl | h
        ·exact .inl (by rw [hhas]; simp [← he])
        ·exact .inr ⟨e, h, he⟩
      ·rcases hI.zero with h | ⟨e, h, he⟩
       ·exact .inl (by rw [hhas, h]; simp)
       ·rcases List.mem_cons.1 h with rfl | h
        ·exact .inl (by rw [hhas]; simp [← he])
        ·exact .inr ⟨e, h, he⟩
      ·have hv01 : 0 ≤ v ∧ v < (G.length : Int) := (pp3 ⟨v, true⟩ (by simp)).lt hG hp
       have h1 : cnt (mhas (mput D v ())) G.length < cnt (mhas D) G.length := cnt_lt _ (fun i _ _ h => by rw [hhas, h]; simp) v hv01.1 hv01.2 hDv (by rw [hhas]; simp)
       have h2 := hI.size
       have h3 : (mput D v ()).length = D.length + 1 := by rw [hD']; simp
       omega
     have hc : cnt (white (mdel Un v) (mput D v ())) G.length = cnt (white Un D) G.length := by
      congr 1; funext t
      show (mhas (mdel Un v) t || mhas (mput D v ()) t) = (mhas Un t || mhas D t)
      rw [mhas_del _ _ _ hI.knd, hhas]
      by_cases h : v = t
      ·subst h; have := (hI.un v).2 (by simp); simp [this]
      ·simp [h]
     exact loop_loop hF hG hN n r _ _ hI' (by rw [hc]; omega) (by rw [hc]; omega) hp
    | false =>
     rw [Stk, if_neg (by simp)] at hstk
     obtain ⟨hnx, hstk'⟩ := hstk
     have hone' : ((r.reverse.filter (·.fleft)).map (·.fat)).Nodup := by have := hI.one; rwa [List.filter_cons_of_neg (by simp)] at this
     have hmk : ∀ t, (⟨t, true⟩ : Visit) ∈ r.reverse ↔ (⟨t, true⟩ : Visit) ∈ (⟨v, false⟩ : Visit) :: r.reverse := fun t => by
      rw [List.mem_cons]; constructor
      ·exact .inr
      ·rintro (h | h)
       ·cases h
       ·exact h
     simp only [cond_false]
     cases hd : mhas D v with
     | true =>
      simp only [cond_true, Option.bind_some, goR, show Nat.beq 0 0 = true from rfl, Bool.not_true, cond_false]
      have hI' : LInv G Un D r.reverse := by
       refine ⟨⟨path, hstk'⟩, fun t => (hI.un t).trans (hmk t).symm, hI.knd, hone', fun t ht => hI.grey t ((hmk t).1 ht), hI.topo, ?_, ?_, hI.size⟩
       ·intro ab m be hab t ht
        rcases hI.cov ((⟨v, false⟩ : Visit) :: ab) m be (by rw [hab]; rfl) t ht with h | ⟨e, h, he⟩
        ·exact .inl h
        ·rcases List.mem_cons.1 h with rfl | h
         ·exact .inl (by rw [← he]; exact hd)
         ·exact .inr ⟨e, h, he⟩
       ·rcases hI.zero with h | ⟨e, h, he⟩
        ·exact .inl h
        ·rcases List.mem_cons.1 h with rfl | h
         ·exact .inl (by rw [← he]; exact hd)
         ·exact .inr ⟨e, h, he⟩
      exact loop_loop hF hG hN n r _ _ hI' (by omega) (by omega) hp
     | false =>
      simp only [cond_false, bindP, fn62]
      cases hu : mhas Un v with
      | true =>
       simp only [Bool.not_true, Bool.not_false, cond_true, Option.bind_some]
       have hvp : v ∈ path := (pp1 v).2 ((hI.un v).1 hu)
       obtain ⟨X, q, x1, x2, x3, x4⟩ := hstk'.chn.round hvp
       refine .inl ⟨_, _, _, rfl, X, x2, fun x hx => ⟨pp2 x (by rw [x1]; simp [hx]), ?_⟩⟩
       rcases x4 x hx with h | h
       ·cases hpath : path with
        | nil => rw [hpath] at hvp; simp at hvp
        | cons m pt =>
         rw [hpath] at h hnx
         have : x = m := h
         subst this
         exact ⟨v, hnx, x3⟩
       ·exact h
      | false =>
       have hv01 : 0 ≤ v ∧ v < (G.length : Int) := (pp3 ⟨v, false⟩ (by simp)).lt hG hp
       have hga := (hG _ (gt_mem hv01.1 hv01.2)).1
       have g2 : inb v G.length = true := inb_iff.2 hv01
       have g3 : decide ((r.length + ([(⟨v, true⟩ : Visit)] : List Visit).length) * 16 ≤ 140737488355328 ∧ r.length + ([(⟨v, true⟩ : Visit)] : List Visit).length ≤ 9223372036854775807) = true := by simp; omega
       have hl2 := l2_push (G := G) (v := v) (by omega) F (r ++ [⟨v, true⟩]) 0 false (by omega) (by omega) (by simp; omega)
       rw [show ((0 : Nat) : Int) = 0 from rfl, List.drop_zero] at hl2
       simp only [Bool.not_true, Bool.not_false, cond_false, fn60, g3, cond_true, Option.bind_some, g2, hl2, fn25_k2, fn62, goR, show Nat.beq 0 0 = true from rfl]
       have hhas : ∀ t, mhas (mput Un v ()) t = (decide (v = t) || mhas Un t) := fun t => mhas_put v _ t Un
       have hrv : (r ++ [(⟨v, true⟩ : Visit)] ++ (gt G v).map (fun t => (⟨t, false⟩ : Visit))).reverse = ((gt G v).map (fun t => (⟨t, false⟩ : Visit))).reverse ++ (⟨v, true⟩ : Visit) :: r.reverse := by simp
       have hfl : ∀ e ∈ ((gt G v).map (fun t => (⟨t, false⟩ : Visit))).reverse, e.fleft = false ∧ e.fat ∈ gt G v := fun e he => by
        simp at he; obtain ⟨t, h1, rfl⟩ := he; exact ⟨rfl, h1⟩
       have hI' : LInv G (mput Un v ()) D (r ++ [(⟨v, true⟩ : Visit)] ++ (gt G v).map (fun t => (⟨t, false⟩ : Visit))).reverse := by
        rw [hrv]
        have hmem : ∀ t, (⟨t, true⟩ : Visit) ∈ ((gt G v).map (fun t => (⟨t, false⟩ : Visit))).reverse ++ (⟨v, true⟩ : Visit) :: r.reverse ↔ t = v ∨ (⟨t, true⟩ : Visit) ∈ r.reverse := fun t => by
         rw [List.mem_append, List.mem_cons]
         constructor
         ·rintro (h | h | h)
          ·exact absurd (hfl _ h).1 (by simp)
          ·exact .inl (congrArg Visit.fat h)
          ·exact .inr h
         ·rintro (rfl | h)
          ·exact .inr (.inl rfl)
          ·exact .inr (.inr h)
        refine ⟨⟨v :: path, Stk.push (by rw [Stk, if_pos rfl]; exact ⟨path, rfl, hnx, hstk'⟩) _ (fun e he => ⟨(hfl e he).1, (hfl e he).2⟩)⟩, fun t => ?_, hI.knd.push hu, ?_, fun t ht => ?_, hI.topo, ?_, ?_, hI.size⟩
        ·rw [hhas, Bool.or_eq_true, hI.un t, hmem, ← hmk]
         simp [eq_comm]
        ·have e0 : ((((gt G v).map (fun t => (⟨t, false⟩ : Visit))).reverse).filter (·.fleft)) = [] := List.filter_eq_nil_iff.2 fun e he => by rw [(hfl e he).1]; simp
         rw [List.filter_append, e0, List.nil_append, List.filter_cons_of_pos rfl, List.map_cons, List.nodup_cons]
         refine ⟨fun h => ?_, hone'⟩
         obtain ⟨e, h1, h2⟩ := List.mem_map.1 h
         obtain ⟨h3, h4⟩ := List.mem_filter.1 h1
         have : e = ⟨v, true⟩ := by cases e; simp at h2 h4; subst h2; subst h4; rfl
         rw [this] at h3
         have := (hI.un v).2 ((hmk v).1 h3)
         rw [hu] at this; cases this
        ·rcases (hmem t).1 ht with rfl | h
         ·exact hd
         ·exact hI.grey t ((hmk t).1 h)
        ·intro ab m be hab t ht
         rcases append_cases' hab with ⟨c, h1, h2⟩ | ⟨c, hc0, h1, h2⟩
         ·-- the mark would lie within the new ones
          cases c with
          | nil =>
           simp at h2
           obtain ⟨⟨rfl, _⟩, rfl⟩ := h2
           refine .inr ⟨⟨t, false⟩, ?_, rfl⟩
           rw [List.append_nil] at h1
           rw [← h1]; simp [ht]
          | cons y c =>
           simp at h2
           have : y ∈ ((gt G v).map (fun t => (⟨t, false⟩ : Visit))).reverse := by rw [h1]; simp
           have := (hfl y this).1
           rw [← h2.1] at this; simp at this
         ·cases c with
          | nil => exact absurd rfl hc0
          | cons y c =>
           simp at h2
           obtain ⟨rfl, h2⟩ := h2
           rcases hI.cov ((⟨v, false⟩ : Visit) :: c) m be (by rw [h2]; simp) t ht with h | ⟨e, h, he⟩
           ·exact .inl h
           ·refine .inr ?_
            rcases List.mem_cons.1 h with rfl | h
            ·exact ⟨⟨v, true⟩, by rw [h1]; simp, he⟩
            ·exact ⟨e, by rw [h1]; simp [h], he⟩
        ·rcases hI.zero with h | ⟨e, h, he⟩
         ·exact .inl h
         ·refine .inr ?_
          rcases List.mem_cons.1 h with rfl | h
          ·exact ⟨⟨v, true⟩, by simp, he⟩
          ·exact ⟨e, by simp at h ⊢; simp [h], he⟩
       have hlt : cnt (white (mput Un v ()) D) G.length < cnt (white Un D) G.length := by
        refine cnt_lt _ (fun i _ _ h => ?_) v hv01.1 hv01.2 ?_ ?_
        ·show (mhas (mput Un v ()) i || mhas D i) = true
         rw [hhas]
         have h : (mhas Un i || mhas D i) = true := h
         rcases (by simpa using h : mhas Un i = true ∨ mhas D i = true) with h | h <;> simp [h]
        ·show (mhas Un v || mhas D v) = false
         rw [hu, hd]; rfl
        ·show (mhas (mput Un v ()) v || mhas D v) = true
         rw [hhas]; simp
       exact loop_loop hF hG hN n _ _ _ hI' (by simp; omega) (by simp; omega) hp
   exact hgoal _ rfl
theorem loops_prog' {F : Nat} {p : List Instr} (hF : 9000 ≤ F) (hp : p.length ≤ 1000) (hw : WF p) (ho : okP p = true) (hv : Valid (stp p)) : ∃ b, fn25 F p = some b ∧ (b = true ↔ Rnd (stp p)) ∧ (b = false → ∃ D, Topo (stp p) D ∧ mhas D 0 = true ∧ D.length ≤ (stp p).length) := by
 have hl : (stp p).length = p.length := by rw [stp_length, ho]; rfl
 obtain ⟨hne, hlen⟩ := ok_len ho
 have hpos : 0 < p.length := List.length_pos_iff.2 hne
 have he : (stp p).isEmpty = false := by
  cases h : stp p with
  | nil => rw [h] at hl; simp at hl; omega
  | cons _ _ => rfl
 rw [fn25, steps_prog (by omega) (by omega) hw, Option.bind_some, he]
 have hpush : fn60 (⟨([] : List Visit)⟩ : S_flow_visit_) ([(⟨0, false⟩ : Visit)] : List Visit) = some ⟨[⟨0, false⟩]⟩ := by decide
 have hm0 : ∀ i : Int, mhas ([] : List (Int × U)) i = false := fun _ => rfl
 have hI : LInv (stp p) [] [] ([(⟨0, false⟩ : Visit)] : List Visit).reverse := by
  refine ⟨⟨[], by simp [Stk, Nxt]⟩, fun v => ?_, List.nodup_nil, by simp, fun v hv => hm0 v, fun n q hq => by simp at hq, ?_, .inr ⟨⟨0, false⟩, by simp, rfl⟩, by have := cnt_le (mhas ([] : List (Int × U))) (stp p).length; simpa using this⟩
  ·rw [hm0]; simp
  ·intro ab m be hab
   cases ab with
   | nil => simp at hab
   | cons y ab => simp at hab
 have hc := cnt_le (white ([] : List (Int × U)) []) (stp p).length
 simp only [cond_false, hpush, Option.bind_some, fn104_eq]
 rcases loop_loop (F := F) (by omega) hv (by omega) F [⟨0, false⟩] [] [] hI (by simp; omega) (by simp; omega) (by omega) with ⟨Un', D', st', e1, e2⟩ | ⟨Un', D', e1, e2, e3, e4, e5⟩
 ·rw [e1]; exact ⟨true, rfl, ⟨fun _ => e2, fun _ => rfl⟩, fun h => (by cases h)⟩
 ·rw [e1]; exact ⟨false, rfl, ⟨fun h => (by cases h), fun h => absurd h e2⟩, fun _ => ⟨D', e3, e4, e5⟩⟩
theorem loops_prog {F : Nat} {p : List Instr} (hF : 9000 ≤ F) (hp : p.length ≤ 1000) (hw : WF p) (ho : okP p = true) (hv : Valid (stp p)) : ∃ b, fn25 F p = some b ∧ (b = true ↔ Rnd (stp p)) := by
 obtain ⟨b, h1, h2, _⟩ := loops_prog' hF hp hw ho hv
 exact ⟨b, h1, h2⟩
end Go.Proofs.YthpjmknpkdoadaaGreat
namespace Go.Proofs.YthpjmknpkdoadaaGreat
open Go Go.HW
set_option maxRecDepth 8000
set_option linter.unusedVariables false
def nxt (p : List Instr) (k : Int) : Int := bif (gt p k).fOp == 24 then k + 2 else k + 1
def restL (i : Instr) (l : List Instr) (k : Int) : List (Int × Slot) := (firstsL (i :: l) k).tail
theorem firstsL_rest (i : Instr) (l : List Instr) (k : Int) : firstsL (i :: l) k = (k, fn89 i) :: restL i l k := by rw [restL, firstsL_cons]; rfl
theorem next_first {p : List Instr} : ∀ (n k : Nat) (d : Int), p.length - k < n → ∀ y ∈ firstsL (p.drop k) k, y.1 = lastAt (firstsL (p.drop k) k) d ∨ posIn (firstsL (p.drop k) k) (nxt p y.1) = true
 | 0, k, d, h, y, hy => by omega
 | n + 1, k, d, h, y, hy => by
  rcases Nat.lt_or_ge k p.length with hk | hk
  ·have hg : p.drop k = gt p (k : Int) :: p.drop (k + 1) := drop_gt hk
   rw [hg, firstsL_rest] at hy ⊢
   -- what lies behind
   have hc : restL (gt p (k : Int)) (p.drop (k + 1)) (k : Int) = [] ∨ ∃ j : Nat, restL (gt p (k : Int)) (p.drop (k + 1)) (k : Int) = firstsL (p.drop j) (j : Int) ∧ k < j ∧ (j : Int) = nxt p (k : Int) ∧ p.drop j ≠ [] := by
    rw [restL, firstsL_cons, List.tail_cons]
    cases hw : ((gt p (k : Int)).fOp == 24) with
    | false =>
     simp only [cond_false]
     by_cases hd : p.drop (k + 1) = []
     ·rw [hd]; exact .inl rfl
     ·exact .inr ⟨k + 1, by simp, by omega, by simp [nxt, hw], hd⟩
    | true =>
     simp only [cond_true]
     cases hd : p.drop (k + 1) with
     | nil => exact .inl rfl
     | cons z l' =>
      obtain ⟨_, h2, _⟩ := drop_cons' hd
      by_cases hl : l' = []
      ·rw [hl]; exact .inl rfl
      ·refine .inr ⟨k + 2, ?_, by omega, by simp [nxt, hw], by rw [show k + 2 = k + 1 + 1 from rfl, h2]; exact hl⟩
       rw [show k + 2 = k + 1 + 1 from rfl, h2]
       congr 1
   generalize restL (gt p (k : Int)) (p.drop (k + 1)) (k : Int) = l at hc hy ⊢
   have hla : ∀ d, lastAt (((k : Int), fn89 (gt p (k : Int))) :: l) d = lastAt l (k : Int) := fun _ => rfl
   have hpi : ∀ t, posIn (((k : Int), fn89 (gt p (k : Int))) :: l) t = (((k : Int) == t) || posIn l t) := fun _ => rfl
   rw [hla, hpi]
   rcases hc with rfl | ⟨j, rfl, hkj, hj, hne⟩
   ·rcases List.mem_cons.1 hy with rfl | hy
    ·exact .inl rfl
    ·simp at hy
   ·have ih := next_first (p := p) n j (k : Int) (by omega)
    rcases List.mem_cons.1 hy with rfl | hy
    ·refine .inr ?_
     show (((k : Int) == nxt p (k : Int)) || posIn (firstsL (p.drop j) (j : Int)) (nxt p (k : Int))) = true
     rw [← hj]
     have : posIn (firstsL (p.drop j) (j : Int)) (j : Int) = true := by
      cases hd : p.drop j with
      | nil => exact absurd hd hne
      | cons z r => rw [firstsL_cons]; simp [posIn]
     rw [this]; simp
    ·rcases ih y hy with h | h
     ·exact .inl h
     ·exact .inr (by rw [h]; simp)
  ·rw [List.drop_eq_nil_of_le hk] at hy; simp [firstsL] at hy
theorem ok_end {p : List Instr} (h : okP p = true) : refEnds (gt p (lastAt (firstsL p 0) 0)) = true := by
 have her := ok_er h
 obtain ⟨h1, h2⟩ := ok_len h
 unfold okP chk at h
 cases hl : (((p.length : Int) == 0) || (decide ((4096 : Int) < (p.length : Int)))) with
 | true => simp at hl; rcases hl with e | e; exact absurd e h1; omega
 | false =>
  rw [hl] at h
  simp only [cond_false] at h
  cases hf : (firstsL p 0).find? (bad p) with
  | some y =>
   have hy := List.find?_some hf
   have := her y (List.mem_of_find?_eq_some hf)
   simp [bad, this] at hy
  | none =>
   rw [hf] at h
   cases hr : refEnds (gt p (lastAt (firstsL p 0) 0)) with
   | true => rfl
   | false => rw [hr] at h; simp at h
theorem er_target {p : List Instr} {k : Int} (h : er p k = 0) (ht : (fn120 (gt p k) k).2 = true) : pl p (fn120 (gt p k) k).1 = true := by
 unfold er at h
 cases h1 : fn117 (gt p k) <;> rw [h1] at h <;> simp only [Bool.not_true, Bool.not_false, cond_true, cond_false] at h
 ·cases h
 cases h2 : fn41 (fn89 (gt p k)) <;> rw [h2] at h <;> simp only [Bool.not_true, Bool.not_false, cond_true, cond_false] at h
 ·cases h
 cases h3 : fn119 (gt p k) <;> rw [h3] at h <;> simp only [Bool.not_true, Bool.not_false, cond_true, cond_false] at h
 ·cases h
 cases h4 : (((gt p k).fOp == 24) && (sec p k != 0)) <;> rw [h4] at h <;> simp only [cond_true, cond_false] at h
 ·rw [ht] at h
  cases h5 : pl p (fn120 (gt p k) k).1 with
  | true => rfl
  | false => rw [h5] at h; simp at h
 ·simp at h4; exact absurd h h4.2
theorem way_pl {p : List Instr} (ho : okP p = true) {k : Int} (hk : pl p k = true) : ((way p k).e0 = -1 ∨ ((way p k).e0 = nxt p k ∧ pl p (nxt p k) = true)) ∧ ((way p k).e1 = -1 ∨ pl p (way p k).e1 = true) := by
 have hpos : ∃ y ∈ firstsL p 0, y.1 = k := by
  rw [← pos_pl, posIn, List.any_eq_true] at hk
  obtain ⟨y, h1, h2⟩ := hk
  exact ⟨y, h1, by simpa using h2⟩
 obtain ⟨y, hy, rfl⟩ := hpos
 have her := ok_er ho y hy
 refine ⟨?_, ?_⟩
 ·have hn := next_first (p := p) (p.length + 1) 0 0 (by omega) y (by simpa using hy)
  simp only [List.drop_zero, show ((0 : Nat) : Int) = 0 from rfl] at hn
  rcases hn with h | h
  ·left
   have := ok_end ho
   rw [← h] at this
   simp [way, this]
  ·rw [pos_pl] at h
   cases hr : refEnds (gt p y.1) with
   | true => left; simp [way, hr]
   | false => right; exact ⟨by simp [way, hr, nxt], h⟩
 ·cases ht : (fn120 (gt p y.1) y.1).2 with
  | false => left; simp [way, ht]
  | true => right; simp only [way, ht, cond_true]; exact er_target her ht
theorem pl_lt {p : List Instr} {t : Int} (h : pl p t = true) : 0 ≤ t ∧ t < (p.length : Int) := by
 simp [pl] at h; exact ⟨h.1.1, h.1.2⟩
theorem gt_stp {p : List Instr} (ho : okP p = true) {k : Int} (h0 : 0 ≤ k) (h1 : k < p.length) : gt (stp p) k = outs (wayAt p k) := by
 have hk : k.toNat < p.length := by omega
 have e : ((k.toNat : Nat) : Int) = k := by omega
 simp only [gt, stp, ways, ho, cond_true, List.getD_eq_getElem?_getD, List.getElem?_map, List.getElem?_range hk, Option.map_some, Option.getD_some, e]
theorem pl_marks {p : List Instr} {k : Int} (h0 : 0 ≤ k) (h1 : k < p.length) : pl p k = gt (marks p) k := by
 have a : decide (0 ≤ k) = true := by simp; omega
 have b : decide (k < (p.length : Int)) = true := by simp; omega
 rw [pl, a, b]; rfl
theorem stp_pl {p : List Instr} (ho : okP p = true) {k t : Int} (ht : t ∈ gt (stp p) k) (h0 : 0 ≤ k) (h1 : k < p.length) : pl p k = true ∧ pl p t = true ∧ (t = (way p k).e0 ∨ t = (way p k).e1) ∧ 0 ≤ t := by
 rw [gt_stp ho h0 h1, wayAt, ← pl_marks h0 h1] at ht
 cases hk : pl p k with
 | false => rw [hk] at ht; simp [outs] at ht
 | true =>
  rw [hk, cond_true, outs, List.mem_filter] at ht
  obtain ⟨h2, h3⟩ := ht
  simp at h3
  obtain ⟨w0, w1⟩ := way_pl ho hk
  refine ⟨rfl, ?_, ?_, h3⟩
  ·simp at h2
   rcases h2 with rfl | rfl
   ·rcases w0 with w | ⟨w, w'⟩
    ·omega
    ·rw [w]; exact w'
   ·rcases w1 with w | w
    ·omega
    ·exact w
  ·simpa using h2
theorem stp_valid (p : List Instr) : Valid (stp p) := by
 intro a ha
 refine ⟨stp_in a ha, fun t ht => ?_⟩
 cases ho : okP p with
 | false =>
  have := stp_length p
  rw [ho] at this
  have h0 : stp p = [] := List.eq_nil_of_length_eq_zero (by simpa using this)
  rw [h0] at ha; simp at ha
 | true =>
  obtain ⟨i, hi, rfl⟩ := List.mem_iff_getElem.1 ha
  have hl := stp_length p
  rw [ho, if_pos rfl] at hl
  have hg : gt (stp p) (i : Int) = (stp p)[i] := by simp [gt, hi]
  rw [← hg] at ht
  obtain ⟨_, h, _⟩ := stp_pl ho ht (by omega) (by omega)
  have := pl_lt h
  rw [hl]; exact this
theorem ref_edges_loop {p : List Instr} (ho : okP p = true) (hp : p.length ≤ 5000) : ∀ (n k : Nat) (acc : List Edge), k ≤ p.length → acc.length ≤ 2 * k → p.length - k < n →
  fn78_l1 p (marks p) n acc (k : Int) = some (acc ++ (edgesOf ((stp p).drop k) k).map mkE)
 | 0, k, acc, h1, h2, h3 => by omega
 | n + 1, k, acc, h1, h2, h3 => by
  rw [fn78_l1_s]
  have hl := stp_length p
  rw [ho, if_pos rfl] at hl
  rcases Nat.lt_or_ge k p.length with hk | hk
  ·have g1 : decide ((k : Int) < (p.length : Int)) = true := by simp; omega
   have g2 : inb (k : Int) (marks p).length = true := by rw [marks_length]; exact inb_iff.2 ⟨by omega, by omega⟩
   have g4 : IntKind.i64.wrap ((k : Int) + 1) = ((k + 1 : Nat) : Int) := w64 (by omega)
   have hd : (stp p).drop k = gt (stp p) (k : Int) :: (stp p).drop (k + 1) := drop_gt (by omega)
   rw [hd, edgesOf, gt_stp ho (by omega) (by omega), wayAt]
   simp only [g1, g2, cond_true, g4]
   cases hm : gt (marks p) (k : Int) with
   | false =>
    simp only [Bool.not_false, cond_true, cond_false]
    rw [ref_edges_loop ho hp n (k + 1) acc (by omega) (by omega) (by omega)]
    have : outs (⟨-1, -1⟩ : S__2_int) = [] := by decide
    rw [this]; simp
   | true =>
    simp only [Bool.not_true, cond_false, cond_true, next1_eq hp (show (0 : Int) ≤ (k : Int) by omega) (show (k : Int) < (p.length : Int) by omega), Option.bind_some]
    have c1 : ∀ (ac : List Edge) (e : Edge), ac.length ≤ 20000 → decide ((ac.length + ([e] : List Edge).length) * 16 ≤ 140737488355328 ∧ ac.length + ([e] : List Edge).length ≤ 9223372036854775807) = true := fun ac e h => by simp; omega
    cases h0 : decide ((0 : Int) ≤ (way p (k : Int)).e0) with
    | true =>
     rw [cond_true, c1 _ _ (by omega), cond_true]
     cases h1 : decide ((0 : Int) ≤ (way p (k : Int)).e1) with
     | true =>
      rw [cond_true, c1 _ _ (by simp; omega), cond_true, ref_edges_loop ho hp n (k + 1) _ (by omega) (by simp; omega) (by omega)]
      simp at h0 h1
      simp [outs, h0, h1, mkE]
     | false =>
      rw [cond_false, ref_edges_loop ho hp n (k + 1) _ (by omega) (by simp; omega) (by omega)]
      simp at h0 h1
      have : ¬ 0 ≤ (way p (k : Int)).e1 := by omega
      simp [outs, h0, this, mkE]
    | false =>
     rw [cond_false]
     simp at h0
     have n0 : ¬ 0 ≤ (way p (k : Int)).e0 := by omega
     cases h1 : decide ((0 : Int) ≤ (way p (k : Int)).e1) with
     | true =>
      rw [cond_true, c1 _ _ (by omega), cond_true, ref_edges_loop ho hp n (k + 1) _ (by omega) (by simp; omega) (by omega)]
      simp at h1
      simp [outs, n0, h1, mkE]
     | false =>
      rw [cond_false, ref_edges_loop ho hp n (k + 1) _ (by omega) (by omega) (by omega)]
      simp at h1
      have : ¬ 0 ≤ (way p (k : Int)).e1 := by omega
      simp [outs, n0, this]
  ·have g1 : decide ((k : Int) < (p.length : Int)) = false := by simp; omega
   rw [g1, List.drop_eq_nil_of_le (by omega)]; simp [edgesOf]
theorem not_ok {p : List Instr} (h : okP p = false) : ((chk p).2 != 0) = true := by unfold okP at h; simpa [bne] using h
theorem is_ok {p : List Instr} (h : okP p = true) : ((chk p).2 != 0) = false := by unfold okP at h; simpa [bne] using h
theorem stp_nil {p : List Instr} (h : okP p = false) : stp p = [] := by
 have := stp_length p
 rw [h] at this
 exact List.eq_nil_of_length_eq_zero (by simpa using this)
theorem edges_ref {F : Nat} {p : List Instr} (hF : 6000 ≤ F) (hp : p.length ≤ 5000) : fn78 F p = some ((eds p).map mkE) := by
 rw [fn78, check_ref hF hp, Option.bind_some]
 cases ho : okP p with
 | false => rw [not_ok ho, eds, stp_nil ho]; rfl
 | true =>
  rw [is_ok ho, cond_false, firsts_ref p hp hF, Option.bind_some]
  have := ref_edges_loop ho hp F 0 [] (by omega) (by simp) (by omega)
  rw [show ((0 : Nat) : Int) = 0 from rfl, List.drop_zero] at this
  rw [this]; rfl
end Go.Proofs.YthpjmknpkdoadaaGreat
namespace Go.Proofs.YthpjmknpkdoadaaGreat
open Go Go.HW
set_option maxRecDepth 8000
set_option linter.unusedVariables false
theorem mem_edgesOf : ∀ (l : List (List Int)) (k a b : Int), (a, b) ∈ edgesOf l k ↔ k ≤ a ∧ b ∈ l.getD (a - k).toNat []
 | [], k, a, b => by simp [edgesOf]
 | x :: l, k, a, b => by
  rw [edgesOf, List.mem_append, mem_edgesOf l (k + 1) a b]
  constructor
  ·rintro (h | ⟨h1, h2⟩)
   ·obtain ⟨t, h1, h2⟩ := List.mem_map.1 h
    injection h2 with h2 h3
    subst h2; subst h3
    refine ⟨Int.le_refl _, ?_⟩
    rw [show (k - k).toNat = 0 from by omega]; exact h1
   ·refine ⟨by omega, ?_⟩
    rw [show (a - k).toNat = (a - (k + 1)).toNat + 1 from by omega]; exact h2
  ·rintro ⟨h1, h2⟩
   by_cases hk : a = k
   ·subst hk
    rw [show (a - a).toNat = 0 from by omega] at h2
    exact .inl (List.mem_map.2 ⟨b, h2, rfl⟩)
   ·rw [show (a - k).toNat = (a - (k + 1)).toNat + 1 from by omega] at h2
    exact .inr ⟨by omega, h2⟩
theorem mem_eds {p : List Instr} {a b : Int} : (a, b) ∈ eds p ↔ 0 ≤ a ∧ b ∈ gt (stp p) a := by
 rw [eds, mem_edgesOf, show a - 0 = a from by omega]; rfl
abbrev EE (p : List Instr) : List Edge := (eds p).map mkE
theorem mem_EE {p : List Instr} {e : Edge} : e ∈ EE p ↔ 0 ≤ e.fFrom ∧ e.fTo ∈ gt (stp p) e.fFrom := by
 rw [List.mem_map]
 constructor
 ·rintro ⟨⟨a, b⟩, h, rfl⟩; exact mem_eds.1 h
 ·intro h; exact ⟨(e.fFrom, e.fTo), mem_eds.2 h, rfl⟩
theorem EE_in {p : List Instr} {e : Edge} (he : e ∈ EE p) : (0 ≤ e.fFrom ∧ e.fFrom < ((stp p).length : Int)) ∧ (0 ≤ e.fTo ∧ e.fTo < ((stp p).length : Int)) := by
 obtain ⟨h1, h2⟩ := mem_EE.1 he
 refine ⟨⟨h1, ?_⟩, (stp_valid p).at h2⟩
 rcases Int.lt_or_le e.fFrom ((stp p).length : Int) with h | h
 ·exact h
 ·have : gt (stp p) e.fFrom = [] := by
   have : (stp p).length ≤ e.fFrom.toNat := by omega
   simp [gt, this]; rfl
  rw [this] at h2; simp at h2
theorem init_loop (N : Nat) (set : List Bool) (hs : set.length = N) (hN : N ≤ 5000) : ∀ (n : Nat) (m : List Bool) (k : Nat), m.length = N → k ≤ N → N - k < n → fn79_l1 (N : Int) set true n m (k : Int) = some (m.take k ++ set.drop k)
 | 0, m, k, _, _, h => by omega
 | n + 1, m, k, hm, hk, hn => by
  rw [fn79_l1_s]
  rcases Nat.lt_or_ge k N with h | h
  ·have g1 : decide ((k : Int) < (N : Int)) = true := by simp; omega
   have g2 : inb (k : Int) set.length = true := inb_iff.2 ⟨by omega, by omega⟩
   have g3 : inb (k : Int) m.length = true := inb_iff.2 ⟨by omega, by omega⟩
   have g4 : IntKind.i64.wrap ((k : Int) + 1) = ((k + 1 : Nat) : Int) := w64 (by omega)
   have hd : set.drop k = gt set (k : Int) :: set.drop (k + 1) := drop_gt (by omega)
   simp only [g1, g2, g3, cond_true, Bool.true_and, g4]
   rw [show ((k : Int)).toNat = k from rfl, init_loop N set hs hN n _ (k + 1) (by simp [hm]) (by omega) (by omega), hd]
   rw [List.take_add_one, List.getElem?_set_self (by omega), List.take_set_of_le (by omega)]
   simp
  ·have g1 : decide ((k : Int) < (N : Int)) = false := by simp; omega
   rw [g1, List.drop_eq_nil_of_le (by omega), List.take_of_length_le (by omega)]; simp
def Sub (N : Nat) (a b : List Bool) : Prop := ∀ i : Int, 0 ≤ i → i < (N : Int) → gt a i = true → gt b i = true
theorem grow_loop {E : List Edge} {set : List Bool} {N : Nat} {G : List (List Int)} (hs : set.length = N) (hE : ∀ e ∈ E, (0 ≤ e.fFrom ∧ e.fFrom < (N : Int)) ∧ (0 ≤ e.fTo ∧ e.fTo < (N : Int)) ∧ e.fTo ∈ gt G e.fFrom) (hl : E.length ≤ 20000) :
  ∀ (n : Nat) (out : List Bool) (ch : Bool) (k : Nat), out.length = N → Sub N set out → k ≤ E.length → E.length - k < n →
  ∃ out' ch', fn79_l3 E set n out ch (k : Int) = some (out', ch') ∧ out'.length = N ∧ Sub N out out' ∧ ((∀ i : Int, 0 ≤ i → i < (N : Int) → gt out i = true → Rch G i) → ∀ i : Int, 0 ≤ i → i < (N : Int) → gt out' i = true → Rch G i) ∧
   ((cnt (gt out') N < cnt (gt out) N ∧ ch' = true) ∨ (out' = out ∧ ch' = ch ∧ ∀ e ∈ E.drop k, gt out e.fFrom = true → gt out e.fTo = true))
 | 0, out, ch, k, _, _, _, h => by omega
 | n + 1, out, ch, k, ho, hsub, hk, hn => by
  rw [fn79_l3_s]
  rcases Nat.lt_or_ge k E.length with h | h
  ·have g1 : decide ((k : Int) < (E.length : Int)) = true := by simp; omega
   have g2 : inb (k : Int) E.length = true := inb_iff.2 ⟨by omega, by omega⟩
   have hd : E.drop k = gt E (k : Int) :: E.drop (k + 1) := drop_gt h
   have hm : gt E (k : Int) ∈ E := gt_mem (by omega) (by omega)
   obtain ⟨⟨f0, f1⟩, ⟨t0, t1⟩, ht⟩ := hE _ hm
   have g3 : inb (gt E (k : Int)).fFrom set.length = true := by rw [hs]; exact inb_iff.2 ⟨f0, f1⟩
   have g5 : inb (gt E (k : Int)).fFrom out.length = true := by rw [ho]; exact inb_iff.2 ⟨f0, f1⟩
   have g6 : inb (gt E (k : Int)).fTo out.length = true := by rw [ho]; exact inb_iff.2 ⟨t0, t1⟩
   have g4 : IntKind.i64.wrap ((k : Int) + 1) = ((k + 1 : Nat) : Int) := w64 (by omega)
   have hor : ((gt set (gt E (k : Int)).fFrom) || (gt out (gt E (k : Int)).fFrom)) = gt out (gt E (k : Int)).fFrom := by
    cases h1 : gt set (gt E (k : Int)).fFrom with
    | false => rfl
    | true => rw [hsub _ f0 f1 h1]; rfl
   have a1 : (bif gt set (gt E (k : Int)).fFrom then true else inb (gt E (k : Int)).fFrom out.length) = true := by rw [g5]; cases gt set (gt E (k : Int)).fFrom <;> rfl
   have a2 : ∀ b : Bool, (bif b then true else true) = true := fun b => by cases b <;> rfl
   simp only [g1, g2, g3, a1, a2, hor, g4, g6, cond_true]
   rw [hd]
   cases hc : (gt out (gt E (k : Int)).fFrom && !(gt out (gt E (k : Int)).fTo)) with
   | true =>
    simp at hc
    obtain ⟨c1, c2⟩ := hc
    simp only [cond_true]
    have hset : ∀ i : Int, 0 ≤ i → gt (out.set (gt E (k : Int)).fTo.toNat true) i = if (gt E (k : Int)).fTo = i then true else gt out i := fun i hi => gt_set t0 (by rw [ho]; exact t1) hi
    have hs2 : Sub N out (out.set (gt E (k : Int)).fTo.toNat true) := fun i h0 h1 h2 => by rw [hset i h0]; split; rfl; exact h2
    obtain ⟨out', ch', e1, e2, e3, e4, e5⟩ := grow_loop hs hE hl n (out.set (gt E (k : Int)).fTo.toNat true) true (k + 1) (by simp [ho]) (fun i h0 h1 h2 => hs2 i h0 h1 (hsub i h0 h1 h2)) (by omega) (by omega)
    have hlt : cnt (gt (out.set (gt E (k : Int)).fTo.toNat true)) N < cnt (gt out) N := cnt_lt N (fun i h0 h1 h2 => hs2 i h0 h1 h2) _ t0 t1 c2 (by rw [hset _ t0]; simp)
    refine ⟨out', ch', e1, e2, fun i h0 h1 h2 => e3 i h0 h1 (hs2 i h0 h1 h2), fun hr i h0 h1 h2 => e4 (fun i h0 h1 h2 => ?_) i h0 h1 h2, .inl ?_⟩
    ·rw [hset i h0] at h2
     by_cases hi : (gt E (k : Int)).fTo = i
     ·rw [← hi]; exact (hr _ f0 f1 c1).step ht
     ·rw [if_neg hi] at h2; exact hr i h0 h1 h2
    ·rcases e5 with ⟨q1, q2⟩ | ⟨q1, q2, _⟩
     ·exact ⟨by omega, q2⟩
     ·rw [q1]; exact ⟨hlt, q2⟩
   | false =>
    simp only [cond_false]
    obtain ⟨out', ch', e1, e2, e3, e4, e5⟩ := grow_loop hs hE hl n out ch (k + 1) ho hsub (by omega) (by omega)
    refine ⟨out', ch', e1, e2, e3, e4, ?_⟩
    rcases e5 with h5 | ⟨q1, q2, q3⟩
    ·exact .inl h5
    ·refine .inr ⟨q1, q2, fun e he => ?_⟩
     rcases List.mem_cons.1 he with rfl | he
     ·intro h1; rw [h1] at hc; simpa using hc
     ·exact q3 e he
  ·have g1 : decide ((k : Int) < (E.length : Int)) = false := by simp; omega
   rw [g1, List.drop_eq_nil_of_le (by omega)]
   exact ⟨out, ch, rfl, ho, fun _ _ _ h => h, fun h => h, .inr ⟨rfl, rfl, fun e he => by simp at he⟩⟩
theorem grow_all {F : Nat} (hF : 25000 ≤ F ∨ 9000 ≤ F) {E : List Edge} {set : List Bool} {N : Nat} {G : List (List Int)} (hs : set.length = N) (hE : ∀ e ∈ E, (0 ≤ e.fFrom ∧ e.fFrom < (N : Int)) ∧ (0 ≤ e.fTo ∧ e.fTo < (N : Int)) ∧ e.fTo ∈ gt G e.fFrom) (hl : E.length ≤ 8000) :
  ∀ (n : Nat) (out : List Bool) (ch : Bool), out.length = N → Sub N set out → cnt (gt out) N + 1 < n → (∀ i : Int, 0 ≤ i → i < (N : Int) → gt out i = true → Rch G i) → (ch = false → ∀ e ∈ E, gt out e.fFrom = true → gt out e.fTo = true) →
  ∃ R, fn79_l2 F E set n out ch = some R ∧ R.length = N ∧ Sub N out R ∧ (∀ i : Int, 0 ≤ i → i < (N : Int) → gt R i = true → Rch G i) ∧ ∀ e ∈ E, gt R e.fFrom = true → gt R e.fTo = true
 | 0, out, ch, _, _, h, _, _ => by omega
 | n + 1, out, ch, ho, hsub, hn, hr, hcl => by
  rw [fn79_l2_s]
  cases ch with
  | false => exact ⟨out, rfl, ho, fun _ _ _ h => h, hr, hcl rfl⟩
  | true =>
   have hF' : 9000 ≤ F := by rcases hF with h | h <;> omega
   obtain ⟨out', ch', e1, e2, e3, e4, e5⟩ := grow_loop hs hE (by omega) F out false 0 ho hsub (by omega) (by omega)
   rw [show ((0 : Nat) : Int) = 0 from rfl] at e1
   simp only [cond_true, e1, Option.bind_some, fn79_k3]
   rcases e5 with ⟨q1, q2⟩ | ⟨q1, q2, q3⟩
   ·obtain ⟨R, r1, r2, r3, r4, r5⟩ := grow_all hF hs hE hl n out' ch' e2 (fun i h0 h1 h2 => e3 i h0 h1 (hsub i h0 h1 h2)) (by omega) (e4 hr) (fun h => by rw [q2] at h; cases h)
    exact ⟨R, r1, r2, fun i h0 h1 h2 => r3 i h0 h1 (e3 i h0 h1 h2), r4, r5⟩
   ·subst q1
    rw [List.drop_zero] at q3
    cases n with
    | zero => omega
    | succ n =>
     rw [q2, fn79_l2_s]
     exact ⟨out', rfl, e2, fun _ _ _ h => h, hr, q3⟩
theorem reached_ref {F : Nat} {p : List Instr} (hF : 9000 ≤ F) (hp : p.length ≤ 1000) : ∃ R, fn31 F p = some R ∧ IsR (stp p) R := by
 rw [fn31, check_ref (by omega) (by omega), Option.bind_some]
 cases ho : okP p with
 | false =>
  rw [not_ok ho, cond_true]
  exact ⟨[], rfl, by rw [stp_nil ho]; exact ⟨rfl, fun i a b => by simp at b; omega⟩⟩
 | true =>
  have hl : (stp p).length = p.length := by rw [stp_length, ho]; rfl
  obtain ⟨hne, hlen⟩ := ok_len ho
  have hpos : 0 < p.length := List.length_pos_iff.2 hne
  have g : (decide (0 ≤ (p.length : Int)) && decide ((p.length : Int) ≤ (p.length : Int)) && decide ((1 : Int) * (p.length : Int) ≤ 281474976710656) && decide ((p.length : Int) ≤ 9223372036854775807)) = true := by simp; omega
  have g2 : inb 0 ((p.length : Int).toNat) = true := inb_iff.2 ⟨by omega, by simp; omega⟩
  rw [is_ok ho, cond_false, g, cond_true, g2, cond_true, edges_ref (by omega) (by omega), Option.bind_some]
  rw [show ((p.length : Int)).toNat = p.length from by omega, show ((0 : Int)).toNat = 0 from rfl]
  have hset : ((List.replicate p.length false).set 0 true).length = p.length := by simp
  have hin := init_loop p.length ((List.replicate p.length false).set 0 true) hset (by omega) F (List.replicate p.length false) 0 (by simp) (by omega) (by omega)
  rw [show ((0 : Nat) : Int) = 0 from rfl, List.take_zero, List.nil_append, List.drop_zero] at hin
  rw [fn79, g, cond_true, show ((p.length : Int)).toNat = p.length from by omega, hin, Option.bind_some, fn79_k1]
  have hgs : ∀ i : Int, 0 ≤ i → i < (p.length : Int) → (gt ((List.replicate p.length false).set 0 true) i = true ↔ i = 0) := fun i h0 h1 => by
   have := gt_set (v := List.replicate p.length false) (i := 0) (k := i) (a := true) (by omega) (by simp; omega) h0
   rw [show ((0 : Int)).toNat = 0 from rfl] at this
   rw [this]
   have e0 : gt (List.replicate p.length false) i = false := by simp [gt, List.getD_eq_getElem?_getD, List.getElem?_replicate]; split <;> rfl
   rw [e0]
   constructor
   ·intro h; split at h
    ·omega
    ·cases h
   ·intro h; simp [h]
  have hc := cnt_le (gt ((List.replicate p.length false).set 0 true)) p.length
  obtain ⟨R, r1, r2, r3, r4, r5⟩ := grow_all (F := F) (.inr hF) (E := (eds p).map mkE) (G := stp p) hset (fun e he => by
   obtain ⟨a, b⟩ := EE_in he
   rw [hl] at a b
   exact ⟨a, b, (mem_EE.1 he).2⟩) (by rw [List.length_map]; have := eds_len (p := p); omega) F _ true hset (fun _ _ _ h => h) (by omega) (fun i h0 h1 h2 => by rw [(hgs i h0 h1).1 h2]; exact .base) (fun h => by cases h)
  rw [r1]
  refine ⟨R, rfl, by rw [r2, hl], fun i h0 h1 => ⟨fun h => r4 i h0 (by omega) h, fun h => ?_⟩⟩
  clear h0 h1
  have hv := stp_valid p
  induction h with
  | base => exact r3 0 (by omega) (by omega) ((hgs 0 (by omega) (by omega)).2 rfl)
  | @step a b ha hb ih => exact r5 ⟨a, b⟩ (mem_EE.2 ⟨(ha.lt hv (by omega)).1, hb⟩) ih
end Go.Proofs.YthpjmknpkdoadaaGreat
namespace Go.Proofs.YthpjmknpkdoadaaGreat
open Go Go.HW
set_option maxRecDepth 8000
set_option linter.unusedVariables false
def onB (E : List Edge) (left : List Bool) (a : Int) : Bool := E.any fun e => (e.fFrom == a) && gt left e.fTo
theorem on_loop {E : List Edge} {left : List Bool} {N : Nat} (hN : left.length = N) (hE : ∀ e ∈ E, 0 ≤ e.fTo ∧ e.fTo < (N : Int)) (hl : E.length ≤ 8000) (a : Int) : ∀ (n : Nat) (on : Bool) (k : Nat), k ≤ E.length → E.length - k < n →
  fn30_l3 E left a n on (k : Int) = some (on || onB (E.drop k) left a)
 | 0, on, k, _, h => by omega
 | n + 1, on, k, hk, hn => by
  rw [fn30_l3_s]
  rcases Nat.lt_or_ge k E.length with h | h
  ·have g1 : decide ((k : Int) < (E.length : Int)) = true := by simp; omega
   have g2 : inb (k : Int) E.length = true := inb_iff.2 ⟨by omega, by omega⟩
   have hd : E.drop k = gt E (k : Int) :: E.drop (k + 1) := drop_gt h
   have hm : gt E (k : Int) ∈ E := gt_mem (by omega) (by omega)
   have g3 : inb (gt E (k : Int)).fTo left.length = true := by rw [hN]; exact inb_iff.2 (hE _ hm)
   have g4 : IntKind.i64.wrap ((k : Int) + 1) = ((k + 1 : Nat) : Int) := w64 (by omega)
   have a2 : ∀ b : Bool, (bif b then true else true) = true := fun b => by cases b <;> rfl
   simp only [g1, g2, g3, a2, g4, cond_true]
   rw [on_loop hN hE hl a n _ (k + 1) (by omega) (by omega), hd]
   have : onB (gt E (k : Int) :: E.drop (k + 1)) left a = (((gt E (k : Int)).fFrom == a && gt left (gt E (k : Int)).fTo) || onB (E.drop (k + 1)) left a) := rfl
   rw [this, Bool.or_assoc]
  ·have g1 : decide ((k : Int) < (E.length : Int)) = false := by simp; omega
   rw [g1, List.drop_eq_nil_of_le (by omega)]; simp [onB]
theorem prune_loop {F : Nat} (hF : 9000 ≤ F) {E : List Edge} {N : Nat} (hNb : N ≤ 1000) (hE : ∀ e ∈ E, 0 ≤ e.fTo ∧ e.fTo < (N : Int)) (hl : E.length ≤ 8000) : ∀ (n : Nat) (left : List Bool) (ch : Bool) (k : Nat), left.length = N → k ≤ N → N - k < n →
  ∃ left' ch', fn30_l2 F E n left ch (k : Int) = some (left', ch') ∧ left'.length = N ∧ Sub N left' left ∧
   (∀ X : List Int, (∀ x ∈ X, (0 ≤ x ∧ x < (N : Int)) ∧ ∃ e ∈ E, e.fFrom = x ∧ e.fTo ∈ X) → (∀ x ∈ X, gt left x = true) → ∀ x ∈ X, gt left' x = true) ∧
   ((cnt (fun i => !gt left' i) N < cnt (fun i => !gt left i) N ∧ ch' = true) ∨ (left' = left ∧ ch' = ch ∧ ∀ i : Int, (k : Int) ≤ i → i < (N : Int) → gt left i = true → onB E left i = true))
 | 0, left, ch, k, _, _, h => by omega
 | n + 1, left, ch, k, hN, hk, hn => by
  rw [fn30_l2_s]
  rcases Nat.lt_or_ge k N with h | h
  ·have g1 : decide ((k : Int) < (left.length : Int)) = true := by simp; omega
   have g2 : inb (k : Int) left.length = true := inb_iff.2 ⟨by omega, by omega⟩
   have g4 : IntKind.i64.wrap ((k : Int) + 1) = ((k + 1 : Nat) : Int) := w64 (by omega)
   have hon := on_loop hN hE hl (k : Int) F false 0 (by omega) (by omega)
   rw [show ((0 : Nat) : Int) = 0 from rfl, List.drop_zero, Bool.false_or] at hon
   simp only [g1, g2, cond_true, g4, hon, Option.bind_some, fn30_k3]
   have skip : ∀ (hk2 : gt left (k : Int) = true → onB E left (k : Int) = true), ∃ left' ch', fn30_l2 F E n left ch ((k + 1 : Nat) : Int) = some (left', ch') ∧ left'.length = N ∧ Sub N left' left ∧
     (∀ X : List Int, (∀ x ∈ X, (0 ≤ x ∧ x < (N : Int)) ∧ ∃ e ∈ E, e.fFrom = x ∧ e.fTo ∈ X) → (∀ x ∈ X, gt left x = true) → ∀ x ∈ X, gt left' x = true) ∧
     ((cnt (fun i => !gt left' i) N < cnt (fun i => !gt left i) N ∧ ch' = true) ∨ (left' = left ∧ ch' = ch ∧ ∀ i : Int, (k : Int) ≤ i → i < (N : Int) → gt left i = true → onB E left i = true)) := fun hk2 => by
    obtain ⟨left', ch', e1, e2, e3, e4, e5⟩ := prune_loop hF hNb hE hl n left ch (k + 1) hN (by omega) (by omega)
    refine ⟨left', ch', e1, e2, e3, e4, ?_⟩
    rcases e5 with h5 | ⟨q1, q2, q3⟩
    ·exact .inl h5
    ·refine .inr ⟨q1, q2, fun i h0 h1 h2 => ?_⟩
     by_cases hi : i = (k : Int)
     ·subst hi; exact hk2 h2
     ·exact q3 i (by omega) h1 h2
   cases hg : gt left (k : Int) with
   | false =>
    simp only [Bool.not_false, cond_true]
    exact skip (fun h => by rw [hg] at h; cases h)
   | true =>
    simp only [Bool.not_true, cond_false]
    cases ho : onB E left (k : Int) with
    | true =>
     simp only [Bool.not_true, cond_false]
     exact skip (fun _ => ho)
    | false =>
     simp only [Bool.not_false, cond_true]
     have hset : ∀ i : Int, 0 ≤ i → gt (left.set ((k : Int)).toNat false) i = if (k : Int) = i then false else gt left i := fun i hi => gt_set (by omega) (by omega) hi
     obtain ⟨left', ch', e1, e2, e3, e4, e5⟩ := prune_loop hF hNb hE hl n (left.set ((k : Int)).toNat false) true (k + 1) (by simp [hN]) (by omega) (by omega)
     have hs2 : Sub N (left.set ((k : Int)).toNat false) left := fun i h0 h1 h2 => by
      rw [hset i h0] at h2; split at h2
      ·cases h2
      ·exact h2
     have hlt : cnt (fun i => !gt (left.set ((k : Int)).toNat false) i) N < cnt (fun i => !gt left i) N := cnt_lt N (fun i h0 h1 h2 => by
      rw [hset i h0]; split
      ·rfl
      ·exact h2) (k : Int) (by omega) (by omega) (by rw [hg]; rfl) (by rw [hset _ (by omega)]; simp)
     refine ⟨left', ch', e1, e2, fun i h0 h1 h2 => hs2 i h0 h1 (e3 i h0 h1 h2), fun X hX hXl => e4 X hX (fun x hx => ?_), .inl ?_⟩
     ·obtain ⟨⟨x0, x1⟩, e, he, h3, h4⟩ := hX x hx
      rw [hset x x0]
      split
      ·rename_i hkx
       exfalso
       have : onB E left (k : Int) = true := List.any_eq_true.2 ⟨e, he, by rw [h3, hkx]; simp [hXl _ h4]⟩
       rw [ho] at this; cases this
      ·exact hXl x hx
     ·rcases e5 with ⟨q1, q2⟩ | ⟨q1, q2, _⟩
      ·exact ⟨by omega, q2⟩
      ·rw [q1]; exact ⟨hlt, q2⟩
  ·have g1 : decide ((k : Int) < (left.length : Int)) = false := by simp; omega
   rw [g1]
   exact ⟨left, ch, rfl, hN, fun _ _ _ h => h, fun X _ h => h, .inr ⟨rfl, rfl, fun i h0 h1 _ => by omega⟩⟩
theorem prune_all {F : Nat} (hF : 9000 ≤ F) {E : List Edge} {N : Nat} (hNb : N ≤ 1000) (hE : ∀ e ∈ E, 0 ≤ e.fTo ∧ e.fTo < (N : Int)) (hl : E.length ≤ 8000) : ∀ (n : Nat) (left : List Bool) (ch : Bool), left.length = N → cnt (fun i => !gt left i) N + 1 < n →
  (ch = false → ∀ i : Int, 0 ≤ i → i < (N : Int) → gt left i = true → onB E left i = true) →
  ∃ L, fn30_l1 F E n left ch = some L ∧ L.length = N ∧ Sub N L left ∧
   (∀ X : List Int, (∀ x ∈ X, (0 ≤ x ∧ x < (N : Int)) ∧ ∃ e ∈ E, e.fFrom = x ∧ e.fTo ∈ X) → (∀ x ∈ X, gt left x = true) → ∀ x ∈ X, gt L x = true) ∧
   ∀ i : Int, 0 ≤ i → i < (N : Int) → gt L i = true → onB E L i = true
 | 0, left, ch, _, h, _ => by omega
 | n + 1, left, ch, hN, hn, hcl => by
  rw [fn30_l1_s]
  cases ch with
  | false => exact ⟨left, rfl, hN, fun _ _ _ h => h, fun X _ h => h, hcl rfl⟩
  | true =>
   obtain ⟨left', ch', e1, e2, e3, e4, e5⟩ := prune_loop hF hNb hE hl F left false 0 hN (by omega) (by omega)
   rw [show ((0 : Nat) : Int) = 0 from rfl] at e1 e5
   simp only [cond_true, e1, Option.bind_some, fn30_k2]
   rcases e5 with ⟨q1, q2⟩ | ⟨q1, q2, q3⟩
   ·obtain ⟨L, r1, r2, r3, r4, r5⟩ := prune_all hF hNb hE hl n left' ch' e2 (by omega) (fun h => by rw [q2] at h; cases h)
    exact ⟨L, r1, r2, fun i h0 h1 h2 => e3 i h0 h1 (r3 i h0 h1 h2), fun X hX hl => r4 X hX (e4 X hX hl), r5⟩
   ·subst q1
    cases n with
    | zero => omega
    | succ n =>
     rw [q2, fn30_l1_s]
     exact ⟨left', rfl, e2, fun _ _ _ h => h, fun X _ h => h, q3⟩
theorem any_loop {L : List Bool} (hL : L.length ≤ 5000) : ∀ (n k : Nat), k ≤ L.length → L.length - k < n → fn30_l4 L n (k : Int) = some (bif (L.drop k).any id then .inr true else .inl ())
 | 0, k, _, h => by omega
 | n + 1, k, hk, hn => by
  rw [fn30_l4_s]
  rcases Nat.lt_or_ge k L.length with h | h
  ·have g1 : decide ((k : Int) < (L.length : Int)) = true := by simp; omega
   have g2 : inb (k : Int) L.length = true := inb_iff.2 ⟨by omega, by omega⟩
   have g4 : IntKind.i64.wrap ((k : Int) + 1) = ((k + 1 : Nat) : Int) := w64 (by omega)
   have hd : L.drop k = gt L (k : Int) :: L.drop (k + 1) := drop_gt h
   simp only [g1, g2, cond_true, g4]
   rw [any_loop hL n (k + 1) (by omega) (by omega), hd, List.any_cons]
   cases gt L (k : Int) <;> rfl
  ·have g1 : decide ((k : Int) < (L.length : Int)) = false := by simp; omega
   rw [g1, List.drop_eq_nil_of_le (by omega)]; rfl
theorem loops_ref {F : Nat} {p : List Instr} (hF : 9000 ≤ F) (hp : p.length ≤ 1000) : ∃ b, fn30 F p = some b ∧ (b = true ↔ Rnd (stp p)) := by
 obtain ⟨R, h1, h2, h3⟩ := reached_ref hF hp
 have hv := stp_valid p
 have hsl : (stp p).length ≤ p.length := by rw [stp_length]; split <;> omega
 rw [fn30, h1, Option.bind_some, edges_ref (by omega) (by omega), Option.bind_some]
 have hc := cnt_le (fun i => !gt R i) (stp p).length
 obtain ⟨L, l1, l2, l3, l4, l5⟩ := prune_all hF (E := EE p) (N := (stp p).length) (by omega) (fun e he => (EE_in he).2) (by rw [List.length_map]; have := eds_len (p := p); omega) F R true h2 (by omega) (fun h => by cases h)
 rw [l1, Option.bind_some, fn30_k1]
 have ha := any_loop (L := L) (by omega) F 0 (by omega) (by omega)
 rw [show ((0 : Nat) : Int) = 0 from rfl, List.drop_zero] at ha
 rw [ha]
 refine ⟨L.any id, by cases L.any id <;> rfl, ?_⟩
 have hin : ∀ i : Int, 0 ≤ i → i < ((stp p).length : Int) → gt L i = true → Rch (stp p) i := fun i a b h => (h3 i a b).1 (l3 i a b h)
 constructor
 ·intro h
  obtain ⟨b, hb, hb'⟩ := List.any_eq_true.1 h
  obtain ⟨j, hj, e⟩ := List.mem_iff_getElem.1 hb
  have hgj : gt L (j : Int) = true := by
   have e1 : gt L (j : Int) = L[j] := by simp [gt, hj]
   rw [e1, e]; exact hb'
  refine ⟨((List.range (stp p).length).map (fun i : Nat => (i : Int))).filter (fun i => gt L i), ?_, fun x hx => ?_⟩
  ·intro hn
   have : (j : Int) ∈ ((List.range (stp p).length).map (fun i : Nat => (i : Int))).filter (fun i => gt L i) :=
    List.mem_filter.2 ⟨List.mem_map.2 ⟨j, by simp; omega, rfl⟩, hgj⟩
   rw [hn] at this; simp at this
  ·obtain ⟨m1, m2⟩ := List.mem_filter.1 hx
   obtain ⟨i, hi, rfl⟩ := List.mem_map.1 m1
   have hi' : i < (stp p).length := by simpa using hi
   have hon := l5 (i : Int) (by omega) (by omega) m2
   obtain ⟨e, he, h5⟩ := List.any_eq_true.1 hon
   simp at h5
   obtain ⟨h6, h7⟩ := h5
   obtain ⟨_, ht⟩ := mem_EE.1 he
   rw [h6] at ht
   obtain ⟨t0, t1⟩ := hv.at ht
   refine ⟨hin _ (by omega) (by omega) m2, e.fTo, ht, List.mem_filter.2 ⟨List.mem_map.2 ⟨e.fTo.toNat, by simp; omega, by omega⟩, h7⟩⟩
 ·rintro ⟨X, hne, hX⟩
  cases X with
  | nil => exact absurd rfl hne
  | cons x X =>
   have hlt : ∀ y ∈ x :: X, 0 ≤ y ∧ y < ((stp p).length : Int) := fun y hy => by
    obtain ⟨hr, t, ht, _⟩ := hX y hy
    have hpos : 0 < (stp p).length := by
     rcases Nat.eq_zero_or_pos (stp p).length with h | h
     ·have : stp p = [] := List.eq_nil_of_length_eq_zero h
      rw [this] at ht; simp [gt] at ht; cases ht
     ·exact h
    exact hr.lt hv hpos
   have := l4 (x :: X) (fun y hy => by
    obtain ⟨_, t, ht, htX⟩ := hX y hy
    exact ⟨hlt y hy, ⟨y, t⟩, mem_EE.2 ⟨(hlt y hy).1, ht⟩, rfl, htX⟩) (fun y hy => (h3 y (hlt y hy).1 (hlt y hy).2).2 (hX y hy).1) x (by simp)
   obtain ⟨x0, x1⟩ := hlt x (by simp)
   exact List.any_eq_true.2 ⟨gt L x, gt_mem x0 (by omega), by simpa using this⟩
end Go.Proofs.YthpjmknpkdoadaaGreat
namespace Go.Proofs.YthpjmknpkdoadaaGreat
open Go Go.HW
set_option linter.unusedVariables false
theorem findLoop {α : Type} [Inhabited α] (l : List α) (cb : α → Bool) (f : Nat → Int → Option (Unit ⊕ Int)) (hl : l.length ≤ 100000)
  (hf : ∀ n (k : Nat), k ≤ l.length → f (n + 1) (k : Int) = bif decide ((k : Int) < (l.length : Int)) then (bif inb (k : Int) l.length then (bif cb (gt l (k : Int)) then some (.inr (k : Int)) else f n (IntKind.i64.wrap ((k : Int) + 1))) else none) else some (.inl ())) :
  ∀ (n k : Nat), k ≤ l.length → l.length - k < n →
   (f n (k : Int) = some (.inl ()) ∧ ∀ y ∈ l.drop k, cb y = false) ∨
   ∃ i : Nat, f n (k : Int) = some (.inr (i : Int)) ∧ k ≤ i ∧ i < l.length ∧ cb (gt l (i : Int)) = true ∧ ∀ j : Nat, k ≤ j → j < i → cb (gt l (j : Int)) = false
 | 0, k, h1, h2 => by omega
 | n + 1, k, h1, h2 => by
  rw [hf n k h1]
  by_cases hk : k < l.length
  ·rw [show decide ((k : Int) < (l.length : Int)) = true by simp; omega, cond_true, show inb (k : Int) l.length = true from inb_iff.2 ⟨by omega, by omega⟩, cond_true]
   have hd : l.drop k = gt l (k : Int) :: l.drop (k + 1) := drop_gt hk
   cases hc : cb (gt l (k : Int)) with
   | true => exact .inr ⟨k, rfl, Nat.le_refl _, hk, hc, fun j h3 h4 => by omega⟩
   | false =>
    rw [cond_false, show IntKind.i64.wrap ((k : Int) + 1) = ((k + 1 : Nat) : Int) from w64 (by omega)]
    rcases findLoop l cb f hl hf n (k + 1) (by omega) (by omega) with ⟨e1, e2⟩ | ⟨i, e1, e2, e3, e4, e5⟩
    ·refine .inl ⟨e1, fun y hy => ?_⟩
     rw [hd] at hy
     rcases List.mem_cons.1 hy with rfl | hy
     ·exact hc
     ·exact e2 y hy
    ·refine .inr ⟨i, e1, by omega, e3, e4, fun j h3 h4 => ?_⟩
     rcases Nat.eq_or_lt_of_le h3 with rfl | h5
     ·exact hc
     ·exact e5 j (by omega) h4
  ·rw [show decide ((k : Int) < (l.length : Int)) = false by simp; omega, cond_false]
   exact .inl ⟨rfl, fun y hy => by rw [List.drop_eq_nil_of_le (by omega)] at hy; cases hy⟩
theorem findAny {α : Type} [Inhabited α] (l : List α) (cb : α → Bool) (f : Nat → Int → Option (Unit ⊕ Int)) (hl : l.length ≤ 100000)
  (hf : ∀ n (k : Nat), k ≤ l.length → f (n + 1) (k : Int) = bif decide ((k : Int) < (l.length : Int)) then (bif inb (k : Int) l.length then (bif cb (gt l (k : Int)) then some (.inr (k : Int)) else f n (IntKind.i64.wrap ((k : Int) + 1))) else none) else some (.inl ())) {F : Nat} (hF : 100001 ≤ F ∨ l.length < F) :
  ((Option.bind (f F 0) fun o => match o with | .inl _ => some (-1) | .inr u => some u).bind fun v => some (decide ((0 : Int) ≤ v))) = some (l.any cb) := by
 rcases findLoop l cb f hl hf F 0 (by omega) (by omega) with ⟨e1, e2⟩ | ⟨i, e1, e2, e3, e4, e5⟩
 ·rw [show ((0 : Nat) : Int) = 0 from rfl] at e1
  rw [e1]
  have : l.any cb = false := by
   rw [List.any_eq_false]; intro x hx; rw [e2 x (by simpa using hx)]; simp
  rw [this]; rfl
 ·rw [show ((0 : Nat) : Int) = 0 from rfl] at e1
  rw [e1]
  have hm : gt l (i : Int) ∈ l := by
   have : gt l (i : Int) = l[i] := by simp [gt, e3]
   rw [this]; exact List.getElem_mem _
  have : l.any cb = true := List.any_eq_true.2 ⟨_, hm, e4⟩
  rw [this]; simp
theorem has114 {F : Nat} (l : List Int) (y : Int) (hl : l.length ≤ 1000) (hF : l.length < F) : fn114 F l y = some (decide (y ∈ l)) := by
 have := findAny l (fun z => y == z) (fn141_l1 l y) (by omega) (fun n k _ => fn141_l1_s l y n k) (F := F) (.inr hF)
 rw [fn114, fn141]
 refine Eq.trans this ?_
 congr 1
 rw [List.any_beq]
 simp
theorem has102 {F : Nat} (l : List Int) (y : Int) (hl : l.length ≤ 1000) (hF : l.length < F) : fn102 F l y = some (decide (y ∈ l)) := by
 have := findAny l (fun z => y == z) (fn128_l1 l y) (by omega) (fun n k _ => fn128_l1_s l y n k) (F := F) (.inr hF)
 rw [fn102, fn128]
 refine Eq.trans this ?_
 congr 1
 rw [List.any_beq]
 simp
theorem set_l {α : Type} {n : Nat} (x : Ar α n) (i : Nat) (u : α) : (x.set (i : Int) u).l = x.l.set i u := rfl
theorem tdivN (a W : Nat) (ha : a ≤ 100000) : IntKind.i64.wrap ((a : Int).tdiv (W : Int)) = ((a / W : Nat) : Int) := by
 rw [← Int.ofNat_tdiv]
 have : a / W ≤ a := Nat.div_le_self a W
 generalize a / W = q at *
 exact w64 (by omega)
theorem tmodN (a W : Nat) : (a : Int).tmod (W : Int) = ((a % W : Nat) : Int) := (Int.ofNat_tmod a W).symm
structure OkK (k : Known) : Prop where
 w16 : k.fregs.fwidth = 16
 w64 : k.fbytes.fwidth = 64
 r16 : okW 16 k.fregs.fwords.l
 r64 : okW 64 k.fbytes.fwords.l
def rb (k : Known) (i : Nat) : Bool := bW 16 k.fregs.fwords.l i
def bb (k : Known) (i : Nat) : Bool := bW 64 k.fbytes.fwords.l i
theorem put_loop {k : Known} (hk : k.fregs.fwidth = 16) {l : List Int} (hl : l.length ≤ 1000) (hb : ∀ x ∈ l, 0 ≤ x ∧ x < 128) : ∀ (n j : Nat) (x : Ar Int 8), okW 16 x.l → j ≤ l.length → l.length - j < n →
  ∃ y, fn107_l1 k l n x (j : Int) = some y ∧ okW 16 y.l ∧ ∀ i : Nat, bW 16 y.l i = (bW 16 x.l i || decide ((i : Int) ∈ l.drop j))
 | 0, j, x, hx, h1, h2 => by omega
 | n + 1, j, x, hx, h1, h2 => by
  rw [fn107_l1_s]
  by_cases hj : j < l.length
  ·have hm : gt l (j : Int) ∈ l := by
    have : gt l (j : Int) = l[j] := by simp [gt, hj]
    rw [this]; exact List.getElem_mem _
   obtain ⟨b0, b1⟩ := hb _ hm
   obtain ⟨a, ha⟩ : ∃ a : Nat, gt l (j : Int) = (a : Int) := ⟨_, (Int.toNat_of_nonneg b0).symm⟩
   have ha' : a < 128 := by omega
   have hd : l.drop j = (a : Int) :: l.drop (j + 1) := by rw [← ha]; exact drop_gt hj
   have hdiv : a / 16 < x.l.length := by rw [x.h]; omega
   rw [show decide ((j : Int) < (l.length : Int)) = true by simp; omega, cond_true, show inb (j : Int) l.length = true from inb_iff.2 ⟨by omega, by omega⟩, cond_true, hk, ha,
    show (16 : Int) = ((16 : Nat) : Int) from rfl, tdivN a 16 (by omega), tmodN a 16, show (((16 : Nat) : Int) != 0) = true from rfl, cond_true,
    show inb ((a / 16 : Nat) : Int) 8 = true from inb_iff.2 ⟨by omega, by omega⟩, cond_true, show decide ((0 : Int) ≤ ((a % 16 : Nat) : Int)) = true by simp; omega, cond_true,
    show IntKind.i64.wrap ((j : Int) + 1) = ((j + 1 : Nat) : Int) from Go.Proofs.YthpjmknpkdoadaaGreat.w64 (by omega)]
   obtain ⟨p1, p2⟩ := bW_put (k := .u16) rfl (by decide) (l := x.l) hx (n := a) hdiv
   obtain ⟨y, y1, y2, y3⟩ := put_loop hk hl hb n (j + 1) (x.set ((a / 16 : Nat) : Int) (ior .u16 (gt x.l ((a / 16 : Nat) : Int)) (ishl .u16 1 ((a % 16 : Nat) : Int)))) p1 (by omega) (by omega)
   refine ⟨y, y1, y2, fun i => ?_⟩
   rw [y3, set_l]
   have := p2 i
   simp only [show IntKind.u16.bits = 16 from rfl] at this
   rw [this, hd, Bool.or_assoc]
   congr 1
   rw [← Bool.decide_or]
   congr 1
   simp only [List.mem_cons, eq_iff_iff]
   constructor
   ·rintro (h | h)
    ·exact .inl (by omega)
    ·exact .inr h
   ·rintro (h | h)
    ·exact .inl (by omega)
    ·exact .inr h
  ·rw [show decide ((j : Int) < (l.length : Int)) = false by simp; omega, cond_false]
   exact ⟨x, rfl, hx, fun i => by rw [List.drop_eq_nil_of_le (by omega)]; simp⟩
theorem put_ok {F : Nat} {k : Known} (hk : OkK k) {l : List Int} (hl : l.length ≤ 1000) (hF : l.length < F) (hb : ∀ x ∈ l, 0 ≤ x ∧ x < 128) : ∃ k', fn107 F k l = some k' ∧ OkK k' ∧ (∀ i : Nat, rb k' i = (rb k i || decide ((i : Int) ∈ l))) ∧ k'.fbytes = k.fbytes := by
 obtain ⟨y, y1, y2, y3⟩ := put_loop hk.w16 hl hb F 0 k.fregs.fwords hk.r16 (by omega) (by omega)
 rw [show ((0 : Nat) : Int) = 0 from rfl] at y1
 refine ⟨⟨⟨y, k.fregs.fwidth⟩, k.fbytes⟩, by rw [fn107, y1]; rfl, ⟨hk.w16, hk.w64, y2, hk.r64⟩, fun i => by rw [rb, y3, List.drop_zero]; rfl, rfl⟩
theorem put64_loop {k : Known} (hk : k.fbytes.fwidth = 64) {l : List Int} (hl : l.length ≤ 1000) (hb : ∀ x ∈ l, 0 ≤ x ∧ x < 512) : ∀ (n j : Nat) (x : Ar Int 8), okW 64 x.l → j ≤ l.length → l.length - j < n →
  ∃ y, fn140_l1 k l n x (j : Int) = some y ∧ okW 64 y.l ∧ ∀ i : Nat, bW 64 y.l i = (bW 64 x.l i || decide ((i : Int) ∈ l.drop j))
 | 0, j, x, hx, h1, h2 => by omega
 | n + 1, j, x, hx, h1, h2 => by
  rw [fn140_l1_s]
  by_cases hj : j < l.length
  ·have hm : gt l (j : Int) ∈ l := by
    have : gt l (j : Int) = l[j] := by simp [gt, hj]
    rw [this]; exact List.getElem_mem _
   obtain ⟨b0, b1⟩ := hb _ hm
   obtain ⟨a, ha⟩ : ∃ a : Nat, gt l (j : Int) = (a : Int) := ⟨_, (Int.toNat_of_nonneg b0).symm⟩
   have ha' : a < 512 := by omega
   have hd : l.drop j = (a : Int) :: l.drop (j + 1) := by rw [← ha]; exact drop_gt hj
   have hdiv : a / 64 < x.l.length := by rw [x.h]; omega
   rw [show decide ((j : Int) < (l.length : Int)) = true by simp; omega, cond_true, show inb (j : Int) l.length = true from inb_iff.2 ⟨by omega, by omega⟩, cond_true, hk, ha,
    show (64 : Int) = ((64 : Nat) : Int) from rfl, tdivN a 64 (by omega), tmodN a 64, show (((64 : Nat) : Int) != 0) = true from rfl, cond_true,
    show inb ((a / 64 : Nat) : Int) 8 = true from inb_iff.2 ⟨by omega, by omega⟩, cond_true, show decide ((0 : Int) ≤ ((a % 64 : Nat) : Int)) = true by simp; omega, cond_true,
    show IntKind.i64.wrap ((j : Int) + 1) = ((j + 1 : Nat) : Int) from Go.Proofs.YthpjmknpkdoadaaGreat.w64 (by omega)]
   obtain ⟨p1, p2⟩ := bW_put (k := .u64) rfl (by decide) (l := x.l) hx (n := a) hdiv
   obtain ⟨y, y1, y2, y3⟩ := put64_loop hk hl hb n (j + 1) (x.set ((a / 64 : Nat) : Int) (ior .u64 (gt x.l ((a / 64 : Nat) : Int)) (ishl .u64 1 ((a % 64 : Nat) : Int)))) p1 (by omega) (by omega)
   refine ⟨y, y1, y2, fun i => ?_⟩
   rw [y3, set_l]
   have := p2 i
   simp only [show IntKind.u64.bits = 64 from rfl] at this
   rw [this, hd, Bool.or_assoc]
   congr 1
   rw [← Bool.decide_or]
   congr 1
   simp only [List.mem_cons, eq_iff_iff]
   constructor
   ·rintro (h | h)
    ·exact .inl (by omega)
    ·exact .inr h
   ·rintro (h | h)
    ·exact .inl (by omega)
    ·exact .inr h
  ·rw [show decide ((j : Int) < (l.length : Int)) = false by simp; omega, cond_false]
   exact ⟨x, rfl, hx, fun i => by rw [List.drop_eq_nil_of_le (by omega)]; simp⟩
theorem put64_ok {F : Nat} {k : Known} (hk : OkK k) {l : List Int} (hl : l.length ≤ 1000) (hF : l.length < F) (hb : ∀ x ∈ l, 0 ≤ x ∧ x < 512) : ∃ k', fn140 F k l = some k' ∧ OkK k' ∧ (∀ i : Nat, bb k' i = (bb k i || decide ((i : Int) ∈ l))) ∧ k'.fregs = k.fregs := by
 obtain ⟨y, y1, y2, y3⟩ := put64_loop hk.w64 hl hb F 0 k.fbytes.fwords hk.r64 (by omega) (by omega)
 rw [show ((0 : Nat) : Int) = 0 from rfl] at y1
 refine ⟨⟨k.fregs, ⟨y, k.fbytes.fwidth⟩⟩, by rw [fn140, y1]; rfl, ⟨hk.w16, hk.w64, hk.r16, y2⟩, fun i => by rw [bb, y3, List.drop_zero]; rfl, rfl⟩
theorem drop_ok {k : Known} (hk : OkK k) {a : Nat} (ha : a < 128) : ∃ k', fn115 k (a : Int) = some k' ∧ OkK k' ∧ (∀ i : Nat, rb k' i = (rb k i && !decide (i = a))) ∧ k'.fbytes = k.fbytes := by
 have hdiv : a / 16 < k.fregs.fwords.l.length := by rw [k.fregs.fwords.h]; omega
 obtain ⟨p1, p2⟩ := bW_drop (k := .u16) rfl (by decide) (l := k.fregs.fwords.l) hk.r16 (n := a) hdiv
 simp only [fn115, hk.w16]
 rw [show (16 : Int) = ((16 : Nat) : Int) from rfl, tdivN a 16 (by omega), tmodN a 16, show (((16 : Nat) : Int) != 0) = true from rfl, cond_true,
    show inb ((a / 16 : Nat) : Int) 8 = true from inb_iff.2 ⟨by omega, by omega⟩, cond_true, show decide ((0 : Int) ≤ ((a % 16 : Nat) : Int)) = true by simp; omega, cond_true]
 refine ⟨_, rfl, ⟨rfl, hk.w64, p1, hk.r64⟩, fun i => ?_, rfl⟩
 exact p2 i
theorem has_one {k : Known} (hk : OkK k) {a : Nat} (ha : a < 128) : fn153 (a : Int) k = some (!rb k a) := by
 have hdiv : a / 16 < k.fregs.fwords.l.length := by rw [k.fregs.fwords.h]; omega
 simp only [fn153, hk.w16]
 rw [show (16 : Int) = ((16 : Nat) : Int) from rfl, tdivN a 16 (by omega), tmodN a 16, show (((16 : Nat) : Int) != 0) = true from rfl, cond_true,
    show inb ((a / 16 : Nat) : Int) 8 = true from inb_iff.2 ⟨by omega, by omega⟩, cond_true, show decide ((0 : Int) ≤ ((a % 16 : Nat) : Int)) = true by simp; omega, cond_true]
 have := bW_has (k := .u16) rfl (by decide) (l := k.fregs.fwords.l) hk.r16 (n := a) hdiv
 simp only [show IntKind.u16.bits = 16 from rfl] at this
 rw [this]; rfl
theorem has64_one {k : Known} (hk : OkK k) {a : Nat} (ha : a < 512) : fn154 (a : Int) k = some (!bb k a) := by
 have hdiv : a / 64 < k.fbytes.fwords.l.length := by rw [k.fbytes.fwords.h]; omega
 simp only [fn154, hk.w64]
 rw [show (64 : Int) = ((64 : Nat) : Int) from rfl, tdivN a 64 (by omega), tmodN a 64, show (((64 : Nat) : Int) != 0) = true from rfl, cond_true,
    show inb ((a / 64 : Nat) : Int) 8 = true from inb_iff.2 ⟨by omega, by omega⟩, cond_true, show decide ((0 : Int) ≤ ((a % 64 : Nat) : Int)) = true by simp; omega, cond_true]
 have := bW_has (k := .u64) rfl (by decide) (l := k.fbytes.fwords.l) hk.r64 (n := a) hdiv
 simp only [show IntKind.u64.bits = 64 from rfl] at this
 rw [this]; rfl
theorem gt_memN {l : List Int} {j : Nat} (hj : j < l.length) : gt l (j : Int) ∈ l := by
 have : gt l (j : Int) = l[j] := by simp [gt, hj]
 rw [this]; exact List.getElem_mem _
theorem has_ok {F : Nat} {k : Known} (hk : OkK k) {l : List Int} (hl : l.length ≤ 1000) (hF : l.length < F) (hb : ∀ x ∈ l, 0 ≤ x ∧ x < 128) : fn135 F k l = some (l.all fun x => rb k x.toNat) := by
 have h1 : ∀ x ∈ l, fn153 x k = some (!rb k x.toNat) := fun x hx => by
  obtain ⟨a, b⟩ := hb x hx
  have := has_one hk (a := x.toNat) (by omega)
  rwa [Int.toNat_of_nonneg a] at this
 have := findAny l (fun x => !rb k x.toNat) (fn170_l1 l k) (by omega) (fun n j hj => by
  rw [fn170_l1_s]
  by_cases hlt : j < l.length
  ·rw [h1 _ (gt_memN hlt)]; rfl
  ·rw [show decide ((j : Int) < (l.length : Int)) = false by simp; omega, cond_false, cond_false]) (F := F) (.inr hF)
 rw [fn135, fn152, fn170]
 refine (congrArg (fun o => Option.bind o fun v1 => some (!v1)) this).trans ?_
 simp [List.any_eq_not_all_not]
theorem has64_ok {F : Nat} {k : Known} (hk : OkK k) {l : List Int} (hl : l.length ≤ 1000) (hF : l.length < F) (hb : ∀ x ∈ l, 0 ≤ x ∧ x < 512) : fn137 F k l = some (l.all fun x => bb k x.toNat) := by
 have h1 : ∀ x ∈ l, fn154 x k = some (!bb k x.toNat) := fun x hx => by
  obtain ⟨a, b⟩ := hb x hx
  have := has64_one hk (a := x.toNat) (by omega)
  rwa [Int.toNat_of_nonneg a] at this
 have := findAny l (fun x => !bb k x.toNat) (fn170v1_l1 l k) (by omega) (fun n j hj => by
  rw [fn170v1_l1_s]
  by_cases hlt : j < l.length
  ·rw [h1 _ (gt_memN hlt)]; rfl
  ·rw [show decide ((j : Int) < (l.length : Int)) = false by simp; omega, cond_false, cond_false]) (F := F) (.inr hF)
 rw [fn137, fn152v1, fn170v1]
 refine (congrArg (fun o => Option.bind o fun v1 => some (!v1)) this).trans ?_
 simp [List.any_eq_not_all_not]
theorem with_loop {b : Bag16} (hb : okW 16 b.fwords.l) : ∀ (n j : Nat) (x : Ar Int 8), okW 16 x.l → j ≤ 8 → 8 - j < n →
  ∃ y, fn67_l1 b n x (j : Int) = some y ∧ okW 16 y.l ∧ ∀ i : Nat, i < 128 → bW 16 y.l i = (bif decide (j ≤ i / 16) then bW 16 x.l i && bW 16 b.fwords.l i else bW 16 x.l i)
 | 0, j, x, hx, h1, h2 => by omega
 | n + 1, j, x, hx, h1, h2 => by
  rw [fn67_l1_s]
  by_cases hj : j < 8
  ·have hjl : j < x.l.length := by rw [x.h]; exact hj
   obtain ⟨a, a1, a2⟩ := hx.at hjl
   obtain ⟨c, c1, c2⟩ := hb.at (i := j) (by rw [b.fwords.h]; exact hj)
   have e : iand .u16 (gt x.l (j : Int)) (gt b.fwords.l (j : Int)) = ((a &&& c : Nat) : Int) := by rw [a1, c1]; exact iand_nat rfl a2 c2
   rw [show decide ((j : Int) < 8) = true by simp; omega, cond_true, show inb (j : Int) 8 = true from inb_iff.2 ⟨by omega, by omega⟩, cond_true, e, show IntKind.i64.wrap ((j : Int) + 1) = ((j + 1 : Nat) : Int) from Go.Proofs.YthpjmknpkdoadaaGreat.w64 (by omega)]
   obtain ⟨y, y1, y2, y3⟩ := with_loop hb n (j + 1) (x.set (j : Int) ((a &&& c : Nat) : Int)) (hx.set (Nat.and_lt_two_pow a c2)) (by omega) (by omega)
   refine ⟨y, y1, y2, fun i hi => ?_⟩
   rw [y3 i hi, set_l]
   have hs : bW 16 (x.l.set j ((a &&& c : Nat) : Int)) i = bif decide (i / 16 = j) then bW 16 x.l i && bW 16 b.fwords.l i else bW 16 x.l i := by
    unfold bW
    rw [gt_setN hjl]
    by_cases h : i / 16 = j
    ·simp [h, a1, c1, Nat.testBit_and]
    ·simp [h]
   rw [hs]
   by_cases h : i / 16 = j
   ·have h3 : ¬ (j + 1 ≤ i / 16) := by omega
    have h4 : j ≤ i / 16 := by omega
    simp [h, h3, h4]
   ·by_cases h5 : j ≤ i / 16
    ·have h6 : j + 1 ≤ i / 16 := by omega
     simp [h, h5, h6]
    ·have h6 : ¬ (j + 1 ≤ i / 16) := by omega
     simp [h, h5, h6]
  ·rw [show decide ((j : Int) < 8) = false by simp; omega, cond_false]
   refine ⟨x, rfl, hx, fun i hi => ?_⟩
   have : ¬ (j ≤ i / 16) := by omega
   simp [this]
theorem with64_loop {b : Bag64} (hb : okW 64 b.fwords.l) : ∀ (n j : Nat) (x : Ar Int 8), okW 64 x.l → j ≤ 8 → 8 - j < n →
  ∃ y, fn68_l1 b n x (j : Int) = some y ∧ okW 64 y.l ∧ ∀ i : Nat, i < 512 → bW 64 y.l i = (bif decide (j ≤ i / 64) then bW 64 x.l i && bW 64 b.fwords.l i else bW 64 x.l i)
 | 0, j, x, hx, h1, h2 => by omega
 | n + 1, j, x, hx, h1, h2 => by
  rw [fn68_l1_s]
  by_cases hj : j < 8
  ·have hjl : j < x.l.length := by rw [x.h]; exact hj
   obtain ⟨a, a1, a2⟩ := hx.at hjl
   obtain ⟨c, c1, c2⟩ := hb.at (i := j) (by rw [b.fwords.h]; exact hj)
   have e : iand .u64 (gt x.l (j : Int)) (gt b.fwords.l (j : Int)) = ((a &&& c : Nat) : Int) := by rw [a1, c1]; exact iand_nat rfl a2 c2
   rw [show decide ((j : Int) < 8) = true by simp; omega, cond_true, show inb (j : Int) 8 = true from inb_iff.2 ⟨by omega, by omega⟩, cond_true, e, show IntKind.i64.wrap ((j : Int) + 1) = ((j + 1 : Nat) : Int) from Go.Proofs.YthpjmknpkdoadaaGreat.w64 (by omega)]
   obtain ⟨y, y1, y2, y3⟩ := with64_loop hb n (j + 1) (x.set (j : Int) ((a &&& c : Nat) : Int)) (hx.set (Nat.and_lt_two_pow a c2)) (by omega) (by omega)
   refine ⟨y, y1, y2, fun i hi => ?_⟩
   rw [y3 i hi, set_l]
   have hs : bW 64 (x.l.set j ((a &&& c : Nat) : Int)) i = bif decide (i / 64 = j) then bW 64 x.l i && bW 64 b.fwords.l i else bW 64 x.l i := by
    unfold bW
    rw [gt_setN hjl]
    by_cases h : i / 64 = j
    ·simp [h, a1, c1, Nat.testBit_and]
    ·simp [h]
   rw [hs]
   by_cases h : i / 64 = j
   ·have h3 : ¬ (j + 1 ≤ i / 64) := by omega
    have h4 : j ≤ i / 64 := by omega
    simp [h, h3, h4]
   ·by_cases h5 : j ≤ i / 64
    ·have h6 : j + 1 ≤ i / 64 := by omega
     simp [h, h5, h6]
    ·have h6 : ¬ (j + 1 ≤ i / 64) := by omega
     simp [h, h5, h6]
  ·rw [show decide ((j : Int) < 8) = false by simp; omega, cond_false]
   refine ⟨x, rfl, hx, fun i hi => ?_⟩
   have : ¬ (j ≤ i / 64) := by omega
   simp [this]
theorem with_ok {F : Nat} (hF : 10 ≤ F) {k : Known} (hk : OkK k) {q : Known} (hq : OkK q) : ∃ k1 k2, fn67 F k q.fregs = some k1 ∧ fn68 F k1 q.fbytes = some k2 ∧ OkK k2 ∧ (∀ i : Nat, i < 128 → rb k2 i = (rb k i && rb q i)) ∧ (∀ i : Nat, i < 512 → bb k2 i = (bb k i && bb q i)) := by
 obtain ⟨y, y1, y2, y3⟩ := with_loop hq.r16 F 0 k.fregs.fwords hk.r16 (by omega) (by omega)
 obtain ⟨z, z1, z2, z3⟩ := with64_loop hq.r64 F 0 k.fbytes.fwords hk.r64 (by omega) (by omega)
 rw [show ((0 : Nat) : Int) = 0 from rfl] at y1 z1
 refine ⟨_, ⟨⟨y, k.fregs.fwidth⟩, ⟨z, k.fbytes.fwidth⟩⟩, by rw [fn67, y1]; rfl, by rw [fn68]; simp only [fn67_k1]; rw [z1]; rfl, ⟨hk.w16, hk.w64, y2, z2⟩, fun i hi => by rw [rb, y3 i hi]; rfl, fun i hi => by rw [bb, z3 i hi]; rfl⟩
end Go.Proofs.YthpjmknpkdoadaaGreat
namespace Go.Proofs.YthpjmknpkdoadaaGreat
open Go Go.HW
set_option linter.unusedVariables false
def idxL (n : Nat) (f : Int → Bool) : List Int := ((List.range n).map (fun i : Nat => (i : Int))).filter f
theorem idxL_succ (n : Nat) (f : Int → Bool) : idxL (n + 1) f = idxL n f ++ (bif f (n : Int) then [(n : Int)] else []) := by
 simp only [idxL, List.range_succ, List.map_append, List.filter_append, List.map_cons, List.map_nil]
 cases h : f (n : Int) <;> simp [h]
theorem mem_idxL {n : Nat} {f : Int → Bool} {t : Int} : t ∈ idxL n f ↔ (0 ≤ t ∧ t < (n : Int)) ∧ f t = true := by
 simp only [idxL, List.mem_filter, List.mem_map, List.mem_range]
 constructor
 ·rintro ⟨⟨i, hi, rfl⟩, h⟩; exact ⟨by omega, h⟩
 ·rintro ⟨⟨h0, h1⟩, h⟩; exact ⟨⟨t.toNat, by omega, by omega⟩, h⟩
theorem idxL_len (n : Nat) (f : Int → Bool) : (idxL n f).length ≤ n := by
 have := List.length_filter_le f ((List.range n).map (fun i : Nat => (i : Int)))
 simpa [idxL] using this
theorem idxL_lt (n : Nat) (f : Int → Bool) : (idxL n f).Pairwise (fun a b => a < b) := by
 induction n with
 | zero => simp [idxL]
 | succ n ih =>
  rw [idxL_succ, List.pairwise_append]
  refine ⟨ih, by cases f (n : Int) <;> simp, fun a ha b hb => ?_⟩
  have h1 := (mem_idxL.1 ha).1
  cases hf : f (n : Int) <;> rw [hf] at hb <;> simp at hb
  omega
theorem idxL_congr {n : Nat} {f g : Int → Bool} (h : ∀ t : Int, 0 ≤ t → t < (n : Int) → f t = g t) : idxL n f = idxL n g := by
 induction n with
 | zero => rfl
 | succ n ih => rw [idxL_succ, idxL_succ, ih (fun t h0 h1 => h t h0 (by omega)), h n (by omega) (by omega)]
theorem sort_idx {K : List Int} (hn : K.Nodup) {n : Nat} {f : Int → Bool} (hm : ∀ t, t ∈ K ↔ (0 ≤ t ∧ t < (n : Int)) ∧ f t = true) : K.mergeSort (fun x y => decide (x ≤ y)) = idxL n f := by
 have tr : ∀ a b c : Int, decide (a ≤ b) = true → decide (b ≤ c) = true → decide (a ≤ c) = true := fun a b c h1 h2 => by simp only [decide_eq_true_eq] at *; omega
 have to : ∀ a b : Int, (decide (a ≤ b) || decide (b ≤ a)) = true := fun a b => by simp only [Bool.or_eq_true, decide_eq_true_eq]; omega
 have nd : (idxL n f).Nodup := (idxL_lt n f).imp (fun h => by omega)
 have hp : (K.mergeSort (fun x y => decide (x ≤ y))).Perm (idxL n f) :=
  (List.mergeSort_perm K _).trans ((List.perm_ext_iff_of_nodup hn nd).2 (fun t => (hm t).trans mem_idxL.symm))
 refine List.Perm.eq_of_pairwise (le := fun a b => decide (a ≤ b) = true) (fun a b _ _ h1 h2 => ?_) (List.pairwise_mergeSort tr to K) ((idxL_lt n f).imp (fun h => by simp only [decide_eq_true_eq]; omega)) hp
 simp only [decide_eq_true_eq] at h1 h2; omega
def tgt (p : List Instr) (t : Int) : Bool := (firstsL p 0).any fun y => (fn120 (gt p y.1) y.1).2 && ((fn120 (gt p y.1) y.1).1 == t)
theorem tgt_iff {p : List Instr} {t : Int} : tgt p t = true ↔ ∃ j : Int, pl p j = true ∧ fn120 (gt p j) j = (t, true) := by
 simp only [tgt, List.any_eq_true, Bool.and_eq_true, beq_iff_eq]
 constructor
 ·rintro ⟨y, hy, h1, h2⟩
  refine ⟨y.1, ?_, by rw [← h1, ← h2]⟩
  rw [← pos_pl, posIn, List.any_eq_true]; exact ⟨y, hy, by simp⟩
 ·rintro ⟨j, hj, h⟩
  rw [← pos_pl, posIn, List.any_eq_true] at hj
  obtain ⟨y, hy, h1⟩ := hj
  have h1 : y.1 = j := by simpa using h1
  exact ⟨y, hy, by rw [h1, h], by rw [h1, h]⟩
def tg (p : List Instr) : List Int := bif okP p then idxL p.length (tgt p) else []
theorem tg_len (p : List Instr) : (tg p).length ≤ p.length := by
 unfold tg; cases okP p
 ·simp
 ·exact idxL_len _ _
theorem ok_er_pl {q : List Instr} (h : okP q = true) {k : Int} (hk : pl q k = true) : er q k = 0 := by
 rw [← pos_pl, posIn, List.any_eq_true] at hk
 obtain ⟨y, h1, h2⟩ := hk
 have := ok_er h y h1
 simp at h2
 rw [← h2]; exact this
theorem tgt_pl {p : List Instr} (ho : okP p = true) {t : Int} (h : tgt p t = true) : pl p t = true := by
 obtain ⟨j, hj, hf⟩ := tgt_iff.1 h
 have := er_target (ok_er_pl ho hj) (by rw [hf])
 rw [hf] at this; exact this
theorem pl_in {p : List Instr} {t : Int} (h : pl p t = true) : 0 ≤ t ∧ t < (p.length : Int) := by
 simp only [pl, Bool.and_eq_true, decide_eq_true_eq] at h; exact h.1
theorem ref_l1 {p : List Instr} (hp : p.length ≤ 5000) (ho : okP p = true) : ∀ (n : Nat) (x : List Bool) (k : Nat), k ≤ p.length → p.length - k < n → x.length = p.length →
  (∀ t : Int, 0 ≤ t → t < (p.length : Int) → (gt x t = true ↔ ∃ j : Int, j < (k : Int) ∧ pl p j = true ∧ fn120 (gt p j) j = (t, true))) →
  ∃ x', fn122_l1 p (marks p) n x (k : Int) = some x' ∧ x'.length = p.length ∧ ∀ t : Int, 0 ≤ t → t < (p.length : Int) → gt x' t = tgt p t := by
 intro n
 induction n with
 | zero => intro x k _ h; omega
 | succ n ih =>
  intro x k hk hn hx hi
  rw [fn122_l1_s]
  have e1 : IntKind.i64.wrap ((k : Int) + 1) = ((k + 1 : Nat) : Int) := by rw [w64 (by omega)]; omega
  by_cases hlt : k < p.length
  ·have g1 : decide ((k : Int) < (p.length : Int)) = true := by simp; omega
   have g2 : inb (k : Int) (marks p).length = true := inb_iff.2 ⟨by omega, by rw [marks_length]; omega⟩
   have g3 : inb (k : Int) p.length = true := inb_iff.2 ⟨by omega, by omega⟩
   have hpl : pl p (k : Int) = gt (marks p) (k : Int) := pl_marks (by omega) (by omega)
   have step : ∀ x2 : List Bool, x2.length = p.length → (∀ t : Int, 0 ≤ t → t < (p.length : Int) → (gt x2 t = true ↔ (gt x t = true ∨ (pl p (k : Int) = true ∧ fn120 (gt p (k : Int)) (k : Int) = (t, true))))) →
     ∃ x', fn122_l1 p (marks p) n x2 ((k + 1 : Nat) : Int) = some x' ∧ x'.length = p.length ∧ ∀ t : Int, 0 ≤ t → t < (p.length : Int) → gt x' t = tgt p t := fun x2 h1 h2 => by
    refine ih x2 (k + 1) (by omega) (by omega) h1 (fun t h0 h3 => ?_)
    rw [h2 t h0 h3, hi t h0 h3]
    constructor
    ·rintro (⟨j, a, b⟩ | ⟨a, b⟩)
     ·exact ⟨j, by omega, b⟩
     ·exact ⟨k, by omega, a, b⟩
    ·rintro ⟨j, a, b, c⟩
     by_cases hj : j = (k : Int)
     ·subst hj; exact .inr ⟨b, c⟩
     ·exact .inl ⟨j, by omega, b, c⟩
   rw [g1, cond_true, g2, cond_true, e1]
   cases hg : gt (marks p) (k : Int) with
   | false =>
    rw [Bool.not_false, cond_true]
    exact step x hx (fun t _ _ => by rw [hpl, hg]; simp)
   | true =>
    rw [Bool.not_true, cond_false, g3, cond_true]
    rcases hf : fn120 (gt p (k : Int)) (k : Int) with ⟨t0, b⟩
    cases b with
    | false => rw [cond_false]; exact step x hx (fun t _ _ => by rw [hf]; simp)
    | true =>
     have ht := pl_in (tgt_pl ho (tgt_iff.2 ⟨k, by rw [hpl, hg], hf⟩))
     have g4 : inb t0 x.length = true := inb_iff.2 ⟨ht.1, by rw [hx]; exact ht.2⟩
     rw [cond_true, g4, cond_true]
     refine step _ (by simp [hx]) (fun t h0 h3 => ?_)
     rw [gt_set ht.1 (by rw [hx]; exact ht.2) h0]
     by_cases h : t0 = t
     ·subst h; simp [hpl, hg, hf]
     ·simp only [h, if_false]; rw [hf]; simp [h]
  ·have g1 : decide ((k : Int) < (p.length : Int)) = false := by simp; omega
   rw [g1, cond_false]
   have hkk : k = p.length := by omega
   refine ⟨x, rfl, hx, fun t h0 h3 => ?_⟩
   have : gt x t = true ↔ tgt p t = true := by
    rw [hi t h0 h3, tgt_iff]
    constructor
    ·rintro ⟨j, _, b⟩; exact ⟨j, b⟩
    ·rintro ⟨j, b, c⟩; exact ⟨j, by have := pl_in b; omega, b, c⟩
   exact Bool.eq_iff_iff.2 this
theorem ref_l2 (x : List Bool) (hx : x.length ≤ 5000) : ∀ (n : Nat) (acc : List Int) (k : Nat), k ≤ x.length → x.length - k < n → acc = idxL k (gt x) → fn122_l2 x n acc (k : Int) = some (idxL x.length (gt x)) := by
 intro n
 induction n with
 | zero => intro acc k _ h; omega
 | succ n ih =>
  intro acc k hk hn ha
  subst ha
  rw [fn122_l2_s]
  have e1 : IntKind.i64.wrap ((k : Int) + 1) = ((k + 1 : Nat) : Int) := by rw [w64 (by omega)]; omega
  by_cases hlt : k < x.length
  ·have g1 : decide ((k : Int) < (x.length : Int)) = true := by simp; omega
   have g2 : inb (k : Int) x.length = true := inb_iff.2 ⟨by omega, by omega⟩
   have hl := idxL_len k (gt x)
   have g3 : decide (((idxL k (gt x)).length + ([(k : Int)] : List Int).length) * 8 ≤ 140737488355328 ∧ (idxL k (gt x)).length + ([(k : Int)] : List Int).length ≤ 9223372036854775807) = true := by
    simp only [List.length_singleton, decide_eq_true_eq]; omega
   rw [g1, cond_true, g2, cond_true, e1, g3, cond_true]
   have hs := idxL_succ k (gt x)
   cases hg : gt x (k : Int) with
   | true => rw [cond_true]; exact ih _ (k + 1) (by omega) (by omega) (by rw [hs, hg]; rfl)
   | false => rw [cond_false]; exact ih _ (k + 1) (by omega) (by omega) (by rw [hs, hg]; simp)
  ·have g1 : decide ((k : Int) < (x.length : Int)) = false := by simp; omega
   have hkk : k = x.length := by omega
   rw [g1, cond_false, hkk]
theorem targets_ref {F : Nat} {p : List Instr} (hF : 6000 ≤ F) (hp : p.length ≤ 5000) : fn122 F p = some (tg p) := by
 rw [fn122, check_ref hF hp, Option.bind_some, tg]
 cases ho : okP p with
 | false =>
  have : ((chk p).2 != 0) = true := by unfold okP at ho; simpa [bne] using ho
  rw [this]; rfl
 | true =>
  have h0 : ((chk p).2 != 0) = false := by unfold okP at ho; simpa [bne] using ho
  have g0 : (decide (0 ≤ (p.length : Int)) && decide ((p.length : Int) ≤ (p.length : Int)) && decide ((1 : Int) * (p.length : Int) ≤ 281474976710656) && decide ((p.length : Int) ≤ 9223372036854775807)) = true := by
   simp only [Bool.and_eq_true, decide_eq_true_eq]; omega
  rw [h0, cond_false, cond_true, g0, cond_true, firsts_ref p hp hF, Option.bind_some]
  obtain ⟨x', h1, h2, h3⟩ := ref_l1 hp ho F (List.replicate p.length false) 0 (by omega) (by omega) (by simp) (fun t a b => by
   have : gt (List.replicate p.length false) t = false := by
    have : t.toNat < p.length := by omega
    simp [gt, this]
   rw [this]; simp only [Bool.false_eq_true, false_iff]
   rintro ⟨j, c, d, _⟩
   have := pl_in d; omega)
  have : ((p.length : Int)).toNat = p.length := by omega
  rw [this]
  have h1' : fn122_l1 p (marks p) F (List.replicate p.length false) 0 = some x' := h1
  rw [h1', Option.bind_some, fn122_k1]
  have h4 := ref_l2 x' (by omega) F [] 0 (by omega) (by omega) (by rfl)
  have h4' : fn122_l2 x' F ([] : List Int) 0 = some (idxL x'.length (gt x')) := h4
  rw [h4', Option.bind_some, fn122_k2, h2]
  congr 1
  exact idxL_congr h3
theorem firstsL_len : ∀ (n : Nat) (l : List Instr) (k : Int), l.length ≤ n → (firstsL l k).length ≤ l.length := by
 intro n
 induction n with
 | zero => intro l k h; cases l with | nil => simp [firstsL] | cons x l => simp at h
 | succ n ih =>
  intro l k h
  cases l with
  | nil => simp [firstsL]
  | cons x l =>
   rw [firstsL_cons]
   have hl : l.length ≤ n := by simpa using h
   cases (x.fOp == 24) with
   | false => simp only [cond_false, List.length_cons]; have := ih l (k + 1) hl; omega
   | true =>
    simp only [cond_true, List.length_cons]
    cases l with
    | nil => simp
    | cons y l => have := ih l (k + 2) (by simp at hl; omega); simp; omega
theorem mput_old {α : Type} : ∀ (xs : List (Int × α)) (k : Int) (v : α), mhas xs k = true → (mput xs k v).map (·.1) = xs.map (·.1)
 | [], k, v, h => by simp [mhas, mfind] at h
 | p :: xs, k, v, h => by
  by_cases hp : p.1 = k
  ·simp [mput, hp]
  ·have h' : mhas xs k = true := by simpa [mhas, mfind, hp] using h
   simp [mput, hp, mput_old xs k v h']
theorem mput_len {α : Type} : ∀ (xs : List (Int × α)) (k : Int) (v : α), (mput xs k v).length ≤ xs.length + 1
 | [], k, v => by simp [mput]
 | p :: xs, k, v => by
  by_cases hp : p.1 = k
  ·simp [mput, hp]
  ·have := mput_len xs k v
   simp [mput, hp]; omega
theorem KND_put {α : Type} {xs : List (Int × α)} {k : Int} {v : α} (h : KND xs) : KND (mput xs k v) := by
 cases hm : mhas xs k with
 | false => exact h.push hm
 | true => unfold KND; rw [mput_old xs k v hm]; exact h
def putT (p : List Instr) (s : List (Int × Bool)) (y : Int × Slot) : List (Int × Bool) := bif (fn120 (gt p y.1) y.1).2 then mput s (fn120 (gt p y.1) y.1).1 true else s
theorem putT_fold {p : List Instr} : ∀ (l : List (Int × Slot)) (m : List (Int × Bool)), KND m → KND (l.foldl (putT p) m) ∧ (l.foldl (putT p) m).length ≤ m.length + l.length ∧
  ∀ t, mhas (l.foldl (putT p) m) t = ((l.any fun y => (fn120 (gt p y.1) y.1).2 && ((fn120 (gt p y.1) y.1).1 == t)) || mhas m t)
 | [], m, h => ⟨h, by simp, fun t => by simp⟩
 | y :: l, m, h => by
  have h2 : KND (putT p m y) := by unfold putT; cases (fn120 (gt p y.1) y.1).2; exact h; exact KND_put h
  obtain ⟨a, b, c⟩ := putT_fold l (putT p m y) h2
  have h3 : (putT p m y).length ≤ m.length + 1 := by
   unfold putT; cases (fn120 (gt p y.1) y.1).2
   ·simp
   ·exact mput_len _ _ _
  refine ⟨a, by simp only [List.foldl_cons, List.length_cons]; omega, fun t => ?_⟩
  rw [List.foldl_cons, c t, List.any_cons]
  have : mhas (putT p m y) t = (((fn120 (gt p y.1) y.1).2 && ((fn120 (gt p y.1) y.1).1 == t)) || mhas m t) := by
   unfold putT
   cases (fn120 (gt p y.1) y.1).2 with
   | false => simp
   | true => rw [cond_true, mhas_put, Bool.true_and]; congr 1
  rw [this]
  cases (l.any fun y => (fn120 (gt p y.1) y.1).2 && ((fn120 (gt p y.1) y.1).1 == t)) <;> cases ((fn120 (gt p y.1) y.1).2 && ((fn120 (gt p y.1) y.1).1 == t)) <;> rfl
theorem targets_prog {F : Nat} {p : List Instr} (hF : 6000 ≤ F) (hp : p.length ≤ 5000) (hw : WF p) : fn26 F p = some (tg p) := by
 rw [fn26, check_prog hF hp hw, Option.bind_some, tg]
 cases ho : okP p with
 | false =>
  have : ((chk p).2 != 0) = true := by unfold okP at ho; simpa [bne] using ho
  rw [this]; rfl
 | true =>
  have h0 : ((chk p).2 != 0) = false := by unfold okP at ho; simpa [bne] using ho
  rw [h0, cond_false, cond_true, fn88_run _ _ _ _ (by omega) (by omega)]
  rw [runL_all (stepB := fun (s : List (Int × Bool)) (y : Int × Slot) => fn26_r1 s y.1 y.2) (f := putT p) (firstsL p 0) ([] : List (Int × Bool)) (fun s y hy => by
   obtain ⟨a, b, c⟩ := first_slot hy
   have hk := er_known (ok_er ho y hy)
   simp only [fn26_r1, bindP, c, tg_eq (hw.gt a b) hk, putT]
   cases (fn120 (gt p y.1) y.1).2 <;> rfl)]
  simp only [Option.bind_some, show Nat.beq 0 0 = true from rfl, cond_true, fn26_k1_0]
  obtain ⟨q1, q2, q3⟩ := putT_fold (p := p) (firstsL p 0) [] (by simp [KND])
  have hl := firstsL_len _ p 0 (Nat.le_refl _)
  have hmem : ∀ t, t ∈ ((firstsL p 0).foldl (putT p) []).map (·.1) ↔ tgt p t = true := fun t => by
   have : t ∈ ((firstsL p 0).foldl (putT p) []).map (·.1) ↔ mhas ((firstsL p 0).foldl (putT p) []) t = true := by
    rw [mhas_iff, List.mem_map]
   rw [this, q3 t]
   have : mhas ([] : List (Int × Bool)) t = false := rfl
   rw [this, Bool.or_false]; rfl
  have hin : ∀ t, tgt p t = true → 0 ≤ t ∧ t < (p.length : Int) := fun t h => pl_in (tgt_pl ho h)
  have g1 : (decide (((((firstsL p 0).foldl (putT p) []).length : Nat) : Int) ≤ 17592186044416) && ((firstsL p 0).foldl (putT p) []).all (fun q => okKey q.1)) = true := by
   simp only [Bool.and_eq_true, decide_eq_true_eq, List.all_eq_true]
   simp only [List.length_nil] at q2
   refine ⟨by omega, fun q hq => ?_⟩
   have := hin q.1 ((hmem q.1).1 (List.mem_map.2 ⟨q, hq, rfl⟩))
   have h1 : IntKind.i64.min = -9223372036854775808 := rfl
   have h2 : IntKind.i64.max = 9223372036854775807 := rfl
   simp only [okKey, Lit.wf, h1, h2, Bool.and_eq_true, decide_eq_true_eq]
   omega
  rw [fn63, g1, cond_true, Option.bind_some]
  congr 1
  exact sort_idx q1 (fun t => by rw [hmem t]; exact ⟨fun h => ⟨hin t h, h⟩, fun h => h.2⟩)
end Go.Proofs.YthpjmknpkdoadaaGreat
namespace Go.Proofs.YthpjmknpkdoadaaGreat
open Go Go.HW
set_option linter.unusedVariables false
set_option maxRecDepth 8000
theorem gt_setG {α : Type} [Inhabited α] {l : List α} {i j : Nat} {u : α} (hi : i < l.length) : gt (l.set i u) (j : Int) = if j = i then u else gt l (j : Int) := by
 unfold gt
 simp only [Int.toNat_natCast, List.getD_eq_getElem?_getD, List.getElem?_set]
 by_cases h : i = j
 ·subst h; simp [hi]
 ·simp [h, Ne.symm h]
theorem all_congr' {α : Type} {f g : α → Bool} : ∀ {l : List α}, (∀ x ∈ l, f x = g x) → l.all f = l.all g
 | [], _ => rfl
 | x :: l, h => by rw [List.all_cons, List.all_cons, h x (by simp), all_congr' fun y hy => h y (by simp [hy])]
structure OkX (x : Instr) : Prop where
 i : OkI x
 dst : 0 ≤ x.fDst ∧ x.fDst ≤ 10
 src : 0 ≤ x.fSrc ∧ x.fSrc ≤ 10
theorem size_eq {x : Instr} (h : OkI x) : fn139 x = fn83 x := by
 have := all256 (fun o => fn139 (atOp o) == fn83 (atOp o)) (by kernel_rfl) h.op
 exact eq_of_beq this
def sz (x : Instr) : Nat := (fn83 x).toNat
theorem fn83_sz (x : Instr) : fn83 x = (sz x : Int) ∧ 1 ≤ sz x ∧ sz x ≤ 8 := by
 unfold sz fn83
 cases (iand .u8 x.fOp 24 == 0) <;> cases (iand .u8 x.fOp 24 == 8) <;> cases (iand .u8 x.fOp 24 == 16) <;> simp
def isB (x : Instr) : Bool := decide (-512 ≤ x.fOff) && decide (x.fOff + (sz x : Int) ≤ 0)
def lstB (x : Instr) : List Int := (List.range (sz x)).map fun i : Nat => 512 + x.fOff + (i : Int)
theorem there_eq {x : Instr} (h : OkI x) : fn82 x = (512 + x.fOff, isB x) := by
 obtain ⟨h1, h2⟩ := h.off
 obtain ⟨s1, s2, s3⟩ := fn83_sz x
 have e1 : IntKind.i64.wrap x.fOff = x.fOff := w64 (by omega)
 simp only [fn82, e1, s1]
 rw [w64 (n := (512 : Int) + x.fOff) (by omega), w64 (n := x.fOff + (sz x : Int)) (by omega)]
 rfl
theorem bytes_loop {x : Instr} (h : OkI x) : ∀ (n j : Nat) (acc : List Int), j ≤ sz x → sz x - j < n → acc.length = j →
  fn136_l1 x n acc (j : Int) = some (acc ++ (List.range' j (sz x - j)).map fun i : Nat => 512 + x.fOff + (i : Int))
 | 0, j, acc, h1, h2, h3 => by omega
 | n + 1, j, acc, h1, h2, h3 => by
  obtain ⟨o1, o2⟩ := h.off
  obtain ⟨s1, s2, s3⟩ := fn83_sz x
  rw [fn136_l1_s, size_eq h, s1]
  by_cases hj : j < sz x
  ·have e1 : IntKind.i64.wrap x.fOff = x.fOff := w64 (by omega)
   have e2 : IntKind.i64.wrap ((512 : Int) + x.fOff) = 512 + x.fOff := w64 (by omega)
   have e3 : IntKind.i64.wrap (512 + x.fOff + (j : Int)) = 512 + x.fOff + (j : Int) := w64 (by omega)
   rw [show decide ((j : Int) < (sz x : Int)) = true by simp; omega, cond_true, e1, e2, e3]
   rw [show decide ((acc.length + ([512 + x.fOff + (j : Int)] : List Int).length) * 8 ≤ 140737488355328 ∧ acc.length + ([512 + x.fOff + (j : Int)] : List Int).length ≤ 9223372036854775807) = true by simp; omega, cond_true]
   rw [show IntKind.i64.wrap ((j : Int) + 1) = ((j + 1 : Nat) : Int) from w64 (by omega)]
   rw [bytes_loop h n (j + 1) _ (by omega) (by omega) (by simp [h3])]
   rw [show sz x - j = (sz x - (j + 1)) + 1 by omega, List.range'_succ, List.map_cons]
   simp
  ·rw [show decide ((j : Int) < (sz x : Int)) = false by simp; omega, cond_false]
   rw [show sz x - j = 0 by omega]; simp
theorem lstB_length (x : Instr) : (lstB x).length = sz x := by simp [lstB]
theorem gt_lstB {x : Instr} {i : Nat} (hi : i < sz x) : gt (lstB x) (i : Int) = 512 + x.fOff + (i : Int) := by
 unfold gt lstB
 simp [List.getD_eq_getElem?_getD, hi]
theorem bytes_ok {F : Nat} (hF : 10 ≤ F) {x : Instr} (h : OkI x) : fn136 F x = some (bif isB x then lstB x else []) := by
 obtain ⟨o1, o2⟩ := h.off
 obtain ⟨s1, s2, s3⟩ := fn83_sz x
 have := bytes_loop h F 0 [] (by omega) (by omega) rfl
 rw [show ((0 : Nat) : Int) = 0 from rfl, List.nil_append, Nat.sub_zero, ← List.range_eq_range'] at this
 rw [fn136, this, Option.bind_some]
 show fn136_k1 (lstB x) = _
 have hl := lstB_length x
 have e0 := gt_lstB (x := x) (i := 0) (by omega)
 have e1 := gt_lstB (x := x) (i := sz x - 1) (by omega)
 rw [show ((0 : Nat) : Int) = 0 from rfl] at e0
 have hw : IntKind.i64.wrap (((lstB x).length : Int) - 1) = ((sz x - 1 : Nat) : Int) := by rw [hl]; exact (w64 (by omega)).trans (by omega)
 rw [fn136_k1, hw, e0, e1, hl]
 rw [show inb 0 (sz x) = true from inb_iff.2 ⟨by omega, by omega⟩, cond_true, show inb ((sz x - 1 : Nat) : Int) (sz x) = true from inb_iff.2 ⟨by omega, by omega⟩]
 have hc : (bif decide (512 + x.fOff + (0 : Int) < 0) then true else true) = true := by cases decide (512 + x.fOff + (0 : Int) < 0) <;> rfl
 rw [hc, cond_true]
 have : (decide (512 + x.fOff + (0 : Int) < 0) || decide ((512 : Int) ≤ 512 + x.fOff + ((sz x - 1 : Nat) : Int))) = !isB x := by
  unfold isB
  by_cases a : -512 ≤ x.fOff <;> by_cases b : x.fOff + (sz x : Int) ≤ 0 <;> simp [a, b] <;> omega
 rw [this]
 cases isB x <;> rfl
theorem lstB_in {x : Instr} (hb : isB x = true) : ∀ y ∈ lstB x, 0 ≤ y ∧ y < 512 := by
 intro y hy
 unfold lstB at hy
 obtain ⟨i, hi, rfl⟩ := List.mem_map.1 hy
 unfold isB at hb
 simp at hb hi
 omega
def regf (s : RSet) (i : Nat) : Bool := bif decide (i ≤ 10) then gt s.fnumber.l (i : Int) else bif decide (i = 15) then s.fctx else false
structure Rel (k : Known) (s : RSet) : Prop where
 ok : OkK k
 reg : ∀ i : Nat, i < 128 → rb k i = regf s i
 byt : ∀ i : Nat, i < 512 → bb k i = gt s.fbytes.l (i : Int)
theorem Rel.num {k : Known} {s : RSet} (h : Rel k s) {n : Int} (h0 : 0 ≤ n) (h1 : n ≤ 10) : rb k n.toNat = gt s.fnumber.l n := by
 rw [h.reg _ (by omega), regf, show decide (n.toNat ≤ 10) = true by simp; omega, cond_true, Int.toNat_of_nonneg h0]
theorem Rel.ctx {k : Known} {s : RSet} (h : Rel k s) : rb k 15 = s.fctx := by
 rw [h.reg _ (by omega)]; rfl
theorem has_reg {F : Nat} (hF : 10 ≤ F) {k : Known} {s : RSet} (h : Rel k s) {n : Int} (h0 : 0 ≤ n) (h1 : n ≤ 10) : fn135 F k [IntKind.i64.wrap n] = some (gt s.fnumber.l n) := by
 rw [w64 (n := n) (by omega), has_ok h.ok (by simp) (by simp; omega) (fun x hx => by simp at hx; omega)]
 simp [h.num h0 h1]
theorem has_ctx {F : Nat} (hF : 10 ≤ F) {k : Known} {s : RSet} (h : Rel k s) : fn135 F k [15] = some s.fctx := by
 rw [has_ok h.ok (by simp) (by simp; omega) (fun x hx => by simp at hx; omega)]
 simp [h.ctx]
theorem side_eq {F : Nat} (hF : 10 ≤ F) {w : Walk} {k : Known} {s : RSet} (h : Rel k s) {x : Instr} (hx : OkX x) : ∃ b, fn134 F w k x = some b ∧ fn85 s x = some b := by
 obtain ⟨s0, s1⟩ := hx.src
 have hi : inb x.fSrc 11 = true := inb_iff.2 ⟨s0, by omega⟩
 cases hz : (iand .u8 x.fOp 8 == 0) with
 | true =>
  refine ⟨true, by rw [fn134, hz]; rfl, ?_⟩
  rw [fn85, fn124, bne, hz]; rfl
 | false =>
  refine ⟨gt s.fnumber.l x.fSrc, by rw [fn134, hz, cond_false, has_reg hF h s0 s1]; rfl, ?_⟩
  rw [fn85, fn124, bne, hz, hi]
  simp
theorem alu_step {F : Nat} (hF : 10 ≤ F) {w : Walk} {k : Known} {s : RSet} (h : Rel k s) {at' : Int} (hin : inb at' w.fp.length = true) (hx : OkX (gt w.fp at')) :
  ∃ b, fn109 F w k at' = some b ∧ (bif (fn72 (gt w.fp at')) == 176 then fn85 s (gt w.fp at') else bif (fn72 (gt w.fp at')) == 128 then some (gt s.fnumber.l (gt w.fp at').fDst) else bif (fn72 (gt w.fp at')) == 208 then some (gt s.fnumber.l (gt w.fp at').fDst) else
   Option.bind (bif bif gt s.fnumber.l (gt w.fp at').fDst then true else false then fn85 s (gt w.fp at') else some false) fun v => some (gt s.fnumber.l (gt w.fp at').fDst && v)) = some b := by
 obtain ⟨d0, d1⟩ := hx.dst
 obtain ⟨b, b1, b2⟩ := side_eq hF (w := w) h hx
 have hd := has_reg hF h d0 d1
 rw [fn109, hin, cond_true, fn72, b1, b2, hd]
 cases (iand .u8 (gt w.fp at').fOp 240 == 176) with
 | true => exact ⟨b, rfl, rfl⟩
 | false =>
 cases (iand .u8 (gt w.fp at').fOp 240 == 128) with
 | true => exact ⟨_, rfl, rfl⟩
 | false =>
 cases (iand .u8 (gt w.fp at').fOp 240 == 208) with
 | true => exact ⟨_, rfl, rfl⟩
 | false =>
 cases gt s.fnumber.l (gt w.fp at').fDst <;> exact ⟨_, rfl, rfl⟩
theorem stack_loop {s : RSet} {x : Instr} (h : OkI x) : ∀ (n j : Nat) (b : Bool), (b = true → isB x = true) → j ≤ sz x → sz x - j < n →
  fn84_l1 s x n b (j : Int) = some (b && (List.range' j (sz x - j)).all fun i : Nat => gt s.fbytes.l (512 + x.fOff + (i : Int)))
 | 0, j, b, h1, h2, h3 => by omega
 | n + 1, j, b, h1, h2, h3 => by
  obtain ⟨o1, o2⟩ := h.off
  obtain ⟨s1, s2, s3⟩ := fn83_sz x
  rw [fn84_l1_s, s1, there_eq h]
  by_cases hj : j < sz x
  ·rw [show decide ((j : Int) < (sz x : Int)) = true by simp; omega, Bool.true_and]
   cases hb : b with
   | false => simp
   | true =>
    have hB := h1 hb
    unfold isB at hB
    simp at hB
    rw [cond_true, w64 (n := 512 + x.fOff + (j : Int)) (by omega), show inb (512 + x.fOff + (j : Int)) 512 = true from inb_iff.2 ⟨by omega, by omega⟩, cond_true, show IntKind.i64.wrap ((j : Int) + 1) = ((j + 1 : Nat) : Int) from w64 (by omega)]
    rw [stack_loop h n (j + 1) _ (fun _ => h1 hb) (by omega) (by omega)]
    rw [show sz x - j = (sz x - (j + 1)) + 1 by omega, List.range'_succ, List.all_cons, Bool.true_and]
  ·rw [show decide ((j : Int) < (sz x : Int)) = false by simp; omega, Bool.false_and, cond_false]
   rw [show sz x - j = 0 by omega]; simp
theorem field_eq {F : Nat} {t : PType} (hl : t.fFields.length ≤ 1000) (hF : t.fFields.length < F) (o z : Int) : ∃ r, fn138 F t o z = some r ∧ fn123 F t o z = some r := by
 have h1 := findLoop t.fFields (fun y => fn156 y o z) (fn155_l1 t.fFields o z) (by omega) (fun n k _ => fn155_l1_s t.fFields o z n k) F 0 (by omega) (by omega)
 have key : ∀ (n k : Nat), k ≤ t.fFields.length → t.fFields.length - k < n →
   (fn155_l1 t.fFields o z n (k : Int) = some (.inl ()) ∧ fn123_l1 t o z n (k : Int) = some (.inl ())) ∨
   ∃ i : Nat, i < t.fFields.length ∧ fn155_l1 t.fFields o z n (k : Int) = some (.inr (i : Int)) ∧ fn123_l1 t o z n (k : Int) = some (.inr (gt t.fFields (i : Int), true)) := by
  intro n
  induction n with
  | zero => intro k h1 h2; omega
  | succ n ih =>
   intro k h1 h2
   rw [fn155_l1_s, fn123_l1_s]
   by_cases hk : k < t.fFields.length
   ·have hin : inb (k : Int) t.fFields.length = true := inb_iff.2 ⟨by omega, by omega⟩
    rw [show decide ((k : Int) < (t.fFields.length : Int)) = true by simp; omega, cond_true, cond_true, hin, cond_true, cond_true]
    rw [show (bif ((gt t.fFields (k : Int)).fOff == o) then true else true) = true by cases ((gt t.fFields (k : Int)).fOff == o) <;> rfl, cond_true]
    have e : fn156 (gt t.fFields (k : Int)) o z = (((gt t.fFields (k : Int)).fOff == o) && ((gt t.fFields (k : Int)).fSize == z)) := rfl
    rw [e]
    cases hc : (((gt t.fFields (k : Int)).fOff == o) && ((gt t.fFields (k : Int)).fSize == z)) with
    | true => exact .inr ⟨k, hk, rfl, rfl⟩
    | false =>
     rw [cond_false, cond_false, show IntKind.i64.wrap ((k : Int) + 1) = ((k + 1 : Nat) : Int) from w64 (by omega)]
     exact ih (k + 1) (by omega) (by omega)
   ·rw [show decide ((k : Int) < (t.fFields.length : Int)) = false by simp; omega]
    exact .inl ⟨rfl, rfl⟩
 rcases key F 0 (by omega) (by omega) with ⟨e1, e2⟩ | ⟨i, hi, e1, e2⟩
 ·rw [show ((0 : Nat) : Int) = 0 from rfl] at e1 e2
  exact ⟨(⟨0, 0, 0, false⟩, false), by rw [fn138, fn155, e1]; rfl, by rw [fn123, e2]; rfl⟩
 ·rw [show ((0 : Nat) : Int) = 0 from rfl] at e1 e2
  refine ⟨(gt t.fFields (i : Int), true), ?_, by rw [fn123, e2]; rfl⟩
  rw [fn138, fn155, e1]
  simp only [Option.bind_some]
  rw [show decide ((i : Int) < 0) = false by simp, cond_false, show inb (i : Int) t.fFields.length = true from inb_iff.2 ⟨by omega, by omega⟩]; rfl
theorem load_step {F : Nat} (hF : 1002 ≤ F) {w : Walk} (hl : w.ft.fFields.length ≤ 1000) {k : Known} {s : RSet} (h : Rel k s) {at' : Int} (hin : inb at' w.fp.length = true) (hx : OkX (gt w.fp at')) :
  ∃ b, fn111 F w k at' = some b ∧ fn84 F s w.ft (gt w.fp at') = some b := by
 generalize hgx : gt w.fp at' = x at hx
 obtain ⟨o1, o2⟩ := hx.i.off
 obtain ⟨s1, s2, s3⟩ := fn83_sz x
 rw [fn111, hin, cond_true, hgx, fn84]
 cases h10 : (x.fSrc == 10) with
 | true =>
  rw [cond_true, cond_true, bytes_ok (by omega) hx.i, there_eq hx.i]
  have hs := stack_loop (s := s) hx.i F 0 (isB x) (fun h => h) (by omega) (by omega)
  rw [show ((0 : Nat) : Int) = 0 from rfl, Nat.sub_zero, ← List.range_eq_range'] at hs
  simp only [hs, Option.bind_some, fn84_k1]
  cases hb : isB x with
  | false => exact ⟨false, rfl, rfl⟩
  | true =>
   have hne : (lstB x).isEmpty = false := by
    have := lstB_length x
    cases hq : lstB x with
    | nil => rw [hq] at this; simp at this; omega
    | cons a l => rfl
   have hh := has64_ok (F := F) h.ok (l := lstB x) (by rw [lstB_length]; omega) (by rw [lstB_length]; omega) (lstB_in hb)
   simp only [cond_true, hne, Bool.not_false, hh, Option.bind_some, Bool.true_and]
   refine ⟨_, rfl, ?_⟩
   congr 1
   unfold lstB
   rw [List.all_map]
   refine all_congr' fun i hi => ?_
   have hi' : i < sz x := by simpa using hi
   have := lstB_in hb (512 + x.fOff + (i : Int)) (List.mem_map.2 ⟨i, hi, rfl⟩)
   simp only [Function.comp]
   rw [h.byt _ (by omega), Int.toNat_of_nonneg this.1]
 | false =>
  rw [cond_false, cond_false]
  obtain ⟨r, r1, r2⟩ := field_eq (F := F) hl (by omega) (IntKind.i64.wrap x.fOff) (fn83 x)
  rw [r2, size_eq hx.i, r1, has_ctx (by omega) h]
  simp only [Option.bind_some]
  cases (x.fSrc == 1) with
  | false => exact ⟨false, rfl, rfl⟩
  | true =>
   rw [cond_true]
   cases s.fctx with
   | false => exact ⟨false, rfl, rfl⟩
   | true => exact ⟨_, rfl, by simp⟩
end Go.Proofs.YthpjmknpkdoadaaGreat
namespace Go.Proofs.YthpjmknpkdoadaaGreat
open Go Go.HW
set_option linter.unusedVariables false
set_option maxRecDepth 8000
theorem store_loop {p : List Instr} {at' : Int} {x : Instr} (hgx : gt p at' = x) (h : OkI x) (hB : isB x = true) (f : Nat → Ar Bool 512 → Int → Option (Ar Bool 512))
  (hf : ∀ n y j, f (n + 1) y j = bif decide (j < (fn83 (gt p at'))) then (bif inb (IntKind.i64.wrap (((fn82 (gt p at')).1) + j)) 512 then (f n (y.set (IntKind.i64.wrap (((fn82 (gt p at')).1) + j)) true) (IntKind.i64.wrap (j + 1))) else none) else (some y)) :
  ∀ (n j : Nat) (y : Ar Bool 512), j ≤ sz x → sz x - j < n → ∃ y', f n y (j : Int) = some y' ∧ ∀ i : Nat, i < 512 → gt y'.l (i : Int) = (gt y.l (i : Int) || (decide (512 + x.fOff + (j : Int) ≤ (i : Int)) && decide ((i : Int) < 512 + x.fOff + (sz x : Int))))
 | 0, j, y, h1, h2 => by omega
 | n + 1, j, y, h1, h2 => by
  obtain ⟨o1, o2⟩ := h.off
  obtain ⟨s1, s2, s3⟩ := fn83_sz x
  have hB' := hB
  unfold isB at hB'
  simp at hB'
  rw [hf, hgx, s1, there_eq h]
  by_cases hj : j < sz x
  ·obtain ⟨m, hm⟩ : ∃ m : Nat, 512 + x.fOff + (j : Int) = (m : Int) := ⟨(512 + x.fOff + (j : Int)).toNat, by omega⟩
   have hm1 : m < 512 := by omega
   rw [show decide ((j : Int) < (sz x : Int)) = true by simp; omega, cond_true]
   simp only []
   rw [w64 (n := 512 + x.fOff + (j : Int)) (by omega), hm, show inb (m : Int) 512 = true from inb_iff.2 ⟨by omega, by omega⟩, cond_true, show IntKind.i64.wrap ((j : Int) + 1) = ((j + 1 : Nat) : Int) from w64 (by omega)]
   obtain ⟨y', y1, y2⟩ := store_loop hgx h hB f hf n (j + 1) (y.set (m : Int) true) (by omega) (by omega)
   refine ⟨y', y1, fun i hi => ?_⟩
   rw [y2 i hi, set_l, gt_setG (by rw [y.h]; exact hm1)]
   by_cases hi' : i = m
   ·subst hi'
    have : (i : Int) < 512 + x.fOff + (sz x : Int) := by omega
    simp [this]
   ·rw [if_neg hi']
    congr 1
    by_cases h3 : (m : Int) ≤ (i : Int)
    ·have h4 : 512 + x.fOff + ((j + 1 : Nat) : Int) ≤ (i : Int) := by omega
     simp only [h3, h4]
    ·have h4 : ¬ (512 + x.fOff + ((j + 1 : Nat) : Int) ≤ (i : Int)) := by omega
     simp only [h3, h4]
  ·rw [show decide ((j : Int) < (sz x : Int)) = false by simp; omega, cond_false]
   refine ⟨y, rfl, fun i hi => ?_⟩
   have : ¬ (512 + x.fOff + (j : Int) ≤ (i : Int) ∧ (i : Int) < 512 + x.fOff + (sz x : Int)) := by omega
   rw [← Bool.decide_and]
   simp only [this, decide_false, Bool.or_false]
theorem mem_lstB {x : Instr} {i : Int} : i ∈ lstB x ↔ 512 + x.fOff ≤ i ∧ i < 512 + x.fOff + (sz x : Int) := by
 unfold lstB
 rw [List.mem_map]
 constructor
 ·rintro ⟨j, hj, rfl⟩
  have : j < sz x := by simpa using hj
  omega
 ·rintro ⟨h1, h2⟩
  exact ⟨(i - (512 + x.fOff)).toNat, by simp; omega, by omega⟩
theorem store_step {F : Nat} (hF : 10 ≤ F) {w : Walk} {k : Known} {s : RSet} (h : Rel k s) {at' : Int} (hin : inb at' w.fp.length = true) (hx : OkX (gt w.fp at'))
  (f : Nat → Ar Bool 512 → Int → Option (Ar Bool 512))
  (hf : ∀ n y j, f (n + 1) y j = bif decide (j < (fn83 (gt w.fp at'))) then (bif inb (IntKind.i64.wrap (((fn82 (gt w.fp at')).1) + j)) 512 then (f n (y.set (IntKind.i64.wrap (((fn82 (gt w.fp at')).1) + j)) true) (IntKind.i64.wrap (j + 1))) else none) else (some y)) :
  ∃ k' s' b, fn112 F w k at' = some (b, k') ∧ Rel k' s' ∧
   (bif bif ((gt w.fp at').fDst != 10) || (!(fn82 (gt w.fp at')).2) then true else (bif fn71 (gt w.fp at') == 3 then inb (gt w.fp at').fSrc 11 else true) then (bif (((gt w.fp at').fDst != 10) || (!(fn82 (gt w.fp at')).2)) || ((fn71 (gt w.fp at') == 3) && (!(gt s.fnumber.l (gt w.fp at').fSrc))) then (some (s, false)) else (Option.bind (f F s.fbytes 0) fun o => some ((⟨s.fnumber, s.fctx, o⟩ : RSet), true))) else none) = some (s', b) := by
 generalize hgx : gt w.fp at' = x at hx
 obtain ⟨o1, o2⟩ := hx.i.off
 obtain ⟨s1, s2, s3⟩ := fn83_sz x
 have hi : inb x.fSrc 11 = true := inb_iff.2 ⟨hx.src.1, by have := hx.src.2; omega⟩
 have hc1 : ∀ A B : Bool, (bif A then true else bif B then true else true) = true := by intro A B; cases A <;> cases B <;> rfl
 rw [fn112, hin, cond_true, hgx, bytes_ok hF hx.i, there_eq hx.i, hi, hc1, cond_true, Option.bind_some]
 have he : (bif isB x then lstB x else []).isEmpty = !isB x := by
  cases isB x with
  | false => rfl
  | true =>
   have := lstB_length x
   cases hq : lstB x with
   | nil => rw [hq] at this; simp at this; omega
   | cons a l => rfl
 rw [he]
 simp only []
 cases hc : ((x.fDst != 10) || !isB x) with
 | true =>
  exact ⟨k, s, false, rfl, h, by rw [Bool.true_or]; rfl⟩
 | false =>
  have hB : isB x = true := by
   cases hb : isB x with
   | true => rfl
   | false => rw [hb] at hc; simp at hc
  rw [hB, cond_false, Bool.false_or]
  simp only [cond_true]
  obtain ⟨k', k1, k2, k3, k4⟩ := put64_ok (F := F) h.ok (l := lstB x) (by rw [lstB_length]; omega) (by rw [lstB_length]; omega) (lstB_in hB)
  obtain ⟨y', y1, y2⟩ := store_loop hgx hx.i hB f hf F 0 s.fbytes (by omega) (by omega)
  rw [show ((0 : Nat) : Int) = 0 from rfl] at y1 y2
  have hrel : Rel k' ⟨s.fnumber, s.fctx, y'⟩ := by
   refine ⟨k2, fun i hi => ?_, fun i hi => ?_⟩
   ·have : rb k' i = rb k i := by unfold rb; rw [k4]
    rw [this, h.reg i hi]; rfl
   ·rw [k3, y2 i hi, h.byt i hi]
    congr 1
    rw [← Bool.decide_and]
    congr 1
    rw [mem_lstB, Int.add_zero]
  have e3 : (iand .u8 x.fOp 7 == 3) = (fn71 x == 3) := rfl
  rw [e3, has_reg hF h hx.src.1 hx.src.2, k1, y1]
  cases fn71 x == 3 with
  | false => exact ⟨k', _, true, rfl, hrel, rfl⟩
  | true =>
   cases gt s.fnumber.l x.fSrc with
   | false => exact ⟨k, s, false, rfl, h, rfl⟩
   | true => exact ⟨k', _, true, rfl, hrel, rfl⟩
theorem targ_loop (l : List Int) (at' : Int) (hl : l.length ≤ 100000) : ∀ (n j : Nat), j ≤ l.length → l.length - j < n → fn81_l1 at' l n (j : Int) = some (bif decide (at' ∈ l.drop j) then .inr false else .inl ())
 | 0, j, h1, h2 => by omega
 | n + 1, j, h1, h2 => by
  rw [fn81_l1_s]
  by_cases hj : j < l.length
  ·have hd : l.drop j = gt l (j : Int) :: l.drop (j + 1) := drop_gt hj
   rw [show decide ((j : Int) < (l.length : Int)) = true by simp; omega, cond_true, show inb (j : Int) l.length = true from inb_iff.2 ⟨by omega, by omega⟩, cond_true, show IntKind.i64.wrap ((j : Int) + 1) = ((j + 1 : Nat) : Int) from w64 (by omega), targ_loop l at' hl n (j + 1) (by omega) (by omega), hd]
   by_cases he : gt l (j : Int) = at'
   ·simp [he]
   ·have : (gt l (j : Int) == at') = false := by simp [he]
    rw [this, cond_false]
    have h2 : (at' ∈ gt l (j : Int) :: l.drop (j + 1)) ↔ at' ∈ l.drop (j + 1) := by
     rw [List.mem_cons]; constructor
     ·rintro (h | h)
      ·exact absurd h.symm he
      ·exact h
     ·exact .inr
    simp only [h2]
  ·rw [show decide ((j : Int) < (l.length : Int)) = false by simp; omega, cond_false, List.drop_eq_nil_of_le (by omega)]; rfl
theorem jump_step {F : Nat} (hF : 9000 ≤ F) {w : Walk} (hp : w.fp.length ≤ 1000) (hT : w.ftargets = tg w.fp) {k : Known} {s : RSet} (h : Rel k s) {at' : Int} (h0 : 0 ≤ at') (h1 : at' < (w.fp.length : Int)) (hx : OkX (gt w.fp at')) :
  ∃ b, fn113 F w k at' = some b ∧ fn81 F s w.fp at' w.ft = some b := by
 have hin : inb at' w.fp.length = true := inb_iff.2 ⟨h0, h1⟩
 obtain ⟨b, b1, b2⟩ := side_eq (F := F) (by omega) (w := w) h hx
 have hd := has_reg (F := F) (by omega) h hx.dst.1 hx.dst.2
 have hid : inb (gt w.fp at').fDst 11 = true := inb_iff.2 ⟨hx.dst.1, by have := hx.dst.2; omega⟩
 have ht := targets_ref (F := F) (p := w.fp) (by omega) (by omega)
 have htl := tg_len w.fp
 rw [fn113, fn81, hin, cond_true, cond_true, fn72, b1, b2, hd, hid, ht]
 cases (iand .u8 (gt w.fp at').fOp 240 == 0) with
 | true => exact ⟨true, rfl, rfl⟩
 | false =>
 cases (iand .u8 (gt w.fp at').fOp 240 == 128) with
 | true => exact ⟨false, rfl, rfl⟩
 | false =>
 cases (iand .u8 (gt w.fp at').fOp 240 == 144) with
 | true =>
  rw [cond_false, cond_false, cond_true, cond_false, cond_false, cond_true, hT, has102 _ _ (by omega) (by omega), Option.bind_some]
  have hl := targ_loop (tg w.fp) at' (by omega) F 0 (by omega) (by omega)
  rw [show ((0 : Nat) : Int) = 0 from rfl, List.drop_zero] at hl
  rw [hl]
  cases hz : (at' == 0) with
  | true =>
   refine ⟨false, rfl, ?_⟩
   cases decide (at' ∈ tg w.fp) with
   | true => rfl
   | false => simp [fn81_k1, hz]
  | false =>
   have hne : at' ≠ 0 := by simpa using hz
   have hw : IntKind.i64.wrap (at' - 1) = at' - 1 := w64 (by omega)
   cases decide (at' ∈ tg w.fp) with
   | true => exact ⟨false, rfl, rfl⟩
   | false =>
    simp only [cond_true, cond_false, Option.bind_some, Bool.or_false, fn81_k1, hz, hw]
    rw [show inb (at' - 1) w.fp.length = true from inb_iff.2 ⟨by omega, by omega⟩]
    exact ⟨_, rfl, rfl⟩
 | false =>
  rw [cond_false, cond_false, cond_false, cond_false, cond_false, cond_false, cond_true, Option.bind_some]
  cases gt s.fnumber.l (gt w.fp at').fDst <;> exact ⟨_, rfl, rfl⟩
theorem set_reg {F : Nat} (hF : 10 ≤ F) {k : Known} {s : RSet} (h : Rel k s) {n : Int} (h0 : 0 ≤ n) (h1 : n ≤ 10) (b : Bool) :
  ∃ k', (Option.bind (fn107 F k [IntKind.i64.wrap n]) fun v => bif IntKind.i64.wrap n == 1 then (Option.bind (fn115 v 15) fun u => some (b, u)) else some (b, v)) = some (b, k') ∧ Rel k' ⟨s.fnumber.set n true, s.fctx && (n != 1), s.fbytes⟩ := by
 rw [w64 (n := n) (by omega)]
 obtain ⟨m, rfl⟩ : ∃ m : Nat, n = (m : Int) := ⟨n.toNat, by omega⟩
 obtain ⟨k1, e1, e2, e3, e4⟩ := put_ok (F := F) h.ok (l := [(m : Int)]) (by simp) (by simp; omega) (fun x hx => by simp at hx; omega)
 rw [e1, Option.bind_some]
 have hml : m < s.fnumber.l.length := by rw [s.fnumber.h]; omega
 have hnum : ∀ i : Nat, i ≤ 10 → (rb k i || decide ((i : Int) ∈ ([(m : Int)] : List Int))) = gt (s.fnumber.l.set m true) (i : Int) := fun i hi => by
  have := h.reg i (by omega)
  rw [this, regf, show decide (i ≤ 10) = true by simp [hi], cond_true, gt_setG hml]
  by_cases hm : i = m
  ·subst hm; simp
  ·have : ¬ ((i : Int) = (m : Int)) := by omega
   simp [hm, this]
 by_cases hm1 : m = 1
 ·subst hm1
  obtain ⟨k2, f1, f2, f3, f4⟩ := drop_ok e2 (a := 15) (by omega)
  rw [show ((15 : Nat) : Int) = 15 from rfl] at f1
  refine ⟨k2, by rw [show (((1 : Nat) : Int) == 1) = true from rfl, cond_true, f1]; rfl, f2, fun i hi => ?_, fun i hi => ?_⟩
  ·rw [f3, e3, regf]
   by_cases h10 : i ≤ 10
   ·rw [show decide (i ≤ 10) = true by simp [h10], cond_true, set_l, ← hnum i h10]
    have : ¬ (i = 15) := by omega
    simp [this]
   ·rw [show decide (i ≤ 10) = false by simp; omega, cond_false]
    by_cases h15 : i = 15
    ·subst h15; simp
    ·have h2 := h.reg i hi
     rw [regf, show decide (i ≤ 10) = false by simp; omega, cond_false, show decide (i = 15) = false by simp [h15], cond_false] at h2
     have h3 : ¬ ((i : Int) = 1) := by omega
     rw [h2]; simp [h15, h3]
  ·have : bb k2 i = bb k i := by unfold bb; rw [f4, e4]
   rw [this, h.byt i hi]
 ·have hne : ((m : Int) == 1) = false := by simp; omega
  refine ⟨k1, by rw [hne]; rfl, e2, fun i hi => ?_, fun i hi => ?_⟩
  ·rw [e3, regf]
   by_cases h10 : i ≤ 10
   ·rw [show decide (i ≤ 10) = true by simp [h10], cond_true, set_l, ← hnum i h10]
   ·have h2 := h.reg i hi
    rw [show decide (i ≤ 10) = false by simp; omega, cond_false]
    rw [regf, show decide (i ≤ 10) = false by simp; omega, cond_false] at h2
    have h3 : ¬ ((i : Int) = (m : Int)) := by omega
    rw [h2]
    have h4 : ((m : Int) != 1) = true := by rw [bne, hne]; rfl
    simp [h3, h4]
  ·have : bb k1 i = bb k i := by unfold bb; rw [e4]
   rw [this, h.byt i hi]
end Go.Proofs.YthpjmknpkdoadaaGreat
namespace Go.Proofs.YthpjmknpkdoadaaGreat
open Go Go.HW
set_option linter.unusedVariables false
set_option maxRecDepth 8000
theorem step_eq {F : Nat} (hF : 9000 ≤ F) {w : Walk} (hp : w.fp.length ≤ 1000) (hT : w.ftargets = tg w.fp) (hl : w.ft.fFields.length ≤ 1000) {k : Known} {s : RSet} (h : Rel k s) {at' : Int} (h0 : 0 ≤ at') (h1 : at' < (w.fp.length : Int)) (hx : OkX (gt w.fp at')) :
  ∃ k' s' b, fn66 F w k at' = some (b, k') ∧ fn33 F s w.fp at' w.ft = some (s', b) ∧ Rel k' s' := by
 have hin : inb at' w.fp.length = true := inb_iff.2 ⟨h0, h1⟩
 have hid : inb (gt w.fp at').fDst 11 = true := inb_iff.2 ⟨hx.dst.1, by have := hx.dst.2; omega⟩
 have hh : ∀ c : Int, fn114 F [4, 7, 0, 1] c = some (decide (c ∈ ([4, 7, 0, 1] : List Int))) := fun c => has114 _ _ (by simp) (by simp; omega)
 have alu : ∀ (K : Instr → Bool → RSet × Bool), ∃ b, fn109 F w k at' = some b ∧ (bif (fn72 (gt w.fp at')) == 176 then (Option.bind (fn85 s (gt w.fp at')) fun v => (bif inb (gt w.fp at').fDst 11 then some (K (gt w.fp at') v) else none)) else (bif (fn72 (gt w.fp at')) == 128 then (bif inb (gt w.fp at').fDst 11 then some (K (gt w.fp at') (gt s.fnumber.l (gt w.fp at').fDst)) else none) else (bif (fn72 (gt w.fp at')) == 208 then (bif inb (gt w.fp at').fDst 11 then some (K (gt w.fp at') (gt s.fnumber.l (gt w.fp at').fDst)) else none) else (bif inb (gt w.fp at').fDst 11 then (Option.bind (bif bif gt s.fnumber.l (gt w.fp at').fDst then true else false then fn85 s (gt w.fp at') else some false) fun v => some (K (gt w.fp at') (gt s.fnumber.l (gt w.fp at').fDst && v))) else none)))) = some (K (gt w.fp at') b) := fun K => by
  obtain ⟨b, b1, b2⟩ := alu_step (F := F) (by omega) h hin hx
  refine ⟨b, b1, ?_⟩
  rw [hid]
  cases h1 : (fn72 (gt w.fp at') == 176) with
  | true => rw [h1, cond_true] at b2; rw [cond_true, b2]; rfl
  | false =>
  cases h2 : (fn72 (gt w.fp at') == 128) with
  | true => rw [h1, h2, cond_false, cond_true] at b2; rw [cond_false, cond_true, cond_true]; rw [Option.some.inj b2]
  | false =>
  cases h3 : (fn72 (gt w.fp at') == 208) with
  | true => rw [h1, h2, h3, cond_false, cond_false, cond_true] at b2; rw [cond_false, cond_false, cond_true, cond_true]; rw [Option.some.inj b2]
  | false =>
   rw [h1, h2, h3, cond_false, cond_false, cond_false] at b2
   rw [cond_false, cond_false, cond_false, cond_true]
   obtain ⟨v, v1, v2⟩ := Option.bind_eq_some_iff.1 b2
   rw [v1, Option.bind_some, Option.some.inj v2]
 have setr := fun b => set_reg (F := F) (by omega) h hx.dst.1 hx.dst.2 b
 rw [fn66, fn33, hin, cond_true, cond_true]
 have e71 : fn71 (gt w.fp at') = iand .u8 (gt w.fp at').fOp 7 := rfl
 rcases cls_lt hx.i with e | e | e | e | e | e | e | e
 ·-- a load of a number
  have e' : iand .u8 (gt w.fp at').fOp 7 = 0 := e
  obtain ⟨k', k1, k2⟩ := setr ((gt w.fp at').fSrc == 0)
  refine ⟨k', ⟨s.fnumber.set (gt w.fp at').fDst true, s.fctx && ((gt w.fp at').fDst != 1), s.fbytes⟩, (gt w.fp at').fSrc == 0, ?_, ?_, k2⟩
  ·rw [e']
   show Option.bind (fn110 w k at') _ = _
   rw [fn110, hin, cond_true, Option.bind_some, hh]
   exact k1
  ·rw [e, hid]; rfl
 ·have e' : iand .u8 (gt w.fp at').fOp 7 = 1 := e
  obtain ⟨b, b1, b2⟩ := load_step (F := F) (by omega) hl h hin hx
  obtain ⟨k', k1, k2⟩ := setr b
  refine ⟨k', ⟨s.fnumber.set (gt w.fp at').fDst true, s.fctx && ((gt w.fp at').fDst != 1), s.fbytes⟩, b, ?_, ?_, k2⟩
  ·rw [e']
   show Option.bind (fn111 F w k at') _ = _
   rw [b1, Option.bind_some, hh]
   exact k1
  ·rw [e, hid]
   show Option.bind (fn84 F s w.ft (gt w.fp at')) _ = _
   rw [b2]; rfl
 ·have e' : iand .u8 (gt w.fp at').fOp 7 = 2 := e
  obtain ⟨k', s', b, b1, b2, b3⟩ := store_step (F := F) (by omega) h hin hx (fn33_l1 w.fp at') (fun n y j => fn33_l1_s w.fp at' n y j)
  refine ⟨k', s', b, ?_, ?_, b2⟩
  ·rw [e']
   show Option.bind (fn112 F w k at') _ = _
   rw [b1, Option.bind_some, hh]; rfl
  ·rw [e] at b3 ⊢; exact b3
 ·have e' : iand .u8 (gt w.fp at').fOp 7 = 3 := e
  obtain ⟨k', s', b, b1, b2, b3⟩ := store_step (F := F) (by omega) h hin hx (fn33_l2 w.fp at') (fun n y j => fn33_l2_s w.fp at' n y j)
  refine ⟨k', s', b, ?_, ?_, b2⟩
  ·rw [e']
   show Option.bind (fn112 F w k at') _ = _
   rw [b1, Option.bind_some, hh]; rfl
  ·rw [e] at b3 ⊢; exact b3
 ·have e' : iand .u8 (gt w.fp at').fOp 7 = 4 := e
  obtain ⟨b, b1, b2⟩ := alu (fun x v => (⟨s.fnumber.set x.fDst true, s.fctx && (x.fDst != 1), s.fbytes⟩, v))
  obtain ⟨k', k1, k2⟩ := setr b
  refine ⟨k', _, b, ?_, ?_, k2⟩
  ·rw [e']
   show Option.bind (fn109 F w k at') _ = _
   rw [b1, Option.bind_some, hh]
   exact k1
  ·rw [e]; exact b2
 ·have e' : iand .u8 (gt w.fp at').fOp 7 = 5 := e
  obtain ⟨b, b1, b2⟩ := jump_step hF hp hT h h0 h1 hx
  refine ⟨k, s, b, ?_, ?_, h⟩
  ·rw [e']
   show Option.bind (fn113 F w k at') _ = _
   rw [b1, Option.bind_some, hh]; rfl
  ·rw [e]
   show Option.bind (fn81 F s w.fp at' w.ft) _ = _
   rw [b2]; rfl
 ·have e' : iand .u8 (gt w.fp at').fOp 7 = 6 := e
  obtain ⟨b, b1, b2⟩ := jump_step hF hp hT h h0 h1 hx
  refine ⟨k, s, b, ?_, ?_, h⟩
  ·rw [e']
   show Option.bind (fn113 F w k at') _ = _
   rw [b1, Option.bind_some, hh]; rfl
  ·rw [e]
   show Option.bind (fn81 F s w.fp at' w.ft) _ = _
   rw [b2]; rfl
 ·have e' : iand .u8 (gt w.fp at').fOp 7 = 7 := e
  obtain ⟨b, b1, b2⟩ := alu (fun x v => (⟨s.fnumber.set x.fDst true, s.fctx && (x.fDst != 1), s.fbytes⟩, v))
  obtain ⟨k', k1, k2⟩ := setr b
  refine ⟨k', _, b, ?_, ?_, k2⟩
  ·rw [e']
   show Option.bind (fn109 F w k at') _ = _
   rw [b1, Option.bind_some, hh]
   exact k1
  ·rw [e]; exact b2
theorem gt_rep {α : Type} [Inhabited α] (n : Nat) (z : α) (hz : (default : α) = z) (i : Int) : gt (List.replicate n z) i = z := by
 unfold gt
 rw [List.getD_eq_getElem?_getD, List.getElem?_replicate]
 split
 ·rfl
 ·exact hz
theorem begin_rel {F : Nat} (hF : 10 ≤ F) : ∃ k, fn64 F = some k ∧ Rel k ⟨Ar.rep 11 false, true, Ar.rep 512 false⟩ := by
 have hrep : ∀ (W i : Nat), bW W (List.replicate 8 (0 : Int)) i = false := fun W i => by
  unfold bW
  have : gt (List.replicate 8 (0 : Int)) ((i / W : Nat) : Int) = 0 := gt_rep 8 0 rfl _
  rw [this]; simp
 have hz : OkK (⟨⟨Ar.rep 8 0, 16⟩, ⟨Ar.rep 8 0, 64⟩⟩ : Known) := ⟨rfl, rfl, fun x hx => by
  have : x = 0 := List.eq_of_mem_replicate hx
  subst this; exact ⟨by omega, by decide⟩, fun x hx => by
  have : x = 0 := List.eq_of_mem_replicate hx
  subst this; exact ⟨by omega, by decide⟩⟩
 obtain ⟨k, k1, k2, k3, k4⟩ := put_ok (F := F) hz (l := [15]) (by simp) (by simp; omega) (fun x hx => by simp at hx; omega)
 refine ⟨k, by rw [fn64, k1]; rfl, k2, fun i hi => ?_, fun i hi => ?_⟩
 ·rw [k3]
  have e0 : rb (⟨⟨Ar.rep 8 0, 16⟩, ⟨Ar.rep 8 0, 64⟩⟩ : Known) i = false := hrep 16 i
  rw [e0, regf]
  by_cases h10 : i ≤ 10
  ·have : gt (Ar.rep 11 false).l (i : Int) = false := gt_rep 11 false rfl _
   have h2 : ¬ ((i : Int) = 15) := by omega
   simp [h10, this, h2]
  ·by_cases h15 : i = 15
   ·subst h15; simp
   ·have h2 : ¬ ((i : Int) = 15) := by omega
    simp [h10, h15, h2]
 ·have : bb k i = bb (⟨⟨Ar.rep 8 0, 16⟩, ⟨Ar.rep 8 0, 64⟩⟩ : Known) i := by unfold bb; rw [k4]
  rw [this]
  have e1 : gt (Ar.rep 512 false).l (i : Int) = false := gt_rep 512 false rfl _
  rw [e1]; exact hrep 64 i
theorem both_l1 {q : RSet} : ∀ (n j : Nat) (x : Ar Bool 11), j ≤ 11 → 11 - j < n → ∃ y, fn80_l1 q n x (j : Int) = some y ∧ ∀ i : Nat, i < 11 → gt y.l (i : Int) = bif decide (j ≤ i) then gt x.l (i : Int) && gt q.fnumber.l (i : Int) else gt x.l (i : Int)
 | 0, j, x, h1, h2 => by omega
 | n + 1, j, x, h1, h2 => by
  rw [fn80_l1_s]
  by_cases hj : j < 11
  ·have hi : inb (j : Int) 11 = true := inb_iff.2 ⟨by omega, by omega⟩
   have hjl : j < x.l.length := by rw [x.h]; exact hj
   rw [show decide ((j : Int) < 11) = true by simp; omega, cond_true, hi, cond_true, show (bif gt x.l (j : Int) then true else true) = true by cases gt x.l (j : Int) <;> rfl, cond_true, show IntKind.i64.wrap ((j : Int) + 1) = ((j + 1 : Nat) : Int) from w64 (by omega)]
   obtain ⟨y, y1, y2⟩ := both_l1 n (j + 1) (x.set (j : Int) (gt x.l (j : Int) && gt q.fnumber.l (j : Int))) (by omega) (by omega)
   refine ⟨y, y1, fun i hi' => ?_⟩
   rw [y2 i hi', set_l, gt_setG hjl]
   by_cases h : i = j
   ·subst h
    have : ¬ (i + 1 ≤ i) := by omega
    simp [this]
   ·rw [if_neg h]
    by_cases h5 : j ≤ i
    ·have h6 : j + 1 ≤ i := by omega
     simp [h5, h6]
    ·have h6 : ¬ (j + 1 ≤ i) := by omega
     simp [h5, h6]
  ·rw [show decide ((j : Int) < 11) = false by simp; omega, cond_false]
   refine ⟨x, rfl, fun i hi => ?_⟩
   have : ¬ (j ≤ i) := by omega
   simp [this]
theorem both_l2 {q : RSet} : ∀ (n j : Nat) (x : Ar Bool 512), j ≤ 512 → 512 - j < n → ∃ y, fn80_l2 q n x (j : Int) = some y ∧ ∀ i : Nat, i < 512 → gt y.l (i : Int) = bif decide (j ≤ i) then gt x.l (i : Int) && gt q.fbytes.l (i : Int) else gt x.l (i : Int)
 | 0, j, x, h1, h2 => by omega
 | n + 1, j, x, h1, h2 => by
  rw [fn80_l2_s]
  by_cases hj : j < 512
  ·have hi : inb (j : Int) 512 = true := inb_iff.2 ⟨by omega, by omega⟩
   have hjl : j < x.l.length := by rw [x.h]; exact hj
   rw [show decide ((j : Int) < 512) = true by simp; omega, cond_true, hi, cond_true, show (bif gt x.l (j : Int) then true else true) = true by cases gt x.l (j : Int) <;> rfl, cond_true, show IntKind.i64.wrap ((j : Int) + 1) = ((j + 1 : Nat) : Int) from w64 (by omega)]
   obtain ⟨y, y1, y2⟩ := both_l2 n (j + 1) (x.set (j : Int) (gt x.l (j : Int) && gt q.fbytes.l (j : Int))) (by omega) (by omega)
   refine ⟨y, y1, fun i hi' => ?_⟩
   rw [y2 i hi', set_l, gt_setG hjl]
   by_cases h : i = j
   ·subst h
    have : ¬ (i + 1 ≤ i) := by omega
    simp [this]
   ·rw [if_neg h]
    by_cases h5 : j ≤ i
    ·have h6 : j + 1 ≤ i := by omega
     simp [h5, h6]
    ·have h6 : ¬ (j + 1 ≤ i) := by omega
     simp [h5, h6]
  ·rw [show decide ((j : Int) < 512) = false by simp; omega, cond_false]
   refine ⟨x, rfl, fun i hi => ?_⟩
   have : ¬ (j ≤ i) := by omega
   simp [this]
structure BothS (a q s : RSet) : Prop where
 num : ∀ i : Nat, i < 11 → gt s.fnumber.l (i : Int) = (gt a.fnumber.l (i : Int) && gt q.fnumber.l (i : Int))
 ctx : s.fctx = (a.fctx && q.fctx)
 byt : ∀ i : Nat, i < 512 → gt s.fbytes.l (i : Int) = (gt a.fbytes.l (i : Int) && gt q.fbytes.l (i : Int))
theorem both_ok {F : Nat} (hF : 600 ≤ F) (a q : RSet) : ∃ s, fn80 F a q = some s ∧ BothS a q s := by
 obtain ⟨y, y1, y2⟩ := both_l1 (q := q) F 0 a.fnumber (by omega) (by omega)
 obtain ⟨z, z1, z2⟩ := both_l2 (q := q) F 0 a.fbytes (by omega) (by omega)
 rw [show ((0 : Nat) : Int) = 0 from rfl] at y1 z1
 refine ⟨⟨y, a.fctx && q.fctx, z⟩, by rw [fn80, y1, Option.bind_some, fn80_k1, z1]; rfl, fun i hi => ?_, rfl, fun i hi => ?_⟩
 ·rw [y2 i hi]; rfl
 ·rw [z2 i hi]; rfl
theorem both_rel {F : Nat} (hF : 600 ≤ F) {k q : Known} {a b : RSet} (h : Rel k a) (hq : Rel q b) : ∃ k1 k2 s, fn67 F k q.fregs = some k1 ∧ fn68 F k1 q.fbytes = some k2 ∧ fn80 F a b = some s ∧ Rel k2 s ∧ BothS a b s := by
 obtain ⟨k1, k2, e1, e2, e3, e4, e5⟩ := with_ok (F := F) (by omega) h.ok hq.ok
 obtain ⟨s, s1, s2⟩ := both_ok hF a b
 refine ⟨k1, k2, s, e1, e2, s1, ⟨e3, fun i hi => ?_, fun i hi => ?_⟩, s2⟩
 ·rw [e4 i hi, h.reg i hi, hq.reg i hi]
  unfold regf
  by_cases h10 : i ≤ 10
  ·simp [h10, s2.num i (by omega)]
  ·by_cases h15 : i = 15
   ·simp [h10, h15, s2.ctx]
   ·simp [h10, h15]
 ·rw [e5 i hi, h.byt i hi, hq.byt i hi, s2.byt i hi]
theorem eqL_iff {α : Type} [BEq α] [LawfulBEq α] : ∀ {l r : List α}, l.length = r.length → (eqL l r = true ↔ l = r)
 | [], [], _ => by simp [eqL]
 | x :: l, y :: r, h => by
  have := eqL_iff (l := l) (r := r) (by simpa using h)
  simp [eqL, this]
 | [], _ :: _, h => by simp at h
 | _ :: _, [], h => by simp at h
def eqK (a b : Known) : Bool := (((eqL a.fregs.fwords.l b.fregs.fwords.l) && ((a.fregs.fwidth == b.fregs.fwidth) && true)) && (((eqL a.fbytes.fwords.l b.fbytes.fwords.l) && ((a.fbytes.fwidth == b.fbytes.fwidth) && true)) && true))
def eqR (a b : RSet) : Bool := ((eqL a.fnumber.l b.fnumber.l) && ((a.fctx == b.fctx) && ((eqL a.fbytes.l b.fbytes.l) && true)))
theorem eqR_iff {a b : RSet} : eqR a b = true ↔ a = b := by
 unfold eqR
 rw [Bool.and_true, Bool.and_eq_true, Bool.and_eq_true, eqL_iff (by rw [a.fnumber.h, b.fnumber.h]), eqL_iff (by rw [a.fbytes.h, b.fbytes.h])]
 cases a with | mk a1 a2 a3 => cases b with | mk b1 b2 b3 =>
  cases a1; cases a3; cases b1; cases b3
  simp
theorem gt_ext {α : Type} [Inhabited α] {l r : List α} (hn : l.length = r.length) (h : ∀ i : Nat, i < l.length → gt l (i : Int) = gt r (i : Int)) : l = r := by
 apply List.ext_getElem hn
 intro i h1 h2
 have := h i h1
 simpa [gt, h1, h2] using this
theorem eqK_eqR {k q : Known} {a b : RSet} (h : Rel k a) (hq : Rel q b) : eqK k q = eqR a b := by
 rw [Bool.eq_iff_iff, eqR_iff]
 unfold eqK
 rw [h.ok.w16, h.ok.w64, hq.ok.w16, hq.ok.w64]
 simp only [beq_self_eq_true, Bool.and_true, Bool.and_eq_true]
 rw [eqL_iff (by rw [k.fregs.fwords.h, q.fregs.fwords.h]), eqL_iff (by rw [k.fbytes.fwords.h, q.fbytes.fwords.h])]
 constructor
 ·rintro ⟨e1, e2⟩
  have hr : ∀ i : Nat, i < 128 → regf a i = regf b i := fun i hi => by rw [← h.reg i hi, ← hq.reg i hi]; unfold rb; rw [e1]
  have hb : ∀ i : Nat, i < 512 → gt a.fbytes.l (i : Int) = gt b.fbytes.l (i : Int) := fun i hi => by rw [← h.byt i hi, ← hq.byt i hi]; unfold bb; rw [e2]
  have hc : a.fctx = b.fctx := hr 15 (by omega)
  have hn : a.fnumber.l = b.fnumber.l := gt_ext (by rw [a.fnumber.h, b.fnumber.h]) fun i hi => by
   rw [a.fnumber.h] at hi
   have := hr i (by omega)
   unfold regf at this
   rw [show decide (i ≤ 10) = true by simp; omega, cond_true, cond_true] at this
   exact this
  have hy : a.fbytes.l = b.fbytes.l := gt_ext (by rw [a.fbytes.h, b.fbytes.h]) fun i hi => hb i (by rw [a.fbytes.h] at hi; exact hi)
  cases a with | mk a1 a2 a3 => cases b with | mk b1 b2 b3 =>
   cases a1; cases a3; cases b1; cases b3
   simp at hn hc hy ⊢
   exact ⟨hn, hc, hy⟩
 ·rintro rfl
  refine ⟨bW_ext (W := 16) (by omega) h.ok.r16 hq.ok.r16 (by rw [k.fregs.fwords.h, q.fregs.fwords.h]) fun i hi => ?_, bW_ext (W := 64) (by omega) h.ok.r64 hq.ok.r64 (by rw [k.fbytes.fwords.h, q.fbytes.fwords.h]) fun i hi => ?_⟩
  ·rw [k.fregs.fwords.h] at hi
   have h1 := h.reg i (by omega)
   have h2 := hq.reg i (by omega)
   rw [← h2] at h1; exact h1
  ·rw [k.fbytes.fwords.h] at hi
   have h1 := h.byt i (by omega)
   have h2 := hq.byt i (by omega)
   rw [← h2] at h1; exact h1
end Go.Proofs.YthpjmknpkdoadaaGreat
namespace Go.Proofs.YthpjmknpkdoadaaGreat
open Go Go.HW
set_option linter.unusedVariables false
set_option maxRecDepth 8000
def WF2 (p : List Instr) : Prop := ∀ x ∈ p, OkI x ∧ 0 ≤ x.fDst ∧ 0 ≤ x.fSrc
theorem WF2.wf {p : List Instr} (h : WF2 p) : WF p := fun x hx => (h x hx).1
theorem okx_pl {p : List Instr} (hw : WF2 p) (ho : okP p = true) {k : Int} (hk : pl p k = true) : OkX (gt p k) := by
 obtain ⟨h0, h1⟩ := pl_in hk
 have he := ok_er_pl ho hk
 obtain ⟨a, b, c⟩ := hw _ (gt_mem h0 h1)
 have h41 : fn41 (fn89 (gt p k)) = true := by
  cases h : fn41 (fn89 (gt p k)) with
  | true => rfl
  | false =>
   unfold er at he
   cases h2 : fn117 (gt p k) with
   | false => rw [h2] at he; cases he
   | true => rw [h2, h] at he; cases he
 rw [rg_eq] at h41
 simp at h41
 exact ⟨a, ⟨b, by omega⟩, ⟨c, by omega⟩⟩
abbrev zK : Known := ⟨⟨Ar.rep 8 0, 0⟩, ⟨Ar.rep 8 0, 0⟩⟩
structure LS (p : List Instr) (m : List (Int × Known)) (out : List RSet) (met : List Bool) : Prop where
 lo : out.length = p.length
 lm : met.length = p.length
 knd : KND m
 has : ∀ t : Int, 0 ≤ t → t < (p.length : Int) → mhas m t = gt met t
 key : ∀ t : Int, mhas m t = true → (0 ≤ t ∧ t < (p.length : Int)) ∧ pl p t = true ∧ Rch (stp p) t ∧ Rel (mget m t zK) (gt out t)
def refE (F : Nat) (p : List Instr) (t : PType) (out : List RSet) (met : List Bool) (g : Bool) (a b : Int) : Option (List RSet × List Bool × Bool) :=
 bif inb a met.length then (bif !(gt met a) then some (out, met, g) else (bif inb a out.length then (Option.bind (fn33 F (gt out a) p a t) fun v => (bif inb b met.length then (bif gt met b then (bif inb b out.length then (Option.bind (fn80 F v.1 (gt out b)) fun u =>
  (bif !(gt met b) then some (out.set b.toNat u, met.set b.toNat true, true) else (bif !(eqR u (gt out b)) then some (out.set b.toNat u, met.set b.toNat true, true) else some (out, met, g)))) else none)
  else (bif !(gt met b) then (bif inb b out.length then some (out.set b.toNat v.1, met.set b.toNat true, true) else none) else (bif inb b out.length then (bif !(eqR v.1 (gt out b)) then some (out.set b.toNat v.1, met.set b.toNat true, true) else some (out, met, g)) else none))) else none)) else none)) else none
theorem ref_loop {F : Nat} {p : List Instr} {t : PType} {v4 : List Edge} (n : Nat) (xs : List RSet) (ys : List Bool) (g : Bool) (k : Int) :
  fn32_l2 F p t v4 (n + 1) xs ys g k = bif decide (k < (v4.length : Int)) then (bif inb k v4.length then (Option.bind (refE F p t xs ys g (gt v4 k).fFrom (gt v4 k).fTo) fun o => fn32_l2 F p t v4 n o.1 o.2.1 o.2.2 (IntKind.i64.wrap (k + 1))) else none) else some (xs, ys, g) := by
 rw [fn32_l2_s]
 unfold refE eqR
 cases decide (k < (v4.length : Int)) with
 | false => rfl
 | true =>
 cases inb k v4.length with
 | false => rfl
 | true =>
 generalize gt v4 k = e
 simp only [cond_true]
 cases inb e.fFrom ys.length with
 | false => rfl
 | true =>
 cases gt ys e.fFrom with
 | false => rfl
 | true =>
 cases inb e.fFrom xs.length with
 | false => rfl
 | true =>
 simp only [cond_true, Bool.not_true, cond_false]
 cases fn33 F (gt xs e.fFrom) p e.fFrom t with
 | none => rfl
 | some v =>
 simp only [Option.bind_some]
 cases inb e.fTo ys.length with
 | false => rfl
 | true =>
 cases hm : gt ys e.fTo with
 | true =>
  cases inb e.fTo xs.length with
  | false => rfl
  | true =>
  simp only [cond_true, Bool.not_true, cond_false]
  cases fn80 F v.1 (gt xs e.fTo) with
  | none => rfl
  | some u =>
  simp only [Option.bind_some]
  cases (!(eqL u.fnumber.l (gt xs e.fTo).fnumber.l && ((u.fctx == (gt xs e.fTo).fctx) && (eqL u.fbytes.l (gt xs e.fTo).fbytes.l && true)))) <;> rfl
 | false =>
  cases inb e.fTo xs.length <;> rfl
def wgt (s : RSet) : Nat := s.fnumber.l.count true + (bif s.fctx then 1 else 0) + s.fbytes.l.count true
theorem wgt_le (s : RSet) : wgt s ≤ 524 := by
 have h1 := List.count_le_length (a := true) (l := s.fnumber.l)
 have h2 := List.count_le_length (a := true) (l := s.fbytes.l)
 rw [s.fnumber.h] at h1
 rw [s.fbytes.h] at h2
 unfold wgt
 cases s.fctx <;> simp <;> omega
theorem count_sub : ∀ {l r : List Bool}, l.length = r.length → (∀ i : Nat, i < l.length → gt l (i : Int) = true → gt r (i : Int) = true) → l.count true ≤ r.count true ∧ (l.count true = r.count true → l = r)
 | [], [], _, _ => ⟨Nat.le_refl _, fun _ => rfl⟩
 | x :: l, y :: r, hn, h => by
  have h0 : x = true → y = true := h 0 (by simp)
  obtain ⟨h1, h2⟩ := count_sub (l := l) (r := r) (by simpa using hn) (fun i hi hl => by
   have := h (i + 1) (by simp; omega)
   have e1 : gt (x :: l) ((i + 1 : Nat) : Int) = gt l (i : Int) := by simp [gt]
   have e2 : gt (y :: r) ((i + 1 : Nat) : Int) = gt r (i : Int) := by simp [gt]
   rw [e1, e2] at this; exact this hl)
  cases x with
  | true =>
   have := h0 rfl; subst this
   simp only [List.count_cons_self]
   exact ⟨by omega, fun e => by rw [h2 (by omega)]⟩
  | false =>
   cases y with
   | true =>
    rw [List.count_cons_of_ne (by decide), List.count_cons_self]
    exact ⟨by omega, fun e => by omega⟩
   | false =>
    rw [List.count_cons_of_ne (by decide), List.count_cons_of_ne (by decide)]
    exact ⟨h1, fun e => by rw [h2 e]⟩
 | [], _ :: _, hn, _ => by simp at hn
 | _ :: _, [], hn, _ => by simp at hn
theorem wgt_both {a b s : RSet} (h : BothS a b s) : wgt s ≤ wgt b ∧ (wgt s = wgt b → s = b) := by
 obtain ⟨n1, n2⟩ := count_sub (l := s.fnumber.l) (r := b.fnumber.l) (by rw [s.fnumber.h, b.fnumber.h]) (fun i hi hl => by
  rw [h.num i (by rw [s.fnumber.h] at hi; exact hi), Bool.and_eq_true] at hl; exact hl.2)
 obtain ⟨b1, b2⟩ := count_sub (l := s.fbytes.l) (r := b.fbytes.l) (by rw [s.fbytes.h, b.fbytes.h]) (fun i hi hl => by
  rw [h.byt i (by rw [s.fbytes.h] at hi; exact hi), Bool.and_eq_true] at hl; exact hl.2)
 have hc := h.ctx
 unfold wgt
 have hcc : (bif s.fctx then 1 else 0 : Nat) ≤ (bif b.fctx then 1 else 0) ∧ ((bif s.fctx then 1 else 0 : Nat) = (bif b.fctx then 1 else 0) → s.fctx = b.fctx) := by
  rw [hc]; cases a.fctx <;> cases b.fctx <;> simp
 refine ⟨by omega, fun e => ?_⟩
 have e1 := n2 (by omega)
 have e2 := b2 (by omega)
 have e3 := hcc.2 (by omega)
 cases s with | mk s1 s2 s3 => cases b with | mk t1 t2 t3 =>
  cases s1; cases s3; cases t1; cases t3
  simp at e1 e2 e3 ⊢
  exact ⟨e1, e3, e2⟩
def mes : List RSet → List Bool → Nat
 | x :: xs, y :: ys => (bif y then wgt x else 525) + mes xs ys
 | _, _ => 0
theorem mes_le : ∀ (xs : List RSet) (ys : List Bool), mes xs ys ≤ 525 * ys.length
 | [], _ => by simp [mes]
 | _ :: _, [] => by simp [mes]
 | x :: xs, y :: ys => by
  have := mes_le xs ys
  have := wgt_le x
  rw [mes, List.length_cons]
  cases y <;> simp <;> omega
theorem mes_set : ∀ (xs : List RSet) (ys : List Bool) (i : Nat) (s : RSet), i < xs.length → i < ys.length → mes (xs.set i s) (ys.set i true) + (bif gt ys (i : Int) then wgt (gt xs (i : Int)) else 525) = mes xs ys + wgt s
 | x :: xs, y :: ys, 0, s, h1, h2 => by
  have e1 : gt (y :: ys) ((0 : Nat) : Int) = y := rfl
  have e2 : gt (x :: xs) ((0 : Nat) : Int) = x := rfl
  rw [e1, e2]
  simp only [List.set_cons_zero, mes, cond_true]
  omega
 | x :: xs, y :: ys, i + 1, s, h1, h2 => by
  have e1 : gt (y :: ys) ((i + 1 : Nat) : Int) = gt ys (i : Int) := by simp [gt]
  have e2 : gt (x :: xs) ((i + 1 : Nat) : Int) = gt xs (i : Int) := by simp [gt]
  have := mes_set xs ys i s (by simpa using h1) (by simpa using h2)
  rw [e1, e2]
  simp only [List.set_cons_succ, mes]
  omega
 | [], _, i, s, h1, h2 => by simp at h1
 | _ :: _, [], i, s, h1, h2 => by simp at h2
structure EdgeS (p : List Instr) (m m' : List (Int × Known)) (out out' : List RSet) (met met' : List Bool) (g g' : Bool) : Prop where
 ls : LS p m' out' met'
 mes : mes out' met' ≤ mes out met
 up : g' = true → g = true ∨ Go.Proofs.YthpjmknpkdoadaaGreat.mes out' met' < Go.Proofs.YthpjmknpkdoadaaGreat.mes out met
 same : g' = false → g = false ∧ m' = m ∧ out' = out ∧ met' = met
 mono : ∀ t, mhas m t = true → mhas m' t = true
theorem edge_eq {F : Nat} (hF : 9000 ≤ F) {w : Walk} (hp : w.fp.length ≤ 1000) (hT : w.ftargets = tg w.fp) (hl : w.ft.fFields.length ≤ 1000) (hw : WF2 w.fp) (ho : okP w.fp = true)
  {m : List (Int × Known)} {out : List RSet} {met : List Bool} (h : LS w.fp m out met) (g : Bool) {a b : Int} (he : (a, b) ∈ eds w.fp) :
  ∃ m' out' met' g', fn27_r2 F w g m a b = some ((g', m'), 0) ∧ refE F w.fp w.ft out met g a b = some (out', met', g') ∧ EdgeS w.fp m m' out out' met met' g g' ∧ (g' = false → mhas m a = true → mhas m b = true) := by
 obtain ⟨ha0, hb⟩ := mem_eds.1 he
 have hsl : (stp w.fp).length = w.fp.length := by rw [stp_length, ho]; rfl
 have ha1 : a < (w.fp.length : Int) := by
  rw [← hsl]
  by_cases hh : a < ((stp w.fp).length : Int)
  ·exact hh
  ·exfalso
   have : gt (stp w.fp) a = [] := by
    unfold gt; rw [List.getD_eq_getElem?_getD, List.getElem?_eq_none (by omega)]; rfl
   rw [this] at hb; cases hb
 obtain ⟨q1, q2, q3, hb0⟩ := stp_pl ho hb ha0 ha1
 obtain ⟨_, hb1⟩ := pl_in q2
 have ia : inb a w.fp.length = true := inb_iff.2 ⟨ha0, ha1⟩
 have ib : inb b w.fp.length = true := inb_iff.2 ⟨hb0, hb1⟩
 obtain ⟨nb, rfl⟩ : ∃ nb : Nat, b = (nb : Int) := ⟨b.toNat, by omega⟩
 rw [fn27_r2, refE, h.lm, h.lo, ia, ib, cond_true, h.has a ha0 ha1, h.has (nb : Int) hb0 hb1]
 cases hma : gt met a with
 | false =>
  refine ⟨m, out, met, g, rfl, rfl, ⟨h, Nat.le_refl _, fun e => .inl e, fun e => ⟨e, rfl, rfl, rfl⟩, fun t ht => ht⟩, fun _ hh => by cases hh⟩
 | true =>
  have hka := h.key a (by rw [h.has a ha0 ha1, hma])
  obtain ⟨_, _, hra, hrel⟩ := hka
  obtain ⟨k', s', bb', e1, e2, e3⟩ := step_eq hF hp hT hl hrel ha0 ha1 (okx_pl hw ho q1)
  have ek : (⟨(mget m a zK).fregs, (mget m a zK).fbytes⟩ : Known) = mget m a zK := rfl
  have hrb : Rch (stp w.fp) (nb : Int) := .step hra hb
  -- an update
  have upd : ∀ (kn : Known) (sn : RSet), Rel kn sn → (wgt sn < (bif gt met (nb : Int) then wgt (gt out (nb : Int)) else 525)) → EdgeS w.fp m (mput m (nb : Int) kn) out (out.set nb sn) met (met.set nb true) g true := by
   intro kn sn hr hwt
   have hmes := mes_set out met nb sn (by rw [h.lo]; omega) (by rw [h.lm]; omega)
   refine ⟨⟨by simp [h.lo], by simp [h.lm], KND_put h.knd, fun t t0 t1 => ?_, fun t ht => ?_⟩, by omega, fun _ => .inr (by omega), fun e => (by cases e), fun t ht => (by rw [mhas_put, ht, Bool.or_true])⟩
   ·obtain ⟨nt, rfl⟩ : ∃ nt : Nat, t = (nt : Int) := ⟨t.toNat, by omega⟩
    rw [mhas_put, gt_setG (by rw [h.lm]; omega), h.has _ t0 t1]
    by_cases hh : nt = nb
    ·subst hh; simp
    ·have : ¬ ((nb : Int) = (nt : Int)) := by omega
     simp [hh, this]
   ·rw [mhas_put] at ht
    by_cases hh : (nb : Int) = t
    ·subst hh
     refine ⟨⟨hb0, hb1⟩, q2, hrb, ?_⟩
     rw [mget_put, if_pos rfl, gt_setG (by rw [h.lo]; omega), if_pos rfl]; exact hr
    ·have ht' : mhas m t = true := by simpa [hh] using ht
     obtain ⟨⟨t0, t1⟩, t2, t3, t4⟩ := h.key t ht'
     refine ⟨⟨t0, t1⟩, t2, t3, ?_⟩
     obtain ⟨nt, rfl⟩ : ∃ nt : Nat, t = (nt : Int) := ⟨t.toNat, by omega⟩
     rw [mget_put, if_neg hh, gt_setG (by rw [h.lo]; omega), if_neg (by omega)]; exact t4
  have hmb : ∀ (kn : Known), mhas (mput m (nb : Int) kn) (nb : Int) = true := fun kn => by rw [mhas_put]; simp
  have hid : EdgeS w.fp m m out out met met g g := ⟨h, Nat.le_refl _, fun e => .inl e, fun e => ⟨e, rfl, rfl, rfl⟩, fun t ht => ht⟩
  rw [ek, e1, e2]
  simp only [Bool.not_true, cond_false, Option.bind_some]
  cases hmb' : gt met (nb : Int) with
  | true =>
   have hbm : mhas m (nb : Int) = true := by rw [h.has _ hb0 hb1, hmb']
   obtain ⟨_, _, _, hrelb⟩ := h.key _ hbm
   obtain ⟨k1, k2, s2, f1, f2, f3, f4, f5⟩ := both_rel (F := F) (by omega) e3 hrelb
   obtain ⟨w1, w2⟩ := wgt_both f5
   have heq := eqK_eqR f4 hrelb
   simp only [cond_true, f1, f2, f3, Option.bind_some, Bool.not_true, cond_false]
   have heqK : (((eqL k2.fregs.fwords.l (mget m (nb : Int) zK).fregs.fwords.l) && ((k2.fregs.fwidth == (mget m (nb : Int) zK).fregs.fwidth) && true)) && (((eqL k2.fbytes.fwords.l (mget m (nb : Int) zK).fbytes.fwords.l) && ((k2.fbytes.fwidth == (mget m (nb : Int) zK).fbytes.fwidth) && true)) && true)) = eqR s2 (gt out (nb : Int)) := heq
   rw [heqK]
   cases hs : eqR s2 (gt out (nb : Int)) with
   | true => exact ⟨m, out, met, g, rfl, rfl, hid, fun _ _ => trivial⟩
   | false =>
    refine ⟨mput m (nb : Int) k2, out.set nb s2, met.set nb true, true, rfl, rfl, upd k2 s2 f4 ?_, fun e => by cases e⟩
    rw [hmb', cond_true]
    rcases Nat.lt_or_eq_of_le w1 with h1 | h1
    ·exact h1
    ·have := eqR_iff.2 (w2 h1)
     rw [this] at hs; cases hs
  | false =>
   simp only [cond_false, Bool.not_false, cond_true]
   refine ⟨mput m (nb : Int) k', out.set nb s', met.set nb true, true, rfl, rfl, upd k' s' e3 ?_, fun e => by cases e⟩
   rw [hmb', cond_false]
   have := wgt_le s'
   omega
end Go.Proofs.YthpjmknpkdoadaaGreat
namespace Go.Proofs.YthpjmknpkdoadaaGreat
open Go Go.HW
set_option linter.unusedVariables false
set_option maxRecDepth 8000
theorem EdgeS.trans {p : List Instr} {m m1 m2 : List (Int × Known)} {o o1 o2 : List RSet} {t t1 t2 : List Bool} {g g1 g2 : Bool} (h : EdgeS p m m1 o o1 t t1 g g1) (k : EdgeS p m1 m2 o1 o2 t1 t2 g1 g2) : EdgeS p m m2 o o2 t t2 g g2 := by
 have h1 := h.mes
 have k1 := k.mes
 refine ⟨k.ls, by omega, fun e => ?_, fun e => ?_, fun x hx => k.mono x (h.mono x hx)⟩
 ·rcases k.up e with a | a
  ·rcases h.up a with b | b
   ·exact .inl b
   ·exact .inr (by omega)
  ·exact .inr (by omega)
 ·obtain ⟨a, rfl, rfl, rfl⟩ := k.same e
  exact h.same a
section
variable {F : Nat} {w : Walk}
theorem round_eq (hF : 9000 ≤ F) (hp : w.fp.length ≤ 1000) (hT : w.ftargets = tg w.fp) (hl : w.ft.fFields.length ≤ 1000) (hw : WF2 w.fp) (ho : okP w.fp = true) {v4 : List Edge} (hv : v4.length ≤ 100000) :
  ∀ (l : List (Int × Int)) (m : List (Int × Known)) (out : List RSet) (met : List Bool) (g : Bool), (∀ e ∈ l, e ∈ eds w.fp) → LS w.fp m out met →
  ∃ m' out' met' g', runL (stepR (fun (s : Bool × (List (Int × Known))) (y : Int × Int) => fn27_r2 F w s.1 s.2 y.1 y.2)) goR l ((g, m), 0) = some ((g', m'), 0) ∧
   (∀ (n k : Nat), k ≤ v4.length → v4.drop k = l.map mkE → l.length < n → fn32_l2 F w.fp w.ft v4 n out met g (k : Int) = some (out', met', g')) ∧ EdgeS w.fp m m' out out' met met' g g' ∧ (g' = false → ∀ e ∈ l, mhas m e.1 = true → mhas m e.2 = true)
 | [], m, out, met, g, _, h => by
  refine ⟨m, out, met, g, rfl, fun n k hk hd hn => ?_, ⟨h, Nat.le_refl _, fun e => .inl e, fun e => ⟨e, rfl, rfl, rfl⟩, fun t ht => ht⟩, fun _ e he => by cases he⟩
  obtain ⟨n, rfl⟩ : ∃ j, n = j + 1 := ⟨n - 1, by simp at hn; omega⟩
  have hlen : (v4.drop k).length = 0 := by rw [hd]; rfl
  rw [List.length_drop] at hlen
  rw [ref_loop, show decide ((k : Int) < (v4.length : Int)) = false by simp; omega]; rfl
 | e :: l, m, out, met, g, he, h => by
  obtain ⟨m1, o1, t1, g1, e1, e2, e3, e4⟩ := edge_eq hF hp hT hl hw ho h g (a := e.1) (b := e.2) (he e (by simp))
  obtain ⟨m2, o2, t2, g2, f1, f2, f3, f4⟩ := round_eq hF hp hT hl hw ho hv l m1 o1 t1 g1 (fun x hx => he x (by simp [hx])) e3.ls
  refine ⟨m2, o2, t2, g2, ?_, fun n k hk hd hn => ?_, e3.trans f3, fun hg x hx => ?_⟩
  ·rw [runR_go (s' := (g1, m1)) e1]; exact f1
  ·obtain ⟨n, rfl⟩ : ∃ j, n = j + 1 := ⟨n - 1, by simp at hn; omega⟩
   have hlt : k < v4.length := by
    have : (v4.drop k).length = l.length + 1 := by rw [hd]; simp
    rw [List.length_drop] at this; omega
   have hdg := drop_gt (v := v4) hlt
   rw [hd, List.map_cons] at hdg
   injection hdg with h1 h2
   rw [ref_loop, show decide ((k : Int) < (v4.length : Int)) = true by simp; omega, cond_true, show inb (k : Int) v4.length = true from inb_iff.2 ⟨by omega, by omega⟩, cond_true, ← h1]
   show Option.bind (refE F w.fp w.ft out met g e.1 e.2) _ = _
   rw [e2, Option.bind_some, show IntKind.i64.wrap ((k : Int) + 1) = ((k + 1 : Nat) : Int) from w64 (by omega)]
   exact f2 n (k + 1) (by omega) h2.symm (by simp at hn; omega)
  ·obtain ⟨a, b, _, _⟩ := f3.same hg
   have hs := e3.same a
   rcases List.mem_cons.1 hx with rfl | hx
   ·exact e4 a
   ·have := f4 hg x hx
    rw [hs.2.1] at this; exact this
def Closed2 (p : List Instr) (m : List (Int × Known)) : Prop := ∀ e ∈ eds p, mhas m e.1 = true → mhas m e.2 = true
theorem rounds_eq (hF : 9000 ≤ F) (hp : w.fp.length ≤ 1000) (hT : w.ftargets = tg w.fp) (hl : w.ft.fFields.length ≤ 1000) (hw : WF2 w.fp) (ho : okP w.fp = true) :
  ∀ (n : Nat) (m : List (Int × Known)) (out : List RSet) (met : List Bool) (x : Bool), LS w.fp m out met → (x = false → Closed2 w.fp m) → (bif x then mes out met + 2 else 1) ≤ n →
  ∃ m' out' met', fn27_l1 F w n m x = some m' ∧ fn32_l1 F w.fp w.ft ((eds w.fp).map mkE) n out met x = some out' ∧ LS w.fp m' out' met' ∧ Closed2 w.fp m' ∧ ∀ t, mhas m t = true → mhas m' t = true
 | 0, m, out, met, x, _, _, h => by cases x <;> simp at h
 | n + 1, m, out, met, x, h, hc, hn => by
  rw [fn27_l1_s, fn32_l1_s]
  cases x with
  | false => exact ⟨m, out, met, rfl, rfl, h, hc rfl, fun t ht => ht⟩
  | true =>
   simp only [cond_true] at hn ⊢
   have hel := eds_len (p := w.fp)
   obtain ⟨m1, o1, t1, g1, e1, e2, e3, e4⟩ := round_eq (F := F) hF hp hT hl hw ho (v4 := (eds w.fp).map mkE) (by rw [List.length_map]; omega) (eds w.fp) m out met false (fun e he => he) h
   have e2' := e2 F 0 (by omega) rfl (by omega)
   rw [show ((0 : Nat) : Int) = 0 from rfl] at e2'
   rw [edges_run (by omega) (by omega) hw.wf, e1, e2', Option.bind_some, Option.bind_some]
   show ∃ m' out' met', fn27_l1 F w n m1 g1 = some m' ∧ fn32_l1 F w.fp w.ft ((eds w.fp).map mkE) n o1 t1 g1 = some out' ∧ _
   have hm := e3.mes
   obtain ⟨m2, o2, t2, f1, f2, f3, f4, f5⟩ := rounds_eq hF hp hT hl hw ho n m1 o1 t1 g1 e3.ls (fun hg e he hh => by
    obtain ⟨_, a, _, _⟩ := e3.same hg
    rw [a] at hh ⊢; exact e4 hg e he hh) (by
    cases g1 with
    | false => simp; omega
    | true =>
     simp only [cond_true]
     rcases e3.up rfl with a | a
     ·cases a
     ·omega)
   exact ⟨m2, o2, t2, f1, f2, f3, f4, fun t ht => f5 t (e3.mono t ht)⟩
theorem mget_mem {α : Type} {z : α} : ∀ {xs : List (Int × α)} {k : Int} {v : α}, KND xs → (k, v) ∈ xs → mget xs k z = v
 | q :: xs, k, v, hn, h => by
  unfold KND at hn
  rw [List.map_cons, List.nodup_cons] at hn
  unfold mget mfind
  rcases List.mem_cons.1 h with rfl | h
  ·simp
  ·have : ¬ (q.1 = k) := fun e => hn.1 (List.mem_map.2 ⟨(k, v), h, e.symm⟩)
   simp only [this, decide_false, cond_false]
   exact mget_mem (z := z) (xs := xs) hn.2 h
 | [], k, v, _, h => by cases h
theorem last_loop {p : List Instr} {t : PType} {R : List Bool} {out : List RSet} {sb : Int → Bool} (hR : R.length = p.length) (ho : out.length = p.length) (hp : p.length ≤ 1000)
  (hs : ∀ i : Int, 0 ≤ i → i < (p.length : Int) → gt R i = true → ∃ s', fn33 F (gt out i) p i t = some (s', sb i)) : ∀ (n k : Nat), k ≤ p.length → p.length - k < n →
  fn12_l1 F p t R out n (k : Int) = some (bif (List.range' k (p.length - k)).all (fun i : Nat => !(gt R (i : Int)) || sb (i : Int)) then .inl () else .inr false)
 | 0, k, h1, h2 => by omega
 | n + 1, k, h1, h2 => by
  rw [fn12_l1_s]
  by_cases hk : k < p.length
  ·rw [show decide ((k : Int) < (p.length : Int)) = true by simp; omega, cond_true, hR, ho, show inb (k : Int) p.length = true from inb_iff.2 ⟨by omega, by omega⟩, cond_true, show IntKind.i64.wrap ((k : Int) + 1) = ((k + 1 : Nat) : Int) from w64 (by omega),
    last_loop hR ho hp hs n (k + 1) (by omega) (by omega), show p.length - k = (p.length - (k + 1)) + 1 by omega, List.range'_succ, List.all_cons]
   cases hg : gt R (k : Int) with
   | false => simp
   | true =>
    obtain ⟨s', e⟩ := hs (k : Int) (by omega) (by omega) hg
    rw [e]
    cases hb : sb (k : Int) with
    | true => simp
    | false => simp
  ·rw [show decide ((k : Int) < (p.length : Int)) = false by simp; omega, cond_false, show p.length - k = 0 by omega]; rfl
end
theorem pl_zero {p : List Instr} (ho : okP p = true) : pl p 0 = true := by
 obtain ⟨hne, _⟩ := ok_len ho
 rw [← pos_pl, posIn, List.any_eq_true]
 cases p with
 | nil => exact absurd rfl hne
 | cons i l => exact ⟨(0, fn89 i), by rw [firstsL_cons]; simp, by simp⟩
theorem is_eq {F : Nat} (hF : 40000 ≤ F) {p : List Instr} {t : PType} (hp : p.length ≤ 1000) (hw : WF2 p) (hl : t.fFields.length ≤ 1000) (hk : ∃ e1 e2, fn24 F t = some e1 ∧ fn29 F t = some e2 ∧ (e1 != 0) = (e2 != 0)) :
  ∃ b, fn11 F p t = some b ∧ fn12 F p t = some b := by
 rw [fn11, fn12, check_prog (by omega) (by omega) hw.wf, check_ref (by omega) (by omega), Option.bind_some, Option.bind_some]
 cases ho : okP p with
 | false => rw [not_ok ho]; exact ⟨false, rfl, rfl⟩
 | true =>
  rw [is_ok ho]
  obtain ⟨e1, e2, k1, k2, k3⟩ := hk
  simp only [cond_false, cond_true, k1, k2, Option.bind_some, Bool.false_or]
  rw [k3]
  cases he : (e2 != 0) with
  | true => exact ⟨false, rfl, rfl⟩
  | false =>
  simp only [Bool.false_or]
  cases h64 : decide ((64 : Int) < (p.length : Int)) with
  | true => exact ⟨false, rfl, rfl⟩
  | false =>
  have hp64 : p.length ≤ 64 := by simp at h64; omega
  simp only [cond_false, cond_true, Bool.false_or]
  obtain ⟨b1, l1, l2⟩ := loops_prog (F := F) (p := p) (by omega) (by omega) hw.wf ho (stp_valid p)
  obtain ⟨b2, l3, l4⟩ := loops_ref (F := F) (p := p) (by omega) (by omega)
  have hbb : b1 = b2 := by rw [Bool.eq_iff_iff, l2, l4]
  rw [l1, l3, hbb, Option.bind_some, Option.bind_some]
  cases b2 with
  | true => exact ⟨false, rfl, rfl⟩
  | false =>
  obtain ⟨R, r1, r2, r3⟩ := reached_ref (F := F) (p := p) (by omega) (by omega)
  simp only [cond_false]
  rw [targets_prog (by omega) (by omega) hw.wf, r1, Option.bind_some, Option.bind_some]
  have hsl : (stp p).length = p.length := by rw [stp_length, ho]; rfl
  obtain ⟨hne, _⟩ := ok_len ho
  have hpos : 0 < p.length := List.length_pos_iff.2 hne
  let w : Walk := ⟨p, t, tg p⟩
  obtain ⟨k0, a1, a2⟩ := begin_rel (F := F) (by omega)
  -- the document's beginning
  have z0 : ∀ i : Int, gt (List.replicate p.length (⟨Ar.rep 11 false, false, Ar.rep 512 false⟩ : RSet)) 0 = (⟨Ar.rep 11 false, false, Ar.rep 512 false⟩ : RSet) := fun i => by
   unfold gt
   rw [List.getD_eq_getElem?_getD, List.getElem?_replicate, if_pos (by simpa using hpos)]; rfl
  have hls : LS p (mput [] 0 k0) ((List.replicate p.length (⟨Ar.rep 11 false, false, Ar.rep 512 false⟩ : RSet)).set 0 ⟨Ar.rep 11 false, true, Ar.rep 512 false⟩) ((List.replicate p.length false).set 0 true) := by
   refine ⟨by simp, by simp, by simp [KND, mput], fun i h0 h1 => ?_, fun i hi => ?_⟩
   ·obtain ⟨j, rfl⟩ : ∃ j : Nat, i = (j : Int) := ⟨i.toNat, by omega⟩
    rw [gt_setG (by simpa using hpos), gt_rep _ false rfl]
    by_cases hj : j = 0
    ·subst hj; simp [mput, mhas, mfind]
    ·have : ¬ ((0 : Int) = (j : Int)) := by omega
     simp [mput, mhas, mfind, hj, this]
   ·have : i = 0 := by
     by_cases h : (0 : Int) = i
     ·exact h.symm
     ·simp [mput, mhas, mfind, h] at hi
    subst this
    refine ⟨⟨by omega, by omega⟩, pl_zero ho, .base, ?_⟩
    rw [mget_put, if_pos rfl, show (0 : Int) = ((0 : Nat) : Int) from rfl, gt_setG (by simpa using hpos), if_pos rfl]
    exact a2
  have hmes := mes_le ((List.replicate p.length (⟨Ar.rep 11 false, false, Ar.rep 512 false⟩ : RSet)).set 0 ⟨Ar.rep 11 false, true, Ar.rep 512 false⟩) ((List.replicate p.length false).set 0 true)
  rw [List.length_set, List.length_replicate] at hmes
  obtain ⟨m', out', met', f1, f2, f3, f4, f5⟩ := rounds_eq (F := F) (w := w) (by omega) hp rfl hl hw ho F _ _ _ true hls (fun e => by cases e) (by simp only [cond_true]; omega)
  have g1 : (decide ((0 : Int) ≤ (p.length : Int)) && decide ((p.length : Int) ≤ (p.length : Int)) && decide ((524 : Int) * (p.length : Int) ≤ 281474976710656) && decide ((p.length : Int) ≤ 9223372036854775807)) = true := by simp; omega
  have g2 : (decide ((0 : Int) ≤ (p.length : Int)) && decide ((p.length : Int) ≤ (p.length : Int)) && decide ((1 : Int) * (p.length : Int) ≤ 281474976710656) && decide ((p.length : Int) ≤ 9223372036854775807)) = true := by simp; omega
  have e32 : fn32 F p t = some out' := by
   rw [fn32, g1, g2, cond_true, cond_true, Int.toNat_natCast, show inb 0 p.length = true from inb_iff.2 ⟨by omega, by omega⟩, cond_true, edges_ref (by omega) (by omega), Option.bind_some, z0 0, show ((0 : Int)).toNat = 0 from rfl]
   show Option.bind (fn32_l1 F w.fp w.ft ((eds w.fp).map mkE) F _ _ true) _ = _
   rw [f2]; rfl
  -- what a step tells
  let sb : Int → Bool := fun i => ((fn33 F (gt out' i) p i t).getD (default, false)).2
  have hst : ∀ i : Int, mhas m' i = true → (∃ k', fn66 F w (mget m' i zK) i = some (sb i, k')) ∧ ∃ s', fn33 F (gt out' i) p i t = some (s', sb i) := fun i hi => by
   obtain ⟨⟨i0, i1⟩, i2, i3, i4⟩ := f3.key i hi
   obtain ⟨k', s', b, e1, e2, e3⟩ := step_eq (F := F) (w := w) (by omega) hp rfl hl i4 i0 i1 (okx_pl hw ho i2)
   have : sb i = b := by
    show ((fn33 F (gt out' i) p i t).getD (default, false)).2 = b
    have e2' : fn33 F (gt out' i) p i t = some (s', b) := e2
    rw [e2']; rfl
   rw [this]; exact ⟨⟨k', e1⟩, s', e2⟩
  have hrch : ∀ i : Int, Rch (stp p) i → mhas m' i = true := fun i hi => by
   induction hi with
   | base => exact f5 0 (by simp [mput, mhas, mfind])
   | @step a b ha hb ih =>
    have : (a, b) ∈ eds p := mem_eds.2 ⟨(f3.key a ih).1.1, hb⟩
    exact f4 (a, b) this ih
  have hm : mapAll (fun k v => fn27_m3 F w k v) m' = some (m'.all fun q => sb q.1) := by
   have hq : ∀ q ∈ m', fn27_m3 F w q.1 q.2 = some (sb q.1) := fun q hq => by
    have hv : mget m' q.1 zK = q.2 := mget_mem f3.knd hq
    obtain ⟨⟨k', e⟩, _⟩ := hst q.1 ((mhas_iff m' q.1).2 ⟨q, hq, rfl⟩)
    rw [hv] at e
    rw [fn27_m3, e, Option.bind_some]
    cases sb q.1 <;> rfl
   unfold mapAll
   have h1 : (m'.all fun q => (fn27_m3 F w q.1 q.2).isSome) = true := List.all_eq_true.2 fun q h => by rw [hq q h]; rfl
   rw [h1, cond_true]
   congr 1
   exact all_congr' fun q h => by
    show (fn27_m3 F w q.1 q.2 == some true) = _
    rw [hq q h]; cases sb q.1 <;> rfl
  have e27 : fn27 F w = some (m'.all fun q => sb q.1) := by
   rw [fn27, a1, Option.bind_some, f1, Option.bind_some, fn27_k1, hm, Option.bind_some, fn27_k3]
   cases (m'.all fun q => sb q.1) <;> rfl
  have hlast := last_loop (F := F) (p := p) (t := t) (R := R) (out := out') (sb := sb) (by rw [r2, hsl]) f3.lo hp (fun i i0 i1 hr => (hst i (hrch i ((r3 i i0 (by rw [hsl]; exact i1)).1 hr))).2) F 0 (by omega) (by omega)
  rw [show ((0 : Nat) : Int) = 0 from rfl] at hlast
  have hfin : (m'.all fun q => sb q.1) = (List.range' 0 (p.length - 0)).all (fun i : Nat => !(gt R (i : Int)) || sb (i : Int)) := by
   rw [Bool.eq_iff_iff, List.all_eq_true, List.all_eq_true]
   constructor
   ·intro h i hi
    have hi' : i < p.length := by simp at hi; omega
    cases hr : gt R (i : Int) with
    | false => rfl
    | true =>
     obtain ⟨q, q1, q2⟩ := (mhas_iff m' (i : Int)).1 (hrch _ ((r3 (i : Int) (by omega) (by rw [hsl]; omega)).1 hr))
     have := h q q1
     rw [q2] at this; rw [this]; rfl
   ·intro h q hq
    obtain ⟨⟨i0, i1⟩, _, i3, _⟩ := f3.key q.1 ((mhas_iff m' q.1).2 ⟨q, hq, rfl⟩)
    have i1' : q.1 < (p.length : Int) := i1
    have := h q.1.toNat (by simp; omega)
    rw [Int.toNat_of_nonneg i0, (r3 q.1 i0 (by rw [hsl]; exact i1)).2 i3] at this
    simpa using this
  refine ⟨m'.all fun q => sb q.1, by
   show Option.bind (fn27 F w) _ = _
   rw [e27]; rfl, ?_⟩
  rw [e32, Option.bind_some, hlast, Option.bind_some, hfin]
  cases (List.range' 0 (p.length - 0)).all (fun i : Nat => !(gt R (i : Int)) || sb (i : Int)) <;> rfl
end Go.Proofs.YthpjmknpkdoadaaGreat
namespace Go.Proofs.YthpjmknpkdoadaaGreat
open Go Go.HW
set_option linter.unusedVariables false
set_option maxRecDepth 8000
theorem name_l1 (s : ByteArray) : ∀ (n : Nat) (x : Int), fn56_l1 s n x = fn73_l1 s n x
 | 0, _ => rfl
 | n + 1, x => by rw [fn56_l1_s, fn73_l1_s, name_l1 s n]; rfl
theorem name_eq (F : Nat) (s : ByteArray) : fn56 F s = fn73 F s := by
 rw [fn56, fn73, name_l1]; rfl
theorem name_tot {s : ByteArray} (hs : s.size ≤ 100000) : ∀ (n k : Nat), k ≤ s.size → s.size - k < n → ∃ o, fn73_l1 s n (k : Int) = some o
 | 0, k, h1, h2 => by omega
 | n + 1, k, h1, h2 => by
  rw [fn73_l1_s]
  by_cases hk : k < s.size
  ·rw [show decide ((k : Int) < (s.size : Int)) = true by simp; omega, cond_true, show inb (k : Int) s.size = true from inb_iff.2 ⟨by omega, by omega⟩, cond_true, show IntKind.i64.wrap ((k : Int) + 1) = ((k + 1 : Nat) : Int) from w64 (by omega)]
   obtain ⟨o, e⟩ := name_tot hs n (k + 1) (by omega) (by omega)
   generalize (!(((((decide ((97 : Int) ≤ (bget s (k : Int)))) && (decide ((bget s (k : Int)) ≤ 122))) || ((decide ((48 : Int) ≤ (bget s (k : Int)))) && (decide ((bget s (k : Int)) ≤ 57)))) || ((bget s (k : Int)) == 95)) || ((bget s (k : Int)) == 46))) = c
   cases c with
   | true => exact ⟨_, rfl⟩
   | false => exact ⟨o, e⟩
  ·rw [show decide ((k : Int) < (s.size : Int)) = false by simp; omega]; exact ⟨_, rfl⟩
theorem name_ok {F : Nat} {s : ByteArray} (hs : s.size ≤ 100000) (hF : s.size < F) : ∃ b, fn73 F s = some b := by
 obtain ⟨o, e⟩ := name_tot hs F 0 (by omega) (by omega)
 rw [show ((0 : Nat) : Int) = 0 from rfl] at e
 rw [fn73, e]
 cases o <;> exact ⟨_, rfl⟩
def goodN (n : Need) : Bool := fn76 n.fHelper && fn77 n.fMajor n.fMinor
def riseN (l : List Need) (i : Nat) : Bool := decide (i = 0) || decide ((gt l ((i : Int) - 1)).fHelper < (gt l (i : Int)).fHelper)
theorem rise_l1 {l : List Need} (hl : l.length ≤ 1000) : ∀ (n k : Nat), k ≤ l.length → l.length - k < n → fn49_l1 l n (k : Int) = some (bif (List.range' k (l.length - k)).all (riseN l) then .inl () else .inr false)
 | 0, k, h1, h2 => by omega
 | n + 1, k, h1, h2 => by
  rw [fn49_l1_s]
  by_cases hk : k < l.length
  ·rw [show decide ((k : Int) < (l.length : Int)) = true by simp; omega, cond_true, show IntKind.i64.wrap ((k : Int) + 1) = ((k + 1 : Nat) : Int) from w64 (by omega), rise_l1 hl n (k + 1) (by omega) (by omega), show l.length - k = (l.length - (k + 1)) + 1 by omega, List.range'_succ, List.all_cons,
    show inb (k : Int) l.length = true from inb_iff.2 ⟨by omega, by omega⟩, w64 (n := (k : Int) - 1) (by omega)]
   by_cases h0 : k = 0
   ·subst h0; simp [riseN]
   ·have e1 : decide ((0 : Int) < (k : Int)) = true := by simp; omega
    have e2 : inb ((k : Int) - 1) l.length = true := inb_iff.2 ⟨by omega, by omega⟩
    rw [e1, e2]
    have e3 : decide ((0 : Int) ≤ fn50 (gt l ((k : Int) - 1)) (gt l (k : Int))) = !riseN l k := by
     unfold riseN fn50 fn51 fn98
     simp only [bne_self_eq_false, cond_false, h0, decide_false, Bool.false_or]
     by_cases h3 : (gt l ((k : Int) - 1)).fHelper < (gt l (k : Int)).fHelper
     ·simp [h3]
     ·by_cases h4 : (gt l (k : Int)).fHelper < (gt l ((k : Int) - 1)).fHelper
      ·simp [h3, h4]
      ·simp [h3, h4]
    rw [e3]
    cases riseN l k <;> simp
  ·rw [show decide ((k : Int) < (l.length : Int)) = false by simp; omega, cond_false, show l.length - k = 0 by omega]; rfl
theorem rise_ok {F : Nat} {l : List Need} (hl : l.length ≤ 1000) (hF : l.length < F) : fn49 F l = some ((List.range' 0 l.length).all (riseN l)) := by
 have := rise_l1 hl F 0 (by omega) (by omega)
 rw [show ((0 : Nat) : Int) = 0 from rfl, Nat.sub_zero] at this
 rw [fn49, this, Option.bind_some]
 cases (List.range' 0 l.length).all (riseN l) <;> rfl
theorem good_ok {F : Nat} {l : List Need} (hl : l.length ≤ 1000) (hF : l.length < F) : fn52 F l = some (l.any fun n => !goodN n) := by
 have := findAny l fn53 (fn99_l1 l) (by omega) (fun n k _ => fn99_l1_s l n k) (F := F) (.inr hF)
 rw [fn52, fn99]
 refine Eq.trans this ?_
 congr 1
 congr 1
 funext n
 unfold fn53 goodN
 rw [Bool.not_and]; rfl
theorem needs_l1 {t : PType} (hl : t.fNeeds.length ≤ 1000) : ∀ (n k : Nat), k ≤ t.fNeeds.length → t.fNeeds.length - k < n → fn29_l1 t n (k : Int) = some (bif (List.range' k (t.fNeeds.length - k)).all (fun i : Nat => riseN t.fNeeds i && goodN (gt t.fNeeds (i : Int))) then .inl () else .inr 34)
 | 0, k, h1, h2 => by omega
 | n + 1, k, h1, h2 => by
  rw [fn29_l1_s]
  by_cases hk : k < t.fNeeds.length
  ·rw [show decide ((k : Int) < (t.fNeeds.length : Int)) = true by simp; omega, cond_true, show IntKind.i64.wrap ((k : Int) + 1) = ((k + 1 : Nat) : Int) from w64 (by omega), needs_l1 hl n (k + 1) (by omega) (by omega), show t.fNeeds.length - k = (t.fNeeds.length - (k + 1)) + 1 by omega, List.range'_succ, List.all_cons,
    show inb (k : Int) t.fNeeds.length = true from inb_iff.2 ⟨by omega, by omega⟩, cond_true, w64 (n := (k : Int) - 1) (by omega)]
   have hr : (decide ((0 : Int) < (k : Int)) && decide ((gt t.fNeeds (k : Int)).fHelper ≤ (gt t.fNeeds ((k : Int) - 1)).fHelper)) = !riseN t.fNeeds k := by
    unfold riseN
    by_cases h0 : k = 0
    ·subst h0; simp
    ·have e1 : decide ((0 : Int) < (k : Int)) = true := by simp; omega
     rw [e1]; simp only [h0, decide_false, Bool.false_or, Bool.true_and]
     rw [← decide_not]; exact decide_eq_decide.2 (by omega)
   have hb : ∀ A : Bool, (bif A then true else bif decide ((0 : Int) < (k : Int)) then inb ((k : Int) - 1) t.fNeeds.length else true) = true := fun A => by
    cases A with
    | true => rfl
    | false =>
     by_cases h0 : k = 0
     ·subst h0; rfl
     ·rw [show inb ((k : Int) - 1) t.fNeeds.length = true from inb_iff.2 ⟨by omega, by omega⟩]
      cases decide ((0 : Int) < (k : Int)) <;> rfl
   rw [hb, cond_true, hr]
   unfold goodN
   cases fn76 (gt t.fNeeds (k : Int)).fHelper <;> cases riseN t.fNeeds k <;> cases fn77 (gt t.fNeeds (k : Int)).fMajor (gt t.fNeeds (k : Int)).fMinor <;> simp
  ·rw [show decide ((k : Int) < (t.fNeeds.length : Int)) = false by simp; omega, cond_false, show t.fNeeds.length - k = 0 by omega]; rfl
theorem needs_same {l : List Need} : ((List.range' 0 l.length).all (riseN l) && !(l.any fun n => !goodN n)) = (List.range' 0 l.length).all (fun i : Nat => riseN l i && goodN (gt l (i : Int))) := by
 rw [Bool.eq_iff_iff, Bool.and_eq_true, List.all_eq_true, List.all_eq_true, Bool.not_eq_true', List.any_eq_false]
 constructor
 ·rintro ⟨h1, h2⟩ i hi
  rw [Bool.and_eq_true]
  have hi' : i < l.length := by simpa using hi
  have hm : gt l (i : Int) ∈ l := by
   have : gt l (i : Int) = l[i] := by simp [gt, hi']
   rw [this]; exact List.getElem_mem _
  refine ⟨h1 i hi, ?_⟩
  have := h2 _ hm
  simpa using this
 ·intro h
  refine ⟨fun i hi => (Bool.and_eq_true _ _ ▸ h i hi).1, fun n hn => ?_⟩
  obtain ⟨i, hi, e⟩ := List.mem_iff_getElem.1 hn
  have := h i (by simp; omega)
  have e2 : gt l (i : Int) = n := by rw [← e]; simp [gt, hi]
  rw [e2, Bool.and_eq_true] at this
  simp [this.2]
def endF (t : PType) (k : Nat) : Int := if k = 0 then 0 else IntKind.i64.wrap ((gt t.fFields ((k : Int) - 1)).fOff + (gt t.fFields ((k : Int) - 1)).fSize)
theorem fields_step {F : Nat} (hF : 10 ≤ F) {t : PType} (hl : t.fFields.length ≤ 1000) {k : Nat} (hk : k < t.fFields.length) (x : Ar Int 4) (n : Nat) :
  (∃ x', fn58_r1 F t x (k : Int) (gt t.fFields (k : Int)) = some (x', 1) ∧ fn75_l1 t (n + 1) (endF t k) (gt x.l 2) (gt x.l 3) (k : Int) = some (.inr false)) ∨
  ∃ x' : Ar Int 4, fn58_r1 F t x (k : Int) (gt t.fFields (k : Int)) = some (x', 0) ∧ fn75_l1 t (n + 1) (endF t k) (gt x.l 2) (gt x.l 3) (k : Int) = fn75_l1 t n (endF t (k + 1)) (gt x'.l 2) (gt x'.l 3) ((k + 1 : Nat) : Int) := by
 have hend : endF t (k + 1) = IntKind.i64.wrap ((gt t.fFields (k : Int)).fOff + (gt t.fFields (k : Int)).fSize) := by
  unfold endF
  rw [if_neg (by omega), show ((k + 1 : Nat) : Int) - 1 = (k : Int) by omega]
 have hprog : fn58_r1 F t x (k : Int) (gt t.fFields (k : Int)) = (Option.bind (fn102 F ([1, 2, 4, 8] : List Int) (gt t.fFields (k : Int)).fSize) fun v => (bif !v then (some (x, 1)) else (bif decide ((gt t.fFields (k : Int)).fOff < endF t k) then (some (x, 1)) else (bif decide ((IntKind.i64.wrap (t.fCtx - (gt t.fFields (k : Int)).fSize)) < (gt t.fFields (k : Int)).fOff) then (some (x, 1)) else (bif (gt t.fFields (k : Int)).fSize != 0 then (bif ((gt t.fFields (k : Int)).fOff.tmod (gt t.fFields (k : Int)).fSize) != 0 then (some (x, 1)) else (bif decide ((gt t.fFields (k : Int)).fKind < 1) then (some (x, 1)) else (bif decide ((3 : Int) < (gt t.fFields (k : Int)).fKind) then (some (x, 1)) else (bif (((gt t.fFields (k : Int)).fKind == 2) || ((gt t.fFields (k : Int)).fKind == 3)) && (((gt t.fFields (k : Int)).fSize != 8) || (gt t.fFields (k : Int)).fWrite) then (some (x, 1)) else (bif inb (gt t.fFields (k : Int)).fKind 4 then (some (x.set (gt t.fFields (k : Int)).fKind (IntKind.i64.wrap ((gt x.l (gt t.fFields (k : Int)).fKind) + 1)), 0)) else none))))) else none))))) := by
  have hcl : (cutX t.fFields 0 (0 + min ((k : Int)).toNat t.fFields.length)).length = k := by
   rw [cutX_length (by rw [Int.toNat_natCast]; omega), Int.toNat_natCast]; omega
  have hmin : min ((k : Int)).toNat t.fFields.length = k := by rw [Int.toNat_natCast]; omega
  rw [fn58_r1, hcl, w64 (n := (k : Int) - 1) (by omega)]
  by_cases h0 : k = 0
  ·subst h0; rfl
  ·have e1 : decide ((0 : Int) ≤ (k : Int) - 1) = true := by simp; omega
   rw [e1, cond_true, hmin, show inb ((k : Int) - 1) k = true from inb_iff.2 ⟨by omega, by omega⟩, cond_true]
   have e2 : gt (cutX t.fFields 0 (0 + k)) ((k : Int) - 1) = gt t.fFields ((k : Int) - 1) := by
    unfold gt cutX
    rw [List.getD_eq_getElem?_getD, List.getD_eq_getElem?_getD, List.drop_zero, List.getElem?_take, if_pos (by omega)]
   rw [e2]
   have e3 : endF t k = IntKind.i64.wrap ((gt t.fFields ((k : Int) - 1)).fOff + (gt t.fFields ((k : Int) - 1)).fSize) := by unfold endF; rw [if_neg h0]
   rw [e3]
 rw [hprog, has102 _ _ (by simp) (by simp; omega), fn75_l1_s, hend]
 generalize gt t.fFields (k : Int) = f
 generalize endF t k = e
 rw [show decide ((k : Int) < (t.fFields.length : Int)) = true by simp; omega, cond_true, show inb (k : Int) t.fFields.length = true from inb_iff.2 ⟨by omega, by omega⟩, cond_true, show IntKind.i64.wrap ((k : Int) + 1) = ((k + 1 : Nat) : Int) from w64 (by omega)]
 have hs : ((((f.fSize != 1) && (f.fSize != 2)) && (f.fSize != 4)) && (f.fSize != 8)) = !decide (f.fSize ∈ ([1, 2, 4, 8] : List Int)) := by
  by_cases h1 : f.fSize = 1 <;> by_cases h2 : f.fSize = 2 <;> by_cases h4 : f.fSize = 4 <;> by_cases h8 : f.fSize = 8 <;> simp [bne, h1, h2, h4, h8]
 rw [hs, Option.bind_some]
 cases hin : decide (f.fSize ∈ ([1, 2, 4, 8] : List Int)) with
 | false => exact .inl ⟨x, rfl, rfl⟩
 | true =>
 have hs0 : (f.fSize != 0) = true := by
  have : f.fSize ∈ ([1, 2, 4, 8] : List Int) := of_decide_eq_true hin
  simp at this; simp; omega
 simp only [Bool.not_true, cond_false, Bool.false_or]
 cases decide (f.fOff < e) with
 | true => exact .inl ⟨x, rfl, rfl⟩
 | false =>
 cases decide (IntKind.i64.wrap (t.fCtx - f.fSize) < f.fOff) with
 | true => exact .inl ⟨x, rfl, rfl⟩
 | false =>
 rw [hs0]
 simp only [cond_true, cond_false, Bool.false_or]
 cases (f.fOff.tmod f.fSize != 0) with
 | true => exact .inl ⟨x, rfl, rfl⟩
 | false =>
 simp only [cond_false]
 have setg : ∀ (c : Nat) (j : Nat), c < 4 → gt (x.set (c : Int) (IntKind.i64.wrap (gt x.l (c : Int) + 1))).l (j : Int) = if j = c then IntKind.i64.wrap (gt x.l (c : Int) + 1) else gt x.l (j : Int) := fun c j hc => by
  rw [set_l]; exact gt_setN (by rw [x.h]; exact hc)
 by_cases k1 : f.fKind = 1
 ·refine .inr ⟨x.set 1 (IntKind.i64.wrap (gt x.l 1 + 1)), ?_, ?_⟩
  ·rw [k1]; rfl
  ·rw [k1]
   have a2 := setg 1 2 (by omega)
   have a3 := setg 1 3 (by omega)
   rw [if_neg (by omega)] at a2 a3
   have a2' : gt (x.set 1 (IntKind.i64.wrap (gt x.l 1 + 1))).l 2 = gt x.l 2 := a2
   have a3' : gt (x.set 1 (IntKind.i64.wrap (gt x.l 1 + 1))).l 3 = gt x.l 3 := a3
   rw [a2', a3']; rfl
 ·have k1' : (f.fKind == 1) = false := by simp [k1]
  rw [k1']
  by_cases k2 : f.fKind = 2
  ·rw [k2]
   cases ((f.fSize != 8) || f.fWrite) with
   | true => exact .inl ⟨x, rfl, rfl⟩
   | false =>
    refine .inr ⟨x.set 2 (IntKind.i64.wrap (gt x.l 2 + 1)), rfl, ?_⟩
    have a2 := setg 2 2 (by omega)
    have a3 := setg 2 3 (by omega)
    rw [if_pos rfl] at a2
    rw [if_neg (by omega)] at a3
    have a2' : gt (x.set 2 (IntKind.i64.wrap (gt x.l 2 + 1))).l 2 = IntKind.i64.wrap (gt x.l 2 + 1) := a2
    have a3' : gt (x.set 2 (IntKind.i64.wrap (gt x.l 2 + 1))).l 3 = gt x.l 3 := a3
    rw [a2', a3']; rfl
  ·have k2' : (f.fKind == 2) = false := by simp [k2]
   rw [k2']
   by_cases k3 : f.fKind = 3
   ·rw [k3]
    cases ((f.fSize != 8) || f.fWrite) with
    | true => exact .inl ⟨x, rfl, rfl⟩
    | false =>
     refine .inr ⟨x.set 3 (IntKind.i64.wrap (gt x.l 3 + 1)), rfl, ?_⟩
     have a2 := setg 3 2 (by omega)
     have a3 := setg 3 3 (by omega)
     rw [if_neg (by omega)] at a2
     rw [if_pos rfl] at a3
     have a2' : gt (x.set 3 (IntKind.i64.wrap (gt x.l 3 + 1))).l 2 = gt x.l 2 := a2
     have a3' : gt (x.set 3 (IntKind.i64.wrap (gt x.l 3 + 1))).l 3 = IntKind.i64.wrap (gt x.l 3 + 1) := a3
     rw [a2', a3']; rfl
   ·have k3' : (f.fKind == 3) = false := by simp [k3]
    rw [k3']
    by_cases c1 : f.fKind < 1
    ·exact .inl ⟨x, by simp [c1], rfl⟩
    ·have c2 : (3 : Int) < f.fKind := by omega
     exact .inl ⟨x, by simp [c1, c2], rfl⟩
theorem fields_loop {F : Nat} (hF : 10 ≤ F) {t : PType} (hl : t.fFields.length ≤ 1000) : ∀ (n k : Nat) (x : Ar Int 4), k ≤ t.fFields.length → t.fFields.length - k < n →
  (∃ x', fn127_l1 (stepR (fun (s : (Ar Int 4)) (y : Int × Fld) => fn58_r1 F t s y.1 y.2)) goR t.fFields n (x, 0) (k : Int) = some (.inr (x', 1)) ∧ fn75_l1 t n (endF t k) (gt x.l 2) (gt x.l 3) (k : Int) = some (.inr false)) ∨
  ∃ x' : Ar Int 4, fn127_l1 (stepR (fun (s : (Ar Int 4)) (y : Int × Fld) => fn58_r1 F t s y.1 y.2)) goR t.fFields n (x, 0) (k : Int) = some (.inl (x', 0)) ∧ fn75_l1 t n (endF t k) (gt x.l 2) (gt x.l 3) (k : Int) = some (.inl (gt x'.l 2, gt x'.l 3))
 | 0, k, x, h1, h2 => by omega
 | n + 1, k, x, h1, h2 => by
  rw [fn127_l1_s]
  by_cases hk : k < t.fFields.length
  ·rw [show decide ((k : Int) < (t.fFields.length : Int)) = true by simp; omega, cond_true, show inb (k : Int) t.fFields.length = true from inb_iff.2 ⟨by omega, by omega⟩, cond_true, show sliceOk ((0 : Nat) : Int) (k : Int) t.fFields.length = true from sliceOk_iff.2 ⟨by omega, by omega, by omega⟩, cond_true]
   have hst : stepR (fun (s : (Ar Int 4)) (y : Int × Fld) => fn58_r1 F t s y.1 y.2) (x, 0) ((k : Int), gt t.fFields (k : Int)) = fn58_r1 F t x (k : Int) (gt t.fFields (k : Int)) := rfl
   rw [hst]
   rcases fields_step hF hl hk x n with ⟨x', e1, e2⟩ | ⟨x', e1, e2⟩
   ·rw [e1]; exact .inl ⟨x', rfl, e2⟩
   ·rw [e1, e2, Option.bind_some, show IntKind.i64.wrap ((k : Int) + 1) = ((k + 1 : Nat) : Int) from w64 (by omega)]
    exact fields_loop hF hl n (k + 1) x' (by omega) (by omega)
  ·rw [show decide ((k : Int) < (t.fFields.length : Int)) = false by simp; omega, cond_false, fn75_l1_s, show decide ((k : Int) < (t.fFields.length : Int)) = false by simp; omega, cond_false]
   exact .inr ⟨x, rfl, rfl⟩
theorem fields_eq {F : Nat} (hF : 1002 ≤ F) {t : PType} (hl : t.fFields.length ≤ 1000) : ∃ b, fn58 F t = some b ∧ fn75 F t = some b := by
 have := fields_loop (F := F) (by omega) hl F 0 (Ar.rep 4 0) (by omega) (by omega)
 have z : ∀ i : Int, gt (Ar.rep 4 (0 : Int)).l i = 0 := fun i => by
  unfold gt Ar.rep
  rw [List.getD_eq_getElem?_getD, List.getElem?_replicate]
  split <;> rfl
 rw [show ((0 : Nat) : Int) = 0 from rfl, z, z, show endF t 0 = 0 from rfl] at this
 rcases this with ⟨x', e1, e2⟩ | ⟨x', e1, e2⟩
 ·exact ⟨false, by rw [fn58, fn127, e1]; rfl, by rw [fn75, e2]; rfl⟩
 ·refine ⟨(gt x'.l 2 == gt x'.l 3) && decide (gt x'.l 2 ≤ 1), ?_, by rw [fn75, e2]; rfl⟩
  rw [fn58, fn127, e1]
  show fn58_k1_1 x' = _
  rw [fn58_k1_1, show ((2 : Nat) : Int) = 2 from rfl, show ((3 : Nat) : Int) = 3 from rfl]
  cases h : (gt x'.l 2 == gt x'.l 3) with
  | false => rfl
  | true => rw [eq_of_beq h]; rfl
theorem kinds_eq {F : Nat} (hF : 2000 ≤ F) {t : PType} (hf : t.fFields.length ≤ 1000) (hn : t.fNeeds.length ≤ 1000) (hs : t.fName.size ≤ 100000) (hsF : t.fName.size < F) : ∃ e, fn24 F t = some e ∧ fn29 F t = some e := by
 obtain ⟨nm, n1⟩ := name_ok (F := F) hs hsF
 obtain ⟨fb, f1, f2⟩ := fields_eq (F := F) (by omega) hf
 have hnd := needs_l1 hn F 0 (by omega) (by omega)
 rw [show ((0 : Nat) : Int) = 0 from rfl, Nat.sub_zero] at hnd
 rw [fn24, fn29, name_eq, n1, f1, f2, rise_ok hn (by omega), good_ok hn (by omega), hnd, ← needs_same]
 have e57 : fn57 (⟨8, 256⟩ : S_kinds_bound_int_) t.fCtx = fn74 t.fCtx 8 256 := rfl
 rw [e57]
 simp only [Option.bind_some]
 cases (List.range' 0 t.fNeeds.length).all (riseN t.fNeeds) <;> cases (t.fNeeds.any fun n => !goodN n) <;> cases nm <;> cases fn74 t.fCtx 8 256 <;> cases decide ((32 : Int) < (t.fFields.length : Int)) <;> cases decide ((64 : Int) < (t.fNeeds.length : Int)) <;> cases fb <;> simp [fn29_k1] <;> cases decide (t.fHi < t.fLo) <;> simp
end Go.Proofs.YthpjmknpkdoadaaGreat
namespace Go.Proofs.YthpjmknpkdoadaaGreat
open Go Go.HW
set_option linter.unusedVariables false
set_option maxRecDepth 8000
def is2 (F : Nat) (p0 : List Instr) (p1 : PType) : Option Bool :=
 Option.bind (fn20 F p0) fun v1 => (Option.bind (bif bif v1.2 != 0 then false else true then fn24 F p1 else some 0) fun v3 => (Option.bind (bif bif ((v1.2 != 0) || (v3 != 0)) || (decide ((64 : Int) < (p0.length : Int))) then false else true then fn25 F p0 else some false) fun v5 => (bif (((v1.2 != 0) || (v3 != 0)) || (decide ((64 : Int) < (p0.length : Int)))) || v5 then (some false) else (Option.bind (fn27 F (⟨p0, p1, tg p0⟩ : Walk)) fun v10 => (some v10)))))
theorem is2_eq {F : Nat} (hF : 6000 ≤ F) {p : List Instr} {t : PType} (hp : p.length ≤ 5000) (hw : WF p) : fn11 F p t = is2 F p t := by
 rw [fn11, is2, targets_prog hF hp hw]; rfl
theorem aw1 : is2 40000 ([(fn15 0 1), (fn16)] : List Instr) (fn18 0 1) = some true := by kernel_rfl
theorem aw2 : is2 40000 ([(fn15 0 1), (fn16)] : List Instr) (fn18 2 3) = some false := by kernel_rfl
theorem aw3 : is2 40000 ([(⟨97, 0, 10, (-8), 0⟩ : Instr), (fn15 0 1), (fn16)] : List Instr) (fn18 0 1) = some false := by kernel_rfl
theorem aw4 : is2 40000 ([(⟨122, 10, 0, (-8), 5⟩ : Instr), (⟨97, 0, 10, (-8), 0⟩ : Instr), (fn15 0 1), (fn16)] : List Instr) (fn18 0 1) = some true := by kernel_rfl
def okb (x : Instr) : Bool := decide (0 ≤ x.fOp) && decide (x.fOp < 256) && (decide (-32768 ≤ x.fOff) && decide (x.fOff < 32768)) && (decide (-2147483648 ≤ x.fImm) && decide (x.fImm < 2147483648)) && decide (0 ≤ x.fDst) && decide (0 ≤ x.fSrc)
theorem wf2_of {p : List Instr} (h : p.all okb = true) : WF2 p := by
 intro x hx
 have := List.all_eq_true.1 h x hx
 unfold okb at this
 simp only [Bool.and_eq_true, decide_eq_true_eq] at this
 obtain ⟨⟨⟨⟨⟨a, b⟩, c⟩, d⟩, e⟩, f⟩ := this
 exact ⟨⟨⟨a, b⟩, c, d⟩, e, f⟩
theorem awake_ok : fn8 40000 = some true := by
 rw [fn8, is2_eq (by omega) (by simp) (wf2_of (by decide)).wf, aw1, Option.bind_some, cond_true, is2_eq (by omega) (by simp) (wf2_of (by decide)).wf, aw2]
 simp only [Option.bind_some, Bool.not_false, cond_true]
 rw [is2_eq (by omega) (by simp) (wf2_of (by decide)).wf, aw3]
 simp only [Option.bind_some, Bool.not_false, cond_true]
 rw [is2_eq (by omega) (by simp) (wf2_of (by decide)).wf, aw4]
 rfl
end Go.Proofs.YthpjmknpkdoadaaGreat
namespace Go.Proofs.YthpjmknpkdoadaaGreat
open Go Go.HW
set_option maxRecDepth 8000
set_option linter.unusedVariables false
def markLI (k n : Nat) : List Instr := (List.range' k n).map fun i : Nat => fn21 1 (i : Int)
theorem lent_loopI : ∀ (n : Nat) (acc : List Instr) (k : Nat), k ≤ 12 → 12 - k < n → acc.length ≤ 1000000 + k → fn9_l1 n acc (k : Int) = some (acc ++ markLI k (12 - k))
 | 0, acc, k, _, h, _ => by omega
 | n + 1, acc, k, hk, hn, ha => by
  rw [fn9_l1_s]
  rcases Nat.lt_or_ge k 12 with h | h
  ·have g1 : decide ((k : Int) < 12) = true := by simp; omega
   have g4 : IntKind.i64.wrap ((k : Int) + 1) = ((k + 1 : Nat) : Int) := w64 (by omega)
   have g3 : decide ((acc.length + ([fn21 1 (k : Int)] : List Instr).length) * 12 ≤ 140737488355328 ∧ acc.length + ([fn21 1 (k : Int)] : List Instr).length ≤ 9223372036854775807) = true := by simp; omega
   simp only [g1, cond_true, g3, g4]
   rw [lent_loopI n _ (k + 1) (by omega) (by omega) (by simp; omega)]
   have : markLI k (12 - k) = fn21 1 (k : Int) :: markLI (k + 1) (12 - (k + 1)) := by
    rw [show 12 - k = (12 - (k + 1)) + 1 from by omega, markLI, List.range'_succ]; rfl
   rw [this]; simp
  ·have g1 : decide ((k : Int) < 12) = false := by simp; omega
   have : k = 12 := by omega
   subst this
   simp only [g1, cond_false]; simp [markLI]
def lentLI (p : List Instr) : List Instr := p ++ markLI 0 12
theorem lentLI_length (p : List Instr) : (lentLI p).length = p.length + 12 := by simp [lentLI, markLI]
theorem lent_eqI {F : Nat} {p : List Instr} (hF : 20 ≤ F) (hp : p.length ≤ 5000) : fn9 F p = some (lentLI p, p.length) := by
 have w1 : IntKind.i64.wrap ((p.length : Int) + 12) = (p.length : Int) + 12 := w64 (by omega)
 have g1 : (decide ((0 : Int) ≤ 0) && decide (0 ≤ (p.length : Int) + 12) && decide ((12 : Int) * ((p.length : Int) + 12) ≤ 281474976710656) && decide ((p.length : Int) + 12 ≤ 9223372036854775807)) = true := by simp; omega
 have e0 : List.replicate (0 : Int).toNat (⟨0, 0, 0, 0, 0⟩ : Instr) = [] := rfl
 have g2 : decide ((([] : List Instr).length + p.length) * 12 ≤ 140737488355328 ∧ ([] : List Instr).length + p.length ≤ 9223372036854775807) = true := by simp; omega
 have hl := lent_loopI F p 0 (by omega) (by omega) (by omega)
 rw [show ((0 : Nat) : Int) = 0 from rfl] at hl
 rw [fn9, w1, g1, cond_true, e0, g2, cond_true, List.nil_append, hl, Option.bind_some, fn9_k1]
 have g3 : sliceOk ((0 : Nat) : Int) (p.length : Int) (p ++ markLI 0 (12 - 0)).length = true := sliceOk_iff.2 ⟨by omega, by omega, by simp; omega⟩
 rw [g3, cond_true]; rfl
theorem lent_cutI (p : List Instr) : cutX (lentLI p) 0 (0 + p.length) = p := by simp [cutX, lentLI]
theorem kept_loopI {p : List Instr} (hp : p.length ≤ 5000) : ∀ (n k : Nat), k ≤ p.length + 12 → p.length + 12 - k < n → fn13_l1 (lentLI p) p n (k : Int) = some (.inl ())
 | 0, k, _, h => by omega
 | n + 1, k, hk, hn => by
  have w1 : IntKind.i64.wrap ((p.length : Int) + 12) = ((p.length + 12 : Nat) : Int) := w64 (by omega)
  have hc : cutX (lentLI p) ((0 : Nat) : Int).toNat (((0 : Nat) : Int).toNat + (((p.length + 12 : Nat) : Int)).toNat - ((0 : Nat) : Int).toNat) = lentLI p := by
   rw [show ((0 : Nat) : Int).toNat = 0 from rfl, show 0 + (((p.length + 12 : Nat) : Int)).toNat - 0 = p.length + 12 from by omega, cutX, List.drop_zero, List.take_of_length_le (by rw [lentLI_length]; omega)]
  have ht : (((p.length + 12 : Nat) : Int)).toNat - ((0 : Nat) : Int).toNat = p.length + 12 := by simp; omega
  have hl := lentLI_length p
  rw [fn13_l1_s, w1, hc, ht]
  rcases Nat.lt_or_ge k (p.length + 12) with h | h
  ·have g1 : decide ((k : Int) < ((lentLI p).length : Int)) = true := by simp; omega
   have g2 : inb (k : Int) (p.length + 12) = true := inb_iff.2 ⟨by omega, by omega⟩
   have g4 : IntKind.i64.wrap ((k : Int) + 1) = ((k + 1 : Nat) : Int) := w64 (by omega)
   have g5 : IntKind.i64.wrap ((k : Int) - (p.length : Int)) = (k : Int) - (p.length : Int) := w64 (by omega)
   have ih := kept_loopI hp n (k + 1) (by omega) (by omega)
   rcases Nat.lt_or_ge k p.length with h2 | h2
   ·have g6 : decide ((k : Int) < (p.length : Int)) = true := by simp; omega
    have g7 : inb (k : Int) p.length = true := inb_iff.2 ⟨by omega, by omega⟩
    have g8 : decide ((p.length : Int) ≤ (k : Int)) = false := by simp; omega
    have hg : gt (lentLI p) (k : Int) = gt p (k : Int) := by simp [gt, lentLI, List.getD_eq_getElem?_getD, List.getElem?_append_left h2]
    simp only [g1, g2, g4, g5, g6, g7, g8, hg, cond_true, beq_self_eq_true, Bool.and_true, Bool.not_true, Bool.false_and, Bool.false_or, cond_false]
    exact ih
   ·have g6 : decide ((k : Int) < (p.length : Int)) = false := by simp; omega
    have g8 : decide ((p.length : Int) ≤ (k : Int)) = true := by simp; omega
    have hg : gt (lentLI p) (k : Int) = fn21 1 ((k : Int) - (p.length : Int)) := by
     have h3 : k - p.length < 12 := by omega
     simp only [gt, lentLI, List.getD_eq_getElem?_getD, Int.toNat_natCast, List.getElem?_append_right h2, markLI, List.getElem?_map]
     rw [List.getElem?_range' h3]
     simp
     congr 1; omega
    simp only [g1, g2, g4, g5, g6, g8, hg, cond_true, beq_self_eq_true, Bool.and_true, Bool.not_true, Bool.and_false, cond_false, Bool.false_and, Bool.or_false]
    exact ih
  ·have g1 : decide ((k : Int) < ((lentLI p).length : Int)) = false := by simp; omega
   rw [g1]; rfl
theorem kept_eqI {F : Nat} {p : List Instr} (hF : 6000 ≤ F) (hp : p.length ≤ 5000) : fn13 F (lentLI p) p.length p = some true := by
 have w1 : IntKind.i64.wrap ((p.length : Int) + 12) = ((p.length + 12 : Nat) : Int) := w64 (by omega)
 have g1 : (((cutX (lentLI p) 0 (0 + p.length)).length : Int) != (p.length : Int)) = false := by rw [lent_cutI]; simp
 have g2 : sliceOk ((0 : Nat) : Int) ((p.length + 12 : Nat) : Int) (lentLI p).length = true := sliceOk_iff.2 ⟨by omega, by omega, by rw [lentLI_length]; omega⟩
 have hl := kept_loopI hp F 0 (by omega) (by omega)
 rw [show ((0 : Nat) : Int) = 0 from rfl] at hl
 rw [fn13, g1, cond_false, w1, g2, cond_true, hl]; rfl
def markLF (k n : Nat) : List Fld := (List.range' k n).map fun i : Nat => fn47 1 (i : Int)
theorem lent_loopF : ∀ (n : Nat) (acc : List Fld) (k : Nat), k ≤ 12 → 12 - k < n → acc.length ≤ 1000000 + k → fn22_l1 n acc (k : Int) = some (acc ++ markLF k (12 - k))
 | 0, acc, k, _, h, _ => by omega
 | n + 1, acc, k, hk, hn, ha => by
  rw [fn22_l1_s]
  rcases Nat.lt_or_ge k 12 with h | h
  ·have g1 : decide ((k : Int) < 12) = true := by simp; omega
   have g4 : IntKind.i64.wrap ((k : Int) + 1) = ((k + 1 : Nat) : Int) := w64 (by omega)
   have g3 : decide ((acc.length + ([fn47 1 (k : Int)] : List Fld).length) * 24 ≤ 140737488355328 ∧ acc.length + ([fn47 1 (k : Int)] : List Fld).length ≤ 9223372036854775807) = true := by simp; omega
   simp only [g1, cond_true, g3, g4]
   rw [lent_loopF n _ (k + 1) (by omega) (by omega) (by simp; omega)]
   have : markLF k (12 - k) = fn47 1 (k : Int) :: markLF (k + 1) (12 - (k + 1)) := by
    rw [show 12 - k = (12 - (k + 1)) + 1 from by omega, markLF, List.range'_succ]; rfl
   rw [this]; simp
  ·have g1 : decide ((k : Int) < 12) = false := by simp; omega
   have : k = 12 := by omega
   subst this
   simp only [g1, cond_false]; simp [markLF]
def lentLF (p : List Fld) : List Fld := p ++ markLF 0 12
theorem lentLF_length (p : List Fld) : (lentLF p).length = p.length + 12 := by simp [lentLF, markLF]
theorem lent_eqF {F : Nat} {p : List Fld} (hF : 20 ≤ F) (hp : p.length ≤ 5000) : fn22 F p = some (lentLF p, p.length) := by
 have w1 : IntKind.i64.wrap ((p.length : Int) + 12) = (p.length : Int) + 12 := w64 (by omega)
 have g1 : (decide ((0 : Int) ≤ 0) && decide (0 ≤ (p.length : Int) + 12) && decide ((24 : Int) * ((p.length : Int) + 12) ≤ 281474976710656) && decide ((p.length : Int) + 12 ≤ 9223372036854775807)) = true := by simp; omega
 have e0 : List.replicate (0 : Int).toNat (⟨0, 0, 0, false⟩ : Fld) = [] := rfl
 have g2 : decide ((([] : List Fld).length + p.length) * 24 ≤ 140737488355328 ∧ ([] : List Fld).length + p.length ≤ 9223372036854775807) = true := by simp; omega
 have hl := lent_loopF F p 0 (by omega) (by omega) (by omega)
 rw [show ((0 : Nat) : Int) = 0 from rfl] at hl
 rw [fn22, w1, g1, cond_true, e0, g2, cond_true, List.nil_append, hl, Option.bind_some, fn22_k1]
 have g3 : sliceOk ((0 : Nat) : Int) (p.length : Int) (p ++ markLF 0 (12 - 0)).length = true := sliceOk_iff.2 ⟨by omega, by omega, by simp; omega⟩
 rw [g3, cond_true]; rfl
theorem lent_cutF (p : List Fld) : cutX (lentLF p) 0 (0 + p.length) = p := by simp [cutX, lentLF]
theorem kept_loopF {p : List Fld} (hp : p.length ≤ 5000) : ∀ (n k : Nat), k ≤ p.length + 12 → p.length + 12 - k < n → fn35_l1 (lentLF p) p n (k : Int) = some (.inl ())
 | 0, k, _, h => by omega
 | n + 1, k, hk, hn => by
  have w1 : IntKind.i64.wrap ((p.length : Int) + 12) = ((p.length + 12 : Nat) : Int) := w64 (by omega)
  have hc : cutX (lentLF p) ((0 : Nat) : Int).toNat (((0 : Nat) : Int).toNat + (((p.length + 12 : Nat) : Int)).toNat - ((0 : Nat) : Int).toNat) = lentLF p := by
   rw [show ((0 : Nat) : Int).toNat = 0 from rfl, show 0 + (((p.length + 12 : Nat) : Int)).toNat - 0 = p.length + 12 from by omega, cutX, List.drop_zero, List.take_of_length_le (by rw [lentLF_length]; omega)]
  have ht : (((p.length + 12 : Nat) : Int)).toNat - ((0 : Nat) : Int).toNat = p.length + 12 := by simp; omega
  have hl := lentLF_length p
  rw [fn35_l1_s, w1, hc, ht]
  rcases Nat.lt_or_ge k (p.length + 12) with h | h
  ·have g1 : decide ((k : Int) < ((lentLF p).length : Int)) = true := by simp; omega
   have g2 : inb (k : Int) (p.length + 12) = true := inb_iff.2 ⟨by omega, by omega⟩
   have g4 : IntKind.i64.wrap ((k : Int) + 1) = ((k + 1 : Nat) : Int) := w64 (by omega)
   have g5 : IntKind.i64.wrap ((k : Int) - (p.length : Int)) = (k : Int) - (p.length : Int) := w64 (by omega)
   have ih := kept_loopF hp n (k + 1) (by omega) (by omega)
   rcases Nat.lt_or_ge k p.length with h2 | h2
   ·have g6 : decide ((k : Int) < (p.length : Int)) = true := by simp; omega
    have g7 : inb (k : Int) p.length = true := inb_iff.2 ⟨by omega, by omega⟩
    have g8 : decide ((p.length : Int) ≤ (k : Int)) = false := by simp; omega
    have hg : gt (lentLF p) (k : Int) = gt p (k : Int) := by simp [gt, lentLF, List.getD_eq_getElem?_getD, List.getElem?_append_left h2]
    simp only [g1, g2, g4, g5, g6, g7, g8, hg, cond_true, beq_self_eq_true, Bool.and_true, Bool.not_true, Bool.false_and, Bool.false_or, cond_false]
    exact ih
   ·have g6 : decide ((k : Int) < (p.length : Int)) = false := by simp; omega
    have g8 : decide ((p.length : Int) ≤ (k : Int)) = true := by simp; omega
    have hg : gt (lentLF p) (k : Int) = fn47 1 ((k : Int) - (p.length : Int)) := by
     have h3 : k - p.length < 12 := by omega
     simp only [gt, lentLF, List.getD_eq_getElem?_getD, Int.toNat_natCast, List.getElem?_append_right h2, markLF, List.getElem?_map]
     rw [List.getElem?_range' h3]
     simp
     congr 1; omega
    simp only [g1, g2, g4, g5, g6, g8, hg, cond_true, beq_self_eq_true, Bool.and_true, Bool.not_true, Bool.and_false, cond_false, Bool.false_and, Bool.or_false]
    exact ih
  ·have g1 : decide ((k : Int) < ((lentLF p).length : Int)) = false := by simp; omega
   rw [g1]; rfl
theorem kept_eqF {F : Nat} {p : List Fld} (hF : 6000 ≤ F) (hp : p.length ≤ 5000) : fn35 F (lentLF p) p.length p = some true := by
 have w1 : IntKind.i64.wrap ((p.length : Int) + 12) = ((p.length + 12 : Nat) : Int) := w64 (by omega)
 have g1 : (((cutX (lentLF p) 0 (0 + p.length)).length : Int) != (p.length : Int)) = false := by rw [lent_cutF]; simp
 have g2 : sliceOk ((0 : Nat) : Int) ((p.length + 12 : Nat) : Int) (lentLF p).length = true := sliceOk_iff.2 ⟨by omega, by omega, by rw [lentLF_length]; omega⟩
 have hl := kept_loopF hp F 0 (by omega) (by omega)
 rw [show ((0 : Nat) : Int) = 0 from rfl] at hl
 rw [fn35, g1, cond_false, w1, g2, cond_true, hl]; rfl
theorem same_loopF {p : List Fld} (hp : p.length ≤ 5000) : ∀ (n k : Nat), k ≤ p.length → p.length - k < n → fn86_l1 p p n (k : Int) = some (.inl ())
 | 0, k, _, h => by omega
 | n + 1, k, hk, hn => by
  rw [fn86_l1_s]
  rcases Nat.lt_or_ge k p.length with h | h
  ·have g1 : decide ((k : Int) < (p.length : Int)) = true := by simp; omega
   have g2 : inb (k : Int) p.length = true := inb_iff.2 ⟨by omega, by omega⟩
   have g4 : IntKind.i64.wrap ((k : Int) + 1) = ((k + 1 : Nat) : Int) := w64 (by omega)
   simp only [g1, g2, g4, cond_true, beq_self_eq_true, Bool.and_true, Bool.not_true, cond_false]
   exact same_loopF hp n (k + 1) (by omega) (by omega)
  ·have g1 : decide ((k : Int) < (p.length : Int)) = false := by simp; omega
   rw [g1]; rfl
theorem same_eqF {F : Nat} {p : List Fld} (hF : 6000 ≤ F) (hp : p.length ≤ 5000) : fn86 F p p = some true := by
 have hl := same_loopF hp F 0 (by omega) (by omega)
 rw [show ((0 : Nat) : Int) = 0 from rfl] at hl
 rw [fn86, show ((p.length : Int) != (p.length : Int)) = false by simp, cond_false, hl]; rfl
def markLN (k n : Nat) : List Need := (List.range' k n).map fun i : Nat => fn48 1 (i : Int)
theorem lent_loopN : ∀ (n : Nat) (acc : List Need) (k : Nat), k ≤ 12 → 12 - k < n → acc.length ≤ 1000000 + k → fn23_l1 n acc (k : Int) = some (acc ++ markLN k (12 - k))
 | 0, acc, k, _, h, _ => by omega
 | n + 1, acc, k, hk, hn, ha => by
  rw [fn23_l1_s]
  rcases Nat.lt_or_ge k 12 with h | h
  ·have g1 : decide ((k : Int) < 12) = true := by simp; omega
   have g4 : IntKind.i64.wrap ((k : Int) + 1) = ((k + 1 : Nat) : Int) := w64 (by omega)
   have g3 : decide ((acc.length + ([fn48 1 (k : Int)] : List Need).length) * 24 ≤ 140737488355328 ∧ acc.length + ([fn48 1 (k : Int)] : List Need).length ≤ 9223372036854775807) = true := by simp; omega
   simp only [g1, cond_true, g3, g4]
   rw [lent_loopN n _ (k + 1) (by omega) (by omega) (by simp; omega)]
   have : markLN k (12 - k) = fn48 1 (k : Int) :: markLN (k + 1) (12 - (k + 1)) := by
    rw [show 12 - k = (12 - (k + 1)) + 1 from by omega, markLN, List.range'_succ]; rfl
   rw [this]; simp
  ·have g1 : decide ((k : Int) < 12) = false := by simp; omega
   have : k = 12 := by omega
   subst this
   simp only [g1, cond_false]; simp [markLN]
def lentLN (p : List Need) : List Need := p ++ markLN 0 12
theorem lentLN_length (p : List Need) : (lentLN p).length = p.length + 12 := by simp [lentLN, markLN]
theorem lent_eqN {F : Nat} {p : List Need} (hF : 20 ≤ F) (hp : p.length ≤ 5000) : fn23 F p = some (lentLN p, p.length) := by
 have w1 : IntKind.i64.wrap ((p.length : Int) + 12) = (p.length : Int) + 12 := w64 (by omega)
 have g1 : (decide ((0 : Int) ≤ 0) && decide (0 ≤ (p.length : Int) + 12) && decide ((24 : Int) * ((p.length : Int) + 12) ≤ 281474976710656) && decide ((p.length : Int) + 12 ≤ 9223372036854775807)) = true := by simp; omega
 have e0 : List.replicate (0 : Int).toNat (⟨0, 0, 0⟩ : Need) = [] := rfl
 have g2 : decide ((([] : List Need).length + p.length) * 24 ≤ 140737488355328 ∧ ([] : List Need).length + p.length ≤ 9223372036854775807) = true := by simp; omega
 have hl := lent_loopN F p 0 (by omega) (by omega) (by omega)
 rw [show ((0 : Nat) : Int) = 0 from rfl] at hl
 rw [fn23, w1, g1, cond_true, e0, g2, cond_true, List.nil_append, hl, Option.bind_some, fn23_k1]
 have g3 : sliceOk ((0 : Nat) : Int) (p.length : Int) (p ++ markLN 0 (12 - 0)).length = true := sliceOk_iff.2 ⟨by omega, by omega, by simp; omega⟩
 rw [g3, cond_true]; rfl
theorem lent_cutN (p : List Need) : cutX (lentLN p) 0 (0 + p.length) = p := by simp [cutX, lentLN]
theorem kept_loopN {p : List Need} (hp : p.length ≤ 5000) : ∀ (n k : Nat), k ≤ p.length + 12 → p.length + 12 - k < n → fn36_l1 (lentLN p) p n (k : Int) = some (.inl ())
 | 0, k, _, h => by omega
 | n + 1, k, hk, hn => by
  have w1 : IntKind.i64.wrap ((p.length : Int) + 12) = ((p.length + 12 : Nat) : Int) := w64 (by omega)
  have hc : cutX (lentLN p) ((0 : Nat) : Int).toNat (((0 : Nat) : Int).toNat + (((p.length + 12 : Nat) : Int)).toNat - ((0 : Nat) : Int).toNat) = lentLN p := by
   rw [show ((0 : Nat) : Int).toNat = 0 from rfl, show 0 + (((p.length + 12 : Nat) : Int)).toNat - 0 = p.length + 12 from by omega, cutX, List.drop_zero, List.take_of_length_le (by rw [lentLN_length]; omega)]
  have ht : (((p.length + 12 : Nat) : Int)).toNat - ((0 : Nat) : Int).toNat = p.length + 12 := by simp; omega
  have hl := lentLN_length p
  rw [fn36_l1_s, w1, hc, ht]
  rcases Nat.lt_or_ge k (p.length + 12) with h | h
  ·have g1 : decide ((k : Int) < ((lentLN p).length : Int)) = true := by simp; omega
   have g2 : inb (k : Int) (p.length + 12) = true := inb_iff.2 ⟨by omega, by omega⟩
   have g4 : IntKind.i64.wrap ((k : Int) + 1) = ((k + 1 : Nat) : Int) := w64 (by omega)
   have g5 : IntKind.i64.wrap ((k : Int) - (p.length : Int)) = (k : Int) - (p.length : Int) := w64 (by omega)
   have ih := kept_loopN hp n (k + 1) (by omega) (by omega)
   rcases Nat.lt_or_ge k p.length with h2 | h2
   ·have g6 : decide ((k : Int) < (p.length : Int)) = true := by simp; omega
    have g7 : inb (k : Int) p.length = true := inb_iff.2 ⟨by omega, by omega⟩
    have g8 : decide ((p.length : Int) ≤ (k : Int)) = false := by simp; omega
    have hg : gt (lentLN p) (k : Int) = gt p (k : Int) := by simp [gt, lentLN, List.getD_eq_getElem?_getD, List.getElem?_append_left h2]
    simp only [g1, g2, g4, g5, g6, g7, g8, hg, cond_true, beq_self_eq_true, Bool.and_true, Bool.not_true, Bool.false_and, Bool.false_or, cond_false]
    exact ih
   ·have g6 : decide ((k : Int) < (p.length : Int)) = false := by simp; omega
    have g8 : decide ((p.length : Int) ≤ (k : Int)) = true := by simp; omega
    have hg : gt (lentLN p) (k : Int) = fn48 1 ((k : Int) - (p.length : Int)) := by
     have h3 : k - p.length < 12 := by omega
     simp only [gt, lentLN, List.getD_eq_getElem?_getD, Int.toNat_natCast, List.getElem?_append_right h2, markLN, List.getElem?_map]
     rw [List.getElem?_range' h3]
     simp
     congr 1; omega
    simp only [g1, g2, g4, g5, g6, g8, hg, cond_true, beq_self_eq_true, Bool.and_true, Bool.not_true, Bool.and_false, cond_false, Bool.false_and, Bool.or_false]
    exact ih
  ·have g1 : decide ((k : Int) < ((lentLN p).length : Int)) = false := by simp; omega
   rw [g1]; rfl
theorem kept_eqN {F : Nat} {p : List Need} (hF : 6000 ≤ F) (hp : p.length ≤ 5000) : fn36 F (lentLN p) p.length p = some true := by
 have w1 : IntKind.i64.wrap ((p.length : Int) + 12) = ((p.length + 12 : Nat) : Int) := w64 (by omega)
 have g1 : (((cutX (lentLN p) 0 (0 + p.length)).length : Int) != (p.length : Int)) = false := by rw [lent_cutN]; simp
 have g2 : sliceOk ((0 : Nat) : Int) ((p.length + 12 : Nat) : Int) (lentLN p).length = true := sliceOk_iff.2 ⟨by omega, by omega, by rw [lentLN_length]; omega⟩
 have hl := kept_loopN hp F 0 (by omega) (by omega)
 rw [show ((0 : Nat) : Int) = 0 from rfl] at hl
 rw [fn36, g1, cond_false, w1, g2, cond_true, hl]; rfl
theorem same_loopN {p : List Need} (hp : p.length ≤ 5000) : ∀ (n k : Nat), k ≤ p.length → p.length - k < n → fn87_l1 p p n (k : Int) = some (.inl ())
 | 0, k, _, h => by omega
 | n + 1, k, hk, hn => by
  rw [fn87_l1_s]
  rcases Nat.lt_or_ge k p.length with h | h
  ·have g1 : decide ((k : Int) < (p.length : Int)) = true := by simp; omega
   have g2 : inb (k : Int) p.length = true := inb_iff.2 ⟨by omega, by omega⟩
   have g4 : IntKind.i64.wrap ((k : Int) + 1) = ((k + 1 : Nat) : Int) := w64 (by omega)
   simp only [g1, g2, g4, cond_true, beq_self_eq_true, Bool.and_true, Bool.not_true, cond_false]
   exact same_loopN hp n (k + 1) (by omega) (by omega)
  ·have g1 : decide ((k : Int) < (p.length : Int)) = false := by simp; omega
   rw [g1]; rfl
theorem same_eqN {F : Nat} {p : List Need} (hF : 6000 ≤ F) (hp : p.length ≤ 5000) : fn87 F p p = some true := by
 have hl := same_loopN hp F 0 (by omega) (by omega)
 rw [show ((0 : Nat) : Int) = 0 from rfl] at hl
 rw [fn87, show ((p.length : Int) != (p.length : Int)) = false by simp, cond_false, hl]; rfl
end Go.Proofs.YthpjmknpkdoadaaGreat
namespace Go.Proofs.YthpjmknpkdoadaaGreat
open Go Go.HW
set_option linter.unusedVariables false
set_option maxRecDepth 8000
theorem types_eq {F : Nat} (hF : 10 ≤ F) {t : PType} (hs : t.fName.size ≤ 140737488355328) (hf : t.fFields.length ≤ 140737488355328) (hn : t.fNeeds.length ≤ 140737488355328) : fn7 F t 200 = some (1 + ((t.fName.size / 8 : Nat) : Int) + (t.fFields.length : Int) + (t.fNeeds.length : Int)) := by
 obtain ⟨m, rfl⟩ : ∃ m, F = m + 2 := ⟨F - 2, by omega⟩
 have td : IntKind.i64.wrap ((t.fName.size : Int).tdiv 8) = ((t.fName.size / 8 : Nat) : Int) := by
  rw [Int.tdiv_eq_ediv_of_nonneg (by omega), w64 (by omega)]; omega
 have h8 : t.fName.size / 8 ≤ 140737488355328 := by omega
 rw [fn7, fn7_l1_s, td]
 generalize t.fName.size / 8 = s8 at h8 ⊢
 rw [show (decide ((0 : Int) < 1) && decide ((1 : Int) ≤ 200)) = true from rfl, cond_true, show inb 0 1 = true from rfl, cond_true, w64 (n := 1 + (s8 : Int)) (by omega), w64 (n := 1 + (s8 : Int) + (t.fFields.length : Int)) (by omega), w64 (n := 1 + (s8 : Int) + (t.fFields.length : Int) + (t.fNeeds.length : Int)) (by omega)]
 rfl
theorem sameT_eq {F : Nat} (hF : 6000 ≤ F) {t : PType} (hf : t.fFields.length ≤ 5000) (hn : t.fNeeds.length ≤ 5000) : fn34 F t t = some true := by
 rw [fn34, beq_self_eq_true, beq_self_eq_true]
 simp only [Bool.and_self, cond_true, same_eqF hF hf, same_eqN hF hn, Option.bind_some, beq_self_eq_true]
theorem lentT_eq {F : Nat} (hF : 20 ≤ F) {t : PType} (hf : t.fFields.length ≤ 5000) (hn : t.fNeeds.length ≤ 5000) : fn10 F t = some (t.fName, t.fCtx, lentLF t.fFields, t.fFields.length, lentLN t.fNeeds, t.fNeeds.length, t.fLo, t.fHi) := by
 rw [fn10, lent_eqF hF hf, Option.bind_some, lent_eqN hF hn]; rfl
theorem keptT_eq {F : Nat} (hF : 6000 ≤ F) {t : PType} (hf : t.fFields.length ≤ 5000) (hn : t.fNeeds.length ≤ 5000) : fn14 F t.fName t.fCtx (lentLF t.fFields) t.fFields.length (lentLN t.fNeeds) t.fNeeds.length t.fLo t.fHi t = some true := by
 rw [fn14, lent_cutF, lent_cutN, sameT_eq hF hf hn, Option.bind_some]
 simp only [Bool.and_self, cond_true, kept_eqF hF hf, kept_eqN hF hn, Option.bind_some]
theorem plainTells {p : List Instr} {t : PType} (hw : WF2 p) (hs : t.fName.size ≤ 140737488355328) (hf : t.fFields.length ≤ 140737488355328) (hn : t.fNeeds.length ≤ 140737488355328) : fn3 40000 p t = some true := by
 have hF : 40000 ≤ 40000 := Nat.le_refl _
 rw [fn3, awake_ok]
 by_cases h1 : (80 : Int) < (p.length : Int)
 ·rw [decide_eq_true h1]; rfl
 rw [decide_eq_false h1, cond_false, types_eq (by omega) hs hf hn, Option.bind_some]
 by_cases h2 : (200 : Int) < 1 + ((t.fName.size / 8 : Nat) : Int) + (t.fFields.length : Int) + (t.fNeeds.length : Int)
 ·rw [decide_eq_true h2]; rfl
 have hp : p.length ≤ 80 := by omega
 have hf' : t.fFields.length ≤ 200 := by omega
 have hn' : t.fNeeds.length ≤ 200 := by omega
 have hs' : t.fName.size ≤ 3000 := by omega
 obtain ⟨e, k1, k2⟩ := kinds_eq (F := 40000) (t := t) (by omega) (by omega) (by omega) (by omega) (by omega)
 obtain ⟨b, b1, b2⟩ := is_eq hF (p := p) (t := t) (by omega) hw (by omega) ⟨e, e, k1, k2, rfl⟩
 rw [decide_eq_false h2, cond_false, lent_eqI (by omega) (by omega), Option.bind_some, lentT_eq (by omega) (by omega) (by omega), Option.bind_some]
 show Option.bind (fn11 40000 (cutX (lentLI p) 0 (0 + p.length)) ⟨t.fName, t.fCtx, cutX (lentLF t.fFields) 0 (0 + t.fFields.length), cutX (lentLN t.fNeeds) 0 (0 + t.fNeeds.length), t.fLo, t.fHi⟩) _ = _
 rw [lent_cutI, lent_cutF, lent_cutN, b1, Option.bind_some, b2, Option.bind_some, beq_self_eq_true]
 simp only [Bool.true_and, cond_true, kept_eqI (F := 40000) (p := p) (by omega) (by omega), keptT_eq (F := 40000) (t := t) (by omega) (by omega) (by omega), Option.bind_some]
end Go.Proofs.YthpjmknpkdoadaaGreat
namespace Go.HW
open Go Go.RowKit Go.ChangeShapes
set_option linter.unusedVariables false
variable {H : Type} {enc : TypeId × Value → H} {P : Program}
theorem post_below {f : Func} {s : ChangeSpec} {apart fresh handsOn : Bool} {W W' : World} {args : Array Value} {v : Value} {ds gs : List (DataW H)} {before pa pv : List MemPlace}
  (hW : DataW.Whole enc P f.params.toList s.vars apart W args.toList ds gs before)
  (hres : ∀ (b : Nat) (sp : Nat → Bool) (hd : Bool), DataW.TrodAll enc P W' b sp hd f.resultTypes.toList (v.resultList f.resultTypes.size) (s.fn H (ds ++ gs)).results [])
  (hargs : ∀ sp : Nat → Bool, (∀ p ∈ before, sp p.block = true) → DataW.TrodAll enc P W' 0 sp true f.params.toList args.toList (s.fn H (ds ++ gs)).args pa)
  (hvars : ∀ sp : Nat → Bool, (∀ p ∈ before, sp p.block = true) → DataW.TrodVars enc P W' sp s.vars (s.fn H (ds ++ gs)).vars pv)
  (hps : before = pa ++ pv) (hk : Below W.heap.size W W') : s.post enc P f apart fresh handsOn false W args v W' := by
 have hold : ∀ p ∈ before, (fun b => decide (b < W.heap.size)) p.block = true := fun p hp => by simpa using hW.lt p hp
 refine ⟨ds, gs, before, [], pa, pv, hW, hres _ _ _, hargs _ hold, hvars _ hold, World.keptBut_mono (fun p hp => ⟨hp, ?_⟩) (hk.frame (· ∈ before)), fun h => by cases h⟩
 rw [hps, List.mem_append] at hp
 exact Or.inr hp
end Go.HW
namespace Go.HW
open Go Go.RowKit Go.ChangeShapes
set_option linter.unusedVariables false
section
variable {H : Type} {enc : TypeId × Value → H} {P : Program} {W W' : World}
theorem TrodAll.stays (hl : laidOutB P = true) {sp : Nat → Bool} (hb : Below W.heap.size W W') : ∀ {ts : List TypeId} {vs : List Value} {ds : List (DataW H)} {ps : List MemPlace}, (ts.all fun t => P.readableRec t && decide (t < P.types.size)) = true →
  DataW.TrodAll enc P W 0 (fun _ => true) true ts vs ds ps → (∀ x ∈ ps, x.block < W.heap.size) → (∀ x ∈ ps, sp x.block = true) → DataW.TrodAll enc P W' 0 sp true ts vs ds ps
 | [], [], [], ps, _, h, _, _ => h
 | t :: ts, v :: vs, d :: ds, ps, hr, h, hlt, hs => by
  obtain ⟨p, q, h1, h2, rfl⟩ := h
  simp only [List.all_cons, Bool.and_eq_true, decide_eq_true_eq] at hr
  obtain ⟨⟨r1, r2⟩, r3⟩ := hr
  exact ⟨p, q, WideElems.Trod_stays hl r1 r2 h1 (fun x hx => hb.same (hlt x (by simp [hx]))) (fun x hx => hs x (by simp [hx])), TrodAll.stays hl hb (by simpa using r3) h2 (fun x hx => hlt x (by simp [hx])) (fun x hx => hs x (by simp [hx])), rfl⟩
 | [], [], _ :: _, _, _, h, _, _ => by simp [DataW.TrodAll] at h
 | [], _ :: _, _, _, _, h, _, _ => by simp [DataW.TrodAll] at h
 | _ :: _, [], _, _, _, h, _, _ => by simp [DataW.TrodAll] at h
 | _ :: _, _ :: _, [], _, _, h, _, _ => by simp [DataW.TrodAll] at h
theorem list_of {α : Type} {Q : Nat → α → Prop} : ∀ (n : Nat), (∀ i, i < n → ∃ x, Q i x) → ∃ xs : List α, xs.length = n ∧ ∀ i x, xs[i]? = some x → Q i x
 | 0, _ => ⟨[], rfl, fun i x h => by simp at h⟩
 | n + 1, h => by
  obtain ⟨xs, h1, h2⟩ := list_of n (fun i hi => h i (by omega))
  obtain ⟨y, hy⟩ := h n (by omega)
  refine ⟨xs ++ [y], by simp [h1], fun i x hx => ?_⟩
  rcases Nat.lt_or_ge i xs.length with hi | hi
  ·rw [List.getElem?_append_left hi] at hx; exact h2 i x hx
  ·rw [List.getElem?_append_right hi] at hx
   have h0 : i - xs.length = 0 := by
    cases hh : i - xs.length with
    | zero => rfl
    | succ j => rw [hh] at hx; simp at hx
   rw [h0] at hx; simp at hx; subst hx
   have : i = n := by omega
   subst this; exact hy
end
end Go.HW
namespace Go.HW
open Go Go.RowKit Go.ChangeShapes
set_option linter.unusedVariables false
section
variable {H : Type} {enc : TypeId × Value → H} {P : Program} {W W' : World} {sp : Nat → Bool} {held : Bool}
theorem open_rowC {α : Type} {N : En α} {Ok : α → Prop} {t e : TypeId} (ht : P.underlying t = some (.slice e)) (hc : P.cellsOf e = N.sz)
  (hdec : ∀ (n : Nat) (cs : List Value) (y : DataW H × List MemPlace), DataW.trod enc P W 0 sp held n e cs = some y → ∃ x, cs = N.enc x ∧ Ok x)
  {n : Nat} {cs : List Value} {y : DataW H × List MemPlace} (h : DataW.trod enc P W 0 sp held n t cs = some y) :
  ∃ (a : Option Addr) (len cap : Nat) (xs : List α), cs = [.slice a len cap] ∧ xs.length = len ∧ xs.length ≤ cap ∧ RdS N W a xs ∧ (∀ x ∈ xs, Ok x) ∧ ∀ B, (∀ m ∈ y.1.weights P t, m ≤ B) → xs.length * P.bytesOf e ≤ B := by
 rcases DataW.trod_slice ht h with ⟨h0, rfl⟩ | ⟨ad, len, cap', elems, rest, m, _, h1, hy, hb, hl, hm, hlen, hel, _, _⟩
 ·exact ⟨none, 0, 0, [], h0, rfl, Nat.le_refl _, .nil _ _ _, fun x hx => by simp at hx, fun B _ => by simp⟩
 ·have each : ∀ i, i < len → ∃ x, W.cells? 0 (ad.add (i * N.sz)) N.sz = some (N.enc x) ∧ Ok x := fun i hi => by
   have h2 := hel i hi
   rw [List.getElem?_eq_getElem (by omega), Option.bind_eq_some_iff] at h2
   obtain ⟨cs, h3, h4⟩ := h2
   obtain ⟨x, rfl, hx⟩ := hdec _ _ _ h4
   rw [hc] at h3
   exact ⟨x, h3, hx⟩
  obtain ⟨xs, x1, x2⟩ := list_of (Q := fun i x => W.cells? 0 (ad.add (i * N.sz)) N.sz = some (N.enc x) ∧ Ok x) len each
  refine ⟨some ad, len, cap', xs, h1, x1, by omega, ⟨by omega, ?_⟩, fun x hx => ?_, fun B hB => ?_⟩
  ·rcases Nat.eq_zero_or_pos len with h0 | h0
   ·left; exact List.eq_nil_of_length_eq_zero (by omega)
   ·right
    have hspot : ad.spot = none := by
     obtain ⟨x, hx⟩ : ∃ x, xs[0]? = some x := ⟨xs[0], List.getElem?_eq_getElem (by omega)⟩
     obtain ⟨_, _, h5⟩ := World.cells?_some (x2 0 x hx).1
     have := h5 0 N.pos
     rw [List.getElem?_eq_getElem (by rw [N.len]; exact N.pos)] at this
     have e0 : (ad.add (0 * N.sz)).add 0 = ad := by simp [Addr.add]
     rw [e0] at this
     cases hs : ad.spot with
     | none => rfl
     | some q =>
      unfold World.cell? at this
      split at this
      ·rw [hs] at this; simp at this
      ·cases this
    refine ⟨ad, rfl, hspot, fun k x hk j u hj => ?_⟩
    obtain ⟨_, _, h5⟩ := World.cells?_some (x2 k x hk).1
    have hjl : j < N.sz := by have := (List.getElem?_eq_some_iff.1 hj).1; rw [N.len] at this; exact this
    have := h5 j hjl
    rw [hj] at this
    have e1 : (ad.add (k * N.sz)).add j = ⟨ad.block, ad.off + (k * N.sz + j), none⟩ := by
     cases ad with | mk b o s => simp at hspot; subst hspot; simp [add_none, Nat.add_assoc]
    rw [e1] at this
    exact this
  ·obtain ⟨i, hi, rfl⟩ := List.mem_iff_getElem.1 hx
   exact (x2 i _ (by rw [List.getElem?_eq_getElem hi])).2
  ·subst hy
   have := hB ((elems.length + rest.length) * P.bytesOf e) (by simp [DataW.weights, ht])
   have h2 : xs.length * P.bytesOf e ≤ (elems.length + rest.length) * P.bytesOf e := Nat.mul_le_mul_right _ (by omega)
   omega
theorem open_strC {t : TypeId} (ht : P.underlying t = some .string) {n : Nat} {cs : List Value} {y : DataW H × List MemPlace} (h : DataW.trod enc P W 0 sp held n t cs = some y) :
  ∃ s : ByteArray, cs = [.string s] ∧ ∀ B, (∀ m ∈ y.1.weights P t, m ≤ B) → s.size ≤ B := by
 obtain ⟨s, h1, rfl, _⟩ := DataW.trod_string ht h
 refine ⟨s, h1, fun B hB => ?_⟩
 have := hB s.data.toList.length (by simp [DataW.weights])
 simpa using this
theorem partC {fs : Array Field} {xs : List (DataW H × List MemPlace)} {n : Nat} {cs : List Value} (hall : ∀ (i : Nat) (f : Field), fs[i]? = some f → DataW.trod enc P W 0 sp held n f.type ((cs.drop f.offset).take (P.cellsOf f.type)) = xs[i]?) (hx : xs.length = fs.size)
  {i o : Nat} {f : Field} (hf : fs[i]? = some f) (hc : P.cellsOf f.type = 1) (ho : f.offset = o) : ∃ x, xs[i]? = some x ∧ DataW.trod enc P W 0 sp held n f.type ((cs.drop o).take 1) = some x := by
 have h := hall i f hf
 have hi : i < fs.size := (Array.getElem?_eq_some_iff.1 hf).1
 rw [List.getElem?_eq_getElem (by omega), hc, ho] at h
 exact ⟨_, List.getElem?_eq_getElem (by omega), h⟩
theorem cellC {cs : List Value} {o : Nat} {c : Value} (h : (cs.drop o).take 1 = [c]) : cs[o]? = some c := by
 have := congrArg (fun l => l[0]?) h
 simpa [List.getElem?_take, List.getElem?_drop] using this
theorem weightsC {t : TypeId} {fs : Array Field} (ht : P.underlying t = some (.struct fs)) {xs : List (DataW H × List MemPlace)} {B : Nat} (h : ∀ m ∈ (DataW.agg (xs.map (·.1)) : DataW H).weights P t, m ≤ B)
  {i : Nat} {f : Field} (hf : fs[i]? = some f) {x : DataW H × List MemPlace} (hx : xs[i]? = some x) : ∀ m ∈ x.1.weights P f.type, m ≤ B := fun m hm => by
 apply h
 simp only [DataW.weights, ht]
 exact DataW.weights_mem_each (j := i) (t := f.type) (d := x.1) (by simp [hf]) (by simp [hx]) m hm
theorem trod_of {t : TypeId} {v : Value} {d : DataW H} {ps : List MemPlace} {c : Value} (hv : v.cells = #[c]) (h : DataW.Trod enc P W 0 sp held t v d ps) : ∃ n, DataW.trod enc P W 0 sp held n t [c] = some (d, ps) := by
 obtain ⟨n, h⟩ := h; rw [hv] at h; exact ⟨n, h⟩
theorem weight_arg {ts : List TypeId} {ds : List (DataW H)} {B : Nat} (h : (DataW.weightsEach P ts ds).all (· ≤ B) = true) {j : Nat} {t : TypeId} {d : DataW H} (ht : ts[j]? = some t) (hd : ds[j]? = some d) : ∀ m ∈ d.weights P t, m ≤ B := fun m hm => by
 simpa using List.all_eq_true.1 h _ (DataW.weights_mem_each ht hd m hm)
end
end Go.HW
