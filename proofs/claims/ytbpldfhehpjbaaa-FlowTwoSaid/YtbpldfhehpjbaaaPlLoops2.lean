/- Plain: is there a way round: the program's walk. -/
import Derived.Test.YtbpldfhehpjbaaaPlLoops
namespace Go.Proofs.Ytbpldfhehpjbaaa
open Go Go.HW
set_option maxRecDepth 8000
set_option linter.unusedVariables false

abbrev SL := (List (Int × U)) × (List (Int × U)) × (List Visit) × Bool
abbrev stepW (F : Nat) (G : List (List Int)) := stepR (fun (s : SL) (y : Visit) => fn23_r1 F G s.1 s.2.1 s.2.2.1 s.2.2.2 y)
abbrev getW := (fun s : SL × Nat => s.1.2.2.1)
abbrev putW := (fun (xs : List Visit) (s : SL × Nat) => ((s.1.1, s.1.2.1, xs, s.1.2.2.2), s.2))

theorem append_cases' {α : Type} : ∀ {l m a b : List α}, l ++ m = a ++ b → (∃ c, l = a ++ c ∧ b = c ++ m) ∨ ∃ c, c ≠ [] ∧ a = l ++ c ∧ m = c ++ b
  | [], m, a, b, h => by
    cases a with
    | nil => exact .inl ⟨[], rfl, by simpa using h.symm⟩
    | cons x a => exact .inr ⟨x :: a, by simp, rfl, by simpa using h⟩
  | x :: l, m, [], b, h => .inl ⟨x :: l, rfl, by simpa using h.symm⟩
  | x :: l, m, y :: a, b, h => by
    simp only [List.cons_append, List.cons.injEq] at h
    obtain ⟨rfl, h⟩ := h
    rcases append_cases' h with ⟨c, h1, h2⟩ | ⟨c, h0, h1, h2⟩
    · exact .inl ⟨c, by rw [h1]; rfl, h2⟩
    · exact .inr ⟨c, h0, by rw [h1]; rfl, h2⟩

abbrev white (Un D : List (Int × U)) : Int → Bool := fun i => mhas Un i || mhas D i

theorem loop_loop {F : Nat} (hF : 6000 ≤ F) {G : List (List Int)} (hG : Valid G) (hN : G.length ≤ 5000) : ∀ (n : Nat) (st : List Visit) (Un D : List (Int × U)), LInv G Un D st.reverse → 4 * cnt (white Un D) G.length + st.length < n → 4 * cnt (white Un D) G.length + st.length ≤ 100000 → 0 < G.length →
    (∃ Un' D' st', fn73_l (stepW F G) goR getW putW n ((Un, D, st, false), 0) = some ((Un', D', st', true), 1) ∧ Rnd G) ∨
    (∃ Un' D', fn73_l (stepW F G) goR getW putW n ((Un, D, st, false), 0) = some ((Un', D', [], false), 0) ∧ ¬ Rnd G ∧ Topo G D' ∧ mhas D' 0 = true ∧ D'.length ≤ G.length)
  | 0, st, Un, D, _, h, _, _ => by omega
  | n + 1, st, Un, D, hI, hn, hb, hp => by
    rw [fn73_l_s]
    rcases Nat.eq_zero_or_pos st.length with h0 | h0
    · have : st = [] := List.eq_nil_of_length_eq_zero h0
      subst this
      rcases hI.zero with h | ⟨e, h, _⟩
      · exact .inr ⟨Un, D, rfl, hI.topo.none h, hI.topo, h, by have := hI.size; omega⟩
      · simp at h
    · obtain ⟨p1, p2, p3, p4⟩ := pop_step (α := Visit) (σ := Unit) h0 (by omega)
      obtain ⟨r, e1, e2⟩ := split_last h0
      have hgoal : ∀ (X : Option (SL × Nat)), X = (bif decide ((0 : Int) < (st.length : Int)) then (bif inb (IntKind.i64.wrap ((st.length : Int) - 1)) st.length then (bif sliceOk ((0 : Nat) : Int) (IntKind.i64.wrap ((st.length : Int) - 1)) st.length then (Option.bind (stepW F G (putW (cutX st ((0 : Nat) : Int).toNat (IntKind.i64.wrap ((st.length : Int) - 1)).toNat) ((Un, D, st, false), 0)) (gt st (IntKind.i64.wrap ((st.length : Int) - 1)))) fun u => (bif !(goR u) then (some u) else ((fn73_l (stepW F G) goR getW putW n) u))) else none) else none) else (some ((Un, D, st, false), 0))) →
          (∃ Un' D' st', X = some ((Un', D', st', true), 1) ∧ Rnd G) ∨ (∃ Un' D', X = some ((Un', D', [], false), 0) ∧ ¬ Rnd G ∧ Topo G D' ∧ mhas D' 0 = true ∧ D'.length ≤ G.length) := by
        rintro X rfl
        rw [p1, p2, p3, p4, e2]
        simp only [cond_true]
        generalize hx : gt st ((st.length : Int) - 1) = e at e1
        obtain ⟨v, b⟩ := e
        have hlr : st.length = r.length + 1 := by rw [e1]; simp
        have hrev : st.reverse = (⟨v, b⟩ : Visit) :: r.reverse := by rw [e1]; simp
        rw [hrev] at hI
        have hstep : stepW F G (putW r ((Un, D, st, false), 0)) ⟨v, b⟩ = fn23_r1 F G Un D r false ⟨v, b⟩ := rfl
        rw [hstep, fn23_r1]
        obtain ⟨path, hstk⟩ := hI.stk
        obtain ⟨pp1, pp2, pp3⟩ := hstk.path
        cases b with
        | true =>
          -- a mark: all behind v is done
          simp only [cond_true, bindP, fn48, Option.bind_some, goR, show Nat.beq 0 0 = true from rfl, Bool.not_true, cond_false]
          have hDv : mhas D v = false := hI.grey v (by simp)
          have hpt : ∃ pt, Stk G r.reverse pt := by
            rw [Stk, if_pos rfl] at hstk
            obtain ⟨pt, _, _, h⟩ := hstk; exact ⟨pt, h⟩
          have hone := hI.one
          rw [List.filter_cons_of_pos rfl, List.map_cons, List.nodup_cons] at hone
          have hnot : (⟨v, true⟩ : Visit) ∉ r.reverse := fun h => hone.1 (List.mem_map.2 ⟨_, List.mem_filter.2 ⟨h, rfl⟩, rfl⟩)
          have hD' := mput_new D v (⟨⟩ : U) hDv
          have hhas : ∀ t, mhas (mput D v (⟨⟩ : U)) t = (decide (v = t) || mhas D t) := fun t => mhas_put v _ t D
          have hI' : LInv G (mdel Un v) (mput D v (⟨⟩ : U)) r.reverse := by
            refine ⟨hpt, fun t => ?_, hI.knd.del, hone.2, fun t ht => ?_, ?_, ?_, ?_, ?_⟩
            · rw [mhas_del _ _ _ hI.knd, Bool.and_eq_true, hI.un t]
              constructor
              · rintro ⟨h1, h2⟩
                rcases List.mem_cons.1 h2 with h2 | h2
                · have : t = v := congrArg Visit.fat h2
                  subst this; simp at h1
                · exact h2
              · intro h
                have hne : v ≠ t := by rintro rfl; exact hnot h
                exact ⟨by simp [hne], by simp [h]⟩
            · have hne : v ≠ t := by rintro rfl; exact hnot ht
              rw [hhas, hI.grey t (by simp [ht])]; simp [hne]
            · rw [hD']
              intro k q hq t ht
              rcases Nat.lt_or_ge k D.length with hk | hk
              · rw [List.getElem?_append_left hk] at hq
                obtain ⟨m, r', h1, h2, h3⟩ := hI.topo k q hq t ht
                exact ⟨m, r', h1, by rw [List.getElem?_append_left (by omega)]; exact h2, h3⟩
              · rw [List.getElem?_append_right hk] at hq
                have hk0 : k - D.length = 0 := by
                  cases hh : k - D.length with
                  | zero => rfl
                  | succ j => rw [hh] at hq; simp at hq
                rw [hk0] at hq; simp at hq; subst hq
                rcases hI.cov [] v r.reverse rfl t ht with h | ⟨e, h, _⟩
                · obtain ⟨q, h1, h2⟩ := (mhas_iff D t).1 h
                  obtain ⟨m, hm, e⟩ := List.mem_iff_getElem.1 h1
                  exact ⟨m, q, by omega, by rw [List.getElem?_append_left hm, List.getElem?_eq_some_iff]; exact ⟨hm, e⟩, h2⟩
                · simp at h
            · intro ab m be hab t ht
              rcases hI.cov ((⟨v, true⟩ : Visit) :: ab) m be (by rw [hab]; rfl) t ht with h | ⟨e, h, he⟩
              · exact .inl (by rw [hhas, h]; simp)
              · rcases List.mem_cons.1 h with rfl | h
                · exact .inl (by rw [hhas]; simp [← he])
                · exact .inr ⟨e, h, he⟩
            · rcases hI.zero with h | ⟨e, h, he⟩
              · exact .inl (by rw [hhas, h]; simp)
              · rcases List.mem_cons.1 h with rfl | h
                · exact .inl (by rw [hhas]; simp [← he])
                · exact .inr ⟨e, h, he⟩
            · have hv01 : 0 ≤ v ∧ v < (G.length : Int) := (pp3 ⟨v, true⟩ (by simp)).lt hG hp
              have h1 : cnt (mhas (mput D v (⟨⟩ : U))) G.length < cnt (mhas D) G.length := cnt_lt _ (fun i _ _ h => by rw [hhas, h]; simp) v hv01.1 hv01.2 hDv (by rw [hhas]; simp)
              have h2 := hI.size
              have h3 : (mput D v (⟨⟩ : U)).length = D.length + 1 := by rw [hD']; simp
              omega
          have hc : cnt (white (mdel Un v) (mput D v (⟨⟩ : U))) G.length = cnt (white Un D) G.length := by
            congr 1; funext t
            show (mhas (mdel Un v) t || mhas (mput D v (⟨⟩ : U)) t) = (mhas Un t || mhas D t)
            rw [mhas_del _ _ _ hI.knd, hhas]
            by_cases h : v = t
            · subst h; have := (hI.un v).2 (by simp); simp [this]
            · simp [h]
          exact loop_loop hF hG hN n r _ _ hI' (by rw [hc]; omega) (by rw [hc]; omega) hp
        | false =>
          rw [Stk, if_neg (by simp)] at hstk
          obtain ⟨hnx, hstk'⟩ := hstk
          have hone' : ((r.reverse.filter (·.fleft)).map (·.fat)).Nodup := by have := hI.one; rwa [List.filter_cons_of_neg (by simp)] at this
          have hmk : ∀ t, (⟨t, true⟩ : Visit) ∈ r.reverse ↔ (⟨t, true⟩ : Visit) ∈ (⟨v, false⟩ : Visit) :: r.reverse := fun t => by
            rw [List.mem_cons]; constructor
            · exact .inr
            · rintro (h | h)
              · cases h
              · exact h
          simp only [cond_false]
          cases hd : mhas D v with
          | true =>
            simp only [cond_true, Option.bind_some, goR, show Nat.beq 0 0 = true from rfl, Bool.not_true, cond_false]
            have hI' : LInv G Un D r.reverse := by
              refine ⟨⟨path, hstk'⟩, fun t => (hI.un t).trans (hmk t).symm, hI.knd, hone', fun t ht => hI.grey t ((hmk t).1 ht), hI.topo, ?_, ?_, hI.size⟩
              · intro ab m be hab t ht
                rcases hI.cov ((⟨v, false⟩ : Visit) :: ab) m be (by rw [hab]; rfl) t ht with h | ⟨e, h, he⟩
                · exact .inl h
                · rcases List.mem_cons.1 h with rfl | h
                  · exact .inl (by rw [← he]; exact hd)
                  · exact .inr ⟨e, h, he⟩
              · rcases hI.zero with h | ⟨e, h, he⟩
                · exact .inl h
                · rcases List.mem_cons.1 h with rfl | h
                  · exact .inl (by rw [← he]; exact hd)
                  · exact .inr ⟨e, h, he⟩
            exact loop_loop hF hG hN n r _ _ hI' (by omega) (by omega) hp
          | false =>
            simp only [cond_false, bindP, fn48]
            cases hu : mhas Un v with
            | true =>
              simp only [Bool.not_true, Bool.not_false, cond_true, Option.bind_some]
              have hvp : v ∈ path := (pp1 v).2 ((hI.un v).1 hu)
              obtain ⟨X, q, x1, x2, x3, x4⟩ := hstk'.chn.round hvp
              refine .inl ⟨_, _, _, rfl, X, x2, fun x hx => ⟨pp2 x (by rw [x1]; simp [hx]), ?_⟩⟩
              rcases x4 x hx with h | h
              · cases hpath : path with
                | nil => rw [hpath] at hvp; simp at hvp
                | cons m pt =>
                  rw [hpath] at h hnx
                  have : x = m := h
                  subst this
                  exact ⟨v, hnx, x3⟩
              · exact h
            | false =>
              have hv01 : 0 ≤ v ∧ v < (G.length : Int) := (pp3 ⟨v, false⟩ (by simp)).lt hG hp
              have hga := (hG _ (gt_mem hv01.1 hv01.2)).1
              have g2 : inb v G.length = true := inb_iff.2 hv01
              have g3 : decide ((r.length + ([(⟨v, true⟩ : Visit)] : List Visit).length) * 16 ≤ 140737488355328 ∧ r.length + ([(⟨v, true⟩ : Visit)] : List Visit).length ≤ 9223372036854775807) = true := by simp; omega
              have hl2 := l2_push (G := G) (v := v) (by omega) F (r ++ [⟨v, true⟩]) 0 false (by omega) (by omega) (by simp; omega)
              rw [show ((0 : Nat) : Int) = 0 from rfl, List.drop_zero] at hl2
              simp only [Bool.not_true, Bool.not_false, cond_false, fn50, g3, cond_true, Option.bind_some, g2, hl2, fn23_k2, goR, show Nat.beq 0 0 = true from rfl]
              have hhas : ∀ t, mhas (mput Un v (⟨⟩ : U)) t = (decide (v = t) || mhas Un t) := fun t => mhas_put v _ t Un
              have hrv : (r ++ [(⟨v, true⟩ : Visit)] ++ (gt G v).map (fun t => (⟨t, false⟩ : Visit))).reverse = ((gt G v).map (fun t => (⟨t, false⟩ : Visit))).reverse ++ (⟨v, true⟩ : Visit) :: r.reverse := by simp
              have hfl : ∀ e ∈ ((gt G v).map (fun t => (⟨t, false⟩ : Visit))).reverse, e.fleft = false ∧ e.fat ∈ gt G v := fun e he => by
                simp at he; obtain ⟨t, h1, rfl⟩ := he; exact ⟨rfl, h1⟩
              have hI' : LInv G (mput Un v (⟨⟩ : U)) D (r ++ [(⟨v, true⟩ : Visit)] ++ (gt G v).map (fun t => (⟨t, false⟩ : Visit))).reverse := by
                rw [hrv]
                have hmem : ∀ t, (⟨t, true⟩ : Visit) ∈ ((gt G v).map (fun t => (⟨t, false⟩ : Visit))).reverse ++ (⟨v, true⟩ : Visit) :: r.reverse ↔ t = v ∨ (⟨t, true⟩ : Visit) ∈ r.reverse := fun t => by
                  rw [List.mem_append, List.mem_cons]
                  constructor
                  · rintro (h | h | h)
                    · exact absurd (hfl _ h).1 (by simp)
                    · exact .inl (congrArg Visit.fat h)
                    · exact .inr h
                  · rintro (rfl | h)
                    · exact .inr (.inl rfl)
                    · exact .inr (.inr h)
                refine ⟨⟨v :: path, Stk.push (by rw [Stk, if_pos rfl]; exact ⟨path, rfl, hnx, hstk'⟩) _ (fun e he => ⟨(hfl e he).1, (hfl e he).2⟩)⟩, fun t => ?_, hI.knd.push hu, ?_, fun t ht => ?_, hI.topo, ?_, ?_, hI.size⟩
                · rw [hhas, Bool.or_eq_true, hI.un t, hmem, ← hmk]
                  simp [eq_comm]
                · have e0 : ((((gt G v).map (fun t => (⟨t, false⟩ : Visit))).reverse).filter (·.fleft)) = [] := List.filter_eq_nil_iff.2 fun e he => by rw [(hfl e he).1]; simp
                  rw [List.filter_append, e0, List.nil_append, List.filter_cons_of_pos rfl, List.map_cons, List.nodup_cons]
                  refine ⟨fun h => ?_, hone'⟩
                  obtain ⟨e, h1, h2⟩ := List.mem_map.1 h
                  obtain ⟨h3, h4⟩ := List.mem_filter.1 h1
                  have : e = ⟨v, true⟩ := by cases e; simp at h2 h4; subst h2; subst h4; rfl
                  rw [this] at h3
                  have := (hI.un v).2 ((hmk v).1 h3)
                  rw [hu] at this; cases this
                · rcases (hmem t).1 ht with rfl | h
                  · exact hd
                  · exact hI.grey t ((hmk t).1 h)
                · intro ab m be hab t ht
                  rcases append_cases' hab with ⟨c, h1, h2⟩ | ⟨c, hc0, h1, h2⟩
                  · -- the mark would lie within the new ones
                    cases c with
                    | nil =>
                      simp at h2
                      obtain ⟨⟨rfl, _⟩, rfl⟩ := h2
                      refine .inr ⟨⟨t, false⟩, ?_, rfl⟩
                      rw [List.append_nil] at h1
                      rw [← h1]; simp [ht]
                    | cons y c =>
                      simp at h2
                      have : y ∈ ((gt G v).map (fun t => (⟨t, false⟩ : Visit))).reverse := by rw [h1]; simp
                      have := (hfl y this).1
                      rw [← h2.1] at this; simp at this
                  · cases c with
                    | nil => exact absurd rfl hc0
                    | cons y c =>
                      simp at h2
                      obtain ⟨rfl, h2⟩ := h2
                      rcases hI.cov ((⟨v, false⟩ : Visit) :: c) m be (by rw [h2]; simp) t ht with h | ⟨e, h, he⟩
                      · exact .inl h
                      · refine .inr ?_
                        rcases List.mem_cons.1 h with rfl | h
                        · exact ⟨⟨v, true⟩, by rw [h1]; simp, he⟩
                        · exact ⟨e, by rw [h1]; simp [h], he⟩
                · rcases hI.zero with h | ⟨e, h, he⟩
                  · exact .inl h
                  · refine .inr ?_
                    rcases List.mem_cons.1 h with rfl | h
                    · exact ⟨⟨v, true⟩, by simp, he⟩
                    · exact ⟨e, by simp at h ⊢; simp [h], he⟩
              have hlt : cnt (white (mput Un v (⟨⟩ : U)) D) G.length < cnt (white Un D) G.length := by
                refine cnt_lt _ (fun i _ _ h => ?_) v hv01.1 hv01.2 ?_ ?_
                · show (mhas (mput Un v (⟨⟩ : U)) i || mhas D i) = true
                  rw [hhas]
                  have h : (mhas Un i || mhas D i) = true := h
                  rcases (by simpa using h : mhas Un i = true ∨ mhas D i = true) with h | h <;> simp [h]
                · show (mhas Un v || mhas D v) = false
                  rw [hu, hd]; rfl
                · show (mhas (mput Un v (⟨⟩ : U)) v || mhas D v) = true
                  rw [hhas]; simp
              exact loop_loop hF hG hN n _ _ _ hI' (by simp; omega) (by simp; omega) hp
      exact hgoal _ rfl

theorem loops_prog' {F : Nat} {p : List Instr} (hF : 9000 ≤ F) (hp : p.length ≤ 1000) (hw : WF p) (ho : okP p = true) (hv : Valid (stp p)) : ∃ b, fn23 F p = some b ∧ (b = true ↔ Rnd (stp p)) ∧ (b = false → ∃ D, Topo (stp p) D ∧ mhas D 0 = true ∧ D.length ≤ (stp p).length) := by
  have hl : (stp p).length = p.length := by rw [stp_length, ho]; rfl
  obtain ⟨hne, hlen⟩ := ok_len ho
  have hpos : 0 < p.length := List.length_pos_iff.2 hne
  have he : (stp p).isEmpty = false := by
    cases h : stp p with
    | nil => rw [h] at hl; simp at hl; omega
    | cons _ _ => rfl
  rw [fn23, steps_prog (by omega) (by omega) hw, Option.bind_some, he]
  have hpush : fn50 (⟨([] : List Visit)⟩ : S_flow_visit_) ([(⟨0, false⟩ : Visit)] : List Visit) = some ⟨[⟨0, false⟩]⟩ := by decide
  have hm0 : ∀ i : Int, mhas ([] : List (Int × U)) i = false := fun _ => rfl
  have hI : LInv (stp p) [] [] ([(⟨0, false⟩ : Visit)] : List Visit).reverse := by
    refine ⟨⟨[], by simp [Stk, Nxt]⟩, fun v => ?_, List.nodup_nil, by simp, fun v hv => hm0 v, fun n q hq => by simp at hq, ?_, .inr ⟨⟨0, false⟩, by simp, rfl⟩, by have := cnt_le (mhas ([] : List (Int × U))) (stp p).length; simpa using this⟩
    · rw [hm0]; simp
    · intro ab m be hab
      cases ab with
      | nil => simp at hab
      | cons y ab => simp at hab
  have hc := cnt_le (white ([] : List (Int × U)) []) (stp p).length
  simp only [cond_false, hpush, Option.bind_some, fn73]
  rcases loop_loop (F := F) (by omega) hv (by omega) F [⟨0, false⟩] [] [] hI (by simp; omega) (by simp; omega) (by omega) with ⟨Un', D', st', e1, e2⟩ | ⟨Un', D', e1, e2, e3, e4, e5⟩
  · rw [e1]; exact ⟨true, rfl, ⟨fun _ => e2, fun _ => rfl⟩, fun h => (by cases h)⟩
  · rw [e1]; exact ⟨false, rfl, ⟨fun h => (by cases h), fun h => absurd h e2⟩, fun _ => ⟨D', e3, e4, e5⟩⟩

theorem loops_prog {F : Nat} {p : List Instr} (hF : 9000 ≤ F) (hp : p.length ≤ 1000) (hw : WF p) (ho : okP p = true) (hv : Valid (stp p)) : ∃ b, fn23 F p = some b ∧ (b = true ↔ Rnd (stp p)) := by
  obtain ⟨b, h1, h2, _⟩ := loops_prog' hF hp hw ho hv
  exact ⟨b, h1, h2⟩
end Go.Proofs.Ytbpldfhehpjbaaa
