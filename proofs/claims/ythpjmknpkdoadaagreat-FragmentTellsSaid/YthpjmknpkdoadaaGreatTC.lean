/- Part of the proof: the logic, the walks, and what they compute. -/
import Derived.Maps.RangeRun
import Derived.Shelf.SlIterI.Sorted
import Derived.Shelf.SlIterI.Collect
import Derived.Shelf.SlIterI.Keys
import Derived.Shelf.SortM.Plain
import Derived.Shelf.SortM.SortNone
import Derived.Ground.GgzProg
import Derived.Ground.SlgmProg
import Derived.Test.YthpjmknpkdoadaaGreatProg
import Derived.Shelf.AbstractIn
import Derived.Test.YthpjmknpkdoadaaGreatTB
set_option linter.all false
namespace Go.HW
open Go Go.RowKit
set_option linter.unusedVariables false
section
variable {c : C4}
theorem Imp.vwS (d : Nat) {t lo sz k : Nat} {L : SL} {H : SH} {n : Nat} (h : lookV L d = some (.ss t lo sz k)) : Imp c ⟨L, H, n⟩ ⟨(d, .sl n) :: L, (n, .vw (.ss t lo sz k)) :: H, n + 1⟩ := by
 intro ρ F a w hs
 obtain ⟨v, e1, e2⟩ := hs.ok.dens.look h
 have e0 := e1
 rw [SV.den] at e1
 obtain ⟨l, hl, e1⟩ := Option.bind_eq_some_iff.1 e1
 cases hb : Nat.ble (lo + k) l.len with
 | false => rw [hb] at e1; cases e1
 | true =>
 rw [hb, cond_true] at e1; cases e1
 have hg := Env.set_grow (ρ := ρ) (n := n) (l := ⟨subP l.sp sz l.cap lo, l.cap - lo, k⟩) hs.ok.fr
 have hle := hg.toLe hs.ok.fr
 have hρ : ρ.set n ⟨subP l.sp sz l.cap lo, l.cap - lo, k⟩ n = some ⟨subP l.sp sz l.cap lo, l.cap - lo, k⟩ := by simp [Env.set]
 have hd : (SV.sl n).den (ρ.set n ⟨subP l.sp sz l.cap lo, l.cap - lo, k⟩) = some (.slice (subP l.sp sz l.cap lo) k (l.cap - lo)) := by rw [SV.den, hρ]; rfl
 refine ⟨_, [] :: F, ⟨⟨⟨⟨_, hd⟩, hs.ok.dens.mono hle⟩, ⟨[], F, rfl, ⟨_, _, _, hρ, den_mono hle e0, rfl⟩, hs.ok.reps.mono hle⟩, hg.fr, fun t ht => ?_, Nat.le_succ_of_le hs.ok.mle⟩, ?_⟩⟩
 ·have := hs.ok.mle
  rw [hg.old t (by simp only at this; omega)]; exact hs.ok.pin t ht
 ·have s1 := hs.sat
  refine ⟨s1.size, s1.defers, fun t v hl => ?_, s1.ext, by simpa [Hp.all] using s1.nodup, by simpa [Hp.all] using s1.heap, by simpa [Hp.all] using s1.own⟩
  simp only [realL, realL_mono hle hs.ok.dens, hd, Option.getD_some, look] at hl
  cases hb : Nat.beq d t with
  | true =>
   rw [hb] at hl; cases hl
   have := Nat.eq_of_beq_eq_true hb; subst this
   exact s1.slots d _ e2
  | false => rw [hb] at hl; exact s1.slots t v hl
theorem Imp.nilL {α : Type} [Inhabited α] (N : Et α) (e A : TypeId) (d : Nat) {L : SL} {H : SH} {n : Nat} (h : lookV L d = some (.v (.slice none 0 0))) :
  Imp c ⟨L, H, n⟩ ⟨(d, .sl n) :: L, (n, .rowL N e A ([] : List (List α)) 0) :: H, n + 1⟩ := by
 intro ρ F a w hs
 obtain ⟨v, e1, e2⟩ := hs.ok.dens.look h
 rw [SV.den] at e1; cases e1
 have hg := Env.set_grow (ρ := ρ) (n := n) (l := ⟨none, 0, 0⟩) hs.ok.fr
 have hle := hg.toLe hs.ok.fr
 have hρ : ρ.set n ⟨none, 0, 0⟩ n = some ⟨none, 0, 0⟩ := by simp [Env.set]
 have hd : (SV.sl n).den (ρ.set n ⟨none, 0, 0⟩) = some (.slice none 0 0) := by rw [SV.den, hρ]; rfl
 refine ⟨ρ.set n ⟨none, 0, 0⟩, [] :: F, ⟨⟨⟨⟨_, hd⟩, hs.ok.dens.mono hle⟩, ⟨[], F, rfl, ⟨none, 0, hρ, rfl, OwnLL.nil⟩, hs.ok.reps.mono hle⟩, hg.fr, fun t ht => ?_, Nat.le_succ_of_le hs.ok.mle⟩, ?_⟩⟩
 ·have := hs.ok.mle
  rw [hg.old t (by simp only at this; omega)]; exact hs.ok.pin t ht
 ·have s1 := hs.sat
  refine ⟨s1.size, s1.defers, fun t v hl => ?_, s1.ext, by simpa [Hp.all] using s1.nodup, by simpa [Hp.all] using s1.heap, by simpa [Hp.all] using s1.own⟩
  simp only [realL, realL_mono hle hs.ok.dens, hd, Option.getD_some, look] at hl
  cases hb : Nat.beq d t with
  | true =>
   rw [hb] at hl; cases hl
   have := Nat.eq_of_beq_eq_true hb; subst this
   exact s1.slots d _ e2
  | false => rw [hb] at hl; exact s1.slots t v hl
end
def pOne (A : TypeId) : Loc → List Value → Blocks → Prop := fun l vs f => ∃ g, l = ⟨some ⟨g, 0, none⟩, 1, 1⟩ ∧ vs.length = 1 ∧ f = [(g, .cells vs.toArray A (0, 0))]
def pLo {α : Type} [Inhabited α] (N : Et α) (e A : TypeId) (xss : List (List α)) (i : Int) : Loc → List Value → Blocks → Prop := fun l vs f =>
 ∃ (hl : List Sl) (H0 : Blocks) (rs1 rs2 : List Blocks) (h : Sl), l.len = xss.length ∧ (xss = [] → l.sp = none) ∧ OwnL En.sl A l.sp l.cap hl H0 ∧ vs = [.slice h.1 h.2.1 h.2.2] ∧
  (∀ r', OwnL N.toEn e h.1 h.2.2 (gt xss i) r' → InAll N.toEn e hl xss (rs1 ++ r' :: rs2)) ∧ f = H0 ++ (rs1 ++ rs2).flatten ∧ (hl.length = xss.length ∧ hl[i.toNat]? = some h)
theorem InAll.open {α : Type} {N : En α} {e : TypeId} : ∀ {hl : List Sl} {xss : List (List α)} {rs : List Blocks} {k : Nat} {xs : List α}, InAll N e hl xss rs → xss[k]? = some xs →
  ∃ h rs1 r rs2, hl[k]? = some h ∧ rs = rs1 ++ r :: rs2 ∧ OwnL N e h.1 h.2.2 xs r ∧ xs.length = h.2.1 ∧ ∀ r', OwnL N e h.1 h.2.2 xs r' → InAll N e hl xss (rs1 ++ r' :: rs2)
 | h :: hs, ys :: xss, r :: rs, 0, xs, hh, hk => by
  simp at hk; subst hk
  exact ⟨h, [], r, rs, rfl, rfl, hh.1.1, hh.1.2, fun r' hr' => ⟨⟨hr', hh.1.2⟩, hh.2⟩⟩
 | h :: hs, ys :: xss, r :: rs, k + 1, xs, hh, hk => by
  obtain ⟨q, rs1, r1, rs2, h1, rfl, h3, h4, h5⟩ := InAll.open (k := k) hh.2 (by simpa using hk)
  exact ⟨q, r :: rs1, r1, rs2, by simpa using h1, rfl, h3, h4, fun r' hr' => ⟨hh.1, h5 r' hr'⟩⟩
 | [], [], [], _, _, _, hk => by simp at hk
 | [], _ :: _, _, _, _, h, _ => by simp [InAll] at h
 | [], [], _ :: _, _, _, h, _ => by simp [InAll] at h
 | _ :: _, [], _, _, _, h, _ => by simp [InAll] at h
 | _ :: _, _ :: _, [], _, _, h, _ => by simp [InAll] at h
section
variable {c : C4}
theorem Imp.closeL (t u : Nat) {α : Type} [i0 : Inhabited α] {N : Et α} {e A : TypeId} {xss : List (List α)} {i : Int} {m : Nat} {kk : NK} {L : SL} {H : SH} {n : Nat} (hl : lookH H t = some (.ex (pLo N e A xss i) [.sl u]))
  (hu : lookH H u = some (@Blk.row α i0 N e (gt xss i) m kk)) (hl2 : lookH (delH H u) t = some (.ex (pLo N e A xss i) [.sl u])) : Imp c ⟨L, H, n⟩ ⟨L, repH (delH H u) t t (.rowL N e A xss xss.length), n⟩ := by
 intro ρ F a w hs
 obtain ⟨FA, f, FB, rfl, ⟨sp, cap, r1, r2, r3, r4⟩, _, hdel⟩ := hs.ok.reps.look hu
 obtain ⟨FA2, f2, FB2, e2, ⟨l, vs, q1, q2, hl', H0, rs1, rs2, h, q3, q4, q5, rfl, q7, rfl, _⟩, hr2, _⟩ := hdel.look hl2
 have hv : SV.dens ρ [.sl u] = some [.slice sp m cap] := denAll_dens (l := [.sl u]) ⟨by rw [SV.den, r1]; rfl, trivial⟩
 rw [hv] at q2
 simp only [Option.some.injEq, List.cons.injEq, Value.slice.injEq, and_true] at q2
 obtain ⟨j1, j2, j3⟩ := q2
 have hin := q7 f (by rw [← j1, ← j3]; exact r3)
 refine ⟨ρ, FA2 ++ (H0 ++ (rs1 ++ f :: rs2).flatten) :: FB2, ⟨⟨hs.ok.dens, hr2 ρ t (.rowL N e A xss xss.length) _ (Env.le_refl _) ⟨l.sp, l.cap, by rw [q1, ← q3], rfl, q4, hl', H0, rs1 ++ f :: rs2, q5, hin, rfl⟩, hs.ok.fr, hs.ok.pin, hs.ok.mle⟩, ?_⟩⟩
 refine hs.sat.perm ?_
 simp only [Hp.all, List.nil_append, List.flatten_append, List.flatten_cons]
 have p1 : (FA.flatten ++ (f ++ FB.flatten)).Perm (f ++ (FA ++ FB).flatten) := by
  rw [List.flatten_append, ← List.append_assoc, ← List.append_assoc]
  exact List.Perm.append_right _ List.perm_append_comm
 refine List.Perm.trans ?_ p1.symm
 rw [e2]
 simp only [List.flatten_append, List.flatten_cons, List.append_assoc]
 have mv : ∀ (X Y Z W : Blocks), (X ++ (Y ++ (f ++ Z))).Perm (f ++ (X ++ (Y ++ Z))) := fun X Y Z W => by
  have a1 : (X ++ (Y ++ (f ++ Z))).Perm (X ++ (f ++ (Y ++ Z))) := List.Perm.append_left X (by rw [← List.append_assoc, ← List.append_assoc]; exact List.Perm.append_right _ List.perm_append_comm)
  refine a1.trans ?_
  rw [← List.append_assoc X f, ← List.append_assoc f X]; exact List.Perm.append_right _ List.perm_append_comm
 have := mv (FA2.flatten ++ H0) rs1.flatten (rs2.flatten ++ FB2.flatten) []
 simpa [List.append_assoc] using this
end
def b1F {α : Type} [Inhabited α] (N : Et α) : EvF := fun b L H n op => match op with
 | .buildSlice X 1 ps => match ps.toList with
  | [(0, y)] => match evS L y, lk b.t.und X with
   | some (.sl u), some (.slice A) => match lk b.t.siz A, lk b.z.z A with
    | some sz, some zi => bif Nat.beq sz 1 && Nat.beq (sizeI zi) 1 then some ([], some (.sl n), (n, .ex (pOne A) [.sl u]) :: H, n + 1) else none
    | _, _ => none
   | _, _ => none
  | _ => none
 | _ => none
theorem b1F_ok {c : C4} {α : Type} [Inhabited α] {N : Et α} : EvOk c (b1F N) := by
 intro b L H n op cs r H' n' hB h hc dst T pos af g hdr hd
 unfold b1F at h
 split at h
 ·rename_i X ps; split at h
  ·rename_i y hps; split at h
   ·rename_i u A hy hX; split at h
    ·rename_i sz zi hs hz
     cases hb : Nat.beq sz 1 && Nat.beq (sizeI zi) 1 with
     | false => rw [hb] at h; cases h
     | true =>
      rw [hb, cond_true] at h; cases h
      simp only [Bool.and_eq_true] at hb
      have e1 := Nat.eq_of_beq_eq_true hb.1; subst e1
      have e2 := Nat.eq_of_beq_eq_true hb.2
      cases dst with
      | none => simp at hdr
      | some d =>
       refine ⟨rfl, OT.ofTX hd fun ρ F Fx o Lr hLr Q hk => ?_⟩
       obtain ⟨zv, zvs, z1, z2, z3⟩ := hB.z.z.mem _ (lk_mem hz)
       have hzs : zv.cells.size = En.sl.sz := by rw [z2, List.size_toArray, dens_size z3, e2]; rfl
       obtain ⟨vy, f1, f2⟩ := evS_ok o.dens hy
       have f1' := f1
       rw [SV.den] at f1
       obtain ⟨l, hl, rfl⟩ := Option.map_eq_some_iff.1 f1
       have ep : ps = [(0, y)].toArray := by cases ps; simpa using hps
       rw [ep]
       have hp : evp Lr [(0, y)] = some [(0, .slice l.sp l.len l.cap)] := by
        have := ev_ext hLr f2
        simp [evp, this]
       refine TX.buildS (N := En.sl) (ys := [(l.sp, l.len, l.cap)]) (hB.t.und.mem _ (lk_mem hX)) (hB.t.siz.mem _ (lk_mem hs)) z1 hzs hp rfl rfl (fillS [.slice l.sp l.len l.cap] rfl rfl rfl rfl) hd (fun sp Hs ho => ?_)
       rcases ho with ⟨_, _, h0, _⟩ | ⟨gg, cur, rfl, rfl, g1, g2, g3, g4⟩
       ·cases h0
       ·have hcur : cur = #[.slice l.sp l.len l.cap] := by
         have h3 : cur.size = 1 := by simpa [En.sl] using g3
         have h4 : cur.toList = [.slice l.sp l.len l.cap] := by
          have : cur.toList.take 1 = [.slice l.sp l.len l.cap] := by simpa [En.sl] using g4
          rw [List.take_of_length_le (by simp [h3])] at this; exact this
         cases cur; simpa using h4
        subst hcur
        have hg := Env.set_grow (ρ := ρ) (n := n) (l := ⟨some ⟨gg, 0, none⟩, 1, 1⟩) o.fr
        have hle := hg.toLe o.fr
        refine hk (ρ.set n ⟨some ⟨gg, 0, none⟩, 1, 1⟩) (_ :: F) _ hg (by rw [Option.getD_some, SV.den, Env.set_self]; rfl) (Env.set_row o.reps o.fr ⟨_, [.slice l.sp l.len l.cap], Env.set_self, denAll_dens (l := [.sl u]) ⟨den_mono hle f1', trivial⟩, gg, rfl, rfl, rfl⟩)
    ·cases h
   ·cases h
  ·cases h
 ·cases h
def Ev.b1 {c : C4} {α : Type} [Inhabited α] (N : Et α) : Ev c := .ot (b1F N) b1F_ok
def aLF {α : Type} [Inhabited α] (N : Et α) (e : TypeId) (xss : List (List α)) (xs1 : List α) : EvF := fun b L H n op => match op with
 | .call ⟨.builtin .append, args, ts⟩ => match args.toList, ts.toList with
  | [x, y], [X, X'] => match evS L x, evS L y, lk b.t.und X with
   | some (.sl t), some (.sl v), some (.slice A) => match lookH H v, lk b.i.inf A with
    | some (.ex _ [.sl u]), some (sz, by', _) => match lookH (delH H v) t, lookH (delH (delH H v) t) u with
     | some (@Blk.rowL _ _ _ _ _ _ m), some (@Blk.row _ _ _ _ _ m1 k1) => bif Nat.beq X X' && Nat.beq sz 1 then
       some ([lookH H v = some (.ex (pOne A) [.sl u]), lookH (delH H v) t = some (.rowL N e A xss m), lookH (delH (delH H v) t) u = some (@Blk.row _ _ N e xs1 m1 k1), appHyp by' xss.length 1 = true],
        some (.sl n), (n, .rowL N e A (xss ++ [xs1]) (xss ++ [xs1]).length) :: delH (delH (delH H v) t) u, n + 1) else none
     | _, _ => none
    | _, _ => none
   | _, _, _ => none
  | _, _ => none
 | _ => none
theorem aLF_ok {c : C4} {α : Type} [Inhabited α] {N : Et α} {e : TypeId} {xss : List (List α)} {xs1 : List α} : EvOk c (aLF N e xss xs1) := by
 intro b L H n op cs r H' n' hB h hc dst T pos af g hdr hd
 unfold aLF at h
 split at h
 ·rename_i args tys; split at h
  ·rename_i x y X X' hargs htys; split at h
   ·rename_i t v A hx hy hX; split at h
    ·rename_i p0 u sz by' zi hv hinf; split at h
     ·rename_i β j N2 e3 A3 xss2 m γ j2 N3 e4 xs2 m1 k1 ht hu
      cases hb : Nat.beq X X' && Nat.beq sz 1 with
      | false => rw [hb] at h; cases h
      | true =>
       rw [hb, cond_true] at h; cases h
       simp only [Bool.and_eq_true] at hb
       have e1 := Nat.eq_of_beq_eq_true hb.1; subst e1
       have e2 := Nat.eq_of_beq_eq_true hb.2; subst e2
       obtain ⟨c1, c2⟩ := allP_cons hc
       obtain ⟨c2, c3⟩ := allP_cons c2
       obtain ⟨c3, c4⟩ := allP_cons c3
       have c4 : appHyp by' xss.length 1 = true := c4
       cases dst with
       | none => simp at hdr
       | some d =>
        refine ⟨rfl, OT.ofTX hd fun ρ F Fx o Lr hLr Q hk => ?_⟩
        obtain ⟨info, zv, vs, i1, i2, i3, i4, i5, i6, i7⟩ := hB.i.inf.mem _ (lk_mem hinf)
        obtain ⟨vx, x1, x2⟩ := evS_ok o.dens hx
        obtain ⟨vy, y1, y2⟩ := evS_ok o.dens hy
        obtain ⟨FA, f, FB, rfl, ⟨lv, us, p1, p2, gg, rfl, p4, rfl⟩, _, d1⟩ := o.reps.look c1
        obtain ⟨FA2, f2, FB2, q0, ⟨sp, cap, q1, q2, q3⟩, _, d2⟩ := d1.look c2
        obtain ⟨FA3, f3, FB3, s0, ⟨sp1, cap1, s1, s2, s3, s4⟩, _, d3⟩ := d2.look c3
        rw [SV.den, q1] at x1; cases x1
        rw [SV.den, p1] at y1; cases y1
        have hus : us = [.slice sp1 m1 cap1] := by
         have : SV.dens ρ [.sl u] = some [.slice sp1 m1 cap1] := denAll_dens (l := [.sl u]) ⟨by rw [SV.den, s1]; rfl, trivial⟩
         rw [this] at p2; exact (Option.some.inj p2).symm
        subst hus
        have ea : args = #[x, y] := by cases args; simpa using hargs
        have et : tys = #[X, X] := by cases tys; simpa using htys
        subst ea; subst et
        have hp : (⟨[], f2 :: f3 :: [(gg, Obj.cells #[.slice sp1 m1 cap1] A (0, 0))] :: (FA3 ++ FB3 ++ Fx)⟩ : Hp).all.Perm (⟨[], FA ++ [(gg, Obj.cells [Value.slice sp1 m1 cap1].toArray A (0, 0))] :: FB ++ Fx⟩ : Hp).all := by
         simp only [Hp.all, List.nil_append, List.flatten_append, List.flatten_cons, List.append_assoc]
         have k1 : (FA.flatten ++ ([(gg, Obj.cells #[Value.slice sp1 m1 cap1] A (0, 0))] ++ (FB.flatten ++ Fx.flatten))).Perm ([(gg, Obj.cells #[Value.slice sp1 m1 cap1] A (0, 0))] ++ ((FA ++ FB).flatten ++ Fx.flatten)) := by
          rw [List.flatten_append, ← List.append_assoc, ← List.append_assoc, List.append_assoc]
          refine (List.Perm.append_right _ List.perm_append_comm).trans ?_
          simp [List.append_assoc]
         refine List.Perm.trans ?_ k1.symm
         rw [q0]
         have k2 : ((FA2 ++ f2 :: FB2).flatten).Perm (f2 ++ (FA2 ++ FB2).flatten) := by
          have := (List.perm_middle (l₁ := FA2) (a := f2) (l₂ := FB2)).flatten; simpa using this
         have k3 : ((FA3 ++ f3 :: FB3).flatten).Perm (f3 ++ (FA3 ++ FB3).flatten) := by
          have := (List.perm_middle (l₁ := FA3) (a := f3) (l₂ := FB3)).flatten; simpa using this
         have k4 := (List.Perm.append_left f2 (s0 ▸ k3))
         have k5 : ((FA2 ++ f2 :: FB2).flatten).Perm (f2 ++ (f3 ++ (FA3 ++ FB3).flatten)) := k2.trans k4
         refine List.Perm.trans ?_ (List.Perm.append_left _ (List.Perm.append_right _ k5.symm))
         simp only [List.append_assoc, List.flatten_append]
         have mv : ∀ (X Y Z : Blocks) (q : Nat × Obj), (X ++ (Y ++ ([q] ++ Z))).Perm ([q] ++ (X ++ (Y ++ Z))) := fun X Y Z q => by
          have := List.perm_middle (a := q) (l₁ := X ++ Y) (l₂ := Z)
          simpa [List.append_assoc] using this
         exact mv f2 f3 _ _
        refine TX.permL hp.symm (TX.appendLL (N := N.toEn) (e := e) (si := 0) (sj := 0) (E := []) (S := f2 :: f3 :: [(gg, Obj.cells #[.slice sp1 m1 cap1] A (0, 0))] :: (FA3 ++ FB3 ++ Fx)) 0 (hB.t.und.mem _ (lk_mem hX)) i1 i2 (by rw [i5, List.size_toArray]; exact i7) i3 i4 (ev_ext hLr x2) q2 (ev_ext hLr y2) rfl q3 rfl s3 s2 ?_ c4 hd ?_)
        ·intro a w sa
         have hb : w.heap[gg]? = some (.cells #[.slice sp1 m1 cap1] A (0, 0)) := sa.heap (gg, _) (by simp [Hp.all])
         refine ⟨(by decide : 1 ≤ maxLen), .inr ⟨⟨gg, 0, none⟩, rfl, rfl, fun k x hk j v hj => ?_⟩⟩
         cases k with
         | zero =>
          simp at hk; subst hk
          cases j with
          | zero => simp [En.sl] at hj; subst hj; simp [World.cell?, hb]
          | succ j => simp [En.sl] at hj
         | succ k => simp at hk
        ·intro sp' cap' Hs' hO
         have hg := Env.set_grow (ρ := ρ) (n := n) (l := ⟨sp', cap', (xss ++ [xs1]).length⟩) o.fr
         have hle := hg.toLe o.fr
         have := hk (ρ.set n ⟨sp', cap', (xss ++ [xs1]).length⟩) (Hs' :: (FA3 ++ FB3)) (.slice sp' (xss ++ [xs1]).length cap') hg (by rw [Option.getD_some, SV.den, Env.set_self]; rfl)
          ⟨Hs', _, rfl, ⟨sp', cap', Env.set_self, rfl, hO⟩, d3.mono hle⟩
         refine fun a w sa => this a w (sa.weak (fun _ _ h => by simpa [putS] using h) ?_)
         simp only [Hp.all, List.nil_append, insB, List.flatten_cons, List.flatten_append, List.cons_append]
         refine List.Sublist.append_left (l := Hs') ?_
         exact List.Sublist.cons _ (by simp)
     ·cases h
    ·cases h
   ·cases h
  ·cases h
 ·cases h
def Ev.aL {c : C4} {α : Type} [Inhabited α] (N : Et α) (e : TypeId) (xss : List (List α)) (xs1 : List α) : Ev c := .ot (aLF N e xss xs1) aLF_ok
end Go.HW
namespace Go.HW
open Go Go.RowKit
def lnF : EvF := fun b L H n op => match op with
 | .call ⟨.builtin .len, args, ts⟩ => match args.toList, ts.toList with
  | [x], [X] => match evS L x, lk b.t.und X with
   | some (.sl t), some (.slice A) => match lookH H t with
    | some (@Blk.rowL _ _ _ _ _ xss m) => some ([], some (.v (.int .i64 (xss.length : Int))), H, n)
    | _ => none
   | _, _ => none
  | _, _ => none
 | _ => none
theorem lnF_ok {c : C4} : EvOk c lnF := by
 intro b L H n op cs r H' n' hB h hc dst T pos af g hdr hd
 unfold lnF at h
 split at h
 ·rename_i args tys; split at h
  ·rename_i x X hargs htys; split at h
   ·rename_i t A hx hX; split at h
    ·rename_i β j N e A2 xss m hl; cases h
     cases dst with
     | none => simp at hdr
     | some d =>
      refine ⟨rfl, OT.ofTX hd fun ρ F Fx o Lr hLr Q hk => ?_⟩
      obtain ⟨vx, x1, x2⟩ := evS_ok o.dens hx
      obtain ⟨FA, f, FB, e1, ⟨sp, cap, q1, q2, q3⟩, _, _⟩ := o.reps.look hl
      rw [SV.den, q1] at x1; cases x1
      have ea : args = #[x] := by cases args; simpa using hargs
      have et : tys = #[X] := by cases tys; simpa using htys
      subst ea; subst et
      exact TX.lenS (xs := xss) (hB.t.und.mem _ (lk_mem hX)) (ev_ext hLr x2) q2 hd (hk ρ F _ o.grow0 (by rw [Option.getD_some, SV.den]) o.reps)
    ·cases h
   ·cases h
  ·cases h
 ·cases h
def Ev.ln {c : C4} : Ev c := .ot lnF lnF_ok
def ixF : EvF := fun b L H n op => match op with
 | .indexAddr X x ix => match evS L x, evS L ix, lk b.t.und X with
  | some (.sl t), some (.v (.int _ i)), some (.slice A) => match lookH H t, lk b.t.siz A with
   | some (@Blk.rowL _ _ _ _ A2 xss m), some sz => bif Nat.beq sz 1 && Nat.beq A A2 then some ([inb i m = true], some (.e t i 1 0), H, n) else none
   | _, _ => none
  | _, _, _ => none
 | _ => none
theorem ixF_ok {c : C4} : EvOk c ixF := by
 intro b L H n op cs r H' n' hB h hc dst T pos af g hdr hd
 unfold ixF at h
 split at h
 ·rename_i X x ix; split at h
  ·rename_i t k i A hx hix hX; split at h
   ·rename_i β j N e A2 xss m sz hl hs
    cases hb : Nat.beq sz 1 && Nat.beq A A2 with
    | false => rw [hb] at h; cases h
    | true =>
     rw [hb, cond_true] at h; cases h
     simp only [Bool.and_eq_true] at hb
     have e1 := Nat.eq_of_beq_eq_true hb.1; subst e1
     have e2 := Nat.eq_of_beq_eq_true hb.2; subst e2
     have hc : inb i m = true := hc
     cases dst with
     | none => simp at hdr
     | some d =>
      refine ⟨rfl, OT.ofTX hd fun ρ F Fx o Lr hLr Q hk => ?_⟩
      obtain ⟨vx, x1, x2⟩ := evS_ok o.dens hx
      obtain ⟨vi, y1, y2⟩ := evS_ok o.dens hix
      rw [SV.den] at y1; cases y1
      obtain ⟨FA, f, FB, rfl, ⟨sp, cap, q1, q2, q3⟩, _, _⟩ := o.reps.look hl
      rw [SV.den, q1] at x1; cases x1
      have hFe : FA ++ f :: FB ++ Fx = FA ++ f :: (FB ++ Fx) := by simp
      have hk' := hk ρ (FA ++ f :: FB) (.pointer (some (eAddr sp (i.toNat * 1 + 0)))) o.grow0 (by rw [Option.getD_some, SV.den, q1]; simp only [Option.bind_some, hc, cond_true]) o.reps
      rw [hFe] at hk' ⊢
      exact TX.indexLL (N := N.toEn) (e := e) (si := FA.length) (E := []) (hB.t.und.mem _ (lk_mem hX)) (hB.t.siz.mem _ (lk_mem hs)) (ev_ext hLr x2) q2 (ev_ext hLr y2) getS_app q3 (by rw [q2]; exact hc) hd hk'
   ·cases h
  ·cases h
 ·cases h
def Ev.ix {c : C4} : Ev c := .ot ixF ixF_ok
def ldF {α : Type} [Inhabited α] (N : Et α) (e : TypeId) (xss : List (List α)) : EvF := fun b L H n op => match op with
 | .load A x => match evS L x, lk b.t.agg A with
  | some (.e t i 1 0), some false => match lookH H t with
   | some (@Blk.rowL _ _ _ _ A2 _ m) => bif Nat.beq A A2 then
     some ([lookH H t = some (.rowL N e A2 xss m), inb i xss.length = true], some (.sl n), (n, .row N e (gt xss i) (gt xss i).length .unk) :: repH H t t (.ex (pLo N e A2 xss i) [.sl n]), n + 1) else none
   | _ => none
  | _, _ => none
 | _ => none
theorem ldF_ok {c : C4} {α : Type} [Inhabited α] {N : Et α} {e : TypeId} {xss : List (List α)} : EvOk c (ldF N e xss) := by
 intro b L H n op cs r H' n' hB h hc dst T pos af g hdr hd
 unfold ldF at h
 split at h
 ·rename_i A x; split at h
  ·rename_i t i hx hag; split at h
   ·rename_i β j N2 e2 A2 xss2 m hl
    cases hb : Nat.beq A A2 with
    | false => rw [hb] at h; cases h
    | true =>
     rw [hb, cond_true] at h; cases h
     have e2 := Nat.eq_of_beq_eq_true hb; subst e2
     obtain ⟨c1, c2⟩ := allP_cons hc
     have c2 : inb i xss.length = true := c2
     cases dst with
     | none => simp at hdr
     | some d =>
      refine ⟨rfl, OT.ofTX hd fun ρ F Fx o Lr hLr Q hk => ?_⟩
      obtain ⟨vx, x1, x2⟩ := evS_ok o.dens hx
      obtain ⟨FA, f, FB, rfl, ⟨sp, cap, q1, q2, h0, hh, H0, rs, h1, h2, rfl⟩, hrep, _⟩ := o.reps.look c1
      rw [SV.den, q1] at x1
      simp only [Option.bind_some] at x1
      rw [show inb i m = true from by rw [← q2]; exact c2, cond_true] at x1; cases x1
      have hln := h2.len
      have hk1 : inb i hh.length = true := by rw [hln]; exact c2
      obtain ⟨q, rs1, r1, rs2, g1, rfl, g3, g4, g5⟩ := h2.open (gt_some c2)
      have hq : gt hh i = q := by have := gt_some hk1; rw [g1] at this; cases this; rfl
      have hg := Env.set_grow (ρ := ρ) (n := n) (l := ⟨q.1, q.2.2, q.2.1⟩) o.fr
      have hle := hg.toLe o.fr
      have hself : ρ.set n ⟨q.1, q.2.2, q.2.1⟩ n = some ⟨q.1, q.2.2, q.2.1⟩ := Env.set_self
      have hsl : (SV.sl n).den (ρ.set n ⟨q.1, q.2.2, q.2.1⟩) = some (.slice q.1 q.2.1 q.2.2) := by rw [SV.den, hself]; rfl
      have hR := hrep _ t (.ex (pLo N e A xss i) [.sl n]) (H0 ++ (rs1 ++ rs2).flatten) hle ⟨_, [.slice q.1 q.2.1 q.2.2], hle _ _ q1, denAll_dens (l := [.sl n]) ⟨hsl, trivial⟩, hh, H0, rs1, rs2, q, q2.symm, h0, h1, rfl, g5, rfl, hln, g1⟩
      have hkk := hk _ (r1 :: (FA ++ (H0 ++ (rs1 ++ rs2).flatten) :: FB)) (.slice q.1 q.2.1 q.2.2) hg (by rw [Option.getD_some]; exact hsl) ⟨r1, _, rfl, ⟨q.1, q.2.2, by rw [hself, g4], rfl, g3, trivial⟩, hR⟩
      have hp : (⟨[], r1 :: (FA ++ (H0 ++ (rs1 ++ rs2).flatten) :: FB) ++ Fx⟩ : Hp).all.Perm (⟨[], FA ++ (H0 ++ (rs1 ++ r1 :: rs2).flatten) :: FB ++ Fx⟩ : Hp).all := by
       simp only [Hp.all, List.nil_append, List.flatten_append, List.flatten_cons, List.append_assoc, List.cons_append]
       have mv : ∀ (X Y Z W : Blocks), (r1 ++ (X ++ (Y ++ (Z ++ W)))).Perm (X ++ (Y ++ (Z ++ (r1 ++ W)))) := fun X Y Z W => by
        have a1 : (r1 ++ ((X ++ (Y ++ Z)) ++ W)).Perm ((X ++ (Y ++ Z)) ++ (r1 ++ W)) := by
         rw [← List.append_assoc r1, ← List.append_assoc (X ++ (Y ++ Z))]; exact List.Perm.append_right _ List.perm_append_comm
        simpa [List.append_assoc] using a1
       exact mv _ _ _ _
      refine TX.permL hp.symm ?_
      refine TX.loadR1 (N := En.sl) (xs := hh) (o := 0) (hB.t.agg.mem _ (lk_mem hag)) (ev_ext hLr x2) (fun a w s => h1.rdm s (fun p hp => ?_)) hk1 (by rw [hq]; rfl) hd hkk
      simp only [Hp.all, List.nil_append, List.flatten_append, List.flatten_cons, List.mem_append, List.cons_append]
      exact .inr (.inl (.inr (.inl (.inl hp))))
   ·cases h
  ·cases h
 ·cases h
def Ev.ld {c : C4} {α : Type} [Inhabited α] (N : Et α) (e : TypeId) (xss : List (List α)) : Ev c := .ot (ldF N e xss) ldF_ok
end Go.HW
namespace Go.HW
open Go Go.RowKit
theorem dens_map {α : Type} {V : Vn α} {ρ : Env} : ∀ (xs : List α), SV.dens ρ (xs.map V.sv) = some (xs.map V.val)
 | [] => dens_nil
 | x :: l => dens_cons_some.2 ⟨[V.val x], l.map V.val, deni_of (V.ok ρ x), dens_map l, rfl⟩
def iaF {α : Type} [Inhabited α] (V : Vn α) (xs : List α) : EvF := fun b L H n op => match op with
 | .index X x ix => match evS L x, evS L ix, lk b.t.und X with
  | some (.ag l), some (.v (.int _ i)), some (.array m A) => match lk b.t.siz A, lk b.t.agg A with
   | some 1, some false => some ([l = xs.map V.sv, xs.length = m, inb i xs.length = true], some (V.sv (gt xs i)), H, n)
   | _, _ => none
  | _, _, _ => none
 | _ => none
theorem iaF_ok {c : C4} {α : Type} [Inhabited α] {V : Vn α} {xs : List α} : EvOk c (iaF V xs) := by
 intro b L H n op cs r H' n' hB h hc dst T pos af g hdr hd
 unfold iaF at h
 split at h
 ·rename_i X x ix; split at h
  ·rename_i l k i m A hx hix hX; split at h
   ·rename_i hs hag; cases h
    obtain ⟨c1, c2⟩ := allP_cons hc
    obtain ⟨c2, c3⟩ := allP_cons c2
    have c3 : inb i xs.length = true := c3
    subst c1
    cases dst with
    | none => simp at hdr
    | some d =>
     refine ⟨rfl, OT.ofTX hd fun ρ F Fx o Lr hLr Q hk => ?_⟩
     obtain ⟨vx, x1, x2⟩ := evS_ok o.dens hx
     obtain ⟨vi, y1, y2⟩ := evS_ok o.dens hix
     rw [SV.den] at y1; cases y1
     rw [SV.den, dens_map] at x1; cases x1
     exact TX.indexArr1 (V := V.val) (xs := xs) (hB.t.und.mem _ (lk_mem hX)) (hB.t.siz.mem _ (lk_mem hs)) (hB.t.agg.mem _ (lk_mem hag)) (ev_ext hLr x2) (ev_ext hLr y2) c2 c3 hd (hk ρ F _ o.grow0 (by rw [Option.getD_some]; exact V.ok ρ _) o.reps)
   ·cases h
  ·cases h
 ·cases h
def Ev.ia {c : C4} {α : Type} [Inhabited α] (V : Vn α) (xs : List α) : Ev c := .ot (iaF V xs) iaF_ok
end Go.HW
namespace Go.HW
open Go Go.RowKit
set_option linter.unusedVariables false
def LensB {σ α : Type} (N : En α) (e b T : Nat) (get : σ → List α) (put : List α → σ → σ) (J : σ → Blocks → Prop) : Prop :=
 ∀ s Hs, J s Hs → ∃ sp n cap row X, Hs.Perm ((b, .cells #[.slice sp n cap] T) :: (row ++ X)) ∧ (get s).length = n ∧ OwnL N e sp cap (get s) row ∧
  ∀ sp' n' cap' row' xs', xs'.length = n' → OwnL N e sp' cap' xs' row' → ∃ Hs', J (put xs' s) Hs' ∧ Hs'.Perm ((b, .cells #[.slice sp' n' cap'] T) :: (row' ++ X))
def LensI {σ α : Type} (N : En α) (e b T : Nat) (get : σ → List α) (put : List α → σ → σ) (I : σ → Hp → Prop) : Prop :=
 ∀ s H, I s H → ∃ sp n cap row X, H.all.Perm ((b, .cells #[.slice sp n cap] T) :: (row ++ X)) ∧ (get s).length = n ∧ OwnL N e sp cap (get s) row ∧
  ∀ sp' n' cap' row' xs', xs'.length = n' → OwnL N e sp' cap' xs' row' → ∃ H', I (put xs' s) H' ∧ H'.all.Perm ((b, .cells #[.slice sp' n' cap'] T) :: (row' ++ X))
theorem lens_comp {σ α : Type} {N : En α} {e b T : Nat} {get : σ → List α} {put : List α → σ → σ} {I : σ → Hp → Prop} {J : σ × Nat → Blocks → Prop} (hI : LensI N e b T get put I) (hJ : JDec I J) :
  LensB N e b T (fun s : σ × Nat => get s.1) (fun xs s => (put xs s.1, s.2)) J := by
 rintro ⟨s, m⟩ Hs hj
 obtain ⟨H', X, hi, hp, hback⟩ := hJ s m Hs hj
 obtain ⟨sp, n, cap, row, Y, h1, h2, h3, h4⟩ := hI s H' hi
 have mv : ∀ (q : Nat × Obj) (row' : Blocks), (X ++ (q :: (row' ++ Y))).Perm (q :: (row' ++ (Y ++ X))) := fun q row' => by
  refine (List.perm_append_comm).trans ?_
  simp only [List.cons_append, List.append_assoc]
  exact List.Perm.refl _
 refine ⟨sp, n, cap, row, Y ++ X, hp.trans ((List.Perm.append_left X h1).trans (mv _ _)), h2, h3, fun sp' n' cap' row' xs' h5 h6 => ?_⟩
 obtain ⟨H'', h7, h8⟩ := h4 sp' n' cap' row' xs' h5 h6
 obtain ⟨Hs', h9, h10⟩ := hback _ _ h7
 exact ⟨Hs', h9, h10.trans ((List.Perm.append_left X h8).trans (mv _ _))⟩
end Go.HW
namespace Go.HW
end Go.HW
namespace Go.HW
end Go.HW
namespace Go.HW
open Go Go.RowKit
set_option linter.unusedVariables false
section
variable {P : Program} {w0 : World} {R0 : List Nat} {N : Nat} {ds : List Deferred} {ρ0 : Env} {m : Nat}
theorem RF2 {σ α β : Type} [Inhabited β] {k : FuncId} {Nt : Et β} {eR T T2 : TypeId} {g : Operand} (ps : List Nat) {assign body : Code} {K : List Fr} {Q : Exit → Act → World → Prop} {L : SL} {n : Nat}
  (Y : Yn α) (get : σ → List β) (put : List β → σ → σ) (TR : σ → SH) (RD : SH) (np : Nat) (ti tS tR : Nat) (stepB : σ → α → Option (σ × Nat)) (s0 s1 : σ) (m1 : Nat)
  (hk : ∀ (args : Array Value) (w : World), (callFunc k args).run P w = .ok (.enter k args) w)
  (hg : evS L g = some (.fn (.func k) [] [.p ti 0])) (hn : n = tR + 1) (hgp : ∀ xs s, get (put xs s) = xs ∧ TR (put xs s) = TR s)
  (hb : (Nat.ble m np && Nat.ble np n && Nat.blt ti np && Nat.blt tS np && Nat.ble np tR && ltL np L && ltH np RD && allRd RD && ps.all (fun p => Nat.blt p N)) = true)
  (hlen : ∀ l x, (Y.val l x).length = ps.length) (hYP : ∀ l, Y.P l) (hT : ∀ s, (ltH tR (TR s) && allOwn (TR s)) = true)
  (hI : ∀ (yv : Value) (J : σ × Nat → Blocks → Prop), ConY P k [.v yv, .p 0 0] [(0, .cells T [.p 1 0]), (2, .bx (J (s0, 0)))] 3 (.tu []) [(0, .cells T [.p 1 0]), (2, .bx (J (s1, m1)))] 3 (fun w R ρ => YldY P w R ρ 0 yv J Y (stepR stepB) goR ∧ ∃ b, blkOf (ρ 1) = some b ∧ LensB Nt.toEn eR b T2 (fun s : σ × Nat => get s.1) (fun xs s => (put xs s.1, s.2)) J))
  (hr : RoundsY P w0 R0 N ps assign body Y (fun s => (tS, .cells T2 [.sl tR]) :: (tR, .row Nt eR (get s) (get s).length .unk) :: TR s) RD L np n ti stepB)
  (hq : ∀ r, G4 ⟨⟨P, none, w0, R0, N, { target := .collected r, args := #[] } :: ds⟩, ρ0, m⟩ Q (.exit (exitOf m1) K) ⟨L, (n, .bx (fun f => f = [(r, .deferred (some []))])) :: ((tS, .cells T2 [.sl tR]) :: (tR, .row Nt eR (get s1) (get s1).length .unk) :: TR s1 ++ RD), n + 1⟩) :
  G4 ⟨⟨P, none, w0, R0, N, ds⟩, ρ0, m⟩ Q (.code (.rangeFunc g ps.toArray assign body) K) ⟨L, (ti, .cells T [.p tS 0]) :: ((tS, .cells T2 [.sl tR]) :: (tR, .row Nt eR (get s0) (get s0).length .unk) :: TR s0 ++ RD), n⟩ := by
 simp only [Bool.and_eq_true] at hb
 obtain ⟨⟨⟨⟨⟨⟨⟨⟨b1, b2⟩, b3⟩, b4⟩, b9⟩, b5⟩, b6⟩, b7⟩, b8⟩ := hb
 have b9 := Nat.le_of_ble_eq_true b9
 subst hn
 let TS : σ → SH := (fun s => (tS, .cells T2 [.sl tR]) :: (tR, .row Nt eR (get s) (get s).length .unk) :: TR s)
 have b1 := Nat.le_of_ble_eq_true b1
 have b2 := Nat.le_of_ble_eq_true b2
 have b3 : ti < np := by simpa [Nat.blt_eq] using b3
 have b4 : tS < np := by simpa [Nat.blt_eq] using b4
 have hR1' := fun s => (Bool.and_eq_true _ _ ▸ hT s).1
 have hR2' := fun s => (Bool.and_eq_true _ _ ▸ hT s).2
 have hT1 : ∀ s, ltH (tR + 1) (TS s) = true := fun s => by
  have : ltH (tR + 1) (TR s) = true := by
   have key : ∀ {H : SH}, ltH tR H = true → ltH (tR + 1) H = true := by
    intro H
    induction H with
    | nil => intro _; rfl
    | cons p H ih =>
     obtain ⟨t, b⟩ := p
     intro h
     simp only [ltH, Bool.and_eq_true, Nat.blt_eq] at h ⊢
     exact ⟨⟨by omega, Blk.lt_le (by omega) h.1.2⟩, ih h.2⟩
   exact key (hR1' s)
  show (Nat.blt tS (tR + 1) && (Blk.cells T2 [.sl tR]).lt (tR + 1) && (Nat.blt tR (tR + 1) && true && ltH (tR + 1) (TR s))) = true
  rw [this]
  simp only [Bool.and_eq_true, Nat.blt_eq, Blk.lt, SV.lts, SV.lt]
  refine ⟨⟨by omega, by omega, trivial⟩, ⟨by omega, trivial⟩, trivial⟩
 have hT2 : ∀ s, allOwn (TS s) = true := fun s => by
  show (true && (true && allOwn (TR s))) = true
  rw [hR2' s]; rfl
 intro ρ F a w hs
 obtain ⟨f0, F1, rfl, ⟨b, us, q1, q2, rfl⟩, hR1⟩ := hs.ok.reps
 obtain ⟨FT, FR, rfl, r1, r2⟩ := Reps.append.1 hR1
 have hFR := Reps.rdNil b7 r2
 have hbS : ∃ bS, blkOf (ρ tS) = some bS := by
  obtain ⟨_, _, _, ⟨bS, _, h1, _⟩, _⟩ := r1
  exact ⟨bS, h1⟩
 obtain ⟨bS, hbS⟩ := hbS
 have hus : us = [.pointer (some ⟨bS, 0, none⟩)] := by
  have e : SV.dens ρ [.p tS 0] = some [.pointer (some ⟨bS, 0, none⟩)] := denAll_dens (l := [.p tS 0]) ⟨by rw [SV.den, hbS]; rfl, trivial⟩
  rw [e] at q2; exact (Option.some.inj q2).symm
 subst hus
 obtain ⟨vg, g1, g2⟩ := evS_ok hs.ok.dens hg
 have hvg : vg = .func (.func k) #[] #[.pointer (some ⟨b, 0, none⟩)] := by
  have e : SV.dens ρ [.p ti 0] = some [.pointer (some ⟨b, 0, none⟩)] := denAll_dens (l := [.p ti 0]) ⟨by rw [SV.den, q1]; rfl, trivial⟩
  rw [SV.den, dens_nil, e] at g1; simpa using g1.symm
 subst hvg
 have s2 : Sat ⟨P, none, w0, R0, N, ds⟩ (realL ρ L) ⟨[], [(b, .cells #[.pointer (some ⟨bS, 0, none⟩)] T (0, 0))] :: FT⟩ a w := by
  refine hs.sat.perm ?_
  simp only [Hp.all, List.nil_append, List.flatten_cons, List.flatten_append, hFR, List.append_nil]
  exact List.Perm.refl _
 refine TC.rangeO (is := []) (js := [0]) (E := []) (S := [(b, .cells #[.pointer (some ⟨bS, 0, none⟩)] T (0, 0))] :: FT) (fi := []) (ca := [.pointer (some ⟨b, 0, none⟩)]) ps
  (fun s H' => ∃ ρ' F', (∀ t, t < np → ρ' t = ρ t) ∧ (∀ t, (tR + 1) ≤ t → ρ' t = none) ∧ Reps (⟨P, none, w0, R0, N, ds⟩ : Cx) ρ' (TS s) F' ∧ H' = ⟨[], F'⟩)
  (Y.val ((ρ ti).getD ⟨none, 0, 0⟩)) stepB s0 s1 m1 hk g2 b8 (hlen _) rfl rfl ⟨ρ, FT, fun _ _ => rfl, hs.ok.fr, r1, rfl⟩ ?_ ?_ ?_ a w s2
 ·-- the iterator
  intro w1 yv J Hs0 hdec hx hok hy hJ
  obtain ⟨lt, hlt⟩ : ∃ l, ρ ti = some l := by
   cases h : ρ ti with
   | none => rw [h] at q1; cases q1
   | some l => exact ⟨l, rfl⟩
  have hall : (⟨[], [[(b, .cells #[.pointer (some ⟨bS, 0, none⟩)] T (0, 0))], Hs0]⟩ : Hp).all = (⟨[], [[(b, .cells #[.pointer (some ⟨bS, 0, none⟩)] T (0, 0))]] ++ [Hs0]⟩ : Hp).all := by simp [Hp.all]
  have hfl : ([[(b, Obj.cells #[.pointer (some ⟨bS, 0, none⟩)] T (0, 0))], Hs0] : List Blocks).flatten = (⟨[], [[(b, .cells #[.pointer (some ⟨bS, 0, none⟩)] T (0, 0))]] ++ [Hs0]⟩ : Hp).all := by simp [Hp.all]
  let ρc : Env := fun t => if t = 0 then ρ ti else if t = 1 then ρ tS else if t = 2 then some ⟨none, 0, 0⟩ else none
  have c0' : ρc 0 = ρ ti := rfl
  have c1' : ρc 1 = ρ tS := rfl
  have c2' : ρc 2 = some ⟨none, 0, 0⟩ := rfl
  have d1 : SV.dens ρc [.p 1 0] = some [.pointer (some ⟨bS, 0, none⟩)] := denAll_dens (l := [.p 1 0]) ⟨by rw [SV.den, c1', hbS]; rfl, trivial⟩
  have hlens := lens_comp (N := Nt.toEn) (e := eR) (b := bS) (T := T2) (get := get) (put := put) (J := J) (I := fun s H' => ∃ ρ' F', (∀ t, t < np → ρ' t = ρ t) ∧ (∀ t, tR + 1 ≤ t → ρ' t = none) ∧ Reps (⟨P, none, w0, R0, N, ds⟩ : Cx) ρ' (TS s) F' ∧ H' = ⟨[], F'⟩) (by
   rintro s _ ⟨ρ', F', h1, h2, ⟨f1, _, rfl, ⟨b', us', u1, u2, rfl⟩, f2, FX, rfl, ⟨sp, cap, v1, v2, v3, _⟩, v5⟩, rfl⟩
   have hb' : b' = bS := by rw [h1 tS b4, hbS] at u1; exact (Option.some.inj u1).symm
   subst hb'
   have hus' : us' = [.slice sp (get s).length cap] := by
    have : SV.dens ρ' [.sl tR] = some [.slice sp (get s).length cap] := denAll_dens (l := [.sl tR]) ⟨by rw [SV.den, v1]; rfl, trivial⟩
    rw [this] at u2; exact (Option.some.inj u2).symm
   subst hus'
   refine ⟨sp, (get s).length, cap, f2, FX.flatten, by simp [Hp.all], rfl, v3, ?_⟩
   intro sp' n' cap' row' xs' g1 g2
   obtain ⟨g3, g4⟩ := hgp xs' s
   refine ⟨⟨[], [(b', .cells #[.slice sp' n' cap'] T2 (0, 0))] :: row' :: FX⟩, ⟨fun t => if t = tR then some ⟨sp', cap', n'⟩ else ρ' t, _, fun t ht => ?_, fun t ht => ?_, ⟨_, _, rfl, ⟨b', [.slice sp' n' cap'], ?_, ?_, rfl⟩, row', FX, rfl, ⟨sp', cap', ?_, rfl, ?_, trivial⟩, ?_⟩, rfl⟩, by simp [Hp.all]⟩
   ·simp only [show t ≠ tR from by omega, if_false]; exact h1 t ht
   ·simp only [show t ≠ tR from by omega, if_false]; exact h2 t ht
   ·simp only [show tS ≠ tR from by omega, if_false]; exact u1
   ·exact denAll_dens (l := [.sl tR]) ⟨by rw [SV.den]; simp, trivial⟩
   ·simp [g3, g1]
   ·rw [g3]; exact g2
   ·rw [g4]
    exact Reps.ownTr (n := tR) (fun t ht => by simp [show t ≠ tR from by omega]) (hR2' s) (hR1' s) v5) hdec
  have hret := hI yv J w1 ρc [[(b, .cells #[.pointer (some ⟨bS, 0, none⟩)] T (0, 0))], Hs0] [yv, .pointer (some ⟨b, 0, none⟩)] (denAll_dens (l := [.v yv, .p 0 0]) (r := [yv, .pointer (some ⟨b, 0, none⟩)]) ⟨by rw [SV.den], by rw [SV.den, c0', q1]; rfl, trivial⟩)
   ⟨_, _, rfl, ⟨b, _, by rw [c0']; exact q1, d1, rfl⟩, _, _, rfl, ⟨⟨_, c2'⟩, hJ⟩, rfl⟩
   (fun t ht => by simp only [ρc]; rw [if_neg (by omega), if_neg (by omega), if_neg (by omega)]) (by rw [hfl]; exact hok.1) (by rw [hfl]; exact hok.2) (by rw [hfl]; exact ⟨⟨lt, by rw [c0']; exact hlt, hYP _, by rw [hlt] at hy; exact hy⟩, bS, by rw [c1']; exact hbS, hlens⟩)
  refine Ret.mono (Ret.all hret hall) ?_
  rintro v R' ⟨cc, ρ', F', rfl, hgr, _, f1, F2, rfl, ⟨b', us', p1, p2, rfl⟩, f3, F3, rfl, ⟨_, hJ1⟩, hnil⟩
  have hnil : F3 = [] := hnil
  subst hnil
  have eb : b' = b := by rw [hgr.old 0 (by omega), c0', q1] at p1; exact (Option.some.inj p1).symm
  subst eb
  have eu : us' = [.pointer (some ⟨bS, 0, none⟩)] := by
   have : SV.dens ρ' [.p 1 0] = some [.pointer (some ⟨bS, 0, none⟩)] := denAll_dens (l := [.p 1 0]) ⟨by rw [SV.den, hgr.old 1 (by omega), c1', hbS]; rfl, trivial⟩
   rw [this] at p2; exact (Option.some.inj p2).symm
  subst eu
  exact ⟨f3, hJ1, rfl⟩
 ·-- the rounds
  rintro l r lr w' R s x s' mm _ Rr hrdy hst ⟨ρ', F', h1, h2, h3, rfl⟩ hx hcont a2 w2 sat2
  have hL1 : DensL ρ' L := by
   have : ∀ {L : SL}, ltL np L = true → DensL ρ L → DensL ρ' L := by
    intro L
    induction L with
    | nil => intro _ _; trivial
    | cons p L ih =>
     obtain ⟨t, y⟩ := p
     rintro hl ⟨⟨v, hv⟩, hd⟩
     simp only [ltL, Bool.and_eq_true] at hl
     exact ⟨⟨v, by rw [SV.lt_den (fun u hu => (h1 u hu).symm) hl.1]; exact hv⟩, ih hl.2 hd⟩
   exact this b5 hs.ok.dens
  have hL2 : realL ρ' L = realL ρ L := by
   have : ∀ {L : SL}, ltL np L = true → realL ρ' L = realL ρ L := by
    intro L
    induction L with
    | nil => intro _; rfl
    | cons p L ih =>
     obtain ⟨t, y⟩ := p
     intro hl
     simp only [ltL, Bool.and_eq_true] at hl
     simp only [realL, SV.lt_den (fun u hu => (h1 u hu).symm) hl.1, ih hl.2]
   exact this b5
  have hle : Env.le ρ' (ρ'.set (tR + 1) ⟨none, 0, 0⟩) := (Env.set_grow h2).toLe h2
  obtain ⟨i1, i2⟩ := argPS_ok (ps := ps) (L := L) (Y.ok (ρ'.set (tR + 1) ⟨none, 0, 0⟩) ti ((ρ ti).getD ⟨none, 0, 0⟩) x (hle _ _ (by rw [h1 ti b3]; cases h : ρ ti with | none => (rw [h] at q1; cases q1) | some l => rfl)) (hYP _)) (hL1.mono hle)
  rw [realL_mono hle hL1, hL2] at i2
  have hx2 : ExtB w0 R0 w' R := hx
  refine hr l w' R ρ (fun f => f = [(l, .loop lr), (r, .deferred (some []))]) (fun f => f = [(l, .loop { lr with state := .busy }), (r, .deferred (some []))]) (RndQ P l body Rr) (roundPost P l Rr) s x s' mm hst ?_ ?_
   (ρ'.set (tR + 1) ⟨none, 0, 0⟩) ([(l, .loop lr), (r, .deferred (some []))] :: (F' ++ FR)) a2 w2 ⟨⟨i1, ⟨_, _, rfl, ⟨⟨_, Env.set_self⟩, rfl⟩, Reps.append.2 ⟨F', FR, rfl, ?_, ?_⟩⟩, ?_, ?_, ?_⟩, ?_⟩
  ·intro L' H' n' hlk hbody ρ3 F3 a3 w3 s3
   obtain ⟨FA3, f, FB3, rfl, ⟨hloc, rfl⟩, hrep, _⟩ := s3.ok.reps.look hlk
   have hhp : w3.heap[l]? = some (.loop lr) := s3.sat.heap (l, .loop lr) (by simp [Hp.all])
   refine ⟨_, beginRound_run hhp hrdy, hbody ρ3 (FA3 ++ [(l, .loop { lr with state := .busy }), (r, .deferred (some []))] :: FB3) a3 _ ⟨⟨s3.ok.dens, hrep ρ3 (tR + 1) (.bx _) _ (Env.le_refl _) ⟨hloc, rfl⟩, s3.ok.fr, s3.ok.pin, s3.ok.mle⟩, ?_⟩⟩
   exact s3.sat.setBlockG (o := .loop lr) (A := FA3.flatten) (B := (r, .deferred (some [])) :: FB3.flatten) (by simp [Hp.all]) (by simp [Hp.all])
  ·intro st hi ρ3 F3 a3 w3 s3
   obtain ⟨ρ4, F4, s4⟩ := hi ρ3 F3 a3 w3 s3
   obtain ⟨fX, F5, rfl, ⟨_, rfl⟩, hR5⟩ := s4.ok.reps
   refine hcont [] ⟨[], F5⟩ ⟨fun t => if t < (tR + 1) then ρ4 t else none, F5, ?_, ?_, ?_, rfl⟩ a3 w3 ?_
   ·intro t ht
    have : t < (tR + 1) := by omega
    simp only [this, if_true]; exact s4.ok.pin t ht
   ·intro t ht
    simp only [show ¬ t < (tR + 1) from by omega, if_false]
   ·exact Reps.ownTr (n := (tR + 1)) (fun t ht => by simp [ht]) (hT2 s') (hT1 s') hR5
   ·refine ⟨s4.sat.size, s4.sat.defers, fun t v h => by simp [look] at h, s4.sat.ext, ?_, ?_, ?_⟩
    ·simpa [Hp.all] using s4.sat.nodup
    ·intro p hp; exact s4.sat.heap p (by simpa [Hp.all] using hp)
    ·intro p hp; exact s4.sat.own p (by simpa [Hp.all] using hp)
  ·exact Reps.ownTr (n := (tR + 1)) (fun t ht => by simp [Env.set, Nat.ne_of_lt ht]) (hT2 s) (hT1 s) h3
  ·exact Reps.rdTr (np := np) hx2 (fun t ht => by simp [Env.set, Nat.ne_of_lt (Nat.lt_of_lt_of_le ht b2), h1 t ht]) b7 b6 r2
  ·intro t ht; simp only at ht; simp only [Env.set, show t ≠ (tR + 1) from by omega, if_false]; exact h2 t (by omega)
  ·intro t ht; simp only at ht; simp only [Env.set, show t ≠ (tR + 1) from by omega, if_false]; exact h1 t ht
  ·show np ≤ (tR + 1) + 1; omega
  ·have : Sat ⟨P, some l, w', R, N, []⟩ (realL (ρ'.set (tR + 1) ⟨none, 0, 0⟩) (argPS ps (Y.sv ti x) L)) ⟨[], [(l, .loop lr), (r, .deferred (some []))] :: (F' ++ FR)⟩ a2 w2 := by
    rw [i2]
    refine sat2.perm ?_
    simp only [Hp.all, List.nil_append, List.flatten_cons, List.flatten_append, hFR, List.append_nil, List.cons_append]
    exact List.Perm.refl _
   exact this
 ·-- behind it
  rintro r _ ⟨ρ', F', h1, h2, h3, rfl⟩ a2 w2 sat2
  have hL1 : DensL ρ' L ∧ realL ρ' L = realL ρ L := by
   have : ∀ {L : SL}, ltL np L = true → DensL ρ L → DensL ρ' L ∧ realL ρ' L = realL ρ L := by
    intro L
    induction L with
    | nil => intro _ _; exact ⟨trivial, rfl⟩
    | cons p L ih =>
     obtain ⟨t, y⟩ := p
     rintro hl ⟨⟨v, hv⟩, hd⟩
     simp only [ltL, Bool.and_eq_true] at hl
     have hh := SV.lt_den (fun u hu => (h1 u hu).symm) hl.1
     obtain ⟨j1, j2⟩ := ih hl.2 hd
     exact ⟨⟨⟨v, by rw [hh]; exact hv⟩, j1⟩, by simp only [realL, hh, j2]⟩
   exact this b5 hs.ok.dens
  have hle : Env.le ρ' (ρ'.set (tR + 1) ⟨none, 0, 0⟩) := (Env.set_grow h2).toLe h2
  refine hq r (ρ'.set (tR + 1) ⟨none, 0, 0⟩) ([(r, .deferred (some []))] :: (F' ++ FR)) a2 w2 ⟨⟨hL1.1.mono hle, ⟨_, _, rfl, ⟨⟨_, Env.set_self⟩, rfl⟩, Reps.append.2 ⟨F', FR, rfl, Reps.cx (c := ⟨P, none, w0, R0, N, ds⟩) (c' := ⟨P, none, w0, R0, N, { target := .collected r, args := #[] } :: ds⟩) rfl rfl (h3.mono hle), ?_⟩⟩, ?_, ?_, ?_⟩, ?_⟩
  ·exact Reps.rdTr (c := ⟨P, none, w0, R0, N, ds⟩) (np := np) (c' := ⟨P, none, w0, R0, N, { target := .collected r, args := #[] } :: ds⟩) ⟨Ext.refl _ _, fun k hk => .inl hk⟩ (fun t ht => by simp [Env.set, Nat.ne_of_lt (Nat.lt_of_lt_of_le ht b2), h1 t ht]) b7 b6 r2
  ·intro t ht; simp only at ht; simp only [Env.set, show t ≠ (tR + 1) from by omega, if_false]; exact h2 t (by omega)
  ·intro t ht; simp only at ht; simp only [Env.set, show t ≠ (tR + 1) from by omega, if_false]; rw [h1 t (by omega)]; exact hs.ok.pin t ht
  ·show m ≤ (tR + 1) + 1; omega
  ·have : Sat ⟨P, none, w0, R0, N, { target := .collected r, args := #[] } :: ds⟩ (realL (ρ'.set (tR + 1) ⟨none, 0, 0⟩) L) ⟨[], [(r, .deferred (some []))] :: (F' ++ FR)⟩ a2 w2 := by
    rw [realL_mono hle hL1.1, hL1.2]
    refine sat2.weak (fun _ _ h => h) ?_
    simp only [Hp.all, List.nil_append, List.flatten_cons, List.flatten_append, hFR, List.append_nil, List.cons_append, insBs]
    refine List.Sublist.cons_cons _ ?_
    show F'.flatten.Sublist (insB F' 0 [(b, Obj.cells #[.pointer (some ⟨bS, 0, none⟩)] T (0, 0))]).flatten
    have : insB F' 0 [(b, Obj.cells #[.pointer (some ⟨bS, 0, none⟩)] T (0, 0))] = [(b, Obj.cells #[.pointer (some ⟨bS, 0, none⟩)] T (0, 0))] :: F' := by cases F' <;> rfl
    rw [this]
    simp
   exact this
end
end Go.HW
namespace Go.HW
open Go Go.RowKit
section
variable {c : C4} {σ α : Type} [Inhabited α]
def pX (J : σ → Blocks → Prop) (put : List α → σ → σ) (N : Et α) (e b T2 : TypeId) (s : σ) : Blocks → Prop := fun f =>
 ∀ sp' n' cap' row' xs', xs'.length = n' → OwnL N.toEn e sp' cap' xs' row' → ∃ Hs', J (put xs' s) Hs' ∧ Hs'.Perm ((b, .cells #[.slice sp' n' cap'] T2 (0, 0)) :: (row' ++ f))
theorem Imp.openJ {N : Et α} {e b T2 : TypeId} {get : σ → List α} {put : List α → σ → σ} {J : σ → Blocks → Prop} {s : σ} {L : SL} {H : SH} {n : Nat} (hl : LensB N.toEn e b T2 get put J) (hb : blkOf (c.π 1) = some b) (hm : Nat.blt 1 c.m = true)
  (h : lookH H 2 = some (.bx (J s))) : Imp c ⟨L, H, n⟩ ⟨L, (1, .cells T2 [.sl n]) :: (n, .row N e (get s) (get s).length .unk) :: repH H 2 2 (.bx (pX J put N e b T2 s)), n + 1⟩ := by
 have hm : 1 < c.m := by simpa [Nat.blt_eq] using hm
 intro ρ F a w hs
 obtain ⟨FA, f, FB, rfl, ⟨hloc, hJ⟩, hr, _⟩ := hs.ok.reps.look h
 obtain ⟨sp, k, cap, row, X, p1, p2, p3, p4⟩ := hl s f hJ
 subst p2
 have hg := Env.set_grow (ρ := ρ) (n := n) (l := ⟨sp, cap, (get s).length⟩) hs.ok.fr
 have hle := hg.toLe hs.ok.fr
 have hself : ρ.set n ⟨sp, cap, (get s).length⟩ n = some ⟨sp, cap, (get s).length⟩ := Env.set_self
 have hbρ : blkOf (ρ.set n ⟨sp, cap, (get s).length⟩ 1) = some b := blkOf_mono hle (by rw [hs.ok.pin 1 hm]; exact hb)
 refine ⟨_, [(b, .cells #[.slice sp (get s).length cap] T2 (0, 0))] :: row :: (FA ++ X :: FB), ⟨⟨hs.ok.dens.mono hle, ⟨_, _, rfl, ⟨b, [.slice sp (get s).length cap], hbρ, denAll_dens (l := [.sl n]) ⟨by rw [SV.den, hself]; rfl, trivial⟩, rfl⟩, row, _, rfl, ⟨sp, cap, hself, rfl, p3, trivial⟩, hr _ 2 (.bx (pX J put N e b T2 s)) X hle ⟨?_, p4⟩⟩, hg.fr, fun t ht => ?_, Nat.le_succ_of_le hs.ok.mle⟩, ?_⟩⟩
 ·obtain ⟨l, hl⟩ := hloc; exact ⟨l, hle _ _ hl⟩
 ·have := hs.ok.mle
  rw [hg.old t (by simp only at this; omega)]; exact hs.ok.pin t ht
 ·rw [realL_mono hle hs.ok.dens]
  refine hs.sat.perm ?_
  simp only [Hp.all, List.nil_append, List.flatten_append, List.flatten_cons, List.cons_append]
  have k1 : (FA.flatten ++ (f ++ FB.flatten)).Perm (f ++ (FA.flatten ++ FB.flatten)) := by
   rw [← List.append_assoc, ← List.append_assoc]; exact List.Perm.append_right _ List.perm_append_comm
  refine List.Perm.trans ?_ (k1.trans (List.Perm.append_right _ p1)).symm
  simp only [List.cons_append, List.append_assoc]
  refine List.Perm.cons _ (List.Perm.append_left _ ?_)
  rw [← List.append_assoc, ← List.append_assoc]; exact List.Perm.append_right _ List.perm_append_comm
theorem Imp.closeJ {N : Et α} {e b T2 : TypeId} {put : List α → σ → σ} {J : σ → Blocks → Prop} {s s' : σ} {xs : List α} {u m : Nat} {kk : NK} {L : SL} {H : SH} {n : Nat} (hb : blkOf (c.π 1) = some b) (hm : Nat.blt 1 c.m = true)
  (h1 : lookH H 1 = some (.cells T2 [.sl u])) (h2 : lookH (delH H 1) u = some (.row N e xs m kk)) (h3 : lookH (delH (delH H 1) u) 2 = some (.bx (pX J put N e b T2 s))) (hs' : put xs s = s') :
  Imp c ⟨L, H, n⟩ ⟨L, repH (delH (delH H 1) u) 2 2 (.bx (J s')), n⟩ := by
 subst hs'
 have hm : 1 < c.m := by simpa [Nat.blt_eq] using hm
 intro ρ F a w hs
 obtain ⟨FA, f, FB, rfl, ⟨b', us, u1, u2, rfl⟩, _, d1⟩ := hs.ok.reps.look h1
 have eb : b' = b := by rw [hs.ok.pin 1 hm, hb] at u1; exact (Option.some.inj u1).symm
 subst eb
 obtain ⟨FA2, f2, FB2, e2, ⟨sp, cap, v1, v2, v3, _⟩, _, d2⟩ := d1.look h2
 have hus : us = [.slice sp m cap] := by
  have : SV.dens ρ [.sl u] = some [.slice sp m cap] := denAll_dens (l := [.sl u]) ⟨by rw [SV.den, v1]; rfl, trivial⟩
  rw [this] at u2; exact (Option.some.inj u2).symm
 subst hus
 obtain ⟨FA3, f3, FB3, e3, ⟨hloc, hp⟩, hr, _⟩ := d2.look h3
 obtain ⟨Hs', hJ, hperm⟩ := hp sp m cap f2 xs v2 v3
 refine ⟨ρ, FA3 ++ Hs' :: FB3, ⟨⟨hs.ok.dens, hr ρ 2 (.bx (J (put xs s))) Hs' (Env.le_refl _) ⟨hloc, hJ⟩, hs.ok.fr, hs.ok.pin, hs.ok.mle⟩, hs.sat.perm ?_⟩⟩
 simp only [Hp.all, List.nil_append, List.flatten_append, List.flatten_cons, List.cons_append]
 have mv : ∀ (X Y Z : Blocks), (X ++ (Y ++ Z)).Perm (Y ++ (X ++ Z)) := fun X Y Z => by
  rw [← List.append_assoc, ← List.append_assoc]; exact List.Perm.append_right _ List.perm_append_comm
 refine (mv _ _ _).trans ((List.Perm.append_right _ hperm).trans ?_)
 have k1 : (FA.flatten ++ (b', Obj.cells [Value.slice sp m cap].toArray T2 (0, 0)) :: FB.flatten).Perm ((b', Obj.cells #[.slice sp m cap] T2 (0, 0)) :: (FA ++ FB).flatten) := by
  rw [List.flatten_append]; exact List.perm_middle
 refine List.Perm.trans ?_ k1.symm
 rw [e2]
 simp only [List.cons_append, List.flatten_append, List.flatten_cons, List.append_assoc]
 refine List.Perm.cons _ ?_
 refine List.Perm.trans ?_ (mv _ _ _).symm
 refine List.Perm.append_left _ ?_
 have k2 : FA2.flatten ++ FB2.flatten = FA3.flatten ++ (f3 ++ FB3.flatten) := by
  have := congrArg List.flatten e3
  simpa using this
 rw [k2]
 exact (mv _ _ _).symm
end
end Go.HW
namespace Go.HW
open Go Go.RowKit
theorem ssEq {t sz m : Nat} {h : Int} {x y : SV} (hk : sliceOk ((0 : Nat) : Int) h m = true) (e : x = y) : [SV.ss t ((0 : Nat) : Int).toNat sz (h.toNat - ((0 : Nat) : Int).toNat), x] = [SV.ss t 0 sz (min h.toNat m), y] := by
 have := sliceOk_iff.1 hk
 subst e
 have e2 : h.toNat - ((0 : Nat) : Int).toNat = min h.toNat m := by simp; omega
 rw [e2]; rfl
end Go.HW
namespace Go.HW
open Go Go.RowKit
set_option linter.unusedVariables false
inductive AH : Type where
 | i (k : IntKind) (n : Nat) (y y' : Ar Int n)
 | b (n : Nat) (y y' : Ar Bool n)
def eqL {α : Type} [BEq α] : List α → List α → Bool
 | x :: l, y :: r => (x == y) && eqL l r
 | _, _ => true
def isArs : List SV → Bool
 | [@SV.ar _ _ _ _ _] => true
 | _ => false
mutual
def eqT (t : Tab) (e : ETab) : Nat → TypeId → Bool → List SV → List SV → List AH → Option (List Prop × Bool × List AH)
 | 0, _, _, _, _, _ => none
 | n + 1, T, g, xs, ys, hs => match lk t.und T, g, isArs xs with
  | some (.struct fs), true, false => bif hasN e.held T then eqTF t e n fs.toList xs ys hs else none
  | some (.array m A), true, true => match hs, lk t.und A, lk t.siz A, lk t.agg A with
   | .i k n' y y' :: hs', some (.int _), some 1, some false => bif Nat.beq m n' then some ([xs = [.ar (En.int k) n' y], ys = [.ar (En.int k) n' y']], eqL y.l y'.l, hs') else none
   | .b n' y y' :: hs', some .bool, some 1, some false => bif Nat.beq m n' then some ([xs = [.ar En.bool n' y], ys = [.ar En.bool n' y']], eqL y.l y'.l, hs') else none
   | _, _, _, _ => none
  | _, _, _ => match eqS t e (n + 1) T g xs ys with | some b => some ([], b, hs) | none => none
def eqTF (t : Tab) (e : ETab) : Nat → List Field → List SV → List SV → List AH → Option (List Prop × Bool × List AH)
 | 0, _, _, _, _ => none
 | n + 1, [], xs, ys, hs => some ([], true, hs)
 | n + 1, f :: fs, xs, ys, hs => match lk t.siz f.type, lk t.agg f.type with
  | some k, some g => match cutI xs f.offset k, cutI ys f.offset k with
   | some a, some b => bif f.name == "_" then none else (match eqT t e n f.type g a b hs with
    | some (c1, p, hs1) => match eqTF t e n fs xs ys hs1 with
     | some (c2, q, hs2) => some (appPr c1 c2, p && q, hs2)
     | none => none
    | none => none)
   | _, _ => none
  | _, _ => none
end
theorem fm1 {α β : Type} (f : α → β) : ∀ l : List α, l.flatMap (fun x => [f x]) = l.map f
 | [] => rfl
 | x :: l => by rw [List.flatMap_cons, fm1 f l]; rfl
section
variable {P : Program} {ρ : Env}
theorem eqA_of {A : TypeId} {α : Type} [BEq α] {V : α → Value} (he : ∀ a b, EqOk P 1 A (V a) (V b) (a == b)) (ha : ∀ w, (isAgg A).run P w = .ok false w) : ∀ (l r : List α) (pa pb : List Value), l.length = r.length → pa.length = pb.length →
  EqA P 1 A 1 (pa ++ l.map V) (pb ++ r.map V) pa.length l.length (eqL l r)
 | [], [], pa, pb, _, _ => .nil
 | x :: l, y :: r, pa, pb, h1, h2 => by
  have h3 := eqA_of he ha l r (pa ++ [V x]) (pb ++ [V y]) (by simpa using h1) (by simp [h2])
  simp only [List.append_assoc, List.length_append, List.length_cons, List.length_nil, List.cons_append, List.nil_append] at h3
  refine .cons (PartOk.one ha ?_) (PartOk.one ha ?_) (he x y) h3
  ·rw [getL_eq]; simp
  ·rw [getL_eq, h2]; simp
 | [], _ :: _, _, _, h, _ => by simp at h
 | _ :: _, [], _, _, h, _ => by simp at h
theorem eqT_na {t : Tab} {e : ETab} {n : Nat} {T : TypeId} {xs ys : List SV} {hs hs' : List AH} {cs : List Prop} {b : Bool} (h : eqT t e n T false xs ys hs = some (cs, b, hs')) : (∃ x, xs = [x] ∧ isAr x = false) ∧ ∃ y, ys = [y] ∧ isAr y = false := by
 cases n with
 | zero => simp [eqT] at h
 | succ n =>
  unfold eqT at h; split at h
  ·rename_i h1 _; cases h1
  ·rename_i h1 _; cases h1
  ·split at h
   ·rename_i hb; exact eqS_na hb
   ·cases h
mutual
theorem eqT_ok {t : Tab} {e : ETab} (ht : TabOk P t) (he : ETabOk P e) : ∀ {n : Nat} {T : TypeId} {g : Bool} {xs ys : List SV} {hs hs' : List AH} {cs : List Prop} {us vs : List Value} {b : Bool}, eqT t e n T g xs ys hs = some (cs, b, hs') → allP cs → SV.dens ρ xs = some us → SV.dens ρ ys = some vs → EqOk P (n + 1) T (valU g us) (valU g vs) b
 | 0, T, g, xs, ys, hs, hs', cs, us, vs, b, h, _, _, _ => by simp [eqT] at h
 | n + 1, T, g, xs, ys, hs, hs', cs, us, vs, b, h, hc, hx, hy => by
  have tu : ∀ {k : Nat} {d : TypeDesc}, lk t.und k = some d → ∀ w, (underlying k).run P w = .ok d w := fun h => ht.und.mem _ (lk_mem h)
  unfold eqT at h; split at h
  ·rename_i fs hu _
   cases hh : hasN e.held T with
   | false => rw [hh] at h; cases h
   | true =>
    rw [hh, cond_true] at h
    have := eqTF_ok ht he h hc hx hy
    exact EqOk.struct (fs := fs.toList) (tu hu) (he.held.mem _ (hasN_mem hh)) this
  ·rename_i m A hu _; split at h
   ·rename_i k n' y y' hs'' k0 hA hs1 hg
    cases hb : Nat.beq m n' with
    | false => rw [hb] at h; cases h
    | true =>
     rw [hb, cond_true] at h; cases h
     have := Nat.eq_of_beq_eq_true hb; subst this
     obtain ⟨c1, c2⟩ := allP_cons hc
     have c2 : ys = [.ar (En.int k) m y'] := c2
     subst c1; subst c2
     have e1 : us = y.l.map (.int k) := by
      have := dens_a1 (ρ := ρ) (N := En.int k) (x := y) dens_nil
      rw [this] at hx; rw [← Option.some.inj hx, List.append_nil]; exact fm1 _ _
     have e2 : vs = y'.l.map (.int k) := by
      have := dens_a1 (ρ := ρ) (N := En.int k) (x := y') dens_nil
      rw [this] at hy; rw [← Option.some.inj hy, List.append_nil]; exact fm1 _ _
     subst e1; subst e2
     have := eqA_of (V := .int k) (fun a b => EqOk.int (k := k) (tu hA)) (ht.agg.mem _ (lk_mem hg)) y.l y'.l [] [] (by rw [y.h, y'.h]) rfl
     rw [y.h] at this
     exact (EqOk.array (tu hu) (ht.siz.mem _ (lk_mem hs1)) this).up (Nat.ble_eq_true_of_le (by omega))
   ·rename_i n' y y' hs'' hA hs1 hg
    cases hb : Nat.beq m n' with
    | false => rw [hb] at h; cases h
    | true =>
     rw [hb, cond_true] at h; cases h
     have := Nat.eq_of_beq_eq_true hb; subst this
     obtain ⟨c1, c2⟩ := allP_cons hc
     have c2 : ys = [.ar En.bool m y'] := c2
     subst c1; subst c2
     have e1 : us = y.l.map .bool := by
      have := dens_a1 (ρ := ρ) (N := En.bool) (x := y) dens_nil
      rw [this] at hx; rw [← Option.some.inj hx, List.append_nil]; exact fm1 _ _
     have e2 : vs = y'.l.map .bool := by
      have := dens_a1 (ρ := ρ) (N := En.bool) (x := y') dens_nil
      rw [this] at hy; rw [← Option.some.inj hy, List.append_nil]; exact fm1 _ _
     subst e1; subst e2
     have := eqA_of (V := .bool) (fun a b => EqOk.bool (tu hA)) (ht.agg.mem _ (lk_mem hg)) y.l y'.l [] [] (by rw [y.h, y'.h]) rfl
     rw [y.h] at this
     exact (EqOk.array (tu hu) (ht.siz.mem _ (lk_mem hs1)) this).up (Nat.ble_eq_true_of_le (by omega))
   ·cases h
  ·split at h
   ·rename_i b' hb; cases h
    exact (eqS_ok ht he hb hx hy).up (Nat.ble_eq_true_of_le (by omega))
   ·cases h
theorem eqTF_ok {t : Tab} {e : ETab} (ht : TabOk P t) (he : ETabOk P e) : ∀ {n : Nat} {fs : List Field} {xs ys : List SV} {hs hs' : List AH} {cs : List Prop} {us vs : List Value} {b : Bool}, eqTF t e n fs xs ys hs = some (cs, b, hs') → allP cs → SV.dens ρ xs = some us → SV.dens ρ ys = some vs → EqF P (n + 1) us vs fs b
 | 0, fs, xs, ys, hs, hs', cs, us, vs, b, h, _, _, _ => by simp [eqTF] at h
 | n + 1, [], xs, ys, hs, hs', cs, us, vs, b, h, _, hx, hy => by rw [eqTF] at h; cases h; exact .nil
 | n + 1, f :: fs, xs, ys, hs, hs', cs, us, vs, b, h, hc, hx, hy => by
  unfold eqTF at h; split at h
  ·rename_i k g hs1 hg; split at h
   ·rename_i p q hp hq
    cases hn : f.name == "_" with
    | true => rw [hn] at h; cases h
    | false =>
     rw [hn, cond_false] at h; split at h
     ·rename_i c1 b1 hs2 h1; split at h
      ·rename_i c2 b2 hs3 h2; cases h
       obtain ⟨k1, k2⟩ := allP_app hc
       have hna : g = false → (∃ x, p = [x] ∧ isAr x = false) ∧ ∃ y, q = [y] ∧ isAr y = false := fun e => by subst e; exact eqT_na h1
       obtain ⟨u1, a1, a2⟩ := part_of ht hs1 hg hp hx (fun e => (hna e).1)
       obtain ⟨v1, a3, a4⟩ := part_of ht hs1 hg hq hy (fun e => (hna e).2)
       exact .cons hn a2 a4 ((eqT_ok ht he h1 k1 a1 a3).up (Nat.ble_eq_true_of_le (by omega))) ((eqTF_ok ht he h2 k2 hx hy).up (by omega))
      ·cases h
     ·cases h
   ·cases h
  ·cases h
end
end
def eqAF (hs : List AH) : EvF := fun b L H n op => match op with
 | .binOp op X x y yT => match evS L x, evS L y with
  | some (.ag xs), some (.ag ys) => bif hasN b.e.eqg X then (match op, eqT b.t b.e 999 X true xs ys hs with
   | .eql, some (cs, r, []) => some (cs, some (.v (.bool r)), H, n)
   | .neq, some (cs, r, []) => some (cs, some (.v (.bool (!r))), H, n)
   | _, _ => none) else none
  | _, _ => none
 | _ => none
theorem eqAF_ok {c : C4} {hs : List AH} : EvOk c (eqAF hs) := by
 intro b L H n op cs r H' n' hB h hc dst T pos af g hdr hd
 unfold eqAF at h
 split at h
 ·rename_i op X x y yT; split at h
  ·rename_i xs ys hx hy
   cases hq : hasN b.e.eqg X with
   | false => rw [hq] at h; cases h
   | true =>
    rw [hq, cond_true] at h
    have key : ∀ (d : Nat) (v : Bool) (o : BinOp), (∀ ρ us vs, SV.dens ρ xs = some us → SV.dens ρ ys = some vs → ∀ (Lr : Slots) (Hp : Hp), ev Lr x = some (.agg us.toArray) → ev Lr y = some (.agg vs.toArray) → QV c ⟨some d, .binOp o X x y yT, T, pos, af, g⟩ Lr Hp (.bool v)) → okD c.n (some d) = true →
      OT c ⟨some d, .binOp o X x y yT, T, pos, af, g⟩ ⟨L, H, n⟩ (.v (.bool v)) H n := by
     intro d v o hq hd
     refine OT.ofTX hd fun ρ F Fx ok Lr hLr Q hk => ?_
     obtain ⟨vx, x1, x2⟩ := evS_ok ok.dens hx
     obtain ⟨vy, y1, y2⟩ := evS_ok ok.dens hy
     rw [SV.den] at x1 y1
     obtain ⟨us, h5, rfl⟩ := Option.map_eq_some_iff.1 x1
     obtain ⟨vs, h6, rfl⟩ := Option.map_eq_some_iff.1 y1
     exact TX.val hd (hq ρ us vs h5 h6 Lr _ (ev_ext hLr x2) (ev_ext hLr y2)) (hk ρ F _ ok.grow0 (by rw [SV.den]) ok.reps)
    split at h
    ·rename_i cs1 r1 hb; cases h
     cases dst with
     | none => simp at hdr
     | some d => exact ⟨rfl, key d r1 _ (fun ρ us vs h5 h6 Lr Hp hx' hy' => QV.aggEq (hB.e.eqg.mem _ (hasN_mem hq)) hx' hy' rfl (eqT_ok hB.t hB.e hb hc h5 h6)) hd⟩
    ·rename_i cs1 r1 hb; cases h
     cases dst with
     | none => simp at hdr
     | some d => exact ⟨rfl, key d (!r1) _ (fun ρ us vs h5 h6 Lr Hp hx' hy' => QV.aggNe (hB.e.eqg.mem _ (hasN_mem hq)) hx' hy' rfl (eqT_ok hB.t hB.e hb hc h5 h6)) hd⟩
    ·cases h
  ·cases h
 ·cases h
def Ev.eq {c : C4} (hs : List AH) : Ev c := .ot (eqAF hs) eqAF_ok
def laF {α : Type} [Inhabited α] (V : Vn α) (N : En α) (off0 j : Nat) {m : Nat} (y : Ar α m) : EvF := fun b L H n op => match op with
 | .load A x => match evS L x, lk b.t.agg A with
  | some (.p t o), some false => match lookH H t with
   | some (.cells T l) => bif Nat.beq o (off0 + j) && Nat.blt j m && Nat.beq N.sz 1 then some ([cutI l off0 m = some [@SV.ar _ _ N m y], N.enc (gt y.l ((j : Nat) : Int)) = [V.val (gt y.l ((j : Nat) : Int))]], some (V.sv (gt y.l ((j : Nat) : Int))), H, n) else none
   | _ => none
  | _, _ => none
 | _ => none
theorem laF_ok {c : C4} {α : Type} [Inhabited α] {V : Vn α} {N : En α} {off0 j m : Nat} {y : Ar α m} : EvOk c (laF V N off0 j y) := by
 intro b L H n op cs r H' n' hB h hc dst T pos af g hdr hd
 unfold laF at h
 split at h
 ·rename_i A x; split at h
  ·rename_i t o0 hx hag; split at h
   ·rename_i T' l hl
    cases hb : Nat.beq o0 (off0 + j) && Nat.blt j m && Nat.beq N.sz 1 with
    | false => rw [hb] at h; cases h
    | true =>
     rw [hb, cond_true] at h; cases h
     simp only [Bool.and_eq_true] at hb
     have e1 := Nat.eq_of_beq_eq_true hb.1.1; subst e1
     have e2 : j < m := by simpa [Nat.blt_eq] using hb.1.2
     have e3 := Nat.eq_of_beq_eq_true hb.2
     obtain ⟨c1, c2⟩ := allP_cons hc
     have c2 : N.enc (gt y.l ((j : Nat) : Int)) = [V.val (gt y.l ((j : Nat) : Int))] := c2
     cases dst with
     | none => simp at hdr
     | some d =>
      refine ⟨rfl, OT.ofTX hd fun ρ F Fx o Lr hLr Q hk => ?_⟩
      obtain ⟨vx, x1, x2⟩ := evS_ok o.dens hx
      obtain ⟨FA, f, FB, rfl, ⟨q, vs, h4, h5, rfl⟩, _, _⟩ := o.reps.look hl
      rw [SV.den, h4] at x1; cases x1
      obtain ⟨q1, q2⟩ := cutI_spec c1 h5
      have q3 := dens_a1 (ρ := ρ) (N := N) (x := y) dens_nil
      rw [q3] at q1
      have q1 := Option.some.inj q1
      have hinb : inb ((j : Nat) : Int) y.l.length = true := inb_iff.2 ⟨by omega, by rw [y.h]; omega⟩
      have hgs := gt_some hinb
      have hf := flat_get N y.l ((j : Nat) : Int).toNat 0 (gt y.l ((j : Nat) : Int)) (V.val (gt y.l ((j : Nat) : Int))) hgs (by rw [c2]; rfl)
      have hcell : getL vs (off0 + j) = some (V.val (gt y.l ((j : Nat) : Int))) := by
       rw [getL_eq]
       have : ((vs.drop off0).take m)[j]? = some (V.val (gt y.l ((j : Nat) : Int))) := by
        rw [← q1, List.append_nil]; simpa [e3] using hf
       rw [List.getElem?_take, if_pos e2, List.getElem?_drop] at this; exact this
      have hFe : (⟨[], FA ++ [(q, Obj.cells vs.toArray T' (0, 0))] :: FB ++ Fx⟩ : Hp).all.Perm (⟨[(q, Obj.cells vs.toArray T' (0, 0))], FA ++ (FB ++ Fx)⟩ : Hp).all := by
       simp only [Hp.all, List.nil_append, List.append_assoc, List.flatten_append, List.flatten_cons, List.cons_append]
       exact List.perm_middle
      refine TX.permL hFe (TX.val hd (QV.load1 (i := 0) (l := vs) (hB.t.agg.mem _ (lk_mem hag)) (ev_ext hLr x2) rfl hcell) ?_)
      exact TO.perm hFe (hk ρ _ _ o.grow0 (by rw [Option.getD_some]; exact V.ok ρ _) o.reps)
   ·cases h
  ·cases h
 ·cases h
def Ev.la {c : C4} {α : Type} [Inhabited α] (V : Vn α) (N : En α) (off0 j : Nat) {m : Nat} (y : Ar α m) : Ev c := .ot (laF V N off0 j y) laF_ok
end Go.HW
namespace Go.HW
open Go Go.RowKit
set_option linter.unusedVariables false
theorem subP_zero {sp : Option Addr} {sz cap : Nat} : subP sp sz cap 0 = sp := by
 unfold subP; split
 ·rfl
 ·cases sp with
  | none => rfl
  | some a => simp [Addr.add]
def svF : EvF := fun b L H n op => match op with
 | .slice X x lo hi none => match evS L x, lk b.t.und X with
  | some (.sl u), some (.slice A) => match lookH H u with
   | some (.vw (.ss t l0 sz k)) => match rowOf H t, lk b.t.siz A with
    | some (@RowOf.mk _ _ N xs m), some sz' => match bdS L lo ((0 : Nat) : Int), bdS L hi ((k : Nat) : Int) with
     | some l, some h => bif Nat.beq sz' N.sz && Nat.beq sz sz' then some ([l0 = 0, sliceOk l h m = true], some (.ss t l.toNat sz' (h.toNat - l.toNat)), H, n) else none
     | _, _ => none
    | _, _ => none
   | _ => none
  | _, _ => none
 | _ => none
theorem svF_ok {c : C4} : EvOk c svF := by
 intro b L H n op cs r H' n' hB h hc dst T pos af g hdr hd
 unfold svF at h
 split at h
 ·rename_i X x lo hi; split at h
  ·rename_i u A hx hX; split at h
   ·rename_i t l0 sz k hu; split at h
    ·rename_i α i N xs m sz' hro hs; split at h
     ·rename_i l hh hl hhi
      cases hb : Nat.beq sz' N.sz && Nat.beq sz sz' with
      | false => rw [hb] at h; cases h
      | true =>
       rw [hb, cond_true] at h; cases h
       simp only [Bool.and_eq_true] at hb
       have e1 := Nat.eq_of_beq_eq_true hb.1
       have e2 := Nat.eq_of_beq_eq_true hb.2; subst e2
       obtain ⟨c0, c1⟩ := allP_cons hc
       have hcc : sliceOk l hh m = true := c1
       have c0 : l0 = 0 := c0
       subst c0
       have hsl := sliceOk_iff.1 hcc
       cases dst with
       | none => simp at hdr
       | some d =>
        refine ⟨rfl, OT.ofTX hd fun ρ F Fx o Lr hLr Q hk => ?_⟩
        obtain ⟨vx, x1, x2⟩ := evS_ok o.dens hx
        obtain ⟨sp, cap, r1, r2, r3, r4⟩ := rowOf_ok o hro
        obtain ⟨FA, f, FB, rfl, ⟨su, cu, ku, q1, q2, rfl⟩, _, _⟩ := o.reps.look hu
        rw [SV.den, r1] at q2
        simp only [Option.bind_some] at q2
        cases hble : Nat.ble (0 + k) m with
        | false => rw [hble] at q2; cases q2
        | true =>
         rw [hble, cond_true] at q2
         have q2 := Option.some.inj q2
         injection q2 with q3 q4 q5
         rw [SV.den, q1] at x1; cases x1
         rw [subP_zero] at q3
         simp only [Nat.sub_zero] at q5
         subst q3; subst q4; subst q5
         refine TX.slice (hB.t.und.mem _ (lk_mem hX)) (hB.t.siz.mem _ (lk_mem hs)) (ev_ext hLr x2) (bdS_ok o.dens hLr hl) (bdS_ok o.dens hLr hhi) (m := m) (cap := cap) (by show m ≤ cap; omega) hcc hd ?_
         refine hk ρ _ _ o.grow0 ?_ o.reps
         rw [Option.getD_some, SV.den, r1]
         simp only [Option.bind_some]
         rw [show Nat.ble (l.toNat + (hh.toNat - l.toNat)) m = true from Nat.ble_eq_true_of_le (by omega), cond_true]
     ·cases h
    ·cases h
   ·cases h
  ·cases h
 ·cases h
def Ev.sv {c : C4} : Ev c := .ot svF svF_ok
end Go.HW
namespace Go.HW
open Go Go.RowKit
set_option linter.unusedVariables false
def pS1 : Loc → List Value → Blocks → Prop := fun l vs f => ∃ g, vs = [.pointer (some ⟨g, 0, none⟩)] ∧ l = ⟨some ⟨g, 0, none⟩, 1, 1⟩ ∧ f = []
def En.raw (sz : Nat) (h : 0 < sz) : En { l : List Value // l.length = sz ∧ allOne l = true } := ⟨fun l => l.1, sz, fun l => l.2.1, fun l => l.2.2, h⟩
def s1F : EvF := fun b L H n op => match op with
 | .buildSlice X 1 ps => match ps.toList with
  | [(0, y)] => match evS L y, lk b.t.und X with
   | some (.ag is), some (.slice A) => match lk b.t.siz A, lk b.z.z A with
    | some sz, some zi => bif Nat.blt 0 sz && Nat.beq (sizeI zi) sz && (Nat.beq (sizeI is) sz && oneI is) && Nat.ble sz 16777216 then some ([], some (.sl (n + 1)), (n + 1, .ex pS1 [.p n 0]) :: (n, .cells A is) :: H, n + 1 + 1) else none
    | _, _ => none
   | _, _ => none
  | _ => none
 | _ => none
theorem s1F_ok {c : C4} : EvOk c s1F := by
 intro b L H n op cs r H' n' hB h hc dst T pos af g hdr hd
 unfold s1F at h
 split at h
 ·rename_i X ps; split at h
  ·rename_i y hps; split at h
   ·rename_i is A hy hX; split at h
    ·rename_i sz zi hs hz
     cases hb : Nat.blt 0 sz && Nat.beq (sizeI zi) sz && (Nat.beq (sizeI is) sz && oneI is) && Nat.ble sz 16777216 with
     | false => rw [hb] at h; cases h
     | true =>
      rw [hb, cond_true] at h; cases h
      simp only [Bool.and_eq_true] at hb
      obtain ⟨⟨⟨b1, b2⟩, b3, b4⟩, b5⟩ := hb
      have b1 : 0 < sz := by simpa [Nat.blt_eq] using b1
      have b2 := Nat.eq_of_beq_eq_true b2
      have b3 := Nat.eq_of_beq_eq_true b3
      cases dst with
      | none => simp at hdr
      | some d =>
       refine ⟨rfl, OT.ofTX hd fun ρ F Fx o Lr hLr Q hk => ?_⟩
       obtain ⟨zv, zvs, z1, z2, z3⟩ := hB.z.z.mem _ (lk_mem hz)
       have hzs : zv.cells.size = (En.raw sz b1).sz := by rw [z2, List.size_toArray, dens_size z3, b2]; rfl
       obtain ⟨vy, f1, f2⟩ := evS_ok o.dens hy
       rw [SV.den] at f1
       obtain ⟨vs, hvs, rfl⟩ := Option.map_eq_some_iff.1 f1
       have hlen : vs.length = sz := by rw [dens_size hvs, b3]
       have hone : allOne vs = true := oneI_ok b4 hvs
       have ep : ps = [(0, y)].toArray := by cases ps; simpa using hps
       rw [ep]
       have hp : evp Lr [(0, y)] = some [(0, .agg vs.toArray)] := by
        have := ev_ext hLr f2
        simp [evp, this]
       refine TX.buildS (N := En.raw sz b1) (ys := [⟨vs, hlen, hone⟩]) (hB.t.und.mem _ (lk_mem hX)) (hB.t.siz.mem _ (lk_mem hs)) z1 hzs hp rfl (by rw [Nat.one_mul]; exact b5) (fillS [.agg vs.toArray] rfl rfl (by simp [Value.cells, hlen, En.raw]) (by simp [Value.cells, En.raw])) hd (fun sp Hs ho => ?_)
       rcases ho with ⟨_, _, h0, _⟩ | ⟨gg, cur, rfl, rfl, g1, g2, g3, g4⟩
       ·cases h0
       ·have hcur : cur = vs.toArray := by
         have h3 : cur.size = sz := by simpa [En.raw] using g3
         have h4 : cur.toList = vs := by
          have : cur.toList.take sz = vs := by simpa [En.raw] using g4
          rw [List.take_of_length_le (by simp [h3])] at this; exact this
         cases cur; simp at h4; simp [h4]
        subst hcur
        have hgr := Env.set_grow (ρ := ρ) (n := n) (l := ⟨some ⟨gg, 0, none⟩, 0, 0⟩) o.fr
        have hle := hgr.toLe o.fr
        have hR := Env.set_row (b := .cells A is) (l := ⟨some ⟨gg, 0, none⟩, 0, 0⟩) o.reps o.fr ⟨gg, vs, by rw [Env.set_self]; rfl, dens_mono hle hvs, rfl⟩
        have hgr2 := Env.set_grow (ρ := ρ.set n ⟨some ⟨gg, 0, none⟩, 0, 0⟩) (n := n + 1) (l := ⟨some ⟨gg, 0, none⟩, 1, 1⟩) hgr.fr
        have hpd : SV.dens ((ρ.set n ⟨some ⟨gg, 0, none⟩, 0, 0⟩).set (n + 1) ⟨some ⟨gg, 0, none⟩, 1, 1⟩) [.p n 0] = some [.pointer (some ⟨gg, 0, none⟩)] := by
         refine denAll_dens (l := [.p n 0]) ⟨?_, trivial⟩
         rw [SV.den, hgr2.old n (Nat.lt_succ_self n), Env.set_self]; rfl
        have hR2 := Env.set_row (b := .ex pS1 [.p n 0]) (f := []) (l := ⟨some ⟨gg, 0, none⟩, 1, 1⟩) hR hgr.fr ⟨_, _, Env.set_self, hpd, gg, rfl, rfl, rfl⟩
        have := hk _ ([] :: [(gg, .cells vs.toArray A (0, 0))] :: F) (.slice (some ⟨gg, 0, none⟩) 1 1) ⟨fun t ht => by rw [hgr2.old t (by omega), hgr.old t ht], hgr2.fr, by omega⟩ (by rw [Option.getD_some, SV.den, Env.set_self]; rfl) hR2
        refine TO.perm ?_ this
        simp [Hp.all]
    ·cases h
   ·cases h
  ·cases h
 ·cases h
def Ev.s1 {c : C4} : Ev c := .ot s1F s1F_ok
def i1F : EvF := fun b L H n op => match op with
 | .indexAddr X x ix => match evS L x, evS L ix, lk b.t.und X with
  | some (.sl u), some (.v (.int _ i)), some (.slice A) => match lookH H u, lk b.t.siz A with
   | some (.ex p [.p t 0]), some sz => some ([p = pS1, inb i 1 = true], some (.p t 0), H, n)
   | _, _ => none
  | _, _, _ => none
 | _ => none
theorem i1F_ok {c : C4} : EvOk c i1F := by
 intro b L H n op cs r H' n' hB h hc dst T pos af g hdr hd
 unfold i1F at h
 split at h
 ·rename_i X x ix; split at h
  ·rename_i u k i A hx hix hX; split at h
   ·rename_i p t sz hl hs
    cases h
    obtain ⟨c1, c2⟩ := allP_cons hc
    have c2 : inb i 1 = true := c2
    have c1 : p = pS1 := c1
    subst c1
    cases dst with
    | none => simp at hdr
    | some d =>
     refine ⟨rfl, OT.ofTX hd fun ρ F Fx o Lr hLr Q hk => ?_⟩
     obtain ⟨vx, x1, x2⟩ := evS_ok o.dens hx
     obtain ⟨vi, y1, y2⟩ := evS_ok o.dens hix
     rw [SV.den] at y1; cases y1
     obtain ⟨FA, f, FB, rfl, ⟨l, vs, q1, q2, gg, rfl, rfl, rfl⟩, _, _⟩ := o.reps.look hl
     rw [SV.den, q1] at x1; cases x1
     obtain ⟨h0, h1⟩ := inb_iff.1 c2
     have hi0 : i = 0 := by omega
     subst hi0
     have hden : (SV.p t 0).den ρ = some (.pointer (some ⟨gg, 0, none⟩)) := by
      obtain ⟨us, r, e1, e2, e3⟩ := dens_cons_some.1 q2
      rw [dens_nil] at e2; cases e2
      simp only [List.append_nil] at e3
      subst e3
      cases hx0 : (SV.p t 0).den ρ with
      | none => simp [SV.deni, hx0] at e1
      | some v => rw [deni_of hx0] at e1; simp at e1; rw [e1]
     refine TX.val hd (v := .pointer (some ⟨gg, 0, none⟩)) (fun a w s => ?_) (hk ρ _ _ o.grow0 (by rw [Option.getD_some]; exact hden) o.reps)
     have hu := hB.t.und.mem _ (lk_mem hX)
     have hss := hB.t.siz.mem _ (lk_mem hs)
     simp [execOp, Instr.indexAt, s.eval (ev_ext hLr x2), s.eval (ev_ext hLr y2), asIntOf, hu, hss, Addr.add]
   ·cases h
  ·cases h
 ·cases h
def Ev.i1 {c : C4} : Ev c := .ot i1F i1F_ok
def l1F : EvF := fun b L H n op => match op with
 | .call ⟨.builtin .len, xs, ts⟩ => match xs.toList, ts.toList with
  | [x], [X] => match evS L x, lk b.t.und X with
   | some (.sl u), some (.slice A) => match lookH H u with
    | some (.ex p [.p t 0]) => some ([p = pS1], some (.v (.int .i64 1)), H, n)
    | _ => none
   | _, _ => none
  | _, _ => none
 | _ => none
theorem l1F_ok {c : C4} : EvOk c l1F := by
 intro b L H n op cs r H' n' hB h hc dst T pos af g hdr hd
 unfold l1F at h
 split at h
 ·rename_i xs tys; split at h
  ·rename_i x X hxs hts; split at h
   ·rename_i u A hx hX; split at h
    ·rename_i p t hl
     cases h
     have c1 : p = pS1 := hc
     subst c1
     have e1 : xs = #[x] := by cases xs; simpa using hxs
     have e2 : tys = #[X] := by cases tys; simpa using hts
     subst e1; subst e2
     cases dst with
     | none => simp at hdr
     | some d =>
      refine ⟨rfl, OT.ofTX hd fun ρ F Fx o Lr hLr Q hk => ?_⟩
      obtain ⟨vx, x1, x2⟩ := evS_ok o.dens hx
      obtain ⟨FA, f, FB, rfl, ⟨l, vs, q1, q2, gg, rfl, rfl, rfl⟩, _, _⟩ := o.reps.look hl
      rw [SV.den, q1] at x1; cases x1
      exact TX.val hd (QV.lenS (xs := [()]) (hB.t.und.mem _ (lk_mem hX)) (ev_ext hLr x2) rfl) (hk ρ _ _ o.grow0 (by rw [Option.getD_some, SV.den]; rfl) o.reps)
    ·cases h
   ·cases h
  ·cases h
 ·cases h
def Ev.l1 {c : C4} : Ev c := .ot l1F l1F_ok
end Go.HW
namespace Go.HW
open Go Go.RowKit Go.MapKept
set_option linter.unusedVariables false
def mkB (rs : List Nat) : Blocks → Prop := fun f => f = rs.map (fun r => (r, Obj.deferred (some [])))
def collsL (rs : List Nat) : List Deferred := rs.map (fun r => ⟨.collected r, #[]⟩)
def C4.md (c : C4) (rs : List Nat) : C4 := ⟨⟨c.P, c.ro, c.w0, c.R0, c.n, collsL rs ++ c.ds⟩, c.π, c.m⟩
section
variable {c : C4} {Q : Exit → Act → World → Prop}
theorem Imp.mk0 {L : SL} {H : SH} {n : Nat} : Imp c ⟨L, H, n⟩ ⟨L, (n, .bx (mkB [])) :: H, n + 1⟩ := by
 intro ρ F a w hs
 have hg := Env.set_grow (ρ := ρ) (n := n) (l := ⟨none, 0, 0⟩) hs.ok.fr
 have hle := hg.toLe hs.ok.fr
 refine ⟨_, [] :: F, ⟨⟨hs.ok.dens.mono hle, Env.set_row (b := .bx (mkB [])) (l := ⟨none, 0, 0⟩) hs.ok.reps hs.ok.fr ⟨⟨_, Env.set_self⟩, rfl⟩, hg.fr, fun t ht => ?_, Nat.le_succ_of_le hs.ok.mle⟩, ?_⟩⟩
 ·have := hs.ok.mle
  rw [hg.old t (by simp only at this; omega)]; exact hs.ok.pin t ht
 ·have s1 := hs.sat
  have e : realL (ρ.set n ⟨none, 0, 0⟩) L = realL ρ L := realL_mono hle hs.ok.dens
  simp only [e]
  exact s1.perm (by simp [Hp.all])
theorem Imp.joinM (t k : Nat) {r : Nat} {rs : List Nat} {L : SL} {H : SH} {n : Nat} (h1 : lookH H t = some (.bx (fun f => f = [(r, .deferred (some []))]))) (h2 : lookH (delH H t) k = some (.bx (mkB rs))) :
  Imp c ⟨L, H, n⟩ ⟨L, repH (delH H t) k k (.bx (mkB (r :: rs))), n⟩ := by
 intro ρ F a w hs
 obtain ⟨FA, f, FB, rfl, ⟨_, rfl⟩, _, hdel⟩ := hs.ok.reps.look h1
 obtain ⟨FA2, f2, FB2, e2, ⟨hl, rfl⟩, hr2, _⟩ := hdel.look h2
 refine ⟨ρ, FA2 ++ ((r, Obj.deferred (some [])) :: rs.map (fun r => (r, Obj.deferred (some [])))) :: FB2, ⟨⟨hs.ok.dens, hr2 ρ k _ _ (Env.le_refl _) ⟨hl, rfl⟩, hs.ok.fr, hs.ok.pin, hs.ok.mle⟩, ?_⟩⟩
 refine hs.sat.perm ?_
 simp only [Hp.all, List.nil_append, List.flatten_append, List.flatten_cons, List.cons_append]
 have p1 : (FA.flatten ++ (r, Obj.deferred (some [])) :: FB.flatten).Perm ((r, Obj.deferred (some [])) :: (FA ++ FB).flatten) := by rw [List.flatten_append]; exact List.perm_middle
 refine List.Perm.trans ?_ p1.symm
 rw [e2]
 simp only [List.flatten_append, List.flatten_cons]
 exact List.perm_middle
theorem LPM {σ ρ : Type} {x : Code} {K : List Fr} (f : Nat → σ → Option ρ) (T : List Nat → σ → St) (f0 : ∀ s, f 0 s = none) {n : Nat} {s0 : σ} {r : ρ} (hr : f n s0 = some r)
  (round : ∀ (R : Act → World → Prop) (n : Nat) (y : σ) (rs : List Nat), f (n + 1) y = some r → (∀ (rs' : List Nat) (y' : σ), f n y' = some r → ∀ s K, Imp (c.md rs') s (T rs' y') → G4 (c.md rs') Q (.exit .normal (.st R :: K)) s) → G4 (c.md rs) Q (.code x (.st R :: K)) (T rs y)) :
  G4 c Q (.code (.loop x) K) (T [] s0) := by
 suffices h : ∀ (rs : List Nat), G4 (c.md rs) Q (.code (.loop x) K) (T rs s0) from h []
 intro rs ρ F a w hs
 refine wpIn_loop_rounds n ?_
 induction n generalizing s0 rs ρ F a w with
 | zero => rw [f0] at hr; cases hr
 | succ n ih =>
  rw [roundsIn_succ]
  refine round _ n s0 rs hr ?_ ρ F a w hs
  intro rs' y' hr' s' K' hi ρ' F' a' w' hs'
  obtain ⟨ρ2, F2, h2⟩ := hi ρ' F' a' w' hs'
  exact ih hr' rs' ρ2 F2 a' w' h2
def SatM (c : C4) (T : List Nat → St) (a : Act) (w : World) : Prop := ∃ rs, SatE (c.md rs) (T rs) a w
theorem CTM {x : Code} {K : List Fr} {s : St} (id : Nat) (T : List Nat → St) (h1 : G4 c Q (.code x (.ct id (SatM c T) :: K)) s) (h2 : ∀ rs, G4 (c.md rs) Q (.exit (.exit id) K) (T rs)) : G4 c Q (.code x K) s := by
 intro ρ F a w hs
 refine wpIn_mono (h1 ρ F a w hs) fun e a' w' hq => ?_
 cases e with
 | exit i =>
  simp only [QK, ctQ] at hq
  by_cases hi : i = id
  ·rw [if_pos hi] at hq; subst hi; obtain ⟨rs, ρ', F', h⟩ := hq; exact h2 rs ρ' F' a' w' h
  ·rw [if_neg hi] at hq; exact hq
 | _ => exact hq
theorem CEM {K : List Fr} {id : Nat} {s : St} {T : List Nat → St} (rs : List Nat) (h : Imp (c.md rs) s (T rs)) : G4 (c.md rs) Q (.exit (.exit id) (.ct id (SatM c T) :: K)) s := fun ρ F a w hs => by
 simp only [QK, ctQ, if_true]; exact ⟨rs, h ρ F a w hs⟩
end
theorem colls_map (rs : List Nat) : colls (rs.map fun r => (0, r)) = collsL rs := by
 induction rs with
 | nil => rfl
 | cons r rs ih => simp only [List.map_cons, colls, ih]; rfl
section
variable {P : Program} {w0 : World} {F0 : List Blocks} {ρ0 : Env} {N m n' : Nat} {fn : Func} {r : SV} {H' : SH} {L : SL} {H : SH} {n : Nat} {rs : List ResultVar} {ys : List SV}
theorem TLMs {t : Tab} (ht : TabOk P t) (k : Nat) {ms : List Nat} (hms : lookH H k = some (.bx (mkB ms))) (hrs : fn.results = rs.toArray) (σ : List Nat) (hy : resS t L (delH H k) rs = some ys) (hr : retS ys = r.ren σ) (h2 : takesH σ (delH H k) H' = some (renBs σ H')) (h3 : idB 0 m σ = true) (h4 : σ.length = n')
  {ρ : Env} {F : List Blocks} {a : Act} {w : World} (s : Sat4 (C4.md ⟨⟨P, none, w0, F0.flatten.map (·.1), N, []⟩, ρ0, m⟩ ms) ρ F ⟨L, H, n⟩ a w) :
  LeavesInM (FW none) 1 P fn a.tmps (RetE w0 ⟨[], F0⟩ (postC ρ0 m r H' n')) a.defers .returning w := by
 obtain ⟨FA, f, FB, rfl, ⟨_, rfl⟩, _, k1⟩ := s.ok.reps.look hms
 have ok1 : Ok (C4.md ⟨⟨P, none, w0, F0.flatten.map (·.1), N, []⟩, ρ0, m⟩ ms) ρ (FA ++ FB) ⟨L, delH H k, n⟩ := ⟨s.ok.dens, k1, s.ok.fr, s.ok.pin, s.ok.mle⟩
 obtain ⟨vs, a1, a2, a3, a4⟩ := resS_ok ht ok1 hy
 obtain ⟨F', G, j1, j2⟩ := takesH_ren ok1.reps h2
 have hg : Env.grow m n' ρ0 (ρ.sel σ) := ⟨fun t ht => by simp only [Env.sel, idB_spec h3 t ht, Nat.zero_add]; exact s.ok.pin t ht, fun t ht => by simp [Env.sel, tgO_none (σ := σ) (t := t) (by rw [h4]; exact ht)], by rw [← h4]; exact idB_len h3⟩
 have hden : r.den (ρ.sel σ) = some (retV vs) := den_ren (by rw [← hr]; exact retS_den a1 a3 a2)
 have hds : a.defers = colls (ms.map fun r => (0, r)) := by rw [s.sat.defers, colls_map]; exact List.append_nil _
 rw [hds]
 let c0 : C4 := C4.md ⟨⟨P, none, w0, F0.flatten.map (·.1), N, []⟩, ρ0, m⟩ ms
 let c1 : Cx := ⟨P, none, w0, (⟨[], F0⟩ : Hp).all.map (·.1), N, colls (ms.map fun r => (0, r))⟩
 have hc01 : (c0 : Cx) = c1 := by
  show (Cx.mk P none w0 (F0.flatten.map (fun x => x.1)) N (collsL ms ++ [])) = Cx.mk P none w0 ((([] : Blocks) ++ F0.flatten).map (fun x => x.1)) N (colls (ms.map fun r => (0, r)))
  rw [colls_map, List.append_nil, List.nil_append]
 have a4' : ResAll c1 (realL ρ L) ⟨[], FA ++ FB⟩ rs vs := Eq.mp (congrArg (fun c => ResAll c (realL ρ L) ⟨[], FA ++ FB⟩ rs vs) hc01) a4
 have j1' : Reps c1 (ρ.sel σ) H' F' := Eq.mp (congrArg (fun c => Reps c (ρ.sel σ) H' F') hc01) j1
 have key : TL fn (RetE w0 ⟨[], F0⟩ (postC ρ0 m r H' n')) [] c1 (realL ρ L) ⟨[] ++ (ms.map fun r => (0, r)).map (fun p => (p.2, Obj.deferred none)), F' ++ G⟩ := by
  refine TL.ret (R' := ⟨[], F'⟩) hrs (ResAll.wk (H' := ⟨[], FA ++ FB⟩) (fun a w s => (s.weak (H' := ⟨[], F' ++ G⟩) (fun _ _ h => h) (by simp only [Hp.all, List.nil_append]; exact List.sublist_append_right _ _)).perm (by simp only [Hp.all, List.nil_append]; exact j2.symm.flatten)) a4') (by simp only [Hp.all, List.nil_append]; rw [List.flatten_append]; exact (List.sublist_append_left _ _).trans (List.sublist_append_right _ _)) ?_
  exact ⟨_, ρ.sel σ, F', rfl, hg, hden, j1'⟩
 have s2 : Sat c1 (realL ρ L) ⟨[], FA ++ (ms.map (fun r => (r, Obj.deferred (some [])))) :: FB⟩ a w := Eq.mp (congrArg (fun c => Sat c (realL ρ L) ⟨[], FA ++ (ms.map (fun r => (r, Obj.deferred (some [])))) :: FB⟩ a w) hc01) s.sat
 refine TL.marks _ [] key a w (s2.perm ?_)
 simp only [Hp.all, List.nil_append, List.map_map]
 have q : (FA ++ ms.map (fun r => (r, Obj.deferred (some []))) :: FB).flatten.Perm (ms.map (fun r => (r, Obj.deferred (some []))) ++ (FA ++ FB).flatten) := by
  simp only [List.flatten_append, List.flatten_cons]
  rw [← List.append_assoc, ← List.append_assoc]
  exact List.Perm.append_right _ List.perm_append_comm
 refine List.Perm.trans ?_ q.symm
 exact List.Perm.append_left _ j2.flatten
theorem RTMs {t : Tab} (ht : TabOk P t) (k : Nat) {ms : List Nat} (hms : lookH H k = some (.bx (mkB ms))) (hrs : fn.results = rs.toArray) (σ : List Nat) (hy : resS t L (delH H k) rs = some ys) (hr : retS ys = r.ren σ) (h2 : takesH σ (delH H k) H' = some (renBs σ H')) (h3 : idB 0 m σ = true) (h4 : σ.length = n') :
  G4 (C4.md ⟨⟨P, none, w0, F0.flatten.map (·.1), N, []⟩, ρ0, m⟩ ms) (FinC P fn w0 F0 ρ0 m r H' n') (.exit .ret []) ⟨L, H, n⟩ := fun ρ F a w s => TLMs ht k hms hrs σ hy hr h2 h3 h4 s
end
end Go.HW
namespace Go.HW
open Go Go.RowKit Go.MapKept
set_option linter.unusedVariables false
def pMI {κ α : Type} [DecidableEq κ] [Inhabited α] (Kn : Kn κ) (V : Vn α) (lt : List (κ × α)) (ls : Option (κ × α)) : Loc → List Value → Blocks → Prop := fun l vs f =>
 ∃ (b g : Nat) (es : Array MapEntry) (clock since : Nat) (seen : Array Nat) (c0 : Nat), l = ⟨some ⟨g, 0, none⟩, 0, 0⟩ ∧ vs = [.map (some b)] ∧ f = [(g, .mapIter (some b) since seen c0), (b, .map es clock)] ∧
  (∀ e ∈ es.toList, e.born < since) ∧ since ≤ c0 ∧ since ≤ clock ∧ (es.toList.map (·.born)).Nodup ∧ (leftOf es seen).toList.map (fun e => (e.key, e.val)) = lt.map (fun p => (Kn.enc p.1, V.val p.2)) ∧
  (∀ p, ls = some p → ∃ e ∈ es.toList, ∃ sn : Array Nat, seen = sn.push e.born ∧ c0 = clock ∧ e.key = Kn.enc p.1 ∧ e.val = V.val p.2)
theorem left_all (es : Array MapEntry) : leftOf es #[] = es := by
 unfold leftOf; rw [Array.filter_eq_self]; intro x hx; simp
theorem filter_one {e : MapEntry} : ∀ {L1 L2 : List MapEntry}, ((L1 ++ e :: L2).map (·.born)).Nodup → (L1 ++ e :: L2).filter (fun x => x.born != e.born) = L1 ++ L2
 | L1, L2, hn => by
  simp only [List.map_append, List.map_cons] at hn
  have h1 := List.nodup_append.1 hn
  obtain ⟨h2, h3⟩ := List.nodup_cons.1 h1.2.1
  rw [List.filter_append, List.filter_cons]
  simp only [bne_self_eq_false, Bool.false_eq_true, if_false]
  congr 1
  ·refine List.filter_eq_self.2 fun x hx => ?_
   have := h1.2.2 x.born (List.mem_map.2 ⟨x, hx, rfl⟩) e.born (by simp)
   simp [this]
  ·refine List.filter_eq_self.2 fun x hx => ?_
   have : x.born ≠ e.born := fun hh => h2 (by rw [← hh]; exact List.mem_map.2 ⟨x, hx, rfl⟩)
   simp [this]
theorem left_push (es : Array MapEntry) (seen : Array Nat) (b : Nat) : (leftOf es (seen.push b)).toList = (leftOf es seen).toList.filter (fun x => x.born != b) := by
 unfold leftOf
 rw [Array.toList_filter, Array.toList_filter, List.filter_filter]
 refine List.filter_congr fun x _ => ?_
 cases h1 : seen.contains x.born <;> cases h2 : x.born == b <;> simp_all [bne]
theorem map_split {α β γ : Type} {f : α → γ} {g : β → γ} : ∀ {L1 : List α} {e : α} {L2 : List α} {l : List β}, (L1 ++ e :: L2).map f = l.map g → ∃ l1 p l2, l = l1 ++ p :: l2 ∧ L1.map f = l1.map g ∧ f e = g p ∧ L2.map f = l2.map g
 | [], e, L2, p :: l, h => by simp at h; exact ⟨[], p, l, rfl, rfl, h.1, h.2⟩
 | [], e, L2, [], h => by simp at h
 | x :: L1, e, L2, [], h => by simp at h
 | x :: L1, e, L2, q :: l, h => by
  simp at h
  obtain ⟨l1, p, l2, rfl, h1, h2, h3⟩ := map_split (L1 := L1) (e := e) (L2 := L2) (l := l) (by simpa using h.2)
  exact ⟨q :: l1, p, l2, rfl, by simp [h.1, h1], h2, h3⟩
section
variable {κ α : Type} [DecidableEq κ] [Inhabited α]
def rgF (K : Kn κ) (V : Vn α) (xs : List (κ × α)) (m : TypeId) : EvF := fun b L H n op => match op with
 | .range X x => match evS L x with
  | some (.mp t) => bif Nat.beq X m then some ([lookH H t = some (.omap K V xs)], some (.p n 0), (n, .ex (pMI K V xs none) [.mp t]) :: delH H t, n + 1) else none
  | _ => none
 | _ => none
theorem rgF_ok {c : C4} {K : Kn κ} {V : Vn α} {xs : List (κ × α)} {m kt et : TypeId} (hm : ∀ w, (underlying m).run c.P w = .ok (.map kt et) w) : EvOk c (rgF K V xs m) := by
 intro b L H n op cs r H' n' hB h hc dst T pos af g hdr hd
 unfold rgF at h
 split at h
 ·rename_i X x; split at h
  ·rename_i t hx
   cases hb : Nat.beq X m with
   | false => rw [hb] at h; cases h
   | true =>
    rw [hb, cond_true] at h; cases h
    have := Nat.eq_of_beq_eq_true hb; subst this
    have c1 : lookH H t = some (.omap K V xs) := hc
    cases dst with
    | none => simp at hdr
    | some d =>
     refine ⟨rfl, OT.ofTX hd fun ρ F Fx o Lr hLr Q hk => ?_⟩
     obtain ⟨vx, x1, x2⟩ := evS_ok o.dens hx
     obtain ⟨FA, f, FB, rfl, ⟨q, r1, es, clock, rfl, r3, r4⟩, _, hdel⟩ := o.reps.look c1
     rw [SV.den, r1] at x1; cases x1
     refine TX.gen hd fun a w s => ⟨.pointer (some ⟨w.heap.size, 0, none⟩), { w with heap := w.heap.push (.mapIter (some q) clock #[] clock) }, ⟨(w.heap.size, .mapIter (some q) clock #[] clock) :: [], FA ++ [(q, .map es clock)] :: FB ++ Fx⟩, ?_, s.alloc _, ?_⟩
     ·have hb : w.heap[q]? = some (.map es clock) := s.heap (q, .map es clock) (by simp [Hp.all])
      have := run_range_map (P := c.P) w X kt et q es clock (und_of hm) hb
      simp [execOp, s.eval (ev_ext hLr x2), this]
     ·have hg := Env.set_grow (ρ := ρ) (n := n) (l := ⟨some ⟨w.heap.size, 0, none⟩, 0, 0⟩) o.fr
      have hle := hg.toLe o.fr
      have hmp : SV.dens (ρ.set n ⟨some ⟨w.heap.size, 0, none⟩, 0, 0⟩) [.mp t] = some [.map (some q)] := denAll_dens (l := [.mp t]) ⟨den_mono hle (by rw [SV.den, r1]; rfl), trivial⟩
      have hrow := Env.set_row (b := .ex (pMI K V xs none) [.mp t]) (f := [(w.heap.size, .mapIter (some q) clock #[] clock), (q, .map es clock)]) (l := ⟨some ⟨w.heap.size, 0, none⟩, 0, 0⟩) hdel o.fr
       ⟨_, _, Env.set_self, hmp, q, w.heap.size, es, clock, clock, #[], clock, rfl, rfl, rfl, r4.1, Nat.le_refl _, Nat.le_refl _, r4.2.1, by rw [left_all]; exact r3, fun p hp => by cases hp⟩
      have := hk _ _ (.pointer (some ⟨w.heap.size, 0, none⟩)) hg (by rw [Option.getD_some, SV.den, Env.set_self]; rfl) hrow
      refine TO.perm ?_ this
      simp only [Hp.all, List.nil_append, List.flatten_cons, List.flatten_append, List.cons_append, List.append_assoc]
      exact List.Perm.cons _ List.perm_middle.symm
  ·cases h
 ·cases h
def Ev.rg {c : C4} (K : Kn κ) (V : Vn α) (xs : List (κ × α)) {m kt et : TypeId} (hm : ∀ w, (underlying m).run c.P w = .ok (.map kt et) w) : Ev c := .ot (rgF K V xs m) (rgF_ok hm)
def enF (K : Kn κ) (V : Vn α) (lt : List (κ × α)) (p : κ × α) : EvF := fun b L H n op => match op with
 | .entry x => match evS L x with
  | some (.p ti 0) => match lookH H ti with
   | some (.ex q [.mp t]) => some ([q = pMI K V lt (some p)], some (.tu [.v (K.enc p.1), V.sv p.2]), H, n)
   | _ => none
  | _ => none
 | _ => none
theorem enF_ok {c : C4} {K : Kn κ} {V : Vn α} {lt : List (κ × α)} {p : κ × α} : EvOk c (enF K V lt p) := by
 intro b L H n op cs r H' n' hB h hc dst T pos af g hdr hd
 unfold enF at h
 split at h
 ·rename_i x; split at h
  ·rename_i ti hx; split at h
   ·rename_i q t hl
    cases h
    have c1 : q = pMI K V lt (some p) := hc
    subst c1
    cases dst with
    | none => simp at hdr
    | some d =>
     refine ⟨rfl, OT.ofTX hd fun ρ F Fx o Lr hLr Q hk => ?_⟩
     obtain ⟨vx, x1, x2⟩ := evS_ok o.dens hx
     obtain ⟨FA, f, FB, rfl, ⟨l, vs, q1, q2, b, gg, es, clock, since, seen, c0, rfl, rfl, rfl, r1, r2, r3, r4, r5, r6⟩, _, _⟩ := o.reps.look hl
     rw [SV.den, q1] at x1; cases x1
     obtain ⟨e, e1, sn, rfl, rfl, e4, e5⟩ := r6 p rfl
     have hden : (SV.tu [.v (K.enc p.1), V.sv p.2]).den ρ = some (.tuple #[K.enc p.1, V.val p.2]) := by
      rw [SV.den, denAll_dens (l := [.v (K.enc p.1), V.sv p.2]) (r := [K.enc p.1, V.val p.2]) ⟨by rw [SV.den], V.ok ρ p.2, trivial⟩]; rfl
     refine TX.val hd (v := .tuple #[K.enc p.1, V.val p.2]) (fun a w s => ?_) (hk ρ _ _ o.grow0 (by rw [Option.getD_some]; exact hden) o.reps)
     have h1 : w.heap[gg]? = some (.mapIter (some b) since (sn.push e.born) c0) := s.heap (gg, _) (by simp [Hp.all])
     have h2 : w.heap[b]? = some (.map es c0) := s.heap (b, _) (by simp [Hp.all])
     have := run_entry_at (P := c.P) w gg b since sn es c0 e h1 h2 e1 r4
     rw [e4, e5] at this
     have hev := s.eval (ev_ext hLr x2)
     simp only at hev
     simp [execOp, hev, this]
   ·cases h
  ·cases h
 ·cases h
def Ev.en {c : C4} (K : Kn κ) (V : Vn α) (lt : List (κ × α)) (p : κ × α) : Ev c := .ot (enF K V lt p) enF_ok
theorem NXT {c : C4} {Q : Exit → Act → World → Prop} {o : Array Oper} {l : List Oper} {K : List Fr} {L : SL} {H : SH} {n d : Nat} {x : Operand} {T : TypeId} {pos : String} {af : Array Edge} {ti t : Nat} {Ky : Kn κ} {V : Vn α} {lt : List (κ × α)} {ls : Option (κ × α)}
  (hd : Nat.blt d c.n = true) (hx : evS L x = some (.p ti 0)) (hl : lookH H ti = some (.ex (pMI Ky V lt ls) [.mp t]))
  (h0 : lt = [] → G4 c Q (.ops o l K []) ⟨(d, .tu [.v (.bool false)]) :: L, H, n⟩)
  (h1 : ∀ l1 p l2, lt = l1 ++ p :: l2 → G4 c Q (.ops o l K []) ⟨(d, .tu [.v (.bool true), .v (Ky.enc p.1), V.sv p.2]) :: L, repH H ti ti (.ex (pMI Ky V (l1 ++ l2) (some p)) [.mp t]), n⟩) :
  G4 c Q (.ops o (⟨some d, .next x false, T, pos, af, none⟩ :: l) K []) ⟨L, H, n⟩ := by
 intro ρ F a w hs hG
 obtain ⟨vx, x1, x2⟩ := evS_ok hs.ok.dens hx
 obtain ⟨FA, f, FB, rfl, ⟨lo, vs, q1, q2, b, gg, es, clock, since, seen, c0, rfl, rfl, rfl, r1, r2, r3, r4, r5, r6⟩, hrep, _⟩ := hs.ok.reps.look hl
 rw [SV.den, q1] at x1; cases x1
 have b1 : w.heap[gg]? = some (.mapIter (some b) since seen c0) := hs.sat.heap (gg, _) (by simp [Hp.all])
 have b2 : w.heap[b]? = some (.map es clock) := hs.sat.heap (b, _) (by simp [Hp.all])
 have hev := hs.sat.eval x2
 simp only at hev
 unfold wpListIn
 rw [if_pos (by simp [Region.wanted])]
 rcases run_next_at (P := c.P) w T gg b since c0 seen es clock b1 b2 r1 r2 with ⟨e0, hrun⟩ | ⟨e, he, w1, hw1, hrun⟩
 ·have hlt : lt = [] := by
   have : (leftOf es seen).toList = [] := by rw [← List.length_eq_zero_iff, Array.length_toList]; exact e0
   rw [this] at r5; cases lt with
   | nil => rfl
   | cons p q => simp at r5
  have hden : (SV.tu [.v (.bool false)]).den ρ = some (.tuple #[.bool false]) := by
   rw [SV.den, denAll_dens (l := [.v (.bool false)]) (r := [.bool false]) ⟨by rw [SV.den], trivial⟩]; rfl
  refine wpIn_of (c := c) rfl ?_
  have hex : (execOp a.eval ⟨some d, .next x false, T, pos, af, none⟩).run c.P w = .ok (.value (.tuple #[.bool false])) w := by simp [execOp, hev, hrun]
  rw [hex]
  exact h0 hlt ρ _ _ w (hs.ok.put (n' := n) (dst := some d) hs.ok.grow0 hd hden hs.ok.reps hs.sat) trivial
 ·obtain ⟨L1, L2, hL⟩ := List.append_of_mem he
  rw [hL] at r5
  obtain ⟨l1, p, l2, rfl, s1, s2, s3⟩ := map_split r5
  have hmemE : e ∈ es.toList := by
   have : e ∈ (leftOf es seen).toList := he
   unfold leftOf at this; rw [Array.toList_filter] at this; exact (List.mem_filter.1 this).1
  have hnd : ((L1 ++ e :: L2).map (·.born)).Nodup := by
   rw [← hL]; unfold leftOf; rw [Array.toList_filter]
   exact (List.filter_sublist.map _).nodup r4
  have hk : e.key = Ky.enc p.1 ∧ e.val = V.val p.2 := by simpa using s2
  have hden : (SV.tu [.v (.bool true), .v (Ky.enc p.1), V.sv p.2]).den ρ = some (.tuple #[.bool true, Ky.enc p.1, V.val p.2]) := by
   rw [SV.den, denAll_dens (l := [.v (.bool true), .v (Ky.enc p.1), V.sv p.2]) (r := [.bool true, Ky.enc p.1, V.val p.2]) ⟨by rw [SV.den], by rw [SV.den], V.ok ρ p.2, trivial⟩]; rfl
  refine wpIn_of (c := c) rfl ?_
  have hex : (execOp a.eval ⟨some d, .next x false, T, pos, af, none⟩).run c.P w = .ok (.value (.tuple #[.bool true, Ky.enc p.1, V.val p.2])) (ChangeMaps.setBlock w1 gg (.mapIter (some b) since (seen.push e.born) clock)) := by
   rw [hk.1, hk.2] at hrun; simp [execOp, hev, hrun]
  rw [hex]
  have sw1 : Sat c (realL ρ L) ⟨[], FA ++ [(gg, .mapIter (some b) since seen c0), (b, .map es clock)] :: FB⟩ a w1 := by
   rcases hw1 with rfl | rfl
   ·exact hs.sat
   ·have s := hs.sat
    exact ⟨s.size, s.defers, s.slots, ⟨s.ext.os, s.ext.tape, s.ext.output, s.ext.size, s.ext.same⟩, s.nodup, s.heap, s.own⟩
  have sat2 : Sat c (realL ρ L) ⟨[], FA ++ [(gg, .mapIter (some b) since (seen.push e.born) clock), (b, .map es clock)] :: FB⟩ a (ChangeMaps.setBlock w1 gg (.mapIter (some b) since (seen.push e.born) clock)) :=
   sw1.setBlockG (A := FA.flatten) (B := (b, .map es clock) :: FB.flatten) (b := gg) (o := .mapIter (some b) since seen c0) (by simp [Hp.all]) (by simp [Hp.all])
  have hR := hrep ρ ti (.ex (pMI Ky V (l1 ++ l2) (some p)) [.mp t]) [(gg, .mapIter (some b) since (seen.push e.born) clock), (b, .map es clock)] (Env.le_refl _)
   ⟨_, _, q1, q2, b, gg, es, clock, since, seen.push e.born, clock, rfl, rfl, rfl, r1, r3, r3, r4, by rw [left_push, hL, filter_one hnd, List.map_append, List.map_append, s1, s3], fun p' hp' => by cases hp'; exact ⟨e, hmemE, seen, rfl, rfl, hk.1, hk.2⟩⟩
  exact h1 l1 p l2 rfl ρ _ _ _ (hs.ok.put (n' := n) (dst := some d) hs.ok.grow0 hd hden hR sat2) trivial
end
def mapAll {κ α : Type} (rd : κ → α → Option Bool) (xs : List (κ × α)) : Option Bool :=
 bif xs.all (fun p => (rd p.1 p.2).isSome) then some (xs.all (fun p => rd p.1 p.2 == some true)) else none
def mapRun {κ α ρ : Type} (rd : κ → α → Option Bool) (u v : ρ) (n : Nat) (xs : List (κ × α)) : Option ρ :=
 bif Nat.blt xs.length n then (match mapAll rd xs with | some true => some u | some false => some v | none => none) else none
theorem mapRun_zero {κ α ρ : Type} {rd : κ → α → Option Bool} {u v : ρ} (xs : List (κ × α)) : mapRun rd u v 0 xs = none := rfl
theorem mapRun_start {κ α ρ : Type} {rd : κ → α → Option Bool} {u v : ρ} {xs : List (κ × α)} {b : Bool} (h : mapAll rd xs = some b) : mapRun rd u v (xs.length + 1) xs = some (bif b then u else v) := by
 unfold mapRun; rw [show Nat.blt xs.length (xs.length + 1) = true by simp [Nat.blt_eq], h]; cases b <;> rfl
theorem mapRun_nil {κ α ρ : Type} {rd : κ → α → Option Bool} {u v : ρ} {n : Nat} {r : ρ} (h : mapRun rd u v n [] = some r) : r = u := by
 unfold mapRun at h
 cases hb : Nat.blt ([] : List (κ × α)).length n with
 | false => rw [hb] at h; cases h
 | true => rw [hb] at h; exact (Option.some.inj h).symm
theorem mapRun_step {κ α ρ : Type} {rd : κ → α → Option Bool} {u v : ρ} {n : Nat} {l1 : List (κ × α)} {p : κ × α} {l2 : List (κ × α)} {r : ρ} (h : mapRun rd u v (n + 1) (l1 ++ p :: l2) = some r) :
  ∃ b, rd p.1 p.2 = some b ∧ (b = true → mapRun rd u v n (l1 ++ l2) = some r) ∧ (b = false → r = v) := by
 unfold mapRun at h
 cases hb : Nat.blt (l1 ++ p :: l2).length (n + 1) with
 | false => rw [hb] at h; cases h
 | true =>
  rw [hb, cond_true] at h
  have hn : (l1 ++ l2).length < n := by simp [Nat.blt_eq] at hb ⊢; omega
  cases ha : (l1 ++ p :: l2).all (fun p => (rd p.1 p.2).isSome) with
  | false => simp only [mapAll, ha, cond_false] at h; cases h
  | true =>
   simp only [mapAll, ha, cond_true] at h
   have ha' := ha
   rw [List.all_append, List.all_cons] at ha'
   simp only [Bool.and_eq_true] at ha'
   obtain ⟨a1, a2, a3⟩ := ha'
   obtain ⟨b, hb2⟩ := Option.isSome_iff_exists.1 a2
   refine ⟨b, hb2, fun hbt => ?_, fun hbf => ?_⟩
   ·subst hbt
    unfold mapRun mapAll
    rw [show Nat.blt (l1 ++ l2).length n = true by simpa [Nat.blt_eq] using hn, cond_true, List.all_append, a1, a3]
    simp only [Bool.and_self, cond_true, List.all_append]
    rw [← h, List.all_append, List.all_cons, hb2]
    simp
   ·subst hbf
    rw [List.all_append, List.all_cons, hb2] at h
    simp at h
    exact h.symm
end Go.HW
namespace Go.HW
open Go Go.RowKit
set_option linter.unusedVariables false
theorem sj {α : Type} {a b : α} (h : some a = some b) : a = b := Option.some.inj h
section
variable {c : C4} {Q : Exit → Act → World → Prop}
theorem U_ {b : TB} (hB : TBOk c.P b) (k : Nat) {p p' : Pos} {L : SL} {H : SH} {n : Nat} {s' : St} (es : List (Ev c)) {cs : List Prop} (hc : allP cs) (g : G4 c Q p' s') (h : drive b c.n false 999 k p L H n es = some (cs, p', s') := by rfl) : G4 c Q p ⟨L, H, n⟩ := RU hB false 999 k es hc h g
theorem I_ {L L' : SL} {H H' : SH} {n n' : Nat} (σ : List Nat) (h1 : lookAll L L' = some (renAll σ L') := by rfl) (h2 : takesH σ H H' = some (renBs σ H') := by rfl) (h3 : idB 0 c.m σ = true := by rfl) (h4 : σ.length = n' := by rfl) : Imp c ⟨L, H, n⟩ ⟨L', H', n'⟩ := Imp.to σ h1 h2 h3 h4
theorem C_ {α : Type} {s : St} {x y : Code} {k : Operand} {K : List Fr} {b : Bool} {A B r : α} (h : (bif b then A else B) = r) (h1 : A = r → b = true → G4 c Q (.code x K) s) (h2 : B = r → b = false → G4 c Q (.code y K) s) (hk : evS s.L k = some (.v (.bool b)) := by rfl) : G4 c Q (.code (.cond k x y) K) s := CD h hk h1 h2
end
section
variable {P : Program} {w0 : World} {F0 : List Blocks} {ρ0 : Env} {N m n' : Nat} {fn : Func} {r : SV} {H' : SH} {L : SL} {H : SH} {n : Nat} {rs : List ResultVar} {ys : List SV}
theorem T_ {t : Tab} (ht : TabOk P t) (hrs : fn.results = rs.toArray) (σ : List Nat) (hy : resS t L H rs = some ys := by rfl) (hr : retS ys = r.ren σ := by rfl) (h2 : takesH σ H H' = some (renBs σ H') := by rfl) (h3 : idB 0 m σ = true := by rfl) (h4 : σ.length = n' := by rfl) :
  G4 (c0 P w0 F0 N ρ0 m) (FinC P fn w0 F0 ρ0 m r H' n') (.exit .ret []) ⟨L, H, n⟩ := RT ht hrs σ hy hr h2 h3 h4
theorem TN_ {t : Tab} (ht : TabOk P t) (hrs : fn.results = rs.toArray) (σ : List Nat) (hy : resS t L H rs = some ys := by rfl) (hr : retS ys = r.ren σ := by rfl) (h2 : takesH σ H H' = some (renBs σ H') := by rfl) (h3 : idB 0 m σ = true := by rfl) (h4 : σ.length = n' := by rfl) :
  G4 (c0 P w0 F0 N ρ0 m) (FinC P fn w0 F0 ρ0 m r H' n') (.exit .normal []) ⟨L, H, n⟩ := RTN ht hrs σ hy hr h2 h3 h4
end
end Go.HW
namespace Go.Proofs
open Go.Shelf
def Tryz.keysA_ren : Go.Shelf.Ren := ⟨fun | 7 => 106 | 10 => 133 | n => n, fun | 23 => 76 | 26 => 3 | 3 => 4 | 28 => 168 | 0 => 0 | 27 => 167 | 33 => 93 | 4 => 4 | n => n, fun | n => n⟩
theorem Tryz.keysA : Go.Proofs.SlLaysZI.n7 Tryz.prog Tryz.keysA_ren := {
 mixed := by kernel_rfl
 f7 := ⟨Tryz.f106.name, by decide, Tryz.func106.trans (congrArg some (by kernel_rfl))⟩
 f10 := ⟨Tryz.f133.name, by decide, Tryz.func133.trans (congrArg some (by kernel_rfl))⟩
 t0 := Tryz.underlying0
 a0 := Tryz.isAgg0
 z0 := Tryz.sizeOf0
 v0 := Tryz.zeroValue0
 t4 := Tryz.underlying4
 a4 := Tryz.isAgg4
 z4 := Tryz.sizeOf4
 v4 := Tryz.zeroValue4
 t23 := Tryz.underlying76
 a23 := Tryz.isAgg76
 z23 := Tryz.sizeOf76
 v23 := Tryz.zeroValue76
 t26 := Tryz.underlying3
 a26 := Tryz.isAgg3
 z26 := Tryz.sizeOf3
 v26 := Tryz.zeroValue3
 t27 := Tryz.underlying167
 a27 := Tryz.isAgg167
 z27 := Tryz.sizeOf167
 v27 := Tryz.zeroValue167
 t28 := Tryz.underlying168
 a28 := Tryz.isAgg168
 z28 := Tryz.sizeOf168
 v28 := Tryz.zeroValue168
 t33 := Tryz.underlying93
 a33 := Tryz.isAgg93
 z33 := Tryz.sizeOf93
 v33 := Tryz.zeroValue93 }
def Tryz.sortedA_ren : Go.Shelf.Ren := ⟨fun | 6 => 105 | 8 => 131 | 9 => 132 | 11 => 149 | 13 => 151 | 12 => 150 | 23 => 168 | 24 => 169 | 14 => 159 | 15 => 160 | 16 => 161 | 17 => 162 | 18 => 163 | 19 => 164 | 20 => 165 | 21 => 166 | 22 => 167 | 25 => 171 | 26 => 172 | 27 => 173 | 28 => 174 | 29 => 175 | 30 => 98 | 31 => 176 | n => n, fun | 26 => 3 | 28 => 168 | 24 => 59 | 0 => 0 | 3 => 3 | 37 => 44 | 48 => 206 | 50 => 120 | 4 => 4 | 40 => 213 | 39 => 212 | 45 => 83 | 5 => 5 | 9 => 9 | 51 => 221 | 55 => 225 | 57 => 227 | 58 => 179 | 33 => 93 | n => n, fun | n => n⟩
theorem Tryz.sortedA : Go.Proofs.SlLaysZI.n6 Tryz.prog Tryz.sortedA_ren := {
 mixed := by kernel_rfl
 f6 := ⟨Tryz.f105.name, by decide, Tryz.func105.trans (congrArg some (by kernel_rfl))⟩
 f8 := ⟨Tryz.f131.name, by decide, Tryz.func131.trans (congrArg some (by kernel_rfl))⟩
 f11 := ⟨Tryz.f149.name, by decide, Tryz.func149.trans (congrArg some (by kernel_rfl))⟩
 t0 := Tryz.underlying0
 a0 := Tryz.isAgg0
 z0 := Tryz.sizeOf0
 v0 := Tryz.zeroValue0
 t24 := Tryz.underlying59
 a24 := Tryz.isAgg59
 z24 := Tryz.sizeOf59
 v24 := Tryz.zeroValue59
 t26 := Tryz.underlying3
 a26 := Tryz.isAgg3
 z26 := Tryz.sizeOf3
 v26 := Tryz.zeroValue3
 t28 := Tryz.underlying168
 a28 := Tryz.isAgg168
 z28 := Tryz.sizeOf168
 v28 := Tryz.zeroValue168
 i26 := by kernel_rfl }
def Tryz.sortA_ren : Go.Shelf.Ren := ⟨fun | 5 => 132 | 8 => 151 | 7 => 150 | 19 => 168 | 20 => 169 | 10 => 159 | 11 => 160 | 12 => 161 | 13 => 162 | 14 => 163 | 15 => 164 | 16 => 165 | 17 => 166 | 18 => 167 | 30 => 171 | 31 => 172 | 32 => 173 | 33 => 174 | 34 => 175 | 35 => 98 | 40 => 176 | n => n, fun | 23 => 59 | 25 => 3 | 3 => 3 | 32 => 44 | 22 => 59 | 0 => 0 | 44 => 206 | 46 => 120 | 4 => 4 | 36 => 213 | 35 => 212 | 41 => 83 | 5 => 5 | 9 => 9 | 53 => 221 | 57 => 225 | 63 => 227 | 64 => 179 | n => n, fun | n => n⟩
theorem Tryz.sortA : Go.Proofs.SlLaysM.n5 Tryz.prog Tryz.sortA_ren := {
 mixed := by kernel_rfl
 f5 := ⟨Tryz.f132.name, by decide, Tryz.func132.trans (congrArg some (by kernel_rfl))⟩
 f7 := ⟨Tryz.f150.name, by decide, Tryz.func150.trans (congrArg some (by kernel_rfl))⟩
 f8 := Tryz.func151.trans (congrArg some (by kernel_rfl))
 f10 := ⟨Tryz.f159.name, by decide, Tryz.func159.trans (congrArg some (by kernel_rfl))⟩
 f11 := ⟨Tryz.f160.name, by decide, Tryz.func160.trans (congrArg some (by kernel_rfl))⟩
 f12 := ⟨Tryz.f161.name, by decide, Tryz.func161.trans (congrArg some (by kernel_rfl))⟩
 f13 := ⟨Tryz.f162.name, by decide, Tryz.func162.trans (congrArg some (by kernel_rfl))⟩
 f14 := ⟨Tryz.f163.name, by decide, Tryz.func163.trans (congrArg some (by kernel_rfl))⟩
 f15 := ⟨Tryz.f164.name, by decide, Tryz.func164.trans (congrArg some (by kernel_rfl))⟩
 f16 := ⟨Tryz.f165.name, by decide, Tryz.func165.trans (congrArg some (by kernel_rfl))⟩
 f17 := ⟨Tryz.f166.name, by decide, Tryz.func166.trans (congrArg some (by kernel_rfl))⟩
 f18 := ⟨Tryz.f167.name, by decide, Tryz.func167.trans (congrArg some (by kernel_rfl))⟩
 f19 := Tryz.func168.trans (congrArg some (by kernel_rfl))
 f20 := Tryz.func169.trans (congrArg some (by kernel_rfl))
 f30 := ⟨Tryz.f171.name, by decide, Tryz.func171.trans (congrArg some (by kernel_rfl))⟩
 f31 := Tryz.func172.trans (congrArg some (by kernel_rfl))
 f32 := Tryz.func173.trans (congrArg some (by kernel_rfl))
 f33 := ⟨Tryz.f174.name, by decide, Tryz.func174.trans (congrArg some (by kernel_rfl))⟩
 f34 := ⟨Tryz.f175.name, by decide, Tryz.func175.trans (congrArg some (by kernel_rfl))⟩
 f35 := ⟨Tryz.f98.name, by decide, Tryz.func98.trans (congrArg some (by kernel_rfl))⟩
 f40 := ⟨Tryz.f176.name, by decide, Tryz.func176.trans (congrArg some (by kernel_rfl))⟩
 t0 := Tryz.underlying0
 a0 := Tryz.isAgg0
 z0 := Tryz.sizeOf0
 v0 := Tryz.zeroValue0
 t3 := Tryz.underlying3
 a3 := Tryz.isAgg3
 z3 := Tryz.sizeOf3
 v3 := Tryz.zeroValue3
 t4 := Tryz.underlying4
 a4 := Tryz.isAgg4
 z4 := Tryz.sizeOf4
 v4 := Tryz.zeroValue4
 t5 := Tryz.underlying5
 a5 := Tryz.isAgg5
 z5 := Tryz.sizeOf5
 v5 := Tryz.zeroValue5
 t9 := Tryz.underlying9
 a9 := Tryz.isAgg9
 z9 := Tryz.sizeOf9
 v9 := Tryz.zeroValue9
 t22 := Tryz.underlying59
 a22 := Tryz.isAgg59
 z22 := Tryz.sizeOf59
 v22 := Tryz.zeroValue59
 t23 := Tryz.underlying59
 a23 := Tryz.isAgg59
 z23 := Tryz.sizeOf59
 v23 := Tryz.zeroValue59
 t25 := Tryz.underlying3
 a25 := Tryz.isAgg3
 z25 := Tryz.sizeOf3
 v25 := Tryz.zeroValue3
 t32 := Tryz.underlying44
 a32 := Tryz.isAgg44
 z32 := Tryz.sizeOf44
 v32 := Tryz.zeroValue44
 t35 := Tryz.underlying212
 a35 := Tryz.isAgg212
 z35 := Tryz.sizeOf212
 v35 := Tryz.zeroValue212
 t36 := Tryz.underlying213
 a36 := Tryz.isAgg213
 z36 := Tryz.sizeOf213
 v36 := Tryz.zeroValue213
 t41 := Tryz.underlying83
 a41 := Tryz.isAgg83
 z41 := Tryz.sizeOf83
 v41 := Tryz.zeroValue83
 t44 := Tryz.underlying206
 a44 := Tryz.isAgg206
 z44 := Tryz.sizeOf206
 v44 := Tryz.zeroValue206
 t46 := Tryz.underlying120
 a46 := Tryz.isAgg120
 z46 := Tryz.sizeOf120
 v46 := Tryz.zeroValue120
 t53 := Tryz.underlying221
 a53 := Tryz.isAgg221
 z53 := Tryz.sizeOf221
 v53 := Tryz.zeroValue221
 t57 := Tryz.underlying225
 a57 := Tryz.isAgg225
 z57 := Tryz.sizeOf225
 v57 := Tryz.zeroValue225
 t63 := Tryz.underlying227
 a63 := Tryz.isAgg227
 z63 := Tryz.sizeOf227
 v63 := Tryz.zeroValue227
 t64 := Tryz.underlying179
 a64 := Tryz.isAgg179
 z64 := Tryz.sizeOf179
 v64 := Tryz.zeroValue179 }
end Go.Proofs
namespace Go.Proofs.YthpjmknpkdoadaaGreat
open Go Go.HW Go.MapKept Go.RowKit Go.Maps Go.Sort Go.Shelf
set_option linter.unusedVariables false
theorem sortsA (m : Nat) : AnyZI.SortsIn Tryz.prog Tryz.sortedA_ren Fence.wide m :=
  ⟨fun blk off cap ss W hH hblk hsz => callsIn_wide.2 (AnyM.slices_Sort_int Tryz.sortA blk off cap ss W hH hblk hsz),
   fun p cap W => callsIn_wide.2 (AnyM.slices_Sort_int_none Tryz.sortA p cap W)⟩
set_option maxHeartbeats 1000000 in
theorem sortedKeys {H : Type} (b nn : Nat) (D0 : DataW H) (R : Value → Option (DataW H × List MemPlace)) (w : World) (hown : w.ownsMap Tryz.prog 3 R b nn D0) (hmax : Maps.size D0 ≤ maxLen) (hbytes : Maps.size D0 * 8 ≤ 140737488355328) :
  Calls Tryz.prog 63 #[.map (some b)] w fun e w' => ∃ (v : Value) (ss : List Int), e = .returned v ∧ ss.Perm (intKeys D0) ∧
   w'.ownsRow w.heap.size 3 1 v ss.length ((ss.mergeSort (fun x y => decide (x ≤ y))).map encZ) ∧ (v = .slice none 0 0 ↔ ss = []) ∧ Below w.heap.size w w' := by
 refine (callsIn_wide (n := 6)).1 ?_
 have hbl := hown.lt
 have hseq : SeqGives Fence.wide 2 Tryz.prog 133 #[.pointer (some ⟨w.heap.size, 0, none⟩)] encZ (fun ss => ss.Perm (intKeys D0)) (Maps.size D0) (w.alloc (.cells #[.map (some b)] 76)) :=
  AnyZI.keys_gives (ρ := Tryz.keysA_ren) { Tryz.keysA with } Fence.wide _ trivial rfl (by omega) w.heap.size b nn D0 _ (by simp) (by simp) (by
   obtain ⟨es, clock, hb, Ft, hs, hD⟩ := hown
   exact ⟨es, clock, (Below.heap_alloc _ _ b hbl).trans hb, Ft, hs, hD⟩)
 have cK : ∀ mb W, CallsIn Fence.wide 5 Tryz.prog 106 #[.map mb] W fun e w' => e = .returned (.func (.func 133) #[] #[.pointer (some ⟨W.heap.size, 0, none⟩)]) ∧ w' = W.alloc (.cells #[.map mb] 76) := fun mb W => AnyZI.keys_in Tryz.keysA Fence.wide 5 trivial rfl mb W
 have cS := AnyZI.sorted_in Tryz.sortedA Fence.wide 5 trivial trivial trivial trivial rfl (by omega) (sortsA _) (enters_of Tryz.func132 (by kernel_rfl) rfl) 133 #[.pointer (some ⟨w.heap.size, 0, none⟩)] trivial (enters_of Tryz.func133 (by kernel_rfl) rfl) _ _ hmax hbytes _ hseq
 change CallsIn _ _ Tryz.prog 105 _ _ _ at cS
 have hfK : Fence.wide.fn 106 := trivial
 have hfS : Fence.wide.fn 105 := trivial
 refine callsIn_of_wp Tryz.func63 rfl trivial ?_ rfl
 simp only [Tryz.ntmps63, List.size_toArray, List.length_cons, List.length_nil, Nat.reduceAdd, Nat.reduceSub, Array.replicate_succ, Array.replicate_zero, List.push_toArray, List.append_toArray, List.nil_append, List.cons_append]
 gi_wp2_with (first
  | (gi_at_call 106; refine (cK _ _).mono ?_; rintro e w' ⟨rfl, rfl⟩)
  | (gi_at_call 105; refine cS.mono ?_; rintro e w' ⟨v, ss, rfl, hS, hrow, hnil, hb⟩))
 go_ret
 exact ⟨v, ss, rfl, hS, ownsRow_base_a hrow (by simp), hnil, ((Below.refl _ w).alloc (Nat.le_refl _) _).trans (hb.mono (by simp))⟩
def okKey (x : Int) : Bool := (Lit.int .i64 x).wf
def fn63 (p0 : List (Int × Bool)) : Option (List Int) :=
 bif decide ((p0.length : Int) ≤ 17592186044416) && p0.all (fun p => okKey p.1) then some ((p0.map (·.1)).mergeSort fun x y => decide (x ≤ y)) else none
theorem cS63 (m_0 : Nat) (p0 : List (Int × Bool)) (Hs_0 : Blocks) (w : World) (r : List Int) (ho_0 : OwnM (Kn.int .i64) (Value.bool) m_0 p0 Hs_0) (hat : HpOk w ⟨[], [Hs_0]⟩) (h : fn63 p0 = some r) :
  Ret Tryz.prog 63 [.map (some m_0)] w ⟨[], [Hs_0]⟩ (fun v R => ∃ sp n cap Hs, v = .slice sp n cap ∧ R = ⟨[], [Hs, Hs_0]⟩ ∧ r.length = n ∧ OwnL (En.int .i64) 3 sp cap r Hs) := by
 obtain ⟨hk, hr⟩ := ck h
 simp only [Bool.and_eq_true, decide_eq_true_eq, List.all_eq_true] at hk
 obtain ⟨hlen, hwf⟩ := hk
 obtain ⟨es, clock, rfl, h1, h2⟩ := ho_0
 have hb : w.heap[m_0]? = some (.map es clock) := hat.1 (m_0, .map es clock) (by simp [Hp.all])
 have hu : Tryz.prog.underlying 3 = some (.int .i64) := Tryz.underlying3
 have hes : es.size = p0.length := by have := congrArg List.length h1; simpa using this
 have hkey : ∀ x ∈ es.toList, ∃ p ∈ p0, x.key = .int .i64 p.1 := fun x hx => by
  have : (x.key, x.val) ∈ p0.map (fun p => ((Kn.int .i64).enc p.1, Value.bool p.2)) := by rw [← h1]; exact List.mem_map.2 ⟨x, hx, rfl⟩
  obtain ⟨p, hp, he⟩ := List.mem_map.1 this
  exact ⟨p, hp, (congrArg Prod.fst he).symm⟩
 let R : Value → Option (DataW Unit × List MemPlace) := fun _ => some (.nil, [])
 have hmx : (17592186044416 : Nat) ≤ maxLen := by decide
 have hkf : ∀ x : Int, okKey x = true → keyOf Tryz.prog 3 (.int .i64 x) = some (.int .i64 x) := fun x hx => by
  unfold okKey at hx
  simp [keyOf, hu, mapKey, hx]
 have F : Go.WideElems.Fit Tryz.prog 3 R es clock := ⟨by omega, h2, fun x hx => by
  obtain ⟨p, hp, he⟩ := hkey x hx
  exact ⟨(.int .i64 p.1, .nil), by simp [Go.WideElems.rd, he, hkf p.1 (hwf p hp), R]⟩⟩
 have hown := World.ownsMap_of_fit hb F (R := R) (fun _ _ _ h => h)
 have hperm : (intKeys (H := Unit) (.map ((es.toList.map (Go.WideElems.rg Tryz.prog 3 R)).foldr DataW.insert []))).Perm (p0.map (·.1)) := by
  have e1 : (es.toList.map (Go.WideElems.rg Tryz.prog 3 R)).map (fun p => Go.intOf p.1) = p0.map (·.1) := by
   apply List.ext_getElem?
   intro i
   have h1i := congrArg (fun l => l[i]?) h1
   simp only [List.getElem?_map] at h1i ⊢
   cases hx : es.toList[i]? with
   | none => rw [hx] at h1i; cases hp : p0[i]? with
    | none => rfl
    | some p => rw [hp] at h1i; cases h1i
   | some x =>
    rw [hx] at h1i
    cases hp : p0[i]? with
    | none => rw [hp] at h1i; cases h1i
    | some p =>
     rw [hp] at h1i
     have hk1 : x.key = .int .i64 p.1 := congrArg Prod.fst (Option.some.inj h1i)
     simp [Go.WideElems.rg, Go.WideElems.rd, hk1, hkf p.1 (hwf p (List.mem_of_getElem? hp)), R, Go.intOf]
  rw [← e1]
  exact (Go.WideShapes.sorted_perm _).map _
 have hsz : Maps.size (H := Unit) (.map ((es.toList.map (Go.WideElems.rg Tryz.prog 3 R)).foldr DataW.insert [])) = p0.length := by
  have := hperm.length_eq
  simpa [intKeys, Maps.size] using this
 refine Calls.mono (sortedKeys m_0 es.size _ R w hown (by rw [hsz]; omega) (by rw [hsz]; omega)) ?_
 rintro e w' ⟨v, ss, rfl, hS, hrow, hnil, hbe⟩
 have hms : ss.mergeSort (fun x y => decide (x ≤ y)) = r := by
  rw [← Option.some.inj hr]; exact mergeSort_of_perm_i (hS.trans hperm)
 have hml : m_0 < w.heap.size := (Array.getElem?_eq_some_iff.1 hb).1
 have hlr : r.length = ss.length := by rw [← hms]; simp
 rw [hms] at hrow
 have hm' : w'.heap[m_0]? = some (.map es clock) := by rw [hbe.block m_0 hml]; exact hb
 have hext : Ext w [m_0] w' := ⟨hbe.os, hbe.tape, hbe.output, hbe.size, fun k hk _ => hbe.block k hk⟩
 rcases hrow.2 with ⟨rfl, h0⟩ | ⟨g, cap, cur, rfl, hg, hgb, q1, q2, q3, q4⟩
 ·have hr0 : r = [] := List.eq_nil_of_length_eq_zero (by omega)
  refine ⟨_, ⟨[], [[], [(m_0, .map es clock)]]⟩, rfl, ⟨by simpa [Hp.all] using hext, by simp [Hp.all], by simpa [Hp.all] using hm', by simp [Hp.all]⟩, none, 0, 0, [], rfl, rfl, by simp [hr0], .inl ⟨rfl, rfl, hr0, rfl⟩⟩
 ·refine ⟨_, ⟨[], [[(g, .cells cur 3 (0, 0))], [(m_0, .map es clock)]]⟩, rfl, ⟨by simpa [Hp.all] using hext, ?_, ?_, ?_⟩, some ⟨g, 0, none⟩, ss.length, cap, _, rfl, rfl, hlr, .inr ⟨g, cur, rfl, rfl, by omega, q2, by simpa [En.int] using q3, ?_⟩⟩
  ·simp [Hp.all]; omega
  ·intro p hp
   simp [Hp.all] at hp
   rcases hp with rfl | rfl
   ·exact hgb
   ·exact hm'
  ·intro p hp
   simp [Hp.all] at hp
   rcases hp with rfl | rfl
   ·exact .inr hg
   ·exact .inl (by simp [Hp.all])
  ·have e2 : (En.int .i64).sz = 1 := rfl
   have e3 : ∀ l : List Int, l.flatMap (En.int .i64).enc = l.map encZ := fun l => by
    induction l with
    | nil => rfl
    | cons x l ih => simp only [List.flatMap_cons, List.map_cons, ih]; rfl
   rw [e2, e3, hlr]; exact q4
theorem c63 (p0 : List (Int × Bool)) (r : List Int) (h : fn63 p0 = some r) : Con Tryz.prog 63 [.mp 0] [(0, .omap (Kn.int .i64) Vn.bool p0)] 1 (.sl 1) [(1, .row (Et.int .i64) 3 r r.length .unk), (0, .omap (Kn.int .i64) Vn.bool p0)] 2 := by
 intro w ρ F vs hv hR hf hh hn
 obtain ⟨f, F2, rfl, ⟨b, b1, b2⟩, hR2⟩ := hR
 obtain rfl : F2 = [] := hR2
 have hvs : vs = [.map (some b)] := by
  have : SV.dens ρ [.mp 0] = some [.map (some b)] := denAll_dens (l := [.mp 0]) ⟨by rw [SV.den, b1]; rfl, trivial⟩
  rw [this] at hv; exact (Option.some.inj hv).symm
 subst hvs
 refine Ret.mono (cS63 b p0 f w r b2 ⟨fun p hp => hh p (by simpa [Hp.all] using hp), by simpa [Hp.all] using hn⟩ h) ?_
 rintro v R ⟨sp, n, cap, Hs, rfl, rfl, rfl, ho⟩
 have hg := Env.set_grow (ρ := ρ) (n := 1) (l := ⟨sp, cap, r.length⟩) hf
 have hle := hg.toLe hf
 refine ⟨cB Tryz.prog w [f], ρ.set 1 ⟨sp, cap, r.length⟩, [Hs, f], rfl, hg, by rw [SV.den, Env.set_self]; rfl, ?_⟩
 exact ⟨Hs, [f], rfl, ⟨sp, cap, Env.set_self, rfl, ho, trivial⟩, f, [], rfl, ⟨b, blkOf_mono hle b1, b2⟩, rfl⟩
end Go.Proofs.YthpjmknpkdoadaaGreat
