/- Iterators that share a row with their consumer. -/
import Derived.Test.YtbpldfhehpjbaaaHwNest
import Derived.Test.YtbpldfhehpjbaaaHwRounds
namespace Go.HW
open Go Go.RowKit
set_option linter.unusedVariables false

/-- the consumer's state has a list 'get' that lies in the row of block b; another one may be put in its place -/
def LensB {σ α : Type} (N : En α) (e b T : Nat) (get : σ → List α) (put : List α → σ → σ) (J : σ → Blocks → Prop) : Prop :=
  ∀ s Hs, J s Hs → ∃ sp n cap row X, Hs.Perm ((b, .cells #[.slice sp n cap] T) :: (row ++ X)) ∧ (get s).length = n ∧ OwnL N e sp cap (get s) row ∧
    ∀ sp' n' cap' row' xs', xs'.length = n' → OwnL N e sp' cap' xs' row' → ∃ Hs', J (put xs' s) Hs' ∧ Hs'.Perm ((b, .cells #[.slice sp' n' cap'] T) :: (row' ++ X))
def LensI {σ α : Type} (N : En α) (e b T : Nat) (get : σ → List α) (put : List α → σ → σ) (I : σ → Hp → Prop) : Prop :=
  ∀ s H, I s H → ∃ sp n cap row X, H.all.Perm ((b, .cells #[.slice sp n cap] T) :: (row ++ X)) ∧ (get s).length = n ∧ OwnL N e sp cap (get s) row ∧
    ∀ sp' n' cap' row' xs', xs'.length = n' → OwnL N e sp' cap' xs' row' → ∃ H', I (put xs' s) H' ∧ H'.all.Perm ((b, .cells #[.slice sp' n' cap'] T) :: (row' ++ X))

theorem lens_comp {σ α : Type} {N : En α} {e b T : Nat} {get : σ → List α} {put : List α → σ → σ} {I : σ → Hp → Prop} {J : σ × Nat → Blocks → Prop} (hI : LensI N e b T get put I) (hJ : JDec I J) :
    LensB N e b T (fun s : σ × Nat => get s.1) (fun xs s => (put xs s.1, s.2)) J := by
  rintro ⟨s, m⟩ Hs hj
  obtain ⟨H', X, hi, hp, hback⟩ := hJ s m Hs hj
  obtain ⟨sp, n, cap, row, Y, h1, h2, h3, h4⟩ := hI s H' hi
  have mv : ∀ (q : Nat × Obj) (row' : Blocks), (X ++ (q :: (row' ++ Y))).Perm (q :: (row' ++ (Y ++ X))) := fun q row' => by
    refine (List.perm_append_comm).trans ?_
    simp only [List.cons_append, List.append_assoc]
    exact List.Perm.refl _
  refine ⟨sp, n, cap, row, Y ++ X, hp.trans ((List.Perm.append_left X h1).trans (mv _ _)), h2, h3, fun sp' n' cap' row' xs' h5 h6 => ?_⟩
  obtain ⟨H'', h7, h8⟩ := h4 sp' n' cap' row' xs' h5 h6
  obtain ⟨Hs', h9, h10⟩ := hback _ _ h7
  exact ⟨Hs', h9, h10.trans ((List.Perm.append_left X h8).trans (mv _ _))⟩

theorem pull_perm {E E' : Blocks} {S S' : List Blocks} {i j : Nat} {p : Nat × Obj} {row : Blocks} (hE : takeB E i = some (p, E')) (hS : takeS1 S j = some (row, S')) :
    (⟨E, S⟩ : Hp).all.Perm (p :: (row ++ (⟨E', S'⟩ : Hp).all)) := by
  have p1 := takeB_perm hE
  have p2 := (takeS1_perm hS).flatten
  simp only [Hp.all, List.flatten_cons] at p2 ⊢
  refine (List.Perm.append p1.symm p2.symm).trans ?_
  simp only [List.cons_append]
  refine List.Perm.cons _ ?_
  rw [← List.append_assoc, ← List.append_assoc]
  exact List.Perm.append_right _ List.perm_append_comm

theorem open_perm {p : Nat × Obj} {q : Nat × Obj} {Hs row X : Blocks} (h : Hs.Perm (p :: (row ++ X))) : (⟨[p, q], [row, X]⟩ : Hp).all.Perm (⟨[q], [Hs]⟩ : Hp).all := by
  simp only [Hp.all, List.flatten_cons, List.flatten_nil, List.append_nil, List.cons_append, List.nil_append]
  refine (List.Perm.swap q p _).trans ?_
  exact List.Perm.cons _ h.symm
end Go.HW
namespace Go.HW
theorem open_permA {A : Blocks} {p : Nat × Obj} {q : Nat × Obj} {Hs row X : Blocks} (h : Hs.Perm (p :: (row ++ X))) : (⟨A ++ [p, q], [row, X]⟩ : Hp).all.Perm (⟨A ++ [q], [Hs]⟩ : Hp).all := by
  have := open_perm (q := q) h
  simp only [Hp.all, List.append_assoc] at this ⊢
  exact List.Perm.append_left A this
end Go.HW
namespace Go.HW
/-! ### a frame: rows that stand aside -/
theorem Sat.back {P : Program} {ro : Option Nat} {w0 w w' : World} {R0 : List Nat} {n : Nat} {ds ds' : List Deferred} {L0 L : Slots} {R F H : Hp} {a0 a : Act} (s : Sat ⟨P, ro, w0, R0, n, ds⟩ L0 (R.add F) a0 w)
    (s2 : Sat ⟨P, ro, w, R.all.map (·.1), n, ds'⟩ L H a w') : Sat ⟨P, ro, w0, R0, n, ds'⟩ L (H.add F) a w' := by
  have t := s.eff (R' := H) ⟨s2.ext, s2.nodup, s2.heap, s2.own⟩
  exact ⟨s2.size, s2.defers, s2.slots, t.ext, t.nodup, t.heap, t.own⟩
theorem TE.unframe {P : Program} {ro : Option Nat} {w0 w : World} {R0 : List Nat} {n : Nat} {ds ds' : List Deferred} {L0 L : Slots} {R F H : Hp} {a0 : Act} {Q : Exit → Act → World → Prop} {e : Exit} (s : Sat ⟨P, ro, w0, R0, n, ds⟩ L0 (R.add F) a0 w)
    (h : TE Q e ⟨P, ro, w0, R0, n, ds'⟩ L (H.add F)) : TE Q e ⟨P, ro, w, R.all.map (·.1), n, ds'⟩ L H := fun a w' s2 => h a w' (s.back s2)
theorem TC.frame {P : Program} {ro : Option Nat} {w0 : World} {R0 : List Nat} {n : Nat} {ds : List Deferred} {L : Slots} {Q : Exit → Act → World → Prop} {x : Code} {E : Blocks} {S S1 Fs : List Blocks} (fs : List Nat) (hS : takeSs S fs = some (Fs, S1))
    (h : ∀ a w, Sat ⟨P, ro, w0, R0, n, ds⟩ L ((⟨E, S1⟩ : Hp).add ⟨[], Fs⟩) a w → TC ⟨P, ro, w, (⟨E, S1⟩ : Hp).all.map (·.1), n, ds⟩ x Q L ⟨E, S1⟩) : TC ⟨P, ro, w0, R0, n, ds⟩ x Q L ⟨E, S⟩ := by
  intro a w s
  have hp : ((⟨E, S1⟩ : Hp).add ⟨[], Fs⟩).all.Perm (⟨E, S⟩ : Hp).all := by
    simp only [Hp.add, List.append_nil]
    exact Hp.perm_of (List.Perm.refl _) (List.perm_append_comm.trans (takeSs_perm hS))
  have s' := s.perm hp
  have hq := Hp.add_perm ⟨E, S1⟩ ⟨[], Fs⟩
  refine h a w s' a w ⟨s'.size, s'.defers, s'.slots, Ext.refl _ _, ?_, fun p hp => s'.heap p (hq.mem_iff.2 (List.mem_append.2 (.inl hp))), fun p hp => .inl (List.mem_map.2 ⟨p, hp, rfl⟩)⟩
  have := (hq.map (·.1)).nodup_iff.1 s'.nodup
  rw [List.map_append, List.nodup_append] at this
  exact this.1
end Go.HW
