import Derived.Test.YtbpldfhehpjbaaaKyLay
import Derived.Shelf.AbstractIn
import Derived.Test.YtbpldfhehpjbaaaHwShare
namespace Go.Proofs.Ytbpldfhehpjbaaa
open Go Go.HW Go.MapKept Go.RowKit Go.Maps Go.Sort Go.Shelf
set_option linter.unusedVariables false
theorem sortsA (m : Nat) : AnyZI.SortsIn Try.prog Try.sortedA_ren Fence.wide m :=
  ⟨fun blk off cap ss W hH hblk hsz => callsIn_wide.2 (AnyM.slices_Sort_int Try.sortA blk off cap ss W hH hblk hsz),
   fun p cap W => callsIn_wide.2 (AnyM.slices_Sort_int_none Try.sortA p cap W)⟩
set_option maxHeartbeats 1000000 in
theorem sortedKeys {H : Type} (b nn : Nat) (D0 : DataW H) (R : Value → Option (DataW H × List MemPlace)) (w : World) (hown : w.ownsMap Try.prog 3 R b nn D0) (hmax : Maps.size D0 ≤ maxLen) (hbytes : Maps.size D0 * 8 ≤ 140737488355328) :
    Calls Try.prog 52 #[.map (some b)] w fun e w' => ∃ (v : Value) (ss : List Int), e = .returned v ∧ ss.Perm (intKeys D0) ∧
      w'.ownsRow w.heap.size 3 1 v ss.length ((ss.mergeSort (fun x y => decide (x ≤ y))).map encZ) ∧ (v = .slice none 0 0 ↔ ss = []) ∧ Below w.heap.size w w' := by
  refine (callsIn_wide (n := 6)).1 ?_
  have hbl := hown.lt
  have hseq : SeqGives Fence.wide 2 Try.prog 84 #[.pointer (some ⟨w.heap.size, 0, none⟩)] encZ (fun ss => ss.Perm (intKeys D0)) (Maps.size D0) (w.alloc (.cells #[.map (some b)] 53)) :=
    AnyZI.keys_gives (ρ := Try.keysA_ren) { Try.keysA with } Fence.wide _ trivial rfl (by omega) w.heap.size b nn D0 _ (by simp) (by simp) (by
      obtain ⟨es, clock, hb, Ft, hs, hD⟩ := hown
      exact ⟨es, clock, (Below.heap_alloc _ _ b hbl).trans hb, Ft, hs, hD⟩)
  have cK : ∀ mb W, CallsIn Fence.wide 5 Try.prog 75 #[.map mb] W fun e w' => e = .returned (.func (.func 84) #[] #[.pointer (some ⟨W.heap.size, 0, none⟩)]) ∧ w' = W.alloc (.cells #[.map mb] 53) := fun mb W => AnyZI.keys_in Try.keysA Fence.wide 5 trivial rfl mb W
  have cS := AnyZI.sorted_in Try.sortedA Fence.wide 5 trivial trivial trivial trivial rfl (by omega) (sortsA _) (enters_of Try.func83 (by kernel_rfl) rfl) 84 #[.pointer (some ⟨w.heap.size, 0, none⟩)] trivial (enters_of Try.func84 (by kernel_rfl) rfl) _ _ hmax hbytes _ hseq
  change CallsIn _ _ Try.prog 74 _ _ _ at cS
  have hfK : Fence.wide.fn 75 := trivial
  have hfS : Fence.wide.fn 74 := trivial
  refine callsIn_of_wp Try.func52 rfl trivial ?_ rfl
  simp only [Try.ntmps52, List.size_toArray, List.length_cons, List.length_nil, Nat.reduceAdd, Nat.reduceSub, Array.replicate_succ, Array.replicate_zero, List.push_toArray, List.append_toArray, List.nil_append, List.cons_append]
  gi_wp2_with (first
    | (gi_at_call 75; refine (cK _ _).mono ?_; rintro e w' ⟨rfl, rfl⟩)
    | (gi_at_call 74; refine cS.mono ?_; rintro e w' ⟨v, ss, rfl, hS, hrow, hnil, hb⟩))
  go_ret
  exact ⟨v, ss, rfl, hS, ownsRow_base_a hrow (by simp), hnil, ((Below.refl _ w).alloc (Nat.le_refl _) _).trans (hb.mono (by simp))⟩

def okKey (x : Int) : Bool := (Lit.int .i64 x).wf
/-- the keys of a set, in order -/
def fn52 (p0 : List (Int × Bool)) : Option (List Int) :=
  bif decide ((p0.length : Int) ≤ 17592186044416) && p0.all (fun p => okKey p.1) then some ((p0.map (·.1)).mergeSort fun x y => decide (x ≤ y)) else none

theorem c52 (m_0 : Nat) (p0 : List (Int × Bool)) (Hs_0 : Blocks) (w : World) (r : List Int) (ho_0 : OwnM (Kn.int .i64) (Value.bool) m_0 p0 Hs_0) (hat : HpOk w ⟨[], [Hs_0]⟩) (h : fn52 p0 = some r) :
    Ret Try.prog 52 [.map (some m_0)] w ⟨[], [Hs_0]⟩ (fun v R => ∃ sp n cap Hs, v = .slice sp n cap ∧ R = ⟨[], [Hs, Hs_0]⟩ ∧ r.length = n ∧ OwnL (En.int .i64) 3 sp cap r Hs) := by
  obtain ⟨hk, hr⟩ := ck h
  simp only [Bool.and_eq_true, decide_eq_true_eq, List.all_eq_true] at hk
  obtain ⟨hlen, hwf⟩ := hk
  obtain ⟨es, clock, rfl, h1, h2⟩ := ho_0
  have hb : w.heap[m_0]? = some (.map es clock) := hat.1 (m_0, .map es clock) (by simp [Hp.all])
  have hu : Try.prog.underlying 3 = some (.int .i64) := Try.underlying3
  have hes : es.size = p0.length := by have := congrArg List.length h1; simpa using this
  have hkey : ∀ x ∈ es.toList, ∃ p ∈ p0, x.key = .int .i64 p.1 := fun x hx => by
    have : (x.key, x.val) ∈ p0.map (fun p => ((Kn.int .i64).enc p.1, Value.bool p.2)) := by rw [← h1]; exact List.mem_map.2 ⟨x, hx, rfl⟩
    obtain ⟨p, hp, he⟩ := List.mem_map.1 this
    exact ⟨p, hp, (congrArg Prod.fst he).symm⟩
  let R : Value → Option (DataW Unit × List MemPlace) := fun _ => some (.nil, [])
  have hmx : (17592186044416 : Nat) ≤ maxLen := by decide
  have hkf : ∀ x : Int, okKey x = true → keyOf Try.prog 3 (.int .i64 x) = some (.int .i64 x) := fun x hx => by
    unfold okKey at hx
    simp [keyOf, hu, mapKey, hx]
  have F : Go.WideElems.Fit Try.prog 3 R es clock := ⟨by omega, h2, fun x hx => by
    obtain ⟨p, hp, he⟩ := hkey x hx
    exact ⟨(.int .i64 p.1, .nil), by simp [Go.WideElems.rd, he, hkf p.1 (hwf p hp), R]⟩⟩
  have hown := World.ownsMap_of_fit hb F (R := R) (fun _ _ _ h => h)
  have hperm : (intKeys (H := Unit) (.map ((es.toList.map (Go.WideElems.rg Try.prog 3 R)).foldr DataW.insert []))).Perm (p0.map (·.1)) := by
    have e1 : (es.toList.map (Go.WideElems.rg Try.prog 3 R)).map (fun p => Go.intOf p.1) = p0.map (·.1) := by
      apply List.ext_getElem?
      intro i
      have h1i := congrArg (fun l => l[i]?) h1
      simp only [List.getElem?_map] at h1i ⊢
      cases hx : es.toList[i]? with
      | none => rw [hx] at h1i; cases hp : p0[i]? with
        | none => rfl
        | some p => rw [hp] at h1i; cases h1i
      | some x =>
        rw [hx] at h1i
        cases hp : p0[i]? with
        | none => rw [hp] at h1i; cases h1i
        | some p =>
          rw [hp] at h1i
          have hk1 : x.key = .int .i64 p.1 := congrArg Prod.fst (Option.some.inj h1i)
          simp [Go.WideElems.rg, Go.WideElems.rd, hk1, hkf p.1 (hwf p (List.mem_of_getElem? hp)), R, Go.intOf]
    rw [← e1]
    exact (Go.WideShapes.sorted_perm _).map _
  have hsz : Maps.size (H := Unit) (.map ((es.toList.map (Go.WideElems.rg Try.prog 3 R)).foldr DataW.insert [])) = p0.length := by
    have := hperm.length_eq
    simpa [intKeys, Maps.size] using this
  refine Calls.mono (sortedKeys m_0 es.size _ R w hown (by rw [hsz]; omega) (by rw [hsz]; omega)) ?_
  rintro e w' ⟨v, ss, rfl, hS, hrow, hnil, hbe⟩
  have hms : ss.mergeSort (fun x y => decide (x ≤ y)) = r := by
    rw [← Option.some.inj hr]; exact mergeSort_of_perm_i (hS.trans hperm)
  have hml : m_0 < w.heap.size := (Array.getElem?_eq_some_iff.1 hb).1
  have hlr : r.length = ss.length := by rw [← hms]; simp
  rw [hms] at hrow
  have hm' : w'.heap[m_0]? = some (.map es clock) := by rw [hbe.block m_0 hml]; exact hb
  have hext : Ext w [m_0] w' := ⟨hbe.os, hbe.tape, hbe.output, hbe.size, fun k hk _ => hbe.block k hk⟩
  rcases hrow.2 with ⟨rfl, h0⟩ | ⟨g, cap, cur, rfl, hg, hgb, q1, q2, q3, q4⟩
  · have hr0 : r = [] := List.eq_nil_of_length_eq_zero (by omega)
    refine ⟨_, ⟨[], [[], [(m_0, .map es clock)]]⟩, rfl, ⟨by simpa [Hp.all] using hext, by simp [Hp.all], by simpa [Hp.all] using hm', by simp [Hp.all]⟩, none, 0, 0, [], rfl, rfl, by simp [hr0], .inl ⟨rfl, rfl, hr0, rfl⟩⟩
  · refine ⟨_, ⟨[], [[(g, .cells cur 3 (0, 0))], [(m_0, .map es clock)]]⟩, rfl, ⟨by simpa [Hp.all] using hext, ?_, ?_, ?_⟩, some ⟨g, 0, none⟩, ss.length, cap, _, rfl, rfl, hlr, .inr ⟨g, cur, rfl, rfl, by omega, q2, by simpa [En.int] using q3, ?_⟩⟩
    · simp [Hp.all]; omega
    · intro p hp
      simp [Hp.all] at hp
      rcases hp with rfl | rfl
      · exact hgb
      · exact hm'
    · intro p hp
      simp [Hp.all] at hp
      rcases hp with rfl | rfl
      · exact .inr hg
      · exact .inl (by simp [Hp.all])
    · have e2 : (En.int .i64).sz = 1 := rfl
      have e3 : ∀ l : List Int, l.flatMap (En.int .i64).enc = l.map encZ := fun l => by
        induction l with
        | nil => rfl
        | cons x l ih => simp only [List.flatMap_cons, List.map_cons, ih]; rfl
      rw [e2, e3, hlr]; exact q4
end Go.Proofs.Ytbpldfhehpjbaaa
