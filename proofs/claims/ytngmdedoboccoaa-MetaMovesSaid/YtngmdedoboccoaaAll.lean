/- (*Caches).All: all that is cached, sorted by item. -/
import Derived.Test.YtngmdedoboccoaaCon2
set_option linter.unusedVariables false
set_option linter.unusedSimpArgs false
set_option maxHeartbeats 1000000
set_option maxRecDepth 100000
namespace Go.Proofs.Ytngmdedoboccoaa
open Go Go.RowKit

theorem SortOwn_any {w : World} {base : Nat} {v : Value} {xs : List Cached} (h : Own w base 49 encCached 36 v xs) (h64 : xs.length ≤ 4096) :
    Calls Try.prog 36 #[v, .func (.func 37) #[] #[]] w fun e w' =>
      e = .returned (.tuple #[]) ∧ ∃ ys : List Cached, ys.Perm xs ∧ ys.Pairwise (fun a b => ¬ itemLt b.Item a.Item) ∧ Own w' base 49 encCached 36 v ys ∧ w.grownBy w' v.ownBlock := by
  by_cases h0 : xs = []
  · subst h0
    obtain ⟨A, c, hv, _, _⟩ := h.shape
    subst hv
    refine Calls.mono (Go.Proofs.AnyF.slices_SortFunc_none Try.sortCached A c _ w) ?_
    rintro e w' ⟨rfl, rfl⟩
    exact ⟨rfl, [], .refl _, .nil, h, ⟨rfl, rfl, rfl, Nat.le_refl _, fun _ _ _ => rfl⟩⟩
  · obtain ⟨g, cap, cur, hv, _⟩ := h.block (List.length_pos_iff.2 h0)
    subst hv
    exact Sort_any h h64
theorem flatten_le : ∀ (l : List (List Cached)), (∀ xs ∈ l, xs.length ≤ 64) → l.flatten.length ≤ l.length * 64
  | [], _ => by simp
  | x :: l, h => by
    have h1 := h x (by simp)
    have h2 := flatten_le l fun y hy => h y (by simp [hy])
    simp only [List.flatten_cons, List.length_append, List.length_cons]; omega
theorem AllM_any {w : World} {a : Nat} {S : MC} {fp : List Nat} (h : MRep w a S fp) :
    Calls Try.prog 11 #[.pointer (some ⟨a, 0, none⟩)] w fun e w' =>
      ∃ (v : Value) (ys : List Cached), e = .returned v ∧ ys.Perm S.banks.flatten ∧ ys.Pairwise (fun a b => ¬ itemLt b.Item a.Item) ∧ Own w' w.heap.size 49 encCached 36 v ys ∧ Grew w w' := by
  obtain ⟨bb, hs, rfl, hn, h1, h2, h3, h4, h5, h6⟩ := h
  obtain ⟨hA, hM, hR, hH, la⟩ := head_facts h1
  have HC := Lib.hid (Concat_any h2 h3 h4 h5 h6)
  have HL := Lib.hid (flatten_le S.banks h6)
  clear hn h1 h2 h3 h5 h6
  go_enter Try.func11, Try.ntmps11
  go_wp2_with (go_at_call 35; refine HC.out.mono ?_; rintro e w' ⟨v, rfl, ho, x, rfl⟩; have HO := Lib.hid ho; clear ho)
  refine (SortOwn_any HO.out (by have := HL.out; omega)).mono ?_
  rintro e w1 ⟨rfl, ys, k1, k2, k3, k4⟩
  have HK := Lib.hid (And.intro k1 (And.intro k2 (And.intro k3 k4)))
  clear k1 k2 k3 k4
  go_wp2
  go_ret
  obtain ⟨k1, k2, k3, k4⟩ := HK.out
  exact ⟨_, ys, rfl, k1, k2, k3, ((Grew.refl w).ext x).grown k4 fun k hk => (HO.out.lt k hk).1⟩
end Go.Proofs.Ytngmdedoboccoaa
