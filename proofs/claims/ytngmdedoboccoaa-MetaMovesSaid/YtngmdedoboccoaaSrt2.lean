/- slices.SortFunc at a row of the call's own. -/
import Derived.Test.YtngmdedoboccoaaSrt1
set_option linter.unusedVariables false
set_option linter.unusedSimpArgs false
set_option maxHeartbeats 1000000
set_option maxRecDepth 100000
namespace Go.Proofs.Ytngmdedoboccoaa
open Go Go.RowKit Go.Lib

instance : Inhabited Cached := ⟨zCached⟩
def lCached (x : Cached) : List Value := (encCached x).toList
def itemLt (a b : Item) : Prop := a.Level < b.Level ∨ (a.Level = b.Level ∧ a.Index < b.Index)
instance (a b : Item) : Decidable (itemLt a b) := by unfold itemLt; infer_instance
def cfC (x y : Cached) : Int := itemCmp x.Item y.Item
theorem ltOf_item (x y : Cached) : Go.Proofs.ltOf cfC x y = decide (itemLt x.Item y.Item) := by
  have : (itemCmp x.Item y.Item < 0) ↔ itemLt x.Item y.Item := by
    unfold itemCmp orI cmpI itemLt
    split <;> split <;> (try split) <;> (try split) <;> (try split) <;> omega
  unfold Go.Proofs.ltOf cfC
  exact decide_eq_decide.2 this
theorem itemLt_irrefl (a : Item) : ¬ itemLt a a := by unfold itemLt; omega
theorem itemLt_trans {a b c : Item} (h1 : itemLt a b) (h2 : itemLt b c) : itemLt a c := by unfold itemLt at *; omega
theorem itemLt_ntrans {a b c : Item} (h1 : ¬ itemLt a b) (h2 : ¬ itemLt b c) : ¬ itemLt a c := by unfold itemLt at *; omega
theorem swo_item : Go.Sort.SWO (Go.Proofs.ltOf cfC) where
  irrefl x := by rw [ltOf_item]; exact decide_eq_false (itemLt_irrefl _)
  trans x y z h1 h2 := by
    rw [ltOf_item] at h1 h2 ⊢
    exact decide_eq_true (itemLt_trans (of_decide_eq_true h1) (of_decide_eq_true h2))
  ntrans x y z h1 h2 := by
    rw [ltOf_item] at h1 h2 ⊢
    exact decide_eq_false (itemLt_ntrans (of_decide_eq_false h1) (of_decide_eq_false h2))
theorem isAggC (w : World) : (isAgg 49).run Try.prog w = .ok true w := by kernel_rfl
theorem sizeOfC (w : World) : (Go.sizeOf 49).run Try.prog w = .ok 36 w := by kernel_rfl
theorem cmpLaysC (blk off size : Nat) (w : World) : Go.Proofs.CmpLays Try.prog 37 #[] lCached 36 cfC blk off size w :=
  fun _ _ _ _ x y => Cmp_any x y _
theorem flatK_flat (xs : List Cached) (j : Nat) (hj : j < xs.length * 36) : (Go.Sort.flatK lCached 36 xs.toArray)[j]? = (flat encCached xs)[j]? := by
  have h1 : j / 36 < xs.length := by omega
  have h2 : j % 36 < 36 := Nat.mod_lt _ (by omega)
  have h3 := flat_get encCached_size xs (j / 36) (j % 36) xs[j / 36] (List.getElem?_eq_getElem h1) h2
  rw [show j / 36 * 36 + j % 36 = j by omega] at h3
  rw [h3]
  have h4 : j < (Go.Sort.flatK lCached 36 xs.toArray).size := by simp; omega
  have h5 := Go.Sort.get_flatK lCached 36 xs.toArray j (by simpa using hj)
  rw [Array.getElem?_eq_getElem h4]
  rw [getElem!_pos _ j h4] at h5
  rw [h5]
  simp [lCached, h1, h2]
theorem Sort_any {w : World} {base g cap : Nat} {xs : List Cached} (h : Own w base 49 encCached 36 (.slice (some ⟨g, 0, none⟩) xs.length cap) xs) (h64 : xs.length ≤ 4096) :
    Calls Try.prog 36 #[.slice (some ⟨g, 0, none⟩) xs.length cap, .func (.func 37) #[] #[]] w fun e w' =>
      e = .returned (.tuple #[]) ∧ ∃ ys : List Cached, ys.Perm xs ∧ ys.Pairwise (fun a b => ¬ itemLt b.Item a.Item) ∧ Own w' base 49 encCached 36 (.slice (some ⟨g, 0, none⟩) xs.length cap) ys ∧ w.grownBy w' (some g) := by
  have hrow : ∃ cur, base ≤ g ∧ w.heap[g]? = some (.cells cur 49 (0, 0)) ∧ xs.length ≤ cap ∧ cap ≤ maxLen ∧ cur.size = cap * 36 ∧ cur.toList.take (xs.length * 36) = flat encCached xs := by
    rcases h.2 with ⟨h', _⟩ | ⟨g', cap', cur, h', hb, hg, h1, h2, h3, h4⟩
    · cases h'
    · injection h' with e1 e2 e3
      injection e1 with e1
      injection e1 with e1
      subst e1 e3
      exact ⟨cur, hb, hg, h1, h2, h3, h4⟩
  obtain ⟨cur, b1, b2, b3, b4, b5, b6⟩ := hrow
  have hcell : ∀ j, j < xs.length * 36 → cur[j]? = (flat encCached xs)[j]? := fun j hj => by
    rw [← b6, List.getElem?_take, if_pos hj, Array.getElem?_toList]
  have hH : Go.Sort.HoldsK lCached 36 w g 0 xs.toArray := by
    intro j hj
    have hj' : j < xs.length * 36 := by simpa using hj
    refine ⟨?_, frozen_of_row w g _ cur _ b2⟩
    rw [cell_of_row w g _ cur _ _ b2, Nat.zero_add, hcell j hj', ← flatK_flat xs j hj', Array.getElem?_eq_getElem hj]
    exact congrArg some (getElem!_pos _ j hj).symm
  have hlt := lt_of_block b2
  have hc := Go.Proofs.AnyQ.slices_SortFunc Try.sortCached 36 isAggC sizeOfC lCached (fun x => by simp [lCached]) (fun x v hv => Array.all_eq_true_iff_forall_mem.1 (encCached_one x) v (by simpa [lCached] using hv)) cfC swo_item 37 #[] g 0 cap xs.toArray w
    (Go.Proofs.enters_of Try.func37 (by kernel_rfl) rfl) (cmpLaysC _ _ _ _) hH hlt (by simp; omega)
  rw [show (#[Value.slice (some ⟨g, 0, none⟩) xs.toArray.size cap, Value.func (Fn.func 37) #[] #[]] : Array Value) = #[.slice (some ⟨g, 0, none⟩) xs.length cap, .func (.func 37) #[] #[]] by simp] at hc
  refine Calls.mono hc ?_
  rintro e w' ⟨rfl, d', n, os, ⟨hp1, _, hp⟩, hs, rfl⟩
  have hd : d'.size = xs.length := by simpa using hp1
  have hperm : d'.toList.Perm xs := by
    have e1 : d'.extract 0 xs.length = d' := by rw [← hd]; simp
    simp only [List.size_toArray, e1] at hp
    simpa using hp
  have hblk : ∀ c' : World, c' = Go.Proofs.sortWorldK lCached 36 w g 0 n d' os → c'.heap[g]? = some (.cells (Go.Sort.putCells id 0 (Go.Sort.flatK lCached 36 d') cur) 49 (0, 0)) ∧ (∀ k, k < w.heap.size → k ≠ g → c'.heap[k]? = w.heap[k]?) ∧ w.heap.size ≤ c'.heap.size := by
    rintro c' rfl
    unfold Go.Proofs.sortWorldK Go.Sort.putRowK Go.Sort.putRow Go.Sort.mapBlock Go.Sort.ahead Go.Sort.grow
    refine ⟨?_, fun k hk hne => ?_, by simp⟩
    · simp only []
      rw [Array.getElem?_append_left (by simpa using hlt), Array.getElem?_modify, if_pos rfl, b2]
      rfl
    · simp only []
      rw [Array.getElem?_append_left (by simpa using hk), Array.getElem?_modify, if_neg (Ne.symm hne)]
  obtain ⟨k1, k2, k3⟩ := hblk _ rfl
  refine ⟨rfl, d'.toList, hperm, ?_, ⟨by rw [flat_length encCached_size], .inr ⟨g, cap, _, by simp [hd], b1, k1, by simpa [hd] using b3, b4, by simpa [Go.Sort.putCells] using b5, ?_⟩⟩, ⟨rfl, rfl, rfl, k3, fun k hk hne => k2 k hk (by simpa using hne)⟩⟩
  · rw [List.pairwise_iff_getElem]
    intro i j hi hj hij
    have := hs i j (Nat.zero_le _) hij (by simpa [hd] using hj)
    rw [ltOf_item] at this
    have h2 := of_decide_eq_false this
    simpa [getElem!_pos d' i (by simpa using hi), getElem!_pos d' j (by simpa using hj)] using h2
  · have hfl : (flat encCached d'.toList).length = xs.length * 36 := by rw [flat_length encCached_size]; simp [hd]
    apply List.ext_getElem?
    intro j
    rw [List.getElem?_take]
    by_cases hj : j < xs.length * 36
    · have hF := flatK_flat d'.toList j (by simpa [hd] using hj)
      have hsz : (Go.Sort.flatK lCached 36 d').size = xs.length * 36 := by simp [hd]
      have hc : xs.length * 36 ≤ cap * 36 := Nat.mul_le_mul_right _ b3
      simp only [Array.toArray_toList] at hF
      rw [if_pos (by simpa [hd] using hj), ← hF, Array.getElem?_toList]
      unfold Go.Sort.putCells
      rw [Array.getElem?_mapIdx, Array.getElem?_eq_getElem (show j < cur.size by omega), Array.getElem?_eq_getElem (show j < (Go.Sort.flatK lCached 36 d').size by omega)]
      simp only [Option.map_some, Nat.zero_le, true_and, Nat.zero_add, Nat.sub_zero, hsz, if_pos hj, id]
      rw [getElem!_pos _ j (by omega)]
    · rw [if_neg (by simpa [hd] using hj), List.getElem?_eq_none (by omega)]
end Go.Proofs.Ytngmdedoboccoaa
