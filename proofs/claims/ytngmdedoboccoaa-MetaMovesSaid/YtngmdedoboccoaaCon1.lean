/- Appending a row of the call's own to another one; slices.Grow. -/
import Derived.Test.YtngmdedoboccoaaSrt2
import Derived.Laws.AppendOwnNone
set_option linter.unusedVariables false
set_option linter.unusedSimpArgs false
set_option maxHeartbeats 1000000
set_option maxRecDepth 100000
namespace Go.Proofs.Ytngmdedoboccoaa
open Go Go.RowKit Go.Lib

theorem app_rows {P : Program} {ops : Array Oper} {rest : List Oper} {o : Oper} {a : Act} {Q : Exit → Act → World → Prop} {α : Type} {t e : TypeId} {enc : α → Array Value} {k bytes : Nat} (H : Elt P t e enc k bytes)
    (hgd : o.guard = none) (s x : Operand) (ho : o.op = .call { callee := .builtin .append, args := #[s, x], argTypes := #[t, t] })
    {w : World} {base base' : Nat} {v u : Value} {xs ys : List α} (hown : Own w base e enc k v xs) (hu : Own w base' e enc k u ys)
    (hs : a.eval s = v) (hx : a.eval x = u) (hl : (xs.length + ys.length) * bytes ≤ 140737488355328) (hb0 : 0 < bytes) (hbase : base ≤ w.heap.size)
    (h : ∀ v' w', Own w' base e enc k v' (xs ++ ys) → w.grownBy w' v.ownBlock → wpList P ops Q rest (a.put o.dst v') w') : wpList P ops Q (o :: rest) a w := by
  obtain ⟨ht, ⟨i, z, hi, hz, h1, h2, h3⟩, hp, hsz, hone⟩ := H
  have hlen : xs.length + ys.length ≤ 140737488355328 := Nat.le_trans (Nat.le_mul_of_pos_right _ hb0) hl
  rcases hu.2 with ⟨hu0, hn⟩ | ⟨g, cap, cur, hu0, hb, hg, c1, c2, c3, c4⟩
  · have hy : ys = [] := List.eq_nil_of_length_eq_zero hn
    subst hy
    refine wpList_append_own_none hgd s x t ho base e i k ht hi v xs.length (flat enc xs) hs hown (by rw [hx, hu0]) ?_
    refine h v w (by rw [List.append_nil]; exact hown) ⟨rfl, rfl, rfl, Nat.le_refl _, fun _ _ _ => rfl⟩
  · refine wpList_append_own w hgd s x t ho base e i z k bytes ht hi hz h1 h2 h3 hp v xs.length (flat enc xs) hs hown ⟨g, 0, none⟩ ys.length cap (flat enc ys) (by rw [hx, hu0]) (flat_length hsz ys) (fun j u hju => ?_) (flat_cells hone ys) (by simp only [maxLen]; omega) hl hbase ?_
    · have e1 : (⟨g, 0, none⟩ : Addr).add j = ⟨g, j, none⟩ := by rw [Addr.add_mid]; simp
      rw [e1, cell_of_row w g j _ _ _ hg]
      rw [← c4, List.getElem?_take] at hju
      split at hju
      · simpa using hju
      · cases hju
    · intro v' w' hown' hgr _
      refine h v' w' ?_ hgr
      unfold Own
      rw [List.length_append, flat_append]
      exact hown'
theorem Grow_any (n : Nat) (hn : n ≤ 4096) (w : World) :
    Calls Try.prog 59 #[.slice none 0 0, .int .i64 n] w fun e w' => ∃ v, e = .returned v ∧ Own w' w.heap.size 49 encCached 36 v [] ∧ Grew w w' := by
  by_cases h0 : n = 0
  · subst h0
    have h := Go.Proofs.Any8.slices_Grow_room Try.growCached none 0 0 0 w (Nat.le_refl _) (by omega) (by omega) (by omega)
    refine Calls.mono h ?_
    rintro e w' ⟨rfl, rfl⟩
    exact ⟨_, rfl, Own.nil _ _ _ _ _, Grew.refl _⟩
  · obtain ⟨i, z, hi, hz, h1, h2, h3⟩ := eltCached.info
    have h := Go.Proofs.Any8.slices_Grow_grow Try.growCached i z hi hz (by omega) none 0 0 n [] w (Nat.le_refl _) (by omega) (by rw [h2]; omega) (by omega) (by simp) (fun _ => rfl) (fun a ha => by cases ha)
    refine Calls.mono h ?_
    rintro e w' ⟨rfl, rfl⟩
    refine ⟨_, rfl, ?_, (Grew.drew (Grew.refl _)).alloc _⟩
    have hge := grownCap_ge w (0 + n) 0 49
    refine ⟨rfl, .inr ⟨w.heap.size, _, _, rfl, Nat.le_refl _, ha_new w.drew _, Nat.zero_le _, grownCap_le_maxLen w _ _ _ (by simp only [maxLen]; omega), ?_, rfl⟩⟩
    simp only [Array.size_append, size_zeroCells, h3]
    show 0 + (0 + n - 0) * 36 + (grownCap w (0 + n) 0 49 - (0 + n)) * 36 = grownCap w (0 + n) 0 49 * 36
    omega
end Go.Proofs.Ytngmdedoboccoaa
