/- cmp.Compare, cmp.Or; the closure that (*Caches).All hands to slices.SortFunc. -/
import Derived.Test.YtngmdedoboccoaaMet6
import Derived.Handy
import Derived.Test.YtngmdedoboccoaaSrt
set_option linter.unusedVariables false
set_option linter.unusedSimpArgs false
set_option maxHeartbeats 1000000
set_option maxRecDepth 100000
namespace Go.Proofs.Ytngmdedoboccoaa
open Go Go.RowKit Go.Lib Go.Sort

def cmpI (x y : Int) : Int := if x < y then -1 else if y < x then 1 else 0
theorem Compare_any (x y : Int) (w : World) :
    Calls Try.prog 39 #[.int .i64 x, .int .i64 y] w fun e w' => e = .returned (.int .i64 (cmpI x y)) ∧ w' = w := by
  by_cases h1 : x < y
  · have HC : Hid (cmpI x y = -1) := Lib.hid (by simp [cmpI, h1])
    go_enter Try.func39, Try.ntmps39
    go_wp2
    rw [HC.out]
    go_ret
    exact ⟨rfl, rfl⟩
  · by_cases h2 : y < x
    · have HC : Hid (cmpI x y = 1) := Lib.hid (by simp [cmpI, h1, h2])
      go_enter Try.func39, Try.ntmps39
      go_wp2
      rw [HC.out]
      go_ret
      exact ⟨rfl, rfl⟩
    · have HC : Hid (cmpI x y = 0) := Lib.hid (by simp [cmpI, h1, h2])
      go_enter Try.func39, Try.ntmps39
      go_wp2
      rw [HC.out]
      go_ret
      exact ⟨rfl, rfl⟩
def orI (x y : Int) : Int := if x ≠ 0 then x else y
theorem Or_any (x y : Int) (w : World) (g : Nat) (c : Nat) (h0 : w.cell? ⟨g, 0, none⟩ = some (.int .i64 x)) (h1 : w.cell? ⟨g, 1, none⟩ = some (.int .i64 y)) :
    Calls Try.prog 38 #[.slice (some ⟨g, 0, none⟩) 2 c] w fun e w' => e = .returned (.int .i64 (orI x y)) ∧ w' = w := by
  by_cases hx : x = 0
  · by_cases hy : y = 0
    · have HC : Hid (orI x y = 0) := Lib.hid (by simp [orI, hx, hy])
      subst hx hy
      go_enter Try.func38, Try.ntmps38
      go_wp2
      go_rounds 3
      rw [HC.out]
      go_ret
      exact ⟨rfl, rfl⟩
    · have HC : Hid (orI x y = y) := Lib.hid (by simp [orI, hx])
      subst hx
      go_enter Try.func38, Try.ntmps38
      go_wp2
      go_rounds 3
      rw [HC.out]
      go_ret
      exact ⟨rfl, rfl⟩
  · have HC : Hid (orI x y = x) := Lib.hid (by simp [orI, hx])
    go_enter Try.func38, Try.ntmps38
    go_wp2
    go_rounds 3
    rw [HC.out]
    go_ret
    exact ⟨rfl, rfl⟩
theorem three_grow (w : World) (a b c : Obj) : ({ (w.alloc a).alloc b with drawn := ((w.alloc a).alloc b).drawn + 1 } : World).alloc c = grow (w.drewN 1) #[a, b, c] := by
  rw [drewN_is]
  simp [grow, World.alloc, Array.push]
def itemCmp (a b : Item) : Int := orI (cmpI a.Level b.Level) (cmpI a.Index b.Index)
theorem Cmp_any (x y : Cached) (w : World) :
    Calls Try.prog 37 #[.agg (encCached x), .agg (encCached y)] w fun e w' => e = .returned (.int .i64 (itemCmp x.Item y.Item)) ∧ ∃ q os', w' = grow (w.drewN q) os' := by
  go_enter Try.func37, Try.ntmps37
  go_wp2
  obtain ⟨W, hW⟩ : ∃ W, (w.alloc (Obj.cells (encCached x) 49)).alloc (Obj.cells (encCached y) 49) = W := ⟨_, rfl⟩
  have hg : Grew w W := by subst hW; all_goals repeat (with_reducible first | exact Grew.refl _ | apply Grew.ext | apply Grew.alloc | apply Grew.drew)
  have hx : W.heap[w.heap.size]? = some (.cells (encCached x) 49 (0, 0)) := by subst hW; exact (ha_old _ _ _ (by simp)).trans (ha_new _ _)
  have hy : W.heap[w.heap.size + 1]? = some (.cells (encCached y) 49 (0, 0)) := by
    subst hW
    have := ha_new (w.alloc (Obj.cells (encCached x) 49)) (Obj.cells (encCached y) 49)
    rw [show (w.alloc (Obj.cells (encCached x) 49)).heap.size = w.heap.size + 1 by simp] at this
    exact this
  rw [hW]
  have x0 := ((block_facts hx).1 0).trans (encCached_0 _)
  have x1 := ((block_facts hx).1 1).trans (encCached_1 _)
  have y0 := ((block_facts hy).1 0).trans (encCached_0 _)
  have y1 := ((block_facts hy).1 1).trans (encCached_1 _)
  have HW := Lib.hid hW
  clear hW hx hy
  refine wp_region_still_tail 14 (by kernel_rfl) (by kernel_rfl) ?_
  simp only [List.take_succ_cons, List.take_zero, List.drop_succ_cons, List.drop_zero]
  repeat (first | still_step | still_call (Compare_any _ _ _))
  refine wpStill_nil ?_
  generalize hWd : ({ W with drawn := W.drawn + 1 } : World) = Wd
  have HWd := Lib.hid hWd
  clear hWd hg
  go_wp2_with (go_at_call 38; refine (Or_any (cmpI x.Item.Level y.Item.Level) (cmpI x.Item.Index y.Item.Index) _ _ _ ?_ ?_).mono ?_)
  · simp [go_sem]
  · simp [go_sem]
  rintro e w' ⟨rfl, rfl⟩
  go_wp2
  go_ret
  refine ⟨rfl, 1, #[.cells (encCached x) 49 (0, 0), .cells (encCached y) 49 (0, 0), .cells #[.int .i64 (cmpI x.Item.Level y.Item.Level), .int .i64 (cmpI x.Item.Index y.Item.Index)] 3 (0, 0)], ?_⟩
  rw [← HWd.out, ← HW.out]
  exact three_grow w _ _ _
end Go.Proofs.Ytngmdedoboccoaa
