/- Package region: Item and Parent. -/
import Derived.Test.YtngmdedoboccoaaReg2
set_option linter.unusedVariables false
set_option linter.unusedSimpArgs false
set_option maxHeartbeats 1000000
set_option maxRecDepth 100000
namespace Go.Proofs.Ytngmdedoboccoaa
open Go Go.RowKit

theorem item_bd {p : Plan} {x : Item} (h : p.item x = true) : 0 ≤ x.Level ∧ x.Level < p.levels ∧ 0 ≤ x.Index ∧ x.Index < 16 ∧ p.right = true := by
  simp [Plan.item] at h
  obtain ⟨⟨h1, h2⟩, h3⟩ := h
  have hw := width_bd p x.Level
  have hlt : 0 ≤ x.Level ∧ x.Level < p.levels := by
    unfold Plan.width at h3
    split at h3
    · omega
    · rename_i h0
      refine ⟨by omega, ?_⟩
      unfold Plan.levels
      by_cases hl : x.Level.toNat < p.widths.length
      · omega
      · rw [List.getD_eq_getElem?_getD, List.getElem?_eq_none (by omega)] at h3
        simp at h3; omega
  exact ⟨hlt.1, hlt.2, h2, by omega, h1⟩
def Plan.place (p : Plan) (x : Item) : Int := p.items + (aheadN p x.Level.toNat + x.Index) * 32
theorem Item_yes (p : Plan) (x : Item) (h : p.item x = true) (w : World) :
    Calls Try.prog 30 #[.agg (encPlan p), .agg (encItem x)] w fun e w' => e = .returned (.tuple #[.int .i64 (p.place x), .bool true]) ∧ Grew w w' := by
  obtain ⟨h1, h2, h3, h4, h5⟩ := item_bd h
  obtain ⟨l1, l2⟩ := levels_le p
  obtain ⟨a1, a2⟩ := all_bd p
  have t1 : 0 ≤ p.items := by unfold Plan.items Plan.tags; omega
  have t2 : p.items ≤ 8192 := by unfold Plan.items Plan.tags; omega
  obtain ⟨b1, b2⟩ := aheadN_bd p x.Level.toNat
  obtain ⟨L, I⟩ := x
  simp only at h1 h2 h3 h4 b1 b2
  obtain ⟨k, rfl⟩ := Int.eq_ofNat_of_zero_le h1
  rw [Int.toNat_natCast] at b1 b2
  have HD : Hid (p.place ⟨k, I⟩ = p.items + (aheadN p k + I) * 32) := Lib.hid (by simp [Plan.place])
  have HI := Lib.hid h
  clear h
  go_enter Try.func30, Try.ntmps30
  go_wp2_with (go_at_call 55; refine (item_any _ ⟨k, I⟩ _).mono ?_; rintro e w' ⟨rfl, x, rfl⟩; rw [HI.out])
  (first | refine wp_region_calm_ext (by kernel_rfl) (by kernel_rfl) ?_ | refine wp_region_calm (by kernel_rfl) (by kernel_rfl) ?_)
  repeat (go_big_quiet_step (first | (go_at_call 56; exact Calls.calm (items_any _ _)) | (go_at_call 57; exact Calls.calm (ahead_any _ _ (by omega) _))))
  refine wpQuiet_nil ?_
  rintro _ ⟨y, rfl⟩
  go_wp2
  all_goals go_ret2
  all_goals refine ⟨by rw [HD.out]; rfl, ?_⟩
  all_goals repeat (with_reducible first | exact Grew.refl _ | apply Grew.ext | apply Grew.alloc | apply Grew.drew)
theorem Item_no (p : Plan) (x : Item) (h : p.item x = false) (w : World) :
    Calls Try.prog 30 #[.agg (encPlan p), .agg (encItem x)] w fun e w' => e = .returned (.tuple #[.int .i64 0, .bool false]) ∧ Grew w w' := by
  have HI := Lib.hid h
  clear h
  go_enter Try.func30, Try.ntmps30
  go_wp2_with (go_at_call 55; refine (item_any _ x _).mono ?_; rintro e w' ⟨rfl, x, rfl⟩; rw [HI.out])
  all_goals go_ret2
  all_goals refine ⟨rfl, ?_⟩
  all_goals repeat (with_reducible first | exact Grew.refl _ | apply Grew.ext | apply Grew.alloc | apply Grew.drew)
def Plan.parent (p : Plan) (x : Item) : Option (Item × Int) := if p.item x && decide (x.Level + 1 < p.levels) then some (⟨x.Level + 1, x.Index / p.Arity⟩, x.Index % p.Arity) else none
theorem Parent_none (p : Plan) (x : Item) (h : p.parent x = none) (w : World) :
    Calls Try.prog 64 #[.agg (encPlan p), .agg (encItem x)] w fun e w' => e = .returned (.tuple #[.agg (encItem ⟨0, 0⟩), .int .i64 0, .bool false]) ∧ Grew w w' := by
  rcases Bool.eq_false_or_eq_true (p.item x) with hi | hi
  · obtain ⟨h1, h2, h3, h4, h5⟩ := item_bd hi
    obtain ⟨l1, l2⟩ := levels_le p
    have hl : p.levels ≤ x.Level + 1 := by
      simp [Plan.parent, hi] at h; omega
    have hd : decide (p.levels ≤ x.Level + 1) = true := by simp [hl]
    clear h
    go_enter Try.func64, Try.ntmps64
    go_wp2
    (first | refine wp_region_calm_ext (by kernel_rfl) (by kernel_rfl) ?_ | refine wp_region_calm (by kernel_rfl) (by kernel_rfl) ?_)
    repeat (go_big_quiet_step (first | (go_at_call 55; exact Calls.calmB (item_any _ _ _) hi) | (go_at_call 65; exact Calls.calm (Levels_any _ _))))
    refine wpQuiet_nil ?_
    rintro _ ⟨y, rfl⟩
    go_wp2
    all_goals refine bodyPost_ret (v := .tuple #[.agg (encItem ⟨0, 0⟩), .int .i64 0, .bool false]) (by simp [results, Try.results64, go_sem]) rfl ⟨rfl, ?_⟩
    all_goals repeat (with_reducible first | exact Grew.refl _ | apply Grew.ext | apply Grew.alloc | apply Grew.drew)
  · clear h
    go_enter Try.func64, Try.ntmps64
    go_wp2
    (first | refine wp_region_calm_ext (by kernel_rfl) (by kernel_rfl) ?_ | refine wp_region_calm (by kernel_rfl) (by kernel_rfl) ?_)
    repeat (go_big_quiet_step (first | (go_at_call 55; exact Calls.calmB (item_any _ _ _) hi) | (go_at_call 65; exact Calls.calm (Levels_any _ _))))
    refine wpQuiet_nil ?_
    rintro _ ⟨y, rfl⟩
    go_wp2
    all_goals refine bodyPost_ret (v := .tuple #[.agg (encItem ⟨0, 0⟩), .int .i64 0, .bool false]) (by simp [results, Try.results64, go_sem]) rfl ⟨rfl, ?_⟩
    all_goals repeat (with_reducible first | exact Grew.refl _ | apply Grew.ext | apply Grew.alloc | apply Grew.drew)
theorem Parent_some (p : Plan) (x u : Item) (c : Int) (h : p.parent x = some (u, c)) (w : World) :
    Calls Try.prog 64 #[.agg (encPlan p), .agg (encItem x)] w fun e w' => e = .returned (.tuple #[.agg (encItem u), .int .i64 c, .bool true]) ∧ Grew w w' := by
  have hh : p.item x = true ∧ x.Level + 1 < p.levels ∧ u = ⟨x.Level + 1, x.Index / p.Arity⟩ ∧ c = x.Index % p.Arity := by
    unfold Plan.parent at h
    split at h
    · rename_i hc
      simp at hc h
      exact ⟨hc.1, hc.2, h.1.symm, h.2.symm⟩
    · cases h
  clear h
  obtain ⟨hi, hl, rfl, rfl⟩ := hh
  obtain ⟨h1, h2, h3, h4, h5⟩ := item_bd hi
  obtain ⟨l1, l2⟩ := levels_le p
  obtain ⟨_, _, _, ⟨r1, r2⟩⟩ := (shape_iff p).1 (right_shape h5)
  clear h5
  have hd : decide (p.levels ≤ x.Level + 1) = false := by simp; omega
  go_enter Try.func64, Try.ntmps64
  go_wp2
  (first | refine wp_region_calm_ext (by kernel_rfl) (by kernel_rfl) ?_ | refine wp_region_calm (by kernel_rfl) (by kernel_rfl) ?_)
  repeat (go_big_quiet_step (first | (go_at_call 55; exact Calls.calmB (item_any _ _ _) hi) | (go_at_call 65; exact Calls.calm (Levels_any _ _))))
  refine wpQuiet_nil ?_
  rintro _ ⟨y, rfl⟩
  go_wp2
  go_region
  all_goals go_wp2
  all_goals refine bodyPost_ret (v := .tuple #[.agg (encItem ⟨x.Level + 1, x.Index / p.Arity⟩), .int .i64 (x.Index % p.Arity), .bool true]) (by simp [results, Try.results64, go_sem]) rfl ⟨rfl, ?_⟩
  all_goals repeat (with_reducible first | exact Grew.refl _ | apply Grew.ext | apply Grew.alloc | apply Grew.drew)
end Go.Proofs.Ytngmdedoboccoaa
