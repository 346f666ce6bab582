/- Package region: where items stand, which is above which. -/
import Derived.Test.YtngmdedoboccoaaReg
set_option linter.unusedVariables false
set_option linter.unusedSimpArgs false
set_option maxHeartbeats 1000000
set_option maxRecDepth 100000
namespace Go.Proofs.Ytngmdedoboccoaa
open Go Go.RowKit

theorem right_any (p : Plan) (w : World) :
    Calls Try.prog 66 #[.agg (encPlan p)] w fun e w' => e = .returned (.bool p.right) ∧ Grew w w' := by
  rcases Bool.eq_false_or_eq_true p.right with hr | hr
  · have HD : Hid (p.code = 0) := Lib.hid (by simp [Plan.code, hr])
    have HR := Lib.hid hr
    clear hr
    go_enter Try.func66, Try.ntmps66
    go_wp2_with (go_at_call 29; refine (Check_any _ _).mono ?_; rintro e w' ⟨rfl, x, rfl⟩; rw [HD.out])
    all_goals go_ret
    all_goals refine ⟨by rw [HR.out]; rfl, ?_⟩
    all_goals repeat (with_reducible first | exact Grew.refl _ | apply Grew.ext | apply Grew.alloc | apply Grew.drew)
  · have HD : Hid (p.code = 4) := Lib.hid (by simp [Plan.code, hr])
    have HR := Lib.hid hr
    clear hr
    go_enter Try.func66, Try.ntmps66
    go_wp2_with (go_at_call 29; refine (Check_any _ _).mono ?_; rintro e w' ⟨rfl, x, rfl⟩; rw [HD.out])
    all_goals go_ret
    all_goals refine ⟨by rw [HR.out]; rfl, ?_⟩
    all_goals repeat (with_reducible first | exact Grew.refl _ | apply Grew.ext | apply Grew.alloc | apply Grew.drew)
theorem right_shape {p : Plan} (h : p.right = true) : p.shape = true := by
  simp [Plan.right] at h
  exact h.1.1.1.1.1.1.1.1.1.1.1
theorem all_bd (p : Plan) : 0 ≤ p.all ∧ p.all ≤ 128 := by
  unfold Plan.all
  split
  · rename_i hs
    obtain ⟨_, ⟨h1, h2⟩, ⟨h3, h4⟩, _⟩ := (shape_iff p).1 hs
    have := Int.mul_le_mul h2 h4 (by omega) (by omega)
    have := Int.mul_nonneg (show 0 ≤ p.Pages by omega) (show 0 ≤ p.Lines by omega)
    omega
  · omega
def Plan.tags (p : Plan) : Int := p.all * 32
def Plan.items (p : Plan) : Int := p.tags + p.all * 8
theorem tags_any (p : Plan) (w : World) :
    Calls Try.prog 68 #[.agg (encPlan p)] w fun e w' => e = .returned (.int .i64 p.tags) ∧ Grew w w' := by
  obtain ⟨a1, a2⟩ := all_bd p
  go_enter Try.func68, Try.ntmps68
  go_wp2_with (go_at_call 69; refine (All_any _ _).mono ?_; rintro e w' ⟨rfl, x, rfl⟩)
  all_goals go_ret
  all_goals refine ⟨rfl, ?_⟩
  all_goals repeat (with_reducible first | exact Grew.refl _ | apply Grew.ext | apply Grew.alloc | apply Grew.drew)
theorem items_any (p : Plan) (w : World) :
    Calls Try.prog 56 #[.agg (encPlan p)] w fun e w' => e = .returned (.int .i64 p.items) ∧ Grew w w' := by
  obtain ⟨a1, a2⟩ := all_bd p
  have t1 : 0 ≤ p.tags := by unfold Plan.tags; omega
  have t2 : p.tags ≤ 4096 := by unfold Plan.tags; omega
  go_enter Try.func56, Try.ntmps56
  go_wp2
  refine wp_region_calm (by kernel_rfl) (by kernel_rfl) ?_
  repeat (go_big_quiet_step (first | (go_at_call 68; exact Calls.calm (tags_any _ _)) | (go_at_call 69; exact Calls.calm (All_any _ _))))
  refine wpQuiet_nil ?_
  rintro _ ⟨y, rfl⟩
  go_wp2
  all_goals go_ret
  all_goals refine ⟨rfl, ?_⟩
  all_goals repeat (with_reducible first | exact Grew.refl _ | apply Grew.ext | apply Grew.alloc | apply Grew.drew)
theorem widthsFrom_bd (ar : Int) (ha : 2 ≤ ar) : ∀ (k : Nat) (n : Int), 1 ≤ n → ∀ x ∈ widthsFrom ar k n, 1 ≤ x ∧ x ≤ n
  | 0, n, _, x, hx => by simp [widthsFrom] at hx
  | k + 1, n, hn, x, hx => by
    simp only [widthsFrom, List.mem_cons] at hx
    rcases hx with rfl | hx
    · omega
    · split at hx
      · simp at hx
      · obtain ⟨h1, h2⟩ := up_div n ar ha (by omega)
        have := widthsFrom_bd ar ha k _ h1 x hx
        omega
theorem width_bd (p : Plan) (l : Int) : 0 ≤ p.width l ∧ p.width l ≤ 16 := by
  unfold Plan.width
  split
  · omega
  · rw [List.getD_eq_getElem?_getD]
    cases h : p.widths[l.toNat]? with
    | none => simp
    | some x =>
      have hx := List.mem_of_getElem? h
      unfold Plan.widths at hx
      split at hx
      · rename_i hs
        obtain ⟨_, ⟨h1, h2⟩, _, ⟨h5, _⟩⟩ := (shape_iff p).1 hs
        have := widthsFrom_bd p.Arity h5 16 p.Pages h1 x hx
        simp; omega
      · simp at hx
def aheadN (p : Plan) : Nat → Int
  | 0 => 0
  | k + 1 => aheadN p k + p.width k
theorem aheadN_bd (p : Plan) : ∀ k, 0 ≤ aheadN p k ∧ aheadN p k ≤ 16 * k
  | 0 => by simp [aheadN]
  | k + 1 => by
    have := aheadN_bd p k
    have := width_bd p k
    simp only [aheadN]; omega
theorem ahead_any (p : Plan) (l : Nat) (hl : l ≤ 16) (w : World) :
    Calls Try.prog 57 #[.agg (encPlan p), .int .i64 l] w fun e w' => e = .returned (.int .i64 (aheadN p l)) ∧ Grew w w' := by
  go_enter Try.func57, Try.ntmps57
  go_wp2
  go_loopw [4, 7] (fun n i wr => ∃ k : Nat, k ≤ l ∧ i = .int .i64 k ∧ n = .int .i64 (aheadN p k) ∧ Grew (w.alloc (.cells (encPlan p) 28)) wr) (fun _ i _ => l - (intOf i).toNat)
  case atStart => exact ⟨0, by omega, rfl, rfl, Grew.refl _⟩
  case round =>
    obtain ⟨k, hk, rfl, rfl, x, rfl⟩ := hrel
    obtain ⟨b1, b2⟩ := aheadN_bd p k
    obtain ⟨b3, b4⟩ := width_bd p k
    by_cases hlt : k < l
    · have HS : Hid (aheadN p (k + 1) = aheadN p k + p.width k) := Lib.hid rfl
      go_wp2_with (go_at_call 67; refine (Width_any _ _ _).mono ?_; rintro e w' ⟨rfl, x, rfl⟩)
      go_roundw
      case rel => exact ⟨k + 1, by omega, by go_num, by rw [HS.out], (Grew.refl _).ext _⟩
      case measure => simp [intOf]; omega
    · obtain rfl : k = l := by omega
      go_wp2
      all_goals go_ret
      all_goals refine ⟨rfl, ?_⟩
      all_goals repeat (with_reducible first | exact Grew.refl _ | apply Grew.ext | apply Grew.alloc | apply Grew.drew)
def Plan.item (p : Plan) (x : Item) : Bool := p.right && decide (0 ≤ x.Index) && decide (x.Index < p.width x.Level)
theorem item_any (p : Plan) (x : Item) (w : World) :
    Calls Try.prog 55 #[.agg (encPlan p), .agg (encItem x)] w fun e w' => e = .returned (.bool (p.item x)) ∧ Grew w w' := by
  rcases Bool.eq_false_or_eq_true p.right with hr | hr
  · by_cases h0 : 0 ≤ x.Index
    · have d0 : decide (0 ≤ x.Index) = true := by simp [h0]
      have HD : Hid (p.item x = decide (x.Index < p.width x.Level)) := Lib.hid (by simp [Plan.item, hr, h0])
      rcases Bool.eq_false_or_eq_true (decide (x.Index < p.width x.Level)) with hw | hw
      all_goals
        have HW := Lib.hid hw
        go_enter Try.func55, Try.ntmps55
        go_wp2
        (first | refine wp_region_calm_ext (by kernel_rfl) (by kernel_rfl) ?_ | refine wp_region_calm (by kernel_rfl) (by kernel_rfl) ?_)
        repeat (go_big_quiet_step (first | (go_at_call 66; exact Calls.calmB (right_any _ _) hr) | (go_at_call 67; exact Calls.calm (Width_any _ _ _))))
        refine wpQuiet_nil ?_
        rintro _ ⟨y, rfl⟩
        go_wp2
        all_goals go_ret
        all_goals refine ⟨by rw [HD.out, HW.out]; rfl, ?_⟩
        all_goals repeat (with_reducible first | exact Grew.refl _ | apply Grew.ext | apply Grew.alloc | apply Grew.drew)
    · have d0 : decide (0 ≤ x.Index) = false := by simpa using h0
      have HD : Hid (p.item x = false) := Lib.hid (by simp [Plan.item, h0])
      go_enter Try.func55, Try.ntmps55
      go_wp2
      (first | refine wp_region_calm_ext (by kernel_rfl) (by kernel_rfl) ?_ | refine wp_region_calm (by kernel_rfl) (by kernel_rfl) ?_)
      repeat (go_big_quiet_step (first | (go_at_call 66; exact Calls.calmB (right_any _ _) hr) | (go_at_call 67; exact Calls.calm (Width_any _ _ _))))
      refine wpQuiet_nil ?_
      rintro _ ⟨y, rfl⟩
      go_wp2
      all_goals go_ret
      all_goals refine ⟨by rw [HD.out]; rfl, ?_⟩
      all_goals repeat (with_reducible first | exact Grew.refl _ | apply Grew.ext | apply Grew.alloc | apply Grew.drew)
  · have HD : Hid (p.item x = false) := Lib.hid (by simp [Plan.item, hr])
    go_enter Try.func55, Try.ntmps55
    go_wp2
    (first | refine wp_region_calm_ext (by kernel_rfl) (by kernel_rfl) ?_ | refine wp_region_calm (by kernel_rfl) (by kernel_rfl) ?_)
    repeat (go_big_quiet_step (first | (go_at_call 66; exact Calls.calmB (right_any _ _) hr) | (go_at_call 67; exact Calls.calm (Width_any _ _ _))))
    refine wpQuiet_nil ?_
    rintro _ ⟨y, rfl⟩
    go_wp2
    all_goals go_ret
    all_goals refine ⟨by rw [HD.out]; rfl, ?_⟩
    all_goals repeat (with_reducible first | exact Grew.refl _ | apply Grew.ext | apply Grew.alloc | apply Grew.drew)
end Go.Proofs.Ytngmdedoboccoaa
