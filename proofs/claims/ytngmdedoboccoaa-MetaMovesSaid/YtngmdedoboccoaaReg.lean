/- plan.Check and package region: what they answer. -/
import Derived.Test.YtngmdedoboccoaaPln
set_option linter.unusedVariables false
set_option linter.unusedSimpArgs false
set_option maxHeartbeats 1000000
set_option maxRecDepth 100000
namespace Go.Proofs.Ytngmdedoboccoaa
open Go Go.RowKit

def Plan.code (p : Plan) : Int := if p.right then 0 else 4
theorem least_bd (p : Plan) : 0 ≤ p.least ∧ p.least ≤ 65 := by
  unfold Plan.least
  split
  · rename_i hs
    obtain ⟨⟨h1, h2⟩, _⟩ := (shape_iff p).1 hs
    obtain ⟨l1, l2⟩ := levels_le p
    have := Int.mul_le_mul h2 l2 (by omega) (by omega)
    have := Int.mul_nonneg (show 0 ≤ p.Banks by omega) l1
    omega
  · omega
theorem Check_any (p : Plan) (w : World) :
    Calls Try.prog 29 #[.agg (encPlan p)] w fun e w' => e = .returned (.int .i64 p.code) ∧ Grew w w' := by
  rcases Bool.eq_false_or_eq_true (p.shape) with hs | hs
  · rcases Bool.eq_false_or_eq_true (within 1 4 p.Cores) with hc | hc
    · rcases Bool.eq_false_or_eq_true (within 1 8 p.Minor) with hn | hn
      · by_cases hM : p.Major ≤ 4294967296
        · rcases Bool.eq_false_or_eq_true (within 1 4 p.NearS) with h1 | h1
          · rcases Bool.eq_false_or_eq_true (within 1 4 p.NearW) with h2 | h2
            · rcases Bool.eq_false_or_eq_true (within 1 4 p.FarS) with h3 | h3
              · rcases Bool.eq_false_or_eq_true (within 1 4 p.FarW) with h4 | h4
                · rcases Bool.eq_false_or_eq_true (within 1 4 p.Queue) with h5 | h5
                  · by_cases k0 : p.Kind = 0
                    · have b0 : ((p.Kind : Int) != 0) = false := by simp [k0]
                      have KK : Hid (p.Kind = 0) := Lib.hid k0
                      clear k0
                      by_cases hl : p.Meta < p.least
                      · have hd : decide (p.Meta < p.least) = true := by simp [hl]
                        have HD : Hid (p.code = 4) := Lib.hid (by simp [Plan.code, Plan.right, hs, hc, hn, hM, h1, h2, h3, h4, h5, KK.out, hl, show ¬ p.least ≤ p.Meta by omega])
                        go_enter Try.func29, Try.ntmps29
                        go_wp2_with (first | (go_at_call 51; refine (shape_any _ _).mono ?_; rintro e w' ⟨rfl, x, rfl⟩) | (go_at_call 52; refine (has_any _ _ _ _).mono ?_; rintro e w' ⟨rfl, x, rfl⟩) | (go_at_call 53; refine (side_any _ _ _).mono ?_; rintro e w' ⟨rfl, x, rfl⟩))
                        refine wp_region_calm_ext (by kernel_rfl) (by kernel_rfl) ?_
                        repeat (go_big_quiet_step ((go_at_call 54; exact Calls.calm (Least_any _ _))))
                        refine wpQuiet_nil ?_
                        rintro _ ⟨y, rfl⟩
                        go_wp2
                        all_goals go_ret
                        all_goals refine ⟨by rw [HD.out]; rfl, ?_⟩
                        all_goals repeat (with_reducible first | exact Grew.refl _ | apply Grew.ext | apply Grew.alloc | apply Grew.drew)
                      · have hd : decide (p.Meta < p.least) = false := by simpa using hl
                        by_cases hm : 64 < p.Meta
                        · have he : decide (64 < p.Meta) = true := by simp [hm]
                          have HD : Hid (p.code = 4) := Lib.hid (by simp [Plan.code, Plan.right, hs, hc, hn, hM, h1, h2, h3, h4, h5, KK.out, hm, show ¬ p.Meta ≤ 64 by omega])
                          go_enter Try.func29, Try.ntmps29
                          go_wp2_with (first | (go_at_call 51; refine (shape_any _ _).mono ?_; rintro e w' ⟨rfl, x, rfl⟩) | (go_at_call 52; refine (has_any _ _ _ _).mono ?_; rintro e w' ⟨rfl, x, rfl⟩) | (go_at_call 53; refine (side_any _ _ _).mono ?_; rintro e w' ⟨rfl, x, rfl⟩))
                          refine wp_region_calm_ext (by kernel_rfl) (by kernel_rfl) ?_
                          repeat (go_big_quiet_step ((go_at_call 54; exact Calls.calm (Least_any _ _))))
                          refine wpQuiet_nil ?_
                          rintro _ ⟨y, rfl⟩
                          go_wp2
                          all_goals go_ret
                          all_goals refine ⟨by rw [HD.out]; rfl, ?_⟩
                          all_goals repeat (with_reducible first | exact Grew.refl _ | apply Grew.ext | apply Grew.alloc | apply Grew.drew)
                        · have he : decide (64 < p.Meta) = false := by simpa using hm
                          have HD : Hid (p.code = 0) := Lib.hid (by simp [Plan.code, Plan.right, hs, hc, hn, hM, h1, h2, h3, h4, h5, KK.out, show p.least ≤ p.Meta by omega, show p.Meta ≤ 64 by omega])
                          go_enter Try.func29, Try.ntmps29
                          go_wp2_with (first | (go_at_call 51; refine (shape_any _ _).mono ?_; rintro e w' ⟨rfl, x, rfl⟩) | (go_at_call 52; refine (has_any _ _ _ _).mono ?_; rintro e w' ⟨rfl, x, rfl⟩) | (go_at_call 53; refine (side_any _ _ _).mono ?_; rintro e w' ⟨rfl, x, rfl⟩))
                          refine wp_region_calm_ext (by kernel_rfl) (by kernel_rfl) ?_
                          repeat (go_big_quiet_step ((go_at_call 54; exact Calls.calm (Least_any _ _))))
                          refine wpQuiet_nil ?_
                          rintro _ ⟨y, rfl⟩
                          go_wp2
                          all_goals go_ret
                          all_goals refine ⟨by rw [HD.out]; rfl, ?_⟩
                          all_goals repeat (with_reducible first | exact Grew.refl _ | apply Grew.ext | apply Grew.alloc | apply Grew.drew)
                    · by_cases k1 : p.Kind = 1
                      · have b0 : ((p.Kind : Int) != 0) = true := by simp [k1]
                        have b1 : ((p.Kind : Int) != 1) = false := by simp [k1]
                        have KK : Hid (p.Kind = 1) := Lib.hid k1
                        clear k1
                        by_cases hl : p.Meta < p.least
                        · have hd : decide (p.Meta < p.least) = true := by simp [hl]
                          have HD : Hid (p.code = 4) := Lib.hid (by simp [Plan.code, Plan.right, hs, hc, hn, hM, h1, h2, h3, h4, h5, KK.out, hl, show ¬ p.least ≤ p.Meta by omega])
                          go_enter Try.func29, Try.ntmps29
                          go_wp2_with (first | (go_at_call 51; refine (shape_any _ _).mono ?_; rintro e w' ⟨rfl, x, rfl⟩) | (go_at_call 52; refine (has_any _ _ _ _).mono ?_; rintro e w' ⟨rfl, x, rfl⟩) | (go_at_call 53; refine (side_any _ _ _).mono ?_; rintro e w' ⟨rfl, x, rfl⟩))
                          refine wp_region_calm_ext (by kernel_rfl) (by kernel_rfl) ?_
                          repeat (go_big_quiet_step ((go_at_call 54; exact Calls.calm (Least_any _ _))))
                          refine wpQuiet_nil ?_
                          rintro _ ⟨y, rfl⟩
                          go_wp2
                          all_goals go_ret
                          all_goals refine ⟨by rw [HD.out]; rfl, ?_⟩
                          all_goals repeat (with_reducible first | exact Grew.refl _ | apply Grew.ext | apply Grew.alloc | apply Grew.drew)
                        · have hd : decide (p.Meta < p.least) = false := by simpa using hl
                          by_cases hm : 64 < p.Meta
                          · have he : decide (64 < p.Meta) = true := by simp [hm]
                            have HD : Hid (p.code = 4) := Lib.hid (by simp [Plan.code, Plan.right, hs, hc, hn, hM, h1, h2, h3, h4, h5, KK.out, hm, show ¬ p.Meta ≤ 64 by omega])
                            go_enter Try.func29, Try.ntmps29
                            go_wp2_with (first | (go_at_call 51; refine (shape_any _ _).mono ?_; rintro e w' ⟨rfl, x, rfl⟩) | (go_at_call 52; refine (has_any _ _ _ _).mono ?_; rintro e w' ⟨rfl, x, rfl⟩) | (go_at_call 53; refine (side_any _ _ _).mono ?_; rintro e w' ⟨rfl, x, rfl⟩))
                            refine wp_region_calm_ext (by kernel_rfl) (by kernel_rfl) ?_
                            repeat (go_big_quiet_step ((go_at_call 54; exact Calls.calm (Least_any _ _))))
                            refine wpQuiet_nil ?_
                            rintro _ ⟨y, rfl⟩
                            go_wp2
                            all_goals go_ret
                            all_goals refine ⟨by rw [HD.out]; rfl, ?_⟩
                            all_goals repeat (with_reducible first | exact Grew.refl _ | apply Grew.ext | apply Grew.alloc | apply Grew.drew)
                          · have he : decide (64 < p.Meta) = false := by simpa using hm
                            have HD : Hid (p.code = 0) := Lib.hid (by simp [Plan.code, Plan.right, hs, hc, hn, hM, h1, h2, h3, h4, h5, KK.out, show p.least ≤ p.Meta by omega, show p.Meta ≤ 64 by omega])
                            go_enter Try.func29, Try.ntmps29
                            go_wp2_with (first | (go_at_call 51; refine (shape_any _ _).mono ?_; rintro e w' ⟨rfl, x, rfl⟩) | (go_at_call 52; refine (has_any _ _ _ _).mono ?_; rintro e w' ⟨rfl, x, rfl⟩) | (go_at_call 53; refine (side_any _ _ _).mono ?_; rintro e w' ⟨rfl, x, rfl⟩))
                            refine wp_region_calm_ext (by kernel_rfl) (by kernel_rfl) ?_
                            repeat (go_big_quiet_step ((go_at_call 54; exact Calls.calm (Least_any _ _))))
                            refine wpQuiet_nil ?_
                            rintro _ ⟨y, rfl⟩
                            go_wp2
                            all_goals go_ret
                            all_goals refine ⟨by rw [HD.out]; rfl, ?_⟩
                            all_goals repeat (with_reducible first | exact Grew.refl _ | apply Grew.ext | apply Grew.alloc | apply Grew.drew)
                      · have b0 : ((p.Kind : Int) != 0) = true := by simp [k0]
                        have b1 : ((p.Kind : Int) != 1) = true := by simp [k1]
                        have HD : Hid (p.code = 4) := Lib.hid (by simp [Plan.code, Plan.right, hs, hc, hn, hM, h1, h2, h3, h4, h5, k0, k1])
                        go_enter Try.func29, Try.ntmps29
                        go_wp2_with (first | (go_at_call 51; refine (shape_any _ _).mono ?_; rintro e w' ⟨rfl, x, rfl⟩) | (go_at_call 52; refine (has_any _ _ _ _).mono ?_; rintro e w' ⟨rfl, x, rfl⟩) | (go_at_call 53; refine (side_any _ _ _).mono ?_; rintro e w' ⟨rfl, x, rfl⟩))
                        all_goals go_ret
                        all_goals refine ⟨by rw [HD.out]; rfl, ?_⟩
                        all_goals repeat (with_reducible first | exact Grew.refl _ | apply Grew.ext | apply Grew.alloc | apply Grew.drew)
                  · have HD : Hid (p.code = 4) := Lib.hid (by simp [Plan.code, Plan.right, hs, hc, hn, hM, h1, h2, h3, h4, h5])
                    go_enter Try.func29, Try.ntmps29
                    go_wp2_with (first | (go_at_call 51; refine (shape_any _ _).mono ?_; rintro e w' ⟨rfl, x, rfl⟩) | (go_at_call 52; refine (has_any _ _ _ _).mono ?_; rintro e w' ⟨rfl, x, rfl⟩) | (go_at_call 53; refine (side_any _ _ _).mono ?_; rintro e w' ⟨rfl, x, rfl⟩))
                    all_goals go_ret
                    all_goals refine ⟨by rw [HD.out]; rfl, ?_⟩
                    all_goals repeat (with_reducible first | exact Grew.refl _ | apply Grew.ext | apply Grew.alloc | apply Grew.drew)
                · have HD : Hid (p.code = 4) := Lib.hid (by simp [Plan.code, Plan.right, hs, hc, hn, hM, h1, h2, h3, h4])
                  go_enter Try.func29, Try.ntmps29
                  go_wp2_with (first | (go_at_call 51; refine (shape_any _ _).mono ?_; rintro e w' ⟨rfl, x, rfl⟩) | (go_at_call 52; refine (has_any _ _ _ _).mono ?_; rintro e w' ⟨rfl, x, rfl⟩) | (go_at_call 53; refine (side_any _ _ _).mono ?_; rintro e w' ⟨rfl, x, rfl⟩))
                  all_goals go_ret
                  all_goals refine ⟨by rw [HD.out]; rfl, ?_⟩
                  all_goals repeat (with_reducible first | exact Grew.refl _ | apply Grew.ext | apply Grew.alloc | apply Grew.drew)
              · have HD : Hid (p.code = 4) := Lib.hid (by simp [Plan.code, Plan.right, hs, hc, hn, hM, h1, h2, h3])
                go_enter Try.func29, Try.ntmps29
                go_wp2_with (first | (go_at_call 51; refine (shape_any _ _).mono ?_; rintro e w' ⟨rfl, x, rfl⟩) | (go_at_call 52; refine (has_any _ _ _ _).mono ?_; rintro e w' ⟨rfl, x, rfl⟩) | (go_at_call 53; refine (side_any _ _ _).mono ?_; rintro e w' ⟨rfl, x, rfl⟩))
                all_goals go_ret
                all_goals refine ⟨by rw [HD.out]; rfl, ?_⟩
                all_goals repeat (with_reducible first | exact Grew.refl _ | apply Grew.ext | apply Grew.alloc | apply Grew.drew)
            · have HD : Hid (p.code = 4) := Lib.hid (by simp [Plan.code, Plan.right, hs, hc, hn, hM, h1, h2])
              go_enter Try.func29, Try.ntmps29
              go_wp2_with (first | (go_at_call 51; refine (shape_any _ _).mono ?_; rintro e w' ⟨rfl, x, rfl⟩) | (go_at_call 52; refine (has_any _ _ _ _).mono ?_; rintro e w' ⟨rfl, x, rfl⟩) | (go_at_call 53; refine (side_any _ _ _).mono ?_; rintro e w' ⟨rfl, x, rfl⟩))
              all_goals go_ret
              all_goals refine ⟨by rw [HD.out]; rfl, ?_⟩
              all_goals repeat (with_reducible first | exact Grew.refl _ | apply Grew.ext | apply Grew.alloc | apply Grew.drew)
          · have HD : Hid (p.code = 4) := Lib.hid (by simp [Plan.code, Plan.right, hs, hc, hn, hM, h1])
            go_enter Try.func29, Try.ntmps29
            go_wp2_with (first | (go_at_call 51; refine (shape_any _ _).mono ?_; rintro e w' ⟨rfl, x, rfl⟩) | (go_at_call 52; refine (has_any _ _ _ _).mono ?_; rintro e w' ⟨rfl, x, rfl⟩) | (go_at_call 53; refine (side_any _ _ _).mono ?_; rintro e w' ⟨rfl, x, rfl⟩))
            all_goals go_ret
            all_goals refine ⟨by rw [HD.out]; rfl, ?_⟩
            all_goals repeat (with_reducible first | exact Grew.refl _ | apply Grew.ext | apply Grew.alloc | apply Grew.drew)
        · have HD : Hid (p.code = 4) := Lib.hid (by simp [Plan.code, Plan.right, hs, hc, hn, hM])
          go_enter Try.func29, Try.ntmps29
          go_wp2_with (first | (go_at_call 51; refine (shape_any _ _).mono ?_; rintro e w' ⟨rfl, x, rfl⟩) | (go_at_call 52; refine (has_any _ _ _ _).mono ?_; rintro e w' ⟨rfl, x, rfl⟩) | (go_at_call 53; refine (side_any _ _ _).mono ?_; rintro e w' ⟨rfl, x, rfl⟩))
          all_goals go_ret
          all_goals refine ⟨by rw [HD.out]; rfl, ?_⟩
          all_goals repeat (with_reducible first | exact Grew.refl _ | apply Grew.ext | apply Grew.alloc | apply Grew.drew)
      · have HD : Hid (p.code = 4) := Lib.hid (by simp [Plan.code, Plan.right, hs, hc, hn])
        go_enter Try.func29, Try.ntmps29
        go_wp2_with (first | (go_at_call 51; refine (shape_any _ _).mono ?_; rintro e w' ⟨rfl, x, rfl⟩) | (go_at_call 52; refine (has_any _ _ _ _).mono ?_; rintro e w' ⟨rfl, x, rfl⟩) | (go_at_call 53; refine (side_any _ _ _).mono ?_; rintro e w' ⟨rfl, x, rfl⟩))
        all_goals go_ret
        all_goals refine ⟨by rw [HD.out]; rfl, ?_⟩
        all_goals repeat (with_reducible first | exact Grew.refl _ | apply Grew.ext | apply Grew.alloc | apply Grew.drew)
    · have HD : Hid (p.code = 4) := Lib.hid (by simp [Plan.code, Plan.right, hs, hc])
      go_enter Try.func29, Try.ntmps29
      go_wp2_with (first | (go_at_call 51; refine (shape_any _ _).mono ?_; rintro e w' ⟨rfl, x, rfl⟩) | (go_at_call 52; refine (has_any _ _ _ _).mono ?_; rintro e w' ⟨rfl, x, rfl⟩) | (go_at_call 53; refine (side_any _ _ _).mono ?_; rintro e w' ⟨rfl, x, rfl⟩))
      all_goals go_ret
      all_goals refine ⟨by rw [HD.out]; rfl, ?_⟩
      all_goals repeat (with_reducible first | exact Grew.refl _ | apply Grew.ext | apply Grew.alloc | apply Grew.drew)
  · have HD : Hid (p.code = 4) := Lib.hid (by simp [Plan.code, Plan.right, hs])
    go_enter Try.func29, Try.ntmps29
    go_wp2_with (first | (go_at_call 51; refine (shape_any _ _).mono ?_; rintro e w' ⟨rfl, x, rfl⟩) | (go_at_call 52; refine (has_any _ _ _ _).mono ?_; rintro e w' ⟨rfl, x, rfl⟩) | (go_at_call 53; refine (side_any _ _ _).mono ?_; rintro e w' ⟨rfl, x, rfl⟩))
    all_goals go_ret
    all_goals refine ⟨by rw [HD.out]; rfl, ?_⟩
    all_goals repeat (with_reducible first | exact Grew.refl _ | apply Grew.ext | apply Grew.alloc | apply Grew.drew)
end Go.Proofs.Ytngmdedoboccoaa
