/- bastionref05: Levels, Least. -/
import Derived.Test.YtngmdedoboccoaaRef5x
set_option linter.unusedVariables false
set_option linter.unusedSimpArgs false
set_option maxHeartbeats 1000000
set_option maxRecDepth 100000
namespace Go.Proofs.Ytngmdedoboccoaa
open Go Go.RowKit

theorem widthsFrom_pos (ar : Int) (ha : 2 ≤ ar) : ∀ (f : Nat) (n : Int), 1 ≤ n → ∀ x ∈ widthsFrom ar f n, 1 ≤ x
  | 0, n, _, x, hx => by simp [widthsFrom] at hx
  | f + 1, n, hn, x, hx => by
    simp only [widthsFrom, List.mem_cons] at hx
    rcases hx with rfl | hx
    · exact hn
    · by_cases h1 : n = 1
      · rw [if_pos h1] at hx; simp at hx
      · rw [if_neg h1] at hx
        exact widthsFrom_pos ar ha f _ (up_div n ar ha (by omega)).1 x hx
theorem width_pos (p : Plan) (k : Nat) : 0 < p.width k ↔ (k : Int) < p.levels := by
  unfold Plan.width Plan.levels
  rw [if_neg (by omega)]
  simp only [Int.toNat_natCast]
  by_cases hk : k < p.widths.length
  · have hm : p.widths[k] ∈ p.widths := List.getElem_mem hk
    have : 1 ≤ p.widths[k] := by
      by_cases hs : p.shape = true
      · obtain ⟨_, ⟨h1, h2⟩, _, ⟨h5, h6⟩⟩ := (shape_iff p).1 hs
        have e : p.widths = widthsFrom p.Arity 16 p.Pages := by simp [Plan.widths, hs]
        exact widthsFrom_pos p.Arity h5 16 p.Pages h1 _ (e ▸ hm)
      · have e : p.widths = [] := by simp [Plan.widths, hs]
        rw [e] at hk; simp at hk
    simp only [List.getD_eq_getElem?_getD, List.getElem?_eq_getElem hk, Option.getD_some]
    omega
  · rw [List.getD_eq_getElem?_getD, List.getElem?_eq_none (by omega)]
    simp; omega
theorem Levels05_any (p : Plan) (w : World) :
    Calls Try.prog 50 #[.agg (encPlan p)] w fun e w' => e = .returned (.int .i64 p.levels) ∧ Grew w w' := by
  obtain ⟨l1, l2⟩ := levels_le p
  have HW := Lib.hid (width_pos p)
  have HX := Lib.hid fun (k : Nat) (h : k < 16) => rWidth_width p k (by omega)
  go_enter Try.func50, Try.ntmps50
  go_wp2
  go_loopw [3] (fun i wr => ∃ k : Nat, (k : Int) ≤ p.levels ∧ i = .int .i64 k ∧ Grew (w.alloc (Obj.cells (encPlan p) 28)) wr) (fun i _ => 16 - (intOf i).toNat)
  case atStart => exact ⟨0, by omega, rfl, Grew.refl _⟩
  case round =>
    obtain ⟨k, hk, rfl, y, rfl⟩ := hrel
    by_cases h16 : k < 16
    · have hx := HX.out k h16
      have hw := HW.out k
      by_cases hp : 0 < p.width k
      · have hlt := hw.1 hp
        have hg : (p.width k > 0) = True := by simpa using hp
        generalize p.width k = n at *
        go_wp2_with (go_at_call 49; refine (Width05_any _ _ _).mono ?_; rw [hx]; rintro e w' ⟨rfl, x, rfl⟩)
        refine ⟨⟨k + 1, by omega, by simp, ?_⟩, ?_⟩
        · all_goals repeat (with_reducible first | exact Grew.refl _ | apply Grew.ext | apply Grew.alloc | apply Grew.drew)
        · simp [intOf]; omega
      · have hkl : (k : Int) = p.levels := by
          have := mt hw.2 hp; omega
        have hg : (p.width k > 0) = False := by simpa using hp
        have HL := Lib.hid hkl
        clear hkl
        generalize p.width k = n at *
        go_wp2_with (go_at_call 49; refine (Width05_any _ _ _).mono ?_; rw [hx]; rintro e w' ⟨rfl, x, rfl⟩)
        go_ret
        refine ⟨by rw [← HL.out]; rfl, ?_⟩
        all_goals repeat (with_reducible first | exact Grew.refl _ | apply Grew.ext | apply Grew.alloc | apply Grew.drew)
    · have HL : Hid ((k : Int) = p.levels) := Lib.hid (by omega)
      go_wp2
      go_ret
      refine ⟨by rw [← HL.out]; rfl, ?_⟩
      all_goals repeat (with_reducible first | exact Grew.refl _ | apply Grew.ext | apply Grew.alloc | apply Grew.drew)
theorem Least05_any (p : Plan) (w : World) :
    Calls Try.prog 28 #[.agg (encPlan p)] w fun e w' => e = .returned (.int .i64 p.least) ∧ Grew w w' := by
  by_cases hs : p.shape = true
  · obtain ⟨⟨b1, b2⟩, _, _, _⟩ := (shape_iff p).1 hs
    obtain ⟨l1, l2⟩ := levels_le p
    have hm : 0 ≤ p.Banks * p.levels ∧ p.Banks * p.levels ≤ 64 := ⟨Int.mul_nonneg (by omega) (by omega), by
      have := Int.mul_le_mul b2 l2 (by omega) (by omega); omega⟩
    obtain ⟨m1, m2⟩ := hm
    have HV : Hid (p.least = p.Banks * p.levels + 1) := Lib.hid (by simp [Plan.least, hs])
    have HS := Lib.hid hs
    clear hs
    go_enter Try.func28, Try.ntmps28
    go_wp2_with (go_at_call 40; refine (Shaped_any _ _).mono ?_; rw [HS.out]; rintro e w' ⟨rfl, x, rfl⟩)
    (first | refine wp_region_calm_ext (by kernel_rfl) (by kernel_rfl) ?_ | refine wp_region_calm (by kernel_rfl) (by kernel_rfl) ?_)
    repeat (go_big_quiet_step ((go_at_call 50; exact Calls.calm (Levels05_any _ _))))
    refine wpQuiet_nil ?_
    rintro _ ⟨y, rfl⟩
    go_wp2
    rw [HV.out]
    go_ret
    refine ⟨rfl, ?_⟩
    all_goals repeat (with_reducible first | exact Grew.refl _ | apply Grew.ext | apply Grew.alloc | apply Grew.drew)
  · have HV : Hid (p.least = 0) := Lib.hid (by simp [Plan.least, hs])
    have HS : Hid (p.shape = false) := Lib.hid (by simpa using hs)
    clear hs
    go_enter Try.func28, Try.ntmps28
    go_wp2_with (go_at_call 40; refine (Shaped_any _ _).mono ?_; rw [HS.out]; rintro e w' ⟨rfl, x, rfl⟩)
    rw [HV.out]
    go_ret
    refine ⟨rfl, ?_⟩
    all_goals repeat (with_reducible first | exact Grew.refl _ | apply Grew.ext | apply Grew.alloc | apply Grew.drew)
end Go.Proofs.Ytngmdedoboccoaa
