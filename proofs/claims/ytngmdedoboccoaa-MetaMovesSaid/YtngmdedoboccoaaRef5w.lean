/- bastionref05: Width. -/
import Derived.Test.YtngmdedoboccoaaRef5
set_option linter.unusedVariables false
set_option linter.unusedSimpArgs false
set_option maxHeartbeats 1000000
set_option maxRecDepth 100000
namespace Go.Proofs.Ytngmdedoboccoaa
open Go Go.RowKit

def rwAt (p : Plan) : Nat → Int
  | 0 => p.Pages
  | i + 1 => if rwAt p i ≤ 1 then 0 else (rwAt p i + p.Arity - 1) / p.Arity
def rWidth (p : Plan) (l : Int) : Int := if p.shape = true ∧ 0 ≤ l ∧ l ≤ 16 then rwAt p l.toNat else 0
theorem rwAt_dead (p : Plan) (k : Nat) (h : rwAt p k ≤ 1) : ∀ d, rwAt p (k + 1 + d) = 0
  | 0 => by simp [rwAt, h]
  | d + 1 => by
    have := rwAt_dead p k h d
    rw [show k + 1 + (d + 1) = (k + 1 + d) + 1 by omega, rwAt, this]; simp
theorem rwAt_bd (p : Plan) (h1 : 1 ≤ p.Pages) (h2 : p.Pages ≤ 16) (h5 : 2 ≤ p.Arity) : ∀ k, 0 ≤ rwAt p k ∧ rwAt p k ≤ 16
  | 0 => by simp [rwAt]; omega
  | k + 1 => by
    have := rwAt_bd p h1 h2 h5 k
    simp only [rwAt]
    split
    · omega
    · have := up_div (rwAt p k) p.Arity h5 (by omega); omega
theorem up_split (n ar : Int) (h : 2 ≤ ar ∧ ar ≤ 4) : (n + ar - 1) / ar = n / ar + (if n % ar > 0 then 1 else 0) := by
  have e : ar = 2 ∨ ar = 3 ∨ ar = 4 := by omega
  rcases e with rfl | rfl | rfl <;> split <;> omega
theorem Width05_any (p : Plan) (l : Int) (w : World) :
    Calls Try.prog 49 #[.agg (encPlan p), .int .i64 l] w fun e w' => e = .returned (.int .i64 (rWidth p l)) ∧ Grew w w' := by
  by_cases hs : p.shape = true
  · by_cases h0 : 0 ≤ l
    · by_cases h16 : l ≤ 16
      · obtain ⟨_, ⟨h1, h2⟩, _, ⟨h5, h6⟩⟩ := (shape_iff p).1 hs
        have HV : Hid (rWidth p l = rwAt p l.toNat) := Lib.hid (by simp [rWidth, hs, h0, h16])
        have HS := Lib.hid hs
        clear hs
        go_enter Try.func49, Try.ntmps49
        go_wp2_with (go_at_call 40; refine (Shaped_any _ _).mono ?_; rw [HS.out]; rintro e w' ⟨rfl, x, rfl⟩)
        go_loopw [5, 6] (fun n i wr => ∃ k : Nat, (k : Int) ≤ l ∧ i = .int .i64 k ∧ n = .int .i64 (rwAt p k) ∧ Grew (w.alloc (Obj.cells (encPlan p) 28)) wr) (fun _ i _ => l.toNat - (intOf i).toNat)
        case atStart => exact ⟨0, by omega, rfl, rfl, (Grew.refl _).ext _⟩
        case round =>
          obtain ⟨k, hk, rfl, rfl, y, rfl⟩ := hrel
          have hb := rwAt_bd p h1 h2 h5 k
          have HD := Lib.hid (rwAt_dead p k)
          have HN : Hid (rwAt p (k + 1) = if rwAt p k ≤ 1 then 0 else (rwAt p k + p.Arity - 1) / p.Arity) := Lib.hid rfl
          have HU := Lib.hid (up_split (rwAt p k) p.Arity ⟨h5, h6⟩)
          by_cases hlt : (k : Int) < l
          · generalize rwAt p k = n at *
            by_cases hn : n ≤ 1
            · have hz := HD.out hn (l.toNat - (k + 1))
              rw [show k + 1 + (l.toNat - (k + 1)) = l.toNat by omega] at hz
              have HZ : Hid (rWidth p l = 0) := Lib.hid (HV.out.trans hz)
              clear hz
              go_wp2
              rw [HZ.out]
              go_ret
              refine ⟨rfl, ?_⟩
              all_goals repeat (with_reducible first | exact Grew.refl _ | apply Grew.ext | apply Grew.alloc | apply Grew.drew)
            · have hq1 : 0 ≤ n / p.Arity := Int.ediv_nonneg (by omega) (by omega)
              have hq2 : n / p.Arity ≤ n := Int.ediv_le_self _ (by omega)
              have hNx := HN.out
              rw [if_neg hn, HU.out] at hNx
              by_cases hr : n % p.Arity > 0
              · rw [if_pos hr] at hNx
                have HX := Lib.hid hNx
                clear hNx
                go_wp2
                refine ⟨⟨k + 1, by omega, by simp, ?_, ?_⟩, ?_⟩
                · rw [HX.out]
                · all_goals repeat (with_reducible first | exact Grew.refl _ | apply Grew.ext | apply Grew.alloc | apply Grew.drew)
                · simp [intOf]; omega
              · rw [if_neg hr, Int.add_zero] at hNx
                have HX := Lib.hid hNx
                clear hNx
                go_wp2
                refine ⟨⟨k + 1, by omega, by simp, ?_, ?_⟩, ?_⟩
                · rw [HX.out]
                · all_goals repeat (with_reducible first | exact Grew.refl _ | apply Grew.ext | apply Grew.alloc | apply Grew.drew)
                · simp [intOf]; omega
          · have hkl : l.toNat = k := by omega
            have HZ : Hid (rWidth p l = rwAt p k) := Lib.hid (by rw [HV.out, hkl])
            generalize rwAt p k = n at *
            go_wp2
            rw [HZ.out]
            go_ret
            refine ⟨rfl, ?_⟩
            all_goals repeat (with_reducible first | exact Grew.refl _ | apply Grew.ext | apply Grew.alloc | apply Grew.drew)
      · have HV : Hid (rWidth p l = 0) := Lib.hid (by simp [rWidth, h16])
        have HS := Lib.hid hs
        clear hs
        go_enter Try.func49, Try.ntmps49
        go_wp2_with (go_at_call 40; refine (Shaped_any _ _).mono ?_; rw [HS.out]; rintro e w' ⟨rfl, x, rfl⟩)
        rw [HV.out]
        go_ret
        refine ⟨rfl, ?_⟩
        all_goals repeat (with_reducible first | exact Grew.refl _ | apply Grew.ext | apply Grew.alloc | apply Grew.drew)
    · have HV : Hid (rWidth p l = 0) := Lib.hid (by simp [rWidth, h0])
      have HS := Lib.hid hs
      clear hs
      go_enter Try.func49, Try.ntmps49
      go_wp2_with (go_at_call 40; refine (Shaped_any _ _).mono ?_; rw [HS.out]; rintro e w' ⟨rfl, x, rfl⟩)
      rw [HV.out]
      go_ret
      refine ⟨rfl, ?_⟩
      all_goals repeat (with_reducible first | exact Grew.refl _ | apply Grew.ext | apply Grew.alloc | apply Grew.drew)
  · have HV : Hid (rWidth p l = 0) := Lib.hid (by simp [rWidth, hs])
    have HS : Hid (p.shape = false) := Lib.hid (by simpa using hs)
    clear hs
    go_enter Try.func49, Try.ntmps49
    go_wp2_with (go_at_call 40; refine (Shaped_any _ _).mono ?_; rw [HS.out]; rintro e w' ⟨rfl, x, rfl⟩)
    rw [HV.out]
    go_ret
    refine ⟨rfl, ?_⟩
    all_goals repeat (with_reducible first | exact Grew.refl _ | apply Grew.ext | apply Grew.alloc | apply Grew.drew)
end Go.Proofs.Ytngmdedoboccoaa
