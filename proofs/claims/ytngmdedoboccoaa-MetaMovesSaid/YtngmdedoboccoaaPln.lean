/- Package plan: what its functions answer, each in every world. -/
import Derived.Test.YtngmdedoboccoaaTyp
set_option linter.unusedVariables false
set_option linter.unusedSimpArgs false
set_option maxHeartbeats 1000000
set_option maxRecDepth 100000
namespace Go.Proofs.Ytngmdedoboccoaa
open Go Go.RowKit

def within (l m n : Int) : Bool := decide (l ≤ n ∧ n ≤ m)
def Plan.shape (p : Plan) : Bool := within 1 4 p.Banks && within 1 16 p.Pages && within 1 8 p.Lines && within 2 4 p.Arity
def widthsFrom (ar : Int) : Nat → Int → List Int
  | 0, _ => []
  | k + 1, n => n :: (if n = 1 then [] else widthsFrom ar k ((n + ar - 1) / ar))
def Plan.widths (p : Plan) : List Int := if p.shape then widthsFrom p.Arity 16 p.Pages else []
def Plan.levels (p : Plan) : Int := p.widths.length
def Plan.width (p : Plan) (l : Int) : Int := if l < 0 then 0 else p.widths.getD l.toNat 0
def Plan.all (p : Plan) : Int := if p.shape then p.Pages * p.Lines else 0
def Plan.least (p : Plan) : Int := if p.shape then p.Banks * p.levels + 1 else 0
def Plan.right (p : Plan) : Bool :=
  p.shape && within 1 4 p.Cores && within 1 8 p.Minor && decide (p.Major ≤ 4294967296) && within 1 4 p.NearS && within 1 4 p.NearW && within 1 4 p.FarS && within 1 4 p.FarW && within 1 4 p.Queue &&
    (decide (p.Kind = 0) || decide (p.Kind = 1)) && decide (p.least ≤ p.Meta) && decide (p.Meta ≤ 64)
attribute [irreducible] within

theorem within_iff (l m n : Int) : within l m n = true ↔ l ≤ n ∧ n ≤ m := by unfold within; simp
theorem within_false (l m n : Int) : within l m n = false ↔ ¬ (l ≤ n ∧ n ≤ m) := by unfold within; simp
theorem has_any (l m n : Int) (w : World) :
    Calls Try.prog 52 #[.agg #[.int .i64 l, .int .i64 m], .int .i64 n] w fun e w' => e = .returned (.bool (within l m n)) ∧ Grew w w' := by
  by_cases h1 : l ≤ n
  · go_enter Try.func52, Try.ntmps52
    go_wp2
    all_goals go_ret
    all_goals refine ⟨by simp [within, *], ?_⟩
    all_goals repeat (with_reducible first | exact Grew.refl _ | apply Grew.ext | apply Grew.alloc | apply Grew.drew)
  · go_enter Try.func52, Try.ntmps52
    go_wp2
    all_goals go_ret
    all_goals refine ⟨by rw [(within_false l m n).2 (by omega)]; rfl, ?_⟩
    all_goals repeat (with_reducible first | exact Grew.refl _ | apply Grew.ext | apply Grew.alloc | apply Grew.drew)
theorem shape_any (p : Plan) (w : World) :
    Calls Try.prog 51 #[.agg (encPlan p)] w fun e w' => e = .returned (.bool p.shape) ∧ Grew w w' := by
  go_enter Try.func51, Try.ntmps51
  go_wp2_with (go_at_call 52; refine (has_any _ _ _ _).mono ?_; rintro e w' ⟨rfl, x, rfl⟩)
  all_goals go_ret
  all_goals refine ⟨by simp [Plan.shape, *], ?_⟩
  all_goals repeat (with_reducible first | exact Grew.refl _ | apply Grew.ext | apply Grew.alloc | apply Grew.drew)
theorem side_any (a b : Int) (w : World) :
    Calls Try.prog 53 #[.agg #[.int .i64 a, .int .i64 b]] w fun e w' => e = .returned (.bool (within 1 4 a && within 1 4 b)) ∧ Grew w w' := by
  go_enter Try.func53, Try.ntmps53
  go_wp2_with (go_at_call 52; refine (has_any _ _ _ _).mono ?_; rintro e w' ⟨rfl, x, rfl⟩)
  all_goals go_ret
  all_goals refine ⟨by simp [*], ?_⟩
  all_goals repeat (with_reducible first | exact Grew.refl _ | apply Grew.ext | apply Grew.alloc | apply Grew.drew)
theorem shape_iff (p : Plan) : p.shape = true ↔ (1 ≤ p.Banks ∧ p.Banks ≤ 4) ∧ (1 ≤ p.Pages ∧ p.Pages ≤ 16) ∧ (1 ≤ p.Lines ∧ p.Lines ≤ 8) ∧ (2 ≤ p.Arity ∧ p.Arity ≤ 4) := by
  simp [Plan.shape, within_iff, and_assoc]
theorem All_any (p : Plan) (w : World) :
    Calls Try.prog 69 #[.agg (encPlan p)] w fun e w' => e = .returned (.int .i64 p.all) ∧ Grew w w' := by
  by_cases hs : p.shape = true
  · obtain ⟨_, ⟨h1, h2⟩, ⟨h3, h4⟩, _⟩ := (shape_iff p).1 hs
    have hm : 0 ≤ p.Pages * p.Lines ∧ p.Pages * p.Lines ≤ 128 := ⟨Int.mul_nonneg (by omega) (by omega), by
      have := Int.mul_le_mul h2 h4 (by omega) (by omega); omega⟩
    obtain ⟨m1, m2⟩ := hm
    have HS := Lib.hid hs
    go_enter Try.func69, Try.ntmps69
    go_wp2_with (go_at_call 51; refine (shape_any _ _).mono ?_; rintro e w' ⟨rfl, x, rfl⟩)
    all_goals go_ret
    all_goals refine ⟨by simp [Plan.all, HS.out], ?_⟩
    all_goals repeat (with_reducible first | exact Grew.refl _ | apply Grew.ext | apply Grew.alloc | apply Grew.drew)
  · go_enter Try.func69, Try.ntmps69
    go_wp2_with (go_at_call 51; refine (shape_any _ _).mono ?_; rintro e w' ⟨rfl, x, rfl⟩)
    all_goals go_ret
    all_goals refine ⟨by simp [Plan.all, hs], ?_⟩
    all_goals repeat (with_reducible first | exact Grew.refl _ | apply Grew.ext | apply Grew.alloc | apply Grew.drew)

/-! ### widths -/
theorem widthsFrom_fuel (ar : Int) (ha : 2 ≤ ar) : ∀ (k : Nat) (m : Int), 1 ≤ m → m ≤ k → widthsFrom ar k m = widthsFrom ar m.toNat m
  | 0, m, h1, h2 => by omega
  | k + 1, m, h1, h2 => by
    obtain ⟨j, hj⟩ : ∃ j, m.toNat = j + 1 := ⟨m.toNat - 1, by omega⟩
    rw [hj]
    simp only [widthsFrom]
    by_cases hm : m = 1
    · simp [hm]
    · have hlt : (m + ar - 1) / ar < m := by
        rw [Int.ediv_lt_iff_lt_mul (by omega)]
        have : m * 2 ≤ m * ar := Int.mul_le_mul_of_nonneg_left ha (by omega)
        have : (m - 1) * ar ≥ (m - 1) * 2 := Int.mul_le_mul_of_nonneg_left ha (by omega)
        have e : m * ar = (m - 1) * ar + ar := by rw [Int.sub_mul]; omega
        omega
      have hge : 1 ≤ (m + ar - 1) / ar := by rw [Int.le_ediv_iff_mul_le (by omega)]; omega
      simp only [hm, if_false]
      rw [widthsFrom_fuel ar ha k _ hge (by omega), widthsFrom_fuel ar ha j _ hge (by omega)]
theorem up_div (m ar : Int) (ha : 2 ≤ ar) (h1 : 2 ≤ m) : 1 ≤ (m + ar - 1) / ar ∧ (m + ar - 1) / ar < m := by
  constructor
  · rw [Int.le_ediv_iff_mul_le (by omega)]; omega
  · rw [Int.ediv_lt_iff_lt_mul (by omega)]
    have : (m - 1) * ar ≥ (m - 1) * 2 := Int.mul_le_mul_of_nonneg_left ha (by omega)
    have e : m * ar = (m - 1) * ar + ar := by rw [Int.sub_mul]; omega
    omega
theorem widthsFrom_step (ar : Int) (ha : 2 ≤ ar) (m : Int) (h1 : 2 ≤ m) : widthsFrom ar m.toNat m = m :: widthsFrom ar ((m + ar - 1) / ar).toNat ((m + ar - 1) / ar) := by
  obtain ⟨j, hj⟩ : ∃ j, m.toNat = j + 1 := ⟨m.toNat - 1, by omega⟩
  obtain ⟨h2, h3⟩ := up_div m ar ha h1
  rw [hj]
  simp only [widthsFrom, if_neg (show ¬ m = 1 by omega)]
  rw [widthsFrom_fuel ar ha j _ h2 (by omega)]
/-- What holds at each round. -/
def WInv (p : Plan) (w : World) (v n : Value) (wr : World) : Prop :=
  ∃ (xs : List Int) (m : Int), n = .int .i64 m ∧ 1 ≤ m ∧ m ≤ 16 ∧ (xs.length : Int) + m ≤ 16 ∧ xs ++ widthsFrom p.Arity m.toNat m = widthsFrom p.Arity 16 p.Pages ∧
    Own wr (w.heap.size + 1) 3 encInt 1 v xs ∧ Grew (w.alloc (.cells (encPlan p) 28)) wr
theorem widths_any (p : Plan) (w : World) :
    Calls Try.prog 80 #[.agg (encPlan p)] w fun e w' => ∃ v, e = .returned v ∧ Own w' w.heap.size 3 encInt 1 v p.widths ∧ Grew w w' := by
  by_cases hs : p.shape = true
  · obtain ⟨_, ⟨h1, h2⟩, ⟨h3, h4⟩, ⟨h5, h6⟩⟩ := (shape_iff p).1 hs
    have HW : Hid (p.widths = widthsFrom p.Arity 16 p.Pages) := Lib.hid (by simp [Plan.widths, hs])
    have HF : Hid (widthsFrom p.Arity 16 p.Pages = widthsFrom p.Arity p.Pages.toNat p.Pages) := Lib.hid (widthsFrom_fuel _ (by omega) 16 _ h1 (by omega))
    go_enter Try.func80, Try.ntmps80
    go_wp2_with (go_at_call 51; refine (shape_any _ _).mono ?_; rintro e w' ⟨rfl, x, rfl⟩)
    go_loopw [2, 3] (fun v n wr => WInv p w v n wr) (fun _ n _ => (intOf n).toNat)
    case atStart => exact ⟨[], p.Pages, rfl, by omega, by omega, by simp; omega, by rw [HF.out]; rfl, Own.nil _ _ _ _ _, (Grew.refl _).ext _⟩
    case round =>
      obtain ⟨xs, m, rfl, hm1, hm2, hlen, hcat, hown, hg⟩ := hrel
      have hbox := hg.block (ha_new w (.cells (encPlan p) 28))
      obtain ⟨c1, c2, c3, c4, c5, c6⟩ := block_facts hbox
      have hbase : w.heap.size + 1 ≤ wr.heap.size := by have := hg.size; simpa using this
      by_cases hm : m = 1
      · subst hm
        have HC := Lib.hid hcat
        clear hcat
        go_wp2_with (at_builtin; refine app_own eltInt rfl _ _ rfl (hown.alloc _) 1 wr.heap.size (ha_new wr _) rfl rfl (by omega) (by omega) (by simp; omega) ?_; intro v1 w1 hown1 hgr1)
        go_ret
        refine ⟨_, rfl, ?_, ?_⟩
        · rw [HW.out, ← HC.out]
          exact hown1.low (by omega)
        · exact ((Grew.refl w).alloc _).trans ((hg.alloc _).grown hgr1 (fun k hk => by have := (hown.lt k hk).1; simpa using this))
      · have hb1 : ((m : Int) == 1) = false := by simp [hm]
        obtain ⟨d1, d2⟩ := up_div m p.Arity h5 (by omega)
        have hst := Lib.hid (widthsFrom_step p.Arity h5 m (by omega))
        have HC := Lib.hid hcat
        clear hcat
        go_wp2_with (at_builtin; refine app_own eltInt rfl _ _ rfl (hown.alloc _) m wr.heap.size (ha_new wr _) rfl rfl (by omega) (by omega) (by simp; omega) ?_; intro v1 w1 hown1 hgr1; have hg1 := (hg.alloc (Obj.cells (encInt m) 3)).grown hgr1 (fun k hk => by have := (hown.lt k hk).1; simpa using this); have hbox1 := hg1.block (ha_new w (.cells (encPlan p) 28)); obtain ⟨e1, e2, e3, e4, e5, e6⟩ := block_facts hbox1; clear hbox hbox1 c1 c2 c3 c4 c5 c6)
        go_roundw
        case rel => exact ⟨xs ++ [m], _, rfl, d1, by omega, by simp; omega, by rw [List.append_assoc, List.singleton_append, ← hst.out]; exact HC.out, hown1, hg1⟩
        case measure => simp [intOf]; omega
  · go_enter Try.func80, Try.ntmps80
    go_wp2_with (go_at_call 51; refine (shape_any _ _).mono ?_; rintro e w' ⟨rfl, x, rfl⟩)
    all_goals go_ret
    all_goals refine ⟨_, rfl, by simp [Plan.widths, hs]; exact Own.nil _ _ _ _ _, ?_⟩
    all_goals repeat (with_reducible first | exact Grew.refl _ | apply Grew.ext | apply Grew.alloc | apply Grew.drew)

/-! ### Levels, Width, Least, Check -/
theorem widthsFrom_length (ar : Int) : ∀ (k : Nat) (n : Int), (widthsFrom ar k n).length ≤ k
  | 0, n => by simp [widthsFrom]
  | k + 1, n => by
    simp only [widthsFrom, List.length_cons]
    split
    · simp
    · have := widthsFrom_length ar k ((n + ar - 1) / ar); omega
theorem levels_le (p : Plan) : 0 ≤ p.levels ∧ p.levels ≤ 16 := by
  unfold Plan.levels Plan.widths
  split
  · have := widthsFrom_length p.Arity 16 p.Pages; omega
  · simp
theorem Levels_any (p : Plan) (w : World) :
    Calls Try.prog 65 #[.agg (encPlan p)] w fun e w' => e = .returned (.int .i64 p.levels) ∧ Grew w w' := by
  go_enter Try.func65, Try.ntmps65
  go_wp2_with (go_at_call 80; refine (widths_any _ _).mono ?_; rintro e w' ⟨v, rfl, hown, x, rfl⟩; obtain ⟨A, c, rfl, hc1, hc2⟩ := hown.shape)
  all_goals go_ret
  all_goals refine ⟨rfl, ?_⟩
  all_goals repeat (with_reducible first | exact Grew.refl _ | apply Grew.ext | apply Grew.alloc | apply Grew.drew)
theorem Width_any (p : Plan) (l : Int) (w : World) :
    Calls Try.prog 67 #[.agg (encPlan p), .int .i64 l] w fun e w' => e = .returned (.int .i64 (p.width l)) ∧ Grew w w' := by
  by_cases h0 : l < 0
  · have HD : Hid (p.width l = 0) := Lib.hid (by simp [Plan.width, h0])
    go_enter Try.func67, Try.ntmps67
    go_wp2_with (go_at_call 80; refine (widths_any _ _).mono ?_; rintro e w' ⟨v, rfl, hown, x, rfl⟩; obtain ⟨A, c, rfl, hc1, hc2⟩ := hown.shape)
    all_goals go_ret
    all_goals refine ⟨by rw [HD.out]; rfl, ?_⟩
    all_goals repeat (with_reducible first | exact Grew.refl _ | apply Grew.ext | apply Grew.alloc | apply Grew.drew)
  · by_cases h1 : l < p.widths.length
    · obtain ⟨k, rfl⟩ := Int.eq_ofNat_of_zero_le (by omega : 0 ≤ l)
      have hk : k < p.widths.length := by omega
      have HD : Hid (p.width k = p.widths[k]) := Lib.hid (by simp [Plan.width, hk, show ¬ ((k : Int) < 0) by omega])
      go_enter Try.func67, Try.ntmps67
      go_wp2_with (go_at_call 80; go_loud (refine (widths_any _ _).mono ?_; rintro e w' ⟨v, rfl, hown, x, rfl⟩; obtain ⟨g, cap, cur, rfl, hg1, hg2, hg3, hg4, hg5, hg6⟩ := hown.block (by omega); have hc := row_cell eltInt.size hg6 rfl (List.getElem?_eq_getElem hk) Nat.zero_lt_one; obtain ⟨c1, c2, c3, c4, c5, c6⟩ := block_facts hg2; have hc7 := (c1 (k * 1 + 0)).trans hc; simp at hc7; clear c1 c2 c3 c4 c5 hg2 hg5 hg6 hc hown))
      all_goals go_ret
      all_goals refine ⟨by rw [HD.out]; rfl, ?_⟩
      all_goals repeat (with_reducible first | exact Grew.refl _ | apply Grew.ext | apply Grew.alloc | apply Grew.drew)
    · have HD : Hid (p.width l = 0) := Lib.hid (by simp only [Plan.width, h0, if_false]; rw [List.getD_eq_getElem?_getD, List.getElem?_eq_none (by omega)]; rfl)
      go_enter Try.func67, Try.ntmps67
      go_wp2_with (go_at_call 80; refine (widths_any _ _).mono ?_; rintro e w' ⟨v, rfl, hown, x, rfl⟩; obtain ⟨A, c, rfl, hc1, hc2⟩ := hown.shape)
      all_goals go_ret
      all_goals refine ⟨by rw [HD.out]; rfl, ?_⟩
      all_goals repeat (with_reducible first | exact Grew.refl _ | apply Grew.ext | apply Grew.alloc | apply Grew.drew)
theorem Least_any (p : Plan) (w : World) :
    Calls Try.prog 54 #[.agg (encPlan p)] w fun e w' => e = .returned (.int .i64 p.least) ∧ Grew w w' := by
  by_cases hs : p.shape = true
  · obtain ⟨⟨h1, h2⟩, _⟩ := (shape_iff p).1 hs
    obtain ⟨l1, l2⟩ := levels_le p
    have hm : 0 ≤ p.Banks * p.levels ∧ p.Banks * p.levels ≤ 64 := ⟨Int.mul_nonneg (by omega) (by omega), by
      have := Int.mul_le_mul h2 l2 (by omega) (by omega); omega⟩
    obtain ⟨m1, m2⟩ := hm
    have HS := Lib.hid hs
    clear hs
    go_enter Try.func54, Try.ntmps54
    go_wp2_with (go_at_call 51; refine (shape_any _ _).mono ?_; rintro e w' ⟨rfl, x, rfl⟩; rw [HS.out])
    first | refine wp_region_calm_ext (by kernel_rfl) (by kernel_rfl) ?_ | refine wp_region_calm (by kernel_rfl) (by kernel_rfl) ?_
    repeat (go_big_quiet_step ((go_at_call 65; exact Calls.calm (Levels_any _ _))))
    refine wpQuiet_nil ?_
    rintro _ ⟨y, rfl⟩
    go_wp2
    all_goals go_ret
    all_goals refine ⟨by simp [Plan.least, HS.out], ?_⟩
    all_goals repeat (with_reducible first | exact Grew.refl _ | apply Grew.ext | apply Grew.alloc | apply Grew.drew)
  · have HS := Lib.hid (Bool.eq_false_iff.2 hs)
    clear hs
    go_enter Try.func54, Try.ntmps54
    go_wp2_with (go_at_call 51; refine (shape_any _ _).mono ?_; rintro e w' ⟨rfl, x, rfl⟩; rw [HS.out])
    all_goals go_ret
    all_goals refine ⟨by simp [Plan.least, HS.out], ?_⟩
    all_goals repeat (with_reducible first | exact Grew.refl _ | apply Grew.ext | apply Grew.alloc | apply Grew.drew)
end Go.Proofs.Ytngmdedoboccoaa
