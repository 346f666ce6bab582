/- bastionref05: Fit. -/
import Derived.Test.YtngmdedoboccoaaRef6
import Derived.Test.YtngmdedoboccoaaQtl
import Derived.Test.YtngmdedoboccoaaMet3
set_option linter.unusedVariables false
set_option linter.unusedSimpArgs false
set_option maxHeartbeats 1000000
set_option maxRecDepth 100000
namespace Go.Proofs.Ytngmdedoboccoaa
open Go Go.RowKit

def zPlan : Plan := ⟨0, 0, 0, 0, 0, 0, 0, 0, 0, 0, 0, 0, 0, 0, Vector.replicate 16 0, Vector.replicate 16 0⟩
theorem zeroPlan (w : World) : (zeroValue 28).run Try.prog w = .ok (.agg (encPlan zPlan)) w := by
  unfold encPlan
  kernel_rfl
@[go_sem ↓ high] theorem allocPlan (ρ : Operand → Value) (d : Option Tmp) (t : TypeId) (ps : String) (af : Array Edge) (gd : Option (Nat × Bool)) (w : World) :
    (execOp ρ ⟨d, .alloc 28, t, ps, af, gd⟩).run Try.prog w = .ok (.value (.pointer (some ⟨w.heap.size, 0, none⟩))) (w.alloc (.cells (encPlan zPlan) 28)) := exec_alloc_any zeroPlan ρ d t ps af gd w
section
variable (p : Plan) (n m : Int)
@[go_sem ↓ high] theorem setPlan0 : (encPlan p).setIfInBounds 0 (.int .i64 n) = encPlan { p with Cores := n } := by apply Array.ext'; simp [encPlan, cPlan]
@[go_sem ↓ high] theorem setPlan1 : (encPlan p).setIfInBounds 1 (.int .i64 n) = encPlan { p with Banks := n } := by apply Array.ext'; simp [encPlan, cPlan]
@[go_sem ↓ high] theorem setPlan2 : (encPlan p).setIfInBounds 2 (.int .i64 n) = encPlan { p with Pages := n } := by apply Array.ext'; simp [encPlan, cPlan]
@[go_sem ↓ high] theorem setPlan3 : (encPlan p).setIfInBounds 3 (.int .i64 n) = encPlan { p with Lines := n } := by apply Array.ext'; simp [encPlan, cPlan]
@[go_sem ↓ high] theorem setPlan4 : (encPlan p).setIfInBounds 4 (.int .i64 n) = encPlan { p with Arity := n } := by apply Array.ext'; simp [encPlan, cPlan]
@[go_sem ↓ high] theorem setPlan5 : (encPlan p).setIfInBounds 5 (.int .i64 n) = encPlan { p with Minor := n } := by apply Array.ext'; simp [encPlan, cPlan]
@[go_sem ↓ high] theorem setPlan6 : (encPlan p).setIfInBounds 6 (.int .u64 n) = encPlan { p with Major := n } := by apply Array.ext'; simp [encPlan, cPlan]
@[go_sem ↓ high] theorem setPlan7 : (encPlan p).setIfInBounds 7 (.int .i64 n) = encPlan { p with NearS := n } := by apply Array.ext'; simp [encPlan, cPlan]
@[go_sem ↓ high] theorem setPlan8 : (encPlan p).setIfInBounds 8 (.int .i64 n) = encPlan { p with NearW := n } := by apply Array.ext'; simp [encPlan, cPlan]
@[go_sem ↓ high] theorem setPlan9 : (encPlan p).setIfInBounds 9 (.int .i64 n) = encPlan { p with FarS := n } := by apply Array.ext'; simp [encPlan, cPlan]
@[go_sem ↓ high] theorem setPlan10 : (encPlan p).setIfInBounds 10 (.int .i64 n) = encPlan { p with FarW := n } := by apply Array.ext'; simp [encPlan, cPlan]
@[go_sem ↓ high] theorem setPlan11 : (encPlan p).setIfInBounds 11 (.int .i64 n) = encPlan { p with Meta := n } := by apply Array.ext'; simp [encPlan, cPlan]
@[go_sem ↓ high] theorem setPlan12 : (encPlan p).setIfInBounds 12 (.int .i64 n) = encPlan { p with Queue := n } := by apply Array.ext'; simp [encPlan, cPlan]
@[go_sem ↓ high] theorem setPlan13 : (encPlan p).setIfInBounds 13 (.int .i64 n) = encPlan { p with Kind := n } := by apply Array.ext'; simp [encPlan, cPlan]
@[go_sem ↓ high] theorem putPlanNear : putCells (encPlan p) 7 #[.int .i64 n, .int .i64 m] = encPlan { p with NearS := n, NearW := m } := by apply Array.ext'; simp [putCells, encPlan, cPlan]; rw [List.take_of_length_le (by simp)]
@[go_sem ↓ high] theorem putPlanFar : putCells (encPlan p) 9 #[.int .i64 n, .int .i64 m] = encPlan { p with FarS := n, FarW := m } := by apply Array.ext'; simp [putCells, encPlan, cPlan]; rw [List.take_of_length_le (by simp)]
end
/-- A right plan out of any, but for its caches' lines. -/
def Plan.fit0 (p : Plan) : Plan :=
  { p with
    Cores := fitI p.Cores 1 4, Banks := fitI p.Banks 1 4, Pages := fitI p.Pages 1 16, Lines := fitI p.Lines 1 8, Arity := fitI p.Arity 2 4, Minor := fitI p.Minor 1 8, Major := if p.Major > 4294967296 then 4294967296 else p.Major,
    NearS := fitI p.NearS 1 4, NearW := fitI p.NearW 1 4, FarS := fitI p.FarS 1 4, FarW := fitI p.FarW 1 4, Queue := fitI p.Queue 1 4, Kind := if p.Kind % 2 = 0 then 0 else 1 }
def Plan.fit (p : Plan) : Plan := { p.fit0 with Meta := p.fit0.least + p.Meta % 4 }
theorem KE {n : Int} (h : n.tmod 2 = 0) : n % 2 = 0 := by
  have := Int.dvd_of_tmod_eq_zero h
  omega
theorem KO {n : Int} (h : ¬ n.tmod 2 = 0) : ¬ n % 2 = 0 := fun e => h (Int.tmod_eq_zero_of_dvd (by omega))
theorem Fit_any (p : Plan) (w : World) :
    Calls Try.prog 6 #[.agg (encPlan p)] w fun e w' => e = .returned (.agg (encPlan p.fit)) ∧ Grew w w' := by
  obtain ⟨lb1, lb2⟩ := least_bd p.fit0
  have t1 := Int.tmod_lt_of_pos p.Meta (show (0 : Int) < 4 by omega)
  have t2 : -4 < p.Meta.tmod 4 := Int.lt_tmod_of_pos p.Meta (by omega)
  have t3 := Int.emod_lt_of_pos p.Meta (show (0 : Int) < 4 by omega)
  have t4 := Int.emod_nonneg p.Meta (show (4 : Int) ≠ 0 by omega)
  have e1 := IntWalk.i64_in (p.Meta.tmod 4 + 4) ⟨by omega, by omega⟩
  have e2 := tmod_two p.Meta 4 (by omega)
  have e3 := IntWalk.i64_in (p.fit0.least + p.Meta % 4) ⟨by omega, by omega⟩
  have E := Lib.hid (And.intro e1 (And.intro e2 e3))
  clear e1 e2 e3
  by_cases hM : p.Major > 4294967296 <;> by_cases hK : p.Kind.tmod 2 = 0
  · have b0 : (p.Kind.tmod 2 != 0) = false := by simp [hK]
    have hfit : Hid (({ p with Cores := fitI p.Cores 1 4, Banks := fitI p.Banks 1 4, Pages := fitI p.Pages 1 16, Lines := fitI p.Lines 1 8, Arity := fitI p.Arity 2 4, Minor := fitI p.Minor 1 8, Major := 4294967296, NearS := fitI p.NearS 1 4, NearW := fitI p.NearW 1 4, FarS := fitI p.FarS 1 4, FarW := fitI p.FarW 1 4, Queue := fitI p.Queue 1 4, Kind := 0 } : Plan) = p.fit0) := Lib.hid (by simp only [Plan.fit0]; rw [if_pos hM, if_pos (KE hK)])
    clear hK
    (go_enter Try.func6, Try.ntmps6; go_wp2_with (go_at_call 27; refine (fit_any _ _ _ (by omega) (by omega) (by omega) _).mono ?_; rintro e w' ⟨rfl, x, rfl⟩); refine wp_region_calm_tail_ext 9 (by kernel_rfl) (by kernel_rfl) ?_; simp only [List.take_succ_cons, List.take_zero, List.drop_succ_cons, List.drop_zero]; (repeat (go_big_quiet_step ((go_at_call 27; exact Calls.calm (fit_any _ _ _ (by omega) (by omega) (by omega) _))))); refine wpQuiet_nil ?_; rintro _ ⟨y1, rfl⟩; go_wp2; refine wp_region_calm_tail_ext 9 (by kernel_rfl) (by kernel_rfl) ?_; simp only [List.take_succ_cons, List.take_zero, List.drop_succ_cons, List.drop_zero]; (repeat (go_big_quiet_step ((go_at_call 27; exact Calls.calm (fit_any _ _ _ (by omega) (by omega) (by omega) _))))); refine wpQuiet_nil ?_; rintro _ ⟨y2, rfl⟩; go_wp2_with (go_at_call 27; refine (fit_any _ _ _ (by omega) (by omega) (by omega) _).mono ?_; rintro e w' ⟨rfl, x, rfl⟩); rw [hfit.out]; obtain ⟨e1, e2, e3⟩ := E.out; refine wp_region_calm_tail_ext 8 (by kernel_rfl) (by kernel_rfl) ?_; simp only [List.take_succ_cons, List.take_zero, List.drop_succ_cons, List.drop_zero]; (repeat (go_big_quiet_step ((go_at_call 28; exact Calls.calm (Least05_any _ _))))); refine wpQuiet_nil ?_; rintro _ ⟨y3, rfl⟩; clear e1 e2 e3; go_wp2; refine bodyPost_ret (results_row rfl rowPlan _ _ (w.heap.size + 1) 0 (encPlan p.fit) rfl (by simp [go_sem]) (by simp [go_sem]; rfl)) rfl ⟨rfl, ?_⟩; all_goals repeat (with_reducible first | exact Grew.refl _ | apply Grew.ext | apply Grew.alloc | apply Grew.drew))
  · have b0 : (p.Kind.tmod 2 != 0) = true := by simp [hK]
    have hfit : Hid (({ p with Cores := fitI p.Cores 1 4, Banks := fitI p.Banks 1 4, Pages := fitI p.Pages 1 16, Lines := fitI p.Lines 1 8, Arity := fitI p.Arity 2 4, Minor := fitI p.Minor 1 8, Major := 4294967296, NearS := fitI p.NearS 1 4, NearW := fitI p.NearW 1 4, FarS := fitI p.FarS 1 4, FarW := fitI p.FarW 1 4, Queue := fitI p.Queue 1 4, Kind := 1 } : Plan) = p.fit0) := Lib.hid (by simp only [Plan.fit0]; rw [if_pos hM, if_neg (KO hK)])
    clear hK
    (go_enter Try.func6, Try.ntmps6; go_wp2_with (go_at_call 27; refine (fit_any _ _ _ (by omega) (by omega) (by omega) _).mono ?_; rintro e w' ⟨rfl, x, rfl⟩); refine wp_region_calm_tail_ext 9 (by kernel_rfl) (by kernel_rfl) ?_; simp only [List.take_succ_cons, List.take_zero, List.drop_succ_cons, List.drop_zero]; (repeat (go_big_quiet_step ((go_at_call 27; exact Calls.calm (fit_any _ _ _ (by omega) (by omega) (by omega) _))))); refine wpQuiet_nil ?_; rintro _ ⟨y1, rfl⟩; go_wp2; refine wp_region_calm_tail_ext 9 (by kernel_rfl) (by kernel_rfl) ?_; simp only [List.take_succ_cons, List.take_zero, List.drop_succ_cons, List.drop_zero]; (repeat (go_big_quiet_step ((go_at_call 27; exact Calls.calm (fit_any _ _ _ (by omega) (by omega) (by omega) _))))); refine wpQuiet_nil ?_; rintro _ ⟨y2, rfl⟩; go_wp2_with (go_at_call 27; refine (fit_any _ _ _ (by omega) (by omega) (by omega) _).mono ?_; rintro e w' ⟨rfl, x, rfl⟩); rw [hfit.out]; obtain ⟨e1, e2, e3⟩ := E.out; refine wp_region_calm_tail_ext 8 (by kernel_rfl) (by kernel_rfl) ?_; simp only [List.take_succ_cons, List.take_zero, List.drop_succ_cons, List.drop_zero]; (repeat (go_big_quiet_step ((go_at_call 28; exact Calls.calm (Least05_any _ _))))); refine wpQuiet_nil ?_; rintro _ ⟨y3, rfl⟩; clear e1 e2 e3; go_wp2; refine bodyPost_ret (results_row rfl rowPlan _ _ (w.heap.size + 1) 0 (encPlan p.fit) rfl (by simp [go_sem]) (by simp [go_sem]; rfl)) rfl ⟨rfl, ?_⟩; all_goals repeat (with_reducible first | exact Grew.refl _ | apply Grew.ext | apply Grew.alloc | apply Grew.drew))
  · have b0 : (p.Kind.tmod 2 != 0) = false := by simp [hK]
    have hfit : Hid (({ p with Cores := fitI p.Cores 1 4, Banks := fitI p.Banks 1 4, Pages := fitI p.Pages 1 16, Lines := fitI p.Lines 1 8, Arity := fitI p.Arity 2 4, Minor := fitI p.Minor 1 8, Major := p.Major, NearS := fitI p.NearS 1 4, NearW := fitI p.NearW 1 4, FarS := fitI p.FarS 1 4, FarW := fitI p.FarW 1 4, Queue := fitI p.Queue 1 4, Kind := 0 } : Plan) = p.fit0) := Lib.hid (by simp only [Plan.fit0]; rw [if_neg hM, if_pos (KE hK)])
    clear hK
    (go_enter Try.func6, Try.ntmps6; go_wp2_with (go_at_call 27; refine (fit_any _ _ _ (by omega) (by omega) (by omega) _).mono ?_; rintro e w' ⟨rfl, x, rfl⟩); refine wp_region_calm_tail_ext 9 (by kernel_rfl) (by kernel_rfl) ?_; simp only [List.take_succ_cons, List.take_zero, List.drop_succ_cons, List.drop_zero]; (repeat (go_big_quiet_step ((go_at_call 27; exact Calls.calm (fit_any _ _ _ (by omega) (by omega) (by omega) _))))); refine wpQuiet_nil ?_; rintro _ ⟨y1, rfl⟩; go_wp2; refine wp_region_calm_tail_ext 9 (by kernel_rfl) (by kernel_rfl) ?_; simp only [List.take_succ_cons, List.take_zero, List.drop_succ_cons, List.drop_zero]; (repeat (go_big_quiet_step ((go_at_call 27; exact Calls.calm (fit_any _ _ _ (by omega) (by omega) (by omega) _))))); refine wpQuiet_nil ?_; rintro _ ⟨y2, rfl⟩; go_wp2_with (go_at_call 27; refine (fit_any _ _ _ (by omega) (by omega) (by omega) _).mono ?_; rintro e w' ⟨rfl, x, rfl⟩); rw [hfit.out]; obtain ⟨e1, e2, e3⟩ := E.out; refine wp_region_calm_tail_ext 8 (by kernel_rfl) (by kernel_rfl) ?_; simp only [List.take_succ_cons, List.take_zero, List.drop_succ_cons, List.drop_zero]; (repeat (go_big_quiet_step ((go_at_call 28; exact Calls.calm (Least05_any _ _))))); refine wpQuiet_nil ?_; rintro _ ⟨y3, rfl⟩; clear e1 e2 e3; go_wp2; refine bodyPost_ret (results_row rfl rowPlan _ _ (w.heap.size + 1) 0 (encPlan p.fit) rfl (by simp [go_sem]) (by simp [go_sem]; rfl)) rfl ⟨rfl, ?_⟩; all_goals repeat (with_reducible first | exact Grew.refl _ | apply Grew.ext | apply Grew.alloc | apply Grew.drew))
  · have b0 : (p.Kind.tmod 2 != 0) = true := by simp [hK]
    have hfit : Hid (({ p with Cores := fitI p.Cores 1 4, Banks := fitI p.Banks 1 4, Pages := fitI p.Pages 1 16, Lines := fitI p.Lines 1 8, Arity := fitI p.Arity 2 4, Minor := fitI p.Minor 1 8, Major := p.Major, NearS := fitI p.NearS 1 4, NearW := fitI p.NearW 1 4, FarS := fitI p.FarS 1 4, FarW := fitI p.FarW 1 4, Queue := fitI p.Queue 1 4, Kind := 1 } : Plan) = p.fit0) := Lib.hid (by simp only [Plan.fit0]; rw [if_neg hM, if_neg (KO hK)])
    clear hK
    (go_enter Try.func6, Try.ntmps6; go_wp2_with (go_at_call 27; refine (fit_any _ _ _ (by omega) (by omega) (by omega) _).mono ?_; rintro e w' ⟨rfl, x, rfl⟩); refine wp_region_calm_tail_ext 9 (by kernel_rfl) (by kernel_rfl) ?_; simp only [List.take_succ_cons, List.take_zero, List.drop_succ_cons, List.drop_zero]; (repeat (go_big_quiet_step ((go_at_call 27; exact Calls.calm (fit_any _ _ _ (by omega) (by omega) (by omega) _))))); refine wpQuiet_nil ?_; rintro _ ⟨y1, rfl⟩; go_wp2; refine wp_region_calm_tail_ext 9 (by kernel_rfl) (by kernel_rfl) ?_; simp only [List.take_succ_cons, List.take_zero, List.drop_succ_cons, List.drop_zero]; (repeat (go_big_quiet_step ((go_at_call 27; exact Calls.calm (fit_any _ _ _ (by omega) (by omega) (by omega) _))))); refine wpQuiet_nil ?_; rintro _ ⟨y2, rfl⟩; go_wp2_with (go_at_call 27; refine (fit_any _ _ _ (by omega) (by omega) (by omega) _).mono ?_; rintro e w' ⟨rfl, x, rfl⟩); rw [hfit.out]; obtain ⟨e1, e2, e3⟩ := E.out; refine wp_region_calm_tail_ext 8 (by kernel_rfl) (by kernel_rfl) ?_; simp only [List.take_succ_cons, List.take_zero, List.drop_succ_cons, List.drop_zero]; (repeat (go_big_quiet_step ((go_at_call 28; exact Calls.calm (Least05_any _ _))))); refine wpQuiet_nil ?_; rintro _ ⟨y3, rfl⟩; clear e1 e2 e3; go_wp2; refine bodyPost_ret (results_row rfl rowPlan _ _ (w.heap.size + 1) 0 (encPlan p.fit) rfl (by simp [go_sem]) (by simp [go_sem]; rfl)) rfl ⟨rfl, ?_⟩; all_goals repeat (with_reducible first | exact Grew.refl _ | apply Grew.ext | apply Grew.alloc | apply Grew.drew))
end Go.Proofs.Ytngmdedoboccoaa
