/- bastionref05: the document's answer for plans. -/
import Derived.Test.YtngmdedoboccoaaReg3
import Derived.Handy
import Derived.IntWalk
set_option linter.unusedVariables false
set_option linter.unusedSimpArgs false
set_option maxHeartbeats 1000000
set_option maxRecDepth 100000
namespace Go.Proofs.Ytngmdedoboccoaa
open Go Go.RowKit

def fitI (n l m : Int) : Int := if l ≤ n ∧ n ≤ m then n else l + n % (m - l + 1)
theorem fitI_in (n l m : Int) (h : l ≤ m) : l ≤ fitI n l m ∧ fitI n l m ≤ m := by
  unfold fitI
  split
  · assumption
  · have hc : 0 < m - l + 1 := by omega
    have h1 := Int.emod_lt_of_pos n hc
    have h2 := Int.emod_nonneg n (show m - l + 1 ≠ 0 by omega)
    omega
theorem tmod_emod (n c : Int) : n.tmod c % c = n % c := by rw [Int.tmod_def]; exact Int.sub_mul_emod_self_left ..
theorem tmod_two (n c : Int) (hc : 0 < c) : (n.tmod c + c).tmod c = n % c := by
  have t2 : -c < n.tmod c := Int.lt_tmod_of_pos n hc
  rw [Int.tmod_eq_emod_of_nonneg (by omega), Int.add_emod_right, tmod_emod]
theorem fit_any (n l m : Int) (hl : 0 ≤ l) (hm : l ≤ m) (h64 : m ≤ 4096) (w : World) :
    Calls Try.prog 27 #[.int .i64 n, .int .i64 l, .int .i64 m] w fun e w' => e = .returned (.int .i64 (fitI n l m)) ∧ Grew w w' := by
  have hc : 0 < m - l + 1 := by omega
  obtain ⟨c, hcc⟩ : ∃ c, m - l + 1 = c := ⟨_, rfl⟩
  rw [hcc] at hc
  have t1 := Int.tmod_lt_of_pos n hc
  have t2 : -c < n.tmod c := Int.lt_tmod_of_pos n hc
  have t3 := Int.emod_lt_of_pos n hc
  have t4 := Int.emod_nonneg n (show c ≠ 0 by omega)
  have e1 : IntKind.i64.wrap (m - l) = m - l := IntWalk.i64_in _ ⟨by omega, by omega⟩
  have e2 : IntKind.i64.wrap (m - l + 1) = c := (IntWalk.i64_in _ ⟨by omega, by omega⟩).trans hcc
  have hc0 : (c = 0) = False := by simp; omega
  by_cases h1 : l ≤ n
  · by_cases h2 : n ≤ m
    · have HV : Hid (fitI n l m = n) := Lib.hid (by simp [fitI, h1, h2])
      go_enter Try.func27, Try.ntmps27
      go_wp2
      rw [HV.out]
      go_ret
      refine ⟨rfl, ?_⟩
      all_goals repeat (with_reducible first | exact Grew.refl _ | apply Grew.ext | apply Grew.alloc | apply Grew.drew)
    · have HV : Hid (fitI n l m = l + n % c) := Lib.hid (by simp [fitI, h2, hcc])
      go_enter Try.func27, Try.ntmps27
      go_wp2
      rw [HV.out]
      go_ret
      refine ⟨rfl, ?_⟩
      all_goals repeat (with_reducible first | exact Grew.refl _ | apply Grew.ext | apply Grew.alloc | apply Grew.drew)
  · have q2 := tmod_emod n c
    have HV : Hid (fitI n l m = l + n % c) := Lib.hid (by simp [fitI, h1, hcc])
    go_enter Try.func27, Try.ntmps27
    go_wp2
    rw [HV.out]
    go_ret
    refine ⟨rfl, ?_⟩
    all_goals repeat (with_reducible first | exact Grew.refl _ | apply Grew.ext | apply Grew.alloc | apply Grew.drew)
theorem Shaped_any (p : Plan) (w : World) :
    Calls Try.prog 40 #[.agg (encPlan p)] w fun e w' => e = .returned (.bool p.shape) ∧ Grew w w' := by
  by_cases h0 : ¬ (1 ≤ p.Banks)
  · have HV : Hid (p.shape = false) := Lib.hid (by rw [Bool.eq_false_iff]; intro hs; have := (shape_iff p).1 hs; omega)
    go_enter Try.func40, Try.ntmps40
    go_wp2
    rw [HV.out]
    go_ret
    refine ⟨rfl, ?_⟩
    all_goals repeat (with_reducible first | exact Grew.refl _ | apply Grew.ext | apply Grew.alloc | apply Grew.drew)
  have h0 : 1 ≤ p.Banks := by omega
  by_cases h1 : ¬ (p.Banks ≤ 4)
  · have HV : Hid (p.shape = false) := Lib.hid (by rw [Bool.eq_false_iff]; intro hs; have := (shape_iff p).1 hs; omega)
    go_enter Try.func40, Try.ntmps40
    go_wp2
    rw [HV.out]
    go_ret
    refine ⟨rfl, ?_⟩
    all_goals repeat (with_reducible first | exact Grew.refl _ | apply Grew.ext | apply Grew.alloc | apply Grew.drew)
  have h1 : p.Banks ≤ 4 := by omega
  by_cases h2 : ¬ (1 ≤ p.Pages)
  · have HV : Hid (p.shape = false) := Lib.hid (by rw [Bool.eq_false_iff]; intro hs; have := (shape_iff p).1 hs; omega)
    go_enter Try.func40, Try.ntmps40
    go_wp2
    rw [HV.out]
    go_ret
    refine ⟨rfl, ?_⟩
    all_goals repeat (with_reducible first | exact Grew.refl _ | apply Grew.ext | apply Grew.alloc | apply Grew.drew)
  have h2 : 1 ≤ p.Pages := by omega
  by_cases h3 : ¬ (p.Pages ≤ 16)
  · have HV : Hid (p.shape = false) := Lib.hid (by rw [Bool.eq_false_iff]; intro hs; have := (shape_iff p).1 hs; omega)
    go_enter Try.func40, Try.ntmps40
    go_wp2
    rw [HV.out]
    go_ret
    refine ⟨rfl, ?_⟩
    all_goals repeat (with_reducible first | exact Grew.refl _ | apply Grew.ext | apply Grew.alloc | apply Grew.drew)
  have h3 : p.Pages ≤ 16 := by omega
  by_cases h4 : ¬ (1 ≤ p.Lines)
  · have HV : Hid (p.shape = false) := Lib.hid (by rw [Bool.eq_false_iff]; intro hs; have := (shape_iff p).1 hs; omega)
    go_enter Try.func40, Try.ntmps40
    go_wp2
    rw [HV.out]
    go_ret
    refine ⟨rfl, ?_⟩
    all_goals repeat (with_reducible first | exact Grew.refl _ | apply Grew.ext | apply Grew.alloc | apply Grew.drew)
  have h4 : 1 ≤ p.Lines := by omega
  by_cases h5 : ¬ (p.Lines ≤ 8)
  · have HV : Hid (p.shape = false) := Lib.hid (by rw [Bool.eq_false_iff]; intro hs; have := (shape_iff p).1 hs; omega)
    go_enter Try.func40, Try.ntmps40
    go_wp2
    rw [HV.out]
    go_ret
    refine ⟨rfl, ?_⟩
    all_goals repeat (with_reducible first | exact Grew.refl _ | apply Grew.ext | apply Grew.alloc | apply Grew.drew)
  have h5 : p.Lines ≤ 8 := by omega
  by_cases h6 : ¬ (2 ≤ p.Arity)
  · have HV : Hid (p.shape = false) := Lib.hid (by rw [Bool.eq_false_iff]; intro hs; have := (shape_iff p).1 hs; omega)
    go_enter Try.func40, Try.ntmps40
    go_wp2
    rw [HV.out]
    go_ret
    refine ⟨rfl, ?_⟩
    all_goals repeat (with_reducible first | exact Grew.refl _ | apply Grew.ext | apply Grew.alloc | apply Grew.drew)
  have h6 : 2 ≤ p.Arity := by omega
  by_cases h7 : ¬ (p.Arity ≤ 4)
  · have HV : Hid (p.shape = false) := Lib.hid (by rw [Bool.eq_false_iff]; intro hs; have := (shape_iff p).1 hs; omega)
    go_enter Try.func40, Try.ntmps40
    go_wp2
    rw [HV.out]
    go_ret
    refine ⟨rfl, ?_⟩
    all_goals repeat (with_reducible first | exact Grew.refl _ | apply Grew.ext | apply Grew.alloc | apply Grew.drew)
  have h7 : p.Arity ≤ 4 := by omega
  have HV : Hid (p.shape = true) := Lib.hid (by rw [shape_iff]; omega)
  go_enter Try.func40, Try.ntmps40
  go_wp2
  rw [HV.out]
  go_ret
  refine ⟨rfl, ?_⟩
  all_goals repeat (with_reducible first | exact Grew.refl _ | apply Grew.ext | apply Grew.alloc | apply Grew.drew)
end Go.Proofs.Ytngmdedoboccoaa
