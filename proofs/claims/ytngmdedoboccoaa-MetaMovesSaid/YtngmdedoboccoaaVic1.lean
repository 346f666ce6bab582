/- slices.Index, slices.Contains at items. -/
import Derived.Test.YtngmdedoboccoaaWay
set_option linter.unusedVariables false
set_option linter.unusedSimpArgs false
set_option maxHeartbeats 1000000
set_option maxRecDepth 100000
namespace Go.Proofs.Ytngmdedoboccoaa
open Go Go.RowKit

def idxI (xs : List Item) (x : Item) : Int := if x ∈ xs then (xs.findIdx (fun y => decide (x = y)) : Nat) else -1
theorem Index_any {w : World} {base : Nat} {v : Value} {xs : List Item} (h : Own w base 31 encItem 2 v xs) (hl : xs.length ≤ 4096) (x : Item) :
    Calls Try.prog 63 #[v, .agg (encItem x)] w fun e w' => e = .returned (.int .i64 (idxI xs x)) ∧ Grew w w' := by
  obtain ⟨A, c, hv, hc1, hc2⟩ := h.shape
  have HO := Lib.hid h
  subst hv
  clear h
  have hsz := fun (x : Item) => show (encItem x).size = 2 from rfl
  have HS := Lib.hid hsz
  clear hsz
  go_enter Try.func63, Try.ntmps63
  go_wp2
  go_loopw [8] (fun i wr => ∃ k : Nat, k ≤ xs.length ∧ i = .int .i64 k ∧ (∀ q ∈ xs.take k, x ≠ q) ∧ Grew (w.alloc (.cells (encItem x) 31)) wr) (fun i _ => xs.length - (intOf i).toNat)
  case atStart => exact ⟨0, by omega, rfl, by simp, Grew.refl _⟩
  case round =>
    obtain ⟨k, hk, rfl, hno, z, rfl⟩ := hrel
    have HN := Lib.hid hno
    clear hno
    by_cases hlt : k < xs.length
    · obtain ⟨g, cap, cur, he, hg1, hg2, hg3, hg4, hg5, hg6⟩ := HO.out.block (by omega)
      injection he with he1 he2 he3
      subst he1 he3
      obtain ⟨r1, r2⟩ := row_at HS.out hg6 rfl (List.getElem?_eq_getElem hlt)
      obtain ⟨_, _, c3, c4, c5, c6⟩ := block_facts hg2
      have f3 : w.rowD g (k * 2) 2 = encItem xs[k] := (c3 _ _).trans r1
      have f4 : w.hasRow g (k * 2) 2 = true := (c4 _ _).trans (decide_eq_true r2)
      have HT : Hid (xs.take (k + 1) = xs.take k ++ [xs[k]]) := Lib.hid (by rw [List.take_succ_eq_append_getElem hlt])
      have HX : Hid (xs[k]? = some xs[k]) := Lib.hid (List.getElem?_eq_getElem hlt)
      generalize hq0 : xs[k] = q at *
      clear r1 r2 c3 c4 hg2 hg6 hg5 hq0
      by_cases hq : x = q
      · subst hq
        have HV : Hid (idxI xs x = k) := Lib.hid (by
          have hm : x ∈ xs := List.mem_of_getElem? HX.out
          unfold idxI
          rw [if_pos hm]
          congr 1
          have h2 : xs.findIdx (fun y => decide (x = y)) < xs.length := List.findIdx_lt_length_of_exists ⟨x, hm, by simp⟩
          refine Nat.le_antisymm ?_ ?_
          · refine Nat.le_of_not_lt fun hlt2 => ?_
            have := List.not_of_lt_findIdx hlt2
            have e : xs[k] = x := Option.some.inj ((List.getElem?_eq_getElem hlt).symm.trans HX.out)
            simp [e] at this
          · refine Nat.le_of_not_lt fun hlt2 => ?_
            have h3 := List.findIdx_getElem (w := h2)
            have h4 : x = xs[xs.findIdx fun y => decide (x = y)] := by simpa using h3
            exact HN.out _ (List.mem_take_iff_getElem.2 ⟨_, by omega, rfl⟩) h4)
        go_wp2
        (first | refine wp_region_calm_ext (by kernel_rfl) (by kernel_rfl) ?_ | refine wp_region_calm (by kernel_rfl) (by kernel_rfl) ?_)
        repeat (go_big_quiet_step (fail))
        refine wpQuiet_nil ?_
        rintro _ ⟨y, rfl⟩
        go_wp2
        rw [HV.out]
        go_ret
        refine ⟨rfl, ?_⟩
        all_goals repeat (with_reducible first | exact Grew.refl _ | apply Grew.ext | apply Grew.alloc | apply Grew.drew)
      · have d1 : decide (x.Level = q.Level ∧ x.Index = q.Index) = false := by
          rw [decide_eq_false_iff_not]
          rintro ⟨h1, h2⟩
          exact hq (by cases x; cases q; simp_all)
        have HQ := Lib.hid hq
        clear hq
        go_wp2
        (first | refine wp_region_calm_ext (by kernel_rfl) (by kernel_rfl) ?_ | refine wp_region_calm (by kernel_rfl) (by kernel_rfl) ?_)
        repeat (go_big_quiet_step (fail))
        refine wpQuiet_nil ?_
        rintro _ ⟨y, rfl⟩
        go_wp2
        go_roundw
        case rel => exact ⟨k + 1, by omega, by go_num, by
            rw [HT.out]
            intro q' hq'
            rcases List.mem_append.1 hq' with h | h
            · exact HN.out q' h
            · rw [List.mem_singleton.1 h]; exact HQ.out, (Grew.refl _).ext _⟩
        case measure => simp [intOf]; omega
    · obtain rfl : k = xs.length := by omega
      have HV : Hid (idxI xs x = -1) := Lib.hid (by
        unfold idxI
        rw [if_neg]
        intro hm
        have := HN.out
        rw [List.take_length] at this
        exact this x hm rfl)
      go_wp2
      rw [HV.out]
      go_ret
      refine ⟨rfl, ?_⟩
      all_goals repeat (with_reducible first | exact Grew.refl _ | apply Grew.ext | apply Grew.alloc | apply Grew.drew)
theorem Contains_any {w : World} {base : Nat} {v : Value} {xs : List Item} (h : Own w base 31 encItem 2 v xs) (hl : xs.length ≤ 4096) (x : Item) :
    Calls Try.prog 44 #[v, .agg (encItem x)] w fun e w' => e = .returned (.bool (decide (x ∈ xs))) ∧ Grew w w' := by
  have HO := Lib.hid h
  clear h
  by_cases hm : x ∈ xs
  · have hi : idxI xs x = (xs.findIdx (fun y => decide (x = y)) : Nat) := by unfold idxI; rw [if_pos hm]
    have HI := Lib.hid hi
    have HM := Lib.hid hm
    clear hm hi
    generalize xs.findIdx (fun y => decide (x = y)) = n at *
    go_enter Try.func44, Try.ntmps44
    go_wp2_with (go_at_call 63; refine (Index_any (HO.out.alloc _) hl x).mono ?_; rw [HI.out]; rintro e w' ⟨rfl, x, rfl⟩)
    go_ret
    refine ⟨by rw [decide_eq_true HM.out]; rfl, ?_⟩
    all_goals repeat (with_reducible first | exact Grew.refl _ | apply Grew.ext | apply Grew.alloc | apply Grew.drew)
  · have hi : idxI xs x = -1 := by unfold idxI; rw [if_neg hm]
    have HI := Lib.hid hi
    have HM := Lib.hid hm
    clear hm hi
    go_enter Try.func44, Try.ntmps44
    go_wp2_with (go_at_call 63; refine (Index_any (HO.out.alloc _) hl x).mono ?_; rw [HI.out]; rintro e w' ⟨rfl, x, rfl⟩)
    go_ret
    refine ⟨by rw [decide_eq_false HM.out]; rfl, ?_⟩
    all_goals repeat (with_reducible first | exact Grew.refl _ | apply Grew.ext | apply Grew.alloc | apply Grew.drew)
end Go.Proofs.Ytngmdedoboccoaa
