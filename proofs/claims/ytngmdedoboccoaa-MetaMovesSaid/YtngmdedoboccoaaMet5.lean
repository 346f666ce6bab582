/- Package meta: Put. -/
import Derived.Test.YtngmdedoboccoaaMet4
set_option linter.unusedVariables false
set_option linter.unusedSimpArgs false
set_option maxHeartbeats 1000000
set_option maxRecDepth 100000
namespace Go.Proofs.Ytngmdedoboccoaa
open Go Go.RowKit

theorem Item_any (p : Plan) (x : Item) (w : World) :
    Calls Try.prog 30 #[.agg (encPlan p), .agg (encItem x)] w fun e w' => e = .returned (.tuple #[.int .i64 (if p.item x = true then p.place x else 0), .bool (p.item x)]) ∧ Grew w w' := by
  by_cases h : p.item x = true
  · rw [if_pos h, h]; exact Item_yes p x h w
  · rw [if_neg h]
    have h' : p.item x = false := by simpa using h
    rw [h']; exact Item_no p x h' w
theorem findVal_gen (r : Option (Nat × Nat)) : ∃ f1 f2 : Int, findVal r = .tuple #[.int .i64 f1, .int .i64 f2, .bool r.isSome] := by
  rcases r with _ | ⟨k, i⟩
  · exact ⟨_, _, rfl⟩
  · exact ⟨_, _, rfl⟩
theorem zip_fold_at (o : Nat) : ∀ (l : List Value) (i : Nat) (z : Array Value), o + (i + l.length) ≤ z.size → ∀ j, (List.foldl (fun (cs : Array Value) (x : Value × Nat) => cs.setIfInBounds (o + x.2) x.1) z (l.zipIdx i))[j]? = if o + i ≤ j ∧ j < o + (i + l.length) then l[j - (o + i)]? else z[j]?
  | [], i, z, h, j => by simp; omega
  | x :: l, i, z, h, j => by
    simp only [List.length_cons] at h
    simp only [List.zipIdx_cons, List.foldl_cons]
    rw [zip_fold_at o l (i + 1) _ (by simp; omega) j]
    by_cases hj : o + (i + 1) ≤ j ∧ j < o + (i + 1 + l.length)
    · rw [if_pos hj, if_pos (by simp; omega)]
      have : j - (o + i) = (j - (o + (i + 1))) + 1 := by omega
      rw [this, List.getElem?_cons_succ]
    · rw [if_neg hj]
      by_cases hij : o + i = j
      · subst hij
        rw [if_pos (by simp), Array.getElem?_setIfInBounds_self_of_lt (by omega)]
        simp
      · rw [if_neg (by simp; omega), Array.getElem?_setIfInBounds_ne hij]
theorem encCached_is (x : Cached) : encCached x = #[.int .i64 x.Item.Level, .int .i64 x.Item.Index, .int .i64 x.Bank] ++ encB x.Bytes ++ #[.bool x.Dirty] := by
  apply Array.ext'
  simp [encCached, cCached, encB]
theorem build_fold (x : Cached) (z : Array Value) (h : z.size = 36) (h0 : z[0]? = some (.int .i64 x.Item.Level)) (h1 : z[1]? = some (.int .i64 x.Item.Index)) (h2 : z[2]? = some (.int .i64 x.Bank)) (h3 : z[35]? = some (.bool x.Dirty)) :
    Array.foldl (fun (cs : Array Value) (x : Value × Nat) => cs.setIfInBounds (3 + x.2) x.1) z (((encB x.Bytes).extract 0 32).zipIdx) 0 32 = encCached x := by
  have hs : (((encB x.Bytes).extract 0 32).zipIdx).size = 32 := by simp
  have key : Array.foldl (fun (cs : Array Value) (x : Value × Nat) => cs.setIfInBounds (3 + x.2) x.1) z (((encB x.Bytes).extract 0 32).zipIdx) 0 (((encB x.Bytes).extract 0 32).zipIdx).size = encCached x := by
    rw [encB_all]
    apply Array.ext_getElem?
    intro j
    rw [← Array.foldl_toList, Array.toList_zipIdx, zip_fold_at 3 (encB x.Bytes).toList 0 z (by simp; omega) j, encCached_is]
    have hl : (encB x.Bytes).toList.length = 32 := by simp
    rw [hl]
    by_cases hj : 3 ≤ j ∧ j < 35
    · rw [if_pos (by omega), Array.getElem?_append_left (by simp; omega), Array.getElem?_append_right (by simp; omega)]
      simp
    · rw [if_neg (by omega)]
      rcases Nat.lt_or_ge j 3 with h' | h'
      · rw [Array.getElem?_append_left (by simp; omega), Array.getElem?_append_left (by simp; omega)]
        match j, h' with
        | 0, _ => simpa using h0
        | 1, _ => simpa using h1
        | 2, _ => simpa using h2
      · rw [Array.getElem?_append_right (by simp; omega)]
        by_cases hj : j = 35
        · subst hj; simpa using h3
        · rw [Array.getElem?_eq_none (by omega), Array.getElem?_eq_none (by simp; omega)]
  rw [hs] at key
  exact key
theorem Put_any {w : World} {a : Nat} {S : MC} {fp : List Nat} (h : MRep w a S fp) (ok : S.Ok) (bank : Int) (it : Item) (b : Vector UInt8 32) :
    Calls Try.prog 9 #[.pointer (some ⟨a, 0, none⟩), .int .i64 bank, .agg (encItem it), .agg (encB b)] w fun e w' =>
      e = .returned (.int .i64 (S.put bank it b).1) ∧ ∃ fp', MRep w' a (S.put bank it b).2 fp' ∧ Upd w w' fp fp' := by
  obtain ⟨f1, f2, hfv⟩ := findVal_gen (S.find it)
  have HFn := Lib.hid fun (w2 : World) (hg : Grew w w2) => find_any (h.grew hg) it
  have HTn := Lib.hid fun (w2 : World) (hg : Grew w w2) => there_any (h.grew hg) bank
  have HRn := Lib.hid fun (w2 : World) (hg : Grew w w2) => Room_any (h.grew hg) ok.few bank
  have HR := Lib.hid h
  have HP := Lib.hid h.lt
  have HFV := Lib.hid hfv
  generalize hpv : (if S.plan.item it = true then S.plan.place it else 0) = pv
  have HI := Lib.hid fun (w2 : World) => Item_any S.plan it w2
  rw [hpv] at HI
  have HA : ∃ bb, w.cell? ⟨a, 46, none⟩ = some (.slice (some ⟨bb, 0, none⟩) S.banks.length S.banks.length) ∧ w.cell? ⟨a, 11, none⟩ = some (.int .i64 S.plan.Meta) ∧ w.rowD a 0 46 = encPlan S.plan ∧ w.hasRow a 0 46 = true ∧ a < w.heap.size := by
    obtain ⟨bb, hs, rfl, hn, h1, h2, h3, h4, h5, h6⟩ := h
    exact ⟨bb, head_facts h1⟩
  obtain ⟨bb, hA, hM, hR, hH, la⟩ := HA
  clear hfv hpv
  by_cases hth : S.there bank = false
  · have HD : Hid (S.put bank it b = (2, S)) := Lib.hid (by simp [MC.put, hth])
    generalize S.plan.item it = fi at HI
    generalize (S.find it).isSome = ff at HFV
    clear ok h hA hM
    go_enter Try.func9, Try.ntmps9
    go_wp2
    (first | refine wp_region_calm_ext (by kernel_rfl) (by kernel_rfl) ?_ | refine wp_region_calm (by kernel_rfl) (by kernel_rfl) ?_)
    repeat (go_big_quiet_step ((go_at_call 30; exact Calls.calm (HI.out _))))
    refine wpQuiet_nil ?_
    rintro _ ⟨y, rfl⟩
    go_wp2_with (first | (go_at_call 31; refine (HFn.out _ (by all_goals repeat (with_reducible first | exact Grew.refl _ | apply Grew.ext | apply Grew.alloc | apply Grew.drew))).mono ?_; rw [HFV.out]; rintro e w' ⟨rfl, x, rfl⟩) | (go_at_call 32; refine (HTn.out _ (by all_goals repeat (with_reducible first | exact Grew.refl _ | apply Grew.ext | apply Grew.alloc | apply Grew.drew))).mono ?_; rw [hth]; rintro e w' ⟨rfl, x, rfl⟩))
    rw [HD.out]
    go_ret
    refine ⟨rfl, fp, HR.out.grew ?_, Upd.of ?_ fp⟩
    all_goals repeat (with_reducible first | exact Grew.refl _ | apply Grew.ext | apply Grew.alloc | apply Grew.drew)
  have hth : S.there bank = true := by simpa using hth
  by_cases hit : S.plan.item it = false
  · have HD : Hid (S.put bank it b = (2, S)) := Lib.hid (by simp [MC.put, hit])
    rw [hit] at HI
    generalize (S.find it).isSome = ff at HFV
    clear ok h hA hM
    go_enter Try.func9, Try.ntmps9
    go_wp2
    (first | refine wp_region_calm_ext (by kernel_rfl) (by kernel_rfl) ?_ | refine wp_region_calm (by kernel_rfl) (by kernel_rfl) ?_)
    repeat (go_big_quiet_step ((go_at_call 30; exact Calls.calm (HI.out _))))
    refine wpQuiet_nil ?_
    rintro _ ⟨y, rfl⟩
    go_wp2_with (first | (go_at_call 31; refine (HFn.out _ (by all_goals repeat (with_reducible first | exact Grew.refl _ | apply Grew.ext | apply Grew.alloc | apply Grew.drew))).mono ?_; rw [HFV.out]; rintro e w' ⟨rfl, x, rfl⟩) | (go_at_call 32; refine (HTn.out _ (by all_goals repeat (with_reducible first | exact Grew.refl _ | apply Grew.ext | apply Grew.alloc | apply Grew.drew))).mono ?_; rw [hth]; rintro e w' ⟨rfl, x, rfl⟩))
    rw [HD.out]
    go_ret
    refine ⟨rfl, fp, HR.out.grew ?_, Upd.of ?_ fp⟩
    all_goals repeat (with_reducible first | exact Grew.refl _ | apply Grew.ext | apply Grew.alloc | apply Grew.drew)
  have hit : S.plan.item it = true := by simpa using hit
  rw [hit] at HI
  have hno : ¬ (S.there bank = false ∨ S.plan.item it = false) := by rw [hth, hit]; simp
  rcases hf : S.find it with _ | z
  · rw [hf] at HFV
    simp only [hf] at HFn
    simp only [Option.isSome_none] at HFV
    by_cases hroom : S.room bank = 0
    · have HD : Hid (S.put bank it b = (5, S)) := Lib.hid (by simp only [MC.put, if_neg hno, hf, if_pos hroom])
      clear ok h hA hM hno
      go_enter Try.func9, Try.ntmps9
      go_wp2
      (first | refine wp_region_calm_ext (by kernel_rfl) (by kernel_rfl) ?_ | refine wp_region_calm (by kernel_rfl) (by kernel_rfl) ?_)
      repeat (go_big_quiet_step ((go_at_call 30; exact Calls.calm (HI.out _))))
      refine wpQuiet_nil ?_
      rintro _ ⟨y, rfl⟩
      go_wp2_with (first | (go_at_call 31; refine (HFn.out _ (by all_goals repeat (with_reducible first | exact Grew.refl _ | apply Grew.ext | apply Grew.alloc | apply Grew.drew))).mono ?_; rw [HFV.out]; rintro e w' ⟨rfl, x, rfl⟩) | (go_at_call 32; refine (HTn.out _ (by all_goals repeat (with_reducible first | exact Grew.refl _ | apply Grew.ext | apply Grew.alloc | apply Grew.drew))).mono ?_; rw [hth]; rintro e w' ⟨rfl, x, rfl⟩) | (go_at_call 23; refine (HRn.out _ (by all_goals repeat (with_reducible first | exact Grew.refl _ | apply Grew.ext | apply Grew.alloc | apply Grew.drew))).mono ?_; rw [hroom]; rintro e w' ⟨rfl, x, rfl⟩))
      rw [HD.out]
      go_ret
      refine ⟨rfl, fp, HR.out.grew ?_, Upd.of ?_ fp⟩
      all_goals repeat (with_reducible first | exact Grew.refl _ | apply Grew.ext | apply Grew.alloc | apply Grew.drew)
    · have ht' := hth
      simp only [MC.there, decide_eq_true_eq] at ht'
      obtain ⟨t0, t1⟩ := ht'
      obtain ⟨t, rfl⟩ := Int.eq_ofNat_of_zero_le t0
      have htl : t < S.banks.length := by omega
      have hys := List.getElem?_eq_getElem htl
      have hyl : S.banks[t].length < 64 := by
        have h2 := (ok.bank t _ hys).2
        have h1 := hroom
        simp only [MC.room, hth, if_true, MC.bank] at h1
        simp [htl] at h1
        have := ok.few; omega
      have HD : Hid (S.put t it b = (0, ⟨S.plan, S.banks.set t (S.banks[t] ++ [⟨it, t, b, false⟩])⟩)) := Lib.hid (by
        simp only [MC.put, if_neg hno, hf, if_neg hroom, MC.last, Int.toNat_natCast]
        rw [List.getD_eq_getElem?_getD, hys]; rfl)
      have HL := Lib.hid fun (w2 : World) (hg : Grew w w2) => last_any (h.grew hg) (k := t) (q := ⟨it, t, b, false⟩) hys rfl hyl
      generalize hrv : S.room t = rv at hroom HRn
      have hroom' := Lib.hid hrv
      have hb0 : (rv == 0) = false := by simpa using hroom
      clear ok h hA hM hno hroom hys hyl hrv
      go_enter Try.func9, Try.ntmps9
      go_wp2
      (first | refine wp_region_calm_ext (by kernel_rfl) (by kernel_rfl) ?_ | refine wp_region_calm (by kernel_rfl) (by kernel_rfl) ?_)
      repeat (go_big_quiet_step ((go_at_call 30; exact Calls.calm (HI.out _))))
      refine wpQuiet_nil ?_
      rintro _ ⟨y, rfl⟩
      go_wp2_with (first | (go_at_call 31; refine (HFn.out _ (by all_goals repeat (with_reducible first | exact Grew.refl _ | apply Grew.ext | apply Grew.alloc | apply Grew.drew))).mono ?_; rw [HFV.out]; rintro e w' ⟨rfl, x, rfl⟩) | (go_at_call 32; refine (HTn.out _ (by all_goals repeat (with_reducible first | exact Grew.refl _ | apply Grew.ext | apply Grew.alloc | apply Grew.drew))).mono ?_; rw [hth]; rintro e w' ⟨rfl, x, rfl⟩) | (go_at_call 23; refine (HRn.out _ (by all_goals repeat (with_reducible first | exact Grew.refl _ | apply Grew.ext | apply Grew.alloc | apply Grew.drew))).mono ?_; rintro e w' ⟨rfl, x, rfl⟩))
      rw [build_fold ⟨it, t, b, false⟩ _ rfl rfl rfl rfl rfl]
      refine (HL.out _ ?_).mono ?_
      · all_goals repeat (with_reducible first | exact Grew.refl _ | apply Grew.ext | apply Grew.alloc | apply Grew.drew)
      rintro e w2 ⟨rfl, fp2, r1, r2⟩
      have HR2 := Lib.hid r1
      have HU2 := Lib.hid r2
      clear r1 r2
      go_wp2
      rw [HD.out]
      go_ret
      exact ⟨rfl, fp2, HR2.out, Upd.of_grew (by all_goals repeat (with_reducible first | exact Grew.refl _ | apply Grew.ext | apply Grew.alloc | apply Grew.drew)) HU2.out⟩
  · rw [hf] at HFV
    simp only [hf] at HFn
    simp only [Option.isSome_some] at HFV
    have HD : Hid (S.put bank it b = (7, S)) := Lib.hid (by simp only [MC.put, if_neg hno, hf])
    clear ok h hA hM hno
    go_enter Try.func9, Try.ntmps9
    go_wp2
    (first | refine wp_region_calm_ext (by kernel_rfl) (by kernel_rfl) ?_ | refine wp_region_calm (by kernel_rfl) (by kernel_rfl) ?_)
    repeat (go_big_quiet_step ((go_at_call 30; exact Calls.calm (HI.out _))))
    refine wpQuiet_nil ?_
    rintro _ ⟨y, rfl⟩
    go_wp2_with (first | (go_at_call 31; refine (HFn.out _ (by all_goals repeat (with_reducible first | exact Grew.refl _ | apply Grew.ext | apply Grew.alloc | apply Grew.drew))).mono ?_; rw [HFV.out]; rintro e w' ⟨rfl, x, rfl⟩) | (go_at_call 32; refine (HTn.out _ (by all_goals repeat (with_reducible first | exact Grew.refl _ | apply Grew.ext | apply Grew.alloc | apply Grew.drew))).mono ?_; rw [hth]; rintro e w' ⟨rfl, x, rfl⟩))
    rw [HD.out]
    go_ret
    refine ⟨rfl, fp, HR.out.grew ?_, Upd.of ?_ fp⟩
    all_goals repeat (with_reducible first | exact Grew.refl _ | apply Grew.ext | apply Grew.alloc | apply Grew.drew)
end Go.Proofs.Ytngmdedoboccoaa
