/- Package meta: there, Room, Get, New. -/
import Derived.Test.YtngmdedoboccoaaMet0
set_option linter.unusedVariables false
set_option linter.unusedSimpArgs false
set_option maxHeartbeats 1000000
set_option maxRecDepth 100000
namespace Go.Proofs.Ytngmdedoboccoaa
open Go Go.RowKit

/-- What a walk asks of the caches' own block. -/
theorem head_facts {w : World} {a bb n : Nat} {p : Plan} (h1 : w.heap[a]? = some (.cells (encPlan p ++ #[.slice (some ⟨bb, 0, none⟩) n n]) 73 (0, 0))) :
    w.cell? ⟨a, 46, none⟩ = some (.slice (some ⟨bb, 0, none⟩) n n) ∧ w.cell? ⟨a, 11, none⟩ = some (.int .i64 p.Meta) ∧ w.rowD a 0 46 = encPlan p ∧ w.hasRow a 0 46 = true ∧ a < w.heap.size := by
  obtain ⟨c1, c2, c3, c4, c5, c6⟩ := block_facts h1
  refine ⟨?_, ?_, ?_, ?_, c6⟩
  · rw [c1, Array.getElem?_append_right (by simp)]; simp
  · rw [c1, Array.getElem?_append_left (by simp)]; exact encPlan_11 p
  · rw [c3, Array.extract_append]
    have := encPlan_size p
    simp [this, encPlan_all]
  · rw [c4]; simp
def MC.there (S : MC) (bank : Int) : Bool := decide (0 ≤ bank ∧ bank < S.banks.length)
theorem there_any {w : World} {a : Nat} {S : MC} {fp : List Nat} (h : MRep w a S fp) (bank : Int) :
    Calls Try.prog 32 #[.pointer (some ⟨a, 0, none⟩), .int .i64 bank] w fun e w' => e = .returned (.bool (S.there bank)) ∧ Grew w w' := by
  obtain ⟨bb, hs, rfl, hn, h1, h2, h3, h4, h5, h6⟩ := h
  obtain ⟨hA, hM, hR, hH, la⟩ := head_facts h1
  clear h1 h2 h5 h6
  by_cases h0 : 0 ≤ bank
  · by_cases hl : bank < S.banks.length
    · have HT : Hid (S.there bank = true) := Lib.hid (by simp [MC.there, h0, hl])
      go_enter Try.func32, Try.ntmps32
      go_wp2
      go_ret
      refine ⟨by rw [HT.out]; rfl, ?_⟩
      all_goals repeat (with_reducible first | exact Grew.refl _ | apply Grew.ext | apply Grew.alloc | apply Grew.drew)
    · have HT : Hid (S.there bank = false) := Lib.hid (by simp [MC.there]; omega)
      go_enter Try.func32, Try.ntmps32
      go_wp2
      go_ret
      refine ⟨by rw [HT.out]; rfl, ?_⟩
      all_goals repeat (with_reducible first | exact Grew.refl _ | apply Grew.ext | apply Grew.alloc | apply Grew.drew)
  · have HT : Hid (S.there bank = false) := Lib.hid (by simp [MC.there]; omega)
    go_enter Try.func32, Try.ntmps32
    go_wp2
    go_ret
    refine ⟨by rw [HT.out]; rfl, ?_⟩
    all_goals repeat (with_reducible first | exact Grew.refl _ | apply Grew.ext | apply Grew.alloc | apply Grew.drew)
def MC.bank (S : MC) (b : Int) : List Cached := S.banks.getD b.toNat []
def MC.room (S : MC) (b : Int) : Int := if S.there b then S.plan.Meta - (S.bank b).length else 0
theorem Room_any {w : World} {a : Nat} {S : MC} {fp : List Nat} (h : MRep w a S fp) (hm : 0 ≤ S.plan.Meta ∧ S.plan.Meta ≤ 64) (bank : Int) :
    Calls Try.prog 23 #[.pointer (some ⟨a, 0, none⟩), .int .i64 bank] w fun e w' => e = .returned (.int .i64 (S.room bank)) ∧ Grew w w' := by
  have hth := there_any h bank
  obtain ⟨bb, hs, rfl, hn, h1, h2, h3, h4, h5, h6⟩ := h
  obtain ⟨hA, hM, hR, hH, la⟩ := head_facts h1
  have lb := lt_of_block h2
  rcases Bool.eq_false_or_eq_true (S.there bank) with ht | ht
  · have ht' := ht
    simp only [MC.there, decide_eq_true_eq] at ht'
    obtain ⟨t0, t1⟩ := ht'
    obtain ⟨k, rfl⟩ := Int.eq_ofNat_of_zero_le t0
    have hlt : k < S.banks.length := by omega
    have hbk : w.cell? ⟨bb, k, none⟩ = some hs[k] := by rw [cell_of_row w bb k _ _ _ h2]; simp
    have hown := h5 k hs[k] S.banks[k] (List.getElem?_eq_getElem (by omega)) (List.getElem?_eq_getElem hlt)
    have hl64 := h6 S.banks[k] (List.getElem_mem hlt)
    obtain ⟨A, c, hv, hc1, hc2⟩ := hown.shape
    rw [hv] at hbk
    have HR : Hid (S.room k = S.plan.Meta - S.banks[k].length) := Lib.hid (by simp [MC.room, MC.bank, ht, hlt])
    rw [ht] at hth
    obtain ⟨m1, m2⟩ := hm
    have HH := Lib.hid hth
    generalize S.banks[k] = xs at *
    clear h1 h2 h5 h6 hth hown hv ht hc2
    go_enter Try.func23, Try.ntmps23
    go_wp2_with (go_at_call 32; refine HH.out.mono ?_; rintro e w' ⟨rfl, x, rfl⟩)
    (first | refine wp_region_calm_ext (by kernel_rfl) (by kernel_rfl) ?_ | refine wp_region_calm (by kernel_rfl) (by kernel_rfl) ?_)
    repeat (go_big_quiet_step (fail))
    refine wpQuiet_nil ?_
    rintro _ ⟨y, rfl⟩
    go_wp2
    go_ret
    refine ⟨by rw [HR.out]; rfl, ?_⟩
    all_goals repeat (with_reducible first | exact Grew.refl _ | apply Grew.ext | apply Grew.alloc | apply Grew.drew)
  · have HR : Hid (S.room bank = 0) := Lib.hid (by simp [MC.room, ht])
    rw [ht] at hth
    have HH := Lib.hid hth
    clear h1 h2 h5 h6 hth ht
    go_enter Try.func23, Try.ntmps23
    go_wp2_with (go_at_call 32; refine HH.out.mono ?_; rintro e w' ⟨rfl, x, rfl⟩)
    go_ret
    refine ⟨by rw [HR.out]; rfl, ?_⟩
    all_goals repeat (with_reducible first | exact Grew.refl _ | apply Grew.ext | apply Grew.alloc | apply Grew.drew)

/-! ### Get -/
def MC.get (S : MC) (x : Item) : Option Cached := (S.find x).bind fun z => (S.banks[z.1]?).bind fun xs => xs[z.2]?
def getVal (r : Option Cached) : Value :=
  match r with
  | some c => .tuple #[.agg (encCached c), .bool true]
  | none => .tuple #[.agg (encCached zCached), .bool false]
theorem findBanks_some {x : Item} : ∀ {l : List (List Cached)} {b i : Nat}, findBanks l x = some (b, i) → ∃ xs q, l[b]? = some xs ∧ xs[i]? = some q ∧ q.Item = x
  | [], b, i, h => by simp [findBanks] at h
  | ys :: l, b, i, h => by
    simp only [findBanks] at h
    split at h
    · rename_i j hj
      simp at h
      obtain ⟨rfl, rfl⟩ := h
      rw [List.findIdx?_eq_some_iff_getElem] at hj
      obtain ⟨hl, he, _⟩ := hj
      exact ⟨ys, ys[j], by simp, List.getElem?_eq_getElem hl, by simpa using he⟩
    · cases hf : findBanks l x with
      | none => rw [hf] at h; simp at h
      | some z =>
        rw [hf] at h
        simp at h
        obtain ⟨rfl, rfl⟩ := h
        obtain ⟨xs, q, h1, h2, h3⟩ := findBanks_some (b := z.1) (i := z.2) hf
        exact ⟨xs, q, by simpa using h1, h2, h3⟩
/-- What a walk asks of an element of a bank. -/
theorem bank_facts {w : World} {bb : Nat} {hs : List Value} {S : MC} (h2 : w.heap[bb]? = some (.cells hs.toArray 46 (0, 0))) (h3 : hs.length = S.banks.length)
    (h5 : ∀ (i : Nat) (v : Value) (xs : List Cached), hs[i]? = some v → S.banks[i]? = some xs → Own w 0 49 encCached 36 v xs)
    {k j : Nat} {xs : List Cached} {q : Cached} (hk : S.banks[k]? = some xs) (hj : xs[j]? = some q) :
    ∃ g c, w.cell? ⟨bb, k, none⟩ = some (.slice (some ⟨g, 0, none⟩) xs.length c) ∧ hs[k]? = some (.slice (some ⟨g, 0, none⟩) xs.length c) ∧ w.rowD g (j * 36) 36 = encCached q ∧ w.hasRow g (j * 36) 36 = true ∧ g < w.heap.size ∧ xs.length ≤ c ∧ c ≤ maxLen := by
  have hlt : k < S.banks.length := (List.getElem?_eq_some_iff.1 hk).1
  have hjl : j < xs.length := (List.getElem?_eq_some_iff.1 hj).1
  have hv : hs[k]? = some hs[k] := List.getElem?_eq_getElem (by omega)
  have hown := h5 k _ xs hv hk
  obtain ⟨g, cap, cur, he, hg1, hg2, hg3, hg4, hg5, hg6⟩ := hown.block (by omega)
  obtain ⟨r1, r2⟩ := row_at encCached_size hg6 rfl hj
  obtain ⟨_, _, c3, c4, c5, c6⟩ := block_facts hg2
  refine ⟨g, cap, ?_, by rw [hv, he], (c3 _ _).trans r1, (c4 _ _).trans (decide_eq_true r2), c6, hg3, hg4⟩
  rw [cell_of_row w bb k _ _ _ h2, ← he]; simp
@[go_sem ↓ high] theorem buildCached0 (ρ : Operand → Value) (d : Option Tmp) (t : TypeId) (ps : String) (af : Array Edge) (gd : Option (Nat × Bool)) (w : World) :
    (execOp ρ ⟨d, .build 49 #[], t, ps, af, gd⟩).run Try.prog w = .ok (.value (.agg (encCached zCached))) w := by
  unfold encCached; kernel_rfl
theorem Get_any {w : World} {a : Nat} {S : MC} {fp : List Nat} (h : MRep w a S fp) (x : Item) :
    Calls Try.prog 12 #[.pointer (some ⟨a, 0, none⟩), .agg (encItem x)] w fun e w' => e = .returned (getVal (S.get x)) ∧ Grew w w' := by
  have hfa := fun (o o' : Obj) => find_any ((h.grew ((Grew.refl w).alloc o)).grew ((Grew.refl _).alloc o')) x
  obtain ⟨bb, hs, rfl, hn, h1, h2, h3, h4, h5, h6⟩ := h
  obtain ⟨hA, hM, hR, hH, la⟩ := head_facts h1
  have lb := lt_of_block h2
  cases hf : S.find x with
  | none =>
    have HV : Hid (getVal (S.get x) = .tuple #[.agg (encCached zCached), .bool false]) := Lib.hid (by simp [MC.get, hf, getVal])
    rw [hf] at hfa
    simp only [findVal] at hfa
    have HH := Lib.hid hfa
    clear h1 h2 h5 h6 hfa hf
    go_enter Try.func12, Try.ntmps12
    go_wp2_with (go_at_call 31; refine (HH.out _ _).mono ?_; rintro e w' ⟨rfl, x, rfl⟩)
    refine bodyPost_ret (results_row_tmp rfl rowCached _ _ (w.heap.size + 1) 0 (encCached zCached) (.bool false) rfl rfl (by simp [go_sem]) (by simp [go_sem])) rfl ⟨by rw [HV.out], ?_⟩
    all_goals repeat (with_reducible first | exact Grew.refl _ | apply Grew.ext | apply Grew.alloc | apply Grew.drew)
  | some z =>
    obtain ⟨b, i⟩ := z
    obtain ⟨xs, q, hb, hi, hq⟩ := findBanks_some hf
    obtain ⟨g, c, f1, _, f3, f4, f5, f6, f7⟩ := bank_facts h2 h3 h5 hb hi
    have hbl : b < S.banks.length := (List.getElem?_eq_some_iff.1 hb).1
    have hil : i < xs.length := (List.getElem?_eq_some_iff.1 hi).1
    have hl64 := h6 xs (List.mem_of_getElem? hb)
    have HV : Hid (getVal (S.get x) = .tuple #[.agg (encCached q), .bool true]) := Lib.hid (by simp [MC.get, hf, hb, hi, getVal])
    rw [hf] at hfa
    simp only [findVal] at hfa
    have HH := Lib.hid hfa
    clear h1 h2 h5 h6 hfa hf hb hi f7
    go_enter Try.func12, Try.ntmps12
    go_wp2_with (go_at_call 31; refine (HH.out _ _).mono ?_; rintro e w' ⟨rfl, x, rfl⟩)
    refine bodyPost_ret (results_row_tmp rfl rowCached _ _ (w.heap.size + 1) 0 (encCached q) (.bool true) rfl rfl (by simp [go_sem]) (by simp [go_sem])) rfl ⟨by rw [HV.out], ?_⟩
    all_goals repeat (with_reducible first | exact Grew.refl _ | apply Grew.ext | apply Grew.alloc | apply Grew.drew)
end Go.Proofs.Ytngmdedoboccoaa
