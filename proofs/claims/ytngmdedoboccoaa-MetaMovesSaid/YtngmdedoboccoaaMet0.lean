/- The engines' caches (package meta): how they lie in memory, and what find, there, Room and Get answer. -/
import Derived.Test.YtngmdedoboccoaaReg3
set_option linter.unusedVariables false
set_option linter.unusedSimpArgs false
set_option maxHeartbeats 1000000
set_option maxRecDepth 100000
namespace Go.Proofs.Ytngmdedoboccoaa
open Go Go.RowKit

structure MC where
  plan : Plan
  banks : List (List Cached)

def MRep (w : World) (a : Nat) (S : MC) (fp : List Nat) : Prop :=
  ∃ (bb : Nat) (hs : List Value), fp = a :: bb :: hs.filterMap Value.ownBlock ∧ fp.Nodup ∧
    w.heap[a]? = some (.cells (encPlan S.plan ++ #[.slice (some ⟨bb, 0, none⟩) S.banks.length S.banks.length]) 73 (0, 0)) ∧
    w.heap[bb]? = some (.cells hs.toArray 46 (0, 0)) ∧ hs.length = S.banks.length ∧ S.banks.length ≤ 4 ∧
    (∀ (i : Nat) (v : Value) (xs : List Cached), hs[i]? = some v → S.banks[i]? = some xs → Own w 0 49 encCached 36 v xs) ∧ (∀ xs ∈ S.banks, xs.length ≤ 64)

theorem MRep.lt {w : World} {a : Nat} {S : MC} {fp : List Nat} (h : MRep w a S fp) : ∀ b ∈ fp, b < w.heap.size := by
  obtain ⟨bb, hs, rfl, hn, h1, h2, h3, h4, h5, h6⟩ := h
  intro b hb
  simp only [List.mem_cons, List.mem_filterMap] at hb
  rcases hb with rfl | rfl | ⟨v, hv, hvb⟩
  · exact lt_of_block h1
  · exact lt_of_block h2
  · obtain ⟨i, hi, rfl⟩ := List.mem_iff_getElem.1 hv
    have hlt : i < S.banks.length := by omega
    exact ((h5 i _ S.banks[i] (List.getElem?_eq_getElem hi) (List.getElem?_eq_getElem hlt)).lt b hvb).2
theorem MRep.keep {w w' : World} {a : Nat} {S : MC} {fp : List Nat} (h : MRep w a S fp) (hk : ∀ b ∈ fp, w'.heap[b]? = w.heap[b]?) : MRep w' a S fp := by
  obtain ⟨bb, hs, rfl, hn, h1, h2, h3, h4, h5, h6⟩ := h
  refine ⟨bb, hs, rfl, hn, by rw [hk a (by simp)]; exact h1, by rw [hk bb (by simp)]; exact h2, h3, h4, fun i v xs hv hx => ?_, h6⟩
  refine (h5 i v xs hv hx).keep fun b hb => hk b ?_
  simp only [List.mem_cons, List.mem_filterMap]
  exact .inr (.inr ⟨v, List.mem_of_getElem? hv, hb⟩)
theorem MRep.grew {w w' : World} {a : Nat} {S : MC} {fp : List Nat} (h : MRep w a S fp) (hg : Grew w w') : MRep w' a S fp := h.keep fun b hb => hg.heap (h.lt b hb)

/-! ### find -/
def findBanks : List (List Cached) → Item → Option (Nat × Nat)
  | [], _ => none
  | xs :: r, x => match xs.findIdx? (fun y => decide (y.Item = x)) with
    | some i => some (0, i)
    | none => (findBanks r x).map fun z => (z.1 + 1, z.2)
theorem findBanks_append (x : Item) : ∀ (l r : List (List Cached)), findBanks l x = none → findBanks (l ++ r) x = (findBanks r x).map fun z => (z.1 + l.length, z.2)
  | [], r, _ => by simp [Option.map_id']
  | xs :: l, r, h => by
    simp only [findBanks, List.cons_append] at *
    split at h
    · cases h
    · rename_i hn
      simp at h
      rw [findBanks_append x l r h]
      simp only [Option.map_map]
      congr 1
def MC.find (S : MC) (x : Item) : Option (Nat × Nat) := findBanks S.banks x
/-- What find hands back. -/
def findVal (r : Option (Nat × Nat)) : Value :=
  match r with
  | some (b, i) => .tuple #[.int .i64 b, .int .i64 i, .bool true]
  | none => .tuple #[.int .i64 0, .int .i64 0, .bool false]
@[go_sem high] theorem eqItem (a b c d : Int) (w : World) : (binOp .eql 31 (.agg #[.int .i64 a, .int .i64 b]) (.agg #[.int .i64 c, .int .i64 d])).run Try.prog w = .ok (.bool (decide (a = c ∧ b = d))) w := by
  by_cases h1 : a = c <;> by_cases h2 : b = d <;> simp [go_sem, h1, h2]
theorem found_at {xs : List Cached} {x : Item} {j : Nat} {q : Cached} (hq : xs[j]? = some q) (hx : q.Item = x) (hno : ∀ q ∈ xs.take j, q.Item ≠ x) : xs.findIdx? (fun y => decide (y.Item = x)) = some j := by
  obtain ⟨hl, he⟩ := List.getElem?_eq_some_iff.1 hq
  rw [List.findIdx?_eq_some_iff_getElem]
  refine ⟨hl, by simp [he, hx], fun i hi => ?_⟩
  have := hno xs[i] (by rw [List.mem_take_iff_getElem]; exact ⟨i, by omega, rfl⟩)
  simpa using this
theorem found_none {xs : List Cached} {x : Item} (hno : ∀ q ∈ xs.take xs.length, q.Item ≠ x) : xs.findIdx? (fun y => decide (y.Item = x)) = none := by
  rw [List.findIdx?_eq_none_iff]
  intro y hy
  have := hno y (by simpa using hy)
  simpa using this
theorem find_any {w : World} {a : Nat} {S : MC} {fp : List Nat} (h : MRep w a S fp) (x : Item) :
    Calls Try.prog 31 #[.pointer (some ⟨a, 0, none⟩), .agg (encItem x)] w fun e w' => e = .returned (findVal (S.find x)) ∧ Grew w w' := by
  obtain ⟨bb, hs, rfl, hn, h1, h2, h3, h4, h5, h6⟩ := h
  have hA : w.cell? ⟨a, 46, none⟩ = some (.slice (some ⟨bb, 0, none⟩) S.banks.length S.banks.length) := by
    rw [cell_of_row w a 46 _ _ _ h1, Array.getElem?_append_right (by simp)]; simp
  have la := lt_of_block h1
  have lb := lt_of_block h2
  go_enter Try.func31, Try.ntmps31
  go_wp2
  go_step3
  go_wp2
  go_step3
  go_wp2
  go_loopw [4, 5, 6, 16] (fun r s t i wr => ∃ k : Nat, k ≤ S.banks.length ∧ i = .int .i64 k ∧ r = .int .i64 0 ∧ s = .int .i64 0 ∧ t = .bool false ∧ findBanks (S.banks.take k) x = none ∧ Grew (w.alloc (.cells (encItem x) 31)) wr) (fun _ _ _ i _ => S.banks.length - (intOf i).toNat)
  case atStart => exact ⟨0, by omega, rfl, rfl, rfl, rfl, by simp [findBanks], Grew.refl _⟩
  case round =>
    obtain ⟨k, hk, rfl, rfl, rfl, rfl, hnone, y, rfl⟩ := hrel
    by_cases hlt : k < S.banks.length
    · have hbk : w.cell? ⟨bb, k, none⟩ = some hs[k] := by
        rw [cell_of_row w bb k _ _ _ h2]; simp
      have hown := h5 k hs[k] S.banks[k] (List.getElem?_eq_getElem (by omega)) (List.getElem?_eq_getElem hlt)
      obtain ⟨A, c, hv, hc1, hc2⟩ := hown.shape
      rw [hv] at hbk hown
      have hl64 := h6 S.banks[k] (List.getElem_mem hlt)
      have HN : Hid (findBanks (S.banks.take k) x = none) := Lib.hid hnone
      have HK : Hid (S.banks.take (k + 1) = S.banks.take k ++ [S.banks[k]]) := Lib.hid (by rw [List.take_succ_eq_append_getElem hlt])
      have HF : ∀ j : Nat, S.banks[k].findIdx? (fun y => decide (y.Item = x)) = some j → Hid (S.find x = some (k, j)) := fun j hj => Lib.hid (by
        unfold MC.find
        rw [← List.take_append_drop k S.banks, findBanks_append x _ _ hnone, List.drop_eq_getElem_cons hlt]
        simp only [findBanks, hj, Option.map_some, List.length_take]
        congr 2; omega)
      generalize hxs : S.banks[k] = xs at *
      clear hxs hnone hv h5 h6
      go_wp2
      go_loopw [4, 5, 6, 23] (fun r s t i wr => ∃ j : Nat, j ≤ xs.length ∧ i = .int .i64 j ∧ r = .int .i64 0 ∧ s = .int .i64 0 ∧ t = .bool false ∧ (∀ q ∈ xs.take j, q.Item ≠ x) ∧ Grew (w.alloc (.cells (encItem x) 31)) wr) (fun _ _ _ i _ => xs.length - (intOf i).toNat)
      case atStart => exact ⟨0, by omega, rfl, rfl, rfl, rfl, by simp, (Grew.refl _).ext _⟩
      case round =>
        obtain ⟨j, hj, rfl, rfl, rfl, rfl, hno, z, rfl⟩ := hrel
        have HO := Lib.hid hno
        clear hno
        by_cases hjl : j < xs.length
        · obtain ⟨g, cap, cur, he, hg1, hg2, hg3, hg4, hg5, hg6⟩ := hown.block (by omega)
          injection he with he1 he2 he3
          subst he1 he3
          obtain ⟨r1, r2⟩ := row_at encCached_size hg6 rfl (List.getElem?_eq_getElem hjl)
          obtain ⟨_, _, c3, c4, c5, c6⟩ := block_facts hg2
          have f3 : w.rowD g (j * 36) 36 = encCached xs[j] := (c3 _ _).trans r1
          have f4 : w.hasRow g (j * 36) 36 = true := (c4 _ _).trans (decide_eq_true r2)
          have HT : Hid (xs.take (j + 1) = xs.take j ++ [xs[j]]) := Lib.hid (by rw [List.take_succ_eq_append_getElem hjl])
          have HX : Hid (xs[j]? = some xs[j]) := Lib.hid (List.getElem?_eq_getElem hjl)
          generalize xs[j] = q at *
          clear r1 r2 c3 c4 hg2 hg6 hg5 hown
          by_cases hq : q.Item = x
          · have d1 : decide (q.Item.Level = x.Level ∧ q.Item.Index = x.Index) = true := by rw [hq]; simp
            have HD := HF j (found_at HX.out hq HO.out)
            have HV : Hid (findVal (S.find x) = .tuple #[.int .i64 k, .int .i64 j, .bool true]) := Lib.hid (by rw [HD.out]; rfl)
            clear hq HF
            go_wp2
            go_ret3
            refine ⟨by rw [HV.out]; rfl, ?_⟩
            all_goals repeat (with_reducible first | exact Grew.refl _ | apply Grew.ext | apply Grew.alloc | apply Grew.drew)
          · have d1 : decide (q.Item.Level = x.Level ∧ q.Item.Index = x.Index) = false := by
              rw [decide_eq_false_iff_not]
              rintro ⟨h1, h2⟩
              exact hq (by cases hqi : q.Item; cases x; simp_all)
            have HQ := Lib.hid hq
            clear hq HF
            go_wp2
            go_roundw
            case rel => exact ⟨j + 1, by omega, by go_num, rfl, rfl, rfl, by
              rw [HT.out]
              intro q' hq'
              rcases List.mem_append.1 hq' with h | h
              · exact HO.out q' h
              · rw [List.mem_singleton.1 h]; exact HQ.out, ((Grew.refl _).ext _).alloc _⟩
            case measure => simp [intOf]; omega
        · obtain rfl : j = xs.length := by omega
          have HE := Lib.hid (found_none HO.out)
          clear HF
          go_wp2
          go_roundw
          case rel => exact ⟨k + 1, by omega, by go_num, rfl, rfl, rfl, by
            rw [HK.out, findBanks_append x _ _ HN.out]
            simp only [findBanks, HE.out, Option.map_none], (Grew.refl _).ext _⟩
          case measure => simp [intOf]; omega
    · obtain rfl : k = S.banks.length := by omega
      have HV : Hid (findVal (S.find x) = .tuple #[.int .i64 0, .int .i64 0, .bool false]) := Lib.hid (by
        rw [List.take_length] at hnone
        unfold MC.find
        rw [hnone]; rfl)
      clear hnone h5 h6
      go_wp2
      rw [Exit.noGoto_ret]
      go_ret3
      refine ⟨by rw [HV.out]; rfl, ?_⟩
      all_goals repeat (with_reducible first | exact Grew.refl _ | apply Grew.ext | apply Grew.alloc | apply Grew.drew)
end Go.Proofs.Ytngmdedoboccoaa
