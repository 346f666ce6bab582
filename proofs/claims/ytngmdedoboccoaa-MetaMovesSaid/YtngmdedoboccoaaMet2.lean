/- slices.Delete of one element of a row of the call's own; take, last: what they do to the caches. -/
import Derived.Test.YtngmdedoboccoaaMet1
import Derived.StillTailTactics
set_option linter.unusedVariables false
set_option linter.unusedSimpArgs false
set_option maxHeartbeats 1000000
set_option maxRecDepth 100000
namespace Go.Proofs.Ytngmdedoboccoaa
open Go Go.RowKit

/-! ### A row's beginning; a row whose block is written behind it -/
theorem flat_take {α : Type} {enc : α → Array Value} {k : Nat} (h : ∀ x, (enc x).size = k) : ∀ (xs : List α) (i : Nat), flat enc (xs.take i) = (flat enc xs).take (i * k)
  | [], i => by simp [flat]
  | x :: xs, 0 => by simp [flat]
  | x :: xs, i + 1 => by
    have ih := flat_take h xs i
    simp only [flat, List.take_succ_cons, List.flatMap_cons] at *
    have hl : (enc x).toList.length = k := by rw [Array.length_toList, h]
    rw [ih, List.take_append, hl, List.take_of_length_le (l := (enc x).toList) (by rw [hl, Nat.add_mul]; omega)]
    congr 2
    rw [Nat.add_mul]; omega
theorem Own.prefix_ {α : Type} {w : World} {base : Nat} {e : TypeId} {enc : α → Array Value} {k : Nat} {g n cap : Nat} {xs : List α} (hs : ∀ x, (enc x).size = k) (h : Own w base e enc k (.slice (some ⟨g, 0, none⟩) n cap) xs) (i : Nat) (hi : i ≤ xs.length) :
    w.ownsRow base e k (.slice (some ⟨g, 0, none⟩) i cap) i (flat enc (xs.take i)) := by
  refine ⟨by rw [flat_length hs, List.length_take]; congr 1; omega, ?_⟩
  rcases h.2 with ⟨h', _⟩ | ⟨g', cap', cur, h', hb, hg, h1, h2, h3, h4⟩
  · cases h'
  · injection h' with e1 e2 e3
    injection e1 with e1
    injection e1 with e1
    subst e1 e3
    refine .inr ⟨g, cap, cur, rfl, hb, hg, by omega, h2, h3, ?_⟩
    rw [flat_take hs, ← h4, List.take_take]
    congr 1
    have : i * k ≤ xs.length * k := Nat.mul_le_mul_right _ hi
    omega
theorem putCells_size (c cs : Array Value) (o : Nat) (h : o + cs.size ≤ c.size) : (putCells c o cs).size = c.size := by
  simp [putCells]; omega
theorem putRow_heap {w : World} {b o : Nat} {cs c : Array Value} {t : TypeId} {fr : Nat × Nat} (h : w.heap[b]? = some (.cells c t fr)) : (w.putRow b o cs).heap[b]? = some (.cells (putCells c o cs) t fr) := by
  simp only [World.putRow]
  rw [Array.getElem?_modify, if_pos rfl, h]; rfl
theorem putRow_other {w : World} {b o : Nat} {cs : Array Value} {k : Nat} (h : k ≠ b) : (w.putRow b o cs).heap[k]? = w.heap[k]? := by
  simp only [World.putRow]
  rw [Array.getElem?_modify, if_neg (fun e => h e.symm)]
theorem grown_putRow {w w1 : World} {g : Nat} (h : w.grownBy w1 (some g)) (o : Nat) (cs : Array Value) : w.grownBy (w1.putRow g o cs) (some g) :=
  ⟨h.os, h.tape, h.output, by rw [size_putRow]; exact h.size, fun k hk hne => by
    rw [putRow_other (fun e => hne (by rw [e]))]; exact h.block k hk hne⟩
/-- What is written behind a row leaves it. -/
theorem Own.behind {α : Type} {w : World} {base : Nat} {e : TypeId} {enc : α → Array Value} {k : Nat} {g n cap : Nat} {xs : List α} (h : Own w base e enc k (.slice (some ⟨g, 0, none⟩) n cap) xs) (o : Nat) (cs : Array Value) (ho : xs.length * k ≤ o) (hc : o + cs.size ≤ cap * k) :
    Own (w.putRow g o cs) base e enc k (.slice (some ⟨g, 0, none⟩) n cap) xs := by
  refine ⟨h.1, ?_⟩
  rcases h.2 with ⟨h', _⟩ | ⟨g', cap', cur, h', hb, hg, h1, h2, h3, h4⟩
  · cases h'
  · injection h' with e1 e2 e3
    injection e1 with e1
    injection e1 with e1
    subst e1 e3 e2
    refine .inr ⟨g, cap, _, rfl, hb, putRow_heap hg, h1, h2, by rw [putCells_size _ _ _ (by omega)]; exact h3, ?_⟩
    rw [← h4]
    apply List.ext_getElem?
    intro i
    simp only [List.getElem?_take]
    split
    · rename_i hi
      simp only [putCells, Array.toList_append, Array.toList_extract]
      have hlen : (cur.toList.extract 0 o).length = o := by simp; omega
      rw [List.append_assoc, List.getElem?_append_left (by omega)]
      simp only [List.extract_eq_take_drop, List.drop_zero, Nat.sub_zero, List.getElem?_take]
      rw [if_pos (by omega)]
    · rfl
theorem zeroCells_one (z : Array Value) (h : 0 < z.size) : Builtin.zeroCells z 1 = z := by
  apply Array.ext_getElem?
  intro i
  unfold Builtin.zeroCells
  by_cases hi : i < z.size
  · simp [hi, Nat.mod_eq_of_lt hi]
  · simp [hi]
theorem run_clear_one {P : Program} {t e : TypeId} {z : Array Value} {k : Nat} (ht : P.underlying t = some (.slice e)) (hz : ∀ w, (zeroValue e).run P w = .ok (.agg z) w) (hk : z.size = k) (hk0 : 0 < k) (h1 : z.all (·.oneCell') = true) (ty : TypeId) (w : World) (g o c : Nat)
    (hr : w.hasRow g o k = true) (hl : w.loose g = true) : (Builtin.clear_ #[t] ty #[.slice (some ⟨g, o, none⟩) 1 c]).run P w = .ok (.tuple #[]) (w.putRow g o z) := by
  unfold World.hasRow at hr
  unfold World.loose at hl
  split at hr
  · rename_i cur te fr hb
    rw [hb] at hl
    have hfr : fr = (0, 0) := by simpa using hl
    subst hfr
    have hle : o + k ≤ cur.size := of_decide_eq_true hr
    have hst := run_storeCells_cells (P := P) g o z.toList 0 w (fun j hj => by
        have hj' : j < z.size := by simpa using hj
        rw [cell_of_row w g _ cur te _ hb, Array.getElem?_eq_getElem (by omega)]; rfl) (fun j hj => frozen_of_row w g _ cur te hb)
      (fun v hv => (Array.all_eq_true_iff_forall_mem.1 h1) v (by simpa using hv))
    simp only [Nat.add_zero] at hst
    rw [setCells_putRow g te z.toList o w cur hb (by simp; omega)] at hst
    have hzc := zeroCells_one z (by omega)
    simp [Builtin.clear_, run_underlying ht, hz, Value.cells, hzc, hst]
  · cases hr
theorem drop_cells {α : Type} {enc : α → Array Value} {k : Nat} {cur : Array Value} {xs : List α} (hs : ∀ x, (enc x).size = k) (hf : cur.toList.take (xs.length * k) = flat enc xs) (j : Nat) :
    ∀ (i : Nat) (u : Value), (flat enc (xs.drop j))[i]? = some u → cur[j * k + i]? = some u := by
  intro i u hu
  by_cases hj : j ≤ xs.length
  · have e : flat enc xs = flat enc (xs.take j) ++ flat enc (xs.drop j) := by rw [← flat_append, List.take_append_drop]
    have hl : (flat enc (xs.take j)).length = j * k := by rw [flat_length hs, List.length_take]; congr 1; omega
    have h1 : (flat enc xs)[j * k + i]? = some u := by
      rw [e, List.getElem?_append_right (by omega), hl]
      simpa using hu
    rw [← hf, List.getElem?_take] at h1
    split at h1
    · simpa using h1
    · cases h1
  · rw [List.drop_eq_nil_of_le (by omega)] at hu
    simp [flat] at hu
/-- 's[:i]' and 's[i:]' of a slice at the head of its block. -/
theorem cut_h {P : Program} {t e : TypeId} {α : Type} {enc : α → Array Value} {k bytes : Nat} (H : Elt P t e enc k bytes) (g n cap i : Nat) (hi : i ≤ cap) (W : World) :
    (Instr.slice t (.slice (some ⟨g, 0, none⟩) n cap) none (some (.int .i64 (i : Int))) none).run P W = .ok (.slice (some ⟨g, 0, none⟩) i cap) W := by
  obtain ⟨ht, ⟨ti, z, hi', hz, h1, h2, h3⟩, hp, hsz, hone⟩ := H
  have hel : P.elem t = e := by simp [Program.elem, ht]
  have hu : P.underlying t = some (.slice (P.elem t)) := by rw [hel]; exact ht
  rw [run_slice_h W t _ n cap hu .i64 (i : Int) (Int.natCast_nonneg _) (by omega), hel]
  simp [sizeOf, typeInfo, hi', h1, sliced, Result.andThen, Addr.add_mid]
theorem cut_l {P : Program} {t e : TypeId} {α : Type} {enc : α → Array Value} {k bytes : Nat} (H : Elt P t e enc k bytes) (g n cap i : Nat) (hi : i ≤ n) (hc : cap ≠ i) (W : World) :
    (Instr.slice t (.slice (some ⟨g, 0, none⟩) n cap) (some (.int .i64 (i : Int))) none none).run P W = .ok (.slice (some ⟨g, i * k, none⟩) (n - i) (cap - i)) W := by
  obtain ⟨ht, ⟨ti, z, hi', hz, h1, h2, h3⟩, hp, hsz, hone⟩ := H
  have hel : P.elem t = e := by simp [Program.elem, ht]
  have hu : P.underlying t = some (.slice (P.elem t)) := by rw [hel]; exact ht
  rw [run_slice_l W t _ n cap hu .i64 (i : Int) (Int.natCast_nonneg _) (by omega), hel]
  simp [sizeOf, typeInfo, hi', h1, sliced, Result.andThen, hc, Addr.add_mid]
theorem cut_l_end {P : Program} {t e : TypeId} {α : Type} {enc : α → Array Value} {k bytes : Nat} (H : Elt P t e enc k bytes) (g n cap i : Nat) (hi : i ≤ n) (hc : cap = i) (W : World) :
    (Instr.slice t (.slice (some ⟨g, 0, none⟩) n cap) (some (.int .i64 (i : Int))) none none).run P W = .ok (.slice (some ⟨g, 0, none⟩) (n - i) (cap - i)) W := by
  obtain ⟨ht, ⟨ti, z, hi', hz, h1, h2, h3⟩, hp, hsz, hone⟩ := H
  have hel : P.elem t = e := by simp [Program.elem, ht]
  have hu : P.underlying t = some (.slice (P.elem t)) := by rw [hel]; exact ht
  rw [run_slice_l W t _ n cap hu .i64 (i : Int) (Int.natCast_nonneg _) (by omega), hel]
  simp [sizeOf, typeInfo, hi', h1, sliced, Result.andThen, hc]
theorem cut_lh {P : Program} {t e : TypeId} {α : Type} {enc : α → Array Value} {k bytes : Nat} (H : Elt P t e enc k bytes) (g n cap i j : Nat) (hi : i ≤ j) (hj : j ≤ cap) (hc : i < cap) (W : World) :
    (Instr.slice t (.slice (some ⟨g, 0, none⟩) n cap) (some (.int .i64 (i : Int))) (some (.int .i64 (j : Int))) none).run P W = .ok (.slice (some ⟨g, i * k, none⟩) (j - i) (cap - i)) W := by
  obtain ⟨ht, ⟨ti, z, hi', hz, h1, h2, h3⟩, hp, hsz, hone⟩ := H
  have hel : P.elem t = e := by simp [Program.elem, ht]
  have hu : P.underlying t = some (.slice (P.elem t)) := by rw [hel]; exact ht
  rw [run_slice_lh W t _ n cap hu .i64 .i64 (i : Int) (j : Int) (Int.natCast_nonneg _) (by omega) (by omega), hel]
  simp [sizeOf, typeInfo, hi', h1, sliced, Result.andThen, Addr.add_mid, show cap ≠ i by omega]
theorem flat_cells {α : Type} {enc : α → Array Value} (h : ∀ x, (enc x).all (·.oneCell') = true) (xs : List α) : ∀ u ∈ flat enc xs, u.oneCell' = true := by
  intro u hu
  simp only [flat, List.mem_flatMap] at hu
  obtain ⟨x, _, hx⟩ := hu
  exact Array.all_eq_true_iff_forall_mem.1 (h x) u (by simpa using hx)
/-- slices.Delete(s, i, i + 1). -/
theorem Delete_any {w : World} {base : Nat} {g cap m : Nat} {xs : List Cached} (hm : xs.length = m + 1) (hown : Own w base 49 encCached 36 (.slice (some ⟨g, 0, none⟩) (m + 1) cap) xs) (i : Nat) (hi : i ≤ m) (h64 : m < 64) :
    Calls Try.prog 58 #[.slice (some ⟨g, 0, none⟩) (m + 1) cap, .int .i64 i, .int .i64 (i + 1)] w fun e w' =>
      e = .returned (.slice (some ⟨g, 0, none⟩) m cap) ∧ Own w' base 49 encCached 36 (.slice (some ⟨g, 0, none⟩) m cap) (xs.eraseIdx i) ∧ w.grownBy w' (some g) := by
  obtain ⟨g', cap', cur, he, hb1, hb2, hb3, hb4, hb5, hb6⟩ := hown.block (by omega)
  injection he with e1 e2 e3
  injection e1 with e1
  injection e1 with e1
  subst e1 e3
  clear e2
  have hpre := hown.prefix_ encCached_size i (by omega)
  have HD := Lib.hid (drop_cells encCached_size hb6 (i + 1))
  have HP := Lib.hid hpre
  have HM := Lib.hid hm
  have hb7 : m + 1 ≤ cap := by omega
  have HB := Lib.hid hb2
  have HE : Hid (flat encCached (xs.take i) ++ flat encCached (xs.drop (i + 1)) = flat encCached (xs.eraseIdx i)) := Lib.hid (by rw [← flat_append, List.eraseIdx_eq_take_drop_succ])
  have HL : Hid ((xs.eraseIdx i).length = m) := Lib.hid (by rw [List.length_eraseIdx, hm]; split <;> omega)
  have HF : Hid ((flat encCached (xs.drop (i + 1))).length = (m - i) * 36) := Lib.hid (by rw [flat_length encCached_size, List.length_drop, hm]; congr 1; omega)
  unfold maxLen at hb4
  have s1 := cut_h eltCached g (m + 1) cap i (by omega)
  have s3 := cut_lh eltCached g m cap m (m + 1) (by omega) (by omega) (by omega)
  simp only [Int.natCast_add, Int.cast_ofNat_Int, Nat.add_sub_cancel_left] at s3
  have hcl := fun (W : World) (h1 : W.hasRow g (m * 36) 36 = true) (h2 : W.loose g = true) => run_clear_one (P := Try.prog) Try.underlying46 zeroCached (encCached_size _) (by omega) (encCached_one _) 0 W g (m * 36) (cap - m) h1 h2
  have HC := Lib.hid hcl
  obtain ⟨ht, ⟨ti, tz, hti, htz, hts, htb, htc⟩, _, _, _⟩ := eltCached
  clear hpre hown hb2 hb6 hm hb3 hcl
  have hs2 : ∃ A : Option Addr, (∀ W : World, (Instr.slice 46 (.slice (some ⟨g, 0, none⟩) (m + 1) cap) (some (.int .i64 ((i : Int) + 1))) none none).run Try.prog W = .ok (.slice A (m - i) (cap - (i + 1))) W) ∧ (A = some ⟨g, (i + 1) * 36, none⟩ ∨ (A = some ⟨g, 0, none⟩ ∧ m - i = 0)) := by
    by_cases hc : cap = i + 1
    · refine ⟨_, fun W => ?_, .inr ⟨rfl, by omega⟩⟩
      have := cut_l_end eltCached g (m + 1) cap (i + 1) (by omega) hc W
      simpa only [Int.natCast_add, Int.cast_ofNat_Int, Nat.add_sub_add_right] using this
    · refine ⟨_, fun W => ?_, .inl rfl⟩
      have := cut_l eltCached g (m + 1) cap (i + 1) (by omega) hc W
      simpa only [Int.natCast_add, Int.cast_ofNat_Int, Nat.add_sub_add_right] using this
  obtain ⟨A, s2, hA⟩ := hs2
  obtain ⟨ad, rfl, hnews⟩ : ∃ ad, A = some ad ∧ ∀ (j : Nat) (u : Value), (flat encCached (xs.drop (i + 1)))[j]? = some u → w.cell? (ad.add j) = some u := by
    rcases hA with rfl | ⟨rfl, h0⟩
    · refine ⟨_, rfl, fun j u hu => ?_⟩
      rw [Addr.add_mid]
      exact (cell_of_row w g _ cur _ _ HB.out).trans (HD.out j u hu)
    · refine ⟨_, rfl, fun j u hu => ?_⟩
      have hn : flat encCached (xs.drop (i + 1)) = [] := List.eq_nil_of_length_eq_zero (by rw [HF.out, h0])
      rw [hn] at hu; simp at hu
  have HN := Lib.hid hnews
  clear hnews hA
  go_enter Try.func58, Try.ntmps58
  go_wp2
  go_still_tail 6, (by kernel_rfl)
  refine wpList_append_fits _ rfl _ _ 46 rfl base 49 ti 36 ht hti hts g i cap _ rfl HP.out ad (m - i) (cap - (i + 1)) (flat encCached (xs.drop (i + 1))) rfl HF.out HN.out (flat_cells encCached_one _) (by omega) ?_
  intro w1 hown1 hgr1
  rw [show i + (m - i) = m by omega] at hown1 ⊢
  rw [HE.out] at hown1
  have hown2 : Own w1 base 49 encCached 36 (.slice (some ⟨g, 0, none⟩) m cap) (xs.eraseIdx i) := by
    unfold Own; rw [HL.out]; exact hown1
  obtain ⟨g2, cap2, cur2, he2, hg2, hh2, hk2, hm2, hsz2, _⟩ : ∃ g2 cap2 cur2, Value.slice (some ⟨g, 0, none⟩) m cap = .slice (some ⟨g2, 0, none⟩) m cap2 ∧ base ≤ g2 ∧ w1.heap[g2]? = some (.cells cur2 49 (0, 0)) ∧ m ≤ cap2 ∧ cap2 ≤ maxLen ∧ cur2.size = cap2 * 36 ∧ True := by
    rcases hown1.2 with ⟨h, _⟩ | ⟨a1, a2, a3, a4, a5, a6, a7, a8, a9, _⟩
    · cases h
    · exact ⟨a1, a2, a3, a4, a5, a6, a7, a8, a9, trivial⟩
  injection he2 with e1 e2 e3
  injection e1 with e1
  injection e1 with e1
  subst e1 e3
  obtain ⟨_, _, _, q4, q5, q6⟩ := block_facts hh2
  have hcl := HC.out w1 ((q4 _ _).trans (decide_eq_true (by omega))) q5
  have HO2 := Lib.hid hown2
  clear hown1 hown2 hh2 q4
  go_wp2
  go_ret
  refine ⟨rfl, HO2.out.behind (m * 36) _ (by rw [HL.out]; omega) (by rw [encCached_size]; omega), ?_⟩
  exact grown_putRow (w := w) ⟨hgr1.os, hgr1.tape, hgr1.output, hgr1.size, hgr1.block⟩ _ _
end Go.Proofs.Ytngmdedoboccoaa
