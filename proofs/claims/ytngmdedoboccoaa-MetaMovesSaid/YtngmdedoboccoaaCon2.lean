/- slices.Concat of the banks. -/
import Derived.Test.YtngmdedoboccoaaCon1
set_option linter.unusedVariables false
set_option linter.unusedSimpArgs false
set_option maxHeartbeats 1000000
set_option maxRecDepth 100000
namespace Go.Proofs.Ytngmdedoboccoaa
open Go Go.RowKit

theorem Concat_any {w : World} {bb : Nat} {hs : List Value} {banks : List (List Cached)} (h2 : w.heap[bb]? = some (.cells hs.toArray 46 (0, 0))) (h3 : hs.length = banks.length) (h4 : banks.length ≤ 4)
    (h5 : ∀ (i : Nat) (v : Value) (xs : List Cached), hs[i]? = some v → banks[i]? = some xs → Own w 0 49 encCached 36 v xs) (h6 : ∀ xs ∈ banks, xs.length ≤ 64) :
    Calls Try.prog 35 #[.slice (some ⟨bb, 0, none⟩) banks.length banks.length] w fun e w' =>
      ∃ v, e = .returned v ∧ Own w' w.heap.size 49 encCached 36 v banks.flatten ∧ Grew w w' := by
  have hsum : ∀ k, (banks.take k).flatten.length ≤ k * 64 := by
    intro k
    induction k with
    | zero => simp
    | succ k ih =>
      by_cases hk : k < banks.length
      · rw [List.take_succ_eq_append_getElem hk, List.flatten_append, List.length_append]
        have := h6 banks[k] (List.getElem_mem hk)
        simp only [List.flatten_cons, List.flatten_nil, List.append_nil]; omega
      · rw [List.take_of_length_le (by omega)]; rw [List.take_of_length_le (by omega)] at ih; omega
  have HS := Lib.hid hsum
  have H2 := Lib.hid h2
  have H3 := Lib.hid h3
  have H5 := Lib.hid h5
  have H6 := Lib.hid h6
  clear h2 h3 h5 h6 hsum
  go_enter Try.func35, Try.ntmps35
  go_wp2
  go_loopw [3, 11] (fun s i wr => ∃ k : Nat, k ≤ banks.length ∧ i = .int .i64 k ∧ s = .int .i64 ((banks.take k).flatten.length : Nat) ∧ wr = w) (fun _ i _ => banks.length - (intOf i).toNat)
  case atStart => exact ⟨0, by omega, rfl, by simp, rfl⟩
  case round =>
    obtain ⟨k, hk, rfl, rfl, rfl⟩ := hrel
    by_cases hlt : k < banks.length
    · have hbk : wr.cell? ⟨bb, k, none⟩ = some (hs[k]'(by have := H3.out; omega)) := by
        rw [cell_of_row wr bb k _ _ _ H2.out]; simp
      obtain ⟨A, c, hv, hc1, hc2⟩ := (H5.out k _ banks[k] (List.getElem?_eq_getElem (by have := H3.out; omega)) (List.getElem?_eq_getElem hlt)).shape
      rw [hv] at hbk
      have hm0 := HS.out k
      have hm1 := H6.out banks[k] (List.getElem_mem hlt)
      have HE : Hid ((banks.take (k + 1)).flatten.length = (banks.take k).flatten.length + banks[k].length) := Lib.hid (by rw [List.take_succ_eq_append_getElem hlt, List.flatten_append, List.length_append]; simp)
      have hnn : ¬ ((((banks.take k).flatten.length : Nat) : Int) + (banks[k].length : Nat) < 0) := by omega
      generalize (banks.take k).flatten.length = m0 at *
      generalize banks[k].length = m1 at *
      clear hv
      go_wp2
      refine ⟨⟨k + 1, hlt, by simp, by rw [HE.out]; simp, trivial⟩, ?_⟩
      simp [intOf]; omega
    · obtain rfl : k = banks.length := by omega
      rename World => w0
      have hT : (banks.take banks.length).flatten.length ≤ 4096 := by have := HS.out banks.length; omega
      have HG := Lib.hid (Grow_any (banks.take banks.length).flatten.length hT w0)
      generalize (banks.take banks.length).flatten.length = T at *
      go_wp2_with (go_at_call 59; refine HG.out.mono ?_; rintro e w' ⟨v, rfl, ho, x, rfl⟩; have HO := Lib.hid ho; clear ho)
      have hb0 : w0.heap.size ≤ (w0.ext x).heap.size := by simp
      go_loopw [6, 27] (fun v i w2 => ∃ j : Nat, j ≤ banks.length ∧ i = .int .i64 j ∧ Own w2 w0.heap.size 49 encCached 36 v (banks.take j).flatten ∧ Grew w0 w2) (fun _ i _ => banks.length - (intOf i).toNat)
      case atStart => exact ⟨0, by omega, rfl, by simpa using HO.out, (Grew.refl _).ext _⟩
      case round =>
        obtain ⟨j, hj, rfl, ho, hg⟩ := hrel
        have HO1 := Lib.hid ho
        have HG1 := Lib.hid hg
        clear ho hg
        by_cases hlt : j < banks.length
        · have hbk : wr.cell? ⟨bb, j, none⟩ = some (hs[j]'(by have := H3.out; omega)) := by
            rw [cell_of_row wr bb j _ _ _ (HG1.out.block H2.out)]; simp
          have hu := (H5.out j _ banks[j] (List.getElem?_eq_getElem (by have := H3.out; omega)) (List.getElem?_eq_getElem hlt)).grew HG1.out
          have hm1 := H6.out banks[j] (List.getElem_mem hlt)
          have hm0 := HS.out j
          have HE : Hid ((banks.take (j + 1)).flatten = (banks.take j).flatten ++ banks[j]) := Lib.hid (by rw [List.take_succ_eq_append_getElem hlt, List.flatten_append]; simp)
          obtain ⟨A, c, hv, hc1, hc2⟩ := hu.shape
          rw [hv] at hbk hu
          have HU := Lib.hid hu
          have hap := HU.out
          generalize banks[j] = ys at *
          clear hu hv hap
          go_wp2_with (at_builtin; refine app_rows eltCached rfl _ _ rfl HO1.out HU.out rfl rfl (by omega) (by omega) HG1.out.size ?_; intro v1 w1 hown1 hgr1)
          refine ⟨⟨j + 1, hlt, by simp, by rw [HE.out]; exact hown1, HG1.out.grown hgr1 fun k hk => (HO1.out.lt k hk).1⟩, ?_⟩
          simp [intOf]; omega
        · obtain rfl : j = banks.length := by omega
          go_wp2
          go_ret
          exact ⟨_, rfl, by simpa using HO1.out, HG1.out⟩
end Go.Proofs.Ytngmdedoboccoaa
