/- Package meta: New. -/
import Derived.Test.YtngmdedoboccoaaMet5
set_option linter.unusedVariables false
set_option linter.unusedSimpArgs false
set_option maxHeartbeats 1000000
set_option maxRecDepth 100000
namespace Go.Proofs.Ytngmdedoboccoaa
open Go Go.RowKit

theorem make_banks (ρ : Operand → Value) (d : Option Tmp) (t : TypeId) (ps : String) (af : Array Edge) (gd : Option (Nat × Bool)) (w : World) (x y : Operand) (n : Nat) (h1 : 1 ≤ n) (h4 : n ≤ 4) (hx : ρ x = .int .i64 n) (hy : ρ y = .int .i64 n) :
    (execOp ρ ⟨d, .makeSlice 71 x y, t, ps, af, gd⟩).run Try.prog w = .ok (.value (.slice (some ⟨w.heap.size, 0, none⟩) n n)) (w.alloc (.cells (Array.replicate n (.slice none 0 0)) 46)) := by
  obtain ⟨i, hi, hz, hs, hb⟩ := info_parts (P := Try.prog) (e := 46) (z := .slice none 0 0) (size := 1) (bytes := 24) (by kernel_rfl)
  have h := run_makeSlice (P := Try.prog) (w := w) 71 46 i (.slice none 0 0) Try.underlying71 hi hz .i64 .i64 n n (by omega) (Int.le_refl _) (by rw [hs]; omega) (by rw [hb]; omega) (by omega)
  have hm : madeCells (Value.slice none 0 0).cells (n * 1) = Array.replicate n (.slice none 0 0) := by
    apply Array.ext_getElem?
    intro j
    simp only [madeCells, Value.cells, Nat.mul_one, Array.getElem?_map, Array.getElem?_replicate]
    by_cases hj : j < n
    · simp [hj, Nat.mod_one]
    · simp [hj]
  simp only [Int.toNat_natCast, hs, hm] at h
  simp [execOp, hx, hy, h]
theorem build_caches (ρ : Operand → Value) (d : Option Tmp) (t : TypeId) (ps : String) (af : Array Edge) (gd : Option (Nat × Bool)) (w : World) (x y : Operand) (p : Plan) (A : Option Addr) (n c : Nat) (hx : ρ x = .agg (encPlan p)) (hy : ρ y = .slice A n c) :
    (execOp ρ ⟨d, .build 73 #[(0, x), (1, y)], t, ps, af, gd⟩).run Try.prog w = .ok (.value (.agg (encPlan p ++ #[.slice A n c]))) w := by
  have hs : (encPlan p).zipIdx.size = 46 := by simp
  have key : ∀ z : Array Value, z.size = 47 → z[46]? = some (.slice none 0 0) → Array.foldl (fun (cs : Array Value) (x : Value × Nat) => cs.setIfInBounds x.2 x.1) z (encPlan p).zipIdx 0 46 = encPlan p ++ #[.slice none 0 0] := fun z hz hl => by
    have h1 : Array.foldl (fun (cs : Array Value) (x : Value × Nat) => cs.setIfInBounds x.2 x.1) z (encPlan p).zipIdx 0 (encPlan p).zipIdx.size = encPlan p ++ #[.slice none 0 0] := by
      apply Array.ext_getElem?
      intro j
      rw [← Array.foldl_toList, Array.toList_zipIdx, zip_fold (encPlan p).toList 0 z (by simp; omega) j]
      have hl46 : (encPlan p).toList.length = 46 := by simp
      rw [hl46]
      rcases Nat.lt_trichotomy j 46 with h' | h' | h'
      · rw [if_pos (by omega), Array.getElem?_append_left (by simp; omega)]; simp
      · subst h'; rw [if_neg (by omega), hl, Array.getElem?_append_right (by simp)]; simp
      · rw [if_neg (by omega), Array.getElem?_eq_none (by omega), Array.getElem?_eq_none (by simp; omega)]
    rw [hs] at h1
    exact h1
  have hset : ∀ v, ((encPlan p).push (.slice none 0 0)).setIfInBounds 46 v = (encPlan p).push v := fun v => by
    rw [← Array.append_singleton, ← Array.append_singleton]
    have := encPlan_size p
    apply Array.ext_getElem?
    intro j
    rw [Array.getElem?_setIfInBounds]
    rcases Nat.lt_trichotomy j 46 with h' | h' | h'
    · rw [if_neg (by omega), Array.getElem?_append_left (by simp; omega), Array.getElem?_append_left (by simp; omega)]
    · subst h'; rw [if_pos rfl, if_pos (by simp), Array.getElem?_append_right (by simp)]; simp
    · rw [if_neg (by omega), Array.getElem?_eq_none (by simp; omega), Array.getElem?_eq_none (by simp; omega)]
  go_simp
theorem box_caches (ρ : Operand → Value) (d : Option Tmp) (t : TypeId) (ps : String) (af : Array Edge) (gd : Option (Nat × Bool)) (w : World) (x : Operand) (cs : Array Value) (hx : ρ x = .agg cs) :
    (execOp ρ ⟨d, .box 73 x, t, ps, af, gd⟩).run Try.prog w = .ok (.value (.pointer (some ⟨w.heap.size, 0, none⟩))) (w.alloc (.cells cs 73)) := by
  go_simp
theorem New_no (p : Plan) (hr : p.right = false) (w : World) :
    Calls Try.prog 7 #[.agg (encPlan p)] w fun e w' => e = .returned (.tuple #[.pointer none, .int .i64 4]) ∧ Grew w w' := by
  have HC := Lib.hid fun (w2 : World) => Check_any p w2
  have hc : p.code = 4 := by simp [Plan.code, hr]
  rw [hc] at HC
  go_enter Try.func7, Try.ntmps7
  go_wp2_with (go_at_call 29; refine (HC.out _).mono ?_; rintro e w' ⟨rfl, x, rfl⟩)
  go_ret2
  refine ⟨rfl, ?_⟩
  all_goals repeat (with_reducible first | exact Grew.refl _ | apply Grew.ext | apply Grew.alloc | apply Grew.drew)
theorem New_yes (p : Plan) (hr : p.right = true) (w : World) :
    Calls Try.prog 7 #[.agg (encPlan p)] w fun e w' => ∃ a fp, e = .returned (.tuple #[.pointer (some ⟨a, 0, none⟩), .int .i64 0]) ∧ MRep w' a ⟨p, List.replicate p.Banks.toNat []⟩ fp ∧ Grew w w' ∧ ∀ k ∈ fp, w.heap.size ≤ k := by
  have HC := Lib.hid fun (w2 : World) => Check_any p w2
  have hc : p.code = 0 := by simp [Plan.code, hr]
  rw [hc] at HC
  have hb : 1 ≤ p.Banks ∧ p.Banks ≤ 4 := by
    simp only [Plan.right, Plan.shape, Bool.and_eq_true, within_iff] at hr
    omega
  obtain ⟨n, hn⟩ := Int.eq_ofNat_of_zero_le (show 0 ≤ p.Banks by omega)
  go_enter Try.func7, Try.ntmps7
  go_wp2_with (go_at_call 29; refine (HC.out _).mono ?_; rintro e w' ⟨rfl, x, rfl⟩)
  obtain ⟨W, hW⟩ : ∃ W, (w.alloc (Obj.cells (encPlan p) 28)).ext x = W := ⟨_, rfl⟩
  have hg : Grew w W := by subst hW; all_goals repeat (with_reducible first | exact Grew.refl _ | apply Grew.ext | apply Grew.alloc | apply Grew.drew)
  have hlt : w.heap.size < W.heap.size := by subst hW; simp; omega
  have hx : W.heap[w.heap.size]? = some (.cells (encPlan p) 28 (0, 0)) := by subst hW; exact (heap_ext _ _ _ (by simp)).trans (ha_new _ _)
  rw [hW]
  clear hW
  have hS : ∀ w' : World, w'.heap[w.heap.size]? = some (.cells (encPlan p) 28 (0, 0)) → w'.cell? ⟨w.heap.size, 1, none⟩ = some (.int .i64 n) ∧ w'.rowD w.heap.size 0 46 = encPlan p ∧ w'.hasRow w.heap.size 0 46 = true := fun w' h => by
    obtain ⟨p1, _, p3, p4, _, _⟩ := block_facts h
    refine ⟨(p1 1).trans ?_, (p3 0 46).trans (encPlan_all p), (p4 0 46).trans (decide_eq_true (by simp))⟩
    rw [← hn]; exact encPlan_1 p
  have HS := Lib.hid hS
  clear hS
  refine wp_region_turn 3 6 (fun w' : World => w'.cell? ⟨w.heap.size, 1, none⟩ = some (.int .i64 n) ∧ w'.rowD w.heap.size 0 46 = encPlan p ∧ w'.hasRow w.heap.size 0 46 = true) rfl (by kernel_rfl) (HS.out _ hx) (fun _ _ d _ _ h => by cases d <;> exact h) ?_
  iterate 3 ((refine wpTurn_head (v := ?_) rfl (by rfl) ?_ ?_; rotate_left; · intro w hSw; (try obtain ⟨hSw1, hSw2⟩ := hSw); go_simp; (try with_reducible rfl)); (try simp only [Act.put, List.setIfInBounds_toArray, List.set_cons_zero, List.set_cons_succ, Nat.reduceAdd]))
  have hx1 : (W.drew.alloc (Obj.cells (Array.replicate n (Value.slice none 0 0)) 46)).heap[w.heap.size]? = some (.cells (encPlan p) 28 (0, 0)) := (ha_old _ _ _ hlt).trans hx
  refine wpTurn_run rfl rfl (by rfl) (make_banks _ _ _ _ _ _ W.drew _ _ n (by omega) (by omega) rfl rfl) (.inr (HS.out _ hx1)) ?_
  (try simp only [Act.put, List.setIfInBounds_toArray, List.set_cons_zero, List.set_cons_succ, Nat.reduceAdd])
  refine wpTurn_run rfl rfl (by rfl) (build_caches _ _ _ _ _ _ _ _ _ p _ _ _ rfl rfl) (.inr (HS.out _ hx1)) ?_
  (try simp only [Act.put, List.setIfInBounds_toArray, List.set_cons_zero, List.set_cons_succ, Nat.reduceAdd])
  have hx2 : ((W.drew.alloc (Obj.cells (Array.replicate n (Value.slice none 0 0)) 46)).alloc (.cells (encPlan p ++ #[.slice (some ⟨W.heap.size, 0, none⟩) n n]) 73)).heap[w.heap.size]? = some (.cells (encPlan p) 28 (0, 0)) := (ha_old _ _ _ (by simp; omega)).trans hx1
  refine wpTurn_run rfl rfl (by rfl) (box_caches _ _ _ _ _ _ _ _ _ rfl) (.inr (HS.out _ hx2)) ?_
  refine wpTurn_rest rfl (by kernel_rfl) ?_
  (try simp only [Act.put, List.setIfInBounds_toArray, List.set_cons_zero, List.set_cons_succ, Nat.reduceAdd])
  clear hx hx1 hx2
  go_wp2
  have e1 : (W.drew.alloc (Obj.cells (Array.replicate n (Value.slice none 0 0)) 46)).heap.size = W.heap.size + 1 := by simp
  have e2 : p.Banks.toNat = n := by omega
  have hno : (List.replicate n (Value.slice none 0 0)).filterMap Value.ownBlock = [] := by
    rw [List.filterMap_eq_nil_iff]
    intro v hv
    rw [List.eq_of_mem_replicate hv]; rfl
  refine bodyPost_ret (results_tmp2 rfl _ _ _) rfl ⟨W.heap.size + 1, [W.heap.size + 1, W.heap.size], by rw [← e1]; rfl, ⟨W.heap.size, List.replicate n (.slice none 0 0), by rw [hno], by simp, ?_, ?_, by simp [e2], by simp [e2]; omega, ?_, ?_⟩, ?_, ?_⟩
  · have := ha_new (W.drew.alloc (Obj.cells (Array.replicate n (Value.slice none 0 0)) 46)) (Obj.cells (encPlan p ++ #[.slice (some ⟨W.heap.size, 0, none⟩) n n]) 73)
    rw [e1] at this
    simp only [e2, List.length_replicate]
    exact this
  · rw [show (List.replicate n (Value.slice none 0 0)).toArray = Array.replicate n (Value.slice none 0 0) by simp]
    exact (ha_old _ _ _ (by simp)).trans (ha_new _ _)
  · intro i v xs hv hx
    have h1 : v = .slice none 0 0 := List.eq_of_mem_replicate (List.mem_of_getElem? hv)
    have h2 : xs = [] := List.eq_of_mem_replicate (List.mem_of_getElem? hx)
    subst h1 h2
    exact Own.nil _ _ _ _ _
  · intro xs hx
    rw [List.eq_of_mem_replicate hx]; simp
  · exact ((hg.trans (Grew.drew (Grew.refl _))).alloc _).alloc _
  · intro k hk
    have := hg.size
    simp only [List.mem_cons, List.not_mem_nil, or_false] at hk
    omega
end Go.Proofs.Ytngmdedoboccoaa
