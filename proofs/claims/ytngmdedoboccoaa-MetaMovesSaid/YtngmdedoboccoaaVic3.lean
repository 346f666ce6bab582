/- Package meta: Victim. -/
import Derived.Test.YtngmdedoboccoaaVic2
set_option linter.unusedVariables false
set_option linter.unusedSimpArgs false
set_option maxHeartbeats 1000000
set_option maxRecDepth 100000
namespace Go.Proofs.Ytngmdedoboccoaa
open Go Go.RowKit

/-! ### What below and Victim answer -/
def leastItem : List Item → Option Item
  | [] => none
  | x :: l => match leastItem l with
    | none => some x
    | some y => if itemLt y x then some y else some x
theorem leastItem_some : ∀ {l : List Item} {y : Item}, leastItem l = some y → y ∈ l ∧ ∀ z ∈ l, ¬ itemLt z y
  | [], y, h => by cases h
  | x :: l, y, h => by
    simp only [leastItem] at h
    cases hl : leastItem l with
    | none =>
      rw [hl] at h
      cases l with
      | nil =>
        injection h with h
        subst h
        exact ⟨by simp, fun z hz => by simp at hz; subst hz; exact itemLt_irrefl _⟩
      | cons u l =>
        exfalso
        simp only [leastItem] at hl
        split at hl <;> (try split at hl) <;> cases hl
    | some u =>
      rw [hl] at h
      obtain ⟨h1, h2⟩ := leastItem_some hl
      by_cases hu : itemLt u x
      · simp only [hu, if_true] at h
        injection h with h
        subst h
        refine ⟨by simp [h1], fun z hz => ?_⟩
        rcases List.mem_cons.1 hz with rfl | hz
        · unfold itemLt at *; omega
        · exact h2 z hz
      · simp only [hu, if_false] at h
        injection h with h
        subst h
        refine ⟨by simp, fun z hz => ?_⟩
        rcases List.mem_cons.1 hz with rfl | hz
        · exact itemLt_irrefl _
        · exact itemLt_ntrans (h2 z hz) hu
theorem leastItem_none {l : List Item} (h : leastItem l = none) : l = [] := by
  cases l with
  | nil => rfl
  | cons u l =>
    simp only [leastItem] at h
    split at h <;> (try split at h) <;> cases h
theorem itemLt_eq {a b : Item} (h1 : ¬ itemLt a b) (h2 : ¬ itemLt b a) : a = b := by
  cases a; cases b
  unfold itemLt at h1 h2
  simp only [Item.mk.injEq]
  simp only at h1 h2
  omega
theorem head_least {l m : List Item} (hp : l.Perm m) (hs : l.Pairwise fun a b => ¬ itemLt b a) : l.head? = leastItem m := by
  cases hm : leastItem m with
  | none =>
    have := leastItem_none hm
    subst this
    rw [hp.eq_nil]; rfl
  | some y =>
    obtain ⟨h1, h2⟩ := leastItem_some hm
    cases l with
    | nil => have := hp.symm.eq_nil; subst this; simp at h1
    | cons u l =>
      have hu : u ∈ m := hp.mem_iff.1 (by simp)
      have hy : y ∈ u :: l := hp.mem_iff.2 h1
      have h3 : ¬ itemLt y u := by
        rcases List.mem_cons.1 hy with rfl | hy
        · exact itemLt_irrefl _
        · exact (List.pairwise_cons.1 hs).1 y hy
      rw [itemLt_eq (h2 u hu) h3]; rfl
def MC.below (S : MC) (x : Item) : Option Item := leastItem (overs S.plan x S.banks.flatten)
theorem overs_perm {p : Plan} {x : Item} {ys zs : List Cached} (h : ys.Perm zs) : (overs p x ys).Perm (overs p x zs) := (h.filter _).map _
theorem overs_sorted {p : Plan} {x : Item} {ys : List Cached} (h : ys.Pairwise fun a b => ¬ itemLt b.Item a.Item) : (overs p x ys).Pairwise fun a b => ¬ itemLt b a := by
  unfold overs
  rw [List.pairwise_map]
  exact h.filter _
theorem below_is {w : World} {a : Nat} {S : MC} {fp : List Nat} (h : MRep w a S fp) (x : Item) :
    Calls Try.prog 46 #[.pointer (some ⟨a, 0, none⟩), .agg (encItem x)] w fun e w' => e = .returned (belowVal (S.below x)) ∧ Grew w w' := by
  refine (below_any h x).mono ?_
  rintro e w' ⟨⟨ys, p1, p2, rfl⟩, hg⟩
  refine ⟨?_, hg⟩
  rw [head_least (overs_perm p1) (overs_sorted p2)]; rfl
theorem below_up {S : MC} {x y : Item} (h : S.below x = some y) : y.Level + 1 = x.Level ∧ 0 ≤ y.Level := by
  have h1 := (leastItem_some h).1
  unfold overs at h1
  rw [List.mem_map] at h1
  obtain ⟨q, hq, rfl⟩ := h1
  have h2 := (List.mem_filter.1 hq).2
  unfold Plan.over at h2
  split at h2
  · rename_i z hz
    have h3 := parent_up (u := z.1) (c := z.2) hz
    have h4 : z.1 = x := of_decide_eq_true h2
    rw [h4] at h3
    omega
  · cases h2
/-- Down from an item, as long as one beneath it is cached. -/
def MC.deep (S : MC) (x : Item) : Item :=
  match h : S.below x with
  | none => x
  | some y => S.deep y
termination_by x.Level.toNat
decreasing_by
  have := below_up h
  omega
theorem deep_none {S : MC} {x : Item} (h : S.below x = none) : S.deep x = x := by
  rw [MC.deep]
  split
  · rfl
  · rename_i z hz; rw [h] at hz; cases hz
theorem deep_some {S : MC} {x y : Item} (h : S.below x = some y) : S.deep x = S.deep y := by
  rw [MC.deep]
  split
  · rename_i hz; rw [h] at hz; cases hz
  · rename_i z hz; rw [h] at hz; cases hz; rfl
/-- Is an item on none of the ways? -/
def Plan.off (p : Plan) (keep : List Item) (x : Item) : Bool := keep.all fun k => decide (x ∉ p.way k)
def MC.victim (S : MC) (b : Int) (keep : List Item) : Option Item :=
  if S.there b then ((S.bank b).find? fun y => S.plan.off keep y.Item).map fun y => S.deep y.Item else none
theorem two_keeps {w w' : World} {a y : Nat} {p q : Array Value} (h : Grew w w') (la : a < w.heap.size) (ly : y < w.heap.size) (hs : w.rowD a 0 2 = p ∧ w.hasRow a 0 2 = true ∧ w.rowD y 0 2 = q ∧ w.hasRow y 0 2 = true) :
    w'.rowD a 0 2 = p ∧ w'.hasRow a 0 2 = true ∧ w'.rowD y 0 2 = q ∧ w'.hasRow y 0 2 = true :=
  ⟨(rowD_grew h la 0 2).trans hs.1, (hasRow_grew h la 0 2).trans hs.2.1, (rowD_grew h ly 0 2).trans hs.2.2.1, (hasRow_grew h ly 0 2).trans hs.2.2.2⟩
theorem find_at {α : Type} {p : α → Bool} {xs : List α} {j : Nat} {q : α} (hno : ∀ x ∈ xs.take j, p x = false) (hj : xs[j]? = some q) (hq : p q = true) : xs.find? p = some q := by
  obtain ⟨hl, he⟩ := List.getElem?_eq_some_iff.1 hj
  rw [← List.take_append_drop j xs, List.find?_append, List.find?_eq_none.2 (fun x hx => by rw [hno x hx]; simp), List.drop_eq_getElem_cons hl, he]
  simp [hq]
def DeepRel (S : MC) (W : World) (xb : Nat) (x : Item) (_ : Value) (wr : World) : Prop :=
  ∃ z : Item, S.deep z = S.deep x ∧ Grew W wr ∧ wr.heap[xb]? = some (.cells (encItem z) 31 (0, 0))
theorem Victim_any {w : World} {a : Nat} {S : MC} {fp : List Nat} (h : MRep w a S fp) (b : Int) {base : Nat} {kv : Value} {keep : List Item} (hk : Own w base 31 encItem 2 kv keep) (hkl : keep.length ≤ 4096) :
    Calls Try.prog 20 #[.pointer (some ⟨a, 0, none⟩), .int .i64 b, kv] w fun e w' => e = .returned (belowVal (S.victim b keep)) ∧ Grew w w' := by
  have HT := Lib.hid fun (w2 : World) (hg : Grew w w2) => there_any (h.grew hg) b
  have HB := Lib.hid fun (w2 : World) (hg : Grew w w2) (x : Item) => below_is (h.grew hg) x
  have HW := Lib.hid fun (w2 : World) (hg : Grew w w2) (x : Item) => way_any (h.grew hg) x
  obtain ⟨bb, hs, rfl, hn, h1, h2, h3, h4, h5, h6⟩ := h
  obtain ⟨hA, hM, hR, hH, la⟩ := head_facts h1
  have lb := lt_of_block h2
  have HK := Lib.hid hk
  obtain ⟨KA, KC, hkv, _, _⟩ := hk.shape
  subst hkv
  cases ht : S.there b with
  | false =>
    have HV : Hid (belowVal (S.victim b keep) = .tuple #[.agg (encItem ⟨0, 0⟩), .bool false]) := Lib.hid (by simp [MC.victim, ht, belowVal])
    have HTT := Lib.hid ht
    clear ht hn h1 h2 h3 h4 h5 h6 hk hM hR hH hA
    go_enter Try.func20, Try.ntmps20
    go_wp2
    go_step3
    go_wp2_with (go_at_call 32; refine (HT.out _ (by all_goals repeat (with_reducible first | exact Grew.refl _ | apply Grew.ext | apply Grew.alloc | apply Grew.drew))).mono ?_; rw [HTT.out]; rintro e w' ⟨rfl, x, rfl⟩)
    rw [Exit.noGoto_ret]
    refine bodyPost_ret (results_row_tmp rfl rowItem _ _ w.heap.size 0 (encItem ⟨0, 0⟩) (.bool false) rfl rfl ?_ ?_) rfl ⟨by rw [HV.out], ?_⟩
    · simp [go_sem]
    · simp [go_sem]
    all_goals repeat (with_reducible first | exact Grew.refl _ | apply Grew.ext | apply Grew.alloc | apply Grew.drew)
  | true =>
    have ht' := ht
    simp only [MC.there, decide_eq_true_eq] at ht'
    obtain ⟨t0, t1⟩ := ht'
    obtain ⟨bk, rfl⟩ := Int.eq_ofNat_of_zero_le t0
    have hlt : bk < S.banks.length := by omega
    have hbk : w.cell? ⟨bb, bk, none⟩ = some hs[bk] := by rw [cell_of_row w bb bk _ _ _ h2]; simp
    have hown := h5 bk hs[bk] S.banks[bk] (List.getElem?_eq_getElem (by omega)) (List.getElem?_eq_getElem hlt)
    have hl64 := h6 S.banks[bk] (List.getElem_mem hlt)
    have HV : Hid (S.victim bk keep = (S.banks[bk].find? fun y => S.plan.off keep y.Item).map fun y => S.deep y.Item) := Lib.hid (by
      have : S.bank bk = S.banks[bk] := by simp [MC.bank, hlt]
      simp only [MC.victim, ht, if_true, this])
    obtain ⟨A, c, hv, hc1, hc2⟩ := hown.shape
    rw [hv] at hbk hown
    have HO := Lib.hid hown
    have HTT := Lib.hid ht
    generalize S.banks[bk] = xs at *
    clear ht hn h1 h2 h3 h5 h6 hk hM hR hH hown hv
    go_enter Try.func20, Try.ntmps20
    go_wp2
    go_step3
    go_wp2_with (go_at_call 32; refine (HT.out _ (by all_goals repeat (with_reducible first | exact Grew.refl _ | apply Grew.ext | apply Grew.alloc | apply Grew.drew))).mono ?_; rw [HTT.out]; rintro e w' ⟨rfl, x, rfl⟩)
    obtain ⟨W, hW⟩ : ∃ W, (w.alloc (Obj.cells #[.int .i64 0, .int .i64 0] 31)).ext x = W := ⟨_, rfl⟩
    rw [hW]
    have hgw : Grew w W := by subst hW; all_goals repeat (with_reducible first | exact Grew.refl _ | apply Grew.ext | apply Grew.alloc | apply Grew.drew)
    have hres : W.heap[w.heap.size]? = some (.cells (encItem ⟨0, 0⟩) 31 (0, 0)) := by subst hW; exact (heap_ext _ _ _ (by simp)).trans (ha_new _ _)
    have HGW := Lib.hid hgw
    have HRES := Lib.hid hres
    have hA' := (cell_heap (hgw.heap la) 46).trans hA
    have hb' := (cell_heap (hgw.heap lb) bk).trans hbk
    have lw : w.heap.size < W.heap.size := lt_of_block hres
    clear hA hbk hgw hres hW x
    go_step3
    go_wp2
    go_loopw [28] (fun i wr => ∃ j : Nat, j ≤ xs.length ∧ i = .int .i64 j ∧ (∀ q ∈ xs.take j, S.plan.off keep q.Item = false) ∧ Grew W wr) (fun i _ => xs.length - (intOf i).toNat)
    case atStart => exact ⟨0, by omega, rfl, by simp, Grew.refl _⟩
    case round =>
      obtain ⟨j, hj, rfl, hno, hgr⟩ := hrel
      have HN := Lib.hid hno
      have HGR := Lib.hid hgr
      clear hno
      by_cases hjl : j < xs.length
      · obtain ⟨g, cap, cur, he, hg1, hg2, hg3, hg4, hg5, hg6⟩ := (HO.out.grew (HGW.out.trans hgr)).block (by omega)
        injection he with he1 he2 he3
        subst he1 he3
        obtain ⟨c1, c2⟩ := row_at encCached_size hg6 rfl (List.getElem?_eq_getElem hjl)
        obtain ⟨_, _, c3, c4, c5, c6⟩ := block_facts hg2
        have f3 : wr.rowD g (j * 36) 36 = encCached xs[j] := (c3 _ _).trans c1
        have f4 : wr.hasRow g (j * 36) 36 = true := (c4 _ _).trans (decide_eq_true c2)
        have HX : Hid (xs[j]? = some xs[j]) := Lib.hid (List.getElem?_eq_getElem hjl)
        have HTK : Hid (xs.take (j + 1) = xs.take j ++ [xs[j]]) := Lib.hid (by rw [List.take_succ_eq_append_getElem hjl])
        generalize hq0 : xs[j] = q at *
        clear c1 c2 c3 c4 hg2 hg6 hg5 hq0 hgr c5
        go_wp2
        obtain ⟨W2, hW2⟩ : ∃ W2, wr.alloc (Obj.cells (encCached q) 49) = W2 := ⟨_, rfl⟩
        rw [hW2]
        have g2 : Grew W W2 := by subst hW2; exact HGR.out.alloc _
        have y2 : W2.heap[wr.heap.size]? = some (.cells (encCached q) 49 (0, 0)) := by subst hW2; exact ha_new _ _
        have HG2 := Lib.hid g2
        have HY2 := Lib.hid y2
        have ly2 := lt_of_block y2
        generalize wr.heap.size = yb at *
        clear hW2 g2 y2 f3 f4
        go_loopw [34] (fun i w4 => ∃ m : Nat, m ≤ keep.length ∧ i = .int .i64 m ∧ (∀ k ∈ keep.take m, q.Item ∉ S.plan.way k) ∧ Grew W2 w4) (fun i _ => keep.length - (intOf i).toNat)
        case atStart => exact ⟨0, by omega, rfl, by simp, Grew.refl _⟩
        case round =>
          obtain ⟨m, hm, rfl, hno, hgr⟩ := hrel
          have HN2 := Lib.hid hno
          have HG4 := Lib.hid hgr
          clear hno
          by_cases hml : m < keep.length
          · obtain ⟨kg, kcap, kcur, khe, khg1, khg2, khg3, khg4, khg5, khg6⟩ := (HK.out.grew (HGW.out.trans (HG2.out.trans hgr))).block (by omega)
            injection khe with khe1 khe2 khe3
            subst khe1 khe3
            obtain ⟨kc1, kc2⟩ := row_at (enc := encItem) (k := 2) (fun _ => rfl) khg6 rfl (List.getElem?_eq_getElem hml)
            obtain ⟨_, _, kc3, kc4, kc5, kc6⟩ := block_facts khg2
            have kf3 : wr.rowD kg (m * 2) 2 = encItem keep[m] := (kc3 _ _).trans kc1
            have kf4 : wr.hasRow kg (m * 2) 2 = true := (kc4 _ _).trans (decide_eq_true kc2)
            have KX : Hid (keep[m]? = some keep[m]) := Lib.hid (List.getElem?_eq_getElem hml)
            have KTK : Hid (keep.take (m + 1) = keep.take m ++ [keep[m]]) := Lib.hid (by rw [List.take_succ_eq_append_getElem hml])
            have ly4 : yb < wr.heap.size := Nat.lt_of_lt_of_le ly2 hgr.size
            have hy4 := hgr.block HY2.out
            have HY4 := Lib.hid hy4
            generalize hk0 : keep[m] = kk at *
            clear kc1 kc2 kc3 kc4 khg2 khg6 khg5 hk0 hgr kc5 hy4
            go_wp2
            obtain ⟨W5, hW5⟩ : ∃ W5, wr.alloc (Obj.cells (encItem kk) 31) = W5 := ⟨_, rfl⟩
            rw [hW5]
            have g5 : Grew W2 W5 := by subst hW5; exact HG4.out.alloc _
            have k5 : W5.heap[wr.heap.size]? = some (.cells (encItem kk) 31 (0, 0)) := by subst hW5; exact ha_new _ _
            have y5 : W5.heap[yb]? = some (.cells (encCached q) 49 (0, 0)) := by subst hW5; exact (ha_old _ _ _ ly4).trans HY4.out
            obtain ⟨_, _, k6, k7, _, lk5⟩ := block_facts k5
            obtain ⟨_, _, y6, y7, _, ly5⟩ := block_facts y5
            have hs1 := Lib.hid (show W5.rowD wr.heap.size 0 2 = encItem kk ∧ W5.hasRow wr.heap.size 0 2 = true ∧ W5.rowD yb 0 2 = encItem q.Item ∧ W5.hasRow yb 0 2 = true from
              ⟨(k6 0 2).trans (by simp), (k7 0 2).trans (by simp), (y6 0 2).trans (encCached_item q), (y7 0 2).trans (by simp)⟩)
            have HG5 := Lib.hid g5
            have KL := Lib.hid (way_len S.plan kk)
            generalize wr.heap.size = kb at *
            clear g5 k5 y5 k6 k7 y6 y7 hW5 kf3 kf4
            obtain ⟨dd, hdd⟩ : ∃ dd, decide (q.Item ∈ S.plan.way kk) = dd := ⟨_, rfl⟩
            have HDD := Lib.hid hdd
            clear hdd
            refine wp_region_game' (fun w' : World => w'.rowD kb 0 2 = encItem kk ∧ w'.hasRow kb 0 2 = true ∧ w'.rowD yb 0 2 = encItem q.Item ∧ w'.hasRow yb 0 2 = true) (by kernel_rfl) ?_
            (refine game_head (oi := ⟨_, _, _, _, _, _⟩) (v := ?_) 0 rfl (by kernel_rfl) (by kernel_rfl) (by kernel_rfl) (by rfl) hs1.out ?_ ?_; rotate_left; · intro w hSw; (try obtain ⟨hSw1, hSw2⟩ := hSw); (try obtain ⟨hSw2, hSw3⟩ := hSw2); (try obtain ⟨hSw3, hSw4⟩ := hSw3); go_simp; (try with_reducible rfl)); (try simp only [Act.put, List.setIfInBounds_toArray, List.set_cons_zero, List.set_cons_succ, Nat.reduceAdd])
            (refine game_head (oi := ⟨_, _, _, _, _, _⟩) (v := ?_) 1 rfl (by kernel_rfl) (by kernel_rfl) (by kernel_rfl) (by rfl) hs1.out ?_ ?_; rotate_left; · intro w hSw; (try obtain ⟨hSw1, hSw2⟩ := hSw); (try obtain ⟨hSw2, hSw3⟩ := hSw2); (try obtain ⟨hSw3, hSw4⟩ := hSw3); go_simp; (try with_reducible rfl)); (try simp only [Act.put, List.setIfInBounds_toArray, List.set_cons_zero, List.set_cons_succ, Nat.reduceAdd])
            (refine game_head (oi := ⟨_, _, _, _, _, _⟩) (v := ?_) 3 rfl (by kernel_rfl) (by kernel_rfl) (by kernel_rfl) (by rfl) hs1.out ?_ ?_; rotate_left; · intro w hSw; (try obtain ⟨hSw1, hSw2⟩ := hSw); (try obtain ⟨hSw2, hSw3⟩ := hSw2); (try obtain ⟨hSw3, hSw4⟩ := hSw3); go_simp; (try with_reducible rfl)); (try simp only [Act.put, List.setIfInBounds_toArray, List.set_cons_zero, List.set_cons_succ, Nat.reduceAdd])
            (refine game_head (oi := ⟨_, _, _, _, _, _⟩) (v := ?_) 4 rfl (by kernel_rfl) (by kernel_rfl) (by kernel_rfl) (by rfl) hs1.out ?_ ?_; rotate_left; · intro w hSw; (try obtain ⟨hSw1, hSw2⟩ := hSw); (try obtain ⟨hSw2, hSw3⟩ := hSw2); (try obtain ⟨hSw3, hSw4⟩ := hSw3); go_simp; (try with_reducible rfl)); (try simp only [Act.put, List.setIfInBounds_toArray, List.set_cons_zero, List.set_cons_succ, Nat.reduceAdd])
            (refine game_one 2 (by kernel_rfl) ?_)
            refine game_call (oi := ⟨_, _, _, _, _, _⟩) 45 rfl rfl (by rfl) #[.pointer (some ⟨a, 0, none⟩), .agg (encItem kk)] (by simp [Act.eval]) (by intros; go_simp) ?_
            refine (HW.out _ ((HGW.out.trans (HG2.out.trans HG5.out)).drew) kk).mono ?_
            rintro e w6 ⟨v6, rfl, o6, z, rfl⟩
            have O6 := Lib.hid o6
            clear o6
            have hs2 := Lib.hid (two_keeps (w' := W5.drew.ext z) (by all_goals repeat (with_reducible first | exact Grew.refl _ | apply Grew.ext | apply Grew.alloc | apply Grew.drew)) lk5 ly5 hs1.out)
            refine ⟨_, rfl, hs2.out, ?_⟩
            (try simp only [Act.put, List.setIfInBounds_toArray, List.set_cons_zero, List.set_cons_succ, Nat.reduceAdd])
            (refine game_one 5 (by kernel_rfl) ?_)
            refine game_call (oi := ⟨_, _, _, _, _, _⟩) 44 rfl rfl (by rfl) #[v6, .agg (encItem q.Item)] (by simp [Act.eval]) (by intros; go_simp) ?_
            refine (Contains_any O6.out (by have := KL.out; omega) q.Item).mono ?_
            rintro e w6 ⟨rfl, z2, rfl⟩
            rw [HDD.out]
            have hs3 := Lib.hid (two_keeps (w' := (W5.drew.ext z).ext z2) (by all_goals repeat (with_reducible first | exact Grew.refl _ | apply Grew.ext | apply Grew.alloc | apply Grew.drew)) lk5 ly5 hs1.out)
            refine ⟨_, rfl, hs3.out, ?_⟩
            (try simp only [Act.put, List.setIfInBounds_toArray, List.set_cons_zero, List.set_cons_succ, Nat.reduceAdd])
            refine game_end (by kernel_rfl) ?_
            have g7 := HG5.out.trans (show Grew W5 ((W5.drew.ext z).ext z2) by all_goals repeat (with_reducible first | exact Grew.refl _ | apply Grew.ext | apply Grew.alloc | apply Grew.drew))
            obtain ⟨W7, hW7⟩ : ∃ W7, (W5.drew.ext z).ext z2 = W7 := ⟨_, rfl⟩
            rw [hW7] at g7 ⊢
            have HG7 := Lib.hid g7
            clear g7 hW7 hs2 hs3 O6
            cases dd with
            | false =>
              go_wp2
              go_roundw
              case rel => exact ⟨m + 1, by omega, by go_num, by
                rw [KTK.out]
                intro k' hk'
                rcases List.mem_append.1 hk' with h | h
                · exact HN2.out k' h
                · rw [List.mem_singleton.1 h]; exact of_decide_eq_false HDD.out, HG7.out⟩
              case measure => simp [intOf]; omega
            | true =>
              have HOF : Hid (S.plan.off keep q.Item = false) := Lib.hid (by
                rw [Bool.eq_false_iff]
                intro h
                have := List.all_eq_true.1 h kk (List.mem_of_getElem? KX.out)
                exact of_decide_eq_true this (of_decide_eq_true HDD.out))
              go_wp2
              refine ⟨⟨j + 1, by omega, by go_num, fun q' hq' => ?_, HG2.out.trans HG7.out⟩, by simp [intOf]; omega⟩
              rw [HTK.out] at hq'
              rcases List.mem_append.1 hq' with h | h
              · exact HN.out q' h
              · rw [List.mem_singleton.1 h]; exact HOF.out
          · obtain rfl : m = keep.length := by omega
            have HFD : Hid (belowVal (S.victim bk keep) = .tuple #[.agg (encItem (S.deep q.Item)), .bool true]) := Lib.hid (by
              rw [HV.out, find_at HN.out HX.out (List.all_eq_true.2 fun k hk => decide_eq_true (HN2.out k (by rw [List.take_length]; exact hk)))]
              rfl)
            have hy4 := hgr.block HY2.out
            obtain ⟨_, _, y6, y7, _, ly5⟩ := block_facts hy4
            have Y6 : wr.rowD yb 0 2 = encItem q.Item := (y6 0 2).trans (encCached_item q)
            have Y7 : wr.hasRow yb 0 2 = true := (y7 0 2).trans (by simp)
            clear hgr y6 y7 hy4
            go_wp2
            obtain ⟨W8, hW8⟩ : ∃ W8, wr.alloc (Obj.cells (encItem q.Item) 31) = W8 := ⟨_, rfl⟩
            rw [hW8]
            have g8 : Grew W W8 := by subst hW8; exact (HG2.out.trans HG4.out).alloc _
            have x8 : W8.heap[wr.heap.size]? = some (.cells (encItem q.Item) 31 (0, 0)) := by subst hW8; exact ha_new _ _
            have HG8 := Lib.hid g8
            have HX8 := Lib.hid x8
            have lxb : W.heap.size ≤ wr.heap.size := (HG2.out.trans HG4.out).size
            generalize wr.heap.size = xb at *
            clear g8 x8 hW8 Y6 Y7
            go_loopw [14] (DeepRel S W xb q.Item) (fun _ w9 => (intOf ((w9.cell? ⟨xb, 0, none⟩).getD undef)).toNat)
            case atStart => exact ⟨q.Item, rfl, HG8.out, HX8.out⟩
            case round =>
              obtain ⟨z, hz, hg9, hx9⟩ := hrel
              have HZ := Lib.hid hz
              have HG9 := Lib.hid hg9
              have HX9 := Lib.hid hx9
              obtain ⟨q3, _, q4, q5, _, lx9⟩ := block_facts hx9
              have Q4 : wr.rowD xb 0 2 = encItem z := (q4 0 2).trans (by simp)
              have Q5 : wr.hasRow xb 0 2 = true := (q5 0 2).trans (by simp)
              have HLV := Lib.hid ((q3 0).trans (by rfl : _ = some (Value.int .i64 z.Level)))
              clear hz hg9 hx9 q3 q4 q5
              cases hbl : S.below z with
              | none =>
                have HBL := Lib.hid hbl
                have HDP : Hid (S.deep q.Item = z) := Lib.hid (by rw [← HZ.out, deep_none hbl])
                have x1 := HG9.out.block HRES.out
                have HZ1 := Lib.hid x1
                obtain ⟨_, _, x2, x3, x4, x5⟩ := block_facts x1
                have X2 : wr.rowD w.heap.size 0 2 = encItem ⟨0, 0⟩ := (x2 0 2).trans (by simp)
                have X3 : wr.hasRow w.heap.size 0 2 = true := (x3 0 2).trans (by simp)
                clear hbl x1 x2 x3
                go_wp2_with (go_at_call 46; refine (HB.out _ (HGW.out.trans HG9.out) z).mono ?_; rw [HBL.out]; simp only [belowVal]; rintro e w' ⟨rfl, x, rfl⟩)
                rw [Exit.noGoto_ret]
                have hp := putRow_own (w := wr) (o := 0) (cs := encItem z) HZ1.out rfl (by simp)
                have hlw : w.heap.size < (wr.putRow w.heap.size 0 (encItem z)).heap.size := by rw [size_putRow]; exact x5
                have hge : Grew (wr.putRow w.heap.size 0 (encItem z)) (((wr.putRow w.heap.size 0 (encItem z)).ext x).alloc (Obj.cells (encItem ⟨0, 0⟩) 31)) := by all_goals repeat (with_reducible first | exact Grew.refl _ | apply Grew.ext | apply Grew.alloc | apply Grew.drew)
                refine bodyPost_ret (results_row_tmp rfl rowItem _ _ w.heap.size 0 (encItem z) (.bool true) rfl rfl ((hasRow_grew hge hlw 0 2).trans hp.1) ((rowD_grew hge hlw 0 2).trans hp.2)) rfl ⟨by rw [HFD.out, HDP.out], ?_⟩
                exact ((((HGW.out.trans HG9.out).putRow (Nat.le_refl _) _ _).ext _).alloc _)
              | some z2 =>
                have HBL := Lib.hid hbl
                have HDP : Hid (S.deep z2 = S.deep q.Item) := Lib.hid (by rw [← HZ.out, deep_some hbl])
                have hup := below_up hbl
                clear hbl
                go_wp2_with (go_at_call 46; refine (HB.out _ (HGW.out.trans HG9.out) z).mono ?_; rw [HBL.out]; simp only [belowVal]; rintro e w' ⟨rfl, x, rfl⟩)
                have fx : (((wr.putRow xb 0 (encItem z2)).ext x).alloc (Obj.cells (encItem z2) 31)).heap[xb]? = some (.cells (encItem z2) 31 (0, 0)) := by
                  rw [ha_old _ _ _ (by rw [size_ext, size_putRow]; omega), heap_ext _ _ _ (by rw [size_putRow]; exact lx9), putRow_heap HX9.out]
                  simp [putCells]
                refine ⟨⟨z2, HDP.out, (((HG9.out.putRow lxb _ _).ext _).alloc _), fx⟩, ?_⟩
                have e1 : (((wr.putRow xb 0 (encItem z2)).ext x).alloc (Obj.cells (encItem z2) 31)).cell? ⟨xb, 0, none⟩ = some (.int .i64 z2.Level) := (block_facts fx).1 0
                rw [e1, HLV.out]
                simp only [Option.getD_some, intOf]
                omega
      · obtain rfl : j = xs.length := by omega
        have HVV : Hid (belowVal (S.victim bk keep) = .tuple #[.agg (encItem ⟨0, 0⟩), .bool false]) := Lib.hid (by
          rw [HV.out, List.find?_eq_none.2 (fun q hq => by have := HN.out; rw [List.take_length] at this; rw [this q hq]; simp)]
          rfl)
        have x1 := hgr.block HRES.out
        have HZ := Lib.hid x1
        obtain ⟨_, _, x2, x3, x4, x5⟩ := block_facts x1
        have X2 : wr.rowD w.heap.size 0 2 = encItem ⟨0, 0⟩ := (x2 0 2).trans (by simp)
        have X3 : wr.hasRow w.heap.size 0 2 = true := (x3 0 2).trans (by simp)
        clear x1 x2 x3 hgr
        go_wp2
        rw [Exit.noGoto_ret]
        refine bodyPost_ret (results_row_tmp rfl rowItem _ _ w.heap.size 0 (encItem ⟨0, 0⟩) (.bool false) rfl rfl (putRow_own HZ.out rfl (by simp)).1 (putRow_own HZ.out rfl (by simp)).2) rfl ⟨by rw [HVV.out], ?_⟩
        exact (HGW.out.trans HGR.out).putRow (by simp) _ _
end Go.Proofs.Ytngmdedoboccoaa
