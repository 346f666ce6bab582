/- Package meta: below. -/
import Derived.Test.YtngmdedoboccoaaVic1
set_option linter.unusedVariables false
set_option linter.unusedSimpArgs false
set_option maxHeartbeats 1000000
set_option maxRecDepth 100000
namespace Go.Proofs.Ytngmdedoboccoaa
open Go Go.RowKit

/-- Is x the item above y? -/
def Plan.over (p : Plan) (x y : Item) : Bool := match p.parent y with
  | some z => decide (z.1 = x)
  | none => false
def overs (p : Plan) (x : Item) (ys : List Cached) : List Item := (ys.filter fun y => p.over x y.Item).map (·.Item)
def belowVal (r : Option Item) : Value :=
  match r with
  | some u => .tuple #[.agg (encItem u), .bool true]
  | none => .tuple #[.agg (encItem ⟨0, 0⟩), .bool false]
theorem overs_take (p : Plan) (x : Item) {ys : List Cached} {k : Nat} (h : k < ys.length) : overs p x (ys.take (k + 1)) = overs p x (ys.take k) ++ if p.over x ys[k].Item then [ys[k].Item] else [] := by
  unfold overs
  rw [List.take_succ_eq_append_getElem h, List.filter_append, List.map_append]
  congr 1
  by_cases hp : p.over x ys[k].Item = true
  · rw [if_pos hp]; simp [hp]
  · rw [if_neg hp]; simp [hp]
theorem overs_len (p : Plan) (x : Item) (ys : List Cached) : (overs p x ys).length ≤ ys.length := by
  unfold overs; rw [List.length_map]; exact List.length_filter_le _ _
def BelowRel (w W : World) (p : Plan) (x : Item) (ys : List Cached) (lst i : Value) (wr : World) : Prop :=
  ∃ k : Nat, k ≤ ys.length ∧ i = .int .i64 k ∧ Own wr W.heap.size 31 encItem 2 lst (overs p x (ys.take k)) ∧ Grew W wr
theorem below_start {w w' : World} {a : Nat} {p : Plan} {o1 o2 : Obj} (la : a < w.heap.size) (hR : w.rowD a 0 46 = encPlan p) (hH : w.hasRow a 0 46 = true) (hg : Grew ((w.alloc o1).alloc o2) w') {v : Value} {ys zs : List Cached}
    (ho : Own w' ((w.alloc o1).alloc o2).heap.size 49 encCached 36 v ys) (hp : ys.Perm zs) :
    Grew w w' ∧ w'.rowD a 0 46 = encPlan p ∧ w'.hasRow a 0 46 = true ∧ w'.heap[w.heap.size]? = some o1 ∧ w'.heap[w.heap.size + 1]? = some o2 ∧ w.heap.size + 2 ≤ w'.heap.size ∧ Own w' (w.heap.size + 2) 49 encCached 36 v ys ∧ ys.length = zs.length := by
  have g0 : Grew w ((w.alloc o1).alloc o2) := by all_goals repeat (with_reducible first | exact Grew.refl _ | apply Grew.ext | apply Grew.alloc | apply Grew.drew)
  have g := g0.trans hg
  have e1 : (w.alloc o1).heap.size = w.heap.size + 1 := by simp
  have e2 : ((w.alloc o1).alloc o2).heap.size = w.heap.size + 2 := by simp
  refine ⟨g, (rowD_grew g la 0 46).trans hR, (hasRow_grew g la 0 46).trans hH, ?_, ?_, by rw [← e2]; exact hg.size, by rw [← e2]; exact ho, hp.length_eq⟩
  · rw [hg.heap (by omega), ha_old _ _ _ (by omega)]; exact ha_new _ _
  · rw [hg.heap (by omega), ← e1]; exact ha_new _ _
theorem below_box {W wr W2 : World} {lst : Value} {xs : List Item} {q : Cached} (hg : Grew W wr) (hl : Own wr W.heap.size 31 encItem 2 lst xs) (h : wr.alloc (Obj.cells (encCached q) 49) = W2) :
    Grew W W2 ∧ Own W2 W.heap.size 31 encItem 2 lst xs ∧ W2.heap[wr.heap.size]? = some (.cells (encCached q) 49 (0, 0)) := by
  subst h
  exact ⟨hg.alloc _, hl.alloc _, ha_new _ _⟩
theorem parent_vals (p : Plan) (y : Item) : ∃ (u : Item) (c : Int) (ok : Bool), parVal (p.parent y) = .tuple #[.agg (encItem u), .int .i64 c, .bool ok] ∧ ∀ x, p.over x y = (ok && decide (u = x)) := by
  cases h : p.parent y with
  | none => exact ⟨⟨0, 0⟩, 0, false, rfl, fun x => by unfold Plan.over; rw [h]; rfl⟩
  | some z => exact ⟨z.1, z.2, true, rfl, fun x => by unfold Plan.over; rw [h]; rfl⟩
theorem four_keeps {w w' : World} {a y : Nat} {p q : Array Value} (h : Grew w w') (la : a < w.heap.size) (ly : y < w.heap.size) (hs : w.rowD a 0 46 = p ∧ w.hasRow a 0 46 = true ∧ w.rowD y 0 2 = q ∧ w.hasRow y 0 2 = true) :
    w'.rowD a 0 46 = p ∧ w'.hasRow a 0 46 = true ∧ w'.rowD y 0 2 = q ∧ w'.hasRow y 0 2 = true :=
  ⟨(rowD_grew h la 0 46).trans hs.1, (hasRow_grew h la 0 46).trans hs.2.1, (rowD_grew h ly 0 2).trans hs.2.2.1, (hasRow_grew h ly 0 2).trans hs.2.2.2⟩
theorem box_next {W W2 Y : World} {wb pb : Nat} {lst : Value} {xs : List Item} {u : Item} {o2 : Obj} (hg : Grew W W2) (hl : Own W2 W.heap.size 31 encItem 2 lst xs) (hy : Grew W2 Y) (hp : W2.heap.size ≤ pb) (hb : Y.heap[pb]? = some (.cells (encItem ⟨0, 0⟩) 31 (0, 0))) (ho2 : W2.heap[wb]? = some o2) :
    Grew W (Y.putRow pb 0 (encItem u)) ∧ Own (Y.putRow pb 0 (encItem u)) W.heap.size 31 encItem 2 lst xs ∧ (Y.putRow pb 0 (encItem u)).heap[pb]? = some (.cells (encItem u) 31 (0, 0)) ∧ (Y.putRow pb 0 (encItem u)).heap[wb]? = some o2 := by
  have g := hy.putRow hp 0 (encItem u)
  refine ⟨hg.trans g, hl.grew g, ?_, g.block ho2⟩
  rw [putRow_heap hb]
  simp [putCells]
theorem below_any {w : World} {a : Nat} {S : MC} {fp : List Nat} (h : MRep w a S fp) (x : Item) :
    Calls Try.prog 46 #[.pointer (some ⟨a, 0, none⟩), .agg (encItem x)] w fun e w' =>
      (∃ ys : List Cached, ys.Perm S.banks.flatten ∧ ys.Pairwise (fun a b => ¬ itemLt b.Item a.Item) ∧ e = .returned (belowVal (overs S.plan x ys).head?)) ∧ Grew w w' := by
  have HA := Lib.hid fun (w2 : World) (hg : Grew w w2) => AllM_any (h.grew hg)
  obtain ⟨bb, hs, rfl, hn, h1, h2, h3, h4, h5, h6⟩ := h
  obtain ⟨hA, hM, hR, hH, la⟩ := head_facts h1
  have HL := Lib.hid (flatten_le S.banks h6)
  clear h1 h2 h3 h5 h6 hn hA hM
  go_enter Try.func46, Try.ntmps46
  go_wp2_with (go_at_call 11; refine (HA.out _ (by all_goals repeat (with_reducible first | exact Grew.refl _ | apply Grew.ext | apply Grew.alloc | apply Grew.drew))).mono ?_; rintro e w' ⟨v, ys, rfl, p1, p2, ho, hg⟩; obtain ⟨g1, r1, r2, b1, b2, lw, ho1, ln⟩ := below_start la hR hH hg ho p1; have HO := Lib.hid ho1; have LN := Lib.hid ln; clear ho1 ln; have HP := Lib.hid (And.intro p1 p2); have HG := Lib.hid g1; have B1 := Lib.hid b1; have B2 := Lib.hid b2; obtain ⟨A, c, hv, hc1, hc2⟩ := ho.shape; subst hv; clear hg ho p1 p2 g1 b1 b2 hc1 hc2)
  have hn64 : ys.length ≤ 256 := by have := HL.out; have := LN.out; omega
  clear HL LN
  go_loopw [6, 15] (BelowRel w w' S.plan x ys) (fun _ i _ => ys.length - (intOf i).toNat)
  case atStart => exact ⟨0, by omega, rfl, Own.nil _ _ _ _ _, Grew.refl _⟩
  case round =>
    obtain ⟨k, hk, rfl, hl, hgr⟩ := hrel
    have HL := Lib.hid hl
    have HGR := Lib.hid hgr
    clear hl
    by_cases hlt : k < ys.length
    · obtain ⟨g, cap, cur, he, hg1, hg2, hg3, hg4, hg5, hg6⟩ := (HO.out.grew hgr).block (by omega)
      injection he with he1 he2 he3
      subst he1 he3
      obtain ⟨c1, c2⟩ := row_at encCached_size hg6 rfl (List.getElem?_eq_getElem hlt)
      obtain ⟨_, _, c3, c4, c5, c6⟩ := block_facts hg2
      have f3 : wr.rowD g (k * 36) 36 = encCached ys[k] := (c3 _ _).trans c1
      have f4 : wr.hasRow g (k * 36) 36 = true := (c4 _ _).trans (decide_eq_true c2)
      have HT := Lib.hid (overs_take S.plan x hlt)
      have HX : Hid (ys[k]? = some ys[k]) := Lib.hid (List.getElem?_eq_getElem hlt)
      generalize hq0 : ys[k] = q at *
      clear c1 c2 c3 c4 hg2 hg6 hg5 hq0 hgr c5
      go_wp2
      obtain ⟨W2, hW2⟩ : ∃ W2, wr.alloc (Obj.cells (encCached q) 49) = W2 := ⟨_, rfl⟩
      rw [hW2]
      obtain ⟨g2, l2, y2⟩ := below_box (q := q) HGR.out HL.out hW2
      have HY2 := Lib.hid y2
      obtain ⟨_, _, y3, y4, _, _⟩ := block_facts y2
      have S1 : W2.rowD a 0 46 = encPlan S.plan ∧ W2.hasRow a 0 46 = true ∧ W2.rowD wr.heap.size 0 2 = encItem q.Item ∧ W2.hasRow wr.heap.size 0 2 = true :=
        ⟨(rowD_grew g2 (Nat.lt_of_lt_of_le la HG.out.size) 0 46).trans r1, (hasRow_grew g2 (Nat.lt_of_lt_of_le la HG.out.size) 0 46).trans r2, (y3 0 2).trans (encCached_item q), (y4 0 2).trans (by simp)⟩
      have HS1 := Lib.hid S1
      have HG2 := Lib.hid g2
      have HL2 := Lib.hid l2
      clear hW2 y2 y3 y4 S1 g2 l2 f3 f4
      refine wp_region_game' (fun w' : World => w'.rowD a 0 46 = encPlan S.plan ∧ w'.hasRow a 0 46 = true ∧ w'.rowD wr.heap.size 0 2 = encItem q.Item ∧ w'.hasRow wr.heap.size 0 2 = true) (by kernel_rfl) ?_
      (refine game_head (oi := ⟨_, _, _, _, _, _⟩) (v := ?_) 0 rfl (by kernel_rfl) (by kernel_rfl) (by kernel_rfl) (by rfl) HS1.out ?_ ?_; rotate_left; · intro w hSw; (try obtain ⟨hSw1, hSw2⟩ := hSw); (try obtain ⟨hSw2, hSw3⟩ := hSw2); (try obtain ⟨hSw3, hSw4⟩ := hSw3); go_simp; (try with_reducible rfl)); (try simp only [Act.put, List.setIfInBounds_toArray, List.set_cons_zero, List.set_cons_succ, Nat.reduceAdd])
      (refine game_head (oi := ⟨_, _, _, _, _, _⟩) (v := ?_) 1 rfl (by kernel_rfl) (by kernel_rfl) (by kernel_rfl) (by rfl) HS1.out ?_ ?_; rotate_left; · intro w hSw; (try obtain ⟨hSw1, hSw2⟩ := hSw); (try obtain ⟨hSw2, hSw3⟩ := hSw2); (try obtain ⟨hSw3, hSw4⟩ := hSw3); go_simp; (try with_reducible rfl)); (try simp only [Act.put, List.setIfInBounds_toArray, List.set_cons_zero, List.set_cons_succ, Nat.reduceAdd])
      (refine game_head (oi := ⟨_, _, _, _, _, _⟩) (v := ?_) 2 rfl (by kernel_rfl) (by kernel_rfl) (by kernel_rfl) (by rfl) HS1.out ?_ ?_; rotate_left; · intro w hSw; (try obtain ⟨hSw1, hSw2⟩ := hSw); (try obtain ⟨hSw2, hSw3⟩ := hSw2); (try obtain ⟨hSw3, hSw4⟩ := hSw3); go_simp; (try with_reducible rfl)); (try simp only [Act.put, List.setIfInBounds_toArray, List.set_cons_zero, List.set_cons_succ, Nat.reduceAdd])
      (refine game_head (oi := ⟨_, _, _, _, _, _⟩) (v := ?_) 3 rfl (by kernel_rfl) (by kernel_rfl) (by kernel_rfl) (by rfl) HS1.out ?_ ?_; rotate_left; · intro w hSw; (try obtain ⟨hSw1, hSw2⟩ := hSw); (try obtain ⟨hSw2, hSw3⟩ := hSw2); (try obtain ⟨hSw3, hSw4⟩ := hSw3); go_simp; (try with_reducible rfl)); (try simp only [Act.put, List.setIfInBounds_toArray, List.set_cons_zero, List.set_cons_succ, Nat.reduceAdd])
      (refine game_head (oi := ⟨_, _, _, _, _, _⟩) (v := ?_) 4 rfl (by kernel_rfl) (by kernel_rfl) (by kernel_rfl) (by rfl) HS1.out ?_ ?_; rotate_left; · intro w hSw; (try obtain ⟨hSw1, hSw2⟩ := hSw); (try obtain ⟨hSw2, hSw3⟩ := hSw2); (try obtain ⟨hSw3, hSw4⟩ := hSw3); go_simp; (try with_reducible rfl)); (try simp only [Act.put, List.setIfInBounds_toArray, List.set_cons_zero, List.set_cons_succ, Nat.reduceAdd])
      (refine game_head (oi := ⟨_, _, _, _, _, _⟩) (v := ?_) 5 rfl (by kernel_rfl) (by kernel_rfl) (by kernel_rfl) (by rfl) HS1.out ?_ ?_; rotate_left; · intro w hSw; (try obtain ⟨hSw1, hSw2⟩ := hSw); (try obtain ⟨hSw2, hSw3⟩ := hSw2); (try obtain ⟨hSw3, hSw4⟩ := hSw3); go_simp; (try with_reducible rfl)); (try simp only [Act.put, List.setIfInBounds_toArray, List.set_cons_zero, List.set_cons_succ, Nat.reduceAdd])
      obtain ⟨u, cc, ok, hpv, hov⟩ := parent_vals S.plan q.Item
      have HPV := Lib.hid hpv
      have HOV := Lib.hid (hov x)
      have la2 := Nat.lt_of_lt_of_le la (Nat.le_trans HG.out.size HG2.out.size)
      have ly2 := lt_of_block HY2.out
      clear hpv hov
      refine game_two 6 11 (by kernel_rfl) ?_ ?_
      refine game_call (oi := ⟨_, _, _, _, _, _⟩) 64 rfl rfl (by rfl) #[.agg (encPlan S.plan), .agg (encItem q.Item)] (by simp [Act.eval]) (by intros; go_simp) ?_
      refine (Parent_any S.plan q.Item _).mono ?_
      rintro e w2 ⟨rfl, z, rfl⟩
      rw [HPV.out]
      have hs2 := Lib.hid (four_keeps (w' := W2.drew.ext z) (by all_goals repeat (with_reducible first | exact Grew.refl _ | apply Grew.ext | apply Grew.alloc | apply Grew.drew)) la2 ly2 HS1.out)
      refine ⟨_, rfl, hs2.out, ?_⟩
      (try simp only [Act.put, List.setIfInBounds_toArray, List.set_cons_zero, List.set_cons_succ, Nat.reduceAdd])
      (refine game_head (oi := ⟨_, _, _, _, _, _⟩) (v := ?_) 7 rfl (by kernel_rfl) (by kernel_rfl) (by kernel_rfl) (by rfl) hs2.out ?_ ?_; rotate_left; · intro w hSw; (try obtain ⟨hSw1, hSw2⟩ := hSw); (try obtain ⟨hSw2, hSw3⟩ := hSw2); (try obtain ⟨hSw3, hSw4⟩ := hSw3); go_simp; (try with_reducible rfl)); (try simp only [Act.put, List.setIfInBounds_toArray, List.set_cons_zero, List.set_cons_succ, Nat.reduceAdd])
      (refine game_head (oi := ⟨_, _, _, _, _, _⟩) (v := ?_) 8 rfl (by kernel_rfl) (by kernel_rfl) (by kernel_rfl) (by rfl) hs2.out ?_ ?_; rotate_left; · intro w hSw; (try obtain ⟨hSw1, hSw2⟩ := hSw); (try obtain ⟨hSw2, hSw3⟩ := hSw2); (try obtain ⟨hSw3, hSw4⟩ := hSw3); go_simp; (try with_reducible rfl)); (try simp only [Act.put, List.setIfInBounds_toArray, List.set_cons_zero, List.set_cons_succ, Nat.reduceAdd])
      (refine game_head (oi := ⟨_, _, _, _, _, _⟩) (v := ?_) 9 rfl (by kernel_rfl) (by kernel_rfl) (by kernel_rfl) (by rfl) hs2.out ?_ ?_; rotate_left; · intro w hSw; (try obtain ⟨hSw1, hSw2⟩ := hSw); (try obtain ⟨hSw2, hSw3⟩ := hSw2); (try obtain ⟨hSw3, hSw4⟩ := hSw3); go_simp; (try with_reducible rfl)); (try simp only [Act.put, List.setIfInBounds_toArray, List.set_cons_zero, List.set_cons_succ, Nat.reduceAdd])
      (refine game_head (oi := ⟨_, _, _, _, _, _⟩) (v := ?_) 10 rfl (by kernel_rfl) (by kernel_rfl) (by kernel_rfl) (by rfl) hs2.out ?_ ?_; rotate_left; · intro w hSw; (try obtain ⟨hSw1, hSw2⟩ := hSw); (try obtain ⟨hSw2, hSw3⟩ := hSw2); (try obtain ⟨hSw3, hSw4⟩ := hSw3); go_simp; (try with_reducible rfl)); (try simp only [Act.put, List.setIfInBounds_toArray, List.set_cons_zero, List.set_cons_succ, Nat.reduceAdd])
      have hs3 := Lib.hid (four_keeps (w' := (W2.drew.ext z).alloc (.cells (encItem ⟨0, 0⟩) 31)) (by all_goals repeat (with_reducible first | exact Grew.refl _ | apply Grew.ext | apply Grew.alloc | apply Grew.drew)) la2 ly2 HS1.out)
      have hs4 := Lib.hid (four_keeps (w' := ((W2.drew.ext z).alloc (.cells (encItem ⟨0, 0⟩) 31)).putRow (W2.drew.ext z).heap.size 0 (encItem u)) (Grew.putRow (by all_goals repeat (with_reducible first | exact Grew.refl _ | apply Grew.ext | apply Grew.alloc | apply Grew.drew)) (by simp) _ _) la2 ly2 HS1.out)
      (refine game_one 11 (by kernel_rfl) ?_)
      (refine game_run (oi := ⟨_, _, _, _, _, _⟩) (v := (.pointer (some ⟨(W2.drew.ext z).heap.size, 0, none⟩))) (w' := ((W2.drew.ext z).alloc (.cells (encItem ⟨0, 0⟩) 31))) rfl (by rfl) (by go_simp) hs3.out ?_); (try simp only [Act.put, List.setIfInBounds_toArray, List.set_cons_zero, List.set_cons_succ, Nat.reduceAdd])
      (refine game_one 12 (by kernel_rfl) ?_)
      (refine game_do (oi := ⟨_, _, _, _, _, _⟩) (w' := ((W2.drew.ext z).alloc (.cells (encItem ⟨0, 0⟩) 31)).putRow (W2.drew.ext z).heap.size 0 (encItem u)) rfl (by rfl) (by go_simp) hs4.out ?_); (try simp only [Act.put, List.setIfInBounds_toArray, List.set_cons_zero, List.set_cons_succ, Nat.reduceAdd])
      (refine game_head (oi := ⟨_, _, _, _, _, _⟩) (v := ?_) 13 rfl (by kernel_rfl) (by kernel_rfl) (by kernel_rfl) (by rfl) hs4.out ?_ ?_; rotate_left; · intro w hSw; (try obtain ⟨hSw1, hSw2⟩ := hSw); (try obtain ⟨hSw2, hSw3⟩ := hSw2); (try obtain ⟨hSw3, hSw4⟩ := hSw3); go_simp; (try with_reducible rfl)); (try simp only [Act.put, List.setIfInBounds_toArray, List.set_cons_zero, List.set_cons_succ, Nat.reduceAdd])
      (refine game_head (oi := ⟨_, _, _, _, _, _⟩) (v := ?_) 14 rfl (by kernel_rfl) (by kernel_rfl) (by kernel_rfl) (by rfl) hs4.out ?_ ?_; rotate_left; · intro w hSw; (try obtain ⟨hSw1, hSw2⟩ := hSw); (try obtain ⟨hSw2, hSw3⟩ := hSw2); (try obtain ⟨hSw3, hSw4⟩ := hSw3); go_simp; (try with_reducible rfl)); (try simp only [Act.put, List.setIfInBounds_toArray, List.set_cons_zero, List.set_cons_succ, Nat.reduceAdd])
      refine game_end (by kernel_rfl) ?_
      have hn := Lib.hid (box_next (u := u) (Y := (W2.drew.ext z).alloc (.cells (encItem ⟨0, 0⟩) 31)) (pb := (W2.drew.ext z).heap.size) HG2.out HL2.out (by all_goals repeat (with_reducible first | exact Grew.refl _ | apply Grew.ext | apply Grew.alloc | apply Grew.drew)) (by simp) (ha_new _ _) (ho2 := HY2.out))
      obtain ⟨W3, hW3⟩ : ∃ W3, ((W2.drew.ext z).alloc (.cells (encItem ⟨0, 0⟩) 31)).putRow (W2.drew.ext z).heap.size 0 (encItem u) = W3 := ⟨_, rfl⟩
      obtain ⟨pb, hpb⟩ : ∃ pb, (W2.drew.ext z).heap.size = pb := ⟨_, rfl⟩
      rw [hW3, hpb] at hn ⊢
      clear hW3 hpb hs2 hs3 hs4 z
      rotate_left
      have hs3 := Lib.hid (four_keeps (w' := W2.drew.alloc (.cells (encItem ⟨0, 0⟩) 31)) (by all_goals repeat (with_reducible first | exact Grew.refl _ | apply Grew.ext | apply Grew.alloc | apply Grew.drew)) la2 ly2 HS1.out)
      (refine game_run (oi := ⟨_, _, _, _, _, _⟩) (v := (.pointer (some ⟨W2.heap.size, 0, none⟩))) (w' := (W2.drew.alloc (.cells (encItem ⟨0, 0⟩) 31))) rfl (by rfl) (by go_simp) hs3.out ?_); (try simp only [Act.put, List.setIfInBounds_toArray, List.set_cons_zero, List.set_cons_succ, Nat.reduceAdd])
      (refine game_one 6 (by kernel_rfl) ?_)
      refine game_call (oi := ⟨_, _, _, _, _, _⟩) 64 rfl rfl (by rfl) #[.agg (encPlan S.plan), .agg (encItem q.Item)] (by simp [Act.eval]) (by intros; go_simp) ?_
      refine (Parent_any S.plan q.Item _).mono ?_
      rintro e w2 ⟨rfl, z, rfl⟩
      rw [HPV.out]
      have hs2 := Lib.hid (four_keeps (w' := (W2.drew.alloc (.cells (encItem ⟨0, 0⟩) 31)).ext z) (by all_goals repeat (with_reducible first | exact Grew.refl _ | apply Grew.ext | apply Grew.alloc | apply Grew.drew)) la2 ly2 HS1.out)
      refine ⟨_, rfl, hs2.out, ?_⟩
      (try simp only [Act.put, List.setIfInBounds_toArray, List.set_cons_zero, List.set_cons_succ, Nat.reduceAdd])
      (refine game_head (oi := ⟨_, _, _, _, _, _⟩) (v := ?_) 7 rfl (by kernel_rfl) (by kernel_rfl) (by kernel_rfl) (by rfl) hs2.out ?_ ?_; rotate_left; · intro w hSw; (try obtain ⟨hSw1, hSw2⟩ := hSw); (try obtain ⟨hSw2, hSw3⟩ := hSw2); (try obtain ⟨hSw3, hSw4⟩ := hSw3); go_simp; (try with_reducible rfl)); (try simp only [Act.put, List.setIfInBounds_toArray, List.set_cons_zero, List.set_cons_succ, Nat.reduceAdd])
      (refine game_head (oi := ⟨_, _, _, _, _, _⟩) (v := ?_) 8 rfl (by kernel_rfl) (by kernel_rfl) (by kernel_rfl) (by rfl) hs2.out ?_ ?_; rotate_left; · intro w hSw; (try obtain ⟨hSw1, hSw2⟩ := hSw); (try obtain ⟨hSw2, hSw3⟩ := hSw2); (try obtain ⟨hSw3, hSw4⟩ := hSw3); go_simp; (try with_reducible rfl)); (try simp only [Act.put, List.setIfInBounds_toArray, List.set_cons_zero, List.set_cons_succ, Nat.reduceAdd])
      (refine game_head (oi := ⟨_, _, _, _, _, _⟩) (v := ?_) 9 rfl (by kernel_rfl) (by kernel_rfl) (by kernel_rfl) (by rfl) hs2.out ?_ ?_; rotate_left; · intro w hSw; (try obtain ⟨hSw1, hSw2⟩ := hSw); (try obtain ⟨hSw2, hSw3⟩ := hSw2); (try obtain ⟨hSw3, hSw4⟩ := hSw3); go_simp; (try with_reducible rfl)); (try simp only [Act.put, List.setIfInBounds_toArray, List.set_cons_zero, List.set_cons_succ, Nat.reduceAdd])
      (refine game_head (oi := ⟨_, _, _, _, _, _⟩) (v := ?_) 10 rfl (by kernel_rfl) (by kernel_rfl) (by kernel_rfl) (by rfl) hs2.out ?_ ?_; rotate_left; · intro w hSw; (try obtain ⟨hSw1, hSw2⟩ := hSw); (try obtain ⟨hSw2, hSw3⟩ := hSw2); (try obtain ⟨hSw3, hSw4⟩ := hSw3); go_simp; (try with_reducible rfl)); (try simp only [Act.put, List.setIfInBounds_toArray, List.set_cons_zero, List.set_cons_succ, Nat.reduceAdd])
      have hs4 := Lib.hid (four_keeps (w' := ((W2.drew.alloc (.cells (encItem ⟨0, 0⟩) 31)).ext z).putRow W2.heap.size 0 (encItem u)) (Grew.putRow (by all_goals repeat (with_reducible first | exact Grew.refl _ | apply Grew.ext | apply Grew.alloc | apply Grew.drew)) (by simp) _ _) la2 ly2 HS1.out)
      (refine game_one 12 (by kernel_rfl) ?_)
      (refine game_do (oi := ⟨_, _, _, _, _, _⟩) (w' := ((W2.drew.alloc (.cells (encItem ⟨0, 0⟩) 31)).ext z).putRow W2.heap.size 0 (encItem u)) rfl (by rfl) (by go_simp) hs4.out ?_); (try simp only [Act.put, List.setIfInBounds_toArray, List.set_cons_zero, List.set_cons_succ, Nat.reduceAdd])
      (refine game_head (oi := ⟨_, _, _, _, _, _⟩) (v := ?_) 13 rfl (by kernel_rfl) (by kernel_rfl) (by kernel_rfl) (by rfl) hs4.out ?_ ?_; rotate_left; · intro w hSw; (try obtain ⟨hSw1, hSw2⟩ := hSw); (try obtain ⟨hSw2, hSw3⟩ := hSw2); (try obtain ⟨hSw3, hSw4⟩ := hSw3); go_simp; (try with_reducible rfl)); (try simp only [Act.put, List.setIfInBounds_toArray, List.set_cons_zero, List.set_cons_succ, Nat.reduceAdd])
      (refine game_head (oi := ⟨_, _, _, _, _, _⟩) (v := ?_) 14 rfl (by kernel_rfl) (by kernel_rfl) (by kernel_rfl) (by rfl) hs4.out ?_ ?_; rotate_left; · intro w hSw; (try obtain ⟨hSw1, hSw2⟩ := hSw); (try obtain ⟨hSw2, hSw3⟩ := hSw2); (try obtain ⟨hSw3, hSw4⟩ := hSw3); go_simp; (try with_reducible rfl)); (try simp only [Act.put, List.setIfInBounds_toArray, List.set_cons_zero, List.set_cons_succ, Nat.reduceAdd])
      refine game_end (by kernel_rfl) ?_
      have hn := Lib.hid (box_next (u := u) (Y := (W2.drew.alloc (.cells (encItem ⟨0, 0⟩) 31)).ext z) (pb := W2.heap.size) HG2.out HL2.out (by all_goals repeat (with_reducible first | exact Grew.refl _ | apply Grew.ext | apply Grew.alloc | apply Grew.drew)) (by simp) ((heap_ext _ _ _ (by simp)).trans (ha_new W2.drew _)) (ho2 := HY2.out))
      obtain ⟨W3, hW3⟩ : ∃ W3, ((W2.drew.alloc (.cells (encItem ⟨0, 0⟩) 31)).ext z).putRow W2.heap.size 0 (encItem u) = W3 := ⟨_, rfl⟩
      obtain ⟨pb, hpb⟩ : ∃ pb, W2.heap.size = pb := ⟨_, rfl⟩
      rw [hW3, hpb] at hn ⊢
      clear hW3 hs2 hs3 hs4 z
      all_goals
        obtain ⟨g3, l3, p3, y3⟩ := hn.out
        have x3 := g3.block B1.out
        obtain ⟨_, _, p4, p5, _, _⟩ := block_facts p3
        obtain ⟨_, _, y4, y5, _, _⟩ := block_facts y3
        obtain ⟨_, _, x4, x5, _, _⟩ := block_facts x3
        have P4 : W3.rowD pb 0 2 = encItem u := (p4 0 2).trans (by simp)
        have P5 : W3.hasRow pb 0 2 = true := (p5 0 2).trans (by simp)
        have Y4 : W3.rowD wr.heap.size 0 2 = encItem q.Item := (y4 0 2).trans (encCached_item q)
        have Y5 : W3.hasRow wr.heap.size 0 2 = true := (y5 0 2).trans (by simp)
        have X4 : W3.rowD w.heap.size 0 2 = encItem x := (x4 0 2).trans (by simp)
        have X5 : W3.hasRow w.heap.size 0 2 = true := (x5 0 2).trans (by simp)
        have HG3 := Lib.hid g3
        have HL3 := Lib.hid l3
        have hol : (overs S.plan x (ys.take k)).length ≤ 256 := by have := overs_len S.plan x (ys.take k); rw [List.length_take] at this; omega
        clear g3 l3 p3 y3 x3 p4 p5 y4 y5 x4 x5 hn
        cases ok with
        | false =>
          have HE : Hid (overs S.plan x (ys.take (k + 1)) = overs S.plan x (ys.take k)) := Lib.hid (by rw [HT.out, HOV.out]; simp)
          clear hol
          go_wp2
          go_roundw
          case rel => exact ⟨k + 1, by omega, by go_num, by rw [HE.out]; exact HL3.out, HG3.out⟩
          case measure => simp [intOf]; omega
        | true =>
          by_cases hux : u = x
          · have HE : Hid (overs S.plan x (ys.take (k + 1)) = overs S.plan x (ys.take k) ++ [q.Item]) := Lib.hid (by rw [HT.out, HOV.out]; simp [hux])
            have d1 : decide (u.Level = x.Level ∧ u.Index = x.Index) = true := by rw [hux]; simp
            clear hux
            have hbs : w'.heap.size ≤ W3.heap.size := HG3.out.size
            go_wp2_with (at_builtin; refine app_own eltItem rfl _ _ rfl ((HL3.out).alloc _) q.Item W3.heap.size (ha_new _ _) rfl rfl (by omega) (by omega) (Nat.le_trans hbs (by simp)) ?_; intro v1 w1 hown1 hgr1; have HO1 := Lib.hid hown1; have HR1 := Lib.hid hgr1; clear hown1 hgr1)
            go_roundw
            case rel => exact ⟨k + 1, by omega, by go_num, by rw [HE.out]; exact HO1.out, (HG3.out.alloc _).grown HR1.out fun b hb => by have := (HL3.out.lt b hb).1; omega⟩
            case measure => simp [intOf]; omega
          · have HE : Hid (overs S.plan x (ys.take (k + 1)) = overs S.plan x (ys.take k)) := Lib.hid (by rw [HT.out, HOV.out]; simp [hux])
            have d1 : decide (u.Level = x.Level ∧ u.Index = x.Index) = false := by
              rw [decide_eq_false_iff_not]
              rintro ⟨h1, h2⟩
              exact hux (by cases u; cases x; simp_all)
            clear hol hux
            go_wp2
            go_roundw
            case rel => exact ⟨k + 1, by omega, by go_num, by rw [HE.out]; exact HL3.out, HG3.out⟩
            case measure => simp [intOf]; omega
    · obtain rfl : k = ys.length := by omega
      have HR := Lib.hid hgr
      have x1 := hgr.block B2.out
      have HZ := Lib.hid x1
      obtain ⟨_, _, x2, x3, x4, x5⟩ := block_facts x1
      have X2 : wr.rowD (w.heap.size + 1) 0 2 = encItem ⟨0, 0⟩ := (x2 0 2).trans (by simp)
      have X3 : wr.hasRow (w.heap.size + 1) 0 2 = true := (x3 0 2).trans (by simp)
      rw [List.take_length] at HL
      clear hgr x1 x2 x3
      cases hv : overs S.plan x ys with
      | nil =>
        have HE := Lib.hid hv
        rw [hv] at HL
        obtain ⟨A, cc, hu, _, _⟩ := HL.out.shape
        clear hv
        subst hu
        go_wp2
        refine bodyPost_ret (results_row_tmp rfl rowItem _ _ (w.heap.size + 1) 0 (encItem ⟨0, 0⟩) (.bool false) rfl rfl (putRow_own HZ.out rfl (by simp)).1 (putRow_own HZ.out rfl (by simp)).2) rfl ⟨⟨ys, HP.out.1, HP.out.2, by rw [HE.out]; rfl⟩, ?_⟩
        exact (HG.out.trans HR.out).putRow (by simp) _ _
      | cons u l =>
        have HE := Lib.hid hv
        rw [hv] at HL
        obtain ⟨g, cap, cur, he, hg1, hg2, hg3, hg4, hg5, hg6⟩ := HL.out.block (by simp)
        obtain ⟨c1, c2⟩ := row_at (enc := encItem) (k := 2) (xs := u :: l) (fun _ => rfl) hg6 rfl (i := 0) (x := u) (by simp)
        obtain ⟨_, _, c3, c4, c5, c6⟩ := block_facts hg2
        have f3 : wr.rowD g 0 2 = encItem u := (c3 _ _).trans (by simpa using c1)
        have f4 : wr.hasRow g 0 2 = true := (c4 _ _).trans (decide_eq_true (by simpa using c2))
        rw [List.length_cons] at he
        clear hv c1 c2 c3 c4 hg6 hg5 hg2
        subst he
        go_wp2
        refine bodyPost_ret (results_row_tmp rfl rowItem _ _ (w.heap.size + 1) 0 (encItem u) (.bool true) rfl rfl (putRow_own HZ.out rfl (by simp)).1 (putRow_own HZ.out rfl (by simp)).2) rfl ⟨⟨ys, HP.out.1, HP.out.2, by rw [HE.out]; rfl⟩, ?_⟩
        exact (HG.out.trans HR.out).putRow (by simp) _ _
end Go.Proofs.Ytngmdedoboccoaa
