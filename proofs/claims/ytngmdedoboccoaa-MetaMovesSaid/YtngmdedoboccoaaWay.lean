/- Package meta: way. -/
import Derived.Test.YtngmdedoboccoaaAll
import Derived.Test.YtngmdedoboccoaaMix
set_option linter.unusedVariables false
set_option linter.unusedSimpArgs false
set_option maxHeartbeats 1000000
set_option maxRecDepth 100000
namespace Go.Proofs.Ytngmdedoboccoaa
open Go Go.RowKit

theorem parent_up {p : Plan} {x u : Item} {c : Int} (h : p.parent x = some (u, c)) : u.Level = x.Level + 1 ∧ u.Level < p.levels ∧ 0 ≤ x.Level := by
  unfold Plan.parent at h
  split at h
  · rename_i hc
    simp only [Bool.and_eq_true, decide_eq_true_eq] at hc
    simp only [Option.some.injEq, Prod.mk.injEq] at h
    obtain ⟨rfl, _⟩ := h
    exact ⟨rfl, hc.2, (item_bd hc.1).1⟩
  · cases h
/-- An item and all above it. -/
def Plan.way (p : Plan) (x : Item) : List Item :=
  x :: (match h : p.parent x with
    | none => []
    | some z => p.way z.1)
termination_by (p.levels - x.Level).toNat
decreasing_by
  have := parent_up (u := z.1) (c := z.2) h
  omega
theorem way_none {p : Plan} {x : Item} (h : p.parent x = none) : p.way x = [x] := by
  rw [Plan.way]
  split
  · rfl
  · rename_i z hz; rw [h] at hz; cases hz
theorem way_some {p : Plan} {x u : Item} {c : Int} (h : p.parent x = some (u, c)) : p.way x = x :: p.way u := by
  rw [Plan.way]
  split
  · rename_i hz; rw [h] at hz; cases hz
  · rename_i z hz
    rw [h] at hz
    cases hz; rfl
theorem way_short (p : Plan) (x : Item) : (p.way x).length ≤ (p.levels - x.Level).toNat + 1 := by
  fun_induction Plan.way p x with
  | case1 x ih =>
    simp only [List.length_cons]
    split
    · simp
    · rename_i z hz
      have h1 := ih z hz
      have := parent_up (u := z.1) (c := z.2) hz
      omega
theorem way_len (p : Plan) (x : Item) : (p.way x).length ≤ 17 := by
  obtain ⟨l1, l2⟩ := levels_le p
  cases h : p.parent x with
  | none => rw [way_none h]; simp
  | some z =>
    have h1 := parent_up (u := z.1) (c := z.2) h
    have h2 := way_short p x
    omega
def parVal (r : Option (Item × Int)) : Value :=
  match r with
  | some (u, c) => .tuple #[.agg (encItem u), .int .i64 c, .bool true]
  | none => .tuple #[.agg (encItem ⟨0, 0⟩), .int .i64 0, .bool false]
theorem Parent_any (p : Plan) (x : Item) (w : World) :
    Calls Try.prog 64 #[.agg (encPlan p), .agg (encItem x)] w fun e w' => e = .returned (parVal (p.parent x)) ∧ Grew w w' := by
  cases h : p.parent x with
  | none => exact Parent_none p x h w
  | some z => exact Parent_some p x z.1 z.2 h w
def wayLeft (p : Plan) (y : Item) (ok : Bool) : List Item := if ok then p.way y else []
def lenOf : Value → Nat
  | .slice _ n _ => n
  | _ => 0
theorem Own.lenOf {α : Type} {w : World} {base : Nat} {e : TypeId} {enc : α → Array Value} {k : Nat} {v : Value} {xs : List α} (h : Own w base e enc k v xs) : lenOf v = xs.length := by
  obtain ⟨A, c, rfl, _⟩ := h.shape
  rfl
def WayRel (w : World) (p : Plan) (x : Item) (o ok : Value) (wr : World) : Prop :=
  ∃ (done : List Item) (y : Item) (b : Bool), ok = .bool b ∧ done ++ wayLeft p y b = p.way x ∧ Own wr (w.heap.size + 1) 31 encItem 2 o done ∧ Grew w wr ∧ wr.heap[w.heap.size]? = some (.cells (encItem y) 31 (0, 0))
theorem rowD_grew {w w' : World} (h : Grew w w') {b : Nat} (hb : b < w.heap.size) (o n : Nat) : w'.rowD b o n = w.rowD b o n := by
  simp only [World.rowD, h.heap hb]
theorem hasRow_grew {w w' : World} (h : Grew w w') {b : Nat} (hb : b < w.heap.size) (o n : Nat) : w'.hasRow b o n = w.hasRow b o n := by
  simp only [World.hasRow, h.heap hb]
/-- What an append to a row of the call's own leaves of the box ahead of it. -/
theorem app_world {w wr w1 : World} {v v1 : Value} {xs ys : List Item} {o ob : Obj} (hg : Grew w wr) (ho : Own wr (w.heap.size + 1) 31 encItem 2 v xs) (hy : wr.heap[w.heap.size]? = some o)
    (h1 : Own w1 (w.heap.size + 1) 31 encItem 2 v1 ys) (hgr : (wr.alloc ob).grownBy w1 v.ownBlock) :
    Grew w w1 ∧ w1.heap[w.heap.size]? = some o ∧ Hid (Own w1 (w.heap.size + 1) 31 encItem 2 v1 ys) := by
  have hlt := lt_of_block hy
  refine ⟨(hg.alloc ob).grown hgr fun k hk => by have := (ho.lt k hk).1; omega, ?_, Lib.hid h1⟩
  rw [hgr.block _ (by simp; omega) (fun e => by have := (ho.lt _ e.symm).1; omega)]
  exact (ha_old _ _ _ hlt).trans hy
theorem Grew.putRow {a b : World} (h : Grew a b) {k : Nat} (hk : a.heap.size ≤ k) (o : Nat) (cs : Array Value) : Grew a (b.putRow k o cs) := by
  have hb := h.below
  exact .of_below ⟨hb.os, hb.tape, hb.output, by rw [size_putRow]; exact hb.size, fun j hj => by rw [putRow_other (by omega)]; exact hb.block j hj⟩
theorem put_keeps {w w1 w2 : World} {a : Nat} {p : Plan} (la : a < w.heap.size) (h1 : Grew w w1) (h2 : Grew w1 w2) (q1 : w1.rowD a 0 46 = encPlan p) (q2 : w1.hasRow a 0 46 = true) (cs : Array Value) :
    (w2.putRow w.heap.size 0 cs).rowD a 0 46 = encPlan p ∧ (w2.putRow w.heap.size 0 cs).hasRow a 0 46 = true := by
  have h3 := (h1.trans h2).putRow (Nat.le_refl _) 0 cs
  exact ⟨(rowD_grew h3 la 0 46).trans ((rowD_grew h1 la 0 46).symm.trans q1), (hasRow_grew h3 la 0 46).trans ((hasRow_grew h1 la 0 46).symm.trans q2)⟩
theorem way_next {w w1 w2 : World} {v : Value} {xs : List Item} {y u : Item} (h1 : Grew w w1) (h2 : Grew w1 w2) (hy : w1.heap[w.heap.size]? = some (.cells (encItem y) 31 (0, 0))) (ho : Own w1 (w.heap.size + 1) 31 encItem 2 v xs) :
    Own (w2.putRow w.heap.size 0 (encItem u)) (w.heap.size + 1) 31 encItem 2 v xs ∧ Grew w (w2.putRow w.heap.size 0 (encItem u)) ∧ (w2.putRow w.heap.size 0 (encItem u)).heap[w.heap.size]? = some (.cells (encItem u) 31 (0, 0)) := by
  refine ⟨(ho.grew h2).keep fun b hb => putRow_other (by have := (ho.lt b hb).1; omega), (h1.trans h2).putRow (Nat.le_refl _) _ _, ?_⟩
  rw [putRow_heap (h2.block hy)]
  simp [putCells]
theorem way_any {w : World} {a : Nat} {S : MC} {fp : List Nat} (h : MRep w a S fp) (x : Item) :
    Calls Try.prog 45 #[.pointer (some ⟨a, 0, none⟩), .agg (encItem x)] w fun e w' =>
      ∃ v, e = .returned v ∧ Own w' w.heap.size 31 encItem 2 v (S.plan.way x) ∧ Grew w w' := by
  obtain ⟨bb, hs, rfl, hn, h1, h2, h3, h4, h5, h6⟩ := h
  obtain ⟨hA, hM, hR, hH, la⟩ := head_facts h1
  have H1 := Lib.hid h1
  have HW := Lib.hid (way_len S.plan x)
  clear h1 h2 h3 h4 h5 h6 hn hA hM
  go_enter Try.func45, Try.ntmps45
  go_wp2
  go_loopw [4, 5] (WayRel w S.plan x) (fun o _ _ => 20 - lenOf o)
  case atStart => exact ⟨[], x, true, rfl, by simp [wayLeft], Own.nil _ _ _ _ _, (Grew.refl _).alloc _, ha_new _ _⟩
  case round =>
    obtain ⟨done, y, b, rfl, hw, ho, hg, hy⟩ := hrel
    obtain ⟨_, _, p3, p4, p5, p6⟩ := block_facts hy
    have P3 : wr.rowD w.heap.size 0 2 = encItem y := (p3 0 2).trans (by simp)
    have P4 : wr.hasRow w.heap.size 0 2 = true := (p4 0 2).trans (by simp)
    have R1 := (rowD_grew hg la 0 46).trans hR
    have HO := Lib.hid ho
    have HG := Lib.hid hg
    have HY := Lib.hid hy
    have R2 := Lib.hid (hasRow_grew hg la 0 46)
    clear ho hg hy p3 p4
    cases b with
    | false =>
      have HX : Hid (done = S.plan.way x) := Lib.hid (by simpa [wayLeft] using hw)
      clear hw
      go_wp2
      go_ret
      exact ⟨_, rfl, by rw [← HX.out]; exact HO.out.low (by omega), HG.out⟩
    | true =>
      obtain ⟨hl, HX⟩ : done.length < 17 ∧ Hid (done ++ S.plan.way y = S.plan.way x) := by
        have e1 : done ++ S.plan.way y = S.plan.way x := by simpa [wayLeft] using hw
        have e2 := congrArg List.length e1
        rw [List.length_append, Plan.way, List.length_cons] at e2
        have := HW.out
        exact ⟨by omega, Lib.hid e1⟩
      clear hw
      go_wp2_with (at_builtin; refine app_own eltItem rfl _ _ rfl ((HO.out).alloc _) y wr.heap.size (ha_new _ _) rfl rfl (by omega) (by omega) (by simp; omega) ?_; intro v1 w1 hown1 hgr1; obtain ⟨g1, k1, HO1⟩ := app_world HG.out HO.out HY.out hown1 hgr1; clear hown1 hgr1)
      have HG1 := Lib.hid g1
      have HK1 := Lib.hid k1
      obtain ⟨_, _, q3, q4, q5, q6⟩ := block_facts k1
      have Q3 : w1.rowD w.heap.size 0 2 = encItem y := (q3 0 2).trans (by simp)
      have Q4 : w1.hasRow w.heap.size 0 2 = true := (q4 0 2).trans (by simp)
      have Q1 := (rowD_grew g1 la 0 46).trans hR
      have Q2 := (hasRow_grew g1 la 0 46).trans hH
      clear g1 k1 q3 q4 R1
      refine wp_region_mix [0, 1, 2, 3, 6, 7, 8, 9] (fun w' : World => w'.rowD a 0 46 = encPlan S.plan ∧ w'.hasRow a 0 46 = true) (by kernel_rfl) (by kernel_rfl) ⟨Q1, Q2⟩ (fun _ _ d _ _ h => by cases d <;> exact h) ?_
      iterate 4 ((refine wpTurn_head (v := ?_) rfl (by rfl) ?_ ?_; rotate_left; · intro w hSw; (try obtain ⟨hSw1, hSw2⟩ := hSw); go_simp; (try with_reducible rfl)); (try simp only [Act.put, List.setIfInBounds_toArray, List.set_cons_zero, List.set_cons_succ, Nat.reduceAdd]))
      change wpTurn _ _ _ _ _ _ _ _ _ w1.drew
      refine wpTurn_run (v := .agg (encItem y)) (w' := w1.drew) rfl rfl (by rfl) (by go_simp) (.inr ⟨Q1, Q2⟩) ?_
      (try simp only [Act.put, List.setIfInBounds_toArray, List.set_cons_zero, List.set_cons_succ, Nat.reduceAdd])
      refine wpTurn_call 64 _ _ rfl rfl rfl (by rfl) #[.agg (encPlan S.plan), .agg (encItem y)] (by simp [Act.eval]) (by intros; go_simp) ?_
      refine (Parent_any S.plan y _).mono ?_
      rintro e w2 ⟨rfl, z, rfl⟩
      have hg2 : Grew w1 (w1.drew.ext z) := by all_goals repeat (with_reducible first | exact Grew.refl _ | apply Grew.ext | apply Grew.alloc | apply Grew.drew)
      refine ⟨_, rfl, .inr ⟨(rowD_grew hg2 (Nat.lt_of_lt_of_le la HG1.out.size) 0 46).trans Q1, (hasRow_grew hg2 (Nat.lt_of_lt_of_le la HG1.out.size) 0 46).trans Q2⟩, ?_⟩
      (try simp only [Act.put, List.setIfInBounds_toArray, List.set_cons_zero, List.set_cons_succ, Nat.reduceAdd])
      have HG2 := Lib.hid hg2
      clear hg2
      cases hp : S.plan.parent y with
      | none =>
        have HP := Lib.hid hp
        clear hp
        simp only [parVal]
        iterate 4 ((refine wpTurn_head (v := ?_) rfl (by rfl) ?_ ?_; rotate_left; · intro w hSw; (try obtain ⟨hSw1, hSw2⟩ := hSw); go_simp; (try with_reducible rfl)); (try simp only [Act.put, List.setIfInBounds_toArray, List.set_cons_zero, List.set_cons_succ, Nat.reduceAdd]))
        refine wpTurn_do (w' := (w1.drew.ext z).putRow w.heap.size 0 (encItem ⟨0, 0⟩)) rfl rfl (by rfl) (by go_simp) (.inr (put_keeps la HG1.out HG2.out Q1 Q2 _)) ?_
        refine wpTurn_run (v := .bool false) (w' := (w1.drew.ext z).putRow w.heap.size 0 (encItem ⟨0, 0⟩)) rfl rfl (by rfl) (by go_simp) (.inr (put_keeps la HG1.out HG2.out Q1 Q2 _)) ?_
        (try simp only [Act.put, List.setIfInBounds_toArray, List.set_cons_zero, List.set_cons_succ, Nat.reduceAdd])
        refine wpTurn_end ?_
        have HE : Hid (WayRel w S.plan x v1 (.bool false) ((w1.drew.ext z).putRow w.heap.size 0 (encItem ⟨0, 0⟩))) := Lib.hid ⟨_, ⟨0, 0⟩, false, rfl, by simpa [wayLeft, way_none HP.out] using HX.out, way_next HG1.out HG2.out HK1.out HO1.out⟩
        go_roundw
        case rel => exact ⟨_, _, _, _, _, _, _, _, _, _, _, _, _, _, _, _, _, HE.out, rfl⟩
        case measure =>
          have e0 := HO.out.lenOf
          have e1 := HO1.out.lenOf
          rw [List.length_append, List.length_singleton] at e1
          show 20 - lenOf v1 < 20 - lenOf u4
          omega
      | some uc =>
        obtain ⟨u, c⟩ := uc
        have HP := Lib.hid hp
        clear hp
        simp only [parVal]
        iterate 4 ((refine wpTurn_head (v := ?_) rfl (by rfl) ?_ ?_; rotate_left; · intro w hSw; (try obtain ⟨hSw1, hSw2⟩ := hSw); go_simp; (try with_reducible rfl)); (try simp only [Act.put, List.setIfInBounds_toArray, List.set_cons_zero, List.set_cons_succ, Nat.reduceAdd]))
        refine wpTurn_do (w' := (w1.drew.ext z).putRow w.heap.size 0 (encItem u)) rfl rfl (by rfl) (by go_simp) (.inr (put_keeps la HG1.out HG2.out Q1 Q2 _)) ?_
        refine wpTurn_run (v := .bool true) (w' := (w1.drew.ext z).putRow w.heap.size 0 (encItem u)) rfl rfl (by rfl) (by go_simp) (.inr (put_keeps la HG1.out HG2.out Q1 Q2 _)) ?_
        (try simp only [Act.put, List.setIfInBounds_toArray, List.set_cons_zero, List.set_cons_succ, Nat.reduceAdd])
        refine wpTurn_end ?_
        have HE : Hid (WayRel w S.plan x v1 (.bool true) ((w1.drew.ext z).putRow w.heap.size 0 (encItem u))) := Lib.hid ⟨_, u, true, rfl, by simpa [wayLeft, way_some HP.out] using HX.out, way_next HG1.out HG2.out HK1.out HO1.out⟩
        go_roundw
        case rel => exact ⟨_, _, _, _, _, _, _, _, _, _, _, _, _, _, _, _, _, HE.out, rfl⟩
        case measure =>
          have e0 := HO.out.lenOf
          have e1 := HO1.out.lenOf
          rw [List.length_append, List.length_singleton] at e1
          show 20 - lenOf v1 < 20 - lenOf u4
          omega
end Go.Proofs.Ytngmdedoboccoaa
