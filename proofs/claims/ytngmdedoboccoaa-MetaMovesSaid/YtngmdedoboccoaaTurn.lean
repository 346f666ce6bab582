/- A region that draws its order: its readers may be taken first where what they read holds behind each operation that need not wait for them. -/
import Derived.Test.YtngmdedoboccoaaExt
import Derived.OrdersHeld
set_option linter.unusedVariables false
namespace Go.Proofs.Ytngmdedoboccoaa
open Go Go.RowKit
section
variable {P : Program} {ops : Array Oper} {Q : Exit → Act → World → Prop} {md : Region.Mode} {S : World → Prop} {late : Nat → Bool}

/-- Whatever order is picked from here on; S holds behind each operation that isn't late. -/
def wpAnyK (P : Program) (md : Region.Mode) (ops : Array Oper) (Q : Exit → Act → World → Prop) (S : World → Prop) (late : Nat → Bool) : Nat → Array Bool → Act → World → Prop
  | 0, listed, a, w => Region.ready md ops listed = [] ∧ Q .normal a w
  | fuel + 1, listed, a, w =>
    (Region.ready md ops listed = [] → Q .normal a w) ∧
    ∀ i ∈ Region.ready md ops listed, wpOp P ops Q i (fun a' w' => (late i = true ∨ S w') ∧ wpAnyK P md ops Q S late fuel (listed.setIfInBounds i true) a' w') a w

theorem wpAny_of_turn : ∀ (fuel : Nat) (listed : Array Bool) (a : Act) (w : World), wpAnyK P md ops Q S late fuel listed a w → wpAny P md ops Q fuel listed a w
  | 0, _, _, _, h => h
  | fuel + 1, _, _, _, h => ⟨h.1, fun i hi => wpOp_mono (fun a' w' h' => wpAny_of_turn fuel _ a' w' h'.2) (h.2 i hi)⟩

theorem wpAnyK_first {i : Nat} {oi : Oper} {v : Value} (hi : ops[i]? = some oi) (hsel : ∀ (j : Nat) (o : Oper) cs b, ops[j]? = some o → o.op ≠ .select cs b)
    (hlate : ∀ j oj, ops[j]? = some oj → late j = true → ∃ e ∈ oj.after, Region.binds md e = true ∧ e.on = i) (hli : late i = false)
    (hQ : ∀ c a w, Q (.panic c) (a.put oi.dst v) w → Q (.panic c) a w) :
    ∀ (fuel : Nat) (listed : Array Bool) (a : Act) (w : World),
      (∀ j oj, ops[j]? = some oj → j ≠ i → listed.getD j true = false → (∀ e ∈ oj.after, Region.binds md e = true → e.on ≠ i) → oi.apart ops oj = true) →
      i ∈ Region.ready md ops listed → YieldsIf P ops S oi v a → S w →
      wpAnyK P md ops Q S late fuel (listed.setIfInBounds i true) (a.put oi.dst v) w → wpAnyK P md ops Q S late (fuel + 1) listed a w := by
  intro fuel
  induction fuel with
  | zero =>
    intro listed a w _ hr hy hS H
    refine ⟨fun h => (by rw [h] at hr; cases hr), fun j hj => ?_⟩
    by_cases hji : j = i
    · subst hji; exact hy.wpOp hi hS ⟨.inr hS, H⟩
    · have := ready_mono hj hji
      rw [H.1] at this
      cases this
  | succ fuel ih =>
    intro listed a w hfree hr hy hS H
    refine ⟨fun h => (by rw [h] at hr; cases hr), fun j hj => ?_⟩
    by_cases hji : j = i
    · subst hji; exact hy.wpOp hi hS ⟨.inr hS, H⟩
    · have h1 := H.2 j (ready_mono hj hji)
      obtain ⟨hjun, oj, hoj, hall⟩ := mem_ready.1 hj
      have hnot : ∀ e ∈ oj.after, Region.binds md e = true → e.on ≠ i := fun e he hb heq => by
        have h1 := hall e he hb
        have h0 := (mem_ready.1 hr).1
        rw [heq] at h1
        rcases Nat.lt_or_ge i listed.size with h' | h'
        · simp [h'] at h0 h1; rw [h0] at h1; cases h1
        · simp [Array.getElem?_eq_none h'] at h1
      have hlj : late j = false := by
        cases hl : late j with
        | false => rfl
        | true =>
          obtain ⟨e, he, hb, hon⟩ := hlate j oj hoj hl
          exact absurd hon (hnot e he hb)
      have h2 := wpOp_putIf hoj (hfree j oj hoj hji hjun hnot) (fun cs b => hsel i oi cs b hi) (fun cs b => hsel j oj cs b hoj) hQ hy h1
      have hfree' : ∀ k ok, ops[k]? = some ok → k ≠ i → (listed.setIfInBounds j true).getD k true = false →
          (∀ e ∈ ok.after, Region.binds md e = true → e.on ≠ i) → oi.apart ops ok = true := fun k ok hk hki hun hno => by
        refine hfree k ok hk hki ?_ hno
        by_cases hjk : j = k
        · subst hjk; exact hjun
        · rw [getD_set_ne true hjk] at hun; exact hun
      refine wpOp_mono (fun a' w' h3 => ?_) h2
      have hS' : S w' := by
        rcases h3.2.1 with h | h
        · rw [hlj] at h; cases h
        · exact h
      refine ⟨.inr hS', ih (listed.setIfInBounds j true) a' w' hfree' (ready_mono hr (Ne.symm hji)) h3.1 hS' ?_⟩
      rw [Array.setIfInBounds_comm _ _ hji]
      exact h3.2.2

/-! ### The text's order serves every order -/
/-- The operations in the text's order: a reader yields its value in every world that meets S; any other one is carried out, and S holds behind it, if it isn't late. -/
def wpTurn (P : Program) (ops : Array Oper) (Q : Exit → Act → World → Prop) (S : World → Prop) (late head : Nat → Bool) : List Oper → Nat → Act → World → Prop
  | [], _, a, w => Q .normal a w
  | o :: rest, k, a, w =>
    match head k with
    | true => ∃ v, YieldsIf P ops S o v a ∧ wpTurn P ops Q S late head rest (k + 1) (a.put o.dst v) w
    | false => wpOp P ops Q k (fun a' w' => (late k = true ∨ S w') ∧ wpTurn P ops Q S late head rest (k + 1) a' w') a w
/-- May the text's order serve? -/
def turnB (md : Region.Mode) (ops : Array Oper) (late head : Nat → Bool) : Nat → Nat → Array Bool → Bool
  | 0, _, listed => (Region.ready md ops listed).isEmpty
  | g + 1, k, listed =>
    (match head k with
      | true => (Region.ready md ops listed).contains k && Region.free md ops listed k && !late k &&
          (List.range ops.size).all fun j => !late j || ((ops[j]?).any fun oj => oj.after.any fun e => Region.binds md e && e.on == k)
      | false => decide (Region.ready md ops listed = [k])) && turnB md ops late head g (k + 1) (listed.setIfInBounds k true)
theorem wpAnyK_text {head : Nat → Bool} (hs : Region.noSelect ops = true) (hQ : ∀ c a d v w, Q (.panic c) (Act.put a d v) w → Q (.panic c) a w) :
    ∀ (l : List Oper) (k : Nat) (listed : Array Bool) (a : Act) (w : World), (∀ j, l[j]? = ops[k + j]?) → turnB md ops late head l.length k listed = true → (S w ∨ ∀ j, k ≤ j → j < ops.size → head j = false) →
      wpTurn P ops Q S late head l k a w → (∀ j, k ≤ j → head j = true → late j = false) → (∀ j, k ≤ j → late j = true → ∀ i, j ≤ i → i < ops.size → head i = false) → wpAnyK P md ops Q S late l.length listed a w
  | [], _, _, _, _, _, hB, _, h, _, _ => ⟨by simpa [turnB] using hB, h⟩
  | o :: l, k, listed, a, w, hl, hB, hS, h, hlh, hll => by
    have h0 : ops[k]? = some o := by simpa using (hl 0).symm
    have hk : k < ops.size := (Array.getElem?_eq_some_iff.1 h0).1
    simp only [List.length_cons, turnB, Bool.and_eq_true] at hB
    obtain ⟨hB1, hB2⟩ := hB
    simp only [wpTurn] at h
    cases hh : head k with
    | true =>
      rw [hh] at h hB1
      simp only [Bool.and_eq_true] at hB1
      obtain ⟨⟨⟨hr, hf⟩, hnl⟩, hw⟩ := hB1
      obtain ⟨v, hy, hK⟩ := h
      have hSw : S w := by
        rcases hS with h | h
        · exact h
        · rw [h k (Nat.le_refl _) hk] at hh; cases hh
      refine wpAnyK_first h0 (Region.noSelect_spec hs) ?_ (by simpa using hnl) (fun c a w => hQ c a _ _ w) l.length listed a w (Region.free_spec h0 hf) (by simpa using hr) hy hSw ?_
      · intro j oj hj hlj
        have hjs : j < ops.size := (Array.getElem?_eq_some_iff.1 hj).1
        have := List.all_eq_true.1 hw j (List.mem_range.2 hjs)
        rw [hlj, hj] at this
        simp only [Bool.not_true, Bool.false_or, Option.any_some] at this
        obtain ⟨e, he, hb⟩ := Array.any_eq_true'.1 this
        simp only [Bool.and_eq_true, beq_iff_eq] at hb
        exact ⟨e, he, hb.1, hb.2⟩
      · exact wpAnyK_text hs hQ l (k + 1) _ _ w (fun j => by have := hl (j + 1); simpa [Nat.add_assoc, Nat.add_comm 1 j] using this) hB2 (.inl hSw) hK (fun j hj => hlh j (by omega)) (fun j hj => hll j (by omega))
    | false =>
      rw [hh] at h hB1
      simp only [decide_eq_true_eq] at hB1
      refine ⟨fun h1 => (by rw [hB1] at h1; cases h1), fun i hi => ?_⟩
      rw [hB1] at hi
      have hik : i = k := by simpa using hi
      subst hik
      refine wpOp_mono (fun a' w' h' => ⟨h'.1, ?_⟩) h
      refine wpAnyK_text hs hQ l (i + 1) _ a' w' (fun j => by have := hl (j + 1); simpa [Nat.add_assoc, Nat.add_comm 1 j] using this) hB2 ?_ h'.2 (fun j hj => hlh j (by omega)) (fun j hj => hll j (by omega))
      rcases h'.1 with hl' | hS'
      · exact .inr fun j hj hjs => hll i (Nat.le_refl _) hl' j (by omega) hjs
      · exact .inl hS'
def turnOk (ops : Array Oper) (late head : Nat → Bool) : Bool :=
  Region.noSelect ops && turnB .any ops late head ops.size 0 (Array.replicate ops.size false) && (List.range ops.size).all (fun j => !head j || !late j) &&
    (List.range ops.size).all (fun j => !late j || (List.range ops.size).all fun i => decide (i < j) || !head i)
/-- A region of readers, and of what is carried out between them: its text's order serves every order. n: the readers are the operations ahead of the n-th; those from the m-th on are late. -/
theorem wp_region_turn {id : Nat} {a : Act} {w : World} {l : List Oper} (n m : Nat) (S : World → Prop) (hm : P.follows .mixedOrders = true) (hB : turnOk l.toArray (fun j => decide (m ≤ j ∧ j < l.toArray.size)) (fun j => decide (j < n)) = true)
    (hS : S { w with drawn := w.drawn + 1 }) (hQ : ∀ c a d v w, Q (.panic c) (Act.put a d v) w → Q (.panic c) a w)
    (h : wpTurn P l.toArray Q S (fun j => decide (m ≤ j ∧ j < l.toArray.size)) (fun j => decide (j < n)) l 0 a { w with drawn := w.drawn + 1 }) : (Code.region id l.toArray true).wp P Q a w := by
  simp only [turnOk, Bool.and_eq_true] at hB
  obtain ⟨⟨⟨h1, h2⟩, h3⟩, h4⟩ := hB
  have h2' : turnB .any l.toArray (fun j => decide (m ≤ j ∧ j < l.toArray.size)) (fun j => decide (j < n)) l.length 0 (Array.replicate l.toArray.size false) = true := by simpa using h2
  have := wpAnyK_text (md := .any) h1 hQ l 0 _ a _ (by simp) h2' (.inl hS) h (fun j _ hj => by
      by_cases hjs : j < l.toArray.size
      · have := List.all_eq_true.1 h3 j (List.mem_range.2 hjs)
        rw [hj] at this
        simp only [Bool.not_true, Bool.false_or, Bool.not_eq_true'] at this
        exact this
      · rw [decide_eq_false_iff_not]; omega) (fun j _ hj i hji his => by
      have hjs : j < l.toArray.size := by simp at hj; omega
      have := List.all_eq_true.1 h4 j (List.mem_range.2 hjs)
      rw [hj] at this
      simp only [Bool.not_true, Bool.false_or] at this
      have := List.all_eq_true.1 this i (List.mem_range.2 his)
      have hn : decide (i < j) = false := by simp; omega
      rw [hn] at this
      simpa using this)
  refine wp_region_any hm ?_
  have h5 := wpAny_of_turn _ _ _ _ this
  simpa using h5
/-! ### The moves -/
theorem wpTurn_head {late head : Nat → Bool} {o : Oper} {rest : List Oper} {k : Nat} {a : Act} {w : World} {v : Value} (hk : head k = true) (hw : Region.wanted o (yielded ops a.tmps) = true)
    (hy : ∀ w', S w' → (execOp a.eval o).run P w' = .ok (.value v) w') (h : wpTurn P ops Q S late head rest (k + 1) (a.put o.dst v) w) : wpTurn P ops Q S late head (o :: rest) k a w := by
  simp only [wpTurn, hk]
  exact ⟨v, .inl ⟨hw, hy⟩, h⟩
theorem wpTurn_skip {late head : Nat → Bool} {o : Oper} {rest : List Oper} {k : Nat} {a : Act} {w : World} (hk : head k = true) (hw : Region.wanted o (yielded ops a.tmps) = false)
    (h : wpTurn P ops Q S late head rest (k + 1) (a.put o.dst undef) w) : wpTurn P ops Q S late head (o :: rest) k a w := by
  simp only [wpTurn, hk]
  exact ⟨undef, .inr ⟨hw, rfl⟩, h⟩
theorem wpTurn_move {late head : Nat → Bool} {o : Oper} {rest : List Oper} {k : Nat} {a : Act} {w : World} (x : Operand) (ho : o.op = .move x) (hk : head k = true) (hw : Region.wanted o (yielded ops a.tmps) = true)
    (h : wpTurn P ops Q S late head rest (k + 1) (a.put o.dst (a.eval x)) w) : wpTurn P ops Q S late head (o :: rest) k a w :=
  wpTurn_head hk hw (fun w' _ => by unfold execOp; rw [ho]; rfl) h
theorem wpTurn_op {late head : Nat → Bool} {o : Oper} {rest : List Oper} {k : Nat} {a : Act} {w : World} (hk : head k = false) (ho : ops[k]? = some o) (hw : Region.wanted o (yielded ops a.tmps) = true)
    (h : o.wp P a w (fun a' w' => (late k = true ∨ S w') ∧ wpTurn P ops Q S late head rest (k + 1) a' w') Q) : wpTurn P ops Q S late head (o :: rest) k a w := by
  simp only [wpTurn, hk, wpOp, ho, hw, if_true]
  exact .inl h
theorem wpTurn_tail {late head : Nat → Bool} : ∀ (l : List Oper) (k : Nat) (a : Act) (w : World), (∀ j, l[j]? = ops[k + j]?) → (∀ j, k ≤ j → j < ops.size → late j = true ∧ head j = false) → wpList P ops Q l a w → wpTurn P ops Q S late head l k a w
  | [], _, _, _, _, _, h => h
  | o :: l, k, a, w, hl, hj, h => by
    have h0 : ops[k]? = some o := by simpa using (hl 0).symm
    have hks : k < ops.size := (Array.getElem?_eq_some_iff.1 h0).1
    obtain ⟨h1, h2⟩ := hj k (Nat.le_refl _) hks
    simp only [wpTurn, h2]
    have : wpOp P ops Q k (wpList P ops Q l) a w := by unfold wpOp; simp only [h0]; exact h
    refine wpOp_mono (fun a' w' h' => ⟨.inl h1, ?_⟩) this
    exact wpTurn_tail l (k + 1) a' w' (fun j => by have := hl (j + 1); simpa [Nat.add_assoc, Nat.add_comm 1 j] using this) (fun j hj' => hj j (by omega)) h'
theorem wpTurn_rest {late head : Nat → Bool} {l : List Oper} {k : Nat} {a : Act} {w : World} (hl : l = ops.toList.drop k) (hj : ((List.range ops.size).all fun j => decide (j < k) || (late j && !head j)) = true) (h : wpList P ops Q l a w) : wpTurn P ops Q S late head l k a w := by
  refine wpTurn_tail l k a w (fun j => by subst hl; simp) (fun j h1 h2 => ?_) h
  have := List.all_eq_true.1 hj j (List.mem_range.2 h2)
  simpa [show ¬ j < k by omega] using this
/-- A call of a Go function, by its contract. -/
theorem upon_then (o : Oper) (a : Act) (K K' : Act → World → Prop) (r : Result Next) : o.upon P a K (Exit.then K' Q) r = o.upon P a K Q r := by
  cases r with
  | ok n w => cases n <;> rfl
  | halt h w => cases h <;> rfl
/-- An operation by a law on 'wpList'. -/
theorem wpTurn_one {late head : Nat → Bool} {o : Oper} {rest : List Oper} {k : Nat} {a : Act} {w : World} (hk : head k = false) (hok : ops[k]? = some o)
    (h : wpList P ops (Exit.then (fun a' w' => (late k = true ∨ S w') ∧ wpTurn P ops Q S late head rest (k + 1) a' w') Q) [o] a w) : wpTurn P ops Q S late head (o :: rest) k a w := by
  simp only [wpTurn, hk, wpOp, hok]
  simp only [wpList] at h
  split at h
  · rename_i hw
    rw [if_pos hw]
    rcases h with h | h
    · refine .inl ?_
      unfold Oper.wp at h ⊢
      rw [upon_then] at h
      exact h
    · exact .inr h
  · rename_i hw
    rw [if_neg hw]
    exact h
/-- An operation that runs here and now. -/
theorem wpTurn_run {late head : Nat → Bool} {o : Oper} {rest : List Oper} {k : Nat} {a : Act} {w w' : World} {v : Value} (hk : head k = false) (hok : ops[k]? = some o) (hw : Region.wanted o (yielded ops a.tmps) = true)
    (hr : (execOp a.eval o).run P w = .ok (.value v) w') (hs : late k = true ∨ S w') (h : wpTurn P ops Q S late head rest (k + 1) (a.put o.dst v) w') : wpTurn P ops Q S late head (o :: rest) k a w := by
  refine wpTurn_op hk hok hw ?_
  unfold Oper.wp
  rw [hr]
  exact ⟨hs, h⟩
theorem wpTurn_call {late head : Nat → Bool} {o : Oper} {rest : List Oper} {k : Nat} {a : Act} {w : World} (f : FuncId) (xs : Array Operand) (ts : Array TypeId) (ho : o.op = .call { callee := .value (.func f), args := xs, argTypes := ts }) (hk : head k = false) (hok : ops[k]? = some o) (hw : Region.wanted o (yielded ops a.tmps) = true)
    (args : Array Value) (hargs : xs.map a.eval = args) (hen : ∀ args w, (callFunc f args).run P w = .ok (.enter f args) w)
    (h : Calls P f args w fun e w' => ∃ v, e = .returned v ∧ (late k = true ∨ S w') ∧ wpTurn P ops Q S late head rest (k + 1) (a.put o.dst v) w') : wpTurn P ops Q S late head (o :: rest) k a w := by
  refine wpTurn_op hk hok hw ?_
  have hrun : (execOp a.eval o).run P w = .ok (.enter f args) w := by
    subst hargs
    unfold execOp
    rw [ho]
    show (callFunc f (#[] ++ xs.map a.eval ++ #[])).run P w = _
    simp [hen]
  unfold Oper.wp
  rw [hrun]
  refine h.mono fun e w' hh => ?_
  obtain ⟨v, rfl, h1, h2⟩ := hh
  exact ⟨h1, h2⟩
end
end Go.Proofs.Ytngmdedoboccoaa
