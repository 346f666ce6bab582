/- A drawn region whose first operations are quiet (they may call what leaves a world of the class), in any order, and whose last ones wait for all of these and go one after the other. -/
import Derived.Test.YtngmdedoboccoaaTurn
import Derived.Deep.Quiet
import Derived.StillTail
set_option linter.unusedVariables false
namespace Go.Proofs.Ytngmdedoboccoaa
open Go Go.RowKit
section
variable {P : Program} {ops : Array Oper} {md : Region.Mode} {C : World → Prop}

def wpAnyT (P : Program) (md : Region.Mode) (ops : Array Oper) (C : World → Prop) (n : Nat) (T : Array Bool → Act → Prop) : Nat → Array Bool → Act → Prop
  | 0, listed, a => (∀ j, j < n → listed.getD j true = true) ∧ T listed a
  | fuel + 1, listed, a => Region.ready md ops listed ≠ [] ∧ ∀ i ∈ Region.ready md ops listed, qOp P ops C i (wpAnyT P md ops C n T fuel (listed.setIfInBounds i true)) a
theorem wpAny_of_T {n g : Nat} {T : Array Bool → Act → Prop} {Q' : Exit → Act → World → Prop} (hT : ∀ listed a w, C w → T listed a → wpAny P md ops Q' g listed a w) : ∀ (fuel : Nat) (listed : Array Bool) (a : Act) (w : World), C w →
    wpAnyT P md ops C n T fuel listed a → wpAny P md ops Q' (fuel + g) listed a w
  | 0, listed, a, w, hw, h => by rw [Nat.zero_add]; exact hT _ _ _ hw h.2
  | fuel + 1, listed, a, w, hw, h => by
    rw [show fuel + 1 + g = (fuel + g) + 1 by omega]
    exact ⟨fun h0 => absurd h0 h.1, fun i hi => wpOp_of_qOp hw (fun a' w' hw' => wpAny_of_T hT fuel _ a' w' hw') (h.2 i hi)⟩
theorem wpAnyT_first {n : Nat} {T : Array Bool → Act → Prop} {i : Nat} {oi : Oper} {v : Value} (hi : ops[i]? = some oi) (hin : i < n) (hsel : ∀ (j : Nat) (o : Oper) cs b, ops[j]? = some o → o.op ≠ .select cs b)
    (hlate : ∀ j oj, ops[j]? = some oj → n ≤ j → ∃ e ∈ oj.after, Region.binds md e = true ∧ e.on = i) :
    ∀ (fuel : Nat) (listed : Array Bool) (a : Act),
      (∀ j oj, ops[j]? = some oj → j ≠ i → listed.getD j true = false → (∀ e ∈ oj.after, Region.binds md e = true → e.on ≠ i) → oi.apart ops oj = true) →
      i ∈ Region.ready md ops listed → YieldsIn P ops C oi v a →
      wpAnyT P md ops C n T fuel (listed.setIfInBounds i true) (a.put oi.dst v) → wpAnyT P md ops C n T (fuel + 1) listed a := by
  intro fuel
  have hw : ∀ listed : Array Bool, i ∈ Region.ready md ops listed → ∀ j ∈ Region.ready md ops listed, (∃ oj, ops[j]? = some oj ∧ ∀ e ∈ oj.after, Region.binds md e = true → e.on ≠ i) ∧ j < n ∧ listed.getD j true = false := fun listed hr j hj => by
    obtain ⟨hjun, oj, hoj, hall⟩ := mem_ready.1 hj
    have hnot : ∀ e ∈ oj.after, Region.binds md e = true → e.on ≠ i := fun e he hb heq => by
      have h1 := hall e he hb
      have h0 := (mem_ready.1 hr).1
      rw [heq] at h1
      rcases Nat.lt_or_ge i listed.size with h' | h'
      · simp [h'] at h0 h1; rw [h0] at h1; cases h1
      · simp [Array.getElem?_eq_none h'] at h1
    refine ⟨⟨oj, hoj, hnot⟩, ?_, hjun⟩
    rcases Nat.lt_or_ge j n with h | h
    · exact h
    · obtain ⟨e, he, hb, hon⟩ := hlate j oj hoj h
      exact absurd hon (hnot e he hb)
  induction fuel with
  | zero =>
    intro listed a _ hr hy H
    refine ⟨fun h => (by rw [h] at hr; cases hr), fun j hj => ?_⟩
    by_cases hji : j = i
    · subst hji; exact hy.qOp hi H
    · obtain ⟨_, hjn, hjun⟩ := hw listed hr j hj
      have := H.1 j hjn
      rw [getD_set_ne true (Ne.symm hji), hjun] at this
      cases this
  | succ fuel ih =>
    intro listed a hfree hr hy H
    refine ⟨fun h => (by rw [h] at hr; cases hr), fun j hj => ?_⟩
    by_cases hji : j = i
    · subst hji; exact hy.qOp hi H
    · have h1 := H.2 j (ready_mono hj hji)
      obtain ⟨⟨oj, hoj, hnot⟩, hjn, hjun⟩ := hw listed hr j hj
      have h2 := qOp_put hoj (hfree j oj hoj hji hjun hnot) (fun cs b => hsel i oi cs b hi) (fun cs b => hsel j oj cs b hoj) hy h1
      have hfree' : ∀ k ok, ops[k]? = some ok → k ≠ i → (listed.setIfInBounds j true).getD k true = false →
          (∀ e ∈ ok.after, Region.binds md e = true → e.on ≠ i) → oi.apart ops ok = true := fun k ok hk hki hun hno => by
        refine hfree k ok hk hki ?_ hno
        by_cases hjk : j = k
        · subst hjk; exact hjun
        · rw [getD_set_ne true hjk] at hun; exact hun
      refine qOp_mono (fun a' h3 => ih (listed.setIfInBounds j true) a' hfree' (ready_mono hr (Ne.symm hji)) h3.1 ?_) h2
      rw [Array.setIfInBounds_comm _ _ hji]
      exact h3.2
def headB (md : Region.Mode) (ops : Array Oper) (n : Nat) : Nat → Nat → Array Bool → Bool
  | 0, _, listed => ((List.range n).all fun j => listed.getD j true) && Region.seqB md ops (ops.size - n) n listed
  | f + 1, k, listed => (Region.ready md ops listed).contains k && Region.free md ops listed k && headB md ops n f (k + 1) (listed.setIfInBounds k true)
def waitB (md : Region.Mode) (ops : Array Oper) (n : Nat) : Bool :=
  (List.range ops.size).all fun j => decide (j < n) || (List.range n).all fun i => (ops[j]?).any fun oj => oj.after.any fun e => Region.binds md e && e.on == i
theorem wpAnyT_lex {n : Nat} {Lq : Act → Prop} (hs : Region.noSelect ops = true) (hwt : waitB md ops n = true) : ∀ (l : List Oper) (k : Nat) (listed : Array Bool) (a : Act), (∀ j, j < l.length → l[j]? = ops[k + j]?) → k + l.length = n →
    headB md ops n l.length k listed = true → wpQuiet P ops C Lq l a → wpAnyT P md ops C n (fun listed' a' => Region.seqB md ops (ops.size - n) n listed' = true ∧ Lq a') l.length listed a
  | [], k, listed, a, _, _, hB, h => by
    simp only [List.length_nil, headB, Bool.and_eq_true] at hB
    exact ⟨fun j hj => List.all_eq_true.1 hB.1 j (List.mem_range.2 hj), hB.2, h⟩
  | o :: l, k, listed, a, hl, hk, hB, h => by
    have h0 : ops[k]? = some o := by simpa using (hl 0 (by simp)).symm
    simp only [List.length_cons, headB, Bool.and_eq_true] at hB
    obtain ⟨⟨hr, hf⟩, hB'⟩ := hB
    have hkn : k < n := by simp only [List.length_cons] at hk; omega
    have hst : qOp P ops C k (wpQuiet P ops C Lq l) a := by unfold qOp; simp only [h0]; exact h
    obtain ⟨v, hy, hK⟩ := yieldsIn_of_qOp h0 hst
    refine wpAnyT_first h0 hkn (Region.noSelect_spec hs) (fun j oj hj hjn => ?_) l.length listed a (Region.free_spec h0 hf) (by simpa using hr) hy
      (wpAnyT_lex hs hwt l (k + 1) _ _ (fun j hj => by have := hl (j + 1) (by simp; omega); simpa [Nat.add_assoc, Nat.add_comm 1 j] using this) (by simp only [List.length_cons] at hk; omega) hB' hK)
    have hjs : j < ops.size := (Array.getElem?_eq_some_iff.1 hj).1
    have h1 := List.all_eq_true.1 hwt j (List.mem_range.2 hjs)
    rw [decide_eq_false (by omega), Bool.false_or] at h1
    have h2 := List.all_eq_true.1 h1 k (List.mem_range.2 hkn)
    rw [hj, Option.any_some] at h2
    obtain ⟨e, he, hb⟩ := Array.any_eq_true'.1 h2
    simp only [Bool.and_eq_true, beq_iff_eq] at hb
    exact ⟨e, he, hb.1, hb.2⟩
def quietTailB (ops : Array Oper) (n : Nat) : Bool := Region.noSelect ops && decide (n ≤ ops.size) && waitB .any ops n && headB .any ops n n 0 (Array.replicate ops.size false)
/-- A quiet head, then what waits for all of it. -/
theorem wp_region_quiet_tail {id : Nat} {Q : Exit → Act → World → Prop} {a : Act} {w : World} {l : List Oper} (n : Nat) (hm : P.follows .mixedOrders = true) (hB : quietTailB l.toArray n = true) (hC : C { w with drawn := w.drawn + 1 })
    (h : wpQuiet P l.toArray C (fun a' => ∀ w', C w' → wpList P l.toArray Q (l.drop n) a' w') (l.take n) a) : (Code.region id l.toArray true).wp P Q a w := by
  simp only [quietTailB, Bool.and_eq_true, decide_eq_true_eq] at hB
  obtain ⟨⟨⟨hs, hn⟩, hw⟩, hh⟩ := hB
  have hn' : n ≤ l.length := by simpa using hn
  have htl : (l.take n).length = n := by simp; omega
  have hdl : (l.drop n).length = l.toArray.size - n := by simp
  have H := wpAnyT_lex (P := P) (C := C) hs hw (l.take n) 0 _ a (fun j hj => by
    have hj' : j < n := by rw [htl] at hj; exact hj
    simp [hj']) (by simpa using htl) (by rw [htl]; exact hh) h
  refine wp_region_any hm ?_
  have := wpAny_of_T (Q' := Q) (g := l.toArray.size - n) (fun listed a' w' hw' hL => by
    have := wpAny_of_seq (md := .any) (Q' := Q) (l.drop n) n listed a' w' (fun j => by simp [List.getElem?_drop]) (by rw [hdl]; exact hL.1) (hL.2 w' hw')
    rwa [hdl] at this) _ _ _ _ hC H
  rw [htl, show n + (l.toArray.size - n) = l.toArray.size by omega] at this
  exact this
theorem wp_region_calm_tail {id : Nat} {Q : Exit → Act → World → Prop} {a : Act} {w : World} {l : List Oper} (n : Nat) (hm : P.follows .mixedOrders = true) (hB : quietTailB l.toArray n = true)
    (h : wpQuiet P l.toArray (fun w' => ∃ n, w' = w.ext n) (fun a' => ∀ w', (∃ n, w' = w.ext n) → wpList P l.toArray Q (l.drop n) a' w') (l.take n) a) : (Code.region id l.toArray true).wp P Q a w :=
  wp_region_quiet_tail (C := fun w' => ∃ n, w' = w.ext n) n hm hB ⟨⟨#[], w.drawn + 1⟩, by simp only [World.ext, Array.append_empty]⟩ h
theorem wp_region_calm_tail_ext {id : Nat} {Q : Exit → Act → World → Prop} {a : Act} {w : World} {x : Ext} {l : List Oper} (n : Nat) (hm : P.follows .mixedOrders = true) (hB : quietTailB l.toArray n = true)
    (h : wpQuiet P l.toArray (fun w' => ∃ n, w' = w.ext n) (fun a' => ∀ w', (∃ n, w' = w.ext n) → wpList P l.toArray Q (l.drop n) a' w') (l.take n) a) : (Code.region id l.toArray true).wp P Q a (w.ext x) :=
  wp_region_quiet_tail (C := fun w' => ∃ n, w' = w.ext n) n hm hB ⟨⟨x.objs, x.d + 1⟩, rfl⟩ h
end
end Go.Proofs.Ytngmdedoboccoaa
