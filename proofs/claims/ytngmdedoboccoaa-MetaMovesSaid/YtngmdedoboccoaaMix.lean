/- A drawn region of readers and of what is carried out between them, no operation of which must be waited for. -/
import Derived.Test.YtngmdedoboccoaaTurn
set_option linter.unusedVariables false
namespace Go.Proofs.Ytngmdedoboccoaa
open Go Go.RowKit
section
variable {P : Program} {Q : Exit → Act → World → Prop}
/-- hd: the places of the readers; S: what they lean on, which holds behind every operation. -/
theorem wp_region_mix {id : Nat} {a : Act} {w : World} {l : List Oper} (hd : List Nat) (S : World → Prop) (hm : P.follows .mixedOrders = true) (hB : turnOk l.toArray (fun _ => false) (fun j => hd.contains j && decide (j < l.toArray.size)) = true)
    (hS : S { w with drawn := w.drawn + 1 }) (hQ : ∀ c a d v w, Q (.panic c) (Act.put a d v) w → Q (.panic c) a w)
    (h : wpTurn P l.toArray Q S (fun _ => false) (fun j => hd.contains j && decide (j < l.toArray.size)) l 0 a { w with drawn := w.drawn + 1 }) : (Code.region id l.toArray true).wp P Q a w := by
  simp only [turnOk, Bool.and_eq_true] at hB
  obtain ⟨⟨⟨h1, h2⟩, h3⟩, h4⟩ := hB
  have h2' : turnB .any l.toArray (fun _ => false) (fun j => hd.contains j && decide (j < l.toArray.size)) l.length 0 (Array.replicate l.toArray.size false) = true := by simpa using h2
  have := wpAnyK_text (md := .any) h1 hQ l 0 _ a _ (by simp) h2' (.inl hS) h (fun j _ hj => rfl) (fun j _ hj i hji his => by cases hj)
  refine wp_region_any hm ?_
  have h5 := wpAny_of_turn _ _ _ _ this
  simpa using h5
variable {ops : Array Oper} {S : World → Prop}
/-- An operation that stores, here and now. -/
theorem wpTurn_do {late head : Nat → Bool} {o : Oper} {rest : List Oper} {k : Nat} {a : Act} {w w' : World} (hk : head k = false) (hok : ops[k]? = some o) (hw : Region.wanted o (yielded ops a.tmps) = true)
    (hr : (execOp a.eval o).run P w = .ok .skip w') (hs : late k = true ∨ S w') (h : wpTurn P ops Q S late head rest (k + 1) (a.put o.dst undef) w') : wpTurn P ops Q S late head (o :: rest) k a w := by
  refine wpTurn_op hk hok hw ?_
  unfold Oper.wp
  rw [hr]
  exact ⟨hs, h⟩
theorem wpTurn_end {late head : Nat → Bool} {k : Nat} {a : Act} {w : World} (h : Q .normal a w) : wpTurn P ops Q S late head [] k a w := h
end

/-! ### A drawn region as a game: readers first, and where several others may come, all orders of these -/
def Nrm (K : Act → World → Prop) (e : Exit) (a : Act) (w : World) : Prop := e = .normal ∧ K a w
/-- From here on, whatever comes next; S holds behind every operation. -/
def wpG (P : Program) (ops : Array Oper) (K : Act → World → Prop) (S : World → Prop) (fuel : Nat) (listed : Array Bool) (a : Act) (w : World) : Prop :=
  wpAnyK P .any ops (Nrm K) S (fun _ => false) fuel listed a w
section
variable {P : Program} {ops : Array Oper} {K : Act → World → Prop} {S : World → Prop}
theorem wp_region_game {id : Nat} {Q : Exit → Act → World → Prop} {a : Act} {w : World} (K : Act → World → Prop) (S : World → Prop) (hm : P.follows .mixedOrders = true)
    (hk : ∀ a' w', K a' w' → Q .normal a' w') (h : wpG P ops K S ops.size (Array.replicate ops.size false) a w.drew) : (Code.region id ops true).wp P Q a w := by
  refine Code.wp_mono (Q := Nrm K) (fun e a w h => by obtain ⟨rfl, h⟩ := h; exact hk a w h) ?_
  have h5 := wpAny_of_turn _ _ _ _ h
  have : ops = ops.toList.toArray := by simp
  rw [this]
  refine wp_region_any hm ?_
  simpa using h5
/-- A region without more ado: what is behind it is asked at each end. -/
theorem wp_region_game' {id : Nat} {Q : Exit → Act → World → Prop} {a : Act} {w : World} (S : World → Prop) (hm : P.follows .mixedOrders = true)
    (h : wpG P ops (Q .normal) S ops.size (Array.replicate ops.size false) a w.drew) : (Code.region id ops true).wp P Q a w :=
  wp_region_game (Q .normal) S hm (fun _ _ h => h) h
theorem game_head {fuel : Nat} {listed : Array Bool} {a : Act} {w : World} (i : Nat) {oi : Oper} {v : Value} (hi : ops[i]? = some oi) (hs : Region.noSelect ops = true) (hf : Region.free .any ops listed i = true) (hr : (Region.ready .any ops listed).contains i = true)
    (hw : Region.wanted oi (yielded ops a.tmps) = true) (hS : S w) (hy : ∀ w', S w' → (execOp a.eval oi).run P w' = .ok (.value v) w') (h : wpG P ops K S fuel (listed.setIfInBounds i true) (a.put oi.dst v) w) : wpG P ops K S (fuel + 1) listed a w :=
  wpAnyK_first hi (Region.noSelect_spec hs) (fun _ _ _ h => by cases h) rfl (fun c a w h => by cases h.1) fuel listed a w (Region.free_spec hi hf) (by simpa using hr) (.inl ⟨hw, hy⟩) hS h
theorem game_skip {fuel : Nat} {listed : Array Bool} {a : Act} {w : World} (i : Nat) {oi : Oper} (hi : ops[i]? = some oi) (hs : Region.noSelect ops = true) (hf : Region.free .any ops listed i = true) (hr : (Region.ready .any ops listed).contains i = true)
    (hw : Region.wanted oi (yielded ops a.tmps) = false) (hS : S w) (h : wpG P ops K S fuel (listed.setIfInBounds i true) (a.put oi.dst undef) w) : wpG P ops K S (fuel + 1) listed a w :=
  wpAnyK_first hi (Region.noSelect_spec hs) (fun _ _ _ h => by cases h) rfl (fun c a w h => by cases h.1) fuel listed a w (Region.free_spec hi hf) (by simpa using hr) (.inr ⟨hw, rfl⟩) hS h
/-- The operation i comes next. -/
def wpG1 (P : Program) (ops : Array Oper) (K : Act → World → Prop) (S : World → Prop) (fuel : Nat) (listed : Array Bool) (i : Nat) (a : Act) (w : World) : Prop :=
  wpOp P ops (Nrm K) i (fun a' w' => S w' ∧ wpG P ops K S fuel (listed.setIfInBounds i true) a' w') a w
theorem game_pick {fuel : Nat} {listed : Array Bool} {a : Act} {w : World} (hne : (Region.ready .any ops listed).isEmpty = false) (h : ∀ i ∈ Region.ready .any ops listed, wpG1 P ops K S fuel listed i a w) : wpG P ops K S (fuel + 1) listed a w := by
  unfold wpG wpAnyK
  exact ⟨fun h0 => (by rw [h0] at hne; cases hne), fun i hi => wpOp_mono (fun a' w' h' => ⟨.inr h'.1, h'.2⟩) (h i hi)⟩
theorem game_one {fuel : Nat} {listed : Array Bool} {a : Act} {w : World} (i : Nat) (hr : (Region.ready .any ops listed == [i]) = true) (h : wpG1 P ops K S fuel listed i a w) : wpG P ops K S (fuel + 1) listed a w := by
  have hr := eq_of_beq hr
  refine game_pick (by rw [hr]; rfl) fun j hj => ?_
  rw [hr] at hj
  rw [List.mem_singleton.1 hj]
  exact h
theorem game_two {fuel : Nat} {listed : Array Bool} {a : Act} {w : World} (i j : Nat) (hr : (Region.ready .any ops listed == [i, j]) = true) (h1 : wpG1 P ops K S fuel listed i a w) (h2 : wpG1 P ops K S fuel listed j a w) : wpG P ops K S (fuel + 1) listed a w := by
  have hr := eq_of_beq hr
  refine game_pick (by rw [hr]; rfl) fun k hk => ?_
  rw [hr] at hk
  rcases List.mem_cons.1 hk with rfl | hk
  · exact h1
  · rw [List.mem_singleton.1 hk]; exact h2
theorem game_end {listed : Array Bool} {a : Act} {w : World} (hr : (Region.ready .any ops listed).isEmpty = true) (h : K a w) : wpG P ops K S 0 listed a w := by
  unfold wpG wpAnyK
  exact ⟨by simpa using hr, rfl, h⟩
theorem game_run {fuel : Nat} {listed : Array Bool} {a : Act} {w w' : World} {i : Nat} {oi : Oper} {v : Value} (hi : ops[i]? = some oi) (hw : Region.wanted oi (yielded ops a.tmps) = true)
    (hr : (execOp a.eval oi).run P w = .ok (.value v) w') (hs : S w') (h : wpG P ops K S fuel (listed.setIfInBounds i true) (a.put oi.dst v) w') : wpG1 P ops K S fuel listed i a w := by
  unfold wpG1 wpOp
  simp only [hi, hw, if_true]
  refine .inl ?_
  unfold Oper.wp
  rw [hr]
  exact ⟨hs, h⟩
theorem game_do {fuel : Nat} {listed : Array Bool} {a : Act} {w w' : World} {i : Nat} {oi : Oper} (hi : ops[i]? = some oi) (hw : Region.wanted oi (yielded ops a.tmps) = true)
    (hr : (execOp a.eval oi).run P w = .ok .skip w') (hs : S w') (h : wpG P ops K S fuel (listed.setIfInBounds i true) (a.put oi.dst undef) w') : wpG1 P ops K S fuel listed i a w := by
  unfold wpG1 wpOp
  simp only [hi, hw, if_true]
  refine .inl ?_
  unfold Oper.wp
  rw [hr]
  exact ⟨hs, h⟩
theorem game_call {fuel : Nat} {listed : Array Bool} {a : Act} {w : World} {i : Nat} {oi : Oper} (f : FuncId) {xs : Array Operand} {ts : Array TypeId} (hi : ops[i]? = some oi) (ho : oi.op = .call { callee := .value (.func f), args := xs, argTypes := ts }) (hw : Region.wanted oi (yielded ops a.tmps) = true)
    (args : Array Value) (hargs : xs.map a.eval = args) (hen : ∀ args w, (callFunc f args).run P w = .ok (.enter f args) w)
    (h : Calls P f args w fun e w' => ∃ v, e = .returned v ∧ S w' ∧ wpG P ops K S fuel (listed.setIfInBounds i true) (a.put oi.dst v) w') : wpG1 P ops K S fuel listed i a w := by
  unfold wpG1 wpOp
  simp only [hi, hw, if_true]
  refine .inl ?_
  have hrun : (execOp a.eval oi).run P w = .ok (.enter f args) w := by
    subst hargs
    unfold execOp
    rw [ho]
    show (callFunc f (#[] ++ xs.map a.eval ++ #[])).run P w = _
    simp [hen]
  unfold Oper.wp
  rw [hrun]
  refine h.mono fun e w' hh => ?_
  obtain ⟨v, rfl, h1, h2⟩ := hh
  exact ⟨h1, h2⟩
/-- An operation by a law on 'wpList'. -/
theorem game_list {fuel : Nat} {listed : Array Bool} {a : Act} {w : World} {i : Nat} {oi : Oper} (hi : ops[i]? = some oi)
    (h : wpList P ops (Exit.then (fun a' w' => S w' ∧ wpG P ops K S fuel (listed.setIfInBounds i true) a' w') (Nrm K)) [oi] a w) : wpG1 P ops K S fuel listed i a w := by
  unfold wpG1 wpOp
  simp only [hi]
  simp only [wpList] at h
  split at h
  · rename_i hw
    rw [if_pos hw]
    rcases h with h | h
    · refine .inl ?_
      unfold Oper.wp at h ⊢
      rw [upon_then] at h
      exact h
    · exact .inr h
  · rename_i hw
    rw [if_neg hw]
    exact h
end
end Go.Proofs.Ytngmdedoboccoaa
