/- The caches as plain data: what each call keeps, what it changes. -/
import Derived.Test.YtngmdedoboccoaaVic3
set_option linter.unusedVariables false
set_option linter.unusedSimpArgs false
namespace Go.Proofs.Ytngmdedoboccoaa
open Go

theorem set_flatten {α : Type} : ∀ {l : List (List α)} {k : Nat} {xs : List α} (ys : List α), l[k]? = some xs → ((l.set k ys).flatten ++ xs).Perm (l.flatten ++ ys)
  | [], k, xs, ys, h => by simp at h
  | z :: l, 0, xs, ys, h => by
    simp at h
    subst h
    simp only [List.set_cons_zero, List.flatten_cons]
    refine (List.perm_append_comm.append_right _).trans ?_
    rw [List.append_assoc]
    refine (List.perm_append_comm.append_left _).trans ?_
    rw [← List.append_assoc]
    exact (List.perm_append_comm (l₁ := l.flatten) (l₂ := z)).append_right _ |>.trans (by simp)
  | z :: l, k + 1, xs, ys, h => by
    simp at h
    have ih := set_flatten ys h
    simp only [List.set_cons_succ, List.flatten_cons, List.append_assoc]
    exact ih.append_left z
theorem erase_perm {α : Type} : ∀ {xs : List α} {i : Nat} {q : α}, xs[i]? = some q → xs.Perm (q :: xs.eraseIdx i)
  | [], i, q, h => by simp at h
  | x :: xs, 0, q, h => by simp at h; subst h; simp
  | x :: xs, i + 1, q, h => by
    simp at h
    have := erase_perm h
    simp only [List.eraseIdx_cons_succ]
    exact (this.cons x).trans (.swap ..)
theorem findBanks_none {x : Item} : ∀ {l : List (List Cached)}, findBanks l x = none ↔ ∀ q ∈ l.flatten, q.Item ≠ x
  | [] => by simp [findBanks]
  | ys :: l => by
    simp only [findBanks, List.flatten_cons, List.mem_append]
    cases hf : ys.findIdx? (fun y => decide (y.Item = x)) with
    | some j =>
      rw [List.findIdx?_eq_some_iff_getElem] at hf
      obtain ⟨hl, he, _⟩ := hf
      simp only [reduceCtorEq, false_iff]
      intro h
      exact h ys[j] (.inl (List.getElem_mem hl)) (by simpa using he)
    | none =>
      rw [List.findIdx?_eq_none_iff] at hf
      simp only [Option.map_eq_none_iff, findBanks_none (l := l)]
      constructor
      · rintro h q (hq | hq)
        · simpa using hf q hq
        · exact h q hq
      · intro h q hq
        exact h q (.inr hq)
/-- All that is cached, in no order. -/
def MC.all (S : MC) : List Cached := S.banks.flatten
theorem find_none {S : MC} {x : Item} : S.find x = none ↔ ∀ q ∈ S.all, q.Item ≠ x := findBanks_none
theorem find_some {S : MC} {x : Item} {k i : Nat} (h : S.find x = some (k, i)) : ∃ xs q, S.banks[k]? = some xs ∧ xs[i]? = some q ∧ q.Item = x ∧ S.at k i = q ∧ q ∈ S.all := by
  obtain ⟨xs, q, h1, h2, h3⟩ := findBanks_some h
  refine ⟨xs, q, h1, h2, h3, by simp [MC.at, h1, h2], ?_⟩
  exact List.mem_flatten.2 ⟨xs, List.mem_of_getElem? h1, List.mem_of_getElem? h2⟩
theorem take_all {S : MC} {k i : Nat} {xs : List Cached} {q : Cached} (h1 : S.banks[k]? = some xs) (h2 : xs[i]? = some q) : S.all.Perm (q :: (S.take k i).all) := by
  have h3 := set_flatten (xs.eraseIdx i) h1
  have e : (S.take k i).all = (S.banks.set k (xs.eraseIdx i)).flatten := by simp [MC.all, MC.take, h1]
  rw [e]
  have h4 : ((S.banks.set k (xs.eraseIdx i)).flatten ++ xs).Perm ((S.banks.set k (xs.eraseIdx i)).flatten ++ (q :: xs.eraseIdx i)) := (erase_perm h2).append_left _
  have h5 := h3.symm.trans h4
  have h6 : ((S.banks.set k (xs.eraseIdx i)).flatten ++ (q :: xs.eraseIdx i)).Perm (q :: (S.banks.set k (xs.eraseIdx i)).flatten ++ xs.eraseIdx i) := by
    rw [List.cons_append]; exact List.perm_middle
  exact (List.perm_append_right_iff _).1 (h5.trans h6)
theorem last_all {S : MC} {q : Cached} {k : Nat} {xs : List Cached} (hk : q.Bank = k) (h1 : S.banks[k]? = some xs) : (S.last q).all.Perm (q :: S.all) := by
  have e : (S.last q).all = (S.banks.set k (xs ++ [q])).flatten := by simp [MC.all, MC.last, hk, h1]
  rw [e]
  have h3 := set_flatten (xs ++ [q]) h1
  have h4 : (S.banks.flatten ++ (xs ++ [q])).Perm ((q :: S.banks.flatten) ++ xs) := by
    rw [← List.append_assoc]
    refine List.perm_append_comm.trans ?_
    simp
  exact (List.perm_append_right_iff _).1 (h3.trans h4)
theorem there_iff {S : MC} {b : Int} : S.there b = true ↔ 0 ≤ b ∧ b < S.banks.length := by simp [MC.there]
theorem there_get {S : MC} {b : Int} (h : S.there b = true) : ∃ (k : Nat) (xs : List Cached), b = k ∧ S.banks[k]? = some xs ∧ S.bank b = xs := by
  obtain ⟨h1, h2⟩ := there_iff.1 h
  obtain ⟨k, rfl⟩ := Int.eq_ofNat_of_zero_le h1
  have hk : k < S.banks.length := by omega
  exact ⟨k, S.banks[k], rfl, List.getElem?_eq_getElem hk, by simp [MC.bank, hk]⟩
/-- One cached item for another one. -/
def Swapped (S S' : MC) (q q' : Cached) : Prop := ∃ rest, S.all.Perm (q :: rest) ∧ S'.all.Perm (q' :: rest)

/-! ### What holds of the caches stays so -/
theorem Ok.take {S : MC} (ok : S.Ok) {k i : Nat} {xs : List Cached} (h1 : S.banks[k]? = some xs) : (S.take k i).Ok := by
  refine ⟨ok.few, by simpa [MC.take] using ok.len, fun j ys hj => ?_⟩
  simp only [MC.take, h1, List.getD_eq_getElem?_getD, Option.getD_some] at hj
  by_cases hjk : k = j
  · subst hjk
    have hkl : k < S.banks.length := (List.getElem?_eq_some_iff.1 h1).1
    rw [List.getElem?_set_self hkl] at hj
    injection hj with hj
    subst hj
    obtain ⟨b1, b2⟩ := ok.bank k xs h1
    refine ⟨fun q hq => b1 q (List.mem_of_mem_eraseIdx hq), ?_⟩
    have := List.length_eraseIdx_le xs i
    show ((xs.eraseIdx i).length : Int) ≤ S.plan.Meta
    omega
  · rw [List.getElem?_set_ne hjk] at hj
    exact ok.bank j ys hj
theorem Ok.last {S : MC} (ok : S.Ok) {q : Cached} {k : Nat} {xs : List Cached} (hk : q.Bank = k) (h1 : S.banks[k]? = some xs) (hl : (xs.length : Int) < S.plan.Meta) : (S.last q).Ok := by
  refine ⟨ok.few, by simpa [MC.last] using ok.len, fun j ys hj => ?_⟩
  simp only [MC.last, hk, Int.toNat_natCast, h1, List.getD_eq_getElem?_getD, Option.getD_some] at hj
  by_cases hjk : k = j
  · subst hjk
    have hkl : k < S.banks.length := (List.getElem?_eq_some_iff.1 h1).1
    rw [List.getElem?_set_self hkl] at hj
    injection hj with hj
    subst hj
    obtain ⟨b1, b2⟩ := ok.bank k xs h1
    refine ⟨fun p hp => ?_, ?_⟩
    · rcases List.mem_append.1 hp with hp | hp
      · exact b1 p hp
      · rw [List.mem_singleton.1 hp]; exact hk
    · show ((xs ++ [q]).length : Int) ≤ S.plan.Meta
      simp only [List.length_append, List.length_singleton]; omega
  · rw [List.getElem?_set_ne hjk] at hj
    exact ok.bank j ys hj
theorem room_pos {S : MC} (ok : S.Ok) {b : Int} (ht : S.there b = true) (hr : S.room b ≠ 0) : ((S.bank b).length : Int) < S.plan.Meta := by
  obtain ⟨k, xs, rfl, h1, h2⟩ := there_get ht
  simp only [MC.room, ht, if_true] at hr
  have := (ok.bank k xs h1).2
  rw [h2] at hr ⊢
  omega
theorem new_ok {p : Plan} (hr : p.right = true) : MC.Ok ⟨p, List.replicate p.Banks.toNat []⟩ := by
  simp only [Plan.right, Plan.shape, Bool.and_eq_true, within_iff, decide_eq_true_eq] at hr
  have h1 := least_bd p
  refine ⟨⟨by show 0 ≤ p.Meta; omega, by show p.Meta ≤ 64; omega⟩, by show ((List.replicate p.Banks.toNat ([] : List Cached)).length : Int) = p.Banks; rw [List.length_replicate]; omega, fun k xs hk => ?_⟩
  have := List.eq_of_mem_replicate (List.mem_of_getElem? hk)
  subst this
  exact ⟨by simp, by show ((([] : List Cached).length : Nat) : Int) ≤ p.Meta; simp only [List.length_nil]; omega⟩
theorem put_cases {S : MC} (ok : S.Ok) (bank : Int) (x : Item) (b : Vector UInt8 32) :
    (S.put bank x b).2.Ok ∧ (S.put bank x b).2.plan = S.plan ∧ ((S.put bank x b).2 = S ∨ ((S.put bank x b).1 = 0 ∧ S.plan.item x = true ∧ S.there bank = true ∧ (∀ q ∈ S.all, q.Item ≠ x) ∧ (S.put bank x b).2.all.Perm (⟨x, bank, b, false⟩ :: S.all))) := by
  unfold MC.put
  split
  · exact ⟨ok, rfl, .inl rfl⟩
  · rename_i hc
    split
    · exact ⟨ok, rfl, .inl rfl⟩
    · rename_i hf
      split
      · exact ⟨ok, rfl, .inl rfl⟩
      · rename_i hr
        have ht : S.there bank = true := by
          cases h : S.there bank with
          | true => rfl
          | false => exact absurd (.inl h) hc
        have hi : S.plan.item x = true := by
          cases h : S.plan.item x with
          | true => rfl
          | false => exact absurd (.inr h) hc
        have hp := room_pos ok ht hr
        obtain ⟨k, xs, rfl, h1, h2⟩ := there_get ht
        rw [h2] at hp
        exact ⟨Ok.last ok rfl h1 hp, rfl, .inr ⟨rfl, hi, ht, find_none.1 hf, last_all rfl h1⟩⟩
theorem take_swapped {S : MC} (ok : S.Ok) {k i : Nat} {xs : List Cached} {q q' : Cached} (h1 : S.banks[k]? = some xs) (h2 : xs[i]? = some q) (ht : S.there q'.Bank = true) (hr : q'.Bank ≠ k → S.room q'.Bank ≠ 0) :
    ((S.take k i).last q').Ok ∧ Swapped S ((S.take k i).last q') q q' := by
  have ok2 := Ok.take ok (i := i) h1
  have hkl : k < S.banks.length := (List.getElem?_eq_some_iff.1 h1).1
  have hil : i < xs.length := (List.getElem?_eq_some_iff.1 h2).1
  obtain ⟨t, ys, ht1, ht2, ht3⟩ := there_get ht
  obtain ⟨zs, hz, hzl⟩ : ∃ zs, (S.take k i).banks[t]? = some zs ∧ (zs.length : Int) < S.plan.Meta := by
    have e : (S.take k i).banks = S.banks.set k (xs.eraseIdx i) := by simp [MC.take, h1]
    rw [e]
    by_cases hkt : k = t
    · subst hkt
      refine ⟨_, List.getElem?_set_self hkl, ?_⟩
      rw [List.length_eraseIdx, if_pos hil]
      have := (ok.bank k xs h1).2
      omega
    · rw [List.getElem?_set_ne hkt]
      refine ⟨ys, ht2, ?_⟩
      have := room_pos ok ht (hr (by rw [ht1]; omega))
      rw [ht3] at this
      exact this
  exact ⟨Ok.last ok2 ht1 hz hzl, (S.take k i).all, take_all h1 h2, last_all ht1 hz⟩
theorem update_cases {S : MC} (ok : S.Ok) (x : Item) (b : Vector UInt8 32) :
    (S.update x b).2.Ok ∧ (S.update x b).2.plan = S.plan ∧ ((S.update x b).2 = S ∨ ((S.update x b).1 = 0 ∧ ∃ q, q.Item = x ∧ Swapped S (S.update x b).2 q { q with Bytes := b, Dirty := true })) := by
  unfold MC.update
  split
  · exact ⟨ok, rfl, .inl rfl⟩
  · rename_i k i hf
    obtain ⟨xs, q, h1, h2, h3, h4, _⟩ := find_some hf
    rw [h4]
    have hqb := (ok.bank k xs h1).1 q (List.mem_of_getElem? h2)
    have hkl : k < S.banks.length := (List.getElem?_eq_some_iff.1 h1).1
    obtain ⟨r1, r2⟩ := take_swapped ok (q' := { q with Bytes := b, Dirty := true }) h1 h2 (there_iff.2 (by show 0 ≤ q.Bank ∧ q.Bank < _; rw [hqb]; omega)) (fun h => absurd hqb h)
    exact ⟨r1, rfl, .inr ⟨rfl, q, h3, r2⟩⟩
theorem move_cases {S : MC} (ok : S.Ok) (x : Item) (to : Int) :
    (S.move x to).2.Ok ∧ (S.move x to).2.plan = S.plan ∧ (((S.move x to).2 = S ∧ (S.move x to).1 ≠ 0) ∨ ((S.move x to).1 = 0 ∧ ∃ q, q.Item = x ∧ Swapped S (S.move x to).2 q { q with Bank := to })) := by
  unfold MC.move
  split
  · exact ⟨ok, rfl, .inl ⟨rfl, by simp⟩⟩
  · rename_i ht
    have ht : S.there to = true := by simpa using ht
    split
    · exact ⟨ok, rfl, .inl ⟨rfl, by simp⟩⟩
    · rename_i k i hf
      split
      · exact ⟨ok, rfl, .inl ⟨rfl, by simp⟩⟩
      · rename_i hc
        obtain ⟨xs, q, h1, h2, h3, h4, _⟩ := find_some hf
        rw [h4]
        obtain ⟨r1, r2⟩ := take_swapped ok (q' := { q with Bank := to }) h1 h2 ht (fun h e => hc ⟨fun e2 => h e2.symm, e⟩)
        exact ⟨r1, rfl, .inr ⟨rfl, q, h3, r2⟩⟩
theorem drop_cases {S : MC} (ok : S.Ok) (x : Item) : (S.drop x).2.Ok ∧ (S.drop x).2.plan = S.plan ∧ (((S.drop x).2 = S ∧ (S.drop x).1 ≠ 0) ∨ ((S.drop x).1 = 0 ∧ ∃ q, q.Item = x ∧ S.all.Perm (q :: (S.drop x).2.all))) := by
  unfold MC.drop
  split
  · exact ⟨ok, rfl, .inl ⟨rfl, by simp⟩⟩
  · rename_i k i hf
    obtain ⟨xs, q, h1, h2, h3, h4, _⟩ := find_some hf
    exact ⟨Ok.take ok h1, rfl, .inr ⟨rfl, q, h3, take_all h1 h2⟩⟩
/-- Each item is cached once. -/
def MC.Once (S : MC) : Prop := (S.all.map (·.Item)).Nodup
theorem Swapped.once {S S' : MC} {q q' : Cached} (h : Swapped S S' q q') (hi : q'.Item = q.Item) (ho : S.Once) : S'.Once := by
  obtain ⟨rest, h1, h2⟩ := h
  have e1 := h1.map (·.Item)
  have e2 := h2.map (·.Item)
  simp only [List.map_cons] at e1 e2
  rw [hi] at e2
  exact (e1.trans e2.symm).nodup_iff.1 ho
theorem put_once {S : MC} (ok : S.Ok) (ho : S.Once) (bank : Int) (x : Item) (b : Vector UInt8 32) : (S.put bank x b).2.Once := by
  rcases (put_cases ok bank x b).2.2 with h | ⟨_, _, _, h1, h2⟩
  · rw [h]; exact ho
  · unfold MC.Once
    refine ((h2.map (·.Item)).nodup_iff).2 ?_
    simp only [List.map_cons, List.nodup_cons]
    refine ⟨fun hm => ?_, ho⟩
    obtain ⟨q, hq, he⟩ := List.mem_map.1 hm
    exact h1 q hq he
theorem update_once {S : MC} (ok : S.Ok) (ho : S.Once) (x : Item) (b : Vector UInt8 32) : (S.update x b).2.Once := by
  rcases (update_cases ok x b).2.2 with h | ⟨_, q, _, h2⟩
  · rw [h]; exact ho
  · exact h2.once rfl ho
theorem move_once {S : MC} (ok : S.Ok) (ho : S.Once) (x : Item) (to : Int) : (S.move x to).2.Once := by
  rcases (move_cases ok x to).2.2 with ⟨h, _⟩ | ⟨_, q, _, h2⟩
  · rw [h]; exact ho
  · exact h2.once rfl ho
theorem drop_once {S : MC} (ok : S.Ok) (ho : S.Once) (x : Item) : (S.drop x).2.Once := by
  rcases (drop_cases ok x).2.2 with ⟨h, _⟩ | ⟨_, q, _, h2⟩
  · rw [h]; exact ho
  · have := (h2.map (fun q : Cached => q.Item)).nodup_iff.1 ho
    simp only [List.map_cons, List.nodup_cons] at this
    exact this.2
theorem new_once (p : Plan) : MC.Once ⟨p, List.replicate p.Banks.toNat []⟩ := by
  have : MC.all ⟨p, List.replicate p.Banks.toNat []⟩ = [] := by simp [MC.all]
  unfold MC.Once
  rw [this]; simp
/-! ### Sorted rows -/
def Sorted (l : List Cached) : Prop := l.Pairwise fun a b => ¬ itemLt b.Item a.Item
theorem nodup_inj {l : List Cached} (h : (l.map (·.Item)).Nodup) {a b : Cached} (ha : a ∈ l) (hb : b ∈ l) (e : a.Item = b.Item) : a = b := by
  induction l with
  | nil => simp at ha
  | cons x l ih =>
    simp only [List.map_cons, List.nodup_cons] at h
    obtain ⟨h1, h2⟩ := h
    have key : ∀ q ∈ l, q.Item ≠ x.Item := fun q hq he => h1 (he ▸ List.mem_map.2 ⟨q, hq, rfl⟩)
    rcases List.mem_cons.1 ha with ha | ha <;> rcases List.mem_cons.1 hb with hb | hb
    · rw [ha, hb]
    · exact absurd (by rw [← e, ha]) (key b hb)
    · exact absurd (by rw [e, hb]) (key a ha)
    · exact ih h2 ha hb
theorem sorted_one : ∀ {l m : List Cached}, l.Perm m → Sorted l → Sorted m → (l.map (·.Item)).Nodup → l = m
  | [], m, hp, _, _, _ => by rw [hp.symm.eq_nil]
  | x :: l, [], hp, _, _, _ => by have := hp.eq_nil; simp at this
  | x :: l, y :: m, hp, h1, h2, hn => by
    have hx : x ∈ y :: m := hp.mem_iff.1 (by simp)
    have hy : y ∈ x :: l := hp.mem_iff.2 (by simp)
    have e : x = y := by
      refine nodup_inj hn (by simp) hy (itemLt_eq ?_ ?_)
      · rcases List.mem_cons.1 hx with rfl | hx
        · exact itemLt_irrefl _
        · exact (List.pairwise_cons.1 h2).1 x hx
      · rcases List.mem_cons.1 hy with rfl | hy
        · exact itemLt_irrefl _
        · exact (List.pairwise_cons.1 h1).1 y hy
    subst e
    rw [sorted_one ((List.perm_cons _).1 hp) (List.pairwise_cons.1 h1).2 (List.pairwise_cons.1 h2).2 (List.nodup_cons.1 hn).2]
end Go.Proofs.Ytngmdedoboccoaa
