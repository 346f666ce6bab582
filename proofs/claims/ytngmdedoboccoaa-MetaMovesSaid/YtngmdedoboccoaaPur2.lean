/- MetaMoves as plain data: what a move does to the sorted row of all that is cached, and to what is told of an item. -/
import Derived.Test.YtngmdedoboccoaaPur1
set_option linter.unusedVariables false
set_option linter.unusedSimpArgs false
namespace Go.Proofs.Ytngmdedoboccoaa
open Go

theorem get_some {S : MC} {x : Item} {q : Cached} (h : S.get x = some q) : q ∈ S.all ∧ q.Item = x := by
  unfold MC.get at h
  cases hf : S.find x with
  | none => rw [hf] at h; cases h
  | some z =>
    obtain ⟨k, i⟩ := z
    obtain ⟨xs, p, h1, h2, h3, h4, h5⟩ := find_some hf
    rw [hf] at h
    simp only [Option.bind_some, h1, h2, Option.some.injEq] at h
    subst h
    exact ⟨h5, h3⟩
theorem get_none {S : MC} {x : Item} : S.get x = none ↔ ∀ q ∈ S.all, q.Item ≠ x := by
  rw [← find_none]
  unfold MC.get
  cases hf : S.find x with
  | none => simp
  | some z =>
    obtain ⟨k, i⟩ := z
    obtain ⟨xs, p, h1, h2, h3, h4, h5⟩ := find_some hf
    simp [h1, h2]
theorem get_of {S : MC} (ho : S.Once) {q : Cached} (h : q ∈ S.all) : S.get q.Item = some q := by
  cases hg : S.get q.Item with
  | none => exact absurd rfl (get_none.1 hg q h)
  | some p =>
    obtain ⟨h1, h2⟩ := get_some hg
    rw [nodup_inj ho h1 h h2]
def moved (f : Int) (x : Item) (to : Int) (y : Cached) : Cached := if f = 0 ∧ y.Item = x then { y with Bank := to } else y
theorem moved_item (f : Int) (x : Item) (to : Int) (y : Cached) : (moved f x to y).Item = y.Item := by
  unfold moved; split <;> rfl
theorem sorted_map {l : List Cached} {g : Cached → Cached} (hg : ∀ y, (g y).Item = y.Item) (h : Sorted l) : Sorted (l.map g) := by
  unfold Sorted
  rw [List.pairwise_map]
  exact h.imp fun {a b} hab => by rw [hg, hg]; exact hab
theorem map_off {f : Int} {x : Item} {to : Int} {l : List Cached} (h : ∀ q ∈ l, q.Item ≠ x) : l.map (moved f x to) = l := by
  induction l with
  | nil => rfl
  | cons y l ih =>
    rw [List.map_cons, ih fun q hq => h q (by simp [hq])]
    congr 1
    unfold moved
    rw [if_neg fun e => h y (by simp) e.2]
theorem once_rest {S : MC} (ho : S.Once) {q : Cached} {rest : List Cached} (h : S.all.Perm (q :: rest)) : ∀ p ∈ rest, p.Item ≠ q.Item := by
  have h1 := (h.map (fun q : Cached => q.Item)).nodup_iff.1 ho
  simp only [List.map_cons, List.nodup_cons] at h1
  exact fun p hp e => h1.1 (e ▸ List.mem_map.2 ⟨p, hp, rfl⟩)
theorem moved_rows {S : MC} (ok : S.Ok) (ho : S.Once) (x : Item) (to : Int) {ys zs : List Cached} (h1 : ys.Perm S.all) (s1 : Sorted ys) (h2 : zs.Perm (S.move x to).2.all) (s2 : Sorted zs) :
    zs = ys.map (moved (S.move x to).1 x to) := by
  have hm : (ys.map (moved (S.move x to).1 x to)).Perm (S.move x to).2.all := by
    refine (h1.map _).trans ?_
    rcases (move_cases ok x to).2.2 with ⟨h, hf⟩ | ⟨hf, q, hq, rest, r1, r2⟩
    · rw [h]
      have : S.all.map (moved (S.move x to).1 x to) = S.all := by
        have : ∀ l : List Cached, l.map (moved (S.move x to).1 x to) = l := fun l => by
          induction l with
          | nil => rfl
          | cons y l ih => rw [List.map_cons, ih]; congr 1; unfold moved; rw [if_neg fun e => hf e.1]
        exact this _
      rw [this]
    · rw [hf]
      refine (r1.map _).trans ?_
      rw [List.map_cons, map_off (fun p hp => by rw [← hq]; exact once_rest ho r1 p hp)]
      have : moved 0 x to q = { q with Bank := to } := by unfold moved; rw [if_pos ⟨rfl, hq⟩]
      rw [this]
      exact r2.symm
  have hn := move_once ok ho x to
  exact sorted_one (h2.trans hm.symm) s2 (sorted_map (moved_item _ x to) s1) ((h2.map (fun q : Cached => q.Item)).nodup_iff.2 hn)
theorem moved_get {S : MC} (ok : S.Ok) (ho : S.Once) (x : Item) (to : Int) :
    ((S.move x to).2.get x).isSome = (S.get x).isSome ∧ (((S.move x to).2.get x).getD zCached).Bytes = ((S.get x).getD zCached).Bytes ∧ (((S.move x to).2.get x).getD zCached).Dirty = ((S.get x).getD zCached).Dirty := by
  rcases (move_cases ok x to).2.2 with ⟨h, hf⟩ | ⟨hf, q, hq, rest, r1, r2⟩
  · rw [h]; exact ⟨rfl, rfl, rfl⟩
  · subst hq
    have g1 : S.get q.Item = some q := get_of ho (r1.mem_iff.2 (by simp))
    have g2 : (S.move q.Item to).2.get q.Item = some { q with Bank := to } := get_of (q := { q with Bank := to }) (move_once ok ho q.Item to) (r2.mem_iff.2 (by simp))
    rw [g1, g2]
    exact ⟨rfl, rfl, rfl⟩
theorem move_none {S : MC} (x : Item) (to : Int) (h : S.get x = none) : (S.move x to).1 ≠ 0 := by
  have hf := find_none.2 (get_none.1 h)
  unfold MC.move
  rw [hf]
  split <;> simp
theorem apart_at {S : MC} (ho : S.Once) {zs : List Cached} (h : zs.Perm S.all) {i : Nat} {a b : Cached} (ha : zs[i]? = some a) (hb : zs[i + 1]? = some b) : b.Item ≠ a.Item := by
  have hn : (zs.map (·.Item)).Nodup := (h.map (fun q : Cached => q.Item)).nodup_iff.2 ho
  intro e
  have h1 : (zs.map (·.Item))[i]? = some a.Item := by simp [ha]
  have h2 : (zs.map (·.Item))[i + 1]? = some b.Item := by simp [hb]
  have := (List.getElem?_inj (by have := (List.getElem?_eq_some_iff.1 h1).1; exact this) hn).1 (h1.trans (by rw [h2, e]))
  omega
/-! ### The calls -/
def MC.step (S : MC) (what bank : Int) (x : Item) (b : Vector UInt8 32) : MC :=
  let S1 := (S.put bank x b).2
  if what = 1 then (S1.update x b).2 else S1
theorem step_keeps {S : MC} (ok : S.Ok) (ho : S.Once) (what bank : Int) (x : Item) (b : Vector UInt8 32) : (S.step what bank x b).Ok ∧ (S.step what bank x b).Once ∧ (S.step what bank x b).plan = S.plan := by
  have p1 := put_cases ok bank x b
  have p2 := put_once ok ho bank x b
  unfold MC.step
  simp only
  split
  · have u1 := update_cases p1.1 x b
    exact ⟨u1.1, update_once p1.1 p2 x b, u1.2.1.trans p1.2.1⟩
  · exact ⟨p1.1, p2, p1.2.1⟩
end Go.Proofs.Ytngmdedoboccoaa
