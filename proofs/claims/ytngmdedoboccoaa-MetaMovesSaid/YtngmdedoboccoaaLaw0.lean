/- The calls of the statements of layer 13 as data; great; speaks. -/
import Derived.Test.YtngmdedoboccoaaEq
import Derived.Test.YtngmdedoboccoaaRef7
set_option linter.unusedVariables false
set_option linter.unusedSimpArgs false
set_option maxHeartbeats 1000000
set_option maxRecDepth 100000
namespace Go.Proofs.Ytngmdedoboccoaa
open Go Go.RowKit

structure CallD where
  What : Int
  Bank : Int
  Item : Item
  Bytes : Vector UInt8 32
  kA : Option Addr
  kN : Nat
  kC : Nat
def cCall (c : CallD) : List Value := .int .i64 c.What :: .int .i64 c.Bank :: .int .i64 c.Item.Level :: .int .i64 c.Item.Index :: (cB c.Bytes ++ [.slice c.kA c.kN c.kC])
def encCall (c : CallD) : Array Value := (cCall c).toArray
@[simp] theorem cCall_length (p : CallD) : (cCall p).length = 37 := by simp [cCall]
@[go_sem, simp] theorem encCall_size (x : CallD) : (encCall x).size = 37 := by simp [encCall]
theorem cCall_one (p : CallD) : ∀ x ∈ cCall p, x.oneCell' = true := by
  intro x hx
  simp only [cCall, List.mem_cons, List.mem_append, List.not_mem_nil, or_false] at hx
  rcases hx with rfl | rfl | rfl | rfl | h | rfl <;> first | rfl | exact cB_one _ _ h
theorem encCall_one (x : CallD) : (encCall x).all (·.oneCell') = true := all_oneCell_toArray (cCall_one x)
@[go_sem] theorem encCall_oneA (x : CallD) : oneAll (encCall x) = true := encCall_one _
section
variable (x : CallD)
@[go_sem ↓ high] theorem encCall_0 : (encCall x)[0]? = some (.int .i64 x.What) := rfl
@[go_sem ↓ high] theorem encCall_1 : (encCall x)[1]? = some (.int .i64 x.Bank) := rfl
@[go_sem ↓ high] theorem encCall_36 : (encCall x)[36]? = some (.slice x.kA x.kN x.kC) := by
  simp [encCall, cCall, List.getElem?_append]
@[go_sem ↓ high] theorem encCall_0g (h : 0 < (encCall x).size) : (encCall x)[0] = .int .i64 x.What := by
  have := encCall_0 x
  rwa [Array.getElem?_eq_getElem h, Option.some.injEq] at this
@[go_sem ↓ high] theorem encCall_1g (h : 1 < (encCall x).size) : (encCall x)[1] = .int .i64 x.Bank := by
  have := encCall_1 x
  rwa [Array.getElem?_eq_getElem h, Option.some.injEq] at this
@[go_sem ↓ high] theorem encCall_36g (h : 36 < (encCall x).size) : (encCall x)[36] = .slice x.kA x.kN x.kC := by
  have := encCall_36 x
  rwa [Array.getElem?_eq_getElem h, Option.some.injEq] at this
@[go_sem] theorem encCall_item : (encCall x).extract 2 4 = encItem x.Item := by simp [encCall, cCall]
@[go_sem] theorem encCall_bytes : (encCall x).extract 4 36 = encB x.Bytes := by simp [encCall, cCall, encB]
@[go_sem] theorem encCall_all : (encCall x).extract 0 37 = encCall x := by
  have := encCall_size x
  rw [← this, Array.extract_size]
end
attribute [irreducible] encCall
theorem rowCall : IsRow Try.prog 43 37 := ⟨⟨_, Try.underlying43, rfl⟩, by kernel_rfl⟩
section
variable (w : World) (ρ : Operand → Value) (x y : Operand) (d : Option Tmp) (t : TypeId) (ps : String) (af : Array Edge) (gd : Option (Nat × Bool))
@[go_sem ↓ high] theorem loadCall (hx : vP (ρ x) = true) (h : w.hasRow (vB (ρ x)) (vO (ρ x)) 37 = true) : (execOp ρ ⟨d, .load 43 x, t, ps, af, gd⟩).run Try.prog w = .ok (.value (.agg (w.rowD (vB (ρ x)) (vO (ρ x)) 37))) w := exec_load_any rowCall ρ x d t ps af gd w hx h
@[go_sem ↓ high] theorem storeCall (hx : vP (ρ x) = true) (hy : vG (ρ y) = true) (hn : (vA (ρ y)).size = 37) (h : w.hasRow (vB (ρ x)) (vO (ρ x)) 37 = true) (hl : w.loose (vB (ρ x)) = true) (h1 : oneAll (vA (ρ y)) = true) : (execOp ρ ⟨d, .store 43 x y, t, ps, af, gd⟩).run Try.prog w = .ok .skip (w.putRow (vB (ρ x)) (vO (ρ x)) (vA (ρ y))) := exec_store_any rowCall.size ρ x y d t ps af gd w hx hy hn h hl h1
end
def zCall : CallD := ⟨0, 0, ⟨0, 0⟩, Vector.replicate 32 0, none, 0, 0⟩
theorem zeroCall (w : World) : (zeroValue 43).run Try.prog w = .ok (.agg (encCall zCall)) w := by
  unfold encCall
  kernel_rfl
@[go_sem ↓ high] theorem allocCall (ρ : Operand → Value) (d : Option Tmp) (t : TypeId) (ps : String) (af : Array Edge) (gd : Option (Nat × Bool)) (w : World) :
    (execOp ρ ⟨d, .alloc 43, t, ps, af, gd⟩).run Try.prog w = .ok (.value (.pointer (some ⟨w.heap.size, 0, none⟩))) (w.alloc (.cells (encCall zCall) 43)) := exec_alloc_any zeroCall ρ d t ps af gd w
@[go_sem ↓ high] theorem buildLine0 (ρ : Operand → Value) (d : Option Tmp) (t : TypeId) (ps : String) (af : Array Edge) (gd : Option (Nat × Bool)) (w : World) :
    (execOp ρ ⟨d, .build 40 #[], t, ps, af, gd⟩).run Try.prog w = .ok (.value (.agg (encB (Vector.replicate 32 (0 : UInt8))))) w := by
  unfold encB; kernel_rfl
@[go_sem ↓ high] theorem buildPlan222 (a : Act) (d : Option Tmp) (t : TypeId) (ps : String) (af : Array Edge) (gd : Option (Nat × Bool)) (w : World) :
    (execOp a.eval ⟨d, .build 28 #[(1, .const (.int .i64 2)), (2, .const (.int .i64 2)), (4, .const (.int .i64 2))], t, ps, af, gd⟩).run Try.prog w = .ok (.value (.agg (encPlan ⟨0, 2, 2, 0, 2, 0, 0, 0, 0, 0, 0, 0, 0, 0, Vector.replicate 16 0, Vector.replicate 16 0⟩))) w := by
  unfold encPlan
  kernel_rfl

/-! ### A row that is seen, in whatever block -/
def Seen {α : Type} (w : World) (enc : α → Array Value) (k : Nat) (A : Option Addr) (xs : List α) : Prop :=
  ∀ (i : Nat) (x : α), xs[i]? = some x → ∃ b o, A = some ⟨b, o, none⟩ ∧ b < w.heap.size ∧ w.rowD b (o + i * k) k = enc x ∧ w.hasRow b (o + i * k) k = true
theorem Seen.grew {α : Type} {w w' : World} {enc : α → Array Value} {k : Nat} {A : Option Addr} {xs : List α} (h : Seen w enc k A xs) (hg : Grew w w') : Seen w' enc k A xs := fun i x hx => by
  obtain ⟨b, o, h1, h2, h3, h4⟩ := h i x hx
  exact ⟨b, o, h1, Nat.lt_of_lt_of_le h2 hg.size, (rowD_grew hg h2 _ _).trans h3, (hasRow_grew hg h2 _ _).trans h4⟩
def greatD (calls : List CallD) : Bool := decide (80 < calls.length) || calls.any fun c => decide (8 < c.kN)
theorem great_any {w : World} {A : Option Addr} {calls : List CallD} {c : Nat} (h : Seen w encCall 37 A calls) (hc : calls.length ≤ c) (hm : c ≤ maxLen) :
    Calls Try.prog 8 #[.slice A calls.length c] w fun e w' => e = .returned (.bool (greatD calls)) ∧ Grew w w' := by
  have HS := Lib.hid h
  clear h
  unfold maxLen at hm
  by_cases h80 : 80 < calls.length
  · have HV : Hid (greatD calls = true) := Lib.hid (by simp [greatD, h80])
    go_enter Try.func8, Try.ntmps8
    go_wp2
    rw [HV.out]
    go_ret
    exact ⟨rfl, Grew.refl _⟩
  · have HV : Hid (greatD calls = calls.any fun c => decide (8 < c.kN)) := Lib.hid (by simp [greatD, h80])
    go_enter Try.func8, Try.ntmps8
    go_wp2
    go_loopw [10] (fun i wr => ∃ k : Nat, k ≤ calls.length ∧ i = .int .i64 k ∧ (∀ q ∈ calls.take k, ¬ 8 < q.kN) ∧ Grew w wr) (fun i _ => calls.length - (intOf i).toNat)
    case atStart => exact ⟨0, by omega, rfl, by simp, Grew.refl _⟩
    case round =>
      obtain ⟨k, hk, rfl, hno, hgr⟩ := hrel
      have HN := Lib.hid hno
      have HG := Lib.hid hgr
      clear hno
      by_cases hlt : k < calls.length
      · obtain ⟨b, o, hA, lb, f3, f4⟩ := (HS.out.grew hgr) k calls[k] (List.getElem?_eq_getElem hlt)
        subst hA
        have HX : Hid (calls[k]? = some calls[k]) := Lib.hid (List.getElem?_eq_getElem hlt)
        have HT : Hid (calls.take (k + 1) = calls.take k ++ [calls[k]]) := Lib.hid (by rw [List.take_succ_eq_append_getElem hlt])
        generalize calls[k] = q at *
        clear hgr
        by_cases hq : 8 < q.kN
        · have HW : Hid (greatD calls = true) := Lib.hid (by
            rw [HV.out, List.any_eq_true]
            exact ⟨q, List.mem_of_getElem? HX.out, by simpa using hq⟩)
          have hq' : decide ((8 : Int) < (q.kN : Int)) = true := by simp; omega
          go_wp2
          rw [HW.out]
          go_ret
          exact ⟨rfl, HG.out.alloc _⟩
        · have hq' : decide ((8 : Int) < (q.kN : Int)) = false := by simp; omega
          have HQ := Lib.hid hq
          clear hq
          go_wp2
          refine ⟨⟨k + 1, by omega, by go_num, fun q' hq' => ?_, HG.out.alloc _⟩, by simp [intOf]; omega⟩
          rw [HT.out] at hq'
          rcases List.mem_append.1 hq' with h | h
          · exact HN.out q' h
          · rw [List.mem_singleton.1 h]; exact HQ.out
      · obtain rfl : k = calls.length := by omega
        have HW : Hid (greatD calls = false) := Lib.hid (by
          rw [HV.out, List.any_eq_false]
          intro q hq
          have := HN.out q (by rw [List.take_length]; exact hq)
          simpa using this)
        go_wp2
        rw [HW.out]
        go_ret
        exact ⟨rfl, HG.out⟩
end Go.Proofs.Ytngmdedoboccoaa
