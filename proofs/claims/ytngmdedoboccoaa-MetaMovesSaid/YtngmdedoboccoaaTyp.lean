/- The types of the plan, an item, a line, what is cached: as Lean data, their cells, and how they are loaded, stored and compared. -/
import Derived.Test.YtngmdedoboccoaaProg
import Derived.Test.YtngmdedoboccoaaExt
set_option linter.unusedVariables false
set_option linter.unusedSimpArgs false
set_option maxRecDepth 100000
namespace Go.Proofs.Ytngmdedoboccoaa
open Go Go.RowKit

structure Plan where
  Cores : Int
  Banks : Int
  Pages : Int
  Lines : Int
  Arity : Int
  Minor : Int
  Major : Int
  NearS : Int
  NearW : Int
  FarS : Int
  FarW : Int
  Meta : Int
  Queue : Int
  Kind : Int
  Key : Vector UInt8 16
  Tag : Vector UInt8 16
deriving DecidableEq

structure Item where
  Level : Int
  Index : Int
deriving DecidableEq

structure Cached where
  Item : Item
  Bank : Int
  Bytes : Vector UInt8 32
  Dirty : Bool
deriving DecidableEq

/-! ### Cells -/
def cB {n : Nat} (v : Vector UInt8 n) : List Value := v.toList.map fun b => .int .u8 b.toNat
def encB {n : Nat} (v : Vector UInt8 n) : Array Value := (cB v).toArray
def cPlan (p : Plan) : List Value := .int .i64 p.Cores :: .int .i64 p.Banks :: .int .i64 p.Pages :: .int .i64 p.Lines :: .int .i64 p.Arity :: .int .i64 p.Minor :: .int .u64 p.Major :: .int .i64 p.NearS :: .int .i64 p.NearW :: .int .i64 p.FarS :: .int .i64 p.FarW :: .int .i64 p.Meta :: .int .i64 p.Queue :: .int .i64 p.Kind :: (cB p.Key ++ cB p.Tag)
def encPlan (p : Plan) : Array Value := (cPlan p).toArray
abbrev encItem (x : Item) : Array Value := #[.int .i64 x.Level, .int .i64 x.Index]
def cCached (x : Cached) : List Value := .int .i64 x.Item.Level :: .int .i64 x.Item.Index :: .int .i64 x.Bank :: (cB x.Bytes ++ [.bool x.Dirty])
def encCached (x : Cached) : Array Value := (cCached x).toArray

@[simp] theorem cB_length {n : Nat} (v : Vector UInt8 n) : (cB v).length = n := by simp [cB]
@[simp] theorem cPlan_length (p : Plan) : (cPlan p).length = 46 := by simp [cPlan]
@[simp] theorem cCached_length (x : Cached) : (cCached x).length = 36 := by simp [cCached]
@[go_sem, simp] theorem encB_size {n : Nat} (v : Vector UInt8 n) : (encB v).size = n := by simp [encB]
@[go_sem, simp] theorem encPlan_size (p : Plan) : (encPlan p).size = 46 := by simp [encPlan]
@[go_sem, simp] theorem encCached_size (x : Cached) : (encCached x).size = 36 := by simp [encCached]
theorem cB_one {n : Nat} (v : Vector UInt8 n) : ∀ x ∈ cB v, x.oneCell' = true := by
  intro x hx
  simp only [cB, List.mem_map] at hx
  obtain ⟨b, _, rfl⟩ := hx
  rfl
theorem encB_one {n : Nat} (v : Vector UInt8 n) : (encB v).all (·.oneCell') = true := all_oneCell_toArray (cB_one v)
@[go_sem] theorem encB_oneA {n : Nat} (v : Vector UInt8 n) : oneAll (encB v) = true := encB_one _
theorem cPlan_one (p : Plan) : ∀ x ∈ cPlan p, x.oneCell' = true := by
  intro x hx
  simp only [cPlan, List.mem_cons, List.mem_append] at hx
  rcases hx with rfl | rfl | rfl | rfl | rfl | rfl | rfl | rfl | rfl | rfl | rfl | rfl | rfl | rfl | h | h <;> first | rfl | exact cB_one _ _ h
theorem encPlan_one (p : Plan) : (encPlan p).all (·.oneCell') = true := all_oneCell_toArray (cPlan_one p)
@[go_sem] theorem encPlan_oneA (p : Plan) : oneAll (encPlan p) = true := encPlan_one _
theorem cCached_one (p : Cached) : ∀ x ∈ cCached p, x.oneCell' = true := by
  intro x hx
  simp only [cCached, List.mem_cons, List.mem_append, List.not_mem_nil, or_false] at hx
  rcases hx with rfl | rfl | rfl | h | rfl <;> first | rfl | exact cB_one _ _ h
theorem encCached_one (x : Cached) : (encCached x).all (·.oneCell') = true := all_oneCell_toArray (cCached_one x)
@[go_sem] theorem encCached_oneA (x : Cached) : oneAll (encCached x) = true := encCached_one _

section
variable (p : Plan)
@[go_sem ↓ high] theorem encPlan_0 : (encPlan p)[0]? = some (.int .i64 p.Cores) := rfl
@[go_sem ↓ high] theorem encPlan_0g (h : 0 < (encPlan p).size) : (encPlan p)[0] = (.int .i64 p.Cores) := by
  have := encPlan_0 p
  rwa [Array.getElem?_eq_getElem h, Option.some.injEq] at this
@[go_sem ↓ high] theorem encPlan_1 : (encPlan p)[1]? = some (.int .i64 p.Banks) := rfl
@[go_sem ↓ high] theorem encPlan_1g (h : 1 < (encPlan p).size) : (encPlan p)[1] = (.int .i64 p.Banks) := by
  have := encPlan_1 p
  rwa [Array.getElem?_eq_getElem h, Option.some.injEq] at this
@[go_sem ↓ high] theorem encPlan_2 : (encPlan p)[2]? = some (.int .i64 p.Pages) := rfl
@[go_sem ↓ high] theorem encPlan_2g (h : 2 < (encPlan p).size) : (encPlan p)[2] = (.int .i64 p.Pages) := by
  have := encPlan_2 p
  rwa [Array.getElem?_eq_getElem h, Option.some.injEq] at this
@[go_sem ↓ high] theorem encPlan_3 : (encPlan p)[3]? = some (.int .i64 p.Lines) := rfl
@[go_sem ↓ high] theorem encPlan_3g (h : 3 < (encPlan p).size) : (encPlan p)[3] = (.int .i64 p.Lines) := by
  have := encPlan_3 p
  rwa [Array.getElem?_eq_getElem h, Option.some.injEq] at this
@[go_sem ↓ high] theorem encPlan_4 : (encPlan p)[4]? = some (.int .i64 p.Arity) := rfl
@[go_sem ↓ high] theorem encPlan_4g (h : 4 < (encPlan p).size) : (encPlan p)[4] = (.int .i64 p.Arity) := by
  have := encPlan_4 p
  rwa [Array.getElem?_eq_getElem h, Option.some.injEq] at this
@[go_sem ↓ high] theorem encPlan_5 : (encPlan p)[5]? = some (.int .i64 p.Minor) := rfl
@[go_sem ↓ high] theorem encPlan_5g (h : 5 < (encPlan p).size) : (encPlan p)[5] = (.int .i64 p.Minor) := by
  have := encPlan_5 p
  rwa [Array.getElem?_eq_getElem h, Option.some.injEq] at this
@[go_sem ↓ high] theorem encPlan_6 : (encPlan p)[6]? = some (.int .u64 p.Major) := rfl
@[go_sem ↓ high] theorem encPlan_6g (h : 6 < (encPlan p).size) : (encPlan p)[6] = (.int .u64 p.Major) := by
  have := encPlan_6 p
  rwa [Array.getElem?_eq_getElem h, Option.some.injEq] at this
@[go_sem ↓ high] theorem encPlan_7 : (encPlan p)[7]? = some (.int .i64 p.NearS) := rfl
@[go_sem ↓ high] theorem encPlan_7g (h : 7 < (encPlan p).size) : (encPlan p)[7] = (.int .i64 p.NearS) := by
  have := encPlan_7 p
  rwa [Array.getElem?_eq_getElem h, Option.some.injEq] at this
@[go_sem ↓ high] theorem encPlan_8 : (encPlan p)[8]? = some (.int .i64 p.NearW) := rfl
@[go_sem ↓ high] theorem encPlan_8g (h : 8 < (encPlan p).size) : (encPlan p)[8] = (.int .i64 p.NearW) := by
  have := encPlan_8 p
  rwa [Array.getElem?_eq_getElem h, Option.some.injEq] at this
@[go_sem ↓ high] theorem encPlan_9 : (encPlan p)[9]? = some (.int .i64 p.FarS) := rfl
@[go_sem ↓ high] theorem encPlan_9g (h : 9 < (encPlan p).size) : (encPlan p)[9] = (.int .i64 p.FarS) := by
  have := encPlan_9 p
  rwa [Array.getElem?_eq_getElem h, Option.some.injEq] at this
@[go_sem ↓ high] theorem encPlan_10 : (encPlan p)[10]? = some (.int .i64 p.FarW) := rfl
@[go_sem ↓ high] theorem encPlan_10g (h : 10 < (encPlan p).size) : (encPlan p)[10] = (.int .i64 p.FarW) := by
  have := encPlan_10 p
  rwa [Array.getElem?_eq_getElem h, Option.some.injEq] at this
@[go_sem ↓ high] theorem encPlan_11 : (encPlan p)[11]? = some (.int .i64 p.Meta) := rfl
@[go_sem ↓ high] theorem encPlan_11g (h : 11 < (encPlan p).size) : (encPlan p)[11] = (.int .i64 p.Meta) := by
  have := encPlan_11 p
  rwa [Array.getElem?_eq_getElem h, Option.some.injEq] at this
@[go_sem ↓ high] theorem encPlan_12 : (encPlan p)[12]? = some (.int .i64 p.Queue) := rfl
@[go_sem ↓ high] theorem encPlan_12g (h : 12 < (encPlan p).size) : (encPlan p)[12] = (.int .i64 p.Queue) := by
  have := encPlan_12 p
  rwa [Array.getElem?_eq_getElem h, Option.some.injEq] at this
@[go_sem ↓ high] theorem encPlan_13 : (encPlan p)[13]? = some (.int .i64 p.Kind) := rfl
@[go_sem ↓ high] theorem encPlan_13g (h : 13 < (encPlan p).size) : (encPlan p)[13] = (.int .i64 p.Kind) := by
  have := encPlan_13 p
  rwa [Array.getElem?_eq_getElem h, Option.some.injEq] at this
@[go_sem] theorem encPlan_near : (encPlan p).extract 7 9 = #[.int .i64 p.NearS, .int .i64 p.NearW] := by simp [encPlan, cPlan]
@[go_sem] theorem encPlan_far : (encPlan p).extract 9 11 = #[.int .i64 p.FarS, .int .i64 p.FarW] := by simp [encPlan, cPlan]
@[go_sem] theorem encPlan_all : (encPlan p).extract 0 46 = encPlan p := by
  have := encPlan_size p
  rw [← this, Array.extract_size]
end
section
variable (x : Cached)
@[go_sem ↓ high] theorem encCached_0 : (encCached x)[0]? = some (.int .i64 x.Item.Level) := rfl
@[go_sem ↓ high] theorem encCached_0g (h : 0 < (encCached x).size) : (encCached x)[0] = (.int .i64 x.Item.Level) := by
  have := encCached_0 x
  rwa [Array.getElem?_eq_getElem h, Option.some.injEq] at this
@[go_sem ↓ high] theorem encCached_1 : (encCached x)[1]? = some (.int .i64 x.Item.Index) := rfl
@[go_sem ↓ high] theorem encCached_1g (h : 1 < (encCached x).size) : (encCached x)[1] = (.int .i64 x.Item.Index) := by
  have := encCached_1 x
  rwa [Array.getElem?_eq_getElem h, Option.some.injEq] at this
@[go_sem ↓ high] theorem encCached_2 : (encCached x)[2]? = some (.int .i64 x.Bank) := rfl
@[go_sem ↓ high] theorem encCached_2g (h : 2 < (encCached x).size) : (encCached x)[2] = (.int .i64 x.Bank) := by
  have := encCached_2 x
  rwa [Array.getElem?_eq_getElem h, Option.some.injEq] at this
@[go_sem ↓ high] theorem encCached_35 : (encCached x)[35]? = some (.bool x.Dirty) := by
  simp [encCached, cCached, List.getElem?_append]
@[go_sem ↓ high] theorem encCached_35g (h : 35 < (encCached x).size) : (encCached x)[35] = (.bool x.Dirty) := by
  have := encCached_35 x
  rwa [Array.getElem?_eq_getElem h, Option.some.injEq] at this
@[go_sem] theorem encCached_item : (encCached x).extract 0 2 = encItem x.Item := by simp [encCached, cCached]
@[go_sem] theorem encCached_bytes : (encCached x).extract 3 35 = encB x.Bytes := by
  simp [encCached, cCached, encB]
@[go_sem] theorem encCached_all : (encCached x).extract 0 36 = encCached x := by
  have := encCached_size x
  rw [← this, Array.extract_size]
end
theorem cB_inj {n : Nat} {v u : Vector UInt8 n} (h : cB v = cB u) : v = u := by
  have : v.toList = u.toList := by
    unfold cB at h
    refine List.map_inj_right (f := fun b : UInt8 => Value.int .u8 (b.toNat : Int)) (fun a b hab => ?_) |>.1 h
    simp at hab
    exact UInt8.toNat_inj.1 (by omega)
  exact Vector.toList_inj.1 this
attribute [irreducible] encPlan encCached encB

/-! ### Rows -/
theorem rowPlan : IsRow Try.prog 28 46 := ⟨⟨_, Try.underlying28, rfl⟩, by kernel_rfl⟩
theorem rowItem : IsRow Try.prog 31 2 := ⟨⟨_, Try.underlying31, rfl⟩, by kernel_rfl⟩
theorem rowShape : IsRow Try.prog 24 2 := ⟨⟨_, Try.underlying24, rfl⟩, by kernel_rfl⟩
theorem rowLine : IsRow Try.prog 40 32 := ⟨⟨_, Try.underlying40, rfl⟩, by kernel_rfl⟩
theorem rowCached : IsRow Try.prog 49 36 := ⟨⟨_, Try.underlying49, rfl⟩, by kernel_rfl⟩
section
variable (w : World) (ρ : Operand → Value) (x y : Operand) (d : Option Tmp) (t : TypeId) (ps : String) (af : Array Edge) (gd : Option (Nat × Bool))
@[go_sem ↓ high] theorem loadPlan (hx : vP (ρ x) = true) (h : w.hasRow (vB (ρ x)) (vO (ρ x)) 46 = true) : (execOp ρ ⟨d, .load 28 x, t, ps, af, gd⟩).run Try.prog w = .ok (.value (.agg (w.rowD (vB (ρ x)) (vO (ρ x)) 46))) w := exec_load_any rowPlan ρ x d t ps af gd w hx h
@[go_sem ↓ high] theorem loadItem (hx : vP (ρ x) = true) (h : w.hasRow (vB (ρ x)) (vO (ρ x)) 2 = true) : (execOp ρ ⟨d, .load 31 x, t, ps, af, gd⟩).run Try.prog w = .ok (.value (.agg (w.rowD (vB (ρ x)) (vO (ρ x)) 2))) w := exec_load_any rowItem ρ x d t ps af gd w hx h
@[go_sem ↓ high] theorem loadShape (hx : vP (ρ x) = true) (h : w.hasRow (vB (ρ x)) (vO (ρ x)) 2 = true) : (execOp ρ ⟨d, .load 24 x, t, ps, af, gd⟩).run Try.prog w = .ok (.value (.agg (w.rowD (vB (ρ x)) (vO (ρ x)) 2))) w := exec_load_any rowShape ρ x d t ps af gd w hx h
@[go_sem ↓ high] theorem loadLine (hx : vP (ρ x) = true) (h : w.hasRow (vB (ρ x)) (vO (ρ x)) 32 = true) : (execOp ρ ⟨d, .load 40 x, t, ps, af, gd⟩).run Try.prog w = .ok (.value (.agg (w.rowD (vB (ρ x)) (vO (ρ x)) 32))) w := exec_load_any rowLine ρ x d t ps af gd w hx h
@[go_sem ↓ high] theorem loadCached (hx : vP (ρ x) = true) (h : w.hasRow (vB (ρ x)) (vO (ρ x)) 36 = true) : (execOp ρ ⟨d, .load 49 x, t, ps, af, gd⟩).run Try.prog w = .ok (.value (.agg (w.rowD (vB (ρ x)) (vO (ρ x)) 36))) w := exec_load_any rowCached ρ x d t ps af gd w hx h
@[go_sem ↓ high] theorem storePlan (hx : vP (ρ x) = true) (hy : vG (ρ y) = true) (hn : (vA (ρ y)).size = 46) (h : w.hasRow (vB (ρ x)) (vO (ρ x)) 46 = true) (hl : w.loose (vB (ρ x)) = true) (h1 : oneAll (vA (ρ y)) = true) : (execOp ρ ⟨d, .store 28 x y, t, ps, af, gd⟩).run Try.prog w = .ok .skip (w.putRow (vB (ρ x)) (vO (ρ x)) (vA (ρ y))) := exec_store_any rowPlan.size ρ x y d t ps af gd w hx hy hn h hl h1
@[go_sem ↓ high] theorem storeItem (hx : vP (ρ x) = true) (hy : vG (ρ y) = true) (hn : (vA (ρ y)).size = 2) (h : w.hasRow (vB (ρ x)) (vO (ρ x)) 2 = true) (hl : w.loose (vB (ρ x)) = true) (h1 : oneAll (vA (ρ y)) = true) : (execOp ρ ⟨d, .store 31 x y, t, ps, af, gd⟩).run Try.prog w = .ok .skip (w.putRow (vB (ρ x)) (vO (ρ x)) (vA (ρ y))) := exec_store_any rowItem.size ρ x y d t ps af gd w hx hy hn h hl h1
@[go_sem ↓ high] theorem storeLine (hx : vP (ρ x) = true) (hy : vG (ρ y) = true) (hn : (vA (ρ y)).size = 32) (h : w.hasRow (vB (ρ x)) (vO (ρ x)) 32 = true) (hl : w.loose (vB (ρ x)) = true) (h1 : oneAll (vA (ρ y)) = true) : (execOp ρ ⟨d, .store 40 x y, t, ps, af, gd⟩).run Try.prog w = .ok .skip (w.putRow (vB (ρ x)) (vO (ρ x)) (vA (ρ y))) := exec_store_any rowLine.size ρ x y d t ps af gd w hx hy hn h hl h1
@[go_sem ↓ high] theorem storeCached (hx : vP (ρ x) = true) (hy : vG (ρ y) = true) (hn : (vA (ρ y)).size = 36) (h : w.hasRow (vB (ρ x)) (vO (ρ x)) 36 = true) (hl : w.loose (vB (ρ x)) = true) (h1 : oneAll (vA (ρ y)) = true) : (execOp ρ ⟨d, .store 49 x y, t, ps, af, gd⟩).run Try.prog w = .ok .skip (w.putRow (vB (ρ x)) (vO (ρ x)) (vA (ρ y))) := exec_store_any rowCached.size ρ x y d t ps af gd w hx hy hn h hl h1
end
/-- A whole row put anew. -/
@[go_sem] theorem putCells_whole (c cs : Array Value) (h : cs.size = c.size) : putCells c 0 cs = cs := by
  simp [putCells, h]
def zCached : Cached := ⟨⟨0, 0⟩, 0, Vector.replicate 32 0, false⟩
theorem zeroCached (w : World) : (zeroValue 49).run Try.prog w = .ok (.agg (encCached zCached)) w := by
  unfold encCached
  kernel_rfl
@[go_sem ↓ high] theorem allocCached (ρ : Operand → Value) (d : Option Tmp) (t : TypeId) (ps : String) (af : Array Edge) (gd : Option (Nat × Bool)) (w : World) :
    (execOp ρ ⟨d, .alloc 49, t, ps, af, gd⟩).run Try.prog w = .ok (.value (.pointer (some ⟨w.heap.size, 0, none⟩))) (w.alloc (.cells (encCached zCached) 49)) := exec_alloc_any zeroCached ρ d t ps af gd w

/-! ### Slices of ints, of items, of what is cached -/
abbrev encInt (n : Int) : Array Value := #[.int .i64 n]
theorem eltInt : Elt Try.prog 86 3 encInt 1 8 :=
  ⟨Try.underlying86, elt_info (z := .int .i64 0) (by kernel_rfl) rfl, by omega, fun _ => rfl, fun _ => by simp [Value.oneCell']⟩
theorem eltItem : Elt Try.prog 41 31 encItem 2 16 :=
  ⟨Try.underlying41, elt_info (z := .agg (encItem ⟨0, 0⟩)) (by kernel_rfl) rfl, by omega, fun _ => rfl, fun _ => by simp [Value.oneCell']⟩
theorem eltCached : Elt Try.prog 46 49 encCached 36 64 :=
  ⟨Try.underlying46, elt_info (z := .agg (encCached zCached)) (by unfold encCached; kernel_rfl) (encCached_size _), by omega, encCached_size, encCached_one⟩
end Go.Proofs.Ytngmdedoboccoaa
