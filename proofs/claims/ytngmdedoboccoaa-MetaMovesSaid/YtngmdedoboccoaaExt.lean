/- The words of these walks: a world with other blocks behind it ('ext'), rows of cells in a block, and how the walk sees through them. Of no program. -/
import Derived.WalkKit
import Derived.BigQuiet
import Derived.KernelRfl
import Derived.Laws.IdiomCopy
import Derived.Deep.MidRow
import Derived.Lib.Hide
set_option linter.unusedVariables false
set_option linter.unusedSimpArgs false
set_option linter.unnecessarySimpa false
namespace Go.Proofs.Ytngmdedoboccoaa
open Go Go.RowKit

/-! ### A world, other blocks behind it, another count of draws -/
structure Ext where
  objs : Array Obj
  d : Nat
instance : Inhabited Ext := ⟨⟨#[], 0⟩⟩
def _root_.Go.World.ext (w : World) (x : Ext) : World := { w with heap := w.heap ++ x.objs, drawn := x.d }
section
variable (w : World) (x y : Ext)
@[go_sem, simp] theorem size_ext : (w.ext x).heap.size = w.heap.size + x.objs.size := by simp [World.ext]
theorem heap_ext (b : Nat) (h : b < w.heap.size) : (w.ext x).heap[b]? = w.heap[b]? := by
  simp only [World.ext]; rw [Array.getElem?_append_left h]
def _root_.Go.World.cellFar (w : World) (b i : Nat) : Option Value := w.cell? ⟨b, i, none⟩
def _root_.Go.World.frozenFar (w : World) (b i : Nat) : Bool := w.frozen? ⟨b, i, none⟩
@[go_sem high] theorem cell_ext (b i : Nat) : (w.ext x).cell? ⟨b, i, none⟩ = if b < w.heap.size then w.cell? ⟨b, i, none⟩ else (w.ext x).cellFar b i := by
  split
  · rename_i h; simp only [World.cell?, heap_ext w x b h]
  · rfl
@[go_sem high] theorem frozen_ext (b i : Nat) : (w.ext x).frozen? ⟨b, i, none⟩ = if b < w.heap.size then w.frozen? ⟨b, i, none⟩ else (w.ext x).frozenFar b i := by
  split
  · rename_i h; simp only [World.frozen?, heap_ext w x b h]
  · rfl
@[go_sem] theorem ext_ext : (w.ext x).ext y = w.ext ⟨x.objs ++ y.objs, y.d⟩ := by simp [World.ext]
@[go_sem] theorem drew_ext : w.drew.ext x = w.ext x := Eq.trans rfl rfl
@[go_sem] theorem ext_drew : (w.ext x).drew = w.ext ⟨x.objs, x.d + 1⟩ := Eq.trans rfl rfl
theorem ext_drewN (n : Nat) : (w.ext x).drewN n = w.ext ⟨x.objs, x.d + n⟩ := by
  induction n with
  | zero => rfl
  | succ n ih => show ((w.ext x).drewN n).drew = _; rw [ih]; rfl
theorem drewN_is (n : Nat) : w.drewN n = { w with drawn := w.drawn + n } := by
  induction n with
  | zero => rfl
  | succ n ih => show (w.drewN n).drew = _; rw [ih]; rfl
@[go_sem] theorem drewN_ext (n : Nat) : (w.drewN n).ext x = w.ext x := by rw [drewN_is]; rfl
/-- Nothing behind it. -/
theorem ext_none : w.ext ⟨#[], w.drawn⟩ = w := by simp [World.ext]
theorem drew_as_ext : w.drew = w.ext ⟨#[], w.drawn + 1⟩ := by
  show { w with drawn := w.drawn + 1 } = _
  simp only [World.ext, Array.append_empty]
theorem alloc_as_ext (o : Obj) : w.alloc o = w.ext ⟨#[o], w.drawn⟩ := by
  show { w with heap := w.heap.push o } = _
  simp only [World.ext, Array.push_eq_append]
theorem ha_old (o : Obj) (i : Nat) (h : i < w.heap.size) : (w.alloc o).heap[i]? = w.heap[i]? := by
  show (w.heap.push o)[i]? = w.heap[i]?
  rw [Array.getElem?_push, if_neg (Nat.ne_of_lt h)]
theorem ha_new (o : Obj) : (w.alloc o).heap[w.heap.size]? = some o := by
  show (w.heap.push o)[w.heap.size]? = some o
  simp
end
theorem ext_of_below {w w' : World} (h : Below w.heap.size w w') : ∃ x, w' = w.ext x := by
  refine ⟨⟨w'.heap.extract w.heap.size w'.heap.size, w'.drawn⟩, ?_⟩
  obtain ⟨h1, h2, h3, h4, h5⟩ := h
  have e : w'.heap = w.heap ++ w'.heap.extract w.heap.size w'.heap.size := by
    apply Array.ext_getElem?
    intro i
    by_cases hi : i < w.heap.size
    · rw [Array.getElem?_append_left hi, h5 i hi]
    · rw [Array.getElem?_append_right (by omega)]
      simp [Array.getElem?_extract]
      by_cases h6 : i < w'.heap.size
      · rw [if_pos (by omega)]; congr 1; omega
      · rw [if_neg (by omega)]; simp; omega
  cases w' with
  | mk a b c d e' =>
    simp only at h1 h2 h3 e
    subst h1 h2 h3
    show World.mk a w.tape c w.os w.output = World.mk _ _ _ _ _
    rw [← e]
theorem below_ext (w : World) (x : Ext) : Below w.heap.size w (w.ext x) := ⟨rfl, rfl, rfl, by simp, fun k hk => heap_ext w x k hk⟩

/-- The world has grown, and what was there is as it was. -/
def Grew (w w' : World) : Prop := ∃ x, w' = w.ext x
theorem Grew.refl (w : World) : Grew w w := ⟨_, (ext_none w).symm⟩
theorem Grew.trans {a b c : World} (h : Grew a b) (k : Grew b c) : Grew a c := by
  obtain ⟨x, rfl⟩ := h
  obtain ⟨y, rfl⟩ := k
  exact ⟨_, ext_ext _ _ _⟩
theorem Grew.alloc {a b : World} (h : Grew a b) (o : Obj) : Grew a (b.alloc o) := h.trans ⟨_, alloc_as_ext b o⟩
theorem Grew.drew {a b : World} (h : Grew a b) : Grew a b.drew := h.trans ⟨_, drew_as_ext b⟩
theorem Grew.drewN {a b : World} (h : Grew a b) (n : Nat) : Grew a (b.drewN n) := by
  rw [drewN_is]
  exact h.trans ⟨⟨#[], b.drawn + n⟩, by simp only [World.ext, Array.append_empty]⟩
theorem Grew.ext {a b : World} (h : Grew a b) (x : Ext) : Grew a (b.ext x) := h.trans ⟨_, rfl⟩
theorem Grew.below {a b : World} (h : Grew a b) : Below a.heap.size a b := by obtain ⟨x, rfl⟩ := h; exact below_ext a x
theorem Grew.of_below {a b : World} (h : Below a.heap.size a b) : Grew a b := ext_of_below h
theorem Grew.size {a b : World} (h : Grew a b) : a.heap.size ≤ b.heap.size := h.below.size
theorem Grew.heap {a b : World} (h : Grew a b) {k : Nat} (hk : k < a.heap.size) : b.heap[k]? = a.heap[k]? := h.below.block k hk
theorem Grew.setCell {a b : World} (h : Grew a b) {p : Addr} (hp : a.heap.size ≤ p.block) (v : Value) : Grew a (b.setCell p v) := .of_below (h.below.setCell hp v)

/-! ### Rows of cells in a block -/
def _root_.Go.World.rowD (w : World) (b o n : Nat) : Array Value :=
  match w.heap[b]? with
  | some (.cells c _ _) => c.extract o (o + n)
  | _ => #[]
def _root_.Go.World.hasRow (w : World) (b o n : Nat) : Bool :=
  match w.heap[b]? with
  | some (.cells c _ _) => decide (o + n ≤ c.size)
  | _ => false
/-- May the block be written? -/
def _root_.Go.World.loose (w : World) (b : Nat) : Bool :=
  match w.heap[b]? with
  | some (.cells _ _ fr) => fr == (0, 0)
  | _ => false
/-- Cells of a block anew. -/
def putCells (c : Array Value) (o : Nat) (cs : Array Value) : Array Value := c.extract 0 o ++ cs ++ c.extract (o + cs.size) c.size
def _root_.Go.World.putRow (w : World) (b o : Nat) (cs : Array Value) : World :=
  { w with heap := w.heap.modify b fun
      | .cells c t fr => .cells (putCells c o cs) t fr
      | x => x }
section
variable (w : World) (x : Ext)
/-- The same functions under other names: where the block isn't below. -/
def _root_.Go.World.rowFar (w : World) (b o n : Nat) : Array Value := w.rowD b o n
def _root_.Go.World.hasFar (w : World) (b o n : Nat) : Bool := w.hasRow b o n
def _root_.Go.World.looseFar (w : World) (b : Nat) : Bool := w.loose b
@[go_sem] theorem rowD_ext (b o n : Nat) : (w.ext x).rowD b o n = if b < w.heap.size then w.rowD b o n else (w.ext x).rowFar b o n := by
  split
  · rename_i h; simp only [World.rowD, heap_ext w x b h]
  · rfl
@[go_sem] theorem hasRow_ext (b o n : Nat) : (w.ext x).hasRow b o n = if b < w.heap.size then w.hasRow b o n else (w.ext x).hasFar b o n := by
  split
  · rename_i h; simp only [World.hasRow, heap_ext w x b h]
  · rfl
@[go_sem] theorem loose_ext (b : Nat) : (w.ext x).loose b = if b < w.heap.size then w.loose b else (w.ext x).looseFar b := by
  split
  · rename_i h; simp only [World.loose, heap_ext w x b h]
  · rfl
@[go_sem] theorem rowD_drew (b o n : Nat) : w.drew.rowD b o n = w.rowD b o n := Eq.trans rfl rfl
@[go_sem] theorem hasRow_drew (b o n : Nat) : w.drew.hasRow b o n = w.hasRow b o n := Eq.trans rfl rfl
@[go_sem] theorem loose_drew (b : Nat) : w.drew.loose b = w.loose b := Eq.trans rfl rfl
@[go_sem] theorem rowD_drewN (k b o n : Nat) : (w.drewN k).rowD b o n = w.rowD b o n := by rw [drewN_is]; rfl
@[go_sem] theorem hasRow_drewN (k b o n : Nat) : (w.drewN k).hasRow b o n = w.hasRow b o n := by rw [drewN_is]; rfl
@[go_sem] theorem loose_drewN (k b : Nat) : (w.drewN k).loose b = w.loose b := by rw [drewN_is]; rfl
theorem ha_any (ob : Obj) (n : Nat) : (w.alloc ob).heap[n]? = if n = w.heap.size then some ob else w.heap[n]? := by
  show (w.heap.push ob)[n]? = _
  rw [Array.getElem?_push]
def objRow (ob : Obj) (o k : Nat) : Array Value :=
  match ob with
  | .cells c _ _ => c.extract o (o + k)
  | _ => #[]
def objHas (ob : Obj) (o k : Nat) : Bool :=
  match ob with
  | .cells c _ _ => decide (o + k ≤ c.size)
  | _ => false
def objLoose (ob : Obj) : Bool :=
  match ob with
  | .cells _ _ fr => fr == (0, 0)
  | _ => false
@[go_sem] theorem objRow_cells (c : Array Value) (t : TypeId) (fr : Nat × Nat) (o k : Nat) : objRow (.cells c t fr) o k = c.extract o (o + k) := Eq.trans rfl rfl
@[go_sem] theorem objHas_cells (c : Array Value) (t : TypeId) (fr : Nat × Nat) (o k : Nat) : objHas (.cells c t fr) o k = decide (o + k ≤ c.size) := Eq.trans rfl rfl
@[go_sem] theorem objLoose_cells (c : Array Value) (t : TypeId) : objLoose (.cells c t) = true := Eq.trans rfl rfl
@[go_sem] theorem rowD_alloc (ob : Obj) (n o k : Nat) : (w.alloc ob).rowD n o k = if n = w.heap.size then objRow ob o k else w.rowD n o k := by
  by_cases h : n = w.heap.size
  · simp only [World.rowD, ha_any, if_pos h]
    cases ob <;> rfl
  · simp only [World.rowD, ha_any, if_neg h]
@[go_sem] theorem hasRow_alloc (ob : Obj) (n o k : Nat) : (w.alloc ob).hasRow n o k = if n = w.heap.size then objHas ob o k else w.hasRow n o k := by
  by_cases h : n = w.heap.size
  · simp only [World.hasRow, ha_any, if_pos h]
    cases ob <;> rfl
  · simp only [World.hasRow, ha_any, if_neg h]
@[go_sem] theorem loose_alloc (ob : Obj) (n : Nat) : (w.alloc ob).loose n = if n = w.heap.size then objLoose ob else w.loose n := by
  by_cases h : n = w.heap.size
  · simp only [World.loose, ha_any, if_pos h]
    cases ob <;> rfl
  · simp only [World.loose, ha_any, if_neg h]
@[go_sem high] theorem cell_alloc (c : Array Value) (ty : TypeId) (n i : Nat) : (w.alloc (.cells c ty)).cell? ⟨n, i, none⟩ = if n = w.heap.size then c[i]? else w.cell? ⟨n, i, none⟩ := by
  by_cases h : n = w.heap.size
  · simp only [World.cell?, ha_any, if_pos h]; rfl
  · simp only [World.cell?, ha_any, if_neg h]
@[go_sem high] theorem frozen_alloc (c : Array Value) (ty : TypeId) (n i : Nat) : (w.alloc (.cells c ty)).frozen? ⟨n, i, none⟩ = if n = w.heap.size then false else w.frozen? ⟨n, i, none⟩ := by
  by_cases h : n = w.heap.size
  · simp [World.frozen?, ha_any, if_pos h]
  · simp only [World.frozen?, ha_any, if_neg h]
@[go_sem] theorem lt_size1 (a : Nat) (h : a < w.heap.size) : (a < w.heap.size + 1) = True := by simp only [eq_iff_iff, iff_true]; omega
@[go_sem] theorem lt_size2 (a : Nat) (h : a < w.heap.size) : (a < w.heap.size + 1 + 1) = True := by simp only [eq_iff_iff, iff_true]; omega
@[go_sem] theorem lt_size3 (a : Nat) (h : a < w.heap.size) : (a < w.heap.size + 1 + 1 + 1) = True := by simp only [eq_iff_iff, iff_true]; omega
@[go_sem] theorem lt_size4 (a : Nat) (h : a < w.heap.size) : (a < w.heap.size + 1 + 1 + 1 + 1) = True := by simp only [eq_iff_iff, iff_true]; omega
@[go_sem] theorem ne_size0 (a : Nat) (h : a < w.heap.size) : (a = w.heap.size) = False := by simp only [eq_iff_iff, iff_false]; omega
@[go_sem] theorem ne_size1 (a : Nat) (h : a < w.heap.size) : (a = w.heap.size + 1) = False := by simp only [eq_iff_iff, iff_false]; omega
@[go_sem] theorem ne_size2 (a : Nat) (h : a < w.heap.size) : (a = w.heap.size + 1 + 1) = False := by simp only [eq_iff_iff, iff_false]; omega
@[go_sem] theorem ne_size3 (a : Nat) (h : a < w.heap.size) : (a = w.heap.size + 1 + 1 + 1) = False := by simp only [eq_iff_iff, iff_false]; omega
@[go_sem] theorem lt_sizeA (a c : Nat) (h : a < w.heap.size) : (a < w.heap.size + c) = True := by simp only [eq_iff_iff, iff_true]; omega
@[go_sem] theorem lt_sizeB (a b c : Nat) (h : a < b) : (a < b + c) = True := by simp only [eq_iff_iff, iff_true]; omega
@[go_sem] theorem ne_two (a : Nat) : (a = a + 1 + 1) = False := by simp only [eq_iff_iff, iff_false]; omega
@[go_sem] theorem ne_two' (a : Nat) : (a + 1 + 1 = a) = False := by simp only [eq_iff_iff, iff_false]; omega
@[go_sem] theorem ne_three (a : Nat) : (a = a + 1 + 1 + 1) = False := by simp only [eq_iff_iff, iff_false]; omega
@[go_sem] theorem ne_three' (a : Nat) : (a + 1 + 1 + 1 = a) = False := by simp only [eq_iff_iff, iff_false]; omega
@[go_sem] theorem ne_four (a : Nat) : (a = a + 1 + 1 + 1 + 1) = False := by simp only [eq_iff_iff, iff_false]; omega
@[go_sem] theorem ne_four' (a : Nat) : (a + 1 + 1 + 1 + 1 = a) = False := by simp only [eq_iff_iff, iff_false]; omega
@[go_sem] theorem lt_two (a : Nat) : (a < a + 1 + 1) = True := by simp only [eq_iff_iff, iff_true]; omega
@[go_sem] theorem lt_three (a : Nat) : (a < a + 1 + 1 + 1) = True := by simp only [eq_iff_iff, iff_true]; omega
@[go_sem] theorem lt_four (a : Nat) : (a < a + 1 + 1 + 1 + 1) = True := by simp only [eq_iff_iff, iff_true]; omega
@[go_sem] theorem size_putRow (b o : Nat) (cs : Array Value) : (w.putRow b o cs).heap.size = w.heap.size := by simp [World.putRow]
@[go_sem] theorem putRow_alloc_at (c : Array Value) (t : TypeId) (n o : Nat) (cs : Array Value) (h : n = w.heap.size) : (w.alloc (.cells c t)).putRow n o cs = w.alloc (.cells (putCells c o cs) t) := by
  subst h
  simp only [World.putRow, World.alloc]
  congr 1
  apply Array.ext_getElem?
  intro i
  rw [Array.getElem?_modify]
  by_cases hi : w.heap.size = i
  · subst hi; simp
  · simp only [hi, if_false]
    rw [Array.getElem?_push, Array.getElem?_push]
    simp [Ne.symm hi]
@[go_sem] theorem putRow_alloc_past (ob : Obj) (n o : Nat) (cs : Array Value) (h : n < w.heap.size) : (w.alloc ob).putRow n o cs = (w.putRow n o cs).alloc ob := by
  simp only [World.putRow, World.alloc]
  congr 1
  apply Array.ext_getElem?
  intro i
  rw [Array.getElem?_modify, Array.getElem?_push, Array.getElem?_push, Array.getElem?_modify]
  simp only [Array.size_modify]
  split <;> split <;> first | rfl | omega
@[go_sem] theorem putRow_ext (n o : Nat) (cs : Array Value) (h : n < w.heap.size) : (w.ext x).putRow n o cs = (w.putRow n o cs).ext x := by
  simp only [World.putRow, World.ext]
  congr 1
  apply Array.ext_getElem?
  intro i
  rw [Array.getElem?_modify, Array.getElem?_append, Array.getElem?_append, Array.getElem?_modify]
  simp only [Array.size_modify]
  by_cases h1 : n = i
  · subst h1; simp [h]
  · by_cases h2 : i < w.heap.size <;> simp [h1, h2]
@[go_sem] theorem putRow_drew (n o : Nat) (cs : Array Value) : w.drew.putRow n o cs = (w.putRow n o cs).drew := Eq.trans rfl rfl
theorem setCell_ext (n i : Nat) (v : Value) (h : n < w.heap.size) : (w.ext x).setCell ⟨n, i, none⟩ v = (w.setCell ⟨n, i, none⟩ v).ext x := by
  simp only [World.setCell, World.ext]
  congr 1
  apply Array.ext_getElem?
  intro k
  rw [Array.getElem?_modify, Array.getElem?_append, Array.getElem?_append, Array.getElem?_modify]
  simp only [Array.size_modify]
  by_cases h1 : n = k
  · subst h1; simp [h]
  · by_cases h2 : k < w.heap.size <;> simp [h1, h2]
end
attribute [go_sem] setCell_ext

/-- All that a walk asks of a block that is known whole. -/
theorem block_facts {w : World} {b : Nat} {C : Array Value} {t : TypeId} (h : w.heap[b]? = some (.cells C t (0, 0))) :
    (∀ i, w.cell? ⟨b, i, none⟩ = C[i]?) ∧ (∀ i, w.frozen? ⟨b, i, none⟩ = false) ∧ (∀ o n, w.rowD b o n = C.extract o (o + n)) ∧ (∀ o n, w.hasRow b o n = decide (o + n ≤ C.size)) ∧ w.loose b = true ∧ b < w.heap.size :=
  ⟨fun i => cell_of_row w b i C t _ h, fun i => frozen_of_row w b i C t h, fun o n => by simp only [World.rowD, h], fun o n => by simp only [World.hasRow, h], by simp [World.loose, h], lt_of_block h⟩

/-! ### A struct or an array, loaded and stored by its row -/
section
variable {P : Program}
/-- What the table of types says of a struct or an array: how many cells. -/
structure IsRow (P : Program) (ty : TypeId) (n : Nat) : Prop where
  mk :: (row : ∃ d, P.underlying ty = some d ∧ d.isRow = true) (size : (P.info? ty).map (·.size) = some n)
theorem run_loadAt_rowD {ty : TypeId} {n : Nat} (H : IsRow P ty n) (w : World) (b o : Nat) (h : w.hasRow b o n = true) :
    (Instr.loadAt ty (.pointer (some ⟨b, o, none⟩))).run P w = .ok (.agg (w.rowD b o n)) w := by
  obtain ⟨⟨d, hu, hd⟩, hi⟩ := H
  unfold World.hasRow at h
  split at h
  · rename_i c t fr hb
    have hle : o + n ≤ c.size := of_decide_eq_true h
    have := run_loadAt_mid (P := P) w b o ty (c.extract o (o + n)).toList d (World.rangeAt_of_block hb o n) hu hd (by rw [hi]; congr 1; simp; omega)
    rw [this]
    simp only [World.rowD, hb, Array.toArray_toList]
  · cases h
theorem setCells_putRow (b t : Nat) : ∀ (vs : List Value) (o : Nat) (w : World) (c : Array Value), w.heap[b]? = some (.cells c t (0, 0)) → o + vs.length ≤ c.size → w.setCells b o vs = w.putRow b o vs.toArray
  | [], o, w, c, hb, hl => by
    simp only [World.setCells, World.putRow]
    have e : w.heap.modify b (fun | .cells c t fr => .cells (putCells c o (#[] : Array Value)) t fr | x => x) = w.heap := by
      apply Array.ext_getElem?
      intro i
      rw [Array.getElem?_modify]
      split
      · rename_i hi; subst hi
        rw [hb]
        simp only [Option.map_some, putCells]
        congr 2
        simp at hl
        simp [hl]
      · rfl
    rw [e]
  | v :: vs, o, w, c, hb, hl => by
    simp only [List.length_cons] at hl
    have h1 := heap_setCell_same w b o c t v hb
    rw [World.setCells, setCells_putRow b t vs (o + 1) _ _ h1 (by simp; omega)]
    simp only [World.putRow, World.setCell]
    congr 1
    apply Array.ext_getElem?
    intro i
    simp only [Array.getElem?_modify]
    by_cases hi : b = i
    · subst hi
      simp only [if_true, hb, Option.map_some]
      congr 2
      simp only [putCells]
      apply Array.ext_getElem?
      intro k
      simp [Array.getElem?_append, Array.getElem?_extract, Array.getElem?_setIfInBounds]
      by_cases k1 : k < o
      · simp [k1, show min o c.size = o by omega, show min (o + 1) c.size = o + 1 by omega, show k < o + 1 by omega, show o ≠ k by omega]
      · by_cases k2 : k = o
        · subst k2; simp [show min k c.size = k by omega, show min (k + 1) c.size = k + 1 by omega, show k < c.size by omega]
        · by_cases k3 : k < o + (vs.length + 1)
          · simp [k1, show min o c.size = o by omega, show min (o + 1) c.size = o + 1 by omega, show ¬ k < o + 1 by omega, show k - (o + 1) < vs.length by omega, show k - o - 1 = k - (o + 1) by omega, show k - o = (k - (o + 1)) + 1 by omega, k3]
          · rw [show min o c.size = o by omega, show min (o + 1) c.size = o + 1 by omega]
            rw [if_neg (by omega : ¬ k < o + 1), if_neg (by omega : ¬ k - (o + 1) < vs.length), if_neg (by omega : ¬ k < o), if_neg (by omega : ¬ k - o < vs.length + 1)]
            by_cases k4 : k < c.size
            · rw [if_pos (by omega), if_neg (by omega), if_pos (by omega)]
              congr 1; omega
            · rw [if_neg (by omega), if_neg (by omega)]
    · simp [hi]
theorem run_storeAt_putRow {ty : TypeId} {n : Nat} (hi : (P.info? ty).map (·.size) = some n) (w : World) (b o : Nat) (cs : Array Value) (hn : cs.size = n) (h : w.hasRow b o n = true) (hl : w.loose b = true) (h1 : cs.all (·.oneCell') = true) :
    (Instr.storeAt ty (.pointer (some ⟨b, o, none⟩)) (.agg cs)).run P w = .ok () (w.putRow b o cs) := by
  unfold World.hasRow at h
  unfold World.loose at hl
  split at h
  · rename_i c t fr hb
    rw [hb] at hl
    have hfr : fr = (0, 0) := by simpa using hl
    subst hfr
    have hle : o + n ≤ c.size := of_decide_eq_true h
    have hth : w.there b o cs.size := fun j hj => ⟨by rw [cell_of_row w b (o + j) c t _ hb, Array.getElem?_eq_getElem (by omega)]; rfl, frozen_of_row w b _ c t hb⟩
    rw [run_storeAt_mid w b o ty cs hth (by rw [hi, hn]) h1, setCells_putRow b t cs.toList o w c hb (by simp; omega)]
  · cases h
end

theorem run_loadVar_rowD {P : Program} {ty : TypeId} {n : Nat} (H : IsRow P ty n) (w : World) (b o : Nat) (h : w.hasRow b o n = true) : (loadVar ty ⟨b, o, none⟩).run P w = .ok (.agg (w.rowD b o n)) w := by
  have := run_loadAt_rowD H w b o h
  simpa only [Instr.loadAt, Instr.sureAddr, Sem.run_bind, Sem.run_pure, Result.andThen_ok] using this
/-! ### Results that are structs -/
theorem results_row {P : Program} {fn : Func} {p : Tmp} {ty : TypeId} {n : Nat} (h : fn.results = #[.cell p ty]) (H : IsRow P ty n) (tmps : Array Value) (w : World) (b o : Nat) (c : Array Value)
    (hp : tmps.getD p undef = .pointer (some ⟨b, o, none⟩)) (hr : w.hasRow b o n = true) (hc : w.rowD b o n = c) : (results fn tmps).run P w = .ok (.agg c) w := by
  have hp' : tmps[p]?.getD undef = .pointer (some ⟨b, o, none⟩) := by simpa using hp
  subst hc
  simp [results, h, hp', asAddr, run_loadVar_rowD H w b o hr]
theorem results_row_tmp {P : Program} {fn : Func} {p u : Tmp} {ty : TypeId} {n : Nat} (h : fn.results = #[.cell p ty, .tmp u]) (H : IsRow P ty n) (tmps : Array Value) (w : World) (b o : Nat) (c : Array Value) (v : Value)
    (hp : tmps.getD p undef = .pointer (some ⟨b, o, none⟩)) (hv : tmps.getD u undef = v) (hr : w.hasRow b o n = true) (hc : w.rowD b o n = c) : (results fn tmps).run P w = .ok (.tuple #[.agg c, v]) w := by
  have hp' : tmps[p]?.getD undef = .pointer (some ⟨b, o, none⟩) := by simpa using hp
  subst hc hv
  simp [results, h, hp', asAddr, run_loadVar_rowD H w b o hr]
/-! ### The same, met by the walk ahead of all else: the pointer is whatever value the slot holds -/
def vB : Value → Nat
  | .pointer (some a) => a.block
  | _ => 0
def vO : Value → Nat
  | .pointer (some a) => a.off
  | _ => 0
def vP : Value → Bool
  | .pointer (some a) => a.spot.isNone
  | _ => false
def vA : Value → Array Value
  | .agg cs => cs
  | _ => #[]
/-- Each is one cell. -/
def oneAll (cs : Array Value) : Bool := cs.all (·.oneCell')
@[go_sem] theorem oneAll_int1 (k : IntKind) (a : Int) : oneAll #[.int k a] = true := by simp [oneAll, Value.oneCell']
@[go_sem] theorem oneAll_int2 (k k' : IntKind) (a b : Int) : oneAll #[.int k a, .int k' b] = true := by simp [oneAll, Value.oneCell']
@[go_sem] theorem oneAll_int3 (k k' k'' : IntKind) (a b c : Int) : oneAll #[.int k a, .int k' b, .int k'' c] = true := by simp [oneAll, Value.oneCell']
def vG : Value → Bool
  | .agg _ => true
  | _ => false
@[go_sem] theorem vB_mk (b o : Nat) (s : Option Nat) : vB (.pointer (some ⟨b, o, s⟩)) = b := Eq.trans rfl rfl
@[go_sem] theorem vO_mk (b o : Nat) (s : Option Nat) : vO (.pointer (some ⟨b, o, s⟩)) = o := Eq.trans rfl rfl
@[go_sem] theorem vP_mk (b o : Nat) : vP (.pointer (some ⟨b, o, none⟩)) = true := Eq.trans rfl rfl
@[go_sem] theorem vA_mk (cs : Array Value) : vA (.agg cs) = cs := Eq.trans rfl rfl
@[go_sem] theorem vG_mk (cs : Array Value) : vG (.agg cs) = true := Eq.trans rfl rfl
section
variable {P : Program}
theorem run_loadAt_any {ty : TypeId} {n : Nat} (H : IsRow P ty n) (x : Value) (w : World) (hx : vP x = true) (h : w.hasRow (vB x) (vO x) n = true) :
    (Instr.loadAt ty x).run P w = .ok (.agg (w.rowD (vB x) (vO x) n)) w := by
  cases x with
  | pointer a =>
    cases a with
    | none => cases hx
    | some a =>
      obtain ⟨b, o, s⟩ := a
      cases s with
      | none => exact run_loadAt_rowD H w b o h
      | some s => cases hx
  | _ => cases hx
theorem run_storeAt_any {ty : TypeId} {n : Nat} (hi : (P.info? ty).map (·.size) = some n) (x y : Value) (w : World) (hx : vP x = true) (hy : vG y = true) (hn : (vA y).size = n) (h : w.hasRow (vB x) (vO x) n = true) (hl : w.loose (vB x) = true) (h1 : oneAll (vA y) = true) :
    (Instr.storeAt ty x y).run P w = .ok () (w.putRow (vB x) (vO x) (vA y)) := by
  cases x with
  | pointer a =>
    cases a with
    | none => cases hx
    | some a =>
      obtain ⟨b, o, s⟩ := a
      cases s with
      | none =>
        cases y with
        | agg cs => exact run_storeAt_putRow hi w b o cs hn h hl h1
        | _ => cases hy
      | some s => cases hx
  | _ => cases hx
theorem exec_load_any {ty : TypeId} {n : Nat} (H : IsRow P ty n) (ρ : Operand → Value) (x : Operand) (d : Option Tmp) (t : TypeId) (ps : String) (af : Array Edge) (gd : Option (Nat × Bool)) (w : World)
    (hx : vP (ρ x) = true) (h : w.hasRow (vB (ρ x)) (vO (ρ x)) n = true) :
    (execOp ρ ⟨d, .load ty x, t, ps, af, gd⟩).run P w = .ok (.value (.agg (w.rowD (vB (ρ x)) (vO (ρ x)) n))) w := by
  unfold execOp
  simp only [Sem.run_bind, Sem.run_pure, run_loadAt_any H (ρ x) w hx h, Result.andThen_ok]
theorem exec_store_any {ty : TypeId} {n : Nat} (hi : (P.info? ty).map (·.size) = some n) (ρ : Operand → Value) (x y : Operand) (d : Option Tmp) (t : TypeId) (ps : String) (af : Array Edge) (gd : Option (Nat × Bool)) (w : World)
    (hx : vP (ρ x) = true) (hy : vG (ρ y) = true) (hn : (vA (ρ y)).size = n) (h : w.hasRow (vB (ρ x)) (vO (ρ x)) n = true) (hl : w.loose (vB (ρ x)) = true) (h1 : oneAll (vA (ρ y)) = true) :
    (execOp ρ ⟨d, .store ty x y, t, ps, af, gd⟩).run P w = .ok .skip (w.putRow (vB (ρ x)) (vO (ρ x)) (vA (ρ y))) := by
  unfold execOp
  simp only [Sem.run_bind, Sem.run_pure, run_storeAt_any hi (ρ x) (ρ y) w hx hy hn h hl h1, Result.andThen_ok]
theorem exec_alloc_any {ty : TypeId} {z : Array Value} (hz : ∀ w, (zeroValue ty).run P w = .ok (.agg z) w) (ρ : Operand → Value) (d : Option Tmp) (t : TypeId) (ps : String) (af : Array Edge) (gd : Option (Nat × Bool)) (w : World) :
    (execOp ρ ⟨d, .alloc ty, t, ps, af, gd⟩).run P w = .ok (.value (.pointer (some ⟨w.heap.size, 0, none⟩))) (w.alloc (.cells z ty)) := by
  unfold execOp Instr.alloc
  simp only [Sem.run_bind, Sem.run_pure, hz, Result.andThen_ok]
  rfl
end

/-! ### A region that draws its order, and whose operations and callees only read, or lay blocks of their own -/
theorem wp_region_calm {P : Program} {id : Nat} {Q : Exit → Act → World → Prop} {a : Act} {w : World} {l : List Oper} (hm : P.follows .mixedOrders = true) (hB : Region.lexB .any l.toArray = true)
    (h : wpQuiet P l.toArray (fun w' => ∃ n, w' = w.ext n) (fun a' => ∀ w', (∃ n, w' = w.ext n) → Q .normal a' w') l a) : (Code.region id l.toArray true).wp P Q a w :=
  wp_region_quiet (C := fun w' => ∃ n, w' = w.ext n) hm hB ⟨⟨#[], w.drawn + 1⟩, by simp only [World.ext, Array.append_empty]⟩ (by simpa using h)
@[go_sem ↓ high] theorem forall_ext (W : World) (F : World → Prop) : (∀ w', (∃ n, w' = W.ext n) → F w') = ∀ n, F (W.ext n) := by
  apply propext
  constructor
  · intro h n; exact h _ ⟨n, rfl⟩
  · rintro h _ ⟨n, rfl⟩; exact h n
/-- The same where the world at hand has an 'ext' outermost already. -/
theorem wp_region_calm_ext {P : Program} {id : Nat} {Q : Exit → Act → World → Prop} {a : Act} {w : World} {x : Ext} {l : List Oper} (hm : P.follows .mixedOrders = true) (hB : Region.lexB .any l.toArray = true)
    (h : wpQuiet P l.toArray (fun w' => ∃ n, w' = w.ext n) (fun a' => ∀ w', (∃ n, w' = w.ext n) → Q .normal a' w') l a) : (Code.region id l.toArray true).wp P Q a (w.ext x) :=
  wp_region_quiet (C := fun w' => ∃ n, w' = w.ext n) hm hB ⟨⟨x.objs, x.d + 1⟩, rfl⟩ (by simpa using h)
theorem _root_.Go.Calls.calm {P : Program} {f : FuncId} {args : Array Value} {w : World} {n : Ext} {v : Value}
    (h : Calls P f args (w.ext n) fun e w' => e = .returned v ∧ ∃ m, w' = (w.ext n).ext m) : Calls P f args (w.ext n) fun e w'' => e = .returned v ∧ ∃ m, w'' = w.ext m :=
  h.mono fun _ _ ⟨he, m, hm⟩ => ⟨he, _, hm.trans (ext_ext _ _ _)⟩


theorem _root_.Go.Calls.calmB {P : Program} {f : FuncId} {args : Array Value} {w : World} {n : Ext} {b c : Bool}
    (h : Calls P f args (w.ext n) fun e w' => e = .returned (.bool b) ∧ ∃ m, w' = (w.ext n).ext m) (hb : b = c) : Calls P f args (w.ext n) fun e w'' => e = .returned (.bool c) ∧ ∃ m, w'' = w.ext m := by
  subst hb; exact h.calm
/-! ### A slice of the call's own, of elements of several cells -/
structure Elt (P : Program) (t e : TypeId) {α : Type} (enc : α → Array Value) (k bytes : Nat) : Prop where
  ht : P.underlying t = some (.slice e)
  info : ∃ i z, P.info? e = some i ∧ i.zero = some z ∧ i.size = k ∧ i.bytes = bytes ∧ z.cells.size = k
  pos : 0 < k
  size : ∀ x, (enc x).size = k
  one : ∀ x, (enc x).all (·.oneCell') = true
theorem elt_info {P : Program} {e : TypeId} {z : Value} {k bytes : Nat} (h : (P.info? e).map (fun i => (i.zero, i.size, i.bytes)) = some (some z, k, bytes)) (hz : z.cells.size = k) :
    ∃ i z, P.info? e = some i ∧ i.zero = some z ∧ i.size = k ∧ i.bytes = bytes ∧ z.cells.size = k := by
  obtain ⟨i, h1, h2, h3, h4⟩ := info_parts h
  exact ⟨i, z, h1, h2, h3, h4, hz⟩
def flat {α : Type} (enc : α → Array Value) (xs : List α) : List Value := xs.flatMap fun x => (enc x).toList
theorem flat_length {α : Type} {enc : α → Array Value} {k : Nat} (h : ∀ x, (enc x).size = k) (xs : List α) : (flat enc xs).length = xs.length * k := by
  induction xs with
  | nil => simp [flat]
  | cons x xs ih => simp only [flat, List.flatMap_cons, List.length_append, List.length_cons] at *; rw [ih, Nat.add_mul, Array.length_toList, h]; omega
theorem flat_append {α : Type} (enc : α → Array Value) (xs ys : List α) : flat enc (xs ++ ys) = flat enc xs ++ flat enc ys := by simp [flat]
theorem flat_one {α : Type} (enc : α → Array Value) (x : α) : flat enc [x] = (enc x).toList := by simp [flat]
/-- Element i of a flat row. -/
theorem flat_get {α : Type} {enc : α → Array Value} {k : Nat} (h : ∀ x, (enc x).size = k) : ∀ (xs : List α) (i j : Nat) (x : α), xs[i]? = some x → j < k → (flat enc xs)[i * k + j]? = (enc x)[j]?
  | [], i, j, x, hx, _ => by simp at hx
  | y :: xs, 0, j, x, hx, hj => by
    simp at hx; subst hx
    simp only [flat, List.flatMap_cons, Nat.zero_mul, Nat.zero_add]
    rw [List.getElem?_append_left (by simp [h]; exact hj), Array.getElem?_toList]
  | y :: xs, i + 1, j, x, hx, hj => by
    simp at hx
    have := flat_get h xs i j x hx hj
    simp only [flat, List.flatMap_cons] at *
    rw [List.getElem?_append_right (by simp [h]; rw [Nat.add_mul]; omega), ← this]
    congr 1
    simp only [Array.length_toList, h]
    rw [Nat.add_mul]; omega
def Own {α : Type} (w : World) (base : Nat) (e : TypeId) (enc : α → Array Value) (k : Nat) (v : Value) (xs : List α) : Prop := w.ownsRow base e k v xs.length (flat enc xs)
theorem Own.nil {α : Type} (w : World) (base : Nat) (e : TypeId) (enc : α → Array Value) (k : Nat) : Own w base e enc k (.slice none 0 0) [] := World.ownsRow_nil w base e k
section
variable {α : Type} {w w' : World} {base : Nat} {e : TypeId} {enc : α → Array Value} {k : Nat} {v : Value} {xs : List α}
theorem Own.lt (h : Own w base e enc k v xs) : ∀ b, v.ownBlock = some b → base ≤ b ∧ b < w.heap.size := World.ownsRow.lt h
theorem Own.keep (h : Own w base e enc k v xs) (hk : ∀ b, v.ownBlock = some b → w'.heap[b]? = w.heap[b]?) : Own w' base e enc k v xs := by
  refine ⟨h.1, ?_⟩
  rcases h.2 with hn | ⟨g, cap, cur, rfl, hb, hgg, rest⟩
  · exact .inl hn
  · exact .inr ⟨g, cap, cur, rfl, hb, by rw [hk g rfl]; exact hgg, rest⟩
theorem Own.ext (h : Own w base e enc k v xs) (x : Ext) : Own (w.ext x) base e enc k v xs := h.keep fun b hb => heap_ext w x b (h.lt b hb).2
theorem Own.alloc (h : Own w base e enc k v xs) (o : Obj) : Own (w.alloc o) base e enc k v xs := h.keep fun b hb => ha_old w o b (h.lt b hb).2
theorem Own.drew (h : Own w base e enc k v xs) : Own w.drew base e enc k v xs := h.keep fun _ _ => rfl
theorem Own.grew (h : Own w base e enc k v xs) (hg : Grew w w') : Own w' base e enc k v xs := by obtain ⟨x, rfl⟩ := hg; exact h.ext x
theorem Own.low (h : Own w base e enc k v xs) {base' : Nat} (hb : base' ≤ base) : Own w base' e enc k v xs := by
  refine ⟨h.1, ?_⟩
  rcases h.2 with hn | ⟨g, cap, cur, rfl, hb', rest⟩
  · exact .inl hn
  · exact .inr ⟨g, cap, cur, rfl, by omega, rest⟩
/-- The shape of what is owned. -/
theorem Own.shape (h : Own w base e enc k v xs) : ∃ A c, v = .slice A xs.length c ∧ xs.length ≤ c ∧ c ≤ maxLen := by
  rcases h.2 with ⟨rfl, hn⟩ | ⟨g, cap, cur, rfl, _, _, h1, h2, _⟩
  · exact ⟨none, 0, by rw [hn], by omega, by simp [maxLen]⟩
  · exact ⟨_, cap, rfl, h1, h2⟩
/-- Where there is an element: its block. -/
theorem Own.block (h : Own w base e enc k v xs) (hp : 0 < xs.length) : ∃ g cap cur, v = .slice (some ⟨g, 0, none⟩) xs.length cap ∧ base ≤ g ∧ w.heap[g]? = some (.cells cur e (0, 0)) ∧ xs.length ≤ cap ∧ cap ≤ maxLen ∧ cur.size = cap * k ∧ cur.toList.take (xs.length * k) = flat enc xs := by
  rcases h.2 with ⟨rfl, hn⟩ | ⟨g, cap, cur, rfl, h1, h2, h3, h4, h5, h6⟩
  · omega
  · exact ⟨g, cap, cur, rfl, h1, h2, h3, h4, h5, h6⟩
/-- The cells of an element of a row that lies in a block. -/
theorem row_cell {cur : Array Value} {n : Nat} (hs : ∀ x, (enc x).size = k) (hf : cur.toList.take (n * k) = flat enc xs) (hn : xs.length = n) {i : Nat} {x : α} (hx : xs[i]? = some x) {j : Nat} (hj : j < k) : cur[i * k + j]? = (enc x)[j]? := by
  have hi : i < n := by have := (List.getElem?_eq_some_iff.1 hx).1; omega
  have h1 : i * k + j < n * k := by
    have : (i + 1) * k ≤ n * k := Nat.mul_le_mul_right _ hi
    rw [Nat.add_mul] at this; omega
  rw [← flat_get hs xs i j x hx hj, ← hf, List.getElem?_take, if_pos h1, Array.getElem?_toList]
theorem row_at {cur : Array Value} {n : Nat} (hs : ∀ x, (enc x).size = k) (hf : cur.toList.take (n * k) = flat enc xs) (hn : xs.length = n) {i : Nat} {x : α} (hx : xs[i]? = some x) : cur.extract (i * k) (i * k + k) = enc x ∧ i * k + k ≤ cur.size := by
  have hi : i < n := by have := (List.getElem?_eq_some_iff.1 hx).1; omega
  have hlen : n * k ≤ cur.size := by
    have h1 := congrArg List.length hf
    rw [flat_length hs, List.length_take, Array.length_toList, hn] at h1
    omega
  have h2 : i * k + k ≤ n * k := by
    have : (i + 1) * k ≤ n * k := Nat.mul_le_mul_right _ hi
    rw [Nat.add_mul] at this; omega
  refine ⟨?_, by omega⟩
  apply Array.ext_getElem?
  intro j
  rw [Array.getElem?_extract]
  by_cases hj : j < k
  · rw [if_pos (by omega), row_cell hs hf hn hx hj]
  · rw [if_neg (by omega), Array.getElem?_eq_none (by rw [hs]; omega)]
end
theorem Grew.grown {a b c : World} {row : Option Nat} (h : Grew a b) (hg : b.grownBy c row) (hr : ∀ k, row = some k → a.heap.size ≤ k) : Grew a c := .of_below (h.below.grown hg h.size hr)
theorem Grew.block {a b : World} (h : Grew a b) {k : Nat} {o : Obj} (hk : a.heap[k]? = some o) : b.heap[k]? = some o := (h.heap (lt_of_block hk)).trans hk
/-- append of one element that lies in a box of its own. -/
theorem app_own {P : Program} {ops : Array Oper} {rest : List Oper} {o : Oper} {a : Act} {Q : Exit → Act → World → Prop} {α : Type} {t e : TypeId} {enc : α → Array Value} {k bytes : Nat} (H : Elt P t e enc k bytes)
    (hgd : o.guard = none) (s x : Operand) (ho : o.op = .call { callee := .builtin .append, args := #[s, x], argTypes := #[t, t] })
    {w : World} {base : Nat} {v : Value} {xs : List α} (hown : Own w base e enc k v xs) (y : α) (nb : Nat) (hnb : w.heap[nb]? = some (.cells (enc y) e (0, 0)))
    (hs : a.eval s = v) (hx : a.eval x = .slice (some ⟨nb, 0, none⟩) 1 1) (hl : (xs.length + 1) * bytes ≤ 140737488355328) (hb0 : 0 < bytes) (hbase : base ≤ w.heap.size)
    (h : ∀ v' w', Own w' base e enc k v' (xs ++ [y]) → w.grownBy w' v.ownBlock → wpList P ops Q rest (a.put o.dst v') w') : wpList P ops Q (o :: rest) a w := by
  obtain ⟨ht, ⟨i, z, hi, hz, h1, h2, h3⟩, hp, hsz, hone⟩ := H
  have hlen : xs.length + 1 ≤ 140737488355328 := Nat.le_trans (Nat.le_mul_of_pos_right _ hb0) hl
  refine wpList_append_own w hgd s x t ho base e i z k bytes ht hi hz h1 h2 h3 hp v xs.length (flat enc xs) hs hown ⟨nb, 0, none⟩ 1 1 (enc y).toList hx (by simp [hsz]) (fun j u hu => ?_) (fun u hu => ?_) (by simp only [maxLen]; omega) hl hbase ?_
  · have e1 : (⟨nb, 0, none⟩ : Addr).add j = ⟨nb, j, none⟩ := by rw [Addr.add_mid]; simp
    rw [e1, cell_of_row w nb j _ _ _ hnb, ← Array.getElem?_toList]
    exact hu
  · exact Array.all_eq_true_iff_forall_mem.1 (hone y) u (by simpa using hu)
  · intro v' w' hown' hg _
    refine h v' w' ?_ hg
    unfold Own
    rw [List.length_append, List.length_singleton, flat_append, flat_one]
    exact hown'
end Go.Proofs.Ytngmdedoboccoaa
