/- Arguments opened: a plan, an item, bytes, the calls of a statement's slice. -/
import Derived.Test.YtngmdedoboccoaaLaw2
import Derived.Deep.Slices
import Derived.ChangeSame
import Derived.Below
import Derived.WideKeyArgs
set_option linter.unusedVariables false
set_option linter.unusedSimpArgs false
set_option maxRecDepth 100000
namespace Go.Proofs.Ytngmdedoboccoaa
open Go Go.RowKit Go.ChangeShapes Go.WideShapes

section
variable {H : Type} {enc : TypeId × Value → H} {P : Program} {w : World} {base : Nat} {spare : Nat → Bool} {held : Bool}
theorem field_at {t : TypeId} (hu : P.underlying t = some (.struct (P.fieldsOf t))) {fuel : Nat} {cs : List Value} {x : DataW H × List MemPlace} (h : DataW.trod enc P w base spare held fuel t cs = some x) :
    cs.length = P.cellsOf t ∧ ∃ n, ∀ ty off, (ty, off) ∈ (P.fieldsOf t).toList.map (fun f => (f.type, f.offset)) → ∃ y, DataW.trod enc P w base spare held n ty ((cs.drop off).take (P.cellsOf ty)) = some y := by
  obtain ⟨xs, n, _, _, hl, hlen, hf⟩ := DataW.trod_struct hu h
  refine ⟨hl, n, fun ty off hm => ?_⟩
  obtain ⟨f, hf1, hf2⟩ := List.mem_map.1 hm
  injection hf2 with e1 e2
  subst e1 e2
  obtain ⟨i, hi, he⟩ := List.mem_iff_getElem.1 hf1
  have h1 : (P.fieldsOf t)[i]? = some f := by
    rw [← Array.getElem?_toList, List.getElem?_eq_getElem hi, he]
  have h2 := hf i f h1
  have h3 : i < xs.length := by rw [hlen]; simpa using hi
  exact ⟨xs[i], by rw [h2]; exact List.getElem?_eq_getElem h3⟩
theorem array_at {t e : TypeId} {n : Nat} (hu : P.underlying t = some (.array n e)) {fuel : Nat} {cs : List Value} {x : DataW H × List MemPlace} (h : DataW.trod enc P w base spare held fuel t cs = some x) :
    cs.length = P.cellsOf t ∧ ∃ m, ∀ i, i < n → ∃ y, DataW.trod enc P w base spare held m e ((cs.drop (i * P.cellsOf e)).take (P.cellsOf e)) = some y := by
  cases fuel with
  | zero => simp [DataW.trod] at h
  | succ m =>
    rw [DataW.trod_step] at h
    unfold DataW.trodStep at h
    rw [hu] at h
    split at h <;> simp_all
    obtain ⟨hl, xs, hx, _⟩ := h
    refine ⟨m, fun i hi => ?_⟩
    have hg := mapM_some_get hx i i (by simp [hi])
    have hlt : i < xs.length := by rw [mapM_some_length hx]; simpa using hi
    exact ⟨xs[i].1, xs[i].2, by rw [hg, List.getElem?_eq_getElem hlt]⟩
theorem bytes_of {e : TypeId} {n : Nat} {t : TypeId} (hu : P.underlying t = some (.array n e)) (he : P.underlying e = some (.int .u8)) (hc : P.cellsOf e = 1) (hC : P.cellsOf t = n) {fuel : Nat} {cs : List Value} {x : DataW H × List MemPlace}
    (h : DataW.trod enc P w base spare held fuel t cs = some x) : ∃ v : Vector UInt8 n, cs = cB v := by
  obtain ⟨hl, m, hf⟩ := array_at hu h
  rw [hC] at hl
  rw [hc] at hf
  have hb : ∀ i (hi : i < n), ∃ b : UInt8, cs[i]? = some (.int .u8 b.toNat) := fun i hi => by
    obtain ⟨y, hy⟩ := hf i hi
    obtain ⟨k, hk, _, hw⟩ := DataW.trod_int he hy
    have h1 : cs[i]? = some (.int .u8 k) := by
      have := congrArg (fun l : List Value => l[0]?) hk
      simpa using this
    have hr : 0 ≤ k ∧ k ≤ 255 := by simpa [Lit.wf, IntKind.min, IntKind.max, IntKind.signed, IntKind.bits] using hw
    refine ⟨UInt8.ofNat k.toNat, ?_⟩
    rw [h1]
    have : (UInt8.ofNat k.toNat).toNat = k.toNat := by
      rw [UInt8.toNat_ofNat']
      omega
    rw [this]
    congr 2
    omega
  refine ⟨Vector.ofFn fun i => (hb i.1 i.2).choose, ?_⟩
  apply List.ext_getElem?
  intro i
  by_cases hi : i < n
  · rw [(hb i hi).choose_spec]
    simp [cB, hi]
  · rw [List.getElem?_eq_none (by omega), List.getElem?_eq_none (by simp; omega)]
theorem one_int {t : TypeId} {k : IntKind} (ht : P.underlying t = some (.int k)) {fuel : Nat} {cs : List Value} {x : DataW H × List MemPlace} (h : DataW.trod enc P w base spare held fuel t cs = some x) : ∃ n, cs = [.int k n] := by
  obtain ⟨n, h1, _⟩ := DataW.trod_int ht h
  exact ⟨n, h1⟩
theorem one_slice {t e : TypeId} (ht : P.underlying t = some (.slice e)) {fuel : Nat} {cs : List Value} {x : DataW H × List MemPlace} (h : DataW.trod enc P w base spare held fuel t cs = some x) : ∃ A n c, cs = [.slice A n c] := by
  rcases Go.Deep.open_slice ht h with ⟨h1, _⟩ | ⟨a, len, cap, m, n, D, Pl, h1, _⟩
  · exact ⟨_, _, _, h1⟩
  · exact ⟨_, _, _, h1⟩
end
theorem drop_take {α : Type} (cs : List α) (o n : Nat) : cs.drop o = (cs.drop o).take n ++ cs.drop (o + n) := by
  rw [← List.drop_drop, List.take_append_drop]
section
variable {H : Type} {enc : TypeId × Value → H} {w : World} {base : Nat} {spare : Nat → Bool} {held : Bool}
theorem itemUnder : Try.prog.underlying 31 = some (.struct (Try.prog.fieldsOf 31)) := by kernel_rfl
theorem itemFields : (Try.prog.fieldsOf 31).toList.map (fun f => (f.type, f.offset)) = [(3, 0), (3, 1)] := by kernel_rfl
theorem shapeUnder : Try.prog.underlying 24 = some (.struct (Try.prog.fieldsOf 24)) := by kernel_rfl
theorem shapeFields : (Try.prog.fieldsOf 24).toList.map (fun f => (f.type, f.offset)) = [(3, 0), (3, 1)] := by kernel_rfl
theorem planUnder : Try.prog.underlying 28 = some (.struct (Try.prog.fieldsOf 28)) := by kernel_rfl
theorem planFields : (Try.prog.fieldsOf 28).toList.map (fun f => (f.type, f.offset)) =
    [(3, 0), (3, 1), (3, 2), (3, 3), (3, 4), (3, 5), (22, 6), (24, 7), (24, 9), (3, 11), (3, 12), (3, 13), (26, 14), (26, 30)] := by kernel_rfl
theorem cellsInt : Try.prog.cellsOf 3 = 1 := by kernel_rfl
theorem cellsU64 : Try.prog.cellsOf 22 = 1 := by kernel_rfl
theorem cellsU8 : Try.prog.cellsOf 5 = 1 := by kernel_rfl
theorem cellsItem : Try.prog.cellsOf 31 = 2 := by kernel_rfl
theorem cellsShape : Try.prog.cellsOf 24 = 2 := by kernel_rfl
theorem cellsBlock : Try.prog.cellsOf 26 = 16 := by kernel_rfl
theorem cellsLine : Try.prog.cellsOf 40 = 32 := by kernel_rfl
theorem cellsPlan : Try.prog.cellsOf 28 = 46 := by kernel_rfl
theorem two_ints {t : TypeId} (hu : Try.prog.underlying t = some (.struct (Try.prog.fieldsOf t))) (hf : (Try.prog.fieldsOf t).toList.map (fun f => (f.type, f.offset)) = [(3, 0), (3, 1)]) (hc : Try.prog.cellsOf t = 2) {fuel : Nat} {cs : List Value} {x : DataW H × List MemPlace}
    (h : DataW.trod enc Try.prog w base spare held fuel t cs = some x) : ∃ a b, cs = [.int .i64 a, .int .i64 b] := by
  obtain ⟨hl, n, hf'⟩ := field_at hu h
  rw [hf] at hf'
  obtain ⟨_, h0⟩ := hf' 3 0 (by simp)
  obtain ⟨_, h1⟩ := hf' 3 1 (by simp)
  rw [cellsInt] at h0 h1
  obtain ⟨a, ha⟩ := one_int Try.underlying3 h0
  obtain ⟨b, hb⟩ := one_int Try.underlying3 h1
  refine ⟨a, b, ?_⟩
  have e0 := drop_take cs 0 1
  have e1 := drop_take cs 1 1
  rw [List.drop_zero] at e0
  rw [e0, ← List.drop_zero (l := cs), ha, show 0 + 1 = 1 from rfl]
  rw [List.drop_zero, e1, hb, List.drop_eq_nil_of_le (by omega)]
  rfl
theorem item_of {fuel : Nat} {cs : List Value} {x : DataW H × List MemPlace} (h : DataW.trod enc Try.prog w base spare held fuel 31 cs = some x) : ∃ i : Item, cs = [.int .i64 i.Level, .int .i64 i.Index] := by
  obtain ⟨a, b, h1⟩ := two_ints itemUnder itemFields cellsItem h
  exact ⟨⟨a, b⟩, h1⟩
theorem plan_of {fuel : Nat} {cs : List Value} {x : DataW H × List MemPlace} (h : DataW.trod enc Try.prog w base spare held fuel 28 cs = some x) : ∃ p : Plan, cs = cPlan p := by
  obtain ⟨hl, n, hf⟩ := field_at planUnder h
  rw [planFields] at hf
  rw [cellsPlan] at hl
  have int : ∀ off, (3, off) ∈ [(3, 0), (3, 1), (3, 2), (3, 3), (3, 4), (3, 5), (22, 6), (24, 7), (24, 9), (3, 11), (3, 12), (3, 13), (26, 14), (26, 30)] → ∃ a, (cs.drop off).take 1 = [.int .i64 a] := fun off hm => by
    obtain ⟨y, hy⟩ := hf _ _ hm
    rw [cellsInt] at hy
    exact one_int Try.underlying3 hy
  obtain ⟨a0, h0⟩ := int 0 (by simp)
  obtain ⟨a1, h1⟩ := int 1 (by simp)
  obtain ⟨a2, h2⟩ := int 2 (by simp)
  obtain ⟨a3, h3⟩ := int 3 (by simp)
  obtain ⟨a4, h4⟩ := int 4 (by simp)
  obtain ⟨a5, h5⟩ := int 5 (by simp)
  obtain ⟨_, y6⟩ := hf 22 6 (by simp)
  rw [cellsU64] at y6
  obtain ⟨a6, h6⟩ := one_int Try.underlying22 y6
  obtain ⟨_, y7⟩ := hf 24 7 (by simp)
  rw [cellsShape] at y7
  obtain ⟨a7, b7, h7⟩ := two_ints shapeUnder shapeFields cellsShape y7
  obtain ⟨_, y9⟩ := hf 24 9 (by simp)
  rw [cellsShape] at y9
  obtain ⟨a9, b9, h9⟩ := two_ints shapeUnder shapeFields cellsShape y9
  obtain ⟨a11, h11⟩ := int 11 (by simp)
  obtain ⟨a12, h12⟩ := int 12 (by simp)
  obtain ⟨a13, h13⟩ := int 13 (by simp)
  obtain ⟨_, y14⟩ := hf 26 14 (by simp)
  obtain ⟨_, y30⟩ := hf 26 30 (by simp)
  obtain ⟨k14, h14⟩ := bytes_of Try.underlying26 Try.underlying5 cellsU8 cellsBlock y14
  obtain ⟨k30, h30⟩ := bytes_of Try.underlying26 Try.underlying5 cellsU8 cellsBlock y30
  rw [cellsBlock] at h14 h30
  refine ⟨⟨a0, a1, a2, a3, a4, a5, a6, a7, b7, a9, b9, a11, a12, a13, k14, k30⟩, ?_⟩
  have s : ∀ o n, cs.drop o = (cs.drop o).take n ++ cs.drop (o + n) := drop_take cs
  have e : cs = cs.drop 0 := rfl
  rw [e, s 0 1, h0, s (0 + 1) 1, h1, s (0 + 1 + 1) 1, h2, s 3 1, h3, s 4 1, h4, s 5 1, h5, s 6 1, h6, s 7 2, h7, s 9 2, h9, s 11 1, h11, s 12 1, h12, s 13 1, h13, s 14 16, h14, s 30 16, h30, List.drop_eq_nil_of_le (by omega)]
  simp [cPlan]
theorem callUnder : Try.prog.underlying 43 = some (.struct (Try.prog.fieldsOf 43)) := by kernel_rfl
theorem callFields : (Try.prog.fieldsOf 43).toList.map (fun f => (f.type, f.offset)) = [(3, 0), (3, 1), (31, 2), (40, 4), (41, 36)] := by kernel_rfl
theorem cellsCall : Try.prog.cellsOf 43 = 37 := by kernel_rfl
theorem cellsItems : Try.prog.cellsOf 41 = 1 := by kernel_rfl
theorem call_of {fuel : Nat} {cs : List Value} {x : DataW H × List MemPlace} (h : DataW.trod enc Try.prog w base spare held fuel 43 cs = some x) :
    ∃ c : CallD, cs = cCall c ∧ ∃ n y, DataW.trod enc Try.prog w base spare held n 41 [.slice c.kA c.kN c.kC] = some y := by
  obtain ⟨hl, n, hf⟩ := field_at callUnder h
  rw [callFields] at hf
  rw [cellsCall] at hl
  obtain ⟨_, y0⟩ := hf 3 0 (by simp)
  obtain ⟨_, y1⟩ := hf 3 1 (by simp)
  obtain ⟨_, y2⟩ := hf 31 2 (by simp)
  obtain ⟨_, y4⟩ := hf 40 4 (by simp)
  obtain ⟨z, y36⟩ := hf 41 36 (by simp)
  rw [cellsInt] at y0 y1
  rw [cellsItem] at y2
  rw [cellsLine] at y4
  rw [cellsItems] at y36
  obtain ⟨a0, h0⟩ := one_int Try.underlying3 y0
  obtain ⟨a1, h1⟩ := one_int Try.underlying3 y1
  obtain ⟨i2, h2⟩ := item_of y2
  obtain ⟨b4, h4⟩ := bytes_of Try.underlying40 Try.underlying5 cellsU8 cellsLine y4
  obtain ⟨A, N, C, h36⟩ := one_slice Try.underlying41 y36
  rw [h36] at y36
  refine ⟨⟨a0, a1, i2, b4, A, N, C⟩, ?_, n, z, y36⟩
  have s : ∀ o n, cs.drop o = (cs.drop o).take n ++ cs.drop (o + n) := drop_take cs
  have e : cs = cs.drop 0 := rfl
  rw [e, s 0 1, h0, s (0 + 1) 1, h1, s (0 + 1 + 1) 2, h2, s 4 32, h4, s 36 1, h36, List.drop_eq_nil_of_le (by omega)]
  simp [cCall]
theorem cells_row {b o k : Nat} {s : Option Nat} {cs : List Value} (hk : cs.length = k) (h0 : 0 < k) (h : ∀ j, j < k → w.cell? ⟨b, o + j, s⟩ = cs[j]?) : s = none ∧ w.rowD b o k = cs.toArray ∧ w.hasRow b o k = true ∧ b < w.heap.size := by
  have h1 := h 0 h0
  have h2 : cs[0]? = some cs[0] := List.getElem?_eq_getElem (by omega)
  have hs : s = none := World.cell?_spot (h1.trans h2)
  subst hs
  refine ⟨rfl, ?_⟩
  cases hb : w.heap[b]? with
  | none =>
    rw [h2] at h1
    simp [World.cell?, hb] at h1
  | some ob =>
    cases ob with
    | cells c e f =>
      have hc : ∀ j, j < k → c[o + j]? = cs[j]? := fun j hj => by
        have := h j hj
        simpa [World.cell?, hb] using this
      have hsz : o + k ≤ c.size := by
        have := hc (k - 1) (by omega)
        rw [List.getElem?_eq_getElem (show k - 1 < cs.length by omega)] at this
        have := (Array.getElem?_eq_some_iff.1 this).1
        omega
      refine ⟨?_, ?_, lt_of_block hb⟩
      · simp only [World.rowD, hb]
        apply Array.ext_getElem?
        intro j
        rw [Array.getElem?_extract]
        by_cases hj : j < k
        · rw [if_pos (by omega), hc j hj]; simp
        · rw [if_neg (by omega)]; simp; omega
      · simp only [World.hasRow, hb]
        exact decide_eq_true hsz
    | _ =>
      rw [h2] at h1
      simp [World.cell?, hb] at h1
/-- The calls of a statement's slice, whatever lies where. -/
theorem calls_of {fuel : Nat} {cs : List Value} {x : DataW H × List MemPlace} (h : DataW.trod enc Try.prog w base spare held fuel 29 cs = some x) :
    ∃ (A : Option Addr) (calls : List CallD) (c : Nat), cs = [.slice A calls.length c] ∧ calls.length ≤ c ∧ c ≤ maxLen ∧ Seen w encCall 37 A calls ∧ ∀ q ∈ calls, ∃ n y, DataW.trod enc Try.prog w base spare held n 41 [.slice q.kA q.kN q.kC] = some y := by
  rcases Go.Deep.open_slice Try.underlying29 h with ⟨h1, _⟩ | ⟨a, len, cap, m, n, D, Pl, h1, _, h2, h3, h4, _, h5⟩
  · exact ⟨none, [], 0, h1, Nat.le_refl _, by simp [maxLen], fun i x hx => by simp at hx, by simp⟩
  · rw [cellsCall] at h5
    have hlm : len ≤ m := by rw [h4]; split <;> omega
    have key : ∀ i, i < len → ∃ q : CallD, (∃ n y, DataW.trod enc Try.prog w base spare held n 41 [.slice q.kA q.kN q.kC] = some y) ∧ a.spot = none ∧ w.rowD a.block (a.off + i * 37) 37 = encCall q ∧ w.hasRow a.block (a.off + i * 37) 37 = true ∧ a.block < w.heap.size := fun i hi => by
      obtain ⟨cs', e1, e2⟩ := h5 i (by omega)
      obtain ⟨_, hl, hc⟩ := World.cells?_some e1
      obtain ⟨q, hq, hk⟩ := call_of e2
      obtain ⟨b, o, s⟩ := a
      have hsp : s = none := by
        obtain ⟨cs0, e3, _⟩ := h5 0 (by omega)
        obtain ⟨_, hl0, hc0⟩ := World.cells?_some e3
        have h0 := hc0 0 (by omega)
        rw [List.getElem?_eq_getElem (show 0 < cs0.length by omega)] at h0
        exact World.cell?_spot (by simpa [Addr.add] using h0)
      subst hsp
      obtain ⟨r1, r2, r3, r4⟩ := cells_row (b := b) (o := o + i * 37) (s := none) hl (by omega) (fun j hj => by
        have := hc j hj
        rwa [Addr.add_mid, Addr.add_mid] at this)
      refine ⟨q, hk, r1, ?_, r3, r4⟩
      rw [r2, hq]
      unfold encCall; rfl
    refine ⟨some a, (List.range len).pmap (fun i hi => (key i hi).choose) (fun i hi => List.mem_range.1 hi), cap, ?_, ?_, h3, ?_, ?_⟩
    · rw [h1]; simp
    · simpa using h2
    · intro i q hq
      simp only [List.getElem?_pmap, Option.pmap_eq_some_iff] at hq
      obtain ⟨j, hj, hj2, rfl⟩ := hq
      have hji : j = i ∧ i < len := by
        rw [List.getElem?_eq_some_iff] at hj2
        obtain ⟨hh, he⟩ := hj2
        simp at hh he
        exact ⟨he.symm, hh⟩
      obtain ⟨rfl, hlt⟩ := hji
      obtain ⟨_, r1, r2, r3, r4⟩ := (key j hlt).choose_spec
      refine ⟨a.block, a.off, ?_, r4, r2, r3⟩
      cases a; simp at r1; subst r1; rfl
    · intro q hq
      obtain ⟨i, hi, rfl⟩ := List.mem_pmap.1 hq
      exact (key i (List.mem_range.1 hi)).choose_spec.1
end
end Go.Proofs.Ytngmdedoboccoaa
