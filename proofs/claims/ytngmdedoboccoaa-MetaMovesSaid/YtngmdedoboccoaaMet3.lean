/- Package meta: take, last, and what is built on them. -/
import Derived.Test.YtngmdedoboccoaaMet2
import Derived.Test.YtngmdedoboccoaaTurn
import Derived.Maps.AppendAt
set_option linter.unusedVariables false
set_option linter.unusedSimpArgs false
set_option maxHeartbeats 1000000
set_option maxRecDepth 100000
namespace Go.Proofs.Ytngmdedoboccoaa
open Go Go.RowKit

/-- What a writer leaves of the world: all but the blocks that it owns, and new ones. -/
structure Upd (w w' : World) (fp fp' : List Nat) : Prop where
  os : w'.os = w.os
  tape : w'.tape = w.tape
  output : w'.output = w.output
  size : w.heap.size ≤ w'.heap.size
  block : ∀ k, k < w.heap.size → k ∉ fp → w'.heap[k]? = w.heap[k]?
  fresh : ∀ k ∈ fp', k ∈ fp ∨ w.heap.size ≤ k
theorem Upd.trans {a b c : World} {f g h : List Nat} (h1 : Upd a b f g) (h2 : Upd b c g h) (hf : ∀ k ∈ f, k < a.heap.size) : Upd a c f h where
  os := h2.os.trans h1.os
  tape := h2.tape.trans h1.tape
  output := h2.output.trans h1.output
  size := Nat.le_trans h1.size h2.size
  block k hk hn := by
    have : k ∉ g := fun hg => by
      rcases h1.fresh k hg with h | h
      · exact hn h
      · omega
    rw [h2.block k (Nat.lt_of_lt_of_le hk h1.size) this, h1.block k hk hn]
  fresh k hk := by
    rcases h2.fresh k hk with h | h
    · exact h1.fresh k h
    · exact .inr (Nat.le_trans h1.size h)
theorem Upd.grew {a b c : World} {f g : List Nat} (h1 : Upd a b f g) (h2 : Grew b c) : Upd a c f g where
  os := h2.below.os.trans h1.os
  tape := h2.below.tape.trans h1.tape
  output := h2.below.output.trans h1.output
  size := Nat.le_trans h1.size h2.size
  block k hk hn := by rw [h2.heap (Nat.lt_of_lt_of_le hk h1.size), h1.block k hk hn]
  fresh := h1.fresh
theorem Upd.of_grew {a b c : World} {f g : List Nat} (h1 : Grew a b) (h2 : Upd b c f g) : Upd a c f g where
  os := h2.os.trans h1.below.os
  tape := h2.tape.trans h1.below.tape
  output := h2.output.trans h1.below.output
  size := Nat.le_trans h1.size h2.size
  block k hk hn := by rw [h2.block k (Nat.lt_of_lt_of_le hk h1.size) hn, h1.heap hk]
  fresh k hk := by
    rcases h2.fresh k hk with h | h
    · exact .inl h
    · exact .inr (Nat.le_trans h1.size h)

theorem nodup_swap {p q : Nat} {A C : List Nat} {o o' : Option Nat} (h : (p :: q :: (A ++ (o.toList ++ C))).Nodup)
    (hf : ∀ b, o' = some b → o = some b ∨ b ∉ p :: q :: (A ++ (o.toList ++ C))) : (p :: q :: (A ++ (o'.toList ++ C))).Nodup := by
  cases o' with
  | none =>
    refine h.sublist ?_
    simp only [Option.toList_none, List.nil_append]
    exact .cons_cons _ (.cons_cons _ (.append (.refl _) (List.sublist_append_right _ _)))
  | some b =>
    rcases hf b rfl with rfl | hb
    · exact h
    · have h' : (p :: q :: (A ++ C)).Nodup := h.sublist (.cons_cons _ (.cons_cons _ (.append (.refl _) (List.sublist_append_right _ _))))
      have hb' : b ∉ p :: q :: (A ++ C) := fun hm => hb (by
        simp only [List.mem_cons, List.mem_append] at hm ⊢
        rcases hm with h | h | h | h
        · exact .inl h
        · exact .inr (.inl h)
        · exact .inr (.inr (.inl h))
        · exact .inr (.inr (.inr (.inr h))))
      have hp : (p :: q :: (A ++ ([b] ++ C))).Perm (b :: p :: q :: (A ++ C)) := by
        have : (A ++ ([b] ++ C)).Perm (b :: (A ++ C)) := by simp [List.perm_middle]
        exact ((this.cons q).trans (.swap _ _ _)).cons p |>.trans (.swap _ _ _)
      exact hp.nodup_iff.2 (List.nodup_cons.2 ⟨hb', h'⟩)
theorem set_own {hs : List Value} {k : Nat} (hk : k < hs.length) (v : Value) : (hs.set k v).filterMap Value.ownBlock = (hs.take k).filterMap Value.ownBlock ++ (v.ownBlock.toList ++ (hs.drop (k + 1)).filterMap Value.ownBlock) := by
  rw [List.set_eq_take_append_cons_drop, if_pos hk, List.filterMap_append]
  congr 1
  cases h : v.ownBlock <;> simp [List.filterMap_cons, h]
theorem own_split {hs : List Value} {k : Nat} (hk : k < hs.length) : hs.filterMap Value.ownBlock = (hs.take k).filterMap Value.ownBlock ++ ((hs[k]'hk).ownBlock.toList ++ (hs.drop (k + 1)).filterMap Value.ownBlock) := by
  have := set_own hk (hs[k]'hk)
  rwa [List.set_getElem_self] at this
/-- A bank's head anew, its row anew: the caches with that bank anew. -/
theorem MRep.setBank {w w' : World} {a : Nat} {S : MC} {bb k : Nat} {hs : List Value} {u v : Value} {ys : List Cached}
    (hn : (a :: bb :: hs.filterMap Value.ownBlock).Nodup)
    (h1 : w.heap[a]? = some (.cells (encPlan S.plan ++ #[.slice (some ⟨bb, 0, none⟩) S.banks.length S.banks.length]) 73 (0, 0)))
    (h2 : w.heap[bb]? = some (.cells hs.toArray 46 (0, 0)))
    (h2' : w'.heap[bb]? = some (.cells (hs.set k v).toArray 46 (0, 0))) (h3 : hs.length = S.banks.length) (h4 : S.banks.length ≤ 4)
    (h5 : ∀ (i : Nat) (v : Value) (xs : List Cached), hs[i]? = some v → S.banks[i]? = some xs → Own w 0 49 encCached 36 v xs) (h6 : ∀ xs ∈ S.banks, xs.length ≤ 64)
    (hu : hs[k]? = some u) (hown : Own w' 0 49 encCached 36 v ys) (h64 : ys.length ≤ 64)
    (hfresh : ∀ b, v.ownBlock = some b → some b = u.ownBlock ∨ w.heap.size ≤ b)
    (hother : ∀ b, b < w.heap.size → b ≠ bb → some b ≠ u.ownBlock → w'.heap[b]? = w.heap[b]?) :
    ∃ fp', MRep w' a ⟨S.plan, S.banks.set k ys⟩ fp' ∧ ∀ x ∈ fp', x ∈ (a :: bb :: hs.filterMap Value.ownBlock) ∨ w.heap.size ≤ x := by
  have hrep : MRep w a S (a :: bb :: hs.filterMap Value.ownBlock) := ⟨bb, hs, rfl, hn, h1, h2, h3, h4, h5, h6⟩
  have hk : k < hs.length := (List.getElem?_eq_some_iff.1 hu).1
  have huk : hs[k] = u := (List.getElem?_eq_some_iff.1 hu).2
  have hlt := hrep.lt
  have hsp := own_split hk
  rw [huk] at hsp
  have hab : a ≠ bb := by intro e; subst e; simp at hn
  have hau : some a ≠ u.ownBlock := fun e => by
    rw [hsp, ← e] at hn
    simp at hn
  rw [hsp] at hn hlt
  refine ⟨a :: bb :: (hs.set k v).filterMap Value.ownBlock, ⟨bb, hs.set k v, rfl, ?_, ?_, ?_, by simp [h3], by simpa using h4, ?_, ?_⟩, ?_⟩
  · rw [set_own hk]
    refine nodup_swap hn fun b hb => ?_
    rcases hfresh b hb with h | h
    · exact .inl h.symm
    · exact .inr fun hm => by have := hlt b hm; omega
  · rw [hother a (lt_of_block h1) hab hau]
    simpa using h1
  · simpa using h2'
  · intro i z xs hz hx
    by_cases hik : k = i
    · subst hik
      rw [List.getElem?_set_self (by omega)] at hz
      rw [List.getElem?_set_self (by omega)] at hx
      cases hz; cases hx
      exact hown
    · simp only at hx
      rw [List.getElem?_set_ne hik] at hz hx
      refine (h5 i z xs hz hx).keep fun b hb => ?_
      have hbl := ((h5 i z xs hz hx).lt b hb).2
      have hbm : b ∈ hs.filterMap Value.ownBlock := List.mem_filterMap.2 ⟨z, List.mem_of_getElem? hz, hb⟩
      refine hother b hbl ?_ ?_
      · rintro rfl
        rw [← hsp] at hn
        simp only [List.nodup_cons] at hn
        exact hn.2.1 hbm
      · intro e
        rw [← e] at hn
        simp only [Option.toList_some, List.nodup_cons, List.nodup_append, List.mem_cons, List.mem_append] at hn
        obtain ⟨_, _, _, hC, hAC⟩ := hn
        rcases Nat.lt_or_ge i k with hlt | hge
        · have : b ∈ (hs.take k).filterMap Value.ownBlock := List.mem_filterMap.2 ⟨z, List.mem_of_getElem? (i := i) (by rw [List.getElem?_take, if_pos hlt]; exact hz), hb⟩
          exact hAC b this b (by simp) rfl
        · have : b ∈ (hs.drop (k + 1)).filterMap Value.ownBlock := List.mem_filterMap.2 ⟨z, List.mem_of_getElem? (i := i - (k + 1)) (by rw [List.getElem?_drop]; rw [← hz]; congr 1; omega), hb⟩
          exact hC.2.2 b (by simp) b this rfl
  · intro xs hx
    rcases List.mem_or_eq_of_mem_set hx with h | h
    · exact h6 xs h
    · subst h; exact h64
  · intro x hx
    rw [set_own hk] at hx
    rw [hsp]
    simp only [List.mem_cons, List.mem_append, Option.mem_toList] at hx ⊢
    rcases hx with h | h | h | h | h
    · exact .inl (.inl h)
    · exact .inl (.inr (.inl h))
    · exact .inl (.inr (.inr (.inl h)))
    · rcases hfresh x h with h' | h'
      · exact .inl (.inr (.inr (.inr (.inl h'.symm))))
      · exact .inr h'
    · exact .inl (.inr (.inr (.inr (.inr h))))
theorem cell_heap {w w' : World} {b : Nat} (h : w'.heap[b]? = w.heap[b]?) (i : Nat) : w'.cell? ⟨b, i, none⟩ = w.cell? ⟨b, i, none⟩ := by
  simp only [World.cell?, h]
@[go_sem] theorem rowD_setCell (w : World) (n i : Nat) (v : Value) (b o k : Nat) : (w.setCell ⟨n, i, none⟩ v).rowD b o k = if b = n then (w.setCell ⟨n, i, none⟩ v).rowFar b o k else w.rowD b o k := by
  split
  · rfl
  · rename_i h; simp only [World.rowD, heap_setCell_other w ⟨n, i, none⟩ b v h]
@[go_sem] theorem hasRow_setCell (w : World) (n i : Nat) (v : Value) (b o k : Nat) : (w.setCell ⟨n, i, none⟩ v).hasRow b o k = if b = n then (w.setCell ⟨n, i, none⟩ v).hasFar b o k else w.hasRow b o k := by
  split
  · rfl
  · rename_i h; simp only [World.hasRow, heap_setCell_other w ⟨n, i, none⟩ b v h]
@[go_sem] theorem loose_setCell (w : World) (n i : Nat) (v : Value) (b : Nat) : (w.setCell ⟨n, i, none⟩ v).loose b = if b = n then (w.setCell ⟨n, i, none⟩ v).looseFar b else w.loose b := by
  split
  · rfl
  · rename_i h; simp only [World.loose, heap_setCell_other w ⟨n, i, none⟩ b v h]
theorem row_heap {w w' : World} {b : Nat} (h : w'.heap[b]? = w.heap[b]?) : (∀ o k, w'.rowD b o k = w.rowD b o k) ∧ (∀ o k, w'.hasRow b o k = w.hasRow b o k) ∧ w'.loose b = w.loose b ∧ ∀ i, w'.frozen? ⟨b, i, none⟩ = w.frozen? ⟨b, i, none⟩ :=
  ⟨fun o k => by simp only [World.rowD, h], fun o k => by simp only [World.hasRow, h], by simp only [World.loose, h], fun i => by simp only [World.frozen?, h]⟩
theorem putRow_own {w : World} {b o n t : Nat} {cs c : Array Value} (h : w.heap[b]? = some (.cells c t (0, 0))) (hn : cs.size = n) (hle : o + n ≤ c.size) : (w.putRow b o cs).hasRow b o n = true ∧ (w.putRow b o cs).rowD b o n = cs := by
  obtain ⟨_, _, c3, c4, _, _⟩ := block_facts (putRow_heap (o := o) (cs := cs) h)
  refine ⟨(c4 _ _).trans (decide_eq_true (by rw [putCells_size _ _ _ (by omega)]; omega)), (c3 _ _).trans ?_⟩
  apply Array.ext_getElem?
  intro i
  subst hn
  have hz := putCells_size c cs o hle
  simp only [putCells] at hz
  simp only [putCells, Array.getElem?_extract]
  by_cases hi : i < cs.size
  · rw [if_pos (by omega), Array.append_assoc, Array.getElem?_append_right (by simp; omega), Array.getElem?_append_left (by simp; omega)]
    have e : i + o - (c.extract 0 o).size = i := by simp; omega
    simp only [Nat.add_comm o i, e]
  · rw [if_neg (by omega), Array.getElem?_eq_none (by omega)]
theorem wrap_one (i : Nat) (h : i < 9223372036854775807) : IntKind.i64.wrap ((i : Int) + 1) = (i : Int) + 1 := by
  rw [IntKind.wrap_i64]; omega
/-- take(bank, at). -/
theorem take_any {w : World} {a : Nat} {S : MC} {fp : List Nat} (h : MRep w a S fp) {k i : Nat} {xs : List Cached} {q : Cached} (hb : S.banks[k]? = some xs) (hi : xs[i]? = some q) :
    Calls Try.prog 34 #[.pointer (some ⟨a, 0, none⟩), .int .i64 k, .int .i64 i] w fun e w' =>
      e = .returned (.agg (encCached q)) ∧ ∃ fp', MRep w' a ⟨S.plan, S.banks.set k (xs.eraseIdx i)⟩ fp' ∧ Upd w w' fp fp' := by
  obtain ⟨bb, hs, rfl, hn, h1, h2, h3, h4, h5, h6⟩ := h
  obtain ⟨hA, hM, hR, hH, la⟩ := head_facts h1
  have lb := lt_of_block h2
  obtain ⟨g, cap, f1, f2, f3, f4, f5, f6, f7⟩ := bank_facts h2 h3 h5 hb hi
  have hbl : k < S.banks.length := (List.getElem?_eq_some_iff.1 hb).1
  have hil : i < xs.length := (List.getElem?_eq_some_iff.1 hi).1
  have hl64 := h6 xs (List.mem_of_getElem? hb)
  obtain ⟨m, hm⟩ : ∃ m, xs.length = m + 1 := ⟨xs.length - 1, by omega⟩
  have hown := h5 k _ xs f2 hb
  rw [hm] at hown f1 f2
  have hD := fun (w2 : World) (hg : Grew w w2) => Delete_any hm (hown.grew hg) i (by omega) (by omega)
  have HD := Lib.hid hD
  have HN := Lib.hid hn
  have H1 := Lib.hid h1
  have H2 := Lib.hid h2
  have H5 := Lib.hid h5
  have H6 := Lib.hid h6
  have F2 := Lib.hid f2
  have HO := Lib.hid hown
  have HM := Lib.hid hm
  have HB := Lib.hid hb
  have HI := Lib.hid hi
  have H3 := Lib.hid h3
  have HL := Lib.hid hl64
  have hab : a ≠ bb := by intro e; subst e; simp at hn
  have hga : g ≠ a ∧ g ≠ bb := by
    have hmem : g ∈ hs.filterMap Value.ownBlock := List.mem_filterMap.2 ⟨_, List.mem_of_getElem? f2, rfl⟩
    constructor
    · rintro rfl; simp only [List.nodup_cons, List.mem_cons] at hn; exact hn.1 (.inr hmem)
    · rintro rfl; simp only [List.nodup_cons] at hn; exact hn.2.1 hmem
  obtain ⟨hga, hgb⟩ := hga
  have hbk : i < m + 1 := by omega
  have hc6 : m + 1 ≤ cap := by omega
  have hwr : IntKind.i64.wrap ((i : Int) + 1) = (i : Int) + 1 := wrap_one i (by omega)
  clear hD hn h1 h2 h5 h6 f2 hown hm hb hi f6 hl64 hil f7 h3
  go_enter Try.func34, Try.ntmps34
  go_wp2
  refine wp_region_turn 15 16 (fun w' : World => w'.cell? ⟨a, 46, none⟩ = some (.slice (some ⟨bb, 0, none⟩) S.banks.length S.banks.length) ∧ w'.cell? ⟨bb, k, none⟩ = some (.slice (some ⟨g, 0, none⟩) (m + 1) cap)) rfl (by kernel_rfl) ?_ (fun _ _ d _ _ h => by cases d <;> exact h) ?_
  · have hgr : Grew w { ((w.alloc (Obj.cells (encCached zCached) 49)).alloc (Obj.cells (encCached q) 49)) with drawn := ((w.alloc (Obj.cells (encCached zCached) 49)).alloc (Obj.cells (encCached q) 49)).drawn + 1 } := Grew.drew (by all_goals repeat (with_reducible first | exact Grew.refl _ | apply Grew.ext | apply Grew.alloc | apply Grew.drew))
    exact ⟨(cell_heap (hgr.heap la) _).trans hA, (cell_heap (hgr.heap lb) _).trans f1⟩
  iterate 15 ((refine wpTurn_head (v := ?_) rfl (by rfl) ?_ ?_; rotate_left; · intro w hSw; (try obtain ⟨hSw1, hSw2⟩ := hSw); go_simp; (try with_reducible rfl)); (try simp only [Act.put, List.setIfInBounds_toArray, List.set_cons_zero, List.set_cons_succ, Nat.reduceAdd]))
  refine wpTurn_call 58 _ _ rfl rfl rfl (by rfl) #[.slice (some ⟨g, 0, none⟩) (m + 1) cap, .int .i64 i, .int .i64 (i + 1)] (by simp [Act.eval]) (by intros; go_simp) ?_
  change Calls _ _ _ ((w.alloc (Obj.cells (encCached zCached) 49)).alloc (Obj.cells (encCached q) 49)).drew _
  obtain ⟨W, hW⟩ : ∃ W, ((w.alloc (Obj.cells (encCached zCached) 49)).alloc (Obj.cells (encCached q) 49)).drew = W := ⟨_, rfl⟩
  rw [hW]
  have hgr : Grew w W := by subst hW; exact Grew.drew (by all_goals repeat (with_reducible first | exact Grew.refl _ | apply Grew.ext | apply Grew.alloc | apply Grew.drew))
  have hW0 : W.heap[w.heap.size]? = some (.cells (encCached zCached) 49 (0, 0)) := by subst hW; exact (ha_old _ _ _ (by simp)).trans (ha_new _ _)
  have hW1 : W.heap[w.heap.size + 1]? = some (.cells (encCached q) 49 (0, 0)) := by subst hW; have := ha_new (w.alloc (Obj.cells (encCached zCached) 49)) (Obj.cells (encCached q) 49); rw [show (w.alloc (Obj.cells (encCached zCached) 49)).heap.size = w.heap.size + 1 by simp] at this; exact this
  refine (HD.out W hgr).mono ?_
  rintro e w1 ⟨rfl, ho, hg⟩
  have hbl : ∀ b, b < W.heap.size → b ≠ g → w1.heap[b]? = W.heap[b]? := fun b hb hn => hg.block b hb (by simpa using hn)
  have ha1 := (hbl a (Nat.lt_of_lt_of_le la hgr.size) (Ne.symm hga)).trans (hgr.heap la)
  have hb1 := (hbl bb (Nat.lt_of_lt_of_le lb hgr.size) (Ne.symm hgb)).trans (hgr.heap lb)
  have hc1 : w1.cell? ⟨bb, k, none⟩ = some (.slice (some ⟨g, 0, none⟩) (m + 1) cap) := (cell_heap hb1 _).trans f1
  refine ⟨_, rfl, .inr ⟨(cell_heap ha1 _).trans hA, hc1⟩, ?_⟩
  refine wpTurn_rest rfl (by kernel_rfl) ?_
  (try simp only [Act.put, List.setIfInBounds_toArray, List.set_cons_zero, List.set_cons_succ, Nat.reduceAdd])
  have hx0 := (hbl _ (lt_of_block hW0) (by omega)).trans hW0
  have hx1 := (hbl _ (lt_of_block hW1) (by omega)).trans hW1
  obtain ⟨_, _, p3, p4, p5, p6⟩ := block_facts hx0
  obtain ⟨_, _, q3, q4, q5, q6⟩ := block_facts hx1
  have P4 := p4 0 36
  have Q3 := q3 0 36
  have Q4 := q4 0 36
  have hfz : w1.frozen? ⟨bb, k, none⟩ = false := (block_facts (hb1.trans H2.out)).2.1 k
  simp at P4 Q3 Q4
  have hz0 : ¬ (w.heap.size = bb) := by omega
  have hz1 : ¬ (w.heap.size + 1 = bb) := by omega
  have HX := Lib.hid hbl
  have HX0 := Lib.hid hx0
  clear p3 p4 q3 q4 hx0 hx1 hbl
  go_wp2
  refine bodyPost_ret (results_row rfl rowCached _ _ w.heap.size 0 (encCached q) rfl ?_ ?_) rfl ⟨rfl, ?_⟩
  · exact (putRow_own ((heap_setCell_other _ _ _ _ hz0).trans HX0.out) (encCached_size q) (by simp)).1
  · exact (putRow_own ((heap_setCell_other _ _ _ _ hz0).trans HX0.out) (encCached_size q) (by simp)).2
  have hoth : ∀ b, b < w.heap.size → b ≠ bb → b ≠ g → ((w1.setCell ⟨bb, k, none⟩ (.slice (some ⟨g, 0, none⟩) m cap)).putRow w.heap.size 0 (encCached q)).heap[b]? = w.heap[b]? := fun b h0 h1 h2 => by
    rw [putRow_other (by omega), heap_setCell_other _ _ _ _ h1, HX.out b (Nat.lt_of_lt_of_le h0 hgr.size) h2, hgr.heap h0]
  obtain ⟨fp', r1, r2⟩ := MRep.setBank (w' := (w1.setCell ⟨bb, k, none⟩ (.slice (some ⟨g, 0, none⟩) m cap)).putRow w.heap.size 0 (encCached q)) (v := .slice (some ⟨g, 0, none⟩) m cap) (ys := xs.eraseIdx i)
    HN.out H1.out H2.out (by
      rw [putRow_other (by omega), heap_setCell_same _ _ _ _ _ _ (hb1.trans H2.out)]
      simp) H3.out h4 H5.out H6.out F2.out
    (ho.keep fun b hb => by
      have : b = g := by simpa [Value.ownBlock] using hb.symm
      subst this
      rw [putRow_other (by omega), heap_setCell_other _ _ _ _ hgb])
    (by rw [List.length_eraseIdx]; have := HL.out; split <;> omega) (fun b hb => .inl (by rw [← hb]; rfl)) (fun b h0 h1 h2 => hoth b h0 h1 (fun e => h2 (by rw [e]; rfl)))
  refine ⟨fp', r1, ⟨hg.os.trans hgr.below.os, hg.tape.trans hgr.below.tape, hg.output.trans hgr.below.output, ?_, fun b hb hn => ?_, r2⟩⟩
  · rw [size_putRow]
    simpa using Nat.le_trans hgr.size hg.size
  · simp only [List.mem_cons, not_or] at hn
    refine hoth b hb hn.2.1 ?_
    rintro rfl
    exact hn.2.2 (List.mem_filterMap.2 ⟨_, List.mem_of_getElem? F2.out, rfl⟩)
theorem zip_fold : ∀ (l : List Value) (i : Nat) (z : Array Value), i + l.length ≤ z.size → ∀ j, (List.foldl (fun (cs : Array Value) (x : Value × Nat) => cs.setIfInBounds x.2 x.1) z (l.zipIdx i))[j]? = if i ≤ j ∧ j < i + l.length then l[j - i]? else z[j]?
  | [], i, z, h, j => by simp; omega
  | x :: l, i, z, h, j => by
    simp only [List.length_cons] at h
    simp only [List.zipIdx_cons, List.foldl_cons]
    rw [zip_fold l (i + 1) _ (by simp; omega) j]
    by_cases hj : i + 1 ≤ j ∧ j < i + 1 + l.length
    · rw [if_pos hj, if_pos (by simp; omega)]
      have : j - i = (j - (i + 1)) + 1 := by omega
      rw [this, List.getElem?_cons_succ]
    · rw [if_neg hj]
      by_cases hij : i = j
      · subst hij
        rw [if_pos (by simp), Array.getElem?_setIfInBounds_self_of_lt (by omega)]
        simp
      · rw [if_neg (by simp; omega), Array.getElem?_setIfInBounds_ne hij]
theorem zip_all {z c : Array Value} (h : z.size = c.size) : c.zipIdx.foldl (fun (cs : Array Value) (x : Value × Nat) => cs.setIfInBounds x.2 x.1) z = c := by
  apply Array.ext_getElem?
  intro j
  rw [← Array.foldl_toList, Array.toList_zipIdx, zip_fold c.toList 0 z (by simp; omega) j]
  split
  · simp
  · rename_i hj
    simp at hj
    rw [Array.getElem?_eq_none (by omega), Array.getElem?_eq_none (by omega)]
theorem build_cached (ρ : Operand → Value) (d : Option Tmp) (t : TypeId) (ps : String) (af : Array Edge) (gd : Option (Nat × Bool)) (w : World) (x : Operand) (q : Cached) (h : ρ x = .agg (encCached q)) :
    (execOp ρ ⟨d, .buildSlice 46 1 #[(0, x)], t, ps, af, gd⟩).run Try.prog w = .ok (.value (.slice (some ⟨w.heap.size, 0, none⟩) 1 1)) (w.alloc (.cells (encCached q) 49)) := by
  have hs : (encCached q).zipIdx.size = 36 := by simp
  have key : ∀ z : Array Value, z.size = 36 → Array.foldl (fun (cs : Array Value) (x : Value × Nat) => cs.setIfInBounds x.2 x.1) z (encCached q).zipIdx 0 36 = encCached q := fun z hz => by
    have := zip_all (z := z) (c := encCached q) (by simp [hz])
    rw [hs] at this
    exact this
  go_simp
/-- append of one element that lies in a box of its own; where the new row lies. -/
theorem app_own_at {P : Program} {ops : Array Oper} {rest : List Oper} {o : Oper} {a : Act} {Q : Exit → Act → World → Prop} {α : Type} {t e : TypeId} {enc : α → Array Value} {k bytes : Nat} (H : Elt P t e enc k bytes)
    (hgd : o.guard = none) (s x : Operand) (ho : o.op = .call { callee := .builtin .append, args := #[s, x], argTypes := #[t, t] })
    {w : World} {base : Nat} {v : Value} {xs : List α} (hown : Own w base e enc k v xs) (y : α) (nb : Nat) (hnb : w.heap[nb]? = some (.cells (enc y) e (0, 0)))
    (hs : a.eval s = v) (hx : a.eval x = .slice (some ⟨nb, 0, none⟩) 1 1) (hl : (xs.length + 1) * bytes ≤ 140737488355328) (hb0 : 0 < bytes) (hbase : base ≤ w.heap.size)
    (h : ∀ v' w', Own w' base e enc k v' (xs ++ [y]) → w.grownBy w' v.ownBlock → (v'.ownBlock = v.ownBlock ∨ v'.ownBlock = some w.heap.size) → wpList P ops Q rest (a.put o.dst v') w') : wpList P ops Q (o :: rest) a w := by
  obtain ⟨ht, ⟨i, z, hi, hz, h1, h2, h3⟩, hp, hsz, hone⟩ := H
  have hlen : xs.length + 1 ≤ 140737488355328 := Nat.le_trans (Nat.le_mul_of_pos_right _ hb0) hl
  refine wpList_append_own_at w hgd s x t ho base e i z k bytes ht hi hz h1 h2 h3 hp v xs.length (flat enc xs) hs hown ⟨nb, 0, none⟩ 1 1 (enc y).toList hx (by simp [hsz]) (fun j u hu => ?_) (fun u hu => ?_) (by simp only [maxLen]; omega) hl hbase ?_
  · have e1 : (⟨nb, 0, none⟩ : Addr).add j = ⟨nb, j, none⟩ := by rw [Addr.add_mid]; simp
    rw [e1, cell_of_row w nb j _ _ _ hnb, ← Array.getElem?_toList]
    exact hu
  · exact Array.all_eq_true_iff_forall_mem.1 (hone y) u (by simpa using hu)
  · intro v' w' hown' hg _ hat
    refine h v' w' ?_ hg hat
    unfold Own
    rw [List.length_append, List.length_singleton, flat_append, flat_one]
    exact hown'
/-- last(x). -/
theorem last_any {w : World} {a : Nat} {S : MC} {fp : List Nat} (h : MRep w a S fp) {k : Nat} {xs : List Cached} {q : Cached} (hb : S.banks[k]? = some xs) (hq : q.Bank = k) (hl : xs.length < 64) :
    Calls Try.prog 33 #[.pointer (some ⟨a, 0, none⟩), .agg (encCached q)] w fun e w' =>
      e = .returned (.tuple #[]) ∧ ∃ fp', MRep w' a ⟨S.plan, S.banks.set k (xs ++ [q])⟩ fp' ∧ Upd w w' fp fp' := by
  obtain ⟨bb, hs, rfl, hn, h1, h2, h3, h4, h5, h6⟩ := h
  obtain ⟨hA, hM, hR, hH, la⟩ := head_facts h1
  have lb := lt_of_block h2
  have hbl : k < S.banks.length := (List.getElem?_eq_some_iff.1 hb).1
  obtain ⟨u, f2⟩ : ∃ u, hs[k]? = some u := ⟨hs[k], List.getElem?_eq_getElem (by omega)⟩
  have hown := h5 k _ xs f2 hb
  have f1 : w.cell? ⟨bb, k, none⟩ = some u := by rw [cell_of_row w bb k _ _ _ h2]; simpa using f2
  obtain ⟨A, cap, hu, hc1, hc2⟩ := hown.shape
  have HQ := Lib.hid hq
  have HN := Lib.hid hn
  have H1 := Lib.hid h1
  have H2 := Lib.hid h2
  have H3 := Lib.hid h3
  have H5 := Lib.hid h5
  have H6 := Lib.hid h6
  have F2 := Lib.hid f2
  have HO := Lib.hid hown
  have HB := Lib.hid hb
  have HL := Lib.hid hl
  have hab : a ≠ bb := by intro e; subst e; simp at hn
  have hun : ∀ g, u.ownBlock = some g → g ≠ a ∧ g ≠ bb := by
    intro g hg
    have hmem : g ∈ hs.filterMap Value.ownBlock := List.mem_filterMap.2 ⟨_, List.mem_of_getElem? f2, hg⟩
    constructor
    · rintro rfl; simp only [List.nodup_cons, List.mem_cons] at hn; exact hn.1 (.inr hmem)
    · rintro rfl; simp only [List.nodup_cons] at hn; exact hn.2.1 hmem
  have HU := Lib.hid hun
  have hcl : q.Bank = (k : Int) := hq
  have HC := Lib.hid hu
  clear hn h1 h2 h3 h5 h6 f2 hown hb hun hq hl hc1 hc2 hu
  go_enter Try.func33, Try.ntmps33
  go_wp2
  refine wp_region_turn 15 17 (fun w' : World => (w'.cell? ⟨a, 46, none⟩ = some (.slice (some ⟨bb, 0, none⟩) S.banks.length S.banks.length) ∧ w'.cell? ⟨bb, k, none⟩ = some u) ∧ (w'.cell? ⟨w.heap.size, 2, none⟩ = some (.int .i64 k) ∧ w'.rowD w.heap.size 0 36 = encCached q ∧ w'.hasRow w.heap.size 0 36 = true)) rfl (by kernel_rfl) ?_ (fun _ _ d _ _ h => by cases d <;> exact h) ?_
  · have hg0 : Grew w (w.alloc (Obj.cells (encCached q) 49)) := by all_goals repeat (with_reducible first | exact Grew.refl _ | apply Grew.ext | apply Grew.alloc | apply Grew.drew)
    have hx : (w.alloc (Obj.cells (encCached q) 49)).heap[w.heap.size]? = some (.cells (encCached q) 49 (0, 0)) := ha_new _ _
    obtain ⟨p1, _, p3, p4, p5, p6⟩ := block_facts hx
    refine ⟨⟨(cell_heap (hg0.heap la) _).trans hA, (cell_heap (hg0.heap lb) _).trans f1⟩, (p1 2).trans ?_, (p3 0 36).trans (by simp), (p4 0 36).trans (by simp)⟩
    rw [← hcl]; exact encCached_2 q
  iterate 15 ((refine wpTurn_head (v := ?_) rfl (by rfl) ?_ ?_; rotate_left; · intro w hSw; (try obtain ⟨hSw1, hSw2⟩ := hSw); go_simp; (try with_reducible rfl)); (try simp only [Act.put, List.setIfInBounds_toArray, List.set_cons_zero, List.set_cons_succ, Nat.reduceAdd]))
  refine wpTurn_run rfl rfl (by rfl) (build_cached _ _ _ _ _ _ _ _ q rfl) (.inr ?_) ?_
  · have hg0 : Grew w ((w.alloc (Obj.cells (encCached q) 49)).drew.alloc (Obj.cells (encCached q) 49)) := (Grew.drew (by all_goals repeat (with_reducible first | exact Grew.refl _ | apply Grew.ext | apply Grew.alloc | apply Grew.drew))).alloc _
    have hx : ((w.alloc (Obj.cells (encCached q) 49)).drew.alloc (Obj.cells (encCached q) 49)).heap[w.heap.size]? = some (.cells (encCached q) 49 (0, 0)) := (ha_old _ _ _ (by simp)).trans (ha_new _ _)
    obtain ⟨p1, _, p3, p4, p5, p6⟩ := block_facts hx
    refine ⟨⟨(cell_heap (hg0.heap la) _).trans hA, (cell_heap (hg0.heap lb) _).trans f1⟩, (p1 2).trans ?_, (p3 0 36).trans (by simp), (p4 0 36).trans (by simp)⟩
    rw [← hcl]; exact encCached_2 q
  change wpTurn _ _ _ _ _ _ _ _ _ (((w.alloc (Obj.cells (encCached q) 49)).drew).alloc (Obj.cells (encCached q) 49))
  obtain ⟨W, hW⟩ : ∃ W, ((w.alloc (Obj.cells (encCached q) 49)).drew).alloc (Obj.cells (encCached q) 49) = W := ⟨_, rfl⟩
  rw [hW]
  have hgr : Grew w W := by subst hW; exact (Grew.drew (by all_goals repeat (with_reducible first | exact Grew.refl _ | apply Grew.ext | apply Grew.alloc | apply Grew.drew))).alloc _
  have hW0 : W.heap[w.heap.size]? = some (.cells (encCached q) 49 (0, 0)) := by subst hW; exact (ha_old _ _ _ (by simp)).trans (ha_new _ _)
  have hW1 : W.heap[w.heap.size + 1]? = some (.cells (encCached q) 49 (0, 0)) := by
    subst hW
    have := ha_new ((w.alloc (Obj.cells (encCached q) 49)).drew) (Obj.cells (encCached q) 49)
    rw [show ((w.alloc (Obj.cells (encCached q) 49)).drew).heap.size = w.heap.size + 1 by simp] at this
    exact this
  (try simp only [Act.put, List.setIfInBounds_toArray, List.set_cons_zero, List.set_cons_succ, Nat.reduceAdd])
  refine wpTurn_one rfl rfl ?_
  refine app_own_at eltCached rfl _ _ rfl (HO.out.grew hgr) q (w.heap.size + 1) hW1 (by exact HC.out ▸ rfl) (by simp [Act.eval]) (by have := HL.out; omega) (by omega) (Nat.zero_le _) ?_
  intro v1 w1 ho hg hat
  have hbl : ∀ b, b < W.heap.size → some b ≠ u.ownBlock → w1.heap[b]? = W.heap[b]? := fun b hb hn => hg.block b hb hn
  have ha1 := (hbl a (Nat.lt_of_lt_of_le la hgr.size) (fun e => (HU.out a e.symm).1 rfl)).trans (hgr.heap la)
  have hb1 := (hbl bb (Nat.lt_of_lt_of_le lb hgr.size) (fun e => (HU.out bb e.symm).2 rfl)).trans (hgr.heap lb)
  have hc1 : w1.cell? ⟨bb, k, none⟩ = some u := (cell_heap hb1 _).trans f1
  have hx0 := (hbl _ (lt_of_block hW0) (fun e => by have := (HO.out.lt _ e.symm).2; omega)).trans hW0
  obtain ⟨p1, _, p3, p4, p5, p6⟩ := block_facts hx0
  refine ⟨.inr ⟨⟨(cell_heap ha1 _).trans hA, hc1⟩, (p1 2).trans ?_, (p3 0 36).trans (by simp), (p4 0 36).trans (by simp)⟩, ?_⟩
  · rw [← hcl]; exact encCached_2 q
  refine wpTurn_rest rfl (by kernel_rfl) ?_
  (try simp only [Act.put, List.setIfInBounds_toArray, List.set_cons_zero, List.set_cons_succ, Nat.reduceAdd])
  have hfz : w1.frozen? ⟨bb, k, none⟩ = false := (block_facts (hb1.trans H2.out)).2.1 k
  have HX := Lib.hid hbl
  have HZ := Lib.hid hat
  obtain ⟨A1, c1, hv1, _, _⟩ := ho.shape
  have HO1 := Lib.hid ho
  generalize (xs ++ [q]).length = n1 at hv1
  subst hv1
  clear ho hbl hat p1 p3 p4 p5 p6 hx0 hW0 hW1
  go_wp2
  have hgu : ∀ g, (Value.slice A1 n1 c1).ownBlock = some g → some g = u.ownBlock ∨ w.heap.size ≤ g := fun g hg => by
    rcases HZ.out with h | h
    · exact .inl (by rw [← hg, h])
    · rw [h] at hg; cases hg; exact .inr hgr.size
  have hgb : ∀ g, (Value.slice A1 n1 c1).ownBlock = some g → g ≠ bb := fun g hg e => by
    rcases hgu g hg with h | h
    · exact (HU.out g h.symm).2 e
    · omega
  have hoth : ∀ b, b < w.heap.size → b ≠ bb → some b ≠ u.ownBlock → (w1.setCell ⟨bb, k, none⟩ (.slice A1 n1 c1)).heap[b]? = w.heap[b]? := fun b h0 h1 h2 => by
    rw [heap_setCell_other _ _ _ _ h1, HX.out b (Nat.lt_of_lt_of_le h0 hgr.size) h2, hgr.heap h0]
  obtain ⟨fp', r1, r2⟩ := MRep.setBank (w' := w1.setCell ⟨bb, k, none⟩ (.slice A1 n1 c1)) (v := .slice A1 n1 c1) (ys := xs ++ [q])
    HN.out H1.out H2.out (by
      rw [heap_setCell_same _ _ _ _ _ _ (hb1.trans H2.out)]
      simp) H3.out h4 H5.out H6.out F2.out
    (HO1.out.keep fun b hb => heap_setCell_other _ _ _ _ (hgb b hb))
    (by have := HL.out; simp; omega) hgu hoth
  refine bodyPost_end (results_none rfl _ _ _) rfl ?_
  refine ⟨rfl, fp', r1, ⟨hg.os.trans hgr.below.os, hg.tape.trans hgr.below.tape, hg.output.trans hgr.below.output, ?_, fun b hb hn => ?_, r2⟩⟩
  · simpa using Nat.le_trans hgr.size hg.size
  · simp only [List.mem_cons, not_or] at hn
    refine hoth b hb hn.2.1 ?_
    intro e
    exact hn.2.2 (List.mem_filterMap.2 ⟨_, List.mem_of_getElem? F2.out, e.symm⟩)
end Go.Proofs.Ytngmdedoboccoaa
