/- MetaMoves: the walk. -/
import Derived.Test.YtngmdedoboccoaaLaw1
import Derived.Test.YtngmdedoboccoaaPur2
set_option linter.unusedVariables false
set_option linter.unusedSimpArgs false
set_option maxHeartbeats 2000000
set_option maxRecDepth 100000
namespace Go.Proofs.Ytngmdedoboccoaa
open Go Go.RowKit

theorem getVal_is (r : Option Cached) : getVal r = .tuple #[.agg (encCached (r.getD zCached)), .bool r.isSome] := by cases r <;> rfl
theorem rowD_sub {w : World} {b o n : Nat} {c : Array Value} (h : w.rowD b o n = c) (hh : w.hasRow b o n = true) (i m : Nat) (hm : i + m ≤ n) : w.rowD b (o + i) m = c.extract i (i + m) ∧ w.hasRow b (o + i) m = true := by
  subst h
  unfold World.hasRow at hh
  unfold World.rowD World.hasRow
  split at hh
  · have := of_decide_eq_true hh
    refine ⟨?_, decide_eq_true (by omega)⟩
    apply Array.ext_getElem?
    intro j
    simp only [Array.getElem?_extract, Array.size_extract]
    split
    · rw [if_pos (by omega), if_pos (by omega)]
      congr 1; omega
    · rename_i h
      by_cases hj : j < m
      · rw [if_neg (by omega)]
      · rw [if_neg (by omega)]
  · cases hh
theorem row_item {w : World} {b o : Nat} {q : Cached} (h : w.rowD b o 36 = encCached q) (hh : w.hasRow b o 36 = true) : w.rowD b o 2 = encItem q.Item ∧ w.hasRow b o 2 = true := by
  have := rowD_sub h hh 0 2 (by omega)
  rw [Nat.add_zero, Nat.zero_add, encCached_item] at this
  exact this
/-- The caches behind some of the calls. -/
def CRel (w0 : World) (a : Nat) (p : Plan) (w : World) : Prop :=
  ∃ S fp, MRep w a S fp ∧ S.Ok ∧ S.Once ∧ S.plan = p ∧ Grew w0 w ∧ ∀ k ∈ fp, w0.heap.size ≤ k
theorem CRel.grew {w0 : World} {a : Nat} {p : Plan} {w w' : World} (h : CRel w0 a p w) (hg : Grew w w') : CRel w0 a p w' := by
  obtain ⟨S, fp, h1, h2, h3, h4, h5, h6⟩ := h
  exact ⟨S, fp, h1.grew hg, h2, h3, h4, h5.trans hg, h6⟩
/-- What a call of Put leaves of the box of the statement's call. -/
theorem call_put {w w' : World} {a : Nat} {S S' : MC} {fp fp' : List Nat} {q : CallD} (h : MRep w a S fp) (m : MRep w' a S' fp') (u : Upd (w.alloc (Obj.cells (encCall q) 43)) w' fp fp') :
    Hid (MRep w' a S' fp') ∧ Hid (Upd w w' fp fp') ∧ w'.cell? ⟨w.heap.size, 0, none⟩ = some (.int .i64 q.What) ∧ w'.rowD w.heap.size 2 2 = encItem q.Item ∧ w'.hasRow w.heap.size 2 2 = true ∧ w'.rowD w.heap.size 4 32 = encB q.Bytes ∧ w'.hasRow w.heap.size 4 32 = true := by
  have hb : w'.heap[w.heap.size]? = some (.cells (encCall q) 43 (0, 0)) := (u.keeps (by simp) (fun k hk => h.lt k hk)).trans (ha_new _ _)
  obtain ⟨c1, _, c3, c4, _, _⟩ := block_facts hb
  exact ⟨Lib.hid m, Lib.hid (Upd.of_grew ((Grew.refl w).alloc _) u), (c1 0).trans (encCall_0 q), (c3 2 2).trans (encCall_item q), (c4 2 2).trans (by simp), (c3 4 32).trans (encCall_bytes q), (c4 4 32).trans (by simp)⟩
theorem Seen.grew' {α : Type} {w w' : World} {enc : α → Array Value} {k : Nat} {A : Option Addr} {xs : List α} (h : Hid (Seen w enc k A xs)) (hg : Grew w w') : Hid (Seen w' enc k A xs) := Lib.hid (h.out.grew hg)
structure Letters (S : MC) (x : Item) (to : Int) (old : Cached) (okb : Bool) (f : Int) (S2 : MC) (now : Cached) : Prop where
  get : getVal (S.get x) = .tuple #[.agg (encCached old), .bool okb]
  move : S.move x to = (f, S2)
  get2 : getVal (S2.get x) = .tuple #[.agg (encCached now), .bool okb]
  bytes : now.Bytes = old.Bytes
  dirty : now.Dirty = old.Dirty
  none : okb = false → f ≠ 0
theorem move_letters {S : MC} (ok : S.Ok) (on : S.Once) (x : Item) (to : Int) : ∃ old okb f S2 now, Letters S x to old okb f S2 now := by
  obtain ⟨h1, h2, h3⟩ := moved_get ok on x to
  refine ⟨(S.get x).getD zCached, (S.get x).isSome, (S.move x to).1, (S.move x to).2, ((S.move x to).2.get x).getD zCached, getVal_is _, rfl, ?_, h2, h3, fun h => move_none x to (by simpa using h)⟩
  rw [getVal_is, h1]
structure MoveWorld (w0 : World) (bx ob : Nat) (it : Item) (old : Cached) (base : Nat) (v1 : Value) (ys : List Cached) (a : Nat) (S2 : MC) (fp : List Nat) (w : World) : Prop where
  rep : MRep w a S2 fp
  box : w.heap[bx]? = some (.cells (encItem it) 31 (0, 0))
  old : w.heap[ob]? = some (.cells (encCached old) 49 (0, 0))
  own : Own w base 49 encCached 36 v1 ys
theorem MoveWorld.grew {w0 : World} {bx ob : Nat} {it : Item} {old : Cached} {base : Nat} {v1 : Value} {ys : List Cached} {a : Nat} {S2 : MC} {fp : List Nat} {w w' : World} (h : MoveWorld w0 bx ob it old base v1 ys a S2 fp w) (hg : Grew w w') : MoveWorld w0 bx ob it old base v1 ys a S2 fp w' :=
  ⟨h.rep.grew hg, hg.block h.box, hg.block h.old, h.own.grew hg⟩
theorem move_world {w0 wr wm w5 : World} {a bx ob : Nat} {S S2 : MC} {fp fp5 : List Nat} {it : Item} {old : Cached} {v1 : Value} {ys : List Cached} (m : MRep wr a S fp) (f : ∀ k ∈ fp, w0.heap.size ≤ k) (g : Grew w0 wr) (gm : Grew wr wm)
    (lx : bx < w0.heap.size) (xr : wr.heap[bx]? = some (.cells (encItem it) 31 (0, 0))) (om : wm.heap[ob]? = some (.cells (encCached old) 49 (0, 0))) (hob : wr.heap.size ≤ ob) (oo : Own wm wr.heap.size 49 encCached 36 v1 ys)
    (m5 : MRep w5 a S2 fp5) (u5 : Upd wm w5 fp fp5) : MoveWorld w0 bx ob it old wr.heap.size v1 ys a S2 fp5 w5 ∧ Grew w0 w5 := by
  refine ⟨⟨m5, ?_, ?_, ?_⟩, (u5.grown (g.trans gm) f).1⟩
  · rw [u5.block bx (Nat.lt_of_lt_of_le lx (g.trans gm).size) (fun hm => by have := f bx hm; omega)]
    exact gm.block xr
  · rw [u5.keeps (lt_of_block om) (fun k hk => by have := m.lt k hk; omega)]
    exact om
  · exact oo.keep fun b hb => u5.keeps (oo.lt b hb).2 (fun k hk => by have := m.lt k hk; have := (oo.lt b hb).1; omega)
theorem move_rows {S : MC} (ok : S.Ok) (on : S.Once) {x : Item} {to : Int} {old now : Cached} {okb : Bool} {f : Int} {S2 : MC} (L : Letters S x to old okb f S2 now) {ys zs : List Cached} (h1 : ys.Perm S.banks.flatten) (s1 : ys.Pairwise fun a b => ¬ itemLt b.Item a.Item)
    (h2 : zs.Perm S2.banks.flatten) (s2 : zs.Pairwise fun a b => ¬ itemLt b.Item a.Item) : zs = ys.map (moved f x to) ∧ zs.length = ys.length := by
  have e1 : (S.move x to).1 = f := by rw [L.move]
  have e2 : (S.move x to).2 = S2 := by rw [L.move]
  have := moved_rows ok on x to h1 s1 (zs := zs) (by rw [e2]; exact h2) s2
  rw [e1] at this
  exact ⟨this, by rw [this]; simp⟩
theorem own_row {w : World} {base : Nat} {A : Option Addr} {n c : Nat} {xs : List Cached} (h : Own w base 49 encCached 36 (.slice A n c) xs) {i : Nat} {q : Cached} (hq : xs[i]? = some q) :
    ∃ g, A = some ⟨g, 0, none⟩ ∧ w.rowD g (i * 36) 36 = encCached q ∧ w.hasRow g (i * 36) 36 = true ∧ g < w.heap.size := by
  have hi : i < xs.length := (List.getElem?_eq_some_iff.1 hq).1
  obtain ⟨g, cap, cur, he, hg1, hg2, hg3, hg4, hg5, hg6⟩ := h.block (by omega)
  injection he with he1 he2 he3
  obtain ⟨c1, c2⟩ := row_at encCached_size hg6 rfl hq
  obtain ⟨_, _, c3, c4, c5, c6⟩ := block_facts hg2
  exact ⟨g, he1, (c3 _ _).trans c1, (c4 _ _).trans (decide_eq_true c2), c6⟩
theorem MRep.few {w : World} {a : Nat} {S : MC} {fp : List Nat} (h : MRep w a S fp) : S.banks.flatten.length ≤ 256 := by
  obtain ⟨bb, hs, rfl, hn, h1, h2, h3, h4, h5, h6⟩ := h
  have := flatten_le S.banks h6
  omega
theorem MetaMoves_any {w : World} {A : Option Addr} {calls : List CallD} {c : Nat} (p : Plan) (h : Seen w encCall 37 A calls) (hc : calls.length ≤ c) (hm : c ≤ maxLen) (it : Item) (bank : Int) :
    Calls Try.prog 3 #[.agg (encPlan p), .slice A calls.length c, .agg (encItem it), .int .i64 bank] w fun e w' => e = .returned (.bool true) ∧ Grew w w' := by
  have HS := Lib.hid h
  have HM := Lib.hid hm
  have HC := Lib.hid hc
  clear h hm hc
  go_enter Try.func3, Try.ntmps3
  go_wp2_with (first | (go_at_call 5; refine (speaks_any _).mono ?_; rintro e w' ⟨rfl, z1, rfl⟩) | (go_at_call 6; refine (Fit_any p _).mono ?_; rintro e w' ⟨rfl, z2, rfl⟩))
  obtain ⟨w0, hw0⟩ : ∃ w0, ((w.alloc (Obj.cells (encPlan p.fit) 28)).alloc (Obj.cells (encItem it) 31)).ext { objs := z1.objs ++ z2.objs, d := z2.d } = w0 := ⟨_, rfl⟩
  have g0 : Grew w w0 := by subst hw0; all_goals repeat (with_reducible first | exact Grew.refl _ | apply Grew.ext | apply Grew.alloc | apply Grew.drew)
  have x0 : w0.heap[w.heap.size + 1]? = some (.cells (encItem it) 31 (0, 0)) := by
    subst hw0
    have := ha_new (w.alloc (Obj.cells (encPlan p.fit) 28)) (Obj.cells (encItem it) 31)
    rw [show (w.alloc (Obj.cells (encPlan p.fit) 28)).heap.size = w.heap.size + 1 by simp] at this
    exact (heap_ext _ _ _ (by simp)).trans this
  rw [hw0]
  have G0 := Lib.hid g0
  have X0 := Lib.hid x0
  have lx0 := lt_of_block x0
  clear g0 x0 hw0 z1 z2
  refine (New_yes p.fit (fit_right p) w0).mono ?_
  rintro e w1 ⟨a, fp, rfl, m1, g1, f1⟩
  have HREL : Hid (CRel w0 a p.fit w1) := Lib.hid ⟨_, fp, m1, new_ok (fit_right p), new_once _, rfl, g1, f1⟩
  have G1 := Lib.hid g1
  have HS1 := Seen.grew' HS (G0.out.trans g1)
  clear m1 g1 f1
  rcases Bool.eq_false_or_eq_true (greatD calls) with hgr | hgr
  · have HGR := Lib.hid hgr
    clear hgr
    go_wp2_with (go_at_call 8; refine (great_any HS1.out HC.out HM.out).mono ?_; rw [HGR.out]; rintro e w' ⟨rfl, x, rfl⟩)
    go_ret
    exact ⟨rfl, (G0.out.trans G1.out).ext _⟩
  · have HGR := Lib.hid hgr
    have h80 : calls.length ≤ 80 := by
      unfold greatD at hgr
      simp only [Bool.or_eq_false_iff, decide_eq_false_iff_not] at hgr
      omega
    clear hgr
    go_wp2_with (go_at_call 8; refine (great_any HS1.out HC.out HM.out).mono ?_; rw [HGR.out]; rintro e w' ⟨rfl, x, rfl⟩)
    obtain ⟨w2, hw2⟩ : ∃ w2, w1.ext x = w2 := ⟨_, rfl⟩
    rw [hw2]
    have g2 : Grew w1 w2 := by subst hw2; exact (Grew.refl _).ext _
    have HS2 := Seen.grew' HS1 g2
    have HREL2 : Hid (CRel w0 a p.fit w2) := Lib.hid (HREL.out.grew g2)
    clear hw2 g2 HREL HS1 x G1
    go_loopw [49] (fun i wr => ∃ k : Nat, k ≤ calls.length ∧ i = .int .i64 k ∧ CRel w0 a p.fit wr) (fun i _ => calls.length - (intOf i).toNat)
    case atStart => exact ⟨0, by omega, rfl, HREL2.out⟩
    case round =>
      obtain ⟨k, hk, rfl, hcr⟩ := hrel
      have HCR := Lib.hid hcr
      clear hcr
      by_cases hlt : k < calls.length
      · obtain ⟨S, fp, m, ok, on, pl, g, f⟩ := HCR.out
        have HSr := Seen.grew' HS (G0.out.trans g)
        obtain ⟨b, o, hA, lb, f3, f4⟩ := HSr.out k calls[k] (List.getElem?_eq_getElem hlt)
        subst hA
        generalize calls[k] = q at *
        have M := Lib.hid m
        have G := Lib.hid g
        have F := Lib.hid f
        have PL := Lib.hid pl
        have OK := Lib.hid ok
        have ON := Lib.hid on
        clear m g f pl ok on
        by_cases hq : q.What = 1
        · have b1 : (q.What == 1) = true := by simp [hq]
          have HQ := Lib.hid hq
          clear hq
          go_wp2_with (go_at_call 9; refine (Put_any (M.out.grew (Grew.alloc (Grew.refl wr) _)) OK.out _ _ _).mono ?_; rintro e w5 ⟨rfl, fp5, m5, u5⟩; obtain ⟨M5, U5, c0, r1, r2, r3, r4⟩ := call_put M.out m5 u5; clear m5 u5)
          refine (Update_any M5.out (put_cases OK.out q.Bank q.Item q.Bytes).1 _ _).mono ?_
          rintro e w6 ⟨rfl, fp6, m6, u6⟩
          have HN : Hid (CRel w0 a p.fit w6) := Lib.hid (by
            have U6 := U5.out.trans u6 (M.out.lt)
            have g6 := U6.grown G.out F.out
            have ks := step_keeps OK.out ON.out q.What q.Bank q.Item q.Bytes
            have e1 : S.step q.What q.Bank q.Item q.Bytes = ((S.put q.Bank q.Item q.Bytes).2.update q.Item q.Bytes).2 := by simp [MC.step, HQ.out]
            rw [e1] at ks
            exact ⟨_, fp6, m6, ks.1, ks.2.1, ks.2.2.trans PL.out, g6.1, g6.2⟩)
          clear m6 u6
          go_wp2
          go_roundw
          case rel => exact ⟨k + 1, by omega, by go_num, HN.out⟩
          case measure => simp [intOf]; omega
        · have b1 : (q.What == 1) = false := by simp [hq]
          have HQ := Lib.hid hq
          clear hq
          go_wp2_with (go_at_call 9; refine (Put_any (M.out.grew (Grew.alloc (Grew.refl wr) _)) OK.out _ _ _).mono ?_; rintro e w5 ⟨rfl, fp5, m5, u5⟩; obtain ⟨M5, U5, c0, r1, r2, r3, r4⟩ := call_put M.out m5 u5; clear m5 u5)
          have HN : Hid (CRel w0 a p.fit w5) := Lib.hid (by
            have g6 := U5.out.grown G.out F.out
            have ks := step_keeps OK.out ON.out q.What q.Bank q.Item q.Bytes
            have e1 : S.step q.What q.Bank q.Item q.Bytes = (S.put q.Bank q.Item q.Bytes).2 := by simp [MC.step, HQ.out]
            rw [e1] at ks
            exact ⟨_, fp5, M5.out, ks.1, ks.2.1, ks.2.2.trans PL.out, g6.1, g6.2⟩)
          go_roundw
          case rel => exact ⟨k + 1, by omega, by go_num, HN.out⟩
          case measure => simp [intOf]; omega
      · obtain rfl : k = calls.length := by omega
        obtain ⟨S, fp, m, ok, on, pl, g, f⟩ := HCR.out
        have M := Lib.hid m
        have G := Lib.hid g
        have F := Lib.hid f
        have OK := Lib.hid ok
        have ON := Lib.hid on
        obtain ⟨old, okb, f1, S2, now, L⟩ := move_letters ok on it bank
        have HL := Lib.hid L
        have xr := g.block X0.out
        obtain ⟨_, _, q3, q4, _, lxr⟩ := block_facts xr
        have Q3 : wr.rowD (w.heap.size + 1) 0 2 = encItem it := (q3 0 2).trans (by simp)
        have Q4 : wr.hasRow (w.heap.size + 1) 0 2 = true := (q4 0 2).trans (by simp)
        have XR := Lib.hid xr
        clear m g f pl ok on L q3 q4 xr
        go_wp2_with (first | (go_at_call 11; refine (AllM_any M.out).mono ?_; rintro e w3 ⟨v1, ys, rfl, p1, s1, o1, z1, rfl⟩; have P1 := Lib.hid p1; have S1 := Lib.hid s1; obtain ⟨A1, c1, hv1, _, _⟩ := o1.shape; subst hv1; have O1 := Lib.hid o1; clear p1 s1 o1) | (go_at_call 12; refine (Get_any (M.out.grew (by all_goals repeat (with_reducible first | exact Grew.refl _ | apply Grew.ext | apply Grew.alloc | apply Grew.drew))) it).mono ?_; rw [HL.out.get]; rintro e w' ⟨rfl, z2, rfl⟩))
        obtain ⟨ob, hob⟩ : ∃ ob, wr.heap.size + (z1.objs.size + z2.objs.size) = ob := ⟨_, rfl⟩
        obtain ⟨wm, hwm⟩ : ∃ wm, (wr.ext { objs := z1.objs ++ z2.objs, d := z2.d }).alloc (Obj.cells (encCached old) 49) = wm := ⟨_, rfl⟩
        have e0 : (wr.ext { objs := z1.objs ++ z2.objs, d := z2.d }).heap.size = ob := by rw [size_ext, ← hob]; simp
        have gm : Grew wr wm := by subst hwm; all_goals repeat (with_reducible first | exact Grew.refl _ | apply Grew.ext | apply Grew.alloc | apply Grew.drew)
        have om : wm.heap[ob]? = some (.cells (encCached old) 49 (0, 0)) := by subst hwm; rw [← e0]; exact ha_new _ _
        have o1m : Own wm wr.heap.size 49 encCached 36 (.slice A1 ys.length c1) ys := by
          refine O1.out.keep fun b hb => ?_
          have h1 := (O1.out.lt b hb).2
          subst hwm
          have e : wr.ext { objs := z1.objs ++ z2.objs, d := z2.d } = (wr.ext z1).ext z2 := (ext_ext _ _ _).symm
          rw [e, ha_old _ _ _ (by rw [size_ext]; omega), heap_ext _ _ _ h1]
        rw [hwm, hob]
        have GM := Lib.hid gm
        have OM := Lib.hid om
        have OO := Lib.hid o1m
        have hob2 : wr.heap.size ≤ ob := by omega
        clear hwm hob e0 gm om o1m O1 Q3 Q4 z1 z2
        refine (Move_any (M.out.grew GM.out) OK.out it bank).mono ?_
        rw [HL.out.move]
        rintro e w5 ⟨rfl, fp5, m5, u5⟩
        obtain ⟨D, g5⟩ := move_world M.out F.out G.out GM.out lx0 XR.out OM.out hob2 OO.out m5 u5
        have HD := Lib.hid D
        have G5 := Lib.hid (G0.out.trans g5)
        clear D g5 m5 u5
        have hn256 : ys.length ≤ 256 := by rw [P1.out.length_eq]; exact M.out.few
        have HO2 : Hid S2.Once := Lib.hid (by have := move_once OK.out ON.out it bank; rw [HL.out.move] at this; exact this)
        by_cases hf0 : f1 = 0
        · subst hf0
          obtain rfl : okb = true := by
            cases h : okb with
            | true => rfl
            | false => exact absurd rfl (HL.out.none h)
          go_wp2_with (first | (go_at_call 11; refine (AllM_any HD.out.rep).mono ?_; rintro e w3 ⟨v2, zs, rfl, p2, s2, o2, z3, rfl⟩; obtain ⟨A2, c2, hv2, _, _⟩ := o2.shape; obtain ⟨ZR, ZL⟩ := move_rows OK.out ON.out HL.out P1.out S1.out p2 s2; rw [ZL] at hv2; subst hv2; have O2 := Lib.hid o2; have P2 := Lib.hid p2; have HZR := Lib.hid ZR; have HZL := Lib.hid ZL; clear p2 s2 o2 ZR ZL))
          obtain ⟨w6, hw6⟩ : ∃ w6, w5.ext z3 = w6 := ⟨_, rfl⟩
          have D6 := Lib.hid (HD.out.grew (show Grew w5 w6 by subst hw6; exact (Grew.refl _).ext _))
          have G6 := Lib.hid (show Grew w w6 by subst hw6; exact G5.out.ext _)
          rw [hw6] at O2 ⊢
          clear hw6
          go_loopw [100] (fun i wl => ∃ k : Nat, k ≤ ys.length ∧ i = .int .i64 k ∧ Grew w6 wl) (fun i _ => ys.length - (intOf i).toNat)
          case atStart => exact ⟨0, by omega, rfl, Grew.refl _⟩
          case round =>
            obtain ⟨k, hk, rfl, hgl⟩ := hrel
            have GL := Lib.hid hgl
            obtain ⟨_, xb, _, ob1⟩ := D6.out.grew hgl
            obtain ⟨_, _, q3, q4, _, lxb⟩ := block_facts xb
            have Q3 : wr.rowD (w.heap.size + 1) 0 2 = encItem it := (q3 0 2).trans (by simp)
            have Q4 : wr.hasRow (w.heap.size + 1) 0 2 = true := (q4 0 2).trans (by simp)
            have OB := Lib.hid ob1
            have OZ := Lib.hid (O2.out.grew hgl)
            clear hgl q3 q4 xb ob1
            by_cases hlt : k < ys.length
            · have hzl : k < zs.length := by rw [HZL.out]; exact hlt
              obtain ⟨g1, hA1, r1, r2, l1⟩ := own_row OB.out (List.getElem?_eq_getElem hlt)
              obtain ⟨g2, hA2, r3, r4, l2⟩ := own_row OZ.out (List.getElem?_eq_getElem hzl)
              have hzk : zs[k] = moved 0 it bank ys[k] := by
                have := HZR.out
                subst this
                simp
              rw [hzk] at r3
              have hzx : Hid (zs[k]? = some (moved 0 it bank ys[k])) := Lib.hid (by rw [← hzk]; exact List.getElem?_eq_getElem hzl)
              obtain ⟨r5, r6⟩ := row_item r3 r4
              rw [moved_item] at r5
              subst hA1 hA2
              generalize ys[k] = b at *
              clear hzk
              by_cases hbi : b.Item = it
              · have hmv : moved 0 it bank b = { b with Bank := bank } := by unfold moved; rw [if_pos ⟨rfl, hbi⟩]
                rw [hmv] at r3
                have d1 : decide (b.Item.Level = it.Level ∧ b.Item.Index = it.Index) = true := by rw [hbi]; simp
                clear hmv hbi
                rcases Nat.eq_zero_or_pos k with hk0 | hk0
                · subst hk0
                  go_wp2
                  (first | refine wp_region_calm_ext (by kernel_rfl) (by kernel_rfl) ?_ | refine wp_region_calm (by kernel_rfl) (by kernel_rfl) ?_)
                  repeat (go_big_quiet_step (fail))
                  refine wpQuiet_nil ?_
                  rintro _ ⟨y, rfl⟩
                  go_wp2
                  go_roundw
                  case rel => exact ⟨0 + 1, by omega, by go_num, ((GL.out.alloc _).ext _)⟩
                  case measure => simp [intOf]; omega
                · obtain ⟨j, rfl⟩ : ∃ j, k = j + 1 := ⟨k - 1, by omega⟩
                  have hjl : j < zs.length := by omega
                  obtain ⟨g3, hA3, r7, r8, _⟩ := own_row OZ.out (List.getElem?_eq_getElem hjl)
                  injection hA3 with hA3
                  injection hA3 with hA3
                  subst hA3
                  obtain ⟨r9, r10⟩ := row_item r7 r8
                  have hne := apart_at (S := S2) HO2.out P2.out (List.getElem?_eq_getElem hjl) hzx.out
                  rw [moved_item] at hne
                  generalize zs[j] = r at *
                  have d3 : decide (b.Item.Level = r.Item.Level ∧ b.Item.Index = r.Item.Index) = false := by
                    rw [decide_eq_false_iff_not]
                    rintro ⟨h1, h2⟩
                    exact hne (by cases hb : b.Item; cases hr : r.Item; simp_all)
                  clear hne r7 r8 hjl
                  go_wp2
                  (first | refine wp_region_calm_ext (by kernel_rfl) (by kernel_rfl) ?_ | refine wp_region_calm (by kernel_rfl) (by kernel_rfl) ?_)
                  repeat (go_big_quiet_step (fail))
                  refine wpQuiet_nil ?_
                  rintro _ ⟨y, rfl⟩
                  go_wp2
                  go_roundw
                  case rel => exact ⟨(j + 1) + 1, by omega, by go_num, ((GL.out.alloc _).ext _)⟩
                  case measure => simp [intOf]; omega
              · have hmv : moved 0 it bank b = b := by unfold moved; rw [if_neg (fun e => hbi e.2)]
                rw [hmv] at r3
                have d1 : decide (b.Item.Level = it.Level ∧ b.Item.Index = it.Index) = false := by
                  rw [decide_eq_false_iff_not]
                  rintro ⟨h1, h2⟩
                  exact hbi (by cases hb : b.Item; cases it; simp_all)
                clear hmv hbi
                rcases Nat.eq_zero_or_pos k with hk0 | hk0
                · subst hk0
                  go_wp2
                  (first | refine wp_region_calm_ext (by kernel_rfl) (by kernel_rfl) ?_ | refine wp_region_calm (by kernel_rfl) (by kernel_rfl) ?_)
                  repeat (go_big_quiet_step (fail))
                  refine wpQuiet_nil ?_
                  rintro _ ⟨y, rfl⟩
                  go_wp2
                  go_roundw
                  case rel => exact ⟨0 + 1, by omega, by go_num, ((GL.out.alloc _).ext _)⟩
                  case measure => simp [intOf]; omega
                · obtain ⟨j, rfl⟩ : ∃ j, k = j + 1 := ⟨k - 1, by omega⟩
                  have hjl : j < zs.length := by omega
                  obtain ⟨g3, hA3, r7, r8, _⟩ := own_row OZ.out (List.getElem?_eq_getElem hjl)
                  injection hA3 with hA3
                  injection hA3 with hA3
                  subst hA3
                  obtain ⟨r9, r10⟩ := row_item r7 r8
                  have hne := apart_at (S := S2) HO2.out P2.out (List.getElem?_eq_getElem hjl) hzx.out
                  rw [moved_item] at hne
                  generalize zs[j] = r at *
                  have d3 : decide (b.Item.Level = r.Item.Level ∧ b.Item.Index = r.Item.Index) = false := by
                    rw [decide_eq_false_iff_not]
                    rintro ⟨h1, h2⟩
                    exact hne (by cases hb : b.Item; cases hr : r.Item; simp_all)
                  clear hne r7 r8 hjl
                  go_wp2
                  (first | refine wp_region_calm_ext (by kernel_rfl) (by kernel_rfl) ?_ | refine wp_region_calm (by kernel_rfl) (by kernel_rfl) ?_)
                  repeat (go_big_quiet_step (fail))
                  refine wpQuiet_nil ?_
                  rintro _ ⟨y, rfl⟩
                  go_wp2
                  go_roundw
                  case rel => exact ⟨(j + 1) + 1, by omega, by go_num, ((GL.out.alloc _).ext _)⟩
                  case measure => simp [intOf]; omega
            · obtain rfl : k = ys.length := by omega
              obtain ⟨mm, xb2, ob2, _⟩ := D6.out.grew GL.out
              obtain ⟨oc, _, o3, o4, _, lob⟩ := block_facts ob2
              have W3 : wr.rowD ob 3 32 = encB old.Bytes := (o3 3 32).trans (encCached_bytes old)
              have W4 : wr.hasRow ob 3 32 = true := (o4 3 32).trans (by simp)
              have W5 : wr.cell? ⟨ob, 35, none⟩ = some (.bool old.Dirty) := (oc 35).trans (encCached_35 old)
              have MM := Lib.hid mm
              have e1 := HL.out.bytes
              have e2 := HL.out.dirty
              clear mm xb2 ob2 oc o3 o4
              go_wp2_with (go_at_call 12; refine (Get_any (MM.out) it).mono ?_; rw [HL.out.get2]; rintro e w' ⟨rfl, z5, rfl⟩)
              go_ret
              exact ⟨rfl, ((G6.out.trans GL.out).ext _).alloc _⟩
        · have hfb : (f1 == 0) = false := by simpa using hf0
          cases okb
          all_goals
            go_wp2_with (first | (go_at_call 11; refine (AllM_any HD.out.rep).mono ?_; rintro e w3 ⟨v2, zs, rfl, p2, s2, o2, z3, rfl⟩; obtain ⟨A2, c2, hv2, _, _⟩ := o2.shape; obtain ⟨ZR, ZL⟩ := move_rows OK.out ON.out HL.out P1.out S1.out p2 s2; rw [ZL] at hv2; subst hv2; have O2 := Lib.hid o2; have P2 := Lib.hid p2; have HZR := Lib.hid ZR; have HZL := Lib.hid ZL; clear p2 s2 o2 ZR ZL))
            obtain ⟨w6, hw6⟩ : ∃ w6, w5.ext z3 = w6 := ⟨_, rfl⟩
            have D6 := Lib.hid (HD.out.grew (show Grew w5 w6 by subst hw6; exact (Grew.refl _).ext _))
            have G6 := Lib.hid (show Grew w w6 by subst hw6; exact G5.out.ext _)
            rw [hw6] at O2 ⊢
            clear hw6
            go_loopw [100] (fun i wl => ∃ k : Nat, k ≤ ys.length ∧ i = .int .i64 k ∧ Grew w6 wl) (fun i _ => ys.length - (intOf i).toNat)
            case atStart => exact ⟨0, by omega, rfl, Grew.refl _⟩
            case round =>
              obtain ⟨k, hk, rfl, hgl⟩ := hrel
              have GL := Lib.hid hgl
              obtain ⟨_, xb, _, ob1⟩ := D6.out.grew hgl
              obtain ⟨_, _, q3, q4, _, lxb⟩ := block_facts xb
              have Q3 : wr.rowD (w.heap.size + 1) 0 2 = encItem it := (q3 0 2).trans (by simp)
              have Q4 : wr.hasRow (w.heap.size + 1) 0 2 = true := (q4 0 2).trans (by simp)
              have OB := Lib.hid ob1
              have OZ := Lib.hid (O2.out.grew hgl)
              clear hgl q3 q4 xb ob1
              by_cases hlt : k < ys.length
              · have hzl : k < zs.length := by rw [HZL.out]; exact hlt
                obtain ⟨g1, hA1, r1, r2, l1⟩ := own_row OB.out (List.getElem?_eq_getElem hlt)
                obtain ⟨g2, hA2, r3, r4, l2⟩ := own_row OZ.out (List.getElem?_eq_getElem hzl)
                have hzk : zs[k] = moved f1 it bank ys[k] := by
                  have := HZR.out
                  subst this
                  simp
                rw [hzk] at r3
                have hzx : Hid (zs[k]? = some (moved f1 it bank ys[k])) := Lib.hid (by rw [← hzk]; exact List.getElem?_eq_getElem hzl)
                obtain ⟨r5, r6⟩ := row_item r3 r4
                rw [moved_item] at r5
                subst hA1 hA2
                generalize ys[k] = b at *
                clear hzk
                have hmv : moved f1 it bank b = b := by unfold moved; rw [if_neg (fun e => hf0 e.1)]
                rw [hmv] at r3
                rcases Bool.eq_false_or_eq_true (decide (b.Item.Level = it.Level ∧ b.Item.Index = it.Index)) with d1 | d1
                · clear hmv
                  rcases Nat.eq_zero_or_pos k with hk0 | hk0
                  · subst hk0
                    go_wp2
                    (first | refine wp_region_calm_ext (by kernel_rfl) (by kernel_rfl) ?_ | refine wp_region_calm (by kernel_rfl) (by kernel_rfl) ?_)
                    repeat (go_big_quiet_step (fail))
                    refine wpQuiet_nil ?_
                    rintro _ ⟨y, rfl⟩
                    go_wp2
                    go_roundw
                    case rel => exact ⟨0 + 1, by omega, by go_num, ((GL.out.alloc _).ext _)⟩
                    case measure => simp [intOf]; omega
                  · obtain ⟨j, rfl⟩ : ∃ j, k = j + 1 := ⟨k - 1, by omega⟩
                    have hjl : j < zs.length := by omega
                    obtain ⟨g3, hA3, r7, r8, _⟩ := own_row OZ.out (List.getElem?_eq_getElem hjl)
                    injection hA3 with hA3
                    injection hA3 with hA3
                    subst hA3
                    obtain ⟨r9, r10⟩ := row_item r7 r8
                    have hne := apart_at (S := S2) HO2.out P2.out (List.getElem?_eq_getElem hjl) hzx.out
                    rw [moved_item] at hne
                    generalize zs[j] = r at *
                    have d3 : decide (b.Item.Level = r.Item.Level ∧ b.Item.Index = r.Item.Index) = false := by
                      rw [decide_eq_false_iff_not]
                      rintro ⟨h1, h2⟩
                      exact hne (by cases hb : b.Item; cases hr : r.Item; simp_all)
                    clear hne r7 r8 hjl
                    go_wp2
                    (first | refine wp_region_calm_ext (by kernel_rfl) (by kernel_rfl) ?_ | refine wp_region_calm (by kernel_rfl) (by kernel_rfl) ?_)
                    repeat (go_big_quiet_step (fail))
                    refine wpQuiet_nil ?_
                    rintro _ ⟨y, rfl⟩
                    go_wp2
                    go_roundw
                    case rel => exact ⟨(j + 1) + 1, by omega, by go_num, ((GL.out.alloc _).ext _)⟩
                    case measure => simp [intOf]; omega
                · clear hmv
                  rcases Nat.eq_zero_or_pos k with hk0 | hk0
                  · subst hk0
                    go_wp2
                    (first | refine wp_region_calm_ext (by kernel_rfl) (by kernel_rfl) ?_ | refine wp_region_calm (by kernel_rfl) (by kernel_rfl) ?_)
                    repeat (go_big_quiet_step (fail))
                    refine wpQuiet_nil ?_
                    rintro _ ⟨y, rfl⟩
                    go_wp2
                    go_roundw
                    case rel => exact ⟨0 + 1, by omega, by go_num, ((GL.out.alloc _).ext _)⟩
                    case measure => simp [intOf]; omega
                  · obtain ⟨j, rfl⟩ : ∃ j, k = j + 1 := ⟨k - 1, by omega⟩
                    have hjl : j < zs.length := by omega
                    obtain ⟨g3, hA3, r7, r8, _⟩ := own_row OZ.out (List.getElem?_eq_getElem hjl)
                    injection hA3 with hA3
                    injection hA3 with hA3
                    subst hA3
                    obtain ⟨r9, r10⟩ := row_item r7 r8
                    have hne := apart_at (S := S2) HO2.out P2.out (List.getElem?_eq_getElem hjl) hzx.out
                    rw [moved_item] at hne
                    generalize zs[j] = r at *
                    have d3 : decide (b.Item.Level = r.Item.Level ∧ b.Item.Index = r.Item.Index) = false := by
                      rw [decide_eq_false_iff_not]
                      rintro ⟨h1, h2⟩
                      exact hne (by cases hb : b.Item; cases hr : r.Item; simp_all)
                    clear hne r7 r8 hjl
                    go_wp2
                    (first | refine wp_region_calm_ext (by kernel_rfl) (by kernel_rfl) ?_ | refine wp_region_calm (by kernel_rfl) (by kernel_rfl) ?_)
                    repeat (go_big_quiet_step (fail))
                    refine wpQuiet_nil ?_
                    rintro _ ⟨y, rfl⟩
                    go_wp2
                    go_roundw
                    case rel => exact ⟨(j + 1) + 1, by omega, by go_num, ((GL.out.alloc _).ext _)⟩
                    case measure => simp [intOf]; omega
              · obtain rfl : k = ys.length := by omega
                obtain ⟨mm, xb2, ob2, _⟩ := D6.out.grew GL.out
                obtain ⟨oc, _, o3, o4, _, lob⟩ := block_facts ob2
                have W3 : wr.rowD ob 3 32 = encB old.Bytes := (o3 3 32).trans (encCached_bytes old)
                have W4 : wr.hasRow ob 3 32 = true := (o4 3 32).trans (by simp)
                have W5 : wr.cell? ⟨ob, 35, none⟩ = some (.bool old.Dirty) := (oc 35).trans (encCached_35 old)
                have MM := Lib.hid mm
                have e1 := HL.out.bytes
                have e2 := HL.out.dirty
                clear mm xb2 ob2 oc o3 o4
                go_wp2_with (go_at_call 12; refine (Get_any (MM.out) it).mono ?_; rw [HL.out.get2]; rintro e w' ⟨rfl, z5, rfl⟩)
                go_ret
                exact ⟨rfl, ((G6.out.trans GL.out).ext _).alloc _⟩
end Go.Proofs.Ytngmdedoboccoaa
