/- Package meta: Drop, Update, Move, Put. -/
import Derived.Test.YtngmdedoboccoaaMet3
set_option linter.unusedVariables false
set_option linter.unusedSimpArgs false
set_option maxHeartbeats 1000000
set_option maxRecDepth 100000
namespace Go.Proofs.Ytngmdedoboccoaa
open Go Go.RowKit

def MC.take (S : MC) (k i : Nat) : MC := ⟨S.plan, S.banks.set k ((S.banks.getD k []).eraseIdx i)⟩
def MC.last (S : MC) (q : Cached) : MC := ⟨S.plan, S.banks.set q.Bank.toNat (S.banks.getD q.Bank.toNat [] ++ [q])⟩
def MC.at (S : MC) (k i : Nat) : Cached := ((S.banks.getD k []).getD i zCached)
def MC.drop (S : MC) (x : Item) : Int × MC :=
  match S.find x with
  | none => (6, S)
  | some (k, i) => (0, S.take k i)
def MC.update (S : MC) (x : Item) (b : Vector UInt8 32) : Int × MC :=
  match S.find x with
  | none => (6, S)
  | some (k, i) => (0, (S.take k i).last { S.at k i with Bytes := b, Dirty := true })
def MC.move (S : MC) (x : Item) (to : Int) : Int × MC :=
  if S.there to = false then (2, S) else
  match S.find x with
  | none => (6, S)
  | some (k, i) => if (k : Int) ≠ to ∧ S.room to = 0 then (5, S) else (0, (S.take k i).last { S.at k i with Bank := to })
def MC.put (S : MC) (bank : Int) (x : Item) (b : Vector UInt8 32) : Int × MC :=
  if S.there bank = false ∨ S.plan.item x = false then (2, S) else
  match S.find x with
  | some _ => (7, S)
  | none => if S.room bank = 0 then (5, S) else (0, S.last ⟨x, bank, b, false⟩)
/-- What holds of all that is cached. -/
structure MC.Ok (S : MC) : Prop where
  few : 0 ≤ S.plan.Meta ∧ S.plan.Meta ≤ 64
  len : (S.banks.length : Int) = S.plan.Banks
  bank : ∀ (k : Nat) (xs : List Cached), S.banks[k]? = some xs → (∀ q ∈ xs, q.Bank = k) ∧ (xs.length : Int) ≤ S.plan.Meta

theorem Upd.of {w w' : World} (h : Grew w w') (fp : List Nat) : Upd w w' fp fp :=
  ⟨h.below.os, h.below.tape, h.below.output, h.size, fun k hk _ => h.heap hk, fun k hk => .inl hk⟩
theorem Drop_any {w : World} {a : Nat} {S : MC} {fp : List Nat} (h : MRep w a S fp) (it : Item) :
    Calls Try.prog 18 #[.pointer (some ⟨a, 0, none⟩), .agg (encItem it)] w fun e w' =>
      e = .returned (.int .i64 (S.drop it).1) ∧ ∃ fp', MRep w' a (S.drop it).2 fp' ∧ Upd w w' fp fp' := by
  have hfa := fun (o : Obj) => find_any (h.grew ((Grew.refl w).alloc o)) it
  cases hf : S.find it with
  | none =>
    have HD : Hid (S.drop it = (6, S)) := Lib.hid (by simp [MC.drop, hf])
    rw [hf] at hfa
    simp only [findVal] at hfa
    have HF := Lib.hid hfa
    have HR := Lib.hid h
    clear hfa h hf
    go_enter Try.func18, Try.ntmps18
    go_wp2_with (go_at_call 31; refine (HF.out _).mono ?_; rintro e w' ⟨rfl, x, rfl⟩)
    rw [HD.out]
    go_ret
    have hg : Grew w ((w.alloc (Obj.cells (encItem it) 31)).ext x) := by all_goals repeat (with_reducible first | exact Grew.refl _ | apply Grew.ext | apply Grew.alloc | apply Grew.drew)
    exact ⟨rfl, fp, HR.out.grew hg, Upd.of hg fp⟩
  | some z =>
    obtain ⟨k, i⟩ := z
    obtain ⟨xs, q, hb, hi, hq⟩ := findBanks_some hf
    have HD : Hid (S.drop it = (0, ⟨S.plan, S.banks.set k (xs.eraseIdx i)⟩)) := Lib.hid (by simp [MC.drop, hf, MC.take, hb])
    rw [hf] at hfa
    simp only [findVal] at hfa
    have HF := Lib.hid hfa
    have HT := Lib.hid fun (w2 : World) (hg : Grew w w2) => take_any (h.grew hg) hb hi
    clear hfa h hf hb hi
    go_enter Try.func18, Try.ntmps18
    go_wp2_with (go_at_call 31; refine (HF.out _).mono ?_; rintro e w' ⟨rfl, x, rfl⟩)
    have hg : Grew w ((w.alloc (Obj.cells (encItem it) 31)).ext x) := by all_goals repeat (with_reducible first | exact Grew.refl _ | apply Grew.ext | apply Grew.alloc | apply Grew.drew)
    refine (HT.out _ hg).mono ?_
    rintro e w1 ⟨rfl, fp', r1, r2⟩
    have HR := Lib.hid r1
    have HU := Lib.hid (Upd.of_grew hg r2)
    clear r1 r2
    go_wp2
    rw [HD.out]
    go_ret
    exact ⟨rfl, fp', HR.out, HU.out⟩
/-- What a call of take leaves of a world that grew: its own blocks. -/
theorem Upd.keeps {w w' : World} {fp fp' : List Nat} (h : Upd w w' fp fp') {b : Nat} (hb : b < w.heap.size) (hn : ∀ k ∈ fp, k < b) : w'.heap[b]? = w.heap[b]? :=
  h.block b hb fun hm => by have := hn b hm; omega
section
variable (q : Cached)
@[go_sem ↓ high] theorem put_bytes (b : Vector UInt8 32) : putCells (encCached q) 3 (encB b) = encCached { q with Bytes := b } := by
  apply Array.ext'
  simp [putCells, encCached, cCached, encB, List.extract_eq_take_drop, List.drop_append]
@[go_sem ↓ high] theorem set_dirty (d : Bool) : (encCached q).setIfInBounds 35 (.bool d) = encCached { q with Dirty := d } := by
  apply Array.ext'
  simp [encCached, cCached, List.set_append]
@[go_sem ↓ high] theorem set_bank (n : Int) : (encCached q).setIfInBounds 2 (.int .i64 n) = encCached { q with Bank := n } := by
  apply Array.ext'
  simp [encCached, cCached]
end
theorem encB_all {n : Nat} (v : Vector UInt8 n) : (encB v).extract 0 n = encB v := (congrArg (fun n => (encB v).extract 0 n) (encB_size v).symm).trans (by simp)
theorem Update_any {w : World} {a : Nat} {S : MC} {fp : List Nat} (h : MRep w a S fp) (ok : S.Ok) (it : Item) (b : Vector UInt8 32) :
    Calls Try.prog 10 #[.pointer (some ⟨a, 0, none⟩), .agg (encItem it), .agg (encB b)] w fun e w' =>
      e = .returned (.int .i64 (S.update it b).1) ∧ ∃ fp', MRep w' a (S.update it b).2 fp' ∧ Upd w w' fp fp' := by
  have hfa := fun (o o' : Obj) => find_any ((h.grew ((Grew.refl w).alloc o)).grew ((Grew.refl _).alloc o')) it
  cases hf : S.find it with
  | none =>
    have HD : Hid (S.update it b = (6, S)) := Lib.hid (by simp [MC.update, hf])
    rw [hf] at hfa
    simp only [findVal] at hfa
    have HF := Lib.hid hfa
    have HR := Lib.hid h
    clear hfa h hf
    go_enter Try.func10, Try.ntmps10
    go_wp2_with (go_at_call 31; refine (HF.out _ _).mono ?_; rintro e w' ⟨rfl, x, rfl⟩)
    rw [HD.out]
    go_ret
    have hg : Grew w (((w.alloc (Obj.cells (encItem it) 31)).alloc (Obj.cells (encB b) 40)).ext x) := by all_goals repeat (with_reducible first | exact Grew.refl _ | apply Grew.ext | apply Grew.alloc | apply Grew.drew)
    exact ⟨rfl, fp, HR.out.grew hg, Upd.of hg fp⟩
  | some z =>
    obtain ⟨k, i⟩ := z
    obtain ⟨xs, q, hb, hi, rfl⟩ := findBanks_some hf
    obtain ⟨hbk, hlen⟩ := ok.bank k xs hb
    have hqb := hbk q (List.mem_of_getElem? hi)
    have hil : i < xs.length := (List.getElem?_eq_some_iff.1 hi).1
    have hbl : k < S.banks.length := (List.getElem?_eq_some_iff.1 hb).1
    have HD : Hid (S.update q.Item b = (0, ⟨S.plan, (S.banks.set k (xs.eraseIdx i)).set k (xs.eraseIdx i ++ [{ q with Bytes := b, Dirty := true }])⟩)) := Lib.hid (by
      have : S.at k i = q := by simp [MC.at, hb, hi]
      have hbx : S.banks[k] = xs := (List.getElem?_eq_some_iff.1 hb).2
      simp [MC.update, hf, MC.take, MC.last, hb, this, hqb, hbl, hbx])
    have hfp := h.lt
    rw [hf] at hfa
    simp only [findVal] at hfa
    have HF := Lib.hid hfa
    have HP := Lib.hid hfp
    have HT := Lib.hid fun (w2 : World) (hg : Grew w w2) => take_any (h.grew hg) hb hi
    have HL := Lib.hid fun (w2 : World) (fp2 : List Nat) (h2 : MRep w2 a ⟨S.plan, S.banks.set k (xs.eraseIdx i)⟩ fp2) => last_any h2 (k := k) (xs := xs.eraseIdx i) (q := { q with Bytes := b, Dirty := true }) (by simp [hbl]) hqb
      (by rw [List.length_eraseIdx, if_pos hil]; have := ok.few; omega)
    clear hfa h hf hb hi hfp hbk hqb ok
    go_enter Try.func10, Try.ntmps10
    go_wp2_with (go_at_call 31; refine (HF.out _ _).mono ?_; rintro e w' ⟨rfl, x, rfl⟩)
    obtain ⟨W, hW⟩ : ∃ W, ((w.alloc (Obj.cells (encItem q.Item) 31)).alloc (Obj.cells (encB b) 40)).ext x = W := ⟨_, rfl⟩
    have hg : Grew w W := by subst hW; all_goals repeat (with_reducible first | exact Grew.refl _ | apply Grew.ext | apply Grew.alloc | apply Grew.drew)
    have hx : W.heap[w.heap.size + 1]? = some (.cells (encB b) 40 (0, 0)) := by
      subst hW
      refine (heap_ext _ _ _ (by simp)).trans ?_
      have := ha_new (w.alloc (Obj.cells (encItem q.Item) 31)) (Obj.cells (encB b) 40)
      rw [show (w.alloc (Obj.cells (encItem q.Item) 31)).heap.size = w.heap.size + 1 by simp] at this
      exact this
    rw [hW]
    clear hW
    refine (HT.out _ hg).mono ?_
    rintro e w1 ⟨rfl, fp', r1, r2⟩
    have hx1 := (r2.keeps (lt_of_block hx) fun k hk => by have := HP.out k hk; omega).trans hx
    have hU := Upd.of_grew hg r2
    obtain ⟨_, _, p3, p4, p5, p6⟩ := block_facts hx1
    have P3 := (p3 0 32).trans (encB_all b)
    have P4 := (p4 0 32).trans (decide_eq_true (by simp))
    have HR := Lib.hid r1
    have HU := Lib.hid hU
    clear r1 r2 hU hx1 hx p3 p4
    go_wp2_with (go_at_call 33; refine (HL.out _ fp' (HR.out.grew ?_)).mono ?_; all_goals repeat (with_reducible first | exact Grew.refl _ | apply Grew.ext | apply Grew.alloc | apply Grew.drew))
    rintro e w2 ⟨rfl, fp2, r1, r2⟩
    have HR2 := Lib.hid r1
    have HU2 := Lib.hid r2
    clear r1 r2
    go_wp2
    rw [HD.out]
    go_ret
    exact ⟨rfl, fp2, HR2.out, HU.out.trans (Upd.of_grew (((Grew.refl w1).alloc _)) HU2.out) HP.out⟩
theorem Move_any {w : World} {a : Nat} {S : MC} {fp : List Nat} (h : MRep w a S fp) (ok : S.Ok) (it : Item) (to : Int) :
    Calls Try.prog 13 #[.pointer (some ⟨a, 0, none⟩), .agg (encItem it), .int .i64 to] w fun e w' =>
      e = .returned (.int .i64 (S.move it to).1) ∧ ∃ fp', MRep w' a (S.move it to).2 fp' ∧ Upd w w' fp fp' := by
  have HFn := Lib.hid fun (w2 : World) (hg : Grew w w2) => find_any (h.grew hg) it
  have HTn := Lib.hid fun (w2 : World) (hg : Grew w w2) => there_any (h.grew hg) to
  have HRn := Lib.hid fun (w2 : World) (hg : Grew w w2) => Room_any (h.grew hg) ok.few to
  have HR := Lib.hid h
  by_cases hth : S.there to = false
  · have HD : Hid (S.move it to = (2, S)) := Lib.hid (by simp [MC.move, hth])
    clear ok h
    rcases hf : S.find it with _ | ⟨k, i⟩
    all_goals
      go_enter Try.func13, Try.ntmps13
      go_wp2_with (first | (go_at_call 31; refine (HFn.out _ (by all_goals repeat (with_reducible first | exact Grew.refl _ | apply Grew.ext | apply Grew.alloc | apply Grew.drew))).mono ?_; rw [hf]; simp only [findVal]; rintro e w' ⟨rfl, x, rfl⟩) | (go_at_call 32; refine (HTn.out _ (by all_goals repeat (with_reducible first | exact Grew.refl _ | apply Grew.ext | apply Grew.alloc | apply Grew.drew))).mono ?_; rw [hth]; rintro e w' ⟨rfl, x, rfl⟩))
      rw [HD.out]
      go_ret
      refine ⟨rfl, fp, HR.out.grew ?_, Upd.of ?_ fp⟩
    all_goals repeat (with_reducible first | exact Grew.refl _ | apply Grew.ext | apply Grew.alloc | apply Grew.drew)
  · have hth : S.there to = true := by simpa using hth
    rcases hf : S.find it with _ | ⟨k, i⟩
    · have HD : Hid (S.move it to = (6, S)) := Lib.hid (by simp [MC.move, hth, hf])
      clear ok h
      go_enter Try.func13, Try.ntmps13
      go_wp2_with (first | (go_at_call 31; refine (HFn.out _ (by all_goals repeat (with_reducible first | exact Grew.refl _ | apply Grew.ext | apply Grew.alloc | apply Grew.drew))).mono ?_; rw [hf]; simp only [findVal]; rintro e w' ⟨rfl, x, rfl⟩) | (go_at_call 32; refine (HTn.out _ (by all_goals repeat (with_reducible first | exact Grew.refl _ | apply Grew.ext | apply Grew.alloc | apply Grew.drew))).mono ?_; rw [hth]; rintro e w' ⟨rfl, x, rfl⟩))
      rw [HD.out]
      go_ret
      refine ⟨rfl, fp, HR.out.grew ?_, Upd.of ?_ fp⟩
      all_goals repeat (with_reducible first | exact Grew.refl _ | apply Grew.ext | apply Grew.alloc | apply Grew.drew)
    · obtain ⟨xs, q, hb, hi, rfl⟩ := findBanks_some hf
      have ht' := hth
      simp only [MC.there, decide_eq_true_eq] at ht'
      obtain ⟨t0, t1⟩ := ht'
      obtain ⟨t, rfl⟩ := Int.eq_ofNat_of_zero_le t0
      have htl : t < S.banks.length := by omega
      by_cases hfull : (k : Int) ≠ t ∧ S.room t = 0
      · have HD : Hid (S.move q.Item t = (5, S)) := Lib.hid (by simp only [MC.move, hth, hf, if_pos hfull]; rfl)
        obtain ⟨hne, hroom⟩ := hfull
        clear ok h hb hi
        go_enter Try.func13, Try.ntmps13
        go_wp2_with (first | (go_at_call 31; refine (HFn.out _ (by all_goals repeat (with_reducible first | exact Grew.refl _ | apply Grew.ext | apply Grew.alloc | apply Grew.drew))).mono ?_; rw [hf]; simp only [findVal]; rintro e w' ⟨rfl, x, rfl⟩) | (go_at_call 32; refine (HTn.out _ (by all_goals repeat (with_reducible first | exact Grew.refl _ | apply Grew.ext | apply Grew.alloc | apply Grew.drew))).mono ?_; rw [hth]; rintro e w' ⟨rfl, x, rfl⟩) | (go_at_call 23; refine (HRn.out _ (by all_goals repeat (with_reducible first | exact Grew.refl _ | apply Grew.ext | apply Grew.alloc | apply Grew.drew))).mono ?_; rw [hroom]; rintro e w' ⟨rfl, x, rfl⟩))
        rw [HD.out]
        go_ret
        refine ⟨rfl, fp, HR.out.grew ?_, Upd.of ?_ fp⟩
        all_goals repeat (with_reducible first | exact Grew.refl _ | apply Grew.ext | apply Grew.alloc | apply Grew.drew)
      obtain ⟨hbk, hlen⟩ := ok.bank k xs hb
      have hil : i < xs.length := (List.getElem?_eq_some_iff.1 hi).1
      have hbl : k < S.banks.length := (List.getElem?_eq_some_iff.1 hb).1
      obtain ⟨ys, hys, hyl⟩ : ∃ ys, (S.banks.set k (xs.eraseIdx i))[t]? = some ys ∧ ys.length < 64 := by
        by_cases hkt : k = t
        · subst hkt
          refine ⟨_, List.getElem?_set_self hbl, ?_⟩
          rw [List.length_eraseIdx, if_pos hil]; have := ok.few; omega
        · refine ⟨S.banks[t], by rw [List.getElem?_set_ne hkt]; exact List.getElem?_eq_getElem htl, ?_⟩
          have h1 : S.room t ≠ 0 := fun e => hfull ⟨by omega, e⟩
          have h2 := (ok.bank t _ (List.getElem?_eq_getElem htl)).2
          simp only [MC.room, hth, if_true, MC.bank] at h1
          simp [htl] at h1
          have := ok.few; omega
      have HD : Hid (S.move q.Item t = (0, ⟨S.plan, (S.banks.set k (xs.eraseIdx i)).set t (ys ++ [{ q with Bank := t }])⟩)) := Lib.hid (by
        have e1 : S.at k i = q := by simp [MC.at, hb, hi]
        have e2 : (S.banks.set k (xs.eraseIdx i)).getD t [] = ys := by rw [List.getD_eq_getElem?_getD, hys]; rfl
        have e3 : S.banks.getD k [] = xs := by rw [List.getD_eq_getElem?_getD, hb]; rfl
        have ht2 : ¬ S.there t = false := by rw [hth]; simp
        simp only [MC.move, if_neg ht2, hf, if_neg hfull, MC.take, MC.last, e1, e3, Int.toNat_natCast, e2])
      have HP := Lib.hid h.lt
      have HT := Lib.hid fun (w2 : World) (hg : Grew w w2) => take_any (h.grew hg) hb hi
      have HL := Lib.hid fun (w2 : World) (fp2 : List Nat) (h2 : MRep w2 a ⟨S.plan, S.banks.set k (xs.eraseIdx i)⟩ fp2) => last_any h2 (k := t) (xs := ys) (q := { q with Bank := t }) hys rfl hyl
      by_cases hkt : (k : Int) = t
      · obtain rfl : k = t := by omega
        clear ok h hb hi hfull hbk hys hkt
        go_enter Try.func13, Try.ntmps13
        go_wp2_with (first | (go_at_call 31; refine (HFn.out _ (by all_goals repeat (with_reducible first | exact Grew.refl _ | apply Grew.ext | apply Grew.alloc | apply Grew.drew))).mono ?_; rw [hf]; simp only [findVal]; rintro e w' ⟨rfl, x, rfl⟩) | (go_at_call 32; refine (HTn.out _ (by all_goals repeat (with_reducible first | exact Grew.refl _ | apply Grew.ext | apply Grew.alloc | apply Grew.drew))).mono ?_; rw [hth]; rintro e w' ⟨rfl, x, rfl⟩) | (go_at_call 23; refine (HRn.out _ (by all_goals repeat (with_reducible first | exact Grew.refl _ | apply Grew.ext | apply Grew.alloc | apply Grew.drew))).mono ?_; rintro e w' ⟨rfl, x, rfl⟩))
        refine (HT.out _ ?_).mono ?_
        · all_goals repeat (with_reducible first | exact Grew.refl _ | apply Grew.ext | apply Grew.alloc | apply Grew.drew)
        rintro e w1 ⟨rfl, fp', r1, r2⟩
        have HR1 := Lib.hid r1
        have HU1 := Lib.hid r2
        clear r1 r2
        go_wp2_with (go_at_call 33; refine (HL.out _ fp' (HR1.out.grew ?_)).mono ?_; all_goals repeat (with_reducible first | exact Grew.refl _ | apply Grew.ext | apply Grew.alloc | apply Grew.drew))
        rintro e w2 ⟨rfl, fp2, r1, r2⟩
        have HR2 := Lib.hid r1
        have HU2 := Lib.hid r2
        clear r1 r2
        go_wp2
        rw [HD.out]
        go_ret
        exact ⟨rfl, fp2, HR2.out, (Upd.of_grew (by all_goals repeat (with_reducible first | exact Grew.refl _ | apply Grew.ext | apply Grew.alloc | apply Grew.drew)) HU1.out).trans (Upd.of_grew ((Grew.refl w1).alloc _) HU2.out) HP.out⟩

      · have hroom : S.room t ≠ 0 := fun e => hfull ⟨hkt, e⟩
        generalize hrv : S.room t = rv at hroom
        have hb0 : (rv == 0) = false := by simpa using hroom
        have hb1 : ((k : Int) != (t : Int)) = true := by simpa using hkt
        clear ok h hb hi hfull hbk hys
        go_enter Try.func13, Try.ntmps13
        go_wp2_with (first | (go_at_call 31; refine (HFn.out _ (by all_goals repeat (with_reducible first | exact Grew.refl _ | apply Grew.ext | apply Grew.alloc | apply Grew.drew))).mono ?_; rw [hf]; simp only [findVal]; rintro e w' ⟨rfl, x, rfl⟩) | (go_at_call 32; refine (HTn.out _ (by all_goals repeat (with_reducible first | exact Grew.refl _ | apply Grew.ext | apply Grew.alloc | apply Grew.drew))).mono ?_; rw [hth]; rintro e w' ⟨rfl, x, rfl⟩) | (go_at_call 23; refine (HRn.out _ (by all_goals repeat (with_reducible first | exact Grew.refl _ | apply Grew.ext | apply Grew.alloc | apply Grew.drew))).mono ?_; rw [hrv]; rintro e w' ⟨rfl, x, rfl⟩))
        refine (HT.out _ ?_).mono ?_
        · all_goals repeat (with_reducible first | exact Grew.refl _ | apply Grew.ext | apply Grew.alloc | apply Grew.drew)
        rintro e w1 ⟨rfl, fp', r1, r2⟩
        have HR1 := Lib.hid r1
        have HU1 := Lib.hid r2
        clear r1 r2
        go_wp2_with (go_at_call 33; refine (HL.out _ fp' (HR1.out.grew ?_)).mono ?_; all_goals repeat (with_reducible first | exact Grew.refl _ | apply Grew.ext | apply Grew.alloc | apply Grew.drew))
        rintro e w2 ⟨rfl, fp2, r1, r2⟩
        have HR2 := Lib.hid r1
        have HU2 := Lib.hid r2
        clear r1 r2
        go_wp2
        rw [HD.out]
        go_ret
        exact ⟨rfl, fp2, HR2.out, (Upd.of_grew (by all_goals repeat (with_reducible first | exact Grew.refl _ | apply Grew.ext | apply Grew.alloc | apply Grew.drew)) HU1.out).trans (Upd.of_grew ((Grew.refl w1).alloc _) HU2.out) HP.out⟩

end Go.Proofs.Ytngmdedoboccoaa
