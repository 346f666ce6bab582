/- The document's example at the caches (speaks). -/
import Derived.Test.YtngmdedoboccoaaLaw0
set_option linter.unusedVariables false
set_option linter.unusedSimpArgs false
set_option maxHeartbeats 1000000
set_option maxRecDepth 100000
namespace Go.Proofs.Ytngmdedoboccoaa
open Go Go.RowKit

theorem fit_shape (p : Plan) : p.fit0.shape = true := by
  have h1 := fitI_in p.Banks 1 4 (by omega)
  have h2 := fitI_in p.Pages 1 16 (by omega)
  have h3 := fitI_in p.Lines 1 8 (by omega)
  have h4 := fitI_in p.Arity 2 4 (by omega)
  exact (shape_iff _).2 ⟨h1, h2, h3, h4⟩
theorem widths_few (ar : Int) (h2 : 2 ≤ ar) (h4 : ar ≤ 4) : ∀ (j : Nat) (k : Nat) (n : Int), 1 ≤ n → n ≤ 2 ^ j → (widthsFrom ar k n).length ≤ j + 1
  | 0, 0, n, h0, h1 => by simp [widthsFrom]
  | 0, k + 1, n, h0, h1 => by
    have : n = 1 := by simp at h1; omega
    simp [widthsFrom, this]
  | j + 1, 0, n, h0, h1 => by simp [widthsFrom]
  | j + 1, k + 1, n, h0, h1 => by
    simp only [widthsFrom, List.length_cons]
    split
    · simp
    · have hu : 1 ≤ (n + ar - 1) / ar ∧ (n + ar - 1) / ar ≤ 2 ^ j := by
        have e : (2 : Int) ^ (j + 1) = 2 ^ j * 2 := by rw [Int.pow_succ]
        rw [e] at h1
        generalize (2 : Int) ^ j = m at *
        have : ar = 2 ∨ ar = 3 ∨ ar = 4 := by omega
        rcases this with rfl | rfl | rfl <;> omega
      have := widths_few ar h2 h4 j k _ hu.1 hu.2
      omega
theorem levels_few (p : Plan) (hs : p.shape = true) : p.levels ≤ 5 := by
  obtain ⟨_, ⟨p1, p2⟩, _, ⟨a1, a2⟩⟩ := (shape_iff p).1 hs
  unfold Plan.levels Plan.widths
  rw [if_pos hs]
  have := widths_few p.Arity a1 a2 4 16 p.Pages p1 (by omega)
  omega
theorem fit_right (p : Plan) : p.fit.right = true := by
  have hs := fit_shape p
  have hs' : p.fit.shape = true := hs
  have hl : p.fit.least = p.fit0.least := rfl
  have h1 := fitI_in p.Cores 1 4 (by omega)
  have h2 := fitI_in p.Minor 1 8 (by omega)
  have h3 := fitI_in p.NearS 1 4 (by omega)
  have h4 := fitI_in p.NearW 1 4 (by omega)
  have h5 := fitI_in p.FarS 1 4 (by omega)
  have h6 := fitI_in p.FarW 1 4 (by omega)
  have h7 := fitI_in p.Queue 1 4 (by omega)
  have t3 := Int.emod_lt_of_pos p.Meta (show (0 : Int) < 4 by omega)
  have t4 := Int.emod_nonneg p.Meta (show (4 : Int) ≠ 0 by omega)
  have hb : p.fit0.least ≤ 60 := by
    obtain ⟨⟨b1, b2⟩, ⟨p1, p2⟩, _, ⟨a1, a2⟩⟩ := (shape_iff _).1 hs
    unfold Plan.least
    rw [if_pos hs]
    have hlv : p.fit0.levels ≤ 5 := levels_few p.fit0 hs
    have l0 := (levels_le p.fit0).1
    have := Int.mul_le_mul b2 hlv l0 (by omega)
    omega
  simp only [Plan.right, Bool.and_eq_true, Bool.or_eq_true, decide_eq_true_eq, within_iff]
  refine ⟨⟨⟨⟨⟨⟨⟨⟨⟨⟨⟨hs', h1⟩, h2⟩, ?_⟩, h3⟩, h4⟩, h5⟩, h6⟩, h7⟩, ?_⟩, ?_⟩, ?_⟩
  · show (if p.Major > 4294967296 then 4294967296 else p.Major) ≤ 4294967296
    split <;> omega
  · show (if p.Kind % 2 = 0 then (0 : Int) else 1) = 0 ∨ (if p.Kind % 2 = 0 then (0 : Int) else 1) = 1
    split
    · exact .inl rfl
    · exact .inr rfl
  · rw [hl]; show p.fit0.least ≤ p.fit0.least + p.Meta % 4; omega
  · show p.fit0.least + p.Meta % 4 ≤ 64; omega
def exP : Plan := ⟨0, 2, 2, 0, 2, 0, 0, 0, 0, 0, 0, 0, 0, 0, Vector.replicate 16 0, Vector.replicate 16 0⟩
def exF : Plan := exP.fit
theorem exF_is : exP.fit = exF := rfl
theorem exF_right : exF.right = true := fit_right exP
theorem exF_banks : exF.Banks = 2 := by unfold exF; kernel_rfl
theorem exF_meta : exF.Meta = 5 := by unfold exF; kernel_rfl
theorem exF_i1 : exF.item ⟨1, 0⟩ = true := by unfold exF; kernel_rfl
theorem exF_i2 : exF.item ⟨0, 1⟩ = true := by unfold exF; kernel_rfl
theorem exF_p1 : exF.parent ⟨1, 0⟩ = none := by unfold exF; kernel_rfl
theorem exF_p2 : exF.parent ⟨0, 1⟩ = some (⟨1, 0⟩, 1) := by unfold exF; kernel_rfl
attribute [irreducible] exF
def exC (l i b : Int) : Cached := ⟨⟨l, i⟩, b, Vector.replicate 32 0, false⟩
def exS : MC := ⟨exF, [[exC 1 0 0], [exC 0 1 1]]⟩
theorem ex_new : (⟨exF, List.replicate exF.Banks.toNat []⟩ : MC) = ⟨exF, [[], []]⟩ := by
  rw [exF_banks]; rfl
theorem put_room {S : MC} {b : Int} {x : Item} {v : Vector UInt8 32} (h1 : S.there b = true) (h2 : S.plan.item x = true) (h3 : S.find x = none) (h4 : S.room b ≠ 0) : S.put b x v = (0, S.last ⟨x, b, v, false⟩) := by
  unfold MC.put
  rw [h1, h2, h3]
  simp [h4]
theorem ex_put1 : MC.put ⟨exF, [[], []]⟩ 0 ⟨1, 0⟩ (Vector.replicate 32 0) = (0, ⟨exF, [[exC 1 0 0], []]⟩) := by
  have h4 : MC.there ⟨exF, [[], []]⟩ 0 = true := by simp [MC.there]
  have h5 : MC.room ⟨exF, [[], []]⟩ 0 ≠ 0 := by simp [MC.room, h4, exF_meta, MC.bank]
  rw [put_room h4 exF_i1 (by simp [MC.find, findBanks]) h5]; rfl
theorem ex_put2 : MC.put ⟨exF, [[exC 1 0 0], []]⟩ 1 ⟨0, 1⟩ (Vector.replicate 32 0) = (0, exS) := by
  have h4 : MC.there ⟨exF, [[exC 1 0 0], []]⟩ 1 = true := by simp [MC.there]
  have h5 : MC.room ⟨exF, [[exC 1 0 0], []]⟩ 1 ≠ 0 := by simp [MC.room, h4, exF_meta, MC.bank]
  rw [put_room h4 exF_i2 (by simp [MC.find, findBanks, exC]) h5]; rfl
theorem ex_victim : exS.victim 0 [] = some ⟨0, 1⟩ := by
  have o1 : exF.over ⟨1, 0⟩ ⟨1, 0⟩ = false := by unfold Plan.over; rw [exF_p1]
  have o2 : exF.over ⟨1, 0⟩ ⟨0, 1⟩ = true := by unfold Plan.over; rw [exF_p2]; rfl
  have o3 : exF.over ⟨0, 1⟩ ⟨1, 0⟩ = false := by unfold Plan.over; rw [exF_p1]
  have o4 : exF.over ⟨0, 1⟩ ⟨0, 1⟩ = false := by unfold Plan.over; rw [exF_p2]; rfl
  have e1 : exS.banks.flatten = [exC 1 0 0, exC 0 1 1] := rfl
  have b1 : exS.below ⟨1, 0⟩ = some ⟨0, 1⟩ := by
    unfold MC.below overs
    rw [e1]
    simp only [exC, exS, List.filter_cons, o1, o2, List.filter_nil, if_true, Bool.false_eq_true, if_false, List.map_cons, List.map_nil, leastItem]
  have b2 : exS.below ⟨0, 1⟩ = none := by
    unfold MC.below overs
    rw [e1]
    simp only [exC, exS, List.filter_cons, o3, o4, List.filter_nil, if_true, Bool.false_eq_true, if_false, List.map_cons, List.map_nil, leastItem]
  have h4 : MC.there exS 0 = true := by simp [MC.there, exS]
  have hb : MC.bank exS 0 = [exC 1 0 0] := by simp [MC.bank, exS]
  have hf : [exC 1 0 0].find? (fun y => exS.plan.off [] y.Item) = some (exC 1 0 0) := by simp [Plan.off]
  unfold MC.victim
  rw [if_pos h4, hb, hf, Option.map_some]
  show some (exS.deep ⟨1, 0⟩) = _
  rw [deep_some b1, deep_none b2]
theorem Upd.grown {b w w' : World} {fp fp' : List Nat} (h : Upd w w' fp fp') (hg : Grew b w) (hf : ∀ k ∈ fp, b.heap.size ≤ k) : Grew b w' ∧ ∀ k ∈ fp', b.heap.size ≤ k := by
  have hb := hg.below
  refine ⟨.of_below ⟨h.os.trans hb.os, h.tape.trans hb.tape, h.output.trans hb.output, Nat.le_trans hb.size h.size, fun k hk => ?_⟩, fun k hk => ?_⟩
  · rw [h.block k (Nat.lt_of_lt_of_le hk hb.size) (fun hm => by have := hf k hm; omega)]
    exact hb.block k hk
  · rcases h.fresh k hk with h1 | h1
    · exact hf k h1
    · exact Nat.le_trans hb.size h1
theorem ex_ok0 : MC.Ok ⟨exF, [[], []]⟩ := by
  have := new_ok exF_right
  rw [ex_new] at this
  exact this
theorem ex_ok1 : MC.Ok ⟨exF, [[exC 1 0 0], []]⟩ := by
  have := (put_cases ex_ok0 0 ⟨1, 0⟩ (Vector.replicate 32 0)).1
  rw [ex_put1] at this
  exact this
theorem ex_New (w : World) : Calls Try.prog 7 #[.agg (encPlan exF)] w fun e w' => ∃ a fp, e = .returned (.tuple #[.pointer (some ⟨a, 0, none⟩), .int .i64 0]) ∧ MRep w' a ⟨exF, [[], []]⟩ fp ∧ Grew w w' ∧ ∀ k ∈ fp, w.heap.size ≤ k := by
  have := New_yes exF exF_right w
  rw [ex_new] at this
  exact this
theorem ex_Put1 {w : World} {a : Nat} {fp : List Nat} (h : MRep w a ⟨exF, [[], []]⟩ fp) :
    Calls Try.prog 9 #[.pointer (some ⟨a, 0, none⟩), .int .i64 0, .agg (encItem ⟨1, 0⟩), .agg (encB (Vector.replicate 32 (0 : UInt8)))] w fun e w' =>
      e = .returned (.int .i64 0) ∧ ∃ fp', MRep w' a ⟨exF, [[exC 1 0 0], []]⟩ fp' ∧ Upd w w' fp fp' := by
  have := Put_any h ex_ok0 0 ⟨1, 0⟩ (Vector.replicate 32 0)
  rw [ex_put1] at this
  exact this
theorem ex_Put2 {w : World} {a : Nat} {fp : List Nat} (h : MRep w a ⟨exF, [[exC 1 0 0], []]⟩ fp) :
    Calls Try.prog 9 #[.pointer (some ⟨a, 0, none⟩), .int .i64 1, .agg (encItem ⟨0, 1⟩), .agg (encB (Vector.replicate 32 (0 : UInt8)))] w fun e w' =>
      e = .returned (.int .i64 0) ∧ ∃ fp', MRep w' a exS fp' ∧ Upd w w' fp fp' := by
  have := Put_any h ex_ok1 1 ⟨0, 1⟩ (Vector.replicate 32 0)
  rw [ex_put2] at this
  exact this
theorem ex_Victim {w : World} {a : Nat} {fp : List Nat} (h : MRep w a exS fp) :
    Calls Try.prog 20 #[.pointer (some ⟨a, 0, none⟩), .int .i64 0, .slice none 0 0] w fun e w' => e = .returned (.tuple #[.agg (encItem ⟨0, 1⟩), .bool true]) ∧ Grew w w' := by
  have := Victim_any h 0 (Own.nil w 0 31 encItem 2) (by simp)
  rw [ex_victim] at this
  exact this
theorem speaks_any (w : World) : Calls Try.prog 5 #[] w fun e w' => e = .returned (.bool true) ∧ Grew w w' := by
  go_enter Try.func5, Try.ntmps5
  go_wp2_with (first | (go_at_call 6; refine (Fit_any exP _).mono ?_; rw [exF_is]; rintro e w' ⟨rfl, x, rfl⟩) | (go_at_call 7; refine (ex_New _).mono ?_; rintro e w' ⟨a, fp, rfl, m0, g0, f0⟩; have M0 := Lib.hid m0; have G0 := Lib.hid g0; have F0 := Lib.hid f0; clear m0 g0 f0))
  have gf : Grew w w' ∧ ∀ k ∈ fp, w.heap.size ≤ k := ⟨Grew.trans (by all_goals repeat (with_reducible first | exact Grew.refl _ | apply Grew.ext | apply Grew.alloc | apply Grew.drew)) G0.out, fun k hk => Nat.le_trans (by simp; omega) (F0.out k hk)⟩
  have GF := Lib.hid gf
  clear gf G0 F0
  refine (ex_Put1 M0.out).mono ?_
  rintro e w1 ⟨rfl, fp1, m1, u1⟩
  have M1 := Lib.hid m1
  have GF1 := Lib.hid (u1.grown GF.out.1 GF.out.2)
  clear m1 u1
  go_wp2_with (go_at_call 9; refine (ex_Put2 M1.out).mono ?_; rintro e w2 ⟨rfl, fp2, m2, u2⟩; have M2 := Lib.hid m2; have GF2 := Lib.hid (u2.grown GF1.out.1 GF1.out.2); clear m2 u2)
  refine (ex_Victim M2.out).mono ?_
  rintro e w3 ⟨rfl, z, rfl⟩
  go_wp2
  go_ret
  exact ⟨rfl, (GF2.out.1.ext z).alloc _⟩
end Go.Proofs.Ytngmdedoboccoaa
