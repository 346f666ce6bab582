/- '==' at lines, items and what is cached. -/
import Derived.Test.YtngmdedoboccoaaPur1
import Derived.ChangeKeysEq
import Derived.DeepKeys
set_option linter.unusedVariables false
set_option linter.unusedSimpArgs false
set_option maxHeartbeats 1000000
set_option maxRecDepth 100000
namespace Go.Proofs.Ytngmdedoboccoaa
open Go Go.RowKit

theorem encB_at {n : Nat} (v : Vector UInt8 n) (i : Nat) (h : i < n) : (encB v)[i]? = some (.int .u8 (v[i].toNat)) := by
  unfold encB cB
  simp [h]
theorem run_eqBytes {n : Nat} (v u : Vector UInt8 n) (d : Nat) (w : World) : ∀ (is : List Nat), (∀ i ∈ is, i < n) →
    (Op.eqItems (d + 1) 5 1 (encB v) (encB u) is).run Try.prog w = .ok (is.all fun i => decide (v.toList[i]? = u.toList[i]?)) w
  | [], _ => by simp [Op.eqItems]
  | i :: is, h => by
    have hi := h i (by simp)
    have ih := run_eqBytes v u d w is fun j hj => h j (by simp [hj])
    have p1 : ∀ z : Vector UInt8 n, (part 5 (encB z) (i * 1)).run Try.prog w = .ok (.int .u8 (z[i].toNat)) w := fun z => by
      have hz := encB_at z i hi
      have hA : (isAgg 5).run Try.prog w = .ok false w := by kernel_rfl
      unfold part
      simp only [Sem.run_bind, hA, Result.andThen_ok, Nat.mul_one, hz]
      simp
    have e1 : (Op.equalIn (d + 1) 5 (.int .u8 (v[i].toNat : Nat)) (.int .u8 (u[i].toNat : Nat))).run Try.prog w = .ok (((v[i].toNat : Nat) : Int) == ((u[i].toNat : Nat) : Int)) w :=
      run_equalIn_int w d 5 .u8 .u8 _ _ Try.underlying5
    have e2 : (((v[i].toNat : Nat) : Int) == ((u[i].toNat : Nat) : Int)) = decide (v.toList[i]? = u.toList[i]?) := by
      rw [Bool.eq_iff_iff]
      simp only [beq_iff_eq, decide_eq_true_eq]
      have g : ∀ z : Vector UInt8 n, z.toList[i]? = some z[i] := fun z => by simp [hi]
      rw [g v, g u, Option.some.injEq]
      constructor
      · intro e; exact UInt8.toNat_inj.1 (by omega)
      · intro e; rw [e]
    simp only [Op.eqItems, Sem.run_bind, p1, Result.andThen_ok, e1, e2, List.all_cons]
    cases decide (v.toList[i]? = u.toList[i]?) with
    | true => simpa using ih
    | false => simp
theorem all_bytes {n : Nat} (v u : Vector UInt8 n) : ((List.range n).all fun i => decide (v.toList[i]? = u.toList[i]?)) = decide (v = u) := by
  rw [Bool.eq_iff_iff]
  simp only [List.all_eq_true, List.mem_range, decide_eq_true_eq]
  constructor
  · intro h
    refine Vector.toList_inj.1 (List.ext_getElem? fun i => ?_)
    by_cases hi : i < n
    · exact h i hi
    · rw [List.getElem?_eq_none (by simp; omega), List.getElem?_eq_none (by simp; omega)]
  · rintro rfl _ _; rfl
@[go_sem ↓ high] theorem eqLine (v u : Vector UInt8 32) (d : Nat) (w : World) : (Op.equalIn (d + 2) 40 (.agg (encB v)) (.agg (encB u))).run Try.prog w = .ok (decide (v = u)) w := by
  obtain ⟨i, hi⟩ : ∃ i, Try.prog.info? 5 = some i := info_of_underlying Try.underlying5
  rw [show d + 2 = (d + 1) + 1 from rfl, run_equalIn_array w (d + 1) (encB v) (encB u) Try.underlying40 hi]
  have hc : Try.prog.cellsOf 5 = 1 := by kernel_rfl
  rw [hc, run_eqBytes v u d w _ (by simp), all_bytes]
theorem eqItemIn (a b : Item) (d : Nat) (w : World) : (Op.equalIn (d + 2) 31 (.agg (encItem a)) (.agg (encItem b))).run Try.prog w = .ok (decide (a = b)) w := by
  have e : decide (a = b) = (a.Level == b.Level && a.Index == b.Index) := by
    rw [Bool.eq_iff_iff]
    cases a; cases b
    simp
  rw [e]
  go_simp
  by_cases h1 : a.Level = b.Level <;> by_cases h2 : a.Index = b.Index <;> simp [h1, h2]
theorem cachedFields : (Try.prog.fieldsOf 49).toList.map (fun f => (f.name != "_", f.type, f.offset)) = [(true, 31, 0), (true, 3, 2), (true, 40, 3), (true, 4, 35)] := by kernel_rfl
theorem cachedUnder : Try.prog.underlying 49 = some (.struct (Try.prog.fieldsOf 49)) := by kernel_rfl
theorem cachedStood : Try.prog.stoodInHeld 49 = false := by kernel_rfl
theorem eqFour {d : Nat} {w : World} {xs ys : Array Value} {f1 f2 f3 f4 : Field} {a1 a2 a3 a4 b1 b2 b3 b4 : Value} {x1 x2 x3 x4 : Bool} {P : Program}
    (n1 : ¬ f1.name = "_") (n2 : ¬ f2.name = "_") (n3 : ¬ f3.name = "_") (n4 : ¬ f4.name = "_")
    (p1 : (part f1.type xs f1.offset).run P w = .ok a1 w) (p2 : (part f2.type xs f2.offset).run P w = .ok a2 w) (p3 : (part f3.type xs f3.offset).run P w = .ok a3 w) (p4 : (part f4.type xs f4.offset).run P w = .ok a4 w)
    (q1 : (part f1.type ys f1.offset).run P w = .ok b1 w) (q2 : (part f2.type ys f2.offset).run P w = .ok b2 w) (q3 : (part f3.type ys f3.offset).run P w = .ok b3 w) (q4 : (part f4.type ys f4.offset).run P w = .ok b4 w)
    (r1 : (Op.equalIn d f1.type a1 b1).run P w = .ok x1 w) (r2 : (Op.equalIn d f2.type a2 b2).run P w = .ok x2 w) (r3 : (Op.equalIn d f3.type a3 b3).run P w = .ok x3 w) (r4 : (Op.equalIn d f4.type a4 b4).run P w = .ok x4 w) :
    (Op.eqFields d xs ys [f1, f2, f3, f4]).run P w = .ok (x1 && (x2 && (x3 && x4))) w := by
  simp only [Op.eqFields, ne_eq, n1, n2, n3, n4, not_false_eq_true, if_true, Sem.run_bind, p1, q1, r1, Result.andThen_ok]
  cases x1
  · simp
  · simp only [Bool.not_true, Bool.false_eq_true, if_false, Sem.run_bind, p2, q2, r2, Result.andThen_ok]
    cases x2
    · simp
    · simp only [Bool.not_true, Bool.false_eq_true, if_false, Sem.run_bind, p3, q3, r3, Result.andThen_ok]
      cases x3
      · simp
      · simp only [Bool.not_true, Bool.false_eq_true, if_false, Sem.run_bind, p4, q4, r4, Result.andThen_ok]
        cases x4 <;> simp
@[go_sem ↓ high] theorem eqCached (a b : Cached) (d : Nat) (w : World) : (Op.equalIn (d + 3) 49 (.agg (encCached a)) (.agg (encCached b))).run Try.prog w = .ok (decide (a = b)) w := by
  have e : decide (a = b) = (decide (a.Item = b.Item) && (a.Bank == b.Bank && (decide (a.Bytes = b.Bytes) && a.Dirty == b.Dirty))) := by
    rw [Bool.eq_iff_iff]
    cases a; cases b
    simp
  rw [e, show d + 3 = (d + 2) + 1 from rfl, run_equalIn_struct w _ _ _ _ cachedUnder cachedStood]
  have hf := cachedFields
  generalize (Try.prog.fieldsOf 49).toList = fs at hf
  obtain ⟨f1, f2, f3, f4, rfl⟩ : ∃ f1 f2 f3 f4, fs = [f1, f2, f3, f4] := by
    have hl := congrArg List.length hf
    simp only [List.length_map, List.length_cons, List.length_nil] at hl
    rcases fs with _ | ⟨f1, _ | ⟨f2, _ | ⟨f3, _ | ⟨f4, _ | ⟨f5, fs⟩⟩⟩⟩⟩
    · simp at hl
    · simp at hl
    · simp at hl
    · simp at hl
    · exact ⟨f1, f2, f3, f4, rfl⟩
    · simp only [List.length_cons] at hl; omega
  simp only [List.map_cons, List.map_nil, List.cons.injEq, Prod.mk.injEq, bne_iff_ne, ne_eq, and_true] at hf
  obtain ⟨⟨n1, t1, o1⟩, ⟨n2, t2, o2⟩, ⟨n3, t3, o3⟩, ⟨n4, t4, o4⟩⟩ := hf
  have A1 : (isAgg 31).run Try.prog w = .ok true w := by kernel_rfl
  have A2 : (isAgg 3).run Try.prog w = .ok false w := by kernel_rfl
  have A3 : (isAgg 40).run Try.prog w = .ok true w := by kernel_rfl
  have A4 : (isAgg 4).run Try.prog w = .ok false w := by kernel_rfl
  have S1 : (Go.sizeOf 31).run Try.prog w = .ok 2 w := by kernel_rfl
  have S3 : (Go.sizeOf 40).run Try.prog w = .ok 32 w := by kernel_rfl
  have p1 : ∀ q : Cached, (part 31 (encCached q) 0).run Try.prog w = .ok (.agg (encItem q.Item)) w := fun q => by
    unfold part; simp [A1, S1, encCached_item]
  have p2 : ∀ q : Cached, (part 3 (encCached q) 2).run Try.prog w = .ok (.int .i64 q.Bank) w := fun q => by
    unfold part; simp only [Sem.run_bind, A2, Result.andThen_ok, encCached_2]; simp
  have p3 : ∀ q : Cached, (part 40 (encCached q) 3).run Try.prog w = .ok (.agg (encB q.Bytes)) w := fun q => by
    unfold part; simp [A3, S3, encCached_bytes]
  have p4 : ∀ q : Cached, (part 4 (encCached q) 35).run Try.prog w = .ok (.bool q.Dirty) w := fun q => by
    unfold part; simp only [Sem.run_bind, A4, Result.andThen_ok, encCached_35]; simp
  refine eqFour n1 n2 n3 n4 (a1 := .agg (encItem a.Item)) (a2 := .int .i64 a.Bank) (a3 := .agg (encB a.Bytes)) (a4 := .bool a.Dirty) (b1 := .agg (encItem b.Item)) (b2 := .int .i64 b.Bank) (b3 := .agg (encB b.Bytes)) (b4 := .bool b.Dirty) ?_ ?_ ?_ ?_ ?_ ?_ ?_ ?_ ?_ ?_ ?_ ?_
  · rw [t1, o1]; exact p1 a
  · rw [t2, o2]; exact p2 a
  · rw [t3, o3]; exact p3 a
  · rw [t4, o4]; exact p4 a
  · rw [t1, o1]; exact p1 b
  · rw [t2, o2]; exact p2 b
  · rw [t3, o3]; exact p3 b
  · rw [t4, o4]; exact p4 b
  · rw [t1]; exact eqItemIn a.Item b.Item d w
  · rw [t2, show d + 2 = (d + 1) + 1 from rfl]; exact run_equalIn_int w (d + 1) 3 .i64 .i64 _ _ Try.underlying3
  · rw [t3]; exact eqLine a.Bytes b.Bytes d w
  · rw [t4, show d + 2 = (d + 1) + 1 from rfl]; exact run_equalIn_bool' w (d + 1) 4 _ _ Try.underlying4
end Go.Proofs.Ytngmdedoboccoaa
