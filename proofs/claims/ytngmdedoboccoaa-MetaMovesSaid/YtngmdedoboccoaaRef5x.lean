/- bastionref05: its widths are the plan's. -/
import Derived.Test.YtngmdedoboccoaaRef5w
set_option linter.unusedVariables false
set_option linter.unusedSimpArgs false
namespace Go.Proofs.Ytngmdedoboccoaa
open Go Go.RowKit

def rwF (ar : Int) : Nat → Int → Int
  | 0, n => n
  | k + 1, n => if n ≤ 1 then 0 else rwF ar k ((n + ar - 1) / ar)
theorem rwF_zero (ar : Int) : ∀ k, rwF ar k 0 = 0
  | 0 => rfl
  | k + 1 => by simp [rwF]
theorem rwF_step (ar : Int) : ∀ (k : Nat) (n : Int), rwF ar (k + 1) n = if rwF ar k n ≤ 1 then 0 else (rwF ar k n + ar - 1) / ar
  | 0, n => rfl
  | k + 1, n => by
    by_cases h : n ≤ 1
    · have h1 : rwF ar (k + 1) n = 0 := by simp [rwF, h]
      rw [h1, rwF, if_pos h]; simp
    · have h1 : rwF ar (k + 1) n = rwF ar k ((n + ar - 1) / ar) := by rw [rwF, if_neg h]
      rw [h1, rwF, if_neg h]
      exact rwF_step ar k _
theorem rwAt_is (p : Plan) : ∀ k, rwAt p k = rwF p.Arity k p.Pages
  | 0 => rfl
  | k + 1 => by rw [rwAt, rwAt_is p k, rwF_step]
theorem widthsFrom_getD (ar : Int) (ha : 2 ≤ ar) : ∀ (f k : Nat) (n : Int), k < f → 1 ≤ n → (widthsFrom ar f n).getD k 0 = rwF ar k n
  | 0, k, n, h, _ => by omega
  | f + 1, 0, n, h, _ => by simp [widthsFrom, rwF]
  | f + 1, k + 1, n, h, hn => by
    simp only [widthsFrom, List.getD_cons_succ, rwF]
    by_cases h1 : n = 1
    · subst h1; simp
    · have hd := up_div n ar ha (by omega)
      rw [if_neg h1, if_neg (by omega)]
      exact widthsFrom_getD ar ha f k _ (by omega) hd.1
theorem rWidth_width (p : Plan) (l : Int) (h : l < 16) : rWidth p l = p.width l := by
  unfold rWidth Plan.width Plan.widths
  by_cases hs : p.shape = true
  · obtain ⟨_, ⟨h1, h2⟩, _, ⟨h5, h6⟩⟩ := (shape_iff p).1 hs
    by_cases h0 : 0 ≤ l
    · rw [if_pos ⟨hs, h0, by omega⟩, if_neg (by omega), if_pos hs, rwAt_is, widthsFrom_getD _ h5 _ _ _ (by omega) h1]
    · rw [if_neg (fun e => h0 e.2.1), if_pos (by omega)]
  · rw [if_neg (fun e => hs e.1), if_neg hs]
    split <;> simp
end Go.Proofs.Ytngmdedoboccoaa
