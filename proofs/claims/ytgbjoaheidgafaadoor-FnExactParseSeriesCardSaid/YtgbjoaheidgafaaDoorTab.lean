/- TableauOk and the small functions on tableaus. -/
import Derived.Test.YtgbjoaheidgafaaDoorLawTab
namespace Go.Proofs.YtgbjoaheidgafaaDoor
open Go.RowKit

/-- TableauOk -/
def tabOk (s : Int) (A B : List Int) : Bool := decide (0 ≤ s ∧ s ≤ 8 ∧ (A.length : Int) = s * s ∧ (B.length : Int) = s) && (M.allNum A && M.allNum B)
theorem tabOk_no {s : Int} {A B : List Int} (h : ¬ (0 ≤ s ∧ s ≤ 8 ∧ (A.length : Int) = s * s ∧ (B.length : Int) = s)) : tabOk s A B = false := by
  unfold tabOk; rw [decide_eq_false h]; rfl
theorem tabOk_yes {s : Int} {A B : List Int} (h : 0 ≤ s ∧ s ≤ 8 ∧ (A.length : Int) = s * s ∧ (B.length : Int) = s) : tabOk s A B = (M.allNum A && M.allNum B) := by
  unfold tabOk; rw [decide_eq_true h]; rfl
theorem sq_le {s : Int} (h0 : 0 ≤ s) (h8 : s ≤ 8) : 0 ≤ s * s ∧ s * s ≤ 64 :=
  ⟨Int.mul_nonneg h0 h0, Int.mul_le_mul h8 h8 h0 (by omega)⟩

end Go.Proofs.YtgbjoaheidgafaaDoor
