/- Steps of a quiet region, by tactic. -/
import Derived.Test.YtekojohhjnklkaaReg
import Derived.Test.YtekojohhjnklkaaRow
namespace Go.Proofs.Ytekojohhjnklkaa
open Go.RowKit

theorem wrap_sub {n k i : Nat} (h : i + (k + 1) = n) (hn : n ≤ 64) : IntKind.i64.wrap ((n : Int) - 1 - (k : Int)) = (i : Int) := by
  rw [show (n : Int) - 1 - (k : Int) = (i : Int) by omega]
  exact IntWalk.i64_in (i : Int) ⟨by omega, by omega⟩
/-- The element that 'a' hands back, whatever the world. -/
theorem el_of {w : World} {S i j : Nat} {a1 : Option Addr} {n1 c1 : Nat} {A : List Int} (h : Rd w a1 n1 c1 A) (hn : n1 = S * S) (hi : i < S) (hj : j < S) (hS : S ≤ 8) : ∃ y, Hid (El A S i j y) ∧ I64 y := by
  obtain ⟨_, _, _, _, f5⟩ := at_facts hn h.cap hi hj hS
  obtain ⟨b, o, x, rfl, hc, x1, x2, hx⟩ := h.at f5
  exact ⟨x, hid hx, x1, x2⟩
end Go.Proofs.Ytekojohhjnklkaa
