/- A tableau that is being filled. -/
import Derived.Test.YtgbjoaheidgafaaDoorEmpty
import Derived.StillTailTactics
namespace Go.Proofs.YtgbjoaheidgafaaDoor
open Go.RowKit

/-- What a function hands back: a tableau, and whether it was well. -/
structure Tb where
  st : Int
  A : List Int
  B : List Int
  ok : Bool
def Tb.none : Tb := ⟨0, [], [], false⟩
/-- A tableau in new memory. -/
def NewT (w w' : World) (rA rB : List Int) (a1 : Option Addr) (n1 c1 : Nat) (a2 : Option Addr) (n2 c2 : Nat) : Prop :=
  Fr w' w.heap.size a1 n1 c1 rA ∧ Fr w' w.heap.size a2 n2 c2 rB ∧ Sep a1 n1 a2 n2 ∧ Below w.heap.size w w'
theorem NewT.none {w w' : World} (h : Below w.heap.size w w') : NewT w w' [] [] Option.none 0 0 Option.none 0 0 := ⟨Fr.none _ _, Fr.none _ _, fun h => absurd h (by omega), h⟩

section
variable {lo : Nat} {W1 wr : World} {S : Value} {ob bA bB nA nB : Nat} {XA XB : List Int}
end

/-! ### ScaleTableau -/
def scaleV (s : Int) (A B : List Int) (k : Int) : Tb := if tabOk s A B then ⟨s, A.map (M.times · k), B.map (M.times · k), true⟩ else Tb.none
theorem scaleV_yes {s : Int} {A B : List Int} (k : Int) (h : tabOk s A B = true) : scaleV s A B k = ⟨s, A.map (M.times · k), B.map (M.times · k), true⟩ := if_pos h
theorem scaleV_no {s : Int} {A B : List Int} (k : Int) (h : tabOk s A B = false) : scaleV s A B k = Tb.none := if_neg (by rw [h]; simp)
theorem scaleV_len (s : Int) (A B : List Int) (k : Int) : (scaleV s A B k).A.length ≤ 1000 ∧ (scaleV s A B k).B.length ≤ 1000 := by
  cases hok : tabOk s A B with
  | false => rw [scaleV_no k hok]; exact ⟨Nat.zero_le _, Nat.zero_le _⟩
  | true =>
    rw [scaleV_yes k hok]
    obtain ⟨S, rfl, hS, e1, e2, _⟩ := tabOk_parts hok rfl rfl
    simp only [List.length_map]
    have : S * S ≤ 64 := Nat.mul_le_mul hS hS
    omega
/-- the first k elements of what a map gives, zeros behind -/
def part (f : Int → Int) (xs : List Int) (n k : Nat) : List Int := (xs.take k).map f ++ List.replicate (n - k) 0
theorem part_start (f : Int → Int) (xs : List Int) (n : Nat) : List.replicate n 0 = part f xs n 0 := by simp [part]
theorem part_end {f : Int → Int} {xs : List Int} {n : Nat} (h : xs.length = n) : part f xs n n = xs.map f := by
  unfold part
  rw [Nat.sub_self, ← h, List.take_length, List.replicate_zero, List.append_nil]
theorem part_step {f : Int → Int} {xs : List Int} {n k : Nat} {x : Int} (h : k < n) (hn : xs.length = n) (e : x = xs.getD k 0) : (part f xs n k).set k (f x) = part f xs n (k + 1) := by
  subst e
  unfold part
  rw [take_snoc 0 xs k (by omega), List.map_append, List.set_append_right _ _ (by rw [List.length_map, List.length_take]; omega), List.length_map, List.length_take,
    show k - min k xs.length = 0 by omega, show n - k = (n - (k + 1)) + 1 by omega, List.replicate_succ, List.set_cons_zero, List.append_assoc]
  rfl

end Go.Proofs.YtgbjoaheidgafaaDoor
