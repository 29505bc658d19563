/- The nodes of Gauss, Radau and Lobatto. -/
import Derived.Test.YtgbjoaheidgafaaDoorLaw
namespace Go.Proofs.YtgbjoaheidgafaaDoor
open Go.RowKit
attribute [local irreducible] M.powr

theorem below_new (w : World) (o : Obj) : Below w.heap.size w (w.alloc o) := (Below.refl _ _).alloc (Nat.le_refl _) o
/-- A literal slice. -/
theorem Fr.lit (w : World) (xs : List Int) (cs : Array Value) (n : Nat) (hcs : cs = (xs.map (Value.int .i64)).toArray) (hn : xs.length = n) (hm : n ≤ 1048576) (hw : ∀ x ∈ xs, I64 x) :
    Fr (w.alloc (.cells cs 3)) w.heap.size (some ⟨w.heap.size, 0, none⟩) n n xs := by
  subst hcs
  have hg := heap_alloc_new w (.cells (xs.map (Value.int .i64)).toArray 3)
  refine ⟨⟨hn, Nat.le_refl _, by omega, fun i hi => ⟨_, 0, rfl, ?_⟩, hw⟩, fun b o s e _ => ?_⟩
  · rw [Nat.zero_add, cell_of_row _ _ i _ _ _ hg]
    simp [List.getD, show i < xs.length by omega]
  · simp only [Option.some.injEq, Addr.mk.injEq] at e
    obtain ⟨rfl, rfl, rfl⟩ := e
    exact ⟨Nat.le_refl _, fun i _ => frozen_of_row _ _ _ _ _ hg⟩
theorem Fr.none (w : World) (lo : Nat) : Fr w lo none 0 0 [] := ⟨Rd.nil _ _ _ (by omega), fun b o s e => by cases e⟩
/-- What a function leaves that hands back a new slice of ints. -/
def NewInts (w w' : World) (xs : List Int) (ao : Option Addr) (n c : Nat) : Prop := Fr w' w.heap.size ao n c xs ∧ Below w.heap.size w w'
theorem NewInts.lit (w : World) (xs : List Int) (cs : Array Value) (n : Nat) (hcs : cs = (xs.map (Value.int .i64)).toArray) (hn : xs.length = n) (hm : n ≤ 1048576) (hw : ∀ x ∈ xs, I64 x) :
    NewInts w (w.alloc (.cells cs 3)) xs (some ⟨w.heap.size, 0, none⟩) n n := ⟨Fr.lit w xs cs n hcs hn hm hw, below_new _ _⟩
theorem NewInts.none (w : World) : NewInts w w [] none 0 0 := ⟨Fr.none _ _, Below.refl _ _⟩

namespace M
def half : Int := frac 1 2
def gauss (s : Int) : List Int :=
  if s = 1 then [half] else if s = 2 then [minus half (frac (sqVal 3) 6), plus half (frac (sqVal 3) 6)]
  else if s = 3 then [minus half (frac (sqVal 15) 10), half, plus half (frac (sqVal 15) 10)] else []
def radau (s : Int) : List Int :=
  if s = 1 then [1] else if s = 2 then [frac 1 3, 1] else if s = 3 then [frac (minus 4 (sqVal 6)) 10, frac (plus 4 (sqVal 6)) 10, 1] else []
def lobatto (s : Int) : List Int :=
  if s = 2 then [0, 1] else if s = 3 then [0, half, 1] else if s = 4 then [0, minus half (frac (sqVal 5) 10), plus half (frac (sqVal 5) 10), 1] else []
theorem frac_mod (a b : Int) : frac (a % P) b = frac a b := by unfold frac times; rw [mul_l]
theorem num0 : num 0 := ⟨by decide, by decide⟩
theorem num1 : num 1 := ⟨by decide, by decide⟩
theorem gauss_num (s : Int) : ∀ x ∈ gauss s, num x := by
  unfold gauss half
  intro x hx
  (repeat' split at hx) <;> simp only [List.mem_cons, List.not_mem_nil, or_false] at hx
  · exact hx ▸ num_frac _ _
  · rcases hx with rfl | rfl
    · exact num_minus _ _
    · exact num_plus _ _
  · rcases hx with rfl | rfl | rfl
    · exact num_minus _ _
    · exact num_frac _ _
    · exact num_plus _ _
theorem radau_num (s : Int) : ∀ x ∈ radau s, num x := by
  unfold radau
  intro x hx
  (repeat' split at hx) <;> simp only [List.mem_cons, List.not_mem_nil, or_false] at hx
  · exact hx ▸ num1
  · rcases hx with rfl | rfl
    · exact num_frac _ _
    · exact num1
  · rcases hx with rfl | rfl | rfl
    · exact num_frac _ _
    · exact num_frac _ _
    · exact num1
theorem lobatto_num (s : Int) : ∀ x ∈ lobatto s, num x := by
  unfold lobatto half
  intro x hx
  (repeat' split at hx) <;> simp only [List.mem_cons, List.not_mem_nil, or_false] at hx
  · rcases hx with rfl | rfl
    · exact num0
    · exact num1
  · rcases hx with rfl | rfl | rfl
    · exact num0
    · exact num_frac _ _
    · exact num1
  · rcases hx with rfl | rfl | rfl | rfl
    · exact num0
    · exact num_minus _ _
    · exact num_plus _ _
    · exact num1
end M

end Go.Proofs.YtgbjoaheidgafaaDoor
