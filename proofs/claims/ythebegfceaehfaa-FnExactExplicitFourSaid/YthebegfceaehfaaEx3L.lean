/- ExplicitThree: what it answers. -/
import Derived.Test.YthebegfceaehfaaColI
namespace Go.Proofs.Ythebegfceaehfaa
open Go.RowKit

def ex3B (c2 c3 : Int) : List Int := wtL [0, c2, c3] 3 1
def ex3a (c2 c3 : Int) : Int := M.frac 1 (M.times 6 (M.times ((ex3B c2 c3).getD 2 0) c2))
def ex3Ok (c2 c3 : Int) : Bool := colOk [0, c2, c3] && !decide ((ex3B c2 c3).getD 2 0 = 0)
def ex3A (c2 c3 : Int) : List Int := [0, 0, 0, c2, 0, 0, M.minus c3 (ex3a c2 c3), ex3a c2 c3, 0]
def ex3V (c2 c3 : Int) : Tb := if ex3Ok c2 c3 then ⟨3, ex3A c2 c3, ex3B c2 c3, true⟩ else Tb.none
theorem ex3V_yes {c2 c3 : Int} (h : ex3Ok c2 c3 = true) : ex3V c2 c3 = ⟨3, ex3A c2 c3, ex3B c2 c3, true⟩ := by unfold ex3V; rw [h]; rfl
theorem ex3V_no {c2 c3 : Int} (h : ex3Ok c2 c3 = false) : ex3V c2 c3 = Tb.none := by unfold ex3V; rw [h]; rfl
theorem ex3V_len (c2 c3 : Int) : (ex3V c2 c3).A.length ≤ 1000 ∧ (ex3V c2 c3).B.length ≤ 1000 := by
  cases h : ex3Ok c2 c3 with
  | false => rw [ex3V_no h]; exact ⟨Nat.zero_le _, Nat.zero_le _⟩
  | true =>
    rw [ex3V_yes h]
    simp only [ex3B, wtL_len, ex3A, List.length_cons, List.length_nil]
    omega
/-- The check of the three numbers. -/
theorem ok_three {c2 c3 : Int} : colOk [0, c2, c3] = (M.allNum [0, c2, c3] && ndB [0, c2, c3]) := by
  unfold colOk
  rw [decide_eq_true (show 1 ≤ [0, c2, c3].length by simp), decide_eq_true (show [0, c2, c3].length ≤ 8 by simp), Bool.true_and, Bool.true_and]
theorem frac_one (x : Int) : M.frac 1 x = M.inv x := by
  unfold M.frac M.times
  rw [Int.one_mul]
  exact M.res_of_num (M.num_inv x)
theorem wf3 {c2 c3 : Int} (h2 : I64 c2) (h3 : I64 c3) : ∀ x ∈ [0, c2, c3], I64 x := by
  intro x hx
  simp only [List.mem_cons, List.not_mem_nil, or_false] at hx
  rcases hx with rfl | rfl | rfl
  · exact ⟨by decide, by decide⟩
  · exact h2
  · exact h3
theorem ex3_wf {c2 c3 : Int} (h2 : I64 c2) : ∀ x ∈ ex3A c2 c3, I64 x := by
  have h0 : I64 0 := ⟨by decide, by decide⟩
  have h1 : I64 (M.minus c3 (ex3a c2 c3)) := I64.num (M.num_minus _ _)
  have h3 : I64 (ex3a c2 c3) := I64.num (M.num_frac _ _)
  intro x hx
  unfold ex3A at hx
  generalize M.minus c3 (ex3a c2 c3) = u at h1 hx
  generalize ex3a c2 c3 = v at h3 hx
  simp only [List.mem_cons, List.not_mem_nil, or_false] at hx
  rcases hx with rfl | rfl | rfl | rfl | rfl | rfl | rfl | rfl | rfl <;> assumption
theorem impl_empty3 (w : World) :
    Calls Try.prog 56 #[.int .i64 3] w fun e w' => ∃ bA bB, e = .returned (.agg #[.int .i64 3, .slice (some ⟨bA, 0, none⟩) 9 9, .slice (some ⟨bB, 0, none⟩) 3 3]) ∧
      Bi w' bA (zerosL 9) ∧ Bi w' bB (zerosL 3) ∧ bA ≠ bB ∧ Below w.heap.size w w' ∧ w.heap.size ≤ bA ∧ w.heap.size ≤ bB := impl_emptyW 3 9 w (by decide) rfl
theorem impl_row31 (b : Nat) (v : Value) (w : World) :
    Calls Try.prog 33 #[.agg #[.int .i64 3, .slice (some ⟨b, 0, none⟩) 9 9, v], .int .i64 1] w fun e w' => e = .returned (.slice (some ⟨b, 3, none⟩) 3 6) ∧ Below w.heap.size w w' := impl_row 3 1 b 0 9 9 v w rfl (by decide) (by decide) (by decide) (by decide)
theorem impl_row32 (b : Nat) (v : Value) (w : World) :
    Calls Try.prog 33 #[.agg #[.int .i64 3, .slice (some ⟨b, 0, none⟩) 9 9, v], .int .i64 2] w fun e w' => e = .returned (.slice (some ⟨b, 6, none⟩) 3 3) ∧ Below w.heap.size w w' := impl_row 3 2 b 0 9 9 v w rfl (by decide) (by decide) (by decide) (by decide)
end Go.Proofs.Ythebegfceaehfaa
