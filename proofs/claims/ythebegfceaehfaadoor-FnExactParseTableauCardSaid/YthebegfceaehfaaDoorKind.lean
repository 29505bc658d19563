/- KindOf. -/
import Derived.Test.YthebegfceaehfaaDoorRow
namespace Go.Proofs.YthebegfceaehfaaDoor
open Go.RowKit

def kExp : ByteArray := ⟨#[101, 120, 112, 108, 105, 99, 105, 116]⟩
def kImp : ByteArray := ⟨#[105, 109, 112, 108, 105, 99, 105, 116]⟩
def kDia : ByteArray := ⟨#[100, 105, 97, 103, 111, 110, 97, 108]⟩
def kOf (b : Bool) : ByteArray := if b then kDia else kExp
def nz (A : List Int) (S i j : Nat) : Bool := A.getD (i * S + j) 0 != 0
/-- is there an element above the diagonal in the first rows? -/
def upTo (A : List Int) (S i : Nat) : Bool := (List.range i).any fun i => (List.range S).any fun j => decide (i < j) && nz A S i j
/-- is there one on the diagonal? -/
def dgTo (A : List Int) (S i : Nat) : Bool := (List.range i).any fun i => nz A S i i
/-- the same with the first elements of the row i -/
def upIn (A : List Int) (S i j : Nat) : Bool := (List.range j).any fun j => decide (i < j) && nz A S i j
def dgIn (A : List Int) (S i j : Nat) : Bool := dgTo A S i || decide (i < j) && nz A S i i
def kindOf (A : List Int) (S : Nat) : ByteArray := if upTo A S S then kImp else kOf (dgTo A S S)
theorem upTo_succ (A : List Int) (S i : Nat) : upTo A S (i + 1) = (upTo A S i || upIn A S i S) := by
  simp [upTo, upIn, List.range_succ]
theorem dgTo_succ (A : List Int) (S i : Nat) : dgTo A S (i + 1) = (dgTo A S i || nz A S i i) := by simp [dgTo, List.range_succ]
theorem upIn_succ (A : List Int) (S i j : Nat) : upIn A S i (j + 1) = (upIn A S i j || decide (i < j) && nz A S i j) := by simp [upIn, List.range_succ]
theorem upIn_start (A : List Int) (S i : Nat) : upIn A S i i = false := by
  unfold upIn
  rw [List.any_eq_false]
  intro x hx
  have := List.mem_range.1 hx
  simp
  omega
theorem nz_of {A : List Int} {S i j : Nat} {x : Int} (e : El A S i j x) : nz A S i j = !(x == 0) := by
  unfold El at e
  unfold nz
  rw [← e]
  rfl
theorem upIn_skip {A : List Int} {S i j : Nat} {x : Int} (h : upIn A S i j = false) (e : El A S i j x) (h0 : (x == 0) = true) : upIn A S i (j + 1) = false := by
  rw [upIn_succ, h, nz_of e, h0]
  simp
theorem upIn_diag {A : List Int} {S i : Nat} (h : upIn A S i i = false) : upIn A S i (i + 1) = false := by
  rw [upIn_succ, h]
  simp
theorem dgIn_skip {A : List Int} {S i j : Nat} {x : Int} (hij : i ≤ j) (e : El A S i j x) (h0 : (x == 0) = true) : dgIn A S i (j + 1) = dgIn A S i j := by
  unfold dgIn
  by_cases h : i = j
  · subst h
    rw [nz_of e, h0]
    simp
  · rw [show decide (i < j + 1) = decide (i < j) from by rw [decide_eq_decide]; omega]
theorem dgIn_diag {A : List Int} {S i : Nat} {x : Int} (e : El A S i i x) (h0 : (x == 0) = false) : dgIn A S i (i + 1) = true := by
  unfold dgIn
  rw [nz_of e, h0]
  simp
theorem up_hit {A : List Int} {S i j : Nat} {x : Int} (hi : i < S) (hj : j < S) (hij : i < j) (e : El A S i j x) (h0 : (x == 0) = false) : upTo A S S = true := by
  unfold upTo
  rw [List.any_eq_true]
  refine ⟨i, List.mem_range.2 hi, ?_⟩
  rw [List.any_eq_true]
  exact ⟨j, List.mem_range.2 hj, by rw [nz_of e, h0, decide_eq_true hij]; rfl⟩
theorem dgIn_start (A : List Int) (S i : Nat) : dgIn A S i i = dgTo A S i := by simp [dgIn]
theorem dgIn_end {A : List Int} {S i : Nat} (hi : i < S) : dgIn A S i S = dgTo A S (i + 1) := by rw [dgTo_succ]; simp [dgIn, hi]

theorem tabOk_parts {s : Int} {A B : List Int} {n1 n2 : Nat} (h : tabOk s A B = true) (hA : A.length = n1) (hB : B.length = n2) : ∃ S : Nat, s = S ∧ S ≤ 8 ∧ n1 = S * S ∧ n2 = S ∧ (∀ x ∈ A, M.num x) ∧ ∀ x ∈ B, M.num x := by
  unfold tabOk at h
  simp only [Bool.and_eq_true, decide_eq_true_eq] at h
  obtain ⟨⟨h0, h8, e1, e2⟩, hA', hB'⟩ := h
  obtain ⟨S, rfl⟩ := Int.eq_ofNat_of_zero_le h0
  refine ⟨S, rfl, by omega, ?_, by omega, M.allNum_mem hA', M.allNum_mem hB'⟩
  rw [← hA]
  have : ((A.length : Nat) : Int) = ((S * S : Nat) : Int) := by rw [e1, Int.natCast_mul]
  omega
theorem ret_s {a b : ByteArray} (h : a = b) : Ending.returned (.string a) = .returned (.string b) := by rw [h]
def kindV (s : Int) (A B : List Int) : ByteArray := if tabOk s A B then kindOf A s.toNat else ⟨#[]⟩
end Go.Proofs.YthebegfceaehfaaDoor
