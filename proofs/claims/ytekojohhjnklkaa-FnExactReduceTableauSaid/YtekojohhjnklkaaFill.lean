/- Lists that are filled place after place. -/
import Derived.Test.YtekojohhjnklkaaAp
namespace Go.Proofs.Ytekojohhjnklkaa
open Go.RowKit

/-- The first n values of f. -/
def firstN (f : Nat → Int) (n : Nat) : List Int := (List.range n).map f
theorem firstN_succ (f : Nat → Int) (n : Nat) : firstN f (n + 1) = firstN f n ++ [f n] := by simp [firstN, List.range_succ]
theorem firstN_len (f : Nat → Int) (n : Nat) : (firstN f n).length = n := by simp [firstN]
theorem firstN_set {f g : Nat → Int} {n q : Nat} {v : Int} (hv : g q = v) (h : ∀ p, p < n → p ≠ q → g p = f p) : (firstN f n).set q v = firstN g n := by
  apply List.ext_getElem
  · simp [firstN]
  · intro i h1 h2
    rw [List.getElem_set]
    simp only [firstN, List.length_map, List.length_range] at h2
    by_cases e : q = i
    · subst e; simp [firstN, hv]
    · rw [if_neg e]
      simp only [firstN, List.getElem_map, List.getElem_range]
      exact (h i h2 (Ne.symm e)).symm
theorem firstN_zero {f : Nat → Int} {n : Nat} (h : ∀ p, p < n → f p = 0) : List.replicate n 0 = firstN f n := by
  apply List.ext_getElem
  · simp [firstN]
  · intro i h1 h2
    simp only [List.length_replicate] at h1
    simp [firstN, h i h1]
theorem firstN_congr {f g : Nat → Int} {n : Nat} (h : ∀ p, p < n → f p = g p) : firstN f n = firstN g n := by
  apply List.ext_getElem
  · simp [firstN]
  · intro i h1 _
    simp only [firstN, List.length_map, List.length_range] at h1
    simp [firstN, h i h1]
/-- the last t of N places are filled -/
def backN (f : Nat → Int) (N t : Nat) : List Int := firstN (fun q => if N ≤ q + t then f q else 0) N
theorem backN_zero (f : Nat → Int) (N : Nat) : List.replicate N 0 = backN f N 0 := firstN_zero fun _ _ => if_neg (by omega)
theorem backN_all (f : Nat → Int) (N : Nat) : backN f N N = firstN f N := firstN_congr fun p hp => if_pos (by omega)
theorem backN_set {f : Nat → Int} {N t q : Nat} {v : Int} (hq : q + (t + 1) = N) (hv : f q = v) : (backN f N t).set q v = backN f N (t + 1) :=
  firstN_set (by rw [if_pos (by omega)]; exact hv) fun p _ hne => by
    by_cases e : N ≤ p + t
    · rw [if_pos (by omega), if_pos e]
    · rw [if_neg (by omega), if_neg e]
/-- the first t of N places are filled -/
def headN (f : Nat → Int) (N t : Nat) : List Int := firstN (fun q => if q < t then f q else 0) N
theorem headN_zero (f : Nat → Int) (N : Nat) : List.replicate N 0 = headN f N 0 := firstN_zero fun _ _ => if_neg (by omega)
theorem headN_all (f : Nat → Int) (N : Nat) : headN f N N = firstN f N := firstN_congr fun _ hp => if_pos hp
theorem headN_set {f : Nat → Int} {N t : Nat} {v : Int} (hv : f t = v) : (headN f N t).set t v = headN f N (t + 1) :=
  firstN_set (by rw [if_pos (by omega)]; exact hv) fun p _ hne => by
    by_cases e : p < t
    · rw [if_pos (by omega), if_pos e]
    · rw [if_neg (by omega), if_neg e]

/-! ### AdjointTableau -/
def adjE (A B : List Int) (S q : Nat) : Int := M.minus (B.getD (S - 1 - q % S) 0) (A.getD (S * S - 1 - q) 0)
def revE (B : List Int) (S q : Nat) : Int := B.getD (S - 1 - q) 0
def adjV (s : Int) (A B : List Int) : Tb := if tabOk s A B then ⟨s, firstN (adjE A B s.toNat) (s.toNat * s.toNat), firstN (revE B s.toNat) s.toNat, true⟩ else Tb.none
theorem adjV_yes {S : Nat} {A B : List Int} (h : tabOk S A B = true) : adjV S A B = ⟨S, firstN (adjE A B S) (S * S), firstN (revE B S) S, true⟩ := if_pos h
theorem adjV_no {s : Int} {A B : List Int} (h : tabOk s A B = false) : adjV s A B = Tb.none := if_neg (by rw [h]; simp)
theorem adjV_len (s : Int) (A B : List Int) : (adjV s A B).A.length ≤ 1000 ∧ (adjV s A B).B.length ≤ 1000 := by
  cases hok : tabOk s A B with
  | false => rw [adjV_no hok]; exact ⟨Nat.zero_le _, Nat.zero_le _⟩
  | true =>
    obtain ⟨S, rfl, hS, e1, e2, _⟩ := tabOk_parts hok rfl rfl
    rw [adjV_yes hok]
    simp only [firstN_len]
    have : S * S ≤ 64 := Nat.mul_le_mul hS hS
    omega
/-- where the element of row i, column j lies in the adjoint -/
theorem adj_place {S i j : Nat} (hi : i < S) (hj : j < S) : ((S - 1 - i) * S + (S - 1 - j)) % S = S - 1 - j ∧ (S - 1 - i) * S + (S - 1 - j) + (i * S + j + 1) = S * S := by
  obtain ⟨a, rfl⟩ : ∃ a, S = i + 1 + a := ⟨S - (i + 1), by omega⟩
  have e1 : i + 1 + a - 1 - i = a := by omega
  rw [e1]
  refine ⟨?_, ?_⟩
  · rw [Nat.mul_comm a, Nat.mul_add_mod]; exact Nat.mod_eq_of_lt (by omega)
  · have e2 : (i + 1 + a) * (i + 1 + a) = i * (i + 1 + a) + (i + 1 + a) + a * (i + 1 + a) := by
      rw [Nat.add_mul, Nat.add_mul, Nat.one_mul]
    omega
theorem adj_at {A B : List Int} {S i j : Nat} {x y : Int} (hi : i < S) (hj : j < S) (hx : x = B.getD j 0) (hy : El A S i j y) : adjE A B S ((S - 1 - i) * S + (S - 1 - j)) = M.minus x y := by
  obtain ⟨e1, e2⟩ := adj_place hi hj
  unfold adjE
  rw [e1, show S - 1 - (S - 1 - j) = j by omega, show S * S - 1 - ((S - 1 - i) * S + (S - 1 - j)) = i * S + j by omega, ← hx, ← (show y = A.getD (i * S + j) 0 from hy)]
end Go.Proofs.Ytekojohhjnklkaa
