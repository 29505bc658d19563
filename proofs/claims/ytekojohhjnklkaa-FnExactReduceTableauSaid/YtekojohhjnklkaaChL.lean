/- The stages that are chosen: plain lists. -/
import Derived.Test.YtekojohhjnklkaaFill
namespace Go.Proofs.Ytekojohhjnklkaa
open Go.RowKit
def chE (A L : List Int) (S N q : Nat) : Int := A.getD ((L.getD (q / N) 0).toNat * S + (L.getD (q % N) 0).toNat) 0
def chB (B L : List Int) (q : Nat) : Int := B.getD (L.getD q 0).toNat 0
theorem place_div {i j N : Nat} (hj : j < N) : (i * N + j) / N = i ∧ (i * N + j) % N = j := by
  refine ⟨?_, ?_⟩
  · rw [Nat.mul_comm, Nat.mul_add_div (by omega), Nat.div_eq_of_lt hj, Nat.add_zero]
  · rw [Nat.mul_comm, Nat.mul_add_mod]; exact Nat.mod_eq_of_lt hj
theorem chE_at {A L : List Int} {S N i j xi yi : Nat} {x y z : Int} (hj : j < N) (hx : x = L.getD i 0) (hy : y = L.getD j 0) (ex : x = xi) (ey : y = yi) (hz : El A S xi yi z) : chE A L S N (i * N + j) = z := by
  obtain ⟨e1, e2⟩ := place_div (i := i) hj
  unfold chE
  rw [e1, e2, ← hx, ← hy, ex, ey, Int.toNat_natCast, Int.toNat_natCast]
  exact (show z = A.getD (xi * S + yi) 0 from hz).symm
theorem chB_at {B L : List Int} {i xi : Nat} {x z : Int} (hx : x = L.getD i 0) (ex : x = xi) (hz : z = B.getD xi 0) : chB B L i = z := by
  unfold chB
  rw [← hx, ex, Int.toNat_natCast]
  exact hz.symm
theorem mem_at {L : List Int} {i n : Nat} {x : Int} (hl : L.length = n) (hi : i < n) (hx : x = L.getD i 0) : x ∈ L := by
  have h : i < L.length := by omega
  rw [hx, List.getD_eq_getElem?_getD, List.getElem?_eq_getElem h]
  exact List.getElem_mem h
theorem step_bd {i N : Nat} (hi : i < N) (hN : N ≤ 8) : i * N + N ≤ N * N ∧ N * N ≤ 64 := by
  have h1 : (i + 1) * N ≤ N * N := Nat.mul_le_mul (by omega) (Nat.le_refl _)
  have h2 : N * N ≤ 8 * 8 := Nat.mul_le_mul hN hN
  rw [Nat.add_mul, Nat.one_mul] at h1
  omega
end Go.Proofs.Ytekojohhjnklkaa
