/- JumpTableau: plain lists. -/
import Derived.Test.YtekojohhjnklkaaCmpL
namespace Go.Proofs.Ytekojohhjnklkaa
open Go.RowKit
theorem M.times_mod_r (a k : Int) : M.times a (k % M.P) = M.times a k := by unfold M.times; rw [Int.mul_emod a (k % M.P), Int.emod_emod_of_dvd _ (Int.dvd_refl _), ← Int.mul_emod]
theorem jump_factor (x : Int) : ∀ a, M.times a (1 - 2 * x) = M.times a (M.minus 1 (M.times 2 x)) := by
  intro a
  rw [← M.times_mod_r a (1 - 2 * x)]
  congr 1
  unfold M.minus M.times
  rw [Int.sub_emod 1 ((2 * x) % M.P), Int.emod_emod_of_dvd _ (Int.dvd_refl _), ← Int.sub_emod]
theorem scaleV_factor (s : Int) (A B : List Int) (x : Int) : scaleV s A B (1 - 2 * x) = scaleV s A B (M.minus 1 (M.times 2 x)) := by
  unfold scaleV
  rw [show (M.times · (1 - 2 * x)) = (M.times · (M.minus 1 (M.times 2 x))) from funext (jump_factor x)]
theorem M.powr_mod (a k : Int) : M.powr (a % M.P) k = M.powr a k := by
  unfold M.powr
  split
  · rfl
  · exact M.pow_l a _
/-- the reference's 2 - c is no number, the implementation's is -/
theorem jump_inv : M.inv (2 - M.cbRoot 2) = M.jump := by
  unfold M.jump M.inv M.minus
  rw [M.powr_mod]
/-- The step of x, of 1 - 2x, of x. -/
def jumpV (s : Int) (A B : List Int) : Tb :=
  let one := scaleV s A B M.jump
  let mid := scaleV s A B (M.minus 1 (M.times 2 M.jump))
  let two := cmpV one.st one.A one.B mid.st mid.A mid.B
  if tabOk s A B && two.ok then cmpV two.st two.A two.B one.st one.A one.B else Tb.none
theorem jumpV_len (s : Int) (A B : List Int) : (jumpV s A B).A.length ≤ 1000 ∧ (jumpV s A B).B.length ≤ 1000 := by
  unfold jumpV
  simp only
  split
  · exact cmpV_len _ _ _ _ _ _
  · exact ⟨Nat.zero_le _, Nat.zero_le _⟩
/-- A slice elsewhere, behind three stores into block b. -/
theorem rd_set3 {w : World} {lo hi : Nat} {ao : Option Addr} {n c : Nat} {xs : List Int} (h : Ob w lo hi ao n c xs) {b : Nat} (hb : b < lo ∨ hi ≤ b) (u v t : Value) :
    Rd (((w.setCell ⟨b, 0, none⟩ u).setCell ⟨b, 1, none⟩ v).setCell ⟨b, 2, none⟩ t) ao n c xs := by
  have hne : 0 < n → blk ao ≠ some b ∨ (some b : Option Nat) = none := fun hn => .inl fun e => by
    have h1 := h.bd b (by rw [blkN_pos hn, e])
    omega
  exact (((h.fr.grown (grown_setCell _ _ _ _) hne).grown (grown_setCell _ _ _ _) hne).grown (grown_setCell _ _ _ _) hne).rd
end Go.Proofs.Ytekojohhjnklkaa
