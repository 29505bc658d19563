/- CollocationTableau: what it answers. -/
import Derived.Test.YthebegfceaehfaaDif
import Derived.Test.YthebegfceaehfaaCmpI
namespace Go.Proofs.Ythebegfceaehfaa
open Go.RowKit

theorem solL_len (m : Nat → Nat → Int) (g : Nat → Int) (n : Nat) : (solL m g n).length = n := by simp [solL]
theorem solL_num {m : Nat → Nat → Int} {g : Nat → Int} {n : Nat} (hn : ∀ i j, i < n → j < n → M.num (m i j)) (hg : ∀ i, i < n → M.num (g i)) (ht : ∀ x, Sol.Ker (aug m g n) n n x → ∀ j, j < n → M.P ∣ x j) : ∀ x ∈ solL m g n, M.num x := by
  intro x hx
  obtain ⟨i, hi, rfl⟩ := List.mem_map.1 hx
  exact ((Sol.red_full (Nat.le_succ n) (aug_num hn hg) ht) n (Nat.le_refl _)).1.num i n (List.mem_range.1 hi) (Nat.lt_succ_self _)
theorem wtL_len (C : List Int) (n : Nat) (a : Int) : (wtL C n a).length = n := solL_len _ _ _
/-- The rows, one behind the other. -/
def colFlat (C : List Int) (n k : Nat) : List Int := (List.range k).flatMap fun i => wtL C n (C.getD i 0)
theorem colFlat_succ (C : List Int) (n k : Nat) : colFlat C n (k + 1) = colFlat C n k ++ wtL C n (C.getD k 0) := by simp [colFlat, List.range_succ]
theorem colFlat_len (C : List Int) (n : Nat) : ∀ k, (colFlat C n k).length = k * n
  | 0 => by simp [colFlat]
  | k + 1 => by rw [colFlat_succ, List.length_append, colFlat_len C n k, wtL_len, Nat.add_mul, Nat.one_mul]
def colOk (C : List Int) : Bool := decide (1 ≤ C.length) && decide (C.length ≤ 8) && M.allNum C && ndB C
def colV (C : List Int) : Tb := if colOk C then ⟨C.length, colFlat C C.length C.length, wtL C C.length 1, true⟩ else Tb.none
theorem colV_no {C : List Int} (h : colOk C = false) : colV C = Tb.none := by unfold colV; rw [h]; rfl
theorem colV_yes {C : List Int} (h : colOk C = true) : colV C = ⟨C.length, colFlat C C.length C.length, wtL C C.length 1, true⟩ := by unfold colV; rw [h]; rfl
theorem colOk_parts {C : List Int} (h : colOk C = true) : 1 ≤ C.length ∧ C.length ≤ 8 ∧ M.allNum C = true ∧ ndB C = true := by
  unfold colOk at h
  simp only [Bool.and_eq_true, decide_eq_true_eq] at h
  exact ⟨h.1.1.1, h.1.1.2, h.1.2, h.2⟩
theorem colOk_dif {C : List Int} {n : Nat} (hn : C.length = n) (h : colOk C = true) : Dif C n := dif_of hn (colOk_parts h).2.2.1 (colOk_parts h).2.2.2
theorem colV_len (C : List Int) : (colV C).A.length ≤ 1000 ∧ (colV C).B.length ≤ 1000 := by
  cases h : colOk C with
  | false => rw [colV_no h]; exact ⟨Nat.zero_le _, Nat.zero_le _⟩
  | true =>
    rw [colV_yes h]
    obtain ⟨_, h8, _⟩ := colOk_parts h
    have : C.length * C.length ≤ 64 := Nat.mul_le_mul h8 h8
    simp only [colFlat_len, wtL_len]
    omega
theorem wtL_wf {C : List Int} {n : Nat} (h : Dif C n) (a : Int) : ∀ x ∈ wtL C n a, I64 x := fun x hx =>
  I64.num (solL_num (fun i j _ _ => pwM_num C i j) (fun i _ => rgt_num a i) (pw_ker _ h) x hx)
theorem colFlat_wf {C : List Int} {n : Nat} (h : Dif C n) (k : Nat) : ∀ x ∈ colFlat C n k, I64 x := fun x hx => by
  obtain ⟨i, _, hi⟩ := List.mem_flatMap.1 hx
  exact wtL_wf h _ x hi
end Go.Proofs.Ythebegfceaehfaa
