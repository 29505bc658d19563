/- Sums mod P; powers of different numbers: a system of their powers has a trivial kernel. -/
import Derived.Test.YthebegfceaehfaaNum
namespace Go.Proofs.Ythebegfceaehfaa.Van
open M

def sumN : Nat → (Nat → Int) → Int
  | 0, _ => 0
  | n + 1, f => sumN n f + f n
theorem sumN_congr {n : Nat} {f g : Nat → Int} (h : ∀ i, i < n → f i = g i) : sumN n f = sumN n g := by
  induction n with
  | zero => rfl
  | succ n ih =>
    simp only [sumN]
    rw [ih (fun i hi => h i (by omega)), h n (by omega)]
theorem sumN_zero {n : Nat} {f : Nat → Int} (h : ∀ i, i < n → f i = 0) : sumN n f = 0 := by
  induction n with
  | zero => rfl
  | succ n ih => simp only [sumN]; rw [ih (fun i hi => h i (by omega)), h n (by omega)]; rfl
theorem sumN_sub (n : Nat) (f g : Nat → Int) : sumN n (fun i => f i - g i) = sumN n f - sumN n g := by
  induction n with
  | zero => rfl
  | succ n ih => simp only [sumN]; rw [ih]; omega
theorem sumN_add (n : Nat) (f g : Nat → Int) : sumN n (fun i => f i + g i) = sumN n f + sumN n g := by
  induction n with
  | zero => rfl
  | succ n ih => simp only [sumN]; rw [ih]; omega
theorem sumN_mul (n : Nat) (a : Int) (f : Nat → Int) : sumN n (fun i => a * f i) = a * sumN n f := by
  induction n with
  | zero => simp [sumN]
  | succ n ih => simp only [sumN]; rw [ih, Int.mul_add]
theorem sumN_dvd {d : Int} {n : Nat} {f : Nat → Int} (h : ∀ i, i < n → d ∣ f i) : d ∣ sumN n f := by
  induction n with
  | zero => exact Int.dvd_zero _
  | succ n ih => exact Int.dvd_add (ih fun i hi => h i (by omega)) (h n (by omega))
theorem sumN_one {n j : Nat} {f : Nat → Int} (hj : j < n) (h : ∀ i, i < n → i ≠ j → f i = 0) : sumN n f = f j := by
  induction n with
  | zero => omega
  | succ n ih =>
    simp only [sumN]
    by_cases e : j = n
    · subst e
      rw [sumN_zero (fun i hi => h i (by omega) (by omega)), Int.zero_add]
    · rw [ih (by omega) (fun i hi hn => h i (by omega) hn), h n (by omega) (by omega), Int.add_zero]
theorem prime_dvd {a b : Int} (h : P ∣ a * b) : P ∣ a ∨ P ∣ b :=
  (dvd_mul (Int.emod_eq_zero_of_dvd h)).imp Int.dvd_of_emod_eq_zero Int.dvd_of_emod_eq_zero
def prodR (c : Nat → Int) : List Nat → Int → Int
  | [], _ => 1
  | r :: rs, y => (y - c r) * prodR c rs y
theorem prodR_zero {c : Nat → Int} {l : Nat} : ∀ {rs : List Nat}, l ∈ rs → prodR c rs (c l) = 0
  | r :: rs, h => by
    rw [prodR]
    rcases List.mem_cons.1 h with rfl | h
    · rw [Int.sub_self, Int.zero_mul]
    · rw [prodR_zero h, Int.mul_zero]
theorem prodR_not {c : Nat → Int} {y : Int} : ∀ {rs : List Nat}, (∀ r ∈ rs, ¬ P ∣ y - c r) → ¬ P ∣ prodR c rs y
  | [], _ => by rw [prodR]; decide
  | r :: rs, h => by
    rw [prodR]
    intro hd
    rcases prime_dvd hd with h1 | h1
    · exact h r (List.mem_cons_self ..) h1
    · exact prodR_not (fun x hx => h x (List.mem_cons_of_mem _ hx)) h1
theorem van_prod {n : Nat} {c x : Nat → Int} (h : ∀ k, k < n → P ∣ sumN n (fun l => c l ^ k * x l)) :
    ∀ (rs : List Nat) (e : Nat), rs.length + e < n → P ∣ sumN n (fun l => prodR c rs (c l) * (c l ^ e * x l))
  | [], e, he => by
    have := h e (by simpa using he)
    simpa [prodR] using this
  | r :: rs, e, he => by
    have h1 := van_prod h rs (e + 1) (by simp at he; omega)
    have h2 := van_prod h rs e (by simp at he; omega)
    rw [sumN_congr (g := fun l => prodR c rs (c l) * (c l ^ (e + 1) * x l) - c r * (prodR c rs (c l) * (c l ^ e * x l))) (fun l _ => by
      rw [prodR, Int.pow_succ]
      rw [Int.sub_mul, Int.sub_mul]
      congr 1
      · rw [Int.mul_comm (c l) (prodR c rs (c l)), Int.mul_assoc, ← Int.mul_assoc (c l), Int.mul_comm (c l) (c l ^ e)]
      · rw [Int.mul_assoc])]
    rw [sumN_sub, sumN_mul]
    exact Int.dvd_sub h1 (Int.dvd_mul_of_dvd_right h2)
/-- The kernel of the powers 0..n-1 of n different numbers. -/
theorem van {n : Nat} {c x : Nat → Int} (h : ∀ k, k < n → P ∣ sumN n (fun l => c l ^ k * x l)) (hd : ∀ i j, i < n → j < n → i ≠ j → ¬ P ∣ c i - c j) : ∀ j, j < n → P ∣ x j := by
  intro j hj
  have hl : ((List.range n).filter (· ≠ j)).length + 0 < n := by
    have h1 : ((List.range n).filter (· ≠ j)).length < (List.range n).length := by
      refine List.length_filter_lt_length_iff_exists.2 ⟨j, List.mem_range.2 hj, by simp⟩
    simpa using h1
  have h1 := van_prod h _ 0 hl
  rw [sumN_one hj (fun i hi hn => by
    rw [prodR_zero (by simp [hi, hn]), Int.zero_mul])] at h1
  rcases prime_dvd h1 with h2 | h2
  · exfalso
    refine prodR_not ?_ h2
    intro r hr
    have := List.mem_filter.1 hr
    simp at this
    exact hd j r hj this.1 (fun e => this.2 e.symm)
  · simpa using h2
end Go.Proofs.Ythebegfceaehfaa.Van
