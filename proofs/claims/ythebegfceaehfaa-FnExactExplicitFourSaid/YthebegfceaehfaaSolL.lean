/- The reduction of rows (SolveSystem), plain: matrices as functions; a trivial kernel brings a pivot in every column. -/
import Derived.Test.YthebegfceaehfaaVanL
namespace Go.Proofs.Ythebegfceaehfaa.Sol
open M Van

/-- The three steps on rows, as the program takes them. -/
def swp (m : Nat → Nat → Int) (i r : Nat) : Nat → Nat → Int := fun a => if a = r then m i else if a = i then m r else m a
def scl (m : Nat → Nat → Int) (r : Nat) (x : Int) : Nat → Nat → Int := fun a => if a = r then fun j => times (m r j) x else m a
def elm (m : Nat → Nat → Int) (r k : Nat) : Nat → Nat → Int := fun a => if a = r then m r else fun j => minus (m a j) (times (m a k) (m r j))
/-- The first row from i on whose column k is not 0; n where there is none. -/
def seek (m : Nat → Nat → Int) (k : Nat) : Nat → Nat → Nat
  | i, 0 => i
  | i, fuel + 1 => if m i k = 0 then seek m k (i + 1) fuel else i
theorem seek_ge (m : Nat → Nat → Int) (k : Nat) : ∀ fuel i, i ≤ seek m k i fuel ∧ seek m k i fuel ≤ i + fuel
  | 0, i => ⟨Nat.le_refl _, Nat.le_refl _⟩
  | fuel + 1, i => by
    rw [seek]
    split
    · have := seek_ge m k fuel (i + 1)
      omega
    · omega
theorem seek_found (m : Nat → Nat → Int) (k : Nat) : ∀ fuel i, seek m k i fuel < i + fuel → m (seek m k i fuel) k ≠ 0
  | 0, i, h => by rw [seek] at h; omega
  | fuel + 1, i, h => by
    rw [seek] at h ⊢
    split
    · rename_i h0
      rw [if_pos h0] at h
      exact seek_found m k fuel (i + 1) (by omega)
    · assumption
theorem seek_none (m : Nat → Nat → Int) (k : Nat) : ∀ fuel i, seek m k i fuel = i + fuel → ∀ a, i ≤ a → a < i + fuel → m a k = 0
  | 0, i, _, a, h1, h2 => by omega
  | fuel + 1, i, h, a, h1, h2 => by
    rw [seek] at h
    split at h
    · rename_i h0
      by_cases e : a = i
      · exact e ▸ h0
      · exact seek_none m k fuel (i + 1) (by omega) a (by omega) (by omega)
    · omega
/-- One column: the rows and the pivots behind it. -/
def col (n : Nat) (s : (Nat → Nat → Int) × List Nat) (k : Nat) : (Nat → Nat → Int) × List Nat :=
  if seek s.1 k s.2.length (n - s.2.length) < n then
    (elm (scl (swp s.1 (seek s.1 k s.2.length (n - s.2.length)) s.2.length) s.2.length (inv (s.1 (seek s.1 k s.2.length (n - s.2.length)) k))) s.2.length k, s.2 ++ [k])
  else s
def red (n c : Nat) (m : Nat → Nat → Int) : (Nat → Nat → Int) × List Nat := (List.range c).foldl (col n) (m, [])
def Ker (m : Nat → Nat → Int) (n w : Nat) (x : Nat → Int) : Prop := ∀ i, i < n → P ∣ sumN w (fun j => m i j * x j)

theorem dvd_cong {a b : Int} (h : P ∣ a - b) : P ∣ a ↔ P ∣ b := by
  constructor
  · intro h1
    have := Int.dvd_sub h1 h
    rwa [show a - (a - b) = b by omega] at this
  · intro h1
    have := Int.dvd_add h h1
    rwa [show a - b + b = a by omega] at this
theorem sum_cong {w : Nat} {f g : Nat → Int} (h : ∀ j, j < w → P ∣ f j - g j) : P ∣ sumN w f ↔ P ∣ sumN w g :=
  dvd_cong (by rw [← sumN_sub]; exact sumN_dvd h)
theorem emod_cong (a : Int) : P ∣ a % P - a := ⟨-(a / P), by have := Int.emod_add_mul_ediv a P; rw [Int.mul_neg]; omega⟩
theorem ker_scl {m : Nat → Nat → Int} {n w r : Nat} {x : Int} {v : Nat → Int} (hx : ¬ P ∣ x) (h : Ker (scl m r x) n w v) : Ker m n w v := by
  intro i hi
  have h1 := h i hi
  by_cases e : i = r
  · subst e
    simp only [scl, if_pos] at h1
    have h2 : P ∣ sumN w (fun j => x * (m i j * v j)) := (sum_cong (fun j _ => by
      have h3 := Int.dvd_mul_of_dvd_left (c := v j) (emod_cong (m i j * x))
      rw [Int.sub_mul] at h3
      rwa [show times (m i j) x * v j - x * (m i j * v j) = m i j * x % P * v j - m i j * x * v j by
        unfold times; rw [← Int.mul_assoc, Int.mul_comm x (m i j)]])).1 h1
    rw [sumN_mul] at h2
    exact (prime_dvd h2).resolve_left hx
  · simpa only [scl, if_neg e] using h1
theorem ker_elm {m : Nat → Nat → Int} {n w r k : Nat} {v : Nat → Int} (hr : r < n) (h : Ker (elm m r k) n w v) : Ker m n w v := by
  have hrr : P ∣ sumN w (fun j => m r j * v j) := by simpa only [elm, if_pos] using h r hr
  intro i hi
  have h1 := h i hi
  by_cases e : i = r
  · exact e ▸ hrr
  · simp only [elm, if_neg e] at h1
    have h2 : P ∣ sumN w (fun j => m i j * v j - m i k * (m r j * v j)) := (sum_cong (fun j _ => by
      have h3 : P ∣ (m i j - times (m i k) (m r j)) % P * v j - (m i j - times (m i k) (m r j)) * v j := by
        rw [← Int.sub_mul]; exact Int.dvd_mul_of_dvd_left (c := v j) (emod_cong (m i j - times (m i k) (m r j)))
      have h4 : P ∣ m i k * m r j % P * v j - m i k * m r j * v j := by
        rw [← Int.sub_mul]; exact Int.dvd_mul_of_dvd_left (c := v j) (emod_cong (m i k * m r j))
      have h5 := Int.dvd_sub h3 h4
      rw [show minus (m i j) (times (m i k) (m r j)) * v j - (m i j * v j - m i k * (m r j * v j)) = (m i j - times (m i k) (m r j)) % P * v j - (m i j - times (m i k) (m r j)) * v j - (m i k * m r j % P * v j - m i k * m r j * v j) by
        unfold minus times
        rw [Int.sub_mul (m i j), ← Int.mul_assoc (m i k)]
        omega]
      exact h5)).1 h1
    rw [sumN_sub, sumN_mul] at h2
    have h3 := Int.dvd_add h2 (Int.dvd_mul_of_dvd_right (b := m i k) hrr)
    rwa [Int.sub_add_cancel] at h3
theorem ker_swp {m : Nat → Nat → Int} {n w i r : Nat} {v : Nat → Int} (hi : i < n) (hr : r < n) (h : Ker (swp m i r) n w v) : Ker m n w v := by
  intro a ha
  by_cases e : a = i
  · subst e
    simpa only [swp, if_pos] using h r hr
  · by_cases e2 : a = r
    · subst e2
      have := h i hi
      simp only [swp] at this
      rw [if_neg (fun e' => e e'.symm)] at this
      simpa using this
    · have := h a ha
      simpa only [swp, if_neg e, if_neg e2] using this
/-- The invariant: the first k columns are unit columns, the kernel is no greater than it was, the entries are numbers. -/
structure Inv (n W : Nat) (m0 m : Nat → Nat → Int) (k : Nat) : Prop where
  unit : ∀ i j, i < n → j < k → m i j = if i = j then 1 else 0
  ker : ∀ w x, w ≤ W → Ker m n w x → Ker m0 n w x
  num : ∀ i j, i < n → j < W → num (m i j)
theorem not_mod {a : Int} (h : num a) (h0 : a ≠ 0) : a % P ≠ 0 := by rw [res_of_num h]; exact h0
theorem inv_not {a : Int} (h : a % P ≠ 0) : ¬ P ∣ inv a := by
  intro hd
  have h1 := mul_inv h
  have h2 : (a * inv a) % P = 0 := Int.emod_eq_zero_of_dvd (Int.dvd_mul_of_dvd_right hd)
  rw [h2] at h1
  cases h1
theorem times_zero_l (x : Int) : times 0 x = 0 := by unfold times; rw [Int.zero_mul]; rfl
theorem times_zero_r (x : Int) : times x 0 = 0 := by unfold times; rw [Int.mul_zero]; rfl
theorem minus_zero {x : Int} (h : num x) : minus x 0 = x := by unfold minus; rw [Int.sub_zero]; exact res_of_num h
theorem num_swp {m : Nat → Nat → Int} {n W i r : Nat} (h : ∀ i j, i < n → j < W → num (m i j)) (hi : i < n) (hr : r < n) : ∀ a j, a < n → j < W → num (swp m i r a j) := by
  intro a j ha hj
  unfold swp
  split
  · exact h i j hi hj
  · split
    · exact h r j hr hj
    · exact h a j ha hj
/-- One column more. -/
theorem Inv.step {n W k i : Nat} {m0 m : Nat → Nat → Int} (h : Inv n W m0 m k) (hk : k < n) (hnW : n ≤ W) (hi : k ≤ i) (hin : i < n) (h0 : m i k ≠ 0) :
    Inv n W m0 (elm (scl (swp m i k) k (inv (m i k))) k k) (k + 1) := by
  have hm := not_mod (h.num i k hin (by omega)) h0
  have hS : ∀ j, scl (swp m i k) k (inv (m i k)) k j = times (m i j) (inv (m i k)) := by
    intro j
    simp [scl, swp]
  have hA : ∀ a j, a ≠ k → scl (swp m i k) k (inv (m i k)) a j = swp m i k a j := by
    intro a j ha
    simp [scl, ha]
  have hN := num_swp h.num hin hk
  refine ⟨fun a j ha hj => ?_, fun w x hw hK => h.ker w x hw (ker_swp hin hk (ker_scl (inv_not hm) (ker_elm hk hK))), fun a j ha hj => ?_⟩
  · -- unit columns
    have hrow : ∀ j, j < k → scl (swp m i k) k (inv (m i k)) k j = 0 := by
      intro j hj
      rw [hS, h.unit i j hin hj, if_neg (by omega), times_zero_l]
    have hpiv : scl (swp m i k) k (inv (m i k)) k k = 1 := by rw [hS]; exact mul_inv hm
    by_cases e : a = k
    · subst e
      simp only [elm, if_pos]
      by_cases ej : j = a
      · subst ej; rw [hpiv, if_pos rfl]
      · rw [hrow j (by omega), if_neg (fun e => ej e.symm)]
    · simp only [elm, if_neg e]
      rw [hA a j e, hA a k e]
      by_cases ej : j = k
      · subst ej
        rw [hpiv, if_neg e]
        unfold minus times
        rw [Int.mul_one, sub_r, Int.sub_self]; rfl
      · rw [hrow j (by omega), times_zero_r, minus_zero (hN a j ha (by omega))]
        simp only [swp, if_neg e]
        by_cases ea : a = i
        · subst ea
          rw [if_pos rfl, h.unit k j hk (by omega), if_neg (by omega), if_neg (by omega)]
        · rw [if_neg ea, h.unit a j ha (by omega)]
  · by_cases e : a = k
    · subst e
      simp only [elm, if_pos]
      rw [hS]; exact num_times _ _
    · simp only [elm, if_neg e]; exact num_minus _ _
/-- Where a column has no pivot the kernel is not trivial. -/
theorem Inv.pivot {n W k : Nat} {m0 m : Nat → Nat → Int} (h : Inv n W m0 m k) (hk : k < n) (hnW : n ≤ W) (ht : ∀ x, Ker m0 n n x → ∀ j, j < n → P ∣ x j) : ∃ a, k ≤ a ∧ a < n ∧ m a k ≠ 0 := by
  refine Classical.byContradiction fun hno => ?_
  have hz : ∀ a, k ≤ a → a < n → m a k = 0 := fun a h1 h2 => Classical.byContradiction fun h3 => hno ⟨a, h1, h2, h3⟩
  have h1 := ht (fun j => if j = k then 1 else if j < k then -(m j k) else 0) (h.ker n _ hnW (fun i hi => by
    by_cases hik : i < k
    · rw [sumN_congr (g := fun j => (if j = k then m i k else 0) + (if j = i then -(m i k) else 0)) (fun j hj => by
        by_cases e : j = k
        · subst e; simp; omega
        · by_cases e2 : j < k
          · simp only [if_neg e, if_pos e2]
            rw [h.unit i j hi e2]
            by_cases e3 : i = j
            · subst e3; simp
            · simp [e3]; intro e4; exact absurd e4.symm e3
          · simp [e, e2]; omega)]
      rw [sumN_add, sumN_one hk (fun j _ hn => by simp [hn]), sumN_one hi (fun j _ hn => by simp [hn])]
      simp
      rw [Int.add_right_neg]; exact Int.dvd_zero _
    · rw [sumN_zero (fun j hj => by
        by_cases e : j = k
        · subst e; rw [hz i (by omega) hi, Int.zero_mul]
        · by_cases e2 : j < k
          · rw [h.unit i j hi e2, if_neg (by omega), Int.zero_mul]
          · simp [e, e2])]
      exact Int.dvd_zero _)) k hk
  simp at h1
  revert h1
  decide
theorem red_succ (n c : Nat) (m : Nat → Nat → Int) : red n (c + 1) m = col n (red n c m) c := by
  unfold red
  rw [List.range_succ, List.foldl_append]
  rfl
/-- A trivial kernel: every column has its pivot in its own row. -/
theorem red_full {n W : Nat} {m0 : Nat → Nat → Int} (hnW : n ≤ W) (hN : ∀ i j, i < n → j < W → num (m0 i j)) (ht : ∀ x, Ker m0 n n x → ∀ j, j < n → P ∣ x j) :
    ∀ k, k ≤ n → Inv n W m0 (red n k m0).1 k ∧ (red n k m0).2 = List.range k
  | 0, _ => ⟨⟨fun i j _ hj => absurd hj (Nat.not_lt_zero _), fun _ _ _ h => h, hN⟩, rfl⟩
  | k + 1, hk => by
    obtain ⟨hI, hP⟩ := red_full hnW hN ht k (by omega)
    have hl : (red n k m0).2.length = k := by rw [hP]; simp
    obtain ⟨a, a1, a2, a3⟩ := hI.pivot (by omega) hnW ht
    have hge := seek_ge (red n k m0).1 k (n - k) k
    have hlt : seek (red n k m0).1 k k (n - k) < n := by
      refine Classical.byContradiction fun hno => a3 (seek_none (red n k m0).1 k (n - k) k (by omega) a a1 (by omega))
    have hne := seek_found (red n k m0).1 k (n - k) k (by omega)
    rw [red_succ]
    unfold col
    rw [hl, if_pos hlt]
    exact ⟨hI.step (by omega) hnW hge.1 hlt hne, by rw [hP, List.range_succ]⟩
/-- The solution solves. -/
theorem red_solves {n : Nat} {m0 : Nat → Nat → Int} (hN : ∀ i j, i < n → j < n + 1 → num (m0 i j)) (ht : ∀ x, Ker m0 n n x → ∀ j, j < n → P ∣ x j) :
    ∀ i, i < n → P ∣ sumN n (fun j => m0 i j * (red n n m0).1 j n) - m0 i n := by
  obtain ⟨hI, _⟩ := red_full (Nat.le_succ n) hN ht n (Nat.le_refl _)
  intro i hi
  have h := hI.ker (n + 1) (fun j => if j < n then (red n n m0).1 j n else -1) (Nat.le_refl _) (fun a ha => by
    simp only [sumN]
    rw [sumN_congr (g := fun j => if j = a then (red n n m0).1 a n else 0) (fun j hj => by
      rw [hI.unit a j ha hj, if_pos hj]
      by_cases e : a = j
      · subst e; simp
      · rw [if_neg e, if_neg (fun e' => e e'.symm), Int.zero_mul])]
    rw [sumN_one ha (fun j _ hn => if_neg hn), if_pos rfl, if_neg (Nat.lt_irrefl n)]
    rw [show (red n n m0).1 a n + (red n n m0).1 a n * -1 = 0 by omega]
    exact Int.dvd_zero _) i hi
  simp only [sumN] at h
  rw [sumN_congr (g := fun j => m0 i j * (red n n m0).1 j n) (fun j hj => by rw [if_pos hj]), if_neg (Nat.lt_irrefl n)] at h
  rwa [show ∀ x y : Int, x + y * -1 = x - y from fun x y => by omega] at h
/-- The rows of powers. -/
def pws (c : Nat → Int) (n : Nat) (g : Nat → Int) : Nat → Nat → Int := fun i j => if j = n then g i else powr (c j) i
theorem pws_ker {c g : Nat → Int} {n : Nat} (hd : ∀ i j, i < n → j < n → i ≠ j → ¬ P ∣ c i - c j) : ∀ x, Ker (pws c n g) n n x → ∀ j, j < n → P ∣ x j := by
  intro x hK
  refine van (c := c) (fun k hk => ?_) hd
  refine (sum_cong (fun j hj => ?_)).1 (hK k hk)
  unfold pws
  rw [if_neg (by omega)]
  have h3 := Int.dvd_mul_of_dvd_left (c := x j) (emod_cong (c j ^ k))
  rw [Int.sub_mul] at h3
  rwa [show powr (c j) (k : Int) = c j ^ k % P by unfold powr; rw [if_neg (by omega), Int.toNat_natCast]]
theorem num_diff {a b : Int} (ha : num a) (hb : num b) (h : a ≠ b) : ¬ P ∣ a - b := by
  intro hd
  have h1 := Int.emod_emod_of_dvd a (Int.dvd_refl P)
  have := Int.emod_eq_emod_iff_emod_sub_eq_zero.2 (Int.emod_eq_zero_of_dvd hd)
  rw [res_of_num ha, res_of_num hb] at this
  exact h this
end Go.Proofs.Ythebegfceaehfaa.Sol
