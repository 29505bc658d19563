/- Plain numbers: the field of residues modulo the prime 1000000271, with no program in sight. -/
namespace Go.Proofs.Ytekojohhjnklkaa.M
/-! Fermat's little theorem, for the prime 1000000271 -/
def C : Nat → Nat → Nat
  | _, 0 => 1
  | 0, _ + 1 => 0
  | n + 1, k + 1 => C n k + C n (k + 1)

theorem C_zero (n : Nat) : C n 0 = 1 := by cases n <;> rfl

theorem absorb : ∀ (n k : Nat), (k + 1) * C (n + 1) (k + 1) = (n + 1) * C n k
  | 0, 0 => by simp [C]
  | 0, k + 1 => by simp [C]
  | m + 1, 0 => by
    have h := absorb m 0
    simp only [C, C_zero] at h ⊢
    omega
  | m + 1, j + 1 => by
    have h1 := absorb m (j + 1)
    have h2 := absorb m j
    have e1 : C (m + 1 + 1) (j + 1 + 1) = C (m + 1) (j + 1) + C (m + 1) (j + 1 + 1) := rfl
    have e2 : C (m + 1) (j + 1) = C m j + C m (j + 1) := rfl
    rw [e1, Nat.mul_add, h1]
    have e3 : (j + 1 + 1) * C (m + 1) (j + 1) = (j + 1) * C (m + 1) (j + 1) + C (m + 1) (j + 1) := by
      rw [Nat.add_mul (j + 1) 1, Nat.one_mul]
    rw [e3, h2]
    have e4 : (m + 1) * C m j + (m + 1) * C m (j + 1) = (m + 1) * C (m + 1) (j + 1) := by rw [e2, Nat.mul_add]
    have e5 : (m + 1 + 1) * C (m + 1) (j + 1) = (m + 1) * C (m + 1) (j + 1) + C (m + 1) (j + 1) := by
      rw [Nat.add_mul (m + 1) 1, Nat.one_mul]
    omega

theorem C_self : ∀ n, C n n = 1 ∧ C n (n + 1) = 0 ∧ ∀ k, C n (n + 1 + k) = 0
  | 0 => ⟨rfl, rfl, fun k => by rw [Nat.add_comm]; rfl⟩
  | n + 1 => by
    have ⟨h1, h2, h3⟩ := C_self n
    have a : C (n + 1) (n + 1) = C n n + C n (n + 1) := rfl
    have b : C (n + 1) (n + 1 + 1) = C n (n + 1) + C n (n + 1 + 1) := rfl
    refine ⟨by rw [a, h1, h2], by rw [b, h2]; have := h3 1; omega, fun k => ?_⟩
    have c : C (n + 1) (n + 1 + 1 + k) = C n (n + 1 + k) + C n (n + 1 + k + 1) := by
      rw [show n + 1 + 1 + k = n + 1 + k + 1 by omega]; rfl
    rw [c, h3 k]
    have := h3 (k + 1)
    rw [show n + 1 + (k + 1) = n + 1 + k + 1 by omega] at this
    omega

def T (n x : Nat) : Nat → Nat
  | 0 => 1
  | m + 1 => T n x m + C n (m + 1) * x ^ (m + 1)

theorem T_succ (n x : Nat) : ∀ m, T (n + 1) x (m + 1) = T n x (m + 1) + x * T n x m
  | 0 => by
    have h : C (n + 1) 1 = C n 0 + C n 1 := rfl
    simp only [T, h, C_zero, Nat.add_mul, Nat.pow_one, Nat.zero_add, Nat.mul_one, Nat.one_mul]
    omega
  | m + 1 => by
    have ih := T_succ n x m
    have h : C (n + 1) (m + 1 + 1) = C n (m + 1) + C n (m + 1 + 1) := rfl
    have e1 : T (n + 1) x (m + 1 + 1) = T (n + 1) x (m + 1) + C (n + 1) (m + 1 + 1) * x ^ (m + 1 + 1) := rfl
    have e2 : T n x (m + 1 + 1) = T n x (m + 1) + C n (m + 1 + 1) * x ^ (m + 1 + 1) := rfl
    have e3 : T n x (m + 1) = T n x m + C n (m + 1) * x ^ (m + 1) := rfl
    have e4 : x * (C n (m + 1) * x ^ (m + 1)) = C n (m + 1) * x ^ (m + 1 + 1) := by
      rw [Nat.pow_succ x (m + 1)]; rw [Nat.mul_left_comm, Nat.mul_comm x]
    rw [e1, ih, h, Nat.add_mul, e2, e3, Nat.mul_add, e4]
    omega

theorem pow_T (x : Nat) : ∀ (n m : Nat), n ≤ m → (x + 1) ^ n = T n x m
  | 0, m, _ => by
    induction m with
    | zero => rfl
    | succ m ih => rw [T, ← ih (Nat.zero_le _)]; simp [C]
  | n + 1, 0, h => by omega
  | n + 1, m + 1, h => by
    rw [T_succ, ← pow_T x n (m + 1) (by omega), ← pow_T x n m (by omega), Nat.pow_succ, Nat.mul_add, Nat.mul_one, Nat.mul_comm]
    omega

structure Prm (P : Nat) : Prop where
  two : 2 ≤ P
  dv : ∀ a b, P ∣ a * b → P ∣ a ∨ P ∣ b

theorem T_mod {P : Nat} (hP : Prm P) (x : Nat) : ∀ m, m < P → T P x m % P = 1 % P
  | 0, _ => rfl
  | m + 1, h => by
    have ih := T_mod hP x m (by omega)
    obtain ⟨q, rfl⟩ : ∃ q, P = q + 1 := ⟨P - 1, by have := hP.two; omega⟩
    have ha := absorb q m
    have hd : (q + 1) ∣ (m + 1) * C (q + 1) (m + 1) := ⟨_, ha⟩
    rcases hP.dv _ _ hd with h1 | h1
    · exact absurd (Nat.le_of_dvd (by omega) h1) (by omega)
    · obtain ⟨t, ht⟩ := h1
      rw [T, ht, Nat.mul_assoc, Nat.add_mul_mod_self_left]
      exact ih

theorem flt_succ {P : Nat} (hP : Prm P) (x : Nat) : (x + 1) ^ P % P = (x ^ P + 1) % P := by
  obtain ⟨q, hq⟩ : ∃ q, P = q + 1 := ⟨P - 1, by have := hP.two; omega⟩
  rw [pow_T x P P (Nat.le_refl _)]
  have h : T P x P = T P x q + x ^ P := by
    have : T P x (q + 1) = T P x q + C P (q + 1) * x ^ (q + 1) := rfl
    rw [← hq, (C_self P).1, Nat.one_mul] at this
    exact this
  rw [h, Nat.add_mod, T_mod hP x q (by omega), ← Nat.add_mod, Nat.add_comm]

theorem flt {P : Nat} (hP : Prm P) : ∀ x, x ^ P % P = x % P
  | 0 => by rw [Nat.zero_pow (by have := hP.two; omega)]
  | x + 1 => by
    rw [flt_succ hP, Nat.add_mod, flt hP x, ← Nat.add_mod]

/-! 1000000271 is prime -/
def noDiv (n : Nat) : Nat → Nat → Bool
  | 0, _ => true
  | f+1, d => n % d != 0 && noDiv n f (d+1)

theorem noDiv_spec (n : Nat) : ∀ (f d : Nat), noDiv n f d = true → ∀ k, d ≤ k → k < d + f → n % k ≠ 0
  | 0, d, _, k, h1, h2 => by omega
  | f+1, d, h, k, h1, h2 => by
    simp only [noDiv, Bool.and_eq_true, bne_iff_ne] at h
    by_cases e : k = d
    · subst e; exact h.1
    · exact noDiv_spec n f (d+1) h.2 k (by omega) (by omega)
theorem cert : noDiv 1000000271 31700 2 = true := by decide +kernel

theorem no_small : ∀ d, 2 ≤ d → d < 1000000271 → ¬ d ∣ 1000000271 := by
  intro d h1 h2 ⟨q, hq⟩
  have hs := noDiv_spec 1000000271 31700 2 cert
  by_cases hd : d < 31702
  · exact hs d h1 (by omega) (by rw [hq]; exact Nat.mul_mod_right _ _)
  · have hq2 : q < 31702 := by
      rcases Nat.lt_or_ge q 31702 with h | h
      · exact h
      · have : 31702 * 31702 ≤ d * q := Nat.mul_le_mul (by omega) h
        omega
    have hq1 : 2 ≤ q := by
      rcases q with _ | _ | q
      · omega
      · omega
      · omega
    exact hs q hq1 (by omega) (by rw [hq]; exact Nat.mul_mod_left _ _)

theorem prm : Prm 1000000271 := by
  refine ⟨by omega, fun a b h => ?_⟩
  have hg : Nat.gcd 1000000271 a ∣ 1000000271 := Nat.gcd_dvd_left _ _
  have hle := Nat.le_of_dvd (by omega) hg
  by_cases h1 : Nat.gcd 1000000271 a = 1
  · exact .inr (Nat.Coprime.dvd_of_dvd_mul_left h1 h)
  · by_cases h2 : Nat.gcd 1000000271 a = 1000000271
    · exact .inl (h2 ▸ Nat.gcd_dvd_right 1000000271 a)
    · have h0 : Nat.gcd 1000000271 a ≠ 0 := fun e => by rw [e] at hg; have := Nat.eq_zero_of_zero_dvd hg; omega
      exact absurd hg (no_small _ (by omega) (by omega))

abbrev P : Int := 1000000271
def res (n : Int) : Int := n % P
def plus (a b : Int) : Int := (a + b) % P
def minus (a b : Int) : Int := (a - b) % P
def times (a b : Int) : Int := (a * b) % P
def powr (a k : Int) : Int := if k < 0 then 0 else a ^ k.toNat % P
def inv (a : Int) : Int := powr a 1000000269
def frac (a b : Int) : Int := times a (inv b)
def num (n : Int) : Prop := 0 ≤ n ∧ n < P
instance (n : Int) : Decidable (num n) := inferInstanceAs (Decidable (_ ∧ _))

theorem emod_lo (a : Int) : 0 ≤ a % P := Int.emod_nonneg _ (by decide)
theorem emod_hi (a : Int) : a % P < P := Int.emod_lt_of_pos _ (by decide)
theorem num_emod (a : Int) : num (a % P) := ⟨emod_lo a, emod_hi a⟩
theorem num_res (a : Int) : num (res a) := num_emod _
theorem num_plus (a b : Int) : num (plus a b) := num_emod _
theorem num_minus (a b : Int) : num (minus a b) := num_emod _
theorem num_times (a b : Int) : num (times a b) := num_emod _
theorem num_powr (a k : Int) : num (powr a k) := by
  unfold powr
  split
  · exact ⟨Int.le_refl _, by decide⟩
  · exact num_emod _
theorem num_inv (a : Int) : num (inv a) := num_powr _ _
theorem num_frac (a b : Int) : num (frac a b) := num_times _ _
theorem res_of_num {a : Int} (h : num a) : a % P = a := Int.emod_eq_of_lt h.1 h.2

/-! congruence: work with '% P' pushed outward -/
theorem add_l (a b : Int) : (a % P + b) % P = (a + b) % P := Int.emod_add_emod _ _ _
theorem add_r (a b : Int) : (a + b % P) % P = (a + b) % P := Int.add_emod_emod _ _ _
theorem sub_l (a b : Int) : (a % P - b) % P = (a - b) % P := Int.emod_sub_emod _ _ _
theorem sub_r (a b : Int) : (a - b % P) % P = (a - b) % P := Int.sub_emod_emod _ _ _
theorem mul_l (a b : Int) : (a % P * b) % P = (a * b) % P := by rw [Int.mul_emod, Int.emod_emod, ← Int.mul_emod]
theorem mul_r (a b : Int) : (a * (b % P)) % P = (a * b) % P := by rw [Int.mul_emod, Int.emod_emod, ← Int.mul_emod]
theorem mod_mod (a : Int) : a % P % P = a % P := Int.emod_emod _ _
theorem add_P (a : Int) : (a + P) % P = a % P := Int.add_emod_right a P
theorem pow_l (a : Int) : ∀ n : Nat, (a % P) ^ n % P = a ^ n % P
  | 0 => by rw [Int.pow_zero, Int.pow_zero]
  | n + 1 => by rw [Int.pow_succ, Int.pow_succ, mul_r, ← mul_l, pow_l a n, mul_l]

theorem plus_res (a b : Int) : plus (res a) (res b) = plus a b := by unfold plus res; rw [add_l, add_r]
theorem times_res (a b : Int) : times (res a) (res b) = times a b := by unfold times res; rw [mul_l, mul_r]
theorem minus_res (a b : Int) : minus (res a) (res b) = minus a b := by unfold minus res; rw [sub_l, sub_r]

/-- one round of the loop of Power -/
theorem pow_step (o x : Int) (k : Nat) : (o * x ^ k) % P = ((if k % 2 = 1 then o * x % P else o) * (x * x % P) ^ (k / 2)) % P := by
  have e : x ^ k = (if k % 2 = 1 then x else 1) * (x * x) ^ (k / 2) := by
    have h2 : (x * x) ^ (k / 2) = x ^ (2 * (k / 2)) := by
      rw [Int.pow_mul]
      congr 1
      rw [show (2 : Nat) = 1 + 1 from rfl, Int.pow_succ, Int.pow_succ, Int.pow_zero, Int.one_mul]
    rw [h2]
    split
    · rename_i h
      have : 2 * (k / 2) + 1 = k := by omega
      rw [Int.mul_comm, ← Int.pow_succ]
      exact congrArg (x ^ ·) this.symm
    · have : k = 2 * (k / 2) := by omega
      rw [Int.one_mul, ← this]
  rw [e]
  rw [← mul_r _ ((x * x % P) ^ (k / 2)), pow_l, mul_r]
  split
  · rw [mul_l, Int.mul_assoc]
  · rw [Int.one_mul]

theorem flt_int (a : Int) : a ^ 1000000271 % P = a % P := by
  have h0 : ∃ n : Nat, (n : Int) % P = a % P := by
    refine ⟨(a % P).toNat, ?_⟩
    rw [Int.toNat_of_nonneg (emod_lo a), mod_mod]
  obtain ⟨n, hn⟩ := h0
  rw [← pow_l, ← hn, pow_l]
  have := flt prm n
  have h := congrArg (fun x : Nat => (x : Int)) this
  simp only [Int.natCast_emod, Int.natCast_pow] at h
  exact h

theorem dvd_mul {a b : Int} (h : (a * b) % P = 0) : a % P = 0 ∨ b % P = 0 := by
  have hd : P ∣ a * b := Int.dvd_of_emod_eq_zero h
  have h1 : (1000000271 : Nat) ∣ a.natAbs * b.natAbs := by
    rw [← Int.natAbs_mul]
    exact Int.natAbs_dvd_natAbs.2 hd
  rcases prm.dv _ _ h1 with h2 | h2
  · exact .inl (Int.emod_eq_zero_of_dvd (Int.natAbs_dvd_natAbs.1 h2))
  · exact .inr (Int.emod_eq_zero_of_dvd (Int.natAbs_dvd_natAbs.1 h2))

theorem mul_inv {a : Int} (h : a % P ≠ 0) : (a * inv a) % P = 1 := by
  have hf := flt_int a
  unfold inv powr
  rw [if_neg (by omega), mul_r]
  have e : (1000000269 : Int).toNat = 1000000269 := rfl
  rw [e]
  have h1 : (a * (a * a ^ 1000000269 - 1)) % P = 0 := by
    rw [Int.mul_sub, Int.mul_one]
    have e3 : ∀ n : Nat, a * (a * a ^ n) = a ^ (n + 2) := fun n => by
      rw [show n + 2 = n + 1 + 1 from rfl, Int.pow_succ, Int.pow_succ, Int.mul_comm a (a ^ n), Int.mul_comm a]
    have e2 := e3 1000000269
    rw [e2, ← sub_l, show (1000000269 + 2 : Nat) = 1000000271 from rfl, hf, sub_l, Int.sub_self]
    rfl
  rcases dvd_mul h1 with h2 | h2
  · exact absurd h2 h
  · have : (a * a ^ 1000000269) % P = ((a * a ^ 1000000269 - 1) + 1) % P := by congr 1; omega
    rw [this, ← add_l, h2]
    rfl

/-- IsNumber -/
def isNum (n : Int) : Bool := decide (num n)
theorem isNum_true {n : Int} (h : num n) : isNum n = true := decide_eq_true h
theorem isNum_false {n : Int} (h : ¬ num n) : isNum n = false := decide_eq_false h
theorem num_of_isNum {n : Int} (h : isNum n = true) : num n := of_decide_eq_true h
/-- allNumbers -/
def allNum (l : List Int) : Bool := l.all isNum
theorem allNum_mem {l : List Int} (h : allNum l = true) : ∀ x ∈ l, num x := fun x hx => num_of_isNum (List.all_eq_true.1 h x hx)
theorem allNum_of {l : List Int} (h : ∀ x ∈ l, num x) : allNum l = true := List.all_eq_true.2 fun x hx => isNum_true (h x hx)

theorem powr_res (a k : Int) : powr (res a) k = powr a k := by
  unfold powr
  split
  · rfl
  · exact pow_l a _

/-- SquareRoot -/
def sqRoot (a : Int) : Int := powr a 250000068
def sqOk (a : Int) : Bool := decide (times (sqRoot a) (sqRoot a) = res a)
def sqVal (a : Int) : Int := if sqOk a then min (sqRoot a) (res (-(sqRoot a))) else 0
theorem num_sqVal (a : Int) : num (sqVal a) := by
  unfold sqVal
  split
  · rcases Int.le_total (sqRoot a) (res (-(sqRoot a))) with h | h
    · rw [Int.min_eq_left h]; exact num_powr _ _
    · rw [Int.min_eq_right h]; exact num_res _
  · exact ⟨Int.le_refl _, by decide⟩
/-- CubeRoot -/
def cbRoot (a : Int) : Int := powr a 666666847
/-- 1 divided by 2 less the cube root of 2 -/
def jump : Int := inv (minus 2 (cbRoot 2))
/-- the sum of a list of numbers -/
def sumL (l : List Int) : Int := l.foldl plus 0
def dotL (a b : List Int) : Int := (a.zip b).foldl (fun n x => plus n (times x.1 x.2)) 0
end Go.Proofs.Ytekojohhjnklkaa.M
