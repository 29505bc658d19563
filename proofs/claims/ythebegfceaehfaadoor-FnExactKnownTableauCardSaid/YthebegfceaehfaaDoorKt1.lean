/- Merged texts: Num, FmtL, Base, Mem. -/
import Derived.Test.YthebegfceaehfaaDoorRows
import Derived.WalkKit
import Derived.ProofKit
import Derived.Handy
import Derived.Outline
/- Num: Plain numbers: the field of residues modulo the prime 1000000271, with no program in sight. -/
namespace Go.Proofs.YthebegfceaehfaaDoor.M
/-! Fermat's little theorem, for the prime 1000000271 -/
def C : Nat → Nat → Nat
  | _, 0 => 1
  | 0, _ + 1 => 0
  | n + 1, k + 1 => C n k + C n (k + 1)

theorem C_zero (n : Nat) : C n 0 = 1 := by cases n <;> rfl

theorem absorb : ∀ (n k : Nat), (k + 1) * C (n + 1) (k + 1) = (n + 1) * C n k
  | 0, 0 => by simp [C]
  | 0, k + 1 => by simp [C]
  | m + 1, 0 => by
    have h := absorb m 0
    simp only [C, C_zero] at h ⊢
    omega
  | m + 1, j + 1 => by
    have h1 := absorb m (j + 1)
    have h2 := absorb m j
    have e1 : C (m + 1 + 1) (j + 1 + 1) = C (m + 1) (j + 1) + C (m + 1) (j + 1 + 1) := rfl
    have e2 : C (m + 1) (j + 1) = C m j + C m (j + 1) := rfl
    rw [e1, Nat.mul_add, h1]
    have e3 : (j + 1 + 1) * C (m + 1) (j + 1) = (j + 1) * C (m + 1) (j + 1) + C (m + 1) (j + 1) := by
      rw [Nat.add_mul (j + 1) 1, Nat.one_mul]
    rw [e3, h2]
    have e4 : (m + 1) * C m j + (m + 1) * C m (j + 1) = (m + 1) * C (m + 1) (j + 1) := by rw [e2, Nat.mul_add]
    have e5 : (m + 1 + 1) * C (m + 1) (j + 1) = (m + 1) * C (m + 1) (j + 1) + C (m + 1) (j + 1) := by
      rw [Nat.add_mul (m + 1) 1, Nat.one_mul]
    omega

theorem C_self : ∀ n, C n n = 1 ∧ C n (n + 1) = 0 ∧ ∀ k, C n (n + 1 + k) = 0
  | 0 => ⟨rfl, rfl, fun k => by rw [Nat.add_comm]; rfl⟩
  | n + 1 => by
    have ⟨h1, h2, h3⟩ := C_self n
    have a : C (n + 1) (n + 1) = C n n + C n (n + 1) := rfl
    have b : C (n + 1) (n + 1 + 1) = C n (n + 1) + C n (n + 1 + 1) := rfl
    refine ⟨by rw [a, h1, h2], by rw [b, h2]; have := h3 1; omega, fun k => ?_⟩
    have c : C (n + 1) (n + 1 + 1 + k) = C n (n + 1 + k) + C n (n + 1 + k + 1) := by
      rw [show n + 1 + 1 + k = n + 1 + k + 1 by omega]; rfl
    rw [c, h3 k]
    have := h3 (k + 1)
    rw [show n + 1 + (k + 1) = n + 1 + k + 1 by omega] at this
    omega

def T (n x : Nat) : Nat → Nat
  | 0 => 1
  | m + 1 => T n x m + C n (m + 1) * x ^ (m + 1)

theorem T_succ (n x : Nat) : ∀ m, T (n + 1) x (m + 1) = T n x (m + 1) + x * T n x m
  | 0 => by
    have h : C (n + 1) 1 = C n 0 + C n 1 := rfl
    simp only [T, h, C_zero, Nat.add_mul, Nat.pow_one, Nat.zero_add, Nat.mul_one, Nat.one_mul]
    omega
  | m + 1 => by
    have ih := T_succ n x m
    have h : C (n + 1) (m + 1 + 1) = C n (m + 1) + C n (m + 1 + 1) := rfl
    have e1 : T (n + 1) x (m + 1 + 1) = T (n + 1) x (m + 1) + C (n + 1) (m + 1 + 1) * x ^ (m + 1 + 1) := rfl
    have e2 : T n x (m + 1 + 1) = T n x (m + 1) + C n (m + 1 + 1) * x ^ (m + 1 + 1) := rfl
    have e3 : T n x (m + 1) = T n x m + C n (m + 1) * x ^ (m + 1) := rfl
    have e4 : x * (C n (m + 1) * x ^ (m + 1)) = C n (m + 1) * x ^ (m + 1 + 1) := by
      rw [Nat.pow_succ x (m + 1)]; rw [Nat.mul_left_comm, Nat.mul_comm x]
    rw [e1, ih, h, Nat.add_mul, e2, e3, Nat.mul_add, e4]
    omega

theorem pow_T (x : Nat) : ∀ (n m : Nat), n ≤ m → (x + 1) ^ n = T n x m
  | 0, m, _ => by
    induction m with
    | zero => rfl
    | succ m ih => rw [T, ← ih (Nat.zero_le _)]; simp [C]
  | n + 1, 0, h => by omega
  | n + 1, m + 1, h => by
    rw [T_succ, ← pow_T x n (m + 1) (by omega), ← pow_T x n m (by omega), Nat.pow_succ, Nat.mul_add, Nat.mul_one, Nat.mul_comm]
    omega

structure Prm (P : Nat) : Prop where
  two : 2 ≤ P
  dv : ∀ a b, P ∣ a * b → P ∣ a ∨ P ∣ b

theorem T_mod {P : Nat} (hP : Prm P) (x : Nat) : ∀ m, m < P → T P x m % P = 1 % P
  | 0, _ => rfl
  | m + 1, h => by
    have ih := T_mod hP x m (by omega)
    obtain ⟨q, rfl⟩ : ∃ q, P = q + 1 := ⟨P - 1, by have := hP.two; omega⟩
    have ha := absorb q m
    have hd : (q + 1) ∣ (m + 1) * C (q + 1) (m + 1) := ⟨_, ha⟩
    rcases hP.dv _ _ hd with h1 | h1
    · exact absurd (Nat.le_of_dvd (by omega) h1) (by omega)
    · obtain ⟨t, ht⟩ := h1
      rw [T, ht, Nat.mul_assoc, Nat.add_mul_mod_self_left]
      exact ih

theorem flt_succ {P : Nat} (hP : Prm P) (x : Nat) : (x + 1) ^ P % P = (x ^ P + 1) % P := by
  obtain ⟨q, hq⟩ : ∃ q, P = q + 1 := ⟨P - 1, by have := hP.two; omega⟩
  rw [pow_T x P P (Nat.le_refl _)]
  have h : T P x P = T P x q + x ^ P := by
    have : T P x (q + 1) = T P x q + C P (q + 1) * x ^ (q + 1) := rfl
    rw [← hq, (C_self P).1, Nat.one_mul] at this
    exact this
  rw [h, Nat.add_mod, T_mod hP x q (by omega), ← Nat.add_mod, Nat.add_comm]

theorem flt {P : Nat} (hP : Prm P) : ∀ x, x ^ P % P = x % P
  | 0 => by rw [Nat.zero_pow (by have := hP.two; omega)]
  | x + 1 => by
    rw [flt_succ hP, Nat.add_mod, flt hP x, ← Nat.add_mod]

/-! 1000000271 is prime -/
def noDiv (n : Nat) : Nat → Nat → Bool
  | 0, _ => true
  | f+1, d => n % d != 0 && noDiv n f (d+1)

theorem noDiv_spec (n : Nat) : ∀ (f d : Nat), noDiv n f d = true → ∀ k, d ≤ k → k < d + f → n % k ≠ 0
  | 0, d, _, k, h1, h2 => by omega
  | f+1, d, h, k, h1, h2 => by
    simp only [noDiv, Bool.and_eq_true, bne_iff_ne] at h
    by_cases e : k = d
    · subst e; exact h.1
    · exact noDiv_spec n f (d+1) h.2 k (by omega) (by omega)
theorem cert : noDiv 1000000271 31700 2 = true := by decide +kernel

theorem no_small : ∀ d, 2 ≤ d → d < 1000000271 → ¬ d ∣ 1000000271 := by
  intro d h1 h2 ⟨q, hq⟩
  have hs := noDiv_spec 1000000271 31700 2 cert
  by_cases hd : d < 31702
  · exact hs d h1 (by omega) (by rw [hq]; exact Nat.mul_mod_right _ _)
  · have hq2 : q < 31702 := by
      rcases Nat.lt_or_ge q 31702 with h | h
      · exact h
      · have : 31702 * 31702 ≤ d * q := Nat.mul_le_mul (by omega) h
        omega
    have hq1 : 2 ≤ q := by
      rcases q with _ | _ | q
      · omega
      · omega
      · omega
    exact hs q hq1 (by omega) (by rw [hq]; exact Nat.mul_mod_left _ _)

theorem prm : Prm 1000000271 := by
  refine ⟨by omega, fun a b h => ?_⟩
  have hg : Nat.gcd 1000000271 a ∣ 1000000271 := Nat.gcd_dvd_left _ _
  have hle := Nat.le_of_dvd (by omega) hg
  by_cases h1 : Nat.gcd 1000000271 a = 1
  · exact .inr (Nat.Coprime.dvd_of_dvd_mul_left h1 h)
  · by_cases h2 : Nat.gcd 1000000271 a = 1000000271
    · exact .inl (h2 ▸ Nat.gcd_dvd_right 1000000271 a)
    · have h0 : Nat.gcd 1000000271 a ≠ 0 := fun e => by rw [e] at hg; have := Nat.eq_zero_of_zero_dvd hg; omega
      exact absurd hg (no_small _ (by omega) (by omega))

abbrev P : Int := 1000000271
def res (n : Int) : Int := n % P
def plus (a b : Int) : Int := (a + b) % P
def minus (a b : Int) : Int := (a - b) % P
def times (a b : Int) : Int := (a * b) % P
def powr (a k : Int) : Int := if k < 0 then 0 else a ^ k.toNat % P
def inv (a : Int) : Int := powr a 1000000269
def frac (a b : Int) : Int := times a (inv b)
def num (n : Int) : Prop := 0 ≤ n ∧ n < P
instance (n : Int) : Decidable (num n) := inferInstanceAs (Decidable (_ ∧ _))

theorem emod_lo (a : Int) : 0 ≤ a % P := Int.emod_nonneg _ (by decide)
theorem emod_hi (a : Int) : a % P < P := Int.emod_lt_of_pos _ (by decide)
theorem num_emod (a : Int) : num (a % P) := ⟨emod_lo a, emod_hi a⟩
theorem num_res (a : Int) : num (res a) := num_emod _
theorem num_plus (a b : Int) : num (plus a b) := num_emod _
theorem num_minus (a b : Int) : num (minus a b) := num_emod _
theorem num_times (a b : Int) : num (times a b) := num_emod _
theorem num_powr (a k : Int) : num (powr a k) := by
  unfold powr
  split
  · exact ⟨Int.le_refl _, by decide⟩
  · exact num_emod _
theorem num_inv (a : Int) : num (inv a) := num_powr _ _
theorem num_frac (a b : Int) : num (frac a b) := num_times _ _
theorem res_of_num {a : Int} (h : num a) : a % P = a := Int.emod_eq_of_lt h.1 h.2

/-! congruence: work with '% P' pushed outward -/
theorem add_l (a b : Int) : (a % P + b) % P = (a + b) % P := Int.emod_add_emod _ _ _
theorem add_r (a b : Int) : (a + b % P) % P = (a + b) % P := Int.add_emod_emod _ _ _
theorem sub_l (a b : Int) : (a % P - b) % P = (a - b) % P := Int.emod_sub_emod _ _ _
theorem sub_r (a b : Int) : (a - b % P) % P = (a - b) % P := Int.sub_emod_emod _ _ _
theorem mul_l (a b : Int) : (a % P * b) % P = (a * b) % P := by rw [Int.mul_emod, Int.emod_emod, ← Int.mul_emod]
theorem mul_r (a b : Int) : (a * (b % P)) % P = (a * b) % P := by rw [Int.mul_emod, Int.emod_emod, ← Int.mul_emod]
theorem mod_mod (a : Int) : a % P % P = a % P := Int.emod_emod _ _
theorem add_P (a : Int) : (a + P) % P = a % P := Int.add_emod_right a P
theorem pow_l (a : Int) : ∀ n : Nat, (a % P) ^ n % P = a ^ n % P
  | 0 => by rw [Int.pow_zero, Int.pow_zero]
  | n + 1 => by rw [Int.pow_succ, Int.pow_succ, mul_r, ← mul_l, pow_l a n, mul_l]

theorem plus_res (a b : Int) : plus (res a) (res b) = plus a b := by unfold plus res; rw [add_l, add_r]
theorem times_res (a b : Int) : times (res a) (res b) = times a b := by unfold times res; rw [mul_l, mul_r]
theorem minus_res (a b : Int) : minus (res a) (res b) = minus a b := by unfold minus res; rw [sub_l, sub_r]

/-- one round of the loop of Power -/
theorem pow_step (o x : Int) (k : Nat) : (o * x ^ k) % P = ((if k % 2 = 1 then o * x % P else o) * (x * x % P) ^ (k / 2)) % P := by
  have e : x ^ k = (if k % 2 = 1 then x else 1) * (x * x) ^ (k / 2) := by
    have h2 : (x * x) ^ (k / 2) = x ^ (2 * (k / 2)) := by
      rw [Int.pow_mul]
      congr 1
      rw [show (2 : Nat) = 1 + 1 from rfl, Int.pow_succ, Int.pow_succ, Int.pow_zero, Int.one_mul]
    rw [h2]
    split
    · rename_i h
      have : 2 * (k / 2) + 1 = k := by omega
      rw [Int.mul_comm, ← Int.pow_succ]
      exact congrArg (x ^ ·) this.symm
    · have : k = 2 * (k / 2) := by omega
      rw [Int.one_mul, ← this]
  rw [e]
  rw [← mul_r _ ((x * x % P) ^ (k / 2)), pow_l, mul_r]
  split
  · rw [mul_l, Int.mul_assoc]
  · rw [Int.one_mul]

theorem flt_int (a : Int) : a ^ 1000000271 % P = a % P := by
  have h0 : ∃ n : Nat, (n : Int) % P = a % P := by
    refine ⟨(a % P).toNat, ?_⟩
    rw [Int.toNat_of_nonneg (emod_lo a), mod_mod]
  obtain ⟨n, hn⟩ := h0
  rw [← pow_l, ← hn, pow_l]
  have := flt prm n
  have h := congrArg (fun x : Nat => (x : Int)) this
  simp only [Int.natCast_emod, Int.natCast_pow] at h
  exact h

theorem dvd_mul {a b : Int} (h : (a * b) % P = 0) : a % P = 0 ∨ b % P = 0 := by
  have hd : P ∣ a * b := Int.dvd_of_emod_eq_zero h
  have h1 : (1000000271 : Nat) ∣ a.natAbs * b.natAbs := by
    rw [← Int.natAbs_mul]
    exact Int.natAbs_dvd_natAbs.2 hd
  rcases prm.dv _ _ h1 with h2 | h2
  · exact .inl (Int.emod_eq_zero_of_dvd (Int.natAbs_dvd_natAbs.1 h2))
  · exact .inr (Int.emod_eq_zero_of_dvd (Int.natAbs_dvd_natAbs.1 h2))

theorem mul_inv {a : Int} (h : a % P ≠ 0) : (a * inv a) % P = 1 := by
  have hf := flt_int a
  unfold inv powr
  rw [if_neg (by omega), mul_r]
  have e : (1000000269 : Int).toNat = 1000000269 := rfl
  rw [e]
  have h1 : (a * (a * a ^ 1000000269 - 1)) % P = 0 := by
    rw [Int.mul_sub, Int.mul_one]
    have e3 : ∀ n : Nat, a * (a * a ^ n) = a ^ (n + 2) := fun n => by
      rw [show n + 2 = n + 1 + 1 from rfl, Int.pow_succ, Int.pow_succ, Int.mul_comm a (a ^ n), Int.mul_comm a]
    have e2 := e3 1000000269
    rw [e2, ← sub_l, show (1000000269 + 2 : Nat) = 1000000271 from rfl, hf, sub_l, Int.sub_self]
    rfl
  rcases dvd_mul h1 with h2 | h2
  · exact absurd h2 h
  · have : (a * a ^ 1000000269) % P = ((a * a ^ 1000000269 - 1) + 1) % P := by congr 1; omega
    rw [this, ← add_l, h2]
    rfl

/-- IsNumber -/
def isNum (n : Int) : Bool := decide (num n)
theorem isNum_true {n : Int} (h : num n) : isNum n = true := decide_eq_true h
theorem isNum_false {n : Int} (h : ¬ num n) : isNum n = false := decide_eq_false h
theorem num_of_isNum {n : Int} (h : isNum n = true) : num n := of_decide_eq_true h
/-- allNumbers -/
def allNum (l : List Int) : Bool := l.all isNum
theorem allNum_mem {l : List Int} (h : allNum l = true) : ∀ x ∈ l, num x := fun x hx => num_of_isNum (List.all_eq_true.1 h x hx)
theorem allNum_of {l : List Int} (h : ∀ x ∈ l, num x) : allNum l = true := List.all_eq_true.2 fun x hx => isNum_true (h x hx)

theorem powr_res (a k : Int) : powr (res a) k = powr a k := by
  unfold powr
  split
  · rfl
  · exact pow_l a _

/-- SquareRoot -/
def sqRoot (a : Int) : Int := powr a 250000068
def sqOk (a : Int) : Bool := decide (times (sqRoot a) (sqRoot a) = res a)
def sqVal (a : Int) : Int := if sqOk a then min (sqRoot a) (res (-(sqRoot a))) else 0
theorem num_sqVal (a : Int) : num (sqVal a) := by
  unfold sqVal
  split
  · rcases Int.le_total (sqRoot a) (res (-(sqRoot a))) with h | h
    · rw [Int.min_eq_left h]; exact num_powr _ _
    · rw [Int.min_eq_right h]; exact num_res _
  · exact ⟨Int.le_refl _, by decide⟩
/-- CubeRoot -/
def cbRoot (a : Int) : Int := powr a 666666847
/-- 1 divided by 2 less the cube root of 2 -/
def jump : Int := inv (minus 2 (cbRoot 2))
/-- the sum of a list of numbers -/
def sumL (l : List Int) : Int := l.foldl plus 0
def dotL (a b : List Int) : Int := (a.zip b).foldl (fun n x => plus n (times x.1 x.2)) 0
end Go.Proofs.YthebegfceaehfaaDoor.M

/- FmtL: Numbers as texts: plain lists of bytes. -/
namespace Go.Proofs.YthebegfceaehfaaDoor

def bs (l : List UInt8) : ByteArray := ⟨l.toArray⟩
theorem bs_append (a b : List UInt8) : bs a ++ bs b = bs (a ++ b) := by
  apply ByteArray.ext
  simp [bs]
theorem bs_inj {a b : List UInt8} (h : bs a = bs b) : a = b := by
  have := congrArg (fun x : ByteArray => x.data.toList) h
  simpa [bs] using this
theorem bs_list (s : ByteArray) : bs s.data.toList = s := by cases s; simp [bs]
theorem bs_data (l : List UInt8) : (bs l).data.toList = l := by simp [bs]
theorem bs_size (l : List UInt8) : (bs l).size = l.length := by simp [bs, ByteArray.size]
/-- a digit -/
def dgt (n : Nat) : UInt8 := UInt8.ofNat (48 + n)
/-- decimal -/
def decN (n : Nat) : List UInt8 := if n < 10 then [dgt n] else decN (n / 10) ++ [dgt (n % 10)]
termination_by n
decreasing_by omega
theorem decN_lo {n : Nat} (h : n < 10) : decN n = [dgt n] := by rw [decN, if_pos h]
theorem decN_hi {n : Nat} (h : ¬ n < 10) : decN n = decN (n / 10) ++ [dgt (n % 10)] := by rw [decN, if_neg h]
/-- an integer's text -/
def decI (n : Int) : List UInt8 := if n < 0 then 45 :: decN n.natAbs else decN n.toNat
/-- the part that b parts make of n, if it is small -/
def small (n : Int) (b : Nat) : Option Int :=
  let a := n * b % M.P
  if a ≤ 9999 then some a else if M.P - 9999 ≤ a then some (a - M.P) else none
/-- from b on, f tries left -/
def fmtGo (n : Int) : Nat → Nat → List UInt8
  | _, 0 => 35 :: decN n.toNat
  | b, f + 1 => match small n b with
    | some a => if b = 1 then decI a else decI a ++ 47 :: decN b
    | none => fmtGo n (b + 1) f
def fmtN (n : Int) : List UInt8 := if M.isNum n then fmtGo n 1 9999 else []
theorem small_bd {n : Int} {b : Nat} {a : Int} (h : small n b = some a) : -9999 ≤ a ∧ a ≤ 9999 := by
  unfold small at h
  have h0 := M.emod_lo (n * b)
  have h1 := M.emod_hi (n * b)
  simp only at h
  split at h
  · cases h; omega
  · split at h
    · cases h
      have : M.P = 1000000271 := rfl
      omega
    · cases h
theorem decN_len : ∀ (k n : Nat), n < 10 ^ k → 0 < k → (decN n).length ≤ k
  | 0, _, _, h => by omega
  | k + 1, n, hn, _ => by
    by_cases h : n < 10
    · rw [decN_lo h]; simp
    · rw [decN_hi h, List.length_append]
      have hk : 0 < k := by
        rcases Nat.eq_zero_or_pos k with e | e
        · subst e; simp at hn; omega
        · exact e
      have hd : n / 10 < 10 ^ k := by
        rw [Nat.pow_succ] at hn
        omega
      have := decN_len k (n / 10) hd hk
      simp
      omega
theorem fmtGo_len {n : Int} (h1 : n < M.P) : ∀ f b, b + f ≤ 10000 → (fmtGo n b f).length ≤ 12
  | 0, b, _ => by
    unfold fmtGo
    have : n.toNat < 10 ^ 10 := by have : M.P = 1000000271 := rfl; omega
    have := decN_len 10 _ this (by omega)
    simp
    omega
  | f + 1, b, hb => by
    unfold fmtGo
    cases hs : small n b with
    | none => exact fmtGo_len h1 f (b + 1) (by omega)
    | some a =>
      obtain ⟨a0, a1⟩ := small_bd hs
      have hd : (decI a).length ≤ 5 := by
        unfold decI
        split
        · have := decN_len 4 a.natAbs (by omega) (by omega)
          simp
          omega
        · have := decN_len 4 a.toNat (by omega) (by omega)
          omega
      have hbl := decN_len 4 b (by omega) (by omega)
      simp only
      split
      · omega
      · simp; omega
theorem fmtN_len (n : Int) : (fmtN n).length ≤ 12 := by
  unfold fmtN
  split
  · rename_i h
    exact fmtGo_len (M.num_of_isNum h).2 _ _ (by omega)
  · simp
end Go.Proofs.YthebegfceaehfaaDoor

/- Base: Walks of the number functions: residue, Plus, Minus, Times, Power, Inverse, Fraction. -/
namespace Go.Proofs.YthebegfceaehfaaDoor
open Go.RowKit

theorem hid {p : Prop} (h : p) : Hid p := h
/-- An int of 64 bits. -/
def I64 (n : Int) : Prop := -9223372036854775808 ≤ n ∧ n ≤ 9223372036854775807
theorem I64.num {n : Int} (h : M.num n) : I64 n := by
  obtain ⟨h1, h2⟩ := h
  unfold M.P at h2
  exact ⟨by omega, by omega⟩

theorem tm_bd (n : Int) : -1000000271 < n.tmod 1000000271 ∧ n.tmod 1000000271 < 1000000271 := by
  rcases Int.le_total 0 n with h | h
  · rw [Int.tmod_eq_emod_of_nonneg h]; omega
  · have h1 : n.tmod 1000000271 = - ((-n) % 1000000271) := by
      rw [← Int.tmod_eq_emod_of_nonneg (by omega), Int.neg_tmod, Int.neg_neg]
    rw [h1]; omega
theorem tm_res (n : Int) : (wrap64 (n.tmod 1000000271 + 1000000271)).tmod 1000000271 = M.res n := by
  have hb := tm_bd n
  rw [IntWalk.wrap64_in _ ⟨by omega, by omega⟩]
  unfold M.res
  show _ = n % 1000000271
  rcases Int.le_total 0 n with h | h
  · rw [Int.tmod_eq_emod_of_nonneg h, Int.tmod_eq_emod_of_nonneg (by omega)]; omega
  · have h1 : n.tmod 1000000271 = - ((-n) % 1000000271) := by
      rw [← Int.tmod_eq_emod_of_nonneg (by omega), Int.neg_tmod, Int.neg_neg]
    rw [h1, Int.tmod_eq_emod_of_nonneg (by omega)]; omega
theorem res_bd (n : Int) : 0 ≤ M.res n ∧ M.res n < 1000000271 := M.num_res n

theorem ret_i {a b : Int} (h : a = b) : Ending.returned (.int .i64 a) = .returned (.int .i64 b) := by rw [h]
theorem ret_b {a b : Bool} (h : a = b) : Ending.returned (.bool a) = .returned (.bool b) := by rw [h]

theorem impl_residue (n : Int) (w : World) :
    Calls Tryd.prog 68 #[.int .i64 n] w fun e w' => e = .returned (.int .i64 (M.res n)) ∧ w = w' := by
  go_enter Tryd.func68, Tryd.ntmps68
  go_wp2
  go_ret
  exact ⟨ret_i (tm_res n), rfl⟩
theorem spec_residue (n : Int) (w : World) :
    Calls Tryd.prog 76 #[.int .i64 n] w fun e w' => e = .returned (.int .i64 (M.res n)) ∧ w = w' := by
  go_enter Tryd.func76, Tryd.ntmps76
  go_wp2
  go_ret
  exact ⟨ret_i (tm_res n), rfl⟩
theorem impl_Plus (a b : Int) (w : World) :
    Calls Tryd.prog 56 #[.int .i64 a, .int .i64 b] w fun e w' => e = .returned (.int .i64 (M.plus a b)) ∧ w = w' := by
  have ha := res_bd a
  have hb := res_bd b
  have H := hid (M.plus_res a b)
  go_enter Tryd.func56, Tryd.ntmps56
  go_wp2_with (go_at_call 68; refine (impl_residue _ _).mono ?_; rintro e w' ⟨rfl, rfl⟩)
  go_ret
  exact ⟨ret_i H.out, rfl⟩
theorem impl_Minus (a b : Int) (w : World) :
    Calls Tryd.prog 55 #[.int .i64 a, .int .i64 b] w fun e w' => e = .returned (.int .i64 (M.minus a b)) ∧ w = w' := by
  have ha := res_bd a
  have hb := res_bd b
  have H := hid (M.minus_res a b)
  go_enter Tryd.func55, Tryd.ntmps55
  go_wp2_with (go_at_call 68; refine (impl_residue _ _).mono ?_; rintro e w' ⟨rfl, rfl⟩)
  go_ret
  exact ⟨ret_i (by rw [← H.out]; unfold M.minus; exact M.add_P _), rfl⟩
theorem impl_Times (a b : Int) (w : World) :
    Calls Tryd.prog 80 #[.int .i64 a, .int .i64 b] w fun e w' => e = .returned (.int .i64 (M.times a b)) ∧ w = w' := by
  have ha := res_bd a
  have hb := res_bd b
  have hm : 0 ≤ M.res a * M.res b := Int.mul_nonneg ha.1 hb.1
  have hm2 : M.res a * M.res b ≤ 1000000271 * 1000000271 := Int.mul_le_mul (by omega) (by omega) hb.1 (by omega)
  have H := hid (M.times_res a b)
  go_enter Tryd.func80, Tryd.ntmps80
  go_wp2_with (go_at_call 68; refine (impl_residue _ _).mono ?_; rintro e w' ⟨rfl, rfl⟩)
  go_ret
  exact ⟨ret_i H.out, rfl⟩
theorem spec_Plus (a b : Int) (w : World) :
    Calls Tryd.prog 44 #[.int .i64 a, .int .i64 b] w fun e w' => e = .returned (.int .i64 (M.plus a b)) ∧ w = w' := by
  have ha := res_bd a
  have hb := res_bd b
  have H := hid (M.plus_res a b)
  go_enter Tryd.func44, Tryd.ntmps44
  go_wp2_with (go_at_call 76; refine (spec_residue _ _).mono ?_; rintro e w' ⟨rfl, rfl⟩)
  go_ret
  exact ⟨ret_i H.out, rfl⟩
theorem spec_Minus (a b : Int) (w : World) :
    Calls Tryd.prog 43 #[.int .i64 a, .int .i64 b] w fun e w' => e = .returned (.int .i64 (M.minus a b)) ∧ w = w' := by
  have ha := res_bd a
  have hb := res_bd b
  have H := hid (M.minus_res a b)
  go_enter Tryd.func43, Tryd.ntmps43
  go_wp2_with (go_at_call 76; refine (spec_residue _ _).mono ?_; rintro e w' ⟨rfl, rfl⟩)
  go_ret
  exact ⟨ret_i (by rw [← H.out]; rfl), rfl⟩
theorem spec_Times (a b : Int) (w : World) :
    Calls Tryd.prog 73 #[.int .i64 a, .int .i64 b] w fun e w' => e = .returned (.int .i64 (M.times a b)) ∧ w = w' := by
  have ha := res_bd a
  have hb := res_bd b
  have hm : 0 ≤ M.res a * M.res b := Int.mul_nonneg ha.1 hb.1
  have hm2 : M.res a * M.res b ≤ 1000000271 * 1000000271 := Int.mul_le_mul (by omega) (by omega) hb.1 (by omega)
  have H := hid (M.times_res a b)
  go_enter Tryd.func73, Tryd.ntmps73
  go_wp2_with (go_at_call 76; refine (spec_residue _ _).mono ?_; rintro e w' ⟨rfl, rfl⟩)
  go_ret
  exact ⟨ret_i H.out, rfl⟩

theorem pow_bd {x y : Int} (hx : M.num x) (hy : M.num y) : 0 ≤ x * y ∧ x * y ≤ 1000000271 * 1000000271 := by
  obtain ⟨h1, h2⟩ := hx
  obtain ⟨h3, h4⟩ := hy
  unfold M.P at h2 h4
  exact ⟨Int.mul_nonneg h1 h3, Int.mul_le_mul (by omega) (by omega) h3 (by omega)⟩

theorem impl_Power_neg (a k : Int) (w : World) (hk : k < 0) :
    Calls Tryd.prog 52 #[.int .i64 a, .int .i64 k] w fun e w' => e = .returned (.int .i64 (M.powr a k)) ∧ w = w' := by
  have H := hid (show M.powr a k = 0 from if_pos hk)
  go_enter Tryd.func52, Tryd.ntmps52
  go_wp2
  go_ret
  exact ⟨ret_i H.out.symm, rfl⟩
theorem spec_Power_neg (a k : Int) (w : World) (hk : k < 0) :
    Calls Tryd.prog 71 #[.int .i64 a, .int .i64 k] w fun e w' => e = .returned (.int .i64 (M.powr a k)) ∧ w = w' := by
  have H := hid (show M.powr a k = 0 from if_pos hk)
  go_enter Tryd.func71, Tryd.ntmps71
  go_wp2
  go_ret
  exact ⟨ret_i H.out.symm, rfl⟩

/-- What holds at the head of Power's loop: 'o x^k' is what it was. -/
def PowInv (a : Int) (K : Nat) (o x : Int) (k : Nat) : Prop := M.num o ∧ M.num x ∧ (o * x ^ k) % M.P = a ^ K % M.P
theorem PowInv.start (a : Int) (K : Nat) : PowInv a K 1 (M.res a) K := by
  refine ⟨⟨by decide, by decide⟩, M.num_res a, ?_⟩
  rw [Int.one_mul]
  exact M.pow_l a K
theorem PowInv.odd {a : Int} {K : Nat} {o x : Int} {k : Nat} (h : PowInv a K o x k) (hk : k % 2 = 1) : PowInv a K (o * x % M.P) (x * x % M.P) (k / 2) :=
  ⟨M.num_emod _, M.num_emod _, by rw [← h.2.2, M.pow_step o x k, if_pos hk]⟩
theorem PowInv.even {a : Int} {K : Nat} {o x : Int} {k : Nat} (h : PowInv a K o x k) (hk : k % 2 = 0) : PowInv a K o (x * x % M.P) (k / 2) :=
  ⟨h.1, M.num_emod _, by rw [← h.2.2, M.pow_step o x k, if_neg (by omega)]⟩
theorem PowInv.done {a : Int} {K : Nat} {o x : Int} (h : PowInv a K o x 0) : o = M.powr a K := by
  have h1 := h.2.2
  rw [Int.pow_zero, Int.mul_one, M.res_of_num h.1] at h1
  unfold M.powr
  rw [if_neg (by omega)]
  exact h1
theorem half_cast (k : Nat) : ((k : Int) / 2) = ((k / 2 : Nat) : Int) := by omega

theorem impl_Power_pos (a : Int) (K : Nat) (w : World) (hk : K ≤ 9223372036854775807) :
    Calls Tryd.prog 52 #[.int .i64 a, .int .i64 K] w fun e w' => e = .returned (.int .i64 (M.powr a K)) ∧ w = w' := by
  have hS := hid (PowInv.start a K)
  go_enter Tryd.func52, Tryd.ntmps52
  go_wp2_with (go_at_call 68; refine (impl_residue _ _).mono ?_; rintro e w' ⟨rfl, rfl⟩)
  go_loop [1, 5, 6] (fun kv ov xv => ∃ (k : Nat) (o x : Int), kv = .int .i64 k ∧ ov = .int .i64 o ∧ xv = .int .i64 x ∧ k ≤ 9223372036854775807 ∧ Hid (PowInv a K o x k)) (fun kv _ _ => (intOf kv).toNat)
  case atStart => exact ⟨K, 1, _, rfl, rfl, rfl, hk, hS⟩
  case round =>
    obtain ⟨k, o, x, rfl, rfl, rfl, hk', hI⟩ := hrel
    have b1 := pow_bd hI.out.1 hI.out.2.1
    have b2 := pow_bd hI.out.2.1 hI.out.2.1
    by_cases h0 : 0 < k
    · rcases Nat.mod_two_eq_zero_or_one k with hp | hp
      · have hq : (((k : Int) % 2) == 1) = false := by rw [beq_eq_false_iff_ne]; omega
        go_wp2
        go_round
        case rel => exact ⟨k / 2, o, _, by go_num, rfl, rfl, by omega, hid (hI.out.even hp)⟩
        case measure => simp [intOf]; omega
      · have hq : (((k : Int) % 2) == 1) = true := by rw [beq_iff_eq]; omega
        go_wp2
        go_round
        case rel => exact ⟨k / 2, _, _, by go_num, rfl, rfl, by omega, hid (hI.out.odd hp)⟩
        case measure => simp [intOf]; omega
    · obtain rfl : k = 0 := by omega
      go_wp2
      go_ret
      exact ⟨ret_i hI.out.done, rfl⟩

theorem spec_Power_pos (a : Int) (K : Nat) (w : World) (hk : K ≤ 9223372036854775807) :
    Calls Tryd.prog 71 #[.int .i64 a, .int .i64 K] w fun e w' => e = .returned (.int .i64 (M.powr a K)) ∧ w = w' := by
  have hS := hid (PowInv.start a K)
  go_enter Tryd.func71, Tryd.ntmps71
  go_wp2_with (go_at_call 76; refine (spec_residue _ _).mono ?_; rintro e w' ⟨rfl, rfl⟩)
  go_loop [5, 6, 7] (fun ov xv kv => ∃ (k : Nat) (o x : Int), kv = .int .i64 k ∧ ov = .int .i64 o ∧ xv = .int .i64 x ∧ k ≤ 9223372036854775807 ∧ Hid (PowInv a K o x k)) (fun _ _ kv => (intOf kv).toNat)
  case atStart => exact ⟨K, 1, _, rfl, rfl, rfl, hk, hS⟩
  case round =>
    obtain ⟨k, o, x, rfl, rfl, rfl, hk', hI⟩ := hrel
    by_cases h0 : 0 < k
    · rcases Nat.mod_two_eq_zero_or_one k with hp | hp
      · have hq : (((k : Int) % 2) == 1) = false := by rw [beq_eq_false_iff_ne]; omega
        go_wp2_with (go_at_call 73; refine (spec_Times _ _ _).mono ?_; rintro e w' ⟨rfl, rfl⟩)
        go_round
        case rel => exact ⟨k / 2, o, _, by go_num, rfl, rfl, by omega, hid (hI.out.even hp)⟩
        case measure => simp [intOf]; omega
      · have hq : (((k : Int) % 2) == 1) = true := by rw [beq_iff_eq]; omega
        go_wp2_with (go_at_call 73; refine (spec_Times _ _ _).mono ?_; rintro e w' ⟨rfl, rfl⟩)
        go_round
        case rel => exact ⟨k / 2, _, _, by go_num, rfl, rfl, by omega, hid (hI.out.odd hp)⟩
        case measure => simp [intOf]; omega
    · obtain rfl : k = 0 := by omega
      go_wp2
      go_ret
      exact ⟨ret_i hI.out.done, rfl⟩

theorem impl_Power (a k : Int) (w : World) (hk : I64 k) :
    Calls Tryd.prog 52 #[.int .i64 a, .int .i64 k] w fun e w' => e = .returned (.int .i64 (M.powr a k)) ∧ w = w' := by
  rcases Int.lt_or_le k 0 with h | h
  · exact impl_Power_neg a k w h
  · obtain ⟨K, rfl⟩ := Int.eq_ofNat_of_zero_le h
    exact impl_Power_pos a K w (by have := hk.2; omega)
theorem spec_Power (a k : Int) (w : World) (hk : I64 k) :
    Calls Tryd.prog 71 #[.int .i64 a, .int .i64 k] w fun e w' => e = .returned (.int .i64 (M.powr a k)) ∧ w = w' := by
  rcases Int.lt_or_le k 0 with h | h
  · exact spec_Power_neg a k w h
  · obtain ⟨K, rfl⟩ := Int.eq_ofNat_of_zero_le h
    exact spec_Power_pos a K w (by have := hk.2; omega)

theorem impl_Inverse (a : Int) (w : World) :
    Calls Tryd.prog 81 #[.int .i64 a] w fun e w' => e = .returned (.int .i64 (M.inv a)) ∧ w = w' := by
  go_enter Tryd.func81, Tryd.ntmps81
  go_wp2_with (go_at_call 52; refine (impl_Power _ _ _ ⟨by omega, by omega⟩).mono ?_; rintro e w' ⟨rfl, rfl⟩)
  go_ret
  exact ⟨rfl, rfl⟩
theorem spec_Inverse (a : Int) (w : World) :
    Calls Tryd.prog 74 #[.int .i64 a] w fun e w' => e = .returned (.int .i64 (M.inv a)) ∧ w = w' := by
  go_enter Tryd.func74, Tryd.ntmps74
  go_wp2_with (go_at_call 71; refine (spec_Power _ _ _ ⟨by omega, by omega⟩).mono ?_; rintro e w' ⟨rfl, rfl⟩)
  go_ret
  exact ⟨rfl, rfl⟩
theorem impl_Fraction (a b : Int) (w : World) :
    Calls Tryd.prog 51 #[.int .i64 a, .int .i64 b] w fun e w' => e = .returned (.int .i64 (M.frac a b)) ∧ w = w' := by
  go_enter Tryd.func51, Tryd.ntmps51
  go_wp2_with (first | (go_at_call 81; refine (impl_Inverse _ _).mono ?_; rintro e w' ⟨rfl, rfl⟩) | (go_at_call 80; refine (impl_Times _ _ _).mono ?_; rintro e w' ⟨rfl, rfl⟩))
  go_ret
  exact ⟨rfl, rfl⟩
theorem spec_Fraction (a b : Int) (w : World) :
    Calls Tryd.prog 41 #[.int .i64 a, .int .i64 b] w fun e w' => e = .returned (.int .i64 (M.frac a b)) ∧ w = w' := by
  go_enter Tryd.func41, Tryd.ntmps41
  go_wp2_with (first | (go_at_call 74; refine (spec_Inverse _ _).mono ?_; rintro e w' ⟨rfl, rfl⟩) | (go_at_call 73; refine (spec_Times _ _ _).mono ?_; rintro e w' ⟨rfl, rfl⟩))
  go_ret
  exact ⟨rfl, rfl⟩
/-! roots -/
theorem sq_bd (a : Int) : 0 ≤ M.powr a 250000068 ∧ M.powr a 250000068 < 1000000271 := M.num_powr a _
theorem sq_no {a : Int} (h : (M.powr a 250000068 * M.powr a 250000068 % 1000000271 != M.res a) = true) : M.sqOk a = false ∧ M.sqVal a = 0 := by
  have h1 : M.sqOk a = false := by
    unfold M.sqOk
    rw [decide_eq_false_iff_not]
    exact bne_iff_ne.1 h
  exact ⟨h1, by unfold M.sqVal; rw [h1]; rfl⟩
theorem sq_yes {a : Int} (h : (M.powr a 250000068 * M.powr a 250000068 % 1000000271 != M.res a) = false) : M.sqOk a = true ∧ M.sqVal a = min (M.powr a 250000068) (M.res (-(M.powr a 250000068))) := by
  have h1 : M.sqOk a = true := by
    unfold M.sqOk
    rw [decide_eq_true_iff]
    exact bne_eq_false_iff_eq.1 h
  exact ⟨h1, by unfold M.sqVal; rw [h1]; rfl⟩
theorem ret_ib {a b : Int} {x y : Bool} (h : a = b) (h' : x = y) : Ending.returned (.tuple #[.int .i64 a, .bool x]) = .returned (.tuple #[.int .i64 b, .bool y]) := by rw [h, h']
theorem impl_SquareRoot (a : Int) (w : World) :
    Calls Tryd.prog 82 #[.int .i64 a] w fun e w' => e = .returned (.tuple #[.int .i64 (M.sqVal a), .bool (M.sqOk a)]) ∧ w = w' := by
  have hb := sq_bd a
  have b1 := pow_bd (M.num_powr a 250000068) (M.num_powr a 250000068)
  have hp := hid (M.powr_res a 250000068)
  cases hc : (M.powr a 250000068 * M.powr a 250000068 % 1000000271 != M.res a) with
  | true =>
    have H := hid (sq_no hc)
    go_enter Tryd.func82, Tryd.ntmps82
    go_wp2_with (first | (go_at_call 68; refine (impl_residue _ _).mono ?_; rintro e w' ⟨rfl, rfl⟩) | (go_at_call 52; refine (impl_Power _ _ _ ⟨by omega, by omega⟩).mono ?_; rintro e w' ⟨rfl, rfl⟩; rw [hp.out]))
    go_ret2
    exact ⟨ret_ib H.out.2.symm H.out.1.symm, rfl⟩
  | false =>
    have H := hid (sq_yes hc)
    rcases Int.le_total (M.powr a 250000068) (M.res (-(M.powr a 250000068))) with hle | hle
    · go_enter Tryd.func82, Tryd.ntmps82
      go_wp2_with (first | (go_at_call 68; refine (impl_residue _ _).mono ?_; rintro e w' ⟨rfl, rfl⟩) | (go_at_call 52; refine (impl_Power _ _ _ ⟨by omega, by omega⟩).mono ?_; rintro e w' ⟨rfl, rfl⟩; rw [hp.out]))
      all_goals go_ret2
      all_goals exact ⟨ret_ib (by rw [H.out.2]; omega) H.out.1.symm, rfl⟩
    · go_enter Tryd.func82, Tryd.ntmps82
      go_wp2_with (first | (go_at_call 68; refine (impl_residue _ _).mono ?_; rintro e w' ⟨rfl, rfl⟩) | (go_at_call 52; refine (impl_Power _ _ _ ⟨by omega, by omega⟩).mono ?_; rintro e w' ⟨rfl, rfl⟩; rw [hp.out]))
      all_goals go_ret2
      all_goals exact ⟨ret_ib (by rw [H.out.2]; omega) H.out.1.symm, rfl⟩
theorem spec_SquareRoot (a : Int) (w : World) :
    Calls Tryd.prog 75 #[.int .i64 a] w fun e w' => e = .returned (.tuple #[.int .i64 (M.sqVal a), .bool (M.sqOk a)]) ∧ w = w' := by
  have hb := sq_bd a
  cases hc : (M.times (M.powr a 250000068) (M.powr a 250000068) != M.res a) with
  | true =>
    have H := hid (sq_no hc)
    go_enter Tryd.func75, Tryd.ntmps75
    go_wp2_with (first | (go_at_call 76; refine (spec_residue _ _).mono ?_; rintro e w' ⟨rfl, rfl⟩) | (go_at_call 71; refine (spec_Power _ _ _ ⟨by omega, by omega⟩).mono ?_; rintro e w' ⟨rfl, rfl⟩) | (go_at_call 73; refine (spec_Times _ _ _).mono ?_; rintro e w' ⟨rfl, rfl⟩))
    go_ret2
    exact ⟨ret_ib H.out.2.symm H.out.1.symm, rfl⟩
  | false =>
    have H := hid (sq_yes hc)
    rcases Int.le_total (M.powr a 250000068) (M.res (-(M.powr a 250000068))) with hle | hle
    · go_enter Tryd.func75, Tryd.ntmps75
      go_wp2_with (first | (go_at_call 76; refine (spec_residue _ _).mono ?_; rintro e w' ⟨rfl, rfl⟩) | (go_at_call 71; refine (spec_Power _ _ _ ⟨by omega, by omega⟩).mono ?_; rintro e w' ⟨rfl, rfl⟩) | (go_at_call 73; refine (spec_Times _ _ _).mono ?_; rintro e w' ⟨rfl, rfl⟩))
      all_goals go_ret2
      all_goals exact ⟨ret_ib (by rw [H.out.2]; omega) H.out.1.symm, rfl⟩
    · go_enter Tryd.func75, Tryd.ntmps75
      go_wp2_with (first | (go_at_call 76; refine (spec_residue _ _).mono ?_; rintro e w' ⟨rfl, rfl⟩) | (go_at_call 71; refine (spec_Power _ _ _ ⟨by omega, by omega⟩).mono ?_; rintro e w' ⟨rfl, rfl⟩) | (go_at_call 73; refine (spec_Times _ _ _).mono ?_; rintro e w' ⟨rfl, rfl⟩))
      all_goals go_ret2
      all_goals exact ⟨ret_ib (by rw [H.out.2]; omega) H.out.1.symm, rfl⟩
theorem impl_root (a : Int) (w : World) :
    Calls Tryd.prog 54 #[.int .i64 a] w fun e w' => e = .returned (.int .i64 (M.sqVal a)) ∧ w = w' := by
  go_enter Tryd.func54, Tryd.ntmps54
  go_wp2_with (go_at_call 82; refine (impl_SquareRoot _ _).mono ?_; rintro e w' ⟨rfl, rfl⟩)
  go_ret
  exact ⟨rfl, rfl⟩
theorem spec_root (a : Int) (w : World) :
    Calls Tryd.prog 42 #[.int .i64 a] w fun e w' => e = .returned (.int .i64 (M.sqVal a)) ∧ w = w' := by
  go_enter Tryd.func42, Tryd.ntmps42
  go_wp2_with (go_at_call 75; refine (spec_SquareRoot _ _).mono ?_; rintro e w' ⟨rfl, rfl⟩)
  go_ret
  exact ⟨rfl, rfl⟩
end Go.Proofs.YthebegfceaehfaaDoor

/- Mem: Slices of ints in memory: what is read, what is made, and that other blocks keep what they hold. -/
namespace Go.Proofs.YthebegfceaehfaaDoor
open Go.RowKit

/-- A slice value '.slice ao n c' reads as the list xs of ints. -/
structure Rd (w : World) (ao : Option Addr) (n c : Nat) (xs : List Int) : Prop where
  len : xs.length = n
  cap : n ≤ c
  max : c ≤ 9223372036854775807
  cell : ∀ i, i < n → ∃ b o, ao = some ⟨b, o, none⟩ ∧ w.cell? ⟨b, o + i, none⟩ = some (.int .i64 (xs.getD i 0))
  wf : ∀ x ∈ xs, I64 x

theorem Rd.wfAt {w : World} {ao : Option Addr} {n c : Nat} {xs : List Int} (h : Rd w ao n c xs) (i : Nat) : I64 (xs.getD i 0) := by
  rw [List.getD_eq_getElem?_getD]
  cases e : xs[i]? with
  | none => exact ⟨by decide, by decide⟩
  | some x => exact h.wf x (List.mem_of_getElem? e)

/-- One element, under a name of its own. -/
theorem Rd.at {w : World} {ao : Option Addr} {n c : Nat} {xs : List Int} (h : Rd w ao n c xs) {k : Nat} (hk : k < n) :
    ∃ (b o : Nat) (x : Int), ao = some ⟨b, o, none⟩ ∧ w.cell? ⟨b, o + k, none⟩ = some (.int .i64 x) ∧ -9223372036854775808 ≤ x ∧ x ≤ 9223372036854775807 ∧ Hid (x = xs.getD k 0) := by
  obtain ⟨b, o, e, hc⟩ := h.cell k hk
  exact ⟨b, o, _, e, hc, (h.wfAt k).1, (h.wfAt k).2, rfl⟩

theorem Rd.keep {w w' : World} {ao : Option Addr} {n c : Nat} {xs : List Int} (h : Rd w ao n c xs)
    (hk : ∀ b o, 0 < n → ao = some ⟨b, o, none⟩ → b < w.heap.size → w'.heap[b]? = w.heap[b]?) : Rd w' ao n c xs :=
  ⟨h.len, h.cap, h.max, fun i hi => by
    obtain ⟨b, o, e, hc⟩ := h.cell i hi
    exact ⟨b, o, e, (World.cell?_of_block (w := w) (hk b o (by omega) e (World.block_lt_of_cell? w _ hc))).trans hc⟩, h.wf⟩
theorem Rd.below {w w' : World} {ao : Option Addr} {n c : Nat} {xs : List Int} (h : Rd w ao n c xs) (hb : Below w.heap.size w w') : Rd w' ao n c xs :=
  h.keep fun b _ _ _ hl => hb.block b hl
theorem Rd.belowN {N : Nat} {w w' : World} {ao : Option Addr} {n c : Nat} {xs : List Int} (h : Rd w ao n c xs) (hb : Below N w w') (hN : w.heap.size ≤ N) : Rd w' ao n c xs :=
  h.below (hb.mono hN)
theorem Rd.alloc {w : World} {ao : Option Addr} {n c : Nat} {xs : List Int} (h : Rd w ao n c xs) (o : Obj) : Rd (w.alloc o) ao n c xs :=
  h.below ((Below.refl _ _).alloc (Nat.le_refl _) o)
theorem Rd.drew {w : World} {ao : Option Addr} {n c : Nat} {xs : List Int} (h : Rd w ao n c xs) : Rd w.drew ao n c xs := ⟨h.len, h.cap, h.max, h.cell, h.wf⟩
theorem Rd.nil (w : World) (ao : Option Addr) (c : Nat) (hc : c ≤ 9223372036854775807) : Rd w ao 0 c [] :=
  ⟨rfl, Nat.zero_le _, hc, fun i hi => absurd hi (Nat.not_lt_zero i), fun x hx => by cases hx⟩

theorem take_snoc {α : Type} (d : α) (xs : List α) (k : Nat) (h : k < xs.length) : xs.take (k + 1) = xs.take k ++ [xs.getD k d] := by
  rw [List.take_succ_eq_append_getElem h]; simp [List.getD, h]
theorem drop_cons {α : Type} (d : α) (xs : List α) (k : Nat) (h : k < xs.length) : xs.drop k = xs.getD k d :: xs.drop (k + 1) := by
  rw [List.drop_eq_getElem_cons h]; simp [List.getD, h]

/-! ### IsNumber, allNumbers -/
theorem impl_IsNumber (n : Int) (w : World) :
    Calls Tryd.prog 78 #[.int .i64 n] w fun e w' => e = .returned (.bool (M.isNum n)) ∧ w = w' := by
  by_cases h1 : 0 ≤ n
  · by_cases h2 : n < 1000000271
    · have H := hid (M.isNum_true (n := n) ⟨h1, h2⟩)
      go_enter Tryd.func78, Tryd.ntmps78
      go_wp2
      go_ret
      exact ⟨ret_b H.out.symm, rfl⟩
    · have H := hid (M.isNum_false (n := n) (fun h => h2 h.2))
      go_enter Tryd.func78, Tryd.ntmps78
      go_wp2
      go_ret
      exact ⟨ret_b H.out.symm, rfl⟩
  · have H := hid (M.isNum_false (n := n) (fun h => h1 h.1))
    go_enter Tryd.func78, Tryd.ntmps78
    go_wp2
    go_ret
    exact ⟨ret_b H.out.symm, rfl⟩
/-- l1In -/
def inB (n lo hi : Int) : Bool := decide (lo ≤ n ∧ n ≤ hi)
theorem spec_l1In (n lo hi : Int) (w : World) :
    Calls Tryd.prog 38 #[.int .i64 n, .int .i64 lo, .int .i64 hi] w fun e w' => e = .returned (.bool (inB n lo hi)) ∧ w = w' := by
  by_cases h1 : lo ≤ n
  · by_cases h2 : n ≤ hi
    · have H := hid (show inB n lo hi = true from decide_eq_true ⟨h1, h2⟩)
      go_enter Tryd.func38, Tryd.ntmps38
      go_wp2
      go_ret
      exact ⟨ret_b H.out.symm, rfl⟩
    · have H := hid (show inB n lo hi = false from decide_eq_false (fun h => h2 h.2))
      go_enter Tryd.func38, Tryd.ntmps38
      go_wp2
      go_ret
      exact ⟨ret_b H.out.symm, rfl⟩
  · have H := hid (show inB n lo hi = false from decide_eq_false (fun h => h1 h.1))
    go_enter Tryd.func38, Tryd.ntmps38
    go_wp2
    go_ret
    exact ⟨ret_b H.out.symm, rfl⟩
theorem spec_IsNumber (n : Int) (w : World) :
    Calls Tryd.prog 60 #[.int .i64 n] w fun e w' => e = .returned (.bool (M.isNum n)) ∧ w = w' := by
  have H := hid (show inB n 0 1000000270 = M.isNum n by
    unfold inB M.isNum
    exact decide_eq_decide.2 ⟨fun h => ⟨h.1, by have := h.2; show n < 1000000271; omega⟩, fun h => ⟨h.1, by have : n < 1000000271 := h.2; omega⟩⟩)
  go_enter Tryd.func60, Tryd.ntmps60
  go_wp2_with (go_at_call 38; refine (spec_l1In _ _ _ _).mono ?_; rintro e w' ⟨rfl, rfl⟩)
  go_ret
  exact ⟨ret_b H.out, rfl⟩

theorem allNum_step {xs : List Int} {k : Nat} {x : Int} (h : k < xs.length) (ha : M.allNum (xs.take k) = true) (e : x = xs.getD k 0) (hx : M.isNum x = true) : M.allNum (xs.take (k + 1)) = true := by
  subst e
  rw [take_snoc 0 xs k h]
  simp only [M.allNum, List.all_append, List.all_cons, List.all_nil, Bool.and_true, Bool.and_eq_true]
  exact ⟨ha, hx⟩
theorem allNum_stop {xs : List Int} {k : Nat} {x : Int} (h : k < xs.length) (e : x = xs.getD k 0) (hx : M.isNum x = false) : M.allNum xs = false := by
  subst e
  rw [← Bool.not_eq_true]
  intro e
  have := List.all_eq_true.1 e (xs.getD k 0) (by simp [List.getD, h])
  rw [hx] at this
  cases this

theorem impl_allNumbers (ao : Option Addr) (n c : Nat) (xs : List Int) (w : World) (hr : Rd w ao n c xs) :
    Calls Tryd.prog 46 #[.slice ao n c] w fun e w' => e = .returned (.bool (M.allNum xs)) ∧ w = w' := by
  have hn : n ≤ 9223372036854775807 := Nat.le_trans hr.cap hr.max
  have HR := hid hr
  clear hr
  go_enter Tryd.func46, Tryd.ntmps46
  go_wp2
  go_loop [4, 7] (fun _ i => ∃ k : Nat, i = .int .i64 k ∧ k ≤ n ∧ Hid (M.allNum (xs.take k) = true)) (fun _ i => n - (intOf i).toNat)
  case atStart => exact ⟨0, rfl, Nat.zero_le _, hid rfl⟩
  case round =>
    obtain ⟨k, rfl, hk, hA⟩ := hrel
    by_cases hlt : k < n
    · obtain ⟨b, o, x, rfl, hc, _, _, hx⟩ := HR.out.at hlt
      cases hb : M.isNum x with
      | true =>
        have HX := hid hb
        go_wp2_with (go_at_call 78; refine (impl_IsNumber _ _).mono ?_; rintro e w' ⟨rfl, rfl⟩)
        go_round
        case rel => exact ⟨k + 1, by go_num, by omega, hid (allNum_step (by rw [HR.out.len]; exact hlt) hA.out hx.out HX.out)⟩
        case measure => simp [intOf]; omega
      | false =>
        have HX := hid hb
        go_wp2_with (go_at_call 78; refine (impl_IsNumber _ _).mono ?_; rintro e w' ⟨rfl, rfl⟩)
        go_ret
        exact ⟨ret_b (allNum_stop (by rw [HR.out.len]; exact hlt) hx.out HX.out).symm, rfl⟩
    · obtain rfl : k = n := by omega
      go_wp2
      go_ret
      exact ⟨ret_b (by rw [← hA.out, ← HR.out.len, List.take_length]), rfl⟩
theorem spec_l1All (ao : Option Addr) (n c : Nat) (xs : List Int) (w : World) (hr : Rd w ao n c xs) :
    Calls Tryd.prog 59 #[.slice ao n c] w fun e w' => e = .returned (.bool (M.allNum xs)) ∧ w = w' := by
  have hn : n ≤ 9223372036854775807 := Nat.le_trans hr.cap hr.max
  have HR := hid hr
  clear hr
  go_enter Tryd.func59, Tryd.ntmps59
  go_wp2
  go_loop [3] (fun i => ∃ k : Nat, i = .int .i64 k ∧ k ≤ n ∧ Hid (M.allNum (xs.take k) = true)) (fun i => n - (intOf i).toNat)
  case atStart => exact ⟨0, rfl, Nat.zero_le _, hid rfl⟩
  case round =>
    obtain ⟨k, rfl, hk, hA⟩ := hrel
    by_cases hlt : k < n
    · obtain ⟨b, o, x, rfl, hc, _, _, hx⟩ := HR.out.at hlt
      cases hb : M.isNum x with
      | true =>
        have HX := hid hb
        go_wp2_with (go_at_call 60; refine (spec_IsNumber _ _).mono ?_; rintro e w' ⟨rfl, rfl⟩)
        go_round
        case rel => exact ⟨k + 1, by go_num, by omega, hid (allNum_step (by rw [HR.out.len]; exact hlt) hA.out hx.out HX.out)⟩
        case measure => simp [intOf]; omega
      | false =>
        have HX := hid hb
        go_wp2_with (go_at_call 60; refine (spec_IsNumber _ _).mono ?_; rintro e w' ⟨rfl, rfl⟩)
        go_ret
        exact ⟨ret_b (allNum_stop (by rw [HR.out.len]; exact hlt) hx.out HX.out).symm, rfl⟩
    · obtain rfl : k = n := by omega
      go_wp2
      go_ret
      exact ⟨ret_b (by rw [← hA.out, ← HR.out.len, List.take_length]), rfl⟩
end Go.Proofs.YthebegfceaehfaaDoor
