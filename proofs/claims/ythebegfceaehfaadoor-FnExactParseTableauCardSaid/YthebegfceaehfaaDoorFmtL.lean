/- Numbers as texts: plain lists of bytes. -/
import Derived.Test.YthebegfceaehfaaDoorNum
namespace Go.Proofs.YthebegfceaehfaaDoor

def bs (l : List UInt8) : ByteArray := ⟨l.toArray⟩
theorem bs_append (a b : List UInt8) : bs a ++ bs b = bs (a ++ b) := by
  apply ByteArray.ext
  simp [bs]
theorem bs_inj {a b : List UInt8} (h : bs a = bs b) : a = b := by
  have := congrArg (fun x : ByteArray => x.data.toList) h
  simpa [bs] using this
theorem bs_list (s : ByteArray) : bs s.data.toList = s := by cases s; simp [bs]
theorem bs_data (l : List UInt8) : (bs l).data.toList = l := by simp [bs]
theorem bs_size (l : List UInt8) : (bs l).size = l.length := by simp [bs, ByteArray.size]
/-- a digit -/
def dgt (n : Nat) : UInt8 := UInt8.ofNat (48 + n)
/-- decimal -/
def decN (n : Nat) : List UInt8 := if n < 10 then [dgt n] else decN (n / 10) ++ [dgt (n % 10)]
termination_by n
decreasing_by omega
theorem decN_lo {n : Nat} (h : n < 10) : decN n = [dgt n] := by rw [decN, if_pos h]
theorem decN_hi {n : Nat} (h : ¬ n < 10) : decN n = decN (n / 10) ++ [dgt (n % 10)] := by rw [decN, if_neg h]
/-- an integer's text -/
def decI (n : Int) : List UInt8 := if n < 0 then 45 :: decN n.natAbs else decN n.toNat
/-- the part that b parts make of n, if it is small -/
def small (n : Int) (b : Nat) : Option Int :=
  let a := n * b % M.P
  if a ≤ 9999 then some a else if M.P - 9999 ≤ a then some (a - M.P) else none
/-- from b on, f tries left -/
def fmtGo (n : Int) : Nat → Nat → List UInt8
  | _, 0 => 35 :: decN n.toNat
  | b, f + 1 => match small n b with
    | some a => if b = 1 then decI a else decI a ++ 47 :: decN b
    | none => fmtGo n (b + 1) f
def fmtN (n : Int) : List UInt8 := if M.isNum n then fmtGo n 1 9999 else []
theorem small_bd {n : Int} {b : Nat} {a : Int} (h : small n b = some a) : -9999 ≤ a ∧ a ≤ 9999 := by
  unfold small at h
  have h0 := M.emod_lo (n * b)
  have h1 := M.emod_hi (n * b)
  simp only at h
  split at h
  · cases h; omega
  · split at h
    · cases h
      have : M.P = 1000000271 := rfl
      omega
    · cases h
theorem decN_len : ∀ (k n : Nat), n < 10 ^ k → 0 < k → (decN n).length ≤ k
  | 0, _, _, h => by omega
  | k + 1, n, hn, _ => by
    by_cases h : n < 10
    · rw [decN_lo h]; simp
    · rw [decN_hi h, List.length_append]
      have hk : 0 < k := by
        rcases Nat.eq_zero_or_pos k with e | e
        · subst e; simp at hn; omega
        · exact e
      have hd : n / 10 < 10 ^ k := by
        rw [Nat.pow_succ] at hn
        omega
      have := decN_len k (n / 10) hd hk
      simp
      omega
theorem fmtGo_len {n : Int} (h1 : n < M.P) : ∀ f b, b + f ≤ 10000 → (fmtGo n b f).length ≤ 12
  | 0, b, _ => by
    unfold fmtGo
    have : n.toNat < 10 ^ 10 := by have : M.P = 1000000271 := rfl; omega
    have := decN_len 10 _ this (by omega)
    simp
    omega
  | f + 1, b, hb => by
    unfold fmtGo
    cases hs : small n b with
    | none => exact fmtGo_len h1 f (b + 1) (by omega)
    | some a =>
      obtain ⟨a0, a1⟩ := small_bd hs
      have hd : (decI a).length ≤ 5 := by
        unfold decI
        split
        · have := decN_len 4 a.natAbs (by omega) (by omega)
          simp
          omega
        · have := decN_len 4 a.toNat (by omega) (by omega)
          omega
      have hbl := decN_len 4 b (by omega) (by omega)
      simp only
      split
      · omega
      · simp; omega
theorem fmtN_len (n : Int) : (fmtN n).length ≤ 12 := by
  unfold fmtN
  split
  · rename_i h
    exact fmtGo_len (M.num_of_isNum h).2 _ _ (by omega)
  · simp
end Go.Proofs.YthebegfceaehfaaDoor
