/- Walks of the number functions: residue, Plus, Minus, Times, Power, Inverse, Fraction. -/
import Derived.Test.YtekojohhjnklkaaRows
import Derived.Test.YtekojohhjnklkaaNum
import Derived.WalkKit
import Derived.ProofKit
import Derived.Handy
import Derived.Outline

namespace Go.Proofs.Ytekojohhjnklkaa
open Go.RowKit

theorem hid {p : Prop} (h : p) : Hid p := h
/-- An int of 64 bits. -/
def I64 (n : Int) : Prop := -9223372036854775808 ≤ n ∧ n ≤ 9223372036854775807
theorem I64.num {n : Int} (h : M.num n) : I64 n := by
  obtain ⟨h1, h2⟩ := h
  unfold M.P at h2
  exact ⟨by omega, by omega⟩

theorem tm_bd (n : Int) : -1000000271 < n.tmod 1000000271 ∧ n.tmod 1000000271 < 1000000271 := by
  rcases Int.le_total 0 n with h | h
  · rw [Int.tmod_eq_emod_of_nonneg h]; omega
  · have h1 : n.tmod 1000000271 = - ((-n) % 1000000271) := by
      rw [← Int.tmod_eq_emod_of_nonneg (by omega), Int.neg_tmod, Int.neg_neg]
    rw [h1]; omega
theorem tm_res (n : Int) : (wrap64 (n.tmod 1000000271 + 1000000271)).tmod 1000000271 = M.res n := by
  have hb := tm_bd n
  rw [IntWalk.wrap64_in _ ⟨by omega, by omega⟩]
  unfold M.res
  show _ = n % 1000000271
  rcases Int.le_total 0 n with h | h
  · rw [Int.tmod_eq_emod_of_nonneg h, Int.tmod_eq_emod_of_nonneg (by omega)]; omega
  · have h1 : n.tmod 1000000271 = - ((-n) % 1000000271) := by
      rw [← Int.tmod_eq_emod_of_nonneg (by omega), Int.neg_tmod, Int.neg_neg]
    rw [h1, Int.tmod_eq_emod_of_nonneg (by omega)]; omega
theorem res_bd (n : Int) : 0 ≤ M.res n ∧ M.res n < 1000000271 := M.num_res n

theorem ret_i {a b : Int} (h : a = b) : Ending.returned (.int .i64 a) = .returned (.int .i64 b) := by rw [h]
theorem ret_b {a b : Bool} (h : a = b) : Ending.returned (.bool a) = .returned (.bool b) := by rw [h]

theorem impl_residue (n : Int) (w : World) :
    Calls Try.prog 83 #[.int .i64 n] w fun e w' => e = .returned (.int .i64 (M.res n)) ∧ w = w' := by
  go_enter Try.func83, Try.ntmps83
  go_wp2
  go_ret
  exact ⟨ret_i (tm_res n), rfl⟩
theorem spec_residue (n : Int) (w : World) :
    Calls Try.prog 84 #[.int .i64 n] w fun e w' => e = .returned (.int .i64 (M.res n)) ∧ w = w' := by
  go_enter Try.func84, Try.ntmps84
  go_wp2
  go_ret
  exact ⟨ret_i (tm_res n), rfl⟩
theorem impl_Plus (a b : Int) (w : World) :
    Calls Try.prog 57 #[.int .i64 a, .int .i64 b] w fun e w' => e = .returned (.int .i64 (M.plus a b)) ∧ w = w' := by
  have ha := res_bd a
  have hb := res_bd b
  have H := hid (M.plus_res a b)
  go_enter Try.func57, Try.ntmps57
  go_wp2_with (go_at_call 83; refine (impl_residue _ _).mono ?_; rintro e w' ⟨rfl, rfl⟩)
  go_ret
  exact ⟨ret_i H.out, rfl⟩
theorem impl_Minus (a b : Int) (w : World) :
    Calls Try.prog 56 #[.int .i64 a, .int .i64 b] w fun e w' => e = .returned (.int .i64 (M.minus a b)) ∧ w = w' := by
  have ha := res_bd a
  have hb := res_bd b
  have H := hid (M.minus_res a b)
  go_enter Try.func56, Try.ntmps56
  go_wp2_with (go_at_call 83; refine (impl_residue _ _).mono ?_; rintro e w' ⟨rfl, rfl⟩)
  go_ret
  exact ⟨ret_i (by rw [← H.out]; unfold M.minus; exact M.add_P _), rfl⟩
theorem impl_Times (a b : Int) (w : World) :
    Calls Try.prog 67 #[.int .i64 a, .int .i64 b] w fun e w' => e = .returned (.int .i64 (M.times a b)) ∧ w = w' := by
  have ha := res_bd a
  have hb := res_bd b
  have hm : 0 ≤ M.res a * M.res b := Int.mul_nonneg ha.1 hb.1
  have hm2 : M.res a * M.res b ≤ 1000000271 * 1000000271 := Int.mul_le_mul (by omega) (by omega) hb.1 (by omega)
  have H := hid (M.times_res a b)
  go_enter Try.func67, Try.ntmps67
  go_wp2_with (go_at_call 83; refine (impl_residue _ _).mono ?_; rintro e w' ⟨rfl, rfl⟩)
  go_ret
  exact ⟨ret_i H.out, rfl⟩
theorem spec_Plus (a b : Int) (w : World) :
    Calls Try.prog 59 #[.int .i64 a, .int .i64 b] w fun e w' => e = .returned (.int .i64 (M.plus a b)) ∧ w = w' := by
  have ha := res_bd a
  have hb := res_bd b
  have H := hid (M.plus_res a b)
  go_enter Try.func59, Try.ntmps59
  go_wp2_with (go_at_call 84; refine (spec_residue _ _).mono ?_; rintro e w' ⟨rfl, rfl⟩)
  go_ret
  exact ⟨ret_i H.out, rfl⟩
theorem spec_Minus (a b : Int) (w : World) :
    Calls Try.prog 58 #[.int .i64 a, .int .i64 b] w fun e w' => e = .returned (.int .i64 (M.minus a b)) ∧ w = w' := by
  have ha := res_bd a
  have hb := res_bd b
  have H := hid (M.minus_res a b)
  go_enter Try.func58, Try.ntmps58
  go_wp2_with (go_at_call 84; refine (spec_residue _ _).mono ?_; rintro e w' ⟨rfl, rfl⟩)
  go_ret
  exact ⟨ret_i (by rw [← H.out]; rfl), rfl⟩
theorem spec_Times (a b : Int) (w : World) :
    Calls Try.prog 65 #[.int .i64 a, .int .i64 b] w fun e w' => e = .returned (.int .i64 (M.times a b)) ∧ w = w' := by
  have ha := res_bd a
  have hb := res_bd b
  have hm : 0 ≤ M.res a * M.res b := Int.mul_nonneg ha.1 hb.1
  have hm2 : M.res a * M.res b ≤ 1000000271 * 1000000271 := Int.mul_le_mul (by omega) (by omega) hb.1 (by omega)
  have H := hid (M.times_res a b)
  go_enter Try.func65, Try.ntmps65
  go_wp2_with (go_at_call 84; refine (spec_residue _ _).mono ?_; rintro e w' ⟨rfl, rfl⟩)
  go_ret
  exact ⟨ret_i H.out, rfl⟩

theorem pow_bd {x y : Int} (hx : M.num x) (hy : M.num y) : 0 ≤ x * y ∧ x * y ≤ 1000000271 * 1000000271 := by
  obtain ⟨h1, h2⟩ := hx
  obtain ⟨h3, h4⟩ := hy
  unfold M.P at h2 h4
  exact ⟨Int.mul_nonneg h1 h3, Int.mul_le_mul (by omega) (by omega) h3 (by omega)⟩

theorem impl_Power_neg (a k : Int) (w : World) (hk : k < 0) :
    Calls Try.prog 89 #[.int .i64 a, .int .i64 k] w fun e w' => e = .returned (.int .i64 (M.powr a k)) ∧ w = w' := by
  have H := hid (show M.powr a k = 0 from if_pos hk)
  go_enter Try.func89, Try.ntmps89
  go_wp2
  go_ret
  exact ⟨ret_i H.out.symm, rfl⟩
theorem spec_Power_neg (a k : Int) (w : World) (hk : k < 0) :
    Calls Try.prog 85 #[.int .i64 a, .int .i64 k] w fun e w' => e = .returned (.int .i64 (M.powr a k)) ∧ w = w' := by
  have H := hid (show M.powr a k = 0 from if_pos hk)
  go_enter Try.func85, Try.ntmps85
  go_wp2
  go_ret
  exact ⟨ret_i H.out.symm, rfl⟩

/-- What holds at the head of Power's loop: 'o x^k' is what it was. -/
def PowInv (a : Int) (K : Nat) (o x : Int) (k : Nat) : Prop := M.num o ∧ M.num x ∧ (o * x ^ k) % M.P = a ^ K % M.P
theorem PowInv.start (a : Int) (K : Nat) : PowInv a K 1 (M.res a) K := by
  refine ⟨⟨by decide, by decide⟩, M.num_res a, ?_⟩
  rw [Int.one_mul]
  exact M.pow_l a K
theorem PowInv.odd {a : Int} {K : Nat} {o x : Int} {k : Nat} (h : PowInv a K o x k) (hk : k % 2 = 1) : PowInv a K (o * x % M.P) (x * x % M.P) (k / 2) :=
  ⟨M.num_emod _, M.num_emod _, by rw [← h.2.2, M.pow_step o x k, if_pos hk]⟩
theorem PowInv.even {a : Int} {K : Nat} {o x : Int} {k : Nat} (h : PowInv a K o x k) (hk : k % 2 = 0) : PowInv a K o (x * x % M.P) (k / 2) :=
  ⟨h.1, M.num_emod _, by rw [← h.2.2, M.pow_step o x k, if_neg (by omega)]⟩
theorem PowInv.done {a : Int} {K : Nat} {o x : Int} (h : PowInv a K o x 0) : o = M.powr a K := by
  have h1 := h.2.2
  rw [Int.pow_zero, Int.mul_one, M.res_of_num h.1] at h1
  unfold M.powr
  rw [if_neg (by omega)]
  exact h1
theorem half_cast (k : Nat) : ((k : Int) / 2) = ((k / 2 : Nat) : Int) := by omega

theorem impl_Power_pos (a : Int) (K : Nat) (w : World) (hk : K ≤ 9223372036854775807) :
    Calls Try.prog 89 #[.int .i64 a, .int .i64 K] w fun e w' => e = .returned (.int .i64 (M.powr a K)) ∧ w = w' := by
  have hS := hid (PowInv.start a K)
  go_enter Try.func89, Try.ntmps89
  go_wp2_with (go_at_call 83; refine (impl_residue _ _).mono ?_; rintro e w' ⟨rfl, rfl⟩)
  go_loop [1, 5, 6] (fun kv ov xv => ∃ (k : Nat) (o x : Int), kv = .int .i64 k ∧ ov = .int .i64 o ∧ xv = .int .i64 x ∧ k ≤ 9223372036854775807 ∧ Hid (PowInv a K o x k)) (fun kv _ _ => (intOf kv).toNat)
  case atStart => exact ⟨K, 1, _, rfl, rfl, rfl, hk, hS⟩
  case round =>
    obtain ⟨k, o, x, rfl, rfl, rfl, hk', hI⟩ := hrel
    have b1 := pow_bd hI.out.1 hI.out.2.1
    have b2 := pow_bd hI.out.2.1 hI.out.2.1
    by_cases h0 : 0 < k
    · rcases Nat.mod_two_eq_zero_or_one k with hp | hp
      · have hq : (((k : Int) % 2) == 1) = false := by rw [beq_eq_false_iff_ne]; omega
        go_wp2
        go_round
        case rel => exact ⟨k / 2, o, _, by go_num, rfl, rfl, by omega, hid (hI.out.even hp)⟩
        case measure => simp [intOf]; omega
      · have hq : (((k : Int) % 2) == 1) = true := by rw [beq_iff_eq]; omega
        go_wp2
        go_round
        case rel => exact ⟨k / 2, _, _, by go_num, rfl, rfl, by omega, hid (hI.out.odd hp)⟩
        case measure => simp [intOf]; omega
    · obtain rfl : k = 0 := by omega
      go_wp2
      go_ret
      exact ⟨ret_i hI.out.done, rfl⟩

theorem spec_Power_pos (a : Int) (K : Nat) (w : World) (hk : K ≤ 9223372036854775807) :
    Calls Try.prog 85 #[.int .i64 a, .int .i64 K] w fun e w' => e = .returned (.int .i64 (M.powr a K)) ∧ w = w' := by
  have hS := hid (PowInv.start a K)
  go_enter Try.func85, Try.ntmps85
  go_wp2_with (go_at_call 84; refine (spec_residue _ _).mono ?_; rintro e w' ⟨rfl, rfl⟩)
  go_loop [5, 6, 7] (fun ov xv kv => ∃ (k : Nat) (o x : Int), kv = .int .i64 k ∧ ov = .int .i64 o ∧ xv = .int .i64 x ∧ k ≤ 9223372036854775807 ∧ Hid (PowInv a K o x k)) (fun _ _ kv => (intOf kv).toNat)
  case atStart => exact ⟨K, 1, _, rfl, rfl, rfl, hk, hS⟩
  case round =>
    obtain ⟨k, o, x, rfl, rfl, rfl, hk', hI⟩ := hrel
    by_cases h0 : 0 < k
    · rcases Nat.mod_two_eq_zero_or_one k with hp | hp
      · have hq : (((k : Int) % 2) == 1) = false := by rw [beq_eq_false_iff_ne]; omega
        go_wp2_with (go_at_call 65; refine (spec_Times _ _ _).mono ?_; rintro e w' ⟨rfl, rfl⟩)
        go_round
        case rel => exact ⟨k / 2, o, _, by go_num, rfl, rfl, by omega, hid (hI.out.even hp)⟩
        case measure => simp [intOf]; omega
      · have hq : (((k : Int) % 2) == 1) = true := by rw [beq_iff_eq]; omega
        go_wp2_with (go_at_call 65; refine (spec_Times _ _ _).mono ?_; rintro e w' ⟨rfl, rfl⟩)
        go_round
        case rel => exact ⟨k / 2, _, _, by go_num, rfl, rfl, by omega, hid (hI.out.odd hp)⟩
        case measure => simp [intOf]; omega
    · obtain rfl : k = 0 := by omega
      go_wp2
      go_ret
      exact ⟨ret_i hI.out.done, rfl⟩

theorem impl_Power (a k : Int) (w : World) (hk : I64 k) :
    Calls Try.prog 89 #[.int .i64 a, .int .i64 k] w fun e w' => e = .returned (.int .i64 (M.powr a k)) ∧ w = w' := by
  rcases Int.lt_or_le k 0 with h | h
  · exact impl_Power_neg a k w h
  · obtain ⟨K, rfl⟩ := Int.eq_ofNat_of_zero_le h
    exact impl_Power_pos a K w (by have := hk.2; omega)
theorem spec_Power (a k : Int) (w : World) (hk : I64 k) :
    Calls Try.prog 85 #[.int .i64 a, .int .i64 k] w fun e w' => e = .returned (.int .i64 (M.powr a k)) ∧ w = w' := by
  rcases Int.lt_or_le k 0 with h | h
  · exact spec_Power_neg a k w h
  · obtain ⟨K, rfl⟩ := Int.eq_ofNat_of_zero_le h
    exact spec_Power_pos a K w (by have := hk.2; omega)

theorem impl_Inverse (a : Int) (w : World) :
    Calls Try.prog 81 #[.int .i64 a] w fun e w' => e = .returned (.int .i64 (M.inv a)) ∧ w = w' := by
  go_enter Try.func81, Try.ntmps81
  go_wp2_with (go_at_call 89; refine (impl_Power _ _ _ ⟨by omega, by omega⟩).mono ?_; rintro e w' ⟨rfl, rfl⟩)
  go_ret
  exact ⟨rfl, rfl⟩
theorem spec_Inverse (a : Int) (w : World) :
    Calls Try.prog 70 #[.int .i64 a] w fun e w' => e = .returned (.int .i64 (M.inv a)) ∧ w = w' := by
  go_enter Try.func70, Try.ntmps70
  go_wp2_with (go_at_call 85; refine (spec_Power _ _ _ ⟨by omega, by omega⟩).mono ?_; rintro e w' ⟨rfl, rfl⟩)
  go_ret
  exact ⟨rfl, rfl⟩
theorem impl_Fraction (a b : Int) (w : World) :
    Calls Try.prog 54 #[.int .i64 a, .int .i64 b] w fun e w' => e = .returned (.int .i64 (M.frac a b)) ∧ w = w' := by
  go_enter Try.func54, Try.ntmps54
  go_wp2_with (first | (go_at_call 81; refine (impl_Inverse _ _).mono ?_; rintro e w' ⟨rfl, rfl⟩) | (go_at_call 67; refine (impl_Times _ _ _).mono ?_; rintro e w' ⟨rfl, rfl⟩))
  go_ret
  exact ⟨rfl, rfl⟩
theorem spec_Fraction (a b : Int) (w : World) :
    Calls Try.prog 52 #[.int .i64 a, .int .i64 b] w fun e w' => e = .returned (.int .i64 (M.frac a b)) ∧ w = w' := by
  go_enter Try.func52, Try.ntmps52
  go_wp2_with (first | (go_at_call 70; refine (spec_Inverse _ _).mono ?_; rintro e w' ⟨rfl, rfl⟩) | (go_at_call 65; refine (spec_Times _ _ _).mono ?_; rintro e w' ⟨rfl, rfl⟩))
  go_ret
  exact ⟨rfl, rfl⟩
theorem impl_CubeRoot (a : Int) (w : World) :
    Calls Try.prog 86 #[.int .i64 a] w fun e w' => e = .returned (.int .i64 (M.cbRoot a)) ∧ w = w' := by
  go_enter Try.func86, Try.ntmps86
  go_wp2_with (go_at_call 89; refine (impl_Power _ _ _ ⟨by omega, by omega⟩).mono ?_; rintro e w' ⟨rfl, rfl⟩)
  go_ret
  exact ⟨rfl, rfl⟩
theorem spec_CubeRoot (a : Int) (w : World) :
    Calls Try.prog 71 #[.int .i64 a] w fun e w' => e = .returned (.int .i64 (M.cbRoot a)) ∧ w = w' := by
  go_enter Try.func71, Try.ntmps71
  go_wp2_with (go_at_call 85; refine (spec_Power _ _ _ ⟨by omega, by omega⟩).mono ?_; rintro e w' ⟨rfl, rfl⟩)
  go_ret
  exact ⟨rfl, rfl⟩
theorem impl_jumpStep (w : World) :
    Calls Try.prog 72 #[] w fun e w' => e = .returned (.int .i64 M.jump) ∧ w = w' := by
  go_enter Try.func72, Try.ntmps72
  go_wp2_with (first | (go_at_call 86; refine (impl_CubeRoot _ _).mono ?_; rintro e w' ⟨rfl, rfl⟩) | (go_at_call 56; refine (impl_Minus _ _ _).mono ?_; rintro e w' ⟨rfl, rfl⟩) | (go_at_call 81; refine (impl_Inverse _ _).mono ?_; rintro e w' ⟨rfl, rfl⟩))
  go_ret
  exact ⟨rfl, rfl⟩

/-! roots -/
theorem sq_bd (a : Int) : 0 ≤ M.powr a 250000068 ∧ M.powr a 250000068 < 1000000271 := M.num_powr a _
theorem sq_no {a : Int} (h : (M.powr a 250000068 * M.powr a 250000068 % 1000000271 != M.res a) = true) : M.sqOk a = false ∧ M.sqVal a = 0 := by
  have h1 : M.sqOk a = false := by
    unfold M.sqOk
    rw [decide_eq_false_iff_not]
    exact bne_iff_ne.1 h
  exact ⟨h1, by unfold M.sqVal; rw [h1]; rfl⟩
theorem sq_yes {a : Int} (h : (M.powr a 250000068 * M.powr a 250000068 % 1000000271 != M.res a) = false) : M.sqOk a = true ∧ M.sqVal a = min (M.powr a 250000068) (M.res (-(M.powr a 250000068))) := by
  have h1 : M.sqOk a = true := by
    unfold M.sqOk
    rw [decide_eq_true_iff]
    exact bne_eq_false_iff_eq.1 h
  exact ⟨h1, by unfold M.sqVal; rw [h1]; rfl⟩
theorem ret_ib {a b : Int} {x y : Bool} (h : a = b) (h' : x = y) : Ending.returned (.tuple #[.int .i64 a, .bool x]) = .returned (.tuple #[.int .i64 b, .bool y]) := by rw [h, h']
theorem impl_SquareRoot (a : Int) (w : World) :
    Calls Try.prog 82 #[.int .i64 a] w fun e w' => e = .returned (.tuple #[.int .i64 (M.sqVal a), .bool (M.sqOk a)]) ∧ w = w' := by
  have hb := sq_bd a
  have b1 := pow_bd (M.num_powr a 250000068) (M.num_powr a 250000068)
  have hp := hid (M.powr_res a 250000068)
  cases hc : (M.powr a 250000068 * M.powr a 250000068 % 1000000271 != M.res a) with
  | true =>
    have H := hid (sq_no hc)
    go_enter Try.func82, Try.ntmps82
    go_wp2_with (first | (go_at_call 83; refine (impl_residue _ _).mono ?_; rintro e w' ⟨rfl, rfl⟩) | (go_at_call 89; refine (impl_Power _ _ _ ⟨by omega, by omega⟩).mono ?_; rintro e w' ⟨rfl, rfl⟩; rw [hp.out]))
    go_ret2
    exact ⟨ret_ib H.out.2.symm H.out.1.symm, rfl⟩
  | false =>
    have H := hid (sq_yes hc)
    rcases Int.le_total (M.powr a 250000068) (M.res (-(M.powr a 250000068))) with hle | hle
    · go_enter Try.func82, Try.ntmps82
      go_wp2_with (first | (go_at_call 83; refine (impl_residue _ _).mono ?_; rintro e w' ⟨rfl, rfl⟩) | (go_at_call 89; refine (impl_Power _ _ _ ⟨by omega, by omega⟩).mono ?_; rintro e w' ⟨rfl, rfl⟩; rw [hp.out]))
      all_goals go_ret2
      all_goals exact ⟨ret_ib (by rw [H.out.2]; omega) H.out.1.symm, rfl⟩
    · go_enter Try.func82, Try.ntmps82
      go_wp2_with (first | (go_at_call 83; refine (impl_residue _ _).mono ?_; rintro e w' ⟨rfl, rfl⟩) | (go_at_call 89; refine (impl_Power _ _ _ ⟨by omega, by omega⟩).mono ?_; rintro e w' ⟨rfl, rfl⟩; rw [hp.out]))
      all_goals go_ret2
      all_goals exact ⟨ret_ib (by rw [H.out.2]; omega) H.out.1.symm, rfl⟩
theorem spec_SquareRoot (a : Int) (w : World) :
    Calls Try.prog 80 #[.int .i64 a] w fun e w' => e = .returned (.tuple #[.int .i64 (M.sqVal a), .bool (M.sqOk a)]) ∧ w = w' := by
  have hb := sq_bd a
  cases hc : (M.times (M.powr a 250000068) (M.powr a 250000068) != M.res a) with
  | true =>
    have H := hid (sq_no hc)
    go_enter Try.func80, Try.ntmps80
    go_wp2_with (first | (go_at_call 84; refine (spec_residue _ _).mono ?_; rintro e w' ⟨rfl, rfl⟩) | (go_at_call 85; refine (spec_Power _ _ _ ⟨by omega, by omega⟩).mono ?_; rintro e w' ⟨rfl, rfl⟩) | (go_at_call 65; refine (spec_Times _ _ _).mono ?_; rintro e w' ⟨rfl, rfl⟩))
    go_ret2
    exact ⟨ret_ib H.out.2.symm H.out.1.symm, rfl⟩
  | false =>
    have H := hid (sq_yes hc)
    rcases Int.le_total (M.powr a 250000068) (M.res (-(M.powr a 250000068))) with hle | hle
    · go_enter Try.func80, Try.ntmps80
      go_wp2_with (first | (go_at_call 84; refine (spec_residue _ _).mono ?_; rintro e w' ⟨rfl, rfl⟩) | (go_at_call 85; refine (spec_Power _ _ _ ⟨by omega, by omega⟩).mono ?_; rintro e w' ⟨rfl, rfl⟩) | (go_at_call 65; refine (spec_Times _ _ _).mono ?_; rintro e w' ⟨rfl, rfl⟩))
      all_goals go_ret2
      all_goals exact ⟨ret_ib (by rw [H.out.2]; omega) H.out.1.symm, rfl⟩
    · go_enter Try.func80, Try.ntmps80
      go_wp2_with (first | (go_at_call 84; refine (spec_residue _ _).mono ?_; rintro e w' ⟨rfl, rfl⟩) | (go_at_call 85; refine (spec_Power _ _ _ ⟨by omega, by omega⟩).mono ?_; rintro e w' ⟨rfl, rfl⟩) | (go_at_call 65; refine (spec_Times _ _ _).mono ?_; rintro e w' ⟨rfl, rfl⟩))
      all_goals go_ret2
      all_goals exact ⟨ret_ib (by rw [H.out.2]; omega) H.out.1.symm, rfl⟩
theorem impl_root (a : Int) (w : World) :
    Calls Try.prog 55 #[.int .i64 a] w fun e w' => e = .returned (.int .i64 (M.sqVal a)) ∧ w = w' := by
  go_enter Try.func55, Try.ntmps55
  go_wp2_with (go_at_call 82; refine (impl_SquareRoot _ _).mono ?_; rintro e w' ⟨rfl, rfl⟩)
  go_ret
  exact ⟨rfl, rfl⟩
theorem spec_root (a : Int) (w : World) :
    Calls Try.prog 53 #[.int .i64 a] w fun e w' => e = .returned (.int .i64 (M.sqVal a)) ∧ w = w' := by
  go_enter Try.func53, Try.ntmps53
  go_wp2_with (go_at_call 80; refine (spec_SquareRoot _ _).mono ?_; rintro e w' ⟨rfl, rfl⟩)
  go_ret
  exact ⟨rfl, rfl⟩
end Go.Proofs.Ytekojohhjnklkaa
