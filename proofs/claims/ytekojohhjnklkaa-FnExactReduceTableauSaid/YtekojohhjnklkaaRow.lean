/- Elements and rows of a tableau; sums. -/
import Derived.Test.YtekojohhjnklkaaTab
import Derived.Test.YtekojohhjnklkaaSt
namespace Go.Proofs.Ytekojohhjnklkaa
open Go.RowKit

/-- A row of A. -/
def rowL (A : List Int) (S i : Nat) : List Int := (A.drop (i * S)).take S
theorem mul_bd {S i : Nat} (hi : i < S) (hS : S ≤ 8) : i * S + S ≤ S * S ∧ S * S ≤ 64 := by
  refine ⟨?_, Nat.mul_le_mul hS hS⟩
  have : (i + 1) * S ≤ S * S := Nat.mul_le_mul_right S hi
  rw [Nat.add_mul, Nat.one_mul] at this
  exact this
theorem rowL_len {A : List Int} {S i : Nat} (hA : A.length = S * S) (hi : i < S) : (rowL A S i).length = S := by
  have : (i + 1) * S ≤ S * S := Nat.mul_le_mul_right S hi
  rw [Nat.add_mul, Nat.one_mul] at this
  unfold rowL
  rw [List.length_take, List.length_drop]
  omega
theorem rowL_at {A : List Int} {S i j : Nat} (hj : j < S) : (rowL A S i).getD j 0 = A.getD (i * S + j) 0 := by
  simp [rowL, List.getD, hj]
theorem Rd.row {w : World} {b o n c : Nat} {A : List Int} {S i : Nat} (h : Rd w (some ⟨b, o, none⟩) n c A) (hn : n = S * S) (hi : i < S) : Rd w (some ⟨b, o + i * S, none⟩) S (c - i * S) (rowL A S i) := by
  have hm : (i + 1) * S ≤ S * S := Nat.mul_le_mul_right S hi
  rw [Nat.add_mul, Nat.one_mul] at hm
  refine ⟨rowL_len (h.len.trans hn) hi, by have := h.cap; omega, by have := h.max; omega, fun j hj => ⟨b, o + i * S, rfl, ?_⟩, fun x hx => h.wf x (List.mem_of_mem_drop (List.mem_of_mem_take hx))⟩
  obtain ⟨b', o', e, hc⟩ := h.cell (i * S + j) (by omega)
  simp only [Option.some.injEq, Addr.mk.injEq, and_true] at e
  obtain ⟨rfl, rfl⟩ := e
  rw [rowL_at hj, Nat.add_assoc]
  exact hc

theorem row_facts {S i n1 c1 : Nat} (hn : n1 = S * S) (hc : n1 ≤ c1) (hi : i < S) (hS : S ≤ 8) :
    (0 : Int) ≤ (i : Int) * (S : Int) ∧ (i : Int) * (S : Int) ≤ ((i : Int) + 1) * (S : Int) ∧ ((i : Int) + 1) * (S : Int) ≤ (c1 : Int) ∧ ((i : Int) + 1) * (S : Int) ≤ 64 ∧ ¬ c1 = i * S ∧
    (((i : Int) + 1) * (S : Int)).toNat = (i + 1) * S ∧ ((i : Int) * (S : Int)).toNat = i * S ∧ (i + 1) * S - i * S = S := by
  have hb := mul_bd hi hS
  have e1 : (i : Int) * (S : Int) = ((i * S : Nat) : Int) := by rw [Int.natCast_mul]
  have e2 : ((i : Int) + 1) * (S : Int) = (((i + 1) * S : Nat) : Int) := by rw [Int.natCast_mul]; rfl
  have e3 : (i + 1) * S = i * S + S := by rw [Nat.add_mul, Nat.one_mul]
  rw [e1, e2, Int.toNat_natCast, Int.toNat_natCast]
  omega
theorem impl_row (S i : Nat) (b o n1 c1 : Nat) (v2 : Value) (w : World) (hn : n1 = S * S) (hc : n1 ≤ c1) (_hm : c1 ≤ 9223372036854775807) (hi : i < S) (hS : S ≤ 8) :
    Calls Try.prog 64 #[.agg #[.int .i64 S, .slice (some ⟨b, o, none⟩) n1 c1, v2], .int .i64 i] w fun e w' => e = .returned (.slice (some ⟨b, o + i * S, none⟩) S (c1 - i * S)) ∧ Below w.heap.size w w' := by
  obtain ⟨f1, f2, f3, f4, f5, f6, f7, f8⟩ := row_facts hn hc hi hS
  have F8 := hid f8
  clear hn f8
  go_enter Try.func64, Try.ntmps64
  go_wp2_with fail
  go_ret
  exact ⟨by simp [F8.out], below_box _ _⟩
theorem spec_row (S i : Nat) (b o n1 c1 : Nat) (v2 : Value) (w : World) (hn : n1 = S * S) (hc : n1 ≤ c1) (_hm : c1 ≤ 9223372036854775807) (hi : i < S) (hS : S ≤ 8) :
    Calls Try.prog 62 #[.agg #[.int .i64 S, .slice (some ⟨b, o, none⟩) n1 c1, v2], .int .i64 i] w fun e w' => e = .returned (.slice (some ⟨b, o + i * S, none⟩) S (c1 - i * S)) ∧ Below w.heap.size w w' := by
  obtain ⟨f1, f2, f3, f4, f5, f6, f7, f8⟩ := row_facts hn hc hi hS
  have F8 := hid f8
  clear hn f8
  go_enter Try.func62, Try.ntmps62
  go_wp2_with fail
  go_ret
  exact ⟨by simp [F8.out], below_box _ _⟩

theorem at_facts {S i j n1 c1 : Nat} (hn : n1 = S * S) (_hc : n1 ≤ c1) (hi : i < S) (hj : j < S) (hS : S ≤ 8) :
    (0 : Int) ≤ (i : Int) * (S : Int) ∧ (i : Int) * (S : Int) + (j : Int) < (n1 : Int) ∧ (i : Int) * (S : Int) + (j : Int) ≤ 64 ∧ ((i : Int) * (S : Int) + (j : Int)).toNat = i * S + j ∧ i * S + j < n1 := by
  have hb := mul_bd hi hS
  have e1 : (i : Int) * (S : Int) = ((i * S : Nat) : Int) := by rw [Int.natCast_mul]
  rw [e1]
  omega
/-- An element of A. -/
def El (A : List Int) (S i j : Nat) (x : Int) : Prop := x = A.getD (i * S + j) 0
theorem impl_a (S i j : Nat) (a1 : Option Addr) (n1 c1 : Nat) (A : List Int) (v2 : Value) (w : World) (h : Rd w a1 n1 c1 A) (hn : n1 = S * S) (hi : i < S) (hj : j < S) (hS : S ≤ 8) :
    Calls Try.prog 60 #[.agg #[.int .i64 S, .slice a1 n1 c1, v2], .int .i64 i, .int .i64 j] w fun e w' => ∃ x, e = .returned (.int .i64 x) ∧ Hid (El A S i j x) ∧ I64 x ∧ Below w.heap.size w w' := by
  obtain ⟨f1, f2, f3, f4, f5⟩ := at_facts hn h.cap hi hj hS
  obtain ⟨b, o, x, rfl, hc, x1, x2, hx⟩ := h.at f5
  have HX := hid (show El A S i j x from hx)
  have hlt := World.block_lt_of_cell? w _ hc
  simp only at hlt
  clear hn h hx f5
  go_enter Try.func60, Try.ntmps60
  go_wp2_with fail
  go_ret
  exact ⟨x, rfl, HX, ⟨x1, x2⟩, below_box _ _⟩

/-! ### sums -/
theorem sum_step {xs : List Int} {k : Nat} {n x : Int} (h : k < xs.length) (hn : n = M.sumL (xs.take k)) (e : x = xs.getD k 0) : M.plus n x = M.sumL (xs.take (k + 1)) := by
  subst e hn
  rw [take_snoc 0 xs k h]
  unfold M.sumL
  rw [List.foldl_append]
  rfl
theorem sum_bd {n : Int} {l : List Int} (h : n = M.sumL l) : M.num n := by
  subst h
  unfold M.sumL
  suffices h : ∀ (l : List Int) (a : Int), M.num a → M.num (l.foldl M.plus a) from h l 0 ⟨by decide, by decide⟩
  intro l
  induction l with
  | nil => exact fun a h => h
  | cons x l ih => exact fun a _ => ih _ (M.num_plus _ _)
theorem impl_sum (ao : Option Addr) (n c : Nat) (xs : List Int) (w : World) (hr : Rd w ao n c xs) :
    Calls Try.prog 63 #[.slice ao n c] w fun e w' => e = .returned (.int .i64 (M.sumL xs)) ∧ w = w' := by
  have hn : n ≤ 9223372036854775807 := Nat.le_trans hr.cap hr.max
  have HR := hid hr
  clear hr
  go_enter Try.func63, Try.ntmps63
  go_wp2
  go_loop [3, 5, 8] (fun s _ i => ∃ (k : Nat) (t : Int), i = .int .i64 k ∧ s = .int .i64 t ∧ k ≤ n ∧ Hid (t = M.sumL (xs.take k))) (fun _ _ i => n - (intOf i).toNat)
  case atStart => exact ⟨0, 0, rfl, rfl, Nat.zero_le _, hid rfl⟩
  case round =>
    obtain ⟨k, t, rfl, rfl, hk, hA⟩ := hrel
    by_cases hlt : k < n
    · obtain ⟨b, o, x, rfl, hc, _, _, hx⟩ := HR.out.at hlt
      go_wp2_with (go_at_call 57; refine (impl_Plus _ _ _).mono ?_; rintro e w' ⟨rfl, rfl⟩)
      go_round
      case rel => exact ⟨k + 1, _, by go_num, rfl, by omega, hid (sum_step (by rw [HR.out.len]; exact hlt) hA.out hx.out)⟩
      case measure => simp [intOf]; omega
    · obtain rfl : k = n := by omega
      go_wp2
      go_ret
      exact ⟨ret_i (by rw [hA.out, ← HR.out.len, List.take_length]), rfl⟩
theorem spec_l6Sum (ao : Option Addr) (n c : Nat) (xs : List Int) (w : World) (hr : Rd w ao n c xs) :
    Calls Try.prog 61 #[.slice ao n c] w fun e w' => e = .returned (.int .i64 (M.sumL xs)) ∧ w = w' := by
  have hn : n ≤ 9223372036854775807 := Nat.le_trans hr.cap hr.max
  have HR := hid hr
  clear hr
  go_enter Try.func61, Try.ntmps61
  go_wp2
  go_loop [3, 4] (fun s i => ∃ (k : Nat) (t : Int), i = .int .i64 k ∧ s = .int .i64 t ∧ k ≤ n ∧ Hid (t = M.sumL (xs.take k))) (fun _ i => n - (intOf i).toNat)
  case atStart => exact ⟨0, 0, rfl, rfl, Nat.zero_le _, hid rfl⟩
  case round =>
    obtain ⟨k, t, rfl, rfl, hk, hA⟩ := hrel
    by_cases hlt : k < n
    · obtain ⟨b, o, x, rfl, hc, _, _, hx⟩ := HR.out.at hlt
      go_wp2_with (go_at_call 59; refine (spec_Plus _ _ _).mono ?_; rintro e w' ⟨rfl, rfl⟩)
      go_round
      case rel => exact ⟨k + 1, _, by go_num, rfl, by omega, hid (sum_step (by rw [HR.out.len]; exact hlt) hA.out hx.out)⟩
      case measure => simp [intOf]; omega
    · obtain rfl : k = n := by omega
      go_wp2
      go_ret
      exact ⟨ret_i (by rw [hA.out, ← HR.out.len, List.take_length]), rfl⟩
end Go.Proofs.Ytekojohhjnklkaa
