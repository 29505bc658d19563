/- Slices of ints in memory: what is read, what is made, and that other blocks keep what they hold. -/
import Derived.Test.YtekojohhjnklkaaBase
namespace Go.Proofs.Ytekojohhjnklkaa
open Go.RowKit

/-- A slice value '.slice ao n c' reads as the list xs of ints. -/
structure Rd (w : World) (ao : Option Addr) (n c : Nat) (xs : List Int) : Prop where
  len : xs.length = n
  cap : n ≤ c
  max : c ≤ 9223372036854775807
  cell : ∀ i, i < n → ∃ b o, ao = some ⟨b, o, none⟩ ∧ w.cell? ⟨b, o + i, none⟩ = some (.int .i64 (xs.getD i 0))
  wf : ∀ x ∈ xs, I64 x

theorem Rd.wfAt {w : World} {ao : Option Addr} {n c : Nat} {xs : List Int} (h : Rd w ao n c xs) (i : Nat) : I64 (xs.getD i 0) := by
  rw [List.getD_eq_getElem?_getD]
  cases e : xs[i]? with
  | none => exact ⟨by decide, by decide⟩
  | some x => exact h.wf x (List.mem_of_getElem? e)

/-- One element, under a name of its own. -/
theorem Rd.at {w : World} {ao : Option Addr} {n c : Nat} {xs : List Int} (h : Rd w ao n c xs) {k : Nat} (hk : k < n) :
    ∃ (b o : Nat) (x : Int), ao = some ⟨b, o, none⟩ ∧ w.cell? ⟨b, o + k, none⟩ = some (.int .i64 x) ∧ -9223372036854775808 ≤ x ∧ x ≤ 9223372036854775807 ∧ Hid (x = xs.getD k 0) := by
  obtain ⟨b, o, e, hc⟩ := h.cell k hk
  exact ⟨b, o, _, e, hc, (h.wfAt k).1, (h.wfAt k).2, rfl⟩

theorem Rd.keep {w w' : World} {ao : Option Addr} {n c : Nat} {xs : List Int} (h : Rd w ao n c xs)
    (hk : ∀ b o, 0 < n → ao = some ⟨b, o, none⟩ → b < w.heap.size → w'.heap[b]? = w.heap[b]?) : Rd w' ao n c xs :=
  ⟨h.len, h.cap, h.max, fun i hi => by
    obtain ⟨b, o, e, hc⟩ := h.cell i hi
    exact ⟨b, o, e, (World.cell?_of_block (w := w) (hk b o (by omega) e (World.block_lt_of_cell? w _ hc))).trans hc⟩, h.wf⟩
theorem Rd.below {w w' : World} {ao : Option Addr} {n c : Nat} {xs : List Int} (h : Rd w ao n c xs) (hb : Below w.heap.size w w') : Rd w' ao n c xs :=
  h.keep fun b _ _ _ hl => hb.block b hl
theorem Rd.belowN {N : Nat} {w w' : World} {ao : Option Addr} {n c : Nat} {xs : List Int} (h : Rd w ao n c xs) (hb : Below N w w') (hN : w.heap.size ≤ N) : Rd w' ao n c xs :=
  h.below (hb.mono hN)
theorem Rd.alloc {w : World} {ao : Option Addr} {n c : Nat} {xs : List Int} (h : Rd w ao n c xs) (o : Obj) : Rd (w.alloc o) ao n c xs :=
  h.below ((Below.refl _ _).alloc (Nat.le_refl _) o)
theorem Rd.drew {w : World} {ao : Option Addr} {n c : Nat} {xs : List Int} (h : Rd w ao n c xs) : Rd w.drew ao n c xs := ⟨h.len, h.cap, h.max, h.cell, h.wf⟩
theorem Rd.nil (w : World) (ao : Option Addr) (c : Nat) (hc : c ≤ 9223372036854775807) : Rd w ao 0 c [] :=
  ⟨rfl, Nat.zero_le _, hc, fun i hi => absurd hi (Nat.not_lt_zero i), fun x hx => by cases hx⟩

theorem take_snoc {α : Type} (d : α) (xs : List α) (k : Nat) (h : k < xs.length) : xs.take (k + 1) = xs.take k ++ [xs.getD k d] := by
  rw [List.take_succ_eq_append_getElem h]; simp [List.getD, h]
theorem drop_cons {α : Type} (d : α) (xs : List α) (k : Nat) (h : k < xs.length) : xs.drop k = xs.getD k d :: xs.drop (k + 1) := by
  rw [List.drop_eq_getElem_cons h]; simp [List.getD, h]

/-! ### IsNumber, allNumbers -/
theorem impl_IsNumber (n : Int) (w : World) :
    Calls Try.prog 79 #[.int .i64 n] w fun e w' => e = .returned (.bool (M.isNum n)) ∧ w = w' := by
  by_cases h1 : 0 ≤ n
  · by_cases h2 : n < 1000000271
    · have H := hid (M.isNum_true (n := n) ⟨h1, h2⟩)
      go_enter Try.func79, Try.ntmps79
      go_wp2
      go_ret
      exact ⟨ret_b H.out.symm, rfl⟩
    · have H := hid (M.isNum_false (n := n) (fun h => h2 h.2))
      go_enter Try.func79, Try.ntmps79
      go_wp2
      go_ret
      exact ⟨ret_b H.out.symm, rfl⟩
  · have H := hid (M.isNum_false (n := n) (fun h => h1 h.1))
    go_enter Try.func79, Try.ntmps79
    go_wp2
    go_ret
    exact ⟨ret_b H.out.symm, rfl⟩
/-- l1In -/
def inB (n lo hi : Int) : Bool := decide (lo ≤ n ∧ n ≤ hi)
theorem spec_l1In (n lo hi : Int) (w : World) :
    Calls Try.prog 49 #[.int .i64 n, .int .i64 lo, .int .i64 hi] w fun e w' => e = .returned (.bool (inB n lo hi)) ∧ w = w' := by
  by_cases h1 : lo ≤ n
  · by_cases h2 : n ≤ hi
    · have H := hid (show inB n lo hi = true from decide_eq_true ⟨h1, h2⟩)
      go_enter Try.func49, Try.ntmps49
      go_wp2
      go_ret
      exact ⟨ret_b H.out.symm, rfl⟩
    · have H := hid (show inB n lo hi = false from decide_eq_false (fun h => h2 h.2))
      go_enter Try.func49, Try.ntmps49
      go_wp2
      go_ret
      exact ⟨ret_b H.out.symm, rfl⟩
  · have H := hid (show inB n lo hi = false from decide_eq_false (fun h => h1 h.1))
    go_enter Try.func49, Try.ntmps49
    go_wp2
    go_ret
    exact ⟨ret_b H.out.symm, rfl⟩
theorem spec_IsNumber (n : Int) (w : World) :
    Calls Try.prog 78 #[.int .i64 n] w fun e w' => e = .returned (.bool (M.isNum n)) ∧ w = w' := by
  have H := hid (show inB n 0 1000000270 = M.isNum n by
    unfold inB M.isNum
    exact decide_eq_decide.2 ⟨fun h => ⟨h.1, by have := h.2; show n < 1000000271; omega⟩, fun h => ⟨h.1, by have : n < 1000000271 := h.2; omega⟩⟩)
  go_enter Try.func78, Try.ntmps78
  go_wp2_with (go_at_call 49; refine (spec_l1In _ _ _ _).mono ?_; rintro e w' ⟨rfl, rfl⟩)
  go_ret
  exact ⟨ret_b H.out, rfl⟩

theorem allNum_step {xs : List Int} {k : Nat} {x : Int} (h : k < xs.length) (ha : M.allNum (xs.take k) = true) (e : x = xs.getD k 0) (hx : M.isNum x = true) : M.allNum (xs.take (k + 1)) = true := by
  subst e
  rw [take_snoc 0 xs k h]
  simp only [M.allNum, List.all_append, List.all_cons, List.all_nil, Bool.and_true, Bool.and_eq_true]
  exact ⟨ha, hx⟩
theorem allNum_stop {xs : List Int} {k : Nat} {x : Int} (h : k < xs.length) (e : x = xs.getD k 0) (hx : M.isNum x = false) : M.allNum xs = false := by
  subst e
  rw [← Bool.not_eq_true]
  intro e
  have := List.all_eq_true.1 e (xs.getD k 0) (by simp [List.getD, h])
  rw [hx] at this
  cases this

theorem impl_allNumbers (ao : Option Addr) (n c : Nat) (xs : List Int) (w : World) (hr : Rd w ao n c xs) :
    Calls Try.prog 51 #[.slice ao n c] w fun e w' => e = .returned (.bool (M.allNum xs)) ∧ w = w' := by
  have hn : n ≤ 9223372036854775807 := Nat.le_trans hr.cap hr.max
  have HR := hid hr
  clear hr
  go_enter Try.func51, Try.ntmps51
  go_wp2
  go_loop [4, 7] (fun _ i => ∃ k : Nat, i = .int .i64 k ∧ k ≤ n ∧ Hid (M.allNum (xs.take k) = true)) (fun _ i => n - (intOf i).toNat)
  case atStart => exact ⟨0, rfl, Nat.zero_le _, hid rfl⟩
  case round =>
    obtain ⟨k, rfl, hk, hA⟩ := hrel
    by_cases hlt : k < n
    · obtain ⟨b, o, x, rfl, hc, _, _, hx⟩ := HR.out.at hlt
      cases hb : M.isNum x with
      | true =>
        have HX := hid hb
        go_wp2_with (go_at_call 79; refine (impl_IsNumber _ _).mono ?_; rintro e w' ⟨rfl, rfl⟩)
        go_round
        case rel => exact ⟨k + 1, by go_num, by omega, hid (allNum_step (by rw [HR.out.len]; exact hlt) hA.out hx.out HX.out)⟩
        case measure => simp [intOf]; omega
      | false =>
        have HX := hid hb
        go_wp2_with (go_at_call 79; refine (impl_IsNumber _ _).mono ?_; rintro e w' ⟨rfl, rfl⟩)
        go_ret
        exact ⟨ret_b (allNum_stop (by rw [HR.out.len]; exact hlt) hx.out HX.out).symm, rfl⟩
    · obtain rfl : k = n := by omega
      go_wp2
      go_ret
      exact ⟨ret_b (by rw [← hA.out, ← HR.out.len, List.take_length]), rfl⟩
theorem spec_l1All (ao : Option Addr) (n c : Nat) (xs : List Int) (w : World) (hr : Rd w ao n c xs) :
    Calls Try.prog 50 #[.slice ao n c] w fun e w' => e = .returned (.bool (M.allNum xs)) ∧ w = w' := by
  have hn : n ≤ 9223372036854775807 := Nat.le_trans hr.cap hr.max
  have HR := hid hr
  clear hr
  go_enter Try.func50, Try.ntmps50
  go_wp2
  go_loop [3] (fun i => ∃ k : Nat, i = .int .i64 k ∧ k ≤ n ∧ Hid (M.allNum (xs.take k) = true)) (fun i => n - (intOf i).toNat)
  case atStart => exact ⟨0, rfl, Nat.zero_le _, hid rfl⟩
  case round =>
    obtain ⟨k, rfl, hk, hA⟩ := hrel
    by_cases hlt : k < n
    · obtain ⟨b, o, x, rfl, hc, _, _, hx⟩ := HR.out.at hlt
      cases hb : M.isNum x with
      | true =>
        have HX := hid hb
        go_wp2_with (go_at_call 78; refine (spec_IsNumber _ _).mono ?_; rintro e w' ⟨rfl, rfl⟩)
        go_round
        case rel => exact ⟨k + 1, by go_num, by omega, hid (allNum_step (by rw [HR.out.len]; exact hlt) hA.out hx.out HX.out)⟩
        case measure => simp [intOf]; omega
      | false =>
        have HX := hid hb
        go_wp2_with (go_at_call 78; refine (spec_IsNumber _ _).mono ?_; rintro e w' ⟨rfl, rfl⟩)
        go_ret
        exact ⟨ret_b (allNum_stop (by rw [HR.out.len]; exact hlt) hx.out HX.out).symm, rfl⟩
    · obtain rfl : k = n := by omega
      go_wp2
      go_ret
      exact ⟨ret_b (by rw [← hA.out, ← HR.out.len, List.take_length]), rfl⟩
end Go.Proofs.Ytekojohhjnklkaa
