/- The checks of a system's rows: systemOk, l1Rows. -/
import Derived.Test.YthebegfceaehfaaGr
namespace Go.Proofs.Ythebegfceaehfaa
open Go.RowKit

/-- A row's numbers. -/
def rowF (m : Nat → Nat → Int) (n i : Nat) : List Int := (List.range n).map (m i)
theorem rowF_len (m : Nat → Nat → Int) (n i : Nat) : (rowF m n i).length = n := by simp [rowF]
theorem rowF_num {m : Nat → Nat → Int} {n i : Nat} (h : ∀ j, j < n → M.num (m i j)) : M.allNum (rowF m n i) = true :=
  M.allNum_of fun x hx => by
    obtain ⟨j, hj, rfl⟩ := List.mem_map.1 hx
    exact h j (List.mem_range.1 hj)
/-- n rows of n numbers, to be read: the outer slice's block ob. -/
def Rm (w : World) (ob n : Nat) (m : Nat → Nat → Int) : Prop := ∀ i, i < n → ∃ ao c, w.cell? ⟨ob, i, none⟩ = some (.slice ao n c) ∧ Rd w ao n c (rowF m n i)
theorem Rm.below {w w' : World} {ob n : Nat} {m : Nat → Nat → Int} (h : Rm w ob n m) (hB : Below w.heap.size w w') : Rm w' ob n m := fun i hi => by
  obtain ⟨ao, c, h1, h2⟩ := h i hi
  exact ⟨ao, c, (hB.cell (World.block_lt_of_cell? w _ h1)).trans h1, h2.below hB⟩
theorem inB_true {n : Nat} (h1 : 1 ≤ n) (h2 : n ≤ 40) : inB (n : Int) 1 40 = true := decide_eq_true ⟨by omega, by omega⟩
theorem impl_systemOk (n ob c : Nat) (m : Nat → Nat → Int) (w : World) (h : Rm w ob n m) (h1 : 1 ≤ n) (h8 : n ≤ 8) (hn : ∀ i j, i < n → j < n → M.num (m i j)) :
    Calls Try.prog 89 #[.slice (some ⟨ob, 0, none⟩) n c] w fun e w' => e = .returned (.bool true) ∧ w = w' := by
  have H := hid h
  have HN := hid hn
  have hn0 : (0 : Int) < (n : Int) := by omega
  have hnz : ((n : Int) == 0) = false := by rw [beq_eq_false_iff_ne]; omega
  clear h hn
  go_enter Try.func89, Try.ntmps89
  go_wp2_with fail
  go_loop [4, 15] (fun _ i => ∃ k : Nat, i = .int .i64 k ∧ k ≤ n) (fun _ i => n - (intOf i).toNat)
  case atStart => exact ⟨0, rfl, Nat.zero_le _⟩
  case round =>
    obtain ⟨k, rfl, hk⟩ := hrel
    by_cases hlt : k < n
    · have hki : (k : Int) < (n : Int) := by omega
      obtain ⟨ao, c1, u0, hr⟩ := H.out k hlt
      obtain ⟨ao0, c0, u1, _⟩ := H.out 0 (by omega)
      have HR := hid hr
      have HA := hid (rowF_num (m := m) (n := n) (i := k) (fun j hj => HN.out k j hlt hj))
      clear hr
      go_wp2_with fail
      refine (impl_allNumbers _ _ _ _ _ HR.out).mono ?_
      rw [HA.out]
      rintro e w' ⟨rfl, rfl⟩
      go_wp2_with fail
      go_round
      case rel => exact ⟨k + 1, by go_num, by omega⟩
      case measure => simp [intOf]; omega
    · obtain rfl : k = n := by omega
      go_wp2_with fail
      go_ret
      exact ⟨rfl, rfl⟩
theorem spec_l1Rows (n ob c : Nat) (m : Nat → Nat → Int) (w : World) (h : Rm w ob n m) (h1 : 1 ≤ n) (h8 : n ≤ 8) (hn : ∀ i j, i < n → j < n → M.num (m i j)) :
    Calls Try.prog 80 #[.slice (some ⟨ob, 0, none⟩) n c] w fun e w' => e = .returned (.bool true) ∧ Below w.heap.size w w' := by
  have H := hid h
  have HN := hid hn
  have hn0 : (0 : Int) < (n : Int) := by omega
  have hnz : ((n : Int) != (n : Int)) = false := by simp
  have HI := hid (inB_true h1 (by omega))
  obtain ⟨a0, c0, v0, _⟩ := h 0 (by omega)
  clear h hn
  go_enter Try.func80, Try.ntmps80
  go_wp2_with (go_at_call 57; refine (spec_l1In _ _ _ _).mono ?_; rw [HI.out]; rintro e w' ⟨rfl, rfl⟩)
  clear v0
  go_loopw [3] (fun i wr => ∃ k : Nat, i = .int .i64 k ∧ k ≤ n ∧ Hid (Below w.heap.size w wr)) (fun i _ => n - (intOf i).toNat)
  case atStart => exact ⟨0, rfl, Nat.zero_le _, hid (Below.refl _ _)⟩
  case round =>
    obtain ⟨k, rfl, hk, hB⟩ := hrel
    by_cases hlt : k < n
    · have hki : (k : Int) < (n : Int) := by omega
      obtain ⟨ao, c1, u0, hr⟩ := (H.out.below hB.out) k hlt
      obtain ⟨ao0, c0, u1, _⟩ := (H.out.below hB.out) 0 (by omega)
      have HA := hid (rowF_num (m := m) (n := n) (i := k) (fun j hj => HN.out k j hlt hj))
      have HR : Hid (∀ wc, Below wr.heap.size wr wc → Calls Try.prog 64 #[.slice ao n c1] wc fun e w' => e = .returned (.bool true) ∧ w' = wc) := hid fun wc hb =>
        (spec_l1All _ _ _ _ _ (hr.below hb)).mono fun _ _ h => ⟨by rw [h.1, HA.out], h.2.symm⟩
      have HQ : Hid (∀ j, Calls Try.prog 64 #[.slice ao n c1] (wr.drewN j) fun e w' => e = .returned (.bool true) ∧ w' = wr.drewN j) := hid fun j => HR.out _ (Below.drewN' (Below.refl _ _) j)
      clear hr
      go_wp2_with fail
      go_quiet ((go_at_call 64; exact Calls.quiet_of_same (HQ.out _)))
      go_wp2_with fail
      go_roundw
      case rel => exact ⟨k + 1, by go_num, by omega, hid (Below.drewN' hB.out _)⟩
      case measure => simp [intOf]; omega
    · obtain rfl : k = n := by omega
      go_wp2_with fail
      go_ret
      exact ⟨rfl, hB.out⟩
end Go.Proofs.Ythebegfceaehfaa
