/- Are all numbers different: allDifferent, l7Different. -/
import Derived.Test.YthebegfceaehfaaWts
namespace Go.Proofs.Ythebegfceaehfaa
open Go.RowKit

def NdTo (C : List Int) (k : Nat) : Prop := ∀ i, i < k → ∀ j, j < i → C.getD i 0 ≠ C.getD j 0
instance (C : List Int) (k : Nat) : Decidable (NdTo C k) := by unfold NdTo; infer_instance
def ndB (C : List Int) : Bool := decide (NdTo C C.length)
theorem ndB_yes {C : List Int} {n : Nat} (hn : C.length = n) (h : NdTo C n) : ndB C = true := by subst hn; exact decide_eq_true h
theorem ndB_no {C : List Int} {n i j : Nat} {x y : Int} (hn : C.length = n) (hi : i < n) (hj : j < i) (hx : x = C.getD i 0) (hy : y = C.getD j 0) (h : x = y) : ndB C = false := by
  subst hn
  exact decide_eq_false fun H => H i hi j hj (by rw [← hx, ← hy, h])
/-- j elements ahead of i were compared. -/
def NdAt (C : List Int) (i t : Nat) : Prop := ∀ j, j < t → C.getD i 0 ≠ C.getD j 0
theorem NdAt.next {C : List Int} {i t : Nat} {x y : Int} (h : NdAt C i t) (hx : x = C.getD i 0) (hy : y = C.getD t 0) (hne : x ≠ y) : NdAt C i (t + 1) := by
  intro j hj
  by_cases e : j = t
  · subst e; rw [← hx, ← hy]; exact hne
  · exact h j (by omega)
theorem NdTo.next {C : List Int} {i : Nat} (h : NdTo C i) (h2 : NdAt C i i) : NdTo C (i + 1) := by
  intro k hk j hj
  by_cases e : k = i
  · subst e; exact h2 j hj
  · exact h k (by omega) j hj
theorem dif_of {C : List Int} {n : Nat} (hn : C.length = n) (hN : M.allNum C = true) (hd : ndB C = true) : Dif C n := by
  subst hn
  have hd' : NdTo C C.length := of_decide_eq_true hd
  have hnum : ∀ i, i < C.length → M.num (C.getD i 0) := fun i hi => M.allNum_mem hN _ (by rw [List.getD_eq_getElem?_getD, List.getElem?_eq_getElem hi]; exact List.getElem_mem _)
  intro i j hi hj hij
  rcases Nat.lt_or_gt_of_ne hij with h | h
  · exact Sol.num_diff (hnum i hi) (hnum j hj) (fun e => hd' j hj i h e.symm)
  · exact Sol.num_diff (hnum i hi) (hnum j hj) (hd' i hi j h)
set_option maxHeartbeats 1000000 in
theorem impl_allDifferent (ao : Option Addr) (n c : Nat) (C : List Int) (w : World) (hr : Rd w ao n c C) :
    Calls Try.prog 53 #[.slice ao n c] w fun e w' => e = .returned (.bool (ndB C)) ∧ w = w' := by
  have hn : n ≤ 9223372036854775807 := Nat.le_trans hr.cap hr.max
  have hc := hr.cap
  have hm := hr.max
  have HR := hid hr
  clear hr
  go_enter Try.func53, Try.ntmps53
  go_wp2_with fail
  go_loop [3, 4, 6, 9] (fun _ _ _ i => ∃ k : Nat, i = .int .i64 k ∧ k ≤ n ∧ Hid (NdTo C k)) (fun _ _ _ i => n - (intOf i).toNat)
  case atStart => exact ⟨0, rfl, Nat.zero_le _, hid (fun i hi => absurd hi (Nat.not_lt_zero i))⟩
  case round =>
    obtain ⟨k, rfl, hk, hN⟩ := hrel
    by_cases hlt : k < n
    · have hki : (k : Int) < (n : Int) := by omega
      obtain ⟨b, o, x, rfl, hx0, _, _, hx⟩ := HR.out.at hlt
      go_wp2_with fail
      go_loop [6, 18] (fun _ i => ∃ t : Nat, i = .int .i64 t ∧ t ≤ k ∧ Hid (NdAt C k t)) (fun _ i => k - (intOf i).toNat)
      case atStart => exact ⟨0, rfl, Nat.zero_le _, hid (fun i hi => absurd hi (Nat.not_lt_zero i))⟩
      case round =>
        obtain ⟨t, rfl, ht, hA⟩ := hrel
        by_cases htk : t < k
        · have hti : (t : Int) < (k : Int) := by omega
          obtain ⟨b2, o2, y, e2, hy0, _, _, hy⟩ := HR.out.at (k := t) (by omega)
          cases e2
          by_cases hxy : x = y
          · have hq : (x == y) = true := beq_iff_eq.2 hxy
            have HQ := hid hxy
            clear hxy
            go_wp2_with fail
            go_ret
            exact ⟨ret_b (ndB_no HR.out.len hlt htk hx.out hy.out HQ.out).symm, rfl⟩
          · have hq : (x == y) = false := beq_eq_false_iff_ne.2 hxy
            go_wp2_with fail
            go_round
            case rel => exact ⟨t + 1, by go_num, by omega, hid (hA.out.next hx.out hy.out hxy)⟩
            case measure => simp [intOf]; omega
        · obtain rfl : t = k := by omega
          go_wp2_with fail
          go_round
          case rel => exact ⟨t + 1, by go_num, by omega, hid (hN.out.next hA.out)⟩
          case measure => simp [intOf]; omega
    · obtain rfl : k = n := by omega
      go_wp2_with fail
      go_ret
      exact ⟨ret_b (ndB_yes HR.out.len hN.out).symm, rfl⟩
set_option maxHeartbeats 1000000 in
theorem spec_l7Different (ao : Option Addr) (n c : Nat) (C : List Int) (w : World) (hr : Rd w ao n c C) :
    Calls Try.prog 47 #[.slice ao n c] w fun e w' => e = .returned (.bool (ndB C && M.allNum C)) ∧ Below w.heap.size w w' := by
  have hn : n ≤ 9223372036854775807 := Nat.le_trans hr.cap hr.max
  have HR := hid hr
  clear hr
  go_enter Try.func47, Try.ntmps47
  go_wp2_with fail
  go_loopw [3, 4] (fun i _ wr => ∃ k : Nat, i = .int .i64 k ∧ k ≤ n ∧ Hid (NdTo C k) ∧ Hid (Below w.heap.size w wr)) (fun i _ _ => n - (intOf i).toNat)
  case atStart => exact ⟨0, rfl, Nat.zero_le _, hid (fun i hi => absurd hi (Nat.not_lt_zero i)), hid (Below.refl _ _)⟩
  case round =>
    obtain ⟨k, rfl, hk, hN, hB⟩ := hrel
    by_cases hlt : k < n
    · have hki : (k : Int) < (n : Int) := by omega
      go_wp2_with fail
      go_loopw [4] (fun i wr => ∃ t : Nat, i = .int .i64 t ∧ t ≤ k ∧ Hid (NdAt C k t) ∧ Hid (Below w.heap.size w wr)) (fun i _ => k - (intOf i).toNat)
      case atStart => exact ⟨0, rfl, Nat.zero_le _, hid (fun i hi => absurd hi (Nat.not_lt_zero i)), hB⟩
      case round =>
        clear hB
        obtain ⟨t, rfl, ht, hA, hB⟩ := hrel
        by_cases htk : t < k
        · have hti : (t : Int) < (k : Int) := by omega
          have htn : (t : Int) < (n : Int) := by omega
          obtain ⟨b, o, x, rfl, hx0, _, _, hx⟩ := (HR.out.below hB.out).at hlt
          obtain ⟨b2, o2, y, e2, hy0, _, _, hy⟩ := (HR.out.below hB.out).at (k := t) (by omega)
          cases e2
          by_cases hxy : x = y
          · have hq : (y == x) = true := beq_iff_eq.2 hxy.symm
            have HQ := hid hxy
            clear hxy
            go_wp2_with fail
            go_quiet (fail)
            go_wp2_with fail
            go_ret
            exact ⟨ret_b (by rw [ndB_no HR.out.len hlt htk hx.out hy.out HQ.out]; rfl), Below.drewN' hB.out _⟩
          · have hq : (y == x) = false := beq_eq_false_iff_ne.2 (Ne.symm hxy)
            go_wp2_with fail
            go_quiet (fail)
            go_wp2_with fail
            go_roundw
            case rel => exact ⟨t + 1, by go_num, by omega, hid (hA.out.next hx.out hy.out hxy), hid (Below.drewN' hB.out _)⟩
            case measure => simp [intOf]; omega
        · obtain rfl : t = k := by omega
          go_wp2_with fail
          go_roundw
          case rel => exact ⟨t + 1, by go_num, by omega, hid (hN.out.next hA.out), hB⟩
          case measure => simp [intOf]; omega
    · obtain rfl : k = n := by omega
      go_wp2_with fail
      refine (spec_l1All _ _ _ _ _ (HR.out.below hB.out)).mono ?_
      rintro e w1 ⟨rfl, rfl⟩
      go_wp2_with fail
      go_ret
      exact ⟨ret_b (by rw [ndB_yes HR.out.len hN.out]; rfl), hB.out⟩
end Go.Proofs.Ythebegfceaehfaa
