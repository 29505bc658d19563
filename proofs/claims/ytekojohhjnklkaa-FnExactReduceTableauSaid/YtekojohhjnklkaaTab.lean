/- TableauOk and the small functions on tableaus. -/
import Derived.Test.YtekojohhjnklkaaLawTab
namespace Go.Proofs.Ytekojohhjnklkaa
open Go.RowKit

/-- TableauOk -/
def tabOk (s : Int) (A B : List Int) : Bool := decide (0 ≤ s ∧ s ≤ 8 ∧ (A.length : Int) = s * s ∧ (B.length : Int) = s) && (M.allNum A && M.allNum B)
theorem tabOk_no {s : Int} {A B : List Int} (h : ¬ (0 ≤ s ∧ s ≤ 8 ∧ (A.length : Int) = s * s ∧ (B.length : Int) = s)) : tabOk s A B = false := by
  unfold tabOk; rw [decide_eq_false h]; rfl
theorem tabOk_yes {s : Int} {A B : List Int} (h : 0 ≤ s ∧ s ≤ 8 ∧ (A.length : Int) = s * s ∧ (B.length : Int) = s) : tabOk s A B = (M.allNum A && M.allNum B) := by
  unfold tabOk; rw [decide_eq_true h]; rfl
theorem sq_le {s : Int} (h0 : 0 ≤ s) (h8 : s ≤ 8) : 0 ≤ s * s ∧ s * s ≤ 64 :=
  ⟨Int.mul_nonneg h0 h0, Int.mul_le_mul h8 h8 h0 (by omega)⟩

theorem impl_TableauOk (s : Int) (a1 : Option Addr) (n1 c1 : Nat) (A : List Int) (a2 : Option Addr) (n2 c2 : Nat) (B : List Int) (w : World) (h1 : Rd w a1 n1 c1 A) (h2 : Rd w a2 n2 c2 B) :
    Calls Try.prog 18 #[.agg #[.int .i64 s, .slice a1 n1 c1, .slice a2 n2 c2]] w fun e w' => e = .returned (.bool (tabOk s A B)) ∧ Below w.heap.size w w' := by
  have H1 := hid h1
  have H2 := hid h2
  have l1 := h1.len
  have l2 := h2.len
  clear h1 h2
  by_cases c0 : 0 ≤ s
  · by_cases c8 : s ≤ 8
    · have hsq := sq_le c0 c8
      by_cases e1 : (n1 : Int) = s * s
      · have q1 : ((n1 : Int) == s * s) = true := beq_iff_eq.2 e1
        by_cases e2 : (n2 : Int) = s
        · have q2 : ((n2 : Int) == s) = true := beq_iff_eq.2 e2
          have HH := hid (tabOk_yes (A := A) (B := B) ⟨c0, c8, l1 ▸ e1, l2 ▸ e2⟩)
          clear l1 l2 e1 e2
          cases hA : M.allNum A with
          | true =>
            have HA := hid hA
            go_enter Try.func18, Try.ntmps18
            go_wp2_with fail
            refine (impl_allNumbers _ _ _ A _ (H1.out.alloc _)).mono ?_
            rintro e w1 ⟨rfl, rfl⟩
            rw [HA.out]
            go_wp2_with fail
            refine (impl_allNumbers _ _ _ B _ (H2.out.alloc _)).mono ?_
            rintro e w1 ⟨rfl, rfl⟩
            go_wp2_with fail
            go_ret
            exact ⟨ret_b (by rw [HH.out, HA.out]; simp), below_box _ _⟩
          | false =>
            have HA := hid hA
            go_enter Try.func18, Try.ntmps18
            go_wp2_with fail
            refine (impl_allNumbers _ _ _ A _ (H1.out.alloc _)).mono ?_
            rintro e w1 ⟨rfl, rfl⟩
            rw [HA.out]
            go_wp2_with fail
            go_ret
            exact ⟨ret_b (by rw [HH.out, HA.out]; rfl), below_box _ _⟩
        · have q2 : ((n2 : Int) == s) = false := beq_eq_false_iff_ne.2 e2
          have HH := hid (tabOk_no (s := s) (A := A) (B := B) (fun h => e2 (l2 ▸ h.2.2.2)))
          clear l1 l2 e1 e2
          go_enter Try.func18, Try.ntmps18
          go_wp2_with fail
          go_ret
          exact ⟨ret_b HH.out.symm, below_box _ _⟩
      · have q1 : ((n1 : Int) == s * s) = false := beq_eq_false_iff_ne.2 e1
        have HH := hid (tabOk_no (s := s) (A := A) (B := B) (fun h => e1 (l1 ▸ h.2.2.1)))
        clear l1 l2 e1
        go_enter Try.func18, Try.ntmps18
        go_wp2_with fail
        go_ret
        exact ⟨ret_b HH.out.symm, below_box _ _⟩
    · have HH := hid (tabOk_no (s := s) (A := A) (B := B) (fun h => c8 h.2.1))
      clear l1 l2
      go_enter Try.func18, Try.ntmps18
      go_wp2_with fail
      go_ret
      exact ⟨ret_b HH.out.symm, below_box _ _⟩
  · have HH := hid (tabOk_no (s := s) (A := A) (B := B) (fun h => c0 h.1))
    clear l1 l2
    go_enter Try.func18, Try.ntmps18
    go_wp2_with fail
    go_ret
    exact ⟨ret_b HH.out.symm, below_box _ _⟩
theorem spec_TableauOk (s : Int) (a1 : Option Addr) (n1 c1 : Nat) (A : List Int) (a2 : Option Addr) (n2 c2 : Nat) (B : List Int) (w : World) (h1 : Rd w a1 n1 c1 A) (h2 : Rd w a2 n2 c2 B) :
    Calls Try.prog 16 #[.agg #[.int .i64 s, .slice a1 n1 c1, .slice a2 n2 c2]] w fun e w' => e = .returned (.bool (tabOk s A B)) ∧ Below w.heap.size w w' := by
  have H1 := hid h1
  have H2 := hid h2
  have l1 := h1.len
  have l2 := h2.len
  clear h1 h2
  by_cases c0 : 0 ≤ s ∧ s ≤ 8
  · have hin := hid (show inB s 0 8 = true from decide_eq_true c0)
    obtain ⟨c0, c8⟩ := c0
    have hsq := sq_le c0 c8
    by_cases e1 : (n1 : Int) = s * s
    · have q1 : ((n1 : Int) == s * s) = true := beq_iff_eq.2 e1
      by_cases e2 : (n2 : Int) = s
      · have q2 : ((n2 : Int) == s) = true := beq_iff_eq.2 e2
        have HH := hid (tabOk_yes (A := A) (B := B) ⟨c0, c8, l1 ▸ e1, l2 ▸ e2⟩)
        clear l1 l2 e1 e2
        cases hA : M.allNum A with
        | true =>
          have HA := hid hA
          go_enter Try.func16, Try.ntmps16
          go_wp2_with fail
          refine (spec_l1In _ _ _ _).mono ?_
          rintro e w1 ⟨rfl, rfl⟩
          rw [hin.out]
          go_wp2_with fail
          refine (spec_l1All _ _ _ A _ (H1.out.alloc _)).mono ?_
          rintro e w1 ⟨rfl, rfl⟩
          rw [HA.out]
          go_wp2_with fail
          refine (spec_l1All _ _ _ B _ (H2.out.alloc _)).mono ?_
          rintro e w1 ⟨rfl, rfl⟩
          go_wp2_with fail
          go_ret
          exact ⟨ret_b (by rw [HH.out, HA.out]; simp), below_box _ _⟩
        | false =>
          have HA := hid hA
          go_enter Try.func16, Try.ntmps16
          go_wp2_with fail
          refine (spec_l1In _ _ _ _).mono ?_
          rintro e w1 ⟨rfl, rfl⟩
          rw [hin.out]
          go_wp2_with fail
          refine (spec_l1All _ _ _ A _ (H1.out.alloc _)).mono ?_
          rintro e w1 ⟨rfl, rfl⟩
          rw [HA.out]
          go_wp2_with fail
          go_ret
          exact ⟨ret_b (by rw [HH.out, HA.out]; rfl), below_box _ _⟩
      · have q2 : ((n2 : Int) == s) = false := beq_eq_false_iff_ne.2 e2
        have HH := hid (tabOk_no (s := s) (A := A) (B := B) (fun h => e2 (l2 ▸ h.2.2.2)))
        clear l1 l2 e1 e2
        go_enter Try.func16, Try.ntmps16
        go_wp2_with fail
        refine (spec_l1In _ _ _ _).mono ?_
        rintro e w1 ⟨rfl, rfl⟩
        rw [hin.out]
        go_wp2_with fail
        go_ret
        exact ⟨ret_b HH.out.symm, below_box _ _⟩
    · have q1 : ((n1 : Int) == s * s) = false := beq_eq_false_iff_ne.2 e1
      have HH := hid (tabOk_no (s := s) (A := A) (B := B) (fun h => e1 (l1 ▸ h.2.2.1)))
      clear l1 l2 e1
      go_enter Try.func16, Try.ntmps16
      go_wp2_with fail
      refine (spec_l1In _ _ _ _).mono ?_
      rintro e w1 ⟨rfl, rfl⟩
      rw [hin.out]
      go_wp2_with fail
      go_ret
      exact ⟨ret_b HH.out.symm, below_box _ _⟩
  · have hin := hid (show inB s 0 8 = false from decide_eq_false c0)
    have HH := hid (tabOk_no (s := s) (A := A) (B := B) (fun h => c0 ⟨h.1, h.2.1⟩))
    clear l1 l2 c0
    go_enter Try.func16, Try.ntmps16
    go_wp2_with fail
    refine (spec_l1In _ _ _ _).mono ?_
    rintro e w1 ⟨rfl, rfl⟩
    rw [hin.out]
    go_wp2_with fail
    go_ret
    exact ⟨ret_b HH.out.symm, below_box _ _⟩
end Go.Proofs.Ytekojohhjnklkaa
