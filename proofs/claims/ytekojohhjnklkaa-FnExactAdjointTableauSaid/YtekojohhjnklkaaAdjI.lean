/- AdjointTableau of the implementation. -/
import Derived.Test.YtekojohhjnklkaaFill
import Derived.Test.YtekojohhjnklkaaQuiet
namespace Go.Proofs.Ytekojohhjnklkaa
open Go.RowKit

theorem impl_AdjointTableau_no (s : Int) (a1 : Option Addr) (n1 c1 : Nat) (A : List Int) (a2 : Option Addr) (n2 c2 : Nat) (B : List Int) (w : World) (h1 : Rd w a1 n1 c1 A) (h2 : Rd w a2 n2 c2 B) (hno : tabOk s A B = false) :
    Calls Try.prog 38 #[.agg #[.int .i64 s, .slice a1 n1 c1, .slice a2 n2 c2]] w fun e w' => ∃ a1 n1 c1 a2 n2 c2, e = .returned (.agg #[.int .i64 0, .slice a1 n1 c1, .slice a2 n2 c2]) ∧ NewT w w' [] [] a1 n1 c1 a2 n2 c2 := by
  have HN := hid hno
  have S0 := hid ((St.first w #[.int .i64 s, .slice a1 n1 c1, .slice a2 n2 c2] 27).alloc (.cells #[.int .i64 0, .slice none 0 0, .slice none 0 0] 27))
  go_enter Try.func38, Try.ntmps38
  go_wp2_with fail
  refine (impl_TableauOk _ _ _ _ A _ _ _ B _ ((h1.alloc _).alloc _) ((h2.alloc _).alloc _)).mono ?_
  rw [HN.out]
  rintro e w1 ⟨rfl, hB⟩
  have S1 := hid (S0.out.step hB)
  have hr := bk_below (heap_alloc_at (w.alloc (.cells #[.int .i64 s, .slice a1 n1 c1, .slice a2 n2 c2] 27)) #[.int .i64 0, .slice none 0 0, .slice none 0 0] 27 (w.heap.size + 1) (by simp)) hB
  have HRS := hid hr
  obtain ⟨⟨r0, r1, r2⟩, f0, f1, f2⟩ := blk3 hr
  clear hB hr
  go_wp2_with fail
  obtain ⟨e1, e2⟩ := none_end S1.out.below (Nat.le_succ _) HRS.out (.int .i64 0) (.slice none 0 0) (.slice none 0 0)
  exact ret_tab rfl rfl e1 rfl ⟨_, _, _, _, _, _, rfl, e2⟩

set_option maxHeartbeats 2000000 in
theorem impl_AdjointTableau_yes (S : Nat) (a1 : Option Addr) (n1 c1 : Nat) (A : List Int) (a2 : Option Addr) (n2 c2 : Nat) (B : List Int) (w : World) (h1 : Rd w a1 n1 c1 A) (h2 : Rd w a2 n2 c2 B) (hok : tabOk S A B = true) (e1 : n1 = S * S) (e2 : n2 = S) (hS : S ≤ 8) :
    Calls Try.prog 38 #[.agg #[.int .i64 S, .slice a1 n1 c1, .slice a2 n2 c2]] w fun e w' => ∃ a1 n1 c1 a2 n2 c2, e = .returned (.agg #[.int .i64 S, .slice a1 n1 c1, .slice a2 n2 c2]) ∧ NewT w w' (firstN (adjE A B S) (S * S)) (firstN (revE B S) S) a1 n1 c1 a2 n2 c2 := by
  have HN := hid hok
  have H1 := hid h1
  have H2 := hid h2
  have E1 := hid e1
  have e64 : n1 ≤ 64 := by rw [e1]; exact Nat.mul_le_mul hS hS
  rw [← e1]
  subst e2
  clear h1 h2 hok e1
  have K0 := hid (heap_alloc_at w #[.int .i64 n2, .slice a1 n1 c1, .slice a2 n2 c2] 27 w.heap.size rfl)
  have K1 := hid (bk_alloc K0.out (.cells #[.int .i64 0, .slice none 0 0, .slice none 0 0] 27))
  have R1 := hid (heap_alloc_at (w.alloc (.cells #[.int .i64 n2, .slice a1 n1 c1, .slice a2 n2 c2] 27)) #[.int .i64 0, .slice none 0 0, .slice none 0 0] 27 (w.heap.size + 1) (by simp))
  have L1 := hid (l_alloc (below_box w (.cells #[.int .i64 n2, .slice a1 n1 c1, .slice a2 n2 c2] 27)) (.cells #[.int .i64 0, .slice none 0 0, .slice none 0 0] 27))
  go_enter Try.func38, Try.ntmps38
  go_wp2_with fail
  refine (impl_TableauOk _ _ _ _ A _ _ _ B _ ((H1.out.alloc _).alloc _) ((H2.out.alloc _).alloc _)).mono ?_
  rw [HN.out]
  rintro e w1 ⟨rfl, hB⟩
  have y1 := hB.size
  simp only [World.size_alloc] at y1
  have K2 := hid (bk_below K1.out hB)
  have R2 := hid (bk_below R1.out hB)
  have L2 := hid (l_below L1.out hB)
  clear hB K0 K1 R1 L1
  obtain ⟨⟨q0, q1, q2⟩, _⟩ := blk3 K2.out
  go_wp2_with fail
  refine (impl_empty n2 n1 _ hS E1.out).mono ?_
  rintro e w2 ⟨bA, bB, rfl, hE⟩
  have y2 := hE.2.2.2.1.size
  have y3 : w1.heap.size ≤ bA ∧ w1.heap.size ≤ bB ∧ bA < w2.heap.size ∧ bB < w2.heap.size := hE.2.2.2.2
  have M0 := hid (Mk.start hE)
  clear hE q0 q1 q2
  have hb := M0.out.old (by omega) K2.out
  obtain ⟨⟨q0, q1, q2⟩, _⟩ := blk3 (w := w2) ((heap_alloc_past w2 _ w.heap.size (by omega)).symm.trans hb)
  clear hb
  have hlt2 : w.heap.size < w2.heap.size := by omega
  go_wp2_with fail
  clear q0 q1 q2
  go_loopw [5, 20] (fun _ i wr => ∃ k : Nat, i = .int .i64 k ∧ k ≤ n2 ∧ w1.heap.size ≤ wr.heap.size ∧ Hid (Mk w1.heap.size w1 wr (.int .i64 n2) w2.heap.size bA bB n1 n2 (backN (adjE A B n2) n1 (k * n2)) (backN (revE B n2) n2 k))) (fun _ i _ => n2 - (intOf i).toNat)
  case atStart => exact ⟨0, rfl, Nat.zero_le _, by simp; omega, hid (by rw [Nat.zero_mul, ← backN_zero, ← backN_zero]; exact M0.out)⟩
  case round =>
    obtain ⟨k, rfl, hk, hz, hM⟩ := hrel
    obtain ⟨wo, rfl⟩ : ∃ wo : World, wo = wr := ⟨_, rfl⟩
    obtain ⟨⟨q0, q1, q2⟩, _⟩ := blk3 (hM.out.old (by omega) K2.out)
    obtain ⟨⟨r0, r1, r2⟩, _⟩ := blk3 hM.out.out
    by_cases hlt : k < n2
    · have hki : (k : Int) < (n2 : Int) := by omega
      go_wp2_with fail
      clear q0 q1 q2 r0 r1 r2
      go_loopw [6, 26] (fun _ i wr => ∃ j : Nat, i = .int .i64 j ∧ j ≤ n2 ∧ w1.heap.size ≤ wr.heap.size ∧ Hid (Mk w1.heap.size w1 wr (.int .i64 n2) w2.heap.size bA bB n1 n2 (backN (adjE A B n2) n1 (k * n2 + j)) (backN (revE B n2) n2 k))) (fun _ i _ => n2 - (intOf i).toNat)
      case atStart => exact ⟨0, rfl, Nat.zero_le _, hz, hM⟩
      case round =>
        clear hM
        obtain ⟨j, rfl, hj, hz, hM⟩ := hrel
        obtain ⟨wq, rfl⟩ : ∃ wq : World, wq = wr := ⟨_, rfl⟩
        obtain ⟨⟨q0, q1, q2⟩, _⟩ := blk3 (hM.out.old (by omega) K2.out)
        obtain ⟨⟨r0, r1, r2⟩, _⟩ := blk3 hM.out.out
        by_cases hjt : j < n2
        · have hki : (j : Int) < (n2 : Int) := by omega
          obtain ⟨b, o, x, rfl, hc, x1, x2, hx⟩ := (H2.out.below (L2.out.trans (hM.out.l.mono (by omega)))).at hjt
          obtain ⟨y, hy, _⟩ := el_of H1.out E1.out hlt hjt hS
          have hne : w.heap.size < wq.heap.size ∧ w2.heap.size < wq.heap.size ∧ b < wq.heap.size := ⟨by omega, bk_lt hM.out.out, World.block_lt_of_cell? wq _ hc⟩
          have hs : ∀ w', Below wq.heap.size wq w' → w'.cell? ⟨w.heap.size, 0, none⟩ = some (.int .i64 n2) ∧ w'.cell? ⟨w.heap.size, 1, none⟩ = some (.slice a1 n1 c1) ∧ w'.cell? ⟨w.heap.size, 2, none⟩ = some (.slice (some ⟨b, o, none⟩) n2 c2) ∧
              w'.cell? ⟨w2.heap.size, 0, none⟩ = some (.int .i64 n2) ∧ w'.cell? ⟨w2.heap.size, 1, none⟩ = some (.slice (some ⟨bA, 0, none⟩) n1 n1) ∧ w'.cell? ⟨w2.heap.size, 2, none⟩ = some (.slice (some ⟨bB, 0, none⟩) n2 n2) ∧
              w'.cell? ⟨b, o + j, none⟩ = some (.int .i64 x) := fun w' hB =>
            ⟨(hB.cell (p := ⟨w.heap.size, 0, none⟩) hne.1).trans q0, (hB.cell (p := ⟨w.heap.size, 1, none⟩) hne.1).trans q1, (hB.cell (p := ⟨w.heap.size, 2, none⟩) hne.1).trans q2,
              (hB.cell (p := ⟨w2.heap.size, 0, none⟩) hne.2.1).trans r0, (hB.cell (p := ⟨w2.heap.size, 1, none⟩) hne.2.1).trans r1, (hB.cell (p := ⟨w2.heap.size, 2, none⟩) hne.2.1).trans r2, (hB.cell (p := ⟨b, o + j, none⟩) hne.2.2).trans hc⟩
          have HKS := hid hs
          obtain ⟨i', hi'e⟩ : ∃ i', i' = n2 - 1 - k := ⟨_, rfl⟩
          obtain ⟨j', hj'e⟩ : ∃ j', j' = n2 - 1 - j := ⟨_, rfl⟩
          have hi' : i' < n2 := by omega
          have hj' : (j' : Int) < (n2 : Int) := by omega
          have ei := wrap_sub (n := n2) (k := k) (i := i') (by omega) (by omega)
          have ej := wrap_sub (n := n2) (k := j) (i := j') (by omega) (by omega)
          have hq : i' * n2 + j' + (k * n2 + j + 1) = n1 ∧ i' * n2 + j' < n1 ∧ adjE A B n2 (i' * n2 + j') = M.minus x y := by
            have h1 := (adj_place hlt hjt).2
            have h2 := adj_at hlt hjt hx hy.out
            rw [← hi'e, ← hj'e] at h1 h2
            rw [E1.out]
            exact ⟨h1, by omega, h2⟩
          clear hs hc hx hi'e hj'e
          go_wp2_with fail
          clear q0 q1 q2 r0 r1 r2
          refine wp_region_tail (C := fun w' => Below wq.heap.size wq w') 18 rfl (by kernel_rfl) ((Below.refl _ _).drew) ?_
          simp only [List.take_succ_cons, List.take_zero, List.drop_succ_cons, List.drop_zero]
          (refine quiet_val ?_ (by rfl) ?_ ?_; rotate_left 1; focus (intro wc hC; obtain ⟨s0, s1, s2, s3, s4, s5, s6⟩ := HKS.out wc hC; go_simp; try rfl))
          (refine quiet_val ?_ (by rfl) ?_ ?_; rotate_left 1; focus (intro wc hC; skip; go_simp; try rfl))
          (refine quiet_val ?_ (by rfl) ?_ ?_; rotate_left 1; focus (intro wc hC; skip; go_simp; try rfl))
          (refine quiet_val ?_ (by rfl) ?_ ?_; rotate_left 1; focus (intro wc hC; skip; go_simp; try rfl))
          (refine quiet_call (.slice (some ⟨bA, 0 + i' * n2, none⟩) n2 (n1 - i' * n2)) ?_ ?_ (by rfl) ?_ ?_ ?_; rotate_left 2; focus (intro wc hC; go_simp; first | done | rfl | (refine And.intro ?_ ?_ <;> rfl)))
          focus (intro wc hC; exact (impl_row n2 i' bA 0 n1 n1 _ wc E1.out (Nat.le_refl _) (by omega) hi' hS).mono fun _ _ h => ⟨h.1, hC.trans (h.2.mono hC.size)⟩)
          (refine quiet_val ?_ (by rfl) ?_ ?_; rotate_left 1; focus (intro wc hC; skip; go_simp; try rfl))
          (refine quiet_val ?_ (by rfl) ?_ ?_; rotate_left 1; focus (intro wc hC; skip; go_simp; try rfl))
          (refine quiet_val ?_ (by rfl) ?_ ?_; rotate_left 1; focus (intro wc hC; skip; go_simp; try rfl))
          (refine quiet_val ?_ (by rfl) ?_ ?_; rotate_left 1; focus (intro wc hC; skip; go_simp; try rfl))
          (refine quiet_val ?_ (by rfl) ?_ ?_; rotate_left 1; focus (intro wc hC; obtain ⟨s0, s1, s2, s3, s4, s5, s6⟩ := HKS.out wc hC; go_simp; try rfl))
          (refine quiet_val ?_ (by rfl) ?_ ?_; rotate_left 1; focus (intro wc hC; skip; go_simp; try rfl))
          (refine quiet_val ?_ (by rfl) ?_ ?_; rotate_left 1; focus (intro wc hC; skip; go_simp; try rfl))
          (refine quiet_val ?_ (by rfl) ?_ ?_; rotate_left 1; focus (intro wc hC; obtain ⟨s0, s1, s2, s3, s4, s5, s6⟩ := HKS.out wc hC; go_simp; try rfl))
          (refine quiet_val ?_ (by rfl) ?_ ?_; rotate_left 1; focus (intro wc hC; obtain ⟨s0, s1, s2, s3, s4, s5, s6⟩ := HKS.out wc hC; go_simp; try rfl))
          (refine quiet_val ?_ (by rfl) ?_ ?_; rotate_left 1; focus (intro wc hC; skip; go_simp; try rfl))
          (refine quiet_val ?_ (by rfl) ?_ ?_; rotate_left 1; focus (intro wc hC; skip; go_simp; try rfl))
          (refine quiet_call (.int .i64 y) ?_ ?_ (by rfl) ?_ ?_ ?_; rotate_left 2; focus (intro wc hC; go_simp; first | done | rfl | (refine And.intro ?_ ?_ <;> rfl)))
          focus (intro wc hC; refine (impl_a n2 k j a1 n1 c1 A _ wc (H1.out.below ((L2.out.trans (hM.out.l.mono (by omega))).trans (hC.mono (by omega)))) E1.out hlt hjt hS).mono ?_; rintro e w' ⟨z, rfl, hz, _, hB⟩; exact ⟨by rw [show z = y from hz.out.trans hy.out.symm], hC.trans (hB.mono hC.size)⟩)
          (refine quiet_call (.int .i64 (M.minus x y)) ?_ ?_ (by rfl) ?_ ?_ ?_; rotate_left 2; focus (intro wc hC; go_simp; first | done | rfl | (refine And.intro ?_ ?_ <;> rfl)))
          focus (intro wc hC; refine (impl_Minus _ _ _).mono ?_; rintro e w' ⟨rfl, rfl⟩; exact ⟨rfl, hC⟩)
          intro w3 hC3
          have hM3 := hM.out.below hC3 hz
          obtain ⟨y', hcA, hfA⟩ := hM3.cellA (k := i' * n2 + j') hq.2.1
          have hM4 := hM3.storeA hq.2.1 (x := M.minus x y) (I64.num (M.num_minus _ _))
          rw [backN_set (t := k * n2 + j) hq.1 hq.2.2] at hM4
          have hN := hid hM4
          have hz3 := hC3.size
          clear hM4
          go_wp2_with fail
          refine ⟨⟨j + 1, by go_num, by omega, ?_, hN⟩, ?_⟩
          · simp; omega
          · simp [intOf]; omega
        · obtain rfl : n2 = j := by omega
          obtain ⟨b, o, x, rfl, hc, x1, x2, hx⟩ := (H2.out.below (L2.out.trans (hM.out.l.mono (by omega)))).at hlt
          have ei := wrap_sub (n := n2) (k := k) (i := n2 - 1 - k) (by omega) (by omega)
          obtain ⟨i', hi'e⟩ : ∃ i', i' = n2 - 1 - k := ⟨_, rfl⟩
          rw [← hi'e] at ei
          have hi' : i' < n2 := by omega
          have hi'i : (i' : Int) < (n2 : Int) := by omega
          obtain ⟨y', hcB, hfB⟩ := hM.out.cellB (k := i') hi'
          have hM4 := hM.out.drew.storeB hi' (x := x) ⟨x1, x2⟩
          rw [backN_set (t := k) (by omega) (by unfold revE; rw [show n2 - 1 - i' = k by omega]; exact hx.symm), show k * n2 + n2 = (k + 1) * n2 by rw [Nat.add_mul, Nat.one_mul]] at hM4
          have hN := hid hM4
          clear hM4 hx hi'e
          go_wp2_with fail
          refine wp_region_still_tail 10 (by kernel_rfl) (by kernel_rfl) ?_
          simp only [List.take_succ_cons, List.take_zero, List.drop_succ_cons, List.drop_zero]
          repeat still_step
          refine wpStill_nil ?_
          change wpList _ _ _ _ _ wq.drew
          go_wp2_with fail
          go_roundw
          case rel => exact ⟨k + 1, by go_num, by omega, by simpa using hz, hN⟩
          case measure => simp [intOf]; omega
    · obtain rfl : n2 = k := by omega
      have hM0 := hM.out
      rw [← E1.out, backN_all, backN_all] at hM0
      have HM1 := hid hM0
      obtain ⟨⟨t0, t1, t2⟩, f0, f1, f2⟩ := blk3 (hM0.old (by omega) R2.out)
      clear hM0 hM
      go_wp2_with fail
      obtain ⟨e1, e2⟩ := HM1.out.finish (Nat.le_succ _) (by omega) L2.out R2.out (.int .i64 n2) (.slice (some ⟨bA, 0, none⟩) n1 n1) (.slice (some ⟨bB, 0, none⟩) n2 n2)
      exact ret_tab rfl rfl e1 rfl ⟨_, _, _, _, _, _, rfl, e2⟩
end Go.Proofs.Ytekojohhjnklkaa
