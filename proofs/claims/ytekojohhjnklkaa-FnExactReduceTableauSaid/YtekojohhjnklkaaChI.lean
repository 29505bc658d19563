/- 'chosen' of the implementation. -/
import Derived.Test.YtekojohhjnklkaaChL
import Derived.Test.YtekojohhjnklkaaQuiet
namespace Go.Proofs.Ytekojohhjnklkaa
open Go.RowKit

set_option maxHeartbeats 2000000 in
theorem impl_chosen (S : Nat) (a1 : Option Addr) (n1 c1 : Nat) (A : List Int) (a2 : Option Addr) (c2 : Nat) (B : List Int) (l : Option Addr) (N d : Nat) (L : List Int) (w : World) (h1 : Rd w a1 n1 c1 A) (h2 : Rd w a2 S c2 B) (h3 : Rd w l N d L) (e1 : n1 = S * S) (hS : S ≤ 8) (hN : N ≤ 8) (hL : ∀ x ∈ L, 0 ≤ x ∧ x < S) :
    Calls Try.prog 69 #[.agg #[.int .i64 S, .slice a1 n1 c1, .slice a2 S c2], .slice l N d] w fun e w' => ∃ a1 n1 c1 a2 n2 c2, e = .returned (.agg #[.int .i64 N, .slice a1 n1 c1, .slice a2 n2 c2]) ∧ NewT w w' (firstN (chE A L S N) (N * N)) (firstN (chB B L) N) a1 n1 c1 a2 n2 c2 := by
  have H1 := hid h1
  have H2 := hid h2
  have H3 := hid h3
  have E1 := hid e1
  have HL := hid hL
  obtain ⟨nn, hnn⟩ : ∃ nn, nn = N * N := ⟨_, rfl⟩
  have e64 : nn ≤ 64 := by rw [hnn]; exact Nat.mul_le_mul hN hN
  rw [← hnn]
  have ENN := hid hnn
  clear h1 h2 h3 e1 hL hnn
  have K1 := hid (bk_alloc (heap_alloc_at w #[.int .i64 S, .slice a1 n1 c1, .slice a2 S c2] 27 w.heap.size rfl) (.cells #[.int .i64 0, .slice none 0 0, .slice none 0 0] 27))
  have R1 := hid (heap_alloc_at (w.alloc (.cells #[.int .i64 S, .slice a1 n1 c1, .slice a2 S c2] 27)) #[.int .i64 0, .slice none 0 0, .slice none 0 0] 27 (w.heap.size + 1) (by simp))
  have L1 := hid (l_alloc (below_box w (.cells #[.int .i64 S, .slice a1 n1 c1, .slice a2 S c2] 27)) (.cells #[.int .i64 0, .slice none 0 0, .slice none 0 0] 27))
  go_enter Try.func69, Try.ntmps69
  go_wp2_with fail
  refine (impl_empty N nn _ hN ENN.out).mono ?_
  obtain ⟨w1, hw1⟩ : ∃ w1, w1 = ((w.alloc (.cells #[.int .i64 S, .slice a1 n1 c1, .slice a2 S c2] 27)).alloc (.cells #[.int .i64 0, .slice none 0 0, .slice none 0 0] 27)) := ⟨_, rfl⟩
  have y1 : w.heap.size + 1 + 1 ≤ w1.heap.size := by rw [hw1]; simp
  rw [← hw1]
  have K2 := hid (hw1 ▸ K1.out)
  have R2 := hid (hw1 ▸ R1.out)
  have L2 := hid (hw1 ▸ L1.out)
  clear K1 R1 L1 hw1
  rintro e w2 ⟨bA, bB, rfl, hE⟩
  have y2 := hE.2.2.2.1.size
  have y3 : w1.heap.size ≤ bA ∧ w1.heap.size ≤ bB ∧ bA < w2.heap.size ∧ bB < w2.heap.size := hE.2.2.2.2
  have M0 := hid (Mk.start hE)
  clear hE
  have hlt2 : w.heap.size < w2.heap.size := by omega
  have hlz := H3.out.cap
  have hlz2 := H3.out.max
  go_wp2_with fail
  go_loopw [6, 7, 15] (fun _ _ i wr => ∃ k : Nat, i = .int .i64 k ∧ k ≤ N ∧ w1.heap.size ≤ wr.heap.size ∧ Hid (Mk w1.heap.size w1 wr (.int .i64 N) w2.heap.size bA bB nn N (headN (chE A L S N) nn (k * N)) (headN (chB B L) N k))) (fun _ _ i _ => N - (intOf i).toNat)
  case atStart => exact ⟨0, rfl, Nat.zero_le _, by simp; omega, hid (by rw [Nat.zero_mul, ← headN_zero, ← headN_zero]; exact M0.out)⟩
  case round =>
    obtain ⟨k, rfl, hk, hz, hM⟩ := hrel
    obtain ⟨wo, rfl⟩ : ∃ wo : World, wo = wr := ⟨_, rfl⟩
    by_cases hlt : k < N
    · have hki : (k : Int) < (N : Int) := by omega
      obtain ⟨lb, lo, x, rfl, hcx, _, _, hx⟩ := (H3.out.below (L2.out.trans (hM.out.l.mono (by omega)))).at hlt
      obtain ⟨hx0, hxS⟩ := HL.out x (mem_at H3.out.len hlt hx.out)
      obtain ⟨xi, rfl⟩ := Int.eq_ofNat_of_zero_le hx0
      have hxi : xi < S := by omega
      go_wp2_with fail
      clear hcx
      go_loopw [8, 9, 22] (fun _ _ i wr => ∃ j : Nat, i = .int .i64 j ∧ j ≤ N ∧ w1.heap.size ≤ wr.heap.size ∧ Hid (Mk w1.heap.size w1 wr (.int .i64 N) w2.heap.size bA bB nn N (headN (chE A L S N) nn (k * N + j)) (headN (chB B L) N k))) (fun _ _ i _ => N - (intOf i).toNat)
      case atStart => exact ⟨0, rfl, Nat.zero_le _, hz, hM⟩
      case round =>
        clear hM
        obtain ⟨j, rfl, hj, hz, hM⟩ := hrel
        obtain ⟨wq, rfl⟩ : ∃ wq : World, wq = wr := ⟨_, rfl⟩
        obtain ⟨⟨q0, q1, q2⟩, _⟩ := blk3 (hM.out.old (by omega) K2.out)
        obtain ⟨⟨r0, r1, r2⟩, _⟩ := blk3 hM.out.out
        by_cases hjt : j < N
        · have hki : (j : Int) < (N : Int) := by omega
          obtain ⟨lb', lo', y, ely, hcy, _, _, hy⟩ := (H3.out.below (L2.out.trans (hM.out.l.mono (by omega)))).at hjt
          cases ely
          obtain ⟨hy0, hyS⟩ := HL.out y (mem_at H3.out.len hjt hy.out)
          obtain ⟨yi, rfl⟩ := Int.eq_ofNat_of_zero_le hy0
          have hyi : yi < S := by omega
          obtain ⟨z, hzE, hz64⟩ := el_of H1.out E1.out hxi hyi hS
          have hbd := step_bd hlt hN
          have hq : k * N + j < nn ∧ chE A L S N (k * N + j) = z := ⟨by rw [ENN.out]; omega, chE_at hjt hx.out hy.out rfl rfl hzE.out⟩
          have hne : w.heap.size < wq.heap.size ∧ w2.heap.size < wq.heap.size := ⟨by omega, bk_lt hM.out.out⟩
          have hs : ∀ w', Below wq.heap.size wq w' → w'.cell? ⟨w.heap.size, 0, none⟩ = some (.int .i64 S) ∧ w'.cell? ⟨w.heap.size, 1, none⟩ = some (.slice a1 n1 c1) ∧ w'.cell? ⟨w.heap.size, 2, none⟩ = some (.slice a2 S c2) ∧
              w'.cell? ⟨w2.heap.size, 0, none⟩ = some (.int .i64 N) ∧ w'.cell? ⟨w2.heap.size, 1, none⟩ = some (.slice (some ⟨bA, 0, none⟩) nn nn) ∧ w'.cell? ⟨w2.heap.size, 2, none⟩ = some (.slice (some ⟨bB, 0, none⟩) N N) := fun w' hB =>
            ⟨(hB.cell (p := ⟨w.heap.size, 0, none⟩) hne.1).trans q0, (hB.cell (p := ⟨w.heap.size, 1, none⟩) hne.1).trans q1, (hB.cell (p := ⟨w.heap.size, 2, none⟩) hne.1).trans q2,
              (hB.cell (p := ⟨w2.heap.size, 0, none⟩) hne.2).trans r0, (hB.cell (p := ⟨w2.heap.size, 1, none⟩) hne.2).trans r1, (hB.cell (p := ⟨w2.heap.size, 2, none⟩) hne.2).trans r2⟩
          have HKS := hid hs
          have HQ := hid hq
          have HZ := hid hzE.out
          clear hs hq hbd hzE
          go_wp2_with fail
          clear q0 q1 q2 r0 r1 r2 hcy
          refine wp_region_tail (C := fun w' => Below wq.heap.size wq w') 8 rfl (by kernel_rfl) ((Below.refl _ _).drew) ?_
          simp only [List.take_succ_cons, List.take_zero, List.drop_succ_cons, List.drop_zero]
          (refine quiet_val ?_ (by rfl) ?_ ?_; rotate_left 1; focus (intro wc hC; obtain ⟨s0, s1, s2, s3, s4, s5⟩ := HKS.out wc hC; go_simp; try rfl))
          (refine quiet_val ?_ (by rfl) ?_ ?_; rotate_left 1; focus (intro wc hC; skip; go_simp; try rfl))
          (refine quiet_call (.slice (some ⟨bA, 0 + k * N, none⟩) N (nn - k * N)) ?_ ?_ (by rfl) ?_ ?_ ?_; rotate_left 2; focus (intro wc hC; go_simp; first | done | rfl | (refine And.intro ?_ ?_ <;> rfl)))
          focus (intro wc hC; exact (impl_row N k bA 0 nn nn _ wc ENN.out (Nat.le_refl _) (by omega) hlt hN).mono fun _ _ h => ⟨h.1, hC.trans (h.2.mono hC.size)⟩)
          (refine quiet_val ?_ (by rfl) ?_ ?_; rotate_left 1; focus (intro wc hC; skip; go_simp; try rfl))
          (refine quiet_val ?_ (by rfl) ?_ ?_; rotate_left 1; focus (intro wc hC; obtain ⟨s0, s1, s2, s3, s4, s5⟩ := HKS.out wc hC; go_simp; try rfl))
          (refine quiet_val ?_ (by rfl) ?_ ?_; rotate_left 1; focus (intro wc hC; skip; go_simp; try rfl))
          (refine quiet_val ?_ (by rfl) ?_ ?_; rotate_left 1; focus (intro wc hC; skip; go_simp; try rfl))
          (refine quiet_call (.int .i64 z) ?_ ?_ (by rfl) ?_ ?_ ?_; rotate_left 2; focus (intro wc hC; go_simp; first | done | rfl | (refine And.intro ?_ ?_ <;> rfl)))
          focus (intro wc hC; refine (impl_a S xi yi a1 n1 c1 A _ wc (H1.out.below ((L2.out.trans (hM.out.l.mono (by omega))).trans (hC.mono (by omega)))) E1.out hxi hyi hS).mono ?_; rintro e w' ⟨u, rfl, hu, _, hB⟩; exact ⟨by rw [show u = z from hu.out.trans HZ.out.symm], hC.trans (hB.mono hC.size)⟩)
          intro w3 hC3
          have hM3 := hM.out.below hC3 hz
          obtain ⟨y', hcA, hfA⟩ := hM3.cellA (k := k * N + j) HQ.out.1
          have hM4 := hM3.storeA HQ.out.1 (x := z) hz64
          rw [headN_set HQ.out.2] at hM4
          have hNN := hid hM4
          have hz3 := hC3.size
          clear hM4
          go_wp2_with fail
          refine ⟨⟨j + 1, by go_num, by omega, ?_, hNN⟩, ?_⟩
          · simp; omega
          · simp [intOf]; omega
        · obtain rfl : N = j := by omega
          obtain ⟨b, o, z, rfl, hc, z1, z2, hzz⟩ := (H2.out.below (L2.out.trans (hM.out.l.mono (by omega)))).at hxi
          have hxii : (xi : Int) < (S : Int) := by omega
          obtain ⟨y', hcB, hfB⟩ := hM.out.cellB (k := k) hlt
          have hM4 := hM.out.drew.storeB hlt (x := z) ⟨z1, z2⟩
          rw [headN_set (chB_at hx.out rfl hzz.out), show k * N + N = (k + 1) * N by rw [Nat.add_mul, Nat.one_mul]] at hM4
          have hNN := hid hM4
          clear hM4 hzz
          go_wp2_with fail
          refine wp_region_still_tail 8 (by kernel_rfl) (by kernel_rfl) ?_
          simp only [List.take_succ_cons, List.take_zero, List.drop_succ_cons, List.drop_zero]
          repeat still_step
          refine wpStill_nil ?_
          change wpList _ _ _ _ _ wq.drew
          go_wp2_with fail
          go_roundw
          case rel => exact ⟨k + 1, by go_num, by omega, by simpa using hz, hNN⟩
          case measure => simp [intOf]; omega
    · obtain rfl : N = k := by omega
      have hM0 := hM.out
      rw [← ENN.out, headN_all, headN_all] at hM0
      have HM1 := hid hM0
      obtain ⟨⟨t0, t1, t2⟩, f0, f1, f2⟩ := blk3 (hM0.old (by omega) R2.out)
      obtain ⟨⟨r0, r1, r2⟩, _⟩ := blk3 hM0.out
      clear hM0 hM
      go_wp2_with fail
      obtain ⟨e1, e2⟩ := HM1.out.finish (Nat.le_succ _) (by omega) L2.out R2.out (.int .i64 N) (.slice (some ⟨bA, 0, none⟩) nn nn) (.slice (some ⟨bB, 0, none⟩) N N)
      exact ret_tab rfl rfl e1 rfl ⟨_, _, _, _, _, _, rfl, e2⟩
end Go.Proofs.Ytekojohhjnklkaa
