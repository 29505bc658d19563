/- 'l6Choose' of the reference. -/
import Derived.Test.YtekojohhjnklkaaChL
import Derived.Test.YtekojohhjnklkaaApMid
import Derived.Test.YtekojohhjnklkaaQuiet
namespace Go.Proofs.Ytekojohhjnklkaa
open Go.RowKit

set_option maxHeartbeats 2000000 in
theorem spec_l6Choose (S : Nat) (a1 : Option Addr) (n1 c1 : Nat) (A : List Int) (a2 : Option Addr) (c2 : Nat) (B : List Int) (l : Option Addr) (N d : Nat) (L : List Int) (w : World) (h1 : Rd w a1 n1 c1 A) (h2 : Rd w a2 S c2 B) (h3 : Rd w l N d L) (e1 : n1 = S * S) (hS : S ≤ 8) (hN : N ≤ 8) (hL : ∀ x ∈ L, 0 ≤ x ∧ x < S) :
    Calls Try.prog 68 #[.agg #[.int .i64 S, .slice a1 n1 c1, .slice a2 S c2], .slice l N d] w fun e w' => ∃ a1 n1 c1 a2 n2 c2, e = .returned (.agg #[.int .i64 N, .slice a1 n1 c1, .slice a2 n2 c2]) ∧ NewT w w' (firstN (chE A L S N) (N * N)) (firstN (chB B L) N) a1 n1 c1 a2 n2 c2 := by
  have H1 := hid h1
  have H2 := hid h2
  have H3 := hid h3
  have E1 := hid e1
  have HL := hid hL
  have hlz := h3.cap
  have hlz2 := h3.max
  clear h1 h2 h3 e1 hL
  have K1 := hid (bk_alloc (heap_alloc_at w #[.int .i64 S, .slice a1 n1 c1, .slice a2 S c2] 27 w.heap.size rfl) (.cells #[.int .i64 0, .slice none 0 0, .slice none 0 0] 27))
  have R1 := hid (heap_alloc_at (w.alloc (.cells #[.int .i64 S, .slice a1 n1 c1, .slice a2 S c2] 27)) #[.int .i64 0, .slice none 0 0, .slice none 0 0] 27 (w.heap.size + 1) (by simp))
  have L1 := hid (l_alloc (below_box w (.cells #[.int .i64 S, .slice a1 n1 c1, .slice a2 S c2] 27)) (.cells #[.int .i64 0, .slice none 0 0, .slice none 0 0] 27))
  go_enter Try.func68, Try.ntmps68
  go_wp2_with fail
  go_loopw [6] (fun i wr => ∃ (k : Nat) (vA vB : Value), i = .int .i64 k ∧ k ≤ N ∧ Hid (Ap (w.heap.size + 1 + 1) ((w.alloc (.cells #[.int .i64 S, .slice a1 n1 c1, .slice a2 S c2] 27)).alloc (.cells #[.int .i64 0, .slice none 0 0, .slice none 0 0] 27)) wr (.int .i64 N) vA vB (k * N) k (firstN (chE A L S N) (k * N)) (firstN (chB B L) k))) (fun i _ => N - (intOf i).toNat)
  case atStart =>
    refine ⟨0, .slice none 0 0, .slice none 0 0, rfl, Nat.zero_le _, hid ?_⟩
    have h := Ap.start ((w.alloc (.cells #[.int .i64 S, .slice a1 n1 c1, .slice a2 S c2] 27)).alloc (.cells #[.int .i64 0, .slice none 0 0, .slice none 0 0] 27)) (.int .i64 N)
    rw [World.size_alloc, World.size_alloc] at h
    rw [Nat.zero_mul]
    exact h
  case round =>
    obtain ⟨w1, hw1⟩ : ∃ w1, w1 = ((w.alloc (.cells #[.int .i64 S, .slice a1 n1 c1, .slice a2 S c2] 27)).alloc (.cells #[.int .i64 0, .slice none 0 0, .slice none 0 0] 27)) := ⟨_, rfl⟩
    rw [← hw1] at hrel ⊢
    have y1 : w1.heap.size = w.heap.size + 1 + 1 := by rw [hw1]; simp
    have K2 := hid (hw1 ▸ K1.out)
    have R2 := hid (hw1 ▸ R1.out)
    have L2 := hid (hw1 ▸ L1.out)
    rw [← y1] at hrel ⊢
    have y2 := Nat.le_of_eq y1.symm
    clear K1 R1 L1 hw1 y1
    obtain ⟨k, vA, vB, rfl, hk, hM⟩ := hrel
    obtain ⟨wo, rfl⟩ : ∃ wo : World, wo = wr := ⟨_, rfl⟩
    have hzz := hM.out.size
    by_cases hlt : k < N
    · have hki : (k : Int) < (N : Int) := by omega
      go_wp2_with fail
      go_loopw [7] (fun i wr => ∃ (j : Nat) (vA : Value), i = .int .i64 j ∧ j ≤ N ∧ Hid (Ap w1.heap.size w1 wr (.int .i64 N) vA vB (k * N + j) k (firstN (chE A L S N) (k * N + j)) (firstN (chB B L) k))) (fun i _ => N - (intOf i).toNat)
      case atStart => exact ⟨0, _, rfl, Nat.zero_le _, hM⟩
      case round =>
        clear hM
        obtain ⟨j, vA, rfl, hj, hM⟩ := hrel
        obtain ⟨wq, rfl⟩ : ∃ wq : World, wq = wr := ⟨_, rfl⟩
        have hzq := hM.out.size
        obtain ⟨⟨q0, q1, q2⟩, _⟩ := blk3 (hM.out.old (by omega) K2.out)
        obtain ⟨⟨r0, r1, r2⟩, g0, g1, g2⟩ := blk3 hM.out.out
        obtain ⟨lb, lo, x, rfl, hx0, _, _, hx⟩ := H3.out.at hlt
        obtain ⟨hxn, hxS⟩ := HL.out x (mem_at H3.out.len hlt hx.out)
        obtain ⟨xi, rfl⟩ := Int.eq_ofNat_of_zero_le hxn
        have hxi : xi < S := by omega
        have hxb := World.block_lt_of_cell? w _ hx0
        simp only at hxb
        have hcx := (((L2.out.trans (hM.out.l.mono (by omega))).cell (p := ⟨lb, lo + k, none⟩) hxb)).trans hx0
        clear hx0
        by_cases hjt : j < N
        · have hji : (j : Int) < (N : Int) := by omega
          obtain ⟨lb', lo', y, ely, hy0, _, _, hy⟩ := H3.out.at hjt
          cases ely
          obtain ⟨hyn, hyS⟩ := HL.out y (mem_at H3.out.len hjt hy.out)
          obtain ⟨yi, rfl⟩ := Int.eq_ofNat_of_zero_le hyn
          have hyi : yi < S := by omega
          have hyb := World.block_lt_of_cell? w _ hy0
          simp only at hyb
          have hcy := (((L2.out.trans (hM.out.l.mono (by omega))).cell (p := ⟨lb, lo + j, none⟩) hyb)).trans hy0
          clear hy0
          obtain ⟨f1, f2, f3, f4, f5⟩ := at_facts E1.out H1.out.cap hxi hyi hS
          have f6 : IntKind.i64.wrap ((xi : Int) * (S : Int)) = (xi : Int) * (S : Int) := IntWalk.i64_in _ ⟨by omega, by omega⟩
          have f7 : IntKind.i64.wrap ((xi : Int) * (S : Int) + (yi : Int)) = (xi : Int) * (S : Int) + (yi : Int) := IntWalk.i64_in _ ⟨by omega, by omega⟩
          have f8 : (0 : Int) ≤ (xi : Int) * (S : Int) + (yi : Int) := by omega
          obtain ⟨e, p, z, rfl, hd0, z1, z2, hzz2⟩ := H1.out.at f5
          have hdl := World.block_lt_of_cell? w _ hd0
          simp only at hdl
          have hd := (((L2.out.trans (hM.out.l.mono (by omega))).cell (p := ⟨e, p + (xi * S + yi), none⟩) hdl)).trans hd0
          clear hd0
          have hbd := step_bd hlt hN
          have hbd2 : k * N + j ≤ 64 := by omega
          have hs : ∀ w', Below (w1.heap.size + 1) wq w' → w'.cell? ⟨w.heap.size, 0, none⟩ = some (.int .i64 S) ∧ w'.cell? ⟨w.heap.size, 1, none⟩ = some (.slice (some ⟨e, p, none⟩) n1 c1) ∧
              w'.cell? ⟨w1.heap.size, 1, none⟩ = some vA ∧ w'.frozen? ⟨w1.heap.size, 1, none⟩ = false ∧ w'.cell? ⟨lb, lo + k, none⟩ = some (.int .i64 xi) ∧ w'.cell? ⟨lb, lo + j, none⟩ = some (.int .i64 yi) ∧ w'.cell? ⟨e, p + (xi * S + yi), none⟩ = some (.int .i64 z) := fun w' hB =>
            ⟨(hB.cell (p := ⟨w.heap.size, 0, none⟩) (by simp; omega)).trans q0, (hB.cell (p := ⟨w.heap.size, 1, none⟩) (by simp; omega)).trans q1,
              (hB.cell (p := ⟨w1.heap.size, 1, none⟩) (by simp)).trans r1, (hB.frozen (p := ⟨w1.heap.size, 1, none⟩) (by simp)).trans g1, (hB.cell (p := ⟨lb, lo + k, none⟩) (by simp; omega)).trans hcx, (hB.cell (p := ⟨lb, lo + j, none⟩) (by simp; omega)).trans hcy, (hB.cell (p := ⟨e, p + (xi * S + yi), none⟩) (by simp; omega)).trans hd⟩
          have HKS := hid hs
          have HZ := hid (show El A S xi yi z from hzz2)
          clear hs hbd hzz2
          go_wp2_with fail
          clear q0 q1 q2 r0 r1 r2 g0 g1 g2 hcx hcy hd
          refine wp_region_kept (S := fun w' => w'.cell? ⟨w.heap.size, 0, none⟩ = some (.int .i64 S) ∧ w'.cell? ⟨w.heap.size, 1, none⟩ = some (.slice (some ⟨e, p, none⟩) n1 c1) ∧
              w'.cell? ⟨w1.heap.size, 1, none⟩ = some vA ∧ w'.frozen? ⟨w1.heap.size, 1, none⟩ = false ∧ w'.cell? ⟨lb, lo + k, none⟩ = some (.int .i64 xi) ∧ w'.cell? ⟨lb, lo + j, none⟩ = some (.int .i64 yi) ∧ w'.cell? ⟨e, p + (xi * S + yi), none⟩ = some (.int .i64 z)) 18 20 rfl (by kernel_rfl) (fun _ _ d _ _ h => by cases d <;> exact h) (HKS.out _ ((Below.refl _ _).drew)) ?_
          simp only [List.take_succ_cons, List.take_zero, List.drop_succ_cons, List.drop_zero]
          (refine take_step (fun K hK => ?_); refine take_val ?_ (by rfl) ?_ ?_; rotate_left 1; (focus (intro wc hC; skip; go_simp; try rfl)); go_simp; refine hK.out _ ?_; clear hK K)
          (refine take_step (fun K hK => ?_); refine take_val ?_ (by rfl) ?_ ?_; rotate_left 1; (focus (intro wc hC; obtain ⟨s0, s1, s2, s3, s4, s5, s6⟩ := hC; go_simp; try rfl)); go_simp; refine hK.out _ ?_; clear hK K)
          (refine take_step (fun K hK => ?_); refine take_val ?_ (by rfl) ?_ ?_; rotate_left 1; (focus (intro wc hC; skip; go_simp; try rfl)); go_simp; refine hK.out _ ?_; clear hK K)
          (refine take_step (fun K hK => ?_); refine take_val ?_ (by rfl) ?_ ?_; rotate_left 1; (focus (intro wc hC; obtain ⟨s0, s1, s2, s3, s4, s5, s6⟩ := hC; go_simp; try rfl)); go_simp; refine hK.out _ ?_; clear hK K)
          (refine take_step (fun K hK => ?_); refine take_val ?_ (by rfl) ?_ ?_; rotate_left 1; (focus (intro wc hC; skip; go_simp; try rfl)); go_simp; refine hK.out _ ?_; clear hK K)
          (refine take_step (fun K hK => ?_); refine take_val ?_ (by rfl) ?_ ?_; rotate_left 1; (focus (intro wc hC; skip; go_simp; try rfl)); go_simp; refine hK.out _ ?_; clear hK K)
          (refine take_step (fun K hK => ?_); refine take_val ?_ (by rfl) ?_ ?_; rotate_left 1; (focus (intro wc hC; skip; go_simp; try rfl)); go_simp; refine hK.out _ ?_; clear hK K)
          (refine take_step (fun K hK => ?_); refine take_val ?_ (by rfl) ?_ ?_; rotate_left 1; (focus (intro wc hC; obtain ⟨s0, s1, s2, s3, s4, s5, s6⟩ := hC; go_simp; try rfl)); go_simp; refine hK.out _ ?_; clear hK K)
          (refine take_step (fun K hK => ?_); refine take_val ?_ (by rfl) ?_ ?_; rotate_left 1; (focus (intro wc hC; skip; go_simp; try rfl)); go_simp; refine hK.out _ ?_; clear hK K)
          (refine take_step (fun K hK => ?_); refine take_val ?_ (by rfl) ?_ ?_; rotate_left 1; (focus (intro wc hC; obtain ⟨s0, s1, s2, s3, s4, s5, s6⟩ := hC; go_simp; try rfl)); go_simp; refine hK.out _ ?_; clear hK K)
          (refine take_step (fun K hK => ?_); refine take_val ?_ (by rfl) ?_ ?_; rotate_left 1; (focus (intro wc hC; skip; go_simp; try rfl)); go_simp; refine hK.out _ ?_; clear hK K)
          (refine take_step (fun K hK => ?_); refine take_val ?_ (by rfl) ?_ ?_; rotate_left 1; (focus (intro wc hC; skip; go_simp; try rfl)); go_simp; refine hK.out _ ?_; clear hK K)
          (refine take_step (fun K hK => ?_); refine take_val ?_ (by rfl) ?_ ?_; rotate_left 1; (focus (intro wc hC; skip; go_simp; try rfl)); go_simp; refine hK.out _ ?_; clear hK K)
          (refine take_step (fun K hK => ?_); refine take_val ?_ (by rfl) ?_ ?_; rotate_left 1; (focus (intro wc hC; skip; go_simp; try rfl)); go_simp; refine hK.out _ ?_; clear hK K)
          (refine take_step (fun K hK => ?_); refine take_val ?_ (by rfl) ?_ ?_; rotate_left 1; (focus (intro wc hC; obtain ⟨s0, s1, s2, s3, s4, s5, s6⟩ := hC; go_simp; try rfl)); go_simp; refine hK.out _ ?_; clear hK K)
          (refine take_step (fun K hK => ?_); refine take_val ?_ (by rfl) ?_ ?_; rotate_left 1; (focus (intro wc hC; skip; go_simp; try rfl)); go_simp; refine hK.out _ ?_; clear hK K)
          (refine take_step (fun K hK => ?_); refine take_val ?_ (by rfl) ?_ ?_; rotate_left 1; (focus (intro wc hC; skip; go_simp; try rfl)); go_simp; refine hK.out _ ?_; clear hK K)
          (refine take_step (fun K hK => ?_); refine take_val ?_ (by rfl) ?_ ?_; rotate_left 1; (focus (intro wc hC; obtain ⟨s0, s1, s2, s3, s4, s5, s6⟩ := hC; go_simp; try rfl)); go_simp; refine hK.out _ ?_; clear hK K)
          change wpMid _ _ _ _ _ _ _ _
          (refine mid_step (fun K hK => ?_); refine mid_val ?_ ?_ (by rfl) ?_ ?_; rotate_left 2; (focus (go_simp; first | done | rfl | (refine And.intro ?_ ?_ <;> rfl))); go_simp; refine hK.out _ _ ?_ ?_ <;> clear hK K)
          · exact HKS.out _ (((Below.refl _ _).drew).alloc (by simp; omega) _)
          refine mid_step (fun K hK => ?_)
          refine step_append_ints (by rfl) _ _ (by rfl) (w1.heap.size + 1) vA _ _ (by rfl) (hM.out.drew.a.alloc _) _ 1 1 [z] (by rfl) (rd_one wq.drew _ _ ⟨z1, z2⟩) (by omega) (by simp; omega) ?_
          intro ao' c' w3 hO hG hW
          have hbl := ((((Below.refl _ _).drew).alloc (by simp; omega) _).grown hG (by simp; omega) (fun k hk => (hM.out.a.lt k hk).1))
          (go_simp; refine hK.out _ _ ?_ ?_ <;> clear hK K)
          · exact HKS.out w3 hbl
          obtain ⟨s0, s1, s2, s3, s4, s5, s6⟩ := HKS.out w3 hbl
          change wpList _ _ _ _ _ _
          have hNN := hid ((hM.out.drew.below (((Below.refl _ _)).alloc (by simp) (.cells #[.int .i64 z] 3))).pushA hO hG hW)
          clear hbl hO hG hW
          go_wp2_with fail
          have e2 : firstN (chE A L S N) (k * N + j) ++ [z] = firstN (chE A L S N) (k * N + j + 1) := by
            rw [firstN_succ, chE_at hjt hx.out hy.out rfl rfl HZ.out]
          have h := hNN.out
          rw [e2] at h
          refine ⟨⟨j + 1, _, by go_num, by omega, hid h⟩, ?_⟩
          simp [intOf]; omega
        · obtain rfl : N = j := by omega
          obtain ⟨b, o, z, rfl, hc0, z1, z2, hzz2⟩ := H2.out.at hxi
          have hbl := World.block_lt_of_cell? w _ hc0
          simp only at hbl
          have hc := (((L2.out.trans (hM.out.l.mono (by omega))).cell (p := ⟨b, o + xi, none⟩) hbl)).trans hc0
          clear hc0
          have hxii : (xi : Int) < (S : Int) := by omega
          have hs : ∀ w', Below (w1.heap.size + 1) wq w' → w'.cell? ⟨w.heap.size, 2, none⟩ = some (.slice (some ⟨b, o, none⟩) S c2) ∧
              w'.cell? ⟨w1.heap.size, 2, none⟩ = some vB ∧ w'.frozen? ⟨w1.heap.size, 2, none⟩ = false ∧ w'.cell? ⟨lb, lo + k, none⟩ = some (.int .i64 xi) ∧ w'.cell? ⟨b, o + xi, none⟩ = some (.int .i64 z) := fun w' hB =>
            ⟨(hB.cell (p := ⟨w.heap.size, 2, none⟩) (by simp; omega)).trans q2,
              (hB.cell (p := ⟨w1.heap.size, 2, none⟩) (by simp)).trans r2, (hB.frozen (p := ⟨w1.heap.size, 2, none⟩) (by simp)).trans g2, (hB.cell (p := ⟨lb, lo + k, none⟩) (by simp; omega)).trans hcx, (hB.cell (p := ⟨b, o + xi, none⟩) (by simp; omega)).trans hc⟩
          have HKS := hid hs
          have HZ := hid hzz2
          clear hs hzz2
          go_wp2_with fail
          clear q0 q1 q2 r0 r1 r2 g0 g1 g2 hc hcx
          refine wp_region_kept (S := fun w' => w'.cell? ⟨w.heap.size, 2, none⟩ = some (.slice (some ⟨b, o, none⟩) S c2) ∧
              w'.cell? ⟨w1.heap.size, 2, none⟩ = some vB ∧ w'.frozen? ⟨w1.heap.size, 2, none⟩ = false ∧ w'.cell? ⟨lb, lo + k, none⟩ = some (.int .i64 xi) ∧ w'.cell? ⟨b, o + xi, none⟩ = some (.int .i64 z)) 10 12 rfl (by kernel_rfl) (fun _ _ d _ _ h => by cases d <;> exact h) (HKS.out _ ((Below.refl _ _).drew)) ?_
          simp only [List.take_succ_cons, List.take_zero, List.drop_succ_cons, List.drop_zero]
          (refine take_step (fun K hK => ?_); refine take_val ?_ (by rfl) ?_ ?_; rotate_left 1; (focus (intro wc hC; skip; go_simp; try rfl)); go_simp; refine hK.out _ ?_; clear hK K)
          (refine take_step (fun K hK => ?_); refine take_val ?_ (by rfl) ?_ ?_; rotate_left 1; (focus (intro wc hC; obtain ⟨s0, s1, s2, s3, s4⟩ := hC; go_simp; try rfl)); go_simp; refine hK.out _ ?_; clear hK K)
          (refine take_step (fun K hK => ?_); refine take_val ?_ (by rfl) ?_ ?_; rotate_left 1; (focus (intro wc hC; skip; go_simp; try rfl)); go_simp; refine hK.out _ ?_; clear hK K)
          (refine take_step (fun K hK => ?_); refine take_val ?_ (by rfl) ?_ ?_; rotate_left 1; (focus (intro wc hC; obtain ⟨s0, s1, s2, s3, s4⟩ := hC; go_simp; try rfl)); go_simp; refine hK.out _ ?_; clear hK K)
          (refine take_step (fun K hK => ?_); refine take_val ?_ (by rfl) ?_ ?_; rotate_left 1; (focus (intro wc hC; skip; go_simp; try rfl)); go_simp; refine hK.out _ ?_; clear hK K)
          (refine take_step (fun K hK => ?_); refine take_val ?_ (by rfl) ?_ ?_; rotate_left 1; (focus (intro wc hC; skip; go_simp; try rfl)); go_simp; refine hK.out _ ?_; clear hK K)
          (refine take_step (fun K hK => ?_); refine take_val ?_ (by rfl) ?_ ?_; rotate_left 1; (focus (intro wc hC; skip; go_simp; try rfl)); go_simp; refine hK.out _ ?_; clear hK K)
          (refine take_step (fun K hK => ?_); refine take_val ?_ (by rfl) ?_ ?_; rotate_left 1; (focus (intro wc hC; obtain ⟨s0, s1, s2, s3, s4⟩ := hC; go_simp; try rfl)); go_simp; refine hK.out _ ?_; clear hK K)
          (refine take_step (fun K hK => ?_); refine take_val ?_ (by rfl) ?_ ?_; rotate_left 1; (focus (intro wc hC; skip; go_simp; try rfl)); go_simp; refine hK.out _ ?_; clear hK K)
          (refine take_step (fun K hK => ?_); refine take_val ?_ (by rfl) ?_ ?_; rotate_left 1; (focus (intro wc hC; obtain ⟨s0, s1, s2, s3, s4⟩ := hC; go_simp; try rfl)); go_simp; refine hK.out _ ?_; clear hK K)
          change wpMid _ _ _ _ _ _ _ _
          (refine mid_step (fun K hK => ?_); refine mid_val ?_ ?_ (by rfl) ?_ ?_; rotate_left 2; (focus (go_simp; first | done | rfl | (refine And.intro ?_ ?_ <;> rfl))); go_simp; refine hK.out _ _ ?_ ?_ <;> clear hK K)
          · exact HKS.out _ (((Below.refl _ _).drew).alloc (by simp; omega) _)
          refine mid_step (fun K hK => ?_)
          refine step_append_ints (by rfl) _ _ (by rfl) (w1.heap.size + 1) vB _ _ (by rfl) (hM.out.drew.b.alloc _) _ 1 1 [z] (by rfl) (rd_one wq.drew _ _ ⟨z1, z2⟩) (by omega) (by simp; omega) ?_
          intro ao' c' w3 hO hG hW
          have hbl := ((((Below.refl _ _).drew).alloc (by simp; omega) _).grown hG (by simp; omega) (fun k hk => (hM.out.b.lt k hk).1))
          (go_simp; refine hK.out _ _ ?_ ?_ <;> clear hK K)
          · exact HKS.out w3 hbl
          obtain ⟨s0, s1, s2, s3, s4⟩ := HKS.out w3 hbl
          change wpList _ _ _ _ _ _
          have hNN := hid ((hM.out.drew.below (((Below.refl _ _)).alloc (by simp) (.cells #[.int .i64 z] 3))).pushB hO hG hW)
          clear hbl hO hG hW
          go_wp2_with fail
          have e2 : firstN (chB B L) k ++ [z] = firstN (chB B L) (k + 1) := by
            rw [firstN_succ, chB_at hx.out rfl HZ.out]
          have e3 : k * N + N = (k + 1) * N := by rw [Nat.add_mul, Nat.one_mul]
          have h := hNN.out
          rw [e2, e3] at h
          go_roundw
          case rel => exact ⟨k + 1, _, _, by go_num, by omega, hid h⟩
          case measure => simp [intOf]; omega
    · obtain rfl : N = k := by omega
      have HM1 := hid hM.out
      obtain ⟨⟨t0, t1, t2⟩, f0, f1, f2⟩ := blk3 (hM.out.old (by omega) R2.out)
      obtain ⟨_, _, rfl, _⟩ := hM.out.a.fr
      obtain ⟨_, _, rfl, _⟩ := hM.out.b.fr
      obtain ⟨⟨r0, r1, r2⟩, _⟩ := blk3 hM.out.out
      clear hM
      go_wp2_with fail
      obtain ⟨_, _, _, _, ea, eb, e1, e2⟩ := HM1.out.finish (Nat.le_succ _) (by omega) L2.out R2.out
      cases ea
      cases eb
      exact ret_tab rfl rfl e1 rfl ⟨_, _, _, _, _, _, rfl, e2⟩
end Go.Proofs.Ytekojohhjnklkaa
