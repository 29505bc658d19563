/- ComposeTableaus of the reference. -/
import Derived.Test.YtekojohhjnklkaaCmpL
import Derived.Test.YtekojohhjnklkaaApZ
import Derived.Test.YtekojohhjnklkaaQuiet
import Derived.Test.YtekojohhjnklkaaHold2
namespace Go.Proofs.Ytekojohhjnklkaa
open Go.RowKit

set_option maxHeartbeats 4000000 in
theorem spec_ComposeTableaus_yes (S T : Nat) (a1 : Option Addr) (n1 c1 : Nat) (A : List Int) (a2 : Option Addr) (c2 : Nat) (B : List Int) (a3 : Option Addr) (n3 c3 : Nat) (C : List Int) (a4 : Option Addr) (c4 : Nat) (D : List Int) (w : World)
    (h1 : Rd w a1 n1 c1 A) (h2 : Rd w a2 S c2 B) (h3 : Rd w a3 n3 c3 C) (h4 : Rd w a4 T c4 D) (hok1 : tabOk S A B = true) (hok2 : tabOk T C D = true) (e1 : n1 = S * S) (e3 : n3 = T * T) (hN : S + T ≤ 8) :
    Calls Try.prog 39 #[.agg #[.int .i64 S, .slice a1 n1 c1, .slice a2 S c2], .agg #[.int .i64 T, .slice a3 n3 c3, .slice a4 T c4]] w fun e w' => ∃ p n c q m d, e = .returned (.tuple #[.agg #[.int .i64 ((S : Int) + (T : Int)), .slice p n c, .slice q m d], .bool true]) ∧ NewT w w' (cmpL A B C S T (S + T)) (B ++ D) p n c q m d := by
  obtain ⟨N, hNe⟩ : ∃ N, N = S + T := ⟨_, rfl⟩
  have hNi : (S : Int) + (T : Int) = (N : Int) := by omega
  have HN1 := hid hok1
  have HN2 := hid hok2
  have H1 := hid h1
  have H2 := hid h2
  have H3 := hid h3
  have H4 := hid h4
  have E1 := hid e1
  have E3 := hid e3
  obtain ⟨nn, hnn⟩ : ∃ nn, nn = N * N := ⟨_, rfl⟩
  have e64 : nn ≤ 64 := by rw [hnn]; exact Nat.mul_le_mul (show N ≤ 8 by omega) (show N ≤ 8 by omega)
  have ENN := hid hnn
  have HNE := hid hNe
  have hN8 : N ≤ 8 := by omega
  have hS8 : S ≤ N := by omega
  have hT8 : T ≤ N := by omega
  clear h1 h2 h3 h4 hok1 hok2 e1 e3 hnn hNe
  rw [hNi]
  have HNI := hid hNi
  clear hNi
  have S0 := hid (((St.first w #[.int .i64 S, .slice a1 n1 c1, .slice a2 S c2] 27).alloc (.cells #[.int .i64 T, .slice a3 n3 c3, .slice a4 T c4] 27)).alloc (.cells #[.int .i64 0, .slice none 0 0, .slice none 0 0] 27))
  have T0 := hid (bk_alloc (heap_alloc_at (w.alloc (.cells #[.int .i64 S, .slice a1 n1 c1, .slice a2 S c2] 27)) #[.int .i64 T, .slice a3 n3 c3, .slice a4 T c4] 27 (w.heap.size + 1) (by simp)) (.cells #[.int .i64 0, .slice none 0 0, .slice none 0 0] 27))
  have R0 := hid (heap_alloc_at ((w.alloc (.cells #[.int .i64 S, .slice a1 n1 c1, .slice a2 S c2] 27)).alloc (.cells #[.int .i64 T, .slice a3 n3 c3, .slice a4 T c4] 27)) #[.int .i64 0, .slice none 0 0, .slice none 0 0] 27 (w.heap.size + 1 + 1) (by simp))
  go_enter Try.func39, Try.ntmps39
  go_wp2_with fail
  refine (spec_TableauOk _ _ _ _ A _ _ _ B _ (H1.out.below S0.out.below) (H2.out.below S0.out.below)).mono ?_
  rw [HN1.out]
  rintro e w1 ⟨rfl, hB⟩
  have y1 := hB.size
  simp only [World.size_alloc] at y1
  have S1 := hid (S0.out.step hB)
  have T1 := hid (bk_below T0.out hB)
  have R1 := hid (bk_below R0.out hB)
  obtain ⟨⟨q0, q1, q2⟩, _⟩ := blk3 S1.out.box
  obtain ⟨⟨p0, p1, p2⟩, _⟩ := blk3 T1.out
  clear hB S0 T0 R0
  go_wp2_with fail
  refine (spec_TableauOk _ _ _ _ C _ _ _ D _ (H3.out.below S1.out.below) (H4.out.below S1.out.below)).mono ?_
  rw [HN2.out]
  rintro e w2 ⟨rfl, hB⟩
  have y2 := hB.size
  have S2 := hid (S1.out.step hB)
  have T2 := hid (bk_below T1.out hB)
  have R2 := hid (bk_below R1.out hB)
  clear hB S1 T1 R1 q0 q1 q2 p0 p1 p2
  obtain ⟨⟨q0, q1, q2⟩, _⟩ := blk3 S2.out.box
  obtain ⟨⟨p0, p1, p2⟩, _⟩ := blk3 T2.out
  have hwr : IntKind.i64.wrap ((S : Int) + (T : Int)) = (N : Int) := by rw [HNI.out]; exact IntWalk.i64_in (N : Int) ⟨by omega, by omega⟩
  have hg : ¬ (8 : Int) < (N : Int) := by omega
  have A0 := hid (Ap.start w2 (.int .i64 N))
  obtain ⟨⟨t0, t1, t2⟩, _⟩ := blk3 (heap_alloc_past w2 (.cells #[.int .i64 N, .slice none 0 0, .slice none 0 0] 27) w.heap.size (by omega) ▸ S2.out.box)
  obtain ⟨⟨u0, u1, u2⟩, _⟩ := blk3 (heap_alloc_past w2 (.cells #[.int .i64 N, .slice none 0 0, .slice none 0 0] 27) (w.heap.size + 1) (by omega) ▸ T2.out)
  go_wp2_with fail
  clear q0 q1 q2 p0 p1 p2 t0 t1 t2 u0 u1 u2
  have HLN := hid (show ∀ k, k ≤ N → (cmpL A B C S T k).length = k * N by
    intro k hk
    rw [cmpL_len (by rw [H1.out.len, E1.out]) H2.out.len (by rw [H3.out.len, E3.out]) k (by rw [← HNE.out]; exact hk), HNE.out])
  go_loopw [7] (fun i wr => ∃ (k : Nat) (vA : Value), i = .int .i64 k ∧ k ≤ S ∧ Hid (Ap w2.heap.size w2 wr (.int .i64 N) vA (.slice none 0 0) (k * N) 0 (cmpL A B C S T k) [])) (fun i _ => S - (intOf i).toNat)
  case atStart => exact ⟨0, .slice none 0 0, rfl, Nat.zero_le _, hid (by rw [Nat.zero_mul]; exact A0.out)⟩
  case round =>
    obtain ⟨k, vA, rfl, hk, hM⟩ := hrel
    obtain ⟨wq, rfl⟩ : ∃ wq : World, wq = wr := ⟨_, rfl⟩
    have hzq := hM.out.size
    obtain ⟨⟨q0, q1, q2⟩, _⟩ := blk3 (hM.out.old (by omega) S2.out.box)
    obtain ⟨⟨p0, p1, p2⟩, _⟩ := blk3 (hM.out.old (by omega) T2.out)
    obtain ⟨⟨r0, r1, r2⟩, g0, g1, g2⟩ := blk3 hM.out.out
    by_cases hlt : k < S
    · have hki : (k : Int) < (S : Int) := by omega
      have hst := step_bd (show k < N by omega) hN8
      have hkb : k * N ≤ 64 := by omega
      obtain ⟨ab, ao, x0, rfl, _, _, _, _⟩ := H1.out.at (k := 0) (by rw [E1.out]; exact Nat.mul_pos (by omega) (by omega))
      have hs : ∀ w', Below (w2.heap.size + 1) wq w' → w'.cell? ⟨w.heap.size, 0, none⟩ = some (.int .i64 S) ∧ w'.cell? ⟨w.heap.size, 1, none⟩ = some (.slice (some ⟨ab, ao, none⟩) n1 c1) ∧ w'.cell? ⟨w.heap.size, 2, none⟩ = some (.slice a2 S c2) ∧
          w'.cell? ⟨w.heap.size + 1, 0, none⟩ = some (.int .i64 T) ∧ w'.cell? ⟨w2.heap.size, 1, none⟩ = some vA ∧ w'.frozen? ⟨w2.heap.size, 1, none⟩ = false := fun w' hB =>
        ⟨(hB.cell (p := ⟨w.heap.size, 0, none⟩) (by simp; omega)).trans q0, (hB.cell (p := ⟨w.heap.size, 1, none⟩) (by simp; omega)).trans q1, (hB.cell (p := ⟨w.heap.size, 2, none⟩) (by simp; omega)).trans q2,
          (hB.cell (p := ⟨w.heap.size + 1, 0, none⟩) (by simp; omega)).trans p0, (hB.cell (p := ⟨w2.heap.size, 1, none⟩) (by simp)).trans r1, (hB.frozen (p := ⟨w2.heap.size, 1, none⟩) (by simp)).trans g1⟩
      have HKS := hid hs
      clear hs hst
      go_wp2_with fail
      clear q0 q1 q2 p0 p1 p2 r0 r1 r2 g0 g1 g2
      have hS0 := hid (HKS.out wq.drew ((Below.refl _ _).drew))
      refine (fun (HG : Rg _ _ 9) => wp_region_hh (S := fun w' => w'.cell? ⟨w.heap.size, 0, none⟩ = some (.int .i64 S) ∧ w'.cell? ⟨w.heap.size, 1, none⟩ = some (.slice (some ⟨ab, ao, none⟩) n1 c1) ∧ w'.cell? ⟨w.heap.size, 2, none⟩ = some (.slice a2 S c2) ∧
          w'.cell? ⟨w.heap.size + 1, 0, none⟩ = some (.int .i64 T) ∧ w'.cell? ⟨w2.heap.size, 1, none⟩ = some vA ∧ w'.frozen? ⟨w2.heap.size, 1, none⟩ = false) HG rfl ?_) ⟨by kernel_rfl, by decide, by kernel_rfl, by kernel_rfl, fun _ _ d _ _ h => by cases d <;> exact h⟩
      (refine hh_take 0 HG rfl (by decide) (by kernel_rfl) (by kernel_rfl) hS0.out (fun K hK => ?_); refine take_val ?_ (by rfl) ?_ ?_; rotate_left 1; (focus (intro wc hC; skip; go_simp; try rfl)); go_simp; refine hK.out _ ?_; clear hK K)
      (refine hh_take 1 HG rfl (by decide) (by kernel_rfl) (by kernel_rfl) hS0.out (fun K hK => ?_); refine take_val ?_ (by rfl) ?_ ?_; rotate_left 1; (focus (intro wc hC; obtain ⟨s0, s1, s2, s3, s4, s5⟩ := hC; go_simp; try rfl)); go_simp; refine hK.out _ ?_; clear hK K)
      (refine hh_take 2 HG rfl (by decide) (by kernel_rfl) (by kernel_rfl) hS0.out (fun K hK => ?_); refine take_val ?_ (by rfl) ?_ ?_; rotate_left 1; (focus (intro wc hC; obtain ⟨s0, s1, s2, s3, s4, s5⟩ := hC; go_simp; try rfl)); go_simp; refine hK.out _ ?_; clear hK K)
      (refine hh_take 3 HG rfl (by decide) (by kernel_rfl) (by kernel_rfl) hS0.out (fun K hK => ?_); refine take_val ?_ (by rfl) ?_ ?_; rotate_left 1; (focus (intro wc hC; skip; go_simp; try rfl)); go_simp; refine hK.out _ ?_; clear hK K)
      (refine hh_take 6 HG rfl (by decide) (by kernel_rfl) (by kernel_rfl) hS0.out (fun K hK => ?_); refine take_val ?_ (by rfl) ?_ ?_; rotate_left 1; (focus (intro wc hC; skip; go_simp; try rfl)); go_simp; refine hK.out _ ?_; clear hK K)
      (refine hh_take 7 HG rfl (by decide) (by kernel_rfl) (by kernel_rfl) hS0.out (fun K hK => ?_); refine take_val ?_ (by rfl) ?_ ?_; rotate_left 1; (focus (intro wc hC; obtain ⟨s0, s1, s2, s3, s4, s5⟩ := hC; go_simp; try rfl)); go_simp; refine hK.out _ ?_; clear hK K)
      (refine hh_mid 4 rfl (by decide) (by kernel_rfl) (fun K hK => ?_); refine mid_call ?_ ?_ (by rfl) ?_ ?_; rotate_left 2; (focus (go_simp; first | done | rfl | (refine And.intro ?_ ?_ <;> rfl))))
      refine (spec_row S k ab ao n1 c1 _ _ E1.out H1.out.cap H1.out.max hlt (by omega)).mono ?_
      rintro e w3 ⟨rfl, hB⟩
      refine ⟨_, rfl, ?_⟩
      have hB3 : Below wq.heap.size wq w3 := of_drew hB
      have y3 := hB3.size
      have M1 := hid (hM.out.below hB3)
      clear hB
      (go_simp; refine hK.out _ _ ?_ ?_ <;> clear hK K)
      · exact HKS.out _ (hB3.mono (by omega))
      refine hh_mid 5 rfl (by decide) (by kernel_rfl) (fun K hK => ?_)
      refine step_append_ints (by rfl) _ _ (by rfl) (w2.heap.size + 1) vA _ _ (by rfl) M1.out.a _ S (c1 - k * S) (rowL A S k) (by rfl) ((H1.out.below (S2.out.below.trans (M1.out.l.mono (by omega)))).row E1.out hlt) (by omega) (by omega) ?_
      intro ao4 c4' w4 hO4 hG4 hW4
      have hb4 : Below (w2.heap.size + 1) wq w4 := (hB3.mono (by omega)).grown hG4 (by omega) (fun j hj => (M1.out.a.lt j hj).1)
      (go_simp; refine hK.out _ _ ?_ ?_ <;> clear hK K)
      · exact HKS.out _ hb4
      obtain ⟨g, rfl⟩ := ow_addr hO4 (by omega)
      have hg4 := hO4.lt g rfl
      have y4 := hG4.size
      refine hh_mid 8 rfl (by decide) (by kernel_rfl) (fun K hK => ?_)
      refine step_append_zeros (by rfl) _ _ (by rfl) (w2.heap.size + 1) g _ _ _ (by rfl) hO4 T (by rfl) (by omega) (by omega) (by omega) ?_
      intro ao5 c5 w5 hO5 hG5 hW5
      have hb5 : Below (w2.heap.size + 1) wq w5 := hb4.grown hG5 (by omega) (fun j hj => by cases hj; exact hg4.1)
      (go_simp; refine hK.out _ _ ?_ ?_ <;> clear hK K)
      · exact HKS.out _ hb5
      refine hh_done (by kernel_rfl) ?_
      simp only [List.drop_succ_cons, List.drop_zero]
      obtain ⟨s0, s1, s2, s3, s4, s5⟩ := HKS.out w5 hb5
      change wpList _ _ _ _ _ _
      have hG := grown_next hG4 hG5 (hW4.elim .inl (fun h => .inr ⟨_, h, Nat.le_refl _⟩))
      have hN5 := hid (M1.out.pushA' hO5 hG (own_next y4 hW4 hW5))
      clear hb4 hb5 hO4 hG4 hW4 hO5 hG5 hW5 hG
      go_wp2_with fail
      have e1 : k * N + S + T = (k + 1) * N := by rw [Nat.add_mul, Nat.one_mul]; have := HNE.out; omega
      have h := hN5.out
      rw [e1, List.append_assoc, ← cmpRow_lo (B := B) (C := C) (T := T) hlt, ← cmpL_succ] at h
      go_roundw
      case rel => exact ⟨k + 1, _, by go_num, by omega, hid (by rw [e1]; exact h)⟩
      case measure => simp [intOf]; omega
    · obtain rfl : S = k := by omega
      clear hlt
      go_wp2_with fail
      clear q0 q1 q2 p0 p1 p2 r0 r1 r2 g0 g1 g2
      go_loopw [8] (fun i wr => ∃ (k : Nat) (vA : Value), i = .int .i64 k ∧ k ≤ T ∧ Hid (Ap w2.heap.size w2 wr (.int .i64 N) vA (.slice none 0 0) ((S + k) * N) 0 (cmpL A B C S T (S + k)) [])) (fun i _ => T - (intOf i).toNat)
      case atStart => exact ⟨0, _, rfl, Nat.zero_le _, hM⟩
      case round =>
        clear hM hzq
        obtain ⟨k, vA, rfl, hk, hM⟩ := hrel
        obtain ⟨wz, rfl⟩ : ∃ wz : World, wz = wr := ⟨_, rfl⟩
        have hzq := hM.out.size
        obtain ⟨⟨q0, q1, q2⟩, _⟩ := blk3 (hM.out.old (by omega) S2.out.box)
        obtain ⟨⟨p0, p1, p2⟩, _⟩ := blk3 (hM.out.old (by omega) T2.out)
        obtain ⟨⟨r0, r1, r2⟩, g0, g1, g2⟩ := blk3 hM.out.out
        by_cases hlt : k < T
        · have hki : (k : Int) < (T : Int) := by omega
          have hst := step_bd (show S + k < N by have := HNE.out; omega) hN8
          have hkb : (S + k) * N ≤ 64 := by omega
          obtain ⟨cb, co, x0, rfl, _, _, _, _⟩ := H3.out.at (k := 0) (by rw [E3.out]; exact Nat.mul_pos (by omega) (by omega))
          have hs : ∀ w', Below (w2.heap.size + 1) wz w' → w'.cell? ⟨w.heap.size + 1, 0, none⟩ = some (.int .i64 T) ∧ w'.cell? ⟨w.heap.size + 1, 1, none⟩ = some (.slice (some ⟨cb, co, none⟩) n3 c3) ∧ w'.cell? ⟨w.heap.size + 1, 2, none⟩ = some (.slice a4 T c4) ∧
              w'.cell? ⟨w.heap.size, 2, none⟩ = some (.slice a2 S c2) ∧ w'.cell? ⟨w2.heap.size, 1, none⟩ = some vA ∧ w'.frozen? ⟨w2.heap.size, 1, none⟩ = false := fun w' hB =>
            ⟨(hB.cell (p := ⟨w.heap.size + 1, 0, none⟩) (by simp; omega)).trans p0, (hB.cell (p := ⟨w.heap.size + 1, 1, none⟩) (by simp; omega)).trans p1, (hB.cell (p := ⟨w.heap.size + 1, 2, none⟩) (by simp; omega)).trans p2,
              (hB.cell (p := ⟨w.heap.size, 2, none⟩) (by simp; omega)).trans q2, (hB.cell (p := ⟨w2.heap.size, 1, none⟩) (by simp)).trans r1, (hB.frozen (p := ⟨w2.heap.size, 1, none⟩) (by simp)).trans g1⟩
          have HKS := hid hs
          clear hs hst
          go_wp2_with fail
          clear q0 q1 q2 p0 p1 p2 r0 r1 r2 g0 g1 g2
          have hS0 := hid (HKS.out wz.drew ((Below.refl _ _).drew))
          refine (fun (HG : Rg _ _ 9) => wp_region_hh (S := fun w' => w'.cell? ⟨w.heap.size + 1, 0, none⟩ = some (.int .i64 T) ∧ w'.cell? ⟨w.heap.size + 1, 1, none⟩ = some (.slice (some ⟨cb, co, none⟩) n3 c3) ∧ w'.cell? ⟨w.heap.size + 1, 2, none⟩ = some (.slice a4 T c4) ∧
              w'.cell? ⟨w.heap.size, 2, none⟩ = some (.slice a2 S c2) ∧ w'.cell? ⟨w2.heap.size, 1, none⟩ = some vA ∧ w'.frozen? ⟨w2.heap.size, 1, none⟩ = false) HG rfl ?_) ⟨by kernel_rfl, by decide, by kernel_rfl, by kernel_rfl, fun _ _ d _ _ h => by cases d <;> exact h⟩
          (refine hh_take 0 HG rfl (by decide) (by kernel_rfl) (by kernel_rfl) hS0.out (fun K hK => ?_); refine take_val ?_ (by rfl) ?_ ?_; rotate_left 1; (focus (intro wc hC; skip; go_simp; try rfl)); go_simp; refine hK.out _ ?_; clear hK K)
          (refine hh_take 1 HG rfl (by decide) (by kernel_rfl) (by kernel_rfl) hS0.out (fun K hK => ?_); refine take_val ?_ (by rfl) ?_ ?_; rotate_left 1; (focus (intro wc hC; obtain ⟨s0, s1, s2, s3, s4, s5⟩ := hC; go_simp; try rfl)); go_simp; refine hK.out _ ?_; clear hK K)
          (refine hh_take 2 HG rfl (by decide) (by kernel_rfl) (by kernel_rfl) hS0.out (fun K hK => ?_); refine take_val ?_ (by rfl) ?_ ?_; rotate_left 1; (focus (intro wc hC; skip; go_simp; try rfl)); go_simp; refine hK.out _ ?_; clear hK K)
          (refine hh_take 3 HG rfl (by decide) (by kernel_rfl) (by kernel_rfl) hS0.out (fun K hK => ?_); refine take_val ?_ (by rfl) ?_ ?_; rotate_left 1; (focus (intro wc hC; obtain ⟨s0, s1, s2, s3, s4, s5⟩ := hC; go_simp; try rfl)); go_simp; refine hK.out _ ?_; clear hK K)
          (refine hh_take 5 HG rfl (by decide) (by kernel_rfl) (by kernel_rfl) hS0.out (fun K hK => ?_); refine take_val ?_ (by rfl) ?_ ?_; rotate_left 1; (focus (intro wc hC; obtain ⟨s0, s1, s2, s3, s4, s5⟩ := hC; go_simp; try rfl)); go_simp; refine hK.out _ ?_; clear hK K)
          (refine hh_take 6 HG rfl (by decide) (by kernel_rfl) (by kernel_rfl) hS0.out (fun K hK => ?_); refine take_val ?_ (by rfl) ?_ ?_; rotate_left 1; (focus (intro wc hC; skip; go_simp; try rfl)); go_simp; refine hK.out _ ?_; clear hK K)
          refine hh_mid 4 rfl (by decide) (by kernel_rfl) (fun K hK => ?_)
          refine step_append_ints (by rfl) _ _ (by rfl) (w2.heap.size + 1) vA _ _ (by rfl) hM.out.drew.a a2 S c2 B (by rfl) (H2.out.below (S2.out.below.trans (hM.out.drew.l.mono (by omega)))) (by omega) (by simp; omega) ?_
          intro ao3 c3' w3 hO3 hG3 hW3
          have hb3 : Below (w2.heap.size + 1) wz w3 := ((Below.refl _ _).drew).grown hG3 (by simp; omega) (fun j hj => (hM.out.a.lt j hj).1)
          have y3 : wz.heap.size ≤ w3.heap.size := hG3.size
          (go_simp; refine hK.out _ _ ?_ ?_ <;> clear hK K)
          · exact HKS.out _ hb3
          (refine hh_mid 7 rfl (by decide) (by kernel_rfl) (fun K hK => ?_); refine mid_call ?_ ?_ (by rfl) ?_ ?_; rotate_left 2; (focus (go_simp; first | done | rfl | (refine And.intro ?_ ?_ <;> rfl))))
          refine (spec_row T k cb co n3 c3 _ _ E3.out H3.out.cap H3.out.max hlt (by omega)).mono ?_
          rintro e w4 ⟨rfl, hB⟩
          refine ⟨_, rfl, ?_⟩
          have hb4 : Below (w2.heap.size + 1) wz w4 := hb3.trans (hB.mono (by omega))
          have y4 := hB.size
          have hO4 := hO3.below hB
          (go_simp; refine hK.out _ _ ?_ ?_ <;> clear hK K)
          · exact HKS.out _ hb4
          refine hh_mid 8 rfl (by decide) (by kernel_rfl) (fun K hK => ?_)
          refine step_append_ints (by rfl) _ _ (by rfl) (w2.heap.size + 1) (.slice ao3 ((S + k) * N + S) c3') _ _ (by rfl) hO4 _ T (c3 - k * T) (rowL C T k) (by rfl) ((H3.out.below (S2.out.below.trans ((hM.out.l.trans (hb4.mono (by omega))).mono (by omega)))).row E3.out hlt) (by omega) (by omega) ?_
          intro ao5 c5 w5 hO5 hG5 hW5
          have hb5 : Below (w2.heap.size + 1) wz w5 := hb4.grown hG5 (by omega) (fun j hj => (hO4.lt j hj).1)
          (go_simp; refine hK.out _ _ ?_ ?_ <;> clear hK K)
          · exact HKS.out _ hb5
          refine hh_done (by kernel_rfl) ?_
          simp only [List.drop_succ_cons, List.drop_zero]
          obtain ⟨s0, s1, s2, s3, s4, s5⟩ := HKS.out w5 hb5
          change wpList _ _ _ _ _ _
          have hG := grown_next (grown_trans hG3 (grown_below hB _)) hG5 (hW3.elim .inl (fun h => .inr ⟨_, h, Nat.le_refl _⟩))
          have hN5 := hid (hM.out.drew.pushA' hO5 hG (own_next (show wz.drew.heap.size ≤ w4.heap.size from Nat.le_trans y3 y4) hW3 hW5))
          clear hb3 hb4 hb5 hB hO3 hO4 hG3 hW3 hO5 hG5 hW5 hG
          go_wp2_with fail
          have e1 : (S + k) * N + S + T = (S + (k + 1)) * N := by rw [← Nat.add_assoc, Nat.add_mul (S + k), Nat.one_mul]; have := HNE.out; omega
          have h := hN5.out
          have e2 : B ++ rowL C T k = cmpRow A B C S T (S + k) := by rw [cmpRow_hi (by omega), Nat.add_sub_cancel_left]
          rw [e1, List.append_assoc, e2, ← cmpL_succ] at h
          go_roundw
          case rel => exact ⟨k + 1, _, by go_num, by omega, hid (by rw [e1]; exact h)⟩
          case measure => simp [intOf]; omega
        · obtain rfl : T = k := by omega
          clear hlt
          have hs : ∀ w', Below (w2.heap.size + 1) wz w' → w'.cell? ⟨w.heap.size, 2, none⟩ = some (.slice a2 S c2) ∧ w'.cell? ⟨w.heap.size + 1, 2, none⟩ = some (.slice a4 T c4) ∧ w'.cell? ⟨w2.heap.size, 2, none⟩ = some (.slice none 0 0) ∧ w'.frozen? ⟨w2.heap.size, 2, none⟩ = false := fun w' hB =>
            ⟨(hB.cell (p := ⟨w.heap.size, 2, none⟩) (by simp; omega)).trans q2, (hB.cell (p := ⟨w.heap.size + 1, 2, none⟩) (by simp; omega)).trans p2, (hB.cell (p := ⟨w2.heap.size, 2, none⟩) (by simp)).trans r2, (hB.frozen (p := ⟨w2.heap.size, 2, none⟩) (by simp)).trans g2⟩
          have HKS := hid hs
          clear hs
          go_wp2_with fail
          clear q0 q1 q2 p0 p1 p2 r0 r1 r2 g0 g1 g2
          have hS0 := hid (HKS.out wz.drew ((Below.refl _ _).drew))
          refine (fun (HG : Rg _ _ 8) => wp_region_hh (S := fun w' => w'.cell? ⟨w.heap.size, 2, none⟩ = some (.slice a2 S c2) ∧ w'.cell? ⟨w.heap.size + 1, 2, none⟩ = some (.slice a4 T c4) ∧ w'.cell? ⟨w2.heap.size, 2, none⟩ = some (.slice none 0 0) ∧ w'.frozen? ⟨w2.heap.size, 2, none⟩ = false) HG rfl ?_) ⟨by kernel_rfl, by decide, by kernel_rfl, by kernel_rfl, fun _ _ d _ _ h => by cases d <;> exact h⟩
          (refine hh_take 0 HG rfl (by decide) (by kernel_rfl) (by kernel_rfl) hS0.out (fun K hK => ?_); refine take_val ?_ (by rfl) ?_ ?_; rotate_left 1; (focus (intro wc hC; skip; go_simp; try rfl)); go_simp; refine hK.out _ ?_; clear hK K)
          (refine hh_take 1 HG rfl (by decide) (by kernel_rfl) (by kernel_rfl) hS0.out (fun K hK => ?_); refine take_val ?_ (by rfl) ?_ ?_; rotate_left 1; (focus (intro wc hC; obtain ⟨s0, s1, s2, s3⟩ := hC; go_simp; try rfl)); go_simp; refine hK.out _ ?_; clear hK K)
          (refine hh_take 2 HG rfl (by decide) (by kernel_rfl) (by kernel_rfl) hS0.out (fun K hK => ?_); refine take_val ?_ (by rfl) ?_ ?_; rotate_left 1; (focus (intro wc hC; skip; go_simp; try rfl)); go_simp; refine hK.out _ ?_; clear hK K)
          (refine hh_take 3 HG rfl (by decide) (by kernel_rfl) (by kernel_rfl) hS0.out (fun K hK => ?_); refine take_val ?_ (by rfl) ?_ ?_; rotate_left 1; (focus (intro wc hC; obtain ⟨s0, s1, s2, s3⟩ := hC; go_simp; try rfl)); go_simp; refine hK.out _ ?_; clear hK K)
          (refine hh_take 5 HG rfl (by decide) (by kernel_rfl) (by kernel_rfl) hS0.out (fun K hK => ?_); refine take_val ?_ (by rfl) ?_ ?_; rotate_left 1; (focus (intro wc hC; skip; go_simp; try rfl)); go_simp; refine hK.out _ ?_; clear hK K)
          (refine hh_take 6 HG rfl (by decide) (by kernel_rfl) (by kernel_rfl) hS0.out (fun K hK => ?_); refine take_val ?_ (by rfl) ?_ ?_; rotate_left 1; (focus (intro wc hC; obtain ⟨s0, s1, s2, s3⟩ := hC; go_simp; try rfl)); go_simp; refine hK.out _ ?_; clear hK K)
          refine hh_mid 4 rfl (by decide) (by kernel_rfl) (fun K hK => ?_)
          refine step_append_ints (by rfl) _ _ (by rfl) (w2.heap.size + 1) (.slice none 0 0) _ _ (by rfl) hM.out.drew.b a2 S c2 B (by rfl) (H2.out.below (S2.out.below.trans (hM.out.drew.l.mono (by omega)))) (by omega) (by simp; omega) ?_
          intro ao3 c3' w3 hO3 hG3 hW3
          have hb3 : Below (w2.heap.size + 1) wz w3 := ((Below.refl _ _).drew).grown hG3 (by simp; omega) (fun j hj => by cases hj)
          have y3 : wz.heap.size ≤ w3.heap.size := hG3.size
          rw [Nat.zero_add, List.nil_append] at hO3
          rw [Nat.zero_add] at hW3
          (go_simp; refine hK.out _ _ ?_ ?_ <;> clear hK K)
          · exact HKS.out _ hb3
          refine hh_mid 7 rfl (by decide) (by kernel_rfl) (fun K hK => ?_)
          refine step_append_ints (by rfl) _ _ (by rfl) (w2.heap.size + 1) (.slice ao3 S c3') _ _ (by rfl) hO3 a4 T c4 D (by rfl) (H4.out.below (S2.out.below.trans ((hM.out.l.trans (hb3.mono (by omega))).mono (by omega)))) (by omega) (by omega) ?_
          intro ao5 c5 w5 hO5 hG5 hW5
          have hb5 : Below (w2.heap.size + 1) wz w5 := hb3.grown hG5 (by omega) (fun j hj => (hO3.lt j hj).1)
          (go_simp; refine hK.out _ _ ?_ ?_ <;> clear hK K)
          · exact HKS.out _ hb5
          refine hh_done (by kernel_rfl) ?_
          simp only [List.drop_succ_cons, List.drop_zero]
          obtain ⟨s0, s1, s2, s3⟩ := HKS.out w5 hb5
          change wpList _ _ _ _ _ _
          have hG := grown_next hG3 hG5 (hW3.elim .inl (fun h => .inr ⟨_, h, Nat.le_refl _⟩))
          have hN5 := hid (hM.out.drew.pushB' hO5 hG (own_next (show wz.drew.heap.size ≤ w3.heap.size from y3) hW3 hW5))
          obtain ⟨⟨t0, t1, t2⟩, f0, f1, f2⟩ := blk3 (hN5.out.old (by omega) R2.out)
          obtain ⟨_, _, rfl, _⟩ := hN5.out.a.fr
          obtain ⟨⟨r0, r1, r2⟩, _⟩ := blk3 hN5.out.out
          clear hb3 hb5 hO3 hG3 hW3 hO5 hG5 hW5 hG
          go_wp2_with fail
          obtain ⟨_, _, _, _, ea, eb, e1, e2⟩ := hN5.out.finish (show w.heap.size ≤ w.heap.size + 1 + 1 by omega) (by omega) S2.out.below R2.out
          cases ea
          cases eb
          exact ret_tabb rfl rfl rfl e1 rfl ⟨_, _, _, _, _, _, rfl, e2⟩
end Go.Proofs.Ytekojohhjnklkaa
