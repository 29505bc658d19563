/- AdjointTableau of the reference. -/
import Derived.Test.YtekojohhjnklkaaFill
import Derived.Test.YtekojohhjnklkaaApMid
import Derived.Test.YtekojohhjnklkaaQuiet
namespace Go.Proofs.Ytekojohhjnklkaa
open Go.RowKit

theorem spec_AdjointTableau_no (s : Int) (a1 : Option Addr) (n1 c1 : Nat) (A : List Int) (a2 : Option Addr) (n2 c2 : Nat) (B : List Int) (w : World) (h1 : Rd w a1 n1 c1 A) (h2 : Rd w a2 n2 c2 B) (hno : tabOk s A B = false) :
    Calls Try.prog 37 #[.agg #[.int .i64 s, .slice a1 n1 c1, .slice a2 n2 c2]] w fun e w' => ∃ a1 n1 c1 a2 n2 c2, e = .returned (.agg #[.int .i64 0, .slice a1 n1 c1, .slice a2 n2 c2]) ∧ NewT w w' [] [] a1 n1 c1 a2 n2 c2 := by
  have HN := hid hno
  have S0 := hid ((St.first w #[.int .i64 s, .slice a1 n1 c1, .slice a2 n2 c2] 27).alloc (.cells #[.int .i64 0, .slice none 0 0, .slice none 0 0] 27))
  go_enter Try.func37, Try.ntmps37
  go_wp2_with fail
  refine (spec_TableauOk _ _ _ _ A _ _ _ B _ ((h1.alloc _).alloc _) ((h2.alloc _).alloc _)).mono ?_
  rw [HN.out]
  rintro e w1 ⟨rfl, hB⟩
  have S1 := hid (S0.out.step hB)
  have hr := bk_below (heap_alloc_at (w.alloc (.cells #[.int .i64 s, .slice a1 n1 c1, .slice a2 n2 c2] 27)) #[.int .i64 0, .slice none 0 0, .slice none 0 0] 27 (w.heap.size + 1) (by simp)) hB
  have HRS := hid hr
  obtain ⟨⟨r0, r1, r2⟩, f0, f1, f2⟩ := blk3 hr
  clear hB hr
  go_wp2_with fail
  obtain ⟨e1, e2⟩ := none_end S1.out.below (Nat.le_succ _) HRS.out (.int .i64 0) (.slice none 0 0) (.slice none 0 0)
  exact ret_tab rfl rfl e1 rfl ⟨_, _, _, _, _, _, rfl, e2⟩

/-- what a loop over i.. down to 0 has put behind it -/
theorem adj_next {A B : List Int} {S i j : Nat} {x y : Int} (hi : i < S) (hj : j < S) (hx : x = B.getD j 0) (hy : El A S i j y) :
    firstN (adjE A B S) ((S - 1 - i) * S + (S - 1 - j)) ++ [M.minus x y] = firstN (adjE A B S) ((S - 1 - i) * S + (S - j)) := by
  rw [← adj_at hi hj hx hy, ← firstN_succ, show (S - 1 - i) * S + (S - 1 - j) + 1 = (S - 1 - i) * S + (S - j) by omega]
theorem rev_next {B : List Int} {S i : Nat} {x : Int} (hi : i < S) (hx : x = B.getD i 0) : firstN (revE B S) (S - 1 - i) ++ [x] = firstN (revE B S) (S - i) := by
  have : x = revE B S (S - 1 - i) := by unfold revE; rw [show S - 1 - (S - 1 - i) = i by omega]; exact hx
  rw [this, ← firstN_succ, show S - 1 - i + 1 = S - i by omega]
set_option maxHeartbeats 2000000 in
theorem spec_AdjointTableau_yes (S : Nat) (a1 : Option Addr) (n1 c1 : Nat) (A : List Int) (a2 : Option Addr) (n2 c2 : Nat) (B : List Int) (w : World) (h1 : Rd w a1 n1 c1 A) (h2 : Rd w a2 n2 c2 B) (hok : tabOk S A B = true) (e1 : n1 = S * S) (e2 : n2 = S) (hS : S ≤ 8) :
    Calls Try.prog 37 #[.agg #[.int .i64 S, .slice a1 n1 c1, .slice a2 n2 c2]] w fun e w' => ∃ a1 n1 c1 a2 n2 c2, e = .returned (.agg #[.int .i64 S, .slice a1 n1 c1, .slice a2 n2 c2]) ∧ NewT w w' (firstN (adjE A B S) (S * S)) (firstN (revE B S) S) a1 n1 c1 a2 n2 c2 := by
  have HN := hid hok
  have H1 := hid h1
  have H2 := hid h2
  have E1 := hid e1
  have e64 : n1 ≤ 64 := by rw [e1]; exact Nat.mul_le_mul hS hS
  subst e2
  clear h1 h2 hok e1
  have K0 := hid (heap_alloc_at w #[.int .i64 n2, .slice a1 n1 c1, .slice a2 n2 c2] 27 w.heap.size rfl)
  have K1 := hid (bk_alloc K0.out (.cells #[.int .i64 0, .slice none 0 0, .slice none 0 0] 27))
  have R1 := hid (heap_alloc_at (w.alloc (.cells #[.int .i64 n2, .slice a1 n1 c1, .slice a2 n2 c2] 27)) #[.int .i64 0, .slice none 0 0, .slice none 0 0] 27 (w.heap.size + 1) (by simp))
  have L1 := hid (l_alloc (below_box w (.cells #[.int .i64 n2, .slice a1 n1 c1, .slice a2 n2 c2] 27)) (.cells #[.int .i64 0, .slice none 0 0, .slice none 0 0] 27))
  go_enter Try.func37, Try.ntmps37
  go_wp2_with fail
  refine (spec_TableauOk _ _ _ _ A _ _ _ B _ ((H1.out.alloc _).alloc _) ((H2.out.alloc _).alloc _)).mono ?_
  rw [HN.out]
  rintro e w1 ⟨rfl, hB⟩
  have y1 := hB.size
  simp only [World.size_alloc] at y1
  have K2 := hid (bk_below K1.out hB)
  have R2 := hid (bk_below R1.out hB)
  have L2 := hid (l_below L1.out hB)
  clear hB K0 K1 R1 L1
  obtain ⟨⟨q0, q1, q2⟩, _⟩ := blk3 K2.out
  have A0 := hid (Ap.start w1 (.int .i64 n2))
  obtain ⟨⟨t0, t1, t2⟩, _⟩ := blk3 (heap_alloc_past w1 (.cells #[.int .i64 n2, .slice none 0 0, .slice none 0 0] 27) w.heap.size (by omega) ▸ K2.out)
  go_wp2_with fail
  clear q0 q1 q2 t0 t1 t2
  go_loopw [4] (fun i wr => ∃ (k : Nat) (z : Int) (vA vB : Value), i = .int .i64 z ∧ z = (k : Int) - 1 ∧ k ≤ n2 ∧ Hid (Ap w1.heap.size w1 wr (.int .i64 n2) vA vB ((n2 - k) * n2) (n2 - k) (firstN (adjE A B n2) ((n2 - k) * n2)) (firstN (revE B n2) (n2 - k)))) (fun i _ => (intOf i + 1).toNat)
  case atStart => exact ⟨n2, _, _, _, rfl, by simp, Nat.le_refl _, hid (by simpa [firstN] using A0.out)⟩
  case round =>
    obtain ⟨k, z, vA, vB, rfl, hz0, hk, hM⟩ := hrel
    obtain ⟨wo, rfl⟩ : ∃ wo : World, wo = wr := ⟨_, rfl⟩
    have hzz := hM.out.size
    obtain ⟨⟨q0, q1, q2⟩, _⟩ := blk3 (hM.out.old (by omega) K2.out)
    rcases k with _ | i
    · obtain rfl : z = -1 := by omega
      clear hz0
      have hM0 := hM.out
      rw [Nat.sub_zero] at hM0
      have HM1 := hid hM0
      obtain ⟨⟨t0, t1, t2⟩, f0, f1, f2⟩ := blk3 (hM0.old (by omega) R2.out)
      obtain ⟨_, _, rfl, _⟩ := hM0.a.fr
      obtain ⟨_, _, rfl, _⟩ := hM0.b.fr
      obtain ⟨⟨r0, r1, r2⟩, _⟩ := blk3 hM0.out
      clear hM0 hM
      go_wp2_with fail
      obtain ⟨_, _, _, _, ea, eb, e1, e2⟩ := HM1.out.finish (Nat.le_succ _) (by omega) L2.out R2.out
      cases ea
      cases eb
      exact ret_tab rfl rfl e1 rfl ⟨_, _, _, _, _, _, rfl, e2⟩
    · obtain rfl : z = (i : Int) := by omega
      clear hz0
      have hlt : i < n2 := by omega
      go_wp2_with fail
      clear q0 q1 q2
      go_loopw [5] (fun y wr => ∃ (k : Nat) (z : Int) (vA : Value), y = .int .i64 z ∧ z = (k : Int) - 1 ∧ k ≤ n2 ∧ Hid (Ap w1.heap.size w1 wr (.int .i64 n2) vA vB ((n2 - 1 - i) * n2 + (n2 - k)) (n2 - (i + 1)) (firstN (adjE A B n2) ((n2 - 1 - i) * n2 + (n2 - k))) (firstN (revE B n2) (n2 - (i + 1))))) (fun i _ => (intOf i + 1).toNat)
      case atStart => exact ⟨n2, _, _, rfl, by simp, Nat.le_refl _, hid (by have h := hM.out; rw [show n2 - (i + 1) = n2 - 1 - i by omega] at h ⊢; rw [Nat.sub_self, Nat.add_zero]; exact h)⟩
      case round =>
        clear hM
        obtain ⟨k, z, vA, rfl, hz0, hk, hM⟩ := hrel
        obtain ⟨wq, rfl⟩ : ∃ wq : World, wq = wr := ⟨_, rfl⟩
        have hzq := hM.out.size
        obtain ⟨⟨q0, q1, q2⟩, _⟩ := blk3 (hM.out.old (by omega) K2.out)
        obtain ⟨⟨r0, r1, r2⟩, g0, g1, g2⟩ := blk3 hM.out.out
        rcases k with _ | j
        · obtain rfl : z = -1 := by omega
          clear hz0
          obtain ⟨b, o, x, rfl, hc0, _, _, hx⟩ := H2.out.at hlt
          have hbl := World.block_lt_of_cell? w _ hc0
          simp only at hbl
          have hc := (((L2.out.trans (hM.out.l.mono (by omega))).cell (p := ⟨b, o + i, none⟩) hbl)).trans hc0
          clear hc0
          have hji : (i : Int) < (n2 : Int) := by omega
          have hs : ∀ w', Below (w1.heap.size + 1) wq w' → w'.cell? ⟨w.heap.size, 2, none⟩ = some (.slice (some ⟨b, o, none⟩) n2 c2) ∧
              w'.cell? ⟨w1.heap.size, 2, none⟩ = some vB ∧ w'.frozen? ⟨w1.heap.size, 2, none⟩ = false ∧ w'.cell? ⟨b, o + i, none⟩ = some (.int .i64 x) := fun w' hB =>
            ⟨(hB.cell (p := ⟨w.heap.size, 2, none⟩) (by simp; omega)).trans q2,
              (hB.cell (p := ⟨w1.heap.size, 2, none⟩) (by simp)).trans r2, (hB.frozen (p := ⟨w1.heap.size, 2, none⟩) (by simp)).trans g2, (hB.cell (p := ⟨b, o + i, none⟩) (by simp; omega)).trans hc⟩
          have HKS := hid hs
          have HX := hid hx
          clear hs hx
          go_wp2_with fail
          clear q0 q1 q2 r0 r1 r2 g0 g1 g2 hc
          refine wp_region_kept (S := fun w' => w'.cell? ⟨w.heap.size, 2, none⟩ = some (.slice (some ⟨b, o, none⟩) n2 c2) ∧
              w'.cell? ⟨w1.heap.size, 2, none⟩ = some vB ∧ w'.frozen? ⟨w1.heap.size, 2, none⟩ = false ∧ w'.cell? ⟨b, o + i, none⟩ = some (.int .i64 x)) 7 9 rfl (by kernel_rfl) (fun _ _ d _ _ h => by cases d <;> exact h) (HKS.out _ ((Below.refl _ _).drew)) ?_
          simp only [List.take_succ_cons, List.take_zero, List.drop_succ_cons, List.drop_zero]
          (refine take_step (fun K hK => ?_); refine take_val ?_ (by rfl) ?_ ?_; rotate_left 1; (focus (intro wc hC; skip; go_simp; try rfl)); go_simp; refine hK.out _ ?_; clear hK K)
          (refine take_step (fun K hK => ?_); refine take_val ?_ (by rfl) ?_ ?_; rotate_left 1; (focus (intro wc hC; obtain ⟨s0, s1, s2, s3⟩ := hC; go_simp; try rfl)); go_simp; refine hK.out _ ?_; clear hK K)
          (refine take_step (fun K hK => ?_); refine take_val ?_ (by rfl) ?_ ?_; rotate_left 1; (focus (intro wc hC; skip; go_simp; try rfl)); go_simp; refine hK.out _ ?_; clear hK K)
          (refine take_step (fun K hK => ?_); refine take_val ?_ (by rfl) ?_ ?_; rotate_left 1; (focus (intro wc hC; obtain ⟨s0, s1, s2, s3⟩ := hC; go_simp; try rfl)); go_simp; refine hK.out _ ?_; clear hK K)
          (refine take_step (fun K hK => ?_); refine take_val ?_ (by rfl) ?_ ?_; rotate_left 1; (focus (intro wc hC; skip; go_simp; try rfl)); go_simp; refine hK.out _ ?_; clear hK K)
          (refine take_step (fun K hK => ?_); refine take_val ?_ (by rfl) ?_ ?_; rotate_left 1; (focus (intro wc hC; skip; go_simp; try rfl)); go_simp; refine hK.out _ ?_; clear hK K)
          (refine take_step (fun K hK => ?_); refine take_val ?_ (by rfl) ?_ ?_; rotate_left 1; (focus (intro wc hC; obtain ⟨s0, s1, s2, s3⟩ := hC; go_simp; try rfl)); go_simp; refine hK.out _ ?_; clear hK K)
          change wpMid _ _ _ _ _ _ _ _
          (refine mid_step (fun K hK => ?_); refine mid_val ?_ ?_ (by rfl) ?_ ?_; rotate_left 2; (focus (go_simp; first | done | rfl | (refine And.intro ?_ ?_ <;> rfl))); go_simp; refine hK.out _ _ ?_ ?_ <;> clear hK K)
          · exact HKS.out _ (((Below.refl _ _).drew).alloc (by simp; omega) _)
          have hwx := (I64.num (M.num_minus 0 0))
          refine mid_step (fun K hK => ?_)
          refine step_append_ints (by rfl) _ _ (by rfl) (w1.heap.size + 1) vB _ _ (by rfl) (hM.out.drew.b.alloc _) _ 1 1 [x] (by rfl) (rd_one wq.drew _ _ ⟨by assumption, by assumption⟩) (by omega) (by simp; omega) ?_
          intro ao' c' w3 hO hG hW
          have hbl := ((((Below.refl _ _).drew).alloc (by simp; omega) _).grown hG (by simp; omega) (fun k hk => (hM.out.b.lt k hk).1))
          (go_simp; refine hK.out _ _ ?_ ?_ <;> clear hK K)
          · exact HKS.out w3 hbl
          obtain ⟨s0, s1, s2, s3⟩ := HKS.out w3 hbl
          change wpList _ _ _ _ _ _
          have hN := hid ((hM.out.drew.below (((Below.refl _ _)).alloc (by simp) (.cells #[.int .i64 x] 3))).pushB hO hG hW)
          clear hbl hO hG hW
          go_wp2_with fail
          have e1 : n2 - (i + 1) + 1 = n2 - i := by omega
          have e2 : firstN (revE B n2) (n2 - (i + 1)) ++ [x] = firstN (revE B n2) (n2 - i) := by
            rw [show n2 - (i + 1) = n2 - 1 - i by omega]
            exact rev_next hlt HX.out
          have e3 : (n2 - 1 - i) * n2 + (n2 - 0) = (n2 - i) * n2 := by
            rw [show n2 - i = (n2 - 1 - i) + 1 by omega, Nat.add_mul, Nat.one_mul, Nat.sub_zero]
          have h := hN.out
          rw [e1, e2, e3] at h
          rw [e1]
          go_roundw
          case rel => exact ⟨i, _, _, _, rfl, rfl, by omega, hid h⟩
          case measure => first | (simp [intOf]; done) | (simp [intOf]; omega)
        · obtain rfl : z = (j : Int) := by omega
          clear hz0
          have hjt : j < n2 := by omega
          have hbd : (n2 - 1 - i) * n2 ≤ 64 := Nat.mul_le_mul (show n2 - 1 - i ≤ 8 by omega) hS
          obtain ⟨f1, f2, f3, f4, f5⟩ := at_facts E1.out H1.out.cap hlt hjt hS
          obtain ⟨b, o, x, rfl, hc0, _, _, hx⟩ := H2.out.at hjt
          obtain ⟨d, p, y, rfl, hd0, _, _, hy⟩ := H1.out.at f5
          have f6 : IntKind.i64.wrap ((i : Int) * (n2 : Int)) = (i : Int) * (n2 : Int) := IntWalk.i64_in _ ⟨by omega, by omega⟩
          have f7 : IntKind.i64.wrap ((i : Int) * (n2 : Int) + (j : Int)) = (i : Int) * (n2 : Int) + (j : Int) := IntWalk.i64_in _ ⟨by omega, by omega⟩
          have f8 : (0 : Int) ≤ (i : Int) * (n2 : Int) + (j : Int) := by omega
          have hbl := World.block_lt_of_cell? w _ hc0
          have hdl := World.block_lt_of_cell? w _ hd0
          simp only at hbl hdl
          have hc := (((L2.out.trans (hM.out.l.mono (by omega))).cell (p := ⟨b, o + j, none⟩) hbl)).trans hc0
          have hd := (((L2.out.trans (hM.out.l.mono (by omega))).cell (p := ⟨d, p + (i * n2 + j), none⟩) hdl)).trans hd0
          clear hc0 hd0
          have hji : (j : Int) < (n2 : Int) := by omega
          have hs : ∀ w', Below (w1.heap.size + 1) wq w' → w'.cell? ⟨w.heap.size, 0, none⟩ = some (.int .i64 n2) ∧ w'.cell? ⟨w.heap.size, 1, none⟩ = some (.slice (some ⟨d, p, none⟩) n1 c1) ∧ w'.cell? ⟨w.heap.size, 2, none⟩ = some (.slice (some ⟨b, o, none⟩) n2 c2) ∧
              w'.cell? ⟨w1.heap.size, 1, none⟩ = some vA ∧ w'.frozen? ⟨w1.heap.size, 1, none⟩ = false ∧ w'.cell? ⟨b, o + j, none⟩ = some (.int .i64 x) ∧ w'.cell? ⟨d, p + (i * n2 + j), none⟩ = some (.int .i64 y) := fun w' hB =>
            ⟨(hB.cell (p := ⟨w.heap.size, 0, none⟩) (by simp; omega)).trans q0, (hB.cell (p := ⟨w.heap.size, 1, none⟩) (by simp; omega)).trans q1, (hB.cell (p := ⟨w.heap.size, 2, none⟩) (by simp; omega)).trans q2,
              (hB.cell (p := ⟨w1.heap.size, 1, none⟩) (by simp)).trans r1, (hB.frozen (p := ⟨w1.heap.size, 1, none⟩) (by simp)).trans g1, (hB.cell (p := ⟨b, o + j, none⟩) (by simp; omega)).trans hc, (hB.cell (p := ⟨d, p + (i * n2 + j), none⟩) (by simp; omega)).trans hd⟩
          have HKS := hid hs
          have HX := hid hx
          have HY := hid (show El A n2 i j y from hy)
          clear hs hx hy
          go_wp2_with fail
          clear q0 q1 q2 r0 r1 r2 g0 g1 g2 hc hd
          refine wp_region_kept (S := fun w' => w'.cell? ⟨w.heap.size, 0, none⟩ = some (.int .i64 n2) ∧ w'.cell? ⟨w.heap.size, 1, none⟩ = some (.slice (some ⟨d, p, none⟩) n1 c1) ∧ w'.cell? ⟨w.heap.size, 2, none⟩ = some (.slice (some ⟨b, o, none⟩) n2 c2) ∧
              w'.cell? ⟨w1.heap.size, 1, none⟩ = some vA ∧ w'.frozen? ⟨w1.heap.size, 1, none⟩ = false ∧ w'.cell? ⟨b, o + j, none⟩ = some (.int .i64 x) ∧ w'.cell? ⟨d, p + (i * n2 + j), none⟩ = some (.int .i64 y)) 17 20 rfl (by kernel_rfl) (fun _ _ d _ _ h => by cases d <;> exact h) (HKS.out _ ((Below.refl _ _).drew)) ?_
          simp only [List.take_succ_cons, List.take_zero, List.drop_succ_cons, List.drop_zero]
          (refine take_step (fun K hK => ?_); refine take_val ?_ (by rfl) ?_ ?_; rotate_left 1; (focus (intro wc hC; skip; go_simp; try rfl)); go_simp; refine hK.out _ ?_; clear hK K)
          (refine take_step (fun K hK => ?_); refine take_val ?_ (by rfl) ?_ ?_; rotate_left 1; (focus (intro wc hC; obtain ⟨s0, s1, s2, s3, s4, s5, s6⟩ := hC; go_simp; try rfl)); go_simp; refine hK.out _ ?_; clear hK K)
          (refine take_step (fun K hK => ?_); refine take_val ?_ (by rfl) ?_ ?_; rotate_left 1; (focus (intro wc hC; skip; go_simp; try rfl)); go_simp; refine hK.out _ ?_; clear hK K)
          (refine take_step (fun K hK => ?_); refine take_val ?_ (by rfl) ?_ ?_; rotate_left 1; (focus (intro wc hC; obtain ⟨s0, s1, s2, s3, s4, s5, s6⟩ := hC; go_simp; try rfl)); go_simp; refine hK.out _ ?_; clear hK K)
          (refine take_step (fun K hK => ?_); refine take_val ?_ (by rfl) ?_ ?_; rotate_left 1; (focus (intro wc hC; skip; go_simp; try rfl)); go_simp; refine hK.out _ ?_; clear hK K)
          (refine take_step (fun K hK => ?_); refine take_val ?_ (by rfl) ?_ ?_; rotate_left 1; (focus (intro wc hC; skip; go_simp; try rfl)); go_simp; refine hK.out _ ?_; clear hK K)
          (refine take_step (fun K hK => ?_); refine take_val ?_ (by rfl) ?_ ?_; rotate_left 1; (focus (intro wc hC; obtain ⟨s0, s1, s2, s3, s4, s5, s6⟩ := hC; go_simp; try rfl)); go_simp; refine hK.out _ ?_; clear hK K)
          (refine take_step (fun K hK => ?_); refine take_val ?_ (by rfl) ?_ ?_; rotate_left 1; (focus (intro wc hC; skip; go_simp; try rfl)); go_simp; refine hK.out _ ?_; clear hK K)
          (refine take_step (fun K hK => ?_); refine take_val ?_ (by rfl) ?_ ?_; rotate_left 1; (focus (intro wc hC; obtain ⟨s0, s1, s2, s3, s4, s5, s6⟩ := hC; go_simp; try rfl)); go_simp; refine hK.out _ ?_; clear hK K)
          (refine take_step (fun K hK => ?_); refine take_val ?_ (by rfl) ?_ ?_; rotate_left 1; (focus (intro wc hC; skip; go_simp; try rfl)); go_simp; refine hK.out _ ?_; clear hK K)
          (refine take_step (fun K hK => ?_); refine take_val ?_ (by rfl) ?_ ?_; rotate_left 1; (focus (intro wc hC; skip; go_simp; try rfl)); go_simp; refine hK.out _ ?_; clear hK K)
          (refine take_step (fun K hK => ?_); refine take_val ?_ (by rfl) ?_ ?_; rotate_left 1; (focus (intro wc hC; obtain ⟨s0, s1, s2, s3, s4, s5, s6⟩ := hC; go_simp; try rfl)); go_simp; refine hK.out _ ?_; clear hK K)
          (refine take_step (fun K hK => ?_); refine take_val ?_ (by rfl) ?_ ?_; rotate_left 1; (focus (intro wc hC; skip; go_simp; try rfl)); go_simp; refine hK.out _ ?_; clear hK K)
          (refine take_step (fun K hK => ?_); refine take_val ?_ (by rfl) ?_ ?_; rotate_left 1; (focus (intro wc hC; skip; go_simp; try rfl)); go_simp; refine hK.out _ ?_; clear hK K)
          (refine take_step (fun K hK => ?_); refine take_val ?_ (by rfl) ?_ ?_; rotate_left 1; (focus (intro wc hC; skip; go_simp; try rfl)); go_simp; refine hK.out _ ?_; clear hK K)
          (refine take_step (fun K hK => ?_); refine take_val ?_ (by rfl) ?_ ?_; rotate_left 1; (focus (intro wc hC; skip; go_simp; try rfl)); go_simp; refine hK.out _ ?_; clear hK K)
          (refine take_step (fun K hK => ?_); refine take_val ?_ (by rfl) ?_ ?_; rotate_left 1; (focus (intro wc hC; obtain ⟨s0, s1, s2, s3, s4, s5, s6⟩ := hC; go_simp; try rfl)); go_simp; refine hK.out _ ?_; clear hK K)
          change wpMid _ _ _ _ _ _ _ _
          (refine mid_step (fun K hK => ?_); refine mid_call ?_ ?_ (by rfl) ?_ ?_; rotate_left 2; focus (go_simp; first | done | rfl | (refine And.intro ?_ ?_ <;> rfl)))
          refine (spec_Minus _ _ _).mono ?_
          rintro e w' ⟨rfl, rfl⟩
          refine ⟨_, rfl, ?_⟩
          (go_simp; refine hK.out _ _ ?_ ?_ <;> clear hK K)
          · exact HKS.out _ ((Below.refl _ _).drew)
          change wpMid _ _ _ _ _ _ _ _
          (refine mid_step (fun K hK => ?_); refine mid_val ?_ ?_ (by rfl) ?_ ?_; rotate_left 2; (focus (go_simp; first | done | rfl | (refine And.intro ?_ ?_ <;> rfl))); go_simp; refine hK.out _ _ ?_ ?_ <;> clear hK K)
          · exact HKS.out _ (((Below.refl _ _).drew).alloc (by simp; omega) _)
          refine mid_step (fun K hK => ?_)
          refine step_append_ints (by rfl) _ _ (by rfl) (w1.heap.size + 1) vA _ _ (by rfl) (hM.out.drew.a.alloc _) _ 1 1 [M.minus x y] (by rfl) (rd_one wq.drew _ _ (I64.num (M.num_minus _ _))) (by omega) (by simp; omega) ?_
          intro ao' c' w3 hO hG hW
          have hbl := ((((Below.refl _ _).drew).alloc (by simp; omega) _).grown hG (by simp; omega) (fun k hk => (hM.out.a.lt k hk).1))
          (go_simp; refine hK.out _ _ ?_ ?_ <;> clear hK K)
          · exact HKS.out w3 hbl
          obtain ⟨s0, s1, s2, s3, s4, s5, s6⟩ := HKS.out w3 hbl
          change wpList _ _ _ _ _ _
          have hN := hid ((hM.out.drew.below (((Below.refl _ _)).alloc (by simp) (.cells #[.int .i64 (M.minus x y)] 3))).pushA hO hG hW)
          clear hbl hO hG hW
          go_wp2_with fail
          have e1 : (n2 - 1 - i) * n2 + (n2 - (j + 1)) + 1 = (n2 - 1 - i) * n2 + (n2 - j) := by omega
          have e2 : firstN (adjE A B n2) ((n2 - 1 - i) * n2 + (n2 - (j + 1))) ++ [M.minus x y] = firstN (adjE A B n2) ((n2 - 1 - i) * n2 + (n2 - j)) := by
            rw [show n2 - (j + 1) = n2 - 1 - j by omega]
            exact adj_next hlt hjt HX.out HY.out
          have h := hN.out
          rw [e1, e2] at h
          rw [e1]
          refine ⟨⟨j, _, _, rfl, rfl, by omega, hid h⟩, ?_⟩
          first | (simp [intOf]; done) | (simp [intOf]; omega)
    
end Go.Proofs.Ytekojohhjnklkaa
