/- AddSeries of the implementation. -/
import Derived.Test.YtgbjoaheidgafaaDoorAddV
namespace Go.Proofs.YtgbjoaheidgafaaDoor
open Go.RowKit

set_option maxRecDepth 20000 in
set_option maxHeartbeats 4000000 in
theorem impl_mix (k n : Nat) (z : Int) (a1 : Option Addr) (c1 : Nat) (A : List Int) (o2 z2 : Int) (a2 : Option Addr) (c2 : Nat) (B : List Int) (w : World) (h1 : Rd w a1 n c1 A) (h2 : Rd w a2 n c2 B) (ht : Tc w) (hn : trees (k : Int) = n) (h37 : n ≤ 37) :
    Calls Tryd.prog 32 #[.agg #[.int .i64 k, .int .i64 z, .slice a1 n c1], .agg #[.int .i64 o2, .int .i64 z2, .slice a2 n c2], .int .i64 1] w fun e w' => ∃ p n' c, e = .returned (.agg #[.int .i64 k, .int .i64 (M.plus z z2), .slice p n' c]) ∧ NewS w w' (addL A B) p n' c := by
  have H1 := hid h1
  have H2 := hid h2
  have HT := hid ht
  have HN := hid hn
  clear h1 h2 ht hn
  have S2' := hid (((St.first w #[.int .i64 k, .int .i64 z, .slice a1 n c1] 24).alloc (.cells #[.int .i64 o2, .int .i64 z2, .slice a2 n c2] 24)).alloc (.cells #[.int .i64 0, .int .i64 0, .slice none 0 0] 24))
  have T2' := hid (bk_alloc (heap_alloc_at (w.alloc (.cells #[.int .i64 k, .int .i64 z, .slice a1 n c1] 24)) #[.int .i64 o2, .int .i64 z2, .slice a2 n c2] 24 (w.heap.size + 1) (by simp)) (.cells #[.int .i64 0, .int .i64 0, .slice none 0 0] 24))
  have R2' := hid (heap_alloc_at ((w.alloc (.cells #[.int .i64 k, .int .i64 z, .slice a1 n c1] 24)).alloc (.cells #[.int .i64 o2, .int .i64 z2, .slice a2 n c2] 24)) #[.int .i64 0, .int .i64 0, .slice none 0 0] 24 (w.heap.size + 1 + 1) (by simp))
  go_enter Tryd.func32, Tryd.ntmps32
  go_wp2_with fail
  obtain ⟨W, hW⟩ : ∃ W, W = ((w.alloc (.cells #[.int .i64 k, .int .i64 z, .slice a1 n c1] 24)).alloc (.cells #[.int .i64 o2, .int .i64 z2, .slice a2 n c2] 24)).alloc (.cells #[.int .i64 0, .int .i64 0, .slice none 0 0] 24) := ⟨_, rfl⟩
  have hWs : w.heap.size + 1 + 1 < W.heap.size := by rw [hW]; simp
  rw [← hW]
  have S2 := hid (show St w W _ _ from hW ▸ S2'.out)
  have T2 := hid (show W.heap[w.heap.size + 1]? = _ from hW ▸ T2'.out)
  have R2 := hid (show W.heap[w.heap.size + 1 + 1]? = _ from hW ▸ R2'.out)
  have KP := hid (keep6 S2.out.box T2.out)
  clear hW S2' T2' R2'
  go_cut [7] from 8 (fun sa wc => ∃ (b : Nat) (p : Option Addr) (n' c : Nat), sa = .pointer (some ⟨b, 0, none⟩) ∧ n' = n ∧ NSb W wc k (M.plus z z2) (List.replicate n 0) b p n' c)
  case first =>
    have hB_1 := hid (show Below W.heap.size W W.drew from (Below.refl _ _).drew)
    refine (fun (HG : Rg _ _ 11) => wp_region_hh (S := fun w' => Below W.heap.size W w') HG rfl ?_) ⟨by kernel_rfl, by decide, by kernel_rfl, by kernel_rfl, fun _ _ d _ _ h => by cases d <;> exact h⟩
    (refine hh_take 0 HG rfl (by decide) (by kernel_rfl) (by kernel_rfl) hB_1.out (fun K hK => ?_); refine take_val ?_ (by rfl) ?_ ?_; rotate_left 1; (focus (intro wc hC; skip; go_simp; try rfl)); go_simp; refine hK.out _ ?_; clear hK K)
    (refine hh_take 1 HG rfl (by decide) (by kernel_rfl) (by kernel_rfl) hB_1.out (fun K hK => ?_); refine take_val ?_ (by rfl) ?_ ?_; rotate_left 1; (focus (intro wc hC; obtain ⟨u0, u1, u2, u3, u4, u5⟩ := KP.out wc hC; go_simp; try rfl)); go_simp; refine hK.out _ ?_; clear hK K)
    (refine hh_take 2 HG rfl (by decide) (by kernel_rfl) (by kernel_rfl) hB_1.out (fun K hK => ?_); refine take_val ?_ (by rfl) ?_ ?_; rotate_left 1; (focus (intro wc hC; skip; go_simp; try rfl)); go_simp; refine hK.out _ ?_; clear hK K)
    (refine hh_take 3 HG rfl (by decide) (by kernel_rfl) (by kernel_rfl) hB_1.out (fun K hK => ?_); refine take_val ?_ (by rfl) ?_ ?_; rotate_left 1; (focus (intro wc hC; obtain ⟨u0, u1, u2, u3, u4, u5⟩ := KP.out wc hC; go_simp; try rfl)); go_simp; refine hK.out _ ?_; clear hK K)
    (refine hh_take 4 HG rfl (by decide) (by kernel_rfl) (by kernel_rfl) hB_1.out (fun K hK => ?_); refine take_val ?_ (by rfl) ?_ ?_; rotate_left 1; (focus (intro wc hC; skip; go_simp; try rfl)); go_simp; refine hK.out _ ?_; clear hK K)
    (refine hh_take 5 HG rfl (by decide) (by kernel_rfl) (by kernel_rfl) hB_1.out (fun K hK => ?_); refine take_val ?_ (by rfl) ?_ ?_; rotate_left 1; (focus (intro wc hC; obtain ⟨u0, u1, u2, u3, u4, u5⟩ := KP.out wc hC; go_simp; try rfl)); go_simp; refine hK.out _ ?_; clear hK K)
    (refine hh_take 6 HG rfl (by decide) (by kernel_rfl) (by kernel_rfl) hB_1.out (fun K hK => ?_); refine take_val ?_ (by rfl) ?_ ?_; rotate_left 1; (focus (intro wc hC; skip; go_simp; try rfl)); go_simp; refine hK.out _ ?_; clear hK K)
    refine hh_two 7 10 rfl rfl (by decide) (by decide) (by kernel_rfl) (fun K hK => ?_) (fun K hK => ?_)
    · skip
      (refine mid_call ?_ ?_ (by rfl) ?_ ?_; rotate_left 2; (focus (go_simp; first | done | rfl | (refine And.intro ?_ ?_ <;> rfl))))
      refine (impl_Times _ _ _).mono ?_
      rintro e w' ⟨rfl, rfl⟩
      refine ⟨_, rfl, ?_⟩
      (go_simp; refine hK.out _ _ ?_ ?_ <;> clear hK K)
      · exact hB_1.out
      refine hh_two 8 10 rfl rfl (by decide) (by decide) (by kernel_rfl) (fun K hK => ?_) (fun K hK => ?_)
      · skip
        (refine mid_call ?_ ?_ (by rfl) ?_ ?_; rotate_left 2; (focus (go_simp; first | done | rfl | (refine And.intro ?_ ?_ <;> rfl))))
        refine ((impl_Plus z (M.times z2 1) _)).mono ?_
        rw [plus_times_one]
        rintro e w' ⟨rfl, rfl⟩
        refine ⟨_, rfl, ?_⟩
        (go_simp; refine hK.out _ _ ?_ ?_ <;> clear hK K)
        · exact hB_1.out
        refine hh_two 9 10 rfl rfl (by decide) (by decide) (by kernel_rfl) (fun K hK => ?_) (fun K hK => ?_)
        · skip
          (refine mid_call ?_ ?_ (by rfl) ?_ ?_; rotate_left 2; (focus (go_simp; first | done | rfl | (refine And.intro ?_ ?_ <;> rfl))))
          refine (impl_blankN k n _ _ (HT.out.below (l_below S2.out.below hB_1.out)) HN.out h37).mono ?_
          rintro e V_6 ⟨p3, n3, c3, rfl, rfl, hN_7⟩
          refine ⟨_, rfl, ?_⟩
          have hB_8 := hid (hB_1.out.trans (hN_7.2.2.2.mono (show W.heap.size ≤ W.drew.heap.size from hB_1.out.size)))
          have HL_9 := hid hN_7
          clear hN_7
          (go_simp; refine hK.out _ _ ?_ ?_ <;> clear hK K)
          · exact hB_8.out
          refine hh_mid 10 rfl (by decide) (by kernel_rfl) (fun K hK => ?_)
          (refine mid_val ?_ ?_ (by rfl) ?_ ?_; rotate_left 2; (focus (go_simp; first | done | rfl | (refine And.intro ?_ ?_ <;> rfl))); go_simp; refine hK.out _ _ ?_ ?_ <;> clear hK K)
          · exact (hB_8.out.alloc hB_8.out.size _)
          have hB_10 := hid (show Below W.heap.size W (V_6.alloc (.cells #[.int .i64 0, .int .i64 0, .slice none 0 0] 24)) from hB_8.out.alloc hB_8.out.size _)
          have HZ_11 := hid (show (V_6.alloc (.cells #[.int .i64 0, .int .i64 0, .slice none 0 0] 24)).heap[V_6.heap.size]? = some (.cells #[.int .i64 0, .int .i64 0, .slice none 0 0] 24 (0, 0)) from bk_new V_6 #[.int .i64 0, .int .i64 0, .slice none 0 0] 24)
          obtain ⟨⟨z0, z1, z2⟩, z3, z4, z5⟩ := blk3 HZ_11.out
          refine hh_done (by kernel_rfl) ?_
          simp only [List.drop_succ_cons, List.drop_zero]
          change wpList _ _ _ _ _ _
          go_wp2_with fail
          go_meet
          exact ⟨_, _, _, _, rfl, rfl, NSb.late HL_9.out hB_1.out⟩
        · skip
          (refine mid_val ?_ ?_ (by rfl) ?_ ?_; rotate_left 2; (focus (go_simp; first | done | rfl | (refine And.intro ?_ ?_ <;> rfl))); go_simp; refine hK.out _ _ ?_ ?_ <;> clear hK K)
          · exact (hB_1.out.alloc hB_1.out.size _)
          have hB_12 := hid (show Below W.heap.size W (W.drew.alloc (.cells #[.int .i64 0, .int .i64 0, .slice none 0 0] 24)) from hB_1.out.alloc hB_1.out.size _)
          have HZ_13 := hid (show (W.drew.alloc (.cells #[.int .i64 0, .int .i64 0, .slice none 0 0] 24)).heap[W.heap.size]? = some (.cells #[.int .i64 0, .int .i64 0, .slice none 0 0] 24 (0, 0)) from bk_new W.drew #[.int .i64 0, .int .i64 0, .slice none 0 0] 24)
          refine hh_mid 9 rfl (by decide) (by kernel_rfl) (fun K hK => ?_)
          (refine mid_call ?_ ?_ (by rfl) ?_ ?_; rotate_left 2; (focus (go_simp; first | done | rfl | (refine And.intro ?_ ?_ <;> rfl))))
          refine (impl_blankN k n _ _ (HT.out.below (l_below S2.out.below hB_12.out)) HN.out h37).mono ?_
          rintro e V_14 ⟨p3, n3, c3, rfl, rfl, hN_15⟩
          refine ⟨_, rfl, ?_⟩
          have hB_16 := hid (hB_12.out.trans (hN_15.2.2.2.mono (show W.heap.size ≤ (W.drew.alloc (.cells #[.int .i64 0, .int .i64 0, .slice none 0 0] 24)).heap.size from hB_12.out.size)))
          have HZ_17 := hid (bk_below HZ_13.out hN_15.2.2.2)
          have HE_18 := bk_lt HZ_13.out
          have HL_19 := hid hN_15
          clear hN_15
          (go_simp; refine hK.out _ _ ?_ ?_ <;> clear hK K)
          · exact hB_16.out
          obtain ⟨⟨z0, z1, z2⟩, z3, z4, z5⟩ := blk3 HZ_17.out
          refine hh_done (by kernel_rfl) ?_
          simp only [List.drop_succ_cons, List.drop_zero]
          change wpList _ _ _ _ _ _
          go_wp2_with fail
          go_meet
          exact ⟨_, _, _, _, rfl, rfl, NSb.early HZ_17.out (show W.heap.size ≤ W.heap.size from hB_1.out.size) HE_18 HL_19.out hB_12.out⟩
      · skip
        (refine mid_val ?_ ?_ (by rfl) ?_ ?_; rotate_left 2; (focus (go_simp; first | done | rfl | (refine And.intro ?_ ?_ <;> rfl))); go_simp; refine hK.out _ _ ?_ ?_ <;> clear hK K)
        · exact (hB_1.out.alloc hB_1.out.size _)
        have hB_20 := hid (show Below W.heap.size W (W.drew.alloc (.cells #[.int .i64 0, .int .i64 0, .slice none 0 0] 24)) from hB_1.out.alloc hB_1.out.size _)
        have HZ_21 := hid (show (W.drew.alloc (.cells #[.int .i64 0, .int .i64 0, .slice none 0 0] 24)).heap[W.heap.size]? = some (.cells #[.int .i64 0, .int .i64 0, .slice none 0 0] 24 (0, 0)) from bk_new W.drew #[.int .i64 0, .int .i64 0, .slice none 0 0] 24)
        refine hh_mid 8 rfl (by decide) (by kernel_rfl) (fun K hK => ?_)
        (refine mid_call ?_ ?_ (by rfl) ?_ ?_; rotate_left 2; (focus (go_simp; first | done | rfl | (refine And.intro ?_ ?_ <;> rfl))))
        refine ((impl_Plus z (M.times z2 1) _)).mono ?_
        rw [plus_times_one]
        rintro e w' ⟨rfl, rfl⟩
        refine ⟨_, rfl, ?_⟩
        (go_simp; refine hK.out _ _ ?_ ?_ <;> clear hK K)
        · exact hB_20.out
        refine hh_mid 9 rfl (by decide) (by kernel_rfl) (fun K hK => ?_)
        (refine mid_call ?_ ?_ (by rfl) ?_ ?_; rotate_left 2; (focus (go_simp; first | done | rfl | (refine And.intro ?_ ?_ <;> rfl))))
        refine (impl_blankN k n _ _ (HT.out.below (l_below S2.out.below hB_20.out)) HN.out h37).mono ?_
        rintro e V_24 ⟨p3, n3, c3, rfl, rfl, hN_25⟩
        refine ⟨_, rfl, ?_⟩
        have hB_26 := hid (hB_20.out.trans (hN_25.2.2.2.mono (show W.heap.size ≤ (W.drew.alloc (.cells #[.int .i64 0, .int .i64 0, .slice none 0 0] 24)).heap.size from hB_20.out.size)))
        have HZ_27 := hid (bk_below HZ_21.out hN_25.2.2.2)
        have HE_28 := bk_lt HZ_21.out
        have HL_29 := hid hN_25
        clear hN_25
        (go_simp; refine hK.out _ _ ?_ ?_ <;> clear hK K)
        · exact hB_26.out
        obtain ⟨⟨z0, z1, z2⟩, z3, z4, z5⟩ := blk3 HZ_27.out
        refine hh_done (by kernel_rfl) ?_
        simp only [List.drop_succ_cons, List.drop_zero]
        change wpList _ _ _ _ _ _
        go_wp2_with fail
        go_meet
        exact ⟨_, _, _, _, rfl, rfl, NSb.early HZ_27.out (show W.heap.size ≤ W.heap.size from hB_1.out.size) HE_28 HL_29.out hB_20.out⟩
    · skip
      (refine mid_val ?_ ?_ (by rfl) ?_ ?_; rotate_left 2; (focus (go_simp; first | done | rfl | (refine And.intro ?_ ?_ <;> rfl))); go_simp; refine hK.out _ _ ?_ ?_ <;> clear hK K)
      · exact (hB_1.out.alloc hB_1.out.size _)
      have hB_30 := hid (show Below W.heap.size W (W.drew.alloc (.cells #[.int .i64 0, .int .i64 0, .slice none 0 0] 24)) from hB_1.out.alloc hB_1.out.size _)
      have HZ_31 := hid (show (W.drew.alloc (.cells #[.int .i64 0, .int .i64 0, .slice none 0 0] 24)).heap[W.heap.size]? = some (.cells #[.int .i64 0, .int .i64 0, .slice none 0 0] 24 (0, 0)) from bk_new W.drew #[.int .i64 0, .int .i64 0, .slice none 0 0] 24)
      refine hh_mid 7 rfl (by decide) (by kernel_rfl) (fun K hK => ?_)
      (refine mid_call ?_ ?_ (by rfl) ?_ ?_; rotate_left 2; (focus (go_simp; first | done | rfl | (refine And.intro ?_ ?_ <;> rfl))))
      refine (impl_Times _ _ _).mono ?_
      rintro e w' ⟨rfl, rfl⟩
      refine ⟨_, rfl, ?_⟩
      (go_simp; refine hK.out _ _ ?_ ?_ <;> clear hK K)
      · exact hB_30.out
      refine hh_mid 8 rfl (by decide) (by kernel_rfl) (fun K hK => ?_)
      (refine mid_call ?_ ?_ (by rfl) ?_ ?_; rotate_left 2; (focus (go_simp; first | done | rfl | (refine And.intro ?_ ?_ <;> rfl))))
      refine ((impl_Plus z (M.times z2 1) _)).mono ?_
      rw [plus_times_one]
      rintro e w' ⟨rfl, rfl⟩
      refine ⟨_, rfl, ?_⟩
      (go_simp; refine hK.out _ _ ?_ ?_ <;> clear hK K)
      · exact hB_30.out
      refine hh_mid 9 rfl (by decide) (by kernel_rfl) (fun K hK => ?_)
      (refine mid_call ?_ ?_ (by rfl) ?_ ?_; rotate_left 2; (focus (go_simp; first | done | rfl | (refine And.intro ?_ ?_ <;> rfl))))
      refine (impl_blankN k n _ _ (HT.out.below (l_below S2.out.below hB_30.out)) HN.out h37).mono ?_
      rintro e V_36 ⟨p3, n3, c3, rfl, rfl, hN_37⟩
      refine ⟨_, rfl, ?_⟩
      have hB_38 := hid (hB_30.out.trans (hN_37.2.2.2.mono (show W.heap.size ≤ (W.drew.alloc (.cells #[.int .i64 0, .int .i64 0, .slice none 0 0] 24)).heap.size from hB_30.out.size)))
      have HZ_39 := hid (bk_below HZ_31.out hN_37.2.2.2)
      have HE_40 := bk_lt HZ_31.out
      have HL_41 := hid hN_37
      clear hN_37
      (go_simp; refine hK.out _ _ ?_ ?_ <;> clear hK K)
      · exact hB_38.out
      obtain ⟨⟨z0, z1, z2⟩, z3, z4, z5⟩ := blk3 HZ_39.out
      refine hh_done (by kernel_rfl) ?_
      simp only [List.drop_succ_cons, List.drop_zero]
      change wpList _ _ _ _ _ _
      go_wp2_with fail
      go_meet
      exact ⟨_, _, _, _, rfl, rfl, NSb.early HZ_39.out (show W.heap.size ≤ W.heap.size from hB_1.out.size) HE_40 HL_41.out hB_30.out⟩
  case rest =>
    obtain ⟨w4, rfl⟩ : ∃ w4 : World, w4 = wc := ⟨_, rfl⟩
    obtain ⟨b, p, n', c, rfl, rfl, hN⟩ := hcut
    have M0 := hid (MkS.of hN)
    have z0 := hN.nt.2.2.2.size
    clear hN KP
    obtain ⟨⟨r0, r1, r2⟩, _⟩ := blk3 M0.out.out
    go_wp2_with fail
    clear r0 r1 r2
    go_loopw [8, 22] (fun _ i wr => ∃ j : Nat, i = .int .i64 j ∧ j ≤ n' ∧ W.heap.size ≤ wr.heap.size ∧ Hid (MkS W.heap.size W wr k (M.plus z z2) b p n' c ((addL A B).take j ++ (List.replicate n' 0).drop j))) (fun _ i _ => n' - (intOf i).toNat)
    case atStart => exact ⟨0, rfl, Nat.zero_le _, z0, hid M0.out⟩
    case round =>
      obtain ⟨j, rfl, hj, hz, hM⟩ := hrel
      obtain ⟨wo, rfl⟩ : ∃ wo : World, wo = wr := ⟨_, rfl⟩
      obtain ⟨⟨q0, q1, q2⟩, _⟩ := blk3 (hM.out.old (by omega) S2.out.box)
      obtain ⟨⟨p0, p1, p2⟩, _⟩ := blk3 (hM.out.old (by omega) T2.out)
      obtain ⟨⟨r0, r1, r2⟩, _⟩ := blk3 hM.out.out
      by_cases hlt : j < n'
      · obtain ⟨b1, f1, x, rfl, hc1, _, _, hx⟩ := (H1.out.below (l_below S2.out.below hM.out.l)).at hlt
        obtain ⟨b2, f2, y, rfl, hc2, _, _, hy⟩ := (H2.out.below (l_below S2.out.below hM.out.l)).at hlt
        obtain ⟨b3, f3, v, rfl, hc3, _, _, _⟩ := hM.out.a.rd.at hlt
        have hfz := (hM.out.a.own _ _ _ rfl (by omega)).2 j hlt
        have hki : (j : Int) < (n' : Int) := by omega
        go_wp2_with fail
        refine wp_region_still_tail 16 (by kernel_rfl) (by kernel_rfl) ?_
        simp only [List.take_succ_cons, List.take_zero, List.drop_succ_cons, List.drop_zero]
        repeat still_step
        still_call ((impl_Times _ _ _).mono fun _ _ h => ⟨h.1, h.2.symm⟩)
        still_call ((impl_Plus _ _ _).mono fun _ _ h => ⟨h.1, h.2.symm⟩)
        refine wpStill_nil ?_
        change wpList _ _ _ _ _ wo.drew
        go_wp2_with fail
        go_roundw
        case rel =>
          have hs := (hM.out.store hlt (x := M.plus x (M.times y 1)) (I64.num (M.num_plus _ _))).drew
          rw [mix_step (addL_len H1.out.len H2.out.len) (by simp) hlt (by rw [plus_times_one]; exact addL_at H1.out.len H2.out.len hlt hx.out hy.out)] at hs
          exact ⟨j + 1, by go_num, by omega, by simpa using hz, hid hs⟩
        case measure => simp [intOf]; omega
      · obtain rfl : n' = j := by omega
        have hM0 := hM.out
        rw [mix_end (addL_len H1.out.len H2.out.len) (by simp)] at hM0
        have HM := hid hM0
        obtain ⟨⟨t0, t1, t2⟩, g0, g1, g2⟩ := blk3 (hM.out.old (by omega) R2.out)
        clear hM0 hM
        go_wp2_with fail
        obtain ⟨e1, e2⟩ := HM.out.finish (show w.heap.size ≤ w.heap.size + 1 + 1 by omega) (by omega) S2.out.below (by omega) R2.out
        exact ret_ser rfl rfl e1 rfl ⟨_, _, _, rfl, e2⟩
theorem impl_AddSeries (o z : Int) (a1 : Option Addr) (n1 c1 : Nat) (A : List Int) (o2 z2 : Int) (a2 : Option Addr) (n2 c2 : Nat) (B : List Int) (w : World) (h1 : Rd w a1 n1 c1 A) (h2 : Rd w a2 n2 c2 B) (ht : Tc w) {ro rz : Int} {rA : List Int} {rb : Bool} (hr : addV o z A o2 z2 B = ⟨ro, rz, rA, rb⟩) :
    Calls Tryd.prog 15 #[.agg #[.int .i64 o, .int .i64 z, .slice a1 n1 c1], .agg #[.int .i64 o2, .int .i64 z2, .slice a2 n2 c2]] w fun e w' => ∃ p n c, e = .returned (.tuple #[.agg #[.int .i64 ro, .int .i64 rz, .slice p n c], .bool rb]) ∧ NewS w w' rA p n c := by
  have H1 := hid h1
  have H2 := hid h2
  have HT := hid ht
  clear h1 h2 ht
  have S0 := hid (((St.first w #[.int .i64 o, .int .i64 z, .slice a1 n1 c1] 24).alloc (.cells #[.int .i64 o2, .int .i64 z2, .slice a2 n2 c2] 24)).alloc (.cells #[.int .i64 0, .int .i64 0, .slice none 0 0] 24))
  have T0 := hid (bk_alloc (heap_alloc_at (w.alloc (.cells #[.int .i64 o, .int .i64 z, .slice a1 n1 c1] 24)) #[.int .i64 o2, .int .i64 z2, .slice a2 n2 c2] 24 (w.heap.size + 1) (by simp)) (.cells #[.int .i64 0, .int .i64 0, .slice none 0 0] 24))
  have R0 := hid (heap_alloc_at ((w.alloc (.cells #[.int .i64 o, .int .i64 z, .slice a1 n1 c1] 24)).alloc (.cells #[.int .i64 o2, .int .i64 z2, .slice a2 n2 c2] 24)) #[.int .i64 0, .int .i64 0, .slice none 0 0] 24 (w.heap.size + 1 + 1) (by simp))
  cases hok : (serOk o z A && (serOk o2 z2 B && decide (o = o2))) with
  | false =>
    rw [addV_no hok] at hr
    cases hr
    have HOK := hid hok
    clear hok
    go_enter Tryd.func15, Tryd.ntmps15
    go_wp2_with fail
    refine (impl_pairOk _ _ _ _ _ A _ _ _ _ _ B _ (H1.out.below S0.out.below) (H2.out.below S0.out.below) (HT.out.below S0.out.below)).mono ?_
    rw [HOK.out]
    rintro e w1 ⟨rfl, hB⟩
    have S1 := hid (S0.out.step hB)
    have R1 := hid (bk_below R0.out hB)
    obtain ⟨⟨r0, r1, r2⟩, f0, f1, f2⟩ := blk3 R1.out
    clear hB
    go_wp2_with fail
    obtain ⟨e1, e2⟩ := noneS_end S1.out.below (show w.heap.size ≤ w.heap.size + 1 + 1 by omega) R1.out (.int .i64 0) (.int .i64 0) (.slice none 0 0)
    exact ret_serb rfl rfl rfl e1 rfl ⟨_, _, _, rfl, e2⟩
  | true =>
    have hp := hok
    clear hok
    simp only [Bool.and_eq_true, decide_eq_true_eq] at hp
    obtain ⟨p1, p2, rfl⟩ := hp
    rw [addV_yes p1 p2] at hr
    cases hr
    obtain ⟨k, n, rfl, hk, hn, h37, hl1⟩ := serOk_parts p1
    obtain ⟨k', n', ek, _, hn', _, hl2⟩ := serOk_parts p2
    obtain rfl : k' = k := by omega
    obtain rfl : n' = n := by rw [hn] at hn'; omega
    obtain rfl : n1 = n' := by rw [← H1.out.len]; exact hl1
    obtain rfl : n2 = n1 := by rw [← H2.out.len]; exact hl2
    have HN := hid hn
    have P1 := hid p1
    have P2 := hid p2
    clear p1 p2 hn hn' hl1 hl2 ek
    go_enter Tryd.func15, Tryd.ntmps15
    go_wp2_with fail
    refine (impl_pairOk _ _ _ _ _ A _ _ _ _ _ B _ (H1.out.below S0.out.below) (H2.out.below S0.out.below) (HT.out.below S0.out.below)).mono ?_
    rw [show (serOk (k' : Int) z A && (serOk (k' : Int) z2 B && decide ((k' : Int) = (k' : Int)))) = true by rw [P1.out, P2.out]; simp]
    rintro e w1 ⟨rfl, hB⟩
    have S1 := hid (S0.out.step hB)
    have T1 := hid (bk_below T0.out hB)
    have R1 := hid (bk_below R0.out hB)
    have y1 := bk_lt R1.out
    obtain ⟨⟨q0, q1, q2⟩, _⟩ := blk3 S1.out.box
    obtain ⟨⟨t0, t1, t2⟩, _⟩ := blk3 T1.out
    clear hB
    go_wp2_with fail
    refine (impl_mix k' n2 z a1 c1 A _ z2 a2 c2 B _ (H1.out.below S1.out.below) (H2.out.below S1.out.below) (HT.out.below S1.out.below) HN.out h37).mono ?_
    rintro e w2 ⟨p3, n3, c3, rfl, hN⟩
    have HNT := hid hN
    have R2 := hid (bk_below R1.out hN.2.2.2)
    obtain ⟨⟨r0, r1, r2⟩, f0, f1, f2⟩ := blk3 R2.out
    clear hN q0 q1 q2 t0 t1 t2
    go_wp2_with fail
    exact ret_serb rfl rfl rfl (heap_setCell_same _ _ _ _ _ _ (heap_setCell_same _ _ _ _ _ _ (heap_setCell_same _ _ _ _ _ _ R2.out))) rfl ⟨_, _, _, rfl, newS_stores HNT.out S1.out.below (by omega) y1 _ _ _⟩
end Go.Proofs.YtgbjoaheidgafaaDoor
