/- JumpTableau of the implementation. -/
import Derived.Test.YtekojohhjnklkaaJumpL
import Derived.Test.YtekojohhjnklkaaScaleV
import Derived.Test.YtekojohhjnklkaaCmpV
import Derived.Test.YtekojohhjnklkaaHold2
import Derived.Test.YtekojohhjnklkaaLaw2
import Derived.Deep.Cut
namespace Go.Proofs.Ytekojohhjnklkaa
open Go.RowKit

set_option maxHeartbeats 2000000 in
theorem impl_JumpTableau (s : Int) (a1 : Option Addr) (n1 c1 : Nat) (A : List Int) (a2 : Option Addr) (n2 c2 : Nat) (B : List Int) (w : World) (h1 : Rd w a1 n1 c1 A) (h2 : Rd w a2 n2 c2 B) {rs : Int} {rA rB : List Int} {rb : Bool} (hr : jumpV s A B = ⟨rs, rA, rB, rb⟩) :
    Calls Try.prog 45 #[.agg #[.int .i64 s, .slice a1 n1 c1, .slice a2 n2 c2]] w fun e w' => ∃ p n c q m d, e = .returned (.tuple #[.agg #[.int .i64 rs, .slice p n c, .slice q m d], .bool rb]) ∧ NewT w w' rA rB p n c q m d := by
  obtain ⟨s1, A1, B1, o1, X1⟩ : ∃ s1 A1 B1 o1, Hid (scaleV s A B M.jump = ⟨s1, A1, B1, o1⟩) := ⟨_, _, _, _, rfl⟩
  obtain ⟨s2, A2, B2, o2, X2⟩ : ∃ s2 A2 B2 o2, Hid (scaleV s A B (M.minus 1 (M.times 2 M.jump)) = ⟨s2, A2, B2, o2⟩) := ⟨_, _, _, _, rfl⟩
  obtain ⟨s3, A3, B3, o3, X3⟩ : ∃ s3 A3 B3 o3, Hid (cmpV s1 A1 B1 s2 A2 B2 = ⟨s3, A3, B3, o3⟩) := ⟨_, _, _, _, rfl⟩
  have HJ := hid (show (if tabOk s A B && o3 then cmpV s3 A3 B3 s1 A1 B1 else Tb.none) = ⟨rs, rA, rB, rb⟩ by
    have h := hr
    unfold jumpV at h
    rw [X1.out, X2.out] at h
    simp only at h
    rw [X3.out] at h
    exact h)
  have H1 := hid h1
  have H2 := hid h2
  obtain ⟨x, hx⟩ : ∃ x, x = M.jump := ⟨_, rfl⟩
  have HX := hid hx
  have X1x := hid (show scaleV s A B x = ⟨s1, A1, B1, o1⟩ by rw [hx]; exact X1.out)
  have X2x := hid (show scaleV s A B (M.minus 1 (M.times 2 x)) = ⟨s2, A2, B2, o2⟩ by rw [hx]; exact X2.out)
  clear h1 h2 hr hx
  have S0 := hid ((St.first w #[.int .i64 s, .slice a1 n1 c1, .slice a2 n2 c2] 27).alloc (.cells #[.int .i64 0, .slice none 0 0, .slice none 0 0] 27))
  have R0 := hid (heap_alloc_at (w.alloc (.cells #[.int .i64 s, .slice a1 n1 c1, .slice a2 n2 c2] 27)) #[.int .i64 0, .slice none 0 0, .slice none 0 0] 27 (w.heap.size + 1) (by simp))
  go_enter Try.func45, Try.ntmps45
  go_wp2_with fail
  refine (impl_jumpStep _).mono ?_
  rw [← HX.out]
  rintro e w' ⟨rfl, rfl⟩
  go_wp2_with fail
  refine (impl_ScaleTableau s a1 n1 c1 A a2 n2 c2 B x _ (H1.out.below S0.out.below) (H2.out.below S0.out.below) (by rw [HX.out]; unfold M.jump; exact I64.num (M.num_inv _)) X1x.out).mono ?_
  rintro e w1 ⟨p1, m1, d1, q1, k1, e1, rfl, hN⟩
  have S1 := hid (S0.out.step hN.2.2.2)
  have R1 := hid (bk_below R0.out hN.2.2.2)
  have N1 := hid hN
  clear hN S0 R0
  go_wp2_with fail
  obtain ⟨W, hW⟩ : ∃ W, W = w1.alloc (.cells #[.int .i64 s1, .slice p1 m1 d1, .slice q1 k1 e1] 27) := ⟨_, rfl⟩
  have hWs : w1.heap.size < W.heap.size := by rw [hW]; simp
  rw [← hW]
  have S2 := hid (show St w W _ _ from hW ▸ S1.out.alloc _)
  have R2 := hid (show W.heap[w.heap.size + 1]? = _ from hW ▸ bk_alloc R1.out _)
  have BKW := hid (show W.heap[w1.heap.size]? = _ from hW ▸ bk_new w1 #[.int .i64 s1, .slice p1 m1 d1, .slice q1 k1 e1] 27)
  have FA := hid (show Fr W _ _ _ _ _ from hW ▸ N1.out.1.alloc _)
  have FB := hid (show Fr W _ _ _ _ _ from hW ▸ N1.out.2.1.alloc _)
  have KP := hid (keep6 S2.out.box BKW.out)
  clear hW S1 R1 N1
  go_cut [6, 7] from 8 (fun sa sb wc => ∃ (b : Nat) (p : Option Addr) (n c : Nat) (q : Option Addr) (m d : Nat), sa = .pointer (some ⟨b, 0, none⟩) ∧ sb = .bool o3 ∧ NTb W wc s3 A3 B3 b p n c q m d)
  case first =>
    have hB_1 := hid (show Below W.heap.size W W.drew from (Below.refl _ _).drew)
    refine (fun (HG : Rg _ _ 12) => wp_region_hh (S := fun w' => Below W.heap.size W w') HG rfl ?_) ⟨by kernel_rfl, by decide, by kernel_rfl, by kernel_rfl, fun _ _ d _ _ h => by cases d <;> exact h⟩
    (refine hh_take 0 HG rfl (by decide) (by kernel_rfl) (by kernel_rfl) hB_1.out (fun K hK => ?_); refine take_val ?_ (by rfl) ?_ ?_; rotate_left 1; (focus (intro wc hC; obtain ⟨u0, u1, u2, u3, u4, u5⟩ := KP.out wc hC; go_simp; try rfl)); go_simp; refine hK.out _ ?_; clear hK K)
    (refine hh_take 1 HG rfl (by decide) (by kernel_rfl) (by kernel_rfl) hB_1.out (fun K hK => ?_); refine take_val ?_ (by rfl) ?_ ?_; rotate_left 1; (focus (intro wc hC; obtain ⟨u0, u1, u2, u3, u4, u5⟩ := KP.out wc hC; go_simp; try rfl)); go_simp; refine hK.out _ ?_; clear hK K)
    (refine hh_take 2 HG rfl (by decide) (by kernel_rfl) (by kernel_rfl) hB_1.out (fun K hK => ?_); refine take_val ?_ (by rfl) ?_ ?_; rotate_left 1; (focus (intro wc hC; skip; go_simp; try rfl)); go_simp; refine hK.out _ ?_; clear hK K)
    refine hh_two 3 10 rfl rfl (by decide) (by decide) (by kernel_rfl) (fun K hK => ?_) (fun K hK => ?_)
    · skip
      (refine mid_call ?_ ?_ (by rfl) ?_ ?_; rotate_left 2; (focus (go_simp; first | done | rfl | (refine And.intro ?_ ?_ <;> rfl))))
      refine (impl_Times _ _ _).mono ?_
      rintro e w' ⟨rfl, rfl⟩
      refine ⟨_, rfl, ?_⟩
      (go_simp; refine hK.out _ _ ?_ ?_ <;> clear hK K)
      · exact hB_1.out
      refine hh_two 4 10 rfl rfl (by decide) (by decide) (by kernel_rfl) (fun K hK => ?_) (fun K hK => ?_)
      · skip
        (refine mid_call ?_ ?_ (by rfl) ?_ ?_; rotate_left 2; (focus (go_simp; first | done | rfl | (refine And.intro ?_ ?_ <;> rfl))))
        refine (impl_Minus _ _ _).mono ?_
        rintro e w' ⟨rfl, rfl⟩
        refine ⟨_, rfl, ?_⟩
        (go_simp; refine hK.out _ _ ?_ ?_ <;> clear hK K)
        · exact hB_1.out
        refine hh_two 5 10 rfl rfl (by decide) (by decide) (by kernel_rfl) (fun K hK => ?_) (fun K hK => ?_)
        · skip
          (refine mid_call ?_ ?_ (by rfl) ?_ ?_; rotate_left 2; (focus (go_simp; first | done | rfl | (refine And.intro ?_ ?_ <;> rfl))))
          refine (impl_ScaleTableau s a1 n1 c1 A a2 n2 c2 B _ _ (H1.out.below (l_below S2.out.below hB_1.out)) (H2.out.below (l_below S2.out.below hB_1.out)) (I64.num (M.num_minus _ _)) X2x.out).mono ?_
          rintro e V_6 ⟨p2, m2, d2, q2, k2, e2, rfl, hN_7⟩
          refine ⟨_, rfl, ?_⟩
          have hB_8 := hid (hB_1.out.trans (hN_7.2.2.2.mono (show W.heap.size ≤ W.drew.heap.size from hB_1.out.size)))
          have G2a_9 := hid (hN_7.1.rd)
          have G2b_10 := hid (hN_7.2.1.rd)
          clear hN_7
          (go_simp; refine hK.out _ _ ?_ ?_ <;> clear hK K)
          · exact hB_8.out
          refine hh_two 6 10 rfl rfl (by decide) (by decide) (by kernel_rfl) (fun K hK => ?_) (fun K hK => ?_)
          · skip
            (refine mid_call ?_ ?_ (by rfl) ?_ ?_; rotate_left 2; (focus (go_simp; first | done | rfl | (refine And.intro ?_ ?_ <;> rfl))))
            refine (impl_ComposeTableaus s1 p1 m1 d1 A1 q1 k1 e1 B1 s2 p2 m2 d2 A2 q2 k2 e2 B2 _ (FA.out.rd.below hB_8.out) (FB.out.rd.below hB_8.out) G2a_9.out G2b_10.out X3.out).mono ?_
            rintro e V_11 ⟨p3, m3, d3, q3, k3, e3, rfl, hN_12⟩
            refine ⟨_, rfl, ?_⟩
            have hB_13 := hid (hB_8.out.trans (hN_12.2.2.2.mono (show W.heap.size ≤ V_6.heap.size from hB_8.out.size)))
            have G2a_14 := hid (G2a_9.out.below hN_12.2.2.2)
            have G2b_15 := hid (G2b_10.out.below hN_12.2.2.2)
            have HL_16 := hid hN_12
            clear hN_12
            (go_simp; refine hK.out _ _ ?_ ?_ <;> clear hK K)
            · exact hB_13.out
            (refine hh_take 7 HG rfl (by decide) (by kernel_rfl) (by kernel_rfl) hB_13.out (fun K hK => ?_); refine take_val ?_ (by rfl) ?_ ?_; rotate_left 1; (focus (intro wc hC; skip; go_simp; try rfl)); go_simp; refine hK.out _ ?_; clear hK K)
            (refine hh_take 8 HG rfl (by decide) (by kernel_rfl) (by kernel_rfl) hB_13.out (fun K hK => ?_); refine take_val ?_ (by rfl) ?_ ?_; rotate_left 1; (focus (intro wc hC; skip; go_simp; try rfl)); go_simp; refine hK.out _ ?_; clear hK K)
            (refine hh_take 9 HG rfl (by decide) (by kernel_rfl) (by kernel_rfl) hB_13.out (fun K hK => ?_); refine take_val ?_ (by rfl) ?_ ?_; rotate_left 1; (focus (intro wc hC; skip; go_simp; try rfl)); go_simp; refine hK.out _ ?_; clear hK K)
            refine hh_mid 10 rfl (by decide) (by kernel_rfl) (fun K hK => ?_)
            (refine mid_val ?_ ?_ (by rfl) ?_ ?_; rotate_left 2; (focus (go_simp; first | done | rfl | (refine And.intro ?_ ?_ <;> rfl))); go_simp; refine hK.out _ _ ?_ ?_ <;> clear hK K)
            · exact (hB_13.out.alloc hB_13.out.size _)
            have hB_17 := hid (show Below W.heap.size W (V_11.alloc (.cells #[.int .i64 0, .slice none 0 0, .slice none 0 0] 27)) from hB_13.out.alloc hB_13.out.size _)
            have HZ_18 := hid (show (V_11.alloc (.cells #[.int .i64 0, .slice none 0 0, .slice none 0 0] 27)).heap[V_11.heap.size]? = some (.cells #[.int .i64 0, .slice none 0 0, .slice none 0 0] 27 (0, 0)) from bk_new V_11 #[.int .i64 0, .slice none 0 0, .slice none 0 0] 27)
            obtain ⟨⟨z0, z1, z2⟩, z3, z4, z5⟩ := blk3 HZ_18.out
            refine hh_mid 11 rfl (by decide) (by kernel_rfl) (fun K hK => ?_)
            (go_simp; refine hK.out _ _ ?_ ?_ <;> clear hK K)
            · exact hB_13.out.alloc hB_13.out.size _
            refine hh_done (by kernel_rfl) ?_
            simp only [List.drop_succ_cons, List.drop_zero]
            change wpList _ _ _ _ _ _
            go_wp2_with fail
            go_meet
            exact ⟨_, _, _, _, _, _, _, rfl, rfl, NTb.late HL_16.out hB_8.out⟩
          · skip
            (refine mid_val ?_ ?_ (by rfl) ?_ ?_; rotate_left 2; (focus (go_simp; first | done | rfl | (refine And.intro ?_ ?_ <;> rfl))); go_simp; refine hK.out _ _ ?_ ?_ <;> clear hK K)
            · exact (hB_8.out.alloc hB_8.out.size _)
            have hB_19 := hid (show Below W.heap.size W (V_6.alloc (.cells #[.int .i64 0, .slice none 0 0, .slice none 0 0] 27)) from hB_8.out.alloc hB_8.out.size _)
            have HZ_20 := hid (show (V_6.alloc (.cells #[.int .i64 0, .slice none 0 0, .slice none 0 0] 27)).heap[V_6.heap.size]? = some (.cells #[.int .i64 0, .slice none 0 0, .slice none 0 0] 27 (0, 0)) from bk_new V_6 #[.int .i64 0, .slice none 0 0, .slice none 0 0] 27)
            have G2a_21 := hid (G2a_9.out.alloc (.cells #[.int .i64 0, .slice none 0 0, .slice none 0 0] 27))
            have G2b_22 := hid (G2b_10.out.alloc (.cells #[.int .i64 0, .slice none 0 0, .slice none 0 0] 27))
            refine hh_mid 6 rfl (by decide) (by kernel_rfl) (fun K hK => ?_)
            (refine mid_call ?_ ?_ (by rfl) ?_ ?_; rotate_left 2; (focus (go_simp; first | done | rfl | (refine And.intro ?_ ?_ <;> rfl))))
            refine (impl_ComposeTableaus s1 p1 m1 d1 A1 q1 k1 e1 B1 s2 p2 m2 d2 A2 q2 k2 e2 B2 _ (FA.out.rd.below hB_19.out) (FB.out.rd.below hB_19.out) G2a_21.out G2b_22.out X3.out).mono ?_
            rintro e V_23 ⟨p3, m3, d3, q3, k3, e3, rfl, hN_24⟩
            refine ⟨_, rfl, ?_⟩
            have hB_25 := hid (hB_19.out.trans (hN_24.2.2.2.mono (show W.heap.size ≤ (V_6.alloc (.cells #[.int .i64 0, .slice none 0 0, .slice none 0 0] 27)).heap.size from hB_19.out.size)))
            have HZ_26 := hid (bk_below HZ_20.out hN_24.2.2.2)
            have HE_27 := bk_lt HZ_20.out
            have G2a_28 := hid (G2a_21.out.below hN_24.2.2.2)
            have G2b_29 := hid (G2b_22.out.below hN_24.2.2.2)
            have HL_30 := hid hN_24
            clear hN_24
            (go_simp; refine hK.out _ _ ?_ ?_ <;> clear hK K)
            · exact hB_25.out
            (refine hh_take 7 HG rfl (by decide) (by kernel_rfl) (by kernel_rfl) hB_25.out (fun K hK => ?_); refine take_val ?_ (by rfl) ?_ ?_; rotate_left 1; (focus (intro wc hC; skip; go_simp; try rfl)); go_simp; refine hK.out _ ?_; clear hK K)
            (refine hh_take 8 HG rfl (by decide) (by kernel_rfl) (by kernel_rfl) hB_25.out (fun K hK => ?_); refine take_val ?_ (by rfl) ?_ ?_; rotate_left 1; (focus (intro wc hC; skip; go_simp; try rfl)); go_simp; refine hK.out _ ?_; clear hK K)
            (refine hh_take 9 HG rfl (by decide) (by kernel_rfl) (by kernel_rfl) hB_25.out (fun K hK => ?_); refine take_val ?_ (by rfl) ?_ ?_; rotate_left 1; (focus (intro wc hC; skip; go_simp; try rfl)); go_simp; refine hK.out _ ?_; clear hK K)
            obtain ⟨⟨z0, z1, z2⟩, z3, z4, z5⟩ := blk3 HZ_26.out
            refine hh_mid 11 rfl (by decide) (by kernel_rfl) (fun K hK => ?_)
            (go_simp; refine hK.out _ _ ?_ ?_ <;> clear hK K)
            · exact ((hB_25.out.setCell (show W.heap.size ≤ V_6.heap.size from hB_8.out.size) _).setCell (show W.heap.size ≤ V_6.heap.size from hB_8.out.size) _).setCell (show W.heap.size ≤ V_6.heap.size from hB_8.out.size) _
            refine hh_done (by kernel_rfl) ?_
            simp only [List.drop_succ_cons, List.drop_zero]
            change wpList _ _ _ _ _ _
            go_wp2_with fail
            go_meet
            exact ⟨_, _, _, _, _, _, _, rfl, rfl, NTb.early HZ_26.out (show W.heap.size ≤ V_6.heap.size from hB_8.out.size) HE_27 HL_30.out hB_19.out⟩
        · skip
          (refine mid_val ?_ ?_ (by rfl) ?_ ?_; rotate_left 2; (focus (go_simp; first | done | rfl | (refine And.intro ?_ ?_ <;> rfl))); go_simp; refine hK.out _ _ ?_ ?_ <;> clear hK K)
          · exact (hB_1.out.alloc hB_1.out.size _)
          have hB_31 := hid (show Below W.heap.size W (W.drew.alloc (.cells #[.int .i64 0, .slice none 0 0, .slice none 0 0] 27)) from hB_1.out.alloc hB_1.out.size _)
          have HZ_32 := hid (show (W.drew.alloc (.cells #[.int .i64 0, .slice none 0 0, .slice none 0 0] 27)).heap[W.heap.size]? = some (.cells #[.int .i64 0, .slice none 0 0, .slice none 0 0] 27 (0, 0)) from bk_new W.drew #[.int .i64 0, .slice none 0 0, .slice none 0 0] 27)
          refine hh_mid 5 rfl (by decide) (by kernel_rfl) (fun K hK => ?_)
          (refine mid_call ?_ ?_ (by rfl) ?_ ?_; rotate_left 2; (focus (go_simp; first | done | rfl | (refine And.intro ?_ ?_ <;> rfl))))
          refine (impl_ScaleTableau s a1 n1 c1 A a2 n2 c2 B _ _ (H1.out.below (l_below S2.out.below hB_31.out)) (H2.out.below (l_below S2.out.below hB_31.out)) (I64.num (M.num_minus _ _)) X2x.out).mono ?_
          rintro e V_33 ⟨p2, m2, d2, q2, k2, e2, rfl, hN_34⟩
          refine ⟨_, rfl, ?_⟩
          have hB_35 := hid (hB_31.out.trans (hN_34.2.2.2.mono (show W.heap.size ≤ (W.drew.alloc (.cells #[.int .i64 0, .slice none 0 0, .slice none 0 0] 27)).heap.size from hB_31.out.size)))
          have HZ_36 := hid (bk_below HZ_32.out hN_34.2.2.2)
          have G2a_37 := hid (hN_34.1.rd)
          have G2b_38 := hid (hN_34.2.1.rd)
          clear hN_34
          (go_simp; refine hK.out _ _ ?_ ?_ <;> clear hK K)
          · exact hB_35.out
          refine hh_mid 6 rfl (by decide) (by kernel_rfl) (fun K hK => ?_)
          (refine mid_call ?_ ?_ (by rfl) ?_ ?_; rotate_left 2; (focus (go_simp; first | done | rfl | (refine And.intro ?_ ?_ <;> rfl))))
          refine (impl_ComposeTableaus s1 p1 m1 d1 A1 q1 k1 e1 B1 s2 p2 m2 d2 A2 q2 k2 e2 B2 _ (FA.out.rd.below hB_35.out) (FB.out.rd.below hB_35.out) G2a_37.out G2b_38.out X3.out).mono ?_
          rintro e V_39 ⟨p3, m3, d3, q3, k3, e3, rfl, hN_40⟩
          refine ⟨_, rfl, ?_⟩
          have hB_41 := hid (hB_35.out.trans (hN_40.2.2.2.mono (show W.heap.size ≤ V_33.heap.size from hB_35.out.size)))
          have HZ_42 := hid (bk_below HZ_36.out hN_40.2.2.2)
          have HE_43 := bk_lt HZ_36.out
          have G2a_44 := hid (G2a_37.out.below hN_40.2.2.2)
          have G2b_45 := hid (G2b_38.out.below hN_40.2.2.2)
          have HL_46 := hid hN_40
          clear hN_40
          (go_simp; refine hK.out _ _ ?_ ?_ <;> clear hK K)
          · exact hB_41.out
          (refine hh_take 7 HG rfl (by decide) (by kernel_rfl) (by kernel_rfl) hB_41.out (fun K hK => ?_); refine take_val ?_ (by rfl) ?_ ?_; rotate_left 1; (focus (intro wc hC; skip; go_simp; try rfl)); go_simp; refine hK.out _ ?_; clear hK K)
          (refine hh_take 8 HG rfl (by decide) (by kernel_rfl) (by kernel_rfl) hB_41.out (fun K hK => ?_); refine take_val ?_ (by rfl) ?_ ?_; rotate_left 1; (focus (intro wc hC; skip; go_simp; try rfl)); go_simp; refine hK.out _ ?_; clear hK K)
          (refine hh_take 9 HG rfl (by decide) (by kernel_rfl) (by kernel_rfl) hB_41.out (fun K hK => ?_); refine take_val ?_ (by rfl) ?_ ?_; rotate_left 1; (focus (intro wc hC; skip; go_simp; try rfl)); go_simp; refine hK.out _ ?_; clear hK K)
          obtain ⟨⟨z0, z1, z2⟩, z3, z4, z5⟩ := blk3 HZ_42.out
          refine hh_mid 11 rfl (by decide) (by kernel_rfl) (fun K hK => ?_)
          (go_simp; refine hK.out _ _ ?_ ?_ <;> clear hK K)
          · exact ((hB_41.out.setCell (show W.heap.size ≤ W.heap.size from hB_1.out.size) _).setCell (show W.heap.size ≤ W.heap.size from hB_1.out.size) _).setCell (show W.heap.size ≤ W.heap.size from hB_1.out.size) _
          refine hh_done (by kernel_rfl) ?_
          simp only [List.drop_succ_cons, List.drop_zero]
          change wpList _ _ _ _ _ _
          go_wp2_with fail
          go_meet
          exact ⟨_, _, _, _, _, _, _, rfl, rfl, NTb.early HZ_42.out (show W.heap.size ≤ W.heap.size from hB_1.out.size) HE_43 HL_46.out hB_35.out⟩
      · skip
        (refine mid_val ?_ ?_ (by rfl) ?_ ?_; rotate_left 2; (focus (go_simp; first | done | rfl | (refine And.intro ?_ ?_ <;> rfl))); go_simp; refine hK.out _ _ ?_ ?_ <;> clear hK K)
        · exact (hB_1.out.alloc hB_1.out.size _)
        have hB_47 := hid (show Below W.heap.size W (W.drew.alloc (.cells #[.int .i64 0, .slice none 0 0, .slice none 0 0] 27)) from hB_1.out.alloc hB_1.out.size _)
        have HZ_48 := hid (show (W.drew.alloc (.cells #[.int .i64 0, .slice none 0 0, .slice none 0 0] 27)).heap[W.heap.size]? = some (.cells #[.int .i64 0, .slice none 0 0, .slice none 0 0] 27 (0, 0)) from bk_new W.drew #[.int .i64 0, .slice none 0 0, .slice none 0 0] 27)
        refine hh_mid 4 rfl (by decide) (by kernel_rfl) (fun K hK => ?_)
        (refine mid_call ?_ ?_ (by rfl) ?_ ?_; rotate_left 2; (focus (go_simp; first | done | rfl | (refine And.intro ?_ ?_ <;> rfl))))
        refine (impl_Minus _ _ _).mono ?_
        rintro e w' ⟨rfl, rfl⟩
        refine ⟨_, rfl, ?_⟩
        (go_simp; refine hK.out _ _ ?_ ?_ <;> clear hK K)
        · exact hB_47.out
        refine hh_mid 5 rfl (by decide) (by kernel_rfl) (fun K hK => ?_)
        (refine mid_call ?_ ?_ (by rfl) ?_ ?_; rotate_left 2; (focus (go_simp; first | done | rfl | (refine And.intro ?_ ?_ <;> rfl))))
        refine (impl_ScaleTableau s a1 n1 c1 A a2 n2 c2 B _ _ (H1.out.below (l_below S2.out.below hB_47.out)) (H2.out.below (l_below S2.out.below hB_47.out)) (I64.num (M.num_minus _ _)) X2x.out).mono ?_
        rintro e V_51 ⟨p2, m2, d2, q2, k2, e2, rfl, hN_52⟩
        refine ⟨_, rfl, ?_⟩
        have hB_53 := hid (hB_47.out.trans (hN_52.2.2.2.mono (show W.heap.size ≤ (W.drew.alloc (.cells #[.int .i64 0, .slice none 0 0, .slice none 0 0] 27)).heap.size from hB_47.out.size)))
        have HZ_54 := hid (bk_below HZ_48.out hN_52.2.2.2)
        have G2a_55 := hid (hN_52.1.rd)
        have G2b_56 := hid (hN_52.2.1.rd)
        clear hN_52
        (go_simp; refine hK.out _ _ ?_ ?_ <;> clear hK K)
        · exact hB_53.out
        refine hh_mid 6 rfl (by decide) (by kernel_rfl) (fun K hK => ?_)
        (refine mid_call ?_ ?_ (by rfl) ?_ ?_; rotate_left 2; (focus (go_simp; first | done | rfl | (refine And.intro ?_ ?_ <;> rfl))))
        refine (impl_ComposeTableaus s1 p1 m1 d1 A1 q1 k1 e1 B1 s2 p2 m2 d2 A2 q2 k2 e2 B2 _ (FA.out.rd.below hB_53.out) (FB.out.rd.below hB_53.out) G2a_55.out G2b_56.out X3.out).mono ?_
        rintro e V_57 ⟨p3, m3, d3, q3, k3, e3, rfl, hN_58⟩
        refine ⟨_, rfl, ?_⟩
        have hB_59 := hid (hB_53.out.trans (hN_58.2.2.2.mono (show W.heap.size ≤ V_51.heap.size from hB_53.out.size)))
        have HZ_60 := hid (bk_below HZ_54.out hN_58.2.2.2)
        have HE_61 := bk_lt HZ_54.out
        have G2a_62 := hid (G2a_55.out.below hN_58.2.2.2)
        have G2b_63 := hid (G2b_56.out.below hN_58.2.2.2)
        have HL_64 := hid hN_58
        clear hN_58
        (go_simp; refine hK.out _ _ ?_ ?_ <;> clear hK K)
        · exact hB_59.out
        (refine hh_take 7 HG rfl (by decide) (by kernel_rfl) (by kernel_rfl) hB_59.out (fun K hK => ?_); refine take_val ?_ (by rfl) ?_ ?_; rotate_left 1; (focus (intro wc hC; skip; go_simp; try rfl)); go_simp; refine hK.out _ ?_; clear hK K)
        (refine hh_take 8 HG rfl (by decide) (by kernel_rfl) (by kernel_rfl) hB_59.out (fun K hK => ?_); refine take_val ?_ (by rfl) ?_ ?_; rotate_left 1; (focus (intro wc hC; skip; go_simp; try rfl)); go_simp; refine hK.out _ ?_; clear hK K)
        (refine hh_take 9 HG rfl (by decide) (by kernel_rfl) (by kernel_rfl) hB_59.out (fun K hK => ?_); refine take_val ?_ (by rfl) ?_ ?_; rotate_left 1; (focus (intro wc hC; skip; go_simp; try rfl)); go_simp; refine hK.out _ ?_; clear hK K)
        obtain ⟨⟨z0, z1, z2⟩, z3, z4, z5⟩ := blk3 HZ_60.out
        refine hh_mid 11 rfl (by decide) (by kernel_rfl) (fun K hK => ?_)
        (go_simp; refine hK.out _ _ ?_ ?_ <;> clear hK K)
        · exact ((hB_59.out.setCell (show W.heap.size ≤ W.heap.size from hB_1.out.size) _).setCell (show W.heap.size ≤ W.heap.size from hB_1.out.size) _).setCell (show W.heap.size ≤ W.heap.size from hB_1.out.size) _
        refine hh_done (by kernel_rfl) ?_
        simp only [List.drop_succ_cons, List.drop_zero]
        change wpList _ _ _ _ _ _
        go_wp2_with fail
        go_meet
        exact ⟨_, _, _, _, _, _, _, rfl, rfl, NTb.early HZ_60.out (show W.heap.size ≤ W.heap.size from hB_1.out.size) HE_61 HL_64.out hB_53.out⟩
    · skip
      (refine mid_val ?_ ?_ (by rfl) ?_ ?_; rotate_left 2; (focus (go_simp; first | done | rfl | (refine And.intro ?_ ?_ <;> rfl))); go_simp; refine hK.out _ _ ?_ ?_ <;> clear hK K)
      · exact (hB_1.out.alloc hB_1.out.size _)
      have hB_65 := hid (show Below W.heap.size W (W.drew.alloc (.cells #[.int .i64 0, .slice none 0 0, .slice none 0 0] 27)) from hB_1.out.alloc hB_1.out.size _)
      have HZ_66 := hid (show (W.drew.alloc (.cells #[.int .i64 0, .slice none 0 0, .slice none 0 0] 27)).heap[W.heap.size]? = some (.cells #[.int .i64 0, .slice none 0 0, .slice none 0 0] 27 (0, 0)) from bk_new W.drew #[.int .i64 0, .slice none 0 0, .slice none 0 0] 27)
      refine hh_mid 3 rfl (by decide) (by kernel_rfl) (fun K hK => ?_)
      (refine mid_call ?_ ?_ (by rfl) ?_ ?_; rotate_left 2; (focus (go_simp; first | done | rfl | (refine And.intro ?_ ?_ <;> rfl))))
      refine (impl_Times _ _ _).mono ?_
      rintro e w' ⟨rfl, rfl⟩
      refine ⟨_, rfl, ?_⟩
      (go_simp; refine hK.out _ _ ?_ ?_ <;> clear hK K)
      · exact hB_65.out
      refine hh_mid 4 rfl (by decide) (by kernel_rfl) (fun K hK => ?_)
      (refine mid_call ?_ ?_ (by rfl) ?_ ?_; rotate_left 2; (focus (go_simp; first | done | rfl | (refine And.intro ?_ ?_ <;> rfl))))
      refine (impl_Minus _ _ _).mono ?_
      rintro e w' ⟨rfl, rfl⟩
      refine ⟨_, rfl, ?_⟩
      (go_simp; refine hK.out _ _ ?_ ?_ <;> clear hK K)
      · exact hB_65.out
      refine hh_mid 5 rfl (by decide) (by kernel_rfl) (fun K hK => ?_)
      (refine mid_call ?_ ?_ (by rfl) ?_ ?_; rotate_left 2; (focus (go_simp; first | done | rfl | (refine And.intro ?_ ?_ <;> rfl))))
      refine (impl_ScaleTableau s a1 n1 c1 A a2 n2 c2 B _ _ (H1.out.below (l_below S2.out.below hB_65.out)) (H2.out.below (l_below S2.out.below hB_65.out)) (I64.num (M.num_minus _ _)) X2x.out).mono ?_
      rintro e V_71 ⟨p2, m2, d2, q2, k2, e2, rfl, hN_72⟩
      refine ⟨_, rfl, ?_⟩
      have hB_73 := hid (hB_65.out.trans (hN_72.2.2.2.mono (show W.heap.size ≤ (W.drew.alloc (.cells #[.int .i64 0, .slice none 0 0, .slice none 0 0] 27)).heap.size from hB_65.out.size)))
      have HZ_74 := hid (bk_below HZ_66.out hN_72.2.2.2)
      have G2a_75 := hid (hN_72.1.rd)
      have G2b_76 := hid (hN_72.2.1.rd)
      clear hN_72
      (go_simp; refine hK.out _ _ ?_ ?_ <;> clear hK K)
      · exact hB_73.out
      refine hh_mid 6 rfl (by decide) (by kernel_rfl) (fun K hK => ?_)
      (refine mid_call ?_ ?_ (by rfl) ?_ ?_; rotate_left 2; (focus (go_simp; first | done | rfl | (refine And.intro ?_ ?_ <;> rfl))))
      refine (impl_ComposeTableaus s1 p1 m1 d1 A1 q1 k1 e1 B1 s2 p2 m2 d2 A2 q2 k2 e2 B2 _ (FA.out.rd.below hB_73.out) (FB.out.rd.below hB_73.out) G2a_75.out G2b_76.out X3.out).mono ?_
      rintro e V_77 ⟨p3, m3, d3, q3, k3, e3, rfl, hN_78⟩
      refine ⟨_, rfl, ?_⟩
      have hB_79 := hid (hB_73.out.trans (hN_78.2.2.2.mono (show W.heap.size ≤ V_71.heap.size from hB_73.out.size)))
      have HZ_80 := hid (bk_below HZ_74.out hN_78.2.2.2)
      have HE_81 := bk_lt HZ_74.out
      have G2a_82 := hid (G2a_75.out.below hN_78.2.2.2)
      have G2b_83 := hid (G2b_76.out.below hN_78.2.2.2)
      have HL_84 := hid hN_78
      clear hN_78
      (go_simp; refine hK.out _ _ ?_ ?_ <;> clear hK K)
      · exact hB_79.out
      (refine hh_take 7 HG rfl (by decide) (by kernel_rfl) (by kernel_rfl) hB_79.out (fun K hK => ?_); refine take_val ?_ (by rfl) ?_ ?_; rotate_left 1; (focus (intro wc hC; skip; go_simp; try rfl)); go_simp; refine hK.out _ ?_; clear hK K)
      (refine hh_take 8 HG rfl (by decide) (by kernel_rfl) (by kernel_rfl) hB_79.out (fun K hK => ?_); refine take_val ?_ (by rfl) ?_ ?_; rotate_left 1; (focus (intro wc hC; skip; go_simp; try rfl)); go_simp; refine hK.out _ ?_; clear hK K)
      (refine hh_take 9 HG rfl (by decide) (by kernel_rfl) (by kernel_rfl) hB_79.out (fun K hK => ?_); refine take_val ?_ (by rfl) ?_ ?_; rotate_left 1; (focus (intro wc hC; skip; go_simp; try rfl)); go_simp; refine hK.out _ ?_; clear hK K)
      obtain ⟨⟨z0, z1, z2⟩, z3, z4, z5⟩ := blk3 HZ_80.out
      refine hh_mid 11 rfl (by decide) (by kernel_rfl) (fun K hK => ?_)
      (go_simp; refine hK.out _ _ ?_ ?_ <;> clear hK K)
      · exact ((hB_79.out.setCell (show W.heap.size ≤ W.heap.size from hB_1.out.size) _).setCell (show W.heap.size ≤ W.heap.size from hB_1.out.size) _).setCell (show W.heap.size ≤ W.heap.size from hB_1.out.size) _
      refine hh_done (by kernel_rfl) ?_
      simp only [List.drop_succ_cons, List.drop_zero]
      change wpList _ _ _ _ _ _
      go_wp2_with fail
      go_meet
      exact ⟨_, _, _, _, _, _, _, rfl, rfl, NTb.early HZ_80.out (show W.heap.size ≤ W.heap.size from hB_1.out.size) HE_81 HL_84.out hB_73.out⟩
  case rest =>
    obtain ⟨w5, rfl⟩ : ∃ w5 : World, w5 = wc := ⟨_, rfl⟩
    obtain ⟨b, p3, m3, d3, q3, k3, e3, rfl, rfl, hN⟩ := hcut
    have y3 := hN.lo
    have y4 := bk_lt hN.bk
    have y5 := hN.nt.2.2.2.size
    have y6 := S2.out.size
    have S3 := hid (S2.out.step hN.nt.2.2.2)
    have R3 := hid (bk_below R2.out hN.nt.2.2.2)
    have y7 := bk_lt R3.out
    have BK3 := hid (bk_below BKW.out hN.nt.2.2.2)
    have FA3 := hid (FA.out.rd.below hN.nt.2.2.2)
    have FB3 := hid (FB.out.rd.below hN.nt.2.2.2)
    have NB3 := hid hN.bk
    have GA3 := hid hN.nt.1.rd
    have GB3 := hid hN.nt.2.1.rd
    clear hN S2 R2 BKW FA FB KP
    obtain ⟨⟨q0, q1, q2⟩, _⟩ := blk3 S3.out.box
    obtain ⟨⟨r0, r1, r2⟩, f0, f1, f2⟩ := blk3 R3.out
    cases o3 with
    | false =>
      have h := HJ.out
      rw [Bool.and_false, if_neg (by decide)] at h
      cases h
      go_wp2_with fail
      obtain ⟨e1, e2⟩ := none_end S3.out.below (show w.heap.size ≤ w.heap.size + 1 by omega) R3.out (.int .i64 0) (.slice none 0 0) (.slice none 0 0)
      exact ret_tabb rfl rfl rfl e1 rfl ⟨_, _, _, _, _, _, rfl, e2⟩
    | true =>
      go_wp2_with fail
      refine (impl_TableauOk _ _ _ _ A _ _ _ B _ (H1.out.below S3.out.below) (H2.out.below S3.out.below)).mono ?_
      cases hok : tabOk s A B with
      | false =>
        have h := HJ.out
        rw [hok, Bool.false_and, if_neg (by decide)] at h
        cases h
        rintro e w6 ⟨rfl, hB⟩
        have y8 := hB.size
        have S4 := hid (S3.out.step hB)
        have R4 := hid (bk_below R3.out hB)
        have BK4 := hid (bk_below BK3.out hB)
        have NB4 := hid (bk_below NB3.out hB)
        have FA4 := hid (FA3.out.below hB)
        have FB4 := hid (FB3.out.below hB)
        have GA4 := hid (GA3.out.below hB)
        have GB4 := hid (GB3.out.below hB)
        clear hB q0 q1 q2 r0 r1 r2 f0 f1 f2 S3 R3 BK3 NB3 FA3 FB3 GA3 GB3
        obtain ⟨⟨r0, r1, r2⟩, f0, f1, f2⟩ := blk3 R4.out
        obtain ⟨⟨c0', c1', c2'⟩, _⟩ := blk3 BK4.out
        obtain ⟨⟨t0, t1, t2⟩, _⟩ := blk3 NB4.out
        go_wp2_with fail
        obtain ⟨e1, e2⟩ := none_end S4.out.below (show w.heap.size ≤ w.heap.size + 1 by omega) R4.out (.int .i64 0) (.slice none 0 0) (.slice none 0 0)
        exact ret_tabb rfl rfl rfl e1 rfl ⟨_, _, _, _, _, _, rfl, e2⟩
      | true =>
        have HOK := hid hok
        clear hok
        rintro e w6 ⟨rfl, hB⟩
        have y8 := hB.size
        have S4 := hid (S3.out.step hB)
        have R4 := hid (bk_below R3.out hB)
        have BK4 := hid (bk_below BK3.out hB)
        have NB4 := hid (bk_below NB3.out hB)
        have FA4 := hid (FA3.out.below hB)
        have FB4 := hid (FB3.out.below hB)
        have GA4 := hid (GA3.out.below hB)
        have GB4 := hid (GB3.out.below hB)
        clear hB q0 q1 q2 r0 r1 r2 f0 f1 f2 S3 R3 BK3 NB3 FA3 FB3 GA3 GB3
        obtain ⟨⟨r0, r1, r2⟩, f0, f1, f2⟩ := blk3 R4.out
        obtain ⟨⟨c0', c1', c2'⟩, _⟩ := blk3 BK4.out
        obtain ⟨⟨t0, t1, t2⟩, _⟩ := blk3 NB4.out
        go_wp2_with fail
        refine (impl_ComposeTableaus s3 p3 m3 d3 A3 q3 k3 e3 B3 s1 p1 m1 d1 A1 q1 k1 e1 B1 _ GA4.out GB4.out FA4.out FB4.out (show cmpV s3 A3 B3 s1 A1 B1 = ⟨rs, rA, rB, rb⟩ by have h := HJ.out; rw [HOK.out, Bool.and_self, if_pos rfl] at h; exact h)).mono ?_
        rintro e w7 ⟨p4, m4, d4, q4, k4, e4, rfl, hN⟩
        have HNT := hid hN
        have R5 := hid (bk_below R4.out hN.2.2.2)
        clear hN r0 r1 r2 f0 f1 f2 c0' c1' c2' t0 t1 t2
        obtain ⟨⟨r0, r1, r2⟩, f0, f1, f2⟩ := blk3 R5.out
        go_wp2_with fail
        refine ret_tabb rfl rfl rfl (heap_setCell_same _ _ _ _ _ _ (heap_setCell_same _ _ _ _ _ _ (heap_setCell_same _ _ _ _ _ _ R5.out))) rfl ⟨_, _, _, _, _, _, rfl, ?_⟩
        exact newT_stores HNT.out S4.out.below (Nat.le_succ _) (by omega) _ _ _
end Go.Proofs.Ytekojohhjnklkaa
