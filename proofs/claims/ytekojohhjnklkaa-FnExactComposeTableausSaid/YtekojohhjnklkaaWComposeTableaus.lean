/- FnExactComposeTableaus: the walk of the law. -/
import Derived.Test.YtekojohhjnklkaaCmpV
import Derived.Test.YtekojohhjnklkaaLaw2
import Derived.Test.YtekojohhjnklkaaHold2
import Derived.Test.YtekojohhjnklkaaOb
namespace Go.Proofs.Ytekojohhjnklkaa
open Go.RowKit

set_option maxRecDepth 20000 in
set_option maxHeartbeats 2000000 in
theorem walk_ComposeTableaus {w : World} (s0 : Int) (a0 : Option Addr) (n0 c0 : Nat) (A0 : List Int) (b0 : Option Addr) (m0 d0 : Nat) (B0 : List Int) (g0a : Rd w a0 n0 c0 A0) (g0b : Rd w b0 m0 d0 B0) (_hs0 : I64 s0) (s1 : Int) (a1 : Option Addr) (n1 c1 : Nat) (A1 : List Int) (b1 : Option Addr) (m1 d1 : Nat) (B1 : List Int) (g1a : Rd w a1 n1 c1 A1) (g1b : Rd w b1 m1 d1 B1) (_hs1 : I64 s1) :
    Calls Try.prog 11 #[.agg #[.int .i64 s0, .slice a0 n0 c0, .slice b0 m0 d0], .agg #[.int .i64 s1, .slice a1 n1 c1, .slice b1 m1 d1]] w fun e w' => e = .returned (.bool true) ∧ Below w.heap.size w w' := by
  have z0a : n0 ≤ 9223372036854775807 := Nat.le_trans g0a.cap g0a.max
  have H0a := hid g0a
  clear g0a
  have z0b : m0 ≤ 9223372036854775807 := Nat.le_trans g0b.cap g0b.max
  have H0b := hid g0b
  clear g0b
  have z1a : n1 ≤ 9223372036854775807 := Nat.le_trans g1a.cap g1a.max
  have H1a := hid g1a
  clear g1a
  have z1b : m1 ≤ 9223372036854775807 := Nat.le_trans g1b.cap g1b.max
  have H1b := hid g1b
  clear g1b
  obtain ⟨rs, rA, rB, rb, HR⟩ : ∃ rs rA rB rb, Hid (cmpV s0 A0 B0 s1 A1 B1 = ⟨rs, rA, rB, rb⟩) := ⟨_, _, _, _, rfl⟩
  obtain ⟨hlA, hlB⟩ : rA.length ≤ 1000 ∧ rB.length ≤ 1000 := by have h := cmpV_len s0 A0 B0 s1 A1 B1; rw [HR.out] at h; first | exact h | omega
  by_cases hs0 : n0 + m0 ≤ 1048576
  · skip
    by_cases hs1 : n0 + m0 + n1 + m1 ≤ 1048576
    · skip
      have L_101 := hid (Below.refl w.heap.size w)
      have L_102 := hid (l_alloc L_101.out (.cells #[.int .i64 s0, .slice a0 n0 c0, .slice b0 m0 d0] 24))
      clear L_101
      have Bbox0_103 := hid (bk_new w #[.int .i64 s0, .slice a0 n0 c0, .slice b0 m0 d0] 24)
      have L_104 := hid (l_alloc L_102.out (.cells #[.int .i64 s1, .slice a1 n1 c1, .slice b1 m1 d1] 24))
      have Bbox0_105 := hid (bk_alloc Bbox0_103.out (.cells #[.int .i64 s1, .slice a1 n1 c1, .slice b1 m1 d1] 24))
      clear L_102 Bbox0_103
      have Bbox1_106 := hid (heap_alloc_at (w.alloc (.cells #[.int .i64 s0, .slice a0 n0 c0, .slice b0 m0 d0] 24)) #[.int .i64 s1, .slice a1 n1 c1, .slice b1 m1 d1] 24 (w.heap.size + 1) (by simp))
      go_enter Try.func11, Try.ntmps11
      go_wp2_with fail
      refine (law_szTableau_yes _ _ _ _ _ _ _ _ _ (by omega) (by omega)).mono ?_
      rintro e w1 ⟨rfl, hB⟩
      have y1 := hB.size
      try simp only [World.size_alloc] at y1
      have HB := hid hB
      clear hB
      have L_107 := hid (l_below L_104.out HB.out)
      have Bbox0_108 := hid (bk_below Bbox0_105.out HB.out)
      have Bbox1_109 := hid (bk_below Bbox1_106.out HB.out)
      clear L_104 Bbox0_105 Bbox1_106
      clear HB
      obtain ⟨⟨q00, q01, q02⟩, _⟩ := blk3 Bbox0_108.out
      obtain ⟨⟨q10, q11, q12⟩, _⟩ := blk3 Bbox1_109.out
      go_wp2_with fail
      refine (law_szTableau_yes _ _ _ _ _ _ _ _ _ (by omega) (by omega)).mono ?_
      rintro e w2 ⟨rfl, hB⟩
      have y2 := hB.size
      try simp only [World.size_alloc] at y2
      have HB := hid hB
      clear hB
      have L_110 := hid (l_below L_107.out HB.out)
      have Bbox0_111 := hid (bk_below Bbox0_108.out HB.out)
      have Bbox1_112 := hid (bk_below Bbox1_109.out HB.out)
      clear L_107 Bbox0_108 Bbox1_109
      clear HB
      obtain ⟨⟨q00, q01, q02⟩, _⟩ := blk3 Bbox0_111.out
      obtain ⟨⟨q10, q11, q12⟩, _⟩ := blk3 Bbox1_112.out
      go_wp2_with fail
      have KP := hid (keep6 Bbox0_111.out Bbox1_112.out)
      clear q00 q01 q02 q10 q11 q12
      go_cut [6, 7] from 8 (fun sa sb wc => ∃ (b : Nat) (p : Option Addr) (n c : Nat) (q : Option Addr) (m d : Nat), sa = .pointer (some ⟨b, 0, none⟩) ∧ sb = .bool rb ∧ NTb w2 wc rs rA rB b p n c q m d)
      case first =>
        have v0hB_1 := hid (show Below w2.heap.size w2 w2.drew from (Below.refl _ _).drew)
        refine (fun (HG : Rg _ _ 10) => wp_region_hh (S := fun w' => Below w2.heap.size w2 w') HG rfl ?_) ⟨by kernel_rfl, by decide, by kernel_rfl, by kernel_rfl, fun _ _ d _ _ h => by cases d <;> exact h⟩
        (refine hh_take 0 HG rfl (by decide) (by kernel_rfl) (by kernel_rfl) v0hB_1.out (fun K hK => ?_); refine take_val ?_ (by rfl) ?_ ?_; rotate_left 1; (focus (intro wc hC; obtain ⟨u0, u1, u2, u3, u4, u5⟩ := KP.out wc hC; go_simp; try rfl)); go_simp; refine hK.out _ ?_; clear hK K)
        (refine hh_take 2 HG rfl (by decide) (by kernel_rfl) (by kernel_rfl) v0hB_1.out (fun K hK => ?_); refine take_val ?_ (by rfl) ?_ ?_; rotate_left 1; (focus (intro wc hC; obtain ⟨u0, u1, u2, u3, u4, u5⟩ := KP.out wc hC; go_simp; try rfl)); go_simp; refine hK.out _ ?_; clear hK K)
        refine hh_two 1 8 rfl rfl (by decide) (by decide) (by kernel_rfl) (fun K hK => ?_) (fun K hK => ?_)
        · skip
          (refine mid_call ?_ ?_ (by rfl) ?_ ?_; rotate_left 2; (focus (go_simp; first | done | rfl | (refine And.intro ?_ ?_ <;> rfl))))
          refine (law_toTableau _ _ _ _ A0 _ _ _ B0 _ (H0a.out.below (l_below L_110.out v0hB_1.out)) (H0b.out.below (l_below L_110.out v0hB_1.out)) (by omega)).mono ?_
          rintro e v0V_2 ⟨u0a, u0b, rfl, v0hN_3⟩
          refine ⟨_, rfl, ?_⟩
          have v0hB_4 := hid (v0hB_1.out.trans (v0hN_3.2.2.2.mono (show w2.heap.size ≤ w2.drew.heap.size from v0hB_1.out.size)))
          have v0G0a_5 := hid (v0hN_3.1.rd)
          have v0G0b_6 := hid (v0hN_3.2.1.rd)
          clear v0hN_3
          (go_simp; refine hK.out _ _ ?_ ?_ <;> clear hK K)
          · exact v0hB_4.out
          refine hh_two 3 8 rfl rfl (by decide) (by decide) (by kernel_rfl) (fun K hK => ?_) (fun K hK => ?_)
          · skip
            (refine mid_call ?_ ?_ (by rfl) ?_ ?_; rotate_left 2; (focus (go_simp; first | done | rfl | (refine And.intro ?_ ?_ <;> rfl))))
            refine (law_toTableau _ _ _ _ A1 _ _ _ B1 _ (H1a.out.below (l_below L_110.out v0hB_4.out)) (H1b.out.below (l_below L_110.out v0hB_4.out)) (by omega)).mono ?_
            rintro e v0V_7 ⟨u1a, u1b, rfl, v0hN_8⟩
            refine ⟨_, rfl, ?_⟩
            have v0hB_9 := hid (v0hB_4.out.trans (v0hN_8.2.2.2.mono (show w2.heap.size ≤ v0V_2.heap.size from v0hB_4.out.size)))
            have v0G0a_10 := hid (v0G0a_5.out.below v0hN_8.2.2.2)
            have v0G0b_11 := hid (v0G0b_6.out.below v0hN_8.2.2.2)
            have v0G1a_12 := hid (v0hN_8.1.rd)
            have v0G1b_13 := hid (v0hN_8.2.1.rd)
            clear v0hN_8
            (go_simp; refine hK.out _ _ ?_ ?_ <;> clear hK K)
            · exact v0hB_9.out
            refine hh_two 4 8 rfl rfl (by decide) (by decide) (by kernel_rfl) (fun K hK => ?_) (fun K hK => ?_)
            · skip
              (refine mid_call ?_ ?_ (by rfl) ?_ ?_; rotate_left 2; (focus (go_simp; first | done | rfl | (refine And.intro ?_ ?_ <;> rfl))))
              refine (spec_ComposeTableaus _ _ _ _ A0 _ _ _ B0 _ _ _ _ A1 _ _ _ B1 _ v0G0a_10.out v0G0b_11.out v0G1a_12.out v0G1b_13.out HR.out).mono ?_
              rintro e v0V_14 ⟨rp, rn, rc, rq, rm, rd, rfl, v0hN_15⟩
              refine ⟨_, rfl, ?_⟩
              have v0hB_16 := hid (v0hB_9.out.trans (v0hN_15.2.2.2.mono (show w2.heap.size ≤ v0V_7.heap.size from v0hB_9.out.size)))
              have v0G0a_17 := hid (v0G0a_10.out.below v0hN_15.2.2.2)
              have v0G0b_18 := hid (v0G0b_11.out.below v0hN_15.2.2.2)
              have v0G1a_19 := hid (v0G1a_12.out.below v0hN_15.2.2.2)
              have v0G1b_20 := hid (v0G1b_13.out.below v0hN_15.2.2.2)
              have v0HL_21 := hid v0hN_15
              clear v0hN_15
              (go_simp; refine hK.out _ _ ?_ ?_ <;> clear hK K)
              · exact v0hB_16.out
              (refine hh_take 5 HG rfl (by decide) (by kernel_rfl) (by kernel_rfl) v0hB_16.out (fun K hK => ?_); refine take_val ?_ (by rfl) ?_ ?_; rotate_left 1; (focus (intro wc hC; skip; go_simp; try rfl)); go_simp; refine hK.out _ ?_; clear hK K)
              (refine hh_take 6 HG rfl (by decide) (by kernel_rfl) (by kernel_rfl) v0hB_16.out (fun K hK => ?_); refine take_val ?_ (by rfl) ?_ ?_; rotate_left 1; (focus (intro wc hC; skip; go_simp; try rfl)); go_simp; refine hK.out _ ?_; clear hK K)
              (refine hh_take 7 HG rfl (by decide) (by kernel_rfl) (by kernel_rfl) v0hB_16.out (fun K hK => ?_); refine take_val ?_ (by rfl) ?_ ?_; rotate_left 1; (focus (intro wc hC; skip; go_simp; try rfl)); go_simp; refine hK.out _ ?_; clear hK K)
              refine hh_mid 8 rfl (by decide) (by kernel_rfl) (fun K hK => ?_)
              (refine mid_val ?_ ?_ (by rfl) ?_ ?_; rotate_left 2; (focus (go_simp; first | done | rfl | (refine And.intro ?_ ?_ <;> rfl))); go_simp; refine hK.out _ _ ?_ ?_ <;> clear hK K)
              · exact (v0hB_16.out.alloc v0hB_16.out.size _)
              have v0hB_22 := hid (show Below w2.heap.size w2 (v0V_14.alloc (.cells #[.int .i64 0, .slice none 0 0, .slice none 0 0] 27)) from v0hB_16.out.alloc v0hB_16.out.size _)
              have v0HZ_23 := hid (show (v0V_14.alloc (.cells #[.int .i64 0, .slice none 0 0, .slice none 0 0] 27)).heap[v0V_14.heap.size]? = some (.cells #[.int .i64 0, .slice none 0 0, .slice none 0 0] 27 (0, 0)) from bk_new v0V_14 #[.int .i64 0, .slice none 0 0, .slice none 0 0] 27)
              obtain ⟨⟨z0, z1, z2⟩, z3, z4, z5⟩ := blk3 v0HZ_23.out
              refine hh_mid 9 rfl (by decide) (by kernel_rfl) (fun K hK => ?_)
              (go_simp; refine hK.out _ _ ?_ ?_ <;> clear hK K)
              · exact v0hB_16.out.alloc v0hB_16.out.size _
              refine hh_done (by kernel_rfl) ?_
              simp only [List.drop_succ_cons, List.drop_zero]
              change wpList _ _ _ _ _ _
              go_wp2_with fail
              go_meet
              exact ⟨_, _, _, _, _, _, _, rfl, rfl, NTb.late v0HL_21.out v0hB_9.out⟩
            · skip
              (refine mid_val ?_ ?_ (by rfl) ?_ ?_; rotate_left 2; (focus (go_simp; first | done | rfl | (refine And.intro ?_ ?_ <;> rfl))); go_simp; refine hK.out _ _ ?_ ?_ <;> clear hK K)
              · exact (v0hB_9.out.alloc v0hB_9.out.size _)
              have v0hB_24 := hid (show Below w2.heap.size w2 (v0V_7.alloc (.cells #[.int .i64 0, .slice none 0 0, .slice none 0 0] 27)) from v0hB_9.out.alloc v0hB_9.out.size _)
              have v0HZ_25 := hid (show (v0V_7.alloc (.cells #[.int .i64 0, .slice none 0 0, .slice none 0 0] 27)).heap[v0V_7.heap.size]? = some (.cells #[.int .i64 0, .slice none 0 0, .slice none 0 0] 27 (0, 0)) from bk_new v0V_7 #[.int .i64 0, .slice none 0 0, .slice none 0 0] 27)
              have v0G0a_26 := hid (v0G0a_10.out.alloc (.cells #[.int .i64 0, .slice none 0 0, .slice none 0 0] 27))
              have v0G0b_27 := hid (v0G0b_11.out.alloc (.cells #[.int .i64 0, .slice none 0 0, .slice none 0 0] 27))
              have v0G1a_28 := hid (v0G1a_12.out.alloc (.cells #[.int .i64 0, .slice none 0 0, .slice none 0 0] 27))
              have v0G1b_29 := hid (v0G1b_13.out.alloc (.cells #[.int .i64 0, .slice none 0 0, .slice none 0 0] 27))
              refine hh_mid 4 rfl (by decide) (by kernel_rfl) (fun K hK => ?_)
              (refine mid_call ?_ ?_ (by rfl) ?_ ?_; rotate_left 2; (focus (go_simp; first | done | rfl | (refine And.intro ?_ ?_ <;> rfl))))
              refine (spec_ComposeTableaus _ _ _ _ A0 _ _ _ B0 _ _ _ _ A1 _ _ _ B1 _ v0G0a_26.out v0G0b_27.out v0G1a_28.out v0G1b_29.out HR.out).mono ?_
              rintro e v0V_30 ⟨rp, rn, rc, rq, rm, rd, rfl, v0hN_31⟩
              refine ⟨_, rfl, ?_⟩
              have v0hB_32 := hid (v0hB_24.out.trans (v0hN_31.2.2.2.mono (show w2.heap.size ≤ (v0V_7.alloc (.cells #[.int .i64 0, .slice none 0 0, .slice none 0 0] 27)).heap.size from v0hB_24.out.size)))
              have v0HZ_33 := hid (bk_below v0HZ_25.out v0hN_31.2.2.2)
              have v0HE_34 := bk_lt v0HZ_25.out
              have v0G0a_35 := hid (v0G0a_26.out.below v0hN_31.2.2.2)
              have v0G0b_36 := hid (v0G0b_27.out.below v0hN_31.2.2.2)
              have v0G1a_37 := hid (v0G1a_28.out.below v0hN_31.2.2.2)
              have v0G1b_38 := hid (v0G1b_29.out.below v0hN_31.2.2.2)
              have v0HL_39 := hid v0hN_31
              clear v0hN_31
              (go_simp; refine hK.out _ _ ?_ ?_ <;> clear hK K)
              · exact v0hB_32.out
              (refine hh_take 5 HG rfl (by decide) (by kernel_rfl) (by kernel_rfl) v0hB_32.out (fun K hK => ?_); refine take_val ?_ (by rfl) ?_ ?_; rotate_left 1; (focus (intro wc hC; skip; go_simp; try rfl)); go_simp; refine hK.out _ ?_; clear hK K)
              (refine hh_take 6 HG rfl (by decide) (by kernel_rfl) (by kernel_rfl) v0hB_32.out (fun K hK => ?_); refine take_val ?_ (by rfl) ?_ ?_; rotate_left 1; (focus (intro wc hC; skip; go_simp; try rfl)); go_simp; refine hK.out _ ?_; clear hK K)
              (refine hh_take 7 HG rfl (by decide) (by kernel_rfl) (by kernel_rfl) v0hB_32.out (fun K hK => ?_); refine take_val ?_ (by rfl) ?_ ?_; rotate_left 1; (focus (intro wc hC; skip; go_simp; try rfl)); go_simp; refine hK.out _ ?_; clear hK K)
              obtain ⟨⟨z0, z1, z2⟩, z3, z4, z5⟩ := blk3 v0HZ_33.out
              refine hh_mid 9 rfl (by decide) (by kernel_rfl) (fun K hK => ?_)
              (go_simp; refine hK.out _ _ ?_ ?_ <;> clear hK K)
              · exact ((v0hB_32.out.setCell (show w2.heap.size ≤ v0V_7.heap.size from v0hB_9.out.size) _).setCell (show w2.heap.size ≤ v0V_7.heap.size from v0hB_9.out.size) _).setCell (show w2.heap.size ≤ v0V_7.heap.size from v0hB_9.out.size) _
              refine hh_done (by kernel_rfl) ?_
              simp only [List.drop_succ_cons, List.drop_zero]
              change wpList _ _ _ _ _ _
              go_wp2_with fail
              go_meet
              exact ⟨_, _, _, _, _, _, _, rfl, rfl, NTb.early v0HZ_33.out (show w2.heap.size ≤ v0V_7.heap.size from v0hB_9.out.size) v0HE_34 v0HL_39.out v0hB_24.out⟩
          · skip
            (refine mid_val ?_ ?_ (by rfl) ?_ ?_; rotate_left 2; (focus (go_simp; first | done | rfl | (refine And.intro ?_ ?_ <;> rfl))); go_simp; refine hK.out _ _ ?_ ?_ <;> clear hK K)
            · exact (v0hB_4.out.alloc v0hB_4.out.size _)
            have v0hB_40 := hid (show Below w2.heap.size w2 (v0V_2.alloc (.cells #[.int .i64 0, .slice none 0 0, .slice none 0 0] 27)) from v0hB_4.out.alloc v0hB_4.out.size _)
            have v0HZ_41 := hid (show (v0V_2.alloc (.cells #[.int .i64 0, .slice none 0 0, .slice none 0 0] 27)).heap[v0V_2.heap.size]? = some (.cells #[.int .i64 0, .slice none 0 0, .slice none 0 0] 27 (0, 0)) from bk_new v0V_2 #[.int .i64 0, .slice none 0 0, .slice none 0 0] 27)
            have v0G0a_42 := hid (v0G0a_5.out.alloc (.cells #[.int .i64 0, .slice none 0 0, .slice none 0 0] 27))
            have v0G0b_43 := hid (v0G0b_6.out.alloc (.cells #[.int .i64 0, .slice none 0 0, .slice none 0 0] 27))
            refine hh_mid 3 rfl (by decide) (by kernel_rfl) (fun K hK => ?_)
            (refine mid_call ?_ ?_ (by rfl) ?_ ?_; rotate_left 2; (focus (go_simp; first | done | rfl | (refine And.intro ?_ ?_ <;> rfl))))
            refine (law_toTableau _ _ _ _ A1 _ _ _ B1 _ (H1a.out.below (l_below L_110.out v0hB_40.out)) (H1b.out.below (l_below L_110.out v0hB_40.out)) (by omega)).mono ?_
            rintro e v0V_44 ⟨u1a, u1b, rfl, v0hN_45⟩
            refine ⟨_, rfl, ?_⟩
            have v0hB_46 := hid (v0hB_40.out.trans (v0hN_45.2.2.2.mono (show w2.heap.size ≤ (v0V_2.alloc (.cells #[.int .i64 0, .slice none 0 0, .slice none 0 0] 27)).heap.size from v0hB_40.out.size)))
            have v0HZ_47 := hid (bk_below v0HZ_41.out v0hN_45.2.2.2)
            have v0G0a_48 := hid (v0G0a_42.out.below v0hN_45.2.2.2)
            have v0G0b_49 := hid (v0G0b_43.out.below v0hN_45.2.2.2)
            have v0G1a_50 := hid (v0hN_45.1.rd)
            have v0G1b_51 := hid (v0hN_45.2.1.rd)
            clear v0hN_45
            (go_simp; refine hK.out _ _ ?_ ?_ <;> clear hK K)
            · exact v0hB_46.out
            refine hh_mid 4 rfl (by decide) (by kernel_rfl) (fun K hK => ?_)
            (refine mid_call ?_ ?_ (by rfl) ?_ ?_; rotate_left 2; (focus (go_simp; first | done | rfl | (refine And.intro ?_ ?_ <;> rfl))))
            refine (spec_ComposeTableaus _ _ _ _ A0 _ _ _ B0 _ _ _ _ A1 _ _ _ B1 _ v0G0a_48.out v0G0b_49.out v0G1a_50.out v0G1b_51.out HR.out).mono ?_
            rintro e v0V_52 ⟨rp, rn, rc, rq, rm, rd, rfl, v0hN_53⟩
            refine ⟨_, rfl, ?_⟩
            have v0hB_54 := hid (v0hB_46.out.trans (v0hN_53.2.2.2.mono (show w2.heap.size ≤ v0V_44.heap.size from v0hB_46.out.size)))
            have v0HZ_55 := hid (bk_below v0HZ_47.out v0hN_53.2.2.2)
            have v0HE_56 := bk_lt v0HZ_47.out
            have v0G0a_57 := hid (v0G0a_48.out.below v0hN_53.2.2.2)
            have v0G0b_58 := hid (v0G0b_49.out.below v0hN_53.2.2.2)
            have v0G1a_59 := hid (v0G1a_50.out.below v0hN_53.2.2.2)
            have v0G1b_60 := hid (v0G1b_51.out.below v0hN_53.2.2.2)
            have v0HL_61 := hid v0hN_53
            clear v0hN_53
            (go_simp; refine hK.out _ _ ?_ ?_ <;> clear hK K)
            · exact v0hB_54.out
            (refine hh_take 5 HG rfl (by decide) (by kernel_rfl) (by kernel_rfl) v0hB_54.out (fun K hK => ?_); refine take_val ?_ (by rfl) ?_ ?_; rotate_left 1; (focus (intro wc hC; skip; go_simp; try rfl)); go_simp; refine hK.out _ ?_; clear hK K)
            (refine hh_take 6 HG rfl (by decide) (by kernel_rfl) (by kernel_rfl) v0hB_54.out (fun K hK => ?_); refine take_val ?_ (by rfl) ?_ ?_; rotate_left 1; (focus (intro wc hC; skip; go_simp; try rfl)); go_simp; refine hK.out _ ?_; clear hK K)
            (refine hh_take 7 HG rfl (by decide) (by kernel_rfl) (by kernel_rfl) v0hB_54.out (fun K hK => ?_); refine take_val ?_ (by rfl) ?_ ?_; rotate_left 1; (focus (intro wc hC; skip; go_simp; try rfl)); go_simp; refine hK.out _ ?_; clear hK K)
            obtain ⟨⟨z0, z1, z2⟩, z3, z4, z5⟩ := blk3 v0HZ_55.out
            refine hh_mid 9 rfl (by decide) (by kernel_rfl) (fun K hK => ?_)
            (go_simp; refine hK.out _ _ ?_ ?_ <;> clear hK K)
            · exact ((v0hB_54.out.setCell (show w2.heap.size ≤ v0V_2.heap.size from v0hB_4.out.size) _).setCell (show w2.heap.size ≤ v0V_2.heap.size from v0hB_4.out.size) _).setCell (show w2.heap.size ≤ v0V_2.heap.size from v0hB_4.out.size) _
            refine hh_done (by kernel_rfl) ?_
            simp only [List.drop_succ_cons, List.drop_zero]
            change wpList _ _ _ _ _ _
            go_wp2_with fail
            go_meet
            exact ⟨_, _, _, _, _, _, _, rfl, rfl, NTb.early v0HZ_55.out (show w2.heap.size ≤ v0V_2.heap.size from v0hB_4.out.size) v0HE_56 v0HL_61.out v0hB_46.out⟩
        · skip
          (refine mid_val ?_ ?_ (by rfl) ?_ ?_; rotate_left 2; (focus (go_simp; first | done | rfl | (refine And.intro ?_ ?_ <;> rfl))); go_simp; refine hK.out _ _ ?_ ?_ <;> clear hK K)
          · exact (v0hB_1.out.alloc v0hB_1.out.size _)
          have v0hB_62 := hid (show Below w2.heap.size w2 (w2.drew.alloc (.cells #[.int .i64 0, .slice none 0 0, .slice none 0 0] 27)) from v0hB_1.out.alloc v0hB_1.out.size _)
          have v0HZ_63 := hid (show (w2.drew.alloc (.cells #[.int .i64 0, .slice none 0 0, .slice none 0 0] 27)).heap[w2.heap.size]? = some (.cells #[.int .i64 0, .slice none 0 0, .slice none 0 0] 27 (0, 0)) from bk_new w2.drew #[.int .i64 0, .slice none 0 0, .slice none 0 0] 27)
          refine hh_mid 1 rfl (by decide) (by kernel_rfl) (fun K hK => ?_)
          (refine mid_call ?_ ?_ (by rfl) ?_ ?_; rotate_left 2; (focus (go_simp; first | done | rfl | (refine And.intro ?_ ?_ <;> rfl))))
          refine (law_toTableau _ _ _ _ A0 _ _ _ B0 _ (H0a.out.below (l_below L_110.out v0hB_62.out)) (H0b.out.below (l_below L_110.out v0hB_62.out)) (by omega)).mono ?_
          rintro e v0V_64 ⟨u0a, u0b, rfl, v0hN_65⟩
          refine ⟨_, rfl, ?_⟩
          have v0hB_66 := hid (v0hB_62.out.trans (v0hN_65.2.2.2.mono (show w2.heap.size ≤ (w2.drew.alloc (.cells #[.int .i64 0, .slice none 0 0, .slice none 0 0] 27)).heap.size from v0hB_62.out.size)))
          have v0HZ_67 := hid (bk_below v0HZ_63.out v0hN_65.2.2.2)
          have v0G0a_68 := hid (v0hN_65.1.rd)
          have v0G0b_69 := hid (v0hN_65.2.1.rd)
          clear v0hN_65
          (go_simp; refine hK.out _ _ ?_ ?_ <;> clear hK K)
          · exact v0hB_66.out
          refine hh_mid 3 rfl (by decide) (by kernel_rfl) (fun K hK => ?_)
          (refine mid_call ?_ ?_ (by rfl) ?_ ?_; rotate_left 2; (focus (go_simp; first | done | rfl | (refine And.intro ?_ ?_ <;> rfl))))
          refine (law_toTableau _ _ _ _ A1 _ _ _ B1 _ (H1a.out.below (l_below L_110.out v0hB_66.out)) (H1b.out.below (l_below L_110.out v0hB_66.out)) (by omega)).mono ?_
          rintro e v0V_70 ⟨u1a, u1b, rfl, v0hN_71⟩
          refine ⟨_, rfl, ?_⟩
          have v0hB_72 := hid (v0hB_66.out.trans (v0hN_71.2.2.2.mono (show w2.heap.size ≤ v0V_64.heap.size from v0hB_66.out.size)))
          have v0HZ_73 := hid (bk_below v0HZ_67.out v0hN_71.2.2.2)
          have v0G0a_74 := hid (v0G0a_68.out.below v0hN_71.2.2.2)
          have v0G0b_75 := hid (v0G0b_69.out.below v0hN_71.2.2.2)
          have v0G1a_76 := hid (v0hN_71.1.rd)
          have v0G1b_77 := hid (v0hN_71.2.1.rd)
          clear v0hN_71
          (go_simp; refine hK.out _ _ ?_ ?_ <;> clear hK K)
          · exact v0hB_72.out
          refine hh_mid 4 rfl (by decide) (by kernel_rfl) (fun K hK => ?_)
          (refine mid_call ?_ ?_ (by rfl) ?_ ?_; rotate_left 2; (focus (go_simp; first | done | rfl | (refine And.intro ?_ ?_ <;> rfl))))
          refine (spec_ComposeTableaus _ _ _ _ A0 _ _ _ B0 _ _ _ _ A1 _ _ _ B1 _ v0G0a_74.out v0G0b_75.out v0G1a_76.out v0G1b_77.out HR.out).mono ?_
          rintro e v0V_78 ⟨rp, rn, rc, rq, rm, rd, rfl, v0hN_79⟩
          refine ⟨_, rfl, ?_⟩
          have v0hB_80 := hid (v0hB_72.out.trans (v0hN_79.2.2.2.mono (show w2.heap.size ≤ v0V_70.heap.size from v0hB_72.out.size)))
          have v0HZ_81 := hid (bk_below v0HZ_73.out v0hN_79.2.2.2)
          have v0HE_82 := bk_lt v0HZ_73.out
          have v0G0a_83 := hid (v0G0a_74.out.below v0hN_79.2.2.2)
          have v0G0b_84 := hid (v0G0b_75.out.below v0hN_79.2.2.2)
          have v0G1a_85 := hid (v0G1a_76.out.below v0hN_79.2.2.2)
          have v0G1b_86 := hid (v0G1b_77.out.below v0hN_79.2.2.2)
          have v0HL_87 := hid v0hN_79
          clear v0hN_79
          (go_simp; refine hK.out _ _ ?_ ?_ <;> clear hK K)
          · exact v0hB_80.out
          (refine hh_take 5 HG rfl (by decide) (by kernel_rfl) (by kernel_rfl) v0hB_80.out (fun K hK => ?_); refine take_val ?_ (by rfl) ?_ ?_; rotate_left 1; (focus (intro wc hC; skip; go_simp; try rfl)); go_simp; refine hK.out _ ?_; clear hK K)
          (refine hh_take 6 HG rfl (by decide) (by kernel_rfl) (by kernel_rfl) v0hB_80.out (fun K hK => ?_); refine take_val ?_ (by rfl) ?_ ?_; rotate_left 1; (focus (intro wc hC; skip; go_simp; try rfl)); go_simp; refine hK.out _ ?_; clear hK K)
          (refine hh_take 7 HG rfl (by decide) (by kernel_rfl) (by kernel_rfl) v0hB_80.out (fun K hK => ?_); refine take_val ?_ (by rfl) ?_ ?_; rotate_left 1; (focus (intro wc hC; skip; go_simp; try rfl)); go_simp; refine hK.out _ ?_; clear hK K)
          obtain ⟨⟨z0, z1, z2⟩, z3, z4, z5⟩ := blk3 v0HZ_81.out
          refine hh_mid 9 rfl (by decide) (by kernel_rfl) (fun K hK => ?_)
          (go_simp; refine hK.out _ _ ?_ ?_ <;> clear hK K)
          · exact ((v0hB_80.out.setCell (show w2.heap.size ≤ w2.heap.size from v0hB_1.out.size) _).setCell (show w2.heap.size ≤ w2.heap.size from v0hB_1.out.size) _).setCell (show w2.heap.size ≤ w2.heap.size from v0hB_1.out.size) _
          refine hh_done (by kernel_rfl) ?_
          simp only [List.drop_succ_cons, List.drop_zero]
          change wpList _ _ _ _ _ _
          go_wp2_with fail
          go_meet
          exact ⟨_, _, _, _, _, _, _, rfl, rfl, NTb.early v0HZ_81.out (show w2.heap.size ≤ w2.heap.size from v0hB_1.out.size) v0HE_82 v0HL_87.out v0hB_72.out⟩
      case rest =>
        obtain ⟨w3, rfl⟩ : ∃ w3 : World, w3 = wc := ⟨_, rfl⟩
        obtain ⟨v0k, v0p, v0n, v0c, v0q, v0m, v0d, rfl, rfl, hN⟩ := hcut
        have y3 := hN.nt.2.2.2.size
        try simp only [World.size_alloc] at y3
        have HN := hid hN
        clear hN KP
        have L_113 := hid (l_below L_110.out HN.out.nt.2.2.2)
        have Bbox0_114 := hid (bk_below Bbox0_111.out HN.out.nt.2.2.2)
        have Bbox1_115 := hid (bk_below Bbox1_112.out HN.out.nt.2.2.2)
        clear L_110 Bbox0_111 Bbox1_112
        have Ov0a_116 := hid (Ob.mk' HN.out.nt.1)
        have Ov0b_117 := hid (Ob.mk' HN.out.nt.2.1)
        have Bv0_118 := hid HN.out.bk
        have y4 := bk_lt Bv0_118.out
        have y5 := HN.out.lo
        have hnv0 : v0n ≤ 1000 := by rw [← HN.out.nt.1.rd.len]; exact hlA
        have hmv0 : v0m ≤ 1000 := by rw [← HN.out.nt.2.1.rd.len]; exact hlB
        clear HN
        obtain ⟨⟨q00, q01, q02⟩, _⟩ := blk3 Bbox0_114.out
        obtain ⟨⟨q10, q11, q12⟩, _⟩ := blk3 Bbox1_115.out
        go_wp2_with fail
        refine (law_toTableau _ _ _ _ A0 _ _ _ B0 _ (H0a.out.below L_113.out) (H0b.out.below L_113.out) (by omega)).mono ?_
        rintro e w4 ⟨x0a, x0b, rfl, hN⟩
        have y6 := hN.2.2.2.size
        try simp only [World.size_alloc] at y6
        have HN := hid hN
        clear hN
        have L_119 := hid (l_below L_113.out HN.out.2.2.2)
        have Bbox0_120 := hid (bk_below Bbox0_114.out HN.out.2.2.2)
        have Bbox1_121 := hid (bk_below Bbox1_115.out HN.out.2.2.2)
        have Ov0a_122 := hid (Ov0a_116.out.below HN.out.2.2.2)
        have Ov0b_123 := hid (Ov0b_117.out.below HN.out.2.2.2)
        have Bv0_124 := hid (bk_below Bv0_118.out HN.out.2.2.2)
        clear L_113 Bbox0_114 Bbox1_115 Ov0a_116 Ov0b_117 Bv0_118
        have Ox0a_125 := hid (Ob.mk' HN.out.1)
        have Ox0b_126 := hid (Ob.mk' HN.out.2.1)
        have HSx0 := hid HN.out.2.2.1
        clear HN
        have L_127 := hid (l_alloc L_119.out (.cells #[.int .i64 s0, .slice (some ⟨x0a, 0, none⟩) n0 n0, .slice (some ⟨x0b, 0, none⟩) m0 m0] 27))
        have Bbox0_128 := hid (bk_alloc Bbox0_120.out (.cells #[.int .i64 s0, .slice (some ⟨x0a, 0, none⟩) n0 n0, .slice (some ⟨x0b, 0, none⟩) m0 m0] 27))
        have Bbox1_129 := hid (bk_alloc Bbox1_121.out (.cells #[.int .i64 s0, .slice (some ⟨x0a, 0, none⟩) n0 n0, .slice (some ⟨x0b, 0, none⟩) m0 m0] 27))
        have Ov0a_130 := hid (Ov0a_122.out.alloc (.cells #[.int .i64 s0, .slice (some ⟨x0a, 0, none⟩) n0 n0, .slice (some ⟨x0b, 0, none⟩) m0 m0] 27))
        have Ov0b_131 := hid (Ov0b_123.out.alloc (.cells #[.int .i64 s0, .slice (some ⟨x0a, 0, none⟩) n0 n0, .slice (some ⟨x0b, 0, none⟩) m0 m0] 27))
        have Bv0_132 := hid (bk_alloc Bv0_124.out (.cells #[.int .i64 s0, .slice (some ⟨x0a, 0, none⟩) n0 n0, .slice (some ⟨x0b, 0, none⟩) m0 m0] 27))
        have Ox0a_133 := hid (Ox0a_125.out.alloc (.cells #[.int .i64 s0, .slice (some ⟨x0a, 0, none⟩) n0 n0, .slice (some ⟨x0b, 0, none⟩) m0 m0] 27))
        have Ox0b_134 := hid (Ox0b_126.out.alloc (.cells #[.int .i64 s0, .slice (some ⟨x0a, 0, none⟩) n0 n0, .slice (some ⟨x0b, 0, none⟩) m0 m0] 27))
        clear L_119 Bbox0_120 Bbox1_121 Ov0a_122 Ov0b_123 Bv0_124 Ox0a_125 Ox0b_126
        have Bx0_135 := hid (bk_new w4 #[.int .i64 s0, .slice (some ⟨x0a, 0, none⟩) n0 n0, .slice (some ⟨x0b, 0, none⟩) m0 m0] 27)
        clear q00 q01 q02 q10 q11 q12
        obtain ⟨⟨q00, q01, q02⟩, _⟩ := blk3 Bbox0_128.out
        obtain ⟨⟨q10, q11, q12⟩, _⟩ := blk3 Bbox1_129.out
        go_wp2_with fail
        refine (law_toTableau _ _ _ _ A1 _ _ _ B1 _ (H1a.out.below L_127.out) (H1b.out.below L_127.out) (by omega)).mono ?_
        rintro e w5 ⟨x1a, x1b, rfl, hN⟩
        have y7 := hN.2.2.2.size
        try simp only [World.size_alloc] at y7
        have HN := hid hN
        clear hN
        have L_136 := hid (l_below L_127.out HN.out.2.2.2)
        have Bbox0_137 := hid (bk_below Bbox0_128.out HN.out.2.2.2)
        have Bbox1_138 := hid (bk_below Bbox1_129.out HN.out.2.2.2)
        have Ov0a_139 := hid (Ov0a_130.out.below HN.out.2.2.2)
        have Ov0b_140 := hid (Ov0b_131.out.below HN.out.2.2.2)
        have Bv0_141 := hid (bk_below Bv0_132.out HN.out.2.2.2)
        have Ox0a_142 := hid (Ox0a_133.out.below HN.out.2.2.2)
        have Ox0b_143 := hid (Ox0b_134.out.below HN.out.2.2.2)
        have Bx0_144 := hid (bk_below Bx0_135.out HN.out.2.2.2)
        clear L_127 Bbox0_128 Bbox1_129 Ov0a_130 Ov0b_131 Bv0_132 Ox0a_133 Ox0b_134 Bx0_135
        have Ox1a_145 := hid (Ob.mk' (HN.out.1.mono (show w4.heap.size + 1 ≤ _ by simp)))
        have Ox1b_146 := hid (Ob.mk' (HN.out.2.1.mono (show w4.heap.size + 1 ≤ _ by simp)))
        have HSx1 := hid HN.out.2.2.1
        clear HN
        have L_147 := hid (l_alloc L_136.out (.cells #[.int .i64 s1, .slice (some ⟨x1a, 0, none⟩) n1 n1, .slice (some ⟨x1b, 0, none⟩) m1 m1] 27))
        have Bbox0_148 := hid (bk_alloc Bbox0_137.out (.cells #[.int .i64 s1, .slice (some ⟨x1a, 0, none⟩) n1 n1, .slice (some ⟨x1b, 0, none⟩) m1 m1] 27))
        have Bbox1_149 := hid (bk_alloc Bbox1_138.out (.cells #[.int .i64 s1, .slice (some ⟨x1a, 0, none⟩) n1 n1, .slice (some ⟨x1b, 0, none⟩) m1 m1] 27))
        have Ov0a_150 := hid (Ov0a_139.out.alloc (.cells #[.int .i64 s1, .slice (some ⟨x1a, 0, none⟩) n1 n1, .slice (some ⟨x1b, 0, none⟩) m1 m1] 27))
        have Ov0b_151 := hid (Ov0b_140.out.alloc (.cells #[.int .i64 s1, .slice (some ⟨x1a, 0, none⟩) n1 n1, .slice (some ⟨x1b, 0, none⟩) m1 m1] 27))
        have Bv0_152 := hid (bk_alloc Bv0_141.out (.cells #[.int .i64 s1, .slice (some ⟨x1a, 0, none⟩) n1 n1, .slice (some ⟨x1b, 0, none⟩) m1 m1] 27))
        have Ox0a_153 := hid (Ox0a_142.out.alloc (.cells #[.int .i64 s1, .slice (some ⟨x1a, 0, none⟩) n1 n1, .slice (some ⟨x1b, 0, none⟩) m1 m1] 27))
        have Ox0b_154 := hid (Ox0b_143.out.alloc (.cells #[.int .i64 s1, .slice (some ⟨x1a, 0, none⟩) n1 n1, .slice (some ⟨x1b, 0, none⟩) m1 m1] 27))
        have Bx0_155 := hid (bk_alloc Bx0_144.out (.cells #[.int .i64 s1, .slice (some ⟨x1a, 0, none⟩) n1 n1, .slice (some ⟨x1b, 0, none⟩) m1 m1] 27))
        have Ox1a_156 := hid (Ox1a_145.out.alloc (.cells #[.int .i64 s1, .slice (some ⟨x1a, 0, none⟩) n1 n1, .slice (some ⟨x1b, 0, none⟩) m1 m1] 27))
        have Ox1b_157 := hid (Ox1b_146.out.alloc (.cells #[.int .i64 s1, .slice (some ⟨x1a, 0, none⟩) n1 n1, .slice (some ⟨x1b, 0, none⟩) m1 m1] 27))
        clear L_136 Bbox0_137 Bbox1_138 Ov0a_139 Ov0b_140 Bv0_141 Ox0a_142 Ox0b_143 Bx0_144 Ox1a_145 Ox1b_146
        have Bx1_158 := hid (bk_new w5 #[.int .i64 s1, .slice (some ⟨x1a, 0, none⟩) n1 n1, .slice (some ⟨x1b, 0, none⟩) m1 m1] 27)
        clear q00 q01 q02 q10 q11 q12
        obtain ⟨⟨q00, q01, q02⟩, _⟩ := blk3 Bx0_155.out
        obtain ⟨⟨q10, q11, q12⟩, _⟩ := blk3 Bx1_158.out
        go_wp2_with fail
        refine (impl_ComposeTableaus _ _ _ _ A0 _ _ _ B0 _ _ _ _ A1 _ _ _ B1 _ Ox0a_153.out.fr.rd Ox0b_154.out.fr.rd Ox1a_156.out.fr.rd Ox1b_157.out.fr.rd HR.out).mono ?_
        rintro e w6 ⟨g0p, g0n, g0c, g0q, g0m, g0d, rfl, hN⟩
        have y8 := hN.2.2.2.size
        try simp only [World.size_alloc] at y8
        have HN := hid hN
        clear hN
        have L_159 := hid (l_below L_147.out HN.out.2.2.2)
        have Bbox0_160 := hid (bk_below Bbox0_148.out HN.out.2.2.2)
        have Bbox1_161 := hid (bk_below Bbox1_149.out HN.out.2.2.2)
        have Ov0a_162 := hid (Ov0a_150.out.below HN.out.2.2.2)
        have Ov0b_163 := hid (Ov0b_151.out.below HN.out.2.2.2)
        have Bv0_164 := hid (bk_below Bv0_152.out HN.out.2.2.2)
        have Ox0a_165 := hid (Ox0a_153.out.below HN.out.2.2.2)
        have Ox0b_166 := hid (Ox0b_154.out.below HN.out.2.2.2)
        have Bx0_167 := hid (bk_below Bx0_155.out HN.out.2.2.2)
        have Ox1a_168 := hid (Ox1a_156.out.below HN.out.2.2.2)
        have Ox1b_169 := hid (Ox1b_157.out.below HN.out.2.2.2)
        have Bx1_170 := hid (bk_below Bx1_158.out HN.out.2.2.2)
        clear L_147 Bbox0_148 Bbox1_149 Ov0a_150 Ov0b_151 Bv0_152 Ox0a_153 Ox0b_154 Bx0_155 Ox1a_156 Ox1b_157 Bx1_158
        have Og0a_171 := hid (Ob.mk' (HN.out.1.mono (show w5.heap.size + 1 ≤ _ by simp)))
        have Og0b_172 := hid (Ob.mk' (HN.out.2.1.mono (show w5.heap.size + 1 ≤ _ by simp)))
        have hng0 : g0n ≤ 1000 := by rw [← HN.out.1.rd.len]; exact hlA
        have hmg0 : g0m ≤ 1000 := by rw [← HN.out.2.1.rd.len]; exact hlB
        have HSg0 := hid HN.out.2.2.1
        clear HN
        have L_173 := hid (l_alloc L_159.out (.cells #[.int .i64 rs, .slice g0p g0n g0c, .slice g0q g0m g0d] 27))
        have Bbox0_174 := hid (bk_alloc Bbox0_160.out (.cells #[.int .i64 rs, .slice g0p g0n g0c, .slice g0q g0m g0d] 27))
        have Bbox1_175 := hid (bk_alloc Bbox1_161.out (.cells #[.int .i64 rs, .slice g0p g0n g0c, .slice g0q g0m g0d] 27))
        have Ov0a_176 := hid (Ov0a_162.out.alloc (.cells #[.int .i64 rs, .slice g0p g0n g0c, .slice g0q g0m g0d] 27))
        have Ov0b_177 := hid (Ov0b_163.out.alloc (.cells #[.int .i64 rs, .slice g0p g0n g0c, .slice g0q g0m g0d] 27))
        have Bv0_178 := hid (bk_alloc Bv0_164.out (.cells #[.int .i64 rs, .slice g0p g0n g0c, .slice g0q g0m g0d] 27))
        have Ox0a_179 := hid (Ox0a_165.out.alloc (.cells #[.int .i64 rs, .slice g0p g0n g0c, .slice g0q g0m g0d] 27))
        have Ox0b_180 := hid (Ox0b_166.out.alloc (.cells #[.int .i64 rs, .slice g0p g0n g0c, .slice g0q g0m g0d] 27))
        have Bx0_181 := hid (bk_alloc Bx0_167.out (.cells #[.int .i64 rs, .slice g0p g0n g0c, .slice g0q g0m g0d] 27))
        have Ox1a_182 := hid (Ox1a_168.out.alloc (.cells #[.int .i64 rs, .slice g0p g0n g0c, .slice g0q g0m g0d] 27))
        have Ox1b_183 := hid (Ox1b_169.out.alloc (.cells #[.int .i64 rs, .slice g0p g0n g0c, .slice g0q g0m g0d] 27))
        have Bx1_184 := hid (bk_alloc Bx1_170.out (.cells #[.int .i64 rs, .slice g0p g0n g0c, .slice g0q g0m g0d] 27))
        have Og0a_185 := hid (Og0a_171.out.alloc (.cells #[.int .i64 rs, .slice g0p g0n g0c, .slice g0q g0m g0d] 27))
        have Og0b_186 := hid (Og0b_172.out.alloc (.cells #[.int .i64 rs, .slice g0p g0n g0c, .slice g0q g0m g0d] 27))
        clear L_159 Bbox0_160 Bbox1_161 Ov0a_162 Ov0b_163 Bv0_164 Ox0a_165 Ox0b_166 Bx0_167 Ox1a_168 Ox1b_169 Bx1_170 Og0a_171 Og0b_172
        have Bg0_187 := hid (bk_new w6 #[.int .i64 rs, .slice g0p g0n g0c, .slice g0q g0m g0d] 27)
        clear q00 q01 q02 q10 q11 q12
        obtain ⟨⟨q00, q01, q02⟩, _⟩ := blk3 Bg0_187.out
        obtain ⟨⟨q10, q11, q12⟩, _⟩ := blk3 Bv0_178.out
        go_wp2_with fail
        refine (law_eqTableau_true _ _ _ _ _ _ _ _ _ _ _ _ _ rA rB _ Og0a_185.out.fr.rd Og0b_186.out.fr.rd Ov0a_176.out.fr.rd Ov0b_177.out.fr.rd).mono ?_
        rintro e w7 ⟨rfl, hB⟩
        have y9 := hB.size
        try simp only [World.size_alloc] at y9
        have HB := hid hB
        clear hB
        have L_188 := hid (l_below L_173.out HB.out)
        have Bbox0_189 := hid (bk_below Bbox0_174.out HB.out)
        have Bbox1_190 := hid (bk_below Bbox1_175.out HB.out)
        have Ov0a_191 := hid (Ov0a_176.out.below HB.out)
        have Ov0b_192 := hid (Ov0b_177.out.below HB.out)
        have Bv0_193 := hid (bk_below Bv0_178.out HB.out)
        have Ox0a_194 := hid (Ox0a_179.out.below HB.out)
        have Ox0b_195 := hid (Ox0b_180.out.below HB.out)
        have Bx0_196 := hid (bk_below Bx0_181.out HB.out)
        have Ox1a_197 := hid (Ox1a_182.out.below HB.out)
        have Ox1b_198 := hid (Ox1b_183.out.below HB.out)
        have Bx1_199 := hid (bk_below Bx1_184.out HB.out)
        have Og0a_200 := hid (Og0a_185.out.below HB.out)
        have Og0b_201 := hid (Og0b_186.out.below HB.out)
        have Bg0_202 := hid (bk_below Bg0_187.out HB.out)
        clear L_173 Bbox0_174 Bbox1_175 Ov0a_176 Ov0b_177 Bv0_178 Ox0a_179 Ox0b_180 Bx0_181 Ox1a_182 Ox1b_183 Bx1_184 Og0a_185 Og0b_186 Bg0_187
        clear HB
        clear q00 q01 q02 q10 q11 q12
        obtain ⟨⟨q00, q01, q02⟩, _⟩ := blk3 Bbox0_189.out
        obtain ⟨⟨q10, q11, q12⟩, _⟩ := blk3 Bbox1_190.out
        obtain ⟨⟨q20, q21, q22⟩, _⟩ := blk3 Bx0_196.out
        go_wp2_with fail
        have KP := hid (keep6 Bbox0_189.out Bx0_196.out)
        go_region_held3 (fun w' => w'.cell? ⟨w.heap.size, 0, none⟩ = some (.int .i64 s0) ∧ w'.cell? ⟨w.heap.size, 1, none⟩ = some (.slice a0 n0 c0) ∧ w'.cell? ⟨w.heap.size, 2, none⟩ = some (.slice b0 m0 d0) ∧ w'.cell? ⟨w4.heap.size, 0, none⟩ = some (.int .i64 s0) ∧ w'.cell? ⟨w4.heap.size, 1, none⟩ = some (.slice (some ⟨x0a, 0, none⟩) n0 n0) ∧ w'.cell? ⟨w4.heap.size, 2, none⟩ = some (.slice (some ⟨x0b, 0, none⟩) m0 m0))
          (first | exact KP.out _ ((Below.refl _ _).drew) | exact KP.out _ (of_drew hY.2.2.2) | exact KP.out _ ((of_drew hY.2.2.2).trans (hZ.mono (of_drew hY.2.2.2).size)))
          (first
            | (go_at_call 17; refine (law_toTableau _ _ _ _ A0 _ _ _ B0 _ (H0a.out.below L_188.out.drew) (H0b.out.below L_188.out.drew) (by omega)).mono ?_; rintro e w8 ⟨yq1, yq2, rfl, hY⟩)
            | (go_at_call 19; refine (law_eqTableau_true _ _ _ _ _ _ _ _ _ _ _ _ _ A0 B0 _ (Ox0a_194.out.fr.rd.below (of_drew hY.2.2.2)) (Ox0b_195.out.fr.rd.below (of_drew hY.2.2.2)) hY.1.rd hY.2.1.rd).mono ?_; rintro e w9 ⟨rfl, hZ⟩))
        have hB := (of_drew hY.2.2.2).trans (hZ.mono (of_drew hY.2.2.2).size)
        have y10 := hB.size
        try simp only [World.size_alloc] at y10
        have HB := hid hB
        clear hB hY hZ KP
        have L_203 := hid (l_below L_188.out HB.out)
        have Bbox0_204 := hid (bk_below Bbox0_189.out HB.out)
        have Bbox1_205 := hid (bk_below Bbox1_190.out HB.out)
        have Ov0a_206 := hid (Ov0a_191.out.below HB.out)
        have Ov0b_207 := hid (Ov0b_192.out.below HB.out)
        have Bv0_208 := hid (bk_below Bv0_193.out HB.out)
        have Ox0a_209 := hid (Ox0a_194.out.below HB.out)
        have Ox0b_210 := hid (Ox0b_195.out.below HB.out)
        have Bx0_211 := hid (bk_below Bx0_196.out HB.out)
        have Ox1a_212 := hid (Ox1a_197.out.below HB.out)
        have Ox1b_213 := hid (Ox1b_198.out.below HB.out)
        have Bx1_214 := hid (bk_below Bx1_199.out HB.out)
        have Og0a_215 := hid (Og0a_200.out.below HB.out)
        have Og0b_216 := hid (Og0b_201.out.below HB.out)
        have Bg0_217 := hid (bk_below Bg0_202.out HB.out)
        clear L_188 Bbox0_189 Bbox1_190 Ov0a_191 Ov0b_192 Bv0_193 Ox0a_194 Ox0b_195 Bx0_196 Ox1a_197 Ox1b_198 Bx1_199 Og0a_200 Og0b_201 Bg0_202
        clear HB
        obtain ⟨⟨q00, q01, q02⟩, _⟩ := blk3 Bbox0_204.out
        obtain ⟨⟨q10, q11, q12⟩, _⟩ := blk3 Bbox1_205.out
        obtain ⟨⟨q20, q21, q22⟩, _⟩ := blk3 Bx1_214.out
        go_wp2_with fail
        have KP := hid (keep6 Bbox1_205.out Bx1_214.out)
        go_region_held3 (fun w' => w'.cell? ⟨w.heap.size + 1, 0, none⟩ = some (.int .i64 s1) ∧ w'.cell? ⟨w.heap.size + 1, 1, none⟩ = some (.slice a1 n1 c1) ∧ w'.cell? ⟨w.heap.size + 1, 2, none⟩ = some (.slice b1 m1 d1) ∧ w'.cell? ⟨w5.heap.size, 0, none⟩ = some (.int .i64 s1) ∧ w'.cell? ⟨w5.heap.size, 1, none⟩ = some (.slice (some ⟨x1a, 0, none⟩) n1 n1) ∧ w'.cell? ⟨w5.heap.size, 2, none⟩ = some (.slice (some ⟨x1b, 0, none⟩) m1 m1))
          (first | exact KP.out _ ((Below.refl _ _).drew) | exact KP.out _ (of_drew hY.2.2.2) | exact KP.out _ ((of_drew hY.2.2.2).trans (hZ.mono (of_drew hY.2.2.2).size)))
          (first
            | (go_at_call 17; refine (law_toTableau _ _ _ _ A1 _ _ _ B1 _ (H1a.out.below L_203.out.drew) (H1b.out.below L_203.out.drew) (by omega)).mono ?_; rintro e w10 ⟨yq1, yq2, rfl, hY⟩)
            | (go_at_call 19; refine (law_eqTableau_true _ _ _ _ _ _ _ _ _ _ _ _ _ A1 B1 _ (Ox1a_212.out.fr.rd.below (of_drew hY.2.2.2)) (Ox1b_213.out.fr.rd.below (of_drew hY.2.2.2)) hY.1.rd hY.2.1.rd).mono ?_; rintro e w11 ⟨rfl, hZ⟩))
        have hB := (of_drew hY.2.2.2).trans (hZ.mono (of_drew hY.2.2.2).size)
        have y11 := hB.size
        try simp only [World.size_alloc] at y11
        have HB := hid hB
        clear hB hY hZ KP
        have L_218 := hid (l_below L_203.out HB.out)
        have Bbox0_219 := hid (bk_below Bbox0_204.out HB.out)
        have Bbox1_220 := hid (bk_below Bbox1_205.out HB.out)
        have Ov0a_221 := hid (Ov0a_206.out.below HB.out)
        have Ov0b_222 := hid (Ov0b_207.out.below HB.out)
        have Bv0_223 := hid (bk_below Bv0_208.out HB.out)
        have Ox0a_224 := hid (Ox0a_209.out.below HB.out)
        have Ox0b_225 := hid (Ox0b_210.out.below HB.out)
        have Bx0_226 := hid (bk_below Bx0_211.out HB.out)
        have Ox1a_227 := hid (Ox1a_212.out.below HB.out)
        have Ox1b_228 := hid (Ox1b_213.out.below HB.out)
        have Bx1_229 := hid (bk_below Bx1_214.out HB.out)
        have Og0a_230 := hid (Og0a_215.out.below HB.out)
        have Og0b_231 := hid (Og0b_216.out.below HB.out)
        have Bg0_232 := hid (bk_below Bg0_217.out HB.out)
        clear L_203 Bbox0_204 Bbox1_205 Ov0a_206 Ov0b_207 Bv0_208 Ox0a_209 Ox0b_210 Bx0_211 Ox1a_212 Ox1b_213 Bx1_214 Og0a_215 Og0b_216 Bg0_217
        clear HB
        obtain ⟨⟨q00, q01, q02⟩, _⟩ := blk3 Bx0_226.out
        go_wp2_with fail
        refine (law_markTableau _ _ _ _ _ _ _ _ _ A0 B0 _ (Ox0a_224.out.fr.mono (Nat.le_refl _)) (Ox0b_225.out.fr.mono (by omega)) HSx0.out (by omega) (by omega) (by omega) (by omega)).mono ?_
        rintro e w12 ⟨rfl, hF1, hF2, wa, wb, rfl, hG1, hG2⟩
        have y12 := Nat.le_trans hG1.size hG2.size
        try simp only [World.size_alloc] at y12
        have HF1 := hid hF1
        have HF2 := hid hF2
        have HG1 := hid hG1
        have HG2 := hid hG2
        clear hF1 hF2 hG1 hG2
        have L_233 := hid (l_grown (l_grown (l_alloc L_218.out _) HG1.out (fun k hk => by have h1 := Ox0a_224.out.bd k hk; omega)) HG2.out (fun k hk => by have h1 := Ox0b_225.out.bd k hk; omega))
        have Bbox0_234 := hid (bk_grown (bk_grown (bk_alloc Bbox0_219.out _) HG1.out (fun k hk => by have h1 := Ox0a_224.out.bd k hk; omega)) HG2.out (fun k hk => by have h1 := Ox0b_225.out.bd k hk; omega))
        have Bbox1_235 := hid (bk_grown (bk_grown (bk_alloc Bbox1_220.out _) HG1.out (fun k hk => by have h1 := Ox0a_224.out.bd k hk; omega)) HG2.out (fun k hk => by have h1 := Ox0b_225.out.bd k hk; omega))
        have Ov0a_236 := hid (((Ov0a_221.out.alloc _).grown HG1.out (fun k hk => by have h1 := Ox0a_224.out.bd k hk; omega)).grown HG2.out (fun k hk => by have h1 := Ox0b_225.out.bd k hk; omega))
        have Ov0b_237 := hid (((Ov0b_222.out.alloc _).grown HG1.out (fun k hk => by have h1 := Ox0a_224.out.bd k hk; omega)).grown HG2.out (fun k hk => by have h1 := Ox0b_225.out.bd k hk; omega))
        have Bv0_238 := hid (bk_grown (bk_grown (bk_alloc Bv0_223.out _) HG1.out (fun k hk => by have h1 := Ox0a_224.out.bd k hk; omega)) HG2.out (fun k hk => by have h1 := Ox0b_225.out.bd k hk; omega))
        have Ox1a_239 := hid (((Ox1a_227.out.alloc _).grown HG1.out (fun k hk => by have h1 := Ox0a_224.out.bd k hk; omega)).grown HG2.out (fun k hk => by have h1 := Ox0b_225.out.bd k hk; omega))
        have Ox1b_240 := hid (((Ox1b_228.out.alloc _).grown HG1.out (fun k hk => by have h1 := Ox0a_224.out.bd k hk; omega)).grown HG2.out (fun k hk => by have h1 := Ox0b_225.out.bd k hk; omega))
        have Bx1_241 := hid (bk_grown (bk_grown (bk_alloc Bx1_229.out _) HG1.out (fun k hk => by have h1 := Ox0a_224.out.bd k hk; omega)) HG2.out (fun k hk => by have h1 := Ox0b_225.out.bd k hk; omega))
        have Og0a_242 := hid (((Og0a_230.out.alloc _).grown HG1.out (fun k hk => by have h1 := Ox0a_224.out.bd k hk; omega)).grown HG2.out (fun k hk => by have h1 := Ox0b_225.out.bd k hk; omega))
        have Og0b_243 := hid (((Og0b_231.out.alloc _).grown HG1.out (fun k hk => by have h1 := Ox0a_224.out.bd k hk; omega)).grown HG2.out (fun k hk => by have h1 := Ox0b_225.out.bd k hk; omega))
        have Bg0_244 := hid (bk_grown (bk_grown (bk_alloc Bg0_232.out _) HG1.out (fun k hk => by have h1 := Ox0a_224.out.bd k hk; omega)) HG2.out (fun k hk => by have h1 := Ox0b_225.out.bd k hk; omega))
        clear L_218 Bbox0_219 Bbox1_220 Ov0a_221 Ov0b_222 Bv0_223 Ox0a_224 Ox0b_225 Ox1a_227 Ox1b_228 Bx1_229 Og0a_230 Og0b_231 Bg0_232
        clear HF1 HF2 HG1 HG2
        clear q00 q01 q02
        obtain ⟨⟨q00, q01, q02⟩, _⟩ := blk3 Bx1_241.out
        go_wp2_with fail
        refine (law_markTableau _ _ _ _ _ _ _ _ _ A1 B1 _ (Ox1a_239.out.fr.mono (Nat.le_refl _)) (Ox1b_240.out.fr.mono (by omega)) HSx1.out (by omega) (by omega) (by omega) (by omega)).mono ?_
        rintro e w13 ⟨rfl, hF1, hF2, wa, wb, rfl, hG1, hG2⟩
        have y13 := Nat.le_trans hG1.size hG2.size
        try simp only [World.size_alloc] at y13
        have HF1 := hid hF1
        have HF2 := hid hF2
        have HG1 := hid hG1
        have HG2 := hid hG2
        clear hF1 hF2 hG1 hG2
        have L_245 := hid (l_grown (l_grown (l_alloc L_233.out _) HG1.out (fun k hk => by have h1 := Ox1a_239.out.bd k hk; omega)) HG2.out (fun k hk => by have h1 := Ox1b_240.out.bd k hk; omega))
        have Bbox0_246 := hid (bk_grown (bk_grown (bk_alloc Bbox0_234.out _) HG1.out (fun k hk => by have h1 := Ox1a_239.out.bd k hk; omega)) HG2.out (fun k hk => by have h1 := Ox1b_240.out.bd k hk; omega))
        have Bbox1_247 := hid (bk_grown (bk_grown (bk_alloc Bbox1_235.out _) HG1.out (fun k hk => by have h1 := Ox1a_239.out.bd k hk; omega)) HG2.out (fun k hk => by have h1 := Ox1b_240.out.bd k hk; omega))
        have Ov0a_248 := hid (((Ov0a_236.out.alloc _).grown HG1.out (fun k hk => by have h1 := Ox1a_239.out.bd k hk; omega)).grown HG2.out (fun k hk => by have h1 := Ox1b_240.out.bd k hk; omega))
        have Ov0b_249 := hid (((Ov0b_237.out.alloc _).grown HG1.out (fun k hk => by have h1 := Ox1a_239.out.bd k hk; omega)).grown HG2.out (fun k hk => by have h1 := Ox1b_240.out.bd k hk; omega))
        have Bv0_250 := hid (bk_grown (bk_grown (bk_alloc Bv0_238.out _) HG1.out (fun k hk => by have h1 := Ox1a_239.out.bd k hk; omega)) HG2.out (fun k hk => by have h1 := Ox1b_240.out.bd k hk; omega))
        have Og0a_251 := hid (((Og0a_242.out.alloc _).grown HG1.out (fun k hk => by have h1 := Ox1a_239.out.bd k hk; omega)).grown HG2.out (fun k hk => by have h1 := Ox1b_240.out.bd k hk; omega))
        have Og0b_252 := hid (((Og0b_243.out.alloc _).grown HG1.out (fun k hk => by have h1 := Ox1a_239.out.bd k hk; omega)).grown HG2.out (fun k hk => by have h1 := Ox1b_240.out.bd k hk; omega))
        have Bg0_253 := hid (bk_grown (bk_grown (bk_alloc Bg0_244.out _) HG1.out (fun k hk => by have h1 := Ox1a_239.out.bd k hk; omega)) HG2.out (fun k hk => by have h1 := Ox1b_240.out.bd k hk; omega))
        clear L_233 Bbox0_234 Bbox1_235 Ov0a_236 Ov0b_237 Bv0_238 Ox1a_239 Ox1b_240 Og0a_242 Og0b_243 Bg0_244
        clear HF1 HF2 HG1 HG2
        clear q00 q01 q02
        obtain ⟨⟨q00, q01, q02⟩, _⟩ := blk3 Bg0_253.out
        obtain ⟨⟨q10, q11, q12⟩, _⟩ := blk3 Bv0_250.out
        go_wp2_with fail
        refine (law_eqTableau_true _ _ _ _ _ _ _ _ _ _ _ _ _ rA rB _ Og0a_251.out.fr.rd Og0b_252.out.fr.rd Ov0a_248.out.fr.rd Ov0b_249.out.fr.rd).mono ?_
        rintro e w14 ⟨rfl, hB⟩
        have y14 := hB.size
        try simp only [World.size_alloc] at y14
        have HB := hid hB
        clear hB
        have L_254 := hid (l_below L_245.out HB.out)
        have Bbox0_255 := hid (bk_below Bbox0_246.out HB.out)
        have Bbox1_256 := hid (bk_below Bbox1_247.out HB.out)
        have Ov0a_257 := hid (Ov0a_248.out.below HB.out)
        have Ov0b_258 := hid (Ov0b_249.out.below HB.out)
        have Bv0_259 := hid (bk_below Bv0_250.out HB.out)
        have Og0a_260 := hid (Og0a_251.out.below HB.out)
        have Og0b_261 := hid (Og0b_252.out.below HB.out)
        have Bg0_262 := hid (bk_below Bg0_253.out HB.out)
        clear L_245 Bbox0_246 Bbox1_247 Ov0a_248 Ov0b_249 Bv0_250 Og0a_251 Og0b_252 Bg0_253
        clear HB
        clear q00 q01 q02 q10 q11 q12
        obtain ⟨⟨q00, q01, q02⟩, _⟩ := blk3 Bg0_262.out
        go_wp2_with fail
        refine (law_markTableau _ _ _ _ _ _ _ _ _ rA rB _ (Og0a_260.out.fr.mono (Nat.le_refl _)) (Og0b_261.out.fr.mono (by omega)) HSg0.out (by omega) (by omega) (by omega) (by omega)).mono ?_
        rintro e w15 ⟨rfl, hF1, hF2, wa, wb, rfl, hG1, hG2⟩
        have y15 := Nat.le_trans hG1.size hG2.size
        try simp only [World.size_alloc] at y15
        have HF1 := hid hF1
        have HF2 := hid hF2
        have HG1 := hid hG1
        have HG2 := hid hG2
        clear hF1 hF2 hG1 hG2
        have L_263 := hid (l_grown (l_grown (l_alloc L_254.out _) HG1.out (fun k hk => by have h1 := Og0a_260.out.bd k hk; omega)) HG2.out (fun k hk => by have h1 := Og0b_261.out.bd k hk; omega))
        have Bbox0_264 := hid (bk_grown (bk_grown (bk_alloc Bbox0_255.out _) HG1.out (fun k hk => by have h1 := Og0a_260.out.bd k hk; omega)) HG2.out (fun k hk => by have h1 := Og0b_261.out.bd k hk; omega))
        have Bbox1_265 := hid (bk_grown (bk_grown (bk_alloc Bbox1_256.out _) HG1.out (fun k hk => by have h1 := Og0a_260.out.bd k hk; omega)) HG2.out (fun k hk => by have h1 := Og0b_261.out.bd k hk; omega))
        have Ov0a_266 := hid (((Ov0a_257.out.alloc _).grown HG1.out (fun k hk => by have h1 := Og0a_260.out.bd k hk; omega)).grown HG2.out (fun k hk => by have h1 := Og0b_261.out.bd k hk; omega))
        have Ov0b_267 := hid (((Ov0b_258.out.alloc _).grown HG1.out (fun k hk => by have h1 := Og0a_260.out.bd k hk; omega)).grown HG2.out (fun k hk => by have h1 := Og0b_261.out.bd k hk; omega))
        have Bv0_268 := hid (bk_grown (bk_grown (bk_alloc Bv0_259.out _) HG1.out (fun k hk => by have h1 := Og0a_260.out.bd k hk; omega)) HG2.out (fun k hk => by have h1 := Og0b_261.out.bd k hk; omega))
        have Bg0_269 := hid (bk_grown (bk_grown (bk_alloc Bg0_262.out _) HG1.out (fun k hk => by have h1 := Og0a_260.out.bd k hk; omega)) HG2.out (fun k hk => by have h1 := Og0b_261.out.bd k hk; omega))
        have Og0a_270 := hid (Ob.mk' HF1.out)
        have Og0b_271 := hid (Ob.mk' HF2.out)
        clear L_254 Bbox0_255 Bbox1_256 Ov0a_257 Ov0b_258 Bv0_259 Og0a_260 Og0b_261 Bg0_262
        clear HF1 HF2 HG1 HG2
        clear q00 q01 q02
        obtain ⟨⟨q00, q01, q02⟩, _⟩ := blk3 Bg0_269.out
        go_wp2_with fail
        refine (law_heldTableau _ _ _ _ _ _ _ 1 _ Og0a_270.out.fr.rd Og0b_271.out.fr.rd (by omega) (by omega) (by omega) (by omega)).mono ?_
        rintro e w16 ⟨rfl, hB⟩
        have y16 := hB.size
        try simp only [World.size_alloc] at y16
        have HB := hid hB
        clear hB
        have L_272 := hid (l_below L_263.out HB.out)
        have Bbox0_273 := hid (bk_below Bbox0_264.out HB.out)
        have Bbox1_274 := hid (bk_below Bbox1_265.out HB.out)
        have Ov0a_275 := hid (Ov0a_266.out.below HB.out)
        have Ov0b_276 := hid (Ov0b_267.out.below HB.out)
        have Bv0_277 := hid (bk_below Bv0_268.out HB.out)
        have Bg0_278 := hid (bk_below Bg0_269.out HB.out)
        have Og0a_279 := hid (Og0a_270.out.below HB.out)
        have Og0b_280 := hid (Og0b_271.out.below HB.out)
        clear L_263 Bbox0_264 Bbox1_265 Ov0a_266 Ov0b_267 Bv0_268 Bg0_269 Og0a_270 Og0b_271
        clear HB
        clear q00 q01 q02
        obtain ⟨⟨q00, q01, q02⟩, _⟩ := blk3 Bbox0_273.out
        obtain ⟨⟨q10, q11, q12⟩, _⟩ := blk3 Bbox1_274.out
        go_wp2_with fail
        go_wp2_with fail
        have KP := hid (keep6 Bbox0_273.out Bbox1_274.out)
        clear q00 q01 q02 q10 q11 q12
        go_cut [15, 16] from 17 (fun sa sb wc => ∃ (b : Nat) (p : Option Addr) (n c : Nat) (q : Option Addr) (m d : Nat), sa = .pointer (some ⟨b, 0, none⟩) ∧ sb = .bool rb ∧ NTb w16 wc rs rA rB b p n c q m d)
        case first =>
          have h0hB_1 := hid (show Below w16.heap.size w16 w16.drew from (Below.refl _ _).drew)
          refine (fun (HG : Rg _ _ 10) => wp_region_hh (S := fun w' => Below w16.heap.size w16 w') HG rfl ?_) ⟨by kernel_rfl, by decide, by kernel_rfl, by kernel_rfl, fun _ _ d _ _ h => by cases d <;> exact h⟩
          (refine hh_take 0 HG rfl (by decide) (by kernel_rfl) (by kernel_rfl) h0hB_1.out (fun K hK => ?_); refine take_val ?_ (by rfl) ?_ ?_; rotate_left 1; (focus (intro wc hC; obtain ⟨u0, u1, u2, u3, u4, u5⟩ := KP.out wc hC; go_simp; try rfl)); go_simp; refine hK.out _ ?_; clear hK K)
          (refine hh_take 2 HG rfl (by decide) (by kernel_rfl) (by kernel_rfl) h0hB_1.out (fun K hK => ?_); refine take_val ?_ (by rfl) ?_ ?_; rotate_left 1; (focus (intro wc hC; obtain ⟨u0, u1, u2, u3, u4, u5⟩ := KP.out wc hC; go_simp; try rfl)); go_simp; refine hK.out _ ?_; clear hK K)
          refine hh_two 1 8 rfl rfl (by decide) (by decide) (by kernel_rfl) (fun K hK => ?_) (fun K hK => ?_)
          · skip
            (refine mid_call ?_ ?_ (by rfl) ?_ ?_; rotate_left 2; (focus (go_simp; first | done | rfl | (refine And.intro ?_ ?_ <;> rfl))))
            refine (law_toTableau _ _ _ _ A0 _ _ _ B0 _ (H0a.out.below (l_below L_272.out h0hB_1.out)) (H0b.out.below (l_below L_272.out h0hB_1.out)) (by omega)).mono ?_
            rintro e h0V_2 ⟨u0a, u0b, rfl, h0hN_3⟩
            refine ⟨_, rfl, ?_⟩
            have h0hB_4 := hid (h0hB_1.out.trans (h0hN_3.2.2.2.mono (show w16.heap.size ≤ w16.drew.heap.size from h0hB_1.out.size)))
            have h0G0a_5 := hid (h0hN_3.1.rd)
            have h0G0b_6 := hid (h0hN_3.2.1.rd)
            clear h0hN_3
            (go_simp; refine hK.out _ _ ?_ ?_ <;> clear hK K)
            · exact h0hB_4.out
            refine hh_two 3 8 rfl rfl (by decide) (by decide) (by kernel_rfl) (fun K hK => ?_) (fun K hK => ?_)
            · skip
              (refine mid_call ?_ ?_ (by rfl) ?_ ?_; rotate_left 2; (focus (go_simp; first | done | rfl | (refine And.intro ?_ ?_ <;> rfl))))
              refine (law_toTableau _ _ _ _ A1 _ _ _ B1 _ (H1a.out.below (l_below L_272.out h0hB_4.out)) (H1b.out.below (l_below L_272.out h0hB_4.out)) (by omega)).mono ?_
              rintro e h0V_7 ⟨u1a, u1b, rfl, h0hN_8⟩
              refine ⟨_, rfl, ?_⟩
              have h0hB_9 := hid (h0hB_4.out.trans (h0hN_8.2.2.2.mono (show w16.heap.size ≤ h0V_2.heap.size from h0hB_4.out.size)))
              have h0G0a_10 := hid (h0G0a_5.out.below h0hN_8.2.2.2)
              have h0G0b_11 := hid (h0G0b_6.out.below h0hN_8.2.2.2)
              have h0G1a_12 := hid (h0hN_8.1.rd)
              have h0G1b_13 := hid (h0hN_8.2.1.rd)
              clear h0hN_8
              (go_simp; refine hK.out _ _ ?_ ?_ <;> clear hK K)
              · exact h0hB_9.out
              refine hh_two 4 8 rfl rfl (by decide) (by decide) (by kernel_rfl) (fun K hK => ?_) (fun K hK => ?_)
              · skip
                (refine mid_call ?_ ?_ (by rfl) ?_ ?_; rotate_left 2; (focus (go_simp; first | done | rfl | (refine And.intro ?_ ?_ <;> rfl))))
                refine (impl_ComposeTableaus _ _ _ _ A0 _ _ _ B0 _ _ _ _ A1 _ _ _ B1 _ h0G0a_10.out h0G0b_11.out h0G1a_12.out h0G1b_13.out HR.out).mono ?_
                rintro e h0V_14 ⟨rp, rn, rc, rq, rm, rd, rfl, h0hN_15⟩
                refine ⟨_, rfl, ?_⟩
                have h0hB_16 := hid (h0hB_9.out.trans (h0hN_15.2.2.2.mono (show w16.heap.size ≤ h0V_7.heap.size from h0hB_9.out.size)))
                have h0G0a_17 := hid (h0G0a_10.out.below h0hN_15.2.2.2)
                have h0G0b_18 := hid (h0G0b_11.out.below h0hN_15.2.2.2)
                have h0G1a_19 := hid (h0G1a_12.out.below h0hN_15.2.2.2)
                have h0G1b_20 := hid (h0G1b_13.out.below h0hN_15.2.2.2)
                have h0HL_21 := hid h0hN_15
                clear h0hN_15
                (go_simp; refine hK.out _ _ ?_ ?_ <;> clear hK K)
                · exact h0hB_16.out
                (refine hh_take 5 HG rfl (by decide) (by kernel_rfl) (by kernel_rfl) h0hB_16.out (fun K hK => ?_); refine take_val ?_ (by rfl) ?_ ?_; rotate_left 1; (focus (intro wc hC; skip; go_simp; try rfl)); go_simp; refine hK.out _ ?_; clear hK K)
                (refine hh_take 6 HG rfl (by decide) (by kernel_rfl) (by kernel_rfl) h0hB_16.out (fun K hK => ?_); refine take_val ?_ (by rfl) ?_ ?_; rotate_left 1; (focus (intro wc hC; skip; go_simp; try rfl)); go_simp; refine hK.out _ ?_; clear hK K)
                (refine hh_take 7 HG rfl (by decide) (by kernel_rfl) (by kernel_rfl) h0hB_16.out (fun K hK => ?_); refine take_val ?_ (by rfl) ?_ ?_; rotate_left 1; (focus (intro wc hC; skip; go_simp; try rfl)); go_simp; refine hK.out _ ?_; clear hK K)
                refine hh_mid 8 rfl (by decide) (by kernel_rfl) (fun K hK => ?_)
                (refine mid_val ?_ ?_ (by rfl) ?_ ?_; rotate_left 2; (focus (go_simp; first | done | rfl | (refine And.intro ?_ ?_ <;> rfl))); go_simp; refine hK.out _ _ ?_ ?_ <;> clear hK K)
                · exact (h0hB_16.out.alloc h0hB_16.out.size _)
                have h0hB_22 := hid (show Below w16.heap.size w16 (h0V_14.alloc (.cells #[.int .i64 0, .slice none 0 0, .slice none 0 0] 27)) from h0hB_16.out.alloc h0hB_16.out.size _)
                have h0HZ_23 := hid (show (h0V_14.alloc (.cells #[.int .i64 0, .slice none 0 0, .slice none 0 0] 27)).heap[h0V_14.heap.size]? = some (.cells #[.int .i64 0, .slice none 0 0, .slice none 0 0] 27 (0, 0)) from bk_new h0V_14 #[.int .i64 0, .slice none 0 0, .slice none 0 0] 27)
                obtain ⟨⟨z0, z1, z2⟩, z3, z4, z5⟩ := blk3 h0HZ_23.out
                refine hh_mid 9 rfl (by decide) (by kernel_rfl) (fun K hK => ?_)
                (go_simp; refine hK.out _ _ ?_ ?_ <;> clear hK K)
                · exact h0hB_16.out.alloc h0hB_16.out.size _
                refine hh_done (by kernel_rfl) ?_
                simp only [List.drop_succ_cons, List.drop_zero]
                change wpList _ _ _ _ _ _
                go_wp2_with fail
                go_meet
                exact ⟨_, _, _, _, _, _, _, rfl, rfl, NTb.late h0HL_21.out h0hB_9.out⟩
              · skip
                (refine mid_val ?_ ?_ (by rfl) ?_ ?_; rotate_left 2; (focus (go_simp; first | done | rfl | (refine And.intro ?_ ?_ <;> rfl))); go_simp; refine hK.out _ _ ?_ ?_ <;> clear hK K)
                · exact (h0hB_9.out.alloc h0hB_9.out.size _)
                have h0hB_24 := hid (show Below w16.heap.size w16 (h0V_7.alloc (.cells #[.int .i64 0, .slice none 0 0, .slice none 0 0] 27)) from h0hB_9.out.alloc h0hB_9.out.size _)
                have h0HZ_25 := hid (show (h0V_7.alloc (.cells #[.int .i64 0, .slice none 0 0, .slice none 0 0] 27)).heap[h0V_7.heap.size]? = some (.cells #[.int .i64 0, .slice none 0 0, .slice none 0 0] 27 (0, 0)) from bk_new h0V_7 #[.int .i64 0, .slice none 0 0, .slice none 0 0] 27)
                have h0G0a_26 := hid (h0G0a_10.out.alloc (.cells #[.int .i64 0, .slice none 0 0, .slice none 0 0] 27))
                have h0G0b_27 := hid (h0G0b_11.out.alloc (.cells #[.int .i64 0, .slice none 0 0, .slice none 0 0] 27))
                have h0G1a_28 := hid (h0G1a_12.out.alloc (.cells #[.int .i64 0, .slice none 0 0, .slice none 0 0] 27))
                have h0G1b_29 := hid (h0G1b_13.out.alloc (.cells #[.int .i64 0, .slice none 0 0, .slice none 0 0] 27))
                refine hh_mid 4 rfl (by decide) (by kernel_rfl) (fun K hK => ?_)
                (refine mid_call ?_ ?_ (by rfl) ?_ ?_; rotate_left 2; (focus (go_simp; first | done | rfl | (refine And.intro ?_ ?_ <;> rfl))))
                refine (impl_ComposeTableaus _ _ _ _ A0 _ _ _ B0 _ _ _ _ A1 _ _ _ B1 _ h0G0a_26.out h0G0b_27.out h0G1a_28.out h0G1b_29.out HR.out).mono ?_
                rintro e h0V_30 ⟨rp, rn, rc, rq, rm, rd, rfl, h0hN_31⟩
                refine ⟨_, rfl, ?_⟩
                have h0hB_32 := hid (h0hB_24.out.trans (h0hN_31.2.2.2.mono (show w16.heap.size ≤ (h0V_7.alloc (.cells #[.int .i64 0, .slice none 0 0, .slice none 0 0] 27)).heap.size from h0hB_24.out.size)))
                have h0HZ_33 := hid (bk_below h0HZ_25.out h0hN_31.2.2.2)
                have h0HE_34 := bk_lt h0HZ_25.out
                have h0G0a_35 := hid (h0G0a_26.out.below h0hN_31.2.2.2)
                have h0G0b_36 := hid (h0G0b_27.out.below h0hN_31.2.2.2)
                have h0G1a_37 := hid (h0G1a_28.out.below h0hN_31.2.2.2)
                have h0G1b_38 := hid (h0G1b_29.out.below h0hN_31.2.2.2)
                have h0HL_39 := hid h0hN_31
                clear h0hN_31
                (go_simp; refine hK.out _ _ ?_ ?_ <;> clear hK K)
                · exact h0hB_32.out
                (refine hh_take 5 HG rfl (by decide) (by kernel_rfl) (by kernel_rfl) h0hB_32.out (fun K hK => ?_); refine take_val ?_ (by rfl) ?_ ?_; rotate_left 1; (focus (intro wc hC; skip; go_simp; try rfl)); go_simp; refine hK.out _ ?_; clear hK K)
                (refine hh_take 6 HG rfl (by decide) (by kernel_rfl) (by kernel_rfl) h0hB_32.out (fun K hK => ?_); refine take_val ?_ (by rfl) ?_ ?_; rotate_left 1; (focus (intro wc hC; skip; go_simp; try rfl)); go_simp; refine hK.out _ ?_; clear hK K)
                (refine hh_take 7 HG rfl (by decide) (by kernel_rfl) (by kernel_rfl) h0hB_32.out (fun K hK => ?_); refine take_val ?_ (by rfl) ?_ ?_; rotate_left 1; (focus (intro wc hC; skip; go_simp; try rfl)); go_simp; refine hK.out _ ?_; clear hK K)
                obtain ⟨⟨z0, z1, z2⟩, z3, z4, z5⟩ := blk3 h0HZ_33.out
                refine hh_mid 9 rfl (by decide) (by kernel_rfl) (fun K hK => ?_)
                (go_simp; refine hK.out _ _ ?_ ?_ <;> clear hK K)
                · exact ((h0hB_32.out.setCell (show w16.heap.size ≤ h0V_7.heap.size from h0hB_9.out.size) _).setCell (show w16.heap.size ≤ h0V_7.heap.size from h0hB_9.out.size) _).setCell (show w16.heap.size ≤ h0V_7.heap.size from h0hB_9.out.size) _
                refine hh_done (by kernel_rfl) ?_
                simp only [List.drop_succ_cons, List.drop_zero]
                change wpList _ _ _ _ _ _
                go_wp2_with fail
                go_meet
                exact ⟨_, _, _, _, _, _, _, rfl, rfl, NTb.early h0HZ_33.out (show w16.heap.size ≤ h0V_7.heap.size from h0hB_9.out.size) h0HE_34 h0HL_39.out h0hB_24.out⟩
            · skip
              (refine mid_val ?_ ?_ (by rfl) ?_ ?_; rotate_left 2; (focus (go_simp; first | done | rfl | (refine And.intro ?_ ?_ <;> rfl))); go_simp; refine hK.out _ _ ?_ ?_ <;> clear hK K)
              · exact (h0hB_4.out.alloc h0hB_4.out.size _)
              have h0hB_40 := hid (show Below w16.heap.size w16 (h0V_2.alloc (.cells #[.int .i64 0, .slice none 0 0, .slice none 0 0] 27)) from h0hB_4.out.alloc h0hB_4.out.size _)
              have h0HZ_41 := hid (show (h0V_2.alloc (.cells #[.int .i64 0, .slice none 0 0, .slice none 0 0] 27)).heap[h0V_2.heap.size]? = some (.cells #[.int .i64 0, .slice none 0 0, .slice none 0 0] 27 (0, 0)) from bk_new h0V_2 #[.int .i64 0, .slice none 0 0, .slice none 0 0] 27)
              have h0G0a_42 := hid (h0G0a_5.out.alloc (.cells #[.int .i64 0, .slice none 0 0, .slice none 0 0] 27))
              have h0G0b_43 := hid (h0G0b_6.out.alloc (.cells #[.int .i64 0, .slice none 0 0, .slice none 0 0] 27))
              refine hh_mid 3 rfl (by decide) (by kernel_rfl) (fun K hK => ?_)
              (refine mid_call ?_ ?_ (by rfl) ?_ ?_; rotate_left 2; (focus (go_simp; first | done | rfl | (refine And.intro ?_ ?_ <;> rfl))))
              refine (law_toTableau _ _ _ _ A1 _ _ _ B1 _ (H1a.out.below (l_below L_272.out h0hB_40.out)) (H1b.out.below (l_below L_272.out h0hB_40.out)) (by omega)).mono ?_
              rintro e h0V_44 ⟨u1a, u1b, rfl, h0hN_45⟩
              refine ⟨_, rfl, ?_⟩
              have h0hB_46 := hid (h0hB_40.out.trans (h0hN_45.2.2.2.mono (show w16.heap.size ≤ (h0V_2.alloc (.cells #[.int .i64 0, .slice none 0 0, .slice none 0 0] 27)).heap.size from h0hB_40.out.size)))
              have h0HZ_47 := hid (bk_below h0HZ_41.out h0hN_45.2.2.2)
              have h0G0a_48 := hid (h0G0a_42.out.below h0hN_45.2.2.2)
              have h0G0b_49 := hid (h0G0b_43.out.below h0hN_45.2.2.2)
              have h0G1a_50 := hid (h0hN_45.1.rd)
              have h0G1b_51 := hid (h0hN_45.2.1.rd)
              clear h0hN_45
              (go_simp; refine hK.out _ _ ?_ ?_ <;> clear hK K)
              · exact h0hB_46.out
              refine hh_mid 4 rfl (by decide) (by kernel_rfl) (fun K hK => ?_)
              (refine mid_call ?_ ?_ (by rfl) ?_ ?_; rotate_left 2; (focus (go_simp; first | done | rfl | (refine And.intro ?_ ?_ <;> rfl))))
              refine (impl_ComposeTableaus _ _ _ _ A0 _ _ _ B0 _ _ _ _ A1 _ _ _ B1 _ h0G0a_48.out h0G0b_49.out h0G1a_50.out h0G1b_51.out HR.out).mono ?_
              rintro e h0V_52 ⟨rp, rn, rc, rq, rm, rd, rfl, h0hN_53⟩
              refine ⟨_, rfl, ?_⟩
              have h0hB_54 := hid (h0hB_46.out.trans (h0hN_53.2.2.2.mono (show w16.heap.size ≤ h0V_44.heap.size from h0hB_46.out.size)))
              have h0HZ_55 := hid (bk_below h0HZ_47.out h0hN_53.2.2.2)
              have h0HE_56 := bk_lt h0HZ_47.out
              have h0G0a_57 := hid (h0G0a_48.out.below h0hN_53.2.2.2)
              have h0G0b_58 := hid (h0G0b_49.out.below h0hN_53.2.2.2)
              have h0G1a_59 := hid (h0G1a_50.out.below h0hN_53.2.2.2)
              have h0G1b_60 := hid (h0G1b_51.out.below h0hN_53.2.2.2)
              have h0HL_61 := hid h0hN_53
              clear h0hN_53
              (go_simp; refine hK.out _ _ ?_ ?_ <;> clear hK K)
              · exact h0hB_54.out
              (refine hh_take 5 HG rfl (by decide) (by kernel_rfl) (by kernel_rfl) h0hB_54.out (fun K hK => ?_); refine take_val ?_ (by rfl) ?_ ?_; rotate_left 1; (focus (intro wc hC; skip; go_simp; try rfl)); go_simp; refine hK.out _ ?_; clear hK K)
              (refine hh_take 6 HG rfl (by decide) (by kernel_rfl) (by kernel_rfl) h0hB_54.out (fun K hK => ?_); refine take_val ?_ (by rfl) ?_ ?_; rotate_left 1; (focus (intro wc hC; skip; go_simp; try rfl)); go_simp; refine hK.out _ ?_; clear hK K)
              (refine hh_take 7 HG rfl (by decide) (by kernel_rfl) (by kernel_rfl) h0hB_54.out (fun K hK => ?_); refine take_val ?_ (by rfl) ?_ ?_; rotate_left 1; (focus (intro wc hC; skip; go_simp; try rfl)); go_simp; refine hK.out _ ?_; clear hK K)
              obtain ⟨⟨z0, z1, z2⟩, z3, z4, z5⟩ := blk3 h0HZ_55.out
              refine hh_mid 9 rfl (by decide) (by kernel_rfl) (fun K hK => ?_)
              (go_simp; refine hK.out _ _ ?_ ?_ <;> clear hK K)
              · exact ((h0hB_54.out.setCell (show w16.heap.size ≤ h0V_2.heap.size from h0hB_4.out.size) _).setCell (show w16.heap.size ≤ h0V_2.heap.size from h0hB_4.out.size) _).setCell (show w16.heap.size ≤ h0V_2.heap.size from h0hB_4.out.size) _
              refine hh_done (by kernel_rfl) ?_
              simp only [List.drop_succ_cons, List.drop_zero]
              change wpList _ _ _ _ _ _
              go_wp2_with fail
              go_meet
              exact ⟨_, _, _, _, _, _, _, rfl, rfl, NTb.early h0HZ_55.out (show w16.heap.size ≤ h0V_2.heap.size from h0hB_4.out.size) h0HE_56 h0HL_61.out h0hB_46.out⟩
          · skip
            (refine mid_val ?_ ?_ (by rfl) ?_ ?_; rotate_left 2; (focus (go_simp; first | done | rfl | (refine And.intro ?_ ?_ <;> rfl))); go_simp; refine hK.out _ _ ?_ ?_ <;> clear hK K)
            · exact (h0hB_1.out.alloc h0hB_1.out.size _)
            have h0hB_62 := hid (show Below w16.heap.size w16 (w16.drew.alloc (.cells #[.int .i64 0, .slice none 0 0, .slice none 0 0] 27)) from h0hB_1.out.alloc h0hB_1.out.size _)
            have h0HZ_63 := hid (show (w16.drew.alloc (.cells #[.int .i64 0, .slice none 0 0, .slice none 0 0] 27)).heap[w16.heap.size]? = some (.cells #[.int .i64 0, .slice none 0 0, .slice none 0 0] 27 (0, 0)) from bk_new w16.drew #[.int .i64 0, .slice none 0 0, .slice none 0 0] 27)
            refine hh_mid 1 rfl (by decide) (by kernel_rfl) (fun K hK => ?_)
            (refine mid_call ?_ ?_ (by rfl) ?_ ?_; rotate_left 2; (focus (go_simp; first | done | rfl | (refine And.intro ?_ ?_ <;> rfl))))
            refine (law_toTableau _ _ _ _ A0 _ _ _ B0 _ (H0a.out.below (l_below L_272.out h0hB_62.out)) (H0b.out.below (l_below L_272.out h0hB_62.out)) (by omega)).mono ?_
            rintro e h0V_64 ⟨u0a, u0b, rfl, h0hN_65⟩
            refine ⟨_, rfl, ?_⟩
            have h0hB_66 := hid (h0hB_62.out.trans (h0hN_65.2.2.2.mono (show w16.heap.size ≤ (w16.drew.alloc (.cells #[.int .i64 0, .slice none 0 0, .slice none 0 0] 27)).heap.size from h0hB_62.out.size)))
            have h0HZ_67 := hid (bk_below h0HZ_63.out h0hN_65.2.2.2)
            have h0G0a_68 := hid (h0hN_65.1.rd)
            have h0G0b_69 := hid (h0hN_65.2.1.rd)
            clear h0hN_65
            (go_simp; refine hK.out _ _ ?_ ?_ <;> clear hK K)
            · exact h0hB_66.out
            refine hh_mid 3 rfl (by decide) (by kernel_rfl) (fun K hK => ?_)
            (refine mid_call ?_ ?_ (by rfl) ?_ ?_; rotate_left 2; (focus (go_simp; first | done | rfl | (refine And.intro ?_ ?_ <;> rfl))))
            refine (law_toTableau _ _ _ _ A1 _ _ _ B1 _ (H1a.out.below (l_below L_272.out h0hB_66.out)) (H1b.out.below (l_below L_272.out h0hB_66.out)) (by omega)).mono ?_
            rintro e h0V_70 ⟨u1a, u1b, rfl, h0hN_71⟩
            refine ⟨_, rfl, ?_⟩
            have h0hB_72 := hid (h0hB_66.out.trans (h0hN_71.2.2.2.mono (show w16.heap.size ≤ h0V_64.heap.size from h0hB_66.out.size)))
            have h0HZ_73 := hid (bk_below h0HZ_67.out h0hN_71.2.2.2)
            have h0G0a_74 := hid (h0G0a_68.out.below h0hN_71.2.2.2)
            have h0G0b_75 := hid (h0G0b_69.out.below h0hN_71.2.2.2)
            have h0G1a_76 := hid (h0hN_71.1.rd)
            have h0G1b_77 := hid (h0hN_71.2.1.rd)
            clear h0hN_71
            (go_simp; refine hK.out _ _ ?_ ?_ <;> clear hK K)
            · exact h0hB_72.out
            refine hh_mid 4 rfl (by decide) (by kernel_rfl) (fun K hK => ?_)
            (refine mid_call ?_ ?_ (by rfl) ?_ ?_; rotate_left 2; (focus (go_simp; first | done | rfl | (refine And.intro ?_ ?_ <;> rfl))))
            refine (impl_ComposeTableaus _ _ _ _ A0 _ _ _ B0 _ _ _ _ A1 _ _ _ B1 _ h0G0a_74.out h0G0b_75.out h0G1a_76.out h0G1b_77.out HR.out).mono ?_
            rintro e h0V_78 ⟨rp, rn, rc, rq, rm, rd, rfl, h0hN_79⟩
            refine ⟨_, rfl, ?_⟩
            have h0hB_80 := hid (h0hB_72.out.trans (h0hN_79.2.2.2.mono (show w16.heap.size ≤ h0V_70.heap.size from h0hB_72.out.size)))
            have h0HZ_81 := hid (bk_below h0HZ_73.out h0hN_79.2.2.2)
            have h0HE_82 := bk_lt h0HZ_73.out
            have h0G0a_83 := hid (h0G0a_74.out.below h0hN_79.2.2.2)
            have h0G0b_84 := hid (h0G0b_75.out.below h0hN_79.2.2.2)
            have h0G1a_85 := hid (h0G1a_76.out.below h0hN_79.2.2.2)
            have h0G1b_86 := hid (h0G1b_77.out.below h0hN_79.2.2.2)
            have h0HL_87 := hid h0hN_79
            clear h0hN_79
            (go_simp; refine hK.out _ _ ?_ ?_ <;> clear hK K)
            · exact h0hB_80.out
            (refine hh_take 5 HG rfl (by decide) (by kernel_rfl) (by kernel_rfl) h0hB_80.out (fun K hK => ?_); refine take_val ?_ (by rfl) ?_ ?_; rotate_left 1; (focus (intro wc hC; skip; go_simp; try rfl)); go_simp; refine hK.out _ ?_; clear hK K)
            (refine hh_take 6 HG rfl (by decide) (by kernel_rfl) (by kernel_rfl) h0hB_80.out (fun K hK => ?_); refine take_val ?_ (by rfl) ?_ ?_; rotate_left 1; (focus (intro wc hC; skip; go_simp; try rfl)); go_simp; refine hK.out _ ?_; clear hK K)
            (refine hh_take 7 HG rfl (by decide) (by kernel_rfl) (by kernel_rfl) h0hB_80.out (fun K hK => ?_); refine take_val ?_ (by rfl) ?_ ?_; rotate_left 1; (focus (intro wc hC; skip; go_simp; try rfl)); go_simp; refine hK.out _ ?_; clear hK K)
            obtain ⟨⟨z0, z1, z2⟩, z3, z4, z5⟩ := blk3 h0HZ_81.out
            refine hh_mid 9 rfl (by decide) (by kernel_rfl) (fun K hK => ?_)
            (go_simp; refine hK.out _ _ ?_ ?_ <;> clear hK K)
            · exact ((h0hB_80.out.setCell (show w16.heap.size ≤ w16.heap.size from h0hB_1.out.size) _).setCell (show w16.heap.size ≤ w16.heap.size from h0hB_1.out.size) _).setCell (show w16.heap.size ≤ w16.heap.size from h0hB_1.out.size) _
            refine hh_done (by kernel_rfl) ?_
            simp only [List.drop_succ_cons, List.drop_zero]
            change wpList _ _ _ _ _ _
            go_wp2_with fail
            go_meet
            exact ⟨_, _, _, _, _, _, _, rfl, rfl, NTb.early h0HZ_81.out (show w16.heap.size ≤ w16.heap.size from h0hB_1.out.size) h0HE_82 h0HL_87.out h0hB_72.out⟩
        case rest =>
          obtain ⟨w17, rfl⟩ : ∃ w17 : World, w17 = wc := ⟨_, rfl⟩
          obtain ⟨h0k, h0p, h0n, h0c, h0q, h0m, h0d, rfl, rfl, hN⟩ := hcut
          have y17 := hN.nt.2.2.2.size
          try simp only [World.size_alloc] at y17
          have HN := hid hN
          clear hN KP
          have L_281 := hid (l_below L_272.out HN.out.nt.2.2.2)
          have Bbox0_282 := hid (bk_below Bbox0_273.out HN.out.nt.2.2.2)
          have Bbox1_283 := hid (bk_below Bbox1_274.out HN.out.nt.2.2.2)
          have Ov0a_284 := hid (Ov0a_275.out.below HN.out.nt.2.2.2)
          have Ov0b_285 := hid (Ov0b_276.out.below HN.out.nt.2.2.2)
          have Bv0_286 := hid (bk_below Bv0_277.out HN.out.nt.2.2.2)
          have Bg0_287 := hid (bk_below Bg0_278.out HN.out.nt.2.2.2)
          have Og0a_288 := hid (Og0a_279.out.below HN.out.nt.2.2.2)
          have Og0b_289 := hid (Og0b_280.out.below HN.out.nt.2.2.2)
          clear L_272 Bbox0_273 Bbox1_274 Ov0a_275 Ov0b_276 Bv0_277 Bg0_278 Og0a_279 Og0b_280
          have Oh0a_290 := hid (Ob.mk' HN.out.nt.1)
          have Oh0b_291 := hid (Ob.mk' HN.out.nt.2.1)
          have Bh0_292 := hid HN.out.bk
          have y18 := bk_lt Bh0_292.out
          have y19 := HN.out.lo
          have hnh0 : h0n ≤ 1000 := by rw [← HN.out.nt.1.rd.len]; exact hlA
          have hmh0 : h0m ≤ 1000 := by rw [← HN.out.nt.2.1.rd.len]; exact hlB
          clear HN
          obtain ⟨⟨q00, q01, q02⟩, _⟩ := blk3 Bh0_292.out
          obtain ⟨⟨q10, q11, q12⟩, _⟩ := blk3 Bv0_286.out
          go_wp2_with fail
          refine (law_eqTableau_true _ _ _ _ _ _ _ _ _ _ _ _ _ rA rB _ Oh0a_290.out.fr.rd Oh0b_291.out.fr.rd Ov0a_284.out.fr.rd Ov0b_285.out.fr.rd).mono ?_
          rintro e w18 ⟨rfl, hB⟩
          have y20 := hB.size
          try simp only [World.size_alloc] at y20
          have HB := hid hB
          clear hB
          have L_293 := hid (l_below L_281.out HB.out)
          have Bbox0_294 := hid (bk_below Bbox0_282.out HB.out)
          have Bbox1_295 := hid (bk_below Bbox1_283.out HB.out)
          have Ov0a_296 := hid (Ov0a_284.out.below HB.out)
          have Ov0b_297 := hid (Ov0b_285.out.below HB.out)
          have Bv0_298 := hid (bk_below Bv0_286.out HB.out)
          have Bg0_299 := hid (bk_below Bg0_287.out HB.out)
          have Og0a_300 := hid (Og0a_288.out.below HB.out)
          have Og0b_301 := hid (Og0b_289.out.below HB.out)
          have Oh0a_302 := hid (Oh0a_290.out.below HB.out)
          have Oh0b_303 := hid (Oh0b_291.out.below HB.out)
          have Bh0_304 := hid (bk_below Bh0_292.out HB.out)
          clear L_281 Bbox0_282 Bbox1_283 Ov0a_284 Ov0b_285 Bv0_286 Bg0_287 Og0a_288 Og0b_289 Oh0a_290 Oh0b_291 Bh0_292
          clear HB
          clear q00 q01 q02 q10 q11 q12
          obtain ⟨⟨q00, q01, q02⟩, _⟩ := blk3 Bg0_299.out
          go_wp2_with fail
          refine (law_heldTableau _ _ _ _ _ _ _ 1 _ Og0a_300.out.fr.rd Og0b_301.out.fr.rd (by omega) (by omega) (by omega) (by omega)).mono ?_
          rintro e w19 ⟨rfl, hB⟩
          have y21 := hB.size
          try simp only [World.size_alloc] at y21
          have HB := hid hB
          clear hB
          have L_305 := hid (l_below L_293.out HB.out)
          have Bbox0_306 := hid (bk_below Bbox0_294.out HB.out)
          have Bbox1_307 := hid (bk_below Bbox1_295.out HB.out)
          have Ov0a_308 := hid (Ov0a_296.out.below HB.out)
          have Ov0b_309 := hid (Ov0b_297.out.below HB.out)
          have Bv0_310 := hid (bk_below Bv0_298.out HB.out)
          have Bg0_311 := hid (bk_below Bg0_299.out HB.out)
          have Og0a_312 := hid (Og0a_300.out.below HB.out)
          have Og0b_313 := hid (Og0b_301.out.below HB.out)
          have Oh0a_314 := hid (Oh0a_302.out.below HB.out)
          have Oh0b_315 := hid (Oh0b_303.out.below HB.out)
          have Bh0_316 := hid (bk_below Bh0_304.out HB.out)
          clear L_293 Bbox0_294 Bbox1_295 Ov0a_296 Ov0b_297 Bv0_298 Bg0_299 Og0a_300 Og0b_301 Oh0a_302 Oh0b_303 Bh0_304
          clear HB
          go_wp2_with fail
          go_ret
          exact ⟨rfl, L_305.out⟩
    · skip
      have L_417 := hid (Below.refl w.heap.size w)
      have L_418 := hid (l_alloc L_417.out (.cells #[.int .i64 s0, .slice a0 n0 c0, .slice b0 m0 d0] 24))
      clear L_417
      have Bbox0_419 := hid (bk_new w #[.int .i64 s0, .slice a0 n0 c0, .slice b0 m0 d0] 24)
      have L_420 := hid (l_alloc L_418.out (.cells #[.int .i64 s1, .slice a1 n1 c1, .slice b1 m1 d1] 24))
      have Bbox0_421 := hid (bk_alloc Bbox0_419.out (.cells #[.int .i64 s1, .slice a1 n1 c1, .slice b1 m1 d1] 24))
      clear L_418 Bbox0_419
      have Bbox1_422 := hid (heap_alloc_at (w.alloc (.cells #[.int .i64 s0, .slice a0 n0 c0, .slice b0 m0 d0] 24)) #[.int .i64 s1, .slice a1 n1 c1, .slice b1 m1 d1] 24 (w.heap.size + 1) (by simp))
      go_enter Try.func11, Try.ntmps11
      go_wp2_with fail
      refine (law_szTableau_yes _ _ _ _ _ _ _ _ _ (by omega) (by omega)).mono ?_
      rintro e w1 ⟨rfl, hB⟩
      have y22 := hB.size
      try simp only [World.size_alloc] at y22
      have HB := hid hB
      clear hB
      have L_423 := hid (l_below L_420.out HB.out)
      have Bbox0_424 := hid (bk_below Bbox0_421.out HB.out)
      have Bbox1_425 := hid (bk_below Bbox1_422.out HB.out)
      clear L_420 Bbox0_421 Bbox1_422
      clear HB
      obtain ⟨⟨q00, q01, q02⟩, _⟩ := blk3 Bbox0_424.out
      obtain ⟨⟨q10, q11, q12⟩, _⟩ := blk3 Bbox1_425.out
      go_wp2_with fail
      refine (law_szTableau_no _ _ _ _ _ _ _ _ _ (by omega) (by omega) (by omega) (by omega) (by omega)).mono ?_
      rintro e w2 ⟨rfl, hB⟩
      have y23 := hB.size
      try simp only [World.size_alloc] at y23
      have HB := hid hB
      clear hB
      have L_426 := hid (l_below L_423.out HB.out)
      have Bbox0_427 := hid (bk_below Bbox0_424.out HB.out)
      have Bbox1_428 := hid (bk_below Bbox1_425.out HB.out)
      clear L_423 Bbox0_424 Bbox1_425
      clear HB
      obtain ⟨⟨q00, q01, q02⟩, _⟩ := blk3 Bbox0_427.out
      obtain ⟨⟨q10, q11, q12⟩, _⟩ := blk3 Bbox1_428.out
      go_wp2_with fail
      go_ret
      exact ⟨rfl, L_426.out⟩
  · skip
    have L_529 := hid (Below.refl w.heap.size w)
    have L_530 := hid (l_alloc L_529.out (.cells #[.int .i64 s0, .slice a0 n0 c0, .slice b0 m0 d0] 24))
    clear L_529
    have Bbox0_531 := hid (bk_new w #[.int .i64 s0, .slice a0 n0 c0, .slice b0 m0 d0] 24)
    have L_532 := hid (l_alloc L_530.out (.cells #[.int .i64 s1, .slice a1 n1 c1, .slice b1 m1 d1] 24))
    have Bbox0_533 := hid (bk_alloc Bbox0_531.out (.cells #[.int .i64 s1, .slice a1 n1 c1, .slice b1 m1 d1] 24))
    clear L_530 Bbox0_531
    have Bbox1_534 := hid (heap_alloc_at (w.alloc (.cells #[.int .i64 s0, .slice a0 n0 c0, .slice b0 m0 d0] 24)) #[.int .i64 s1, .slice a1 n1 c1, .slice b1 m1 d1] 24 (w.heap.size + 1) (by simp))
    go_enter Try.func11, Try.ntmps11
    go_wp2_with fail
    refine (law_szTableau_no _ _ _ _ _ _ _ _ _ (by omega) (by omega) (by omega) (by omega) (by omega)).mono ?_
    rintro e w1 ⟨rfl, hB⟩
    have y24 := hB.size
    try simp only [World.size_alloc] at y24
    have HB := hid hB
    clear hB
    have L_535 := hid (l_below L_532.out HB.out)
    have Bbox0_536 := hid (bk_below Bbox0_533.out HB.out)
    have Bbox1_537 := hid (bk_below Bbox1_534.out HB.out)
    clear L_532 Bbox0_533 Bbox1_534
    clear HB
    obtain ⟨⟨q00, q01, q02⟩, _⟩ := blk3 Bbox0_536.out
    obtain ⟨⟨q10, q11, q12⟩, _⟩ := blk3 Bbox1_537.out
    go_wp2_with fail
    go_ret
    exact ⟨rfl, L_535.out⟩
end Go.Proofs.Ytekojohhjnklkaa
