/- FnExactAddSeries: the walk of the law. -/
import Derived.Test.YtgbjoaheidgafaaDoorAddI
import Derived.Test.YtgbjoaheidgafaaDoorAddS
import Derived.Test.YtgbjoaheidgafaaDoorHold2
import Derived.Test.YtgbjoaheidgafaaDoorOb
namespace Go.Proofs.YtgbjoaheidgafaaDoor
open Go.RowKit

set_option maxRecDepth 20000 in
set_option maxHeartbeats 2000000 in
theorem walk_AddSeries {w : World} (o0 : Int) (z0 : Int) (a0 : Option Addr) (n0 c0 : Nat) (A0 : List Int) (g0a : Rd w a0 n0 c0 A0) (_ho0 : I64 o0) (_hz0 : I64 z0) (o1 : Int) (z1 : Int) (a1 : Option Addr) (n1 c1 : Nat) (A1 : List Int) (g1a : Rd w a1 n1 c1 A1) (_ho1 : I64 o1) (_hz1 : I64 z1) (hT : Tc w) :
    Calls Tryd.prog 4 #[.agg #[.int .i64 o0, .int .i64 z0, .slice a0 n0 c0], .agg #[.int .i64 o1, .int .i64 z1, .slice a1 n1 c1]] w fun e w' => e = .returned (.bool true) ∧ Below w.heap.size w w' := by
  have z0a : n0 ≤ 9223372036854775807 := Nat.le_trans g0a.cap g0a.max
  have H0a := hid g0a
  clear g0a
  have z1a : n1 ≤ 9223372036854775807 := Nat.le_trans g1a.cap g1a.max
  have H1a := hid g1a
  clear g1a
  have HT := hid hT
  clear hT
  obtain ⟨ro, rz, rA, rb, HR⟩ : ∃ ro rz rA rb, Hid (addV o0 z0 A0 o1 z1 A1 = ⟨ro, rz, rA, rb⟩) := ⟨_, _, _, _, rfl⟩
  have hlA : rA.length ≤ 1000 := by have h := addV_len o0 z0 A0 o1 z1 A1; rw [HR.out] at h; first | exact h | (simp only at h; omega)
  by_cases hs0 : n0 ≤ 1048576
  · skip
    by_cases hs1 : n0 + n1 ≤ 1048576
    · skip
      have L_101 := hid (Below.refl w.heap.size w)
      have L_102 := hid (l_alloc L_101.out (.cells #[.int .i64 o0, .int .i64 z0, .slice a0 n0 c0] 29))
      clear L_101
      have Bbox0_103 := hid (bk_new w #[.int .i64 o0, .int .i64 z0, .slice a0 n0 c0] 29)
      have L_104 := hid (l_alloc L_102.out (.cells #[.int .i64 o1, .int .i64 z1, .slice a1 n1 c1] 29))
      have Bbox0_105 := hid (bk_alloc Bbox0_103.out (.cells #[.int .i64 o1, .int .i64 z1, .slice a1 n1 c1] 29))
      clear L_102 Bbox0_103
      have Bbox1_106 := hid (heap_alloc_at (w.alloc (.cells #[.int .i64 o0, .int .i64 z0, .slice a0 n0 c0] 29)) #[.int .i64 o1, .int .i64 z1, .slice a1 n1 c1] 29 (w.heap.size + 1) (by simp))
      go_enter Tryd.func4, Tryd.ntmps4
      go_wp2_with fail
      refine (law_szSeries_yes _ _ _ _ _ _ _ (by omega) (by omega)).mono ?_
      rintro e w1 ⟨rfl, hB⟩
      have y1 := hB.size
      try simp only [World.size_alloc] at y1
      have HB := hid hB
      clear hB
      have L_107 := hid (l_below L_104.out HB.out)
      have Bbox0_108 := hid (bk_below Bbox0_105.out HB.out)
      have Bbox1_109 := hid (bk_below Bbox1_106.out HB.out)
      clear L_104 Bbox0_105 Bbox1_106
      clear HB
      obtain ⟨⟨q00, q01, q02⟩, _⟩ := blk3 Bbox0_108.out
      obtain ⟨⟨q10, q11, q12⟩, _⟩ := blk3 Bbox1_109.out
      go_wp2_with fail
      refine (law_szSeries_yes _ _ _ _ _ _ _ (by omega) (by omega)).mono ?_
      rintro e w2 ⟨rfl, hB⟩
      have y2 := hB.size
      try simp only [World.size_alloc] at y2
      have HB := hid hB
      clear hB
      have L_110 := hid (l_below L_107.out HB.out)
      have Bbox0_111 := hid (bk_below Bbox0_108.out HB.out)
      have Bbox1_112 := hid (bk_below Bbox1_109.out HB.out)
      clear L_107 Bbox0_108 Bbox1_109
      clear HB
      clear q00 q01 q02 q10 q11 q12
      obtain ⟨⟨q00, q01, q02⟩, _⟩ := blk3 Bbox0_111.out
      obtain ⟨⟨q10, q11, q12⟩, _⟩ := blk3 Bbox1_112.out
      go_wp2_with fail
      have KP := hid (keep6 Bbox0_111.out Bbox1_112.out)
      clear q00 q01 q02 q10 q11 q12
      go_cut [6, 7] from 8 (fun sa sb wc => ∃ (b : Nat) (p : Option Addr) (n c : Nat), sa = .pointer (some ⟨b, 0, none⟩) ∧ sb = .bool rb ∧ NSb w2 wc ro rz rA b p n c)
      case first =>
        have v0hB_1 := hid (show Below w2.heap.size w2 w2.drew from (Below.refl _ _).drew)
        refine (fun (HG : Rg _ _ 10) => wp_region_hh (S := fun w' => Below w2.heap.size w2 w') HG rfl ?_) ⟨by kernel_rfl, by decide, by kernel_rfl, by kernel_rfl, fun _ _ d _ _ h => by cases d <;> exact h⟩
        (refine hh_take 0 HG rfl (by decide) (by kernel_rfl) (by kernel_rfl) v0hB_1.out (fun K hK => ?_); refine take_val ?_ (by rfl) ?_ ?_; rotate_left 1; (focus (intro wc hC; obtain ⟨u0, u1, u2, u3, u4, u5⟩ := KP.out wc hC; go_simp; try rfl)); go_simp; refine hK.out _ ?_; clear hK K)
        (refine hh_take 2 HG rfl (by decide) (by kernel_rfl) (by kernel_rfl) v0hB_1.out (fun K hK => ?_); refine take_val ?_ (by rfl) ?_ ?_; rotate_left 1; (focus (intro wc hC; obtain ⟨u0, u1, u2, u3, u4, u5⟩ := KP.out wc hC; go_simp; try rfl)); go_simp; refine hK.out _ ?_; clear hK K)
        refine hh_two 1 8 rfl rfl (by decide) (by decide) (by kernel_rfl) (fun K hK => ?_) (fun K hK => ?_)
        · skip
          (refine mid_call ?_ ?_ (by rfl) ?_ ?_; rotate_left 2; (focus (go_simp; first | done | rfl | (refine And.intro ?_ ?_ <;> rfl))))
          refine (law_toSeries _ _ _ _ _ A0 _ (H0a.out.below (l_below L_110.out v0hB_1.out)) (by omega)).mono ?_
          rintro e v0V_2 ⟨u0a, rfl, v0hN_3⟩
          refine ⟨_, rfl, ?_⟩
          have v0hB_4 := hid (v0hB_1.out.trans (v0hN_3.2.2.2.mono (show w2.heap.size ≤ w2.drew.heap.size from v0hB_1.out.size)))
          have v0G0a_5 := hid (v0hN_3.1.rd)
          clear v0hN_3
          (go_simp; refine hK.out _ _ ?_ ?_ <;> clear hK K)
          · exact v0hB_4.out
          refine hh_two 3 8 rfl rfl (by decide) (by decide) (by kernel_rfl) (fun K hK => ?_) (fun K hK => ?_)
          · skip
            (refine mid_call ?_ ?_ (by rfl) ?_ ?_; rotate_left 2; (focus (go_simp; first | done | rfl | (refine And.intro ?_ ?_ <;> rfl))))
            refine (law_toSeries _ _ _ _ _ A1 _ (H1a.out.below (l_below L_110.out v0hB_4.out)) (by omega)).mono ?_
            rintro e v0V_6 ⟨u1a, rfl, v0hN_7⟩
            refine ⟨_, rfl, ?_⟩
            have v0hB_8 := hid (v0hB_4.out.trans (v0hN_7.2.2.2.mono (show w2.heap.size ≤ v0V_2.heap.size from v0hB_4.out.size)))
            have v0G0a_9 := hid (v0G0a_5.out.below v0hN_7.2.2.2)
            have v0G1a_10 := hid (v0hN_7.1.rd)
            clear v0hN_7
            (go_simp; refine hK.out _ _ ?_ ?_ <;> clear hK K)
            · exact v0hB_8.out
            refine hh_two 4 8 rfl rfl (by decide) (by decide) (by kernel_rfl) (fun K hK => ?_) (fun K hK => ?_)
            · skip
              (refine mid_call ?_ ?_ (by rfl) ?_ ?_; rotate_left 2; (focus (go_simp; first | done | rfl | (refine And.intro ?_ ?_ <;> rfl))))
              refine (spec_AddSeries _ _ _ _ _ A0 _ _ _ _ _ A1 _ v0G0a_9.out v0G1a_10.out (HT.out.below (l_below L_110.out v0hB_8.out)) HR.out).mono ?_
              rintro e v0V_11 ⟨rp', rn', rc', rfl, v0hN_12⟩
              refine ⟨_, rfl, ?_⟩
              have v0hB_13 := hid (v0hB_8.out.trans (v0hN_12.2.2.2.mono (show w2.heap.size ≤ v0V_6.heap.size from v0hB_8.out.size)))
              have v0G0a_14 := hid (v0G0a_9.out.below v0hN_12.2.2.2)
              have v0G1a_15 := hid (v0G1a_10.out.below v0hN_12.2.2.2)
              have v0HL_16 := hid v0hN_12
              clear v0hN_12
              (go_simp; refine hK.out _ _ ?_ ?_ <;> clear hK K)
              · exact v0hB_13.out
              (refine hh_take 5 HG rfl (by decide) (by kernel_rfl) (by kernel_rfl) v0hB_13.out (fun K hK => ?_); refine take_val ?_ (by rfl) ?_ ?_; rotate_left 1; (focus (intro wc hC; skip; go_simp; try rfl)); go_simp; refine hK.out _ ?_; clear hK K)
              (refine hh_take 6 HG rfl (by decide) (by kernel_rfl) (by kernel_rfl) v0hB_13.out (fun K hK => ?_); refine take_val ?_ (by rfl) ?_ ?_; rotate_left 1; (focus (intro wc hC; skip; go_simp; try rfl)); go_simp; refine hK.out _ ?_; clear hK K)
              (refine hh_take 7 HG rfl (by decide) (by kernel_rfl) (by kernel_rfl) v0hB_13.out (fun K hK => ?_); refine take_val ?_ (by rfl) ?_ ?_; rotate_left 1; (focus (intro wc hC; skip; go_simp; try rfl)); go_simp; refine hK.out _ ?_; clear hK K)
              refine hh_mid 8 rfl (by decide) (by kernel_rfl) (fun K hK => ?_)
              (refine mid_val ?_ ?_ (by rfl) ?_ ?_; rotate_left 2; (focus (go_simp; first | done | rfl | (refine And.intro ?_ ?_ <;> rfl))); go_simp; refine hK.out _ _ ?_ ?_ <;> clear hK K)
              · exact (v0hB_13.out.alloc v0hB_13.out.size _)
              have v0hB_17 := hid (show Below w2.heap.size w2 (v0V_11.alloc (.cells #[.int .i64 0, .int .i64 0, .slice none 0 0] 24)) from v0hB_13.out.alloc v0hB_13.out.size _)
              have v0HZ_18 := hid (show (v0V_11.alloc (.cells #[.int .i64 0, .int .i64 0, .slice none 0 0] 24)).heap[v0V_11.heap.size]? = some (.cells #[.int .i64 0, .int .i64 0, .slice none 0 0] 24 (0, 0)) from bk_new v0V_11 #[.int .i64 0, .int .i64 0, .slice none 0 0] 24)
              obtain ⟨⟨z0, z1, z2⟩, z3, z4, z5⟩ := blk3 v0HZ_18.out
              refine hh_mid 9 rfl (by decide) (by kernel_rfl) (fun K hK => ?_)
              (go_simp; refine hK.out _ _ ?_ ?_ <;> clear hK K)
              · exact v0hB_13.out.alloc v0hB_13.out.size _
              refine hh_done (by kernel_rfl) ?_
              simp only [List.drop_succ_cons, List.drop_zero]
              change wpList _ _ _ _ _ _
              go_wp2_with fail
              go_meet
              exact ⟨_, _, _, _, rfl, rfl, NSb.late v0HL_16.out v0hB_8.out⟩
            · skip
              (refine mid_val ?_ ?_ (by rfl) ?_ ?_; rotate_left 2; (focus (go_simp; first | done | rfl | (refine And.intro ?_ ?_ <;> rfl))); go_simp; refine hK.out _ _ ?_ ?_ <;> clear hK K)
              · exact (v0hB_8.out.alloc v0hB_8.out.size _)
              have v0hB_19 := hid (show Below w2.heap.size w2 (v0V_6.alloc (.cells #[.int .i64 0, .int .i64 0, .slice none 0 0] 24)) from v0hB_8.out.alloc v0hB_8.out.size _)
              have v0HZ_20 := hid (show (v0V_6.alloc (.cells #[.int .i64 0, .int .i64 0, .slice none 0 0] 24)).heap[v0V_6.heap.size]? = some (.cells #[.int .i64 0, .int .i64 0, .slice none 0 0] 24 (0, 0)) from bk_new v0V_6 #[.int .i64 0, .int .i64 0, .slice none 0 0] 24)
              have v0G0a_21 := hid (v0G0a_9.out.alloc (.cells #[.int .i64 0, .int .i64 0, .slice none 0 0] 24))
              have v0G1a_22 := hid (v0G1a_10.out.alloc (.cells #[.int .i64 0, .int .i64 0, .slice none 0 0] 24))
              refine hh_mid 4 rfl (by decide) (by kernel_rfl) (fun K hK => ?_)
              (refine mid_call ?_ ?_ (by rfl) ?_ ?_; rotate_left 2; (focus (go_simp; first | done | rfl | (refine And.intro ?_ ?_ <;> rfl))))
              refine (spec_AddSeries _ _ _ _ _ A0 _ _ _ _ _ A1 _ v0G0a_21.out v0G1a_22.out (HT.out.below (l_below L_110.out v0hB_19.out)) HR.out).mono ?_
              rintro e v0V_23 ⟨rp', rn', rc', rfl, v0hN_24⟩
              refine ⟨_, rfl, ?_⟩
              have v0hB_25 := hid (v0hB_19.out.trans (v0hN_24.2.2.2.mono (show w2.heap.size ≤ (v0V_6.alloc (.cells #[.int .i64 0, .int .i64 0, .slice none 0 0] 24)).heap.size from v0hB_19.out.size)))
              have v0HZ_26 := hid (bk_below v0HZ_20.out v0hN_24.2.2.2)
              have v0HE_27 := bk_lt v0HZ_20.out
              have v0G0a_28 := hid (v0G0a_21.out.below v0hN_24.2.2.2)
              have v0G1a_29 := hid (v0G1a_22.out.below v0hN_24.2.2.2)
              have v0HL_30 := hid v0hN_24
              clear v0hN_24
              (go_simp; refine hK.out _ _ ?_ ?_ <;> clear hK K)
              · exact v0hB_25.out
              (refine hh_take 5 HG rfl (by decide) (by kernel_rfl) (by kernel_rfl) v0hB_25.out (fun K hK => ?_); refine take_val ?_ (by rfl) ?_ ?_; rotate_left 1; (focus (intro wc hC; skip; go_simp; try rfl)); go_simp; refine hK.out _ ?_; clear hK K)
              (refine hh_take 6 HG rfl (by decide) (by kernel_rfl) (by kernel_rfl) v0hB_25.out (fun K hK => ?_); refine take_val ?_ (by rfl) ?_ ?_; rotate_left 1; (focus (intro wc hC; skip; go_simp; try rfl)); go_simp; refine hK.out _ ?_; clear hK K)
              (refine hh_take 7 HG rfl (by decide) (by kernel_rfl) (by kernel_rfl) v0hB_25.out (fun K hK => ?_); refine take_val ?_ (by rfl) ?_ ?_; rotate_left 1; (focus (intro wc hC; skip; go_simp; try rfl)); go_simp; refine hK.out _ ?_; clear hK K)
              obtain ⟨⟨z0, z1, z2⟩, z3, z4, z5⟩ := blk3 v0HZ_26.out
              refine hh_mid 9 rfl (by decide) (by kernel_rfl) (fun K hK => ?_)
              (go_simp; refine hK.out _ _ ?_ ?_ <;> clear hK K)
              · exact ((v0hB_25.out.setCell (show w2.heap.size ≤ v0V_6.heap.size from v0hB_8.out.size) _).setCell (show w2.heap.size ≤ v0V_6.heap.size from v0hB_8.out.size) _).setCell (show w2.heap.size ≤ v0V_6.heap.size from v0hB_8.out.size) _
              refine hh_done (by kernel_rfl) ?_
              simp only [List.drop_succ_cons, List.drop_zero]
              change wpList _ _ _ _ _ _
              go_wp2_with fail
              go_meet
              exact ⟨_, _, _, _, rfl, rfl, NSb.early v0HZ_26.out (show w2.heap.size ≤ v0V_6.heap.size from v0hB_8.out.size) v0HE_27 v0HL_30.out v0hB_19.out⟩
          · skip
            (refine mid_val ?_ ?_ (by rfl) ?_ ?_; rotate_left 2; (focus (go_simp; first | done | rfl | (refine And.intro ?_ ?_ <;> rfl))); go_simp; refine hK.out _ _ ?_ ?_ <;> clear hK K)
            · exact (v0hB_4.out.alloc v0hB_4.out.size _)
            have v0hB_31 := hid (show Below w2.heap.size w2 (v0V_2.alloc (.cells #[.int .i64 0, .int .i64 0, .slice none 0 0] 24)) from v0hB_4.out.alloc v0hB_4.out.size _)
            have v0HZ_32 := hid (show (v0V_2.alloc (.cells #[.int .i64 0, .int .i64 0, .slice none 0 0] 24)).heap[v0V_2.heap.size]? = some (.cells #[.int .i64 0, .int .i64 0, .slice none 0 0] 24 (0, 0)) from bk_new v0V_2 #[.int .i64 0, .int .i64 0, .slice none 0 0] 24)
            have v0G0a_33 := hid (v0G0a_5.out.alloc (.cells #[.int .i64 0, .int .i64 0, .slice none 0 0] 24))
            refine hh_mid 3 rfl (by decide) (by kernel_rfl) (fun K hK => ?_)
            (refine mid_call ?_ ?_ (by rfl) ?_ ?_; rotate_left 2; (focus (go_simp; first | done | rfl | (refine And.intro ?_ ?_ <;> rfl))))
            refine (law_toSeries _ _ _ _ _ A1 _ (H1a.out.below (l_below L_110.out v0hB_31.out)) (by omega)).mono ?_
            rintro e v0V_34 ⟨u1a, rfl, v0hN_35⟩
            refine ⟨_, rfl, ?_⟩
            have v0hB_36 := hid (v0hB_31.out.trans (v0hN_35.2.2.2.mono (show w2.heap.size ≤ (v0V_2.alloc (.cells #[.int .i64 0, .int .i64 0, .slice none 0 0] 24)).heap.size from v0hB_31.out.size)))
            have v0HZ_37 := hid (bk_below v0HZ_32.out v0hN_35.2.2.2)
            have v0G0a_38 := hid (v0G0a_33.out.below v0hN_35.2.2.2)
            have v0G1a_39 := hid (v0hN_35.1.rd)
            clear v0hN_35
            (go_simp; refine hK.out _ _ ?_ ?_ <;> clear hK K)
            · exact v0hB_36.out
            refine hh_mid 4 rfl (by decide) (by kernel_rfl) (fun K hK => ?_)
            (refine mid_call ?_ ?_ (by rfl) ?_ ?_; rotate_left 2; (focus (go_simp; first | done | rfl | (refine And.intro ?_ ?_ <;> rfl))))
            refine (spec_AddSeries _ _ _ _ _ A0 _ _ _ _ _ A1 _ v0G0a_38.out v0G1a_39.out (HT.out.below (l_below L_110.out v0hB_36.out)) HR.out).mono ?_
            rintro e v0V_40 ⟨rp', rn', rc', rfl, v0hN_41⟩
            refine ⟨_, rfl, ?_⟩
            have v0hB_42 := hid (v0hB_36.out.trans (v0hN_41.2.2.2.mono (show w2.heap.size ≤ v0V_34.heap.size from v0hB_36.out.size)))
            have v0HZ_43 := hid (bk_below v0HZ_37.out v0hN_41.2.2.2)
            have v0HE_44 := bk_lt v0HZ_37.out
            have v0G0a_45 := hid (v0G0a_38.out.below v0hN_41.2.2.2)
            have v0G1a_46 := hid (v0G1a_39.out.below v0hN_41.2.2.2)
            have v0HL_47 := hid v0hN_41
            clear v0hN_41
            (go_simp; refine hK.out _ _ ?_ ?_ <;> clear hK K)
            · exact v0hB_42.out
            (refine hh_take 5 HG rfl (by decide) (by kernel_rfl) (by kernel_rfl) v0hB_42.out (fun K hK => ?_); refine take_val ?_ (by rfl) ?_ ?_; rotate_left 1; (focus (intro wc hC; skip; go_simp; try rfl)); go_simp; refine hK.out _ ?_; clear hK K)
            (refine hh_take 6 HG rfl (by decide) (by kernel_rfl) (by kernel_rfl) v0hB_42.out (fun K hK => ?_); refine take_val ?_ (by rfl) ?_ ?_; rotate_left 1; (focus (intro wc hC; skip; go_simp; try rfl)); go_simp; refine hK.out _ ?_; clear hK K)
            (refine hh_take 7 HG rfl (by decide) (by kernel_rfl) (by kernel_rfl) v0hB_42.out (fun K hK => ?_); refine take_val ?_ (by rfl) ?_ ?_; rotate_left 1; (focus (intro wc hC; skip; go_simp; try rfl)); go_simp; refine hK.out _ ?_; clear hK K)
            obtain ⟨⟨z0, z1, z2⟩, z3, z4, z5⟩ := blk3 v0HZ_43.out
            refine hh_mid 9 rfl (by decide) (by kernel_rfl) (fun K hK => ?_)
            (go_simp; refine hK.out _ _ ?_ ?_ <;> clear hK K)
            · exact ((v0hB_42.out.setCell (show w2.heap.size ≤ v0V_2.heap.size from v0hB_4.out.size) _).setCell (show w2.heap.size ≤ v0V_2.heap.size from v0hB_4.out.size) _).setCell (show w2.heap.size ≤ v0V_2.heap.size from v0hB_4.out.size) _
            refine hh_done (by kernel_rfl) ?_
            simp only [List.drop_succ_cons, List.drop_zero]
            change wpList _ _ _ _ _ _
            go_wp2_with fail
            go_meet
            exact ⟨_, _, _, _, rfl, rfl, NSb.early v0HZ_43.out (show w2.heap.size ≤ v0V_2.heap.size from v0hB_4.out.size) v0HE_44 v0HL_47.out v0hB_36.out⟩
        · skip
          (refine mid_val ?_ ?_ (by rfl) ?_ ?_; rotate_left 2; (focus (go_simp; first | done | rfl | (refine And.intro ?_ ?_ <;> rfl))); go_simp; refine hK.out _ _ ?_ ?_ <;> clear hK K)
          · exact (v0hB_1.out.alloc v0hB_1.out.size _)
          have v0hB_48 := hid (show Below w2.heap.size w2 (w2.drew.alloc (.cells #[.int .i64 0, .int .i64 0, .slice none 0 0] 24)) from v0hB_1.out.alloc v0hB_1.out.size _)
          have v0HZ_49 := hid (show (w2.drew.alloc (.cells #[.int .i64 0, .int .i64 0, .slice none 0 0] 24)).heap[w2.heap.size]? = some (.cells #[.int .i64 0, .int .i64 0, .slice none 0 0] 24 (0, 0)) from bk_new w2.drew #[.int .i64 0, .int .i64 0, .slice none 0 0] 24)
          refine hh_mid 1 rfl (by decide) (by kernel_rfl) (fun K hK => ?_)
          (refine mid_call ?_ ?_ (by rfl) ?_ ?_; rotate_left 2; (focus (go_simp; first | done | rfl | (refine And.intro ?_ ?_ <;> rfl))))
          refine (law_toSeries _ _ _ _ _ A0 _ (H0a.out.below (l_below L_110.out v0hB_48.out)) (by omega)).mono ?_
          rintro e v0V_50 ⟨u0a, rfl, v0hN_51⟩
          refine ⟨_, rfl, ?_⟩
          have v0hB_52 := hid (v0hB_48.out.trans (v0hN_51.2.2.2.mono (show w2.heap.size ≤ (w2.drew.alloc (.cells #[.int .i64 0, .int .i64 0, .slice none 0 0] 24)).heap.size from v0hB_48.out.size)))
          have v0HZ_53 := hid (bk_below v0HZ_49.out v0hN_51.2.2.2)
          have v0G0a_54 := hid (v0hN_51.1.rd)
          clear v0hN_51
          (go_simp; refine hK.out _ _ ?_ ?_ <;> clear hK K)
          · exact v0hB_52.out
          refine hh_mid 3 rfl (by decide) (by kernel_rfl) (fun K hK => ?_)
          (refine mid_call ?_ ?_ (by rfl) ?_ ?_; rotate_left 2; (focus (go_simp; first | done | rfl | (refine And.intro ?_ ?_ <;> rfl))))
          refine (law_toSeries _ _ _ _ _ A1 _ (H1a.out.below (l_below L_110.out v0hB_52.out)) (by omega)).mono ?_
          rintro e v0V_55 ⟨u1a, rfl, v0hN_56⟩
          refine ⟨_, rfl, ?_⟩
          have v0hB_57 := hid (v0hB_52.out.trans (v0hN_56.2.2.2.mono (show w2.heap.size ≤ v0V_50.heap.size from v0hB_52.out.size)))
          have v0HZ_58 := hid (bk_below v0HZ_53.out v0hN_56.2.2.2)
          have v0G0a_59 := hid (v0G0a_54.out.below v0hN_56.2.2.2)
          have v0G1a_60 := hid (v0hN_56.1.rd)
          clear v0hN_56
          (go_simp; refine hK.out _ _ ?_ ?_ <;> clear hK K)
          · exact v0hB_57.out
          refine hh_mid 4 rfl (by decide) (by kernel_rfl) (fun K hK => ?_)
          (refine mid_call ?_ ?_ (by rfl) ?_ ?_; rotate_left 2; (focus (go_simp; first | done | rfl | (refine And.intro ?_ ?_ <;> rfl))))
          refine (spec_AddSeries _ _ _ _ _ A0 _ _ _ _ _ A1 _ v0G0a_59.out v0G1a_60.out (HT.out.below (l_below L_110.out v0hB_57.out)) HR.out).mono ?_
          rintro e v0V_61 ⟨rp', rn', rc', rfl, v0hN_62⟩
          refine ⟨_, rfl, ?_⟩
          have v0hB_63 := hid (v0hB_57.out.trans (v0hN_62.2.2.2.mono (show w2.heap.size ≤ v0V_55.heap.size from v0hB_57.out.size)))
          have v0HZ_64 := hid (bk_below v0HZ_58.out v0hN_62.2.2.2)
          have v0HE_65 := bk_lt v0HZ_58.out
          have v0G0a_66 := hid (v0G0a_59.out.below v0hN_62.2.2.2)
          have v0G1a_67 := hid (v0G1a_60.out.below v0hN_62.2.2.2)
          have v0HL_68 := hid v0hN_62
          clear v0hN_62
          (go_simp; refine hK.out _ _ ?_ ?_ <;> clear hK K)
          · exact v0hB_63.out
          (refine hh_take 5 HG rfl (by decide) (by kernel_rfl) (by kernel_rfl) v0hB_63.out (fun K hK => ?_); refine take_val ?_ (by rfl) ?_ ?_; rotate_left 1; (focus (intro wc hC; skip; go_simp; try rfl)); go_simp; refine hK.out _ ?_; clear hK K)
          (refine hh_take 6 HG rfl (by decide) (by kernel_rfl) (by kernel_rfl) v0hB_63.out (fun K hK => ?_); refine take_val ?_ (by rfl) ?_ ?_; rotate_left 1; (focus (intro wc hC; skip; go_simp; try rfl)); go_simp; refine hK.out _ ?_; clear hK K)
          (refine hh_take 7 HG rfl (by decide) (by kernel_rfl) (by kernel_rfl) v0hB_63.out (fun K hK => ?_); refine take_val ?_ (by rfl) ?_ ?_; rotate_left 1; (focus (intro wc hC; skip; go_simp; try rfl)); go_simp; refine hK.out _ ?_; clear hK K)
          obtain ⟨⟨z0, z1, z2⟩, z3, z4, z5⟩ := blk3 v0HZ_64.out
          refine hh_mid 9 rfl (by decide) (by kernel_rfl) (fun K hK => ?_)
          (go_simp; refine hK.out _ _ ?_ ?_ <;> clear hK K)
          · exact ((v0hB_63.out.setCell (show w2.heap.size ≤ w2.heap.size from v0hB_1.out.size) _).setCell (show w2.heap.size ≤ w2.heap.size from v0hB_1.out.size) _).setCell (show w2.heap.size ≤ w2.heap.size from v0hB_1.out.size) _
          refine hh_done (by kernel_rfl) ?_
          simp only [List.drop_succ_cons, List.drop_zero]
          change wpList _ _ _ _ _ _
          go_wp2_with fail
          go_meet
          exact ⟨_, _, _, _, rfl, rfl, NSb.early v0HZ_64.out (show w2.heap.size ≤ w2.heap.size from v0hB_1.out.size) v0HE_65 v0HL_68.out v0hB_57.out⟩
      case rest =>
        obtain ⟨w3, rfl⟩ : ∃ w3 : World, w3 = wc := ⟨_, rfl⟩
        obtain ⟨v0k, v0p, v0n, v0c, rfl, rfl, hN⟩ := hcut
        have y3 := hN.nt.2.2.2.size
        try simp only [World.size_alloc] at y3
        have HN := hid hN
        clear hN KP
        have L_113 := hid (l_below L_110.out HN.out.nt.2.2.2)
        have Bbox0_114 := hid (bk_below Bbox0_111.out HN.out.nt.2.2.2)
        have Bbox1_115 := hid (bk_below Bbox1_112.out HN.out.nt.2.2.2)
        clear L_110 Bbox0_111 Bbox1_112
        have Ov0a_116 := hid (Ob.mk' HN.out.nt.1)
        have Bv0_117 := hid (HN.out.bk)
        have y4 := bk_lt Bv0_117.out
        have y5 := HN.out.lo
        have hnv0 : v0n ≤ 1000 := by rw [← HN.out.nt.1.rd.len]; exact hlA
        clear HN
        obtain ⟨⟨q00, q01, q02⟩, _⟩ := blk3 Bbox0_114.out
        obtain ⟨⟨q10, q11, q12⟩, _⟩ := blk3 Bbox1_115.out
        go_wp2_with fail
        refine (law_toSeries _ _ _ _ _ A0 _ (H0a.out.below L_113.out) (by omega)).mono ?_
        rintro e w4 ⟨x0a, rfl, hN⟩
        have y6 := hN.2.2.2.size
        try simp only [World.size_alloc] at y6
        have HN := hid hN
        clear hN
        have L_118 := hid (l_below L_113.out HN.out.2.2.2)
        have Bbox0_119 := hid (bk_below Bbox0_114.out HN.out.2.2.2)
        have Bbox1_120 := hid (bk_below Bbox1_115.out HN.out.2.2.2)
        have Ov0a_121 := hid (Ov0a_116.out.below HN.out.2.2.2)
        have Bv0_122 := hid (bk_below Bv0_117.out HN.out.2.2.2)
        clear L_113 Bbox0_114 Bbox1_115 Ov0a_116 Bv0_117
        have Ox0a_123 := hid (Ob.mk' HN.out.1)
        clear HN
        have L_124 := hid (l_alloc L_118.out (.cells #[.int .i64 o0, .int .i64 z0, .slice (some ⟨x0a, 0, none⟩) n0 n0] 24))
        have Bbox0_125 := hid (bk_alloc Bbox0_119.out (.cells #[.int .i64 o0, .int .i64 z0, .slice (some ⟨x0a, 0, none⟩) n0 n0] 24))
        have Bbox1_126 := hid (bk_alloc Bbox1_120.out (.cells #[.int .i64 o0, .int .i64 z0, .slice (some ⟨x0a, 0, none⟩) n0 n0] 24))
        have Ov0a_127 := hid (Ov0a_121.out.alloc (.cells #[.int .i64 o0, .int .i64 z0, .slice (some ⟨x0a, 0, none⟩) n0 n0] 24))
        have Bv0_128 := hid (bk_alloc Bv0_122.out (.cells #[.int .i64 o0, .int .i64 z0, .slice (some ⟨x0a, 0, none⟩) n0 n0] 24))
        have Ox0a_129 := hid (Ox0a_123.out.alloc (.cells #[.int .i64 o0, .int .i64 z0, .slice (some ⟨x0a, 0, none⟩) n0 n0] 24))
        clear L_118 Bbox0_119 Bbox1_120 Ov0a_121 Bv0_122 Ox0a_123
        have Bx0_130 := hid (bk_new w4 #[.int .i64 o0, .int .i64 z0, .slice (some ⟨x0a, 0, none⟩) n0 n0] 24)
        clear q00 q01 q02 q10 q11 q12
        obtain ⟨⟨q00, q01, q02⟩, _⟩ := blk3 Bbox0_125.out
        obtain ⟨⟨q10, q11, q12⟩, _⟩ := blk3 Bbox1_126.out
        go_wp2_with fail
        refine (law_toSeries _ _ _ _ _ A1 _ (H1a.out.below L_124.out) (by omega)).mono ?_
        rintro e w5 ⟨x1a, rfl, hN⟩
        have y7 := hN.2.2.2.size
        try simp only [World.size_alloc] at y7
        have HN := hid hN
        clear hN
        have L_131 := hid (l_below L_124.out HN.out.2.2.2)
        have Bbox0_132 := hid (bk_below Bbox0_125.out HN.out.2.2.2)
        have Bbox1_133 := hid (bk_below Bbox1_126.out HN.out.2.2.2)
        have Ov0a_134 := hid (Ov0a_127.out.below HN.out.2.2.2)
        have Bv0_135 := hid (bk_below Bv0_128.out HN.out.2.2.2)
        have Ox0a_136 := hid (Ox0a_129.out.below HN.out.2.2.2)
        have Bx0_137 := hid (bk_below Bx0_130.out HN.out.2.2.2)
        clear L_124 Bbox0_125 Bbox1_126 Ov0a_127 Bv0_128 Ox0a_129 Bx0_130
        have Ox1a_138 := hid (Ob.mk' (HN.out.1.mono (show w4.heap.size + 1 ≤ _ by simp)))
        clear HN
        have L_139 := hid (l_alloc L_131.out (.cells #[.int .i64 o1, .int .i64 z1, .slice (some ⟨x1a, 0, none⟩) n1 n1] 24))
        have Bbox0_140 := hid (bk_alloc Bbox0_132.out (.cells #[.int .i64 o1, .int .i64 z1, .slice (some ⟨x1a, 0, none⟩) n1 n1] 24))
        have Bbox1_141 := hid (bk_alloc Bbox1_133.out (.cells #[.int .i64 o1, .int .i64 z1, .slice (some ⟨x1a, 0, none⟩) n1 n1] 24))
        have Ov0a_142 := hid (Ov0a_134.out.alloc (.cells #[.int .i64 o1, .int .i64 z1, .slice (some ⟨x1a, 0, none⟩) n1 n1] 24))
        have Bv0_143 := hid (bk_alloc Bv0_135.out (.cells #[.int .i64 o1, .int .i64 z1, .slice (some ⟨x1a, 0, none⟩) n1 n1] 24))
        have Ox0a_144 := hid (Ox0a_136.out.alloc (.cells #[.int .i64 o1, .int .i64 z1, .slice (some ⟨x1a, 0, none⟩) n1 n1] 24))
        have Bx0_145 := hid (bk_alloc Bx0_137.out (.cells #[.int .i64 o1, .int .i64 z1, .slice (some ⟨x1a, 0, none⟩) n1 n1] 24))
        have Ox1a_146 := hid (Ox1a_138.out.alloc (.cells #[.int .i64 o1, .int .i64 z1, .slice (some ⟨x1a, 0, none⟩) n1 n1] 24))
        clear L_131 Bbox0_132 Bbox1_133 Ov0a_134 Bv0_135 Ox0a_136 Bx0_137 Ox1a_138
        have Bx1_147 := hid (bk_new w5 #[.int .i64 o1, .int .i64 z1, .slice (some ⟨x1a, 0, none⟩) n1 n1] 24)
        clear q00 q01 q02 q10 q11 q12
        obtain ⟨⟨q00, q01, q02⟩, _⟩ := blk3 Bx0_145.out
        obtain ⟨⟨q10, q11, q12⟩, _⟩ := blk3 Bx1_147.out
        go_wp2_with fail
        refine (impl_AddSeries _ _ _ _ _ A0 _ _ _ _ _ A1 _ Ox0a_144.out.fr.rd Ox1a_146.out.fr.rd (HT.out.below L_139.out) HR.out).mono ?_
        rintro e w6 ⟨g0p, g0n, g0c, rfl, hN⟩
        have y8 := hN.2.2.2.size
        try simp only [World.size_alloc] at y8
        have HN := hid hN
        clear hN
        have L_148 := hid (l_below L_139.out HN.out.2.2.2)
        have Bbox0_149 := hid (bk_below Bbox0_140.out HN.out.2.2.2)
        have Bbox1_150 := hid (bk_below Bbox1_141.out HN.out.2.2.2)
        have Ov0a_151 := hid (Ov0a_142.out.below HN.out.2.2.2)
        have Bv0_152 := hid (bk_below Bv0_143.out HN.out.2.2.2)
        have Ox0a_153 := hid (Ox0a_144.out.below HN.out.2.2.2)
        have Bx0_154 := hid (bk_below Bx0_145.out HN.out.2.2.2)
        have Ox1a_155 := hid (Ox1a_146.out.below HN.out.2.2.2)
        have Bx1_156 := hid (bk_below Bx1_147.out HN.out.2.2.2)
        clear L_139 Bbox0_140 Bbox1_141 Ov0a_142 Bv0_143 Ox0a_144 Bx0_145 Ox1a_146 Bx1_147
        have Og0a_157 := hid (Ob.mk' (HN.out.1.mono (show w5.heap.size + 1 ≤ _ by simp)))
        have hng0 : g0n ≤ 1000 := by rw [← HN.out.1.rd.len]; exact hlA
        clear HN
        have L_158 := hid (l_alloc L_148.out (.cells #[.int .i64 ro, .int .i64 rz, .slice g0p g0n g0c] 24))
        have Bbox0_159 := hid (bk_alloc Bbox0_149.out (.cells #[.int .i64 ro, .int .i64 rz, .slice g0p g0n g0c] 24))
        have Bbox1_160 := hid (bk_alloc Bbox1_150.out (.cells #[.int .i64 ro, .int .i64 rz, .slice g0p g0n g0c] 24))
        have Ov0a_161 := hid (Ov0a_151.out.alloc (.cells #[.int .i64 ro, .int .i64 rz, .slice g0p g0n g0c] 24))
        have Bv0_162 := hid (bk_alloc Bv0_152.out (.cells #[.int .i64 ro, .int .i64 rz, .slice g0p g0n g0c] 24))
        have Ox0a_163 := hid (Ox0a_153.out.alloc (.cells #[.int .i64 ro, .int .i64 rz, .slice g0p g0n g0c] 24))
        have Bx0_164 := hid (bk_alloc Bx0_154.out (.cells #[.int .i64 ro, .int .i64 rz, .slice g0p g0n g0c] 24))
        have Ox1a_165 := hid (Ox1a_155.out.alloc (.cells #[.int .i64 ro, .int .i64 rz, .slice g0p g0n g0c] 24))
        have Bx1_166 := hid (bk_alloc Bx1_156.out (.cells #[.int .i64 ro, .int .i64 rz, .slice g0p g0n g0c] 24))
        have Og0a_167 := hid (Og0a_157.out.alloc (.cells #[.int .i64 ro, .int .i64 rz, .slice g0p g0n g0c] 24))
        clear L_148 Bbox0_149 Bbox1_150 Ov0a_151 Bv0_152 Ox0a_153 Bx0_154 Ox1a_155 Bx1_156 Og0a_157
        have Bg0_168 := hid (bk_new w6 #[.int .i64 ro, .int .i64 rz, .slice g0p g0n g0c] 24)
        clear q00 q01 q02 q10 q11 q12
        obtain ⟨⟨q00, q01, q02⟩, _⟩ := blk3 Bg0_168.out
        obtain ⟨⟨q10, q11, q12⟩, _⟩ := blk3 Bv0_162.out
        go_wp2_with fail
        refine (law_eqSeries_true _ _ _ _ _ _ _ _ rA _ Og0a_167.out.fr.rd Ov0a_161.out.fr.rd).mono ?_
        rintro e w7 ⟨rfl, hB⟩
        have y9 := hB.size
        try simp only [World.size_alloc] at y9
        have HB := hid hB
        clear hB
        have L_169 := hid (l_below L_158.out HB.out)
        have Bbox0_170 := hid (bk_below Bbox0_159.out HB.out)
        have Bbox1_171 := hid (bk_below Bbox1_160.out HB.out)
        have Ov0a_172 := hid (Ov0a_161.out.below HB.out)
        have Bv0_173 := hid (bk_below Bv0_162.out HB.out)
        have Ox0a_174 := hid (Ox0a_163.out.below HB.out)
        have Bx0_175 := hid (bk_below Bx0_164.out HB.out)
        have Ox1a_176 := hid (Ox1a_165.out.below HB.out)
        have Bx1_177 := hid (bk_below Bx1_166.out HB.out)
        have Og0a_178 := hid (Og0a_167.out.below HB.out)
        have Bg0_179 := hid (bk_below Bg0_168.out HB.out)
        clear L_158 Bbox0_159 Bbox1_160 Ov0a_161 Bv0_162 Ox0a_163 Bx0_164 Ox1a_165 Bx1_166 Og0a_167 Bg0_168
        clear HB
        clear q00 q01 q02 q10 q11 q12
        obtain ⟨⟨q00, q01, q02⟩, _⟩ := blk3 Bbox0_170.out
        obtain ⟨⟨q10, q11, q12⟩, _⟩ := blk3 Bbox1_171.out
        obtain ⟨⟨q20, q21, q22⟩, _⟩ := blk3 Bx0_175.out
        go_wp2_with fail
        have KP := hid (keep6 Bbox0_170.out Bx0_175.out)
        go_region_held3 (fun w' => w'.cell? ⟨w.heap.size, 0, none⟩ = some (.int .i64 o0) ∧ w'.cell? ⟨w.heap.size, 1, none⟩ = some (.int .i64 z0) ∧ w'.cell? ⟨w.heap.size, 2, none⟩ = some (.slice a0 n0 c0) ∧ w'.cell? ⟨w4.heap.size, 0, none⟩ = some (.int .i64 o0) ∧ w'.cell? ⟨w4.heap.size, 1, none⟩ = some (.int .i64 z0) ∧ w'.cell? ⟨w4.heap.size, 2, none⟩ = some (.slice (some ⟨x0a, 0, none⟩) n0 n0))
          (first | exact KP.out _ ((Below.refl _ _).drew) | exact KP.out _ (of_drew hY.2.2.2) | exact KP.out _ ((of_drew hY.2.2.2).trans (hZ.mono (of_drew hY.2.2.2).size)))
          (first
            | (go_at_call 14; refine (law_toSeries _ _ _ _ _ A0 _ (H0a.out.below L_169.out.drew) (by omega)).mono ?_; rintro e w8 ⟨yqa, rfl, hY⟩)
            | (go_at_call 9; refine (law_eqSeries_true _ _ _ _ _ _ _ _ A0 _ (Ox0a_174.out.fr.rd.below (of_drew hY.2.2.2)) hY.1.rd).mono ?_; rintro e w9 ⟨rfl, hZ⟩))
        have hB := (of_drew hY.2.2.2).trans (hZ.mono (of_drew hY.2.2.2).size)
        have y10 := hB.size
        try simp only [World.size_alloc] at y10
        have HB := hid hB
        clear hB hY hZ KP
        have L_180 := hid (l_below L_169.out HB.out)
        have Bbox0_181 := hid (bk_below Bbox0_170.out HB.out)
        have Bbox1_182 := hid (bk_below Bbox1_171.out HB.out)
        have Ov0a_183 := hid (Ov0a_172.out.below HB.out)
        have Bv0_184 := hid (bk_below Bv0_173.out HB.out)
        have Ox0a_185 := hid (Ox0a_174.out.below HB.out)
        have Bx0_186 := hid (bk_below Bx0_175.out HB.out)
        have Ox1a_187 := hid (Ox1a_176.out.below HB.out)
        have Bx1_188 := hid (bk_below Bx1_177.out HB.out)
        have Og0a_189 := hid (Og0a_178.out.below HB.out)
        have Bg0_190 := hid (bk_below Bg0_179.out HB.out)
        clear L_169 Bbox0_170 Bbox1_171 Ov0a_172 Bv0_173 Ox0a_174 Bx0_175 Ox1a_176 Bx1_177 Og0a_178 Bg0_179
        clear HB
        obtain ⟨⟨q00, q01, q02⟩, _⟩ := blk3 Bbox0_181.out
        obtain ⟨⟨q10, q11, q12⟩, _⟩ := blk3 Bbox1_182.out
        obtain ⟨⟨q20, q21, q22⟩, _⟩ := blk3 Bx1_188.out
        go_wp2_with fail
        have KP := hid (keep6 Bbox1_182.out Bx1_188.out)
        go_region_held3 (fun w' => w'.cell? ⟨w.heap.size + 1, 0, none⟩ = some (.int .i64 o1) ∧ w'.cell? ⟨w.heap.size + 1, 1, none⟩ = some (.int .i64 z1) ∧ w'.cell? ⟨w.heap.size + 1, 2, none⟩ = some (.slice a1 n1 c1) ∧ w'.cell? ⟨w5.heap.size, 0, none⟩ = some (.int .i64 o1) ∧ w'.cell? ⟨w5.heap.size, 1, none⟩ = some (.int .i64 z1) ∧ w'.cell? ⟨w5.heap.size, 2, none⟩ = some (.slice (some ⟨x1a, 0, none⟩) n1 n1))
          (first | exact KP.out _ ((Below.refl _ _).drew) | exact KP.out _ (of_drew hY.2.2.2) | exact KP.out _ ((of_drew hY.2.2.2).trans (hZ.mono (of_drew hY.2.2.2).size)))
          (first
            | (go_at_call 14; refine (law_toSeries _ _ _ _ _ A1 _ (H1a.out.below L_180.out.drew) (by omega)).mono ?_; rintro e w10 ⟨yqa, rfl, hY⟩)
            | (go_at_call 9; refine (law_eqSeries_true _ _ _ _ _ _ _ _ A1 _ (Ox1a_187.out.fr.rd.below (of_drew hY.2.2.2)) hY.1.rd).mono ?_; rintro e w11 ⟨rfl, hZ⟩))
        have hB := (of_drew hY.2.2.2).trans (hZ.mono (of_drew hY.2.2.2).size)
        have y11 := hB.size
        try simp only [World.size_alloc] at y11
        have HB := hid hB
        clear hB hY hZ KP
        have L_191 := hid (l_below L_180.out HB.out)
        have Bbox0_192 := hid (bk_below Bbox0_181.out HB.out)
        have Bbox1_193 := hid (bk_below Bbox1_182.out HB.out)
        have Ov0a_194 := hid (Ov0a_183.out.below HB.out)
        have Bv0_195 := hid (bk_below Bv0_184.out HB.out)
        have Ox0a_196 := hid (Ox0a_185.out.below HB.out)
        have Bx0_197 := hid (bk_below Bx0_186.out HB.out)
        have Ox1a_198 := hid (Ox1a_187.out.below HB.out)
        have Bx1_199 := hid (bk_below Bx1_188.out HB.out)
        have Og0a_200 := hid (Og0a_189.out.below HB.out)
        have Bg0_201 := hid (bk_below Bg0_190.out HB.out)
        clear L_180 Bbox0_181 Bbox1_182 Ov0a_183 Bv0_184 Ox0a_185 Bx0_186 Ox1a_187 Bx1_188 Og0a_189 Bg0_190
        clear HB
        obtain ⟨⟨q00, q01, q02⟩, _⟩ := blk3 Bx0_197.out
        go_wp2_with fail
        refine (law_markSeries _ _ _ _ _ _ _ A0 _ (Ox0a_196.out.fr.mono (Nat.le_refl _)) (by omega) (by omega) (by omega)).mono ?_
        rintro e w12 ⟨rfl, hF1, wa, rfl, hG1⟩
        have y12 := hG1.size
        try simp only [World.size_alloc] at y12
        have HF1 := hid hF1
        have HG1 := hid hG1
        clear hF1 hG1
        have L_202 := hid (l_grown (l_alloc L_191.out _) HG1.out (fun k hk => by have h1 := Ox0a_196.out.bd k hk; omega))
        have Bbox0_203 := hid (bk_grown (bk_alloc Bbox0_192.out _) HG1.out (fun k hk => by have h1 := Ox0a_196.out.bd k hk; omega))
        have Bbox1_204 := hid (bk_grown (bk_alloc Bbox1_193.out _) HG1.out (fun k hk => by have h1 := Ox0a_196.out.bd k hk; omega))
        have Ov0a_205 := hid ((Ov0a_194.out.alloc _).grown HG1.out (fun k hk => by have h1 := Ox0a_196.out.bd k hk; omega))
        have Bv0_206 := hid (bk_grown (bk_alloc Bv0_195.out _) HG1.out (fun k hk => by have h1 := Ox0a_196.out.bd k hk; omega))
        have Ox1a_207 := hid ((Ox1a_198.out.alloc _).grown HG1.out (fun k hk => by have h1 := Ox0a_196.out.bd k hk; omega))
        have Bx1_208 := hid (bk_grown (bk_alloc Bx1_199.out _) HG1.out (fun k hk => by have h1 := Ox0a_196.out.bd k hk; omega))
        have Og0a_209 := hid ((Og0a_200.out.alloc _).grown HG1.out (fun k hk => by have h1 := Ox0a_196.out.bd k hk; omega))
        have Bg0_210 := hid (bk_grown (bk_alloc Bg0_201.out _) HG1.out (fun k hk => by have h1 := Ox0a_196.out.bd k hk; omega))
        clear L_191 Bbox0_192 Bbox1_193 Ov0a_194 Bv0_195 Ox0a_196 Ox1a_198 Bx1_199 Og0a_200 Bg0_201
        clear HF1 HG1
        clear q00 q01 q02
        obtain ⟨⟨q00, q01, q02⟩, _⟩ := blk3 Bx1_208.out
        go_wp2_with fail
        refine (law_markSeries _ _ _ _ _ _ _ A1 _ (Ox1a_207.out.fr.mono (Nat.le_refl _)) (by omega) (by omega) (by omega)).mono ?_
        rintro e w13 ⟨rfl, hF1, wa, rfl, hG1⟩
        have y13 := hG1.size
        try simp only [World.size_alloc] at y13
        have HF1 := hid hF1
        have HG1 := hid hG1
        clear hF1 hG1
        have L_211 := hid (l_grown (l_alloc L_202.out _) HG1.out (fun k hk => by have h1 := Ox1a_207.out.bd k hk; omega))
        have Bbox0_212 := hid (bk_grown (bk_alloc Bbox0_203.out _) HG1.out (fun k hk => by have h1 := Ox1a_207.out.bd k hk; omega))
        have Bbox1_213 := hid (bk_grown (bk_alloc Bbox1_204.out _) HG1.out (fun k hk => by have h1 := Ox1a_207.out.bd k hk; omega))
        have Ov0a_214 := hid ((Ov0a_205.out.alloc _).grown HG1.out (fun k hk => by have h1 := Ox1a_207.out.bd k hk; omega))
        have Bv0_215 := hid (bk_grown (bk_alloc Bv0_206.out _) HG1.out (fun k hk => by have h1 := Ox1a_207.out.bd k hk; omega))
        have Og0a_216 := hid ((Og0a_209.out.alloc _).grown HG1.out (fun k hk => by have h1 := Ox1a_207.out.bd k hk; omega))
        have Bg0_217 := hid (bk_grown (bk_alloc Bg0_210.out _) HG1.out (fun k hk => by have h1 := Ox1a_207.out.bd k hk; omega))
        clear L_202 Bbox0_203 Bbox1_204 Ov0a_205 Bv0_206 Ox1a_207 Og0a_209 Bg0_210
        clear HF1 HG1
        clear q00 q01 q02
        obtain ⟨⟨q00, q01, q02⟩, _⟩ := blk3 Bg0_217.out
        obtain ⟨⟨q10, q11, q12⟩, _⟩ := blk3 Bv0_215.out
        go_wp2_with fail
        refine (law_eqSeries_true _ _ _ _ _ _ _ _ rA _ Og0a_216.out.fr.rd Ov0a_214.out.fr.rd).mono ?_
        rintro e w14 ⟨rfl, hB⟩
        have y14 := hB.size
        try simp only [World.size_alloc] at y14
        have HB := hid hB
        clear hB
        have L_218 := hid (l_below L_211.out HB.out)
        have Bbox0_219 := hid (bk_below Bbox0_212.out HB.out)
        have Bbox1_220 := hid (bk_below Bbox1_213.out HB.out)
        have Ov0a_221 := hid (Ov0a_214.out.below HB.out)
        have Bv0_222 := hid (bk_below Bv0_215.out HB.out)
        have Og0a_223 := hid (Og0a_216.out.below HB.out)
        have Bg0_224 := hid (bk_below Bg0_217.out HB.out)
        clear L_211 Bbox0_212 Bbox1_213 Ov0a_214 Bv0_215 Og0a_216 Bg0_217
        clear HB
        clear q00 q01 q02 q10 q11 q12
        obtain ⟨⟨q00, q01, q02⟩, _⟩ := blk3 Bg0_224.out
        go_wp2_with fail
        refine (law_markSeries _ _ _ _ _ _ _ rA _ (Og0a_223.out.fr.mono (Nat.le_refl _)) (by omega) (by omega) (by omega)).mono ?_
        rintro e w15 ⟨rfl, hF1, wa, rfl, hG1⟩
        have y15 := hG1.size
        try simp only [World.size_alloc] at y15
        have HF1 := hid hF1
        have HG1 := hid hG1
        clear hF1 hG1
        have L_225 := hid (l_grown (l_alloc L_218.out _) HG1.out (fun k hk => by have h1 := Og0a_223.out.bd k hk; omega))
        have Bbox0_226 := hid (bk_grown (bk_alloc Bbox0_219.out _) HG1.out (fun k hk => by have h1 := Og0a_223.out.bd k hk; omega))
        have Bbox1_227 := hid (bk_grown (bk_alloc Bbox1_220.out _) HG1.out (fun k hk => by have h1 := Og0a_223.out.bd k hk; omega))
        have Ov0a_228 := hid ((Ov0a_221.out.alloc _).grown HG1.out (fun k hk => by have h1 := Og0a_223.out.bd k hk; omega))
        have Bv0_229 := hid (bk_grown (bk_alloc Bv0_222.out _) HG1.out (fun k hk => by have h1 := Og0a_223.out.bd k hk; omega))
        have Bg0_230 := hid (bk_grown (bk_alloc Bg0_224.out _) HG1.out (fun k hk => by have h1 := Og0a_223.out.bd k hk; omega))
        have Og0a_231 := hid (Ob.mk' HF1.out)
        clear L_218 Bbox0_219 Bbox1_220 Ov0a_221 Bv0_222 Og0a_223 Bg0_224
        clear HF1 HG1
        clear q00 q01 q02
        obtain ⟨⟨q00, q01, q02⟩, _⟩ := blk3 Bg0_230.out
        go_wp2_with fail
        refine (law_heldSeries _ _ _ _ _ 1 _ Og0a_231.out.fr.rd (by omega) (by omega) (by omega)).mono ?_
        rintro e w16 ⟨rfl, hB⟩
        have y16 := hB.size
        try simp only [World.size_alloc] at y16
        have HB := hid hB
        clear hB
        have L_232 := hid (l_below L_225.out HB.out)
        have Bbox0_233 := hid (bk_below Bbox0_226.out HB.out)
        have Bbox1_234 := hid (bk_below Bbox1_227.out HB.out)
        have Ov0a_235 := hid (Ov0a_228.out.below HB.out)
        have Bv0_236 := hid (bk_below Bv0_229.out HB.out)
        have Bg0_237 := hid (bk_below Bg0_230.out HB.out)
        have Og0a_238 := hid (Og0a_231.out.below HB.out)
        clear L_225 Bbox0_226 Bbox1_227 Ov0a_228 Bv0_229 Bg0_230 Og0a_231
        clear HB
        clear q00 q01 q02
        obtain ⟨⟨q00, q01, q02⟩, _⟩ := blk3 Bbox0_233.out
        obtain ⟨⟨q10, q11, q12⟩, _⟩ := blk3 Bbox1_234.out
        go_wp2_with fail
        go_wp2_with fail
        have KP := hid (keep6 Bbox0_233.out Bbox1_234.out)
        clear q00 q01 q02 q10 q11 q12
        go_cut [15, 16] from 17 (fun sa sb wc => ∃ (b : Nat) (p : Option Addr) (n c : Nat), sa = .pointer (some ⟨b, 0, none⟩) ∧ sb = .bool rb ∧ NSb w16 wc ro rz rA b p n c)
        case first =>
          have h0hB_1 := hid (show Below w16.heap.size w16 w16.drew from (Below.refl _ _).drew)
          refine (fun (HG : Rg _ _ 10) => wp_region_hh (S := fun w' => Below w16.heap.size w16 w') HG rfl ?_) ⟨by kernel_rfl, by decide, by kernel_rfl, by kernel_rfl, fun _ _ d _ _ h => by cases d <;> exact h⟩
          (refine hh_take 0 HG rfl (by decide) (by kernel_rfl) (by kernel_rfl) h0hB_1.out (fun K hK => ?_); refine take_val ?_ (by rfl) ?_ ?_; rotate_left 1; (focus (intro wc hC; obtain ⟨u0, u1, u2, u3, u4, u5⟩ := KP.out wc hC; go_simp; try rfl)); go_simp; refine hK.out _ ?_; clear hK K)
          (refine hh_take 2 HG rfl (by decide) (by kernel_rfl) (by kernel_rfl) h0hB_1.out (fun K hK => ?_); refine take_val ?_ (by rfl) ?_ ?_; rotate_left 1; (focus (intro wc hC; obtain ⟨u0, u1, u2, u3, u4, u5⟩ := KP.out wc hC; go_simp; try rfl)); go_simp; refine hK.out _ ?_; clear hK K)
          refine hh_two 1 8 rfl rfl (by decide) (by decide) (by kernel_rfl) (fun K hK => ?_) (fun K hK => ?_)
          · skip
            (refine mid_call ?_ ?_ (by rfl) ?_ ?_; rotate_left 2; (focus (go_simp; first | done | rfl | (refine And.intro ?_ ?_ <;> rfl))))
            refine (law_toSeries _ _ _ _ _ A0 _ (H0a.out.below (l_below L_232.out h0hB_1.out)) (by omega)).mono ?_
            rintro e h0V_2 ⟨u0a, rfl, h0hN_3⟩
            refine ⟨_, rfl, ?_⟩
            have h0hB_4 := hid (h0hB_1.out.trans (h0hN_3.2.2.2.mono (show w16.heap.size ≤ w16.drew.heap.size from h0hB_1.out.size)))
            have h0G0a_5 := hid (h0hN_3.1.rd)
            clear h0hN_3
            (go_simp; refine hK.out _ _ ?_ ?_ <;> clear hK K)
            · exact h0hB_4.out
            refine hh_two 3 8 rfl rfl (by decide) (by decide) (by kernel_rfl) (fun K hK => ?_) (fun K hK => ?_)
            · skip
              (refine mid_call ?_ ?_ (by rfl) ?_ ?_; rotate_left 2; (focus (go_simp; first | done | rfl | (refine And.intro ?_ ?_ <;> rfl))))
              refine (law_toSeries _ _ _ _ _ A1 _ (H1a.out.below (l_below L_232.out h0hB_4.out)) (by omega)).mono ?_
              rintro e h0V_6 ⟨u1a, rfl, h0hN_7⟩
              refine ⟨_, rfl, ?_⟩
              have h0hB_8 := hid (h0hB_4.out.trans (h0hN_7.2.2.2.mono (show w16.heap.size ≤ h0V_2.heap.size from h0hB_4.out.size)))
              have h0G0a_9 := hid (h0G0a_5.out.below h0hN_7.2.2.2)
              have h0G1a_10 := hid (h0hN_7.1.rd)
              clear h0hN_7
              (go_simp; refine hK.out _ _ ?_ ?_ <;> clear hK K)
              · exact h0hB_8.out
              refine hh_two 4 8 rfl rfl (by decide) (by decide) (by kernel_rfl) (fun K hK => ?_) (fun K hK => ?_)
              · skip
                (refine mid_call ?_ ?_ (by rfl) ?_ ?_; rotate_left 2; (focus (go_simp; first | done | rfl | (refine And.intro ?_ ?_ <;> rfl))))
                refine (impl_AddSeries _ _ _ _ _ A0 _ _ _ _ _ A1 _ h0G0a_9.out h0G1a_10.out (HT.out.below (l_below L_232.out h0hB_8.out)) HR.out).mono ?_
                rintro e h0V_11 ⟨rp', rn', rc', rfl, h0hN_12⟩
                refine ⟨_, rfl, ?_⟩
                have h0hB_13 := hid (h0hB_8.out.trans (h0hN_12.2.2.2.mono (show w16.heap.size ≤ h0V_6.heap.size from h0hB_8.out.size)))
                have h0G0a_14 := hid (h0G0a_9.out.below h0hN_12.2.2.2)
                have h0G1a_15 := hid (h0G1a_10.out.below h0hN_12.2.2.2)
                have h0HL_16 := hid h0hN_12
                clear h0hN_12
                (go_simp; refine hK.out _ _ ?_ ?_ <;> clear hK K)
                · exact h0hB_13.out
                (refine hh_take 5 HG rfl (by decide) (by kernel_rfl) (by kernel_rfl) h0hB_13.out (fun K hK => ?_); refine take_val ?_ (by rfl) ?_ ?_; rotate_left 1; (focus (intro wc hC; skip; go_simp; try rfl)); go_simp; refine hK.out _ ?_; clear hK K)
                (refine hh_take 6 HG rfl (by decide) (by kernel_rfl) (by kernel_rfl) h0hB_13.out (fun K hK => ?_); refine take_val ?_ (by rfl) ?_ ?_; rotate_left 1; (focus (intro wc hC; skip; go_simp; try rfl)); go_simp; refine hK.out _ ?_; clear hK K)
                (refine hh_take 7 HG rfl (by decide) (by kernel_rfl) (by kernel_rfl) h0hB_13.out (fun K hK => ?_); refine take_val ?_ (by rfl) ?_ ?_; rotate_left 1; (focus (intro wc hC; skip; go_simp; try rfl)); go_simp; refine hK.out _ ?_; clear hK K)
                refine hh_mid 8 rfl (by decide) (by kernel_rfl) (fun K hK => ?_)
                (refine mid_val ?_ ?_ (by rfl) ?_ ?_; rotate_left 2; (focus (go_simp; first | done | rfl | (refine And.intro ?_ ?_ <;> rfl))); go_simp; refine hK.out _ _ ?_ ?_ <;> clear hK K)
                · exact (h0hB_13.out.alloc h0hB_13.out.size _)
                have h0hB_17 := hid (show Below w16.heap.size w16 (h0V_11.alloc (.cells #[.int .i64 0, .int .i64 0, .slice none 0 0] 24)) from h0hB_13.out.alloc h0hB_13.out.size _)
                have h0HZ_18 := hid (show (h0V_11.alloc (.cells #[.int .i64 0, .int .i64 0, .slice none 0 0] 24)).heap[h0V_11.heap.size]? = some (.cells #[.int .i64 0, .int .i64 0, .slice none 0 0] 24 (0, 0)) from bk_new h0V_11 #[.int .i64 0, .int .i64 0, .slice none 0 0] 24)
                obtain ⟨⟨z0, z1, z2⟩, z3, z4, z5⟩ := blk3 h0HZ_18.out
                refine hh_mid 9 rfl (by decide) (by kernel_rfl) (fun K hK => ?_)
                (go_simp; refine hK.out _ _ ?_ ?_ <;> clear hK K)
                · exact h0hB_13.out.alloc h0hB_13.out.size _
                refine hh_done (by kernel_rfl) ?_
                simp only [List.drop_succ_cons, List.drop_zero]
                change wpList _ _ _ _ _ _
                go_wp2_with fail
                go_meet
                exact ⟨_, _, _, _, rfl, rfl, NSb.late h0HL_16.out h0hB_8.out⟩
              · skip
                (refine mid_val ?_ ?_ (by rfl) ?_ ?_; rotate_left 2; (focus (go_simp; first | done | rfl | (refine And.intro ?_ ?_ <;> rfl))); go_simp; refine hK.out _ _ ?_ ?_ <;> clear hK K)
                · exact (h0hB_8.out.alloc h0hB_8.out.size _)
                have h0hB_19 := hid (show Below w16.heap.size w16 (h0V_6.alloc (.cells #[.int .i64 0, .int .i64 0, .slice none 0 0] 24)) from h0hB_8.out.alloc h0hB_8.out.size _)
                have h0HZ_20 := hid (show (h0V_6.alloc (.cells #[.int .i64 0, .int .i64 0, .slice none 0 0] 24)).heap[h0V_6.heap.size]? = some (.cells #[.int .i64 0, .int .i64 0, .slice none 0 0] 24 (0, 0)) from bk_new h0V_6 #[.int .i64 0, .int .i64 0, .slice none 0 0] 24)
                have h0G0a_21 := hid (h0G0a_9.out.alloc (.cells #[.int .i64 0, .int .i64 0, .slice none 0 0] 24))
                have h0G1a_22 := hid (h0G1a_10.out.alloc (.cells #[.int .i64 0, .int .i64 0, .slice none 0 0] 24))
                refine hh_mid 4 rfl (by decide) (by kernel_rfl) (fun K hK => ?_)
                (refine mid_call ?_ ?_ (by rfl) ?_ ?_; rotate_left 2; (focus (go_simp; first | done | rfl | (refine And.intro ?_ ?_ <;> rfl))))
                refine (impl_AddSeries _ _ _ _ _ A0 _ _ _ _ _ A1 _ h0G0a_21.out h0G1a_22.out (HT.out.below (l_below L_232.out h0hB_19.out)) HR.out).mono ?_
                rintro e h0V_23 ⟨rp', rn', rc', rfl, h0hN_24⟩
                refine ⟨_, rfl, ?_⟩
                have h0hB_25 := hid (h0hB_19.out.trans (h0hN_24.2.2.2.mono (show w16.heap.size ≤ (h0V_6.alloc (.cells #[.int .i64 0, .int .i64 0, .slice none 0 0] 24)).heap.size from h0hB_19.out.size)))
                have h0HZ_26 := hid (bk_below h0HZ_20.out h0hN_24.2.2.2)
                have h0HE_27 := bk_lt h0HZ_20.out
                have h0G0a_28 := hid (h0G0a_21.out.below h0hN_24.2.2.2)
                have h0G1a_29 := hid (h0G1a_22.out.below h0hN_24.2.2.2)
                have h0HL_30 := hid h0hN_24
                clear h0hN_24
                (go_simp; refine hK.out _ _ ?_ ?_ <;> clear hK K)
                · exact h0hB_25.out
                (refine hh_take 5 HG rfl (by decide) (by kernel_rfl) (by kernel_rfl) h0hB_25.out (fun K hK => ?_); refine take_val ?_ (by rfl) ?_ ?_; rotate_left 1; (focus (intro wc hC; skip; go_simp; try rfl)); go_simp; refine hK.out _ ?_; clear hK K)
                (refine hh_take 6 HG rfl (by decide) (by kernel_rfl) (by kernel_rfl) h0hB_25.out (fun K hK => ?_); refine take_val ?_ (by rfl) ?_ ?_; rotate_left 1; (focus (intro wc hC; skip; go_simp; try rfl)); go_simp; refine hK.out _ ?_; clear hK K)
                (refine hh_take 7 HG rfl (by decide) (by kernel_rfl) (by kernel_rfl) h0hB_25.out (fun K hK => ?_); refine take_val ?_ (by rfl) ?_ ?_; rotate_left 1; (focus (intro wc hC; skip; go_simp; try rfl)); go_simp; refine hK.out _ ?_; clear hK K)
                obtain ⟨⟨z0, z1, z2⟩, z3, z4, z5⟩ := blk3 h0HZ_26.out
                refine hh_mid 9 rfl (by decide) (by kernel_rfl) (fun K hK => ?_)
                (go_simp; refine hK.out _ _ ?_ ?_ <;> clear hK K)
                · exact ((h0hB_25.out.setCell (show w16.heap.size ≤ h0V_6.heap.size from h0hB_8.out.size) _).setCell (show w16.heap.size ≤ h0V_6.heap.size from h0hB_8.out.size) _).setCell (show w16.heap.size ≤ h0V_6.heap.size from h0hB_8.out.size) _
                refine hh_done (by kernel_rfl) ?_
                simp only [List.drop_succ_cons, List.drop_zero]
                change wpList _ _ _ _ _ _
                go_wp2_with fail
                go_meet
                exact ⟨_, _, _, _, rfl, rfl, NSb.early h0HZ_26.out (show w16.heap.size ≤ h0V_6.heap.size from h0hB_8.out.size) h0HE_27 h0HL_30.out h0hB_19.out⟩
            · skip
              (refine mid_val ?_ ?_ (by rfl) ?_ ?_; rotate_left 2; (focus (go_simp; first | done | rfl | (refine And.intro ?_ ?_ <;> rfl))); go_simp; refine hK.out _ _ ?_ ?_ <;> clear hK K)
              · exact (h0hB_4.out.alloc h0hB_4.out.size _)
              have h0hB_31 := hid (show Below w16.heap.size w16 (h0V_2.alloc (.cells #[.int .i64 0, .int .i64 0, .slice none 0 0] 24)) from h0hB_4.out.alloc h0hB_4.out.size _)
              have h0HZ_32 := hid (show (h0V_2.alloc (.cells #[.int .i64 0, .int .i64 0, .slice none 0 0] 24)).heap[h0V_2.heap.size]? = some (.cells #[.int .i64 0, .int .i64 0, .slice none 0 0] 24 (0, 0)) from bk_new h0V_2 #[.int .i64 0, .int .i64 0, .slice none 0 0] 24)
              have h0G0a_33 := hid (h0G0a_5.out.alloc (.cells #[.int .i64 0, .int .i64 0, .slice none 0 0] 24))
              refine hh_mid 3 rfl (by decide) (by kernel_rfl) (fun K hK => ?_)
              (refine mid_call ?_ ?_ (by rfl) ?_ ?_; rotate_left 2; (focus (go_simp; first | done | rfl | (refine And.intro ?_ ?_ <;> rfl))))
              refine (law_toSeries _ _ _ _ _ A1 _ (H1a.out.below (l_below L_232.out h0hB_31.out)) (by omega)).mono ?_
              rintro e h0V_34 ⟨u1a, rfl, h0hN_35⟩
              refine ⟨_, rfl, ?_⟩
              have h0hB_36 := hid (h0hB_31.out.trans (h0hN_35.2.2.2.mono (show w16.heap.size ≤ (h0V_2.alloc (.cells #[.int .i64 0, .int .i64 0, .slice none 0 0] 24)).heap.size from h0hB_31.out.size)))
              have h0HZ_37 := hid (bk_below h0HZ_32.out h0hN_35.2.2.2)
              have h0G0a_38 := hid (h0G0a_33.out.below h0hN_35.2.2.2)
              have h0G1a_39 := hid (h0hN_35.1.rd)
              clear h0hN_35
              (go_simp; refine hK.out _ _ ?_ ?_ <;> clear hK K)
              · exact h0hB_36.out
              refine hh_mid 4 rfl (by decide) (by kernel_rfl) (fun K hK => ?_)
              (refine mid_call ?_ ?_ (by rfl) ?_ ?_; rotate_left 2; (focus (go_simp; first | done | rfl | (refine And.intro ?_ ?_ <;> rfl))))
              refine (impl_AddSeries _ _ _ _ _ A0 _ _ _ _ _ A1 _ h0G0a_38.out h0G1a_39.out (HT.out.below (l_below L_232.out h0hB_36.out)) HR.out).mono ?_
              rintro e h0V_40 ⟨rp', rn', rc', rfl, h0hN_41⟩
              refine ⟨_, rfl, ?_⟩
              have h0hB_42 := hid (h0hB_36.out.trans (h0hN_41.2.2.2.mono (show w16.heap.size ≤ h0V_34.heap.size from h0hB_36.out.size)))
              have h0HZ_43 := hid (bk_below h0HZ_37.out h0hN_41.2.2.2)
              have h0HE_44 := bk_lt h0HZ_37.out
              have h0G0a_45 := hid (h0G0a_38.out.below h0hN_41.2.2.2)
              have h0G1a_46 := hid (h0G1a_39.out.below h0hN_41.2.2.2)
              have h0HL_47 := hid h0hN_41
              clear h0hN_41
              (go_simp; refine hK.out _ _ ?_ ?_ <;> clear hK K)
              · exact h0hB_42.out
              (refine hh_take 5 HG rfl (by decide) (by kernel_rfl) (by kernel_rfl) h0hB_42.out (fun K hK => ?_); refine take_val ?_ (by rfl) ?_ ?_; rotate_left 1; (focus (intro wc hC; skip; go_simp; try rfl)); go_simp; refine hK.out _ ?_; clear hK K)
              (refine hh_take 6 HG rfl (by decide) (by kernel_rfl) (by kernel_rfl) h0hB_42.out (fun K hK => ?_); refine take_val ?_ (by rfl) ?_ ?_; rotate_left 1; (focus (intro wc hC; skip; go_simp; try rfl)); go_simp; refine hK.out _ ?_; clear hK K)
              (refine hh_take 7 HG rfl (by decide) (by kernel_rfl) (by kernel_rfl) h0hB_42.out (fun K hK => ?_); refine take_val ?_ (by rfl) ?_ ?_; rotate_left 1; (focus (intro wc hC; skip; go_simp; try rfl)); go_simp; refine hK.out _ ?_; clear hK K)
              obtain ⟨⟨z0, z1, z2⟩, z3, z4, z5⟩ := blk3 h0HZ_43.out
              refine hh_mid 9 rfl (by decide) (by kernel_rfl) (fun K hK => ?_)
              (go_simp; refine hK.out _ _ ?_ ?_ <;> clear hK K)
              · exact ((h0hB_42.out.setCell (show w16.heap.size ≤ h0V_2.heap.size from h0hB_4.out.size) _).setCell (show w16.heap.size ≤ h0V_2.heap.size from h0hB_4.out.size) _).setCell (show w16.heap.size ≤ h0V_2.heap.size from h0hB_4.out.size) _
              refine hh_done (by kernel_rfl) ?_
              simp only [List.drop_succ_cons, List.drop_zero]
              change wpList _ _ _ _ _ _
              go_wp2_with fail
              go_meet
              exact ⟨_, _, _, _, rfl, rfl, NSb.early h0HZ_43.out (show w16.heap.size ≤ h0V_2.heap.size from h0hB_4.out.size) h0HE_44 h0HL_47.out h0hB_36.out⟩
          · skip
            (refine mid_val ?_ ?_ (by rfl) ?_ ?_; rotate_left 2; (focus (go_simp; first | done | rfl | (refine And.intro ?_ ?_ <;> rfl))); go_simp; refine hK.out _ _ ?_ ?_ <;> clear hK K)
            · exact (h0hB_1.out.alloc h0hB_1.out.size _)
            have h0hB_48 := hid (show Below w16.heap.size w16 (w16.drew.alloc (.cells #[.int .i64 0, .int .i64 0, .slice none 0 0] 24)) from h0hB_1.out.alloc h0hB_1.out.size _)
            have h0HZ_49 := hid (show (w16.drew.alloc (.cells #[.int .i64 0, .int .i64 0, .slice none 0 0] 24)).heap[w16.heap.size]? = some (.cells #[.int .i64 0, .int .i64 0, .slice none 0 0] 24 (0, 0)) from bk_new w16.drew #[.int .i64 0, .int .i64 0, .slice none 0 0] 24)
            refine hh_mid 1 rfl (by decide) (by kernel_rfl) (fun K hK => ?_)
            (refine mid_call ?_ ?_ (by rfl) ?_ ?_; rotate_left 2; (focus (go_simp; first | done | rfl | (refine And.intro ?_ ?_ <;> rfl))))
            refine (law_toSeries _ _ _ _ _ A0 _ (H0a.out.below (l_below L_232.out h0hB_48.out)) (by omega)).mono ?_
            rintro e h0V_50 ⟨u0a, rfl, h0hN_51⟩
            refine ⟨_, rfl, ?_⟩
            have h0hB_52 := hid (h0hB_48.out.trans (h0hN_51.2.2.2.mono (show w16.heap.size ≤ (w16.drew.alloc (.cells #[.int .i64 0, .int .i64 0, .slice none 0 0] 24)).heap.size from h0hB_48.out.size)))
            have h0HZ_53 := hid (bk_below h0HZ_49.out h0hN_51.2.2.2)
            have h0G0a_54 := hid (h0hN_51.1.rd)
            clear h0hN_51
            (go_simp; refine hK.out _ _ ?_ ?_ <;> clear hK K)
            · exact h0hB_52.out
            refine hh_mid 3 rfl (by decide) (by kernel_rfl) (fun K hK => ?_)
            (refine mid_call ?_ ?_ (by rfl) ?_ ?_; rotate_left 2; (focus (go_simp; first | done | rfl | (refine And.intro ?_ ?_ <;> rfl))))
            refine (law_toSeries _ _ _ _ _ A1 _ (H1a.out.below (l_below L_232.out h0hB_52.out)) (by omega)).mono ?_
            rintro e h0V_55 ⟨u1a, rfl, h0hN_56⟩
            refine ⟨_, rfl, ?_⟩
            have h0hB_57 := hid (h0hB_52.out.trans (h0hN_56.2.2.2.mono (show w16.heap.size ≤ h0V_50.heap.size from h0hB_52.out.size)))
            have h0HZ_58 := hid (bk_below h0HZ_53.out h0hN_56.2.2.2)
            have h0G0a_59 := hid (h0G0a_54.out.below h0hN_56.2.2.2)
            have h0G1a_60 := hid (h0hN_56.1.rd)
            clear h0hN_56
            (go_simp; refine hK.out _ _ ?_ ?_ <;> clear hK K)
            · exact h0hB_57.out
            refine hh_mid 4 rfl (by decide) (by kernel_rfl) (fun K hK => ?_)
            (refine mid_call ?_ ?_ (by rfl) ?_ ?_; rotate_left 2; (focus (go_simp; first | done | rfl | (refine And.intro ?_ ?_ <;> rfl))))
            refine (impl_AddSeries _ _ _ _ _ A0 _ _ _ _ _ A1 _ h0G0a_59.out h0G1a_60.out (HT.out.below (l_below L_232.out h0hB_57.out)) HR.out).mono ?_
            rintro e h0V_61 ⟨rp', rn', rc', rfl, h0hN_62⟩
            refine ⟨_, rfl, ?_⟩
            have h0hB_63 := hid (h0hB_57.out.trans (h0hN_62.2.2.2.mono (show w16.heap.size ≤ h0V_55.heap.size from h0hB_57.out.size)))
            have h0HZ_64 := hid (bk_below h0HZ_58.out h0hN_62.2.2.2)
            have h0HE_65 := bk_lt h0HZ_58.out
            have h0G0a_66 := hid (h0G0a_59.out.below h0hN_62.2.2.2)
            have h0G1a_67 := hid (h0G1a_60.out.below h0hN_62.2.2.2)
            have h0HL_68 := hid h0hN_62
            clear h0hN_62
            (go_simp; refine hK.out _ _ ?_ ?_ <;> clear hK K)
            · exact h0hB_63.out
            (refine hh_take 5 HG rfl (by decide) (by kernel_rfl) (by kernel_rfl) h0hB_63.out (fun K hK => ?_); refine take_val ?_ (by rfl) ?_ ?_; rotate_left 1; (focus (intro wc hC; skip; go_simp; try rfl)); go_simp; refine hK.out _ ?_; clear hK K)
            (refine hh_take 6 HG rfl (by decide) (by kernel_rfl) (by kernel_rfl) h0hB_63.out (fun K hK => ?_); refine take_val ?_ (by rfl) ?_ ?_; rotate_left 1; (focus (intro wc hC; skip; go_simp; try rfl)); go_simp; refine hK.out _ ?_; clear hK K)
            (refine hh_take 7 HG rfl (by decide) (by kernel_rfl) (by kernel_rfl) h0hB_63.out (fun K hK => ?_); refine take_val ?_ (by rfl) ?_ ?_; rotate_left 1; (focus (intro wc hC; skip; go_simp; try rfl)); go_simp; refine hK.out _ ?_; clear hK K)
            obtain ⟨⟨z0, z1, z2⟩, z3, z4, z5⟩ := blk3 h0HZ_64.out
            refine hh_mid 9 rfl (by decide) (by kernel_rfl) (fun K hK => ?_)
            (go_simp; refine hK.out _ _ ?_ ?_ <;> clear hK K)
            · exact ((h0hB_63.out.setCell (show w16.heap.size ≤ w16.heap.size from h0hB_1.out.size) _).setCell (show w16.heap.size ≤ w16.heap.size from h0hB_1.out.size) _).setCell (show w16.heap.size ≤ w16.heap.size from h0hB_1.out.size) _
            refine hh_done (by kernel_rfl) ?_
            simp only [List.drop_succ_cons, List.drop_zero]
            change wpList _ _ _ _ _ _
            go_wp2_with fail
            go_meet
            exact ⟨_, _, _, _, rfl, rfl, NSb.early h0HZ_64.out (show w16.heap.size ≤ w16.heap.size from h0hB_1.out.size) h0HE_65 h0HL_68.out h0hB_57.out⟩
        case rest =>
          obtain ⟨w17, rfl⟩ : ∃ w17 : World, w17 = wc := ⟨_, rfl⟩
          obtain ⟨h0k, h0p, h0n, h0c, rfl, rfl, hN⟩ := hcut
          have y17 := hN.nt.2.2.2.size
          try simp only [World.size_alloc] at y17
          have HN := hid hN
          clear hN KP
          have L_239 := hid (l_below L_232.out HN.out.nt.2.2.2)
          have Bbox0_240 := hid (bk_below Bbox0_233.out HN.out.nt.2.2.2)
          have Bbox1_241 := hid (bk_below Bbox1_234.out HN.out.nt.2.2.2)
          have Ov0a_242 := hid (Ov0a_235.out.below HN.out.nt.2.2.2)
          have Bv0_243 := hid (bk_below Bv0_236.out HN.out.nt.2.2.2)
          have Bg0_244 := hid (bk_below Bg0_237.out HN.out.nt.2.2.2)
          have Og0a_245 := hid (Og0a_238.out.below HN.out.nt.2.2.2)
          clear L_232 Bbox0_233 Bbox1_234 Ov0a_235 Bv0_236 Bg0_237 Og0a_238
          have Oh0a_246 := hid (Ob.mk' HN.out.nt.1)
          have Bh0_247 := hid (HN.out.bk)
          have y18 := bk_lt Bh0_247.out
          have y19 := HN.out.lo
          have hnh0 : h0n ≤ 1000 := by rw [← HN.out.nt.1.rd.len]; exact hlA
          clear HN
          obtain ⟨⟨q00, q01, q02⟩, _⟩ := blk3 Bh0_247.out
          obtain ⟨⟨q10, q11, q12⟩, _⟩ := blk3 Bv0_243.out
          go_wp2_with fail
          refine (law_eqSeries_true _ _ _ _ _ _ _ _ rA _ Oh0a_246.out.fr.rd Ov0a_242.out.fr.rd).mono ?_
          rintro e w18 ⟨rfl, hB⟩
          have y20 := hB.size
          try simp only [World.size_alloc] at y20
          have HB := hid hB
          clear hB
          have L_248 := hid (l_below L_239.out HB.out)
          have Bbox0_249 := hid (bk_below Bbox0_240.out HB.out)
          have Bbox1_250 := hid (bk_below Bbox1_241.out HB.out)
          have Ov0a_251 := hid (Ov0a_242.out.below HB.out)
          have Bv0_252 := hid (bk_below Bv0_243.out HB.out)
          have Bg0_253 := hid (bk_below Bg0_244.out HB.out)
          have Og0a_254 := hid (Og0a_245.out.below HB.out)
          have Oh0a_255 := hid (Oh0a_246.out.below HB.out)
          have Bh0_256 := hid (bk_below Bh0_247.out HB.out)
          clear L_239 Bbox0_240 Bbox1_241 Ov0a_242 Bv0_243 Bg0_244 Og0a_245 Oh0a_246 Bh0_247
          clear HB
          clear q00 q01 q02 q10 q11 q12
          obtain ⟨⟨q00, q01, q02⟩, _⟩ := blk3 Bg0_253.out
          go_wp2_with fail
          refine (law_heldSeries _ _ _ _ _ 1 _ Og0a_254.out.fr.rd (by omega) (by omega) (by omega)).mono ?_
          rintro e w19 ⟨rfl, hB⟩
          have y21 := hB.size
          try simp only [World.size_alloc] at y21
          have HB := hid hB
          clear hB
          have L_257 := hid (l_below L_248.out HB.out)
          have Bbox0_258 := hid (bk_below Bbox0_249.out HB.out)
          have Bbox1_259 := hid (bk_below Bbox1_250.out HB.out)
          have Ov0a_260 := hid (Ov0a_251.out.below HB.out)
          have Bv0_261 := hid (bk_below Bv0_252.out HB.out)
          have Bg0_262 := hid (bk_below Bg0_253.out HB.out)
          have Og0a_263 := hid (Og0a_254.out.below HB.out)
          have Oh0a_264 := hid (Oh0a_255.out.below HB.out)
          have Bh0_265 := hid (bk_below Bh0_256.out HB.out)
          clear L_248 Bbox0_249 Bbox1_250 Ov0a_251 Bv0_252 Bg0_253 Og0a_254 Oh0a_255 Bh0_256
          clear HB
          go_wp2_with fail
          go_ret
          exact ⟨rfl, L_257.out⟩
    · skip
      have L_366 := hid (Below.refl w.heap.size w)
      have L_367 := hid (l_alloc L_366.out (.cells #[.int .i64 o0, .int .i64 z0, .slice a0 n0 c0] 29))
      clear L_366
      have Bbox0_368 := hid (bk_new w #[.int .i64 o0, .int .i64 z0, .slice a0 n0 c0] 29)
      have L_369 := hid (l_alloc L_367.out (.cells #[.int .i64 o1, .int .i64 z1, .slice a1 n1 c1] 29))
      have Bbox0_370 := hid (bk_alloc Bbox0_368.out (.cells #[.int .i64 o1, .int .i64 z1, .slice a1 n1 c1] 29))
      clear L_367 Bbox0_368
      have Bbox1_371 := hid (heap_alloc_at (w.alloc (.cells #[.int .i64 o0, .int .i64 z0, .slice a0 n0 c0] 29)) #[.int .i64 o1, .int .i64 z1, .slice a1 n1 c1] 29 (w.heap.size + 1) (by simp))
      go_enter Tryd.func4, Tryd.ntmps4
      go_wp2_with fail
      refine (law_szSeries_yes _ _ _ _ _ _ _ (by omega) (by omega)).mono ?_
      rintro e w1 ⟨rfl, hB⟩
      have y22 := hB.size
      try simp only [World.size_alloc] at y22
      have HB := hid hB
      clear hB
      have L_372 := hid (l_below L_369.out HB.out)
      have Bbox0_373 := hid (bk_below Bbox0_370.out HB.out)
      have Bbox1_374 := hid (bk_below Bbox1_371.out HB.out)
      clear L_369 Bbox0_370 Bbox1_371
      clear HB
      obtain ⟨⟨q00, q01, q02⟩, _⟩ := blk3 Bbox0_373.out
      obtain ⟨⟨q10, q11, q12⟩, _⟩ := blk3 Bbox1_374.out
      go_wp2_with fail
      refine (law_szSeries_no _ _ _ _ _ _ _ (by omega) (by omega) (by omega) (by omega)).mono ?_
      rintro e w2 ⟨rfl, hB⟩
      have y23 := hB.size
      try simp only [World.size_alloc] at y23
      have HB := hid hB
      clear hB
      have L_375 := hid (l_below L_372.out HB.out)
      have Bbox0_376 := hid (bk_below Bbox0_373.out HB.out)
      have Bbox1_377 := hid (bk_below Bbox1_374.out HB.out)
      clear L_372 Bbox0_373 Bbox1_374
      clear HB
      clear q00 q01 q02 q10 q11 q12
      obtain ⟨⟨q00, q01, q02⟩, _⟩ := blk3 Bbox0_376.out
      obtain ⟨⟨q10, q11, q12⟩, _⟩ := blk3 Bbox1_377.out
      go_wp2_with fail
      go_ret
      exact ⟨rfl, L_375.out⟩
  · skip
    have L_478 := hid (Below.refl w.heap.size w)
    have L_479 := hid (l_alloc L_478.out (.cells #[.int .i64 o0, .int .i64 z0, .slice a0 n0 c0] 29))
    clear L_478
    have Bbox0_480 := hid (bk_new w #[.int .i64 o0, .int .i64 z0, .slice a0 n0 c0] 29)
    have L_481 := hid (l_alloc L_479.out (.cells #[.int .i64 o1, .int .i64 z1, .slice a1 n1 c1] 29))
    have Bbox0_482 := hid (bk_alloc Bbox0_480.out (.cells #[.int .i64 o1, .int .i64 z1, .slice a1 n1 c1] 29))
    clear L_479 Bbox0_480
    have Bbox1_483 := hid (heap_alloc_at (w.alloc (.cells #[.int .i64 o0, .int .i64 z0, .slice a0 n0 c0] 29)) #[.int .i64 o1, .int .i64 z1, .slice a1 n1 c1] 29 (w.heap.size + 1) (by simp))
    go_enter Tryd.func4, Tryd.ntmps4
    go_wp2_with fail
    refine (law_szSeries_no _ _ _ _ _ _ _ (by omega) (by omega) (by omega) (by omega)).mono ?_
    rintro e w1 ⟨rfl, hB⟩
    have y24 := hB.size
    try simp only [World.size_alloc] at y24
    have HB := hid hB
    clear hB
    have L_484 := hid (l_below L_481.out HB.out)
    have Bbox0_485 := hid (bk_below Bbox0_482.out HB.out)
    have Bbox1_486 := hid (bk_below Bbox1_483.out HB.out)
    clear L_481 Bbox0_482 Bbox1_483
    clear HB
    obtain ⟨⟨q00, q01, q02⟩, _⟩ := blk3 Bbox0_485.out
    obtain ⟨⟨q10, q11, q12⟩, _⟩ := blk3 Bbox1_486.out
    go_wp2_with fail
    go_ret
    exact ⟨rfl, L_484.out⟩
end Go.Proofs.YtgbjoaheidgafaaDoor
