/- AddSeries of the reference. -/
import Derived.Test.YtgbjoaheidgafaaDoorAddV
import Derived.Deep.RegionLaw
namespace Go.Proofs.YtgbjoaheidgafaaDoor
open Go.RowKit

/-- A series with the terms copied. -/
theorem spec_l4Copy (o z : Int) (a1 : Option Addr) (n1 c1 : Nat) (A : List Int) (w : World) (h1 : Rd w a1 n1 c1 A) (hn : n1 ≤ 37) :
    Calls Tryd.prog 28 #[.agg #[.int .i64 o, .int .i64 z, .slice a1 n1 c1]] w fun e w' => ∃ p c, e = .returned (.agg #[.int .i64 o, .int .i64 z, .slice p n1 c]) ∧ NewS w w' A p n1 c := by
  have H1 := hid h1
  clear h1
  have S0 := hid ((St.first w #[.int .i64 o, .int .i64 z, .slice a1 n1 c1] 24).alloc (.cells #[.int .i64 0, .int .i64 0, .slice none 0 0] 24))
  have R0 := hid (heap_alloc_at (w.alloc (.cells #[.int .i64 o, .int .i64 z, .slice a1 n1 c1] 24)) #[.int .i64 0, .int .i64 0, .slice none 0 0] 24 (w.heap.size + 1) (by simp))
  go_enter Tryd.func28, Tryd.ntmps28
  go_wp2_with fail
  obtain ⟨W, hW⟩ : ∃ W, W = (w.alloc (.cells #[.int .i64 o, .int .i64 z, .slice a1 n1 c1] 24)).alloc (.cells #[.int .i64 0, .int .i64 0, .slice none 0 0] 24) := ⟨_, rfl⟩
  have hWs : w.heap.size + 1 < W.heap.size := by rw [hW]; simp
  rw [← hW]
  have S2 := hid (show St w W _ _ from hW ▸ S0.out)
  have R2 := hid (show W.heap[w.heap.size + 1]? = _ from hW ▸ R0.out)
  clear hW S0 R0
  have HK : Hid (∀ wc, Below W.heap.size W wc → wc.cell? ⟨w.heap.size, 0, none⟩ = some (.int .i64 o) ∧ wc.cell? ⟨w.heap.size, 1, none⟩ = some (.int .i64 z) ∧ wc.cell? ⟨w.heap.size, 2, none⟩ = some (.slice a1 n1 c1)) :=
    hid fun wc h => (blk3 (bk_below S2.out.box h)).1
  have hS0 := hid (show Below W.heap.size W W.drew from (Below.refl _ _).drew)
  refine (fun (HG : Rg _ _ 9) => wp_region_hh (S := fun w' => Below W.heap.size W w') HG rfl ?_) ⟨by kernel_rfl, by decide, by kernel_rfl, by kernel_rfl, fun _ _ d _ _ h => by cases d <;> exact h⟩
  (refine hh_take 0 HG rfl (by decide) (by kernel_rfl) (by kernel_rfl) hS0.out (fun K hK => ?_); refine take_val ?_ (by rfl) ?_ ?_; rotate_left 1; (focus (intro wc hC; skip; go_simp; try rfl)); go_simp; refine hK.out _ ?_; clear hK K)
  (refine hh_take 1 HG rfl (by decide) (by kernel_rfl) (by kernel_rfl) hS0.out (fun K hK => ?_); refine take_val ?_ (by rfl) ?_ ?_; rotate_left 1; (focus (intro wc hC; obtain ⟨u0, u1, u2⟩ := HK.out wc hC; go_simp; try rfl)); go_simp; refine hK.out _ ?_; clear hK K)
  (refine hh_take 2 HG rfl (by decide) (by kernel_rfl) (by kernel_rfl) hS0.out (fun K hK => ?_); refine take_val ?_ (by rfl) ?_ ?_; rotate_left 1; (focus (intro wc hC; skip; go_simp; try rfl)); go_simp; refine hK.out _ ?_; clear hK K)
  (refine hh_take 3 HG rfl (by decide) (by kernel_rfl) (by kernel_rfl) hS0.out (fun K hK => ?_); refine take_val ?_ (by rfl) ?_ ?_; rotate_left 1; (focus (intro wc hC; obtain ⟨u0, u1, u2⟩ := HK.out wc hC; go_simp; try rfl)); go_simp; refine hK.out _ ?_; clear hK K)
  (refine hh_take 5 HG rfl (by decide) (by kernel_rfl) (by kernel_rfl) hS0.out (fun K hK => ?_); refine take_val ?_ (by rfl) ?_ ?_; rotate_left 1; (focus (intro wc hC; skip; go_simp; try rfl)); go_simp; refine hK.out _ ?_; clear hK K)
  (refine hh_take 6 HG rfl (by decide) (by kernel_rfl) (by kernel_rfl) hS0.out (fun K hK => ?_); refine take_val ?_ (by rfl) ?_ ?_; rotate_left 1; (focus (intro wc hC; obtain ⟨u0, u1, u2⟩ := HK.out wc hC; go_simp; try rfl)); go_simp; refine hK.out _ ?_; clear hK K)
  refine hh_mid 4 rfl (by decide) (by kernel_rfl) (fun K hK => ?_)
  (refine mid_val ?_ ?_ (by rfl) ?_ ?_; rotate_left 2; (focus (go_simp; first | done | rfl | (refine And.intro ?_ ?_ <;> rfl))); go_simp; refine hK.out _ _ ?_ ?_ <;> clear hK K)
  · exact hS0.out.alloc hS0.out.size _
  have hB1 := hid (show Below W.heap.size W (W.drew.alloc (.cells #[] 3)) from hS0.out.alloc hS0.out.size _)
  have O1 := hid (Ow.empty W.drew W.heap.size (Nat.le_refl _))
  refine hh_mid 7 rfl (by decide) (by kernel_rfl) (fun K hK => ?_)
  refine step_append_ints (by rfl) _ _ (by rfl) W.heap.size _ _ _ (by rfl) O1.out _ n1 c1 A (by rfl) (H1.out.below (l_below S2.out.below hB1.out)) (by omega) hB1.out.size ?_
  intro ao4 c4' w4 hO4 hG4 hW4
  have hb4 : Below W.heap.size W w4 := hB1.out.grown hG4 hB1.out.size (fun j hj => (O1.out.lt j hj).1)
  have y4 := hb4.size
  (go_simp; refine hK.out _ _ ?_ ?_ <;> clear hK K)
  · exact hb4
  have hb4H := hid hb4
  (refine hh_take 8 HG rfl (by decide) (by kernel_rfl) (by kernel_rfl) hb4H.out (fun K hK => ?_); refine take_val ?_ (by rfl) ?_ ?_; rotate_left 1; (focus (intro wc hC; skip; go_simp; try rfl)); go_simp; refine hK.out _ ?_; clear hK K)
  refine hh_done (by kernel_rfl) ?_
  simp only [List.drop_succ_cons, List.drop_zero]
  change wpList _ _ _ _ _ _
  have R4 := hid (bk_below R2.out hb4)
  obtain ⟨⟨r0, r1, r2⟩, f0, f1, f2⟩ := blk3 R4.out
  have O4 := hid hO4
  clear hO4 hG4 hW4 hb4
  go_wp2_with fail
  obtain ⟨a4, c4'', ea, hF⟩ := O4.out.fr
  cases ea
  exact ret_ser rfl rfl (heap_setCell_same _ _ _ _ _ _ (heap_setCell_same _ _ _ _ _ _ (heap_setCell_same _ _ _ _ _ _ R4.out))) rfl ⟨_, _, rfl, by simpa using (frS_set (frS_set (frS_set hF _ hWs) _ hWs) _ hWs).mono (by omega), trivial, trivial,
    (((l_below S2.out.below hb4H.out).setCell (Nat.le_succ _) _).setCell (Nat.le_succ _) _).setCell (Nat.le_succ _) _⟩
set_option maxRecDepth 20000 in
set_option maxHeartbeats 4000000 in
theorem spec_AddSeries (o z : Int) (a1 : Option Addr) (n1 c1 : Nat) (A : List Int) (o2 z2 : Int) (a2 : Option Addr) (n2 c2 : Nat) (B : List Int) (w : World) (h1 : Rd w a1 n1 c1 A) (h2 : Rd w a2 n2 c2 B) (ht : Tc w) {ro rz : Int} {rA : List Int} {rb : Bool} (hr : addV o z A o2 z2 B = ⟨ro, rz, rA, rb⟩) :
    Calls Tryd.prog 13 #[.agg #[.int .i64 o, .int .i64 z, .slice a1 n1 c1], .agg #[.int .i64 o2, .int .i64 z2, .slice a2 n2 c2]] w fun e w' => ∃ p n c, e = .returned (.tuple #[.agg #[.int .i64 ro, .int .i64 rz, .slice p n c], .bool rb]) ∧ NewS w w' rA p n c := by
  have H1 := hid h1
  have H2 := hid h2
  have HT := hid ht
  clear h1 h2 ht
  have S0 := hid (((St.first w #[.int .i64 o, .int .i64 z, .slice a1 n1 c1] 24).alloc (.cells #[.int .i64 o2, .int .i64 z2, .slice a2 n2 c2] 24)).alloc (.cells #[.int .i64 0, .int .i64 0, .slice none 0 0] 24))
  have T0 := hid (bk_alloc (heap_alloc_at (w.alloc (.cells #[.int .i64 o, .int .i64 z, .slice a1 n1 c1] 24)) #[.int .i64 o2, .int .i64 z2, .slice a2 n2 c2] 24 (w.heap.size + 1) (by simp)) (.cells #[.int .i64 0, .int .i64 0, .slice none 0 0] 24))
  have R0 := hid (heap_alloc_at ((w.alloc (.cells #[.int .i64 o, .int .i64 z, .slice a1 n1 c1] 24)).alloc (.cells #[.int .i64 o2, .int .i64 z2, .slice a2 n2 c2] 24)) #[.int .i64 0, .int .i64 0, .slice none 0 0] 24 (w.heap.size + 1 + 1) (by simp))
  cases hok : (serOk o z A && (serOk o2 z2 B && decide (o = o2))) with
  | false =>
    rw [addV_no hok] at hr
    cases hr
    have HOK := hid hok
    clear hok
    go_enter Tryd.func13, Tryd.ntmps13
    go_wp2_with fail
    refine (spec_l4Two _ _ _ _ _ A _ _ _ _ _ B _ (H1.out.below S0.out.below) (H2.out.below S0.out.below) (HT.out.below S0.out.below)).mono ?_
    rw [HOK.out]
    rintro e w1 ⟨rfl, hB⟩
    have S1 := hid (S0.out.step hB)
    have R1 := hid (bk_below R0.out hB)
    obtain ⟨⟨r0, r1, r2⟩, f0, f1, f2⟩ := blk3 R1.out
    clear hB
    go_wp2_with fail
    obtain ⟨e1, e2⟩ := noneS_end S1.out.below (show w.heap.size ≤ w.heap.size + 1 + 1 by omega) R1.out (.int .i64 0) (.int .i64 0) (.slice none 0 0)
    exact ret_serb rfl rfl rfl e1 rfl ⟨_, _, _, rfl, e2⟩
  | true =>
    have hp := hok
    clear hok
    simp only [Bool.and_eq_true, decide_eq_true_eq] at hp
    obtain ⟨p1, p2, rfl⟩ := hp
    rw [addV_yes p1 p2] at hr
    cases hr
    obtain ⟨k, n, rfl, hk, hn, h37, hl1⟩ := serOk_parts p1
    obtain ⟨k', n', ek, _, hn', _, hl2⟩ := serOk_parts p2
    obtain rfl : k' = k := by omega
    obtain rfl : n' = n := by rw [hn] at hn'; omega
    obtain rfl : n1 = n' := by rw [← H1.out.len]; exact hl1
    obtain rfl : n2 = n1 := by rw [← H2.out.len]; exact hl2
    have P1 := hid p1
    have P2 := hid p2
    clear p1 p2 hn hn' hl1 hl2 ek
    go_enter Tryd.func13, Tryd.ntmps13
    go_wp2_with fail
    refine (spec_l4Two _ _ _ _ _ A _ _ _ _ _ B _ (H1.out.below S0.out.below) (H2.out.below S0.out.below) (HT.out.below S0.out.below)).mono ?_
    rw [show (serOk (k' : Int) z A && (serOk (k' : Int) z2 B && decide ((k' : Int) = (k' : Int)))) = true by rw [P1.out, P2.out]; simp]
    rintro e w1 ⟨rfl, hB⟩
    have S1 := hid (S0.out.step hB)
    have T1 := hid (bk_below T0.out hB)
    have R1 := hid (bk_below R0.out hB)
    have y1 := bk_lt R1.out
    obtain ⟨⟨q0, q1, q2⟩, _⟩ := blk3 S1.out.box
    clear hB
    go_wp2_with fail
    refine (spec_l4Copy _ _ _ _ _ A _ (H1.out.below S1.out.below) h37).mono ?_
    rintro e w2 ⟨p, c, rfl, hN⟩
    have y2 := hN.2.2.2.size
    have S2 := hid (S1.out.step hN.2.2.2)
    have T2 := hid (bk_below T1.out hN.2.2.2)
    have M0 := hid (show MkS w1.heap.size w1 (w2.alloc (.cells #[.int .i64 k', .int .i64 z, .slice p n2 c] 24)) k' z w2.heap.size p n2 c A from
      ⟨hN.2.2.2.alloc y2 _, bk_new _ _ _, hN.1.alloc _, y2, fr_ne hN.1 (.inr (Nat.le_refl _))⟩)
    have S3 := hid (S2.out.alloc (.cells #[.int .i64 k', .int .i64 z, .slice p n2 c] 24))
    have T3 := hid (bk_alloc T2.out (.cells #[.int .i64 k', .int .i64 z, .slice p n2 c] 24))
    clear hN q0 q1 q2 S2 T2
    obtain ⟨⟨q0, q1, q2⟩, _⟩ := blk3 S3.out.box
    obtain ⟨⟨p0, p1, p2⟩, _⟩ := blk3 T3.out
    go_wp2_with fail
    refine (spec_Plus _ _ _).mono ?_
    rintro e w' ⟨rfl, rfl⟩
    obtain ⟨W3, hW3⟩ : ∃ W3, W3 = w2.alloc (.cells #[.int .i64 k', .int .i64 z, .slice p n2 c] 24) := ⟨_, rfl⟩
    rw [← hW3] at q0 q1 q2 p0 p1 p2 ⊢
    have M1 := hid (hW3 ▸ M0.out)
    clear hW3 M0 S3 T3
    obtain ⟨⟨r0, r1, r2⟩, f0, f1, f2⟩ := blk3 M1.out.out
    have M2 := hid (M1.out.one (M.plus z z2))
    go_wp2_with fail
    clear q0 q1 q2 p0 p1 p2 r0 r1 r2 f0 f1 f2 M1
    go_loopw [7] (fun i wr => ∃ j : Nat, i = .int .i64 j ∧ j ≤ n2 ∧ w1.heap.size ≤ wr.heap.size ∧ Hid (MkS w1.heap.size w1 wr k' (M.plus z z2) w2.heap.size p n2 c ((addL A B).take j ++ A.drop j))) (fun i _ => n2 - (intOf i).toNat)
    case atStart => exact ⟨0, rfl, Nat.zero_le _, M2.out.l.size, hid M2.out⟩
    case round =>
      obtain ⟨j, rfl, hj, hz, hM⟩ := hrel
      obtain ⟨wo, rfl⟩ : ∃ wo : World, wo = wr := ⟨_, rfl⟩
      obtain ⟨⟨q0, q1, q2⟩, _⟩ := blk3 (hM.out.old (by omega) S1.out.box)
      obtain ⟨⟨p0, p1, p2⟩, _⟩ := blk3 (hM.out.old (by omega) T1.out)
      obtain ⟨⟨r0, r1, r2⟩, _⟩ := blk3 hM.out.out
      by_cases hlt : j < n2
      · obtain ⟨b1, f1, x, rfl, hc1, _, _, hx⟩ := (H1.out.below (l_below S1.out.below hM.out.l)).at hlt
        obtain ⟨b2, f2, y, rfl, hc2, _, _, hy⟩ := (H2.out.below (l_below S1.out.below hM.out.l)).at hlt
        obtain ⟨b3, f3, v, rfl, hc3, _, _, _⟩ := hM.out.a.rd.at hlt
        have hfz := (hM.out.a.own _ _ _ rfl (by omega)).2 j hlt
        have hki : (j : Int) < (n2 : Int) := by omega
        go_wp2_with fail
        refine wp_region_still_tail 14 (by kernel_rfl) (by kernel_rfl) ?_
        simp only [List.take_succ_cons, List.take_zero, List.drop_succ_cons, List.drop_zero]
        repeat still_step
        still_call ((spec_Plus _ _ _).mono fun _ _ h => ⟨h.1, h.2.symm⟩)
        refine wpStill_nil ?_
        change wpList _ _ _ _ _ wo.drew
        go_wp2_with fail
        go_roundw
        case rel =>
          have hs := (hM.out.store hlt (x := M.plus x y) (I64.num (M.num_plus _ _))).drew
          rw [mix_step (addL_len H1.out.len H2.out.len) H1.out.len hlt (addL_at H1.out.len H2.out.len hlt hx.out hy.out)] at hs
          exact ⟨j + 1, by go_num, by omega, by simpa using hz, hid hs⟩
        case measure => simp [intOf]; omega
      · obtain rfl : n2 = j := by omega
        have hM0 := hM.out
        rw [mix_end (addL_len H1.out.len H2.out.len) H1.out.len] at hM0
        have HM := hid hM0
        obtain ⟨⟨t0, t1, t2⟩, g0, g1, g2⟩ := blk3 (hM.out.old (by omega) R1.out)
        clear hM0 hM
        go_wp2_with fail
        obtain ⟨e1, e2⟩ := HM.out.finish (show w.heap.size ≤ w.heap.size + 1 + 1 by omega) (by omega) S1.out.below (by omega) R1.out
        exact ret_serb rfl rfl rfl e1 rfl ⟨_, _, _, rfl, e2⟩
end Go.Proofs.YtgbjoaheidgafaaDoor
