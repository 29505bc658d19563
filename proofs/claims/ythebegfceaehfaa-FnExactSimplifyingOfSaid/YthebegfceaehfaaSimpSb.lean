/- l6Simple of the specification. -/
import Derived.Test.YthebegfceaehfaaSimpSa
namespace Go.Proofs.Ythebegfceaehfaa
open Go.RowKit
attribute [local irreducible] M.powr
section
variable {S : Nat} {a1 : Option Addr} {n1 c1 : Nat} {A : List Int} {a2 : Option Addr} {c2 : Nat} {B : List Int}
set_option maxHeartbeats 8000000 in
theorem spec_simp1 (k : Nat) (w : World) (h1 : Rd w a1 n1 c1 A) (h2 : Rd w a2 S c2 B) (hok : tabOk S A B = true) (e1 : n1 = S * S) (hS : S ≤ 8) (hk1 : 1 ≤ k) (hk6 : k ≤ 6) :
    Calls Try.prog 34 #[.agg #[.int .i64 S, .slice a1 n1 c1, .slice a2 S c2], .int .i64 1, .int .i64 k] w fun e w' => e = .returned (.bool (simp1 A (nodesL A S S) S k)) ∧ Below w.heap.size w w' := by
  have H1 := hid h1
  have H2 := hid h2
  have hn := hid e1
  have S0 := hid (St.first w #[.int .i64 S, .slice a1 n1 c1, .slice a2 S c2] 27)
  have HV := hid (show nodesV S A B = nodesL A S S by unfold nodesV; rw [hok, if_pos rfl, Int.toNat_natCast])
  have hw1 : IntKind.i64.wrap ((k : Int) - 1) = (k : Int) - 1 := IntWalk.i64_in _ ⟨by omega, by omega⟩
  clear hok h1 h2 e1
  go_enter Try.func34, Try.ntmps34
  go_wp2_with fail
  refine (spec_NodesOf _ _ _ _ A _ _ _ B _ (H1.out.below S0.out.below) (H2.out.below S0.out.below)).mono ?_
  rw [HV.out]
  rintro e w2 ⟨a3, n3, c3, rfl, hN⟩
  obtain rfl : S = n3 := by have h := hN.1.rd.len; rw [← h]; simp [nodesL]
  have S2 := hid (S0.out.step hN.2)
  have HC := hid hN.1.rd
  clear hN
  generalize hC : nodesL A S S = C at *
  have HCE := hid hC
  clear hC
  go_wp2_with fail
  refine (spec_powers ((k : Int) - 1) a3 S c3 C _ HC.out ⟨by omega, by omega⟩ hS).mono ?_
  rintro e w3 ⟨p1, n1', d1, rfl, rfl, hN⟩
  have S3 := hid (S2.out.step hN.2)
  have HP := hid hN.1.rd
  have HC3 := hid (HC.out.below hN.2)
  have HB3 := hid (H2.out.below S3.out.below)
  have HA3 := hid (H1.out.below S3.out.below)
  clear hN hw1 S0 S2 HC HV H1 H2
  have HLW := hid (show (wgt B C k).length = S from wgt_len HB3.out.len HC3.out.len)
  have HO0 := hid (Ow.empty w3 w3.heap.size (Nat.le_refl _))
  go_wp2_with fail
  go_loopw [9, 10] (fun v i wr => ∃ j : Nat, i = .int .i64 j ∧ j ≤ S ∧ Hid (Ow wr w3.heap.size v j ((wgt B C k).take j)) ∧ Hid (Below w3.heap.size w3 wr)) (fun _ i _ => S - (intOf i).toNat)
  case atStart => exact ⟨0, rfl, Nat.zero_le _, HO0, hid (below_new _ _)⟩
  case round =>
    clear HO0
    obtain ⟨j, rfl, hj, hO, hB⟩ := hrel
    obtain ⟨W, rfl⟩ : ∃ W : World, W = wr := ⟨_, rfl⟩
    obtain ⟨⟨q0, q1, q2⟩, _⟩ := blk3 (S3.out.step hB.out).box
    by_cases hlt : j < S
    · have hji : (j : Int) < (S : Int) := by omega
      obtain ⟨b2, f2, x, rfl, hc2, _, _, hx⟩ := (HB3.out.below hB.out).at hlt
      obtain ⟨b3, f3, y, rfl, hc3, _, _, hy⟩ := (HP.out.below hB.out).at hlt
      have HST := hid (wgt_step HB3.out.len HC3.out.len hlt hx.out hy.out)
      have HU : Hid (∀ wc, Below W.heap.size W wc → (wc.cell? ⟨w.heap.size, 0, none⟩ = some (.int .i64 S) ∧ wc.cell? ⟨w.heap.size, 2, none⟩ = some (.slice (some ⟨b2, f2, none⟩) S c2)) ∧ wc.cell? ⟨b2, f2 + j, none⟩ = some (.int .i64 x) ∧ wc.cell? ⟨b3, f3 + j, none⟩ = some (.int .i64 y)) := hid fun wc h =>
        ⟨⟨(h.cell (World.block_lt_of_cell? W _ q0)).trans q0, (h.cell (World.block_lt_of_cell? W _ q2)).trans q2⟩, (h.cell (World.block_lt_of_cell? W _ hc2)).trans hc2, (h.cell (World.block_lt_of_cell? W _ hc3)).trans hc3⟩
      clear hc2 hc3
      go_wp2_with fail
      clear q0 q1 q2
      have vhB1 := hid (show Below W.heap.size W W.drew from (Below.refl _ _).drew)
      refine (fun (HG : Rg _ _ 12) => wp_region_hh (S := fun w' => Below W.heap.size W w') HG rfl ?_) ⟨by kernel_rfl, by decide, by kernel_rfl, by kernel_rfl, fun _ _ d _ _ h => by cases d <;> exact h⟩
      (refine hh_take 0 HG rfl (by decide) (by kernel_rfl) (by kernel_rfl) vhB1.out (fun K hK => ?_); refine take_val ?_ (by rfl) ?_ ?_; rotate_left 1; (focus (intro wc hC; skip; go_simp; try rfl)); go_simp; refine hK.out _ ?_; clear hK K)
      (refine hh_take 1 HG rfl (by decide) (by kernel_rfl) (by kernel_rfl) vhB1.out (fun K hK => ?_); refine take_val ?_ (by rfl) ?_ ?_; rotate_left 1; (focus (intro wc hC; skip; go_simp; try rfl)); go_simp; refine hK.out _ ?_; clear hK K)
      (refine hh_take 2 HG rfl (by decide) (by kernel_rfl) (by kernel_rfl) vhB1.out (fun K hK => ?_); refine take_val ?_ (by rfl) ?_ ?_; rotate_left 1; (focus (intro wc hC; obtain ⟨⟨u0, u1⟩, u2, u3⟩ := HU.out wc hC; go_simp; try rfl)); go_simp; refine hK.out _ ?_; clear hK K)
      (refine hh_take 3 HG rfl (by decide) (by kernel_rfl) (by kernel_rfl) vhB1.out (fun K hK => ?_); refine take_val ?_ (by rfl) ?_ ?_; rotate_left 1; (focus (intro wc hC; skip; go_simp; try rfl)); go_simp; refine hK.out _ ?_; clear hK K)
      (refine hh_take 4 HG rfl (by decide) (by kernel_rfl) (by kernel_rfl) vhB1.out (fun K hK => ?_); refine take_val ?_ (by rfl) ?_ ?_; rotate_left 1; (focus (intro wc hC; skip; go_simp; try rfl)); go_simp; refine hK.out _ ?_; clear hK K)
      (refine hh_take 5 HG rfl (by decide) (by kernel_rfl) (by kernel_rfl) vhB1.out (fun K hK => ?_); refine take_val ?_ (by rfl) ?_ ?_; rotate_left 1; (focus (intro wc hC; obtain ⟨⟨u0, u1⟩, u2, u3⟩ := HU.out wc hC; go_simp; try rfl)); go_simp; refine hK.out _ ?_; clear hK K)
      (refine hh_take 6 HG rfl (by decide) (by kernel_rfl) (by kernel_rfl) vhB1.out (fun K hK => ?_); refine take_val ?_ (by rfl) ?_ ?_; rotate_left 1; (focus (intro wc hC; skip; go_simp; try rfl)); go_simp; refine hK.out _ ?_; clear hK K)
      (refine hh_take 7 HG rfl (by decide) (by kernel_rfl) (by kernel_rfl) vhB1.out (fun K hK => ?_); refine take_val ?_ (by rfl) ?_ ?_; rotate_left 1; (focus (intro wc hC; skip; go_simp; try rfl)); go_simp; refine hK.out _ ?_; clear hK K)
      (refine hh_take 8 HG rfl (by decide) (by kernel_rfl) (by kernel_rfl) vhB1.out (fun K hK => ?_); refine take_val ?_ (by rfl) ?_ ?_; rotate_left 1; (focus (intro wc hC; skip; go_simp; try rfl)); go_simp; refine hK.out _ ?_; clear hK K)
      (refine hh_take 9 HG rfl (by decide) (by kernel_rfl) (by kernel_rfl) vhB1.out (fun K hK => ?_); refine take_val ?_ (by rfl) ?_ ?_; rotate_left 1; (focus (intro wc hC; obtain ⟨⟨u0, u1⟩, u2, u3⟩ := HU.out wc hC; go_simp; try rfl)); go_simp; refine hK.out _ ?_; clear hK K)
      refine hh_mid 10 rfl (by decide) (by kernel_rfl) (fun K hK => ?_)
      (refine mid_call ?_ ?_ (by rfl) ?_ ?_; rotate_left 2; (focus (go_simp; first | done | rfl | (refine And.intro ?_ ?_ <;> rfl))))
      refine (spec_Times x y _).mono ?_
      rintro e w' ⟨rfl, rfl⟩
      refine ⟨_, rfl, ?_⟩
      (go_simp; refine hK.out _ _ ?_ ?_ <;> clear hK K)
      · exact vhB1.out
      refine hh_mid 11 rfl (by decide) (by kernel_rfl) (fun K hK => ?_)
      (refine mid_val ?_ ?_ (by rfl) ?_ ?_; rotate_left 2; (focus (go_simp; first | done | rfl | (refine And.intro ?_ ?_ <;> rfl))); go_simp; refine hK.out _ _ ?_ ?_ <;> clear hK K)
      · exact vhB1.out.alloc vhB1.out.size _
      refine hh_done (by kernel_rfl) ?_
      simp only [List.drop_succ_cons, List.drop_zero]
      change wpList _ _ _ _ _ _
      go_wp2_with (at_builtin; (refine wpList_append_int _ rfl _ _ rfl w3.heap.size _ _ _ rfl (hO.out.drew.alloc _) _ (M.times x y) rfl (cell_one _ _ _) (I64.num (M.num_times _ _)) (by omega) (by have := hB.out.size; simp; omega) ?_); intro v' w5 hO3 hG3)
      have O3 := hid hO3
      have B3 := hid (((hB.out.drew).alloc (by have := hB.out.size; simpa using this) _).grown hG3 (by have := hB.out.size; simp; omega) (fun j hj => (hO.out.lt j hj).1))
      clear hO3 hG3
      go_wp2_with fail
      go_roundw
      case rel => exact ⟨j + 1, by go_num, by omega, hid (by rw [HST.out]; exact O3.out), B3⟩
      case measure => simp [intOf]; omega
    · obtain rfl : j = S := by omega
      obtain ⟨aw, cw, rfl, hFr⟩ := hO.out.fr
      have HWT := hid (show Rd W aw j cw (wgt B C k) by have h := hFr.rd; rw [List.take_of_length_le (by rw [HLW.out]; exact Nat.le_refl _)] at h; exact h)
      have S4 := hid (S3.out.step hB.out)
      have HB4 := hid (HB3.out.below hB.out)
      have HA4 := hid (HA3.out.below hB.out)
      have HC4 := hid (HC3.out.below hB.out)
      have HP4 := hid (HP.out.below hB.out)
      clear hO hFr hB S3 HB3 HA3 HC3 HP HLW
      go_wp2_with fail
      clear q0 q1 q2
      go_loopw [11] (fun i wr => ∃ i0 : Nat, i = .int .i64 i0 ∧ i0 ≤ j ∧ Hid ((List.range i0).all (eq1 A C j k) = true) ∧ Hid (Below W.heap.size W wr)) (fun i _ => j - (intOf i).toNat)
      case atStart => exact ⟨0, rfl, Nat.zero_le _, hid rfl, hid (Below.refl _ _)⟩
      case round =>
        obtain ⟨i, rfl, hi, hA, hB⟩ := hrel
        obtain ⟨V, rfl⟩ : ∃ V : World, V = wr := ⟨_, rfl⟩
        have HBx := hid ((S4.out.step hB.out).box)
        have HB5 := hid (HB4.out.below hB.out)
        have HA5 := hid (HA4.out.below hB.out)
        have HC5 := hid (HC4.out.below hB.out)
        have HP5 := hid (HP4.out.below hB.out)
        have HW5 := hid (HWT.out.below hB.out)
        by_cases hli : i < j
        · have hii : (i : Int) < (j : Int) := by omega
          obtain ⟨⟨q0, q1, q2⟩, _⟩ := blk3 HBx.out
          obtain ⟨b3, f3, y, rfl, hc3, _, _, hy⟩ := HC5.out.at hli
          have HY : Hid (∀ wc, Below V.heap.size V wc → wc.cell? ⟨b3, f3 + i, none⟩ = some (.int .i64 y)) := hid fun wc h => (h.cell (World.block_lt_of_cell? V _ hc3)).trans hc3
          clear hc3
          obtain ⟨b0, f0, y0, rfl, _, _, _, _⟩ := HA5.out.at (k := 0) (by rw [hn.out]; exact Nat.mul_pos (by omega) (by omega))
          have hS0 := hid (show Below V.heap.size V V.drew from (Below.refl _ _).drew)
          go_wp2_with fail
          refine wp_region_calm (C := fun wc => Below V.heap.size V wc) rfl (by kernel_rfl) hS0.out ?_
          (refine quiet_stepH (fun K hK => ?_); refine q_val ?_ (by rfl) ?_ ?_; rotate_left 1; (focus (intro wc hC; skip; go_simp; try rfl)); go_simp; refine hK.out _ ?_; clear hK K)
          (refine quiet_stepH (fun K hK => ?_); refine q_val ?_ (by rfl) ?_ ?_; rotate_left 1; (focus (intro wc hC; skip; go_simp; try rfl)); go_simp; refine hK.out _ ?_; clear hK K)
          (refine quiet_stepH (fun K hK => ?_); refine q_val ?_ (by rfl) ?_ ?_; rotate_left 1; (focus (intro wc hC; skip; go_simp; try rfl)); go_simp; refine hK.out _ ?_; clear hK K)
          (refine quiet_stepH (fun K hK => ?_); refine q_val ?_ (by rfl) ?_ ?_; rotate_left 1; (focus (intro wc hC; obtain ⟨⟨u0, u1, u2⟩, _⟩ := blk3 (bk_below HBx.out hC); go_simp; try rfl)); go_simp; refine hK.out _ ?_; clear hK K)
          (refine quiet_stepH (fun K hK => ?_); refine q_val ?_ (by rfl) ?_ ?_; rotate_left 1; (focus (intro wc hC; skip; go_simp; try rfl)); go_simp; refine hK.out _ ?_; clear hK K)
          (refine quiet_stepH (fun K hK => ?_); refine q_call ?_ ?_ ?_ (by rfl) ?_ ?_ ?_; rotate_left 3; (focus (intro wc hC; go_simp; first | done | rfl | (refine And.intro ?_ ?_ <;> rfl))))
          · exact fun wc hC => (spec_row j i b0 f0 n1 c1 _ _ hn.out HA5.out.cap HA5.out.max hli hS).mono fun e w' ⟨e1, e2⟩ => ⟨by rw [e1], hC.trans (e2.mono hC.size)⟩
          (go_simp; refine hK.out _ ?_; clear hK K)
          (refine quiet_stepH (fun K hK => ?_); refine q_val ?_ (by rfl) ?_ ?_; rotate_left 1; (focus (intro wc hC; skip; go_simp; try rfl)); go_simp; refine hK.out _ ?_; clear hK K)
          (refine quiet_stepH (fun K hK => ?_); refine q_call ?_ ?_ ?_ (by rfl) ?_ ?_ ?_; rotate_left 3; (focus (intro wc hC; go_simp; first | done | rfl | (refine And.intro ?_ ?_ <;> rfl))))
          · exact fun wc hC => (spec_dot _ _ _ (rowL A j i) _ _ (powL C ((k : Int) - 1)) _ ((HA5.out.below hC).row hn.out hli) (HP5.out.below hC)).mono fun e w' ⟨e1, e2⟩ => ⟨by rw [e1], hC.trans (e2.mono hC.size)⟩
          (go_simp; refine hK.out _ ?_; clear hK K)
          (refine quiet_stepH (fun K hK => ?_); refine q_val ?_ (by rfl) ?_ ?_; rotate_left 1; (focus (intro wc hC; skip; go_simp; try rfl)); go_simp; refine hK.out _ ?_; clear hK K)
          (refine quiet_stepH (fun K hK => ?_); refine q_val ?_ (by rfl) ?_ ?_; rotate_left 1; (focus (intro wc hC; skip; go_simp; try rfl)); go_simp; refine hK.out _ ?_; clear hK K)
          (refine quiet_stepH (fun K hK => ?_); refine q_val ?_ (by rfl) ?_ ?_; rotate_left 1; (focus (intro wc hC; skip; go_simp; try rfl)); go_simp; refine hK.out _ ?_; clear hK K)
          (refine quiet_stepH (fun K hK => ?_); refine q_val ?_ (by rfl) ?_ ?_; rotate_left 1; (focus (intro wc hC; have u5 := HY.out wc hC; go_simp; try rfl)); go_simp; refine hK.out _ ?_; clear hK K)
          (refine quiet_stepH (fun K hK => ?_); refine q_val ?_ (by rfl) ?_ ?_; rotate_left 1; (focus (intro wc hC; skip; go_simp; try rfl)); go_simp; refine hK.out _ ?_; clear hK K)
          (refine quiet_stepH (fun K hK => ?_); refine q_call ?_ ?_ ?_ (by rfl) ?_ ?_ ?_; rotate_left 3; (focus (intro wc hC; go_simp; first | done | rfl | (refine And.intro ?_ ?_ <;> rfl))))
          · exact fun wc hC => (spec_Power y k _ ⟨by omega, by omega⟩).mono fun e w' ⟨e1, e2⟩ => ⟨by rw [e1], e2 ▸ hC⟩
          (go_simp; refine hK.out _ ?_; clear hK K)
          (refine quiet_stepH (fun K hK => ?_); refine q_val ?_ (by rfl) ?_ ?_; rotate_left 1; (focus (intro wc hC; skip; go_simp; try rfl)); go_simp; refine hK.out _ ?_; clear hK K)
          (refine quiet_stepH (fun K hK => ?_); refine q_call ?_ ?_ ?_ (by rfl) ?_ ?_ ?_; rotate_left 3; (focus (intro wc hC; go_simp; first | done | rfl | (refine And.intro ?_ ?_ <;> rfl))))
          · exact fun wc hC => (spec_Fraction _ k _).mono fun e w' ⟨e1, e2⟩ => ⟨by rw [e1], e2 ▸ hC⟩
          (go_simp; refine hK.out _ ?_; clear hK K)
          (refine quiet_stepH (fun K hK => ?_); refine q_val ?_ (by rfl) ?_ ?_; rotate_left 1; (focus (intro wc hC; skip; go_simp; try rfl)); go_simp; refine hK.out _ ?_; clear hK K)
          (refine quiet_stepH (fun K hK => ?_); refine q_val ?_ (by rfl) ?_ ?_; rotate_left 1; (focus (intro wc hC; skip; go_simp; try rfl)); go_simp; refine hK.out _ ?_; clear hK K)
          refine wpQuiet_nil ?_
          intro w6 hq
          have HB6 := hid (hB.out.trans (hq.mono hB.out.size))
          clear hq hS0
          have hv : eq1 A C j k i = (M.dotL (rowL A j i) (powL C ((k : Int) - 1)) == M.frac (M.powr y k) k) := by unfold eq1; rw [← hy.out]
          clear q0 q1 q2
          cases hq : (M.dotL (rowL A j i) (powL C ((k : Int) - 1)) == M.frac (M.powr y k) k) with
          | true =>
            have hq2 : (M.dotL (rowL A j i) (powL C ((k : Int) - 1)) != M.frac (M.powr y k) k) = false := by rw [bne_beq, hq]; rfl
            have HQ := hid (hv.trans hq)
            clear hv hq
            go_wp2_with fail
            go_quiet (fail)
            go_wp2_with fail
            go_roundw
            case rel => exact ⟨i + 1, by go_num, by omega, hid (all_step hA.out HQ.out), hid (Below.drewN' HB6.out _)⟩
            case measure => simp [intOf]; omega
          | false =>
            have hq2 : (M.dotL (rowL A j i) (powL C ((k : Int) - 1)) != M.frac (M.powr y k) k) = true := by rw [bne_beq, hq]; rfl
            have HQ := hid (hv.trans hq)
            clear hv hq
            go_wp2_with fail
            go_ret
            exact ⟨by rw [show nodesL A j j = C from HCE.out]; exact ret_b (all_stop hli HQ.out).symm, l_below S4.out.below HB6.out⟩
        · obtain rfl : i = j := by omega
          obtain ⟨⟨q0, q1, q2⟩, _⟩ := blk3 HBx.out
          go_wp2_with fail
          go_ret
          exact ⟨by rw [show nodesL A i i = C from HCE.out]; exact ret_b hA.out.symm, l_below S4.out.below hB.out⟩
end
end Go.Proofs.Ythebegfceaehfaa
