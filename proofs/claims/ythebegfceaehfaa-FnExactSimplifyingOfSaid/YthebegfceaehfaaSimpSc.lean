/- l6Simple of the specification. -/
import Derived.Test.YthebegfceaehfaaSimpSa
namespace Go.Proofs.Ythebegfceaehfaa
open Go.RowKit
attribute [local irreducible] M.powr
section
variable {S : Nat} {a1 : Option Addr} {n1 c1 : Nat} {A : List Int} {a2 : Option Addr} {c2 : Nat} {B : List Int}
set_option maxHeartbeats 8000000 in
theorem spec_simp2 (k : Nat) (w : World) (h1 : Rd w a1 n1 c1 A) (h2 : Rd w a2 S c2 B) (hok : tabOk S A B = true) (e1 : n1 = S * S) (hS : S ≤ 8) (hk1 : 1 ≤ k) (hk6 : k ≤ 6) :
    Calls Try.prog 34 #[.agg #[.int .i64 S, .slice a1 n1 c1, .slice a2 S c2], .int .i64 2, .int .i64 k] w fun e w' => e = .returned (.bool (simp2 A B (nodesL A S S) S k)) ∧ Below w.heap.size w w' := by
  have H1 := hid h1
  have H2 := hid h2
  have hn := hid e1
  have S0 := hid (St.first w #[.int .i64 S, .slice a1 n1 c1, .slice a2 S c2] 27)
  have HV := hid (show nodesV S A B = nodesL A S S by unfold nodesV; rw [hok, if_pos rfl, Int.toNat_natCast])
  have hw1 : IntKind.i64.wrap ((k : Int) - 1) = (k : Int) - 1 := IntWalk.i64_in _ ⟨by omega, by omega⟩
  clear hok h1 h2 e1
  go_enter Try.func34, Try.ntmps34
  go_wp2_with fail
  refine (spec_NodesOf _ _ _ _ A _ _ _ B _ (H1.out.below S0.out.below) (H2.out.below S0.out.below)).mono ?_
  rw [HV.out]
  rintro e w2 ⟨a3, n3, c3, rfl, hN⟩
  obtain rfl : S = n3 := by have h := hN.1.rd.len; rw [← h]; simp [nodesL]
  have S2 := hid (S0.out.step hN.2)
  have HC := hid hN.1.rd
  clear hN
  generalize hC : nodesL A S S = C at *
  have HCE := hid hC
  clear hC
  go_wp2_with fail
  refine (spec_powers ((k : Int) - 1) a3 S c3 C _ HC.out ⟨by omega, by omega⟩ hS).mono ?_
  rintro e w3 ⟨p1, n1', d1, rfl, rfl, hN⟩
  have S3 := hid (S2.out.step hN.2)
  have HP := hid hN.1.rd
  have HC3 := hid (HC.out.below hN.2)
  have HB3 := hid (H2.out.below S3.out.below)
  have HA3 := hid (H1.out.below S3.out.below)
  clear hN hw1 S0 S2 HC HV H1 H2
  have HLW := hid (show (wgt B C k).length = S from wgt_len HB3.out.len HC3.out.len)
  have HO0 := hid (Ow.empty w3 w3.heap.size (Nat.le_refl _))
  go_wp2_with fail
  go_loopw [9, 10] (fun v i wr => ∃ j : Nat, i = .int .i64 j ∧ j ≤ S ∧ Hid (Ow wr w3.heap.size v j ((wgt B C k).take j)) ∧ Hid (Below w3.heap.size w3 wr)) (fun _ i _ => S - (intOf i).toNat)
  case atStart => exact ⟨0, rfl, Nat.zero_le _, HO0, hid (below_new _ _)⟩
  case round =>
    clear HO0
    obtain ⟨j, rfl, hj, hO, hB⟩ := hrel
    obtain ⟨W, rfl⟩ : ∃ W : World, W = wr := ⟨_, rfl⟩
    obtain ⟨⟨q0, q1, q2⟩, _⟩ := blk3 (S3.out.step hB.out).box
    by_cases hlt : j < S
    · have hji : (j : Int) < (S : Int) := by omega
      obtain ⟨b2, f2, x, rfl, hc2, _, _, hx⟩ := (HB3.out.below hB.out).at hlt
      obtain ⟨b3, f3, y, rfl, hc3, _, _, hy⟩ := (HP.out.below hB.out).at hlt
      have HST := hid (wgt_step HB3.out.len HC3.out.len hlt hx.out hy.out)
      have HU : Hid (∀ wc, Below W.heap.size W wc → (wc.cell? ⟨w.heap.size, 0, none⟩ = some (.int .i64 S) ∧ wc.cell? ⟨w.heap.size, 2, none⟩ = some (.slice (some ⟨b2, f2, none⟩) S c2)) ∧ wc.cell? ⟨b2, f2 + j, none⟩ = some (.int .i64 x) ∧ wc.cell? ⟨b3, f3 + j, none⟩ = some (.int .i64 y)) := hid fun wc h =>
        ⟨⟨(h.cell (World.block_lt_of_cell? W _ q0)).trans q0, (h.cell (World.block_lt_of_cell? W _ q2)).trans q2⟩, (h.cell (World.block_lt_of_cell? W _ hc2)).trans hc2, (h.cell (World.block_lt_of_cell? W _ hc3)).trans hc3⟩
      clear hc2 hc3
      go_wp2_with fail
      clear q0 q1 q2
      have vhB1 := hid (show Below W.heap.size W W.drew from (Below.refl _ _).drew)
      refine (fun (HG : Rg _ _ 12) => wp_region_hh (S := fun w' => Below W.heap.size W w') HG rfl ?_) ⟨by kernel_rfl, by decide, by kernel_rfl, by kernel_rfl, fun _ _ d _ _ h => by cases d <;> exact h⟩
      (refine hh_take 0 HG rfl (by decide) (by kernel_rfl) (by kernel_rfl) vhB1.out (fun K hK => ?_); refine take_val ?_ (by rfl) ?_ ?_; rotate_left 1; (focus (intro wc hC; skip; go_simp; try rfl)); go_simp; refine hK.out _ ?_; clear hK K)
      (refine hh_take 1 HG rfl (by decide) (by kernel_rfl) (by kernel_rfl) vhB1.out (fun K hK => ?_); refine take_val ?_ (by rfl) ?_ ?_; rotate_left 1; (focus (intro wc hC; skip; go_simp; try rfl)); go_simp; refine hK.out _ ?_; clear hK K)
      (refine hh_take 2 HG rfl (by decide) (by kernel_rfl) (by kernel_rfl) vhB1.out (fun K hK => ?_); refine take_val ?_ (by rfl) ?_ ?_; rotate_left 1; (focus (intro wc hC; obtain ⟨⟨u0, u1⟩, u2, u3⟩ := HU.out wc hC; go_simp; try rfl)); go_simp; refine hK.out _ ?_; clear hK K)
      (refine hh_take 3 HG rfl (by decide) (by kernel_rfl) (by kernel_rfl) vhB1.out (fun K hK => ?_); refine take_val ?_ (by rfl) ?_ ?_; rotate_left 1; (focus (intro wc hC; skip; go_simp; try rfl)); go_simp; refine hK.out _ ?_; clear hK K)
      (refine hh_take 4 HG rfl (by decide) (by kernel_rfl) (by kernel_rfl) vhB1.out (fun K hK => ?_); refine take_val ?_ (by rfl) ?_ ?_; rotate_left 1; (focus (intro wc hC; skip; go_simp; try rfl)); go_simp; refine hK.out _ ?_; clear hK K)
      (refine hh_take 5 HG rfl (by decide) (by kernel_rfl) (by kernel_rfl) vhB1.out (fun K hK => ?_); refine take_val ?_ (by rfl) ?_ ?_; rotate_left 1; (focus (intro wc hC; obtain ⟨⟨u0, u1⟩, u2, u3⟩ := HU.out wc hC; go_simp; try rfl)); go_simp; refine hK.out _ ?_; clear hK K)
      (refine hh_take 6 HG rfl (by decide) (by kernel_rfl) (by kernel_rfl) vhB1.out (fun K hK => ?_); refine take_val ?_ (by rfl) ?_ ?_; rotate_left 1; (focus (intro wc hC; skip; go_simp; try rfl)); go_simp; refine hK.out _ ?_; clear hK K)
      (refine hh_take 7 HG rfl (by decide) (by kernel_rfl) (by kernel_rfl) vhB1.out (fun K hK => ?_); refine take_val ?_ (by rfl) ?_ ?_; rotate_left 1; (focus (intro wc hC; skip; go_simp; try rfl)); go_simp; refine hK.out _ ?_; clear hK K)
      (refine hh_take 8 HG rfl (by decide) (by kernel_rfl) (by kernel_rfl) vhB1.out (fun K hK => ?_); refine take_val ?_ (by rfl) ?_ ?_; rotate_left 1; (focus (intro wc hC; skip; go_simp; try rfl)); go_simp; refine hK.out _ ?_; clear hK K)
      (refine hh_take 9 HG rfl (by decide) (by kernel_rfl) (by kernel_rfl) vhB1.out (fun K hK => ?_); refine take_val ?_ (by rfl) ?_ ?_; rotate_left 1; (focus (intro wc hC; obtain ⟨⟨u0, u1⟩, u2, u3⟩ := HU.out wc hC; go_simp; try rfl)); go_simp; refine hK.out _ ?_; clear hK K)
      refine hh_mid 10 rfl (by decide) (by kernel_rfl) (fun K hK => ?_)
      (refine mid_call ?_ ?_ (by rfl) ?_ ?_; rotate_left 2; (focus (go_simp; first | done | rfl | (refine And.intro ?_ ?_ <;> rfl))))
      refine (spec_Times x y _).mono ?_
      rintro e w' ⟨rfl, rfl⟩
      refine ⟨_, rfl, ?_⟩
      (go_simp; refine hK.out _ _ ?_ ?_ <;> clear hK K)
      · exact vhB1.out
      refine hh_mid 11 rfl (by decide) (by kernel_rfl) (fun K hK => ?_)
      (refine mid_val ?_ ?_ (by rfl) ?_ ?_; rotate_left 2; (focus (go_simp; first | done | rfl | (refine And.intro ?_ ?_ <;> rfl))); go_simp; refine hK.out _ _ ?_ ?_ <;> clear hK K)
      · exact vhB1.out.alloc vhB1.out.size _
      refine hh_done (by kernel_rfl) ?_
      simp only [List.drop_succ_cons, List.drop_zero]
      change wpList _ _ _ _ _ _
      go_wp2_with (at_builtin; (refine wpList_append_int _ rfl _ _ rfl w3.heap.size _ _ _ rfl (hO.out.drew.alloc _) _ (M.times x y) rfl (cell_one _ _ _) (I64.num (M.num_times _ _)) (by omega) (by have := hB.out.size; simp; omega) ?_); intro v' w5 hO3 hG3)
      have O3 := hid hO3
      have B3 := hid (((hB.out.drew).alloc (by have := hB.out.size; simpa using this) _).grown hG3 (by have := hB.out.size; simp; omega) (fun j hj => (hO.out.lt j hj).1))
      clear hO3 hG3
      go_wp2_with fail
      go_roundw
      case rel => exact ⟨j + 1, by go_num, by omega, hid (by rw [HST.out]; exact O3.out), B3⟩
      case measure => simp [intOf]; omega
    · obtain rfl : j = S := by omega
      obtain ⟨aw, cw, rfl, hFr⟩ := hO.out.fr
      have HWT := hid (show Rd W aw j cw (wgt B C k) by have h := hFr.rd; rw [List.take_of_length_le (by rw [HLW.out]; exact Nat.le_refl _)] at h; exact h)
      have S4 := hid (S3.out.step hB.out)
      have HB4 := hid (HB3.out.below hB.out)
      have HA4 := hid (HA3.out.below hB.out)
      have HC4 := hid (HC3.out.below hB.out)
      have HP4 := hid (HP.out.below hB.out)
      clear hO hFr hB S3 HB3 HA3 HC3 HP HLW
      go_wp2_with fail
      clear q0 q1 q2
      go_loopw [11] (fun i wr => ∃ i0 : Nat, i = .int .i64 i0 ∧ i0 ≤ j ∧ Hid ((List.range i0).all (eq2 A B C j k) = true) ∧ Hid (Below W.heap.size W wr)) (fun i _ => j - (intOf i).toNat)
      case atStart => exact ⟨0, rfl, Nat.zero_le _, hid rfl, hid (Below.refl _ _)⟩
      case round =>
        obtain ⟨i, rfl, hi, hA, hB⟩ := hrel
        obtain ⟨V, rfl⟩ : ∃ V : World, V = wr := ⟨_, rfl⟩
        have HBx := hid ((S4.out.step hB.out).box)
        have HB5 := hid (HB4.out.below hB.out)
        have HA5 := hid (HA4.out.below hB.out)
        have HC5 := hid (HC4.out.below hB.out)
        have HP5 := hid (HP4.out.below hB.out)
        have HW5 := hid (HWT.out.below hB.out)
        by_cases hli : i < j
        · have hii : (i : Int) < (j : Int) := by omega
          obtain ⟨⟨q0, q1, q2⟩, _⟩ := blk3 HBx.out
          obtain ⟨b3, f3, y, rfl, hc3, _, _, hy⟩ := HC5.out.at hli
          have HY : Hid (∀ wc, Below V.heap.size V wc → wc.cell? ⟨b3, f3 + i, none⟩ = some (.int .i64 y)) := hid fun wc h => (h.cell (World.block_lt_of_cell? V _ hc3)).trans hc3
          clear hc3
          obtain ⟨b2, f2, x, rfl, hc2, _, _, hx⟩ := HB5.out.at hli
          have HX : Hid (∀ wc, Below V.heap.size V wc → wc.cell? ⟨b2, f2 + i, none⟩ = some (.int .i64 x)) := hid fun wc h => (h.cell (World.block_lt_of_cell? V _ hc2)).trans hc2
          have hnp := M.num_powr y k
          have hw2 : IntKind.i64.wrap (1 - M.powr y k) = 1 - M.powr y k := IntWalk.i64_in _ ⟨by have := hnp.1; have := hnp.2; unfold M.P at *; omega, by have := hnp.1; have := hnp.2; unfold M.P at *; omega⟩
          clear hc2 hnp
          go_wp2_with fail
          go_quiet (fail)
          generalize hV1 : V.drewN _ = V1
          have hq : Below V.heap.size V V1 := hV1 ▸ Below.drewN' (Below.refl _ _) _
          clear hV1
          have HB1 := hid hq
          have HBy := hid (bk_below HBx.out hq)
          have HBV := hid (hB.out.trans (hq.mono hB.out.size))
          clear hq q0 q1 q2
          go_wp2_with fail
          have vhB1 := hid (show Below V1.heap.size V1 V1.drew from (Below.refl _ _).drew)
          refine (fun (HG : Rg _ _ 24) => wp_region_hh (S := fun w' => Below V1.heap.size V1 w') HG rfl ?_) ⟨by kernel_rfl, by decide, by kernel_rfl, by kernel_rfl, fun _ _ d _ _ h => by cases d <;> exact h⟩
          (refine hh_take 0 HG rfl (by decide) (by kernel_rfl) (by kernel_rfl) vhB1.out (fun K hK => ?_); refine take_val ?_ (by rfl) ?_ ?_; rotate_left 1; (focus (intro wc hC; skip; go_simp; try rfl)); go_simp; refine hK.out _ ?_; clear hK K)
          (refine hh_take 1 HG rfl (by decide) (by kernel_rfl) (by kernel_rfl) vhB1.out (fun K hK => ?_); refine take_val ?_ (by rfl) ?_ ?_; rotate_left 1; (focus (intro wc hC; skip; go_simp; try rfl)); go_simp; refine hK.out _ ?_; clear hK K)
          (refine hh_take 2 HG rfl (by decide) (by kernel_rfl) (by kernel_rfl) vhB1.out (fun K hK => ?_); refine take_val ?_ (by rfl) ?_ ?_; rotate_left 1; (focus (intro wc hC; skip; go_simp; try rfl)); go_simp; refine hK.out _ ?_; clear hK K)
          (refine hh_take 3 HG rfl (by decide) (by kernel_rfl) (by kernel_rfl) vhB1.out (fun K hK => ?_); refine take_valG ?_ (by rfl) ?_ ?_; rotate_left 1; (focus (intro wc hC; skip; go_simp; try rfl)); go_simp; refine hK.out _ ?_; clear hK K)
          (refine hh_take 4 HG rfl (by decide) (by kernel_rfl) (by kernel_rfl) vhB1.out (fun K hK => ?_); refine take_valG ?_ (by rfl) ?_ ?_; rotate_left 1; (focus (intro wc hC; obtain ⟨⟨u0, u1, u2⟩, _⟩ := blk3 (bk_below HBy.out hC); go_simp; try rfl)); go_simp; refine hK.out _ ?_; clear hK K)
          (refine hh_take 5 HG rfl (by decide) (by kernel_rfl) (by kernel_rfl) vhB1.out (fun K hK => ?_); refine take_valG ?_ (by rfl) ?_ ?_; rotate_left 1; (focus (intro wc hC; skip; go_simp; try rfl)); go_simp; refine hK.out _ ?_; clear hK K)
          (refine hh_take 8 HG rfl (by decide) (by kernel_rfl) (by kernel_rfl) vhB1.out (fun K hK => ?_); refine take_valG ?_ (by rfl) ?_ ?_; rotate_left 1; (focus (intro wc hC; skip; go_simp; try rfl)); go_simp; refine hK.out _ ?_; clear hK K)
          (refine hh_take 9 HG rfl (by decide) (by kernel_rfl) (by kernel_rfl) vhB1.out (fun K hK => ?_); refine take_valG ?_ (by rfl) ?_ ?_; rotate_left 1; (focus (intro wc hC; obtain ⟨⟨u0, u1, u2⟩, _⟩ := blk3 (bk_below HBy.out hC); go_simp; try rfl)); go_simp; refine hK.out _ ?_; clear hK K)
          (refine hh_take 10 HG rfl (by decide) (by kernel_rfl) (by kernel_rfl) vhB1.out (fun K hK => ?_); refine take_valG ?_ (by rfl) ?_ ?_; rotate_left 1; (focus (intro wc hC; skip; go_simp; try rfl)); go_simp; refine hK.out _ ?_; clear hK K)
          (refine hh_take 11 HG rfl (by decide) (by kernel_rfl) (by kernel_rfl) vhB1.out (fun K hK => ?_); refine take_valG ?_ (by rfl) ?_ ?_; rotate_left 1; (focus (intro wc hC; skip; go_simp; try rfl)); go_simp; refine hK.out _ ?_; clear hK K)
          (refine hh_take 12 HG rfl (by decide) (by kernel_rfl) (by kernel_rfl) vhB1.out (fun K hK => ?_); refine take_valG ?_ (by rfl) ?_ ?_; rotate_left 1; (focus (intro wc hC; have u5 := HX.out wc (HB1.out.trans (Below.mono hC HB1.out.size)); go_simp; try rfl)); go_simp; refine hK.out _ ?_; clear hK K)
          (refine hh_take 13 HG rfl (by decide) (by kernel_rfl) (by kernel_rfl) vhB1.out (fun K hK => ?_); refine take_valG ?_ (by rfl) ?_ ?_; rotate_left 1; (focus (intro wc hC; skip; go_simp; try rfl)); go_simp; refine hK.out _ ?_; clear hK K)
          (refine hh_take 14 HG rfl (by decide) (by kernel_rfl) (by kernel_rfl) vhB1.out (fun K hK => ?_); refine take_valG ?_ (by rfl) ?_ ?_; rotate_left 1; (focus (intro wc hC; skip; go_simp; try rfl)); go_simp; refine hK.out _ ?_; clear hK K)
          (refine hh_take 15 HG rfl (by decide) (by kernel_rfl) (by kernel_rfl) vhB1.out (fun K hK => ?_); refine take_valG ?_ (by rfl) ?_ ?_; rotate_left 1; (focus (intro wc hC; skip; go_simp; try rfl)); go_simp; refine hK.out _ ?_; clear hK K)
          (refine hh_take 16 HG rfl (by decide) (by kernel_rfl) (by kernel_rfl) vhB1.out (fun K hK => ?_); refine take_valG ?_ (by rfl) ?_ ?_; rotate_left 1; (focus (intro wc hC; have u5 := HY.out wc (HB1.out.trans (Below.mono hC HB1.out.size)); go_simp; try rfl)); go_simp; refine hK.out _ ?_; clear hK K)
          (refine hh_take 17 HG rfl (by decide) (by kernel_rfl) (by kernel_rfl) vhB1.out (fun K hK => ?_); refine take_valG ?_ (by rfl) ?_ ?_; rotate_left 1; (focus (intro wc hC; skip; go_simp; try rfl)); go_simp; refine hK.out _ ?_; clear hK K)
          (refine hh_take 21 HG rfl (by decide) (by kernel_rfl) (by kernel_rfl) vhB1.out (fun K hK => ?_); refine take_valG ?_ (by rfl) ?_ ?_; rotate_left 1; (focus (intro wc hC; skip; go_simp; try rfl)); go_simp; refine hK.out _ ?_; clear hK K)
          refine hh_mid 6 rfl (by decide) (by kernel_rfl) (fun K hK => ?_)
          (refine mid_callG ?_ ?_ (by rfl) ?_ ?_; rotate_left 2; (focus (go_simp; first | done | rfl | (refine And.intro ?_ ?_ <;> rfl))))
          refine (spec_l6Column j i a1 n1 c1 A _ _ ((HA5.out.below HB1.out).below vhB1.out) hn.out hli hS).mono ?_
          rintro e vV2 ⟨p2, n2', d2, rfl, rfl, hN⟩
          refine ⟨_, rfl, ?_⟩
          have GP := hid (hN.1.rd)
          have vhB3 := hid (vhB1.out.trans ((hN.2).mono (show V1.heap.size ≤ V1.heap.size from vhB1.out.size)))
          (go_simp; refine hK.out _ _ ?_ ?_ <;> clear hK K)
          · exact vhB3.out
          refine hh_mid 7 rfl (by decide) (by kernel_rfl) (fun K hK => ?_)
          (refine mid_callG ?_ ?_ (by rfl) ?_ ?_; rotate_left 2; (focus (go_simp; first | done | rfl | (refine And.intro ?_ ?_ <;> rfl))))
          refine (spec_dot _ _ _ (wgt B C k) _ _ (colL A j i) _ ((HW5.out.below HB1.out).below vhB3.out) GP.out).mono ?_
          rintro e vV4 ⟨rfl, hb⟩
          refine ⟨_, rfl, ?_⟩
          have vhB5 := hid (vhB3.out.trans ((hb).mono (show V1.heap.size ≤ vV2.heap.size from vhB3.out.size)))
          (go_simp; refine hK.out _ _ ?_ ?_ <;> clear hK K)
          · exact vhB5.out
          refine hh_mid 18 rfl (by decide) (by kernel_rfl) (fun K hK => ?_)
          (refine mid_callG ?_ ?_ (by rfl) ?_ ?_; rotate_left 2; (focus (go_simp; first | done | rfl | (refine And.intro ?_ ?_ <;> rfl))))
          refine (spec_Power y k _ ⟨by omega, by omega⟩).mono ?_
          rintro e w' ⟨rfl, rfl⟩
          refine ⟨_, rfl, ?_⟩
          (go_simp; refine hK.out _ _ ?_ ?_ <;> clear hK K)
          · exact vhB5.out
          (refine hh_take 19 HG rfl (by decide) (by kernel_rfl) (by kernel_rfl) vhB5.out (fun K hK => ?_); refine take_valG ?_ (by rfl) ?_ ?_; rotate_left 1; (focus (intro wc hC; skip; go_simp; try rfl)); go_simp; refine hK.out _ ?_; clear hK K)
          refine hh_mid 20 rfl (by decide) (by kernel_rfl) (fun K hK => ?_)
          (refine mid_callG ?_ ?_ (by rfl) ?_ ?_; rotate_left 2; (focus (go_simp; first | done | rfl | (refine And.intro ?_ ?_ <;> rfl))))
          refine (spec_Times x _ _).mono ?_
          rintro e w' ⟨rfl, rfl⟩
          refine ⟨_, rfl, ?_⟩
          (go_simp; refine hK.out _ _ ?_ ?_ <;> clear hK K)
          · exact vhB5.out
          refine hh_mid 22 rfl (by decide) (by kernel_rfl) (fun K hK => ?_)
          (refine mid_callG ?_ ?_ (by rfl) ?_ ?_; rotate_left 2; (focus (go_simp; first | done | rfl | (refine And.intro ?_ ?_ <;> rfl))))
          refine (spec_Fraction _ k _).mono ?_
          rintro e w' ⟨rfl, rfl⟩
          refine ⟨_, rfl, ?_⟩
          (go_simp; refine hK.out _ _ ?_ ?_ <;> clear hK K)
          · exact vhB5.out
          (refine hh_take 23 HG rfl (by decide) (by kernel_rfl) (by kernel_rfl) vhB5.out (fun K hK => ?_); refine take_valG ?_ (by rfl) ?_ ?_; rotate_left 1; (focus (intro wc hC; skip; go_simp; try rfl)); go_simp; refine hK.out _ ?_; clear hK K)
          refine hh_done (by kernel_rfl) ?_
          simp only [List.drop_succ_cons, List.drop_zero]
          change wpList _ _ _ _ _ _
          have hv : eq2 A B C j k i = (M.dotL (wgt B C k) (colL A j i) == M.frac (M.times x (1 - M.powr y k)) k) := by unfold eq2; rw [times_one_sub, ← hx.out, ← hy.out]
          have HB6 := hid (HBV.out.trans (vhB5.out.mono HBV.out.size))
          have HB7 := HB6
          cases hq : (M.dotL (wgt B C k) (colL A j i) == M.frac (M.times x (1 - M.powr y k)) k) with
          | true =>
            have hq2 : (M.dotL (wgt B C k) (colL A j i) != M.frac (M.times x (1 - M.powr y k)) k) = false := by rw [bne_beq, hq]; rfl
            have HQ := hid (hv.trans hq)
            clear hv hq
            go_wp2_with fail
            go_roundw
            case rel => exact ⟨i + 1, by go_num, by omega, hid (all_step hA.out HQ.out), HB7⟩
            case measure => simp [intOf]; omega
          | false =>
            have hq2 : (M.dotL (wgt B C k) (colL A j i) != M.frac (M.times x (1 - M.powr y k)) k) = true := by rw [bne_beq, hq]; rfl
            have HQ := hid (hv.trans hq)
            clear hv hq
            go_wp2_with fail
            go_ret
            exact ⟨by rw [show nodesL A j j = C from HCE.out]; exact ret_b (all_stop hli HQ.out).symm, l_below S4.out.below HB6.out⟩
        · obtain rfl : i = j := by omega
          obtain ⟨⟨q0, q1, q2⟩, _⟩ := blk3 HBx.out
          go_wp2_with fail
          go_ret
          exact ⟨by rw [show nodesL A i i = C from HCE.out]; exact ret_b hA.out.symm, l_below S4.out.below hB.out⟩
end
end Go.Proofs.Ythebegfceaehfaa
