/- Merged texts: RedI. -/
import Derived.Test.YthebegfceaehfaaDoorKt14
/- RedI: reduceRows of the implementation. -/
namespace Go.Proofs.YthebegfceaehfaaDoor
open Go.RowKit Sol
open M (inv)
attribute [local irreducible] M.powr

theorem minus_prod (z a b : Int) : M.minus z (a * b) = M.minus z (M.times a b) := by unfold M.minus M.times; rw [M.sub_r]
theorem prod_bd {a b : Int} (ha : M.num a) (hb : M.num b) : IntKind.i64.wrap (a * b) = a * b := by
  have h := pow_bd ha hb
  exact IntWalk.i64_in _ ⟨by omega, by omega⟩
set_option maxHeartbeats 8000000 in
set_option maxRecDepth 20000 in
theorem impl_reduceRows {base top ob n W : Nat} {hb hc : Nat → Nat} {m : Nat → Nat → Int} (c oc : Nat) (w : World) (h : Mat w base top ob n W hb hc m) (hcW : c ≤ W) (hn : n ≤ 8) (hW : W ≤ 9) (hoc : n ≤ oc) :
    Calls Tryd.prog 94 #[.slice (some ⟨ob, 0, none⟩) n oc, .int .i64 c] w fun e w' => ∃ ao nn cc hb' hc', e = .returned (.slice ao nn cc) ∧ (red n c m).2.length = nn ∧ Fr w' w.heap.size ao nn cc ((red n c m).2.map fun x : Nat => (x : Int)) ∧
      Mat w' base top ob n W hb' hc' (red n c m).1 ∧ Below base w w' := by
  have htop := h.tp
  have hbase := h.lo
  have HM0 := hid h
  clear h
  go_enter Tryd.func94, Tryd.ntmps94
  go_wp2_with fail
  go_loopw [5, 6, 7, 8, 9, 10, 11, 12, 13] (fun v kk _ _ _ _ _ _ _ wr => ∃ (k N : Nat) (M : Nat → Nat → Int) (L : List Nat) (hb hc : Nat → Nat), kk = .int .i64 k ∧ k ≤ c ∧ N ≤ n ∧ N ≤ k ∧ Hid (red n k m = (M, L)) ∧ Hid (L.length = N) ∧ Hid (Mat wr base top ob n W hb hc M) ∧ Hid (Ow wr w.heap.size v N (L.map fun x : Nat => (x : Int))) ∧ Hid (Below base w wr)) (fun _ kk _ _ _ _ _ _ _ _ => c - (intOf kk).toNat)
  case atStart => exact ⟨0, 0, m, [], hb, hc, rfl, Nat.zero_le _, Nat.zero_le _, Nat.le_refl _, hid rfl, hid rfl, hid (HM0.out.below (below_box _ _)), hid (Ow.empty _ _ (Nat.le_refl _)), hid ((Below.refl _ _).alloc (by omega) _)⟩
  case round =>
    clear HM0
    obtain ⟨k, N, M, L, hb, hc, rfl, hk, hNn, hNk, HR, HL, hM, hO, hB⟩ := hrel
    obtain ⟨ao, cc, rfl, _⟩ := hO.out.fr
    by_cases hlt : k < c
    · have hki : (k : Int) < (c : Int) := by omega
      go_wp2_with fail
      go_loopw [7] (fun ii wr => ∃ q : Nat, ii = .int .i64 q ∧ N ≤ q ∧ q ≤ n ∧ Hid (seek M k q (n - q) = seek M k N (n - N)) ∧ Hid (Mat wr base top ob n W hb hc M) ∧ Hid (Ow wr w.heap.size (.slice ao N cc) N (L.map fun x : Nat => (x : Int))) ∧ Hid (Below base w wr)) (fun ii _ => n - (intOf ii).toNat)
      case atStart => exact ⟨N, rfl, Nat.le_refl _, hNn, hid rfl, hM, hO, hB⟩
      case round =>
        clear hM hO hB
        obtain ⟨q, rfl, hNq, hqn, HS, hM, hO, hB⟩ := hrel
        by_cases hqlt : q < n
        · have hNlt : N < n := by omega
          have hqi : (q : Int) < (n : Int) := by omega
          have hNi : (N : Int) < (n : Int) := by omega
          have hqe : ¬ (q : Int) = (n : Int) := by omega
          have hkW : (k : Int) < (W : Int) := by omega
          have u0 := (hM.out.out q hqlt).1
          have u2 := (hM.out.out N hNlt).1
          have u3 := (hM.out.out q hqlt).2
          have u4 := (hM.out.out N hNlt).2
          obtain ⟨y, hy⟩ : ∃ y, y = M q k := ⟨_, rfl⟩
          have u1 := (hM.out.row q hqlt k (by omega)).1
          rw [← hy] at u1
          have HY := hid hy
          clear hy
          by_cases h0 : y = 0
          · subst h0
            go_wp2_with fail
            go_roundw
            case rel => exact ⟨q + 1, by go_num, by omega, by omega, hid ((seek_yes hqlt HY.out.symm).symm.trans HS.out), hM, hO, hB⟩
            case measure => simp [intOf]; omega
          · have hsk : Hid (seek M k N (n - N) = q) := hid (HS.out.symm.trans (seek_no hqlt (fun e => h0 (HY.out.trans e))))
            have HM2 := hid (hM.out.swap hqlt hNlt)
            have HO2 := hid (ow_set (ow_set hO.out (b := ob) (j := q) (by omega) (.slice (some ⟨hb N, 0, none⟩) W (hc N))) (b := ob) (j := N) (by omega) (.slice (some ⟨hb q, 0, none⟩) W (hc q)))
            have HB2 := hid (show Below base w ((wr.setCell ⟨ob, q, none⟩ (.slice (some ⟨hb N, 0, none⟩) W (hc N))).setCell ⟨ob, N, none⟩ (.slice (some ⟨hb q, 0, none⟩) W (hc q))) from (hB.out.setCell hbase.1 _).setCell hbase.1 _)
            have v0 : ((wr.setCell ⟨ob, q, none⟩ (.slice (some ⟨hb N, 0, none⟩) W (hc N))).setCell ⟨ob, N, none⟩ (.slice (some ⟨hb q, 0, none⟩) W (hc q))).cell? ⟨ob, N, none⟩ = some (.slice (some ⟨hb q, 0, none⟩) W (hc q)) := by
              have h := (HM2.out.out N hNlt).1
              simpa only [swF, if_pos] using h
            have v1 : ((wr.setCell ⟨ob, q, none⟩ (.slice (some ⟨hb N, 0, none⟩) W (hc N))).setCell ⟨ob, N, none⟩ (.slice (some ⟨hb q, 0, none⟩) W (hc q))).cell? ⟨hb q, k, none⟩ = some (.int .i64 y) := by
              have h := (HM2.out.row N hNlt k (by omega)).1
              simp only [swF, Sol.swp, if_pos] at h
              rw [HY.out]; exact h
            have v2 : (wr.setCell ⟨ob, q, none⟩ (.slice (some ⟨hb N, 0, none⟩) W (hc N))).cell? ⟨ob, N, none⟩ = some (.slice (some ⟨hb N, 0, none⟩) W (hc N)) := by
              by_cases e : q = N
              · subst e; exact World.cell?_setCell_same _ _ _ u2
              · rw [World.cell?_setCell_other _ _ _ _ (by intro e'; simp only [Addr.mk.injEq] at e'; exact e e'.2.1)]; exact u2
            go_wp2_with fail
            go_region
            go_wp2_with (go_at_call 81; refine (impl_Inverse y _).mono ?_; rintro e w' ⟨rfl, rfl⟩)
            have HM2' := hid (HM2.out.below ((Below.refl _ _).drew))
            have HO2' := hid HO2.out.drew
            have HB2' := hid HB2.out.drew
            clear v0 v1 v2 u0 u1 u2 u3 u4 hM hO hB HS HM2 HO2 HB2
            generalize hW2 : ((wr.setCell ⟨ob, q, none⟩ (.slice (some ⟨hb N, 0, none⟩) W (hc N))).setCell ⟨ob, N, none⟩ (.slice (some ⟨hb q, 0, none⟩) W (hc q))).drew = W2 at HM2' HO2' HB2' ⊢
            clear hW2
            generalize hM2 : swp M q N = M2 at HM2'
            generalize hb2e : swF hb q N = hb2 at HM2'
            generalize hc2e : swF hc q N = hc2 at HM2'
            have HM2e := hid hM2
            have HI := hid (HM2'.out.scl_first N (inv y))
            have w0 := (HM2'.out.out N hNlt).1
            have hW0 : (0 : Int) < (W : Int) := by omega
            clear hM2 hb2e hc2e HM2'
            go_wp2_with fail
            clear w0
            go_loopw [10, 71] (fun _ jj wr => ∃ t : Nat, jj = .int .i64 t ∧ t ≤ W ∧ Hid (Mat wr base top ob n W hb2 hc2 (sclP M2 N (inv y) t)) ∧ Hid (Ow wr w.heap.size (.slice ao N cc) N (L.map fun x : Nat => (x : Int))) ∧ Hid (Below base w wr)) (fun _ jj _ => W - (intOf jj).toNat)
            case atStart => exact ⟨0, rfl, Nat.zero_le _, HI, HO2', HB2'⟩
            case round =>
              clear HI HO2' HB2'
              obtain ⟨t, rfl, htW, hM, hO, hB⟩ := hrel
              have u0 := (hM.out.out N hNlt).1
              by_cases ht : t < W
              · have hti : (t : Int) < (W : Int) := by omega
                obtain ⟨z, hz⟩ : ∃ z, z = M2 N t := ⟨_, rfl⟩
                have u1 := (hM.out.row N hNlt t ht).1
                have u2 := (hM.out.row N hNlt t ht).2
                rw [sclP_at, ← hz] at u1
                have HZ := hid hz
                clear hz
                have HU : Hid (∀ wc, Below wr.heap.size wr wc → wc.cell? ⟨ob, N, none⟩ = some (.slice (some ⟨hb2 N, 0, none⟩) W (hc2 N)) ∧ wc.cell? ⟨hb2 N, t, none⟩ = some (.int .i64 z)) := hid fun wc h => ⟨(h.cell (World.block_lt_of_cell? wr _ u0)).trans u0, (h.cell (World.block_lt_of_cell? wr _ u1)).trans u1⟩
                go_wp2_with fail
                have vhB1 := hid (show Below wr.heap.size wr wr.drew from (Below.refl _ _).drew)
                refine (fun (HG : Rg _ _ 15) => wp_region_hh (S := fun w' => Below wr.heap.size wr w') HG rfl ?_) ⟨by kernel_rfl, by decide, by kernel_rfl, by kernel_rfl, fun _ _ d _ _ h => by cases d <;> exact h⟩
                (refine hh_take 0 HG rfl (by decide) (by kernel_rfl) (by kernel_rfl) vhB1.out (fun K hK => ?_); refine take_val ?_ (by rfl) ?_ ?_; rotate_left 1; (focus (intro wc hC; skip; go_simp; try rfl)); go_simp; refine hK.out _ ?_; clear hK K)
                (refine hh_take 1 HG rfl (by decide) (by kernel_rfl) (by kernel_rfl) vhB1.out (fun K hK => ?_); refine take_val ?_ (by rfl) ?_ ?_; rotate_left 1; (focus (intro wc hC; skip; go_simp; try rfl)); go_simp; refine hK.out _ ?_; clear hK K)
                (refine hh_take 2 HG rfl (by decide) (by kernel_rfl) (by kernel_rfl) vhB1.out (fun K hK => ?_); refine take_val ?_ (by rfl) ?_ ?_; rotate_left 1; (focus (intro wc hC; skip; go_simp; try rfl)); go_simp; refine hK.out _ ?_; clear hK K)
                (refine hh_take 3 HG rfl (by decide) (by kernel_rfl) (by kernel_rfl) vhB1.out (fun K hK => ?_); refine take_val ?_ (by rfl) ?_ ?_; rotate_left 1; (focus (intro wc hC; obtain ⟨x0, x1⟩ := HU.out wc hC; go_simp; try rfl)); go_simp; refine hK.out _ ?_; clear hK K)
                (refine hh_take 4 HG rfl (by decide) (by kernel_rfl) (by kernel_rfl) vhB1.out (fun K hK => ?_); refine take_val ?_ (by rfl) ?_ ?_; rotate_left 1; (focus (intro wc hC; skip; go_simp; try rfl)); go_simp; refine hK.out _ ?_; clear hK K)
                (refine hh_take 5 HG rfl (by decide) (by kernel_rfl) (by kernel_rfl) vhB1.out (fun K hK => ?_); refine take_val ?_ (by rfl) ?_ ?_; rotate_left 1; (focus (intro wc hC; skip; go_simp; try rfl)); go_simp; refine hK.out _ ?_; clear hK K)
                (refine hh_take 6 HG rfl (by decide) (by kernel_rfl) (by kernel_rfl) vhB1.out (fun K hK => ?_); refine take_val ?_ (by rfl) ?_ ?_; rotate_left 1; (focus (intro wc hC; skip; go_simp; try rfl)); go_simp; refine hK.out _ ?_; clear hK K)
                (refine hh_take 7 HG rfl (by decide) (by kernel_rfl) (by kernel_rfl) vhB1.out (fun K hK => ?_); refine take_val ?_ (by rfl) ?_ ?_; rotate_left 1; (focus (intro wc hC; skip; go_simp; try rfl)); go_simp; refine hK.out _ ?_; clear hK K)
                (refine hh_take 8 HG rfl (by decide) (by kernel_rfl) (by kernel_rfl) vhB1.out (fun K hK => ?_); refine take_val ?_ (by rfl) ?_ ?_; rotate_left 1; (focus (intro wc hC; obtain ⟨x0, x1⟩ := HU.out wc hC; go_simp; try rfl)); go_simp; refine hK.out _ ?_; clear hK K)
                (refine hh_take 9 HG rfl (by decide) (by kernel_rfl) (by kernel_rfl) vhB1.out (fun K hK => ?_); refine take_val ?_ (by rfl) ?_ ?_; rotate_left 1; (focus (intro wc hC; skip; go_simp; try rfl)); go_simp; refine hK.out _ ?_; clear hK K)
                (refine hh_take 10 HG rfl (by decide) (by kernel_rfl) (by kernel_rfl) vhB1.out (fun K hK => ?_); refine take_val ?_ (by rfl) ?_ ?_; rotate_left 1; (focus (intro wc hC; skip; go_simp; try rfl)); go_simp; refine hK.out _ ?_; clear hK K)
                (refine hh_take 11 HG rfl (by decide) (by kernel_rfl) (by kernel_rfl) vhB1.out (fun K hK => ?_); refine take_val ?_ (by rfl) ?_ ?_; rotate_left 1; (focus (intro wc hC; obtain ⟨x0, x1⟩ := HU.out wc hC; go_simp; try rfl)); go_simp; refine hK.out _ ?_; clear hK K)
                (refine hh_take 12 HG rfl (by decide) (by kernel_rfl) (by kernel_rfl) vhB1.out (fun K hK => ?_); refine take_val ?_ (by rfl) ?_ ?_; rotate_left 1; (focus (intro wc hC; skip; go_simp; try rfl)); go_simp; refine hK.out _ ?_; clear hK K)
                refine hh_mid 13 rfl (by decide) (by kernel_rfl) (fun K hK => ?_)
                (refine mid_call ?_ ?_ (by rfl) ?_ ?_; rotate_left 2; (focus (go_simp; first | done | rfl | (refine And.intro ?_ ?_ <;> rfl))))
                refine (impl_Times z _ _).mono ?_
                rintro e w' ⟨rfl, rfl⟩
                refine ⟨_, rfl, ?_⟩
                (go_simp; refine hK.out _ _ ?_ ?_ <;> clear hK K)
                · exact vhB1.out
                (refine hh_take 14 HG rfl (by decide) (by kernel_rfl) (by kernel_rfl) vhB1.out (fun K hK => ?_); refine take_val ?_ (by rfl) ?_ ?_; rotate_left 1; (focus (intro wc hC; skip; go_simp; try rfl)); go_simp; refine hK.out _ ?_; clear hK K)
                refine hh_done (by kernel_rfl) ?_
                simp only [List.drop_succ_cons, List.drop_zero]
                change wpList _ _ _ _ _ _
                go_wp2_with fail
                go_roundw
                case rel => exact ⟨t + 1, by go_num, by omega, hid (by rw [HZ.out]; exact (hM.out.scl_next hNlt ht).below ((Below.refl _ _).drew)), hid (ow_set hO.out (Nat.lt_of_lt_of_le (hM.out.own N hNlt).1.2 htop) _).drew, hid (hB.out.setCell (hM.out.own N hNlt).1.1 _).drew⟩
                case measure => simp [intOf]; omega
              · obtain rfl : W = t := by omega
                have HM3 := hid hM.out.scl_last
                clear hM
                generalize hM3 : scl M2 N (inv y) = M3 at HM3
                have HM3e := hid hM3
                have HN3 := hid HM3.out.num
                have HI := hid (HM3.out.elm_first N k)
                clear hM3 HM3
                go_wp2_with fail
                go_loopw [11, 12, 13, 92] (fun _ _ _ ii wr => ∃ p : Nat, ii = .int .i64 p ∧ p ≤ n ∧ Hid (Mat wr base top ob n W hb2 hc2 (elmQ M3 N k p 0)) ∧ Hid (Ow wr w.heap.size (.slice ao N cc) N (L.map fun x : Nat => (x : Int))) ∧ Hid (Below base w wr)) (fun _ _ _ ii _ => n - (intOf ii).toNat)
                case atStart => exact ⟨0, rfl, Nat.zero_le _, HI, hO, hB⟩
                case round =>
                  clear HI hO hB u0
                  obtain ⟨p, rfl, hpn, hM, hO, hB⟩ := hrel
                  have u5 := (hM.out.out N hNlt).1
                  by_cases hp : p < n
                  · have hpi : (p : Int) < (n : Int) := by omega
                    have u0 := (hM.out.out p hp).1
                    obtain ⟨y2, hy⟩ : ∃ y2, y2 = M3 p k := ⟨_, rfl⟩
                    have u1 := (hM.out.row p hp k (by omega)).1
                    rw [elmQ_head, ← hy] at u1
                    have HY2 := hid hy
                    clear hy
                    by_cases hpN : p = N
                    · subst hpN
                      have hq : decide ((p : Int) = (p : Int)) = true := by simp
                      go_wp2_with fail
                      go_roundw
                      case rel => exact ⟨p + 1, by go_num, by omega, hid hM.out.elm_own, hO, hB⟩
                      case measure => simp [intOf]; omega
                    · have hpNi : ((p : Int) == (N : Int)) = false := by rw [beq_eq_false_iff_ne]; omega
                      by_cases hy0 : y2 = 0
                      · subst hy0
                        go_wp2_with fail
                        go_roundw
                        case rel => exact ⟨p + 1, by go_num, by omega, hid (hM.out.elm_zero HN3.out HY2.out.symm), hO, hB⟩
                        case measure => simp [intOf]; omega
                      · have hy0i : (y2 == 0) = false := by rw [beq_eq_false_iff_ne]; exact hy0
                        have hyn := HN3.out p k hp (by omega)
                        rw [← HY2.out] at hyn
                        have HYN := hid hyn
                        clear hyn
                        go_wp2_with fail
                        go_loopw [13, 120] (fun _ jj wr => ∃ t : Nat, jj = .int .i64 t ∧ t ≤ W ∧ Hid (Mat wr base top ob n W hb2 hc2 (elmQ M3 N k p t)) ∧ Hid (Ow wr w.heap.size (.slice ao N cc) N (L.map fun x : Nat => (x : Int))) ∧ Hid (Below base w wr)) (fun _ jj _ => W - (intOf jj).toNat)
                        case atStart => exact ⟨0, rfl, Nat.zero_le _, hM, hO, hB⟩
                        case round =>
                          clear hM hO hB u0 u1 u5
                          obtain ⟨t, rfl, htW, hM, hO, hB⟩ := hrel
                          have u0 := (hM.out.out p hp).1
                          by_cases ht : t < W
                          · have hti : (t : Int) < (W : Int) := by omega
                            have u2 := (hM.out.out N hNlt).1
                            have u3 := (hM.out.row p hp t ht).1
                            have u4 := (hM.out.row p hp t ht).2
                            have u6 := (hM.out.row N hNlt t ht).1
                            obtain ⟨z, hz⟩ : ∃ z, z = M3 p t := ⟨_, rfl⟩
                            obtain ⟨z2, hz2⟩ : ∃ z2, z2 = M3 N t := ⟨_, rfl⟩
                            rw [elmQ_at, ← hz] at u3
                            rw [elmQ_top, ← hz2] at u6
                            have HZ := hid hz
                            have HZ2 := hid hz2
                            have hzn := HN3.out N t hNlt ht
                            rw [← hz2] at hzn
                            have hpr := prod_bd HYN.out hzn
                            clear hzn
                            clear hz hz2
                            have HU : Hid (∀ wc, Below wr.heap.size wr wc → wc.cell? ⟨ob, p, none⟩ = some (.slice (some ⟨hb2 p, 0, none⟩) W (hc2 p)) ∧ wc.cell? ⟨ob, N, none⟩ = some (.slice (some ⟨hb2 N, 0, none⟩) W (hc2 N)) ∧ wc.cell? ⟨hb2 p, t, none⟩ = some (.int .i64 z) ∧ wc.cell? ⟨hb2 N, t, none⟩ = some (.int .i64 z2)) := hid fun wc h => ⟨(h.cell (World.block_lt_of_cell? wr _ u0)).trans u0, (h.cell (World.block_lt_of_cell? wr _ u2)).trans u2, (h.cell (World.block_lt_of_cell? wr _ u3)).trans u3, (h.cell (World.block_lt_of_cell? wr _ u6)).trans u6⟩
                            go_wp2_with fail
                            have xhB1 := hid (show Below wr.heap.size wr wr.drew from (Below.refl _ _).drew)
                            refine (fun (HG : Rg _ _ 23) => wp_region_hh (S := fun w' => Below wr.heap.size wr w') HG rfl ?_) ⟨by kernel_rfl, by decide, by kernel_rfl, by kernel_rfl, fun _ _ d _ _ h => by cases d <;> exact h⟩
                            (refine hh_take 0 HG rfl (by decide) (by kernel_rfl) (by kernel_rfl) xhB1.out (fun K hK => ?_); refine take_val ?_ (by rfl) ?_ ?_; rotate_left 1; (focus (intro wc hC; skip; go_simp; try rfl)); go_simp; refine hK.out _ ?_; clear hK K)
                            (refine hh_take 1 HG rfl (by decide) (by kernel_rfl) (by kernel_rfl) xhB1.out (fun K hK => ?_); refine take_val ?_ (by rfl) ?_ ?_; rotate_left 1; (focus (intro wc hC; skip; go_simp; try rfl)); go_simp; refine hK.out _ ?_; clear hK K)
                            (refine hh_take 2 HG rfl (by decide) (by kernel_rfl) (by kernel_rfl) xhB1.out (fun K hK => ?_); refine take_val ?_ (by rfl) ?_ ?_; rotate_left 1; (focus (intro wc hC; skip; go_simp; try rfl)); go_simp; refine hK.out _ ?_; clear hK K)
                            (refine hh_take 3 HG rfl (by decide) (by kernel_rfl) (by kernel_rfl) xhB1.out (fun K hK => ?_); refine take_val ?_ (by rfl) ?_ ?_; rotate_left 1; (focus (intro wc hC; obtain ⟨x0, x1, x2, x3⟩ := HU.out wc hC; go_simp; try rfl)); go_simp; refine hK.out _ ?_; clear hK K)
                            (refine hh_take 4 HG rfl (by decide) (by kernel_rfl) (by kernel_rfl) xhB1.out (fun K hK => ?_); refine take_val ?_ (by rfl) ?_ ?_; rotate_left 1; (focus (intro wc hC; skip; go_simp; try rfl)); go_simp; refine hK.out _ ?_; clear hK K)
                            (refine hh_take 5 HG rfl (by decide) (by kernel_rfl) (by kernel_rfl) xhB1.out (fun K hK => ?_); refine take_val ?_ (by rfl) ?_ ?_; rotate_left 1; (focus (intro wc hC; skip; go_simp; try rfl)); go_simp; refine hK.out _ ?_; clear hK K)
                            (refine hh_take 6 HG rfl (by decide) (by kernel_rfl) (by kernel_rfl) xhB1.out (fun K hK => ?_); refine take_val ?_ (by rfl) ?_ ?_; rotate_left 1; (focus (intro wc hC; skip; go_simp; try rfl)); go_simp; refine hK.out _ ?_; clear hK K)
                            (refine hh_take 7 HG rfl (by decide) (by kernel_rfl) (by kernel_rfl) xhB1.out (fun K hK => ?_); refine take_val ?_ (by rfl) ?_ ?_; rotate_left 1; (focus (intro wc hC; skip; go_simp; try rfl)); go_simp; refine hK.out _ ?_; clear hK K)
                            (refine hh_take 8 HG rfl (by decide) (by kernel_rfl) (by kernel_rfl) xhB1.out (fun K hK => ?_); refine take_val ?_ (by rfl) ?_ ?_; rotate_left 1; (focus (intro wc hC; obtain ⟨x0, x1, x2, x3⟩ := HU.out wc hC; go_simp; try rfl)); go_simp; refine hK.out _ ?_; clear hK K)
                            (refine hh_take 9 HG rfl (by decide) (by kernel_rfl) (by kernel_rfl) xhB1.out (fun K hK => ?_); refine take_val ?_ (by rfl) ?_ ?_; rotate_left 1; (focus (intro wc hC; skip; go_simp; try rfl)); go_simp; refine hK.out _ ?_; clear hK K)
                            (refine hh_take 10 HG rfl (by decide) (by kernel_rfl) (by kernel_rfl) xhB1.out (fun K hK => ?_); refine take_val ?_ (by rfl) ?_ ?_; rotate_left 1; (focus (intro wc hC; skip; go_simp; try rfl)); go_simp; refine hK.out _ ?_; clear hK K)
                            (refine hh_take 11 HG rfl (by decide) (by kernel_rfl) (by kernel_rfl) xhB1.out (fun K hK => ?_); refine take_val ?_ (by rfl) ?_ ?_; rotate_left 1; (focus (intro wc hC; obtain ⟨x0, x1, x2, x3⟩ := HU.out wc hC; go_simp; try rfl)); go_simp; refine hK.out _ ?_; clear hK K)
                            (refine hh_take 12 HG rfl (by decide) (by kernel_rfl) (by kernel_rfl) xhB1.out (fun K hK => ?_); refine take_val ?_ (by rfl) ?_ ?_; rotate_left 1; (focus (intro wc hC; skip; go_simp; try rfl)); go_simp; refine hK.out _ ?_; clear hK K)
                            (refine hh_take 13 HG rfl (by decide) (by kernel_rfl) (by kernel_rfl) xhB1.out (fun K hK => ?_); refine take_val ?_ (by rfl) ?_ ?_; rotate_left 1; (focus (intro wc hC; skip; go_simp; try rfl)); go_simp; refine hK.out _ ?_; clear hK K)
                            (refine hh_take 14 HG rfl (by decide) (by kernel_rfl) (by kernel_rfl) xhB1.out (fun K hK => ?_); refine take_val ?_ (by rfl) ?_ ?_; rotate_left 1; (focus (intro wc hC; skip; go_simp; try rfl)); go_simp; refine hK.out _ ?_; clear hK K)
                            (refine hh_take 15 HG rfl (by decide) (by kernel_rfl) (by kernel_rfl) xhB1.out (fun K hK => ?_); refine take_val ?_ (by rfl) ?_ ?_; rotate_left 1; (focus (intro wc hC; skip; go_simp; try rfl)); go_simp; refine hK.out _ ?_; clear hK K)
                            (refine hh_take 16 HG rfl (by decide) (by kernel_rfl) (by kernel_rfl) xhB1.out (fun K hK => ?_); refine take_val ?_ (by rfl) ?_ ?_; rotate_left 1; (focus (intro wc hC; obtain ⟨x0, x1, x2, x3⟩ := HU.out wc hC; go_simp; try rfl)); go_simp; refine hK.out _ ?_; clear hK K)
                            (refine hh_take 17 HG rfl (by decide) (by kernel_rfl) (by kernel_rfl) xhB1.out (fun K hK => ?_); refine take_val ?_ (by rfl) ?_ ?_; rotate_left 1; (focus (intro wc hC; skip; go_simp; try rfl)); go_simp; refine hK.out _ ?_; clear hK K)
                            (refine hh_take 18 HG rfl (by decide) (by kernel_rfl) (by kernel_rfl) xhB1.out (fun K hK => ?_); refine take_val ?_ (by rfl) ?_ ?_; rotate_left 1; (focus (intro wc hC; skip; go_simp; try rfl)); go_simp; refine hK.out _ ?_; clear hK K)
                            (refine hh_take 19 HG rfl (by decide) (by kernel_rfl) (by kernel_rfl) xhB1.out (fun K hK => ?_); refine take_val ?_ (by rfl) ?_ ?_; rotate_left 1; (focus (intro wc hC; obtain ⟨x0, x1, x2, x3⟩ := HU.out wc hC; go_simp; try rfl)); go_simp; refine hK.out _ ?_; clear hK K)
                            (refine hh_take 20 HG rfl (by decide) (by kernel_rfl) (by kernel_rfl) xhB1.out (fun K hK => ?_); refine take_val ?_ (by rfl) ?_ ?_; rotate_left 1; (focus (intro wc hC; skip; go_simp; try rfl)); go_simp; refine hK.out _ ?_; clear hK K)
                            refine hh_mid 21 rfl (by decide) (by kernel_rfl) (fun K hK => ?_)
                            (refine mid_call ?_ ?_ (by rfl) ?_ ?_; rotate_left 2; (focus (go_simp; first | done | rfl | (refine And.intro ?_ ?_ <;> rfl))))
                            refine (impl_Minus z _ _).mono ?_
                            rintro e w' ⟨rfl, rfl⟩
                            refine ⟨_, rfl, ?_⟩
                            (go_simp; refine hK.out _ _ ?_ ?_ <;> clear hK K)
                            · exact xhB1.out
                            (refine hh_take 22 HG rfl (by decide) (by kernel_rfl) (by kernel_rfl) xhB1.out (fun K hK => ?_); refine take_val ?_ (by rfl) ?_ ?_; rotate_left 1; (focus (intro wc hC; skip; go_simp; try rfl)); go_simp; refine hK.out _ ?_; clear hK K)
                            refine hh_done (by kernel_rfl) ?_
                            simp only [List.drop_succ_cons, List.drop_zero]
                            change wpList _ _ _ _ _ _
                            go_wp2_with fail
                            go_roundw
                            case rel => exact ⟨t + 1, by go_num, by omega, hid (by rw [minus_prod, HZ.out, HZ2.out, HY2.out]; exact (hM.out.elm_next hp ht hpN).below ((Below.refl _ _).drew)), hid (ow_set hO.out (Nat.lt_of_lt_of_le (hM.out.own p hp).1.2 htop) _).drew, hid (hB.out.setCell (hM.out.own p hp).1.1 _).drew⟩
                            case measure => simp [intOf]; omega
                          · obtain rfl : W = t := by omega
                            go_wp2_with fail
                            go_roundw
                            case rel => exact ⟨p + 1, by go_num, by omega, hid hM.out.elm_row, hO, hB⟩
                            case measure => simp [intOf]; omega
                  · obtain rfl : n = p := by omega
                    have HM4 := hid hM.out.elm_last
                    clear u5 hM
                    go_wp2_with (at_builtin; refine wpList_append_int _ rfl _ _ rfl w.heap.size (.slice ao N cc) N _ rfl (hO.out.alloc _) _ (k : Int) rfl (cell_one _ _ _) ⟨by omega, by omega⟩ (by omega) (by have := hB.out.size; simp; omega) ?_; intro v' w3 hO3 hG3)
                    have hlo : ∀ j, (Value.slice ao N cc).ownBlock = some j → w.heap.size ≤ j := fun j hj => (hO.out.lt j hj).1
                    have HM5 := hid ((HM4.out.below (below_box _ _)).grown hG3 (fun j hj => Nat.le_trans htop (hlo j hj)))
                    have HB5 := hid ((hB.out.alloc (by have := hB.out.size; omega) _).grown hG3 (by have := hB.out.size; simp; omega) (fun j hj => by have := hlo j hj; omega))
                    have HO5 := hid hO3
                    clear hO3 hG3 hlo hO hB
                    go_wp2_with fail
                    go_roundw
                    case rel =>
                      refine ⟨k + 1, N + 1, _, L ++ [k], hb2, hc2, by go_num, by omega, by omega, by omega, hid ?_, hid (by simp [HL.out]), HM5, hid (by rw [List.map_append]; exact HO5.out), HB5⟩
                      rw [red_succ, HR.out]
                      unfold col
                      simp only [HL.out]
                      rw [hsk.out, if_pos hqlt, ← HM3e.out, ← HM2e.out, HY.out]
                    case measure => simp [intOf]; omega
        · obtain rfl : q = n := by omega
          have hsk : Hid (seek M k N (q - N) = q) := hid (HS.out.symm.trans (seek_end M k q))
          clear HS hqlt hqn
          go_wp2_with fail
          go_roundw
          case rel =>
            refine ⟨k + 1, N, M, L, hb, hc, by go_num, by omega, hNn, by omega, hid ?_, HL, hM, hO, hB⟩
            rw [red_succ, HR.out]
            unfold col
            simp only [HL.out]
            rw [if_neg (by rw [hsk.out]; omega)]
          case measure => simp [intOf]; omega
    · obtain rfl : k = c := by omega
      go_wp2_with fail
      go_ret
      obtain ⟨ao', c', e1, h1⟩ := hO.out.fr
      cases e1
      refine ⟨_, _, _, hb, hc, rfl, ?_, ?_, ?_, hB.out⟩
      · rw [HR.out, HL.out]
      · rw [HR.out]; exact h1
      · rw [HR.out]; exact hM.out
end Go.Proofs.YthebegfceaehfaaDoor
