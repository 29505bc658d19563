/- 'l6Classes' of the reference. -/
import Derived.Test.YtekojohhjnklkaaRedC
import Derived.Test.YtekojohhjnklkaaRegG
import Derived.Test.YtekojohhjnklkaaEmpty
namespace Go.Proofs.Ytekojohhjnklkaa
open Go.RowKit

theorem ints_zeros0 (S : Nat) : Red.ints (Red.zeros S) = List.replicate S 0 := by simp [Red.ints, Red.zeros]
theorem zeros_fr {w : World} (lo S : Nat) (hS : S ≤ 8) (hlo : lo ≤ w.heap.size) : Fr (w.alloc (.cells (zeros S) 3)) lo (some ⟨w.heap.size, 0, none⟩) S S (Red.ints (Red.zeros S)) := by
  rw [ints_zeros0]
  exact fr_zeros (bk_new _ _ _) hlo (by omega)
set_option maxRecDepth 20000 in
set_option maxHeartbeats 8000000 in
theorem spec_l6Classes (S : Nat) (a1 : Option Addr) (n1 c1 : Nat) (A : List Int) (a2 : Option Addr) (n2 c2 : Nat) (w : World) (h1 : Rd w a1 n1 c1 A) (e1 : n1 = S * S) (hS : S ≤ 8) :
    Calls Try.prog 75 #[.agg #[.int .i64 S, .slice a1 n1 c1, .slice a2 n2 c2]] w fun e w' => ∃ ao c, e = .returned (.slice ao S c) ∧ NewInts w w' (Red.ints (Red.classes A S)) ao S c := by
  have H1 := hid h1
  have E1 := hid e1
  clear h1 e1
  have K1 := hid (bk_new w #[.int .i64 S, .slice a1 n1 c1, .slice a2 n2 c2] 27)
  have L1 := hid (below_box w (.cells #[.int .i64 S, .slice a1 n1 c1, .slice a2 n2 c2] 27))
  have F1 := hid (zeros_fr (w := w.alloc (.cells #[.int .i64 S, .slice a1 n1 c1, .slice a2 n2 c2] 27)) (w.heap.size + 1) S hS (by simp))
  have mk := run_mk S (S : Int) rfl (by omega)
  go_enter Try.func75, Try.ntmps75
  go_wp2_with fail
  clear mk
  go_loopw [3, 4] (fun v i wr => ∃ (r : Nat) (ao : Option Addr) (c : Nat), v = .slice ao S c ∧ i = .int .i64 r ∧ r ≤ S ∧ Hid (Fr wr (w.heap.size + 1) ao S c (Red.ints (Red.rounds A S r))) ∧ Hid (Below (w.heap.size + 1) (w.alloc (.cells #[.int .i64 S, .slice a1 n1 c1, .slice a2 n2 c2] 27)) wr)) (fun _ i _ => S - (intOf i).toNat)
  case atStart =>
    exact ⟨0, _, _, rfl, rfl, Nat.zero_le _, hid (by have h := F1.out; simp only [World.size_alloc] at h; exact h), hid ((Below.refl _ _).alloc (by simp) _)⟩
  case round =>
    obtain ⟨r, ao, c, rfl, rfl, hr, hF, hB⟩ := hrel
    obtain ⟨W, rfl⟩ : ∃ W : World, W = wr := ⟨_, rfl⟩
    have C0 := hid ((hB.out.block _ (Nat.lt_succ_self _)).trans K1.out)
    obtain ⟨⟨q0, q1, q2⟩, _⟩ := blk3 C0.out
    have z0 : w.heap.size + 1 ≤ W.heap.size := by have := hB.out.size; simpa using this
    by_cases hrt : r < S
    · have hri : (r : Int) < (S : Int) := by omega
      have CL := hid (Red.rounds_cls A S r)
      generalize hcls : Red.rounds A S r = cls at hF CL
      have HC := hid hcls
      clear hcls
      generalize hK : Red.key A S cls S = K
      have HK := hid hK
      clear hK
      go_wp2_with fail
      clear q0 q1 q2
      go_loopw [5, 6, 7] (fun v n i wr => ∃ (k N : Nat), n = .int .i64 N ∧ i = .int .i64 k ∧ k ≤ S ∧ N ≤ k ∧ Hid (N = (Red.foundTo K k).length) ∧ Hid (Ow wr W.heap.size v k (Red.ints (Red.nextTo K k))) ∧ Hid (Below W.heap.size W wr)) (fun _ _ i _ => S - (intOf i).toNat)
      case atStart => exact ⟨0, 0, rfl, rfl, Nat.zero_le _, Nat.le_refl _, hid rfl, hid (Ow.empty W W.heap.size (Nat.le_refl _)), hid (below_box _ _)⟩
      case round =>
        obtain ⟨k, N, rfl, rfl, hk, hNk, hN, hO, hB2⟩ := hrel
        obtain ⟨V, rfl⟩ : ∃ V : World, V = wr := ⟨_, rfl⟩
        have C2 := hid (bk_below C0.out hB2.out)
        obtain ⟨⟨q0, q1, q2⟩, _⟩ := blk3 C2.out
        by_cases hlt : k < S
        · have hki : (k : Int) < (S : Int) := by omega
          go_wp2_with fail
          clear q0 q1 q2 C2
          go_loopw [8, 9] (fun a i wr => ∃ (t : Nat) (o : Option Nat), a = .int .i64 (Red.optV o) ∧ i = .int .i64 t ∧ t ≤ k ∧ Hid (Red.Find K k t o) ∧ Hid (Ow wr W.heap.size u5 k (Red.ints (Red.nextTo K k))) ∧ Hid (Below W.heap.size W wr)) (fun _ i _ => k - (intOf i).toNat)
          case atStart => exact ⟨0, none, rfl, rfl, Nat.zero_le _, hid (Red.Find.start K k), hO, hB2⟩
          case round =>
            clear hO hB2
            obtain ⟨t, o, rfl, rfl, ht, hFd, hO, hB2⟩ := hrel
            obtain ⟨U, rfl⟩ : ∃ U : World, U = wr := ⟨_, rfl⟩
            by_cases htt : t < k
            · have hti : (t : Int) < (k : Int) := by omega
              cases o with
              | none =>
                obtain ⟨b, o, x, rfl, hcx, x1, x2, hx⟩ := (hF.out.rd.below hB2.out).at (k := k) hlt
                obtain ⟨b2, o2, y, e2, hcy, y1, y2, hy⟩ := (hF.out.rd.below hB2.out).at (k := t) (by omega)
                cases e2
                have hts : (t : Int) < (S : Int) := by omega
                have hm1 : (Red.optV none) = -1 := rfl
                rw [hm1]
                go_wp2_with fail
                go_quiet (fail)
                have HA0 := hid (Red.Alk.start (A := A) (S := S) hx.out hy.out)
                clear hcx hcy hx hy
                go_wp2_with fail
                go_loopw [10, 11] (fun al i wr => ∃ (u : Nat) (bl : Bool), al = .bool bl ∧ i = .int .i64 u ∧ u ≤ S ∧ Hid (Red.Alk A S cls k t u bl) ∧ Hid (Ow wr W.heap.size u5 k (Red.ints (Red.nextTo K k))) ∧ Hid (Below W.heap.size W wr)) (fun _ i _ => S - (intOf i).toNat)
                case atStart => exact ⟨0, _, rfl, rfl, Nat.zero_le _, HA0, hid (hO.out.below (Below.drewN' (Below.refl _ _) _)), hid (Below.drewN' hB2.out _)⟩
                case round =>
                  clear hO hB2 HA0
                  obtain ⟨u, bl, rfl, rfl, hu, hAl, hO, hB2⟩ := hrel
                  obtain ⟨Z, rfl⟩ : ∃ Z : World, Z = wr := ⟨_, rfl⟩
                  have C2 := hid (bk_below C0.out hB2.out)
                  obtain ⟨⟨q0, q1, q2⟩, _⟩ := blk3 C2.out
                  by_cases hut : u < S
                  · have hui : (u : Int) < (S : Int) := by omega
                    cases bl with
                    | false =>
                      go_wp2_with fail
                      go_quiet (fail)
                      go_wp2_with fail
                      go_roundw
                      case rel => exact ⟨u + 1, _, rfl, by go_num, by omega, hid hAl.out.no, hid (hO.out.below (Below.drewN' (Below.refl _ _) _)), hid (Below.drewN' hB2.out _)⟩
                      case measure => simp [intOf]; omega
                    | true =>
                      have hbx : Hid (∀ wc, Below Z.heap.size Z wc → wc.cell? ⟨w.heap.size, 0, none⟩ = some (.int .i64 S) ∧ wc.cell? ⟨w.heap.size, 1, none⟩ = some (.slice a1 n1 c1) ∧ wc.cell? ⟨w.heap.size, 2, none⟩ = some (.slice a2 n2 c2)) := hid fun wc h => (blk3 (bk_below C2.out h)).1
                      have HA1 := hid (H1.out.below (L1.out.trans ((hB.out.mono (Nat.le_succ _)).trans (hB2.out.mono (by omega)))))
                      obtain ⟨rb, ro, _, erfl, _, _, _, _⟩ := H1.out.at (k := 0) (by rw [E1.out]; exact Nat.mul_pos (by omega) (by omega))
                      cases erfl
                      have HFc := hid (hF.out.rd.below hB2.out)
                      have htS : t < S := by omega
                      obtain ⟨X, hX⟩ : ∃ X, X = Red.over (rowL A S k) cls u S := ⟨_, rfl⟩
                      obtain ⟨Y, hY⟩ : ∃ Y, Y = Red.over (rowL A S t) cls u S := ⟨_, rfl⟩
                      have HX := hid hX
                      have HY := hid hY
                      have HA2 := hid (hAl.out.step (x := X) (y := Y) hX.symm hY.symm)
                      have hS0 := hid (show Below Z.heap.size Z Z.drew from (Below.refl _ _).drew)
                      clear hX hY C2
                      go_wp2_with fail
                      clear q0 q1 q2
                      refine wp_region_calm (C := fun wc => Below Z.heap.size Z wc) rfl (by kernel_rfl) hS0.out ?_
                      (refine quiet_stepH (fun K hK => ?_); refine q_val ?_ (by rfl) ?_ ?_; rotate_left 1; (focus (intro wc hC; skip; go_simp; try rfl)); go_simp; refine hK.out _ ?_; clear hK K)
                      (refine quiet_stepH (fun K hK => ?_); refine q_val ?_ (by rfl) ?_ ?_; rotate_left 1; (focus (intro wc hC; skip; go_simp; try rfl)); go_simp; refine hK.out _ ?_; clear hK K)
                      (refine quiet_stepH (fun K hK => ?_); refine q_val ?_ (by rfl) ?_ ?_; rotate_left 1; (focus (intro wc hC; obtain ⟨q0, q1, q2⟩ := hbx.out wc hC; go_simp; try rfl)); go_simp; refine hK.out _ ?_; clear hK K)
                      (refine quiet_stepH (fun K hK => ?_); refine q_val ?_ (by rfl) ?_ ?_; rotate_left 1; (focus (intro wc hC; skip; go_simp; try rfl)); go_simp; refine hK.out _ ?_; clear hK K)
                      (refine quiet_stepH (fun K hK => ?_); refine q_call ?_ ?_ ?_ (by rfl) ?_ ?_ ?_; rotate_left 3; (focus (intro wc hC; go_simp; first | done | rfl | (refine And.intro ?_ ?_ <;> rfl))))
                      · exact fun wc hC => (spec_row S k rb ro n1 c1 _ wc E1.out H1.out.cap H1.out.max hlt hS).mono fun e w' ⟨e1, e2⟩ => ⟨by rw [e1], hC.trans (e2.mono hC.size)⟩
                      (go_simp; refine hK.out _ ?_; clear hK K)
                      (refine quiet_stepH (fun K hK => ?_); refine q_val ?_ (by rfl) ?_ ?_; rotate_left 1; (focus (intro wc hC; skip; go_simp; try rfl)); go_simp; refine hK.out _ ?_; clear hK K)
                      (refine quiet_stepH (fun K hK => ?_); refine q_val ?_ (by rfl) ?_ ?_; rotate_left 1; (focus (intro wc hC; skip; go_simp; try rfl)); go_simp; refine hK.out _ ?_; clear hK K)
                      (refine quiet_stepH (fun K hK => ?_); refine q_call ?_ ?_ ?_ (by rfl) ?_ ?_ ?_; rotate_left 3; (focus (intro wc hC; go_simp; first | done | rfl | (refine And.intro ?_ ?_ <;> rfl))))
                      · exact fun wc hC => (spec_l6Over _ S _ (rowL A S k) _ _ cls u wc ((HA1.out.below hC).row E1.out hlt) (HFc.out.below hC) hS (by omega)).mono fun e w' ⟨e1, e2⟩ => ⟨by rw [e1, ← HX.out], e2 ▸ hC⟩
                      (go_simp; refine hK.out _ ?_; clear hK K)
                      (refine quiet_stepH (fun K hK => ?_); refine q_val ?_ (by rfl) ?_ ?_; rotate_left 1; (focus (intro wc hC; obtain ⟨q0, q1, q2⟩ := hbx.out wc hC; go_simp; try rfl)); go_simp; refine hK.out _ ?_; clear hK K)
                      (refine quiet_stepH (fun K hK => ?_); refine q_val ?_ (by rfl) ?_ ?_; rotate_left 1; (focus (intro wc hC; skip; go_simp; try rfl)); go_simp; refine hK.out _ ?_; clear hK K)
                      (refine quiet_stepH (fun K hK => ?_); refine q_call ?_ ?_ ?_ (by rfl) ?_ ?_ ?_; rotate_left 3; (focus (intro wc hC; go_simp; first | done | rfl | (refine And.intro ?_ ?_ <;> rfl))))
                      · exact fun wc hC => (spec_row S t rb ro n1 c1 _ wc E1.out H1.out.cap H1.out.max htS hS).mono fun e w' ⟨e1, e2⟩ => ⟨by rw [e1], hC.trans (e2.mono hC.size)⟩
                      (go_simp; refine hK.out _ ?_; clear hK K)
                      (refine quiet_stepH (fun K hK => ?_); refine q_val ?_ (by rfl) ?_ ?_; rotate_left 1; (focus (intro wc hC; skip; go_simp; try rfl)); go_simp; refine hK.out _ ?_; clear hK K)
                      (refine quiet_stepH (fun K hK => ?_); refine q_val ?_ (by rfl) ?_ ?_; rotate_left 1; (focus (intro wc hC; skip; go_simp; try rfl)); go_simp; refine hK.out _ ?_; clear hK K)
                      (refine quiet_stepH (fun K hK => ?_); refine q_call ?_ ?_ ?_ (by rfl) ?_ ?_ ?_; rotate_left 3; (focus (intro wc hC; go_simp; first | done | rfl | (refine And.intro ?_ ?_ <;> rfl))))
                      · exact fun wc hC => (spec_l6Over _ S _ (rowL A S t) _ _ cls u wc ((HA1.out.below hC).row E1.out htS) (HFc.out.below hC) hS (by omega)).mono fun e w' ⟨e1, e2⟩ => ⟨by rw [e1, ← HY.out], e2 ▸ hC⟩
                      (go_simp; refine hK.out _ ?_; clear hK K)
                      (refine quiet_stepH (fun K hK => ?_); refine q_val ?_ (by rfl) ?_ ?_; rotate_left 1; (focus (intro wc hC; skip; go_simp; try rfl)); go_simp; refine hK.out _ ?_; clear hK K)
                      (refine quiet_stepH (fun K hK => ?_); refine q_val ?_ (by rfl) ?_ ?_; rotate_left 1; (focus (intro wc hC; skip; go_simp; try rfl)); go_simp; refine hK.out _ ?_; clear hK K)
                      (refine quiet_stepH (fun K hK => ?_); refine q_val ?_ (by rfl) ?_ ?_; rotate_left 1; (focus (intro wc hC; skip; go_simp; try rfl)); go_simp; refine hK.out _ ?_; clear hK K)
                      refine wpQuiet_nil ?_
                      intro wq hq
                      have O3 := hid (hO.out.below hq)
                      have B3 := hid (hB2.out.trans (hq.mono hB2.out.size))
                      clear hq hS0 hbx
                      go_wp2_with fail
                      go_roundw
                      case rel => exact ⟨u + 1, _, rfl, by go_num, by omega, HA2, O3, B3⟩
                      case measure => simp [intOf]; omega
                  · obtain rfl : S = u := by omega
                    have hD := hAl.out.done
                    rw [HK.out] at hD
                    have HD := hid hD
                    clear hD
                    cases bl with
                    | false =>
                      have HF2 := hid (hFd.out.miss (fun e => by have := HD.out.2 e; cases this))
                      go_wp2_with fail
                      go_roundw
                      case rel => exact ⟨t + 1, none, rfl, by go_num, by omega, HF2, hO, hB2⟩
                      case measure => simp [intOf]; omega
                    | true =>
                      have HF2 := hid (Red.Find.hit htt (HD.out.1 rfl))
                      obtain ⟨on, cn, e5, hFn⟩ := hO.out.fr
                      subst e5
                      obtain ⟨b3, o3, g, rfl, hcg, g1, g2, hg⟩ := hFn.rd.at (k := t) htt
                      have HG := hid (hg.out.trans (Red.ints_getD _ _))
                      clear hg hFn
                      go_wp2_with fail
                      go_roundw
                      case rel => exact ⟨t + 1, some _, by rw [HG.out]; rfl, by go_num, by omega, HF2, hO, hB2⟩
                      case measure => simp [intOf]; omega
              | some cc =>
                have hm1 : (Red.optV (some cc)) = (cc : Int) := rfl
                rw [hm1]
                have hnx := Red.next_hit (hFd.out.yes cc rfl).2
                rw [← (hFd.out.yes cc rfl).1] at hnx
                have HNX := hid hnx
                have hcc : cc ≤ 8 := by
                  have h1 := (hFd.out.yes cc rfl).1
                  have h2 := Red.foundTo_len K k
                  have h3 := Red.idx_le (Red.foundTo K k) (K k)
                  omega
                have hnn : ¬ (cc : Int) < 0 := by omega
                have z3 := hB2.out.size
                clear hnx
                go_wp2_with (at_builtin; refine wpList_append_int _ rfl _ _ rfl W.heap.size _ k _ rfl (hO.out.alloc _) _ (cc : Int) rfl (cell_one _ _ _) ⟨by omega, by omega⟩ (by omega) (by simp; omega) ?_; intro v' w3 hO3 hG3)
                have O3 := hid (show Ow w3 W.heap.size v' (k + 1) (Red.ints (Red.nextTo K (k + 1))) by rw [HNX.out.1, Red.ints_snoc]; exact hO3)
                have B3 := hid ((hB2.out.alloc z3 _).grown hG3 (by simp; omega) (fun j hj => (hO.out.lt j hj).1))
                have HN3 := hid (show N = (Red.foundTo K (k + 1)).length by rw [HNX.out.2]; exact hN.out)
                clear hO3 hG3
                go_wp2_with fail
                go_roundw
                case rel => exact ⟨k + 1, N, rfl, by go_num, by omega, by omega, HN3, O3, B3⟩
                case measure => simp [intOf]; omega
            · obtain rfl : k = t := by omega
              cases o with
              | some cc =>
                have hm1 : (Red.optV (some cc)) = (cc : Int) := rfl
                rw [hm1]
                have hnx := Red.next_hit (hFd.out.yes cc rfl).2
                rw [← (hFd.out.yes cc rfl).1] at hnx
                have HNX := hid hnx
                have hcc : cc ≤ 8 := by
                  have h1 := (hFd.out.yes cc rfl).1
                  have h2 := Red.foundTo_len K k
                  have h3 := Red.idx_le (Red.foundTo K k) (K k)
                  omega
                have hnn : ¬ (cc : Int) < 0 := by omega
                have z3 := hB2.out.size
                clear hnx
                go_wp2_with (at_builtin; refine wpList_append_int _ rfl _ _ rfl W.heap.size _ k _ rfl (hO.out.alloc _) _ (cc : Int) rfl (cell_one _ _ _) ⟨by omega, by omega⟩ (by omega) (by simp; omega) ?_; intro v' w3 hO3 hG3)
                have O3 := hid (show Ow w3 W.heap.size v' (k + 1) (Red.ints (Red.nextTo K (k + 1))) by rw [HNX.out.1, Red.ints_snoc]; exact hO3)
                have B3 := hid ((hB2.out.alloc z3 _).grown hG3 (by simp; omega) (fun j hj => (hO.out.lt j hj).1))
                have HN3 := hid (show N = (Red.foundTo K (k + 1)).length by rw [HNX.out.2]; exact hN.out)
                clear hO3 hG3
                go_wp2_with fail
                go_roundw
                case rel => exact ⟨k + 1, N, rfl, by go_num, by omega, by omega, HN3, O3, B3⟩
                case measure => simp [intOf]; omega
              | none =>
                have hm1 : (Red.optV none) = -1 := rfl
                rw [hm1]
                have hnx := Red.next_new hFd.out.new
                rw [← hN.out] at hnx
                have HNX := hid hnx
                have z3 := hB2.out.size
                clear hnx
                go_wp2_with (at_builtin; refine wpList_append_int _ rfl _ _ rfl W.heap.size _ k _ rfl (hO.out.alloc _) _ (N : Int) rfl (cell_one _ _ _) ⟨by omega, by omega⟩ (by omega) (by simp; omega) ?_; intro v' w3 hO3 hG3)
                have O3 := hid (show Ow w3 W.heap.size v' (k + 1) (Red.ints (Red.nextTo K (k + 1))) by rw [HNX.out.1, Red.ints_snoc]; exact hO3)
                have B3 := hid ((hB2.out.alloc z3 _).grown hG3 (by simp; omega) (fun j hj => (hO.out.lt j hj).1))
                have HN3 := hid (show N + 1 = (Red.foundTo K (k + 1)).length by rw [HNX.out.2, List.length_append, ← hN.out]; rfl)
                clear hO3 hG3
                go_wp2_with fail
                go_roundw
                case rel => exact ⟨k + 1, N + 1, by go_num, by go_num, by omega, by omega, HN3, O3, B3⟩
                case measure => simp [intOf]; omega
        · obtain rfl : S = k := by omega
          have HN2 := hid (show Ow V W.heap.size u5 S (Red.ints (Red.rounds A S (r + 1))) by
            have h := hO.out
            rw [← HK.out, Red.next_nextTo, ← HC.out] at h
            exact h)
          obtain ⟨ao', c', e5, hFr⟩ := HN2.out.fr
          subst e5
          have HFr := hid (hFr.mono (Nat.le_trans (Nat.le_refl _) z0))
          have HBB := hid (hB.out.trans (hB2.out.mono z0))
          clear hFr
          go_wp2_with fail
          go_roundw
          case rel => exact ⟨r + 1, _, _, rfl, by go_num, by omega, HFr, HBB⟩
          case measure => simp [intOf]; omega
    · obtain rfl : S = r := by omega
      go_wp2_with fail
      go_ret
      exact ⟨ao, c, rfl, hF.out.mono (Nat.le_succ _), L1.out.trans (hB.out.mono (Nat.le_succ _))⟩
end Go.Proofs.Ytekojohhjnklkaa
