/- 'l6Needed' of the reference. -/
import Derived.Test.YtekojohhjnklkaaRedN
import Derived.Test.YtekojohhjnklkaaRow
namespace Go.Proofs.Ytekojohhjnklkaa
open Go.RowKit Red

set_option maxRecDepth 20000 in
set_option maxHeartbeats 4000000 in
theorem spec_l6Needed (S : Nat) (a1 : Option Addr) (n1 c1 : Nat) (A : List Int) (a2 : Option Addr) (c2 : Nat) (B : List Int) (w : World) (h1 : Rd w a1 n1 c1 A) (h2 : Rd w a2 S c2 B) (e1 : n1 = S * S) (hS : S ≤ 8) :
    Calls Try.prog 73 #[.agg #[.int .i64 S, .slice a1 n1 c1, .slice a2 S c2]] w fun e w' => ∃ ao n c, e = .returned (.slice ao n c) ∧ NewInts w w' (ints (needL A B S)) ao n c := by
  have H1 := hid h1
  have H2 := hid h2
  have E1 := hid e1
  clear h1 h2 e1
  have K1 := hid (bk_new w #[.int .i64 S, .slice a1 n1 c1, .slice a2 S c2] 27)
  have L1 := hid (below_box w (.cells #[.int .i64 S, .slice a1 n1 c1, .slice a2 S c2] 27))
  have M1 := hid (Met.new (w.alloc (.cells #[.int .i64 S, .slice a1 n1 c1, .slice a2 S c2] 27)) (List.replicate S false))
  have mk := run_mkb S (S : Int) rfl (by omega)
  go_enter Try.func73, Try.ntmps73
  go_wp2_with fail
  clear mk
  go_loopw [4] (fun i wr => ∃ (nb : List Bool) (r : Nat), i = .int .i64 r ∧ r ≤ S + 1 ∧ Hid (Met wr (w.heap.size + 1) nb) ∧ Hid (Sound A B S nb) ∧ Hid (Rs A B S nb r) ∧ Hid (Below (w.heap.size + 1) (w.alloc (.cells #[.int .i64 S, .slice a1 n1 c1, .slice a2 S c2] 27)) wr)) (fun i _ => S + 1 - (intOf i).toNat)
  case atStart =>
    refine ⟨List.replicate S false, 0, rfl, Nat.zero_le _, hid (by have h := M1.out; simp only [World.size_alloc] at h; exact h), hid Sound.start, hid (.inl (Nat.zero_le _)), hid ((Below.refl _ _).alloc (by simp) _)⟩
  case round =>
    obtain ⟨nb, r, rfl, hr, hM, hN, hRs, hB⟩ := hrel
    have C1 := hid ((hB.out.block _ (Nat.lt_succ_self _)).trans K1.out)
    obtain ⟨⟨q0, q1, q2⟩, _⟩ := blk3 C1.out
    by_cases hrt : (r : Int) ≤ (S : Int)
    · go_wp2_with fail
      clear q0 q1 q2 C1
      go_loopw [5] (fun i wr' => ∃ (a : Bool) (nb' : List Bool) (k : Nat), i = .int .i64 k ∧ k ≤ S ∧ Hid (Met wr' (w.heap.size + 1) nb') ∧ Hid (Sound A B S nb') ∧ Hid (Rnd2 A B S nb nb' k a) ∧ Hid (Below (w.heap.size + 1) (w.alloc (.cells #[.int .i64 S, .slice a1 n1 c1, .slice a2 S c2] 27)) wr')) (fun i _ => S - (intOf i).toNat)
      case atStart => exact ⟨false, nb, 0, rfl, Nat.zero_le _, hM, hN, hid (Rnd2.start nb), hB⟩
      case round =>
        obtain ⟨a', nb', k, rfl, hk, hM', hN', hR', hB'⟩ := hrel
        rename_i wo
        have C0 := hid ((hB'.out.block _ (Nat.lt_succ_self _)).trans K1.out)
        have L2 := hid (L1.out.trans (hB'.out.mono (Nat.le_succ _)))
        obtain ⟨⟨q0, q1, q2⟩, _⟩ := blk3 C0.out
        by_cases hlt : k < S
        · have hki : (k : Int) < (S : Int) := by omega
          obtain ⟨hcm, hfm⟩ := hM'.out.at (i := k) (by rw [hN'.out.len]; exact hlt)
          obtain ⟨v, hv⟩ : ∃ v, v = nb'.getD k false := ⟨_, rfl⟩
          rw [← hv] at hcm
          have HV := hid hv
          clear hv
          cases v with
          | true =>
            obtain ⟨a3, hN3, hR3⟩ := hR'.out.mark hN'.out hlt (x := true) (by rw [← HV.out]; rfl)
            have hM3 := hid (hM'.out.setv k true)
            have hB3 := hid (hB'.out.setCell (p := ⟨w.heap.size + 1, k, none⟩) (Nat.le_refl _) (.bool true))
            go_wp2_with fail
            clear q0 q1 q2 hcm hfm hM' hB' L2 C0
            go_loopw [6] (fun i wr' => ∃ (a : Bool) (nb3 : List Bool) (t : Nat), i = .int .i64 t ∧ t ≤ S ∧ Hid (Met wr' (w.heap.size + 1) nb3) ∧ Hid (Sound A B S nb3) ∧ Hid (Row2 A B S nb nb3 k t a) ∧ Hid (Below (w.heap.size + 1) (w.alloc (.cells #[.int .i64 S, .slice a1 n1 c1, .slice a2 S c2] 27)) wr')) (fun i _ => S - (intOf i).toNat)
            case atStart => exact ⟨a3, _, 0, rfl, Nat.zero_le _, hM3, hN3, hR3, hB3⟩
            case round =>
              clear hM3 hB3 hN3 hR3
              obtain ⟨a', nb3, t, rfl, ht, hM3, hN3, hR3, hB3⟩ := hrel
              rename_i wi
              have C0 := hid ((hB3.out.block _ (Nat.lt_succ_self _)).trans K1.out)
              have L2 := hid (L1.out.trans (hB3.out.mono (Nat.le_succ _)))
              obtain ⟨⟨q0, q1, q2⟩, _⟩ := blk3 C0.out
              by_cases htt : t < S
              · have hti : (t : Int) < (S : Int) := by omega
                obtain ⟨hcm, hfm⟩ := hM3.out.at (i := k) (by rw [hN3.out.len]; exact hlt)
                obtain ⟨v, hv⟩ : ∃ v, v = nb3.getD k false := ⟨_, rfl⟩
                rw [← hv] at hcm
                have HVk := hid hv
                clear hv
                cases v with
                | false =>
                  have hR4 := hid (hR3.out.leave (fun e => by rw [← HVk.out] at e; cases e))
                  go_wp2_with fail
                  go_roundw
                  case rel => exact ⟨a', nb3, k + 1, by go_num, by omega, hM3, hN3, hR4, hB3⟩
                  case measure => simp [intOf]; omega
                | true =>
                  obtain ⟨hct, hft⟩ := hM3.out.at (i := t) (by rw [hN3.out.len]; exact htt)
                  obtain ⟨v, hv⟩ : ∃ v, v = nb3.getD t false := ⟨_, rfl⟩
                  rw [← hv] at hct
                  have HVt := hid hv
                  clear hv
                  cases v with
                  | true =>
                    obtain ⟨a4, hN4, hR4⟩ := hR3.out.mark hN3.out HVk.out htt (x := true) (by rw [← HVt.out]; rfl)
                    have hM4 := hid (hM3.out.setv t true)
                    have hB4 := hid (hB3.out.setCell (p := ⟨w.heap.size + 1, t, none⟩) (Nat.le_refl _) (.bool true))
                    go_wp2_with fail
                    go_roundw
                    case rel => exact ⟨a4, _, t + 1, by go_num, by omega, hM4, hN4, hR4, hB4⟩
                    case measure => simp [intOf]; omega
                  | false =>
                    obtain ⟨f1, f2, f3, f4, f5⟩ := at_facts E1.out H1.out.cap hlt htt hS
                    obtain ⟨b1, o1, y, rfl, hcy, y1, y2, hy⟩ := (H1.out.below L2.out).at f5
                    obtain ⟨a4, hN4, hR4⟩ := hR3.out.mark hN3.out HVk.out htt (x := (y != 0)) (by rw [← HVt.out, ← hy.out]; rfl)
                    have hM4 := hid (hM3.out.setv t (y != 0))
                    have hB4 := hid (hB3.out.setCell (p := ⟨w.heap.size + 1, t, none⟩) (Nat.le_refl _) (.bool (y != 0)))
                    clear f5 hy
                    go_wp2_with fail
                    go_roundw
                    case rel => exact ⟨a4, _, t + 1, by go_num, by omega, hM4, hN4, hR4, hB4⟩
                    case measure => simp [intOf]; omega
              · obtain rfl : S = t := by omega
                have hR4 := hid (hR3.out.leave (fun _ => Nat.le_refl _))
                go_wp2_with fail
                go_roundw
                case rel => exact ⟨a', nb3, k + 1, by go_num, by omega, hM3, hN3, hR4, hB3⟩
                case measure => simp [intOf]; omega
          | false =>
            obtain ⟨b2, o2, x, rfl, hcx, x1, x2, hx⟩ := (H2.out.below L2.out).at hlt
            obtain ⟨a3, hN3, hR3⟩ := hR'.out.mark hN'.out hlt (x := (x != 0)) (by rw [← HV.out, ← hx.out]; rfl)
            have hM3 := hid (hM'.out.setv k (x != 0))
            have hB3 := hid (hB'.out.setCell (p := ⟨w.heap.size + 1, k, none⟩) (Nat.le_refl _) (.bool (x != 0)))
            go_wp2_with fail
            clear hcx q0 q1 q2 hcm hfm hM' hB' L2 C0
            go_loopw [6] (fun i wr' => ∃ (a : Bool) (nb3 : List Bool) (t : Nat), i = .int .i64 t ∧ t ≤ S ∧ Hid (Met wr' (w.heap.size + 1) nb3) ∧ Hid (Sound A B S nb3) ∧ Hid (Row2 A B S nb nb3 k t a) ∧ Hid (Below (w.heap.size + 1) (w.alloc (.cells #[.int .i64 S, .slice a1 n1 c1, .slice (some ⟨b2, o2, none⟩) S c2] 27)) wr')) (fun i _ => S - (intOf i).toNat)
            case atStart => exact ⟨a3, _, 0, rfl, Nat.zero_le _, hM3, hN3, hR3, hB3⟩
            case round =>
              clear hM3 hB3 hN3 hR3
              obtain ⟨a', nb3, t, rfl, ht, hM3, hN3, hR3, hB3⟩ := hrel
              rename_i wi
              have C0 := hid ((hB3.out.block _ (Nat.lt_succ_self _)).trans K1.out)
              have L2 := hid (L1.out.trans (hB3.out.mono (Nat.le_succ _)))
              obtain ⟨⟨q0, q1, q2⟩, _⟩ := blk3 C0.out
              by_cases htt : t < S
              · have hti : (t : Int) < (S : Int) := by omega
                obtain ⟨hcm, hfm⟩ := hM3.out.at (i := k) (by rw [hN3.out.len]; exact hlt)
                obtain ⟨v, hv⟩ : ∃ v, v = nb3.getD k false := ⟨_, rfl⟩
                rw [← hv] at hcm
                have HVk := hid hv
                clear hv
                cases v with
                | false =>
                  have hR4 := hid (hR3.out.leave (fun e => by rw [← HVk.out] at e; cases e))
                  go_wp2_with fail
                  go_roundw
                  case rel => exact ⟨a', nb3, k + 1, by go_num, by omega, hM3, hN3, hR4, hB3⟩
                  case measure => simp [intOf]; omega
                | true =>
                  obtain ⟨hct, hft⟩ := hM3.out.at (i := t) (by rw [hN3.out.len]; exact htt)
                  obtain ⟨v, hv⟩ : ∃ v, v = nb3.getD t false := ⟨_, rfl⟩
                  rw [← hv] at hct
                  have HVt := hid hv
                  clear hv
                  cases v with
                  | true =>
                    obtain ⟨a4, hN4, hR4⟩ := hR3.out.mark hN3.out HVk.out htt (x := true) (by rw [← HVt.out]; rfl)
                    have hM4 := hid (hM3.out.setv t true)
                    have hB4 := hid (hB3.out.setCell (p := ⟨w.heap.size + 1, t, none⟩) (Nat.le_refl _) (.bool true))
                    go_wp2_with fail
                    go_roundw
                    case rel => exact ⟨a4, _, t + 1, by go_num, by omega, hM4, hN4, hR4, hB4⟩
                    case measure => simp [intOf]; omega
                  | false =>
                    obtain ⟨f1, f2, f3, f4, f5⟩ := at_facts E1.out H1.out.cap hlt htt hS
                    obtain ⟨b1, o1, y, rfl, hcy, y1, y2, hy⟩ := (H1.out.below L2.out).at f5
                    obtain ⟨a4, hN4, hR4⟩ := hR3.out.mark hN3.out HVk.out htt (x := (y != 0)) (by rw [← HVt.out, ← hy.out]; rfl)
                    have hM4 := hid (hM3.out.setv t (y != 0))
                    have hB4 := hid (hB3.out.setCell (p := ⟨w.heap.size + 1, t, none⟩) (Nat.le_refl _) (.bool (y != 0)))
                    clear f5 hy
                    go_wp2_with fail
                    go_roundw
                    case rel => exact ⟨a4, _, t + 1, by go_num, by omega, hM4, hN4, hR4, hB4⟩
                    case measure => simp [intOf]; omega
              · obtain rfl : S = t := by omega
                have hR4 := hid (hR3.out.leave (fun _ => Nat.le_refl _))
                go_wp2_with fail
                go_roundw
                case rel => exact ⟨a', nb3, k + 1, by go_num, by omega, hM3, hN3, hR4, hB3⟩
                case measure => simp [intOf]; omega
        · obtain rfl : S = k := by omega
          go_wp2_with fail
          go_roundw
          case rel => exact ⟨nb', r + 1, by go_num, by omega, hM', hN', hid (hRs.out.step hR'.out), hB'⟩
          case measure => simp [intOf]; omega
    · have HF := hid (hRs.out.full hN.out (by omega))
      go_wp2_with fail
      clear q0 q1 q2 C1
      go_loopw [7, 8] (fun v i wr' => ∃ (k n : Nat), i = .int .i64 k ∧ k ≤ S ∧ n ≤ k ∧ Hid (Ow wr' (w.heap.size + 2) v n (ints (pick nb k))) ∧ Hid (Met wr' (w.heap.size + 1) nb) ∧ Hid (Below (w.heap.size + 1) (w.alloc (.cells #[.int .i64 S, .slice a1 n1 c1, .slice a2 S c2] 27)) wr')) (fun _ i _ => S - (intOf i).toNat)
      case atStart =>
        have z := hB.out.size
        have z2 := bk_lt hM.out
        simp only [World.size_alloc] at z
        exact ⟨0, 0, rfl, Nat.zero_le _, Nat.le_refl _, hid (Ow.empty _ _ (by omega)), hid (hM.out.below (below_box _ _)), hid (hB.out.alloc (by omega) _)⟩
      case round =>
        obtain ⟨k, n, rfl, hk, hnk, hO, hM', hB'⟩ := hrel
        rename_i wo
        have C0 := hid ((hB'.out.block _ (Nat.lt_succ_self _)).trans K1.out)
        obtain ⟨⟨q0, q1, q2⟩, _⟩ := blk3 C0.out
        have z2 := bk_lt hM'.out
        by_cases hlt : k < S
        · have hki : (k : Int) < (S : Int) := by omega
          obtain ⟨hcm, hfm⟩ := hM'.out.at (i := k) (by rw [hN.out.len]; exact hlt)
          obtain ⟨v, hv⟩ : ∃ v, v = nb.getD k false := ⟨_, rfl⟩
          rw [← hv] at hcm
          have HV := hid hv
          clear hv
          cases v with
          | true =>
            have hkn : I64 (k : Int) := ⟨by omega, by omega⟩
            go_wp2_with (at_builtin; refine wpList_append_int _ rfl _ _ rfl (w.heap.size + 2) _ n _ rfl (hO.out.alloc _) _ (k : Int) rfl (cell_one _ _ _) hkn (by omega) (by simp; omega) ?_; intro v' w3 hO3 hG3)
            rw [← pickI_yes HV.out] at hO3
            have O3 := hid hO3
            have M3 := hid ((hM'.out.below (below_box _ _)).grown hG3 (fun j hj => by have := hO.out.lt j hj; omega))
            have B3 := hid ((hB'.out.alloc (by omega) _).grown hG3 (by simp; omega) (fun j hj => by have := hO.out.lt j hj; omega))
            clear hO3 hG3
            go_wp2_with fail
            go_roundw
            case rel => exact ⟨k + 1, n + 1, by go_num, by omega, by omega, O3, M3, B3⟩
            case measure => simp [intOf]; omega
          | false =>
            have O3 := hO
            rw [← pickI_no HV.out] at O3
            go_wp2_with fail
            go_roundw
            case rel => exact ⟨k + 1, n, by go_num, by omega, by omega, O3, hM', hB'⟩
            case measure => simp [intOf]; omega
        · obtain rfl : S = k := by omega
          have h := hO.out
          rw [pick_need hN.out HF.out] at h
          have O3 := hid h
          clear h
          have L3 := hid (L1.out.trans (hB'.out.mono (Nat.le_succ _)))
          go_wp2_with fail
          go_ret
          exact NewInts.of O3.out (by omega) L3.out
end Go.Proofs.Ytekojohhjnklkaa
