/- 'needed' of the implementation. -/
import Derived.Test.YtekojohhjnklkaaRedN
import Derived.Test.YtekojohhjnklkaaRow
namespace Go.Proofs.Ytekojohhjnklkaa
open Go.RowKit Red

set_option maxRecDepth 20000 in
set_option maxHeartbeats 4000000 in
theorem impl_needed (S : Nat) (a1 : Option Addr) (n1 c1 : Nat) (A : List Int) (a2 : Option Addr) (c2 : Nat) (B : List Int) (w : World) (h1 : Rd w a1 n1 c1 A) (h2 : Rd w a2 S c2 B) (e1 : n1 = S * S) (hS : S ≤ 8) :
    Calls Try.prog 77 #[.agg #[.int .i64 S, .slice a1 n1 c1, .slice a2 S c2]] w fun e w' => ∃ ao n c, e = .returned (.slice ao n c) ∧ NewInts w w' (ints (needL A B S)) ao n c := by
  have H1 := hid h1
  have H2 := hid h2
  have E1 := hid e1
  clear h1 h2 e1
  have K1 := hid (bk_new w #[.int .i64 S, .slice a1 n1 c1, .slice a2 S c2] 27)
  have L1 := hid (below_box w (.cells #[.int .i64 S, .slice a1 n1 c1, .slice a2 S c2] 27))
  have M1 := hid (Met.new (w.alloc (.cells #[.int .i64 S, .slice a1 n1 c1, .slice a2 S c2] 27)) (List.replicate S false))
  have mk := run_mkb S (S : Int) rfl (by omega)
  go_enter Try.func77, Try.ntmps77
  go_wp2_with fail
  clear mk
  go_loopw [4] (fun ag wr => ∃ (a : Bool) (nb : List Bool), ag = .bool a ∧ Hid (Met wr (w.heap.size + 1) nb) ∧ Hid (Sound A B S nb) ∧ Hid (a = false → Full A B S nb) ∧ Hid (Below (w.heap.size + 1) (w.alloc (.cells #[.int .i64 S, .slice a1 n1 c1, .slice a2 S c2] 27)) wr)) (fun ag wr => (S - cntM wr (w.heap.size + 1)) + boolN ag)
  case atStart =>
    refine ⟨true, List.replicate S false, rfl, hid (by have h := M1.out; simp only [World.size_alloc] at h; exact h), hid Sound.start, hid (fun e => by cases e), hid ((Below.refl _ _).alloc (by simp) _)⟩
  case round =>
    obtain ⟨a, nb, rfl, hM, hN, hF, hB⟩ := hrel
    cases a with
    | true =>
      go_wp2_with fail
      go_loopw [4, 17] (fun ag i wr' => ∃ (a' : Bool) (nb' : List Bool) (k : Nat), ag = .bool a' ∧ i = .int .i64 k ∧ k ≤ S ∧ Hid (Met wr' (w.heap.size + 1) nb') ∧ Hid (Sound A B S nb') ∧ Hid (Rnd A B S nb nb' k a') ∧ Hid (Below (w.heap.size + 1) (w.alloc (.cells #[.int .i64 S, .slice a1 n1 c1, .slice a2 S c2] 27)) wr')) (fun _ i _ => S - (intOf i).toNat)
      case atStart => exact ⟨false, nb, 0, rfl, rfl, Nat.zero_le _, hM, hN, hid (Rnd.start nb), hB⟩
      case round =>
        obtain ⟨a', nb', k, rfl, rfl, hk, hM', hN', hR', hB'⟩ := hrel
        rename_i wo
        have C0 := hid ((hB'.out.block _ (Nat.lt_succ_self _)).trans K1.out)
        have L2 := hid (L1.out.trans (hB'.out.mono (Nat.le_succ _)))
        by_cases hlt : k < S
        · have hki : (k : Int) < (S : Int) := by omega
          obtain ⟨hcm, hfm⟩ := hM'.out.at (i := k) (by rw [hN'.out.len]; exact hlt)
          obtain ⟨v, hv⟩ : ∃ v, v = nb'.getD k false := ⟨_, rfl⟩
          rw [← hv] at hcm
          have HV := hid hv
          clear hv
          cases v with
          | true =>
            go_wp2_with fail
            go_roundw
            case rel => exact ⟨a', nb', k + 1, rfl, by go_num, by omega, hM', hN', hid (hR'.out.skip HV.out), hB'⟩
            case measure => simp [intOf]; omega
          | false =>
            obtain ⟨⟨q0, q1, q2⟩, _⟩ := blk3 C0.out
            obtain ⟨b2, o2, x, rfl, hcx, x1, x2, hx⟩ := (H2.out.below L2.out).at hlt
            go_wp2_with fail
            clear q0 q1 q2 hcx
            go_loopw [6, 32] (fun nw i wr' => ∃ (b : Bool) (t : Nat), nw = .bool b ∧ i = .int .i64 t ∧ t ≤ S ∧ Hid (Now A B S nb' k t b) ∧ Hid (Met wr' (w.heap.size + 1) nb') ∧ Hid (Below (w.heap.size + 1) (w.alloc (.cells #[.int .i64 S, .slice a1 n1 c1, .slice (some ⟨b2, o2, none⟩) S c2] 27)) wr')) (fun _ i _ => S - (intOf i).toNat)
            case atStart => exact ⟨_, 0, rfl, rfl, Nat.zero_le _, hid (Now.start hlt hx.out), hM', hB'⟩
            case round =>
              clear hM' hB' hcm hfm L2 C0
              obtain ⟨b, t, rfl, rfl, ht, hNw, hM', hB'⟩ := hrel
              rename_i wi
              have C0 := hid ((hB'.out.block _ (Nat.lt_succ_self _)).trans K1.out)
              have L2 := hid (L1.out.trans (hB'.out.mono (Nat.le_succ _)))
              by_cases htt : t < S
              · have hti : (t : Int) < (S : Int) := by omega
                cases b with
                | true =>
                  go_wp2_with fail
                  go_roundw
                  case rel => exact ⟨true, t + 1, rfl, by go_num, by omega, hid hNw.out.keep, hM', hB'⟩
                  case measure => simp [intOf]; omega
                | false =>
                  obtain ⟨hcm, hfm⟩ := hM'.out.at (i := t) (by rw [hN'.out.len]; exact htt)
                  obtain ⟨v, hv⟩ : ∃ v, v = nb'.getD t false := ⟨_, rfl⟩
                  rw [← hv] at hcm
                  have HV2 := hid hv
                  clear hv
                  cases v with
                  | false =>
                    go_wp2_with fail
                    go_roundw
                    case rel => exact ⟨false, t + 1, rfl, by go_num, by omega, hid (hNw.out.miss HV2.out), hM', hB'⟩
                    case measure => simp [intOf]; omega
                  | true =>
                    obtain ⟨⟨q0, q1, q2⟩, _⟩ := blk3 C0.out
                    go_wp2_with fail
                    refine (impl_a S t k a1 n1 c1 A _ _ (H1.out.below L2.out) E1.out htt hlt hS).mono ?_
                    rintro e w4 ⟨y, rfl, hy, hy64, hB4⟩
                    have M4 := hid (hM'.out.below hB4)
                    have B4 := hid (hB'.out.trans (hB4.mono (by have := hB'.out.size; simp at this; omega)))
                    clear hB4 hM' hB' q0 q1 q2 hcm hfm
                    go_wp2_with fail
                    go_roundw
                    case rel => exact ⟨_, t + 1, rfl, by go_num, by omega, hid (hNw.out.take hN'.out hlt HV2.out hy.out), M4, B4⟩
                    case measure => simp [intOf]; omega
              · obtain rfl : S = t := by omega
                obtain ⟨hcm, hfm⟩ := hM'.out.at (i := k) (by rw [hN'.out.len]; exact hlt)
                cases b with
                | true =>
                  have hM2 := hid (hM'.out.setv k true)
                  have hN2 := hid (hN'.out.set (hNw.out.yes rfl))
                  have hR2 := hid (hR'.out.hit (by rw [hN'.out.len]; exact hlt) HV.out)
                  have hB2 := hid (hB'.out.setCell (p := ⟨w.heap.size + 1, k, none⟩) (Nat.le_refl _) (.bool true))
                  cases a' <;>
                  · go_wp2_with fail
                    go_roundw
                    case rel => exact ⟨true, _, k + 1, rfl, by go_num, by omega, hM2, hN2, hR2, hB2⟩
                    case measure => simp [intOf]; omega
                | false =>
                  have hM2 := hid (hM'.out.setv k false)
                  rw [set_same HV.out] at hM2
                  have hR2 := hid (hR'.out.quiet hNw.out.quiet)
                  have hB2 := hid (hB'.out.setCell (p := ⟨w.heap.size + 1, k, none⟩) (Nat.le_refl _) (.bool false))
                  cases a' <;>
                  · go_wp2_with fail
                    go_roundw
                    case rel => exact ⟨_, _, k + 1, rfl, by go_num, by omega, hM2, hN', hR2, hB2⟩
                    case measure => simp [intOf]; omega
        · obtain rfl : S = k := by omega
          go_wp2_with fail
          go_roundw
          case rel => exact ⟨a', nb', rfl, hM', hN', hid (fun e => by subst e; exact hR'.out.full), hB'⟩
          case measure =>
            rw [hM.out.cnt, hM'.out.cnt]
            have i1 := count_le hN'.out
            cases a' with
            | true => have := hR'.out.yes rfl; simp only [boolN]; omega
            | false => rw [(hR'.out.no rfl).1]; simp only [boolN]; omega
    | false =>
      have HF := hid (hF.out rfl)
      go_wp2_with fail
      go_loopw [8, 62] (fun v i wr' => ∃ (k n : Nat), i = .int .i64 k ∧ k ≤ S ∧ n ≤ k ∧ Hid (Ow wr' (w.heap.size + 2) v n (ints (pick nb k))) ∧ Hid (Met wr' (w.heap.size + 1) nb) ∧ Hid (Below (w.heap.size + 1) (w.alloc (.cells #[.int .i64 S, .slice a1 n1 c1, .slice a2 S c2] 27)) wr')) (fun _ i _ => S - (intOf i).toNat)
      case atStart =>
        have z := hB.out.size
        have z2 := bk_lt hM.out
        simp only [World.size_alloc] at z
        exact ⟨0, 0, rfl, Nat.zero_le _, Nat.le_refl _, hid (Ow.empty _ _ (by omega)), hid (hM.out.below (below_box _ _)), hid (hB.out.alloc (by omega) _)⟩
      case round =>
        obtain ⟨k, n, rfl, hk, hnk, hO, hM', hB'⟩ := hrel
        rename_i wo
        have z2 := bk_lt hM'.out
        by_cases hlt : k < S
        · have hki : (k : Int) < (S : Int) := by omega
          obtain ⟨hcm, hfm⟩ := hM'.out.at (i := k) (by rw [hN.out.len]; exact hlt)
          obtain ⟨v, hv⟩ : ∃ v, v = nb.getD k false := ⟨_, rfl⟩
          rw [← hv] at hcm
          have HV := hid hv
          clear hv
          cases v with
          | true =>
            have hkn : I64 (k : Int) := ⟨by omega, by omega⟩
            go_wp2_with (at_builtin; refine wpList_append_int _ rfl _ _ rfl (w.heap.size + 2) _ n _ rfl (hO.out.alloc _) _ (k : Int) rfl (cell_one _ _ _) hkn (by omega) (by simp; omega) ?_; intro v' w3 hO3 hG3)
            rw [← pickI_yes HV.out] at hO3
            have O3 := hid hO3
            have M3 := hid ((hM'.out.below (below_box _ _)).grown hG3 (fun j hj => by have := hO.out.lt j hj; omega))
            have B3 := hid ((hB'.out.alloc (by omega) _).grown hG3 (by simp; omega) (fun j hj => by have := hO.out.lt j hj; omega))
            clear hO3 hG3
            go_wp2_with fail
            go_roundw
            case rel => exact ⟨k + 1, n + 1, by go_num, by omega, by omega, O3, M3, B3⟩
            case measure => simp [intOf]; omega
          | false =>
            have O3 := hO
            rw [← pickI_no HV.out] at O3
            go_wp2_with fail
            go_roundw
            case rel => exact ⟨k + 1, n, by go_num, by omega, by omega, O3, hM', hB'⟩
            case measure => simp [intOf]; omega
        · obtain rfl : S = k := by omega
          have h := hO.out
          rw [pick_need hN.out HF.out] at h
          have O3 := hid h
          clear h
          have L3 := hid (L1.out.trans (hB'.out.mono (Nat.le_succ _)))
          go_wp2_with fail
          go_ret
          exact NewInts.of O3.out (by omega) L3.out
end Go.Proofs.Ytekojohhjnklkaa
