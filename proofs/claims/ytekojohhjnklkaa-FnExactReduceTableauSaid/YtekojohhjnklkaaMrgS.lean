/- 'l6Merge' of the reference. -/
import Derived.Test.YtekojohhjnklkaaMrg
import Derived.Test.YtekojohhjnklkaaApMid
import Derived.Test.YtekojohhjnklkaaHold2
import Derived.Test.YtekojohhjnklkaaHoldG
namespace Go.Proofs.Ytekojohhjnklkaa
open Go.RowKit

theorem int_at {l : List Nat} {x : Int} {k : Nat} (h : x = (Red.ints l).getD k 0) : x = ((l.getD k 0 : Nat) : Int) := h.trans (Red.ints_getD l k)
theorem idx_row {cls : List Nat} {cn k : Nat} (h : k < cn) : ((List.range cn).map (Red.idx cls)).getD k 0 = Red.idx cls k := by
  simp [List.getD, h]
set_option maxRecDepth 20000 in
set_option maxHeartbeats 8000000 in
theorem spec_l6Merge (S : Nat) (a1 : Option Addr) (n1 c1 : Nat) (A : List Int) (a2 : Option Addr) (c2 : Nat) (B : List Int) (l : Option Addr) (d : Nat) (cls : List Nat) (w : World) (h1 : Rd w a1 n1 c1 A) (h2 : Rd w a2 S c2 B) (h3 : Rd w l S d (Red.ints cls)) (e1 : n1 = S * S) (hS : S ≤ 8) (hC : Red.Cls S cls) {cn : Nat} (hcn : cn = Red.cnt cls) :
    Calls Try.prog 74 #[.agg #[.int .i64 S, .slice a1 n1 c1, .slice a2 S c2], .slice l S d] w fun e w' => ∃ a1 n1 c1 a2 n2 c2, e = .returned (.agg #[.int .i64 cn, .slice a1 n1 c1, .slice a2 n2 c2]) ∧ NewT w w' (Red.mrgA A S cls cn) (Red.mrgB B S cls cn) a1 n1 c1 a2 n2 c2 := by
  have H1 := hid h1
  have H2 := hid h2
  have H3 := hid h3
  have E1 := hid e1
  have HC := hid hC
  have hcS : cn ≤ S := hcn ▸ hC.cnt_le
  have HCN := hid hcn
  clear h1 h2 h3 e1 hC hcn
  have K1 := hid (bk_alloc (heap_alloc_at w #[.int .i64 S, .slice a1 n1 c1, .slice a2 S c2] 27 w.heap.size rfl) (.cells #[.int .i64 0, .slice none 0 0, .slice none 0 0] 27))
  have R1 := hid (heap_alloc_at (w.alloc (.cells #[.int .i64 S, .slice a1 n1 c1, .slice a2 S c2] 27)) #[.int .i64 0, .slice none 0 0, .slice none 0 0] 27 (w.heap.size + 1) (by simp))
  have L1 := hid (l_alloc (below_box w (.cells #[.int .i64 S, .slice a1 n1 c1, .slice a2 S c2] 27)) (.cells #[.int .i64 0, .slice none 0 0, .slice none 0 0] 27))
  have O1 := hid (Ow.empty ((w.alloc (.cells #[.int .i64 S, .slice a1 n1 c1, .slice a2 S c2] 27)).alloc (.cells #[.int .i64 0, .slice none 0 0, .slice none 0 0] 27)) (w.heap.size + 1 + 1) (by simp))
  go_enter Try.func74, Try.ntmps74
  go_wp2_with fail
  go_loopw [5, 6] (fun v i wr => ∃ k : Nat, i = .int .i64 k ∧ k ≤ S ∧ Hid (Ow wr (w.heap.size + 1 + 1) v (Red.cTo cls k) (Red.ints (Red.firsts cls k))) ∧ Hid (Below (w.heap.size + 1 + 1) ((w.alloc (.cells #[.int .i64 S, .slice a1 n1 c1, .slice a2 S c2] 27)).alloc (.cells #[.int .i64 0, .slice none 0 0, .slice none 0 0] 27)) wr)) (fun _ i _ => S - (intOf i).toNat)
  case atStart => exact ⟨0, rfl, Nat.zero_le _, hid (by have h := O1.out; simp only [World.size_alloc] at h; exact h), hid ((Below.refl _ _).alloc (by simp) _)⟩
  case round =>
    obtain ⟨k, rfl, hk, hO, hB⟩ := hrel
    obtain ⟨W1, rfl⟩ : ∃ W1 : World, W1 = wr := ⟨_, rfl⟩
    have z1 : w.heap.size + 1 + 1 ≤ W1.heap.size := by have := hB.out.size; simpa using this
    have LL := hid (L1.out.trans (hB.out.mono (by omega)))
    by_cases hlt : k < S
    · have hki : (k : Int) < (S : Int) := by omega
      obtain ⟨b, o, x, rfl, hcx, x1, x2, hx⟩ := (H3.out.below LL.out).at hlt
      have hx3 := int_at hx.out
      have hct := Red.cTo_le cls k
      obtain ⟨fa, fc, e5, _⟩ := hO.out.fr
      subst e5
      by_cases e : cls.getD k 0 = Red.cTo cls k
      · have hf := Red.first_new HC.out hlt e
        rw [e] at hx3
        generalize hct0 : Red.cTo cls k = ct at hO hct hx3 hf
        have HFN := hid hf
        subst hx3
        clear hf e hx hct0
        have hki2 : I64 (k : Int) := ⟨by omega, by omega⟩
        go_wp2_with (at_builtin; refine wpList_append_int _ rfl _ _ rfl (w.heap.size + 1 + 1) _ ct _ rfl (hO.out.alloc _) _ (k : Int) rfl (cell_one _ _ _) hki2 (by omega) (by simp; omega) ?_; intro v' w3 hO3 hG3)
        rw [← Red.ints_snoc, ← HFN.out.1, ← HFN.out.2] at hO3
        have O3 := hid hO3
        have B3 := hid ((hB.out.alloc z1 _).grown hG3 (by simp; omega) (fun j hj => (hO.out.lt j hj).1))
        clear hO3 hG3
        go_wp2_with fail
        go_roundw
        case rel => exact ⟨k + 1, by go_num, by omega, O3, B3⟩
        case measure => simp [intOf]; omega
      · have hf := Red.first_old HC.out hlt e
        have O3 := hid (show Ow W1 (w.heap.size + 1 + 1) (.slice fa (Red.cTo cls k) fc) (Red.cTo cls (k + 1)) (Red.ints (Red.firsts cls (k + 1))) by rw [hf.1, hf.2]; exact hO.out)
        have hq : (x == ((Red.cTo cls k : Nat) : Int)) = false := by rw [beq_eq_false_iff_ne, hx3]; omega
        clear hf e hx hx3
        go_wp2_with fail
        go_roundw
        case rel => exact ⟨k + 1, by go_num, by omega, O3, hB⟩
        case measure => simp [intOf]; omega
    · obtain rfl : S = k := by omega
      have hfe := Red.firsts_end HC.out
      rw [← HCN.out] at hfe
      have hO2 := hO.out
      rw [hfe.1, hfe.2] at hO2
      obtain ⟨fa, fc, e5, hFr⟩ := hO2.fr
      subst e5
      have FR := hid hFr.rd
      have A0 := hid (Ap.start W1 (.int .i64 cn))
      have K2 := hid ((hB.out.block _ (show w.heap.size < w.heap.size + 1 + 1 by omega)).trans K1.out)
      have R2 := hid ((hB.out.block _ (show w.heap.size + 1 < w.heap.size + 1 + 1 by omega)).trans R1.out)
      have y2 : w.heap.size + 1 < W1.heap.size := by omega
      clear hO2 hFr hO hfe hB K1 R1 L1 O1
      go_wp2_with fail
      go_loopw [8] (fun i wr => ∃ (k : Nat) (vA vB : Value), i = .int .i64 k ∧ k ≤ cn ∧ Hid (Ap W1.heap.size W1 wr (.int .i64 cn) vA vB (k * cn) k (firstN (Red.mrgE A S cls cn) (k * cn)) (firstN (fun q => Red.over B cls q S) k))) (fun i _ => cn - (intOf i).toNat)
      case atStart => exact ⟨0, _, _, rfl, Nat.zero_le _, hid (by rw [Nat.zero_mul]; exact A0.out)⟩
      case round =>
        clear A0
        obtain ⟨k, vA, vB, rfl, hk, hM⟩ := hrel
        by_cases hlt : k < cn
        · have hki : (k : Int) < (cn : Int) := by omega
          go_wp2_with fail
          go_loopw [9] (fun i wr => ∃ (j : Nat) (vA : Value), i = .int .i64 j ∧ j ≤ cn ∧ Hid (Ap W1.heap.size W1 wr (.int .i64 cn) vA vB (k * cn + j) k (firstN (Red.mrgE A S cls cn) (k * cn + j)) (firstN (fun q => Red.over B cls q S) k))) (fun i _ => cn - (intOf i).toNat)
          case atStart => exact ⟨0, _, rfl, Nat.zero_le _, hM⟩
          case round =>
            clear hM
            obtain ⟨j, vA, rfl, hj, hM⟩ := hrel
            obtain ⟨wo, rfl⟩ : ∃ wo : World, wo = wr := ⟨_, rfl⟩
            have hzz := hM.out.size
            have LM := hid (LL.out.trans (hM.out.l.mono (by omega)))
            have HFc := hid (H3.out.below LM.out)
            obtain ⟨⟨q0, q1, q2⟩, _⟩ := blk3 (hM.out.old (by omega) K2.out)
            obtain ⟨⟨r0, r1, r2⟩, g0, g1, g2⟩ := blk3 hM.out.out
            by_cases hjt : j < cn
            · have hji : (j : Int) < (cn : Int) := by omega
              obtain ⟨fb, fo, x, ef, hcf, _, _, hx⟩ := (FR.out.below (hM.out.l.mono (Nat.le_refl _))).at hlt
              cases ef
              have hx3 := int_at hx.out
              rw [idx_row hlt] at hx3
              obtain ⟨f, hf⟩ : ∃ f, f = Red.idx cls k := ⟨_, rfl⟩
              have hfS : f < S := by rw [hf]; exact Red.idx_lt HC.out (by rw [← HCN.out]; exact hlt)
              rw [← hf] at hx3
              subst hx3
              have HF := hid hf
              clear hf hx
              obtain ⟨rb, ro, _, erfl, _, _, _, _⟩ := H1.out.at (k := 0) (by rw [E1.out]; exact Nat.mul_pos (by omega) (by omega))
              cases erfl
              obtain ⟨z, hz⟩ : ∃ z, z = Red.over (rowL A S f) cls j S := ⟨_, rfl⟩
              have hz64 : I64 z := by rw [hz]; exact I64.num (Red.over_num _ _ _ _)
              have HZ := hid hz
              clear hz
              have hs : ∀ w', Below (W1.heap.size + 1) wo w' → w'.cell? ⟨W1.heap.size, 1, none⟩ = some vA ∧ w'.frozen? ⟨W1.heap.size, 1, none⟩ = false ∧ w'.cell? ⟨w.heap.size, 0, none⟩ = some (.int .i64 S) ∧ w'.cell? ⟨w.heap.size, 1, none⟩ = some (.slice (some ⟨rb, ro, none⟩) n1 c1) ∧ w'.cell? ⟨w.heap.size, 2, none⟩ = some (.slice a2 S c2) ∧ w'.cell? ⟨fb, fo + k, none⟩ = some (.int .i64 f) := fun w' hB =>
                ⟨(hB.cell (p := ⟨W1.heap.size, 1, none⟩) (by simp)).trans r1, (hB.frozen (p := ⟨W1.heap.size, 1, none⟩) (by simp)).trans g1, (hB.cell (p := ⟨w.heap.size, 0, none⟩) (by simp; omega)).trans q0, (hB.cell (p := ⟨w.heap.size, 1, none⟩) (by simp; omega)).trans q1, (hB.cell (p := ⟨w.heap.size, 2, none⟩) (by simp; omega)).trans q2,
                  (hB.cell (p := ⟨fb, fo + k, none⟩) (by
                    have h0 : W1.cell? ⟨fb, fo + k, none⟩ = some (.int .i64 f) := by
                      obtain ⟨b', o', e', hc'⟩ := FR.out.cell k hlt
                      cases e'
                      have := (hM.out.l.cell (p := ⟨fb, fo + k, none⟩) (World.block_lt_of_cell? W1 _ hc'))
                      rw [← this]; exact hcf
                    have := World.block_lt_of_cell? W1 _ h0
                    simp only at this ⊢
                    omega)).trans hcf⟩
              have HKS := hid hs
              have hbd := Red.mul_step hlt
              have hcc : cn * cn ≤ 64 := Nat.mul_le_mul (show cn ≤ 8 by omega) (show cn ≤ 8 by omega)
              clear hs
              go_wp2_with fail
              clear q0 q1 q2 r0 r1 r2 g0 g1 g2 hcf
              refine (fun (HG : Rg _ _ 14) => wp_region_hh (S := fun w' => w'.cell? ⟨W1.heap.size, 1, none⟩ = some vA ∧ w'.frozen? ⟨W1.heap.size, 1, none⟩ = false ∧ w'.cell? ⟨w.heap.size, 0, none⟩ = some (.int .i64 S) ∧ w'.cell? ⟨w.heap.size, 1, none⟩ = some (.slice (some ⟨rb, ro, none⟩) n1 c1) ∧ w'.cell? ⟨w.heap.size, 2, none⟩ = some (.slice a2 S c2) ∧ w'.cell? ⟨fb, fo + k, none⟩ = some (.int .i64 f)) HG rfl ?_) ⟨by kernel_rfl, by decide, by kernel_rfl, by kernel_rfl, fun _ _ d _ _ h => by cases d <;> exact h⟩
              have hS0 := hid (HKS.out _ ((Below.refl _ _).drew))
              (refine hh_take 0 HG rfl (by decide) (by kernel_rfl) (by kernel_rfl) hS0.out (fun K hK => ?_); refine take_val ?_ (by rfl) ?_ ?_; rotate_left 1; (focus (intro wc hC; skip; go_simp; try rfl)); go_simp; refine hK.out _ ?_; clear hK K)
              (refine hh_take 1 HG rfl (by decide) (by kernel_rfl) (by kernel_rfl) hS0.out (fun K hK => ?_); refine take_val ?_ (by rfl) ?_ ?_; rotate_left 1; (focus (intro wc hC; obtain ⟨s0, s1, s2, s3, s4, s5⟩ := hC; go_simp; try rfl)); go_simp; refine hK.out _ ?_; clear hK K)
              (refine hh_take 2 HG rfl (by decide) (by kernel_rfl) (by kernel_rfl) hS0.out (fun K hK => ?_); refine take_val ?_ (by rfl) ?_ ?_; rotate_left 1; (focus (intro wc hC; obtain ⟨s0, s1, s2, s3, s4, s5⟩ := hC; go_simp; try rfl)); go_simp; refine hK.out _ ?_; clear hK K)
              (refine hh_take 3 HG rfl (by decide) (by kernel_rfl) (by kernel_rfl) hS0.out (fun K hK => ?_); refine take_val ?_ (by rfl) ?_ ?_; rotate_left 1; (focus (intro wc hC; skip; go_simp; try rfl)); go_simp; refine hK.out _ ?_; clear hK K)
              (refine hh_take 4 HG rfl (by decide) (by kernel_rfl) (by kernel_rfl) hS0.out (fun K hK => ?_); refine take_val ?_ (by rfl) ?_ ?_; rotate_left 1; (focus (intro wc hC; skip; go_simp; try rfl)); go_simp; refine hK.out _ ?_; clear hK K)
              (refine hh_take 5 HG rfl (by decide) (by kernel_rfl) (by kernel_rfl) hS0.out (fun K hK => ?_); refine take_val ?_ (by rfl) ?_ ?_; rotate_left 1; (focus (intro wc hC; skip; go_simp; try rfl)); go_simp; refine hK.out _ ?_; clear hK K)
              (refine hh_take 6 HG rfl (by decide) (by kernel_rfl) (by kernel_rfl) hS0.out (fun K hK => ?_); refine take_val ?_ (by rfl) ?_ ?_; rotate_left 1; (focus (intro wc hC; obtain ⟨s0, s1, s2, s3, s4, s5⟩ := hC; go_simp; try rfl)); go_simp; refine hK.out _ ?_; clear hK K)
              (refine hh_take 8 HG rfl (by decide) (by kernel_rfl) (by kernel_rfl) hS0.out (fun K hK => ?_); refine take_val ?_ (by rfl) ?_ ?_; rotate_left 1; (focus (intro wc hC; skip; go_simp; try rfl)); go_simp; refine hK.out _ ?_; clear hK K)
              (refine hh_take 9 HG rfl (by decide) (by kernel_rfl) (by kernel_rfl) hS0.out (fun K hK => ?_); refine take_val ?_ (by rfl) ?_ ?_; rotate_left 1; (focus (intro wc hC; skip; go_simp; try rfl)); go_simp; refine hK.out _ ?_; clear hK K)
              (refine hh_mid 7 rfl (by decide) (by kernel_rfl) (fun K hK => ?_); refine mid_call ?_ ?_ (by rfl) ?_ ?_; rotate_left 2; (focus (go_simp; first | done | rfl | (refine And.intro ?_ ?_ <;> rfl))))
              refine (spec_row S f rb ro n1 c1 _ _ E1.out H1.out.cap H1.out.max hfS hS).mono ?_
              rintro e w5 ⟨rfl, hB5⟩
              refine ⟨_, rfl, ?_⟩
              have B5 := hid ((Below.refl wo.heap.size wo).drew.trans (hB5.mono (Nat.le_refl _)))
              clear hB5
              have M5 := hid (hM.out.below B5.out)
              have hS5 := hid (HKS.out w5 (B5.out.mono (by omega)))
              (go_simp; refine hK.out _ _ ?_ ?_ <;> clear hK K)
              · exact hS5.out
              (refine hh_mid 10 rfl (by decide) (by kernel_rfl) (fun K hK => ?_); refine mid_call ?_ ?_ (by rfl) ?_ ?_; rotate_left 2; (focus (go_simp; first | done | rfl | (refine And.intro ?_ ?_ <;> rfl))))
              refine (spec_l6Over _ S _ (rowL A S f) _ d cls j _ ((H1.out.below (LM.out.trans (B5.out.mono (by omega)))).row E1.out hfS) (HFc.out.below B5.out) hS (by omega)).mono ?_
              rw [← HZ.out]
              rintro e w6 ⟨rfl, rfl⟩
              refine ⟨_, rfl, ?_⟩
              (go_simp; refine hK.out _ _ ?_ ?_ <;> clear hK K)
              · exact hS5.out
              have z5 := M5.out.size
              have hS6 := hid (HKS.out _ ((B5.out.mono (show W1.heap.size + 1 ≤ wo.heap.size by omega)).alloc (by omega) (.cells #[.int .i64 z] 3)))
              (refine hh_mid 11 rfl (by decide) (by kernel_rfl) (fun K hK => ?_); refine mid_val ?_ ?_ (by rfl) ?_ ?_; rotate_left 2; (focus (go_simp; first | done | rfl | (refine And.intro ?_ ?_ <;> rfl))); go_simp; refine hK.out _ _ ?_ ?_ <;> clear hK K)
              · exact hS6.out
              refine hh_mid 12 rfl (by decide) (by kernel_rfl) (fun K hK => ?_)
              refine step_append_ints (by rfl) _ _ (by rfl) (W1.heap.size + 1) vA _ _ (by rfl) (M5.out.a.alloc _) _ 1 1 [z] (by rfl) (rd_one w5 _ _ hz64) (by omega) (by simp; omega) ?_
              intro ao' c' w7 hO hG hW
              have hbl := ((B5.out.mono (show W1.heap.size + 1 ≤ wo.heap.size by omega)).alloc (by omega) (.cells #[.int .i64 z] 3)).grown hG (by simp; omega) (fun q hq => (M5.out.a.lt q hq).1)
              have hS7 := hid (HKS.out w7 hbl)
              have hNN := hid ((M5.out.below (below_box _ _)).pushA hO hG hW)
              clear hbl hO hG hW
              (go_simp; refine hK.out _ _ ?_ ?_ <;> clear hK K)
              · exact hS7.out
              (refine hh_take 13 HG rfl (by decide) (by kernel_rfl) (by kernel_rfl) hS7.out (fun K hK => ?_); refine take_val ?_ (by rfl) ?_ ?_; rotate_left 1; (focus (intro wc hC; skip; go_simp; try rfl)); go_simp; refine hK.out _ ?_; clear hK K)
              refine hh_done (by kernel_rfl) ?_
              simp only [List.drop_succ_cons, List.drop_zero]
              change wpList _ _ _ _ _ _
              obtain ⟨s0, s1, s2, s3, s4, s5⟩ := hS7.out
              go_wp2_with fail
              go_roundw
              case rel =>
                have h := hNN.out
                rw [HZ.out, show Red.over (rowL A S f) cls j S = Red.mrgE A S cls cn (k * cn + j) from (Red.mrgE_at hjt HF.out).symm, ← firstN_succ] at h
                exact ⟨j + 1, _, by go_num, by omega, hid h⟩
              case measure => simp [intOf]; omega
            · obtain rfl : cn = j := by omega
              obtain ⟨z, hz⟩ : ∃ z, z = Red.over B cls k S := ⟨_, rfl⟩
              have hz64 : I64 z := by rw [hz]; exact I64.num (Red.over_num _ _ _ _)
              have HZ := hid hz
              clear hz
              have hs : ∀ w', Below (W1.heap.size + 1) wo w' → w'.cell? ⟨W1.heap.size, 2, none⟩ = some vB ∧ w'.frozen? ⟨W1.heap.size, 2, none⟩ = false ∧ w'.cell? ⟨w.heap.size, 2, none⟩ = some (.slice a2 S c2) := fun w' hB =>
                ⟨(hB.cell (p := ⟨W1.heap.size, 2, none⟩) (by simp)).trans r2, (hB.frozen (p := ⟨W1.heap.size, 2, none⟩) (by simp)).trans g2, (hB.cell (p := ⟨w.heap.size, 2, none⟩) (by simp; omega)).trans q2⟩
              have HKS := hid hs
              clear hs
              go_wp2_with fail
              clear q0 q1 q2 r0 r1 r2 g0 g1 g2
              refine (fun (HG : Rg _ _ 10) => wp_region_hh (S := fun w' => w'.cell? ⟨W1.heap.size, 2, none⟩ = some vB ∧ w'.frozen? ⟨W1.heap.size, 2, none⟩ = false ∧ w'.cell? ⟨w.heap.size, 2, none⟩ = some (.slice a2 S c2)) HG rfl ?_) ⟨by kernel_rfl, by decide, by kernel_rfl, by kernel_rfl, fun _ _ d _ _ h => by cases d <;> exact h⟩
              have hS0 := hid (HKS.out _ ((Below.refl _ _).drew))
              (refine hh_take 0 HG rfl (by decide) (by kernel_rfl) (by kernel_rfl) hS0.out (fun K hK => ?_); refine take_val ?_ (by rfl) ?_ ?_; rotate_left 1; (focus (intro wc hC; skip; go_simp; try rfl)); go_simp; refine hK.out _ ?_; clear hK K)
              (refine hh_take 1 HG rfl (by decide) (by kernel_rfl) (by kernel_rfl) hS0.out (fun K hK => ?_); refine take_val ?_ (by rfl) ?_ ?_; rotate_left 1; (focus (intro wc hC; obtain ⟨s0, s1, s2⟩ := hC; go_simp; try rfl)); go_simp; refine hK.out _ ?_; clear hK K)
              (refine hh_take 2 HG rfl (by decide) (by kernel_rfl) (by kernel_rfl) hS0.out (fun K hK => ?_); refine take_val ?_ (by rfl) ?_ ?_; rotate_left 1; (focus (intro wc hC; skip; go_simp; try rfl)); go_simp; refine hK.out _ ?_; clear hK K)
              (refine hh_take 3 HG rfl (by decide) (by kernel_rfl) (by kernel_rfl) hS0.out (fun K hK => ?_); refine take_val ?_ (by rfl) ?_ ?_; rotate_left 1; (focus (intro wc hC; obtain ⟨s0, s1, s2⟩ := hC; go_simp; try rfl)); go_simp; refine hK.out _ ?_; clear hK K)
              (refine hh_take 4 HG rfl (by decide) (by kernel_rfl) (by kernel_rfl) hS0.out (fun K hK => ?_); refine take_val ?_ (by rfl) ?_ ?_; rotate_left 1; (focus (intro wc hC; skip; go_simp; try rfl)); go_simp; refine hK.out _ ?_; clear hK K)
              (refine hh_take 5 HG rfl (by decide) (by kernel_rfl) (by kernel_rfl) hS0.out (fun K hK => ?_); refine take_val ?_ (by rfl) ?_ ?_; rotate_left 1; (focus (intro wc hC; skip; go_simp; try rfl)); go_simp; refine hK.out _ ?_; clear hK K)
              (refine hh_mid 6 rfl (by decide) (by kernel_rfl) (fun K hK => ?_); refine mid_call ?_ ?_ (by rfl) ?_ ?_; rotate_left 2; (focus (go_simp; first | done | rfl | (refine And.intro ?_ ?_ <;> rfl))))
              refine (spec_l6Over _ S c2 B _ d cls k _ ((H2.out.below LM.out).drew) (HFc.out.drew) hS (by omega)).mono ?_
              rw [← HZ.out]
              rintro e w6 ⟨rfl, rfl⟩
              refine ⟨_, rfl, ?_⟩
              (go_simp; refine hK.out _ _ ?_ ?_ <;> clear hK K)
              · exact hS0.out
              have hS6 := hid (HKS.out _ ((Below.refl (W1.heap.size + 1) wo).drew.alloc (by simp; omega) (.cells #[.int .i64 z] 3)))
              (refine hh_mid 7 rfl (by decide) (by kernel_rfl) (fun K hK => ?_); refine mid_val ?_ ?_ (by rfl) ?_ ?_; rotate_left 2; (focus (go_simp; first | done | rfl | (refine And.intro ?_ ?_ <;> rfl))); go_simp; refine hK.out _ _ ?_ ?_ <;> clear hK K)
              · exact hS6.out
              refine hh_mid 8 rfl (by decide) (by kernel_rfl) (fun K hK => ?_)
              refine step_append_ints (by rfl) _ _ (by rfl) (W1.heap.size + 1) vB _ _ (by rfl) (hM.out.drew.b.alloc _) _ 1 1 [z] (by rfl) (rd_one wo.drew _ _ hz64) (by omega) (by simp; omega) ?_
              intro ao' c' w7 hO hG hW
              have hbl := ((Below.refl (W1.heap.size + 1) wo).drew.alloc (by simp; omega) (.cells #[.int .i64 z] 3)).grown hG (by simp; omega) (fun q hq => (hM.out.b.lt q hq).1)
              have hS7 := hid (HKS.out w7 hbl)
              have hNN := hid ((hM.out.drew.below (below_box _ _)).pushB hO hG hW)
              clear hbl hO hG hW
              (go_simp; refine hK.out _ _ ?_ ?_ <;> clear hK K)
              · exact hS7.out
              (refine hh_take 9 HG rfl (by decide) (by kernel_rfl) (by kernel_rfl) hS7.out (fun K hK => ?_); refine take_val ?_ (by rfl) ?_ ?_; rotate_left 1; (focus (intro wc hC; skip; go_simp; try rfl)); go_simp; refine hK.out _ ?_; clear hK K)
              refine hh_done (by kernel_rfl) ?_
              simp only [List.drop_succ_cons, List.drop_zero]
              change wpList _ _ _ _ _ _
              obtain ⟨s0, s1, s2⟩ := hS7.out
              go_wp2_with fail
              go_roundw
              case rel =>
                have h := hNN.out
                rw [HZ.out, show firstN (fun q => Red.over B cls q S) k ++ [Red.over B cls k S] = firstN (fun q => Red.over B cls q S) (k + 1) from (firstN_succ _ _).symm, show k * cn + cn = (k + 1) * cn by rw [Nat.add_mul, Nat.one_mul]] at h
                exact ⟨k + 1, _, _, by go_num, by omega, hid h⟩
              case measure => simp [intOf]; omega
        · obtain rfl : cn = k := by omega
          obtain ⟨wo, rfl⟩ : ∃ wo : World, wo = wr := ⟨_, rfl⟩
          obtain ⟨⟨t0, t1, t2⟩, f0, f1, f2⟩ := blk3 (hM.out.old (by omega) R2.out)
          have HM1 := hid hM.out
          obtain ⟨_, _, rfl, _⟩ := hM.out.a.fr
          obtain ⟨_, _, rfl, _⟩ := hM.out.b.fr
          obtain ⟨⟨r0, r1, r2⟩, _⟩ := blk3 hM.out.out
          clear hM
          go_wp2_with fail
          obtain ⟨_, _, _, _, ea, eb, e1, e2⟩ := HM1.out.finish (Nat.le_succ _) (by omega) LL.out R2.out
          cases ea
          cases eb
          exact ret_tab rfl rfl e1 rfl ⟨_, _, _, _, _, _, rfl, e2⟩
end Go.Proofs.Ytekojohhjnklkaa
