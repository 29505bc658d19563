/- CollocationTableau of the implementation. -/
import Derived.Test.YthebegfceaehfaaColL
import Derived.Test.YthebegfceaehfaaHold2
import Derived.Laws.EntriesVeiled
namespace Go.Proofs.Ythebegfceaehfaa
open Go.RowKit

/-- A copy into B's block. -/
theorem Cw.copiedB {lo : Nat} {W1 wr w' : World} {S : Value} {ob bA bB nA nB : Nat} {XA XB XB' : List Int} (h : Cw lo W1 wr S ob bA bB nA nB XA XB) (hg : wr.grownBy w' (some bB)) (hb : Bi w' bB XB') (hl : lo ≤ wr.heap.size) (hlB : lo ≤ bB) (h1 : ob ≠ bB) (h2 : bA ≠ bB) : Cw lo W1 w' S ob bA bB nA nB XA XB' :=
  ⟨h.l.grown hg hl (fun k hk => by simp only [Option.some.injEq] at hk; omega), bk_grown h.out hg (fun k hk => by simp only [Option.some.injEq] at hk; omega), bk_grown h.a hg (fun k hk => by simp only [Option.some.injEq] at hk; omega), hb⟩
set_option maxHeartbeats 1000000 in
theorem impl_CollocationTableau_no (ao : Option Addr) (n c : Nat) (C : List Int) (w : World) (hr : Rd w ao n c C) (hno : colOk C = false) :
    Calls Try.prog 24 #[.slice ao n c] w fun e w' => ∃ a1 n1 c1 a2 n2 c2, e = .returned (.tuple #[.agg #[.int .i64 0, .slice a1 n1 c1, .slice a2 n2 c2], .bool false]) ∧ NewT w w' [] [] a1 n1 c1 a2 n2 c2 := by
  have hn : n ≤ 9223372036854775807 := Nat.le_trans hr.cap hr.max
  have HR := hid hr
  have hlen := hr.len
  have hr0 := bk_new w #[.int .i64 0, .slice none 0 0, .slice none 0 0] 27
  have HRS := hid hr0
  obtain ⟨⟨r0, r1, r2⟩, f0, f1, f2⟩ := blk3 hr0
  clear hr hr0
  by_cases c0 : n = 0
  · have q0 : ((n : Int) == 0) = true := by rw [beq_iff_eq]; omega
    clear hno hlen
    have C0 := hid c0
    clear c0
    go_enter Try.func24, Try.ntmps24
    go_wp2_with fail
    exact ret_tabb rfl rfl rfl HRS.out rfl ⟨_, _, _, _, _, _, rfl, NewT.none (below_box _ _)⟩
  · have q0 : ((n : Int) == 0) = false := by rw [beq_eq_false_iff_ne]; omega
    by_cases c8 : n ≤ 8
    · have q8 : (n : Int) ≤ 8 := by omega
      cases hA : M.allNum C with
      | false =>
        have HA := hid hA
        clear hno hlen hA
        go_enter Try.func24, Try.ntmps24
        go_wp2_with fail
        refine (impl_allNumbers _ _ _ C _ (HR.out.alloc _)).mono ?_
        rw [HA.out]
        rintro e w1 ⟨rfl, rfl⟩
        go_wp2_with fail
        exact ret_tabb rfl rfl rfl HRS.out rfl ⟨_, _, _, _, _, _, rfl, NewT.none (below_box _ _)⟩
      | true =>
        have HA := hid hA
        have HD : Hid (ndB C = false) := hid (by
          cases hd : ndB C with
          | false => rfl
          | true =>
            unfold colOk at hno
            rw [hA, hd, hlen] at hno
            simp at hno
            omega)
        clear hno hlen hA
        go_enter Try.func24, Try.ntmps24
        go_wp2_with fail
        refine (impl_allNumbers _ _ _ C _ (HR.out.alloc _)).mono ?_
        rw [HA.out]
        rintro e w1 ⟨rfl, rfl⟩
        go_wp2_with fail
        refine (impl_allDifferent _ _ _ C _ (HR.out.alloc _)).mono ?_
        rw [HD.out]
        rintro e w1 ⟨rfl, rfl⟩
        go_wp2_with fail
        exact ret_tabb rfl rfl rfl HRS.out rfl ⟨_, _, _, _, _, _, rfl, NewT.none (below_box _ _)⟩
    · have q8 : ¬ (n : Int) ≤ 8 := by omega
      clear hno hlen
      go_enter Try.func24, Try.ntmps24
      go_wp2_with fail
      exact ret_tabb rfl rfl rfl HRS.out rfl ⟨_, _, _, _, _, _, rfl, NewT.none (below_box _ _)⟩
set_option maxRecDepth 20000 in
set_option maxHeartbeats 4000000 in
theorem impl_CollocationTableau_yes (ao : Option Addr) (n c : Nat) (C : List Int) (w : World) (hr : Rd w ao n c C) (hok : colOk C = true) :
    Calls Try.prog 24 #[.slice ao n c] w fun e w' => ∃ a1 n1 c1 a2 n2 c2, e = .returned (.tuple #[.agg #[.int .i64 n, .slice a1 n1 c1, .slice a2 n2 c2], .bool true]) ∧ NewT w w' (colFlat C n n) (wtL C n 1) a1 n1 c1 a2 n2 c2 := by
  have HD := hid (colOk_dif hr.len hok)
  obtain ⟨h1, h8, hA, hN⟩ := colOk_parts hok
  rw [hr.len] at h1 h8
  have HA := hid hA
  have HN := hid hN
  have HR := hid hr
  obtain ⟨nn, hnn⟩ : ∃ nn, nn = n * n := ⟨_, rfl⟩
  have e64 : nn ≤ 64 := by rw [hnn]; exact Nat.mul_le_mul h8 h8
  have ENN := hid hnn
  have hmf : ∀ (fn : Fn) (first cap : Array Value) (w : World), (Instr.makeFunc fn first cap).run Try.prog w = .ok (.func fn first cap) w := fun _ _ _ _ => rfl
  have q0 : ((n : Int) == 0) = false := by rw [beq_eq_false_iff_ne]; omega
  have q8 : (n : Int) ≤ 8 := by omega
  have RS0 := hid (bk_new w #[.int .i64 0, .slice none 0 0, .slice none 0 0] 27)
  have B0 := hid (below_box w (.cells #[.int .i64 0, .slice none 0 0, .slice none 0 0] 27))
  clear hr hok hA hN hnn
  go_enter Try.func24, Try.ntmps24
  go_wp2_with fail
  refine (impl_allNumbers _ _ _ C _ (HR.out.below B0.out)).mono ?_
  rw [HA.out]
  rintro e w1 ⟨rfl, rfl⟩
  go_wp2_with fail
  refine (impl_allDifferent _ _ _ C _ (HR.out.below B0.out)).mono ?_
  rw [HN.out]
  rintro e w1 ⟨rfl, rfl⟩
  go_wp2_with fail
  refine (impl_emptyW n nn _ h8 ENN.out).mono ?_
  obtain ⟨W1, hW1⟩ : ∃ W1, W1 = w.alloc (.cells #[.int .i64 0, .slice none 0 0, .slice none 0 0] 27) := ⟨_, rfl⟩
  have hWs : W1.heap.size = w.heap.size + 1 := by rw [hW1]; simp
  rw [← hW1] at RS0 B0 ⊢
  clear hW1
  rintro e w3 ⟨bA, bB, rfl, hbA, hbB, hne, hB3, hlA, hlB⟩
  rw [hWs] at hB3 hlA hlB
  have z3 := hB3.size
  rw [hWs] at z3
  have zA := (Array.getElem?_eq_some_iff.1 hbA).1
  have zB := (Array.getElem?_eq_some_iff.1 hbB).1
  have M0 := hid (show Cw (w.heap.size + 1) W1 (w3.alloc (.cells #[.int .i64 n, .slice (some ⟨bA, 0, none⟩) nn nn, .slice (some ⟨bB, 0, none⟩) n n] 27)) (.int .i64 n) w3.heap.size bA bB nn n (zerosL nn) (zerosL n) from
    ⟨hB3.alloc (by omega) _, bk_new _ _ _, bk_alloc hbA _, bk_alloc hbB _⟩)
  have WS := hid hWs
  clear hbA hbB hB3 hWs
  go_wp2_with fail
  go_loopw [5, 6, 31] (fun _ _ i wr => ∃ k : Nat, i = .int .i64 k ∧ k ≤ n ∧ w3.heap.size < wr.heap.size ∧ Hid (Cw (w.heap.size + 1) W1 wr (.int .i64 n) w3.heap.size bA bB nn n (colFlat C n k ++ zerosL (nn - k * n)) (zerosL n))) (fun _ _ i _ => n - (intOf i).toNat)
  case atStart => exact ⟨0, rfl, Nat.zero_le _, by simp, hid (by simpa [colFlat] using M0.out)⟩
  case round =>
    clear M0
    obtain ⟨k, rfl, hk, hz, hM⟩ := hrel
    obtain ⟨wo, rfl⟩ : ∃ wo : World, wo = wr := ⟨_, rfl⟩
    have BW := hid (show Below w.heap.size w wo from B0.out.trans (hM.out.l.mono (by omega)))
    by_cases hlt : k < n
    · have hki : (k : Int) < (n : Int) := by omega
      obtain ⟨b, o, x, rfl, hc, x1, x2, hx⟩ := (HR.out.below BW.out).at hlt
      have hst := step_bd hlt h8
      rw [← ENN.out] at hst
      have M1 := hid (hM.out.below (below_box wo (.cells #[.int .i64 x] 3)) (by omega))
      have BX := hid (bk_new wo #[.int .i64 x] 3)
      obtain ⟨⟨r0, r1, r2⟩, _⟩ := blk3 M1.out.out
      go_wp2_with fail
      refine (impl_row n k bA 0 nn nn _ _ ENN.out (Nat.le_refl _) (by omega) hlt h8).mono ?_
      rintro e w4 ⟨rfl, hB4⟩
      have y4 := hB4.size
      simp only [World.size_alloc] at y4
      have M2 := hid (M1.out.below hB4 (by simp; omega))
      have BX2 := hid (bk_below BX.out hB4)
      have B4 := hid (l_below (BW.out.trans ((below_box wo (.cells #[.int .i64 x] 3)).mono BW.out.size)) hB4)
      clear hB4 r0 r1 r2 M1 BX hc
      go_wp2_with fail
      refine (impl_quadratureA wo.heap.size (rgt x) _ n c C w4 (HR.out.below B4.out) h1 h8 HD.out (rgt_num x) (fun j z wc hj hz hb => colA j z x wo.heap.size wc (by omega) hz (by
        have h := cell_of_row wc wo.heap.size 0 _ _ _ (bk_below BX2.out hb)
        simpa using h))).mono ?_
      rintro e w5 ⟨aq, cq, rfl, hF, hB5⟩
      have y5 := hB5.size
      have M3 := hid (M2.out.below hB5 (by omega))
      obtain ⟨w6, hcp, hbi, hgr, hsz6⟩ := run_copy_ints (dLen := n) (dCap := nn - k * n) M3.out.a (colFlat_len C n k) hF.rd (Nat.le_refl _) (by omega) 3
      rw [show solL (pwM C) (rgt x) n = wtL C n (C.getD k 0) by rw [← hx.out]; rfl, ← colFlat_succ, show nn - k * n - n = nn - (k + 1) * n by rw [Nat.add_mul, Nat.one_mul]; omega] at hbi
      have M4 := hid (M3.out.copied hgr hbi (by omega) (by omega) (by omega) (by omega))
      clear hbi hgr hF hB5 hst
      go_wp2_with fail
      go_roundw
      case rel => exact ⟨k + 1, by go_num, by omega, by omega, M4⟩
      case measure => simp [intOf]; omega
    · obtain rfl : k = n := by omega
      have hM0 := hM.out
      rw [← ENN.out, Nat.sub_self, show zerosL 0 = [] from rfl, List.append_nil] at hM0
      have M1 := hid hM0
      have HU : Hid (∀ wc, Below wo.heap.size wo wc → wc.cell? ⟨w3.heap.size, 2, none⟩ = some (.slice (some ⟨bB, 0, none⟩) k k)) := hid fun wc h => (blk3 (bk_below M1.out.out h)).1.2.2
      clear hM0 hM
      go_wp2_with fail
      have hB1 := hid (show Below wo.heap.size wo wo.drew from (Below.refl _ _).drew)
      refine (fun (HG : Rg _ _ 4) => wp_region_hh (S := fun w' => Below wo.heap.size wo w') HG rfl ?_) ⟨by kernel_rfl, by decide, by kernel_rfl, by kernel_rfl, fun _ _ d _ _ h => by cases d <;> exact h⟩
      (refine hh_take 0 HG rfl (by decide) (by kernel_rfl) (by kernel_rfl) hB1.out (fun K hK => ?_); refine take_val ?_ (by rfl) ?_ ?_; rotate_left 1; (focus (intro wc hC; skip; go_simp; try rfl)); go_simp; refine hK.out _ ?_; clear hK K)
      (refine hh_take 1 HG rfl (by decide) (by kernel_rfl) (by kernel_rfl) hB1.out (fun K hK => ?_); refine take_val ?_ (by rfl) ?_ ?_; rotate_left 1; (focus (intro wc hC; have x0 := HU.out wc hC; go_simp; try rfl)); go_simp; refine hK.out _ ?_; clear hK K)
      (refine hh_take 2 HG rfl (by decide) (by kernel_rfl) (by kernel_rfl) hB1.out (fun K hK => ?_); refine take_val ?_ (by rfl) ?_ ?_; rotate_left 1; (focus (intro wc hC; skip; go_simp; try rfl)); go_simp; refine hK.out _ ?_; clear hK K)
      (refine hh_mid 3 rfl (by decide) (by kernel_rfl) (fun K hK => ?_); refine mid_call ?_ ?_ (by rfl) ?_ ?_; rotate_left 2; (focus (go_simp; first | done | rfl | (refine And.intro ?_ ?_ <;> rfl))))
      refine (impl_quadratureB (rgt 1) _ k c C _ (HR.out.below BW.out.drew) h1 h8 HD.out (rgt_num 1) (fun j z wc hj hz _ => colB j z wc hz)).mono ?_
      rintro e w5 ⟨aq, cq, rfl, hF, hB5⟩
      refine ⟨_, rfl, ?_⟩
      have BW5 := hid (show Below wo.heap.size wo w5 from hB1.out.trans hB5)
      have M3 := hid (M1.out.below BW5.out (by omega))
      have y5 := BW5.out.size
      obtain ⟨w6, hcp, hbi, hgr, hsz6⟩ := run_copy_ints (dLen := k) (dCap := k) (off := 0) (P := []) (R := k) M3.out.b rfl hF.rd (Nat.le_refl _) (Nat.le_refl _) 3
      rw [Nat.sub_self, show zerosL 0 = [] from rfl, List.append_nil, List.nil_append] at hbi
      have M4 := hid (M3.out.copiedB hgr hbi (by omega) (by omega) (by omega) hne)
      clear hbi hgr hF hB5 hB1 M1
      (go_simp; refine hK.out _ _ ?_ ?_ <;> clear hK K)
      · exact BW5.out
      refine hh_done (by kernel_rfl) ?_
      simp only [List.drop_succ_cons, List.drop_zero]
      change wpList _ _ _ _ _ _
      obtain ⟨⟨r0, r1, r2⟩, _⟩ := blk3 M4.out.out
      have hR := M4.out.old (k := w.heap.size) (by omega) RS0.out
      obtain ⟨⟨t0, t1, t2⟩, f0, f1, f2⟩ := blk3 hR
      have HRR := hid hR
      clear hR
      go_wp2_with fail
      refine ret_tabb rfl rfl rfl (heap_setCell_same _ _ _ _ _ _ (heap_setCell_same _ _ _ _ _ _ (heap_setCell_same _ _ _ _ _ _ HRR.out))) rfl ⟨_, _, _, _, _, _, rfl, ?_⟩
      exact newT_blocks (((M4.out.a.far (by omega)).far (by omega)).far (by omega)) (((M4.out.b.far (by omega)).far (by omega)).far (by omega)) ((((B0.out.trans (M4.out.l.mono (by omega))).setCell (Nat.le_refl _) _).setCell (Nat.le_refl _) _).setCell (Nat.le_refl _) _)
        (by omega) (by omega) hne (by rw [colFlat_len, ENN.out]) (wtL_len _ _ _) (by omega) (by omega) (colFlat_wf HD.out k) (wtL_wf HD.out 1)
theorem impl_CollocationTableau (ao : Option Addr) (n c : Nat) (C : List Int) (w : World) (h : Rd w ao n c C) {rs : Int} {rA rB : List Int} {rb : Bool} (hr : colV C = ⟨rs, rA, rB, rb⟩) :
    Calls Try.prog 24 #[.slice ao n c] w fun e w' => ∃ p n c q m' d', e = .returned (.tuple #[.agg #[.int .i64 rs, .slice p n c, .slice q m' d'], .bool rb]) ∧ NewT w w' rA rB p n c q m' d' := by
  cases hok : colOk C with
  | false =>
    rw [colV_no hok] at hr
    cases hr
    exact impl_CollocationTableau_no ao n c C w h hok
  | true =>
    rw [colV_yes hok, h.len] at hr
    cases hr
    exact impl_CollocationTableau_yes ao n c C w h hok
end Go.Proofs.Ythebegfceaehfaa
