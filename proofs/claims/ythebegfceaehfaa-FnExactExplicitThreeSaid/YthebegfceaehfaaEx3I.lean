/- ExplicitThree of the implementation. -/
import Derived.Test.YthebegfceaehfaaEx3L
namespace Go.Proofs.Ythebegfceaehfaa
open Go.RowKit
attribute [local irreducible] M.powr

set_option maxRecDepth 20000 in
set_option maxHeartbeats 4000000 in
theorem impl_ExplicitThree (c2 c3 : Int) (w : World) (hx2 : I64 c2) (hx3 : I64 c3) {rs : Int} {rA rB : List Int} {rb : Bool} (hr : ex3V c2 c3 = ⟨rs, rA, rB, rb⟩) :
    Calls Try.prog 20 #[.int .i64 c2, .int .i64 c3] w fun e w' => ∃ p n c q m' d', e = .returned (.tuple #[.agg #[.int .i64 rs, .slice p n c, .slice q m' d'], .bool rb]) ∧ NewT w w' rA rB p n c q m' d' := by
  have HXA := hid hx2
  have HXB := hid hx3
  have HRV := hid hr
  have RS0 := hid (bk_alloc (bk_new w #[.int .i64 0, .slice none 0 0, .slice none 0 0] 27) (.cells #[.int .i64 0, .int .i64 c2, .int .i64 c3] 3))
  have hlit := NewInts.lit (w.alloc (.cells #[.int .i64 0, .slice none 0 0, .slice none 0 0] 27)) [0, c2, c3] #[.int .i64 0, .int .i64 c2, .int .i64 c3] 3 rfl rfl (by decide) (wf3 hx2 hx3)
  have B0 := hid (l_below (below_box w _) hlit.2)
  have hC0 := hlit.1.rd
  rw [World.size_alloc] at hC0
  have C0 := hid hC0
  have Y0 : Hid (w.heap.size + 1 < ((w.alloc (.cells #[.int .i64 0, .slice none 0 0, .slice none 0 0] 27)).alloc (.cells #[.int .i64 0, .int .i64 c2, .int .i64 c3] 3)).heap.size) := hid (by simp)
  clear hlit hx2 hx3 hr hC0
  go_enter Try.func20, Try.ntmps20
  go_wp2_with fail
  obtain ⟨W1, hW1⟩ : ∃ W1, W1 = (w.alloc (.cells #[.int .i64 0, .slice none 0 0, .slice none 0 0] 27)).alloc (.cells #[.int .i64 0, .int .i64 c2, .int .i64 c3] 3) := ⟨_, rfl⟩
  rw [← hW1] at RS0 B0 C0 Y0 ⊢
  clear hW1
  obtain ⟨⟨t0, t1, t2⟩, f0, f1, f2⟩ := blk3 RS0.out
  have hY0 := Y0.out
  refine (impl_allNumbers _ _ _ _ _ C0.out).mono ?_
  cases hA : M.allNum [0, c2, c3] with
  | false =>
    have HN := hid (ex3V_no (c2 := c2) (c3 := c3) (by unfold ex3Ok; rw [ok_three, hA]; rfl))
    clear hA
    rintro e w1 ⟨rfl, rfl⟩
    go_wp2_with fail
    have he := HRV.out
    rw [HN.out] at he
    cases he
    obtain ⟨e1, e2⟩ := none_end B0.out (Nat.le_refl _) RS0.out (.int .i64 0) (.slice none 0 0) (.slice none 0 0)
    exact ret_tabb rfl rfl rfl e1 rfl ⟨_, _, _, _, _, _, rfl, e2⟩
  | true =>
    have HA := hid hA
    clear hA
    rintro e w1 ⟨rfl, rfl⟩
    go_wp2_with fail
    refine (impl_allDifferent _ _ _ _ _ C0.out).mono ?_
    cases hD : ndB [0, c2, c3] with
    | false =>
      have HN := hid (ex3V_no (c2 := c2) (c3 := c3) (by unfold ex3Ok; rw [ok_three, hD, Bool.and_false]; rfl))
      clear hD
      rintro e w1 ⟨rfl, rfl⟩
      go_wp2_with fail
      have he := HRV.out
      rw [HN.out] at he
      cases he
      obtain ⟨e1, e2⟩ := none_end B0.out (Nat.le_refl _) RS0.out (.int .i64 0) (.slice none 0 0) (.slice none 0 0)
      exact ret_tabb rfl rfl rfl e1 rfl ⟨_, _, _, _, _, _, rfl, e2⟩
    | true =>
      have HO := hid (show colOk [0, c2, c3] = true by rw [ok_three, HA.out, hD]; rfl)
      have HD := hid (colOk_dif (n := 3) rfl HO.out)
      clear hD
      rintro e w1 ⟨rfl, rfl⟩
      go_wp2_with fail
      refine (impl_quadratureC (rgt 1) _ 3 3 [0, c2, c3] W1 C0.out (by decide) (by decide) HD.out (rgt_num 1) (fun j z wc hj hz _ => colC j z wc hz)).mono ?_
      rintro e w2 ⟨aq, cq, rfl, hF, hB⟩
      have y2 := hB.size
      have B2 := hid (l_below B0.out hB)
      have RS2 := hid (bk_below RS0.out hB)
      have F2 := hid (show Fr w2 W1.heap.size aq 3 cq (ex3B c2 c3) from hF)
      clear t0 t1 t2 f0 f1 f2 hF hB
      obtain ⟨⟨t0, t1, t2⟩, f0, f1, f2⟩ := blk3 RS2.out
      obtain ⟨bq, oq, y, rfl, hy0, _, _, hy⟩ := F2.out.rd.at (k := 2) (by omega)
      have hqb := F2.out.blkN_bd bq rfl
      by_cases hz : y = 0
      · have hq : (y == 0) = true := beq_iff_eq.2 hz
        have HN := hid (ex3V_no (c2 := c2) (c3 := c3) (by unfold ex3Ok; rw [← hy.out, decide_eq_true hz, Bool.not_true, Bool.and_false]))
        subst hz
        go_wp2_with fail
        have he := HRV.out
        rw [HN.out] at he
        cases he
        obtain ⟨e1, e2⟩ := none_end B2.out (Nat.le_refl _) RS2.out (.int .i64 0) (.slice none 0 0) (.slice none 0 0)
        exact ret_tabb rfl rfl rfl e1 rfl ⟨_, _, _, _, _, _, rfl, e2⟩
      · have hq : (y == 0) = false := beq_eq_false_iff_ne.2 hz
        have HV := hid (ex3V_yes (c2 := c2) (c3 := c3) (by unfold ex3Ok; rw [HO.out, ← hy.out, decide_eq_false hz]; rfl))
        have HXY := hid hy.out
        have hy1 := hy0
        clear hy hz
        go_wp2_with fail
        refine (impl_empty3 w2).mono ?_
        rintro e w3 ⟨bA, bB, rfl, hbA, hbB, hne, hB3, hlA, hlB⟩
        have y3 := hB3.size
        have zA := (Array.getElem?_eq_some_iff.1 hbA).1
        have zB := (Array.getElem?_eq_some_iff.1 hbB).1
        have M0 := hid (show Cw w2.heap.size w2 (w3.alloc (.cells #[.int .i64 3, .slice (some ⟨bA, 0, none⟩) 9 9, .slice (some ⟨bB, 0, none⟩) 3 3] 27)) (.int .i64 3) w3.heap.size bA bB 9 3 (zerosL 9) (zerosL 3) from
          ⟨hB3.alloc (by omega) _, bk_new _ _ _, bk_alloc hbA _, bk_alloc hbB _⟩)
        have B3 := hid (hB3.alloc y3 (.cells #[.int .i64 3, .slice (some ⟨bA, 0, none⟩) 9 9, .slice (some ⟨bB, 0, none⟩) 3 3] 27))
        clear hbA hbB hB3 t0 t1 t2 f0 f1 f2 hy0
        obtain ⟨w4, hcp, hbi, hgr, hsz⟩ := run_copy_ints (dLen := 3) (dCap := 3) (off := 0) (P := []) (R := 3) M0.out.b rfl (F2.out.rd.below B3.out) (Nat.le_refl _) (Nat.le_refl _) 3
        rw [Nat.sub_self, show zerosL 0 = [] from rfl, List.append_nil, List.nil_append] at hbi
        have M1 := hid (M0.out.copiedB hgr hbi (by simp; omega) (by omega) (by omega) hne)
        have hyc : w4.cell? ⟨bq, oq + 2, none⟩ = some (.int .i64 y) := hgr.cell ((B3.out.cell (World.block_lt_of_cell? w2 _ hy1)).trans hy1) (by show some bq ≠ some bB; simp only [ne_eq, Option.some.injEq]; omega)
        simp only [World.size_alloc] at hsz
        obtain ⟨⟨s0, s1, s2⟩, _⟩ := blk3 M0.out.out
        obtain ⟨⟨r0, r1, r2⟩, _⟩ := blk3 M1.out.out
        clear hbi hgr hy1
        go_wp2_with (first | (go_at_call 44; refine (impl_Times _ _ _).mono ?_; rintro e w' ⟨rfl, rfl⟩) | (go_at_call 40; refine (impl_Fraction _ _ _).mono ?_; generalize hq : M.frac 1 (M.times 6 (M.times y c2)) = av; have HQ := hid hq; clear hq; rintro e w' ⟨rfl, rfl⟩))
        clear hcp s0 s1 s2
        refine (impl_row31 bA _ w4).mono ?_
        rintro e w5 ⟨rfl, hB5⟩
        have y5 := hB5.size
        have M2 := hid ((M1.out.below hB5 (by omega)).below (below_box w5 (.cells #[.int .i64 c2] 3)) (by omega))
        clear hB5 r0 r1 r2 hyc
        obtain ⟨w6, hcp, hbi, hgr, hsz6⟩ := run_copy_ints (dLen := 3) (dCap := 6) (off := 3) (P := zerosL 3) (R := 6) (show Bi _ bA (zerosL 3 ++ zerosL 6) from M2.out.a) rfl (rd_one w5 c2 3 HXA.out) (by decide) (by decide) 3
        simp only [World.size_alloc] at hsz6
        have M3 := hid (M2.out.copied hgr (show Bi w6 bA ((zerosL 3 ++ [c2] ++ zerosL 2) ++ zerosL 3) from hbi) (by simp; omega) (by omega) (by omega) (Ne.symm hne))
        obtain ⟨⟨r0, r1, r2⟩, _⟩ := blk3 M3.out.out
        clear hbi hgr
        go_wp2_with fail
        clear hcp
        refine (impl_row32 bA _ w6).mono ?_
        rintro e w7 ⟨rfl, hB7⟩
        have y7 := hB7.size
        have M4 := hid (M3.out.below hB7 (by omega))
        clear hB7 r0 r1 r2
        go_wp2_with fail
        refine (impl_Minus _ _ _).mono ?_
        generalize hq : M.minus c3 av = uv
        have HU := hid hq
        have HUI : Hid (I64 uv) := hid (hq ▸ I64.num (M.num_minus _ _))
        have HAI : Hid (I64 av) := hid (HQ.out ▸ I64.num (M.num_frac _ _))
        clear hq
        rintro e w' ⟨rfl, rfl⟩
        have M5 := hid (M4.out.below (below_box w7 (.cells #[.int .i64 uv, .int .i64 av] 3)) (by omega))
        have hli := (NewInts.lit w7 [uv, av] #[.int .i64 uv, .int .i64 av] 2 rfl rfl (by decide) (by
          intro x hx
          simp only [List.mem_cons, List.not_mem_nil, or_false] at hx
          rcases hx with rfl | rfl
          · exact HUI.out
          · exact HAI.out)).1.rd
        obtain ⟨w8, hcp, hbi, hgr, hsz8⟩ := run_copy_ints (dLen := 3) (dCap := 3) (off := 6) (P := zerosL 3 ++ [c2] ++ zerosL 2) (R := 3) M5.out.a rfl hli (by decide) (by decide) 3
        simp only [World.size_alloc] at hsz8
        have hXA : zerosL 3 ++ [c2] ++ zerosL 2 ++ [uv, av] ++ zerosL (3 - 2) = ex3A c2 c3 := by
          have e1 : av = ex3a c2 c3 := by rw [← HQ.out, HXY.out]; rfl
          have e2 : uv = M.minus c3 (ex3a c2 c3) := by rw [← HU.out, e1]
          rw [e1, e2]; rfl
        rw [hXA] at hbi
        have M6 := hid (M5.out.copied hgr hbi (by simp; omega) (by omega) (by omega) (Ne.symm hne))
        obtain ⟨⟨r0, r1, r2⟩, _⟩ := blk3 M6.out.out
        have hR := M6.out.old (k := w.heap.size) (by omega) RS2.out
        obtain ⟨⟨t0, t1, t2⟩, f0, f1, f2⟩ := blk3 hR
        have HRR := hid hR
        clear hR hbi hgr hli hXA
        go_wp2_with fail
        have he := HRV.out
        rw [HV.out] at he
        cases he
        refine ret_tabb rfl rfl rfl (heap_setCell_same _ _ _ _ _ _ (heap_setCell_same _ _ _ _ _ _ (heap_setCell_same _ _ _ _ _ _ HRR.out))) rfl ⟨_, _, _, _, _, _, rfl, ?_⟩
        exact newT_blocks (((M6.out.a.far (by omega)).far (by omega)).far (by omega)) (((M6.out.b.far (by omega)).far (by omega)).far (by omega)) ((((B2.out.trans (M6.out.l.mono (by omega))).setCell (Nat.le_refl _) _).setCell (Nat.le_refl _) _).setCell (Nat.le_refl _) _)
          (by omega) (by omega) hne rfl (wtL_len _ _ _) (by decide) (by decide) (ex3_wf HXA.out) (wtL_wf HD.out 1)
end Go.Proofs.Ythebegfceaehfaa
