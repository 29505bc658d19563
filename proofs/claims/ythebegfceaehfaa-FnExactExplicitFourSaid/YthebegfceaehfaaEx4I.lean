/- ExplicitFour of the implementation. -/
import Derived.Test.YthebegfceaehfaaEx4L
namespace Go.Proofs.Ythebegfceaehfaa
open Go.RowKit
attribute [local irreducible] M.powr

set_option maxRecDepth 20000 in
set_option maxHeartbeats 4000000 in
theorem impl_ExplicitFour (c2 c3 : Int) (w : World) (hx2 : I64 c2) (hx3 : I64 c3) {rs : Int} {rA rB : List Int} {rb : Bool} (hr : ex4V c2 c3 = ⟨rs, rA, rB, rb⟩) :
    Calls Try.prog 26 #[.int .i64 c2, .int .i64 c3] w fun e w' => ∃ p n c q m' d', e = .returned (.tuple #[.agg #[.int .i64 rs, .slice p n c, .slice q m' d'], .bool rb]) ∧ NewT w w' rA rB p n c q m' d' := by
  have HXA := hid hx2
  have HXB := hid hx3
  have HRV := hid hr
  have RS0 := hid (bk_alloc (bk_new w #[.int .i64 0, .slice none 0 0, .slice none 0 0] 27) (.cells #[.int .i64 0, .int .i64 c2, .int .i64 c3, .int .i64 1] 3))
  have hlit := NewInts.lit (w.alloc (.cells #[.int .i64 0, .slice none 0 0, .slice none 0 0] 27)) [0, c2, c3, 1] #[.int .i64 0, .int .i64 c2, .int .i64 c3, .int .i64 1] 4 rfl rfl (by decide) (wf4 hx2 hx3)
  have B0 := hid (l_below (below_box w _) hlit.2)
  have hC0 := hlit.1.rd
  rw [World.size_alloc] at hC0
  have C0 := hid hC0
  have Y0 : Hid (w.heap.size + 1 < ((w.alloc (.cells #[.int .i64 0, .slice none 0 0, .slice none 0 0] 27)).alloc (.cells #[.int .i64 0, .int .i64 c2, .int .i64 c3, .int .i64 1] 3)).heap.size) := hid (by simp)
  clear hlit hx2 hx3 hr hC0
  go_enter Try.func26, Try.ntmps26
  go_wp2_with fail
  obtain ⟨W1, hW1⟩ : ∃ W1, W1 = (w.alloc (.cells #[.int .i64 0, .slice none 0 0, .slice none 0 0] 27)).alloc (.cells #[.int .i64 0, .int .i64 c2, .int .i64 c3, .int .i64 1] 3) := ⟨_, rfl⟩
  rw [← hW1] at RS0 B0 C0 Y0 ⊢
  clear hW1
  obtain ⟨⟨t0, t1, t2⟩, f0, f1, f2⟩ := blk3 RS0.out
  have hY0 := Y0.out
  refine (impl_allNumbers _ _ _ _ _ C0.out).mono ?_
  cases hA : M.allNum [0, c2, c3, 1] with
  | false =>
    have HN := hid (ex4V_no (c2 := c2) (c3 := c3) (by unfold ex4Ok; rw [ok_four, hA]; rfl))
    clear hA
    rintro e w1 ⟨rfl, rfl⟩
    go_wp2_with fail
    have he := HRV.out
    rw [HN.out] at he
    cases he
    obtain ⟨e1, e2⟩ := none_end B0.out (Nat.le_refl _) RS0.out (.int .i64 0) (.slice none 0 0) (.slice none 0 0)
    exact ret_tabb rfl rfl rfl e1 rfl ⟨_, _, _, _, _, _, rfl, e2⟩
  | true =>
    have HA := hid hA
    clear hA
    rintro e w1 ⟨rfl, rfl⟩
    go_wp2_with fail
    refine (impl_allDifferent _ _ _ _ _ C0.out).mono ?_
    cases hD : ndB [0, c2, c3, 1] with
    | false =>
      have HN := hid (ex4V_no (c2 := c2) (c3 := c3) (by unfold ex4Ok; rw [ok_four, hD, Bool.and_false]; rfl))
      clear hD
      rintro e w1 ⟨rfl, rfl⟩
      go_wp2_with fail
      have he := HRV.out
      rw [HN.out] at he
      cases he
      obtain ⟨e1, e2⟩ := none_end B0.out (Nat.le_refl _) RS0.out (.int .i64 0) (.slice none 0 0) (.slice none 0 0)
      exact ret_tabb rfl rfl rfl e1 rfl ⟨_, _, _, _, _, _, rfl, e2⟩
    | true =>
      have HO := hid (show colOk [0, c2, c3, 1] = true by rw [ok_four, HA.out, hD]; rfl)
      have HD := hid (colOk_dif (n := 4) rfl HO.out)
      clear hD
      rintro e w1 ⟨rfl, rfl⟩
      go_wp2_with fail
      refine (impl_quadratureD (rgt 1) _ 4 4 [0, c2, c3, 1] W1 C0.out (by decide) (by decide) HD.out (rgt_num 1) (fun j z wc hj hz _ => colD j z wc hz)).mono ?_
      rintro e w2 ⟨aq, cq, rfl, hF, hB⟩
      have y2 := hB.size
      have B2 := hid (l_below B0.out hB)
      have RS2 := hid (bk_below RS0.out hB)
      have F2 := hid (show Fr w2 W1.heap.size aq 4 cq (ex4B c2 c3) from hF)
      clear t0 t1 t2 f0 f1 f2 hF hB
      obtain ⟨⟨t0, t1, t2⟩, f0, f1, f2⟩ := blk3 RS2.out
      obtain ⟨bq, oq, y1, rfl, u1, _, _, hy1⟩ := F2.out.rd.at (k := 1) (by omega)
      obtain ⟨bq', oq', y2, e', u2, _, _, hy2⟩ := F2.out.rd.at (k := 2) (by omega)
      cases e'
      obtain ⟨bq', oq', y3, e', u3, _, _, hy3⟩ := F2.out.rd.at (k := 3) (by omega)
      cases e'
      have hqb := F2.out.blkN_bd bq rfl
      have HB1 := hid hy1.out
      have HB2 := hid hy2.out
      have HB3 := hid hy3.out
      have hok4 : ex4Ok c2 c3 = !(decide (y2 = 0) || decide (y3 = 0)) := by unfold ex4Ok; rw [HO.out, ← hy2.out, ← hy3.out, Bool.true_and]
      clear hy1 hy2 hy3
      by_cases hz : y2 = 0 ∨ y3 = 0
      · have HN := hid (ex4V_no (c2 := c2) (c3 := c3) (by
          rw [hok4]
          rcases hz with h | h <;> simp [h]))
        clear hok4
        have key : ∀ W3 : World, Below w2.heap.size w2 W3 → W3.heap[w.heap.size]? = some (.cells #[.int .i64 0, .slice none 0 0, .slice none 0 0] 27 (0, 0)) ∧ Below w.heap.size w W3 := fun W3 h => ⟨bk_below RS2.out h, l_below B2.out h⟩
        have KEY := hid key
        clear key
        by_cases hz2 : y2 = 0
        · have hq : (y2 == 0) = true := beq_iff_eq.2 hz2
          clear hz hz2
          go_wp2_with fail
          go_quiet (fail)
          generalize hW : w2.drewN _ = W3
          obtain ⟨hR, hBW⟩ := KEY.out W3 (hW ▸ Below.drewN' (Below.refl _ _) _)
          have HR3 := hid hR
          have HB3 := hid hBW
          clear t0 t1 t2 f0 f1 f2 u1 u2 u3 hW hBW
          obtain ⟨⟨t0, t1, t2⟩, f0, f1, f2⟩ := blk3 hR
          clear hR
          go_wp2_with fail
          have he := HRV.out
          rw [HN.out] at he
          cases he
          obtain ⟨e1, e2⟩ := none_end HB3.out (Nat.le_refl _) HR3.out (.int .i64 0) (.slice none 0 0) (.slice none 0 0)
          exact ret_tabb rfl rfl rfl e1 rfl ⟨_, _, _, _, _, _, rfl, e2⟩
        · have hq : (y2 == 0) = false := beq_eq_false_iff_ne.2 hz2
          have hq3 : (y3 == 0) = true := beq_iff_eq.2 (hz.resolve_left hz2)
          clear hz hz2
          go_wp2_with fail
          go_quiet (fail)
          generalize hW : w2.drewN _ = W3
          obtain ⟨hR, hBW⟩ := KEY.out W3 (hW ▸ Below.drewN' (Below.refl _ _) _)
          have HR3 := hid hR
          have HB3 := hid hBW
          clear t0 t1 t2 f0 f1 f2 u1 u2 u3 hW hBW
          obtain ⟨⟨t0, t1, t2⟩, f0, f1, f2⟩ := blk3 hR
          clear hR
          go_wp2_with fail
          have he := HRV.out
          rw [HN.out] at he
          cases he
          obtain ⟨e1, e2⟩ := none_end HB3.out (Nat.le_refl _) HR3.out (.int .i64 0) (.slice none 0 0) (.slice none 0 0)
          exact ret_tabb rfl rfl rfl e1 rfl ⟨_, _, _, _, _, _, rfl, e2⟩
      · have hq : (y2 == 0) = false := beq_eq_false_iff_ne.2 (fun h => hz (.inl h))
        have hq3 : (y3 == 0) = false := beq_eq_false_iff_ne.2 (fun h => hz (.inr h))
        have HV := hid (ex4V_yes (c2 := c2) (c3 := c3) (by
          rw [hok4, decide_eq_false (fun h => hz (.inl h)), decide_eq_false (fun h => hz (.inr h))]; rfl))
        clear hok4 hz
        go_wp2_with fail
        go_quiet (fail)
        generalize hW : w2.drewN _ = W3
        have hBd : Below w2.heap.size w2 W3 := hW ▸ Below.drewN' (Below.refl _ _) _
        have z3 := hBd.size
        have B3 := hid (l_below B2.out hBd)
        have RS3 := hid (bk_below RS2.out hBd)
        have F3 := hid (F2.out.below hBd)
        clear t0 t1 t2 f0 f1 f2 u1 u2 u3 hW hBd
        go_wp2_with ((first | (go_at_call 46; refine (impl_Minus _ _ _).mono ?_; rintro e w' ⟨rfl, rfl⟩) | (go_at_call 44; refine (impl_Times _ _ _).mono ?_; rintro e w' ⟨rfl, rfl⟩) | (go_at_call 40; refine (impl_Fraction _ _ _).mono ?_; rintro e w' ⟨rfl, rfl⟩)))
        generalize hp : M.frac (M.times y2 (M.minus 1 c3)) y3 = p
        generalize hX : M.times y1 (M.minus 1 c2) = X
        generalize hY : M.minus (M.frac 1 8) (M.times (M.times y3 p) c3) = Y
        generalize hqq : M.frac (M.minus Y (M.times c2 X)) (M.times (M.times y2 c2) (M.minus c3 1)) = q
        generalize hrr : M.frac (M.minus X (M.times y2 q)) y3 = r
        have EP := hid (show p = ex4p c2 c3 by rw [← hp, HB2.out, HB3.out]; rfl)
        have EX := hid (show X = ex4x c2 c3 by rw [← hX, HB1.out]; rfl)
        have EY := hid (show Y = ex4y c2 c3 by rw [← hY, frac_one, times_assoc, HB3.out, EP.out]; rfl)
        have EQ := hid (show q = ex4q c2 c3 by rw [← hqq, EY.out, EX.out, HB2.out]; rfl)
        have ER := hid (show r = ex4r c2 c3 by rw [← hrr, EX.out, HB2.out, HB3.out, EQ.out]; rfl)
        have IP : Hid (I64 p) := hid (hp ▸ I64.num (M.num_frac _ _))
        have IQ : Hid (I64 q) := hid (hqq ▸ I64.num (M.num_frac _ _))
        have IR : Hid (I64 r) := hid (hrr ▸ I64.num (M.num_frac _ _))
        clear hp hX hY hqq hrr
        refine (impl_empty4 W3).mono ?_
        rintro e w4 ⟨bA, bB, rfl, hbA, hbB, hne, hB4, hlA, hlB⟩
        have y4 := hB4.size
        have zA := (Array.getElem?_eq_some_iff.1 hbA).1
        have zB := (Array.getElem?_eq_some_iff.1 hbB).1
        have M0 := hid (show Cw W3.heap.size W3 (w4.alloc (.cells #[.int .i64 4, .slice (some ⟨bA, 0, none⟩) 16 16, .slice (some ⟨bB, 0, none⟩) 4 4] 27)) (.int .i64 4) w4.heap.size bA bB 16 4 (zerosL 16) (zerosL 4) from
          ⟨hB4.alloc (by omega) _, bk_new _ _ _, bk_alloc hbA _, bk_alloc hbB _⟩)
        have B4 := hid (hB4.alloc y4 (.cells #[.int .i64 4, .slice (some ⟨bA, 0, none⟩) 16 16, .slice (some ⟨bB, 0, none⟩) 4 4] 27))
        clear hbA hbB hB4
        obtain ⟨w5, hcp, hbi, hgr, hsz⟩ := run_copy_ints (dLen := 4) (dCap := 4) (off := 0) (P := []) (R := 4) M0.out.b rfl (F3.out.rd.below B4.out) (Nat.le_refl _) (Nat.le_refl _) 3
        rw [Nat.sub_self, show zerosL 0 = [] from rfl, List.append_nil, List.nil_append] at hbi
        have M1 := hid (M0.out.copiedB hgr hbi (by simp; omega) (by omega) (by omega) hne)
        simp only [World.size_alloc] at hsz
        obtain ⟨⟨s0, s1, s2⟩, _⟩ := blk3 M0.out.out
        obtain ⟨⟨r0, r1, r2⟩, _⟩ := blk3 M1.out.out
        clear hbi hgr
        go_wp2_with fail
        clear hcp s0 s1 s2
        refine (impl_row41 bA _ w5).mono ?_
        rintro e w6 ⟨rfl, hB6⟩
        have y6 := hB6.size
        have M2 := hid ((M1.out.below hB6 (by omega)).below (below_box w6 (.cells #[.int .i64 c2] 3)) (by omega))
        clear hB6 r0 r1 r2
        obtain ⟨w7, hcp, hbi, hgr, hsz7⟩ := run_copy_ints (dLen := 4) (dCap := 12) (off := 4) (P := zerosL 4) (R := 12) (show Bi _ bA (zerosL 4 ++ zerosL 12) from M2.out.a) rfl (rd_one w6 c2 3 HXA.out) (by decide) (by decide) 3
        simp only [World.size_alloc] at hsz7
        have M3 := hid (M2.out.copied hgr (show Bi w7 bA ((zerosL 4 ++ [c2] ++ zerosL 3) ++ zerosL 8) from hbi) (by simp; omega) (by omega) (by omega) (Ne.symm hne))
        obtain ⟨⟨r0, r1, r2⟩, _⟩ := blk3 M3.out.out
        clear hbi hgr
        go_wp2_with fail
        clear hcp
        refine (impl_row42 bA _ w7).mono ?_
        rintro e w8 ⟨rfl, hB8⟩
        have y8 := hB8.size
        have M4 := hid (M3.out.below hB8 (by omega))
        clear hB8 r0 r1 r2
        go_wp2_with fail
        refine (impl_Minus _ _ _).mono ?_
        generalize hu : M.minus c3 q = uv
        have EU := hid (show uv = M.minus c3 (ex4q c2 c3) by rw [← hu, EQ.out])
        have IU : Hid (I64 uv) := hid (hu ▸ I64.num (M.num_minus _ _))
        clear hu
        rintro e w' ⟨rfl, rfl⟩
        have M5 := hid (M4.out.below (below_box w8 (.cells #[.int .i64 uv, .int .i64 q] 3)) (by omega))
        have hli := (NewInts.lit w8 [uv, q] #[.int .i64 uv, .int .i64 q] 2 rfl rfl (by decide) (by
          intro x hx
          simp only [List.mem_cons, List.not_mem_nil, or_false] at hx
          rcases hx with rfl | rfl
          · exact IU.out
          · exact IQ.out)).1.rd
        obtain ⟨w9, hcp, hbi, hgr, hsz9⟩ := run_copy_ints (dLen := 4) (dCap := 8) (off := 8) (P := zerosL 4 ++ [c2] ++ zerosL 3) (R := 8) M5.out.a rfl hli (by decide) (by decide) 3
        simp only [World.size_alloc] at hsz9
        have M6 := hid (M5.out.copied hgr (show Bi w9 bA ((zerosL 4 ++ [c2] ++ zerosL 3 ++ [uv, q] ++ zerosL 2) ++ zerosL 4) from hbi) (by simp; omega) (by omega) (by omega) (Ne.symm hne))
        obtain ⟨⟨r0, r1, r2⟩, _⟩ := blk3 M6.out.out
        clear hbi hgr hli
        go_wp2_with fail
        clear hcp
        refine (impl_row43 bA _ w9).mono ?_
        rintro e wa ⟨rfl, hBa⟩
        have ya := hBa.size
        have M7 := hid (M6.out.below hBa (by omega))
        clear hBa r0 r1 r2
        go_wp2_with ((go_at_call 43; refine (impl_Plus _ _ _).mono ?_; rintro e w' ⟨rfl, rfl⟩))
        refine (impl_Minus _ _ _).mono ?_
        generalize hv : M.minus 1 (M.plus r p) = vv
        have EV := hid (show vv = M.minus 1 (M.plus (ex4r c2 c3) (ex4p c2 c3)) by rw [← hv, ER.out, EP.out])
        have IV : Hid (I64 vv) := hid (hv ▸ I64.num (M.num_minus _ _))
        clear hv
        rintro e w' ⟨rfl, rfl⟩
        have M8 := hid (M7.out.below (below_box wa (.cells #[.int .i64 vv, .int .i64 r, .int .i64 p] 3)) (by omega))
        have hli := (NewInts.lit wa [vv, r, p] #[.int .i64 vv, .int .i64 r, .int .i64 p] 3 rfl rfl (by decide) (by
          intro x hx
          simp only [List.mem_cons, List.not_mem_nil, or_false] at hx
          rcases hx with rfl | rfl | rfl
          · exact IV.out
          · exact IR.out
          · exact IP.out)).1.rd
        obtain ⟨wb, hcp, hbi, hgr, hszb⟩ := run_copy_ints (dLen := 4) (dCap := 4) (off := 12) (P := zerosL 4 ++ [c2] ++ zerosL 3 ++ [uv, q] ++ zerosL 2) (R := 4) M8.out.a rfl hli (by decide) (by decide) 3
        simp only [World.size_alloc] at hszb
        have hXA : zerosL 4 ++ [c2] ++ zerosL 3 ++ [uv, q] ++ zerosL 2 ++ [vv, r, p] ++ zerosL (4 - 3) = ex4A c2 c3 := by
          rw [EU.out, EQ.out, EV.out, ER.out, EP.out]; rfl
        rw [hXA] at hbi
        have M9 := hid (M8.out.copied hgr hbi (by simp; omega) (by omega) (by omega) (Ne.symm hne))
        obtain ⟨⟨r0, r1, r2⟩, _⟩ := blk3 M9.out.out
        have hR := M9.out.old (k := w.heap.size) (by omega) RS3.out
        obtain ⟨⟨t0, t1, t2⟩, f0, f1, f2⟩ := blk3 hR
        have HRR := hid hR
        clear hR hbi hgr hli hXA
        go_wp2_with fail
        have he := HRV.out
        rw [HV.out] at he
        cases he
        refine ret_tabb rfl rfl rfl (heap_setCell_same _ _ _ _ _ _ (heap_setCell_same _ _ _ _ _ _ (heap_setCell_same _ _ _ _ _ _ HRR.out))) rfl ⟨_, _, _, _, _, _, rfl, ?_⟩
        exact newT_blocks (((M9.out.a.far (by omega)).far (by omega)).far (by omega)) (((M9.out.b.far (by omega)).far (by omega)).far (by omega)) ((((B3.out.trans (M9.out.l.mono (by omega))).setCell (Nat.le_refl _) _).setCell (Nat.le_refl _) _).setCell (Nat.le_refl _) _)
          (by omega) (by omega) hne rfl (wtL_len _ _ _) (by decide) (by decide) (ex4_wf HXA.out) (wtL_wf HD.out 1)
end Go.Proofs.Ythebegfceaehfaa
