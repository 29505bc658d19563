/- ExplicitThree of the specification. -/
import Derived.Test.YthebegfceaehfaaEx3L
namespace Go.Proofs.Ythebegfceaehfaa
open Go.RowKit
attribute [local irreducible] M.powr

set_option maxRecDepth 20000 in
set_option maxHeartbeats 4000000 in
theorem spec_ExplicitThree (c2 c3 : Int) (w : World) (hx2 : I64 c2) (hx3 : I64 c3) {rs : Int} {rA rB : List Int} {rb : Bool} (hr : ex3V c2 c3 = ⟨rs, rA, rB, rb⟩) :
    Calls Try.prog 19 #[.int .i64 c2, .int .i64 c3] w fun e w' => ∃ p n c q m' d', e = .returned (.tuple #[.agg #[.int .i64 rs, .slice p n c, .slice q m' d'], .bool rb]) ∧ NewT w w' rA rB p n c q m' d' := by
  have HXA := hid hx2
  have HXB := hid hx3
  have HRV := hid hr
  have RS0 := hid (bk_alloc (bk_new w #[.int .i64 0, .slice none 0 0, .slice none 0 0] 27) (.cells #[.int .i64 0, .int .i64 c2, .int .i64 c3] 3))
  have hlit := NewInts.lit (w.alloc (.cells #[.int .i64 0, .slice none 0 0, .slice none 0 0] 27)) [0, c2, c3] #[.int .i64 0, .int .i64 c2, .int .i64 c3] 3 rfl rfl (by decide) (wf3 hx2 hx3)
  have B0 := hid (l_below (below_box w _) hlit.2)
  have hC0 := hlit.1.rd
  rw [World.size_alloc] at hC0
  have C0 := hid hC0
  have Y0 : Hid (w.heap.size + 1 < ((w.alloc (.cells #[.int .i64 0, .slice none 0 0, .slice none 0 0] 27)).alloc (.cells #[.int .i64 0, .int .i64 c2, .int .i64 c3] 3)).heap.size) := hid (by simp)
  clear hlit hx2 hx3 hr hC0
  go_enter Try.func19, Try.ntmps19
  go_wp2_with fail
  obtain ⟨W1, hW1⟩ : ∃ W1, W1 = (w.alloc (.cells #[.int .i64 0, .slice none 0 0, .slice none 0 0] 27)).alloc (.cells #[.int .i64 0, .int .i64 c2, .int .i64 c3] 3) := ⟨_, rfl⟩
  rw [← hW1] at RS0 B0 C0 Y0 ⊢
  clear hW1
  have hY0 := Y0.out
  refine (spec_l7Different _ _ _ _ _ C0.out).mono ?_
  cases hA : (ndB [0, c2, c3] && M.allNum [0, c2, c3]) with
  | false =>
    have HN := hid (ex3V_no (c2 := c2) (c3 := c3) (by unfold ex3Ok; rw [ok_three, Bool.and_comm (M.allNum _), hA]; rfl))
    clear hA
    rintro e w1 ⟨rfl, hB⟩
    have B1 := hid (l_below B0.out hB)
    have RS1 := hid (bk_below RS0.out hB)
    obtain ⟨⟨t0, t1, t2⟩, f0, f1, f2⟩ := blk3 RS1.out
    clear hB
    go_wp2_with fail
    have he := HRV.out
    rw [HN.out] at he
    cases he
    obtain ⟨e1, e2⟩ := none_end B1.out (Nat.le_refl _) RS1.out (.int .i64 0) (.slice none 0 0) (.slice none 0 0)
    exact ret_tabb rfl rfl rfl e1 rfl ⟨_, _, _, _, _, _, rfl, e2⟩
  | true =>
    have HO := hid (show colOk [0, c2, c3] = true by rw [ok_three, Bool.and_comm (M.allNum _), hA])
    have HD := hid (colOk_dif (n := 3) rfl HO.out)
    clear hA
    rintro e w1 ⟨rfl, hB⟩
    have y1 := hB.size
    have B1 := hid (l_below B0.out hB)
    have RS1 := hid (bk_below RS0.out hB)
    have C1 := hid (C0.out.below hB)
    clear hB
    go_wp2_with fail
    refine (spec_l7Weights 1 _ 3 3 [0, c2, c3] _ C1.out (by decide) (by decide) HD.out).mono ?_
    rintro e w2 ⟨aq, cq, rfl, hF, hB⟩
    have y2 := hB.size
    have B2 := hid (l_below B1.out hB)
    have RS2 := hid (bk_below RS1.out hB)
    have F2 := hid (show Fr w2 w1.heap.size aq 3 cq (ex3B c2 c3) from hF)
    clear hF hB
    obtain ⟨⟨t0, t1, t2⟩, f0, f1, f2⟩ := blk3 RS2.out
    obtain ⟨bq, oq, y, rfl, hy0, _, _, hy⟩ := F2.out.rd.at (k := 2) (by omega)
    have hqb := F2.out.blkN_bd bq rfl
    by_cases hz : y = 0
    · have hq : (y == 0) = true := beq_iff_eq.2 hz
      have HN := hid (ex3V_no (c2 := c2) (c3 := c3) (by unfold ex3Ok; rw [← hy.out, decide_eq_true hz, Bool.not_true, Bool.and_false]))
      subst hz
      go_wp2_with fail
      have he := HRV.out
      rw [HN.out] at he
      cases he
      obtain ⟨e1, e2⟩ := none_end B2.out (Nat.le_refl _) RS2.out (.int .i64 0) (.slice none 0 0) (.slice none 0 0)
      exact ret_tabb rfl rfl rfl e1 rfl ⟨_, _, _, _, _, _, rfl, e2⟩
    · have hq : (y == 0) = false := beq_eq_false_iff_ne.2 hz
      have HV := hid (ex3V_yes (c2 := c2) (c3 := c3) (by unfold ex3Ok; rw [HO.out, ← hy.out, decide_eq_false hz]; rfl))
      have HXY := hid hy.out
      clear hy hz
      go_wp2_with (first | (go_at_call 50; refine (spec_Times _ _ _).mono ?_; rintro e w' ⟨rfl, rfl⟩) | (go_at_call 49; refine (spec_Inverse _ _).mono ?_; generalize hq : M.inv (M.times 6 (M.times y c2)) = av; have HQ := hid hq; clear hq; rintro e w' ⟨rfl, rfl⟩))
      refine (spec_Minus _ _ _).mono ?_
      generalize hq : M.minus c3 av = uv
      have HU := hid hq
      clear hq
      rintro e w' ⟨rfl, rfl⟩
      have HAL := hid (below_box w2 (.cells #[.int .i64 0, .int .i64 0, .int .i64 0, .int .i64 c2, .int .i64 0, .int .i64 0, .int .i64 uv, .int .i64 av, .int .i64 0] 3))
      have hXA : [0, 0, 0, c2, 0, 0, uv, av, 0] = ex3A c2 c3 := by
        have e1 : av = ex3a c2 c3 := by rw [← HQ.out, HXY.out]; unfold ex3a; rw [frac_one]
        have e2 : uv = M.minus c3 (ex3a c2 c3) := by rw [← HU.out, e1]
        rw [e1, e2]; rfl
      have hli := NewInts.lit w2 (ex3A c2 c3) #[.int .i64 0, .int .i64 0, .int .i64 0, .int .i64 c2, .int .i64 0, .int .i64 0, .int .i64 uv, .int .i64 av, .int .i64 0] 9 (by rw [← hXA]; rfl) rfl (by decide) (ex3_wf HXA.out)
      have HL := hid hli
      have R3 := hid (bk_below RS2.out HAL.out)
      have hR3 := R3.out
      have B3 := hid (l_below B2.out HAL.out)
      have F3 := hid (F2.out.below HAL.out)
      clear hli hXA t0 t1 t2 f0 f1 f2 hy0
      obtain ⟨⟨t0, t1, t2⟩, f0, f1, f2⟩ := blk3 hR3
      clear hR3
      go_wp2_with fail
      have he := HRV.out
      rw [HV.out] at he
      cases he
      refine ret_tabb rfl rfl rfl (heap_setCell_same _ _ _ _ _ _ (heap_setCell_same _ _ _ _ _ _ (heap_setCell_same _ _ _ _ _ _ R3.out))) rfl ⟨_, _, _, _, _, _, rfl, ?_⟩
      refine ⟨(fr_set (fr_set (fr_set HL.out.1 _ (by omega)) _ (by omega)) _ (by omega)).mono (by omega), (fr_set (fr_set (fr_set F3.out _ (by omega)) _ (by omega)) _ (by omega)).mono (by omega), fun _ _ e => ?_, ((B3.out.setCell (Nat.le_refl _) _).setCell (Nat.le_refl _) _).setCell (Nat.le_refl _) _⟩
      simp only [blk, Option.map_some, Option.some.injEq] at e
      omega
end Go.Proofs.Ythebegfceaehfaa
