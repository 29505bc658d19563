/- ExplicitFour of the specification. -/
import Derived.Test.YthebegfceaehfaaEx4L
import Derived.Test.YthebegfceaehfaaHold2
import Derived.StillTailTactics
import Derived.Deep.Cut
namespace Go.Proofs.Ythebegfceaehfaa
open Go.RowKit
attribute [local irreducible] M.powr

theorem three_blocks (w : World) (X1 X2 X3 : Obj) :
    (((w.drew.alloc X1).alloc X2).alloc X3).heap[w.heap.size]? = some X1 ∧ (((w.drew.alloc X1).alloc X2).alloc X3).heap[w.heap.size + 1]? = some X2 ∧ (((w.drew.alloc X1).alloc X2).alloc X3).heap[w.heap.size + 1 + 1]? = some X3 ∧ Below w.heap.size w (((w.drew.alloc X1).alloc X2).alloc X3) := by
  have e0 : w.drew.heap.size = w.heap.size := rfl
  have e2 : (w.drew.alloc X1).heap.size = w.heap.size + 1 := by simp
  have e1 : ((w.drew.alloc X1).alloc X2).heap.size = w.heap.size + 1 + 1 := by simp
  refine ⟨?_, ?_, ?_, (((Below.refl _ _).drew.alloc (Nat.le_of_eq e0.symm) _).alloc (by omega) _).alloc (by omega) _⟩
  · rw [heap_alloc_past _ _ _ (by omega), heap_alloc_past _ _ _ (by omega)]
    exact _root_.Go.heap_alloc_new w.drew X1
  · rw [heap_alloc_past _ _ _ (by omega), ← e2]
    exact _root_.Go.heap_alloc_new _ X2
  · rw [← e1]
    exact _root_.Go.heap_alloc_new _ X3
theorem g4_num {X Y : Int} (hX : M.num X) (hY : M.num Y) (i : Nat) : M.num (g4 X Y i) := by
  unfold g4
  split
  · exact hX
  · exact hY
theorem aug_m4_num {y2 y3 c2 c3 : Int} (h2 : y2 = (ex4B c2 c3).getD 2 0) (h3 : y3 = (ex4B c2 c3).getD 3 0) (hd : Dif [0, c2, c3, 1] 4) (i j : Nat) : M.num (m4 y2 y3 c2 c3 i j) := by
  have hb : ∀ i, i < 4 → M.num ((ex4B c2 c3).getD i 0) := fun i hi => by
    refine solL_num (n := 4) (fun i j _ _ => pwM_num _ i j) (fun i _ => rgt_num 1 i) (pw_ker _ hd) _ ?_
    rw [List.getD_eq_getElem?_getD, List.getElem?_eq_getElem (show i < (ex4B c2 c3).length by unfold ex4B; rw [wtL_len]; exact hi)]
    exact List.getElem_mem _
  unfold m4
  split
  · split
    · rw [h2]; exact hb 2 (by omega)
    · rw [h3]; exact hb 3 (by omega)
  · split <;> exact M.num_times _ _
/-- The two rows, as they lie. -/
theorem rm_two {w : World} {b bA bB : Nat} {y2 y3 c2 c3 : Int} (h2 : I64 y2) (h3 : I64 y3)
    (hA : w.heap[bA]? = some (.cells #[.int .i64 y2, .int .i64 y3] 3 (0, 0))) (hB : w.heap[bB]? = some (.cells #[.int .i64 (M.times y2 (M.times c3 c2)), .int .i64 (M.times y3 c2)] 3 (0, 0)))
    (h : w.heap[b]? = some (.cells #[.slice (some ⟨bA, 0, none⟩) 2 2, .slice (some ⟨bB, 0, none⟩) 2 2] 22 (0, 0))) : Rm w b 2 (m4 y2 y3 c2 c3) := by
  intro i hi
  match i, hi with
  | 0, _ =>
    refine ⟨_, _, by rw [cell_of_row w b 0 _ _ _ h]; rfl, ?_⟩
    have hx := (Bi.fr (lo := 0) (n := 2) (xs := [y2, y3]) hA (Nat.zero_le _) rfl (by decide) (by
      intro x hx
      simp only [List.mem_cons, List.not_mem_nil, or_false] at hx
      rcases hx with rfl | rfl
      · exact h2
      · exact h3)).rd
    exact hx
  | 1, _ =>
    refine ⟨_, _, by rw [cell_of_row w b 1 _ _ _ h]; rfl, ?_⟩
    have hx := (Bi.fr (lo := 0) (n := 2) (xs := [M.times y2 (M.times c3 c2), M.times y3 c2]) hB (Nat.zero_le _) rfl (by decide) (by
      intro x hx
      simp only [List.mem_cons, List.not_mem_nil, or_false] at hx
      rcases hx with rfl | rfl <;> exact I64.num (M.num_times _ _))).rd
    exact hx
set_option maxRecDepth 20000 in
set_option maxHeartbeats 8000000 in
theorem spec_ExplicitFour (c2 c3 : Int) (w : World) (hx2 : I64 c2) (hx3 : I64 c3) {rs : Int} {rA rB : List Int} {rb : Bool} (hr : ex4V c2 c3 = ⟨rs, rA, rB, rb⟩) :
    Calls Try.prog 25 #[.int .i64 c2, .int .i64 c3] w fun e w' => ∃ p n c q m' d', e = .returned (.tuple #[.agg #[.int .i64 rs, .slice p n c, .slice q m' d'], .bool rb]) ∧ NewT w w' rA rB p n c q m' d' := by
  have HXA := hid hx2
  have HXB := hid hx3
  have HRV := hid hr
  have RS0 := hid (bk_alloc (bk_new w #[.int .i64 0, .slice none 0 0, .slice none 0 0] 27) (.cells #[.int .i64 0, .int .i64 c2, .int .i64 c3, .int .i64 1] 3))
  have hlit := NewInts.lit (w.alloc (.cells #[.int .i64 0, .slice none 0 0, .slice none 0 0] 27)) [0, c2, c3, 1] #[.int .i64 0, .int .i64 c2, .int .i64 c3, .int .i64 1] 4 rfl rfl (by decide) (wf4 hx2 hx3)
  have B0 := hid (l_below (below_box w _) hlit.2)
  have hC0 := hlit.1.rd
  rw [World.size_alloc] at hC0
  have C0 := hid hC0
  have Y0 : Hid (w.heap.size + 1 < ((w.alloc (.cells #[.int .i64 0, .slice none 0 0, .slice none 0 0] 27)).alloc (.cells #[.int .i64 0, .int .i64 c2, .int .i64 c3, .int .i64 1] 3)).heap.size) := hid (by simp)
  clear hlit hx2 hx3 hr hC0
  go_enter Try.func25, Try.ntmps25
  go_wp2_with fail
  obtain ⟨W1, hW1⟩ : ∃ W1, W1 = (w.alloc (.cells #[.int .i64 0, .slice none 0 0, .slice none 0 0] 27)).alloc (.cells #[.int .i64 0, .int .i64 c2, .int .i64 c3, .int .i64 1] 3) := ⟨_, rfl⟩
  rw [← hW1] at RS0 B0 C0 Y0 ⊢
  clear hW1
  have hY0 := Y0.out
  refine (spec_l7Different _ _ _ _ _ C0.out).mono ?_
  cases hA : (ndB [0, c2, c3, 1] && M.allNum [0, c2, c3, 1]) with
  | false =>
    have HN := hid (ex4V_no (c2 := c2) (c3 := c3) (by unfold ex4Ok; rw [ok_four, Bool.and_comm (M.allNum _), hA]; rfl))
    clear hA
    rintro e w1 ⟨rfl, hB⟩
    have B1 := hid (l_below B0.out hB)
    have RS1 := hid (bk_below RS0.out hB)
    obtain ⟨⟨t0, t1, t2⟩, f0, f1, f2⟩ := blk3 RS1.out
    clear hB
    go_wp2_with fail
    have he := HRV.out
    rw [HN.out] at he
    cases he
    obtain ⟨e1, e2⟩ := none_end B1.out (Nat.le_refl _) RS1.out (.int .i64 0) (.slice none 0 0) (.slice none 0 0)
    exact ret_tabb rfl rfl rfl e1 rfl ⟨_, _, _, _, _, _, rfl, e2⟩
  | true =>
    have HO := hid (show colOk [0, c2, c3, 1] = true by rw [ok_four, Bool.and_comm (M.allNum _), hA])
    have HD := hid (colOk_dif (n := 4) rfl HO.out)
    clear hA
    rintro e w1 ⟨rfl, hB⟩
    have y1 := hB.size
    have B1 := hid (l_below B0.out hB)
    have RS1 := hid (bk_below RS0.out hB)
    have C1 := hid (C0.out.below hB)
    clear hB
    go_wp2_with fail
    refine (spec_l7Weights 1 _ 4 4 [0, c2, c3, 1] _ C1.out (by decide) (by decide) HD.out).mono ?_
    rintro e w2 ⟨aq, cq, rfl, hF, hB⟩
    have y2 := hB.size
    have B2 := hid (l_below B1.out hB)
    have RS2 := hid (bk_below RS1.out hB)
    have F2 := hid (show Fr w2 w1.heap.size aq 4 cq (ex4B c2 c3) from hF)
    clear hF hB
    obtain ⟨⟨t0, t1, t2⟩, f0, f1, f2⟩ := blk3 RS2.out
    obtain ⟨bq, oq, y1, rfl, u1, _, _, hy1⟩ := F2.out.rd.at (k := 1) (by omega)
    obtain ⟨bq', oq', y2, e', u2, i20, i21, hy2⟩ := F2.out.rd.at (k := 2) (by omega)
    cases e'
    obtain ⟨bq', oq', y3, e', u3, i30, i31, hy3⟩ := F2.out.rd.at (k := 3) (by omega)
    cases e'
    have hqb := F2.out.blkN_bd bq rfl
    have HB1 := hid hy1.out
    have HB2 := hid hy2.out
    have HB3 := hid hy3.out
    have I2 : Hid (I64 y2) := hid ⟨i20, i21⟩
    have I3 : Hid (I64 y3) := hid ⟨i30, i31⟩
    have hok4 : ex4Ok c2 c3 = !(decide (y2 = 0) || decide (y3 = 0)) := by unfold ex4Ok; rw [HO.out, ← hy2.out, ← hy3.out, Bool.true_and]
    clear hy1 hy2 hy3 i20 i21 i30 i31
    by_cases hz : y2 = 0 ∨ y3 = 0
    · have HN := hid (ex4V_no (c2 := c2) (c3 := c3) (by
        rw [hok4]
        rcases hz with h | h <;> simp [h]))
      clear hok4
      by_cases hz2 : y2 = 0
      · have hq : (y2 == 0) = true := beq_iff_eq.2 hz2
        clear hz hz2
        go_wp2_with fail
        have he := HRV.out
        rw [HN.out] at he
        cases he
        obtain ⟨e1, e2⟩ := none_end B2.out (Nat.le_refl _) RS2.out (.int .i64 0) (.slice none 0 0) (.slice none 0 0)
        exact ret_tabb rfl rfl rfl e1 rfl ⟨_, _, _, _, _, _, rfl, e2⟩
      · have hq : (y2 == 0) = false := beq_eq_false_iff_ne.2 hz2
        have hq3 : (y3 == 0) = true := beq_iff_eq.2 (hz.resolve_left hz2)
        clear hz hz2
        go_wp2_with fail
        have he := HRV.out
        rw [HN.out] at he
        cases he
        obtain ⟨e1, e2⟩ := none_end B2.out (Nat.le_refl _) RS2.out (.int .i64 0) (.slice none 0 0) (.slice none 0 0)
        exact ret_tabb rfl rfl rfl e1 rfl ⟨_, _, _, _, _, _, rfl, e2⟩
    · have hq : (y2 == 0) = false := beq_eq_false_iff_ne.2 (fun h => hz (.inl h))
      have hq3 : (y3 == 0) = false := beq_eq_false_iff_ne.2 (fun h => hz (.inr h))
      have hok : ex4Ok c2 c3 = true := by
        rw [hok4, decide_eq_false (fun h => hz (.inl h)), decide_eq_false (fun h => hz (.inr h))]; rfl
      have HV := hid (ex4V_yes hok)
      have HS := hid (ex4_sol hok)
      obtain ⟨n3, n4, n2, n1, b2, b3, _, _⟩ := ex4_facts hok
      have HNN := hid (And.intro n3 (And.intro n4 (And.intro n2 n1)))
      obtain ⟨b20, b21⟩ := b2
      obtain ⟨b30, b31⟩ := b3
      unfold M.P at b21 b31
      have hw2 : IntKind.i64.wrap (1 - c2) = 1 - c2 := IntWalk.i64_in _ ⟨by omega, by omega⟩
      have hw3 : IntKind.i64.wrap (1 - c3) = 1 - c3 := IntWalk.i64_in _ ⟨by omega, by omega⟩
      clear hok4 hz hok n3 n4 n2 n1
      go_wp2_with fail
      go_quiet ((first | (go_at_call 50; exact Calls.quiet_of_same ((spec_Times _ _ _).mono fun _ _ h => ⟨h.1, h.2.symm⟩)) | (go_at_call 60; exact Calls.quiet_of_same ((spec_Fraction _ _ _).mono fun _ _ h => ⟨h.1, h.2.symm⟩))))
      generalize hp : M.frac (M.times y2 (1 - c3)) y3 = pv
      have EP := hid (show pv = ex4p c2 c3 by rw [← hp, times_sub, HB2.out, HB3.out]; rfl)
      have IP : Hid (I64 pv) := hid (hp ▸ I64.num (M.num_frac _ _))
      clear hp
      generalize hW : w2.drewN _ = W3
      have hBd : Below w2.heap.size w2 W3 := hW ▸ Below.drewN' (Below.refl _ _) _
      have z3 := hBd.size
      have B3 := hid (l_below B2.out hBd)
      have RS3 := hid (bk_below RS2.out hBd)
      have F3 := hid (F2.out.below hBd)
      have v1 : W3.cell? ⟨bq, oq + 1, none⟩ = some (.int .i64 y1) := (hBd.cell (World.block_lt_of_cell? w2 _ u1)).trans u1
      have v2 : W3.cell? ⟨bq, oq + 2, none⟩ = some (.int .i64 y2) := (hBd.cell (World.block_lt_of_cell? w2 _ u2)).trans u2
      have v3 : W3.cell? ⟨bq, oq + 3, none⟩ = some (.int .i64 y3) := (hBd.cell (World.block_lt_of_cell? w2 _ u3)).trans u3
      clear t0 t1 t2 f0 f1 f2 u1 u2 u3 hW hBd
      have HU : Hid (∀ wc, Below W3.heap.size W3 wc → wc.cell? ⟨bq, oq + 1, none⟩ = some (.int .i64 y1) ∧ wc.cell? ⟨bq, oq + 2, none⟩ = some (.int .i64 y2) ∧ wc.cell? ⟨bq, oq + 3, none⟩ = some (.int .i64 y3)) := hid fun wc h => ⟨(h.cell (World.block_lt_of_cell? W3 _ v1)).trans v1, (h.cell (World.block_lt_of_cell? W3 _ v2)).trans v2, (h.cell (World.block_lt_of_cell? W3 _ v3)).trans v3⟩
      go_wp2_with fail
      go_cut [9] from 44 (fun sa wc => ∃ b : Nat, sa = .slice (some ⟨b, 0, none⟩) 2 2 ∧ Rm wc b 2 (m4 y2 y3 c2 c3) ∧ Below W3.heap.size W3 wc)
      case first =>
        have B0 := hid (show Below W3.heap.size W3 W3.drew from (Below.refl _ _).drew)
        refine (fun (HG : Rg _ _ 21) => wp_region_hh (S := fun w' => Below W3.heap.size W3 w') HG rfl ?_) ⟨by kernel_rfl, by decide, by kernel_rfl, by kernel_rfl, fun _ _ d _ _ h => by cases d <;> exact h⟩
        (refine hh_take 0 HG rfl (by decide) (by kernel_rfl) (by kernel_rfl) B0.out (fun K hK => ?_); refine take_val ?_ (by rfl) ?_ ?_; rotate_left 1; (focus (intro wc hC; skip; go_simp; try rfl)); go_simp; refine hK.out _ ?_; clear hK K)
        (refine hh_take 1 HG rfl (by decide) (by kernel_rfl) (by kernel_rfl) B0.out (fun K hK => ?_); refine take_val ?_ (by rfl) ?_ ?_; rotate_left 1; (focus (intro wc hC; skip; go_simp; try rfl)); go_simp; refine hK.out _ ?_; clear hK K)
        (refine hh_take 2 HG rfl (by decide) (by kernel_rfl) (by kernel_rfl) B0.out (fun K hK => ?_); refine take_val ?_ (by rfl) ?_ ?_; rotate_left 1; (focus (intro wc hC; obtain ⟨x1, x2, x3⟩ := HU.out wc hC; go_simp; try rfl)); go_simp; refine hK.out _ ?_; clear hK K)
        (refine hh_take 3 HG rfl (by decide) (by kernel_rfl) (by kernel_rfl) B0.out (fun K hK => ?_); refine take_val ?_ (by rfl) ?_ ?_; rotate_left 1; (focus (intro wc hC; skip; go_simp; try rfl)); go_simp; refine hK.out _ ?_; clear hK K)
        (refine hh_take 4 HG rfl (by decide) (by kernel_rfl) (by kernel_rfl) B0.out (fun K hK => ?_); refine take_val ?_ (by rfl) ?_ ?_; rotate_left 1; (focus (intro wc hC; skip; go_simp; try rfl)); go_simp; refine hK.out _ ?_; clear hK K)
        (refine hh_take 5 HG rfl (by decide) (by kernel_rfl) (by kernel_rfl) B0.out (fun K hK => ?_); refine take_val ?_ (by rfl) ?_ ?_; rotate_left 1; (focus (intro wc hC; obtain ⟨x1, x2, x3⟩ := HU.out wc hC; go_simp; try rfl)); go_simp; refine hK.out _ ?_; clear hK K)
        (refine hh_take 7 HG rfl (by decide) (by kernel_rfl) (by kernel_rfl) B0.out (fun K hK => ?_); refine take_val ?_ (by rfl) ?_ ?_; rotate_left 1; (focus (intro wc hC; skip; go_simp; try rfl)); go_simp; refine hK.out _ ?_; clear hK K)
        (refine hh_take 8 HG rfl (by decide) (by kernel_rfl) (by kernel_rfl) B0.out (fun K hK => ?_); refine take_val ?_ (by rfl) ?_ ?_; rotate_left 1; (focus (intro wc hC; skip; go_simp; try rfl)); go_simp; refine hK.out _ ?_; clear hK K)
        (refine hh_take 9 HG rfl (by decide) (by kernel_rfl) (by kernel_rfl) B0.out (fun K hK => ?_); refine take_val ?_ (by rfl) ?_ ?_; rotate_left 1; (focus (intro wc hC; obtain ⟨x1, x2, x3⟩ := HU.out wc hC; go_simp; try rfl)); go_simp; refine hK.out _ ?_; clear hK K)
        (refine hh_take 10 HG rfl (by decide) (by kernel_rfl) (by kernel_rfl) B0.out (fun K hK => ?_); refine take_val ?_ (by rfl) ?_ ?_; rotate_left 1; (focus (intro wc hC; skip; go_simp; try rfl)); go_simp; refine hK.out _ ?_; clear hK K)
        (refine hh_take 11 HG rfl (by decide) (by kernel_rfl) (by kernel_rfl) B0.out (fun K hK => ?_); refine take_val ?_ (by rfl) ?_ ?_; rotate_left 1; (focus (intro wc hC; skip; go_simp; try rfl)); go_simp; refine hK.out _ ?_; clear hK K)
        (refine hh_take 14 HG rfl (by decide) (by kernel_rfl) (by kernel_rfl) B0.out (fun K hK => ?_); refine take_val ?_ (by rfl) ?_ ?_; rotate_left 1; (focus (intro wc hC; skip; go_simp; try rfl)); go_simp; refine hK.out _ ?_; clear hK K)
        (refine hh_take 15 HG rfl (by decide) (by kernel_rfl) (by kernel_rfl) B0.out (fun K hK => ?_); refine take_val ?_ (by rfl) ?_ ?_; rotate_left 1; (focus (intro wc hC; skip; go_simp; try rfl)); go_simp; refine hK.out _ ?_; clear hK K)
        (refine hh_take 16 HG rfl (by decide) (by kernel_rfl) (by kernel_rfl) B0.out (fun K hK => ?_); refine take_val ?_ (by rfl) ?_ ?_; rotate_left 1; (focus (intro wc hC; obtain ⟨x1, x2, x3⟩ := HU.out wc hC; go_simp; try rfl)); go_simp; refine hK.out _ ?_; clear hK K)
        (refine hh_take 17 HG rfl (by decide) (by kernel_rfl) (by kernel_rfl) B0.out (fun K hK => ?_); refine take_val ?_ (by rfl) ?_ ?_; rotate_left 1; (focus (intro wc hC; skip; go_simp; try rfl)); go_simp; refine hK.out _ ?_; clear hK K)
        refine hh_two 6 12 rfl rfl (by decide) (by decide) (by kernel_rfl) (fun K hK => ?_) (fun K hK => ?_)
        · skip
          (refine mid_val ?_ ?_ (by rfl) ?_ ?_; rotate_left 2; (focus (go_simp; first | done | rfl | (refine And.intro ?_ ?_ <;> rfl))); go_simp; refine hK.out _ _ ?_ ?_ <;> clear hK K)
          · exact B0.out.alloc B0.out.size _
          have Bk1 := hid (show Below W3.heap.size W3 (W3.drew.alloc (.cells #[.int .i64 y2, .int .i64 y3] 3)) from B0.out.alloc B0.out.size _)
          refine hh_mid 12 rfl (by decide) (by kernel_rfl) (fun K hK => ?_)
          (refine mid_call ?_ ?_ (by rfl) ?_ ?_; rotate_left 2; (focus (go_simp; first | done | rfl | (refine And.intro ?_ ?_ <;> rfl))))
          refine (spec_Times c3 c2 _).mono ?_
          rintro e w' ⟨rfl, rfl⟩
          refine ⟨_, rfl, ?_⟩
          (go_simp; refine hK.out _ _ ?_ ?_ <;> clear hK K)
          · exact Bk1.out
          refine hh_mid 13 rfl (by decide) (by kernel_rfl) (fun K hK => ?_)
          (refine mid_call ?_ ?_ (by rfl) ?_ ?_; rotate_left 2; (focus (go_simp; first | done | rfl | (refine And.intro ?_ ?_ <;> rfl))))
          refine (spec_Times y2 _ _).mono ?_
          rintro e w' ⟨rfl, rfl⟩
          refine ⟨_, rfl, ?_⟩
          (go_simp; refine hK.out _ _ ?_ ?_ <;> clear hK K)
          · exact Bk1.out
          refine hh_mid 18 rfl (by decide) (by kernel_rfl) (fun K hK => ?_)
          (refine mid_call ?_ ?_ (by rfl) ?_ ?_; rotate_left 2; (focus (go_simp; first | done | rfl | (refine And.intro ?_ ?_ <;> rfl))))
          refine (spec_Times y3 c2 _).mono ?_
          rintro e w' ⟨rfl, rfl⟩
          refine ⟨_, rfl, ?_⟩
          (go_simp; refine hK.out _ _ ?_ ?_ <;> clear hK K)
          · exact Bk1.out
          refine hh_mid 19 rfl (by decide) (by kernel_rfl) (fun K hK => ?_)
          (refine mid_val ?_ ?_ (by rfl) ?_ ?_; rotate_left 2; (focus (go_simp; first | done | rfl | (refine And.intro ?_ ?_ <;> rfl))); go_simp; refine hK.out _ _ ?_ ?_ <;> clear hK K)
          · exact Bk1.out.alloc Bk1.out.size _
          have Bk2 := hid (show Below W3.heap.size W3 ((W3.drew.alloc (.cells #[.int .i64 y2, .int .i64 y3] 3)).alloc (.cells #[.int .i64 (M.times y2 (M.times c3 c2)), .int .i64 (M.times y3 c2)] 3)) from Bk1.out.alloc Bk1.out.size _)
          refine hh_mid 20 rfl (by decide) (by kernel_rfl) (fun K hK => ?_)
          (refine mid_val ?_ ?_ (by rfl) ?_ ?_; rotate_left 2; (focus (go_simp; first | done | rfl | (refine And.intro ?_ ?_ <;> rfl))); go_simp; refine hK.out _ _ ?_ ?_ <;> clear hK K)
          · exact Bk2.out.alloc Bk2.out.size _
          have Bk3 := hid (show Below W3.heap.size W3 (((W3.drew.alloc (.cells #[.int .i64 y2, .int .i64 y3] 3)).alloc (.cells #[.int .i64 (M.times y2 (M.times c3 c2)), .int .i64 (M.times y3 c2)] 3)).alloc (.cells #[.slice (some ⟨W3.heap.size, 0, none⟩) 2 2, .slice (some ⟨W3.heap.size + 1, 0, none⟩) 2 2] 22)) from Bk2.out.alloc Bk2.out.size _)
          refine hh_done (by kernel_rfl) ?_
          simp only [List.drop_succ_cons, List.drop_zero]
          change wpList _ _ _ _ _ _
          go_wp2_with fail
          go_meet
          obtain ⟨k1, k2, k3, k4⟩ := three_blocks W3 (.cells #[.int .i64 y2, .int .i64 y3] 3) (.cells #[.int .i64 (M.times y2 (M.times c3 c2)), .int .i64 (M.times y3 c2)] 3) (.cells #[.slice (some ⟨W3.heap.size, 0, none⟩) 2 2, .slice (some ⟨W3.heap.size + 1, 0, none⟩) 2 2] 22)
          exact ⟨_, rfl, rm_two I2.out I3.out k1 k2 k3, k4⟩
        · skip
          (refine mid_call ?_ ?_ (by rfl) ?_ ?_; rotate_left 2; (focus (go_simp; first | done | rfl | (refine And.intro ?_ ?_ <;> rfl))))
          refine (spec_Times c3 c2 _).mono ?_
          rintro e w' ⟨rfl, rfl⟩
          refine ⟨_, rfl, ?_⟩
          (go_simp; refine hK.out _ _ ?_ ?_ <;> clear hK K)
          · exact B0.out
          refine hh_two 6 13 rfl rfl (by decide) (by decide) (by kernel_rfl) (fun K hK => ?_) (fun K hK => ?_)
          · skip
            (refine mid_val ?_ ?_ (by rfl) ?_ ?_; rotate_left 2; (focus (go_simp; first | done | rfl | (refine And.intro ?_ ?_ <;> rfl))); go_simp; refine hK.out _ _ ?_ ?_ <;> clear hK K)
            · exact B0.out.alloc B0.out.size _
            have Bk4 := hid (show Below W3.heap.size W3 (W3.drew.alloc (.cells #[.int .i64 y2, .int .i64 y3] 3)) from B0.out.alloc B0.out.size _)
            refine hh_mid 13 rfl (by decide) (by kernel_rfl) (fun K hK => ?_)
            (refine mid_call ?_ ?_ (by rfl) ?_ ?_; rotate_left 2; (focus (go_simp; first | done | rfl | (refine And.intro ?_ ?_ <;> rfl))))
            refine (spec_Times y2 _ _).mono ?_
            rintro e w' ⟨rfl, rfl⟩
            refine ⟨_, rfl, ?_⟩
            (go_simp; refine hK.out _ _ ?_ ?_ <;> clear hK K)
            · exact Bk4.out
            refine hh_mid 18 rfl (by decide) (by kernel_rfl) (fun K hK => ?_)
            (refine mid_call ?_ ?_ (by rfl) ?_ ?_; rotate_left 2; (focus (go_simp; first | done | rfl | (refine And.intro ?_ ?_ <;> rfl))))
            refine (spec_Times y3 c2 _).mono ?_
            rintro e w' ⟨rfl, rfl⟩
            refine ⟨_, rfl, ?_⟩
            (go_simp; refine hK.out _ _ ?_ ?_ <;> clear hK K)
            · exact Bk4.out
            refine hh_mid 19 rfl (by decide) (by kernel_rfl) (fun K hK => ?_)
            (refine mid_val ?_ ?_ (by rfl) ?_ ?_; rotate_left 2; (focus (go_simp; first | done | rfl | (refine And.intro ?_ ?_ <;> rfl))); go_simp; refine hK.out _ _ ?_ ?_ <;> clear hK K)
            · exact Bk4.out.alloc Bk4.out.size _
            have Bk5 := hid (show Below W3.heap.size W3 ((W3.drew.alloc (.cells #[.int .i64 y2, .int .i64 y3] 3)).alloc (.cells #[.int .i64 (M.times y2 (M.times c3 c2)), .int .i64 (M.times y3 c2)] 3)) from Bk4.out.alloc Bk4.out.size _)
            refine hh_mid 20 rfl (by decide) (by kernel_rfl) (fun K hK => ?_)
            (refine mid_val ?_ ?_ (by rfl) ?_ ?_; rotate_left 2; (focus (go_simp; first | done | rfl | (refine And.intro ?_ ?_ <;> rfl))); go_simp; refine hK.out _ _ ?_ ?_ <;> clear hK K)
            · exact Bk5.out.alloc Bk5.out.size _
            have Bk6 := hid (show Below W3.heap.size W3 (((W3.drew.alloc (.cells #[.int .i64 y2, .int .i64 y3] 3)).alloc (.cells #[.int .i64 (M.times y2 (M.times c3 c2)), .int .i64 (M.times y3 c2)] 3)).alloc (.cells #[.slice (some ⟨W3.heap.size, 0, none⟩) 2 2, .slice (some ⟨W3.heap.size + 1, 0, none⟩) 2 2] 22)) from Bk5.out.alloc Bk5.out.size _)
            refine hh_done (by kernel_rfl) ?_
            simp only [List.drop_succ_cons, List.drop_zero]
            change wpList _ _ _ _ _ _
            go_wp2_with fail
            go_meet
            obtain ⟨k1, k2, k3, k4⟩ := three_blocks W3 (.cells #[.int .i64 y2, .int .i64 y3] 3) (.cells #[.int .i64 (M.times y2 (M.times c3 c2)), .int .i64 (M.times y3 c2)] 3) (.cells #[.slice (some ⟨W3.heap.size, 0, none⟩) 2 2, .slice (some ⟨W3.heap.size + 1, 0, none⟩) 2 2] 22)
            exact ⟨_, rfl, rm_two I2.out I3.out k1 k2 k3, k4⟩
          · skip
            (refine mid_call ?_ ?_ (by rfl) ?_ ?_; rotate_left 2; (focus (go_simp; first | done | rfl | (refine And.intro ?_ ?_ <;> rfl))))
            refine (spec_Times y2 _ _).mono ?_
            rintro e w' ⟨rfl, rfl⟩
            refine ⟨_, rfl, ?_⟩
            (go_simp; refine hK.out _ _ ?_ ?_ <;> clear hK K)
            · exact B0.out
            refine hh_two 6 18 rfl rfl (by decide) (by decide) (by kernel_rfl) (fun K hK => ?_) (fun K hK => ?_)
            · skip
              (refine mid_val ?_ ?_ (by rfl) ?_ ?_; rotate_left 2; (focus (go_simp; first | done | rfl | (refine And.intro ?_ ?_ <;> rfl))); go_simp; refine hK.out _ _ ?_ ?_ <;> clear hK K)
              · exact B0.out.alloc B0.out.size _
              have Bk7 := hid (show Below W3.heap.size W3 (W3.drew.alloc (.cells #[.int .i64 y2, .int .i64 y3] 3)) from B0.out.alloc B0.out.size _)
              refine hh_mid 18 rfl (by decide) (by kernel_rfl) (fun K hK => ?_)
              (refine mid_call ?_ ?_ (by rfl) ?_ ?_; rotate_left 2; (focus (go_simp; first | done | rfl | (refine And.intro ?_ ?_ <;> rfl))))
              refine (spec_Times y3 c2 _).mono ?_
              rintro e w' ⟨rfl, rfl⟩
              refine ⟨_, rfl, ?_⟩
              (go_simp; refine hK.out _ _ ?_ ?_ <;> clear hK K)
              · exact Bk7.out
              refine hh_mid 19 rfl (by decide) (by kernel_rfl) (fun K hK => ?_)
              (refine mid_val ?_ ?_ (by rfl) ?_ ?_; rotate_left 2; (focus (go_simp; first | done | rfl | (refine And.intro ?_ ?_ <;> rfl))); go_simp; refine hK.out _ _ ?_ ?_ <;> clear hK K)
              · exact Bk7.out.alloc Bk7.out.size _
              have Bk8 := hid (show Below W3.heap.size W3 ((W3.drew.alloc (.cells #[.int .i64 y2, .int .i64 y3] 3)).alloc (.cells #[.int .i64 (M.times y2 (M.times c3 c2)), .int .i64 (M.times y3 c2)] 3)) from Bk7.out.alloc Bk7.out.size _)
              refine hh_mid 20 rfl (by decide) (by kernel_rfl) (fun K hK => ?_)
              (refine mid_val ?_ ?_ (by rfl) ?_ ?_; rotate_left 2; (focus (go_simp; first | done | rfl | (refine And.intro ?_ ?_ <;> rfl))); go_simp; refine hK.out _ _ ?_ ?_ <;> clear hK K)
              · exact Bk8.out.alloc Bk8.out.size _
              have Bk9 := hid (show Below W3.heap.size W3 (((W3.drew.alloc (.cells #[.int .i64 y2, .int .i64 y3] 3)).alloc (.cells #[.int .i64 (M.times y2 (M.times c3 c2)), .int .i64 (M.times y3 c2)] 3)).alloc (.cells #[.slice (some ⟨W3.heap.size, 0, none⟩) 2 2, .slice (some ⟨W3.heap.size + 1, 0, none⟩) 2 2] 22)) from Bk8.out.alloc Bk8.out.size _)
              refine hh_done (by kernel_rfl) ?_
              simp only [List.drop_succ_cons, List.drop_zero]
              change wpList _ _ _ _ _ _
              go_wp2_with fail
              go_meet
              obtain ⟨k1, k2, k3, k4⟩ := three_blocks W3 (.cells #[.int .i64 y2, .int .i64 y3] 3) (.cells #[.int .i64 (M.times y2 (M.times c3 c2)), .int .i64 (M.times y3 c2)] 3) (.cells #[.slice (some ⟨W3.heap.size, 0, none⟩) 2 2, .slice (some ⟨W3.heap.size + 1, 0, none⟩) 2 2] 22)
              exact ⟨_, rfl, rm_two I2.out I3.out k1 k2 k3, k4⟩
            · skip
              (refine mid_call ?_ ?_ (by rfl) ?_ ?_; rotate_left 2; (focus (go_simp; first | done | rfl | (refine And.intro ?_ ?_ <;> rfl))))
              refine (spec_Times y3 c2 _).mono ?_
              rintro e w' ⟨rfl, rfl⟩
              refine ⟨_, rfl, ?_⟩
              (go_simp; refine hK.out _ _ ?_ ?_ <;> clear hK K)
              · exact B0.out
              refine hh_two 6 19 rfl rfl (by decide) (by decide) (by kernel_rfl) (fun K hK => ?_) (fun K hK => ?_)
              · skip
                (refine mid_val ?_ ?_ (by rfl) ?_ ?_; rotate_left 2; (focus (go_simp; first | done | rfl | (refine And.intro ?_ ?_ <;> rfl))); go_simp; refine hK.out _ _ ?_ ?_ <;> clear hK K)
                · exact B0.out.alloc B0.out.size _
                have Bk10 := hid (show Below W3.heap.size W3 (W3.drew.alloc (.cells #[.int .i64 y2, .int .i64 y3] 3)) from B0.out.alloc B0.out.size _)
                refine hh_mid 19 rfl (by decide) (by kernel_rfl) (fun K hK => ?_)
                (refine mid_val ?_ ?_ (by rfl) ?_ ?_; rotate_left 2; (focus (go_simp; first | done | rfl | (refine And.intro ?_ ?_ <;> rfl))); go_simp; refine hK.out _ _ ?_ ?_ <;> clear hK K)
                · exact Bk10.out.alloc Bk10.out.size _
                have Bk11 := hid (show Below W3.heap.size W3 ((W3.drew.alloc (.cells #[.int .i64 y2, .int .i64 y3] 3)).alloc (.cells #[.int .i64 (M.times y2 (M.times c3 c2)), .int .i64 (M.times y3 c2)] 3)) from Bk10.out.alloc Bk10.out.size _)
                refine hh_mid 20 rfl (by decide) (by kernel_rfl) (fun K hK => ?_)
                (refine mid_val ?_ ?_ (by rfl) ?_ ?_; rotate_left 2; (focus (go_simp; first | done | rfl | (refine And.intro ?_ ?_ <;> rfl))); go_simp; refine hK.out _ _ ?_ ?_ <;> clear hK K)
                · exact Bk11.out.alloc Bk11.out.size _
                have Bk12 := hid (show Below W3.heap.size W3 (((W3.drew.alloc (.cells #[.int .i64 y2, .int .i64 y3] 3)).alloc (.cells #[.int .i64 (M.times y2 (M.times c3 c2)), .int .i64 (M.times y3 c2)] 3)).alloc (.cells #[.slice (some ⟨W3.heap.size, 0, none⟩) 2 2, .slice (some ⟨W3.heap.size + 1, 0, none⟩) 2 2] 22)) from Bk11.out.alloc Bk11.out.size _)
                refine hh_done (by kernel_rfl) ?_
                simp only [List.drop_succ_cons, List.drop_zero]
                change wpList _ _ _ _ _ _
                go_wp2_with fail
                go_meet
                obtain ⟨k1, k2, k3, k4⟩ := three_blocks W3 (.cells #[.int .i64 y2, .int .i64 y3] 3) (.cells #[.int .i64 (M.times y2 (M.times c3 c2)), .int .i64 (M.times y3 c2)] 3) (.cells #[.slice (some ⟨W3.heap.size, 0, none⟩) 2 2, .slice (some ⟨W3.heap.size + 1, 0, none⟩) 2 2] 22)
                exact ⟨_, rfl, rm_two I2.out I3.out k1 k2 k3, k4⟩
              · skip
                (refine mid_val ?_ ?_ (by rfl) ?_ ?_; rotate_left 2; (focus (go_simp; first | done | rfl | (refine And.intro ?_ ?_ <;> rfl))); go_simp; refine hK.out _ _ ?_ ?_ <;> clear hK K)
                · exact B0.out.alloc B0.out.size _
                have Bk13 := hid (show Below W3.heap.size W3 (W3.drew.alloc (.cells #[.int .i64 (M.times y2 (M.times c3 c2)), .int .i64 (M.times y3 c2)] 3)) from B0.out.alloc B0.out.size _)
                refine hh_mid 6 rfl (by decide) (by kernel_rfl) (fun K hK => ?_)
                (refine mid_val ?_ ?_ (by rfl) ?_ ?_; rotate_left 2; (focus (go_simp; first | done | rfl | (refine And.intro ?_ ?_ <;> rfl))); go_simp; refine hK.out _ _ ?_ ?_ <;> clear hK K)
                · exact Bk13.out.alloc Bk13.out.size _
                have Bk14 := hid (show Below W3.heap.size W3 ((W3.drew.alloc (.cells #[.int .i64 (M.times y2 (M.times c3 c2)), .int .i64 (M.times y3 c2)] 3)).alloc (.cells #[.int .i64 y2, .int .i64 y3] 3)) from Bk13.out.alloc Bk13.out.size _)
                refine hh_mid 20 rfl (by decide) (by kernel_rfl) (fun K hK => ?_)
                (refine mid_val ?_ ?_ (by rfl) ?_ ?_; rotate_left 2; (focus (go_simp; first | done | rfl | (refine And.intro ?_ ?_ <;> rfl))); go_simp; refine hK.out _ _ ?_ ?_ <;> clear hK K)
                · exact Bk14.out.alloc Bk14.out.size _
                have Bk15 := hid (show Below W3.heap.size W3 (((W3.drew.alloc (.cells #[.int .i64 (M.times y2 (M.times c3 c2)), .int .i64 (M.times y3 c2)] 3)).alloc (.cells #[.int .i64 y2, .int .i64 y3] 3)).alloc (.cells #[.slice (some ⟨W3.heap.size + 1, 0, none⟩) 2 2, .slice (some ⟨W3.heap.size, 0, none⟩) 2 2] 22)) from Bk14.out.alloc Bk14.out.size _)
                refine hh_done (by kernel_rfl) ?_
                simp only [List.drop_succ_cons, List.drop_zero]
                change wpList _ _ _ _ _ _
                go_wp2_with fail
                go_meet
                obtain ⟨k1, k2, k3, k4⟩ := three_blocks W3 (.cells #[.int .i64 (M.times y2 (M.times c3 c2)), .int .i64 (M.times y3 c2)] 3) (.cells #[.int .i64 y2, .int .i64 y3] 3) (.cells #[.slice (some ⟨W3.heap.size + 1, 0, none⟩) 2 2, .slice (some ⟨W3.heap.size, 0, none⟩) 2 2] 22)
                exact ⟨_, rfl, rm_two I2.out I3.out k2 k1 k3, k4⟩
      case rest =>
        obtain ⟨W4, rfl⟩ : ∃ W4 : World, W4 = wc := ⟨_, rfl⟩
        obtain ⟨bm, rfl, hRM, hB4⟩ := hcut
        have z4 := hB4.size
        have B4 := hid (l_below B3.out hB4)
        have RS4 := hid (bk_below RS3.out hB4)
        have F4 := hid (F3.out.below hB4)
        obtain ⟨x1, x2, x3⟩ := HU.out _ hB4
        have RM := hid hRM
        clear v1 v2 v3 HU hRM hB4
        go_wp2_with fail
        refine wp_region_still_tail 15 (by kernel_rfl) (by kernel_rfl) ?_
        simp only [List.take_succ_cons, List.take_zero, List.drop_succ_cons, List.drop_zero]
        repeat still_step
        still_call ((spec_Times _ _ _).mono fun _ _ h => ⟨h.1, h.2.symm⟩)
        still_call ((spec_Inverse _ _).mono fun _ _ h => ⟨h.1, h.2.symm⟩)
        repeat still_step
        still_call ((spec_Times _ _ _).mono fun _ _ h => ⟨h.1, h.2.symm⟩)
        still_call ((spec_Times _ _ _).mono fun _ _ h => ⟨h.1, h.2.symm⟩)
        still_call ((spec_Minus _ _ _).mono fun _ _ h => ⟨h.1, h.2.symm⟩)
        refine wpStill_nil ?_
        change wpList _ _ _ _ _ W4.drew
        generalize hX : M.times y1 (1 - c2) = X
        generalize hY : M.minus (M.inv 8) (M.times y3 (M.times pv c3)) = Y
        have EX := hid (show X = ex4x c2 c3 by rw [← hX, times_sub, HB1.out]; rfl)
        have EY := hid (show Y = ex4y c2 c3 by rw [← hY, HB3.out, EP.out]; rfl)
        have hnX : M.num X := hX ▸ M.num_times _ _
        have hnY : M.num Y := hY ▸ M.num_minus _ _
        have NX := hid hnX
        have NY := hid hnY
        have hli := NewInts.lit W4.drew [X, Y] #[.int .i64 X, .int .i64 Y] 2 rfl rfl (by decide) (by
          intro x hx
          simp only [List.mem_cons, List.not_mem_nil, or_false] at hx
          rcases hx with rfl | rfl
          · exact I64.num hnX
          · exact I64.num hnY)
        have LI := hid hli
        have BD := hid (show Below W4.heap.size W4 (W4.drew.alloc (.cells #[.int .i64 X, .int .i64 Y] 3)) from (Below.refl _ _).drew.trans LI.out.2)
        clear hX hY hnX hnY hli x1 x2 x3
        go_wp2_with fail
        refine (spec_SolveSystem 2 bm 2 (m4 y2 y3 c2 c3) _ 2 (g4 X Y) _ (RM.out.below BD.out) (by decide) (by decide) (fun i j hi hj => aug_m4_num HB2.out HB3.out HD.out i j) LI.out.1.rd (fun i _ => g4_num NX.out NY.out i) (by
          obtain ⟨n3, n4, n2, n1⟩ := HNN.out
          rw [← HB2.out] at n3
          rw [← HB3.out] at n4
          exact ker4 n3 n4 n2 n1)).mono ?_
        rintro e W5 ⟨ax, cx, rfl, hF5, hB5⟩
        have hsol : solL (m4 y2 y3 c2 c3) (g4 X Y) 2 = [ex4q c2 c3, ex4r c2 c3] := by
          rw [HB2.out, HB3.out, EX.out, EY.out]; exact HS.out
        rw [hsol] at hF5
        have z5 := hB5.size
        simp only [World.size_alloc] at z5
        have z5' : W4.heap.size ≤ W5.heap.size := Nat.le_trans (Nat.le_succ _) z5
        have B5 := hid (l_below (l_below B4.out BD.out) hB5)
        have RS5 := hid (bk_below (bk_below RS4.out BD.out) hB5)
        have F5 := hid ((F4.out.below BD.out).below hB5)
        obtain ⟨bx, ox, s0, rfl, w0, _, _, hs0⟩ := hF5.rd.at (k := 0) (by omega)
        obtain ⟨bx', ox', s1, e', w1', _, _, hs1⟩ := hF5.rd.at (k := 1) (by omega)
        cases e'
        have ES0 := hid (show s0 = ex4q c2 c3 from hs0.out)
        have ES1 := hid (show s1 = ex4r c2 c3 from hs1.out)
        rw [Nat.add_zero] at w0
        have HU5 : Hid (∀ wc, Below W5.heap.size W5 wc → wc.cell? ⟨bx, ox, none⟩ = some (.int .i64 s0) ∧ wc.cell? ⟨bx, ox + 1, none⟩ = some (.int .i64 s1)) := hid fun wc h => ⟨(h.cell (World.block_lt_of_cell? W5 _ w0)).trans w0, (h.cell (World.block_lt_of_cell? W5 _ w1')).trans w1'⟩
        clear hF5 hB5 hs0 hs1 hsol
        go_wp2_with ((go_at_call 62; refine (spec_Plus _ _ _).mono ?_; rintro e w' ⟨rfl, rfl⟩))
        refine (spec_Minus _ _ _).mono ?_
        generalize hv : M.minus 1 (M.plus s1 pv) = vv
        have EV := hid (show vv = M.minus 1 (M.plus (ex4r c2 c3) (ex4p c2 c3)) by rw [← hv, ES1.out, EP.out])
        clear hv
        rintro e w' ⟨rfl, rfl⟩
        go_wp2_with fail
        have B0 := hid (show Below W5.heap.size W5 W5.drew from (Below.refl _ _).drew)
        refine (fun (HG : Rg _ _ 17) => wp_region_hh (S := fun w' => Below W5.heap.size W5 w') HG rfl ?_) ⟨by kernel_rfl, by decide, by kernel_rfl, by kernel_rfl, fun _ _ d _ _ h => by cases d <;> exact h⟩
        (refine hh_take 0 HG rfl (by decide) (by kernel_rfl) (by kernel_rfl) B0.out (fun K hK => ?_); refine take_val ?_ (by rfl) ?_ ?_; rotate_left 1; (focus (intro wc hC; skip; go_simp; try rfl)); go_simp; refine hK.out _ ?_; clear hK K)
        (refine hh_take 1 HG rfl (by decide) (by kernel_rfl) (by kernel_rfl) B0.out (fun K hK => ?_); refine take_val ?_ (by rfl) ?_ ?_; rotate_left 1; (focus (intro wc hC; skip; go_simp; try rfl)); go_simp; refine hK.out _ ?_; clear hK K)
        (refine hh_take 2 HG rfl (by decide) (by kernel_rfl) (by kernel_rfl) B0.out (fun K hK => ?_); refine take_val ?_ (by rfl) ?_ ?_; rotate_left 1; (focus (intro wc hC; skip; go_simp; try rfl)); go_simp; refine hK.out _ ?_; clear hK K)
        (refine hh_take 3 HG rfl (by decide) (by kernel_rfl) (by kernel_rfl) B0.out (fun K hK => ?_); refine take_val ?_ (by rfl) ?_ ?_; rotate_left 1; (focus (intro wc hC; skip; go_simp; try rfl)); go_simp; refine hK.out _ ?_; clear hK K)
        (refine hh_take 4 HG rfl (by decide) (by kernel_rfl) (by kernel_rfl) B0.out (fun K hK => ?_); refine take_val ?_ (by rfl) ?_ ?_; rotate_left 1; (focus (intro wc hC; obtain ⟨a0, a1⟩ := HU5.out wc hC; go_simp; try rfl)); go_simp; refine hK.out _ ?_; clear hK K)
        (refine hh_take 6 HG rfl (by decide) (by kernel_rfl) (by kernel_rfl) B0.out (fun K hK => ?_); refine take_val ?_ (by rfl) ?_ ?_; rotate_left 1; (focus (intro wc hC; skip; go_simp; try rfl)); go_simp; refine hK.out _ ?_; clear hK K)
        (refine hh_take 7 HG rfl (by decide) (by kernel_rfl) (by kernel_rfl) B0.out (fun K hK => ?_); refine take_val ?_ (by rfl) ?_ ?_; rotate_left 1; (focus (intro wc hC; skip; go_simp; try rfl)); go_simp; refine hK.out _ ?_; clear hK K)
        (refine hh_take 8 HG rfl (by decide) (by kernel_rfl) (by kernel_rfl) B0.out (fun K hK => ?_); refine take_val ?_ (by rfl) ?_ ?_; rotate_left 1; (focus (intro wc hC; obtain ⟨a0, a1⟩ := HU5.out wc hC; go_simp; try rfl)); go_simp; refine hK.out _ ?_; clear hK K)
        (refine hh_take 9 HG rfl (by decide) (by kernel_rfl) (by kernel_rfl) B0.out (fun K hK => ?_); refine take_val ?_ (by rfl) ?_ ?_; rotate_left 1; (focus (intro wc hC; skip; go_simp; try rfl)); go_simp; refine hK.out _ ?_; clear hK K)
        (refine hh_take 10 HG rfl (by decide) (by kernel_rfl) (by kernel_rfl) B0.out (fun K hK => ?_); refine take_val ?_ (by rfl) ?_ ?_; rotate_left 1; (focus (intro wc hC; skip; go_simp; try rfl)); go_simp; refine hK.out _ ?_; clear hK K)
        (refine hh_take 11 HG rfl (by decide) (by kernel_rfl) (by kernel_rfl) B0.out (fun K hK => ?_); refine take_val ?_ (by rfl) ?_ ?_; rotate_left 1; (focus (intro wc hC; skip; go_simp; try rfl)); go_simp; refine hK.out _ ?_; clear hK K)
        (refine hh_take 12 HG rfl (by decide) (by kernel_rfl) (by kernel_rfl) B0.out (fun K hK => ?_); refine take_val ?_ (by rfl) ?_ ?_; rotate_left 1; (focus (intro wc hC; obtain ⟨a0, a1⟩ := HU5.out wc hC; go_simp; try rfl)); go_simp; refine hK.out _ ?_; clear hK K)
        (refine hh_take 13 HG rfl (by decide) (by kernel_rfl) (by kernel_rfl) B0.out (fun K hK => ?_); refine take_val ?_ (by rfl) ?_ ?_; rotate_left 1; (focus (intro wc hC; skip; go_simp; try rfl)); go_simp; refine hK.out _ ?_; clear hK K)
        (refine hh_take 15 HG rfl (by decide) (by kernel_rfl) (by kernel_rfl) B0.out (fun K hK => ?_); refine take_val ?_ (by rfl) ?_ ?_; rotate_left 1; (focus (intro wc hC; skip; go_simp; try rfl)); go_simp; refine hK.out _ ?_; clear hK K)
        refine hh_mid 5 rfl (by decide) (by kernel_rfl) (fun K hK => ?_)
        (refine mid_call ?_ ?_ (by rfl) ?_ ?_; rotate_left 2; (focus (go_simp; first | done | rfl | (refine And.intro ?_ ?_ <;> rfl))))
        refine (spec_Minus c3 s0 _).mono ?_
        generalize hu : M.minus c3 s0 = uv
        have EU := hid (show uv = M.minus c3 (ex4q c2 c3) by rw [← hu, ES0.out])
        clear hu
        rintro e w' ⟨rfl, rfl⟩
        refine ⟨_, rfl, ?_⟩
        (go_simp; refine hK.out _ _ ?_ ?_ <;> clear hK K)
        · exact B0.out
        refine hh_mid 14 rfl (by decide) (by kernel_rfl) (fun K hK => ?_)
        (refine mid_val ?_ ?_ (by rfl) ?_ ?_; rotate_left 2; (focus (go_simp; first | done | rfl | (refine And.intro ?_ ?_ <;> rfl))); go_simp; refine hK.out _ _ ?_ ?_ <;> clear hK K)
        · exact B0.out.alloc B0.out.size _
        have hXA : [0, 0, 0, 0, c2, 0, 0, 0, uv, s0, 0, 0, vv, s1, pv, 0] = ex4A c2 c3 := by
          rw [EU.out, EV.out, ES0.out, ES1.out, EP.out]; rfl
        have hli := NewInts.lit W5 (ex4A c2 c3) #[.int .i64 0, .int .i64 0, .int .i64 0, .int .i64 0, .int .i64 c2, .int .i64 0, .int .i64 0, .int .i64 0, .int .i64 uv, .int .i64 s0, .int .i64 0, .int .i64 0, .int .i64 vv, .int .i64 s1, .int .i64 pv, .int .i64 0] 16 (by rw [← hXA]; rfl) rfl (by decide) (ex4_wf HXA.out)
        have HL := hid (hli.1.below ((Below.refl _ _).drew))
        have B6 := hid (show Below W5.heap.size W5 (W5.alloc (.cells #[.int .i64 0, .int .i64 0, .int .i64 0, .int .i64 0, .int .i64 c2, .int .i64 0, .int .i64 0, .int .i64 0, .int .i64 uv, .int .i64 s0, .int .i64 0, .int .i64 0, .int .i64 vv, .int .i64 s1, .int .i64 pv, .int .i64 0] 3)).drew from hli.2.drew)
        have B6' := hid (show Below W5.heap.size W5 (W5.drew.alloc (.cells #[.int .i64 0, .int .i64 0, .int .i64 0, .int .i64 0, .int .i64 c2, .int .i64 0, .int .i64 0, .int .i64 0, .int .i64 uv, .int .i64 s0, .int .i64 0, .int .i64 0, .int .i64 vv, .int .i64 s1, .int .i64 pv, .int .i64 0] 3)) from B0.out.alloc B0.out.size _)
        have R6 := hid (bk_below RS5.out B6.out)
        have L6 := hid (l_below B5.out B6.out)
        have F6 := hid (F5.out.below B6.out)
        have hR : (W5.alloc (.cells #[.int .i64 0, .int .i64 0, .int .i64 0, .int .i64 0, .int .i64 c2, .int .i64 0, .int .i64 0, .int .i64 0, .int .i64 uv, .int .i64 s0, .int .i64 0, .int .i64 0, .int .i64 vv, .int .i64 s1, .int .i64 pv, .int .i64 0] 3)).heap[w.heap.size]? = some (.cells #[.int .i64 0, .slice none 0 0, .slice none 0 0] 27 (0, 0)) := R6.out
        clear hli hXA
        (refine hh_take 16 HG rfl (by decide) (by kernel_rfl) (by kernel_rfl) B6'.out (fun K hK => ?_); refine take_val ?_ (by rfl) ?_ ?_; rotate_left 1; (focus (intro wc hC; skip; go_simp; try rfl)); go_simp; refine hK.out _ ?_; clear hK K)
        refine hh_done (by kernel_rfl) ?_
        simp only [List.drop_succ_cons, List.drop_zero]
        change wpList _ _ _ _ _ _
        obtain ⟨⟨t0, t1, t2⟩, f0, f1, f2⟩ := blk3 hR
        clear hR w0 w1'
        go_wp2_with fail
        have he := HRV.out
        rw [HV.out] at he
        cases he
        refine ret_tabb rfl rfl rfl (heap_setCell_same _ _ _ _ _ _ (heap_setCell_same _ _ _ _ _ _ (heap_setCell_same _ _ _ _ _ _ R6.out))) rfl ⟨_, _, _, _, _, _, rfl, ?_⟩
        refine ⟨(fr_set (fr_set (fr_set HL.out _ (by omega)) _ (by omega)) _ (by omega)).mono (by omega), (fr_set (fr_set (fr_set F6.out _ (by omega)) _ (by omega)) _ (by omega)).mono (by omega), fun _ _ e => ?_, ((L6.out.setCell (Nat.le_refl _) _).setCell (Nat.le_refl _) _).setCell (Nat.le_refl _) _⟩
        simp only [blk, Option.map_some, Option.some.injEq] at e
        omega
end Go.Proofs.Ythebegfceaehfaa
