/- 'classesOf' of the implementation. -/
import Derived.Test.YtekojohhjnklkaaFnd
import Derived.Test.YtekojohhjnklkaaAcc
import Derived.Test.YtekojohhjnklkaaClsS
import Derived.Test.YtekojohhjnklkaaHold2
import Derived.Test.YtekojohhjnklkaaHoldG
namespace Go.Proofs.Ytekojohhjnklkaa
open Go.RowKit

theorem Cl.nin {w : World} {lo : Nat} {v6 v7 v8 : Value} {n6 k L : Nat} {xs : List Int} {bs Q : List Nat} {F : List (List Int)} (h : Cl w lo v6 v7 v8 n6 k L xs bs Q F) {q : Nat} (hq : w.heap.size ≤ q) : q ∉ bs := fun e => by
  have := (h.q q (h.sub q e)).1; omega
theorem ret_li {a : Option Addr} {n c : Nat} {x y : Nat} (h : x = y) : Ending.returned (.tuple #[.slice a n c, .int .i64 (x : Int)]) = .returned (.tuple #[.slice a n c, .int .i64 (y : Int)]) := by rw [h]
theorem Fd.sl {w : World} {lo : Nat} {v : Value} {L : Nat} {bs : List Nat} {F : List (List Int)} (h : Fd w lo v L bs F) : ∃ a c, v = .slice a bs.length c := by
  rcases h.out.2 with ⟨h1, h2⟩ | ⟨g, cap, cur, h1, _⟩
  · exact ⟨_, _, by rw [h1, h2]⟩
  · exact ⟨_, _, h1⟩
/-- A row's variable: the cell of its slice at p, its ints at q. -/
structure Lv (w : World) (p q L : Nat) (xs : List Int) : Prop where
  cell : w.cell? ⟨p, 0, none⟩ = some (.slice (some ⟨q, 0, none⟩) L L)
  row : Bi w q xs
  len : xs.length = L
  ne : p ≠ q
theorem Lv.below {w w' : World} {p q L : Nat} {xs : List Int} (h : Lv w p q L xs) (hB : Below w.heap.size w w') : Lv w' p q L xs :=
  ⟨(hB.cell (p := ⟨p, 0, none⟩) (by have := World.block_lt_of_cell? w _ h.cell; exact this)).trans h.cell, h.row.below hB, h.len, h.ne⟩
theorem Lv.grown {w w' : World} {p q L : Nat} {xs : List Int} (h : Lv w p q L xs) {r : Option Nat} (hg : w.grownBy w' r) (h1 : r ≠ some p) (h2 : r ≠ some q) : Lv w' p q L xs :=
  ⟨(World.cell?_of_block (w := w) (hg.block p (World.block_lt_of_cell? w _ h.cell) (fun e => h1 e.symm))).trans h.cell, bk_grown h.row hg (fun k hk e => h2 (by rw [hk, e])), h.len, h.ne⟩
theorem Lv.set {w : World} {p q L : Nat} {xs : List Int} (h : Lv w p q L xs) (i : Nat) (x : Int) : Lv (w.setCell ⟨q, i, none⟩ (.int .i64 x)) p q L (xs.set i x) :=
  ⟨(World.cell?_of_block (w := w) (heap_setCell_other _ _ _ _ h.ne)).trans h.cell, h.row.set i x, by rw [List.length_set]; exact h.len, h.ne⟩
theorem Lv.drew {w : World} {p q L : Nat} {xs : List Int} (h : Lv w p q L xs) : Lv w.drew p q L xs := h.below ((Below.refl _ _).drew)
/-- The variable is made. -/
theorem Lv.start (V : World) (L : Nat) : Lv ((V.alloc (.cells (zeros L) 3)).alloc (.cells #[.slice (some ⟨V.heap.size, 0, none⟩) L L] 22)) (V.heap.size + 1) V.heap.size L (zerosL L) := by
  have h0 : Bi (V.alloc (.cells (zeros L) 3)) V.heap.size (zerosL L) := bk_new _ _ _
  have h1 : Bi ((V.alloc (.cells (zeros L) 3)).alloc (.cells #[.slice (some ⟨V.heap.size, 0, none⟩) L L] 22)) V.heap.size (zerosL L) := bk_alloc h0 _
  refine ⟨?_, h1, by simp [zerosL], by omega⟩
  have h := cell_one (V.alloc (.cells (zeros L) 3)) (.slice (some ⟨V.heap.size, 0, none⟩) L L) 22
  simpa only [World.size_alloc] using h

set_option maxRecDepth 20000 in
set_option maxHeartbeats 8000000 in
theorem impl_classesOf (S : Nat) (a1 : Option Addr) (n1 c1 : Nat) (A : List Int) (a2 : Option Addr) (n2 c2 : Nat) (w : World) (h1 : Rd w a1 n1 c1 A) (e1 : n1 = S * S) (hS : S ≤ 8) :
    Calls Try.prog 88 #[.agg #[.int .i64 S, .slice a1 n1 c1, .slice a2 n2 c2]] w fun e w' => ∃ ao c, e = .returned (.tuple #[.slice ao S c, .int .i64 (Red.cnt (Red.classes A S))]) ∧ NewInts w w' (Red.ints (Red.classes A S)) ao S c := by
  have H1 := hid h1
  have E1 := hid e1
  clear h1 e1
  have K1 := hid (bk_new w #[.int .i64 S, .slice a1 n1 c1, .slice a2 n2 c2] 27)
  have L1 := hid (below_box w (.cells #[.int .i64 S, .slice a1 n1 c1, .slice a2 n2 c2] 27))
  have F1 := hid (zeros_fr (w := (w.alloc (.cells #[.int .i64 S, .slice a1 n1 c1, .slice a2 n2 c2] 27))) (w.heap.size + 1) S hS (by simp))
  have mk := run_mk S (S : Int) rfl (by omega)
  go_enter Try.func88, Try.ntmps88
  go_wp2_with fail
  clear mk
  go_loopw [4, 5] (fun v n wr => ∃ (m cn : Nat) (cls : List Nat) (ao : Option Addr) (c : Nat), v = .slice ao S c ∧ n = .int .i64 cn ∧ cn ≤ S ∧ Hid (Red.Rc A S m cls cn) ∧ Hid (Fr wr (w.heap.size + 1) ao S c (Red.ints cls)) ∧ Hid (Below (w.heap.size + 1) (w.alloc (.cells #[.int .i64 S, .slice a1 n1 c1, .slice a2 n2 c2] 27)) wr)) (fun _ n _ => S - (intOf n).toNat)
  case atStart =>
    exact ⟨0, min 1 S, _, _, _, rfl, congrArg (Value.int .i64) (by omega), by omega, hid (Red.Rc.start A S), hid (by have h := F1.out; simp only [World.size_alloc] at h; exact h), hid ((Below.refl _ _).alloc (by simp) _)⟩
  case round =>
    obtain ⟨m, cn, cls, ao, c, rfl, rfl, hcn, hRc, hF, hB⟩ := hrel
    obtain ⟨W, rfl⟩ : ∃ W : World, W = wr := ⟨_, rfl⟩
    have C0 := hid ((hB.out.block _ (Nat.lt_succ_self _)).trans K1.out)
    have z0 : w.heap.size + 1 ≤ W.heap.size := by have := hB.out.size; simpa using this
    have A0 := hid (H1.out.below (L1.out.trans (hB.out.mono (Nat.le_succ _))))
    have CL0 := hid (Cl.start W (cn + 1))
    generalize hK : Red.key A S cls cn = K
    have HK := hid hK
    clear hK
    go_wp2_with fail
    have mk2 := run_mk (cn + 1) ((cn : Int) + 1) (by omega) (by omega)
    go_loopw [6, 7, 8, 24] (fun v6 v7 v8 i wr => ∃ (k : Nat) (bs Q : List Nat), i = .int .i64 k ∧ k ≤ S ∧ bs.length ≤ k ∧ Hid (Cl wr W.heap.size v6 v7 v8 k k (cn + 1) (Red.ints (Red.nextTo K k)) bs Q (Red.foundTo K k)) ∧ Hid (Below W.heap.size W wr)) (fun _ _ _ i _ => S - (intOf i).toNat)
    case atStart => exact ⟨0, [], [], rfl, Nat.zero_le _, Nat.le_refl _, CL0, hid ((((Below.refl _ _).alloc (Nat.le_refl _) _).alloc (by simp) _).alloc (by simp; omega) _)⟩
    case round =>
      clear CL0
      obtain ⟨k, bs, Q, rfl, hk, hbs, hC, hB2⟩ := hrel
      obtain ⟨V, rfl⟩ : ∃ V : World, V = wr := ⟨_, rfl⟩
      by_cases hlt : k < S
      · have hki : (k : Int) < (S : Int) := by omega

        have z2 := hB2.out.size
        have LV := hid (Lv.start V (cn + 1))
        have NQ := hid (hC.out.nin (Nat.le_refl V.heap.size))
        have NP := hid (hC.out.nin (Nat.le_succ V.heap.size))
        have C2 := hid (by
          have h := (hC.out.reserve (below_box V (.cells (zeros (cn + 1)) 3)) (q := V.heap.size) (Nat.le_refl _) (by simp)).reserve (below_box _ (.cells #[.slice (some ⟨V.heap.size, 0, none⟩) (cn + 1) (cn + 1)] 22)) (q := V.heap.size + 1) (by simp) (by simp)
          exact h)
        have B2 := hid ((hB2.out.alloc z2 (.cells (zeros (cn + 1)) 3)).alloc (by simp; omega) (.cells #[.slice (some ⟨V.heap.size, 0, none⟩) (cn + 1) (cn + 1)] 22))
        go_wp2_with fail
        clear hC hB2
        go_loopw [32] (fun i wr => ∃ j : Nat, i = .int .i64 j ∧ j ≤ S ∧ Hid (Lv wr (V.heap.size + 1) V.heap.size (cn + 1) (Red.acc (Red.rowL A S k) cls cn j)) ∧ Hid (Cl wr W.heap.size u6 u7 u8 k k (cn + 1) (Red.ints (Red.nextTo K k)) bs ((V.heap.size + 1) :: V.heap.size :: Q) (Red.foundTo K k)) ∧ Hid (Below W.heap.size W wr)) (fun i _ => S - (intOf i).toNat)
        case atStart => exact ⟨0, rfl, Nat.zero_le _, hid (by rw [Red.acc_zero]; exact LV.out), C2, B2⟩
        case round =>
          clear LV C2 B2
          obtain ⟨j, rfl, hj, hL, hC, hB2⟩ := hrel
          obtain ⟨U, rfl⟩ : ∃ U : World, U = wr := ⟨_, rfl⟩
          have hpc := hL.out.cell
          have C3 := hid (bk_below C0.out hB2.out)
          by_cases hjt : j < S
          · have hji : (j : Int) < (S : Int) := by omega
            obtain ⟨cb, co, x, rfl, hcx, x1, x2, hx⟩ := (hF.out.rd.below hB2.out).at (k := j) hjt
            have hcj := hRc.out.is.lt hjt
            rw [← hRc.out.num] at hcj
            have hx3 := hx.out.trans (Red.ints_getD cls j)
            obtain ⟨cj, hcj0⟩ : ∃ cj, cj = cls.getD j 0 := ⟨_, rfl⟩
            rw [← hcj0] at hcj hx3
            subst hx3
            obtain ⟨y, hy⟩ : ∃ y, y = (Red.acc (Red.rowL A S k) cls cn j).getD cj 0 := ⟨_, rfl⟩
            have hyc := bi_cell hL.out.row (j := cj) (by rw [hL.out.len]; omega)
            rw [← hy, Nat.zero_add] at hyc
            have HY := hid hy
            have HCJ := hid hcj0
            clear hy hcj0 hx
            have HU : Hid (∀ wc, Below U.heap.size U wc → wc.cell? ⟨V.heap.size + 1, 0, none⟩ = some (.slice (some ⟨V.heap.size, 0, none⟩) (cn + 1) (cn + 1)) ∧ wc.cell? ⟨cb, co + j, none⟩ = some (.int .i64 cj) ∧ wc.cell? ⟨V.heap.size, cj, none⟩ = some (.int .i64 y) ∧ wc.cell? ⟨w.heap.size, 0, none⟩ = some (.int .i64 S) ∧ wc.cell? ⟨w.heap.size, 1, none⟩ = some (.slice a1 n1 c1) ∧ wc.cell? ⟨w.heap.size, 2, none⟩ = some (.slice a2 n2 c2)) :=
              hid fun wc h => ⟨(h.cell (World.block_lt_of_cell? U _ hpc)).trans hpc, (h.cell (World.block_lt_of_cell? U _ hcx)).trans hcx, (h.cell (World.block_lt_of_cell? U _ hyc)).trans hyc, (blk3 (bk_below C3.out h)).1⟩
            have hc1 : (cj : Int) < (cn : Int) + 1 := by omega
            have hc2 : cj < cn + 1 := by omega
            go_wp2_with fail
            clear hpc hcx hyc
            have vhB1 := hid (show Below U.heap.size U U.drew from (Below.refl _ _).drew)
            refine (fun (HG : Rg _ _ 18) => wp_region_hh (S := fun w' => Below U.heap.size U w') HG rfl ?_) ⟨by kernel_rfl, by decide, by kernel_rfl, by kernel_rfl, fun _ _ d _ _ h => by cases d <;> exact h⟩
            (refine hh_take 0 HG rfl (by decide) (by kernel_rfl) (by kernel_rfl) vhB1.out (fun K hK => ?_); refine take_val ?_ (by rfl) ?_ ?_; rotate_left 1; (focus (intro wc hC; obtain ⟨s0, s1, s2, s3, s4, s5⟩ := HU.out wc hC; go_simp; try rfl)); go_simp; refine hK.out _ ?_; clear hK K)
            (refine hh_take 1 HG rfl (by decide) (by kernel_rfl) (by kernel_rfl) vhB1.out (fun K hK => ?_); refine take_val ?_ (by rfl) ?_ ?_; rotate_left 1; (focus (intro wc hC; skip; go_simp; try rfl)); go_simp; refine hK.out _ ?_; clear hK K)
            (refine hh_take 2 HG rfl (by decide) (by kernel_rfl) (by kernel_rfl) vhB1.out (fun K hK => ?_); refine take_val ?_ (by rfl) ?_ ?_; rotate_left 1; (focus (intro wc hC; skip; go_simp; try rfl)); go_simp; refine hK.out _ ?_; clear hK K)
            (refine hh_take 3 HG rfl (by decide) (by kernel_rfl) (by kernel_rfl) vhB1.out (fun K hK => ?_); refine take_val ?_ (by rfl) ?_ ?_; rotate_left 1; (focus (intro wc hC; skip; go_simp; try rfl)); go_simp; refine hK.out _ ?_; clear hK K)
            (refine hh_take 4 HG rfl (by decide) (by kernel_rfl) (by kernel_rfl) vhB1.out (fun K hK => ?_); refine take_val ?_ (by rfl) ?_ ?_; rotate_left 1; (focus (intro wc hC; obtain ⟨s0, s1, s2, s3, s4, s5⟩ := HU.out wc hC; go_simp; try rfl)); go_simp; refine hK.out _ ?_; clear hK K)
            (refine hh_take 5 HG rfl (by decide) (by kernel_rfl) (by kernel_rfl) vhB1.out (fun K hK => ?_); refine take_val ?_ (by rfl) ?_ ?_; rotate_left 1; (focus (intro wc hC; obtain ⟨s0, s1, s2, s3, s4, s5⟩ := HU.out wc hC; go_simp; try rfl)); go_simp; refine hK.out _ ?_; clear hK K)
            (refine hh_take 6 HG rfl (by decide) (by kernel_rfl) (by kernel_rfl) vhB1.out (fun K hK => ?_); refine take_val ?_ (by rfl) ?_ ?_; rotate_left 1; (focus (intro wc hC; skip; go_simp; try rfl)); go_simp; refine hK.out _ ?_; clear hK K)
            (refine hh_take 7 HG rfl (by decide) (by kernel_rfl) (by kernel_rfl) vhB1.out (fun K hK => ?_); refine take_val ?_ (by rfl) ?_ ?_; rotate_left 1; (focus (intro wc hC; skip; go_simp; try rfl)); go_simp; refine hK.out _ ?_; clear hK K)
            (refine hh_take 8 HG rfl (by decide) (by kernel_rfl) (by kernel_rfl) vhB1.out (fun K hK => ?_); refine take_val ?_ (by rfl) ?_ ?_; rotate_left 1; (focus (intro wc hC; skip; go_simp; try rfl)); go_simp; refine hK.out _ ?_; clear hK K)
            (refine hh_take 9 HG rfl (by decide) (by kernel_rfl) (by kernel_rfl) vhB1.out (fun K hK => ?_); refine take_val ?_ (by rfl) ?_ ?_; rotate_left 1; (focus (intro wc hC; obtain ⟨s0, s1, s2, s3, s4, s5⟩ := HU.out wc hC; go_simp; try rfl)); go_simp; refine hK.out _ ?_; clear hK K)
            (refine hh_take 10 HG rfl (by decide) (by kernel_rfl) (by kernel_rfl) vhB1.out (fun K hK => ?_); refine take_val ?_ (by rfl) ?_ ?_; rotate_left 1; (focus (intro wc hC; skip; go_simp; try rfl)); go_simp; refine hK.out _ ?_; clear hK K)
            (refine hh_take 11 HG rfl (by decide) (by kernel_rfl) (by kernel_rfl) vhB1.out (fun K hK => ?_); refine take_val ?_ (by rfl) ?_ ?_; rotate_left 1; (focus (intro wc hC; obtain ⟨s0, s1, s2, s3, s4, s5⟩ := HU.out wc hC; go_simp; try rfl)); go_simp; refine hK.out _ ?_; clear hK K)
            (refine hh_take 12 HG rfl (by decide) (by kernel_rfl) (by kernel_rfl) vhB1.out (fun K hK => ?_); refine take_val ?_ (by rfl) ?_ ?_; rotate_left 1; (focus (intro wc hC; obtain ⟨s0, s1, s2, s3, s4, s5⟩ := HU.out wc hC; go_simp; try rfl)); go_simp; refine hK.out _ ?_; clear hK K)
            (refine hh_take 13 HG rfl (by decide) (by kernel_rfl) (by kernel_rfl) vhB1.out (fun K hK => ?_); refine take_val ?_ (by rfl) ?_ ?_; rotate_left 1; (focus (intro wc hC; skip; go_simp; try rfl)); go_simp; refine hK.out _ ?_; clear hK K)
            (refine hh_take 14 HG rfl (by decide) (by kernel_rfl) (by kernel_rfl) vhB1.out (fun K hK => ?_); refine take_val ?_ (by rfl) ?_ ?_; rotate_left 1; (focus (intro wc hC; skip; go_simp; try rfl)); go_simp; refine hK.out _ ?_; clear hK K)
            refine hh_mid 15 rfl (by decide) (by kernel_rfl) (fun K hK => ?_)
            (refine mid_call ?_ ?_ (by rfl) ?_ ?_; rotate_left 2; (focus (go_simp; first | done | rfl | (refine And.intro ?_ ?_ <;> rfl))))
            refine (impl_a S k j a1 n1 c1 A _ _ ((A0.out.below hB2.out).below vhB1.out) E1.out hlt hjt hS).mono ?_
            rintro e vV2 ⟨z, rfl, hz, hz64, hb⟩
            refine ⟨_, rfl, ?_⟩
            have vhB3 := hid (vhB1.out.trans ((hb).mono (show U.heap.size ≤ U.heap.size from vhB1.out.size)))
            (go_simp; refine hK.out _ _ ?_ ?_ <;> clear hK K)
            · exact vhB3.out
            refine hh_mid 16 rfl (by decide) (by kernel_rfl) (fun K hK => ?_)
            (refine mid_call ?_ ?_ (by rfl) ?_ ?_; rotate_left 2; (focus (go_simp; first | done | rfl | (refine And.intro ?_ ?_ <;> rfl))))
            refine (impl_Plus _ _ _).mono ?_
            rintro e w' ⟨rfl, rfl⟩
            refine ⟨_, rfl, ?_⟩
            (go_simp; refine hK.out _ _ ?_ ?_ <;> clear hK K)
            · exact vhB3.out
            (refine hh_take 17 HG rfl (by decide) (by kernel_rfl) (by kernel_rfl) vhB3.out (fun K hK => ?_); refine take_val ?_ (by rfl) ?_ ?_; rotate_left 1; (focus (intro wc hC; skip; go_simp; try rfl)); go_simp; refine hK.out _ ?_; clear hK K)
            refine hh_done (by kernel_rfl) ?_
            simp only [List.drop_succ_cons, List.drop_zero]
            change wpList _ _ _ _ _ _
            have HL5 := hid (hL.out.below vhB3.out)
            have HC5 := hid (hC.out.below vhB3.out)
            have HB5 := hid (hB2.out.trans (vhB3.out.mono hB2.out.size))
            have HZ := hid (show z = (Red.rowL A S k).getD j 0 by rw [show (Red.rowL A S k).getD j 0 = A.getD (k * S + j) 0 from rowL_at hjt]; exact hz.out)
            have HL6 := hid (HL5.out.set cj (M.plus y z))
            rw [HCJ.out, Red.acc_step (by rw [← HCJ.out]; exact hcj) (by rw [← HCJ.out]; exact HY.out) HZ.out, ← HCJ.out] at HL6
            have HC6 := hid (HC5.out.write (grown_setCell _ V.heap.size cj (.int .i64 (M.plus y z))) (List.mem_cons_of_mem _ List.mem_cons_self) NQ.out)
            have HB6 := hid (HB5.out.setCell (p := ⟨V.heap.size, cj, none⟩) z2 (.int .i64 (M.plus y z)))
            obtain ⟨y7, hc7, hf7⟩ := HL5.out.row.cell (k := cj) (by rw [HL5.out.len]; omega)
            go_wp2_with fail
            go_roundw
            case rel => exact ⟨j + 1, by go_num, by omega, HL6, HC6, HB6⟩
            case measure => simp [intOf]; omega
          · obtain rfl : S = j := by omega
            obtain ⟨cb, co, x, rfl, hcx, x1, x2, hx⟩ := (hF.out.rd.below hB2.out).at (k := k) hlt
            obtain ⟨y7, hc7, hf7⟩ := hL.out.row.cell (k := cn) (by rw [hL.out.len]; omega)
            have hc1 : (cn : Int) < (cn : Int) + 1 := by omega
            have hc2 : cn < cn + 1 := by omega
            have HL6 := hid (hL.out.drew.set cn x)
            rw [Red.acc_last hx.out, HK.out] at HL6
            have HC6 := hid ((hC.out.below ((Below.refl _ _).drew)).write (grown_setCell _ V.heap.size cn (.int .i64 x)) (List.mem_cons_of_mem _ List.mem_cons_self) NQ.out)
            have HB6 := hid (hB2.out.drew.setCell (p := ⟨V.heap.size, cn, none⟩) z2 (.int .i64 x))
            clear hL hC hB2 C3 hx
            go_wp2_with fail
            refine wp_region_still_tail 7 (by kernel_rfl) (by kernel_rfl) ?_
            simp only [List.take_succ_cons, List.take_zero, List.drop_succ_cons, List.drop_zero]
            repeat still_step
            refine wpStill_nil ?_
            change wpList _ _ _ _ _ U.drew
            have hc8 : U.drew.cell? ⟨V.heap.size, cn, none⟩ = some (.int .i64 y7) := hc7
            have hf8 : U.drew.frozen? ⟨V.heap.size, cn, none⟩ = false := hf7
            generalize U.drew = Ud at HL6 HC6 HB6 hc8 hf8 ⊢
            obtain ⟨vs, hvs⟩ := (HC6.out.below (below_box _ (.cells #[.slice (some ⟨V.heap.size, 0, none⟩) (cn + 1) (cn + 1)] 22))).s
            have hp6 := HL6.out.cell
            have hc61 : ((Ud.setCell ⟨V.heap.size, cn, none⟩ (.int .i64 x)).alloc (.cells #[.slice (some ⟨V.heap.size, 0, none⟩) (cn + 1) (cn + 1)] 22)).cell? ⟨Ud.heap.size, 0, none⟩ = some (.slice (some ⟨V.heap.size, 0, none⟩) (cn + 1) (cn + 1)) := by
              rw [show Ud.heap.size = (Ud.setCell ⟨V.heap.size, cn, none⟩ (.int .i64 x)).heap.size by simp]
              exact cell_one _ _ _
            have HC61 := hid hc61
            clear hc61
            have z6 := HB6.out.size
            have lt6 := hid HC6.out.lt6
            go_wp2_with (at_builtin; refine wpList_append_sl _ rfl _ _ rfl W.heap.size u6 k vs rfl hvs _ (.slice (some ⟨V.heap.size, 0, none⟩) (cn + 1) (cn + 1)) rfl rfl HC61.out (by omega) (by simp at z6 ⊢; omega) ?_; intro v6' w3 ho3 hg3 hw3)
            have C7 := hid ((HC6.out.below (below_box _ _)).put6 ho3 hg3 hw3)
            have L7 := hid ((HL6.out.below (below_box _ _)).grown hg3 (HC6.out.q _ List.mem_cons_self).2.1 (HC6.out.q _ (List.mem_cons_of_mem _ List.mem_cons_self)).2.1)
            have B7 := hid ((HB6.out.alloc z6 _).grown hg3 (by simp at z6 ⊢; omega) (fun j hj => (lt6.out j hj).1))
            clear ho3 hg3 hw3 hp6 hvs HC6 HL6 HB6 lt6 hcx hc7 hf7 hc8 hf8 z6
            have hp7 := L7.out.cell
            have hbs8 : bs.length ≤ 100 := by omega
            go_wp2_with fail
            refine (find_row C7.out.f L7.out.cell L7.out.row L7.out.len (by omega) hbs8).mono ?_
            rintro e w4 ⟨rfl, dn, rfl⟩
            have C8 := hid (C7.out.below (Below.drewN' (Below.refl _ _) dn))
            have L8 := hid (L7.out.below (Below.drewN' (Below.refl _ _) dn))
            have B8 := hid (Below.drewN' B7.out dn)
            generalize w3.drewN dn = w4 at C8 L8 B8
            clear C7 L7 B7 hp7
            have z8 := B8.out.size
            by_cases hm : K k ∈ Red.foundTo K k
            · rw [idxZ_mem hm]
              have hnx := Red.next_hit hm
              have hle := Red.idx_le (Red.foundTo K k) (K k)
              have hfl := Red.foundTo_len K k
              obtain ⟨at0, hat⟩ : ∃ at0, at0 = Red.idx (Red.foundTo K k) (K k) := ⟨_, rfl⟩
              rw [← hat] at hnx hle ⊢
              have HNX := hid hnx
              have hnn : ¬ (at0 : Int) < 0 := by omega
              clear hat hnx
              go_wp2_with (at_builtin; refine wpList_append_int' _ rfl _ _ rfl W.heap.size u7 k _ rfl (C8.out.n.below (below_box _ _)) _ (at0 : Int) rfl (rd_one _ _ _ ⟨by omega, by omega⟩) (by omega) (by simp; omega) ?_; intro v7' w5 ho5 hg5 hw5)
              have C9 := (C8.out.below (below_box _ _)).put7 ho5 hg5 hw5
              rw [← Red.ints_snoc, ← HNX.out.1, ← HNX.out.2] at C9
              have C9 := hid C9
              have B9 := hid ((B8.out.alloc z8 _).grown hg5 (by simp; omega) (fun j hj => (C8.out.n.lt j hj).1))
              clear ho5 hg5 hw5 hm hnn
              go_wp2_with fail
              go_roundw
              case rel => exact ⟨k + 1, bs, _, by go_num, by omega, by omega, C9, B9⟩
              case measure => simp [intOf]; omega
            · rw [idxZ_no hm]
              have hnx := Red.next_new hm
              obtain ⟨a8, c8, e8⟩ := C8.out.f.sl
              subst e8
              have hp8 := L8.out.cell
              have hfl := C8.out.f.len
              rw [hfl] at hnx
              have HNX := hid hnx
              clear hnx hm
              have F8 := hid (C8.out.f.out)
              go_wp2_with (first
                | (at_builtin
                   refine wpList_append_sl _ rfl _ _ rfl W.heap.size _ bs.length _ rfl (F8.out.alloc _) _ (.slice (some ⟨V.heap.size, 0, none⟩) (cn + 1) (cn + 1)) rfl rfl (cell_one _ _ _) (by omega) (by simp; omega) ?_
                   intro v8' w5 ho5 hg5 hw5
                   have C9 := (C8.out.below (below_box _ _)).put8 ho5 hg5 hw5 (List.mem_cons_of_mem _ List.mem_cons_self) (L8.out.row.below (below_box _ _)) L8.out.len
                   rw [← HNX.out.2] at C9
                   have C9 := hid C9
                   have B9 := hid ((B8.out.alloc z8 _).grown hg5 (by simp; omega) (fun j hj => (F8.out.lt j hj).1))
                   have z9 := B9.out.size
                   clear ho5 hg5 hw5 hp8)
                | (at_builtin
                   refine wpList_append_int' _ rfl _ _ rfl W.heap.size u7 k _ rfl (C9.out.n.below (below_box _ _)) _ (bs.length : Int) rfl (rd_one _ _ _ ⟨by omega, by omega⟩) (by omega) (by simp; omega) ?_
                   intro v7' w6 ho6 hg6 hw6))
              have C10 := (C9.out.below (below_box _ _)).put7 ho6 hg6 hw6
              rw [← Red.ints_snoc, ← HNX.out.1] at C10
              have C10 := hid C10
              have B10 := hid ((B9.out.alloc z9 _).grown hg6 (by simp; omega) (fun j hj => (C9.out.n.lt j hj).1))
              clear ho6 hg6 hw6
              go_wp2_with fail
              go_roundw
              case rel => exact ⟨k + 1, bs ++ [V.heap.size], _, by go_num, by omega, by simp; omega, C10, B10⟩
              case measure => simp [intOf]; omega
      · obtain rfl : S = k := by omega
        have HRN := hid (Red.round_next hRc.out.is hRc.out.num (A := A))
        rw [HK.out] at HRN
        obtain ⟨a8, c8, e8⟩ := hC.out.f.sl
        subst e8
        obtain ⟨a7, c7, e7, hFr⟩ := hC.out.n.fr
        subst e7
        rw [HRN.out.1] at hFr
        have hlen := hC.out.f.len
        rw [HRN.out.2] at hlen
        have HFr := hid (hFr.mono z0)
        have HBB := hid (hB.out.trans (hB2.out.mono z0))
        clear hFr
        by_cases he : bs.length = cn
        · have hst := hRc.out.stop (hlen.trans he)
          rw [hst.1] at HFr
          have HST := hid hst.2
          have hq : ((bs.length : Int) == (cn : Int)) = true := by rw [he]; exact beq_self_eq_true _
          have LL := hid (L1.out.trans (HBB.out.mono (Nat.le_succ _)))
          clear hst hlen he
          go_wp2_with fail
          go_ret2
          exact ⟨_, _, ret_li HST.out, HFr.out.mono (Nat.le_succ _), LL.out⟩
        · have hmo := hRc.out.more (fun e => he (hlen.symm.trans e))
          rw [hlen] at hmo
          have HMO := hid hmo.1
          have hlt2 := hmo.2
          have hq : ((bs.length : Int) == (cn : Int)) = false := by rw [beq_eq_false_iff_ne]; omega
          clear hmo hlen
          go_wp2_with fail
          go_roundw
          case rel => exact ⟨m + 1, bs.length, _, _, _, rfl, rfl, hbs, HMO, HFr, HBB⟩
          case measure => simp [intOf]; omega
end Go.Proofs.Ytekojohhjnklkaa
