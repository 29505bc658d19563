/- 'merged' of the implementation. -/
import Derived.Test.YtekojohhjnklkaaMrg
import Derived.Test.YtekojohhjnklkaaClsI
import Derived.Test.YtekojohhjnklkaaCmpI
namespace Go.Proofs.Ytekojohhjnklkaa
open Go.RowKit

theorem Cw.apart {lo : Nat} {W1 wr : World} {S : Value} {ob bA bB nA nB : Nat} {XA XB : List Int} (h : Cw lo W1 wr S ob bA bB nA nB XA XB) {q : Nat} (hq : lo ≤ q) (h1 : ob ≠ q) (h2 : bA ≠ q) (h3 : bB ≠ q) (k : Nat) (v : Value) : Cw lo W1 (wr.setCell ⟨q, k, none⟩ v) S ob bA bB nA nB XA XB :=
  ⟨h.l.setCell hq _, (heap_setCell_other _ _ _ _ h1).trans h.out, h.a.far h2, h.b.far h3⟩
/-- 'copy(row, ys)' over what is there. -/
theorem run_copy_all {w : World} {g off dLen dCap : Nat} {xs : List Int} (hg : Bi w g xs) {ad : Option Addr} {n c : Nat} {ys : List Int} (hr : Rd w ad n c ys) (hn : n ≤ dLen) (hR : off + n ≤ xs.length) (ty : TypeId) :
    ∃ w', (Builtin.copy_ #[22, 22] ty #[.slice (some ⟨g, off, none⟩) dLen dCap, .slice ad n c]).run Try.prog w = .ok (.int .i64 n) w' ∧ Bi w' g (splice xs off ys) ∧ w.grownBy w' (some g) ∧ w.heap.size ≤ w'.heap.size := by
  have hsz : (Try.prog.info? 3).map (·.size) = some 1 := by kernel_rfl
  rcases Nat.eq_zero_or_pos n with h0 | h0
  · subst h0
    obtain rfl : ys = [] := List.eq_nil_of_length_eq_zero hr.len
    refine ⟨w, ?_, by simpa [splice] using hg, World.grownBy.refl _ _, Nat.le_refl _⟩
    exact run_copy_none (P := Try.prog) w _ _ ty 3 _ _ _ _ _ _ Try.underlying22 hsz (Nat.zero_min _)
  · obtain ⟨b, o, e, _⟩ := hr.cell 0 h0
    subst e
    have hl : (ints ys).length = n := by simp [ints, hr.len]
    have hrun := run_copy_row (P := Try.prog) w 22 22 ty 3 g off dLen dCap ⟨b, o, none⟩ n c (ints xs).toArray 3 (ints ys) Try.underlying22 hsz hg
      (by rw [hl]; exact (Nat.min_eq_left hn).symm) (fun j v hj => by
        have hj' : j < n := by have := (List.getElem?_eq_some_iff.1 hj).1; omega
        obtain ⟨b', o', e, hc⟩ := hr.cell j hj'
        cases e
        rw [Addr.add_lit, hc]
        rw [ints, List.getElem?_map] at hj
        have hjy : j < ys.length := by rw [hr.len]; exact hj'
        simpa [List.getD, hjy] using hj) (by rw [hl]; simp [ints]; omega) (fun u hu => by
        obtain ⟨_, _, rfl⟩ := List.mem_map.1 hu
        rfl)
    rw [hl] at hrun
    refine ⟨_, hrun, ?_, grown_setRow _ _ _, by simp⟩
    unfold Bi
    rw [setRow_heap _ _ _ _ _ _ hg]
    congr 2
    apply Array.toList_inj.1
    have h2 := splice_ints xs off ys
    rw [← h2]
    simp [splice, hl]
set_option maxRecDepth 20000 in
set_option maxHeartbeats 8000000 in
theorem impl_merged (S : Nat) (a1 : Option Addr) (n1 c1 : Nat) (A : List Int) (a2 : Option Addr) (c2 : Nat) (B : List Int) (w : World) (h1 : Rd w a1 n1 c1 A) (h2 : Rd w a2 S c2 B) (e1 : n1 = S * S) (hS : S ≤ 8) {cls : List Nat} {cn : Nat} (hcl : cls = Red.classes A S) (hcn : cn = Red.cnt cls) :
    Calls Try.prog 76 #[.agg #[.int .i64 S, .slice a1 n1 c1, .slice a2 S c2]] w fun e w' => ∃ a1 n1 c1 a2 n2 c2, e = .returned (.agg #[.int .i64 cn, .slice a1 n1 c1, .slice a2 n2 c2]) ∧ NewT w w' (Red.mrgA A S cls cn) (Red.mrgB B S cls cn) a1 n1 c1 a2 n2 c2 := by
  have H1 := hid h1
  have H2 := hid h2
  have E1 := hid e1
  have HC := hid (show Red.Cls S cls from hcl ▸ Red.rounds_cls A S S)
  have hcS : cn ≤ S := hcn ▸ HC.out.cnt_le
  have HCN := hid hcn
  have CK := hid (fun w' (h : Rd w' a1 n1 c1 A) => impl_classesOf S a1 n1 c1 A a2 S c2 w' h e1 hS)
  rw [← hcl, ← hcn] at CK
  clear h1 h2 e1 hcl hcn
  have K1 := hid (bk_alloc (heap_alloc_at w #[.int .i64 S, .slice a1 n1 c1, .slice a2 S c2] 27 w.heap.size rfl) (.cells #[.int .i64 0, .slice none 0 0, .slice none 0 0] 27))
  have R1 := hid (heap_alloc_at (w.alloc (.cells #[.int .i64 S, .slice a1 n1 c1, .slice a2 S c2] 27)) #[.int .i64 0, .slice none 0 0, .slice none 0 0] 27 (w.heap.size + 1) (by simp))
  have L1 := hid (l_alloc (below_box w (.cells #[.int .i64 S, .slice a1 n1 c1, .slice a2 S c2] 27)) (.cells #[.int .i64 0, .slice none 0 0, .slice none 0 0] 27))
  obtain ⟨nn, hnn⟩ : ∃ nn, nn = cn * cn := ⟨_, rfl⟩
  have e64 : nn ≤ 64 := by rw [hnn]; exact Nat.mul_le_mul (show cn ≤ 8 by omega) (show cn ≤ 8 by omega)
  have ENN := hid hnn
  clear hnn
  have hc8 : cn ≤ 8 := by omega
  go_enter Try.func76, Try.ntmps76
  go_wp2_with fail
  refine (CK.out _ (H1.out.below L1.out)).mono ?_
  rintro e w2 ⟨ca, cc, rfl, hN⟩
  have y2 := hN.2.size
  simp only [World.size_alloc] at y2
  have FC := hid hN.1.rd
  have K2 := hid (bk_below K1.out hN.2)
  have R2 := hid (bk_below R1.out hN.2)
  have L2 := hid (l_below L1.out hN.2)
  clear hN K1 R1 L1 CK
  go_wp2_with fail
  refine (impl_emptyW cn nn _ hc8 ENN.out).mono ?_
  rintro e w3 ⟨bA, bB, rfl, hbA, hbB, hne, hB3, hA3, hB3'⟩
  have y3 := hB3.size
  have z1 := bk_lt hbA
  have z2 := bk_lt hbB
  have M0 := hid (show Cw w2.heap.size w2 (w3.alloc (.cells #[.int .i64 cn, .slice (some ⟨bA, 0, none⟩) nn nn, .slice (some ⟨bB, 0, none⟩) cn cn] 27)) (.int .i64 cn) w3.heap.size bA bB nn cn (Red.flat (Red.rowD A S cls cn S 0) cn) (firstN (fun c => Red.overD B cls c S 0) cn) from
    ⟨hB3.alloc (by omega) _, bk_new _ _ _, by rw [show Red.flat (Red.rowD A S cls cn S 0) cn = zerosL (cn * cn) from (Red.flat_zero cn).symm, ← ENN.out]; exact bk_alloc hbA _, by rw [← Red.b_zero]; exact bk_alloc hbB _⟩)
  clear hbA hbB hB3
  have mk2 := run_mk cn (cn : Int) rfl (by omega)
  have hw0 : IntKind.i64.wrap ((S : Int) - 1) = (S : Int) - 1 := IntWalk.i64_in _ ⟨by omega, by omega⟩
  go_wp2_with fail
  go_loopw [6] (fun i wr => ∃ (k : Nat) (z : Int), i = .int .i64 z ∧ z = (k : Int) - 1 ∧ k ≤ S ∧ w3.heap.size < wr.heap.size ∧ Hid (Cw w2.heap.size w2 wr (.int .i64 cn) w3.heap.size bA bB nn cn (Red.flat (Red.rowD A S cls cn k (S - k)) cn) (firstN (fun c => Red.overD B cls c k (S - k)) cn))) (fun i _ => (intOf i + 1).toNat)
  case atStart => exact ⟨S, _, rfl, rfl, Nat.le_refl _, by simp, hid (by rw [Nat.sub_self]; exact M0.out)⟩
  case round =>
    clear M0
    obtain ⟨k, z, rfl, hz, hk, hsz, hM⟩ := hrel
    obtain ⟨wo, rfl⟩ : ∃ wo : World, wo = wr := ⟨_, rfl⟩
    by_cases h0 : k = 0
    · subst h0
      have hneg : ¬ (0 : Int) ≤ z := by omega
      have hM0 := hM.out
      rw [Nat.sub_zero, Red.b_end, HCN.out, Red.flat_end HC.out, ← HCN.out] at hM0
      have HM1 := hid hM0
      obtain ⟨⟨t0, t1, t2⟩, f0, f1, f2⟩ := blk3 (hM0.old (by omega) R2.out)
      obtain ⟨⟨r0, r1, r2⟩, _⟩ := blk3 hM0.out
      clear hM0 hM
      go_wp2_with fail
      refine ret_tab rfl rfl (heap_setCell_same _ _ _ _ _ _ (heap_setCell_same _ _ _ _ _ _ (heap_setCell_same _ _ _ _ _ _ (HM1.out.old (by omega) R2.out)))) rfl ⟨_, _, _, _, _, _, rfl, ?_⟩
      exact newT_blocks (((HM1.out.a.far (by omega)).far (by omega)).far (by omega)) (((HM1.out.b.far (by omega)).far (by omega)).far (by omega)) ((((L2.out.trans (HM1.out.l.mono (by omega))).setCell (by simp) _).setCell (by simp) _).setCell (by simp) _)
        (by omega) (by omega) hne (by unfold Red.mrgA; rw [firstN_len]; exact ENN.out.symm) (by unfold Red.mrgB; rw [firstN_len]) (by omega) (by omega) (Red.mrgA_wf A S cls cn) (Red.mrgB_wf B S cls cn)
    · obtain ⟨i, rfl⟩ : ∃ i, k = i + 1 := ⟨k - 1, by omega⟩
      obtain rfl : z = (i : Int) := by omega
      have hiS : i < S := by omega
      have hii : (0 : Int) ≤ (i : Int) := by omega
      clear hz
      have LB := hid (show Bi (wo.alloc (.cells (zeros cn) 3)) wo.heap.size (Red.accS (Red.rowL A S i) cls cn 0) by rw [Red.accS_zero]; exact bk_new _ _ _)
      have M2 := hid (hM.out.below (below_box wo (.cells (zeros cn) 3)) (by omega))
      go_wp2_with fail
      clear hM
      go_loopw [27] (fun jj wr => ∃ j : Nat, jj = .int .i64 j ∧ j ≤ S ∧ wo.heap.size < wr.heap.size ∧ Hid (Bi wr wo.heap.size (Red.accS (Red.rowL A S i) cls cn j)) ∧ Hid (Cw w2.heap.size w2 wr (.int .i64 cn) w3.heap.size bA bB nn cn (Red.flat (Red.rowD A S cls cn (i + 1) (S - (i + 1))) cn) (firstN (fun c => Red.overD B cls c (i + 1) (S - (i + 1))) cn))) (fun jj _ => S - (intOf jj).toNat)
      case atStart => exact ⟨0, rfl, Nat.zero_le _, by simp, LB, M2⟩
      case round =>
        clear LB M2
        obtain ⟨j, rfl, hj, hsz2, hL, hM⟩ := hrel
        obtain ⟨U, rfl⟩ : ∃ U : World, U = wr := ⟨_, rfl⟩
        have hLM := hM.out.l
        have LU := hid (L2.out.trans (hLM.mono (by omega)))
        have CU := hid (FC.out.below hLM)
        have KU := hid (hM.out.old (by omega) K2.out)
        clear hLM
        by_cases hjt : j < S
        · have hji : (j : Int) < (S : Int) := by omega
          obtain ⟨cb, co, x, rfl, hcx, x1, x2, hx⟩ := CU.out.at (k := j) hjt
          have hcj := HC.out.lt hjt
          rw [← HCN.out] at hcj
          have hx3 := hx.out.trans (Red.ints_getD cls j)
          obtain ⟨cj, hcj0⟩ : ∃ cj, cj = cls.getD j 0 := ⟨_, rfl⟩
          rw [← hcj0] at hcj hx3
          subst hx3
          obtain ⟨y, hy⟩ : ∃ y, y = (Red.accS (Red.rowL A S i) cls cn j).getD cj 0 := ⟨_, rfl⟩
          have hyc := bi_cell hL.out (j := cj) (by rw [Red.accS_len]; omega)
          rw [← hy, Nat.zero_add] at hyc
          have HY := hid (hy.trans (Red.accS_at hcj))
          have HCJ := hid hcj0
          clear hy hcj0 hx
          have HU : Hid (∀ wc, Below U.heap.size U wc → wc.cell? ⟨cb, co + j, none⟩ = some (.int .i64 cj) ∧ wc.cell? ⟨wo.heap.size, cj, none⟩ = some (.int .i64 y) ∧ wc.cell? ⟨w.heap.size, 0, none⟩ = some (.int .i64 S) ∧ wc.cell? ⟨w.heap.size, 1, none⟩ = some (.slice a1 n1 c1) ∧ wc.cell? ⟨w.heap.size, 2, none⟩ = some (.slice a2 S c2)) :=
            hid fun wc h => ⟨(h.cell (World.block_lt_of_cell? U _ hcx)).trans hcx, (h.cell (World.block_lt_of_cell? U _ hyc)).trans hyc, (blk3 (bk_below KU.out h)).1⟩
          have hc1 : (cj : Int) < (cn : Int) := by omega
          go_wp2_with fail
          clear hcx hyc
          have vhB1 := hid (show Below U.heap.size U U.drew from (Below.refl _ _).drew)
          refine (fun (HG : Rg _ _ 18) => wp_region_hh (S := fun w' => Below U.heap.size U w') HG rfl ?_) ⟨by kernel_rfl, by decide, by kernel_rfl, by kernel_rfl, fun _ _ d _ _ h => by cases d <;> exact h⟩
          (refine hh_take 0 HG rfl (by decide) (by kernel_rfl) (by kernel_rfl) vhB1.out (fun K hK => ?_); refine take_val ?_ (by rfl) ?_ ?_; rotate_left 1; (focus (intro wc hC; skip; go_simp; try rfl)); go_simp; refine hK.out _ ?_; clear hK K)
          (refine hh_take 1 HG rfl (by decide) (by kernel_rfl) (by kernel_rfl) vhB1.out (fun K hK => ?_); refine take_val ?_ (by rfl) ?_ ?_; rotate_left 1; (focus (intro wc hC; skip; go_simp; try rfl)); go_simp; refine hK.out _ ?_; clear hK K)
          (refine hh_take 2 HG rfl (by decide) (by kernel_rfl) (by kernel_rfl) vhB1.out (fun K hK => ?_); refine take_val ?_ (by rfl) ?_ ?_; rotate_left 1; (focus (intro wc hC; skip; go_simp; try rfl)); go_simp; refine hK.out _ ?_; clear hK K)
          (refine hh_take 3 HG rfl (by decide) (by kernel_rfl) (by kernel_rfl) vhB1.out (fun K hK => ?_); refine take_val ?_ (by rfl) ?_ ?_; rotate_left 1; (focus (intro wc hC; skip; go_simp; try rfl)); go_simp; refine hK.out _ ?_; clear hK K)
          (refine hh_take 4 HG rfl (by decide) (by kernel_rfl) (by kernel_rfl) vhB1.out (fun K hK => ?_); refine take_val ?_ (by rfl) ?_ ?_; rotate_left 1; (focus (intro wc hC; obtain ⟨s1, s2, s3, s4, s5⟩ := HU.out wc hC; go_simp; try rfl)); go_simp; refine hK.out _ ?_; clear hK K)
          (refine hh_take 5 HG rfl (by decide) (by kernel_rfl) (by kernel_rfl) vhB1.out (fun K hK => ?_); refine take_val ?_ (by rfl) ?_ ?_; rotate_left 1; (focus (intro wc hC; skip; go_simp; try rfl)); go_simp; refine hK.out _ ?_; clear hK K)
          (refine hh_take 6 HG rfl (by decide) (by kernel_rfl) (by kernel_rfl) vhB1.out (fun K hK => ?_); refine take_val ?_ (by rfl) ?_ ?_; rotate_left 1; (focus (intro wc hC; skip; go_simp; try rfl)); go_simp; refine hK.out _ ?_; clear hK K)
          (refine hh_take 7 HG rfl (by decide) (by kernel_rfl) (by kernel_rfl) vhB1.out (fun K hK => ?_); refine take_val ?_ (by rfl) ?_ ?_; rotate_left 1; (focus (intro wc hC; skip; go_simp; try rfl)); go_simp; refine hK.out _ ?_; clear hK K)
          (refine hh_take 8 HG rfl (by decide) (by kernel_rfl) (by kernel_rfl) vhB1.out (fun K hK => ?_); refine take_val ?_ (by rfl) ?_ ?_; rotate_left 1; (focus (intro wc hC; skip; go_simp; try rfl)); go_simp; refine hK.out _ ?_; clear hK K)
          (refine hh_take 9 HG rfl (by decide) (by kernel_rfl) (by kernel_rfl) vhB1.out (fun K hK => ?_); refine take_val ?_ (by rfl) ?_ ?_; rotate_left 1; (focus (intro wc hC; obtain ⟨s1, s2, s3, s4, s5⟩ := HU.out wc hC; go_simp; try rfl)); go_simp; refine hK.out _ ?_; clear hK K)
          (refine hh_take 10 HG rfl (by decide) (by kernel_rfl) (by kernel_rfl) vhB1.out (fun K hK => ?_); refine take_val ?_ (by rfl) ?_ ?_; rotate_left 1; (focus (intro wc hC; skip; go_simp; try rfl)); go_simp; refine hK.out _ ?_; clear hK K)
          (refine hh_take 11 HG rfl (by decide) (by kernel_rfl) (by kernel_rfl) vhB1.out (fun K hK => ?_); refine take_val ?_ (by rfl) ?_ ?_; rotate_left 1; (focus (intro wc hC; obtain ⟨s1, s2, s3, s4, s5⟩ := HU.out wc hC; go_simp; try rfl)); go_simp; refine hK.out _ ?_; clear hK K)
          (refine hh_take 12 HG rfl (by decide) (by kernel_rfl) (by kernel_rfl) vhB1.out (fun K hK => ?_); refine take_val ?_ (by rfl) ?_ ?_; rotate_left 1; (focus (intro wc hC; obtain ⟨s1, s2, s3, s4, s5⟩ := HU.out wc hC; go_simp; try rfl)); go_simp; refine hK.out _ ?_; clear hK K)
          (refine hh_take 13 HG rfl (by decide) (by kernel_rfl) (by kernel_rfl) vhB1.out (fun K hK => ?_); refine take_val ?_ (by rfl) ?_ ?_; rotate_left 1; (focus (intro wc hC; skip; go_simp; try rfl)); go_simp; refine hK.out _ ?_; clear hK K)
          (refine hh_take 14 HG rfl (by decide) (by kernel_rfl) (by kernel_rfl) vhB1.out (fun K hK => ?_); refine take_val ?_ (by rfl) ?_ ?_; rotate_left 1; (focus (intro wc hC; skip; go_simp; try rfl)); go_simp; refine hK.out _ ?_; clear hK K)
          refine hh_mid 15 rfl (by decide) (by kernel_rfl) (fun K hK => ?_)
          (refine mid_call ?_ ?_ (by rfl) ?_ ?_; rotate_left 2; (focus (go_simp; first | done | rfl | (refine And.intro ?_ ?_ <;> rfl))))
          refine (impl_a S i j a1 n1 c1 A _ _ ((H1.out.below LU.out).below vhB1.out) E1.out hiS hjt hS).mono ?_
          rintro e vV2 ⟨z, rfl, hz, hz64, hb⟩
          refine ⟨_, rfl, ?_⟩
          have vhB3 := hid (vhB1.out.trans ((hb).mono (show U.heap.size ≤ U.heap.size from vhB1.out.size)))
          (go_simp; refine hK.out _ _ ?_ ?_ <;> clear hK K)
          · exact vhB3.out
          refine hh_mid 16 rfl (by decide) (by kernel_rfl) (fun K hK => ?_)
          (refine mid_call ?_ ?_ (by rfl) ?_ ?_; rotate_left 2; (focus (go_simp; first | done | rfl | (refine And.intro ?_ ?_ <;> rfl))))
          refine (impl_Plus _ _ _).mono ?_
          rintro e w' ⟨rfl, rfl⟩
          refine ⟨_, rfl, ?_⟩
          (go_simp; refine hK.out _ _ ?_ ?_ <;> clear hK K)
          · exact vhB3.out
          (refine hh_take 17 HG rfl (by decide) (by kernel_rfl) (by kernel_rfl) vhB3.out (fun K hK => ?_); refine take_val ?_ (by rfl) ?_ ?_; rotate_left 1; (focus (intro wc hC; skip; go_simp; try rfl)); go_simp; refine hK.out _ ?_; clear hK K)
          refine hh_done (by kernel_rfl) ?_
          simp only [List.drop_succ_cons, List.drop_zero]
          change wpList _ _ _ _ _ _
          have HL5 := hid (hL.out.below vhB3.out)
          have HM5 := hid (hM.out.below vhB3.out (by omega))
          have hsz5 := vhB3.out.size
          have HZ := hid (show z = (Red.rowL A S i).getD j 0 by rw [show (Red.rowL A S i).getD j 0 = A.getD (i * S + j) 0 from rowL_at hjt]; exact hz.out)
          have HL6 := hid (HL5.out.set cj (M.plus y z))
          rw [HCJ.out, Red.accS_step (by rw [← HCJ.out]; exact HY.out) HZ.out, ← HCJ.out] at HL6
          have HM6 := hid (HM5.out.apart (q := wo.heap.size) (by omega) (by omega) (by omega) (by omega) cj (.int .i64 (M.plus y z)))
          obtain ⟨y7, hc7, hf7⟩ := HL5.out.cell (k := cj) (by rw [Red.accS_len]; omega)
          go_wp2_with fail
          go_roundw
          case rel => exact ⟨j + 1, by go_num, by omega, by simp; omega, HL6, HM6⟩
          case measure => simp [intOf]; omega
        · obtain rfl : S = j := by omega
          obtain ⟨cb, co, x, rfl, hcx, x1, x2, hx⟩ := CU.out.at (k := i) hiS
          have hcj := HC.out.lt hiS
          rw [← HCN.out] at hcj
          have hx3 := hx.out.trans (Red.ints_getD cls i)
          obtain ⟨ci, hci0⟩ : ∃ ci, ci = cls.getD i 0 := ⟨_, rfl⟩
          rw [← hci0] at hcj hx3
          subst hx3
          have HCI := hid hci0
          obtain ⟨⟨r0, r1, r2⟩, _⟩ := blk3 hM.out.out
          have HU : Hid (∀ wc, Below U.heap.size U wc → wc.cell? ⟨cb, co + i, none⟩ = some (.int .i64 ci) ∧ wc.cell? ⟨w3.heap.size, 0, none⟩ = some (.int .i64 cn) ∧ wc.cell? ⟨w3.heap.size, 1, none⟩ = some (.slice (some ⟨bA, 0, none⟩) nn nn) ∧ wc.cell? ⟨w3.heap.size, 2, none⟩ = some (.slice (some ⟨bB, 0, none⟩) cn cn)) :=
            hid fun wc h => ⟨(h.cell (World.block_lt_of_cell? U _ hcx)).trans hcx, (h.cell (World.block_lt_of_cell? U _ r0)).trans r0, (h.cell (World.block_lt_of_cell? U _ r1)).trans r1, (h.cell (World.block_lt_of_cell? U _ r2)).trans r2⟩
          have hii2 : (i : Int) < (S : Int) := by omega
          have hcx0 := hid hcx
          clear hci0 hx r0 r1 r2 hcx
          go_wp2_with fail
          refine wp_region_tail (C := fun wc => Below U.heap.size U wc) 7 rfl (by kernel_rfl) ((Below.refl _ _).drew) ?_
          simp only [List.take_succ_cons, List.take_zero, List.drop_succ_cons, List.drop_zero]
          (refine quiet_val ?_ (by rfl) ?_ ?_; rotate_left 1; focus (intro wc hC; obtain ⟨s0, s1, s2, s3⟩ := HU.out wc hC; go_simp; try rfl))
          (refine quiet_val ?_ (by rfl) ?_ ?_; rotate_left 1; focus (intro wc hC; skip; go_simp; try rfl))
          (refine quiet_val ?_ (by rfl) ?_ ?_; rotate_left 1; focus (intro wc hC; skip; go_simp; try rfl))
          (refine quiet_val ?_ (by rfl) ?_ ?_; rotate_left 1; focus (intro wc hC; skip; go_simp; try rfl))
          (refine quiet_val ?_ (by rfl) ?_ ?_; rotate_left 1; focus (intro wc hC; obtain ⟨s0, s1, s2, s3⟩ := HU.out wc hC; go_simp; try rfl))
          (refine quiet_call (.slice (some ⟨bA, ci * cn, none⟩) cn (nn - ci * cn)) ?_ ?_ (by rfl) ?_ ?_ ?_; rotate_left 2; focus (intro wc hC; go_simp; first | done | rfl | (refine And.intro ?_ ?_ <;> rfl)))
          focus (intro wc hC; exact (impl_row cn ci bA 0 nn nn _ wc ENN.out (Nat.le_refl _) (by omega) hcj hc8).mono fun _ _ h => ⟨by rw [h.1, Nat.zero_add], hC.trans (h.2.mono hC.size)⟩)
          (refine quiet_val ?_ (by rfl) ?_ ?_; rotate_left 1; focus (intro wc hC; skip; go_simp; try rfl))
          intro w4 hC4
          have y4 := hC4.size
          have M4 := hid (hM.out.below hC4 (by omega))
          have L4 := hid ((hL.out.below hC4).fr (lo := 0) (Nat.zero_le _) (Red.accS_len _ _ _ _) (by omega) (Red.accS_wf _ _ _ _)).rd
          have hbd := Red.mul_step hcj
          obtain ⟨w5, hcp, hbi, hgr, hsz5⟩ := run_copy_all (dLen := cn) (dCap := nn - ci * cn) M4.out.a (off := ci * cn) L4.out (Nat.le_refl _) (by rw [Red.flat_len]; exact hbd) 3
          rw [Red.flat_step HCI.out hcj, show S - (i + 1) + 1 = S - i by omega] at hbi
          have M5 := hid (M4.out.copied hgr hbi (by omega) (by omega) (by omega) (by omega))
          have y5 : wo.heap.size < w5.heap.size := by omega
          obtain ⟨b5, o5, x5, e5, hcx5, _, _, hx5⟩ := (FC.out.below M5.out.l).at (k := i) hiS
          cases e5
          have hx6 := hx5.out.trans (Red.ints_getD cls i)
          rw [← HCI.out] at hx6
          subst hx6
          have LW := hid (L2.out.trans (M5.out.l.mono (by omega)))
          obtain ⟨⟨q0, q1, q2⟩, _⟩ := blk3 (M5.out.old (show w.heap.size < w2.heap.size by omega) K2.out)
          obtain ⟨⟨r0, r1, r2⟩, _⟩ := blk3 M5.out.out
          obtain ⟨bb, bo, v, rfl, hcv, v1, v2, hv⟩ := (H2.out.below LW.out).at (k := i) hiS
          obtain ⟨y, hy⟩ : ∃ y, y = (firstN (fun c => Red.overD B cls c (i + 1) (S - (i + 1))) cn).getD ci 0 := ⟨_, rfl⟩
          have hyc := bi_cell M5.out.b (j := ci) (by rw [firstN_len]; exact hcj)
          rw [← hy, Nat.zero_add] at hyc
          obtain ⟨y7, hc7, hf7⟩ := M5.out.b.cell (k := ci) (by rw [firstN_len]; exact hcj)
          have HU2 : Hid (∀ wc, Below w5.heap.size w5 wc → wc.cell? ⟨w3.heap.size, 2, none⟩ = some (.slice (some ⟨bB, 0, none⟩) cn cn) ∧ wc.cell? ⟨cb, co + i, none⟩ = some (.int .i64 ci) ∧ wc.cell? ⟨bB, ci, none⟩ = some (.int .i64 y) ∧ wc.cell? ⟨w.heap.size, 2, none⟩ = some (.slice (some ⟨bb, bo, none⟩) S c2) ∧ wc.cell? ⟨bb, bo + i, none⟩ = some (.int .i64 v)) :=
            hid fun wc h => ⟨(h.cell (World.block_lt_of_cell? w5 _ r2)).trans r2, (h.cell (World.block_lt_of_cell? w5 _ hcx5)).trans hcx5, (h.cell (World.block_lt_of_cell? w5 _ hyc)).trans hyc, (h.cell (World.block_lt_of_cell? w5 _ q2)).trans q2, (h.cell (World.block_lt_of_cell? w5 _ hcv)).trans hcv⟩
          have hM6 := M5.out.drew.storeB ci (M.plus y v) (by omega) (by omega) (by omega)
          rw [Red.b_step HCI.out hy hv.out hcj, show S - (i + 1) + 1 = S - i by omega] at hM6
          have M6 := hid hM6
          have hcji : (ci : Int) < (cn : Int) := by omega
          have hwi : IntKind.i64.wrap ((i : Int) - 1) = (i : Int) - 1 := IntWalk.i64_in _ ⟨by omega, by omega⟩
          clear hM6 hy hv hx5 hbi hgr
          go_wp2_with fail
          clear hcp hcx5 q0 q1 q2 r0 r1 r2 hcv hyc

          have xhB1 := hid (show Below w5.heap.size w5 w5.drew from (Below.refl _ _).drew)
          refine (fun (HG : Rg _ _ 21) => wp_region_hh (S := fun w' => Below w5.heap.size w5 w') HG rfl ?_) ⟨by kernel_rfl, by decide, by kernel_rfl, by kernel_rfl, fun _ _ d _ _ h => by cases d <;> exact h⟩
          (refine hh_take 0 HG rfl (by decide) (by kernel_rfl) (by kernel_rfl) xhB1.out (fun K hK => ?_); refine take_val ?_ (by rfl) ?_ ?_; rotate_left 1; (focus (intro wc hC; skip; go_simp; try rfl)); go_simp; refine hK.out _ ?_; clear hK K)
          (refine hh_take 1 HG rfl (by decide) (by kernel_rfl) (by kernel_rfl) xhB1.out (fun K hK => ?_); refine take_val ?_ (by rfl) ?_ ?_; rotate_left 1; (focus (intro wc hC; obtain ⟨s1, s2, s3, s4, s5⟩ := HU2.out wc hC; go_simp; try rfl)); go_simp; refine hK.out _ ?_; clear hK K)
          (refine hh_take 2 HG rfl (by decide) (by kernel_rfl) (by kernel_rfl) xhB1.out (fun K hK => ?_); refine take_val ?_ (by rfl) ?_ ?_; rotate_left 1; (focus (intro wc hC; skip; go_simp; try rfl)); go_simp; refine hK.out _ ?_; clear hK K)
          (refine hh_take 3 HG rfl (by decide) (by kernel_rfl) (by kernel_rfl) xhB1.out (fun K hK => ?_); refine take_val ?_ (by rfl) ?_ ?_; rotate_left 1; (focus (intro wc hC; skip; go_simp; try rfl)); go_simp; refine hK.out _ ?_; clear hK K)
          (refine hh_take 4 HG rfl (by decide) (by kernel_rfl) (by kernel_rfl) xhB1.out (fun K hK => ?_); refine take_val ?_ (by rfl) ?_ ?_; rotate_left 1; (focus (intro wc hC; skip; go_simp; try rfl)); go_simp; refine hK.out _ ?_; clear hK K)
          (refine hh_take 5 HG rfl (by decide) (by kernel_rfl) (by kernel_rfl) xhB1.out (fun K hK => ?_); refine take_val ?_ (by rfl) ?_ ?_; rotate_left 1; (focus (intro wc hC; obtain ⟨s1, s2, s3, s4, s5⟩ := HU2.out wc hC; go_simp; try rfl)); go_simp; refine hK.out _ ?_; clear hK K)
          (refine hh_take 6 HG rfl (by decide) (by kernel_rfl) (by kernel_rfl) xhB1.out (fun K hK => ?_); refine take_val ?_ (by rfl) ?_ ?_; rotate_left 1; (focus (intro wc hC; skip; go_simp; try rfl)); go_simp; refine hK.out _ ?_; clear hK K)
          (refine hh_take 7 HG rfl (by decide) (by kernel_rfl) (by kernel_rfl) xhB1.out (fun K hK => ?_); refine take_val ?_ (by rfl) ?_ ?_; rotate_left 1; (focus (intro wc hC; obtain ⟨s1, s2, s3, s4, s5⟩ := HU2.out wc hC; go_simp; try rfl)); go_simp; refine hK.out _ ?_; clear hK K)
          (refine hh_take 8 HG rfl (by decide) (by kernel_rfl) (by kernel_rfl) xhB1.out (fun K hK => ?_); refine take_val ?_ (by rfl) ?_ ?_; rotate_left 1; (focus (intro wc hC; skip; go_simp; try rfl)); go_simp; refine hK.out _ ?_; clear hK K)
          (refine hh_take 9 HG rfl (by decide) (by kernel_rfl) (by kernel_rfl) xhB1.out (fun K hK => ?_); refine take_val ?_ (by rfl) ?_ ?_; rotate_left 1; (focus (intro wc hC; skip; go_simp; try rfl)); go_simp; refine hK.out _ ?_; clear hK K)
          (refine hh_take 10 HG rfl (by decide) (by kernel_rfl) (by kernel_rfl) xhB1.out (fun K hK => ?_); refine take_val ?_ (by rfl) ?_ ?_; rotate_left 1; (focus (intro wc hC; skip; go_simp; try rfl)); go_simp; refine hK.out _ ?_; clear hK K)
          (refine hh_take 11 HG rfl (by decide) (by kernel_rfl) (by kernel_rfl) xhB1.out (fun K hK => ?_); refine take_val ?_ (by rfl) ?_ ?_; rotate_left 1; (focus (intro wc hC; obtain ⟨s1, s2, s3, s4, s5⟩ := HU2.out wc hC; go_simp; try rfl)); go_simp; refine hK.out _ ?_; clear hK K)
          (refine hh_take 12 HG rfl (by decide) (by kernel_rfl) (by kernel_rfl) xhB1.out (fun K hK => ?_); refine take_val ?_ (by rfl) ?_ ?_; rotate_left 1; (focus (intro wc hC; skip; go_simp; try rfl)); go_simp; refine hK.out _ ?_; clear hK K)
          (refine hh_take 13 HG rfl (by decide) (by kernel_rfl) (by kernel_rfl) xhB1.out (fun K hK => ?_); refine take_val ?_ (by rfl) ?_ ?_; rotate_left 1; (focus (intro wc hC; obtain ⟨s1, s2, s3, s4, s5⟩ := HU2.out wc hC; go_simp; try rfl)); go_simp; refine hK.out _ ?_; clear hK K)
          (refine hh_take 14 HG rfl (by decide) (by kernel_rfl) (by kernel_rfl) xhB1.out (fun K hK => ?_); refine take_val ?_ (by rfl) ?_ ?_; rotate_left 1; (focus (intro wc hC; skip; go_simp; try rfl)); go_simp; refine hK.out _ ?_; clear hK K)
          (refine hh_take 15 HG rfl (by decide) (by kernel_rfl) (by kernel_rfl) xhB1.out (fun K hK => ?_); refine take_val ?_ (by rfl) ?_ ?_; rotate_left 1; (focus (intro wc hC; obtain ⟨s1, s2, s3, s4, s5⟩ := HU2.out wc hC; go_simp; try rfl)); go_simp; refine hK.out _ ?_; clear hK K)
          (refine hh_take 16 HG rfl (by decide) (by kernel_rfl) (by kernel_rfl) xhB1.out (fun K hK => ?_); refine take_val ?_ (by rfl) ?_ ?_; rotate_left 1; (focus (intro wc hC; skip; go_simp; try rfl)); go_simp; refine hK.out _ ?_; clear hK K)
          (refine hh_take 17 HG rfl (by decide) (by kernel_rfl) (by kernel_rfl) xhB1.out (fun K hK => ?_); refine take_val ?_ (by rfl) ?_ ?_; rotate_left 1; (focus (intro wc hC; skip; go_simp; try rfl)); go_simp; refine hK.out _ ?_; clear hK K)
          (refine hh_take 18 HG rfl (by decide) (by kernel_rfl) (by kernel_rfl) xhB1.out (fun K hK => ?_); refine take_val ?_ (by rfl) ?_ ?_; rotate_left 1; (focus (intro wc hC; obtain ⟨s1, s2, s3, s4, s5⟩ := HU2.out wc hC; go_simp; try rfl)); go_simp; refine hK.out _ ?_; clear hK K)
          refine hh_mid 19 rfl (by decide) (by kernel_rfl) (fun K hK => ?_)
          (refine mid_call ?_ ?_ (by rfl) ?_ ?_; rotate_left 2; (focus (go_simp; first | done | rfl | (refine And.intro ?_ ?_ <;> rfl))))
          refine (impl_Plus _ _ _).mono ?_
          rintro e w' ⟨rfl, rfl⟩
          refine ⟨_, rfl, ?_⟩
          (go_simp; refine hK.out _ _ ?_ ?_ <;> clear hK K)
          · exact xhB1.out
          (refine hh_take 20 HG rfl (by decide) (by kernel_rfl) (by kernel_rfl) xhB1.out (fun K hK => ?_); refine take_val ?_ (by rfl) ?_ ?_; rotate_left 1; (focus (intro wc hC; skip; go_simp; try rfl)); go_simp; refine hK.out _ ?_; clear hK K)
          refine hh_done (by kernel_rfl) ?_
          simp only [List.drop_succ_cons, List.drop_zero]
          change wpList _ _ _ _ _ _
          have hc8 : w5.drew.cell? ⟨bB, ci, none⟩ = some (.int .i64 y7) := hc7
          have hf8 : w5.drew.frozen? ⟨bB, ci, none⟩ = false := hf7
          go_wp2_with fail
          go_roundw
          case rel => exact ⟨i, (i : Int) - 1, by go_num, rfl, by omega, by simp; omega, M6⟩
          case measure => simp [intOf]
end Go.Proofs.Ytekojohhjnklkaa
