/- FieldSeries: blank series; the contracts. -/
import Derived.Test.YtgbjoaheidgafaaDoorSer
import Derived.Test.YtgbjoaheidgafaaDoorEmpty
namespace Go.Proofs.YtgbjoaheidgafaaDoor
open Go.RowKit

theorem spec_l2Starts (w : World) : Calls Tryd.prog 53 #[] w fun e w' => e = .returned (.slice (some ⟨w.heap.size, 0, none⟩) 7 7) ∧ Below w.heap.size w w' ∧ Rd w' (some ⟨w.heap.size, 0, none⟩) 7 7 treesL := by
  go_enter Tryd.func53, Tryd.ntmps53
  go_wp2
  go_ret
  exact ⟨rfl, below_new _ _, (Fr.lit w treesL _ 7 rfl rfl (by omega) (by unfold treesL; intro x hx; simp only [List.mem_cons, List.not_mem_nil, or_false] at hx; unfold I64; omega)).rd⟩
theorem spec_CountTrees (n : Int) (w : World) : Calls Tryd.prog 38 #[.int .i64 n] w fun e w' => e = .returned (.int .i64 (trees n)) ∧ Below w.heap.size w w' := by
  by_cases c0 : 0 ≤ n ∧ n ≤ 6
  · have hin : inB n 0 6 = true := decide_eq_true c0
    have HH := hid (show trees n = treesL.getD n.toNat 0 from if_pos c0)
    have HIN := hid hin
    obtain ⟨k, rfl⟩ := Int.eq_ofNat_of_zero_le c0.1
    rw [Int.toNat_natCast] at HH
    have hk : k < 7 := by omega
    have hki : (k : Int) < 7 := by omega
    clear c0 hin
    go_enter Tryd.func38, Tryd.ntmps38
    go_wp2_with fail
    refine (spec_l1In _ _ _ _).mono ?_
    rw [HIN.out]
    rintro e w' ⟨rfl, rfl⟩
    go_wp2_with fail
    refine (spec_l2Starts _).mono ?_
    rintro e w1 ⟨rfl, hB, hR⟩
    obtain ⟨b, o, x, e, hc, _, _, hx⟩ := hR.at hk
    cases e
    simp only [Nat.zero_add] at hc
    have HB := hid hB
    clear hB hR
    go_wp2_with fail
    go_ret
    exact ⟨ret_i (by rw [HH.out]; exact hx.out), HB.out⟩
  · have hin : inB n 0 6 = false := decide_eq_false c0
    have HH := hid (trees_out c0)
    have HIN := hid hin
    clear c0 hin
    go_enter Tryd.func38, Tryd.ntmps38
    go_wp2_with fail
    refine (spec_l1In _ _ _ _).mono ?_
    rw [HIN.out]
    rintro e w' ⟨rfl, rfl⟩
    go_wp2_with fail
    go_ret
    exact ⟨ret_i HH.out.symm, Below.refl _ _⟩
theorem trees_nat {k : Nat} (h : k ≤ 6) : ∃ n : Nat, trees (k : Int) = n ∧ n ≤ 37 ∧ (1 ≤ k → 1 ≤ n) := by
  refine ⟨(treesL.getD k 0).toNat, ?_⟩
  rw [trees_in h]
  match k, h with
  | 0, _ => decide
  | 1, _ => decide
  | 2, _ => decide
  | 3, _ => decide
  | 4, _ => decide
  | 5, _ => decide
  | 6, _ => decide
/-- A series of zeros. -/
def BlankS (w w' : World) (n b : Nat) : Prop := w'.heap[b]? = some (.cells (zeros n) 3 (0, 0)) ∧ Below w.heap.size w w' ∧ w.heap.size ≤ b ∧ b < w'.heap.size
theorem impl_blank (k n : Nat) (z : Int) (w : World) (ht : Tc w) (hn : trees (k : Int) = n) (hk : n ≤ 37) :
    Calls Tryd.prog 22 #[.int .i64 k, .int .i64 z] w fun e w' => ∃ b, e = .returned (.agg #[.int .i64 k, .int .i64 z, .slice (some ⟨b, 0, none⟩) n n]) ∧ BlankS w w' n b := by
  have m1 := run_mk n (n : Int) rfl (by omega)
  have HT := hid ht
  have HN := hid hn
  clear ht hn
  go_enter Tryd.func22, Tryd.ntmps22
  go_wp2_with fail
  refine (impl_CountTrees _ _ (HT.out.below (below_box _ _))).mono ?_
  rw [HN.out]
  rintro e w' ⟨rfl, rfl⟩
  go_wp2_with fail
  have e2 : (w.alloc (.cells #[.int .i64 k, .int .i64 z, .slice (some ⟨w.heap.size + 1, 0, none⟩) n n] 24)).heap.size = w.heap.size + 1 := by simp
  refine ret_ser (b := w.heap.size) rfl rfl (by rw [heap_alloc_past _ _ _ (by simp), heap_alloc_at _ _ _ _ rfl]) rfl ⟨_, rfl, by rw [heap_alloc_at _ _ _ _ e2.symm], (below_box _ _).alloc (by simp) _, by omega, by simp⟩
set_option maxHeartbeats 1000000 in
theorem spec_l4Zero (k n : Nat) (w : World) (hn : trees (k : Int) = n) (hk : n ≤ 37) :
    Calls Tryd.prog 21 #[.int .i64 k] w fun e w' => ∃ b, e = .returned (.agg #[.int .i64 k, .int .i64 0, .slice (some ⟨b, 0, none⟩) n n]) ∧ BlankS w w' n b := by
  have m1 := run_mk n (n : Int) rfl (by omega)
  have HN := hid hn
  clear hn
  go_enter Tryd.func21, Tryd.ntmps21
  go_wp2_with fail
  refine (spec_CountTrees _ _).mono ?_
  rw [HN.out]
  rintro e w1 ⟨rfl, hB⟩
  have hs := hB.size
  simp only [World.size_alloc] at hs
  have K := hid (bk_below (bk_new w #[.int .i64 0, .int .i64 0, .slice none 0 0] 24) hB)
  have HB := hid ((below_box w _).trans (hB.mono (by simp)))
  have hlt : w.heap.size < w1.heap.size := by omega
  obtain ⟨⟨q0, q1, q2⟩, f0, f1, f2⟩ := blk3 K.out
  clear hB
  go_wp2_with fail
  refine ret_ser (b := w.heap.size) rfl rfl (bk_alloc (heap_setCell_same _ _ _ _ _ _ (heap_setCell_same _ _ _ _ _ _ (heap_setCell_same _ _ _ _ _ _ K.out))) _) rfl ⟨w1.heap.size, rfl, heap_alloc_at _ _ _ _ (by simp), ?_, HB.out.size, by simp⟩
  exact (((HB.out.setCell (Nat.le_refl _) _).setCell (Nat.le_refl _) _).setCell (Nat.le_refl _) _).alloc (by simpa using HB.out.size) _
/-- FieldSeries -/
def fieldV (x : Int) : Sb := if 1 ≤ x ∧ x ≤ 6 then ⟨x, 0, (List.replicate (trees x).toNat 0).set 0 1, true⟩ else Sb.none
theorem fieldV_len (x : Int) : (fieldV x).A.length ≤ 1000 := by
  unfold fieldV
  have := trees_bd x
  split
  · simp; omega
  · simp [Sb.none]
theorem field_end {w w1 w2 : World} {k n b : Nat} (hB : Below w.heap.size w w1) (hb : BlankS w1 w2 n b) (hn : 1 ≤ n) (hn2 : n ≤ 37) (W : World)
    (hW : W = ((((w2.setCell ⟨b, 0, none⟩ (.int .i64 1)).setCell ⟨w.heap.size, 0, none⟩ (.int .i64 k)).setCell ⟨w.heap.size, 1, none⟩ (.int .i64 0)).setCell ⟨w.heap.size, 2, none⟩ (.slice (some ⟨b, 0, none⟩) n n)).alloc (.cells #[.int .i64 k, .int .i64 0, .slice (some ⟨b, 0, none⟩) n n] 24))
    (hk : w2.heap[w.heap.size]? = some (.cells #[.int .i64 0, .int .i64 0, .slice none 0 0] 24 (0, 0))) (hlt : w.heap.size < w1.heap.size) :
    W.heap[w.heap.size]? = some (.cells #[.int .i64 k, .int .i64 0, .slice (some ⟨b, 0, none⟩) n n] 24 (0, 0)) ∧ NewS w W ((List.replicate n 0).set 0 1) (some ⟨b, 0, none⟩) n n := by
  obtain ⟨h1, h2, h3, h4⟩ := hb
  have hne : w.heap.size ≠ b := by omega
  have hF : Fr w2 w1.heap.size (some ⟨b, 0, none⟩) n n (List.replicate n 0) := fr_zeros h1 h3 (by omega)
  subst hW
  refine ⟨bk_alloc (heap_setCell_same _ _ _ _ _ _ (heap_setCell_same _ _ _ _ _ _ (heap_setCell_same _ _ _ _ _ _ ((heap_setCell_other _ _ _ _ hne).trans hk)))) _, ?_, trivial, trivial, ?_⟩
  · have hs := hF.store (k := 0) (by omega) (x := 1) ⟨by decide, by decide⟩
    exact ((((hs.setCell _ (blk_ne (Ne.symm hne))).setCell _ (blk_ne (Ne.symm hne))).setCell _ (blk_ne (Ne.symm hne))).alloc _).mono (by omega)
  · have hB2 := hB.trans (h2.mono (by omega))
    exact ((((hB2.setCell (show w.heap.size ≤ b by omega) _).setCell (Nat.le_refl _) _).setCell (Nat.le_refl _) _).setCell (Nat.le_refl _) _).alloc (by simpa using hB2.size) _
theorem field_yes {k : Nat} (h1 : 1 ≤ k) (h6 : k ≤ 6) {n : Nat} (hn : trees (k : Int) = n) : fieldV (k : Int) = ⟨(k : Int), 0, (List.replicate n 0).set 0 1, true⟩ := by
  unfold fieldV
  rw [if_pos ⟨by omega, by omega⟩, hn, Int.toNat_natCast]
theorem field_no {x : Int} (h : ¬ (1 ≤ x ∧ x ≤ 6)) : fieldV x = Sb.none := if_neg h
set_option maxHeartbeats 1000000 in
theorem impl_FieldSeries (x : Int) (w : World) (_hx : I64 x) (ht : Tc w) {ro rz : Int} {rA : List Int} {rb : Bool} (hr : fieldV x = ⟨ro, rz, rA, rb⟩) :
    Calls Tryd.prog 8 #[.int .i64 x] w fun e w' => ∃ p n c, e = .returned (.agg #[.int .i64 ro, .int .i64 rz, .slice p n c]) ∧ NewS w w' rA p n c := by
  by_cases c0 : 1 ≤ x
  · by_cases c6 : x ≤ 6
    · obtain ⟨k, rfl⟩ := Int.eq_ofNat_of_zero_le (show 0 ≤ x by omega)
      obtain ⟨n, hn, h37, h1n⟩ := trees_nat (k := k) (by omega)
      rw [field_yes (by omega) (by omega) hn] at hr
      cases hr
      have hn1 := h1n (by omega)
      have HT := hid ht
      have HN := hid hn
      clear ht hn h1n
      have K0 := hid (bk_new w #[.int .i64 0, .int .i64 0, .slice none 0 0] 24)
      go_enter Tryd.func8, Tryd.ntmps8
      go_wp2_with fail
      refine (impl_blank k n 0 _ (HT.out.below (below_box _ _)) HN.out h37).mono ?_
      rintro e w2 ⟨b, rfl, hb⟩
      have K2 := hid (bk_below K0.out hb.2.1)
      have HB := hid hb
      have y1 := hb.2.1.size
      have y2 := hb.2.2.1
      have y3 := hb.2.2.2
      simp only [World.size_alloc] at y1 y2
      have hF := (fr_zeros (lo := 0) hb.1 (Nat.zero_le _) (by omega))
      obtain ⟨b', o', y, e, hc, _, _, _⟩ := (hF.alloc (.cells #[.int .i64 k, .int .i64 0, .slice (some ⟨b, 0, none⟩) n n] 24)).rd.at (k := 0) (by omega)
      cases e
      have hfz := ((hF.alloc (.cells #[.int .i64 k, .int .i64 0, .slice (some ⟨b, 0, none⟩) n n] 24)).own _ _ _ rfl (by omega)).2 0 (by omega)
      simp only [Nat.zero_add] at hc hfz
      have hlt : w.heap.size < w2.heap.size := by omega
      obtain ⟨⟨q0, q1, q2⟩, f0, f1, f2⟩ := blk3 K2.out
      have hne : b ≠ w2.heap.size := by omega
      have hne2 : b ≠ w.heap.size := by omega
      have hni : (0 : Int) < (n : Int) := by omega
      clear hb hF
      go_wp2_with fail
      obtain ⟨e1, e2⟩ := field_end (k := k) (below_box w (.cells #[.int .i64 0, .int .i64 0, .slice none 0 0] 24)) HB.out hn1 h37 _ rfl K2.out (by simp)
      exact ret_ser rfl rfl e1 rfl ⟨_, _, _, rfl, e2⟩
    · rw [field_no (by omega)] at hr
      cases hr
      have K0 := bk_new w #[.int .i64 0, .int .i64 0, .slice none 0 0] 24
      go_enter Tryd.func8, Tryd.ntmps8
      go_wp2_with fail
      refine ret_ser (b := w.heap.size) rfl rfl (bk_new _ _ _) rfl ⟨_, _, _, rfl, NewS.none (below_box _ _)⟩
  · rw [field_no (by omega)] at hr
    cases hr
    go_enter Tryd.func8, Tryd.ntmps8
    go_wp2_with fail
    refine ret_ser (b := w.heap.size) rfl rfl (bk_new _ _ _) rfl ⟨_, _, _, rfl, NewS.none (below_box _ _)⟩
set_option maxHeartbeats 1000000 in
theorem spec_FieldSeries (x : Int) (w : World) (_hx : I64 x) (_ht : Tc w) {ro rz : Int} {rA : List Int} {rb : Bool} (hr : fieldV x = ⟨ro, rz, rA, rb⟩) :
    Calls Tryd.prog 7 #[.int .i64 x] w fun e w' => ∃ p n c, e = .returned (.agg #[.int .i64 ro, .int .i64 rz, .slice p n c]) ∧ NewS w w' rA p n c := by
  by_cases c0 : 1 ≤ x ∧ x ≤ 6
  · obtain ⟨k, rfl⟩ := Int.eq_ofNat_of_zero_le (show 0 ≤ x by omega)
    obtain ⟨n, hn, h37, h1n⟩ := trees_nat (k := k) (by omega)
    rw [field_yes (by omega) (by omega) hn] at hr
    cases hr
    have hn1 := h1n (by omega)
    have HN := hid hn
    have HIN := hid (show inB (k : Int) 1 6 = true from decide_eq_true c0)
    clear hn h1n c0
    have K0 := hid (bk_new w #[.int .i64 0, .int .i64 0, .slice none 0 0] 24)
    go_enter Tryd.func7, Tryd.ntmps7
    go_wp2_with fail
    refine (spec_l1In _ _ _ _).mono ?_
    rw [HIN.out]
    rintro e w' ⟨rfl, rfl⟩
    go_wp2_with fail
    refine (spec_l4Zero k n _ HN.out h37).mono ?_
    rintro e w2 ⟨b, rfl, hb⟩
    have K2 := hid (bk_below K0.out hb.2.1)
    have HB := hid hb
    have y1 := hb.2.1.size
    have y2 := hb.2.2.1
    have y3 := hb.2.2.2
    simp only [World.size_alloc] at y1 y2
    have hF := (fr_zeros (lo := 0) hb.1 (Nat.zero_le _) (by omega))
    obtain ⟨b', o', y, e, hc, _, _, _⟩ := (hF.alloc (.cells #[.int .i64 k, .int .i64 0, .slice (some ⟨b, 0, none⟩) n n] 24)).rd.at (k := 0) (by omega)
    cases e
    have hfz := ((hF.alloc (.cells #[.int .i64 k, .int .i64 0, .slice (some ⟨b, 0, none⟩) n n] 24)).own _ _ _ rfl (by omega)).2 0 (by omega)
    simp only [Nat.zero_add] at hc hfz
    have hlt : w.heap.size < w2.heap.size := by omega
    obtain ⟨⟨q0, q1, q2⟩, f0, f1, f2⟩ := blk3 K2.out
    have hne : b ≠ w2.heap.size := by omega
    have hne2 : b ≠ w.heap.size := by omega
    have hni : (0 : Int) < (n : Int) := by omega
    clear hb hF
    go_wp2_with fail
    obtain ⟨e1, e2⟩ := field_end (k := k) (below_box w (.cells #[.int .i64 0, .int .i64 0, .slice none 0 0] 24)) HB.out hn1 h37 _ rfl K2.out (by simp)
    exact ret_ser rfl rfl e1 rfl ⟨_, _, _, rfl, e2⟩
  · rw [field_no c0] at hr
    cases hr
    have HIN := hid (show inB x 1 6 = false from decide_eq_false c0)
    clear c0
    go_enter Tryd.func7, Tryd.ntmps7
    go_wp2_with fail
    refine (spec_l1In _ _ _ _).mono ?_
    rw [HIN.out]
    rintro e w' ⟨rfl, rfl⟩
    go_wp2_with fail
    refine ret_ser (b := w.heap.size) rfl rfl (bk_new _ _ _) rfl ⟨_, _, _, rfl, NewS.none (below_box _ _)⟩
end Go.Proofs.YtgbjoaheidgafaaDoor
