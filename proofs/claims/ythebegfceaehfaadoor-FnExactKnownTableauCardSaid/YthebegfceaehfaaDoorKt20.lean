/- Merged texts: KnS, WKnownTableau, Open, Sh. -/
import Derived.Test.YthebegfceaehfaaDoorKt19
import Derived.Test.YthebegfceaehfaaDoorKt4
import Derived.Test.YthebegfceaehfaaDoorKt2
import Derived.OpenShut
import Derived.ShutString
import Derived.ChangeOld
import Derived.Lib.SmallJoins
import Derived.Test.YthebegfceaehfaaDoorKt6
import Derived.Handed
import Derived.Test.YthebegfceaehfaaDoorShelf
/- KnS: KnownTableau of the reference. -/
namespace Go.Proofs.YthebegfceaehfaaDoor
open Go.RowKit

theorem spec_dec1 {k : Nat} (hk : k ≤ 4) (w : World) :
    Calls Tryd.prog 22 #[.int .i64 k] w fun e w' => e = .returned (.string ⟨#[dgt k]⟩) ∧ Below w.heap.size w w' := by
  have h := spec_dec_nat k w (by omega)
  rw [decN_lo (by omega)] at h
  exact h
theorem name_of {p : List UInt8} {k : Nat} {a0 G : ByteArray} (ha : a0 = ⟨#[dgt k]⟩) (hG : G = bs p ++ a0) : G.toList = p ++ [dgt k] := by
  rw [hG, ha, Lib.toList_data, show (⟨#[dgt k]⟩ : ByteArray) = bs [dgt k] from rfl, bs_append, bs_data]
theorem no_name {p : List UInt8} {k : Nat} {s a0 G : ByteArray} (h : (s.toList == G.toList) = false) (ha : a0 = ⟨#[dgt k]⟩) (hG : G = bs p ++ a0) (hd : s.toList = s.data.toList) : s.data.toList ≠ p ++ [dgt k] := fun e => by
  rw [hd, e, name_of ha hG, beq_self_eq_true] at h
  cases h
set_option maxRecDepth 20000 in
set_option maxHeartbeats 8000000 in
theorem spec_KnownTableau_text (s : ByteArray) (w : World) (hm : Mx w) (hk : ktText s.data.toList ≠ []) {rs : Int} {rA rB : List Int} {rb : Bool} (hr : ptI (ktText s.data.toList) = ⟨rs, rA, rB, rb⟩) :
    Calls Tryd.prog 10 #[.string s] w fun e w' => ∃ p n c q m' d', e = .returned (.tuple #[.agg #[.int .i64 rs, .slice p n c, .slice q m' d'], .bool rb]) ∧ NewT w w' rA rB p n c q m' d' := by
  have HM := hid hm
  have HR := hid hr
  have RS0 := hid (bk_new w #[.int .i64 0, .slice none 0 0, .slice none 0 0] 24)
  have B0 := hid (below_box w (.cells #[.int .i64 0, .slice none 0 0, .slice none 0 0] 24))
  obtain ⟨T, hT⟩ : ∃ T, T = bs (ktText s.data.toList) := ⟨_, rfl⟩
  have HT := hid hT
  have hT0 : (T.toList == []) = false := by
    rw [hT, Lib.toList_data, bs_data]
    exact beq_eq_false_iff_ne.2 hk
  have hT0' : (T.toList == ([] : List UInt8)) = false := hT0
  clear hk hr hm hT
  have LT : ∀ w, Calls Tryd.prog 21 #[.string s] w fun e w' => e = .returned (.string T) ∧ w' = w := fun w => by
    rw [HT.out]
    exact spec_l7Text s w
  have LT := hid LT
  go_enter Tryd.func10, Tryd.ntmps10
  go_wp2_with fail
  refine (LT.out _).mono ?_
  rintro e w1 ⟨rfl, rfl⟩
  go_wp2_with fail
  refine (LT.out _).mono ?_
  rintro e w1 ⟨rfl, rfl⟩
  go_wp2_with fail
  refine (spec_ParseTableau _ _ (by rw [HT.out, bs_size]; exact kt_size _) (HM.out.below B0.out) (rs := rs) (rA := rA) (rB := rB) (rb := rb) (by rw [HT.out, bs_data]; exact HR.out)).mono ?_
  rintro e w1 ⟨p, n, c, q, m', d', rfl, hN⟩
  have HN := hid hN
  have hR := bk_below RS0.out hN.2.2.2
  have HRS := hid hR
  obtain ⟨⟨r0, r1, r2⟩, f0, f1, f2⟩ := blk3 hR
  clear hR hN
  go_wp2_with fail
  exact ret_tabb rfl rfl rfl (heap_setCell_same _ _ _ _ _ _ (heap_setCell_same _ _ _ _ _ _ (heap_setCell_same _ _ _ _ _ _ HRS.out))) rfl ⟨_, _, _, _, _, _, rfl, newT_stores HN.out B0.out (Nat.le_refl _) (by simp) _ _ _⟩
set_option maxRecDepth 20000 in
set_option maxHeartbeats 8000000 in
theorem spec_KnownTableau_name (s : ByteArray) (w : World) (hk : ktText s.data.toList = []) {rs : Int} {rA rB : List Int} {rb : Bool} (hr : knV s.data.toList = ⟨rs, rA, rB, rb⟩) :
    Calls Tryd.prog 10 #[.string s] w fun e w' => ∃ p n c q m' d', e = .returned (.tuple #[.agg #[.int .i64 rs, .slice p n c, .slice q m' d'], .bool rb]) ∧ NewT w w' rA rB p n c q m' d' := by
  have HK := hid hk
  have HR := hid hr
  have HD := hid (Lib.toList_data s)
  have RS0 := hid (bk_new w #[.int .i64 0, .slice none 0 0, .slice none 0 0] 24)
  have B0 := hid (below_box w (.cells #[.int .i64 0, .slice none 0 0, .slice none 0 0] 24))
  have LT : ∀ w, Calls Tryd.prog 21 #[.string s] w fun e w' => e = .returned (.string ⟨#[]⟩) ∧ w' = w := fun w => by
    have h := spec_l7Text s w
    rw [hk] at h
    exact h
  have LT := hid LT
  clear hk hr
  go_enter Tryd.func10, Tryd.ntmps10
  go_wp2_with fail
  refine (LT.out _).mono ?_
  rintro e w1 ⟨rfl, rfl⟩
  go_wp2_with fail
  go_loopw [4] (fun i wr => ∃ k : Nat, i = .int .i64 k ∧ 1 ≤ k ∧ k ≤ 5 ∧ Hid (KnTo s.data.toList k) ∧ Hid (Below (w.heap.size + 1) (w.alloc (.cells #[.int .i64 0, .slice none 0 0, .slice none 0 0] 24)) wr)) (fun i _ => 5 - (intOf i).toNat)
  case atStart => exact ⟨1, rfl, by omega, by omega, hid (KnTo.start _), hid (Below.refl _ _)⟩
  case round =>
    obtain ⟨k, rfl, hk1, hk5, hK, hB⟩ := hrel
    by_cases hlt : (k : Int) ≤ 4
    · have hk4 : k ≤ 4 := by omega
      obtain ⟨a0, ha0⟩ : ∃ a0, a0 = (⟨#[dgt k]⟩ : ByteArray) := ⟨_, rfl⟩
      have HA := hid ha0
      have hsz : a0.size ≤ 100000 := by rw [ha0]; exact Nat.le_of_ble_eq_true rfl
      obtain ⟨G, hG⟩ : ∃ G, G = (⟨#[103, 97, 117, 115, 115]⟩ : ByteArray) ++ a0 := ⟨_, rfl⟩
      obtain ⟨R, hR⟩ : ∃ R, R = (⟨#[114, 97, 100, 97, 117]⟩ : ByteArray) ++ a0 := ⟨_, rfl⟩
      obtain ⟨L, hL⟩ : ∃ L, L = (⟨#[108, 111, 98, 97, 116, 116, 111]⟩ : ByteArray) ++ a0 := ⟨_, rfl⟩
      have s1 := fun w => sadd w ⟨#[103, 97, 117, 115, 115]⟩ a0 (by decide) hsz
      have s2 := fun w => sadd w ⟨#[114, 97, 100, 97, 117]⟩ a0 (by decide) hsz
      have s3 := fun w => sadd w ⟨#[108, 111, 98, 97, 116, 116, 111]⟩ a0 (by decide) hsz
      rw [← hG] at s1
      rw [← hR] at s2
      rw [← hL] at s3
      have HG := hid hG
      have HRR := hid hR
      have HLL := hid hL
      have D1 := fun w => spec_dec1 hk4 w
      rw [← ha0] at D1
      have D1 := hid D1
      clear ha0 hsz hG hR hL
      go_wp2_with fail
      refine (D1.out _).mono ?_
      rintro e w2 ⟨rfl, hB2⟩
      have HB2 := hid (hB.out.trans (hB2.mono (by have := hB.out.size; simp at this; omega)))
      have B2 := hid (B0.out.trans (HB2.out.mono (Nat.le_succ _)))
      have R2 := hid ((HB2.out.block _ (Nat.lt_succ_self _)).trans RS0.out)
      clear hB2 hB
      cases q0 : (s.toList == G.toList) with
      | true =>
        have HS := hid ((eq_of_beq q0).trans (name_of (p := gaussT) HA.out HG.out))
        have HC : Hid (colV (M.gauss (k : Int)) = ⟨rs, rA, rB, rb⟩) := hid ((knV_gauss hk1 hk4).symm.trans ((congrArg knV (HS.out.symm.trans HD.out)).trans HR.out))
        go_wp2_with fail
        refine (spec_GaussNodes (k : Int) _).mono ?_
        rintro e w3 ⟨ao, n, c2, rfl, hN⟩
        have HNS := hid hN
        have B3 := hid (l_below B2.out hN.2)
        have R3 := hid (bk_below R2.out hN.2)
        have z3 := bk_lt R3.out
        clear hN
        go_wp2_with fail
        refine (spec_CollocationTableau _ _ _ _ _ HNS.out.1.rd HC.out).mono ?_
        rintro e w4 ⟨p, n', c3, q, m', d', rfl, hT⟩
        have HT := hid hT
        have hR4 := bk_below R3.out hT.2.2.2
        have R4 := hid hR4
        obtain ⟨⟨r0, r1, r2⟩, f0, f1, f2⟩ := blk3 hR4
        clear hR4 hT
        go_wp2_with fail
        exact ret_tabb rfl rfl rfl (heap_setCell_same _ _ _ _ _ _ (heap_setCell_same _ _ _ _ _ _ (heap_setCell_same _ _ _ _ _ _ R4.out))) rfl ⟨_, _, _, _, _, _, rfl, newT_stores HT.out B3.out (Nat.le_refl _) z3 _ _ _⟩
      | false =>
        cases q1 : (s.toList == R.toList) with
        | true =>
          have HS := hid ((eq_of_beq q1).trans (name_of (p := radauT) HA.out HRR.out))
          have HC : Hid (colV (M.radau (k : Int)) = ⟨rs, rA, rB, rb⟩) := hid ((knV_radau hk1 hk4).symm.trans ((congrArg knV (HS.out.symm.trans HD.out)).trans HR.out))
          go_wp2_with fail
          refine (spec_RadauNodes (k : Int) _).mono ?_
          rintro e w3 ⟨ao, n, c2, rfl, hN⟩
          have HNS := hid hN
          have B3 := hid (l_below B2.out hN.2)
          have R3 := hid (bk_below R2.out hN.2)
          have z3 := bk_lt R3.out
          clear hN
          go_wp2_with fail
          refine (spec_CollocationTableau _ _ _ _ _ HNS.out.1.rd HC.out).mono ?_
          rintro e w4 ⟨p, n', c3, q, m', d', rfl, hT⟩
          have HT := hid hT
          have hR4 := bk_below R3.out hT.2.2.2
          have R4 := hid hR4
          obtain ⟨⟨r0, r1, r2⟩, f0, f1, f2⟩ := blk3 hR4
          clear hR4 hT
          go_wp2_with fail
          exact ret_tabb rfl rfl rfl (heap_setCell_same _ _ _ _ _ _ (heap_setCell_same _ _ _ _ _ _ (heap_setCell_same _ _ _ _ _ _ R4.out))) rfl ⟨_, _, _, _, _, _, rfl, newT_stores HT.out B3.out (Nat.le_refl _) z3 _ _ _⟩
        | false =>
          cases q2 : (s.toList == L.toList) with
          | true =>
            have HS := hid ((eq_of_beq q2).trans (name_of (p := lobT) HA.out HLL.out))
            have HC : Hid (colV (M.lobatto (k : Int)) = ⟨rs, rA, rB, rb⟩) := hid ((knV_lob hk1 hk4).symm.trans ((congrArg knV (HS.out.symm.trans HD.out)).trans HR.out))
            go_wp2_with fail
            refine (spec_LobattoNodes (k : Int) _).mono ?_
            rintro e w3 ⟨ao, n, c2, rfl, hN⟩
            have HNS := hid hN
            have B3 := hid (l_below B2.out hN.2)
            have R3 := hid (bk_below R2.out hN.2)
            have z3 := bk_lt R3.out
            clear hN
            go_wp2_with fail
            refine (spec_CollocationTableau _ _ _ _ _ HNS.out.1.rd HC.out).mono ?_
            rintro e w4 ⟨p, n', c3, q, m', d', rfl, hT⟩
            have HT := hid hT
            have hR4 := bk_below R3.out hT.2.2.2
            have R4 := hid hR4
            obtain ⟨⟨r0, r1, r2⟩, f0, f1, f2⟩ := blk3 hR4
            clear hR4 hT
            go_wp2_with fail
            exact ret_tabb rfl rfl rfl (heap_setCell_same _ _ _ _ _ _ (heap_setCell_same _ _ _ _ _ _ (heap_setCell_same _ _ _ _ _ _ R4.out))) rfl ⟨_, _, _, _, _, _, rfl, newT_stores HT.out B3.out (Nat.le_refl _) z3 _ _ _⟩
          | false =>
            have HN := hid (hK.out.step (no_name q0 HA.out HG.out HD.out) (no_name q1 HA.out HRR.out HD.out) (no_name q2 HA.out HLL.out HD.out))
            go_wp2_with fail
            go_roundw
            case rel => exact ⟨k + 1, by go_num, by omega, by omega, HN, HB2⟩
            case measure => simp [intOf]; omega
    · obtain rfl : k = 5 := by omega
      obtain ⟨rfl, rfl, rfl, rfl⟩ := tb_none (HR.out.symm.trans (knV_none HK.out hK.out))
      have R2 := hid ((hB.out.block _ (Nat.lt_succ_self _)).trans RS0.out)
      have B2 := hid (B0.out.trans (hB.out.mono (Nat.le_succ _)))
      obtain ⟨⟨r0, r1, r2⟩, f0, f1, f2⟩ := blk3 R2.out
      clear hlt hB
      go_wp2_with fail
      obtain ⟨e1, e2⟩ := none_end B2.out (Nat.le_refl _) R2.out (.int .i64 0) (.slice none 0 0) (.slice none 0 0)
      exact ret_tabb rfl rfl rfl e1 rfl ⟨_, _, _, _, _, _, rfl, e2⟩
theorem spec_KnownTableau (s : ByteArray) (w : World) (_hs : s.size ≤ 1048576) (hm : Mx w) {rs : Int} {rA rB : List Int} {rb : Bool} (hr : knV s.data.toList = ⟨rs, rA, rB, rb⟩) :
    Calls Tryd.prog 10 #[.string s] w fun e w' => ∃ p n c q m' d', e = .returned (.tuple #[.agg #[.int .i64 rs, .slice p n c, .slice q m' d'], .bool rb]) ∧ NewT w w' rA rB p n c q m' d' := by
  by_cases hk : ktText s.data.toList ≠ []
  · rw [knV_text hk] at hr
    exact spec_KnownTableau_text s w hm hk hr
  · exact spec_KnownTableau_name s w (Decidable.not_not.1 hk) hr
end Go.Proofs.YthebegfceaehfaaDoor

/- WKnownTableau: FnExactKnownTableau: the walk of the law. -/
namespace Go.Proofs.YthebegfceaehfaaDoor
open Go.RowKit

set_option maxRecDepth 20000 in
set_option maxHeartbeats 2000000 in
theorem walk_KnownTableau {w : World} (t0 : ByteArray) (_ht0 : t0.size ≤ maxLen) (hT : Mx w) :
    Calls Tryd.prog 4 #[.string t0] w fun e w' => e = .returned (.bool true) ∧ Below w.heap.size w w' := by
  have HT := hid hT
  clear hT
  obtain ⟨rs, rA, rB, rb, HR⟩ : ∃ rs rA rB rb, Hid (knV t0.data.toList = ⟨rs, rA, rB, rb⟩) := ⟨_, _, _, _, rfl⟩
  obtain ⟨hlA, hlB⟩ : rA.length ≤ 1000 ∧ rB.length ≤ 1000 := by have h := knV_len t0.data.toList; rw [HR.out] at h; first | exact h | omega
  by_cases hs0 : t0.size ≤ 1048576
  · skip
    have L_101 := hid (Below.refl w.heap.size w)
    go_enter Tryd.func4, Tryd.ntmps4
    go_wp2_with fail
    refine (spec_KnownTableau t0 _ hs0 (HT.out.below L_101.out) HR.out).mono ?_
    rintro e w1 ⟨v0p, v0n, v0c, v0q, v0m, v0d, rfl, hN⟩
    have y1 := hN.2.2.2.size
    try simp only [World.size_alloc] at y1
    have HN := hid hN
    clear hN
    have L_102 := hid (l_below L_101.out HN.out.2.2.2)
    clear L_101
    have Ov0a_103 := hid (Ob.mk' HN.out.1)
    have Ov0b_104 := hid (Ob.mk' HN.out.2.1)
    have hnv0 : v0n ≤ 1000 := by rw [← HN.out.1.rd.len]; exact hlA
    have hmv0 : v0m ≤ 1000 := by rw [← HN.out.2.1.rd.len]; exact hlB
    have HSv0 := hid HN.out.2.2.1
    clear HN
    have L_105 := hid (l_alloc L_102.out (.cells #[.int .i64 rs, .slice v0p v0n v0c, .slice v0q v0m v0d] 24))
    have Ov0a_106 := hid (Ov0a_103.out.alloc (.cells #[.int .i64 rs, .slice v0p v0n v0c, .slice v0q v0m v0d] 24))
    have Ov0b_107 := hid (Ov0b_104.out.alloc (.cells #[.int .i64 rs, .slice v0p v0n v0c, .slice v0q v0m v0d] 24))
    clear L_102 Ov0a_103 Ov0b_104
    have Bv0_108 := hid (bk_new w1 #[.int .i64 rs, .slice v0p v0n v0c, .slice v0q v0m v0d] 24)
    go_wp2_with fail
    refine (impl_KnownTableau t0 _ hs0 (HT.out.below L_105.out) HR.out).mono ?_
    rintro e w2 ⟨g0p, g0n, g0c, g0q, g0m, g0d, rfl, hN⟩
    have y2 := hN.2.2.2.size
    try simp only [World.size_alloc] at y2
    have HN := hid hN
    clear hN
    have L_109 := hid (l_below L_105.out HN.out.2.2.2)
    have Ov0a_110 := hid (Ov0a_106.out.below HN.out.2.2.2)
    have Ov0b_111 := hid (Ov0b_107.out.below HN.out.2.2.2)
    have Bv0_112 := hid (bk_below Bv0_108.out HN.out.2.2.2)
    clear L_105 Ov0a_106 Ov0b_107 Bv0_108
    have Og0a_113 := hid (Ob.mk' (HN.out.1.mono (show w1.heap.size + 1 ≤ _ by simp)))
    have Og0b_114 := hid (Ob.mk' (HN.out.2.1.mono (show w1.heap.size + 1 ≤ _ by simp)))
    have hng0 : g0n ≤ 1000 := by rw [← HN.out.1.rd.len]; exact hlA
    have hmg0 : g0m ≤ 1000 := by rw [← HN.out.2.1.rd.len]; exact hlB
    have HSg0 := hid HN.out.2.2.1
    clear HN
    have L_115 := hid (l_alloc L_109.out (.cells #[.int .i64 rs, .slice g0p g0n g0c, .slice g0q g0m g0d] 24))
    have Ov0a_116 := hid (Ov0a_110.out.alloc (.cells #[.int .i64 rs, .slice g0p g0n g0c, .slice g0q g0m g0d] 24))
    have Ov0b_117 := hid (Ov0b_111.out.alloc (.cells #[.int .i64 rs, .slice g0p g0n g0c, .slice g0q g0m g0d] 24))
    have Bv0_118 := hid (bk_alloc Bv0_112.out (.cells #[.int .i64 rs, .slice g0p g0n g0c, .slice g0q g0m g0d] 24))
    have Og0a_119 := hid (Og0a_113.out.alloc (.cells #[.int .i64 rs, .slice g0p g0n g0c, .slice g0q g0m g0d] 24))
    have Og0b_120 := hid (Og0b_114.out.alloc (.cells #[.int .i64 rs, .slice g0p g0n g0c, .slice g0q g0m g0d] 24))
    clear L_109 Ov0a_110 Ov0b_111 Bv0_112 Og0a_113 Og0b_114
    have Bg0_121 := hid (bk_new w2 #[.int .i64 rs, .slice g0p g0n g0c, .slice g0q g0m g0d] 24)
    obtain ⟨⟨q00, q01, q02⟩, _⟩ := blk3 Bg0_121.out
    obtain ⟨⟨q10, q11, q12⟩, _⟩ := blk3 Bv0_118.out
    go_wp2_with fail
    refine (law_eqTableau_true _ _ _ _ _ _ _ _ _ _ _ _ _ rA rB _ Og0a_119.out.fr.rd Og0b_120.out.fr.rd Ov0a_116.out.fr.rd Ov0b_117.out.fr.rd).mono ?_
    rintro e w3 ⟨rfl, hB⟩
    have y3 := hB.size
    try simp only [World.size_alloc] at y3
    have HB := hid hB
    clear hB
    have L_122 := hid (l_below L_115.out HB.out)
    have Ov0a_123 := hid (Ov0a_116.out.below HB.out)
    have Ov0b_124 := hid (Ov0b_117.out.below HB.out)
    have Bv0_125 := hid (bk_below Bv0_118.out HB.out)
    have Og0a_126 := hid (Og0a_119.out.below HB.out)
    have Og0b_127 := hid (Og0b_120.out.below HB.out)
    have Bg0_128 := hid (bk_below Bg0_121.out HB.out)
    clear L_115 Ov0a_116 Ov0b_117 Bv0_118 Og0a_119 Og0b_120 Bg0_121
    clear HB
    clear q00 q01 q02 q10 q11 q12
    obtain ⟨⟨q00, q01, q02⟩, _⟩ := blk3 Bg0_128.out
    go_wp2_with fail
    refine (law_markTableau _ _ _ _ _ _ _ _ _ rA rB _ (Og0a_126.out.fr.mono (Nat.le_refl _)) (Og0b_127.out.fr.mono (by omega)) HSg0.out (by omega) (by omega) (by omega) (by omega)).mono ?_
    rintro e w4 ⟨rfl, hF1, hF2, wa, wb, rfl, hG1, hG2⟩
    have y4 := Nat.le_trans hG1.size hG2.size
    try simp only [World.size_alloc] at y4
    have HF1 := hid hF1
    have HF2 := hid hF2
    have HG1 := hid hG1
    have HG2 := hid hG2
    clear hF1 hF2 hG1 hG2
    have L_129 := hid (l_grown (l_grown (l_alloc L_122.out _) HG1.out (fun k hk => by have h1 := Og0a_126.out.bd k hk; omega)) HG2.out (fun k hk => by have h1 := Og0b_127.out.bd k hk; omega))
    have Ov0a_130 := hid (((Ov0a_123.out.alloc _).grown HG1.out (fun k hk => by have h1 := Og0a_126.out.bd k hk; omega)).grown HG2.out (fun k hk => by have h1 := Og0b_127.out.bd k hk; omega))
    have Ov0b_131 := hid (((Ov0b_124.out.alloc _).grown HG1.out (fun k hk => by have h1 := Og0a_126.out.bd k hk; omega)).grown HG2.out (fun k hk => by have h1 := Og0b_127.out.bd k hk; omega))
    have Bv0_132 := hid (bk_grown (bk_grown (bk_alloc Bv0_125.out _) HG1.out (fun k hk => by have h1 := Og0a_126.out.bd k hk; omega)) HG2.out (fun k hk => by have h1 := Og0b_127.out.bd k hk; omega))
    have Bg0_133 := hid (bk_grown (bk_grown (bk_alloc Bg0_128.out _) HG1.out (fun k hk => by have h1 := Og0a_126.out.bd k hk; omega)) HG2.out (fun k hk => by have h1 := Og0b_127.out.bd k hk; omega))
    have Og0a_134 := hid (Ob.mk' HF1.out)
    have Og0b_135 := hid (Ob.mk' HF2.out)
    clear L_122 Ov0a_123 Ov0b_124 Bv0_125 Og0a_126 Og0b_127 Bg0_128
    clear HF1 HF2 HG1 HG2
    clear q00 q01 q02
    obtain ⟨⟨q00, q01, q02⟩, _⟩ := blk3 Bg0_133.out
    go_wp2_with fail
    refine (law_heldTableau _ _ _ _ _ _ _ 1 _ Og0a_134.out.fr.rd Og0b_135.out.fr.rd (by omega) (by omega) (by omega) (by omega)).mono ?_
    rintro e w5 ⟨rfl, hB⟩
    have y5 := hB.size
    try simp only [World.size_alloc] at y5
    have HB := hid hB
    clear hB
    have L_136 := hid (l_below L_129.out HB.out)
    have Ov0a_137 := hid (Ov0a_130.out.below HB.out)
    have Ov0b_138 := hid (Ov0b_131.out.below HB.out)
    have Bv0_139 := hid (bk_below Bv0_132.out HB.out)
    have Bg0_140 := hid (bk_below Bg0_133.out HB.out)
    have Og0a_141 := hid (Og0a_134.out.below HB.out)
    have Og0b_142 := hid (Og0b_135.out.below HB.out)
    clear L_129 Ov0a_130 Ov0b_131 Bv0_132 Bg0_133 Og0a_134 Og0b_135
    clear HB
    clear q00 q01 q02
    go_wp2_with fail
    refine (impl_KnownTableau t0 _ hs0 (HT.out.below L_136.out) HR.out).mono ?_
    rintro e w6 ⟨h0p, h0n, h0c, h0q, h0m, h0d, rfl, hN⟩
    have y6 := hN.2.2.2.size
    try simp only [World.size_alloc] at y6
    have HN := hid hN
    clear hN
    have L_143 := hid (l_below L_136.out HN.out.2.2.2)
    have Ov0a_144 := hid (Ov0a_137.out.below HN.out.2.2.2)
    have Ov0b_145 := hid (Ov0b_138.out.below HN.out.2.2.2)
    have Bv0_146 := hid (bk_below Bv0_139.out HN.out.2.2.2)
    have Bg0_147 := hid (bk_below Bg0_140.out HN.out.2.2.2)
    have Og0a_148 := hid (Og0a_141.out.below HN.out.2.2.2)
    have Og0b_149 := hid (Og0b_142.out.below HN.out.2.2.2)
    clear L_136 Ov0a_137 Ov0b_138 Bv0_139 Bg0_140 Og0a_141 Og0b_142
    have Oh0a_150 := hid (Ob.mk' HN.out.1)
    have Oh0b_151 := hid (Ob.mk' HN.out.2.1)
    have hnh0 : h0n ≤ 1000 := by rw [← HN.out.1.rd.len]; exact hlA
    have hmh0 : h0m ≤ 1000 := by rw [← HN.out.2.1.rd.len]; exact hlB
    have HSh0 := hid HN.out.2.2.1
    clear HN
    have L_152 := hid (l_alloc L_143.out (.cells #[.int .i64 rs, .slice h0p h0n h0c, .slice h0q h0m h0d] 24))
    have Ov0a_153 := hid (Ov0a_144.out.alloc (.cells #[.int .i64 rs, .slice h0p h0n h0c, .slice h0q h0m h0d] 24))
    have Ov0b_154 := hid (Ov0b_145.out.alloc (.cells #[.int .i64 rs, .slice h0p h0n h0c, .slice h0q h0m h0d] 24))
    have Bv0_155 := hid (bk_alloc Bv0_146.out (.cells #[.int .i64 rs, .slice h0p h0n h0c, .slice h0q h0m h0d] 24))
    have Bg0_156 := hid (bk_alloc Bg0_147.out (.cells #[.int .i64 rs, .slice h0p h0n h0c, .slice h0q h0m h0d] 24))
    have Og0a_157 := hid (Og0a_148.out.alloc (.cells #[.int .i64 rs, .slice h0p h0n h0c, .slice h0q h0m h0d] 24))
    have Og0b_158 := hid (Og0b_149.out.alloc (.cells #[.int .i64 rs, .slice h0p h0n h0c, .slice h0q h0m h0d] 24))
    have Oh0a_159 := hid (Oh0a_150.out.alloc (.cells #[.int .i64 rs, .slice h0p h0n h0c, .slice h0q h0m h0d] 24))
    have Oh0b_160 := hid (Oh0b_151.out.alloc (.cells #[.int .i64 rs, .slice h0p h0n h0c, .slice h0q h0m h0d] 24))
    clear L_143 Ov0a_144 Ov0b_145 Bv0_146 Bg0_147 Og0a_148 Og0b_149 Oh0a_150 Oh0b_151
    have Bh0_161 := hid (bk_new w6 #[.int .i64 rs, .slice h0p h0n h0c, .slice h0q h0m h0d] 24)
    obtain ⟨⟨q00, q01, q02⟩, _⟩ := blk3 Bh0_161.out
    obtain ⟨⟨q10, q11, q12⟩, _⟩ := blk3 Bv0_155.out
    go_wp2_with fail
    refine (law_eqTableau_true _ _ _ _ _ _ _ _ _ _ _ _ _ rA rB _ Oh0a_159.out.fr.rd Oh0b_160.out.fr.rd Ov0a_153.out.fr.rd Ov0b_154.out.fr.rd).mono ?_
    rintro e w7 ⟨rfl, hB⟩
    have y7 := hB.size
    try simp only [World.size_alloc] at y7
    have HB := hid hB
    clear hB
    have L_162 := hid (l_below L_152.out HB.out)
    have Ov0a_163 := hid (Ov0a_153.out.below HB.out)
    have Ov0b_164 := hid (Ov0b_154.out.below HB.out)
    have Bv0_165 := hid (bk_below Bv0_155.out HB.out)
    have Bg0_166 := hid (bk_below Bg0_156.out HB.out)
    have Og0a_167 := hid (Og0a_157.out.below HB.out)
    have Og0b_168 := hid (Og0b_158.out.below HB.out)
    have Oh0a_169 := hid (Oh0a_159.out.below HB.out)
    have Oh0b_170 := hid (Oh0b_160.out.below HB.out)
    have Bh0_171 := hid (bk_below Bh0_161.out HB.out)
    clear L_152 Ov0a_153 Ov0b_154 Bv0_155 Bg0_156 Og0a_157 Og0b_158 Oh0a_159 Oh0b_160 Bh0_161
    clear HB
    clear q00 q01 q02 q10 q11 q12
    obtain ⟨⟨q00, q01, q02⟩, _⟩ := blk3 Bg0_166.out
    go_wp2_with fail
    refine (law_heldTableau _ _ _ _ _ _ _ 1 _ Og0a_167.out.fr.rd Og0b_168.out.fr.rd (by omega) (by omega) (by omega) (by omega)).mono ?_
    rintro e w8 ⟨rfl, hB⟩
    have y8 := hB.size
    try simp only [World.size_alloc] at y8
    have HB := hid hB
    clear hB
    have L_172 := hid (l_below L_162.out HB.out)
    have Ov0a_173 := hid (Ov0a_163.out.below HB.out)
    have Ov0b_174 := hid (Ov0b_164.out.below HB.out)
    have Bv0_175 := hid (bk_below Bv0_165.out HB.out)
    have Bg0_176 := hid (bk_below Bg0_166.out HB.out)
    have Og0a_177 := hid (Og0a_167.out.below HB.out)
    have Og0b_178 := hid (Og0b_168.out.below HB.out)
    have Oh0a_179 := hid (Oh0a_169.out.below HB.out)
    have Oh0b_180 := hid (Oh0b_170.out.below HB.out)
    have Bh0_181 := hid (bk_below Bh0_171.out HB.out)
    clear L_162 Ov0a_163 Ov0b_164 Bv0_165 Bg0_166 Og0a_167 Og0b_168 Oh0a_169 Oh0b_170 Bh0_171
    clear HB
    go_wp2_with fail
    go_ret
    exact ⟨rfl, L_172.out⟩
  · skip
    have L_282 := hid (Below.refl w.heap.size w)
    go_enter Tryd.func4, Tryd.ntmps4
    go_wp2_with fail
    go_wp2_with fail
    go_ret
    exact ⟨rfl, L_282.out⟩
end Go.Proofs.YthebegfceaehfaaDoor

/- Open: The arguments of a law, opened: an int, a slice of ints, a tableau. -/
namespace Go.Proofs.YthebegfceaehfaaDoor
open Go.ChangeShapes Go.WideShapes Go.ChangeAt Go.RowKit

theorem own : ownKnob Tryd.prog.godebug = none := by kernel_rfl
theorem laidOut : laidOutB Tryd.prog = true := by kernel_rfl

theorem Rd.of_open {w : World} {x : Addr} {len cap : Nat} {zs : List Int} (hl : len ≤ cap) (hm : cap ≤ maxLen) (hz : zs.length = cap)
    (hcell : ∀ i, i < zs.length → w.cell? (x.add i) = some (.int .i64 (zs.getD i 0))) (hw : ∀ n ∈ zs, (Lit.int .i64 n).wf = true) : Rd w (some x) len cap (zs.take len) := by
  refine ⟨by rw [List.length_take]; omega, hl, by unfold maxLen at hm; omega, fun i hi => ?_, fun n hn => bounds_i64 (hw n (List.mem_of_mem_take hn))⟩
  obtain ⟨b, o, sp⟩ := x
  have h0 := hcell 0 (by omega)
  have hsp : sp = none := by simpa [Addr.add] using World.cell?_spot h0
  subst hsp
  refine ⟨b, o, rfl, ?_⟩
  have h := hcell i (by omega)
  rw [Addr.add_lit] at h
  rw [h]
  simp [List.getD, hi]

section
variable {H : Type} {enc : TypeId × Value → H} {W : World}
theorem open_row {n : Nat} {v : Value} {x : DataW H × List MemPlace} (h : DataW.trod enc Tryd.prog W 0 (fun _ => true) true n 22 [v] = some x) :
    ∃ a l c xs, v = .slice a l c ∧ Rd W a l c xs := by
  rcases open_ints Tryd.underlying22 Tryd.underlying3 (by kernel_rfl) h with ⟨hcs, _⟩ | ⟨x, l, c, zs, hcs, _, hl, hm, hz, _, hcell, hwz⟩
  · simp only [List.cons.injEq, and_true] at hcs
    exact ⟨_, _, _, [], hcs, Rd.nil _ _ _ (by omega)⟩
  · simp only [List.cons.injEq, and_true] at hcs
    exact ⟨_, _, _, _, hcs, Rd.of_open hl hm (by simpa using hz) hcell hwz⟩
theorem open_rowV {b0 : Nat} {r : Reach} {v : Value} {d : DataW H} {p : List MemPlace} (hv : Value.okWide Tryd.prog W r b0 22 v) (h : DataW.Trod enc Tryd.prog W 0 (fun _ => true) true 22 v d p) :
    ∃ a l c xs, v = .slice a l c ∧ Rd W a l c xs := by
  obtain ⟨a0, len0, cap0, rfl⟩ := okWide_slice Tryd.underlying22 hv
  obtain ⟨fuel, hf⟩ := h
  exact open_row hf
theorem open_intF {n : Nat} {v : Value} {x : DataW H × List MemPlace} (h : DataW.trod enc Tryd.prog W 0 (fun _ => true) true n 3 [v] = some x) : ∃ s, v = .int .i64 s ∧ I64 s := by
  obtain ⟨s, e, _, hw⟩ := DataW.trod_int Tryd.underlying3 h
  simp only [List.cons.injEq, and_true] at e
  exact ⟨s, e, bounds_i64 hw⟩
end
end Go.Proofs.YthebegfceaehfaaDoor

/- Sh: A law's frame, with the world's shape handed on: what the world's own variables hold comes out of it. -/
namespace Go.Proofs.YthebegfceaehfaaDoor
open Go

section
variable {H : Type} {enc : TypeId × Value → H}
theorem handed_shaped {a : Assume} {C : Checked} {os : Os} {f : FuncId} {fn : Func} {s : ChangeSpec} {conds : List PathCond} {apart fresh handsOn again : Bool} {X : World → Array Value → Prop}
    (hX : ∀ (w w' : World) (args : Array Value), w.heap = w'.heap → X w args → X w' args)
    (own : ownKnob C.prog.godebug = none) (started : os.Started) (noInit : C.prog.inits.idxOf? f = none) (hfn : C.prog.funcs[f]? = some fn)
    (witness : ∃ (w : World) (tape : Tape) (i : Input), w.os = os ∧ (w.forCall tape i).Shaped C.prog ∧ i.vars = [] ∧ Input.okWide C.prog (w.forCall tape i) .any w.heap.size f i ∧
      ((s.pre enc C.prog fn conds apart (w.forCall tape i).memory i.args ∧ X (w.forCall tape i).memory i.args) ∧ sizedMet enc C.prog fn (OpenSpec.ofChange s) apart (w.forCall tape i).memory i.args) ∧ a.holds C.prog (lone (Frame.enter C.prog f i.args .normal) [] (w.forCall tape i)))
    (contract : ∀ (W : World) (base : Nat) (args : Array Value) (ds gs : List (DataW H)) (before : List MemPlace),
      (∀ (j : Nat) t v, fn.params[j]? = some t → args[j]? = some v → Value.okWide C.prog W .any base t v) →
      DataW.Whole enc C.prog fn.params.toList s.vars apart W args.toList ds gs before →
      W.ShapedOpen C.prog → X W args →
      Calls C.prog f args W fun e W' => ∃ v, e = .returned v ∧ s.post enc C.prog fn apart fresh handsOn again W args v W') :
    ReturnsInHanded a C os f .any (fun w args => (s.pre enc C.prog fn conds apart w args ∧ X w args) ∧ sizedMet enc C.prog fn (OpenSpec.ofChange s) apart w args) (s.post enc C.prog fn apart fresh handsOn again) := by
  refine returnsInHanded_of_calls own started noInit witness ?_
  intro w tape i _ hsh _ hok hpre _
  obtain ⟨_, _, _, fn', hfn', _, _, _, _, hval⟩ := hok
  obtain rfl : fn' = fn := Option.some.inj (hfn'.symm.trans hfn)
  obtain ⟨⟨⟨ds, gs, before, hw, _⟩, hx⟩, _⟩ := hpre
  refine (contract (w.forCall tape i) w.heap.size i.args ds gs before hval (DataW.Whole.of_heap (by rfl) hw) hsh (hX _ _ _ (by rfl) hx)).mono fun e W' ⟨v, he, hp⟩ => ?_
  subst he
  exact ChangeSpec.post_blind hp
end

theorem mx_of_shaped {W : World} (h : W.ShapedOpen Tryd.prog) : Mx W := Tryd.laysM146.s1_3 W h
end Go.Proofs.YthebegfceaehfaaDoor
