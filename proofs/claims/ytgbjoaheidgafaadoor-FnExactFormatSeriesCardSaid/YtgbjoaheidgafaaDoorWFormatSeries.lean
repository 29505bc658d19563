/- FnExactFormatSeries: the walk of the law. -/
import Derived.Test.YtgbjoaheidgafaaDoorFmtR
import Derived.Test.YtgbjoaheidgafaaDoorOb
namespace Go.Proofs.YtgbjoaheidgafaaDoor
open Go.RowKit

set_option maxRecDepth 20000 in
set_option maxHeartbeats 2000000 in
theorem walk_FormatSeries {w : World} (o0 : Int) (z0 : Int) (a0 : Option Addr) (n0 c0 : Nat) (A0 : List Int) (g0a : Rd w a0 n0 c0 A0) (_ho0 : I64 o0) (_hz0 : I64 z0) (hT : Tc w) :
    Calls Tryd.prog 5 #[.agg #[.int .i64 o0, .int .i64 z0, .slice a0 n0 c0]] w fun e w' => e = .returned (.bool true) ∧ Below w.heap.size w w' := by
  have z0a : n0 ≤ 9223372036854775807 := Nat.le_trans g0a.cap g0a.max
  have H0a := hid g0a
  clear g0a
  have HT := hid hT
  clear hT
  obtain ⟨rT, HR⟩ : ∃ rT, Hid (fmtSer o0 z0 A0 = rT) := ⟨_, rfl⟩
  by_cases hs0 : n0 ≤ 1048576
  · skip
    have L_101 := hid (Below.refl w.heap.size w)
    have L_102 := hid (l_alloc L_101.out (.cells #[.int .i64 o0, .int .i64 z0, .slice a0 n0 c0] 29))
    clear L_101
    have Bbox0_103 := hid (bk_new w #[.int .i64 o0, .int .i64 z0, .slice a0 n0 c0] 29)
    go_enter Tryd.func5, Tryd.ntmps5
    go_wp2_with fail
    refine (law_szSeries_yes _ _ _ _ _ _ _ (by omega) (by omega)).mono ?_
    rintro e w1 ⟨rfl, hB⟩
    have y1 := hB.size
    try simp only [World.size_alloc] at y1
    have HB := hid hB
    clear hB
    have L_104 := hid (l_below L_102.out HB.out)
    have Bbox0_105 := hid (bk_below Bbox0_103.out HB.out)
    clear L_102 Bbox0_103
    clear HB
    obtain ⟨⟨q00, q01, q02⟩, _⟩ := blk3 Bbox0_105.out
    go_wp2_with fail
    clear q00 q01 q02
    obtain ⟨⟨q00, q01, q02⟩, _⟩ := blk3 Bbox0_105.out
    refine (law_toSeries _ _ _ _ _ A0 _ (H0a.out.below L_104.out) (by omega)).mono ?_
    rintro e w2 ⟨u0a, rfl, hN⟩
    have y2 := hN.2.2.2.size
    try simp only [World.size_alloc] at y2
    have HN := hid hN
    clear hN
    have L_106 := hid (l_below L_104.out HN.out.2.2.2)
    have Bbox0_107 := hid (bk_below Bbox0_105.out HN.out.2.2.2)
    clear L_104 Bbox0_105
    have Ou0a_108 := hid (Ob.mk' HN.out.1)
    clear HN
    go_wp2_with fail
    refine (spec_FormatSeries _ _ _ _ _ A0 _ Ou0a_108.out.fr.rd (HT.out.below L_106.out)).mono ?_
    rw [HR.out]
    rintro e w3 ⟨rfl, hB⟩
    have y3 := hB.size
    try simp only [World.size_alloc] at y3
    have HB := hid hB
    clear hB
    have L_109 := hid (l_below L_106.out HB.out)
    have Bbox0_110 := hid (bk_below Bbox0_107.out HB.out)
    have Ou0a_111 := hid (Ou0a_108.out.below HB.out)
    clear L_106 Bbox0_107 Ou0a_108
    clear HB
    clear q00 q01 q02
    obtain ⟨⟨q00, q01, q02⟩, _⟩ := blk3 Bbox0_110.out
    go_wp2_with fail
    refine (law_toSeries _ _ _ _ _ A0 _ (H0a.out.below L_109.out) (by omega)).mono ?_
    rintro e w4 ⟨x0a, rfl, hN⟩
    have y4 := hN.2.2.2.size
    try simp only [World.size_alloc] at y4
    have HN := hid hN
    clear hN
    have L_112 := hid (l_below L_109.out HN.out.2.2.2)
    have Bbox0_113 := hid (bk_below Bbox0_110.out HN.out.2.2.2)
    clear L_109 Bbox0_110
    have Ox0a_114 := hid (Ob.mk' HN.out.1)
    clear HN
    have L_115 := hid (l_alloc L_112.out (.cells #[.int .i64 o0, .int .i64 z0, .slice (some ⟨x0a, 0, none⟩) n0 n0] 24))
    have Bbox0_116 := hid (bk_alloc Bbox0_113.out (.cells #[.int .i64 o0, .int .i64 z0, .slice (some ⟨x0a, 0, none⟩) n0 n0] 24))
    have Ox0a_117 := hid (Ox0a_114.out.alloc (.cells #[.int .i64 o0, .int .i64 z0, .slice (some ⟨x0a, 0, none⟩) n0 n0] 24))
    clear L_112 Bbox0_113 Ox0a_114
    have Bx0_118 := hid (bk_new w4 #[.int .i64 o0, .int .i64 z0, .slice (some ⟨x0a, 0, none⟩) n0 n0] 24)
    clear q00 q01 q02
    obtain ⟨⟨q00, q01, q02⟩, _⟩ := blk3 Bx0_118.out
    go_wp2_with fail
    refine (impl_FormatSeries _ _ _ _ _ A0 _ Ox0a_117.out.fr.rd (HT.out.below L_115.out)).mono ?_
    rw [HR.out]
    rintro e w5 ⟨rfl, hB⟩
    have y5 := hB.size
    try simp only [World.size_alloc] at y5
    have HB := hid hB
    clear hB
    have L_119 := hid (l_below L_115.out HB.out)
    have Bbox0_120 := hid (bk_below Bbox0_116.out HB.out)
    have Ox0a_121 := hid (Ox0a_117.out.below HB.out)
    have Bx0_122 := hid (bk_below Bx0_118.out HB.out)
    clear L_115 Bbox0_116 Ox0a_117 Bx0_118
    clear HB
    clear q00 q01 q02
    obtain ⟨⟨q00, q01, q02⟩, _⟩ := blk3 Bbox0_120.out
    obtain ⟨⟨q10, q11, q12⟩, _⟩ := blk3 Bx0_122.out
    go_wp2_with fail
    have KP := hid (keep6 Bbox0_120.out Bx0_122.out)
    go_region_held3 (fun w' => w'.cell? ⟨w.heap.size, 0, none⟩ = some (.int .i64 o0) ∧ w'.cell? ⟨w.heap.size, 1, none⟩ = some (.int .i64 z0) ∧ w'.cell? ⟨w.heap.size, 2, none⟩ = some (.slice a0 n0 c0) ∧ w'.cell? ⟨w4.heap.size, 0, none⟩ = some (.int .i64 o0) ∧ w'.cell? ⟨w4.heap.size, 1, none⟩ = some (.int .i64 z0) ∧ w'.cell? ⟨w4.heap.size, 2, none⟩ = some (.slice (some ⟨x0a, 0, none⟩) n0 n0))
      (first | exact KP.out _ ((Below.refl _ _).drew) | exact KP.out _ (of_drew hY.2.2.2) | exact KP.out _ ((of_drew hY.2.2.2).trans (hZ.mono (of_drew hY.2.2.2).size)))
      (first
        | (go_at_call 14; refine (law_toSeries _ _ _ _ _ A0 _ (H0a.out.below L_119.out.drew) (by omega)).mono ?_; rintro e w6 ⟨yqa, rfl, hY⟩)
        | (go_at_call 9; refine (law_eqSeries_true _ _ _ _ _ _ _ _ A0 _ (Ox0a_121.out.fr.rd.below (of_drew hY.2.2.2)) hY.1.rd).mono ?_; rintro e w7 ⟨rfl, hZ⟩))
    have hB := (of_drew hY.2.2.2).trans (hZ.mono (of_drew hY.2.2.2).size)
    have y6 := hB.size
    try simp only [World.size_alloc] at y6
    have HB := hid hB
    clear hB hY hZ KP
    have L_123 := hid (l_below L_119.out HB.out)
    have Bbox0_124 := hid (bk_below Bbox0_120.out HB.out)
    have Ox0a_125 := hid (Ox0a_121.out.below HB.out)
    have Bx0_126 := hid (bk_below Bx0_122.out HB.out)
    clear L_119 Bbox0_120 Ox0a_121 Bx0_122
    clear HB
    go_wp2_with fail
    go_ret
    exact ⟨rfl, L_123.out⟩
  · skip
    have L_227 := hid (Below.refl w.heap.size w)
    have L_228 := hid (l_alloc L_227.out (.cells #[.int .i64 o0, .int .i64 z0, .slice a0 n0 c0] 29))
    clear L_227
    have Bbox0_229 := hid (bk_new w #[.int .i64 o0, .int .i64 z0, .slice a0 n0 c0] 29)
    go_enter Tryd.func5, Tryd.ntmps5
    go_wp2_with fail
    refine (law_szSeries_no _ _ _ _ _ _ _ (by omega) (by omega) (by omega) (by omega)).mono ?_
    rintro e w1 ⟨rfl, hB⟩
    have y7 := hB.size
    try simp only [World.size_alloc] at y7
    have HB := hid hB
    clear hB
    have L_230 := hid (l_below L_228.out HB.out)
    have Bbox0_231 := hid (bk_below Bbox0_229.out HB.out)
    clear L_228 Bbox0_229
    clear HB
    obtain ⟨⟨q00, q01, q02⟩, _⟩ := blk3 Bbox0_231.out
    go_wp2_with fail
    go_ret
    exact ⟨rfl, L_230.out⟩
end Go.Proofs.YtgbjoaheidgafaaDoor
