/- FnExactParseSeries: the walk of the law. -/
import Derived.Test.YtgbjoaheidgafaaDoorParS
import Derived.Test.YtgbjoaheidgafaaDoorOb
namespace Go.Proofs.YtgbjoaheidgafaaDoor
open Go.RowKit

set_option maxRecDepth 20000 in
set_option maxHeartbeats 2000000 in
theorem walk_ParseSeries {w : World} (t0 : ByteArray) (_ht0 : t0.size ≤ maxLen) (hT : Tm w) :
    Calls Tryd.prog 6 #[.string t0] w fun e w' => e = .returned (.bool true) ∧ Below w.heap.size w w' := by
  have HT := hid hT
  clear hT
  obtain ⟨ro, rz, rA, rb, HR⟩ : ∃ ro rz rA rb, Hid (psV t0.data.toList = ⟨ro, rz, rA, rb⟩) := ⟨_, _, _, _, rfl⟩
  have hlA : rA.length ≤ 1000 := by have h := psV_len t0.data.toList; rw [HR.out] at h; first | exact h | (simp only at h; omega)
  by_cases hs0 : t0.size ≤ 1048576
  · skip
    have L_101 := hid (Below.refl w.heap.size w)
    go_enter Tryd.func6, Tryd.ntmps6
    go_wp2_with fail
    refine (spec_ParseSeries t0 _ hs0 (HT.out.below L_101.out) HR.out).mono ?_
    rintro e w1 ⟨v0p, v0n, v0c, rfl, hN⟩
    have y1 := hN.2.2.2.size
    try simp only [World.size_alloc] at y1
    have HN := hid hN
    clear hN
    have L_102 := hid (l_below L_101.out HN.out.2.2.2)
    clear L_101
    have Ov0a_103 := hid (Ob.mk' HN.out.1)
    have hnv0 : v0n ≤ 1000 := by rw [← HN.out.1.rd.len]; exact hlA
    clear HN
    have L_104 := hid (l_alloc L_102.out (.cells #[.int .i64 ro, .int .i64 rz, .slice v0p v0n v0c] 24))
    have Ov0a_105 := hid (Ov0a_103.out.alloc (.cells #[.int .i64 ro, .int .i64 rz, .slice v0p v0n v0c] 24))
    clear L_102 Ov0a_103
    have Bv0_106 := hid (bk_new w1 #[.int .i64 ro, .int .i64 rz, .slice v0p v0n v0c] 24)
    go_wp2_with fail
    refine (impl_ParseSeries t0 _ hs0 (HT.out.below L_104.out) HR.out).mono ?_
    rintro e w2 ⟨g0p, g0n, g0c, rfl, hN⟩
    have y2 := hN.2.2.2.size
    try simp only [World.size_alloc] at y2
    have HN := hid hN
    clear hN
    have L_107 := hid (l_below L_104.out HN.out.2.2.2)
    have Ov0a_108 := hid (Ov0a_105.out.below HN.out.2.2.2)
    have Bv0_109 := hid (bk_below Bv0_106.out HN.out.2.2.2)
    clear L_104 Ov0a_105 Bv0_106
    have Og0a_110 := hid (Ob.mk' (HN.out.1.mono (show w1.heap.size + 1 ≤ _ by simp)))
    have hng0 : g0n ≤ 1000 := by rw [← HN.out.1.rd.len]; exact hlA
    clear HN
    have L_111 := hid (l_alloc L_107.out (.cells #[.int .i64 ro, .int .i64 rz, .slice g0p g0n g0c] 24))
    have Ov0a_112 := hid (Ov0a_108.out.alloc (.cells #[.int .i64 ro, .int .i64 rz, .slice g0p g0n g0c] 24))
    have Bv0_113 := hid (bk_alloc Bv0_109.out (.cells #[.int .i64 ro, .int .i64 rz, .slice g0p g0n g0c] 24))
    have Og0a_114 := hid (Og0a_110.out.alloc (.cells #[.int .i64 ro, .int .i64 rz, .slice g0p g0n g0c] 24))
    clear L_107 Ov0a_108 Bv0_109 Og0a_110
    have Bg0_115 := hid (bk_new w2 #[.int .i64 ro, .int .i64 rz, .slice g0p g0n g0c] 24)
    obtain ⟨⟨q00, q01, q02⟩, _⟩ := blk3 Bg0_115.out
    obtain ⟨⟨q10, q11, q12⟩, _⟩ := blk3 Bv0_113.out
    go_wp2_with fail
    refine (law_eqSeries_true _ _ _ _ _ _ _ _ rA _ Og0a_114.out.fr.rd Ov0a_112.out.fr.rd).mono ?_
    rintro e w3 ⟨rfl, hB⟩
    have y3 := hB.size
    try simp only [World.size_alloc] at y3
    have HB := hid hB
    clear hB
    have L_116 := hid (l_below L_111.out HB.out)
    have Ov0a_117 := hid (Ov0a_112.out.below HB.out)
    have Bv0_118 := hid (bk_below Bv0_113.out HB.out)
    have Og0a_119 := hid (Og0a_114.out.below HB.out)
    have Bg0_120 := hid (bk_below Bg0_115.out HB.out)
    clear L_111 Ov0a_112 Bv0_113 Og0a_114 Bg0_115
    clear HB
    clear q00 q01 q02 q10 q11 q12
    obtain ⟨⟨q00, q01, q02⟩, _⟩ := blk3 Bg0_120.out
    go_wp2_with fail
    refine (law_markSeries _ _ _ _ _ _ _ rA _ (Og0a_119.out.fr.mono (Nat.le_refl _)) (by omega) (by omega) (by omega)).mono ?_
    rintro e w4 ⟨rfl, hF1, wa, rfl, hG1⟩
    have y4 := hG1.size
    try simp only [World.size_alloc] at y4
    have HF1 := hid hF1
    have HG1 := hid hG1
    clear hF1 hG1
    have L_121 := hid (l_grown (l_alloc L_116.out _) HG1.out (fun k hk => by have h1 := Og0a_119.out.bd k hk; omega))
    have Ov0a_122 := hid ((Ov0a_117.out.alloc _).grown HG1.out (fun k hk => by have h1 := Og0a_119.out.bd k hk; omega))
    have Bv0_123 := hid (bk_grown (bk_alloc Bv0_118.out _) HG1.out (fun k hk => by have h1 := Og0a_119.out.bd k hk; omega))
    have Bg0_124 := hid (bk_grown (bk_alloc Bg0_120.out _) HG1.out (fun k hk => by have h1 := Og0a_119.out.bd k hk; omega))
    have Og0a_125 := hid (Ob.mk' HF1.out)
    clear L_116 Ov0a_117 Bv0_118 Og0a_119 Bg0_120
    clear HF1 HG1
    clear q00 q01 q02
    obtain ⟨⟨q00, q01, q02⟩, _⟩ := blk3 Bg0_124.out
    go_wp2_with fail
    refine (law_heldSeries _ _ _ _ _ 1 _ Og0a_125.out.fr.rd (by omega) (by omega) (by omega)).mono ?_
    rintro e w5 ⟨rfl, hB⟩
    have y5 := hB.size
    try simp only [World.size_alloc] at y5
    have HB := hid hB
    clear hB
    have L_126 := hid (l_below L_121.out HB.out)
    have Ov0a_127 := hid (Ov0a_122.out.below HB.out)
    have Bv0_128 := hid (bk_below Bv0_123.out HB.out)
    have Bg0_129 := hid (bk_below Bg0_124.out HB.out)
    have Og0a_130 := hid (Og0a_125.out.below HB.out)
    clear L_121 Ov0a_122 Bv0_123 Bg0_124 Og0a_125
    clear HB
    clear q00 q01 q02
    go_wp2_with fail
    refine (impl_ParseSeries t0 _ hs0 (HT.out.below L_126.out) HR.out).mono ?_
    rintro e w6 ⟨h0p, h0n, h0c, rfl, hN⟩
    have y6 := hN.2.2.2.size
    try simp only [World.size_alloc] at y6
    have HN := hid hN
    clear hN
    have L_131 := hid (l_below L_126.out HN.out.2.2.2)
    have Ov0a_132 := hid (Ov0a_127.out.below HN.out.2.2.2)
    have Bv0_133 := hid (bk_below Bv0_128.out HN.out.2.2.2)
    have Bg0_134 := hid (bk_below Bg0_129.out HN.out.2.2.2)
    have Og0a_135 := hid (Og0a_130.out.below HN.out.2.2.2)
    clear L_126 Ov0a_127 Bv0_128 Bg0_129 Og0a_130
    have Oh0a_136 := hid (Ob.mk' HN.out.1)
    have hnh0 : h0n ≤ 1000 := by rw [← HN.out.1.rd.len]; exact hlA
    clear HN
    have L_137 := hid (l_alloc L_131.out (.cells #[.int .i64 ro, .int .i64 rz, .slice h0p h0n h0c] 24))
    have Ov0a_138 := hid (Ov0a_132.out.alloc (.cells #[.int .i64 ro, .int .i64 rz, .slice h0p h0n h0c] 24))
    have Bv0_139 := hid (bk_alloc Bv0_133.out (.cells #[.int .i64 ro, .int .i64 rz, .slice h0p h0n h0c] 24))
    have Bg0_140 := hid (bk_alloc Bg0_134.out (.cells #[.int .i64 ro, .int .i64 rz, .slice h0p h0n h0c] 24))
    have Og0a_141 := hid (Og0a_135.out.alloc (.cells #[.int .i64 ro, .int .i64 rz, .slice h0p h0n h0c] 24))
    have Oh0a_142 := hid (Oh0a_136.out.alloc (.cells #[.int .i64 ro, .int .i64 rz, .slice h0p h0n h0c] 24))
    clear L_131 Ov0a_132 Bv0_133 Bg0_134 Og0a_135 Oh0a_136
    have Bh0_143 := hid (bk_new w6 #[.int .i64 ro, .int .i64 rz, .slice h0p h0n h0c] 24)
    obtain ⟨⟨q00, q01, q02⟩, _⟩ := blk3 Bh0_143.out
    obtain ⟨⟨q10, q11, q12⟩, _⟩ := blk3 Bv0_139.out
    go_wp2_with fail
    refine (law_eqSeries_true _ _ _ _ _ _ _ _ rA _ Oh0a_142.out.fr.rd Ov0a_138.out.fr.rd).mono ?_
    rintro e w7 ⟨rfl, hB⟩
    have y7 := hB.size
    try simp only [World.size_alloc] at y7
    have HB := hid hB
    clear hB
    have L_144 := hid (l_below L_137.out HB.out)
    have Ov0a_145 := hid (Ov0a_138.out.below HB.out)
    have Bv0_146 := hid (bk_below Bv0_139.out HB.out)
    have Bg0_147 := hid (bk_below Bg0_140.out HB.out)
    have Og0a_148 := hid (Og0a_141.out.below HB.out)
    have Oh0a_149 := hid (Oh0a_142.out.below HB.out)
    have Bh0_150 := hid (bk_below Bh0_143.out HB.out)
    clear L_137 Ov0a_138 Bv0_139 Bg0_140 Og0a_141 Oh0a_142 Bh0_143
    clear HB
    clear q00 q01 q02 q10 q11 q12
    obtain ⟨⟨q00, q01, q02⟩, _⟩ := blk3 Bg0_147.out
    go_wp2_with fail
    refine (law_heldSeries _ _ _ _ _ 1 _ Og0a_148.out.fr.rd (by omega) (by omega) (by omega)).mono ?_
    rintro e w8 ⟨rfl, hB⟩
    have y8 := hB.size
    try simp only [World.size_alloc] at y8
    have HB := hid hB
    clear hB
    have L_151 := hid (l_below L_144.out HB.out)
    have Ov0a_152 := hid (Ov0a_145.out.below HB.out)
    have Bv0_153 := hid (bk_below Bv0_146.out HB.out)
    have Bg0_154 := hid (bk_below Bg0_147.out HB.out)
    have Og0a_155 := hid (Og0a_148.out.below HB.out)
    have Oh0a_156 := hid (Oh0a_149.out.below HB.out)
    have Bh0_157 := hid (bk_below Bh0_150.out HB.out)
    clear L_144 Ov0a_145 Bv0_146 Bg0_147 Og0a_148 Oh0a_149 Bh0_150
    clear HB
    go_wp2_with fail
    go_ret
    exact ⟨rfl, L_151.out⟩
  · skip
    have L_258 := hid (Below.refl w.heap.size w)
    go_enter Tryd.func6, Tryd.ntmps6
    go_wp2_with fail
    go_wp2_with fail
    go_ret
    exact ⟨rfl, L_258.out⟩
end Go.Proofs.YtgbjoaheidgafaaDoor
