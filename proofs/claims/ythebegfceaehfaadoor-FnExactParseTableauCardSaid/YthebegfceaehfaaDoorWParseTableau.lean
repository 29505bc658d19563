/- FnExactParseTableau: the walk of the law. -/
import Derived.Test.YthebegfceaehfaaDoorPtS
import Derived.Test.YthebegfceaehfaaDoorOb
namespace Go.Proofs.YthebegfceaehfaaDoor
open Go.RowKit

set_option maxRecDepth 20000 in
set_option maxHeartbeats 2000000 in
theorem walk_ParseTableau {w : World} (t0 : ByteArray) (_ht0 : t0.size ≤ maxLen) (hT : Mx w) :
    Calls Tryd.prog 3 #[.string t0] w fun e w' => e = .returned (.bool true) ∧ Below w.heap.size w w' := by
  have HT := hid hT
  clear hT
  obtain ⟨rs, rA, rB, rb, HR⟩ : ∃ rs rA rB rb, Hid (ptI t0.data.toList = ⟨rs, rA, rB, rb⟩) := ⟨_, _, _, _, rfl⟩
  obtain ⟨hlA, hlB⟩ : rA.length ≤ 1000 ∧ rB.length ≤ 1000 := by have h := ptI_len t0.data.toList; rw [HR.out] at h; first | exact h | omega
  by_cases hs0 : t0.size ≤ 1048576
  · skip
    have L_101 := hid (Below.refl w.heap.size w)
    go_enter Tryd.func3, Tryd.ntmps3
    go_wp2_with fail
    refine (spec_ParseTableau t0 _ hs0 (HT.out.below L_101.out) HR.out).mono ?_
    rintro e w1 ⟨v0p, v0n, v0c, v0q, v0m, v0d, rfl, hN⟩
    have y1 := hN.2.2.2.size
    try simp only [World.size_alloc] at y1
    have HN := hid hN
    clear hN
    have L_102 := hid (l_below L_101.out HN.out.2.2.2)
    clear L_101
    have Ov0a_103 := hid (Ob.mk' HN.out.1)
    have Ov0b_104 := hid (Ob.mk' HN.out.2.1)
    have hnv0 : v0n ≤ 1000 := by rw [← HN.out.1.rd.len]; exact hlA
    have hmv0 : v0m ≤ 1000 := by rw [← HN.out.2.1.rd.len]; exact hlB
    have HSv0 := hid HN.out.2.2.1
    clear HN
    have L_105 := hid (l_alloc L_102.out (.cells #[.int .i64 rs, .slice v0p v0n v0c, .slice v0q v0m v0d] 24))
    have Ov0a_106 := hid (Ov0a_103.out.alloc (.cells #[.int .i64 rs, .slice v0p v0n v0c, .slice v0q v0m v0d] 24))
    have Ov0b_107 := hid (Ov0b_104.out.alloc (.cells #[.int .i64 rs, .slice v0p v0n v0c, .slice v0q v0m v0d] 24))
    clear L_102 Ov0a_103 Ov0b_104
    have Bv0_108 := hid (bk_new w1 #[.int .i64 rs, .slice v0p v0n v0c, .slice v0q v0m v0d] 24)
    go_wp2_with fail
    refine (impl_ParseTableau t0 _ hs0 (HT.out.below L_105.out) HR.out).mono ?_
    rintro e w2 ⟨g0p, g0n, g0c, g0q, g0m, g0d, rfl, hN⟩
    have y2 := hN.2.2.2.size
    try simp only [World.size_alloc] at y2
    have HN := hid hN
    clear hN
    have L_109 := hid (l_below L_105.out HN.out.2.2.2)
    have Ov0a_110 := hid (Ov0a_106.out.below HN.out.2.2.2)
    have Ov0b_111 := hid (Ov0b_107.out.below HN.out.2.2.2)
    have Bv0_112 := hid (bk_below Bv0_108.out HN.out.2.2.2)
    clear L_105 Ov0a_106 Ov0b_107 Bv0_108
    have Og0a_113 := hid (Ob.mk' (HN.out.1.mono (show w1.heap.size + 1 ≤ _ by simp)))
    have Og0b_114 := hid (Ob.mk' (HN.out.2.1.mono (show w1.heap.size + 1 ≤ _ by simp)))
    have hng0 : g0n ≤ 1000 := by rw [← HN.out.1.rd.len]; exact hlA
    have hmg0 : g0m ≤ 1000 := by rw [← HN.out.2.1.rd.len]; exact hlB
    have HSg0 := hid HN.out.2.2.1
    clear HN
    have L_115 := hid (l_alloc L_109.out (.cells #[.int .i64 rs, .slice g0p g0n g0c, .slice g0q g0m g0d] 24))
    have Ov0a_116 := hid (Ov0a_110.out.alloc (.cells #[.int .i64 rs, .slice g0p g0n g0c, .slice g0q g0m g0d] 24))
    have Ov0b_117 := hid (Ov0b_111.out.alloc (.cells #[.int .i64 rs, .slice g0p g0n g0c, .slice g0q g0m g0d] 24))
    have Bv0_118 := hid (bk_alloc Bv0_112.out (.cells #[.int .i64 rs, .slice g0p g0n g0c, .slice g0q g0m g0d] 24))
    have Og0a_119 := hid (Og0a_113.out.alloc (.cells #[.int .i64 rs, .slice g0p g0n g0c, .slice g0q g0m g0d] 24))
    have Og0b_120 := hid (Og0b_114.out.alloc (.cells #[.int .i64 rs, .slice g0p g0n g0c, .slice g0q g0m g0d] 24))
    clear L_109 Ov0a_110 Ov0b_111 Bv0_112 Og0a_113 Og0b_114
    have Bg0_121 := hid (bk_new w2 #[.int .i64 rs, .slice g0p g0n g0c, .slice g0q g0m g0d] 24)
    obtain ⟨⟨q00, q01, q02⟩, _⟩ := blk3 Bg0_121.out
    obtain ⟨⟨q10, q11, q12⟩, _⟩ := blk3 Bv0_118.out
    go_wp2_with fail
    refine (law_eqTableau_true _ _ _ _ _ _ _ _ _ _ _ _ _ rA rB _ Og0a_119.out.fr.rd Og0b_120.out.fr.rd Ov0a_116.out.fr.rd Ov0b_117.out.fr.rd).mono ?_
    rintro e w3 ⟨rfl, hB⟩
    have y3 := hB.size
    try simp only [World.size_alloc] at y3
    have HB := hid hB
    clear hB
    have L_122 := hid (l_below L_115.out HB.out)
    have Ov0a_123 := hid (Ov0a_116.out.below HB.out)
    have Ov0b_124 := hid (Ov0b_117.out.below HB.out)
    have Bv0_125 := hid (bk_below Bv0_118.out HB.out)
    have Og0a_126 := hid (Og0a_119.out.below HB.out)
    have Og0b_127 := hid (Og0b_120.out.below HB.out)
    have Bg0_128 := hid (bk_below Bg0_121.out HB.out)
    clear L_115 Ov0a_116 Ov0b_117 Bv0_118 Og0a_119 Og0b_120 Bg0_121
    clear HB
    clear q00 q01 q02 q10 q11 q12
    obtain ⟨⟨q00, q01, q02⟩, _⟩ := blk3 Bg0_128.out
    go_wp2_with fail
    refine (law_markTableau _ _ _ _ _ _ _ _ _ rA rB _ (Og0a_126.out.fr.mono (Nat.le_refl _)) (Og0b_127.out.fr.mono (by omega)) HSg0.out (by omega) (by omega) (by omega) (by omega)).mono ?_
    rintro e w4 ⟨rfl, hF1, hF2, wa, wb, rfl, hG1, hG2⟩
    have y4 := Nat.le_trans hG1.size hG2.size
    try simp only [World.size_alloc] at y4
    have HF1 := hid hF1
    have HF2 := hid hF2
    have HG1 := hid hG1
    have HG2 := hid hG2
    clear hF1 hF2 hG1 hG2
    have L_129 := hid (l_grown (l_grown (l_alloc L_122.out _) HG1.out (fun k hk => by have h1 := Og0a_126.out.bd k hk; omega)) HG2.out (fun k hk => by have h1 := Og0b_127.out.bd k hk; omega))
    have Ov0a_130 := hid (((Ov0a_123.out.alloc _).grown HG1.out (fun k hk => by have h1 := Og0a_126.out.bd k hk; omega)).grown HG2.out (fun k hk => by have h1 := Og0b_127.out.bd k hk; omega))
    have Ov0b_131 := hid (((Ov0b_124.out.alloc _).grown HG1.out (fun k hk => by have h1 := Og0a_126.out.bd k hk; omega)).grown HG2.out (fun k hk => by have h1 := Og0b_127.out.bd k hk; omega))
    have Bv0_132 := hid (bk_grown (bk_grown (bk_alloc Bv0_125.out _) HG1.out (fun k hk => by have h1 := Og0a_126.out.bd k hk; omega)) HG2.out (fun k hk => by have h1 := Og0b_127.out.bd k hk; omega))
    have Bg0_133 := hid (bk_grown (bk_grown (bk_alloc Bg0_128.out _) HG1.out (fun k hk => by have h1 := Og0a_126.out.bd k hk; omega)) HG2.out (fun k hk => by have h1 := Og0b_127.out.bd k hk; omega))
    have Og0a_134 := hid (Ob.mk' HF1.out)
    have Og0b_135 := hid (Ob.mk' HF2.out)
    clear L_122 Ov0a_123 Ov0b_124 Bv0_125 Og0a_126 Og0b_127 Bg0_128
    clear HF1 HF2 HG1 HG2
    clear q00 q01 q02
    obtain ⟨⟨q00, q01, q02⟩, _⟩ := blk3 Bg0_133.out
    go_wp2_with fail
    refine (law_heldTableau _ _ _ _ _ _ _ 1 _ Og0a_134.out.fr.rd Og0b_135.out.fr.rd (by omega) (by omega) (by omega) (by omega)).mono ?_
    rintro e w5 ⟨rfl, hB⟩
    have y5 := hB.size
    try simp only [World.size_alloc] at y5
    have HB := hid hB
    clear hB
    have L_136 := hid (l_below L_129.out HB.out)
    have Ov0a_137 := hid (Ov0a_130.out.below HB.out)
    have Ov0b_138 := hid (Ov0b_131.out.below HB.out)
    have Bv0_139 := hid (bk_below Bv0_132.out HB.out)
    have Bg0_140 := hid (bk_below Bg0_133.out HB.out)
    have Og0a_141 := hid (Og0a_134.out.below HB.out)
    have Og0b_142 := hid (Og0b_135.out.below HB.out)
    clear L_129 Ov0a_130 Ov0b_131 Bv0_132 Bg0_133 Og0a_134 Og0b_135
    clear HB
    clear q00 q01 q02
    go_wp2_with fail
    refine (impl_ParseTableau t0 _ hs0 (HT.out.below L_136.out) HR.out).mono ?_
    rintro e w6 ⟨h0p, h0n, h0c, h0q, h0m, h0d, rfl, hN⟩
    have y6 := hN.2.2.2.size
    try simp only [World.size_alloc] at y6
    have HN := hid hN
    clear hN
    have L_143 := hid (l_below L_136.out HN.out.2.2.2)
    have Ov0a_144 := hid (Ov0a_137.out.below HN.out.2.2.2)
    have Ov0b_145 := hid (Ov0b_138.out.below HN.out.2.2.2)
    have Bv0_146 := hid (bk_below Bv0_139.out HN.out.2.2.2)
    have Bg0_147 := hid (bk_below Bg0_140.out HN.out.2.2.2)
    have Og0a_148 := hid (Og0a_141.out.below HN.out.2.2.2)
    have Og0b_149 := hid (Og0b_142.out.below HN.out.2.2.2)
    clear L_136 Ov0a_137 Ov0b_138 Bv0_139 Bg0_140 Og0a_141 Og0b_142
    have Oh0a_150 := hid (Ob.mk' HN.out.1)
    have Oh0b_151 := hid (Ob.mk' HN.out.2.1)
    have hnh0 : h0n ≤ 1000 := by rw [← HN.out.1.rd.len]; exact hlA
    have hmh0 : h0m ≤ 1000 := by rw [← HN.out.2.1.rd.len]; exact hlB
    have HSh0 := hid HN.out.2.2.1
    clear HN
    have L_152 := hid (l_alloc L_143.out (.cells #[.int .i64 rs, .slice h0p h0n h0c, .slice h0q h0m h0d] 24))
    have Ov0a_153 := hid (Ov0a_144.out.alloc (.cells #[.int .i64 rs, .slice h0p h0n h0c, .slice h0q h0m h0d] 24))
    have Ov0b_154 := hid (Ov0b_145.out.alloc (.cells #[.int .i64 rs, .slice h0p h0n h0c, .slice h0q h0m h0d] 24))
    have Bv0_155 := hid (bk_alloc Bv0_146.out (.cells #[.int .i64 rs, .slice h0p h0n h0c, .slice h0q h0m h0d] 24))
    have Bg0_156 := hid (bk_alloc Bg0_147.out (.cells #[.int .i64 rs, .slice h0p h0n h0c, .slice h0q h0m h0d] 24))
    have Og0a_157 := hid (Og0a_148.out.alloc (.cells #[.int .i64 rs, .slice h0p h0n h0c, .slice h0q h0m h0d] 24))
    have Og0b_158 := hid (Og0b_149.out.alloc (.cells #[.int .i64 rs, .slice h0p h0n h0c, .slice h0q h0m h0d] 24))
    have Oh0a_159 := hid (Oh0a_150.out.alloc (.cells #[.int .i64 rs, .slice h0p h0n h0c, .slice h0q h0m h0d] 24))
    have Oh0b_160 := hid (Oh0b_151.out.alloc (.cells #[.int .i64 rs, .slice h0p h0n h0c, .slice h0q h0m h0d] 24))
    clear L_143 Ov0a_144 Ov0b_145 Bv0_146 Bg0_147 Og0a_148 Og0b_149 Oh0a_150 Oh0b_151
    have Bh0_161 := hid (bk_new w6 #[.int .i64 rs, .slice h0p h0n h0c, .slice h0q h0m h0d] 24)
    obtain ⟨⟨q00, q01, q02⟩, _⟩ := blk3 Bh0_161.out
    obtain ⟨⟨q10, q11, q12⟩, _⟩ := blk3 Bv0_155.out
    go_wp2_with fail
    refine (law_eqTableau_true _ _ _ _ _ _ _ _ _ _ _ _ _ rA rB _ Oh0a_159.out.fr.rd Oh0b_160.out.fr.rd Ov0a_153.out.fr.rd Ov0b_154.out.fr.rd).mono ?_
    rintro e w7 ⟨rfl, hB⟩
    have y7 := hB.size
    try simp only [World.size_alloc] at y7
    have HB := hid hB
    clear hB
    have L_162 := hid (l_below L_152.out HB.out)
    have Ov0a_163 := hid (Ov0a_153.out.below HB.out)
    have Ov0b_164 := hid (Ov0b_154.out.below HB.out)
    have Bv0_165 := hid (bk_below Bv0_155.out HB.out)
    have Bg0_166 := hid (bk_below Bg0_156.out HB.out)
    have Og0a_167 := hid (Og0a_157.out.below HB.out)
    have Og0b_168 := hid (Og0b_158.out.below HB.out)
    have Oh0a_169 := hid (Oh0a_159.out.below HB.out)
    have Oh0b_170 := hid (Oh0b_160.out.below HB.out)
    have Bh0_171 := hid (bk_below Bh0_161.out HB.out)
    clear L_152 Ov0a_153 Ov0b_154 Bv0_155 Bg0_156 Og0a_157 Og0b_158 Oh0a_159 Oh0b_160 Bh0_161
    clear HB
    clear q00 q01 q02 q10 q11 q12
    obtain ⟨⟨q00, q01, q02⟩, _⟩ := blk3 Bg0_166.out
    go_wp2_with fail
    refine (law_heldTableau _ _ _ _ _ _ _ 1 _ Og0a_167.out.fr.rd Og0b_168.out.fr.rd (by omega) (by omega) (by omega) (by omega)).mono ?_
    rintro e w8 ⟨rfl, hB⟩
    have y8 := hB.size
    try simp only [World.size_alloc] at y8
    have HB := hid hB
    clear hB
    have L_172 := hid (l_below L_162.out HB.out)
    have Ov0a_173 := hid (Ov0a_163.out.below HB.out)
    have Ov0b_174 := hid (Ov0b_164.out.below HB.out)
    have Bv0_175 := hid (bk_below Bv0_165.out HB.out)
    have Bg0_176 := hid (bk_below Bg0_166.out HB.out)
    have Og0a_177 := hid (Og0a_167.out.below HB.out)
    have Og0b_178 := hid (Og0b_168.out.below HB.out)
    have Oh0a_179 := hid (Oh0a_169.out.below HB.out)
    have Oh0b_180 := hid (Oh0b_170.out.below HB.out)
    have Bh0_181 := hid (bk_below Bh0_171.out HB.out)
    clear L_162 Ov0a_163 Ov0b_164 Bv0_165 Bg0_166 Og0a_167 Og0b_168 Oh0a_169 Oh0b_170 Bh0_171
    clear HB
    go_wp2_with fail
    go_ret
    exact ⟨rfl, L_172.out⟩
  · skip
    have L_282 := hid (Below.refl w.heap.size w)
    go_enter Tryd.func3, Tryd.ntmps3
    go_wp2_with fail
    go_wp2_with fail
    go_ret
    exact ⟨rfl, L_282.out⟩
end Go.Proofs.YthebegfceaehfaaDoor
