/- FnExactPermuteTableau: the walk of the law. -/
import Derived.Test.YtekojohhjnklkaaPermV
import Derived.Test.YtekojohhjnklkaaOb
namespace Go.Proofs.Ytekojohhjnklkaa
open Go.RowKit

set_option maxRecDepth 20000 in
set_option maxHeartbeats 2000000 in
theorem walk_PermuteTableau {w : World} (s0 : Int) (a0 : Option Addr) (n0 c0 : Nat) (A0 : List Int) (b0 : Option Addr) (m0 d0 : Nat) (B0 : List Int) (g0a : Rd w a0 n0 c0 A0) (g0b : Rd w b0 m0 d0 B0) (_hs0 : I64 s0) (a1 : Option Addr) (n1 c1 : Nat) (A1 : List Int) (g1a : Rd w a1 n1 c1 A1) :
    Calls Try.prog 12 #[.agg #[.int .i64 s0, .slice a0 n0 c0, .slice b0 m0 d0], .slice a1 n1 c1] w fun e w' => e = .returned (.bool true) ∧ Below w.heap.size w w' := by
  have z0a : n0 ≤ 9223372036854775807 := Nat.le_trans g0a.cap g0a.max
  have H0a := hid g0a
  clear g0a
  have z0b : m0 ≤ 9223372036854775807 := Nat.le_trans g0b.cap g0b.max
  have H0b := hid g0b
  clear g0b
  have z1a : n1 ≤ 9223372036854775807 := Nat.le_trans g1a.cap g1a.max
  have H1a := hid g1a
  clear g1a
  obtain ⟨rs, rA, rB, rb, HR⟩ : ∃ rs rA rB rb, Hid (permV s0 A0 B0 A1 = ⟨rs, rA, rB, rb⟩) := ⟨_, _, _, _, rfl⟩
  obtain ⟨hlA, hlB⟩ : rA.length ≤ 1000 ∧ rB.length ≤ 1000 := by have h := permV_len s0 A0 B0 A1; rw [HR.out] at h; first | exact h | omega
  by_cases hs1 : n1 ≤ 1048576
  · skip
    by_cases hs0 : n0 + m0 ≤ 1048576
    · skip
      have L_101 := hid (Below.refl w.heap.size w)
      have L_102 := hid (l_alloc L_101.out (.cells #[.int .i64 s0, .slice a0 n0 c0, .slice b0 m0 d0] 24))
      clear L_101
      have Bbox0_103 := hid (bk_new w #[.int .i64 s0, .slice a0 n0 c0, .slice b0 m0 d0] 24)
      go_enter Try.func12, Try.ntmps12
      go_wp2_with fail
      refine (law_szTableau_yes _ _ _ _ _ _ _ _ _ (by omega) (by omega)).mono ?_
      rintro e w1 ⟨rfl, hB⟩
      have y1 := hB.size
      try simp only [World.size_alloc] at y1
      have HB := hid hB
      clear hB
      have L_104 := hid (l_below L_102.out HB.out)
      have Bbox0_105 := hid (bk_below Bbox0_103.out HB.out)
      clear L_102 Bbox0_103
      clear HB
      obtain ⟨⟨q00, q01, q02⟩, _⟩ := blk3 Bbox0_105.out
      go_wp2_with fail
      clear q00 q01 q02
      obtain ⟨⟨q00, q01, q02⟩, _⟩ := blk3 Bbox0_105.out
      refine (law_toTableau _ _ _ _ A0 _ _ _ B0 _ (H0a.out.below L_104.out) (H0b.out.below L_104.out) (by omega)).mono ?_
      rintro e w2 ⟨u0a, u0b, rfl, hN⟩
      have y2 := hN.2.2.2.size
      try simp only [World.size_alloc] at y2
      have HN := hid hN
      clear hN
      have L_106 := hid (l_below L_104.out HN.out.2.2.2)
      have Bbox0_107 := hid (bk_below Bbox0_105.out HN.out.2.2.2)
      clear L_104 Bbox0_105
      have Ou0a_108 := hid (Ob.mk' HN.out.1)
      have Ou0b_109 := hid (Ob.mk' HN.out.2.1)
      clear HN
      go_wp2_with fail
      refine (law_toIntS _ _ _ A1 _ (H1a.out.below L_106.out) (by omega)).mono ?_
      rintro e w3 ⟨rfl, hB, hS, hF⟩
      have y3 := hB.size
      try simp only [World.size_alloc] at y3
      try simp only [World.size_alloc] at hF
      have HB := hid hB
      have HF := hid hF
      clear hB hF hS
      have L_110 := hid (l_below L_106.out HB.out)
      have Bbox0_111 := hid (bk_below Bbox0_107.out HB.out)
      have Ou0a_112 := hid (Ou0a_108.out.below HB.out)
      have Ou0b_113 := hid (Ou0b_109.out.below HB.out)
      clear L_106 Bbox0_107 Ou0a_108 Ou0b_109
      have Ou1a_114 := hid (Ob.mk' HF.out)
      clear HB HF
      go_wp2_with fail
      refine (spec_PermuteTableau _ _ _ _ A0 _ _ _ B0 _ _ _ A1 _ Ou0a_112.out.fr.rd Ou0b_113.out.fr.rd Ou1a_114.out.fr.rd HR.out).mono ?_
      rintro e w4 ⟨v0p, v0n, v0c, v0q, v0m, v0d, rfl, hN⟩
      have y4 := hN.2.2.2.size
      try simp only [World.size_alloc] at y4
      have HN := hid hN
      clear hN
      have L_115 := hid (l_below L_110.out HN.out.2.2.2)
      have Bbox0_116 := hid (bk_below Bbox0_111.out HN.out.2.2.2)
      have Ou0a_117 := hid (Ou0a_112.out.below HN.out.2.2.2)
      have Ou0b_118 := hid (Ou0b_113.out.below HN.out.2.2.2)
      have Ou1a_119 := hid (Ou1a_114.out.below HN.out.2.2.2)
      clear L_110 Bbox0_111 Ou0a_112 Ou0b_113 Ou1a_114
      have Ov0a_120 := hid (Ob.mk' HN.out.1)
      have Ov0b_121 := hid (Ob.mk' HN.out.2.1)
      have hnv0 : v0n ≤ 1000 := by rw [← HN.out.1.rd.len]; exact hlA
      have hmv0 : v0m ≤ 1000 := by rw [← HN.out.2.1.rd.len]; exact hlB
      have HSv0 := hid HN.out.2.2.1
      clear HN
      have L_122 := hid (l_alloc L_115.out (.cells #[.int .i64 rs, .slice v0p v0n v0c, .slice v0q v0m v0d] 27))
      have Bbox0_123 := hid (bk_alloc Bbox0_116.out (.cells #[.int .i64 rs, .slice v0p v0n v0c, .slice v0q v0m v0d] 27))
      have Ov0a_124 := hid (Ov0a_120.out.alloc (.cells #[.int .i64 rs, .slice v0p v0n v0c, .slice v0q v0m v0d] 27))
      have Ov0b_125 := hid (Ov0b_121.out.alloc (.cells #[.int .i64 rs, .slice v0p v0n v0c, .slice v0q v0m v0d] 27))
      clear L_115 Bbox0_116 Ov0a_120 Ov0b_121
      have Bv0_126 := hid (bk_new w4 #[.int .i64 rs, .slice v0p v0n v0c, .slice v0q v0m v0d] 27)
      clear q00 q01 q02
      obtain ⟨⟨q00, q01, q02⟩, _⟩ := blk3 Bbox0_123.out
      go_wp2_with fail
      refine (law_toTableau _ _ _ _ A0 _ _ _ B0 _ (H0a.out.below L_122.out) (H0b.out.below L_122.out) (by omega)).mono ?_
      rintro e w5 ⟨x0a, x0b, rfl, hN⟩
      have y5 := hN.2.2.2.size
      try simp only [World.size_alloc] at y5
      have HN := hid hN
      clear hN
      have L_127 := hid (l_below L_122.out HN.out.2.2.2)
      have Bbox0_128 := hid (bk_below Bbox0_123.out HN.out.2.2.2)
      have Ov0a_129 := hid (Ov0a_124.out.below HN.out.2.2.2)
      have Ov0b_130 := hid (Ov0b_125.out.below HN.out.2.2.2)
      have Bv0_131 := hid (bk_below Bv0_126.out HN.out.2.2.2)
      clear L_122 Bbox0_123 Ov0a_124 Ov0b_125 Bv0_126
      have Ox0a_132 := hid (Ob.mk' (HN.out.1.mono (show w4.heap.size + 1 ≤ _ by simp)))
      have Ox0b_133 := hid (Ob.mk' (HN.out.2.1.mono (show w4.heap.size + 1 ≤ _ by simp)))
      have HSx0 := hid HN.out.2.2.1
      clear HN
      have L_134 := hid (l_alloc L_127.out (.cells #[.int .i64 s0, .slice (some ⟨x0a, 0, none⟩) n0 n0, .slice (some ⟨x0b, 0, none⟩) m0 m0] 27))
      have Bbox0_135 := hid (bk_alloc Bbox0_128.out (.cells #[.int .i64 s0, .slice (some ⟨x0a, 0, none⟩) n0 n0, .slice (some ⟨x0b, 0, none⟩) m0 m0] 27))
      have Ov0a_136 := hid (Ov0a_129.out.alloc (.cells #[.int .i64 s0, .slice (some ⟨x0a, 0, none⟩) n0 n0, .slice (some ⟨x0b, 0, none⟩) m0 m0] 27))
      have Ov0b_137 := hid (Ov0b_130.out.alloc (.cells #[.int .i64 s0, .slice (some ⟨x0a, 0, none⟩) n0 n0, .slice (some ⟨x0b, 0, none⟩) m0 m0] 27))
      have Bv0_138 := hid (bk_alloc Bv0_131.out (.cells #[.int .i64 s0, .slice (some ⟨x0a, 0, none⟩) n0 n0, .slice (some ⟨x0b, 0, none⟩) m0 m0] 27))
      have Ox0a_139 := hid (Ox0a_132.out.alloc (.cells #[.int .i64 s0, .slice (some ⟨x0a, 0, none⟩) n0 n0, .slice (some ⟨x0b, 0, none⟩) m0 m0] 27))
      have Ox0b_140 := hid (Ox0b_133.out.alloc (.cells #[.int .i64 s0, .slice (some ⟨x0a, 0, none⟩) n0 n0, .slice (some ⟨x0b, 0, none⟩) m0 m0] 27))
      clear L_127 Bbox0_128 Ov0a_129 Ov0b_130 Bv0_131 Ox0a_132 Ox0b_133
      have Bx0_141 := hid (bk_new w5 #[.int .i64 s0, .slice (some ⟨x0a, 0, none⟩) n0 n0, .slice (some ⟨x0b, 0, none⟩) m0 m0] 27)
      clear q00 q01 q02
      obtain ⟨⟨q00, q01, q02⟩, _⟩ := blk3 Bbox0_135.out
      go_wp2_with fail
      refine (law_toIntS _ _ _ A1 _ (H1a.out.below L_134.out) (by omega)).mono ?_
      rintro e w6 ⟨rfl, hB, hS, hF⟩
      have y6 := hB.size
      try simp only [World.size_alloc] at y6
      try simp only [World.size_alloc] at hF
      have HB := hid hB
      have HF := hid hF
      clear hB hF hS
      have L_142 := hid (l_below L_134.out HB.out)
      have Bbox0_143 := hid (bk_below Bbox0_135.out HB.out)
      have Ov0a_144 := hid (Ov0a_136.out.below HB.out)
      have Ov0b_145 := hid (Ov0b_137.out.below HB.out)
      have Bv0_146 := hid (bk_below Bv0_138.out HB.out)
      have Ox0a_147 := hid (Ox0a_139.out.below HB.out)
      have Ox0b_148 := hid (Ox0b_140.out.below HB.out)
      have Bx0_149 := hid (bk_below Bx0_141.out HB.out)
      clear L_134 Bbox0_135 Ov0a_136 Ov0b_137 Bv0_138 Ox0a_139 Ox0b_140 Bx0_141
      have Ox1a_150 := hid (Ob.mk' (HF.out.mono (show w5.heap.size + 1 ≤ _ by simp)))
      clear HB HF
      clear q00 q01 q02
      obtain ⟨⟨q00, q01, q02⟩, _⟩ := blk3 Bx0_149.out
      go_wp2_with fail
      refine (impl_PermuteTableau _ _ _ _ A0 _ _ _ B0 _ _ _ A1 _ Ox0a_147.out.fr.rd Ox0b_148.out.fr.rd Ox1a_150.out.fr.rd HR.out).mono ?_
      rintro e w7 ⟨g0p, g0n, g0c, g0q, g0m, g0d, rfl, hN⟩
      have y7 := hN.2.2.2.size
      try simp only [World.size_alloc] at y7
      have HN := hid hN
      clear hN
      have L_151 := hid (l_below L_142.out HN.out.2.2.2)
      have Bbox0_152 := hid (bk_below Bbox0_143.out HN.out.2.2.2)
      have Ov0a_153 := hid (Ov0a_144.out.below HN.out.2.2.2)
      have Ov0b_154 := hid (Ov0b_145.out.below HN.out.2.2.2)
      have Bv0_155 := hid (bk_below Bv0_146.out HN.out.2.2.2)
      have Ox0a_156 := hid (Ox0a_147.out.below HN.out.2.2.2)
      have Ox0b_157 := hid (Ox0b_148.out.below HN.out.2.2.2)
      have Bx0_158 := hid (bk_below Bx0_149.out HN.out.2.2.2)
      have Ox1a_159 := hid (Ox1a_150.out.below HN.out.2.2.2)
      clear L_142 Bbox0_143 Ov0a_144 Ov0b_145 Bv0_146 Ox0a_147 Ox0b_148 Bx0_149 Ox1a_150
      have Og0a_160 := hid (Ob.mk' HN.out.1)
      have Og0b_161 := hid (Ob.mk' HN.out.2.1)
      have hng0 : g0n ≤ 1000 := by rw [← HN.out.1.rd.len]; exact hlA
      have hmg0 : g0m ≤ 1000 := by rw [← HN.out.2.1.rd.len]; exact hlB
      have HSg0 := hid HN.out.2.2.1
      clear HN
      have L_162 := hid (l_alloc L_151.out (.cells #[.int .i64 rs, .slice g0p g0n g0c, .slice g0q g0m g0d] 27))
      have Bbox0_163 := hid (bk_alloc Bbox0_152.out (.cells #[.int .i64 rs, .slice g0p g0n g0c, .slice g0q g0m g0d] 27))
      have Ov0a_164 := hid (Ov0a_153.out.alloc (.cells #[.int .i64 rs, .slice g0p g0n g0c, .slice g0q g0m g0d] 27))
      have Ov0b_165 := hid (Ov0b_154.out.alloc (.cells #[.int .i64 rs, .slice g0p g0n g0c, .slice g0q g0m g0d] 27))
      have Bv0_166 := hid (bk_alloc Bv0_155.out (.cells #[.int .i64 rs, .slice g0p g0n g0c, .slice g0q g0m g0d] 27))
      have Ox0a_167 := hid (Ox0a_156.out.alloc (.cells #[.int .i64 rs, .slice g0p g0n g0c, .slice g0q g0m g0d] 27))
      have Ox0b_168 := hid (Ox0b_157.out.alloc (.cells #[.int .i64 rs, .slice g0p g0n g0c, .slice g0q g0m g0d] 27))
      have Bx0_169 := hid (bk_alloc Bx0_158.out (.cells #[.int .i64 rs, .slice g0p g0n g0c, .slice g0q g0m g0d] 27))
      have Ox1a_170 := hid (Ox1a_159.out.alloc (.cells #[.int .i64 rs, .slice g0p g0n g0c, .slice g0q g0m g0d] 27))
      have Og0a_171 := hid (Og0a_160.out.alloc (.cells #[.int .i64 rs, .slice g0p g0n g0c, .slice g0q g0m g0d] 27))
      have Og0b_172 := hid (Og0b_161.out.alloc (.cells #[.int .i64 rs, .slice g0p g0n g0c, .slice g0q g0m g0d] 27))
      clear L_151 Bbox0_152 Ov0a_153 Ov0b_154 Bv0_155 Ox0a_156 Ox0b_157 Bx0_158 Ox1a_159 Og0a_160 Og0b_161
      have Bg0_173 := hid (bk_new w7 #[.int .i64 rs, .slice g0p g0n g0c, .slice g0q g0m g0d] 27)
      clear q00 q01 q02
      obtain ⟨⟨q00, q01, q02⟩, _⟩ := blk3 Bg0_173.out
      obtain ⟨⟨q10, q11, q12⟩, _⟩ := blk3 Bv0_166.out
      go_wp2_with fail
      refine (law_eqTableau_true _ _ _ _ _ _ _ _ _ _ _ _ _ rA rB _ Og0a_171.out.fr.rd Og0b_172.out.fr.rd Ov0a_164.out.fr.rd Ov0b_165.out.fr.rd).mono ?_
      rintro e w8 ⟨rfl, hB⟩
      have y8 := hB.size
      try simp only [World.size_alloc] at y8
      have HB := hid hB
      clear hB
      have L_174 := hid (l_below L_162.out HB.out)
      have Bbox0_175 := hid (bk_below Bbox0_163.out HB.out)
      have Ov0a_176 := hid (Ov0a_164.out.below HB.out)
      have Ov0b_177 := hid (Ov0b_165.out.below HB.out)
      have Bv0_178 := hid (bk_below Bv0_166.out HB.out)
      have Ox0a_179 := hid (Ox0a_167.out.below HB.out)
      have Ox0b_180 := hid (Ox0b_168.out.below HB.out)
      have Bx0_181 := hid (bk_below Bx0_169.out HB.out)
      have Ox1a_182 := hid (Ox1a_170.out.below HB.out)
      have Og0a_183 := hid (Og0a_171.out.below HB.out)
      have Og0b_184 := hid (Og0b_172.out.below HB.out)
      have Bg0_185 := hid (bk_below Bg0_173.out HB.out)
      clear L_162 Bbox0_163 Ov0a_164 Ov0b_165 Bv0_166 Ox0a_167 Ox0b_168 Bx0_169 Ox1a_170 Og0a_171 Og0b_172 Bg0_173
      clear HB
      clear q00 q01 q02 q10 q11 q12
      obtain ⟨⟨q00, q01, q02⟩, _⟩ := blk3 Bbox0_175.out
      obtain ⟨⟨q10, q11, q12⟩, _⟩ := blk3 Bx0_181.out
      go_wp2_with fail
      have KP := hid (keep6 Bbox0_175.out Bx0_181.out)
      go_region_held3 (fun w' => w'.cell? ⟨w.heap.size, 0, none⟩ = some (.int .i64 s0) ∧ w'.cell? ⟨w.heap.size, 1, none⟩ = some (.slice a0 n0 c0) ∧ w'.cell? ⟨w.heap.size, 2, none⟩ = some (.slice b0 m0 d0) ∧ w'.cell? ⟨w5.heap.size, 0, none⟩ = some (.int .i64 s0) ∧ w'.cell? ⟨w5.heap.size, 1, none⟩ = some (.slice (some ⟨x0a, 0, none⟩) n0 n0) ∧ w'.cell? ⟨w5.heap.size, 2, none⟩ = some (.slice (some ⟨x0b, 0, none⟩) m0 m0))
        (first | exact KP.out _ ((Below.refl _ _).drew) | exact KP.out _ (of_drew hY.2.2.2) | exact KP.out _ ((of_drew hY.2.2.2).trans (hZ.mono (of_drew hY.2.2.2).size)))
        (first
          | (go_at_call 17; refine (law_toTableau _ _ _ _ A0 _ _ _ B0 _ (H0a.out.below L_174.out.drew) (H0b.out.below L_174.out.drew) (by omega)).mono ?_; rintro e w9 ⟨yq1, yq2, rfl, hY⟩)
          | (go_at_call 19; refine (law_eqTableau_true _ _ _ _ _ _ _ _ _ _ _ _ _ A0 B0 _ (Ox0a_179.out.fr.rd.below (of_drew hY.2.2.2)) (Ox0b_180.out.fr.rd.below (of_drew hY.2.2.2)) hY.1.rd hY.2.1.rd).mono ?_; rintro e w10 ⟨rfl, hZ⟩))
      have hB := (of_drew hY.2.2.2).trans (hZ.mono (of_drew hY.2.2.2).size)
      have y9 := hB.size
      try simp only [World.size_alloc] at y9
      have HB := hid hB
      clear hB hY hZ KP
      have L_186 := hid (l_below L_174.out HB.out)
      have Bbox0_187 := hid (bk_below Bbox0_175.out HB.out)
      have Ov0a_188 := hid (Ov0a_176.out.below HB.out)
      have Ov0b_189 := hid (Ov0b_177.out.below HB.out)
      have Bv0_190 := hid (bk_below Bv0_178.out HB.out)
      have Ox0a_191 := hid (Ox0a_179.out.below HB.out)
      have Ox0b_192 := hid (Ox0b_180.out.below HB.out)
      have Bx0_193 := hid (bk_below Bx0_181.out HB.out)
      have Ox1a_194 := hid (Ox1a_182.out.below HB.out)
      have Og0a_195 := hid (Og0a_183.out.below HB.out)
      have Og0b_196 := hid (Og0b_184.out.below HB.out)
      have Bg0_197 := hid (bk_below Bg0_185.out HB.out)
      clear L_174 Bbox0_175 Ov0a_176 Ov0b_177 Bv0_178 Ox0a_179 Ox0b_180 Bx0_181 Ox1a_182 Og0a_183 Og0b_184 Bg0_185
      clear HB
      go_wp2_with fail
      refine (law_toIntS _ _ _ A1 _ (H1a.out.below L_186.out) (by omega)).mono ?_
      rintro e w11 ⟨rfl, hB, hS, hF⟩
      have y10 := hB.size
      try simp only [World.size_alloc] at y10
      try simp only [World.size_alloc] at hF
      have HB := hid hB
      have HF := hid hF
      clear hB hF hS
      have L_198 := hid (l_below L_186.out HB.out)
      have Bbox0_199 := hid (bk_below Bbox0_187.out HB.out)
      have Ov0a_200 := hid (Ov0a_188.out.below HB.out)
      have Ov0b_201 := hid (Ov0b_189.out.below HB.out)
      have Bv0_202 := hid (bk_below Bv0_190.out HB.out)
      have Ox0a_203 := hid (Ox0a_191.out.below HB.out)
      have Ox0b_204 := hid (Ox0b_192.out.below HB.out)
      have Bx0_205 := hid (bk_below Bx0_193.out HB.out)
      have Ox1a_206 := hid (Ox1a_194.out.below HB.out)
      have Og0a_207 := hid (Og0a_195.out.below HB.out)
      have Og0b_208 := hid (Og0b_196.out.below HB.out)
      have Bg0_209 := hid (bk_below Bg0_197.out HB.out)
      clear L_186 Bbox0_187 Ov0a_188 Ov0b_189 Bv0_190 Ox0a_191 Ox0b_192 Bx0_193 Ox1a_194 Og0a_195 Og0b_196 Bg0_197
      have Oy1a_210 := hid (Ob.mk' HF.out)
      clear HB HF
      go_wp2_with fail
      refine (law_eqIntS_true _ _ _ _ _ _ A1 _ Ox1a_206.out.fr.rd Oy1a_210.out.fr.rd).mono ?_
      rintro e w12 ⟨rfl, hB⟩
      have y11 := hB.size
      try simp only [World.size_alloc] at y11
      have HB := hid hB
      clear hB
      have L_211 := hid (l_below L_198.out HB.out)
      have Bbox0_212 := hid (bk_below Bbox0_199.out HB.out)
      have Ov0a_213 := hid (Ov0a_200.out.below HB.out)
      have Ov0b_214 := hid (Ov0b_201.out.below HB.out)
      have Bv0_215 := hid (bk_below Bv0_202.out HB.out)
      have Ox0a_216 := hid (Ox0a_203.out.below HB.out)
      have Ox0b_217 := hid (Ox0b_204.out.below HB.out)
      have Bx0_218 := hid (bk_below Bx0_205.out HB.out)
      have Ox1a_219 := hid (Ox1a_206.out.below HB.out)
      have Og0a_220 := hid (Og0a_207.out.below HB.out)
      have Og0b_221 := hid (Og0b_208.out.below HB.out)
      have Bg0_222 := hid (bk_below Bg0_209.out HB.out)
      clear L_198 Bbox0_199 Ov0a_200 Ov0b_201 Bv0_202 Ox0a_203 Ox0b_204 Bx0_205 Ox1a_206 Og0a_207 Og0b_208 Bg0_209 Oy1a_210
      clear HB
      obtain ⟨⟨q00, q01, q02⟩, _⟩ := blk3 Bx0_218.out
      go_wp2_with fail
      refine (law_markTableau _ _ _ _ _ _ _ _ _ A0 B0 _ (Ox0a_216.out.fr.mono (Nat.le_refl _)) (Ox0b_217.out.fr.mono (by omega)) HSx0.out (by omega) (by omega) (by omega) (by omega)).mono ?_
      rintro e w13 ⟨rfl, hF1, hF2, wa, wb, rfl, hG1, hG2⟩
      have y12 := Nat.le_trans hG1.size hG2.size
      try simp only [World.size_alloc] at y12
      have HF1 := hid hF1
      have HF2 := hid hF2
      have HG1 := hid hG1
      have HG2 := hid hG2
      clear hF1 hF2 hG1 hG2
      have L_223 := hid (l_grown (l_grown (l_alloc L_211.out _) HG1.out (fun k hk => by have h1 := Ox0a_216.out.bd k hk; omega)) HG2.out (fun k hk => by have h1 := Ox0b_217.out.bd k hk; omega))
      have Bbox0_224 := hid (bk_grown (bk_grown (bk_alloc Bbox0_212.out _) HG1.out (fun k hk => by have h1 := Ox0a_216.out.bd k hk; omega)) HG2.out (fun k hk => by have h1 := Ox0b_217.out.bd k hk; omega))
      have Ov0a_225 := hid (((Ov0a_213.out.alloc _).grown HG1.out (fun k hk => by have h1 := Ox0a_216.out.bd k hk; omega)).grown HG2.out (fun k hk => by have h1 := Ox0b_217.out.bd k hk; omega))
      have Ov0b_226 := hid (((Ov0b_214.out.alloc _).grown HG1.out (fun k hk => by have h1 := Ox0a_216.out.bd k hk; omega)).grown HG2.out (fun k hk => by have h1 := Ox0b_217.out.bd k hk; omega))
      have Bv0_227 := hid (bk_grown (bk_grown (bk_alloc Bv0_215.out _) HG1.out (fun k hk => by have h1 := Ox0a_216.out.bd k hk; omega)) HG2.out (fun k hk => by have h1 := Ox0b_217.out.bd k hk; omega))
      have Ox1a_228 := hid (((Ox1a_219.out.alloc _).grown HG1.out (fun k hk => by have h1 := Ox0a_216.out.bd k hk; omega)).grown HG2.out (fun k hk => by have h1 := Ox0b_217.out.bd k hk; omega))
      have Og0a_229 := hid (((Og0a_220.out.alloc _).grown HG1.out (fun k hk => by have h1 := Ox0a_216.out.bd k hk; omega)).grown HG2.out (fun k hk => by have h1 := Ox0b_217.out.bd k hk; omega))
      have Og0b_230 := hid (((Og0b_221.out.alloc _).grown HG1.out (fun k hk => by have h1 := Ox0a_216.out.bd k hk; omega)).grown HG2.out (fun k hk => by have h1 := Ox0b_217.out.bd k hk; omega))
      have Bg0_231 := hid (bk_grown (bk_grown (bk_alloc Bg0_222.out _) HG1.out (fun k hk => by have h1 := Ox0a_216.out.bd k hk; omega)) HG2.out (fun k hk => by have h1 := Ox0b_217.out.bd k hk; omega))
      clear L_211 Bbox0_212 Ov0a_213 Ov0b_214 Bv0_215 Ox0a_216 Ox0b_217 Ox1a_219 Og0a_220 Og0b_221 Bg0_222
      clear HF1 HF2 HG1 HG2
      clear q00 q01 q02
      go_wp2_with fail
      refine (law_markIntS _ _ _ _ A1 _ _ Ox1a_228.out.fr (by omega) (by omega) (by omega)).mono ?_
      rintro e w14 ⟨rfl, hF1, hG1⟩
      have y13 := hG1.size
      try simp only [World.size_alloc] at y13
      have HF1 := hid hF1
      have HG1 := hid hG1
      clear hF1 hG1
      have L_232 := hid (l_grown L_223.out HG1.out (fun k hk => by have h1 := Ox1a_228.out.bd k hk; omega))
      have Bbox0_233 := hid (bk_grown Bbox0_224.out HG1.out (fun k hk => by have h1 := Ox1a_228.out.bd k hk; omega))
      have Ov0a_234 := hid (Ov0a_225.out.grown HG1.out (fun k hk => by have h1 := Ox1a_228.out.bd k hk; omega))
      have Ov0b_235 := hid (Ov0b_226.out.grown HG1.out (fun k hk => by have h1 := Ox1a_228.out.bd k hk; omega))
      have Bv0_236 := hid (bk_grown Bv0_227.out HG1.out (fun k hk => by have h1 := Ox1a_228.out.bd k hk; omega))
      have Og0a_237 := hid (Og0a_229.out.grown HG1.out (fun k hk => by have h1 := Ox1a_228.out.bd k hk; omega))
      have Og0b_238 := hid (Og0b_230.out.grown HG1.out (fun k hk => by have h1 := Ox1a_228.out.bd k hk; omega))
      have Bg0_239 := hid (bk_grown Bg0_231.out HG1.out (fun k hk => by have h1 := Ox1a_228.out.bd k hk; omega))
      clear L_223 Bbox0_224 Ov0a_225 Ov0b_226 Bv0_227 Ox1a_228 Og0a_229 Og0b_230 Bg0_231
      clear HF1 HG1
      obtain ⟨⟨q00, q01, q02⟩, _⟩ := blk3 Bg0_239.out
      obtain ⟨⟨q10, q11, q12⟩, _⟩ := blk3 Bv0_236.out
      go_wp2_with fail
      refine (law_eqTableau_true _ _ _ _ _ _ _ _ _ _ _ _ _ rA rB _ Og0a_237.out.fr.rd Og0b_238.out.fr.rd Ov0a_234.out.fr.rd Ov0b_235.out.fr.rd).mono ?_
      rintro e w15 ⟨rfl, hB⟩
      have y14 := hB.size
      try simp only [World.size_alloc] at y14
      have HB := hid hB
      clear hB
      have L_240 := hid (l_below L_232.out HB.out)
      have Bbox0_241 := hid (bk_below Bbox0_233.out HB.out)
      have Ov0a_242 := hid (Ov0a_234.out.below HB.out)
      have Ov0b_243 := hid (Ov0b_235.out.below HB.out)
      have Bv0_244 := hid (bk_below Bv0_236.out HB.out)
      have Og0a_245 := hid (Og0a_237.out.below HB.out)
      have Og0b_246 := hid (Og0b_238.out.below HB.out)
      have Bg0_247 := hid (bk_below Bg0_239.out HB.out)
      clear L_232 Bbox0_233 Ov0a_234 Ov0b_235 Bv0_236 Og0a_237 Og0b_238 Bg0_239
      clear HB
      clear q00 q01 q02 q10 q11 q12
      obtain ⟨⟨q00, q01, q02⟩, _⟩ := blk3 Bg0_247.out
      go_wp2_with fail
      refine (law_markTableau _ _ _ _ _ _ _ _ _ rA rB _ (Og0a_245.out.fr.mono (Nat.le_refl _)) (Og0b_246.out.fr.mono (by omega)) HSg0.out (by omega) (by omega) (by omega) (by omega)).mono ?_
      rintro e w16 ⟨rfl, hF1, hF2, wa, wb, rfl, hG1, hG2⟩
      have y15 := Nat.le_trans hG1.size hG2.size
      try simp only [World.size_alloc] at y15
      have HF1 := hid hF1
      have HF2 := hid hF2
      have HG1 := hid hG1
      have HG2 := hid hG2
      clear hF1 hF2 hG1 hG2
      have L_248 := hid (l_grown (l_grown (l_alloc L_240.out _) HG1.out (fun k hk => by have h1 := Og0a_245.out.bd k hk; omega)) HG2.out (fun k hk => by have h1 := Og0b_246.out.bd k hk; omega))
      have Bbox0_249 := hid (bk_grown (bk_grown (bk_alloc Bbox0_241.out _) HG1.out (fun k hk => by have h1 := Og0a_245.out.bd k hk; omega)) HG2.out (fun k hk => by have h1 := Og0b_246.out.bd k hk; omega))
      have Ov0a_250 := hid (((Ov0a_242.out.alloc _).grown HG1.out (fun k hk => by have h1 := Og0a_245.out.bd k hk; omega)).grown HG2.out (fun k hk => by have h1 := Og0b_246.out.bd k hk; omega))
      have Ov0b_251 := hid (((Ov0b_243.out.alloc _).grown HG1.out (fun k hk => by have h1 := Og0a_245.out.bd k hk; omega)).grown HG2.out (fun k hk => by have h1 := Og0b_246.out.bd k hk; omega))
      have Bv0_252 := hid (bk_grown (bk_grown (bk_alloc Bv0_244.out _) HG1.out (fun k hk => by have h1 := Og0a_245.out.bd k hk; omega)) HG2.out (fun k hk => by have h1 := Og0b_246.out.bd k hk; omega))
      have Bg0_253 := hid (bk_grown (bk_grown (bk_alloc Bg0_247.out _) HG1.out (fun k hk => by have h1 := Og0a_245.out.bd k hk; omega)) HG2.out (fun k hk => by have h1 := Og0b_246.out.bd k hk; omega))
      have Og0a_254 := hid (Ob.mk' HF1.out)
      have Og0b_255 := hid (Ob.mk' HF2.out)
      clear L_240 Bbox0_241 Ov0a_242 Ov0b_243 Bv0_244 Og0a_245 Og0b_246 Bg0_247
      clear HF1 HF2 HG1 HG2
      clear q00 q01 q02
      obtain ⟨⟨q00, q01, q02⟩, _⟩ := blk3 Bg0_253.out
      go_wp2_with fail
      refine (law_heldTableau _ _ _ _ _ _ _ 1 _ Og0a_254.out.fr.rd Og0b_255.out.fr.rd (by omega) (by omega) (by omega) (by omega)).mono ?_
      rintro e w17 ⟨rfl, hB⟩
      have y16 := hB.size
      try simp only [World.size_alloc] at y16
      have HB := hid hB
      clear hB
      have L_256 := hid (l_below L_248.out HB.out)
      have Bbox0_257 := hid (bk_below Bbox0_249.out HB.out)
      have Ov0a_258 := hid (Ov0a_250.out.below HB.out)
      have Ov0b_259 := hid (Ov0b_251.out.below HB.out)
      have Bv0_260 := hid (bk_below Bv0_252.out HB.out)
      have Bg0_261 := hid (bk_below Bg0_253.out HB.out)
      have Og0a_262 := hid (Og0a_254.out.below HB.out)
      have Og0b_263 := hid (Og0b_255.out.below HB.out)
      clear L_248 Bbox0_249 Ov0a_250 Ov0b_251 Bv0_252 Bg0_253 Og0a_254 Og0b_255
      clear HB
      clear q00 q01 q02
      obtain ⟨⟨q00, q01, q02⟩, _⟩ := blk3 Bbox0_257.out
      go_wp2_with fail
      clear q00 q01 q02
      obtain ⟨⟨q00, q01, q02⟩, _⟩ := blk3 Bbox0_257.out
      refine (law_toTableau _ _ _ _ A0 _ _ _ B0 _ (H0a.out.below L_256.out) (H0b.out.below L_256.out) (by omega)).mono ?_
      rintro e w18 ⟨r0a, r0b, rfl, hN⟩
      have y17 := hN.2.2.2.size
      try simp only [World.size_alloc] at y17
      have HN := hid hN
      clear hN
      have L_264 := hid (l_below L_256.out HN.out.2.2.2)
      have Bbox0_265 := hid (bk_below Bbox0_257.out HN.out.2.2.2)
      have Ov0a_266 := hid (Ov0a_258.out.below HN.out.2.2.2)
      have Ov0b_267 := hid (Ov0b_259.out.below HN.out.2.2.2)
      have Bv0_268 := hid (bk_below Bv0_260.out HN.out.2.2.2)
      have Bg0_269 := hid (bk_below Bg0_261.out HN.out.2.2.2)
      have Og0a_270 := hid (Og0a_262.out.below HN.out.2.2.2)
      have Og0b_271 := hid (Og0b_263.out.below HN.out.2.2.2)
      clear L_256 Bbox0_257 Ov0a_258 Ov0b_259 Bv0_260 Bg0_261 Og0a_262 Og0b_263
      have Or0a_272 := hid (Ob.mk' HN.out.1)
      have Or0b_273 := hid (Ob.mk' HN.out.2.1)
      clear HN
      go_wp2_with fail
      refine (law_toIntS _ _ _ A1 _ (H1a.out.below L_264.out) (by omega)).mono ?_
      rintro e w19 ⟨rfl, hB, hS, hF⟩
      have y18 := hB.size
      try simp only [World.size_alloc] at y18
      try simp only [World.size_alloc] at hF
      have HB := hid hB
      have HF := hid hF
      clear hB hF hS
      have L_274 := hid (l_below L_264.out HB.out)
      have Bbox0_275 := hid (bk_below Bbox0_265.out HB.out)
      have Ov0a_276 := hid (Ov0a_266.out.below HB.out)
      have Ov0b_277 := hid (Ov0b_267.out.below HB.out)
      have Bv0_278 := hid (bk_below Bv0_268.out HB.out)
      have Bg0_279 := hid (bk_below Bg0_269.out HB.out)
      have Og0a_280 := hid (Og0a_270.out.below HB.out)
      have Og0b_281 := hid (Og0b_271.out.below HB.out)
      have Or0a_282 := hid (Or0a_272.out.below HB.out)
      have Or0b_283 := hid (Or0b_273.out.below HB.out)
      clear L_264 Bbox0_265 Ov0a_266 Ov0b_267 Bv0_268 Bg0_269 Og0a_270 Og0b_271 Or0a_272 Or0b_273
      have Or1a_284 := hid (Ob.mk' HF.out)
      clear HB HF
      go_wp2_with fail
      refine (impl_PermuteTableau _ _ _ _ A0 _ _ _ B0 _ _ _ A1 _ Or0a_282.out.fr.rd Or0b_283.out.fr.rd Or1a_284.out.fr.rd HR.out).mono ?_
      rintro e w20 ⟨h0p, h0n, h0c, h0q, h0m, h0d, rfl, hN⟩
      have y19 := hN.2.2.2.size
      try simp only [World.size_alloc] at y19
      have HN := hid hN
      clear hN
      have L_285 := hid (l_below L_274.out HN.out.2.2.2)
      have Bbox0_286 := hid (bk_below Bbox0_275.out HN.out.2.2.2)
      have Ov0a_287 := hid (Ov0a_276.out.below HN.out.2.2.2)
      have Ov0b_288 := hid (Ov0b_277.out.below HN.out.2.2.2)
      have Bv0_289 := hid (bk_below Bv0_278.out HN.out.2.2.2)
      have Bg0_290 := hid (bk_below Bg0_279.out HN.out.2.2.2)
      have Og0a_291 := hid (Og0a_280.out.below HN.out.2.2.2)
      have Og0b_292 := hid (Og0b_281.out.below HN.out.2.2.2)
      have Or0a_293 := hid (Or0a_282.out.below HN.out.2.2.2)
      have Or0b_294 := hid (Or0b_283.out.below HN.out.2.2.2)
      have Or1a_295 := hid (Or1a_284.out.below HN.out.2.2.2)
      clear L_274 Bbox0_275 Ov0a_276 Ov0b_277 Bv0_278 Bg0_279 Og0a_280 Og0b_281 Or0a_282 Or0b_283 Or1a_284
      have Oh0a_296 := hid (Ob.mk' HN.out.1)
      have Oh0b_297 := hid (Ob.mk' HN.out.2.1)
      have hnh0 : h0n ≤ 1000 := by rw [← HN.out.1.rd.len]; exact hlA
      have hmh0 : h0m ≤ 1000 := by rw [← HN.out.2.1.rd.len]; exact hlB
      have HSh0 := hid HN.out.2.2.1
      clear HN
      have L_298 := hid (l_alloc L_285.out (.cells #[.int .i64 rs, .slice h0p h0n h0c, .slice h0q h0m h0d] 27))
      have Bbox0_299 := hid (bk_alloc Bbox0_286.out (.cells #[.int .i64 rs, .slice h0p h0n h0c, .slice h0q h0m h0d] 27))
      have Ov0a_300 := hid (Ov0a_287.out.alloc (.cells #[.int .i64 rs, .slice h0p h0n h0c, .slice h0q h0m h0d] 27))
      have Ov0b_301 := hid (Ov0b_288.out.alloc (.cells #[.int .i64 rs, .slice h0p h0n h0c, .slice h0q h0m h0d] 27))
      have Bv0_302 := hid (bk_alloc Bv0_289.out (.cells #[.int .i64 rs, .slice h0p h0n h0c, .slice h0q h0m h0d] 27))
      have Bg0_303 := hid (bk_alloc Bg0_290.out (.cells #[.int .i64 rs, .slice h0p h0n h0c, .slice h0q h0m h0d] 27))
      have Og0a_304 := hid (Og0a_291.out.alloc (.cells #[.int .i64 rs, .slice h0p h0n h0c, .slice h0q h0m h0d] 27))
      have Og0b_305 := hid (Og0b_292.out.alloc (.cells #[.int .i64 rs, .slice h0p h0n h0c, .slice h0q h0m h0d] 27))
      have Oh0a_306 := hid (Oh0a_296.out.alloc (.cells #[.int .i64 rs, .slice h0p h0n h0c, .slice h0q h0m h0d] 27))
      have Oh0b_307 := hid (Oh0b_297.out.alloc (.cells #[.int .i64 rs, .slice h0p h0n h0c, .slice h0q h0m h0d] 27))
      clear L_285 Bbox0_286 Ov0a_287 Ov0b_288 Bv0_289 Bg0_290 Og0a_291 Og0b_292 Oh0a_296 Oh0b_297
      have Bh0_308 := hid (bk_new w20 #[.int .i64 rs, .slice h0p h0n h0c, .slice h0q h0m h0d] 27)
      clear q00 q01 q02
      obtain ⟨⟨q00, q01, q02⟩, _⟩ := blk3 Bh0_308.out
      obtain ⟨⟨q10, q11, q12⟩, _⟩ := blk3 Bv0_302.out
      go_wp2_with fail
      refine (law_eqTableau_true _ _ _ _ _ _ _ _ _ _ _ _ _ rA rB _ Oh0a_306.out.fr.rd Oh0b_307.out.fr.rd Ov0a_300.out.fr.rd Ov0b_301.out.fr.rd).mono ?_
      rintro e w21 ⟨rfl, hB⟩
      have y20 := hB.size
      try simp only [World.size_alloc] at y20
      have HB := hid hB
      clear hB
      have L_309 := hid (l_below L_298.out HB.out)
      have Bbox0_310 := hid (bk_below Bbox0_299.out HB.out)
      have Ov0a_311 := hid (Ov0a_300.out.below HB.out)
      have Ov0b_312 := hid (Ov0b_301.out.below HB.out)
      have Bv0_313 := hid (bk_below Bv0_302.out HB.out)
      have Bg0_314 := hid (bk_below Bg0_303.out HB.out)
      have Og0a_315 := hid (Og0a_304.out.below HB.out)
      have Og0b_316 := hid (Og0b_305.out.below HB.out)
      have Oh0a_317 := hid (Oh0a_306.out.below HB.out)
      have Oh0b_318 := hid (Oh0b_307.out.below HB.out)
      have Bh0_319 := hid (bk_below Bh0_308.out HB.out)
      clear L_298 Bbox0_299 Ov0a_300 Ov0b_301 Bv0_302 Bg0_303 Og0a_304 Og0b_305 Oh0a_306 Oh0b_307 Bh0_308
      clear HB
      clear q00 q01 q02 q10 q11 q12
      obtain ⟨⟨q00, q01, q02⟩, _⟩ := blk3 Bg0_314.out
      go_wp2_with fail
      refine (law_heldTableau _ _ _ _ _ _ _ 1 _ Og0a_315.out.fr.rd Og0b_316.out.fr.rd (by omega) (by omega) (by omega) (by omega)).mono ?_
      rintro e w22 ⟨rfl, hB⟩
      have y21 := hB.size
      try simp only [World.size_alloc] at y21
      have HB := hid hB
      clear hB
      have L_320 := hid (l_below L_309.out HB.out)
      have Bbox0_321 := hid (bk_below Bbox0_310.out HB.out)
      have Ov0a_322 := hid (Ov0a_311.out.below HB.out)
      have Ov0b_323 := hid (Ov0b_312.out.below HB.out)
      have Bv0_324 := hid (bk_below Bv0_313.out HB.out)
      have Bg0_325 := hid (bk_below Bg0_314.out HB.out)
      have Og0a_326 := hid (Og0a_315.out.below HB.out)
      have Og0b_327 := hid (Og0b_316.out.below HB.out)
      have Oh0a_328 := hid (Oh0a_317.out.below HB.out)
      have Oh0b_329 := hid (Oh0b_318.out.below HB.out)
      have Bh0_330 := hid (bk_below Bh0_319.out HB.out)
      clear L_309 Bbox0_310 Ov0a_311 Ov0b_312 Bv0_313 Bg0_314 Og0a_315 Og0b_316 Oh0a_317 Oh0b_318 Bh0_319
      clear HB
      go_wp2_with fail
      go_ret
      exact ⟨rfl, L_320.out⟩
    · skip
      have L_431 := hid (Below.refl w.heap.size w)
      have L_432 := hid (l_alloc L_431.out (.cells #[.int .i64 s0, .slice a0 n0 c0, .slice b0 m0 d0] 24))
      clear L_431
      have Bbox0_433 := hid (bk_new w #[.int .i64 s0, .slice a0 n0 c0, .slice b0 m0 d0] 24)
      go_enter Try.func12, Try.ntmps12
      go_wp2_with fail
      refine (law_szTableau_no _ _ _ _ _ _ _ _ _ (by omega) (by omega) (by omega) (by omega) (by omega)).mono ?_
      rintro e w1 ⟨rfl, hB⟩
      have y22 := hB.size
      try simp only [World.size_alloc] at y22
      have HB := hid hB
      clear hB
      have L_434 := hid (l_below L_432.out HB.out)
      have Bbox0_435 := hid (bk_below Bbox0_433.out HB.out)
      clear L_432 Bbox0_433
      clear HB
      obtain ⟨⟨q00, q01, q02⟩, _⟩ := blk3 Bbox0_435.out
      go_wp2_with fail
      go_ret
      exact ⟨rfl, L_434.out⟩
  · skip
    have L_536 := hid (Below.refl w.heap.size w)
    have L_537 := hid (l_alloc L_536.out (.cells #[.int .i64 s0, .slice a0 n0 c0, .slice b0 m0 d0] 24))
    clear L_536
    have Bbox0_538 := hid (bk_new w #[.int .i64 s0, .slice a0 n0 c0, .slice b0 m0 d0] 24)
    go_enter Try.func12, Try.ntmps12
    go_wp2_with fail
    go_wp2_with fail
    go_ret
    exact ⟨rfl, L_537.out⟩
end Go.Proofs.Ytekojohhjnklkaa
