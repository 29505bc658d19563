/- FnExactCollocationTableau: the walk of the law. -/
import Derived.Test.YthebegfceaehfaaColI
import Derived.Test.YthebegfceaehfaaColS
import Derived.Test.YthebegfceaehfaaOb
namespace Go.Proofs.Ythebegfceaehfaa
open Go.RowKit

set_option maxRecDepth 20000 in
set_option maxHeartbeats 2000000 in
theorem walk_CollocationTableau {w : World} (a0 : Option Addr) (n0 c0 : Nat) (A0 : List Int) (g0a : Rd w a0 n0 c0 A0) :
    Calls Try.prog 6 #[.slice a0 n0 c0] w fun e w' => e = .returned (.bool true) ∧ Below w.heap.size w w' := by
  have z0a : n0 ≤ 9223372036854775807 := Nat.le_trans g0a.cap g0a.max
  have H0a := hid g0a
  clear g0a
  obtain ⟨rs, rA, rB, rb, HR⟩ : ∃ rs rA rB rb, Hid (colV A0 = ⟨rs, rA, rB, rb⟩) := ⟨_, _, _, _, rfl⟩
  obtain ⟨hlA, hlB⟩ : rA.length ≤ 1000 ∧ rB.length ≤ 1000 := by have h := colV_len A0; rw [HR.out] at h; first | exact h | omega
  by_cases hs0 : n0 ≤ 1048576
  · skip
    have L_101 := hid (Below.refl w.heap.size w)
    go_enter Try.func6, Try.ntmps6
    go_wp2_with fail
    refine (law_toIntS _ _ _ A0 _ (H0a.out.below L_101.out) (by omega)).mono ?_
    rintro e w1 ⟨rfl, hB, hS, hF⟩
    have y1 := hB.size
    try simp only [World.size_alloc] at y1
    try simp only [World.size_alloc] at hF
    have HB := hid hB
    have HF := hid hF
    clear hB hF hS
    have L_102 := hid (l_below L_101.out HB.out)
    clear L_101
    have Ou0a_103 := hid (Ob.mk' HF.out)
    clear HB HF
    go_wp2_with fail
    refine (spec_CollocationTableau _ _ _ A0 _ Ou0a_103.out.fr.rd HR.out).mono ?_
    rintro e w2 ⟨v0p, v0n, v0c, v0q, v0m, v0d, rfl, hN⟩
    have y2 := hN.2.2.2.size
    try simp only [World.size_alloc] at y2
    have HN := hid hN
    clear hN
    have L_104 := hid (l_below L_102.out HN.out.2.2.2)
    have Ou0a_105 := hid (Ou0a_103.out.below HN.out.2.2.2)
    clear L_102 Ou0a_103
    have Ov0a_106 := hid (Ob.mk' HN.out.1)
    have Ov0b_107 := hid (Ob.mk' HN.out.2.1)
    have hnv0 : v0n ≤ 1000 := by rw [← HN.out.1.rd.len]; exact hlA
    have hmv0 : v0m ≤ 1000 := by rw [← HN.out.2.1.rd.len]; exact hlB
    have HSv0 := hid HN.out.2.2.1
    clear HN
    have L_108 := hid (l_alloc L_104.out (.cells #[.int .i64 rs, .slice v0p v0n v0c, .slice v0q v0m v0d] 27))
    have Ov0a_109 := hid (Ov0a_106.out.alloc (.cells #[.int .i64 rs, .slice v0p v0n v0c, .slice v0q v0m v0d] 27))
    have Ov0b_110 := hid (Ov0b_107.out.alloc (.cells #[.int .i64 rs, .slice v0p v0n v0c, .slice v0q v0m v0d] 27))
    clear L_104 Ov0a_106 Ov0b_107
    have Bv0_111 := hid (bk_new w2 #[.int .i64 rs, .slice v0p v0n v0c, .slice v0q v0m v0d] 27)
    go_wp2_with fail
    refine (law_toIntS _ _ _ A0 _ (H0a.out.below L_108.out) (by omega)).mono ?_
    rintro e w3 ⟨rfl, hB, hS, hF⟩
    have y3 := hB.size
    try simp only [World.size_alloc] at y3
    try simp only [World.size_alloc] at hF
    have HB := hid hB
    have HF := hid hF
    clear hB hF hS
    have L_112 := hid (l_below L_108.out HB.out)
    have Ov0a_113 := hid (Ov0a_109.out.below HB.out)
    have Ov0b_114 := hid (Ov0b_110.out.below HB.out)
    have Bv0_115 := hid (bk_below Bv0_111.out HB.out)
    clear L_108 Ov0a_109 Ov0b_110 Bv0_111
    have Ox0a_116 := hid (Ob.mk' (HF.out.mono (show w2.heap.size + 1 ≤ _ by simp)))
    clear HB HF
    go_wp2_with fail
    refine (impl_CollocationTableau _ _ _ A0 _ Ox0a_116.out.fr.rd HR.out).mono ?_
    rintro e w4 ⟨g0p, g0n, g0c, g0q, g0m, g0d, rfl, hN⟩
    have y4 := hN.2.2.2.size
    try simp only [World.size_alloc] at y4
    have HN := hid hN
    clear hN
    have L_117 := hid (l_below L_112.out HN.out.2.2.2)
    have Ov0a_118 := hid (Ov0a_113.out.below HN.out.2.2.2)
    have Ov0b_119 := hid (Ov0b_114.out.below HN.out.2.2.2)
    have Bv0_120 := hid (bk_below Bv0_115.out HN.out.2.2.2)
    have Ox0a_121 := hid (Ox0a_116.out.below HN.out.2.2.2)
    clear L_112 Ov0a_113 Ov0b_114 Bv0_115 Ox0a_116
    have Og0a_122 := hid (Ob.mk' HN.out.1)
    have Og0b_123 := hid (Ob.mk' HN.out.2.1)
    have hng0 : g0n ≤ 1000 := by rw [← HN.out.1.rd.len]; exact hlA
    have hmg0 : g0m ≤ 1000 := by rw [← HN.out.2.1.rd.len]; exact hlB
    have HSg0 := hid HN.out.2.2.1
    clear HN
    have L_124 := hid (l_alloc L_117.out (.cells #[.int .i64 rs, .slice g0p g0n g0c, .slice g0q g0m g0d] 27))
    have Ov0a_125 := hid (Ov0a_118.out.alloc (.cells #[.int .i64 rs, .slice g0p g0n g0c, .slice g0q g0m g0d] 27))
    have Ov0b_126 := hid (Ov0b_119.out.alloc (.cells #[.int .i64 rs, .slice g0p g0n g0c, .slice g0q g0m g0d] 27))
    have Bv0_127 := hid (bk_alloc Bv0_120.out (.cells #[.int .i64 rs, .slice g0p g0n g0c, .slice g0q g0m g0d] 27))
    have Ox0a_128 := hid (Ox0a_121.out.alloc (.cells #[.int .i64 rs, .slice g0p g0n g0c, .slice g0q g0m g0d] 27))
    have Og0a_129 := hid (Og0a_122.out.alloc (.cells #[.int .i64 rs, .slice g0p g0n g0c, .slice g0q g0m g0d] 27))
    have Og0b_130 := hid (Og0b_123.out.alloc (.cells #[.int .i64 rs, .slice g0p g0n g0c, .slice g0q g0m g0d] 27))
    clear L_117 Ov0a_118 Ov0b_119 Bv0_120 Ox0a_121 Og0a_122 Og0b_123
    have Bg0_131 := hid (bk_new w4 #[.int .i64 rs, .slice g0p g0n g0c, .slice g0q g0m g0d] 27)
    obtain ⟨⟨q00, q01, q02⟩, _⟩ := blk3 Bg0_131.out
    obtain ⟨⟨q10, q11, q12⟩, _⟩ := blk3 Bv0_127.out
    go_wp2_with fail
    refine (law_eqTableau_true _ _ _ _ _ _ _ _ _ _ _ _ _ rA rB _ Og0a_129.out.fr.rd Og0b_130.out.fr.rd Ov0a_125.out.fr.rd Ov0b_126.out.fr.rd).mono ?_
    rintro e w5 ⟨rfl, hB⟩
    have y5 := hB.size
    try simp only [World.size_alloc] at y5
    have HB := hid hB
    clear hB
    have L_132 := hid (l_below L_124.out HB.out)
    have Ov0a_133 := hid (Ov0a_125.out.below HB.out)
    have Ov0b_134 := hid (Ov0b_126.out.below HB.out)
    have Bv0_135 := hid (bk_below Bv0_127.out HB.out)
    have Ox0a_136 := hid (Ox0a_128.out.below HB.out)
    have Og0a_137 := hid (Og0a_129.out.below HB.out)
    have Og0b_138 := hid (Og0b_130.out.below HB.out)
    have Bg0_139 := hid (bk_below Bg0_131.out HB.out)
    clear L_124 Ov0a_125 Ov0b_126 Bv0_127 Ox0a_128 Og0a_129 Og0b_130 Bg0_131
    clear HB
    clear q00 q01 q02 q10 q11 q12
    go_wp2_with fail
    refine (law_toIntS _ _ _ A0 _ (H0a.out.below L_132.out) (by omega)).mono ?_
    rintro e w6 ⟨rfl, hB, hS, hF⟩
    have y6 := hB.size
    try simp only [World.size_alloc] at y6
    try simp only [World.size_alloc] at hF
    have HB := hid hB
    have HF := hid hF
    clear hB hF hS
    have L_140 := hid (l_below L_132.out HB.out)
    have Ov0a_141 := hid (Ov0a_133.out.below HB.out)
    have Ov0b_142 := hid (Ov0b_134.out.below HB.out)
    have Bv0_143 := hid (bk_below Bv0_135.out HB.out)
    have Ox0a_144 := hid (Ox0a_136.out.below HB.out)
    have Og0a_145 := hid (Og0a_137.out.below HB.out)
    have Og0b_146 := hid (Og0b_138.out.below HB.out)
    have Bg0_147 := hid (bk_below Bg0_139.out HB.out)
    clear L_132 Ov0a_133 Ov0b_134 Bv0_135 Ox0a_136 Og0a_137 Og0b_138 Bg0_139
    have Oy0a_148 := hid (Ob.mk' HF.out)
    clear HB HF
    go_wp2_with fail
    refine (law_eqIntS_true _ _ _ _ _ _ A0 _ Ox0a_144.out.fr.rd Oy0a_148.out.fr.rd).mono ?_
    rintro e w7 ⟨rfl, hB⟩
    have y7 := hB.size
    try simp only [World.size_alloc] at y7
    have HB := hid hB
    clear hB
    have L_149 := hid (l_below L_140.out HB.out)
    have Ov0a_150 := hid (Ov0a_141.out.below HB.out)
    have Ov0b_151 := hid (Ov0b_142.out.below HB.out)
    have Bv0_152 := hid (bk_below Bv0_143.out HB.out)
    have Ox0a_153 := hid (Ox0a_144.out.below HB.out)
    have Og0a_154 := hid (Og0a_145.out.below HB.out)
    have Og0b_155 := hid (Og0b_146.out.below HB.out)
    have Bg0_156 := hid (bk_below Bg0_147.out HB.out)
    clear L_140 Ov0a_141 Ov0b_142 Bv0_143 Ox0a_144 Og0a_145 Og0b_146 Bg0_147 Oy0a_148
    clear HB
    go_wp2_with fail
    refine (law_markIntS _ _ _ _ A0 _ _ Ox0a_153.out.fr (by omega) (by omega) (by omega)).mono ?_
    rintro e w8 ⟨rfl, hF1, hG1⟩
    have y8 := hG1.size
    try simp only [World.size_alloc] at y8
    have HF1 := hid hF1
    have HG1 := hid hG1
    clear hF1 hG1
    have L_157 := hid (l_grown L_149.out HG1.out (fun k hk => by have h1 := Ox0a_153.out.bd k hk; omega))
    have Ov0a_158 := hid (Ov0a_150.out.grown HG1.out (fun k hk => by have h1 := Ox0a_153.out.bd k hk; omega))
    have Ov0b_159 := hid (Ov0b_151.out.grown HG1.out (fun k hk => by have h1 := Ox0a_153.out.bd k hk; omega))
    have Bv0_160 := hid (bk_grown Bv0_152.out HG1.out (fun k hk => by have h1 := Ox0a_153.out.bd k hk; omega))
    have Og0a_161 := hid (Og0a_154.out.grown HG1.out (fun k hk => by have h1 := Ox0a_153.out.bd k hk; omega))
    have Og0b_162 := hid (Og0b_155.out.grown HG1.out (fun k hk => by have h1 := Ox0a_153.out.bd k hk; omega))
    have Bg0_163 := hid (bk_grown Bg0_156.out HG1.out (fun k hk => by have h1 := Ox0a_153.out.bd k hk; omega))
    clear L_149 Ov0a_150 Ov0b_151 Bv0_152 Ox0a_153 Og0a_154 Og0b_155 Bg0_156
    clear HF1 HG1
    obtain ⟨⟨q00, q01, q02⟩, _⟩ := blk3 Bg0_163.out
    obtain ⟨⟨q10, q11, q12⟩, _⟩ := blk3 Bv0_160.out
    go_wp2_with fail
    refine (law_eqTableau_true _ _ _ _ _ _ _ _ _ _ _ _ _ rA rB _ Og0a_161.out.fr.rd Og0b_162.out.fr.rd Ov0a_158.out.fr.rd Ov0b_159.out.fr.rd).mono ?_
    rintro e w9 ⟨rfl, hB⟩
    have y9 := hB.size
    try simp only [World.size_alloc] at y9
    have HB := hid hB
    clear hB
    have L_164 := hid (l_below L_157.out HB.out)
    have Ov0a_165 := hid (Ov0a_158.out.below HB.out)
    have Ov0b_166 := hid (Ov0b_159.out.below HB.out)
    have Bv0_167 := hid (bk_below Bv0_160.out HB.out)
    have Og0a_168 := hid (Og0a_161.out.below HB.out)
    have Og0b_169 := hid (Og0b_162.out.below HB.out)
    have Bg0_170 := hid (bk_below Bg0_163.out HB.out)
    clear L_157 Ov0a_158 Ov0b_159 Bv0_160 Og0a_161 Og0b_162 Bg0_163
    clear HB
    clear q00 q01 q02 q10 q11 q12
    obtain ⟨⟨q00, q01, q02⟩, _⟩ := blk3 Bg0_170.out
    go_wp2_with fail
    refine (law_markTableau _ _ _ _ _ _ _ _ _ rA rB _ (Og0a_168.out.fr.mono (Nat.le_refl _)) (Og0b_169.out.fr.mono (by omega)) HSg0.out (by omega) (by omega) (by omega) (by omega)).mono ?_
    rintro e w10 ⟨rfl, hF1, hF2, wa, wb, rfl, hG1, hG2⟩
    have y10 := Nat.le_trans hG1.size hG2.size
    try simp only [World.size_alloc] at y10
    have HF1 := hid hF1
    have HF2 := hid hF2
    have HG1 := hid hG1
    have HG2 := hid hG2
    clear hF1 hF2 hG1 hG2
    have L_171 := hid (l_grown (l_grown (l_alloc L_164.out _) HG1.out (fun k hk => by have h1 := Og0a_168.out.bd k hk; omega)) HG2.out (fun k hk => by have h1 := Og0b_169.out.bd k hk; omega))
    have Ov0a_172 := hid (((Ov0a_165.out.alloc _).grown HG1.out (fun k hk => by have h1 := Og0a_168.out.bd k hk; omega)).grown HG2.out (fun k hk => by have h1 := Og0b_169.out.bd k hk; omega))
    have Ov0b_173 := hid (((Ov0b_166.out.alloc _).grown HG1.out (fun k hk => by have h1 := Og0a_168.out.bd k hk; omega)).grown HG2.out (fun k hk => by have h1 := Og0b_169.out.bd k hk; omega))
    have Bv0_174 := hid (bk_grown (bk_grown (bk_alloc Bv0_167.out _) HG1.out (fun k hk => by have h1 := Og0a_168.out.bd k hk; omega)) HG2.out (fun k hk => by have h1 := Og0b_169.out.bd k hk; omega))
    have Bg0_175 := hid (bk_grown (bk_grown (bk_alloc Bg0_170.out _) HG1.out (fun k hk => by have h1 := Og0a_168.out.bd k hk; omega)) HG2.out (fun k hk => by have h1 := Og0b_169.out.bd k hk; omega))
    have Og0a_176 := hid (Ob.mk' HF1.out)
    have Og0b_177 := hid (Ob.mk' HF2.out)
    clear L_164 Ov0a_165 Ov0b_166 Bv0_167 Og0a_168 Og0b_169 Bg0_170
    clear HF1 HF2 HG1 HG2
    clear q00 q01 q02
    obtain ⟨⟨q00, q01, q02⟩, _⟩ := blk3 Bg0_175.out
    go_wp2_with fail
    refine (law_heldTableau _ _ _ _ _ _ _ 1 _ Og0a_176.out.fr.rd Og0b_177.out.fr.rd (by omega) (by omega) (by omega) (by omega)).mono ?_
    rintro e w11 ⟨rfl, hB⟩
    have y11 := hB.size
    try simp only [World.size_alloc] at y11
    have HB := hid hB
    clear hB
    have L_178 := hid (l_below L_171.out HB.out)
    have Ov0a_179 := hid (Ov0a_172.out.below HB.out)
    have Ov0b_180 := hid (Ov0b_173.out.below HB.out)
    have Bv0_181 := hid (bk_below Bv0_174.out HB.out)
    have Bg0_182 := hid (bk_below Bg0_175.out HB.out)
    have Og0a_183 := hid (Og0a_176.out.below HB.out)
    have Og0b_184 := hid (Og0b_177.out.below HB.out)
    clear L_171 Ov0a_172 Ov0b_173 Bv0_174 Bg0_175 Og0a_176 Og0b_177
    clear HB
    clear q00 q01 q02
    go_wp2_with fail
    refine (law_toIntS _ _ _ A0 _ (H0a.out.below L_178.out) (by omega)).mono ?_
    rintro e w12 ⟨rfl, hB, hS, hF⟩
    have y12 := hB.size
    try simp only [World.size_alloc] at y12
    try simp only [World.size_alloc] at hF
    have HB := hid hB
    have HF := hid hF
    clear hB hF hS
    have L_185 := hid (l_below L_178.out HB.out)
    have Ov0a_186 := hid (Ov0a_179.out.below HB.out)
    have Ov0b_187 := hid (Ov0b_180.out.below HB.out)
    have Bv0_188 := hid (bk_below Bv0_181.out HB.out)
    have Bg0_189 := hid (bk_below Bg0_182.out HB.out)
    have Og0a_190 := hid (Og0a_183.out.below HB.out)
    have Og0b_191 := hid (Og0b_184.out.below HB.out)
    clear L_178 Ov0a_179 Ov0b_180 Bv0_181 Bg0_182 Og0a_183 Og0b_184
    have Or0a_192 := hid (Ob.mk' HF.out)
    clear HB HF
    go_wp2_with fail
    refine (impl_CollocationTableau _ _ _ A0 _ Or0a_192.out.fr.rd HR.out).mono ?_
    rintro e w13 ⟨h0p, h0n, h0c, h0q, h0m, h0d, rfl, hN⟩
    have y13 := hN.2.2.2.size
    try simp only [World.size_alloc] at y13
    have HN := hid hN
    clear hN
    have L_193 := hid (l_below L_185.out HN.out.2.2.2)
    have Ov0a_194 := hid (Ov0a_186.out.below HN.out.2.2.2)
    have Ov0b_195 := hid (Ov0b_187.out.below HN.out.2.2.2)
    have Bv0_196 := hid (bk_below Bv0_188.out HN.out.2.2.2)
    have Bg0_197 := hid (bk_below Bg0_189.out HN.out.2.2.2)
    have Og0a_198 := hid (Og0a_190.out.below HN.out.2.2.2)
    have Og0b_199 := hid (Og0b_191.out.below HN.out.2.2.2)
    have Or0a_200 := hid (Or0a_192.out.below HN.out.2.2.2)
    clear L_185 Ov0a_186 Ov0b_187 Bv0_188 Bg0_189 Og0a_190 Og0b_191 Or0a_192
    have Oh0a_201 := hid (Ob.mk' HN.out.1)
    have Oh0b_202 := hid (Ob.mk' HN.out.2.1)
    have hnh0 : h0n ≤ 1000 := by rw [← HN.out.1.rd.len]; exact hlA
    have hmh0 : h0m ≤ 1000 := by rw [← HN.out.2.1.rd.len]; exact hlB
    have HSh0 := hid HN.out.2.2.1
    clear HN
    have L_203 := hid (l_alloc L_193.out (.cells #[.int .i64 rs, .slice h0p h0n h0c, .slice h0q h0m h0d] 27))
    have Ov0a_204 := hid (Ov0a_194.out.alloc (.cells #[.int .i64 rs, .slice h0p h0n h0c, .slice h0q h0m h0d] 27))
    have Ov0b_205 := hid (Ov0b_195.out.alloc (.cells #[.int .i64 rs, .slice h0p h0n h0c, .slice h0q h0m h0d] 27))
    have Bv0_206 := hid (bk_alloc Bv0_196.out (.cells #[.int .i64 rs, .slice h0p h0n h0c, .slice h0q h0m h0d] 27))
    have Bg0_207 := hid (bk_alloc Bg0_197.out (.cells #[.int .i64 rs, .slice h0p h0n h0c, .slice h0q h0m h0d] 27))
    have Og0a_208 := hid (Og0a_198.out.alloc (.cells #[.int .i64 rs, .slice h0p h0n h0c, .slice h0q h0m h0d] 27))
    have Og0b_209 := hid (Og0b_199.out.alloc (.cells #[.int .i64 rs, .slice h0p h0n h0c, .slice h0q h0m h0d] 27))
    have Oh0a_210 := hid (Oh0a_201.out.alloc (.cells #[.int .i64 rs, .slice h0p h0n h0c, .slice h0q h0m h0d] 27))
    have Oh0b_211 := hid (Oh0b_202.out.alloc (.cells #[.int .i64 rs, .slice h0p h0n h0c, .slice h0q h0m h0d] 27))
    clear L_193 Ov0a_194 Ov0b_195 Bv0_196 Bg0_197 Og0a_198 Og0b_199 Oh0a_201 Oh0b_202
    have Bh0_212 := hid (bk_new w13 #[.int .i64 rs, .slice h0p h0n h0c, .slice h0q h0m h0d] 27)
    obtain ⟨⟨q00, q01, q02⟩, _⟩ := blk3 Bh0_212.out
    obtain ⟨⟨q10, q11, q12⟩, _⟩ := blk3 Bv0_206.out
    go_wp2_with fail
    refine (law_eqTableau_true _ _ _ _ _ _ _ _ _ _ _ _ _ rA rB _ Oh0a_210.out.fr.rd Oh0b_211.out.fr.rd Ov0a_204.out.fr.rd Ov0b_205.out.fr.rd).mono ?_
    rintro e w14 ⟨rfl, hB⟩
    have y14 := hB.size
    try simp only [World.size_alloc] at y14
    have HB := hid hB
    clear hB
    have L_213 := hid (l_below L_203.out HB.out)
    have Ov0a_214 := hid (Ov0a_204.out.below HB.out)
    have Ov0b_215 := hid (Ov0b_205.out.below HB.out)
    have Bv0_216 := hid (bk_below Bv0_206.out HB.out)
    have Bg0_217 := hid (bk_below Bg0_207.out HB.out)
    have Og0a_218 := hid (Og0a_208.out.below HB.out)
    have Og0b_219 := hid (Og0b_209.out.below HB.out)
    have Oh0a_220 := hid (Oh0a_210.out.below HB.out)
    have Oh0b_221 := hid (Oh0b_211.out.below HB.out)
    have Bh0_222 := hid (bk_below Bh0_212.out HB.out)
    clear L_203 Ov0a_204 Ov0b_205 Bv0_206 Bg0_207 Og0a_208 Og0b_209 Oh0a_210 Oh0b_211 Bh0_212
    clear HB
    clear q00 q01 q02 q10 q11 q12
    obtain ⟨⟨q00, q01, q02⟩, _⟩ := blk3 Bg0_217.out
    go_wp2_with fail
    refine (law_heldTableau _ _ _ _ _ _ _ 1 _ Og0a_218.out.fr.rd Og0b_219.out.fr.rd (by omega) (by omega) (by omega) (by omega)).mono ?_
    rintro e w15 ⟨rfl, hB⟩
    have y15 := hB.size
    try simp only [World.size_alloc] at y15
    have HB := hid hB
    clear hB
    have L_223 := hid (l_below L_213.out HB.out)
    have Ov0a_224 := hid (Ov0a_214.out.below HB.out)
    have Ov0b_225 := hid (Ov0b_215.out.below HB.out)
    have Bv0_226 := hid (bk_below Bv0_216.out HB.out)
    have Bg0_227 := hid (bk_below Bg0_217.out HB.out)
    have Og0a_228 := hid (Og0a_218.out.below HB.out)
    have Og0b_229 := hid (Og0b_219.out.below HB.out)
    have Oh0a_230 := hid (Oh0a_220.out.below HB.out)
    have Oh0b_231 := hid (Oh0b_221.out.below HB.out)
    have Bh0_232 := hid (bk_below Bh0_222.out HB.out)
    clear L_213 Ov0a_214 Ov0b_215 Bv0_216 Bg0_217 Og0a_218 Og0b_219 Oh0a_220 Oh0b_221 Bh0_222
    clear HB
    go_wp2_with fail
    go_ret
    exact ⟨rfl, L_223.out⟩
  · skip
    have L_333 := hid (Below.refl w.heap.size w)
    go_enter Try.func6, Try.ntmps6
    go_wp2_with fail
    go_wp2_with fail
    go_ret
    exact ⟨rfl, L_333.out⟩
end Go.Proofs.Ythebegfceaehfaa
