/- FnExactReduceTableau: the walk of the law. -/
import Derived.Test.YtekojohhjnklkaaRdcI
import Derived.Test.YtekojohhjnklkaaRdcS
import Derived.Test.YtekojohhjnklkaaOb
namespace Go.Proofs.Ytekojohhjnklkaa
open Go.RowKit

set_option maxRecDepth 20000 in
set_option maxHeartbeats 2000000 in
theorem walk_ReduceTableau {w : World} (s0 : Int) (a0 : Option Addr) (n0 c0 : Nat) (A0 : List Int) (b0 : Option Addr) (m0 d0 : Nat) (B0 : List Int) (g0a : Rd w a0 n0 c0 A0) (g0b : Rd w b0 m0 d0 B0) (_hs0 : I64 s0) :
    Calls Try.prog 14 #[.agg #[.int .i64 s0, .slice a0 n0 c0, .slice b0 m0 d0]] w fun e w' => e = .returned (.bool true) ∧ Below w.heap.size w w' := by
  have z0a : n0 ≤ 9223372036854775807 := Nat.le_trans g0a.cap g0a.max
  have H0a := hid g0a
  clear g0a
  have z0b : m0 ≤ 9223372036854775807 := Nat.le_trans g0b.cap g0b.max
  have H0b := hid g0b
  clear g0b
  obtain ⟨rs, rA, rB, rb, HR⟩ : ∃ rs rA rB rb, Hid (redV s0 A0 B0 = ⟨rs, rA, rB, rb⟩) := ⟨_, _, _, _, rfl⟩
  obtain ⟨hlA, hlB⟩ : rA.length ≤ 1000 ∧ rB.length ≤ 1000 := by have h := redV_len s0 A0 B0; rw [HR.out] at h; first | exact h | omega
  by_cases hs0 : n0 + m0 ≤ 1048576
  · skip
    have L_101 := hid (Below.refl w.heap.size w)
    have L_102 := hid (l_alloc L_101.out (.cells #[.int .i64 s0, .slice a0 n0 c0, .slice b0 m0 d0] 24))
    clear L_101
    have Bbox0_103 := hid (bk_new w #[.int .i64 s0, .slice a0 n0 c0, .slice b0 m0 d0] 24)
    go_enter Try.func14, Try.ntmps14
    go_wp2_with fail
    refine (law_szTableau_yes _ _ _ _ _ _ _ _ _ (by omega) (by omega)).mono ?_
    rintro e w1 ⟨rfl, hB⟩
    have y1 := hB.size
    try simp only [World.size_alloc] at y1
    have HB := hid hB
    clear hB
    have L_104 := hid (l_below L_102.out HB.out)
    have Bbox0_105 := hid (bk_below Bbox0_103.out HB.out)
    clear L_102 Bbox0_103
    clear HB
    obtain ⟨⟨q00, q01, q02⟩, _⟩ := blk3 Bbox0_105.out
    go_wp2_with fail
    clear q00 q01 q02
    obtain ⟨⟨q00, q01, q02⟩, _⟩ := blk3 Bbox0_105.out
    refine (law_toTableau _ _ _ _ A0 _ _ _ B0 _ (H0a.out.below L_104.out) (H0b.out.below L_104.out) (by omega)).mono ?_
    rintro e w2 ⟨u0a, u0b, rfl, hN⟩
    have y2 := hN.2.2.2.size
    try simp only [World.size_alloc] at y2
    have HN := hid hN
    clear hN
    have L_106 := hid (l_below L_104.out HN.out.2.2.2)
    have Bbox0_107 := hid (bk_below Bbox0_105.out HN.out.2.2.2)
    clear L_104 Bbox0_105
    have Ou0a_108 := hid (Ob.mk' HN.out.1)
    have Ou0b_109 := hid (Ob.mk' HN.out.2.1)
    clear HN
    go_wp2_with fail
    refine (spec_ReduceTableau _ _ _ _ A0 _ _ _ B0 _ Ou0a_108.out.fr.rd Ou0b_109.out.fr.rd HR.out).mono ?_
    rintro e w3 ⟨v0p, v0n, v0c, v0q, v0m, v0d, rfl, hN⟩
    have y3 := hN.2.2.2.size
    try simp only [World.size_alloc] at y3
    have HN := hid hN
    clear hN
    have L_110 := hid (l_below L_106.out HN.out.2.2.2)
    have Bbox0_111 := hid (bk_below Bbox0_107.out HN.out.2.2.2)
    have Ou0a_112 := hid (Ou0a_108.out.below HN.out.2.2.2)
    have Ou0b_113 := hid (Ou0b_109.out.below HN.out.2.2.2)
    clear L_106 Bbox0_107 Ou0a_108 Ou0b_109
    have Ov0a_114 := hid (Ob.mk' HN.out.1)
    have Ov0b_115 := hid (Ob.mk' HN.out.2.1)
    have hnv0 : v0n ≤ 1000 := by rw [← HN.out.1.rd.len]; exact hlA
    have hmv0 : v0m ≤ 1000 := by rw [← HN.out.2.1.rd.len]; exact hlB
    have HSv0 := hid HN.out.2.2.1
    clear HN
    have L_116 := hid (l_alloc L_110.out (.cells #[.int .i64 rs, .slice v0p v0n v0c, .slice v0q v0m v0d] 27))
    have Bbox0_117 := hid (bk_alloc Bbox0_111.out (.cells #[.int .i64 rs, .slice v0p v0n v0c, .slice v0q v0m v0d] 27))
    have Ov0a_118 := hid (Ov0a_114.out.alloc (.cells #[.int .i64 rs, .slice v0p v0n v0c, .slice v0q v0m v0d] 27))
    have Ov0b_119 := hid (Ov0b_115.out.alloc (.cells #[.int .i64 rs, .slice v0p v0n v0c, .slice v0q v0m v0d] 27))
    clear L_110 Bbox0_111 Ov0a_114 Ov0b_115
    have Bv0_120 := hid (bk_new w3 #[.int .i64 rs, .slice v0p v0n v0c, .slice v0q v0m v0d] 27)
    clear q00 q01 q02
    obtain ⟨⟨q00, q01, q02⟩, _⟩ := blk3 Bbox0_117.out
    go_wp2_with fail
    refine (law_toTableau _ _ _ _ A0 _ _ _ B0 _ (H0a.out.below L_116.out) (H0b.out.below L_116.out) (by omega)).mono ?_
    rintro e w4 ⟨x0a, x0b, rfl, hN⟩
    have y4 := hN.2.2.2.size
    try simp only [World.size_alloc] at y4
    have HN := hid hN
    clear hN
    have L_121 := hid (l_below L_116.out HN.out.2.2.2)
    have Bbox0_122 := hid (bk_below Bbox0_117.out HN.out.2.2.2)
    have Ov0a_123 := hid (Ov0a_118.out.below HN.out.2.2.2)
    have Ov0b_124 := hid (Ov0b_119.out.below HN.out.2.2.2)
    have Bv0_125 := hid (bk_below Bv0_120.out HN.out.2.2.2)
    clear L_116 Bbox0_117 Ov0a_118 Ov0b_119 Bv0_120
    have Ox0a_126 := hid (Ob.mk' (HN.out.1.mono (show w3.heap.size + 1 ≤ _ by simp)))
    have Ox0b_127 := hid (Ob.mk' (HN.out.2.1.mono (show w3.heap.size + 1 ≤ _ by simp)))
    have HSx0 := hid HN.out.2.2.1
    clear HN
    have L_128 := hid (l_alloc L_121.out (.cells #[.int .i64 s0, .slice (some ⟨x0a, 0, none⟩) n0 n0, .slice (some ⟨x0b, 0, none⟩) m0 m0] 27))
    have Bbox0_129 := hid (bk_alloc Bbox0_122.out (.cells #[.int .i64 s0, .slice (some ⟨x0a, 0, none⟩) n0 n0, .slice (some ⟨x0b, 0, none⟩) m0 m0] 27))
    have Ov0a_130 := hid (Ov0a_123.out.alloc (.cells #[.int .i64 s0, .slice (some ⟨x0a, 0, none⟩) n0 n0, .slice (some ⟨x0b, 0, none⟩) m0 m0] 27))
    have Ov0b_131 := hid (Ov0b_124.out.alloc (.cells #[.int .i64 s0, .slice (some ⟨x0a, 0, none⟩) n0 n0, .slice (some ⟨x0b, 0, none⟩) m0 m0] 27))
    have Bv0_132 := hid (bk_alloc Bv0_125.out (.cells #[.int .i64 s0, .slice (some ⟨x0a, 0, none⟩) n0 n0, .slice (some ⟨x0b, 0, none⟩) m0 m0] 27))
    have Ox0a_133 := hid (Ox0a_126.out.alloc (.cells #[.int .i64 s0, .slice (some ⟨x0a, 0, none⟩) n0 n0, .slice (some ⟨x0b, 0, none⟩) m0 m0] 27))
    have Ox0b_134 := hid (Ox0b_127.out.alloc (.cells #[.int .i64 s0, .slice (some ⟨x0a, 0, none⟩) n0 n0, .slice (some ⟨x0b, 0, none⟩) m0 m0] 27))
    clear L_121 Bbox0_122 Ov0a_123 Ov0b_124 Bv0_125 Ox0a_126 Ox0b_127
    have Bx0_135 := hid (bk_new w4 #[.int .i64 s0, .slice (some ⟨x0a, 0, none⟩) n0 n0, .slice (some ⟨x0b, 0, none⟩) m0 m0] 27)
    clear q00 q01 q02
    obtain ⟨⟨q00, q01, q02⟩, _⟩ := blk3 Bx0_135.out
    go_wp2_with fail
    refine (impl_ReduceTableau _ _ _ _ A0 _ _ _ B0 _ Ox0a_133.out.fr.rd Ox0b_134.out.fr.rd HR.out).mono ?_
    rintro e w5 ⟨g0p, g0n, g0c, g0q, g0m, g0d, rfl, hN⟩
    have y5 := hN.2.2.2.size
    try simp only [World.size_alloc] at y5
    have HN := hid hN
    clear hN
    have L_136 := hid (l_below L_128.out HN.out.2.2.2)
    have Bbox0_137 := hid (bk_below Bbox0_129.out HN.out.2.2.2)
    have Ov0a_138 := hid (Ov0a_130.out.below HN.out.2.2.2)
    have Ov0b_139 := hid (Ov0b_131.out.below HN.out.2.2.2)
    have Bv0_140 := hid (bk_below Bv0_132.out HN.out.2.2.2)
    have Ox0a_141 := hid (Ox0a_133.out.below HN.out.2.2.2)
    have Ox0b_142 := hid (Ox0b_134.out.below HN.out.2.2.2)
    have Bx0_143 := hid (bk_below Bx0_135.out HN.out.2.2.2)
    clear L_128 Bbox0_129 Ov0a_130 Ov0b_131 Bv0_132 Ox0a_133 Ox0b_134 Bx0_135
    have Og0a_144 := hid (Ob.mk' (HN.out.1.mono (show w4.heap.size + 1 ≤ _ by simp)))
    have Og0b_145 := hid (Ob.mk' (HN.out.2.1.mono (show w4.heap.size + 1 ≤ _ by simp)))
    have hng0 : g0n ≤ 1000 := by rw [← HN.out.1.rd.len]; exact hlA
    have hmg0 : g0m ≤ 1000 := by rw [← HN.out.2.1.rd.len]; exact hlB
    have HSg0 := hid HN.out.2.2.1
    clear HN
    have L_146 := hid (l_alloc L_136.out (.cells #[.int .i64 rs, .slice g0p g0n g0c, .slice g0q g0m g0d] 27))
    have Bbox0_147 := hid (bk_alloc Bbox0_137.out (.cells #[.int .i64 rs, .slice g0p g0n g0c, .slice g0q g0m g0d] 27))
    have Ov0a_148 := hid (Ov0a_138.out.alloc (.cells #[.int .i64 rs, .slice g0p g0n g0c, .slice g0q g0m g0d] 27))
    have Ov0b_149 := hid (Ov0b_139.out.alloc (.cells #[.int .i64 rs, .slice g0p g0n g0c, .slice g0q g0m g0d] 27))
    have Bv0_150 := hid (bk_alloc Bv0_140.out (.cells #[.int .i64 rs, .slice g0p g0n g0c, .slice g0q g0m g0d] 27))
    have Ox0a_151 := hid (Ox0a_141.out.alloc (.cells #[.int .i64 rs, .slice g0p g0n g0c, .slice g0q g0m g0d] 27))
    have Ox0b_152 := hid (Ox0b_142.out.alloc (.cells #[.int .i64 rs, .slice g0p g0n g0c, .slice g0q g0m g0d] 27))
    have Bx0_153 := hid (bk_alloc Bx0_143.out (.cells #[.int .i64 rs, .slice g0p g0n g0c, .slice g0q g0m g0d] 27))
    have Og0a_154 := hid (Og0a_144.out.alloc (.cells #[.int .i64 rs, .slice g0p g0n g0c, .slice g0q g0m g0d] 27))
    have Og0b_155 := hid (Og0b_145.out.alloc (.cells #[.int .i64 rs, .slice g0p g0n g0c, .slice g0q g0m g0d] 27))
    clear L_136 Bbox0_137 Ov0a_138 Ov0b_139 Bv0_140 Ox0a_141 Ox0b_142 Bx0_143 Og0a_144 Og0b_145
    have Bg0_156 := hid (bk_new w5 #[.int .i64 rs, .slice g0p g0n g0c, .slice g0q g0m g0d] 27)
    clear q00 q01 q02
    obtain ⟨⟨q00, q01, q02⟩, _⟩ := blk3 Bg0_156.out
    obtain ⟨⟨q10, q11, q12⟩, _⟩ := blk3 Bv0_150.out
    go_wp2_with fail
    refine (law_eqTableau_true _ _ _ _ _ _ _ _ _ _ _ _ _ rA rB _ Og0a_154.out.fr.rd Og0b_155.out.fr.rd Ov0a_148.out.fr.rd Ov0b_149.out.fr.rd).mono ?_
    rintro e w6 ⟨rfl, hB⟩
    have y6 := hB.size
    try simp only [World.size_alloc] at y6
    have HB := hid hB
    clear hB
    have L_157 := hid (l_below L_146.out HB.out)
    have Bbox0_158 := hid (bk_below Bbox0_147.out HB.out)
    have Ov0a_159 := hid (Ov0a_148.out.below HB.out)
    have Ov0b_160 := hid (Ov0b_149.out.below HB.out)
    have Bv0_161 := hid (bk_below Bv0_150.out HB.out)
    have Ox0a_162 := hid (Ox0a_151.out.below HB.out)
    have Ox0b_163 := hid (Ox0b_152.out.below HB.out)
    have Bx0_164 := hid (bk_below Bx0_153.out HB.out)
    have Og0a_165 := hid (Og0a_154.out.below HB.out)
    have Og0b_166 := hid (Og0b_155.out.below HB.out)
    have Bg0_167 := hid (bk_below Bg0_156.out HB.out)
    clear L_146 Bbox0_147 Ov0a_148 Ov0b_149 Bv0_150 Ox0a_151 Ox0b_152 Bx0_153 Og0a_154 Og0b_155 Bg0_156
    clear HB
    clear q00 q01 q02 q10 q11 q12
    obtain ⟨⟨q00, q01, q02⟩, _⟩ := blk3 Bbox0_158.out
    obtain ⟨⟨q10, q11, q12⟩, _⟩ := blk3 Bx0_164.out
    go_wp2_with fail
    have KP := hid (keep6 Bbox0_158.out Bx0_164.out)
    go_region_held3 (fun w' => w'.cell? ⟨w.heap.size, 0, none⟩ = some (.int .i64 s0) ∧ w'.cell? ⟨w.heap.size, 1, none⟩ = some (.slice a0 n0 c0) ∧ w'.cell? ⟨w.heap.size, 2, none⟩ = some (.slice b0 m0 d0) ∧ w'.cell? ⟨w4.heap.size, 0, none⟩ = some (.int .i64 s0) ∧ w'.cell? ⟨w4.heap.size, 1, none⟩ = some (.slice (some ⟨x0a, 0, none⟩) n0 n0) ∧ w'.cell? ⟨w4.heap.size, 2, none⟩ = some (.slice (some ⟨x0b, 0, none⟩) m0 m0))
      (first | exact KP.out _ ((Below.refl _ _).drew) | exact KP.out _ (of_drew hY.2.2.2) | exact KP.out _ ((of_drew hY.2.2.2).trans (hZ.mono (of_drew hY.2.2.2).size)))
      (first
        | (go_at_call 17; refine (law_toTableau _ _ _ _ A0 _ _ _ B0 _ (H0a.out.below L_157.out.drew) (H0b.out.below L_157.out.drew) (by omega)).mono ?_; rintro e w7 ⟨yqa, yqb, rfl, hY⟩)
        | (go_at_call 19; refine (law_eqTableau_true _ _ _ _ _ _ _ _ _ _ _ _ _ A0 B0 _ (Ox0a_162.out.fr.rd.below (of_drew hY.2.2.2)) (Ox0b_163.out.fr.rd.below (of_drew hY.2.2.2)) hY.1.rd hY.2.1.rd).mono ?_; rintro e w8 ⟨rfl, hZ⟩))
    have hB := (of_drew hY.2.2.2).trans (hZ.mono (of_drew hY.2.2.2).size)
    have y7 := hB.size
    try simp only [World.size_alloc] at y7
    have HB := hid hB
    clear hB hY hZ KP
    have L_168 := hid (l_below L_157.out HB.out)
    have Bbox0_169 := hid (bk_below Bbox0_158.out HB.out)
    have Ov0a_170 := hid (Ov0a_159.out.below HB.out)
    have Ov0b_171 := hid (Ov0b_160.out.below HB.out)
    have Bv0_172 := hid (bk_below Bv0_161.out HB.out)
    have Ox0a_173 := hid (Ox0a_162.out.below HB.out)
    have Ox0b_174 := hid (Ox0b_163.out.below HB.out)
    have Bx0_175 := hid (bk_below Bx0_164.out HB.out)
    have Og0a_176 := hid (Og0a_165.out.below HB.out)
    have Og0b_177 := hid (Og0b_166.out.below HB.out)
    have Bg0_178 := hid (bk_below Bg0_167.out HB.out)
    clear L_157 Bbox0_158 Ov0a_159 Ov0b_160 Bv0_161 Ox0a_162 Ox0b_163 Bx0_164 Og0a_165 Og0b_166 Bg0_167
    clear HB
    obtain ⟨⟨q00, q01, q02⟩, _⟩ := blk3 Bx0_175.out
    go_wp2_with fail
    refine (law_markTableau _ _ _ _ _ _ _ _ _ A0 B0 _ (Ox0a_173.out.fr.mono (Nat.le_refl _)) (Ox0b_174.out.fr.mono (by omega)) HSx0.out (by omega) (by omega) (by omega) (by omega)).mono ?_
    rintro e w9 ⟨rfl, hF1, hF2, wa, wb, rfl, hG1, hG2⟩
    have y8 := Nat.le_trans hG1.size hG2.size
    try simp only [World.size_alloc] at y8
    have HF1 := hid hF1
    have HF2 := hid hF2
    have HG1 := hid hG1
    have HG2 := hid hG2
    clear hF1 hF2 hG1 hG2
    have L_179 := hid (l_grown (l_grown (l_alloc L_168.out _) HG1.out (fun k hk => by have h1 := Ox0a_173.out.bd k hk; omega)) HG2.out (fun k hk => by have h1 := Ox0b_174.out.bd k hk; omega))
    have Bbox0_180 := hid (bk_grown (bk_grown (bk_alloc Bbox0_169.out _) HG1.out (fun k hk => by have h1 := Ox0a_173.out.bd k hk; omega)) HG2.out (fun k hk => by have h1 := Ox0b_174.out.bd k hk; omega))
    have Ov0a_181 := hid (((Ov0a_170.out.alloc _).grown HG1.out (fun k hk => by have h1 := Ox0a_173.out.bd k hk; omega)).grown HG2.out (fun k hk => by have h1 := Ox0b_174.out.bd k hk; omega))
    have Ov0b_182 := hid (((Ov0b_171.out.alloc _).grown HG1.out (fun k hk => by have h1 := Ox0a_173.out.bd k hk; omega)).grown HG2.out (fun k hk => by have h1 := Ox0b_174.out.bd k hk; omega))
    have Bv0_183 := hid (bk_grown (bk_grown (bk_alloc Bv0_172.out _) HG1.out (fun k hk => by have h1 := Ox0a_173.out.bd k hk; omega)) HG2.out (fun k hk => by have h1 := Ox0b_174.out.bd k hk; omega))
    have Og0a_184 := hid (((Og0a_176.out.alloc _).grown HG1.out (fun k hk => by have h1 := Ox0a_173.out.bd k hk; omega)).grown HG2.out (fun k hk => by have h1 := Ox0b_174.out.bd k hk; omega))
    have Og0b_185 := hid (((Og0b_177.out.alloc _).grown HG1.out (fun k hk => by have h1 := Ox0a_173.out.bd k hk; omega)).grown HG2.out (fun k hk => by have h1 := Ox0b_174.out.bd k hk; omega))
    have Bg0_186 := hid (bk_grown (bk_grown (bk_alloc Bg0_178.out _) HG1.out (fun k hk => by have h1 := Ox0a_173.out.bd k hk; omega)) HG2.out (fun k hk => by have h1 := Ox0b_174.out.bd k hk; omega))
    clear L_168 Bbox0_169 Ov0a_170 Ov0b_171 Bv0_172 Ox0a_173 Ox0b_174 Og0a_176 Og0b_177 Bg0_178
    clear HF1 HF2 HG1 HG2
    clear q00 q01 q02
    obtain ⟨⟨q00, q01, q02⟩, _⟩ := blk3 Bg0_186.out
    obtain ⟨⟨q10, q11, q12⟩, _⟩ := blk3 Bv0_183.out
    go_wp2_with fail
    refine (law_eqTableau_true _ _ _ _ _ _ _ _ _ _ _ _ _ rA rB _ Og0a_184.out.fr.rd Og0b_185.out.fr.rd Ov0a_181.out.fr.rd Ov0b_182.out.fr.rd).mono ?_
    rintro e w10 ⟨rfl, hB⟩
    have y9 := hB.size
    try simp only [World.size_alloc] at y9
    have HB := hid hB
    clear hB
    have L_187 := hid (l_below L_179.out HB.out)
    have Bbox0_188 := hid (bk_below Bbox0_180.out HB.out)
    have Ov0a_189 := hid (Ov0a_181.out.below HB.out)
    have Ov0b_190 := hid (Ov0b_182.out.below HB.out)
    have Bv0_191 := hid (bk_below Bv0_183.out HB.out)
    have Og0a_192 := hid (Og0a_184.out.below HB.out)
    have Og0b_193 := hid (Og0b_185.out.below HB.out)
    have Bg0_194 := hid (bk_below Bg0_186.out HB.out)
    clear L_179 Bbox0_180 Ov0a_181 Ov0b_182 Bv0_183 Og0a_184 Og0b_185 Bg0_186
    clear HB
    clear q00 q01 q02 q10 q11 q12
    obtain ⟨⟨q00, q01, q02⟩, _⟩ := blk3 Bg0_194.out
    go_wp2_with fail
    refine (law_markTableau _ _ _ _ _ _ _ _ _ rA rB _ (Og0a_192.out.fr.mono (Nat.le_refl _)) (Og0b_193.out.fr.mono (by omega)) HSg0.out (by omega) (by omega) (by omega) (by omega)).mono ?_
    rintro e w11 ⟨rfl, hF1, hF2, wa, wb, rfl, hG1, hG2⟩
    have y10 := Nat.le_trans hG1.size hG2.size
    try simp only [World.size_alloc] at y10
    have HF1 := hid hF1
    have HF2 := hid hF2
    have HG1 := hid hG1
    have HG2 := hid hG2
    clear hF1 hF2 hG1 hG2
    have L_195 := hid (l_grown (l_grown (l_alloc L_187.out _) HG1.out (fun k hk => by have h1 := Og0a_192.out.bd k hk; omega)) HG2.out (fun k hk => by have h1 := Og0b_193.out.bd k hk; omega))
    have Bbox0_196 := hid (bk_grown (bk_grown (bk_alloc Bbox0_188.out _) HG1.out (fun k hk => by have h1 := Og0a_192.out.bd k hk; omega)) HG2.out (fun k hk => by have h1 := Og0b_193.out.bd k hk; omega))
    have Ov0a_197 := hid (((Ov0a_189.out.alloc _).grown HG1.out (fun k hk => by have h1 := Og0a_192.out.bd k hk; omega)).grown HG2.out (fun k hk => by have h1 := Og0b_193.out.bd k hk; omega))
    have Ov0b_198 := hid (((Ov0b_190.out.alloc _).grown HG1.out (fun k hk => by have h1 := Og0a_192.out.bd k hk; omega)).grown HG2.out (fun k hk => by have h1 := Og0b_193.out.bd k hk; omega))
    have Bv0_199 := hid (bk_grown (bk_grown (bk_alloc Bv0_191.out _) HG1.out (fun k hk => by have h1 := Og0a_192.out.bd k hk; omega)) HG2.out (fun k hk => by have h1 := Og0b_193.out.bd k hk; omega))
    have Bg0_200 := hid (bk_grown (bk_grown (bk_alloc Bg0_194.out _) HG1.out (fun k hk => by have h1 := Og0a_192.out.bd k hk; omega)) HG2.out (fun k hk => by have h1 := Og0b_193.out.bd k hk; omega))
    have Og0a_201 := hid (Ob.mk' HF1.out)
    have Og0b_202 := hid (Ob.mk' HF2.out)
    clear L_187 Bbox0_188 Ov0a_189 Ov0b_190 Bv0_191 Og0a_192 Og0b_193 Bg0_194
    clear HF1 HF2 HG1 HG2
    clear q00 q01 q02
    obtain ⟨⟨q00, q01, q02⟩, _⟩ := blk3 Bg0_200.out
    go_wp2_with fail
    refine (law_heldTableau _ _ _ _ _ _ _ 1 _ Og0a_201.out.fr.rd Og0b_202.out.fr.rd (by omega) (by omega) (by omega) (by omega)).mono ?_
    rintro e w12 ⟨rfl, hB⟩
    have y11 := hB.size
    try simp only [World.size_alloc] at y11
    have HB := hid hB
    clear hB
    have L_203 := hid (l_below L_195.out HB.out)
    have Bbox0_204 := hid (bk_below Bbox0_196.out HB.out)
    have Ov0a_205 := hid (Ov0a_197.out.below HB.out)
    have Ov0b_206 := hid (Ov0b_198.out.below HB.out)
    have Bv0_207 := hid (bk_below Bv0_199.out HB.out)
    have Bg0_208 := hid (bk_below Bg0_200.out HB.out)
    have Og0a_209 := hid (Og0a_201.out.below HB.out)
    have Og0b_210 := hid (Og0b_202.out.below HB.out)
    clear L_195 Bbox0_196 Ov0a_197 Ov0b_198 Bv0_199 Bg0_200 Og0a_201 Og0b_202
    clear HB
    clear q00 q01 q02
    obtain ⟨⟨q00, q01, q02⟩, _⟩ := blk3 Bbox0_204.out
    go_wp2_with fail
    clear q00 q01 q02
    obtain ⟨⟨q00, q01, q02⟩, _⟩ := blk3 Bbox0_204.out
    refine (law_toTableau _ _ _ _ A0 _ _ _ B0 _ (H0a.out.below L_203.out) (H0b.out.below L_203.out) (by omega)).mono ?_
    rintro e w13 ⟨r0a, r0b, rfl, hN⟩
    have y12 := hN.2.2.2.size
    try simp only [World.size_alloc] at y12
    have HN := hid hN
    clear hN
    have L_211 := hid (l_below L_203.out HN.out.2.2.2)
    have Bbox0_212 := hid (bk_below Bbox0_204.out HN.out.2.2.2)
    have Ov0a_213 := hid (Ov0a_205.out.below HN.out.2.2.2)
    have Ov0b_214 := hid (Ov0b_206.out.below HN.out.2.2.2)
    have Bv0_215 := hid (bk_below Bv0_207.out HN.out.2.2.2)
    have Bg0_216 := hid (bk_below Bg0_208.out HN.out.2.2.2)
    have Og0a_217 := hid (Og0a_209.out.below HN.out.2.2.2)
    have Og0b_218 := hid (Og0b_210.out.below HN.out.2.2.2)
    clear L_203 Bbox0_204 Ov0a_205 Ov0b_206 Bv0_207 Bg0_208 Og0a_209 Og0b_210
    have Or0a_219 := hid (Ob.mk' HN.out.1)
    have Or0b_220 := hid (Ob.mk' HN.out.2.1)
    clear HN
    go_wp2_with fail
    refine (impl_ReduceTableau _ _ _ _ A0 _ _ _ B0 _ Or0a_219.out.fr.rd Or0b_220.out.fr.rd HR.out).mono ?_
    rintro e w14 ⟨h0p, h0n, h0c, h0q, h0m, h0d, rfl, hN⟩
    have y13 := hN.2.2.2.size
    try simp only [World.size_alloc] at y13
    have HN := hid hN
    clear hN
    have L_221 := hid (l_below L_211.out HN.out.2.2.2)
    have Bbox0_222 := hid (bk_below Bbox0_212.out HN.out.2.2.2)
    have Ov0a_223 := hid (Ov0a_213.out.below HN.out.2.2.2)
    have Ov0b_224 := hid (Ov0b_214.out.below HN.out.2.2.2)
    have Bv0_225 := hid (bk_below Bv0_215.out HN.out.2.2.2)
    have Bg0_226 := hid (bk_below Bg0_216.out HN.out.2.2.2)
    have Og0a_227 := hid (Og0a_217.out.below HN.out.2.2.2)
    have Og0b_228 := hid (Og0b_218.out.below HN.out.2.2.2)
    have Or0a_229 := hid (Or0a_219.out.below HN.out.2.2.2)
    have Or0b_230 := hid (Or0b_220.out.below HN.out.2.2.2)
    clear L_211 Bbox0_212 Ov0a_213 Ov0b_214 Bv0_215 Bg0_216 Og0a_217 Og0b_218 Or0a_219 Or0b_220
    have Oh0a_231 := hid (Ob.mk' HN.out.1)
    have Oh0b_232 := hid (Ob.mk' HN.out.2.1)
    have hnh0 : h0n ≤ 1000 := by rw [← HN.out.1.rd.len]; exact hlA
    have hmh0 : h0m ≤ 1000 := by rw [← HN.out.2.1.rd.len]; exact hlB
    have HSh0 := hid HN.out.2.2.1
    clear HN
    have L_233 := hid (l_alloc L_221.out (.cells #[.int .i64 rs, .slice h0p h0n h0c, .slice h0q h0m h0d] 27))
    have Bbox0_234 := hid (bk_alloc Bbox0_222.out (.cells #[.int .i64 rs, .slice h0p h0n h0c, .slice h0q h0m h0d] 27))
    have Ov0a_235 := hid (Ov0a_223.out.alloc (.cells #[.int .i64 rs, .slice h0p h0n h0c, .slice h0q h0m h0d] 27))
    have Ov0b_236 := hid (Ov0b_224.out.alloc (.cells #[.int .i64 rs, .slice h0p h0n h0c, .slice h0q h0m h0d] 27))
    have Bv0_237 := hid (bk_alloc Bv0_225.out (.cells #[.int .i64 rs, .slice h0p h0n h0c, .slice h0q h0m h0d] 27))
    have Bg0_238 := hid (bk_alloc Bg0_226.out (.cells #[.int .i64 rs, .slice h0p h0n h0c, .slice h0q h0m h0d] 27))
    have Og0a_239 := hid (Og0a_227.out.alloc (.cells #[.int .i64 rs, .slice h0p h0n h0c, .slice h0q h0m h0d] 27))
    have Og0b_240 := hid (Og0b_228.out.alloc (.cells #[.int .i64 rs, .slice h0p h0n h0c, .slice h0q h0m h0d] 27))
    have Oh0a_241 := hid (Oh0a_231.out.alloc (.cells #[.int .i64 rs, .slice h0p h0n h0c, .slice h0q h0m h0d] 27))
    have Oh0b_242 := hid (Oh0b_232.out.alloc (.cells #[.int .i64 rs, .slice h0p h0n h0c, .slice h0q h0m h0d] 27))
    clear L_221 Bbox0_222 Ov0a_223 Ov0b_224 Bv0_225 Bg0_226 Og0a_227 Og0b_228 Oh0a_231 Oh0b_232
    have Bh0_243 := hid (bk_new w14 #[.int .i64 rs, .slice h0p h0n h0c, .slice h0q h0m h0d] 27)
    clear q00 q01 q02
    obtain ⟨⟨q00, q01, q02⟩, _⟩ := blk3 Bh0_243.out
    obtain ⟨⟨q10, q11, q12⟩, _⟩ := blk3 Bv0_237.out
    go_wp2_with fail
    refine (law_eqTableau_true _ _ _ _ _ _ _ _ _ _ _ _ _ rA rB _ Oh0a_241.out.fr.rd Oh0b_242.out.fr.rd Ov0a_235.out.fr.rd Ov0b_236.out.fr.rd).mono ?_
    rintro e w15 ⟨rfl, hB⟩
    have y14 := hB.size
    try simp only [World.size_alloc] at y14
    have HB := hid hB
    clear hB
    have L_244 := hid (l_below L_233.out HB.out)
    have Bbox0_245 := hid (bk_below Bbox0_234.out HB.out)
    have Ov0a_246 := hid (Ov0a_235.out.below HB.out)
    have Ov0b_247 := hid (Ov0b_236.out.below HB.out)
    have Bv0_248 := hid (bk_below Bv0_237.out HB.out)
    have Bg0_249 := hid (bk_below Bg0_238.out HB.out)
    have Og0a_250 := hid (Og0a_239.out.below HB.out)
    have Og0b_251 := hid (Og0b_240.out.below HB.out)
    have Oh0a_252 := hid (Oh0a_241.out.below HB.out)
    have Oh0b_253 := hid (Oh0b_242.out.below HB.out)
    have Bh0_254 := hid (bk_below Bh0_243.out HB.out)
    clear L_233 Bbox0_234 Ov0a_235 Ov0b_236 Bv0_237 Bg0_238 Og0a_239 Og0b_240 Oh0a_241 Oh0b_242 Bh0_243
    clear HB
    clear q00 q01 q02 q10 q11 q12
    obtain ⟨⟨q00, q01, q02⟩, _⟩ := blk3 Bg0_249.out
    go_wp2_with fail
    refine (law_heldTableau _ _ _ _ _ _ _ 1 _ Og0a_250.out.fr.rd Og0b_251.out.fr.rd (by omega) (by omega) (by omega) (by omega)).mono ?_
    rintro e w16 ⟨rfl, hB⟩
    have y15 := hB.size
    try simp only [World.size_alloc] at y15
    have HB := hid hB
    clear hB
    have L_255 := hid (l_below L_244.out HB.out)
    have Bbox0_256 := hid (bk_below Bbox0_245.out HB.out)
    have Ov0a_257 := hid (Ov0a_246.out.below HB.out)
    have Ov0b_258 := hid (Ov0b_247.out.below HB.out)
    have Bv0_259 := hid (bk_below Bv0_248.out HB.out)
    have Bg0_260 := hid (bk_below Bg0_249.out HB.out)
    have Og0a_261 := hid (Og0a_250.out.below HB.out)
    have Og0b_262 := hid (Og0b_251.out.below HB.out)
    have Oh0a_263 := hid (Oh0a_252.out.below HB.out)
    have Oh0b_264 := hid (Oh0b_253.out.below HB.out)
    have Bh0_265 := hid (bk_below Bh0_254.out HB.out)
    clear L_244 Bbox0_245 Ov0a_246 Ov0b_247 Bv0_248 Bg0_249 Og0a_250 Og0b_251 Oh0a_252 Oh0b_253 Bh0_254
    clear HB
    go_wp2_with fail
    go_ret
    exact ⟨rfl, L_255.out⟩
  · skip
    have L_366 := hid (Below.refl w.heap.size w)
    have L_367 := hid (l_alloc L_366.out (.cells #[.int .i64 s0, .slice a0 n0 c0, .slice b0 m0 d0] 24))
    clear L_366
    have Bbox0_368 := hid (bk_new w #[.int .i64 s0, .slice a0 n0 c0, .slice b0 m0 d0] 24)
    go_enter Try.func14, Try.ntmps14
    go_wp2_with fail
    refine (law_szTableau_no _ _ _ _ _ _ _ _ _ (by omega) (by omega) (by omega) (by omega) (by omega)).mono ?_
    rintro e w1 ⟨rfl, hB⟩
    have y16 := hB.size
    try simp only [World.size_alloc] at y16
    have HB := hid hB
    clear hB
    have L_369 := hid (l_below L_367.out HB.out)
    have Bbox0_370 := hid (bk_below Bbox0_368.out HB.out)
    clear L_367 Bbox0_368
    clear HB
    obtain ⟨⟨q00, q01, q02⟩, _⟩ := blk3 Bbox0_370.out
    go_wp2_with fail
    go_ret
    exact ⟨rfl, L_369.out⟩
end Go.Proofs.Ytekojohhjnklkaa
