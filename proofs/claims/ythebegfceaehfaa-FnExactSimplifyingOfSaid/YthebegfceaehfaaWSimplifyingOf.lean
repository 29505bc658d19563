/- FnExactSimplifyingOf: the walk of the law. -/
import Derived.Test.YthebegfceaehfaaSimpM
import Derived.Test.YthebegfceaehfaaSimpD
import Derived.Test.YthebegfceaehfaaOb
namespace Go.Proofs.Ythebegfceaehfaa
open Go.RowKit

set_option maxRecDepth 20000 in
set_option maxHeartbeats 2000000 in
theorem walk_SimplifyingOf {w : World} (s0 : Int) (a0 : Option Addr) (n0 c0 : Nat) (A0 : List Int) (b0 : Option Addr) (m0 d0 : Nat) (B0 : List Int) (g0a : Rd w a0 n0 c0 A0) (g0b : Rd w b0 m0 d0 B0) (_hs0 : I64 s0) :
    Calls Try.prog 4 #[.agg #[.int .i64 s0, .slice a0 n0 c0, .slice b0 m0 d0]] w fun e w' => e = .returned (.bool true) ∧ Below w.heap.size w w' := by
  have z0a : n0 ≤ 9223372036854775807 := Nat.le_trans g0a.cap g0a.max
  have H0a := hid g0a
  clear g0a
  have z0b : m0 ≤ 9223372036854775807 := Nat.le_trans g0b.cap g0b.max
  have H0b := hid g0b
  clear g0b
  obtain ⟨rA, HR⟩ : ∃ rA, Hid (simpV s0 A0 B0 = rA) := ⟨_, rfl⟩
  have hlA : rA.length ≤ 1000 := by have h := simpV_len s0 A0 B0; rw [HR.out] at h; first | exact h | omega
  by_cases hs0 : n0 + m0 ≤ 1048576
  · skip
    have L_101 := hid (Below.refl w.heap.size w)
    have L_102 := hid (l_alloc L_101.out (.cells #[.int .i64 s0, .slice a0 n0 c0, .slice b0 m0 d0] 24))
    clear L_101
    have Bbox0_103 := hid (bk_new w #[.int .i64 s0, .slice a0 n0 c0, .slice b0 m0 d0] 24)
    go_enter Try.func4, Try.ntmps4
    go_wp2_with fail
    refine (law_szTableau_yes _ _ _ _ _ _ _ _ _ (by omega) (by omega)).mono ?_
    rintro e w1 ⟨rfl, hB⟩
    have y1 := hB.size
    try simp only [World.size_alloc] at y1
    have HB := hid hB
    clear hB
    have L_104 := hid (l_below L_102.out HB.out)
    have Bbox0_105 := hid (bk_below Bbox0_103.out HB.out)
    clear L_102 Bbox0_103
    clear HB
    obtain ⟨⟨q00, q01, q02⟩, _⟩ := blk3 Bbox0_105.out
    go_wp2_with fail
    clear q00 q01 q02
    obtain ⟨⟨q00, q01, q02⟩, _⟩ := blk3 Bbox0_105.out
    refine (law_toTableau _ _ _ _ A0 _ _ _ B0 _ (H0a.out.below L_104.out) (H0b.out.below L_104.out) (by omega)).mono ?_
    rintro e w2 ⟨u0a, u0b, rfl, hN⟩
    have y2 := hN.2.2.2.size
    try simp only [World.size_alloc] at y2
    have HN := hid hN
    clear hN
    have L_106 := hid (l_below L_104.out HN.out.2.2.2)
    have Bbox0_107 := hid (bk_below Bbox0_105.out HN.out.2.2.2)
    clear L_104 Bbox0_105
    have Ou0a_108 := hid (Ob.mk' HN.out.1)
    have Ou0b_109 := hid (Ob.mk' HN.out.2.1)
    clear HN
    go_wp2_with fail
    refine (spec_SimplifyingOf _ _ _ _ A0 _ _ _ B0 _ Ou0a_108.out.fr.rd Ou0b_109.out.fr.rd).mono ?_
    rw [HR.out]
    rintro e w3 ⟨v0p, v0n, v0c, rfl, hN⟩
    have y3 := hN.2.size
    try simp only [World.size_alloc] at y3
    have HN := hid hN
    clear hN
    have L_110 := hid (l_below L_106.out HN.out.2)
    have Bbox0_111 := hid (bk_below Bbox0_107.out HN.out.2)
    have Ou0a_112 := hid (Ou0a_108.out.below HN.out.2)
    have Ou0b_113 := hid (Ou0b_109.out.below HN.out.2)
    clear L_106 Bbox0_107 Ou0a_108 Ou0b_109
    have Ov0a_114 := hid (Ob.mk' HN.out.1)
    have hnv0 : v0n ≤ 1000 := by rw [← HN.out.1.rd.len]; exact hlA
    clear HN
    clear q00 q01 q02
    obtain ⟨⟨q00, q01, q02⟩, _⟩ := blk3 Bbox0_111.out
    go_wp2_with fail
    refine (law_toTableau _ _ _ _ A0 _ _ _ B0 _ (H0a.out.below L_110.out) (H0b.out.below L_110.out) (by omega)).mono ?_
    rintro e w4 ⟨x0a, x0b, rfl, hN⟩
    have y4 := hN.2.2.2.size
    try simp only [World.size_alloc] at y4
    have HN := hid hN
    clear hN
    have L_115 := hid (l_below L_110.out HN.out.2.2.2)
    have Bbox0_116 := hid (bk_below Bbox0_111.out HN.out.2.2.2)
    have Ov0a_117 := hid (Ov0a_114.out.below HN.out.2.2.2)
    clear L_110 Bbox0_111 Ov0a_114
    have Ox0a_118 := hid (Ob.mk' HN.out.1)
    have Ox0b_119 := hid (Ob.mk' HN.out.2.1)
    have HSx0 := hid HN.out.2.2.1
    clear HN
    have L_120 := hid (l_alloc L_115.out (.cells #[.int .i64 s0, .slice (some ⟨x0a, 0, none⟩) n0 n0, .slice (some ⟨x0b, 0, none⟩) m0 m0] 27))
    have Bbox0_121 := hid (bk_alloc Bbox0_116.out (.cells #[.int .i64 s0, .slice (some ⟨x0a, 0, none⟩) n0 n0, .slice (some ⟨x0b, 0, none⟩) m0 m0] 27))
    have Ov0a_122 := hid (Ov0a_117.out.alloc (.cells #[.int .i64 s0, .slice (some ⟨x0a, 0, none⟩) n0 n0, .slice (some ⟨x0b, 0, none⟩) m0 m0] 27))
    have Ox0a_123 := hid (Ox0a_118.out.alloc (.cells #[.int .i64 s0, .slice (some ⟨x0a, 0, none⟩) n0 n0, .slice (some ⟨x0b, 0, none⟩) m0 m0] 27))
    have Ox0b_124 := hid (Ox0b_119.out.alloc (.cells #[.int .i64 s0, .slice (some ⟨x0a, 0, none⟩) n0 n0, .slice (some ⟨x0b, 0, none⟩) m0 m0] 27))
    clear L_115 Bbox0_116 Ov0a_117 Ox0a_118 Ox0b_119
    have Bx0_125 := hid (bk_new w4 #[.int .i64 s0, .slice (some ⟨x0a, 0, none⟩) n0 n0, .slice (some ⟨x0b, 0, none⟩) m0 m0] 27)
    clear q00 q01 q02
    obtain ⟨⟨q00, q01, q02⟩, _⟩ := blk3 Bx0_125.out
    go_wp2_with fail
    refine (impl_SimplifyingOf _ _ _ _ A0 _ _ _ B0 _ Ox0a_123.out.fr.rd Ox0b_124.out.fr.rd).mono ?_
    rw [HR.out]
    rintro e w5 ⟨g0p, g0n, g0c, rfl, hN⟩
    have y5 := hN.2.size
    try simp only [World.size_alloc] at y5
    have HN := hid hN
    clear hN
    have L_126 := hid (l_below L_120.out HN.out.2)
    have Bbox0_127 := hid (bk_below Bbox0_121.out HN.out.2)
    have Ov0a_128 := hid (Ov0a_122.out.below HN.out.2)
    have Ox0a_129 := hid (Ox0a_123.out.below HN.out.2)
    have Ox0b_130 := hid (Ox0b_124.out.below HN.out.2)
    have Bx0_131 := hid (bk_below Bx0_125.out HN.out.2)
    clear L_120 Bbox0_121 Ov0a_122 Ox0a_123 Ox0b_124 Bx0_125
    have Og0a_132 := hid (Ob.mk' (HN.out.1.mono (show w4.heap.size + 1 ≤ _ by simp)))
    have hng0 : g0n ≤ 1000 := by rw [← HN.out.1.rd.len]; exact hlA
    clear HN
    clear q00 q01 q02
    go_wp2_with fail
    refine (law_eqIntS_true _ _ _ _ _ _ rA _ Og0a_132.out.fr.rd Ov0a_128.out.fr.rd).mono ?_
    rintro e w6 ⟨rfl, hB⟩
    have y6 := hB.size
    try simp only [World.size_alloc] at y6
    have HB := hid hB
    clear hB
    have L_133 := hid (l_below L_126.out HB.out)
    have Bbox0_134 := hid (bk_below Bbox0_127.out HB.out)
    have Ov0a_135 := hid (Ov0a_128.out.below HB.out)
    have Ox0a_136 := hid (Ox0a_129.out.below HB.out)
    have Ox0b_137 := hid (Ox0b_130.out.below HB.out)
    have Bx0_138 := hid (bk_below Bx0_131.out HB.out)
    have Og0a_139 := hid (Og0a_132.out.below HB.out)
    clear L_126 Bbox0_127 Ov0a_128 Ox0a_129 Ox0b_130 Bx0_131 Og0a_132
    clear HB
    obtain ⟨⟨q00, q01, q02⟩, _⟩ := blk3 Bbox0_134.out
    obtain ⟨⟨q10, q11, q12⟩, _⟩ := blk3 Bx0_138.out
    go_wp2_with fail
    have KP := hid (keep6 Bbox0_134.out Bx0_138.out)
    go_region_held3 (fun w' => w'.cell? ⟨w.heap.size, 0, none⟩ = some (.int .i64 s0) ∧ w'.cell? ⟨w.heap.size, 1, none⟩ = some (.slice a0 n0 c0) ∧ w'.cell? ⟨w.heap.size, 2, none⟩ = some (.slice b0 m0 d0) ∧ w'.cell? ⟨w4.heap.size, 0, none⟩ = some (.int .i64 s0) ∧ w'.cell? ⟨w4.heap.size, 1, none⟩ = some (.slice (some ⟨x0a, 0, none⟩) n0 n0) ∧ w'.cell? ⟨w4.heap.size, 2, none⟩ = some (.slice (some ⟨x0b, 0, none⟩) m0 m0))
      (first | exact KP.out _ ((Below.refl _ _).drew) | exact KP.out _ (of_drew hY.2.2.2) | exact KP.out _ ((of_drew hY.2.2.2).trans (hZ.mono (of_drew hY.2.2.2).size)))
      (first
        | (go_at_call 10; refine (law_toTableau _ _ _ _ A0 _ _ _ B0 _ (H0a.out.below L_133.out.drew) (H0b.out.below L_133.out.drew) (by omega)).mono ?_; rintro e w7 ⟨yqa, yqb, rfl, hY⟩)
        | (go_at_call 12; refine (law_eqTableau_true _ _ _ _ _ _ _ _ _ _ _ _ _ A0 B0 _ (Ox0a_136.out.fr.rd.below (of_drew hY.2.2.2)) (Ox0b_137.out.fr.rd.below (of_drew hY.2.2.2)) hY.1.rd hY.2.1.rd).mono ?_; rintro e w8 ⟨rfl, hZ⟩))
    have hB := (of_drew hY.2.2.2).trans (hZ.mono (of_drew hY.2.2.2).size)
    have y7 := hB.size
    try simp only [World.size_alloc] at y7
    have HB := hid hB
    clear hB hY hZ KP
    have L_140 := hid (l_below L_133.out HB.out)
    have Bbox0_141 := hid (bk_below Bbox0_134.out HB.out)
    have Ov0a_142 := hid (Ov0a_135.out.below HB.out)
    have Ox0a_143 := hid (Ox0a_136.out.below HB.out)
    have Ox0b_144 := hid (Ox0b_137.out.below HB.out)
    have Bx0_145 := hid (bk_below Bx0_138.out HB.out)
    have Og0a_146 := hid (Og0a_139.out.below HB.out)
    clear L_133 Bbox0_134 Ov0a_135 Ox0a_136 Ox0b_137 Bx0_138 Og0a_139
    clear HB
    obtain ⟨⟨q00, q01, q02⟩, _⟩ := blk3 Bx0_145.out
    go_wp2_with fail
    refine (law_markTableau _ _ _ _ _ _ _ _ _ A0 B0 _ (Ox0a_143.out.fr.mono (Nat.le_refl _)) (Ox0b_144.out.fr.mono (by omega)) HSx0.out (by omega) (by omega) (by omega) (by omega)).mono ?_
    rintro e w9 ⟨rfl, hF1, hF2, wa, wb, rfl, hG1, hG2⟩
    have y8 := Nat.le_trans hG1.size hG2.size
    try simp only [World.size_alloc] at y8
    have HF1 := hid hF1
    have HF2 := hid hF2
    have HG1 := hid hG1
    have HG2 := hid hG2
    clear hF1 hF2 hG1 hG2
    have L_147 := hid (l_grown (l_grown (l_alloc L_140.out _) HG1.out (fun k hk => by have h1 := Ox0a_143.out.bd k hk; omega)) HG2.out (fun k hk => by have h1 := Ox0b_144.out.bd k hk; omega))
    have Bbox0_148 := hid (bk_grown (bk_grown (bk_alloc Bbox0_141.out _) HG1.out (fun k hk => by have h1 := Ox0a_143.out.bd k hk; omega)) HG2.out (fun k hk => by have h1 := Ox0b_144.out.bd k hk; omega))
    have Ov0a_149 := hid (((Ov0a_142.out.alloc _).grown HG1.out (fun k hk => by have h1 := Ox0a_143.out.bd k hk; omega)).grown HG2.out (fun k hk => by have h1 := Ox0b_144.out.bd k hk; omega))
    have Og0a_150 := hid (((Og0a_146.out.alloc _).grown HG1.out (fun k hk => by have h1 := Ox0a_143.out.bd k hk; omega)).grown HG2.out (fun k hk => by have h1 := Ox0b_144.out.bd k hk; omega))
    clear L_140 Bbox0_141 Ov0a_142 Ox0a_143 Ox0b_144 Og0a_146
    clear HF1 HF2 HG1 HG2
    clear q00 q01 q02
    go_wp2_with fail
    refine (law_eqIntS_true _ _ _ _ _ _ rA _ Og0a_150.out.fr.rd Ov0a_149.out.fr.rd).mono ?_
    rintro e w10 ⟨rfl, hB⟩
    have y9 := hB.size
    try simp only [World.size_alloc] at y9
    have HB := hid hB
    clear hB
    have L_151 := hid (l_below L_147.out HB.out)
    have Bbox0_152 := hid (bk_below Bbox0_148.out HB.out)
    have Ov0a_153 := hid (Ov0a_149.out.below HB.out)
    have Og0a_154 := hid (Og0a_150.out.below HB.out)
    clear L_147 Bbox0_148 Ov0a_149 Og0a_150
    clear HB
    go_wp2_with fail
    refine (law_markIntS _ _ _ _ rA _ _ Og0a_154.out.fr (by omega) (by omega) (by omega)).mono ?_
    rintro e w11 ⟨rfl, hF1, hG1⟩
    have y10 := hG1.size
    try simp only [World.size_alloc] at y10
    have HF1 := hid hF1
    have HG1 := hid hG1
    clear hF1 hG1
    have L_155 := hid (l_grown L_151.out HG1.out (fun k hk => by have h1 := Og0a_154.out.bd k hk; omega))
    have Bbox0_156 := hid (bk_grown Bbox0_152.out HG1.out (fun k hk => by have h1 := Og0a_154.out.bd k hk; omega))
    have Ov0a_157 := hid (Ov0a_153.out.grown HG1.out (fun k hk => by have h1 := Og0a_154.out.bd k hk; omega))
    have Og0a_158 := hid (Ob.mk' HF1.out)
    clear L_151 Bbox0_152 Ov0a_153 Og0a_154
    clear HF1 HG1
    go_wp2_with fail
    refine (law_heldIntS _ _ _ 1 _ Og0a_158.out.fr.rd (by omega) (by omega) (by omega)).mono ?_
    rintro e w12x ⟨rfl, rfl⟩
    obtain ⟨⟨q00, q01, q02⟩, _⟩ := blk3 Bbox0_156.out
    go_wp2_with fail
    clear q00 q01 q02
    obtain ⟨⟨q00, q01, q02⟩, _⟩ := blk3 Bbox0_156.out
    refine (law_toTableau _ _ _ _ A0 _ _ _ B0 _ (H0a.out.below L_155.out) (H0b.out.below L_155.out) (by omega)).mono ?_
    rintro e w13 ⟨r0a, r0b, rfl, hN⟩
    have y11 := hN.2.2.2.size
    try simp only [World.size_alloc] at y11
    have HN := hid hN
    clear hN
    have L_159 := hid (l_below L_155.out HN.out.2.2.2)
    have Bbox0_160 := hid (bk_below Bbox0_156.out HN.out.2.2.2)
    have Ov0a_161 := hid (Ov0a_157.out.below HN.out.2.2.2)
    have Og0a_162 := hid (Og0a_158.out.below HN.out.2.2.2)
    clear L_155 Bbox0_156 Ov0a_157 Og0a_158
    have Or0a_163 := hid (Ob.mk' HN.out.1)
    have Or0b_164 := hid (Ob.mk' HN.out.2.1)
    clear HN
    go_wp2_with fail
    refine (impl_SimplifyingOf _ _ _ _ A0 _ _ _ B0 _ Or0a_163.out.fr.rd Or0b_164.out.fr.rd).mono ?_
    rw [HR.out]
    rintro e w14 ⟨h0p, h0n, h0c, rfl, hN⟩
    have y12 := hN.2.size
    try simp only [World.size_alloc] at y12
    have HN := hid hN
    clear hN
    have L_165 := hid (l_below L_159.out HN.out.2)
    have Bbox0_166 := hid (bk_below Bbox0_160.out HN.out.2)
    have Ov0a_167 := hid (Ov0a_161.out.below HN.out.2)
    have Og0a_168 := hid (Og0a_162.out.below HN.out.2)
    have Or0a_169 := hid (Or0a_163.out.below HN.out.2)
    have Or0b_170 := hid (Or0b_164.out.below HN.out.2)
    clear L_159 Bbox0_160 Ov0a_161 Og0a_162 Or0a_163 Or0b_164
    have Oh0a_171 := hid (Ob.mk' HN.out.1)
    have hnh0 : h0n ≤ 1000 := by rw [← HN.out.1.rd.len]; exact hlA
    clear HN
    clear q00 q01 q02
    go_wp2_with fail
    refine (law_eqIntS_true _ _ _ _ _ _ rA _ Oh0a_171.out.fr.rd Ov0a_167.out.fr.rd).mono ?_
    rintro e w15 ⟨rfl, hB⟩
    have y13 := hB.size
    try simp only [World.size_alloc] at y13
    have HB := hid hB
    clear hB
    have L_172 := hid (l_below L_165.out HB.out)
    have Bbox0_173 := hid (bk_below Bbox0_166.out HB.out)
    have Ov0a_174 := hid (Ov0a_167.out.below HB.out)
    have Og0a_175 := hid (Og0a_168.out.below HB.out)
    have Oh0a_176 := hid (Oh0a_171.out.below HB.out)
    clear L_165 Bbox0_166 Ov0a_167 Og0a_168 Oh0a_171
    clear HB
    go_wp2_with fail
    refine (law_heldIntS _ _ _ 1 _ Og0a_175.out.fr.rd (by omega) (by omega) (by omega)).mono ?_
    rintro e w16x ⟨rfl, rfl⟩
    go_wp2_with fail
    go_ret
    exact ⟨rfl, L_172.out⟩
  · skip
    have L_277 := hid (Below.refl w.heap.size w)
    have L_278 := hid (l_alloc L_277.out (.cells #[.int .i64 s0, .slice a0 n0 c0, .slice b0 m0 d0] 24))
    clear L_277
    have Bbox0_279 := hid (bk_new w #[.int .i64 s0, .slice a0 n0 c0, .slice b0 m0 d0] 24)
    go_enter Try.func4, Try.ntmps4
    go_wp2_with fail
    refine (law_szTableau_no _ _ _ _ _ _ _ _ _ (by omega) (by omega) (by omega) (by omega) (by omega)).mono ?_
    rintro e w1 ⟨rfl, hB⟩
    have y14 := hB.size
    try simp only [World.size_alloc] at y14
    have HB := hid hB
    clear hB
    have L_280 := hid (l_below L_278.out HB.out)
    have Bbox0_281 := hid (bk_below Bbox0_279.out HB.out)
    clear L_278 Bbox0_279
    clear HB
    obtain ⟨⟨q00, q01, q02⟩, _⟩ := blk3 Bbox0_281.out
    go_wp2_with fail
    go_ret
    exact ⟨rfl, L_280.out⟩
end Go.Proofs.Ythebegfceaehfaa
