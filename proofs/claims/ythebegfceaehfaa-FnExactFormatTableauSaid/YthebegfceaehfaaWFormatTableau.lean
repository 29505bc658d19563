/- FnExactFormatTableau: the walk of the law. -/
import Derived.Test.YthebegfceaehfaaFmtT
import Derived.Test.YthebegfceaehfaaOb
namespace Go.Proofs.Ythebegfceaehfaa
open Go.RowKit

set_option maxRecDepth 20000 in
set_option maxHeartbeats 2000000 in
theorem walk_FormatTableau {w : World} (s0 : Int) (a0 : Option Addr) (n0 c0 : Nat) (A0 : List Int) (b0 : Option Addr) (m0 d0 : Nat) (B0 : List Int) (g0a : Rd w a0 n0 c0 A0) (g0b : Rd w b0 m0 d0 B0) (_hs0 : I64 s0) :
    Calls Try.prog 3 #[.agg #[.int .i64 s0, .slice a0 n0 c0, .slice b0 m0 d0]] w fun e w' => e = .returned (.bool true) ∧ Below w.heap.size w w' := by
  have z0a : n0 ≤ 9223372036854775807 := Nat.le_trans g0a.cap g0a.max
  have H0a := hid g0a
  clear g0a
  have z0b : m0 ≤ 9223372036854775807 := Nat.le_trans g0b.cap g0b.max
  have H0b := hid g0b
  clear g0b
  obtain ⟨rT, HR⟩ : ∃ rT, Hid (fmtTab s0 A0 B0 = rT) := ⟨_, rfl⟩
  by_cases hs0 : n0 + m0 ≤ 1048576
  · skip
    have L_101 := hid (Below.refl w.heap.size w)
    have L_102 := hid (l_alloc L_101.out (.cells #[.int .i64 s0, .slice a0 n0 c0, .slice b0 m0 d0] 24))
    clear L_101
    have Bbox0_103 := hid (bk_new w #[.int .i64 s0, .slice a0 n0 c0, .slice b0 m0 d0] 24)
    go_enter Try.func3, Try.ntmps3
    go_wp2_with fail
    refine (law_szTableau_yes _ _ _ _ _ _ _ _ _ (by omega) (by omega)).mono ?_
    rintro e w1 ⟨rfl, hB⟩
    have y1 := hB.size
    try simp only [World.size_alloc] at y1
    have HB := hid hB
    clear hB
    have L_104 := hid (l_below L_102.out HB.out)
    have Bbox0_105 := hid (bk_below Bbox0_103.out HB.out)
    clear L_102 Bbox0_103
    clear HB
    obtain ⟨⟨q00, q01, q02⟩, _⟩ := blk3 Bbox0_105.out
    go_wp2_with fail
    clear q00 q01 q02
    obtain ⟨⟨q00, q01, q02⟩, _⟩ := blk3 Bbox0_105.out
    refine (law_toTableau _ _ _ _ A0 _ _ _ B0 _ (H0a.out.below L_104.out) (H0b.out.below L_104.out) (by omega)).mono ?_
    rintro e w2 ⟨u0a, u0b, rfl, hN⟩
    have y2 := hN.2.2.2.size
    try simp only [World.size_alloc] at y2
    have HN := hid hN
    clear hN
    have L_106 := hid (l_below L_104.out HN.out.2.2.2)
    have Bbox0_107 := hid (bk_below Bbox0_105.out HN.out.2.2.2)
    clear L_104 Bbox0_105
    have Ou0a_108 := hid (Ob.mk' HN.out.1)
    have Ou0b_109 := hid (Ob.mk' HN.out.2.1)
    clear HN
    go_wp2_with fail
    refine (spec_FormatTableau _ _ _ _ A0 _ _ _ B0 _ Ou0a_108.out.fr.rd Ou0b_109.out.fr.rd).mono ?_
    rw [HR.out]
    rintro e w3 ⟨rfl, hB⟩
    have y3 := hB.size
    try simp only [World.size_alloc] at y3
    have HB := hid hB
    clear hB
    have L_110 := hid (l_below L_106.out HB.out)
    have Bbox0_111 := hid (bk_below Bbox0_107.out HB.out)
    have Ou0a_112 := hid (Ou0a_108.out.below HB.out)
    have Ou0b_113 := hid (Ou0b_109.out.below HB.out)
    clear L_106 Bbox0_107 Ou0a_108 Ou0b_109
    clear HB
    clear q00 q01 q02
    obtain ⟨⟨q00, q01, q02⟩, _⟩ := blk3 Bbox0_111.out
    go_wp2_with fail
    refine (law_toTableau _ _ _ _ A0 _ _ _ B0 _ (H0a.out.below L_110.out) (H0b.out.below L_110.out) (by omega)).mono ?_
    rintro e w4 ⟨x0a, x0b, rfl, hN⟩
    have y4 := hN.2.2.2.size
    try simp only [World.size_alloc] at y4
    have HN := hid hN
    clear hN
    have L_114 := hid (l_below L_110.out HN.out.2.2.2)
    have Bbox0_115 := hid (bk_below Bbox0_111.out HN.out.2.2.2)
    clear L_110 Bbox0_111
    have Ox0a_116 := hid (Ob.mk' HN.out.1)
    have Ox0b_117 := hid (Ob.mk' HN.out.2.1)
    have HSx0 := hid HN.out.2.2.1
    clear HN
    have L_118 := hid (l_alloc L_114.out (.cells #[.int .i64 s0, .slice (some ⟨x0a, 0, none⟩) n0 n0, .slice (some ⟨x0b, 0, none⟩) m0 m0] 27))
    have Bbox0_119 := hid (bk_alloc Bbox0_115.out (.cells #[.int .i64 s0, .slice (some ⟨x0a, 0, none⟩) n0 n0, .slice (some ⟨x0b, 0, none⟩) m0 m0] 27))
    have Ox0a_120 := hid (Ox0a_116.out.alloc (.cells #[.int .i64 s0, .slice (some ⟨x0a, 0, none⟩) n0 n0, .slice (some ⟨x0b, 0, none⟩) m0 m0] 27))
    have Ox0b_121 := hid (Ox0b_117.out.alloc (.cells #[.int .i64 s0, .slice (some ⟨x0a, 0, none⟩) n0 n0, .slice (some ⟨x0b, 0, none⟩) m0 m0] 27))
    clear L_114 Bbox0_115 Ox0a_116 Ox0b_117
    have Bx0_122 := hid (bk_new w4 #[.int .i64 s0, .slice (some ⟨x0a, 0, none⟩) n0 n0, .slice (some ⟨x0b, 0, none⟩) m0 m0] 27)
    clear q00 q01 q02
    obtain ⟨⟨q00, q01, q02⟩, _⟩ := blk3 Bx0_122.out
    go_wp2_with fail
    refine (impl_FormatTableau _ _ _ _ A0 _ _ _ B0 _ Ox0a_120.out.fr.rd Ox0b_121.out.fr.rd).mono ?_
    rw [HR.out]
    rintro e w5 ⟨rfl, hB⟩
    have y5 := hB.size
    try simp only [World.size_alloc] at y5
    have HB := hid hB
    clear hB
    have L_123 := hid (l_below L_118.out HB.out)
    have Bbox0_124 := hid (bk_below Bbox0_119.out HB.out)
    have Ox0a_125 := hid (Ox0a_120.out.below HB.out)
    have Ox0b_126 := hid (Ox0b_121.out.below HB.out)
    have Bx0_127 := hid (bk_below Bx0_122.out HB.out)
    clear L_118 Bbox0_119 Ox0a_120 Ox0b_121 Bx0_122
    clear HB
    clear q00 q01 q02
    obtain ⟨⟨q00, q01, q02⟩, _⟩ := blk3 Bbox0_124.out
    obtain ⟨⟨q10, q11, q12⟩, _⟩ := blk3 Bx0_127.out
    go_wp2_with fail
    have KP := hid (keep6 Bbox0_124.out Bx0_127.out)
    go_region_held3 (fun w' => w'.cell? ⟨w.heap.size, 0, none⟩ = some (.int .i64 s0) ∧ w'.cell? ⟨w.heap.size, 1, none⟩ = some (.slice a0 n0 c0) ∧ w'.cell? ⟨w.heap.size, 2, none⟩ = some (.slice b0 m0 d0) ∧ w'.cell? ⟨w4.heap.size, 0, none⟩ = some (.int .i64 s0) ∧ w'.cell? ⟨w4.heap.size, 1, none⟩ = some (.slice (some ⟨x0a, 0, none⟩) n0 n0) ∧ w'.cell? ⟨w4.heap.size, 2, none⟩ = some (.slice (some ⟨x0b, 0, none⟩) m0 m0))
      (first | exact KP.out _ ((Below.refl _ _).drew) | exact KP.out _ (of_drew hY.2.2.2) | exact KP.out _ ((of_drew hY.2.2.2).trans (hZ.mono (of_drew hY.2.2.2).size)))
      (first
        | (go_at_call 10; refine (law_toTableau _ _ _ _ A0 _ _ _ B0 _ (H0a.out.below L_123.out.drew) (H0b.out.below L_123.out.drew) (by omega)).mono ?_; rintro e w6 ⟨yqa, yqb, rfl, hY⟩)
        | (go_at_call 12; refine (law_eqTableau_true _ _ _ _ _ _ _ _ _ _ _ _ _ A0 B0 _ (Ox0a_125.out.fr.rd.below (of_drew hY.2.2.2)) (Ox0b_126.out.fr.rd.below (of_drew hY.2.2.2)) hY.1.rd hY.2.1.rd).mono ?_; rintro e w7 ⟨rfl, hZ⟩))
    have hB := (of_drew hY.2.2.2).trans (hZ.mono (of_drew hY.2.2.2).size)
    have y6 := hB.size
    try simp only [World.size_alloc] at y6
    have HB := hid hB
    clear hB hY hZ KP
    have L_128 := hid (l_below L_123.out HB.out)
    have Bbox0_129 := hid (bk_below Bbox0_124.out HB.out)
    have Ox0a_130 := hid (Ox0a_125.out.below HB.out)
    have Ox0b_131 := hid (Ox0b_126.out.below HB.out)
    have Bx0_132 := hid (bk_below Bx0_127.out HB.out)
    clear L_123 Bbox0_124 Ox0a_125 Ox0b_126 Bx0_127
    clear HB
    go_wp2_with fail
    go_ret
    exact ⟨rfl, L_128.out⟩
  · skip
    have L_233 := hid (Below.refl w.heap.size w)
    have L_234 := hid (l_alloc L_233.out (.cells #[.int .i64 s0, .slice a0 n0 c0, .slice b0 m0 d0] 24))
    clear L_233
    have Bbox0_235 := hid (bk_new w #[.int .i64 s0, .slice a0 n0 c0, .slice b0 m0 d0] 24)
    go_enter Try.func3, Try.ntmps3
    go_wp2_with fail
    refine (law_szTableau_no _ _ _ _ _ _ _ _ _ (by omega) (by omega) (by omega) (by omega) (by omega)).mono ?_
    rintro e w1 ⟨rfl, hB⟩
    have y7 := hB.size
    try simp only [World.size_alloc] at y7
    have HB := hid hB
    clear hB
    have L_236 := hid (l_below L_234.out HB.out)
    have Bbox0_237 := hid (bk_below Bbox0_235.out HB.out)
    clear L_234 Bbox0_235
    clear HB
    obtain ⟨⟨q00, q01, q02⟩, _⟩ := blk3 Bbox0_237.out
    go_wp2_with fail
    go_ret
    exact ⟨rfl, L_236.out⟩
end Go.Proofs.Ythebegfceaehfaa
