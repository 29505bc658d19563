/- FnExactKindOf: the walk of the law. -/
import Derived.Test.YtekojohhjnklkaaKind
import Derived.Test.YtekojohhjnklkaaSt
namespace Go.Proofs.Ytekojohhjnklkaa
open Go.RowKit

theorem walk_KindOf (s : Int) (a1 : Option Addr) (n1 c1 : Nat) (A : List Int) (a2 : Option Addr) (n2 c2 : Nat) (B : List Int) {w : World} (h1 : Rd w a1 n1 c1 A) (h2 : Rd w a2 n2 c2 B) (_hs : I64 s) :
    Calls Try.prog 6 #[.agg #[.int .i64 s, .slice a1 n1 c1, .slice a2 n2 c2]] w fun e w' => e = .returned (.bool true) ∧ Below w.heap.size w w' := by
  have m1 : n1 ≤ 9223372036854775807 := Nat.le_trans h1.cap h1.max
  have m2 : n2 ≤ 9223372036854775807 := Nat.le_trans h2.cap h2.max
  have H1 := hid h1
  have H2 := hid h2
  clear h1 h2
  have S0 := hid (St.first w #[.int .i64 s, .slice a1 n1 c1, .slice a2 n2 c2] 24)
  by_cases hsm : n1 + n2 ≤ 1048576
  · go_enter Try.func6, Try.ntmps6
    go_wp2_with fail
    refine (law_szTableau_yes _ _ _ _ _ _ _ _ hsm).mono ?_
    rintro e w1 ⟨rfl, hB⟩
    have S1 := hid (S0.out.step hB)
    obtain ⟨⟨q0, q1, q2⟩, _⟩ := blk3 S1.out.box
    clear hB
    have hneg : ¬ (1048576 - (n1 : Int) - (n2 : Int)) < 0 := by omega
    go_wp2_with fail
    refine (law_toTableau _ _ _ _ A _ _ _ B _ (H1.out.below S1.out.below) (H2.out.below S1.out.below) hsm).mono ?_
    rintro e w2 ⟨b1, b2, rfl, hN⟩
    have HN := hid hN
    clear hN
    go_wp2_with fail
    refine (spec_KindOf _ _ _ _ A _ _ _ B _ HN.out.1.rd HN.out.2.1.rd).mono ?_
    rintro e w3 ⟨rfl, hB⟩
    have S3 := hid ((S1.out.step HN.out.2.2.2).step hB)
    clear hB q0 q1 q2
    generalize hv : kindV s A B = v
    have HV := hid hv
    clear hv
    obtain ⟨⟨q0, q1, q2⟩, _⟩ := blk3 S3.out.box
    go_wp2_with fail
    refine (law_toTableau _ _ _ _ A _ _ _ B _ (H1.out.below S3.out.below) (H2.out.below S3.out.below) hsm).mono ?_
    rintro e w4 ⟨x1, x2, rfl, hN⟩
    have HX := hid hN
    have S4 := hid ((S3.out.step hN.2.2.2).alloc (.cells #[.int .i64 s, .slice (some ⟨x1, 0, none⟩) n1 n1, .slice (some ⟨x2, 0, none⟩) n2 n2] 27))
    have z4 : w.heap.size < w4.heap.size := (S3.out.step hN.2.2.2).size
    clear hN q0 q1 q2
    obtain ⟨⟨q0, q1, q2⟩, _⟩ := blk3 (S3.out.step HX.out.2.2.2).box
    go_wp2_with fail
    refine (impl_KindOf _ _ _ _ A _ _ _ B _ (HX.out.1.rd.alloc _) (HX.out.2.1.rd.alloc _)).mono ?_
    rw [HV.out]
    rintro e w5 ⟨rfl, hB⟩
    have S5 := hid (S4.out.step hB)
    have hx := (hB.block w4.heap.size (by simp)).trans (heap_alloc_at _ _ _ _ rfl)
    have KP := hid (keep6 S5.out.box hx)
    have HB := hid hB
    clear hB hx q0 q1 q2
    obtain ⟨⟨q0, q1, q2⟩, _⟩ := blk3 S5.out.box
    go_wp2_with fail
    go_region_held3 (fun w' => w'.cell? ⟨w.heap.size, 0, none⟩ = some (.int .i64 s) ∧ w'.cell? ⟨w.heap.size, 1, none⟩ = some (.slice a1 n1 c1) ∧ w'.cell? ⟨w.heap.size, 2, none⟩ = some (.slice a2 n2 c2) ∧
      w'.cell? ⟨w4.heap.size, 0, none⟩ = some (.int .i64 s) ∧ w'.cell? ⟨w4.heap.size, 1, none⟩ = some (.slice (some ⟨x1, 0, none⟩) n1 n1) ∧ w'.cell? ⟨w4.heap.size, 2, none⟩ = some (.slice (some ⟨x2, 0, none⟩) n2 n2))
      (first | exact KP.out _ ((Below.refl _ _).drew) | exact KP.out _ (of_drew hY.2.2.2) | exact KP.out _ ((of_drew hY.2.2.2).trans (hZ.mono (of_drew hY.2.2.2).size)))
      (first
        | (go_at_call 17; refine (law_toTableau _ _ _ _ A _ _ _ B _ (H1.out.below S5.out.drew.below) (H2.out.below S5.out.drew.below) hsm).mono ?_; rintro e w6 ⟨y1, y2, rfl, hY⟩)
        | (go_at_call 19; refine (law_eqTableau_true _ _ _ _ _ _ _ _ _ _ _ _ _ A B _ (((HX.out.1.rd.alloc _).below HB.out).below (of_drew hY.2.2.2)) (((HX.out.2.1.rd.alloc _).below HB.out).below (of_drew hY.2.2.2)) hY.1.rd hY.2.1.rd).mono ?_; rintro e w7 ⟨rfl, hZ⟩))
    have S7 := hid ((S5.out.step (of_drew hY.2.2.2)).step hZ)
    clear hY hZ
    go_wp2_with fail
    go_ret
    exact ⟨rfl, S7.out.below⟩
  · go_enter Try.func6, Try.ntmps6
    go_wp2_with fail
    refine (law_szTableau_no _ _ _ _ _ _ _ _ m1 m2 hsm).mono ?_
    rintro e w1 ⟨rfl, hB⟩
    have S1 := hid (S0.out.step hB)
    clear hB
    go_wp2_with fail
    go_ret
    exact ⟨rfl, S1.out.below⟩
end Go.Proofs.Ytekojohhjnklkaa
