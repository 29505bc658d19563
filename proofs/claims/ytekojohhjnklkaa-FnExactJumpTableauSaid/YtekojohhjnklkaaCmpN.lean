/- ComposeTableaus of the implementation: the ways out. -/
import Derived.Test.YtekojohhjnklkaaCmpL
namespace Go.Proofs.Ytekojohhjnklkaa
open Go.RowKit

theorem impl_ComposeTableaus_no1 (s : Int) (a1 : Option Addr) (n1 c1 : Nat) (A : List Int) (a2 : Option Addr) (n2 c2 : Nat) (B : List Int) (t : Int) (a3 : Option Addr) (n3 c3 : Nat) (C : List Int) (a4 : Option Addr) (n4 c4 : Nat) (D : List Int) (w : World)
    (h1 : Rd w a1 n1 c1 A) (h2 : Rd w a2 n2 c2 B) (_h3 : Rd w a3 n3 c3 C) (_h4 : Rd w a4 n4 c4 D) (hno : tabOk s A B = false) :
    Calls Try.prog 40 #[.agg #[.int .i64 s, .slice a1 n1 c1, .slice a2 n2 c2], .agg #[.int .i64 t, .slice a3 n3 c3, .slice a4 n4 c4]] w fun e w' => ∃ p n c q m d, e = .returned (.tuple #[.agg #[.int .i64 0, .slice p n c, .slice q m d], .bool false]) ∧ NewT w w' [] [] p n c q m d := by
  have HN1 := hid hno
  have S0 := hid (((St.first w #[.int .i64 s, .slice a1 n1 c1, .slice a2 n2 c2] 27).alloc (.cells #[.int .i64 t, .slice a3 n3 c3, .slice a4 n4 c4] 27)).alloc (.cells #[.int .i64 0, .slice none 0 0, .slice none 0 0] 27))
  have T0 := hid (bk_alloc (heap_alloc_at (w.alloc (.cells #[.int .i64 s, .slice a1 n1 c1, .slice a2 n2 c2] 27)) #[.int .i64 t, .slice a3 n3 c3, .slice a4 n4 c4] 27 (w.heap.size + 1) (by simp)) (.cells #[.int .i64 0, .slice none 0 0, .slice none 0 0] 27))
  have R0 := hid (heap_alloc_at ((w.alloc (.cells #[.int .i64 s, .slice a1 n1 c1, .slice a2 n2 c2] 27)).alloc (.cells #[.int .i64 t, .slice a3 n3 c3, .slice a4 n4 c4] 27)) #[.int .i64 0, .slice none 0 0, .slice none 0 0] 27 (w.heap.size + 1 + 1) (by simp))
  go_enter Try.func40, Try.ntmps40
  go_wp2_with fail
  refine (impl_TableauOk _ _ _ _ A _ _ _ B _ (h1.below S0.out.below) (h2.below S0.out.below)).mono ?_
  rw [HN1.out]
  rintro e w1 ⟨rfl, hB⟩
  have S1 := hid (S0.out.step hB)
  have T1 := hid (bk_below T0.out hB)
  have R1 := hid (bk_below R0.out hB)
  obtain ⟨⟨q0, q1, q2⟩, _⟩ := blk3 S1.out.box
  obtain ⟨⟨p0, p1, p2⟩, _⟩ := blk3 T1.out
  obtain ⟨⟨r0, r1, r2⟩, f0, f1, f2⟩ := blk3 R1.out
  clear hB S0 T0 R0
  go_wp2_with fail
  obtain ⟨e1, e2⟩ := none_end S1.out.below (show w.heap.size ≤ w.heap.size + 1 + 1 by omega) R1.out (.int .i64 0) (.slice none 0 0) (.slice none 0 0)
  exact ret_tabb rfl rfl rfl e1 rfl ⟨_, _, _, _, _, _, rfl, e2⟩
theorem impl_ComposeTableaus_no2 (s : Int) (a1 : Option Addr) (n1 c1 : Nat) (A : List Int) (a2 : Option Addr) (n2 c2 : Nat) (B : List Int) (t : Int) (a3 : Option Addr) (n3 c3 : Nat) (C : List Int) (a4 : Option Addr) (n4 c4 : Nat) (D : List Int) (w : World)
    (h1 : Rd w a1 n1 c1 A) (h2 : Rd w a2 n2 c2 B) (h3 : Rd w a3 n3 c3 C) (h4 : Rd w a4 n4 c4 D) (hok : tabOk s A B = true) (hno : tabOk t C D = false) :
    Calls Try.prog 40 #[.agg #[.int .i64 s, .slice a1 n1 c1, .slice a2 n2 c2], .agg #[.int .i64 t, .slice a3 n3 c3, .slice a4 n4 c4]] w fun e w' => ∃ p n c q m d, e = .returned (.tuple #[.agg #[.int .i64 0, .slice p n c, .slice q m d], .bool false]) ∧ NewT w w' [] [] p n c q m d := by
  have HN1 := hid hok
  have HN2 := hid hno
  have S0 := hid (((St.first w #[.int .i64 s, .slice a1 n1 c1, .slice a2 n2 c2] 27).alloc (.cells #[.int .i64 t, .slice a3 n3 c3, .slice a4 n4 c4] 27)).alloc (.cells #[.int .i64 0, .slice none 0 0, .slice none 0 0] 27))
  have T0 := hid (bk_alloc (heap_alloc_at (w.alloc (.cells #[.int .i64 s, .slice a1 n1 c1, .slice a2 n2 c2] 27)) #[.int .i64 t, .slice a3 n3 c3, .slice a4 n4 c4] 27 (w.heap.size + 1) (by simp)) (.cells #[.int .i64 0, .slice none 0 0, .slice none 0 0] 27))
  have R0 := hid (heap_alloc_at ((w.alloc (.cells #[.int .i64 s, .slice a1 n1 c1, .slice a2 n2 c2] 27)).alloc (.cells #[.int .i64 t, .slice a3 n3 c3, .slice a4 n4 c4] 27)) #[.int .i64 0, .slice none 0 0, .slice none 0 0] 27 (w.heap.size + 1 + 1) (by simp))
  go_enter Try.func40, Try.ntmps40
  go_wp2_with fail
  refine (impl_TableauOk _ _ _ _ A _ _ _ B _ (h1.below S0.out.below) (h2.below S0.out.below)).mono ?_
  rw [HN1.out]
  rintro e w1 ⟨rfl, hB⟩
  have S1 := hid (S0.out.step hB)
  have T1 := hid (bk_below T0.out hB)
  have R1 := hid (bk_below R0.out hB)
  obtain ⟨⟨q0, q1, q2⟩, _⟩ := blk3 S1.out.box
  obtain ⟨⟨p0, p1, p2⟩, _⟩ := blk3 T1.out
  obtain ⟨⟨r0, r1, r2⟩, f0, f1, f2⟩ := blk3 R1.out
  clear hB S0 T0 R0
  go_wp2_with fail
  refine (impl_TableauOk _ _ _ _ C _ _ _ D _ (h3.below S1.out.below) (h4.below S1.out.below)).mono ?_
  rw [HN2.out]
  rintro e w2 ⟨rfl, hB⟩
  have S2 := hid (S1.out.step hB)
  have R2 := hid (bk_below R1.out hB)
  have T2 := hid (bk_below T1.out hB)
  clear hB S1 T1 R1 q0 q1 q2 p0 p1 p2 r0 r1 r2 f0 f1 f2
  obtain ⟨⟨q0, q1, q2⟩, _⟩ := blk3 S2.out.box
  obtain ⟨⟨p0, p1, p2⟩, _⟩ := blk3 T2.out
  obtain ⟨⟨r0, r1, r2⟩, f0, f1, f2⟩ := blk3 R2.out
  go_wp2_with fail
  obtain ⟨e1, e2⟩ := none_end S2.out.below (show w.heap.size ≤ w.heap.size + 1 + 1 by omega) R2.out (.int .i64 0) (.slice none 0 0) (.slice none 0 0)
  exact ret_tabb rfl rfl rfl e1 rfl ⟨_, _, _, _, _, _, rfl, e2⟩
theorem impl_ComposeTableaus_no3 (S : Nat) (a1 : Option Addr) (n1 c1 : Nat) (A : List Int) (a2 : Option Addr) (n2 c2 : Nat) (B : List Int) (T : Nat) (a3 : Option Addr) (n3 c3 : Nat) (C : List Int) (a4 : Option Addr) (n4 c4 : Nat) (D : List Int) (w : World)
    (h1 : Rd w a1 n1 c1 A) (h2 : Rd w a2 n2 c2 B) (h3 : Rd w a3 n3 c3 C) (h4 : Rd w a4 n4 c4 D) (hok : tabOk S A B = true) (hok2 : tabOk T C D = true) (hS : S ≤ 8) (hT : T ≤ 8) (hno : ¬ S + T ≤ 8) :
    Calls Try.prog 40 #[.agg #[.int .i64 S, .slice a1 n1 c1, .slice a2 n2 c2], .agg #[.int .i64 T, .slice a3 n3 c3, .slice a4 n4 c4]] w fun e w' => ∃ p n c q m d, e = .returned (.tuple #[.agg #[.int .i64 0, .slice p n c, .slice q m d], .bool false]) ∧ NewT w w' [] [] p n c q m d := by
  have HN1 := hid hok
  have HN2 := hid hok2
  have hwr : IntKind.i64.wrap ((S : Int) + (T : Int)) = (S : Int) + (T : Int) := IntWalk.i64_in _ ⟨by omega, by omega⟩
  have hg : (8 : Int) < (S : Int) + (T : Int) := by omega
  have S0 := hid (((St.first w #[.int .i64 S, .slice a1 n1 c1, .slice a2 n2 c2] 27).alloc (.cells #[.int .i64 T, .slice a3 n3 c3, .slice a4 n4 c4] 27)).alloc (.cells #[.int .i64 0, .slice none 0 0, .slice none 0 0] 27))
  have T0 := hid (bk_alloc (heap_alloc_at (w.alloc (.cells #[.int .i64 S, .slice a1 n1 c1, .slice a2 n2 c2] 27)) #[.int .i64 T, .slice a3 n3 c3, .slice a4 n4 c4] 27 (w.heap.size + 1) (by simp)) (.cells #[.int .i64 0, .slice none 0 0, .slice none 0 0] 27))
  have R0 := hid (heap_alloc_at ((w.alloc (.cells #[.int .i64 S, .slice a1 n1 c1, .slice a2 n2 c2] 27)).alloc (.cells #[.int .i64 T, .slice a3 n3 c3, .slice a4 n4 c4] 27)) #[.int .i64 0, .slice none 0 0, .slice none 0 0] 27 (w.heap.size + 1 + 1) (by simp))
  go_enter Try.func40, Try.ntmps40
  go_wp2_with fail
  refine (impl_TableauOk _ _ _ _ A _ _ _ B _ (h1.below S0.out.below) (h2.below S0.out.below)).mono ?_
  rw [HN1.out]
  rintro e w1 ⟨rfl, hB⟩
  have S1 := hid (S0.out.step hB)
  have T1 := hid (bk_below T0.out hB)
  have R1 := hid (bk_below R0.out hB)
  obtain ⟨⟨q0, q1, q2⟩, _⟩ := blk3 S1.out.box
  obtain ⟨⟨p0, p1, p2⟩, _⟩ := blk3 T1.out
  obtain ⟨⟨r0, r1, r2⟩, f0, f1, f2⟩ := blk3 R1.out
  clear hB S0 T0 R0
  go_wp2_with fail
  refine (impl_TableauOk _ _ _ _ C _ _ _ D _ (h3.below S1.out.below) (h4.below S1.out.below)).mono ?_
  rw [HN2.out]
  rintro e w2 ⟨rfl, hB⟩
  have S2 := hid (S1.out.step hB)
  have R2 := hid (bk_below R1.out hB)
  have T2 := hid (bk_below T1.out hB)
  clear hB S1 T1 R1 q0 q1 q2 p0 p1 p2 r0 r1 r2 f0 f1 f2
  obtain ⟨⟨q0, q1, q2⟩, _⟩ := blk3 S2.out.box
  obtain ⟨⟨p0, p1, p2⟩, _⟩ := blk3 T2.out
  obtain ⟨⟨r0, r1, r2⟩, f0, f1, f2⟩ := blk3 R2.out
  go_wp2_with fail
  obtain ⟨e1, e2⟩ := none_end S2.out.below (show w.heap.size ≤ w.heap.size + 1 + 1 by omega) R2.out (.int .i64 0) (.slice none 0 0) (.slice none 0 0)
  exact ret_tabb rfl rfl rfl e1 rfl ⟨_, _, _, _, _, _, rfl, e2⟩
end Go.Proofs.Ytekojohhjnklkaa
