/- PermuteTableau of the implementation. -/
import Derived.Test.YtekojohhjnklkaaPermL
import Derived.Test.YtekojohhjnklkaaChI
namespace Go.Proofs.Ytekojohhjnklkaa
open Go.RowKit

theorem impl_PermuteTableau_no (s : Int) (a1 : Option Addr) (n1 c1 : Nat) (A : List Int) (a2 : Option Addr) (n2 c2 : Nat) (B : List Int) (l : Option Addr) (m d : Nat) (w : World) (h1 : Rd w a1 n1 c1 A) (h2 : Rd w a2 n2 c2 B) (hno : tabOk s A B = false) :
    Calls Try.prog 43 #[.agg #[.int .i64 s, .slice a1 n1 c1, .slice a2 n2 c2], .slice l m d] w fun e w' => ∃ a1 n1 c1 a2 n2 c2, e = .returned (.tuple #[.agg #[.int .i64 0, .slice a1 n1 c1, .slice a2 n2 c2], .bool false]) ∧ NewT w w' [] [] a1 n1 c1 a2 n2 c2 := by
  have HN := hid hno
  have S0 := hid ((St.first w #[.int .i64 s, .slice a1 n1 c1, .slice a2 n2 c2] 27).alloc (.cells #[.int .i64 0, .slice none 0 0, .slice none 0 0] 27))
  go_enter Try.func43, Try.ntmps43
  go_wp2_with fail
  refine (impl_TableauOk _ _ _ _ A _ _ _ B _ ((h1.alloc _).alloc _) ((h2.alloc _).alloc _)).mono ?_
  rw [HN.out]
  rintro e w1 ⟨rfl, hB⟩
  have S1 := hid (S0.out.step hB)
  have hr := bk_below (heap_alloc_at (w.alloc (.cells #[.int .i64 s, .slice a1 n1 c1, .slice a2 n2 c2] 27)) #[.int .i64 0, .slice none 0 0, .slice none 0 0] 27 (w.heap.size + 1) (by simp)) hB
  have HRS := hid hr
  obtain ⟨⟨r0, r1, r2⟩, f0, f1, f2⟩ := blk3 hr
  clear hB hr
  go_wp2_with fail
  obtain ⟨e1, e2⟩ := none_end S1.out.below (Nat.le_succ _) HRS.out (.int .i64 0) (.slice none 0 0) (.slice none 0 0)
  exact ret_tabb rfl rfl rfl e1 rfl ⟨_, _, _, _, _, _, rfl, e2⟩
theorem impl_PermuteTableau_len (S : Nat) (a1 : Option Addr) (n1 c1 : Nat) (A : List Int) (a2 : Option Addr) (n2 c2 : Nat) (B : List Int) (l : Option Addr) (m d : Nat) (w : World) (h1 : Rd w a1 n1 c1 A) (h2 : Rd w a2 n2 c2 B) (hok : tabOk S A B = true) (_hS : S ≤ 8) (_hm : (m : Int) ≤ 9223372036854775807) (hne : m ≠ S) :
    Calls Try.prog 43 #[.agg #[.int .i64 S, .slice a1 n1 c1, .slice a2 n2 c2], .slice l m d] w fun e w' => ∃ a1 n1 c1 a2 n2 c2, e = .returned (.tuple #[.agg #[.int .i64 0, .slice a1 n1 c1, .slice a2 n2 c2], .bool false]) ∧ NewT w w' [] [] a1 n1 c1 a2 n2 c2 := by
  have HN := hid hok
  have S0 := hid ((St.first w #[.int .i64 S, .slice a1 n1 c1, .slice a2 n2 c2] 27).alloc (.cells #[.int .i64 0, .slice none 0 0, .slice none 0 0] 27))
  have hb : ((m : Int) == (S : Int)) = false := by simp; omega
  have hb2 : ¬ ((m : Int) = (S : Int)) := by omega
  go_enter Try.func43, Try.ntmps43
  go_wp2_with fail
  refine (impl_TableauOk _ _ _ _ A _ _ _ B _ ((h1.alloc _).alloc _) ((h2.alloc _).alloc _)).mono ?_
  rw [HN.out]
  rintro e w1 ⟨rfl, hB⟩
  have S1 := hid (S0.out.step hB)
  have hr := bk_below (heap_alloc_at (w.alloc (.cells #[.int .i64 S, .slice a1 n1 c1, .slice a2 n2 c2] 27)) #[.int .i64 0, .slice none 0 0, .slice none 0 0] 27 (w.heap.size + 1) (by simp)) hB
  have HRS := hid hr
  obtain ⟨⟨r0, r1, r2⟩, f0, f1, f2⟩ := blk3 hr
  obtain ⟨⟨q0, q1, q2⟩, _⟩ := blk3 S1.out.box
  clear hB hr
  go_wp2_with fail
  obtain ⟨e1, e2⟩ := none_end S1.out.below (Nat.le_succ _) HRS.out (.int .i64 0) (.slice none 0 0) (.slice none 0 0)
  exact ret_tabb rfl rfl rfl e1 rfl ⟨_, _, _, _, _, _, rfl, e2⟩
set_option maxHeartbeats 2000000 in
theorem impl_PermuteTableau_yes (S : Nat) (a1 : Option Addr) (n1 c1 : Nat) (A : List Int) (a2 : Option Addr) (c2 : Nat) (B : List Int) (l : Option Addr) (d : Nat) (L : List Int) (w : World) (h1 : Rd w a1 n1 c1 A) (h2 : Rd w a2 S c2 B) (h3 : Rd w l S d L) (hok : tabOk S A B = true) (e1 : n1 = S * S) (hS : S ≤ 8) {rs : Int} {rA rB : List Int} {rb : Bool} (hr : permV S A B L = ⟨rs, rA, rB, rb⟩) :
    Calls Try.prog 43 #[.agg #[.int .i64 S, .slice a1 n1 c1, .slice a2 S c2], .slice l S d] w fun e w' => ∃ p n c q m d, e = .returned (.tuple #[.agg #[.int .i64 rs, .slice p n c, .slice q m d], .bool rb]) ∧ NewT w w' rA rB p n c q m d := by
  have HN := hid hok
  have H1 := hid h1
  have H2 := hid h2
  have H3 := hid h3
  have E1 := hid e1
  have HR := hid hr
  have hlz := h3.cap
  have hlz2 := h3.max
  clear h1 h2 h3 hok e1 hr
  have S0 := hid ((St.first w #[.int .i64 S, .slice a1 n1 c1, .slice a2 S c2] 27).alloc (.cells #[.int .i64 0, .slice none 0 0, .slice none 0 0] 27))
  have mk := run_mkb S (S : Int) rfl (by omega)
  go_enter Try.func43, Try.ntmps43
  go_wp2_with fail
  refine (impl_TableauOk _ _ _ _ A _ _ _ B _ ((H1.out.alloc _).alloc _) ((H2.out.alloc _).alloc _)).mono ?_
  rw [HN.out]
  rintro e w1 ⟨rfl, hB⟩
  have y1 := hB.size
  simp only [World.size_alloc] at y1
  have S1 := hid (S0.out.step hB)
  have R2 := hid (bk_below (heap_alloc_at (w.alloc (.cells #[.int .i64 S, .slice a1 n1 c1, .slice a2 S c2] 27)) #[.int .i64 0, .slice none 0 0, .slice none 0 0] 27 (w.heap.size + 1) (by simp)) hB)
  obtain ⟨⟨q0, q1, q2⟩, _⟩ := blk3 S1.out.box
  clear hB S0
  go_wp2_with fail
  clear q0 q1 q2 mk
  go_loopw [8, 25] (fun _ i wr => ∃ k : Nat, i = .int .i64 k ∧ k ≤ S ∧ Hid (Met wr w1.heap.size (metL S (L.take k))) ∧ Hid (Below w1.heap.size w1 wr) ∧ Hid (permGo S (L.take k) (L.drop k) = permGo S [] L)) (fun _ i _ => S - (intOf i).toNat)
  case atStart => exact ⟨0, rfl, Nat.zero_le _, hid (by rw [List.take_zero, ← metL_nil]; exact heap_alloc_at _ _ _ _ rfl), hid (below_box _ _), hid rfl⟩
  case round =>
    obtain ⟨k, rfl, hk, hM, hB, hP⟩ := hrel
    obtain ⟨wo, rfl⟩ : ∃ wo : World, wo = wr := ⟨_, rfl⟩
    have hz := bk_lt hM.out
    obtain ⟨⟨q0, q1, q2⟩, _⟩ := blk3 ((hB.out.block _ (by omega)).trans S1.out.box)
    have hbx := (hB.out.block _ (show w.heap.size + 1 < w1.heap.size by omega)).trans R2.out
    have HBX := hid hbx
    obtain ⟨⟨r0, r1, r2⟩, f0, f1, f2⟩ := blk3 hbx
    have L3 := hid (S1.out.below.trans (hB.out.mono (by omega)))
    clear hbx
    by_cases hlt : k < S
    · have hki : (k : Int) < (S : Int) := by omega
      obtain ⟨lb, lo, x, rfl, hcx, x1, x2, hx⟩ := (H3.out.below L3.out).at hlt
      have hst := permGo_step (S := S) H3.out.len hlt hx.out
      have bad : permGo S (L.take k) (L.drop k) = false → rs = 0 ∧ rA = [] ∧ rB = [] ∧ rb = false := fun h => by
        have h1 := permV_bad (s := S) (A := A) (B := B) (L := L) (by rw [← hP.out]; exact h)
        rw [HR.out] at h1
        cases h1
        exact ⟨rfl, rfl, rfl, rfl⟩
      by_cases hx0 : x < 0
      · obtain ⟨rfl, rfl, rfl, rfl⟩ := bad (by rw [hst]; simp; omega)
        clear bad hst
        go_wp2_with fail
        obtain ⟨e1, e2⟩ := none_end L3.out (Nat.le_succ _) HBX.out (.int .i64 0) (.slice none 0 0) (.slice none 0 0)
        exact ret_tabb rfl rfl rfl e1 rfl ⟨_, _, _, _, _, _, rfl, e2⟩
      · obtain ⟨xi, rfl⟩ := Int.eq_ofNat_of_zero_le (show 0 ≤ x by omega)
        by_cases hxS : (S : Int) ≤ (xi : Int)
        · obtain ⟨rfl, rfl, rfl, rfl⟩ := bad (by rw [hst]; simp; omega)
          clear bad hst
          go_wp2_with fail
          obtain ⟨e1, e2⟩ := none_end L3.out (Nat.le_succ _) HBX.out (.int .i64 0) (.slice none 0 0) (.slice none 0 0)
          exact ret_tabb rfl rfl rfl e1 rfl ⟨_, _, _, _, _, _, rfl, e2⟩
        · have hxi : xi < S := by omega
          have hxii : (xi : Int) < (S : Int) := by omega
          obtain ⟨hcm, hfm⟩ := hM.out.at (i := xi) (by rw [metL_length]; exact hxi)
          rw [metL_at hxi] at hcm
          obtain ⟨v, hv⟩ : ∃ v, v = decide ((xi : Int) ∈ L.take k) := ⟨_, rfl⟩
          rw [← hv] at hcm
          cases v with
          | true =>
            obtain ⟨rfl, rfl, rfl, rfl⟩ := bad (by rw [hst, ← hv]; simp)
            clear bad hst hv
            go_wp2_with fail
            obtain ⟨e1, e2⟩ := none_end L3.out (Nat.le_succ _) HBX.out (.int .i64 0) (.slice none 0 0) (.slice none 0 0)
            exact ret_tabb rfl rfl rfl e1 rfl ⟨_, _, _, _, _, _, rfl, e2⟩
          | false =>
            have hP2 := hid (show permGo S (L.take (k + 1)) (L.drop (k + 1)) = permGo S [] L by rw [← hP.out, hst, ← hv]; simp [hxi])
            have hM2 := hid (show Met (wo.setCell ⟨w1.heap.size, xi, none⟩ (.bool true)) w1.heap.size (metL S (L.take (k + 1))) by
              have h := hM.out.set xi
              rw [metL_set] at h
              rw [take_snoc 0 L k (by rw [H3.out.len]; exact hlt), ← hx.out]
              exact h)
            have hB2 := hid (hB.out.setCell (p := ⟨w1.heap.size, xi, none⟩) (Nat.le_refl _) (.bool true))
            clear bad hst hv
            go_wp2_with fail
            go_roundw
            case rel => exact ⟨k + 1, by go_num, by omega, hM2, hB2, hP2⟩
            case measure => simp [intOf]; omega
    · obtain rfl : S = k := by omega
      have hall : permGo S [] L = true := by
        rw [← hP.out, show L.drop S = [] from List.drop_of_length_le (Nat.le_of_eq H3.out.len)]
        rfl
      have hyes := permV_yes HN.out H3.out.len hall
      rw [HR.out] at hyes
      cases hyes
      have HL := hid (permGo_all L [] hall)
      clear hall
      go_wp2_with fail
      refine (impl_chosen S a1 n1 c1 A a2 c2 B l S d L _ (H1.out.below L3.out) (H2.out.below L3.out) (H3.out.below L3.out) E1.out hS hS HL.out).mono ?_
      rintro e w3 ⟨p, n, c, q, m', d', rfl, hN⟩
      have R3 := hid (bk_below HBX.out hN.2.2.2)
      obtain ⟨⟨t0, t1, t2⟩, g0, g1, g2⟩ := blk3 R3.out
      have HNT := hid hN
      clear hN r0 r1 r2 f0 f1 f2
      go_wp2_with fail
      refine ret_tabb rfl rfl rfl (heap_setCell_same _ _ _ _ _ _ (heap_setCell_same _ _ _ _ _ _ (heap_setCell_same _ _ _ _ _ _ R3.out))) rfl ⟨_, _, _, _, _, _, rfl, ?_⟩
      exact newT_stores HNT.out L3.out (Nat.le_succ _) (by omega) _ _ _
end Go.Proofs.Ytekojohhjnklkaa
