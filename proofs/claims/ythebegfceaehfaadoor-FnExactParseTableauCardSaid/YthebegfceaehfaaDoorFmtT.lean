/- FormatTableau: the contracts. -/
import Derived.Test.YthebegfceaehfaaDoorFmtS
import Derived.Test.YthebegfceaehfaaDoorRow
import Derived.Test.YthebegfceaehfaaDoorOb
namespace Go.Proofs.YthebegfceaehfaaDoor
open Go.RowKit

def rowT (A : List Int) (S i : Nat) : List UInt8 := fmtNs (rowL A S i) ++ [32, 124, 32]
def rowsT (A : List Int) (S k : Nat) : List UInt8 := (List.range k).flatMap (rowT A S)
theorem rowsT_succ (A : List Int) (S k : Nat) : rowsT A S (k + 1) = rowsT A S k ++ rowT A S k := by simp [rowsT, List.range_succ]
def fmtTab (s : Int) (A B : List Int) : ByteArray := if tabOk s A B then (if s = 0 then bs [110, 111, 110, 101] else bs (rowsT A s.toNat s.toNat ++ fmtNs B)) else bs []
theorem fmtTab_no {s : Int} {A B : List Int} (h : tabOk s A B = false) : fmtTab s A B = bs [] := by unfold fmtTab; rw [h]; rfl
theorem fmtTab_zero {A B : List Int} (h : tabOk (0 : Nat) A B = true) : fmtTab (0 : Nat) A B = bs [110, 111, 110, 101] := by unfold fmtTab; rw [h]; rfl
theorem fmtTab_yes {S : Nat} {A B : List Int} (h : tabOk S A B = true) (h0 : S ≠ 0) : fmtTab S A B = bs (rowsT A S S ++ fmtNs B) := by
  unfold fmtTab; rw [h, if_pos rfl, if_neg (by omega), Int.toNat_natCast]
theorem rowT_len {A : List Int} {S i : Nat} (hS : S ≤ 8) : (rowT A S i).length ≤ 107 := by
  have h := fmtNs_len (rowL A S i)
  have h2 : (rowL A S i).length ≤ 8 := by unfold rowL; rw [List.length_take]; omega
  unfold rowT
  rw [List.length_append]
  show _ + 3 ≤ _
  omega
theorem rowsT_len {A : List Int} {S : Nat} (hS : S ≤ 8) : ∀ k, (rowsT A S k).length ≤ 107 * k
  | 0 => by simp [rowsT]
  | k + 1 => by
    rw [rowsT_succ, List.length_append]
    have := rowsT_len (A := A) hS k
    have := rowT_len (A := A) (i := k) hS
    omega

set_option maxRecDepth 20000 in
set_option maxHeartbeats 2000000 in
theorem spec_FormatTableau (s : Int) (a1 : Option Addr) (n1 c1 : Nat) (A : List Int) (a2 : Option Addr) (n2 c2 : Nat) (B : List Int) (w : World) (h1 : Rd w a1 n1 c1 A) (h2 : Rd w a2 n2 c2 B) :
    Calls Tryd.prog 14 #[.agg #[.int .i64 s, .slice a1 n1 c1, .slice a2 n2 c2]] w fun e w' => e = .returned (.string (fmtTab s A B)) ∧ Below w.heap.size w w' := by
  have H1 := hid h1
  have H2 := hid h2
  have S0 := hid (St.first w #[.int .i64 s, .slice a1 n1 c1, .slice a2 n2 c2] 24)
  cases hok : tabOk s A B with
  | false =>
    have HN := hid hok
    clear hok h1 h2
    go_enter Tryd.func14, Tryd.ntmps14
    go_wp2_with fail
    refine (spec_TableauOk _ _ _ _ A _ _ _ B _ (H1.out.below S0.out.below) (H2.out.below S0.out.below)).mono ?_
    rw [HN.out]
    rintro e w1 ⟨rfl, hB⟩
    have S1 := hid (S0.out.step hB)
    clear hB
    go_wp2_with fail
    go_ret
    exact ⟨ret_s (by rw [fmtTab_no HN.out]; rfl), S1.out.below⟩
  | true =>
    obtain ⟨S, rfl, hS, e1, rfl, _⟩ := tabOk_parts hok h1.len h2.len
    have HN := hid hok
    have E1 := hid e1
    clear hok h1 h2 e1
    by_cases h0 : n2 = 0
    · subst h0
      have HZ := hid (fmtTab_zero HN.out)
      go_enter Tryd.func14, Tryd.ntmps14
      go_wp2_with fail
      refine (spec_TableauOk _ _ _ _ A _ _ _ B _ (H1.out.below S0.out.below) (H2.out.below S0.out.below)).mono ?_
      rw [show tabOk 0 A B = true from HN.out]
      rintro e w1 ⟨rfl, hB⟩
      have S1 := hid (S0.out.step hB)
      obtain ⟨⟨q0, q1, q2⟩, _⟩ := blk3 S1.out.box
      clear hB
      go_wp2_with fail
      go_ret
      exact ⟨ret_s (by rw [HZ.out]; rfl), S1.out.below⟩
    · have hz : ((n2 : Int) == 0) = false := by simp; omega
      have HY := hid (fmtTab_yes HN.out h0)
      go_enter Tryd.func14, Tryd.ntmps14
      go_wp2_with fail
      refine (spec_TableauOk _ _ _ _ A _ _ _ B _ (H1.out.below S0.out.below) (H2.out.below S0.out.below)).mono ?_
      rw [HN.out]
      rintro e w1 ⟨rfl, hB⟩
      have S1 := hid (S0.out.step hB)
      obtain ⟨⟨q0, q1, q2⟩, _⟩ := blk3 S1.out.box
      clear hB
      go_wp2_with fail
      clear q0 q1 q2
      go_loopw [3, 4] (fun s i wr => ∃ (k : Nat), i = .int .i64 k ∧ k ≤ n2 ∧ s = .string (bs (rowsT A n2 k)) ∧ Hid (Below w1.heap.size w1 wr)) (fun _ i _ => n2 - (intOf i).toNat)
      case atStart => exact ⟨0, rfl, Nat.zero_le _, rfl, hid (Below.refl _ _)⟩
      case round =>
        obtain ⟨k, rfl, hk, rfl, hB⟩ := hrel
        have S2 := hid (S1.out.step hB.out)
        obtain ⟨⟨q0, q1, q2⟩, _⟩ := blk3 S2.out.box
        obtain ⟨q, hq⟩ : ∃ q, bs (rowsT A n2 k) = q := ⟨_, rfl⟩
        have lq : q.size ≤ 900 := by
          rw [← hq, bs_size]
          have := rowsT_len (A := A) hS k
          omega
        rw [hq]
        have HQ := hid hq
        clear hq
        by_cases hlt : k < n2
        · have hki : (k : Int) < (n2 : Int) := by omega
          obtain ⟨b, o, y, rfl, _, _, _, _⟩ := (H1.out.below (l_below S1.out.below hB.out)).at (k := 0) (by rw [E1.out]; exact Nat.mul_pos (by omega) (by omega))
          obtain ⟨tx, htx⟩ : ∃ tx, bs (fmtNs (rowL A n2 k)) = tx := ⟨_, rfl⟩
          have ltx : tx.size ≤ 104 := by
            rw [← htx, bs_size]
            have h := fmtNs_len (rowL A n2 k)
            have h2 : (rowL A n2 k).length ≤ 8 := by unfold rowL; rw [List.length_take]; omega
            omega
          have HTX := hid htx
          clear htx
          go_wp2_with fail
          refine (spec_row n2 k b o n1 c1 _ _ E1.out H1.out.cap H1.out.max hlt hS).mono ?_
          rintro e w2 ⟨rfl, hb⟩
          have S3 := hid (S2.out.step hb)
          have HB3 := hid (hB.out.trans (hb.mono hB.out.size))
          clear hb
          go_wp2_with fail
          refine (spec_FormatNumbers _ n2 _ (rowL A n2 k) _ ((H1.out.below S3.out.below).row E1.out hlt) (by omega)).mono ?_
          rw [HTX.out]
          rintro e w3 ⟨rfl, hb⟩
          have HB4 := hid (HB3.out.trans (hb.mono HB3.out.size))
          have sz : (q ++ tx).size ≤ 1010 := by rw [ByteArray.size_append]; omega
          have a1 := sadd w3 q tx (by omega) (by omega)
          have a2 := sadd w3 (q ++ tx) ⟨#[32, 124, 32]⟩ (by omega) (by decide)
          clear hb
          go_wp2_with fail
          go_roundw
          case rel => exact ⟨k + 1, by go_num, by omega, congrArg Value.string (by rw [← HQ.out, ← HTX.out, rowsT_succ, show (⟨#[32, 124, 32]⟩ : ByteArray) = bs [32, 124, 32] from rfl, bs_append, bs_append]; unfold rowT; rw [List.append_assoc]), HB4⟩
          case measure => simp [intOf]; omega
        · obtain rfl : k = n2 := by omega
          obtain ⟨tx, htx⟩ : ∃ tx, bs (fmtNs B) = tx := ⟨_, rfl⟩
          have ltx : tx.size ≤ 104 := by
            rw [← htx, bs_size]
            have h := fmtNs_len B
            rw [H2.out.len] at h
            omega
          have HTX := hid htx
          clear htx
          go_wp2_with fail
          refine (spec_FormatNumbers _ k _ B _ (H2.out.below S2.out.below) (by omega)).mono ?_
          rw [HTX.out]
          rintro e w3 ⟨rfl, hb⟩
          have S4 := hid (S2.out.step hb)
          have a1 := sadd w3 q tx (by omega) (by omega)
          clear hb
          go_wp2_with fail
          go_ret
          exact ⟨ret_s (by rw [HY.out, ← HQ.out, ← HTX.out, bs_append]), S4.out.below⟩
end Go.Proofs.YthebegfceaehfaaDoor
