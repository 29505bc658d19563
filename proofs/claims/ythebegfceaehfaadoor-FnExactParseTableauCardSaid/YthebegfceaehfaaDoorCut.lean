/- l1Cut: a text cut at each place where a sign stands. -/
import Derived.Test.YthebegfceaehfaaDoorPar
import Derived.Test.YthebegfceaehfaaDoorFmtS
namespace Go.Proofs.YthebegfceaehfaaDoor
open Go.RowKit

theorem ext_bs (s : ByteArray) (f k : Nat) : s.extract f k = bs ((s.data.toList.take k).drop f) := by
  rw [← bs_list (s.extract f k)]
  congr 1
  rw [Lib.extract_data, List.drop_take]
/-- What was cut off the first k signs: the pieces D, and the piece from f on. -/
def CutTo (s : ByteArray) (c : UInt8) (k f : Nat) (D : List (List UInt8)) : Prop := sp1 c (s.data.toList.take k) = D ++ [(s.data.toList.take k).drop f]
theorem CutTo.zero (s : ByteArray) (c : UInt8) : CutTo s c 0 0 [] := rfl
theorem CutTo.hit {s : ByteArray} {c : UInt8} {k f : Nat} {D : List (List UInt8)} (h : CutTo s c k f D) (hk : k < s.size) (hc : s[k] = c) : CutTo s c (k + 1) (k + 1) (D ++ [(s.data.toList.take k).drop f]) := by
  unfold CutTo
  rw [bytes_snoc s k hk, sp1_end c s[k] _ D _ h, if_pos hc]
  have hl : (s.data.toList.take k).length = k := by rw [List.length_take, bytes_len]; omega
  rw [show (s.data.toList.take k ++ [s[k]]).drop (k + 1) = [] from List.drop_eq_nil_of_le (by rw [List.length_append, hl]; exact Nat.le_refl _), List.append_assoc]
  rfl
theorem CutTo.miss {s : ByteArray} {c : UInt8} {k f : Nat} {D : List (List UInt8)} (h : CutTo s c k f D) (hk : k < s.size) (hf : f ≤ k) (hc : s[k] ≠ c) : CutTo s c (k + 1) f D := by
  unfold CutTo
  rw [bytes_snoc s k hk, sp1_end c s[k] _ D _ h, if_neg hc]
  have hl : (s.data.toList.take k).length = k := by rw [List.length_take, bytes_len]; omega
  rw [List.drop_append_of_le_length (by omega)]
theorem CutTo.all {s : ByteArray} {c : UInt8} {f : Nat} {D : List (List UInt8)} (h : CutTo s c s.size f D) : sp1 c s.data.toList = D ++ [(s.data.toList.take s.size).drop f] := by
  unfold CutTo at h
  rw [← bytes_len, List.take_length] at h ⊢
  exact h
set_option maxHeartbeats 1000000 in
theorem spec_l1Cut (s : ByteArray) (c : UInt8) (cz : Int) (w : World) (hs : s.size ≤ 1048576) (hz : cz = (c.toNat : Int)) :
    Calls Tryd.prog 12 #[.string s, .int .u8 cz] w fun e w' => ∃ v n, e = .returned v ∧ n ≤ s.size + 1 ∧ Sw w' w.heap.size v n (sp1 c s.data.toList) ∧ Below w.heap.size w w' := by
  have HZ := hid hz
  clear hz
  go_enter Tryd.func12, Tryd.ntmps12
  go_wp2_with fail
  go_loopw [5, 6, 7] (fun v fr i wr => ∃ (k f n : Nat) (D : List (List UInt8)), i = .int .i64 k ∧ fr = .int .i64 f ∧ k ≤ s.size ∧ f ≤ k ∧ n ≤ k ∧ Hid (CutTo s c k f D) ∧ Hid (Sw wr w.heap.size v n D) ∧ Hid (Below w.heap.size w wr)) (fun _ _ i _ => s.size - (intOf i).toNat)
  case atStart => exact ⟨0, 0, 0, [], rfl, rfl, Nat.zero_le _, Nat.zero_le _, Nat.zero_le _, hid (CutTo.zero s c), hid (Sw.empty _ _ (Nat.le_refl _)), hid (below_box _ _)⟩
  case round =>
    obtain ⟨k, f, n, D, rfl, rfl, hk, hf, hn, hC, hS, hB⟩ := hrel
    have sz := hB.out.size
    by_cases hlt : k < s.size
    · have hki : (k : Int) < (s.size : Int) := by omega
      have hfi : (f : Int) ≤ (k : Int) := by omega
      have hcb : s[k].toNat < 256 := UInt8.toNat_lt _
      by_cases hc : s[k] = c
      · have q : ((s[k].toNat : Int) == cz) = true := by rw [beq_iff_eq, HZ.out, hc]
        have HN := hid (hC.out.hit hlt hc)
        have HE := hid (ext_bs s f k)
        clear hc
        go_wp2_with (at_builtin; refine wpList_append_txt _ rfl _ _ rfl w.heap.size _ n _ rfl (hS.out.alloc _) wr.heap.size ((s.data.toList.take k).drop f) rfl (by rw [← HE.out]; exact cell_one _ _ _) (by omega) (by simp; omega) ?_; intro v' w4 hS4 hG4)
        have HS4 := hid hS4
        have HB4 := hid ((hB.out.alloc sz (.cells #[.string (s.extract f k)] 9)).grown hG4 (by simp; omega) (fun j hj => (hS.out.lt j hj).1))
        clear hS4 hG4
        go_wp2_with fail
        go_roundw
        case rel => exact ⟨k + 1, k + 1, n + 1, _, by go_num, by go_num, by omega, Nat.le_refl _, by omega, HN, HS4, HB4⟩
        case measure => simp [intOf]; omega
      · have q : ((s[k].toNat : Int) == cz) = false := by
          rw [beq_eq_false_iff_ne, HZ.out]
          intro e
          exact hc (UInt8.toNat_inj.1 (by omega))
        have HN := hid (hC.out.miss hlt hf hc)
        clear hc
        go_wp2_with fail
        go_roundw
        case rel => exact ⟨k + 1, f, n, D, by go_num, rfl, by omega, by omega, by omega, HN, hS, hB⟩
        case measure => simp [intOf]; omega
    · obtain rfl : k = s.size := by omega
      have HE := hid (ext_bs s f s.size)
      have HA := hid hC.out.all
      have hfi : (f : Int) ≤ (s.size : Int) := by omega
      go_wp2_with (at_builtin; refine wpList_append_txt _ rfl _ _ rfl w.heap.size _ n _ rfl (hS.out.alloc _) wr.heap.size ((s.data.toList.take s.size).drop f) rfl (by rw [← HE.out]; exact cell_one _ _ _) (by omega) (by simp; omega) ?_; intro v' w4 hS4 hG4)
      have HS4 := hid hS4
      have HB4 := hid ((hB.out.alloc sz (.cells #[.string (s.extract f s.size)] 9)).grown hG4 (by simp; omega) (fun j hj => (hS.out.lt j hj).1))
      clear hS4 hG4
      go_wp2_with fail
      go_ret
      exact ⟨_, n + 1, rfl, by omega, by rw [HA.out]; exact HS4.out, HB4.out⟩
end Go.Proofs.YthebegfceaehfaaDoor
