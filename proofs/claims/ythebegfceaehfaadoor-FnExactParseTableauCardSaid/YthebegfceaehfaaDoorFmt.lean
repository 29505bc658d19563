/- Numbers as texts: the walks. -/
import Derived.Test.YthebegfceaehfaaDoorFmtL
import Derived.Test.YthebegfceaehfaaDoorLawTab
import Derived.WalkLawsBesides
import Derived.Laws.IdiomStrings
namespace Go.Proofs.YthebegfceaehfaaDoor
open Go.RowKit

theorem ret_s {a b : ByteArray} (h : a = b) : Ending.returned (.string a) = .returned (.string b) := by rw [h]
theorem encode_dgt {n : Nat} (h : n < 10) : Utf8.encode (48 + (n : Int)) = bs [dgt n] := by
  match n, h with
  | 0, _ => rfl
  | 1, _ => rfl
  | 2, _ => rfl
  | 3, _ => rfl
  | 4, _ => rfl
  | 5, _ => rfl
  | 6, _ => rfl
  | 7, _ => rfl
  | 8, _ => rfl
  | 9, _ => rfl
set_option maxRecDepth 20000 in
theorem impl_decimal (k : Nat) : ∀ (n : Nat) (w : World), n < k → n ≤ 1000000271 →
    Calls Tryd.prog 89 #[.int .i64 n] w fun e w' => e = .returned (.string (bs (decN n))) ∧ w = w' := by
  induction k with
  | zero => intro n w h; omega
  | succ k ih =>
    intro n w hk hn
    by_cases h : n < 10
    · have hi : (n : Int) < 10 := by omega
      have E := hid (encode_dgt h)
      have D := hid (decN_lo h)
      go_enter Tryd.func89, Tryd.ntmps89
      go_wp2_with fail
      go_ret
      exact ⟨ret_s (by rw [E.out, D.out]), rfl⟩
    · have hi : ¬ (n : Int) < 10 := by omega
      have E := hid (encode_dgt (show n % 10 < 10 by omega))
      have D := hid (decN_hi h)
      have IH := hid ih
      clear ih
      go_enter Tryd.func89, Tryd.ntmps89
      go_wp2_with fail
      refine (show Calls Tryd.prog 89 #[.int .i64 ((n : Int) / 10)] w fun e w' => e = .returned (.string (bs (decN (n / 10)))) ∧ w = w' from by
        rw [show (n : Int) / 10 = ((n / 10 : Nat) : Int) by omega]
        exact IH.out (n / 10) _ (by omega) (by omega)).mono ?_
      rintro e w' ⟨rfl, rfl⟩
      obtain ⟨q, hq⟩ : ∃ q, q = bs (decN (n / 10)) := ⟨_, rfl⟩
      rw [← hq]
      have HQ := hid hq
      have e1 : Utf8.encode (48 + (n : Int) % 10) = bs [dgt (n % 10)] := by rw [← E.out]; simp
      clear hq hk IH E
      obtain ⟨d, hd⟩ : ∃ d, d = bs [dgt (n % 10)] := ⟨_, rfl⟩
      rw [← hd] at e1
      have HD := hid hd
      have hadd := run_string_add_sum (P := Tryd.prog) w q d (by
        rw [HQ.out, HD.out, bs_size, bs_size]
        have := decN_len 10 (n / 10) (by omega) (by omega)
        simp
        omega)
      clear hd hn
      go_wp2_with fail
      go_ret
      exact ⟨ret_s (by rw [HQ.out, D.out, HD.out, bs_append]), rfl⟩
theorem dgt_nat {d : Nat} (h : d < 10) : (dgt d).toNat = 48 + d := by
  unfold dgt
  rw [UInt8.toNat_ofNat']
  omega
def decT (j : Nat) : List UInt8 := if j = 0 then [] else decN j
theorem decT_step {j : Nat} (h : 0 < j) : decT j = decT (j / 10) ++ [dgt (j % 10)] := by
  unfold decT
  rw [if_neg (by omega)]
  by_cases h1 : j < 10
  · rw [decN_lo h1, if_pos (by omega), Nat.mod_eq_of_lt h1]; rfl
  · rw [decN_hi h1, if_neg (by omega)]
set_option maxRecDepth 20000 in
theorem spec_dec_nat (m : Nat) (w : World) (h1 : m ≤ 1000000271) :
    Calls Tryd.prog 22 #[.int .i64 m] w fun e w' => e = .returned (.string (bs (decN m))) ∧ Below w.heap.size w w' := by
  have hm : -(m : Int) ≤ (m : Int) := by omega
  go_enter Tryd.func22, Tryd.ntmps22
  go_wp2_with fail
  clear hm
  go_loopw [3, 4] (fun s k wr => ∃ (j : Nat) (L : List UInt8), k = .int .i64 j ∧ s = .string (bs L) ∧ j ≤ m ∧ Below w.heap.size w wr ∧ Hid (decT j ++ L = decT m)) (fun _ k _ => (intOf k).toNat)
  case atStart => exact ⟨m, [], rfl, rfl, Nat.le_refl _, Below.refl _ _, hid (List.append_nil _)⟩
  case round =>
    obtain ⟨j, L, rfl, rfl, hj, hB, hH⟩ := hrel
    have HB := hid hB
    clear hB
    by_cases hp : 0 < j
    · have hpi : (0 : Int) < (j : Int) := by omega
      obtain ⟨q, hq⟩ : ∃ q, q = bs L := ⟨_, rfl⟩
      obtain ⟨d, hd⟩ : ∃ d, d = bs [dgt (j % 10)] := ⟨_, rfl⟩
      have hcv : (convert 51 9 (.slice (some ⟨wr.heap.size, 0, none⟩) 1 1)).run Tryd.prog (wr.alloc (.cells #[.int .u8 (48 + (j : Int) % 10)] 5)) = .ok (.string d) (wr.alloc (.cells #[.int .u8 (48 + (j : Int) % 10)] 5)) := by
        rw [hd]
        exact run_convert_bytes_back (P := Tryd.prog) (wr.alloc (.cells #[.int .u8 (48 + (j : Int) % 10)] 5)) 51 9 5 ⟨wr.heap.size, 0, none⟩ 1 [dgt (j % 10)] Tryd.underlying51 Tryd.underlying5 Tryd.underlying9 (fun i hi => by
          obtain rfl : i = 0 := by simpa using hi
          simp [Addr.add, dgt_nat (show j % 10 < 10 by omega)])
      have hadd := run_string_add_sum (P := Tryd.prog) (wr.alloc (.cells #[.int .u8 (48 + (j : Int) % 10)] 5)) d q (by
        have h1' := congrArg List.length hH.out
        have h2' : (decT m).length ≤ 10 := by unfold decT; split; simp; exact decN_len 10 m (by omega) (by omega)
        rw [hq, hd, bs_size, bs_size]
        simp at h1' ⊢
        omega)
      have HQ := hid hq
      have HD := hid hd
      rw [← hq]
      clear hq hd
      go_wp2_with fail
      go_roundw
      case rel =>
        refine ⟨j / 10, dgt (j % 10) :: L, congrArg (Value.int .i64) (by omega), by rw [HQ.out, HD.out, bs_append]; rfl, by omega, HB.out.alloc HB.out.size _, hid ?_⟩
        rw [← hH.out, decT_step hp, List.append_assoc]
        rfl
      case measure => simp [intOf]; omega
    · obtain rfl : j = 0 := by omega
      have HL := hid (show L = decT m from hH.out)
      by_cases h0 : m = 0
      · subst h0
        go_wp2_with fail
        go_ret
        exact ⟨ret_s (by rw [decN_lo (by omega)]; rfl), HB.out⟩
      · have hq0 : ((m : Int) == 0) = false := by simpa using h0
        have hlt : ¬ (m : Int) < 0 := by omega
        go_wp2_with fail
        go_ret
        exact ⟨ret_s (by rw [HL.out]; unfold decT; rw [if_neg h0]), HB.out⟩
set_option maxRecDepth 20000 in
theorem spec_dec_neg (m : Nat) (w : World) (h1 : m ≤ 1000000271) (hpos : 0 < m) :
    Calls Tryd.prog 22 #[.int .i64 (-(m : Int))] w fun e w' => e = .returned (.string (bs (45 :: decN m))) ∧ Below w.heap.size w w' := by
  have hm : -(m : Int) < (m : Int) := by omega
  go_enter Tryd.func22, Tryd.ntmps22
  go_wp2_with fail
  clear hm
  go_loopw [3, 4] (fun s k wr => ∃ (j : Nat) (L : List UInt8), k = .int .i64 j ∧ s = .string (bs L) ∧ j ≤ m ∧ Below w.heap.size w wr ∧ Hid (decT j ++ L = decT m)) (fun _ k _ => (intOf k).toNat)
  case atStart => exact ⟨m, [], rfl, rfl, Nat.le_refl _, Below.refl _ _, hid (List.append_nil _)⟩
  case round =>
    obtain ⟨j, L, rfl, rfl, hj, hB, hH⟩ := hrel
    have HB := hid hB
    clear hB
    by_cases hp : 0 < j
    · have hpi : (0 : Int) < (j : Int) := by omega
      obtain ⟨q, hq⟩ : ∃ q, q = bs L := ⟨_, rfl⟩
      obtain ⟨d, hd⟩ : ∃ d, d = bs [dgt (j % 10)] := ⟨_, rfl⟩
      have hcv : (convert 51 9 (.slice (some ⟨wr.heap.size, 0, none⟩) 1 1)).run Tryd.prog (wr.alloc (.cells #[.int .u8 (48 + (j : Int) % 10)] 5)) = .ok (.string d) (wr.alloc (.cells #[.int .u8 (48 + (j : Int) % 10)] 5)) := by
        rw [hd]
        exact run_convert_bytes_back (P := Tryd.prog) (wr.alloc (.cells #[.int .u8 (48 + (j : Int) % 10)] 5)) 51 9 5 ⟨wr.heap.size, 0, none⟩ 1 [dgt (j % 10)] Tryd.underlying51 Tryd.underlying5 Tryd.underlying9 (fun i hi => by
          obtain rfl : i = 0 := by simpa using hi
          simp [Addr.add, dgt_nat (show j % 10 < 10 by omega)])
      have hadd := run_string_add_sum (P := Tryd.prog) (wr.alloc (.cells #[.int .u8 (48 + (j : Int) % 10)] 5)) d q (by
        have h1' := congrArg List.length hH.out
        have h2' : (decT m).length ≤ 10 := by unfold decT; split; simp; exact decN_len 10 m (by omega) (by omega)
        rw [hq, hd, bs_size, bs_size]
        simp at h1' ⊢
        omega)
      have HQ := hid hq
      have HD := hid hd
      rw [← hq]
      clear hq hd
      go_wp2_with fail
      go_roundw
      case rel =>
        refine ⟨j / 10, dgt (j % 10) :: L, congrArg (Value.int .i64) (by omega), by rw [HQ.out, HD.out, bs_append]; rfl, by omega, HB.out.alloc HB.out.size _, hid ?_⟩
        rw [← hH.out, decT_step hp, List.append_assoc]
        rfl
      case measure => simp [intOf]; omega
    · obtain rfl : j = 0 := by omega
      have HL := hid (show L = decT m from hH.out)
      have hq0 : (-(m : Int) == 0) = false := by simp; omega
      have hq1 : ((m : Int) == 0) = false := by simp; omega
      have hlt : -(m : Int) < 0 := by omega
      have hlt' : 0 < (m : Int) := by omega
      obtain ⟨q, hq⟩ : ∃ q, q = bs L := ⟨_, rfl⟩
      have hadd := run_string_add_sum (P := Tryd.prog) wr ⟨#[45]⟩ q (by
        have h2' : (decT m).length ≤ 10 := by unfold decT; split; simp; exact decN_len 10 m (by omega) (by omega)
        rw [hq, bs_size, HL.out]
        show 1 + _ ≤ _
        omega)
      have HQ := hid hq
      rw [← hq]
      clear hq
      go_wp2_with fail
      go_ret
      exact ⟨ret_s (by rw [HQ.out, HL.out, show decT m = decN m from if_neg (by omega)]; exact bs_append [45] (decN m)), HB.out⟩
theorem spec_l1Decimal (n : Int) (w : World) (h0 : -1000000271 ≤ n) (h1 : n ≤ 1000000271) :
    Calls Tryd.prog 22 #[.int .i64 n] w fun e w' => e = .returned (.string (bs (decI n))) ∧ Below w.heap.size w w' := by
  by_cases hn : n < 0
  · obtain ⟨m, rfl⟩ : ∃ m : Nat, n = -(m : Int) := ⟨n.natAbs, by omega⟩
    have e : decI (-(m : Int)) = 45 :: decN m := by unfold decI; rw [if_pos hn, show (-(m : Int)).natAbs = m by omega]
    rw [e]
    exact spec_dec_neg m w (by omega) (by omega)
  · obtain ⟨m, rfl⟩ := Int.eq_ofNat_of_zero_le (show 0 ≤ n by omega)
    have e : decI (m : Int) = decN m := by unfold decI; rw [if_neg hn, Int.toNat_natCast]
    rw [e]
    exact spec_dec_nat m w (by omega)
end Go.Proofs.YthebegfceaehfaaDoor
