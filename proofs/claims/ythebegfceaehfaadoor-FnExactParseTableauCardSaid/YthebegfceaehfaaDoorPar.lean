/- Numbers read from texts: the walks of readDecimal, l1Digits. -/
import Derived.Test.YthebegfceaehfaaDoorParL
import Derived.Test.YthebegfceaehfaaDoorFmtV
namespace Go.Proofs.YthebegfceaehfaaDoor
open Go.RowKit

theorem byte_at (s : ByteArray) (k : Nat) (h : k < s.size) : s.data.toList.getD k 0 = s[k] := by
  have h' : k < s.data.toList.length := by rw [Array.length_toList]; exact h
  rw [List.getD_eq_getElem?_getD, List.getElem?_eq_getElem h']
  rfl
theorem bytes_snoc (s : ByteArray) (k : Nat) (h : k < s.size) : s.data.toList.take (k + 1) = s.data.toList.take k ++ [s[k]] := by
  have h' : k < s.data.toList.length := by rw [Array.length_toList]; exact h
  rw [take_snoc 0 _ k h', byte_at s k h]
theorem bytes_len (s : ByteArray) : s.data.toList.length = s.size := Array.length_toList
/-- k digits were read, their value m. -/
def RdTo (s : ByteArray) (k m : Nat) : Prop := dval 0 (s.data.toList.take k) = some m
theorem RdTo.lt {s : ByteArray} {k m : Nat} (h : RdTo s k m) (hk : k ≤ 10) : m < 10000000000 := by
  have h1 := dval_lt _ 0 m h
  have h2 : (s.data.toList.take k).length ≤ 10 := by rw [List.length_take]; omega
  have h3 : 10 ^ (s.data.toList.take k).length ≤ 10 ^ 10 := Nat.pow_le_pow_right (by omega) h2
  omega
theorem RdTo.next {s : ByteArray} {k m : Nat} (h : RdTo s k m) (hk : k < s.size) (h1 : 48 ≤ s[k].toNat) (h2 : s[k].toNat ≤ 57) : RdTo s (k + 1) (10 * m + (s[k].toNat - 48)) := by
  unfold RdTo
  rw [bytes_snoc s k hk, dval_snoc, h]
  simp only [Option.bind_some]
  rw [if_pos (show isD s[k] = true from decide_eq_true ⟨h1, h2⟩)]
theorem RdTo.stop {s : ByteArray} {k : Nat} (hk : k < s.size) (h : ¬ (48 ≤ s[k].toNat ∧ s[k].toNat ≤ 57)) : dval 0 s.data.toList = none :=
  dval_stop (k := k) (by rw [bytes_len]; exact hk) (by rw [byte_at s k hk]; exact decide_eq_false h)
theorem RdTo.all {s : ByteArray} {m : Nat} (h : RdTo s s.size m) : dval 0 s.data.toList = some m := by
  unfold RdTo at h
  rw [← bytes_len, List.take_length] at h
  exact h
theorem rdI_go {s : ByteArray} (h0 : s.size ≠ 0) (h1 : s.size ≤ 10) (h2 : ¬ (s.size > 1 ∧ s.data.toList.getD 0 0 = 48)) : rdI s.data.toList = optI (dval 0 s.data.toList) := by
  unfold rdI
  rw [bytes_len, if_neg (by rintro (h | h | h) <;> first | omega | exact h2 h)]
theorem rdS_go {s : ByteArray} (h0 : s.size ≠ 0) (h1 : s.size ≤ 10) : rdS s.data.toList = optI (dval 0 s.data.toList) := by
  unfold rdS
  rw [bytes_len, if_neg (by omega)]
-- WALKS
set_option maxHeartbeats 1000000 in
theorem impl_readDecimal_go (s : ByteArray) (w : World) (h0 : s.size ≠ 0) (h1 : s.size ≤ 10) (h2 : ¬ (s.size > 1 ∧ s.data.toList.getD 0 0 = 48)) :
    Calls Tryd.prog 65 #[.string s] w fun e w' => e = .returned (.int .i64 (rdI s.data.toList)) ∧ w = w' := by
  have HG := hid (rdI_go h0 h1 h2)
  have q0 : ((s.size : Int) == 0) = false := by rw [beq_eq_false_iff_ne]; omega
  have q1 : (s.size : Int) ≤ 10 := by omega
  have hp : 0 < s.size := by omega
  have q4 : ((s[0].toNat : Int) == 48) = false ∨ ¬ (1 : Int) < (s.size : Int) := by
    by_cases h3 : 1 < s.size
    · left
      rw [beq_eq_false_iff_ne]
      intro e
      refine h2 ⟨h3, ?_⟩
      rw [byte_at s 0 hp]
      have h : s[0].toNat = 48 := by omega
      exact UInt8.toNat_inj.1 (show s[0].toNat = (48 : UInt8).toNat from h)
    · right; omega
  clear h2
  go_enter Tryd.func65, Tryd.ntmps65
  rcases q4 with q4 | q4
  all_goals go_wp2_with fail
  all_goals
    go_loop [3, 25] (fun n i => ∃ k m : Nat, i = .int .i64 k ∧ n = .int .i64 m ∧ k ≤ s.size ∧ Hid (RdTo s k m)) (fun _ i => s.size - (intOf i).toNat)
    case atStart => exact ⟨0, 0, rfl, rfl, Nat.zero_le _, hid rfl⟩
    case round =>
      obtain ⟨k, m, rfl, rfl, hk, hR⟩ := hrel
      have hmb := hR.out.lt (by omega)
      by_cases hlt : k < s.size
      · have hki : (k : Int) < (s.size : Int) := by omega
        have hcb : s[k].toNat < 256 := UInt8.toNat_lt _
        by_cases hd : 48 ≤ s[k].toNat ∧ s[k].toNat ≤ 57
        · have d1 : ¬ (s[k].toNat : Int) < 48 := by omega
          have d2 : ¬ (57 : Int) < (s[k].toNat : Int) := by omega
          have HN := hid (hR.out.next hlt hd.1 hd.2)
          have hsub : ((s[k].toNat : Int) - 48) = ((s[k].toNat - 48 : Nat) : Int) := by omega
          have hd1 := hd.1
          have hd2 := hd.2
          clear hd
          go_wp2_with fail
          go_round
          case rel => exact ⟨k + 1, _, by go_num, by go_num, by omega, HN⟩
          case measure => simp [intOf]; omega
        · have HS := hid (RdTo.stop hlt hd)
          by_cases d1 : s[k].toNat < 48
          · have d1i : (s[k].toNat : Int) < 48 := by omega
            clear hd
            go_wp2_with fail
            go_ret
            exact ⟨ret_i (by rw [HG.out, HS.out]; rfl), rfl⟩
          · have d1i : ¬ (s[k].toNat : Int) < 48 := by omega
            have d2i : (57 : Int) < (s[k].toNat : Int) := by omega
            clear hd d1
            go_wp2_with fail
            go_ret
            exact ⟨ret_i (by rw [HG.out, HS.out]; rfl), rfl⟩
      · obtain rfl : k = s.size := by omega
        go_wp2_with fail
        go_ret
        exact ⟨ret_i (by rw [HG.out, hR.out.all]; rfl), rfl⟩
theorem rdI_no0 {s : ByteArray} (h : s.size = 0) : rdI s.data.toList = -1 := by unfold rdI; rw [bytes_len, if_pos (.inl h)]
theorem rdI_no1 {s : ByteArray} (h : ¬ s.size ≤ 10) : rdI s.data.toList = -1 := by unfold rdI; rw [bytes_len, if_pos (.inr (.inl (by omega)))]
theorem rdI_no2 {s : ByteArray} (h : s.size > 1 ∧ s.data.toList.getD 0 0 = 48) : rdI s.data.toList = -1 := by unfold rdI; rw [bytes_len, if_pos (.inr (.inr h))]
theorem rdS_no0 {s : ByteArray} (h : s.size = 0) : rdS s.data.toList = -1 := by unfold rdS; rw [bytes_len, if_pos (.inl h)]
theorem rdS_no1 {s : ByteArray} (h : ¬ s.size ≤ 10) : rdS s.data.toList = -1 := by unfold rdS; rw [bytes_len, if_pos (.inr (by omega))]
theorem impl_readDecimal (s : ByteArray) (w : World) (hs : s.size ≤ 4294967280) :
    Calls Tryd.prog 65 #[.string s] w fun e w' => e = .returned (.int .i64 (rdI s.data.toList)) ∧ w = w' := by
  by_cases h0 : s.size = 0
  · have H := hid (rdI_no0 h0)
    have q0 : ((s.size : Int) == 0) = true := by rw [beq_iff_eq]; omega
    clear h0
    go_enter Tryd.func65, Tryd.ntmps65
    go_wp2_with fail
    go_ret
    exact ⟨ret_i H.out.symm, rfl⟩
  · by_cases h1 : s.size ≤ 10
    · by_cases h2 : s.size > 1 ∧ s.data.toList.getD 0 0 = 48
      · have H := hid (rdI_no2 h2)
        have q0 : ((s.size : Int) == 0) = false := by rw [beq_eq_false_iff_ne]; omega
        have q1 : (s.size : Int) ≤ 10 := by omega
        have hp : 0 < s.size := by omega
        have q3 : (1 : Int) < (s.size : Int) := by omega
        have q4 : ((s[0].toNat : Int) == 48) = true := by
          rw [beq_iff_eq]
          have h := h2.2
          rw [byte_at s 0 hp] at h
          rw [h]; rfl
        clear h2
        go_enter Tryd.func65, Tryd.ntmps65
        go_wp2_with fail
        go_ret
        exact ⟨ret_i H.out.symm, rfl⟩
      · exact impl_readDecimal_go s w h0 h1 h2
    · have H := hid (rdI_no1 h1)
      have q0 : ((s.size : Int) == 0) = false := by rw [beq_eq_false_iff_ne]; omega
      have q1 : ¬ (s.size : Int) ≤ 10 := by omega
      clear h0 h1
      go_enter Tryd.func65, Tryd.ntmps65
      go_wp2_with fail
      go_ret
      exact ⟨ret_i H.out.symm, rfl⟩
set_option maxHeartbeats 1000000 in
theorem spec_l1Digits (s : ByteArray) (w : World) (hs : s.size ≤ 4294967280) :
    Calls Tryd.prog 57 #[.string s] w fun e w' => e = .returned (.int .i64 (rdS s.data.toList)) ∧ w = w' := by
  by_cases h0 : s.size = 0
  · have H := hid (rdS_no0 h0)
    have q0 : ((s.size : Int) == 0) = true := by rw [beq_iff_eq]; omega
    clear h0
    go_enter Tryd.func57, Tryd.ntmps57
    go_wp2_with fail
    go_ret
    exact ⟨ret_i H.out.symm, rfl⟩
  · have q0 : ((s.size : Int) == 0) = false := by rw [beq_eq_false_iff_ne]; omega
    by_cases h1 : s.size ≤ 10
    · have HG := hid (rdS_go h0 h1)
      have q1 : (s.size : Int) ≤ 10 := by omega
      go_enter Tryd.func57, Tryd.ntmps57
      go_wp2_with fail
      go_loop [3, 4] (fun n i => ∃ k m : Nat, i = .int .i64 k ∧ n = .int .i64 m ∧ k ≤ s.size ∧ Hid (RdTo s k m)) (fun _ i => s.size - (intOf i).toNat)
      case atStart => exact ⟨0, 0, rfl, rfl, Nat.zero_le _, hid rfl⟩
      case round =>
        obtain ⟨k, m, rfl, rfl, hk, hR⟩ := hrel
        have hmb := hR.out.lt (by omega)
        by_cases hlt : k < s.size
        · have hki : (k : Int) < (s.size : Int) := by omega
          have hcb : s[k].toNat < 256 := UInt8.toNat_lt _
          by_cases hd : 48 ≤ s[k].toNat ∧ s[k].toNat ≤ 57
          · have d1 : ¬ (s[k].toNat : Int) < 48 := by omega
            have d2 : ¬ (57 : Int) < (s[k].toNat : Int) := by omega
            have HN := hid (hR.out.next hlt hd.1 hd.2)
            have hsub : ((s[k].toNat : Int) - 48) = ((s[k].toNat - 48 : Nat) : Int) := by omega
            have hd1 := hd.1
            have hd2 := hd.2
            clear hd
            go_wp2_with fail
            go_round
            case rel => exact ⟨k + 1, _, by go_num, by go_num, by omega, HN⟩
            case measure => simp [intOf]; omega
          · have HS := hid (RdTo.stop hlt hd)
            by_cases d1 : s[k].toNat < 48
            · have d1i : (s[k].toNat : Int) < 48 := by omega
              clear hd
              go_wp2_with fail
              go_ret
              exact ⟨ret_i (by rw [HG.out, HS.out]; rfl), rfl⟩
            · have d1i : ¬ (s[k].toNat : Int) < 48 := by omega
              have d2i : (57 : Int) < (s[k].toNat : Int) := by omega
              clear hd d1
              go_wp2_with fail
              go_ret
              exact ⟨ret_i (by rw [HG.out, HS.out]; rfl), rfl⟩
        · obtain rfl : k = s.size := by omega
          go_wp2_with fail
          go_ret
          exact ⟨ret_i (by rw [HG.out, hR.out.all]; rfl), rfl⟩
    · have H := hid (rdS_no1 h1)
      have q1 : ¬ (s.size : Int) ≤ 10 := by omega
      clear h0 h1
      go_enter Tryd.func57, Tryd.ntmps57
      go_wp2_with fail
      go_ret
      exact ⟨ret_i H.out.symm, rfl⟩
end Go.Proofs.YthebegfceaehfaaDoor
