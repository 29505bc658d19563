/- FormatNumber: the walks. -/
import Derived.Test.YthebegfceaehfaaDoorFmt
namespace Go.Proofs.YthebegfceaehfaaDoor
open Go.RowKit

theorem sadd (w : World) (a b : ByteArray) (ha : a.size ≤ 100000) (hb : b.size ≤ 100000) : (Op.stringOp .add a b).run Tryd.prog w = .ok (.string (a ++ b)) w := run_string_add_sum w a b (by omega)
theorem small_lo {n x : Int} {b : Nat} (hx : n * b % M.P = x) (h : x ≤ 9999) : small n b = some x := by unfold small; simp only [hx]; rw [if_pos h]
theorem small_hi {n x : Int} {b : Nat} (hx : n * b % M.P = x) (h : ¬ x ≤ 9999) (h2 : 999990272 ≤ x) : small n b = some (x - M.P) := by
  unfold small; simp only [hx]; rw [if_neg h, if_pos (by have : M.P = 1000000271 := rfl; omega)]
theorem small_no {n x : Int} {b : Nat} (hx : n * b % M.P = x) (h : ¬ x ≤ 9999) (h2 : ¬ 999990272 ≤ x) : small n b = none := by
  unfold small; simp only [hx]; rw [if_neg h, if_neg (by have : M.P = 1000000271 := rfl; omega)]
theorem fmt_hit {n a : Int} {b : Nat} (hb : b ≤ 9999) (h : small n b = some a) : fmtGo n b (10000 - b) = if b = 1 then decI a else decI a ++ 47 :: decN b := by
  rw [show 10000 - b = (9999 - b) + 1 by omega, fmtGo, h]
theorem fmt_miss {n : Int} {b : Nat} (hb : b ≤ 9999) (h : small n b = none) : fmtGo n b (10000 - b) = fmtGo n (b + 1) (10000 - (b + 1)) := by
  rw [show 10000 - b = (9999 - b) + 1 by omega, fmtGo, h, show 10000 - (b + 1) = 9999 - b by omega]
theorem next_part {n x0 : Int} {b : Nat} (h0 : x0 = n * (b - 1 : Int) % M.P) : (x0 + n) % 1000000271 = n * (b : Int) % M.P := by
  rw [h0]
  show (_ % M.P + n) % M.P = _
  rw [M.add_l]
  congr 1
  rw [Int.mul_sub, Int.mul_one]
  omega
theorem decI_pos {m : Nat} : decI (m : Int) = decN m := by unfold decI; rw [if_neg (by omega), Int.toNat_natCast]
theorem decI_neg {m : Nat} (h : 0 < m) : decI (-(m : Int)) = 45 :: decN m := by unfold decI; rw [if_pos (by omega), show (-(m : Int)).natAbs = m by omega]
theorem decN_len5 {m : Nat} (h : m ≤ 9999) : (decN m).length ≤ 4 := decN_len 4 m (by omega) (by omega)
theorem bs0 : (⟨#[]⟩ : ByteArray) = bs [] := rfl
theorem bs1 (c : UInt8) : (⟨#[c]⟩ : ByteArray) = bs [c] := rfl

theorem impl_decimalI (x : Int) (w : World) (h0 : 0 ≤ x) (h1 : x ≤ 1000000271) :
    Calls Tryd.prog 89 #[.int .i64 x] w fun e w' => e = .returned (.string (bs (decI x))) ∧ w = w' := by
  obtain ⟨m, rfl⟩ := Int.eq_ofNat_of_zero_le h0
  rw [decI_pos]
  exact impl_decimal (m + 1) m w (by omega) (by omega)
theorem decI_len5 {x : Int} (h0 : 0 ≤ x) (h1 : x ≤ 9999) : (decI x).length ≤ 4 := by
  obtain ⟨m, rfl⟩ := Int.eq_ofNat_of_zero_le h0
  rw [decI_pos]
  exact decN_len5 (by omega)
set_option maxRecDepth 20000 in
set_option maxHeartbeats 2000000 in
theorem impl_FormatNumber (n : Int) (w : World) :
    Calls Tryd.prog 69 #[.int .i64 n] w fun e w' => e = .returned (.string (bs (fmtN n))) ∧ w = w' := by
  cases hnum : M.isNum n with
  | false =>
    have HN := hid hnum
    clear hnum
    go_enter Tryd.func69, Tryd.ntmps69
    go_wp2_with fail
    refine (impl_IsNumber _ _).mono ?_
    rw [HN.out]
    rintro e w' ⟨rfl, rfl⟩
    go_wp2_with fail
    go_ret
    exact ⟨ret_s (by unfold fmtN; rw [HN.out]; rfl), rfl⟩
  | true =>
    obtain ⟨n0, n1⟩ : 0 ≤ n ∧ n < 1000000271 := M.num_of_isNum hnum
    have HN := hid hnum
    have HF := hid (show fmtGo n 1 (10000 - 1) = fmtN n by unfold fmtN; rw [hnum]; rfl)
    clear hnum
    go_enter Tryd.func69, Tryd.ntmps69
    go_wp2_with fail
    refine (impl_IsNumber _ _).mono ?_
    rw [HN.out]
    rintro e w' ⟨rfl, rfl⟩
    go_wp2_with fail
    go_loop [3, 4, 5, 6] (fun a b s m => ∃ (k : Nat) (x0 : Int), b = .int .i64 k ∧ a = .int .i64 x0 ∧ 1 ≤ k ∧ k ≤ 10000 ∧ 0 ≤ x0 ∧ x0 < 1000000271 ∧ Hid (x0 = n * (k - 1 : Int) % M.P) ∧ Hid (fmtGo n k (10000 - k) = fmtN n)) (fun _ b _ _ => 10000 - (intOf b).toNat)
    case atStart => exact ⟨1, 0, rfl, rfl, Nat.le_refl _, by omega, by omega, by omega, hid (by simp), HF⟩
    case round =>
      obtain ⟨k, x0, rfl, rfl, k1, k2, x1, x2, hx0, hH⟩ := hrel
      by_cases hlt : k ≤ 9999
      · have hki : (k : Int) ≤ 9999 := by omega
        obtain ⟨x, hx⟩ : ∃ x, x = n * (k : Int) % M.P := ⟨_, rfl⟩
        have e1 : (x0 + n) % 1000000271 = x := by rw [hx]; exact next_part hx0.out
        have xb : 0 ≤ x ∧ x < 1000000271 := by rw [hx]; exact ⟨M.emod_lo _, M.emod_hi _⟩
        obtain ⟨xb0, xb1⟩ := xb
        have HX := hid hx
        clear hx
        by_cases hs : x ≤ 9999
        · have hnh : ¬ 999990272 ≤ x := by omega
          have HT := hid ((fmt_hit hlt (small_lo HX.out.symm hs)).symm.trans hH.out)
          obtain ⟨dm, hdm⟩ : ∃ dm, bs (decI x) = dm := ⟨_, rfl⟩
          have ldm : dm.size ≤ 4 := by rw [← hdm, bs_size]; exact decI_len5 xb0 hs
          have a1 := sadd w ⟨#[]⟩ dm (by decide) (by omega)
          have HDM := hid hdm
          clear hdm
          by_cases hk1 : k = 1
          · subst hk1
            have HT1 := hid (by have h := HT.out; rw [if_pos rfl] at h; exact h)
            clear HT
            clear hH hx0
            go_wp2_with fail
            refine (impl_decimalI x _ (by omega) (by omega)).mono ?_
            rw [HDM.out]
            rintro e w' ⟨rfl, rfl⟩
            go_wp2_with fail
            go_ret
            exact ⟨ret_s (by rw [← HT1.out, ← HDM.out, bs0, bs_append]; rfl), rfl⟩
          · have HT1 := hid (by have h := HT.out; rw [if_neg hk1] at h; exact h)
            clear HT
            have hkq : ((k : Int) == 1) = false := by simp; omega
            obtain ⟨dk, hdk⟩ : ∃ dk, bs (decN k) = dk := ⟨_, rfl⟩
            have ldk : dk.size ≤ 4 := by rw [← hdk, bs_size]; exact decN_len5 hlt
            have s1 : ((⟨#[]⟩ : ByteArray) ++ dm).size ≤ 10 := by rw [ByteArray.size_append]; show 0 + _ ≤ _; omega
            have s2 : ((⟨#[]⟩ : ByteArray) ++ dm ++ ⟨#[47]⟩).size ≤ 20 := by rw [ByteArray.size_append]; show _ + 1 ≤ _; omega
            have a2 := sadd w (⟨#[]⟩ ++ dm) ⟨#[47]⟩ (by omega) (by decide)
            have a3 := sadd w (⟨#[]⟩ ++ dm ++ ⟨#[47]⟩) dk (by omega) (by omega)
            have HDK := hid hdk
            clear hdk s1 s2 ldm ldk hH hx0
            go_wp2_with fail
            refine (impl_decimalI x _ (by omega) (by omega)).mono ?_
            rw [HDM.out]
            rintro e w' ⟨rfl, rfl⟩
            go_wp2_with fail
            refine (impl_decimal (k + 1) k _ (by omega) (by omega)).mono ?_
            rw [HDK.out]
            rintro e w' ⟨rfl, rfl⟩
            go_wp2_with fail
            go_ret
            exact ⟨ret_s (by rw [← HT1.out, ← HDM.out, ← HDK.out, bs0, bs1, bs_append, bs_append, bs_append]; simp), rfl⟩
        · by_cases hh : 999990272 ≤ x
          · obtain ⟨m, hm⟩ : ∃ m : Nat, x = 1000000271 - (m : Int) := ⟨(1000000271 - x).toNat, by omega⟩
            subst hm
            have hm9 : m ≤ 9999 := by omega
            have hm0 : 0 < m := by omega
            have HT := hid ((fmt_hit hlt (small_hi HX.out.symm hs hh)).symm.trans hH.out)
            have e2 : (1000000271 : Int) - (1000000271 - (m : Int)) = m := by omega
            obtain ⟨dm, hdm⟩ : ∃ dm, bs (decN m) = dm := ⟨_, rfl⟩
            have ldm : dm.size ≤ 4 := by rw [← hdm, bs_size]; exact decN_len5 hm9
            have a1 := sadd w ⟨#[45]⟩ dm (by decide) (by omega)
            have HDM := hid hdm
            have HNG := hid (show decI ((1000000271 : Int) - (m : Int) - M.P) = 45 :: decN m by rw [show (1000000271 : Int) - (m : Int) - M.P = -(m : Int) by show (1000000271 : Int) - (m : Int) - 1000000271 = _; omega]; exact decI_neg hm0)
            have hmi : ¬ (9999 : Int) < (m : Int) := by omega
            clear hdm
            by_cases hk1 : k = 1
            · subst hk1
              have HT1 := hid (by have h := HT.out; rw [if_pos rfl] at h; exact h)
              clear HT
              clear hH hx0
              go_wp2_with fail
              refine (impl_decimal (m + 1) m _ (by omega) (by omega)).mono ?_
              rw [HDM.out]
              rintro e w' ⟨rfl, rfl⟩
              go_wp2_with fail
              go_ret
              exact ⟨ret_s (by rw [← HT1.out, HNG.out, ← HDM.out, bs1, bs_append]; rfl), rfl⟩
            · have HT1 := hid (by have h := HT.out; rw [if_neg hk1] at h; exact h)
              clear HT
              have hkq : ((k : Int) == 1) = false := by simp; omega
              obtain ⟨dk, hdk⟩ : ∃ dk, bs (decN k) = dk := ⟨_, rfl⟩
              have ldk : dk.size ≤ 4 := by rw [← hdk, bs_size]; exact decN_len5 hlt
              have s1 : ((⟨#[45]⟩ : ByteArray) ++ dm).size ≤ 10 := by rw [ByteArray.size_append]; show 1 + _ ≤ _; omega
              have s2 : ((⟨#[45]⟩ : ByteArray) ++ dm ++ ⟨#[47]⟩).size ≤ 20 := by rw [ByteArray.size_append]; show _ + 1 ≤ _; omega
              have a2 := sadd w (⟨#[45]⟩ ++ dm) ⟨#[47]⟩ (by omega) (by decide)
              have a3 := sadd w (⟨#[45]⟩ ++ dm ++ ⟨#[47]⟩) dk (by omega) (by omega)
              have HDK := hid hdk
              clear hdk s1 s2 ldm ldk hH hx0
              go_wp2_with fail
              refine (impl_decimal (m + 1) m _ (by omega) (by omega)).mono ?_
              rw [HDM.out]
              rintro e w' ⟨rfl, rfl⟩
              go_wp2_with fail
              refine (impl_decimal (k + 1) k _ (by omega) (by omega)).mono ?_
              rw [HDK.out]
              rintro e w' ⟨rfl, rfl⟩
              go_wp2_with fail
              go_ret
              exact ⟨ret_s (by rw [← HT1.out, HNG.out, ← HDM.out, ← HDK.out, bs1, bs1, bs_append, bs_append, bs_append]; simp), rfl⟩
          · have HT := hid ((fmt_miss hlt (small_no HX.out.symm hs hh)).symm.trans hH.out)
            go_wp2_with fail
            go_round
            case rel => exact ⟨k + 1, x, by go_num, congrArg (Value.int .i64) e1, by omega, by omega, xb0, xb1, hid (by rw [HX.out]; congr 2; omega), HT⟩
            case measure => simp [intOf]; omega
      · obtain rfl : k = 10000 := by omega
        obtain ⟨m, rfl⟩ := Int.eq_ofNat_of_zero_le n0
        obtain ⟨dm, hdm⟩ : ∃ dm, bs (decN m) = dm := ⟨_, rfl⟩
        have ldm : dm.size ≤ 10 := by rw [← hdm, bs_size]; exact decN_len 10 m (by omega) (by omega)
        have a1 := sadd w ⟨#[35]⟩ dm (by decide) (by omega)
        have HDM := hid hdm
        clear hdm hx0
        go_wp2_with fail
        refine (impl_decimal (m + 1) m _ (by omega) (by omega)).mono ?_
        rw [HDM.out]
        rintro e w' ⟨rfl, rfl⟩
        go_wp2_with fail
        go_ret
        exact ⟨ret_s (by rw [← hH.out, ← HDM.out, bs1, bs_append]; rfl), rfl⟩

set_option maxRecDepth 20000 in
set_option maxHeartbeats 2000000 in
theorem spec_FormatNumber (n : Int) (w : World) :
    Calls Tryd.prog 58 #[.int .i64 n] w fun e w' => e = .returned (.string (bs (fmtN n))) ∧ Below w.heap.size w w' := by
  cases hnum : M.isNum n with
  | false =>
    have HN := hid hnum
    clear hnum
    go_enter Tryd.func58, Tryd.ntmps58
    go_wp2_with fail
    refine (spec_IsNumber _ _).mono ?_
    rw [HN.out]
    rintro e w' ⟨rfl, rfl⟩
    go_wp2_with fail
    go_ret
    exact ⟨ret_s (by unfold fmtN; rw [HN.out]; rfl), Below.refl _ _⟩
  | true =>
    obtain ⟨n0, n1⟩ : 0 ≤ n ∧ n < 1000000271 := M.num_of_isNum hnum
    have HN := hid hnum
    have HF := hid (show fmtGo n 1 (10000 - 1) = fmtN n by unfold fmtN; rw [hnum]; rfl)
    clear hnum
    go_enter Tryd.func58, Tryd.ntmps58
    go_wp2_with fail
    refine (spec_IsNumber _ _).mono ?_
    rw [HN.out]
    rintro e w' ⟨rfl, rfl⟩
    go_wp2_with fail
    go_loop [3, 4] (fun b a => ∃ (k : Nat), b = .int .i64 k ∧ 1 ≤ k ∧ k ≤ 10000 ∧ Hid (fmtGo n k (10000 - k) = fmtN n)) (fun b _ => 10000 - (intOf b).toNat)
    case atStart => exact ⟨1, rfl, Nat.le_refl _, by omega, HF⟩
    case round =>
      obtain ⟨k, rfl, k1, k2, hH⟩ := hrel
      by_cases hlt : k ≤ 9999
      · have hki : (k : Int) ≤ 9999 := by omega
        obtain ⟨x, hx⟩ : ∃ x, M.times n (k : Int) = x := ⟨_, rfl⟩
        have xb : 0 ≤ x ∧ x < 1000000271 := by rw [← hx]; exact M.num_times _ _
        obtain ⟨xb0, xb1⟩ := xb
        have HX := hid (show n * (k : Int) % M.P = x from hx)
        have HXT := hid hx
        clear hx
        by_cases hs : x ≤ 9999
        · have HT := hid ((fmt_hit hlt (small_lo HX.out hs)).symm.trans hH.out)
          obtain ⟨dm, hdm⟩ : ∃ dm, bs (decI x) = dm := ⟨_, rfl⟩
          have ldm : dm.size ≤ 5 := by
            rw [← hdm, bs_size]
            obtain ⟨m, rfl⟩ := Int.eq_ofNat_of_zero_le xb0
            rw [decI_pos]
            have := decN_len5 (m := m) (by omega)
            omega
          have HDM := hid hdm
          have hge : (-9999 : Int) ≤ x := by omega
          clear hdm
          by_cases hk1 : k = 1
          · subst hk1
            have HT1 := hid (by have h := HT.out; rw [if_pos rfl] at h; exact h)
            clear HT
            clear hH
            go_wp2_with fail
            refine (spec_Times _ _ _).mono ?_
            rw [show M.times n 1 = _ from HXT.out]
            rintro e w' ⟨rfl, rfl⟩
            go_wp2_with fail
            refine (spec_l1Decimal x _ (by omega) (by omega)).mono ?_
            rw [HDM.out]
            rintro e w1 ⟨rfl, hB⟩
            have HB := hid hB
            clear hB
            go_wp2_with fail
            go_ret
            exact ⟨ret_s (by rw [← HT1.out, HDM.out]), HB.out⟩
          · have HT1 := hid (by have h := HT.out; rw [if_neg hk1] at h; exact h)
            clear HT
            have hkq : ((k : Int) == 1) = false := by simp; omega
            obtain ⟨dk, hdk⟩ : ∃ dk, bs (decI k) = dk := ⟨_, rfl⟩
            have ldk : dk.size ≤ 4 := by rw [← hdk, bs_size, decI_pos]; exact decN_len5 hlt
            have s2 : (dm ++ ⟨#[47]⟩).size ≤ 20 := by rw [ByteArray.size_append]; show _ + 1 ≤ _; omega
            have HDK := hid hdk
            clear hdk hH
            go_wp2_with fail
            refine (spec_Times _ _ _).mono ?_
            rw [HXT.out]
            rintro e w' ⟨rfl, rfl⟩
            go_wp2_with fail
            refine (spec_l1Decimal x _ (by omega) (by omega)).mono ?_
            rw [HDM.out]
            rintro e w1 ⟨rfl, hB⟩
            have HB := hid hB
            have a2 := sadd w1 dm ⟨#[47]⟩ (by omega) (by decide)
            clear hB
            go_wp2_with fail
            refine (spec_l1Decimal k _ (by omega) (by omega)).mono ?_
            rw [HDK.out]
            rintro e w2 ⟨rfl, hB⟩
            have HB2 := hid (HB.out.trans (hB.mono HB.out.size))
            have a3 := sadd w2 (dm ++ ⟨#[47]⟩) dk (by omega) (by omega)
            clear hB a2
            go_wp2_with fail
            go_ret
            exact ⟨ret_s (by rw [← HT1.out, ← HDM.out, ← HDK.out, decI_pos, bs1, bs_append, bs_append]; simp), HB2.out⟩
        · by_cases hh : 999990272 ≤ x
          · obtain ⟨m, hm⟩ : ∃ m : Nat, x = 1000000271 - (m : Int) := ⟨(1000000271 - x).toNat, by omega⟩
            subst hm
            have hm9 : m ≤ 9999 := by omega
            have hm0 : 0 < m := by omega
            have HT := hid ((fmt_hit hlt (small_hi HX.out hs hh)).symm.trans hH.out)
            have e2 : (1000000271 : Int) - (m : Int) - 1000000271 = -(m : Int) := by omega
            obtain ⟨dm, hdm⟩ : ∃ dm, bs (decI (-(m : Int))) = dm := ⟨_, rfl⟩
            have ldm : dm.size ≤ 5 := by
              rw [← hdm, bs_size, decI_neg hm0]
              have := decN_len5 (m := m) (by omega)
              simp
              omega
            have HDM := hid hdm
            have HNG := hid (show decI ((1000000271 : Int) - (m : Int) - M.P) = decI (-(m : Int)) by congr 1)
            have hge : (-9999 : Int) ≤ -(m : Int) := by omega
            clear hdm
            by_cases hk1 : k = 1
            · subst hk1
              have HT1 := hid (by have h := HT.out; rw [if_pos rfl] at h; exact h)
              clear HT
              clear hH
              go_wp2_with fail
              refine (spec_Times _ _ _).mono ?_
              rw [show M.times n 1 = _ from HXT.out]
              rintro e w' ⟨rfl, rfl⟩
              go_wp2_with fail
              refine (spec_l1Decimal (-(m : Int)) _ (by omega) (by omega)).mono ?_
              rw [HDM.out]
              rintro e w1 ⟨rfl, hB⟩
              have HB := hid hB
              clear hB
              go_wp2_with fail
              go_ret
              exact ⟨ret_s (by rw [← HT1.out, HNG.out, HDM.out]), HB.out⟩
            · have HT1 := hid (by have h := HT.out; rw [if_neg hk1] at h; exact h)
              clear HT
              have hkq : ((k : Int) == 1) = false := by simp; omega
              obtain ⟨dk, hdk⟩ : ∃ dk, bs (decI k) = dk := ⟨_, rfl⟩
              have ldk : dk.size ≤ 4 := by rw [← hdk, bs_size, decI_pos]; exact decN_len5 hlt
              have s2 : (dm ++ ⟨#[47]⟩).size ≤ 20 := by rw [ByteArray.size_append]; show _ + 1 ≤ _; omega
              have HDK := hid hdk
              clear hdk hH
              go_wp2_with fail
              refine (spec_Times _ _ _).mono ?_
              rw [HXT.out]
              rintro e w' ⟨rfl, rfl⟩
              go_wp2_with fail
              refine (spec_l1Decimal (-(m : Int)) _ (by omega) (by omega)).mono ?_
              rw [HDM.out]
              rintro e w1 ⟨rfl, hB⟩
              have HB := hid hB
              have a2 := sadd w1 dm ⟨#[47]⟩ (by omega) (by decide)
              clear hB
              go_wp2_with fail
              refine (spec_l1Decimal k _ (by omega) (by omega)).mono ?_
              rw [HDK.out]
              rintro e w2 ⟨rfl, hB⟩
              have HB2 := hid (HB.out.trans (hB.mono HB.out.size))
              have a3 := sadd w2 (dm ++ ⟨#[47]⟩) dk (by omega) (by omega)
              clear hB a2
              go_wp2_with fail
              go_ret
              exact ⟨ret_s (by rw [← HT1.out, HNG.out, ← HDM.out, ← HDK.out, decI_pos, bs1, bs_append, bs_append]; simp), HB2.out⟩
          · have HT := hid ((fmt_miss hlt (small_no HX.out hs hh)).symm.trans hH.out)
            have hlo : ¬ (-9999 : Int) ≤ x - 1000000271 := by omega
            go_wp2_with fail
            refine (spec_Times _ _ _).mono ?_
            rw [HXT.out]
            rintro e w' ⟨rfl, rfl⟩
            go_wp2_with fail
            go_round
            case rel => exact ⟨k + 1, by go_num, by omega, by omega, HT⟩
            case measure => simp [intOf]; omega
      · obtain rfl : k = 10000 := by omega
        obtain ⟨m, rfl⟩ := Int.eq_ofNat_of_zero_le n0
        obtain ⟨dm, hdm⟩ : ∃ dm, bs (decI m) = dm := ⟨_, rfl⟩
        have ldm : dm.size ≤ 10 := by rw [← hdm, bs_size, decI_pos]; exact decN_len 10 m (by omega) (by omega)
        have HDM := hid hdm
        clear hdm
        go_wp2_with fail
        refine (spec_l1Decimal m _ (by omega) (by omega)).mono ?_
        rw [HDM.out]
        rintro e w1 ⟨rfl, hB⟩
        have HB := hid hB
        have a1 := sadd w1 ⟨#[35]⟩ dm (by decide) (by omega)
        clear hB
        go_wp2_with fail
        go_ret
        exact ⟨ret_s (by rw [← hH.out, ← HDM.out, decI_pos, bs1, bs_append]; rfl), HB.out⟩
end Go.Proofs.YthebegfceaehfaaDoor
