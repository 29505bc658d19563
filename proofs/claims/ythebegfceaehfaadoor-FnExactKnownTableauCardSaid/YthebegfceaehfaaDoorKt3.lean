/- Merged texts: FmtV, Tab, St, Row, Kind. -/
import Derived.Test.YthebegfceaehfaaDoorKt2
import Derived.Deep.RegionHeld3
/- FmtV: FormatNumber: the walks. -/
namespace Go.Proofs.YthebegfceaehfaaDoor
open Go.RowKit

theorem sadd (w : World) (a b : ByteArray) (ha : a.size ≤ 100000) (hb : b.size ≤ 100000) : (Op.stringOp .add a b).run Tryd.prog w = .ok (.string (a ++ b)) w := run_string_add_sum w a b (by omega)
theorem small_lo {n x : Int} {b : Nat} (hx : n * b % M.P = x) (h : x ≤ 9999) : small n b = some x := by unfold small; simp only [hx]; rw [if_pos h]
theorem small_hi {n x : Int} {b : Nat} (hx : n * b % M.P = x) (h : ¬ x ≤ 9999) (h2 : 999990272 ≤ x) : small n b = some (x - M.P) := by
  unfold small; simp only [hx]; rw [if_neg h, if_pos (by have : M.P = 1000000271 := rfl; omega)]
theorem small_no {n x : Int} {b : Nat} (hx : n * b % M.P = x) (h : ¬ x ≤ 9999) (h2 : ¬ 999990272 ≤ x) : small n b = none := by
  unfold small; simp only [hx]; rw [if_neg h, if_neg (by have : M.P = 1000000271 := rfl; omega)]
theorem fmt_hit {n a : Int} {b : Nat} (hb : b ≤ 9999) (h : small n b = some a) : fmtGo n b (10000 - b) = if b = 1 then decI a else decI a ++ 47 :: decN b := by
  rw [show 10000 - b = (9999 - b) + 1 by omega, fmtGo, h]
theorem fmt_miss {n : Int} {b : Nat} (hb : b ≤ 9999) (h : small n b = none) : fmtGo n b (10000 - b) = fmtGo n (b + 1) (10000 - (b + 1)) := by
  rw [show 10000 - b = (9999 - b) + 1 by omega, fmtGo, h, show 10000 - (b + 1) = 9999 - b by omega]
theorem next_part {n x0 : Int} {b : Nat} (h0 : x0 = n * (b - 1 : Int) % M.P) : (x0 + n) % 1000000271 = n * (b : Int) % M.P := by
  rw [h0]
  show (_ % M.P + n) % M.P = _
  rw [M.add_l]
  congr 1
  rw [Int.mul_sub, Int.mul_one]
  omega
theorem decI_pos {m : Nat} : decI (m : Int) = decN m := by unfold decI; rw [if_neg (by omega), Int.toNat_natCast]
theorem decI_neg {m : Nat} (h : 0 < m) : decI (-(m : Int)) = 45 :: decN m := by unfold decI; rw [if_pos (by omega), show (-(m : Int)).natAbs = m by omega]
theorem decN_len5 {m : Nat} (h : m ≤ 9999) : (decN m).length ≤ 4 := decN_len 4 m (by omega) (by omega)
theorem bs0 : (⟨#[]⟩ : ByteArray) = bs [] := rfl
theorem bs1 (c : UInt8) : (⟨#[c]⟩ : ByteArray) = bs [c] := rfl

theorem impl_decimalI (x : Int) (w : World) (h0 : 0 ≤ x) (h1 : x ≤ 1000000271) :
    Calls Tryd.prog 89 #[.int .i64 x] w fun e w' => e = .returned (.string (bs (decI x))) ∧ w = w' := by
  obtain ⟨m, rfl⟩ := Int.eq_ofNat_of_zero_le h0
  rw [decI_pos]
  exact impl_decimal (m + 1) m w (by omega) (by omega)
theorem decI_len5 {x : Int} (h0 : 0 ≤ x) (h1 : x ≤ 9999) : (decI x).length ≤ 4 := by
  obtain ⟨m, rfl⟩ := Int.eq_ofNat_of_zero_le h0
  rw [decI_pos]
  exact decN_len5 (by omega)
set_option maxRecDepth 20000 in
set_option maxHeartbeats 2000000 in
theorem impl_FormatNumber (n : Int) (w : World) :
    Calls Tryd.prog 69 #[.int .i64 n] w fun e w' => e = .returned (.string (bs (fmtN n))) ∧ w = w' := by
  cases hnum : M.isNum n with
  | false =>
    have HN := hid hnum
    clear hnum
    go_enter Tryd.func69, Tryd.ntmps69
    go_wp2_with fail
    refine (impl_IsNumber _ _).mono ?_
    rw [HN.out]
    rintro e w' ⟨rfl, rfl⟩
    go_wp2_with fail
    go_ret
    exact ⟨ret_s (by unfold fmtN; rw [HN.out]; rfl), rfl⟩
  | true =>
    obtain ⟨n0, n1⟩ : 0 ≤ n ∧ n < 1000000271 := M.num_of_isNum hnum
    have HN := hid hnum
    have HF := hid (show fmtGo n 1 (10000 - 1) = fmtN n by unfold fmtN; rw [hnum]; rfl)
    clear hnum
    go_enter Tryd.func69, Tryd.ntmps69
    go_wp2_with fail
    refine (impl_IsNumber _ _).mono ?_
    rw [HN.out]
    rintro e w' ⟨rfl, rfl⟩
    go_wp2_with fail
    go_loop [3, 4, 5, 6] (fun a b s m => ∃ (k : Nat) (x0 : Int), b = .int .i64 k ∧ a = .int .i64 x0 ∧ 1 ≤ k ∧ k ≤ 10000 ∧ 0 ≤ x0 ∧ x0 < 1000000271 ∧ Hid (x0 = n * (k - 1 : Int) % M.P) ∧ Hid (fmtGo n k (10000 - k) = fmtN n)) (fun _ b _ _ => 10000 - (intOf b).toNat)
    case atStart => exact ⟨1, 0, rfl, rfl, Nat.le_refl _, by omega, by omega, by omega, hid (by simp), HF⟩
    case round =>
      obtain ⟨k, x0, rfl, rfl, k1, k2, x1, x2, hx0, hH⟩ := hrel
      by_cases hlt : k ≤ 9999
      · have hki : (k : Int) ≤ 9999 := by omega
        obtain ⟨x, hx⟩ : ∃ x, x = n * (k : Int) % M.P := ⟨_, rfl⟩
        have e1 : (x0 + n) % 1000000271 = x := by rw [hx]; exact next_part hx0.out
        have xb : 0 ≤ x ∧ x < 1000000271 := by rw [hx]; exact ⟨M.emod_lo _, M.emod_hi _⟩
        obtain ⟨xb0, xb1⟩ := xb
        have HX := hid hx
        clear hx
        by_cases hs : x ≤ 9999
        · have hnh : ¬ 999990272 ≤ x := by omega
          have HT := hid ((fmt_hit hlt (small_lo HX.out.symm hs)).symm.trans hH.out)
          obtain ⟨dm, hdm⟩ : ∃ dm, bs (decI x) = dm := ⟨_, rfl⟩
          have ldm : dm.size ≤ 4 := by rw [← hdm, bs_size]; exact decI_len5 xb0 hs
          have a1 := sadd w ⟨#[]⟩ dm (by decide) (by omega)
          have HDM := hid hdm
          clear hdm
          by_cases hk1 : k = 1
          · subst hk1
            have HT1 := hid (by have h := HT.out; rw [if_pos rfl] at h; exact h)
            clear HT
            clear hH hx0
            go_wp2_with fail
            refine (impl_decimalI x _ (by omega) (by omega)).mono ?_
            rw [HDM.out]
            rintro e w' ⟨rfl, rfl⟩
            go_wp2_with fail
            go_ret
            exact ⟨ret_s (by rw [← HT1.out, ← HDM.out, bs0, bs_append]; rfl), rfl⟩
          · have HT1 := hid (by have h := HT.out; rw [if_neg hk1] at h; exact h)
            clear HT
            have hkq : ((k : Int) == 1) = false := by simp; omega
            obtain ⟨dk, hdk⟩ : ∃ dk, bs (decN k) = dk := ⟨_, rfl⟩
            have ldk : dk.size ≤ 4 := by rw [← hdk, bs_size]; exact decN_len5 hlt
            have s1 : ((⟨#[]⟩ : ByteArray) ++ dm).size ≤ 10 := by rw [ByteArray.size_append]; show 0 + _ ≤ _; omega
            have s2 : ((⟨#[]⟩ : ByteArray) ++ dm ++ ⟨#[47]⟩).size ≤ 20 := by rw [ByteArray.size_append]; show _ + 1 ≤ _; omega
            have a2 := sadd w (⟨#[]⟩ ++ dm) ⟨#[47]⟩ (by omega) (by decide)
            have a3 := sadd w (⟨#[]⟩ ++ dm ++ ⟨#[47]⟩) dk (by omega) (by omega)
            have HDK := hid hdk
            clear hdk s1 s2 ldm ldk hH hx0
            go_wp2_with fail
            refine (impl_decimalI x _ (by omega) (by omega)).mono ?_
            rw [HDM.out]
            rintro e w' ⟨rfl, rfl⟩
            go_wp2_with fail
            refine (impl_decimal (k + 1) k _ (by omega) (by omega)).mono ?_
            rw [HDK.out]
            rintro e w' ⟨rfl, rfl⟩
            go_wp2_with fail
            go_ret
            exact ⟨ret_s (by rw [← HT1.out, ← HDM.out, ← HDK.out, bs0, bs1, bs_append, bs_append, bs_append]; simp), rfl⟩
        · by_cases hh : 999990272 ≤ x
          · obtain ⟨m, hm⟩ : ∃ m : Nat, x = 1000000271 - (m : Int) := ⟨(1000000271 - x).toNat, by omega⟩
            subst hm
            have hm9 : m ≤ 9999 := by omega
            have hm0 : 0 < m := by omega
            have HT := hid ((fmt_hit hlt (small_hi HX.out.symm hs hh)).symm.trans hH.out)
            have e2 : (1000000271 : Int) - (1000000271 - (m : Int)) = m := by omega
            obtain ⟨dm, hdm⟩ : ∃ dm, bs (decN m) = dm := ⟨_, rfl⟩
            have ldm : dm.size ≤ 4 := by rw [← hdm, bs_size]; exact decN_len5 hm9
            have a1 := sadd w ⟨#[45]⟩ dm (by decide) (by omega)
            have HDM := hid hdm
            have HNG := hid (show decI ((1000000271 : Int) - (m : Int) - M.P) = 45 :: decN m by rw [show (1000000271 : Int) - (m : Int) - M.P = -(m : Int) by show (1000000271 : Int) - (m : Int) - 1000000271 = _; omega]; exact decI_neg hm0)
            have hmi : ¬ (9999 : Int) < (m : Int) := by omega
            clear hdm
            by_cases hk1 : k = 1
            · subst hk1
              have HT1 := hid (by have h := HT.out; rw [if_pos rfl] at h; exact h)
              clear HT
              clear hH hx0
              go_wp2_with fail
              refine (impl_decimal (m + 1) m _ (by omega) (by omega)).mono ?_
              rw [HDM.out]
              rintro e w' ⟨rfl, rfl⟩
              go_wp2_with fail
              go_ret
              exact ⟨ret_s (by rw [← HT1.out, HNG.out, ← HDM.out, bs1, bs_append]; rfl), rfl⟩
            · have HT1 := hid (by have h := HT.out; rw [if_neg hk1] at h; exact h)
              clear HT
              have hkq : ((k : Int) == 1) = false := by simp; omega
              obtain ⟨dk, hdk⟩ : ∃ dk, bs (decN k) = dk := ⟨_, rfl⟩
              have ldk : dk.size ≤ 4 := by rw [← hdk, bs_size]; exact decN_len5 hlt
              have s1 : ((⟨#[45]⟩ : ByteArray) ++ dm).size ≤ 10 := by rw [ByteArray.size_append]; show 1 + _ ≤ _; omega
              have s2 : ((⟨#[45]⟩ : ByteArray) ++ dm ++ ⟨#[47]⟩).size ≤ 20 := by rw [ByteArray.size_append]; show _ + 1 ≤ _; omega
              have a2 := sadd w (⟨#[45]⟩ ++ dm) ⟨#[47]⟩ (by omega) (by decide)
              have a3 := sadd w (⟨#[45]⟩ ++ dm ++ ⟨#[47]⟩) dk (by omega) (by omega)
              have HDK := hid hdk
              clear hdk s1 s2 ldm ldk hH hx0
              go_wp2_with fail
              refine (impl_decimal (m + 1) m _ (by omega) (by omega)).mono ?_
              rw [HDM.out]
              rintro e w' ⟨rfl, rfl⟩
              go_wp2_with fail
              refine (impl_decimal (k + 1) k _ (by omega) (by omega)).mono ?_
              rw [HDK.out]
              rintro e w' ⟨rfl, rfl⟩
              go_wp2_with fail
              go_ret
              exact ⟨ret_s (by rw [← HT1.out, HNG.out, ← HDM.out, ← HDK.out, bs1, bs1, bs_append, bs_append, bs_append]; simp), rfl⟩
          · have HT := hid ((fmt_miss hlt (small_no HX.out.symm hs hh)).symm.trans hH.out)
            go_wp2_with fail
            go_round
            case rel => exact ⟨k + 1, x, by go_num, congrArg (Value.int .i64) e1, by omega, by omega, xb0, xb1, hid (by rw [HX.out]; congr 2; omega), HT⟩
            case measure => simp [intOf]; omega
      · obtain rfl : k = 10000 := by omega
        obtain ⟨m, rfl⟩ := Int.eq_ofNat_of_zero_le n0
        obtain ⟨dm, hdm⟩ : ∃ dm, bs (decN m) = dm := ⟨_, rfl⟩
        have ldm : dm.size ≤ 10 := by rw [← hdm, bs_size]; exact decN_len 10 m (by omega) (by omega)
        have a1 := sadd w ⟨#[35]⟩ dm (by decide) (by omega)
        have HDM := hid hdm
        clear hdm hx0
        go_wp2_with fail
        refine (impl_decimal (m + 1) m _ (by omega) (by omega)).mono ?_
        rw [HDM.out]
        rintro e w' ⟨rfl, rfl⟩
        go_wp2_with fail
        go_ret
        exact ⟨ret_s (by rw [← hH.out, ← HDM.out, bs1, bs_append]; rfl), rfl⟩

set_option maxRecDepth 20000 in
set_option maxHeartbeats 2000000 in
theorem spec_FormatNumber (n : Int) (w : World) :
    Calls Tryd.prog 58 #[.int .i64 n] w fun e w' => e = .returned (.string (bs (fmtN n))) ∧ Below w.heap.size w w' := by
  cases hnum : M.isNum n with
  | false =>
    have HN := hid hnum
    clear hnum
    go_enter Tryd.func58, Tryd.ntmps58
    go_wp2_with fail
    refine (spec_IsNumber _ _).mono ?_
    rw [HN.out]
    rintro e w' ⟨rfl, rfl⟩
    go_wp2_with fail
    go_ret
    exact ⟨ret_s (by unfold fmtN; rw [HN.out]; rfl), Below.refl _ _⟩
  | true =>
    obtain ⟨n0, n1⟩ : 0 ≤ n ∧ n < 1000000271 := M.num_of_isNum hnum
    have HN := hid hnum
    have HF := hid (show fmtGo n 1 (10000 - 1) = fmtN n by unfold fmtN; rw [hnum]; rfl)
    clear hnum
    go_enter Tryd.func58, Tryd.ntmps58
    go_wp2_with fail
    refine (spec_IsNumber _ _).mono ?_
    rw [HN.out]
    rintro e w' ⟨rfl, rfl⟩
    go_wp2_with fail
    go_loop [3, 4] (fun b a => ∃ (k : Nat), b = .int .i64 k ∧ 1 ≤ k ∧ k ≤ 10000 ∧ Hid (fmtGo n k (10000 - k) = fmtN n)) (fun b _ => 10000 - (intOf b).toNat)
    case atStart => exact ⟨1, rfl, Nat.le_refl _, by omega, HF⟩
    case round =>
      obtain ⟨k, rfl, k1, k2, hH⟩ := hrel
      by_cases hlt : k ≤ 9999
      · have hki : (k : Int) ≤ 9999 := by omega
        obtain ⟨x, hx⟩ : ∃ x, M.times n (k : Int) = x := ⟨_, rfl⟩
        have xb : 0 ≤ x ∧ x < 1000000271 := by rw [← hx]; exact M.num_times _ _
        obtain ⟨xb0, xb1⟩ := xb
        have HX := hid (show n * (k : Int) % M.P = x from hx)
        have HXT := hid hx
        clear hx
        by_cases hs : x ≤ 9999
        · have HT := hid ((fmt_hit hlt (small_lo HX.out hs)).symm.trans hH.out)
          obtain ⟨dm, hdm⟩ : ∃ dm, bs (decI x) = dm := ⟨_, rfl⟩
          have ldm : dm.size ≤ 5 := by
            rw [← hdm, bs_size]
            obtain ⟨m, rfl⟩ := Int.eq_ofNat_of_zero_le xb0
            rw [decI_pos]
            have := decN_len5 (m := m) (by omega)
            omega
          have HDM := hid hdm
          have hge : (-9999 : Int) ≤ x := by omega
          clear hdm
          by_cases hk1 : k = 1
          · subst hk1
            have HT1 := hid (by have h := HT.out; rw [if_pos rfl] at h; exact h)
            clear HT
            clear hH
            go_wp2_with fail
            refine (spec_Times _ _ _).mono ?_
            rw [show M.times n 1 = _ from HXT.out]
            rintro e w' ⟨rfl, rfl⟩
            go_wp2_with fail
            refine (spec_l1Decimal x _ (by omega) (by omega)).mono ?_
            rw [HDM.out]
            rintro e w1 ⟨rfl, hB⟩
            have HB := hid hB
            clear hB
            go_wp2_with fail
            go_ret
            exact ⟨ret_s (by rw [← HT1.out, HDM.out]), HB.out⟩
          · have HT1 := hid (by have h := HT.out; rw [if_neg hk1] at h; exact h)
            clear HT
            have hkq : ((k : Int) == 1) = false := by simp; omega
            obtain ⟨dk, hdk⟩ : ∃ dk, bs (decI k) = dk := ⟨_, rfl⟩
            have ldk : dk.size ≤ 4 := by rw [← hdk, bs_size, decI_pos]; exact decN_len5 hlt
            have s2 : (dm ++ ⟨#[47]⟩).size ≤ 20 := by rw [ByteArray.size_append]; show _ + 1 ≤ _; omega
            have HDK := hid hdk
            clear hdk hH
            go_wp2_with fail
            refine (spec_Times _ _ _).mono ?_
            rw [HXT.out]
            rintro e w' ⟨rfl, rfl⟩
            go_wp2_with fail
            refine (spec_l1Decimal x _ (by omega) (by omega)).mono ?_
            rw [HDM.out]
            rintro e w1 ⟨rfl, hB⟩
            have HB := hid hB
            have a2 := sadd w1 dm ⟨#[47]⟩ (by omega) (by decide)
            clear hB
            go_wp2_with fail
            refine (spec_l1Decimal k _ (by omega) (by omega)).mono ?_
            rw [HDK.out]
            rintro e w2 ⟨rfl, hB⟩
            have HB2 := hid (HB.out.trans (hB.mono HB.out.size))
            have a3 := sadd w2 (dm ++ ⟨#[47]⟩) dk (by omega) (by omega)
            clear hB a2
            go_wp2_with fail
            go_ret
            exact ⟨ret_s (by rw [← HT1.out, ← HDM.out, ← HDK.out, decI_pos, bs1, bs_append, bs_append]; simp), HB2.out⟩
        · by_cases hh : 999990272 ≤ x
          · obtain ⟨m, hm⟩ : ∃ m : Nat, x = 1000000271 - (m : Int) := ⟨(1000000271 - x).toNat, by omega⟩
            subst hm
            have hm9 : m ≤ 9999 := by omega
            have hm0 : 0 < m := by omega
            have HT := hid ((fmt_hit hlt (small_hi HX.out hs hh)).symm.trans hH.out)
            have e2 : (1000000271 : Int) - (m : Int) - 1000000271 = -(m : Int) := by omega
            obtain ⟨dm, hdm⟩ : ∃ dm, bs (decI (-(m : Int))) = dm := ⟨_, rfl⟩
            have ldm : dm.size ≤ 5 := by
              rw [← hdm, bs_size, decI_neg hm0]
              have := decN_len5 (m := m) (by omega)
              simp
              omega
            have HDM := hid hdm
            have HNG := hid (show decI ((1000000271 : Int) - (m : Int) - M.P) = decI (-(m : Int)) by congr 1)
            have hge : (-9999 : Int) ≤ -(m : Int) := by omega
            clear hdm
            by_cases hk1 : k = 1
            · subst hk1
              have HT1 := hid (by have h := HT.out; rw [if_pos rfl] at h; exact h)
              clear HT
              clear hH
              go_wp2_with fail
              refine (spec_Times _ _ _).mono ?_
              rw [show M.times n 1 = _ from HXT.out]
              rintro e w' ⟨rfl, rfl⟩
              go_wp2_with fail
              refine (spec_l1Decimal (-(m : Int)) _ (by omega) (by omega)).mono ?_
              rw [HDM.out]
              rintro e w1 ⟨rfl, hB⟩
              have HB := hid hB
              clear hB
              go_wp2_with fail
              go_ret
              exact ⟨ret_s (by rw [← HT1.out, HNG.out, HDM.out]), HB.out⟩
            · have HT1 := hid (by have h := HT.out; rw [if_neg hk1] at h; exact h)
              clear HT
              have hkq : ((k : Int) == 1) = false := by simp; omega
              obtain ⟨dk, hdk⟩ : ∃ dk, bs (decI k) = dk := ⟨_, rfl⟩
              have ldk : dk.size ≤ 4 := by rw [← hdk, bs_size, decI_pos]; exact decN_len5 hlt
              have s2 : (dm ++ ⟨#[47]⟩).size ≤ 20 := by rw [ByteArray.size_append]; show _ + 1 ≤ _; omega
              have HDK := hid hdk
              clear hdk hH
              go_wp2_with fail
              refine (spec_Times _ _ _).mono ?_
              rw [HXT.out]
              rintro e w' ⟨rfl, rfl⟩
              go_wp2_with fail
              refine (spec_l1Decimal (-(m : Int)) _ (by omega) (by omega)).mono ?_
              rw [HDM.out]
              rintro e w1 ⟨rfl, hB⟩
              have HB := hid hB
              have a2 := sadd w1 dm ⟨#[47]⟩ (by omega) (by decide)
              clear hB
              go_wp2_with fail
              refine (spec_l1Decimal k _ (by omega) (by omega)).mono ?_
              rw [HDK.out]
              rintro e w2 ⟨rfl, hB⟩
              have HB2 := hid (HB.out.trans (hB.mono HB.out.size))
              have a3 := sadd w2 (dm ++ ⟨#[47]⟩) dk (by omega) (by omega)
              clear hB a2
              go_wp2_with fail
              go_ret
              exact ⟨ret_s (by rw [← HT1.out, HNG.out, ← HDM.out, ← HDK.out, decI_pos, bs1, bs_append, bs_append]; simp), HB2.out⟩
          · have HT := hid ((fmt_miss hlt (small_no HX.out hs hh)).symm.trans hH.out)
            have hlo : ¬ (-9999 : Int) ≤ x - 1000000271 := by omega
            go_wp2_with fail
            refine (spec_Times _ _ _).mono ?_
            rw [HXT.out]
            rintro e w' ⟨rfl, rfl⟩
            go_wp2_with fail
            go_round
            case rel => exact ⟨k + 1, by go_num, by omega, by omega, HT⟩
            case measure => simp [intOf]; omega
      · obtain rfl : k = 10000 := by omega
        obtain ⟨m, rfl⟩ := Int.eq_ofNat_of_zero_le n0
        obtain ⟨dm, hdm⟩ : ∃ dm, bs (decI m) = dm := ⟨_, rfl⟩
        have ldm : dm.size ≤ 10 := by rw [← hdm, bs_size, decI_pos]; exact decN_len 10 m (by omega) (by omega)
        have HDM := hid hdm
        clear hdm
        go_wp2_with fail
        refine (spec_l1Decimal m _ (by omega) (by omega)).mono ?_
        rw [HDM.out]
        rintro e w1 ⟨rfl, hB⟩
        have HB := hid hB
        have a1 := sadd w1 ⟨#[35]⟩ dm (by decide) (by omega)
        clear hB
        go_wp2_with fail
        go_ret
        exact ⟨ret_s (by rw [← hH.out, ← HDM.out, decI_pos, bs1, bs_append]; rfl), HB.out⟩
end Go.Proofs.YthebegfceaehfaaDoor

/- Tab: TableauOk and the small functions on tableaus. -/
namespace Go.Proofs.YthebegfceaehfaaDoor
open Go.RowKit

/-- TableauOk -/
def tabOk (s : Int) (A B : List Int) : Bool := decide (0 ≤ s ∧ s ≤ 8 ∧ (A.length : Int) = s * s ∧ (B.length : Int) = s) && (M.allNum A && M.allNum B)
theorem tabOk_no {s : Int} {A B : List Int} (h : ¬ (0 ≤ s ∧ s ≤ 8 ∧ (A.length : Int) = s * s ∧ (B.length : Int) = s)) : tabOk s A B = false := by
  unfold tabOk; rw [decide_eq_false h]; rfl
theorem tabOk_yes {s : Int} {A B : List Int} (h : 0 ≤ s ∧ s ≤ 8 ∧ (A.length : Int) = s * s ∧ (B.length : Int) = s) : tabOk s A B = (M.allNum A && M.allNum B) := by
  unfold tabOk; rw [decide_eq_true h]; rfl
theorem sq_le {s : Int} (h0 : 0 ≤ s) (h8 : s ≤ 8) : 0 ≤ s * s ∧ s * s ≤ 64 :=
  ⟨Int.mul_nonneg h0 h0, Int.mul_le_mul h8 h8 h0 (by omega)⟩

theorem spec_TableauOk (s : Int) (a1 : Option Addr) (n1 c1 : Nat) (A : List Int) (a2 : Option Addr) (n2 c2 : Nat) (B : List Int) (w : World) (h1 : Rd w a1 n1 c1 A) (h2 : Rd w a2 n2 c2 B) :
    Calls Tryd.prog 33 #[.agg #[.int .i64 s, .slice a1 n1 c1, .slice a2 n2 c2]] w fun e w' => e = .returned (.bool (tabOk s A B)) ∧ Below w.heap.size w w' := by
  have H1 := hid h1
  have H2 := hid h2
  have l1 := h1.len
  have l2 := h2.len
  clear h1 h2
  by_cases c0 : 0 ≤ s ∧ s ≤ 8
  · have hin := hid (show inB s 0 8 = true from decide_eq_true c0)
    obtain ⟨c0, c8⟩ := c0
    have hsq := sq_le c0 c8
    by_cases e1 : (n1 : Int) = s * s
    · have q1 : ((n1 : Int) == s * s) = true := beq_iff_eq.2 e1
      by_cases e2 : (n2 : Int) = s
      · have q2 : ((n2 : Int) == s) = true := beq_iff_eq.2 e2
        have HH := hid (tabOk_yes (A := A) (B := B) ⟨c0, c8, l1 ▸ e1, l2 ▸ e2⟩)
        clear l1 l2 e1 e2
        cases hA : M.allNum A with
        | true =>
          have HA := hid hA
          go_enter Tryd.func33, Tryd.ntmps33
          go_wp2_with fail
          refine (spec_l1In _ _ _ _).mono ?_
          rintro e w1 ⟨rfl, rfl⟩
          rw [hin.out]
          go_wp2_with fail
          refine (spec_l1All _ _ _ A _ (H1.out.alloc _)).mono ?_
          rintro e w1 ⟨rfl, rfl⟩
          rw [HA.out]
          go_wp2_with fail
          refine (spec_l1All _ _ _ B _ (H2.out.alloc _)).mono ?_
          rintro e w1 ⟨rfl, rfl⟩
          go_wp2_with fail
          go_ret
          exact ⟨ret_b (by rw [HH.out, HA.out]; simp), below_box _ _⟩
        | false =>
          have HA := hid hA
          go_enter Tryd.func33, Tryd.ntmps33
          go_wp2_with fail
          refine (spec_l1In _ _ _ _).mono ?_
          rintro e w1 ⟨rfl, rfl⟩
          rw [hin.out]
          go_wp2_with fail
          refine (spec_l1All _ _ _ A _ (H1.out.alloc _)).mono ?_
          rintro e w1 ⟨rfl, rfl⟩
          rw [HA.out]
          go_wp2_with fail
          go_ret
          exact ⟨ret_b (by rw [HH.out, HA.out]; rfl), below_box _ _⟩
      · have q2 : ((n2 : Int) == s) = false := beq_eq_false_iff_ne.2 e2
        have HH := hid (tabOk_no (s := s) (A := A) (B := B) (fun h => e2 (l2 ▸ h.2.2.2)))
        clear l1 l2 e1 e2
        go_enter Tryd.func33, Tryd.ntmps33
        go_wp2_with fail
        refine (spec_l1In _ _ _ _).mono ?_
        rintro e w1 ⟨rfl, rfl⟩
        rw [hin.out]
        go_wp2_with fail
        go_ret
        exact ⟨ret_b HH.out.symm, below_box _ _⟩
    · have q1 : ((n1 : Int) == s * s) = false := beq_eq_false_iff_ne.2 e1
      have HH := hid (tabOk_no (s := s) (A := A) (B := B) (fun h => e1 (l1 ▸ h.2.2.1)))
      clear l1 l2 e1
      go_enter Tryd.func33, Tryd.ntmps33
      go_wp2_with fail
      refine (spec_l1In _ _ _ _).mono ?_
      rintro e w1 ⟨rfl, rfl⟩
      rw [hin.out]
      go_wp2_with fail
      go_ret
      exact ⟨ret_b HH.out.symm, below_box _ _⟩
  · have hin := hid (show inB s 0 8 = false from decide_eq_false c0)
    have HH := hid (tabOk_no (s := s) (A := A) (B := B) (fun h => c0 ⟨h.1, h.2.1⟩))
    clear l1 l2 c0
    go_enter Tryd.func33, Tryd.ntmps33
    go_wp2_with fail
    refine (spec_l1In _ _ _ _).mono ?_
    rintro e w1 ⟨rfl, rfl⟩
    rw [hin.out]
    go_wp2_with fail
    go_ret
    exact ⟨ret_b HH.out.symm, below_box _ _⟩
end Go.Proofs.YthebegfceaehfaaDoor

/- St: What a law knows between its calls. -/
namespace Go.Proofs.YthebegfceaehfaaDoor
open Go.RowKit

/-- The law began in w and stands in wi: what was there is as it was; its first argument's box lies at the head of the new blocks. -/
structure St (w wi : World) (cs : Array Value) (t : TypeId) : Prop where
  below : Below w.heap.size w wi
  size : w.heap.size < wi.heap.size
  box : wi.heap[w.heap.size]? = some (.cells cs t (0, 0))
theorem St.first (w : World) (cs : Array Value) (t : TypeId) : St w (w.alloc (.cells cs t)) cs t :=
  ⟨below_box _ _, by simp, heap_alloc_at _ _ _ _ rfl⟩
theorem St.step {w wi wj : World} {cs : Array Value} {t : TypeId} (h : St w wi cs t) (hb : Below wi.heap.size wi wj) : St w wj cs t :=
  ⟨h.below.trans (hb.mono (Nat.le_of_lt h.size)), Nat.lt_of_lt_of_le h.size hb.size, (hb.block _ h.size).trans h.box⟩
theorem St.alloc {w wi : World} {cs : Array Value} {t : TypeId} (h : St w wi cs t) (o : Obj) : St w (wi.alloc o) cs t := h.step (below_box _ _)
theorem St.drew {w wi : World} {cs : Array Value} {t : TypeId} (h : St w wi cs t) : St w wi.drew cs t := ⟨h.below.drew, h.size, h.box⟩
/-- A mark: blocks from the law's own on were written, the box was not. -/
theorem St.grown {w wi wj : World} {cs : Array Value} {t : TypeId} (h : St w wi cs t) {r : Option Nat} (hg : wi.grownBy wj r) (hr : ∀ k, r = some k → w.heap.size < k) : St w wj cs t :=
  ⟨h.below.grown hg (Nat.le_of_lt h.size) (fun k hk => Nat.le_of_lt (hr k hk)), Nat.lt_of_lt_of_le h.size hg.size, (hg.block _ h.size (fun e => by have := hr _ e.symm; omega)).trans h.box⟩
/-- The block of a row of the call's own is not below its bound, and it is there. -/
theorem Fr.blkN_bd {w : World} {lo : Nat} {ao : Option Addr} {n c : Nat} {xs : List Int} (h : Fr w lo ao n c xs) : ∀ k, blkN ao n = some k → lo ≤ k ∧ k < w.heap.size := by
  intro k hk
  unfold blkN at hk
  split at hk
  · cases hk
  · obtain ⟨b, o, e, hc⟩ := h.rd.cell 0 (by omega)
    subst e
    simp [blk] at hk
    subst hk
    exact ⟨(h.own _ _ _ rfl (by omega)).1, World.block_lt_of_cell? w _ hc⟩
/-- Rows of two times share no block. -/
theorem Fr.sep {w w' : World} {lo lo' : Nat} {a1 : Option Addr} {n1 c1 : Nat} {A : List Int} {a2 : Option Addr} {n2 c2 : Nat} {B : List Int} (h : Fr w lo a1 n1 c1 A) (k : Fr w' lo' a2 n2 c2 B) (hl : w.heap.size ≤ lo') : Sep a1 n1 a2 n2 := by
  intro h1 h2 e
  obtain ⟨b, o, ea, hc⟩ := h.rd.cell 0 h1
  obtain ⟨b', o', ea', hc'⟩ := k.rd.cell 0 h2
  subst ea ea'
  have i1 := World.block_lt_of_cell? w _ hc
  have i2 := (k.own _ _ _ rfl h2).1
  simp [blk] at e
  simp at i1
  omega
theorem Sep.symm {a1 : Option Addr} {n1 : Nat} {a2 : Option Addr} {n2 : Nat} (h : Sep a1 n1 a2 n2) : Sep a2 n2 a1 n1 := fun x y e => h y x e.symm
theorem Rd.grownN {w w' : World} {ao : Option Addr} {n c : Nat} {xs : List Int} (h : Rd w ao n c xs) {bo : Option Addr} {m : Nat} (hg : w.grownBy w' (blkN bo m)) (hs : Sep bo m ao n) : Rd w' ao n c xs :=
  h.grown hg fun hn => by
    rcases Nat.eq_zero_or_pos m with h0 | h0
    · exact .inr (if_pos h0)
    · rw [blkN_pos h0]; exact .inl fun e => hs h0 hn e.symm
theorem of_drew {B : Nat} {a w : World} (h : Below B a.drew w) : Below B a w := ⟨h.os, h.tape, h.output, h.size, h.block⟩
theorem drew_below {B : Nat} {a w : World} (h : Below B a w) : Below B a.drew w := ⟨h.os, h.tape, h.output, h.size, h.block⟩
/-- Two blocks of three cells, as the loads of a region want them. -/
theorem keep6 {w : World} {b b' : Nat} {x y z x' y' z' : Value} {e e' : TypeId} (h : w.heap[b]? = some (.cells #[x, y, z] e (0, 0))) (h' : w.heap[b']? = some (.cells #[x', y', z'] e' (0, 0))) :
    ∀ w', Below w.heap.size w w' → w'.cell? ⟨b, 0, none⟩ = some x ∧ w'.cell? ⟨b, 1, none⟩ = some y ∧ w'.cell? ⟨b, 2, none⟩ = some z ∧ w'.cell? ⟨b', 0, none⟩ = some x' ∧ w'.cell? ⟨b', 1, none⟩ = some y' ∧ w'.cell? ⟨b', 2, none⟩ = some z' := by
  intro w' hB
  have l1 := (Array.getElem?_eq_some_iff.1 h).1
  have l2 := (Array.getElem?_eq_some_iff.1 h').1
  obtain ⟨⟨q0, q1, q2⟩, _⟩ := blk3 ((hB.block b l1).trans h)
  obtain ⟨⟨p0, p1, p2⟩, _⟩ := blk3 ((hB.block b' l2).trans h')
  exact ⟨q0, q1, q2, p0, p1, p2⟩
end Go.Proofs.YthebegfceaehfaaDoor

/- Row: Elements and rows of a tableau; sums. -/
namespace Go.Proofs.YthebegfceaehfaaDoor
open Go.RowKit

/-- A row of A. -/
def rowL (A : List Int) (S i : Nat) : List Int := (A.drop (i * S)).take S
theorem mul_bd {S i : Nat} (hi : i < S) (hS : S ≤ 8) : i * S + S ≤ S * S ∧ S * S ≤ 64 := by
  refine ⟨?_, Nat.mul_le_mul hS hS⟩
  have : (i + 1) * S ≤ S * S := Nat.mul_le_mul_right S hi
  rw [Nat.add_mul, Nat.one_mul] at this
  exact this
theorem rowL_len {A : List Int} {S i : Nat} (hA : A.length = S * S) (hi : i < S) : (rowL A S i).length = S := by
  have : (i + 1) * S ≤ S * S := Nat.mul_le_mul_right S hi
  rw [Nat.add_mul, Nat.one_mul] at this
  unfold rowL
  rw [List.length_take, List.length_drop]
  omega
theorem rowL_at {A : List Int} {S i j : Nat} (hj : j < S) : (rowL A S i).getD j 0 = A.getD (i * S + j) 0 := by
  simp [rowL, List.getD, hj]
theorem Rd.row {w : World} {b o n c : Nat} {A : List Int} {S i : Nat} (h : Rd w (some ⟨b, o, none⟩) n c A) (hn : n = S * S) (hi : i < S) : Rd w (some ⟨b, o + i * S, none⟩) S (c - i * S) (rowL A S i) := by
  have hm : (i + 1) * S ≤ S * S := Nat.mul_le_mul_right S hi
  rw [Nat.add_mul, Nat.one_mul] at hm
  refine ⟨rowL_len (h.len.trans hn) hi, by have := h.cap; omega, by have := h.max; omega, fun j hj => ⟨b, o + i * S, rfl, ?_⟩, fun x hx => h.wf x (List.mem_of_mem_drop (List.mem_of_mem_take hx))⟩
  obtain ⟨b', o', e, hc⟩ := h.cell (i * S + j) (by omega)
  simp only [Option.some.injEq, Addr.mk.injEq, and_true] at e
  obtain ⟨rfl, rfl⟩ := e
  rw [rowL_at hj, Nat.add_assoc]
  exact hc

theorem row_facts {S i n1 c1 : Nat} (hn : n1 = S * S) (hc : n1 ≤ c1) (hi : i < S) (hS : S ≤ 8) :
    (0 : Int) ≤ (i : Int) * (S : Int) ∧ (i : Int) * (S : Int) ≤ ((i : Int) + 1) * (S : Int) ∧ ((i : Int) + 1) * (S : Int) ≤ (c1 : Int) ∧ ((i : Int) + 1) * (S : Int) ≤ 64 ∧ ¬ c1 = i * S ∧
    (((i : Int) + 1) * (S : Int)).toNat = (i + 1) * S ∧ ((i : Int) * (S : Int)).toNat = i * S ∧ (i + 1) * S - i * S = S := by
  have hb := mul_bd hi hS
  have e1 : (i : Int) * (S : Int) = ((i * S : Nat) : Int) := by rw [Int.natCast_mul]
  have e2 : ((i : Int) + 1) * (S : Int) = (((i + 1) * S : Nat) : Int) := by rw [Int.natCast_mul]; rfl
  have e3 : (i + 1) * S = i * S + S := by rw [Nat.add_mul, Nat.one_mul]
  rw [e1, e2, Int.toNat_natCast, Int.toNat_natCast]
  omega
theorem impl_row (S i : Nat) (b o n1 c1 : Nat) (v2 : Value) (w : World) (hn : n1 = S * S) (hc : n1 ≤ c1) (_hm : c1 ≤ 9223372036854775807) (hi : i < S) (hS : S ≤ 8) :
    Calls Tryd.prog 48 #[.agg #[.int .i64 S, .slice (some ⟨b, o, none⟩) n1 c1, v2], .int .i64 i] w fun e w' => e = .returned (.slice (some ⟨b, o + i * S, none⟩) S (c1 - i * S)) ∧ Below w.heap.size w w' := by
  obtain ⟨f1, f2, f3, f4, f5, f6, f7, f8⟩ := row_facts hn hc hi hS
  have F8 := hid f8
  clear hn f8
  go_enter Tryd.func48, Tryd.ntmps48
  go_wp2_with fail
  go_ret
  exact ⟨by simp [F8.out], below_box _ _⟩
theorem spec_row (S i : Nat) (b o n1 c1 : Nat) (v2 : Value) (w : World) (hn : n1 = S * S) (hc : n1 ≤ c1) (_hm : c1 ≤ 9223372036854775807) (hi : i < S) (hS : S ≤ 8) :
    Calls Tryd.prog 35 #[.agg #[.int .i64 S, .slice (some ⟨b, o, none⟩) n1 c1, v2], .int .i64 i] w fun e w' => e = .returned (.slice (some ⟨b, o + i * S, none⟩) S (c1 - i * S)) ∧ Below w.heap.size w w' := by
  obtain ⟨f1, f2, f3, f4, f5, f6, f7, f8⟩ := row_facts hn hc hi hS
  have F8 := hid f8
  clear hn f8
  go_enter Tryd.func35, Tryd.ntmps35
  go_wp2_with fail
  go_ret
  exact ⟨by simp [F8.out], below_box _ _⟩

theorem at_facts {S i j n1 c1 : Nat} (hn : n1 = S * S) (_hc : n1 ≤ c1) (hi : i < S) (hj : j < S) (hS : S ≤ 8) :
    (0 : Int) ≤ (i : Int) * (S : Int) ∧ (i : Int) * (S : Int) + (j : Int) < (n1 : Int) ∧ (i : Int) * (S : Int) + (j : Int) ≤ 64 ∧ ((i : Int) * (S : Int) + (j : Int)).toNat = i * S + j ∧ i * S + j < n1 := by
  have hb := mul_bd hi hS
  have e1 : (i : Int) * (S : Int) = ((i * S : Nat) : Int) := by rw [Int.natCast_mul]
  rw [e1]
  omega
/-- An element of A. -/
def El (A : List Int) (S i j : Nat) (x : Int) : Prop := x = A.getD (i * S + j) 0
/-! ### sums -/
theorem sum_step {xs : List Int} {k : Nat} {n x : Int} (h : k < xs.length) (hn : n = M.sumL (xs.take k)) (e : x = xs.getD k 0) : M.plus n x = M.sumL (xs.take (k + 1)) := by
  subst e hn
  rw [take_snoc 0 xs k h]
  unfold M.sumL
  rw [List.foldl_append]
  rfl
theorem sum_bd {n : Int} {l : List Int} (h : n = M.sumL l) : M.num n := by
  subst h
  unfold M.sumL
  suffices h : ∀ (l : List Int) (a : Int), M.num a → M.num (l.foldl M.plus a) from h l 0 ⟨by decide, by decide⟩
  intro l
  induction l with
  | nil => exact fun a h => h
  | cons x l ih => exact fun a _ => ih _ (M.num_plus _ _)
end Go.Proofs.YthebegfceaehfaaDoor

/- Kind: KindOf. -/
namespace Go.Proofs.YthebegfceaehfaaDoor
open Go.RowKit

def kExp : ByteArray := ⟨#[101, 120, 112, 108, 105, 99, 105, 116]⟩
def kImp : ByteArray := ⟨#[105, 109, 112, 108, 105, 99, 105, 116]⟩
def kDia : ByteArray := ⟨#[100, 105, 97, 103, 111, 110, 97, 108]⟩
def kOf (b : Bool) : ByteArray := if b then kDia else kExp
def nz (A : List Int) (S i j : Nat) : Bool := A.getD (i * S + j) 0 != 0
/-- is there an element above the diagonal in the first rows? -/
def upTo (A : List Int) (S i : Nat) : Bool := (List.range i).any fun i => (List.range S).any fun j => decide (i < j) && nz A S i j
/-- is there one on the diagonal? -/
def dgTo (A : List Int) (S i : Nat) : Bool := (List.range i).any fun i => nz A S i i
/-- the same with the first elements of the row i -/
def upIn (A : List Int) (S i j : Nat) : Bool := (List.range j).any fun j => decide (i < j) && nz A S i j
def dgIn (A : List Int) (S i j : Nat) : Bool := dgTo A S i || decide (i < j) && nz A S i i
def kindOf (A : List Int) (S : Nat) : ByteArray := if upTo A S S then kImp else kOf (dgTo A S S)
theorem upTo_succ (A : List Int) (S i : Nat) : upTo A S (i + 1) = (upTo A S i || upIn A S i S) := by
  simp [upTo, upIn, List.range_succ]
theorem dgTo_succ (A : List Int) (S i : Nat) : dgTo A S (i + 1) = (dgTo A S i || nz A S i i) := by simp [dgTo, List.range_succ]
theorem upIn_succ (A : List Int) (S i j : Nat) : upIn A S i (j + 1) = (upIn A S i j || decide (i < j) && nz A S i j) := by simp [upIn, List.range_succ]
theorem upIn_start (A : List Int) (S i : Nat) : upIn A S i i = false := by
  unfold upIn
  rw [List.any_eq_false]
  intro x hx
  have := List.mem_range.1 hx
  simp
  omega
theorem nz_of {A : List Int} {S i j : Nat} {x : Int} (e : El A S i j x) : nz A S i j = !(x == 0) := by
  unfold El at e
  unfold nz
  rw [← e]
  rfl
theorem upIn_skip {A : List Int} {S i j : Nat} {x : Int} (h : upIn A S i j = false) (e : El A S i j x) (h0 : (x == 0) = true) : upIn A S i (j + 1) = false := by
  rw [upIn_succ, h, nz_of e, h0]
  simp
theorem upIn_diag {A : List Int} {S i : Nat} (h : upIn A S i i = false) : upIn A S i (i + 1) = false := by
  rw [upIn_succ, h]
  simp
theorem dgIn_skip {A : List Int} {S i j : Nat} {x : Int} (hij : i ≤ j) (e : El A S i j x) (h0 : (x == 0) = true) : dgIn A S i (j + 1) = dgIn A S i j := by
  unfold dgIn
  by_cases h : i = j
  · subst h
    rw [nz_of e, h0]
    simp
  · rw [show decide (i < j + 1) = decide (i < j) from by rw [decide_eq_decide]; omega]
theorem dgIn_diag {A : List Int} {S i : Nat} {x : Int} (e : El A S i i x) (h0 : (x == 0) = false) : dgIn A S i (i + 1) = true := by
  unfold dgIn
  rw [nz_of e, h0]
  simp
theorem up_hit {A : List Int} {S i j : Nat} {x : Int} (hi : i < S) (hj : j < S) (hij : i < j) (e : El A S i j x) (h0 : (x == 0) = false) : upTo A S S = true := by
  unfold upTo
  rw [List.any_eq_true]
  refine ⟨i, List.mem_range.2 hi, ?_⟩
  rw [List.any_eq_true]
  exact ⟨j, List.mem_range.2 hj, by rw [nz_of e, h0, decide_eq_true hij]; rfl⟩
theorem dgIn_start (A : List Int) (S i : Nat) : dgIn A S i i = dgTo A S i := by simp [dgIn]
theorem dgIn_end {A : List Int} {S i : Nat} (hi : i < S) : dgIn A S i S = dgTo A S (i + 1) := by rw [dgTo_succ]; simp [dgIn, hi]

theorem tabOk_parts {s : Int} {A B : List Int} {n1 n2 : Nat} (h : tabOk s A B = true) (hA : A.length = n1) (hB : B.length = n2) : ∃ S : Nat, s = S ∧ S ≤ 8 ∧ n1 = S * S ∧ n2 = S ∧ (∀ x ∈ A, M.num x) ∧ ∀ x ∈ B, M.num x := by
  unfold tabOk at h
  simp only [Bool.and_eq_true, decide_eq_true_eq] at h
  obtain ⟨⟨h0, h8, e1, e2⟩, hA', hB'⟩ := h
  obtain ⟨S, rfl⟩ := Int.eq_ofNat_of_zero_le h0
  refine ⟨S, rfl, by omega, ?_, by omega, M.allNum_mem hA', M.allNum_mem hB'⟩
  rw [← hA]
  have : ((A.length : Nat) : Int) = ((S * S : Nat) : Int) := by rw [e1, Int.natCast_mul]
  omega
def kindV (s : Int) (A B : List Int) : ByteArray := if tabOk s A B then kindOf A s.toNat else ⟨#[]⟩
end Go.Proofs.YthebegfceaehfaaDoor
