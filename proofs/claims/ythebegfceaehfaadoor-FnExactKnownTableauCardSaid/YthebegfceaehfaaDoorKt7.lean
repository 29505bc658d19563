/- Merged texts: PnS, Empty, Mk. -/
import Derived.Test.YthebegfceaehfaaDoorKt6
import Derived.Test.YthebegfceaehfaaDoorKt4
import Derived.RegionTactic
import Derived.BigRegion
import Derived.StillTailTactics
/- PnS: ParseNumber of the specification: the walk. -/
namespace Go.Proofs.YthebegfceaehfaaDoor
open Go.RowKit
attribute [local irreducible] M.powr

theorem pnS_no {l : List UInt8} (h : pnOk (valS l) l = false) : pnB l = false ∧ pnV l = 0 := by
  have hb : pnB l = false := by rw [← (pn_same l).1, h]
  exact ⟨hb, by unfold pnV; rw [hb]; rfl⟩
theorem pnS_yes {l : List UInt8} {v : Int} (hv : valS l = v) (hn : M.num v) (h : fmtN v = l) : pnB l = true ∧ pnV l = v := by
  have hb : pnB l = true := by
    rw [← (pn_same l).1]
    unfold pnOk
    rw [hv, M.isNum_true hn, h]; simp
  exact ⟨hb, by unfold pnV; rw [hb, if_pos rfl, ← (pn_same l).2 hb, hv]⟩
theorem pnS_neg {l : List UInt8} (h : valS l < 0) : pnOk (valS l) l = false := by
  unfold pnOk
  rw [M.isNum_false (fun hn => by have := hn.1; omega)]; rfl
theorem pnS_other {l : List UInt8} {v : Int} (hv : valS l = v) (h : fmtN v ≠ l) : pnOk (valS l) l = false := by
  unfold pnOk
  rw [hv, decide_eq_false h, Bool.and_false]
/-- One piece, two, or more. -/
theorem quoS_one {g : Int} {t p0 : List UInt8} (h : sp1 47 t = [p0]) : quoS g t = if rdS p0 < 0 then -1 else M.frac (g * rdS p0) 1 := by
  unfold quoS
  rw [h]
  simp
theorem quoS_two {g : Int} {t p0 p1 : List UInt8} (h : sp1 47 t = [p0, p1]) : quoS g t = if rdS p0 < 0 ∨ rdS p1 < 0 then -1 else M.frac (g * rdS p0) (rdS p1) := by
  unfold quoS
  rw [h]
  simp
theorem quoS_more {g : Int} {t : List UInt8} (h : (sp1 47 t).length > 2) : quoS g t = -1 := by
  unfold quoS
  rw [if_pos (.inr (.inr h))]
theorem sp1_le (c : UInt8) : ∀ (l : List UInt8) (p : List UInt8), p ∈ sp1 c l → p.length ≤ l.length
  | [], p, h => by simp [sp1] at h; subst h; simp
  | b :: l, p, h => by
    rw [sp1] at h
    split at h
    · rcases List.mem_cons.1 h with rfl | h
      · simp
      · have := sp1_le c l p h; simp; omega
    · cases hs : sp1 c l with
      | nil => exact absurd hs (sp1_ne c l)
      | cons x xs =>
        rw [hs] at h
        simp only at h
        rcases List.mem_cons.1 h with rfl | h
        · have := sp1_le c l x (by rw [hs]; exact List.mem_cons_self); simp; omega
        · have := sp1_le c l p (by rw [hs]; exact List.mem_cons_of_mem _ h); simp; omega
-- WALKS
theorem head_byte {s : ByteArray} {c : UInt8} (hp : 0 < s.size) (h : s.data.toList.getD 0 0 = c) : ((s[0].toNat : Int) == (c.toNat : Int)) = true := by
  rw [byte_at s 0 hp] at h
  rw [h, beq_iff_eq]
theorem head_byte_no {s : ByteArray} {c : UInt8} (hp : 0 < s.size) (h : s.data.toList.getD 0 0 ≠ c) : ((s[0].toNat : Int) == (c.toNat : Int)) = false := by
  rw [byte_at s 0 hp] at h
  rw [beq_eq_false_iff_ne]
  intro e
  exact h (UInt8.toNat_inj.1 (by omega))
theorem ne_nil_of_size {s : ByteArray} (hp : 0 < s.size) : s.data.toList ≠ [] := fun e => by
  have := bytes_len s
  rw [e] at this
  simp at this
  omega
theorem spec_ParseNumber_empty (s : ByteArray) (w : World) (h : s.size = 0) :
    Calls Tryd.prog 32 #[.string s] w fun e w' => e = .returned (.tuple #[.int .i64 (pnV s.data.toList), .bool (pnB s.data.toList)]) ∧ Below w.heap.size w w' := by
  have hl : s.data.toList = [] := List.eq_nil_of_length_eq_zero (by rw [bytes_len]; exact h)
  have HN := hid (pnS_no (l := s.data.toList) (pnS_neg (by rw [hl]; decide)))
  have hE : s.toList = [] := by rw [Lib.toList_data]; exact hl
  have hE2 : s.toList.isEmpty = true := by rw [hE]; rfl
  have HB := hid (Below.refl w.heap.size w)
  clear hl h
  go_enter Tryd.func32, Tryd.ntmps32
  go_wp2_with fail
  go_ret2
  exact ⟨ret_ib' ⟨HN.out.1.symm, HN.out.2.symm⟩, HB.out⟩
set_option maxHeartbeats 1000000 in
theorem spec_ParseNumber_hash (s : ByteArray) (w : World) (hs : s.size ≤ 1048576) (hp : 0 < s.size) (h : s.data.toList.getD 0 0 = 35) :
    Calls Tryd.prog 32 #[.string s] w fun e w' => e = .returned (.tuple #[.int .i64 (pnV s.data.toList), .bool (pnB s.data.toList)]) ∧ Below w.heap.size w w' := by
  have hV : valS s.data.toList = rdS (s.data.toList.drop 1) := by unfold valS; rw [if_pos h]
  have HH := hid (ne_nil_of_size hp)
  have q35 : ((s[0].toNat : Int) == 35) = true := head_byte hp h
  have hszi : (1 : Int) ≤ (s.size : Int) := by omega
  have hE : (s.toList == []) = false := by
    rw [beq_eq_false_iff_ne, Lib.toList_data]
    intro e
    have := bytes_len s
    rw [e] at this
    simp at this
    omega
  have hE2 : s.toList.isEmpty = false := by
    rw [List.isEmpty_eq_false_iff]
    simpa using hE
  have HE := hid (Lib.extract_to_end s 1)
  have HR : Hid (∀ w, Calls Tryd.prog 57 #[.string (s.extract 1 s.size)] w fun e w' => e = .returned (.int .i64 (rdS (s.data.toList.drop 1))) ∧ w = w') := hid fun w => by
    have h := spec_l1Digits (s.extract 1 s.size) w (by rw [ByteArray.size_extract]; omega)
    rw [HE.out] at h
    exact h
  have hbd := rdS_bd (s.data.toList.drop 1)
  generalize hv : rdS (s.data.toList.drop 1) = v at hV hbd HR
  have HV := hid hV
  have HB := hid (Below.refl w.heap.size w)
  clear hV hv h
  go_enter Tryd.func32, Tryd.ntmps32
  go_wp2_with fail
  refine (HR.out _).mono ?_
  rintro e w' ⟨rfl, rfl⟩
  have NE := hid (show fmtN v = s.data.toList → M.num v from fun h => num_of_fmt h HH.out)
  obtain ⟨tx, htx⟩ : ∃ tx, tx = bs (fmtN v) := ⟨_, rfl⟩
  have HTX := hid htx
  clear htx
  by_cases he : fmtN v = s.data.toList
  · have hq : (tx.toList == s.toList) = true := by rw [HTX.out, str_eq, decide_eq_true he]
    have HY := hid (pnS_yes HV.out (NE.out he) he)
    clear he
    go_wp2_with fail
    refine (spec_FormatNumber v _).mono ?_
    rw [← HTX.out]
    rintro e w' ⟨rfl, hB'⟩
    have HB' := hid (l_below HB.out hB')
    clear hB'
    go_wp2_with fail
    go_ret2
    exact ⟨ret_ib' ⟨HY.out.1.symm, HY.out.2.symm⟩, HB'.out⟩
  · have hq : (tx.toList == s.toList) = false := by rw [HTX.out, str_eq, decide_eq_false he]
    have HN := hid (pnS_no (pnS_other HV.out he))
    clear he
    go_wp2_with fail
    refine (spec_FormatNumber v _).mono ?_
    rw [← HTX.out]
    rintro e w' ⟨rfl, hB'⟩
    have HB' := hid (l_below HB.out hB')
    clear hB'
    go_wp2_with fail
    go_ret2
    exact ⟨ret_ib' ⟨HN.out.1.symm, HN.out.2.symm⟩, HB'.out⟩
set_option maxHeartbeats 4000000 in
theorem spec_ParseNumber_neg (s : ByteArray) (w : World) (hs : s.size ≤ 1048576) (hp : 0 < s.size) (hnh : s.data.toList.getD 0 0 ≠ 35) (hmi : s.data.toList.getD 0 0 = 45) :
    Calls Tryd.prog 32 #[.string s] w fun e w' => e = .returned (.tuple #[.int .i64 (pnV s.data.toList), .bool (pnB s.data.toList)]) ∧ Below w.heap.size w w' := by
  have hv : valS s.data.toList = quoS (-1) (s.data.toList.drop 1) := by unfold valS; rw [if_neg hnh, if_pos hmi]
  have HVV := hid hv
  have HH := hid (ne_nil_of_size hp)
  have q35 : ((s[0].toNat : Int) == 35) = false := head_byte_no hp hnh
  have q45 : ((s[0].toNat : Int) == 45) = true := head_byte hp hmi
  have hszi : (1 : Int) ≤ (s.size : Int) := by omega
  have hE : (s.toList == []) = false := by
    rw [beq_eq_false_iff_ne, Lib.toList_data]
    intro e
    have := bytes_len s
    rw [e] at this
    simp at this
    omega
  have hE2 : s.toList.isEmpty = false := by
    rw [List.isEmpty_eq_false_iff]
    simpa using hE
  obtain ⟨T, hT⟩ : ∃ T, T = (s.extract 1 s.size) := ⟨_, rfl⟩
  have hTl : T.data.toList = s.data.toList.drop 1 := by rw [hT]; exact Lib.extract_to_end s 1
  have hTs : T.size ≤ s.size := by rw [hT]; rw [ByteArray.size_extract]; omega
  have CC := hid (fun w => spec_l1Cut T 47 47 w (by omega) rfl)
  rw [hTl] at CC
  have HTE := hid hT
  clear hv hnh hmi hT hTl
  go_enter Tryd.func32, Tryd.ntmps32
  go_wp2_with fail
  rw [← HTE.out]
  refine (CC.out _).mono ?_
  rintro e w1 ⟨v, n, rfl, hn, hS, hB⟩
  have HB := hid hB
  clear hB
  obtain ⟨gb, gc, hv⟩ := hS.at
  have hlen := hS.len
  rcases hv with ⟨_, h0⟩ | ⟨rfl, hcap, _, hcell⟩
  · exact absurd (List.eq_nil_of_length_eq_zero (hlen.trans h0)) (sp1_ne _ _)
  · have hle := sp1_le 47 (s.data.toList.drop 1)
    have hPQ : (s.data.toList.drop 1).length ≤ s.size := by rw [List.length_drop, bytes_len]; omega
    cases hP : sp1 47 (s.data.toList.drop 1) with
    | nil => exact absurd hP (sp1_ne _ _)
    | cons p0 R =>
      rw [hP] at hlen hcell hle
      have u0 := hcell 0 (bs p0) rfl
      rw [Nat.zero_add] at u0
      have l0 : (bs p0).size ≤ 4294967280 := by rw [bs_size]; have := hle p0 (by simp); omega
      have DX : Hid (∀ w, Calls Tryd.prog 57 #[.string (bs p0)] w fun e w' => e = .returned (.int .i64 (rdS p0)) ∧ w = w') := hid fun w => by
        have h := spec_l1Digits (bs p0) w l0
        rwa [bs_data] at h
      have hba := rdS_bd p0
      obtain ⟨X, hX⟩ : ∃ X, X = bs p0 := ⟨_, rfl⟩
      rw [← hX] at u0 DX
      cases R with
      | nil =>
        have hq := quoS_one (g := (-1)) hP
        obtain rfl : n = 1 := by simpa using hlen.symm
        generalize rdS p0 = a at hq hba DX
        clear hS hcell hle hPQ hP hX l0 hlen CC
        have DX' := DX
        clear DX
        go_wp2_with fail
        refine (DX'.out _).mono ?_
        rintro e w4 ⟨rfl, rfl⟩
        by_cases ha : a < 0
        · have HN := hid (pnS_no (pnS_neg (by rw [HVV.out, hq, if_pos ha]; decide)))
          clear hq
          go_wp2_with fail
          go_ret2
          exact ⟨ret_ib' ⟨HN.out.1.symm, HN.out.2.symm⟩, HB.out⟩
        · rw [if_neg ha] at hq
          have hV : valS s.data.toList = M.frac ((-1) * a) 1 := by rw [HVV.out, hq]
          clear hq
          go_wp2_with fail
          refine (spec_Fraction _ 1 _).mono ?_
          rw [show M.frac (-a) 1 = M.frac ((-1) * a) 1 by congr 1; omega]
          generalize M.frac ((-1) * a) 1 = v at hV
          have HV := hid hV
          clear hV
          rintro e w5 ⟨rfl, rfl⟩
          have NE := hid (show fmtN v = s.data.toList → M.num v from fun h => num_of_fmt h HH.out)
          obtain ⟨tx, htx⟩ : ∃ tx, tx = bs (fmtN v) := ⟨_, rfl⟩
          have HTX := hid htx
          clear htx
          by_cases he : fmtN v = s.data.toList
          · have hq : (tx.toList == s.toList) = true := by rw [HTX.out, str_eq, decide_eq_true he]
            have HY := hid (pnS_yes HV.out (NE.out he) he)
            clear he
            go_wp2_with fail
            refine (spec_FormatNumber v _).mono ?_
            rw [← HTX.out]
            rintro e w' ⟨rfl, hB'⟩
            have HB' := hid (l_below HB.out hB')
            clear hB'
            go_wp2_with fail
            go_ret2
            exact ⟨ret_ib' ⟨HY.out.1.symm, HY.out.2.symm⟩, HB'.out⟩
          · have hq : (tx.toList == s.toList) = false := by rw [HTX.out, str_eq, decide_eq_false he]
            have HN := hid (pnS_no (pnS_other HV.out he))
            clear he
            go_wp2_with fail
            refine (spec_FormatNumber v _).mono ?_
            rw [← HTX.out]
            rintro e w' ⟨rfl, hB'⟩
            have HB' := hid (l_below HB.out hB')
            clear hB'
            go_wp2_with fail
            go_ret2
            exact ⟨ret_ib' ⟨HN.out.1.symm, HN.out.2.symm⟩, HB'.out⟩
      | cons p1 R2 =>
        have u1 := hcell 1 (bs p1) rfl
        rw [Nat.zero_add] at u1
        have l1 : (bs p1).size ≤ 4294967280 := by rw [bs_size]; have := hle p1 (by simp); omega
        have DY : Hid (∀ w, Calls Tryd.prog 57 #[.string (bs p1)] w fun e w' => e = .returned (.int .i64 (rdS p1)) ∧ w = w') := hid fun w => by
          have h := spec_l1Digits (bs p1) w l1
          rwa [bs_data] at h
        have hbb := rdS_bd p1
        obtain ⟨Y, hY⟩ : ∃ Y, Y = bs p1 := ⟨_, rfl⟩
        rw [← hY] at u1 DY
        cases R2 with
        | nil =>
          have hq := quoS_two (g := (-1)) hP
          obtain rfl : n = 2 := by simpa using hlen.symm
          generalize rdS p0 = a at hq hba DX
          generalize rdS p1 = b at hq hbb DY
          clear hS hcell hle hPQ hP hX hY l0 l1 hlen CC
          go_wp2_with fail
          refine (DX.out _).mono ?_
          rintro e w4 ⟨rfl, rfl⟩
          go_wp2_with fail
          refine (DY.out _).mono ?_
          rintro e w5 ⟨rfl, rfl⟩
          by_cases ha : a < 0
          · have HN := hid (pnS_no (pnS_neg (by rw [HVV.out, hq, if_pos (Or.inl ha)]; decide)))
            clear hq
            go_wp2_with fail
            go_ret2
            exact ⟨ret_ib' ⟨HN.out.1.symm, HN.out.2.symm⟩, HB.out⟩
          · by_cases hb : b < 0
            · have HN := hid (pnS_no (pnS_neg (by rw [HVV.out, hq, if_pos (Or.inr hb)]; decide)))
              clear hq
              go_wp2_with fail
              go_ret2
              exact ⟨ret_ib' ⟨HN.out.1.symm, HN.out.2.symm⟩, HB.out⟩
            · rw [if_neg (by omega)] at hq
              have hV : valS s.data.toList = M.frac ((-1) * a) b := by rw [HVV.out, hq]
              clear hq
              go_wp2_with fail
              refine (spec_Fraction _ b _).mono ?_
              rw [show M.frac (-a) b = M.frac ((-1) * a) b by congr 1; omega]
              generalize M.frac ((-1) * a) b = v at hV
              have HV := hid hV
              clear hV
              rintro e w5 ⟨rfl, rfl⟩
              have NE := hid (show fmtN v = s.data.toList → M.num v from fun h => num_of_fmt h HH.out)
              obtain ⟨tx, htx⟩ : ∃ tx, tx = bs (fmtN v) := ⟨_, rfl⟩
              have HTX := hid htx
              clear htx
              by_cases he : fmtN v = s.data.toList
              · have hq : (tx.toList == s.toList) = true := by rw [HTX.out, str_eq, decide_eq_true he]
                have HY := hid (pnS_yes HV.out (NE.out he) he)
                clear he
                go_wp2_with fail
                refine (spec_FormatNumber v _).mono ?_
                rw [← HTX.out]
                rintro e w' ⟨rfl, hB'⟩
                have HB' := hid (l_below HB.out hB')
                clear hB'
                go_wp2_with fail
                go_ret2
                exact ⟨ret_ib' ⟨HY.out.1.symm, HY.out.2.symm⟩, HB'.out⟩
              · have hq : (tx.toList == s.toList) = false := by rw [HTX.out, str_eq, decide_eq_false he]
                have HN := hid (pnS_no (pnS_other HV.out he))
                clear he
                go_wp2_with fail
                refine (spec_FormatNumber v _).mono ?_
                rw [← HTX.out]
                rintro e w' ⟨rfl, hB'⟩
                have HB' := hid (l_below HB.out hB')
                clear hB'
                go_wp2_with fail
                go_ret2
                exact ⟨ret_ib' ⟨HN.out.1.symm, HN.out.2.symm⟩, HB'.out⟩
        | cons p2 R3 =>
          have hq := quoS_more (g := (-1)) (t := s.data.toList.drop 1) (by rw [hP]; simp)
          have hn3 : 3 ≤ n := by simp at hlen; omega
          have n1 : (1 : Int) < (n : Int) := by omega
          have n2 : (2 : Int) < (n : Int) := by omega
          have HN := hid (pnS_no (l := s.data.toList) (pnS_neg (by rw [HVV.out, hq]; decide)))
          generalize rdS p0 = a at hba DX
          generalize rdS p1 = b at hbb DY
          clear hS hcell hle hPQ hP hX hY l0 l1 hlen CC hq
          go_wp2_with fail
          refine (DX.out _).mono ?_
          rintro e w4 ⟨rfl, rfl⟩
          go_wp2_with fail
          refine (DY.out _).mono ?_
          rintro e w5 ⟨rfl, rfl⟩
          by_cases ha : a < 0
          · skip
            go_wp2_with fail
            go_ret2
            exact ⟨ret_ib' ⟨HN.out.1.symm, HN.out.2.symm⟩, HB.out⟩
          · by_cases hb : b < 0
            · skip
              go_wp2_with fail
              go_ret2
              exact ⟨ret_ib' ⟨HN.out.1.symm, HN.out.2.symm⟩, HB.out⟩
            · skip
              go_wp2_with fail
              go_ret2
              exact ⟨ret_ib' ⟨HN.out.1.symm, HN.out.2.symm⟩, HB.out⟩
set_option maxHeartbeats 4000000 in
theorem spec_ParseNumber_pos (s : ByteArray) (w : World) (hs : s.size ≤ 1048576) (hp : 0 < s.size) (hnh : s.data.toList.getD 0 0 ≠ 35) (hmi : s.data.toList.getD 0 0 ≠ 45) :
    Calls Tryd.prog 32 #[.string s] w fun e w' => e = .returned (.tuple #[.int .i64 (pnV s.data.toList), .bool (pnB s.data.toList)]) ∧ Below w.heap.size w w' := by
  have hv : valS s.data.toList = quoS 1 (s.data.toList) := by unfold valS; rw [if_neg hnh, if_neg hmi]
  have HVV := hid hv
  have HH := hid (ne_nil_of_size hp)
  have q35 : ((s[0].toNat : Int) == 35) = false := head_byte_no hp hnh
  have q45 : ((s[0].toNat : Int) == 45) = false := head_byte_no hp hmi
  have hszi : (1 : Int) ≤ (s.size : Int) := by omega
  have hE : (s.toList == []) = false := by
    rw [beq_eq_false_iff_ne, Lib.toList_data]
    intro e
    have := bytes_len s
    rw [e] at this
    simp at this
    omega
  have hE2 : s.toList.isEmpty = false := by
    rw [List.isEmpty_eq_false_iff]
    simpa using hE
  have hTl : s.data.toList = s.data.toList := rfl
  have hTs : s.size ≤ s.size := Nat.le_refl _
  have CC := hid (fun w => spec_l1Cut s 47 47 w (by omega) rfl)
  rw [hTl] at CC
  clear hv hnh hmi hTl
  go_enter Tryd.func32, Tryd.ntmps32
  go_wp2_with fail
  skip
  refine (CC.out _).mono ?_
  rintro e w1 ⟨v, n, rfl, hn, hS, hB⟩
  have HB := hid hB
  clear hB
  obtain ⟨gb, gc, hv⟩ := hS.at
  have hlen := hS.len
  rcases hv with ⟨_, h0⟩ | ⟨rfl, hcap, _, hcell⟩
  · exact absurd (List.eq_nil_of_length_eq_zero (hlen.trans h0)) (sp1_ne _ _)
  · have hle := sp1_le 47 (s.data.toList)
    have hPQ : (s.data.toList).length ≤ s.size := Nat.le_of_eq (bytes_len s)
    cases hP : sp1 47 (s.data.toList) with
    | nil => exact absurd hP (sp1_ne _ _)
    | cons p0 R =>
      rw [hP] at hlen hcell hle
      have u0 := hcell 0 (bs p0) rfl
      rw [Nat.zero_add] at u0
      have l0 : (bs p0).size ≤ 4294967280 := by rw [bs_size]; have := hle p0 (by simp); omega
      have DX : Hid (∀ w, Calls Tryd.prog 57 #[.string (bs p0)] w fun e w' => e = .returned (.int .i64 (rdS p0)) ∧ w = w') := hid fun w => by
        have h := spec_l1Digits (bs p0) w l0
        rwa [bs_data] at h
      have hba := rdS_bd p0
      obtain ⟨X, hX⟩ : ∃ X, X = bs p0 := ⟨_, rfl⟩
      rw [← hX] at u0 DX
      cases R with
      | nil =>
        have hq := quoS_one (g := 1) hP
        obtain rfl : n = 1 := by simpa using hlen.symm
        generalize rdS p0 = a at hq hba DX
        clear hS hcell hle hPQ hP hX l0 hlen CC
        have DX' := DX
        clear DX
        go_wp2_with fail
        refine (DX'.out _).mono ?_
        rintro e w4 ⟨rfl, rfl⟩
        by_cases ha : a < 0
        · have HN := hid (pnS_no (pnS_neg (by rw [HVV.out, hq, if_pos ha]; decide)))
          clear hq
          go_wp2_with fail
          go_ret2
          exact ⟨ret_ib' ⟨HN.out.1.symm, HN.out.2.symm⟩, HB.out⟩
        · rw [if_neg ha] at hq
          have hV : valS s.data.toList = M.frac (1 * a) 1 := by rw [HVV.out, hq]
          clear hq
          go_wp2_with fail
          refine (spec_Fraction _ 1 _).mono ?_
          rw [show M.frac a 1 = M.frac (1 * a) 1 by congr 1; omega]
          generalize M.frac (1 * a) 1 = v at hV
          have HV := hid hV
          clear hV
          rintro e w5 ⟨rfl, rfl⟩
          have NE := hid (show fmtN v = s.data.toList → M.num v from fun h => num_of_fmt h HH.out)
          obtain ⟨tx, htx⟩ : ∃ tx, tx = bs (fmtN v) := ⟨_, rfl⟩
          have HTX := hid htx
          clear htx
          by_cases he : fmtN v = s.data.toList
          · have hq : (tx.toList == s.toList) = true := by rw [HTX.out, str_eq, decide_eq_true he]
            have HY := hid (pnS_yes HV.out (NE.out he) he)
            clear he
            go_wp2_with fail
            refine (spec_FormatNumber v _).mono ?_
            rw [← HTX.out]
            rintro e w' ⟨rfl, hB'⟩
            have HB' := hid (l_below HB.out hB')
            clear hB'
            go_wp2_with fail
            go_ret2
            exact ⟨ret_ib' ⟨HY.out.1.symm, HY.out.2.symm⟩, HB'.out⟩
          · have hq : (tx.toList == s.toList) = false := by rw [HTX.out, str_eq, decide_eq_false he]
            have HN := hid (pnS_no (pnS_other HV.out he))
            clear he
            go_wp2_with fail
            refine (spec_FormatNumber v _).mono ?_
            rw [← HTX.out]
            rintro e w' ⟨rfl, hB'⟩
            have HB' := hid (l_below HB.out hB')
            clear hB'
            go_wp2_with fail
            go_ret2
            exact ⟨ret_ib' ⟨HN.out.1.symm, HN.out.2.symm⟩, HB'.out⟩
      | cons p1 R2 =>
        have u1 := hcell 1 (bs p1) rfl
        rw [Nat.zero_add] at u1
        have l1 : (bs p1).size ≤ 4294967280 := by rw [bs_size]; have := hle p1 (by simp); omega
        have DY : Hid (∀ w, Calls Tryd.prog 57 #[.string (bs p1)] w fun e w' => e = .returned (.int .i64 (rdS p1)) ∧ w = w') := hid fun w => by
          have h := spec_l1Digits (bs p1) w l1
          rwa [bs_data] at h
        have hbb := rdS_bd p1
        obtain ⟨Y, hY⟩ : ∃ Y, Y = bs p1 := ⟨_, rfl⟩
        rw [← hY] at u1 DY
        cases R2 with
        | nil =>
          have hq := quoS_two (g := 1) hP
          obtain rfl : n = 2 := by simpa using hlen.symm
          generalize rdS p0 = a at hq hba DX
          generalize rdS p1 = b at hq hbb DY
          clear hS hcell hle hPQ hP hX hY l0 l1 hlen CC
          go_wp2_with fail
          refine (DX.out _).mono ?_
          rintro e w4 ⟨rfl, rfl⟩
          go_wp2_with fail
          refine (DY.out _).mono ?_
          rintro e w5 ⟨rfl, rfl⟩
          by_cases ha : a < 0
          · have HN := hid (pnS_no (pnS_neg (by rw [HVV.out, hq, if_pos (Or.inl ha)]; decide)))
            clear hq
            go_wp2_with fail
            go_ret2
            exact ⟨ret_ib' ⟨HN.out.1.symm, HN.out.2.symm⟩, HB.out⟩
          · by_cases hb : b < 0
            · have HN := hid (pnS_no (pnS_neg (by rw [HVV.out, hq, if_pos (Or.inr hb)]; decide)))
              clear hq
              go_wp2_with fail
              go_ret2
              exact ⟨ret_ib' ⟨HN.out.1.symm, HN.out.2.symm⟩, HB.out⟩
            · rw [if_neg (by omega)] at hq
              have hV : valS s.data.toList = M.frac (1 * a) b := by rw [HVV.out, hq]
              clear hq
              go_wp2_with fail
              refine (spec_Fraction _ b _).mono ?_
              rw [show M.frac a b = M.frac (1 * a) b by congr 1; omega]
              generalize M.frac (1 * a) b = v at hV
              have HV := hid hV
              clear hV
              rintro e w5 ⟨rfl, rfl⟩
              have NE := hid (show fmtN v = s.data.toList → M.num v from fun h => num_of_fmt h HH.out)
              obtain ⟨tx, htx⟩ : ∃ tx, tx = bs (fmtN v) := ⟨_, rfl⟩
              have HTX := hid htx
              clear htx
              by_cases he : fmtN v = s.data.toList
              · have hq : (tx.toList == s.toList) = true := by rw [HTX.out, str_eq, decide_eq_true he]
                have HY := hid (pnS_yes HV.out (NE.out he) he)
                clear he
                go_wp2_with fail
                refine (spec_FormatNumber v _).mono ?_
                rw [← HTX.out]
                rintro e w' ⟨rfl, hB'⟩
                have HB' := hid (l_below HB.out hB')
                clear hB'
                go_wp2_with fail
                go_ret2
                exact ⟨ret_ib' ⟨HY.out.1.symm, HY.out.2.symm⟩, HB'.out⟩
              · have hq : (tx.toList == s.toList) = false := by rw [HTX.out, str_eq, decide_eq_false he]
                have HN := hid (pnS_no (pnS_other HV.out he))
                clear he
                go_wp2_with fail
                refine (spec_FormatNumber v _).mono ?_
                rw [← HTX.out]
                rintro e w' ⟨rfl, hB'⟩
                have HB' := hid (l_below HB.out hB')
                clear hB'
                go_wp2_with fail
                go_ret2
                exact ⟨ret_ib' ⟨HN.out.1.symm, HN.out.2.symm⟩, HB'.out⟩
        | cons p2 R3 =>
          have hq := quoS_more (g := 1) (t := s.data.toList) (by rw [hP]; simp)
          have hn3 : 3 ≤ n := by simp at hlen; omega
          have n1 : (1 : Int) < (n : Int) := by omega
          have n2 : (2 : Int) < (n : Int) := by omega
          have HN := hid (pnS_no (l := s.data.toList) (pnS_neg (by rw [HVV.out, hq]; decide)))
          generalize rdS p0 = a at hba DX
          generalize rdS p1 = b at hbb DY
          clear hS hcell hle hPQ hP hX hY l0 l1 hlen CC hq
          go_wp2_with fail
          refine (DX.out _).mono ?_
          rintro e w4 ⟨rfl, rfl⟩
          go_wp2_with fail
          refine (DY.out _).mono ?_
          rintro e w5 ⟨rfl, rfl⟩
          by_cases ha : a < 0
          · skip
            go_wp2_with fail
            go_ret2
            exact ⟨ret_ib' ⟨HN.out.1.symm, HN.out.2.symm⟩, HB.out⟩
          · by_cases hb : b < 0
            · skip
              go_wp2_with fail
              go_ret2
              exact ⟨ret_ib' ⟨HN.out.1.symm, HN.out.2.symm⟩, HB.out⟩
            · skip
              go_wp2_with fail
              go_ret2
              exact ⟨ret_ib' ⟨HN.out.1.symm, HN.out.2.symm⟩, HB.out⟩
theorem spec_ParseNumber (s : ByteArray) (w : World) (hs : s.size ≤ 1048576) :
    Calls Tryd.prog 32 #[.string s] w fun e w' => e = .returned (.tuple #[.int .i64 (pnV s.data.toList), .bool (pnB s.data.toList)]) ∧ Below w.heap.size w w' := by
  by_cases h0 : s.size = 0
  · exact spec_ParseNumber_empty s w h0
  · have hp : 0 < s.size := by omega
    by_cases h : s.data.toList.getD 0 0 = 35
    · exact spec_ParseNumber_hash s w hs hp h
    · by_cases h2 : s.data.toList.getD 0 0 = 45
      · exact spec_ParseNumber_neg s w hs hp h h2
      · exact spec_ParseNumber_pos s w hs hp h h2
end Go.Proofs.YthebegfceaehfaaDoor

/- Empty: A tableau with zeros, in new memory. -/
namespace Go.Proofs.YthebegfceaehfaaDoor
open Go.RowKit

def zeros (n : Nat) : Array Value := ((List.replicate n (0 : Int)).map (Value.int .i64)).toArray
theorem run_mk (n : Nat) (z : Int) (hz : z = n) (hn : n ≤ 2097152) (w : World) :
    (Instr.makeSlice 22 (.int .i64 z) (.int .i64 z)).run Tryd.prog w = .ok (.slice (some ⟨w.heap.size, 0, none⟩) n n) (w.alloc (.cells (zeros n) 3)) := by
  obtain ⟨i, hi, hz0, hz1, hz2⟩ := info_parts info_int
  subst hz
  have h := run_make (P := Tryd.prog) w 22 3 i (.int .i64 0) Tryd.underlying22 hi hz0 .i64 .i64 n n (by omega) (Int.le_refl _) (by rw [hz2]; omega) (by omega)
  rw [h, Int.toNat_natCast, hz1]
  have e : madeCells (Value.int .i64 0).cells (n * 1) = zeros n := by
    apply Array.toList_inj.1
    rw [show (Value.int .i64 0).cells = #[Value.int .i64 0] from rfl, Nat.mul_one, toList_madeCells_one]
    simp [zeros]
  rw [e]
theorem fr_zeros {w : World} {lo b n : Nat} (h : w.heap[b]? = some (.cells (zeros n) 3 (0, 0))) (hb : lo ≤ b) (hn : n ≤ 2097152) : Fr w lo (some ⟨b, 0, none⟩) n n (List.replicate n 0) := by
  refine ⟨⟨by simp, Nat.le_refl _, by omega, fun i hi => ⟨b, 0, rfl, ?_⟩, fun x hx => by rw [(List.mem_replicate.1 hx).2]; exact ⟨by decide, by decide⟩⟩, fun b' o s e _ => ?_⟩
  · rw [Nat.zero_add, cell_of_row w b i _ _ _ h]
    simp [zeros, List.getD, hi]
  · simp only [Option.some.injEq, Addr.mk.injEq] at e
    obtain ⟨rfl, rfl, rfl⟩ := e
    exact ⟨hb, fun i _ => frozen_of_row w _ _ _ _ h⟩
theorem two_blocks (w : World) (X : Obj) (m n : Nat) (hm : m ≤ 2097152) (hn : n ≤ 2097152) :
    Fr (((w.alloc X).alloc (.cells (zeros m) 3)).alloc (.cells (zeros n) 3)).drew w.heap.size (some ⟨w.heap.size + 1, 0, none⟩) m m (List.replicate m 0) ∧
    Fr (((w.alloc X).alloc (.cells (zeros m) 3)).alloc (.cells (zeros n) 3)).drew w.heap.size (some ⟨w.heap.size + 1 + 1, 0, none⟩) n n (List.replicate n 0) ∧
    Below w.heap.size w (((w.alloc X).alloc (.cells (zeros m) 3)).alloc (.cells (zeros n) 3)).drew ∧
    (((w.alloc X).alloc (.cells (zeros m) 3)).alloc (.cells (zeros n) 3)).drew.heap[w.heap.size]? = some X := by
  have e1 : ((w.alloc X).alloc (.cells (zeros m) 3)).heap.size = w.heap.size + 1 + 1 := by simp
  have e2 : (w.alloc X).heap.size = w.heap.size + 1 := by simp
  refine ⟨fr_zeros (w := (((w.alloc X).alloc (.cells (zeros m) 3)).alloc (.cells (zeros n) 3)).drew) ?_ (by omega) hm, fr_zeros (w := (((w.alloc X).alloc (.cells (zeros m) 3)).alloc (.cells (zeros n) 3)).drew) ?_ (by omega) hn, ?_, ?_⟩
  · show (((w.alloc X).alloc _).alloc _).heap[w.heap.size + 1]? = _
    rw [heap_alloc_past _ _ _ (by omega), heap_alloc_at _ _ _ _ e2.symm]
  · show (((w.alloc X).alloc _).alloc _).heap[w.heap.size + 1 + 1]? = _
    rw [heap_alloc_at _ _ _ _ e1.symm]
  · exact ((((below_box w X).alloc (by omega) _).alloc (by omega) _)).drew
  · show (((w.alloc X).alloc _).alloc _).heap[w.heap.size]? = _
    rw [heap_alloc_past _ _ _ (by omega), heap_alloc_past _ _ _ (by omega)]
    exact _root_.Go.heap_alloc_new w X
/-- What 'empty' leaves. -/
def Blank (w w' : World) (nA S bA bB : Nat) : Prop :=
  Fr w' w.heap.size (some ⟨bA, 0, none⟩) nA nA (List.replicate nA 0) ∧ Fr w' w.heap.size (some ⟨bB, 0, none⟩) S S (List.replicate S 0) ∧ bA ≠ bB ∧ Below w.heap.size w w' ∧ w.heap.size ≤ bA ∧ w.heap.size ≤ bB ∧ bA < w'.heap.size ∧ bB < w'.heap.size
theorem impl_empty (S nA : Nat) (w : World) (hS : S ≤ 8) (hA : nA = S * S) :
    Calls Tryd.prog 15 #[.int .i64 S] w fun e w' => ∃ bA bB, e = .returned (.agg #[.int .i64 S, .slice (some ⟨bA, 0, none⟩) nA nA, .slice (some ⟨bB, 0, none⟩) S S]) ∧ Blank w w' nA S bA bB := by
  have hq : (S : Int) * (S : Int) = ((nA : Nat) : Int) := by rw [hA, Int.natCast_mul]
  have hq2 : nA ≤ 64 := by rw [hA]; exact Nat.mul_le_mul hS hS
  have f1 : (0 : Int) ≤ (S : Int) * (S : Int) := by rw [hq]; omega
  have f2 : (S : Int) * (S : Int) ≤ 64 := by rw [hq]; omega
  have m1 := run_mk nA ((S : Int) * (S : Int)) hq (by omega)
  have m2 := run_mk S (S : Int) rfl (by omega)
  clear hq hA
  go_enter Tryd.func15, Tryd.ntmps15
  go_wp2_with fail
  go_region
  all_goals go_wp2_with fail
  · obtain ⟨h1, h2, h3, h4⟩ := two_blocks w (.cells #[.int .i64 S, .slice (some ⟨w.heap.size + 1, 0, none⟩) nA nA, .slice (some ⟨w.heap.size + 1 + 1, 0, none⟩) S S] 24) nA S (by omega) (by omega)
    exact ret_tab (b := w.heap.size) rfl rfl h4 rfl ⟨_, _, rfl, h1, h2, by omega, h3, by omega, by omega, by simp, by simp⟩
  · obtain ⟨h1, h2, h3, h4⟩ := two_blocks w (.cells #[.int .i64 S, .slice (some ⟨w.heap.size + 1 + 1, 0, none⟩) nA nA, .slice (some ⟨w.heap.size + 1, 0, none⟩) S S] 24) S nA (by omega) (by omega)
    exact ret_tab (b := w.heap.size) rfl rfl h4 rfl ⟨_, _, rfl, h2, h1, by omega, h3, by omega, by omega, by simp, by simp⟩
end Go.Proofs.YthebegfceaehfaaDoor

/- Mk: A tableau that is being filled. -/
namespace Go.Proofs.YthebegfceaehfaaDoor
open Go.RowKit

/-- What a function hands back: a tableau, and whether it was well. -/
structure Tb where
  st : Int
  A : List Int
  B : List Int
  ok : Bool
def Tb.none : Tb := ⟨0, [], [], false⟩
/-- A tableau in new memory. -/
def NewT (w w' : World) (rA rB : List Int) (a1 : Option Addr) (n1 c1 : Nat) (a2 : Option Addr) (n2 c2 : Nat) : Prop :=
  Fr w' w.heap.size a1 n1 c1 rA ∧ Fr w' w.heap.size a2 n2 c2 rB ∧ Sep a1 n1 a2 n2 ∧ Below w.heap.size w w'
theorem NewT.none {w w' : World} (h : Below w.heap.size w w') : NewT w w' [] [] Option.none 0 0 Option.none 0 0 := ⟨Fr.none _ _, Fr.none _ _, fun h => absurd h (by omega), h⟩

/-- 'out' is a struct at ob, its A the block bA, its B the block bB; what lay below lo in W1 is as it was. -/
structure Mk (lo : Nat) (W1 wr : World) (S : Value) (ob bA bB nA nB : Nat) (XA XB : List Int) : Prop where
  l : Below lo W1 wr
  out : wr.heap[ob]? = some (.cells #[S, .slice (some ⟨bA, 0, none⟩) nA nA, .slice (some ⟨bB, 0, none⟩) nB nB] 24 (0, 0))
  a : Fr wr lo (some ⟨bA, 0, none⟩) nA nA XA
  b : Fr wr lo (some ⟨bB, 0, none⟩) nB nB XB
  hlo : lo ≤ bA ∧ lo ≤ bB ∧ lo ≤ ob
  ne : bA ≠ bB ∧ ob ≠ bA ∧ ob ≠ bB
section
variable {lo : Nat} {W1 wr : World} {S : Value} {ob bA bB nA nB : Nat} {XA XB : List Int}
theorem Mk.below (h : Mk lo W1 wr S ob bA bB nA nB XA XB) {w' : World} (hb : Below wr.heap.size wr w') (hl : lo ≤ wr.heap.size) : Mk lo W1 w' S ob bA bB nA nB XA XB :=
  ⟨h.l.trans (hb.mono hl), bk_below h.out hb, h.a.below hb, h.b.below hb, h.hlo, h.ne⟩
theorem Mk.drew (h : Mk lo W1 wr S ob bA bB nA nB XA XB) : Mk lo W1 wr.drew S ob bA bB nA nB XA XB :=
  ⟨h.l.drew, h.out, h.a.below ((Below.refl _ _).drew), h.b.below ((Below.refl _ _).drew), h.hlo, h.ne⟩
theorem Mk.storeA (h : Mk lo W1 wr S ob bA bB nA nB XA XB) {k : Nat} (hk : k < nA) {x : Int} (hx : I64 x) : Mk lo W1 (wr.setCell ⟨bA, k, none⟩ (.int .i64 x)) S ob bA bB nA nB (XA.set k x) XB := by
  have hs := h.a.store hk hx
  rw [Nat.zero_add] at hs
  exact ⟨h.l.setCell h.hlo.1 _, (heap_setCell_other _ _ _ _ h.ne.2.1).trans h.out, hs, h.b.setCell _ (blk_ne (Ne.symm h.ne.1)), h.hlo, h.ne⟩
theorem Mk.storeB (h : Mk lo W1 wr S ob bA bB nA nB XA XB) {k : Nat} (hk : k < nB) {x : Int} (hx : I64 x) : Mk lo W1 (wr.setCell ⟨bB, k, none⟩ (.int .i64 x)) S ob bA bB nA nB XA (XB.set k x) := by
  have hs := h.b.store hk hx
  rw [Nat.zero_add] at hs
  exact ⟨h.l.setCell h.hlo.2.1 _, (heap_setCell_other _ _ _ _ h.ne.2.2).trans h.out, h.a.setCell _ (blk_ne h.ne.1), hs, h.hlo, h.ne⟩
theorem Mk.start {w1 w2 : World} {n nA bA bB : Nat} (h : Blank w1 w2 nA n bA bB) :
    Mk w1.heap.size w1 (w2.alloc (.cells #[.int .i64 n, .slice (some ⟨bA, 0, none⟩) nA nA, .slice (some ⟨bB, 0, none⟩) n n] 24)) (.int .i64 n) w2.heap.size bA bB nA n (List.replicate nA 0) (List.replicate n 0) := by
  obtain ⟨h1, h2, h3, h4, h5, h6, h7, h8⟩ := h
  have := h4.size
  exact ⟨h4.alloc this _, bk_new _ _ _, h1.alloc _, h2.alloc _, ⟨h5, h6, this⟩, ⟨h3, by omega, by omega⟩⟩
/-- A block below lo. -/
theorem Mk.old (h : Mk lo W1 wr S ob bA bB nA nB XA XB) {k : Nat} {o : Obj} (hk : k < lo) (ho : W1.heap[k]? = some o) : wr.heap[k]? = some o := (h.l.block k hk).trans ho
/-- The cells that a store into A wants. -/
theorem Mk.cellA (h : Mk lo W1 wr S ob bA bB nA nB XA XB) {k : Nat} (hk : k < nA) : ∃ y, wr.cell? ⟨bA, k, none⟩ = some (.int .i64 y) ∧ wr.frozen? ⟨bA, k, none⟩ = false := by
  obtain ⟨b, o, y, e, hc, _⟩ := h.a.rd.at hk
  simp only [Option.some.injEq, Addr.mk.injEq, and_true] at e
  obtain ⟨rfl, rfl⟩ := e
  rw [Nat.zero_add] at hc
  have hf := (h.a.own _ _ _ rfl (by omega)).2 k hk
  rw [Nat.zero_add] at hf
  exact ⟨y, hc, hf⟩
theorem Mk.cellB (h : Mk lo W1 wr S ob bA bB nA nB XA XB) {k : Nat} (hk : k < nB) : ∃ y, wr.cell? ⟨bB, k, none⟩ = some (.int .i64 y) ∧ wr.frozen? ⟨bB, k, none⟩ = false := by
  obtain ⟨b, o, y, e, hc, _⟩ := h.b.rd.at hk
  simp only [Option.some.injEq, Addr.mk.injEq, and_true] at e
  obtain ⟨rfl, rfl⟩ := e
  rw [Nat.zero_add] at hc
  have hf := (h.b.own _ _ _ rfl (by omega)).2 k hk
  rw [Nat.zero_add] at hf
  exact ⟨y, hc, hf⟩
/-- 'out' is stored into the result's block. -/
theorem Mk.finish (h : Mk lo W1 wr S ob bA bB nA nB XA XB) {w : World} {b : Nat} {x y z : Value} (hb : w.heap.size ≤ b) (hlt : b < lo) (hw : Below w.heap.size w W1) (hres : W1.heap[b]? = some (.cells #[x, y, z] 24 (0, 0))) (u v t : Value) :
    (((wr.setCell ⟨b, 0, none⟩ u).setCell ⟨b, 1, none⟩ v).setCell ⟨b, 2, none⟩ t).heap[b]? = some (.cells #[u, v, t] 24 (0, 0)) ∧
    NewT w (((wr.setCell ⟨b, 0, none⟩ u).setCell ⟨b, 1, none⟩ v).setCell ⟨b, 2, none⟩ t) XA XB (some ⟨bA, 0, none⟩) nA nA (some ⟨bB, 0, none⟩) nB nB := by
  have h1 := h.hlo
  refine ⟨heap_setCell_same _ _ _ _ _ _ (heap_setCell_same _ _ _ _ _ _ (heap_setCell_same _ _ _ _ _ _ (h.old hlt hres))), ?_, ?_, fun _ _ => ?_, ?_⟩
  · exact (((h.a.setCell _ (blk_ne (by omega))).setCell _ (blk_ne (by omega))).setCell _ (blk_ne (by omega))).mono (by omega)
  · exact (((h.b.setCell _ (blk_ne (by omega))).setCell _ (blk_ne (by omega))).setCell _ (blk_ne (by omega))).mono (by omega)
  · simpa [blk] using h.ne.1
  · exact (((hw.trans (h.l.mono (by omega))).setCell hb _).setCell hb _).setCell hb _
end

theorem none_end {w w1 : World} {b : Nat} {x y z : Value} (hl : Below w.heap.size w w1) (hb : w.heap.size ≤ b) (hres : w1.heap[b]? = some (.cells #[x, y, z] 24 (0, 0))) (u v t : Value) :
    (((w1.setCell ⟨b, 0, none⟩ u).setCell ⟨b, 1, none⟩ v).setCell ⟨b, 2, none⟩ t).heap[b]? = some (.cells #[u, v, t] 24 (0, 0)) ∧
    NewT w (((w1.setCell ⟨b, 0, none⟩ u).setCell ⟨b, 1, none⟩ v).setCell ⟨b, 2, none⟩ t) [] [] Option.none 0 0 Option.none 0 0 :=
  ⟨heap_setCell_same _ _ _ _ _ _ (heap_setCell_same _ _ _ _ _ _ (heap_setCell_same _ _ _ _ _ _ hres)), NewT.none (((hl.setCell hb _).setCell hb _).setCell hb _)⟩
/-! ### ScaleTableau -/
def scaleV (s : Int) (A B : List Int) (k : Int) : Tb := if tabOk s A B then ⟨s, A.map (M.times · k), B.map (M.times · k), true⟩ else Tb.none
theorem scaleV_yes {s : Int} {A B : List Int} (k : Int) (h : tabOk s A B = true) : scaleV s A B k = ⟨s, A.map (M.times · k), B.map (M.times · k), true⟩ := if_pos h
theorem scaleV_no {s : Int} {A B : List Int} (k : Int) (h : tabOk s A B = false) : scaleV s A B k = Tb.none := if_neg (by rw [h]; simp)
theorem scaleV_len (s : Int) (A B : List Int) (k : Int) : (scaleV s A B k).A.length ≤ 1000 ∧ (scaleV s A B k).B.length ≤ 1000 := by
  cases hok : tabOk s A B with
  | false => rw [scaleV_no k hok]; exact ⟨Nat.zero_le _, Nat.zero_le _⟩
  | true =>
    rw [scaleV_yes k hok]
    obtain ⟨S, rfl, hS, e1, e2, _⟩ := tabOk_parts hok rfl rfl
    simp only [List.length_map]
    have : S * S ≤ 64 := Nat.mul_le_mul hS hS
    omega
/-- the first k elements of what a map gives, zeros behind -/
def part (f : Int → Int) (xs : List Int) (n k : Nat) : List Int := (xs.take k).map f ++ List.replicate (n - k) 0
theorem part_start (f : Int → Int) (xs : List Int) (n : Nat) : List.replicate n 0 = part f xs n 0 := by simp [part]
theorem part_end {f : Int → Int} {xs : List Int} {n : Nat} (h : xs.length = n) : part f xs n n = xs.map f := by
  unfold part
  rw [Nat.sub_self, ← h, List.take_length, List.replicate_zero, List.append_nil]
theorem part_step {f : Int → Int} {xs : List Int} {n k : Nat} {x : Int} (h : k < n) (hn : xs.length = n) (e : x = xs.getD k 0) : (part f xs n k).set k (f x) = part f xs n (k + 1) := by
  subst e
  unfold part
  rw [take_snoc 0 xs k (by omega), List.map_append, List.set_append_right _ _ (by rw [List.length_map, List.length_take]; omega), List.length_map, List.length_take,
    show k - min k xs.length = 0 by omega, show n - k = (n - (k + 1)) + 1 by omega, List.replicate_succ, List.set_cons_zero, List.append_assoc]
  rfl

end Go.Proofs.YthebegfceaehfaaDoor
