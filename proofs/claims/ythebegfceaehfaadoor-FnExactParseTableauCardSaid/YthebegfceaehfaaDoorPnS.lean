/- ParseNumber of the specification: the walk. -/
import Derived.Test.YthebegfceaehfaaDoorPn
import Derived.Test.YthebegfceaehfaaDoorOb
namespace Go.Proofs.YthebegfceaehfaaDoor
open Go.RowKit
attribute [local irreducible] M.powr

theorem pnS_no {l : List UInt8} (h : pnOk (valS l) l = false) : pnB l = false ∧ pnV l = 0 := by
  have hb : pnB l = false := by rw [← (pn_same l).1, h]
  exact ⟨hb, by unfold pnV; rw [hb]; rfl⟩
theorem pnS_yes {l : List UInt8} {v : Int} (hv : valS l = v) (hn : M.num v) (h : fmtN v = l) : pnB l = true ∧ pnV l = v := by
  have hb : pnB l = true := by
    rw [← (pn_same l).1]
    unfold pnOk
    rw [hv, M.isNum_true hn, h]; simp
  exact ⟨hb, by unfold pnV; rw [hb, if_pos rfl, ← (pn_same l).2 hb, hv]⟩
theorem pnS_neg {l : List UInt8} (h : valS l < 0) : pnOk (valS l) l = false := by
  unfold pnOk
  rw [M.isNum_false (fun hn => by have := hn.1; omega)]; rfl
theorem pnS_other {l : List UInt8} {v : Int} (hv : valS l = v) (h : fmtN v ≠ l) : pnOk (valS l) l = false := by
  unfold pnOk
  rw [hv, decide_eq_false h, Bool.and_false]
/-- One piece, two, or more. -/
theorem quoS_one {g : Int} {t p0 : List UInt8} (h : sp1 47 t = [p0]) : quoS g t = if rdS p0 < 0 then -1 else M.frac (g * rdS p0) 1 := by
  unfold quoS
  rw [h]
  simp
theorem quoS_two {g : Int} {t p0 p1 : List UInt8} (h : sp1 47 t = [p0, p1]) : quoS g t = if rdS p0 < 0 ∨ rdS p1 < 0 then -1 else M.frac (g * rdS p0) (rdS p1) := by
  unfold quoS
  rw [h]
  simp
theorem quoS_more {g : Int} {t : List UInt8} (h : (sp1 47 t).length > 2) : quoS g t = -1 := by
  unfold quoS
  rw [if_pos (.inr (.inr h))]
theorem sp1_le (c : UInt8) : ∀ (l : List UInt8) (p : List UInt8), p ∈ sp1 c l → p.length ≤ l.length
  | [], p, h => by simp [sp1] at h; subst h; simp
  | b :: l, p, h => by
    rw [sp1] at h
    split at h
    · rcases List.mem_cons.1 h with rfl | h
      · simp
      · have := sp1_le c l p h; simp; omega
    · cases hs : sp1 c l with
      | nil => exact absurd hs (sp1_ne c l)
      | cons x xs =>
        rw [hs] at h
        simp only at h
        rcases List.mem_cons.1 h with rfl | h
        · have := sp1_le c l x (by rw [hs]; exact List.mem_cons_self); simp; omega
        · have := sp1_le c l p (by rw [hs]; exact List.mem_cons_of_mem _ h); simp; omega
-- WALKS
theorem head_byte {s : ByteArray} {c : UInt8} (hp : 0 < s.size) (h : s.data.toList.getD 0 0 = c) : ((s[0].toNat : Int) == (c.toNat : Int)) = true := by
  rw [byte_at s 0 hp] at h
  rw [h, beq_iff_eq]
theorem head_byte_no {s : ByteArray} {c : UInt8} (hp : 0 < s.size) (h : s.data.toList.getD 0 0 ≠ c) : ((s[0].toNat : Int) == (c.toNat : Int)) = false := by
  rw [byte_at s 0 hp] at h
  rw [beq_eq_false_iff_ne]
  intro e
  exact h (UInt8.toNat_inj.1 (by omega))
theorem ne_nil_of_size {s : ByteArray} (hp : 0 < s.size) : s.data.toList ≠ [] := fun e => by
  have := bytes_len s
  rw [e] at this
  simp at this
  omega
theorem spec_ParseNumber_empty (s : ByteArray) (w : World) (h : s.size = 0) :
    Calls Tryd.prog 32 #[.string s] w fun e w' => e = .returned (.tuple #[.int .i64 (pnV s.data.toList), .bool (pnB s.data.toList)]) ∧ Below w.heap.size w w' := by
  have hl : s.data.toList = [] := List.eq_nil_of_length_eq_zero (by rw [bytes_len]; exact h)
  have HN := hid (pnS_no (l := s.data.toList) (pnS_neg (by rw [hl]; decide)))
  have hE : s.toList = [] := by rw [Lib.toList_data]; exact hl
  have hE2 : s.toList.isEmpty = true := by rw [hE]; rfl
  have HB := hid (Below.refl w.heap.size w)
  clear hl h
  go_enter Tryd.func32, Tryd.ntmps32
  go_wp2_with fail
  go_ret2
  exact ⟨ret_ib' ⟨HN.out.1.symm, HN.out.2.symm⟩, HB.out⟩
set_option maxHeartbeats 1000000 in
theorem spec_ParseNumber_hash (s : ByteArray) (w : World) (hs : s.size ≤ 1048576) (hp : 0 < s.size) (h : s.data.toList.getD 0 0 = 35) :
    Calls Tryd.prog 32 #[.string s] w fun e w' => e = .returned (.tuple #[.int .i64 (pnV s.data.toList), .bool (pnB s.data.toList)]) ∧ Below w.heap.size w w' := by
  have hV : valS s.data.toList = rdS (s.data.toList.drop 1) := by unfold valS; rw [if_pos h]
  have HH := hid (ne_nil_of_size hp)
  have q35 : ((s[0].toNat : Int) == 35) = true := head_byte hp h
  have hszi : (1 : Int) ≤ (s.size : Int) := by omega
  have hE : (s.toList == []) = false := by
    rw [beq_eq_false_iff_ne, Lib.toList_data]
    intro e
    have := bytes_len s
    rw [e] at this
    simp at this
    omega
  have hE2 : s.toList.isEmpty = false := by
    rw [List.isEmpty_eq_false_iff]
    simpa using hE
  have HE := hid (Lib.extract_to_end s 1)
  have HR : Hid (∀ w, Calls Tryd.prog 57 #[.string (s.extract 1 s.size)] w fun e w' => e = .returned (.int .i64 (rdS (s.data.toList.drop 1))) ∧ w = w') := hid fun w => by
    have h := spec_l1Digits (s.extract 1 s.size) w (by rw [ByteArray.size_extract]; omega)
    rw [HE.out] at h
    exact h
  have hbd := rdS_bd (s.data.toList.drop 1)
  generalize hv : rdS (s.data.toList.drop 1) = v at hV hbd HR
  have HV := hid hV
  have HB := hid (Below.refl w.heap.size w)
  clear hV hv h
  go_enter Tryd.func32, Tryd.ntmps32
  go_wp2_with fail
  refine (HR.out _).mono ?_
  rintro e w' ⟨rfl, rfl⟩
  have NE := hid (show fmtN v = s.data.toList → M.num v from fun h => num_of_fmt h HH.out)
  obtain ⟨tx, htx⟩ : ∃ tx, tx = bs (fmtN v) := ⟨_, rfl⟩
  have HTX := hid htx
  clear htx
  by_cases he : fmtN v = s.data.toList
  · have hq : (tx.toList == s.toList) = true := by rw [HTX.out, str_eq, decide_eq_true he]
    have HY := hid (pnS_yes HV.out (NE.out he) he)
    clear he
    go_wp2_with fail
    refine (spec_FormatNumber v _).mono ?_
    rw [← HTX.out]
    rintro e w' ⟨rfl, hB'⟩
    have HB' := hid (l_below HB.out hB')
    clear hB'
    go_wp2_with fail
    go_ret2
    exact ⟨ret_ib' ⟨HY.out.1.symm, HY.out.2.symm⟩, HB'.out⟩
  · have hq : (tx.toList == s.toList) = false := by rw [HTX.out, str_eq, decide_eq_false he]
    have HN := hid (pnS_no (pnS_other HV.out he))
    clear he
    go_wp2_with fail
    refine (spec_FormatNumber v _).mono ?_
    rw [← HTX.out]
    rintro e w' ⟨rfl, hB'⟩
    have HB' := hid (l_below HB.out hB')
    clear hB'
    go_wp2_with fail
    go_ret2
    exact ⟨ret_ib' ⟨HN.out.1.symm, HN.out.2.symm⟩, HB'.out⟩
set_option maxHeartbeats 4000000 in
theorem spec_ParseNumber_neg (s : ByteArray) (w : World) (hs : s.size ≤ 1048576) (hp : 0 < s.size) (hnh : s.data.toList.getD 0 0 ≠ 35) (hmi : s.data.toList.getD 0 0 = 45) :
    Calls Tryd.prog 32 #[.string s] w fun e w' => e = .returned (.tuple #[.int .i64 (pnV s.data.toList), .bool (pnB s.data.toList)]) ∧ Below w.heap.size w w' := by
  have hv : valS s.data.toList = quoS (-1) (s.data.toList.drop 1) := by unfold valS; rw [if_neg hnh, if_pos hmi]
  have HVV := hid hv
  have HH := hid (ne_nil_of_size hp)
  have q35 : ((s[0].toNat : Int) == 35) = false := head_byte_no hp hnh
  have q45 : ((s[0].toNat : Int) == 45) = true := head_byte hp hmi
  have hszi : (1 : Int) ≤ (s.size : Int) := by omega
  have hE : (s.toList == []) = false := by
    rw [beq_eq_false_iff_ne, Lib.toList_data]
    intro e
    have := bytes_len s
    rw [e] at this
    simp at this
    omega
  have hE2 : s.toList.isEmpty = false := by
    rw [List.isEmpty_eq_false_iff]
    simpa using hE
  obtain ⟨T, hT⟩ : ∃ T, T = (s.extract 1 s.size) := ⟨_, rfl⟩
  have hTl : T.data.toList = s.data.toList.drop 1 := by rw [hT]; exact Lib.extract_to_end s 1
  have hTs : T.size ≤ s.size := by rw [hT]; rw [ByteArray.size_extract]; omega
  have CC := hid (fun w => spec_l1Cut T 47 47 w (by omega) rfl)
  rw [hTl] at CC
  have HTE := hid hT
  clear hv hnh hmi hT hTl
  go_enter Tryd.func32, Tryd.ntmps32
  go_wp2_with fail
  rw [← HTE.out]
  refine (CC.out _).mono ?_
  rintro e w1 ⟨v, n, rfl, hn, hS, hB⟩
  have HB := hid hB
  clear hB
  obtain ⟨gb, gc, hv⟩ := hS.at
  have hlen := hS.len
  rcases hv with ⟨_, h0⟩ | ⟨rfl, hcap, _, hcell⟩
  · exact absurd (List.eq_nil_of_length_eq_zero (hlen.trans h0)) (sp1_ne _ _)
  · have hle := sp1_le 47 (s.data.toList.drop 1)
    have hPQ : (s.data.toList.drop 1).length ≤ s.size := by rw [List.length_drop, bytes_len]; omega
    cases hP : sp1 47 (s.data.toList.drop 1) with
    | nil => exact absurd hP (sp1_ne _ _)
    | cons p0 R =>
      rw [hP] at hlen hcell hle
      have u0 := hcell 0 (bs p0) rfl
      rw [Nat.zero_add] at u0
      have l0 : (bs p0).size ≤ 4294967280 := by rw [bs_size]; have := hle p0 (by simp); omega
      have DX : Hid (∀ w, Calls Tryd.prog 57 #[.string (bs p0)] w fun e w' => e = .returned (.int .i64 (rdS p0)) ∧ w = w') := hid fun w => by
        have h := spec_l1Digits (bs p0) w l0
        rwa [bs_data] at h
      have hba := rdS_bd p0
      obtain ⟨X, hX⟩ : ∃ X, X = bs p0 := ⟨_, rfl⟩
      rw [← hX] at u0 DX
      cases R with
      | nil =>
        have hq := quoS_one (g := (-1)) hP
        obtain rfl : n = 1 := by simpa using hlen.symm
        generalize rdS p0 = a at hq hba DX
        clear hS hcell hle hPQ hP hX l0 hlen CC
        have DX' := DX
        clear DX
        go_wp2_with fail
        refine (DX'.out _).mono ?_
        rintro e w4 ⟨rfl, rfl⟩
        by_cases ha : a < 0
        · have HN := hid (pnS_no (pnS_neg (by rw [HVV.out, hq, if_pos ha]; decide)))
          clear hq
          go_wp2_with fail
          go_ret2
          exact ⟨ret_ib' ⟨HN.out.1.symm, HN.out.2.symm⟩, HB.out⟩
        · rw [if_neg ha] at hq
          have hV : valS s.data.toList = M.frac ((-1) * a) 1 := by rw [HVV.out, hq]
          clear hq
          go_wp2_with fail
          refine (spec_Fraction _ 1 _).mono ?_
          rw [show M.frac (-a) 1 = M.frac ((-1) * a) 1 by congr 1; omega]
          generalize M.frac ((-1) * a) 1 = v at hV
          have HV := hid hV
          clear hV
          rintro e w5 ⟨rfl, rfl⟩
          have NE := hid (show fmtN v = s.data.toList → M.num v from fun h => num_of_fmt h HH.out)
          obtain ⟨tx, htx⟩ : ∃ tx, tx = bs (fmtN v) := ⟨_, rfl⟩
          have HTX := hid htx
          clear htx
          by_cases he : fmtN v = s.data.toList
          · have hq : (tx.toList == s.toList) = true := by rw [HTX.out, str_eq, decide_eq_true he]
            have HY := hid (pnS_yes HV.out (NE.out he) he)
            clear he
            go_wp2_with fail
            refine (spec_FormatNumber v _).mono ?_
            rw [← HTX.out]
            rintro e w' ⟨rfl, hB'⟩
            have HB' := hid (l_below HB.out hB')
            clear hB'
            go_wp2_with fail
            go_ret2
            exact ⟨ret_ib' ⟨HY.out.1.symm, HY.out.2.symm⟩, HB'.out⟩
          · have hq : (tx.toList == s.toList) = false := by rw [HTX.out, str_eq, decide_eq_false he]
            have HN := hid (pnS_no (pnS_other HV.out he))
            clear he
            go_wp2_with fail
            refine (spec_FormatNumber v _).mono ?_
            rw [← HTX.out]
            rintro e w' ⟨rfl, hB'⟩
            have HB' := hid (l_below HB.out hB')
            clear hB'
            go_wp2_with fail
            go_ret2
            exact ⟨ret_ib' ⟨HN.out.1.symm, HN.out.2.symm⟩, HB'.out⟩
      | cons p1 R2 =>
        have u1 := hcell 1 (bs p1) rfl
        rw [Nat.zero_add] at u1
        have l1 : (bs p1).size ≤ 4294967280 := by rw [bs_size]; have := hle p1 (by simp); omega
        have DY : Hid (∀ w, Calls Tryd.prog 57 #[.string (bs p1)] w fun e w' => e = .returned (.int .i64 (rdS p1)) ∧ w = w') := hid fun w => by
          have h := spec_l1Digits (bs p1) w l1
          rwa [bs_data] at h
        have hbb := rdS_bd p1
        obtain ⟨Y, hY⟩ : ∃ Y, Y = bs p1 := ⟨_, rfl⟩
        rw [← hY] at u1 DY
        cases R2 with
        | nil =>
          have hq := quoS_two (g := (-1)) hP
          obtain rfl : n = 2 := by simpa using hlen.symm
          generalize rdS p0 = a at hq hba DX
          generalize rdS p1 = b at hq hbb DY
          clear hS hcell hle hPQ hP hX hY l0 l1 hlen CC
          go_wp2_with fail
          refine (DX.out _).mono ?_
          rintro e w4 ⟨rfl, rfl⟩
          go_wp2_with fail
          refine (DY.out _).mono ?_
          rintro e w5 ⟨rfl, rfl⟩
          by_cases ha : a < 0
          · have HN := hid (pnS_no (pnS_neg (by rw [HVV.out, hq, if_pos (Or.inl ha)]; decide)))
            clear hq
            go_wp2_with fail
            go_ret2
            exact ⟨ret_ib' ⟨HN.out.1.symm, HN.out.2.symm⟩, HB.out⟩
          · by_cases hb : b < 0
            · have HN := hid (pnS_no (pnS_neg (by rw [HVV.out, hq, if_pos (Or.inr hb)]; decide)))
              clear hq
              go_wp2_with fail
              go_ret2
              exact ⟨ret_ib' ⟨HN.out.1.symm, HN.out.2.symm⟩, HB.out⟩
            · rw [if_neg (by omega)] at hq
              have hV : valS s.data.toList = M.frac ((-1) * a) b := by rw [HVV.out, hq]
              clear hq
              go_wp2_with fail
              refine (spec_Fraction _ b _).mono ?_
              rw [show M.frac (-a) b = M.frac ((-1) * a) b by congr 1; omega]
              generalize M.frac ((-1) * a) b = v at hV
              have HV := hid hV
              clear hV
              rintro e w5 ⟨rfl, rfl⟩
              have NE := hid (show fmtN v = s.data.toList → M.num v from fun h => num_of_fmt h HH.out)
              obtain ⟨tx, htx⟩ : ∃ tx, tx = bs (fmtN v) := ⟨_, rfl⟩
              have HTX := hid htx
              clear htx
              by_cases he : fmtN v = s.data.toList
              · have hq : (tx.toList == s.toList) = true := by rw [HTX.out, str_eq, decide_eq_true he]
                have HY := hid (pnS_yes HV.out (NE.out he) he)
                clear he
                go_wp2_with fail
                refine (spec_FormatNumber v _).mono ?_
                rw [← HTX.out]
                rintro e w' ⟨rfl, hB'⟩
                have HB' := hid (l_below HB.out hB')
                clear hB'
                go_wp2_with fail
                go_ret2
                exact ⟨ret_ib' ⟨HY.out.1.symm, HY.out.2.symm⟩, HB'.out⟩
              · have hq : (tx.toList == s.toList) = false := by rw [HTX.out, str_eq, decide_eq_false he]
                have HN := hid (pnS_no (pnS_other HV.out he))
                clear he
                go_wp2_with fail
                refine (spec_FormatNumber v _).mono ?_
                rw [← HTX.out]
                rintro e w' ⟨rfl, hB'⟩
                have HB' := hid (l_below HB.out hB')
                clear hB'
                go_wp2_with fail
                go_ret2
                exact ⟨ret_ib' ⟨HN.out.1.symm, HN.out.2.symm⟩, HB'.out⟩
        | cons p2 R3 =>
          have hq := quoS_more (g := (-1)) (t := s.data.toList.drop 1) (by rw [hP]; simp)
          have hn3 : 3 ≤ n := by simp at hlen; omega
          have n1 : (1 : Int) < (n : Int) := by omega
          have n2 : (2 : Int) < (n : Int) := by omega
          have HN := hid (pnS_no (l := s.data.toList) (pnS_neg (by rw [HVV.out, hq]; decide)))
          generalize rdS p0 = a at hba DX
          generalize rdS p1 = b at hbb DY
          clear hS hcell hle hPQ hP hX hY l0 l1 hlen CC hq
          go_wp2_with fail
          refine (DX.out _).mono ?_
          rintro e w4 ⟨rfl, rfl⟩
          go_wp2_with fail
          refine (DY.out _).mono ?_
          rintro e w5 ⟨rfl, rfl⟩
          by_cases ha : a < 0
          · skip
            go_wp2_with fail
            go_ret2
            exact ⟨ret_ib' ⟨HN.out.1.symm, HN.out.2.symm⟩, HB.out⟩
          · by_cases hb : b < 0
            · skip
              go_wp2_with fail
              go_ret2
              exact ⟨ret_ib' ⟨HN.out.1.symm, HN.out.2.symm⟩, HB.out⟩
            · skip
              go_wp2_with fail
              go_ret2
              exact ⟨ret_ib' ⟨HN.out.1.symm, HN.out.2.symm⟩, HB.out⟩
set_option maxHeartbeats 4000000 in
theorem spec_ParseNumber_pos (s : ByteArray) (w : World) (hs : s.size ≤ 1048576) (hp : 0 < s.size) (hnh : s.data.toList.getD 0 0 ≠ 35) (hmi : s.data.toList.getD 0 0 ≠ 45) :
    Calls Tryd.prog 32 #[.string s] w fun e w' => e = .returned (.tuple #[.int .i64 (pnV s.data.toList), .bool (pnB s.data.toList)]) ∧ Below w.heap.size w w' := by
  have hv : valS s.data.toList = quoS 1 (s.data.toList) := by unfold valS; rw [if_neg hnh, if_neg hmi]
  have HVV := hid hv
  have HH := hid (ne_nil_of_size hp)
  have q35 : ((s[0].toNat : Int) == 35) = false := head_byte_no hp hnh
  have q45 : ((s[0].toNat : Int) == 45) = false := head_byte_no hp hmi
  have hszi : (1 : Int) ≤ (s.size : Int) := by omega
  have hE : (s.toList == []) = false := by
    rw [beq_eq_false_iff_ne, Lib.toList_data]
    intro e
    have := bytes_len s
    rw [e] at this
    simp at this
    omega
  have hE2 : s.toList.isEmpty = false := by
    rw [List.isEmpty_eq_false_iff]
    simpa using hE
  have hTl : s.data.toList = s.data.toList := rfl
  have hTs : s.size ≤ s.size := Nat.le_refl _
  have CC := hid (fun w => spec_l1Cut s 47 47 w (by omega) rfl)
  rw [hTl] at CC
  clear hv hnh hmi hTl
  go_enter Tryd.func32, Tryd.ntmps32
  go_wp2_with fail
  skip
  refine (CC.out _).mono ?_
  rintro e w1 ⟨v, n, rfl, hn, hS, hB⟩
  have HB := hid hB
  clear hB
  obtain ⟨gb, gc, hv⟩ := hS.at
  have hlen := hS.len
  rcases hv with ⟨_, h0⟩ | ⟨rfl, hcap, _, hcell⟩
  · exact absurd (List.eq_nil_of_length_eq_zero (hlen.trans h0)) (sp1_ne _ _)
  · have hle := sp1_le 47 (s.data.toList)
    have hPQ : (s.data.toList).length ≤ s.size := Nat.le_of_eq (bytes_len s)
    cases hP : sp1 47 (s.data.toList) with
    | nil => exact absurd hP (sp1_ne _ _)
    | cons p0 R =>
      rw [hP] at hlen hcell hle
      have u0 := hcell 0 (bs p0) rfl
      rw [Nat.zero_add] at u0
      have l0 : (bs p0).size ≤ 4294967280 := by rw [bs_size]; have := hle p0 (by simp); omega
      have DX : Hid (∀ w, Calls Tryd.prog 57 #[.string (bs p0)] w fun e w' => e = .returned (.int .i64 (rdS p0)) ∧ w = w') := hid fun w => by
        have h := spec_l1Digits (bs p0) w l0
        rwa [bs_data] at h
      have hba := rdS_bd p0
      obtain ⟨X, hX⟩ : ∃ X, X = bs p0 := ⟨_, rfl⟩
      rw [← hX] at u0 DX
      cases R with
      | nil =>
        have hq := quoS_one (g := 1) hP
        obtain rfl : n = 1 := by simpa using hlen.symm
        generalize rdS p0 = a at hq hba DX
        clear hS hcell hle hPQ hP hX l0 hlen CC
        have DX' := DX
        clear DX
        go_wp2_with fail
        refine (DX'.out _).mono ?_
        rintro e w4 ⟨rfl, rfl⟩
        by_cases ha : a < 0
        · have HN := hid (pnS_no (pnS_neg (by rw [HVV.out, hq, if_pos ha]; decide)))
          clear hq
          go_wp2_with fail
          go_ret2
          exact ⟨ret_ib' ⟨HN.out.1.symm, HN.out.2.symm⟩, HB.out⟩
        · rw [if_neg ha] at hq
          have hV : valS s.data.toList = M.frac (1 * a) 1 := by rw [HVV.out, hq]
          clear hq
          go_wp2_with fail
          refine (spec_Fraction _ 1 _).mono ?_
          rw [show M.frac a 1 = M.frac (1 * a) 1 by congr 1; omega]
          generalize M.frac (1 * a) 1 = v at hV
          have HV := hid hV
          clear hV
          rintro e w5 ⟨rfl, rfl⟩
          have NE := hid (show fmtN v = s.data.toList → M.num v from fun h => num_of_fmt h HH.out)
          obtain ⟨tx, htx⟩ : ∃ tx, tx = bs (fmtN v) := ⟨_, rfl⟩
          have HTX := hid htx
          clear htx
          by_cases he : fmtN v = s.data.toList
          · have hq : (tx.toList == s.toList) = true := by rw [HTX.out, str_eq, decide_eq_true he]
            have HY := hid (pnS_yes HV.out (NE.out he) he)
            clear he
            go_wp2_with fail
            refine (spec_FormatNumber v _).mono ?_
            rw [← HTX.out]
            rintro e w' ⟨rfl, hB'⟩
            have HB' := hid (l_below HB.out hB')
            clear hB'
            go_wp2_with fail
            go_ret2
            exact ⟨ret_ib' ⟨HY.out.1.symm, HY.out.2.symm⟩, HB'.out⟩
          · have hq : (tx.toList == s.toList) = false := by rw [HTX.out, str_eq, decide_eq_false he]
            have HN := hid (pnS_no (pnS_other HV.out he))
            clear he
            go_wp2_with fail
            refine (spec_FormatNumber v _).mono ?_
            rw [← HTX.out]
            rintro e w' ⟨rfl, hB'⟩
            have HB' := hid (l_below HB.out hB')
            clear hB'
            go_wp2_with fail
            go_ret2
            exact ⟨ret_ib' ⟨HN.out.1.symm, HN.out.2.symm⟩, HB'.out⟩
      | cons p1 R2 =>
        have u1 := hcell 1 (bs p1) rfl
        rw [Nat.zero_add] at u1
        have l1 : (bs p1).size ≤ 4294967280 := by rw [bs_size]; have := hle p1 (by simp); omega
        have DY : Hid (∀ w, Calls Tryd.prog 57 #[.string (bs p1)] w fun e w' => e = .returned (.int .i64 (rdS p1)) ∧ w = w') := hid fun w => by
          have h := spec_l1Digits (bs p1) w l1
          rwa [bs_data] at h
        have hbb := rdS_bd p1
        obtain ⟨Y, hY⟩ : ∃ Y, Y = bs p1 := ⟨_, rfl⟩
        rw [← hY] at u1 DY
        cases R2 with
        | nil =>
          have hq := quoS_two (g := 1) hP
          obtain rfl : n = 2 := by simpa using hlen.symm
          generalize rdS p0 = a at hq hba DX
          generalize rdS p1 = b at hq hbb DY
          clear hS hcell hle hPQ hP hX hY l0 l1 hlen CC
          go_wp2_with fail
          refine (DX.out _).mono ?_
          rintro e w4 ⟨rfl, rfl⟩
          go_wp2_with fail
          refine (DY.out _).mono ?_
          rintro e w5 ⟨rfl, rfl⟩
          by_cases ha : a < 0
          · have HN := hid (pnS_no (pnS_neg (by rw [HVV.out, hq, if_pos (Or.inl ha)]; decide)))
            clear hq
            go_wp2_with fail
            go_ret2
            exact ⟨ret_ib' ⟨HN.out.1.symm, HN.out.2.symm⟩, HB.out⟩
          · by_cases hb : b < 0
            · have HN := hid (pnS_no (pnS_neg (by rw [HVV.out, hq, if_pos (Or.inr hb)]; decide)))
              clear hq
              go_wp2_with fail
              go_ret2
              exact ⟨ret_ib' ⟨HN.out.1.symm, HN.out.2.symm⟩, HB.out⟩
            · rw [if_neg (by omega)] at hq
              have hV : valS s.data.toList = M.frac (1 * a) b := by rw [HVV.out, hq]
              clear hq
              go_wp2_with fail
              refine (spec_Fraction _ b _).mono ?_
              rw [show M.frac a b = M.frac (1 * a) b by congr 1; omega]
              generalize M.frac (1 * a) b = v at hV
              have HV := hid hV
              clear hV
              rintro e w5 ⟨rfl, rfl⟩
              have NE := hid (show fmtN v = s.data.toList → M.num v from fun h => num_of_fmt h HH.out)
              obtain ⟨tx, htx⟩ : ∃ tx, tx = bs (fmtN v) := ⟨_, rfl⟩
              have HTX := hid htx
              clear htx
              by_cases he : fmtN v = s.data.toList
              · have hq : (tx.toList == s.toList) = true := by rw [HTX.out, str_eq, decide_eq_true he]
                have HY := hid (pnS_yes HV.out (NE.out he) he)
                clear he
                go_wp2_with fail
                refine (spec_FormatNumber v _).mono ?_
                rw [← HTX.out]
                rintro e w' ⟨rfl, hB'⟩
                have HB' := hid (l_below HB.out hB')
                clear hB'
                go_wp2_with fail
                go_ret2
                exact ⟨ret_ib' ⟨HY.out.1.symm, HY.out.2.symm⟩, HB'.out⟩
              · have hq : (tx.toList == s.toList) = false := by rw [HTX.out, str_eq, decide_eq_false he]
                have HN := hid (pnS_no (pnS_other HV.out he))
                clear he
                go_wp2_with fail
                refine (spec_FormatNumber v _).mono ?_
                rw [← HTX.out]
                rintro e w' ⟨rfl, hB'⟩
                have HB' := hid (l_below HB.out hB')
                clear hB'
                go_wp2_with fail
                go_ret2
                exact ⟨ret_ib' ⟨HN.out.1.symm, HN.out.2.symm⟩, HB'.out⟩
        | cons p2 R3 =>
          have hq := quoS_more (g := 1) (t := s.data.toList) (by rw [hP]; simp)
          have hn3 : 3 ≤ n := by simp at hlen; omega
          have n1 : (1 : Int) < (n : Int) := by omega
          have n2 : (2 : Int) < (n : Int) := by omega
          have HN := hid (pnS_no (l := s.data.toList) (pnS_neg (by rw [HVV.out, hq]; decide)))
          generalize rdS p0 = a at hba DX
          generalize rdS p1 = b at hbb DY
          clear hS hcell hle hPQ hP hX hY l0 l1 hlen CC hq
          go_wp2_with fail
          refine (DX.out _).mono ?_
          rintro e w4 ⟨rfl, rfl⟩
          go_wp2_with fail
          refine (DY.out _).mono ?_
          rintro e w5 ⟨rfl, rfl⟩
          by_cases ha : a < 0
          · skip
            go_wp2_with fail
            go_ret2
            exact ⟨ret_ib' ⟨HN.out.1.symm, HN.out.2.symm⟩, HB.out⟩
          · by_cases hb : b < 0
            · skip
              go_wp2_with fail
              go_ret2
              exact ⟨ret_ib' ⟨HN.out.1.symm, HN.out.2.symm⟩, HB.out⟩
            · skip
              go_wp2_with fail
              go_ret2
              exact ⟨ret_ib' ⟨HN.out.1.symm, HN.out.2.symm⟩, HB.out⟩
theorem spec_ParseNumber (s : ByteArray) (w : World) (hs : s.size ≤ 1048576) :
    Calls Tryd.prog 32 #[.string s] w fun e w' => e = .returned (.tuple #[.int .i64 (pnV s.data.toList), .bool (pnB s.data.toList)]) ∧ Below w.heap.size w w' := by
  by_cases h0 : s.size = 0
  · exact spec_ParseNumber_empty s w h0
  · have hp : 0 < s.size := by omega
    by_cases h : s.data.toList.getD 0 0 = 35
    · exact spec_ParseNumber_hash s w hs hp h
    · by_cases h2 : s.data.toList.getD 0 0 = 45
      · exact spec_ParseNumber_neg s w hs hp h h2
      · exact spec_ParseNumber_pos s w hs hp h h2
end Go.Proofs.YthebegfceaehfaaDoor
