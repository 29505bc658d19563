/- Merged texts: Pn. -/
import Derived.Test.YthebegfceaehfaaDoorKt5
/- Pn: ParseNumber: the walks. -/
namespace Go.Proofs.YthebegfceaehfaaDoor
open Go.RowKit
attribute [local irreducible] M.powr

/-- The library's own number (internal/bytealg.MaxLen) is some int. -/
def Mx (w : World) : Prop := ∃ m, w.cell? ⟨0, 0, none⟩ = some (.int .i64 m)
theorem Mx.below {w w' : World} (h : Mx w) (hB : Below w.heap.size w w') : Mx w' := by
  obtain ⟨m, hm⟩ := h
  exact ⟨m, (hB.cell (World.block_lt_of_cell? w _ hm)).trans hm⟩
theorem head_prefix {c : UInt8} (hc : c ≠ 0) (l : List UInt8) : Lib.hasPrefix l [c] = decide (l.getD 0 0 = c) := by
  cases l with
  | nil => simp [Lib.hasPrefix, List.isPrefixOf, List.getD, Ne.symm hc]
  | cons a t =>
    simp only [Lib.hasPrefix, List.isPrefixOf, Bool.and_true, List.getD_cons_zero]
    rw [Bool.eq_iff_iff]
    simp only [beq_iff_eq, decide_eq_true_eq]
    exact ⟨Eq.symm, Eq.symm⟩
theorem trim_yes {c : UInt8} (hc : c ≠ 0) {l : List UInt8} (h : l.getD 0 0 = c) : Lib.trimPrefix l [c] = l.drop 1 := by
  unfold Lib.trimPrefix
  rw [head_prefix hc, decide_eq_true h]; rfl
theorem trim_no {c : UInt8} (hc : c ≠ 0) {l : List UInt8} (h : l.getD 0 0 ≠ c) : Lib.trimPrefix l [c] = l := by
  unfold Lib.trimPrefix
  rw [head_prefix hc, decide_eq_false h]; rfl
theorem pn_no {l : List UInt8} (h : pnOk (valI l) l = false) : pnB l = false ∧ pnV l = 0 := by
  have hb : pnB l = false := h
  exact ⟨hb, by unfold pnV; rw [hb]; rfl⟩
theorem pn_yes {l : List UInt8} {v : Int} (hv : valI l = v) (hn : M.num v) (h : fmtN v = l) : pnB l = true ∧ pnV l = v := by
  have hb : pnB l = true := by
    unfold pnB pnOk
    rw [hv, M.isNum_true hn, h]; simp
  exact ⟨hb, by unfold pnV; rw [hb, hv]; rfl⟩
theorem pn_neg {l : List UInt8} (h : valI l < 0) : pnOk (valI l) l = false := by
  unfold pnOk
  rw [M.isNum_false (fun hn => by have := hn.1; omega)]; rfl
theorem pn_other {l : List UInt8} {v : Int} (hv : valI l = v) (h : fmtN v ≠ l) : pnOk (valI l) l = false := by
  unfold pnOk
  rw [hv, decide_eq_false h, Bool.and_false]
theorem ret_ib' {a b : Int} {x y : Bool} (h : x = y ∧ a = b) : Ending.returned (.tuple #[.int .i64 a, .bool x]) = .returned (.tuple #[.int .i64 b, .bool y]) := by rw [h.1, h.2]
-- WALKS
theorem str_eq (a : List UInt8) (s : ByteArray) : ((bs a).toList == s.toList) = decide (a = s.data.toList) := by
  rw [Lib.toList_data, Lib.toList_data, bs_data, Bool.eq_iff_iff]
  simp only [beq_iff_eq, decide_eq_true_eq]
theorem num_of_fmt {v : Int} {l : List UInt8} (h : fmtN v = l) (hl : l ≠ []) : M.num v := by
  refine Classical.byContradiction fun hn => hl ?_
  rw [← h]
  unfold fmtN
  rw [M.isNum_false hn]; rfl
theorem ne_nil_of_head {l : List UInt8} {c : UInt8} (hc : c ≠ 0) (h : l.getD 0 0 = c) : l ≠ [] := fun e => by
  rw [e] at h
  exact hc h.symm
set_option maxHeartbeats 1000000 in
theorem impl_ParseNumber_hash (s : ByteArray) (w : World) (hs : s.size ≤ 1048576) (h : s.data.toList.getD 0 0 = 35) :
    Calls Tryd.prog 37 #[.string s] w fun e w' => e = .returned (.tuple #[.int .i64 (pnV s.data.toList), .bool (pnB s.data.toList)]) ∧ Below w.heap.size w w' := by
  have HP := hid (show Lib.hasPrefix s.data.toList [35] = true by rw [head_prefix (by decide), decide_eq_true h])
  have hV : valI s.data.toList = rdI (s.data.toList.drop 1) := by unfold valI; rw [if_pos h]
  have HH := hid (ne_nil_of_head (by decide) h)
  have hsz : 1 ≤ s.size := by
    rw [← bytes_len]
    cases hl : s.data.toList with
    | nil => rw [hl] at h; simp at h
    | cons a t => simp
  have hszi : (1 : Int) ≤ (s.size : Int) := by omega
  have HE := hid (Lib.extract_to_end s 1)
  have HR : Hid (∀ w, Calls Tryd.prog 65 #[.string (s.extract 1 s.size)] w fun e w' => e = .returned (.int .i64 (rdI (s.data.toList.drop 1))) ∧ w = w') := hid fun w => by
    have h := impl_readDecimal (s.extract 1 s.size) w (by rw [ByteArray.size_extract]; omega)
    rw [HE.out] at h
    exact h
  have hbd := rdI_bd (s.data.toList.drop 1)
  generalize hv : rdI (s.data.toList.drop 1) = v at hV hbd HR
  have HV := hid hV
  have HB := hid (Below.refl w.heap.size w)
  clear hV hv h
  go_enter Tryd.func37, Tryd.ntmps37
  go_wp2_with fail
  refine (Tryd.strings_HasPrefix s ⟨#[35]⟩ _).mono ?_
  rintro e w' ⟨rfl, rfl⟩
  rw [HP.out]
  go_wp2_with fail
  refine (HR.out _).mono ?_
  rintro e w' ⟨rfl, rfl⟩
  by_cases hneg : v < 0
  · have HN := hid (pn_no (pn_neg (by rw [HV.out]; exact hneg)))
    go_wp2_with fail
    go_ret2
    exact ⟨ret_ib' ⟨HN.out.1.symm, HN.out.2.symm⟩, HB.out⟩
  · skip
    have NE := hid (show fmtN v = s.data.toList → M.num v from fun h => num_of_fmt h HH.out)
    obtain ⟨tx, htx⟩ : ∃ tx, tx = bs (fmtN v) := ⟨_, rfl⟩
    have HTX := hid htx
    clear htx
    by_cases he : fmtN v = s.data.toList
    · have hq : (tx.toList == s.toList) = true := by rw [HTX.out, str_eq, decide_eq_true he]
      have HY := hid (pn_yes HV.out (NE.out he) he)
      clear he
      go_wp2_with fail
      refine (impl_FormatNumber v _).mono ?_
      rw [← HTX.out]
      rintro e w' ⟨rfl, rfl⟩
      go_wp2_with fail
      go_ret2
      exact ⟨ret_ib' ⟨HY.out.1.symm, HY.out.2.symm⟩, HB.out⟩
    · have hq : (tx.toList == s.toList) = false := by rw [HTX.out, str_eq, decide_eq_false he]
      have HN := hid (pn_no (pn_other HV.out he))
      clear he
      go_wp2_with fail
      refine (impl_FormatNumber v _).mono ?_
      rw [← HTX.out]
      rintro e w' ⟨rfl, rfl⟩
      go_wp2_with fail
      go_ret2
      exact ⟨ret_ib' ⟨HN.out.1.symm, HN.out.2.symm⟩, HB.out⟩
theorem cut_len {t x y : List UInt8} {sl : Bool} (h : cutV t = (x, y, sl)) : x.length ≤ t.length ∧ y.length ≤ t.length := by
  unfold cutV Lib.cut at h
  split at h
  · cases h
    exact ⟨by rw [List.length_take]; omega, by rw [List.length_drop]; omega⟩
  · cases h
    exact ⟨Nat.le_refl _, by simp⟩
theorem quo_of {t x y : List UInt8} {sl : Bool} (h : cutV t = (x, y, sl)) : quoI t = if rdI x < 0 ∨ (if sl then rdI y else 1) < 1 then -1 else M.frac (rdI x) (if sl then rdI y else 1) := by
  unfold quoI
  rw [h]
set_option maxHeartbeats 4000000 in
theorem impl_ParseNumber_quo (s : ByteArray) (w : World) (hs : s.size ≤ 1048576) (hm : Mx w) (hnh : s.data.toList.getD 0 0 ≠ 35) (hne : s.data.toList ≠ [] ∨ valI s.data.toList < 0) (t : List UInt8) (neg : Bool) (ht : Lib.trimPrefix s.data.toList [45] = t) (hl : t.length ≤ s.size) (hl1 : neg = true → t.length < s.size) (hl2 : neg = false → t.length = s.size)
    (hv : valI s.data.toList = if neg then (if quoI t < 0 then -1 else M.res (-(quoI t))) else quoI t) :
    Calls Tryd.prog 37 #[.string s] w fun e w' => e = .returned (.tuple #[.int .i64 (pnV s.data.toList), .bool (pnB s.data.toList)]) ∧ Below w.heap.size w w' := by
  have HP := hid (show Lib.hasPrefix s.data.toList [35] = false by rw [head_prefix (by decide), decide_eq_false hnh])
  obtain ⟨T, hT⟩ : ∃ T, T = bs t := ⟨_, rfl⟩
  have hTs : T.size = t.length := by rw [hT, bs_size]
  have CT : Hid (∀ w, Calls Tryd.prog 66 #[.string s, .string ⟨#[45]⟩] w fun e w' => e = .returned (.string T) ∧ w = w') := hid fun w =>
    (Tryd.strings_TrimPrefix s ⟨#[45]⟩ w).mono fun e w' h => ⟨by rw [h.1, hT, ← ht]; rfl, h.2.symm⟩
  obtain ⟨x, y, sl, hcut⟩ : ∃ x y sl, cutV t = (x, y, sl) := ⟨_, _, _, rfl⟩
  obtain ⟨X, hX⟩ : ∃ X, X = bs x := ⟨_, rfl⟩
  obtain ⟨Y, hY⟩ : ∃ Y, Y = bs y := ⟨_, rfl⟩
  have CC : Hid (∀ w, Mx w → Calls Tryd.prog 67 #[.string T, .string ⟨#[47]⟩] w fun e w' => e = .returned (.tuple #[.string X, .string Y, .bool sl]) ∧ Below w.heap.size w w') := hid fun w hm => by
    obtain ⟨m, hm⟩ := hm
    refine (Tryd.strings_Cut T ⟨#[47]⟩ m w (by omega) hm).mono fun e w' h => ⟨?_, by obtain ⟨n, hn⟩ := h.2; rw [hn]; exact Below.drewN' (Below.refl _ _) n⟩
    have hc : Lib.cut T.data.toList [47] = (x, y, sl) := by rw [hT, bs_data]; exact hcut
    rw [h.1]
    show Ending.returned (.tuple #[.string ⟨(Lib.cut T.data.toList [47]).1.toArray⟩, .string ⟨(Lib.cut T.data.toList [47]).2.1.toArray⟩, .bool (Lib.cut T.data.toList [47]).2.2]) = _
    rw [hc, hX, hY]; rfl
  have hxy := cut_len hcut
  have DX : Hid (∀ w, Calls Tryd.prog 65 #[.string X] w fun e w' => e = .returned (.int .i64 (rdI x)) ∧ w = w') := hid fun w => by
    have h := impl_readDecimal X w (by rw [hX, bs_size]; omega)
    rw [hX, bs_data] at h
    rw [hX]; exact h
  have DY : Hid (∀ w, Calls Tryd.prog 65 #[.string Y] w fun e w' => e = .returned (.int .i64 (rdI y)) ∧ w = w') := hid fun w => by
    have h := impl_readDecimal Y w (by rw [hY, bs_size]; omega)
    rw [hY, bs_data] at h
    rw [hY]; exact h
  have hq := quo_of hcut
  have hba := rdI_bd x
  have hbb := rdI_bd y
  generalize rdI x = a at hq hba DX
  generalize rdI y = b at hq hbb DY
  have HQ := hid hq
  have HVV := hid hv
  have HNE := hid hne
  have HM := hid hm
  have hl1' : neg = true → T.size < s.size := fun h => by rw [hTs]; exact hl1 h
  have hl2' : neg = false → T.size = s.size := fun h => by rw [hTs]; exact hl2 h
  clear hq hv hne hm hnh ht hl hl1 hl2 hT hTs hcut hX hY hxy
  go_enter Tryd.func37, Tryd.ntmps37
  go_wp2_with fail
  refine (Tryd.strings_HasPrefix s ⟨#[35]⟩ _).mono ?_
  rintro e w0 ⟨rfl, hw⟩
  subst hw
  rw [HP.out]
  go_wp2_with fail
  refine (CT.out _).mono ?_
  rintro e w1 ⟨rfl, rfl⟩
  go_wp2_with fail
  refine (CC.out _ HM.out).mono ?_
  rintro e w2 ⟨rfl, hB2⟩
  have HB := hid hB2
  clear hB2
  cases sl with
  | true =>
    go_wp2_with fail
    refine (DY.out _).mono ?_
    rintro e w3 ⟨rfl, rfl⟩
    go_wp2_with fail
    refine (DX.out _).mono ?_
    rintro e w4 ⟨rfl, rfl⟩
    by_cases ha : a < 0
    · have HN := hid (pn_no (pn_neg (by rw [HVV.out, HQ.out, if_pos (Or.inl ha)]; cases neg <;> decide)))
      go_wp2_with fail
      go_ret2
      exact ⟨ret_ib' ⟨HN.out.1.symm, HN.out.2.symm⟩, HB.out⟩
    · by_cases hb1 : b < 1
      · have HN := hid (pn_no (pn_neg (by rw [HVV.out, HQ.out, if_pos (Or.inr (by simpa using hb1))]; cases neg <;> decide)))
        go_wp2_with fail
        go_ret2
        exact ⟨ret_ib' ⟨HN.out.1.symm, HN.out.2.symm⟩, HB.out⟩
      · have hquo : quoI t = M.frac a b := by
          rw [HQ.out, if_neg (by
            rintro (h | h)
            · exact ha h
            · exact hb1 (by simpa using h))]
          simp
        have hf := M.num_frac a b
        have HH : Hid (s.data.toList ≠ []) := hid (HNE.out.resolve_right (by
          rw [HVV.out, hquo]
          cases neg with
          | true => rw [if_pos rfl, if_neg (by have := hf.1; omega)]; have := (M.num_res (-(M.frac a b))).1; omega
          | false => rw [if_neg (by decide)]; have := hf.1; omega))
        cases neg with
        | true =>
          have hlt := hl1' rfl
          have hlti : (T.size : Int) < (s.size : Int) := by omega
          have hV : valI s.data.toList = M.res (-(M.frac a b)) := by rw [HVV.out, hquo, if_pos rfl, if_neg (by have := hf.1; omega)]
          clear hquo
          go_wp2_with fail
          refine (impl_Fraction a b _).mono ?_
          generalize M.frac a b = f at hf hV
          obtain ⟨f0, f1⟩ := hf
          unfold M.P at f1
          rintro e w5 ⟨rfl, rfl⟩
          go_wp2_with fail
          refine (impl_residue (-f) _).mono ?_
          have hrn := M.num_res (-f)
          generalize M.res (-f) = v at hV hrn
          have HV := hid hV
          obtain ⟨r0, r1⟩ := hrn
          clear hV
          rintro e w6 ⟨rfl, rfl⟩
          have hneg : ¬ v < 0 := by omega
          have NE := hid (show fmtN v = s.data.toList → M.num v from fun h => num_of_fmt h HH.out)
          obtain ⟨tx, htx⟩ : ∃ tx, tx = bs (fmtN v) := ⟨_, rfl⟩
          have HTX := hid htx
          clear htx
          by_cases he : fmtN v = s.data.toList
          · have hq : (tx.toList == s.toList) = true := by rw [HTX.out, str_eq, decide_eq_true he]
            have HY := hid (pn_yes HV.out (NE.out he) he)
            clear he
            go_wp2_with fail
            refine (impl_FormatNumber v _).mono ?_
            rw [← HTX.out]
            rintro e w' ⟨rfl, rfl⟩
            go_wp2_with fail
            go_ret2
            exact ⟨ret_ib' ⟨HY.out.1.symm, HY.out.2.symm⟩, HB.out⟩
          · have hq : (tx.toList == s.toList) = false := by rw [HTX.out, str_eq, decide_eq_false he]
            have HN := hid (pn_no (pn_other HV.out he))
            clear he
            go_wp2_with fail
            refine (impl_FormatNumber v _).mono ?_
            rw [← HTX.out]
            rintro e w' ⟨rfl, rfl⟩
            go_wp2_with fail
            go_ret2
            exact ⟨ret_ib' ⟨HN.out.1.symm, HN.out.2.symm⟩, HB.out⟩
        | false =>
          have hlt := hl2' rfl
          have hlti : ¬ (T.size : Int) < (s.size : Int) := by omega
          have hV : valI s.data.toList = M.frac a b := by rw [HVV.out, hquo, if_neg (by decide)]
          clear hquo
          go_wp2_with fail
          refine (impl_Fraction a b _).mono ?_
          generalize M.frac a b = v at hf hV
          have HV := hid hV
          obtain ⟨f0, f1⟩ := hf
          clear hV
          rintro e w5 ⟨rfl, rfl⟩
          have hneg : ¬ v < 0 := by omega
          clear hlt hl1' hl2'
          have NE := hid (show fmtN v = s.data.toList → M.num v from fun h => num_of_fmt h HH.out)
          obtain ⟨tx, htx⟩ : ∃ tx, tx = bs (fmtN v) := ⟨_, rfl⟩
          have HTX := hid htx
          clear htx
          by_cases he : fmtN v = s.data.toList
          · have hq : (tx.toList == s.toList) = true := by rw [HTX.out, str_eq, decide_eq_true he]
            have HY := hid (pn_yes HV.out (NE.out he) he)
            clear he
            go_wp2_with fail
            refine (impl_FormatNumber v _).mono ?_
            rw [← HTX.out]
            rintro e w' ⟨rfl, rfl⟩
            go_wp2_with fail
            go_ret2
            exact ⟨ret_ib' ⟨HY.out.1.symm, HY.out.2.symm⟩, HB.out⟩
          · have hq : (tx.toList == s.toList) = false := by rw [HTX.out, str_eq, decide_eq_false he]
            have HN := hid (pn_no (pn_other HV.out he))
            clear he
            go_wp2_with fail
            refine (impl_FormatNumber v _).mono ?_
            rw [← HTX.out]
            rintro e w' ⟨rfl, rfl⟩
            go_wp2_with fail
            go_ret2
            exact ⟨ret_ib' ⟨HN.out.1.symm, HN.out.2.symm⟩, HB.out⟩
  | false =>
    go_wp2_with fail
    refine (DX.out _).mono ?_
    rintro e w4 ⟨rfl, rfl⟩
    by_cases ha : a < 0
    · have HN := hid (pn_no (pn_neg (by rw [HVV.out, HQ.out, if_pos (Or.inl ha)]; cases neg <;> decide)))
      go_wp2_with fail
      go_ret2
      exact ⟨ret_ib' ⟨HN.out.1.symm, HN.out.2.symm⟩, HB.out⟩
    · have hb1 : ¬ (1 : Int) < 1 := by decide
      · have hquo : quoI t = M.frac a 1 := by
          rw [HQ.out, if_neg (by
            rintro (h | h)
            · exact ha h
            · exact hb1 h)]
          simp
        have hf := M.num_frac a 1
        have HH : Hid (s.data.toList ≠ []) := hid (HNE.out.resolve_right (by
          rw [HVV.out, hquo]
          cases neg with
          | true => rw [if_pos rfl, if_neg (by have := hf.1; omega)]; have := (M.num_res (-(M.frac a 1))).1; omega
          | false => rw [if_neg (by decide)]; have := hf.1; omega))
        cases neg with
        | true =>
          have hlt := hl1' rfl
          have hlti : (T.size : Int) < (s.size : Int) := by omega
          have hV : valI s.data.toList = M.res (-(M.frac a 1)) := by rw [HVV.out, hquo, if_pos rfl, if_neg (by have := hf.1; omega)]
          clear hquo
          go_wp2_with fail
          refine (impl_Fraction a 1 _).mono ?_
          generalize M.frac a 1 = f at hf hV
          obtain ⟨f0, f1⟩ := hf
          unfold M.P at f1
          rintro e w5 ⟨rfl, rfl⟩
          go_wp2_with fail
          refine (impl_residue (-f) _).mono ?_
          have hrn := M.num_res (-f)
          generalize M.res (-f) = v at hV hrn
          have HV := hid hV
          obtain ⟨r0, r1⟩ := hrn
          clear hV
          rintro e w6 ⟨rfl, rfl⟩
          have hneg : ¬ v < 0 := by omega
          have NE := hid (show fmtN v = s.data.toList → M.num v from fun h => num_of_fmt h HH.out)
          obtain ⟨tx, htx⟩ : ∃ tx, tx = bs (fmtN v) := ⟨_, rfl⟩
          have HTX := hid htx
          clear htx
          by_cases he : fmtN v = s.data.toList
          · have hq : (tx.toList == s.toList) = true := by rw [HTX.out, str_eq, decide_eq_true he]
            have HY := hid (pn_yes HV.out (NE.out he) he)
            clear he
            go_wp2_with fail
            refine (impl_FormatNumber v _).mono ?_
            rw [← HTX.out]
            rintro e w' ⟨rfl, rfl⟩
            go_wp2_with fail
            go_ret2
            exact ⟨ret_ib' ⟨HY.out.1.symm, HY.out.2.symm⟩, HB.out⟩
          · have hq : (tx.toList == s.toList) = false := by rw [HTX.out, str_eq, decide_eq_false he]
            have HN := hid (pn_no (pn_other HV.out he))
            clear he
            go_wp2_with fail
            refine (impl_FormatNumber v _).mono ?_
            rw [← HTX.out]
            rintro e w' ⟨rfl, rfl⟩
            go_wp2_with fail
            go_ret2
            exact ⟨ret_ib' ⟨HN.out.1.symm, HN.out.2.symm⟩, HB.out⟩
        | false =>
          have hlt := hl2' rfl
          have hlti : ¬ (T.size : Int) < (s.size : Int) := by omega
          have hV : valI s.data.toList = M.frac a 1 := by rw [HVV.out, hquo, if_neg (by decide)]
          clear hquo
          go_wp2_with fail
          refine (impl_Fraction a 1 _).mono ?_
          generalize M.frac a 1 = v at hf hV
          have HV := hid hV
          obtain ⟨f0, f1⟩ := hf
          clear hV
          rintro e w5 ⟨rfl, rfl⟩
          have hneg : ¬ v < 0 := by omega
          clear hlt hl1' hl2'
          have NE := hid (show fmtN v = s.data.toList → M.num v from fun h => num_of_fmt h HH.out)
          obtain ⟨tx, htx⟩ : ∃ tx, tx = bs (fmtN v) := ⟨_, rfl⟩
          have HTX := hid htx
          clear htx
          by_cases he : fmtN v = s.data.toList
          · have hq : (tx.toList == s.toList) = true := by rw [HTX.out, str_eq, decide_eq_true he]
            have HY := hid (pn_yes HV.out (NE.out he) he)
            clear he
            go_wp2_with fail
            refine (impl_FormatNumber v _).mono ?_
            rw [← HTX.out]
            rintro e w' ⟨rfl, rfl⟩
            go_wp2_with fail
            go_ret2
            exact ⟨ret_ib' ⟨HY.out.1.symm, HY.out.2.symm⟩, HB.out⟩
          · have hq : (tx.toList == s.toList) = false := by rw [HTX.out, str_eq, decide_eq_false he]
            have HN := hid (pn_no (pn_other HV.out he))
            clear he
            go_wp2_with fail
            refine (impl_FormatNumber v _).mono ?_
            rw [← HTX.out]
            rintro e w' ⟨rfl, rfl⟩
            go_wp2_with fail
            go_ret2
            exact ⟨ret_ib' ⟨HN.out.1.symm, HN.out.2.symm⟩, HB.out⟩
theorem impl_ParseNumber (s : ByteArray) (w : World) (hs : s.size ≤ 1048576) (hm : Mx w) :
    Calls Tryd.prog 37 #[.string s] w fun e w' => e = .returned (.tuple #[.int .i64 (pnV s.data.toList), .bool (pnB s.data.toList)]) ∧ Below w.heap.size w w' := by
  by_cases h : s.data.toList.getD 0 0 = 35
  · exact impl_ParseNumber_hash s w hs h
  · by_cases h2 : s.data.toList.getD 0 0 = 45
    · have hn := ne_nil_of_head (by decide) h2
      have hl : (s.data.toList.drop 1).length < s.size := by
        rw [List.length_drop, bytes_len]
        have : 0 < s.data.toList.length := List.length_pos_iff.2 hn
        rw [bytes_len] at this
        omega
      exact impl_ParseNumber_quo s w hs hm h (.inl hn) (s.data.toList.drop 1) true (trim_yes (by decide) h2) (Nat.le_of_lt hl) (fun _ => hl) (fun h => by cases h) (by unfold valI; rw [if_neg h, if_pos h2, if_pos rfl])
    · refine impl_ParseNumber_quo s w hs hm h ?_ s.data.toList false (trim_no (by decide) h2) (Nat.le_of_eq (bytes_len s)) (fun h => by cases h) (fun _ => bytes_len s) (by unfold valI; rw [if_neg h, if_neg h2, if_neg (by decide)])
      cases hl : s.data.toList with
      | nil => exact .inr (by decide)
      | cons a t => exact .inl (by simp)
end Go.Proofs.YthebegfceaehfaaDoor
