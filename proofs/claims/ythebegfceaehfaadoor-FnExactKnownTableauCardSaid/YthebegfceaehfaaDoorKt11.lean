/- Merged texts: PtS, VanL, SolL. -/
import Derived.Test.YthebegfceaehfaaDoorKt10
import Derived.Test.YthebegfceaehfaaDoorKt5
import Derived.Test.YthebegfceaehfaaDoorKt1
/- PtS: ParseTableau: the specification's walk. -/
namespace Go.Proofs.YthebegfceaehfaaDoor
open Go.RowKit

theorem Sw.mono {w : World} {b b' n : Nat} {v : Value} {xs : List (List UInt8)} (h : Sw w b v n xs) (hb : b' ≤ b) : Sw w b' v n xs := by
  obtain ⟨h1, h2⟩ := h
  exact ⟨h1, h2.imp id fun ⟨g, cap, cur, e, hb', r⟩ => ⟨g, cap, cur, e, Nat.le_trans hb hb', r⟩⟩
def szP (ws : List (List UInt8)) (k : Nat) : Nat := ((ws.take k).map fun t => t.length + 1).sum
theorem szP_step {ws : List (List UInt8)} {k : Nat} {t : List UInt8} (h : ws[k]? = some t) : szP ws (k + 1) = szP ws k + (t.length + 1) := by
  unfold szP
  rw [words_step h, List.map_append, List.sum_append]
  simp
theorem sp1_sum (c : UInt8) : ∀ l : List UInt8, ((sp1 c l).map fun t => t.length + 1).sum = l.length + 1
  | [] => rfl
  | b :: l => by
    have ih := sp1_sum c l
    rw [sp1]
    split
    · rw [List.map_cons, List.sum_cons, ih]; simp; omega
    · cases hs : sp1 c l with
      | nil => exact absurd hs (sp1_ne c l)
      | cons x xs =>
        rw [hs] at ih
        simp only [List.map_cons, List.sum_cons, List.length_cons] at ih ⊢
        omega
theorem szP_le (c : UInt8) (l : List UInt8) (k : Nat) : szP (sp1 c l) k ≤ l.length + 1 := by
  have h := sp1_sum c l
  rw [← List.take_append_drop k (sp1 c l), List.map_append, List.sum_append] at h
  unfold szP
  omega
theorem pnsL_len (p : List UInt8) : (pnsL p).length ≤ p.length + 1 := by
  unfold pnsL
  split
  · rw [List.length_map]; exact sp1_len_le 32 p
  · simp
theorem trim_len (N i : Nat) (p : List UInt8) : (ptTrim N i p).length ≤ p.length := by
  unfold ptTrim
  split <;> split <;> simp <;> omega
theorem spec_ParseNumbersT (T : ByteArray) (t : List UInt8) (w : World) (h : T.data.toList = t) (hs : t.length ≤ 1048576) (hm : Mx w) :
    Calls Tryd.prog 13 #[.string T] w fun e w' => ∃ ao n c, e = .returned (.tuple #[.slice ao n c, .bool (pnsB t)]) ∧ NewInts w w' (pnsL t) ao n c := by
  subst h
  exact spec_ParseNumbers T w (by rw [← bytes_len]; exact hs) hm
section
variable {T : ByteArray} {t : List UInt8} {N k : Nat}
theorem ex_data (h : T.data.toList = t) (a b : Nat) : (T.extract a b).data.toList = (t.take b).drop a := by rw [ext_bs, bs_data, h]
theorem tr_nil (h : T.data.toList = t) (hz : T.size = t.length) (h0 : T.size ≤ 0) : T.data.toList = ptTrim N k t := by
  obtain rfl : t = [] := List.eq_nil_of_length_eq_zero (by omega)
  rw [h]
  unfold ptTrim
  simp
theorem tr11 (h : T.data.toList = t) (hz : T.size = t.length) (hk0 : 0 < k) (hk1 : k + 1 < N) : ((T.extract 1 T.size).extract 0 (T.size - 1 - 1)).data.toList = ptTrim N k t := by
  rw [ex_data (ex_data h 1 T.size), hz, List.take_length, List.drop_zero]
  unfold ptTrim
  rw [if_pos hk1, if_pos hk0, List.dropLast_eq_take, List.length_drop]
theorem tr10 (h : T.data.toList = t) (hz : T.size = t.length) (hk0 : 0 < k) (hk1 : k + 1 < N) (h1 : T.size ≤ 1) : (T.extract 1 T.size).data.toList = ptTrim N k t := by
  rw [ex_data h 1 T.size, hz, List.take_length]
  unfold ptTrim
  rw [if_pos hk1, if_pos hk0, List.drop_eq_nil_of_le (by omega)]
  rfl
theorem tr01 (h : T.data.toList = t) (hz : T.size = t.length) (hk0 : ¬ 0 < k) (hk1 : k + 1 < N) : (T.extract 0 (T.size - 1)).data.toList = ptTrim N k t := by
  rw [ex_data h 0 (T.size - 1), hz, List.drop_zero]
  unfold ptTrim
  rw [if_pos hk1, if_neg hk0, List.dropLast_eq_take]
theorem tr20 (h : T.data.toList = t) (hz : T.size = t.length) (hk0 : 0 < k) (hk1 : ¬ k + 1 < N) : (T.extract 1 T.size).data.toList = ptTrim N k t := by
  rw [ex_data h 1 T.size, hz, List.take_length]
  unfold ptTrim
  rw [if_neg hk1, if_pos hk0]
theorem tr00 (h : T.data.toList = t) (hk0 : ¬ 0 < k) (hk1 : ¬ k + 1 < N) : T.data.toList = ptTrim N k t := by
  rw [h]
  unfold ptTrim
  rw [if_neg hk1, if_neg hk0]
end
set_option maxRecDepth 20000 in
set_option maxHeartbeats 4000000 in
theorem spec_ParseTableau_none (s : ByteArray) (w : World) (hs : s.size ≤ 1048576) (hn : s.data.toList = noneT) :
    Calls Tryd.prog 5 #[.string s] w fun e w' => ∃ p n c q m d, e = .returned (.tuple #[.agg #[.int .i64 0, .slice p n c, .slice q m d], .bool true]) ∧ NewT w w' [] [] p n c q m d := by
  have HNN := hid hn
  have hq : (s.toList == [110, 111, 110, 101]) = true := by rw [str_none, decide_eq_true hn]
  have he : (s.toList == []) = false := by
    rw [Lib.toList_data, hn]
    rfl
  have RS0 := hid (bk_new w #[.int .i64 0, .slice none 0 0, .slice none 0 0] 24)
  clear hn
  go_enter Tryd.func5, Tryd.ntmps5
  go_wp2_with fail
  refine (spec_l1Cut s 124 124 _ hs rfl).mono ?_
  rintro e w1 ⟨v, N, rfl, hNs, hS, hB⟩
  have y1 := hB.size
  simp only [World.size_alloc] at y1
  rw [World.size_alloc, World.size_alloc] at hS
  have hN1 : 1 ≤ N := by
    have := hS.len
    have := List.length_pos_iff.2 (sp1_ne 124 s.data.toList)
    omega
  have HL := hid hS.len
  obtain ⟨g, c, _, rfl, _, _⟩ := hS.word (j := 0) (by omega)
  have hg := (hS.lt g rfl).1
  have P0 : Hid (Pu w w1 (w.heap.size + 1) (.int .i64 0) (.slice none 0 0) 0 [] none 0 0 [] (.slice (some ⟨g, 0, none⟩) N c) N (sp1 124 s.data.toList)) :=
    hid ⟨l_below (l_alloc (below_box _ _) _) hB, bk_below (bk_alloc RS0.out _) hB, bk_below (heap_alloc_at _ _ _ _ (by simp)) hB, Ow.nil _ _, Fr.none _ _, fun h => absurd h (by omega), hS.mono (by omega), ⟨by simp [Value.ownBlock], by simp [Value.ownBlock], by simp [Value.ownBlock]; omega⟩, by omega⟩
  have P1 : Hid (Pu w (w1.setCell ⟨w.heap.size + 1, 0, none⟩ (.int .i64 ((N : Int) - 1))) (w.heap.size + 1) (.int .i64 ((N : Int) - 1)) (.slice none 0 0) 0 [] none 0 0 [] (.slice (some ⟨g, 0, none⟩) N c) N (sp1 124 s.data.toList)) :=
    hid ⟨P0.out.l.setCell (Nat.le_succ _) _, (heap_setCell_other _ _ _ _ (Nat.ne_of_lt (Nat.lt_succ_self _))).trans P0.out.res, heap_setCell_same _ _ _ _ _ _ P0.out.out, Ow.nil _ _, Fr.none _ _, fun h => absurd h (by omega), P0.out.s.grown (grown_setCell _ _ _ _) (.inr P0.out.ne.2.2), P0.out.ne, P0.out.lt⟩
  obtain ⟨⟨t0, t1, t2⟩, g0, g1, g2⟩ := blk3 P0.out.out
  have hin : (N : Int) - 1 ≤ 9223372036854775807 := by omega
  clear hS hB RS0
  go_wp2_with fail
  clear t0 t1 t2 g0 g1 g2 P0
  have HN1 : Hid ((N : Int) - 1 = 0) := hid (by
    have h := HL.out
    rw [HNN.out, sp1_free 124 noneT (by decide), List.length_singleton] at h
    omega)
  have HF : Hid (fmtTab ((N : Int) - 1) [] [] = s) := hid (by
    rw [HN1.out]
    show fmtTab ((0 : Nat) : Int) [] [] = s
    rw [fmtTab_zero rfl, ← bs_list s, HNN.out])
  go_loopw [6, 7, 8, 9] (fun i _ _ _ wr => i = .int .i64 0 ∧ Hid (Pu w wr (w.heap.size + 1) (.int .i64 ((N : Int) - 1)) (.slice none 0 0) 0 [] none 0 0 [] (.slice (some ⟨g, 0, none⟩) N c) N (sp1 124 s.data.toList))) (fun i _ _ _ _ => 0)
  case atStart => exact ⟨rfl, P1⟩
  case round =>
    clear P1
    obtain ⟨rfl, hP⟩ := hrel
    obtain ⟨wo, rfl⟩ : ∃ wo : World, wo = wr := ⟨_, rfl⟩
    obtain ⟨⟨t0, t1, t2⟩, g0, g1, g2⟩ := blk3 hP.out.out
    have hN0 : (0 : Int) < (N : Int) := by omega
    go_wp2_with fail
    refine (spec_FormatTableau _ _ _ _ [] _ _ _ [] _ (Fr.none wo 0).rd (Fr.none wo 0).rd).mono ?_
    rw [HF.out]
    rintro e w2 ⟨rfl, hB2⟩
    have P2 := hid (hP.out.below hB2)
    clear t0 t1 t2 g0 g1 g2 hB2
    obtain ⟨⟨t0, t1, t2⟩, g0, g1, g2⟩ := blk3 P2.out.out
    obtain ⟨⟨r0, r1, r2⟩, f0, f1, f2⟩ := blk3 P2.out.res
    go_wp2_with fail
    obtain ⟨a1, c1, ev, e1, e2⟩ := P2.out.finish (.int .i64 ((N : Int) - 1)) (.slice none 0 0) (.slice none 0 0)
    cases ev
    exact ret_tabb rfl rfl rfl e1 rfl ⟨_, _, _, _, _, _, by rw [HN1.out], e2⟩
set_option maxRecDepth 20000 in
set_option maxHeartbeats 40000000 in
theorem spec_ParseTableau_cut (s : ByteArray) (w : World) (hs : s.size ≤ 1048576) (hm : Mx w) (hn : s.data.toList ≠ noneT) {rs : Int} {rA rB : List Int} {rb : Bool} (hr : ptS s.data.toList = ⟨rs, rA, rB, rb⟩) :
    Calls Tryd.prog 5 #[.string s] w fun e w' => ∃ p n c q m d, e = .returned (.tuple #[.agg #[.int .i64 rs, .slice p n c, .slice q m d], .bool rb]) ∧ NewT w w' rA rB p n c q m d := by
  have HRV := hid hr
  have HM := hid hm
  have HNN := hid hn
  have hq : (s.toList == [110, 111, 110, 101]) = false := by rw [str_none, decide_eq_false hn]
  have RS0 := hid (bk_new w #[.int .i64 0, .slice none 0 0, .slice none 0 0] 24)
  clear hr hm hn
  go_enter Tryd.func5, Tryd.ntmps5
  go_wp2_with fail
  refine (spec_l1Cut s 124 124 _ hs rfl).mono ?_
  rintro e w1 ⟨v, N, rfl, hNs, hS, hB⟩
  have y1 := hB.size
  simp only [World.size_alloc] at y1
  rw [World.size_alloc, World.size_alloc] at hS
  have hN1 : 1 ≤ N := by
    have := hS.len
    have := List.length_pos_iff.2 (sp1_ne 124 s.data.toList)
    omega
  have HL := hid hS.len
  obtain ⟨g, c, _, rfl, _, _⟩ := hS.word (j := 0) (by omega)
  have hg := (hS.lt g rfl).1
  have P0 : Hid (Pu w w1 (w.heap.size + 1) (.int .i64 0) (.slice none 0 0) 0 [] none 0 0 [] (.slice (some ⟨g, 0, none⟩) N c) N (sp1 124 s.data.toList)) :=
    hid ⟨l_below (l_alloc (below_box _ _) _) hB, bk_below (bk_alloc RS0.out _) hB, bk_below (heap_alloc_at _ _ _ _ (by simp)) hB, Ow.nil _ _, Fr.none _ _, fun h => absurd h (by omega), hS.mono (by omega), ⟨by simp [Value.ownBlock], by simp [Value.ownBlock], by simp [Value.ownBlock]; omega⟩, by omega⟩
  have P1 : Hid (Pu w (w1.setCell ⟨w.heap.size + 1, 0, none⟩ (.int .i64 ((N : Int) - 1))) (w.heap.size + 1) (.int .i64 ((N : Int) - 1)) (.slice none 0 0) 0 [] none 0 0 [] (.slice (some ⟨g, 0, none⟩) N c) N (sp1 124 s.data.toList)) :=
    hid ⟨P0.out.l.setCell (Nat.le_succ _) _, (heap_setCell_other _ _ _ _ (Nat.ne_of_lt (Nat.lt_succ_self _))).trans P0.out.res, heap_setCell_same _ _ _ _ _ _ P0.out.out, Ow.nil _ _, Fr.none _ _, fun h => absurd h (by omega), P0.out.s.grown (grown_setCell _ _ _ _) (.inr P0.out.ne.2.2), P0.out.ne, P0.out.lt⟩
  obtain ⟨⟨t0, t1, t2⟩, g0, g1, g2⟩ := blk3 P0.out.out
  have hin : (N : Int) - 1 ≤ 9223372036854775807 := by omega
  clear hS hB RS0
  go_wp2_with fail
  clear t0 t1 t2 g0 g1 g2 P0
  go_loopw [6, 7, 8, 9] (fun i _ _ _ wr => ∃ (k nA : Nat) (vA : Value) (XA : List Int) (b2 : Option Addr) (nB cB : Nat) (XB : List Int), i = .int .i64 k ∧ k ≤ N ∧ Hid (nA ≤ szP (sp1 124 s.data.toList) k) ∧ Hid (Pu w wr (w.heap.size + 1) (.int .i64 ((N : Int) - 1)) vA nA XA b2 nB cB XB (.slice (some ⟨g, 0, none⟩) N c) N (sp1 124 s.data.toList)) ∧ Hid (XA = ptA s.data.toList (min k (N - 1))) ∧ Hid (if k = N then XB = ptN s.data.toList (N - 1) else b2 = none ∧ nB = 0 ∧ cB = 0 ∧ XB = [])) (fun i _ _ _ _ => N - (intOf i).toNat)
  case atStart => exact ⟨0, 0, _, [], none, 0, 0, [], rfl, Nat.zero_le _, hid (Nat.zero_le _), P1, hid (by simp [ptA]), hid (by rw [if_neg (by omega)]; exact ⟨rfl, rfl, rfl, rfl⟩)⟩
  case round =>
    clear P1
    obtain ⟨k, nA, vA, XA, b2, nB, cB, XB, rfl, hk, hnA, hP, hXA, hXB⟩ := hrel
    obtain ⟨wo, rfl⟩ : ∃ wo : World, wo = wr := ⟨_, rfl⟩
    obtain ⟨va, ca, rfl, hFA⟩ := hP.out.a.fr
    have HFA := hid hFA
    clear hFA
    obtain ⟨⟨t0, t1, t2⟩, g0, g1, g2⟩ := blk3 hP.out.out
    have sz := bk_lt hP.out.out
    by_cases hlt : k < N
    · have hki : (k : Int) < (N : Int) := by omega
      have hx := hXB.out
      rw [if_neg (by omega)] at hx
      obtain ⟨rfl, rfl, rfl, rfl⟩ := hx
      clear hXB
      obtain ⟨g', c', t, e1, u0, ht⟩ := hP.out.s.word hlt
      cases e1
      have HT := hid ht
      have hzs := szP_le 124 s.data.toList (k + 1)
      rw [szP_step ht, bytes_len] at hzs
      have HNA := hid (Nat.add_le_add_right hnA.out (t.length + 1))
      have HTN := hid (show ptN s.data.toList k = pnsL (ptTrim N k t) by unfold ptN; rw [HL.out, List.getD_eq_getElem?_getD, ht]; rfl)
      have hzn : nA + (t.length + 1) ≤ s.size + 1 := by have := HNA.out; omega
      obtain ⟨T, hT⟩ : ∃ T, T = bs t := ⟨_, rfl⟩
      have HTD := hid (show T.data.toList = t by rw [hT, bs_data])
      have hTs : T.size ≤ 1048576 := by rw [hT, bs_size]; omega
      rw [← hT] at u0
      have HZ := hid (show T.size = t.length by rw [hT, bs_size])
      clear ht hT hzs
      by_cases hk1 : k + 1 < N
      · have hk1' : (k : Int) + 1 < (N : Int) := by omega
        by_cases hk0 : 0 < k
        · have hk0' : (0 : Int) < (k : Int) := by omega
          go_wp2_with fail
          all_goals
            refine (spec_ParseNumbersT _ (ptTrim N k t) _ (by first | with_reducible exact tr11 HTD.out HZ.out hk0 hk1 | with_reducible exact tr10 HTD.out HZ.out hk0 hk1 (by omega) | with_reducible exact tr01 HTD.out HZ.out hk0 hk1 | with_reducible exact tr20 HTD.out HZ.out hk0 hk1 | with_reducible exact tr00 HTD.out hk0 hk1 | with_reducible exact tr_nil HTD.out HZ.out (by omega)) (by have := trim_len N k t; have := HZ.out; omega) (HM.out.below hP.out.l)).mono ?_
            rintro e w2 ⟨ao, n, c2, rfl, hN⟩
            have HN := hid hN
            have hnl : n ≤ t.length + 1 := by
              have h1 := hN.1.rd.len
              have h2 := pnsL_len (ptTrim N k t)
              have h3 := trim_len N k t
              omega
            have P1 := hid (hP.out.below hN.2)
            have y2 := hN.2.size
            clear t0 t1 t2 g0 g1 g2 u0 hN
            obtain ⟨⟨t0, t1, t2⟩, g0, g1, g2⟩ := blk3 P1.out.out
            generalize pnsB (ptTrim N k t) = pb
            go_wp2_with (at_builtin; (refine wpList_append_ints _ rfl _ _ rfl (w.heap.size + 1 + 1) _ nA _ rfl P1.out.a _ n c2 (pnsL (ptTrim N k t)) rfl HN.out.1.rd (by omega) (by omega) ?_); intro ay cy w3 hO3 hG3 hW3; have P3 := hid (P1.out.push hO3 hG3 hW3); obtain ⟨⟨v0, v1, v2⟩, k0, k1, k2⟩ := blk3 (P1.out.outG hG3); clear hO3 hG3 hW3)
            go_roundw
            case rel => exact ⟨k + 1, nA + n, _, _, none, 0, 0, [], by go_num, by omega, hid (by rw [szP_step HT.out]; have := hnA.out; omega), P3, hid (by rw [hXA.out, Nat.min_eq_left (by omega), Nat.min_eq_left (by omega)]; unfold ptA; rw [List.range_succ, List.flatMap_append, List.flatMap_cons, List.flatMap_nil, List.append_nil, HTN.out]), hid (by rw [if_neg (by omega)]; exact ⟨rfl, rfl, rfl, rfl⟩)⟩
            case measure => simp [intOf]; omega
        · have hk0' : ¬ (0 : Int) < (k : Int) := by omega
          go_wp2_with fail
          all_goals
            refine (spec_ParseNumbersT _ (ptTrim N k t) _ (by first | with_reducible exact tr11 HTD.out HZ.out hk0 hk1 | with_reducible exact tr10 HTD.out HZ.out hk0 hk1 (by omega) | with_reducible exact tr01 HTD.out HZ.out hk0 hk1 | with_reducible exact tr20 HTD.out HZ.out hk0 hk1 | with_reducible exact tr00 HTD.out hk0 hk1 | with_reducible exact tr_nil HTD.out HZ.out (by omega)) (by have := trim_len N k t; have := HZ.out; omega) (HM.out.below hP.out.l)).mono ?_
            rintro e w2 ⟨ao, n, c2, rfl, hN⟩
            have HN := hid hN
            have hnl : n ≤ t.length + 1 := by
              have h1 := hN.1.rd.len
              have h2 := pnsL_len (ptTrim N k t)
              have h3 := trim_len N k t
              omega
            have P1 := hid (hP.out.below hN.2)
            have y2 := hN.2.size
            clear t0 t1 t2 g0 g1 g2 u0 hN
            obtain ⟨⟨t0, t1, t2⟩, g0, g1, g2⟩ := blk3 P1.out.out
            generalize pnsB (ptTrim N k t) = pb
            go_wp2_with (at_builtin; (refine wpList_append_ints _ rfl _ _ rfl (w.heap.size + 1 + 1) _ nA _ rfl P1.out.a _ n c2 (pnsL (ptTrim N k t)) rfl HN.out.1.rd (by omega) (by omega) ?_); intro ay cy w3 hO3 hG3 hW3; have P3 := hid (P1.out.push hO3 hG3 hW3); obtain ⟨⟨v0, v1, v2⟩, k0, k1, k2⟩ := blk3 (P1.out.outG hG3); clear hO3 hG3 hW3)
            go_roundw
            case rel => exact ⟨k + 1, nA + n, _, _, none, 0, 0, [], by go_num, by omega, hid (by rw [szP_step HT.out]; have := hnA.out; omega), P3, hid (by rw [hXA.out, Nat.min_eq_left (by omega), Nat.min_eq_left (by omega)]; unfold ptA; rw [List.range_succ, List.flatMap_append, List.flatMap_cons, List.flatMap_nil, List.append_nil, HTN.out]), hid (by rw [if_neg (by omega)]; exact ⟨rfl, rfl, rfl, rfl⟩)⟩
            case measure => simp [intOf]; omega
      · have hk1' : ¬ (k : Int) + 1 < (N : Int) := by omega
        by_cases hk0 : 0 < k
        · have hk0' : (0 : Int) < (k : Int) := by omega
          go_wp2_with fail
          all_goals
            refine (spec_ParseNumbersT _ (ptTrim N k t) _ (by first | with_reducible exact tr11 HTD.out HZ.out hk0 hk1 | with_reducible exact tr10 HTD.out HZ.out hk0 hk1 (by omega) | with_reducible exact tr01 HTD.out HZ.out hk0 hk1 | with_reducible exact tr20 HTD.out HZ.out hk0 hk1 | with_reducible exact tr00 HTD.out hk0 hk1 | with_reducible exact tr_nil HTD.out HZ.out (by omega)) (by have := trim_len N k t; have := HZ.out; omega) (HM.out.below hP.out.l)).mono ?_
            rintro e w2 ⟨ao, n, c2, rfl, hN⟩
            have HN := hid hN
            have hnl : n ≤ t.length + 1 := by
              have h1 := hN.1.rd.len
              have h2 := pnsL_len (ptTrim N k t)
              have h3 := trim_len N k t
              omega
            have P1 := hid (hP.out.below hN.2)
            have y2 := hN.2.size
            clear t0 t1 t2 g0 g1 g2 u0 hN
            obtain ⟨⟨t0, t1, t2⟩, g0, g1, g2⟩ := blk3 P1.out.out
            generalize pnsB (ptTrim N k t) = pb
            have P3 := hid (hP.out.setB HN.out)
            go_wp2_with fail
            go_roundw
            case rel => exact ⟨k + 1, nA, _, _, ao, n, c2, pnsL (ptTrim N k t), by go_num, by omega, hid (by rw [szP_step HT.out]; have := hnA.out; omega), P3, hid (by rw [hXA.out, Nat.min_eq_right (by omega), Nat.min_eq_right (by omega)]), hid (by rw [if_pos (by omega), show N - 1 = k by omega, HTN.out])⟩
            case measure => simp [intOf]; omega
        · have hk0' : ¬ (0 : Int) < (k : Int) := by omega
          go_wp2_with fail
          all_goals
            refine (spec_ParseNumbersT _ (ptTrim N k t) _ (by first | with_reducible exact tr11 HTD.out HZ.out hk0 hk1 | with_reducible exact tr10 HTD.out HZ.out hk0 hk1 (by omega) | with_reducible exact tr01 HTD.out HZ.out hk0 hk1 | with_reducible exact tr20 HTD.out HZ.out hk0 hk1 | with_reducible exact tr00 HTD.out hk0 hk1 | with_reducible exact tr_nil HTD.out HZ.out (by omega)) (by have := trim_len N k t; have := HZ.out; omega) (HM.out.below hP.out.l)).mono ?_
            rintro e w2 ⟨ao, n, c2, rfl, hN⟩
            have HN := hid hN
            have hnl : n ≤ t.length + 1 := by
              have h1 := hN.1.rd.len
              have h2 := pnsL_len (ptTrim N k t)
              have h3 := trim_len N k t
              omega
            have P1 := hid (hP.out.below hN.2)
            have y2 := hN.2.size
            clear t0 t1 t2 g0 g1 g2 u0 hN
            obtain ⟨⟨t0, t1, t2⟩, g0, g1, g2⟩ := blk3 P1.out.out
            generalize pnsB (ptTrim N k t) = pb
            have P3 := hid (hP.out.setB HN.out)
            go_wp2_with fail
            go_roundw
            case rel => exact ⟨k + 1, nA, _, _, ao, n, c2, pnsL (ptTrim N k t), by go_num, by omega, hid (by rw [szP_step HT.out]; have := hnA.out; omega), P3, hid (by rw [hXA.out, Nat.min_eq_right (by omega), Nat.min_eq_right (by omega)]), hid (by rw [if_pos (by omega), show N - 1 = k by omega, HTN.out])⟩
            case measure => simp [intOf]; omega
    · obtain rfl : k = N := by omega
      have hx := hXB.out
      rw [if_pos rfl] at hx
      have hXA2 : XA = ptA s.data.toList (k - 1) := by rw [hXA.out, Nat.min_eq_right (by omega)]
      have hSt : ptSt s.data.toList = k - 1 := by unfold ptSt; rw [HL.out]
      have HV : Hid (ptS s.data.toList = if s.data.toList = [] ∨ fmtTab ((k : Int) - 1) XA XB ≠ s then Tb.none else ⟨(k : Int) - 1, XA, XB, true⟩) := hid (by
        unfold ptS
        rw [if_neg HNN.out, hSt, ← hXA2, ← hx, bs_list, show ((k - 1 : Nat) : Int) = (k : Int) - 1 by omega])
      clear hx hXA2 hSt
      obtain ⟨⟨r0, r1, r2⟩, f0, f1, f2⟩ := blk3 hP.out.res
      have he : (s.toList == []) = decide (s.data.toList = []) := by
        rw [Lib.toList_data, Bool.eq_iff_iff]
        simp only [beq_iff_eq, decide_eq_true_eq]
      have HRA := hid hP.out.a
      by_cases hz : s.data.toList = []
      · rw [decide_eq_true hz] at he
        obtain ⟨rfl, rfl, rfl, rfl⟩ := tb_none (HRV.out.symm.trans (HV.out.trans (if_pos (.inl hz))))
        clear hz
        go_wp2_with fail
        obtain ⟨e1, e2⟩ := none_end hP.out.l (Nat.le_refl _) hP.out.res (.int .i64 0) (.slice none 0 0) (.slice none 0 0)
        exact ret_tabb rfl rfl rfl e1 rfl ⟨_, _, _, _, _, _, rfl, e2⟩
      · rw [decide_eq_false hz] at he
        have HZ := hid hz
        clear hz hXB
        obtain ⟨F, hF⟩ : ∃ F, F = fmtTab ((k : Int) - 1) XA XB := ⟨_, rfl⟩
        rw [← hF] at HV
        have HF := hid hF
        clear hF
        go_wp2_with fail
        refine (spec_FormatTableau _ _ _ _ XA _ _ _ XB _ HFA.out.rd hP.out.b.rd).mono ?_
        rw [← HF.out]
        rintro e w2 ⟨rfl, hB2⟩
        have P2 := hid (hP.out.below hB2)
        have y2 := hB2.size
        clear t0 t1 t2 g0 g1 g2 r0 r1 r2 f0 f1 f2 hB2
        obtain ⟨⟨t0, t1, t2⟩, g0, g1, g2⟩ := blk3 P2.out.out
        obtain ⟨⟨r0, r1, r2⟩, f0, f1, f2⟩ := blk3 P2.out.res
        by_cases hf : F = s
        · have q : (F.toList == s.toList) = true := by rw [hf]; simp
          obtain ⟨rfl, rfl, rfl, rfl⟩ := tb_eq (HRV.out.symm.trans (HV.out.trans (if_neg (fun e => e.elim HZ.out (fun e => e hf)))))
          clear hf
          go_wp2_with fail
          obtain ⟨a1, c1, ev, e1, e2⟩ := P2.out.finish (.int .i64 ((k : Int) - 1)) (.slice va nA ca) (.slice b2 nB cB)
          cases ev
          exact ret_tabb rfl rfl rfl e1 rfl ⟨_, _, _, _, _, _, rfl, e2⟩
        · have q : (F.toList == s.toList) = false := by
            rw [Lib.toList_data, Lib.toList_data, beq_eq_false_iff_ne]
            exact fun e => hf (by rw [← bs_list F, e, bs_list])
          obtain ⟨rfl, rfl, rfl, rfl⟩ := tb_none (HRV.out.symm.trans (HV.out.trans (if_pos (.inr hf))))
          clear hf
          go_wp2_with fail
          obtain ⟨e1, e2⟩ := none_end P2.out.l (Nat.le_refl _) P2.out.res (.int .i64 0) (.slice none 0 0) (.slice none 0 0)
          exact ret_tabb rfl rfl rfl e1 rfl ⟨_, _, _, _, _, _, rfl, e2⟩
theorem spec_ParseTableau (s : ByteArray) (w : World) (hs : s.size ≤ 1048576) (hm : Mx w) {rs : Int} {rA rB : List Int} {rb : Bool} (hr : ptI s.data.toList = ⟨rs, rA, rB, rb⟩) :
    Calls Tryd.prog 5 #[.string s] w fun e w' => ∃ p n c q m' d', e = .returned (.tuple #[.agg #[.int .i64 rs, .slice p n c, .slice q m' d'], .bool rb]) ∧ NewT w w' rA rB p n c q m' d' := by
  by_cases hn : s.data.toList = noneT
  · obtain ⟨rfl, rfl, rfl, rfl⟩ := tb_eq (hr.symm.trans (ptI_none hn))
    exact spec_ParseTableau_none s w hs hn
  · exact spec_ParseTableau_cut s w hs hm hn (by rw [pt_same]; exact hr)
theorem ptI_len (l : List UInt8) : (ptI l).A.length ≤ 1000 ∧ (ptI l).B.length ≤ 1000 := by
  unfold ptI
  split
  · exact ⟨Nat.zero_le _, Nat.zero_le _⟩
  · split
    · rename_i h
      obtain ⟨h1, h8, ha⟩ := h
      have hp : ∀ p ∈ splitP l, (pnsL p).length = (splitP l).length - 1 := fun p hp => by
        have := List.all_eq_true.1 ha p hp
        unfold ptRow at this
        simp only [Bool.and_eq_true, decide_eq_true_eq] at this
        exact this.2
      have hf := flat_len ((splitP l).take ((splitP l).length - 1)) (fun r hr => hp r (List.mem_of_mem_take hr))
      have h64 : (splitP l).length - 1 ≤ 8 := h8
      refine ⟨?_, ?_⟩
      · show (((splitP l).take ((splitP l).length - 1)).flatMap pnsL).length ≤ 1000
        rw [hf, List.length_take]
        exact Nat.le_trans (Nat.mul_le_mul (Nat.le_trans (Nat.min_le_left _ _) h8) h8) (by omega)
      · show (pnsL ((splitP l).getD ((splitP l).length - 1) [])).length ≤ 1000
        have hlt : (splitP l).length - 1 < (splitP l).length := by omega
        rw [List.getD_eq_getElem?_getD, List.getElem?_eq_getElem hlt]
        show (pnsL (splitP l)[(splitP l).length - 1]).length ≤ 1000
        rw [hp _ (List.getElem_mem hlt)]
        omega
    · exact ⟨Nat.zero_le _, Nat.zero_le _⟩
end Go.Proofs.YthebegfceaehfaaDoor

/- VanL: Sums mod P; powers of different numbers: a system of their powers has a trivial kernel. -/
namespace Go.Proofs.YthebegfceaehfaaDoor.Van
open M

def sumN : Nat → (Nat → Int) → Int
  | 0, _ => 0
  | n + 1, f => sumN n f + f n
theorem sumN_congr {n : Nat} {f g : Nat → Int} (h : ∀ i, i < n → f i = g i) : sumN n f = sumN n g := by
  induction n with
  | zero => rfl
  | succ n ih =>
    simp only [sumN]
    rw [ih (fun i hi => h i (by omega)), h n (by omega)]
theorem sumN_zero {n : Nat} {f : Nat → Int} (h : ∀ i, i < n → f i = 0) : sumN n f = 0 := by
  induction n with
  | zero => rfl
  | succ n ih => simp only [sumN]; rw [ih (fun i hi => h i (by omega)), h n (by omega)]; rfl
theorem sumN_sub (n : Nat) (f g : Nat → Int) : sumN n (fun i => f i - g i) = sumN n f - sumN n g := by
  induction n with
  | zero => rfl
  | succ n ih => simp only [sumN]; rw [ih]; omega
theorem sumN_add (n : Nat) (f g : Nat → Int) : sumN n (fun i => f i + g i) = sumN n f + sumN n g := by
  induction n with
  | zero => rfl
  | succ n ih => simp only [sumN]; rw [ih]; omega
theorem sumN_mul (n : Nat) (a : Int) (f : Nat → Int) : sumN n (fun i => a * f i) = a * sumN n f := by
  induction n with
  | zero => simp [sumN]
  | succ n ih => simp only [sumN]; rw [ih, Int.mul_add]
theorem sumN_dvd {d : Int} {n : Nat} {f : Nat → Int} (h : ∀ i, i < n → d ∣ f i) : d ∣ sumN n f := by
  induction n with
  | zero => exact Int.dvd_zero _
  | succ n ih => exact Int.dvd_add (ih fun i hi => h i (by omega)) (h n (by omega))
theorem sumN_one {n j : Nat} {f : Nat → Int} (hj : j < n) (h : ∀ i, i < n → i ≠ j → f i = 0) : sumN n f = f j := by
  induction n with
  | zero => omega
  | succ n ih =>
    simp only [sumN]
    by_cases e : j = n
    · subst e
      rw [sumN_zero (fun i hi => h i (by omega) (by omega)), Int.zero_add]
    · rw [ih (by omega) (fun i hi hn => h i (by omega) hn), h n (by omega) (by omega), Int.add_zero]
theorem prime_dvd {a b : Int} (h : P ∣ a * b) : P ∣ a ∨ P ∣ b :=
  (dvd_mul (Int.emod_eq_zero_of_dvd h)).imp Int.dvd_of_emod_eq_zero Int.dvd_of_emod_eq_zero
def prodR (c : Nat → Int) : List Nat → Int → Int
  | [], _ => 1
  | r :: rs, y => (y - c r) * prodR c rs y
theorem prodR_zero {c : Nat → Int} {l : Nat} : ∀ {rs : List Nat}, l ∈ rs → prodR c rs (c l) = 0
  | r :: rs, h => by
    rw [prodR]
    rcases List.mem_cons.1 h with rfl | h
    · rw [Int.sub_self, Int.zero_mul]
    · rw [prodR_zero h, Int.mul_zero]
theorem prodR_not {c : Nat → Int} {y : Int} : ∀ {rs : List Nat}, (∀ r ∈ rs, ¬ P ∣ y - c r) → ¬ P ∣ prodR c rs y
  | [], _ => by rw [prodR]; decide
  | r :: rs, h => by
    rw [prodR]
    intro hd
    rcases prime_dvd hd with h1 | h1
    · exact h r (List.mem_cons_self ..) h1
    · exact prodR_not (fun x hx => h x (List.mem_cons_of_mem _ hx)) h1
theorem van_prod {n : Nat} {c x : Nat → Int} (h : ∀ k, k < n → P ∣ sumN n (fun l => c l ^ k * x l)) :
    ∀ (rs : List Nat) (e : Nat), rs.length + e < n → P ∣ sumN n (fun l => prodR c rs (c l) * (c l ^ e * x l))
  | [], e, he => by
    have := h e (by simpa using he)
    simpa [prodR] using this
  | r :: rs, e, he => by
    have h1 := van_prod h rs (e + 1) (by simp at he; omega)
    have h2 := van_prod h rs e (by simp at he; omega)
    rw [sumN_congr (g := fun l => prodR c rs (c l) * (c l ^ (e + 1) * x l) - c r * (prodR c rs (c l) * (c l ^ e * x l))) (fun l _ => by
      rw [prodR, Int.pow_succ]
      rw [Int.sub_mul, Int.sub_mul]
      congr 1
      · rw [Int.mul_comm (c l) (prodR c rs (c l)), Int.mul_assoc, ← Int.mul_assoc (c l), Int.mul_comm (c l) (c l ^ e)]
      · rw [Int.mul_assoc])]
    rw [sumN_sub, sumN_mul]
    exact Int.dvd_sub h1 (Int.dvd_mul_of_dvd_right h2)
/-- The kernel of the powers 0..n-1 of n different numbers. -/
theorem van {n : Nat} {c x : Nat → Int} (h : ∀ k, k < n → P ∣ sumN n (fun l => c l ^ k * x l)) (hd : ∀ i j, i < n → j < n → i ≠ j → ¬ P ∣ c i - c j) : ∀ j, j < n → P ∣ x j := by
  intro j hj
  have hl : ((List.range n).filter (· ≠ j)).length + 0 < n := by
    have h1 : ((List.range n).filter (· ≠ j)).length < (List.range n).length := by
      refine List.length_filter_lt_length_iff_exists.2 ⟨j, List.mem_range.2 hj, by simp⟩
    simpa using h1
  have h1 := van_prod h _ 0 hl
  rw [sumN_one hj (fun i hi hn => by
    rw [prodR_zero (by simp [hi, hn]), Int.zero_mul])] at h1
  rcases prime_dvd h1 with h2 | h2
  · exfalso
    refine prodR_not ?_ h2
    intro r hr
    have := List.mem_filter.1 hr
    simp at this
    exact hd j r hj this.1 (fun e => this.2 e.symm)
  · simpa using h2
end Go.Proofs.YthebegfceaehfaaDoor.Van

/- SolL: The reduction of rows (SolveSystem), plain: matrices as functions; a trivial kernel brings a pivot in every column. -/
namespace Go.Proofs.YthebegfceaehfaaDoor.Sol
open M Van

/-- The three steps on rows, as the program takes them. -/
def swp (m : Nat → Nat → Int) (i r : Nat) : Nat → Nat → Int := fun a => if a = r then m i else if a = i then m r else m a
def scl (m : Nat → Nat → Int) (r : Nat) (x : Int) : Nat → Nat → Int := fun a => if a = r then fun j => times (m r j) x else m a
def elm (m : Nat → Nat → Int) (r k : Nat) : Nat → Nat → Int := fun a => if a = r then m r else fun j => minus (m a j) (times (m a k) (m r j))
/-- The first row from i on whose column k is not 0; n where there is none. -/
def seek (m : Nat → Nat → Int) (k : Nat) : Nat → Nat → Nat
  | i, 0 => i
  | i, fuel + 1 => if m i k = 0 then seek m k (i + 1) fuel else i
theorem seek_ge (m : Nat → Nat → Int) (k : Nat) : ∀ fuel i, i ≤ seek m k i fuel ∧ seek m k i fuel ≤ i + fuel
  | 0, i => ⟨Nat.le_refl _, Nat.le_refl _⟩
  | fuel + 1, i => by
    rw [seek]
    split
    · have := seek_ge m k fuel (i + 1)
      omega
    · omega
theorem seek_found (m : Nat → Nat → Int) (k : Nat) : ∀ fuel i, seek m k i fuel < i + fuel → m (seek m k i fuel) k ≠ 0
  | 0, i, h => by rw [seek] at h; omega
  | fuel + 1, i, h => by
    rw [seek] at h ⊢
    split
    · rename_i h0
      rw [if_pos h0] at h
      exact seek_found m k fuel (i + 1) (by omega)
    · assumption
theorem seek_none (m : Nat → Nat → Int) (k : Nat) : ∀ fuel i, seek m k i fuel = i + fuel → ∀ a, i ≤ a → a < i + fuel → m a k = 0
  | 0, i, _, a, h1, h2 => by omega
  | fuel + 1, i, h, a, h1, h2 => by
    rw [seek] at h
    split at h
    · rename_i h0
      by_cases e : a = i
      · exact e ▸ h0
      · exact seek_none m k fuel (i + 1) (by omega) a (by omega) (by omega)
    · omega
/-- One column: the rows and the pivots behind it. -/
def col (n : Nat) (s : (Nat → Nat → Int) × List Nat) (k : Nat) : (Nat → Nat → Int) × List Nat :=
  if seek s.1 k s.2.length (n - s.2.length) < n then
    (elm (scl (swp s.1 (seek s.1 k s.2.length (n - s.2.length)) s.2.length) s.2.length (inv (s.1 (seek s.1 k s.2.length (n - s.2.length)) k))) s.2.length k, s.2 ++ [k])
  else s
def red (n c : Nat) (m : Nat → Nat → Int) : (Nat → Nat → Int) × List Nat := (List.range c).foldl (col n) (m, [])
def Ker (m : Nat → Nat → Int) (n w : Nat) (x : Nat → Int) : Prop := ∀ i, i < n → P ∣ sumN w (fun j => m i j * x j)

theorem dvd_cong {a b : Int} (h : P ∣ a - b) : P ∣ a ↔ P ∣ b := by
  constructor
  · intro h1
    have := Int.dvd_sub h1 h
    rwa [show a - (a - b) = b by omega] at this
  · intro h1
    have := Int.dvd_add h h1
    rwa [show a - b + b = a by omega] at this
theorem sum_cong {w : Nat} {f g : Nat → Int} (h : ∀ j, j < w → P ∣ f j - g j) : P ∣ sumN w f ↔ P ∣ sumN w g :=
  dvd_cong (by rw [← sumN_sub]; exact sumN_dvd h)
theorem emod_cong (a : Int) : P ∣ a % P - a := ⟨-(a / P), by have := Int.emod_add_mul_ediv a P; rw [Int.mul_neg]; omega⟩
theorem ker_scl {m : Nat → Nat → Int} {n w r : Nat} {x : Int} {v : Nat → Int} (hx : ¬ P ∣ x) (h : Ker (scl m r x) n w v) : Ker m n w v := by
  intro i hi
  have h1 := h i hi
  by_cases e : i = r
  · subst e
    simp only [scl, if_pos] at h1
    have h2 : P ∣ sumN w (fun j => x * (m i j * v j)) := (sum_cong (fun j _ => by
      have h3 := Int.dvd_mul_of_dvd_left (c := v j) (emod_cong (m i j * x))
      rw [Int.sub_mul] at h3
      rwa [show times (m i j) x * v j - x * (m i j * v j) = m i j * x % P * v j - m i j * x * v j by
        unfold times; rw [← Int.mul_assoc, Int.mul_comm x (m i j)]])).1 h1
    rw [sumN_mul] at h2
    exact (prime_dvd h2).resolve_left hx
  · simpa only [scl, if_neg e] using h1
theorem ker_elm {m : Nat → Nat → Int} {n w r k : Nat} {v : Nat → Int} (hr : r < n) (h : Ker (elm m r k) n w v) : Ker m n w v := by
  have hrr : P ∣ sumN w (fun j => m r j * v j) := by simpa only [elm, if_pos] using h r hr
  intro i hi
  have h1 := h i hi
  by_cases e : i = r
  · exact e ▸ hrr
  · simp only [elm, if_neg e] at h1
    have h2 : P ∣ sumN w (fun j => m i j * v j - m i k * (m r j * v j)) := (sum_cong (fun j _ => by
      have h3 : P ∣ (m i j - times (m i k) (m r j)) % P * v j - (m i j - times (m i k) (m r j)) * v j := by
        rw [← Int.sub_mul]; exact Int.dvd_mul_of_dvd_left (c := v j) (emod_cong (m i j - times (m i k) (m r j)))
      have h4 : P ∣ m i k * m r j % P * v j - m i k * m r j * v j := by
        rw [← Int.sub_mul]; exact Int.dvd_mul_of_dvd_left (c := v j) (emod_cong (m i k * m r j))
      have h5 := Int.dvd_sub h3 h4
      rw [show minus (m i j) (times (m i k) (m r j)) * v j - (m i j * v j - m i k * (m r j * v j)) = (m i j - times (m i k) (m r j)) % P * v j - (m i j - times (m i k) (m r j)) * v j - (m i k * m r j % P * v j - m i k * m r j * v j) by
        unfold minus times
        rw [Int.sub_mul (m i j), ← Int.mul_assoc (m i k)]
        omega]
      exact h5)).1 h1
    rw [sumN_sub, sumN_mul] at h2
    have h3 := Int.dvd_add h2 (Int.dvd_mul_of_dvd_right (b := m i k) hrr)
    rwa [Int.sub_add_cancel] at h3
theorem ker_swp {m : Nat → Nat → Int} {n w i r : Nat} {v : Nat → Int} (hi : i < n) (hr : r < n) (h : Ker (swp m i r) n w v) : Ker m n w v := by
  intro a ha
  by_cases e : a = i
  · subst e
    simpa only [swp, if_pos] using h r hr
  · by_cases e2 : a = r
    · subst e2
      have := h i hi
      simp only [swp] at this
      rw [if_neg (fun e' => e e'.symm)] at this
      simpa using this
    · have := h a ha
      simpa only [swp, if_neg e, if_neg e2] using this
/-- The invariant: the first k columns are unit columns, the kernel is no greater than it was, the entries are numbers. -/
structure Inv (n W : Nat) (m0 m : Nat → Nat → Int) (k : Nat) : Prop where
  unit : ∀ i j, i < n → j < k → m i j = if i = j then 1 else 0
  ker : ∀ w x, w ≤ W → Ker m n w x → Ker m0 n w x
  num : ∀ i j, i < n → j < W → num (m i j)
theorem not_mod {a : Int} (h : num a) (h0 : a ≠ 0) : a % P ≠ 0 := by rw [res_of_num h]; exact h0
theorem inv_not {a : Int} (h : a % P ≠ 0) : ¬ P ∣ inv a := by
  intro hd
  have h1 := mul_inv h
  have h2 : (a * inv a) % P = 0 := Int.emod_eq_zero_of_dvd (Int.dvd_mul_of_dvd_right hd)
  rw [h2] at h1
  cases h1
theorem times_zero_l (x : Int) : times 0 x = 0 := by unfold times; rw [Int.zero_mul]; rfl
theorem times_zero_r (x : Int) : times x 0 = 0 := by unfold times; rw [Int.mul_zero]; rfl
theorem minus_zero {x : Int} (h : num x) : minus x 0 = x := by unfold minus; rw [Int.sub_zero]; exact res_of_num h
theorem num_swp {m : Nat → Nat → Int} {n W i r : Nat} (h : ∀ i j, i < n → j < W → num (m i j)) (hi : i < n) (hr : r < n) : ∀ a j, a < n → j < W → num (swp m i r a j) := by
  intro a j ha hj
  unfold swp
  split
  · exact h i j hi hj
  · split
    · exact h r j hr hj
    · exact h a j ha hj
/-- One column more. -/
theorem Inv.step {n W k i : Nat} {m0 m : Nat → Nat → Int} (h : Inv n W m0 m k) (hk : k < n) (hnW : n ≤ W) (hi : k ≤ i) (hin : i < n) (h0 : m i k ≠ 0) :
    Inv n W m0 (elm (scl (swp m i k) k (inv (m i k))) k k) (k + 1) := by
  have hm := not_mod (h.num i k hin (by omega)) h0
  have hS : ∀ j, scl (swp m i k) k (inv (m i k)) k j = times (m i j) (inv (m i k)) := by
    intro j
    simp [scl, swp]
  have hA : ∀ a j, a ≠ k → scl (swp m i k) k (inv (m i k)) a j = swp m i k a j := by
    intro a j ha
    simp [scl, ha]
  have hN := num_swp h.num hin hk
  refine ⟨fun a j ha hj => ?_, fun w x hw hK => h.ker w x hw (ker_swp hin hk (ker_scl (inv_not hm) (ker_elm hk hK))), fun a j ha hj => ?_⟩
  · -- unit columns
    have hrow : ∀ j, j < k → scl (swp m i k) k (inv (m i k)) k j = 0 := by
      intro j hj
      rw [hS, h.unit i j hin hj, if_neg (by omega), times_zero_l]
    have hpiv : scl (swp m i k) k (inv (m i k)) k k = 1 := by rw [hS]; exact mul_inv hm
    by_cases e : a = k
    · subst e
      simp only [elm, if_pos]
      by_cases ej : j = a
      · subst ej; rw [hpiv, if_pos rfl]
      · rw [hrow j (by omega), if_neg (fun e => ej e.symm)]
    · simp only [elm, if_neg e]
      rw [hA a j e, hA a k e]
      by_cases ej : j = k
      · subst ej
        rw [hpiv, if_neg e]
        unfold minus times
        rw [Int.mul_one, sub_r, Int.sub_self]; rfl
      · rw [hrow j (by omega), times_zero_r, minus_zero (hN a j ha (by omega))]
        simp only [swp, if_neg e]
        by_cases ea : a = i
        · subst ea
          rw [if_pos rfl, h.unit k j hk (by omega), if_neg (by omega), if_neg (by omega)]
        · rw [if_neg ea, h.unit a j ha (by omega)]
  · by_cases e : a = k
    · subst e
      simp only [elm, if_pos]
      rw [hS]; exact num_times _ _
    · simp only [elm, if_neg e]; exact num_minus _ _
/-- Where a column has no pivot the kernel is not trivial. -/
theorem Inv.pivot {n W k : Nat} {m0 m : Nat → Nat → Int} (h : Inv n W m0 m k) (hk : k < n) (hnW : n ≤ W) (ht : ∀ x, Ker m0 n n x → ∀ j, j < n → P ∣ x j) : ∃ a, k ≤ a ∧ a < n ∧ m a k ≠ 0 := by
  refine Classical.byContradiction fun hno => ?_
  have hz : ∀ a, k ≤ a → a < n → m a k = 0 := fun a h1 h2 => Classical.byContradiction fun h3 => hno ⟨a, h1, h2, h3⟩
  have h1 := ht (fun j => if j = k then 1 else if j < k then -(m j k) else 0) (h.ker n _ hnW (fun i hi => by
    by_cases hik : i < k
    · rw [sumN_congr (g := fun j => (if j = k then m i k else 0) + (if j = i then -(m i k) else 0)) (fun j hj => by
        by_cases e : j = k
        · subst e; simp; omega
        · by_cases e2 : j < k
          · simp only [if_neg e, if_pos e2]
            rw [h.unit i j hi e2]
            by_cases e3 : i = j
            · subst e3; simp
            · simp [e3]; intro e4; exact absurd e4.symm e3
          · simp [e, e2]; omega)]
      rw [sumN_add, sumN_one hk (fun j _ hn => by simp [hn]), sumN_one hi (fun j _ hn => by simp [hn])]
      simp
      rw [Int.add_right_neg]; exact Int.dvd_zero _
    · rw [sumN_zero (fun j hj => by
        by_cases e : j = k
        · subst e; rw [hz i (by omega) hi, Int.zero_mul]
        · by_cases e2 : j < k
          · rw [h.unit i j hi e2, if_neg (by omega), Int.zero_mul]
          · simp [e, e2])]
      exact Int.dvd_zero _)) k hk
  simp at h1
  revert h1
  decide
theorem red_succ (n c : Nat) (m : Nat → Nat → Int) : red n (c + 1) m = col n (red n c m) c := by
  unfold red
  rw [List.range_succ, List.foldl_append]
  rfl
/-- A trivial kernel: every column has its pivot in its own row. -/
theorem red_full {n W : Nat} {m0 : Nat → Nat → Int} (hnW : n ≤ W) (hN : ∀ i j, i < n → j < W → num (m0 i j)) (ht : ∀ x, Ker m0 n n x → ∀ j, j < n → P ∣ x j) :
    ∀ k, k ≤ n → Inv n W m0 (red n k m0).1 k ∧ (red n k m0).2 = List.range k
  | 0, _ => ⟨⟨fun i j _ hj => absurd hj (Nat.not_lt_zero _), fun _ _ _ h => h, hN⟩, rfl⟩
  | k + 1, hk => by
    obtain ⟨hI, hP⟩ := red_full hnW hN ht k (by omega)
    have hl : (red n k m0).2.length = k := by rw [hP]; simp
    obtain ⟨a, a1, a2, a3⟩ := hI.pivot (by omega) hnW ht
    have hge := seek_ge (red n k m0).1 k (n - k) k
    have hlt : seek (red n k m0).1 k k (n - k) < n := by
      refine Classical.byContradiction fun hno => a3 (seek_none (red n k m0).1 k (n - k) k (by omega) a a1 (by omega))
    have hne := seek_found (red n k m0).1 k (n - k) k (by omega)
    rw [red_succ]
    unfold col
    rw [hl, if_pos hlt]
    exact ⟨hI.step (by omega) hnW hge.1 hlt hne, by rw [hP, List.range_succ]⟩
/-- The solution solves. -/
theorem red_solves {n : Nat} {m0 : Nat → Nat → Int} (hN : ∀ i j, i < n → j < n + 1 → num (m0 i j)) (ht : ∀ x, Ker m0 n n x → ∀ j, j < n → P ∣ x j) :
    ∀ i, i < n → P ∣ sumN n (fun j => m0 i j * (red n n m0).1 j n) - m0 i n := by
  obtain ⟨hI, _⟩ := red_full (Nat.le_succ n) hN ht n (Nat.le_refl _)
  intro i hi
  have h := hI.ker (n + 1) (fun j => if j < n then (red n n m0).1 j n else -1) (Nat.le_refl _) (fun a ha => by
    simp only [sumN]
    rw [sumN_congr (g := fun j => if j = a then (red n n m0).1 a n else 0) (fun j hj => by
      rw [hI.unit a j ha hj, if_pos hj]
      by_cases e : a = j
      · subst e; simp
      · rw [if_neg e, if_neg (fun e' => e e'.symm), Int.zero_mul])]
    rw [sumN_one ha (fun j _ hn => if_neg hn), if_pos rfl, if_neg (Nat.lt_irrefl n)]
    rw [show (red n n m0).1 a n + (red n n m0).1 a n * -1 = 0 by omega]
    exact Int.dvd_zero _) i hi
  simp only [sumN] at h
  rw [sumN_congr (g := fun j => m0 i j * (red n n m0).1 j n) (fun j hj => by rw [if_pos hj]), if_neg (Nat.lt_irrefl n)] at h
  rwa [show ∀ x y : Int, x + y * -1 = x - y from fun x y => by omega] at h
/-- The rows of powers. -/
def pws (c : Nat → Int) (n : Nat) (g : Nat → Int) : Nat → Nat → Int := fun i j => if j = n then g i else powr (c j) i
theorem pws_ker {c g : Nat → Int} {n : Nat} (hd : ∀ i j, i < n → j < n → i ≠ j → ¬ P ∣ c i - c j) : ∀ x, Ker (pws c n g) n n x → ∀ j, j < n → P ∣ x j := by
  intro x hK
  refine van (c := c) (fun k hk => ?_) hd
  refine (sum_cong (fun j hj => ?_)).1 (hK k hk)
  unfold pws
  rw [if_neg (by omega)]
  have h3 := Int.dvd_mul_of_dvd_left (c := x j) (emod_cong (c j ^ k))
  rw [Int.sub_mul] at h3
  rwa [show powr (c j) (k : Int) = c j ^ k % P by unfold powr; rw [if_neg (by omega), Int.toNat_natCast]]
theorem num_diff {a b : Int} (ha : num a) (hb : num b) (h : a ≠ b) : ¬ P ∣ a - b := by
  intro hd
  have h1 := Int.emod_emod_of_dvd a (Int.dvd_refl P)
  have := Int.emod_eq_emod_iff_emod_sub_eq_zero.2 (Int.emod_eq_zero_of_dvd hd)
  rw [res_of_num ha, res_of_num hb] at this
  exact h this
end Go.Proofs.YthebegfceaehfaaDoor.Sol
