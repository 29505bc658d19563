/- ParseTableau: the specification's walk. -/
import Derived.Test.YthebegfceaehfaaDoorPtI
import Derived.Test.YthebegfceaehfaaDoorCut
namespace Go.Proofs.YthebegfceaehfaaDoor
open Go.RowKit

theorem Sw.mono {w : World} {b b' n : Nat} {v : Value} {xs : List (List UInt8)} (h : Sw w b v n xs) (hb : b' ≤ b) : Sw w b' v n xs := by
  obtain ⟨h1, h2⟩ := h
  exact ⟨h1, h2.imp id fun ⟨g, cap, cur, e, hb', r⟩ => ⟨g, cap, cur, e, Nat.le_trans hb hb', r⟩⟩
def szP (ws : List (List UInt8)) (k : Nat) : Nat := ((ws.take k).map fun t => t.length + 1).sum
theorem szP_step {ws : List (List UInt8)} {k : Nat} {t : List UInt8} (h : ws[k]? = some t) : szP ws (k + 1) = szP ws k + (t.length + 1) := by
  unfold szP
  rw [words_step h, List.map_append, List.sum_append]
  simp
theorem sp1_sum (c : UInt8) : ∀ l : List UInt8, ((sp1 c l).map fun t => t.length + 1).sum = l.length + 1
  | [] => rfl
  | b :: l => by
    have ih := sp1_sum c l
    rw [sp1]
    split
    · rw [List.map_cons, List.sum_cons, ih]; simp; omega
    · cases hs : sp1 c l with
      | nil => exact absurd hs (sp1_ne c l)
      | cons x xs =>
        rw [hs] at ih
        simp only [List.map_cons, List.sum_cons, List.length_cons] at ih ⊢
        omega
theorem szP_le (c : UInt8) (l : List UInt8) (k : Nat) : szP (sp1 c l) k ≤ l.length + 1 := by
  have h := sp1_sum c l
  rw [← List.take_append_drop k (sp1 c l), List.map_append, List.sum_append] at h
  unfold szP
  omega
theorem pnsL_len (p : List UInt8) : (pnsL p).length ≤ p.length + 1 := by
  unfold pnsL
  split
  · rw [List.length_map]; exact sp1_len_le 32 p
  · simp
theorem trim_len (N i : Nat) (p : List UInt8) : (ptTrim N i p).length ≤ p.length := by
  unfold ptTrim
  split <;> split <;> simp <;> omega
theorem spec_ParseNumbersT (T : ByteArray) (t : List UInt8) (w : World) (h : T.data.toList = t) (hs : t.length ≤ 1048576) (hm : Mx w) :
    Calls Tryd.prog 13 #[.string T] w fun e w' => ∃ ao n c, e = .returned (.tuple #[.slice ao n c, .bool (pnsB t)]) ∧ NewInts w w' (pnsL t) ao n c := by
  subst h
  exact spec_ParseNumbers T w (by rw [← bytes_len]; exact hs) hm
section
variable {T : ByteArray} {t : List UInt8} {N k : Nat}
theorem ex_data (h : T.data.toList = t) (a b : Nat) : (T.extract a b).data.toList = (t.take b).drop a := by rw [ext_bs, bs_data, h]
theorem tr_nil (h : T.data.toList = t) (hz : T.size = t.length) (h0 : T.size ≤ 0) : T.data.toList = ptTrim N k t := by
  obtain rfl : t = [] := List.eq_nil_of_length_eq_zero (by omega)
  rw [h]
  unfold ptTrim
  simp
theorem tr11 (h : T.data.toList = t) (hz : T.size = t.length) (hk0 : 0 < k) (hk1 : k + 1 < N) : ((T.extract 1 T.size).extract 0 (T.size - 1 - 1)).data.toList = ptTrim N k t := by
  rw [ex_data (ex_data h 1 T.size), hz, List.take_length, List.drop_zero]
  unfold ptTrim
  rw [if_pos hk1, if_pos hk0, List.dropLast_eq_take, List.length_drop]
theorem tr10 (h : T.data.toList = t) (hz : T.size = t.length) (hk0 : 0 < k) (hk1 : k + 1 < N) (h1 : T.size ≤ 1) : (T.extract 1 T.size).data.toList = ptTrim N k t := by
  rw [ex_data h 1 T.size, hz, List.take_length]
  unfold ptTrim
  rw [if_pos hk1, if_pos hk0, List.drop_eq_nil_of_le (by omega)]
  rfl
theorem tr01 (h : T.data.toList = t) (hz : T.size = t.length) (hk0 : ¬ 0 < k) (hk1 : k + 1 < N) : (T.extract 0 (T.size - 1)).data.toList = ptTrim N k t := by
  rw [ex_data h 0 (T.size - 1), hz, List.drop_zero]
  unfold ptTrim
  rw [if_pos hk1, if_neg hk0, List.dropLast_eq_take]
theorem tr20 (h : T.data.toList = t) (hz : T.size = t.length) (hk0 : 0 < k) (hk1 : ¬ k + 1 < N) : (T.extract 1 T.size).data.toList = ptTrim N k t := by
  rw [ex_data h 1 T.size, hz, List.take_length]
  unfold ptTrim
  rw [if_neg hk1, if_pos hk0]
theorem tr00 (h : T.data.toList = t) (hk0 : ¬ 0 < k) (hk1 : ¬ k + 1 < N) : T.data.toList = ptTrim N k t := by
  rw [h]
  unfold ptTrim
  rw [if_neg hk1, if_neg hk0]
end
set_option maxRecDepth 20000 in
set_option maxHeartbeats 4000000 in
theorem spec_ParseTableau_none (s : ByteArray) (w : World) (hs : s.size ≤ 1048576) (hn : s.data.toList = noneT) :
    Calls Tryd.prog 5 #[.string s] w fun e w' => ∃ p n c q m d, e = .returned (.tuple #[.agg #[.int .i64 0, .slice p n c, .slice q m d], .bool true]) ∧ NewT w w' [] [] p n c q m d := by
  have HNN := hid hn
  have hq : (s.toList == [110, 111, 110, 101]) = true := by rw [str_none, decide_eq_true hn]
  have he : (s.toList == []) = false := by
    rw [Lib.toList_data, hn]
    rfl
  have RS0 := hid (bk_new w #[.int .i64 0, .slice none 0 0, .slice none 0 0] 24)
  clear hn
  go_enter Tryd.func5, Tryd.ntmps5
  go_wp2_with fail
  refine (spec_l1Cut s 124 124 _ hs rfl).mono ?_
  rintro e w1 ⟨v, N, rfl, hNs, hS, hB⟩
  have y1 := hB.size
  simp only [World.size_alloc] at y1
  rw [World.size_alloc, World.size_alloc] at hS
  have hN1 : 1 ≤ N := by
    have := hS.len
    have := List.length_pos_iff.2 (sp1_ne 124 s.data.toList)
    omega
  have HL := hid hS.len
  obtain ⟨g, c, _, rfl, _, _⟩ := hS.word (j := 0) (by omega)
  have hg := (hS.lt g rfl).1
  have P0 : Hid (Pu w w1 (w.heap.size + 1) (.int .i64 0) (.slice none 0 0) 0 [] none 0 0 [] (.slice (some ⟨g, 0, none⟩) N c) N (sp1 124 s.data.toList)) :=
    hid ⟨l_below (l_alloc (below_box _ _) _) hB, bk_below (bk_alloc RS0.out _) hB, bk_below (heap_alloc_at _ _ _ _ (by simp)) hB, Ow.nil _ _, Fr.none _ _, fun h => absurd h (by omega), hS.mono (by omega), ⟨by simp [Value.ownBlock], by simp [Value.ownBlock], by simp [Value.ownBlock]; omega⟩, by omega⟩
  have P1 : Hid (Pu w (w1.setCell ⟨w.heap.size + 1, 0, none⟩ (.int .i64 ((N : Int) - 1))) (w.heap.size + 1) (.int .i64 ((N : Int) - 1)) (.slice none 0 0) 0 [] none 0 0 [] (.slice (some ⟨g, 0, none⟩) N c) N (sp1 124 s.data.toList)) :=
    hid ⟨P0.out.l.setCell (Nat.le_succ _) _, (heap_setCell_other _ _ _ _ (Nat.ne_of_lt (Nat.lt_succ_self _))).trans P0.out.res, heap_setCell_same _ _ _ _ _ _ P0.out.out, Ow.nil _ _, Fr.none _ _, fun h => absurd h (by omega), P0.out.s.grown (grown_setCell _ _ _ _) (.inr P0.out.ne.2.2), P0.out.ne, P0.out.lt⟩
  obtain ⟨⟨t0, t1, t2⟩, g0, g1, g2⟩ := blk3 P0.out.out
  have hin : (N : Int) - 1 ≤ 9223372036854775807 := by omega
  clear hS hB RS0
  go_wp2_with fail
  clear t0 t1 t2 g0 g1 g2 P0
  have HN1 : Hid ((N : Int) - 1 = 0) := hid (by
    have h := HL.out
    rw [HNN.out, sp1_free 124 noneT (by decide), List.length_singleton] at h
    omega)
  have HF : Hid (fmtTab ((N : Int) - 1) [] [] = s) := hid (by
    rw [HN1.out]
    show fmtTab ((0 : Nat) : Int) [] [] = s
    rw [fmtTab_zero rfl, ← bs_list s, HNN.out])
  go_loopw [6, 7, 8, 9] (fun i _ _ _ wr => i = .int .i64 0 ∧ Hid (Pu w wr (w.heap.size + 1) (.int .i64 ((N : Int) - 1)) (.slice none 0 0) 0 [] none 0 0 [] (.slice (some ⟨g, 0, none⟩) N c) N (sp1 124 s.data.toList))) (fun i _ _ _ _ => 0)
  case atStart => exact ⟨rfl, P1⟩
  case round =>
    clear P1
    obtain ⟨rfl, hP⟩ := hrel
    obtain ⟨wo, rfl⟩ : ∃ wo : World, wo = wr := ⟨_, rfl⟩
    obtain ⟨⟨t0, t1, t2⟩, g0, g1, g2⟩ := blk3 hP.out.out
    have hN0 : (0 : Int) < (N : Int) := by omega
    go_wp2_with fail
    refine (spec_FormatTableau _ _ _ _ [] _ _ _ [] _ (Fr.none wo 0).rd (Fr.none wo 0).rd).mono ?_
    rw [HF.out]
    rintro e w2 ⟨rfl, hB2⟩
    have P2 := hid (hP.out.below hB2)
    clear t0 t1 t2 g0 g1 g2 hB2
    obtain ⟨⟨t0, t1, t2⟩, g0, g1, g2⟩ := blk3 P2.out.out
    obtain ⟨⟨r0, r1, r2⟩, f0, f1, f2⟩ := blk3 P2.out.res
    go_wp2_with fail
    obtain ⟨a1, c1, ev, e1, e2⟩ := P2.out.finish (.int .i64 ((N : Int) - 1)) (.slice none 0 0) (.slice none 0 0)
    cases ev
    exact ret_tabb rfl rfl rfl e1 rfl ⟨_, _, _, _, _, _, by rw [HN1.out], e2⟩
set_option maxRecDepth 20000 in
set_option maxHeartbeats 40000000 in
theorem spec_ParseTableau_cut (s : ByteArray) (w : World) (hs : s.size ≤ 1048576) (hm : Mx w) (hn : s.data.toList ≠ noneT) {rs : Int} {rA rB : List Int} {rb : Bool} (hr : ptS s.data.toList = ⟨rs, rA, rB, rb⟩) :
    Calls Tryd.prog 5 #[.string s] w fun e w' => ∃ p n c q m d, e = .returned (.tuple #[.agg #[.int .i64 rs, .slice p n c, .slice q m d], .bool rb]) ∧ NewT w w' rA rB p n c q m d := by
  have HRV := hid hr
  have HM := hid hm
  have HNN := hid hn
  have hq : (s.toList == [110, 111, 110, 101]) = false := by rw [str_none, decide_eq_false hn]
  have RS0 := hid (bk_new w #[.int .i64 0, .slice none 0 0, .slice none 0 0] 24)
  clear hr hm hn
  go_enter Tryd.func5, Tryd.ntmps5
  go_wp2_with fail
  refine (spec_l1Cut s 124 124 _ hs rfl).mono ?_
  rintro e w1 ⟨v, N, rfl, hNs, hS, hB⟩
  have y1 := hB.size
  simp only [World.size_alloc] at y1
  rw [World.size_alloc, World.size_alloc] at hS
  have hN1 : 1 ≤ N := by
    have := hS.len
    have := List.length_pos_iff.2 (sp1_ne 124 s.data.toList)
    omega
  have HL := hid hS.len
  obtain ⟨g, c, _, rfl, _, _⟩ := hS.word (j := 0) (by omega)
  have hg := (hS.lt g rfl).1
  have P0 : Hid (Pu w w1 (w.heap.size + 1) (.int .i64 0) (.slice none 0 0) 0 [] none 0 0 [] (.slice (some ⟨g, 0, none⟩) N c) N (sp1 124 s.data.toList)) :=
    hid ⟨l_below (l_alloc (below_box _ _) _) hB, bk_below (bk_alloc RS0.out _) hB, bk_below (heap_alloc_at _ _ _ _ (by simp)) hB, Ow.nil _ _, Fr.none _ _, fun h => absurd h (by omega), hS.mono (by omega), ⟨by simp [Value.ownBlock], by simp [Value.ownBlock], by simp [Value.ownBlock]; omega⟩, by omega⟩
  have P1 : Hid (Pu w (w1.setCell ⟨w.heap.size + 1, 0, none⟩ (.int .i64 ((N : Int) - 1))) (w.heap.size + 1) (.int .i64 ((N : Int) - 1)) (.slice none 0 0) 0 [] none 0 0 [] (.slice (some ⟨g, 0, none⟩) N c) N (sp1 124 s.data.toList)) :=
    hid ⟨P0.out.l.setCell (Nat.le_succ _) _, (heap_setCell_other _ _ _ _ (Nat.ne_of_lt (Nat.lt_succ_self _))).trans P0.out.res, heap_setCell_same _ _ _ _ _ _ P0.out.out, Ow.nil _ _, Fr.none _ _, fun h => absurd h (by omega), P0.out.s.grown (grown_setCell _ _ _ _) (.inr P0.out.ne.2.2), P0.out.ne, P0.out.lt⟩
  obtain ⟨⟨t0, t1, t2⟩, g0, g1, g2⟩ := blk3 P0.out.out
  have hin : (N : Int) - 1 ≤ 9223372036854775807 := by omega
  clear hS hB RS0
  go_wp2_with fail
  clear t0 t1 t2 g0 g1 g2 P0
  go_loopw [6, 7, 8, 9] (fun i _ _ _ wr => ∃ (k nA : Nat) (vA : Value) (XA : List Int) (b2 : Option Addr) (nB cB : Nat) (XB : List Int), i = .int .i64 k ∧ k ≤ N ∧ Hid (nA ≤ szP (sp1 124 s.data.toList) k) ∧ Hid (Pu w wr (w.heap.size + 1) (.int .i64 ((N : Int) - 1)) vA nA XA b2 nB cB XB (.slice (some ⟨g, 0, none⟩) N c) N (sp1 124 s.data.toList)) ∧ Hid (XA = ptA s.data.toList (min k (N - 1))) ∧ Hid (if k = N then XB = ptN s.data.toList (N - 1) else b2 = none ∧ nB = 0 ∧ cB = 0 ∧ XB = [])) (fun i _ _ _ _ => N - (intOf i).toNat)
  case atStart => exact ⟨0, 0, _, [], none, 0, 0, [], rfl, Nat.zero_le _, hid (Nat.zero_le _), P1, hid (by simp [ptA]), hid (by rw [if_neg (by omega)]; exact ⟨rfl, rfl, rfl, rfl⟩)⟩
  case round =>
    clear P1
    obtain ⟨k, nA, vA, XA, b2, nB, cB, XB, rfl, hk, hnA, hP, hXA, hXB⟩ := hrel
    obtain ⟨wo, rfl⟩ : ∃ wo : World, wo = wr := ⟨_, rfl⟩
    obtain ⟨va, ca, rfl, hFA⟩ := hP.out.a.fr
    have HFA := hid hFA
    clear hFA
    obtain ⟨⟨t0, t1, t2⟩, g0, g1, g2⟩ := blk3 hP.out.out
    have sz := bk_lt hP.out.out
    by_cases hlt : k < N
    · have hki : (k : Int) < (N : Int) := by omega
      have hx := hXB.out
      rw [if_neg (by omega)] at hx
      obtain ⟨rfl, rfl, rfl, rfl⟩ := hx
      clear hXB
      obtain ⟨g', c', t, e1, u0, ht⟩ := hP.out.s.word hlt
      cases e1
      have HT := hid ht
      have hzs := szP_le 124 s.data.toList (k + 1)
      rw [szP_step ht, bytes_len] at hzs
      have HNA := hid (Nat.add_le_add_right hnA.out (t.length + 1))
      have HTN := hid (show ptN s.data.toList k = pnsL (ptTrim N k t) by unfold ptN; rw [HL.out, List.getD_eq_getElem?_getD, ht]; rfl)
      have hzn : nA + (t.length + 1) ≤ s.size + 1 := by have := HNA.out; omega
      obtain ⟨T, hT⟩ : ∃ T, T = bs t := ⟨_, rfl⟩
      have HTD := hid (show T.data.toList = t by rw [hT, bs_data])
      have hTs : T.size ≤ 1048576 := by rw [hT, bs_size]; omega
      rw [← hT] at u0
      have HZ := hid (show T.size = t.length by rw [hT, bs_size])
      clear ht hT hzs
      by_cases hk1 : k + 1 < N
      · have hk1' : (k : Int) + 1 < (N : Int) := by omega
        by_cases hk0 : 0 < k
        · have hk0' : (0 : Int) < (k : Int) := by omega
          go_wp2_with fail
          all_goals
            refine (spec_ParseNumbersT _ (ptTrim N k t) _ (by first | with_reducible exact tr11 HTD.out HZ.out hk0 hk1 | with_reducible exact tr10 HTD.out HZ.out hk0 hk1 (by omega) | with_reducible exact tr01 HTD.out HZ.out hk0 hk1 | with_reducible exact tr20 HTD.out HZ.out hk0 hk1 | with_reducible exact tr00 HTD.out hk0 hk1 | with_reducible exact tr_nil HTD.out HZ.out (by omega)) (by have := trim_len N k t; have := HZ.out; omega) (HM.out.below hP.out.l)).mono ?_
            rintro e w2 ⟨ao, n, c2, rfl, hN⟩
            have HN := hid hN
            have hnl : n ≤ t.length + 1 := by
              have h1 := hN.1.rd.len
              have h2 := pnsL_len (ptTrim N k t)
              have h3 := trim_len N k t
              omega
            have P1 := hid (hP.out.below hN.2)
            have y2 := hN.2.size
            clear t0 t1 t2 g0 g1 g2 u0 hN
            obtain ⟨⟨t0, t1, t2⟩, g0, g1, g2⟩ := blk3 P1.out.out
            generalize pnsB (ptTrim N k t) = pb
            go_wp2_with (at_builtin; (refine wpList_append_ints _ rfl _ _ rfl (w.heap.size + 1 + 1) _ nA _ rfl P1.out.a _ n c2 (pnsL (ptTrim N k t)) rfl HN.out.1.rd (by omega) (by omega) ?_); intro ay cy w3 hO3 hG3 hW3; have P3 := hid (P1.out.push hO3 hG3 hW3); obtain ⟨⟨v0, v1, v2⟩, k0, k1, k2⟩ := blk3 (P1.out.outG hG3); clear hO3 hG3 hW3)
            go_roundw
            case rel => exact ⟨k + 1, nA + n, _, _, none, 0, 0, [], by go_num, by omega, hid (by rw [szP_step HT.out]; have := hnA.out; omega), P3, hid (by rw [hXA.out, Nat.min_eq_left (by omega), Nat.min_eq_left (by omega)]; unfold ptA; rw [List.range_succ, List.flatMap_append, List.flatMap_cons, List.flatMap_nil, List.append_nil, HTN.out]), hid (by rw [if_neg (by omega)]; exact ⟨rfl, rfl, rfl, rfl⟩)⟩
            case measure => simp [intOf]; omega
        · have hk0' : ¬ (0 : Int) < (k : Int) := by omega
          go_wp2_with fail
          all_goals
            refine (spec_ParseNumbersT _ (ptTrim N k t) _ (by first | with_reducible exact tr11 HTD.out HZ.out hk0 hk1 | with_reducible exact tr10 HTD.out HZ.out hk0 hk1 (by omega) | with_reducible exact tr01 HTD.out HZ.out hk0 hk1 | with_reducible exact tr20 HTD.out HZ.out hk0 hk1 | with_reducible exact tr00 HTD.out hk0 hk1 | with_reducible exact tr_nil HTD.out HZ.out (by omega)) (by have := trim_len N k t; have := HZ.out; omega) (HM.out.below hP.out.l)).mono ?_
            rintro e w2 ⟨ao, n, c2, rfl, hN⟩
            have HN := hid hN
            have hnl : n ≤ t.length + 1 := by
              have h1 := hN.1.rd.len
              have h2 := pnsL_len (ptTrim N k t)
              have h3 := trim_len N k t
              omega
            have P1 := hid (hP.out.below hN.2)
            have y2 := hN.2.size
            clear t0 t1 t2 g0 g1 g2 u0 hN
            obtain ⟨⟨t0, t1, t2⟩, g0, g1, g2⟩ := blk3 P1.out.out
            generalize pnsB (ptTrim N k t) = pb
            go_wp2_with (at_builtin; (refine wpList_append_ints _ rfl _ _ rfl (w.heap.size + 1 + 1) _ nA _ rfl P1.out.a _ n c2 (pnsL (ptTrim N k t)) rfl HN.out.1.rd (by omega) (by omega) ?_); intro ay cy w3 hO3 hG3 hW3; have P3 := hid (P1.out.push hO3 hG3 hW3); obtain ⟨⟨v0, v1, v2⟩, k0, k1, k2⟩ := blk3 (P1.out.outG hG3); clear hO3 hG3 hW3)
            go_roundw
            case rel => exact ⟨k + 1, nA + n, _, _, none, 0, 0, [], by go_num, by omega, hid (by rw [szP_step HT.out]; have := hnA.out; omega), P3, hid (by rw [hXA.out, Nat.min_eq_left (by omega), Nat.min_eq_left (by omega)]; unfold ptA; rw [List.range_succ, List.flatMap_append, List.flatMap_cons, List.flatMap_nil, List.append_nil, HTN.out]), hid (by rw [if_neg (by omega)]; exact ⟨rfl, rfl, rfl, rfl⟩)⟩
            case measure => simp [intOf]; omega
      · have hk1' : ¬ (k : Int) + 1 < (N : Int) := by omega
        by_cases hk0 : 0 < k
        · have hk0' : (0 : Int) < (k : Int) := by omega
          go_wp2_with fail
          all_goals
            refine (spec_ParseNumbersT _ (ptTrim N k t) _ (by first | with_reducible exact tr11 HTD.out HZ.out hk0 hk1 | with_reducible exact tr10 HTD.out HZ.out hk0 hk1 (by omega) | with_reducible exact tr01 HTD.out HZ.out hk0 hk1 | with_reducible exact tr20 HTD.out HZ.out hk0 hk1 | with_reducible exact tr00 HTD.out hk0 hk1 | with_reducible exact tr_nil HTD.out HZ.out (by omega)) (by have := trim_len N k t; have := HZ.out; omega) (HM.out.below hP.out.l)).mono ?_
            rintro e w2 ⟨ao, n, c2, rfl, hN⟩
            have HN := hid hN
            have hnl : n ≤ t.length + 1 := by
              have h1 := hN.1.rd.len
              have h2 := pnsL_len (ptTrim N k t)
              have h3 := trim_len N k t
              omega
            have P1 := hid (hP.out.below hN.2)
            have y2 := hN.2.size
            clear t0 t1 t2 g0 g1 g2 u0 hN
            obtain ⟨⟨t0, t1, t2⟩, g0, g1, g2⟩ := blk3 P1.out.out
            generalize pnsB (ptTrim N k t) = pb
            have P3 := hid (hP.out.setB HN.out)
            go_wp2_with fail
            go_roundw
            case rel => exact ⟨k + 1, nA, _, _, ao, n, c2, pnsL (ptTrim N k t), by go_num, by omega, hid (by rw [szP_step HT.out]; have := hnA.out; omega), P3, hid (by rw [hXA.out, Nat.min_eq_right (by omega), Nat.min_eq_right (by omega)]), hid (by rw [if_pos (by omega), show N - 1 = k by omega, HTN.out])⟩
            case measure => simp [intOf]; omega
        · have hk0' : ¬ (0 : Int) < (k : Int) := by omega
          go_wp2_with fail
          all_goals
            refine (spec_ParseNumbersT _ (ptTrim N k t) _ (by first | with_reducible exact tr11 HTD.out HZ.out hk0 hk1 | with_reducible exact tr10 HTD.out HZ.out hk0 hk1 (by omega) | with_reducible exact tr01 HTD.out HZ.out hk0 hk1 | with_reducible exact tr20 HTD.out HZ.out hk0 hk1 | with_reducible exact tr00 HTD.out hk0 hk1 | with_reducible exact tr_nil HTD.out HZ.out (by omega)) (by have := trim_len N k t; have := HZ.out; omega) (HM.out.below hP.out.l)).mono ?_
            rintro e w2 ⟨ao, n, c2, rfl, hN⟩
            have HN := hid hN
            have hnl : n ≤ t.length + 1 := by
              have h1 := hN.1.rd.len
              have h2 := pnsL_len (ptTrim N k t)
              have h3 := trim_len N k t
              omega
            have P1 := hid (hP.out.below hN.2)
            have y2 := hN.2.size
            clear t0 t1 t2 g0 g1 g2 u0 hN
            obtain ⟨⟨t0, t1, t2⟩, g0, g1, g2⟩ := blk3 P1.out.out
            generalize pnsB (ptTrim N k t) = pb
            have P3 := hid (hP.out.setB HN.out)
            go_wp2_with fail
            go_roundw
            case rel => exact ⟨k + 1, nA, _, _, ao, n, c2, pnsL (ptTrim N k t), by go_num, by omega, hid (by rw [szP_step HT.out]; have := hnA.out; omega), P3, hid (by rw [hXA.out, Nat.min_eq_right (by omega), Nat.min_eq_right (by omega)]), hid (by rw [if_pos (by omega), show N - 1 = k by omega, HTN.out])⟩
            case measure => simp [intOf]; omega
    · obtain rfl : k = N := by omega
      have hx := hXB.out
      rw [if_pos rfl] at hx
      have hXA2 : XA = ptA s.data.toList (k - 1) := by rw [hXA.out, Nat.min_eq_right (by omega)]
      have hSt : ptSt s.data.toList = k - 1 := by unfold ptSt; rw [HL.out]
      have HV : Hid (ptS s.data.toList = if s.data.toList = [] ∨ fmtTab ((k : Int) - 1) XA XB ≠ s then Tb.none else ⟨(k : Int) - 1, XA, XB, true⟩) := hid (by
        unfold ptS
        rw [if_neg HNN.out, hSt, ← hXA2, ← hx, bs_list, show ((k - 1 : Nat) : Int) = (k : Int) - 1 by omega])
      clear hx hXA2 hSt
      obtain ⟨⟨r0, r1, r2⟩, f0, f1, f2⟩ := blk3 hP.out.res
      have he : (s.toList == []) = decide (s.data.toList = []) := by
        rw [Lib.toList_data, Bool.eq_iff_iff]
        simp only [beq_iff_eq, decide_eq_true_eq]
      have HRA := hid hP.out.a
      by_cases hz : s.data.toList = []
      · rw [decide_eq_true hz] at he
        obtain ⟨rfl, rfl, rfl, rfl⟩ := tb_none (HRV.out.symm.trans (HV.out.trans (if_pos (.inl hz))))
        clear hz
        go_wp2_with fail
        obtain ⟨e1, e2⟩ := none_end hP.out.l (Nat.le_refl _) hP.out.res (.int .i64 0) (.slice none 0 0) (.slice none 0 0)
        exact ret_tabb rfl rfl rfl e1 rfl ⟨_, _, _, _, _, _, rfl, e2⟩
      · rw [decide_eq_false hz] at he
        have HZ := hid hz
        clear hz hXB
        obtain ⟨F, hF⟩ : ∃ F, F = fmtTab ((k : Int) - 1) XA XB := ⟨_, rfl⟩
        rw [← hF] at HV
        have HF := hid hF
        clear hF
        go_wp2_with fail
        refine (spec_FormatTableau _ _ _ _ XA _ _ _ XB _ HFA.out.rd hP.out.b.rd).mono ?_
        rw [← HF.out]
        rintro e w2 ⟨rfl, hB2⟩
        have P2 := hid (hP.out.below hB2)
        have y2 := hB2.size
        clear t0 t1 t2 g0 g1 g2 r0 r1 r2 f0 f1 f2 hB2
        obtain ⟨⟨t0, t1, t2⟩, g0, g1, g2⟩ := blk3 P2.out.out
        obtain ⟨⟨r0, r1, r2⟩, f0, f1, f2⟩ := blk3 P2.out.res
        by_cases hf : F = s
        · have q : (F.toList == s.toList) = true := by rw [hf]; simp
          obtain ⟨rfl, rfl, rfl, rfl⟩ := tb_eq (HRV.out.symm.trans (HV.out.trans (if_neg (fun e => e.elim HZ.out (fun e => e hf)))))
          clear hf
          go_wp2_with fail
          obtain ⟨a1, c1, ev, e1, e2⟩ := P2.out.finish (.int .i64 ((k : Int) - 1)) (.slice va nA ca) (.slice b2 nB cB)
          cases ev
          exact ret_tabb rfl rfl rfl e1 rfl ⟨_, _, _, _, _, _, rfl, e2⟩
        · have q : (F.toList == s.toList) = false := by
            rw [Lib.toList_data, Lib.toList_data, beq_eq_false_iff_ne]
            exact fun e => hf (by rw [← bs_list F, e, bs_list])
          obtain ⟨rfl, rfl, rfl, rfl⟩ := tb_none (HRV.out.symm.trans (HV.out.trans (if_pos (.inr hf))))
          clear hf
          go_wp2_with fail
          obtain ⟨e1, e2⟩ := none_end P2.out.l (Nat.le_refl _) P2.out.res (.int .i64 0) (.slice none 0 0) (.slice none 0 0)
          exact ret_tabb rfl rfl rfl e1 rfl ⟨_, _, _, _, _, _, rfl, e2⟩
theorem spec_ParseTableau (s : ByteArray) (w : World) (hs : s.size ≤ 1048576) (hm : Mx w) {rs : Int} {rA rB : List Int} {rb : Bool} (hr : ptI s.data.toList = ⟨rs, rA, rB, rb⟩) :
    Calls Tryd.prog 5 #[.string s] w fun e w' => ∃ p n c q m' d', e = .returned (.tuple #[.agg #[.int .i64 rs, .slice p n c, .slice q m' d'], .bool rb]) ∧ NewT w w' rA rB p n c q m' d' := by
  by_cases hn : s.data.toList = noneT
  · obtain ⟨rfl, rfl, rfl, rfl⟩ := tb_eq (hr.symm.trans (ptI_none hn))
    exact spec_ParseTableau_none s w hs hn
  · exact spec_ParseTableau_cut s w hs hm hn (by rw [pt_same]; exact hr)
theorem ptI_len (l : List UInt8) : (ptI l).A.length ≤ 1000 ∧ (ptI l).B.length ≤ 1000 := by
  unfold ptI
  split
  · exact ⟨Nat.zero_le _, Nat.zero_le _⟩
  · split
    · rename_i h
      obtain ⟨h1, h8, ha⟩ := h
      have hp : ∀ p ∈ splitP l, (pnsL p).length = (splitP l).length - 1 := fun p hp => by
        have := List.all_eq_true.1 ha p hp
        unfold ptRow at this
        simp only [Bool.and_eq_true, decide_eq_true_eq] at this
        exact this.2
      have hf := flat_len ((splitP l).take ((splitP l).length - 1)) (fun r hr => hp r (List.mem_of_mem_take hr))
      have h64 : (splitP l).length - 1 ≤ 8 := h8
      refine ⟨?_, ?_⟩
      · show (((splitP l).take ((splitP l).length - 1)).flatMap pnsL).length ≤ 1000
        rw [hf, List.length_take]
        exact Nat.le_trans (Nat.mul_le_mul (Nat.le_trans (Nat.min_le_left _ _) h8) h8) (by omega)
      · show (pnsL ((splitP l).getD ((splitP l).length - 1) [])).length ≤ 1000
        have hlt : (splitP l).length - 1 < (splitP l).length := by omega
        rw [List.getD_eq_getElem?_getD, List.getElem?_eq_getElem hlt]
        show (pnsL (splitP l)[(splitP l).length - 1]).length ≤ 1000
        rw [hp _ (List.getElem_mem hlt)]
        omega
    · exact ⟨Nat.zero_le _, Nat.zero_le _⟩
end Go.Proofs.YthebegfceaehfaaDoor
