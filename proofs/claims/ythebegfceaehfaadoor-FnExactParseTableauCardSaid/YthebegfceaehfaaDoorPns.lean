/- ParseNumbers: the walks. -/
import Derived.Test.YthebegfceaehfaaDoorPnS
import Derived.Test.YthebegfceaehfaaDoorAp
namespace Go.Proofs.YthebegfceaehfaaDoor
open Go.RowKit

/-- Words and their numbers. -/
def pnsB (l : List UInt8) : Bool := (sp1 32 l).all pnB
def pnsL (l : List UInt8) : List Int := if pnsB l then (sp1 32 l).map pnV else []
theorem splitK_one (c : UInt8) : ∀ (k : Nat) (l : List UInt8), Lib.count l [c] = k → Lib.splitK [c] 0 k l = sp1 c l
  | 0, l, h => by
    rw [Lib.count_one] at h
    rw [sp1_free c l (List.count_eq_zero.1 h)]
    rfl
  | k + 1, l, h => by
    rw [Lib.count_one] at h
    have hm : c ∈ l := List.count_pos_iff.1 (by omega)
    obtain ⟨x, r, rfl, hx⟩ := List.eq_append_cons_of_mem hm
    rw [Lib.splitK, index_one_cut c x r hx, if_neg (by simp only [beq_iff_eq]; omega)]
    have hd : (x ++ c :: r).drop (x.length + [c].length) = r := by
      rw [show x.length + [c].length = (x ++ [c]).length by simp, show x ++ c :: r = (x ++ [c]) ++ r by simp, List.drop_left]
    have hr : Lib.count r [c] = k := by
      rw [Lib.count_one]
      have hx0 := List.count_eq_zero.2 hx
      rw [List.count_append, List.count_cons_self, hx0] at h
      omega
    rw [sp1_cut c x r hx, Int.toNat_natCast, Nat.add_zero, List.take_left' rfl, hd, splitK_one c k r hr]
theorem split_one (s : ByteArray) (c : UInt8) : Lib.splitB ⟨#[c]⟩ 0 (Lib.countB s ⟨#[c]⟩) s = (sp1 c s.data.toList).map bs := by
  have h := Lib.splitB_data ⟨#[c]⟩ 0 (Lib.countB s ⟨#[c]⟩) s
  have h2 : Lib.splitK [c] 0 (Lib.countB s ⟨#[c]⟩) s.data.toList = sp1 c s.data.toList := splitK_one c _ _ rfl
  rw [show (⟨#[c]⟩ : ByteArray).data.toList = [c] from rfl, h2] at h
  rw [← h, List.map_map]
  conv => lhs; rw [← List.map_id (Lib.splitB _ _ _ _)]
  exact List.map_congr_left fun x _ => (bs_list x).symm
theorem Sw.grown {w w' : World} {base : Nat} {v : Value} {n : Nat} {xs : List (List UInt8)} (h : Sw w base v n xs) {r : Option Nat} (hg : w.grownBy w' r) (hne : v.ownBlock = none ∨ v.ownBlock ≠ r) : Sw w' base v n xs := World.ownsRow.kept h hg hne
/-- Texts in a block of their own. -/
theorem Sw.of_block {w : World} {b lo : Nat} {xs : List (List UInt8)} (h : w.heap[b]? = some (.cells ((xs.map bs).map Value.string).toArray 9 (0, 0))) (hb : lo ≤ b) (hn : xs.length ≤ 4194304) : Sw w lo (.slice (some ⟨b, 0, none⟩) xs.length xs.length) xs.length xs := by
  refine ⟨by simp, .inr ⟨b, xs.length, _, rfl, hb, h, Nat.le_refl _, by unfold maxLen; omega, by simp, ?_⟩⟩
  rw [List.take_of_length_le (by simp)]
  simp [txt]
/-- Words that are read, and the numbers so far. -/
structure Wd (w : World) (lo : Nat) (vo vw : Value) (k N : Nat) (xs : List Int) (ws : List (List UInt8)) : Prop where
  o : Ow w lo vo k xs
  s : Sw w lo vw N ws
  ne : vo.ownBlock ≠ vw.ownBlock
  so : vo.ownBlock ≠ none
section
variable {w w' : World} {lo k N : Nat} {vo vw : Value} {xs : List Int} {ws : List (List UInt8)}
theorem Wd.below (h : Wd w lo vo vw k N xs ws) (hB : Below w.heap.size w w') : Wd w' lo vo vw k N xs ws := ⟨h.o.below hB, h.s.below hB, h.ne, h.so⟩
theorem Wd.push (h : Wd w lo vo vw k N xs ws) {v' : Value} {y : Int} (hO : Ow w' lo v' (k + 1) (xs ++ [y])) (hg : w.grownBy w' vo.ownBlock) (hat : v'.ownBlock = vo.ownBlock ∨ v'.ownBlock = some w.heap.size) : Wd w' lo v' vw (k + 1) N (xs ++ [y]) ws := by
  refine ⟨hO, h.s.grown hg (.inr (Ne.symm h.ne)), ?_, ?_⟩
  · rcases hat with e | e
    · rw [e]; exact h.ne
    · rw [e]
      intro e1
      have := (h.s.lt _ e1.symm).2
      omega
  · rcases hat with e | e
    · rw [e]; exact h.so
    · rw [e]; simp
/-- A word, under a name of its own. -/
theorem Wd.at (h : Wd w lo vo vw k N xs ws) {j : Nat} (hj : j < N) : ∃ g c t, vw = .slice (some ⟨g, 0, none⟩) N c ∧ w.cell? ⟨g, j, none⟩ = some (.string (bs t)) ∧ ws[j]? = some t := by
  obtain ⟨g, c, h1⟩ := h.s.at
  have hl := h.s.len
  rcases h1 with ⟨_, h2⟩ | ⟨h2, _, _, h3⟩
  · omega
  · have hj' : j < ws.length := by omega
    refine ⟨g, c, ws[j], h2, ?_, List.getElem?_eq_getElem hj'⟩
    have := h3 j (bs ws[j]) (by rw [List.getElem?_map, List.getElem?_eq_getElem hj']; rfl)
    rwa [Nat.zero_add] at this
end
theorem words_step {ws : List (List UInt8)} {k : Nat} {t : List UInt8} (h : ws[k]? = some t) : ws.take (k + 1) = ws.take k ++ [t] := by
  have hk := (List.getElem?_eq_some_iff.1 h)
  obtain ⟨hk, e⟩ := hk
  rw [List.take_succ_eq_append_getElem hk, e]
theorem words_all {ws : List (List UInt8)} {k : Nat} {t : List UInt8} (h : ws[k]? = some t) (ha : (ws.take k).all pnB = true) (ht : pnB t = true) : (ws.take (k + 1)).all pnB = true := by
  rw [words_step h, List.all_append, ha]
  simp [ht]
theorem words_stop {ws : List (List UInt8)} {k : Nat} {t : List UInt8} (h : ws[k]? = some t) (ht : pnB t = false) : ws.all pnB = false := by
  rw [← Bool.not_eq_true]
  intro e
  have := List.all_eq_true.1 e t (List.mem_of_getElem? h)
  rw [ht] at this
  cases this
theorem ret_lb {a : Option Addr} {n c : Nat} {x y : Bool} (h : x = y) : Ending.returned (.tuple #[.slice a n c, .bool x]) = .returned (.tuple #[.slice a n c, .bool y]) := by rw [h]
theorem sp1_len_le (c : UInt8) : ∀ l : List UInt8, (sp1 c l).length ≤ l.length + 1
  | [] => by simp [sp1]
  | b :: l => by
    have ih := sp1_len_le c l
    rw [sp1]
    split
    · simp; omega
    · cases hs : sp1 c l with
      | nil => simp
      | cons x xs => rw [hs] at ih; simp at ih ⊢; omega
-- WALKS
theorem impl_ParseNumberT (T : ByteArray) (t : List UInt8) (w : World) (h : T.data.toList = t) (hs : T.size ≤ 1048576) (hm : Mx w) :
    Calls Tryd.prog 37 #[.string T] w fun e w' => e = .returned (.tuple #[.int .i64 (pnV t), .bool (pnB t)]) ∧ Below w.heap.size w w' := by
  subst h
  exact impl_ParseNumber T w hs hm
set_option maxRecDepth 20000 in
set_option maxHeartbeats 4000000 in
theorem impl_ParseNumbers (s : ByteArray) (w : World) (hs : s.size ≤ 1048576) (hm : Mx w) :
    Calls Tryd.prog 17 #[.string s] w fun e w' => ∃ ao n c, e = .returned (.tuple #[.slice ao n c, .bool (pnsB s.data.toList)]) ∧ NewInts w w' (pnsL s.data.toList) ao n c := by
  have HM := hid hm
  clear hm
  obtain ⟨N, hN⟩ : ∃ N, N = (sp1 32 s.data.toList).length := ⟨_, rfl⟩
  have hNs : N ≤ 1048577 := by
    have := sp1_len_le 32 s.data.toList
    rw [bytes_len] at this
    omega
  have CS : Hid (∀ w, Mx w → Calls Tryd.prog 16 #[.string s, .string ⟨#[32]⟩] w fun e w' => e = .returned (.slice (some ⟨w.heap.size, 0, none⟩) N N) ∧ w' = w.alloc (.cells (((sp1 32 s.data.toList).map bs).map Value.string).toArray 9)) := hid fun w hm => by
    obtain ⟨m, hm⟩ := hm
    have h := Tryd.strings_Split s ⟨#[32]⟩ m w (by omega) hm (by decide)
    have hl := Lib.splitB_all ⟨#[32]⟩ (by decide) 0 _ s rfl
    rw [split_one s 32, List.length_map, ← hN] at hl
    rw [split_one s 32, ← hl] at h
    exact h
  have HL := hid hN.symm
  clear hN
  go_enter Tryd.func17, Tryd.ntmps17
  go_wp2_with fail
  refine (CS.out _ (HM.out.below (below_box _ _))).mono ?_
  rintro e w1 ⟨rfl, hw1⟩
  have D0 : Hid (Wd w1 w.heap.size (.slice (some ⟨w.heap.size, 0, none⟩) 0 0) (.slice (some ⟨w.heap.size + 1, 0, none⟩) N N) 0 N [] (sp1 32 s.data.toList)) := hid ⟨by rw [hw1]; exact (Ow.empty w w.heap.size (Nat.le_refl _)).alloc _, by
    have h := Sw.of_block (w := w1) (b := w.heap.size + 1) (lo := w.heap.size) (xs := sp1 32 s.data.toList) (by rw [hw1]; exact heap_alloc_at _ _ _ _ (by simp)) (by omega) (by rw [HL.out]; omega)
    rw [HL.out] at h
    exact h, by simp [Value.ownBlock], by simp [Value.ownBlock]⟩
  have B0 := hid (show Below w.heap.size w w1 by rw [hw1]; exact l_alloc (below_box _ _) _)
  clear hw1 CS
  rw [World.size_alloc]
  go_wp2_with fail
  go_loopw [4, 6, 7, 8, 13] (fun v _ _ _ i wr => ∃ k : Nat, i = .int .i64 k ∧ k ≤ N ∧ Hid (Wd wr w.heap.size v (.slice (some ⟨w.heap.size + 1, 0, none⟩) N N) k N (((sp1 32 s.data.toList).take k).map pnV) (sp1 32 s.data.toList)) ∧ Hid (((sp1 32 s.data.toList).take k).all pnB = true) ∧ Hid (Below w.heap.size w wr)) (fun _ _ _ _ i _ => N - (intOf i).toNat)
  case atStart => exact ⟨0, rfl, Nat.zero_le _, hid (by simpa using D0.out), hid rfl, B0⟩
  case round =>
    clear D0 B0
    obtain ⟨k, rfl, hk, hD, hA, hB⟩ := hrel
    have sz := hB.out.size
    obtain ⟨vo, vc, rfl, _⟩ := hD.out.o.fr
    by_cases hlt : k < N
    · have hki : (k : Int) < (N : Int) := by omega
      obtain ⟨g, c, t, e1, u0, ht⟩ := hD.out.at hlt
      cases e1
      have HT := hid ht
      have hts : (bs t).size ≤ 1048576 := by
        rw [bs_size]
        have := sp1_le 32 s.data.toList t (List.mem_of_getElem? ht)
        rw [bytes_len] at this
        omega
      have CP := hid (fun w hm => impl_ParseNumberT (bs t) t w (bs_data t) hts hm)
      obtain ⟨T, hT⟩ : ∃ T, T = bs t := ⟨_, rfl⟩
      rw [← hT] at u0 CP
      clear ht hts hT
      cases hb : pnB t with
      | true =>
        rw [hb] at CP
        have HB1 := hid hb
        clear hb
        go_wp2_with fail
        refine (CP.out _ (HM.out.below hB.out)).mono ?_
        generalize hy : pnV t = y
        have HY := hid hy
        have HYI : Hid (I64 y) := hid (hy ▸ I64.num (pnV_num t))
        clear hy
        rintro e w1 ⟨rfl, hB1⟩
        have D1 := hid (hD.out.below hB1)
        have B1 := hid (l_below hB.out hB1)
        have z1 := B1.out.size
        clear hB1 u0
        go_wp2_with (at_builtin; (refine wpList_append_ints _ rfl _ _ rfl w.heap.size _ k _ rfl (D1.out.o.alloc _) _ 1 1 [y] rfl (rd_one _ y _ HYI.out) (by omega) (by simp; omega) ?_); intro ay cy w3 hO3 hG3 hW3)
        have D3 := hid ((D1.out.below (below_box _ _)).push hO3 hG3 hW3)
        have B3 := hid ((B1.out.alloc z1 _).grown hG3 (by simp; omega) (fun q hq => (D1.out.o.lt q hq).1))
        clear hO3 hG3 hW3
        go_wp2_with fail
        go_roundw
        case rel => exact ⟨k + 1, by go_num, by omega, hid (by rw [words_step HT.out, List.map_append, List.map_cons, List.map_nil, HY.out]; exact D3.out), hid (words_all HT.out hA.out HB1.out), B3⟩
        case measure => simp [intOf]; omega
      | false =>
        have HF := hid (show pnsB s.data.toList = false from words_stop HT.out hb)
        rw [hb] at CP
        clear hb
        go_wp2_with fail
        refine (CP.out _ (HM.out.below hB.out)).mono ?_
        generalize pnV t = y
        rintro e w1 ⟨rfl, hB1⟩
        have B1 := hid (l_below hB.out hB1)
        clear hB1 u0
        go_wp2_with fail
        go_ret2
        refine ⟨_, _, _, ret_lb HF.out.symm, ?_⟩
        unfold pnsL
        rw [HF.out]
        exact ⟨Fr.none _ _, B1.out⟩
    · obtain rfl : k = N := by omega
      have HA2 : Hid (pnsB s.data.toList = true) := hid (by
        have h := hA.out
        rw [← HL.out, List.take_length] at h
        exact h)
      have HX : Hid (((sp1 32 s.data.toList).take k).map pnV = pnsL s.data.toList) := hid (by
        unfold pnsL
        rw [HA2.out, ← HL.out, List.take_length]; rfl)
      go_wp2_with fail
      go_ret2
      obtain ⟨ao', c', e1, hF⟩ := hD.out.o.fr
      cases e1
      exact ⟨_, _, _, ret_lb HA2.out.symm, HX.out ▸ hF, hB.out⟩
theorem spec_ParseNumberT (T : ByteArray) (t : List UInt8) (w : World) (h : T.data.toList = t) (hs : T.size ≤ 1048576) (_hm : Mx w) :
    Calls Tryd.prog 32 #[.string T] w fun e w' => e = .returned (.tuple #[.int .i64 (pnV t), .bool (pnB t)]) ∧ Below w.heap.size w w' := by
  subst h
  exact spec_ParseNumber T w hs
set_option maxRecDepth 20000 in
set_option maxHeartbeats 4000000 in
theorem spec_ParseNumbers (s : ByteArray) (w : World) (hs : s.size ≤ 1048576) (hm : Mx w) :
    Calls Tryd.prog 13 #[.string s] w fun e w' => ∃ ao n c, e = .returned (.tuple #[.slice ao n c, .bool (pnsB s.data.toList)]) ∧ NewInts w w' (pnsL s.data.toList) ao n c := by
  have HM := hid hm
  clear hm
  have CS := hid (fun w => spec_l1Cut s 32 32 w hs rfl)
  go_enter Tryd.func13, Tryd.ntmps13
  go_wp2_with fail
  refine (CS.out _).mono ?_
  rintro e w1 ⟨vw, N, rfl, hNs, hS, hB⟩
  have hl := hS.len
  have HL := hid hl
  have y1 := hB.size
  simp only [World.size_alloc] at y1
  obtain ⟨gb, gc, hv⟩ := hS.at
  rcases hv with ⟨_, h0⟩ | ⟨rfl, hcap, _, _⟩
  · exact absurd (List.eq_nil_of_length_eq_zero (hl.trans h0)) (sp1_ne _ _)
  · have hlt := hS.lt gb rfl
    simp only [World.size_alloc] at hlt
    have hSm : Sw w1 w.heap.size (.slice (some ⟨gb, 0, none⟩) N gc) N (sp1 32 s.data.toList) := by
      refine ⟨hS.1, ?_⟩
      rcases hS.2 with h | ⟨g, cap, cur, e, hb, rest⟩
      · exact .inl h
      · exact .inr ⟨g, cap, cur, e, by simp at hb; omega, rest⟩
    have D0 : Hid (Wd w1 w.heap.size (.slice (some ⟨w.heap.size, 0, none⟩) 0 0) (.slice (some ⟨gb, 0, none⟩) N gc) 0 N [] (sp1 32 s.data.toList)) := hid ⟨(Ow.empty w w.heap.size (Nat.le_refl _)).below hB, hSm, by simp only [Value.ownBlock, ne_eq, Option.some.injEq]; omega, by simp [Value.ownBlock]⟩
    have B0 := hid (l_below (below_box w (.cells #[] 3)) hB)
    clear hS hB hSm hl CS
    go_wp2_with fail
    go_loopw [4, 6, 7, 8] (fun v i _ _ wr => ∃ k : Nat, i = .int .i64 k ∧ k ≤ N ∧ Hid (Wd wr w.heap.size v (.slice (some ⟨gb, 0, none⟩) N gc) k N (((sp1 32 s.data.toList).take k).map pnV) (sp1 32 s.data.toList)) ∧ Hid (((sp1 32 s.data.toList).take k).all pnB = true) ∧ Hid (Below w.heap.size w wr)) (fun _ i _ _ _ => N - (intOf i).toNat)
    case atStart => exact ⟨0, rfl, Nat.zero_le _, hid (by simpa using D0.out), hid rfl, B0⟩
    case round =>
      clear D0 B0
      obtain ⟨k, rfl, hk, hD, hA, hB⟩ := hrel
      have sz := hB.out.size
      obtain ⟨vo, vc, rfl, _⟩ := hD.out.o.fr
      by_cases hlt : k < N
      · have hki : (k : Int) < (N : Int) := by omega
        obtain ⟨g, c, t, e1, u0, ht⟩ := hD.out.at hlt
        cases e1
        have HT := hid ht
        have hts : (bs t).size ≤ 1048576 := by
          rw [bs_size]
          have := sp1_le 32 s.data.toList t (List.mem_of_getElem? ht)
          rw [bytes_len] at this
          omega
        have CP := hid (fun w hm => spec_ParseNumberT (bs t) t w (bs_data t) hts hm)
        obtain ⟨T, hT⟩ : ∃ T, T = bs t := ⟨_, rfl⟩
        rw [← hT] at u0 CP
        clear ht hts hT
        cases hb : pnB t with
        | true =>
          rw [hb] at CP
          have HB1 := hid hb
          clear hb
          go_wp2_with fail
          refine (CP.out _ (HM.out.below hB.out)).mono ?_
          generalize hy : pnV t = y
          have HY := hid hy
          have HYI : Hid (I64 y) := hid (hy ▸ I64.num (pnV_num t))
          clear hy
          rintro e w1 ⟨rfl, hB1⟩
          have D1 := hid (hD.out.below hB1)
          have B1 := hid (l_below hB.out hB1)
          have z1 := B1.out.size
          clear hB1 u0
          go_wp2_with (at_builtin; (refine wpList_append_ints _ rfl _ _ rfl w.heap.size _ k _ rfl (D1.out.o.alloc _) _ 1 1 [y] rfl (rd_one _ y _ HYI.out) (by omega) (by simp; omega) ?_); intro ay cy w3 hO3 hG3 hW3)
          have D3 := hid ((D1.out.below (below_box _ _)).push hO3 hG3 hW3)
          have B3 := hid ((B1.out.alloc z1 _).grown hG3 (by simp; omega) (fun q hq => (D1.out.o.lt q hq).1))
          clear hO3 hG3 hW3
          go_wp2_with fail
          go_roundw
          case rel => exact ⟨k + 1, by go_num, by omega, hid (by rw [words_step HT.out, List.map_append, List.map_cons, List.map_nil, HY.out]; exact D3.out), hid (words_all HT.out hA.out HB1.out), B3⟩
          case measure => simp [intOf]; omega
        | false =>
          have HF := hid (show pnsB s.data.toList = false from words_stop HT.out hb)
          rw [hb] at CP
          clear hb
          go_wp2_with fail
          refine (CP.out _ (HM.out.below hB.out)).mono ?_
          generalize pnV t = y
          rintro e w1 ⟨rfl, hB1⟩
          have B1 := hid (l_below hB.out hB1)
          clear hB1 u0
          go_wp2_with fail
          go_ret2
          refine ⟨_, _, _, ret_lb HF.out.symm, ?_⟩
          unfold pnsL
          rw [HF.out]
          exact ⟨Fr.none _ _, B1.out⟩
      · obtain rfl : k = N := by omega
        have HA2 : Hid (pnsB s.data.toList = true) := hid (by
          have h := hA.out
          rw [← HL.out, List.take_length] at h
          exact h)
        have HX : Hid (((sp1 32 s.data.toList).take k).map pnV = pnsL s.data.toList) := hid (by
          unfold pnsL
          rw [HA2.out, ← HL.out, List.take_length]; rfl)
        go_wp2_with fail
        go_ret2
        obtain ⟨ao', c', e1, hF⟩ := hD.out.o.fr
        cases e1
        exact ⟨_, _, _, ret_lb HA2.out.symm, HX.out ▸ hF, hB.out⟩
end Go.Proofs.YthebegfceaehfaaDoor
