/- Merged texts: PtI. -/
import Derived.Test.YthebegfceaehfaaDoorKt9
import Derived.Test.YthebegfceaehfaaDoorKt8
/- PtI: ParseTableau: the program's walk. -/
namespace Go.Proofs.YthebegfceaehfaaDoor
open Go.RowKit

/-- A tableau that is being read: the result's block, the texts, the box at ob: its A is appended to, its B is put there whole. -/
structure Pu (w wr : World) (ob : Nat) (S vA : Value) (nA : Nat) (XA : List Int) (b2 : Option Addr) (nB cB : Nat) (XB : List Int) (vw : Value) (N : Nat) (ws : List (List UInt8)) : Prop where
  l : Below w.heap.size w wr
  res : wr.heap[w.heap.size]? = some (.cells #[.int .i64 0, .slice none 0 0, .slice none 0 0] 24 (0, 0))
  out : wr.heap[ob]? = some (.cells #[S, vA, .slice b2 nB cB] 24 (0, 0))
  a : Ow wr (ob + 1) vA nA XA
  b : Fr wr (ob + 1) b2 nB cB XB
  sep : 0 < nB → blk b2 ≠ vA.ownBlock
  s : Sw wr (w.heap.size + 1) vw N ws
  ne : vw.ownBlock ≠ none ∧ vw.ownBlock ≠ vA.ownBlock ∧ vw.ownBlock ≠ some ob
  lt : w.heap.size < ob
section
variable {w wr w' : World} {ob nA nB cB N : Nat} {S vA vw : Value} {XA XB : List Int} {b2 : Option Addr} {ws : List (List UInt8)}
theorem Pu.below (h : Pu w wr ob S vA nA XA b2 nB cB XB vw N ws) (hB : Below wr.heap.size wr w') : Pu w w' ob S vA nA XA b2 nB cB XB vw N ws :=
  ⟨l_below h.l hB, bk_below h.res hB, bk_below h.out hB, h.a.below hB, h.b.below hB, h.sep, h.s.below hB, h.ne, h.lt⟩
theorem Pu.push (h : Pu w wr ob S vA nA XA Option.none 0 0 [] vw N ws) {v' : Value} {m : Nat} {ys : List Int} (hO : Ow w' (ob + 1) v' (nA + m) (XA ++ ys)) (hG : wr.grownBy w' vA.ownBlock) (hw : v'.ownBlock = vA.ownBlock ∨ v'.ownBlock = some wr.heap.size) :
    Pu w (w'.setCell ⟨ob, 1, Option.none⟩ v') ob S v' (nA + m) (XA ++ ys) Option.none 0 0 [] vw N ws := by
  have hs := bk_lt h.out
  have hlt := h.lt
  have hne : ∀ q, q ≤ ob → some q ≠ vA.ownBlock := fun q hq e => by have := (h.a.lt q e.symm).1; omega
  refine ⟨(h.l.grown hG (by omega) (fun k hk => by have := (h.a.lt k hk).1; omega)).setCell (Nat.le_of_lt hlt) _, (heap_setCell_other _ _ _ _ (Nat.ne_of_lt hlt)).trans ((hG.block _ (by omega) (hne _ (by omega))).trans h.res),
    heap_setCell_same _ _ _ _ _ _ ((hG.block ob hs (hne ob (Nat.le_refl _))).trans h.out), ow_setCell hO (Nat.lt_succ_self _) _, Fr.none _ _, fun h => absurd h (by omega),
    (h.s.grown hG (.inr h.ne.2.1)).grown (grown_setCell _ _ _ _) (.inr h.ne.2.2), ⟨h.ne.1, ?_, h.ne.2.2⟩, hlt⟩
  rcases hw with e | e
  · rw [e]; exact h.ne.2.1
  · rw [e]
    intro e1
    have := (h.s.lt _ e1).2
    omega
theorem Pu.outG (h : Pu w wr ob S vA nA XA b2 nB cB XB vw N ws) (hG : wr.grownBy w' vA.ownBlock) : w'.heap[ob]? = some (.cells #[S, vA, .slice b2 nB cB] 24 (0, 0)) :=
  (hG.block ob (bk_lt h.out) (fun e => by have := (h.a.lt ob e.symm).1; omega)).trans h.out
theorem Pu.setB (h : Pu w wr ob S vA nA XA b2 nB cB XB vw N ws) {a : Option Addr} {m c : Nat} {ys : List Int} (hN : NewInts wr w' ys a m c) :
    Pu w (w'.setCell ⟨ob, 2, Option.none⟩ (.slice a m c)) ob S vA nA XA a m c ys vw N ws := by
  have h1 := h.below hN.2
  have hs := bk_lt h.out
  have hlt := h.lt
  refine ⟨h1.l.setCell (Nat.le_of_lt hlt) _, (heap_setCell_other _ _ _ _ (Nat.ne_of_lt hlt)).trans h1.res, heap_setCell_same _ _ _ _ _ _ h1.out, ow_setCell h1.a (Nat.lt_succ_self _) _, (fr_set hN.1 _ hs).mono (by omega), fun hm e => ?_,
    h1.s.grown (grown_setCell _ _ _ _) (.inr h.ne.2.2), h.ne, hlt⟩
  obtain ⟨b, o, e1, _⟩ := hN.1.rd.cell 0 hm
  subst e1
  have h2 := (hN.1.blkN_bd b (by rw [blkN_pos hm]; rfl)).1
  have h3 := (h.a.lt b e.symm).2
  omega
theorem Pu.finish (h : Pu w wr ob S vA nA XA b2 nB cB XB vw N ws) (u v t : Value) : ∃ a1 c1, vA = .slice a1 nA c1 ∧
    (((wr.setCell ⟨w.heap.size, 0, Option.none⟩ u).setCell ⟨w.heap.size, 1, Option.none⟩ v).setCell ⟨w.heap.size, 2, Option.none⟩ t).heap[w.heap.size]? = some (.cells #[u, v, t] 24 (0, 0)) ∧
    NewT w (((wr.setCell ⟨w.heap.size, 0, Option.none⟩ u).setCell ⟨w.heap.size, 1, Option.none⟩ v).setCell ⟨w.heap.size, 2, Option.none⟩ t) XA XB a1 nA c1 b2 nB cB := by
  have hlt := h.lt
  obtain ⟨a1, c1, rfl, h1⟩ := h.a.fr
  refine ⟨a1, c1, rfl, heap_setCell_same _ _ _ _ _ _ (heap_setCell_same _ _ _ _ _ _ (heap_setCell_same _ _ _ _ _ _ h.res)), (fr_set (fr_set (fr_set h1 u (by omega)) v (by omega)) t (by omega)).mono (by omega),
    (fr_set (fr_set (fr_set h.b u (by omega)) v (by omega)) t (by omega)).mono (by omega), fun hp hq e => ?_, ((h.l.setCell (Nat.le_refl _) _).setCell (Nat.le_refl _) _).setCell (Nat.le_refl _) _⟩
  obtain ⟨b, o, e1, _⟩ := h1.rd.cell 0 hp
  subst e1
  exact h.sep hq (by rw [← e]; rfl)
end
theorem Sw.word {w : World} {lo N : Nat} {vw : Value} {ws : List (List UInt8)} (h : Sw w lo vw N ws) {j : Nat} (hj : j < N) : ∃ g c t, vw = .slice (some ⟨g, 0, none⟩) N c ∧ w.cell? ⟨g, j, none⟩ = some (.string (bs t)) ∧ ws[j]? = some t := by
  obtain ⟨g, c, h1⟩ := h.at
  have hl := h.len
  rcases h1 with ⟨_, h2⟩ | ⟨h2, _, _, h3⟩
  · omega
  · have hj' : j < ws.length := by omega
    refine ⟨g, c, ws[j], h2, ?_, List.getElem?_eq_getElem hj'⟩
    have := h3 j (bs ws[j]) (by rw [List.getElem?_map, List.getElem?_eq_getElem hj']; rfl)
    rwa [Nat.zero_add] at this
theorem split_p (s : ByteArray) : Lib.splitB ⟨#[32, 124, 32]⟩ 0 (Lib.countB s ⟨#[32, 124, 32]⟩) s = (splitP s.data.toList).map bs := by
  have h := Lib.splitB_data ⟨#[32, 124, 32]⟩ 0 (Lib.countB s ⟨#[32, 124, 32]⟩) s
  have h2 : Lib.splitK sepP 0 (Lib.countB s ⟨#[32, 124, 32]⟩) s.data.toList = splitP s.data.toList := rfl
  rw [show (⟨#[32, 124, 32]⟩ : ByteArray).data.toList = sepP from rfl, h2] at h
  rw [← h, List.map_map]
  conv => lhs; rw [← List.map_id (Lib.splitB _ _ _ _)]
  exact List.map_congr_left fun x _ => (bs_list x).symm
theorem catP_len : ∀ (rs : List (List UInt8)) (b : List UInt8), rs.length ≤ (catP rs b).length
  | [], _ => Nat.zero_le _
  | r :: rs, b => by
    have := catP_len rs b
    rw [catP_cons]
    simp only [List.length_append, List.length_cons]
    omega
theorem catP_mem : ∀ (rs : List (List UInt8)) (b : List UInt8), ∀ p ∈ rs ++ [b], p.length ≤ (catP rs b).length
  | [], b, p, h => by
    rw [catP_nil, show p = b by simpa using h]
    exact Nat.le_refl _
  | r :: rs, b, p, h => by
    rw [catP_cons]
    simp only [List.length_append, List.length_cons]
    rcases List.mem_cons.1 h with rfl | h
    · omega
    · have := catP_mem rs b p h
      omega
theorem splitP_bd (l : List UInt8) : 1 ≤ (splitP l).length ∧ (splitP l).length ≤ l.length + 1 ∧ ∀ p ∈ splitP l, p.length ≤ l.length := by
  obtain ⟨rs, b, e1, e2⟩ := splitK_cat (Lib.count l sepP) l
  have e1' : splitP l = rs ++ [b] := e1
  have h1 := catP_len rs b
  have h2 := catP_mem rs b
  rw [e2] at h1 h2
  rw [e1']
  refine ⟨by simp, ?_, h2⟩
  rw [List.length_append, List.length_singleton]
  omega
theorem impl_ParseNumbersT (T : ByteArray) (t : List UInt8) (w : World) (h : T.data.toList = t) (hs : T.size ≤ 1048576) (hm : Mx w) :
    Calls Tryd.prog 17 #[.string T] w fun e w' => ∃ ao n c, e = .returned (.tuple #[.slice ao n c, .bool (pnsB t)]) ∧ NewInts w w' (pnsL t) ao n c := by
  subst h
  exact impl_ParseNumbers T w hs hm
theorem str_none (s : ByteArray) : (s.toList == [110, 111, 110, 101]) = decide (s.data.toList = noneT) := by
  rw [Lib.toList_data, Bool.eq_iff_iff]
  simp only [beq_iff_eq, decide_eq_true_eq]
theorem rows_yes {ws : List (List UInt8)} {k m : Nat} {t : List UInt8} (h : ws[k]? = some t) (ha : (ws.take k).all (ptRow m) = true) (ht : ptRow m t = true) : (ws.take (k + 1)).all (ptRow m) = true := by
  rw [words_step h, List.all_append, ha]
  simp [ht]
theorem rows_stop {ws : List (List UInt8)} {k m : Nat} {t : List UInt8} (h : ws[k]? = some t) (ht : ptRow m t = false) : ws.all (ptRow m) = false := by
  rw [← Bool.not_eq_true]
  intro e
  have := List.all_eq_true.1 e t (List.mem_of_getElem? h)
  rw [ht] at this
  cases this
theorem tb_eq {s s' : Int} {A A' B B' : List Int} {b b' : Bool} (h : (⟨s, A, B, b⟩ : Tb) = ⟨s', A', B', b'⟩) : s = s' ∧ A = A' ∧ B = B' ∧ b = b' := by
  cases h
  exact ⟨rfl, rfl, rfl, rfl⟩
theorem tb_none {s : Int} {A B : List Int} {b : Bool} (h : (⟨s, A, B, b⟩ : Tb) = Tb.none) : s = 0 ∧ A = [] ∧ B = [] ∧ b = false := tb_eq h
theorem ptI_none {l : List UInt8} (h : l = noneT) : ptI l = ⟨0, [], [], true⟩ := by unfold ptI; rw [if_pos h]
theorem ptI_no {l : List UInt8} (h : l ≠ noneT) (h2 : ¬ (1 ≤ (splitP l).length - 1 ∧ (splitP l).length - 1 ≤ 8 ∧ (splitP l).all (ptRow ((splitP l).length - 1)) = true)) : ptI l = Tb.none := by
  unfold ptI; rw [if_neg h, if_neg h2]
set_option maxRecDepth 20000 in
set_option maxHeartbeats 4000000 in
theorem impl_ParseTableau_none (s : ByteArray) (w : World) (hn : s.data.toList = noneT) :
    Calls Tryd.prog 6 #[.string s] w fun e w' => ∃ p n c q m d, e = .returned (.tuple #[.agg #[.int .i64 0, .slice p n c, .slice q m d], .bool true]) ∧ NewT w w' [] [] p n c q m d := by
  have hq : (s.toList == [110, 111, 110, 101]) = true := by rw [str_none, decide_eq_true hn]
  have RS0 := hid (bk_new w #[.int .i64 0, .slice none 0 0, .slice none 0 0] 24)
  have B0 := hid (below_box w (.cells #[.int .i64 0, .slice none 0 0, .slice none 0 0] 24))
  clear hn
  go_enter Tryd.func6, Tryd.ntmps6
  go_wp2_with fail
  refine (impl_empty 0 0 _ (by omega) rfl).mono ?_
  rintro e w1 ⟨bA, bB, rfl, hE⟩
  have HE := hid (show NewT (w.alloc (.cells #[.int .i64 0, .slice none 0 0, .slice none 0 0] 24)) w1 [] [] _ 0 0 _ 0 0 from ⟨hE.1, hE.2.1, fun h => absurd h (by omega), hE.2.2.2.1⟩)
  have hR := bk_below RS0.out hE.2.2.2.1
  have HR := hid hR
  obtain ⟨⟨r0, r1, r2⟩, f0, f1, f2⟩ := blk3 hR
  clear hE hR
  go_wp2_with fail
  exact ret_tabb rfl rfl rfl (heap_setCell_same _ _ _ _ _ _ (heap_setCell_same _ _ _ _ _ _ (heap_setCell_same _ _ _ _ _ _ HR.out))) rfl ⟨_, _, _, _, _, _, rfl, newT_stores HE.out B0.out (Nat.le_refl _) (by simp) _ _ _⟩
set_option maxRecDepth 20000 in
set_option maxHeartbeats 4000000 in
theorem impl_ParseTableau_cut (s : ByteArray) (w : World) (hs : s.size ≤ 1048576) (hm : Mx w) (hn : s.data.toList ≠ noneT) {rs : Int} {rA rB : List Int} {rb : Bool} (hr : ptI s.data.toList = ⟨rs, rA, rB, rb⟩) :
    Calls Tryd.prog 6 #[.string s] w fun e w' => ∃ p n c q m d, e = .returned (.tuple #[.agg #[.int .i64 rs, .slice p n c, .slice q m d], .bool rb]) ∧ NewT w w' rA rB p n c q m d := by
  have HRV := hid hr
  clear hr
  have HM := hid hm
  have HNN := hid hn
  have hq : (s.toList == [110, 111, 110, 101]) = false := by rw [str_none, decide_eq_false hn]
  obtain ⟨bd1, bd2, bd3⟩ := splitP_bd s.data.toList
  rw [bytes_len] at bd2 bd3
  obtain ⟨N, hN⟩ : ∃ N, N = (splitP s.data.toList).length := ⟨_, rfl⟩
  rw [← hN] at bd1 bd2
  have HB3 := hid bd3
  have CS : Hid (∀ w, Mx w → Calls Tryd.prog 16 #[.string s, .string ⟨#[32, 124, 32]⟩] w fun e w' => e = .returned (.slice (some ⟨w.heap.size, 0, none⟩) N N) ∧ w' = w.alloc (.cells (((splitP s.data.toList).map bs).map Value.string).toArray 9)) := hid fun w hm => by
    obtain ⟨m, hm⟩ := hm
    have h := Tryd.strings_Split s ⟨#[32, 124, 32]⟩ m w (by omega) hm (by decide)
    have hl := Lib.splitB_all ⟨#[32, 124, 32]⟩ (by decide) 0 _ s rfl
    rw [split_p s, List.length_map, ← hN] at hl
    rw [split_p s, ← hl] at h
    exact h
  have HL := hid hN.symm
  have RS0 := hid (bk_new w #[.int .i64 0, .slice none 0 0, .slice none 0 0] 24)
  clear hN hn bd3 hm
  go_enter Tryd.func6, Tryd.ntmps6
  go_wp2_with fail
  refine (CS.out _ (HM.out.below (below_box _ _))).mono ?_
  rintro e w1 ⟨rfl, hw1⟩
  have z1 : w1.heap.size = w.heap.size + 2 := by rw [hw1]; simp
  have RS1 := hid (show w1.heap[w.heap.size]? = some (.cells #[.int .i64 0, .slice none 0 0, .slice none 0 0] 24 (0, 0)) by rw [hw1]; exact bk_alloc RS0.out _)
  have SW1 : Hid (Sw w1 (w.heap.size + 1) (.slice (some ⟨w.heap.size + 1, 0, none⟩) N N) N (splitP s.data.toList)) := hid (by
    have h := Sw.of_block (w := w1) (b := w.heap.size + 1) (lo := w.heap.size + 1) (xs := splitP s.data.toList) (by rw [hw1]; exact heap_alloc_at _ _ _ _ (by simp)) (Nat.le_refl _) (by rw [HL.out]; omega)
    rw [HL.out] at h
    exact h)
  have B1 := hid (show Below w.heap.size w w1 by rw [hw1]; exact l_alloc (below_box _ _) _)
  have Z1 := hid z1
  have z2 : w.heap.size + 2 ≤ w1.heap.size := by omega
  clear hw1 CS z1 RS0
  rw [World.size_alloc]
  have P0 : Hid (Pu w (w1.alloc (.cells #[.int .i64 ((N : Int) - 1), .slice none 0 0, .slice none 0 0] 24)) w1.heap.size (.int .i64 ((N : Int) - 1)) (.slice none 0 0) 0 [] none 0 0 [] (.slice (some ⟨w.heap.size + 1, 0, none⟩) N N) N (splitP s.data.toList)) :=
    hid ⟨l_alloc B1.out _, bk_alloc RS1.out _, bk_new _ _ _, Ow.nil _ _, Fr.none _ _, fun h => absurd h (by omega), SW1.out.alloc _, ⟨by simp [Value.ownBlock], by simp [Value.ownBlock], by simp [Value.ownBlock]; omega⟩, by omega⟩
  obtain ⟨⟨t0, t1, t2⟩, g0, g1, g2⟩ := blk3 P0.out.out
  by_cases hin : 2 ≤ N ∧ N ≤ 9
  · obtain ⟨n2, n9⟩ := hin
    have h1 : ¬ ((N : Int) - 1 < 1) := by omega
    have h2 : ¬ ((N : Int) - 1 > 8) := by omega
    go_wp2_with fail
    go_loopw [6, 7, 8, 9, 30] (fun _ _ _ _ i wr => ∃ (k nA : Nat) (vA : Value) (XA : List Int) (b2 : Option Addr) (nB cB : Nat) (XB : List Int), i = .int .i64 k ∧ k ≤ N ∧ nA ≤ 8 * k ∧ Hid (Pu w wr w1.heap.size (.int .i64 ((N : Int) - 1)) vA nA XA b2 nB cB XB (.slice (some ⟨w.heap.size + 1, 0, none⟩) N N) N (splitP s.data.toList)) ∧ Hid (XA = ((splitP s.data.toList).take (min k (N - 1))).flatMap pnsL) ∧ Hid (if k = N then XB = pnsL ((splitP s.data.toList).getD (N - 1) []) else b2 = none ∧ nB = 0 ∧ cB = 0 ∧ XB = []) ∧ Hid (((splitP s.data.toList).take k).all (ptRow (N - 1)) = true)) (fun _ _ _ _ i _ => N - (intOf i).toNat)
    case atStart => exact ⟨0, 0, _, [], none, 0, 0, [], rfl, Nat.zero_le _, by omega, P0, hid (by simp), hid (by rw [if_neg (by omega)]; exact ⟨rfl, rfl, rfl, rfl⟩), hid rfl⟩
    case round =>
      clear P0 t0 t1 t2 g0 g1 g2 h1 h2
      obtain ⟨k, nA, vA, XA, b2, nB, cB, XB, rfl, hk, hnA, hP, hXA, hXB, hAll⟩ := hrel
      obtain ⟨wo, rfl⟩ : ∃ wo : World, wo = wr := ⟨_, rfl⟩
      obtain ⟨va, ca, rfl, _⟩ := hP.out.a.fr
      obtain ⟨⟨t0, t1, t2⟩, g0, g1, g2⟩ := blk3 hP.out.out
      have sz := bk_lt hP.out.out
      by_cases hlt : k < N
      · have hki : (k : Int) < (N : Int) := by omega
        have hx := hXB.out
        rw [if_neg (by omega)] at hx
        obtain ⟨rfl, rfl, rfl, rfl⟩ := hx
        clear hXB
        obtain ⟨g, c, t, e1, u0, ht⟩ := hP.out.s.word hlt
        cases e1
        have HT := hid ht
        have hts : (bs t).size ≤ 1048576 := by
          rw [bs_size]
          have := HB3.out t (List.mem_of_getElem? ht)
          omega
        have CP := hid (fun w hm => impl_ParseNumbersT (bs t) t w (bs_data t) hts hm)
        obtain ⟨T, hT⟩ : ∃ T, T = bs t := ⟨_, rfl⟩
        rw [← hT] at u0 CP
        clear ht hts hT
        go_wp2_with fail
        refine (CP.out _ (HM.out.below hP.out.l)).mono ?_
        rintro e w2 ⟨ao, n, c, rfl, hN⟩
        have HN := hid hN
        have HNL := hid hN.1.rd.len
        have P1 := hid (hP.out.below hN.2)
        have y2 := hN.2.size
        clear t0 t1 t2 g0 g1 g2 u0 hN
        obtain ⟨⟨t0, t1, t2⟩, g0, g1, g2⟩ := blk3 P1.out.out
        by_cases hrow : pnsB t = true ∧ n = N - 1
        · obtain ⟨hb, hn⟩ := hrow
          have HALL := hid (rows_yes HT.out hAll.out (show ptRow (N - 1) t = true by unfold ptRow; rw [hb, HNL.out, hn]; simp))
          rw [hb]
          have hq2 : ((n : Int) == (N : Int) - 1) = true := by rw [beq_iff_eq]; omega
          have hn8 : n ≤ 8 := by omega
          have HNN2 := hid hn
          clear hn hb
          by_cases hks : k + 1 < N
          · have hk2 : (k : Int) < (N : Int) - 1 := by omega
            go_wp2_with (at_builtin; (refine wpList_append_ints _ rfl _ _ rfl (w1.heap.size + 1) _ nA _ rfl P1.out.a _ n c (pnsL t) rfl HN.out.1.rd (by omega) (by omega) ?_); intro ay cy w3 hO3 hG3 hW3; have P3 := hid (P1.out.push hO3 hG3 hW3); obtain ⟨⟨v0, v1, v2⟩, k0, k1, k2⟩ := blk3 (P1.out.outG hG3); clear hO3 hG3 hW3)
            go_roundw
            case rel => exact ⟨k + 1, nA + n, _, _, none, 0, 0, [], by go_num, by omega, by omega, P3, hid (by rw [hXA.out, Nat.min_eq_left (by omega), Nat.min_eq_left (by omega), words_step HT.out, List.flatMap_append, List.flatMap_cons, List.flatMap_nil, List.append_nil]), hid (by rw [if_neg (by omega)]; exact ⟨rfl, rfl, rfl, rfl⟩), HALL⟩
            case measure => simp [intOf]; omega
          · have hk2 : ¬ (k : Int) < (N : Int) - 1 := by omega
            have P3 := hid (hP.out.setB HN.out)
            go_wp2_with fail
            go_roundw
            case rel => exact ⟨k + 1, nA, _, _, ao, n, c, pnsL t, by go_num, by omega, by omega, P3, hid (by rw [hXA.out, Nat.min_eq_right (by omega), Nat.min_eq_right (by omega)]), hid (by rw [if_pos (by omega), List.getD_eq_getElem?_getD, show N - 1 = k by omega, HT.out]; rfl), HALL⟩
            case measure => simp [intOf]; omega
        · have HE : Hid (ptI s.data.toList = Tb.none) := hid (ptI_no HNN.out fun h => by
            have h3 := h.2.2
            rw [HL.out] at h3
            have h4 : ptRow (N - 1) t = false := by
              unfold ptRow
              rw [HNL.out]
              cases hb : pnsB t with
              | false => rfl
              | true => rw [decide_eq_false (fun e => hrow ⟨hb, e⟩)]; rfl
            rw [rows_stop HT.out h4] at h3
            cases h3)
          obtain ⟨rfl, rfl, rfl, rfl⟩ := tb_none (HRV.out.symm.trans HE.out)
          clear HE
          obtain ⟨⟨r0, r1, r2⟩, f0, f1, f2⟩ := blk3 P1.out.res
          cases hb : pnsB t with
          | false =>
            clear hrow hb
            go_wp2_with fail
            obtain ⟨e1, e2⟩ := none_end P1.out.l (Nat.le_refl _) P1.out.res (.int .i64 0) (.slice none 0 0) (.slice none 0 0)
            exact ret_tabb rfl rfl rfl e1 rfl ⟨_, _, _, _, _, _, rfl, e2⟩
          | true =>
            have hq2 : ((n : Int) == (N : Int) - 1) = false := by
              rw [beq_eq_false_iff_ne]
              exact fun e => hrow ⟨hb, by omega⟩
            clear hrow hb
            go_wp2_with fail
            obtain ⟨e1, e2⟩ := none_end P1.out.l (Nat.le_refl _) P1.out.res (.int .i64 0) (.slice none 0 0) (.slice none 0 0)
            exact ret_tabb rfl rfl rfl e1 rfl ⟨_, _, _, _, _, _, rfl, e2⟩
      · obtain rfl : k = N := by omega
        have hx := hXB.out
        rw [if_pos rfl] at hx
        have ha := hAll.out
        rw [← HL.out, List.take_length] at ha
        have HE : Hid (ptI s.data.toList = ⟨(k : Int) - 1, XA, XB, true⟩) := hid (by
          unfold ptI
          rw [if_neg HNN.out, HL.out, if_pos ⟨by omega, by omega, by rw [← HL.out]; exact ha⟩, hx, hXA.out, Nat.min_eq_right (by omega), show ((k - 1 : Nat) : Int) = (k : Int) - 1 by omega])
        clear hx ha
        obtain ⟨rfl, rfl, rfl, rfl⟩ := tb_eq (HRV.out.symm.trans HE.out)
        obtain ⟨⟨r0, r1, r2⟩, f0, f1, f2⟩ := blk3 hP.out.res
        go_wp2_with fail
        obtain ⟨a1, c1, ev, e1, e2⟩ := hP.out.finish (.int .i64 ((k : Int) - 1)) (.slice va nA ca) (.slice b2 nB cB)
        cases ev
        exact ret_tabb rfl rfl rfl e1 rfl ⟨_, _, _, _, _, _, rfl, e2⟩
  · have HE : Hid (ptI s.data.toList = Tb.none) := hid (ptI_no HNN.out fun h => hin (by rw [HL.out] at h; omega))
    obtain ⟨rfl, rfl, rfl, rfl⟩ := tb_none (HRV.out.symm.trans HE.out)
    obtain ⟨⟨r0, r1, r2⟩, f0, f1, f2⟩ := blk3 P0.out.res
    have hc : (decide ((N : Int) - 1 < 1) || decide ((N : Int) - 1 > 8)) = true := by simp only [Bool.or_eq_true, decide_eq_true_eq]; omega
    by_cases h1 : (N : Int) - 1 < 1
    · go_wp2_with fail
      obtain ⟨e1, e2⟩ := none_end P0.out.l (Nat.le_refl _) P0.out.res (.int .i64 0) (.slice none 0 0) (.slice none 0 0)
      exact ret_tabb rfl rfl rfl e1 rfl ⟨_, _, _, _, _, _, rfl, e2⟩
    · have h2 : (N : Int) - 1 > 8 := by omega
      go_wp2_with fail
      obtain ⟨e1, e2⟩ := none_end P0.out.l (Nat.le_refl _) P0.out.res (.int .i64 0) (.slice none 0 0) (.slice none 0 0)
      exact ret_tabb rfl rfl rfl e1 rfl ⟨_, _, _, _, _, _, rfl, e2⟩
theorem impl_ParseTableau (s : ByteArray) (w : World) (hs : s.size ≤ 1048576) (hm : Mx w) {rs : Int} {rA rB : List Int} {rb : Bool} (hr : ptI s.data.toList = ⟨rs, rA, rB, rb⟩) :
    Calls Tryd.prog 6 #[.string s] w fun e w' => ∃ p n c q m' d', e = .returned (.tuple #[.agg #[.int .i64 rs, .slice p n c, .slice q m' d'], .bool rb]) ∧ NewT w w' rA rB p n c q m' d' := by
  by_cases hn : s.data.toList = noneT
  · obtain ⟨rfl, rfl, rfl, rfl⟩ := tb_eq (hr.symm.trans (ptI_none hn))
    exact impl_ParseTableau_none s w hn
  · exact impl_ParseTableau_cut s w hs hm hn hr
end Go.Proofs.YthebegfceaehfaaDoor
