/- Merged texts: Law, LawTab, Fmt. -/
import Derived.Test.YthebegfceaehfaaDoorKt1
import Derived.Deep.QuietTactic
import Derived.BigQuiet
import Derived.WalkSmall
import Derived.WalkLawsBesides
import Derived.Laws.IdiomStrings
/- Law: The law's own helpers: sizes, copies, comparisons, marks. -/
namespace Go.Proofs.YthebegfceaehfaaDoor
open Go.RowKit

theorem Below.drewN' {B : Nat} {a w : World} (h : Below B a w) (n : Nat) : Below B a (w.drewN n) := ⟨h.os, h.tape, h.output, h.size, h.block⟩

/-- A slice of the call's own: it reads as xs, it may be written, its block is not below lo. -/
structure Fr (w : World) (lo : Nat) (ao : Option Addr) (n c : Nat) (xs : List Int) : Prop where
  rd : Rd w ao n c xs
  own : ∀ b o s, ao = some ⟨b, o, s⟩ → 0 < n → lo ≤ b ∧ ∀ i, i < n → w.frozen? ⟨b, o + i, none⟩ = false

theorem Fr.keep {w w' : World} {lo : Nat} {ao : Option Addr} {n c : Nat} {xs : List Int} (h : Fr w lo ao n c xs)
    (hk : ∀ b o, 0 < n → ao = some ⟨b, o, none⟩ → b < w.heap.size → w'.heap[b]? = w.heap[b]?) : Fr w' lo ao n c xs :=
  ⟨h.rd.keep hk, fun b o s e hn => by
    obtain ⟨h1, h2⟩ := h.own b o s e hn
    obtain ⟨b', o', e', hc⟩ := h.rd.cell 0 hn
    rw [e] at e'
    simp only [Option.some.injEq, Addr.mk.injEq] at e'
    obtain ⟨rfl, rfl, rfl⟩ := e'
    have hbl : b < w.heap.size := World.block_lt_of_cell? w _ hc
    refine ⟨h1, fun i hi => ?_⟩
    exact (World.frozen?_of_block (w := w) (a := ⟨b, o + i, none⟩) (hk _ _ hn e hbl)).trans (h2 i hi)⟩
theorem Fr.below {w w' : World} {lo : Nat} {ao : Option Addr} {n c : Nat} {xs : List Int} (h : Fr w lo ao n c xs) (hb : Below w.heap.size w w') : Fr w' lo ao n c xs :=
  h.keep fun b _ _ _ hl => hb.block b hl
theorem Fr.mono {w : World} {lo lo' : Nat} {ao : Option Addr} {n c : Nat} {xs : List Int} (h : Fr w lo ao n c xs) (hl : lo' ≤ lo) : Fr w lo' ao n c xs :=
  ⟨h.rd, fun b o s e hn => ⟨Nat.le_trans hl (h.own b o s e hn).1, (h.own b o s e hn).2⟩⟩

theorem Fr.alloc {w : World} {lo : Nat} {ao : Option Addr} {n c : Nat} {xs : List Int} (h : Fr w lo ao n c xs) (o : Obj) : Fr (w.alloc o) lo ao n c xs :=
  h.below ((Below.refl _ _).alloc (Nat.le_refl _) o)
theorem getD_set (xs : List Int) (k i : Nat) (x : Int) (hk : k < xs.length) : (xs.set k x).getD i 0 = if i = k then x else xs.getD i 0 := by
  simp only [List.getD_eq_getElem?_getD, List.getElem?_set]
  by_cases h : i = k
  · subst h; simp [hk]
  · rw [if_neg h, if_neg (fun e => h e.symm)]
/-- A store into a slice of the call's own. -/
theorem Fr.store {w : World} {lo : Nat} {b o n c : Nat} {xs : List Int} (h : Fr w lo (some ⟨b, o, none⟩) n c xs) {k : Nat} (hk : k < n) {x : Int} (hx : I64 x) :
    Fr (w.setCell ⟨b, o + k, none⟩ (.int .i64 x)) lo (some ⟨b, o, none⟩) n c (xs.set k x) := by
  have hl := h.rd.len
  refine ⟨⟨by rw [List.length_set]; exact hl, h.rd.cap, h.rd.max, fun i hi => ?_, fun y hy => ?_⟩, fun b' o' s e hn => ?_⟩
  · refine ⟨b, o, rfl, ?_⟩
    obtain ⟨b', o', e, hc⟩ := h.rd.cell i hi
    simp only [Option.some.injEq, Addr.mk.injEq, and_true] at e
    obtain ⟨rfl, rfl⟩ := e
    rw [getD_set _ _ _ _ (by omega)]
    by_cases e : i = k
    · subst e
      rw [if_pos rfl]
      exact World.cell?_setCell_same _ _ _ hc
    · rw [if_neg e, World.cell?_setCell_other _ _ _ _ (by intro e'; simp only [Addr.mk.injEq] at e'; omega)]
      exact hc
  · rcases List.mem_or_eq_of_mem_set hy with h1 | h1
    · exact h.rd.wf y h1
    · exact h1 ▸ hx
  · obtain ⟨h1, h2⟩ := h.own b' o' s e hn
    exact ⟨h1, fun i hi => by rw [World.frozen?_setCell]; exact h2 i hi⟩
theorem grown_setCell (w : World) (b k : Nat) (v : Value) : w.grownBy (w.setCell ⟨b, k, none⟩ v) (some b) :=
  ⟨rfl, rfl, rfl, by simp, fun j _ hj => heap_setCell_other w ⟨b, k, none⟩ j v (fun e => hj (by simp [e]))⟩
theorem grown_trans {a b c : World} {r : Option Nat} (h : a.grownBy b r) (k : b.grownBy c r) : a.grownBy c r :=
  ⟨k.os.trans h.os, k.tape.trans h.tape, k.output.trans h.output, Nat.le_trans h.size k.size, fun i hi hr => (k.block i (Nat.lt_of_lt_of_le hi h.size) hr).trans (h.block i hi hr)⟩
/-- The block of a slice's address. -/
def blk (ao : Option Addr) : Option Nat := ao.map (·.block)
/-- The block that a mark writes: none for an empty slice. -/
def blkN (ao : Option Addr) (n : Nat) : Option Nat := if n = 0 then none else blk ao
theorem blkN_pos {ao : Option Addr} {n : Nat} (h : 0 < n) : blkN ao n = blk ao := if_neg (by omega)
/-- What another block's row keeps while block r is written. -/
theorem Fr.grown {w w' : World} {lo : Nat} {ao : Option Addr} {n c : Nat} {xs : List Int} (h : Fr w lo ao n c xs) {r : Option Nat} (hg : w.grownBy w' r) (hne : 0 < n → blk ao ≠ r ∨ r = none) : Fr w' lo ao n c xs :=
  h.keep fun b o hn e hl => hg.block b hl (by
    subst e
    rcases hne hn with h1 | h1
    · exact h1
    · rw [h1]; simp)
theorem Rd.grown {w w' : World} {ao : Option Addr} {n c : Nat} {xs : List Int} (h : Rd w ao n c xs) {r : Option Nat} (hg : w.grownBy w' r) (hne : 0 < n → blk ao ≠ r ∨ r = none) : Rd w' ao n c xs :=
  h.keep fun b o hn e hl => hg.block b hl (by
    subst e
    rcases hne hn with h1 | h1
    · exact h1
    · rw [h1]; simp)

/-- From the kit's word on a row of the call's own. -/
theorem Fr.of_owns {w : World} {base n : Nat} {v : Value} {xs : List Int} (h : w.ownsRow base 3 1 v n (xs.map (Value.int .i64))) (hw : ∀ x ∈ xs, I64 x) :
    ∃ ao c, v = .slice ao n c ∧ Fr w base ao n c xs := by
  obtain ⟨h1, h2⟩ := h
  have hlen : xs.length = n := by simpa using h1
  rcases h2 with ⟨rfl, rfl⟩ | ⟨g, cap, cur, rfl, hb, hg, hnc, hcm, hcs, htake⟩
  · obtain rfl : xs = [] := List.eq_nil_of_length_eq_zero hlen
    exact ⟨none, 0, rfl, Rd.nil _ _ _ (by omega), fun b o s e => by cases e⟩
  · refine ⟨some ⟨g, 0, none⟩, cap, rfl, ⟨hlen, hnc, by unfold maxLen at hcm; omega, fun i hi => ⟨g, 0, rfl, ?_⟩, hw⟩, fun b o s e hn => ?_⟩
    · rw [Nat.zero_add, cell_of_row w g i cur _ _ hg, ← Array.getElem?_toList]
      have e : (cur.toList.take (n * 1))[i]? = (xs.map (Value.int .i64))[i]? := by rw [htake]
      rw [List.getElem?_take, if_pos (by omega)] at e
      rw [e, List.getElem?_map]
      simp [List.getD, show i < xs.length by omega]
    · simp only [Option.some.injEq, Addr.mk.injEq] at e
      obtain ⟨rfl, rfl, rfl⟩ := e
      exact ⟨hb, fun i _ => frozen_of_row w g _ cur _ hg⟩

theorem info_int : (Tryd.prog.info? 3).map (fun i => (i.zero, i.size, i.bytes)) = some (some (.int .i64 0), 1, 8) := by kernel_rfl
/-- 'make([]int, n)'. -/
theorem wpList_make_ints (w : World) {ops : Array Oper} {rest : List Oper} {o : Oper} {a : Act} {Q : Exit → Act → World → Prop}
    (hg : o.guard = none) (l c : Operand) (hop : o.op = Op.makeSlice 22 l c) (n : Nat) (hl : a.eval l = .int .i64 (n : Int)) (hc : a.eval c = .int .i64 (n : Int)) (hn : n ≤ 2097152)
    (hK : ∀ w1, Below w.heap.size w w1 → w.heap.size < w1.heap.size → Fr w1 w.heap.size (some ⟨w.heap.size, 0, none⟩) n n (List.replicate n 0) → wpList Tryd.prog ops Q rest (a.put o.dst (.slice (some ⟨w.heap.size, 0, none⟩) n n)) w1) :
    wpList Tryd.prog ops Q (o :: rest) a w := by
  obtain ⟨i, hi, hz0, hz1, hz2⟩ := info_parts info_int
  refine wpList_make_full w hg l c 22 hop w.heap.size 3 i (.int .i64 0) 1 Tryd.underlying22 hi hz0 hz1 .i64 .i64 n n n hl hc rfl rfl (by rw [hz2]; omega) (by unfold maxLen; omega) (Nat.le_refl _) ?_
  intro w' hown hgr
  have hB : Below w.heap.size w w' := (Below.refl _ _).grown hgr (Nat.le_refl _) (fun k hk => by cases hk)
  have e : (madeCells (Value.int .i64 0).cells (n * 1)).toList = (List.replicate n (0 : Int)).map (Value.int .i64) := by
    rw [show (Value.int .i64 0).cells = #[Value.int .i64 0] from rfl, Nat.mul_one, toList_madeCells_one, List.map_replicate]
  rw [e] at hown
  obtain ⟨ao, c', hv, hF⟩ := Fr.of_owns hown (fun x hx => by rw [(List.mem_replicate.1 hx).2]; exact ⟨by decide, by decide⟩)
  simp only [Value.slice.injEq] at hv
  obtain ⟨rfl, _, rfl⟩ := hv
  rcases hown.2 with ⟨h1, _⟩ | ⟨g, cap, cur, h1, _, hg', _⟩
  · simp at h1
  · simp only [Value.slice.injEq, Option.some.injEq, Addr.mk.injEq, and_true, true_and] at h1
    obtain ⟨rfl, _⟩ := h1
    exact hK w' hB (Array.getElem?_eq_some_iff.1 hg').1 hF

theorem eqL_step {xs ys : List Int} {k : Nat} {x y : Int} (h : k < xs.length) (h' : k < ys.length) (ha : xs.take k = ys.take k) (ex : x = xs.getD k 0) (ey : y = ys.getD k 0) (e : x = y) : xs.take (k + 1) = ys.take (k + 1) := by
  rw [take_snoc 0 xs k h, take_snoc 0 ys k h', ha, ← ex, ← ey, e]
theorem eqL_stop {xs ys : List Int} {k : Nat} {x y : Int} (ex : x = xs.getD k 0) (ey : y = ys.getD k 0) (e : x ≠ y) : decide (xs = ys) = false := by
  rw [decide_eq_false_iff_not]
  intro h
  subst h
  exact e (ex.trans ey.symm)

theorem law_eqIntS (ao : Option Addr) (n c : Nat) (xs : List Int) (bo : Option Addr) (m d : Nat) (ys : List Int) (w : World) (hr : Rd w ao n c xs) (hs : Rd w bo m d ys) :
    Calls Tryd.prog 18 #[.slice ao n c, .slice bo m d] w fun e w' => e = .returned (.bool (decide (xs = ys))) ∧ Below w.heap.size w w' := by
  have hn : n ≤ 9223372036854775807 := Nat.le_trans hr.cap hr.max
  have hm : m ≤ 9223372036854775807 := Nat.le_trans hs.cap hs.max
  have HR := hid hr
  have HS := hid hs
  clear hr hs
  by_cases hnm : n = m
  · subst hnm
    go_enter Tryd.func18, Tryd.ntmps18
    go_wp2
    go_loopw [5] (fun i wr => ∃ k : Nat, i = .int .i64 k ∧ k ≤ n ∧ Hid (xs.take k = ys.take k) ∧ Below w.heap.size w wr) (fun i _ => n - (intOf i).toNat)
    case atStart => exact ⟨0, rfl, Nat.zero_le _, hid rfl, Below.refl _ _⟩
    case round =>
      obtain ⟨k, rfl, hk, hA, hB⟩ := hrel
      have HB := hid hB
      clear hB
      by_cases hlt : k < n
      · obtain ⟨b, o, x, rfl, hc, _, _, hx⟩ := (HR.out.below HB.out).at hlt
        obtain ⟨b2, o2, y, rfl, hc2, _, _, hy⟩ := (HS.out.below HB.out).at hlt
        have hki : (k : Int) < (n : Int) := by omega
        cases hb : (x != y) with
        | true =>
          go_wp2
          go_quiet (fail)
          go_wp2
          go_ret
          exact ⟨ret_b (eqL_stop hx.out hy.out (bne_iff_ne.1 hb)).symm, Below.drewN' HB.out _⟩
        | false =>
          go_wp2
          go_quiet (fail)
          go_wp2
          go_roundw
          case rel => exact ⟨k + 1, by go_num, by omega, hid (eqL_step (by rw [HR.out.len]; exact hlt) (by rw [HS.out.len]; exact hlt) hA.out hx.out hy.out (bne_eq_false_iff_eq.1 hb)), Below.drewN' HB.out _⟩
          case measure => simp [intOf]; omega
      · obtain rfl : k = n := by omega
        go_wp2
        go_ret
        have e : xs = ys := by
          have := hA.out
          rw [← HR.out.len, List.take_length, HR.out.len, ← HS.out.len, List.take_length] at this
          exact this
        exact ⟨ret_b (decide_eq_true e).symm, HB.out⟩
  · have hne : ((n : Int) != (m : Int)) = true := by rw [bne_iff_ne]; omega
    go_enter Tryd.func18, Tryd.ntmps18
    go_wp2
    go_ret
    exact ⟨ret_b (decide_eq_false fun e => hnm (by rw [← HR.out.len, ← HS.out.len, e])).symm, Below.refl _ _⟩

theorem law_eqIntS_true (ao : Option Addr) (n c : Nat) (bo : Option Addr) (m d : Nat) (xs : List Int) (w : World) (hr : Rd w ao n c xs) (hs : Rd w bo m d xs) :
    Calls Tryd.prog 18 #[.slice ao n c, .slice bo m d] w fun e w' => e = .returned (.bool true) ∧ Below w.heap.size w w' :=
  (law_eqIntS ao n c xs bo m d xs w hr hs).mono fun e w' ⟨h1, h2⟩ => ⟨by rw [h1, decide_eq_true rfl], h2⟩
/-! ### copies -/
theorem copy_step {xs : List Int} {n k : Nat} {x : Int} (h : k < xs.length) (hn : xs.length = n) (e : x = xs.getD k 0) : (xs.take k ++ List.replicate (n - k) 0).set k x = xs.take (k + 1) ++ List.replicate (n - (k + 1)) 0 := by
  subst e
  rw [take_snoc 0 xs k h, List.set_append_right _ _ (by rw [List.length_take]; omega), List.length_take, show k - min k xs.length = 0 by omega, show n - k = (n - (k + 1)) + 1 by omega, List.replicate_succ, List.set_cons_zero, List.append_assoc]
  rfl
/-! ### marks -/
def marks (k : Int) (n : Nat) : List Int := (List.range n).map fun (i : Nat) => k + (i : Int)
theorem marks_len (k : Int) (n : Nat) : (marks k n).length = n := by simp [marks]
theorem marks_at (k : Int) (n j : Nat) (h : j < n) : (marks k n).getD j 0 = k + j := by
  simp [marks, List.getD, h]
theorem mark_step {xs : List Int} {k : Int} {j n : Nat} (hn : xs.length = n) (h : j < n) : (marks k j ++ xs.drop j).set j (k + j) = marks k (j + 1) ++ xs.drop (j + 1) := by
  rw [List.set_append_right _ _ (by rw [marks_len]; exact Nat.le_refl _), marks_len, Nat.sub_self, drop_cons 0 xs j (by omega), List.set_cons_zero]
  unfold marks
  rw [List.range_succ, List.map_append, List.append_assoc]
  rfl
theorem law_markIntS (lo : Nat) (ao : Option Addr) (n c : Nat) (xs : List Int) (k : Int) (w : World) (hr : Fr w lo ao n c xs) (hn : n ≤ 1048576) (h0 : 0 ≤ k) (h1 : k ≤ 1000000000000) :
    Calls Tryd.prog 19 #[.slice ao n c, .int .i64 k] w fun e w' => e = .returned (.int .i64 (k + n)) ∧ Fr w' lo ao n c (marks k n) ∧ w.grownBy w' (blkN ao n) := by
  have HR := hid hr
  clear hr
  go_enter Tryd.func19, Tryd.ntmps19
  go_wp2
  go_loopw [1, 5] (fun kv i wr => ∃ j : Nat, i = .int .i64 j ∧ kv = .int .i64 (k + j) ∧ j ≤ n ∧ Hid (w.grownBy wr (blkN ao n)) ∧ Hid (Fr wr lo ao n c (marks k j ++ xs.drop j))) (fun _ i _ => n - (intOf i).toNat)
  case atStart => exact ⟨0, rfl, by go_num, Nat.zero_le _, hid (World.grownBy.refl _ _), hid (by simpa [marks] using HR.out)⟩
  case round =>
    obtain ⟨j, rfl, rfl, hj, hG, hF⟩ := hrel
    by_cases hlt : j < n
    · obtain ⟨b, o, y, rfl, hc2, _, _, _⟩ := hF.out.rd.at hlt
      have hfz := (hF.out.own _ _ _ rfl (by omega)).2 j hlt
      go_wp2
      go_roundw
      case rel =>
        have hst := hF.out.store hlt (x := k + j) ⟨by omega, by omega⟩
        rw [mark_step HR.out.rd.len hlt] at hst
        exact ⟨j + 1, by go_num, by go_num, by omega, hid (grown_trans hG.out (by rw [blkN_pos (by omega)]; exact grown_setCell _ _ _ _)), hid hst⟩
      case measure => simp [intOf]; omega
    · obtain rfl : j = n := by omega
      go_wp2
      go_ret
      have hF' := hF.out
      rw [show xs.drop j = [] from List.drop_eq_nil_of_le (by rw [HR.out.rd.len]; exact Nat.le_refl _), List.append_nil] at hF'
      exact ⟨rfl, hF', hG.out⟩
theorem law_heldIntS (ao : Option Addr) (n c : Nat) (k : Int) (w : World) (hr : Rd w ao n c (marks k n)) (hn : n ≤ 1048576) (h0 : 0 ≤ k) (h1 : k ≤ 1000000000000) :
    Calls Tryd.prog 20 #[.slice ao n c, .int .i64 k] w fun e w' => e = .returned (.int .i64 (k + n)) ∧ w = w' := by
  have HR := hid hr
  clear hr
  go_enter Tryd.func20, Tryd.ntmps20
  go_wp2
  go_loop [1, 5] (fun kv i => ∃ j : Nat, i = .int .i64 j ∧ kv = .int .i64 (k + j) ∧ j ≤ n) (fun _ i => n - (intOf i).toNat)
  case atStart => exact ⟨0, rfl, by go_num, Nat.zero_le _⟩
  case round =>
    obtain ⟨j, rfl, rfl, hj⟩ := hrel
    by_cases hlt : j < n
    · obtain ⟨b, o, y, rfl, hc, _, _, hy⟩ := HR.out.at hlt
      obtain rfl : y = k + j := hy.out.trans (marks_at k n j hlt)
      clear hy
      have hq : ((k + (j : Int)) != (k + (j : Int))) = false := by simp
      go_wp2
      go_round
      case rel => exact ⟨j + 1, by go_num, by go_num, by omega⟩
      case measure => simp [intOf]; omega
    · obtain rfl : j = n := by omega
      go_wp2
      go_ret
      exact ⟨rfl, rfl⟩

/-! ### sizes -/
end Go.Proofs.YthebegfceaehfaaDoor

/- LawTab: The law's own helpers on tableaus. -/
namespace Go.Proofs.YthebegfceaehfaaDoor
open Go.RowKit

abbrev tab (s : Int) (a1 : Option Addr) (n1 c1 : Nat) (a2 : Option Addr) (n2 c2 : Nat) : Value := .agg #[.int .i64 s, .slice a1 n1 c1, .slice a2 n2 c2]
theorem below_box (w : World) (o : Obj) : Below w.heap.size w (w.alloc o) := (Below.refl _ _).alloc (Nat.le_refl _) o

theorem bcell {W w1 : World} (hb : Below W.heap.size W w1) : (∀ b o, b < W.heap.size → w1.cell? ⟨b, o, none⟩ = W.cell? ⟨b, o, none⟩) ∧ (∀ b o, b < W.heap.size → w1.frozen? ⟨b, o, none⟩ = W.frozen? ⟨b, o, none⟩) :=
  ⟨fun b o h => hb.cell (p := ⟨b, o, none⟩) h, fun b o h => hb.frozen (p := ⟨b, o, none⟩) h⟩

theorem blk_ne {a b o : Nat} {s : Option Nat} (h : a ≠ b) : blk (some ⟨a, o, s⟩) ≠ some b := by simpa [blk] using h
/-- A struct's block, known whole. -/
theorem blk3 {w : World} {b : Nat} {x y z : Value} {e : TypeId} (h : w.heap[b]? = some (.cells #[x, y, z] e (0, 0))) :
    (w.cell? ⟨b, 0, none⟩ = some x ∧ w.cell? ⟨b, 1, none⟩ = some y ∧ w.cell? ⟨b, 2, none⟩ = some z) ∧ w.frozen? ⟨b, 0, none⟩ = false ∧ w.frozen? ⟨b, 1, none⟩ = false ∧ w.frozen? ⟨b, 2, none⟩ = false :=
  ⟨⟨cell_of_row w b 0 _ _ _ h, cell_of_row w b 1 _ _ _ h, cell_of_row w b 2 _ _ _ h⟩, frozen_of_row w b 0 _ _ h, frozen_of_row w b 1 _ _ h, frozen_of_row w b 2 _ _ h⟩
/-- A result that is a tableau in a block of its own. -/
theorem ret_tab {fn : Func} {R : Ending → World → Prop} {a : Act} {w : World} {t : Tmp} {b : Nat} {x y z : Value} (hres : fn.results = #[.cell t 24])
    (ht : a.tmps.getD t undef = .pointer (some ⟨b, 0, none⟩)) (hb : w.heap[b]? = some (.cells #[x, y, z] 24 (0, 0))) (hd : a.defers = [])
    (hR : R (.returned (.agg #[x, y, z])) w) : bodyPost Tryd.prog fn R .ret a w := by
  obtain ⟨⟨q0, q1, q2⟩, _⟩ := blk3 hb
  refine bodyPost_ret (v := .agg #[x, y, z]) ?_ hd hR
  rw [Array.getD_eq_getD_getElem?] at ht
  simp only [results, hres]
  simp [go_sem, ht, q0, q1, q2]
theorem heap_alloc_at (w : World) (c : Array Value) (e : TypeId) (b : Nat) (h : b = w.heap.size) : (w.alloc (.cells c e)).heap[b]? = some (.cells c e (0, 0)) := by subst h; exact _root_.Go.heap_alloc_new w _
theorem heap_alloc_past (w : World) (o : Obj) (b : Nat) (h : b < w.heap.size) : (w.alloc o).heap[b]? = w.heap[b]? := Below.heap_alloc w o b h
theorem Fr.setCell {w : World} {lo : Nat} {ao : Option Addr} {n c : Nat} {xs : List Int} (h : Fr w lo ao n c xs) {b k : Nat} (v : Value) (hne : blk ao ≠ some b) : Fr (w.setCell ⟨b, k, none⟩ v) lo ao n c xs :=
  h.grown (grown_setCell w b k v) (fun _ => .inl hne)
/-- toTableau: a tableau in new memory. -/
def NewTab (w w' : World) (A B : List Int) (a1 : Option Addr) (n1 c1 : Nat) (a2 : Option Addr) (n2 c2 : Nat) : Prop :=
  Fr w' w.heap.size a1 n1 c1 A ∧ Fr w' w.heap.size a2 n2 c2 B ∧ (0 < n1 → 0 < n2 → blk a1 ≠ blk a2) ∧ Below w.heap.size w w'
theorem law_eqTableau_true (s : Int) (a1 : Option Addr) (n1 c1 : Nat) (a2 : Option Addr) (n2 c2 : Nat) (b1 : Option Addr) (m1 d1 : Nat) (b2 : Option Addr) (m2 d2 : Nat) (A B : List Int) (w : World)
    (h1 : Rd w a1 n1 c1 A) (h2 : Rd w a2 n2 c2 B) (g1 : Rd w b1 m1 d1 A) (g2 : Rd w b2 m2 d2 B) :
    Calls Tryd.prog 7 #[.agg #[.int .i64 s, .slice a1 n1 c1, .slice a2 n2 c2], .agg #[.int .i64 s, .slice b1 m1 d1, .slice b2 m2 d2]] w fun e w' => e = .returned (.bool true) ∧ Below w.heap.size w w' := by
  have H1 := hid h1
  have H2 := hid h2
  have G1 := hid g1
  have G2 := hid g2
  have hss : (s != s) = false := by simp
  clear h1 h2 g1 g2
  go_enter Tryd.func7, Tryd.ntmps7
  go_wp2_with fail
  refine (law_eqIntS_true _ _ _ _ _ _ A _ ((H1.out.alloc _).alloc _) ((G1.out.alloc _).alloc _)).mono ?_
  rintro e w1 ⟨rfl, hB⟩
  have HB := hid hB
  have HW := hid (((below_box w _).trans ((below_box _ _).mono (by simp))).trans (hB.mono (by simp; omega)))
  obtain ⟨⟨q0, q1, q2⟩, _⟩ := blk3 ((hB.block w.heap.size (by simp; omega)).trans ((heap_alloc_past _ _ _ (by simp)).trans (heap_alloc_at _ _ _ _ rfl)))
  obtain ⟨⟨r0, r1, r2⟩, _⟩ := blk3 ((hB.block (w.heap.size + 1) (by simp)).trans (heap_alloc_at _ _ _ _ (by simp)))
  clear hB
  go_wp2_with fail
  refine (law_eqIntS_true _ _ _ _ _ _ B _ (H2.out.below HW.out) (G2.out.below HW.out)).mono ?_
  rintro e w2 ⟨rfl, hB⟩
  have HB2 := hid (HW.out.trans (hB.mono HW.out.size))
  clear hB
  go_wp2_with fail
  go_ret
  exact ⟨rfl, HB2.out⟩
theorem law_heldTableau (a1 : Option Addr) (n1 c1 : Nat) (a2 : Option Addr) (n2 c2 : Nat) (s k : Int) (w : World) (h1 : Rd w a1 n1 c1 (marks k n1)) (h2 : Rd w a2 n2 c2 (marks (k + n1) n2))
    (m1 : n1 ≤ 1048576) (m2 : n2 ≤ 1048576) (k0 : 0 ≤ k) (k1 : k ≤ 1000000000) :
    Calls Tryd.prog 9 #[.agg #[.int .i64 s, .slice a1 n1 c1, .slice a2 n2 c2], .int .i64 k] w fun e w' => e = .returned (.int .i64 (k + n1 + n2)) ∧ Below w.heap.size w w' := by
  have H1 := hid h1
  have H2 := hid h2
  clear h1 h2
  go_enter Tryd.func9, Tryd.ntmps9
  go_wp2_with fail
  refine (law_heldIntS _ _ _ _ _ (H1.out.alloc _) m1 k0 (by omega)).mono ?_
  rintro e w1 ⟨rfl, rfl⟩
  go_wp2_with fail
  refine (law_heldIntS _ _ _ _ _ (H2.out.alloc _) m2 (by omega) (by omega)).mono ?_
  rintro e w1 ⟨rfl, rfl⟩
  go_wp2_with fail
  go_ret
  exact ⟨rfl, below_box _ _⟩
/-- Two slices that share no block. -/
def Sep (a1 : Option Addr) (n1 : Nat) (a2 : Option Addr) (n2 : Nat) : Prop := 0 < n1 → 0 < n2 → blk a1 ≠ blk a2
theorem Fr.grownN {w w' : World} {lo : Nat} {ao : Option Addr} {n c : Nat} {xs : List Int} (h : Fr w lo ao n c xs) {bo : Option Addr} {m : Nat} (hg : w.grownBy w' (blkN bo m)) (hs : Sep bo m ao n) : Fr w' lo ao n c xs :=
  h.grown hg fun hn => by
    rcases Nat.eq_zero_or_pos m with h0 | h0
    · exact .inr (if_pos h0)
    · rw [blkN_pos h0]; exact .inl fun e => hs h0 hn e.symm
theorem law_markTableau (lo : Nat) (a1 : Option Addr) (n1 c1 : Nat) (a2 : Option Addr) (n2 c2 : Nat) (s k : Int) (A B : List Int) (w : World) (h1 : Fr w lo a1 n1 c1 A) (h2 : Fr w lo a2 n2 c2 B) (hs : Sep a1 n1 a2 n2)
    (m1 : n1 ≤ 1048576) (m2 : n2 ≤ 1048576) (k0 : 0 ≤ k) (k1 : k ≤ 1000000000) :
    Calls Tryd.prog 8 #[.agg #[.int .i64 s, .slice a1 n1 c1, .slice a2 n2 c2], .int .i64 k] w fun e w' => e = .returned (.int .i64 (k + n1 + n2)) ∧
      Fr w' lo a1 n1 c1 (marks k n1) ∧ Fr w' lo a2 n2 c2 (marks (k + n1) n2) ∧ ∃ wa wb, wa = w.alloc (.cells #[.int .i64 s, .slice a1 n1 c1, .slice a2 n2 c2] 24) ∧ wa.grownBy wb (blkN a1 n1) ∧ wb.grownBy w' (blkN a2 n2) := by
  have H1 := hid h1
  have H2 := hid h2
  clear h1 h2
  go_enter Tryd.func8, Tryd.ntmps8
  go_wp2_with fail
  refine (law_markIntS lo _ _ _ A _ _ (H1.out.alloc _) m1 k0 (by omega)).mono ?_
  rintro e w1 ⟨rfl, hF, hG⟩
  have HF := hid hF
  have HG := hid hG
  have hlt : some w.heap.size ≠ blkN a1 n1 := by
    intro e
    unfold blkN at e
    split at e
    · cases e
    · obtain ⟨b, o, ea, hc⟩ := H1.out.rd.cell 0 (by omega)
      subst ea
      have := World.block_lt_of_cell? w _ hc
      simp [blk] at e
      simp at this
      omega
  obtain ⟨⟨q0, q1, q2⟩, _⟩ := blk3 ((hG.block w.heap.size (by simp) hlt).trans (heap_alloc_at _ _ _ _ rfl))
  clear hF hG
  go_wp2_with fail
  refine (law_markIntS lo _ _ _ B _ _ ((H2.out.alloc _).grownN HG.out hs) m2 (by omega) (by omega)).mono ?_
  rintro e w2 ⟨rfl, hF, hG⟩
  have HF2 := hid hF
  have HG2 := hid hG
  clear hF hG
  go_wp2_with fail
  go_ret
  exact ⟨rfl, HF.out.grownN HG2.out (fun x y e => hs y x e.symm), HF2.out, _, _, rfl, HG.out, HG2.out⟩
end Go.Proofs.YthebegfceaehfaaDoor

/- Fmt: Numbers as texts: the walks. -/
namespace Go.Proofs.YthebegfceaehfaaDoor
open Go.RowKit

theorem ret_s {a b : ByteArray} (h : a = b) : Ending.returned (.string a) = .returned (.string b) := by rw [h]
theorem encode_dgt {n : Nat} (h : n < 10) : Utf8.encode (48 + (n : Int)) = bs [dgt n] := by
  match n, h with
  | 0, _ => rfl
  | 1, _ => rfl
  | 2, _ => rfl
  | 3, _ => rfl
  | 4, _ => rfl
  | 5, _ => rfl
  | 6, _ => rfl
  | 7, _ => rfl
  | 8, _ => rfl
  | 9, _ => rfl
set_option maxRecDepth 20000 in
theorem impl_decimal (k : Nat) : ∀ (n : Nat) (w : World), n < k → n ≤ 1000000271 →
    Calls Tryd.prog 89 #[.int .i64 n] w fun e w' => e = .returned (.string (bs (decN n))) ∧ w = w' := by
  induction k with
  | zero => intro n w h; omega
  | succ k ih =>
    intro n w hk hn
    by_cases h : n < 10
    · have hi : (n : Int) < 10 := by omega
      have E := hid (encode_dgt h)
      have D := hid (decN_lo h)
      go_enter Tryd.func89, Tryd.ntmps89
      go_wp2_with fail
      go_ret
      exact ⟨ret_s (by rw [E.out, D.out]), rfl⟩
    · have hi : ¬ (n : Int) < 10 := by omega
      have E := hid (encode_dgt (show n % 10 < 10 by omega))
      have D := hid (decN_hi h)
      have IH := hid ih
      clear ih
      go_enter Tryd.func89, Tryd.ntmps89
      go_wp2_with fail
      refine (show Calls Tryd.prog 89 #[.int .i64 ((n : Int) / 10)] w fun e w' => e = .returned (.string (bs (decN (n / 10)))) ∧ w = w' from by
        rw [show (n : Int) / 10 = ((n / 10 : Nat) : Int) by omega]
        exact IH.out (n / 10) _ (by omega) (by omega)).mono ?_
      rintro e w' ⟨rfl, rfl⟩
      obtain ⟨q, hq⟩ : ∃ q, q = bs (decN (n / 10)) := ⟨_, rfl⟩
      rw [← hq]
      have HQ := hid hq
      have e1 : Utf8.encode (48 + (n : Int) % 10) = bs [dgt (n % 10)] := by rw [← E.out]; simp
      clear hq hk IH E
      obtain ⟨d, hd⟩ : ∃ d, d = bs [dgt (n % 10)] := ⟨_, rfl⟩
      rw [← hd] at e1
      have HD := hid hd
      have hadd := run_string_add_sum (P := Tryd.prog) w q d (by
        rw [HQ.out, HD.out, bs_size, bs_size]
        have := decN_len 10 (n / 10) (by omega) (by omega)
        simp
        omega)
      clear hd hn
      go_wp2_with fail
      go_ret
      exact ⟨ret_s (by rw [HQ.out, D.out, HD.out, bs_append]), rfl⟩
theorem dgt_nat {d : Nat} (h : d < 10) : (dgt d).toNat = 48 + d := by
  unfold dgt
  rw [UInt8.toNat_ofNat']
  omega
def decT (j : Nat) : List UInt8 := if j = 0 then [] else decN j
theorem decT_step {j : Nat} (h : 0 < j) : decT j = decT (j / 10) ++ [dgt (j % 10)] := by
  unfold decT
  rw [if_neg (by omega)]
  by_cases h1 : j < 10
  · rw [decN_lo h1, if_pos (by omega), Nat.mod_eq_of_lt h1]; rfl
  · rw [decN_hi h1, if_neg (by omega)]
set_option maxRecDepth 20000 in
theorem spec_dec_nat (m : Nat) (w : World) (h1 : m ≤ 1000000271) :
    Calls Tryd.prog 22 #[.int .i64 m] w fun e w' => e = .returned (.string (bs (decN m))) ∧ Below w.heap.size w w' := by
  have hm : -(m : Int) ≤ (m : Int) := by omega
  go_enter Tryd.func22, Tryd.ntmps22
  go_wp2_with fail
  clear hm
  go_loopw [3, 4] (fun s k wr => ∃ (j : Nat) (L : List UInt8), k = .int .i64 j ∧ s = .string (bs L) ∧ j ≤ m ∧ Below w.heap.size w wr ∧ Hid (decT j ++ L = decT m)) (fun _ k _ => (intOf k).toNat)
  case atStart => exact ⟨m, [], rfl, rfl, Nat.le_refl _, Below.refl _ _, hid (List.append_nil _)⟩
  case round =>
    obtain ⟨j, L, rfl, rfl, hj, hB, hH⟩ := hrel
    have HB := hid hB
    clear hB
    by_cases hp : 0 < j
    · have hpi : (0 : Int) < (j : Int) := by omega
      obtain ⟨q, hq⟩ : ∃ q, q = bs L := ⟨_, rfl⟩
      obtain ⟨d, hd⟩ : ∃ d, d = bs [dgt (j % 10)] := ⟨_, rfl⟩
      have hcv : (convert 51 9 (.slice (some ⟨wr.heap.size, 0, none⟩) 1 1)).run Tryd.prog (wr.alloc (.cells #[.int .u8 (48 + (j : Int) % 10)] 5)) = .ok (.string d) (wr.alloc (.cells #[.int .u8 (48 + (j : Int) % 10)] 5)) := by
        rw [hd]
        exact run_convert_bytes_back (P := Tryd.prog) (wr.alloc (.cells #[.int .u8 (48 + (j : Int) % 10)] 5)) 51 9 5 ⟨wr.heap.size, 0, none⟩ 1 [dgt (j % 10)] Tryd.underlying51 Tryd.underlying5 Tryd.underlying9 (fun i hi => by
          obtain rfl : i = 0 := by simpa using hi
          simp [Addr.add, dgt_nat (show j % 10 < 10 by omega)])
      have hadd := run_string_add_sum (P := Tryd.prog) (wr.alloc (.cells #[.int .u8 (48 + (j : Int) % 10)] 5)) d q (by
        have h1' := congrArg List.length hH.out
        have h2' : (decT m).length ≤ 10 := by unfold decT; split; simp; exact decN_len 10 m (by omega) (by omega)
        rw [hq, hd, bs_size, bs_size]
        simp at h1' ⊢
        omega)
      have HQ := hid hq
      have HD := hid hd
      rw [← hq]
      clear hq hd
      go_wp2_with fail
      go_roundw
      case rel =>
        refine ⟨j / 10, dgt (j % 10) :: L, congrArg (Value.int .i64) (by omega), by rw [HQ.out, HD.out, bs_append]; rfl, by omega, HB.out.alloc HB.out.size _, hid ?_⟩
        rw [← hH.out, decT_step hp, List.append_assoc]
        rfl
      case measure => simp [intOf]; omega
    · obtain rfl : j = 0 := by omega
      have HL := hid (show L = decT m from hH.out)
      by_cases h0 : m = 0
      · subst h0
        go_wp2_with fail
        go_ret
        exact ⟨ret_s (by rw [decN_lo (by omega)]; rfl), HB.out⟩
      · have hq0 : ((m : Int) == 0) = false := by simpa using h0
        have hlt : ¬ (m : Int) < 0 := by omega
        go_wp2_with fail
        go_ret
        exact ⟨ret_s (by rw [HL.out]; unfold decT; rw [if_neg h0]), HB.out⟩
set_option maxRecDepth 20000 in
theorem spec_dec_neg (m : Nat) (w : World) (h1 : m ≤ 1000000271) (hpos : 0 < m) :
    Calls Tryd.prog 22 #[.int .i64 (-(m : Int))] w fun e w' => e = .returned (.string (bs (45 :: decN m))) ∧ Below w.heap.size w w' := by
  have hm : -(m : Int) < (m : Int) := by omega
  go_enter Tryd.func22, Tryd.ntmps22
  go_wp2_with fail
  clear hm
  go_loopw [3, 4] (fun s k wr => ∃ (j : Nat) (L : List UInt8), k = .int .i64 j ∧ s = .string (bs L) ∧ j ≤ m ∧ Below w.heap.size w wr ∧ Hid (decT j ++ L = decT m)) (fun _ k _ => (intOf k).toNat)
  case atStart => exact ⟨m, [], rfl, rfl, Nat.le_refl _, Below.refl _ _, hid (List.append_nil _)⟩
  case round =>
    obtain ⟨j, L, rfl, rfl, hj, hB, hH⟩ := hrel
    have HB := hid hB
    clear hB
    by_cases hp : 0 < j
    · have hpi : (0 : Int) < (j : Int) := by omega
      obtain ⟨q, hq⟩ : ∃ q, q = bs L := ⟨_, rfl⟩
      obtain ⟨d, hd⟩ : ∃ d, d = bs [dgt (j % 10)] := ⟨_, rfl⟩
      have hcv : (convert 51 9 (.slice (some ⟨wr.heap.size, 0, none⟩) 1 1)).run Tryd.prog (wr.alloc (.cells #[.int .u8 (48 + (j : Int) % 10)] 5)) = .ok (.string d) (wr.alloc (.cells #[.int .u8 (48 + (j : Int) % 10)] 5)) := by
        rw [hd]
        exact run_convert_bytes_back (P := Tryd.prog) (wr.alloc (.cells #[.int .u8 (48 + (j : Int) % 10)] 5)) 51 9 5 ⟨wr.heap.size, 0, none⟩ 1 [dgt (j % 10)] Tryd.underlying51 Tryd.underlying5 Tryd.underlying9 (fun i hi => by
          obtain rfl : i = 0 := by simpa using hi
          simp [Addr.add, dgt_nat (show j % 10 < 10 by omega)])
      have hadd := run_string_add_sum (P := Tryd.prog) (wr.alloc (.cells #[.int .u8 (48 + (j : Int) % 10)] 5)) d q (by
        have h1' := congrArg List.length hH.out
        have h2' : (decT m).length ≤ 10 := by unfold decT; split; simp; exact decN_len 10 m (by omega) (by omega)
        rw [hq, hd, bs_size, bs_size]
        simp at h1' ⊢
        omega)
      have HQ := hid hq
      have HD := hid hd
      rw [← hq]
      clear hq hd
      go_wp2_with fail
      go_roundw
      case rel =>
        refine ⟨j / 10, dgt (j % 10) :: L, congrArg (Value.int .i64) (by omega), by rw [HQ.out, HD.out, bs_append]; rfl, by omega, HB.out.alloc HB.out.size _, hid ?_⟩
        rw [← hH.out, decT_step hp, List.append_assoc]
        rfl
      case measure => simp [intOf]; omega
    · obtain rfl : j = 0 := by omega
      have HL := hid (show L = decT m from hH.out)
      have hq0 : (-(m : Int) == 0) = false := by simp; omega
      have hq1 : ((m : Int) == 0) = false := by simp; omega
      have hlt : -(m : Int) < 0 := by omega
      have hlt' : 0 < (m : Int) := by omega
      obtain ⟨q, hq⟩ : ∃ q, q = bs L := ⟨_, rfl⟩
      have hadd := run_string_add_sum (P := Tryd.prog) wr ⟨#[45]⟩ q (by
        have h2' : (decT m).length ≤ 10 := by unfold decT; split; simp; exact decN_len 10 m (by omega) (by omega)
        rw [hq, bs_size, HL.out]
        show 1 + _ ≤ _
        omega)
      have HQ := hid hq
      rw [← hq]
      clear hq
      go_wp2_with fail
      go_ret
      exact ⟨ret_s (by rw [HQ.out, HL.out, show decT m = decN m from if_neg (by omega)]; exact bs_append [45] (decN m)), HB.out⟩
theorem spec_l1Decimal (n : Int) (w : World) (h0 : -1000000271 ≤ n) (h1 : n ≤ 1000000271) :
    Calls Tryd.prog 22 #[.int .i64 n] w fun e w' => e = .returned (.string (bs (decI n))) ∧ Below w.heap.size w w' := by
  by_cases hn : n < 0
  · obtain ⟨m, rfl⟩ : ∃ m : Nat, n = -(m : Int) := ⟨n.natAbs, by omega⟩
    have e : decI (-(m : Int)) = 45 :: decN m := by unfold decI; rw [if_pos hn, show (-(m : Int)).natAbs = m by omega]
    rw [e]
    exact spec_dec_neg m w (by omega) (by omega)
  · obtain ⟨m, rfl⟩ := Int.eq_ofNat_of_zero_le (show 0 ≤ n by omega)
    have e : decI (m : Int) = decN m := by unfold decI; rw [if_neg hn, Int.toNat_natCast]
    rw [e]
    exact spec_dec_nat m w (by omega)
end Go.Proofs.YthebegfceaehfaaDoor
