/- The law's own helpers: sizes, copies, comparisons, marks. -/
import Derived.Test.YtekojohhjnklkaaMem
import Derived.Deep.QuietTactic
import Derived.BigQuiet
import Derived.WalkSmall
namespace Go.Proofs.Ytekojohhjnklkaa
open Go.RowKit

theorem Below.drewN' {B : Nat} {a w : World} (h : Below B a w) (n : Nat) : Below B a (w.drewN n) := ⟨h.os, h.tape, h.output, h.size, h.block⟩

/-- A slice of the call's own: it reads as xs, it may be written, its block is not below lo. -/
structure Fr (w : World) (lo : Nat) (ao : Option Addr) (n c : Nat) (xs : List Int) : Prop where
  rd : Rd w ao n c xs
  own : ∀ b o s, ao = some ⟨b, o, s⟩ → 0 < n → lo ≤ b ∧ ∀ i, i < n → w.frozen? ⟨b, o + i, none⟩ = false

theorem Fr.keep {w w' : World} {lo : Nat} {ao : Option Addr} {n c : Nat} {xs : List Int} (h : Fr w lo ao n c xs)
    (hk : ∀ b o, 0 < n → ao = some ⟨b, o, none⟩ → b < w.heap.size → w'.heap[b]? = w.heap[b]?) : Fr w' lo ao n c xs :=
  ⟨h.rd.keep hk, fun b o s e hn => by
    obtain ⟨h1, h2⟩ := h.own b o s e hn
    obtain ⟨b', o', e', hc⟩ := h.rd.cell 0 hn
    rw [e] at e'
    simp only [Option.some.injEq, Addr.mk.injEq] at e'
    obtain ⟨rfl, rfl, rfl⟩ := e'
    have hbl : b < w.heap.size := World.block_lt_of_cell? w _ hc
    refine ⟨h1, fun i hi => ?_⟩
    exact (World.frozen?_of_block (w := w) (a := ⟨b, o + i, none⟩) (hk _ _ hn e hbl)).trans (h2 i hi)⟩
theorem Fr.below {w w' : World} {lo : Nat} {ao : Option Addr} {n c : Nat} {xs : List Int} (h : Fr w lo ao n c xs) (hb : Below w.heap.size w w') : Fr w' lo ao n c xs :=
  h.keep fun b _ _ _ hl => hb.block b hl
theorem Fr.mono {w : World} {lo lo' : Nat} {ao : Option Addr} {n c : Nat} {xs : List Int} (h : Fr w lo ao n c xs) (hl : lo' ≤ lo) : Fr w lo' ao n c xs :=
  ⟨h.rd, fun b o s e hn => ⟨Nat.le_trans hl (h.own b o s e hn).1, (h.own b o s e hn).2⟩⟩

theorem Fr.alloc {w : World} {lo : Nat} {ao : Option Addr} {n c : Nat} {xs : List Int} (h : Fr w lo ao n c xs) (o : Obj) : Fr (w.alloc o) lo ao n c xs :=
  h.below ((Below.refl _ _).alloc (Nat.le_refl _) o)
theorem getD_set (xs : List Int) (k i : Nat) (x : Int) (hk : k < xs.length) : (xs.set k x).getD i 0 = if i = k then x else xs.getD i 0 := by
  simp only [List.getD_eq_getElem?_getD, List.getElem?_set]
  by_cases h : i = k
  · subst h; simp [hk]
  · rw [if_neg h, if_neg (fun e => h e.symm)]
/-- A store into a slice of the call's own. -/
theorem Fr.store {w : World} {lo : Nat} {b o n c : Nat} {xs : List Int} (h : Fr w lo (some ⟨b, o, none⟩) n c xs) {k : Nat} (hk : k < n) {x : Int} (hx : I64 x) :
    Fr (w.setCell ⟨b, o + k, none⟩ (.int .i64 x)) lo (some ⟨b, o, none⟩) n c (xs.set k x) := by
  have hl := h.rd.len
  refine ⟨⟨by rw [List.length_set]; exact hl, h.rd.cap, h.rd.max, fun i hi => ?_, fun y hy => ?_⟩, fun b' o' s e hn => ?_⟩
  · refine ⟨b, o, rfl, ?_⟩
    obtain ⟨b', o', e, hc⟩ := h.rd.cell i hi
    simp only [Option.some.injEq, Addr.mk.injEq, and_true] at e
    obtain ⟨rfl, rfl⟩ := e
    rw [getD_set _ _ _ _ (by omega)]
    by_cases e : i = k
    · subst e
      rw [if_pos rfl]
      exact World.cell?_setCell_same _ _ _ hc
    · rw [if_neg e, World.cell?_setCell_other _ _ _ _ (by intro e'; simp only [Addr.mk.injEq] at e'; omega)]
      exact hc
  · rcases List.mem_or_eq_of_mem_set hy with h1 | h1
    · exact h.rd.wf y h1
    · exact h1 ▸ hx
  · obtain ⟨h1, h2⟩ := h.own b' o' s e hn
    exact ⟨h1, fun i hi => by rw [World.frozen?_setCell]; exact h2 i hi⟩
theorem grown_setCell (w : World) (b k : Nat) (v : Value) : w.grownBy (w.setCell ⟨b, k, none⟩ v) (some b) :=
  ⟨rfl, rfl, rfl, by simp, fun j _ hj => heap_setCell_other w ⟨b, k, none⟩ j v (fun e => hj (by simp [e]))⟩
theorem grown_trans {a b c : World} {r : Option Nat} (h : a.grownBy b r) (k : b.grownBy c r) : a.grownBy c r :=
  ⟨k.os.trans h.os, k.tape.trans h.tape, k.output.trans h.output, Nat.le_trans h.size k.size, fun i hi hr => (k.block i (Nat.lt_of_lt_of_le hi h.size) hr).trans (h.block i hi hr)⟩
/-- The block of a slice's address. -/
def blk (ao : Option Addr) : Option Nat := ao.map (·.block)
/-- The block that a mark writes: none for an empty slice. -/
def blkN (ao : Option Addr) (n : Nat) : Option Nat := if n = 0 then none else blk ao
theorem blkN_pos {ao : Option Addr} {n : Nat} (h : 0 < n) : blkN ao n = blk ao := if_neg (by omega)
/-- What another block's row keeps while block r is written. -/
theorem Fr.grown {w w' : World} {lo : Nat} {ao : Option Addr} {n c : Nat} {xs : List Int} (h : Fr w lo ao n c xs) {r : Option Nat} (hg : w.grownBy w' r) (hne : 0 < n → blk ao ≠ r ∨ r = none) : Fr w' lo ao n c xs :=
  h.keep fun b o hn e hl => hg.block b hl (by
    subst e
    rcases hne hn with h1 | h1
    · exact h1
    · rw [h1]; simp)
theorem Rd.grown {w w' : World} {ao : Option Addr} {n c : Nat} {xs : List Int} (h : Rd w ao n c xs) {r : Option Nat} (hg : w.grownBy w' r) (hne : 0 < n → blk ao ≠ r ∨ r = none) : Rd w' ao n c xs :=
  h.keep fun b o hn e hl => hg.block b hl (by
    subst e
    rcases hne hn with h1 | h1
    · exact h1
    · rw [h1]; simp)

/-- From the kit's word on a row of the call's own. -/
theorem Fr.of_owns {w : World} {base n : Nat} {v : Value} {xs : List Int} (h : w.ownsRow base 3 1 v n (xs.map (Value.int .i64))) (hw : ∀ x ∈ xs, I64 x) :
    ∃ ao c, v = .slice ao n c ∧ Fr w base ao n c xs := by
  obtain ⟨h1, h2⟩ := h
  have hlen : xs.length = n := by simpa using h1
  rcases h2 with ⟨rfl, rfl⟩ | ⟨g, cap, cur, rfl, hb, hg, hnc, hcm, hcs, htake⟩
  · obtain rfl : xs = [] := List.eq_nil_of_length_eq_zero hlen
    exact ⟨none, 0, rfl, Rd.nil _ _ _ (by omega), fun b o s e => by cases e⟩
  · refine ⟨some ⟨g, 0, none⟩, cap, rfl, ⟨hlen, hnc, by unfold maxLen at hcm; omega, fun i hi => ⟨g, 0, rfl, ?_⟩, hw⟩, fun b o s e hn => ?_⟩
    · rw [Nat.zero_add, cell_of_row w g i cur _ _ hg, ← Array.getElem?_toList]
      have e : (cur.toList.take (n * 1))[i]? = (xs.map (Value.int .i64))[i]? := by rw [htake]
      rw [List.getElem?_take, if_pos (by omega)] at e
      rw [e, List.getElem?_map]
      simp [List.getD, show i < xs.length by omega]
    · simp only [Option.some.injEq, Addr.mk.injEq] at e
      obtain ⟨rfl, rfl, rfl⟩ := e
      exact ⟨hb, fun i _ => frozen_of_row w g _ cur _ hg⟩

theorem info_int : (Try.prog.info? 3).map (fun i => (i.zero, i.size, i.bytes)) = some (some (.int .i64 0), 1, 8) := by kernel_rfl
/-- 'make([]int, n)'. -/
theorem wpList_make_ints (w : World) {ops : Array Oper} {rest : List Oper} {o : Oper} {a : Act} {Q : Exit → Act → World → Prop}
    (hg : o.guard = none) (l c : Operand) (hop : o.op = Op.makeSlice 22 l c) (n : Nat) (hl : a.eval l = .int .i64 (n : Int)) (hc : a.eval c = .int .i64 (n : Int)) (hn : n ≤ 2097152)
    (hK : ∀ w1, Below w.heap.size w w1 → w.heap.size < w1.heap.size → Fr w1 w.heap.size (some ⟨w.heap.size, 0, none⟩) n n (List.replicate n 0) → wpList Try.prog ops Q rest (a.put o.dst (.slice (some ⟨w.heap.size, 0, none⟩) n n)) w1) :
    wpList Try.prog ops Q (o :: rest) a w := by
  obtain ⟨i, hi, hz0, hz1, hz2⟩ := info_parts info_int
  refine wpList_make_full w hg l c 22 hop w.heap.size 3 i (.int .i64 0) 1 Try.underlying22 hi hz0 hz1 .i64 .i64 n n n hl hc rfl rfl (by rw [hz2]; omega) (by unfold maxLen; omega) (Nat.le_refl _) ?_
  intro w' hown hgr
  have hB : Below w.heap.size w w' := (Below.refl _ _).grown hgr (Nat.le_refl _) (fun k hk => by cases hk)
  have e : (madeCells (Value.int .i64 0).cells (n * 1)).toList = (List.replicate n (0 : Int)).map (Value.int .i64) := by
    rw [show (Value.int .i64 0).cells = #[Value.int .i64 0] from rfl, Nat.mul_one, toList_madeCells_one, List.map_replicate]
  rw [e] at hown
  obtain ⟨ao, c', hv, hF⟩ := Fr.of_owns hown (fun x hx => by rw [(List.mem_replicate.1 hx).2]; exact ⟨by decide, by decide⟩)
  simp only [Value.slice.injEq] at hv
  obtain ⟨rfl, _, rfl⟩ := hv
  rcases hown.2 with ⟨h1, _⟩ | ⟨g, cap, cur, h1, _, hg', _⟩
  · simp at h1
  · simp only [Value.slice.injEq, Option.some.injEq, Addr.mk.injEq, and_true, true_and] at h1
    obtain ⟨rfl, _⟩ := h1
    exact hK w' hB (Array.getElem?_eq_some_iff.1 hg').1 hF

theorem eqL_step {xs ys : List Int} {k : Nat} {x y : Int} (h : k < xs.length) (h' : k < ys.length) (ha : xs.take k = ys.take k) (ex : x = xs.getD k 0) (ey : y = ys.getD k 0) (e : x = y) : xs.take (k + 1) = ys.take (k + 1) := by
  rw [take_snoc 0 xs k h, take_snoc 0 ys k h', ha, ← ex, ← ey, e]
theorem eqL_stop {xs ys : List Int} {k : Nat} {x y : Int} (ex : x = xs.getD k 0) (ey : y = ys.getD k 0) (e : x ≠ y) : decide (xs = ys) = false := by
  rw [decide_eq_false_iff_not]
  intro h
  subst h
  exact e (ex.trans ey.symm)

theorem law_eqIntS (ao : Option Addr) (n c : Nat) (xs : List Int) (bo : Option Addr) (m d : Nat) (ys : List Int) (w : World) (hr : Rd w ao n c xs) (hs : Rd w bo m d ys) :
    Calls Try.prog 22 #[.slice ao n c, .slice bo m d] w fun e w' => e = .returned (.bool (decide (xs = ys))) ∧ Below w.heap.size w w' := by
  have hn : n ≤ 9223372036854775807 := Nat.le_trans hr.cap hr.max
  have hm : m ≤ 9223372036854775807 := Nat.le_trans hs.cap hs.max
  have HR := hid hr
  have HS := hid hs
  clear hr hs
  by_cases hnm : n = m
  · subst hnm
    go_enter Try.func22, Try.ntmps22
    go_wp2
    go_loopw [5] (fun i wr => ∃ k : Nat, i = .int .i64 k ∧ k ≤ n ∧ Hid (xs.take k = ys.take k) ∧ Below w.heap.size w wr) (fun i _ => n - (intOf i).toNat)
    case atStart => exact ⟨0, rfl, Nat.zero_le _, hid rfl, Below.refl _ _⟩
    case round =>
      obtain ⟨k, rfl, hk, hA, hB⟩ := hrel
      have HB := hid hB
      clear hB
      by_cases hlt : k < n
      · obtain ⟨b, o, x, rfl, hc, _, _, hx⟩ := (HR.out.below HB.out).at hlt
        obtain ⟨b2, o2, y, rfl, hc2, _, _, hy⟩ := (HS.out.below HB.out).at hlt
        have hki : (k : Int) < (n : Int) := by omega
        cases hb : (x != y) with
        | true =>
          go_wp2
          go_quiet (fail)
          go_wp2
          go_ret
          exact ⟨ret_b (eqL_stop hx.out hy.out (bne_iff_ne.1 hb)).symm, Below.drewN' HB.out _⟩
        | false =>
          go_wp2
          go_quiet (fail)
          go_wp2
          go_roundw
          case rel => exact ⟨k + 1, by go_num, by omega, hid (eqL_step (by rw [HR.out.len]; exact hlt) (by rw [HS.out.len]; exact hlt) hA.out hx.out hy.out (bne_eq_false_iff_eq.1 hb)), Below.drewN' HB.out _⟩
          case measure => simp [intOf]; omega
      · obtain rfl : k = n := by omega
        go_wp2
        go_ret
        have e : xs = ys := by
          have := hA.out
          rw [← HR.out.len, List.take_length, HR.out.len, ← HS.out.len, List.take_length] at this
          exact this
        exact ⟨ret_b (decide_eq_true e).symm, HB.out⟩
  · have hne : ((n : Int) != (m : Int)) = true := by rw [bne_iff_ne]; omega
    go_enter Try.func22, Try.ntmps22
    go_wp2
    go_ret
    exact ⟨ret_b (decide_eq_false fun e => hnm (by rw [← HR.out.len, ← HS.out.len, e])).symm, Below.refl _ _⟩

theorem law_eqIntS_true (ao : Option Addr) (n c : Nat) (bo : Option Addr) (m d : Nat) (xs : List Int) (w : World) (hr : Rd w ao n c xs) (hs : Rd w bo m d xs) :
    Calls Try.prog 22 #[.slice ao n c, .slice bo m d] w fun e w' => e = .returned (.bool true) ∧ Below w.heap.size w w' :=
  (law_eqIntS ao n c xs bo m d xs w hr hs).mono fun e w' ⟨h1, h2⟩ => ⟨by rw [h1, decide_eq_true rfl], h2⟩
/-! ### copies -/
theorem copy_step {xs : List Int} {n k : Nat} {x : Int} (h : k < xs.length) (hn : xs.length = n) (e : x = xs.getD k 0) : (xs.take k ++ List.replicate (n - k) 0).set k x = xs.take (k + 1) ++ List.replicate (n - (k + 1)) 0 := by
  subst e
  rw [take_snoc 0 xs k h, List.set_append_right _ _ (by rw [List.length_take]; omega), List.length_take, show k - min k xs.length = 0 by omega, show n - k = (n - (k + 1)) + 1 by omega, List.replicate_succ, List.set_cons_zero, List.append_assoc]
  rfl
theorem law_toIntS (ao : Option Addr) (n c : Nat) (xs : List Int) (w : World) (hr : Rd w ao n c xs) (hn : n ≤ 1048576) :
    Calls Try.prog 42 #[.slice ao n c] w fun e w' => e = .returned (.slice (some ⟨w.heap.size, 0, none⟩) n n) ∧ Below w.heap.size w w' ∧ w.heap.size < w'.heap.size ∧ Fr w' w.heap.size (some ⟨w.heap.size, 0, none⟩) n n xs := by
  have HR := hid hr
  clear hr
  go_enter Try.func42, Try.ntmps42
  go_wp2_with (at_make; refine wpList_make_ints _ rfl _ _ rfl n rfl rfl (by omega) ?_; intro w1 hB hS hF)
  have HB := hid hB
  have HF := hid hF
  have HS := hid hS
  clear hB hF hS
  go_loopw [4] (fun i wr => ∃ k : Nat, i = .int .i64 k ∧ k ≤ n ∧ Below w.heap.size w wr ∧ Hid (w.heap.size < wr.heap.size) ∧ Hid (Fr wr w.heap.size (some ⟨w.heap.size, 0, none⟩) n n (xs.take k ++ List.replicate (n - k) 0))) (fun i _ => n - (intOf i).toNat)
  case atStart => exact ⟨0, rfl, Nat.zero_le _, HB.out, HS, hid (by simpa using HF.out)⟩
  case round =>
    obtain ⟨k, rfl, hk, hB, hS, hF⟩ := hrel
    have HB := hid hB
    clear hB
    by_cases hlt : k < n
    · obtain ⟨b, o, x, rfl, hc, h1, h2, hx⟩ := (HR.out.below HB.out).at hlt
      obtain ⟨b2, o2, y, e2, hc2, _, _, _⟩ := hF.out.rd.at hlt
      simp only [Option.some.injEq, Addr.mk.injEq, and_true] at e2
      obtain ⟨rfl, rfl⟩ := e2
      have hfz := (hF.out.own _ _ _ rfl (by omega)).2 k hlt
      simp only [Nat.zero_add] at hc2 hfz
      go_wp2
      go_roundw
      case rel =>
        have hst := hF.out.store hlt (x := x) ⟨h1, h2⟩
        rw [Nat.zero_add] at hst
        rw [copy_step (by rw [HR.out.len]; exact hlt) HR.out.len hx.out] at hst
        exact ⟨k + 1, by go_num, by omega, HB.out.setCell (Nat.le_refl _) _, hid (by rw [World.size_setCell]; exact hS.out), hid hst⟩
      case measure => simp [intOf]; omega
    · obtain rfl : k = n := by omega
      go_wp2
      go_ret
      have e : xs.take k ++ List.replicate (k - k) 0 = xs := by rw [Nat.sub_self, List.replicate_zero, List.append_nil, ← HR.out.len, List.take_length]
      have hF' := hF.out
      rw [e] at hF'
      exact ⟨rfl, HB.out, hS.out, hF'⟩

/-! ### marks -/
def marks (k : Int) (n : Nat) : List Int := (List.range n).map fun (i : Nat) => k + (i : Int)
theorem marks_len (k : Int) (n : Nat) : (marks k n).length = n := by simp [marks]
theorem marks_at (k : Int) (n j : Nat) (h : j < n) : (marks k n).getD j 0 = k + j := by
  simp [marks, List.getD, h]
theorem mark_step {xs : List Int} {k : Int} {j n : Nat} (hn : xs.length = n) (h : j < n) : (marks k j ++ xs.drop j).set j (k + j) = marks k (j + 1) ++ xs.drop (j + 1) := by
  rw [List.set_append_right _ _ (by rw [marks_len]; exact Nat.le_refl _), marks_len, Nat.sub_self, drop_cons 0 xs j (by omega), List.set_cons_zero]
  unfold marks
  rw [List.range_succ, List.map_append, List.append_assoc]
  rfl
theorem law_markIntS (lo : Nat) (ao : Option Addr) (n c : Nat) (xs : List Int) (k : Int) (w : World) (hr : Fr w lo ao n c xs) (hn : n ≤ 1048576) (h0 : 0 ≤ k) (h1 : k ≤ 1000000000000) :
    Calls Try.prog 23 #[.slice ao n c, .int .i64 k] w fun e w' => e = .returned (.int .i64 (k + n)) ∧ Fr w' lo ao n c (marks k n) ∧ w.grownBy w' (blkN ao n) := by
  have HR := hid hr
  clear hr
  go_enter Try.func23, Try.ntmps23
  go_wp2
  go_loopw [1, 5] (fun kv i wr => ∃ j : Nat, i = .int .i64 j ∧ kv = .int .i64 (k + j) ∧ j ≤ n ∧ Hid (w.grownBy wr (blkN ao n)) ∧ Hid (Fr wr lo ao n c (marks k j ++ xs.drop j))) (fun _ i _ => n - (intOf i).toNat)
  case atStart => exact ⟨0, rfl, by go_num, Nat.zero_le _, hid (World.grownBy.refl _ _), hid (by simpa [marks] using HR.out)⟩
  case round =>
    obtain ⟨j, rfl, rfl, hj, hG, hF⟩ := hrel
    by_cases hlt : j < n
    · obtain ⟨b, o, y, rfl, hc2, _, _, _⟩ := hF.out.rd.at hlt
      have hfz := (hF.out.own _ _ _ rfl (by omega)).2 j hlt
      go_wp2
      go_roundw
      case rel =>
        have hst := hF.out.store hlt (x := k + j) ⟨by omega, by omega⟩
        rw [mark_step HR.out.rd.len hlt] at hst
        exact ⟨j + 1, by go_num, by go_num, by omega, hid (grown_trans hG.out (by rw [blkN_pos (by omega)]; exact grown_setCell _ _ _ _)), hid hst⟩
      case measure => simp [intOf]; omega
    · obtain rfl : j = n := by omega
      go_wp2
      go_ret
      have hF' := hF.out
      rw [show xs.drop j = [] from List.drop_eq_nil_of_le (by rw [HR.out.rd.len]; exact Nat.le_refl _), List.append_nil] at hF'
      exact ⟨rfl, hF', hG.out⟩
theorem law_heldIntS (ao : Option Addr) (n c : Nat) (k : Int) (w : World) (hr : Rd w ao n c (marks k n)) (hn : n ≤ 1048576) (h0 : 0 ≤ k) (h1 : k ≤ 1000000000000) :
    Calls Try.prog 24 #[.slice ao n c, .int .i64 k] w fun e w' => e = .returned (.int .i64 (k + n)) ∧ w = w' := by
  have HR := hid hr
  clear hr
  go_enter Try.func24, Try.ntmps24
  go_wp2
  go_loop [1, 5] (fun kv i => ∃ j : Nat, i = .int .i64 j ∧ kv = .int .i64 (k + j) ∧ j ≤ n) (fun _ i => n - (intOf i).toNat)
  case atStart => exact ⟨0, rfl, by go_num, Nat.zero_le _⟩
  case round =>
    obtain ⟨j, rfl, rfl, hj⟩ := hrel
    by_cases hlt : j < n
    · obtain ⟨b, o, y, rfl, hc, _, _, hy⟩ := HR.out.at hlt
      obtain rfl : y = k + j := hy.out.trans (marks_at k n j hlt)
      clear hy
      have hq : ((k + (j : Int)) != (k + (j : Int))) = false := by simp
      go_wp2
      go_round
      case rel => exact ⟨j + 1, by go_num, by go_num, by omega⟩
      case measure => simp [intOf]; omega
    · obtain rfl : j = n := by omega
      go_wp2
      go_ret
      exact ⟨rfl, rfl⟩

/-! ### sizes -/
theorem law_szIntS_yes (ao : Option Addr) (n c : Nat) (left : Int) (w : World) (h : (n : Int) ≤ left) (hl : left ≤ 1048576) :
    Calls Try.prog 48 #[.slice ao n c, .int .i64 left] w fun e w' => e = .returned (.int .i64 (left - n)) ∧ w = w' := by
  go_enter Try.func48, Try.ntmps48
  go_wp2
  go_ret
  exact ⟨rfl, rfl⟩
theorem law_szIntS_no (ao : Option Addr) (n c : Nat) (left : Int) (w : World) (hn : n ≤ 9223372036854775807) (h : left < n) (h0 : 0 ≤ left) :
    Calls Try.prog 48 #[.slice ao n c, .int .i64 left] w fun e w' => e = .returned (.int .i64 (-1)) ∧ w = w' := by
  go_enter Try.func48, Try.ntmps48
  go_wp2
  go_ret
  exact ⟨rfl, rfl⟩
end Go.Proofs.Ytekojohhjnklkaa
