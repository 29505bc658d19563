/- Merged texts: Mat, RedP, Gr, Sys. -/
import Derived.Test.YthebegfceaehfaaDoorKt4
import Derived.Test.YthebegfceaehfaaDoorKt11
import Derived.Test.YthebegfceaehfaaDoorKt8
/- Mat: A matrix in memory: rows of numbers of the call's own, each in its block. -/
namespace Go.Proofs.YthebegfceaehfaaDoor
open Go.RowKit

structure Mat (w : World) (base top ob n W : Nat) (hb hc : Nat → Nat) (m : Nat → Nat → Int) : Prop where
  lo : base ≤ ob ∧ ob < top
  tp : top ≤ w.heap.size
  out : ∀ i, i < n → w.cell? ⟨ob, i, none⟩ = some (.slice (some ⟨hb i, 0, none⟩) W (hc i)) ∧ w.frozen? ⟨ob, i, none⟩ = false
  row : ∀ i, i < n → ∀ j, j < W → w.cell? ⟨hb i, j, none⟩ = some (.int .i64 (m i j)) ∧ w.frozen? ⟨hb i, j, none⟩ = false
  num : ∀ i j, i < n → j < W → M.num (m i j)
  own : ∀ i, i < n → (base ≤ hb i ∧ hb i < top) ∧ hb i ≠ ob ∧ W ≤ hc i ∧ hc i ≤ 9223372036854775807
  inj : ∀ i k, i < n → k < n → hb i = hb k → i = k
def setM (m : Nat → Nat → Int) (i j : Nat) (x : Int) : Nat → Nat → Int := fun a b => if a = i ∧ b = j then x else m a b
section
variable {w w' : World} {base top ob n W : Nat} {hb hc : Nat → Nat} {m : Nat → Nat → Int}
theorem Mat.keep (h : Mat w base top ob n W hb hc m) (ht : top ≤ w'.heap.size) (hk : ∀ b, b < top → w'.heap[b]? = w.heap[b]?) : Mat w' base top ob n W hb hc m :=
  ⟨h.lo, ht, fun i hi => ⟨(World.cell?_of_block (hk _ h.lo.2)).trans (h.out i hi).1, (World.frozen?_of_block (hk _ h.lo.2)).trans (h.out i hi).2⟩,
    fun i hi j hj => ⟨(World.cell?_of_block (hk _ (h.own i hi).1.2)).trans (h.row i hi j hj).1, (World.frozen?_of_block (hk _ (h.own i hi).1.2)).trans (h.row i hi j hj).2⟩, h.num, h.own, h.inj⟩
theorem Mat.below (h : Mat w base top ob n W hb hc m) (hB : Below w.heap.size w w') : Mat w' base top ob n W hb hc m :=
  h.keep (Nat.le_trans h.tp hB.size) fun b hb' => hB.block b (Nat.lt_of_lt_of_le hb' h.tp)
/-- An append into a block past the top. -/
theorem Mat.grown (h : Mat w base top ob n W hb hc m) {r : Option Nat} (hg : w.grownBy w' r) (hr : ∀ k, r = some k → top ≤ k) : Mat w' base top ob n W hb hc m :=
  h.keep (Nat.le_trans h.tp hg.size) fun b hb' => hg.block b (Nat.lt_of_lt_of_le hb' h.tp) (fun e => by have := hr b e.symm; omega)
theorem Mat.congr {m' : Nat → Nat → Int} (h : Mat w base top ob n W hb hc m) (he : ∀ i j, i < n → j < W → m i j = m' i j) : Mat w base top ob n W hb hc m' :=
  ⟨h.lo, h.tp, h.out, fun i hi j hj => he i j hi hj ▸ h.row i hi j hj, fun i j hi hj => he i j hi hj ▸ h.num i j hi hj, h.own, h.inj⟩
theorem Mat.set (h : Mat w base top ob n W hb hc m) {i j : Nat} {x : Int} (hi : i < n) (hj : j < W) (hx : M.num x) :
    Mat (w.setCell ⟨hb i, j, none⟩ (.int .i64 x)) base top ob n W hb hc (setM m i j x) := by
  refine ⟨h.lo, by rw [World.size_setCell]; exact h.tp, fun a ha => ?_, fun a ha b hb' => ?_, fun a b ha hb' => ?_, h.own, h.inj⟩
  · rw [World.cell?_setCell_other _ _ _ _ (by intro e; simp only [Addr.mk.injEq] at e; exact (h.own i hi).2.1 e.1), World.frozen?_setCell]
    exact h.out a ha
  · rw [World.frozen?_setCell]
    refine ⟨?_, (h.row a ha b hb').2⟩
    unfold setM
    by_cases e : a = i ∧ b = j
    · obtain ⟨rfl, rfl⟩ := e
      rw [if_pos ⟨rfl, rfl⟩]
      exact World.cell?_setCell_same _ _ _ (h.row a ha b hb').1
    · rw [if_neg e, World.cell?_setCell_other _ _ _ _ (by
        intro e'
        simp only [Addr.mk.injEq] at e'
        exact e ⟨(h.inj _ _ hi ha e'.1).symm, e'.2.1.symm⟩)]
      exact (h.row a ha b hb').1
  · unfold setM
    split
    · exact hx
    · exact h.num a b ha hb'
def swF {α : Type} (f : Nat → α) (i r : Nat) : Nat → α := fun a => if a = r then f i else if a = i then f r else f a
theorem swF_m (i r : Nat) : swF m i r = Sol.swp m i r := rfl
theorem Mat.swap (h : Mat w base top ob n W hb hc m) {i r : Nat} (hi : i < n) (hr : r < n) :
    Mat ((w.setCell ⟨ob, i, none⟩ (.slice (some ⟨hb r, 0, none⟩) W (hc r))).setCell ⟨ob, r, none⟩ (.slice (some ⟨hb i, 0, none⟩) W (hc i))) base top ob n W (swF hb i r) (swF hc i r) (Sol.swp m i r) := by
  have hne : ∀ a, a < n → ∀ k q : Nat, (⟨ob, k, none⟩ : Addr) ≠ ⟨hb a, q, none⟩ := fun a ha k q e => by simp only [Addr.mk.injEq] at e; exact (h.own a ha).2.1 e.1.symm
  have hsw : ∀ a, a < n → ∃ a', a' < n ∧ swF hb i r a = hb a' ∧ swF hc i r a = hc a' ∧ Sol.swp m i r a = m a' := by
    intro a ha
    unfold swF Sol.swp
    by_cases e : a = r
    · exact ⟨i, hi, by rw [if_pos e], by rw [if_pos e], by rw [if_pos e]⟩
    · by_cases e2 : a = i
      · exact ⟨r, hr, by rw [if_neg e, if_pos e2], by rw [if_neg e, if_pos e2], by rw [if_neg e, if_pos e2]⟩
      · exact ⟨a, ha, by rw [if_neg e, if_neg e2], by rw [if_neg e, if_neg e2], by rw [if_neg e, if_neg e2]⟩
  refine ⟨h.lo, by rw [World.size_setCell, World.size_setCell]; exact h.tp, fun a ha => ?_, fun a ha b hb' => ?_, fun a b ha hb' => ?_, fun a ha => ?_, fun a k ha hk e => ?_⟩
  · rw [World.frozen?_setCell, World.frozen?_setCell]
    refine ⟨?_, (h.out a ha).2⟩
    by_cases e : a = r
    · subst e
      simp only [swF, if_pos]
      by_cases e2 : a = i
      · subst e2
        exact World.cell?_setCell_same _ _ _ (World.cell?_setCell_same _ _ _ (h.out a ha).1)
      · exact World.cell?_setCell_same _ _ _ ((World.cell?_setCell_other _ _ _ _ (by intro e'; simp only [Addr.mk.injEq] at e'; exact e2 e'.2.1.symm)).trans (h.out a ha).1)
    · rw [World.cell?_setCell_other _ _ _ _ (by intro e'; simp only [Addr.mk.injEq] at e'; exact e e'.2.1.symm)]
      by_cases e2 : a = i
      · subst e2
        simp only [swF, if_neg e, if_pos]
        exact World.cell?_setCell_same _ _ _ (h.out a ha).1
      · rw [World.cell?_setCell_other _ _ _ _ (by intro e'; simp only [Addr.mk.injEq] at e'; exact e2 e'.2.1.symm)]
        simp only [swF, if_neg e, if_neg e2]
        exact (h.out a ha).1
  · obtain ⟨a', h1, e1, e2, e3⟩ := hsw a ha
    rw [e1, e3, World.frozen?_setCell, World.frozen?_setCell, World.cell?_setCell_other _ _ _ _ (hne a' h1 _ _), World.cell?_setCell_other _ _ _ _ (hne a' h1 _ _)]
    exact h.row a' h1 b hb'
  · obtain ⟨a', h1, e1, e2, e3⟩ := hsw a ha
    rw [e3]; exact h.num a' b h1 hb'
  · obtain ⟨a', h1, e1, e2, e3⟩ := hsw a ha
    rw [e1, e2]; exact h.own a' h1
  · have hx : ∀ a, swF hb i r a = hb (if a = r then i else if a = i then r else a) := by
      intro a
      unfold swF
      by_cases e1 : a = r
      · rw [if_pos e1, if_pos e1]
      · rw [if_neg e1, if_neg e1]
        by_cases e2 : a = i
        · rw [if_pos e2, if_pos e2]
        · rw [if_neg e2, if_neg e2]
    rw [hx, hx] at e
    have hlt : ∀ a, a < n → (if a = r then i else if a = i then r else a) < n := by
      intro a ha
      split
      · exact hi
      · split
        · exact hr
        · exact ha
    have h2 := h.inj _ _ (hlt a ha) (hlt k hk) e
    clear hx hlt e hsw hne
    split at h2 <;> split at h2 <;> (try split at h2) <;> (try split at h2) <;> omega
end
end Go.Proofs.YthebegfceaehfaaDoor

/- RedP: The reduction, step by step: what the loops have done so far. -/
namespace Go.Proofs.YthebegfceaehfaaDoor
open Go.RowKit Sol

def sclP (m : Nat → Nat → Int) (r : Nat) (x : Int) (t : Nat) : Nat → Nat → Int := fun a j => if a = r ∧ j < t then M.times (m r j) x else m a j
def elmQ (m : Nat → Nat → Int) (r k q t : Nat) : Nat → Nat → Int := fun a j => if a ≠ r ∧ (a < q ∨ (a = q ∧ j < t)) then M.minus (m a j) (M.times (m a k) (m r j)) else m a j
section
variable {w w' : World} {base top ob n W : Nat} {hb hc : Nat → Nat} {m : Nat → Nat → Int}
theorem Mat.scl_first (h : Mat w base top ob n W hb hc m) (r : Nat) (x : Int) : Mat w base top ob n W hb hc (sclP m r x 0) := h.congr fun i j _ _ => by simp [sclP]
theorem Mat.scl_next {r t : Nat} {x : Int} (h : Mat w base top ob n W hb hc (sclP m r x t)) (hr : r < n) (ht : t < W) :
    Mat (w.setCell ⟨hb r, t, none⟩ (.int .i64 (M.times (m r t) x))) base top ob n W hb hc (sclP m r x (t + 1)) :=
  (h.set hr ht (M.num_times _ _)).congr fun a j _ _ => by
    unfold setM sclP
    by_cases e : a = r
    · subst e
      by_cases e2 : j = t
      · subst e2; simp
      · by_cases e3 : j < t
        · rw [if_neg (by omega), if_pos ⟨rfl, e3⟩, if_pos ⟨rfl, by omega⟩]
        · rw [if_neg (by omega), if_neg (by omega), if_neg (by omega)]
    · rw [if_neg (by omega), if_neg (by omega), if_neg (by omega)]
theorem Mat.scl_last {r : Nat} {x : Int} (h : Mat w base top ob n W hb hc (sclP m r x W)) : Mat w base top ob n W hb hc (scl m r x) :=
  h.congr fun a j _ hj => by
    unfold sclP scl
    by_cases e : a = r
    · rw [if_pos ⟨e, hj⟩, if_pos e]
    · rw [if_neg (by omega), if_neg e]
theorem sclP_at (m : Nat → Nat → Int) (r : Nat) (x : Int) (t : Nat) : sclP m r x t r t = m r t := by unfold sclP; rw [if_neg (by omega)]
theorem Mat.elm_first (h : Mat w base top ob n W hb hc m) (r k : Nat) : Mat w base top ob n W hb hc (elmQ m r k 0 0) := h.congr fun i j _ _ => by unfold elmQ; rw [if_neg (by omega)]
theorem Mat.elm_next {r k q t : Nat} (h : Mat w base top ob n W hb hc (elmQ m r k q t)) (hq : q < n) (ht : t < W) (hqr : q ≠ r) :
    Mat (w.setCell ⟨hb q, t, none⟩ (.int .i64 (M.minus (m q t) (M.times (m q k) (m r t))))) base top ob n W hb hc (elmQ m r k q (t + 1)) :=
  (h.set hq ht (M.num_minus _ _)).congr fun a j _ _ => by
    unfold setM elmQ
    by_cases e : a = q
    · subst e
      by_cases e2 : j = t
      · subst e2
        rw [if_pos ⟨rfl, rfl⟩, if_pos ⟨hqr, .inr ⟨rfl, by omega⟩⟩]
      · by_cases e3 : j < t
        · rw [if_neg (by omega), if_pos ⟨hqr, .inr ⟨rfl, e3⟩⟩, if_pos ⟨hqr, .inr ⟨rfl, by omega⟩⟩]
        · rw [if_neg (by omega), if_neg (by omega), if_neg (by omega)]
    · by_cases e4 : a ≠ r ∧ a < q
      · rw [if_neg (by omega), if_pos ⟨e4.1, .inl e4.2⟩, if_pos ⟨e4.1, .inl e4.2⟩]
      · rw [if_neg (by omega), if_neg (by omega), if_neg (by omega)]
/-- The row is done (or was the pivot's own). -/
theorem Mat.elm_row {r k q : Nat} (h : Mat w base top ob n W hb hc (elmQ m r k q W)) : Mat w base top ob n W hb hc (elmQ m r k (q + 1) 0) :=
  h.congr fun a j _ hj => by
    unfold elmQ
    by_cases e : a ≠ r ∧ a < q + 1
    · rw [if_pos (by omega), if_pos (by omega)]
    · rw [if_neg (by omega), if_neg (by omega)]
theorem Mat.elm_own {r k : Nat} (h : Mat w base top ob n W hb hc (elmQ m r k r 0)) : Mat w base top ob n W hb hc (elmQ m r k (r + 1) 0) :=
  h.congr fun a j _ hj => by
    unfold elmQ
    by_cases e : a ≠ r ∧ a < r
    · rw [if_pos (by omega), if_pos (by omega)]
    · rw [if_neg (by omega), if_neg (by omega)]
/-- A row whose entry is 0 already stays (the implementation leaves it out). -/
theorem Mat.elm_zero {r k q : Nat} (h : Mat w base top ob n W hb hc (elmQ m r k q 0)) (hn : ∀ i j, i < n → j < W → M.num (m i j)) (h0 : m q k = 0) : Mat w base top ob n W hb hc (elmQ m r k (q + 1) 0) :=
  h.congr fun a j ha hj => by
    unfold elmQ
    by_cases e : a ≠ r ∧ a < q
    · rw [if_pos (by omega), if_pos (by omega)]
    · rw [if_neg (by omega)]
      by_cases e2 : a ≠ r ∧ a < q + 1
      · obtain rfl : a = q := by omega
        rw [if_pos (by omega), h0, times_zero_l, minus_zero (hn a j ha hj)]
      · rw [if_neg (by omega)]
theorem Mat.elm_last {r k : Nat} (h : Mat w base top ob n W hb hc (elmQ m r k n 0)) : Mat w base top ob n W hb hc (elm m r k) :=
  h.congr fun a j ha hj => by
    unfold elmQ elm
    by_cases e : a = r
    · subst e; rw [if_neg (by omega), if_pos rfl]
    · rw [if_pos (by omega), if_neg e]
theorem elmQ_at (m : Nat → Nat → Int) (r k q t : Nat) : elmQ m r k q t q t = m q t := by unfold elmQ; rw [if_neg (by omega)]
theorem elmQ_top (m : Nat → Nat → Int) (r k q t j : Nat) : elmQ m r k q t r j = m r j := by unfold elmQ; rw [if_neg (by omega)]
theorem elmQ_head (m : Nat → Nat → Int) (r k q : Nat) : elmQ m r k q 0 q k = m q k := by unfold elmQ; rw [if_neg (by omega)]
end
/-- No row is left: the other columns bring nothing. -/
theorem red_stop {n : Nat} {m : Nat → Nat → Int} {k : Nat} (h : n ≤ (red n k m).2.length) : ∀ c, k ≤ c → red n c m = red n k m
  | 0, hc => by obtain rfl : k = 0 := by omega
                rfl
  | c + 1, hc => by
    by_cases e : k = c + 1
    · rw [e]
    · have ih := red_stop h c (by omega)
      rw [red_succ, ih]
      unfold col
      rw [if_neg (by
        have := (seek_ge (red n k m).1 c (n - (red n k m).2.length) (red n k m).2.length).1
        omega)]
theorem red_le {n : Nat} {m : Nat → Nat → Int} : ∀ k, (red n k m).2.length ≤ n ∧ (red n k m).2.length ≤ k
  | 0 => ⟨Nat.zero_le _, Nat.le_refl _⟩
  | k + 1 => by
    have ih := red_le (n := n) (m := m) k
    rw [red_succ]
    unfold col
    split
    · rename_i h
      have := (seek_ge (red n k m).1 k (n - (red n k m).2.length) (red n k m).2.length).1
      simp only [List.length_append, List.length_cons, List.length_nil]
      omega
    · omega
theorem seek_yes {m : Nat → Nat → Int} {k q n : Nat} (h : q < n) (h0 : m q k = 0) : seek m k q (n - q) = seek m k (q + 1) (n - (q + 1)) := by
  rw [show n - q = (n - (q + 1)) + 1 by omega, seek, if_pos h0]
theorem seek_no {m : Nat → Nat → Int} {k q n : Nat} (h : q < n) (h0 : m q k ≠ 0) : seek m k q (n - q) = q := by
  rw [show n - q = (n - (q + 1)) + 1 by omega, seek, if_neg h0]
theorem seek_end (m : Nat → Nat → Int) (k n : Nat) : seek m k n (n - n) = n := by rw [Nat.sub_self]; rfl
end Go.Proofs.YthebegfceaehfaaDoor

/- Gr: A matrix that is being made: rows of the call's own, appended to one after the other, in an outer slice of the call's own. -/
namespace Go.Proofs.YthebegfceaehfaaDoor
open Go.RowKit

/-- The outer slice v has N rows, row i as the value ro i, of wd i numbers m i. -/
structure Gr (w : World) (lo : Nat) (v : Value) (N : Nat) (ro : Nat → Value) (wd : Nat → Nat) (m : Nat → Nat → Int) : Prop where
  out : w.ownsRow lo 22 1 v N ((List.range N).map ro)
  row : ∀ i, i < N → Ow w lo (ro i) (wd i) ((List.range (wd i)).map (m i))
  sep : ∀ i, i < N → v.ownBlock ≠ (ro i).ownBlock
  one : ∀ i, i < N → (ro i).ownBlock ≠ none
  inj : ∀ i k, i < N → k < N → (ro i).ownBlock = (ro k).ownBlock → i = k
section
variable {w w' : World} {lo : Nat} {v : Value} {N : Nat} {ro : Nat → Value} {wd : Nat → Nat} {m : Nat → Nat → Int}
theorem gr_below_grown (hB : Below w.heap.size w w') : w.grownBy w' none := ⟨hB.os, hB.tape, hB.output, hB.size, fun k hk _ => hB.block k hk⟩
theorem none_or (x : Option Nat) : x = none ∨ x ≠ none := by cases x <;> simp
theorem Gr.below (h : Gr w lo v N ro wd m) (hB : Below w.heap.size w w') : Gr w' lo v N ro wd m :=
  ⟨h.out.kept (gr_below_grown hB) (none_or _), fun i hi => (h.row i hi).below hB, h.sep, h.one, h.inj⟩
theorem Gr.alloc (h : Gr w lo v N ro wd m) (o : Obj) : Gr (w.alloc o) lo v N ro wd m := h.below (below_box _ _)
theorem Gr.drew (h : Gr w lo v N ro wd m) : Gr w.drew lo v N ro wd m := h.below ((Below.refl _ _).drew)
/-- A block that is neither the outer one nor a row's is written. -/
theorem Gr.grown (h : Gr w lo v N ro wd m) {r : Option Nat} (hg : w.grownBy w' r) (h1 : v.ownBlock = none ∨ v.ownBlock ≠ r) (h2 : ∀ i, i < N → (ro i).ownBlock ≠ r) : Gr w' lo v N ro wd m :=
  ⟨h.out.kept hg h1, fun i hi => (h.row i hi).grown hg (.inr (h2 i hi)), h.sep, h.one, h.inj⟩
theorem Gr.empty (w : World) (lo : Nat) (hb : lo ≤ w.heap.size) (ro : Nat → Value) (wd : Nat → Nat) (m : Nat → Nat → Int) : Gr (w.alloc (.cells #[] 22)) lo (.slice (some ⟨w.heap.size, 0, none⟩) 0 0) 0 ro wd m :=
  ⟨World.ownsRow_made w #[] 0 hb (by unfold maxLen; omega) (by simp), fun i hi => absurd hi (Nat.not_lt_zero i), fun i hi => absurd hi (Nat.not_lt_zero i), fun i hi => absurd hi (Nat.not_lt_zero i), fun i k hi => absurd hi (Nat.not_lt_zero i)⟩
theorem Gr.congr {ro' : Nat → Value} {wd' : Nat → Nat} {m' : Nat → Nat → Int} (h : Gr w lo v N ro wd m) (h0 : ∀ i, i < N → ro i = ro' i) (h1 : ∀ i, i < N → wd i = wd' i) (h2 : ∀ i, i < N → ∀ j, j < wd i → m i j = m' i j) : Gr w lo v N ro' wd' m' := by
  refine ⟨?_, fun i hi => ?_, fun i hi => h0 i hi ▸ h.sep i hi, fun i hi => h0 i hi ▸ h.one i hi, fun i k hi hk he => h.inj i k hi hk (by rw [h0 i hi, h0 k hk]; exact he)⟩
  · have e : (List.range N).map ro' = (List.range N).map ro := List.map_congr_left fun i hi => (h0 i (List.mem_range.1 hi)).symm
    rw [e]; exact h.out
  · have e : (List.range (wd i)).map (m' i) = (List.range (wd i)).map (m i) := List.map_congr_left fun j hj => (h2 i hi j (List.mem_range.1 hj)).symm
    rw [← h0 i hi, ← h1 i hi, e]
    exact h.row i hi
/-- A block made behind it is none of its own. -/
theorem Gr.apart (h : Gr w lo v N ro wd m) {x : Value} (hxo : x.ownBlock ≠ none) (hx : ∀ q, x.ownBlock = some q → w.heap.size ≤ q) : x.ownBlock ≠ v.ownBlock ∧ ∀ i, i < N → x.ownBlock ≠ (ro i).ownBlock := by
  obtain ⟨q, hq⟩ : ∃ q, x.ownBlock = some q := by
    cases e : x.ownBlock with
    | none => exact absurd e hxo
    | some q => exact ⟨q, rfl⟩
  have h1 := hx q hq
  refine ⟨fun e => ?_, fun i hi e => ?_⟩
  · have := (h.out.lt q (e.symm.trans hq)).2; omega
  · have := ((h.row i hi).lt q (e.symm.trans hq)).2; omega
/-- A block behind it is written. -/
theorem Gr.above (h : Gr w lo v N ro wd m) {w1 : World} (hB : Below w.heap.size w w1) {q : Nat} (hg : w1.grownBy w' (some q)) (hr : w.heap.size ≤ q) : Gr w' lo v N ro wd m := by
  refine (h.below hB).grown hg (.inr fun e => ?_) fun i hi e => ?_
  · have := (h.out.lt q e).2; omega
  · have := ((h.row i hi).lt q e).2; omega
/-- The outer slice's cell. -/
theorem Gr.cell (h : Gr w lo v N ro wd m) {ob i : Nat} (hv : v.ownBlock = some ob) (hi : i < N) : w.cell? ⟨ob, i, none⟩ = some (ro i) ∧ w.frozen? ⟨ob, i, none⟩ = false := by
  have hc := h.out.cells hv i (ro i) (by simp [hi])
  rw [Addr.add_lit, Nat.zero_add] at hc
  refine ⟨hc, ?_⟩
  rcases h.out.2 with ⟨e1, _⟩ | ⟨g, cap, cur, e1, _, hh, _⟩
  · rw [e1] at hv; cases hv
  · rw [e1] at hv
    simp only [Value.ownBlock, Option.some.injEq] at hv
    subst hv
    exact frozen_of_row w g i cur _ hh
theorem Gr.pick (h : Gr w lo v N ro wd m) {i k : Nat} (hi : i < N) (hk : wd i = k) : ∃ b c, ro i = .slice (some ⟨b, 0, none⟩) k c ∧ Ow w lo (.slice (some ⟨b, 0, none⟩) k c) k ((List.range k).map (m i)) := by
  have hr := h.row i hi
  rw [hk] at hr
  rcases hr.1.2 with ⟨e, _⟩ | ⟨g, cap, cur, e, _⟩
  · exact absurd (by rw [e]; rfl) (h.one i hi)
  · exact ⟨g, cap, e, e ▸ hr⟩
theorem Gr.slc (h : Gr w lo v N ro wd m) (hN : 0 < N) : ∃ ob cc, v = .slice (some ⟨ob, 0, none⟩) N cc ∧ N ≤ cc ∧ cc ≤ 9223372036854775807 := by
  rcases h.out.2 with ⟨_, e⟩ | ⟨g, cap, cur, e, _, _, h2, h3, _⟩
  · omega
  · exact ⟨g, cap, e, h2, by unfold maxLen at h3; omega⟩
theorem Gr.fr (h : Gr w lo v N ro wd m) : ∃ ao c, v = .slice ao N c ∧ N ≤ c ∧ c ≤ 9223372036854775807 := by
  rcases h.out.2 with ⟨h1, h2⟩ | ⟨g, cap, cur, h1, _, _, h2, h3, _⟩
  · subst h2; exact ⟨none, 0, h1, Nat.le_refl _, by omega⟩
  · exact ⟨_, cap, h1, h2, by unfold maxLen at h3; omega⟩
theorem info_row : (Tryd.prog.info? 22).map (fun i => (i.zero, i.size, i.bytes)) = some (some (.slice none 0 0), 1, 24) := by kernel_rfl
/-- 'out = append(out, row)'. -/
theorem run_append_row (h : Gr w lo v N ro wd m) {x : Value} {k : Nat} {r : Nat → Int} (hx : Ow w lo x k ((List.range k).map r)) (hxo : x.ownBlock ≠ none) (hxv : x.ownBlock ≠ v.ownBlock) (hxr : ∀ i, i < N → x.ownBlock ≠ (ro i).ownBlock)
    {b : Nat} (hc : w.cell? ⟨b, 0, none⟩ = some x) (hN : N ≤ 1000) (hlo : lo ≤ w.heap.size) (ty : TypeId) :
    ∃ v' w', (Builtin.append_ #[66, 66] ty #[v, .slice (some ⟨b, 0, none⟩) 1 1]).run Tryd.prog w = .ok v' w' ∧
      Gr w' lo v' (N + 1) (fun i => if i = N then x else ro i) (fun i => if i = N then k else wd i) (fun i => if i = N then r else m i) ∧ w.grownBy w' v.ownBlock ∧ (v'.ownBlock = v.ownBlock ∨ v'.ownBlock = some w.heap.size) := by
  obtain ⟨i, hi, hz0, hz1, hz2⟩ := info_parts info_row
  obtain ⟨v', w', h1, h2, h3, _, h5⟩ := run_append_own_at (P := Tryd.prog) w lo 66 ty 22 i (.slice none 0 0) 1 24 Tryd.underlying66 hi hz0 hz1 hz2 rfl (by decide) v N _ h.out ⟨b, 0, none⟩ 1 1 [x] rfl
    (fun j u hj => by
      match j, hj with
      | 0, hj => simp only [List.getElem?_cons_zero, Option.some.injEq] at hj; subst hj; simpa [Addr.add] using hc)
    (fun u hu => by
      simp only [List.mem_cons, List.not_mem_nil, or_false] at hu
      subst hu
      obtain ⟨ao, c, e, _⟩ := hx.fr
      rw [e]; rfl) (by unfold maxLen; omega) (by omega) hlo
  refine ⟨v', w', h1, ?_, h3, h5⟩
  have hlt : ∀ i, i < N → i ≠ N := fun i hi => by omega
  have hof : v'.ownBlock = v.ownBlock ∨ v'.ownBlock = some w.heap.size := h5
  have hv' : ∀ y : Option Nat, y ≠ v.ownBlock → (∀ q, y = some q → q < w.heap.size) → v'.ownBlock ≠ y := by
    intro y hy hq e
    rcases hof with h6 | h6
    · exact hy (e.symm.trans h6)
    · have := hq _ (e.symm.trans h6); omega
  refine ⟨?_, fun i hi => ?_, fun i hi => ?_, fun i hi => ?_, fun i k hi hk he => ?_⟩
  · rw [List.range_succ, List.map_append, List.map_cons, List.map_nil, if_pos rfl, List.map_congr_left (g := ro) (fun i hi => if_neg (hlt i (List.mem_range.1 hi)))]
    exact h2
  · by_cases e : i = N
    · subst e
      simp only [if_pos]
      exact hx.grown h3 (.inr hxv)
    · have hi' : i < N := by omega
      simp only [if_neg e]
      exact (h.row i hi').grown h3 (.inr (Ne.symm (h.sep i hi')))
  · by_cases e : i = N
    · simp only [if_pos e]
      exact hv' _ hxv (fun q hq => (hx.lt q hq).2)
    · have hi' : i < N := by omega
      simp only [if_neg e]
      exact hv' _ (Ne.symm (h.sep i hi')) (fun q hq => ((h.row i hi').lt q hq).2)
  · by_cases e : i = N
    · simp only [if_pos e]; exact hxo
    · simp only [if_neg e]; exact h.one i (by omega)
  · by_cases e : i = N
    · by_cases e2 : k = N
      · rw [e, e2]
      · simp only [if_pos e, if_neg e2] at he
        exact absurd he (hxr k (by omega))
    · by_cases e2 : k = N
      · simp only [if_neg e, if_pos e2] at he
        exact absurd he.symm (hxr i (by omega))
      · simp only [if_neg e, if_neg e2] at he
        exact h.inj i k (by omega) (by omega) he
theorem wpList_append_row (w : World) {ops : Array Oper} {rest : List Oper} {o : Oper} {a : Act} {Q : Exit → Act → World → Prop} (hg : o.guard = none) (s y : Operand)
    (hop : o.op = .call { callee := .builtin .append, args := #[s, y], argTypes := #[66, 66] }) {lo : Nat} {v : Value} {N : Nat} {ro : Nat → Value} {wd : Nat → Nat} {m : Nat → Nat → Int} (hs : a.eval s = v) (h : Gr w lo v N ro wd m) {x : Value} {k : Nat} {r : Nat → Int}
    (hx : Ow w lo x k ((List.range k).map r)) (hxo : x.ownBlock ≠ none) (hxv : x.ownBlock ≠ v.ownBlock) (hxr : ∀ i, i < N → x.ownBlock ≠ (ro i).ownBlock)
    (b : Nat) (hy : a.eval y = .slice (some ⟨b, 0, none⟩) 1 1) (hc : w.cell? ⟨b, 0, none⟩ = some x) (hN : N ≤ 1000) (hlo : lo ≤ w.heap.size)
    (hK : ∀ v' w', Gr w' lo v' (N + 1) (fun i => if i = N then x else ro i) (fun i => if i = N then k else wd i) (fun i => if i = N then r else m i) → w.grownBy w' v.ownBlock → (v'.ownBlock = v.ownBlock ∨ v'.ownBlock = some w.heap.size) → wpList Tryd.prog ops Q rest (a.put o.dst v') w') : wpList Tryd.prog ops Q (o :: rest) a w :=
  wpList_plain hg fun _ hK' => by
    obtain ⟨v', w', hr, h2, h3, h4⟩ := run_append_row h hx hxo hxv hxr hc hN hlo o.type
    unfold Oper.wp execOp
    simp only [hop, resolve, invoke, builtin, Sem.run_bind, Sem.run_pure, Result.andThen_ok, List.map_toArray, List.map_cons, List.map_nil, hs, hy, hr]
    exact hK' _ _ (hK _ w' h2 h3 h4)
theorem step_append_row {w : World} {ops : Array Oper} {o : Oper} {a : Act} {K : Act → World → Prop} {Q : Exit → Act → World → Prop} {E : Prop} (hg : o.guard = none) (s y : Operand)
    (hop : o.op = .call { callee := .builtin .append, args := #[s, y], argTypes := #[66, 66] }) {lo : Nat} {v : Value} {N : Nat} {ro : Nat → Value} {wd : Nat → Nat} {m : Nat → Nat → Int} (hs : a.eval s = v) (h : Gr w lo v N ro wd m) {x : Value} {k : Nat} {r : Nat → Int}
    (hx : Ow w lo x k ((List.range k).map r)) (hxo : x.ownBlock ≠ none) (hxv : x.ownBlock ≠ v.ownBlock) (hxr : ∀ i, i < N → x.ownBlock ≠ (ro i).ownBlock)
    (b : Nat) (hy : a.eval y = .slice (some ⟨b, 0, none⟩) 1 1) (hc : w.cell? ⟨b, 0, none⟩ = some x) (hN : N ≤ 1000) (hlo : lo ≤ w.heap.size)
    (hK : ∀ v' w', Gr w' lo v' (N + 1) (fun i => if i = N then x else ro i) (fun i => if i = N then k else wd i) (fun i => if i = N then r else m i) → w.grownBy w' v.ownBlock → (v'.ownBlock = v.ownBlock ∨ v'.ownBlock = some w.heap.size) → K (a.put o.dst v') w') :
    if Region.wanted o (yielded ops a.tmps) = true then Oper.wp Tryd.prog o a w K Q else E := by
  have hw : Region.wanted o (yielded ops a.tmps) = true := by simp [Region.wanted, hg]
  rw [if_pos hw]
  obtain ⟨v', w', hr, h2, h3, h4⟩ := run_append_row h hx hxo hxv hxr hc hN hlo o.type
  unfold Oper.wp execOp
  simp only [hop, resolve, invoke, builtin, Sem.run_bind, Sem.run_pure, Result.andThen_ok, List.map_toArray, List.map_cons, List.map_nil, hs, hy, hr]
  exact hK _ w' h2 h3 h4
/-- A row's cell of the outer slice is written: the row has grown by one number. -/
theorem Gr.push (h : Gr w lo v N ro wd m) {i ob : Nat} (hi : i < N) (hv : v.ownBlock = some ob) {x : Value} {y : Int} (hO : Ow w' lo x (wd i + 1) ((List.range (wd i)).map (m i) ++ [y])) (hg : w.grownBy w' (ro i).ownBlock) (hw : x.ownBlock = (ro i).ownBlock ∨ x.ownBlock = some w.heap.size) :
    Gr (w'.setCell ⟨ob, i, none⟩ x) lo v N (fun j => if j = i then x else ro j) (fun j => if j = i then wd i + 1 else wd j) (fun j => if j = i then fun t => if t = wd i then y else m i t else m j) := by
  have hob := h.out.lt ob hv
  have hsz : some w.heap.size ≠ some ob := fun e => by simp only [Option.some.injEq] at e; omega
  have hxv : x.ownBlock ≠ some ob := by
    rcases hw with h1 | h1
    · rw [h1, ← hv]; exact Ne.symm (h.sep i hi)
    · rw [h1]; exact hsz
  have hout := h.out.kept hg (.inr (h.sep i hi))
  have hgs := grown_setCell w' ob i x
  have hxj : ∀ j, j < N → j ≠ i → x.ownBlock ≠ (ro j).ownBlock := by
    intro j hj hji e
    rcases hw with h1 | h1
    · exact hji (h.inj j i hj hi (e.symm.trans h1))
    · have := ((h.row j hj).lt _ (e.symm.trans h1)).2; omega
  refine ⟨⟨by simp, ?_⟩, fun j hj => ?_, fun j hj => ?_, fun j hj => ?_, fun j k hj hk he => ?_⟩
  · rcases hout.2 with ⟨e1, _⟩ | ⟨g, cap, cur, e1, hb, hh, hc1, hc2, hc3, hc4⟩
    · rw [e1] at hv; cases hv
    · rw [e1] at hv
      simp only [Value.ownBlock, Option.some.injEq] at hv
      subst hv
      refine .inr ⟨g, cap, cur.setIfInBounds i x, e1, hb, heap_setCell_same _ _ _ _ _ _ hh, hc1, hc2, by simpa using hc3, ?_⟩
      rw [Array.toList_setIfInBounds, List.take_set, hc4]
      apply List.ext_getElem
      · simp
      · intro q q1 q2
        simp only [List.getElem_set, List.getElem_map, List.getElem_range]
        by_cases e : i = q
        · subst e; simp
        · rw [if_neg e, if_neg (Ne.symm e)]
  · by_cases e : j = i
    · subst e
      simp only [if_pos]
      refine Ow.grown ?_ hgs (.inr hxv)
      rw [List.range_succ, List.map_append, List.map_cons, List.map_nil, if_pos rfl, List.map_congr_left (g := m j) (fun t ht => if_neg (by have := List.mem_range.1 ht; omega))]
      exact hO
    · simp only [if_neg e]
      refine Ow.grown ?_ hgs (.inr ?_)
      · exact (h.row j hj).grown hg (.inr (fun e' => e (h.inj j i hj hi e')))
      · rw [← hv]; exact Ne.symm (h.sep j hj)
  · by_cases e : j = i
    · simp only [if_pos e]; rw [hv]; exact Ne.symm hxv
    · simp only [if_neg e]; exact h.sep j hj
  · by_cases e : j = i
    · simp only [if_pos e]
      rcases hw with h1 | h1
      · rw [h1]; exact h.one i hi
      · rw [h1]; simp
    · simp only [if_neg e]; exact h.one j hj
  · by_cases e : j = i
    · by_cases e2 : k = i
      · rw [e, e2]
      · simp only [if_pos e, if_neg e2] at he
        exact absurd he (hxj k hk e2)
    · by_cases e2 : k = i
      · simp only [if_neg e, if_pos e2] at he
        exact absurd he.symm (hxj j hj e)
      · simp only [if_neg e, if_neg e2] at he
        exact h.inj j k hj hk he
/-- What is made is a matrix. -/
theorem Gr.mat (h : Gr w lo v N ro wd m) (hN : 0 < N) {W : Nat} (hW : ∀ i, i < N → wd i = W) (hnum : ∀ i j, i < N → j < W → M.num (m i j)) :
    ∃ ob cc hb hc, v = .slice (some ⟨ob, 0, none⟩) N cc ∧ N ≤ cc ∧ cc ≤ 9223372036854775807 ∧ Mat w lo w.heap.size ob N W hb hc m := by
  rcases h.out.2 with ⟨e1, e2⟩ | ⟨g, cap, cur, e1, hb, hh, hc1, hc2, hc3, hc4⟩
  · omega
  · have hg : v.ownBlock = some g := by rw [e1]; rfl
    have hl := h.out.lt g hg
    have hsl : ∀ i, i < N → ∃ b c, ro i = .slice (some ⟨b, 0, none⟩) W c ∧ W ≤ c ∧ c ≤ 9223372036854775807 ∧ (lo ≤ b ∧ b < w.heap.size) ∧ b ≠ g := by
      intro i hi
      have hr := (h.row i hi).1
      have h1 := h.one i hi
      have hs := h.sep i hi
      rcases hr.2 with ⟨e3, e4⟩ | ⟨b, c, cu, e3, hb3, hh3, hc5, hc6, _⟩
      · rw [e3] at h1; exact absurd rfl h1
      · refine ⟨b, c, by rw [e3, hW i hi], by rw [← hW i hi]; exact hc5, by unfold maxLen at hc6; omega, hr.lt b (by rw [e3]; rfl), fun e => hs ?_⟩
        rw [hg, e3, ← e]; rfl
    have hb' : ∀ i, ∃ p : Nat × Nat, i < N → ro i = .slice (some ⟨p.1, 0, none⟩) W p.2 ∧ W ≤ p.2 ∧ p.2 ≤ 9223372036854775807 ∧ (lo ≤ p.1 ∧ p.1 < w.heap.size) ∧ p.1 ≠ g := by
      intro i
      by_cases hi : i < N
      · obtain ⟨b, c, h1⟩ := hsl i hi
        exact ⟨(b, c), fun _ => h1⟩
      · exact ⟨(0, 0), fun h => absurd h hi⟩
    obtain ⟨f, hf⟩ := Classical.axiomOfChoice hb'
    refine ⟨g, cap, fun i => (f i).1, fun i => (f i).2, e1, hc1, by unfold maxLen at hc2; omega, ⟨⟨hl.1, hl.2⟩, Nat.le_refl _, fun i hi => ?_, fun i hi j hj => ?_, hnum, fun i hi => ⟨(hf i hi).2.2.2.1, (hf i hi).2.2.2.2, (hf i hi).2.1, (hf i hi).2.2.1⟩, fun i k hi hk e => ?_⟩⟩
    · have hcell := h.out.cells hg i (ro i) (by simp [hi])
      rw [Addr.add_lit, Nat.zero_add, (hf i hi).1] at hcell
      exact ⟨hcell, frozen_of_row w g i cur _ hh⟩
    · have hF := (h.row i hi).fr
      obtain ⟨ao, c, e2, hfr⟩ := hF
      rw [(hf i hi).1, hW i hi] at e2
      simp only [Value.slice.injEq] at e2
      obtain ⟨rfl, _, rfl⟩ := e2
      rw [hW i hi] at hfr
      obtain ⟨b, o, e3, hc⟩ := hfr.rd.cell j hj
      simp only [Option.some.injEq, Addr.mk.injEq, and_true] at e3
      obtain ⟨rfl, rfl⟩ := e3
      rw [Nat.zero_add] at hc
      have hz := (hfr.own _ _ _ rfl (by omega)).2 j hj
      rw [Nat.zero_add] at hz
      exact ⟨by rw [hc]; simp [List.getD, hj], hz⟩
    · refine h.inj i k hi hk ?_
      rw [(hf i hi).1, (hf k hk).1]
      simp [Value.ownBlock, e]
end
end Go.Proofs.YthebegfceaehfaaDoor

/- Sys: The checks of a system's rows: systemOk, l1Rows. -/
namespace Go.Proofs.YthebegfceaehfaaDoor
open Go.RowKit

/-- A row's numbers. -/
def rowF (m : Nat → Nat → Int) (n i : Nat) : List Int := (List.range n).map (m i)
theorem rowF_len (m : Nat → Nat → Int) (n i : Nat) : (rowF m n i).length = n := by simp [rowF]
theorem rowF_num {m : Nat → Nat → Int} {n i : Nat} (h : ∀ j, j < n → M.num (m i j)) : M.allNum (rowF m n i) = true :=
  M.allNum_of fun x hx => by
    obtain ⟨j, hj, rfl⟩ := List.mem_map.1 hx
    exact h j (List.mem_range.1 hj)
/-- n rows of n numbers, to be read: the outer slice's block ob. -/
def Rm (w : World) (ob n : Nat) (m : Nat → Nat → Int) : Prop := ∀ i, i < n → ∃ ao c, w.cell? ⟨ob, i, none⟩ = some (.slice ao n c) ∧ Rd w ao n c (rowF m n i)
theorem Rm.below {w w' : World} {ob n : Nat} {m : Nat → Nat → Int} (h : Rm w ob n m) (hB : Below w.heap.size w w') : Rm w' ob n m := fun i hi => by
  obtain ⟨ao, c, h1, h2⟩ := h i hi
  exact ⟨ao, c, (hB.cell (World.block_lt_of_cell? w _ h1)).trans h1, h2.below hB⟩
theorem inB_true {n : Nat} (h1 : 1 ≤ n) (h2 : n ≤ 40) : inB (n : Int) 1 40 = true := decide_eq_true ⟨by omega, by omega⟩
theorem impl_systemOk (n ob c : Nat) (m : Nat → Nat → Int) (w : World) (h : Rm w ob n m) (h1 : 1 ≤ n) (h8 : n ≤ 8) (hn : ∀ i j, i < n → j < n → M.num (m i j)) :
    Calls Tryd.prog 93 #[.slice (some ⟨ob, 0, none⟩) n c] w fun e w' => e = .returned (.bool true) ∧ w = w' := by
  have H := hid h
  have HN := hid hn
  have hn0 : (0 : Int) < (n : Int) := by omega
  have hnz : ((n : Int) == 0) = false := by rw [beq_eq_false_iff_ne]; omega
  clear h hn
  go_enter Tryd.func93, Tryd.ntmps93
  go_wp2_with fail
  go_loop [4, 15] (fun _ i => ∃ k : Nat, i = .int .i64 k ∧ k ≤ n) (fun _ i => n - (intOf i).toNat)
  case atStart => exact ⟨0, rfl, Nat.zero_le _⟩
  case round =>
    obtain ⟨k, rfl, hk⟩ := hrel
    by_cases hlt : k < n
    · have hki : (k : Int) < (n : Int) := by omega
      obtain ⟨ao, c1, u0, hr⟩ := H.out k hlt
      obtain ⟨ao0, c0, u1, _⟩ := H.out 0 (by omega)
      have HR := hid hr
      have HA := hid (rowF_num (m := m) (n := n) (i := k) (fun j hj => HN.out k j hlt hj))
      clear hr
      go_wp2_with fail
      refine (impl_allNumbers _ _ _ _ _ HR.out).mono ?_
      rw [HA.out]
      rintro e w' ⟨rfl, rfl⟩
      go_wp2_with fail
      go_round
      case rel => exact ⟨k + 1, by go_num, by omega⟩
      case measure => simp [intOf]; omega
    · obtain rfl : k = n := by omega
      go_wp2_with fail
      go_ret
      exact ⟨rfl, rfl⟩
theorem spec_l1Rows (n ob c : Nat) (m : Nat → Nat → Int) (w : World) (h : Rm w ob n m) (h1 : 1 ≤ n) (h8 : n ≤ 8) (hn : ∀ i j, i < n → j < n → M.num (m i j)) :
    Calls Tryd.prog 90 #[.slice (some ⟨ob, 0, none⟩) n c] w fun e w' => e = .returned (.bool true) ∧ Below w.heap.size w w' := by
  have H := hid h
  have HN := hid hn
  have hn0 : (0 : Int) < (n : Int) := by omega
  have hnz : ((n : Int) != (n : Int)) = false := by simp
  have HI := hid (inB_true h1 (by omega))
  obtain ⟨a0, c0, v0, _⟩ := h 0 (by omega)
  clear h hn
  go_enter Tryd.func90, Tryd.ntmps90
  go_wp2_with (go_at_call 38; refine (spec_l1In _ _ _ _).mono ?_; rw [HI.out]; rintro e w' ⟨rfl, rfl⟩)
  clear v0
  go_loopw [3] (fun i wr => ∃ k : Nat, i = .int .i64 k ∧ k ≤ n ∧ Hid (Below w.heap.size w wr)) (fun i _ => n - (intOf i).toNat)
  case atStart => exact ⟨0, rfl, Nat.zero_le _, hid (Below.refl _ _)⟩
  case round =>
    obtain ⟨k, rfl, hk, hB⟩ := hrel
    by_cases hlt : k < n
    · have hki : (k : Int) < (n : Int) := by omega
      obtain ⟨ao, c1, u0, hr⟩ := (H.out.below hB.out) k hlt
      obtain ⟨ao0, c0, u1, _⟩ := (H.out.below hB.out) 0 (by omega)
      have HA := hid (rowF_num (m := m) (n := n) (i := k) (fun j hj => HN.out k j hlt hj))
      have HR : Hid (∀ wc, Below wr.heap.size wr wc → Calls Tryd.prog 59 #[.slice ao n c1] wc fun e w' => e = .returned (.bool true) ∧ w' = wc) := hid fun wc hb =>
        (spec_l1All _ _ _ _ _ (hr.below hb)).mono fun _ _ h => ⟨by rw [h.1, HA.out], h.2.symm⟩
      have HQ : Hid (∀ j, Calls Tryd.prog 59 #[.slice ao n c1] (wr.drewN j) fun e w' => e = .returned (.bool true) ∧ w' = wr.drewN j) := hid fun j => HR.out _ (Below.drewN' (Below.refl _ _) j)
      clear hr
      go_wp2_with fail
      go_quiet ((go_at_call 59; exact Calls.quiet_of_same (HQ.out _)))
      go_wp2_with fail
      go_roundw
      case rel => exact ⟨k + 1, by go_num, by omega, hid (Below.drewN' hB.out _)⟩
      case measure => simp [intOf]; omega
    · obtain rfl : k = n := by omega
      go_wp2_with fail
      go_ret
      exact ⟨rfl, hB.out⟩
end Go.Proofs.YthebegfceaehfaaDoor
