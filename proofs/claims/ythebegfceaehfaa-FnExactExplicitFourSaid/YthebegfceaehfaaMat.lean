/- A matrix in memory: rows of numbers of the call's own, each in its block. -/
import Derived.Test.YthebegfceaehfaaOb
import Derived.Test.YthebegfceaehfaaSolL
namespace Go.Proofs.Ythebegfceaehfaa
open Go.RowKit

structure Mat (w : World) (base top ob n W : Nat) (hb hc : Nat → Nat) (m : Nat → Nat → Int) : Prop where
  lo : base ≤ ob ∧ ob < top
  tp : top ≤ w.heap.size
  out : ∀ i, i < n → w.cell? ⟨ob, i, none⟩ = some (.slice (some ⟨hb i, 0, none⟩) W (hc i)) ∧ w.frozen? ⟨ob, i, none⟩ = false
  row : ∀ i, i < n → ∀ j, j < W → w.cell? ⟨hb i, j, none⟩ = some (.int .i64 (m i j)) ∧ w.frozen? ⟨hb i, j, none⟩ = false
  num : ∀ i j, i < n → j < W → M.num (m i j)
  own : ∀ i, i < n → (base ≤ hb i ∧ hb i < top) ∧ hb i ≠ ob ∧ W ≤ hc i ∧ hc i ≤ 9223372036854775807
  inj : ∀ i k, i < n → k < n → hb i = hb k → i = k
def setM (m : Nat → Nat → Int) (i j : Nat) (x : Int) : Nat → Nat → Int := fun a b => if a = i ∧ b = j then x else m a b
section
variable {w w' : World} {base top ob n W : Nat} {hb hc : Nat → Nat} {m : Nat → Nat → Int}
theorem Mat.keep (h : Mat w base top ob n W hb hc m) (ht : top ≤ w'.heap.size) (hk : ∀ b, b < top → w'.heap[b]? = w.heap[b]?) : Mat w' base top ob n W hb hc m :=
  ⟨h.lo, ht, fun i hi => ⟨(World.cell?_of_block (hk _ h.lo.2)).trans (h.out i hi).1, (World.frozen?_of_block (hk _ h.lo.2)).trans (h.out i hi).2⟩,
    fun i hi j hj => ⟨(World.cell?_of_block (hk _ (h.own i hi).1.2)).trans (h.row i hi j hj).1, (World.frozen?_of_block (hk _ (h.own i hi).1.2)).trans (h.row i hi j hj).2⟩, h.num, h.own, h.inj⟩
theorem Mat.below (h : Mat w base top ob n W hb hc m) (hB : Below w.heap.size w w') : Mat w' base top ob n W hb hc m :=
  h.keep (Nat.le_trans h.tp hB.size) fun b hb' => hB.block b (Nat.lt_of_lt_of_le hb' h.tp)
/-- An append into a block past the top. -/
theorem Mat.grown (h : Mat w base top ob n W hb hc m) {r : Option Nat} (hg : w.grownBy w' r) (hr : ∀ k, r = some k → top ≤ k) : Mat w' base top ob n W hb hc m :=
  h.keep (Nat.le_trans h.tp hg.size) fun b hb' => hg.block b (Nat.lt_of_lt_of_le hb' h.tp) (fun e => by have := hr b e.symm; omega)
theorem Mat.congr {m' : Nat → Nat → Int} (h : Mat w base top ob n W hb hc m) (he : ∀ i j, i < n → j < W → m i j = m' i j) : Mat w base top ob n W hb hc m' :=
  ⟨h.lo, h.tp, h.out, fun i hi j hj => he i j hi hj ▸ h.row i hi j hj, fun i j hi hj => he i j hi hj ▸ h.num i j hi hj, h.own, h.inj⟩
theorem Mat.set (h : Mat w base top ob n W hb hc m) {i j : Nat} {x : Int} (hi : i < n) (hj : j < W) (hx : M.num x) :
    Mat (w.setCell ⟨hb i, j, none⟩ (.int .i64 x)) base top ob n W hb hc (setM m i j x) := by
  refine ⟨h.lo, by rw [World.size_setCell]; exact h.tp, fun a ha => ?_, fun a ha b hb' => ?_, fun a b ha hb' => ?_, h.own, h.inj⟩
  · rw [World.cell?_setCell_other _ _ _ _ (by intro e; simp only [Addr.mk.injEq] at e; exact (h.own i hi).2.1 e.1), World.frozen?_setCell]
    exact h.out a ha
  · rw [World.frozen?_setCell]
    refine ⟨?_, (h.row a ha b hb').2⟩
    unfold setM
    by_cases e : a = i ∧ b = j
    · obtain ⟨rfl, rfl⟩ := e
      rw [if_pos ⟨rfl, rfl⟩]
      exact World.cell?_setCell_same _ _ _ (h.row a ha b hb').1
    · rw [if_neg e, World.cell?_setCell_other _ _ _ _ (by
        intro e'
        simp only [Addr.mk.injEq] at e'
        exact e ⟨(h.inj _ _ hi ha e'.1).symm, e'.2.1.symm⟩)]
      exact (h.row a ha b hb').1
  · unfold setM
    split
    · exact hx
    · exact h.num a b ha hb'
def swF {α : Type} (f : Nat → α) (i r : Nat) : Nat → α := fun a => if a = r then f i else if a = i then f r else f a
theorem swF_m (i r : Nat) : swF m i r = Sol.swp m i r := rfl
theorem Mat.swap (h : Mat w base top ob n W hb hc m) {i r : Nat} (hi : i < n) (hr : r < n) :
    Mat ((w.setCell ⟨ob, i, none⟩ (.slice (some ⟨hb r, 0, none⟩) W (hc r))).setCell ⟨ob, r, none⟩ (.slice (some ⟨hb i, 0, none⟩) W (hc i))) base top ob n W (swF hb i r) (swF hc i r) (Sol.swp m i r) := by
  have hne : ∀ a, a < n → ∀ k q : Nat, (⟨ob, k, none⟩ : Addr) ≠ ⟨hb a, q, none⟩ := fun a ha k q e => by simp only [Addr.mk.injEq] at e; exact (h.own a ha).2.1 e.1.symm
  have hsw : ∀ a, a < n → ∃ a', a' < n ∧ swF hb i r a = hb a' ∧ swF hc i r a = hc a' ∧ Sol.swp m i r a = m a' := by
    intro a ha
    unfold swF Sol.swp
    by_cases e : a = r
    · exact ⟨i, hi, by rw [if_pos e], by rw [if_pos e], by rw [if_pos e]⟩
    · by_cases e2 : a = i
      · exact ⟨r, hr, by rw [if_neg e, if_pos e2], by rw [if_neg e, if_pos e2], by rw [if_neg e, if_pos e2]⟩
      · exact ⟨a, ha, by rw [if_neg e, if_neg e2], by rw [if_neg e, if_neg e2], by rw [if_neg e, if_neg e2]⟩
  refine ⟨h.lo, by rw [World.size_setCell, World.size_setCell]; exact h.tp, fun a ha => ?_, fun a ha b hb' => ?_, fun a b ha hb' => ?_, fun a ha => ?_, fun a k ha hk e => ?_⟩
  · rw [World.frozen?_setCell, World.frozen?_setCell]
    refine ⟨?_, (h.out a ha).2⟩
    by_cases e : a = r
    · subst e
      simp only [swF, if_pos]
      by_cases e2 : a = i
      · subst e2
        exact World.cell?_setCell_same _ _ _ (World.cell?_setCell_same _ _ _ (h.out a ha).1)
      · exact World.cell?_setCell_same _ _ _ ((World.cell?_setCell_other _ _ _ _ (by intro e'; simp only [Addr.mk.injEq] at e'; exact e2 e'.2.1.symm)).trans (h.out a ha).1)
    · rw [World.cell?_setCell_other _ _ _ _ (by intro e'; simp only [Addr.mk.injEq] at e'; exact e e'.2.1.symm)]
      by_cases e2 : a = i
      · subst e2
        simp only [swF, if_neg e, if_pos]
        exact World.cell?_setCell_same _ _ _ (h.out a ha).1
      · rw [World.cell?_setCell_other _ _ _ _ (by intro e'; simp only [Addr.mk.injEq] at e'; exact e2 e'.2.1.symm)]
        simp only [swF, if_neg e, if_neg e2]
        exact (h.out a ha).1
  · obtain ⟨a', h1, e1, e2, e3⟩ := hsw a ha
    rw [e1, e3, World.frozen?_setCell, World.frozen?_setCell, World.cell?_setCell_other _ _ _ _ (hne a' h1 _ _), World.cell?_setCell_other _ _ _ _ (hne a' h1 _ _)]
    exact h.row a' h1 b hb'
  · obtain ⟨a', h1, e1, e2, e3⟩ := hsw a ha
    rw [e3]; exact h.num a' b h1 hb'
  · obtain ⟨a', h1, e1, e2, e3⟩ := hsw a ha
    rw [e1, e2]; exact h.own a' h1
  · have hx : ∀ a, swF hb i r a = hb (if a = r then i else if a = i then r else a) := by
      intro a
      unfold swF
      by_cases e1 : a = r
      · rw [if_pos e1, if_pos e1]
      · rw [if_neg e1, if_neg e1]
        by_cases e2 : a = i
        · rw [if_pos e2, if_pos e2]
        · rw [if_neg e2, if_neg e2]
    rw [hx, hx] at e
    have hlt : ∀ a, a < n → (if a = r then i else if a = i then r else a) < n := by
      intro a ha
      split
      · exact hi
      · split
        · exact hr
        · exact ha
    have h2 := h.inj _ _ (hlt a ha) (hlt k hk) e
    clear hx hlt e hsw hne
    split at h2 <;> split at h2 <;> (try split at h2) <;> (try split at h2) <;> omega
end
end Go.Proofs.Ythebegfceaehfaa
