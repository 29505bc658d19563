/- What a law knows between its calls. -/
import Derived.Test.YtekojohhjnklkaaLawTab
import Derived.Deep.RegionHeld3
namespace Go.Proofs.Ytekojohhjnklkaa
open Go.RowKit

/-- The law began in w and stands in wi: what was there is as it was; its first argument's box lies at the head of the new blocks. -/
structure St (w wi : World) (cs : Array Value) (t : TypeId) : Prop where
  below : Below w.heap.size w wi
  size : w.heap.size < wi.heap.size
  box : wi.heap[w.heap.size]? = some (.cells cs t (0, 0))
theorem St.first (w : World) (cs : Array Value) (t : TypeId) : St w (w.alloc (.cells cs t)) cs t :=
  ⟨below_box _ _, by simp, heap_alloc_at _ _ _ _ rfl⟩
theorem St.step {w wi wj : World} {cs : Array Value} {t : TypeId} (h : St w wi cs t) (hb : Below wi.heap.size wi wj) : St w wj cs t :=
  ⟨h.below.trans (hb.mono (Nat.le_of_lt h.size)), Nat.lt_of_lt_of_le h.size hb.size, (hb.block _ h.size).trans h.box⟩
theorem St.alloc {w wi : World} {cs : Array Value} {t : TypeId} (h : St w wi cs t) (o : Obj) : St w (wi.alloc o) cs t := h.step (below_box _ _)
theorem St.drew {w wi : World} {cs : Array Value} {t : TypeId} (h : St w wi cs t) : St w wi.drew cs t := ⟨h.below.drew, h.size, h.box⟩
/-- A mark: blocks from the law's own on were written, the box was not. -/
theorem St.grown {w wi wj : World} {cs : Array Value} {t : TypeId} (h : St w wi cs t) {r : Option Nat} (hg : wi.grownBy wj r) (hr : ∀ k, r = some k → w.heap.size < k) : St w wj cs t :=
  ⟨h.below.grown hg (Nat.le_of_lt h.size) (fun k hk => Nat.le_of_lt (hr k hk)), Nat.lt_of_lt_of_le h.size hg.size, (hg.block _ h.size (fun e => by have := hr _ e.symm; omega)).trans h.box⟩
/-- The block of a row of the call's own is not below its bound, and it is there. -/
theorem Fr.blkN_bd {w : World} {lo : Nat} {ao : Option Addr} {n c : Nat} {xs : List Int} (h : Fr w lo ao n c xs) : ∀ k, blkN ao n = some k → lo ≤ k ∧ k < w.heap.size := by
  intro k hk
  unfold blkN at hk
  split at hk
  · cases hk
  · obtain ⟨b, o, e, hc⟩ := h.rd.cell 0 (by omega)
    subst e
    simp [blk] at hk
    subst hk
    exact ⟨(h.own _ _ _ rfl (by omega)).1, World.block_lt_of_cell? w _ hc⟩
/-- Rows of two times share no block. -/
theorem Fr.sep {w w' : World} {lo lo' : Nat} {a1 : Option Addr} {n1 c1 : Nat} {A : List Int} {a2 : Option Addr} {n2 c2 : Nat} {B : List Int} (h : Fr w lo a1 n1 c1 A) (k : Fr w' lo' a2 n2 c2 B) (hl : w.heap.size ≤ lo') : Sep a1 n1 a2 n2 := by
  intro h1 h2 e
  obtain ⟨b, o, ea, hc⟩ := h.rd.cell 0 h1
  obtain ⟨b', o', ea', hc'⟩ := k.rd.cell 0 h2
  subst ea ea'
  have i1 := World.block_lt_of_cell? w _ hc
  have i2 := (k.own _ _ _ rfl h2).1
  simp [blk] at e
  simp at i1
  omega
theorem Sep.symm {a1 : Option Addr} {n1 : Nat} {a2 : Option Addr} {n2 : Nat} (h : Sep a1 n1 a2 n2) : Sep a2 n2 a1 n1 := fun x y e => h y x e.symm
theorem Rd.grownN {w w' : World} {ao : Option Addr} {n c : Nat} {xs : List Int} (h : Rd w ao n c xs) {bo : Option Addr} {m : Nat} (hg : w.grownBy w' (blkN bo m)) (hs : Sep bo m ao n) : Rd w' ao n c xs :=
  h.grown hg fun hn => by
    rcases Nat.eq_zero_or_pos m with h0 | h0
    · exact .inr (if_pos h0)
    · rw [blkN_pos h0]; exact .inl fun e => hs h0 hn e.symm
theorem of_drew {B : Nat} {a w : World} (h : Below B a.drew w) : Below B a w := ⟨h.os, h.tape, h.output, h.size, h.block⟩
theorem drew_below {B : Nat} {a w : World} (h : Below B a w) : Below B a.drew w := ⟨h.os, h.tape, h.output, h.size, h.block⟩
/-- Two blocks of three cells, as the loads of a region want them. -/
theorem keep6 {w : World} {b b' : Nat} {x y z x' y' z' : Value} {e e' : TypeId} (h : w.heap[b]? = some (.cells #[x, y, z] e (0, 0))) (h' : w.heap[b']? = some (.cells #[x', y', z'] e' (0, 0))) :
    ∀ w', Below w.heap.size w w' → w'.cell? ⟨b, 0, none⟩ = some x ∧ w'.cell? ⟨b, 1, none⟩ = some y ∧ w'.cell? ⟨b, 2, none⟩ = some z ∧ w'.cell? ⟨b', 0, none⟩ = some x' ∧ w'.cell? ⟨b', 1, none⟩ = some y' ∧ w'.cell? ⟨b', 2, none⟩ = some z' := by
  intro w' hB
  have l1 := (Array.getElem?_eq_some_iff.1 h).1
  have l2 := (Array.getElem?_eq_some_iff.1 h').1
  obtain ⟨⟨q0, q1, q2⟩, _⟩ := blk3 ((hB.block b l1).trans h)
  obtain ⟨⟨p0, p1, p2⟩, _⟩ := blk3 ((hB.block b' l2).trans h')
  exact ⟨q0, q1, q2, p0, p1, p2⟩
end Go.Proofs.Ytekojohhjnklkaa
