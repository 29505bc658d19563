/- What a law keeps of its objects between its calls. -/
import Derived.Test.YtekojohhjnklkaaSt
namespace Go.Proofs.Ytekojohhjnklkaa
open Go.RowKit

/-- An object of the law's own: a slice, its block between lo and hi. -/
structure Ob (w : World) (lo hi : Nat) (ao : Option Addr) (n c : Nat) (xs : List Int) : Prop where
  fr : Fr w lo ao n c xs
  hi : ∀ k, blkN ao n = some k → k < hi
theorem Ob.mk' {w : World} {lo : Nat} {ao : Option Addr} {n c : Nat} {xs : List Int} (h : Fr w lo ao n c xs) : Ob w lo w.heap.size ao n c xs := ⟨h, fun k hk => (h.blkN_bd k hk).2⟩
theorem Ob.bd {w : World} {lo hi : Nat} {ao : Option Addr} {n c : Nat} {xs : List Int} (h : Ob w lo hi ao n c xs) : ∀ k, blkN ao n = some k → lo ≤ k ∧ k < hi := fun k hk => ⟨(h.fr.blkN_bd k hk).1, h.hi k hk⟩
theorem Ob.below {w w' : World} {lo hi : Nat} {ao : Option Addr} {n c : Nat} {xs : List Int} (h : Ob w lo hi ao n c xs) (hb : Below w.heap.size w w') : Ob w' lo hi ao n c xs := ⟨h.fr.below hb, h.hi⟩
theorem Ob.alloc {w : World} {lo hi : Nat} {ao : Option Addr} {n c : Nat} {xs : List Int} (h : Ob w lo hi ao n c xs) (o : Obj) : Ob (w.alloc o) lo hi ao n c xs := ⟨h.fr.alloc o, h.hi⟩
theorem Ob.drew {w : World} {lo hi : Nat} {ao : Option Addr} {n c : Nat} {xs : List Int} (h : Ob w lo hi ao n c xs) : Ob w.drew lo hi ao n c xs := h.below ((Below.refl _ _).drew)
theorem Ob.grown {w w' : World} {lo hi : Nat} {ao : Option Addr} {n c : Nat} {xs : List Int} (h : Ob w lo hi ao n c xs) {bo : Option Addr} {m : Nat} (hg : w.grownBy w' (blkN bo m)) (hs : ∀ k, blkN bo m = some k → k < lo ∨ hi ≤ k) : Ob w' lo hi ao n c xs :=
  ⟨h.fr.grown hg fun hn => by
    cases e : blkN bo m with
    | none => exact .inr rfl
    | some k =>
      refine .inl fun e' => ?_
      have h1 := h.bd k (by rw [blkN_pos hn, e'])
      have h2 := hs k e
      omega, h.hi⟩
theorem bk_below {w w' : World} {b : Nat} {o : Obj} (h : w.heap[b]? = some o) (hb : Below w.heap.size w w') : w'.heap[b]? = some o := (hb.block b (Array.getElem?_eq_some_iff.1 h).1).trans h
theorem bk_alloc {w : World} {b : Nat} {o : Obj} (h : w.heap[b]? = some o) (o' : Obj) : (w.alloc o').heap[b]? = some o := bk_below h (below_box w o')
theorem bk_drew {w : World} {b : Nat} {o : Obj} (h : w.heap[b]? = some o) : w.drew.heap[b]? = some o := h
theorem bk_new (w : World) (c : Array Value) (e : TypeId) : (w.alloc (.cells c e)).heap[w.heap.size]? = some (.cells c e (0, 0)) := heap_alloc_at _ _ _ _ rfl
theorem bk_grown {w w' : World} {b : Nat} {o : Obj} (h : w.heap[b]? = some o) {r : Option Nat} (hg : w.grownBy w' r) (hs : ∀ k, r = some k → k ≠ b) : w'.heap[b]? = some o :=
  (hg.block b (Array.getElem?_eq_some_iff.1 h).1 (fun e => hs b e.symm rfl)).trans h
theorem bk_lt {w : World} {b : Nat} {o : Obj} (h : w.heap[b]? = some o) : b < w.heap.size := (Array.getElem?_eq_some_iff.1 h).1
theorem l_below {w0 w w' : World} (h : Below w0.heap.size w0 w) (hb : Below w.heap.size w w') : Below w0.heap.size w0 w' := h.trans (hb.mono h.size)
theorem l_alloc {w0 w : World} (h : Below w0.heap.size w0 w) (o : Obj) : Below w0.heap.size w0 (w.alloc o) := h.alloc h.size o
theorem l_grown {w0 w w' : World} (h : Below w0.heap.size w0 w) {r : Option Nat} (hg : w.grownBy w' r) (hs : ∀ k, r = some k → w0.heap.size ≤ k) : Below w0.heap.size w0 w' := h.grown hg h.size hs
theorem sz_alloc {w w' : World} {o : Obj} (h : Below (w.alloc o).heap.size (w.alloc o) w') : w.heap.size + 1 ≤ w'.heap.size := by have := h.size; simpa using this
end Go.Proofs.Ytekojohhjnklkaa
