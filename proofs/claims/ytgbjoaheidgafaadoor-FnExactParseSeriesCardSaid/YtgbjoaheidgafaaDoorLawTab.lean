/- The law's own helpers on tableaus. -/
import Derived.Test.YtgbjoaheidgafaaDoorLaw
namespace Go.Proofs.YtgbjoaheidgafaaDoor
open Go.RowKit

abbrev tab (s : Int) (a1 : Option Addr) (n1 c1 : Nat) (a2 : Option Addr) (n2 c2 : Nat) : Value := .agg #[.int .i64 s, .slice a1 n1 c1, .slice a2 n2 c2]
theorem below_box (w : World) (o : Obj) : Below w.heap.size w (w.alloc o) := (Below.refl _ _).alloc (Nat.le_refl _) o

theorem bcell {W w1 : World} (hb : Below W.heap.size W w1) : (∀ b o, b < W.heap.size → w1.cell? ⟨b, o, none⟩ = W.cell? ⟨b, o, none⟩) ∧ (∀ b o, b < W.heap.size → w1.frozen? ⟨b, o, none⟩ = W.frozen? ⟨b, o, none⟩) :=
  ⟨fun b o h => hb.cell (p := ⟨b, o, none⟩) h, fun b o h => hb.frozen (p := ⟨b, o, none⟩) h⟩

theorem blk_ne {a b o : Nat} {s : Option Nat} (h : a ≠ b) : blk (some ⟨a, o, s⟩) ≠ some b := by simpa [blk] using h
/-- A struct's block, known whole. -/
theorem blk3 {w : World} {b : Nat} {x y z : Value} {e : TypeId} (h : w.heap[b]? = some (.cells #[x, y, z] e (0, 0))) :
    (w.cell? ⟨b, 0, none⟩ = some x ∧ w.cell? ⟨b, 1, none⟩ = some y ∧ w.cell? ⟨b, 2, none⟩ = some z) ∧ w.frozen? ⟨b, 0, none⟩ = false ∧ w.frozen? ⟨b, 1, none⟩ = false ∧ w.frozen? ⟨b, 2, none⟩ = false :=
  ⟨⟨cell_of_row w b 0 _ _ _ h, cell_of_row w b 1 _ _ _ h, cell_of_row w b 2 _ _ _ h⟩, frozen_of_row w b 0 _ _ h, frozen_of_row w b 1 _ _ h, frozen_of_row w b 2 _ _ h⟩
theorem heap_alloc_at (w : World) (c : Array Value) (e : TypeId) (b : Nat) (h : b = w.heap.size) : (w.alloc (.cells c e)).heap[b]? = some (.cells c e (0, 0)) := by subst h; exact _root_.Go.heap_alloc_new w _
theorem heap_alloc_past (w : World) (o : Obj) (b : Nat) (h : b < w.heap.size) : (w.alloc o).heap[b]? = w.heap[b]? := Below.heap_alloc w o b h
theorem Fr.setCell {w : World} {lo : Nat} {ao : Option Addr} {n c : Nat} {xs : List Int} (h : Fr w lo ao n c xs) {b k : Nat} (v : Value) (hne : blk ao ≠ some b) : Fr (w.setCell ⟨b, k, none⟩ v) lo ao n c xs :=
  h.grown (grown_setCell w b k v) (fun _ => .inl hne)
/-- toTableau: a tableau in new memory. -/
def NewTab (w w' : World) (A B : List Int) (a1 : Option Addr) (n1 c1 : Nat) (a2 : Option Addr) (n2 c2 : Nat) : Prop :=
  Fr w' w.heap.size a1 n1 c1 A ∧ Fr w' w.heap.size a2 n2 c2 B ∧ (0 < n1 → 0 < n2 → blk a1 ≠ blk a2) ∧ Below w.heap.size w w'
/-- Two slices that share no block. -/
def Sep (a1 : Option Addr) (n1 : Nat) (a2 : Option Addr) (n2 : Nat) : Prop := 0 < n1 → 0 < n2 → blk a1 ≠ blk a2
theorem Fr.grownN {w w' : World} {lo : Nat} {ao : Option Addr} {n c : Nat} {xs : List Int} (h : Fr w lo ao n c xs) {bo : Option Addr} {m : Nat} (hg : w.grownBy w' (blkN bo m)) (hs : Sep bo m ao n) : Fr w' lo ao n c xs :=
  h.grown hg fun hn => by
    rcases Nat.eq_zero_or_pos m with h0 | h0
    · exact .inr (if_pos h0)
    · rw [blkN_pos h0]; exact .inl fun e => hs h0 hn e.symm
end Go.Proofs.YtgbjoaheidgafaaDoor
