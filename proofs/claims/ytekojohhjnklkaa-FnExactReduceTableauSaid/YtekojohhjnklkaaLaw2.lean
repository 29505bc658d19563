/- A callee's tableau that a region lays into a struct of its own, wherever the struct was laid. -/
import Derived.Test.YtekojohhjnklkaaPermL
import Derived.Test.YtekojohhjnklkaaOb
import Derived.Test.YtekojohhjnklkaaHold2
import Derived.Deep.Cut
namespace Go.Proofs.Ytekojohhjnklkaa
open Go.RowKit

structure NTb (W wc : World) (rs : Int) (rA rB : List Int) (b : Nat) (p : Option Addr) (n c : Nat) (q : Option Addr) (m d : Nat) : Prop where
  lo : W.heap.size ≤ b
  bk : wc.heap[b]? = some (.cells #[.int .i64 rs, .slice p n c, .slice q m d] 27 (0, 0))
  nt : NewT W wc rA rB p n c q m d
theorem NTb.early {W V0 V : World} {rs : Int} {rA rB : List Int} {b : Nat} {p : Option Addr} {n c : Nat} {q : Option Addr} {m d : Nat} {x y z : Value}
    (hz : V.heap[b]? = some (.cells #[x, y, z] 27 (0, 0))) (hb : W.heap.size ≤ b) (hlt : b < V0.heap.size) (h : NewT V0 V rA rB p n c q m d) (hB : Below W.heap.size W V0) :
    NTb W (((V.setCell ⟨b, 0, none⟩ (.int .i64 rs)).setCell ⟨b, 1, none⟩ (.slice p n c)).setCell ⟨b, 2, none⟩ (.slice q m d)) rs rA rB b p n c q m d :=
  ⟨hb, heap_setCell_same _ _ _ _ _ _ (heap_setCell_same _ _ _ _ _ _ (heap_setCell_same _ _ _ _ _ _ hz)), newT_stores h hB hb hlt _ _ _⟩
theorem NTb.late {W V0 V : World} {rs : Int} {rA rB : List Int} {p : Option Addr} {n c : Nat} {q : Option Addr} {m d : Nat} (h : NewT V0 V rA rB p n c q m d) (hB : Below W.heap.size W V0) :
    NTb W (V.alloc (.cells #[.int .i64 rs, .slice p n c, .slice q m d] 27)) rs rA rB V.heap.size p n c q m d :=
  ⟨Nat.le_trans hB.size h.2.2.2.size, bk_new _ _ _, (h.1.alloc _).mono hB.size, (h.2.1.alloc _).mono hB.size, h.2.2.1, (hB.trans (h.2.2.2.mono hB.size)).alloc (Nat.le_trans hB.size h.2.2.2.size) _⟩
end Go.Proofs.Ytekojohhjnklkaa
