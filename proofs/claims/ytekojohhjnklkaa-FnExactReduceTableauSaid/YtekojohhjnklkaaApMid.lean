/- An append inside a region that draws its order. -/
import Derived.Test.YtekojohhjnklkaaAp
import Derived.Test.YtekojohhjnklkaaHold
namespace Go.Proofs.Ytekojohhjnklkaa
open Go.RowKit
theorem grown_alloc (w : World) (o : Obj) (r : Option Nat) : w.grownBy (w.alloc o) r := ⟨rfl, rfl, rfl, by simp, fun k hk _ => heap_alloc_past w o k hk⟩
end Go.Proofs.Ytekojohhjnklkaa
