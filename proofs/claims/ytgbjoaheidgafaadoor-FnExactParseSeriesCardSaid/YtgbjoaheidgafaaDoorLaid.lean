/- The table of the numbers of trees, out of the row's condition. -/
import Derived.Test.YtgbjoaheidgafaaDoorSer
import Derived.Test.YtgbjoaheidgafaaDoorOpen
import Derived.ProofKit
import Derived.LaidMore
import Derived.LaidHandle
import Derived.MakeChecks
import Derived.Stop.Joined
namespace Go.Proofs.YtgbjoaheidgafaaDoor
open Go.ChangeShapes Go.WideShapes Go.ChangeAt Go.RowKit

theorem gTrees : Tryd.prog.globalNamed "loop.example/g03110/impl.treeCounts" = some 0 := by kernel_rfl
theorem tTrees : (Tryd.prog.globals[0]?).map (·.type) = some 22 := by kernel_rfl
theorem lits_inj {H : Type} : ∀ {xs ys : List Int}, (lits .i64 xs : List (DataW H)) = lits .i64 ys → xs = ys
  | [], [], _ => rfl
  | [], y :: ys, h => by simp [lits] at h
  | x :: xs, [], h => by simp [lits] at h
  | x :: xs, y :: ys, h => by
    simp only [lits, List.map_cons, List.cons.injEq, DataW.lit.injEq, Lit.int.injEq, true_and] at h
    rw [h.1, lits_inj (H := H) h.2]
theorem tc_of_cells {enc : TypeId × Value → Unit} {W : World} {cs : Array Value} {fuel : Nat} {sp : Nat → Bool} {held : Bool} {p : List MemPlace} (hv : W.var? Tryd.prog "loop.example/g03110/impl.treeCounts" = some cs)
    (hd : DataW.trod enc Tryd.prog W 0 sp held fuel 22 cs.toList = some (Rows.laid_loop_example_g03110_impl_treeCounts, p)) : Tc W := by
  rcases open_ints Tryd.underlying22 Tryd.underlying3 (by kernel_rfl) hd with ⟨_, hx⟩ | ⟨⟨b, o, s⟩, len, cap, zs, hcs, _, hl, hm, hz, hx, hcell, hw⟩
  · simp [Rows.laid_loop_example_g03110_impl_treeCounts] at hx
  · simp only [Prod.mk.injEq] at hx
    have e0 : (DataW.slice (lits .i64 treesL) (lits .i64 []) : DataW Unit) = .slice (lits .i64 (zs.take len)) (lits .i64 (zs.drop len)) := hx.1
    simp only [DataW.slice.injEq] at e0
    have e1 := lits_inj e0.1
    have e2 := lits_inj e0.2
    have hlen : len ≤ zs.length := by rw [hz]; split <;> omega
    have hz7 : zs.length = len := by
      have := congrArg List.length e2
      simp at this
      omega
    have ez : zs = treesL := by rw [e1, ← hz7, List.take_length]
    subst ez
    have h7 : len = 7 := hz7.symm
    subst h7
    have h0 := hcell 0 (by decide)
    have hsp : s = none := by simpa [Addr.add] using World.cell?_spot h0
    subst hsp
    have hc := World.var?_cell gTrees hv 0
    rw [Array.eq_one_of_toList hcs] at hc
    refine ⟨b, o, cap, by simpa using hc, rfl, hl, by unfold maxLen at hm; omega, fun i hi => ⟨b, o, rfl, ?_⟩, fun x hx => bounds_i64 (hw x hx)⟩
    have h := hcell i hi
    rwa [Addr.add_lit] at h
end Go.Proofs.YtgbjoaheidgafaaDoor
