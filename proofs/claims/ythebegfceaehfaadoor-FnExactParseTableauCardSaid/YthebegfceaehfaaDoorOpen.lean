/- The arguments of a law, opened: an int, a slice of ints, a tableau. -/
import Derived.Test.YthebegfceaehfaaDoorLawTab
import Derived.OpenShut
import Derived.ShutString
import Derived.ChangeOld
import Derived.Lib.SmallJoins
namespace Go.Proofs.YthebegfceaehfaaDoor
open Go.ChangeShapes Go.WideShapes Go.ChangeAt Go.RowKit

theorem own : ownKnob Tryd.prog.godebug = none := by kernel_rfl
theorem laidOut : laidOutB Tryd.prog = true := by kernel_rfl

theorem Rd.of_open {w : World} {x : Addr} {len cap : Nat} {zs : List Int} (hl : len ≤ cap) (hm : cap ≤ maxLen) (hz : zs.length = cap)
    (hcell : ∀ i, i < zs.length → w.cell? (x.add i) = some (.int .i64 (zs.getD i 0))) (hw : ∀ n ∈ zs, (Lit.int .i64 n).wf = true) : Rd w (some x) len cap (zs.take len) := by
  refine ⟨by rw [List.length_take]; omega, hl, by unfold maxLen at hm; omega, fun i hi => ?_, fun n hn => bounds_i64 (hw n (List.mem_of_mem_take hn))⟩
  obtain ⟨b, o, sp⟩ := x
  have h0 := hcell 0 (by omega)
  have hsp : sp = none := by simpa [Addr.add] using World.cell?_spot h0
  subst hsp
  refine ⟨b, o, rfl, ?_⟩
  have h := hcell i (by omega)
  rw [Addr.add_lit] at h
  rw [h]
  simp [List.getD, hi]

section
variable {H : Type} {enc : TypeId × Value → H} {W : World}
theorem open_row {n : Nat} {v : Value} {x : DataW H × List MemPlace} (h : DataW.trod enc Tryd.prog W 0 (fun _ => true) true n 22 [v] = some x) :
    ∃ a l c xs, v = .slice a l c ∧ Rd W a l c xs := by
  rcases open_ints Tryd.underlying22 Tryd.underlying3 (by kernel_rfl) h with ⟨hcs, _⟩ | ⟨x, l, c, zs, hcs, _, hl, hm, hz, _, hcell, hwz⟩
  · simp only [List.cons.injEq, and_true] at hcs
    exact ⟨_, _, _, [], hcs, Rd.nil _ _ _ (by omega)⟩
  · simp only [List.cons.injEq, and_true] at hcs
    exact ⟨_, _, _, _, hcs, Rd.of_open hl hm (by simpa using hz) hcell hwz⟩
theorem open_rowV {b0 : Nat} {r : Reach} {v : Value} {d : DataW H} {p : List MemPlace} (hv : Value.okWide Tryd.prog W r b0 22 v) (h : DataW.Trod enc Tryd.prog W 0 (fun _ => true) true 22 v d p) :
    ∃ a l c xs, v = .slice a l c ∧ Rd W a l c xs := by
  obtain ⟨a0, len0, cap0, rfl⟩ := okWide_slice Tryd.underlying22 hv
  obtain ⟨fuel, hf⟩ := h
  exact open_row hf
theorem open_intF {n : Nat} {v : Value} {x : DataW H × List MemPlace} (h : DataW.trod enc Tryd.prog W 0 (fun _ => true) true n 3 [v] = some x) : ∃ s, v = .int .i64 s ∧ I64 s := by
  obtain ⟨s, e, _, hw⟩ := DataW.trod_int Tryd.underlying3 h
  simp only [List.cons.injEq, and_true] at e
  exact ⟨s, e, bounds_i64 hw⟩
end
end Go.Proofs.YthebegfceaehfaaDoor
