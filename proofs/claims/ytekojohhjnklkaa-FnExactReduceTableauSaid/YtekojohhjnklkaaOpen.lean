/- The arguments of a law, opened: an int, a slice of ints, a tableau. -/
import Derived.Test.YtekojohhjnklkaaLawTab
import Derived.OpenShut
import Derived.ShutString
import Derived.ChangeOld
import Derived.Lib.SmallJoins
namespace Go.Proofs.Ytekojohhjnklkaa
open Go.ChangeShapes Go.WideShapes Go.ChangeAt Go.RowKit

theorem own : ownKnob Try.prog.godebug = none := by kernel_rfl
theorem laidOut : laidOutB Try.prog = true := by kernel_rfl

theorem Rd.of_open {w : World} {x : Addr} {len cap : Nat} {zs : List Int} (hl : len ≤ cap) (hm : cap ≤ maxLen) (hz : zs.length = cap)
    (hcell : ∀ i, i < zs.length → w.cell? (x.add i) = some (.int .i64 (zs.getD i 0))) (hw : ∀ n ∈ zs, (Lit.int .i64 n).wf = true) : Rd w (some x) len cap (zs.take len) := by
  refine ⟨by rw [List.length_take]; omega, hl, by unfold maxLen at hm; omega, fun i hi => ?_, fun n hn => bounds_i64 (hw n (List.mem_of_mem_take hn))⟩
  obtain ⟨b, o, sp⟩ := x
  have h0 := hcell 0 (by omega)
  have hsp : sp = none := by simpa [Addr.add] using World.cell?_spot h0
  subst hsp
  refine ⟨b, o, rfl, ?_⟩
  have h := hcell i (by omega)
  rw [Addr.add_lit] at h
  rw [h]
  simp [List.getD, hi]

section
variable {H : Type} {enc : TypeId × Value → H} {W : World}
theorem open_row {n : Nat} {v : Value} {x : DataW H × List MemPlace} (h : DataW.trod enc Try.prog W 0 (fun _ => true) true n 22 [v] = some x) :
    ∃ a l c xs, v = .slice a l c ∧ Rd W a l c xs := by
  rcases open_ints Try.underlying22 Try.underlying3 (by kernel_rfl) h with ⟨hcs, _⟩ | ⟨x, l, c, zs, hcs, _, hl, hm, hz, _, hcell, hwz⟩
  · simp only [List.cons.injEq, and_true] at hcs
    exact ⟨_, _, _, [], hcs, Rd.nil _ _ _ (by omega)⟩
  · simp only [List.cons.injEq, and_true] at hcs
    exact ⟨_, _, _, _, hcs, Rd.of_open hl hm (by simpa using hz) hcell hwz⟩
theorem open_rowV {b0 : Nat} {r : Reach} {v : Value} {d : DataW H} {p : List MemPlace} (hv : Value.okWide Try.prog W r b0 22 v) (h : DataW.Trod enc Try.prog W 0 (fun _ => true) true 22 v d p) :
    ∃ a l c xs, v = .slice a l c ∧ Rd W a l c xs := by
  obtain ⟨a0, len0, cap0, rfl⟩ := okWide_slice Try.underlying22 hv
  obtain ⟨fuel, hf⟩ := h
  exact open_row hf
theorem open_intF {n : Nat} {v : Value} {x : DataW H × List MemPlace} (h : DataW.trod enc Try.prog W 0 (fun _ => true) true n 3 [v] = some x) : ∃ s, v = .int .i64 s ∧ I64 s := by
  obtain ⟨s, e, _, hw⟩ := DataW.trod_int Try.underlying3 h
  simp only [List.cons.injEq, and_true] at e
  exact ⟨s, e, bounds_i64 hw⟩
theorem open_tab {b0 : Nat} {r : Reach} {v : Value} {d : DataW H} {p : List MemPlace} (hv : Value.okWide Try.prog W r b0 24 v)
    (h : DataW.Trod enc Try.prog W 0 (fun _ => true) true 24 v d p) :
    ∃ s a n c A b m d' B, v = .agg #[.int .i64 s, .slice a n c, .slice b m d'] ∧ Rd W a n c A ∧ Rd W b m d' B ∧ I64 s := by
  obtain ⟨x0, x1, x2, y0, y1, y2, m, rfl, _, _, t0, t1, t2⟩ := Joins.open_agg3 Try.underlying24 (by kernel_rfl) (by kernel_rfl) hv h
  obtain ⟨s, rfl, hs⟩ := open_intF t0
  obtain ⟨a, n, c, A, rfl, hA⟩ := open_row t1
  obtain ⟨b, m, d', B, rfl, hB⟩ := open_row t2
  exact ⟨s, a, n, c, A, b, m, d', B, rfl, hA, hB, hs⟩
end
end Go.Proofs.Ytekojohhjnklkaa
