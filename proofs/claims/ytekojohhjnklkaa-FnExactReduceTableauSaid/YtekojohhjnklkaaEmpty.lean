/- A tableau with zeros, in new memory. -/
import Derived.Test.YtekojohhjnklkaaNodesOf
import Derived.Test.YtekojohhjnklkaaOb
import Derived.RegionTactic
import Derived.BigRegion
namespace Go.Proofs.Ytekojohhjnklkaa
open Go.RowKit

def zeros (n : Nat) : Array Value := ((List.replicate n (0 : Int)).map (Value.int .i64)).toArray
theorem run_mk (n : Nat) (z : Int) (hz : z = n) (hn : n ≤ 2097152) (w : World) :
    (Instr.makeSlice 22 (.int .i64 z) (.int .i64 z)).run Try.prog w = .ok (.slice (some ⟨w.heap.size, 0, none⟩) n n) (w.alloc (.cells (zeros n) 3)) := by
  obtain ⟨i, hi, hz0, hz1, hz2⟩ := info_parts info_int
  subst hz
  have h := run_make (P := Try.prog) w 22 3 i (.int .i64 0) Try.underlying22 hi hz0 .i64 .i64 n n (by omega) (Int.le_refl _) (by rw [hz2]; omega) (by omega)
  rw [h, Int.toNat_natCast, hz1]
  have e : madeCells (Value.int .i64 0).cells (n * 1) = zeros n := by
    apply Array.toList_inj.1
    rw [show (Value.int .i64 0).cells = #[Value.int .i64 0] from rfl, Nat.mul_one, toList_madeCells_one]
    simp [zeros]
  rw [e]
theorem fr_zeros {w : World} {lo b n : Nat} (h : w.heap[b]? = some (.cells (zeros n) 3 (0, 0))) (hb : lo ≤ b) (hn : n ≤ 2097152) : Fr w lo (some ⟨b, 0, none⟩) n n (List.replicate n 0) := by
  refine ⟨⟨by simp, Nat.le_refl _, by omega, fun i hi => ⟨b, 0, rfl, ?_⟩, fun x hx => by rw [(List.mem_replicate.1 hx).2]; exact ⟨by decide, by decide⟩⟩, fun b' o s e _ => ?_⟩
  · rw [Nat.zero_add, cell_of_row w b i _ _ _ h]
    simp [zeros, List.getD, hi]
  · simp only [Option.some.injEq, Addr.mk.injEq] at e
    obtain ⟨rfl, rfl, rfl⟩ := e
    exact ⟨hb, fun i _ => frozen_of_row w _ _ _ _ h⟩
theorem two_blocks (w : World) (X : Obj) (m n : Nat) (hm : m ≤ 2097152) (hn : n ≤ 2097152) :
    Fr (((w.alloc X).alloc (.cells (zeros m) 3)).alloc (.cells (zeros n) 3)).drew w.heap.size (some ⟨w.heap.size + 1, 0, none⟩) m m (List.replicate m 0) ∧
    Fr (((w.alloc X).alloc (.cells (zeros m) 3)).alloc (.cells (zeros n) 3)).drew w.heap.size (some ⟨w.heap.size + 1 + 1, 0, none⟩) n n (List.replicate n 0) ∧
    Below w.heap.size w (((w.alloc X).alloc (.cells (zeros m) 3)).alloc (.cells (zeros n) 3)).drew ∧
    (((w.alloc X).alloc (.cells (zeros m) 3)).alloc (.cells (zeros n) 3)).drew.heap[w.heap.size]? = some X := by
  have e1 : ((w.alloc X).alloc (.cells (zeros m) 3)).heap.size = w.heap.size + 1 + 1 := by simp
  have e2 : (w.alloc X).heap.size = w.heap.size + 1 := by simp
  refine ⟨fr_zeros (w := (((w.alloc X).alloc (.cells (zeros m) 3)).alloc (.cells (zeros n) 3)).drew) ?_ (by omega) hm, fr_zeros (w := (((w.alloc X).alloc (.cells (zeros m) 3)).alloc (.cells (zeros n) 3)).drew) ?_ (by omega) hn, ?_, ?_⟩
  · show (((w.alloc X).alloc _).alloc _).heap[w.heap.size + 1]? = _
    rw [heap_alloc_past _ _ _ (by omega), heap_alloc_at _ _ _ _ e2.symm]
  · show (((w.alloc X).alloc _).alloc _).heap[w.heap.size + 1 + 1]? = _
    rw [heap_alloc_at _ _ _ _ e1.symm]
  · exact ((((below_box w X).alloc (by omega) _).alloc (by omega) _)).drew
  · show (((w.alloc X).alloc _).alloc _).heap[w.heap.size]? = _
    rw [heap_alloc_past _ _ _ (by omega), heap_alloc_past _ _ _ (by omega)]
    exact _root_.Go.heap_alloc_new w X
/-- What 'empty' leaves. -/
def Blank (w w' : World) (nA S bA bB : Nat) : Prop :=
  Fr w' w.heap.size (some ⟨bA, 0, none⟩) nA nA (List.replicate nA 0) ∧ Fr w' w.heap.size (some ⟨bB, 0, none⟩) S S (List.replicate S 0) ∧ bA ≠ bB ∧ Below w.heap.size w w' ∧ w.heap.size ≤ bA ∧ w.heap.size ≤ bB ∧ bA < w'.heap.size ∧ bB < w'.heap.size
theorem impl_empty (S nA : Nat) (w : World) (hS : S ≤ 8) (hA : nA = S * S) :
    Calls Try.prog 66 #[.int .i64 S] w fun e w' => ∃ bA bB, e = .returned (.agg #[.int .i64 S, .slice (some ⟨bA, 0, none⟩) nA nA, .slice (some ⟨bB, 0, none⟩) S S]) ∧ Blank w w' nA S bA bB := by
  have hq : (S : Int) * (S : Int) = ((nA : Nat) : Int) := by rw [hA, Int.natCast_mul]
  have hq2 : nA ≤ 64 := by rw [hA]; exact Nat.mul_le_mul hS hS
  have f1 : (0 : Int) ≤ (S : Int) * (S : Int) := by rw [hq]; omega
  have f2 : (S : Int) * (S : Int) ≤ 64 := by rw [hq]; omega
  have m1 := run_mk nA ((S : Int) * (S : Int)) hq (by omega)
  have m2 := run_mk S (S : Int) rfl (by omega)
  clear hq hA
  go_enter Try.func66, Try.ntmps66
  go_wp2_with fail
  go_region
  all_goals go_wp2_with fail
  · obtain ⟨h1, h2, h3, h4⟩ := two_blocks w (.cells #[.int .i64 S, .slice (some ⟨w.heap.size + 1, 0, none⟩) nA nA, .slice (some ⟨w.heap.size + 1 + 1, 0, none⟩) S S] 27) nA S (by omega) (by omega)
    exact ret_tab (b := w.heap.size) rfl rfl h4 rfl ⟨_, _, rfl, h1, h2, by omega, h3, by omega, by omega, by simp, by simp⟩
  · obtain ⟨h1, h2, h3, h4⟩ := two_blocks w (.cells #[.int .i64 S, .slice (some ⟨w.heap.size + 1 + 1, 0, none⟩) nA nA, .slice (some ⟨w.heap.size + 1, 0, none⟩) S S] 27) S nA (by omega) (by omega)
    exact ret_tab (b := w.heap.size) rfl rfl h4 rfl ⟨_, _, rfl, h2, h1, by omega, h3, by omega, by omega, by simp, by simp⟩
end Go.Proofs.Ytekojohhjnklkaa
