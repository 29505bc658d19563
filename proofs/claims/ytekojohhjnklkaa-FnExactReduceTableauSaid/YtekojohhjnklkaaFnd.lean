/- The search for a row among rows: slices.IndexFunc with the program's closure. -/
import Derived.Test.YtekojohhjnklkaaFd
import Derived.Test.YtekojohhjnklkaaRedC
import Derived.Test.YtekojohhjnklkaaShelf
namespace Go.Proofs.Ytekojohhjnklkaa
open Go.RowKit

/-- The first place, or -1. -/
def idxZ (F : List (List Int)) (y : List Int) : Int := if y ∈ F then (Red.idx F y : Int) else -1
theorem idxZ_mem {F : List (List Int)} {y : List Int} (h : y ∈ F) : idxZ F y = (Red.idx F y : Int) := if_pos h
theorem idxZ_no {F : List (List Int)} {y : List Int} (h : y ∉ F) : idxZ F y = -1 := if_neg h
theorem idx_at {α : Type} [DecidableEq α] {F : List α} {y : α} (h : y ∈ F) : Red.idx F y < F.length ∧ F[Red.idx F y]? = some y ∧ ∀ j, j < Red.idx F y → F[j]? ≠ some y := by
  have h1 := List.idxOf_lt_length_of_mem h
  refine ⟨h1, ?_, fun j hj e => ?_⟩
  · unfold Red.idx
    rw [List.getElem?_eq_getElem h1, List.getElem_idxOf h1]
  · unfold Red.idx at hj
    have h2 : j < F.length := Nat.lt_trans hj h1
    rw [List.getElem?_eq_getElem h2] at e
    simp only [Option.some.injEq] at e
    have h3 := List.not_of_lt_findIdx (p := (· == y)) (xs := F) hj
    simp only [e, beq_self_eq_true] at h3
    cases h3
theorem range_bang {N j : Nat} (h : j < N) : (List.range N)[j]! = j := by
  rw [List.getElem!_eq_getElem?_getD, List.getElem?_range h]
  rfl
theorem idxBy_idxZ {F : List (List Int)} {y : List Int} {N : Nat} (hN : F.length = N) : Lib.idxBy (fun _ (i : Nat) => (F.getD (if i < N then i else 0) [] == y)) ((List.range N).take N) default = idxZ F y := by
  have hb : ∀ j, j < N → (F.getD (if (List.range N)[j]! < N then (List.range N)[j]! else 0) [] == y) = (F.getD j [] == y) := fun j hj => by
    simp only [range_bang hj, if_pos hj]
  by_cases h : y ∈ F
  · rw [idxZ_mem h]
    obtain ⟨h1, h2, h3⟩ := idx_at h
    rw [hN] at h1
    refine Lib.idxBy_hit _ _ N _ default h1 (by simp) ?_ (fun j hj => ?_)
    · show (F.getD (if (List.range N)[Red.idx F y]! < N then (List.range N)[Red.idx F y]! else 0) [] == y) = true
      rw [hb _ h1, List.getD_eq_getElem?_getD, h2]
      exact beq_self_eq_true _
    · show (F.getD (if (List.range N)[j]! < N then (List.range N)[j]! else 0) [] == y) = false
      rw [hb j (by omega), beq_eq_false_iff_ne]
      intro e
      refine h3 j hj ?_
      rw [List.getD_eq_getElem?_getD, List.getElem?_eq_getElem (by omega)] at e
      rw [List.getElem?_eq_getElem (by omega)]
      exact congrArg some e
  · rw [idxZ_no h]
    refine Lib.idxBy_miss _ _ N default (fun j hj => ?_)
    show (F.getD (if (List.range N)[j]! < N then (List.range N)[j]! else 0) [] == y) = false
    rw [hb j hj, beq_eq_false_iff_ne]
    intro e
    rw [List.getD_eq_getElem?_getD, List.getElem?_eq_getElem (by omega)] at e
    exact h (e ▸ List.getElem_mem _)
theorem bi_cell {w : World} {b : Nat} {xs : List Int} (h : Bi w b xs) {j : Nat} (hj : j < xs.length) : w.cell? ⟨b, 0 + j, none⟩ = some (.int .i64 (xs.getD j 0)) := by
  rw [Nat.zero_add, cell_of_row w b j _ _ _ h]
  simp [ints, List.getD, hj]
theorem find_row {w : World} {lo : Nat} {v : Value} {L : Nat} {bs : List Nat} {F : List (List Int)} (h : Fd w lo v L bs F) {p q : Nat} {y : List Int} (hp : w.cell? ⟨p, 0, none⟩ = some (.slice (some ⟨q, 0, none⟩) L L)) (hq : Bi w q y) (hy : y.length = L) (hL : L ≤ 100) (hb : bs.length ≤ 100) :
    Calls Try.prog 90 #[v, .func (.func 91) #[] #[.pointer (some ⟨p, 0, none⟩)]] w fun e w' => e = .returned (.int .i64 (idxZ F y)) ∧ ∃ q, w' = w.drewN q := by
  have hpl := World.block_lt_of_cell? w _ hp
  have hql := bk_lt hq
  simp only at hpl
  by_cases h0 : bs.length = 0
  · obtain rfl := List.eq_nil_of_length_eq_zero h0
    obtain rfl : F = [] := List.eq_nil_of_length_eq_zero h.len
    obtain ⟨ao, c, rfl⟩ : ∃ ao c, v = .slice ao 0 c := by
      rcases h.out.2 with ⟨h1, _⟩ | ⟨g, cap, cur, h1, _⟩
      · exact ⟨_, _, h1⟩
      · exact ⟨_, _, h1⟩
    exact (Try.slices_IndexFunc_empty (α := Nat) ao c _ w).mono fun e w' h => ⟨h.1, 0, h.2⟩
  · rcases h.out.2 with ⟨_, h2⟩ | ⟨g, cap, cur, h1, _, _, h4, h5, _⟩
    · exact absurd h2 h0
    · have hbd : ∀ i, i < bs.length → bs.getD i 0 < w.heap.size := fun i hi => bk_lt (h.row i hi)
      have hF : ∀ i, i < bs.length → (F.getD i []).length = L := fun i hi => h.wd _ (by rw [List.getD_eq_getElem?_getD, List.getElem?_eq_getElem (by rw [h.len]; exact hi)]; exact List.getElem_mem _)
      have hP : PredAt Try.prog 91 #[.pointer (some ⟨p, 0, none⟩)] (fun i : Nat => Value.slice (some ⟨bs.getD (if i < bs.length then i else 0) 0, 0, none⟩) L L) (fun i => (F.getD (if i < bs.length then i else 0) [] == y)) w := fun W i hW => by
        obtain ⟨j, hj, hjl⟩ : ∃ j, (if i < bs.length then i else 0) = j ∧ j < bs.length := ⟨_, rfl, by split <;> omega⟩
        show FnGives Try.prog _ _ #[Value.slice (some ⟨bs.getD (if i < bs.length then i else 0) 0, 0, none⟩) L L] (.bool (F.getD (if i < bs.length then i else 0) [] == y)) W
        rw [hj]
        have hc := (hW.cell (p := ⟨p, 0, none⟩) hpl).trans hp
        have HB1 := hid ((h.row j hjl).below hW)
        have HB2 := hid (hq.below hW)
        have HE := hid (Try.slices_Equal_int (bs.getD j 0) 0 L L q 0 L L (F.getD j []) y W (by rw [hF j hjl]; exact Nat.le_refl _) (by rw [hy]; exact Nat.le_refl _) (by omega) (by omega) (fun t ht => bi_cell HB1.out ht) (fun t ht => bi_cell HB2.out ht))
        rw [List.take_of_length_le (by rw [hF j hjl]; exact Nat.le_refl _), List.take_of_length_le (by rw [hy]; exact Nat.le_refl _)] at HE
        unfold FnGives
        clear hj hjl hbd hF h hq hp h1 h4 h5 hql hy
        generalize F.getD j [] = x at HE ⊢
        generalize bs.getD j 0 = b at HE ⊢
        go_enter Try.func91, Try.ntmps91
        go_wp2_with fail
        refine HE.out.mono ?_
        rintro e w' ⟨rfl, dn, rfl⟩
        go_wp2_with fail
        go_ret
        exact ⟨rfl, dn, rfl⟩
      have hcell : ∀ j, j < (List.range bs.length).length → w.cell? ⟨g, 0 + j, none⟩ = some ((fun i : Nat => Value.slice (some ⟨bs.getD (if i < bs.length then i else 0) 0, 0, none⟩) L L) (List.range bs.length)[j]!) := fun j hj => by
        rw [List.length_range] at hj
        have hc := h.out.cells (g := g) (by rw [h1]; rfl) j (.slice (some ⟨bs.getD j 0, 0, none⟩) L L) (by rw [List.getElem?_map, List.getElem?_eq_getElem hj, List.getD_eq_getElem?_getD, List.getElem?_eq_getElem hj]; rfl)
        rw [Addr.add_lit] at hc
        rw [hc, range_bang hj]
        simp only [if_pos hj]
      rw [h1]
      have hI := Try.slices_IndexFunc (α := Nat) _ _ 91 #[.pointer (some ⟨p, 0, none⟩)] (enters_of Try.func91 (by kernel_rfl) rfl) g 0 bs.length cap (List.range bs.length) w hP (by simp) (by omega) hcell
      rw [idxBy_idxZ h.len] at hI
      exact hI
end Go.Proofs.Ytekojohhjnklkaa
