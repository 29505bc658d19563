/- ReduceTableau: the sums of a row over the classes, plain. -/
import Derived.Test.YtekojohhjnklkaaRedC
import Derived.Test.YtekojohhjnklkaaCmpL
namespace Go.Proofs.Ytekojohhjnklkaa
open Go.RowKit

namespace Red
/-- The sums over the classes of the first j elements of a row, and a place for the class. -/
def accS (row : List Int) (cls : List Nat) (cn j : Nat) : List Int := (List.range cn).map fun c => over row cls c j
def acc (row : List Int) (cls : List Nat) (cn j : Nat) : List Int := accS row cls cn j ++ [0]
theorem accS_len (row : List Int) (cls : List Nat) (cn j : Nat) : (accS row cls cn j).length = cn := by simp [accS]
theorem acc_len (row : List Int) (cls : List Nat) (cn j : Nat) : (acc row cls cn j).length = cn + 1 := by simp [acc, accS]
theorem accS_zero (row : List Int) (cls : List Nat) (cn : Nat) : accS row cls cn 0 = zerosL cn := by
  unfold accS zerosL
  apply List.ext_getElem
  · simp
  · intro i h1 h2; simp [over]
theorem acc_zero (row : List Int) (cls : List Nat) (cn : Nat) : acc row cls cn 0 = zerosL (cn + 1) := by
  unfold acc
  rw [accS_zero]
  unfold zerosL
  rw [List.replicate_succ']
theorem accS_at {row : List Int} {cls : List Nat} {cn j c : Nat} (h : c < cn) : (accS row cls cn j).getD c 0 = over row cls c j := by
  simp [accS, List.getD, h]
theorem acc_at {row : List Int} {cls : List Nat} {cn j c : Nat} (h : c < cn) : (acc row cls cn j).getD c 0 = over row cls c j := by
  unfold acc
  rw [List.getD_eq_getElem?_getD, List.getElem?_append_left (by rw [accS_len]; exact h), ← List.getD_eq_getElem?_getD, accS_at h]
theorem accS_step {row : List Int} {cls : List Nat} {cn j : Nat} {x y : Int} (hx : x = over row cls (cls.getD j 0) j) (hy : y = row.getD j 0) : (accS row cls cn j).set (cls.getD j 0) (M.plus x y) = accS row cls cn (j + 1) := by
  apply List.ext_getElem
  · simp [accS]
  · intro i h1 h2
    rw [accS_len] at h2
    rw [List.getElem_set]
    simp only [accS, List.getElem_map, List.getElem_range, over_succ]
    split
    · rename_i e; subst e; rw [hx, hy]
    · rfl
theorem acc_step {row : List Int} {cls : List Nat} {cn j : Nat} {x y : Int} (hc : cls.getD j 0 < cn) (hx : x = (acc row cls cn j).getD (cls.getD j 0) 0) (hy : y = row.getD j 0) : (acc row cls cn j).set (cls.getD j 0) (M.plus x y) = acc row cls cn (j + 1) := by
  rw [acc_at hc] at hx
  unfold acc
  rw [List.set_append, if_pos (by rw [accS_len]; exact hc), accS_step hx hy]
theorem acc_last {A : List Int} {S : Nat} {cls : List Nat} {cn k : Nat} {x : Int} (hx : x = (ints cls).getD k 0) : (acc (rowL A S k) cls cn S).set cn x = key A S cls cn k := by
  rw [ints_getD] at hx
  unfold acc key
  rw [List.set_append, if_neg (by rw [accS_len]; omega), accS_len, Nat.sub_self, hx]
  rfl
theorem acc_i64 (row : List Int) (cls : List Nat) (cn j : Nat) : ∀ x ∈ acc row cls cn j, I64 x := by
  intro x hx
  unfold acc at hx
  rcases List.mem_append.1 hx with h | h
  · unfold accS at h
    obtain ⟨c, _, rfl⟩ := List.mem_map.1 h
    exact I64.num (over_num _ _ _ _)
  · simp only [List.mem_cons, List.not_mem_nil, or_false] at h
    rw [h]; exact ⟨by decide, by decide⟩
theorem getD_mem_i64 {l : List Int} (h : ∀ x ∈ l, I64 x) (i : Nat) : I64 (l.getD i 0) := by
  rw [List.getD_eq_getElem?_getD]
  cases e : l[i]? with
  | none => exact ⟨by decide, by decide⟩
  | some x => exact h x (List.mem_of_getElem? e)
/-- The round with the sums over the classes that there are. -/
theorem round_next {A : List Int} {S : Nat} {cls : List Nat} {cn : Nat} (h : Cls S cls) (hc : cn = cnt cls) : nextTo (key A S cls cn) S = next A S cls ∧ (foundTo (key A S cls cn) S).length = cnt (next A S cls) := by
  subst hc
  exact next_cnt h
/-- Where the rounds of the program stand. -/
structure Rc (A : List Int) (S m : Nat) (cls : List Nat) (cn : Nat) : Prop where
  at_ : cls = rounds A S m
  num : cn = cnt cls
  far : m + min 1 S ≤ cnt cls
theorem Rc.start (A : List Int) (S : Nat) : Rc A S 0 (zeros S) (min 1 S) := ⟨rfl, (cnt_zeros S).symm, by rw [cnt_zeros]; omega⟩
theorem Rc.is {A : List Int} {S m : Nat} {cls : List Nat} {cn : Nat} (h : Rc A S m cls cn) : Cls S cls := h.at_ ▸ rounds_cls A S m
theorem Rc.le {A : List Int} {S m : Nat} {cls : List Nat} {cn : Nat} (h : Rc A S m cls cn) : cn ≤ S := h.num ▸ h.is.cnt_le
theorem Rc.stop {A : List Int} {S m : Nat} {cls : List Nat} {cn : Nat} (h : Rc A S m cls cn) (he : cnt (next A S cls) = cn) : next A S cls = classes A S ∧ cn = cnt (classes A S) := by
  obtain ⟨h1, h2, h3⟩ := h
  subst h1
  have := rounds_stop h3 (he.trans h2)
  refine ⟨this, ?_⟩
  rw [← this]
  exact he.symm
theorem Rc.more {A : List Int} {S m : Nat} {cls : List Nat} {cn : Nat} (h : Rc A S m cls cn) (he : cnt (next A S cls) ≠ cn) : Rc A S (m + 1) (next A S cls) (cnt (next A S cls)) ∧ cn < cnt (next A S cls) := by
  have h0 := (cnt_next (A := A) h.is).1
  have hcn := h.num
  refine ⟨?_, by omega⟩
  obtain ⟨h1, h2, h3⟩ := h
  subst h1
  exact ⟨rfl, rfl, rounds_more h3 (fun e => he (e.trans h2.symm))⟩
end Red
end Go.Proofs.Ytekojohhjnklkaa
