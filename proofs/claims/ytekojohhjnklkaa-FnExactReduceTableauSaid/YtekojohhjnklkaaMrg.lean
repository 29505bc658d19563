/- ReduceTableau: classes made stages, plain. -/
import Derived.Test.YtekojohhjnklkaaAcc
import Derived.Test.YtekojohhjnklkaaChL
import Derived.Test.YtekojohhjnklkaaFnd
import Derived.Laws.CopyOwn
namespace Go.Proofs.Ytekojohhjnklkaa
open Go.RowKit

namespace Red
/-- The tableau whose stages are the classes. -/
def mrgE (A : List Int) (S : Nat) (cls : List Nat) (cn q : Nat) : Int := over (rowL A S (idx cls (q / cn))) cls (q % cn) S
def mrgA (A : List Int) (S : Nat) (cls : List Nat) (cn : Nat) : List Int := firstN (mrgE A S cls cn) (cn * cn)
def mrgB (B : List Int) (S : Nat) (cls : List Nat) (cn : Nat) : List Int := firstN (fun k => over B cls k S) cn

/-! ### the program: from the last stage down, rows laid over rows -/
def rowD (A : List Int) (S : Nat) (cls : List Nat) (cn : Nat) : Nat → Nat → Nat → List Int
  | _, 0, _ => zerosL cn
  | i, n + 1, k => if cls.getD i 0 = k then accS (rowL A S i) cls cn S else rowD A S cls cn (i + 1) n k
theorem rowD_len (A : List Int) (S : Nat) (cls : List Nat) (cn : Nat) : ∀ n i k, (rowD A S cls cn i n k).length = cn
  | 0, _, _ => by simp [rowD, zerosL]
  | n + 1, i, k => by
    unfold rowD
    split
    · exact accS_len _ _ _ _
    · exact rowD_len A S cls cn n (i + 1) k
def flat (f : Nat → List Int) (cn : Nat) : List Int := firstN (fun q => (f (q / cn)).getD (q % cn) 0) (cn * cn)
theorem flat_len (f : Nat → List Int) (cn : Nat) : (flat f cn).length = cn * cn := firstN_len _ _
theorem flat_zero (cn : Nat) : zerosL (cn * cn) = flat (fun _ => zerosL cn) cn := by
  unfold flat zerosL
  refine firstN_zero fun p _ => ?_
  simp only [List.getD_eq_getElem?_getD, List.getElem?_replicate]
  split <;> rfl
theorem mul_step {k cn : Nat} (h : k < cn) : k * cn + cn ≤ cn * cn := by
  have := Nat.mul_le_mul_right cn (show k + 1 ≤ cn from h)
  rwa [Nat.add_mul, Nat.one_mul] at this
theorem flat_splice {f : Nat → List Int} {cn k : Nat} {ys : List Int} (hk : k < cn) (hy : ys.length = cn) : splice (flat f cn) (k * cn) ys = flat (fun j => if j = k then ys else f j) cn := by
  have hm := mul_step hk
  have hl := flat_len f cn
  show List.take (k * cn) (flat f cn) ++ (ys ++ List.drop (k * cn + ys.length) (flat f cn)) = _
  apply List.ext_getElem
  · rw [flat_len, List.length_append, List.length_append, List.length_take, List.length_drop, hl, hy]; omega
  · intro q h1 h2
    rw [flat_len] at h2
    have hc : 0 < cn := by omega
    have hd : q / cn = k ↔ k * cn ≤ q ∧ q < k * cn + cn := by
      rw [Nat.div_eq_iff hc]
      constructor
      · intro h; omega
      · intro h; omega
    have hg : ∀ h, (flat (fun j => if j = k then ys else f j) cn)[q]'h = ((if q / cn = k then ys else f (q / cn)).getD (q % cn) 0) := fun h => by simp [flat, firstN]
    have hg0 : ∀ p h, (flat f cn)[p]'h = ((f (p / cn)).getD (p % cn) 0) := fun p h => by simp [flat, firstN]
    rw [hg]
    by_cases c1 : q < k * cn
    · rw [List.getElem_append_left (by rw [List.length_take, hl]; omega), List.getElem_take, hg0, if_neg (fun e => by have := hd.1 e; omega)]
    · have e1 : (List.take (k * cn) (flat f cn)).length = k * cn := by rw [List.length_take, hl]; omega
      rw [List.getElem_append_right (by rw [e1]; omega)]
      by_cases c2 : q < k * cn + cn
      · rw [List.getElem_append_left (by rw [hy, e1]; omega), if_pos (hd.2 ⟨by omega, c2⟩)]
        have e2 : q % cn = q - k * cn := by
          have h3 := Nat.div_add_mod q cn
          rw [hd.2 ⟨by omega, c2⟩, Nat.mul_comm] at h3
          omega
        rw [List.getD_eq_getElem?_getD, List.getElem?_eq_getElem (by rw [hy]; exact Nat.mod_lt _ hc)]
        simp only [e1, Option.getD_some, e2]
      · rw [List.getElem_append_right (by rw [hy, e1]; omega), List.getElem_drop, hg0, if_neg (fun e => by have := hd.1 e; omega)]
        simp only [e1, hy]
        rw [show k * cn + cn + (q - k * cn - cn) = q by omega]
theorem flat_step {A : List Int} {S : Nat} {cls : List Nat} {cn i n k : Nat} (hk : k = cls.getD i 0) (hlt : k < cn) : splice (flat (rowD A S cls cn (i + 1) n) cn) (k * cn) (accS (rowL A S i) cls cn S) = flat (rowD A S cls cn i (n + 1)) cn := by
  rw [flat_splice hlt (accS_len _ _ _ _)]
  congr 1
  funext j
  rw [rowD]
  by_cases e : j = k
  · rw [if_pos e, if_pos (by rw [e]; exact hk.symm)]
  · rw [if_neg e, if_neg (fun h => e (by rw [← h]; exact hk.symm))]
theorem rowD_first {A : List Int} {S : Nat} {cls : List Nat} {cn k : Nat} : ∀ n i, i + n = cls.length → k ∈ cls.drop i → rowD A S cls cn i n k = accS (rowL A S (i + idx (cls.drop i) k)) cls cn S
  | 0, i, h, hm => by rw [List.drop_of_length_le (by omega)] at hm; cases hm
  | n + 1, i, h, hm => by
    have hi : i < cls.length := by omega
    rw [List.drop_eq_getElem_cons hi] at hm ⊢
    have hg : cls.getD i 0 = cls[i] := by rw [List.getD_eq_getElem?_getD, List.getElem?_eq_getElem hi]; rfl
    rw [rowD, hg]
    by_cases e : cls[i] = k
    · rw [if_pos e, ← e, show idx (cls[i] :: cls.drop (i + 1)) cls[i] = 0 by unfold idx; rw [List.idxOf_cons_self]]
      rfl
    · rw [if_neg e]
      have hm' : k ∈ cls.drop (i + 1) := by
        rcases List.mem_cons.1 hm with h | h
        · exact absurd h.symm e
        · exact h
      rw [rowD_first n (i + 1) (by omega) hm']
      congr 2
      unfold idx
      rw [List.idxOf_cons, show (cls[i] == k) = false by simpa using e]
      simp only [cond_false]
      omega
theorem flat_end {A : List Int} {S : Nat} {cls : List Nat} (h : Cls S cls) : flat (rowD A S cls (cnt cls) 0 S) (cnt cls) = mrgA A S cls (cnt cls) := by
  unfold flat mrgA
  refine firstN_congr fun q hq => ?_
  have hc : 0 < cnt cls := by
    rcases Nat.eq_zero_or_pos (cnt cls) with e | e
    · rw [e] at hq; omega
    · exact e
  have h1 : q / cnt cls < cnt cls := Nat.div_lt_of_lt_mul hq
  rw [rowD_first S 0 (by rw [h.len, Nat.zero_add]) (by rw [List.drop_zero]; exact h.onto h1), List.drop_zero, Nat.zero_add, accS_at (Nat.mod_lt _ hc)]
  rfl
theorem b_step {B : List Int} {cls : List Nat} {cn i n k : Nat} {x y : Int} (hk : k = cls.getD i 0) (hx : x = (firstN (fun k => overD B cls k (i + 1) n) cn).getD k 0) (hy : y = B.getD i 0) (hlt : k < cn) : (firstN (fun k => overD B cls k (i + 1) n) cn).set k (M.plus x y) = firstN (fun k => overD B cls k i (n + 1)) cn := by
  refine firstN_set ?_ (fun p _ hp => ?_)
  · rw [overD, if_pos hk.symm, hx, hy]
    congr 1
    simp [firstN, List.getD, hlt]
  · rw [overD, if_neg (fun e => hp (by rw [← e]; exact hk.symm))]
theorem b_zero (B : List Int) (cls : List Nat) (cn i : Nat) : zerosL cn = firstN (fun k => overD B cls k i 0) cn := firstN_zero fun _ _ => rfl
theorem b_end (B : List Int) (S : Nat) (cls : List Nat) (cn : Nat) : firstN (fun k => overD B cls k 0 S) cn = mrgB B S cls cn := firstN_congr fun k _ => overD_over B cls k S
theorem overD_num (row : List Int) (cls : List Nat) (k : Nat) : ∀ n i, M.num (overD row cls k i n)
  | 0, _ => by show M.num 0; exact ⟨Int.le_refl _, by decide⟩
  | n + 1, i => by
    rw [overD]
    split
    · exact M.num_plus _ _
    · exact overD_num row cls k n (i + 1)

/-! ### the reference: the first stages of the classes -/
theorem numb_take {α : Type} [DecidableEq α] (l1 : List α) (l2 : List α) : (numb (l1 ++ l2)).take l1.length = numb l1 := by
  refine rev_ind (C := fun l2 => (numb (l1 ++ l2)).take l1.length = numb l1) ?_ (fun l a ih => ?_) l2
  · rw [List.append_nil, List.take_of_length_le (by rw [numb_len]; exact Nat.le_refl _)]
  · rw [← List.append_assoc, numb_snoc, List.take_append_of_le_length (by rw [numb_len, List.length_append]; omega)]
    exact ih
def cTo (cls : List Nat) (i : Nat) : Nat := (fnd (cls.take i)).length
/-- The first stages of the classes met in the first i. -/
def firsts (cls : List Nat) (i : Nat) : List Nat := (List.range (cTo cls i)).map (idx cls)
theorem firsts_len (cls : List Nat) (i : Nat) : (firsts cls i).length = cTo cls i := by simp [firsts]
theorem cTo_le (cls : List Nat) (i : Nat) : cTo cls i ≤ i := by
  have h1 := fnd_len_le (cls.take i)
  have h2 := List.length_take_le i cls
  unfold cTo
  omega
theorem own_at {S : Nat} {cls : List Nat} (h : Cls S cls) {i : Nat} (hi : i < S) : cls.take (i + 1) = cls.take i ++ [cls.getD i 0] ∧ cls.getD i 0 = idx (fnd (cls.take i)) (cls.getD i 0) ∧ numb (cls.take i) = cls.take i := by
  have hl : i < cls.length := by rw [h.len]; exact hi
  have e1 := take_snoc 0 cls i hl
  have hn : ∀ j, j ≤ cls.length → numb (cls.take j) = cls.take j := fun j hj => by
    have := numb_take (cls.take j) (cls.drop j)
    rw [List.take_append_drop, h.own, List.length_take, Nat.min_eq_left hj] at this
    exact this.symm
  refine ⟨e1, ?_, hn i (by omega)⟩
  have h1 := hn (i + 1) hl
  rw [e1, numb_snoc', hn i (by omega)] at h1
  have h2 := List.append_cancel_left h1
  simp only [List.cons.injEq, and_true] at h2
  exact h2.symm
theorem first_new {S : Nat} {cls : List Nat} (h : Cls S cls) {i : Nat} (hi : i < S) (he : cls.getD i 0 = cTo cls i) : firsts cls (i + 1) = firsts cls i ++ [i] ∧ cTo cls (i + 1) = cTo cls i + 1 := by
  obtain ⟨e1, e2, e3⟩ := own_at h hi
  have hnm : cls.getD i 0 ∉ fnd (cls.take i) := fun hm => by
    have := List.idxOf_lt_length_of_mem hm
    have h3 : idx (fnd (cls.take i)) (cls.getD i 0) < (fnd (cls.take i)).length := this
    rw [← e2, he] at h3
    exact absurd h3 (Nat.lt_irrefl _)
  have hc : cTo cls (i + 1) = cTo cls i + 1 := by
    unfold cTo
    rw [e1, fnd_snoc, if_neg hnm, List.length_append]
    rfl
  refine ⟨?_, hc⟩
  unfold firsts
  rw [hc, List.range_succ, List.map_append, List.map_singleton]
  congr 2
  have hl : i < cls.length := by rw [h.len]; exact hi
  have hm : cls.getD i 0 ∈ cls := by rw [List.getD_eq_getElem?_getD, List.getElem?_eq_getElem hl]; exact List.getElem_mem _
  rw [← he]
  have h1 := List.idxOf_lt_length_of_mem hm
  have hge : ¬ idx cls (cls.getD i 0) < i := fun hlt => by
    refine hnm ((mem_fnd _ _).2 ?_)
    have h2 : cls[idx cls (cls.getD i 0)]'h1 = cls.getD i 0 := List.getElem_idxOf h1
    rw [← h2]
    exact List.mem_take_iff_getElem.2 ⟨_, by omega, rfl⟩
  have hle : ¬ i < idx cls (cls.getD i 0) := fun hlt => by
    refine (idx_at hm).2.2 i hlt ?_
    rw [List.getD_eq_getElem?_getD, List.getElem?_eq_getElem hl]
    rfl
  omega
theorem first_old {S : Nat} {cls : List Nat} (h : Cls S cls) {i : Nat} (hi : i < S) (he : cls.getD i 0 ≠ cTo cls i) : firsts cls (i + 1) = firsts cls i ∧ cTo cls (i + 1) = cTo cls i := by
  obtain ⟨e1, e2, e3⟩ := own_at h hi
  have hm : cls.getD i 0 ∈ fnd (cls.take i) := by
    refine Decidable.byContradiction fun hm => he ?_
    rw [e2, idx_none hm]
    rfl
  have hc : cTo cls (i + 1) = cTo cls i := by
    unfold cTo
    rw [e1, fnd_snoc, if_pos hm]
  exact ⟨by unfold firsts; rw [hc], hc⟩
theorem firsts_end {S : Nat} {cls : List Nat} (h : Cls S cls) : firsts cls S = (List.range (cnt cls)).map (idx cls) ∧ cTo cls S = cnt cls := by
  have e : cTo cls S = cnt cls := by unfold cTo cnt; rw [List.take_of_length_le (by rw [h.len]; exact Nat.le_refl _)]
  exact ⟨by unfold firsts; rw [e], e⟩
theorem mrgE_at {A : List Int} {S : Nat} {cls : List Nat} {cn i j f : Nat} (hj : j < cn) (hf : f = idx cls i) : mrgE A S cls cn (i * cn + j) = over (rowL A S f) cls j S := by
  obtain ⟨e1, e2⟩ := place_div (i := i) hj
  unfold mrgE
  rw [e1, e2, hf]
theorem firstN_wf {f : Nat → Int} {n : Nat} (h : ∀ q, M.num (f q)) : ∀ x ∈ firstN f n, I64 x := by
  intro x hx
  obtain ⟨q, _, rfl⟩ := List.mem_map.1 hx
  exact I64.num (h q)
theorem mrgA_wf (A : List Int) (S : Nat) (cls : List Nat) (cn : Nat) : ∀ x ∈ mrgA A S cls cn, I64 x := firstN_wf fun _ => over_num _ _ _ _
theorem mrgB_wf (B : List Int) (S : Nat) (cls : List Nat) (cn : Nat) : ∀ x ∈ mrgB B S cls cn, I64 x := firstN_wf fun _ => over_num _ _ _ _
theorem accS_wf (row : List Int) (cls : List Nat) (cn j : Nat) : ∀ x ∈ accS row cls cn j, I64 x := by
  intro x hx
  obtain ⟨c, _, rfl⟩ := List.mem_map.1 hx
  exact I64.num (over_num _ _ _ _)
theorem idx_lt {S : Nat} {cls : List Nat} (h : Cls S cls) {k : Nat} (hk : k < cnt cls) : idx cls k < S := h.len ▸ List.idxOf_lt_length_of_mem (h.onto hk)
end Red
end Go.Proofs.Ytekojohhjnklkaa
