/- ReduceTableau: the stages that are needed, plain: the rounds of both sides. -/
import Derived.Test.YtekojohhjnklkaaRedL
import Derived.Test.YtekojohhjnklkaaPermL
import Derived.Test.YtekojohhjnklkaaNodesOf
namespace Go.Proofs.Ytekojohhjnklkaa
open Go.RowKit

namespace Red
theorem getD_set_v (bs : List Bool) (k i : Nat) (x : Bool) (hk : k < bs.length) : (bs.set k x).getD i false = if i = k then x else bs.getD i false := getD_set_b bs k i x hk
theorem set_same {bs : List Bool} {k : Nat} {x : Bool} (h : x = bs.getD k false) : bs.set k x = bs := by
  apply List.ext_getElem
  · simp
  · intro i h1 h2
    rw [List.getElem_set]
    split
    · rename_i e
      subst e
      rw [h, List.getD_eq_getElem?_getD, List.getElem?_eq_getElem h2]
      rfl
    · rfl
section
variable {A B : List Int} {S : Nat}
theorem Sound.start : Sound A B S (List.replicate S false) := ⟨by simp, fun j h => by
  simp only [List.getD_eq_getElem?_getD, List.getElem?_replicate] at h
  split at h <;> cases h⟩
/-- A round of the program: nb0 at its start, nb now, k stages looked at. -/
structure Rnd (A B : List Int) (S : Nat) (nb0 nb : List Bool) (k : Nat) (a : Bool) : Prop where
  no : a = false → nb = nb0 ∧ ∀ j, j < k → QuietAt A B S nb j
  yes : a = true → nb0.count true < nb.count true
theorem Rnd.start (nb : List Bool) : Rnd A B S nb nb 0 false := ⟨fun _ => ⟨rfl, fun j h => absurd h (Nat.not_lt_zero _)⟩, fun h => by cases h⟩
theorem Rnd.quiet {nb0 nb : List Bool} {k : Nat} {a : Bool} (h : Rnd A B S nb0 nb k a) (hq : QuietAt A B S nb k) : Rnd A B S nb0 nb (k + 1) a :=
  ⟨fun e => ⟨(h.no e).1, fun j hj => by
    by_cases e2 : j = k
    · exact e2 ▸ hq
    · exact (h.no e).2 j (by omega)⟩, h.yes⟩
theorem Rnd.skip {nb0 nb : List Bool} {k : Nat} {a : Bool} (h : Rnd A B S nb0 nb k a) (hv : true = nb.getD k false) : Rnd A B S nb0 nb (k + 1) a :=
  h.quiet fun e => by rw [← hv] at e; cases e
theorem Rnd.hit {nb0 nb : List Bool} {k : Nat} {a : Bool} (h : Rnd A B S nb0 nb k a) (hk : k < nb.length) (hv : false = nb.getD k false) : Rnd A B S nb0 (nb.set k true) (k + 1) true := by
  refine ⟨fun e => (by cases e), fun _ => ?_⟩
  rw [count_set hk hv.symm]
  cases a with
  | false => rw [(h.no rfl).1]; omega
  | true => have := h.yes rfl; omega
theorem Rnd.full {nb0 nb : List Bool} (h : Rnd A B S nb0 nb S false) : Full A B S nb := full_of_quiet A B S (h.no rfl).2
/-- The sum over the stages looked at, of stage k. -/
structure Now (A B : List Int) (S : Nat) (nb : List Bool) (k t : Nat) (b : Bool) : Prop where
  yes : b = true → Reach A B S k
  no : b = false → B.getD k 0 = 0 ∧ ∀ i, i < t → nb.getD i false = true → A.getD (i * S + k) 0 = 0
theorem Now.start {nb : List Bool} {k : Nat} {x : Int} (hk : k < S) (hx : x = B.getD k 0) : Now A B S nb k 0 (x != 0) := by
  subst hx
  refine ⟨fun e => .base hk (by simpa using e), fun e => ⟨by simpa using e, fun i h => absurd h (Nat.not_lt_zero _)⟩⟩
theorem Now.keep {nb : List Bool} {k t : Nat} (h : Now A B S nb k t true) : Now A B S nb k (t + 1) true := ⟨h.yes, fun e => by cases e⟩
theorem Now.miss {nb : List Bool} {k t : Nat} (h : Now A B S nb k t false) (hv : false = nb.getD t false) : Now A B S nb k (t + 1) false :=
  ⟨fun e => by (cases e), fun e => ⟨(h.no e).1, fun i hi hb => by
    by_cases e2 : i = t
    · rw [e2, ← hv] at hb; cases hb
    · exact (h.no e).2 i (by omega) hb⟩⟩
theorem Now.take {nb : List Bool} {k t : Nat} {y : Int} (h : Now A B S nb k t false) (hs : Sound A B S nb) (hk : k < S) (hv : true = nb.getD t false) (hy : El A S t k y) : Now A B S nb k (t + 1) (y != 0) := by
  refine ⟨fun e => .step (hs.ok t hv.symm) hk ?_, fun e => ⟨(h.no rfl).1, fun i hi hb => ?_⟩⟩
  · rw [← show y = A.getD (t * S + k) 0 from hy]; simpa using e
  · by_cases e2 : i = t
    · rw [e2, ← show y = A.getD (t * S + k) 0 from hy]; simpa using e
    · exact (h.no rfl).2 i (by omega) hb
theorem Now.quiet {nb : List Bool} {k : Nat} (h : Now A B S nb k S false) : QuietAt A B S nb k := fun _ => h.no rfl

/-! ### the reference's rounds -/
/-- nb0 at the round's start, nb now, k stages done; a: whether one was added. -/
structure Rnd2 (A B : List Int) (S : Nat) (nb0 nb : List Bool) (k : Nat) (a : Bool) : Prop where
  mono : ∀ j, nb0.getD j false = true → nb.getD j false = true
  no : a = false → nb = nb0 ∧ ∀ j, j < k → ClosedAt A B S nb j
  yes : a = true → nb0.count true < nb.count true
theorem Rnd2.start (nb : List Bool) : Rnd2 A B S nb nb 0 false := ⟨fun _ h => h, fun _ => ⟨rfl, fun _ h => absurd h (Nat.not_lt_zero _)⟩, fun h => by cases h⟩
/-- In the midst of stage k: t of its row. -/
structure Row2 (A B : List Int) (S : Nat) (nb0 nb : List Bool) (k t : Nat) (a : Bool) : Prop where
  r : Rnd2 A B S nb0 nb k a
  b : B.getD k 0 ≠ 0 → nb.getD k false = true
  c : ∀ j, j < t → A.getD (k * S + j) 0 ≠ 0 → nb.getD j false = true
theorem Rnd2.set {nb0 nb : List Bool} {k j : Nat} {a : Bool} (h : Rnd2 A B S nb0 nb k a) (hj : j < nb.length) (hv : false = nb.getD j false) : Rnd2 A B S nb0 (nb.set j true) k true := by
  refine ⟨fun i hi => ?_, fun e => (by cases e), fun _ => ?_⟩
  · rw [getD_set_b _ _ _ _ hj]
    split
    · rfl
    · exact h.mono i hi
  · rw [count_set hj hv.symm]
    cases a with
    | false => rw [(h.no rfl).1]; omega
    | true => have := h.yes rfl; omega
theorem Rnd2.enter {nb0 nb : List Bool} {k : Nat} {a : Bool} (h : Rnd2 A B S nb0 nb k a) (hb : B.getD k 0 ≠ 0 → nb.getD k false = true) : Row2 A B S nb0 nb k 0 a := ⟨h, hb, fun _ e => absurd e (Nat.not_lt_zero _)⟩
theorem Rnd2.enter_set {nb0 nb : List Bool} {k : Nat} {a : Bool} (h : Rnd2 A B S nb0 nb k a) (hk : k < nb.length) (hv : false = nb.getD k false) : Row2 A B S nb0 (nb.set k true) k 0 true :=
  (h.set hk hv).enter fun _ => by rw [getD_set_b _ _ _ _ hk, if_pos rfl]
theorem Row2.keep {nb0 nb : List Bool} {k t : Nat} {a : Bool} (h : Row2 A B S nb0 nb k t a) (hc : A.getD (k * S + t) 0 ≠ 0 → nb.getD t false = true) : Row2 A B S nb0 nb k (t + 1) a :=
  ⟨h.r, h.b, fun j hj hA => by
    by_cases e : j = t
    · subst e; exact hc hA
    · exact h.c j (by omega) hA⟩
theorem Row2.set {nb0 nb : List Bool} {k t : Nat} {a : Bool} (h : Row2 A B S nb0 nb k t a) (ht : t < nb.length) (hv : false = nb.getD t false) : Row2 A B S nb0 (nb.set t true) k (t + 1) true := by
  refine ⟨h.r.set ht hv, fun hb => ?_, fun j hj hA => ?_⟩
  · rw [getD_set_b _ _ _ _ ht]
    split
    · rfl
    · exact h.b hb
  · rw [getD_set_b _ _ _ _ ht]
    split
    · rfl
    · exact h.c j (by omega) hA
theorem Row2.leave {nb0 nb : List Bool} {k t : Nat} {a : Bool} (h : Row2 A B S nb0 nb k t a) (ht : nb.getD k false = true → S ≤ t) : Rnd2 A B S nb0 nb (k + 1) a :=
  ⟨h.r.mono, fun e => ⟨(h.r.no e).1, fun j hj => by
    by_cases e2 : j = k
    · subst e2; exact ⟨h.b, fun h1 j hj hA => h.c j (Nat.lt_of_lt_of_le hj (ht h1)) hA⟩
    · exact (h.r.no e).2 j (by omega)⟩, h.r.yes⟩
theorem Rnd2.mark {nb0 nb : List Bool} {k : Nat} {a x : Bool} (h : Rnd2 A B S nb0 nb k a) (hs : Sound A B S nb) (hk : k < S) (hx : x = (nb.getD k false || (B.getD k 0 != 0))) : ∃ a3, Hid (Sound A B S (nb.set k x)) ∧ Hid (Row2 A B S nb0 (nb.set k x) k 0 a3) := by
  cases hv : nb.getD k false with
  | true =>
    rw [hv, Bool.true_or] at hx
    rw [set_same (hx.trans hv.symm)]
    exact ⟨a, hid hs, hid (h.enter fun _ => hv)⟩
  | false =>
    rw [hv, Bool.false_or] at hx
    by_cases hb : B.getD k 0 = 0
    · rw [hb] at hx
      rw [set_same (show x = nb.getD k false by rw [hx, hv]; rfl)]
      exact ⟨a, hid hs, hid (h.enter fun h => absurd hb h)⟩
    · obtain rfl : x = true := by rw [hx]; simpa using hb
      exact ⟨true, hid (hs.set (.base hk hb)), hid (h.enter_set (by rw [hs.len]; exact hk) hv.symm)⟩
theorem Row2.mark {nb0 nb : List Bool} {k t : Nat} {a x : Bool} (h : Row2 A B S nb0 nb k t a) (hs : Sound A B S nb) (hk : true = nb.getD k false) (ht : t < S) (hx : x = (nb.getD t false || (A.getD (k * S + t) 0 != 0))) : ∃ a3, Hid (Sound A B S (nb.set t x)) ∧ Hid (Row2 A B S nb0 (nb.set t x) k (t + 1) a3) := by
  cases hv : nb.getD t false with
  | true =>
    rw [hv, Bool.true_or] at hx
    rw [set_same (hx.trans hv.symm)]
    exact ⟨a, hid hs, hid (h.keep fun _ => hv)⟩
  | false =>
    rw [hv, Bool.false_or] at hx
    by_cases hb : A.getD (k * S + t) 0 = 0
    · rw [hb] at hx
      rw [set_same (show x = nb.getD t false by rw [hx, hv]; rfl)]
      exact ⟨a, hid hs, hid (h.keep fun h => absurd hb h)⟩
    · obtain rfl : x = true := by rw [hx]; simpa using hb
      exact ⟨true, hid (hs.set (.step (hs.ok k hk.symm) ht hb)), hid (h.set (by rw [hs.len]; exact ht) hv.symm)⟩
/-- After r rounds. -/
def Rs (A B : List Int) (S : Nat) (nb : List Bool) (r : Nat) : Prop := r ≤ nb.count true ∨ Full A B S nb
theorem Rs.step {nb0 nb : List Bool} {r : Nat} {a : Bool} (h : Rs A B S nb0 r) (h2 : Rnd2 A B S nb0 nb S a) : Rs A B S nb (r + 1) := by
  cases a with
  | false => exact .inr (full_of_closed A B S (h2.no rfl).2)
  | true =>
    rcases h with h | h
    · exact .inl (by have := h2.yes rfl; omega)
    · exact .inr fun _ hj => h2.mono _ (h _ hj)
theorem Rs.full {nb : List Bool} {r : Nat} (h : Rs A B S nb r) (hs : Sound A B S nb) (hr : S < r) : Full A B S nb := by
  rcases h with h | h
  · have := count_le hs; omega
  · exact h
end
/-- Stages as ints. -/
def ints (l : List Nat) : List Int := l.map fun i => ((i : Nat) : Int)
theorem pickI_yes {bs : List Bool} {k : Nat} (h : true = bs.getD k false) : ints (pick bs (k + 1)) = ints (pick bs k) ++ [(k : Int)] := by
  rw [pick_succ, if_pos h.symm]; simp [ints]
theorem pickI_no {bs : List Bool} {k : Nat} (h : false = bs.getD k false) : ints (pick bs (k + 1)) = ints (pick bs k) := by
  rw [pick_succ, if_neg (by rw [← h]; decide)]
theorem pick_len (bs : List Bool) (k : Nat) : (pick bs k).length ≤ k := by
  have := List.length_filter_le (fun j => bs.getD j false) (List.range k)
  rw [List.length_range] at this
  exact this
end Red
/-- How many bools of block mb are true. -/
def isT : Value → Bool
  | .bool true => true
  | _ => false
def cntM (w : World) (mb : Nat) : Nat := match w.heap[mb]? with
  | some (.cells cs _ _) => (cs.toList.filter isT).length
  | _ => 0
theorem Met.cnt {w : World} {mb : Nat} {bs : List Bool} (h : Met w mb bs) : cntM w mb = bs.count true := by
  unfold cntM
  rw [show w.heap[mb]? = _ from h]
  simp only [bools]
  clear h
  induction bs with
  | nil => rfl
  | cons b bs ih =>
    cases b
    · rw [List.count_cons_of_ne (by decide), ← ih]
      rfl
    · rw [List.count_cons_self, ← ih]
      rfl
def boolN : Value → Nat
  | .bool true => 1
  | _ => 0
theorem Met.setv {w : World} {mb : Nat} {bs : List Bool} (h : Met w mb bs) (i : Nat) (x : Bool) : Met (w.setCell ⟨mb, i, none⟩ (.bool x)) mb (bs.set i x) := by
  unfold Met
  rw [heap_setCell_same _ _ _ _ _ _ h]
  congr 2
  apply Array.toList_inj.1
  simp [bools]
theorem Met.below {w w' : World} {mb : Nat} {bs : List Bool} (h : Met w mb bs) (hB : Below w.heap.size w w') : Met w' mb bs := bk_below h hB
theorem Met.new (w : World) (bs : List Bool) : Met (w.alloc (.cells (bools bs) 4)) w.heap.size bs := bk_new _ _ _
theorem Met.grown {w w' : World} {mb : Nat} {bs : List Bool} (h : Met w mb bs) {r : Option Nat} (hg : w.grownBy w' r) (hs : ∀ k, r = some k → k ≠ mb) : Met w' mb bs := bk_grown h hg hs
end Go.Proofs.Ytekojohhjnklkaa
