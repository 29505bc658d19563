/- The reduction, step by step: what the loops have done so far. -/
import Derived.Test.YthebegfceaehfaaMat
namespace Go.Proofs.Ythebegfceaehfaa
open Go.RowKit Sol

def sclP (m : Nat → Nat → Int) (r : Nat) (x : Int) (t : Nat) : Nat → Nat → Int := fun a j => if a = r ∧ j < t then M.times (m r j) x else m a j
def elmQ (m : Nat → Nat → Int) (r k q t : Nat) : Nat → Nat → Int := fun a j => if a ≠ r ∧ (a < q ∨ (a = q ∧ j < t)) then M.minus (m a j) (M.times (m a k) (m r j)) else m a j
section
variable {w w' : World} {base top ob n W : Nat} {hb hc : Nat → Nat} {m : Nat → Nat → Int}
theorem Mat.scl_first (h : Mat w base top ob n W hb hc m) (r : Nat) (x : Int) : Mat w base top ob n W hb hc (sclP m r x 0) := h.congr fun i j _ _ => by simp [sclP]
theorem Mat.scl_next {r t : Nat} {x : Int} (h : Mat w base top ob n W hb hc (sclP m r x t)) (hr : r < n) (ht : t < W) :
    Mat (w.setCell ⟨hb r, t, none⟩ (.int .i64 (M.times (m r t) x))) base top ob n W hb hc (sclP m r x (t + 1)) :=
  (h.set hr ht (M.num_times _ _)).congr fun a j _ _ => by
    unfold setM sclP
    by_cases e : a = r
    · subst e
      by_cases e2 : j = t
      · subst e2; simp
      · by_cases e3 : j < t
        · rw [if_neg (by omega), if_pos ⟨rfl, e3⟩, if_pos ⟨rfl, by omega⟩]
        · rw [if_neg (by omega), if_neg (by omega), if_neg (by omega)]
    · rw [if_neg (by omega), if_neg (by omega), if_neg (by omega)]
theorem Mat.scl_last {r : Nat} {x : Int} (h : Mat w base top ob n W hb hc (sclP m r x W)) : Mat w base top ob n W hb hc (scl m r x) :=
  h.congr fun a j _ hj => by
    unfold sclP scl
    by_cases e : a = r
    · rw [if_pos ⟨e, hj⟩, if_pos e]
    · rw [if_neg (by omega), if_neg e]
theorem sclP_at (m : Nat → Nat → Int) (r : Nat) (x : Int) (t : Nat) : sclP m r x t r t = m r t := by unfold sclP; rw [if_neg (by omega)]
theorem Mat.elm_first (h : Mat w base top ob n W hb hc m) (r k : Nat) : Mat w base top ob n W hb hc (elmQ m r k 0 0) := h.congr fun i j _ _ => by unfold elmQ; rw [if_neg (by omega)]
theorem Mat.elm_next {r k q t : Nat} (h : Mat w base top ob n W hb hc (elmQ m r k q t)) (hq : q < n) (ht : t < W) (hqr : q ≠ r) :
    Mat (w.setCell ⟨hb q, t, none⟩ (.int .i64 (M.minus (m q t) (M.times (m q k) (m r t))))) base top ob n W hb hc (elmQ m r k q (t + 1)) :=
  (h.set hq ht (M.num_minus _ _)).congr fun a j _ _ => by
    unfold setM elmQ
    by_cases e : a = q
    · subst e
      by_cases e2 : j = t
      · subst e2
        rw [if_pos ⟨rfl, rfl⟩, if_pos ⟨hqr, .inr ⟨rfl, by omega⟩⟩]
      · by_cases e3 : j < t
        · rw [if_neg (by omega), if_pos ⟨hqr, .inr ⟨rfl, e3⟩⟩, if_pos ⟨hqr, .inr ⟨rfl, by omega⟩⟩]
        · rw [if_neg (by omega), if_neg (by omega), if_neg (by omega)]
    · by_cases e4 : a ≠ r ∧ a < q
      · rw [if_neg (by omega), if_pos ⟨e4.1, .inl e4.2⟩, if_pos ⟨e4.1, .inl e4.2⟩]
      · rw [if_neg (by omega), if_neg (by omega), if_neg (by omega)]
/-- The row is done (or was the pivot's own). -/
theorem Mat.elm_row {r k q : Nat} (h : Mat w base top ob n W hb hc (elmQ m r k q W)) : Mat w base top ob n W hb hc (elmQ m r k (q + 1) 0) :=
  h.congr fun a j _ hj => by
    unfold elmQ
    by_cases e : a ≠ r ∧ a < q + 1
    · rw [if_pos (by omega), if_pos (by omega)]
    · rw [if_neg (by omega), if_neg (by omega)]
theorem Mat.elm_own {r k : Nat} (h : Mat w base top ob n W hb hc (elmQ m r k r 0)) : Mat w base top ob n W hb hc (elmQ m r k (r + 1) 0) :=
  h.congr fun a j _ hj => by
    unfold elmQ
    by_cases e : a ≠ r ∧ a < r
    · rw [if_pos (by omega), if_pos (by omega)]
    · rw [if_neg (by omega), if_neg (by omega)]
/-- A row whose entry is 0 already stays (the implementation leaves it out). -/
theorem Mat.elm_zero {r k q : Nat} (h : Mat w base top ob n W hb hc (elmQ m r k q 0)) (hn : ∀ i j, i < n → j < W → M.num (m i j)) (h0 : m q k = 0) : Mat w base top ob n W hb hc (elmQ m r k (q + 1) 0) :=
  h.congr fun a j ha hj => by
    unfold elmQ
    by_cases e : a ≠ r ∧ a < q
    · rw [if_pos (by omega), if_pos (by omega)]
    · rw [if_neg (by omega)]
      by_cases e2 : a ≠ r ∧ a < q + 1
      · obtain rfl : a = q := by omega
        rw [if_pos (by omega), h0, times_zero_l, minus_zero (hn a j ha hj)]
      · rw [if_neg (by omega)]
theorem Mat.elm_last {r k : Nat} (h : Mat w base top ob n W hb hc (elmQ m r k n 0)) : Mat w base top ob n W hb hc (elm m r k) :=
  h.congr fun a j ha hj => by
    unfold elmQ elm
    by_cases e : a = r
    · subst e; rw [if_neg (by omega), if_pos rfl]
    · rw [if_pos (by omega), if_neg e]
theorem elmQ_at (m : Nat → Nat → Int) (r k q t : Nat) : elmQ m r k q t q t = m q t := by unfold elmQ; rw [if_neg (by omega)]
theorem elmQ_top (m : Nat → Nat → Int) (r k q t j : Nat) : elmQ m r k q t r j = m r j := by unfold elmQ; rw [if_neg (by omega)]
theorem elmQ_head (m : Nat → Nat → Int) (r k q : Nat) : elmQ m r k q 0 q k = m q k := by unfold elmQ; rw [if_neg (by omega)]
end
/-- No row is left: the other columns bring nothing. -/
theorem red_stop {n : Nat} {m : Nat → Nat → Int} {k : Nat} (h : n ≤ (red n k m).2.length) : ∀ c, k ≤ c → red n c m = red n k m
  | 0, hc => by obtain rfl : k = 0 := by omega
                rfl
  | c + 1, hc => by
    by_cases e : k = c + 1
    · rw [e]
    · have ih := red_stop h c (by omega)
      rw [red_succ, ih]
      unfold col
      rw [if_neg (by
        have := (seek_ge (red n k m).1 c (n - (red n k m).2.length) (red n k m).2.length).1
        omega)]
theorem red_le {n : Nat} {m : Nat → Nat → Int} : ∀ k, (red n k m).2.length ≤ n ∧ (red n k m).2.length ≤ k
  | 0 => ⟨Nat.zero_le _, Nat.le_refl _⟩
  | k + 1 => by
    have ih := red_le (n := n) (m := m) k
    rw [red_succ]
    unfold col
    split
    · rename_i h
      have := (seek_ge (red n k m).1 k (n - (red n k m).2.length) (red n k m).2.length).1
      simp only [List.length_append, List.length_cons, List.length_nil]
      omega
    · omega
theorem seek_yes {m : Nat → Nat → Int} {k q n : Nat} (h : q < n) (h0 : m q k = 0) : seek m k q (n - q) = seek m k (q + 1) (n - (q + 1)) := by
  rw [show n - q = (n - (q + 1)) + 1 by omega, seek, if_pos h0]
theorem seek_no {m : Nat → Nat → Int} {k q n : Nat} (h : q < n) (h0 : m q k ≠ 0) : seek m k q (n - q) = q := by
  rw [show n - q = (n - (q + 1)) + 1 by omega, seek, if_neg h0]
theorem seek_end (m : Nat → Nat → Int) (k n : Nat) : seek m k n (n - n) = n := by rw [Nat.sub_self]; rfl
end Go.Proofs.Ythebegfceaehfaa
