/- ExplicitFour: what it answers; the two equations for a32 and a42, plain. -/
import Derived.Test.YthebegfceaehfaaEx3L
namespace Go.Proofs.Ythebegfceaehfaa
open Go.RowKit

theorem times_w (a b : Int) : ∃ k, M.times a b = a * b - M.P * k := ⟨a * b / M.P, by unfold M.times; have := Int.emod_add_mul_ediv (a * b) M.P; omega⟩
theorem minus_w (a b : Int) : ∃ k, M.minus a b = a - b - M.P * k := ⟨(a - b) / M.P, by unfold M.minus; have := Int.emod_add_mul_ediv (a - b) M.P; omega⟩
theorem frac_w {a b : Int} (hb : ¬ M.P ∣ b) : ∃ k, M.frac a b * b = a + M.P * k := by
  have h0 : b % M.P ≠ 0 := fun e => hb (Int.dvd_of_emod_eq_zero e)
  have h1 := M.mul_inv h0
  have h2 := Int.emod_add_mul_ediv (b * M.inv b) M.P
  rw [h1] at h2
  obtain ⟨k, hk⟩ := times_w a (M.inv b)
  refine ⟨a * (b * M.inv b / M.P) - k * b, ?_⟩
  unfold M.frac
  rw [hk]
  generalize b * M.inv b / M.P = q at h2
  generalize M.inv b = z at h2
  grind
theorem not_dvd_of {a : Int} (h : M.num a) (h0 : a ≠ 0) : ¬ M.P ∣ a := by
  have := Sol.num_diff h (show M.num 0 from ⟨by decide, by decide⟩) h0
  rwa [Int.sub_zero] at this
theorem num_eq_of {a b : Int} (ha : M.num a) (hb : M.num b) (h : M.P ∣ a - b) : a = b := Classical.byContradiction fun e => Sol.num_diff ha hb e h

section
variable (b3 b4 c2 c3 X Y : Int)
/-- The rows of the two equations. -/
def m4 : Nat → Nat → Int := fun i j => if i = 0 then (if j = 0 then b3 else b4) else (if j = 0 then M.times b3 (M.times c3 c2) else M.times b4 c2)
def g4 : Nat → Int := fun i => if i = 0 then X else Y
def q4 : Int := M.frac (M.minus Y (M.times c2 X)) (M.times (M.times b3 c2) (M.minus c3 1))
def r4 : Int := M.frac (M.minus X (M.times b3 (q4 b3 c2 c3 X Y))) b4
end
section
variable {b3 b4 c2 c3 X Y : Int}
theorem ker4' (n3 : ¬ M.P ∣ b3) (n4 : ¬ M.P ∣ b4) (n2 : ¬ M.P ∣ c2) (n1 : ¬ M.P ∣ c3 - 1) {u v : Int} (h0 : M.P ∣ b3 * u + b4 * v) (h1 : M.P ∣ M.times b3 (M.times c3 c2) * u + M.times b4 c2 * v) : M.P ∣ u ∧ M.P ∣ v := by
  obtain ⟨k0, h0⟩ := h0
  obtain ⟨k1, h1⟩ := h1
  obtain ⟨q0, e0⟩ := times_w c3 c2
  obtain ⟨q1, e1⟩ := times_w b3 (M.times c3 c2)
  obtain ⟨q2, e2⟩ := times_w b4 c2
  rw [e0] at e1
  rw [e0, e1, e2] at h1
  clear e0 e1 e2
  have hu : M.P ∣ b3 * (c2 * ((c3 - 1) * u)) := ⟨k1 - c2 * k0 + b3 * q0 * u + q1 * u + q2 * v, by generalize M.P = p at *; grind⟩
  have hu' : M.P ∣ u := (Van.prime_dvd ((Van.prime_dvd ((Van.prime_dvd hu).resolve_left n3)).resolve_left n2)).resolve_left n1
  refine ⟨hu', ?_⟩
  obtain ⟨k, hk⟩ := hu'
  have hv : M.P ∣ b4 * v := ⟨k0 - b3 * k, by generalize M.P = p at *; grind⟩
  exact (Van.prime_dvd hv).resolve_left n4
theorem ker4 (n3 : ¬ M.P ∣ b3) (n4 : ¬ M.P ∣ b4) (n2 : ¬ M.P ∣ c2) (n1 : ¬ M.P ∣ c3 - 1) : ∀ x, Sol.Ker (aug (m4 b3 b4 c2 c3) (g4 X Y) 2) 2 2 x → ∀ j, j < 2 → M.P ∣ x j := by
  intro x hK
  have h0 := hK 0 (by omega)
  have h1 := hK 1 (by omega)
  simp [Van.sumN, aug, m4] at h0 h1
  have h := ker4' n3 n4 n2 n1 h0 h1
  intro j hj
  match j, hj with
  | 0, _ => exact h.1
  | 1, _ => exact h.2
theorem sat4 (n3 : ¬ M.P ∣ b3) (n4 : ¬ M.P ∣ b4) (n2 : ¬ M.P ∣ c2) (n1 : ¬ M.P ∣ c3 - 1) :
    M.P ∣ b3 * q4 b3 c2 c3 X Y + b4 * r4 b3 b4 c2 c3 X Y - X ∧ M.P ∣ M.times b3 (M.times c3 c2) * q4 b3 c2 c3 X Y + M.times b4 c2 * r4 b3 b4 c2 c3 X Y - Y := by
  have hD : ¬ M.P ∣ M.times (M.times b3 c2) (M.minus c3 1) := by
    intro hd
    obtain ⟨q0, e0⟩ := times_w b3 c2
    obtain ⟨q1, e1⟩ := times_w (M.times b3 c2) (M.minus c3 1)
    obtain ⟨q2, e2⟩ := minus_w c3 1
    obtain ⟨k, hk⟩ := hd
    rw [e1, e0, e2] at hk
    have : M.P ∣ b3 * (c2 * (c3 - 1)) := ⟨k + q1 + q0 * (c3 - 1) + (b3 * c2 - M.P * q0) * q2, by generalize M.P = p at *; grind⟩
    exact n1 ((Van.prime_dvd ((Van.prime_dvd this).resolve_left n3)).resolve_left n2)
  obtain ⟨f0, hf0⟩ := frac_w (a := M.minus Y (M.times c2 X)) hD
  obtain ⟨f1, hf1⟩ := frac_w (a := M.minus X (M.times b3 (q4 b3 c2 c3 X Y))) n4
  change q4 b3 c2 c3 X Y * _ = _ at hf0
  change r4 b3 b4 c2 c3 X Y * _ = _ at hf1
  generalize q4 b3 c2 c3 X Y = q at hf0 hf1 ⊢
  generalize r4 b3 b4 c2 c3 X Y = r at hf1 ⊢
  obtain ⟨k0, e0⟩ := times_w b3 c2
  obtain ⟨k1, e1⟩ := times_w (M.times b3 c2) (M.minus c3 1)
  obtain ⟨k2, e2⟩ := minus_w c3 1
  obtain ⟨k3, e3⟩ := times_w c2 X
  obtain ⟨k4, e4⟩ := minus_w Y (M.times c2 X)
  obtain ⟨k5, e5⟩ := times_w b3 q
  obtain ⟨k6, e6⟩ := minus_w X (M.times b3 q)
  obtain ⟨k7, e7⟩ := times_w c3 c2
  obtain ⟨k8, e8⟩ := times_w b3 (M.times c3 c2)
  obtain ⟨k9, e9⟩ := times_w b4 c2
  rw [e1, e0, e2, e4, e3] at hf0
  rw [e6, e5] at hf1
  rw [e8, e7, e9]
  clear e0 e1 e2 e3 e4 e5 e6 e7 e8 e9 hD n1 n2 n3 n4
  have h1 : b3 * q + b4 * r - X = M.P * (f1 + k5 - k6) := by generalize M.P = p at *; grind
  refine ⟨⟨_, h1⟩, ⟨c2 * (f1 + k5 - k6) - b3 * k7 * q - k8 * q - k9 * r + (f0 - k4 + k3 + k1 * q + k0 * (c3 - 1) * q + (b3 * c2 - M.P * k0) * k2 * q), ?_⟩⟩
  generalize M.P = p at *
  grind
/-- The two equations are solved. -/
theorem sol4 (n3 : ¬ M.P ∣ b3) (n4 : ¬ M.P ∣ b4) (n2 : ¬ M.P ∣ c2) (n1 : ¬ M.P ∣ c3 - 1) (h3 : M.num b3) (h4 : M.num b4) (hX : M.num X) (hY : M.num Y) : solL (m4 b3 b4 c2 c3) (g4 X Y) 2 = [q4 b3 c2 c3 X Y, r4 b3 b4 c2 c3 X Y] := by
  have hm : ∀ i j, i < 2 → j < 2 → M.num (m4 b3 b4 c2 c3 i j) := by
    intro i j _ _
    unfold m4
    split
    · split
      · exact h3
      · exact h4
    · split <;> exact M.num_times _ _
  have hg : ∀ i, i < 2 → M.num (g4 X Y i) := by
    intro i _
    unfold g4
    split
    · exact hX
    · exact hY
  have hK := ker4 (X := X) (Y := Y) n3 n4 n2 n1
  have hs := Sol.red_solves (aug_num hm hg) hK
  have hn := solL_num hm hg hK
  obtain ⟨s0, s1, hs01⟩ : ∃ s0 s1, solL (m4 b3 b4 c2 c3) (g4 X Y) 2 = [s0, s1] := ⟨_, _, rfl⟩
  have hz0 : (Sol.red 2 2 (aug (m4 b3 b4 c2 c3) (g4 X Y) 2)).1 0 2 = s0 := by
    have := congrArg (fun l => l.getD 0 0) hs01
    simpa [solL] using this
  have hz1 : (Sol.red 2 2 (aug (m4 b3 b4 c2 c3) (g4 X Y) 2)).1 1 2 = s1 := by
    have := congrArg (fun l => l.getD 1 0) hs01
    simpa [solL, List.range_succ] using this
  rw [hs01] at hn ⊢
  have p0 := hs 0 (by omega)
  have p1 := hs 1 (by omega)
  simp [Van.sumN, aug, m4, g4] at p0 p1
  rw [hz0, hz1] at p0 p1
  obtain ⟨t0, t1⟩ := sat4 (X := X) (Y := Y) n3 n4 n2 n1
  have d0 := Int.dvd_sub p0 t0
  have d1 := Int.dvd_sub p1 t1
  have hk := ker4' (u := s0 - q4 b3 c2 c3 X Y) (v := s1 - r4 b3 b4 c2 c3 X Y) n3 n4 n2 n1 (by
    have e : b3 * s0 + b4 * s1 - X - (b3 * q4 b3 c2 c3 X Y + b4 * r4 b3 b4 c2 c3 X Y - X) = b3 * (s0 - q4 b3 c2 c3 X Y) + b4 * (s1 - r4 b3 b4 c2 c3 X Y) := by
      generalize q4 b3 c2 c3 X Y = q
      generalize r4 b3 b4 c2 c3 X Y = r
      grind
    rwa [e] at d0) (by
    have e : M.times b3 (M.times c3 c2) * s0 + M.times b4 c2 * s1 - Y - (M.times b3 (M.times c3 c2) * q4 b3 c2 c3 X Y + M.times b4 c2 * r4 b3 b4 c2 c3 X Y - Y) = M.times b3 (M.times c3 c2) * (s0 - q4 b3 c2 c3 X Y) + M.times b4 c2 * (s1 - r4 b3 b4 c2 c3 X Y) := by
      generalize q4 b3 c2 c3 X Y = q
      generalize r4 b3 b4 c2 c3 X Y = r
      generalize M.times b3 (M.times c3 c2) = a
      generalize M.times b4 c2 = b
      grind
    rwa [e] at d1)
  rw [num_eq_of (hn s0 (by simp)) (M.num_frac _ _) hk.1, num_eq_of (hn s1 (by simp)) (M.num_frac _ _) hk.2]
  rfl
end
/-! ### what the function answers -/
def ex4B (c2 c3 : Int) : List Int := wtL [0, c2, c3, 1] 4 1
def ex4p (c2 c3 : Int) : Int := M.frac (M.times ((ex4B c2 c3).getD 2 0) (M.minus 1 c3)) ((ex4B c2 c3).getD 3 0)
def ex4x (c2 c3 : Int) : Int := M.times ((ex4B c2 c3).getD 1 0) (M.minus 1 c2)
def ex4y (c2 c3 : Int) : Int := M.minus (M.inv 8) (M.times ((ex4B c2 c3).getD 3 0) (M.times (ex4p c2 c3) c3))
def ex4q (c2 c3 : Int) : Int := q4 ((ex4B c2 c3).getD 2 0) c2 c3 (ex4x c2 c3) (ex4y c2 c3)
def ex4r (c2 c3 : Int) : Int := r4 ((ex4B c2 c3).getD 2 0) ((ex4B c2 c3).getD 3 0) c2 c3 (ex4x c2 c3) (ex4y c2 c3)
def ex4Ok (c2 c3 : Int) : Bool := colOk [0, c2, c3, 1] && !(decide ((ex4B c2 c3).getD 2 0 = 0) || decide ((ex4B c2 c3).getD 3 0 = 0))
def ex4A (c2 c3 : Int) : List Int := [0, 0, 0, 0, c2, 0, 0, 0, M.minus c3 (ex4q c2 c3), ex4q c2 c3, 0, 0, M.minus 1 (M.plus (ex4r c2 c3) (ex4p c2 c3)), ex4r c2 c3, ex4p c2 c3, 0]
def ex4V (c2 c3 : Int) : Tb := if ex4Ok c2 c3 then ⟨4, ex4A c2 c3, ex4B c2 c3, true⟩ else Tb.none
theorem ex4V_yes {c2 c3 : Int} (h : ex4Ok c2 c3 = true) : ex4V c2 c3 = ⟨4, ex4A c2 c3, ex4B c2 c3, true⟩ := by unfold ex4V; rw [h]; rfl
theorem ex4V_no {c2 c3 : Int} (h : ex4Ok c2 c3 = false) : ex4V c2 c3 = Tb.none := by unfold ex4V; rw [h]; rfl
theorem ex4V_len (c2 c3 : Int) : (ex4V c2 c3).A.length ≤ 1000 ∧ (ex4V c2 c3).B.length ≤ 1000 := by
  cases h : ex4Ok c2 c3 with
  | false => rw [ex4V_no h]; exact ⟨Nat.zero_le _, Nat.zero_le _⟩
  | true =>
    rw [ex4V_yes h]
    simp only [ex4B, wtL_len, ex4A, List.length_cons, List.length_nil]
    omega
theorem ok_four {c2 c3 : Int} : colOk [0, c2, c3, 1] = (M.allNum [0, c2, c3, 1] && ndB [0, c2, c3, 1]) := by
  unfold colOk
  rw [decide_eq_true (show 1 ≤ [0, c2, c3, 1].length by simp), decide_eq_true (show [0, c2, c3, 1].length ≤ 8 by simp), Bool.true_and, Bool.true_and]
theorem wf4 {c2 c3 : Int} (h2 : I64 c2) (h3 : I64 c3) : ∀ x ∈ [0, c2, c3, 1], I64 x := by
  intro x hx
  simp only [List.mem_cons, List.not_mem_nil, or_false] at hx
  rcases hx with rfl | rfl | rfl | rfl
  · exact ⟨by decide, by decide⟩
  · exact h2
  · exact h3
  · exact ⟨by decide, by decide⟩
theorem ex4_wf {c2 c3 : Int} (h2 : I64 c2) : ∀ x ∈ ex4A c2 c3, I64 x := by
  have h0 : I64 0 := ⟨by decide, by decide⟩
  have h1 : I64 (M.minus c3 (ex4q c2 c3)) := I64.num (M.num_minus _ _)
  have h3 : I64 (ex4q c2 c3) := I64.num (M.num_frac _ _)
  have h4 : I64 (M.minus 1 (M.plus (ex4r c2 c3) (ex4p c2 c3))) := I64.num (M.num_minus _ _)
  have h5 : I64 (ex4r c2 c3) := I64.num (M.num_frac _ _)
  have h6 : I64 (ex4p c2 c3) := I64.num (M.num_frac _ _)
  intro x hx
  unfold ex4A at hx
  generalize M.minus c3 (ex4q c2 c3) = u at h1 hx
  generalize M.minus 1 (M.plus (ex4r c2 c3) (ex4p c2 c3)) = v at h4 hx
  generalize ex4q c2 c3 = s at h3 hx
  generalize ex4r c2 c3 = t at h5 hx
  generalize ex4p c2 c3 = y at h6 hx
  simp only [List.mem_cons, List.not_mem_nil, or_false] at hx
  rcases hx with rfl | rfl | rfl | rfl | rfl | rfl | rfl | rfl | rfl | rfl | rfl | rfl | rfl | rfl | rfl | rfl <;> assumption
/-- The specification's spelling of a product with a difference. -/
theorem times_sub (b c : Int) : M.times b (1 - c) = M.times b (M.minus 1 c) := by unfold M.times M.minus; rw [M.mul_r]
/-- The implementation's spelling of y. -/
theorem times_assoc (a b c : Int) : M.times (M.times a b) c = M.times a (M.times b c) := by unfold M.times; rw [M.mul_l, M.mul_r, Int.mul_assoc]
theorem ex4_facts {c2 c3 : Int} (h : ex4Ok c2 c3 = true) : ¬ M.P ∣ (ex4B c2 c3).getD 2 0 ∧ ¬ M.P ∣ (ex4B c2 c3).getD 3 0 ∧ ¬ M.P ∣ c2 ∧ ¬ M.P ∣ c3 - 1 ∧ M.num c2 ∧ M.num c3 ∧ M.num ((ex4B c2 c3).getD 2 0) ∧ M.num ((ex4B c2 c3).getD 3 0) := by
  unfold ex4Ok at h
  simp only [Bool.and_eq_true, Bool.not_eq_true', Bool.or_eq_false_iff, decide_eq_false_iff_not] at h
  obtain ⟨ho, h2, h3⟩ := h
  have hd := colOk_dif (n := 4) rfl ho
  have hall := (colOk_parts ho).2.2.1
  have hc : ∀ x ∈ [0, c2, c3, 1], M.num x := M.allNum_mem hall
  have hb : ∀ i, i < 4 → M.num ((ex4B c2 c3).getD i 0) := fun i hi => by
    refine solL_num (n := 4) (fun i j _ _ => pwM_num _ i j) (fun i _ => rgt_num 1 i) (pw_ker _ hd) _ ?_
    rw [List.getD_eq_getElem?_getD, List.getElem?_eq_getElem (show i < (ex4B c2 c3).length by unfold ex4B; rw [wtL_len]; exact hi)]
    exact List.getElem_mem _
  refine ⟨not_dvd_of (hb 2 (by omega)) h2, not_dvd_of (hb 3 (by omega)) h3, ?_, ?_, hc c2 (by simp), hc c3 (by simp), hb 2 (by omega), hb 3 (by omega)⟩
  · have := hd 1 0 (by omega) (by omega) (by omega)
    simpa using this
  · have := hd 2 3 (by omega) (by omega) (by omega)
    simpa using this
theorem ex4_sol {c2 c3 : Int} (h : ex4Ok c2 c3 = true) : solL (m4 ((ex4B c2 c3).getD 2 0) ((ex4B c2 c3).getD 3 0) c2 c3) (g4 (ex4x c2 c3) (ex4y c2 c3)) 2 = [ex4q c2 c3, ex4r c2 c3] := by
  obtain ⟨h1, h2, h3, h4, _, _, h5, h6⟩ := ex4_facts h
  exact sol4 h1 h2 h3 h4 h5 h6 (M.num_times _ _) (M.num_minus _ _)
theorem impl_empty4 (w : World) :
    Calls Try.prog 56 #[.int .i64 4] w fun e w' => ∃ bA bB, e = .returned (.agg #[.int .i64 4, .slice (some ⟨bA, 0, none⟩) 16 16, .slice (some ⟨bB, 0, none⟩) 4 4]) ∧
      Bi w' bA (zerosL 16) ∧ Bi w' bB (zerosL 4) ∧ bA ≠ bB ∧ Below w.heap.size w w' ∧ w.heap.size ≤ bA ∧ w.heap.size ≤ bB := impl_emptyW 4 16 w (by decide) rfl
theorem impl_row41 (b : Nat) (v : Value) (w : World) :
    Calls Try.prog 33 #[.agg #[.int .i64 4, .slice (some ⟨b, 0, none⟩) 16 16, v], .int .i64 1] w fun e w' => e = .returned (.slice (some ⟨b, 4, none⟩) 4 12) ∧ Below w.heap.size w w' := impl_row 4 1 b 0 16 16 v w rfl (by decide) (by decide) (by decide) (by decide)
theorem impl_row42 (b : Nat) (v : Value) (w : World) :
    Calls Try.prog 33 #[.agg #[.int .i64 4, .slice (some ⟨b, 0, none⟩) 16 16, v], .int .i64 2] w fun e w' => e = .returned (.slice (some ⟨b, 8, none⟩) 4 8) ∧ Below w.heap.size w w' := impl_row 4 2 b 0 16 16 v w rfl (by decide) (by decide) (by decide) (by decide)
theorem impl_row43 (b : Nat) (v : Value) (w : World) :
    Calls Try.prog 33 #[.agg #[.int .i64 4, .slice (some ⟨b, 0, none⟩) 16 16, v], .int .i64 3] w fun e w' => e = .returned (.slice (some ⟨b, 12, none⟩) 4 4) ∧ Below w.heap.size w w' := impl_row 4 3 b 0 16 16 v w rfl (by decide) (by decide) (by decide) (by decide)
end Go.Proofs.Ythebegfceaehfaa
