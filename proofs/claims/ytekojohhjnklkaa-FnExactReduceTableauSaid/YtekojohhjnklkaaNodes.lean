/- The nodes of Gauss, Radau and Lobatto. -/
import Derived.Test.YtekojohhjnklkaaLaw
namespace Go.Proofs.Ytekojohhjnklkaa
open Go.RowKit
attribute [local irreducible] M.powr

theorem below_new (w : World) (o : Obj) : Below w.heap.size w (w.alloc o) := (Below.refl _ _).alloc (Nat.le_refl _) o
/-- A literal slice. -/
theorem Fr.lit (w : World) (xs : List Int) (cs : Array Value) (n : Nat) (hcs : cs = (xs.map (Value.int .i64)).toArray) (hn : xs.length = n) (hm : n ≤ 1048576) (hw : ∀ x ∈ xs, I64 x) :
    Fr (w.alloc (.cells cs 3)) w.heap.size (some ⟨w.heap.size, 0, none⟩) n n xs := by
  subst hcs
  have hg := heap_alloc_new w (.cells (xs.map (Value.int .i64)).toArray 3)
  refine ⟨⟨hn, Nat.le_refl _, by omega, fun i hi => ⟨_, 0, rfl, ?_⟩, hw⟩, fun b o s e _ => ?_⟩
  · rw [Nat.zero_add, cell_of_row _ _ i _ _ _ hg]
    simp [List.getD, show i < xs.length by omega]
  · simp only [Option.some.injEq, Addr.mk.injEq] at e
    obtain ⟨rfl, rfl, rfl⟩ := e
    exact ⟨Nat.le_refl _, fun i _ => frozen_of_row _ _ _ _ _ hg⟩
theorem Fr.none (w : World) (lo : Nat) : Fr w lo none 0 0 [] := ⟨Rd.nil _ _ _ (by omega), fun b o s e => by cases e⟩
/-- What a function leaves that hands back a new slice of ints. -/
def NewInts (w w' : World) (xs : List Int) (ao : Option Addr) (n c : Nat) : Prop := Fr w' w.heap.size ao n c xs ∧ Below w.heap.size w w'
theorem NewInts.lit (w : World) (xs : List Int) (cs : Array Value) (n : Nat) (hcs : cs = (xs.map (Value.int .i64)).toArray) (hn : xs.length = n) (hm : n ≤ 1048576) (hw : ∀ x ∈ xs, I64 x) :
    NewInts w (w.alloc (.cells cs 3)) xs (some ⟨w.heap.size, 0, none⟩) n n := ⟨Fr.lit w xs cs n hcs hn hm hw, below_new _ _⟩
theorem NewInts.none (w : World) : NewInts w w [] none 0 0 := ⟨Fr.none _ _, Below.refl _ _⟩

namespace M
def half : Int := frac 1 2
def gauss (s : Int) : List Int :=
  if s = 1 then [half] else if s = 2 then [minus half (frac (sqVal 3) 6), plus half (frac (sqVal 3) 6)]
  else if s = 3 then [minus half (frac (sqVal 15) 10), half, plus half (frac (sqVal 15) 10)] else []
def radau (s : Int) : List Int :=
  if s = 1 then [1] else if s = 2 then [frac 1 3, 1] else if s = 3 then [frac (minus 4 (sqVal 6)) 10, frac (plus 4 (sqVal 6)) 10, 1] else []
def lobatto (s : Int) : List Int :=
  if s = 2 then [0, 1] else if s = 3 then [0, half, 1] else if s = 4 then [0, minus half (frac (sqVal 5) 10), plus half (frac (sqVal 5) 10), 1] else []
theorem frac_mod (a b : Int) : frac (a % P) b = frac a b := by unfold frac times; rw [mul_l]
theorem num0 : num 0 := ⟨by decide, by decide⟩
theorem num1 : num 1 := ⟨by decide, by decide⟩
theorem gauss_num (s : Int) : ∀ x ∈ gauss s, num x := by
  unfold gauss half
  intro x hx
  (repeat' split at hx) <;> simp only [List.mem_cons, List.not_mem_nil, or_false] at hx
  · exact hx ▸ num_frac _ _
  · rcases hx with rfl | rfl
    · exact num_minus _ _
    · exact num_plus _ _
  · rcases hx with rfl | rfl | rfl
    · exact num_minus _ _
    · exact num_frac _ _
    · exact num_plus _ _
theorem radau_num (s : Int) : ∀ x ∈ radau s, num x := by
  unfold radau
  intro x hx
  (repeat' split at hx) <;> simp only [List.mem_cons, List.not_mem_nil, or_false] at hx
  · exact hx ▸ num1
  · rcases hx with rfl | rfl
    · exact num_frac _ _
    · exact num1
  · rcases hx with rfl | rfl | rfl
    · exact num_frac _ _
    · exact num_frac _ _
    · exact num1
theorem lobatto_num (s : Int) : ∀ x ∈ lobatto s, num x := by
  unfold lobatto half
  intro x hx
  (repeat' split at hx) <;> simp only [List.mem_cons, List.not_mem_nil, or_false] at hx
  · rcases hx with rfl | rfl
    · exact num0
    · exact num1
  · rcases hx with rfl | rfl | rfl
    · exact num0
    · exact num_frac _ _
    · exact num1
  · rcases hx with rfl | rfl | rfl | rfl
    · exact num0
    · exact num_minus _ _
    · exact num_plus _ _
    · exact num1
end M

theorem impl_GaussNodes (s : Int) (w : World) :
    Calls Try.prog 30 #[.int .i64 s] w fun e w' => ∃ ao n c, e = .returned (.slice ao n c) ∧ NewInts w w' (M.gauss s) ao n c := by
  have hw := fun x hx => I64.num (M.gauss_num s x hx)
  have HW := hid hw
  clear hw
  by_cases h1 : s = 1
  · subst h1
    go_enter Try.func30, Try.ntmps30
    go_wp2_with (first | (go_at_call 54; refine (impl_Fraction _ _ _).mono ?_; rintro e w' ⟨rfl, rfl⟩) | (go_at_call 55; refine (impl_root _ _).mono ?_; rintro e w' ⟨rfl, rfl⟩) | (go_at_call 56; refine (impl_Minus _ _ _).mono ?_; rintro e w' ⟨rfl, rfl⟩) | (go_at_call 57; refine (impl_Plus _ _ _).mono ?_; rintro e w' ⟨rfl, rfl⟩))
    go_ret
    exact ⟨_, _, _, rfl, NewInts.lit _ (M.gauss 1) _ _ rfl rfl (by omega) HW.out⟩
  · skip
    by_cases h2 : s = 2
    · subst h2
      go_enter Try.func30, Try.ntmps30
      go_wp2_with (first | (go_at_call 54; refine (impl_Fraction _ _ _).mono ?_; rintro e w' ⟨rfl, rfl⟩) | (go_at_call 55; refine (impl_root _ _).mono ?_; rintro e w' ⟨rfl, rfl⟩) | (go_at_call 56; refine (impl_Minus _ _ _).mono ?_; rintro e w' ⟨rfl, rfl⟩) | (go_at_call 57; refine (impl_Plus _ _ _).mono ?_; rintro e w' ⟨rfl, rfl⟩))
      go_ret
      exact ⟨_, _, _, rfl, NewInts.lit _ (M.gauss 2) _ _ rfl rfl (by omega) HW.out⟩
    · skip
      by_cases h3 : s = 3
      · subst h3
        go_enter Try.func30, Try.ntmps30
        go_wp2_with (first | (go_at_call 54; refine (impl_Fraction _ _ _).mono ?_; rintro e w' ⟨rfl, rfl⟩) | (go_at_call 55; refine (impl_root _ _).mono ?_; rintro e w' ⟨rfl, rfl⟩) | (go_at_call 56; refine (impl_Minus _ _ _).mono ?_; rintro e w' ⟨rfl, rfl⟩) | (go_at_call 57; refine (impl_Plus _ _ _).mono ?_; rintro e w' ⟨rfl, rfl⟩))
        go_ret
        exact ⟨_, _, _, rfl, NewInts.lit _ (M.gauss 3) _ _ rfl rfl (by omega) HW.out⟩
      · skip
        have HN := hid (show M.gauss s = [] by simp [M.gauss, h1, h2, h3])
        have e1 : (s == 1) = false := beq_eq_false_iff_ne.2 h1
        have e2 : (s == 2) = false := beq_eq_false_iff_ne.2 h2
        have e3 : (s == 3) = false := beq_eq_false_iff_ne.2 h3
        clear h1 h2 h3
        go_enter Try.func30, Try.ntmps30
        go_wp2_with (first | (go_at_call 54; refine (impl_Fraction _ _ _).mono ?_; rintro e w' ⟨rfl, rfl⟩) | (go_at_call 55; refine (impl_root _ _).mono ?_; rintro e w' ⟨rfl, rfl⟩) | (go_at_call 56; refine (impl_Minus _ _ _).mono ?_; rintro e w' ⟨rfl, rfl⟩) | (go_at_call 57; refine (impl_Plus _ _ _).mono ?_; rintro e w' ⟨rfl, rfl⟩))
        go_ret
        exact ⟨_, _, _, rfl, by rw [HN.out]; exact NewInts.none _⟩
theorem spec_GaussNodes (s : Int) (w : World) :
    Calls Try.prog 29 #[.int .i64 s] w fun e w' => ∃ ao n c, e = .returned (.slice ao n c) ∧ NewInts w w' (M.gauss s) ao n c := by
  have hw := fun x hx => I64.num (M.gauss_num s x hx)
  have HW := hid hw
  clear hw
  by_cases h1 : s = 1
  · subst h1
    go_enter Try.func29, Try.ntmps29
    go_wp2_with (first | (go_at_call 52; refine (spec_Fraction _ _ _).mono ?_; rintro e w' ⟨rfl, rfl⟩) | (go_at_call 53; refine (spec_root _ _).mono ?_; rintro e w' ⟨rfl, rfl⟩) | (go_at_call 58; refine (spec_Minus _ _ _).mono ?_; rintro e w' ⟨rfl, rfl⟩) | (go_at_call 59; refine (spec_Plus _ _ _).mono ?_; rintro e w' ⟨rfl, rfl⟩))
    go_ret
    exact ⟨_, _, _, rfl, NewInts.lit _ (M.gauss 1) _ _ rfl rfl (by omega) HW.out⟩
  · skip
    by_cases h2 : s = 2
    · subst h2
      go_enter Try.func29, Try.ntmps29
      go_wp2_with (first | (go_at_call 52; refine (spec_Fraction _ _ _).mono ?_; rintro e w' ⟨rfl, rfl⟩) | (go_at_call 53; refine (spec_root _ _).mono ?_; rintro e w' ⟨rfl, rfl⟩) | (go_at_call 58; refine (spec_Minus _ _ _).mono ?_; rintro e w' ⟨rfl, rfl⟩) | (go_at_call 59; refine (spec_Plus _ _ _).mono ?_; rintro e w' ⟨rfl, rfl⟩))
      go_ret
      exact ⟨_, _, _, rfl, NewInts.lit _ (M.gauss 2) _ _ rfl rfl (by omega) HW.out⟩
    · skip
      by_cases h3 : s = 3
      · subst h3
        go_enter Try.func29, Try.ntmps29
        go_wp2_with (first | (go_at_call 52; refine (spec_Fraction _ _ _).mono ?_; rintro e w' ⟨rfl, rfl⟩) | (go_at_call 53; refine (spec_root _ _).mono ?_; rintro e w' ⟨rfl, rfl⟩) | (go_at_call 58; refine (spec_Minus _ _ _).mono ?_; rintro e w' ⟨rfl, rfl⟩) | (go_at_call 59; refine (spec_Plus _ _ _).mono ?_; rintro e w' ⟨rfl, rfl⟩))
        go_ret
        exact ⟨_, _, _, rfl, NewInts.lit _ (M.gauss 3) _ _ rfl rfl (by omega) HW.out⟩
      · skip
        have HN := hid (show M.gauss s = [] by simp [M.gauss, h1, h2, h3])
        have e1 : (s == 1) = false := beq_eq_false_iff_ne.2 h1
        have e2 : (s == 2) = false := beq_eq_false_iff_ne.2 h2
        have e3 : (s == 3) = false := beq_eq_false_iff_ne.2 h3
        clear h1 h2 h3
        go_enter Try.func29, Try.ntmps29
        go_wp2_with (first | (go_at_call 52; refine (spec_Fraction _ _ _).mono ?_; rintro e w' ⟨rfl, rfl⟩) | (go_at_call 53; refine (spec_root _ _).mono ?_; rintro e w' ⟨rfl, rfl⟩) | (go_at_call 58; refine (spec_Minus _ _ _).mono ?_; rintro e w' ⟨rfl, rfl⟩) | (go_at_call 59; refine (spec_Plus _ _ _).mono ?_; rintro e w' ⟨rfl, rfl⟩))
        go_ret
        exact ⟨_, _, _, rfl, by rw [HN.out]; exact NewInts.none _⟩
theorem impl_RadauNodes (s : Int) (w : World) :
    Calls Try.prog 21 #[.int .i64 s] w fun e w' => ∃ ao n c, e = .returned (.slice ao n c) ∧ NewInts w w' (M.radau s) ao n c := by
  have hw := fun x hx => I64.num (M.radau_num s x hx)
  have HW := hid hw
  clear hw
  by_cases h1 : s = 1
  · subst h1
    go_enter Try.func21, Try.ntmps21
    go_wp2_with (first | (go_at_call 54; refine (impl_Fraction _ _ _).mono ?_; rintro e w' ⟨rfl, rfl⟩) | (go_at_call 55; refine (impl_root _ _).mono ?_; rintro e w' ⟨rfl, rfl⟩) | (go_at_call 56; refine (impl_Minus _ _ _).mono ?_; rintro e w' ⟨rfl, rfl⟩) | (go_at_call 57; refine (impl_Plus _ _ _).mono ?_; rintro e w' ⟨rfl, rfl⟩))
    go_ret
    exact ⟨_, _, _, rfl, NewInts.lit _ (M.radau 1) _ _ rfl rfl (by omega) HW.out⟩
  · skip
    by_cases h2 : s = 2
    · subst h2
      go_enter Try.func21, Try.ntmps21
      go_wp2_with (first | (go_at_call 54; refine (impl_Fraction _ _ _).mono ?_; rintro e w' ⟨rfl, rfl⟩) | (go_at_call 55; refine (impl_root _ _).mono ?_; rintro e w' ⟨rfl, rfl⟩) | (go_at_call 56; refine (impl_Minus _ _ _).mono ?_; rintro e w' ⟨rfl, rfl⟩) | (go_at_call 57; refine (impl_Plus _ _ _).mono ?_; rintro e w' ⟨rfl, rfl⟩))
      go_ret
      exact ⟨_, _, _, rfl, NewInts.lit _ (M.radau 2) _ _ rfl rfl (by omega) HW.out⟩
    · skip
      by_cases h3 : s = 3
      · subst h3
        go_enter Try.func21, Try.ntmps21
        go_wp2_with (first | (go_at_call 54; refine (impl_Fraction _ _ _).mono ?_; rintro e w' ⟨rfl, rfl⟩) | (go_at_call 55; refine (impl_root _ _).mono ?_; rintro e w' ⟨rfl, rfl⟩) | (go_at_call 56; refine (impl_Minus _ _ _).mono ?_; rintro e w' ⟨rfl, rfl⟩) | (go_at_call 57; refine (impl_Plus _ _ _).mono ?_; rintro e w' ⟨rfl, rfl⟩))
        go_ret
        exact ⟨_, _, _, rfl, NewInts.lit _ (M.radau 3) _ _ rfl rfl (by omega) HW.out⟩
      · skip
        have HN := hid (show M.radau s = [] by simp [M.radau, h1, h2, h3])
        have e1 : (s == 1) = false := beq_eq_false_iff_ne.2 h1
        have e2 : (s == 2) = false := beq_eq_false_iff_ne.2 h2
        have e3 : (s == 3) = false := beq_eq_false_iff_ne.2 h3
        clear h1 h2 h3
        go_enter Try.func21, Try.ntmps21
        go_wp2_with (first | (go_at_call 54; refine (impl_Fraction _ _ _).mono ?_; rintro e w' ⟨rfl, rfl⟩) | (go_at_call 55; refine (impl_root _ _).mono ?_; rintro e w' ⟨rfl, rfl⟩) | (go_at_call 56; refine (impl_Minus _ _ _).mono ?_; rintro e w' ⟨rfl, rfl⟩) | (go_at_call 57; refine (impl_Plus _ _ _).mono ?_; rintro e w' ⟨rfl, rfl⟩))
        go_ret
        exact ⟨_, _, _, rfl, by rw [HN.out]; exact NewInts.none _⟩
theorem spec_RadauNodes (s : Int) (w : World) :
    Calls Try.prog 20 #[.int .i64 s] w fun e w' => ∃ ao n c, e = .returned (.slice ao n c) ∧ NewInts w w' (M.radau s) ao n c := by
  have hw := fun x hx => I64.num (M.radau_num s x hx)
  have HW := hid hw
  clear hw
  have hb : 0 ≤ M.sqVal 6 ∧ M.sqVal 6 < 1000000271 := M.num_sqVal 6
  by_cases h1 : s = 1
  · subst h1
    go_enter Try.func20, Try.ntmps20
    go_wp2_with (first | (go_at_call 52; refine (spec_Fraction _ _ _).mono ?_; rintro e w' ⟨rfl, rfl⟩) | (go_at_call 53; refine (spec_root _ _).mono ?_; rintro e w' ⟨rfl, rfl⟩) | (go_at_call 58; refine (spec_Minus _ _ _).mono ?_; rintro e w' ⟨rfl, rfl⟩) | (go_at_call 59; refine (spec_Plus _ _ _).mono ?_; rintro e w' ⟨rfl, rfl⟩))
    go_ret
    exact ⟨_, _, _, rfl, NewInts.lit _ (M.radau 1) _ _ rfl rfl (by omega) HW.out⟩
  · skip
    by_cases h2 : s = 2
    · subst h2
      go_enter Try.func20, Try.ntmps20
      go_wp2_with (first | (go_at_call 52; refine (spec_Fraction _ _ _).mono ?_; rintro e w' ⟨rfl, rfl⟩) | (go_at_call 53; refine (spec_root _ _).mono ?_; rintro e w' ⟨rfl, rfl⟩) | (go_at_call 58; refine (spec_Minus _ _ _).mono ?_; rintro e w' ⟨rfl, rfl⟩) | (go_at_call 59; refine (spec_Plus _ _ _).mono ?_; rintro e w' ⟨rfl, rfl⟩))
      go_ret
      exact ⟨_, _, _, rfl, NewInts.lit _ (M.radau 2) _ _ rfl rfl (by omega) HW.out⟩
    · skip
      by_cases h3 : s = 3
      · subst h3
        go_enter Try.func20, Try.ntmps20
        go_wp2_with (first | (go_at_call 52; refine (spec_Fraction _ _ _).mono ?_; rintro e w' ⟨rfl, rfl⟩) | (go_at_call 53; refine (spec_root _ _).mono ?_; rintro e w' ⟨rfl, rfl⟩) | (go_at_call 58; refine (spec_Minus _ _ _).mono ?_; rintro e w' ⟨rfl, rfl⟩) | (go_at_call 59; refine (spec_Plus _ _ _).mono ?_; rintro e w' ⟨rfl, rfl⟩))
        go_ret
        exact ⟨_, _, _, rfl, NewInts.lit _ (M.radau 3) _ _ (by rw [show M.radau 3 = [M.frac (M.minus 4 (M.sqVal 6)) 10, M.frac (M.plus 4 (M.sqVal 6)) 10, 1] from rfl, show M.minus 4 (M.sqVal 6) = (4 - M.sqVal 6) % M.P from rfl, show M.plus 4 (M.sqVal 6) = (4 + M.sqVal 6) % M.P from rfl, M.frac_mod, M.frac_mod]; rfl) rfl (by omega) HW.out⟩
      · skip
        have HN := hid (show M.radau s = [] by simp [M.radau, h1, h2, h3])
        have e1 : (s == 1) = false := beq_eq_false_iff_ne.2 h1
        have e2 : (s == 2) = false := beq_eq_false_iff_ne.2 h2
        have e3 : (s == 3) = false := beq_eq_false_iff_ne.2 h3
        clear h1 h2 h3
        go_enter Try.func20, Try.ntmps20
        go_wp2_with (first | (go_at_call 52; refine (spec_Fraction _ _ _).mono ?_; rintro e w' ⟨rfl, rfl⟩) | (go_at_call 53; refine (spec_root _ _).mono ?_; rintro e w' ⟨rfl, rfl⟩) | (go_at_call 58; refine (spec_Minus _ _ _).mono ?_; rintro e w' ⟨rfl, rfl⟩) | (go_at_call 59; refine (spec_Plus _ _ _).mono ?_; rintro e w' ⟨rfl, rfl⟩))
        go_ret
        exact ⟨_, _, _, rfl, by rw [HN.out]; exact NewInts.none _⟩
theorem impl_LobattoNodes (s : Int) (w : World) :
    Calls Try.prog 26 #[.int .i64 s] w fun e w' => ∃ ao n c, e = .returned (.slice ao n c) ∧ NewInts w w' (M.lobatto s) ao n c := by
  have hw := fun x hx => I64.num (M.lobatto_num s x hx)
  have HW := hid hw
  clear hw
  by_cases h2 : s = 2
  · subst h2
    go_enter Try.func26, Try.ntmps26
    go_wp2_with (first | (go_at_call 54; refine (impl_Fraction _ _ _).mono ?_; rintro e w' ⟨rfl, rfl⟩) | (go_at_call 55; refine (impl_root _ _).mono ?_; rintro e w' ⟨rfl, rfl⟩) | (go_at_call 56; refine (impl_Minus _ _ _).mono ?_; rintro e w' ⟨rfl, rfl⟩) | (go_at_call 57; refine (impl_Plus _ _ _).mono ?_; rintro e w' ⟨rfl, rfl⟩))
    go_ret
    exact ⟨_, _, _, rfl, NewInts.lit _ (M.lobatto 2) _ _ rfl rfl (by omega) HW.out⟩
  · skip
    by_cases h3 : s = 3
    · subst h3
      go_enter Try.func26, Try.ntmps26
      go_wp2_with (first | (go_at_call 54; refine (impl_Fraction _ _ _).mono ?_; rintro e w' ⟨rfl, rfl⟩) | (go_at_call 55; refine (impl_root _ _).mono ?_; rintro e w' ⟨rfl, rfl⟩) | (go_at_call 56; refine (impl_Minus _ _ _).mono ?_; rintro e w' ⟨rfl, rfl⟩) | (go_at_call 57; refine (impl_Plus _ _ _).mono ?_; rintro e w' ⟨rfl, rfl⟩))
      go_ret
      exact ⟨_, _, _, rfl, NewInts.lit _ (M.lobatto 3) _ _ rfl rfl (by omega) HW.out⟩
    · skip
      by_cases h4 : s = 4
      · subst h4
        go_enter Try.func26, Try.ntmps26
        go_wp2_with (first | (go_at_call 54; refine (impl_Fraction _ _ _).mono ?_; rintro e w' ⟨rfl, rfl⟩) | (go_at_call 55; refine (impl_root _ _).mono ?_; rintro e w' ⟨rfl, rfl⟩) | (go_at_call 56; refine (impl_Minus _ _ _).mono ?_; rintro e w' ⟨rfl, rfl⟩) | (go_at_call 57; refine (impl_Plus _ _ _).mono ?_; rintro e w' ⟨rfl, rfl⟩))
        go_ret
        exact ⟨_, _, _, rfl, NewInts.lit _ (M.lobatto 4) _ _ rfl rfl (by omega) HW.out⟩
      · skip
        have HN := hid (show M.lobatto s = [] by simp [M.lobatto, h2, h3, h4])
        have e2 : (s == 2) = false := beq_eq_false_iff_ne.2 h2
        have e3 : (s == 3) = false := beq_eq_false_iff_ne.2 h3
        have e4 : (s == 4) = false := beq_eq_false_iff_ne.2 h4
        clear h2 h3 h4
        go_enter Try.func26, Try.ntmps26
        go_wp2_with (first | (go_at_call 54; refine (impl_Fraction _ _ _).mono ?_; rintro e w' ⟨rfl, rfl⟩) | (go_at_call 55; refine (impl_root _ _).mono ?_; rintro e w' ⟨rfl, rfl⟩) | (go_at_call 56; refine (impl_Minus _ _ _).mono ?_; rintro e w' ⟨rfl, rfl⟩) | (go_at_call 57; refine (impl_Plus _ _ _).mono ?_; rintro e w' ⟨rfl, rfl⟩))
        go_ret
        exact ⟨_, _, _, rfl, by rw [HN.out]; exact NewInts.none _⟩
theorem spec_LobattoNodes (s : Int) (w : World) :
    Calls Try.prog 25 #[.int .i64 s] w fun e w' => ∃ ao n c, e = .returned (.slice ao n c) ∧ NewInts w w' (M.lobatto s) ao n c := by
  have hw := fun x hx => I64.num (M.lobatto_num s x hx)
  have HW := hid hw
  clear hw
  by_cases h2 : s = 2
  · subst h2
    go_enter Try.func25, Try.ntmps25
    go_wp2_with (first | (go_at_call 52; refine (spec_Fraction _ _ _).mono ?_; rintro e w' ⟨rfl, rfl⟩) | (go_at_call 53; refine (spec_root _ _).mono ?_; rintro e w' ⟨rfl, rfl⟩) | (go_at_call 58; refine (spec_Minus _ _ _).mono ?_; rintro e w' ⟨rfl, rfl⟩) | (go_at_call 59; refine (spec_Plus _ _ _).mono ?_; rintro e w' ⟨rfl, rfl⟩))
    go_ret
    exact ⟨_, _, _, rfl, NewInts.lit _ (M.lobatto 2) _ _ rfl rfl (by omega) HW.out⟩
  · skip
    by_cases h3 : s = 3
    · subst h3
      go_enter Try.func25, Try.ntmps25
      go_wp2_with (first | (go_at_call 52; refine (spec_Fraction _ _ _).mono ?_; rintro e w' ⟨rfl, rfl⟩) | (go_at_call 53; refine (spec_root _ _).mono ?_; rintro e w' ⟨rfl, rfl⟩) | (go_at_call 58; refine (spec_Minus _ _ _).mono ?_; rintro e w' ⟨rfl, rfl⟩) | (go_at_call 59; refine (spec_Plus _ _ _).mono ?_; rintro e w' ⟨rfl, rfl⟩))
      go_ret
      exact ⟨_, _, _, rfl, NewInts.lit _ (M.lobatto 3) _ _ rfl rfl (by omega) HW.out⟩
    · skip
      by_cases h4 : s = 4
      · subst h4
        go_enter Try.func25, Try.ntmps25
        go_wp2_with (first | (go_at_call 52; refine (spec_Fraction _ _ _).mono ?_; rintro e w' ⟨rfl, rfl⟩) | (go_at_call 53; refine (spec_root _ _).mono ?_; rintro e w' ⟨rfl, rfl⟩) | (go_at_call 58; refine (spec_Minus _ _ _).mono ?_; rintro e w' ⟨rfl, rfl⟩) | (go_at_call 59; refine (spec_Plus _ _ _).mono ?_; rintro e w' ⟨rfl, rfl⟩))
        go_ret
        exact ⟨_, _, _, rfl, NewInts.lit _ (M.lobatto 4) _ _ rfl rfl (by omega) HW.out⟩
      · skip
        have HN := hid (show M.lobatto s = [] by simp [M.lobatto, h2, h3, h4])
        have e2 : (s == 2) = false := beq_eq_false_iff_ne.2 h2
        have e3 : (s == 3) = false := beq_eq_false_iff_ne.2 h3
        have e4 : (s == 4) = false := beq_eq_false_iff_ne.2 h4
        clear h2 h3 h4
        go_enter Try.func25, Try.ntmps25
        go_wp2_with (first | (go_at_call 52; refine (spec_Fraction _ _ _).mono ?_; rintro e w' ⟨rfl, rfl⟩) | (go_at_call 53; refine (spec_root _ _).mono ?_; rintro e w' ⟨rfl, rfl⟩) | (go_at_call 58; refine (spec_Minus _ _ _).mono ?_; rintro e w' ⟨rfl, rfl⟩) | (go_at_call 59; refine (spec_Plus _ _ _).mono ?_; rintro e w' ⟨rfl, rfl⟩))
        go_ret
        exact ⟨_, _, _, rfl, by rw [HN.out]; exact NewInts.none _⟩
end Go.Proofs.Ytekojohhjnklkaa
