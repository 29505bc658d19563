/- Merged texts: Nodes, NodesOf, FmtS, Ob. -/
import Derived.Test.YthebegfceaehfaaDoorKt2
import Derived.Test.YthebegfceaehfaaDoorKt3
import Derived.Test.YthebegfceaehfaaDoorShelf
import Derived.Lib.Join
/- Nodes: The nodes of Gauss, Radau and Lobatto. -/
namespace Go.Proofs.YthebegfceaehfaaDoor
open Go.RowKit
attribute [local irreducible] M.powr

theorem below_new (w : World) (o : Obj) : Below w.heap.size w (w.alloc o) := (Below.refl _ _).alloc (Nat.le_refl _) o
/-- A literal slice. -/
theorem Fr.lit (w : World) (xs : List Int) (cs : Array Value) (n : Nat) (hcs : cs = (xs.map (Value.int .i64)).toArray) (hn : xs.length = n) (hm : n ≤ 1048576) (hw : ∀ x ∈ xs, I64 x) :
    Fr (w.alloc (.cells cs 3)) w.heap.size (some ⟨w.heap.size, 0, none⟩) n n xs := by
  subst hcs
  have hg := heap_alloc_new w (.cells (xs.map (Value.int .i64)).toArray 3)
  refine ⟨⟨hn, Nat.le_refl _, by omega, fun i hi => ⟨_, 0, rfl, ?_⟩, hw⟩, fun b o s e _ => ?_⟩
  · rw [Nat.zero_add, cell_of_row _ _ i _ _ _ hg]
    simp [List.getD, show i < xs.length by omega]
  · simp only [Option.some.injEq, Addr.mk.injEq] at e
    obtain ⟨rfl, rfl, rfl⟩ := e
    exact ⟨Nat.le_refl _, fun i _ => frozen_of_row _ _ _ _ _ hg⟩
theorem Fr.none (w : World) (lo : Nat) : Fr w lo none 0 0 [] := ⟨Rd.nil _ _ _ (by omega), fun b o s e => by cases e⟩
/-- What a function leaves that hands back a new slice of ints. -/
def NewInts (w w' : World) (xs : List Int) (ao : Option Addr) (n c : Nat) : Prop := Fr w' w.heap.size ao n c xs ∧ Below w.heap.size w w'
theorem NewInts.lit (w : World) (xs : List Int) (cs : Array Value) (n : Nat) (hcs : cs = (xs.map (Value.int .i64)).toArray) (hn : xs.length = n) (hm : n ≤ 1048576) (hw : ∀ x ∈ xs, I64 x) :
    NewInts w (w.alloc (.cells cs 3)) xs (some ⟨w.heap.size, 0, none⟩) n n := ⟨Fr.lit w xs cs n hcs hn hm hw, below_new _ _⟩
theorem NewInts.none (w : World) : NewInts w w [] none 0 0 := ⟨Fr.none _ _, Below.refl _ _⟩

namespace M
def half : Int := frac 1 2
def gauss (s : Int) : List Int :=
  if s = 1 then [half] else if s = 2 then [minus half (frac (sqVal 3) 6), plus half (frac (sqVal 3) 6)]
  else if s = 3 then [minus half (frac (sqVal 15) 10), half, plus half (frac (sqVal 15) 10)] else []
def radau (s : Int) : List Int :=
  if s = 1 then [1] else if s = 2 then [frac 1 3, 1] else if s = 3 then [frac (minus 4 (sqVal 6)) 10, frac (plus 4 (sqVal 6)) 10, 1] else []
def lobatto (s : Int) : List Int :=
  if s = 2 then [0, 1] else if s = 3 then [0, half, 1] else if s = 4 then [0, minus half (frac (sqVal 5) 10), plus half (frac (sqVal 5) 10), 1] else []
theorem frac_mod (a b : Int) : frac (a % P) b = frac a b := by unfold frac times; rw [mul_l]
theorem num0 : num 0 := ⟨by decide, by decide⟩
theorem num1 : num 1 := ⟨by decide, by decide⟩
theorem gauss_num (s : Int) : ∀ x ∈ gauss s, num x := by
  unfold gauss half
  intro x hx
  (repeat' split at hx) <;> simp only [List.mem_cons, List.not_mem_nil, or_false] at hx
  · exact hx ▸ num_frac _ _
  · rcases hx with rfl | rfl
    · exact num_minus _ _
    · exact num_plus _ _
  · rcases hx with rfl | rfl | rfl
    · exact num_minus _ _
    · exact num_frac _ _
    · exact num_plus _ _
theorem radau_num (s : Int) : ∀ x ∈ radau s, num x := by
  unfold radau
  intro x hx
  (repeat' split at hx) <;> simp only [List.mem_cons, List.not_mem_nil, or_false] at hx
  · exact hx ▸ num1
  · rcases hx with rfl | rfl
    · exact num_frac _ _
    · exact num1
  · rcases hx with rfl | rfl | rfl
    · exact num_frac _ _
    · exact num_frac _ _
    · exact num1
theorem lobatto_num (s : Int) : ∀ x ∈ lobatto s, num x := by
  unfold lobatto half
  intro x hx
  (repeat' split at hx) <;> simp only [List.mem_cons, List.not_mem_nil, or_false] at hx
  · rcases hx with rfl | rfl
    · exact num0
    · exact num1
  · rcases hx with rfl | rfl | rfl
    · exact num0
    · exact num_frac _ _
    · exact num1
  · rcases hx with rfl | rfl | rfl | rfl
    · exact num0
    · exact num_minus _ _
    · exact num_plus _ _
    · exact num1
end M

theorem impl_GaussNodes (s : Int) (w : World) :
    Calls Tryd.prog 29 #[.int .i64 s] w fun e w' => ∃ ao n c, e = .returned (.slice ao n c) ∧ NewInts w w' (M.gauss s) ao n c := by
  have hw := fun x hx => I64.num (M.gauss_num s x hx)
  have HW := hid hw
  clear hw
  by_cases h1 : s = 1
  · subst h1
    go_enter Tryd.func29, Tryd.ntmps29
    go_wp2_with (first | (go_at_call 51; refine (impl_Fraction _ _ _).mono ?_; rintro e w' ⟨rfl, rfl⟩) | (go_at_call 54; refine (impl_root _ _).mono ?_; rintro e w' ⟨rfl, rfl⟩) | (go_at_call 55; refine (impl_Minus _ _ _).mono ?_; rintro e w' ⟨rfl, rfl⟩) | (go_at_call 56; refine (impl_Plus _ _ _).mono ?_; rintro e w' ⟨rfl, rfl⟩))
    go_ret
    exact ⟨_, _, _, rfl, NewInts.lit _ (M.gauss 1) _ _ rfl rfl (by omega) HW.out⟩
  · skip
    by_cases h2 : s = 2
    · subst h2
      go_enter Tryd.func29, Tryd.ntmps29
      go_wp2_with (first | (go_at_call 51; refine (impl_Fraction _ _ _).mono ?_; rintro e w' ⟨rfl, rfl⟩) | (go_at_call 54; refine (impl_root _ _).mono ?_; rintro e w' ⟨rfl, rfl⟩) | (go_at_call 55; refine (impl_Minus _ _ _).mono ?_; rintro e w' ⟨rfl, rfl⟩) | (go_at_call 56; refine (impl_Plus _ _ _).mono ?_; rintro e w' ⟨rfl, rfl⟩))
      go_ret
      exact ⟨_, _, _, rfl, NewInts.lit _ (M.gauss 2) _ _ rfl rfl (by omega) HW.out⟩
    · skip
      by_cases h3 : s = 3
      · subst h3
        go_enter Tryd.func29, Tryd.ntmps29
        go_wp2_with (first | (go_at_call 51; refine (impl_Fraction _ _ _).mono ?_; rintro e w' ⟨rfl, rfl⟩) | (go_at_call 54; refine (impl_root _ _).mono ?_; rintro e w' ⟨rfl, rfl⟩) | (go_at_call 55; refine (impl_Minus _ _ _).mono ?_; rintro e w' ⟨rfl, rfl⟩) | (go_at_call 56; refine (impl_Plus _ _ _).mono ?_; rintro e w' ⟨rfl, rfl⟩))
        go_ret
        exact ⟨_, _, _, rfl, NewInts.lit _ (M.gauss 3) _ _ rfl rfl (by omega) HW.out⟩
      · skip
        have HN := hid (show M.gauss s = [] by simp [M.gauss, h1, h2, h3])
        have e1 : (s == 1) = false := beq_eq_false_iff_ne.2 h1
        have e2 : (s == 2) = false := beq_eq_false_iff_ne.2 h2
        have e3 : (s == 3) = false := beq_eq_false_iff_ne.2 h3
        clear h1 h2 h3
        go_enter Tryd.func29, Tryd.ntmps29
        go_wp2_with (first | (go_at_call 51; refine (impl_Fraction _ _ _).mono ?_; rintro e w' ⟨rfl, rfl⟩) | (go_at_call 54; refine (impl_root _ _).mono ?_; rintro e w' ⟨rfl, rfl⟩) | (go_at_call 55; refine (impl_Minus _ _ _).mono ?_; rintro e w' ⟨rfl, rfl⟩) | (go_at_call 56; refine (impl_Plus _ _ _).mono ?_; rintro e w' ⟨rfl, rfl⟩))
        go_ret
        exact ⟨_, _, _, rfl, by rw [HN.out]; exact NewInts.none _⟩
theorem spec_GaussNodes (s : Int) (w : World) :
    Calls Tryd.prog 24 #[.int .i64 s] w fun e w' => ∃ ao n c, e = .returned (.slice ao n c) ∧ NewInts w w' (M.gauss s) ao n c := by
  have hw := fun x hx => I64.num (M.gauss_num s x hx)
  have HW := hid hw
  clear hw
  by_cases h1 : s = 1
  · subst h1
    go_enter Tryd.func24, Tryd.ntmps24
    go_wp2_with (first | (go_at_call 41; refine (spec_Fraction _ _ _).mono ?_; rintro e w' ⟨rfl, rfl⟩) | (go_at_call 42; refine (spec_root _ _).mono ?_; rintro e w' ⟨rfl, rfl⟩) | (go_at_call 43; refine (spec_Minus _ _ _).mono ?_; rintro e w' ⟨rfl, rfl⟩) | (go_at_call 44; refine (spec_Plus _ _ _).mono ?_; rintro e w' ⟨rfl, rfl⟩))
    go_ret
    exact ⟨_, _, _, rfl, NewInts.lit _ (M.gauss 1) _ _ rfl rfl (by omega) HW.out⟩
  · skip
    by_cases h2 : s = 2
    · subst h2
      go_enter Tryd.func24, Tryd.ntmps24
      go_wp2_with (first | (go_at_call 41; refine (spec_Fraction _ _ _).mono ?_; rintro e w' ⟨rfl, rfl⟩) | (go_at_call 42; refine (spec_root _ _).mono ?_; rintro e w' ⟨rfl, rfl⟩) | (go_at_call 43; refine (spec_Minus _ _ _).mono ?_; rintro e w' ⟨rfl, rfl⟩) | (go_at_call 44; refine (spec_Plus _ _ _).mono ?_; rintro e w' ⟨rfl, rfl⟩))
      go_ret
      exact ⟨_, _, _, rfl, NewInts.lit _ (M.gauss 2) _ _ rfl rfl (by omega) HW.out⟩
    · skip
      by_cases h3 : s = 3
      · subst h3
        go_enter Tryd.func24, Tryd.ntmps24
        go_wp2_with (first | (go_at_call 41; refine (spec_Fraction _ _ _).mono ?_; rintro e w' ⟨rfl, rfl⟩) | (go_at_call 42; refine (spec_root _ _).mono ?_; rintro e w' ⟨rfl, rfl⟩) | (go_at_call 43; refine (spec_Minus _ _ _).mono ?_; rintro e w' ⟨rfl, rfl⟩) | (go_at_call 44; refine (spec_Plus _ _ _).mono ?_; rintro e w' ⟨rfl, rfl⟩))
        go_ret
        exact ⟨_, _, _, rfl, NewInts.lit _ (M.gauss 3) _ _ rfl rfl (by omega) HW.out⟩
      · skip
        have HN := hid (show M.gauss s = [] by simp [M.gauss, h1, h2, h3])
        have e1 : (s == 1) = false := beq_eq_false_iff_ne.2 h1
        have e2 : (s == 2) = false := beq_eq_false_iff_ne.2 h2
        have e3 : (s == 3) = false := beq_eq_false_iff_ne.2 h3
        clear h1 h2 h3
        go_enter Tryd.func24, Tryd.ntmps24
        go_wp2_with (first | (go_at_call 41; refine (spec_Fraction _ _ _).mono ?_; rintro e w' ⟨rfl, rfl⟩) | (go_at_call 42; refine (spec_root _ _).mono ?_; rintro e w' ⟨rfl, rfl⟩) | (go_at_call 43; refine (spec_Minus _ _ _).mono ?_; rintro e w' ⟨rfl, rfl⟩) | (go_at_call 44; refine (spec_Plus _ _ _).mono ?_; rintro e w' ⟨rfl, rfl⟩))
        go_ret
        exact ⟨_, _, _, rfl, by rw [HN.out]; exact NewInts.none _⟩
theorem impl_RadauNodes (s : Int) (w : World) :
    Calls Tryd.prog 30 #[.int .i64 s] w fun e w' => ∃ ao n c, e = .returned (.slice ao n c) ∧ NewInts w w' (M.radau s) ao n c := by
  have hw := fun x hx => I64.num (M.radau_num s x hx)
  have HW := hid hw
  clear hw
  by_cases h1 : s = 1
  · subst h1
    go_enter Tryd.func30, Tryd.ntmps30
    go_wp2_with (first | (go_at_call 51; refine (impl_Fraction _ _ _).mono ?_; rintro e w' ⟨rfl, rfl⟩) | (go_at_call 54; refine (impl_root _ _).mono ?_; rintro e w' ⟨rfl, rfl⟩) | (go_at_call 55; refine (impl_Minus _ _ _).mono ?_; rintro e w' ⟨rfl, rfl⟩) | (go_at_call 56; refine (impl_Plus _ _ _).mono ?_; rintro e w' ⟨rfl, rfl⟩))
    go_ret
    exact ⟨_, _, _, rfl, NewInts.lit _ (M.radau 1) _ _ rfl rfl (by omega) HW.out⟩
  · skip
    by_cases h2 : s = 2
    · subst h2
      go_enter Tryd.func30, Tryd.ntmps30
      go_wp2_with (first | (go_at_call 51; refine (impl_Fraction _ _ _).mono ?_; rintro e w' ⟨rfl, rfl⟩) | (go_at_call 54; refine (impl_root _ _).mono ?_; rintro e w' ⟨rfl, rfl⟩) | (go_at_call 55; refine (impl_Minus _ _ _).mono ?_; rintro e w' ⟨rfl, rfl⟩) | (go_at_call 56; refine (impl_Plus _ _ _).mono ?_; rintro e w' ⟨rfl, rfl⟩))
      go_ret
      exact ⟨_, _, _, rfl, NewInts.lit _ (M.radau 2) _ _ rfl rfl (by omega) HW.out⟩
    · skip
      by_cases h3 : s = 3
      · subst h3
        go_enter Tryd.func30, Tryd.ntmps30
        go_wp2_with (first | (go_at_call 51; refine (impl_Fraction _ _ _).mono ?_; rintro e w' ⟨rfl, rfl⟩) | (go_at_call 54; refine (impl_root _ _).mono ?_; rintro e w' ⟨rfl, rfl⟩) | (go_at_call 55; refine (impl_Minus _ _ _).mono ?_; rintro e w' ⟨rfl, rfl⟩) | (go_at_call 56; refine (impl_Plus _ _ _).mono ?_; rintro e w' ⟨rfl, rfl⟩))
        go_ret
        exact ⟨_, _, _, rfl, NewInts.lit _ (M.radau 3) _ _ rfl rfl (by omega) HW.out⟩
      · skip
        have HN := hid (show M.radau s = [] by simp [M.radau, h1, h2, h3])
        have e1 : (s == 1) = false := beq_eq_false_iff_ne.2 h1
        have e2 : (s == 2) = false := beq_eq_false_iff_ne.2 h2
        have e3 : (s == 3) = false := beq_eq_false_iff_ne.2 h3
        clear h1 h2 h3
        go_enter Tryd.func30, Tryd.ntmps30
        go_wp2_with (first | (go_at_call 51; refine (impl_Fraction _ _ _).mono ?_; rintro e w' ⟨rfl, rfl⟩) | (go_at_call 54; refine (impl_root _ _).mono ?_; rintro e w' ⟨rfl, rfl⟩) | (go_at_call 55; refine (impl_Minus _ _ _).mono ?_; rintro e w' ⟨rfl, rfl⟩) | (go_at_call 56; refine (impl_Plus _ _ _).mono ?_; rintro e w' ⟨rfl, rfl⟩))
        go_ret
        exact ⟨_, _, _, rfl, by rw [HN.out]; exact NewInts.none _⟩
theorem spec_RadauNodes (s : Int) (w : World) :
    Calls Tryd.prog 25 #[.int .i64 s] w fun e w' => ∃ ao n c, e = .returned (.slice ao n c) ∧ NewInts w w' (M.radau s) ao n c := by
  have hw := fun x hx => I64.num (M.radau_num s x hx)
  have HW := hid hw
  clear hw
  have hb : 0 ≤ M.sqVal 6 ∧ M.sqVal 6 < 1000000271 := M.num_sqVal 6
  by_cases h1 : s = 1
  · subst h1
    go_enter Tryd.func25, Tryd.ntmps25
    go_wp2_with (first | (go_at_call 41; refine (spec_Fraction _ _ _).mono ?_; rintro e w' ⟨rfl, rfl⟩) | (go_at_call 42; refine (spec_root _ _).mono ?_; rintro e w' ⟨rfl, rfl⟩) | (go_at_call 43; refine (spec_Minus _ _ _).mono ?_; rintro e w' ⟨rfl, rfl⟩) | (go_at_call 44; refine (spec_Plus _ _ _).mono ?_; rintro e w' ⟨rfl, rfl⟩))
    go_ret
    exact ⟨_, _, _, rfl, NewInts.lit _ (M.radau 1) _ _ rfl rfl (by omega) HW.out⟩
  · skip
    by_cases h2 : s = 2
    · subst h2
      go_enter Tryd.func25, Tryd.ntmps25
      go_wp2_with (first | (go_at_call 41; refine (spec_Fraction _ _ _).mono ?_; rintro e w' ⟨rfl, rfl⟩) | (go_at_call 42; refine (spec_root _ _).mono ?_; rintro e w' ⟨rfl, rfl⟩) | (go_at_call 43; refine (spec_Minus _ _ _).mono ?_; rintro e w' ⟨rfl, rfl⟩) | (go_at_call 44; refine (spec_Plus _ _ _).mono ?_; rintro e w' ⟨rfl, rfl⟩))
      go_ret
      exact ⟨_, _, _, rfl, NewInts.lit _ (M.radau 2) _ _ rfl rfl (by omega) HW.out⟩
    · skip
      by_cases h3 : s = 3
      · subst h3
        go_enter Tryd.func25, Tryd.ntmps25
        go_wp2_with (first | (go_at_call 41; refine (spec_Fraction _ _ _).mono ?_; rintro e w' ⟨rfl, rfl⟩) | (go_at_call 42; refine (spec_root _ _).mono ?_; rintro e w' ⟨rfl, rfl⟩) | (go_at_call 43; refine (spec_Minus _ _ _).mono ?_; rintro e w' ⟨rfl, rfl⟩) | (go_at_call 44; refine (spec_Plus _ _ _).mono ?_; rintro e w' ⟨rfl, rfl⟩))
        go_ret
        exact ⟨_, _, _, rfl, NewInts.lit _ (M.radau 3) _ _ (by rw [show M.radau 3 = [M.frac (M.minus 4 (M.sqVal 6)) 10, M.frac (M.plus 4 (M.sqVal 6)) 10, 1] from rfl, show M.minus 4 (M.sqVal 6) = (4 - M.sqVal 6) % M.P from rfl, show M.plus 4 (M.sqVal 6) = (4 + M.sqVal 6) % M.P from rfl, M.frac_mod, M.frac_mod]; rfl) rfl (by omega) HW.out⟩
      · skip
        have HN := hid (show M.radau s = [] by simp [M.radau, h1, h2, h3])
        have e1 : (s == 1) = false := beq_eq_false_iff_ne.2 h1
        have e2 : (s == 2) = false := beq_eq_false_iff_ne.2 h2
        have e3 : (s == 3) = false := beq_eq_false_iff_ne.2 h3
        clear h1 h2 h3
        go_enter Tryd.func25, Tryd.ntmps25
        go_wp2_with (first | (go_at_call 41; refine (spec_Fraction _ _ _).mono ?_; rintro e w' ⟨rfl, rfl⟩) | (go_at_call 42; refine (spec_root _ _).mono ?_; rintro e w' ⟨rfl, rfl⟩) | (go_at_call 43; refine (spec_Minus _ _ _).mono ?_; rintro e w' ⟨rfl, rfl⟩) | (go_at_call 44; refine (spec_Plus _ _ _).mono ?_; rintro e w' ⟨rfl, rfl⟩))
        go_ret
        exact ⟨_, _, _, rfl, by rw [HN.out]; exact NewInts.none _⟩
theorem impl_LobattoNodes (s : Int) (w : World) :
    Calls Tryd.prog 31 #[.int .i64 s] w fun e w' => ∃ ao n c, e = .returned (.slice ao n c) ∧ NewInts w w' (M.lobatto s) ao n c := by
  have hw := fun x hx => I64.num (M.lobatto_num s x hx)
  have HW := hid hw
  clear hw
  by_cases h2 : s = 2
  · subst h2
    go_enter Tryd.func31, Tryd.ntmps31
    go_wp2_with (first | (go_at_call 51; refine (impl_Fraction _ _ _).mono ?_; rintro e w' ⟨rfl, rfl⟩) | (go_at_call 54; refine (impl_root _ _).mono ?_; rintro e w' ⟨rfl, rfl⟩) | (go_at_call 55; refine (impl_Minus _ _ _).mono ?_; rintro e w' ⟨rfl, rfl⟩) | (go_at_call 56; refine (impl_Plus _ _ _).mono ?_; rintro e w' ⟨rfl, rfl⟩))
    go_ret
    exact ⟨_, _, _, rfl, NewInts.lit _ (M.lobatto 2) _ _ rfl rfl (by omega) HW.out⟩
  · skip
    by_cases h3 : s = 3
    · subst h3
      go_enter Tryd.func31, Tryd.ntmps31
      go_wp2_with (first | (go_at_call 51; refine (impl_Fraction _ _ _).mono ?_; rintro e w' ⟨rfl, rfl⟩) | (go_at_call 54; refine (impl_root _ _).mono ?_; rintro e w' ⟨rfl, rfl⟩) | (go_at_call 55; refine (impl_Minus _ _ _).mono ?_; rintro e w' ⟨rfl, rfl⟩) | (go_at_call 56; refine (impl_Plus _ _ _).mono ?_; rintro e w' ⟨rfl, rfl⟩))
      go_ret
      exact ⟨_, _, _, rfl, NewInts.lit _ (M.lobatto 3) _ _ rfl rfl (by omega) HW.out⟩
    · skip
      by_cases h4 : s = 4
      · subst h4
        go_enter Tryd.func31, Tryd.ntmps31
        go_wp2_with (first | (go_at_call 51; refine (impl_Fraction _ _ _).mono ?_; rintro e w' ⟨rfl, rfl⟩) | (go_at_call 54; refine (impl_root _ _).mono ?_; rintro e w' ⟨rfl, rfl⟩) | (go_at_call 55; refine (impl_Minus _ _ _).mono ?_; rintro e w' ⟨rfl, rfl⟩) | (go_at_call 56; refine (impl_Plus _ _ _).mono ?_; rintro e w' ⟨rfl, rfl⟩))
        go_ret
        exact ⟨_, _, _, rfl, NewInts.lit _ (M.lobatto 4) _ _ rfl rfl (by omega) HW.out⟩
      · skip
        have HN := hid (show M.lobatto s = [] by simp [M.lobatto, h2, h3, h4])
        have e2 : (s == 2) = false := beq_eq_false_iff_ne.2 h2
        have e3 : (s == 3) = false := beq_eq_false_iff_ne.2 h3
        have e4 : (s == 4) = false := beq_eq_false_iff_ne.2 h4
        clear h2 h3 h4
        go_enter Tryd.func31, Tryd.ntmps31
        go_wp2_with (first | (go_at_call 51; refine (impl_Fraction _ _ _).mono ?_; rintro e w' ⟨rfl, rfl⟩) | (go_at_call 54; refine (impl_root _ _).mono ?_; rintro e w' ⟨rfl, rfl⟩) | (go_at_call 55; refine (impl_Minus _ _ _).mono ?_; rintro e w' ⟨rfl, rfl⟩) | (go_at_call 56; refine (impl_Plus _ _ _).mono ?_; rintro e w' ⟨rfl, rfl⟩))
        go_ret
        exact ⟨_, _, _, rfl, by rw [HN.out]; exact NewInts.none _⟩
theorem spec_LobattoNodes (s : Int) (w : World) :
    Calls Tryd.prog 26 #[.int .i64 s] w fun e w' => ∃ ao n c, e = .returned (.slice ao n c) ∧ NewInts w w' (M.lobatto s) ao n c := by
  have hw := fun x hx => I64.num (M.lobatto_num s x hx)
  have HW := hid hw
  clear hw
  by_cases h2 : s = 2
  · subst h2
    go_enter Tryd.func26, Tryd.ntmps26
    go_wp2_with (first | (go_at_call 41; refine (spec_Fraction _ _ _).mono ?_; rintro e w' ⟨rfl, rfl⟩) | (go_at_call 42; refine (spec_root _ _).mono ?_; rintro e w' ⟨rfl, rfl⟩) | (go_at_call 43; refine (spec_Minus _ _ _).mono ?_; rintro e w' ⟨rfl, rfl⟩) | (go_at_call 44; refine (spec_Plus _ _ _).mono ?_; rintro e w' ⟨rfl, rfl⟩))
    go_ret
    exact ⟨_, _, _, rfl, NewInts.lit _ (M.lobatto 2) _ _ rfl rfl (by omega) HW.out⟩
  · skip
    by_cases h3 : s = 3
    · subst h3
      go_enter Tryd.func26, Tryd.ntmps26
      go_wp2_with (first | (go_at_call 41; refine (spec_Fraction _ _ _).mono ?_; rintro e w' ⟨rfl, rfl⟩) | (go_at_call 42; refine (spec_root _ _).mono ?_; rintro e w' ⟨rfl, rfl⟩) | (go_at_call 43; refine (spec_Minus _ _ _).mono ?_; rintro e w' ⟨rfl, rfl⟩) | (go_at_call 44; refine (spec_Plus _ _ _).mono ?_; rintro e w' ⟨rfl, rfl⟩))
      go_ret
      exact ⟨_, _, _, rfl, NewInts.lit _ (M.lobatto 3) _ _ rfl rfl (by omega) HW.out⟩
    · skip
      by_cases h4 : s = 4
      · subst h4
        go_enter Tryd.func26, Tryd.ntmps26
        go_wp2_with (first | (go_at_call 41; refine (spec_Fraction _ _ _).mono ?_; rintro e w' ⟨rfl, rfl⟩) | (go_at_call 42; refine (spec_root _ _).mono ?_; rintro e w' ⟨rfl, rfl⟩) | (go_at_call 43; refine (spec_Minus _ _ _).mono ?_; rintro e w' ⟨rfl, rfl⟩) | (go_at_call 44; refine (spec_Plus _ _ _).mono ?_; rintro e w' ⟨rfl, rfl⟩))
        go_ret
        exact ⟨_, _, _, rfl, NewInts.lit _ (M.lobatto 4) _ _ rfl rfl (by omega) HW.out⟩
      · skip
        have HN := hid (show M.lobatto s = [] by simp [M.lobatto, h2, h3, h4])
        have e2 : (s == 2) = false := beq_eq_false_iff_ne.2 h2
        have e3 : (s == 3) = false := beq_eq_false_iff_ne.2 h3
        have e4 : (s == 4) = false := beq_eq_false_iff_ne.2 h4
        clear h2 h3 h4
        go_enter Tryd.func26, Tryd.ntmps26
        go_wp2_with (first | (go_at_call 41; refine (spec_Fraction _ _ _).mono ?_; rintro e w' ⟨rfl, rfl⟩) | (go_at_call 42; refine (spec_root _ _).mono ?_; rintro e w' ⟨rfl, rfl⟩) | (go_at_call 43; refine (spec_Minus _ _ _).mono ?_; rintro e w' ⟨rfl, rfl⟩) | (go_at_call 44; refine (spec_Plus _ _ _).mono ?_; rintro e w' ⟨rfl, rfl⟩))
        go_ret
        exact ⟨_, _, _, rfl, by rw [HN.out]; exact NewInts.none _⟩
end Go.Proofs.YthebegfceaehfaaDoor

/- NodesOf: NodesOf; appends to a slice of ints of the call's own. -/
namespace Go.Proofs.YthebegfceaehfaaDoor
open Go.RowKit

/-- A slice of ints of the call's own, to which it appends. -/
def Ow (w : World) (base : Nat) (v : Value) (n : Nat) (xs : List Int) : Prop := w.ownsRow base 3 1 v n (xs.map (Value.int .i64)) ∧ ∀ x ∈ xs, I64 x
theorem Ow.nil (w : World) (base : Nat) : Ow w base (.slice none 0 0) 0 [] := ⟨World.ownsRow_nil _ _ _ _, fun x hx => by cases hx⟩
theorem Ow.empty (w : World) (base : Nat) (hb : base ≤ w.heap.size) : Ow (w.alloc (.cells #[] 3)) base (.slice (some ⟨w.heap.size, 0, none⟩) 0 0) 0 [] :=
  ⟨World.ownsRow_made w #[] 0 hb (by unfold maxLen; omega) (by simp), fun x hx => by cases hx⟩
theorem Ow.alloc {w : World} {base : Nat} {v : Value} {n : Nat} {xs : List Int} (h : Ow w base v n xs) (o : Obj) : Ow (w.alloc o) base v n xs := ⟨h.1.alloc o, h.2⟩
theorem Ow.lt {w : World} {base : Nat} {v : Value} {n : Nat} {xs : List Int} (h : Ow w base v n xs) : ∀ k, v.ownBlock = some k → base ≤ k ∧ k < w.heap.size := h.1.lt
theorem Ow.below {w w' : World} {base : Nat} {v : Value} {n : Nat} {xs : List Int} (h : Ow w base v n xs) (hb : Below w.heap.size w w') : Ow w' base v n xs :=
  ⟨h.1.kept (row := none) ⟨hb.os, hb.tape, hb.output, hb.size, fun k hk _ => hb.block k hk⟩ (by cases v.ownBlock <;> simp), h.2⟩
theorem Ow.grown {w w' : World} {base : Nat} {v : Value} {n : Nat} {xs : List Int} (h : Ow w base v n xs) {r : Option Nat} (hg : w.grownBy w' r) (hne : v.ownBlock = none ∨ v.ownBlock ≠ r) : Ow w' base v n xs := ⟨h.1.kept hg hne, h.2⟩
theorem Ow.drew {w : World} {base : Nat} {v : Value} {n : Nat} {xs : List Int} (h : Ow w base v n xs) : Ow w.drew base v n xs := ⟨h.1.drew, h.2⟩
theorem Ow.fr {w : World} {base : Nat} {v : Value} {n : Nat} {xs : List Int} (h : Ow w base v n xs) : ∃ ao c, v = .slice ao n c ∧ Fr w base ao n c xs := Fr.of_owns h.1 h.2
theorem Ow.len {w : World} {base : Nat} {v : Value} {n : Nat} {xs : List Int} (h : Ow w base v n xs) : xs.length = n := by simpa using h.1.1
theorem cell_one (w : World) (v : Value) (t : TypeId) : (w.alloc (.cells #[v] t)).cell? ⟨w.heap.size, 0, none⟩ = some v := by simp
/-- 'out = append(out, y)'. -/
theorem wpList_append_int (w : World) {ops : Array Oper} {rest : List Oper} {o : Oper} {a : Act} {Q : Exit → Act → World → Prop} (hg : o.guard = none) (s x : Operand)
    (hop : o.op = .call { callee := .builtin .append, args := #[s, x], argTypes := #[22, 22] }) (base : Nat) (v : Value) (n : Nat) (xs : List Int) (hs : a.eval s = v) (hown : Ow w base v n xs)
    (b : Nat) (y : Int) (hx : a.eval x = .slice (some ⟨b, 0, none⟩) 1 1) (hc : w.cell? ⟨b, 0, none⟩ = some (.int .i64 y)) (hy : I64 y) (hn : n ≤ 4194304) (hbase : base ≤ w.heap.size)
    (h : ∀ v' w', Ow w' base v' (n + 1) (xs ++ [y]) → w.grownBy w' v.ownBlock → wpList Tryd.prog ops Q rest (a.put o.dst v') w') : wpList Tryd.prog ops Q (o :: rest) a w := by
  obtain ⟨i, hi, hz0, hz1, hz2⟩ := info_parts info_int
  refine wpList_append_own w hg s x 22 hop base 3 i (.int .i64 0) 1 8 Tryd.underlying22 hi hz0 hz1 hz2 rfl (by decide) v n (xs.map (Value.int .i64)) hs hown.1 ⟨b, 0, none⟩ 1 1 [.int .i64 y] hx rfl
    (fun j u hj => ?_) (fun u hu => ?_) (by unfold maxLen; omega) (by omega) hbase (fun v' w' h1 h2 _ => h v' w' ⟨by rw [List.map_append]; exact h1, fun z hz => ?_⟩ h2)
  · match j, hj with
    | 0, hj => simp only [List.getElem?_cons_zero, Option.some.injEq] at hj; subst hj; simpa [Addr.add] using hc
  · simp only [List.mem_cons, List.not_mem_nil, or_false] at hu; subst hu; rfl
  · rcases List.mem_append.1 hz with h3 | h3
    · exact hown.2 z h3
    · simp only [List.mem_cons, List.not_mem_nil, or_false] at h3; exact h3 ▸ hy

def nodesL (A : List Int) (S k : Nat) : List Int := (List.range k).map fun i => M.sumL (rowL A S i)
theorem nodesL_succ (A : List Int) (S k : Nat) : nodesL A S (k + 1) = nodesL A S k ++ [M.sumL (rowL A S k)] := by simp [nodesL, List.range_succ]
def nodesV (s : Int) (A B : List Int) : List Int := if tabOk s A B then nodesL A s.toNat s.toNat else []
theorem NewInts.of {w w' : World} {v : Value} {base n : Nat} {xs : List Int} (h : Ow w' base v n xs) (hb : w.heap.size ≤ base) (hB : Below w.heap.size w w') : ∃ ao n c, Ending.returned v = .returned (.slice ao n c) ∧ NewInts w w' xs ao n c := by
  obtain ⟨ao, c, rfl, hF⟩ := h.fr
  exact ⟨ao, n, c, rfl, hF.mono hb, hB⟩

theorem NewInts.some {w w' : World} {xs : List Int} {ao : Option Addr} {n c : Nat} (h : NewInts w w' xs ao n c) : xs.length = n := h.1.rd.len
theorem nodesV_len (s : Int) (A B : List Int) : (nodesV s A B).length ≤ 8 := by
  cases hok : tabOk s A B with
  | false => rw [show nodesV s A B = [] by unfold nodesV; rw [hok]; rfl]; exact Nat.zero_le _
  | true =>
    obtain ⟨S, rfl, hS, _⟩ := tabOk_parts hok rfl rfl
    rw [show nodesV S A B = nodesL A S S by unfold nodesV; rw [hok]; rfl]
    simpa [nodesL] using hS
end Go.Proofs.YthebegfceaehfaaDoor

/- FmtS: FormatNumbers: a list of texts, joined. -/
namespace Go.Proofs.YthebegfceaehfaaDoor
open Go.RowKit

def fmtNs (l : List Int) : List UInt8 := if M.allNum l then Lib.join (l.map fmtN) [32] else []
theorem join_snoc (xs : List (List UInt8)) (x : List UInt8) : Lib.join (xs ++ [x]) [32] = if xs = [] then x else Lib.join xs [32] ++ 32 :: x := by
  cases xs with
  | nil => simp [Lib.join_one]
  | cons y ys =>
    rw [List.cons_append, Lib.join_cons, Lib.join_cons, if_neg (by simp)]
    unfold Lib.joinTail
    rw [List.map_append, List.flatten_append]
    simp
theorem join_len (l : List Int) : (Lib.join (l.map fmtN) [32]).length ≤ 13 * l.length := by
  cases l with
  | nil => simp [Lib.join_nil]
  | cons x xs =>
    have h : ∀ r : List Int, (Lib.joinTail [32] (r.map fmtN)).length ≤ 13 * r.length := by
      intro r
      induction r with
      | nil => simp [Lib.joinTail]
      | cons y ys ih =>
        have := fmtN_len y
        unfold Lib.joinTail at ih ⊢
        simp only [List.map_cons, List.flatten_cons, List.length_append, List.length_cons, List.length_nil] at ih ⊢
        omega
    have h1 := h xs
    have h2 := fmtN_len x
    rw [List.map_cons, Lib.join_cons, List.length_append, List.length_cons]
    omega
theorem fmtNs_len (l : List Int) : (fmtNs l).length ≤ 13 * l.length := by
  unfold fmtNs
  split
  · exact join_len l
  · simp
theorem take_map_snoc {xs : List Int} {k : Nat} {x : Int} (h : k < xs.length) (hx : x = xs.getD k 0) : (xs.take (k + 1)).map fmtN = (xs.take k).map fmtN ++ [fmtN x] := by
  rw [take_snoc 0 xs k h, ← hx, List.map_append]; rfl

/-! ### a slice of texts of the call's own -/
def txt (l : List UInt8) : Value := .string (bs l)
def Sw (w : World) (base : Nat) (v : Value) (n : Nat) (xs : List (List UInt8)) : Prop := w.ownsRow base 9 1 v n (xs.map txt)
theorem info_str : (Tryd.prog.info? 9).map (fun i => (i.zero, i.size, i.bytes)) = some (some (.string ⟨#[]⟩), 1, 16) := by kernel_rfl
theorem Sw.empty (w : World) (base : Nat) (hb : base ≤ w.heap.size) : Sw (w.alloc (.cells #[] 9)) base (.slice (some ⟨w.heap.size, 0, none⟩) 0 0) 0 [] :=
  World.ownsRow_made w #[] 0 hb (by unfold maxLen; omega) (by simp)
theorem Sw.len {w : World} {base : Nat} {v : Value} {n : Nat} {xs : List (List UInt8)} (h : Sw w base v n xs) : xs.length = n := by simpa using h.1
theorem Sw.lt {w : World} {base : Nat} {v : Value} {n : Nat} {xs : List (List UInt8)} (h : Sw w base v n xs) : ∀ k, v.ownBlock = some k → base ≤ k ∧ k < w.heap.size := World.ownsRow.lt h
theorem Sw.below {w w' : World} {base : Nat} {v : Value} {n : Nat} {xs : List (List UInt8)} (h : Sw w base v n xs) (hb : Below w.heap.size w w') : Sw w' base v n xs :=
  World.ownsRow.kept (row := none) h ⟨hb.os, hb.tape, hb.output, hb.size, fun k hk _ => hb.block k hk⟩ (by cases v.ownBlock <;> simp)
theorem Sw.alloc {w : World} {base : Nat} {v : Value} {n : Nat} {xs : List (List UInt8)} (h : Sw w base v n xs) (o : Obj) : Sw (w.alloc o) base v n xs := h.below (below_box w o)
theorem Sw.at {w : World} {base : Nat} {v : Value} {n : Nat} {xs : List (List UInt8)} (h : Sw w base v n xs) : ∃ g c, (v = .slice none 0 0 ∧ n = 0) ∨ (v = .slice (some ⟨g, 0, none⟩) n c ∧ n ≤ c ∧ g < w.heap.size ∧ ∀ (j : Nat) x, (xs.map bs)[j]? = some x → w.cell? ⟨g, 0 + j, none⟩ = some (.string x)) := by
  obtain ⟨h1, h2⟩ := h
  rcases h2 with ⟨rfl, rfl⟩ | ⟨g, cap, cur, rfl, hb, hg, hnc, hcm, hcs, htake⟩
  · exact ⟨0, 0, .inl ⟨rfl, rfl⟩⟩
  · refine ⟨g, cap, .inr ⟨rfl, hnc, (Array.getElem?_eq_some_iff.1 hg).1, fun j x hj => ?_⟩⟩
    have hjl : j < xs.length := by
      have := (List.getElem?_eq_some_iff.1 hj).1
      simpa using this
    have hn : xs.length = n := by simpa using h1
    rw [Nat.zero_add, cell_of_row w g j cur _ _ hg, ← Array.getElem?_toList]
    have e : (cur.toList.take (n * 1))[j]? = (xs.map txt)[j]? := by rw [htake]
    rw [List.getElem?_take, if_pos (by omega)] at e
    rw [e, List.getElem?_map]
    rw [List.getElem?_map] at hj
    cases hx : xs[j]? with
    | none => rw [hx] at hj; cases hj
    | some y => rw [hx] at hj; cases hj; rfl
theorem wpList_append_txt (w : World) {ops : Array Oper} {rest : List Oper} {o : Oper} {a : Act} {Q : Exit → Act → World → Prop} (hg : o.guard = none) (s x : Operand)
    (hop : o.op = .call { callee := .builtin .append, args := #[s, x], argTypes := #[30, 30] }) (base : Nat) (v : Value) (n : Nat) (xs : List (List UInt8)) (hs : a.eval s = v) (hown : Sw w base v n xs)
    (b : Nat) (y : List UInt8) (hx : a.eval x = .slice (some ⟨b, 0, none⟩) 1 1) (hc : w.cell? ⟨b, 0, none⟩ = some (.string (bs y))) (hn : n ≤ 4194304) (hbase : base ≤ w.heap.size)
    (h : ∀ v' w', Sw w' base v' (n + 1) (xs ++ [y]) → w.grownBy w' v.ownBlock → wpList Tryd.prog ops Q rest (a.put o.dst v') w') : wpList Tryd.prog ops Q (o :: rest) a w := by
  obtain ⟨i, hi, hz0, hz1, hz2⟩ := info_parts info_str
  refine wpList_append_own w hg s x 30 hop base 9 i (.string ⟨#[]⟩) 1 16 Tryd.underlying30 hi hz0 hz1 hz2 rfl (by decide) v n (xs.map txt) hs hown ⟨b, 0, none⟩ 1 1 [.string (bs y)] hx rfl
    (fun j u hj => ?_) (fun u hu => ?_) (by unfold maxLen; omega) (by omega) hbase (fun v' w' h1 h2 _ => h v' w' (by unfold Sw; rw [List.map_append]; exact h1) h2)
  · match j, hj with
    | 0, hj => simp only [List.getElem?_cons_zero, Option.some.injEq] at hj; subst hj; simpa [Addr.add] using hc
  · simp only [List.mem_cons, List.not_mem_nil, or_false] at hu; subst hu; rfl

set_option maxRecDepth 20000 in
theorem spec_FormatNumbers (ao : Option Addr) (n c : Nat) (xs : List Int) (w : World) (hr : Rd w ao n c xs) (hn : n ≤ 1000) :
    Calls Tryd.prog 34 #[.slice ao n c] w fun e w' => e = .returned (.string (bs (fmtNs xs))) ∧ Below w.heap.size w w' := by
  have HR := hid hr
  clear hr
  go_enter Tryd.func34, Tryd.ntmps34
  go_wp2_with fail
  go_loopw [3, 4] (fun s i wr => ∃ (k : Nat), i = .int .i64 k ∧ k ≤ n ∧ s = .string (bs (Lib.join ((xs.take k).map fmtN) [32])) ∧ Hid (M.allNum (xs.take k) = true) ∧ Hid (Below w.heap.size w wr)) (fun _ i _ => n - (intOf i).toNat)
  case atStart => exact ⟨0, rfl, Nat.zero_le _, rfl, hid rfl, hid (Below.refl _ _)⟩
  case round =>
    obtain ⟨k, rfl, hk, rfl, hA, hB⟩ := hrel
    by_cases hlt : k < n
    · obtain ⟨b, o, x, rfl, hc, _, _, hx⟩ := (HR.out.below hB.out).at hlt
      have hki : (k : Int) < (n : Int) := by omega
      have HL := hid (show k < xs.length by rw [HR.out.len]; exact hlt)
      obtain ⟨q, hq⟩ : ∃ q, bs (Lib.join ((xs.take k).map fmtN) [32]) = q := ⟨_, rfl⟩
      have lq : q.size ≤ 13000 := by
        rw [← hq, bs_size]
        have := join_len (xs.take k)
        rw [List.length_take] at this
        omega
      rw [hq]
      have HQ := hid hq
      clear hq
      cases hnum : M.isNum x with
      | false =>
        have HN := hid hnum
        clear hnum
        go_wp2_with fail
        refine (spec_IsNumber _ _).mono ?_
        rw [HN.out]
        rintro e w' ⟨rfl, rfl⟩
        go_wp2_with fail
        go_ret
        exact ⟨ret_s (by unfold fmtNs; rw [allNum_stop HL.out hx.out HN.out]; rfl), hB.out⟩
      | true =>
        have HN := hid hnum
        clear hnum
        obtain ⟨tx, htx⟩ : ∃ tx, bs (fmtN x) = tx := ⟨_, rfl⟩
        have ltx : tx.size ≤ 12 := by rw [← htx, bs_size]; exact fmtN_len x
        have HTX := hid htx
        clear htx
        by_cases h0 : k = 0
        · subst h0
          simp only [Nat.add_zero] at hc
          go_wp2_with fail
          refine (spec_IsNumber _ _).mono ?_
          rw [HN.out]
          rintro e w' ⟨rfl, rfl⟩
          go_wp2_with fail
          refine (spec_FormatNumber x _).mono ?_
          rw [HTX.out]
          rintro e w4 ⟨rfl, hb⟩
          have HB2 := hid (hB.out.trans (hb.mono hB.out.size))
          have a1 := sadd w4 q tx (by omega) (by omega)
          clear hb
          go_wp2_with fail
          go_roundw
          case rel =>
            refine ⟨0 + 1, by go_num, by omega, ?_, hid (allNum_step HL.out hA.out hx.out HN.out), HB2⟩
            rw [take_map_snoc HL.out hx.out, join_snoc, if_pos (by simp), ← HQ.out, ← HTX.out, bs_append]
            rfl
          case measure => simp [intOf]; omega
        · have hk0 : (0 : Int) < (k : Int) := by omega
          have s1 : (q ++ ⟨#[32]⟩).size ≤ 14000 := by rw [ByteArray.size_append]; show _ + 1 ≤ _; omega
          have a0 := sadd wr q ⟨#[32]⟩ (by omega) (by decide)
          go_wp2_with fail
          refine (spec_IsNumber _ _).mono ?_
          rw [HN.out]
          rintro e w' ⟨rfl, rfl⟩
          go_wp2_with fail
          refine (spec_FormatNumber x _).mono ?_
          rw [HTX.out]
          rintro e w4 ⟨rfl, hb⟩
          have HB2 := hid (hB.out.trans (hb.mono hB.out.size))
          have a1 := sadd w4 (q ++ ⟨#[32]⟩) tx (by omega) (by omega)
          clear hb
          go_wp2_with fail
          go_roundw
          case rel =>
            refine ⟨k + 1, by go_num, by omega, ?_, hid (allNum_step HL.out hA.out hx.out HN.out), HB2⟩
            have hne : ¬ (xs.take k).map fmtN = [] := by
              intro e
              have h1 := congrArg List.length e
              rw [List.length_map, List.length_take, List.length_nil] at h1
              have h2 := HL.out
              omega
            rw [take_map_snoc HL.out hx.out, join_snoc, if_neg hne, ← HQ.out, ← HTX.out, bs1, bs_append, bs_append]
            simp
          case measure => simp [intOf]; omega
    · obtain rfl : k = n := by omega
      have HT := hid (show xs.take k = xs by rw [← HR.out.len, List.take_length])
      go_wp2_with fail
      go_ret
      exact ⟨ret_s (by unfold fmtNs; rw [← HT.out, hA.out]; simp [HT.out]), hB.out⟩
end Go.Proofs.YthebegfceaehfaaDoor

/- Ob: What a law keeps of its objects between its calls. -/
namespace Go.Proofs.YthebegfceaehfaaDoor
open Go.RowKit

/-- An object of the law's own: a slice, its block between lo and hi. -/
structure Ob (w : World) (lo hi : Nat) (ao : Option Addr) (n c : Nat) (xs : List Int) : Prop where
  fr : Fr w lo ao n c xs
  hi : ∀ k, blkN ao n = some k → k < hi
theorem Ob.mk' {w : World} {lo : Nat} {ao : Option Addr} {n c : Nat} {xs : List Int} (h : Fr w lo ao n c xs) : Ob w lo w.heap.size ao n c xs := ⟨h, fun k hk => (h.blkN_bd k hk).2⟩
theorem Ob.bd {w : World} {lo hi : Nat} {ao : Option Addr} {n c : Nat} {xs : List Int} (h : Ob w lo hi ao n c xs) : ∀ k, blkN ao n = some k → lo ≤ k ∧ k < hi := fun k hk => ⟨(h.fr.blkN_bd k hk).1, h.hi k hk⟩
theorem Ob.below {w w' : World} {lo hi : Nat} {ao : Option Addr} {n c : Nat} {xs : List Int} (h : Ob w lo hi ao n c xs) (hb : Below w.heap.size w w') : Ob w' lo hi ao n c xs := ⟨h.fr.below hb, h.hi⟩
theorem Ob.alloc {w : World} {lo hi : Nat} {ao : Option Addr} {n c : Nat} {xs : List Int} (h : Ob w lo hi ao n c xs) (o : Obj) : Ob (w.alloc o) lo hi ao n c xs := ⟨h.fr.alloc o, h.hi⟩
theorem Ob.drew {w : World} {lo hi : Nat} {ao : Option Addr} {n c : Nat} {xs : List Int} (h : Ob w lo hi ao n c xs) : Ob w.drew lo hi ao n c xs := h.below ((Below.refl _ _).drew)
theorem Ob.grown {w w' : World} {lo hi : Nat} {ao : Option Addr} {n c : Nat} {xs : List Int} (h : Ob w lo hi ao n c xs) {bo : Option Addr} {m : Nat} (hg : w.grownBy w' (blkN bo m)) (hs : ∀ k, blkN bo m = some k → k < lo ∨ hi ≤ k) : Ob w' lo hi ao n c xs :=
  ⟨h.fr.grown hg fun hn => by
    cases e : blkN bo m with
    | none => exact .inr rfl
    | some k =>
      refine .inl fun e' => ?_
      have h1 := h.bd k (by rw [blkN_pos hn, e'])
      have h2 := hs k e
      omega, h.hi⟩
theorem bk_below {w w' : World} {b : Nat} {o : Obj} (h : w.heap[b]? = some o) (hb : Below w.heap.size w w') : w'.heap[b]? = some o := (hb.block b (Array.getElem?_eq_some_iff.1 h).1).trans h
theorem bk_alloc {w : World} {b : Nat} {o : Obj} (h : w.heap[b]? = some o) (o' : Obj) : (w.alloc o').heap[b]? = some o := bk_below h (below_box w o')
theorem bk_drew {w : World} {b : Nat} {o : Obj} (h : w.heap[b]? = some o) : w.drew.heap[b]? = some o := h
theorem bk_new (w : World) (c : Array Value) (e : TypeId) : (w.alloc (.cells c e)).heap[w.heap.size]? = some (.cells c e (0, 0)) := heap_alloc_at _ _ _ _ rfl
theorem bk_grown {w w' : World} {b : Nat} {o : Obj} (h : w.heap[b]? = some o) {r : Option Nat} (hg : w.grownBy w' r) (hs : ∀ k, r = some k → k ≠ b) : w'.heap[b]? = some o :=
  (hg.block b (Array.getElem?_eq_some_iff.1 h).1 (fun e => hs b e.symm rfl)).trans h
theorem bk_lt {w : World} {b : Nat} {o : Obj} (h : w.heap[b]? = some o) : b < w.heap.size := (Array.getElem?_eq_some_iff.1 h).1
theorem l_below {w0 w w' : World} (h : Below w0.heap.size w0 w) (hb : Below w.heap.size w w') : Below w0.heap.size w0 w' := h.trans (hb.mono h.size)
theorem l_alloc {w0 w : World} (h : Below w0.heap.size w0 w) (o : Obj) : Below w0.heap.size w0 (w.alloc o) := h.alloc h.size o
theorem l_grown {w0 w w' : World} (h : Below w0.heap.size w0 w) {r : Option Nat} (hg : w.grownBy w' r) (hs : ∀ k, r = some k → w0.heap.size ≤ k) : Below w0.heap.size w0 w' := h.grown hg h.size hs
theorem sz_alloc {w w' : World} {o : Obj} (h : Below (w.alloc o).heap.size (w.alloc o) w') : w.heap.size + 1 ≤ w'.heap.size := by have := h.size; simpa using this
end Go.Proofs.YthebegfceaehfaaDoor
