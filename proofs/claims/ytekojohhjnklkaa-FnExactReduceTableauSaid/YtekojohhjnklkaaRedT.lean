/- ReduceTableau, plain: rounds until the number of stages stays. -/
import Derived.Test.YtekojohhjnklkaaMrg
import Derived.Test.YtekojohhjnklkaaTab
namespace Go.Proofs.Ytekojohhjnklkaa
open Go.RowKit

namespace Red
structure Tt where
  st : Nat
  A : List Int
  B : List Int
/-- The stages that are needed. -/
def needT (x : Tt) : List Int := ints (needL x.A x.B x.st)
def pickT (x : Tt) : Tt := ⟨(needT x).length, firstN (chE x.A (needT x) x.st (needT x).length) ((needT x).length * (needT x).length), firstN (chB x.B (needT x)) (needT x).length⟩
/-- Its classes as stages. -/
def mrgT (x : Tt) : Tt := ⟨cnt (classes x.A x.st), mrgA x.A x.st (classes x.A x.st) (cnt (classes x.A x.st)), mrgB x.B x.st (classes x.A x.st) (cnt (classes x.A x.st))⟩
def stepT (x : Tt) : Tt := mrgT (pickT x)
theorem needT_le (x : Tt) : (needT x).length ≤ x.st := by unfold needT; rw [ints_len]; exact needL_len
theorem needT_in (x : Tt) : ∀ y ∈ needT x, 0 ≤ y ∧ y < x.st := by
  intro y hy
  obtain ⟨i, hi, rfl⟩ := List.mem_map.1 hy
  have := needL_lt i hi
  exact ⟨by omega, by omega⟩
theorem stepT_le (x : Tt) : (stepT x).st ≤ x.st := Nat.le_trans (rounds_cls (pickT x).A (pickT x).st (pickT x).st).cnt_le (needT_le x)
theorem stepT_len (x : Tt) : (stepT x).A.length = (stepT x).st * (stepT x).st ∧ (stepT x).B.length = (stepT x).st := ⟨firstN_len _ _, firstN_len _ _⟩
def redGo : Nat → Tt → Tt
  | 0, x => x
  | f + 1, x => if (stepT x).st = x.st then stepT x else redGo f (stepT x)
theorem redGo_fuel : ∀ (f g : Nat) (x : Tt), x.st < f → x.st < g → redGo f x = redGo g x
  | 0, _, _, h, _ => absurd h (Nat.not_lt_zero _)
  | _ + 1, 0, _, _, h => absurd h (Nat.not_lt_zero _)
  | f + 1, g + 1, x, h1, h2 => by
    rw [redGo, redGo]
    split
    · rfl
    · rename_i e
      have := stepT_le x
      exact redGo_fuel f g (stepT x) (by omega) (by omega)
def red (x : Tt) : Tt := redGo (x.st + 1) x
theorem red_stop {x : Tt} (h : (stepT x).st = x.st) : red x = stepT x := by
  unfold red
  rw [redGo, if_pos h]
theorem red_go {x : Tt} (h : (stepT x).st ≠ x.st) : red x = red (stepT x) := by
  have := stepT_le x
  show redGo (x.st + 1) x = _
  rw [redGo, if_neg h]
  exact redGo_fuel _ _ _ (by omega) (by omega)
theorem redGo_len : ∀ (f : Nat) (x : Tt), x.st < f → x.st ≤ 8 → (redGo f x).A.length ≤ 64 ∧ (redGo f x).B.length ≤ 8
  | 0, _, h, _ => absurd h (Nat.not_lt_zero _)
  | f + 1, x, h, h8 => by
    have h1 := stepT_le x
    rw [redGo]
    split
    · rw [(stepT_len x).1, (stepT_len x).2]
      exact ⟨Nat.mul_le_mul (show _ ≤ 8 by omega) (show _ ≤ 8 by omega), by omega⟩
    · exact redGo_len f (stepT x) (by omega) (by omega)
end Red
def redV (s : Int) (A B : List Int) : Tb := if tabOk s A B then ⟨(Red.red ⟨s.toNat, A, B⟩).st, (Red.red ⟨s.toNat, A, B⟩).A, (Red.red ⟨s.toNat, A, B⟩).B, true⟩ else Tb.none
theorem redV_no {s : Int} {A B : List Int} (h : tabOk s A B = false) : redV s A B = Tb.none := by unfold redV; rw [h]; rfl
theorem redV_yes {S : Nat} {A B : List Int} (h : tabOk S A B = true) : redV S A B = ⟨(Red.red ⟨S, A, B⟩).st, (Red.red ⟨S, A, B⟩).A, (Red.red ⟨S, A, B⟩).B, true⟩ := by unfold redV; rw [h]; rfl
theorem redV_len (s : Int) (A B : List Int) : (redV s A B).A.length ≤ 1000 ∧ (redV s A B).B.length ≤ 1000 := by
  cases hok : tabOk s A B with
  | false => rw [redV_no hok]; exact ⟨Nat.zero_le _, Nat.zero_le _⟩
  | true =>
    obtain ⟨S, rfl, hS, _, _, _⟩ := tabOk_parts hok rfl rfl
    rw [redV_yes hok]
    have := Red.redGo_len (S + 1) ⟨S, A, B⟩ (Nat.lt_succ_self _) hS
    exact ⟨Nat.le_trans this.1 (by decide), Nat.le_trans this.2 (by decide)⟩
/-- All stages chosen: the tableau itself. -/
theorem all_A {S : Nat} {A : List Int} (h : A.length = S * S) : firstN (chE A (Red.ints (List.range S)) S S) (S * S) = A := by
  apply List.ext_getElem
  · rw [firstN_len, h]
  · intro q h1 h2
    rw [firstN_len] at h1
    have hS : 0 < S := by
      rcases Nat.eq_zero_or_pos S with e | e
      · rw [e] at h1; omega
      · exact e
    have h3 : q / S < S := Nat.div_lt_of_lt_mul h1
    have h4 : q % S < S := Nat.mod_lt _ hS
    simp only [firstN, List.getElem_map, List.getElem_range]
    unfold chE
    rw [Red.ints_getD, Red.ints_getD]
    have g : ∀ i, i < S → (List.range S).getD i 0 = i := fun i hi => by simp [List.getD, hi]
    rw [g _ h3, g _ h4, Int.toNat_natCast, Int.toNat_natCast, Nat.mul_comm (q / S) S, Nat.div_add_mod, List.getD_eq_getElem?_getD, List.getElem?_eq_getElem h2]
    rfl
theorem all_B {S : Nat} {B : List Int} (h : B.length = S) : firstN (chB B (Red.ints (List.range S))) S = B := by
  apply List.ext_getElem
  · rw [firstN_len, h]
  · intro q h1 h2
    rw [firstN_len] at h1
    simp only [firstN, List.getElem_map, List.getElem_range]
    unfold chB
    rw [Red.ints_getD, show (List.range S).getD q 0 = q by simp [List.getD, h1], Int.toNat_natCast, List.getD_eq_getElem?_getD, List.getElem?_eq_getElem h2]
    rfl
end Go.Proofs.Ytekojohhjnklkaa
