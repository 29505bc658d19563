/- PermuteTableau: the contracts. -/
import Derived.Test.YtekojohhjnklkaaPermI
import Derived.Test.YtekojohhjnklkaaPermS
namespace Go.Proofs.Ytekojohhjnklkaa
open Go.RowKit

theorem impl_PermuteTableau (s : Int) (a1 : Option Addr) (n1 c1 : Nat) (A : List Int) (a2 : Option Addr) (n2 c2 : Nat) (B : List Int) (l : Option Addr) (m d : Nat) (L : List Int) (w : World) (h1 : Rd w a1 n1 c1 A) (h2 : Rd w a2 n2 c2 B) (h3 : Rd w l m d L)
    {rs : Int} {rA rB : List Int} {rb : Bool} (hr : permV s A B L = ⟨rs, rA, rB, rb⟩) :
    Calls Try.prog 43 #[.agg #[.int .i64 s, .slice a1 n1 c1, .slice a2 n2 c2], .slice l m d] w fun e w' => ∃ p n c q m' d', e = .returned (.tuple #[.agg #[.int .i64 rs, .slice p n c, .slice q m' d'], .bool rb]) ∧ NewT w w' rA rB p n c q m' d' := by
  cases hok : tabOk s A B with
  | false =>
    rw [permV_no L hok] at hr
    cases hr
    exact impl_PermuteTableau_no s a1 n1 c1 A a2 n2 c2 B l m d w h1 h2 hok
  | true =>
    obtain ⟨S, rfl, hS, e1, rfl, _⟩ := tabOk_parts hok h1.len h2.len
    by_cases hm : m = n2
    · subst hm
      exact impl_PermuteTableau_yes m a1 n1 c1 A a2 c2 B l d L w h1 h2 h3 hok e1 hS hr
    · rw [permV_len' (by rw [h3.len]; exact hm)] at hr
      cases hr
      have hb := Nat.le_trans h3.cap h3.max
      exact impl_PermuteTableau_len n2 a1 n1 c1 A a2 n2 c2 B l m d w h1 h2 hok hS (by omega) hm
theorem spec_PermuteTableau (s : Int) (a1 : Option Addr) (n1 c1 : Nat) (A : List Int) (a2 : Option Addr) (n2 c2 : Nat) (B : List Int) (l : Option Addr) (m d : Nat) (L : List Int) (w : World) (h1 : Rd w a1 n1 c1 A) (h2 : Rd w a2 n2 c2 B) (h3 : Rd w l m d L)
    {rs : Int} {rA rB : List Int} {rb : Bool} (hr : permV s A B L = ⟨rs, rA, rB, rb⟩) :
    Calls Try.prog 41 #[.agg #[.int .i64 s, .slice a1 n1 c1, .slice a2 n2 c2], .slice l m d] w fun e w' => ∃ p n c q m' d', e = .returned (.tuple #[.agg #[.int .i64 rs, .slice p n c, .slice q m' d'], .bool rb]) ∧ NewT w w' rA rB p n c q m' d' := by
  cases hok : tabOk s A B with
  | false =>
    rw [permV_no L hok] at hr
    cases hr
    exact spec_PermuteTableau_no s a1 n1 c1 A a2 n2 c2 B l m d w h1 h2 hok
  | true =>
    obtain ⟨S, rfl, hS, e1, rfl, _⟩ := tabOk_parts hok h1.len h2.len
    by_cases hm : m = n2
    · subst hm
      exact spec_PermuteTableau_yes m a1 n1 c1 A a2 c2 B l d L w h1 h2 h3 hok e1 hS hr
    · rw [permV_len' (by rw [h3.len]; exact hm)] at hr
      cases hr
      have hb := Nat.le_trans h3.cap h3.max
      exact spec_PermuteTableau_len n2 a1 n1 c1 A a2 n2 c2 B l m d w h1 h2 hok hS (by omega) hm
end Go.Proofs.Ytekojohhjnklkaa