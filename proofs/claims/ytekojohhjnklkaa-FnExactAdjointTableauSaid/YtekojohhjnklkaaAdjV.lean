/- AdjointTableau: the contracts. -/
import Derived.Test.YtekojohhjnklkaaAdjI
import Derived.Test.YtekojohhjnklkaaAdjS
namespace Go.Proofs.Ytekojohhjnklkaa
open Go.RowKit

theorem impl_AdjointTableau (s : Int) (a1 : Option Addr) (n1 c1 : Nat) (A : List Int) (a2 : Option Addr) (n2 c2 : Nat) (B : List Int) (w : World) (h1 : Rd w a1 n1 c1 A) (h2 : Rd w a2 n2 c2 B)
    {rs : Int} {rA rB : List Int} {rb : Bool} (hr : adjV s A B = ⟨rs, rA, rB, rb⟩) :
    Calls Try.prog 38 #[.agg #[.int .i64 s, .slice a1 n1 c1, .slice a2 n2 c2]] w fun e w' => ∃ p n c q m' d', e = .returned (.agg #[.int .i64 rs, .slice p n c, .slice q m' d']) ∧ NewT w w' rA rB p n c q m' d' := by
  cases hok : tabOk s A B with
  | false =>
    rw [adjV_no hok] at hr
    cases hr
    exact impl_AdjointTableau_no s a1 n1 c1 A a2 n2 c2 B w h1 h2 hok
  | true =>
    obtain ⟨S, rfl, hS, e1, e2, _⟩ := tabOk_parts hok h1.len h2.len
    rw [adjV_yes hok] at hr
    cases hr
    exact impl_AdjointTableau_yes S a1 n1 c1 A a2 n2 c2 B w h1 h2 hok e1 e2 hS
theorem spec_AdjointTableau (s : Int) (a1 : Option Addr) (n1 c1 : Nat) (A : List Int) (a2 : Option Addr) (n2 c2 : Nat) (B : List Int) (w : World) (h1 : Rd w a1 n1 c1 A) (h2 : Rd w a2 n2 c2 B)
    {rs : Int} {rA rB : List Int} {rb : Bool} (hr : adjV s A B = ⟨rs, rA, rB, rb⟩) :
    Calls Try.prog 37 #[.agg #[.int .i64 s, .slice a1 n1 c1, .slice a2 n2 c2]] w fun e w' => ∃ p n c q m' d', e = .returned (.agg #[.int .i64 rs, .slice p n c, .slice q m' d']) ∧ NewT w w' rA rB p n c q m' d' := by
  cases hok : tabOk s A B with
  | false =>
    rw [adjV_no hok] at hr
    cases hr
    exact spec_AdjointTableau_no s a1 n1 c1 A a2 n2 c2 B w h1 h2 hok
  | true =>
    obtain ⟨S, rfl, hS, e1, e2, _⟩ := tabOk_parts hok h1.len h2.len
    rw [adjV_yes hok] at hr
    cases hr
    exact spec_AdjointTableau_yes S a1 n1 c1 A a2 n2 c2 B w h1 h2 hok e1 e2 hS
end Go.Proofs.Ytekojohhjnklkaa
