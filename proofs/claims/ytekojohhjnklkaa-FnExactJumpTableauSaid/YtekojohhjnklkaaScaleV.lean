/- ScaleTableau: the contracts. -/
import Derived.Test.YtekojohhjnklkaaScale
import Derived.Test.YtekojohhjnklkaaMk
namespace Go.Proofs.Ytekojohhjnklkaa
open Go.RowKit

theorem impl_ScaleTableau (s : Int) (a1 : Option Addr) (n1 c1 : Nat) (A : List Int) (a2 : Option Addr) (n2 c2 : Nat) (B : List Int) (k : Int) (w : World) (h1 : Rd w a1 n1 c1 A) (h2 : Rd w a2 n2 c2 B) (_hk : I64 k)
    {rs : Int} {rA rB : List Int} {rb : Bool} (hr : scaleV s A B k = ⟨rs, rA, rB, rb⟩) :
    Calls Try.prog 35 #[.agg #[.int .i64 s, .slice a1 n1 c1, .slice a2 n2 c2], .int .i64 k] w fun e w' => ∃ p n c q m' d', e = .returned (.agg #[.int .i64 rs, .slice p n c, .slice q m' d']) ∧ NewT w w' rA rB p n c q m' d' := by
  cases hok : tabOk s A B with
  | false =>
    rw [scaleV_no k hok] at hr
    cases hr
    exact impl_ScaleTableau_no s a1 n1 c1 A a2 n2 c2 B k w h1 h2 hok
  | true =>
    obtain ⟨S, rfl, hS, e1, e2, _⟩ := tabOk_parts hok h1.len h2.len
    rw [scaleV_yes k hok] at hr
    cases hr
    exact impl_ScaleTableau_yes S a1 n1 c1 A a2 n2 c2 B k w h1 h2 hok e1 e2 hS
theorem spec_ScaleTableau (s : Int) (a1 : Option Addr) (n1 c1 : Nat) (A : List Int) (a2 : Option Addr) (n2 c2 : Nat) (B : List Int) (k : Int) (w : World) (h1 : Rd w a1 n1 c1 A) (h2 : Rd w a2 n2 c2 B) (_hk : I64 k)
    {rs : Int} {rA rB : List Int} {rb : Bool} (hr : scaleV s A B k = ⟨rs, rA, rB, rb⟩) :
    Calls Try.prog 34 #[.agg #[.int .i64 s, .slice a1 n1 c1, .slice a2 n2 c2], .int .i64 k] w fun e w' => ∃ p n c q m' d', e = .returned (.agg #[.int .i64 rs, .slice p n c, .slice q m' d']) ∧ NewT w w' rA rB p n c q m' d' := by
  cases hok : tabOk s A B with
  | false =>
    rw [scaleV_no k hok] at hr
    cases hr
    exact spec_ScaleTableau_no s a1 n1 c1 A a2 n2 c2 B k w h1 h2 hok
  | true =>
    obtain ⟨S, rfl, hS, e1, e2, _⟩ := tabOk_parts hok h1.len h2.len
    rw [scaleV_yes k hok] at hr
    cases hr
    exact spec_ScaleTableau_yes S a1 n1 c1 A a2 n2 c2 B k w h1 h2 hok e1 e2 hS
end Go.Proofs.Ytekojohhjnklkaa
