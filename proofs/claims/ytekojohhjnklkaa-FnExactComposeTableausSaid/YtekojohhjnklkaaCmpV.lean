/- ComposeTableaus: the contracts. -/
import Derived.Test.YtekojohhjnklkaaCmpI
import Derived.Test.YtekojohhjnklkaaCmpS
import Derived.Test.YtekojohhjnklkaaCmpN
import Derived.Test.YtekojohhjnklkaaCmpM
namespace Go.Proofs.Ytekojohhjnklkaa
open Go.RowKit

theorem impl_ComposeTableaus (s : Int) (a1 : Option Addr) (n1 c1 : Nat) (A : List Int) (a2 : Option Addr) (n2 c2 : Nat) (B : List Int) (t : Int) (a3 : Option Addr) (n3 c3 : Nat) (C : List Int) (a4 : Option Addr) (n4 c4 : Nat) (D : List Int) (w : World)
    (h1 : Rd w a1 n1 c1 A) (h2 : Rd w a2 n2 c2 B) (h3 : Rd w a3 n3 c3 C) (h4 : Rd w a4 n4 c4 D) {rs : Int} {rA rB : List Int} {rb : Bool} (hr : cmpV s A B t C D = ⟨rs, rA, rB, rb⟩) :
    Calls Try.prog 40 #[.agg #[.int .i64 s, .slice a1 n1 c1, .slice a2 n2 c2], .agg #[.int .i64 t, .slice a3 n3 c3, .slice a4 n4 c4]] w fun e w' => ∃ p n c q m d, e = .returned (.tuple #[.agg #[.int .i64 rs, .slice p n c, .slice q m d], .bool rb]) ∧ NewT w w' rA rB p n c q m d := by
  cases hok : tabOk s A B with
  | false =>
    rw [cmpV_no1 C D hok] at hr
    cases hr
    exact impl_ComposeTableaus_no1 s a1 n1 c1 A a2 n2 c2 B t a3 n3 c3 C a4 n4 c4 D w h1 h2 h3 h4 hok
  | true =>
    cases hok2 : tabOk t C D with
    | false =>
      rw [cmpV_no2 hok2] at hr
      cases hr
      exact impl_ComposeTableaus_no2 s a1 n1 c1 A a2 n2 c2 B t a3 n3 c3 C a4 n4 c4 D w h1 h2 h3 h4 hok hok2
    | true =>
      obtain ⟨S, rfl, hS, e1, rfl, _⟩ := tabOk_parts hok h1.len h2.len
      obtain ⟨T, rfl, hT, e3, rfl, _⟩ := tabOk_parts hok2 h3.len h4.len
      by_cases hN : n2 + n4 ≤ 8
      · rw [cmpV_yes hok hok2 hN] at hr
        cases hr
        exact impl_ComposeTableaus_yes n2 n4 a1 n1 c1 A a2 c2 B a3 n3 c3 C a4 c4 D w h1 h2 h3 h4 hok hok2 e1 e3 hN
      · rw [cmpV_no3 hN] at hr
        cases hr
        exact impl_ComposeTableaus_no3 n2 a1 n1 c1 A a2 n2 c2 B n4 a3 n3 c3 C a4 n4 c4 D w h1 h2 h3 h4 hok hok2 hS hT hN
theorem spec_ComposeTableaus (s : Int) (a1 : Option Addr) (n1 c1 : Nat) (A : List Int) (a2 : Option Addr) (n2 c2 : Nat) (B : List Int) (t : Int) (a3 : Option Addr) (n3 c3 : Nat) (C : List Int) (a4 : Option Addr) (n4 c4 : Nat) (D : List Int) (w : World)
    (h1 : Rd w a1 n1 c1 A) (h2 : Rd w a2 n2 c2 B) (h3 : Rd w a3 n3 c3 C) (h4 : Rd w a4 n4 c4 D) {rs : Int} {rA rB : List Int} {rb : Bool} (hr : cmpV s A B t C D = ⟨rs, rA, rB, rb⟩) :
    Calls Try.prog 39 #[.agg #[.int .i64 s, .slice a1 n1 c1, .slice a2 n2 c2], .agg #[.int .i64 t, .slice a3 n3 c3, .slice a4 n4 c4]] w fun e w' => ∃ p n c q m d, e = .returned (.tuple #[.agg #[.int .i64 rs, .slice p n c, .slice q m d], .bool rb]) ∧ NewT w w' rA rB p n c q m d := by
  cases hok : tabOk s A B with
  | false =>
    rw [cmpV_no1 C D hok] at hr
    cases hr
    exact spec_ComposeTableaus_no1 s a1 n1 c1 A a2 n2 c2 B t a3 n3 c3 C a4 n4 c4 D w h1 h2 h3 h4 hok
  | true =>
    cases hok2 : tabOk t C D with
    | false =>
      rw [cmpV_no2 hok2] at hr
      cases hr
      exact spec_ComposeTableaus_no2 s a1 n1 c1 A a2 n2 c2 B t a3 n3 c3 C a4 n4 c4 D w h1 h2 h3 h4 hok hok2
    | true =>
      obtain ⟨S, rfl, hS, e1, rfl, _⟩ := tabOk_parts hok h1.len h2.len
      obtain ⟨T, rfl, hT, e3, rfl, _⟩ := tabOk_parts hok2 h3.len h4.len
      by_cases hN : n2 + n4 ≤ 8
      · rw [cmpV_yes hok hok2 hN] at hr
        cases hr
        exact spec_ComposeTableaus_yes n2 n4 a1 n1 c1 A a2 c2 B a3 n3 c3 C a4 c4 D w h1 h2 h3 h4 hok hok2 e1 e3 hN
      · rw [cmpV_no3 hN] at hr
        cases hr
        exact spec_ComposeTableaus_no3 n2 a1 n1 c1 A a2 n2 c2 B n4 a3 n3 c3 C a4 n4 c4 D w h1 h2 h3 h4 hok hok2 hS hT hN
end Go.Proofs.Ytekojohhjnklkaa