/- FormatSeries: the contracts. -/
import Derived.Test.YtgbjoaheidgafaaDoorFmtS
import Derived.Test.YtgbjoaheidgafaaDoorSerOk
import Derived.Test.YtgbjoaheidgafaaDoorAp
import Derived.Test.YtgbjoaheidgafaaDoorAddV
namespace Go.Proofs.YtgbjoaheidgafaaDoor
open Go.RowKit

def fmtSer (o z : Int) (A : List Int) : ByteArray := if serOk o z A then bs (fmtNs (z :: A)) else bs []
theorem Ow.one (w : World) (base : Nat) (y : Int) (hb : base ≤ w.heap.size) (hy : I64 y) : Ow (w.alloc (.cells #[.int .i64 y] 3)) base (.slice (some ⟨w.heap.size, 0, none⟩) 1 1) 1 [y] :=
  ⟨⟨by simp, .inr ⟨w.heap.size, 1, #[.int .i64 y], rfl, hb, _root_.Go.heap_alloc_new w _, Nat.le_refl _, by unfold maxLen; omega, rfl, rfl⟩⟩, fun x hx => by simp only [List.mem_cons, List.not_mem_nil, or_false] at hx; exact hx ▸ hy⟩
theorem impl_FormatSeries (o z : Int) (a1 : Option Addr) (n1 c1 : Nat) (A : List Int) (w : World) (h1 : Rd w a1 n1 c1 A) (ht : Tc w) :
    Calls Tryd.prog 17 #[.agg #[.int .i64 o, .int .i64 z, .slice a1 n1 c1]] w fun e w' => e = .returned (.string (fmtSer o z A)) ∧ Below w.heap.size w w' := by
  have H1 := hid h1
  have HT := hid ht
  have S0 := hid (St.first w #[.int .i64 o, .int .i64 z, .slice a1 n1 c1] 24)
  cases hok : serOk o z A with
  | false =>
    have HN := hid hok
    clear hok h1 ht
    go_enter Tryd.func17, Tryd.ntmps17
    go_wp2_with fail
    refine (impl_SeriesOk _ _ _ _ _ A _ (H1.out.below S0.out.below) (HT.out.below S0.out.below)).mono ?_
    rw [HN.out]
    rintro e w1 ⟨rfl, hB⟩
    have S1 := hid (S0.out.step hB)
    clear hB
    go_wp2_with fail
    go_ret
    exact ⟨ret_s (by unfold fmtSer; rw [HN.out]; rfl), S1.out.below⟩
  | true =>
    have hz : I64 z := by
      unfold serOk at hok
      simp only [Bool.and_eq_true] at hok
      exact I64.num (M.num_of_isNum hok.2.1)
    have hn1 : n1 ≤ 37 := by
      obtain ⟨k, n, _, _, _, h37, hl⟩ := serOk_parts hok
      have := h1.len
      omega
    have HZ := hid hz
    have HN := hid hok
    clear hok h1 ht hz
    go_enter Tryd.func17, Tryd.ntmps17
    go_wp2_with fail
    refine (impl_SeriesOk _ _ _ _ _ A _ (H1.out.below S0.out.below) (HT.out.below S0.out.below)).mono ?_
    rw [HN.out]
    rintro e w1 ⟨rfl, hB⟩
    have S1 := hid (S0.out.step hB)
    have y1 := S1.out.size
    obtain ⟨⟨q0, q1, q2⟩, _⟩ := blk3 S1.out.box
    have S2 := hid (S1.out.alloc (.cells #[.int .i64 z] 3))
    have O2 := hid (Ow.one w1 w1.heap.size z (Nat.le_refl _) HZ.out)
    clear hB
    go_wp2_with (at_builtin; refine wpList_append_ints _ rfl _ _ rfl w1.heap.size _ 1 [z] rfl O2.out _ n1 c1 A rfl (H1.out.below S2.out.below) (by omega) (by simp) ?_; intro ao4 c4 w4 hO4 hG4 hW4)
    obtain ⟨_, _, ea, hF⟩ := hO4.fr
    cases ea
    have HF := hid hF
    have hb4 : Below w1.heap.size w1 w4 := ((Below.refl _ _).alloc (Nat.le_refl _) _).grown hG4 (by simp) (fun j hj => (O2.out.lt j hj).1)
    have S4 := hid (S1.out.step hb4)
    clear hO4 hG4 hW4 hF hb4 q0 q1 q2
    go_wp2_with fail
    refine (impl_FormatNumbers _ _ _ ([z] ++ A) _ HF.out.rd (by omega)).mono ?_
    rintro e w5 ⟨rfl, hB⟩
    have S5 := hid (S4.out.step hB)
    clear hB
    go_wp2_with fail
    go_ret
    exact ⟨ret_s (by unfold fmtSer; rw [HN.out]; rfl), S5.out.below⟩
theorem spec_FormatSeries (o z : Int) (a1 : Option Addr) (n1 c1 : Nat) (A : List Int) (w : World) (h1 : Rd w a1 n1 c1 A) (ht : Tc w) :
    Calls Tryd.prog 16 #[.agg #[.int .i64 o, .int .i64 z, .slice a1 n1 c1]] w fun e w' => e = .returned (.string (fmtSer o z A)) ∧ Below w.heap.size w w' := by
  have H1 := hid h1
  have HT := hid ht
  have S0 := hid (St.first w #[.int .i64 o, .int .i64 z, .slice a1 n1 c1] 24)
  cases hok : serOk o z A with
  | false =>
    have HN := hid hok
    clear hok h1 ht
    go_enter Tryd.func16, Tryd.ntmps16
    go_wp2_with fail
    refine (spec_SeriesOk _ _ _ _ _ A _ (H1.out.below S0.out.below) (HT.out.below S0.out.below)).mono ?_
    rw [HN.out]
    rintro e w1 ⟨rfl, hB⟩
    have S1 := hid (S0.out.step hB)
    clear hB
    go_wp2_with fail
    go_ret
    exact ⟨ret_s (by unfold fmtSer; rw [HN.out]; rfl), S1.out.below⟩
  | true =>
    have hz : I64 z := by
      unfold serOk at hok
      simp only [Bool.and_eq_true] at hok
      exact I64.num (M.num_of_isNum hok.2.1)
    have hn1 : n1 ≤ 37 := by
      obtain ⟨k, n, _, _, _, h37, hl⟩ := serOk_parts hok
      have := h1.len
      omega
    have HZ := hid hz
    have HN := hid hok
    clear hok h1 ht hz
    go_enter Tryd.func16, Tryd.ntmps16
    go_wp2_with fail
    refine (spec_SeriesOk _ _ _ _ _ A _ (H1.out.below S0.out.below) (HT.out.below S0.out.below)).mono ?_
    rw [HN.out]
    rintro e w1 ⟨rfl, hB⟩
    have S1 := hid (S0.out.step hB)
    have y1 := S1.out.size
    obtain ⟨⟨q0, q1, q2⟩, _⟩ := blk3 S1.out.box
    have S2 := hid (S1.out.alloc (.cells #[.int .i64 z] 3))
    have O2 := hid (Ow.one w1 w1.heap.size z (Nat.le_refl _) HZ.out)
    clear hB
    go_wp2_with (at_builtin; refine wpList_append_ints _ rfl _ _ rfl w1.heap.size _ 1 [z] rfl O2.out _ n1 c1 A rfl (H1.out.below S2.out.below) (by omega) (by simp) ?_; intro ao4 c4 w4 hO4 hG4 hW4)
    obtain ⟨_, _, ea, hF⟩ := hO4.fr
    cases ea
    have HF := hid hF
    have hb4 : Below w1.heap.size w1 w4 := ((Below.refl _ _).alloc (Nat.le_refl _) _).grown hG4 (by simp) (fun j hj => (O2.out.lt j hj).1)
    have S4 := hid (S1.out.step hb4)
    clear hO4 hG4 hW4 hF hb4 q0 q1 q2
    go_wp2_with fail
    refine (spec_FormatNumbers _ _ _ ([z] ++ A) _ HF.out.rd (by omega)).mono ?_
    rintro e w5 ⟨rfl, hB⟩
    have S5 := hid (S4.out.step hB)
    clear hB
    go_wp2_with fail
    go_ret
    exact ⟨ret_s (by unfold fmtSer; rw [HN.out]; rfl), S5.out.below⟩
end Go.Proofs.YtgbjoaheidgafaaDoor
