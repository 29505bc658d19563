/- l6Simple of the specification. -/
import Derived.Test.YthebegfceaehfaaSimpM
namespace Go.Proofs.Ythebegfceaehfaa
open Go.RowKit
attribute [local irreducible] M.powr

theorem frac_one (k : Int) : M.frac 1 k = M.inv k := by
  unfold M.frac M.times
  rw [Int.one_mul]
  exact M.res_of_num (M.num_inv k)
theorem times_one_sub (x y : Int) : M.times x (1 - y) = M.times x (M.minus 1 y) := by
  unfold M.minus M.times
  rw [Int.mul_emod x ((1 - y) % M.P), Int.emod_emod_of_dvd _ (Int.dvd_refl _), ← Int.mul_emod]
theorem wgt_step {B C : List Int} {k S i : Nat} {x y : Int} (h1 : B.length = S) (h2 : C.length = S) (hi : i < S) (hx : x = B.getD i 0) (hy : y = (powL C ((k : Int) - 1)).getD i 0) : (wgt B C k).take (i + 1) = (wgt B C k).take i ++ [M.times x y] := by
  rw [take_snoc 0 _ i (by rw [wgt_len h1 h2]; exact hi)]
  have : (wgt B C k).getD i 0 = M.times x y := by
    have h := wgt_at (k := k) h1 h2 hi rfl (rfl : C.getD i 0 = C.getD i 0)
    rw [← h, hx, hy, ← powL_at (by omega : i < C.length) rfl]
  rw [this]
/-- One equation of a kind. -/
def simpK (K : Nat) (A B C : List Int) (S k : Nat) : Bool := if K = 0 then simp0 B C k else if K = 1 then simp1 A C S k else simp2 A B C S k
section
variable {S : Nat} {a1 : Option Addr} {n1 c1 : Nat} {A : List Int} {a2 : Option Addr} {c2 : Nat} {B : List Int}
set_option maxHeartbeats 8000000 in
theorem spec_simp0 (k : Nat) (w : World) (h1 : Rd w a1 n1 c1 A) (h2 : Rd w a2 S c2 B) (hok : tabOk S A B = true) (e1 : n1 = S * S) (hS : S ≤ 8) (hk1 : 1 ≤ k) (hk6 : k ≤ 6) :
    Calls Try.prog 34 #[.agg #[.int .i64 S, .slice a1 n1 c1, .slice a2 S c2], .int .i64 0, .int .i64 k] w fun e w' => e = .returned (.bool (simp0 B (nodesL A S S) k)) ∧ Below w.heap.size w w' := by
  have H1 := hid h1
  have H2 := hid h2
  have hn := hid e1
  have S0 := hid (St.first w #[.int .i64 S, .slice a1 n1 c1, .slice a2 S c2] 27)
  have HV := hid (show nodesV S A B = nodesL A S S by unfold nodesV; rw [hok, if_pos rfl, Int.toNat_natCast])
  have hw1 : IntKind.i64.wrap ((k : Int) - 1) = (k : Int) - 1 := IntWalk.i64_in _ ⟨by omega, by omega⟩
  clear hok h1 h2 e1
  go_enter Try.func34, Try.ntmps34
  go_wp2_with fail
  refine (spec_NodesOf _ _ _ _ A _ _ _ B _ (H1.out.below S0.out.below) (H2.out.below S0.out.below)).mono ?_
  rw [HV.out]
  rintro e w2 ⟨a3, n3, c3, rfl, hN⟩
  obtain rfl : S = n3 := by have h := hN.1.rd.len; rw [← h]; simp [nodesL]
  have S2 := hid (S0.out.step hN.2)
  have HC := hid hN.1.rd
  clear hN
  generalize hC : nodesL A S S = C at *
  have HCE := hid hC
  clear hC
  go_wp2_with fail
  refine (spec_powers ((k : Int) - 1) a3 S c3 C _ HC.out ⟨by omega, by omega⟩ hS).mono ?_
  rintro e w3 ⟨p1, n1', d1, rfl, rfl, hN⟩
  have S3 := hid (S2.out.step hN.2)
  have HP := hid hN.1.rd
  have HC3 := hid (HC.out.below hN.2)
  have HB3 := hid (H2.out.below S3.out.below)
  have HA3 := hid (H1.out.below S3.out.below)
  clear hN hw1 S0 S2 HC HV H1 H2
  obtain ⟨⟨q0, q1, q2⟩, _⟩ := blk3 S3.out.box
  go_wp2_with fail
  refine (spec_dot _ _ _ B _ _ (powL C ((k : Int) - 1)) _ HB3.out HP.out).mono ?_
  rintro e w4 ⟨rfl, hB⟩
  have S4 := hid (S3.out.step hB)
  clear hB
  go_wp2_with fail
  refine (spec_Inverse k _).mono ?_
  rintro e w5 ⟨rfl, rfl⟩
  go_wp2_with fail
  go_ret
  exact ⟨by rw [show nodesL A S S = C from HCE.out]; exact ret_b (show (M.dotL B (powL C ((k : Int) - 1)) == M.inv k) = simp0 B C k by unfold simp0; rw [frac_one]), S4.out.below⟩
end
end Go.Proofs.Ythebegfceaehfaa
