/- SimplifyingOf of the specification. -/
import Derived.Test.YthebegfceaehfaaSimpSb
import Derived.Test.YthebegfceaehfaaSimpSc
namespace Go.Proofs.Ythebegfceaehfaa
open Go.RowKit
attribute [local irreducible] M.powr

def simpF (A B C : List Int) (S K : Nat) : Nat → Bool := if K = 0 then simp0 B C else if K = 1 then simp1 A C S else simp2 A B C S
theorem simpF_step {A B C : List Int} {S K : Nat} {x : Int} (h : K < 3) (hx : x = (cnt6 (simpF A B C S K) : Int)) : (simpL A B C S).take (K + 1) = (simpL A B C S).take K ++ [x] := by
  subst hx
  obtain rfl | rfl | rfl : K = 0 ∨ K = 1 ∨ K = 2 := by omega
  all_goals rfl
section
variable {S : Nat} {a1 : Option Addr} {n1 c1 : Nat} {A : List Int} {a2 : Option Addr} {c2 : Nat} {B : List Int}
theorem spec_simpK (K : Nat) (x : Int) (k : Nat) (w : World) (hx : x = k) (h1 : Rd w a1 n1 c1 A) (h2 : Rd w a2 S c2 B) (hok : tabOk S A B = true) (e1 : n1 = S * S) (hS : S ≤ 8) (hk1 : 1 ≤ k) (hk6 : k ≤ 6) (hK : K < 3) :
    Calls Try.prog 34 #[.agg #[.int .i64 S, .slice a1 n1 c1, .slice a2 S c2], .int .i64 K, .int .i64 x] w fun e w' => e = .returned (.bool (simpF A B (nodesL A S S) S K k)) ∧ Below w.heap.size w w' := by
  subst hx
  obtain rfl | rfl | rfl : K = 0 ∨ K = 1 ∨ K = 2 := by omega
  · exact spec_simp0 k w h1 h2 hok e1 hS hk1 hk6
  · exact spec_simp1 k w h1 h2 hok e1 hS hk1 hk6
  · exact spec_simp2 k w h1 h2 hok e1 hS hk1 hk6
end
theorem spec_SimplifyingOf_no (s : Int) (a1 : Option Addr) (n1 c1 : Nat) (A : List Int) (a2 : Option Addr) (n2 c2 : Nat) (B : List Int) (w : World) (h1 : Rd w a1 n1 c1 A) (h2 : Rd w a2 n2 c2 B) (hno : tabOk s A B = false) :
    Calls Try.prog 13 #[.agg #[.int .i64 s, .slice a1 n1 c1, .slice a2 n2 c2]] w fun e w' => ∃ ao n c, e = .returned (.slice ao n c) ∧ NewInts w w' [] ao n c := by
  have H1 := hid h1
  have H2 := hid h2
  have S0 := hid (St.first w #[.int .i64 s, .slice a1 n1 c1, .slice a2 n2 c2] 27)
  have HN := hid hno
  clear hno h1 h2
  go_enter Try.func13, Try.ntmps13
  go_wp2_with fail
  go_loopw [3, 4, 5] (fun v i _ wr => i = .int .i64 0 ∧ Hid (Ow wr (w.heap.size + 1) v 0 []) ∧ Hid (St w wr #[.int .i64 s, .slice a1 n1 c1, .slice a2 n2 c2] 27)) (fun _ i _ _ => 3 - (intOf i).toNat)
  case atStart => exact ⟨rfl, hid (by have h := Ow.empty (w.alloc (.cells #[.int .i64 s, .slice a1 n1 c1, .slice a2 n2 c2] 27)) (w.heap.size + 1) (by simp); rw [World.size_alloc] at h; exact h), hid (S0.out.alloc _)⟩
  case round =>
    obtain ⟨rfl, hO, hS1⟩ := hrel
    obtain ⟨⟨q0, q1, q2⟩, _⟩ := blk3 hS1.out.box
    go_wp2_with fail
    refine (spec_TableauOk _ _ _ _ A _ _ _ B _ (H1.out.below hS1.out.below) (H2.out.below hS1.out.below)).mono ?_
    rw [HN.out]
    rintro e w1 ⟨rfl, hB⟩
    have O2 := hid (hO.out.below hB)
    have S2 := hid (hS1.out.step hB)
    clear hB
    go_wp2_with fail
    go_ret
    obtain ⟨ao', c', e1, h1⟩ := O2.out.fr
    cases e1
    exact ⟨_, _, _, rfl, h1.mono (by omega), S2.out.below⟩
set_option maxHeartbeats 4000000 in
theorem spec_SimplifyingOf_yes (S : Nat) (a1 : Option Addr) (n1 c1 : Nat) (A : List Int) (a2 : Option Addr) (c2 : Nat) (B : List Int) (w : World) (h1 : Rd w a1 n1 c1 A) (h2 : Rd w a2 S c2 B) (hok : tabOk S A B = true) (e1 : n1 = S * S) (hS : S ≤ 8) :
    Calls Try.prog 13 #[.agg #[.int .i64 S, .slice a1 n1 c1, .slice a2 S c2]] w fun e w' => ∃ ao n c, e = .returned (.slice ao n c) ∧ NewInts w w' (simpL A B (nodesL A S S) S) ao n c := by
  have H1 := hid h1
  have H2 := hid h2
  have E1 := hid e1
  have S0 := hid (St.first w #[.int .i64 S, .slice a1 n1 c1, .slice a2 S c2] 27)
  have HN := hid hok
  have HK := hid (fun (K : Nat) (x : Int) (k : Nat) (w' : World) (hx : x = k) (hb : Below w.heap.size w w') => spec_simpK K x k w' hx (h1.below hb) (h2.below hb) hok e1 hS)
  clear hok h1 h2 e1
  generalize nodesL A S S = C at *
  go_enter Try.func13, Try.ntmps13
  go_wp2_with fail
  go_loopw [3, 4, 5] (fun v i _ wr => ∃ j : Nat, i = .int .i64 j ∧ j ≤ 3 ∧ Hid (Ow wr (w.heap.size + 1) v j ((simpL A B C S).take j)) ∧ Hid (St w wr #[.int .i64 S, .slice a1 n1 c1, .slice a2 S c2] 27)) (fun _ i _ _ => 3 - (intOf i).toNat)
  case atStart => exact ⟨0, rfl, by omega, hid (by have h := Ow.empty (w.alloc (.cells #[.int .i64 S, .slice a1 n1 c1, .slice a2 S c2] 27)) (w.heap.size + 1) (by simp); rw [World.size_alloc] at h; exact h), hid (S0.out.alloc _)⟩
  case round =>
    clear S0
    obtain ⟨j, rfl, hj, hO, hS1⟩ := hrel
    obtain ⟨⟨q0, q1, q2⟩, _⟩ := blk3 hS1.out.box
    by_cases hlt : j < 3
    · have hji : (j : Int) < 3 := by omega
      go_wp2_with fail
      refine (spec_TableauOk _ _ _ _ A _ _ _ B _ (H1.out.below hS1.out.below) (H2.out.below hS1.out.below)).mono ?_
      rw [HN.out]
      rintro e w1 ⟨rfl, hB⟩
      have O2 := hid (hO.out.below hB)
      have S2 := hid (hS1.out.step hB)
      clear hB hO hS1 q0 q1 q2
      go_wp2_with fail
      go_loopw [5] (fun m wr => ∃ q : Nat, m = .int .i64 q ∧ q ≤ 6 ∧ Hid (cntGo (simpF A B C S j) q (6 - q) = cnt6 (simpF A B C S j)) ∧ Hid (Ow wr (w.heap.size + 1) u3 j ((simpL A B C S).take j)) ∧ Hid (St w wr #[.int .i64 S, .slice a1 n1 c1, .slice a2 S c2] 27)) (fun m _ => 6 - (intOf m).toNat)
      case atStart => exact ⟨0, rfl, by omega, hid rfl, O2, S2⟩
      case round =>
        clear O2 S2
        obtain ⟨q, rfl, hq, hC6, hO, hS1⟩ := hrel
        obtain ⟨⟨q0, q1, q2⟩, _⟩ := blk3 hS1.out.box
        by_cases hl6 : q < 6
        · have hqi : (q : Int) < 6 := by omega
          cases hf : simpF A B C S j (q + 1) with
          | true =>
            have HF := hid hf
            clear hf
            go_wp2_with fail
            refine (HK.out j ((q : Int) + 1) (q + 1) _ (by omega) hS1.out.below (by omega) (by omega) hlt).mono ?_
            rw [HF.out]
            rintro e w5 ⟨rfl, hb⟩
            have O5 := hid (hO.out.below hb)
            have S5 := hid (hS1.out.step hb)
            clear hb
            go_wp2_with fail
            go_roundw
            case rel => exact ⟨q + 1, by go_num, by omega, hid ((cntGo_yes hl6 HF.out).symm.trans hC6.out), O5, S5⟩
            case measure => simp [intOf]; omega
          | false =>
            have HQ := hid (simpF_step hlt (show (q : Int) = (cnt6 (simpF A B C S j) : Int) by rw [← hC6.out, cntGo_no hl6 hf]))
            have HF := hid hf
            clear hf
            go_wp2_with fail
            refine (HK.out j ((q : Int) + 1) (q + 1) _ (by omega) hS1.out.below (by omega) (by omega) hlt).mono ?_
            rw [HF.out]
            rintro e w5 ⟨rfl, hb⟩
            have O5 := hid (hO.out.below hb)
            have S5 := hid (hS1.out.step hb)
            clear hb hO hS1 q0 q1 q2
            have z5 := S5.out.size
            go_wp2_with (at_builtin; (refine wpList_append_int _ rfl _ _ rfl (w.heap.size + 1) _ j _ rfl (O5.out.alloc _) _ (q : Int) rfl (cell_one _ _ _) ⟨by omega, by omega⟩ (by omega) (by simp; omega) ?_); intro v' w6 hO4 hG4)
            have O6 := hid hO4
            have S6 := hid ((S5.out.alloc _).grown hG4 (fun j hj => by have := O5.out.lt j hj; omega))
            clear hO4 hG4
            go_wp2_with fail
            go_roundw
            case rel => exact ⟨j + 1, by go_num, by omega, hid (by rw [HQ.out]; exact O6.out), S6⟩
            case measure => simp [intOf]; omega
        · obtain rfl : q = 6 := by omega
          have HQ := hid (simpF_step hlt (show ((6 : Nat) : Int) = (cnt6 (simpF A B C S j) : Int) from congrArg Nat.cast hC6.out))
          have z5 := hS1.out.size
          go_wp2_with (at_builtin; (refine wpList_append_int _ rfl _ _ rfl (w.heap.size + 1) _ j _ rfl (hO.out.alloc _) _ ((6 : Nat) : Int) rfl (cell_one _ _ _) ⟨by omega, by omega⟩ (by omega) (by simp; omega) ?_); intro v' w6 hO4 hG4)
          have O6 := hid hO4
          have S6 := hid ((hS1.out.alloc _).grown hG4 (fun j hj => by have := hO.out.lt j hj; omega))
          clear hO4 hG4
          go_wp2_with fail
          go_roundw
          case rel => exact ⟨j + 1, by go_num, by omega, hid (by rw [HQ.out]; exact O6.out), S6⟩
          case measure => simp [intOf]; omega
    · obtain rfl : j = 3 := by omega
      go_wp2_with fail
      go_ret
      obtain ⟨ao', c', e1, h1⟩ := hO.out.fr
      cases e1
      exact ⟨_, _, _, rfl, h1.mono (by omega), hS1.out.below⟩
theorem spec_SimplifyingOf (s : Int) (a1 : Option Addr) (n1 c1 : Nat) (A : List Int) (a2 : Option Addr) (n2 c2 : Nat) (B : List Int) (w : World) (h1 : Rd w a1 n1 c1 A) (h2 : Rd w a2 n2 c2 B) :
    Calls Try.prog 13 #[.agg #[.int .i64 s, .slice a1 n1 c1, .slice a2 n2 c2]] w fun e w' => ∃ ao n c, e = .returned (.slice ao n c) ∧ NewInts w w' (simpV s A B) ao n c := by
  cases hok : tabOk s A B with
  | false => rw [simpV_no hok]; exact spec_SimplifyingOf_no s a1 n1 c1 A a2 n2 c2 B w h1 h2 hok
  | true =>
    obtain ⟨S, rfl, hS, e1, rfl, _⟩ := tabOk_parts hok h1.len h2.len
    rw [simpV_yes hok]
    exact spec_SimplifyingOf_yes n2 a1 n1 c1 A a2 c2 B w h1 h2 hok e1 hS
end Go.Proofs.Ythebegfceaehfaa
