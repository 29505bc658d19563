/- Sums of products, powers, columns. -/
import Derived.Test.YthebegfceaehfaaNodesOf
import Derived.Test.YthebegfceaehfaaOb
namespace Go.Proofs.Ythebegfceaehfaa
open Go.RowKit
attribute [local irreducible] M.powr

theorem dot_step {xs ys : List Int} {k : Nat} {n x y : Int} (h : k < xs.length) (h' : k < ys.length) (hn : n = M.dotL (xs.take k) (ys.take k)) (ex : x = xs.getD k 0) (ey : y = ys.getD k 0) : M.plus n (M.times x y) = M.dotL (xs.take (k + 1)) (ys.take (k + 1)) := by
  subst ex ey hn
  rw [take_snoc 0 xs k h, take_snoc 0 ys k h']
  unfold M.dotL
  rw [List.zip_append (by simp; omega), List.foldl_append]
  rfl
def powL (C : List Int) (k : Int) : List Int := C.map (M.powr · k)
theorem powL_len (C : List Int) (k : Int) : (powL C k).length = C.length := by simp [powL]
theorem powL_at {C : List Int} {k : Int} {i : Nat} {x : Int} (h : i < C.length) (hx : x = C.getD i 0) : M.powr x k = (powL C k).getD i 0 := by
  subst hx
  simp [powL, List.getD, h]
theorem powL_step {C : List Int} {k x : Int} {i : Nat} (h : i < C.length) (hx : x = C.getD i 0) : (powL C k).take (i + 1) = (powL C k).take i ++ [M.powr x k] := by
  rw [take_snoc 0 _ i (by rw [powL_len]; exact h), ← powL_at h hx]
/-- A column of A. -/
def colL (A : List Int) (S j : Nat) : List Int := (List.range S).map fun i => A.getD (i * S + j) 0
theorem colL_len (A : List Int) (S j : Nat) : (colL A S j).length = S := by simp [colL]
theorem colL_step {A : List Int} {S j i : Nat} {x : Int} (h : i < S) (hx : x = A.getD (i * S + j) 0) : (colL A S j).take (i + 1) = (colL A S j).take i ++ [x] := by
  rw [take_snoc 0 _ i (by rw [colL_len]; exact h), hx]
  simp [colL, List.getD, h]

set_option maxHeartbeats 1000000 in
theorem impl_dot (ao : Option Addr) (n c : Nat) (xs : List Int) (bo : Option Addr) (d : Nat) (ys : List Int) (w : World) (hr : Rd w ao n c xs) (hs : Rd w bo n d ys) :
    Calls Try.prog 39 #[.slice ao n c, .slice bo n d] w fun e w' => e = .returned (.int .i64 (M.dotL xs ys)) ∧ Below w.heap.size w w' := by
  have hn : n ≤ 9223372036854775807 := Nat.le_trans hr.cap hr.max
  have HR := hid hr
  have HS := hid hs
  clear hr hs
  go_enter Try.func39, Try.ntmps39
  go_wp2_with fail
  go_loopw [5, 6, 9] (fun t _ i wr => ∃ (k : Nat) (n0 : Int), i = .int .i64 k ∧ t = .int .i64 n0 ∧ k ≤ n ∧ Hid (n0 = M.dotL (xs.take k) (ys.take k)) ∧ Hid (Below w.heap.size w wr)) (fun _ _ i _ => n - (intOf i).toNat)
  case atStart => exact ⟨0, 0, rfl, rfl, Nat.zero_le _, hid rfl, hid (Below.refl _ _)⟩
  case round =>
    obtain ⟨k, n0, rfl, rfl, hk, hD, hB⟩ := hrel
    by_cases hlt : k < n
    · obtain ⟨b, o, x, rfl, hc, _, _, hx⟩ := (HR.out.below hB.out).at hlt
      obtain ⟨b2, o2, y, rfl, hc2, _, _, hy⟩ := (HS.out.below hB.out).at hlt
      have hki : (k : Int) < (n : Int) := by omega
      go_wp2_with fail
      go_quiet ((first | (go_at_call 44; exact Calls.quiet_of_same ((impl_Times _ _ _).mono fun _ _ h => ⟨h.1, h.2.symm⟩)) | (go_at_call 43; exact Calls.quiet_of_same ((impl_Plus _ _ _).mono fun _ _ h => ⟨h.1, h.2.symm⟩))))
      go_wp2_with fail
      go_roundw
      case rel => exact ⟨k + 1, _, by go_num, rfl, by omega, hid (dot_step (by rw [HR.out.len]; exact hlt) (by rw [HS.out.len]; exact hlt) hD.out hx.out hy.out), hid (Below.drewN' hB.out _)⟩
      case measure => simp [intOf]; omega
    · obtain rfl : k = n := by omega
      go_wp2_with fail
      go_ret
      exact ⟨ret_i (by have h1 := HR.out.len; have h2 := HS.out.len; rw [hD.out, List.take_of_length_le (by omega), List.take_of_length_le (by omega)]), hB.out⟩
set_option maxHeartbeats 1000000 in
theorem spec_dot (ao : Option Addr) (n c : Nat) (xs : List Int) (bo : Option Addr) (d : Nat) (ys : List Int) (w : World) (hr : Rd w ao n c xs) (hs : Rd w bo n d ys) :
    Calls Try.prog 71 #[.slice ao n c, .slice bo n d] w fun e w' => e = .returned (.int .i64 (M.dotL xs ys)) ∧ Below w.heap.size w w' := by
  have hn : n ≤ 9223372036854775807 := Nat.le_trans hr.cap hr.max
  have HR := hid hr
  have HS := hid hs
  clear hr hs
  go_enter Try.func71, Try.ntmps71
  go_wp2_with fail
  go_loopw [5, 6] (fun t i wr => ∃ (k : Nat) (n0 : Int), i = .int .i64 k ∧ t = .int .i64 n0 ∧ k ≤ n ∧ Hid (n0 = M.dotL (xs.take k) (ys.take k)) ∧ Hid (Below w.heap.size w wr)) (fun _ i _ => n - (intOf i).toNat)
  case atStart => exact ⟨0, 0, rfl, rfl, Nat.zero_le _, hid rfl, hid (Below.refl _ _)⟩
  case round =>
    obtain ⟨k, n0, rfl, rfl, hk, hD, hB⟩ := hrel
    by_cases hlt : k < n
    · obtain ⟨b, o, x, rfl, hc, _, _, hx⟩ := (HR.out.below hB.out).at hlt
      obtain ⟨b2, o2, y, rfl, hc2, _, _, hy⟩ := (HS.out.below hB.out).at hlt
      have hki : (k : Int) < (n : Int) := by omega
      go_wp2_with fail
      go_quiet ((first | (go_at_call 50; exact Calls.quiet_of_same ((spec_Times _ _ _).mono fun _ _ h => ⟨h.1, h.2.symm⟩)) | (go_at_call 62; exact Calls.quiet_of_same ((spec_Plus _ _ _).mono fun _ _ h => ⟨h.1, h.2.symm⟩))))
      go_wp2_with fail
      go_roundw
      case rel => exact ⟨k + 1, _, by go_num, rfl, by omega, hid (dot_step (by rw [HR.out.len]; exact hlt) (by rw [HS.out.len]; exact hlt) hD.out hx.out hy.out), hid (Below.drewN' hB.out _)⟩
      case measure => simp [intOf]; omega
    · obtain rfl : k = n := by omega
      go_wp2_with fail
      go_ret
      exact ⟨ret_i (by have h1 := HR.out.len; have h2 := HS.out.len; rw [hD.out, List.take_of_length_le (by omega), List.take_of_length_le (by omega)]), hB.out⟩
set_option maxHeartbeats 1000000 in
theorem impl_powers (k : Int) (ao : Option Addr) (n c : Nat) (xs : List Int) (w : World) (cb : Nat) (hcb : w.cell? ⟨cb, 0, none⟩ = some (.slice ao n c)) (hr : Rd w ao n c xs) (hk : -1 ≤ k ∧ k ≤ 100) (hn8 : n ≤ 8) :
    Calls Try.prog 36 #[.int .i64 k, .pointer (some ⟨cb, 0, none⟩)] w fun e w' => ∃ ao' n' c', e = .returned (.slice ao' n' c') ∧ n = n' ∧ NewInts w w' (powL xs k) ao' n' c' := by
  have HR := hid hr
  obtain ⟨k0, k1⟩ := hk
  have hcl := World.block_lt_of_cell? w _ hcb
  simp only at hcl
  clear hr
  go_enter Try.func36, Try.ntmps36
  go_wp2_with fail
  go_loopw [4, 6, 10] (fun v _ i wr => ∃ (j : Nat), i = .int .i64 j ∧ j ≤ n ∧ Hid (Ow wr w.heap.size v j ((powL xs k).take j)) ∧ Hid (Below w.heap.size w wr)) (fun _ _ i _ => n - (intOf i).toNat)
  case atStart => exact ⟨0, rfl, Nat.zero_le _, hid (Ow.empty _ _ (Nat.le_refl _)), hid (below_new _ _)⟩
  case round =>
    obtain ⟨j, rfl, hj, hO, hB⟩ := hrel
    by_cases hlt : j < n
    · obtain ⟨b, o, y, rfl, hc, _, _, hy⟩ := (HR.out.below hB.out).at hlt
      have hki : (j : Int) < (n : Int) := by omega
      go_wp2_with fail
      refine (impl_Power y k _ ⟨by omega, by omega⟩).mono ?_
      generalize hq : M.powr y k = q
      have HQ := hid hq
      clear hq
      rintro e w' ⟨rfl, rfl⟩
      go_wp2_with (at_builtin; (refine wpList_append_int _ rfl _ _ rfl w.heap.size _ _ _ rfl (hO.out.alloc _) _ q rfl (cell_one _ _ _) (by rw [← HQ.out]; exact I64.num (M.num_powr _ _)) (by omega) (by have := hB.out.size; simp; omega) ?_); intro v' w3 hO3 hG3)
      have O3 := hid hO3
      have B3 := hid ((hB.out.alloc hB.out.size _).grown hG3 (by have := hB.out.size; simp; omega) (fun j hj => (hO.out.lt j hj).1))
      clear hO3 hG3
      go_wp2_with fail
      go_roundw
      case rel => exact ⟨j + 1, by go_num, by omega, hid (by rw [powL_step (by rw [HR.out.len]; exact hlt) hy.out, HQ.out]; exact O3.out), B3⟩
      case measure => simp [intOf]; omega
    · obtain rfl : j = n := by omega
      have HL := hid (show (powL xs k).take j = powL xs k from List.take_of_length_le (by rw [powL_len, HR.out.len]; exact Nat.le_refl _))
      go_wp2_with fail
      go_ret
      obtain ⟨ao', c', e1, h1⟩ := hO.out.fr
      cases e1
      exact ⟨_, _, _, rfl, rfl, HL.out ▸ h1, hB.out⟩
set_option maxHeartbeats 1000000 in
theorem spec_powers (k : Int) (ao : Option Addr) (n c : Nat) (xs : List Int) (w : World)  (hr : Rd w ao n c xs) (hk : -1 ≤ k ∧ k ≤ 100) (hn8 : n ≤ 8) :
    Calls Try.prog 70 #[.slice ao n c, .int .i64 k] w fun e w' => ∃ ao' n' c', e = .returned (.slice ao' n' c') ∧ n = n' ∧ NewInts w w' (powL xs k) ao' n' c' := by
  have HR := hid hr
  obtain ⟨k0, k1⟩ := hk
  clear hr
  go_enter Try.func70, Try.ntmps70
  go_wp2_with fail
  go_loopw [5, 6] (fun v i wr => ∃ (j : Nat), i = .int .i64 j ∧ j ≤ n ∧ Hid (Ow wr w.heap.size v j ((powL xs k).take j)) ∧ Hid (Below w.heap.size w wr)) (fun _ i _ => n - (intOf i).toNat)
  case atStart => exact ⟨0, rfl, Nat.zero_le _, hid (Ow.empty _ _ (Nat.le_refl _)), hid (below_new _ _)⟩
  case round =>
    obtain ⟨j, rfl, hj, hO, hB⟩ := hrel
    by_cases hlt : j < n
    · obtain ⟨b, o, y, rfl, hc, _, _, hy⟩ := (HR.out.below hB.out).at hlt
      have hki : (j : Int) < (n : Int) := by omega
      go_wp2_with fail
      refine (spec_Power y k _ ⟨by omega, by omega⟩).mono ?_
      generalize hq : M.powr y k = q
      have HQ := hid hq
      clear hq
      rintro e w' ⟨rfl, rfl⟩
      go_wp2_with (at_builtin; (refine wpList_append_int _ rfl _ _ rfl w.heap.size _ _ _ rfl (hO.out.alloc _) _ q rfl (cell_one _ _ _) (by rw [← HQ.out]; exact I64.num (M.num_powr _ _)) (by omega) (by have := hB.out.size; simp; omega) ?_); intro v' w3 hO3 hG3)
      have O3 := hid hO3
      have B3 := hid ((hB.out.alloc hB.out.size _).grown hG3 (by have := hB.out.size; simp; omega) (fun j hj => (hO.out.lt j hj).1))
      clear hO3 hG3
      go_wp2_with fail
      go_roundw
      case rel => exact ⟨j + 1, by go_num, by omega, hid (by rw [powL_step (by rw [HR.out.len]; exact hlt) hy.out, HQ.out]; exact O3.out), B3⟩
      case measure => simp [intOf]; omega
    · obtain rfl : j = n := by omega
      have HL := hid (show (powL xs k).take j = powL xs k from List.take_of_length_le (by rw [powL_len, HR.out.len]; exact Nat.le_refl _))
      go_wp2_with fail
      go_ret
      obtain ⟨ao', c', e1, h1⟩ := hO.out.fr
      cases e1
      exact ⟨_, _, _, rfl, rfl, HL.out ▸ h1, hB.out⟩
set_option maxHeartbeats 1000000 in
theorem spec_l6Column (S j : Nat) (a1 : Option Addr) (n1 c1 : Nat) (A : List Int) (v2 : Value) (w : World) (h1 : Rd w a1 n1 c1 A) (e1 : n1 = S * S) (hj : j < S) (hS : S ≤ 8) :
    Calls Try.prog 73 #[.agg #[.int .i64 S, .slice a1 n1 c1, v2], .int .i64 j] w fun e w' => ∃ ao n c, e = .returned (.slice ao n c) ∧ S = n ∧ NewInts w w' (colL A S j) ao n c := by
  have H1 := hid h1
  have E1 := hid e1
  have S0 := hid (St.first w #[.int .i64 S, .slice a1 n1 c1, v2] 27)
  clear h1 e1
  go_enter Try.func73, Try.ntmps73
  go_wp2_with fail
  go_loopw [5, 6] (fun v i wr => ∃ (k : Nat), i = .int .i64 k ∧ k ≤ S ∧ Hid (Ow wr (w.heap.size + 1) v k ((colL A S j).take k)) ∧ Hid (St w wr #[.int .i64 S, .slice a1 n1 c1, v2] 27)) (fun _ i _ => S - (intOf i).toNat)
  case atStart => exact ⟨0, rfl, Nat.zero_le _, hid (by have h := Ow.empty (w.alloc (.cells #[.int .i64 S, .slice a1 n1 c1, v2] 27)) (w.heap.size + 1) (by simp); rw [World.size_alloc] at h; exact h), hid (S0.out.alloc _)⟩
  case round =>
    obtain ⟨k, rfl, hk, hO, hS1⟩ := hrel
    obtain ⟨⟨q0, q1, q2⟩, _⟩ := blk3 hS1.out.box
    have z2 := hS1.out.size
    by_cases hlt : k < S
    · have hki : (k : Int) < (S : Int) := by omega
      obtain ⟨f1, f2, f3, f4, f5⟩ := at_facts E1.out H1.out.cap hlt hj hS
      obtain ⟨b, o, x, rfl, hc, x1, x2, hx⟩ := (H1.out.below hS1.out.below).at f5
      have HX := hid (show x = A.getD (k * S + j) 0 from hx.out)
      go_wp2_with (at_builtin; (refine wpList_append_int _ rfl _ _ rfl (w.heap.size + 1) _ _ _ rfl (hO.out.alloc _) _ x rfl (cell_one _ _ _) ⟨x1, x2⟩ (by omega) (by simp; omega) ?_); intro v' w3 hO3 hG3)
      have O3 := hid hO3
      have S3 := hid ((hS1.out.alloc _).grown hG3 (fun j hj => by have := hO.out.lt j hj; omega))
      clear hO3 hG3
      go_wp2_with fail
      go_roundw
      case rel => exact ⟨k + 1, by go_num, by omega, hid (by rw [colL_step hlt HX.out]; exact O3.out), S3⟩
      case measure => simp [intOf]; omega
    · obtain rfl : k = S := by omega
      have HL := hid (show (colL A k j).take k = colL A k j from List.take_of_length_le (by rw [colL_len]; exact Nat.le_refl _))
      go_wp2_with fail
      go_ret
      obtain ⟨ao', c', e1, h1⟩ := hO.out.fr
      cases e1
      exact ⟨_, _, _, rfl, rfl, HL.out ▸ h1.mono (by omega), hS1.out.below⟩
end Go.Proofs.Ythebegfceaehfaa
