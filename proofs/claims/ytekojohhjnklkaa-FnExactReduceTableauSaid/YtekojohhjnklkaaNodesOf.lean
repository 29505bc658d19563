/- NodesOf; appends to a slice of ints of the call's own. -/
import Derived.Test.YtekojohhjnklkaaKind
import Derived.Test.YtekojohhjnklkaaNodes
namespace Go.Proofs.Ytekojohhjnklkaa
open Go.RowKit

/-- A slice of ints of the call's own, to which it appends. -/
def Ow (w : World) (base : Nat) (v : Value) (n : Nat) (xs : List Int) : Prop := w.ownsRow base 3 1 v n (xs.map (Value.int .i64)) ∧ ∀ x ∈ xs, I64 x
theorem Ow.nil (w : World) (base : Nat) : Ow w base (.slice none 0 0) 0 [] := ⟨World.ownsRow_nil _ _ _ _, fun x hx => by cases hx⟩
theorem Ow.empty (w : World) (base : Nat) (hb : base ≤ w.heap.size) : Ow (w.alloc (.cells #[] 3)) base (.slice (some ⟨w.heap.size, 0, none⟩) 0 0) 0 [] :=
  ⟨World.ownsRow_made w #[] 0 hb (by unfold maxLen; omega) (by simp), fun x hx => by cases hx⟩
theorem Ow.alloc {w : World} {base : Nat} {v : Value} {n : Nat} {xs : List Int} (h : Ow w base v n xs) (o : Obj) : Ow (w.alloc o) base v n xs := ⟨h.1.alloc o, h.2⟩
theorem Ow.lt {w : World} {base : Nat} {v : Value} {n : Nat} {xs : List Int} (h : Ow w base v n xs) : ∀ k, v.ownBlock = some k → base ≤ k ∧ k < w.heap.size := h.1.lt
theorem Ow.below {w w' : World} {base : Nat} {v : Value} {n : Nat} {xs : List Int} (h : Ow w base v n xs) (hb : Below w.heap.size w w') : Ow w' base v n xs :=
  ⟨h.1.kept (row := none) ⟨hb.os, hb.tape, hb.output, hb.size, fun k hk _ => hb.block k hk⟩ (by cases v.ownBlock <;> simp), h.2⟩
theorem Ow.grown {w w' : World} {base : Nat} {v : Value} {n : Nat} {xs : List Int} (h : Ow w base v n xs) {r : Option Nat} (hg : w.grownBy w' r) (hne : v.ownBlock = none ∨ v.ownBlock ≠ r) : Ow w' base v n xs := ⟨h.1.kept hg hne, h.2⟩
theorem Ow.drew {w : World} {base : Nat} {v : Value} {n : Nat} {xs : List Int} (h : Ow w base v n xs) : Ow w.drew base v n xs := ⟨h.1.drew, h.2⟩
theorem Ow.fr {w : World} {base : Nat} {v : Value} {n : Nat} {xs : List Int} (h : Ow w base v n xs) : ∃ ao c, v = .slice ao n c ∧ Fr w base ao n c xs := Fr.of_owns h.1 h.2
theorem Ow.len {w : World} {base : Nat} {v : Value} {n : Nat} {xs : List Int} (h : Ow w base v n xs) : xs.length = n := by simpa using h.1.1
theorem cell_one (w : World) (v : Value) (t : TypeId) : (w.alloc (.cells #[v] t)).cell? ⟨w.heap.size, 0, none⟩ = some v := by simp
/-- 'out = append(out, y)'. -/
theorem wpList_append_int (w : World) {ops : Array Oper} {rest : List Oper} {o : Oper} {a : Act} {Q : Exit → Act → World → Prop} (hg : o.guard = none) (s x : Operand)
    (hop : o.op = .call { callee := .builtin .append, args := #[s, x], argTypes := #[22, 22] }) (base : Nat) (v : Value) (n : Nat) (xs : List Int) (hs : a.eval s = v) (hown : Ow w base v n xs)
    (b : Nat) (y : Int) (hx : a.eval x = .slice (some ⟨b, 0, none⟩) 1 1) (hc : w.cell? ⟨b, 0, none⟩ = some (.int .i64 y)) (hy : I64 y) (hn : n ≤ 4194304) (hbase : base ≤ w.heap.size)
    (h : ∀ v' w', Ow w' base v' (n + 1) (xs ++ [y]) → w.grownBy w' v.ownBlock → wpList Try.prog ops Q rest (a.put o.dst v') w') : wpList Try.prog ops Q (o :: rest) a w := by
  obtain ⟨i, hi, hz0, hz1, hz2⟩ := info_parts info_int
  refine wpList_append_own w hg s x 22 hop base 3 i (.int .i64 0) 1 8 Try.underlying22 hi hz0 hz1 hz2 rfl (by decide) v n (xs.map (Value.int .i64)) hs hown.1 ⟨b, 0, none⟩ 1 1 [.int .i64 y] hx rfl
    (fun j u hj => ?_) (fun u hu => ?_) (by unfold maxLen; omega) (by omega) hbase (fun v' w' h1 h2 _ => h v' w' ⟨by rw [List.map_append]; exact h1, fun z hz => ?_⟩ h2)
  · match j, hj with
    | 0, hj => simp only [List.getElem?_cons_zero, Option.some.injEq] at hj; subst hj; simpa [Addr.add] using hc
  · simp only [List.mem_cons, List.not_mem_nil, or_false] at hu; subst hu; rfl
  · rcases List.mem_append.1 hz with h3 | h3
    · exact hown.2 z h3
    · simp only [List.mem_cons, List.not_mem_nil, or_false] at h3; exact h3 ▸ hy

def nodesL (A : List Int) (S k : Nat) : List Int := (List.range k).map fun i => M.sumL (rowL A S i)
theorem nodesL_succ (A : List Int) (S k : Nat) : nodesL A S (k + 1) = nodesL A S k ++ [M.sumL (rowL A S k)] := by simp [nodesL, List.range_succ]
def nodesV (s : Int) (A B : List Int) : List Int := if tabOk s A B then nodesL A s.toNat s.toNat else []
theorem NewInts.of {w w' : World} {v : Value} {base n : Nat} {xs : List Int} (h : Ow w' base v n xs) (hb : w.heap.size ≤ base) (hB : Below w.heap.size w w') : ∃ ao n c, Ending.returned v = .returned (.slice ao n c) ∧ NewInts w w' xs ao n c := by
  obtain ⟨ao, c, rfl, hF⟩ := h.fr
  exact ⟨ao, n, c, rfl, hF.mono hb, hB⟩

theorem impl_NodesOf_no (s : Int) (a1 : Option Addr) (n1 c1 : Nat) (A : List Int) (a2 : Option Addr) (n2 c2 : Nat) (B : List Int) (w : World) (h1 : Rd w a1 n1 c1 A) (h2 : Rd w a2 n2 c2 B) (hno : tabOk s A B = false) :
    Calls Try.prog 32 #[.agg #[.int .i64 s, .slice a1 n1 c1, .slice a2 n2 c2]] w fun e w' => ∃ ao n c, e = .returned (.slice ao n c) ∧ NewInts w w' [] ao n c := by
  have HN := hid hno
  have S0 := hid (St.first w #[.int .i64 s, .slice a1 n1 c1, .slice a2 n2 c2] 27)
  go_enter Try.func32, Try.ntmps32
  go_wp2_with fail
  refine (impl_TableauOk _ _ _ _ A _ _ _ B _ (h1.alloc _) (h2.alloc _)).mono ?_
  rw [HN.out]
  rintro e w1 ⟨rfl, hB⟩
  have S1 := hid (S0.out.step hB)
  clear hB
  go_wp2_with fail
  go_ret
  exact ⟨_, _, _, rfl, Fr.none _ _, S1.out.below⟩
theorem impl_NodesOf_yes (S : Nat) (a1 : Option Addr) (n1 c1 : Nat) (A : List Int) (a2 : Option Addr) (n2 c2 : Nat) (B : List Int) (w : World) (h1 : Rd w a1 n1 c1 A) (h2 : Rd w a2 n2 c2 B) (hok : tabOk S A B = true) (e1 : n1 = S * S) (e2 : n2 = S) (hS : S ≤ 8) :
    Calls Try.prog 32 #[.agg #[.int .i64 S, .slice a1 n1 c1, .slice a2 n2 c2]] w fun e w' => ∃ ao n c, e = .returned (.slice ao n c) ∧ NewInts w w' (nodesL A S S) ao n c := by
  have HN := hid hok
  have S0 := hid (St.first w #[.int .i64 S, .slice a1 n1 c1, .slice a2 n2 c2] 27)
  have H1 := hid h1
  have H2 := hid h2
  have E1 := hid e1
  subst e2
  clear h1 h2 hok e1
  go_enter Try.func32, Try.ntmps32
  go_wp2_with fail
  refine (impl_TableauOk _ _ _ _ A _ _ _ B _ (H1.out.alloc _) (H2.out.alloc _)).mono ?_
  rw [HN.out]
  rintro e w1 ⟨rfl, hB⟩
  have S1 := hid (S0.out.step hB)
  obtain ⟨⟨q0, q1, q2⟩, _⟩ := blk3 S1.out.box
  have z1 : w.heap.size < w1.heap.size := S1.out.size
  clear hB
  go_wp2_with fail
  clear q0 q1 q2
  go_loopw [3, 4, 12] (fun v _ i wr => ∃ k : Nat, i = .int .i64 k ∧ k ≤ n2 ∧ Hid (Ow wr (w.heap.size + 1) v k (nodesL A n2 k)) ∧ Hid (St w wr #[.int .i64 n2, .slice a1 n1 c1, .slice a2 n2 c2] 27)) (fun _ _ i _ => n2 - (intOf i).toNat)
  case atStart => exact ⟨0, rfl, Nat.zero_le _, hid (Ow.empty _ _ (by omega)), hid (S1.out.alloc _)⟩
  case round =>
    obtain ⟨k, rfl, hk, hO, hS1⟩ := hrel
    obtain ⟨wo, rfl⟩ : ∃ wo : World, wo = wr := ⟨_, rfl⟩
    obtain ⟨⟨q0, q1, q2⟩, _⟩ := blk3 hS1.out.box
    by_cases hlt : k < n2
    · obtain ⟨b, o, x, rfl, _, _, _, _⟩ := H1.out.at (k := 0) (by rw [E1.out]; exact Nat.mul_pos (by omega) (by omega))
      go_wp2_with fail
      refine (impl_row n2 k b o _ _ _ _ E1.out H1.out.cap H1.out.max hlt hS).mono ?_
      rintro e w2 ⟨rfl, hB⟩
      have S2 := hid (hS1.out.step hB)
      have O2 := hid (hO.out.below hB)
      clear hB q0 q1 q2
      go_wp2_with fail
      refine (impl_sum _ _ _ (rowL A n2 k) _ ((H1.out.below S2.out.below).row E1.out hlt)).mono ?_
      generalize hy : M.sumL (rowL A n2 k) = y
      have HY := hid hy
      clear hy
      rintro e w2' ⟨rfl, rfl⟩
      have z2 := S2.out.size
      go_wp2_with (at_builtin; (refine wpList_append_int _ rfl _ _ rfl (w.heap.size + 1) u3 _ _ rfl (O2.out.alloc _) _ y rfl (cell_one _ _ _) (I64.num (sum_bd HY.out.symm)) (by omega) (by simp; omega) ?_); intro v' w3 hO3 hG3)
      have S3 := hid ((S2.out.alloc _).grown hG3 (fun j hj => by have := O2.out.lt j hj; omega))
      have O3 := hid hO3
      clear hO3 hG3
      go_wp2_with fail
      go_roundw
      case rel => exact ⟨k + 1, by go_num, by omega, hid (by rw [nodesL_succ, HY.out]; exact O3.out), S3⟩
      case measure => simp [intOf]; omega
    · obtain rfl : k = n2 := by omega
      go_wp2_with fail
      go_ret
      exact NewInts.of hO.out (by omega) hS1.out.below

theorem spec_NodesOf_no (s : Int) (a1 : Option Addr) (n1 c1 : Nat) (A : List Int) (a2 : Option Addr) (n2 c2 : Nat) (B : List Int) (w : World) (h1 : Rd w a1 n1 c1 A) (h2 : Rd w a2 n2 c2 B) (hno : tabOk s A B = false) :
    Calls Try.prog 31 #[.agg #[.int .i64 s, .slice a1 n1 c1, .slice a2 n2 c2]] w fun e w' => ∃ ao n c, e = .returned (.slice ao n c) ∧ NewInts w w' [] ao n c := by
  have HN := hid hno
  have H1 := hid h1
  have H2 := hid h2
  clear h1 h2 hno
  have S0 := hid ((St.first w #[.int .i64 s, .slice a1 n1 c1, .slice a2 n2 c2] 27).alloc (.cells #[] 3))
  go_enter Try.func31, Try.ntmps31
  go_wp2_with fail
  go_loopw [3, 4] (fun v i wr => i = .int .i64 0 ∧ v = .slice (some ⟨w.heap.size + 1, 0, none⟩) 0 0 ∧ Hid (St w wr #[.int .i64 s, .slice a1 n1 c1, .slice a2 n2 c2] 27)) (fun _ _ _ => 0)
  case atStart => exact ⟨rfl, rfl, S0⟩
  case round =>
    obtain ⟨rfl, rfl, hS1⟩ := hrel
    obtain ⟨⟨q0, q1, q2⟩, _⟩ := blk3 hS1.out.box
    go_wp2_with fail
    refine (spec_TableauOk _ _ _ _ A _ _ _ B _ (H1.out.below hS1.out.below) (H2.out.below hS1.out.below)).mono ?_
    rw [HN.out]
    rintro e w1 ⟨rfl, hB⟩
    have S1 := hid (hS1.out.step hB)
    clear hB q0 q1 q2
    go_wp2_with fail
    go_ret
    exact ⟨_, _, _, rfl, ⟨Rd.nil _ _ _ (by omega), fun b o s e hn => absurd hn (by omega)⟩, S1.out.below⟩
theorem spec_NodesOf_yes (S : Nat) (a1 : Option Addr) (n1 c1 : Nat) (A : List Int) (a2 : Option Addr) (n2 c2 : Nat) (B : List Int) (w : World) (h1 : Rd w a1 n1 c1 A) (h2 : Rd w a2 n2 c2 B) (hok : tabOk S A B = true) (e1 : n1 = S * S) (e2 : n2 = S) (hS : S ≤ 8) :
    Calls Try.prog 31 #[.agg #[.int .i64 S, .slice a1 n1 c1, .slice a2 n2 c2]] w fun e w' => ∃ ao n c, e = .returned (.slice ao n c) ∧ NewInts w w' (nodesL A S S) ao n c := by
  have HN := hid hok
  have H1 := hid h1
  have H2 := hid h2
  have E1 := hid e1
  subst e2
  clear h1 h2 hok e1
  have S0 := hid ((St.first w #[.int .i64 n2, .slice a1 n1 c1, .slice a2 n2 c2] 27).alloc (.cells #[] 3))
  have O0 := hid (Ow.empty (w.alloc (.cells #[.int .i64 n2, .slice a1 n1 c1, .slice a2 n2 c2] 27)) (w.heap.size + 1) (by simp))
  go_enter Try.func31, Try.ntmps31
  go_wp2_with fail
  go_loopw [3, 4] (fun v i wr => ∃ k : Nat, i = .int .i64 k ∧ k ≤ n2 ∧ Hid (Ow wr (w.heap.size + 1) v k (nodesL A n2 k)) ∧ Hid (St w wr #[.int .i64 n2, .slice a1 n1 c1, .slice a2 n2 c2] 27)) (fun _ i _ => n2 - (intOf i).toNat)
  case atStart => exact ⟨0, rfl, Nat.zero_le _, hid (by have h := O0.out; simp only [World.size_alloc] at h; exact h), S0⟩
  case round =>
    obtain ⟨k, rfl, hk, hO, hS1⟩ := hrel
    obtain ⟨wo, rfl⟩ : ∃ wo : World, wo = wr := ⟨_, rfl⟩
    obtain ⟨⟨q0, q1, q2⟩, _⟩ := blk3 hS1.out.box
    go_wp2_with fail
    refine (spec_TableauOk _ _ _ _ A _ _ _ B _ (H1.out.below hS1.out.below) (H2.out.below hS1.out.below)).mono ?_
    rw [HN.out]
    rintro e w1 ⟨rfl, hB⟩
    have S1 := hid (hS1.out.step hB)
    have O1 := hid (hO.out.below hB)
    clear hB q0 q1 q2
    obtain ⟨⟨q0, q1, q2⟩, _⟩ := blk3 S1.out.box
    by_cases hlt : k < n2
    · obtain ⟨b, o, x, rfl, _, _, _, _⟩ := H1.out.at (k := 0) (by rw [E1.out]; exact Nat.mul_pos (by omega) (by omega))
      go_wp2_with fail
      refine (spec_row n2 k b o _ _ _ _ E1.out H1.out.cap H1.out.max hlt hS).mono ?_
      rintro e w2 ⟨rfl, hB⟩
      have S2 := hid (S1.out.step hB)
      have O2 := hid (O1.out.below hB)
      clear hB q0 q1 q2
      go_wp2_with fail
      refine (spec_l6Sum _ _ _ (rowL A n2 k) _ ((H1.out.below S2.out.below).row E1.out hlt)).mono ?_
      generalize hy : M.sumL (rowL A n2 k) = y
      have HY := hid hy
      clear hy
      rintro e w2' ⟨rfl, rfl⟩
      have z2 := S2.out.size
      go_wp2_with (at_builtin; refine wpList_append_int _ rfl _ _ rfl (w.heap.size + 1) u3 _ _ rfl (O2.out.alloc _) _ y rfl (cell_one _ _ _) (I64.num (sum_bd HY.out.symm)) (by omega) (by simp; omega) ?_; intro v' w3 hO3 hG3)
      have S3 := hid ((S2.out.alloc _).grown hG3 (fun j hj => by have := O2.out.lt j hj; omega))
      have O3 := hid hO3
      clear hO3 hG3
      go_wp2_with fail
      go_roundw
      case rel => exact ⟨k + 1, by go_num, by omega, hid (by rw [nodesL_succ, HY.out]; exact O3.out), S3⟩
      case measure => simp [intOf]; omega
    · obtain rfl : k = n2 := by omega
      go_wp2_with fail
      go_ret
      exact NewInts.of O1.out (by omega) S1.out.below

theorem NewInts.some {w w' : World} {xs : List Int} {ao : Option Addr} {n c : Nat} (h : NewInts w w' xs ao n c) : xs.length = n := h.1.rd.len
theorem impl_NodesOf (s : Int) (a1 : Option Addr) (n1 c1 : Nat) (A : List Int) (a2 : Option Addr) (n2 c2 : Nat) (B : List Int) (w : World) (h1 : Rd w a1 n1 c1 A) (h2 : Rd w a2 n2 c2 B) :
    Calls Try.prog 32 #[.agg #[.int .i64 s, .slice a1 n1 c1, .slice a2 n2 c2]] w fun e w' => ∃ ao n c, e = .returned (.slice ao n c) ∧ NewInts w w' (nodesV s A B) ao n c := by
  cases hok : tabOk s A B with
  | false => rw [show nodesV s A B = [] by unfold nodesV; rw [hok]; rfl]; exact impl_NodesOf_no s a1 n1 c1 A a2 n2 c2 B w h1 h2 hok
  | true =>
    obtain ⟨S, rfl, hS, e1, e2, _⟩ := tabOk_parts hok h1.len h2.len
    rw [show nodesV S A B = nodesL A S S by unfold nodesV; rw [hok]; rfl]
    exact impl_NodesOf_yes S a1 n1 c1 A a2 n2 c2 B w h1 h2 hok e1 e2 hS
theorem spec_NodesOf (s : Int) (a1 : Option Addr) (n1 c1 : Nat) (A : List Int) (a2 : Option Addr) (n2 c2 : Nat) (B : List Int) (w : World) (h1 : Rd w a1 n1 c1 A) (h2 : Rd w a2 n2 c2 B) :
    Calls Try.prog 31 #[.agg #[.int .i64 s, .slice a1 n1 c1, .slice a2 n2 c2]] w fun e w' => ∃ ao n c, e = .returned (.slice ao n c) ∧ NewInts w w' (nodesV s A B) ao n c := by
  cases hok : tabOk s A B with
  | false => rw [show nodesV s A B = [] by unfold nodesV; rw [hok]; rfl]; exact spec_NodesOf_no s a1 n1 c1 A a2 n2 c2 B w h1 h2 hok
  | true =>
    obtain ⟨S, rfl, hS, e1, e2, _⟩ := tabOk_parts hok h1.len h2.len
    rw [show nodesV S A B = nodesL A S S by unfold nodesV; rw [hok]; rfl]
    exact spec_NodesOf_yes S a1 n1 c1 A a2 n2 c2 B w h1 h2 hok e1 e2 hS
theorem nodesV_len (s : Int) (A B : List Int) : (nodesV s A B).length ≤ 8 := by
  cases hok : tabOk s A B with
  | false => rw [show nodesV s A B = [] by unfold nodesV; rw [hok]; rfl]; exact Nat.zero_le _
  | true =>
    obtain ⟨S, rfl, hS, _⟩ := tabOk_parts hok rfl rfl
    rw [show nodesV S A B = nodesL A S S by unfold nodesV; rw [hok]; rfl]
    simpa [nodesL] using hS
end Go.Proofs.Ytekojohhjnklkaa
