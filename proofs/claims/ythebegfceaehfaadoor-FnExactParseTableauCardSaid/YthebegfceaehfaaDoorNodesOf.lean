/- NodesOf; appends to a slice of ints of the call's own. -/
import Derived.Test.YthebegfceaehfaaDoorKind
import Derived.Test.YthebegfceaehfaaDoorNodes
namespace Go.Proofs.YthebegfceaehfaaDoor
open Go.RowKit

/-- A slice of ints of the call's own, to which it appends. -/
def Ow (w : World) (base : Nat) (v : Value) (n : Nat) (xs : List Int) : Prop := w.ownsRow base 3 1 v n (xs.map (Value.int .i64)) ∧ ∀ x ∈ xs, I64 x
theorem Ow.nil (w : World) (base : Nat) : Ow w base (.slice none 0 0) 0 [] := ⟨World.ownsRow_nil _ _ _ _, fun x hx => by cases hx⟩
theorem Ow.empty (w : World) (base : Nat) (hb : base ≤ w.heap.size) : Ow (w.alloc (.cells #[] 3)) base (.slice (some ⟨w.heap.size, 0, none⟩) 0 0) 0 [] :=
  ⟨World.ownsRow_made w #[] 0 hb (by unfold maxLen; omega) (by simp), fun x hx => by cases hx⟩
theorem Ow.alloc {w : World} {base : Nat} {v : Value} {n : Nat} {xs : List Int} (h : Ow w base v n xs) (o : Obj) : Ow (w.alloc o) base v n xs := ⟨h.1.alloc o, h.2⟩
theorem Ow.lt {w : World} {base : Nat} {v : Value} {n : Nat} {xs : List Int} (h : Ow w base v n xs) : ∀ k, v.ownBlock = some k → base ≤ k ∧ k < w.heap.size := h.1.lt
theorem Ow.below {w w' : World} {base : Nat} {v : Value} {n : Nat} {xs : List Int} (h : Ow w base v n xs) (hb : Below w.heap.size w w') : Ow w' base v n xs :=
  ⟨h.1.kept (row := none) ⟨hb.os, hb.tape, hb.output, hb.size, fun k hk _ => hb.block k hk⟩ (by cases v.ownBlock <;> simp), h.2⟩
theorem Ow.grown {w w' : World} {base : Nat} {v : Value} {n : Nat} {xs : List Int} (h : Ow w base v n xs) {r : Option Nat} (hg : w.grownBy w' r) (hne : v.ownBlock = none ∨ v.ownBlock ≠ r) : Ow w' base v n xs := ⟨h.1.kept hg hne, h.2⟩
theorem Ow.drew {w : World} {base : Nat} {v : Value} {n : Nat} {xs : List Int} (h : Ow w base v n xs) : Ow w.drew base v n xs := ⟨h.1.drew, h.2⟩
theorem Ow.fr {w : World} {base : Nat} {v : Value} {n : Nat} {xs : List Int} (h : Ow w base v n xs) : ∃ ao c, v = .slice ao n c ∧ Fr w base ao n c xs := Fr.of_owns h.1 h.2
theorem Ow.len {w : World} {base : Nat} {v : Value} {n : Nat} {xs : List Int} (h : Ow w base v n xs) : xs.length = n := by simpa using h.1.1
theorem cell_one (w : World) (v : Value) (t : TypeId) : (w.alloc (.cells #[v] t)).cell? ⟨w.heap.size, 0, none⟩ = some v := by simp
/-- 'out = append(out, y)'. -/
theorem wpList_append_int (w : World) {ops : Array Oper} {rest : List Oper} {o : Oper} {a : Act} {Q : Exit → Act → World → Prop} (hg : o.guard = none) (s x : Operand)
    (hop : o.op = .call { callee := .builtin .append, args := #[s, x], argTypes := #[22, 22] }) (base : Nat) (v : Value) (n : Nat) (xs : List Int) (hs : a.eval s = v) (hown : Ow w base v n xs)
    (b : Nat) (y : Int) (hx : a.eval x = .slice (some ⟨b, 0, none⟩) 1 1) (hc : w.cell? ⟨b, 0, none⟩ = some (.int .i64 y)) (hy : I64 y) (hn : n ≤ 4194304) (hbase : base ≤ w.heap.size)
    (h : ∀ v' w', Ow w' base v' (n + 1) (xs ++ [y]) → w.grownBy w' v.ownBlock → wpList Tryd.prog ops Q rest (a.put o.dst v') w') : wpList Tryd.prog ops Q (o :: rest) a w := by
  obtain ⟨i, hi, hz0, hz1, hz2⟩ := info_parts info_int
  refine wpList_append_own w hg s x 22 hop base 3 i (.int .i64 0) 1 8 Tryd.underlying22 hi hz0 hz1 hz2 rfl (by decide) v n (xs.map (Value.int .i64)) hs hown.1 ⟨b, 0, none⟩ 1 1 [.int .i64 y] hx rfl
    (fun j u hj => ?_) (fun u hu => ?_) (by unfold maxLen; omega) (by omega) hbase (fun v' w' h1 h2 _ => h v' w' ⟨by rw [List.map_append]; exact h1, fun z hz => ?_⟩ h2)
  · match j, hj with
    | 0, hj => simp only [List.getElem?_cons_zero, Option.some.injEq] at hj; subst hj; simpa [Addr.add] using hc
  · simp only [List.mem_cons, List.not_mem_nil, or_false] at hu; subst hu; rfl
  · rcases List.mem_append.1 hz with h3 | h3
    · exact hown.2 z h3
    · simp only [List.mem_cons, List.not_mem_nil, or_false] at h3; exact h3 ▸ hy

def nodesL (A : List Int) (S k : Nat) : List Int := (List.range k).map fun i => M.sumL (rowL A S i)
theorem nodesL_succ (A : List Int) (S k : Nat) : nodesL A S (k + 1) = nodesL A S k ++ [M.sumL (rowL A S k)] := by simp [nodesL, List.range_succ]
def nodesV (s : Int) (A B : List Int) : List Int := if tabOk s A B then nodesL A s.toNat s.toNat else []
theorem NewInts.of {w w' : World} {v : Value} {base n : Nat} {xs : List Int} (h : Ow w' base v n xs) (hb : w.heap.size ≤ base) (hB : Below w.heap.size w w') : ∃ ao n c, Ending.returned v = .returned (.slice ao n c) ∧ NewInts w w' xs ao n c := by
  obtain ⟨ao, c, rfl, hF⟩ := h.fr
  exact ⟨ao, n, c, rfl, hF.mono hb, hB⟩

theorem NewInts.some {w w' : World} {xs : List Int} {ao : Option Addr} {n c : Nat} (h : NewInts w w' xs ao n c) : xs.length = n := h.1.rd.len
theorem nodesV_len (s : Int) (A B : List Int) : (nodesV s A B).length ≤ 8 := by
  cases hok : tabOk s A B with
  | false => rw [show nodesV s A B = [] by unfold nodesV; rw [hok]; rfl]; exact Nat.zero_le _
  | true =>
    obtain ⟨S, rfl, hS, _⟩ := tabOk_parts hok rfl rfl
    rw [show nodesV S A B = nodesL A S S by unfold nodesV; rw [hok]; rfl]
    simpa [nodesL] using hS
end Go.Proofs.YthebegfceaehfaaDoor
