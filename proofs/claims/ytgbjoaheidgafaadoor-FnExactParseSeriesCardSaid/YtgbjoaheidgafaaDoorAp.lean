/- Appends to a slice of ints of the call's own; a tableau whose fields are appended to. -/
import Derived.Test.YtgbjoaheidgafaaDoorMk
import Derived.Maps.AppendAt
import Derived.Test.YtgbjoaheidgafaaDoorReg
namespace Go.Proofs.YtgbjoaheidgafaaDoor
open Go.RowKit

theorem run_append_ints {w : World} {base : Nat} {v : Value} {n : Nat} {xs : List Int} (hown : Ow w base v n xs) {ao : Option Addr} {m c : Nat} {ys : List Int} (hr : Rd w ao m c ys) (hn : n + m ≤ 4194304) (hbase : base ≤ w.heap.size) (ty : TypeId) :
    ∃ v' w', (Builtin.append_ #[22, 22] ty #[v, .slice ao m c]).run Tryd.prog w = .ok v' w' ∧ Ow w' base v' (n + m) (xs ++ ys) ∧ w.grownBy w' v.ownBlock ∧ (v'.ownBlock = v.ownBlock ∨ v'.ownBlock = some w.heap.size) := by
  obtain ⟨i, hi, hz0, hz1, hz2⟩ := info_parts info_int
  cases ao with
  | none =>
    have hm : m = 0 := by
      rcases Nat.eq_zero_or_pos m with h | h
      · exact h
      · obtain ⟨_, _, e, _⟩ := hr.cell 0 h; cases e
    subst hm
    obtain rfl : ys = [] := List.eq_nil_of_length_eq_zero hr.len
    refine ⟨v, w, ?_, by simpa using hown, World.grownBy.refl _ _, .inl rfl⟩
    have ht := Tryd.underlying22
    rcases hown.1.2 with ⟨rfl, rfl⟩ | ⟨g, cap, cur, rfl, _, _, hnc, _⟩
    · simp [Builtin.append_, run_underlying ht, sizeOf, typeInfo, hi, Builtin.lenOf, Builtin.firstCells]
    · simp [Builtin.append_, run_underlying ht, sizeOf, typeInfo, hi, Builtin.lenOf, Builtin.firstCells, hnc, storeCells]
  | some x =>
    have hnews : ∀ j u, (ys.map (Value.int .i64))[j]? = some u → w.cell? (x.add j) = some u := by
      intro j u hj
      have hj' : j < ys.length := by
        have := (List.getElem?_eq_some_iff.1 hj).1
        simpa using this
      obtain ⟨b, o, e, hc⟩ := hr.cell j (by rw [← hr.len]; exact hj')
      simp only [Option.some.injEq] at e
      subst e
      rw [Addr.add_lit, hc]
      rw [List.getElem?_map] at hj
      simpa [List.getD, hj'] using hj
    have hone : ∀ u ∈ ys.map (Value.int .i64), u.oneCell' = true := by
      intro u hu
      obtain ⟨_, _, rfl⟩ := List.mem_map.1 hu
      rfl
    obtain ⟨v', w', h1, h2, h3, _, h5⟩ := run_append_own_at (P := Tryd.prog) w base 22 ty 3 i (.int .i64 0) 1 8 Tryd.underlying22 hi hz0 hz1 hz2 rfl (by decide) v n (xs.map (Value.int .i64)) hown.1 x m c (ys.map (Value.int .i64))
      (by rw [List.length_map, hr.len, Nat.mul_one]) hnews hone (by unfold maxLen; omega) (by omega) hbase
    exact ⟨v', w', h1, ⟨by rw [List.map_append]; exact h2, fun z hz => (List.mem_append.1 hz).elim (hown.2 z) (hr.wf z)⟩, h3, h5⟩
/-- 'append(s, x...)', s of the call's own. -/
theorem wpList_append_ints (w : World) {ops : Array Oper} {rest : List Oper} {o : Oper} {a : Act} {Q : Exit → Act → World → Prop} (hg : o.guard = none) (s x : Operand)
    (hop : o.op = .call { callee := .builtin .append, args := #[s, x], argTypes := #[22, 22] }) (base : Nat) (v : Value) (n : Nat) (xs : List Int) (hs : a.eval s = v) (hown : Ow w base v n xs)
    (ao : Option Addr) (m c : Nat) (ys : List Int) (hx : a.eval x = .slice ao m c) (hr : Rd w ao m c ys) (hn : n + m ≤ 4194304) (hbase : base ≤ w.heap.size)
    (h : ∀ ao' c' w', Ow w' base (.slice ao' (n + m) c') (n + m) (xs ++ ys) → w.grownBy w' v.ownBlock → ((Value.slice ao' (n + m) c').ownBlock = v.ownBlock ∨ (Value.slice ao' (n + m) c').ownBlock = some w.heap.size) → wpList Tryd.prog ops Q rest (a.put o.dst (.slice ao' (n + m) c')) w') : wpList Tryd.prog ops Q (o :: rest) a w :=
  wpList_plain hg fun _ hK => by
    obtain ⟨v', w', hr, h2, h3, h4⟩ := run_append_ints hown hr hn hbase o.type
    obtain ⟨ao', c', rfl, _⟩ := h2.fr
    unfold Oper.wp execOp
    simp only [hop, resolve, invoke, builtin, Sem.run_bind, Sem.run_pure, Result.andThen_ok, List.map_toArray, List.map_cons, List.map_nil, hs, hx, hr]
    exact hK _ _ (h _ _ w' h2 h3 h4)
/-- The same at a step of a region that draws its order. -/
theorem step_append_ints {w : World} {ops : Array Oper} {o : Oper} {a : Act} {K : Act → World → Prop} {Q : Exit → Act → World → Prop} {E : Prop} (hg : o.guard = none) (s x : Operand)
    (hop : o.op = .call { callee := .builtin .append, args := #[s, x], argTypes := #[22, 22] }) (base : Nat) (v : Value) (n : Nat) (xs : List Int) (hs : a.eval s = v) (hown : Ow w base v n xs)
    (ao : Option Addr) (m c : Nat) (ys : List Int) (hx : a.eval x = .slice ao m c) (hr : Rd w ao m c ys) (hn : n + m ≤ 4194304) (hbase : base ≤ w.heap.size)
    (h : ∀ ao' c' w', Ow w' base (.slice ao' (n + m) c') (n + m) (xs ++ ys) → w.grownBy w' v.ownBlock → ((Value.slice ao' (n + m) c').ownBlock = v.ownBlock ∨ (Value.slice ao' (n + m) c').ownBlock = some w.heap.size) → K (a.put o.dst (.slice ao' (n + m) c')) w') :
    if Region.wanted o (yielded ops a.tmps) = true then Oper.wp Tryd.prog o a w K Q else E := by
  have hw : Region.wanted o (yielded ops a.tmps) = true := by simp [Region.wanted, hg]
  rw [if_pos hw]
  obtain ⟨v', w', hr, h2, h3, h4⟩ := run_append_ints hown hr hn hbase o.type
  obtain ⟨ao', c', rfl, _⟩ := h2.fr
  unfold Oper.wp execOp
  simp only [hop, resolve, invoke, builtin, Sem.run_bind, Sem.run_pure, Result.andThen_ok, List.map_toArray, List.map_cons, List.map_nil, hs, hx, hr]
  exact h _ _ w' h2 h3 h4
theorem rd_one (w : World) (y : Int) (t : TypeId) (hy : I64 y) : Rd (w.alloc (.cells #[.int .i64 y] t)) (some ⟨w.heap.size, 0, none⟩) 1 1 [y] := by
  refine ⟨rfl, Nat.le_refl _, by omega, fun i hi => ⟨_, 0, rfl, ?_⟩, fun x hx => by simp only [List.mem_cons, List.not_mem_nil, or_false] at hx; exact hx ▸ hy⟩
  obtain rfl : i = 0 := by omega
  simp

section
variable {ob : Nat} {W1 wr : World} {S vA vB : Value} {nA nB : Nat} {XA XB : List Int}
theorem ow_setCell {w : World} {base : Nat} {v : Value} {n : Nat} {xs : List Int} (h : Ow w base v n xs) {b k : Nat} (hb : b < base) (u : Value) : Ow (w.setCell ⟨b, k, none⟩ u) base v n xs := ⟨ownsRow_setCell_below h.1 hb u, h.2⟩
end
end Go.Proofs.YtgbjoaheidgafaaDoor
