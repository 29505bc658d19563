/- Appends to a slice of ints of the call's own; a tableau whose fields are appended to. -/
import Derived.Test.YtekojohhjnklkaaMk
import Derived.Maps.AppendAt
import Derived.Test.YtekojohhjnklkaaReg
namespace Go.Proofs.Ytekojohhjnklkaa
open Go.RowKit

theorem run_append_ints {w : World} {base : Nat} {v : Value} {n : Nat} {xs : List Int} (hown : Ow w base v n xs) {ao : Option Addr} {m c : Nat} {ys : List Int} (hr : Rd w ao m c ys) (hn : n + m ≤ 4194304) (hbase : base ≤ w.heap.size) (ty : TypeId) :
    ∃ v' w', (Builtin.append_ #[22, 22] ty #[v, .slice ao m c]).run Try.prog w = .ok v' w' ∧ Ow w' base v' (n + m) (xs ++ ys) ∧ w.grownBy w' v.ownBlock ∧ (v'.ownBlock = v.ownBlock ∨ v'.ownBlock = some w.heap.size) := by
  obtain ⟨i, hi, hz0, hz1, hz2⟩ := info_parts info_int
  cases ao with
  | none =>
    have hm : m = 0 := by
      rcases Nat.eq_zero_or_pos m with h | h
      · exact h
      · obtain ⟨_, _, e, _⟩ := hr.cell 0 h; cases e
    subst hm
    obtain rfl : ys = [] := List.eq_nil_of_length_eq_zero hr.len
    refine ⟨v, w, ?_, by simpa using hown, World.grownBy.refl _ _, .inl rfl⟩
    have ht := Try.underlying22
    rcases hown.1.2 with ⟨rfl, rfl⟩ | ⟨g, cap, cur, rfl, _, _, hnc, _⟩
    · simp [Builtin.append_, run_underlying ht, sizeOf, typeInfo, hi, Builtin.lenOf, Builtin.firstCells]
    · simp [Builtin.append_, run_underlying ht, sizeOf, typeInfo, hi, Builtin.lenOf, Builtin.firstCells, hnc, storeCells]
  | some x =>
    have hnews : ∀ j u, (ys.map (Value.int .i64))[j]? = some u → w.cell? (x.add j) = some u := by
      intro j u hj
      have hj' : j < ys.length := by
        have := (List.getElem?_eq_some_iff.1 hj).1
        simpa using this
      obtain ⟨b, o, e, hc⟩ := hr.cell j (by rw [← hr.len]; exact hj')
      simp only [Option.some.injEq] at e
      subst e
      rw [Addr.add_lit, hc]
      rw [List.getElem?_map] at hj
      simpa [List.getD, hj'] using hj
    have hone : ∀ u ∈ ys.map (Value.int .i64), u.oneCell' = true := by
      intro u hu
      obtain ⟨_, _, rfl⟩ := List.mem_map.1 hu
      rfl
    obtain ⟨v', w', h1, h2, h3, _, h5⟩ := run_append_own_at (P := Try.prog) w base 22 ty 3 i (.int .i64 0) 1 8 Try.underlying22 hi hz0 hz1 hz2 rfl (by decide) v n (xs.map (Value.int .i64)) hown.1 x m c (ys.map (Value.int .i64))
      (by rw [List.length_map, hr.len, Nat.mul_one]) hnews hone (by unfold maxLen; omega) (by omega) hbase
    exact ⟨v', w', h1, ⟨by rw [List.map_append]; exact h2, fun z hz => (List.mem_append.1 hz).elim (hown.2 z) (hr.wf z)⟩, h3, h5⟩
/-- 'append(s, x...)', s of the call's own. -/
theorem wpList_append_ints (w : World) {ops : Array Oper} {rest : List Oper} {o : Oper} {a : Act} {Q : Exit → Act → World → Prop} (hg : o.guard = none) (s x : Operand)
    (hop : o.op = .call { callee := .builtin .append, args := #[s, x], argTypes := #[22, 22] }) (base : Nat) (v : Value) (n : Nat) (xs : List Int) (hs : a.eval s = v) (hown : Ow w base v n xs)
    (ao : Option Addr) (m c : Nat) (ys : List Int) (hx : a.eval x = .slice ao m c) (hr : Rd w ao m c ys) (hn : n + m ≤ 4194304) (hbase : base ≤ w.heap.size)
    (h : ∀ ao' c' w', Ow w' base (.slice ao' (n + m) c') (n + m) (xs ++ ys) → w.grownBy w' v.ownBlock → ((Value.slice ao' (n + m) c').ownBlock = v.ownBlock ∨ (Value.slice ao' (n + m) c').ownBlock = some w.heap.size) → wpList Try.prog ops Q rest (a.put o.dst (.slice ao' (n + m) c')) w') : wpList Try.prog ops Q (o :: rest) a w :=
  wpList_plain hg fun _ hK => by
    obtain ⟨v', w', hr, h2, h3, h4⟩ := run_append_ints hown hr hn hbase o.type
    obtain ⟨ao', c', rfl, _⟩ := h2.fr
    unfold Oper.wp execOp
    simp only [hop, resolve, invoke, builtin, Sem.run_bind, Sem.run_pure, Result.andThen_ok, List.map_toArray, List.map_cons, List.map_nil, hs, hx, hr]
    exact hK _ _ (h _ _ w' h2 h3 h4)
/-- The same at a step of a region that draws its order. -/
theorem step_append_ints {w : World} {ops : Array Oper} {o : Oper} {a : Act} {K : Act → World → Prop} {Q : Exit → Act → World → Prop} {E : Prop} (hg : o.guard = none) (s x : Operand)
    (hop : o.op = .call { callee := .builtin .append, args := #[s, x], argTypes := #[22, 22] }) (base : Nat) (v : Value) (n : Nat) (xs : List Int) (hs : a.eval s = v) (hown : Ow w base v n xs)
    (ao : Option Addr) (m c : Nat) (ys : List Int) (hx : a.eval x = .slice ao m c) (hr : Rd w ao m c ys) (hn : n + m ≤ 4194304) (hbase : base ≤ w.heap.size)
    (h : ∀ ao' c' w', Ow w' base (.slice ao' (n + m) c') (n + m) (xs ++ ys) → w.grownBy w' v.ownBlock → ((Value.slice ao' (n + m) c').ownBlock = v.ownBlock ∨ (Value.slice ao' (n + m) c').ownBlock = some w.heap.size) → K (a.put o.dst (.slice ao' (n + m) c')) w') :
    if Region.wanted o (yielded ops a.tmps) = true then Oper.wp Try.prog o a w K Q else E := by
  have hw : Region.wanted o (yielded ops a.tmps) = true := by simp [Region.wanted, hg]
  rw [if_pos hw]
  obtain ⟨v', w', hr, h2, h3, h4⟩ := run_append_ints hown hr hn hbase o.type
  obtain ⟨ao', c', rfl, _⟩ := h2.fr
  unfold Oper.wp execOp
  simp only [hop, resolve, invoke, builtin, Sem.run_bind, Sem.run_pure, Result.andThen_ok, List.map_toArray, List.map_cons, List.map_nil, hs, hx, hr]
  exact h _ _ w' h2 h3 h4
theorem rd_one (w : World) (y : Int) (t : TypeId) (hy : I64 y) : Rd (w.alloc (.cells #[.int .i64 y] t)) (some ⟨w.heap.size, 0, none⟩) 1 1 [y] := by
  refine ⟨rfl, Nat.le_refl _, by omega, fun i hi => ⟨_, 0, rfl, ?_⟩, fun x hx => by simp only [List.mem_cons, List.not_mem_nil, or_false] at hx; exact hx ▸ hy⟩
  obtain rfl : i = 0 := by omega
  simp

/-- 'out' is a struct at ob, its A and its B slices that were made behind it; what lay below ob in W1 is as it was. -/
structure Ap (ob : Nat) (W1 wr : World) (S : Value) (vA vB : Value) (nA nB : Nat) (XA XB : List Int) : Prop where
  l : Below ob W1 wr
  out : wr.heap[ob]? = some (.cells #[S, vA, vB] 27 (0, 0))
  a : Ow wr (ob + 1) vA nA XA
  b : Ow wr (ob + 1) vB nB XB
  ne : vA.ownBlock = none ∨ vA.ownBlock ≠ vB.ownBlock
section
variable {ob : Nat} {W1 wr : World} {S vA vB : Value} {nA nB : Nat} {XA XB : List Int}
theorem Ap.start (W1 : World) (S : Value) : Ap W1.heap.size W1 (W1.alloc (.cells #[S, .slice none 0 0, .slice none 0 0] 27)) S (.slice none 0 0) (.slice none 0 0) 0 0 [] [] :=
  ⟨below_box _ _, bk_new _ _ _, Ow.nil _ _, Ow.nil _ _, .inl rfl⟩
theorem Ap.size (h : Ap ob W1 wr S vA vB nA nB XA XB) : ob < wr.heap.size := bk_lt h.out
theorem Ap.below (h : Ap ob W1 wr S vA vB nA nB XA XB) {w' : World} (hb : Below wr.heap.size wr w') : Ap ob W1 w' S vA vB nA nB XA XB :=
  ⟨h.l.trans (hb.mono (Nat.le_of_lt h.size)), bk_below h.out hb, h.a.below hb, h.b.below hb, h.ne⟩
theorem Ap.old (h : Ap ob W1 wr S vA vB nA nB XA XB) {k : Nat} {o : Obj} (hk : k < ob) (ho : W1.heap[k]? = some o) : wr.heap[k]? = some o := (h.l.block k hk).trans ho
theorem ow_setCell {w : World} {base : Nat} {v : Value} {n : Nat} {xs : List Int} (h : Ow w base v n xs) {b k : Nat} (hb : b < base) (u : Value) : Ow (w.setCell ⟨b, k, none⟩ u) base v n xs := ⟨ownsRow_setCell_below h.1 hb u, h.2⟩
/-- 'out.A = append(out.A, ys...)'. -/
theorem Ap.pushA (h : Ap ob W1 wr S vA vB nA nB XA XB) {w' : World} {v' : Value} {m : Nat} {ys : List Int} (hO : Ow w' (ob + 1) v' (nA + m) (XA ++ ys)) (hG : wr.grownBy w' vA.ownBlock) (hw : v'.ownBlock = vA.ownBlock ∨ v'.ownBlock = some wr.heap.size) :
    Ap ob W1 (w'.setCell ⟨ob, 1, none⟩ v') S v' vB (nA + m) nB (XA ++ ys) XB := by
  have hs := h.size
  have hobA : some ob ≠ vA.ownBlock := fun e => by have := h.a.lt ob e.symm; omega
  have hout := (hG.block ob hs hobA).trans h.out
  have hne : vB.ownBlock = none ∨ vB.ownBlock ≠ vA.ownBlock := by
    rcases h.ne with h1 | h1
    · cases e : vB.ownBlock with
      | none => exact .inl rfl
      | some k => exact .inr (by rw [h1]; simp)
    · exact .inr (Ne.symm h1)
  refine ⟨(h.l.grown hG (Nat.le_of_lt hs) (fun k hk => by have := h.a.lt k hk; omega)).setCell (Nat.le_refl _) _, heap_setCell_same _ _ _ _ _ _ hout, ow_setCell hO (Nat.lt_succ_self _) _, ow_setCell (h.b.grown hG hne) (Nat.lt_succ_self _) _, ?_⟩
  rcases hw with h1 | h1
  · rw [h1]; exact h.ne
  · right
    rw [h1]
    intro e
    have := h.b.lt _ e.symm
    omega
/-- 'out.B = append(out.B, ys...)'. -/
theorem Ap.pushB (h : Ap ob W1 wr S vA vB nA nB XA XB) {w' : World} {v' : Value} {m : Nat} {ys : List Int} (hO : Ow w' (ob + 1) v' (nB + m) (XB ++ ys)) (hG : wr.grownBy w' vB.ownBlock) (hw : v'.ownBlock = vB.ownBlock ∨ v'.ownBlock = some wr.heap.size) :
    Ap ob W1 (w'.setCell ⟨ob, 2, none⟩ v') S vA v' nA (nB + m) XA (XB ++ ys) := by
  have hs := h.size
  have hobB : some ob ≠ vB.ownBlock := fun e => by have := h.b.lt ob e.symm; omega
  have hout := (hG.block ob hs hobB).trans h.out
  refine ⟨(h.l.grown hG (Nat.le_of_lt hs) (fun k hk => by have := h.b.lt k hk; omega)).setCell (Nat.le_refl _) _, heap_setCell_same _ _ _ _ _ _ hout, ow_setCell (h.a.grown hG h.ne) (Nat.lt_succ_self _) _, ow_setCell hO (Nat.lt_succ_self _) _, ?_⟩
  rcases hw with h1 | h1
  · rw [h1]; exact h.ne
  · rw [h1]
    cases e : vA.ownBlock with
    | none => exact .inl rfl
    | some k =>
      right
      intro e'
      simp only [Option.some.injEq] at e'
      have := h.a.lt k e
      omega
theorem Ap.drew (h : Ap ob W1 wr S vA vB nA nB XA XB) : Ap ob W1 wr.drew S vA vB nA nB XA XB := h.below ((Below.refl _ _).drew)
/-- 'out' is stored into the result's block. -/
theorem Ap.finish (h : Ap ob W1 wr S vA vB nA nB XA XB) {w : World} {b : Nat} {x y z : Value} (hb : w.heap.size ≤ b) (hlt : b < ob) (hw : Below w.heap.size w W1) (hres : W1.heap[b]? = some (.cells #[x, y, z] 27 (0, 0))) :
    ∃ a1 c1 a2 c2, vA = .slice a1 nA c1 ∧ vB = .slice a2 nB c2 ∧
    (((wr.setCell ⟨b, 0, none⟩ S).setCell ⟨b, 1, none⟩ vA).setCell ⟨b, 2, none⟩ vB).heap[b]? = some (.cells #[S, vA, vB] 27 (0, 0)) ∧
    NewT w (((wr.setCell ⟨b, 0, none⟩ S).setCell ⟨b, 1, none⟩ vA).setCell ⟨b, 2, none⟩ vB) XA XB a1 nA c1 a2 nB c2 := by
  obtain ⟨a1, c1, rfl, h1⟩ := h.a.fr
  obtain ⟨a2, c2, rfl, h2⟩ := h.b.fr
  have n1 : blk a1 ≠ some b := fun e => by
    cases a1 with
    | none => cases e
    | some q => have := h.a.lt q.block rfl; simp [blk] at e; omega
  have n2 : blk a2 ≠ some b := fun e => by
    cases a2 with
    | none => cases e
    | some q => have := h.b.lt q.block rfl; simp [blk] at e; omega
  refine ⟨a1, c1, a2, c2, rfl, rfl, heap_setCell_same _ _ _ _ _ _ (heap_setCell_same _ _ _ _ _ _ (heap_setCell_same _ _ _ _ _ _ (h.old hlt hres))), ?_, ?_, fun hp _ e => ?_, ?_⟩
  · exact (((h1.setCell _ n1).setCell _ n1).setCell _ n1).mono (by omega)
  · exact (((h2.setCell _ n2).setCell _ n2).setCell _ n2).mono (by omega)
  · obtain ⟨q, o, ea, _⟩ := h1.rd.cell 0 hp
    subst ea
    rcases h.ne with h3 | h3
    · simp [Value.ownBlock] at h3
    · cases a2 with
      | none => simp [blk] at e
      | some q2 => exact h3 (by simpa [Value.ownBlock, blk] using e)
  · exact (((hw.trans (h.l.mono (by omega))).setCell hb _).setCell hb _).setCell hb _
end
end Go.Proofs.Ytekojohhjnklkaa
