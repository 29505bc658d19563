/- Merged texts: Reg, Ap, Pns. -/
import Derived.Test.YthebegfceaehfaaDoorKt3
import Derived.StillTail
import Derived.Deep.Quiet
import Derived.Test.YthebegfceaehfaaDoorKt7
import Derived.Maps.AppendAt
/- Reg: A region that draws its order: operations that leave one value in every world of a class, whatever order; then a tail in the order of the text. -/
namespace Go.Proofs.YthebegfceaehfaaDoor
open Go.RowKit

section
variable {P : Program} {ops : Array Oper} {md : Region.Mode} {C : World → Prop}

/-- Whatever order the first n operations take: behind them L holds. -/
def headQ (P : Program) (md : Region.Mode) (ops : Array Oper) (C : World → Prop) (n : Nat) (L : Array Bool → Act → Prop) : Nat → Array Bool → Act → Prop
  | 0, listed, a => L listed a
  | f + 1, listed, a =>
    Region.ready md ops listed ≠ [] ∧ ∀ i ∈ Region.ready md ops listed, i < n ∧ qOp P ops C i (headQ P md ops C n L f (listed.setIfInBounds i true)) a
theorem wpAny_of_headQ {n g : Nat} {L : Array Bool → Act → Prop} {Q' : Exit → Act → World → Prop} (hL : ∀ listed a w, C w → L listed a → wpAny P md ops Q' g listed a w) :
    ∀ (f : Nat) (listed : Array Bool) (a : Act) (w : World), C w → headQ P md ops C n L f listed a → wpAny P md ops Q' (f + g) listed a w
  | 0, listed, a, w, hw, h => by rw [Nat.zero_add]; exact hL _ _ _ hw h
  | f + 1, listed, a, w, hw, h => by
    rw [show f + 1 + g = (f + g) + 1 by omega]
    exact ⟨fun h0 => absurd h0 h.1, fun i hi => wpOp_of_qOp hw (fun a' w' hw' h' => wpAny_of_headQ hL f _ a' w' hw' h') (h.2 i hi).2⟩
theorem headQ_first {n i : Nat} {oi : Oper} {v : Value} {L : Array Bool → Act → Prop} (hi : ops[i]? = some oi) (hsel : ∀ (j : Nat) (o : Oper) cs b, ops[j]? = some o → o.op ≠ .select cs b)
    (hs : Region.sinkB md ops n = true) (hc : Region.chainB md ops n = true) (hn : n < ops.size) (hin : i < n)
    (hdone : ∀ listed a, L listed a → ∀ j ∈ Region.ready md ops listed, n ≤ j) :
    ∀ (f : Nat) (listed : Array Bool) (a : Act), HeadInv md ops n listed →
      (∀ j oj, ops[j]? = some oj → j ≠ i → listed.getD j true = false → (∀ e ∈ oj.after, Region.binds md e = true → e.on ≠ i) → oi.apart ops oj = true) →
      i ∈ Region.ready md ops listed → YieldsIn P ops C oi v a →
      headQ P md ops C n L f (listed.setIfInBounds i true) (a.put oi.dst v) → headQ P md ops C n L (f + 1) listed a := by
  intro f
  induction f with
  | zero =>
    intro listed a inv _ hr hy H
    have hun := (mem_ready.1 hr).1
    refine ⟨fun h => (by rw [h] at hr; cases hr), fun j hj => ?_⟩
    have hjn : j < n := by
      rcases Nat.lt_or_ge j n with h | h
      · exact h
      · exact absurd hj (tail_waits hs hc hn inv _ i rfl hin hun j h)
    refine ⟨hjn, ?_⟩
    by_cases hji : j = i
    · subst hji; exact hy.qOp hi H
    · have := hdone _ _ H j (ready_mono hj hji)
      omega
  | succ f ih =>
    intro listed a inv hfree hr hy H
    have hun := (mem_ready.1 hr).1
    refine ⟨fun h => (by rw [h] at hr; cases hr), fun j hj => ?_⟩
    have hjn : j < n := by
      rcases Nat.lt_or_ge j n with h | h
      · exact h
      · exact absurd hj (tail_waits hs hc hn inv _ i rfl hin hun j h)
    refine ⟨hjn, ?_⟩
    by_cases hji : j = i
    · subst hji; exact hy.qOp hi H
    · have h1 := (H.2 j (ready_mono hj hji)).2
      obtain ⟨hjun, oj, hoj, hall⟩ := mem_ready.1 hj
      have hnot : ∀ e ∈ oj.after, Region.binds md e = true → e.on ≠ i := fun e he hb heq => by
        have h1 := hall e he hb
        rw [heq, getD_both hun] at h1
        cases h1
      have h2 := Go.qOp_put hoj (hfree j oj hoj hji hjun hnot) (fun cs b => hsel i oi cs b hi) (fun cs b => hsel j oj cs b hoj) hy h1
      have hfree' : ∀ k ok, ops[k]? = some ok → k ≠ i → (listed.setIfInBounds j true).getD k true = false →
          (∀ e ∈ ok.after, Region.binds md e = true → e.on ≠ i) → oi.apart ops ok = true := fun k ok hk hki hun hno => by
        refine hfree k ok hk hki ?_ hno
        by_cases hjk : j = k
        · subst hjk; exact hjun
        · rw [getD_set_ne true hjk] at hun; exact hun
      refine Go.qOp_mono (fun a' h3 => ih (listed.setIfInBounds j true) a' (inv.set hj hjn) hfree' (ready_mono hr (Ne.symm hji)) h3.1 ?_) h2
      rw [Array.setIfInBounds_comm _ _ hji]
      exact h3.2
theorem headQ_lex {n g : Nat} {Lq : Act → Prop} (hsel : Region.noSelect ops = true) (hs : Region.sinkB md ops n = true) (hc : Region.chainB md ops n = true) (hn : n < ops.size) :
    ∀ (l : List Oper) (k : Nat) (listed : Array Bool) (a : Act), (∀ j, j < l.length → l[j]? = ops[k + j]?) → k + l.length = n → HeadInv md ops n listed →
    Region.lexHead md ops g l.length k listed = true → wpQuiet P ops C Lq l a →
    headQ P md ops C n (fun listed' a' => Region.seqB md ops g n listed' = true ∧ Lq a') l.length listed a
  | [], k, listed, a, _, hk, _, hB, h => by
    have : k = n := by simpa using hk
    subst this
    exact ⟨by simpa [Region.lexHead] using hB, h⟩
  | o :: l, k, listed, a, hl, hk, inv, hB, h => by
    have h0 : ops[k]? = some o := by simpa using (hl 0 (by simp)).symm
    simp only [List.length_cons, Region.lexHead, Bool.and_eq_true] at hB
    obtain ⟨⟨hr, hf⟩, hB'⟩ := hB
    have hkn : k < n := by simp only [List.length_cons] at hk; omega
    have hr' : k ∈ Region.ready md ops listed := by simpa using hr
    have hst : qOp P ops C k (wpQuiet P ops C Lq l) a := by unfold qOp; simp only [h0]; exact h
    obtain ⟨v, hy, hK⟩ := yieldsIn_of_qOp h0 hst
    exact headQ_first h0 (Region.noSelect_spec hsel) hs hc hn hkn (fun listed' a' hL => seqB_ready hL.1) l.length listed a inv (Region.free_spec h0 hf) hr' hy
      (headQ_lex hsel hs hc hn l (k + 1) _ _ (fun j hj => by have := hl (j + 1) (by simp; omega); simpa [Nat.add_assoc, Nat.add_comm 1 j] using this) (by simp only [List.length_cons] at hk; omega) (inv.set hr' hkn) hB' hK)
/-- ONE WALK FOR EVERY ORDER: the first n operations quiet in the class C, the others behind them all, in the order of the text. -/
theorem wp_region_tail {id : Nat} {Q : Exit → Act → World → Prop} {a : Act} {w : World} {l : List Oper} (n : Nat) (hm : P.follows .mixedOrders = true) (hB : Region.lexTailB .any l.toArray n = true) (hC : C w.drew)
    (h : wpQuiet P l.toArray C (fun a' => ∀ w', C w' → wpList P l.toArray Q (l.drop n) a' w') (l.take n) a) : (Code.region id l.toArray true).wp P Q a w := by
  simp only [Region.lexTailB, Bool.and_eq_true, decide_eq_true_eq] at hB
  obtain ⟨⟨⟨⟨hsel, hn⟩, hs⟩, hc⟩, hlex⟩ := hB
  have hn' : n < l.length := by simpa using hn
  have htl : (l.take n).length = n := by simp; omega
  have hdl : (l.drop n).length = l.toArray.size - n := by simp
  have inv0 : HeadInv .any l.toArray n (Array.replicate l.toArray.size false) :=
    ⟨by simp, fun j oj _ hl => (by rw [getD_replicate_false] at hl; cases hl), fun t _ ht => getD_in (by simpa using ht) (getD_replicate_false _ _)⟩
  have H := headQ_lex (P := P) (C := C) (md := .any) (g := l.toArray.size - n) hsel hs hc hn (l.take n) 0 _ a (fun j hj => by
    have hj' : j < n := by rw [htl] at hj; exact hj
    simp [hj']) (by simpa using htl) inv0 (by rw [htl]; exact hlex) h
  refine wp_region_any hm ?_
  have := wpAny_of_headQ (Q' := Q) (g := l.toArray.size - n) (fun listed a' w' hw' hL => by
    have := wpAny_of_seq (md := .any) (Q' := Q) (l.drop n) n listed a' w' (fun j => by simp [List.getElem?_drop]) (by rw [hdl]; exact hL.1) (hL.2 w' hw')
    rwa [hdl] at this) _ _ _ _ hC H
  rw [htl, show n + (l.toArray.size - n) = l.toArray.size by omega] at this
  exact this
/-- The whole region quiet. -/
theorem wp_region_calm {id : Nat} {Q : Exit → Act → World → Prop} {a : Act} {w : World} {l : List Oper} (hm : P.follows .mixedOrders = true) (hB : Region.lexB .any l.toArray = true) (hC : C w.drew)
    (h : wpQuiet P l.toArray C (fun a' => ∀ w', C w' → Q .normal a' w') l a) : (Code.region id l.toArray true).wp P Q a w :=
  wp_region_quiet (C := C) hm hB hC (by simpa using h)

/-- One operation that yields v in every world of the class, the world as it was. -/
theorem quiet_val {Q : Act → Prop} {a : Act} {o : Oper} {rest : List Oper} (v : Value) (hg : o.guard = none)
    (hv : ∀ w, C w → (execOp a.eval o).run P w = .ok (.value v) w) (h : wpQuiet P ops C Q rest (a.put o.dst v)) : wpQuiet P ops C Q (o :: rest) a :=
  wpQuiet_step fun K hK => by
    rw [if_pos (by simp [Region.wanted, hg])]
    refine ⟨v, fun w hw => ?_, hK _ h⟩
    unfold Oper.quietAt
    rw [hv w hw]
    exact ⟨rfl, rfl⟩
/-- A call that hands back v from every world of the class, and leaves one. -/
theorem quiet_call {Q : Act → Prop} {a : Act} {o : Oper} {rest : List Oper} (v : Value) (f : FuncId) (args : Array Value) (hg : o.guard = none)
    (he : ∀ w, C w → (execOp a.eval o).run P w = .ok (.enter f args) w) (hv : ∀ w, C w → Calls P f args w fun e w' => e = .returned v ∧ C w')
    (h : wpQuiet P ops C Q rest (a.put o.dst v)) : wpQuiet P ops C Q (o :: rest) a :=
  wpQuiet_step fun K hK => by
    rw [if_pos (by simp [Region.wanted, hg])]
    refine ⟨v, fun w hw => ?_, hK _ h⟩
    unfold Oper.quietAt
    rw [he w hw]
    exact ⟨rfl, hv w hw⟩
end
end Go.Proofs.YthebegfceaehfaaDoor

/- Ap: Appends to a slice of ints of the call's own; a tableau whose fields are appended to. -/
namespace Go.Proofs.YthebegfceaehfaaDoor
open Go.RowKit

theorem run_append_ints {w : World} {base : Nat} {v : Value} {n : Nat} {xs : List Int} (hown : Ow w base v n xs) {ao : Option Addr} {m c : Nat} {ys : List Int} (hr : Rd w ao m c ys) (hn : n + m ≤ 4194304) (hbase : base ≤ w.heap.size) (ty : TypeId) :
    ∃ v' w', (Builtin.append_ #[22, 22] ty #[v, .slice ao m c]).run Tryd.prog w = .ok v' w' ∧ Ow w' base v' (n + m) (xs ++ ys) ∧ w.grownBy w' v.ownBlock ∧ (v'.ownBlock = v.ownBlock ∨ v'.ownBlock = some w.heap.size) := by
  obtain ⟨i, hi, hz0, hz1, hz2⟩ := info_parts info_int
  cases ao with
  | none =>
    have hm : m = 0 := by
      rcases Nat.eq_zero_or_pos m with h | h
      · exact h
      · obtain ⟨_, _, e, _⟩ := hr.cell 0 h; cases e
    subst hm
    obtain rfl : ys = [] := List.eq_nil_of_length_eq_zero hr.len
    refine ⟨v, w, ?_, by simpa using hown, World.grownBy.refl _ _, .inl rfl⟩
    have ht := Tryd.underlying22
    rcases hown.1.2 with ⟨rfl, rfl⟩ | ⟨g, cap, cur, rfl, _, _, hnc, _⟩
    · simp [Builtin.append_, run_underlying ht, sizeOf, typeInfo, hi, Builtin.lenOf, Builtin.firstCells]
    · simp [Builtin.append_, run_underlying ht, sizeOf, typeInfo, hi, Builtin.lenOf, Builtin.firstCells, hnc, storeCells]
  | some x =>
    have hnews : ∀ j u, (ys.map (Value.int .i64))[j]? = some u → w.cell? (x.add j) = some u := by
      intro j u hj
      have hj' : j < ys.length := by
        have := (List.getElem?_eq_some_iff.1 hj).1
        simpa using this
      obtain ⟨b, o, e, hc⟩ := hr.cell j (by rw [← hr.len]; exact hj')
      simp only [Option.some.injEq] at e
      subst e
      rw [Addr.add_lit, hc]
      rw [List.getElem?_map] at hj
      simpa [List.getD, hj'] using hj
    have hone : ∀ u ∈ ys.map (Value.int .i64), u.oneCell' = true := by
      intro u hu
      obtain ⟨_, _, rfl⟩ := List.mem_map.1 hu
      rfl
    obtain ⟨v', w', h1, h2, h3, _, h5⟩ := run_append_own_at (P := Tryd.prog) w base 22 ty 3 i (.int .i64 0) 1 8 Tryd.underlying22 hi hz0 hz1 hz2 rfl (by decide) v n (xs.map (Value.int .i64)) hown.1 x m c (ys.map (Value.int .i64))
      (by rw [List.length_map, hr.len, Nat.mul_one]) hnews hone (by unfold maxLen; omega) (by omega) hbase
    exact ⟨v', w', h1, ⟨by rw [List.map_append]; exact h2, fun z hz => (List.mem_append.1 hz).elim (hown.2 z) (hr.wf z)⟩, h3, h5⟩
/-- 'append(s, x...)', s of the call's own. -/
theorem wpList_append_ints (w : World) {ops : Array Oper} {rest : List Oper} {o : Oper} {a : Act} {Q : Exit → Act → World → Prop} (hg : o.guard = none) (s x : Operand)
    (hop : o.op = .call { callee := .builtin .append, args := #[s, x], argTypes := #[22, 22] }) (base : Nat) (v : Value) (n : Nat) (xs : List Int) (hs : a.eval s = v) (hown : Ow w base v n xs)
    (ao : Option Addr) (m c : Nat) (ys : List Int) (hx : a.eval x = .slice ao m c) (hr : Rd w ao m c ys) (hn : n + m ≤ 4194304) (hbase : base ≤ w.heap.size)
    (h : ∀ ao' c' w', Ow w' base (.slice ao' (n + m) c') (n + m) (xs ++ ys) → w.grownBy w' v.ownBlock → ((Value.slice ao' (n + m) c').ownBlock = v.ownBlock ∨ (Value.slice ao' (n + m) c').ownBlock = some w.heap.size) → wpList Tryd.prog ops Q rest (a.put o.dst (.slice ao' (n + m) c')) w') : wpList Tryd.prog ops Q (o :: rest) a w :=
  wpList_plain hg fun _ hK => by
    obtain ⟨v', w', hr, h2, h3, h4⟩ := run_append_ints hown hr hn hbase o.type
    obtain ⟨ao', c', rfl, _⟩ := h2.fr
    unfold Oper.wp execOp
    simp only [hop, resolve, invoke, builtin, Sem.run_bind, Sem.run_pure, Result.andThen_ok, List.map_toArray, List.map_cons, List.map_nil, hs, hx, hr]
    exact hK _ _ (h _ _ w' h2 h3 h4)
/-- The same at a step of a region that draws its order. -/
theorem step_append_ints {w : World} {ops : Array Oper} {o : Oper} {a : Act} {K : Act → World → Prop} {Q : Exit → Act → World → Prop} {E : Prop} (hg : o.guard = none) (s x : Operand)
    (hop : o.op = .call { callee := .builtin .append, args := #[s, x], argTypes := #[22, 22] }) (base : Nat) (v : Value) (n : Nat) (xs : List Int) (hs : a.eval s = v) (hown : Ow w base v n xs)
    (ao : Option Addr) (m c : Nat) (ys : List Int) (hx : a.eval x = .slice ao m c) (hr : Rd w ao m c ys) (hn : n + m ≤ 4194304) (hbase : base ≤ w.heap.size)
    (h : ∀ ao' c' w', Ow w' base (.slice ao' (n + m) c') (n + m) (xs ++ ys) → w.grownBy w' v.ownBlock → ((Value.slice ao' (n + m) c').ownBlock = v.ownBlock ∨ (Value.slice ao' (n + m) c').ownBlock = some w.heap.size) → K (a.put o.dst (.slice ao' (n + m) c')) w') :
    if Region.wanted o (yielded ops a.tmps) = true then Oper.wp Tryd.prog o a w K Q else E := by
  have hw : Region.wanted o (yielded ops a.tmps) = true := by simp [Region.wanted, hg]
  rw [if_pos hw]
  obtain ⟨v', w', hr, h2, h3, h4⟩ := run_append_ints hown hr hn hbase o.type
  obtain ⟨ao', c', rfl, _⟩ := h2.fr
  unfold Oper.wp execOp
  simp only [hop, resolve, invoke, builtin, Sem.run_bind, Sem.run_pure, Result.andThen_ok, List.map_toArray, List.map_cons, List.map_nil, hs, hx, hr]
  exact h _ _ w' h2 h3 h4
theorem rd_one (w : World) (y : Int) (t : TypeId) (hy : I64 y) : Rd (w.alloc (.cells #[.int .i64 y] t)) (some ⟨w.heap.size, 0, none⟩) 1 1 [y] := by
  refine ⟨rfl, Nat.le_refl _, by omega, fun i hi => ⟨_, 0, rfl, ?_⟩, fun x hx => by simp only [List.mem_cons, List.not_mem_nil, or_false] at hx; exact hx ▸ hy⟩
  obtain rfl : i = 0 := by omega
  simp

/-- 'out' is a struct at ob, its A and its B slices that were made behind it; what lay below ob in W1 is as it was. -/
structure Ap (ob : Nat) (W1 wr : World) (S : Value) (vA vB : Value) (nA nB : Nat) (XA XB : List Int) : Prop where
  l : Below ob W1 wr
  out : wr.heap[ob]? = some (.cells #[S, vA, vB] 24 (0, 0))
  a : Ow wr (ob + 1) vA nA XA
  b : Ow wr (ob + 1) vB nB XB
  ne : vA.ownBlock = none ∨ vA.ownBlock ≠ vB.ownBlock
section
variable {ob : Nat} {W1 wr : World} {S vA vB : Value} {nA nB : Nat} {XA XB : List Int}
theorem Ap.start (W1 : World) (S : Value) : Ap W1.heap.size W1 (W1.alloc (.cells #[S, .slice none 0 0, .slice none 0 0] 24)) S (.slice none 0 0) (.slice none 0 0) 0 0 [] [] :=
  ⟨below_box _ _, bk_new _ _ _, Ow.nil _ _, Ow.nil _ _, .inl rfl⟩
theorem Ap.size (h : Ap ob W1 wr S vA vB nA nB XA XB) : ob < wr.heap.size := bk_lt h.out
theorem Ap.below (h : Ap ob W1 wr S vA vB nA nB XA XB) {w' : World} (hb : Below wr.heap.size wr w') : Ap ob W1 w' S vA vB nA nB XA XB :=
  ⟨h.l.trans (hb.mono (Nat.le_of_lt h.size)), bk_below h.out hb, h.a.below hb, h.b.below hb, h.ne⟩
theorem Ap.old (h : Ap ob W1 wr S vA vB nA nB XA XB) {k : Nat} {o : Obj} (hk : k < ob) (ho : W1.heap[k]? = some o) : wr.heap[k]? = some o := (h.l.block k hk).trans ho
theorem ow_setCell {w : World} {base : Nat} {v : Value} {n : Nat} {xs : List Int} (h : Ow w base v n xs) {b k : Nat} (hb : b < base) (u : Value) : Ow (w.setCell ⟨b, k, none⟩ u) base v n xs := ⟨ownsRow_setCell_below h.1 hb u, h.2⟩
/-- 'out.A = append(out.A, ys...)'. -/
theorem Ap.pushA (h : Ap ob W1 wr S vA vB nA nB XA XB) {w' : World} {v' : Value} {m : Nat} {ys : List Int} (hO : Ow w' (ob + 1) v' (nA + m) (XA ++ ys)) (hG : wr.grownBy w' vA.ownBlock) (hw : v'.ownBlock = vA.ownBlock ∨ v'.ownBlock = some wr.heap.size) :
    Ap ob W1 (w'.setCell ⟨ob, 1, none⟩ v') S v' vB (nA + m) nB (XA ++ ys) XB := by
  have hs := h.size
  have hobA : some ob ≠ vA.ownBlock := fun e => by have := h.a.lt ob e.symm; omega
  have hout := (hG.block ob hs hobA).trans h.out
  have hne : vB.ownBlock = none ∨ vB.ownBlock ≠ vA.ownBlock := by
    rcases h.ne with h1 | h1
    · cases e : vB.ownBlock with
      | none => exact .inl rfl
      | some k => exact .inr (by rw [h1]; simp)
    · exact .inr (Ne.symm h1)
  refine ⟨(h.l.grown hG (Nat.le_of_lt hs) (fun k hk => by have := h.a.lt k hk; omega)).setCell (Nat.le_refl _) _, heap_setCell_same _ _ _ _ _ _ hout, ow_setCell hO (Nat.lt_succ_self _) _, ow_setCell (h.b.grown hG hne) (Nat.lt_succ_self _) _, ?_⟩
  rcases hw with h1 | h1
  · rw [h1]; exact h.ne
  · right
    rw [h1]
    intro e
    have := h.b.lt _ e.symm
    omega
/-- 'out.B = append(out.B, ys...)'. -/
theorem Ap.pushB (h : Ap ob W1 wr S vA vB nA nB XA XB) {w' : World} {v' : Value} {m : Nat} {ys : List Int} (hO : Ow w' (ob + 1) v' (nB + m) (XB ++ ys)) (hG : wr.grownBy w' vB.ownBlock) (hw : v'.ownBlock = vB.ownBlock ∨ v'.ownBlock = some wr.heap.size) :
    Ap ob W1 (w'.setCell ⟨ob, 2, none⟩ v') S vA v' nA (nB + m) XA (XB ++ ys) := by
  have hs := h.size
  have hobB : some ob ≠ vB.ownBlock := fun e => by have := h.b.lt ob e.symm; omega
  have hout := (hG.block ob hs hobB).trans h.out
  refine ⟨(h.l.grown hG (Nat.le_of_lt hs) (fun k hk => by have := h.b.lt k hk; omega)).setCell (Nat.le_refl _) _, heap_setCell_same _ _ _ _ _ _ hout, ow_setCell (h.a.grown hG h.ne) (Nat.lt_succ_self _) _, ow_setCell hO (Nat.lt_succ_self _) _, ?_⟩
  rcases hw with h1 | h1
  · rw [h1]; exact h.ne
  · rw [h1]
    cases e : vA.ownBlock with
    | none => exact .inl rfl
    | some k =>
      right
      intro e'
      simp only [Option.some.injEq] at e'
      have := h.a.lt k e
      omega
theorem Ap.drew (h : Ap ob W1 wr S vA vB nA nB XA XB) : Ap ob W1 wr.drew S vA vB nA nB XA XB := h.below ((Below.refl _ _).drew)
/-- 'out' is stored into the result's block. -/
theorem Ap.finish (h : Ap ob W1 wr S vA vB nA nB XA XB) {w : World} {b : Nat} {x y z : Value} (hb : w.heap.size ≤ b) (hlt : b < ob) (hw : Below w.heap.size w W1) (hres : W1.heap[b]? = some (.cells #[x, y, z] 24 (0, 0))) :
    ∃ a1 c1 a2 c2, vA = .slice a1 nA c1 ∧ vB = .slice a2 nB c2 ∧
    (((wr.setCell ⟨b, 0, none⟩ S).setCell ⟨b, 1, none⟩ vA).setCell ⟨b, 2, none⟩ vB).heap[b]? = some (.cells #[S, vA, vB] 24 (0, 0)) ∧
    NewT w (((wr.setCell ⟨b, 0, none⟩ S).setCell ⟨b, 1, none⟩ vA).setCell ⟨b, 2, none⟩ vB) XA XB a1 nA c1 a2 nB c2 := by
  obtain ⟨a1, c1, rfl, h1⟩ := h.a.fr
  obtain ⟨a2, c2, rfl, h2⟩ := h.b.fr
  have n1 : blk a1 ≠ some b := fun e => by
    cases a1 with
    | none => cases e
    | some q => have := h.a.lt q.block rfl; simp [blk] at e; omega
  have n2 : blk a2 ≠ some b := fun e => by
    cases a2 with
    | none => cases e
    | some q => have := h.b.lt q.block rfl; simp [blk] at e; omega
  refine ⟨a1, c1, a2, c2, rfl, rfl, heap_setCell_same _ _ _ _ _ _ (heap_setCell_same _ _ _ _ _ _ (heap_setCell_same _ _ _ _ _ _ (h.old hlt hres))), ?_, ?_, fun hp _ e => ?_, ?_⟩
  · exact (((h1.setCell _ n1).setCell _ n1).setCell _ n1).mono (by omega)
  · exact (((h2.setCell _ n2).setCell _ n2).setCell _ n2).mono (by omega)
  · obtain ⟨q, o, ea, _⟩ := h1.rd.cell 0 hp
    subst ea
    rcases h.ne with h3 | h3
    · simp [Value.ownBlock] at h3
    · cases a2 with
      | none => simp [blk] at e
      | some q2 => exact h3 (by simpa [Value.ownBlock, blk] using e)
  · exact (((hw.trans (h.l.mono (by omega))).setCell hb _).setCell hb _).setCell hb _
end
end Go.Proofs.YthebegfceaehfaaDoor

/- Pns: ParseNumbers: the walks. -/
namespace Go.Proofs.YthebegfceaehfaaDoor
open Go.RowKit

/-- Words and their numbers. -/
def pnsB (l : List UInt8) : Bool := (sp1 32 l).all pnB
def pnsL (l : List UInt8) : List Int := if pnsB l then (sp1 32 l).map pnV else []
theorem splitK_one (c : UInt8) : ∀ (k : Nat) (l : List UInt8), Lib.count l [c] = k → Lib.splitK [c] 0 k l = sp1 c l
  | 0, l, h => by
    rw [Lib.count_one] at h
    rw [sp1_free c l (List.count_eq_zero.1 h)]
    rfl
  | k + 1, l, h => by
    rw [Lib.count_one] at h
    have hm : c ∈ l := List.count_pos_iff.1 (by omega)
    obtain ⟨x, r, rfl, hx⟩ := List.eq_append_cons_of_mem hm
    rw [Lib.splitK, index_one_cut c x r hx, if_neg (by simp only [beq_iff_eq]; omega)]
    have hd : (x ++ c :: r).drop (x.length + [c].length) = r := by
      rw [show x.length + [c].length = (x ++ [c]).length by simp, show x ++ c :: r = (x ++ [c]) ++ r by simp, List.drop_left]
    have hr : Lib.count r [c] = k := by
      rw [Lib.count_one]
      have hx0 := List.count_eq_zero.2 hx
      rw [List.count_append, List.count_cons_self, hx0] at h
      omega
    rw [sp1_cut c x r hx, Int.toNat_natCast, Nat.add_zero, List.take_left' rfl, hd, splitK_one c k r hr]
theorem split_one (s : ByteArray) (c : UInt8) : Lib.splitB ⟨#[c]⟩ 0 (Lib.countB s ⟨#[c]⟩) s = (sp1 c s.data.toList).map bs := by
  have h := Lib.splitB_data ⟨#[c]⟩ 0 (Lib.countB s ⟨#[c]⟩) s
  have h2 : Lib.splitK [c] 0 (Lib.countB s ⟨#[c]⟩) s.data.toList = sp1 c s.data.toList := splitK_one c _ _ rfl
  rw [show (⟨#[c]⟩ : ByteArray).data.toList = [c] from rfl, h2] at h
  rw [← h, List.map_map]
  conv => lhs; rw [← List.map_id (Lib.splitB _ _ _ _)]
  exact List.map_congr_left fun x _ => (bs_list x).symm
theorem Sw.grown {w w' : World} {base : Nat} {v : Value} {n : Nat} {xs : List (List UInt8)} (h : Sw w base v n xs) {r : Option Nat} (hg : w.grownBy w' r) (hne : v.ownBlock = none ∨ v.ownBlock ≠ r) : Sw w' base v n xs := World.ownsRow.kept h hg hne
/-- Texts in a block of their own. -/
theorem Sw.of_block {w : World} {b lo : Nat} {xs : List (List UInt8)} (h : w.heap[b]? = some (.cells ((xs.map bs).map Value.string).toArray 9 (0, 0))) (hb : lo ≤ b) (hn : xs.length ≤ 4194304) : Sw w lo (.slice (some ⟨b, 0, none⟩) xs.length xs.length) xs.length xs := by
  refine ⟨by simp, .inr ⟨b, xs.length, _, rfl, hb, h, Nat.le_refl _, by unfold maxLen; omega, by simp, ?_⟩⟩
  rw [List.take_of_length_le (by simp)]
  simp [txt]
/-- Words that are read, and the numbers so far. -/
structure Wd (w : World) (lo : Nat) (vo vw : Value) (k N : Nat) (xs : List Int) (ws : List (List UInt8)) : Prop where
  o : Ow w lo vo k xs
  s : Sw w lo vw N ws
  ne : vo.ownBlock ≠ vw.ownBlock
  so : vo.ownBlock ≠ none
section
variable {w w' : World} {lo k N : Nat} {vo vw : Value} {xs : List Int} {ws : List (List UInt8)}
theorem Wd.below (h : Wd w lo vo vw k N xs ws) (hB : Below w.heap.size w w') : Wd w' lo vo vw k N xs ws := ⟨h.o.below hB, h.s.below hB, h.ne, h.so⟩
theorem Wd.push (h : Wd w lo vo vw k N xs ws) {v' : Value} {y : Int} (hO : Ow w' lo v' (k + 1) (xs ++ [y])) (hg : w.grownBy w' vo.ownBlock) (hat : v'.ownBlock = vo.ownBlock ∨ v'.ownBlock = some w.heap.size) : Wd w' lo v' vw (k + 1) N (xs ++ [y]) ws := by
  refine ⟨hO, h.s.grown hg (.inr (Ne.symm h.ne)), ?_, ?_⟩
  · rcases hat with e | e
    · rw [e]; exact h.ne
    · rw [e]
      intro e1
      have := (h.s.lt _ e1.symm).2
      omega
  · rcases hat with e | e
    · rw [e]; exact h.so
    · rw [e]; simp
/-- A word, under a name of its own. -/
theorem Wd.at (h : Wd w lo vo vw k N xs ws) {j : Nat} (hj : j < N) : ∃ g c t, vw = .slice (some ⟨g, 0, none⟩) N c ∧ w.cell? ⟨g, j, none⟩ = some (.string (bs t)) ∧ ws[j]? = some t := by
  obtain ⟨g, c, h1⟩ := h.s.at
  have hl := h.s.len
  rcases h1 with ⟨_, h2⟩ | ⟨h2, _, _, h3⟩
  · omega
  · have hj' : j < ws.length := by omega
    refine ⟨g, c, ws[j], h2, ?_, List.getElem?_eq_getElem hj'⟩
    have := h3 j (bs ws[j]) (by rw [List.getElem?_map, List.getElem?_eq_getElem hj']; rfl)
    rwa [Nat.zero_add] at this
end
theorem words_step {ws : List (List UInt8)} {k : Nat} {t : List UInt8} (h : ws[k]? = some t) : ws.take (k + 1) = ws.take k ++ [t] := by
  have hk := (List.getElem?_eq_some_iff.1 h)
  obtain ⟨hk, e⟩ := hk
  rw [List.take_succ_eq_append_getElem hk, e]
theorem words_all {ws : List (List UInt8)} {k : Nat} {t : List UInt8} (h : ws[k]? = some t) (ha : (ws.take k).all pnB = true) (ht : pnB t = true) : (ws.take (k + 1)).all pnB = true := by
  rw [words_step h, List.all_append, ha]
  simp [ht]
theorem words_stop {ws : List (List UInt8)} {k : Nat} {t : List UInt8} (h : ws[k]? = some t) (ht : pnB t = false) : ws.all pnB = false := by
  rw [← Bool.not_eq_true]
  intro e
  have := List.all_eq_true.1 e t (List.mem_of_getElem? h)
  rw [ht] at this
  cases this
theorem ret_lb {a : Option Addr} {n c : Nat} {x y : Bool} (h : x = y) : Ending.returned (.tuple #[.slice a n c, .bool x]) = .returned (.tuple #[.slice a n c, .bool y]) := by rw [h]
theorem sp1_len_le (c : UInt8) : ∀ l : List UInt8, (sp1 c l).length ≤ l.length + 1
  | [] => by simp [sp1]
  | b :: l => by
    have ih := sp1_len_le c l
    rw [sp1]
    split
    · simp; omega
    · cases hs : sp1 c l with
      | nil => simp
      | cons x xs => rw [hs] at ih; simp at ih ⊢; omega
-- WALKS
theorem impl_ParseNumberT (T : ByteArray) (t : List UInt8) (w : World) (h : T.data.toList = t) (hs : T.size ≤ 1048576) (hm : Mx w) :
    Calls Tryd.prog 37 #[.string T] w fun e w' => e = .returned (.tuple #[.int .i64 (pnV t), .bool (pnB t)]) ∧ Below w.heap.size w w' := by
  subst h
  exact impl_ParseNumber T w hs hm
set_option maxRecDepth 20000 in
set_option maxHeartbeats 4000000 in
theorem impl_ParseNumbers (s : ByteArray) (w : World) (hs : s.size ≤ 1048576) (hm : Mx w) :
    Calls Tryd.prog 17 #[.string s] w fun e w' => ∃ ao n c, e = .returned (.tuple #[.slice ao n c, .bool (pnsB s.data.toList)]) ∧ NewInts w w' (pnsL s.data.toList) ao n c := by
  have HM := hid hm
  clear hm
  obtain ⟨N, hN⟩ : ∃ N, N = (sp1 32 s.data.toList).length := ⟨_, rfl⟩
  have hNs : N ≤ 1048577 := by
    have := sp1_len_le 32 s.data.toList
    rw [bytes_len] at this
    omega
  have CS : Hid (∀ w, Mx w → Calls Tryd.prog 16 #[.string s, .string ⟨#[32]⟩] w fun e w' => e = .returned (.slice (some ⟨w.heap.size, 0, none⟩) N N) ∧ w' = w.alloc (.cells (((sp1 32 s.data.toList).map bs).map Value.string).toArray 9)) := hid fun w hm => by
    obtain ⟨m, hm⟩ := hm
    have h := Tryd.strings_Split s ⟨#[32]⟩ m w (by omega) hm (by decide)
    have hl := Lib.splitB_all ⟨#[32]⟩ (by decide) 0 _ s rfl
    rw [split_one s 32, List.length_map, ← hN] at hl
    rw [split_one s 32, ← hl] at h
    exact h
  have HL := hid hN.symm
  clear hN
  go_enter Tryd.func17, Tryd.ntmps17
  go_wp2_with fail
  refine (CS.out _ (HM.out.below (below_box _ _))).mono ?_
  rintro e w1 ⟨rfl, hw1⟩
  have D0 : Hid (Wd w1 w.heap.size (.slice (some ⟨w.heap.size, 0, none⟩) 0 0) (.slice (some ⟨w.heap.size + 1, 0, none⟩) N N) 0 N [] (sp1 32 s.data.toList)) := hid ⟨by rw [hw1]; exact (Ow.empty w w.heap.size (Nat.le_refl _)).alloc _, by
    have h := Sw.of_block (w := w1) (b := w.heap.size + 1) (lo := w.heap.size) (xs := sp1 32 s.data.toList) (by rw [hw1]; exact heap_alloc_at _ _ _ _ (by simp)) (by omega) (by rw [HL.out]; omega)
    rw [HL.out] at h
    exact h, by simp [Value.ownBlock], by simp [Value.ownBlock]⟩
  have B0 := hid (show Below w.heap.size w w1 by rw [hw1]; exact l_alloc (below_box _ _) _)
  clear hw1 CS
  rw [World.size_alloc]
  go_wp2_with fail
  go_loopw [4, 6, 7, 8, 13] (fun v _ _ _ i wr => ∃ k : Nat, i = .int .i64 k ∧ k ≤ N ∧ Hid (Wd wr w.heap.size v (.slice (some ⟨w.heap.size + 1, 0, none⟩) N N) k N (((sp1 32 s.data.toList).take k).map pnV) (sp1 32 s.data.toList)) ∧ Hid (((sp1 32 s.data.toList).take k).all pnB = true) ∧ Hid (Below w.heap.size w wr)) (fun _ _ _ _ i _ => N - (intOf i).toNat)
  case atStart => exact ⟨0, rfl, Nat.zero_le _, hid (by simpa using D0.out), hid rfl, B0⟩
  case round =>
    clear D0 B0
    obtain ⟨k, rfl, hk, hD, hA, hB⟩ := hrel
    have sz := hB.out.size
    obtain ⟨vo, vc, rfl, _⟩ := hD.out.o.fr
    by_cases hlt : k < N
    · have hki : (k : Int) < (N : Int) := by omega
      obtain ⟨g, c, t, e1, u0, ht⟩ := hD.out.at hlt
      cases e1
      have HT := hid ht
      have hts : (bs t).size ≤ 1048576 := by
        rw [bs_size]
        have := sp1_le 32 s.data.toList t (List.mem_of_getElem? ht)
        rw [bytes_len] at this
        omega
      have CP := hid (fun w hm => impl_ParseNumberT (bs t) t w (bs_data t) hts hm)
      obtain ⟨T, hT⟩ : ∃ T, T = bs t := ⟨_, rfl⟩
      rw [← hT] at u0 CP
      clear ht hts hT
      cases hb : pnB t with
      | true =>
        rw [hb] at CP
        have HB1 := hid hb
        clear hb
        go_wp2_with fail
        refine (CP.out _ (HM.out.below hB.out)).mono ?_
        generalize hy : pnV t = y
        have HY := hid hy
        have HYI : Hid (I64 y) := hid (hy ▸ I64.num (pnV_num t))
        clear hy
        rintro e w1 ⟨rfl, hB1⟩
        have D1 := hid (hD.out.below hB1)
        have B1 := hid (l_below hB.out hB1)
        have z1 := B1.out.size
        clear hB1 u0
        go_wp2_with (at_builtin; (refine wpList_append_ints _ rfl _ _ rfl w.heap.size _ k _ rfl (D1.out.o.alloc _) _ 1 1 [y] rfl (rd_one _ y _ HYI.out) (by omega) (by simp; omega) ?_); intro ay cy w3 hO3 hG3 hW3)
        have D3 := hid ((D1.out.below (below_box _ _)).push hO3 hG3 hW3)
        have B3 := hid ((B1.out.alloc z1 _).grown hG3 (by simp; omega) (fun q hq => (D1.out.o.lt q hq).1))
        clear hO3 hG3 hW3
        go_wp2_with fail
        go_roundw
        case rel => exact ⟨k + 1, by go_num, by omega, hid (by rw [words_step HT.out, List.map_append, List.map_cons, List.map_nil, HY.out]; exact D3.out), hid (words_all HT.out hA.out HB1.out), B3⟩
        case measure => simp [intOf]; omega
      | false =>
        have HF := hid (show pnsB s.data.toList = false from words_stop HT.out hb)
        rw [hb] at CP
        clear hb
        go_wp2_with fail
        refine (CP.out _ (HM.out.below hB.out)).mono ?_
        generalize pnV t = y
        rintro e w1 ⟨rfl, hB1⟩
        have B1 := hid (l_below hB.out hB1)
        clear hB1 u0
        go_wp2_with fail
        go_ret2
        refine ⟨_, _, _, ret_lb HF.out.symm, ?_⟩
        unfold pnsL
        rw [HF.out]
        exact ⟨Fr.none _ _, B1.out⟩
    · obtain rfl : k = N := by omega
      have HA2 : Hid (pnsB s.data.toList = true) := hid (by
        have h := hA.out
        rw [← HL.out, List.take_length] at h
        exact h)
      have HX : Hid (((sp1 32 s.data.toList).take k).map pnV = pnsL s.data.toList) := hid (by
        unfold pnsL
        rw [HA2.out, ← HL.out, List.take_length]; rfl)
      go_wp2_with fail
      go_ret2
      obtain ⟨ao', c', e1, hF⟩ := hD.out.o.fr
      cases e1
      exact ⟨_, _, _, ret_lb HA2.out.symm, HX.out ▸ hF, hB.out⟩
theorem spec_ParseNumberT (T : ByteArray) (t : List UInt8) (w : World) (h : T.data.toList = t) (hs : T.size ≤ 1048576) (_hm : Mx w) :
    Calls Tryd.prog 32 #[.string T] w fun e w' => e = .returned (.tuple #[.int .i64 (pnV t), .bool (pnB t)]) ∧ Below w.heap.size w w' := by
  subst h
  exact spec_ParseNumber T w hs
set_option maxRecDepth 20000 in
set_option maxHeartbeats 4000000 in
theorem spec_ParseNumbers (s : ByteArray) (w : World) (hs : s.size ≤ 1048576) (hm : Mx w) :
    Calls Tryd.prog 13 #[.string s] w fun e w' => ∃ ao n c, e = .returned (.tuple #[.slice ao n c, .bool (pnsB s.data.toList)]) ∧ NewInts w w' (pnsL s.data.toList) ao n c := by
  have HM := hid hm
  clear hm
  have CS := hid (fun w => spec_l1Cut s 32 32 w hs rfl)
  go_enter Tryd.func13, Tryd.ntmps13
  go_wp2_with fail
  refine (CS.out _).mono ?_
  rintro e w1 ⟨vw, N, rfl, hNs, hS, hB⟩
  have hl := hS.len
  have HL := hid hl
  have y1 := hB.size
  simp only [World.size_alloc] at y1
  obtain ⟨gb, gc, hv⟩ := hS.at
  rcases hv with ⟨_, h0⟩ | ⟨rfl, hcap, _, _⟩
  · exact absurd (List.eq_nil_of_length_eq_zero (hl.trans h0)) (sp1_ne _ _)
  · have hlt := hS.lt gb rfl
    simp only [World.size_alloc] at hlt
    have hSm : Sw w1 w.heap.size (.slice (some ⟨gb, 0, none⟩) N gc) N (sp1 32 s.data.toList) := by
      refine ⟨hS.1, ?_⟩
      rcases hS.2 with h | ⟨g, cap, cur, e, hb, rest⟩
      · exact .inl h
      · exact .inr ⟨g, cap, cur, e, by simp at hb; omega, rest⟩
    have D0 : Hid (Wd w1 w.heap.size (.slice (some ⟨w.heap.size, 0, none⟩) 0 0) (.slice (some ⟨gb, 0, none⟩) N gc) 0 N [] (sp1 32 s.data.toList)) := hid ⟨(Ow.empty w w.heap.size (Nat.le_refl _)).below hB, hSm, by simp only [Value.ownBlock, ne_eq, Option.some.injEq]; omega, by simp [Value.ownBlock]⟩
    have B0 := hid (l_below (below_box w (.cells #[] 3)) hB)
    clear hS hB hSm hl CS
    go_wp2_with fail
    go_loopw [4, 6, 7, 8] (fun v i _ _ wr => ∃ k : Nat, i = .int .i64 k ∧ k ≤ N ∧ Hid (Wd wr w.heap.size v (.slice (some ⟨gb, 0, none⟩) N gc) k N (((sp1 32 s.data.toList).take k).map pnV) (sp1 32 s.data.toList)) ∧ Hid (((sp1 32 s.data.toList).take k).all pnB = true) ∧ Hid (Below w.heap.size w wr)) (fun _ i _ _ _ => N - (intOf i).toNat)
    case atStart => exact ⟨0, rfl, Nat.zero_le _, hid (by simpa using D0.out), hid rfl, B0⟩
    case round =>
      clear D0 B0
      obtain ⟨k, rfl, hk, hD, hA, hB⟩ := hrel
      have sz := hB.out.size
      obtain ⟨vo, vc, rfl, _⟩ := hD.out.o.fr
      by_cases hlt : k < N
      · have hki : (k : Int) < (N : Int) := by omega
        obtain ⟨g, c, t, e1, u0, ht⟩ := hD.out.at hlt
        cases e1
        have HT := hid ht
        have hts : (bs t).size ≤ 1048576 := by
          rw [bs_size]
          have := sp1_le 32 s.data.toList t (List.mem_of_getElem? ht)
          rw [bytes_len] at this
          omega
        have CP := hid (fun w hm => spec_ParseNumberT (bs t) t w (bs_data t) hts hm)
        obtain ⟨T, hT⟩ : ∃ T, T = bs t := ⟨_, rfl⟩
        rw [← hT] at u0 CP
        clear ht hts hT
        cases hb : pnB t with
        | true =>
          rw [hb] at CP
          have HB1 := hid hb
          clear hb
          go_wp2_with fail
          refine (CP.out _ (HM.out.below hB.out)).mono ?_
          generalize hy : pnV t = y
          have HY := hid hy
          have HYI : Hid (I64 y) := hid (hy ▸ I64.num (pnV_num t))
          clear hy
          rintro e w1 ⟨rfl, hB1⟩
          have D1 := hid (hD.out.below hB1)
          have B1 := hid (l_below hB.out hB1)
          have z1 := B1.out.size
          clear hB1 u0
          go_wp2_with (at_builtin; (refine wpList_append_ints _ rfl _ _ rfl w.heap.size _ k _ rfl (D1.out.o.alloc _) _ 1 1 [y] rfl (rd_one _ y _ HYI.out) (by omega) (by simp; omega) ?_); intro ay cy w3 hO3 hG3 hW3)
          have D3 := hid ((D1.out.below (below_box _ _)).push hO3 hG3 hW3)
          have B3 := hid ((B1.out.alloc z1 _).grown hG3 (by simp; omega) (fun q hq => (D1.out.o.lt q hq).1))
          clear hO3 hG3 hW3
          go_wp2_with fail
          go_roundw
          case rel => exact ⟨k + 1, by go_num, by omega, hid (by rw [words_step HT.out, List.map_append, List.map_cons, List.map_nil, HY.out]; exact D3.out), hid (words_all HT.out hA.out HB1.out), B3⟩
          case measure => simp [intOf]; omega
        | false =>
          have HF := hid (show pnsB s.data.toList = false from words_stop HT.out hb)
          rw [hb] at CP
          clear hb
          go_wp2_with fail
          refine (CP.out _ (HM.out.below hB.out)).mono ?_
          generalize pnV t = y
          rintro e w1 ⟨rfl, hB1⟩
          have B1 := hid (l_below hB.out hB1)
          clear hB1 u0
          go_wp2_with fail
          go_ret2
          refine ⟨_, _, _, ret_lb HF.out.symm, ?_⟩
          unfold pnsL
          rw [HF.out]
          exact ⟨Fr.none _ _, B1.out⟩
      · obtain rfl : k = N := by omega
        have HA2 : Hid (pnsB s.data.toList = true) := hid (by
          have h := hA.out
          rw [← HL.out, List.take_length] at h
          exact h)
        have HX : Hid (((sp1 32 s.data.toList).take k).map pnV = pnsL s.data.toList) := hid (by
          unfold pnsL
          rw [HA2.out, ← HL.out, List.take_length]; rfl)
        go_wp2_with fail
        go_ret2
        obtain ⟨ao', c', e1, hF⟩ := hD.out.o.fr
        cases e1
        exact ⟨_, _, _, ret_lb HA2.out.symm, HX.out ▸ hF, hB.out⟩
end Go.Proofs.YthebegfceaehfaaDoor
