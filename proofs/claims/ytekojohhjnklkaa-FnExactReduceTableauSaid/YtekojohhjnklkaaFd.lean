/- Three slices of the call's own that are appended to in turn: rows (of which nothing is known), ints, and rows of which the ints are known. -/
import Derived.Test.YtekojohhjnklkaaCmpL
import Derived.Test.YtekojohhjnklkaaNodesOf
import Derived.Test.YtekojohhjnklkaaAp
namespace Go.Proofs.Ytekojohhjnklkaa
open Go.RowKit

theorem info_rw : (Try.prog.info? 22).map (fun i => (i.zero, i.size, i.bytes)) = some (some (.slice none 0 0), 1, 24) := by kernel_rfl
theorem run_append_sl {w : World} {lo : Nat} {v : Value} {n : Nat} {vs : List Value} (hown : w.ownsRow lo 22 1 v n vs) {x : Value} (hx : x.oneCell' = true) {b : Nat} (hc : w.cell? ⟨b, 0, none⟩ = some x) (hn : n ≤ 1000) (hlo : lo ≤ w.heap.size) (ty : TypeId) :
    ∃ v' w', (Builtin.append_ #[63, 63] ty #[v, .slice (some ⟨b, 0, none⟩) 1 1]).run Try.prog w = .ok v' w' ∧
      w'.ownsRow lo 22 1 v' (n + 1) (vs ++ [x]) ∧ w.grownBy w' v.ownBlock ∧ (v'.ownBlock = v.ownBlock ∨ v'.ownBlock = some w.heap.size) := by
  obtain ⟨i, hi, hz0, hz1, hz2⟩ := info_parts info_rw
  obtain ⟨v', w', h1, h2, h3, _, h5⟩ := run_append_own_at (P := Try.prog) w lo 63 ty 22 i (.slice none 0 0) 1 24 Try.underlying63 hi hz0 hz1 hz2 rfl (by decide) v n vs hown ⟨b, 0, none⟩ 1 1 [x] rfl
    (fun j u hj => by
      match j, hj with
      | 0, hj => simp only [List.getElem?_cons_zero, Option.some.injEq] at hj; subst hj; simpa [Addr.add] using hc)
    (fun u hu => by
      simp only [List.mem_cons, List.not_mem_nil, or_false] at hu
      subst hu
      exact hx) (by unfold maxLen; omega) (by omega) hlo
  exact ⟨v', w', h1, h2, h3, h5⟩
theorem wpList_append_sl (w : World) {ops : Array Oper} {rest : List Oper} {o : Oper} {a : Act} {Q : Exit → Act → World → Prop} (hg : o.guard = none) (s y : Operand)
    (hop : o.op = .call { callee := .builtin .append, args := #[s, y], argTypes := #[63, 63] }) (lo : Nat) (v : Value) (n : Nat) (vs : List Value) (hs : a.eval s = v) (hown : w.ownsRow lo 22 1 v n vs)
    (b : Nat) (x : Value) (hx : x.oneCell' = true) (hy : a.eval y = .slice (some ⟨b, 0, none⟩) 1 1) (hc : w.cell? ⟨b, 0, none⟩ = some x) (hn : n ≤ 1000) (hlo : lo ≤ w.heap.size)
    (hK : ∀ v' w', w'.ownsRow lo 22 1 v' (n + 1) (vs ++ [x]) → w.grownBy w' v.ownBlock → (v'.ownBlock = v.ownBlock ∨ v'.ownBlock = some w.heap.size) → wpList Try.prog ops Q rest (a.put o.dst v') w') : wpList Try.prog ops Q (o :: rest) a w :=
  wpList_plain hg fun _ hK' => by
    obtain ⟨v', w', hr, h2, h3, h4⟩ := run_append_sl hown hx hc hn hlo o.type
    unfold Oper.wp execOp
    simp only [hop, resolve, invoke, builtin, Sem.run_bind, Sem.run_pure, Result.andThen_ok, List.map_toArray, List.map_cons, List.map_nil, hs, hy, hr]
    exact hK' _ _ (hK _ w' h2 h3 h4)
/-- 'out = append(out, y)', and whose block it is then. -/
theorem wpList_append_int' (w : World) {ops : Array Oper} {rest : List Oper} {o : Oper} {a : Act} {Q : Exit → Act → World → Prop} (hg : o.guard = none) (s x : Operand)
    (hop : o.op = .call { callee := .builtin .append, args := #[s, x], argTypes := #[22, 22] }) (base : Nat) (v : Value) (n : Nat) (xs : List Int) (hs : a.eval s = v) (hown : Ow w base v n xs)
    (b : Nat) (y : Int) (hx : a.eval x = .slice (some ⟨b, 0, none⟩) 1 1) (hr : Rd w (some ⟨b, 0, none⟩) 1 1 [y]) (hn : n ≤ 4194303) (hbase : base ≤ w.heap.size)
    (h : ∀ v' w', Ow w' base v' (n + 1) (xs ++ [y]) → w.grownBy w' v.ownBlock → (v'.ownBlock = v.ownBlock ∨ v'.ownBlock = some w.heap.size) → wpList Try.prog ops Q rest (a.put o.dst v') w') : wpList Try.prog ops Q (o :: rest) a w :=
  wpList_append_ints w hg s x hop base v n xs hs hown _ 1 1 [y] hx hr (by omega) hbase fun _ _ w' h1 h2 h3 => h _ w' h1 h2 h3

/-- Slice v holds as element i the slice of block bs[i], L ints: F[i]. -/
structure Fd (w : World) (lo : Nat) (v : Value) (L : Nat) (bs : List Nat) (F : List (List Int)) : Prop where
  out : w.ownsRow lo 22 1 v bs.length (bs.map fun b => .slice (some ⟨b, 0, none⟩) L L)
  len : F.length = bs.length
  row : ∀ i, i < bs.length → Bi w (bs.getD i 0) (F.getD i [])
  wd : ∀ x ∈ F, x.length = L
theorem below_grown {w w' : World} (hB : Below w.heap.size w w') : w.grownBy w' none := ⟨hB.os, hB.tape, hB.output, hB.size, fun k hk _ => hB.block k hk⟩
theorem none_or' (x : Option Nat) : x = none ∨ x ≠ none := by cases x <;> simp
/-- The three slices; Q: blocks that none of them is, the rows' own among them. -/
structure Cl (w : World) (lo : Nat) (v6 v7 v8 : Value) (n6 k L : Nat) (xs : List Int) (bs Q : List Nat) (F : List (List Int)) : Prop where
  s : ∃ vs, w.ownsRow lo 22 1 v6 n6 vs
  n : Ow w lo v7 k xs
  f : Fd w lo v8 L bs F
  d67 : v6.ownBlock ≠ v7.ownBlock
  d68 : v6.ownBlock ≠ v8.ownBlock
  d78 : v7.ownBlock ≠ v8.ownBlock
  sub : ∀ b ∈ bs, b ∈ Q
  q : ∀ b ∈ Q, b < w.heap.size ∧ v6.ownBlock ≠ some b ∧ v7.ownBlock ≠ some b ∧ v8.ownBlock ≠ some b
section
variable {w w' : World} {lo : Nat} {v6 v7 v8 : Value} {n6 k L : Nat} {xs : List Int} {bs Q : List Nat} {F : List (List Int)}
theorem Fd.grown {v : Value} (h : Fd w lo v L bs F) {r : Option Nat} (hg : w.grownBy w' r) (h1 : v.ownBlock = none ∨ v.ownBlock ≠ r) (h2 : ∀ b ∈ bs, r ≠ some b) : Fd w' lo v L bs F :=
  ⟨h.out.kept hg h1, h.len, fun i hi => bk_grown (h.row i hi) hg (fun q hq e => h2 (bs.getD i 0) (by rw [List.getD_eq_getElem?_getD, List.getElem?_eq_getElem hi]; exact List.getElem_mem hi) (by rw [hq, e])), h.wd⟩
theorem Fd.below {v : Value} (h : Fd w lo v L bs F) (hB : Below w.heap.size w w') : Fd w' lo v L bs F := h.grown (below_grown hB) (none_or' _) fun b _ e => by cases e
theorem Cl.below (h : Cl w lo v6 v7 v8 n6 k L xs bs Q F) (hB : Below w.heap.size w w') : Cl w' lo v6 v7 v8 n6 k L xs bs Q F := by
  obtain ⟨vs, hs⟩ := h.s
  exact ⟨⟨vs, hs.kept (below_grown hB) (none_or' _)⟩, h.n.below hB, h.f.below hB, h.d67, h.d68, h.d78, h.sub, fun b hb => ⟨Nat.lt_of_lt_of_le (h.q b hb).1 hB.size, (h.q b hb).2⟩⟩
theorem Cl.lt6 (h : Cl w lo v6 v7 v8 n6 k L xs bs Q F) : ∀ j, v6.ownBlock = some j → lo ≤ j ∧ j < w.heap.size := by
  obtain ⟨vs, hs⟩ := h.s
  exact hs.lt
/-- A block of Q that is no row's is written. -/
theorem Cl.write (h : Cl w lo v6 v7 v8 n6 k L xs bs Q F) {q : Nat} (hg : w.grownBy w' (some q)) (hq : q ∈ Q) (hn : q ∉ bs) : Cl w' lo v6 v7 v8 n6 k L xs bs Q F := by
  obtain ⟨vs, hs⟩ := h.s
  obtain ⟨q0, q1, q2, q3⟩ := h.q q hq
  exact ⟨⟨vs, hs.kept hg (.inr q1)⟩, h.n.grown hg (.inr q2), h.f.grown hg (.inr q3) (fun b hb e => by cases e; exact hn hb), h.d67, h.d68, h.d78, h.sub, fun b hb => ⟨Nat.lt_of_lt_of_le (h.q b hb).1 hg.size, (h.q b hb).2⟩⟩
/-- A block that is made behind. -/
theorem Cl.reserve (h : Cl w lo v6 v7 v8 n6 k L xs bs Q F) (hB : Below w.heap.size w w') {q : Nat} (h1 : w.heap.size ≤ q) (h2 : q < w'.heap.size) : Cl w' lo v6 v7 v8 n6 k L xs bs (q :: Q) F := by
  have h' := h.below hB
  refine ⟨h'.s, h'.n, h'.f, h.d67, h.d68, h.d78, fun b hb => List.mem_cons_of_mem _ (h.sub b hb), fun b hb => ?_⟩
  rcases List.mem_cons.1 hb with rfl | hb
  · refine ⟨h2, fun e => ?_, fun e => ?_, fun e => ?_⟩
    · have := (h.lt6 _ e).2; omega
    · have := (h.n.lt _ e).2; omega
    · have := (h.f.out.lt _ e).2; omega
  · exact h'.q b hb
theorem fresh_ne {v v' : Value} {y : Option Nat} (hw : v'.ownBlock = v.ownBlock ∨ v'.ownBlock = some w.heap.size) (h1 : v.ownBlock ≠ y) (h2 : ∀ j, y = some j → j < w.heap.size) : v'.ownBlock ≠ y := by
  intro e
  rcases hw with h | h
  · exact h1 (h.symm.trans e)
  · have := h2 _ (e.symm.trans h); omega
theorem Cl.put6 (h : Cl w lo v6 v7 v8 n6 k L xs bs Q F) {v' : Value} {vs : List Value} {n' : Nat} (ho : w'.ownsRow lo 22 1 v' n' vs) (hg : w.grownBy w' v6.ownBlock) (hw : v'.ownBlock = v6.ownBlock ∨ v'.ownBlock = some w.heap.size) : Cl w' lo v' v7 v8 n' k L xs bs Q F :=
  ⟨⟨vs, ho⟩, h.n.grown hg (.inr h.d67.symm), h.f.grown hg (.inr h.d68.symm) (fun b hb => (h.q b (h.sub b hb)).2.1), fresh_ne hw h.d67 (fun j hj => (h.n.lt j hj).2), fresh_ne hw h.d68 (fun j hj => (h.f.out.lt j hj).2), h.d78, h.sub,
    fun b hb => ⟨Nat.lt_of_lt_of_le (h.q b hb).1 hg.size, fresh_ne hw (h.q b hb).2.1 (fun j hj => by cases hj; exact (h.q b hb).1), (h.q b hb).2.2⟩⟩
theorem Cl.put7 (h : Cl w lo v6 v7 v8 n6 k L xs bs Q F) {v' : Value} {ys : List Int} {n' : Nat} (ho : Ow w' lo v' n' ys) (hg : w.grownBy w' v7.ownBlock) (hw : v'.ownBlock = v7.ownBlock ∨ v'.ownBlock = some w.heap.size) : Cl w' lo v6 v' v8 n6 n' L ys bs Q F := by
  obtain ⟨vs, hs⟩ := h.s
  exact ⟨⟨vs, hs.kept hg (.inr h.d67)⟩, ho, h.f.grown hg (.inr h.d78.symm) (fun b hb => (h.q b (h.sub b hb)).2.2.1), (fresh_ne hw h.d67.symm (fun j hj => (h.lt6 j hj).2)).symm, h.d68, fresh_ne hw h.d78 (fun j hj => (h.f.out.lt j hj).2), h.sub,
    fun b hb => ⟨Nat.lt_of_lt_of_le (h.q b hb).1 hg.size, (h.q b hb).2.1, fresh_ne hw (h.q b hb).2.2.1 (fun j hj => by cases hj; exact (h.q b hb).1), (h.q b hb).2.2.2⟩⟩
theorem Cl.put8 (h : Cl w lo v6 v7 v8 n6 k L xs bs Q F) {v' : Value} {q : Nat} {y : List Int} (ho : w'.ownsRow lo 22 1 v' (bs.length + 1) ((bs.map fun b => .slice (some ⟨b, 0, none⟩) L L) ++ [.slice (some ⟨q, 0, none⟩) L L])) (hg : w.grownBy w' v8.ownBlock) (hw : v'.ownBlock = v8.ownBlock ∨ v'.ownBlock = some w.heap.size)
    (hq : q ∈ Q) (hb : Bi w q y) (hy : y.length = L) : Cl w' lo v6 v7 v' n6 k L xs (bs ++ [q]) Q (F ++ [y]) := by
  obtain ⟨vs, hs⟩ := h.s
  have hb' : Bi w' q y := bk_grown hb hg (fun j hj e => (h.q q hq).2.2.2 (by rw [hj, e]))
  have hf := h.f
  refine ⟨⟨vs, hs.kept hg (.inr h.d68)⟩, h.n.grown hg (.inr h.d78), ⟨?_, ?_, fun i hi => ?_, fun x hx => ?_⟩, h.d67, (fresh_ne hw h.d68.symm (fun j hj => (h.lt6 j hj).2)).symm, (fresh_ne hw h.d78.symm (fun j hj => (h.n.lt j hj).2)).symm, fun b hb => ?_, fun b hb => ?_⟩
  · rw [List.length_append, List.map_append]; exact ho
  · rw [List.length_append, List.length_append, hf.len]; rfl
  · rw [List.length_append, List.length_singleton] at hi
    by_cases e : i < bs.length
    · rw [List.getD_eq_getElem?_getD, List.getElem?_append_left e, ← List.getD_eq_getElem?_getD, List.getD_eq_getElem?_getD (l := F ++ [y]), List.getElem?_append_left (by rw [hf.len]; exact e), ← List.getD_eq_getElem?_getD]
      exact bk_grown (hf.row i e) hg (fun j hj e2 => (h.q (bs.getD i 0) (h.sub _ (by rw [List.getD_eq_getElem?_getD, List.getElem?_eq_getElem e]; exact List.getElem_mem e))).2.2.2 (by rw [hj, e2]))
    · obtain rfl : i = bs.length := by omega
      rw [List.getD_eq_getElem?_getD, List.getElem?_append_right (Nat.le_refl _), Nat.sub_self, List.getD_eq_getElem?_getD (l := F ++ [y]), List.getElem?_append_right (by rw [hf.len]; exact Nat.le_refl _), hf.len, Nat.sub_self]
      exact hb'
  · rcases List.mem_append.1 hx with hx | hx
    · exact hf.wd x hx
    · simp only [List.mem_cons, List.not_mem_nil, or_false] at hx; exact hx ▸ hy
  · rcases List.mem_append.1 hb with hb | hb
    · exact h.sub b hb
    · simp only [List.mem_cons, List.not_mem_nil, or_false] at hb; exact hb ▸ hq
  · exact ⟨Nat.lt_of_lt_of_le (h.q b hb).1 hg.size, (h.q b hb).2.1, (h.q b hb).2.2.1, fresh_ne hw (h.q b hb).2.2.2 (fun j hj => by cases hj; exact (h.q b hb).1)⟩
/-- Three empty slices. -/
theorem Cl.start (W : World) (L : Nat) : Cl (((W.alloc (.cells #[] 22)).alloc (.cells #[] 3)).alloc (.cells #[] 22)) W.heap.size (.slice (some ⟨W.heap.size, 0, none⟩) 0 0) (.slice (some ⟨W.heap.size + 1, 0, none⟩) 0 0) (.slice (some ⟨W.heap.size + 1 + 1, 0, none⟩) 0 0) 0 0 L [] [] [] [] := by
  have h6 : (W.alloc (.cells #[] 22)).ownsRow W.heap.size 22 1 (.slice (some ⟨W.heap.size, 0, none⟩) 0 0) 0 [] := World.ownsRow_made W #[] 0 (Nat.le_refl _) (by unfold maxLen; omega) (by simp)
  have h7 := Ow.empty (W.alloc (.cells #[] 22)) W.heap.size (by simp)
  have h8 : (((W.alloc (.cells #[] 22)).alloc (.cells #[] 3)).alloc (.cells #[] 22)).ownsRow W.heap.size 22 1 (.slice (some ⟨W.heap.size + 1 + 1, 0, none⟩) 0 0) 0 [] := by
    have h := World.ownsRow_made ((W.alloc (.cells #[] 22)).alloc (.cells #[] 3)) (e := 22) (size := 1) (base := W.heap.size) #[] 0 (by simp; omega) (by unfold maxLen; omega) (by simp)
    simp only [World.size_alloc] at h
    exact h
  simp only [World.size_alloc] at h7
  exact ⟨⟨[], (h6.alloc _).alloc _⟩, h7.alloc _, ⟨h8, rfl, fun i hi => absurd hi (Nat.not_lt_zero i), fun x hx => (by cases hx)⟩, by simp [Value.ownBlock], by simp [Value.ownBlock]; omega, by simp [Value.ownBlock], fun b hb => (by cases hb), fun b hb => (by cases hb)⟩
end
end Go.Proofs.Ytekojohhjnklkaa
