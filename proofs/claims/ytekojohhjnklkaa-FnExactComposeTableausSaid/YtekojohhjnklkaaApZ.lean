/- append(s, make([]int, m)...) to a slice of the call's own. -/
import Derived.Test.YtekojohhjnklkaaAp
import Derived.Test.YtekojohhjnklkaaCmpL
import Derived.Lib.AppendZeros
namespace Go.Proofs.Ytekojohhjnklkaa
open Go.RowKit

theorem zcells (m : Nat) : Builtin.zeroCells (Value.int .i64 0).cells m = (ints (zerosL m)).toArray := by
  apply Array.toList_inj.1
  rw [show (Value.int .i64 0).cells = #[Value.int .i64 0] from rfl]
  simp [Builtin.zeroCells, ints, zerosL, Nat.mod_one]
  exact (List.eq_replicate_iff.2 ⟨by simp, fun b hb => by obtain ⟨_, _, rfl⟩ := List.mem_map.1 hb; rfl⟩)
theorem run_append_zeros {w : World} {base g n cap : Nat} {xs : List Int} (hown : Ow w base (.slice (some ⟨g, 0, none⟩) n cap) n xs) {m : Nat} (hm : m ≤ 64) (hn : n ≤ 4194304) (hbase : base ≤ w.heap.size) (ty : TypeId) :
    ∃ v' w', (Builtin.append_ #[22, 3] ty #[.slice (some ⟨g, 0, none⟩) n cap, .int .i64 m]).run Try.prog w = .ok v' w' ∧ Ow w' base v' (n + m) (xs ++ zerosL m) ∧ w.grownBy w' (some g) ∧ (v'.ownBlock = some g ∨ v'.ownBlock = some w.heap.size) := by
  obtain ⟨i, hi, hz0, hz1, hz2⟩ := info_parts info_int
  have ht := Try.underlying22
  have htn := Try.underlying3
  have hw : IntKind.i64.wrap (m : Int) = m := by rw [IntKind.wrap_i64]; omega
  have hneg : ¬ ((m : Int) < 0) := by omega
  have h48i : ¬ (281474976710656 < (m : Int) * 8) := by omega
  obtain ⟨cap', cur, ecap, hg, hnc, hcm, hcs, htake⟩ : ∃ cap' cur, cap' = cap ∧ w.heap[g]? = some (.cells cur 3 (0, 0)) ∧ n ≤ cap ∧ cap ≤ maxLen ∧ cur.size = cap * 1 ∧ cur.toList.take (n * 1) = xs.map (Value.int .i64) := by
    rcases hown.1.2 with ⟨h, _⟩ | ⟨g', cap', cur, e, _, hg, hnc, hcm, hcs, htake⟩
    · cases h
    · cases e
      exact ⟨_, cur, rfl, hg, hnc, hcm, hcs, htake⟩
  subst ecap
  have hbg := (hown.lt g rfl).1
  have hwf : ∀ x ∈ xs ++ zerosL m, I64 x := fun x hx => (List.mem_append.1 hx).elim (hown.2 x) (fun h => by rw [(List.mem_replicate.1 h).2]; exact ⟨by decide, by decide⟩)
  have hlx : xs.length = n := hown.len
  by_cases hroom : n + m ≤ cap'
  · have hst := run_storeCells_at Try.prog g n 3 (ints (zerosL m)) 0 cur w hg (by simp [ints, zerosL]; omega) (fun u hu => by obtain ⟨_, _, rfl⟩ := List.mem_map.1 hu; rfl)
    simp only [Nat.add_zero] at hst
    refine ⟨.slice (some ⟨g, 0, none⟩) (n + m) cap', _, ?_, ⟨⟨?_, .inr ⟨g, cap', _, rfl, hbg, setRow_heap w g cur (cur.toList.take n ++ ints (zerosL m) ++ cur.toList.drop (n + (ints (zerosL m)).length)).toArray 3 _ hg, hroom, hcm, ?_, ?_⟩⟩, hwf⟩, grown_setRow _ _ _, .inl rfl⟩
    · rcases Nat.eq_zero_or_pos m with h0 | h0
      · subst h0
        have hw0 : IntKind.i64.wrap 0 = 0 := by rw [IntKind.wrap_i64]; omega
        simp [Builtin.append_, run_underlying ht, run_underlying htn, sizeOf, typeInfo, hi, hz2, asInt, asIntOf, hw0, hnc, storeCells, ints, zerosL]
        rw [setRow_self w g cur _ _ hg]
      · have hns : ¬ m = 0 := by omega
        simp [Builtin.append_, run_underlying ht, run_underlying htn, sizeOf, typeInfo, zeroValue, hi, hz0, hz1, hz2, asInt, asIntOf, hw, hneg, h48i, hroom, hns, zcells, Addr.add_lit, hst]
    · simp [zerosL, hlx]
    · simp [ints, zerosL]; omega
    · have e : (cur.toList.take n ++ ints (zerosL m)).length = n + m := by simp [ints, zerosL]; omega
      rw [Nat.mul_one, ← e, List.take_left, List.map_append]
      rw [Nat.mul_one] at htake
      rw [htake]
      rfl
  · have hr1 : ¬ (n + m ≤ cap') := hroom
    have h63' : ¬ (9223372036854775807 < ((n : Int) + (m : Int))) := by omega
    have hfit := growslice_fits (old := cap') (show cap' < n + m by omega) (show (n + m) * 8 ≤ 140737488355328 by omega)
    have h48' : ¬ (281474976710656 < Builtin.nextslicecap (n + m) cap' * 8) := by omega
    have hns : ¬ m = 0 := by omega
    have holds : ∀ j u, (ints xs)[j]? = some u → w.drew.cell? ((⟨g, 0, none⟩ : Addr).add j) = some u := fun j u h => hown.1.cells (g := g) rfl j u h
    have hfo := run_firstCells_some (P := Try.prog) w.drew 1 n ⟨g, 0, none⟩ n cap' (ints xs) (by simp [ints, hlx]) holds
    have hge := grownCap_ge w (n + m) cap' 3
    refine ⟨.slice (some ⟨w.heap.size, 0, none⟩) (n + m) (grownCap w (n + m) cap' 3), w.drew.alloc (.cells ((ints xs).toArray ++ (ints (zerosL m)).toArray ++ Builtin.zeroCells (Value.int .i64 0).cells (grownCap w (n + m) cap' 3 - (n + m))) 3), ?_, ⟨⟨?_, .inr ⟨w.heap.size, _, _, rfl, hbase, heap_alloc_new w.drew _, hge, grownCap_le_maxLen w (n + m) cap' 3 (by unfold maxLen; omega), ?_, ?_⟩⟩, hwf⟩, ⟨rfl, rfl, rfl, by simp, fun k hk _ => heap_alloc_past w.drew _ k hk⟩, .inr rfl⟩
    · simp [Builtin.append_, run_underlying ht, run_underlying htn, sizeOf, typeInfo, zeroValue, hi, hz0, hz1, hz2, asInt, asIntOf, hw, hneg, h48i, hr1, hns, h63', h48', Question.forced, zcells, hfo, newRow, grownCap]
    · simp [zerosL, hlx]
    · simp only [Array.size_append, List.size_toArray, size_zeroCells]
      simp [ints, zerosL, hlx, Value.cells]
      omega
    · have e : (ints xs ++ ints (zerosL m)).length = n + m := by simp [ints, zerosL, hlx]
      rw [Nat.mul_one, Array.toList_append, Array.toList_append, ← e, List.take_left]
      simp [ints]
theorem step_append_zeros {w : World} {ops : Array Oper} {o : Oper} {a : Act} {K : Act → World → Prop} {Q : Exit → Act → World → Prop} {E : Prop} (hg : o.guard = none) (s x : Operand)
    (hop : o.op = .call { callee := .builtin .append, args := #[s, x], argTypes := #[22, 3] }) (base g n cap : Nat) (xs : List Int) (hs : a.eval s = .slice (some ⟨g, 0, none⟩) n cap) (hown : Ow w base (.slice (some ⟨g, 0, none⟩) n cap) n xs)
    (m : Nat) (hx : a.eval x = .int .i64 m) (hm : m ≤ 64) (hn : n ≤ 4194304) (hbase : base ≤ w.heap.size)
    (h : ∀ ao' c' w', Ow w' base (.slice ao' (n + m) c') (n + m) (xs ++ zerosL m) → w.grownBy w' (some g) → ((Value.slice ao' (n + m) c').ownBlock = some g ∨ (Value.slice ao' (n + m) c').ownBlock = some w.heap.size) → K (a.put o.dst (.slice ao' (n + m) c')) w') :
    if Region.wanted o (yielded ops a.tmps) = true then Oper.wp Try.prog o a w K Q else E := by
  have hw : Region.wanted o (yielded ops a.tmps) = true := by simp [Region.wanted, hg]
  rw [if_pos hw]
  obtain ⟨v', w', hr, h2, h3, h4⟩ := run_append_zeros hown hm hn hbase o.type
  obtain ⟨ao', c', rfl, _⟩ := h2.fr
  unfold Oper.wp execOp
  simp only [hop, resolve, invoke, builtin, Sem.run_bind, Sem.run_pure, Result.andThen_ok, List.map_toArray, List.map_cons, List.map_nil, hs, hx, hr]
  exact h _ _ w' h2 h3 h4
/-- Two appends one behind the other. -/
theorem grown_two {a b c : World} {r : Option Nat} {g : Nat} (h1 : a.grownBy b r) (h2 : b.grownBy c (some g)) (hg : r = some g ∨ a.heap.size ≤ g) : a.grownBy c r :=
  ⟨h2.os.trans h1.os, h2.tape.trans h1.tape, h2.output.trans h1.output, Nat.le_trans h1.size h2.size, fun k hk hne => by
    refine (h2.block k (Nat.lt_of_lt_of_le hk h1.size) (fun e => ?_)).trans (h1.block k hk hne)
    simp only [Option.some.injEq] at e
    rcases hg with h | h
    · exact hne (by rw [h, e])
    · omega⟩
section
variable {ob : Nat} {W1 wr : World} {S vA vB : Value} {nA nB : Nat} {XA XB : List Int}
/-- 'out.A = append(append(out.A, ..), ..)': the new slice's block is the old one, or a new one. -/
theorem Ap.pushA' (h : Ap ob W1 wr S vA vB nA nB XA XB) {w' : World} {v' : Value} {n' : Nat} {XA' : List Int} (hO : Ow w' (ob + 1) v' n' XA') (hG : wr.grownBy w' vA.ownBlock) (hw : v'.ownBlock = vA.ownBlock ∨ ∃ k, v'.ownBlock = some k ∧ wr.heap.size ≤ k) :
    Ap ob W1 (w'.setCell ⟨ob, 1, Option.none⟩ v') S v' vB n' nB XA' XB := by
  have hs := h.size
  have hobA : some ob ≠ vA.ownBlock := fun e => by have := h.a.lt ob e.symm; omega
  have hout := (hG.block ob hs hobA).trans h.out
  have hne : vB.ownBlock = Option.none ∨ vB.ownBlock ≠ vA.ownBlock := by
    rcases h.ne with h1 | h1
    · cases e : vB.ownBlock with
      | none => exact .inl rfl
      | some k => exact .inr (by rw [h1]; simp)
    · exact .inr (Ne.symm h1)
  refine ⟨(h.l.grown hG (Nat.le_of_lt hs) (fun k hk => by have := h.a.lt k hk; omega)).setCell (Nat.le_refl _) _, heap_setCell_same _ _ _ _ _ _ hout, ow_setCell hO (Nat.lt_succ_self _) _, ow_setCell (h.b.grown hG hne) (Nat.lt_succ_self _) _, ?_⟩
  rcases hw with h1 | ⟨k, h1, h2⟩
  · rw [h1]; exact h.ne
  · right
    rw [h1]
    intro e
    have := h.b.lt _ e.symm
    omega
theorem Ap.pushB' (h : Ap ob W1 wr S vA vB nA nB XA XB) {w' : World} {v' : Value} {n' : Nat} {XB' : List Int} (hO : Ow w' (ob + 1) v' n' XB') (hG : wr.grownBy w' vB.ownBlock) (hw : v'.ownBlock = vB.ownBlock ∨ ∃ k, v'.ownBlock = some k ∧ wr.heap.size ≤ k) :
    Ap ob W1 (w'.setCell ⟨ob, 2, Option.none⟩ v') S vA v' nA n' XA XB' := by
  have hs := h.size
  have hobB : some ob ≠ vB.ownBlock := fun e => by have := h.b.lt ob e.symm; omega
  have hout := (hG.block ob hs hobB).trans h.out
  refine ⟨(h.l.grown hG (Nat.le_of_lt hs) (fun k hk => by have := h.b.lt k hk; omega)).setCell (Nat.le_refl _) _, heap_setCell_same _ _ _ _ _ _ hout, ow_setCell (h.a.grown hG h.ne) (Nat.lt_succ_self _) _, ow_setCell hO (Nat.lt_succ_self _) _, ?_⟩
  rcases hw with h1 | ⟨k, h1, h2⟩
  · rw [h1]; exact h.ne
  · rw [h1]
    cases e : vA.ownBlock with
    | none => exact .inl rfl
    | some j =>
      right
      intro e'
      simp only [Option.some.injEq] at e'
      have := h.a.lt j e
      omega
end
theorem ow_addr {w : World} {base : Nat} {ao : Option Addr} {n c : Nat} {xs : List Int} (h : Ow w base (.slice ao n c) n xs) (hn : 0 < n) : ∃ g, ao = some ⟨g, 0, none⟩ := by
  rcases h.1.2 with ⟨e, h0⟩ | ⟨g, cap, cur, e, _⟩
  · omega
  · cases e; exact ⟨g, rfl⟩
theorem grown_next {a b c : World} {r r2 : Option Nat} (h1 : a.grownBy b r) (h2 : b.grownBy c r2) (hg : r2 = r ∨ ∃ g, r2 = some g ∧ a.heap.size ≤ g) : a.grownBy c r :=
  ⟨h2.os.trans h1.os, h2.tape.trans h1.tape, h2.output.trans h1.output, Nat.le_trans h1.size h2.size, fun k hk hne => by
    refine (h2.block k (Nat.lt_of_lt_of_le hk h1.size) (fun e => ?_)).trans (h1.block k hk hne)
    rcases hg with h | ⟨g, h, hl⟩
    · exact hne (by rw [e, h])
    · rw [h] at e
      simp only [Option.some.injEq] at e
      omega⟩
theorem grown_below {a b : World} (h : Below a.heap.size a b) (r : Option Nat) : a.grownBy b r := ⟨h.os, h.tape, h.output, h.size, fun k hk _ => h.block k hk⟩
/-- Where the block of a second append lies. -/
theorem own_next {a b : World} {r r2 r3 : Option Nat} (hl : a.heap.size ≤ b.heap.size) (h1 : r2 = r ∨ r2 = some a.heap.size) (h2 : r3 = r2 ∨ r3 = some b.heap.size) : r3 = r ∨ ∃ k, r3 = some k ∧ a.heap.size ≤ k := by
  rcases h2 with h | h
  · rcases h1 with h' | h'
    · exact .inl (h.trans h')
    · exact .inr ⟨_, h.trans h', Nat.le_refl _⟩
  · exact .inr ⟨_, h, hl⟩
end Go.Proofs.Ytekojohhjnklkaa
