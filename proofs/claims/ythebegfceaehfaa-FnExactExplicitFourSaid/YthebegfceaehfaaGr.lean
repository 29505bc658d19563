/- A matrix that is being made: rows of the call's own, appended to one after the other, in an outer slice of the call's own. -/
import Derived.Test.YthebegfceaehfaaAp
import Derived.Test.YthebegfceaehfaaRedP
namespace Go.Proofs.Ythebegfceaehfaa
open Go.RowKit

/-- The outer slice v has N rows, row i as the value ro i, of wd i numbers m i. -/
structure Gr (w : World) (lo : Nat) (v : Value) (N : Nat) (ro : Nat → Value) (wd : Nat → Nat) (m : Nat → Nat → Int) : Prop where
  out : w.ownsRow lo 22 1 v N ((List.range N).map ro)
  row : ∀ i, i < N → Ow w lo (ro i) (wd i) ((List.range (wd i)).map (m i))
  sep : ∀ i, i < N → v.ownBlock ≠ (ro i).ownBlock
  one : ∀ i, i < N → (ro i).ownBlock ≠ none
  inj : ∀ i k, i < N → k < N → (ro i).ownBlock = (ro k).ownBlock → i = k
section
variable {w w' : World} {lo : Nat} {v : Value} {N : Nat} {ro : Nat → Value} {wd : Nat → Nat} {m : Nat → Nat → Int}
theorem gr_below_grown (hB : Below w.heap.size w w') : w.grownBy w' none := ⟨hB.os, hB.tape, hB.output, hB.size, fun k hk _ => hB.block k hk⟩
theorem none_or (x : Option Nat) : x = none ∨ x ≠ none := by cases x <;> simp
theorem Gr.below (h : Gr w lo v N ro wd m) (hB : Below w.heap.size w w') : Gr w' lo v N ro wd m :=
  ⟨h.out.kept (gr_below_grown hB) (none_or _), fun i hi => (h.row i hi).below hB, h.sep, h.one, h.inj⟩
theorem Gr.alloc (h : Gr w lo v N ro wd m) (o : Obj) : Gr (w.alloc o) lo v N ro wd m := h.below (below_box _ _)
theorem Gr.drew (h : Gr w lo v N ro wd m) : Gr w.drew lo v N ro wd m := h.below ((Below.refl _ _).drew)
/-- A block that is neither the outer one nor a row's is written. -/
theorem Gr.grown (h : Gr w lo v N ro wd m) {r : Option Nat} (hg : w.grownBy w' r) (h1 : v.ownBlock = none ∨ v.ownBlock ≠ r) (h2 : ∀ i, i < N → (ro i).ownBlock ≠ r) : Gr w' lo v N ro wd m :=
  ⟨h.out.kept hg h1, fun i hi => (h.row i hi).grown hg (.inr (h2 i hi)), h.sep, h.one, h.inj⟩
theorem Gr.empty (w : World) (lo : Nat) (hb : lo ≤ w.heap.size) (ro : Nat → Value) (wd : Nat → Nat) (m : Nat → Nat → Int) : Gr (w.alloc (.cells #[] 22)) lo (.slice (some ⟨w.heap.size, 0, none⟩) 0 0) 0 ro wd m :=
  ⟨World.ownsRow_made w #[] 0 hb (by unfold maxLen; omega) (by simp), fun i hi => absurd hi (Nat.not_lt_zero i), fun i hi => absurd hi (Nat.not_lt_zero i), fun i hi => absurd hi (Nat.not_lt_zero i), fun i k hi => absurd hi (Nat.not_lt_zero i)⟩
theorem Gr.congr {ro' : Nat → Value} {wd' : Nat → Nat} {m' : Nat → Nat → Int} (h : Gr w lo v N ro wd m) (h0 : ∀ i, i < N → ro i = ro' i) (h1 : ∀ i, i < N → wd i = wd' i) (h2 : ∀ i, i < N → ∀ j, j < wd i → m i j = m' i j) : Gr w lo v N ro' wd' m' := by
  refine ⟨?_, fun i hi => ?_, fun i hi => h0 i hi ▸ h.sep i hi, fun i hi => h0 i hi ▸ h.one i hi, fun i k hi hk he => h.inj i k hi hk (by rw [h0 i hi, h0 k hk]; exact he)⟩
  · have e : (List.range N).map ro' = (List.range N).map ro := List.map_congr_left fun i hi => (h0 i (List.mem_range.1 hi)).symm
    rw [e]; exact h.out
  · have e : (List.range (wd i)).map (m' i) = (List.range (wd i)).map (m i) := List.map_congr_left fun j hj => (h2 i hi j (List.mem_range.1 hj)).symm
    rw [← h0 i hi, ← h1 i hi, e]
    exact h.row i hi
/-- A block made behind it is none of its own. -/
theorem Gr.apart (h : Gr w lo v N ro wd m) {x : Value} (hxo : x.ownBlock ≠ none) (hx : ∀ q, x.ownBlock = some q → w.heap.size ≤ q) : x.ownBlock ≠ v.ownBlock ∧ ∀ i, i < N → x.ownBlock ≠ (ro i).ownBlock := by
  obtain ⟨q, hq⟩ : ∃ q, x.ownBlock = some q := by
    cases e : x.ownBlock with
    | none => exact absurd e hxo
    | some q => exact ⟨q, rfl⟩
  have h1 := hx q hq
  refine ⟨fun e => ?_, fun i hi e => ?_⟩
  · have := (h.out.lt q (e.symm.trans hq)).2; omega
  · have := ((h.row i hi).lt q (e.symm.trans hq)).2; omega
/-- A block behind it is written. -/
theorem Gr.above (h : Gr w lo v N ro wd m) {w1 : World} (hB : Below w.heap.size w w1) {q : Nat} (hg : w1.grownBy w' (some q)) (hr : w.heap.size ≤ q) : Gr w' lo v N ro wd m := by
  refine (h.below hB).grown hg (.inr fun e => ?_) fun i hi e => ?_
  · have := (h.out.lt q e).2; omega
  · have := ((h.row i hi).lt q e).2; omega
/-- The outer slice's cell. -/
theorem Gr.cell (h : Gr w lo v N ro wd m) {ob i : Nat} (hv : v.ownBlock = some ob) (hi : i < N) : w.cell? ⟨ob, i, none⟩ = some (ro i) ∧ w.frozen? ⟨ob, i, none⟩ = false := by
  have hc := h.out.cells hv i (ro i) (by simp [hi])
  rw [Addr.add_lit, Nat.zero_add] at hc
  refine ⟨hc, ?_⟩
  rcases h.out.2 with ⟨e1, _⟩ | ⟨g, cap, cur, e1, _, hh, _⟩
  · rw [e1] at hv; cases hv
  · rw [e1] at hv
    simp only [Value.ownBlock, Option.some.injEq] at hv
    subst hv
    exact frozen_of_row w g i cur _ hh
theorem Gr.pick (h : Gr w lo v N ro wd m) {i k : Nat} (hi : i < N) (hk : wd i = k) : ∃ b c, ro i = .slice (some ⟨b, 0, none⟩) k c ∧ Ow w lo (.slice (some ⟨b, 0, none⟩) k c) k ((List.range k).map (m i)) := by
  have hr := h.row i hi
  rw [hk] at hr
  rcases hr.1.2 with ⟨e, _⟩ | ⟨g, cap, cur, e, _⟩
  · exact absurd (by rw [e]; rfl) (h.one i hi)
  · exact ⟨g, cap, e, e ▸ hr⟩
theorem Gr.slc (h : Gr w lo v N ro wd m) (hN : 0 < N) : ∃ ob cc, v = .slice (some ⟨ob, 0, none⟩) N cc ∧ N ≤ cc ∧ cc ≤ 9223372036854775807 := by
  rcases h.out.2 with ⟨_, e⟩ | ⟨g, cap, cur, e, _, _, h2, h3, _⟩
  · omega
  · exact ⟨g, cap, e, h2, by unfold maxLen at h3; omega⟩
theorem Gr.fr (h : Gr w lo v N ro wd m) : ∃ ao c, v = .slice ao N c ∧ N ≤ c ∧ c ≤ 9223372036854775807 := by
  rcases h.out.2 with ⟨h1, h2⟩ | ⟨g, cap, cur, h1, _, _, h2, h3, _⟩
  · subst h2; exact ⟨none, 0, h1, Nat.le_refl _, by omega⟩
  · exact ⟨_, cap, h1, h2, by unfold maxLen at h3; omega⟩
theorem info_row : (Try.prog.info? 22).map (fun i => (i.zero, i.size, i.bytes)) = some (some (.slice none 0 0), 1, 24) := by kernel_rfl
/-- 'out = append(out, row)'. -/
theorem run_append_row (h : Gr w lo v N ro wd m) {x : Value} {k : Nat} {r : Nat → Int} (hx : Ow w lo x k ((List.range k).map r)) (hxo : x.ownBlock ≠ none) (hxv : x.ownBlock ≠ v.ownBlock) (hxr : ∀ i, i < N → x.ownBlock ≠ (ro i).ownBlock)
    {b : Nat} (hc : w.cell? ⟨b, 0, none⟩ = some x) (hN : N ≤ 1000) (hlo : lo ≤ w.heap.size) (ty : TypeId) :
    ∃ v' w', (Builtin.append_ #[55, 55] ty #[v, .slice (some ⟨b, 0, none⟩) 1 1]).run Try.prog w = .ok v' w' ∧
      Gr w' lo v' (N + 1) (fun i => if i = N then x else ro i) (fun i => if i = N then k else wd i) (fun i => if i = N then r else m i) ∧ w.grownBy w' v.ownBlock ∧ (v'.ownBlock = v.ownBlock ∨ v'.ownBlock = some w.heap.size) := by
  obtain ⟨i, hi, hz0, hz1, hz2⟩ := info_parts info_row
  obtain ⟨v', w', h1, h2, h3, _, h5⟩ := run_append_own_at (P := Try.prog) w lo 55 ty 22 i (.slice none 0 0) 1 24 Try.underlying55 hi hz0 hz1 hz2 rfl (by decide) v N _ h.out ⟨b, 0, none⟩ 1 1 [x] rfl
    (fun j u hj => by
      match j, hj with
      | 0, hj => simp only [List.getElem?_cons_zero, Option.some.injEq] at hj; subst hj; simpa [Addr.add] using hc)
    (fun u hu => by
      simp only [List.mem_cons, List.not_mem_nil, or_false] at hu
      subst hu
      obtain ⟨ao, c, e, _⟩ := hx.fr
      rw [e]; rfl) (by unfold maxLen; omega) (by omega) hlo
  refine ⟨v', w', h1, ?_, h3, h5⟩
  have hlt : ∀ i, i < N → i ≠ N := fun i hi => by omega
  have hof : v'.ownBlock = v.ownBlock ∨ v'.ownBlock = some w.heap.size := h5
  have hv' : ∀ y : Option Nat, y ≠ v.ownBlock → (∀ q, y = some q → q < w.heap.size) → v'.ownBlock ≠ y := by
    intro y hy hq e
    rcases hof with h6 | h6
    · exact hy (e.symm.trans h6)
    · have := hq _ (e.symm.trans h6); omega
  refine ⟨?_, fun i hi => ?_, fun i hi => ?_, fun i hi => ?_, fun i k hi hk he => ?_⟩
  · rw [List.range_succ, List.map_append, List.map_cons, List.map_nil, if_pos rfl, List.map_congr_left (g := ro) (fun i hi => if_neg (hlt i (List.mem_range.1 hi)))]
    exact h2
  · by_cases e : i = N
    · subst e
      simp only [if_pos]
      exact hx.grown h3 (.inr hxv)
    · have hi' : i < N := by omega
      simp only [if_neg e]
      exact (h.row i hi').grown h3 (.inr (Ne.symm (h.sep i hi')))
  · by_cases e : i = N
    · simp only [if_pos e]
      exact hv' _ hxv (fun q hq => (hx.lt q hq).2)
    · have hi' : i < N := by omega
      simp only [if_neg e]
      exact hv' _ (Ne.symm (h.sep i hi')) (fun q hq => ((h.row i hi').lt q hq).2)
  · by_cases e : i = N
    · simp only [if_pos e]; exact hxo
    · simp only [if_neg e]; exact h.one i (by omega)
  · by_cases e : i = N
    · by_cases e2 : k = N
      · rw [e, e2]
      · simp only [if_pos e, if_neg e2] at he
        exact absurd he (hxr k (by omega))
    · by_cases e2 : k = N
      · simp only [if_neg e, if_pos e2] at he
        exact absurd he.symm (hxr i (by omega))
      · simp only [if_neg e, if_neg e2] at he
        exact h.inj i k (by omega) (by omega) he
theorem wpList_append_row (w : World) {ops : Array Oper} {rest : List Oper} {o : Oper} {a : Act} {Q : Exit → Act → World → Prop} (hg : o.guard = none) (s y : Operand)
    (hop : o.op = .call { callee := .builtin .append, args := #[s, y], argTypes := #[55, 55] }) {lo : Nat} {v : Value} {N : Nat} {ro : Nat → Value} {wd : Nat → Nat} {m : Nat → Nat → Int} (hs : a.eval s = v) (h : Gr w lo v N ro wd m) {x : Value} {k : Nat} {r : Nat → Int}
    (hx : Ow w lo x k ((List.range k).map r)) (hxo : x.ownBlock ≠ none) (hxv : x.ownBlock ≠ v.ownBlock) (hxr : ∀ i, i < N → x.ownBlock ≠ (ro i).ownBlock)
    (b : Nat) (hy : a.eval y = .slice (some ⟨b, 0, none⟩) 1 1) (hc : w.cell? ⟨b, 0, none⟩ = some x) (hN : N ≤ 1000) (hlo : lo ≤ w.heap.size)
    (hK : ∀ v' w', Gr w' lo v' (N + 1) (fun i => if i = N then x else ro i) (fun i => if i = N then k else wd i) (fun i => if i = N then r else m i) → w.grownBy w' v.ownBlock → (v'.ownBlock = v.ownBlock ∨ v'.ownBlock = some w.heap.size) → wpList Try.prog ops Q rest (a.put o.dst v') w') : wpList Try.prog ops Q (o :: rest) a w :=
  wpList_plain hg fun _ hK' => by
    obtain ⟨v', w', hr, h2, h3, h4⟩ := run_append_row h hx hxo hxv hxr hc hN hlo o.type
    unfold Oper.wp execOp
    simp only [hop, resolve, invoke, builtin, Sem.run_bind, Sem.run_pure, Result.andThen_ok, List.map_toArray, List.map_cons, List.map_nil, hs, hy, hr]
    exact hK' _ _ (hK _ w' h2 h3 h4)
theorem step_append_row {w : World} {ops : Array Oper} {o : Oper} {a : Act} {K : Act → World → Prop} {Q : Exit → Act → World → Prop} {E : Prop} (hg : o.guard = none) (s y : Operand)
    (hop : o.op = .call { callee := .builtin .append, args := #[s, y], argTypes := #[55, 55] }) {lo : Nat} {v : Value} {N : Nat} {ro : Nat → Value} {wd : Nat → Nat} {m : Nat → Nat → Int} (hs : a.eval s = v) (h : Gr w lo v N ro wd m) {x : Value} {k : Nat} {r : Nat → Int}
    (hx : Ow w lo x k ((List.range k).map r)) (hxo : x.ownBlock ≠ none) (hxv : x.ownBlock ≠ v.ownBlock) (hxr : ∀ i, i < N → x.ownBlock ≠ (ro i).ownBlock)
    (b : Nat) (hy : a.eval y = .slice (some ⟨b, 0, none⟩) 1 1) (hc : w.cell? ⟨b, 0, none⟩ = some x) (hN : N ≤ 1000) (hlo : lo ≤ w.heap.size)
    (hK : ∀ v' w', Gr w' lo v' (N + 1) (fun i => if i = N then x else ro i) (fun i => if i = N then k else wd i) (fun i => if i = N then r else m i) → w.grownBy w' v.ownBlock → (v'.ownBlock = v.ownBlock ∨ v'.ownBlock = some w.heap.size) → K (a.put o.dst v') w') :
    if Region.wanted o (yielded ops a.tmps) = true then Oper.wp Try.prog o a w K Q else E := by
  have hw : Region.wanted o (yielded ops a.tmps) = true := by simp [Region.wanted, hg]
  rw [if_pos hw]
  obtain ⟨v', w', hr, h2, h3, h4⟩ := run_append_row h hx hxo hxv hxr hc hN hlo o.type
  unfold Oper.wp execOp
  simp only [hop, resolve, invoke, builtin, Sem.run_bind, Sem.run_pure, Result.andThen_ok, List.map_toArray, List.map_cons, List.map_nil, hs, hy, hr]
  exact hK _ w' h2 h3 h4
/-- A row's cell of the outer slice is written: the row has grown by one number. -/
theorem Gr.push (h : Gr w lo v N ro wd m) {i ob : Nat} (hi : i < N) (hv : v.ownBlock = some ob) {x : Value} {y : Int} (hO : Ow w' lo x (wd i + 1) ((List.range (wd i)).map (m i) ++ [y])) (hg : w.grownBy w' (ro i).ownBlock) (hw : x.ownBlock = (ro i).ownBlock ∨ x.ownBlock = some w.heap.size) :
    Gr (w'.setCell ⟨ob, i, none⟩ x) lo v N (fun j => if j = i then x else ro j) (fun j => if j = i then wd i + 1 else wd j) (fun j => if j = i then fun t => if t = wd i then y else m i t else m j) := by
  have hob := h.out.lt ob hv
  have hsz : some w.heap.size ≠ some ob := fun e => by simp only [Option.some.injEq] at e; omega
  have hxv : x.ownBlock ≠ some ob := by
    rcases hw with h1 | h1
    · rw [h1, ← hv]; exact Ne.symm (h.sep i hi)
    · rw [h1]; exact hsz
  have hout := h.out.kept hg (.inr (h.sep i hi))
  have hgs := grown_setCell w' ob i x
  have hxj : ∀ j, j < N → j ≠ i → x.ownBlock ≠ (ro j).ownBlock := by
    intro j hj hji e
    rcases hw with h1 | h1
    · exact hji (h.inj j i hj hi (e.symm.trans h1))
    · have := ((h.row j hj).lt _ (e.symm.trans h1)).2; omega
  refine ⟨⟨by simp, ?_⟩, fun j hj => ?_, fun j hj => ?_, fun j hj => ?_, fun j k hj hk he => ?_⟩
  · rcases hout.2 with ⟨e1, _⟩ | ⟨g, cap, cur, e1, hb, hh, hc1, hc2, hc3, hc4⟩
    · rw [e1] at hv; cases hv
    · rw [e1] at hv
      simp only [Value.ownBlock, Option.some.injEq] at hv
      subst hv
      refine .inr ⟨g, cap, cur.setIfInBounds i x, e1, hb, heap_setCell_same _ _ _ _ _ _ hh, hc1, hc2, by simpa using hc3, ?_⟩
      rw [Array.toList_setIfInBounds, List.take_set, hc4]
      apply List.ext_getElem
      · simp
      · intro q q1 q2
        simp only [List.getElem_set, List.getElem_map, List.getElem_range]
        by_cases e : i = q
        · subst e; simp
        · rw [if_neg e, if_neg (Ne.symm e)]
  · by_cases e : j = i
    · subst e
      simp only [if_pos]
      refine Ow.grown ?_ hgs (.inr hxv)
      rw [List.range_succ, List.map_append, List.map_cons, List.map_nil, if_pos rfl, List.map_congr_left (g := m j) (fun t ht => if_neg (by have := List.mem_range.1 ht; omega))]
      exact hO
    · simp only [if_neg e]
      refine Ow.grown ?_ hgs (.inr ?_)
      · exact (h.row j hj).grown hg (.inr (fun e' => e (h.inj j i hj hi e')))
      · rw [← hv]; exact Ne.symm (h.sep j hj)
  · by_cases e : j = i
    · simp only [if_pos e]; rw [hv]; exact Ne.symm hxv
    · simp only [if_neg e]; exact h.sep j hj
  · by_cases e : j = i
    · simp only [if_pos e]
      rcases hw with h1 | h1
      · rw [h1]; exact h.one i hi
      · rw [h1]; simp
    · simp only [if_neg e]; exact h.one j hj
  · by_cases e : j = i
    · by_cases e2 : k = i
      · rw [e, e2]
      · simp only [if_pos e, if_neg e2] at he
        exact absurd he (hxj k hk e2)
    · by_cases e2 : k = i
      · simp only [if_neg e, if_pos e2] at he
        exact absurd he.symm (hxj j hj e)
      · simp only [if_neg e, if_neg e2] at he
        exact h.inj j k hj hk he
/-- What is made is a matrix. -/
theorem Gr.mat (h : Gr w lo v N ro wd m) (hN : 0 < N) {W : Nat} (hW : ∀ i, i < N → wd i = W) (hnum : ∀ i j, i < N → j < W → M.num (m i j)) :
    ∃ ob cc hb hc, v = .slice (some ⟨ob, 0, none⟩) N cc ∧ N ≤ cc ∧ cc ≤ 9223372036854775807 ∧ Mat w lo w.heap.size ob N W hb hc m := by
  rcases h.out.2 with ⟨e1, e2⟩ | ⟨g, cap, cur, e1, hb, hh, hc1, hc2, hc3, hc4⟩
  · omega
  · have hg : v.ownBlock = some g := by rw [e1]; rfl
    have hl := h.out.lt g hg
    have hsl : ∀ i, i < N → ∃ b c, ro i = .slice (some ⟨b, 0, none⟩) W c ∧ W ≤ c ∧ c ≤ 9223372036854775807 ∧ (lo ≤ b ∧ b < w.heap.size) ∧ b ≠ g := by
      intro i hi
      have hr := (h.row i hi).1
      have h1 := h.one i hi
      have hs := h.sep i hi
      rcases hr.2 with ⟨e3, e4⟩ | ⟨b, c, cu, e3, hb3, hh3, hc5, hc6, _⟩
      · rw [e3] at h1; exact absurd rfl h1
      · refine ⟨b, c, by rw [e3, hW i hi], by rw [← hW i hi]; exact hc5, by unfold maxLen at hc6; omega, hr.lt b (by rw [e3]; rfl), fun e => hs ?_⟩
        rw [hg, e3, ← e]; rfl
    have hb' : ∀ i, ∃ p : Nat × Nat, i < N → ro i = .slice (some ⟨p.1, 0, none⟩) W p.2 ∧ W ≤ p.2 ∧ p.2 ≤ 9223372036854775807 ∧ (lo ≤ p.1 ∧ p.1 < w.heap.size) ∧ p.1 ≠ g := by
      intro i
      by_cases hi : i < N
      · obtain ⟨b, c, h1⟩ := hsl i hi
        exact ⟨(b, c), fun _ => h1⟩
      · exact ⟨(0, 0), fun h => absurd h hi⟩
    obtain ⟨f, hf⟩ := Classical.axiomOfChoice hb'
    refine ⟨g, cap, fun i => (f i).1, fun i => (f i).2, e1, hc1, by unfold maxLen at hc2; omega, ⟨⟨hl.1, hl.2⟩, Nat.le_refl _, fun i hi => ?_, fun i hi j hj => ?_, hnum, fun i hi => ⟨(hf i hi).2.2.2.1, (hf i hi).2.2.2.2, (hf i hi).2.1, (hf i hi).2.2.1⟩, fun i k hi hk e => ?_⟩⟩
    · have hcell := h.out.cells hg i (ro i) (by simp [hi])
      rw [Addr.add_lit, Nat.zero_add, (hf i hi).1] at hcell
      exact ⟨hcell, frozen_of_row w g i cur _ hh⟩
    · have hF := (h.row i hi).fr
      obtain ⟨ao, c, e2, hfr⟩ := hF
      rw [(hf i hi).1, hW i hi] at e2
      simp only [Value.slice.injEq] at e2
      obtain ⟨rfl, _, rfl⟩ := e2
      rw [hW i hi] at hfr
      obtain ⟨b, o, e3, hc⟩ := hfr.rd.cell j hj
      simp only [Option.some.injEq, Addr.mk.injEq, and_true] at e3
      obtain ⟨rfl, rfl⟩ := e3
      rw [Nat.zero_add] at hc
      have hz := (hfr.own _ _ _ rfl (by omega)).2 j hj
      rw [Nat.zero_add] at hz
      exact ⟨by rw [hc]; simp [List.getD, hj], hz⟩
    · refine h.inj i k hi hk ?_
      rw [(hf i hi).1, (hf k hk).1]
      simp [Value.ownBlock, e]
end
end Go.Proofs.Ythebegfceaehfaa
