/- A region that draws its order: loads and what else yields first, then calls, allocations, appends one behind the other; then a tail, whose store may hit a cell that was loaded. -/
import Derived.Test.YtekojohhjnklkaaReg
import Derived.OrdersHeld
import Derived.Test.YtekojohhjnklkaaBase
namespace Go.Proofs.Ytekojohhjnklkaa
open Go.RowKit

section
variable {P : Program} {ops : Array Oper} {md : Region.Mode} {S : World → Prop} {Q : Exit → Act → World → Prop}

/-- Whatever order the first n operations take, S holding behind each: then R. -/
def headH (P : Program) (md : Region.Mode) (ops : Array Oper) (Q : Exit → Act → World → Prop) (S : World → Prop) (n : Nat) (R : Array Bool → Act → World → Prop) : Nat → Array Bool → Act → World → Prop
  | 0, listed, a, w => R listed a w
  | f + 1, listed, a, w =>
    Region.ready md ops listed ≠ [] ∧ ∀ i ∈ Region.ready md ops listed, i < n ∧ wpOp P ops Q i (fun a' w' => S w' ∧ headH P md ops Q S n R f (listed.setIfInBounds i true) a' w') a w
theorem wpAny_of_headH {n g : Nat} {R : Array Bool → Act → World → Prop} (hR : ∀ listed a w, R listed a w → wpAny P md ops Q g listed a w) :
    ∀ (f : Nat) (listed : Array Bool) (a : Act) (w : World), headH P md ops Q S n R f listed a w → wpAny P md ops Q (f + g) listed a w
  | 0, listed, a, w, h => by rw [Nat.zero_add]; exact hR _ _ _ h
  | f + 1, listed, a, w, h => by
    rw [show f + 1 + g = (f + g) + 1 by omega]
    exact ⟨fun h0 => absurd h0 h.1, fun i hi => wpOp_mono (fun a' w' h' => wpAny_of_headH hR f _ a' w' h'.2) (h.2 i hi).2⟩
theorem headH_first {n i : Nat} {oi : Oper} {v : Value} {R : Array Bool → Act → World → Prop} (hi : ops[i]? = some oi) (hsel : ∀ (j : Nat) (o : Oper) cs b, ops[j]? = some o → o.op ≠ .select cs b)
    (hs : Region.sinkB md ops n = true) (hc : Region.chainB md ops n = true) (hn : n < ops.size) (hin : i < n) (hQ : ∀ c a w, Q (.panic c) (a.put oi.dst v) w → Q (.panic c) a w)
    (hdone : ∀ listed a w, R listed a w → ∀ j ∈ Region.ready md ops listed, n ≤ j) :
    ∀ (f : Nat) (listed : Array Bool) (a : Act) (w : World), HeadInv md ops n listed →
      (∀ j oj, ops[j]? = some oj → j ≠ i → listed.getD j true = false → (∀ e ∈ oj.after, Region.binds md e = true → e.on ≠ i) → oi.apart ops oj = true) →
      i ∈ Region.ready md ops listed → YieldsIf P ops S oi v a → S w →
      headH P md ops Q S n R f (listed.setIfInBounds i true) (a.put oi.dst v) w → headH P md ops Q S n R (f + 1) listed a w := by
  intro f
  induction f with
  | zero =>
    intro listed a w inv _ hr hy hS H
    have hun := (mem_ready.1 hr).1
    refine ⟨fun h => (by rw [h] at hr; cases hr), fun j hj => ?_⟩
    have hjn : j < n := by
      rcases Nat.lt_or_ge j n with h | h
      · exact h
      · exact absurd hj (tail_waits hs hc hn inv _ i rfl hin hun j h)
    refine ⟨hjn, ?_⟩
    by_cases hji : j = i
    · subst hji; exact hy.wpOp hi hS ⟨hS, H⟩
    · have := hdone _ _ _ H j (ready_mono hj hji)
      omega
  | succ f ih =>
    intro listed a w inv hfree hr hy hS H
    have hun := (mem_ready.1 hr).1
    refine ⟨fun h => (by rw [h] at hr; cases hr), fun j hj => ?_⟩
    have hjn : j < n := by
      rcases Nat.lt_or_ge j n with h | h
      · exact h
      · exact absurd hj (tail_waits hs hc hn inv _ i rfl hin hun j h)
    refine ⟨hjn, ?_⟩
    by_cases hji : j = i
    · subst hji; exact hy.wpOp hi hS ⟨hS, H⟩
    · have h1 := (H.2 j (ready_mono hj hji)).2
      obtain ⟨hjun, oj, hoj, hall⟩ := mem_ready.1 hj
      have hnot : ∀ e ∈ oj.after, Region.binds md e = true → e.on ≠ i := fun e he hb heq => by
        have h1 := hall e he hb
        rw [heq, getD_both hun] at h1
        cases h1
      have h2 := wpOp_putIf hoj (hfree j oj hoj hji hjun hnot) (fun cs b => hsel i oi cs b hi) (fun cs b => hsel j oj cs b hoj) hQ hy h1
      have hfree' : ∀ k ok, ops[k]? = some ok → k ≠ i → (listed.setIfInBounds j true).getD k true = false →
          (∀ e ∈ ok.after, Region.binds md e = true → e.on ≠ i) → oi.apart ops ok = true := fun k ok hk hki hun hno => by
        refine hfree k ok hk hki ?_ hno
        by_cases hjk : j = k
        · subst hjk; exact hjun
        · rw [getD_set_ne true hjk] at hun; exact hun
      refine wpOp_mono (fun a' w' h3 => ⟨h3.2.1, ih (listed.setIfInBounds j true) a' w' (inv.set hj hjn) hfree' (ready_mono hr (Ne.symm hji)) h3.1 h3.2.1 ?_⟩) h2
      rw [Array.setIfInBounds_comm _ _ hji]
      exact h3.2.2
/-- Each yields, whatever the world of the class. -/
def wpTake (P : Program) (ops : Array Oper) (S : World → Prop) (L : Act → Prop) : List Oper → Act → Prop
  | [], a => L a
  | o :: l, a => ∃ v, YieldsIf P ops S o v a ∧ wpTake P ops S L l (a.put o.dst v)
/-- One behind the other, S holding behind each. -/
def wpMid (P : Program) (ops : Array Oper) (Q : Exit → Act → World → Prop) (S : World → Prop) (R : Act → World → Prop) : List Oper → Act → World → Prop
  | [], a, w => R a w
  | o :: l, a, w => if Region.wanted o (yielded ops a.tmps) = true then o.wp P a w (fun a' w' => S w' ∧ wpMid P ops Q S R l a' w') Q else False
theorem headH_mid {n g : Nat} {R : Act → World → Prop} : ∀ (l : List Oper) (k : Nat) (listed : Array Bool) (a : Act) (w : World), (∀ j, j < l.length → l[j]? = ops[k + j]?) → k + l.length = n →
    Region.seqB md ops (l.length + g) k listed = true → wpMid P ops Q S R l a w → headH P md ops Q S n (fun listed' a' w' => Region.seqB md ops g n listed' = true ∧ R a' w') l.length listed a w
  | [], k, listed, a, w, _, hk, hB, h => by
    have : k = n := by simpa using hk
    subst this
    exact ⟨by simpa using hB, h⟩
  | o :: l, k, listed, a, w, hl, hk, hB, h => by
    have h0 : ops[k]? = some o := by simpa using (hl 0 (by simp)).symm
    rw [List.length_cons, show l.length + 1 + g = (l.length + g) + 1 by omega] at hB
    simp only [Region.seqB, Bool.and_eq_true, decide_eq_true_eq] at hB
    simp only [List.length_cons] at hk
    refine ⟨fun h1 => (by rw [hB.1] at h1; cases h1), fun i hi => ?_⟩
    rw [hB.1] at hi
    have hik : i = k := by simpa using hi
    subst hik
    refine ⟨by omega, ?_⟩
    unfold wpOp
    simp only [h0]
    unfold wpMid at h
    by_cases hw : Region.wanted o (yielded ops a.tmps) = true
    · rw [if_pos hw] at h ⊢
      exact .inl (Oper.wp_mono (fun a' w' h' => ⟨h'.1, headH_mid l (i + 1) _ a' w' (fun j hj => by have := hl (j + 1) (by simp; omega); simpa [Nat.add_assoc, Nat.add_comm 1 j] using this) (by omega) hB.2 h'.2⟩) h)
    · rw [if_neg hw] at h
      exact h.elim
theorem headH_lex {n g : Nat} {R : Act → World → Prop} {m : List Oper} {k0 : Nat} (hsel : Region.noSelect ops = true) (hs : Region.sinkB md ops n = true) (hc : Region.chainB md ops n = true) (hn : n < ops.size) (hQ : ∀ c a d v w, Q (.panic c) (a.put d v) w → Q (.panic c) a w)
    (hm : ∀ j, j < m.length → m[j]? = ops[k0 + j]?) (hk0 : k0 + m.length = n) :
    ∀ (l : List Oper) (k : Nat) (listed : Array Bool) (a : Act) (w : World), (∀ j, j < l.length → l[j]? = ops[k + j]?) → k + l.length = k0 → HeadInv md ops n listed →
    Region.lexHead md ops (m.length + g) l.length k listed = true → S w → wpTake P ops S (fun a' => wpMid P ops Q S R m a' w) l a →
    headH P md ops Q S n (fun listed' a' w' => Region.seqB md ops g n listed' = true ∧ R a' w') (l.length + m.length) listed a w
  | [], k, listed, a, w, _, hk, _, hB, _, h => by
    have : k = k0 := by simpa using hk
    subst this
    have hr := headH_mid (P := P) (Q := Q) (S := S) (R := R) (g := g) m k listed a w hm hk0 (by simpa [Region.lexHead] using hB) h
    simpa using hr
  | o :: l, k, listed, a, w, hl, hk, inv, hB, hS, h => by
    have h0 : ops[k]? = some o := by simpa using (hl 0 (by simp)).symm
    simp only [List.length_cons, Region.lexHead, Bool.and_eq_true] at hB
    obtain ⟨⟨hr, hf⟩, hB'⟩ := hB
    have hkn : k < n := by simp only [List.length_cons] at hk; omega
    have hr' : k ∈ Region.ready md ops listed := by simpa using hr
    obtain ⟨v, hy, hK⟩ := h
    have := headH_first h0 (Region.noSelect_spec hsel) hs hc hn hkn (fun c a w => hQ c a _ v w) (fun listed' a' w' hL => seqB_ready hL.1) (l.length + m.length) listed a w inv (Region.free_spec h0 hf) hr' hy hS
      (headH_lex hsel hs hc hn hQ hm hk0 l (k + 1) _ _ w (fun j hj => by have := hl (j + 1) (by simp; omega); simpa [Nat.add_assoc, Nat.add_comm 1 j] using this) (by simp only [List.length_cons] at hk; omega) (inv.set hr' hkn) hB' hS hK)
    rw [List.length_cons, show l.length + 1 + m.length = l.length + m.length + 1 by omega]
    exact this
/-- The bool that the text of a region must meet. -/
def keptB (l : List Oper) (k n : Nat) : Bool :=
  Region.noSelect l.toArray && decide (k ≤ n) && decide (n < l.length) && Region.sinkB .any l.toArray n && Region.chainB .any l.toArray n && Region.lexHead .any l.toArray (l.length - k) k 0 (Array.replicate l.toArray.size false)
/-- The first k yield, in the order of the text; k to n come up alone; the tail behind them all. -/
theorem wp_region_kept {id : Nat} {Q : Exit → Act → World → Prop} {a : Act} {w : World} {l : List Oper} (k n : Nat) (hm : P.follows .mixedOrders = true) (hB : keptB l k n = true) (hQ : ∀ c a d v w, Q (.panic c) (a.put d v) w → Q (.panic c) a w) (hS : S w.drew)
    (h : wpTake P l.toArray S (fun a' => wpMid P l.toArray Q S (fun a'' w' => wpList P l.toArray Q (l.drop n) a'' w') ((l.take n).drop k) a' w.drew) (l.take k) a) : (Code.region id l.toArray true).wp P Q a w := by
  unfold keptB at hB
  simp only [Bool.and_eq_true, decide_eq_true_eq] at hB
  obtain ⟨⟨⟨⟨⟨hsel, hkn⟩, hn⟩, hs⟩, hc⟩, hlex⟩ := hB
  have hn' : n < l.toArray.size := by simpa using hn
  have htl : (l.take k).length = k := by simp; omega
  have hml : ((l.take n).drop k).length = n - k := by simp; omega
  have hdl : (l.drop n).length = l.length - n := by simp
  have inv0 : HeadInv .any l.toArray n (Array.replicate l.toArray.size false) :=
    ⟨by simp, fun j oj _ hl => (by rw [getD_replicate_false] at hl; cases hl), fun t _ ht => getD_in (by simpa using ht) (getD_replicate_false _ _)⟩
  have H := headH_lex (P := P) (S := S) (Q := Q) (md := .any) (g := l.length - n) (k0 := k) (m := (l.take n).drop k) hsel hs hc hn' hQ (fun j hj => by
      rw [hml] at hj
      rw [List.getElem?_drop, List.getElem?_take]
      simp [show k + j < n by omega]) (by omega) (l.take k) 0 _ a w.drew (fun j hj => by
    have hj' : j < k := by rw [htl] at hj; exact hj
    simp [hj']) (by simpa using htl) inv0 (by rw [htl, hml, show n - k + (l.length - n) = l.length - k by omega]; exact hlex) hS h
  refine wp_region_any hm ?_
  have := wpAny_of_headH (g := l.length - n) (fun listed' a' w' hL => by
    have := wpAny_of_seq (md := .any) (Q' := Q) (l.drop n) n listed' a' w' (fun j => by simp [List.getElem?_drop]) (by rw [hdl]; exact hL.1) hL.2
    rwa [hdl] at this) _ _ _ _ H
  rw [htl, hml, show k + (n - k) + (l.length - n) = l.toArray.size by simp; omega] at this
  exact this
theorem take_step {L : Act → Prop} {a : Act} {o : Oper} {rest : List Oper} (h : ∀ K : Act → Prop, Hid (∀ a', wpTake P ops S L rest a' → K a') → ∃ v, YieldsIf P ops S o v a ∧ K (a.put o.dst v)) : wpTake P ops S L (o :: rest) a :=
  h _ (hid fun _ h => h)
theorem take_val {K : Act → Prop} {a : Act} {o : Oper} (v : Value) (hg : o.guard = none)
    (hv : ∀ w, S w → (execOp a.eval o).run P w = .ok (.value v) w) (h : K (a.put o.dst v)) : ∃ v, YieldsIf P ops S o v a ∧ K (a.put o.dst v) :=
  ⟨v, .inl ⟨by simp [Region.wanted, hg], hv⟩, h⟩
theorem mid_step {R : Act → World → Prop} {a : Act} {w : World} {o : Oper} {rest : List Oper} (h : ∀ K : Act → World → Prop, Hid (∀ a' w', S w' → wpMid P ops Q S R rest a' w' → K a' w') → if Region.wanted o (yielded ops a.tmps) = true then o.wp P a w K Q else False) :
    wpMid P ops Q S R (o :: rest) a w := h _ (hid fun _ _ h1 h2 => ⟨h1, h2⟩)
theorem mid_val {K : Act → World → Prop} {a : Act} {w : World} {o : Oper} (v : Value) (w' : World) (hg : o.guard = none)
    (hv : (execOp a.eval o).run P w = .ok (.value v) w') (h : K (a.put o.dst v) w') : if Region.wanted o (yielded ops a.tmps) = true then o.wp P a w K Q else False := by
  rw [if_pos (by simp [Region.wanted, hg])]
  unfold Oper.wp
  rw [hv]
  exact h
theorem mid_call {K : Act → World → Prop} {a : Act} {w : World} {o : Oper} (f : FuncId) (args : Array Value) (hg : o.guard = none)
    (he : (execOp a.eval o).run P w = .ok (.enter f args) w) (hv : Calls P f args w fun e w' => ∃ v, e = .returned v ∧ K (a.put o.dst v) w') : if Region.wanted o (yielded ops a.tmps) = true then o.wp P a w K Q else False := by
  rw [if_pos (by simp [Region.wanted, hg])]
  unfold Oper.wp
  rw [he]
  exact Calls.mono hv (fun e w' ⟨v, h1, h2⟩ => by subst h1; exact h2)
end
end Go.Proofs.Ytekojohhjnklkaa
