/- A region that draws its order, its loads taken first in an order of the prover's own. -/
import Derived.Test.YtekojohhjnklkaaHold
namespace Go.Proofs.Ytekojohhjnklkaa
open Go.RowKit

section
variable {P : Program} {l : List Oper} {S : World → Prop} {Q : Exit → Act → World → Prop} {n : Nat}

/-- What the walk leans on: the tail from n on waits for all that is before it. -/
structure Rg (l : List Oper) (Q : Exit → Act → World → Prop) (n : Nat) : Prop where
  sel : Region.noSelect l.toArray = true
  lt : n < l.length
  sink : Region.sinkB .any l.toArray n = true
  chain : Region.chainB .any l.toArray n = true
  pan : ∀ c a d v w, Q (.panic c) (a.put d v) w → Q (.panic c) a w
/-- f of the first n are still to come. -/
def HH (P : Program) (l : List Oper) (Q : Exit → Act → World → Prop) (S : World → Prop) (n f : Nat) (listed : Array Bool) (a : Act) (w : World) : Prop :=
  HeadInv .any l.toArray n listed → headH P .any l.toArray Q S n (fun listed' a' w' => Region.seqB .any l.toArray (l.length - n) n listed' = true ∧ wpList P l.toArray Q (l.drop n) a' w') f listed a w
theorem wp_region_hh {id : Nat} {a : Act} {w : World} (hg : Rg l Q n) (hm : P.follows .mixedOrders = true) (h : HH P l Q S n n (Array.replicate l.length false) a w.drew) : (Code.region id l.toArray true).wp P Q a w := by
  have inv0 : HeadInv .any l.toArray n (Array.replicate l.length false) :=
    ⟨by simp, fun j oj _ hl => (by rw [getD_replicate_false] at hl; cases hl), fun t _ ht => getD_in (by simpa using ht) (getD_replicate_false _ _)⟩
  refine wp_region_any hm ?_
  have := wpAny_of_headH (g := l.length - n) (fun listed' a' w' hL => by
    have := wpAny_of_seq (md := .any) (Q' := Q) (l.drop n) n listed' a' w' (fun j => by simp [List.getElem?_drop]) (by rw [List.length_drop]; exact hL.1) hL.2
    rwa [List.length_drop] at this) _ _ _ _ (h inv0)
  rw [show n + (l.length - n) = l.toArray.size by have := hg.lt; simp; omega] at this
  simpa using this
theorem hh_take (i : Nat) {oi : Oper} {f : Nat} {listed : Array Bool} {a : Act} {w : World} (hg : Rg l Q n) (hi : l.toArray[i]? = some oi) (hin : i < n) (hf : Region.free .any l.toArray listed i = true) (hr : (Region.ready .any l.toArray listed).contains i = true) (hS : S w)
    (h : ∀ K : Act → Prop, Hid (∀ a', HH P l Q S n f (listed.setIfInBounds i true) a' w → K a') → ∃ v, YieldsIf P l.toArray S oi v a ∧ K (a.put oi.dst v)) : HH P l Q S n (f + 1) listed a w := by
  intro inv
  obtain ⟨v, hy, hK⟩ := h (fun a' => HH P l Q S n f (listed.setIfInBounds i true) a' w) (hid fun _ h => h)
  have hr' : i ∈ Region.ready .any l.toArray listed := by simpa using hr
  exact headH_first hi (Region.noSelect_spec hg.sel) hg.sink hg.chain (by simpa using hg.lt) hin (fun c a w => hg.pan c a _ v w) (fun listed' a' w' hL => seqB_ready hL.1) f listed a w inv (Region.free_spec hi hf) hr' hy hS (hK (inv.set hr' hin))
theorem hh_mid (i : Nat) {oi : Oper} {f : Nat} {listed : Array Bool} {a : Act} {w : World} (hi : l.toArray[i]? = some oi) (hin : i < n) (hr : Region.ready .any l.toArray listed = [i])
    (h : ∀ K : Act → World → Prop, Hid (∀ a' w', S w' → HH P l Q S n f (listed.setIfInBounds i true) a' w' → K a' w') → if Region.wanted oi (yielded l.toArray a.tmps) = true then oi.wp P a w K Q else False) : HH P l Q S n (f + 1) listed a w := by
  intro inv
  have h := h (fun a' w' => S w' ∧ HH P l Q S n f (listed.setIfInBounds i true) a' w') (hid fun _ _ h1 h2 => ⟨h1, h2⟩)
  refine ⟨fun h1 => (by rw [h1] at hr; cases hr), fun j hj => ?_⟩
  have hj' := hj
  rw [hr] at hj
  have hji : j = i := by simpa using hj
  subst hji
  refine ⟨hin, ?_⟩
  unfold wpOp
  simp only [hi]
  by_cases hw : Region.wanted oi (yielded l.toArray a.tmps) = true
  · rw [if_pos hw] at h ⊢
    exact .inl (Oper.wp_mono (fun a' w' h' => ⟨h'.1, h'.2 (inv.set hj' hin)⟩) h)
  · rw [if_neg hw] at h
    exact h.elim
/-- Two may come up: one goal for each. -/
theorem hh_two (i j : Nat) {oi oj : Oper} {f : Nat} {listed : Array Bool} {a : Act} {w : World} (hi : l.toArray[i]? = some oi) (hj : l.toArray[j]? = some oj) (hin : i < n) (hjn : j < n) (hr : Region.ready .any l.toArray listed = [i, j])
    (h : ∀ K : Act → World → Prop, Hid (∀ a' w', S w' → HH P l Q S n f (listed.setIfInBounds i true) a' w' → K a' w') → if Region.wanted oi (yielded l.toArray a.tmps) = true then oi.wp P a w K Q else False)
    (h' : ∀ K : Act → World → Prop, Hid (∀ a' w', S w' → HH P l Q S n f (listed.setIfInBounds j true) a' w' → K a' w') → if Region.wanted oj (yielded l.toArray a.tmps) = true then oj.wp P a w K Q else False) : HH P l Q S n (f + 1) listed a w := by
  intro inv
  have one : ∀ (k : Nat) (ok : Oper), l.toArray[k]? = some ok → k < n → k ∈ Region.ready .any l.toArray listed →
      (∀ K : Act → World → Prop, Hid (∀ a' w', S w' → HH P l Q S n f (listed.setIfInBounds k true) a' w' → K a' w') → if Region.wanted ok (yielded l.toArray a.tmps) = true then ok.wp P a w K Q else False) →
      wpOp P l.toArray Q k (fun a' w' => S w' ∧ headH P .any l.toArray Q S n (fun listed' a' w' => Region.seqB .any l.toArray (l.length - n) n listed' = true ∧ wpList P l.toArray Q (l.drop n) a' w') f (listed.setIfInBounds k true) a' w') a w := by
    intro k ok hk hkn hrk h
    have h := h (fun a' w' => S w' ∧ HH P l Q S n f (listed.setIfInBounds k true) a' w') (hid fun _ _ h1 h2 => ⟨h1, h2⟩)
    unfold wpOp
    simp only [hk]
    by_cases hw : Region.wanted ok (yielded l.toArray a.tmps) = true
    · rw [if_pos hw] at h ⊢
      exact .inl (Oper.wp_mono (fun a' w' h' => ⟨h'.1, h'.2 (inv.set hrk hkn)⟩) h)
    · rw [if_neg hw] at h
      exact h.elim
  refine ⟨fun h1 => (by rw [h1] at hr; cases hr), fun k hk => ?_⟩
  have hk' := hk
  rw [hr] at hk
  rcases List.mem_cons.1 hk with rfl | hk
  · exact ⟨hin, one _ oi hi hin hk' h⟩
  · obtain rfl : k = j := by simpa using hk
    exact ⟨hjn, one _ oj hj hjn hk' h'⟩
theorem hh_done {listed : Array Bool} {a : Act} {w : World} (hB : Region.seqB .any l.toArray (l.length - n) n listed = true) (h : wpList P l.toArray Q (l.drop n) a w) : HH P l Q S n 0 listed a w := fun _ => ⟨hB, h⟩
end
end Go.Proofs.Ytekojohhjnklkaa
