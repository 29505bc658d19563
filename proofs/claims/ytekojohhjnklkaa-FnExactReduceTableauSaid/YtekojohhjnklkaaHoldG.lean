/- Hold2's steps at guarded operations. -/
import Derived.Test.YtekojohhjnklkaaHold2
namespace Go.Proofs.Ytekojohhjnklkaa
open Go.RowKit
section
variable {P : Program} {ops : Array Oper} {S : World → Prop} {Q : Exit → Act → World → Prop}
theorem take_valG {K : Act → Prop} {a : Act} {o : Oper} (v : Value) (hw : Region.wanted o (yielded ops a.tmps) = true)
    (hv : ∀ w, S w → (execOp a.eval o).run P w = .ok (.value v) w) (h : K (a.put o.dst v)) : ∃ v, YieldsIf P ops S o v a ∧ K (a.put o.dst v) :=
  ⟨v, .inl ⟨hw, hv⟩, h⟩
theorem take_skip {K : Act → Prop} {a : Act} {o : Oper} (hw : Region.wanted o (yielded ops a.tmps) = false) (h : K (a.put o.dst undef)) : ∃ v, YieldsIf P ops S o v a ∧ K (a.put o.dst v) :=
  ⟨undef, .inr ⟨hw, rfl⟩, h⟩
theorem mid_callG {K : Act → World → Prop} {a : Act} {w : World} {o : Oper} (f : FuncId) (args : Array Value) (hw : Region.wanted o (yielded ops a.tmps) = true)
    (he : (execOp a.eval o).run P w = .ok (.enter f args) w) (hv : Calls P f args w fun e w' => ∃ v, e = .returned v ∧ K (a.put o.dst v) w') : if Region.wanted o (yielded ops a.tmps) = true then o.wp P a w K Q else False := by
  rw [if_pos hw]
  unfold Oper.wp
  rw [he]
  exact Calls.mono hv (fun e w' ⟨v, h1, h2⟩ => by subst h1; exact h2)
end
end Go.Proofs.Ytekojohhjnklkaa
