/- ComposeTableaus of the implementation. -/
import Derived.Test.YthebegfceaehfaaCmpL
import Derived.Test.YthebegfceaehfaaQuiet
import Derived.StillTailTactics
import Derived.Test.YthebegfceaehfaaHold
namespace Go.Proofs.Ythebegfceaehfaa
open Go.RowKit

/-- 'out' is a struct at ob, its fields the blocks bA, bB, known whole; what lay below lo in W1 is as it was. -/
structure Cw (lo : Nat) (W1 wr : World) (S : Value) (ob bA bB nA nB : Nat) (XA XB : List Int) : Prop where
  l : Below lo W1 wr
  out : wr.heap[ob]? = some (.cells #[S, .slice (some ⟨bA, 0, none⟩) nA nA, .slice (some ⟨bB, 0, none⟩) nB nB] 27 (0, 0))
  a : Bi wr bA XA
  b : Bi wr bB XB
theorem Cw.below {lo : Nat} {W1 wr w' : World} {S : Value} {ob bA bB nA nB : Nat} {XA XB : List Int} (h : Cw lo W1 wr S ob bA bB nA nB XA XB) (hb : Below wr.heap.size wr w') (hl : lo ≤ wr.heap.size) : Cw lo W1 w' S ob bA bB nA nB XA XB :=
  ⟨h.l.trans (hb.mono hl), bk_below h.out hb, h.a.below hb, h.b.below hb⟩
theorem Cw.old {lo : Nat} {W1 wr : World} {S : Value} {ob bA bB nA nB : Nat} {XA XB : List Int} (h : Cw lo W1 wr S ob bA bB nA nB XA XB) {k : Nat} {o : Obj} (hk : k < lo) (ho : W1.heap[k]? = some o) : wr.heap[k]? = some o := (h.l.block k hk).trans ho

/-- A copy into A's block. -/
theorem Cw.copied {lo : Nat} {W1 wr w' : World} {S : Value} {ob bA bB nA nB : Nat} {XA XA' XB : List Int} (h : Cw lo W1 wr S ob bA bB nA nB XA XB) (hg : wr.grownBy w' (some bA)) (hb : Bi w' bA XA') (hl : lo ≤ wr.heap.size) (hlA : lo ≤ bA) (h1 : ob ≠ bA) (h2 : bB ≠ bA) : Cw lo W1 w' S ob bA bB nA nB XA' XB :=
  ⟨h.l.grown hg hl (fun k hk => by simp only [Option.some.injEq] at hk; omega), bk_grown h.out hg (fun k hk => by simp only [Option.some.injEq] at hk; omega), hb, bk_grown h.b hg (fun k hk => by simp only [Option.some.injEq] at hk; omega)⟩
theorem Cw.storeB {lo : Nat} {W1 wr : World} {S : Value} {ob bA bB nA nB : Nat} {XA XB : List Int} (h : Cw lo W1 wr S ob bA bB nA nB XA XB) (k : Nat) (x : Int) (hlB : lo ≤ bB) (h1 : ob ≠ bB) (h2 : bA ≠ bB) : Cw lo W1 (wr.setCell ⟨bB, k, none⟩ (.int .i64 x)) S ob bA bB nA nB XA (XB.set k x) :=
  ⟨h.l.setCell hlB _, (heap_setCell_other _ _ _ _ h1).trans h.out, h.a.far h2, h.b.set k x⟩
theorem Cw.drew {lo : Nat} {W1 wr : World} {S : Value} {ob bA bB nA nB : Nat} {XA XB : List Int} (h : Cw lo W1 wr S ob bA bB nA nB XA XB) : Cw lo W1 wr.drew S ob bA bB nA nB XA XB := ⟨h.l.drew, h.out, h.a, h.b⟩
end Go.Proofs.Ythebegfceaehfaa
