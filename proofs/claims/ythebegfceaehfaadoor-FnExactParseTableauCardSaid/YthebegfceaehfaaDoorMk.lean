/- A tableau that is being filled. -/
import Derived.Test.YthebegfceaehfaaDoorEmpty
import Derived.StillTailTactics
namespace Go.Proofs.YthebegfceaehfaaDoor
open Go.RowKit

/-- What a function hands back: a tableau, and whether it was well. -/
structure Tb where
  st : Int
  A : List Int
  B : List Int
  ok : Bool
def Tb.none : Tb := ⟨0, [], [], false⟩
/-- A tableau in new memory. -/
def NewT (w w' : World) (rA rB : List Int) (a1 : Option Addr) (n1 c1 : Nat) (a2 : Option Addr) (n2 c2 : Nat) : Prop :=
  Fr w' w.heap.size a1 n1 c1 rA ∧ Fr w' w.heap.size a2 n2 c2 rB ∧ Sep a1 n1 a2 n2 ∧ Below w.heap.size w w'
theorem NewT.none {w w' : World} (h : Below w.heap.size w w') : NewT w w' [] [] Option.none 0 0 Option.none 0 0 := ⟨Fr.none _ _, Fr.none _ _, fun h => absurd h (by omega), h⟩

/-- 'out' is a struct at ob, its A the block bA, its B the block bB; what lay below lo in W1 is as it was. -/
structure Mk (lo : Nat) (W1 wr : World) (S : Value) (ob bA bB nA nB : Nat) (XA XB : List Int) : Prop where
  l : Below lo W1 wr
  out : wr.heap[ob]? = some (.cells #[S, .slice (some ⟨bA, 0, none⟩) nA nA, .slice (some ⟨bB, 0, none⟩) nB nB] 24 (0, 0))
  a : Fr wr lo (some ⟨bA, 0, none⟩) nA nA XA
  b : Fr wr lo (some ⟨bB, 0, none⟩) nB nB XB
  hlo : lo ≤ bA ∧ lo ≤ bB ∧ lo ≤ ob
  ne : bA ≠ bB ∧ ob ≠ bA ∧ ob ≠ bB
section
variable {lo : Nat} {W1 wr : World} {S : Value} {ob bA bB nA nB : Nat} {XA XB : List Int}
theorem Mk.below (h : Mk lo W1 wr S ob bA bB nA nB XA XB) {w' : World} (hb : Below wr.heap.size wr w') (hl : lo ≤ wr.heap.size) : Mk lo W1 w' S ob bA bB nA nB XA XB :=
  ⟨h.l.trans (hb.mono hl), bk_below h.out hb, h.a.below hb, h.b.below hb, h.hlo, h.ne⟩
theorem Mk.drew (h : Mk lo W1 wr S ob bA bB nA nB XA XB) : Mk lo W1 wr.drew S ob bA bB nA nB XA XB :=
  ⟨h.l.drew, h.out, h.a.below ((Below.refl _ _).drew), h.b.below ((Below.refl _ _).drew), h.hlo, h.ne⟩
theorem Mk.storeA (h : Mk lo W1 wr S ob bA bB nA nB XA XB) {k : Nat} (hk : k < nA) {x : Int} (hx : I64 x) : Mk lo W1 (wr.setCell ⟨bA, k, none⟩ (.int .i64 x)) S ob bA bB nA nB (XA.set k x) XB := by
  have hs := h.a.store hk hx
  rw [Nat.zero_add] at hs
  exact ⟨h.l.setCell h.hlo.1 _, (heap_setCell_other _ _ _ _ h.ne.2.1).trans h.out, hs, h.b.setCell _ (blk_ne (Ne.symm h.ne.1)), h.hlo, h.ne⟩
theorem Mk.storeB (h : Mk lo W1 wr S ob bA bB nA nB XA XB) {k : Nat} (hk : k < nB) {x : Int} (hx : I64 x) : Mk lo W1 (wr.setCell ⟨bB, k, none⟩ (.int .i64 x)) S ob bA bB nA nB XA (XB.set k x) := by
  have hs := h.b.store hk hx
  rw [Nat.zero_add] at hs
  exact ⟨h.l.setCell h.hlo.2.1 _, (heap_setCell_other _ _ _ _ h.ne.2.2).trans h.out, h.a.setCell _ (blk_ne h.ne.1), hs, h.hlo, h.ne⟩
theorem Mk.start {w1 w2 : World} {n nA bA bB : Nat} (h : Blank w1 w2 nA n bA bB) :
    Mk w1.heap.size w1 (w2.alloc (.cells #[.int .i64 n, .slice (some ⟨bA, 0, none⟩) nA nA, .slice (some ⟨bB, 0, none⟩) n n] 24)) (.int .i64 n) w2.heap.size bA bB nA n (List.replicate nA 0) (List.replicate n 0) := by
  obtain ⟨h1, h2, h3, h4, h5, h6, h7, h8⟩ := h
  have := h4.size
  exact ⟨h4.alloc this _, bk_new _ _ _, h1.alloc _, h2.alloc _, ⟨h5, h6, this⟩, ⟨h3, by omega, by omega⟩⟩
/-- A block below lo. -/
theorem Mk.old (h : Mk lo W1 wr S ob bA bB nA nB XA XB) {k : Nat} {o : Obj} (hk : k < lo) (ho : W1.heap[k]? = some o) : wr.heap[k]? = some o := (h.l.block k hk).trans ho
/-- The cells that a store into A wants. -/
theorem Mk.cellA (h : Mk lo W1 wr S ob bA bB nA nB XA XB) {k : Nat} (hk : k < nA) : ∃ y, wr.cell? ⟨bA, k, none⟩ = some (.int .i64 y) ∧ wr.frozen? ⟨bA, k, none⟩ = false := by
  obtain ⟨b, o, y, e, hc, _⟩ := h.a.rd.at hk
  simp only [Option.some.injEq, Addr.mk.injEq, and_true] at e
  obtain ⟨rfl, rfl⟩ := e
  rw [Nat.zero_add] at hc
  have hf := (h.a.own _ _ _ rfl (by omega)).2 k hk
  rw [Nat.zero_add] at hf
  exact ⟨y, hc, hf⟩
theorem Mk.cellB (h : Mk lo W1 wr S ob bA bB nA nB XA XB) {k : Nat} (hk : k < nB) : ∃ y, wr.cell? ⟨bB, k, none⟩ = some (.int .i64 y) ∧ wr.frozen? ⟨bB, k, none⟩ = false := by
  obtain ⟨b, o, y, e, hc, _⟩ := h.b.rd.at hk
  simp only [Option.some.injEq, Addr.mk.injEq, and_true] at e
  obtain ⟨rfl, rfl⟩ := e
  rw [Nat.zero_add] at hc
  have hf := (h.b.own _ _ _ rfl (by omega)).2 k hk
  rw [Nat.zero_add] at hf
  exact ⟨y, hc, hf⟩
/-- 'out' is stored into the result's block. -/
theorem Mk.finish (h : Mk lo W1 wr S ob bA bB nA nB XA XB) {w : World} {b : Nat} {x y z : Value} (hb : w.heap.size ≤ b) (hlt : b < lo) (hw : Below w.heap.size w W1) (hres : W1.heap[b]? = some (.cells #[x, y, z] 24 (0, 0))) (u v t : Value) :
    (((wr.setCell ⟨b, 0, none⟩ u).setCell ⟨b, 1, none⟩ v).setCell ⟨b, 2, none⟩ t).heap[b]? = some (.cells #[u, v, t] 24 (0, 0)) ∧
    NewT w (((wr.setCell ⟨b, 0, none⟩ u).setCell ⟨b, 1, none⟩ v).setCell ⟨b, 2, none⟩ t) XA XB (some ⟨bA, 0, none⟩) nA nA (some ⟨bB, 0, none⟩) nB nB := by
  have h1 := h.hlo
  refine ⟨heap_setCell_same _ _ _ _ _ _ (heap_setCell_same _ _ _ _ _ _ (heap_setCell_same _ _ _ _ _ _ (h.old hlt hres))), ?_, ?_, fun _ _ => ?_, ?_⟩
  · exact (((h.a.setCell _ (blk_ne (by omega))).setCell _ (blk_ne (by omega))).setCell _ (blk_ne (by omega))).mono (by omega)
  · exact (((h.b.setCell _ (blk_ne (by omega))).setCell _ (blk_ne (by omega))).setCell _ (blk_ne (by omega))).mono (by omega)
  · simpa [blk] using h.ne.1
  · exact (((hw.trans (h.l.mono (by omega))).setCell hb _).setCell hb _).setCell hb _
end

theorem none_end {w w1 : World} {b : Nat} {x y z : Value} (hl : Below w.heap.size w w1) (hb : w.heap.size ≤ b) (hres : w1.heap[b]? = some (.cells #[x, y, z] 24 (0, 0))) (u v t : Value) :
    (((w1.setCell ⟨b, 0, none⟩ u).setCell ⟨b, 1, none⟩ v).setCell ⟨b, 2, none⟩ t).heap[b]? = some (.cells #[u, v, t] 24 (0, 0)) ∧
    NewT w (((w1.setCell ⟨b, 0, none⟩ u).setCell ⟨b, 1, none⟩ v).setCell ⟨b, 2, none⟩ t) [] [] Option.none 0 0 Option.none 0 0 :=
  ⟨heap_setCell_same _ _ _ _ _ _ (heap_setCell_same _ _ _ _ _ _ (heap_setCell_same _ _ _ _ _ _ hres)), NewT.none (((hl.setCell hb _).setCell hb _).setCell hb _)⟩
/-! ### ScaleTableau -/
def scaleV (s : Int) (A B : List Int) (k : Int) : Tb := if tabOk s A B then ⟨s, A.map (M.times · k), B.map (M.times · k), true⟩ else Tb.none
theorem scaleV_yes {s : Int} {A B : List Int} (k : Int) (h : tabOk s A B = true) : scaleV s A B k = ⟨s, A.map (M.times · k), B.map (M.times · k), true⟩ := if_pos h
theorem scaleV_no {s : Int} {A B : List Int} (k : Int) (h : tabOk s A B = false) : scaleV s A B k = Tb.none := if_neg (by rw [h]; simp)
theorem scaleV_len (s : Int) (A B : List Int) (k : Int) : (scaleV s A B k).A.length ≤ 1000 ∧ (scaleV s A B k).B.length ≤ 1000 := by
  cases hok : tabOk s A B with
  | false => rw [scaleV_no k hok]; exact ⟨Nat.zero_le _, Nat.zero_le _⟩
  | true =>
    rw [scaleV_yes k hok]
    obtain ⟨S, rfl, hS, e1, e2, _⟩ := tabOk_parts hok rfl rfl
    simp only [List.length_map]
    have : S * S ≤ 64 := Nat.mul_le_mul hS hS
    omega
/-- the first k elements of what a map gives, zeros behind -/
def part (f : Int → Int) (xs : List Int) (n k : Nat) : List Int := (xs.take k).map f ++ List.replicate (n - k) 0
theorem part_start (f : Int → Int) (xs : List Int) (n : Nat) : List.replicate n 0 = part f xs n 0 := by simp [part]
theorem part_end {f : Int → Int} {xs : List Int} {n : Nat} (h : xs.length = n) : part f xs n n = xs.map f := by
  unfold part
  rw [Nat.sub_self, ← h, List.take_length, List.replicate_zero, List.append_nil]
theorem part_step {f : Int → Int} {xs : List Int} {n k : Nat} {x : Int} (h : k < n) (hn : xs.length = n) (e : x = xs.getD k 0) : (part f xs n k).set k (f x) = part f xs n (k + 1) := by
  subst e
  unfold part
  rw [take_snoc 0 xs k (by omega), List.map_append, List.set_append_right _ _ (by rw [List.length_map, List.length_take]; omega), List.length_map, List.length_take,
    show k - min k xs.length = 0 by omega, show n - k = (n - (k + 1)) + 1 by omega, List.replicate_succ, List.set_cons_zero, List.append_assoc]
  rfl

end Go.Proofs.YthebegfceaehfaaDoor
