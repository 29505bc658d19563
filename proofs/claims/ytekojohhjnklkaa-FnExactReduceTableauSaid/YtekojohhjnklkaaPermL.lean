/- PermuteTableau: plain lists; a slice of bools. -/
import Derived.Test.YtekojohhjnklkaaChL
namespace Go.Proofs.Ytekojohhjnklkaa
open Go.RowKit

/-- Each element a stage, none of them met before. -/
def permGo (S : Int) : List Int → List Int → Bool
  | _, [] => true
  | seen, x :: xs => (decide (0 ≤ x) && decide (x < S) && !decide (x ∈ seen)) && permGo S (seen ++ [x]) xs
theorem permGo_all {S : Int} : ∀ (xs seen : List Int), permGo S seen xs = true → ∀ x ∈ xs, 0 ≤ x ∧ x < S
  | [], _, _, x, hx => by cases hx
  | y :: ys, seen, h, x, hx => by
    unfold permGo at h
    simp only [Bool.and_eq_true, decide_eq_true_eq] at h
    rcases List.mem_cons.1 hx with rfl | hx
    · exact h.1.1
    · exact permGo_all ys _ h.2 x hx
theorem permGo_step {S : Int} {L : List Int} {k n : Nat} {x : Int} (hl : L.length = n) (hk : k < n) (hx : x = L.getD k 0) :
    permGo S (L.take k) (L.drop k) = ((decide (0 ≤ x) && decide (x < S) && !decide (x ∈ L.take k)) && permGo S (L.take (k + 1)) (L.drop (k + 1))) := by
  have h : k < L.length := by omega
  have hx' : x = L[k] := by rw [hx, List.getD_eq_getElem?_getD, List.getElem?_eq_getElem h]; rfl
  rw [List.drop_eq_getElem_cons h, ← hx']
  rw [show L.take (k + 1) = L.take k ++ [x] by rw [take_snoc 0 L k h, ← hx]]
  rfl
/-- which stages are met -/
def metL (S : Nat) (seen : List Int) : List Bool := (List.range S).map fun (b : Nat) => decide ((b : Int) ∈ seen)
theorem metL_at {S xi : Nat} {seen : List Int} (h : xi < S) : (metL S seen).getD xi false = decide ((xi : Int) ∈ seen) := by
  simp [metL, List.getD, h]
theorem metL_nil (S : Nat) : List.replicate S false = metL S [] := by
  apply List.ext_getElem
  · simp [metL]
  · intro i h1 h2; simp [metL]
theorem metL_set {S xi : Nat} {seen : List Int} : (metL S seen).set xi true = metL S (seen ++ [(xi : Int)]) := by
  apply List.ext_getElem
  · simp [metL]
  · intro i h1 h2
    rw [List.getElem_set]
    simp only [metL, List.getElem_map, List.getElem_range, List.mem_append, List.mem_cons, List.not_mem_nil, or_false]
    by_cases e : xi = i
    · subst e; simp
    · rw [if_neg e]
      have : ¬ (i : Int) = (xi : Int) := by omega
      simp [this]
def permV (s : Int) (A B L : List Int) : Tb :=
  if tabOk s A B && decide ((L.length : Int) = s) && permGo s [] L then ⟨s, firstN (chE A L s.toNat s.toNat) (s.toNat * s.toNat), firstN (chB B L) s.toNat, true⟩ else Tb.none
theorem permV_yes {S : Nat} {A B L : List Int} (h : tabOk S A B = true) (h2 : L.length = S) (h3 : permGo S [] L = true) : permV S A B L = ⟨S, firstN (chE A L S S) (S * S), firstN (chB B L) S, true⟩ := by
  unfold permV
  rw [h, h3, h2]
  simp
theorem permV_no {s : Int} {A B : List Int} (L : List Int) (h : tabOk s A B = false) : permV s A B L = Tb.none := by
  unfold permV; rw [h]; rfl
theorem permV_len' {S : Nat} {A B L : List Int} (h : L.length ≠ S) : permV S A B L = Tb.none := by
  unfold permV
  rw [show decide ((L.length : Int) = (S : Int)) = false by simp; omega]
  simp
theorem permV_bad {s : Int} {A B L : List Int} (h : permGo s [] L = false) : permV s A B L = Tb.none := by
  unfold permV; rw [h]; simp
theorem permV_len (s : Int) (A B L : List Int) : (permV s A B L).A.length ≤ 1000 ∧ (permV s A B L).B.length ≤ 1000 := by
  cases hok : tabOk s A B with
  | false => rw [permV_no L hok]; exact ⟨Nat.zero_le _, Nat.zero_le _⟩
  | true =>
    obtain ⟨S, rfl, hS, e1, e2, _⟩ := tabOk_parts hok rfl rfl
    by_cases h2 : L.length = S
    · cases h3 : permGo S [] L with
      | false => rw [permV_bad h3]; exact ⟨Nat.zero_le _, Nat.zero_le _⟩
      | true =>
        rw [permV_yes hok h2 h3]
        simp only [firstN_len]
        have : S * S ≤ 64 := Nat.mul_le_mul hS hS
        omega
    · rw [permV_len' h2]; exact ⟨Nat.zero_le _, Nat.zero_le _⟩

/-! ### a slice of bools -/
theorem info_bool : (Try.prog.info? 4).map (fun i => (i.zero, i.size, i.bytes)) = some (some (.bool false), 1, 1) := by kernel_rfl
def bools (bs : List Bool) : Array Value := (bs.map Value.bool).toArray
theorem run_mkb (n : Nat) (z : Int) (hz : z = n) (hn : n ≤ 2097152) (w : World) :
    (Instr.makeSlice 55 (.int .i64 z) (.int .i64 z)).run Try.prog w = .ok (.slice (some ⟨w.heap.size, 0, none⟩) n n) (w.alloc (.cells (bools (List.replicate n false)) 4)) := by
  obtain ⟨i, hi, hz0, hz1, hz2⟩ := info_parts info_bool
  subst hz
  have h := run_make (P := Try.prog) w 55 4 i (.bool false) Try.underlying55 hi hz0 .i64 .i64 n n (by omega) (Int.le_refl _) (by rw [hz2]; omega) (by omega)
  rw [h, Int.toNat_natCast, hz1]
  have e : madeCells (Value.bool false).cells (n * 1) = bools (List.replicate n false) := by
    apply Array.toList_inj.1
    rw [show (Value.bool false).cells = #[Value.bool false] from rfl, Nat.mul_one, toList_madeCells_one]
    simp [bools]
  rw [e]
/-- The bools of block mb. -/
def Met (w : World) (mb : Nat) (bs : List Bool) : Prop := w.heap[mb]? = some (.cells (bools bs) 4 (0, 0))
theorem Met.at {w : World} {mb : Nat} {bs : List Bool} (h : Met w mb bs) {i : Nat} (hi : i < bs.length) : w.cell? ⟨mb, i, none⟩ = some (.bool (bs.getD i false)) ∧ w.frozen? ⟨mb, i, none⟩ = false := by
  refine ⟨?_, frozen_of_row w _ _ _ _ h⟩
  rw [cell_of_row w mb i _ _ _ h]
  simp [bools, List.getD, hi]
theorem Met.set {w : World} {mb : Nat} {bs : List Bool} (h : Met w mb bs) (i : Nat) : Met (w.setCell ⟨mb, i, none⟩ (.bool true)) mb (bs.set i true) := by
  unfold Met
  rw [heap_setCell_same _ _ _ _ _ _ h]
  congr 2
  apply Array.toList_inj.1
  simp [bools]
theorem metL_length (S : Nat) (seen : List Int) : (metL S seen).length = S := by simp [metL]

theorem fr_set {w : World} {lo : Nat} {ao : Option Addr} {n c : Nat} {xs : List Int} (h : Fr w lo ao n c xs) {b k : Nat} (v : Value) (hb : b < lo) : Fr (w.setCell ⟨b, k, none⟩ v) lo ao n c xs :=
  h.grown (grown_setCell w b k v) (fun hn => .inl (by
    obtain ⟨b', o, e, _⟩ := h.rd.cell 0 hn
    subst e
    have := (h.own _ _ _ rfl hn).1
    exact blk_ne (Nat.ne_of_gt (Nat.lt_of_lt_of_le hb this))))
/-- A callee's tableau that is stored into the result's block. -/
theorem newT_stores {w wi w' : World} {rA rB : List Int} {p : Option Addr} {n c : Nat} {q : Option Addr} {m d : Nat} (h : NewT wi w' rA rB p n c q m d) (hl : Below w.heap.size w wi) {b : Nat} (hb : w.heap.size ≤ b) (hlt : b < wi.heap.size) (u v t : Value) :
    NewT w (((w'.setCell ⟨b, 0, none⟩ u).setCell ⟨b, 1, none⟩ v).setCell ⟨b, 2, none⟩ t) rA rB p n c q m d :=
  ⟨(fr_set (fr_set (fr_set h.1 u hlt) v hlt) t hlt).mono (by omega), (fr_set (fr_set (fr_set h.2.1 u hlt) v hlt) t hlt).mono (by omega), h.2.2.1,
    (((hl.trans (h.2.2.2.mono (by omega))).setCell hb u).setCell hb v).setCell hb t⟩
theorem ret_tabb {fn : Func} {R : Ending → World → Prop} {a : Act} {w : World} {t t2 : Tmp} {b : Nat} {x y z : Value} {u : Bool} (hres : fn.results = #[.cell t 27, .tmp t2])
    (ht : a.tmps.getD t undef = .pointer (some ⟨b, 0, none⟩)) (ht2 : a.tmps.getD t2 undef = .bool u) (hb : w.heap[b]? = some (.cells #[x, y, z] 27 (0, 0))) (hd : a.defers = [])
    (hR : R (.returned (.tuple #[.agg #[x, y, z], .bool u])) w) : bodyPost Try.prog fn R .ret a w := by
  obtain ⟨⟨q0, q1, q2⟩, _⟩ := blk3 hb
  refine bodyPost_ret (v := .tuple #[.agg #[x, y, z], .bool u]) ?_ hd hR
  rw [Array.getD_eq_getD_getElem?] at ht ht2
  simp only [results, hres]
  simp [go_sem, ht, ht2, q0, q1, q2]
end Go.Proofs.Ytekojohhjnklkaa
