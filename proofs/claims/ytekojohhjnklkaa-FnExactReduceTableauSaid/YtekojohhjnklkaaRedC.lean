/- ReduceTableau: the classes, plain: numbering by first occurrence, one stage after the other. -/
import Derived.Test.YtekojohhjnklkaaRedN
import Derived.Test.YtekojohhjnklkaaRow
namespace Go.Proofs.Ytekojohhjnklkaa
open Go.RowKit

namespace Red
theorem ints_getD (l : List Nat) (i : Nat) : (ints l).getD i 0 = ((l.getD i 0 : Nat) : Int) := by
  unfold ints
  rw [List.getD_eq_getElem?_getD, List.getElem?_map, List.getD_eq_getElem?_getD]
  cases l[i]? <;> rfl
theorem ints_len (l : List Nat) : (ints l).length = l.length := by simp [ints]
theorem ints_snoc (l : List Nat) (x : Nat) : ints (l ++ [x]) = ints l ++ [(x : Int)] := by simp [ints]
/-- Its number. -/
def idx {α : Type} [DecidableEq α] (f : List α) (x : α) : Nat := f.idxOf x
theorem idx_none {α : Type} [DecidableEq α] {f : List α} {x : α} (h : x ∉ f) : idx f x = f.length := idxOf_none h
theorem idx_le {α : Type} [DecidableEq α] (f : List α) (x : α) : idx f x ≤ f.length := List.idxOf_le_length
theorem numb_snoc' {α : Type} [DecidableEq α] (ks : List α) (k : α) : numb (ks ++ [k]) = numb ks ++ [idx (fnd ks) k] := numb_snoc ks k
theorem numb_getD {α : Type} [DecidableEq α] (K : Nat → α) {i t : Nat} (h : t < i) : (numb ((List.range i).map K)).getD t 0 = idx (fnd ((List.range i).map K)) (K t) := by
  simp [numb, idx, List.getD, h]
/-- The keys of the first i stages, the different ones, the numbers. -/
def keysTo (K : Nat → List Int) (i : Nat) : List (List Int) := (List.range i).map K
def foundTo (K : Nat → List Int) (i : Nat) : List (List Int) := fnd (keysTo K i)
def nextTo (K : Nat → List Int) (i : Nat) : List Nat := numb (keysTo K i)
theorem keysTo_succ (K : Nat → List Int) (i : Nat) : keysTo K (i + 1) = keysTo K i ++ [K i] := by simp [keysTo, List.range_succ]
theorem nextTo_len (K : Nat → List Int) (i : Nat) : (nextTo K i).length = i := by unfold nextTo; rw [numb_len]; simp [keysTo]
theorem foundTo_len (K : Nat → List Int) (i : Nat) : (foundTo K i).length ≤ i := by
  have := fnd_len_le (keysTo K i)
  rw [show (keysTo K i).length = i by simp [keysTo]] at this
  exact this
theorem mem_found {K : Nat → List Int} {i : Nat} {x : List Int} : x ∈ foundTo K i ↔ ∃ j, j < i ∧ K j = x := by
  unfold foundTo
  rw [mem_fnd]
  simp [keysTo]
theorem next_hit {K : Nat → List Int} {i : Nat} (h : K i ∈ foundTo K i) : nextTo K (i + 1) = nextTo K i ++ [idx (foundTo K i) (K i)] ∧ foundTo K (i + 1) = foundTo K i := by
  unfold nextTo foundTo
  rw [keysTo_succ, numb_snoc', fnd_snoc]
  exact ⟨rfl, if_pos h⟩
theorem next_new {K : Nat → List Int} {i : Nat} (h : K i ∉ foundTo K i) : nextTo K (i + 1) = nextTo K i ++ [(foundTo K i).length] ∧ foundTo K (i + 1) = foundTo K i ++ [K i] := by
  unfold nextTo foundTo
  rw [keysTo_succ, numb_snoc', fnd_snoc]
  exact ⟨by rw [idx_none (show K i ∉ fnd (keysTo K i) from h)], if_neg h⟩
theorem nextTo_getD {K : Nat → List Int} {i t : Nat} (h : t < i) : (nextTo K i).getD t 0 = idx (foundTo K i) (K t) := numb_getD K h
/-- The search through the stages before i: t of them looked at. -/
structure Find (K : Nat → List Int) (i t : Nat) (o : Option Nat) : Prop where
  no : o = none → ∀ j, j < t → K j ≠ K i
  yes : ∀ c, o = some c → c = idx (foundTo K i) (K i) ∧ K i ∈ foundTo K i
def optV : Option Nat → Int
  | none => -1
  | some c => c
theorem Find.start (K : Nat → List Int) (i : Nat) : Find K i 0 none := ⟨fun _ j h => absurd h (Nat.not_lt_zero _), fun c h => by cases h⟩
theorem Find.miss {K : Nat → List Int} {i t : Nat} (h : Find K i t none) (hn : K i ≠ K t) : Find K i (t + 1) none :=
  ⟨fun _ j hj => by
    by_cases e : j = t
    · subst e; exact fun e => hn e.symm
    · exact h.no rfl j (by omega), fun c e => by cases e⟩
theorem Find.hit {K : Nat → List Int} {i t : Nat} (ht : t < i) (he : K i = K t) : Find K i (t + 1) (some ((nextTo K i).getD t 0)) :=
  ⟨fun e => by (cases e), fun c e => by
    cases e
    rw [nextTo_getD ht, he]
    exact ⟨rfl, mem_found.2 ⟨t, ht, rfl⟩⟩⟩
theorem Find.new {K : Nat → List Int} {i : Nat} (h : Find K i i none) : K i ∉ foundTo K i := fun e => by
  obtain ⟨j, hj, he⟩ := mem_found.1 e
  exact h.no rfl j hj he
/-- Whether two stages are alike: u of the classes looked at. -/
structure Alk (A : List Int) (S : Nat) (cls : List Nat) (i j u : Nat) (b : Bool) : Prop where
  iff : b = true ↔ (cls.getD i 0 = cls.getD j 0 ∧ ∀ k, k < u → over (rowL A S i) cls k S = over (rowL A S j) cls k S)
theorem Alk.start {A : List Int} {S : Nat} {cls : List Nat} {i j : Nat} {x y : Int} (hx : x = (ints cls).getD i 0) (hy : y = (ints cls).getD j 0) : Alk A S cls i j 0 (x == y) := by
  rw [ints_getD] at hx hy
  subst hx hy
  refine ⟨⟨fun e => ⟨by have := eq_of_beq e; omega, fun k h => absurd h (Nat.not_lt_zero _)⟩, fun e => by rw [e.1, beq_self_eq_true]⟩⟩
theorem Alk.no {A : List Int} {S : Nat} {cls : List Nat} {i j u : Nat} (h : Alk A S cls i j u false) : Alk A S cls i j (u + 1) false :=
  ⟨⟨fun e => by (cases e), fun e => h.iff.2 ⟨e.1, fun k hk => e.2 k (by omega)⟩⟩⟩
theorem Alk.step {A : List Int} {S : Nat} {cls : List Nat} {i j u : Nat} {x y : Int} (h : Alk A S cls i j u true) (hx : over (rowL A S i) cls u S = x) (hy : over (rowL A S j) cls u S = y) : Alk A S cls i j (u + 1) (x == y) := by
  subst hx hy
  refine ⟨⟨fun e => ⟨(h.iff.1 rfl).1, fun k hk => ?_⟩, fun e => by rw [e.2 u (by omega), beq_self_eq_true]⟩⟩
  by_cases e2 : k = u
  · rw [e2]; exact eq_of_beq e
  · exact (h.iff.1 rfl).2 k (by omega)
theorem Alk.done {A : List Int} {S : Nat} {cls : List Nat} {i j : Nat} {b : Bool} (h : Alk A S cls i j S b) : b = true ↔ key A S cls S i = key A S cls S j := by
  rw [h.iff]
  unfold key
  constructor
  · intro e
    rw [e.1]
    congr 1
    exact List.map_congr_left fun k hk => e.2 k (List.mem_range.1 hk)
  · intro e
    obtain ⟨e1, e2⟩ := List.append_inj e (by simp)
    simp only [List.cons.injEq, and_true] at e2
    exact ⟨Int.ofNat.inj e2, fun k hk => List.map_inj_left.1 e1 k (List.mem_range.2 hk)⟩
theorem over_step {row : List Int} {cls : List Nat} {k t : Nat} {c x n : Int} (hc : c = (ints cls).getD t 0) (hx : x = row.getD t 0) (hn : n = over row cls k t) : (c = (k : Int) → M.plus n x = over row cls k (t + 1)) ∧ (c ≠ (k : Int) → n = over row cls k (t + 1)) := by
  rw [ints_getD] at hc
  subst hc hx hn
  rw [over_succ]
  constructor
  · intro e; rw [if_pos (by omega)]
  · intro e; rw [if_neg (by omega)]
theorem next_nextTo (A : List Int) (S : Nat) (cls : List Nat) : nextTo (key A S cls S) S = next A S cls := rfl
end Red

theorem Rd.ints {w : World} {ao : Option Addr} {c S : Nat} {cls : List Nat} (h : Rd w ao S c (Red.ints cls)) : cls.length = S := by
  have := h.len
  rwa [Red.ints_len] at this
theorem spec_l6Over (ra : Option Addr) (n rc : Nat) (row : List Int) (ca : Option Addr) (d : Nat) (cls : List Nat) (k : Nat) (w : World) (h1 : Rd w ra n rc row) (h2 : Rd w ca n d (Red.ints cls)) (hn : n ≤ 8) (_hk : k ≤ 8) :
    Calls Try.prog 87 #[.slice ra n rc, .slice ca n d, .int .i64 k] w fun e w' => e = .returned (.int .i64 (Red.over row cls k n)) ∧ w = w' := by
  have H1 := hid h1
  have H2 := hid h2
  clear h1 h2
  go_enter Try.func87, Try.ntmps87
  go_wp2
  go_loop [7, 8] (fun v i => ∃ (t : Nat) (x : Int), i = .int .i64 t ∧ v = .int .i64 x ∧ t ≤ n ∧ Hid (x = Red.over row cls k t)) (fun _ i => n - (intOf i).toNat)
  case atStart => exact ⟨0, 0, rfl, rfl, Nat.zero_le _, hid rfl⟩
  case round =>
    obtain ⟨t, x, rfl, rfl, ht, hX⟩ := hrel
    by_cases hlt : t < n
    · have hti : (t : Int) < (n : Int) := by omega
      obtain ⟨b, o, y, rfl, hc, _, _, hy⟩ := H1.out.at hlt
      obtain ⟨b2, o2, c, rfl, hc2, _, _, hcc⟩ := H2.out.at hlt
      by_cases e : c = (k : Int)
      · have q : (c == (k : Int)) = true := by rw [e]; exact beq_self_eq_true _
        have HN := hid ((Red.over_step hcc.out hy.out hX.out).1 e)
        clear e
        go_wp2_with (go_at_call 59; refine (spec_Plus _ _ _).mono ?_; rintro e w' ⟨rfl, rfl⟩)
        go_round
        case rel => exact ⟨t + 1, _, by go_num, rfl, by omega, HN⟩
        case measure => simp [intOf]; omega
      · have q : (c == (k : Int)) = false := beq_eq_false_iff_ne.2 e
        have HN := hid ((Red.over_step hcc.out hy.out hX.out).2 e)
        clear e
        go_wp2
        go_round
        case rel => exact ⟨t + 1, _, by go_num, rfl, by omega, HN⟩
        case measure => simp [intOf]; omega
    · obtain rfl : n = t := by omega
      go_wp2
      go_ret
      exact ⟨ret_i hX.out, rfl⟩
end Go.Proofs.Ytekojohhjnklkaa
