/- ReduceTableau: plain lists. The stages that are needed; classes numbered by their first members; sums over classes. -/
import Derived.Test.YtekojohhjnklkaaNum
namespace Go.Proofs.Ytekojohhjnklkaa.Red

theorem rev_ind {α : Type} {C : List α → Prop} (h0 : C []) (h1 : ∀ l a, C l → C (l ++ [a])) (l : List α) : C l := by
  have h : ∀ r : List α, C r.reverse := by
    intro r
    induction r with
    | nil => exact h0
    | cons a r ih => rw [List.reverse_cons]; exact h1 _ _ ih
  have := h l.reverse
  rwa [List.reverse_reverse] at this

/-! ### numbering by first occurrence -/
section
variable {α β : Type} [DecidableEq α] [DecidableEq β]
/-- The different ones, in order. -/
def fnd (ks : List α) : List α := ks.foldl (fun f k => if k ∈ f then f else f ++ [k]) []
theorem fnd_snoc (ks : List α) (k : α) : fnd (ks ++ [k]) = if k ∈ fnd ks then fnd ks else fnd ks ++ [k] := by
  unfold fnd
  rw [List.foldl_append]
  rfl
theorem mem_fnd (k : α) (ks : List α) : k ∈ fnd ks ↔ k ∈ ks := by
  refine rev_ind (C := fun ks => k ∈ fnd ks ↔ k ∈ ks) (by simp [fnd]) (fun l a ih => ?_) ks
  rw [fnd_snoc, List.mem_append, List.mem_singleton]
  split
  · rename_i h
    rw [ih]
    exact ⟨.inl, fun h' => h'.elim id (fun e => by
      subst e
      exact ih.1 h)⟩
  · rw [List.mem_append, ih, List.mem_singleton]
theorem fnd_len_le (ks : List α) : (fnd ks).length ≤ ks.length := by
  refine rev_ind (C := fun ks => (fnd ks).length ≤ ks.length) (by simp [fnd]) (fun l a ih => ?_) ks
  rw [fnd_snoc, List.length_append]
  split
  · simp; omega
  · simp; omega
/-- Each one's number. -/
def numb (ks : List α) : List Nat := ks.map ((fnd ks).idxOf ·)
theorem idxOf_snoc_mem {f : List α} {x k : α} (h : x ∈ f) : (f ++ [k]).idxOf x = f.idxOf x := by
  rw [List.idxOf_append, if_pos h]
theorem idxOf_none {f : List α} {x : α} (h : x ∉ f) : f.idxOf x = f.length := List.idxOf_eq_length h
theorem numb_snoc (ks : List α) (k : α) : numb (ks ++ [k]) = numb ks ++ [(fnd ks).idxOf k] := by
  unfold numb
  rw [List.map_append, List.map_singleton]
  rw [fnd_snoc]
  split
  · rfl
  · rename_i h
    congr 1
    · apply List.map_congr_left
      intro x hx
      exact idxOf_snoc_mem ((mem_fnd x ks).2 hx)
    · rw [List.idxOf_append, if_neg h, idxOf_none h]
      simp
theorem numb_len (ks : List α) : (numb ks).length = ks.length := by simp [numb]
theorem numb_lt (ks : List α) : ∀ c ∈ numb ks, c < (fnd ks).length := by
  intro c hc
  obtain ⟨k, hk, rfl⟩ := List.mem_map.1 hc
  exact List.idxOf_lt_length_of_mem ((mem_fnd k ks).2 hk)
theorem numb_onto (ks : List α) : ∀ c, c < (fnd ks).length → c ∈ numb ks := by
  refine rev_ind (C := fun ks => ∀ c, c < (fnd ks).length → c ∈ numb ks) (by simp [fnd]) (fun l a ih => ?_) ks
  intro c hc
  rw [numb_snoc]
  rw [fnd_snoc] at hc
  split at hc
  · exact List.mem_append_left _ (ih c hc)
  · rename_i h
    rw [List.length_append, List.length_singleton] at hc
    by_cases e : c < (fnd l).length
    · exact List.mem_append_left _ (ih c e)
    · rw [idxOf_none h]
      exact List.mem_append_right _ (by simp; omega)
/-- A finer partition: no fewer classes; as many classes: the same numbers. -/
theorem refine_pairs (ps : List (α × β)) : (∀ p ∈ ps, ∀ q ∈ ps, p.2 = q.2 → p.1 = q.1) →
    (fnd (ps.map (·.1))).length ≤ (fnd (ps.map (·.2))).length ∧ ((fnd (ps.map (·.1))).length = (fnd (ps.map (·.2))).length → numb (ps.map (·.1)) = numb (ps.map (·.2))) := by
  refine rev_ind (C := fun ps => (∀ p ∈ ps, ∀ q ∈ ps, p.2 = q.2 → p.1 = q.1) → (fnd (ps.map (·.1))).length ≤ (fnd (ps.map (·.2))).length ∧ ((fnd (ps.map (·.1))).length = (fnd (ps.map (·.2))).length → numb (ps.map (·.1)) = numb (ps.map (·.2)))) ?_ ?_ ps
  · intro _; exact ⟨Nat.le_refl _, fun _ => rfl⟩
  · intro l a ih h
    obtain ⟨h1, h2⟩ := ih (fun p hp q hq => h p (List.mem_append_left _ hp) q (List.mem_append_left _ hq))
    rw [List.map_append, List.map_append, List.map_singleton, List.map_singleton, fnd_snoc, fnd_snoc, numb_snoc, numb_snoc]
    by_cases e2 : a.2 ∈ fnd (l.map (·.2))
    · obtain ⟨q, hq, hqe⟩ := List.mem_map.1 ((mem_fnd _ _).1 e2)
      have hq1 : q.1 = a.1 := h q (List.mem_append_left _ hq) a (List.mem_append_right _ (by simp)) hqe
      have e1 : a.1 ∈ fnd (l.map (·.1)) := (mem_fnd _ _).2 (hq1 ▸ List.mem_map_of_mem hq)
      rw [if_pos e1, if_pos e2]
      refine ⟨h1, fun e => ?_⟩
      have hn := h2 e
      rw [hn]
      congr 2
      unfold numb at hn
      rw [List.map_map, List.map_map] at hn
      have := List.map_inj_left.1 hn q hq
      simp only [Function.comp] at this
      rw [← hq1, ← hqe]
      exact this
    · rw [if_neg e2]
      by_cases e1 : a.1 ∈ fnd (l.map (·.1))
      · rw [if_pos e1, List.length_append]
        exact ⟨by omega, fun e => by simp at e; omega⟩
      · rw [if_neg e1, List.length_append, List.length_append]
        refine ⟨by simp; omega, fun e => ?_⟩
        simp at e
        rw [h2 e, idxOf_none e1, idxOf_none e2, e]
theorem refine_keys {n : Nat} (f : Nat → α) (g : Nat → β) (h : ∀ i j, i < n → j < n → g i = g j → f i = f j) :
    (fnd ((List.range n).map f)).length ≤ (fnd ((List.range n).map g)).length ∧ ((fnd ((List.range n).map f)).length = (fnd ((List.range n).map g)).length → numb ((List.range n).map f) = numb ((List.range n).map g)) := by
  have := refine_pairs ((List.range n).map fun i => (f i, g i)) (by
    intro p hp q hq e
    obtain ⟨i, hi, rfl⟩ := List.mem_map.1 hp
    obtain ⟨j, hj, rfl⟩ := List.mem_map.1 hq
    exact h i j (List.mem_range.1 hi) (List.mem_range.1 hj) e)
  rw [List.map_map, List.map_map] at this
  exact this
theorem same_keys {n : Nat} (f : Nat → α) (g : Nat → β) (h : ∀ i j, i < n → j < n → (g i = g j ↔ f i = f j)) :
    (fnd ((List.range n).map f)).length = (fnd ((List.range n).map g)).length ∧ numb ((List.range n).map f) = numb ((List.range n).map g) := by
  have h1 := refine_keys f g (fun i j hi hj e => (h i j hi hj).1 e)
  have h2 := refine_keys g f (fun i j hi hj e => (h i j hi hj).2 e)
  have e := Nat.le_antisymm h1.1 h2.1
  exact ⟨e, h1.2 e⟩
theorem idxOf_inj' {f : List α} {x y : α} (hx : x ∈ f) (hy : y ∈ f) (e : f.idxOf x = f.idxOf y) : x = y := by
  have h1 := List.getElem_idxOf (List.idxOf_lt_length_of_mem hx)
  have h2 := List.getElem_idxOf (List.idxOf_lt_length_of_mem hy)
  rw [← h1, ← h2]
  simp only [e]
theorem map_range_getD {l : List Nat} {n : Nat} (h : l.length = n) : (List.range n).map (fun i => l.getD i 0) = l := by
  apply List.ext_getElem
  · simp [h]
  · intro i h1 h2
    simp [List.getD, h2]
/-- Numbers are their own numbers. -/
theorem numb_range {n : Nat} (f : Nat → α) : numb ((List.range n).map fun i => (numb ((List.range n).map f)).getD i 0) = numb ((List.range n).map f) ∧ (fnd ((List.range n).map fun i => (numb ((List.range n).map f)).getD i 0)).length = (fnd ((List.range n).map f)).length := by
  have h := same_keys (n := n) (fun i => (numb ((List.range n).map f)).getD i 0) f (fun i j hi hj => by
    have g : ∀ i, i < n → (numb ((List.range n).map f)).getD i 0 = (fnd ((List.range n).map f)).idxOf (f i) := by
      intro i hi
      simp [numb, List.getD, hi]
    rw [g i hi, g j hj]
    exact ⟨fun e => by rw [e], fun e => idxOf_inj' ((mem_fnd _ _).2 (List.mem_map_of_mem (List.mem_range.2 hi))) ((mem_fnd _ _).2 (List.mem_map_of_mem (List.mem_range.2 hj))) e⟩)
  exact ⟨h.2, h.1⟩
end

/-! ### sums over classes -/
/-- The sum of the first n elements of the row that lie in class k. -/
def over (row : List Int) (cls : List Nat) (k n : Nat) : Int := (List.range n).foldl (fun s j => if cls.getD j 0 = k then M.plus s (row.getD j 0) else s) 0
theorem over_succ (row : List Int) (cls : List Nat) (k n : Nat) : over row cls k (n + 1) = if cls.getD n 0 = k then M.plus (over row cls k n) (row.getD n 0) else over row cls k n := by
  unfold over
  rw [List.range_succ, List.foldl_append]
  rfl
theorem over_num (row : List Int) (cls : List Nat) (k : Nat) : ∀ n, M.num (over row cls k n)
  | 0 => by show M.num 0; exact ⟨Int.le_refl _, by decide⟩
  | n + 1 => by
    rw [over_succ]
    split
    · exact M.num_plus _ _
    · exact over_num row cls k n
/-- The same downward: of the elements from i on, n of them. -/
def overD (row : List Int) (cls : List Nat) (k : Nat) : Nat → Nat → Int
  | _, 0 => 0
  | i, n + 1 => if cls.getD i 0 = k then M.plus (overD row cls k (i + 1) n) (row.getD i 0) else overD row cls k (i + 1) n
def raw (row : List Int) (cls : List Nat) (k : Nat) : Nat → Nat → Int
  | _, 0 => 0
  | i, n + 1 => (if cls.getD i 0 = k then row.getD i 0 else 0) + raw row cls k (i + 1) n
theorem raw_snoc (row : List Int) (cls : List Nat) (k : Nat) : ∀ n i, raw row cls k i (n + 1) = raw row cls k i n + (if cls.getD (i + n) 0 = k then row.getD (i + n) 0 else 0)
  | 0, i => by simp [raw]
  | n + 1, i => by
    rw [raw, raw_snoc row cls k n (i + 1), raw, show i + 1 + n = i + (n + 1) by omega]
    omega
theorem overD_raw (row : List Int) (cls : List Nat) (k : Nat) : ∀ n i, overD row cls k i n = raw row cls k i n % M.P
  | 0, i => rfl
  | n + 1, i => by
    rw [overD, raw, overD_raw row cls k n (i + 1)]
    split
    · unfold M.plus
      rw [M.add_l]
      congr 1
      omega
    · rw [Int.zero_add]
theorem over_raw (row : List Int) (cls : List Nat) (k : Nat) : ∀ n, over row cls k n = raw row cls k 0 n % M.P
  | 0 => rfl
  | n + 1 => by
    rw [over_succ, raw_snoc, over_raw row cls k n, Nat.zero_add]
    split
    · unfold M.plus
      rw [M.add_l]
    · rw [Int.add_zero]
theorem overD_over (row : List Int) (cls : List Nat) (k n : Nat) : overD row cls k 0 n = over row cls k n := by rw [overD_raw, over_raw]
theorem over_none {row : List Int} {cls : List Nat} {k : Nat} : ∀ n, (∀ j, j < n → cls.getD j 0 ≠ k) → over row cls k n = 0
  | 0, _ => rfl
  | n + 1, h => by rw [over_succ, if_neg (h n (by omega)), over_none n (fun j hj => h j (by omega))]

/-! ### classes -/
def rowL (A : List Int) (S i : Nat) : List Int := (A.drop (i * S)).take S
/-- What makes two stages equal: their class, and the sums of their rows over the classes. -/
def key (A : List Int) (S : Nat) (cls : List Nat) (c i : Nat) : List Int := (List.range c).map (fun k => over (rowL A S i) cls k S) ++ [((cls.getD i 0 : Nat) : Int)]
def next (A : List Int) (S : Nat) (cls : List Nat) : List Nat := numb ((List.range S).map (key A S cls S))
def cnt (cls : List Nat) : Nat := (fnd cls).length
/-- A list of numbers of classes, S long. -/
structure Cls (S : Nat) (cls : List Nat) : Prop where
  len : cls.length = S
  own : numb cls = cls
theorem Cls.lt {S : Nat} {cls : List Nat} (h : Cls S cls) {i : Nat} (hi : i < S) : cls.getD i 0 < cnt cls := by
  have := numb_lt cls (cls.getD i 0)
  rw [h.own] at this
  exact this (by rw [List.getD_eq_getElem?_getD, List.getElem?_eq_getElem (by rw [h.len]; exact hi)]; exact List.getElem_mem _)
theorem Cls.cnt_le {S : Nat} {cls : List Nat} (h : Cls S cls) : cnt cls ≤ S := h.len ▸ fnd_len_le cls
theorem Cls.onto {S : Nat} {cls : List Nat} (h : Cls S cls) {c : Nat} (hc : c < cnt cls) : c ∈ cls := by
  have := numb_onto cls c hc
  rwa [h.own] at this
theorem key_iff {A : List Int} {S : Nat} {cls : List Nat} (h : Cls S cls) {i j : Nat} : key A S cls S i = key A S cls S j ↔ key A S cls (cnt cls) i = key A S cls (cnt cls) j := by
  unfold key
  constructor
  · intro e
    obtain ⟨e1, e2⟩ := List.append_inj e (by simp)
    rw [e2]
    congr 1
    apply List.map_congr_left
    intro k hk
    exact List.map_inj_left.1 e1 k (List.mem_range.2 (Nat.lt_of_lt_of_le (List.mem_range.1 hk) h.cnt_le))
  · intro e
    obtain ⟨e1, e2⟩ := List.append_inj e (by simp)
    rw [e2]
    congr 1
    apply List.map_congr_left
    intro k hk
    by_cases hkc : k < cnt cls
    · exact List.map_inj_left.1 e1 k (List.mem_range.2 hkc)
    · have : ∀ j, j < S → cls.getD j 0 ≠ k := fun j hj e => hkc (e ▸ h.lt hj)
      rw [over_none S this, over_none S this]
/-- The round with the sums over the classes that there are. -/
theorem next_cnt {A : List Int} {S : Nat} {cls : List Nat} (h : Cls S cls) : numb ((List.range S).map (key A S cls (cnt cls))) = next A S cls ∧ (fnd ((List.range S).map (key A S cls (cnt cls)))).length = cnt (next A S cls) := by
  have h1 := same_keys (n := S) (key A S cls (cnt cls)) (key A S cls S) (fun i j _ _ => key_iff h)
  refine ⟨h1.2, h1.1.trans ?_⟩
  have h2 := (numb_range (n := S) (key A S cls S)).2
  rw [map_range_getD (by rw [numb_len]; simp)] at h2
  exact h2.symm
theorem next_cls {A : List Int} {S : Nat} {cls : List Nat} : Cls S (next A S cls) := by
  refine ⟨by unfold next; rw [numb_len]; simp, ?_⟩
  have h2 := (numb_range (n := S) (key A S cls S)).1
  rw [map_range_getD (by rw [numb_len]; simp)] at h2
  exact h2
theorem key_class {A : List Int} {S : Nat} {cls : List Nat} {c i j : Nat} (e : key A S cls c i = key A S cls c j) : cls.getD i 0 = cls.getD j 0 := by
  unfold key at e
  have := (List.append_inj e (by simp)).2
  simp only [List.cons.injEq, and_true] at this
  exact Int.ofNat.inj this
theorem cnt_next {A : List Int} {S : Nat} {cls : List Nat} (h : Cls S cls) : cnt cls ≤ cnt (next A S cls) ∧ (cnt cls = cnt (next A S cls) → next A S cls = cls) := by
  have h1 := refine_keys (n := S) (fun i => cls.getD i 0) (key A S cls S) (fun i j _ _ e => key_class e)
  rw [map_range_getD h.len] at h1
  have h2 : (fnd ((List.range S).map (key A S cls S))).length = cnt (next A S cls) := by
    have h2 := (numb_range (n := S) (key A S cls S)).2
    rw [map_range_getD (by rw [numb_len]; simp)] at h2
    exact h2.symm
  rw [h2] at h1
  exact ⟨h1.1, fun e => ((h1.2 e).symm).trans h.own⟩
def zeros (S : Nat) : List Nat := List.replicate S 0
theorem fnd_zeros : ∀ S, fnd (zeros S) = if S = 0 then [] else [0]
  | 0 => rfl
  | S + 1 => by
    unfold zeros
    rw [List.replicate_succ', fnd_snoc, show List.replicate S 0 = zeros S from rfl, fnd_zeros S]
    by_cases h : S = 0
    · subst h; simp
    · simp [h]
theorem cls_zeros (S : Nat) : Cls S (zeros S) := by
  refine ⟨by simp [zeros], ?_⟩
  unfold numb
  rw [fnd_zeros]
  by_cases h : S = 0
  · subst h; rfl
  · rw [if_neg h]
    unfold zeros
    rw [List.map_replicate]
    rfl
theorem cnt_zeros (S : Nat) : cnt (zeros S) = min 1 S := by
  unfold cnt
  rw [fnd_zeros]
  by_cases h : S = 0
  · subst h; rfl
  · rw [if_neg h]; simp; omega
/-- m rounds. -/
def rounds (A : List Int) (S : Nat) : Nat → List Nat
  | 0 => zeros S
  | m + 1 => next A S (rounds A S m)
theorem rounds_cls (A : List Int) (S : Nat) : ∀ m, Cls S (rounds A S m)
  | 0 => cls_zeros S
  | _ + 1 => next_cls
def classes (A : List Int) (S : Nat) : List Nat := rounds A S S
theorem rounds_fix {A : List Int} {S m : Nat} (h : cnt (rounds A S (m + 1)) = cnt (rounds A S m)) : ∀ n, rounds A S (m + n) = rounds A S m
  | 0 => rfl
  | n + 1 => by
    have h1 : rounds A S (m + 1) = rounds A S m := (cnt_next (rounds_cls A S m)).2 h.symm
    rw [← Nat.add_assoc, rounds, rounds_fix h n]
    exact h1
/-- Where the number of classes stays, they are the classes. -/
theorem rounds_stop {A : List Int} {S m : Nat} (hm : m + min 1 S ≤ cnt (rounds A S m)) (h : cnt (rounds A S (m + 1)) = cnt (rounds A S m)) : rounds A S (m + 1) = classes A S := by
  have h1 : rounds A S (m + 1) = rounds A S m := (cnt_next (rounds_cls A S m)).2 h.symm
  have h2 := (rounds_cls A S m).cnt_le
  rw [h1]
  have := rounds_fix h (S - m)
  rw [show m + (S - m) = S by omega] at this
  exact this.symm
theorem rounds_more {A : List Int} {S m : Nat} (hm : m + min 1 S ≤ cnt (rounds A S m)) (h : cnt (rounds A S (m + 1)) ≠ cnt (rounds A S m)) : m + 1 + min 1 S ≤ cnt (rounds A S (m + 1)) := by
  have := (cnt_next (A := A) (rounds_cls A S m)).1
  have e : rounds A S (m + 1) = next A S (rounds A S m) := rfl
  rw [e] at h ⊢
  omega

/-! ### needed -/
section
variable (A B : List Int) (S : Nat)
inductive Reach : Nat → Prop
  | base {j : Nat} : j < S → B.getD j 0 ≠ 0 → Reach j
  | step {i j : Nat} : Reach i → j < S → A.getD (i * S + j) 0 ≠ 0 → Reach j
theorem Reach.lt {j : Nat} (h : Reach A B S j) : j < S := by cases h <;> assumption
structure Sound (bs : List Bool) : Prop where
  len : bs.length = S
  ok : ∀ j, bs.getD j false = true → Reach A B S j
def Full (bs : List Bool) : Prop := ∀ j, Reach A B S j → bs.getD j false = true
def ClosedAt (bs : List Bool) (i : Nat) : Prop := (B.getD i 0 ≠ 0 → bs.getD i false = true) ∧ (bs.getD i false = true → ∀ j, j < S → A.getD (i * S + j) 0 ≠ 0 → bs.getD j false = true)
theorem full_of_closed {bs : List Bool} (h : ∀ i, i < S → ClosedAt A B S bs i) : Full A B S bs := by
  intro j hj
  induction hj with
  | base h1 h2 => exact (h _ h1).1 h2
  | step h1 h2 h3 ih => exact (h _ h1.lt).2 ih _ h2 h3
/-- The other way round: what is not in, nothing calls for. -/
def QuietAt (bs : List Bool) (j : Nat) : Prop := bs.getD j false = false → B.getD j 0 = 0 ∧ ∀ i, i < S → bs.getD i false = true → A.getD (i * S + j) 0 = 0
theorem full_of_quiet {bs : List Bool} (h : ∀ j, j < S → QuietAt A B S bs j) : Full A B S bs := by
  intro j hj
  induction hj with
  | base h1 h2 =>
    rename_i j
    cases e : bs.getD j false with
    | true => rfl
    | false => exact absurd (h j h1 e).1 h2
  | step h1 h2 h3 ih =>
    rename_i i j
    cases e : bs.getD j false with
    | true => rfl
    | false => exact absurd ((h j h2 e).2 i h1.lt ih) h3
/-- A round over all stages at once. -/
def stepB (bs : List Bool) : List Bool := (List.range S).map fun j => bs.getD j false || (B.getD j 0 != 0) || (List.range S).any fun i => bs.getD i false && (A.getD (i * S + j) 0 != 0)
def itB : Nat → List Bool
  | 0 => List.replicate S false
  | n + 1 => stepB A B S (itB n)
def needL : List Nat := (List.range S).filter fun j => (itB A B S (S + 1)).getD j false
/-- The stages marked in the first k. -/
def pick (bs : List Bool) (k : Nat) : List Nat := (List.range k).filter fun j => bs.getD j false
theorem pick_succ (bs : List Bool) (k : Nat) : pick bs (k + 1) = if bs.getD k false = true then pick bs k ++ [k] else pick bs k := by
  unfold pick
  rw [List.range_succ, List.filter_append]
  by_cases h : bs.getD k false = true
  · rw [if_pos h]; congr 1; simp only [List.filter_cons, List.filter_nil]; rw [if_pos h]
  · rw [if_neg h]; simp only [List.filter_cons, List.filter_nil]; rw [if_neg h]; simp
variable {A B S}
theorem stepB_at {bs : List Bool} {j : Nat} (hj : j < S) : (stepB A B S bs).getD j false = (bs.getD j false || (B.getD j 0 != 0) || (List.range S).any fun i => bs.getD i false && (A.getD (i * S + j) 0 != 0)) := by
  unfold stepB
  rw [List.getD_eq_getElem?_getD, List.getElem?_map, List.getElem?_range hj]
  rfl
theorem stepB_len (bs : List Bool) : (stepB A B S bs).length = S := by simp [stepB]
theorem getD_out {bs : List Bool} {j : Nat} (h : bs.length ≤ j) : bs.getD j false = false := by
  rw [List.getD_eq_getElem?_getD, List.getElem?_eq_none h]
  rfl
theorem stepB_sound {bs : List Bool} (h : Sound A B S bs) : Sound A B S (stepB A B S bs) := by
  refine ⟨stepB_len bs, fun j hj => ?_⟩
  by_cases hjS : j < S
  · rw [stepB_at hjS] at hj
    simp only [Bool.or_eq_true, List.any_eq_true, List.mem_range, Bool.and_eq_true, bne_iff_ne] at hj
    rcases hj with (hj | hj) | ⟨i, hi, h1, h2⟩
    · exact h.ok j hj
    · exact .base hjS hj
    · exact .step (h.ok i h1) hjS h2
  · rw [getD_out (by rw [stepB_len]; omega)] at hj
    cases hj
theorem stepB_mono {bs : List Bool} (h : bs.length = S) {j : Nat} (hj : bs.getD j false = true) : (stepB A B S bs).getD j false = true := by
  have hjS : j < S := by
    refine Decidable.byContradiction fun hn => ?_
    rw [getD_out (by omega)] at hj
    cases hj
  rw [stepB_at hjS, hj]
  rfl
theorem count_mono : ∀ (l1 l2 : List Bool), l1.length = l2.length → (∀ j, l1.getD j false = true → l2.getD j false = true) → l1.count true ≤ l2.count true ∧ (l1.count true = l2.count true → l1 = l2)
  | [], [], _, _ => ⟨Nat.le_refl _, fun _ => rfl⟩
  | [], _ :: _, h, _ => by cases h
  | _ :: _, [], h, _ => by cases h
  | a :: l1, b :: l2, h, hm => by
    obtain ⟨h1, h2⟩ := count_mono l1 l2 (by simpa using h) (fun j hj => by simpa using hm (j + 1) (by simpa using hj))
    have h0 := hm 0
    cases a <;> cases b
    · exact ⟨by simpa using h1, fun e => by rw [h2 (by simpa using e)]⟩
    · exact ⟨by simp; omega, fun e => by simp at e; omega⟩
    · simp at h0
    · exact ⟨by simpa using h1, fun e => by rw [h2 (by simpa using e)]⟩
theorem itB_sound : ∀ n, Sound A B S (itB A B S n)
  | 0 => ⟨by simp [itB], fun j h => by
    simp only [itB, List.getD_eq_getElem?_getD, List.getElem?_replicate] at h
    split at h <;> cases h⟩
  | n + 1 => stepB_sound (itB_sound n)
theorem itB_full : ∀ n, n ≤ (itB A B S n).count true ∨ Full A B S (itB A B S n)
  | 0 => .inl (Nat.zero_le _)
  | n + 1 => by
    have hs := itB_sound (A := A) (B := B) (S := S) n
    have hl := hs.len
    have hm : ∀ j, (itB A B S n).getD j false = true → (itB A B S (n + 1)).getD j false = true := fun j hj => stepB_mono hl hj
    rcases itB_full n with h | h
    · obtain ⟨h1, h2⟩ := count_mono (itB A B S n) (itB A B S (n + 1)) (by rw [hl, (itB_sound (n + 1)).len]) hm
      by_cases e : (itB A B S n).count true = (itB A B S (n + 1)).count true
      · have e2 := h2 e
        refine .inr (full_of_quiet A B S fun j hj hf => ?_)
        rw [← e2] at hf ⊢
        have e3 : (stepB A B S (itB A B S n)).getD j false = false := by
          show (itB A B S (n + 1)).getD j false = false
          rw [← e2]; exact hf
        rw [stepB_at hj, hf, Bool.false_or, Bool.or_eq_false_iff] at e3
        refine ⟨by simpa using e3.1, fun i hi hb => ?_⟩
        have h4 := List.any_eq_false.1 e3.2 i (List.mem_range.2 hi)
        rw [hb] at h4
        simpa using h4
      · exact .inl (by omega)
    · exact .inr fun j hj => hm j (h j hj)
theorem need_iff (j : Nat) : (itB A B S (S + 1)).getD j false = true ↔ Reach A B S j := by
  refine ⟨(itB_sound (S + 1)).ok j, fun h => ?_⟩
  rcases itB_full (A := A) (B := B) (S := S) (S + 1) with h1 | h1
  · have h2 := List.count_le_length (a := true) (l := itB A B S (S + 1))
    rw [(itB_sound (S + 1)).len] at h2
    omega
  · exact h1 j h
theorem pick_need {bs : List Bool} (hs : Sound A B S bs) (hf : Full A B S bs) : pick bs S = needL A B S := by
  unfold pick needL
  apply List.filter_congr
  intro j _
  rw [Bool.eq_iff_iff, need_iff]
  exact ⟨hs.ok j, hf j⟩
theorem getD_set_b (bs : List Bool) (k i : Nat) (x : Bool) (hk : k < bs.length) : (bs.set k x).getD i false = if i = k then x else bs.getD i false := by
  simp only [List.getD_eq_getElem?_getD, List.getElem?_set]
  by_cases h : i = k
  · subst h; simp [hk]
  · rw [if_neg h, if_neg (fun e => h e.symm)]
theorem Sound.set {bs : List Bool} (h : Sound A B S bs) {j : Nat} (hj : Reach A B S j) : Sound A B S (bs.set j true) := by
  refine ⟨by rw [List.length_set]; exact h.len, fun i hi => ?_⟩
  rw [getD_set_b _ _ _ _ (by rw [h.len]; exact hj.lt)] at hi
  split at hi
  · rename_i e; subst e; exact hj
  · exact h.ok i hi
theorem count_le {bs : List Bool} (h : Sound A B S bs) : bs.count true ≤ S := by have := List.count_le_length (a := true) (l := bs); rw [h.len] at this; exact this
theorem count_set {bs : List Bool} {j : Nat} (hj : j < bs.length) (h : bs.getD j false = false) : (bs.set j true).count true = bs.count true + 1 := by
  induction bs generalizing j with
  | nil => cases hj
  | cons b bs ih =>
    cases j with
    | zero =>
      have : b = false := by simpa using h
      subst this
      simp
    | succ j =>
      have := ih (by simpa using hj) (by simpa using h)
      cases b <;> simp_all
theorem needL_lt : ∀ x ∈ needL A B S, x < S := fun _ hx => List.mem_range.1 (List.mem_filter.1 hx).1
theorem needL_len : (needL A B S).length ≤ S := by
  have := List.length_filter_le (fun j => (itB A B S (S + 1)).getD j false) (List.range S)
  rw [List.length_range] at this
  exact this
end
end Go.Proofs.Ytekojohhjnklkaa.Red
