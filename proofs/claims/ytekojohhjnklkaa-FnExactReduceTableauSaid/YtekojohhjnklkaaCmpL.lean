/- ComposeTableaus: plain lists; a tableau in place, its blocks known whole. -/
import Derived.Test.YtekojohhjnklkaaPermL
import Derived.Laws.CopyOwn
namespace Go.Proofs.Ytekojohhjnklkaa
open Go.RowKit

def zerosL (n : Nat) : List Int := List.replicate n 0
/-- Row i of the composition of S and T stages. -/
def cmpRow (A B C : List Int) (S T i : Nat) : List Int := if i < S then rowL A S i ++ zerosL T else B ++ rowL C T (i - S)
def cmpL (A B C : List Int) (S T k : Nat) : List Int := (List.range k).flatMap (cmpRow A B C S T)
def cmpB (B D : List Int) (k : Nat) : List Int := (B ++ D).take k
theorem cmpL_succ (A B C : List Int) (S T k : Nat) : cmpL A B C S T (k + 1) = cmpL A B C S T k ++ cmpRow A B C S T k := by simp [cmpL, List.range_succ]
theorem cmpRow_lo {A B C : List Int} {S T i : Nat} (h : i < S) : cmpRow A B C S T i = rowL A S i ++ zerosL T := if_pos h
theorem cmpRow_hi {A B C : List Int} {S T i : Nat} (h : ¬ i < S) : cmpRow A B C S T i = B ++ rowL C T (i - S) := if_neg h
theorem cmpRow_len {A B C : List Int} {S T i : Nat} (hA : A.length = S * S) (hB : B.length = S) (hC : C.length = T * T) (hi : i < S + T) : (cmpRow A B C S T i).length = S + T := by
  by_cases h : i < S
  · rw [cmpRow_lo h, List.length_append, rowL_len hA h]; simp [zerosL]
  · rw [cmpRow_hi h, List.length_append, rowL_len hC (by omega), hB]
theorem cmpL_len {A B C : List Int} {S T : Nat} (hA : A.length = S * S) (hB : B.length = S) (hC : C.length = T * T) : ∀ k, k ≤ S + T → (cmpL A B C S T k).length = k * (S + T)
  | 0, _ => by simp [cmpL]
  | k + 1, h => by rw [cmpL_succ, List.length_append, cmpL_len hA hB hC k (by omega), cmpRow_len hA hB hC (by omega), Nat.add_mul, Nat.one_mul]
def cmpV (s : Int) (A B : List Int) (t : Int) (C D : List Int) : Tb :=
  if tabOk s A B && tabOk t C D && decide (s + t ≤ 8) then ⟨s + t, cmpL A B C s.toNat t.toNat (s.toNat + t.toNat), B ++ D, true⟩ else Tb.none
theorem cmpV_yes {S T : Nat} {A B C D : List Int} (h1 : tabOk S A B = true) (h2 : tabOk T C D = true) (h : S + T ≤ 8) : cmpV S A B T C D = ⟨(S : Int) + (T : Int), cmpL A B C S T (S + T), B ++ D, true⟩ := by
  unfold cmpV
  rw [h1, h2, show decide ((S : Int) + (T : Int) ≤ 8) = true by simp; omega]
  simp
theorem cmpV_no1 {s t : Int} {A B : List Int} (C D : List Int) (h : tabOk s A B = false) : cmpV s A B t C D = Tb.none := by unfold cmpV; rw [h]; rfl
theorem cmpV_no2 {s t : Int} {A B C D : List Int} (h : tabOk t C D = false) : cmpV s A B t C D = Tb.none := by unfold cmpV; rw [h]; simp
theorem cmpV_no3 {S T : Nat} {A B C D : List Int} (h : ¬ S + T ≤ 8) : cmpV S A B T C D = Tb.none := by
  unfold cmpV
  rw [show decide ((S : Int) + (T : Int) ≤ 8) = false by simp; omega]
  simp
theorem cmpV_len (s : Int) (A B : List Int) (t : Int) (C D : List Int) : (cmpV s A B t C D).A.length ≤ 1000 ∧ (cmpV s A B t C D).B.length ≤ 1000 := by
  cases h1 : tabOk s A B with
  | false => rw [cmpV_no1 C D h1]; exact ⟨Nat.zero_le _, Nat.zero_le _⟩
  | true =>
    cases h2 : tabOk t C D with
    | false => rw [cmpV_no2 h2]; exact ⟨Nat.zero_le _, Nat.zero_le _⟩
    | true =>
      obtain ⟨S, rfl, hS, e1, e2, _⟩ := tabOk_parts h1 rfl rfl
      obtain ⟨T, rfl, hT, e3, e4, _⟩ := tabOk_parts h2 rfl rfl
      by_cases h : S + T ≤ 8
      · rw [cmpV_yes h1 h2 h]
        simp only [List.length_append]
        rw [cmpL_len e1 e2 e3 _ (Nat.le_refl _), e2, e4]
        have : (S + T) * (S + T) ≤ 64 := Nat.mul_le_mul h h
        omega
      · rw [cmpV_no3 h]; exact ⟨Nat.zero_le _, Nat.zero_le _⟩

/-! ### blocks known whole -/
def ints (xs : List Int) : List Value := xs.map (Value.int .i64)
/-- Block b holds the ints xs and nothing else. -/
def Bi (w : World) (b : Nat) (xs : List Int) : Prop := w.heap[b]? = some (.cells (ints xs).toArray 3 (0, 0))
theorem Bi.below {w w' : World} {b : Nat} {xs : List Int} (h : Bi w b xs) (hb : Below w.heap.size w w') : Bi w' b xs := bk_below h hb
theorem Bi.set {w : World} {b : Nat} {xs : List Int} (h : Bi w b xs) (k : Nat) (x : Int) : Bi (w.setCell ⟨b, k, Option.none⟩ (.int .i64 x)) b (xs.set k x) := by
  unfold Bi
  rw [heap_setCell_same _ _ _ _ _ _ h]
  congr 2
  apply Array.toList_inj.1
  simp [ints, List.map_set]
theorem Bi.far {w : World} {b c k : Nat} {xs : List Int} {v : Value} (h : Bi w b xs) (hne : b ≠ c) : Bi (w.setCell ⟨c, k, Option.none⟩ v) b xs := (heap_setCell_other _ _ _ _ hne).trans h
theorem Bi.cell {w : World} {b : Nat} {xs : List Int} (h : Bi w b xs) {k : Nat} (hk : k < xs.length) : ∃ y, w.cell? ⟨b, k, Option.none⟩ = some (.int .i64 y) ∧ w.frozen? ⟨b, k, Option.none⟩ = false := by
  refine ⟨xs[k], ?_, frozen_of_row w _ _ _ _ h⟩
  rw [cell_of_row w b k _ _ _ h]
  simp [ints, hk]
theorem Bi.fr {w : World} {lo b n : Nat} {xs : List Int} (h : Bi w b xs) (hb : lo ≤ b) (hl : xs.length = n) (hn : n ≤ 2097152) (hw : ∀ x ∈ xs, I64 x) : Fr w lo (some ⟨b, 0, Option.none⟩) n n xs := by
  refine ⟨⟨hl, Nat.le_refl _, by omega, fun i hi => ⟨b, 0, rfl, ?_⟩, hw⟩, fun b' o s e _ => ?_⟩
  · rw [Nat.zero_add, cell_of_row w b i _ _ _ h]
    simp [ints, List.getD, show i < xs.length by omega]
  · simp only [Option.some.injEq, Addr.mk.injEq] at e
    obtain ⟨rfl, rfl, rfl⟩ := e
    exact ⟨hb, fun i _ => frozen_of_row w _ _ _ _ h⟩
theorem ints_zeros (n : Nat) : zeros n = (ints (zerosL n)).toArray := rfl
/-- 'empty', its blocks known whole. -/
theorem impl_emptyW (S nA : Nat) (w : World) (hS : S ≤ 8) (hA : nA = S * S) :
    Calls Try.prog 66 #[.int .i64 S] w fun e w' => ∃ bA bB, e = .returned (.agg #[.int .i64 S, .slice (some ⟨bA, 0, none⟩) nA nA, .slice (some ⟨bB, 0, none⟩) S S]) ∧
      Bi w' bA (zerosL nA) ∧ Bi w' bB (zerosL S) ∧ bA ≠ bB ∧ Below w.heap.size w w' ∧ w.heap.size ≤ bA ∧ w.heap.size ≤ bB := by
  have hq : (S : Int) * (S : Int) = ((nA : Nat) : Int) := by rw [hA, Int.natCast_mul]
  have hq2 : nA ≤ 64 := by rw [hA]; exact Nat.mul_le_mul hS hS
  have f1 : (0 : Int) ≤ (S : Int) * (S : Int) := by rw [hq]; omega
  have f2 : (S : Int) * (S : Int) ≤ 64 := by rw [hq]; omega
  have m1 := run_mk nA ((S : Int) * (S : Int)) hq (by omega)
  have m2 := run_mk S (S : Int) rfl (by omega)
  clear hq hA
  go_enter Try.func66, Try.ntmps66
  go_wp2_with fail
  go_region
  all_goals go_wp2_with fail
  · obtain ⟨h1, h2, h3, h4⟩ := two_blocks w (.cells #[.int .i64 S, .slice (some ⟨w.heap.size + 1, 0, none⟩) nA nA, .slice (some ⟨w.heap.size + 1 + 1, 0, none⟩) S S] 27) nA S (by omega) (by omega)
    refine ret_tab (b := w.heap.size) rfl rfl h4 rfl ⟨_, _, rfl, ?_, ?_, by omega, h3, by omega, by omega⟩
    · show (((w.alloc _).alloc _).alloc _).heap[w.heap.size + 1]? = _
      rw [heap_alloc_past _ _ _ (by simp), heap_alloc_at _ _ _ _ (by simp)]; rfl
    · show (((w.alloc _).alloc _).alloc _).heap[w.heap.size + 1 + 1]? = _
      rw [heap_alloc_at _ _ _ _ (by simp)]; rfl
  · obtain ⟨h1, h2, h3, h4⟩ := two_blocks w (.cells #[.int .i64 S, .slice (some ⟨w.heap.size + 1 + 1, 0, none⟩) nA nA, .slice (some ⟨w.heap.size + 1, 0, none⟩) S S] 27) S nA (by omega) (by omega)
    refine ret_tab (b := w.heap.size) rfl rfl h4 rfl ⟨_, _, rfl, ?_, ?_, by omega, h3, by omega, by omega⟩
    · show (((w.alloc _).alloc _).alloc _).heap[w.heap.size + 1 + 1]? = _
      rw [heap_alloc_at _ _ _ _ (by simp)]; rfl
    · show (((w.alloc _).alloc _).alloc _).heap[w.heap.size + 1]? = _
      rw [heap_alloc_past _ _ _ (by simp), heap_alloc_at _ _ _ _ (by simp)]; rfl
/-- A row's cells laid over the zeros behind what is there. -/
theorem splice_zeros {P cs : List Int} {R off : Nat} (hP : P.length = off) : splice (P ++ zerosL R) off cs = P ++ cs ++ zerosL (R - cs.length) := by
  subst hP
  unfold splice zerosL
  rw [List.take_left' rfl, List.drop_append, List.drop_of_length_le (by omega)]
  simp
theorem splice_ints (L : List Int) (off : Nat) (cs : List Int) : splice (ints L) off (ints cs) = ints (splice L off cs) := by
  simp [splice, ints]
theorem grown_setRow (w : World) (g : Nat) (cs : Array Value) : w.grownBy (w.setRow g cs) (some g) :=
  ⟨rfl, rfl, rfl, by simp, fun j _ hj => setRow_other w g j cs (fun e => hj (by rw [e]))⟩
/-- 'copy(row, ys)': ys laid over the zeros behind P. -/
theorem run_copy_ints {w : World} {g off dLen dCap : Nat} {P : List Int} {R : Nat} (hg : Bi w g (P ++ zerosL R)) (hP : P.length = off) {ad : Option Addr} {n c : Nat} {ys : List Int} (hr : Rd w ad n c ys) (hn : n ≤ dLen) (hR : n ≤ R) (ty : TypeId) :
    ∃ w', (Builtin.copy_ #[22, 22] ty #[.slice (some ⟨g, off, none⟩) dLen dCap, .slice ad n c]).run Try.prog w = .ok (.int .i64 n) w' ∧ Bi w' g (P ++ ys ++ zerosL (R - n)) ∧ w.grownBy w' (some g) ∧ w.heap.size ≤ w'.heap.size := by
  have hsz : (Try.prog.info? 3).map (·.size) = some 1 := by kernel_rfl
  rcases Nat.eq_zero_or_pos n with h0 | h0
  · subst h0
    obtain rfl : ys = [] := List.eq_nil_of_length_eq_zero hr.len
    refine ⟨w, ?_, by simpa using hg, World.grownBy.refl _ _, Nat.le_refl _⟩
    exact run_copy_none (P := Try.prog) w _ _ ty 3 _ _ _ _ _ _ Try.underlying22 hsz (Nat.zero_min _)
  · obtain ⟨b, o, e, _⟩ := hr.cell 0 h0
    subst e
    have hl : (ints ys).length = n := by simp [ints, hr.len]
    have hrun := run_copy_row (P := Try.prog) w 22 22 ty 3 g off dLen dCap ⟨b, o, none⟩ n c (ints (P ++ zerosL R)).toArray 3 (ints ys) Try.underlying22 hsz hg
      (by rw [hl]; exact (Nat.min_eq_left hn).symm) (fun j v hj => by
        have hj' : j < n := by have := (List.getElem?_eq_some_iff.1 hj).1; omega
        obtain ⟨b', o', e, hc⟩ := hr.cell j hj'
        cases e
        rw [Addr.add_lit, hc]
        rw [ints, List.getElem?_map] at hj
        have hjy : j < ys.length := by rw [hr.len]; exact hj'
        simpa [List.getD, hjy] using hj) (by rw [hl]; simp [ints, zerosL]; omega) (fun u hu => by
        obtain ⟨_, _, rfl⟩ := List.mem_map.1 hu
        rfl)
    rw [hl] at hrun
    refine ⟨_, hrun, ?_, grown_setRow _ _ _, by simp⟩
    unfold Bi
    rw [setRow_heap _ _ _ _ _ _ hg]
    congr 2
    apply Array.toList_inj.1
    have hs := splice_zeros (R := R) (cs := ys) hP
    have h2 := splice_ints (P ++ zerosL R) off ys
    rw [hs, hr.len] at h2
    rw [← h2]
    simp [splice, hl, List.append_assoc]
theorem zerosL_add (m n : Nat) : zerosL (m + n) = zerosL m ++ zerosL n := by simp [zerosL]
/-- the next element of B and D -/
theorem cmpB_step {L : List Int} {N k : Nat} {x : Int} (hl : L.length = N) (hk : k < N) (hx : x = L.getD k 0) : (L.take k ++ zerosL (N - k)).set k x = L.take (k + 1) ++ zerosL (N - (k + 1)) := by
  rw [take_snoc 0 L k (by omega), ← hx, show N - k = (N - (k + 1)) + 1 by omega]
  have e : (L.take k).length = k := by simp; omega
  rw [List.set_append_right _ _ (by omega), e, Nat.sub_self]
  simp [zerosL, List.replicate_succ]
theorem getD_lo {B D : List Int} {S k : Nat} {x : Int} (hB : B.length = S) (hk : k < S) (hx : x = B.getD k 0) : x = (B ++ D).getD k 0 := by
  rw [hx, List.getD_eq_getElem?_getD, List.getD_eq_getElem?_getD, List.getElem?_append_left (by omega)]
theorem getD_hi {B D : List Int} {S k : Nat} {x : Int} (hB : B.length = S) (hk : ¬ k < S) (hx : x = D.getD (k - S) 0) : x = (B ++ D).getD k 0 := by
  rw [hx, List.getD_eq_getElem?_getD, List.getD_eq_getElem?_getD, List.getElem?_append_right (by omega), hB]
theorem cmpRow_wf {A B C : List Int} {S T i : Nat} (hA : ∀ x ∈ A, I64 x) (hB : ∀ x ∈ B, I64 x) (hC : ∀ x ∈ C, I64 x) : ∀ x ∈ cmpRow A B C S T i, I64 x := by
  intro x hx
  unfold cmpRow at hx
  split at hx
  · rcases List.mem_append.1 hx with h | h
    · exact hA x (List.mem_of_mem_drop (List.mem_of_mem_take h))
    · rw [(List.mem_replicate.1 h).2]; exact ⟨by decide, by decide⟩
  · rcases List.mem_append.1 hx with h | h
    · exact hB x h
    · exact hC x (List.mem_of_mem_drop (List.mem_of_mem_take h))
theorem cmpL_wf {A B C : List Int} {S T k : Nat} (hA : ∀ x ∈ A, I64 x) (hB : ∀ x ∈ B, I64 x) (hC : ∀ x ∈ C, I64 x) : ∀ x ∈ cmpL A B C S T k, I64 x := by
  intro x hx
  obtain ⟨i, _, hi⟩ := List.mem_flatMap.1 hx
  exact cmpRow_wf hA hB hC x hi
/-- Two blocks known whole are a tableau in new memory. -/
theorem newT_blocks {w w' : World} {XA XB : List Int} {bA bB nA nB : Nat} (hA : Bi w' bA XA) (hB : Bi w' bB XB) (hl : Below w.heap.size w w') (h1 : w.heap.size ≤ bA) (h2 : w.heap.size ≤ bB) (hne : bA ≠ bB) (e1 : XA.length = nA) (e2 : XB.length = nB) (m1 : nA ≤ 2097152) (m2 : nB ≤ 2097152) (wA : ∀ x ∈ XA, I64 x) (wB : ∀ x ∈ XB, I64 x) :
    NewT w w' XA XB (some ⟨bA, 0, none⟩) nA nA (some ⟨bB, 0, none⟩) nB nB :=
  ⟨hA.fr h1 e1 m1 wA, hB.fr h2 e2 m2 wB, fun _ _ e => hne (by simpa [blk] using e), hl⟩
theorem wrap_dif {a b i : Nat} (h : i + b = a) (ha : a ≤ 64) : IntKind.i64.wrap ((a : Int) - (b : Int)) = (i : Int) := by
  rw [show (a : Int) - (b : Int) = (i : Int) by omega]
  exact IntWalk.i64_in (i : Int) ⟨by omega, by omega⟩
end Go.Proofs.Ytekojohhjnklkaa
