/- Merged texts: CmpL, Quiet, CmpI, ColL, Kn, KnI, KnN0, ColI. -/
import Derived.Test.YthebegfceaehfaaDoorKt9
import Derived.Laws.CopyOwn
import Derived.Test.YthebegfceaehfaaDoorKt8
import Derived.Test.YthebegfceaehfaaDoorKt3
import Derived.StillTailTactics
import Derived.Test.YthebegfceaehfaaDoorKt13
import Derived.Test.YthebegfceaehfaaDoorKt17
import Derived.Test.YthebegfceaehfaaDoorKt11
import Derived.Test.YthebegfceaehfaaDoorShelf
import Derived.Laws.EntriesVeiled
/- CmpL: ComposeTableaus: plain lists; a tableau in place, its blocks known whole. -/
namespace Go.Proofs.YthebegfceaehfaaDoor
open Go.RowKit

def zerosL (n : Nat) : List Int := List.replicate n 0
/-- Row i of the composition of S and T stages. -/
def cmpRow (A B C : List Int) (S T i : Nat) : List Int := if i < S then rowL A S i ++ zerosL T else B ++ rowL C T (i - S)
def cmpL (A B C : List Int) (S T k : Nat) : List Int := (List.range k).flatMap (cmpRow A B C S T)
def cmpB (B D : List Int) (k : Nat) : List Int := (B ++ D).take k
theorem cmpL_succ (A B C : List Int) (S T k : Nat) : cmpL A B C S T (k + 1) = cmpL A B C S T k ++ cmpRow A B C S T k := by simp [cmpL, List.range_succ]
theorem cmpRow_lo {A B C : List Int} {S T i : Nat} (h : i < S) : cmpRow A B C S T i = rowL A S i ++ zerosL T := if_pos h
theorem cmpRow_hi {A B C : List Int} {S T i : Nat} (h : ¬ i < S) : cmpRow A B C S T i = B ++ rowL C T (i - S) := if_neg h
theorem cmpRow_len {A B C : List Int} {S T i : Nat} (hA : A.length = S * S) (hB : B.length = S) (hC : C.length = T * T) (hi : i < S + T) : (cmpRow A B C S T i).length = S + T := by
  by_cases h : i < S
  · rw [cmpRow_lo h, List.length_append, rowL_len hA h]; simp [zerosL]
  · rw [cmpRow_hi h, List.length_append, rowL_len hC (by omega), hB]
theorem cmpL_len {A B C : List Int} {S T : Nat} (hA : A.length = S * S) (hB : B.length = S) (hC : C.length = T * T) : ∀ k, k ≤ S + T → (cmpL A B C S T k).length = k * (S + T)
  | 0, _ => by simp [cmpL]
  | k + 1, h => by rw [cmpL_succ, List.length_append, cmpL_len hA hB hC k (by omega), cmpRow_len hA hB hC (by omega), Nat.add_mul, Nat.one_mul]
def cmpV (s : Int) (A B : List Int) (t : Int) (C D : List Int) : Tb :=
  if tabOk s A B && tabOk t C D && decide (s + t ≤ 8) then ⟨s + t, cmpL A B C s.toNat t.toNat (s.toNat + t.toNat), B ++ D, true⟩ else Tb.none
theorem cmpV_yes {S T : Nat} {A B C D : List Int} (h1 : tabOk S A B = true) (h2 : tabOk T C D = true) (h : S + T ≤ 8) : cmpV S A B T C D = ⟨(S : Int) + (T : Int), cmpL A B C S T (S + T), B ++ D, true⟩ := by
  unfold cmpV
  rw [h1, h2, show decide ((S : Int) + (T : Int) ≤ 8) = true by simp; omega]
  simp
theorem cmpV_no1 {s t : Int} {A B : List Int} (C D : List Int) (h : tabOk s A B = false) : cmpV s A B t C D = Tb.none := by unfold cmpV; rw [h]; rfl
theorem cmpV_no2 {s t : Int} {A B C D : List Int} (h : tabOk t C D = false) : cmpV s A B t C D = Tb.none := by unfold cmpV; rw [h]; simp
theorem cmpV_no3 {S T : Nat} {A B C D : List Int} (h : ¬ S + T ≤ 8) : cmpV S A B T C D = Tb.none := by
  unfold cmpV
  rw [show decide ((S : Int) + (T : Int) ≤ 8) = false by simp; omega]
  simp
theorem cmpV_len (s : Int) (A B : List Int) (t : Int) (C D : List Int) : (cmpV s A B t C D).A.length ≤ 1000 ∧ (cmpV s A B t C D).B.length ≤ 1000 := by
  cases h1 : tabOk s A B with
  | false => rw [cmpV_no1 C D h1]; exact ⟨Nat.zero_le _, Nat.zero_le _⟩
  | true =>
    cases h2 : tabOk t C D with
    | false => rw [cmpV_no2 h2]; exact ⟨Nat.zero_le _, Nat.zero_le _⟩
    | true =>
      obtain ⟨S, rfl, hS, e1, e2, _⟩ := tabOk_parts h1 rfl rfl
      obtain ⟨T, rfl, hT, e3, e4, _⟩ := tabOk_parts h2 rfl rfl
      by_cases h : S + T ≤ 8
      · rw [cmpV_yes h1 h2 h]
        simp only [List.length_append]
        rw [cmpL_len e1 e2 e3 _ (Nat.le_refl _), e2, e4]
        have : (S + T) * (S + T) ≤ 64 := Nat.mul_le_mul h h
        omega
      · rw [cmpV_no3 h]; exact ⟨Nat.zero_le _, Nat.zero_le _⟩

/-! ### blocks known whole -/
def ints (xs : List Int) : List Value := xs.map (Value.int .i64)
/-- Block b holds the ints xs and nothing else. -/
def Bi (w : World) (b : Nat) (xs : List Int) : Prop := w.heap[b]? = some (.cells (ints xs).toArray 3 (0, 0))
theorem Bi.below {w w' : World} {b : Nat} {xs : List Int} (h : Bi w b xs) (hb : Below w.heap.size w w') : Bi w' b xs := bk_below h hb
theorem Bi.set {w : World} {b : Nat} {xs : List Int} (h : Bi w b xs) (k : Nat) (x : Int) : Bi (w.setCell ⟨b, k, Option.none⟩ (.int .i64 x)) b (xs.set k x) := by
  unfold Bi
  rw [heap_setCell_same _ _ _ _ _ _ h]
  congr 2
  apply Array.toList_inj.1
  simp [ints, List.map_set]
theorem Bi.far {w : World} {b c k : Nat} {xs : List Int} {v : Value} (h : Bi w b xs) (hne : b ≠ c) : Bi (w.setCell ⟨c, k, Option.none⟩ v) b xs := (heap_setCell_other _ _ _ _ hne).trans h
theorem Bi.cell {w : World} {b : Nat} {xs : List Int} (h : Bi w b xs) {k : Nat} (hk : k < xs.length) : ∃ y, w.cell? ⟨b, k, Option.none⟩ = some (.int .i64 y) ∧ w.frozen? ⟨b, k, Option.none⟩ = false := by
  refine ⟨xs[k], ?_, frozen_of_row w _ _ _ _ h⟩
  rw [cell_of_row w b k _ _ _ h]
  simp [ints, hk]
theorem Bi.fr {w : World} {lo b n : Nat} {xs : List Int} (h : Bi w b xs) (hb : lo ≤ b) (hl : xs.length = n) (hn : n ≤ 2097152) (hw : ∀ x ∈ xs, I64 x) : Fr w lo (some ⟨b, 0, Option.none⟩) n n xs := by
  refine ⟨⟨hl, Nat.le_refl _, by omega, fun i hi => ⟨b, 0, rfl, ?_⟩, hw⟩, fun b' o s e _ => ?_⟩
  · rw [Nat.zero_add, cell_of_row w b i _ _ _ h]
    simp [ints, List.getD, show i < xs.length by omega]
  · simp only [Option.some.injEq, Addr.mk.injEq] at e
    obtain ⟨rfl, rfl, rfl⟩ := e
    exact ⟨hb, fun i _ => frozen_of_row w _ _ _ _ h⟩
theorem ints_zeros (n : Nat) : zeros n = (ints (zerosL n)).toArray := rfl
/-- 'empty', its blocks known whole. -/
theorem impl_emptyW (S nA : Nat) (w : World) (hS : S ≤ 8) (hA : nA = S * S) :
    Calls Tryd.prog 15 #[.int .i64 S] w fun e w' => ∃ bA bB, e = .returned (.agg #[.int .i64 S, .slice (some ⟨bA, 0, none⟩) nA nA, .slice (some ⟨bB, 0, none⟩) S S]) ∧
      Bi w' bA (zerosL nA) ∧ Bi w' bB (zerosL S) ∧ bA ≠ bB ∧ Below w.heap.size w w' ∧ w.heap.size ≤ bA ∧ w.heap.size ≤ bB := by
  have hq : (S : Int) * (S : Int) = ((nA : Nat) : Int) := by rw [hA, Int.natCast_mul]
  have hq2 : nA ≤ 64 := by rw [hA]; exact Nat.mul_le_mul hS hS
  have f1 : (0 : Int) ≤ (S : Int) * (S : Int) := by rw [hq]; omega
  have f2 : (S : Int) * (S : Int) ≤ 64 := by rw [hq]; omega
  have m1 := run_mk nA ((S : Int) * (S : Int)) hq (by omega)
  have m2 := run_mk S (S : Int) rfl (by omega)
  clear hq hA
  go_enter Tryd.func15, Tryd.ntmps15
  go_wp2_with fail
  go_region
  all_goals go_wp2_with fail
  · obtain ⟨h1, h2, h3, h4⟩ := two_blocks w (.cells #[.int .i64 S, .slice (some ⟨w.heap.size + 1, 0, none⟩) nA nA, .slice (some ⟨w.heap.size + 1 + 1, 0, none⟩) S S] 24) nA S (by omega) (by omega)
    refine ret_tab (b := w.heap.size) rfl rfl h4 rfl ⟨_, _, rfl, ?_, ?_, by omega, h3, by omega, by omega⟩
    · show (((w.alloc _).alloc _).alloc _).heap[w.heap.size + 1]? = _
      rw [heap_alloc_past _ _ _ (by simp), heap_alloc_at _ _ _ _ (by simp)]; rfl
    · show (((w.alloc _).alloc _).alloc _).heap[w.heap.size + 1 + 1]? = _
      rw [heap_alloc_at _ _ _ _ (by simp)]; rfl
  · obtain ⟨h1, h2, h3, h4⟩ := two_blocks w (.cells #[.int .i64 S, .slice (some ⟨w.heap.size + 1 + 1, 0, none⟩) nA nA, .slice (some ⟨w.heap.size + 1, 0, none⟩) S S] 24) S nA (by omega) (by omega)
    refine ret_tab (b := w.heap.size) rfl rfl h4 rfl ⟨_, _, rfl, ?_, ?_, by omega, h3, by omega, by omega⟩
    · show (((w.alloc _).alloc _).alloc _).heap[w.heap.size + 1 + 1]? = _
      rw [heap_alloc_at _ _ _ _ (by simp)]; rfl
    · show (((w.alloc _).alloc _).alloc _).heap[w.heap.size + 1]? = _
      rw [heap_alloc_past _ _ _ (by simp), heap_alloc_at _ _ _ _ (by simp)]; rfl
/-- A row's cells laid over the zeros behind what is there. -/
theorem splice_zeros {P cs : List Int} {R off : Nat} (hP : P.length = off) : splice (P ++ zerosL R) off cs = P ++ cs ++ zerosL (R - cs.length) := by
  subst hP
  unfold splice zerosL
  rw [List.take_left' rfl, List.drop_append, List.drop_of_length_le (by omega)]
  simp
theorem splice_ints (L : List Int) (off : Nat) (cs : List Int) : splice (ints L) off (ints cs) = ints (splice L off cs) := by
  simp [splice, ints]
theorem grown_setRow (w : World) (g : Nat) (cs : Array Value) : w.grownBy (w.setRow g cs) (some g) :=
  ⟨rfl, rfl, rfl, by simp, fun j _ hj => setRow_other w g j cs (fun e => hj (by rw [e]))⟩
/-- 'copy(row, ys)': ys laid over the zeros behind P. -/
theorem run_copy_ints {w : World} {g off dLen dCap : Nat} {P : List Int} {R : Nat} (hg : Bi w g (P ++ zerosL R)) (hP : P.length = off) {ad : Option Addr} {n c : Nat} {ys : List Int} (hr : Rd w ad n c ys) (hn : n ≤ dLen) (hR : n ≤ R) (ty : TypeId) :
    ∃ w', (Builtin.copy_ #[22, 22] ty #[.slice (some ⟨g, off, none⟩) dLen dCap, .slice ad n c]).run Tryd.prog w = .ok (.int .i64 n) w' ∧ Bi w' g (P ++ ys ++ zerosL (R - n)) ∧ w.grownBy w' (some g) ∧ w.heap.size ≤ w'.heap.size := by
  have hsz : (Tryd.prog.info? 3).map (·.size) = some 1 := by kernel_rfl
  rcases Nat.eq_zero_or_pos n with h0 | h0
  · subst h0
    obtain rfl : ys = [] := List.eq_nil_of_length_eq_zero hr.len
    refine ⟨w, ?_, by simpa using hg, World.grownBy.refl _ _, Nat.le_refl _⟩
    exact run_copy_none (P := Tryd.prog) w _ _ ty 3 _ _ _ _ _ _ Tryd.underlying22 hsz (Nat.zero_min _)
  · obtain ⟨b, o, e, _⟩ := hr.cell 0 h0
    subst e
    have hl : (ints ys).length = n := by simp [ints, hr.len]
    have hrun := run_copy_row (P := Tryd.prog) w 22 22 ty 3 g off dLen dCap ⟨b, o, none⟩ n c (ints (P ++ zerosL R)).toArray 3 (ints ys) Tryd.underlying22 hsz hg
      (by rw [hl]; exact (Nat.min_eq_left hn).symm) (fun j v hj => by
        have hj' : j < n := by have := (List.getElem?_eq_some_iff.1 hj).1; omega
        obtain ⟨b', o', e, hc⟩ := hr.cell j hj'
        cases e
        rw [Addr.add_lit, hc]
        rw [ints, List.getElem?_map] at hj
        have hjy : j < ys.length := by rw [hr.len]; exact hj'
        simpa [List.getD, hjy] using hj) (by rw [hl]; simp [ints, zerosL]; omega) (fun u hu => by
        obtain ⟨_, _, rfl⟩ := List.mem_map.1 hu
        rfl)
    rw [hl] at hrun
    refine ⟨_, hrun, ?_, grown_setRow _ _ _, by simp⟩
    unfold Bi
    rw [setRow_heap _ _ _ _ _ _ hg]
    congr 2
    apply Array.toList_inj.1
    have hs := splice_zeros (R := R) (cs := ys) hP
    have h2 := splice_ints (P ++ zerosL R) off ys
    rw [hs, hr.len] at h2
    rw [← h2]
    simp [splice, hl, List.append_assoc]
theorem zerosL_add (m n : Nat) : zerosL (m + n) = zerosL m ++ zerosL n := by simp [zerosL]
/-- the next element of B and D -/
theorem cmpB_step {L : List Int} {N k : Nat} {x : Int} (hl : L.length = N) (hk : k < N) (hx : x = L.getD k 0) : (L.take k ++ zerosL (N - k)).set k x = L.take (k + 1) ++ zerosL (N - (k + 1)) := by
  rw [take_snoc 0 L k (by omega), ← hx, show N - k = (N - (k + 1)) + 1 by omega]
  have e : (L.take k).length = k := by simp; omega
  rw [List.set_append_right _ _ (by omega), e, Nat.sub_self]
  simp [zerosL, List.replicate_succ]
theorem getD_lo {B D : List Int} {S k : Nat} {x : Int} (hB : B.length = S) (hk : k < S) (hx : x = B.getD k 0) : x = (B ++ D).getD k 0 := by
  rw [hx, List.getD_eq_getElem?_getD, List.getD_eq_getElem?_getD, List.getElem?_append_left (by omega)]
theorem getD_hi {B D : List Int} {S k : Nat} {x : Int} (hB : B.length = S) (hk : ¬ k < S) (hx : x = D.getD (k - S) 0) : x = (B ++ D).getD k 0 := by
  rw [hx, List.getD_eq_getElem?_getD, List.getD_eq_getElem?_getD, List.getElem?_append_right (by omega), hB]
theorem cmpRow_wf {A B C : List Int} {S T i : Nat} (hA : ∀ x ∈ A, I64 x) (hB : ∀ x ∈ B, I64 x) (hC : ∀ x ∈ C, I64 x) : ∀ x ∈ cmpRow A B C S T i, I64 x := by
  intro x hx
  unfold cmpRow at hx
  split at hx
  · rcases List.mem_append.1 hx with h | h
    · exact hA x (List.mem_of_mem_drop (List.mem_of_mem_take h))
    · rw [(List.mem_replicate.1 h).2]; exact ⟨by decide, by decide⟩
  · rcases List.mem_append.1 hx with h | h
    · exact hB x h
    · exact hC x (List.mem_of_mem_drop (List.mem_of_mem_take h))
theorem cmpL_wf {A B C : List Int} {S T k : Nat} (hA : ∀ x ∈ A, I64 x) (hB : ∀ x ∈ B, I64 x) (hC : ∀ x ∈ C, I64 x) : ∀ x ∈ cmpL A B C S T k, I64 x := by
  intro x hx
  obtain ⟨i, _, hi⟩ := List.mem_flatMap.1 hx
  exact cmpRow_wf hA hB hC x hi
/-- Two blocks known whole are a tableau in new memory. -/
theorem newT_blocks {w w' : World} {XA XB : List Int} {bA bB nA nB : Nat} (hA : Bi w' bA XA) (hB : Bi w' bB XB) (hl : Below w.heap.size w w') (h1 : w.heap.size ≤ bA) (h2 : w.heap.size ≤ bB) (hne : bA ≠ bB) (e1 : XA.length = nA) (e2 : XB.length = nB) (m1 : nA ≤ 2097152) (m2 : nB ≤ 2097152) (wA : ∀ x ∈ XA, I64 x) (wB : ∀ x ∈ XB, I64 x) :
    NewT w w' XA XB (some ⟨bA, 0, none⟩) nA nA (some ⟨bB, 0, none⟩) nB nB :=
  ⟨hA.fr h1 e1 m1 wA, hB.fr h2 e2 m2 wB, fun _ _ e => hne (by simpa [blk] using e), hl⟩
theorem wrap_dif {a b i : Nat} (h : i + b = a) (ha : a ≤ 64) : IntKind.i64.wrap ((a : Int) - (b : Int)) = (i : Int) := by
  rw [show (a : Int) - (b : Int) = (i : Int) by omega]
  exact IntWalk.i64_in (i : Int) ⟨by omega, by omega⟩
end Go.Proofs.YthebegfceaehfaaDoor

/- Quiet: Steps of a quiet region, by tactic. -/
namespace Go.Proofs.YthebegfceaehfaaDoor
open Go.RowKit

theorem wrap_sub {n k i : Nat} (h : i + (k + 1) = n) (hn : n ≤ 64) : IntKind.i64.wrap ((n : Int) - 1 - (k : Int)) = (i : Int) := by
  rw [show (n : Int) - 1 - (k : Int) = (i : Int) by omega]
  exact IntWalk.i64_in (i : Int) ⟨by omega, by omega⟩
/-- The element that 'a' hands back, whatever the world. -/
theorem el_of {w : World} {S i j : Nat} {a1 : Option Addr} {n1 c1 : Nat} {A : List Int} (h : Rd w a1 n1 c1 A) (hn : n1 = S * S) (hi : i < S) (hj : j < S) (hS : S ≤ 8) : ∃ y, Hid (El A S i j y) ∧ I64 y := by
  obtain ⟨_, _, _, _, f5⟩ := at_facts hn h.cap hi hj hS
  obtain ⟨b, o, x, rfl, hc, x1, x2, hx⟩ := h.at f5
  exact ⟨x, hid hx, x1, x2⟩
end Go.Proofs.YthebegfceaehfaaDoor

/- CmpI: ComposeTableaus of the implementation. -/
namespace Go.Proofs.YthebegfceaehfaaDoor
open Go.RowKit

/-- 'out' is a struct at ob, its fields the blocks bA, bB, known whole; what lay below lo in W1 is as it was. -/
structure Cw (lo : Nat) (W1 wr : World) (S : Value) (ob bA bB nA nB : Nat) (XA XB : List Int) : Prop where
  l : Below lo W1 wr
  out : wr.heap[ob]? = some (.cells #[S, .slice (some ⟨bA, 0, none⟩) nA nA, .slice (some ⟨bB, 0, none⟩) nB nB] 24 (0, 0))
  a : Bi wr bA XA
  b : Bi wr bB XB
theorem Cw.below {lo : Nat} {W1 wr w' : World} {S : Value} {ob bA bB nA nB : Nat} {XA XB : List Int} (h : Cw lo W1 wr S ob bA bB nA nB XA XB) (hb : Below wr.heap.size wr w') (hl : lo ≤ wr.heap.size) : Cw lo W1 w' S ob bA bB nA nB XA XB :=
  ⟨h.l.trans (hb.mono hl), bk_below h.out hb, h.a.below hb, h.b.below hb⟩
theorem Cw.old {lo : Nat} {W1 wr : World} {S : Value} {ob bA bB nA nB : Nat} {XA XB : List Int} (h : Cw lo W1 wr S ob bA bB nA nB XA XB) {k : Nat} {o : Obj} (hk : k < lo) (ho : W1.heap[k]? = some o) : wr.heap[k]? = some o := (h.l.block k hk).trans ho

/-- A copy into A's block. -/
theorem Cw.copied {lo : Nat} {W1 wr w' : World} {S : Value} {ob bA bB nA nB : Nat} {XA XA' XB : List Int} (h : Cw lo W1 wr S ob bA bB nA nB XA XB) (hg : wr.grownBy w' (some bA)) (hb : Bi w' bA XA') (hl : lo ≤ wr.heap.size) (hlA : lo ≤ bA) (h1 : ob ≠ bA) (h2 : bB ≠ bA) : Cw lo W1 w' S ob bA bB nA nB XA' XB :=
  ⟨h.l.grown hg hl (fun k hk => by simp only [Option.some.injEq] at hk; omega), bk_grown h.out hg (fun k hk => by simp only [Option.some.injEq] at hk; omega), hb, bk_grown h.b hg (fun k hk => by simp only [Option.some.injEq] at hk; omega)⟩
theorem Cw.storeB {lo : Nat} {W1 wr : World} {S : Value} {ob bA bB nA nB : Nat} {XA XB : List Int} (h : Cw lo W1 wr S ob bA bB nA nB XA XB) (k : Nat) (x : Int) (hlB : lo ≤ bB) (h1 : ob ≠ bB) (h2 : bA ≠ bB) : Cw lo W1 (wr.setCell ⟨bB, k, none⟩ (.int .i64 x)) S ob bA bB nA nB XA (XB.set k x) :=
  ⟨h.l.setCell hlB _, (heap_setCell_other _ _ _ _ h1).trans h.out, h.a.far h2, h.b.set k x⟩
theorem Cw.drew {lo : Nat} {W1 wr : World} {S : Value} {ob bA bB nA nB : Nat} {XA XB : List Int} (h : Cw lo W1 wr S ob bA bB nA nB XA XB) : Cw lo W1 wr.drew S ob bA bB nA nB XA XB := ⟨h.l.drew, h.out, h.a, h.b⟩
end Go.Proofs.YthebegfceaehfaaDoor

/- ColL: CollocationTableau: what it answers. -/
namespace Go.Proofs.YthebegfceaehfaaDoor
open Go.RowKit

theorem solL_len (m : Nat → Nat → Int) (g : Nat → Int) (n : Nat) : (solL m g n).length = n := by simp [solL]
theorem solL_num {m : Nat → Nat → Int} {g : Nat → Int} {n : Nat} (hn : ∀ i j, i < n → j < n → M.num (m i j)) (hg : ∀ i, i < n → M.num (g i)) (ht : ∀ x, Sol.Ker (aug m g n) n n x → ∀ j, j < n → M.P ∣ x j) : ∀ x ∈ solL m g n, M.num x := by
  intro x hx
  obtain ⟨i, hi, rfl⟩ := List.mem_map.1 hx
  exact ((Sol.red_full (Nat.le_succ n) (aug_num hn hg) ht) n (Nat.le_refl _)).1.num i n (List.mem_range.1 hi) (Nat.lt_succ_self _)
theorem wtL_len (C : List Int) (n : Nat) (a : Int) : (wtL C n a).length = n := solL_len _ _ _
/-- The rows, one behind the other. -/
def colFlat (C : List Int) (n k : Nat) : List Int := (List.range k).flatMap fun i => wtL C n (C.getD i 0)
theorem colFlat_succ (C : List Int) (n k : Nat) : colFlat C n (k + 1) = colFlat C n k ++ wtL C n (C.getD k 0) := by simp [colFlat, List.range_succ]
theorem colFlat_len (C : List Int) (n : Nat) : ∀ k, (colFlat C n k).length = k * n
  | 0 => by simp [colFlat]
  | k + 1 => by rw [colFlat_succ, List.length_append, colFlat_len C n k, wtL_len, Nat.add_mul, Nat.one_mul]
def colOk (C : List Int) : Bool := decide (1 ≤ C.length) && decide (C.length ≤ 8) && M.allNum C && ndB C
def colV (C : List Int) : Tb := if colOk C then ⟨C.length, colFlat C C.length C.length, wtL C C.length 1, true⟩ else Tb.none
theorem colV_no {C : List Int} (h : colOk C = false) : colV C = Tb.none := by unfold colV; rw [h]; rfl
theorem colV_yes {C : List Int} (h : colOk C = true) : colV C = ⟨C.length, colFlat C C.length C.length, wtL C C.length 1, true⟩ := by unfold colV; rw [h]; rfl
theorem colOk_parts {C : List Int} (h : colOk C = true) : 1 ≤ C.length ∧ C.length ≤ 8 ∧ M.allNum C = true ∧ ndB C = true := by
  unfold colOk at h
  simp only [Bool.and_eq_true, decide_eq_true_eq] at h
  exact ⟨h.1.1.1, h.1.1.2, h.1.2, h.2⟩
theorem colOk_dif {C : List Int} {n : Nat} (hn : C.length = n) (h : colOk C = true) : Dif C n := dif_of hn (colOk_parts h).2.2.1 (colOk_parts h).2.2.2
theorem colV_len (C : List Int) : (colV C).A.length ≤ 1000 ∧ (colV C).B.length ≤ 1000 := by
  cases h : colOk C with
  | false => rw [colV_no h]; exact ⟨Nat.zero_le _, Nat.zero_le _⟩
  | true =>
    rw [colV_yes h]
    obtain ⟨_, h8, _⟩ := colOk_parts h
    have : C.length * C.length ≤ 64 := Nat.mul_le_mul h8 h8
    simp only [colFlat_len, wtL_len]
    omega
theorem wtL_wf {C : List Int} {n : Nat} (h : Dif C n) (a : Int) : ∀ x ∈ wtL C n a, I64 x := fun x hx =>
  I64.num (solL_num (fun i j _ _ => pwM_num C i j) (fun i _ => rgt_num a i) (pw_ker _ h) x hx)
theorem colFlat_wf {C : List Int} {n : Nat} (h : Dif C n) (k : Nat) : ∀ x ∈ colFlat C n k, I64 x := fun x hx => by
  obtain ⟨i, _, hi⟩ := List.mem_flatMap.1 hx
  exact wtL_wf h _ x hi
end Go.Proofs.YthebegfceaehfaaDoor

/- Kn: KnownTableau: names and texts. -/
namespace Go.Proofs.YthebegfceaehfaaDoor
open Go.RowKit

/-- The text of a known tableau, or none. -/
def ktText (l : List UInt8) : List UInt8 :=
  if l == [101, 117, 108, 101, 114] then [48, 32, 124, 32, 49]
  else if l == [98, 97, 99, 107, 119, 97, 114, 100] then [49, 32, 124, 32, 49]
  else if l == [109, 105, 100, 100, 108, 101] then [49, 47, 50, 32, 124, 32, 49]
  else if l == [109, 105, 100, 112, 111, 105, 110, 116] then [48, 32, 48, 32, 124, 32, 49, 47, 50, 32, 48, 32, 124, 32, 48, 32, 49]
  else if l == [104, 101, 117, 110] then [48, 32, 48, 32, 124, 32, 49, 32, 48, 32, 124, 32, 49, 47, 50, 32, 49, 47, 50]
  else if l == [107, 117, 116, 116, 97] then [48, 32, 48, 32, 48, 32, 124, 32, 49, 47, 50, 32, 48, 32, 48, 32, 124, 32, 45, 49, 32, 50, 32, 48, 32, 124, 32, 49, 47, 54, 32, 50, 47, 51, 32, 49, 47, 54]
  else if l == [99, 108, 97, 115, 115, 105, 99] then [48, 32, 48, 32, 48, 32, 48, 32, 124, 32, 49, 47, 50, 32, 48, 32, 48, 32, 48, 32, 124, 32, 48, 32, 49, 47, 50, 32, 48, 32, 48, 32, 124, 32, 48, 32, 48, 32, 49, 32, 48, 32, 124, 32, 49, 47, 54, 32, 49, 47, 51, 32, 49, 47, 51, 32, 49, 47, 54]
  else if l == [101, 105, 103, 104, 116, 104, 115] then [48, 32, 48, 32, 48, 32, 48, 32, 124, 32, 49, 47, 51, 32, 48, 32, 48, 32, 48, 32, 124, 32, 45, 49, 47, 51, 32, 49, 32, 48, 32, 48, 32, 124, 32, 49, 32, 45, 49, 32, 49, 32, 48, 32, 124, 32, 49, 47, 56, 32, 51, 47, 56, 32, 51, 47, 56, 32, 49, 47, 56]
  else if l == [112, 97, 105, 114] then [48, 32, 48, 32, 124, 32, 49, 47, 50, 32, 49, 47, 50, 32, 124, 32, 49, 47, 50, 32, 49, 47, 50]
  else []
set_option maxRecDepth 20000 in
set_option maxHeartbeats 4000000 in
theorem spec_l7Text (s : ByteArray) (w : World) :
    Calls Tryd.prog 21 #[.string s] w fun e w' => e = .returned (.string (bs (ktText s.data.toList))) ∧ w' = w := by
  have hd := Lib.toList_data s
  have HD := hid hd
  clear hd
  go_enter Tryd.func21, Tryd.ntmps21
  go_wp2_with fail
  all_goals
    go_ret
    refine ⟨ret_s ?_, rfl⟩
    unfold ktText
    rw [← HD.out]
    simp only [*, if_true, if_false, Bool.false_eq_true]
    rfl
/-- A name without a text. -/
theorem kt_none {l : List UInt8} (h : ktText l = []) : (l == [101, 117, 108, 101, 114]) = false ∧ (l == [98, 97, 99, 107, 119, 97, 114, 100]) = false ∧ (l == [109, 105, 100, 100, 108, 101]) = false ∧ (l == [109, 105, 100, 112, 111, 105, 110, 116]) = false ∧ (l == [104, 101, 117, 110]) = false ∧ (l == [107, 117, 116, 116, 97]) = false ∧ (l == [99, 108, 97, 115, 115, 105, 99]) = false ∧ (l == [101, 105, 103, 104, 116, 104, 115]) = false ∧ (l == [112, 97, 105, 114]) = false := by
  refine ⟨?_, ?_, ?_, ?_, ?_, ?_, ?_, ?_, ?_⟩ <;>
  · rw [← Bool.not_eq_true]
    intro e
    have e2 := eq_of_beq e
    subst e2
    revert h
    decide
abbrev gaussT : List UInt8 := [103, 97, 117, 115, 115]
abbrev radauT : List UInt8 := [114, 97, 100, 97, 117]
abbrev lobT : List UInt8 := [108, 111, 98, 97, 116, 116, 111]
/-- The one byte behind a prefix. -/
def knC (p l : List UInt8) : Option UInt8 := if Lib.hasPrefix l p then match Lib.trimPrefix l p with
    | [c] => some c
    | _ => none
  else none
def knG (f : Int → List Int) (c : UInt8) : Tb := colV (f ((c.toNat : Int) - 48))
/-- A known tableau. -/
def knV (l : List UInt8) : Tb :=
  if ktText l ≠ [] then ptI (ktText l) else match knC gaussT l with
    | some c => knG M.gauss c
    | none => match knC radauT l with
      | some c => knG M.radau c
      | none => match knC lobT l with
        | some c => knG M.lobatto c
        | none => Tb.none
theorem knV_text {l : List UInt8} (h : ktText l ≠ []) : knV l = ptI (ktText l) := by unfold knV; rw [if_pos h]
theorem knV_len (l : List UInt8) : (knV l).A.length ≤ 1000 ∧ (knV l).B.length ≤ 1000 := by
  unfold knV
  split
  · exact ptI_len _
  · split
    · exact colV_len _
    · split
      · exact colV_len _
      · split
        · exact colV_len _
        · exact ⟨Nat.zero_le _, Nat.zero_le _⟩
end Go.Proofs.YthebegfceaehfaaDoor

/- KnI: KnownTableau: the program's walk, where the name has a text. -/
namespace Go.Proofs.YthebegfceaehfaaDoor
open Go.RowKit

set_option maxRecDepth 20000 in
set_option maxHeartbeats 8000000 in
theorem impl_KnownTableau_text (s : ByteArray) (w : World) (hm : Mx w) (hk : ktText s.data.toList ≠ []) {rs : Int} {rA rB : List Int} {rb : Bool} (hr : ptI (ktText s.data.toList) = ⟨rs, rA, rB, rb⟩) :
    Calls Tryd.prog 11 #[.string s] w fun e w' => ∃ p n c q m' d', e = .returned (.tuple #[.agg #[.int .i64 rs, .slice p n c, .slice q m' d'], .bool rb]) ∧ NewT w w' rA rB p n c q m' d' := by
  have HD := hid (Lib.toList_data s)
  have HM := hid hm
  rw [← HD.out] at hk hr
  have HK := hid hk
  have HR := hid hr
  have RS0 := hid (bk_new w #[.int .i64 0, .slice none 0 0, .slice none 0 0] 24)
  have B0 := hid (below_box w (.cells #[.int .i64 0, .slice none 0 0, .slice none 0 0] 24))
  clear hk hr hm
  go_enter Tryd.func11, Tryd.ntmps11
  go_wp2_with fail
  all_goals first
    | (refine (impl_ParseTableau _ _ (by decide) (HM.out.below B0.out) (rs := rs) (rA := rA) (rB := rB) (rb := rb) (Eq.trans (congrArg ptI ?_) HR.out)).mono ?_
       · unfold ktText
         simp only [*, if_true, if_false, Bool.false_eq_true]
         done
       rintro e w1 ⟨p, n, c, q, m', d', rfl, hN⟩
       have HN := hid hN
       have hR := bk_below RS0.out hN.2.2.2
       have HRS := hid hR
       obtain ⟨⟨r0, r1, r2⟩, f0, f1, f2⟩ := blk3 hR
       clear hR hN
       go_wp2_with fail
       exact ret_tabb rfl rfl rfl (heap_setCell_same _ _ _ _ _ _ (heap_setCell_same _ _ _ _ _ _ (heap_setCell_same _ _ _ _ _ _ HRS.out))) rfl ⟨_, _, _, _, _, _, rfl, newT_stores HN.out B0.out (Nat.le_refl _) (by simp) _ _ _⟩)
    | (refine absurd ?_ HK.out; unfold ktText; simp only [*, if_false, Bool.false_eq_true]; done)
end Go.Proofs.YthebegfceaehfaaDoor

/- KnN0: KnownTableau: the cut of a name's beginning. -/
namespace Go.Proofs.YthebegfceaehfaaDoor
open Go.RowKit

theorem knC_some {p l : List UInt8} {c : UInt8} (h : knC p l = some c) : Lib.hasPrefix l p = true ∧ Lib.trimPrefix l p = [c] := by
  unfold knC at h
  split at h
  · rename_i h1
    split at h
    · rename_i c' h2
      cases h
      exact ⟨h1, h2⟩
    · cases h
  · cases h
theorem knC_none {p l : List UInt8} (h : knC p l = none) (h1 : Lib.hasPrefix l p = true) : (Lib.trimPrefix l p).length ≠ 1 := fun e => by
  obtain ⟨c, e2⟩ := List.length_eq_one_iff.1 e
  unfold knC at h
  rw [if_pos h1, e2] at h
  cases h
theorem knC_no {p l : List UInt8} (h : Lib.hasPrefix l p = false) : knC p l = none := by
  unfold knC
  rw [if_neg (by rw [h]; decide)]
theorem pre_other {p q : List UInt8} {a b : UInt8} {l : List UInt8} (h : Lib.hasPrefix l (a :: p) = true) (hab : a ≠ b) : Lib.hasPrefix l (b :: q) = false := by
  cases l with
  | nil => rfl
  | cons x l =>
    simp only [Lib.hasPrefix, List.isPrefixOf_cons_cons, Bool.and_eq_true, beq_iff_eq] at h
    simp only [Lib.hasPrefix, List.isPrefixOf_cons_cons]
    rw [beq_eq_false_iff_ne.2 (fun e => hab (h.1.trans e.symm)), Bool.false_and]
theorem cut_hit {p : List UInt8} {s P : ByteArray} {c : UInt8} (hP : P = ⟨p.toArray⟩) (h : knC p s.data.toList = some c) (w : World) :
    Calls Tryd.prog 27 #[.string s, .string P] w fun e w' => ∃ T, e = .returned (.tuple #[.string T, .bool true]) ∧ w' = w ∧ ∃ h : 0 < T.size, T.size = 1 ∧ T[0] = c := by
  subst hP
  have h2 := Tryd.strings_CutPrefix s ⟨p.toArray⟩ w
  obtain ⟨e1, e2⟩ := knC_some h
  simp only [e1, e2] at h2
  exact h2.mono fun e w' h3 => ⟨_, h3.1, h3.2, Nat.one_pos, rfl, rfl⟩
theorem cut_no {p : List UInt8} {s P : ByteArray} (hP : P = ⟨p.toArray⟩) (h : Lib.hasPrefix s.data.toList p = false) (w : World) :
    Calls Tryd.prog 27 #[.string s, .string P] w fun e w' => ∃ T, e = .returned (.tuple #[.string T, .bool false]) ∧ w' = w := by
  subst hP
  have h2 := Tryd.strings_CutPrefix s ⟨p.toArray⟩ w
  simp only [h] at h2
  exact h2.mono fun e w' h3 => ⟨_, h3.1, h3.2⟩
theorem cut_off {p : List UInt8} {s P : ByteArray} (hP : P = ⟨p.toArray⟩) (h1 : Lib.hasPrefix s.data.toList p = true) (h : knC p s.data.toList = none) (w : World) :
    Calls Tryd.prog 27 #[.string s, .string P] w fun e w' => ∃ T, e = .returned (.tuple #[.string T, .bool true]) ∧ w' = w ∧ ((T.size : Int) == 1) = false := by
  subst hP
  have h2 := Tryd.strings_CutPrefix s ⟨p.toArray⟩ w
  simp only [h1] at h2
  refine h2.mono fun e w' h3 => ⟨_, h3.1, h3.2, ?_⟩
  have h4 := knC_none h h1
  rw [beq_eq_false_iff_ne]
  intro e4
  refine h4 ?_
  have e5 : (bs (Lib.trimPrefix s.data.toList p)).size = 1 := by
    have : ((bs (Lib.trimPrefix s.data.toList p)).size : Int) = 1 := by simpa [bs] using e4
    omega
  rwa [bs_size] at e5
end Go.Proofs.YthebegfceaehfaaDoor

/- ColI: CollocationTableau of the implementation. -/
namespace Go.Proofs.YthebegfceaehfaaDoor
open Go.RowKit

/-- A copy into B's block. -/
theorem Cw.copiedB {lo : Nat} {W1 wr w' : World} {S : Value} {ob bA bB nA nB : Nat} {XA XB XB' : List Int} (h : Cw lo W1 wr S ob bA bB nA nB XA XB) (hg : wr.grownBy w' (some bB)) (hb : Bi w' bB XB') (hl : lo ≤ wr.heap.size) (hlB : lo ≤ bB) (h1 : ob ≠ bB) (h2 : bA ≠ bB) : Cw lo W1 w' S ob bA bB nA nB XA XB' :=
  ⟨h.l.grown hg hl (fun k hk => by simp only [Option.some.injEq] at hk; omega), bk_grown h.out hg (fun k hk => by simp only [Option.some.injEq] at hk; omega), bk_grown h.a hg (fun k hk => by simp only [Option.some.injEq] at hk; omega), hb⟩
set_option maxHeartbeats 1000000 in
theorem impl_CollocationTableau_no (ao : Option Addr) (n c : Nat) (C : List Int) (w : World) (hr : Rd w ao n c C) (hno : colOk C = false) :
    Calls Tryd.prog 28 #[.slice ao n c] w fun e w' => ∃ a1 n1 c1 a2 n2 c2, e = .returned (.tuple #[.agg #[.int .i64 0, .slice a1 n1 c1, .slice a2 n2 c2], .bool false]) ∧ NewT w w' [] [] a1 n1 c1 a2 n2 c2 := by
  have hn : n ≤ 9223372036854775807 := Nat.le_trans hr.cap hr.max
  have HR := hid hr
  have hlen := hr.len
  have hr0 := bk_new w #[.int .i64 0, .slice none 0 0, .slice none 0 0] 24
  have HRS := hid hr0
  obtain ⟨⟨r0, r1, r2⟩, f0, f1, f2⟩ := blk3 hr0
  clear hr hr0
  by_cases c0 : n = 0
  · have q0 : ((n : Int) == 0) = true := by rw [beq_iff_eq]; omega
    clear hno hlen
    have C0 := hid c0
    clear c0
    go_enter Tryd.func28, Tryd.ntmps28
    go_wp2_with fail
    exact ret_tabb rfl rfl rfl HRS.out rfl ⟨_, _, _, _, _, _, rfl, NewT.none (below_box _ _)⟩
  · have q0 : ((n : Int) == 0) = false := by rw [beq_eq_false_iff_ne]; omega
    by_cases c8 : n ≤ 8
    · have q8 : (n : Int) ≤ 8 := by omega
      cases hA : M.allNum C with
      | false =>
        have HA := hid hA
        clear hno hlen hA
        go_enter Tryd.func28, Tryd.ntmps28
        go_wp2_with fail
        refine (impl_allNumbers _ _ _ C _ (HR.out.alloc _)).mono ?_
        rw [HA.out]
        rintro e w1 ⟨rfl, rfl⟩
        go_wp2_with fail
        exact ret_tabb rfl rfl rfl HRS.out rfl ⟨_, _, _, _, _, _, rfl, NewT.none (below_box _ _)⟩
      | true =>
        have HA := hid hA
        have HD : Hid (ndB C = false) := hid (by
          cases hd : ndB C with
          | false => rfl
          | true =>
            unfold colOk at hno
            rw [hA, hd, hlen] at hno
            simp at hno
            omega)
        clear hno hlen hA
        go_enter Tryd.func28, Tryd.ntmps28
        go_wp2_with fail
        refine (impl_allNumbers _ _ _ C _ (HR.out.alloc _)).mono ?_
        rw [HA.out]
        rintro e w1 ⟨rfl, rfl⟩
        go_wp2_with fail
        refine (impl_allDifferent _ _ _ C _ (HR.out.alloc _)).mono ?_
        rw [HD.out]
        rintro e w1 ⟨rfl, rfl⟩
        go_wp2_with fail
        exact ret_tabb rfl rfl rfl HRS.out rfl ⟨_, _, _, _, _, _, rfl, NewT.none (below_box _ _)⟩
    · have q8 : ¬ (n : Int) ≤ 8 := by omega
      clear hno hlen
      go_enter Tryd.func28, Tryd.ntmps28
      go_wp2_with fail
      exact ret_tabb rfl rfl rfl HRS.out rfl ⟨_, _, _, _, _, _, rfl, NewT.none (below_box _ _)⟩
set_option maxRecDepth 20000 in
set_option maxHeartbeats 4000000 in
theorem impl_CollocationTableau_yes (ao : Option Addr) (n c : Nat) (C : List Int) (w : World) (hr : Rd w ao n c C) (hok : colOk C = true) :
    Calls Tryd.prog 28 #[.slice ao n c] w fun e w' => ∃ a1 n1 c1 a2 n2 c2, e = .returned (.tuple #[.agg #[.int .i64 n, .slice a1 n1 c1, .slice a2 n2 c2], .bool true]) ∧ NewT w w' (colFlat C n n) (wtL C n 1) a1 n1 c1 a2 n2 c2 := by
  have HD := hid (colOk_dif hr.len hok)
  obtain ⟨h1, h8, hA, hN⟩ := colOk_parts hok
  rw [hr.len] at h1 h8
  have HA := hid hA
  have HN := hid hN
  have HR := hid hr
  obtain ⟨nn, hnn⟩ : ∃ nn, nn = n * n := ⟨_, rfl⟩
  have e64 : nn ≤ 64 := by rw [hnn]; exact Nat.mul_le_mul h8 h8
  have ENN := hid hnn
  have hmf : ∀ (fn : Fn) (first cap : Array Value) (w : World), (Instr.makeFunc fn first cap).run Tryd.prog w = .ok (.func fn first cap) w := fun _ _ _ _ => rfl
  have q0 : ((n : Int) == 0) = false := by rw [beq_eq_false_iff_ne]; omega
  have q8 : (n : Int) ≤ 8 := by omega
  have RS0 := hid (bk_new w #[.int .i64 0, .slice none 0 0, .slice none 0 0] 24)
  have B0 := hid (below_box w (.cells #[.int .i64 0, .slice none 0 0, .slice none 0 0] 24))
  clear hr hok hA hN hnn
  go_enter Tryd.func28, Tryd.ntmps28
  go_wp2_with fail
  refine (impl_allNumbers _ _ _ C _ (HR.out.below B0.out)).mono ?_
  rw [HA.out]
  rintro e w1 ⟨rfl, rfl⟩
  go_wp2_with fail
  refine (impl_allDifferent _ _ _ C _ (HR.out.below B0.out)).mono ?_
  rw [HN.out]
  rintro e w1 ⟨rfl, rfl⟩
  go_wp2_with fail
  refine (impl_emptyW n nn _ h8 ENN.out).mono ?_
  obtain ⟨W1, hW1⟩ : ∃ W1, W1 = w.alloc (.cells #[.int .i64 0, .slice none 0 0, .slice none 0 0] 24) := ⟨_, rfl⟩
  have hWs : W1.heap.size = w.heap.size + 1 := by rw [hW1]; simp
  rw [← hW1] at RS0 B0 ⊢
  clear hW1
  rintro e w3 ⟨bA, bB, rfl, hbA, hbB, hne, hB3, hlA, hlB⟩
  rw [hWs] at hB3 hlA hlB
  have z3 := hB3.size
  rw [hWs] at z3
  have zA := (Array.getElem?_eq_some_iff.1 hbA).1
  have zB := (Array.getElem?_eq_some_iff.1 hbB).1
  have M0 := hid (show Cw (w.heap.size + 1) W1 (w3.alloc (.cells #[.int .i64 n, .slice (some ⟨bA, 0, none⟩) nn nn, .slice (some ⟨bB, 0, none⟩) n n] 24)) (.int .i64 n) w3.heap.size bA bB nn n (zerosL nn) (zerosL n) from
    ⟨hB3.alloc (by omega) _, bk_new _ _ _, bk_alloc hbA _, bk_alloc hbB _⟩)
  have WS := hid hWs
  clear hbA hbB hB3 hWs
  go_wp2_with fail
  go_loopw [5, 6, 31] (fun _ _ i wr => ∃ k : Nat, i = .int .i64 k ∧ k ≤ n ∧ w3.heap.size < wr.heap.size ∧ Hid (Cw (w.heap.size + 1) W1 wr (.int .i64 n) w3.heap.size bA bB nn n (colFlat C n k ++ zerosL (nn - k * n)) (zerosL n))) (fun _ _ i _ => n - (intOf i).toNat)
  case atStart => exact ⟨0, rfl, Nat.zero_le _, by simp, hid (by simpa [colFlat] using M0.out)⟩
  case round =>
    clear M0
    obtain ⟨k, rfl, hk, hz, hM⟩ := hrel
    obtain ⟨wo, rfl⟩ : ∃ wo : World, wo = wr := ⟨_, rfl⟩
    have BW := hid (show Below w.heap.size w wo from B0.out.trans (hM.out.l.mono (by omega)))
    by_cases hlt : k < n
    · have hki : (k : Int) < (n : Int) := by omega
      obtain ⟨b, o, x, rfl, hc, x1, x2, hx⟩ := (HR.out.below BW.out).at hlt
      have hst := step_bd hlt h8
      rw [← ENN.out] at hst
      have M1 := hid (hM.out.below (below_box wo (.cells #[.int .i64 x] 3)) (by omega))
      have BX := hid (bk_new wo #[.int .i64 x] 3)
      obtain ⟨⟨r0, r1, r2⟩, _⟩ := blk3 M1.out.out
      go_wp2_with fail
      refine (impl_row n k bA 0 nn nn _ _ ENN.out (Nat.le_refl _) (by omega) hlt h8).mono ?_
      rintro e w4 ⟨rfl, hB4⟩
      have y4 := hB4.size
      simp only [World.size_alloc] at y4
      have M2 := hid (M1.out.below hB4 (by simp; omega))
      have BX2 := hid (bk_below BX.out hB4)
      have B4 := hid (l_below (BW.out.trans ((below_box wo (.cells #[.int .i64 x] 3)).mono BW.out.size)) hB4)
      clear hB4 r0 r1 r2 M1 BX hc
      go_wp2_with fail
      refine (impl_quadratureA wo.heap.size (rgt x) _ n c C w4 (HR.out.below B4.out) h1 h8 HD.out (rgt_num x) (fun j z wc hj hz hb => colA j z x wo.heap.size wc (by omega) hz (by
        have h := cell_of_row wc wo.heap.size 0 _ _ _ (bk_below BX2.out hb)
        simpa using h))).mono ?_
      rintro e w5 ⟨aq, cq, rfl, hF, hB5⟩
      have y5 := hB5.size
      have M3 := hid (M2.out.below hB5 (by omega))
      obtain ⟨w6, hcp, hbi, hgr, hsz6⟩ := run_copy_ints (dLen := n) (dCap := nn - k * n) M3.out.a (colFlat_len C n k) hF.rd (Nat.le_refl _) (by omega) 3
      rw [show solL (pwM C) (rgt x) n = wtL C n (C.getD k 0) by rw [← hx.out]; rfl, ← colFlat_succ, show nn - k * n - n = nn - (k + 1) * n by rw [Nat.add_mul, Nat.one_mul]; omega] at hbi
      have M4 := hid (M3.out.copied hgr hbi (by omega) (by omega) (by omega) (by omega))
      clear hbi hgr hF hB5 hst
      go_wp2_with fail
      go_roundw
      case rel => exact ⟨k + 1, by go_num, by omega, by omega, M4⟩
      case measure => simp [intOf]; omega
    · obtain rfl : k = n := by omega
      have hM0 := hM.out
      rw [← ENN.out, Nat.sub_self, show zerosL 0 = [] from rfl, List.append_nil] at hM0
      have M1 := hid hM0
      have HU : Hid (∀ wc, Below wo.heap.size wo wc → wc.cell? ⟨w3.heap.size, 2, none⟩ = some (.slice (some ⟨bB, 0, none⟩) k k)) := hid fun wc h => (blk3 (bk_below M1.out.out h)).1.2.2
      clear hM0 hM
      go_wp2_with fail
      have hB1 := hid (show Below wo.heap.size wo wo.drew from (Below.refl _ _).drew)
      refine (fun (HG : Rg _ _ 4) => wp_region_hh (S := fun w' => Below wo.heap.size wo w') HG rfl ?_) ⟨by kernel_rfl, by decide, by kernel_rfl, by kernel_rfl, fun _ _ d _ _ h => by cases d <;> exact h⟩
      (refine hh_take 0 HG rfl (by decide) (by kernel_rfl) (by kernel_rfl) hB1.out (fun K hK => ?_); refine take_val ?_ (by rfl) ?_ ?_; rotate_left 1; (focus (intro wc hC; skip; go_simp; try rfl)); go_simp; refine hK.out _ ?_; clear hK K)
      (refine hh_take 1 HG rfl (by decide) (by kernel_rfl) (by kernel_rfl) hB1.out (fun K hK => ?_); refine take_val ?_ (by rfl) ?_ ?_; rotate_left 1; (focus (intro wc hC; have x0 := HU.out wc hC; go_simp; try rfl)); go_simp; refine hK.out _ ?_; clear hK K)
      (refine hh_take 2 HG rfl (by decide) (by kernel_rfl) (by kernel_rfl) hB1.out (fun K hK => ?_); refine take_val ?_ (by rfl) ?_ ?_; rotate_left 1; (focus (intro wc hC; skip; go_simp; try rfl)); go_simp; refine hK.out _ ?_; clear hK K)
      (refine hh_mid 3 rfl (by decide) (by kernel_rfl) (fun K hK => ?_); refine mid_call ?_ ?_ (by rfl) ?_ ?_; rotate_left 2; (focus (go_simp; first | done | rfl | (refine And.intro ?_ ?_ <;> rfl))))
      refine (impl_quadratureB (rgt 1) _ k c C _ (HR.out.below BW.out.drew) h1 h8 HD.out (rgt_num 1) (fun j z wc hj hz _ => colB j z wc hz)).mono ?_
      rintro e w5 ⟨aq, cq, rfl, hF, hB5⟩
      refine ⟨_, rfl, ?_⟩
      have BW5 := hid (show Below wo.heap.size wo w5 from hB1.out.trans hB5)
      have M3 := hid (M1.out.below BW5.out (by omega))
      have y5 := BW5.out.size
      obtain ⟨w6, hcp, hbi, hgr, hsz6⟩ := run_copy_ints (dLen := k) (dCap := k) (off := 0) (P := []) (R := k) M3.out.b rfl hF.rd (Nat.le_refl _) (Nat.le_refl _) 3
      rw [Nat.sub_self, show zerosL 0 = [] from rfl, List.append_nil, List.nil_append] at hbi
      have M4 := hid (M3.out.copiedB hgr hbi (by omega) (by omega) (by omega) hne)
      clear hbi hgr hF hB5 hB1 M1
      (go_simp; refine hK.out _ _ ?_ ?_ <;> clear hK K)
      · exact BW5.out
      refine hh_done (by kernel_rfl) ?_
      simp only [List.drop_succ_cons, List.drop_zero]
      change wpList _ _ _ _ _ _
      obtain ⟨⟨r0, r1, r2⟩, _⟩ := blk3 M4.out.out
      have hR := M4.out.old (k := w.heap.size) (by omega) RS0.out
      obtain ⟨⟨t0, t1, t2⟩, f0, f1, f2⟩ := blk3 hR
      have HRR := hid hR
      clear hR
      go_wp2_with fail
      refine ret_tabb rfl rfl rfl (heap_setCell_same _ _ _ _ _ _ (heap_setCell_same _ _ _ _ _ _ (heap_setCell_same _ _ _ _ _ _ HRR.out))) rfl ⟨_, _, _, _, _, _, rfl, ?_⟩
      exact newT_blocks (((M4.out.a.far (by omega)).far (by omega)).far (by omega)) (((M4.out.b.far (by omega)).far (by omega)).far (by omega)) ((((B0.out.trans (M4.out.l.mono (by omega))).setCell (Nat.le_refl _) _).setCell (Nat.le_refl _) _).setCell (Nat.le_refl _) _)
        (by omega) (by omega) hne (by rw [colFlat_len, ENN.out]) (wtL_len _ _ _) (by omega) (by omega) (colFlat_wf HD.out k) (wtL_wf HD.out 1)
theorem impl_CollocationTableau (ao : Option Addr) (n c : Nat) (C : List Int) (w : World) (h : Rd w ao n c C) {rs : Int} {rA rB : List Int} {rb : Bool} (hr : colV C = ⟨rs, rA, rB, rb⟩) :
    Calls Tryd.prog 28 #[.slice ao n c] w fun e w' => ∃ p n c q m' d', e = .returned (.tuple #[.agg #[.int .i64 rs, .slice p n c, .slice q m' d'], .bool rb]) ∧ NewT w w' rA rB p n c q m' d' := by
  cases hok : colOk C with
  | false =>
    rw [colV_no hok] at hr
    cases hr
    exact impl_CollocationTableau_no ao n c C w h hok
  | true =>
    rw [colV_yes hok, h.len] at hr
    cases hr
    exact impl_CollocationTableau_yes ao n c C w h hok
end Go.Proofs.YthebegfceaehfaaDoor
