/- A tableau that is being filled. -/
import Derived.Test.YtekojohhjnklkaaEmpty
import Derived.StillTailTactics
namespace Go.Proofs.Ytekojohhjnklkaa
open Go.RowKit

/-- What a function hands back: a tableau, and whether it was well. -/
structure Tb where
  st : Int
  A : List Int
  B : List Int
  ok : Bool
def Tb.none : Tb := ⟨0, [], [], false⟩
/-- A tableau in new memory. -/
def NewT (w w' : World) (rA rB : List Int) (a1 : Option Addr) (n1 c1 : Nat) (a2 : Option Addr) (n2 c2 : Nat) : Prop :=
  Fr w' w.heap.size a1 n1 c1 rA ∧ Fr w' w.heap.size a2 n2 c2 rB ∧ Sep a1 n1 a2 n2 ∧ Below w.heap.size w w'
theorem NewT.none {w w' : World} (h : Below w.heap.size w w') : NewT w w' [] [] Option.none 0 0 Option.none 0 0 := ⟨Fr.none _ _, Fr.none _ _, fun h => absurd h (by omega), h⟩

/-- 'out' is a struct at ob, its A the block bA, its B the block bB; what lay below lo in W1 is as it was. -/
structure Mk (lo : Nat) (W1 wr : World) (S : Value) (ob bA bB nA nB : Nat) (XA XB : List Int) : Prop where
  l : Below lo W1 wr
  out : wr.heap[ob]? = some (.cells #[S, .slice (some ⟨bA, 0, none⟩) nA nA, .slice (some ⟨bB, 0, none⟩) nB nB] 27 (0, 0))
  a : Fr wr lo (some ⟨bA, 0, none⟩) nA nA XA
  b : Fr wr lo (some ⟨bB, 0, none⟩) nB nB XB
  hlo : lo ≤ bA ∧ lo ≤ bB ∧ lo ≤ ob
  ne : bA ≠ bB ∧ ob ≠ bA ∧ ob ≠ bB
section
variable {lo : Nat} {W1 wr : World} {S : Value} {ob bA bB nA nB : Nat} {XA XB : List Int}
theorem Mk.below (h : Mk lo W1 wr S ob bA bB nA nB XA XB) {w' : World} (hb : Below wr.heap.size wr w') (hl : lo ≤ wr.heap.size) : Mk lo W1 w' S ob bA bB nA nB XA XB :=
  ⟨h.l.trans (hb.mono hl), bk_below h.out hb, h.a.below hb, h.b.below hb, h.hlo, h.ne⟩
theorem Mk.drew (h : Mk lo W1 wr S ob bA bB nA nB XA XB) : Mk lo W1 wr.drew S ob bA bB nA nB XA XB :=
  ⟨h.l.drew, h.out, h.a.below ((Below.refl _ _).drew), h.b.below ((Below.refl _ _).drew), h.hlo, h.ne⟩
theorem Mk.storeA (h : Mk lo W1 wr S ob bA bB nA nB XA XB) {k : Nat} (hk : k < nA) {x : Int} (hx : I64 x) : Mk lo W1 (wr.setCell ⟨bA, k, none⟩ (.int .i64 x)) S ob bA bB nA nB (XA.set k x) XB := by
  have hs := h.a.store hk hx
  rw [Nat.zero_add] at hs
  exact ⟨h.l.setCell h.hlo.1 _, (heap_setCell_other _ _ _ _ h.ne.2.1).trans h.out, hs, h.b.setCell _ (blk_ne (Ne.symm h.ne.1)), h.hlo, h.ne⟩
theorem Mk.storeB (h : Mk lo W1 wr S ob bA bB nA nB XA XB) {k : Nat} (hk : k < nB) {x : Int} (hx : I64 x) : Mk lo W1 (wr.setCell ⟨bB, k, none⟩ (.int .i64 x)) S ob bA bB nA nB XA (XB.set k x) := by
  have hs := h.b.store hk hx
  rw [Nat.zero_add] at hs
  exact ⟨h.l.setCell h.hlo.2.1 _, (heap_setCell_other _ _ _ _ h.ne.2.2).trans h.out, h.a.setCell _ (blk_ne h.ne.1), hs, h.hlo, h.ne⟩
theorem Mk.start {w1 w2 : World} {n nA bA bB : Nat} (h : Blank w1 w2 nA n bA bB) :
    Mk w1.heap.size w1 (w2.alloc (.cells #[.int .i64 n, .slice (some ⟨bA, 0, none⟩) nA nA, .slice (some ⟨bB, 0, none⟩) n n] 27)) (.int .i64 n) w2.heap.size bA bB nA n (List.replicate nA 0) (List.replicate n 0) := by
  obtain ⟨h1, h2, h3, h4, h5, h6, h7, h8⟩ := h
  have := h4.size
  exact ⟨h4.alloc this _, bk_new _ _ _, h1.alloc _, h2.alloc _, ⟨h5, h6, this⟩, ⟨h3, by omega, by omega⟩⟩
/-- A block below lo. -/
theorem Mk.old (h : Mk lo W1 wr S ob bA bB nA nB XA XB) {k : Nat} {o : Obj} (hk : k < lo) (ho : W1.heap[k]? = some o) : wr.heap[k]? = some o := (h.l.block k hk).trans ho
/-- The cells that a store into A wants. -/
theorem Mk.cellA (h : Mk lo W1 wr S ob bA bB nA nB XA XB) {k : Nat} (hk : k < nA) : ∃ y, wr.cell? ⟨bA, k, none⟩ = some (.int .i64 y) ∧ wr.frozen? ⟨bA, k, none⟩ = false := by
  obtain ⟨b, o, y, e, hc, _⟩ := h.a.rd.at hk
  simp only [Option.some.injEq, Addr.mk.injEq, and_true] at e
  obtain ⟨rfl, rfl⟩ := e
  rw [Nat.zero_add] at hc
  have hf := (h.a.own _ _ _ rfl (by omega)).2 k hk
  rw [Nat.zero_add] at hf
  exact ⟨y, hc, hf⟩
theorem Mk.cellB (h : Mk lo W1 wr S ob bA bB nA nB XA XB) {k : Nat} (hk : k < nB) : ∃ y, wr.cell? ⟨bB, k, none⟩ = some (.int .i64 y) ∧ wr.frozen? ⟨bB, k, none⟩ = false := by
  obtain ⟨b, o, y, e, hc, _⟩ := h.b.rd.at hk
  simp only [Option.some.injEq, Addr.mk.injEq, and_true] at e
  obtain ⟨rfl, rfl⟩ := e
  rw [Nat.zero_add] at hc
  have hf := (h.b.own _ _ _ rfl (by omega)).2 k hk
  rw [Nat.zero_add] at hf
  exact ⟨y, hc, hf⟩
/-- 'out' is stored into the result's block. -/
theorem Mk.finish (h : Mk lo W1 wr S ob bA bB nA nB XA XB) {w : World} {b : Nat} {x y z : Value} (hb : w.heap.size ≤ b) (hlt : b < lo) (hw : Below w.heap.size w W1) (hres : W1.heap[b]? = some (.cells #[x, y, z] 27 (0, 0))) (u v t : Value) :
    (((wr.setCell ⟨b, 0, none⟩ u).setCell ⟨b, 1, none⟩ v).setCell ⟨b, 2, none⟩ t).heap[b]? = some (.cells #[u, v, t] 27 (0, 0)) ∧
    NewT w (((wr.setCell ⟨b, 0, none⟩ u).setCell ⟨b, 1, none⟩ v).setCell ⟨b, 2, none⟩ t) XA XB (some ⟨bA, 0, none⟩) nA nA (some ⟨bB, 0, none⟩) nB nB := by
  have h1 := h.hlo
  refine ⟨heap_setCell_same _ _ _ _ _ _ (heap_setCell_same _ _ _ _ _ _ (heap_setCell_same _ _ _ _ _ _ (h.old hlt hres))), ?_, ?_, fun _ _ => ?_, ?_⟩
  · exact (((h.a.setCell _ (blk_ne (by omega))).setCell _ (blk_ne (by omega))).setCell _ (blk_ne (by omega))).mono (by omega)
  · exact (((h.b.setCell _ (blk_ne (by omega))).setCell _ (blk_ne (by omega))).setCell _ (blk_ne (by omega))).mono (by omega)
  · simpa [blk] using h.ne.1
  · exact (((hw.trans (h.l.mono (by omega))).setCell hb _).setCell hb _).setCell hb _
end

theorem none_end {w w1 : World} {b : Nat} {x y z : Value} (hl : Below w.heap.size w w1) (hb : w.heap.size ≤ b) (hres : w1.heap[b]? = some (.cells #[x, y, z] 27 (0, 0))) (u v t : Value) :
    (((w1.setCell ⟨b, 0, none⟩ u).setCell ⟨b, 1, none⟩ v).setCell ⟨b, 2, none⟩ t).heap[b]? = some (.cells #[u, v, t] 27 (0, 0)) ∧
    NewT w (((w1.setCell ⟨b, 0, none⟩ u).setCell ⟨b, 1, none⟩ v).setCell ⟨b, 2, none⟩ t) [] [] Option.none 0 0 Option.none 0 0 :=
  ⟨heap_setCell_same _ _ _ _ _ _ (heap_setCell_same _ _ _ _ _ _ (heap_setCell_same _ _ _ _ _ _ hres)), NewT.none (((hl.setCell hb _).setCell hb _).setCell hb _)⟩
/-! ### ScaleTableau -/
def scaleV (s : Int) (A B : List Int) (k : Int) : Tb := if tabOk s A B then ⟨s, A.map (M.times · k), B.map (M.times · k), true⟩ else Tb.none
theorem scaleV_yes {s : Int} {A B : List Int} (k : Int) (h : tabOk s A B = true) : scaleV s A B k = ⟨s, A.map (M.times · k), B.map (M.times · k), true⟩ := if_pos h
theorem scaleV_no {s : Int} {A B : List Int} (k : Int) (h : tabOk s A B = false) : scaleV s A B k = Tb.none := if_neg (by rw [h]; simp)
theorem scaleV_len (s : Int) (A B : List Int) (k : Int) : (scaleV s A B k).A.length ≤ 1000 ∧ (scaleV s A B k).B.length ≤ 1000 := by
  cases hok : tabOk s A B with
  | false => rw [scaleV_no k hok]; exact ⟨Nat.zero_le _, Nat.zero_le _⟩
  | true =>
    rw [scaleV_yes k hok]
    obtain ⟨S, rfl, hS, e1, e2, _⟩ := tabOk_parts hok rfl rfl
    simp only [List.length_map]
    have : S * S ≤ 64 := Nat.mul_le_mul hS hS
    omega
/-- the first k elements of what a map gives, zeros behind -/
def part (f : Int → Int) (xs : List Int) (n k : Nat) : List Int := (xs.take k).map f ++ List.replicate (n - k) 0
theorem part_start (f : Int → Int) (xs : List Int) (n : Nat) : List.replicate n 0 = part f xs n 0 := by simp [part]
theorem part_end {f : Int → Int} {xs : List Int} {n : Nat} (h : xs.length = n) : part f xs n n = xs.map f := by
  unfold part
  rw [Nat.sub_self, ← h, List.take_length, List.replicate_zero, List.append_nil]
theorem part_step {f : Int → Int} {xs : List Int} {n k : Nat} {x : Int} (h : k < n) (hn : xs.length = n) (e : x = xs.getD k 0) : (part f xs n k).set k (f x) = part f xs n (k + 1) := by
  subst e
  unfold part
  rw [take_snoc 0 xs k (by omega), List.map_append, List.set_append_right _ _ (by rw [List.length_map, List.length_take]; omega), List.length_map, List.length_take,
    show k - min k xs.length = 0 by omega, show n - k = (n - (k + 1)) + 1 by omega, List.replicate_succ, List.set_cons_zero, List.append_assoc]
  rfl

theorem impl_ScaleTableau_no (s : Int) (a1 : Option Addr) (n1 c1 : Nat) (A : List Int) (a2 : Option Addr) (n2 c2 : Nat) (B : List Int) (k : Int) (w : World) (h1 : Rd w a1 n1 c1 A) (h2 : Rd w a2 n2 c2 B) (hno : tabOk s A B = false) :
    Calls Try.prog 35 #[.agg #[.int .i64 s, .slice a1 n1 c1, .slice a2 n2 c2], .int .i64 k] w fun e w' => ∃ a1 n1 c1 a2 n2 c2, e = .returned (.agg #[.int .i64 0, .slice a1 n1 c1, .slice a2 n2 c2]) ∧ NewT w w' [] [] a1 n1 c1 a2 n2 c2 := by
  have HN := hid hno
  have S0 := hid ((St.first w #[.int .i64 s, .slice a1 n1 c1, .slice a2 n2 c2] 27).alloc (.cells #[.int .i64 0, .slice none 0 0, .slice none 0 0] 27))
  go_enter Try.func35, Try.ntmps35
  go_wp2_with fail
  refine (impl_TableauOk _ _ _ _ A _ _ _ B _ ((h1.alloc _).alloc _) ((h2.alloc _).alloc _)).mono ?_
  rw [HN.out]
  rintro e w1 ⟨rfl, hB⟩
  have S1 := hid (S0.out.step hB)
  have hr := bk_below (heap_alloc_at (w.alloc (.cells #[.int .i64 s, .slice a1 n1 c1, .slice a2 n2 c2] 27)) #[.int .i64 0, .slice none 0 0, .slice none 0 0] 27 (w.heap.size + 1) (by simp)) hB
  have HRS := hid hr
  obtain ⟨⟨r0, r1, r2⟩, f0, f1, f2⟩ := blk3 hr
  clear hB hr
  go_wp2_with fail
  obtain ⟨e1, e2⟩ := none_end S1.out.below (Nat.le_succ _) HRS.out (.int .i64 0) (.slice none 0 0) (.slice none 0 0)
  exact ret_tab rfl rfl e1 rfl ⟨_, _, _, _, _, _, rfl, e2⟩
theorem impl_ScaleTableau_yes (S : Nat) (a1 : Option Addr) (n1 c1 : Nat) (A : List Int) (a2 : Option Addr) (n2 c2 : Nat) (B : List Int) (k : Int) (w : World) (h1 : Rd w a1 n1 c1 A) (h2 : Rd w a2 n2 c2 B) (hok : tabOk S A B = true) (e1 : n1 = S * S) (e2 : n2 = S) (hS : S ≤ 8) :
    Calls Try.prog 35 #[.agg #[.int .i64 S, .slice a1 n1 c1, .slice a2 n2 c2], .int .i64 k] w fun e w' => ∃ a1 n1 c1 a2 n2 c2, e = .returned (.agg #[.int .i64 S, .slice a1 n1 c1, .slice a2 n2 c2]) ∧ NewT w w' (A.map (M.times · k)) (B.map (M.times · k)) a1 n1 c1 a2 n2 c2 := by
  have HN := hid hok
  have H1 := hid h1
  have H2 := hid h2
  have E1 := hid e1
  have e64 : n1 ≤ 64 := by rw [e1]; exact Nat.mul_le_mul hS hS
  subst e2
  clear h1 h2 hok e1
  have K0 := hid (heap_alloc_at w #[.int .i64 n2, .slice a1 n1 c1, .slice a2 n2 c2] 27 w.heap.size rfl)
  have K1 := hid (bk_alloc K0.out (.cells #[.int .i64 0, .slice none 0 0, .slice none 0 0] 27))
  have R1 := hid (heap_alloc_at (w.alloc (.cells #[.int .i64 n2, .slice a1 n1 c1, .slice a2 n2 c2] 27)) #[.int .i64 0, .slice none 0 0, .slice none 0 0] 27 (w.heap.size + 1) (by simp))
  have L1 := hid (l_alloc (below_box w (.cells #[.int .i64 n2, .slice a1 n1 c1, .slice a2 n2 c2] 27)) (.cells #[.int .i64 0, .slice none 0 0, .slice none 0 0] 27))
  go_enter Try.func35, Try.ntmps35
  go_wp2_with fail
  refine (impl_TableauOk _ _ _ _ A _ _ _ B _ ((H1.out.alloc _).alloc _) ((H2.out.alloc _).alloc _)).mono ?_
  rw [HN.out]
  rintro e w1 ⟨rfl, hB⟩
  have y1 := hB.size
  simp only [World.size_alloc] at y1
  have K2 := hid (bk_below K1.out hB)
  have R2 := hid (bk_below R1.out hB)
  have L2 := hid (l_below L1.out hB)
  clear hB K0 K1 R1 L1
  obtain ⟨⟨q0, q1, q2⟩, _⟩ := blk3 K2.out
  go_wp2_with fail
  refine (impl_empty n2 n1 _ hS E1.out).mono ?_
  rintro e w2 ⟨bA, bB, rfl, hE⟩
  have y2 := hE.2.2.2.1.size
  have y3 : w1.heap.size ≤ bA ∧ w1.heap.size ≤ bB ∧ bA < w2.heap.size ∧ bB < w2.heap.size := hE.2.2.2.2
  have M0 := hid (Mk.start hE)
  clear hE q0 q1 q2
  have hb := M0.out.old (by omega) K2.out
  obtain ⟨⟨q0, q1, q2⟩, _⟩ := blk3 (w := w2) ((heap_alloc_past w2 _ w.heap.size (by omega)).symm.trans hb)
  clear hb
  have hlt2 : w.heap.size < w2.heap.size := by omega
  go_wp2_with fail
  clear q0 q1 q2
  go_loopw [6, 18] (fun _ i wr => ∃ j : Nat, i = .int .i64 j ∧ j ≤ n1 ∧ w1.heap.size ≤ wr.heap.size ∧ Hid (Mk w1.heap.size w1 wr (.int .i64 n2) w2.heap.size bA bB n1 n2 (part (M.times · k) A n1 j) (List.replicate n2 0))) (fun _ i _ => n1 - (intOf i).toNat)
  case atStart => exact ⟨0, rfl, Nat.zero_le _, by simp; omega, hid (by rw [← part_start]; exact M0.out)⟩
  case round =>
    obtain ⟨j, rfl, hj, hz, hM⟩ := hrel
    obtain ⟨wo, rfl⟩ : ∃ wo : World, wo = wr := ⟨_, rfl⟩
    obtain ⟨⟨q0, q1, q2⟩, _⟩ := blk3 (hM.out.old (by omega) K2.out)
    obtain ⟨⟨r0, r1, r2⟩, _⟩ := blk3 hM.out.out
    by_cases hlt : j < n1
    · obtain ⟨b, o, x, rfl, hc, _, _, hx⟩ := (H1.out.below (L2.out.trans (hM.out.l.mono (by omega)))).at hlt
      obtain ⟨y, hcA, hfA⟩ := hM.out.cellA hlt
      have hki : (j : Int) < (n1 : Int) := by omega
      go_wp2_with fail
      refine wp_region_still_tail 10 (by kernel_rfl) (by kernel_rfl) ?_
      simp only [List.take_succ_cons, List.take_zero, List.drop_succ_cons, List.drop_zero]
      repeat still_step
      still_call ((impl_Times _ _ _).mono fun _ _ h => ⟨h.1, h.2.symm⟩)
      refine wpStill_nil ?_
      change wpList _ _ _ _ _ wo.drew
      go_wp2_with fail
      go_roundw
      case rel =>
        have hs := (hM.out.storeA hlt (x := M.times x k) (I64.num (M.num_times _ _))).drew
        rw [part_step (f := (M.times · k)) hlt H1.out.len hx.out] at hs
        exact ⟨j + 1, by go_num, by omega, by simpa using hz, hid hs⟩
      case measure => simp [intOf]; omega
    · obtain rfl : n1 = j := by omega
      go_wp2_with fail
      clear q0 q1 q2 r0 r1 r2
      have hM0 := hM.out
      rw [part_end H1.out.len] at hM0
      have HM0 := hid hM0
      clear hM0 hM
      go_loopw [7, 36] (fun _ i wr => ∃ j : Nat, i = .int .i64 j ∧ j ≤ n2 ∧ w1.heap.size ≤ wr.heap.size ∧ Hid (Mk w1.heap.size w1 wr (.int .i64 n2) w2.heap.size bA bB n1 n2 (A.map (M.times · k)) (part (M.times · k) B n2 j))) (fun _ i _ => n2 - (intOf i).toNat)
      case atStart => exact ⟨0, rfl, Nat.zero_le _, hz, hid (by rw [← part_start]; exact HM0.out)⟩
      case round =>
        obtain ⟨j, rfl, hj, hz, hM⟩ := hrel
        obtain ⟨wq, rfl⟩ : ∃ wq : World, wq = wr := ⟨_, rfl⟩
        obtain ⟨⟨q0, q1, q2⟩, _⟩ := blk3 (hM.out.old (by omega) K2.out)
        obtain ⟨⟨r0, r1, r2⟩, _⟩ := blk3 hM.out.out
        by_cases hlt : j < n2
        · obtain ⟨b, o, x, rfl, hc, _, _, hx⟩ := (H2.out.below (L2.out.trans (hM.out.l.mono (by omega)))).at hlt
          obtain ⟨y, hcB, hfB⟩ := hM.out.cellB hlt
          have hki : (j : Int) < (n2 : Int) := by omega
          go_wp2_with fail
          refine wp_region_still_tail 10 (by kernel_rfl) (by kernel_rfl) ?_
          simp only [List.take_succ_cons, List.take_zero, List.drop_succ_cons, List.drop_zero]
          repeat still_step
          still_call ((impl_Times _ _ _).mono fun _ _ h => ⟨h.1, h.2.symm⟩)
          refine wpStill_nil ?_
          change wpList _ _ _ _ _ wq.drew
          go_wp2_with fail
          go_roundw
          case rel =>
            have hs := (hM.out.storeB hlt (x := M.times x k) (I64.num (M.num_times _ _))).drew
            rw [part_step (f := (M.times · k)) hlt H2.out.len hx.out] at hs
            exact ⟨j + 1, by go_num, by omega, by simpa using hz, hid hs⟩
          case measure => simp [intOf]; omega
        · obtain rfl : n2 = j := by omega
          have hM0 := hM.out
          rw [part_end H2.out.len] at hM0
          have HM1 := hid hM0
          obtain ⟨⟨t0, t1, t2⟩, f0, f1, f2⟩ := blk3 (hM0.old (by omega) R2.out)
          clear hM0 hM
          go_wp2_with fail
          obtain ⟨e1, e2⟩ := HM1.out.finish (Nat.le_succ _) (by omega) L2.out R2.out (.int .i64 n2) (.slice (some ⟨bA, 0, none⟩) n1 n1) (.slice (some ⟨bB, 0, none⟩) n2 n2)
          exact ret_tab rfl rfl e1 rfl ⟨_, _, _, _, _, _, rfl, e2⟩
end Go.Proofs.Ytekojohhjnklkaa
