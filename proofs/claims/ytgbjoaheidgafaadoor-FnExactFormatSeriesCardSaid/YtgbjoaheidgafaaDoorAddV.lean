/- AddSeries: the sums, a series in place, the parts. -/
import Derived.Test.YtgbjoaheidgafaaDoorSerOk
import Derived.Test.YtgbjoaheidgafaaDoorHold2
import Derived.Test.YtgbjoaheidgafaaDoorApMid
import Derived.StillTailTactics
import Derived.Deep.Cut
namespace Go.Proofs.YtgbjoaheidgafaaDoor
open Go.RowKit

def addL (A B : List Int) : List Int := (A.zip B).map fun x => M.plus x.1 x.2
theorem addL_len {A B : List Int} {n : Nat} (h1 : A.length = n) (h2 : B.length = n) : (addL A B).length = n := by simp [addL, h1, h2]
theorem addL_at {A B : List Int} {n k : Nat} {x y : Int} (h1 : A.length = n) (h2 : B.length = n) (hk : k < n) (hx : x = A.getD k 0) (hy : y = B.getD k 0) : M.plus x y = (addL A B).getD k 0 := by
  subst hx hy
  have a1 : k < A.length := by omega
  have a2 : k < B.length := by omega
  have e : (A.zip B)[k]? = some (A[k], B[k]) := by rw [List.getElem?_eq_getElem (by simp; omega), List.getElem_zip]
  simp [addL, List.getD, a1, a2, e]
theorem addL_wf {A B : List Int} : ∀ x ∈ addL A B, I64 x := by
  intro x hx
  obtain ⟨p, _, rfl⟩ := List.mem_map.1 hx
  exact I64.num (M.num_plus _ _)
theorem plus_times_one (x y : Int) : M.plus x (M.times y 1) = M.plus x y := by
  unfold M.plus M.times
  rw [Int.mul_one, M.add_r]
theorem mix_step {L R : List Int} {n k : Nat} {x : Int} (hL : L.length = n) (hR : R.length = n) (hk : k < n) (hx : x = L.getD k 0) : (L.take k ++ R.drop k).set k x = L.take (k + 1) ++ R.drop (k + 1) := by
  rw [take_snoc 0 L k (by omega), ← hx, drop_cons 0 R k (by omega)]
  have e : (L.take k).length = k := by simp; omega
  rw [List.set_append_right _ _ (by omega), e, Nat.sub_self, List.set_cons_zero, List.append_assoc]
  rfl
theorem mix_end {L R : List Int} {n : Nat} (hL : L.length = n) (hR : R.length = n) : L.take n ++ R.drop n = L := by
  rw [← hL, List.take_length, List.drop_of_length_le (by omega), List.append_nil]
/-- AddSeries -/
def addV (o z : Int) (A : List Int) (o2 z2 : Int) (B : List Int) : Sb := if serOk o z A && (serOk o2 z2 B && decide (o = o2)) then ⟨o, M.plus z z2, addL A B, true⟩ else Sb.none
theorem serOk_parts {o z : Int} {A : List Int} (h : serOk o z A = true) : ∃ k n : Nat, o = k ∧ k ≤ 6 ∧ trees (k : Int) = n ∧ n ≤ 37 ∧ A.length = n := by
  unfold serOk at h
  simp only [Bool.and_eq_true, decide_eq_true_eq] at h
  obtain ⟨⟨h0, h6⟩, _, hl, _⟩ := h
  obtain ⟨k, rfl⟩ := Int.eq_ofNat_of_zero_le h0
  obtain ⟨n, hn, h37, _⟩ := trees_nat (k := k) (by omega)
  exact ⟨k, n, rfl, by omega, hn, h37, by rw [hn] at hl; omega⟩
theorem addV_len (o z : Int) (A : List Int) (o2 z2 : Int) (B : List Int) : (addV o z A o2 z2 B).A.length ≤ 1000 := by
  unfold addV
  split
  · rename_i h
    simp only [Bool.and_eq_true, decide_eq_true_eq] at h
    obtain ⟨k, n, _, _, _, h37, hl⟩ := serOk_parts h.1
    simp [addL]
    omega
  · simp [Sb.none]
theorem addV_yes {o z : Int} {A : List Int} {z2 : Int} {B : List Int} (h1 : serOk o z A = true) (h2 : serOk o z2 B = true) : addV o z A o z2 B = ⟨o, M.plus z z2, addL A B, true⟩ := by
  unfold addV; rw [h1, h2, decide_eq_true rfl]; rfl
theorem addV_no {o z : Int} {A : List Int} {o2 z2 : Int} {B : List Int} (h : (serOk o z A && (serOk o2 z2 B && decide (o = o2))) = false) : addV o z A o2 z2 B = Sb.none := by
  unfold addV; rw [h]; rfl

/-! ### two series that fit -/
theorem impl_pairOk (o z : Int) (a1 : Option Addr) (n1 c1 : Nat) (A : List Int) (o2 z2 : Int) (a2 : Option Addr) (n2 c2 : Nat) (B : List Int) (w : World) (h1 : Rd w a1 n1 c1 A) (h2 : Rd w a2 n2 c2 B) (ht : Tc w) :
    Calls Tryd.prog 31 #[.agg #[.int .i64 o, .int .i64 z, .slice a1 n1 c1], .agg #[.int .i64 o2, .int .i64 z2, .slice a2 n2 c2]] w fun e w' => e = .returned (.bool (serOk o z A && (serOk o2 z2 B && decide (o = o2)))) ∧ Below w.heap.size w w' := by
  have H1 := hid h1
  have H2 := hid h2
  have HT := hid ht
  clear h1 h2 ht
  have S0 := hid ((St.first w #[.int .i64 o, .int .i64 z, .slice a1 n1 c1] 24).alloc (.cells #[.int .i64 o2, .int .i64 z2, .slice a2 n2 c2] 24))
  have T0 := hid (heap_alloc_at (w.alloc (.cells #[.int .i64 o, .int .i64 z, .slice a1 n1 c1] 24)) #[.int .i64 o2, .int .i64 z2, .slice a2 n2 c2] 24 (w.heap.size + 1) (by simp))
  cases hA : serOk o z A with
  | false =>
    have HA := hid hA
    go_enter Tryd.func31, Tryd.ntmps31
    go_wp2_with fail
    refine (impl_SeriesOk _ _ _ _ _ A _ (H1.out.below S0.out.below) (HT.out.below S0.out.below)).mono ?_
    rw [HA.out]
    rintro e w1 ⟨rfl, hB⟩
    have S1 := hid (S0.out.step hB)
    clear hB
    go_wp2_with fail
    go_ret
    exact ⟨ret_b (by simp), S1.out.below⟩
  | true =>
    have HA := hid hA
    cases hBB : serOk o2 z2 B with
    | false =>
      have HB := hid hBB
      go_enter Tryd.func31, Tryd.ntmps31
      go_wp2_with fail
      refine (impl_SeriesOk _ _ _ _ _ A _ (H1.out.below S0.out.below) (HT.out.below S0.out.below)).mono ?_
      rw [HA.out]
      rintro e w1 ⟨rfl, hB⟩
      have S1 := hid (S0.out.step hB)
      have T1 := hid (bk_below T0.out hB)
      obtain ⟨⟨p0, p1, p2⟩, _⟩ := blk3 T1.out
      clear hB
      go_wp2_with fail
      refine (impl_SeriesOk _ _ _ _ _ B _ (H2.out.below S1.out.below) (HT.out.below S1.out.below)).mono ?_
      rw [HB.out]
      rintro e w2 ⟨rfl, hB⟩
      have S2 := hid (S1.out.step hB)
      clear hB
      go_wp2_with fail
      go_ret
      exact ⟨ret_b (by simp), S2.out.below⟩
    | true =>
      have HB := hid hBB
      have ho : (o == o2) = decide (o = o2) := rfl
      go_enter Tryd.func31, Tryd.ntmps31
      go_wp2_with fail
      refine (impl_SeriesOk _ _ _ _ _ A _ (H1.out.below S0.out.below) (HT.out.below S0.out.below)).mono ?_
      rw [HA.out]
      rintro e w1 ⟨rfl, hB⟩
      have S1 := hid (S0.out.step hB)
      have T1 := hid (bk_below T0.out hB)
      obtain ⟨⟨p0, p1, p2⟩, _⟩ := blk3 T1.out
      clear hB
      go_wp2_with fail
      refine (impl_SeriesOk _ _ _ _ _ B _ (H2.out.below S1.out.below) (HT.out.below S1.out.below)).mono ?_
      rw [HB.out]
      rintro e w2 ⟨rfl, hB⟩
      have S2 := hid (S1.out.step hB)
      have T2 := hid (bk_below T1.out hB)
      clear p0 p1 p2
      obtain ⟨⟨q0, q1, q2⟩, _⟩ := blk3 S2.out.box
      obtain ⟨⟨p0, p1, p2⟩, _⟩ := blk3 T2.out
      clear hB
      go_wp2_with fail
      go_ret
      exact ⟨ret_b (by simp), S2.out.below⟩
theorem spec_l4Two (o z : Int) (a1 : Option Addr) (n1 c1 : Nat) (A : List Int) (o2 z2 : Int) (a2 : Option Addr) (n2 c2 : Nat) (B : List Int) (w : World) (h1 : Rd w a1 n1 c1 A) (h2 : Rd w a2 n2 c2 B) (ht : Tc w) :
    Calls Tryd.prog 27 #[.agg #[.int .i64 o, .int .i64 z, .slice a1 n1 c1], .agg #[.int .i64 o2, .int .i64 z2, .slice a2 n2 c2]] w fun e w' => e = .returned (.bool (serOk o z A && (serOk o2 z2 B && decide (o = o2)))) ∧ Below w.heap.size w w' := by
  have H1 := hid h1
  have H2 := hid h2
  have HT := hid ht
  clear h1 h2 ht
  have S0 := hid ((St.first w #[.int .i64 o, .int .i64 z, .slice a1 n1 c1] 24).alloc (.cells #[.int .i64 o2, .int .i64 z2, .slice a2 n2 c2] 24))
  have T0 := hid (heap_alloc_at (w.alloc (.cells #[.int .i64 o, .int .i64 z, .slice a1 n1 c1] 24)) #[.int .i64 o2, .int .i64 z2, .slice a2 n2 c2] 24 (w.heap.size + 1) (by simp))
  cases hA : serOk o z A with
  | false =>
    have HA := hid hA
    go_enter Tryd.func27, Tryd.ntmps27
    go_wp2_with fail
    refine (spec_SeriesOk _ _ _ _ _ A _ (H1.out.below S0.out.below) (HT.out.below S0.out.below)).mono ?_
    rw [HA.out]
    rintro e w1 ⟨rfl, hB⟩
    have S1 := hid (S0.out.step hB)
    clear hB
    go_wp2_with fail
    go_ret
    exact ⟨ret_b (by simp), S1.out.below⟩
  | true =>
    have HA := hid hA
    cases hBB : serOk o2 z2 B with
    | false =>
      have HB := hid hBB
      go_enter Tryd.func27, Tryd.ntmps27
      go_wp2_with fail
      refine (spec_SeriesOk _ _ _ _ _ A _ (H1.out.below S0.out.below) (HT.out.below S0.out.below)).mono ?_
      rw [HA.out]
      rintro e w1 ⟨rfl, hB⟩
      have S1 := hid (S0.out.step hB)
      have T1 := hid (bk_below T0.out hB)
      obtain ⟨⟨p0, p1, p2⟩, _⟩ := blk3 T1.out
      clear hB
      go_wp2_with fail
      refine (spec_SeriesOk _ _ _ _ _ B _ (H2.out.below S1.out.below) (HT.out.below S1.out.below)).mono ?_
      rw [HB.out]
      rintro e w2 ⟨rfl, hB⟩
      have S2 := hid (S1.out.step hB)
      clear hB
      go_wp2_with fail
      go_ret
      exact ⟨ret_b (by simp), S2.out.below⟩
    | true =>
      have HB := hid hBB
      have ho : (o == o2) = decide (o = o2) := rfl
      go_enter Tryd.func27, Tryd.ntmps27
      go_wp2_with fail
      refine (spec_SeriesOk _ _ _ _ _ A _ (H1.out.below S0.out.below) (HT.out.below S0.out.below)).mono ?_
      rw [HA.out]
      rintro e w1 ⟨rfl, hB⟩
      have S1 := hid (S0.out.step hB)
      have T1 := hid (bk_below T0.out hB)
      obtain ⟨⟨p0, p1, p2⟩, _⟩ := blk3 T1.out
      clear hB
      go_wp2_with fail
      refine (spec_SeriesOk _ _ _ _ _ B _ (H2.out.below S1.out.below) (HT.out.below S1.out.below)).mono ?_
      rw [HB.out]
      rintro e w2 ⟨rfl, hB⟩
      have S2 := hid (S1.out.step hB)
      have T2 := hid (bk_below T1.out hB)
      clear p0 p1 p2
      obtain ⟨⟨q0, q1, q2⟩, _⟩ := blk3 S2.out.box
      obtain ⟨⟨p0, p1, p2⟩, _⟩ := blk3 T2.out
      clear hB
      go_wp2_with fail
      go_ret
      exact ⟨ret_b (by simp), S2.out.below⟩

/-! ### a series in place -/
/-- A callee's series that a region lays into a struct of its own, wherever the struct was laid. -/
structure NSb (W wc : World) (ro rz : Int) (rA : List Int) (b : Nat) (p : Option Addr) (n c : Nat) : Prop where
  lo : W.heap.size ≤ b
  bk : wc.heap[b]? = some (.cells #[.int .i64 ro, .int .i64 rz, .slice p n c] 24 (0, 0))
  nt : NewS W wc rA p n c
  ne : 0 < n → blk p ≠ some b
theorem fr_ne {w : World} {lo b : Nat} {p : Option Addr} {n c : Nat} {xs : List Int} (h : Fr w lo p n c xs) (hb : b < lo ∨ w.heap.size ≤ b) : 0 < n → blk p ≠ some b := fun hn e => by
  have := h.blkN_bd b (by rw [blkN_pos hn, e])
  omega
theorem NSb.early {W V0 V : World} {ro rz : Int} {rA : List Int} {b : Nat} {p : Option Addr} {n c : Nat} {x y z : Value}
    (hz : V.heap[b]? = some (.cells #[x, y, z] 24 (0, 0))) (hb : W.heap.size ≤ b) (hlt : b < V0.heap.size) (h : NewS V0 V rA p n c) (hB : Below W.heap.size W V0) :
    NSb W (((V.setCell ⟨b, 0, none⟩ (.int .i64 ro)).setCell ⟨b, 1, none⟩ (.int .i64 rz)).setCell ⟨b, 2, none⟩ (.slice p n c)) ro rz rA b p n c :=
  ⟨hb, heap_setCell_same _ _ _ _ _ _ (heap_setCell_same _ _ _ _ _ _ (heap_setCell_same _ _ _ _ _ _ hz)), newS_stores h hB hb hlt _ _ _, fr_ne h.1 (.inl hlt)⟩
theorem NSb.late {W V0 V : World} {ro rz : Int} {rA : List Int} {p : Option Addr} {n c : Nat} (h : NewS V0 V rA p n c) (hB : Below W.heap.size W V0) :
    NSb W (V.alloc (.cells #[.int .i64 ro, .int .i64 rz, .slice p n c] 24)) ro rz rA V.heap.size p n c :=
  ⟨Nat.le_trans hB.size h.2.2.2.size, bk_new _ _ _, ⟨(h.1.alloc _).mono hB.size, trivial, trivial, (hB.trans (h.2.2.2.mono hB.size)).alloc (Nat.le_trans hB.size h.2.2.2.size) _⟩, fr_ne h.1 (.inr (Nat.le_refl _))⟩
/-- 'out' is a struct at ob, its terms a slice of the call's own; what lay below lo in W1 is as it was. -/
structure MkS (lo : Nat) (W1 wr : World) (o z : Int) (ob : Nat) (p : Option Addr) (n c : Nat) (XA : List Int) : Prop where
  l : Below lo W1 wr
  out : wr.heap[ob]? = some (.cells #[.int .i64 o, .int .i64 z, .slice p n c] 24 (0, 0))
  a : Fr wr lo p n c XA
  hlo : lo ≤ ob
  ne : 0 < n → blk p ≠ some ob
section
variable {lo : Nat} {W1 wr : World} {o z : Int} {ob : Nat} {p : Option Addr} {n c : Nat} {XA : List Int}
theorem MkS.of {wc : World} (h : NSb W1 wc o z XA ob p n c) : MkS W1.heap.size W1 wc o z ob p n c XA := ⟨h.nt.2.2.2, h.bk, h.nt.1, h.lo, h.ne⟩
theorem MkS.drew (h : MkS lo W1 wr o z ob p n c XA) : MkS lo W1 wr.drew o z ob p n c XA := ⟨h.l.drew, h.out, h.a.below ((Below.refl _ _).drew), h.hlo, h.ne⟩
theorem MkS.old (h : MkS lo W1 wr o z ob p n c XA) {k : Nat} {O : Obj} (hk : k < lo) (ho : W1.heap[k]? = some O) : wr.heap[k]? = some O := (h.l.block k hk).trans ho
theorem MkS.size (h : MkS lo W1 wr o z ob p n c XA) : ob < wr.heap.size := bk_lt h.out
theorem MkS.store {b f : Nat} (h : MkS lo W1 wr o z ob (some ⟨b, f, none⟩) n c XA) {k : Nat} (hk : k < n) {x : Int} (hx : I64 x) : MkS lo W1 (wr.setCell ⟨b, f + k, none⟩ (.int .i64 x)) o z ob (some ⟨b, f, none⟩) n c (XA.set k x) := by
  have hne : ob ≠ b := fun e => h.ne (by omega) (by rw [e]; rfl)
  exact ⟨h.l.setCell (h.a.own _ _ _ rfl (by omega)).1 _, (heap_setCell_other _ _ _ _ hne).trans h.out, h.a.store hk hx, h.hlo, h.ne⟩
theorem MkS.one (h : MkS lo W1 wr o z ob p n c XA) (y : Int) : MkS lo W1 (wr.setCell ⟨ob, 1, none⟩ (.int .i64 y)) o y ob p n c XA :=
  ⟨h.l.setCell h.hlo _, heap_setCell_same _ _ _ _ _ _ h.out, h.a.grown (grown_setCell _ _ _ _) (fun hn => .inl (h.ne hn)), h.hlo, h.ne⟩
theorem MkS.finish (h : MkS lo W1 wr o z ob p n c XA) {w : World} {r : Nat} {x y t : Value} (hr : w.heap.size ≤ r) (hlt : r < lo) (hw : Below w.heap.size w W1) (hlo : w.heap.size ≤ lo) (hres : W1.heap[r]? = some (.cells #[x, y, t] 24 (0, 0))) :
    (((wr.setCell ⟨r, 0, none⟩ (.int .i64 o)).setCell ⟨r, 1, none⟩ (.int .i64 z)).setCell ⟨r, 2, none⟩ (.slice p n c)).heap[r]? = some (.cells #[.int .i64 o, .int .i64 z, .slice p n c] 24 (0, 0)) ∧
    NewS w (((wr.setCell ⟨r, 0, none⟩ (.int .i64 o)).setCell ⟨r, 1, none⟩ (.int .i64 z)).setCell ⟨r, 2, none⟩ (.slice p n c)) XA p n c :=
  ⟨heap_setCell_same _ _ _ _ _ _ (heap_setCell_same _ _ _ _ _ _ (heap_setCell_same _ _ _ _ _ _ (h.old hlt hres))), (frS_set (frS_set (frS_set h.a _ hlt) _ hlt) _ hlt).mono hlo, trivial, trivial,
    (((hw.trans (h.l.mono hlo)).setCell hr _).setCell hr _).setCell hr _⟩
end
theorem impl_blankN (k n : Nat) (z : Int) (w : World) (ht : Tc w) (hn : trees (k : Int) = n) (hk : n ≤ 37) :
    Calls Tryd.prog 22 #[.int .i64 k, .int .i64 z] w fun e w' => ∃ p n' c, e = .returned (.agg #[.int .i64 k, .int .i64 z, .slice p n' c]) ∧ n' = n ∧ NewS w w' (List.replicate n 0) p n' c :=
  (impl_blank k n z w ht hn hk).mono fun e w' ⟨b, h1, h2⟩ => ⟨_, _, _, h1, rfl, (fr_zeros h2.1 h2.2.2.1 (by omega)), trivial, trivial, h2.2.1⟩
end Go.Proofs.YtgbjoaheidgafaaDoor
