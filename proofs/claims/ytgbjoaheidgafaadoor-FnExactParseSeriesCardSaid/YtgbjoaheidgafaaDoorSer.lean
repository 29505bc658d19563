/- The law's own helpers on series; the table of the numbers of trees. -/
import Derived.Test.YtgbjoaheidgafaaDoorOb
namespace Go.Proofs.YtgbjoaheidgafaaDoor
open Go.RowKit

/-- What a function on series hands back: a series, and whether it was well. -/
structure Sb where
  od : Int
  one : Int
  A : List Int
  ok : Bool
def Sb.none : Sb := ⟨0, 0, [], false⟩
/-- A series in new memory. -/
def NewS (w w' : World) (rA : List Int) (p : Option Addr) (n c : Nat) : Prop := Fr w' w.heap.size p n c rA ∧ True ∧ True ∧ Below w.heap.size w w'
theorem Fr.none' (w : World) (lo : Nat) : Fr w lo Option.none 0 0 [] := ⟨Rd.nil _ _ _ (by omega), fun b o s e => by cases e⟩
theorem NewS.none {w w' : World} (h : Below w.heap.size w w') : NewS w w' [] Option.none 0 0 := ⟨Fr.none' _ _, trivial, trivial, h⟩
theorem ret_ser {fn : Func} {R : Ending → World → Prop} {a : Act} {w : World} {t : Tmp} {b : Nat} {x y z : Value} (hres : fn.results = #[.cell t 24])
    (ht : a.tmps.getD t undef = .pointer (some ⟨b, 0, none⟩)) (hb : w.heap[b]? = some (.cells #[x, y, z] 24 (0, 0))) (hd : a.defers = [])
    (hR : R (.returned (.agg #[x, y, z])) w) : bodyPost Tryd.prog fn R .ret a w := by
  obtain ⟨⟨q0, q1, q2⟩, _⟩ := blk3 hb
  refine bodyPost_ret (v := .agg #[x, y, z]) ?_ hd hR
  rw [Array.getD_eq_getD_getElem?] at ht
  simp only [results, hres]
  simp [go_sem, ht, q0, q1, q2]
theorem ret_serb {fn : Func} {R : Ending → World → Prop} {a : Act} {w : World} {t t2 : Tmp} {b : Nat} {x y z : Value} {u : Bool} (hres : fn.results = #[.cell t 24, .tmp t2])
    (ht : a.tmps.getD t undef = .pointer (some ⟨b, 0, none⟩)) (ht2 : a.tmps.getD t2 undef = .bool u) (hb : w.heap[b]? = some (.cells #[x, y, z] 24 (0, 0))) (hd : a.defers = [])
    (hR : R (.returned (.tuple #[.agg #[x, y, z], .bool u])) w) : bodyPost Tryd.prog fn R .ret a w := by
  obtain ⟨⟨q0, q1, q2⟩, _⟩ := blk3 hb
  refine bodyPost_ret (v := .tuple #[.agg #[x, y, z], .bool u]) ?_ hd hR
  rw [Array.getD_eq_getD_getElem?] at ht ht2
  simp only [results, hres]
  simp [go_sem, ht, ht2, q0, q1, q2]
theorem frS_set {w : World} {lo : Nat} {ao : Option Addr} {n c : Nat} {xs : List Int} (h : Fr w lo ao n c xs) {b k : Nat} (v : Value) (hb : b < lo) : Fr (w.setCell ⟨b, k, none⟩ v) lo ao n c xs :=
  h.grown (grown_setCell w b k v) (fun hn => .inl (by
    obtain ⟨b', o, e, _⟩ := h.rd.cell 0 hn
    subst e
    have := (h.own _ _ _ rfl hn).1
    exact blk_ne (Nat.ne_of_gt (Nat.lt_of_lt_of_le hb this))))
/-- A callee's series that is stored into a block laid before. -/
theorem newS_stores {w wi w' : World} {rA : List Int} {p : Option Addr} {n c : Nat} (h : NewS wi w' rA p n c) (hl : Below w.heap.size w wi) {b : Nat} (hb : w.heap.size ≤ b) (hlt : b < wi.heap.size) (u v t : Value) :
    NewS w (((w'.setCell ⟨b, 0, none⟩ u).setCell ⟨b, 1, none⟩ v).setCell ⟨b, 2, none⟩ t) rA p n c :=
  ⟨(frS_set (frS_set (frS_set h.1 u hlt) v hlt) t hlt).mono (by omega), trivial, trivial,
    (((hl.trans (h.2.2.2.mono (by omega))).setCell hb u).setCell hb v).setCell hb t⟩
/-- The ways out with no series. -/
theorem noneS_end {w wi : World} {b : Nat} {x y z : Value} (hl : Below w.heap.size w wi) (hb : w.heap.size ≤ b) (h : wi.heap[b]? = some (.cells #[x, y, z] 24 (0, 0))) (u v t : Value) :
    (((wi.setCell ⟨b, 0, none⟩ u).setCell ⟨b, 1, none⟩ v).setCell ⟨b, 2, none⟩ t).heap[b]? = some (.cells #[u, v, t] 24 (0, 0)) ∧
    NewS w (((wi.setCell ⟨b, 0, none⟩ u).setCell ⟨b, 1, none⟩ v).setCell ⟨b, 2, none⟩ t) [] Option.none 0 0 :=
  ⟨heap_setCell_same _ _ _ _ _ _ (heap_setCell_same _ _ _ _ _ _ (heap_setCell_same _ _ _ _ _ _ h)), NewS.none (((hl.setCell hb u).setCell hb v).setCell hb t)⟩

/-! ### the law's helpers -/
theorem law_szSeries_yes (o z : Int) (a1 : Option Addr) (n1 c1 : Nat) (left : Int) (w : World) (h : (n1 : Int) ≤ left) (hl : left ≤ 1048576) :
    Calls Tryd.prog 12 #[.agg #[.int .i64 o, .int .i64 z, .slice a1 n1 c1], .int .i64 left] w fun e w' => e = .returned (.int .i64 (left - n1)) ∧ Below w.heap.size w w' := by
  go_enter Tryd.func12, Tryd.ntmps12
  go_wp2_with (go_at_call 26; refine (law_szIntS_yes _ _ _ _ _ (by omega) (by omega)).mono ?_; rintro e w' ⟨rfl, rfl⟩)
  go_ret
  exact ⟨rfl, below_box _ _⟩
theorem law_szSeries_no (o z : Int) (a1 : Option Addr) (n1 c1 : Nat) (left : Int) (w : World) (m1 : n1 ≤ 9223372036854775807) (h : left < (n1 : Int)) (h0 : 0 ≤ left) (_hl : left ≤ 1048576) :
    Calls Tryd.prog 12 #[.agg #[.int .i64 o, .int .i64 z, .slice a1 n1 c1], .int .i64 left] w fun e w' => e = .returned (.int .i64 (-1)) ∧ Below w.heap.size w w' := by
  go_enter Tryd.func12, Tryd.ntmps12
  go_wp2_with (go_at_call 26; refine (law_szIntS_no _ _ _ _ _ (by omega) (by omega) (by omega)).mono ?_; rintro e w' ⟨rfl, rfl⟩)
  go_ret
  exact ⟨rfl, below_box _ _⟩
theorem law_toSeries (o z : Int) (a1 : Option Addr) (n1 c1 : Nat) (A : List Int) (w : World) (h1 : Rd w a1 n1 c1 A) (hn : n1 ≤ 1048576) :
    Calls Tryd.prog 14 #[.agg #[.int .i64 o, .int .i64 z, .slice a1 n1 c1]] w fun e w' =>
      ∃ b1, e = .returned (.agg #[.int .i64 o, .int .i64 z, .slice (some ⟨b1, 0, none⟩) n1 n1]) ∧ NewS w w' A (some ⟨b1, 0, none⟩) n1 n1 := by
  have H1 := hid h1
  clear h1
  go_enter Tryd.func14, Tryd.ntmps14
  go_wp2_with fail
  refine (law_toIntS _ _ _ A _ (((H1.out.alloc _).alloc _).alloc _) (by omega)).mono ?_
  rintro e w1 ⟨rfl, hB, hS, hF⟩
  have HB := hid hB
  have HF := hid hF
  have hz := hS
  simp only [World.size_alloc] at hz
  have K2 := hid (show w1.heap[w.heap.size + 1]? = some (.cells #[.int .i64 0, .int .i64 0, .slice none 0 0] 24 (0, 0)) from
    (HB.out.block _ (by simp)).trans (by rw [heap_alloc_past _ _ _ (by simp), heap_alloc_at _ _ _ _ (by simp)]))
  have K3 := hid (show w1.heap[w.heap.size + 1 + 1]? = some (.cells #[.int .i64 o, .int .i64 z, .slice none 0 0] 24 (0, 0)) from
    (HB.out.block _ (by simp)).trans (by rw [heap_alloc_at _ _ _ _ (by simp)]))
  obtain ⟨⟨r0, r1, r2⟩, f0, f1, f2⟩ := blk3 K3.out
  obtain ⟨⟨p0, p1, p2⟩, g0, g1, g2⟩ := blk3 K2.out
  clear hB hF hS
  go_wp2_with fail
  have hBW : Below w.heap.size w w1 := (((((Below.refl _ _).alloc (Nat.le_refl _) _).alloc (by simp) _).alloc (by simp; omega) _).trans (HB.out.mono (by simp; omega)))
  refine ret_ser (b := w.heap.size + 1) rfl rfl (heap_setCell_same _ _ _ _ _ _ (heap_setCell_same _ _ _ _ _ _ (heap_setCell_same _ _ _ _ _ _ ((heap_setCell_other _ _ _ _ (by simp)).trans K2.out)))) rfl ⟨_, rfl, ?_, trivial, trivial, ?_⟩
  · have F := HF.out
    simp only [World.size_alloc] at F
    exact ((((F.setCell _ (blk_ne (by omega))).setCell _ (blk_ne (by omega))).setCell _ (blk_ne (by omega))).setCell _ (blk_ne (by omega))).mono (by omega)
  · exact (((hBW.setCell (by simp; omega) _).setCell (by simp) _).setCell (by simp) _).setCell (by simp) _
theorem law_eqSeries_true (o z : Int) (a1 : Option Addr) (n1 c1 : Nat) (b1 : Option Addr) (m1 d1 : Nat) (A : List Int) (w : World) (h1 : Rd w a1 n1 c1 A) (g1 : Rd w b1 m1 d1 A) :
    Calls Tryd.prog 9 #[.agg #[.int .i64 o, .int .i64 z, .slice a1 n1 c1], .agg #[.int .i64 o, .int .i64 z, .slice b1 m1 d1]] w fun e w' => e = .returned (.bool true) ∧ Below w.heap.size w w' := by
  have H1 := hid h1
  have G1 := hid g1
  have hss : (o != o) = false := by simp
  have hzz : (z != z) = false := by simp
  clear h1 g1
  go_enter Tryd.func9, Tryd.ntmps9
  go_wp2_with fail
  refine (law_eqIntS_true _ _ _ _ _ _ A _ ((H1.out.alloc _).alloc _) ((G1.out.alloc _).alloc _)).mono ?_
  rintro e w1 ⟨rfl, hB⟩
  have HW := hid (((below_box w _).trans ((below_box _ _).mono (by simp))).trans (hB.mono (by simp; omega)))
  clear hB
  go_wp2_with fail
  go_ret
  exact ⟨rfl, HW.out⟩
theorem law_heldSeries (a1 : Option Addr) (n1 c1 : Nat) (o z k : Int) (w : World) (h1 : Rd w a1 n1 c1 (marks k n1)) (m1 : n1 ≤ 1048576) (k0 : 0 ≤ k) (k1 : k ≤ 1000000000) :
    Calls Tryd.prog 11 #[.agg #[.int .i64 o, .int .i64 z, .slice a1 n1 c1], .int .i64 k] w fun e w' => e = .returned (.int .i64 (k + n1)) ∧ Below w.heap.size w w' := by
  have H1 := hid h1
  clear h1
  go_enter Tryd.func11, Tryd.ntmps11
  go_wp2_with fail
  refine (law_heldIntS _ _ _ _ _ (H1.out.alloc _) m1 k0 (by omega)).mono ?_
  rintro e w1 ⟨rfl, rfl⟩
  go_wp2_with fail
  go_ret
  exact ⟨rfl, below_box _ _⟩
theorem law_markSeries (lo : Nat) (a1 : Option Addr) (n1 c1 : Nat) (o z k : Int) (A : List Int) (w : World) (h1 : Fr w lo a1 n1 c1 A) (m1 : n1 ≤ 1048576) (k0 : 0 ≤ k) (k1 : k ≤ 1000000000) :
    Calls Tryd.prog 10 #[.agg #[.int .i64 o, .int .i64 z, .slice a1 n1 c1], .int .i64 k] w fun e w' => e = .returned (.int .i64 (k + n1)) ∧
      Fr w' lo a1 n1 c1 (marks k n1) ∧ ∃ wa, wa = w.alloc (.cells #[.int .i64 o, .int .i64 z, .slice a1 n1 c1] 24) ∧ wa.grownBy w' (blkN a1 n1) := by
  have H1 := hid h1
  clear h1
  go_enter Tryd.func10, Tryd.ntmps10
  go_wp2_with fail
  refine (law_markIntS lo _ _ _ A _ _ (H1.out.alloc _) m1 k0 (by omega)).mono ?_
  rintro e w1 ⟨rfl, hF, hG⟩
  have HF := hid hF
  have HG := hid hG
  clear hF hG
  go_wp2_with fail
  go_ret
  exact ⟨rfl, HF.out, _, rfl, HG.out⟩

/-! ### the numbers of trees -/
def treesL : List Int := [0, 1, 2, 4, 8, 17, 37]
/-- The variable's slice and what it reads as. -/
def Tc (w : World) : Prop := ∃ tb to_ c, w.cell? ⟨0, 0, none⟩ = some (.slice (some ⟨tb, to_, none⟩) 7 c) ∧ Rd w (some ⟨tb, to_, none⟩) 7 c treesL
theorem Tc.below {w w' : World} (h : Tc w) (hb : Below w.heap.size w w') : Tc w' := by
  obtain ⟨tb, to_, c, h1, h2⟩ := h
  have hlt := World.block_lt_of_cell? w _ h1
  exact ⟨tb, to_, c, (hb.cell hlt).trans h1, h2.below hb⟩
/-- CountTrees -/
def trees (n : Int) : Int := if 0 ≤ n ∧ n ≤ 6 then treesL.getD n.toNat 0 else -1
theorem trees_in {k : Nat} (h : k ≤ 6) : trees (k : Int) = treesL.getD k 0 := by unfold trees; rw [if_pos ⟨by omega, by omega⟩, Int.toNat_natCast]
theorem trees_out {n : Int} (h : ¬ (0 ≤ n ∧ n ≤ 6)) : trees n = -1 := if_neg h
theorem trees_bd (n : Int) : -1 ≤ trees n ∧ trees n ≤ 37 := by
  by_cases h : 0 ≤ n ∧ n ≤ 6
  · obtain ⟨k, rfl⟩ := Int.eq_ofNat_of_zero_le h.1
    rw [trees_in (by omega)]
    have : k ≤ 6 := by omega
    match k, this with
    | 0, _ => decide
    | 1, _ => decide
    | 2, _ => decide
    | 3, _ => decide
    | 4, _ => decide
    | 5, _ => decide
    | 6, _ => decide
  · rw [trees_out h]; omega
theorem impl_CountTrees (n : Int) (w : World) (ht : Tc w) : Calls Tryd.prog 40 #[.int .i64 n] w fun e w' => e = .returned (.int .i64 (trees n)) ∧ w = w' := by
  obtain ⟨tb, to_, c, h1, h2⟩ := ht
  have H2 := hid h2
  clear h2
  by_cases c0 : 0 ≤ n
  · by_cases c1 : n ≤ 6
    · obtain ⟨k, rfl⟩ := Int.eq_ofNat_of_zero_le c0
      have hk : k < 7 := by omega
      have HH := hid (trees_in (k := k) (by omega))
      obtain ⟨b, o, x, e, hc, _, _, hx⟩ := H2.out.at hk
      cases e
      go_enter Tryd.func40, Tryd.ntmps40
      go_wp2
      go_ret
      exact ⟨ret_i (by rw [HH.out]; exact hx.out), rfl⟩
    · have HH := hid (trees_out (n := n) (by omega))
      go_enter Tryd.func40, Tryd.ntmps40
      go_wp2
      go_ret
      exact ⟨ret_i HH.out.symm, rfl⟩
  · have HH := hid (trees_out (n := n) (by omega))
    go_enter Tryd.func40, Tryd.ntmps40
    go_wp2
    go_ret
    exact ⟨ret_i HH.out.symm, rfl⟩
end Go.Proofs.YtgbjoaheidgafaaDoor
