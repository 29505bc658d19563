/- The law's own helpers on tableaus. -/
import Derived.Test.YtekojohhjnklkaaLaw
namespace Go.Proofs.Ytekojohhjnklkaa
open Go.RowKit

abbrev tab (s : Int) (a1 : Option Addr) (n1 c1 : Nat) (a2 : Option Addr) (n2 c2 : Nat) : Value := .agg #[.int .i64 s, .slice a1 n1 c1, .slice a2 n2 c2]
theorem below_box (w : World) (o : Obj) : Below w.heap.size w (w.alloc o) := (Below.refl _ _).alloc (Nat.le_refl _) o

theorem law_szTableau_yes (s : Int) (a1 : Option Addr) (n1 c1 : Nat) (a2 : Option Addr) (n2 c2 : Nat) (left : Int) (w : World) (h : (n1 : Int) + n2 ≤ left) (hl : left ≤ 1048576) :
    Calls Try.prog 15 #[.agg #[.int .i64 s, .slice a1 n1 c1, .slice a2 n2 c2], .int .i64 left] w fun e w' => e = .returned (.int .i64 (left - n1 - n2)) ∧ Below w.heap.size w w' := by
  have e1 : (n1 : Int) ≤ left := by omega
  have e2 : (n2 : Int) ≤ left - (n1 : Int) := by omega
  go_enter Try.func15, Try.ntmps15
  go_wp2_with (go_at_call 48; refine (law_szIntS_yes _ _ _ _ _ (by omega) (by omega)).mono ?_; rintro e w' ⟨rfl, rfl⟩)
  go_ret
  exact ⟨rfl, below_box _ _⟩
theorem law_szTableau_no (s : Int) (a1 : Option Addr) (n1 c1 : Nat) (a2 : Option Addr) (n2 c2 : Nat) (left : Int) (w : World) (m1 : n1 ≤ 9223372036854775807) (m2 : n2 ≤ 9223372036854775807) (h : left < (n1 : Int) + n2) (h0 : 0 ≤ left) (hl : left ≤ 1048576) :
    Calls Try.prog 15 #[.agg #[.int .i64 s, .slice a1 n1 c1, .slice a2 n2 c2], .int .i64 left] w fun e w' => e = .returned (.int .i64 (-1)) ∧ Below w.heap.size w w' := by
  by_cases h1 : (n1 : Int) ≤ left
  · have e2 : left - (n1 : Int) < n2 := by omega
    go_enter Try.func15, Try.ntmps15
    go_wp2_with fail
    refine (law_szIntS_yes _ _ _ _ _ (by omega) (by omega)).mono ?_
    rintro e w' ⟨rfl, rfl⟩
    go_wp2_with fail
    refine (law_szIntS_no _ _ _ _ _ (by omega) (by omega) (by omega)).mono ?_
    rintro e w' ⟨rfl, rfl⟩
    go_wp2_with fail
    go_ret
    exact ⟨rfl, below_box _ _⟩
  · have e1 : left < n1 := by omega
    go_enter Try.func15, Try.ntmps15
    go_wp2_with (go_at_call 48; refine (law_szIntS_no _ _ _ _ _ (by omega) (by omega) (by omega)).mono ?_; rintro e w' ⟨rfl, rfl⟩)
    go_ret
    exact ⟨rfl, below_box _ _⟩

theorem bcell {W w1 : World} (hb : Below W.heap.size W w1) : (∀ b o, b < W.heap.size → w1.cell? ⟨b, o, none⟩ = W.cell? ⟨b, o, none⟩) ∧ (∀ b o, b < W.heap.size → w1.frozen? ⟨b, o, none⟩ = W.frozen? ⟨b, o, none⟩) :=
  ⟨fun b o h => hb.cell (p := ⟨b, o, none⟩) h, fun b o h => hb.frozen (p := ⟨b, o, none⟩) h⟩

theorem blk_ne {a b o : Nat} {s : Option Nat} (h : a ≠ b) : blk (some ⟨a, o, s⟩) ≠ some b := by simpa [blk] using h
/-- A struct's block, known whole. -/
theorem blk3 {w : World} {b : Nat} {x y z : Value} {e : TypeId} (h : w.heap[b]? = some (.cells #[x, y, z] e (0, 0))) :
    (w.cell? ⟨b, 0, none⟩ = some x ∧ w.cell? ⟨b, 1, none⟩ = some y ∧ w.cell? ⟨b, 2, none⟩ = some z) ∧ w.frozen? ⟨b, 0, none⟩ = false ∧ w.frozen? ⟨b, 1, none⟩ = false ∧ w.frozen? ⟨b, 2, none⟩ = false :=
  ⟨⟨cell_of_row w b 0 _ _ _ h, cell_of_row w b 1 _ _ _ h, cell_of_row w b 2 _ _ _ h⟩, frozen_of_row w b 0 _ _ h, frozen_of_row w b 1 _ _ h, frozen_of_row w b 2 _ _ h⟩
/-- A result that is a tableau in a block of its own. -/
theorem ret_tab {fn : Func} {R : Ending → World → Prop} {a : Act} {w : World} {t : Tmp} {b : Nat} {x y z : Value} (hres : fn.results = #[.cell t 27])
    (ht : a.tmps.getD t undef = .pointer (some ⟨b, 0, none⟩)) (hb : w.heap[b]? = some (.cells #[x, y, z] 27 (0, 0))) (hd : a.defers = [])
    (hR : R (.returned (.agg #[x, y, z])) w) : bodyPost Try.prog fn R .ret a w := by
  obtain ⟨⟨q0, q1, q2⟩, _⟩ := blk3 hb
  refine bodyPost_ret (v := .agg #[x, y, z]) ?_ hd hR
  rw [Array.getD_eq_getD_getElem?] at ht
  simp only [results, hres]
  simp [go_sem, ht, q0, q1, q2]
theorem heap_alloc_at (w : World) (c : Array Value) (e : TypeId) (b : Nat) (h : b = w.heap.size) : (w.alloc (.cells c e)).heap[b]? = some (.cells c e (0, 0)) := by subst h; exact _root_.Go.heap_alloc_new w _
theorem heap_alloc_past (w : World) (o : Obj) (b : Nat) (h : b < w.heap.size) : (w.alloc o).heap[b]? = w.heap[b]? := Below.heap_alloc w o b h
theorem Fr.setCell {w : World} {lo : Nat} {ao : Option Addr} {n c : Nat} {xs : List Int} (h : Fr w lo ao n c xs) {b k : Nat} (v : Value) (hne : blk ao ≠ some b) : Fr (w.setCell ⟨b, k, none⟩ v) lo ao n c xs :=
  h.grown (grown_setCell w b k v) (fun _ => .inl hne)
/-- toTableau: a tableau in new memory. -/
def NewTab (w w' : World) (A B : List Int) (a1 : Option Addr) (n1 c1 : Nat) (a2 : Option Addr) (n2 c2 : Nat) : Prop :=
  Fr w' w.heap.size a1 n1 c1 A ∧ Fr w' w.heap.size a2 n2 c2 B ∧ (0 < n1 → 0 < n2 → blk a1 ≠ blk a2) ∧ Below w.heap.size w w'
theorem law_toTableau (s : Int) (a1 : Option Addr) (n1 c1 : Nat) (A : List Int) (a2 : Option Addr) (n2 c2 : Nat) (B : List Int) (w : World) (h1 : Rd w a1 n1 c1 A) (h2 : Rd w a2 n2 c2 B) (hn : n1 + n2 ≤ 1048576) :
    Calls Try.prog 17 #[.agg #[.int .i64 s, .slice a1 n1 c1, .slice a2 n2 c2]] w fun e w' =>
      ∃ b1 b2, e = .returned (.agg #[.int .i64 s, .slice (some ⟨b1, 0, none⟩) n1 n1, .slice (some ⟨b2, 0, none⟩) n2 n2]) ∧ NewTab w w' A B (some ⟨b1, 0, none⟩) n1 n1 (some ⟨b2, 0, none⟩) n2 n2 := by
  have H1 := hid h1
  have H2 := hid h2
  clear h1 h2
  go_enter Try.func17, Try.ntmps17
  go_wp2_with fail
  refine (law_toIntS _ _ _ A _ (((H1.out.alloc _).alloc _).alloc _) (by omega)).mono ?_
  rintro e w1 ⟨rfl, hB, hS, hF⟩
  have HB := hid hB
  have HF := hid hF
  have hz := hS
  simp only [World.size_alloc] at hz
  have k1 : w1.heap[w.heap.size]? = some (.cells #[.int .i64 s, .slice a1 n1 c1, .slice a2 n2 c2] 24 (0, 0)) :=
    (HB.out.block _ (by simp; omega)).trans (by rw [heap_alloc_past _ _ _ (by simp; omega), heap_alloc_past _ _ _ (by simp), heap_alloc_at _ _ _ _ rfl])
  have k2 : w1.heap[w.heap.size + 1]? = some (.cells #[.int .i64 0, .slice none 0 0, .slice none 0 0] 27 (0, 0)) :=
    (HB.out.block _ (by simp)).trans (by rw [heap_alloc_past _ _ _ (by simp), heap_alloc_at _ _ _ _ (by simp)])
  have k3 : w1.heap[w.heap.size + 1 + 1]? = some (.cells #[.int .i64 s, .slice none 0 0, .slice none 0 0] 27 (0, 0)) :=
    (HB.out.block _ (by simp)).trans (by rw [heap_alloc_at _ _ _ _ (by simp)])
  have K1 := hid k1
  have K2 := hid k2
  have K3 := hid k3
  obtain ⟨⟨q0, q1, q2⟩, _⟩ := blk3 k1
  obtain ⟨⟨r0, r1, r2⟩, f0, f1, f2⟩ := blk3 k3
  clear hB hF hS k1 k2 k3
  go_wp2_with fail
  have hBW : Below w.heap.size w (w1.setCell ⟨w.heap.size + 1 + 1, 1, none⟩ (Value.slice (some { block := w.heap.size + 1 + 1 + 1, off := 0 }) n1 n1)) :=
    (((((Below.refl _ _).alloc (Nat.le_refl _) _).alloc (by simp) _).alloc (by simp; omega) _).trans (HB.out.mono (by simp; omega))).setCell (by simp; omega) _
  have HBW := hid hBW
  clear hBW
  refine (law_toIntS _ _ _ B _ (H2.out.below HBW.out) (by omega)).mono ?_
  rintro e w2 ⟨rfl, hB, hS, hF⟩
  have HB2 := hid hB
  have HF2 := hid hF
  have hz2 := hS
  simp only [World.size_setCell] at hz2
  have k2 : w2.heap[w.heap.size + 1]? = some (.cells #[.int .i64 0, .slice none 0 0, .slice none 0 0] 27 (0, 0)) :=
    (HB2.out.block _ (by simp; omega)).trans ((heap_setCell_other _ _ _ _ (by simp)).trans K2.out)
  have k3 : w2.heap[w.heap.size + 1 + 1]? = some (.cells #[.int .i64 s, .slice (some ⟨w.heap.size + 1 + 1 + 1, 0, none⟩) n1 n1, .slice none 0 0] 27 (0, 0)) :=
    (HB2.out.block _ (by simp; omega)).trans (heap_setCell_same _ _ _ _ _ _ K3.out)
  obtain ⟨⟨p0, p1, p2⟩, g0, g1, g2⟩ := blk3 k2
  have K2' := hid k2
  clear q0 q1 q2 r0 r1 r2 f0 f1 f2
  obtain ⟨⟨r0, r1, r2⟩, f0, f1, f2⟩ := blk3 k3
  clear hB hF hS k2 k3
  go_wp2_with fail
  refine ret_tab (b := w.heap.size + 1) rfl rfl (heap_setCell_same _ _ _ _ _ _ (heap_setCell_same _ _ _ _ _ _ (heap_setCell_same _ _ _ _ _ _ ((heap_setCell_other _ _ _ _ (by simp)).trans K2'.out)))) rfl ⟨_, _, rfl, ?_, ?_, ?_, ?_⟩
  · have F := HF.out
    simp only [World.size_alloc] at F
    have F2 := (F.setCell (b := w.heap.size + 1 + 1) (k := 1) (Value.slice (some { block := w.heap.size + 1 + 1 + 1, off := 0 }) n1 n1) (blk_ne (by omega))).below HB2.out
    exact ((((F2.setCell _ (blk_ne (by omega))).setCell _ (blk_ne (by omega))).setCell _ (blk_ne (by omega))).setCell _ (blk_ne (by omega))).mono (by omega)
  · have F := HF2.out
    simp only [World.size_setCell] at F
    exact ((((F.setCell _ (blk_ne (by omega))).setCell _ (blk_ne (by omega))).setCell _ (blk_ne (by omega))).setCell _ (blk_ne (by omega))).mono (by omega)
  · intro _ _
    simp [blk]
    omega
  · exact ((((HBW.out.trans (HB2.out.mono (by simp; omega))).setCell (by simp; omega) _).setCell (by simp) _).setCell (by simp) _).setCell (by simp) _

theorem law_eqTableau_true (s : Int) (a1 : Option Addr) (n1 c1 : Nat) (a2 : Option Addr) (n2 c2 : Nat) (b1 : Option Addr) (m1 d1 : Nat) (b2 : Option Addr) (m2 d2 : Nat) (A B : List Int) (w : World)
    (h1 : Rd w a1 n1 c1 A) (h2 : Rd w a2 n2 c2 B) (g1 : Rd w b1 m1 d1 A) (g2 : Rd w b2 m2 d2 B) :
    Calls Try.prog 19 #[.agg #[.int .i64 s, .slice a1 n1 c1, .slice a2 n2 c2], .agg #[.int .i64 s, .slice b1 m1 d1, .slice b2 m2 d2]] w fun e w' => e = .returned (.bool true) ∧ Below w.heap.size w w' := by
  have H1 := hid h1
  have H2 := hid h2
  have G1 := hid g1
  have G2 := hid g2
  have hss : (s != s) = false := by simp
  clear h1 h2 g1 g2
  go_enter Try.func19, Try.ntmps19
  go_wp2_with fail
  refine (law_eqIntS_true _ _ _ _ _ _ A _ ((H1.out.alloc _).alloc _) ((G1.out.alloc _).alloc _)).mono ?_
  rintro e w1 ⟨rfl, hB⟩
  have HB := hid hB
  have HW := hid (((below_box w _).trans ((below_box _ _).mono (by simp))).trans (hB.mono (by simp; omega)))
  obtain ⟨⟨q0, q1, q2⟩, _⟩ := blk3 ((hB.block w.heap.size (by simp; omega)).trans ((heap_alloc_past _ _ _ (by simp)).trans (heap_alloc_at _ _ _ _ rfl)))
  obtain ⟨⟨r0, r1, r2⟩, _⟩ := blk3 ((hB.block (w.heap.size + 1) (by simp)).trans (heap_alloc_at _ _ _ _ (by simp)))
  clear hB
  go_wp2_with fail
  refine (law_eqIntS_true _ _ _ _ _ _ B _ (H2.out.below HW.out) (G2.out.below HW.out)).mono ?_
  rintro e w2 ⟨rfl, hB⟩
  have HB2 := hid (HW.out.trans (hB.mono HW.out.size))
  clear hB
  go_wp2_with fail
  go_ret
  exact ⟨rfl, HB2.out⟩
theorem law_heldTableau (a1 : Option Addr) (n1 c1 : Nat) (a2 : Option Addr) (n2 c2 : Nat) (s k : Int) (w : World) (h1 : Rd w a1 n1 c1 (marks k n1)) (h2 : Rd w a2 n2 c2 (marks (k + n1) n2))
    (m1 : n1 ≤ 1048576) (m2 : n2 ≤ 1048576) (k0 : 0 ≤ k) (k1 : k ≤ 1000000000) :
    Calls Try.prog 36 #[.agg #[.int .i64 s, .slice a1 n1 c1, .slice a2 n2 c2], .int .i64 k] w fun e w' => e = .returned (.int .i64 (k + n1 + n2)) ∧ Below w.heap.size w w' := by
  have H1 := hid h1
  have H2 := hid h2
  clear h1 h2
  go_enter Try.func36, Try.ntmps36
  go_wp2_with fail
  refine (law_heldIntS _ _ _ _ _ (H1.out.alloc _) m1 k0 (by omega)).mono ?_
  rintro e w1 ⟨rfl, rfl⟩
  go_wp2_with fail
  refine (law_heldIntS _ _ _ _ _ (H2.out.alloc _) m2 (by omega) (by omega)).mono ?_
  rintro e w1 ⟨rfl, rfl⟩
  go_wp2_with fail
  go_ret
  exact ⟨rfl, below_box _ _⟩
/-- Two slices that share no block. -/
def Sep (a1 : Option Addr) (n1 : Nat) (a2 : Option Addr) (n2 : Nat) : Prop := 0 < n1 → 0 < n2 → blk a1 ≠ blk a2
theorem Fr.grownN {w w' : World} {lo : Nat} {ao : Option Addr} {n c : Nat} {xs : List Int} (h : Fr w lo ao n c xs) {bo : Option Addr} {m : Nat} (hg : w.grownBy w' (blkN bo m)) (hs : Sep bo m ao n) : Fr w' lo ao n c xs :=
  h.grown hg fun hn => by
    rcases Nat.eq_zero_or_pos m with h0 | h0
    · exact .inr (if_pos h0)
    · rw [blkN_pos h0]; exact .inl fun e => hs h0 hn e.symm
theorem law_markTableau (lo : Nat) (a1 : Option Addr) (n1 c1 : Nat) (a2 : Option Addr) (n2 c2 : Nat) (s k : Int) (A B : List Int) (w : World) (h1 : Fr w lo a1 n1 c1 A) (h2 : Fr w lo a2 n2 c2 B) (hs : Sep a1 n1 a2 n2)
    (m1 : n1 ≤ 1048576) (m2 : n2 ≤ 1048576) (k0 : 0 ≤ k) (k1 : k ≤ 1000000000) :
    Calls Try.prog 33 #[.agg #[.int .i64 s, .slice a1 n1 c1, .slice a2 n2 c2], .int .i64 k] w fun e w' => e = .returned (.int .i64 (k + n1 + n2)) ∧
      Fr w' lo a1 n1 c1 (marks k n1) ∧ Fr w' lo a2 n2 c2 (marks (k + n1) n2) ∧ ∃ wa wb, wa = w.alloc (.cells #[.int .i64 s, .slice a1 n1 c1, .slice a2 n2 c2] 27) ∧ wa.grownBy wb (blkN a1 n1) ∧ wb.grownBy w' (blkN a2 n2) := by
  have H1 := hid h1
  have H2 := hid h2
  clear h1 h2
  go_enter Try.func33, Try.ntmps33
  go_wp2_with fail
  refine (law_markIntS lo _ _ _ A _ _ (H1.out.alloc _) m1 k0 (by omega)).mono ?_
  rintro e w1 ⟨rfl, hF, hG⟩
  have HF := hid hF
  have HG := hid hG
  have hlt : some w.heap.size ≠ blkN a1 n1 := by
    intro e
    unfold blkN at e
    split at e
    · cases e
    · obtain ⟨b, o, ea, hc⟩ := H1.out.rd.cell 0 (by omega)
      subst ea
      have := World.block_lt_of_cell? w _ hc
      simp [blk] at e
      simp at this
      omega
  obtain ⟨⟨q0, q1, q2⟩, _⟩ := blk3 ((hG.block w.heap.size (by simp) hlt).trans (heap_alloc_at _ _ _ _ rfl))
  clear hF hG
  go_wp2_with fail
  refine (law_markIntS lo _ _ _ B _ _ ((H2.out.alloc _).grownN HG.out hs) m2 (by omega) (by omega)).mono ?_
  rintro e w2 ⟨rfl, hF, hG⟩
  have HF2 := hid hF
  have HG2 := hid hG
  clear hF hG
  go_wp2_with fail
  go_ret
  exact ⟨rfl, HF.out.grownN HG2.out (fun x y e => hs y x e.symm), HF2.out, _, _, rfl, HG.out, HG2.out⟩
end Go.Proofs.Ytekojohhjnklkaa
