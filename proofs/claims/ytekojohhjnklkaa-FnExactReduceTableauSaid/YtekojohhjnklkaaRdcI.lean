/- ReduceTableau of the implementation. -/
import Derived.Test.YtekojohhjnklkaaRedT
import Derived.Test.YtekojohhjnklkaaMrgI
import Derived.Test.YtekojohhjnklkaaNeedI
import Derived.Test.YtekojohhjnklkaaChI
import Derived.Test.YtekojohhjnklkaaLaw2
import Derived.Deep.CutRange
namespace Go.Proofs.Ytekojohhjnklkaa
open Go.RowKit

/-- Where a loop of rounds stands: the tableau x in the box of the argument. -/
structure Rr (w wr : World) (x : Red.Tt) (a1 : Option Addr) (n1 c1 : Nat) (a2 : Option Addr) (c2 : Nat) : Prop where
  box : wr.heap[w.heap.size]? = some (.cells #[.int .i64 x.st, .slice a1 n1 c1, .slice a2 x.st c2] 27 (0, 0))
  res : wr.heap[w.heap.size + 1]? = some (.cells #[.int .i64 0, .slice none 0 0, .slice none 0 0] 27 (0, 0))
  l : Below w.heap.size w wr
  rA : Rd wr a1 n1 c1 x.A
  rB : Rd wr a2 x.st c2 x.B
  n : n1 = x.st * x.st
  s8 : x.st ≤ 8
theorem Rr.below {w wr w' : World} {x : Red.Tt} {a1 : Option Addr} {n1 c1 : Nat} {a2 : Option Addr} {c2 : Nat} (h : Rr w wr x a1 n1 c1 a2 c2) (hB : Below wr.heap.size wr w') : Rr w w' x a1 n1 c1 a2 c2 :=
  ⟨bk_below h.box hB, bk_below h.res hB, l_below h.l hB, h.rA.below hB, h.rB.below hB, h.n, h.s8⟩
/-- The number of stages in a box. -/
def stM (w : World) (b : Nat) : Nat := match w.cell? ⟨b, 0, none⟩ with
  | some (.int _ z) => z.toNat
  | _ => 0
theorem stM_at {w : World} {b : Nat} {n : Nat} (h : w.cell? ⟨b, 0, none⟩ = some (.int .i64 n)) : stM w b = n := by
  unfold stM
  rw [h]
  simp
theorem Rr.stM {w wr : World} {x : Red.Tt} {a1 : Option Addr} {n1 c1 : Nat} {a2 : Option Addr} {c2 : Nat} (h : Rr w wr x a1 n1 c1 a2 c2) : stM wr w.heap.size = x.st := stM_at (blk3 h.box).1.1
theorem newT_alloc {w w' : World} {rA rB : List Int} {p : Option Addr} {n c : Nat} {q : Option Addr} {m d : Nat} (h : NewT w w' rA rB p n c q m d) (ob : Obj) : NewT w (w'.alloc ob) rA rB p n c q m d :=
  ⟨h.1.alloc _, h.2.1.alloc _, h.2.2.1, l_alloc h.2.2.2 _⟩
/-- The round's outcome is laid into the box. -/
theorem Rr.next {w wr V U : World} {x z : Red.Tt} {a1 : Option Addr} {n1 c1 : Nat} {a2 : Option Addr} {c2 : Nat} (h : Rr w wr x a1 n1 c1 a2 c2) (hV : Below wr.heap.size wr V) {p : Option Addr} {n c : Nat} {q : Option Addr} {d : Nat} (hT : NewT V U z.A z.B p n c q z.st d) (hn : n = z.st * z.st) (h8 : z.st ≤ 8) :
    Rr w (((U.setCell ⟨w.heap.size, 0, none⟩ (.int .i64 z.st)).setCell ⟨w.heap.size, 1, none⟩ (.slice p n c)).setCell ⟨w.heap.size, 2, none⟩ (.slice q z.st d)) z p n c q d := by
  have hU := h.below (hV.trans (hT.2.2.2.mono hV.size))
  have hlt : w.heap.size < V.heap.size := Nat.lt_of_lt_of_le (bk_lt h.box) hV.size
  refine ⟨heap_setCell_same _ _ _ _ _ _ (heap_setCell_same _ _ _ _ _ _ (heap_setCell_same _ _ _ _ _ _ hU.box)), ?_, ((hU.l.setCell (Nat.le_refl _) _).setCell (Nat.le_refl _) _).setCell (Nat.le_refl _) _, ?_, ?_, hn, h8⟩
  · exact (heap_setCell_other _ _ _ _ (by simp)).trans ((heap_setCell_other _ _ _ _ (by simp)).trans ((heap_setCell_other _ _ _ _ (by simp)).trans hU.res))
  · exact (fr_set (fr_set (fr_set hT.1 _ hlt) _ hlt) _ hlt).rd
  · exact (fr_set (fr_set (fr_set hT.2.1 _ hlt) _ hlt) _ hlt).rd

set_option maxRecDepth 20000 in
set_option maxHeartbeats 8000000 in
theorem impl_ReduceTableau_yes (S : Nat) (a1 : Option Addr) (n1 c1 : Nat) (A : List Int) (a2 : Option Addr) (c2 : Nat) (B : List Int) (w : World) (h1 : Rd w a1 n1 c1 A) (h2 : Rd w a2 S c2 B) (hok : tabOk S A B = true) (e1 : n1 = S * S) (hS : S ≤ 8) :
    Calls Try.prog 47 #[.agg #[.int .i64 S, .slice a1 n1 c1, .slice a2 S c2]] w fun e w' => ∃ p n c q m d, e = .returned (.agg #[.int .i64 (Red.red ⟨S, A, B⟩).st, .slice p n c, .slice q m d]) ∧ NewT w w' (Red.red ⟨S, A, B⟩).A (Red.red ⟨S, A, B⟩).B p n c q m d := by
  have HN := hid hok
  have R0 := hid (show Rr w ((w.alloc (.cells #[.int .i64 S, .slice a1 n1 c1, .slice a2 S c2] 27)).alloc (.cells #[.int .i64 0, .slice none 0 0, .slice none 0 0] 27)) ⟨S, A, B⟩ a1 n1 c1 a2 c2 from
    ⟨bk_alloc (bk_new _ _ _) _, heap_alloc_at _ _ _ _ (by simp), l_alloc (below_box _ _) _, (h1.alloc _).alloc _, (h2.alloc _).alloc _, e1, hS⟩)
  clear h1 h2 hok e1 hS
  generalize hx0 : (⟨S, A, B⟩ : Red.Tt) = x0 at R0 ⊢
  have HX0 := hid hx0
  clear hx0
  go_enter Try.func47, Try.ntmps47
  go_wp2_with fail
  refine (impl_TableauOk _ _ _ _ A _ _ _ B _ (by have h := R0.out.rA; rw [← HX0.out] at h; exact h) (by have h := R0.out.rB; rw [← HX0.out] at h; exact h)).mono ?_
  rw [HN.out]
  rintro e w1 ⟨rfl, hB⟩
  have R1 := hid (R0.out.below hB)
  clear hB R0
  go_wp2_with fail
  go_loopw [3] (fun _ wr => ∃ (x : Red.Tt) (a1 : Option Addr) (n1 c1 : Nat) (a2 : Option Addr) (c2 : Nat), Hid (Rr w wr x a1 n1 c1 a2 c2) ∧ Hid (Red.red x0 = Red.red x)) (fun _ wr => stM wr w.heap.size)
  case atStart => exact ⟨x0, _, _, _, _, _, R1, hid rfl⟩
  case round =>
    clear R1
    obtain ⟨x, a1, n1, c1, a2, c2, hR, hX⟩ := hrel
    obtain ⟨W, rfl⟩ : ∃ W : World, W = wr := ⟨_, rfl⟩
    have hb := hR.out.box
    have HU : Hid (∀ wc, Below W.heap.size W wc → wc.cell? ⟨w.heap.size, 0, none⟩ = some (.int .i64 x.st) ∧ wc.cell? ⟨w.heap.size, 1, none⟩ = some (.slice a1 n1 c1) ∧ wc.cell? ⟨w.heap.size, 2, none⟩ = some (.slice a2 x.st c2)) := hid fun wc h => (blk3 (bk_below hb h)).1
    have z0 := bk_lt hb
    have hs8 := hR.out.s8
    have hnl := Red.needT_le x
    clear hb
    obtain ⟨z, hz⟩ : ∃ z, z = Red.stepT x := ⟨_, rfl⟩
    have hzl : z.A.length = z.st * z.st ∧ z.B.length = z.st := by rw [hz]; exact Red.stepT_len x
    have hzs : z.st ≤ x.st := by rw [hz]; exact Red.stepT_le x
    have HZ := hid hz
    clear hz
    go_wp2_with fail
    go_cut [3] from 8 to 19 (fun sa wc => ∃ (b : Nat) (p : Option Addr) (n c : Nat) (q : Option Addr) (m d : Nat), sa = .pointer (some ⟨b, 0, none⟩) ∧ NTb W wc z.st z.A z.B b p n c q m d)
    case first =>
      have hB_1 := hid (show Below W.heap.size W W.drew from (Below.refl _ _).drew)
      refine (fun (HG : Rg _ _ 6) => wp_region_hh (S := fun w' => Below W.heap.size W w') HG rfl ?_) ⟨by kernel_rfl, by decide, by kernel_rfl, by kernel_rfl, fun _ _ d _ _ h => by cases d <;> exact h⟩
      (refine hh_take 0 HG rfl (by decide) (by kernel_rfl) (by kernel_rfl) hB_1.out (fun K hK => ?_); refine take_val ?_ (by rfl) ?_ ?_; rotate_left 1; (focus (intro wc hC; obtain ⟨s1, s2, s3⟩ := HU.out wc hC; go_simp; try rfl)); go_simp; refine hK.out _ ?_; clear hK K)
      (refine hh_take 1 HG rfl (by decide) (by kernel_rfl) (by kernel_rfl) hB_1.out (fun K hK => ?_); refine take_val ?_ (by rfl) ?_ ?_; rotate_left 1; (focus (intro wc hC; obtain ⟨s1, s2, s3⟩ := HU.out wc hC; go_simp; try rfl)); go_simp; refine hK.out _ ?_; clear hK K)
      refine hh_two 2 5 rfl rfl (by decide) (by decide) (by kernel_rfl) (fun K hK => ?_) (fun K hK => ?_)
      · skip
        (refine mid_call ?_ ?_ (by rfl) ?_ ?_; rotate_left 2; (focus (go_simp; first | done | rfl | (refine And.intro ?_ ?_ <;> rfl))))
        refine (impl_needed x.st a1 n1 c1 x.A a2 c2 x.B _ (hR.out.rA.below hB_1.out) (hR.out.rB.below hB_1.out) hR.out.n hs8).mono ?_
        rintro e V_2 ⟨al, nl, cl, rfl, hN0⟩
        have hnl2 : (Red.needT x).length = nl := hN0.1.rd.len
        have hN_3 := And.intro hN0.1 (And.intro trivial (And.intro trivial hN0.2))
        clear hN0
        refine ⟨_, rfl, ?_⟩
        have hB_4 := hid (hB_1.out.trans (hN_3.2.2.2.mono (show W.heap.size ≤ W.drew.heap.size from hB_1.out.size)))
        have NL_5 := hid (hN_3.1.rd)
        clear hN_3
        (go_simp; refine hK.out _ _ ?_ ?_ <;> clear hK K)
        · exact hB_4.out
        refine hh_two 3 5 rfl rfl (by decide) (by decide) (by kernel_rfl) (fun K hK => ?_) (fun K hK => ?_)
        · skip
          (refine mid_call ?_ ?_ (by rfl) ?_ ?_; rotate_left 2; (focus (go_simp; first | done | rfl | (refine And.intro ?_ ?_ <;> rfl))))
          refine (impl_chosen x.st a1 n1 c1 x.A a2 c2 x.B al nl cl (Red.needT x) _ (hR.out.rA.below hB_4.out) (hR.out.rB.below hB_4.out) NL_5.out hR.out.n hs8 (by rw [← hnl2]; exact Nat.le_trans hnl hs8) (Red.needT_in x)).mono ?_
          rintro e V_6 ⟨p1, m1, d1, p2, m2, d2, rfl, hN_7⟩
          obtain ⟨y, hy⟩ : ∃ y, y = Red.pickT x := ⟨_, rfl⟩
          have hys : nl = y.st := by rw [hy]; exact hnl2.symm
          have hyA : firstN (chE x.A (Red.needT x) x.st nl) (nl * nl) = y.A := by rw [hy, ← hnl2]; rfl
          have hyB : firstN (chB x.B (Red.needT x)) nl = y.B := by rw [hy, ← hnl2]; rfl
          have hm1 : m1 = nl * nl := by have h := hN_7.1.rd.len; rw [firstN_len] at h; exact h.symm
          have hm2 : m2 = nl := by have h := hN_7.2.1.rd.len; rw [firstN_len] at h; exact h.symm
          have hy8 : y.st ≤ x.st := by rw [← hys, ← hnl2]; exact hnl
          have hzy : Red.mrgT y = z := by rw [HZ.out, hy]; rfl
          rw [hyA, hyB] at hN_7
          clear hyA hyB hnl2 hy
          subst hys
          subst hm2
          have HM1 := hid hm1
          have HZY := hid hzy
          clear hm1 hzy
          refine ⟨_, rfl, ?_⟩
          have hB_8 := hid (hB_4.out.trans (hN_7.2.2.2.mono (show W.heap.size ≤ V_2.heap.size from hB_4.out.size)))
          have NL_9 := hid (NL_5.out.below hN_7.2.2.2)
          have YA_10 := hid (hN_7.1.rd)
          have YB_11 := hid (hN_7.2.1.rd)
          clear hN_7
          (go_simp; refine hK.out _ _ ?_ ?_ <;> clear hK K)
          · exact hB_8.out
          refine hh_two 4 5 rfl rfl (by decide) (by decide) (by kernel_rfl) (fun K hK => ?_) (fun K hK => ?_)
          · skip
            (refine mid_call ?_ ?_ (by rfl) ?_ ?_; rotate_left 2; (focus (go_simp; first | done | rfl | (refine And.intro ?_ ?_ <;> rfl))))
            refine (impl_merged y.st p1 m1 d1 y.A p2 d2 y.B _ YA_10.out YB_11.out HM1.out (Nat.le_trans hy8 hs8) (cls := Red.classes y.A y.st) (cn := (Red.mrgT y).st) rfl rfl).mono ?_
            rintro e V_12 ⟨q1, k1, e1, q2, k2, e2, rfl, hN_13⟩
            have hN_13 : NewT _ _ (Red.mrgT y).A (Red.mrgT y).B q1 k1 e1 q2 k2 e2 := hN_13
            rw [HZY.out] at hN_13 ⊢
            refine ⟨_, rfl, ?_⟩
            have hB_14 := hid (hB_8.out.trans (hN_13.2.2.2.mono (show W.heap.size ≤ V_6.heap.size from hB_8.out.size)))
            have NL_15 := hid (NL_9.out.below hN_13.2.2.2)
            have YA_16 := hid (YA_10.out.below hN_13.2.2.2)
            have YB_17 := hid (YB_11.out.below hN_13.2.2.2)
            have HL_18 := hid hN_13
            clear hN_13
            (go_simp; refine hK.out _ _ ?_ ?_ <;> clear hK K)
            · exact hB_14.out
            refine hh_mid 5 rfl (by decide) (by kernel_rfl) (fun K hK => ?_)
            (refine mid_val ?_ ?_ (by rfl) ?_ ?_; rotate_left 2; (focus (go_simp; first | done | rfl | (refine And.intro ?_ ?_ <;> rfl))); go_simp; refine hK.out _ _ ?_ ?_ <;> clear hK K)
            · exact (hB_14.out.alloc hB_14.out.size _)
            have hB_19 := hid (show Below W.heap.size W (V_12.alloc (.cells #[.int .i64 0, .slice none 0 0, .slice none 0 0] 27)) from hB_14.out.alloc hB_14.out.size _)
            have HZ_20 := hid (show (V_12.alloc (.cells #[.int .i64 0, .slice none 0 0, .slice none 0 0] 27)).heap[V_12.heap.size]? = some (.cells #[.int .i64 0, .slice none 0 0, .slice none 0 0] 27 (0, 0)) from bk_new V_12 #[.int .i64 0, .slice none 0 0, .slice none 0 0] 27)
            obtain ⟨⟨z0, z1, z2⟩, z3, z4, z5⟩ := blk3 HZ_20.out
            refine hh_done (by kernel_rfl) ?_
            simp only [List.drop_succ_cons, List.drop_zero]
            change wpList _ _ _ _ _ _
            go_wp2_with fail
            go_meet
            exact ⟨_, _, _, _, _, _, _, rfl, NTb.late HL_18.out hB_8.out⟩
          · skip
            (refine mid_val ?_ ?_ (by rfl) ?_ ?_; rotate_left 2; (focus (go_simp; first | done | rfl | (refine And.intro ?_ ?_ <;> rfl))); go_simp; refine hK.out _ _ ?_ ?_ <;> clear hK K)
            · exact (hB_8.out.alloc hB_8.out.size _)
            have hB_21 := hid (show Below W.heap.size W (V_6.alloc (.cells #[.int .i64 0, .slice none 0 0, .slice none 0 0] 27)) from hB_8.out.alloc hB_8.out.size _)
            have HZ_22 := hid (show (V_6.alloc (.cells #[.int .i64 0, .slice none 0 0, .slice none 0 0] 27)).heap[V_6.heap.size]? = some (.cells #[.int .i64 0, .slice none 0 0, .slice none 0 0] 27 (0, 0)) from bk_new V_6 #[.int .i64 0, .slice none 0 0, .slice none 0 0] 27)
            have NL_23 := hid (NL_9.out.alloc (.cells #[.int .i64 0, .slice none 0 0, .slice none 0 0] 27))
            have YA_24 := hid (YA_10.out.alloc (.cells #[.int .i64 0, .slice none 0 0, .slice none 0 0] 27))
            have YB_25 := hid (YB_11.out.alloc (.cells #[.int .i64 0, .slice none 0 0, .slice none 0 0] 27))
            refine hh_mid 4 rfl (by decide) (by kernel_rfl) (fun K hK => ?_)
            (refine mid_call ?_ ?_ (by rfl) ?_ ?_; rotate_left 2; (focus (go_simp; first | done | rfl | (refine And.intro ?_ ?_ <;> rfl))))
            refine (impl_merged y.st p1 m1 d1 y.A p2 d2 y.B _ YA_24.out YB_25.out HM1.out (Nat.le_trans hy8 hs8) (cls := Red.classes y.A y.st) (cn := (Red.mrgT y).st) rfl rfl).mono ?_
            rintro e V_26 ⟨q1, k1, e1, q2, k2, e2, rfl, hN_27⟩
            have hN_27 : NewT _ _ (Red.mrgT y).A (Red.mrgT y).B q1 k1 e1 q2 k2 e2 := hN_27
            rw [HZY.out] at hN_27 ⊢
            refine ⟨_, rfl, ?_⟩
            have hB_28 := hid (hB_21.out.trans (hN_27.2.2.2.mono (show W.heap.size ≤ (V_6.alloc (.cells #[.int .i64 0, .slice none 0 0, .slice none 0 0] 27)).heap.size from hB_21.out.size)))
            have HZ_29 := hid (bk_below HZ_22.out hN_27.2.2.2)
            have HE_30 := bk_lt HZ_22.out
            have NL_31 := hid (NL_23.out.below hN_27.2.2.2)
            have YA_32 := hid (YA_24.out.below hN_27.2.2.2)
            have YB_33 := hid (YB_25.out.below hN_27.2.2.2)
            have HL_34 := hid hN_27
            clear hN_27
            (go_simp; refine hK.out _ _ ?_ ?_ <;> clear hK K)
            · exact hB_28.out
            obtain ⟨⟨z0, z1, z2⟩, z3, z4, z5⟩ := blk3 HZ_29.out
            refine hh_done (by kernel_rfl) ?_
            simp only [List.drop_succ_cons, List.drop_zero]
            change wpList _ _ _ _ _ _
            go_wp2_with fail
            go_meet
            exact ⟨_, _, _, _, _, _, _, rfl, NTb.early HZ_29.out (show W.heap.size ≤ V_6.heap.size from hB_8.out.size) HE_30 HL_34.out hB_21.out⟩
        · skip
          (refine mid_val ?_ ?_ (by rfl) ?_ ?_; rotate_left 2; (focus (go_simp; first | done | rfl | (refine And.intro ?_ ?_ <;> rfl))); go_simp; refine hK.out _ _ ?_ ?_ <;> clear hK K)
          · exact (hB_4.out.alloc hB_4.out.size _)
          have hB_35 := hid (show Below W.heap.size W (V_2.alloc (.cells #[.int .i64 0, .slice none 0 0, .slice none 0 0] 27)) from hB_4.out.alloc hB_4.out.size _)
          have HZ_36 := hid (show (V_2.alloc (.cells #[.int .i64 0, .slice none 0 0, .slice none 0 0] 27)).heap[V_2.heap.size]? = some (.cells #[.int .i64 0, .slice none 0 0, .slice none 0 0] 27 (0, 0)) from bk_new V_2 #[.int .i64 0, .slice none 0 0, .slice none 0 0] 27)
          have NL_37 := hid (NL_5.out.alloc (.cells #[.int .i64 0, .slice none 0 0, .slice none 0 0] 27))
          refine hh_mid 3 rfl (by decide) (by kernel_rfl) (fun K hK => ?_)
          (refine mid_call ?_ ?_ (by rfl) ?_ ?_; rotate_left 2; (focus (go_simp; first | done | rfl | (refine And.intro ?_ ?_ <;> rfl))))
          refine (impl_chosen x.st a1 n1 c1 x.A a2 c2 x.B al nl cl (Red.needT x) _ (hR.out.rA.below hB_35.out) (hR.out.rB.below hB_35.out) NL_37.out hR.out.n hs8 (by rw [← hnl2]; exact Nat.le_trans hnl hs8) (Red.needT_in x)).mono ?_
          rintro e V_38 ⟨p1, m1, d1, p2, m2, d2, rfl, hN_39⟩
          obtain ⟨y, hy⟩ : ∃ y, y = Red.pickT x := ⟨_, rfl⟩
          have hys : nl = y.st := by rw [hy]; exact hnl2.symm
          have hyA : firstN (chE x.A (Red.needT x) x.st nl) (nl * nl) = y.A := by rw [hy, ← hnl2]; rfl
          have hyB : firstN (chB x.B (Red.needT x)) nl = y.B := by rw [hy, ← hnl2]; rfl
          have hm1 : m1 = nl * nl := by have h := hN_39.1.rd.len; rw [firstN_len] at h; exact h.symm
          have hm2 : m2 = nl := by have h := hN_39.2.1.rd.len; rw [firstN_len] at h; exact h.symm
          have hy8 : y.st ≤ x.st := by rw [← hys, ← hnl2]; exact hnl
          have hzy : Red.mrgT y = z := by rw [HZ.out, hy]; rfl
          rw [hyA, hyB] at hN_39
          clear hyA hyB hnl2 hy
          subst hys
          subst hm2
          have HM1 := hid hm1
          have HZY := hid hzy
          clear hm1 hzy
          refine ⟨_, rfl, ?_⟩
          have hB_40 := hid (hB_35.out.trans (hN_39.2.2.2.mono (show W.heap.size ≤ (V_2.alloc (.cells #[.int .i64 0, .slice none 0 0, .slice none 0 0] 27)).heap.size from hB_35.out.size)))
          have HZ_41 := hid (bk_below HZ_36.out hN_39.2.2.2)
          have NL_42 := hid (NL_37.out.below hN_39.2.2.2)
          have YA_43 := hid (hN_39.1.rd)
          have YB_44 := hid (hN_39.2.1.rd)
          clear hN_39
          (go_simp; refine hK.out _ _ ?_ ?_ <;> clear hK K)
          · exact hB_40.out
          refine hh_mid 4 rfl (by decide) (by kernel_rfl) (fun K hK => ?_)
          (refine mid_call ?_ ?_ (by rfl) ?_ ?_; rotate_left 2; (focus (go_simp; first | done | rfl | (refine And.intro ?_ ?_ <;> rfl))))
          refine (impl_merged y.st p1 m1 d1 y.A p2 d2 y.B _ YA_43.out YB_44.out HM1.out (Nat.le_trans hy8 hs8) (cls := Red.classes y.A y.st) (cn := (Red.mrgT y).st) rfl rfl).mono ?_
          rintro e V_45 ⟨q1, k1, e1, q2, k2, e2, rfl, hN_46⟩
          have hN_46 : NewT _ _ (Red.mrgT y).A (Red.mrgT y).B q1 k1 e1 q2 k2 e2 := hN_46
          rw [HZY.out] at hN_46 ⊢
          refine ⟨_, rfl, ?_⟩
          have hB_47 := hid (hB_40.out.trans (hN_46.2.2.2.mono (show W.heap.size ≤ V_38.heap.size from hB_40.out.size)))
          have HZ_48 := hid (bk_below HZ_41.out hN_46.2.2.2)
          have HE_49 := bk_lt HZ_41.out
          have NL_50 := hid (NL_42.out.below hN_46.2.2.2)
          have YA_51 := hid (YA_43.out.below hN_46.2.2.2)
          have YB_52 := hid (YB_44.out.below hN_46.2.2.2)
          have HL_53 := hid hN_46
          clear hN_46
          (go_simp; refine hK.out _ _ ?_ ?_ <;> clear hK K)
          · exact hB_47.out
          obtain ⟨⟨z0, z1, z2⟩, z3, z4, z5⟩ := blk3 HZ_48.out
          refine hh_done (by kernel_rfl) ?_
          simp only [List.drop_succ_cons, List.drop_zero]
          change wpList _ _ _ _ _ _
          go_wp2_with fail
          go_meet
          exact ⟨_, _, _, _, _, _, _, rfl, NTb.early HZ_48.out (show W.heap.size ≤ V_2.heap.size from hB_4.out.size) HE_49 HL_53.out hB_40.out⟩
      · skip
        (refine mid_val ?_ ?_ (by rfl) ?_ ?_; rotate_left 2; (focus (go_simp; first | done | rfl | (refine And.intro ?_ ?_ <;> rfl))); go_simp; refine hK.out _ _ ?_ ?_ <;> clear hK K)
        · exact (hB_1.out.alloc hB_1.out.size _)
        have hB_54 := hid (show Below W.heap.size W (W.drew.alloc (.cells #[.int .i64 0, .slice none 0 0, .slice none 0 0] 27)) from hB_1.out.alloc hB_1.out.size _)
        have HZ_55 := hid (show (W.drew.alloc (.cells #[.int .i64 0, .slice none 0 0, .slice none 0 0] 27)).heap[W.heap.size]? = some (.cells #[.int .i64 0, .slice none 0 0, .slice none 0 0] 27 (0, 0)) from bk_new W.drew #[.int .i64 0, .slice none 0 0, .slice none 0 0] 27)
        refine hh_mid 2 rfl (by decide) (by kernel_rfl) (fun K hK => ?_)
        (refine mid_call ?_ ?_ (by rfl) ?_ ?_; rotate_left 2; (focus (go_simp; first | done | rfl | (refine And.intro ?_ ?_ <;> rfl))))
        refine (impl_needed x.st a1 n1 c1 x.A a2 c2 x.B _ (hR.out.rA.below hB_54.out) (hR.out.rB.below hB_54.out) hR.out.n hs8).mono ?_
        rintro e V_56 ⟨al, nl, cl, rfl, hN0⟩
        have hnl2 : (Red.needT x).length = nl := hN0.1.rd.len
        have hN_57 := And.intro hN0.1 (And.intro trivial (And.intro trivial hN0.2))
        clear hN0
        refine ⟨_, rfl, ?_⟩
        have hB_58 := hid (hB_54.out.trans (hN_57.2.2.2.mono (show W.heap.size ≤ (W.drew.alloc (.cells #[.int .i64 0, .slice none 0 0, .slice none 0 0] 27)).heap.size from hB_54.out.size)))
        have HZ_59 := hid (bk_below HZ_55.out hN_57.2.2.2)
        have NL_60 := hid (hN_57.1.rd)
        clear hN_57
        (go_simp; refine hK.out _ _ ?_ ?_ <;> clear hK K)
        · exact hB_58.out
        refine hh_mid 3 rfl (by decide) (by kernel_rfl) (fun K hK => ?_)
        (refine mid_call ?_ ?_ (by rfl) ?_ ?_; rotate_left 2; (focus (go_simp; first | done | rfl | (refine And.intro ?_ ?_ <;> rfl))))
        refine (impl_chosen x.st a1 n1 c1 x.A a2 c2 x.B al nl cl (Red.needT x) _ (hR.out.rA.below hB_58.out) (hR.out.rB.below hB_58.out) NL_60.out hR.out.n hs8 (by rw [← hnl2]; exact Nat.le_trans hnl hs8) (Red.needT_in x)).mono ?_
        rintro e V_61 ⟨p1, m1, d1, p2, m2, d2, rfl, hN_62⟩
        obtain ⟨y, hy⟩ : ∃ y, y = Red.pickT x := ⟨_, rfl⟩
        have hys : nl = y.st := by rw [hy]; exact hnl2.symm
        have hyA : firstN (chE x.A (Red.needT x) x.st nl) (nl * nl) = y.A := by rw [hy, ← hnl2]; rfl
        have hyB : firstN (chB x.B (Red.needT x)) nl = y.B := by rw [hy, ← hnl2]; rfl
        have hm1 : m1 = nl * nl := by have h := hN_62.1.rd.len; rw [firstN_len] at h; exact h.symm
        have hm2 : m2 = nl := by have h := hN_62.2.1.rd.len; rw [firstN_len] at h; exact h.symm
        have hy8 : y.st ≤ x.st := by rw [← hys, ← hnl2]; exact hnl
        have hzy : Red.mrgT y = z := by rw [HZ.out, hy]; rfl
        rw [hyA, hyB] at hN_62
        clear hyA hyB hnl2 hy
        subst hys
        subst hm2
        have HM1 := hid hm1
        have HZY := hid hzy
        clear hm1 hzy
        refine ⟨_, rfl, ?_⟩
        have hB_63 := hid (hB_58.out.trans (hN_62.2.2.2.mono (show W.heap.size ≤ V_56.heap.size from hB_58.out.size)))
        have HZ_64 := hid (bk_below HZ_59.out hN_62.2.2.2)
        have NL_65 := hid (NL_60.out.below hN_62.2.2.2)
        have YA_66 := hid (hN_62.1.rd)
        have YB_67 := hid (hN_62.2.1.rd)
        clear hN_62
        (go_simp; refine hK.out _ _ ?_ ?_ <;> clear hK K)
        · exact hB_63.out
        refine hh_mid 4 rfl (by decide) (by kernel_rfl) (fun K hK => ?_)
        (refine mid_call ?_ ?_ (by rfl) ?_ ?_; rotate_left 2; (focus (go_simp; first | done | rfl | (refine And.intro ?_ ?_ <;> rfl))))
        refine (impl_merged y.st p1 m1 d1 y.A p2 d2 y.B _ YA_66.out YB_67.out HM1.out (Nat.le_trans hy8 hs8) (cls := Red.classes y.A y.st) (cn := (Red.mrgT y).st) rfl rfl).mono ?_
        rintro e V_68 ⟨q1, k1, e1, q2, k2, e2, rfl, hN_69⟩
        have hN_69 : NewT _ _ (Red.mrgT y).A (Red.mrgT y).B q1 k1 e1 q2 k2 e2 := hN_69
        rw [HZY.out] at hN_69 ⊢
        refine ⟨_, rfl, ?_⟩
        have hB_70 := hid (hB_63.out.trans (hN_69.2.2.2.mono (show W.heap.size ≤ V_61.heap.size from hB_63.out.size)))
        have HZ_71 := hid (bk_below HZ_64.out hN_69.2.2.2)
        have HE_72 := bk_lt HZ_64.out
        have NL_73 := hid (NL_65.out.below hN_69.2.2.2)
        have YA_74 := hid (YA_66.out.below hN_69.2.2.2)
        have YB_75 := hid (YB_67.out.below hN_69.2.2.2)
        have HL_76 := hid hN_69
        clear hN_69
        (go_simp; refine hK.out _ _ ?_ ?_ <;> clear hK K)
        · exact hB_70.out
        obtain ⟨⟨z0, z1, z2⟩, z3, z4, z5⟩ := blk3 HZ_71.out
        refine hh_done (by kernel_rfl) ?_
        simp only [List.drop_succ_cons, List.drop_zero]
        change wpList _ _ _ _ _ _
        go_wp2_with fail
        go_meet
        exact ⟨_, _, _, _, _, _, _, rfl, NTb.early HZ_71.out (show W.heap.size ≤ W.heap.size from hB_1.out.size) HE_72 HL_76.out hB_63.out⟩
    case rest =>
      obtain ⟨V, rfl⟩ : ∃ V : World, V = wc := ⟨_, rfl⟩
      obtain ⟨b, p, n, c, q, m, d, rfl, hN⟩ := hcut
      have hm : z.st = m := by rw [← hzl.2]; exact hN.nt.2.1.rd.len
      have hn : n = z.st * z.st := by rw [← hzl.1]; exact hN.nt.1.rd.len.symm
      subst hm
      have HNN := hid hn
      have HT := hid hN.nt
      have RV := hid (hR.out.below hN.nt.2.2.2)
      have z1 : w.heap.size + 1 < W.heap.size := bk_lt hR.out.res
      obtain ⟨⟨s0, s1, s2⟩, g0, g1, g2⟩ := blk3 RV.out.box
      obtain ⟨⟨r0, r1, r2⟩, _⟩ := blk3 hN.bk
      clear hN hn hzl
      by_cases hst : z.st = x.st
      · have hq : ((z.st : Int) == (x.st : Int)) = true := by rw [hst]; exact beq_self_eq_true _
        have HF := hid (show Red.red x0 = z by rw [hX.out, HZ.out]; exact Red.red_stop (by rw [← HZ.out]; exact hst))
        obtain ⟨⟨t0, t1, t2⟩, f0, f1, f2⟩ := blk3 RV.out.res
        clear hst hzs
        go_wp2_with fail
        exact ret_tab rfl rfl (heap_setCell_same _ _ _ _ _ _ (heap_setCell_same _ _ _ _ _ _ (heap_setCell_same _ _ _ _ _ _ RV.out.res))) rfl ⟨p, n, c, q, z.st, d, by rw [HF.out], by rw [HF.out]; exact newT_stores HT.out hR.out.l (Nat.le_succ _) z1 _ _ _⟩
      · have hq : ((z.st : Int) == (x.st : Int)) = false := by rw [beq_eq_false_iff_ne]; omega
        have HF := hid (show Red.red x0 = Red.red z by rw [hX.out, HZ.out]; exact Red.red_go (by rw [← HZ.out]; exact hst))
        have HNX := hid (Rr.next hR.out (Below.refl _ _) HT.out HNN.out (Nat.le_trans hzs hs8))
        have hme := hR.out.stM
        have hme2 := HNX.out.stM
        have hlt : z.st < x.st := by omega
        have HME := hid (show stM (((V.setCell ⟨w.heap.size, 0, none⟩ (.int .i64 z.st)).setCell ⟨w.heap.size, 1, none⟩ (.slice p n c)).setCell ⟨w.heap.size, 2, none⟩ (.slice q z.st d)) w.heap.size < stM W w.heap.size by rw [hme, hme2]; exact hlt)
        clear hst hzs hme hme2 hlt
        go_wp2_with fail
        go_roundw
        case rel => exact ⟨z, _, _, _, _, _, HNX, HF⟩
        case measure => exact HME.out
theorem impl_ReduceTableau_no (s : Int) (a1 : Option Addr) (n1 c1 : Nat) (A : List Int) (a2 : Option Addr) (n2 c2 : Nat) (B : List Int) (w : World) (h1 : Rd w a1 n1 c1 A) (h2 : Rd w a2 n2 c2 B) (hno : tabOk s A B = false) :
    Calls Try.prog 47 #[.agg #[.int .i64 s, .slice a1 n1 c1, .slice a2 n2 c2]] w fun e w' => ∃ p n c q m d, e = .returned (.agg #[.int .i64 0, .slice p n c, .slice q m d]) ∧ NewT w w' [] [] p n c q m d := by
  have HN := hid hno
  have S0 := hid ((St.first w #[.int .i64 s, .slice a1 n1 c1, .slice a2 n2 c2] 27).alloc (.cells #[.int .i64 0, .slice none 0 0, .slice none 0 0] 27))
  go_enter Try.func47, Try.ntmps47
  go_wp2_with fail
  refine (impl_TableauOk _ _ _ _ A _ _ _ B _ ((h1.alloc _).alloc _) ((h2.alloc _).alloc _)).mono ?_
  rw [HN.out]
  rintro e w1 ⟨rfl, hB⟩
  have S1 := hid (S0.out.step hB)
  have hr := bk_below (heap_alloc_at (w.alloc (.cells #[.int .i64 s, .slice a1 n1 c1, .slice a2 n2 c2] 27)) #[.int .i64 0, .slice none 0 0, .slice none 0 0] 27 (w.heap.size + 1) (by simp)) hB
  have HRS := hid hr
  obtain ⟨⟨r0, r1, r2⟩, f0, f1, f2⟩ := blk3 hr
  clear hB hr
  go_wp2_with fail
  obtain ⟨e1, e2⟩ := none_end S1.out.below (Nat.le_succ _) HRS.out (.int .i64 0) (.slice none 0 0) (.slice none 0 0)
  exact ret_tab rfl rfl e1 rfl ⟨_, _, _, _, _, _, rfl, e2⟩
theorem impl_ReduceTableau (s : Int) (a1 : Option Addr) (n1 c1 : Nat) (A : List Int) (a2 : Option Addr) (n2 c2 : Nat) (B : List Int) (w : World) (h1 : Rd w a1 n1 c1 A) (h2 : Rd w a2 n2 c2 B)
    {rs : Int} {rA rB : List Int} {rb : Bool} (hr : redV s A B = ⟨rs, rA, rB, rb⟩) :
    Calls Try.prog 47 #[.agg #[.int .i64 s, .slice a1 n1 c1, .slice a2 n2 c2]] w fun e w' => ∃ p n c q m' d', e = .returned (.agg #[.int .i64 rs, .slice p n c, .slice q m' d']) ∧ NewT w w' rA rB p n c q m' d' := by
  cases hok : tabOk s A B with
  | false =>
    rw [redV_no hok] at hr
    cases hr
    exact impl_ReduceTableau_no s a1 n1 c1 A a2 n2 c2 B w h1 h2 hok
  | true =>
    obtain ⟨S, rfl, hS, e1, e2, _⟩ := tabOk_parts hok h1.len h2.len
    rw [redV_yes hok] at hr
    cases hr
    subst e2
    exact impl_ReduceTableau_yes n2 a1 n1 c1 A a2 c2 B w h1 h2 hok e1 hS
end Go.Proofs.Ytekojohhjnklkaa
