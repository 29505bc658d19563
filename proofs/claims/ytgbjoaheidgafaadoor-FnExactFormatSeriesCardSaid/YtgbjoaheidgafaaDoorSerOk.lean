/- SeriesOk. -/
import Derived.Test.YtgbjoaheidgafaaDoorFieldV
import Derived.Test.YtgbjoaheidgafaaDoorRegG
namespace Go.Proofs.YtgbjoaheidgafaaDoor
open Go.RowKit

def serOk (o z : Int) (A : List Int) : Bool := decide (0 ≤ o ∧ o ≤ 6) && (M.isNum z && (decide ((A.length : Int) = trees o) && M.allNum A))
/-- The box of the argument in the worlds of the class. -/
theorem box_in {w wc : World} {x y z : Value} (h : Below (w.heap.size + 1) (w.alloc (.cells #[x, y, z] 24)) wc) :
    wc.cell? ⟨w.heap.size, 0, none⟩ = some x ∧ wc.cell? ⟨w.heap.size, 1, none⟩ = some y ∧ wc.cell? ⟨w.heap.size, 2, none⟩ = some z :=
  (blk3 ((h.block w.heap.size (by omega)).trans (bk_new w #[x, y, z] _))).1
theorem in_box {w wc : World} {O : Obj} (h : Below (w.heap.size + 1) (w.alloc O) wc) : Below w.heap.size w wc := (below_box w O).trans (h.mono (by omega))

set_option maxHeartbeats 4000000 in
theorem impl_SeriesOk (o z : Int) (a1 : Option Addr) (n1 c1 : Nat) (A : List Int) (w : World) (h1 : Rd w a1 n1 c1 A) (ht : Tc w) :
    Calls Tryd.prog 35 #[.agg #[.int .i64 o, .int .i64 z, .slice a1 n1 c1]] w fun e w' => e = .returned (.bool (serOk o z A)) ∧ Below w.heap.size w w' := by
  have hn : n1 ≤ 9223372036854775807 := Nat.le_trans h1.cap h1.max
  have H1 := hid h1
  have HT := hid ht
  have hl := h1.len
  clear h1 ht
  obtain ⟨t, htr⟩ : ∃ t, trees o = t := ⟨_, rfl⟩
  have HTR := hid htr
  have hS0 := hid (show Below (w.heap.size + 1) (w.alloc (.cells #[.int .i64 o, .int .i64 z, .slice a1 n1 c1] 24)) (w.alloc (.cells #[.int .i64 o, .int .i64 z, .slice a1 n1 c1] 24)).drew from (Below.refl _ _).drew)
  by_cases c0 : 0 ≤ o
  · have d0 : decide (0 ≤ o) = true := decide_eq_true c0
    by_cases c6 : o ≤ 6
    · have d6 : decide (o ≤ 6) = true := decide_eq_true c6
      cases hnum : M.isNum z with
      | true =>
        have HNUM := hid hnum
        clear hnum
        by_cases hle : (n1 : Int) = t
        · have q : ((n1 : Int) == t) = true := beq_iff_eq.2 hle
          have HLEN := hid (show decide ((A.length : Int) = trees o) = true by rw [hl, htr]; exact decide_eq_true hle)
          clear hle
          cases hall : M.allNum A with
          | true =>
            have HALL := hid hall
            clear hall
            have HF := hid (show serOk o z A = true by unfold serOk; rw [decide_eq_true ⟨c0, c6⟩, HNUM.out, HLEN.out, HALL.out]; rfl)
            clear hl htr
            go_enter Tryd.func35, Tryd.ntmps35
            go_wp2_with fail
            refine wp_region_calm (C := fun wc => Below (w.heap.size + 1) (w.alloc (.cells #[.int .i64 o, .int .i64 z, .slice a1 n1 c1] 24)) wc) rfl (by kernel_rfl) hS0.out ?_
            (refine quiet_stepH (fun K hK => ?_); refine q_val ?_ (by rfl) ?_ ?_; rotate_left 1; (focus (intro wc hC; skip; go_simp; try rfl)); go_simp; refine hK.out _ ?_; clear hK K)
            (refine quiet_stepH (fun K hK => ?_); refine q_val ?_ (by rfl) ?_ ?_; rotate_left 1; (focus (intro wc hC; obtain ⟨q0, q1, q2⟩ := box_in hC; go_simp; try rfl)); go_simp; refine hK.out _ ?_; clear hK K)
            (refine quiet_stepH (fun K hK => ?_); refine q_val ?_ (by rfl) ?_ ?_; rotate_left 1; (focus (intro wc hC; skip; go_simp; try rfl)); go_simp; refine hK.out _ ?_; clear hK K)
            (refine quiet_stepH (fun K hK => ?_); refine q_val ?_ (by rfl) ?_ ?_; rotate_left 1; (focus (intro wc hC; skip; go_simp; try rfl)); go_simp; refine hK.out _ ?_; clear hK K)
            (refine quiet_stepH (fun K hK => ?_); refine q_val ?_ (by rfl) ?_ ?_; rotate_left 1; (focus (intro wc hC; skip; go_simp; try rfl)); go_simp; refine hK.out _ ?_; clear hK K)
            (refine quiet_stepH (fun K hK => ?_); refine q_val ?_ (by rfl) ?_ ?_; rotate_left 1; (focus (intro wc hC; obtain ⟨q0, q1, q2⟩ := box_in hC; go_simp; try rfl)); go_simp; refine hK.out _ ?_; clear hK K)
            (refine quiet_stepH (fun K hK => ?_); refine q_val ?_ (by rfl) ?_ ?_; rotate_left 1; (focus (intro wc hC; skip; go_simp; try rfl)); go_simp; refine hK.out _ ?_; clear hK K)
            (refine quiet_stepH (fun K hK => ?_); refine q_val ?_ (by rfl) ?_ ?_; rotate_left 1; (focus (intro wc hC; skip; go_simp; try rfl)); go_simp; refine hK.out _ ?_; clear hK K)
            (refine quiet_stepH (fun K hK => ?_); refine q_val ?_ (by rfl) ?_ ?_; rotate_left 1; (focus (intro wc hC; skip; go_simp; try rfl)); go_simp; refine hK.out _ ?_; clear hK K)
            (refine quiet_stepH (fun K hK => ?_); refine q_val ?_ (by rfl) ?_ ?_; rotate_left 1; (focus (intro wc hC; skip; go_simp; try rfl)); go_simp; refine hK.out _ ?_; clear hK K)
            (refine quiet_stepH (fun K hK => ?_); refine q_val ?_ (by rfl) ?_ ?_; rotate_left 1; (focus (intro wc hC; obtain ⟨q0, q1, q2⟩ := box_in hC; go_simp; try rfl)); go_simp; refine hK.out _ ?_; clear hK K)
            (refine quiet_stepH (fun K hK => ?_); refine q_call ?_ ?_ ?_ (by rfl) ?_ ?_ ?_; rotate_left 3; (focus (intro wc hC; go_simp; first | done | rfl | (refine And.intro ?_ ?_ <;> rfl))))
            · exact fun wc hC => (impl_IsNumber _ _).mono fun e w' ⟨e1, e2⟩ => ⟨by rw [e1, HNUM.out], e2 ▸ hC⟩
            (go_simp; refine hK.out _ ?_; clear hK K)
            (refine quiet_stepH (fun K hK => ?_); refine q_val ?_ (by rfl) ?_ ?_; rotate_left 1; (focus (intro wc hC; skip; go_simp; try rfl)); go_simp; refine hK.out _ ?_; clear hK K)
            (refine quiet_stepH (fun K hK => ?_); refine q_val ?_ (by rfl) ?_ ?_; rotate_left 1; (focus (intro wc hC; skip; go_simp; try rfl)); go_simp; refine hK.out _ ?_; clear hK K)
            (refine quiet_stepH (fun K hK => ?_); refine q_val ?_ (by rfl) ?_ ?_; rotate_left 1; (focus (intro wc hC; skip; go_simp; try rfl)); go_simp; refine hK.out _ ?_; clear hK K)
            (refine quiet_stepH (fun K hK => ?_); refine q_val ?_ (by rfl) ?_ ?_; rotate_left 1; (focus (intro wc hC; obtain ⟨q0, q1, q2⟩ := box_in hC; go_simp; try rfl)); go_simp; refine hK.out _ ?_; clear hK K)
            (refine quiet_stepH (fun K hK => ?_); refine q_val ?_ (by rfl) ?_ ?_; rotate_left 1; (focus (intro wc hC; skip; go_simp; try rfl)); go_simp; refine hK.out _ ?_; clear hK K)
            (refine quiet_stepH (fun K hK => ?_); refine q_val ?_ (by rfl) ?_ ?_; rotate_left 1; (focus (intro wc hC; skip; go_simp; try rfl)); go_simp; refine hK.out _ ?_; clear hK K)
            (refine quiet_stepH (fun K hK => ?_); refine q_val ?_ (by rfl) ?_ ?_; rotate_left 1; (focus (intro wc hC; obtain ⟨q0, q1, q2⟩ := box_in hC; go_simp; try rfl)); go_simp; refine hK.out _ ?_; clear hK K)
            (refine quiet_stepH (fun K hK => ?_); refine q_call ?_ ?_ ?_ (by rfl) ?_ ?_ ?_; rotate_left 3; (focus (intro wc hC; go_simp; first | done | rfl | (refine And.intro ?_ ?_ <;> rfl))))
            · exact fun wc hC => (impl_CountTrees _ _ (HT.out.below (in_box hC))).mono fun e w' ⟨e1, e2⟩ => ⟨by rw [e1, HTR.out], e2 ▸ hC⟩
            (go_simp; refine hK.out _ ?_; clear hK K)
            (refine quiet_stepH (fun K hK => ?_); refine q_val ?_ (by rfl) ?_ ?_; rotate_left 1; (focus (intro wc hC; skip; go_simp; try rfl)); go_simp; refine hK.out _ ?_; clear hK K)
            (refine quiet_stepH (fun K hK => ?_); refine q_val ?_ (by rfl) ?_ ?_; rotate_left 1; (focus (intro wc hC; skip; go_simp; try rfl)); go_simp; refine hK.out _ ?_; clear hK K)
            (refine quiet_stepH (fun K hK => ?_); refine q_val ?_ (by rfl) ?_ ?_; rotate_left 1; (focus (intro wc hC; skip; go_simp; try rfl)); go_simp; refine hK.out _ ?_; clear hK K)
            (refine quiet_stepH (fun K hK => ?_); refine q_val ?_ (by rfl) ?_ ?_; rotate_left 1; (focus (intro wc hC; skip; go_simp; try rfl)); go_simp; refine hK.out _ ?_; clear hK K)
            (refine quiet_stepH (fun K hK => ?_); refine q_val ?_ (by rfl) ?_ ?_; rotate_left 1; (focus (intro wc hC; obtain ⟨q0, q1, q2⟩ := box_in hC; go_simp; try rfl)); go_simp; refine hK.out _ ?_; clear hK K)
            (refine quiet_stepH (fun K hK => ?_); refine q_call ?_ ?_ ?_ (by rfl) ?_ ?_ ?_; rotate_left 3; (focus (intro wc hC; go_simp; first | done | rfl | (refine And.intro ?_ ?_ <;> rfl))))
            · exact fun wc hC => (impl_allNumbers _ _ _ A _ (H1.out.below (in_box hC))).mono fun e w' ⟨e1, e2⟩ => ⟨by rw [e1, HALL.out], e2 ▸ hC⟩
            (go_simp; refine hK.out _ ?_; clear hK K)
            (refine quiet_stepH (fun K hK => ?_); refine q_val ?_ (by rfl) ?_ ?_; rotate_left 1; (focus (intro wc hC; skip; go_simp; try rfl)); go_simp; refine hK.out _ ?_; clear hK K)
            (refine quiet_stepH (fun K hK => ?_); refine q_val ?_ (by rfl) ?_ ?_; rotate_left 1; (focus (intro wc hC; skip; go_simp; try rfl)); go_simp; refine hK.out _ ?_; clear hK K)
            refine wpQuiet_nil ?_
            intro wq hq
            have HQ := hid (in_box hq)
            clear hq
            go_wp2_with fail
            go_ret
            exact ⟨ret_b HF.out.symm, HQ.out⟩
          | false =>
            have HALL := hid hall
            clear hall
            have HF := hid (show serOk o z A = false by unfold serOk; rw [decide_eq_true ⟨c0, c6⟩, HNUM.out, HLEN.out, HALL.out]; rfl)
            clear hl htr
            go_enter Tryd.func35, Tryd.ntmps35
            go_wp2_with fail
            refine wp_region_calm (C := fun wc => Below (w.heap.size + 1) (w.alloc (.cells #[.int .i64 o, .int .i64 z, .slice a1 n1 c1] 24)) wc) rfl (by kernel_rfl) hS0.out ?_
            (refine quiet_stepH (fun K hK => ?_); refine q_val ?_ (by rfl) ?_ ?_; rotate_left 1; (focus (intro wc hC; skip; go_simp; try rfl)); go_simp; refine hK.out _ ?_; clear hK K)
            (refine quiet_stepH (fun K hK => ?_); refine q_val ?_ (by rfl) ?_ ?_; rotate_left 1; (focus (intro wc hC; obtain ⟨q0, q1, q2⟩ := box_in hC; go_simp; try rfl)); go_simp; refine hK.out _ ?_; clear hK K)
            (refine quiet_stepH (fun K hK => ?_); refine q_val ?_ (by rfl) ?_ ?_; rotate_left 1; (focus (intro wc hC; skip; go_simp; try rfl)); go_simp; refine hK.out _ ?_; clear hK K)
            (refine quiet_stepH (fun K hK => ?_); refine q_val ?_ (by rfl) ?_ ?_; rotate_left 1; (focus (intro wc hC; skip; go_simp; try rfl)); go_simp; refine hK.out _ ?_; clear hK K)
            (refine quiet_stepH (fun K hK => ?_); refine q_val ?_ (by rfl) ?_ ?_; rotate_left 1; (focus (intro wc hC; skip; go_simp; try rfl)); go_simp; refine hK.out _ ?_; clear hK K)
            (refine quiet_stepH (fun K hK => ?_); refine q_val ?_ (by rfl) ?_ ?_; rotate_left 1; (focus (intro wc hC; obtain ⟨q0, q1, q2⟩ := box_in hC; go_simp; try rfl)); go_simp; refine hK.out _ ?_; clear hK K)
            (refine quiet_stepH (fun K hK => ?_); refine q_val ?_ (by rfl) ?_ ?_; rotate_left 1; (focus (intro wc hC; skip; go_simp; try rfl)); go_simp; refine hK.out _ ?_; clear hK K)
            (refine quiet_stepH (fun K hK => ?_); refine q_val ?_ (by rfl) ?_ ?_; rotate_left 1; (focus (intro wc hC; skip; go_simp; try rfl)); go_simp; refine hK.out _ ?_; clear hK K)
            (refine quiet_stepH (fun K hK => ?_); refine q_val ?_ (by rfl) ?_ ?_; rotate_left 1; (focus (intro wc hC; skip; go_simp; try rfl)); go_simp; refine hK.out _ ?_; clear hK K)
            (refine quiet_stepH (fun K hK => ?_); refine q_val ?_ (by rfl) ?_ ?_; rotate_left 1; (focus (intro wc hC; skip; go_simp; try rfl)); go_simp; refine hK.out _ ?_; clear hK K)
            (refine quiet_stepH (fun K hK => ?_); refine q_val ?_ (by rfl) ?_ ?_; rotate_left 1; (focus (intro wc hC; obtain ⟨q0, q1, q2⟩ := box_in hC; go_simp; try rfl)); go_simp; refine hK.out _ ?_; clear hK K)
            (refine quiet_stepH (fun K hK => ?_); refine q_call ?_ ?_ ?_ (by rfl) ?_ ?_ ?_; rotate_left 3; (focus (intro wc hC; go_simp; first | done | rfl | (refine And.intro ?_ ?_ <;> rfl))))
            · exact fun wc hC => (impl_IsNumber _ _).mono fun e w' ⟨e1, e2⟩ => ⟨by rw [e1, HNUM.out], e2 ▸ hC⟩
            (go_simp; refine hK.out _ ?_; clear hK K)
            (refine quiet_stepH (fun K hK => ?_); refine q_val ?_ (by rfl) ?_ ?_; rotate_left 1; (focus (intro wc hC; skip; go_simp; try rfl)); go_simp; refine hK.out _ ?_; clear hK K)
            (refine quiet_stepH (fun K hK => ?_); refine q_val ?_ (by rfl) ?_ ?_; rotate_left 1; (focus (intro wc hC; skip; go_simp; try rfl)); go_simp; refine hK.out _ ?_; clear hK K)
            (refine quiet_stepH (fun K hK => ?_); refine q_val ?_ (by rfl) ?_ ?_; rotate_left 1; (focus (intro wc hC; skip; go_simp; try rfl)); go_simp; refine hK.out _ ?_; clear hK K)
            (refine quiet_stepH (fun K hK => ?_); refine q_val ?_ (by rfl) ?_ ?_; rotate_left 1; (focus (intro wc hC; obtain ⟨q0, q1, q2⟩ := box_in hC; go_simp; try rfl)); go_simp; refine hK.out _ ?_; clear hK K)
            (refine quiet_stepH (fun K hK => ?_); refine q_val ?_ (by rfl) ?_ ?_; rotate_left 1; (focus (intro wc hC; skip; go_simp; try rfl)); go_simp; refine hK.out _ ?_; clear hK K)
            (refine quiet_stepH (fun K hK => ?_); refine q_val ?_ (by rfl) ?_ ?_; rotate_left 1; (focus (intro wc hC; skip; go_simp; try rfl)); go_simp; refine hK.out _ ?_; clear hK K)
            (refine quiet_stepH (fun K hK => ?_); refine q_val ?_ (by rfl) ?_ ?_; rotate_left 1; (focus (intro wc hC; obtain ⟨q0, q1, q2⟩ := box_in hC; go_simp; try rfl)); go_simp; refine hK.out _ ?_; clear hK K)
            (refine quiet_stepH (fun K hK => ?_); refine q_call ?_ ?_ ?_ (by rfl) ?_ ?_ ?_; rotate_left 3; (focus (intro wc hC; go_simp; first | done | rfl | (refine And.intro ?_ ?_ <;> rfl))))
            · exact fun wc hC => (impl_CountTrees _ _ (HT.out.below (in_box hC))).mono fun e w' ⟨e1, e2⟩ => ⟨by rw [e1, HTR.out], e2 ▸ hC⟩
            (go_simp; refine hK.out _ ?_; clear hK K)
            (refine quiet_stepH (fun K hK => ?_); refine q_val ?_ (by rfl) ?_ ?_; rotate_left 1; (focus (intro wc hC; skip; go_simp; try rfl)); go_simp; refine hK.out _ ?_; clear hK K)
            (refine quiet_stepH (fun K hK => ?_); refine q_val ?_ (by rfl) ?_ ?_; rotate_left 1; (focus (intro wc hC; skip; go_simp; try rfl)); go_simp; refine hK.out _ ?_; clear hK K)
            (refine quiet_stepH (fun K hK => ?_); refine q_val ?_ (by rfl) ?_ ?_; rotate_left 1; (focus (intro wc hC; skip; go_simp; try rfl)); go_simp; refine hK.out _ ?_; clear hK K)
            (refine quiet_stepH (fun K hK => ?_); refine q_val ?_ (by rfl) ?_ ?_; rotate_left 1; (focus (intro wc hC; skip; go_simp; try rfl)); go_simp; refine hK.out _ ?_; clear hK K)
            (refine quiet_stepH (fun K hK => ?_); refine q_val ?_ (by rfl) ?_ ?_; rotate_left 1; (focus (intro wc hC; obtain ⟨q0, q1, q2⟩ := box_in hC; go_simp; try rfl)); go_simp; refine hK.out _ ?_; clear hK K)
            (refine quiet_stepH (fun K hK => ?_); refine q_call ?_ ?_ ?_ (by rfl) ?_ ?_ ?_; rotate_left 3; (focus (intro wc hC; go_simp; first | done | rfl | (refine And.intro ?_ ?_ <;> rfl))))
            · exact fun wc hC => (impl_allNumbers _ _ _ A _ (H1.out.below (in_box hC))).mono fun e w' ⟨e1, e2⟩ => ⟨by rw [e1, HALL.out], e2 ▸ hC⟩
            (go_simp; refine hK.out _ ?_; clear hK K)
            (refine quiet_stepH (fun K hK => ?_); refine q_val ?_ (by rfl) ?_ ?_; rotate_left 1; (focus (intro wc hC; skip; go_simp; try rfl)); go_simp; refine hK.out _ ?_; clear hK K)
            (refine quiet_stepH (fun K hK => ?_); refine q_val ?_ (by rfl) ?_ ?_; rotate_left 1; (focus (intro wc hC; skip; go_simp; try rfl)); go_simp; refine hK.out _ ?_; clear hK K)
            refine wpQuiet_nil ?_
            intro wq hq
            have HQ := hid (in_box hq)
            clear hq
            go_wp2_with fail
            go_ret
            exact ⟨ret_b HF.out.symm, HQ.out⟩
        · have q : ((n1 : Int) == t) = false := by simpa using hle
          have HLEN := hid (show decide ((A.length : Int) = trees o) = false by rw [hl, htr]; exact decide_eq_false hle)
          clear hle
          have HF := hid (show serOk o z A = false by unfold serOk; rw [decide_eq_true ⟨c0, c6⟩, HNUM.out, HLEN.out]; rfl)
          clear hl htr
          go_enter Tryd.func35, Tryd.ntmps35
          go_wp2_with fail
          refine wp_region_calm (C := fun wc => Below (w.heap.size + 1) (w.alloc (.cells #[.int .i64 o, .int .i64 z, .slice a1 n1 c1] 24)) wc) rfl (by kernel_rfl) hS0.out ?_
          (refine quiet_stepH (fun K hK => ?_); refine q_val ?_ (by rfl) ?_ ?_; rotate_left 1; (focus (intro wc hC; skip; go_simp; try rfl)); go_simp; refine hK.out _ ?_; clear hK K)
          (refine quiet_stepH (fun K hK => ?_); refine q_val ?_ (by rfl) ?_ ?_; rotate_left 1; (focus (intro wc hC; obtain ⟨q0, q1, q2⟩ := box_in hC; go_simp; try rfl)); go_simp; refine hK.out _ ?_; clear hK K)
          (refine quiet_stepH (fun K hK => ?_); refine q_val ?_ (by rfl) ?_ ?_; rotate_left 1; (focus (intro wc hC; skip; go_simp; try rfl)); go_simp; refine hK.out _ ?_; clear hK K)
          (refine quiet_stepH (fun K hK => ?_); refine q_val ?_ (by rfl) ?_ ?_; rotate_left 1; (focus (intro wc hC; skip; go_simp; try rfl)); go_simp; refine hK.out _ ?_; clear hK K)
          (refine quiet_stepH (fun K hK => ?_); refine q_val ?_ (by rfl) ?_ ?_; rotate_left 1; (focus (intro wc hC; skip; go_simp; try rfl)); go_simp; refine hK.out _ ?_; clear hK K)
          (refine quiet_stepH (fun K hK => ?_); refine q_val ?_ (by rfl) ?_ ?_; rotate_left 1; (focus (intro wc hC; obtain ⟨q0, q1, q2⟩ := box_in hC; go_simp; try rfl)); go_simp; refine hK.out _ ?_; clear hK K)
          (refine quiet_stepH (fun K hK => ?_); refine q_val ?_ (by rfl) ?_ ?_; rotate_left 1; (focus (intro wc hC; skip; go_simp; try rfl)); go_simp; refine hK.out _ ?_; clear hK K)
          (refine quiet_stepH (fun K hK => ?_); refine q_val ?_ (by rfl) ?_ ?_; rotate_left 1; (focus (intro wc hC; skip; go_simp; try rfl)); go_simp; refine hK.out _ ?_; clear hK K)
          (refine quiet_stepH (fun K hK => ?_); refine q_val ?_ (by rfl) ?_ ?_; rotate_left 1; (focus (intro wc hC; skip; go_simp; try rfl)); go_simp; refine hK.out _ ?_; clear hK K)
          (refine quiet_stepH (fun K hK => ?_); refine q_val ?_ (by rfl) ?_ ?_; rotate_left 1; (focus (intro wc hC; skip; go_simp; try rfl)); go_simp; refine hK.out _ ?_; clear hK K)
          (refine quiet_stepH (fun K hK => ?_); refine q_val ?_ (by rfl) ?_ ?_; rotate_left 1; (focus (intro wc hC; obtain ⟨q0, q1, q2⟩ := box_in hC; go_simp; try rfl)); go_simp; refine hK.out _ ?_; clear hK K)
          (refine quiet_stepH (fun K hK => ?_); refine q_call ?_ ?_ ?_ (by rfl) ?_ ?_ ?_; rotate_left 3; (focus (intro wc hC; go_simp; first | done | rfl | (refine And.intro ?_ ?_ <;> rfl))))
          · exact fun wc hC => (impl_IsNumber _ _).mono fun e w' ⟨e1, e2⟩ => ⟨by rw [e1, HNUM.out], e2 ▸ hC⟩
          (go_simp; refine hK.out _ ?_; clear hK K)
          (refine quiet_stepH (fun K hK => ?_); refine q_val ?_ (by rfl) ?_ ?_; rotate_left 1; (focus (intro wc hC; skip; go_simp; try rfl)); go_simp; refine hK.out _ ?_; clear hK K)
          (refine quiet_stepH (fun K hK => ?_); refine q_val ?_ (by rfl) ?_ ?_; rotate_left 1; (focus (intro wc hC; skip; go_simp; try rfl)); go_simp; refine hK.out _ ?_; clear hK K)
          (refine quiet_stepH (fun K hK => ?_); refine q_val ?_ (by rfl) ?_ ?_; rotate_left 1; (focus (intro wc hC; skip; go_simp; try rfl)); go_simp; refine hK.out _ ?_; clear hK K)
          (refine quiet_stepH (fun K hK => ?_); refine q_val ?_ (by rfl) ?_ ?_; rotate_left 1; (focus (intro wc hC; obtain ⟨q0, q1, q2⟩ := box_in hC; go_simp; try rfl)); go_simp; refine hK.out _ ?_; clear hK K)
          (refine quiet_stepH (fun K hK => ?_); refine q_val ?_ (by rfl) ?_ ?_; rotate_left 1; (focus (intro wc hC; skip; go_simp; try rfl)); go_simp; refine hK.out _ ?_; clear hK K)
          (refine quiet_stepH (fun K hK => ?_); refine q_val ?_ (by rfl) ?_ ?_; rotate_left 1; (focus (intro wc hC; skip; go_simp; try rfl)); go_simp; refine hK.out _ ?_; clear hK K)
          (refine quiet_stepH (fun K hK => ?_); refine q_val ?_ (by rfl) ?_ ?_; rotate_left 1; (focus (intro wc hC; obtain ⟨q0, q1, q2⟩ := box_in hC; go_simp; try rfl)); go_simp; refine hK.out _ ?_; clear hK K)
          (refine quiet_stepH (fun K hK => ?_); refine q_call ?_ ?_ ?_ (by rfl) ?_ ?_ ?_; rotate_left 3; (focus (intro wc hC; go_simp; first | done | rfl | (refine And.intro ?_ ?_ <;> rfl))))
          · exact fun wc hC => (impl_CountTrees _ _ (HT.out.below (in_box hC))).mono fun e w' ⟨e1, e2⟩ => ⟨by rw [e1, HTR.out], e2 ▸ hC⟩
          (go_simp; refine hK.out _ ?_; clear hK K)
          (refine quiet_stepH (fun K hK => ?_); refine q_val ?_ (by rfl) ?_ ?_; rotate_left 1; (focus (intro wc hC; skip; go_simp; try rfl)); go_simp; refine hK.out _ ?_; clear hK K)
          (refine quiet_stepH (fun K hK => ?_); refine q_val ?_ (by rfl) ?_ ?_; rotate_left 1; (focus (intro wc hC; skip; go_simp; try rfl)); go_simp; refine hK.out _ ?_; clear hK K)
          (refine quiet_stepH (fun K hK => ?_); refine q_val ?_ (by rfl) ?_ ?_; rotate_left 1; (focus (intro wc hC; skip; go_simp; try rfl)); go_simp; refine hK.out _ ?_; clear hK K)
          (refine quiet_stepH (fun K hK => ?_); refine q_skip (by rfl) ?_; go_simp; refine hK.out _ ?_; clear hK K)
          (refine quiet_stepH (fun K hK => ?_); refine q_skip (by rfl) ?_; go_simp; refine hK.out _ ?_; clear hK K)
          (refine quiet_stepH (fun K hK => ?_); refine q_skip (by rfl) ?_; go_simp; refine hK.out _ ?_; clear hK K)
          (refine quiet_stepH (fun K hK => ?_); refine q_val ?_ (by rfl) ?_ ?_; rotate_left 1; (focus (intro wc hC; skip; go_simp; try rfl)); go_simp; refine hK.out _ ?_; clear hK K)
          (refine quiet_stepH (fun K hK => ?_); refine q_val ?_ (by rfl) ?_ ?_; rotate_left 1; (focus (intro wc hC; skip; go_simp; try rfl)); go_simp; refine hK.out _ ?_; clear hK K)
          refine wpQuiet_nil ?_
          intro wq hq
          have HQ := hid (in_box hq)
          clear hq
          go_wp2_with fail
          go_ret
          exact ⟨ret_b HF.out.symm, HQ.out⟩
      | false =>
        have HNUM := hid hnum
        clear hnum
        have HF := hid (show serOk o z A = false by unfold serOk; rw [decide_eq_true ⟨c0, c6⟩, HNUM.out]; rfl)
        clear hl htr
        go_enter Tryd.func35, Tryd.ntmps35
        go_wp2_with fail
        refine wp_region_calm (C := fun wc => Below (w.heap.size + 1) (w.alloc (.cells #[.int .i64 o, .int .i64 z, .slice a1 n1 c1] 24)) wc) rfl (by kernel_rfl) hS0.out ?_
        (refine quiet_stepH (fun K hK => ?_); refine q_val ?_ (by rfl) ?_ ?_; rotate_left 1; (focus (intro wc hC; skip; go_simp; try rfl)); go_simp; refine hK.out _ ?_; clear hK K)
        (refine quiet_stepH (fun K hK => ?_); refine q_val ?_ (by rfl) ?_ ?_; rotate_left 1; (focus (intro wc hC; obtain ⟨q0, q1, q2⟩ := box_in hC; go_simp; try rfl)); go_simp; refine hK.out _ ?_; clear hK K)
        (refine quiet_stepH (fun K hK => ?_); refine q_val ?_ (by rfl) ?_ ?_; rotate_left 1; (focus (intro wc hC; skip; go_simp; try rfl)); go_simp; refine hK.out _ ?_; clear hK K)
        (refine quiet_stepH (fun K hK => ?_); refine q_val ?_ (by rfl) ?_ ?_; rotate_left 1; (focus (intro wc hC; skip; go_simp; try rfl)); go_simp; refine hK.out _ ?_; clear hK K)
        (refine quiet_stepH (fun K hK => ?_); refine q_val ?_ (by rfl) ?_ ?_; rotate_left 1; (focus (intro wc hC; skip; go_simp; try rfl)); go_simp; refine hK.out _ ?_; clear hK K)
        (refine quiet_stepH (fun K hK => ?_); refine q_val ?_ (by rfl) ?_ ?_; rotate_left 1; (focus (intro wc hC; obtain ⟨q0, q1, q2⟩ := box_in hC; go_simp; try rfl)); go_simp; refine hK.out _ ?_; clear hK K)
        (refine quiet_stepH (fun K hK => ?_); refine q_val ?_ (by rfl) ?_ ?_; rotate_left 1; (focus (intro wc hC; skip; go_simp; try rfl)); go_simp; refine hK.out _ ?_; clear hK K)
        (refine quiet_stepH (fun K hK => ?_); refine q_val ?_ (by rfl) ?_ ?_; rotate_left 1; (focus (intro wc hC; skip; go_simp; try rfl)); go_simp; refine hK.out _ ?_; clear hK K)
        (refine quiet_stepH (fun K hK => ?_); refine q_val ?_ (by rfl) ?_ ?_; rotate_left 1; (focus (intro wc hC; skip; go_simp; try rfl)); go_simp; refine hK.out _ ?_; clear hK K)
        (refine quiet_stepH (fun K hK => ?_); refine q_val ?_ (by rfl) ?_ ?_; rotate_left 1; (focus (intro wc hC; skip; go_simp; try rfl)); go_simp; refine hK.out _ ?_; clear hK K)
        (refine quiet_stepH (fun K hK => ?_); refine q_val ?_ (by rfl) ?_ ?_; rotate_left 1; (focus (intro wc hC; obtain ⟨q0, q1, q2⟩ := box_in hC; go_simp; try rfl)); go_simp; refine hK.out _ ?_; clear hK K)
        (refine quiet_stepH (fun K hK => ?_); refine q_call ?_ ?_ ?_ (by rfl) ?_ ?_ ?_; rotate_left 3; (focus (intro wc hC; go_simp; first | done | rfl | (refine And.intro ?_ ?_ <;> rfl))))
        · exact fun wc hC => (impl_IsNumber _ _).mono fun e w' ⟨e1, e2⟩ => ⟨by rw [e1, HNUM.out], e2 ▸ hC⟩
        (go_simp; refine hK.out _ ?_; clear hK K)
        (refine quiet_stepH (fun K hK => ?_); refine q_val ?_ (by rfl) ?_ ?_; rotate_left 1; (focus (intro wc hC; skip; go_simp; try rfl)); go_simp; refine hK.out _ ?_; clear hK K)
        (refine quiet_stepH (fun K hK => ?_); refine q_val ?_ (by rfl) ?_ ?_; rotate_left 1; (focus (intro wc hC; skip; go_simp; try rfl)); go_simp; refine hK.out _ ?_; clear hK K)
        (refine quiet_stepH (fun K hK => ?_); refine q_skip (by rfl) ?_; go_simp; refine hK.out _ ?_; clear hK K)
        (refine quiet_stepH (fun K hK => ?_); refine q_skip (by rfl) ?_; go_simp; refine hK.out _ ?_; clear hK K)
        (refine quiet_stepH (fun K hK => ?_); refine q_skip (by rfl) ?_; go_simp; refine hK.out _ ?_; clear hK K)
        (refine quiet_stepH (fun K hK => ?_); refine q_skip (by rfl) ?_; go_simp; refine hK.out _ ?_; clear hK K)
        (refine quiet_stepH (fun K hK => ?_); refine q_skip (by rfl) ?_; go_simp; refine hK.out _ ?_; clear hK K)
        (refine quiet_stepH (fun K hK => ?_); refine q_skip (by rfl) ?_; go_simp; refine hK.out _ ?_; clear hK K)
        (refine quiet_stepH (fun K hK => ?_); refine q_skip (by rfl) ?_; go_simp; refine hK.out _ ?_; clear hK K)
        (refine quiet_stepH (fun K hK => ?_); refine q_val ?_ (by rfl) ?_ ?_; rotate_left 1; (focus (intro wc hC; skip; go_simp; try rfl)); go_simp; refine hK.out _ ?_; clear hK K)
        (refine quiet_stepH (fun K hK => ?_); refine q_val ?_ (by rfl) ?_ ?_; rotate_left 1; (focus (intro wc hC; skip; go_simp; try rfl)); go_simp; refine hK.out _ ?_; clear hK K)
        (refine quiet_stepH (fun K hK => ?_); refine q_skip (by rfl) ?_; go_simp; refine hK.out _ ?_; clear hK K)
        (refine quiet_stepH (fun K hK => ?_); refine q_skip (by rfl) ?_; go_simp; refine hK.out _ ?_; clear hK K)
        (refine quiet_stepH (fun K hK => ?_); refine q_skip (by rfl) ?_; go_simp; refine hK.out _ ?_; clear hK K)
        (refine quiet_stepH (fun K hK => ?_); refine q_val ?_ (by rfl) ?_ ?_; rotate_left 1; (focus (intro wc hC; skip; go_simp; try rfl)); go_simp; refine hK.out _ ?_; clear hK K)
        (refine quiet_stepH (fun K hK => ?_); refine q_val ?_ (by rfl) ?_ ?_; rotate_left 1; (focus (intro wc hC; skip; go_simp; try rfl)); go_simp; refine hK.out _ ?_; clear hK K)
        refine wpQuiet_nil ?_
        intro wq hq
        have HQ := hid (in_box hq)
        clear hq
        go_wp2_with fail
        go_ret
        exact ⟨ret_b HF.out.symm, HQ.out⟩
    · have d6 : decide (o ≤ 6) = false := decide_eq_false c6
      have HF := hid (show serOk o z A = false by unfold serOk; rw [decide_eq_false (fun h => c6 h.2)]; rfl)
      clear hl htr
      go_enter Tryd.func35, Tryd.ntmps35
      go_wp2_with fail
      refine wp_region_calm (C := fun wc => Below (w.heap.size + 1) (w.alloc (.cells #[.int .i64 o, .int .i64 z, .slice a1 n1 c1] 24)) wc) rfl (by kernel_rfl) hS0.out ?_
      (refine quiet_stepH (fun K hK => ?_); refine q_val ?_ (by rfl) ?_ ?_; rotate_left 1; (focus (intro wc hC; skip; go_simp; try rfl)); go_simp; refine hK.out _ ?_; clear hK K)
      (refine quiet_stepH (fun K hK => ?_); refine q_val ?_ (by rfl) ?_ ?_; rotate_left 1; (focus (intro wc hC; obtain ⟨q0, q1, q2⟩ := box_in hC; go_simp; try rfl)); go_simp; refine hK.out _ ?_; clear hK K)
      (refine quiet_stepH (fun K hK => ?_); refine q_val ?_ (by rfl) ?_ ?_; rotate_left 1; (focus (intro wc hC; skip; go_simp; try rfl)); go_simp; refine hK.out _ ?_; clear hK K)
      (refine quiet_stepH (fun K hK => ?_); refine q_val ?_ (by rfl) ?_ ?_; rotate_left 1; (focus (intro wc hC; skip; go_simp; try rfl)); go_simp; refine hK.out _ ?_; clear hK K)
      (refine quiet_stepH (fun K hK => ?_); refine q_val ?_ (by rfl) ?_ ?_; rotate_left 1; (focus (intro wc hC; skip; go_simp; try rfl)); go_simp; refine hK.out _ ?_; clear hK K)
      (refine quiet_stepH (fun K hK => ?_); refine q_val ?_ (by rfl) ?_ ?_; rotate_left 1; (focus (intro wc hC; obtain ⟨q0, q1, q2⟩ := box_in hC; go_simp; try rfl)); go_simp; refine hK.out _ ?_; clear hK K)
      (refine quiet_stepH (fun K hK => ?_); refine q_val ?_ (by rfl) ?_ ?_; rotate_left 1; (focus (intro wc hC; skip; go_simp; try rfl)); go_simp; refine hK.out _ ?_; clear hK K)
      (refine quiet_stepH (fun K hK => ?_); refine q_val ?_ (by rfl) ?_ ?_; rotate_left 1; (focus (intro wc hC; skip; go_simp; try rfl)); go_simp; refine hK.out _ ?_; clear hK K)
      (refine quiet_stepH (fun K hK => ?_); refine q_val ?_ (by rfl) ?_ ?_; rotate_left 1; (focus (intro wc hC; skip; go_simp; try rfl)); go_simp; refine hK.out _ ?_; clear hK K)
      (refine quiet_stepH (fun K hK => ?_); refine q_skip (by rfl) ?_; go_simp; refine hK.out _ ?_; clear hK K)
      (refine quiet_stepH (fun K hK => ?_); refine q_skip (by rfl) ?_; go_simp; refine hK.out _ ?_; clear hK K)
      (refine quiet_stepH (fun K hK => ?_); refine q_skip (by rfl) ?_; go_simp; refine hK.out _ ?_; clear hK K)
      (refine quiet_stepH (fun K hK => ?_); refine q_val ?_ (by rfl) ?_ ?_; rotate_left 1; (focus (intro wc hC; skip; go_simp; try rfl)); go_simp; refine hK.out _ ?_; clear hK K)
      (refine quiet_stepH (fun K hK => ?_); refine q_val ?_ (by rfl) ?_ ?_; rotate_left 1; (focus (intro wc hC; skip; go_simp; try rfl)); go_simp; refine hK.out _ ?_; clear hK K)
      (refine quiet_stepH (fun K hK => ?_); refine q_skip (by rfl) ?_; go_simp; refine hK.out _ ?_; clear hK K)
      (refine quiet_stepH (fun K hK => ?_); refine q_skip (by rfl) ?_; go_simp; refine hK.out _ ?_; clear hK K)
      (refine quiet_stepH (fun K hK => ?_); refine q_skip (by rfl) ?_; go_simp; refine hK.out _ ?_; clear hK K)
      (refine quiet_stepH (fun K hK => ?_); refine q_skip (by rfl) ?_; go_simp; refine hK.out _ ?_; clear hK K)
      (refine quiet_stepH (fun K hK => ?_); refine q_skip (by rfl) ?_; go_simp; refine hK.out _ ?_; clear hK K)
      (refine quiet_stepH (fun K hK => ?_); refine q_skip (by rfl) ?_; go_simp; refine hK.out _ ?_; clear hK K)
      (refine quiet_stepH (fun K hK => ?_); refine q_skip (by rfl) ?_; go_simp; refine hK.out _ ?_; clear hK K)
      (refine quiet_stepH (fun K hK => ?_); refine q_val ?_ (by rfl) ?_ ?_; rotate_left 1; (focus (intro wc hC; skip; go_simp; try rfl)); go_simp; refine hK.out _ ?_; clear hK K)
      (refine quiet_stepH (fun K hK => ?_); refine q_val ?_ (by rfl) ?_ ?_; rotate_left 1; (focus (intro wc hC; skip; go_simp; try rfl)); go_simp; refine hK.out _ ?_; clear hK K)
      (refine quiet_stepH (fun K hK => ?_); refine q_skip (by rfl) ?_; go_simp; refine hK.out _ ?_; clear hK K)
      (refine quiet_stepH (fun K hK => ?_); refine q_skip (by rfl) ?_; go_simp; refine hK.out _ ?_; clear hK K)
      (refine quiet_stepH (fun K hK => ?_); refine q_skip (by rfl) ?_; go_simp; refine hK.out _ ?_; clear hK K)
      (refine quiet_stepH (fun K hK => ?_); refine q_val ?_ (by rfl) ?_ ?_; rotate_left 1; (focus (intro wc hC; skip; go_simp; try rfl)); go_simp; refine hK.out _ ?_; clear hK K)
      (refine quiet_stepH (fun K hK => ?_); refine q_val ?_ (by rfl) ?_ ?_; rotate_left 1; (focus (intro wc hC; skip; go_simp; try rfl)); go_simp; refine hK.out _ ?_; clear hK K)
      refine wpQuiet_nil ?_
      intro wq hq
      have HQ := hid (in_box hq)
      clear hq
      go_wp2_with fail
      go_ret
      exact ⟨ret_b HF.out.symm, HQ.out⟩
  · have d0 : decide (0 ≤ o) = false := decide_eq_false c0
    have HF := hid (show serOk o z A = false by unfold serOk; rw [decide_eq_false (fun h => c0 h.1)]; rfl)
    clear hl htr
    go_enter Tryd.func35, Tryd.ntmps35
    go_wp2_with fail
    refine wp_region_calm (C := fun wc => Below (w.heap.size + 1) (w.alloc (.cells #[.int .i64 o, .int .i64 z, .slice a1 n1 c1] 24)) wc) rfl (by kernel_rfl) hS0.out ?_
    (refine quiet_stepH (fun K hK => ?_); refine q_val ?_ (by rfl) ?_ ?_; rotate_left 1; (focus (intro wc hC; skip; go_simp; try rfl)); go_simp; refine hK.out _ ?_; clear hK K)
    (refine quiet_stepH (fun K hK => ?_); refine q_val ?_ (by rfl) ?_ ?_; rotate_left 1; (focus (intro wc hC; obtain ⟨q0, q1, q2⟩ := box_in hC; go_simp; try rfl)); go_simp; refine hK.out _ ?_; clear hK K)
    (refine quiet_stepH (fun K hK => ?_); refine q_val ?_ (by rfl) ?_ ?_; rotate_left 1; (focus (intro wc hC; skip; go_simp; try rfl)); go_simp; refine hK.out _ ?_; clear hK K)
    (refine quiet_stepH (fun K hK => ?_); refine q_val ?_ (by rfl) ?_ ?_; rotate_left 1; (focus (intro wc hC; skip; go_simp; try rfl)); go_simp; refine hK.out _ ?_; clear hK K)
    (refine quiet_stepH (fun K hK => ?_); refine q_skip (by rfl) ?_; go_simp; refine hK.out _ ?_; clear hK K)
    (refine quiet_stepH (fun K hK => ?_); refine q_skip (by rfl) ?_; go_simp; refine hK.out _ ?_; clear hK K)
    (refine quiet_stepH (fun K hK => ?_); refine q_skip (by rfl) ?_; go_simp; refine hK.out _ ?_; clear hK K)
    (refine quiet_stepH (fun K hK => ?_); refine q_val ?_ (by rfl) ?_ ?_; rotate_left 1; (focus (intro wc hC; skip; go_simp; try rfl)); go_simp; refine hK.out _ ?_; clear hK K)
    (refine quiet_stepH (fun K hK => ?_); refine q_val ?_ (by rfl) ?_ ?_; rotate_left 1; (focus (intro wc hC; skip; go_simp; try rfl)); go_simp; refine hK.out _ ?_; clear hK K)
    (refine quiet_stepH (fun K hK => ?_); refine q_skip (by rfl) ?_; go_simp; refine hK.out _ ?_; clear hK K)
    (refine quiet_stepH (fun K hK => ?_); refine q_skip (by rfl) ?_; go_simp; refine hK.out _ ?_; clear hK K)
    (refine quiet_stepH (fun K hK => ?_); refine q_skip (by rfl) ?_; go_simp; refine hK.out _ ?_; clear hK K)
    (refine quiet_stepH (fun K hK => ?_); refine q_val ?_ (by rfl) ?_ ?_; rotate_left 1; (focus (intro wc hC; skip; go_simp; try rfl)); go_simp; refine hK.out _ ?_; clear hK K)
    (refine quiet_stepH (fun K hK => ?_); refine q_val ?_ (by rfl) ?_ ?_; rotate_left 1; (focus (intro wc hC; skip; go_simp; try rfl)); go_simp; refine hK.out _ ?_; clear hK K)
    (refine quiet_stepH (fun K hK => ?_); refine q_skip (by rfl) ?_; go_simp; refine hK.out _ ?_; clear hK K)
    (refine quiet_stepH (fun K hK => ?_); refine q_skip (by rfl) ?_; go_simp; refine hK.out _ ?_; clear hK K)
    (refine quiet_stepH (fun K hK => ?_); refine q_skip (by rfl) ?_; go_simp; refine hK.out _ ?_; clear hK K)
    (refine quiet_stepH (fun K hK => ?_); refine q_skip (by rfl) ?_; go_simp; refine hK.out _ ?_; clear hK K)
    (refine quiet_stepH (fun K hK => ?_); refine q_skip (by rfl) ?_; go_simp; refine hK.out _ ?_; clear hK K)
    (refine quiet_stepH (fun K hK => ?_); refine q_skip (by rfl) ?_; go_simp; refine hK.out _ ?_; clear hK K)
    (refine quiet_stepH (fun K hK => ?_); refine q_skip (by rfl) ?_; go_simp; refine hK.out _ ?_; clear hK K)
    (refine quiet_stepH (fun K hK => ?_); refine q_val ?_ (by rfl) ?_ ?_; rotate_left 1; (focus (intro wc hC; skip; go_simp; try rfl)); go_simp; refine hK.out _ ?_; clear hK K)
    (refine quiet_stepH (fun K hK => ?_); refine q_val ?_ (by rfl) ?_ ?_; rotate_left 1; (focus (intro wc hC; skip; go_simp; try rfl)); go_simp; refine hK.out _ ?_; clear hK K)
    (refine quiet_stepH (fun K hK => ?_); refine q_skip (by rfl) ?_; go_simp; refine hK.out _ ?_; clear hK K)
    (refine quiet_stepH (fun K hK => ?_); refine q_skip (by rfl) ?_; go_simp; refine hK.out _ ?_; clear hK K)
    (refine quiet_stepH (fun K hK => ?_); refine q_skip (by rfl) ?_; go_simp; refine hK.out _ ?_; clear hK K)
    (refine quiet_stepH (fun K hK => ?_); refine q_val ?_ (by rfl) ?_ ?_; rotate_left 1; (focus (intro wc hC; skip; go_simp; try rfl)); go_simp; refine hK.out _ ?_; clear hK K)
    (refine quiet_stepH (fun K hK => ?_); refine q_val ?_ (by rfl) ?_ ?_; rotate_left 1; (focus (intro wc hC; skip; go_simp; try rfl)); go_simp; refine hK.out _ ?_; clear hK K)
    refine wpQuiet_nil ?_
    intro wq hq
    have HQ := hid (in_box hq)
    clear hq
    go_wp2_with fail
    go_ret
    exact ⟨ret_b HF.out.symm, HQ.out⟩
set_option maxHeartbeats 4000000 in
theorem spec_SeriesOk (o z : Int) (a1 : Option Addr) (n1 c1 : Nat) (A : List Int) (w : World) (h1 : Rd w a1 n1 c1 A) (ht : Tc w) :
    Calls Tryd.prog 33 #[.agg #[.int .i64 o, .int .i64 z, .slice a1 n1 c1]] w fun e w' => e = .returned (.bool (serOk o z A)) ∧ Below w.heap.size w w' := by
  have hn : n1 ≤ 9223372036854775807 := Nat.le_trans h1.cap h1.max
  have H1 := hid h1
  have HT := hid ht
  have hl := h1.len
  clear h1 ht
  obtain ⟨t, htr⟩ : ∃ t, trees o = t := ⟨_, rfl⟩
  have HTR := hid htr
  have hS0 := hid (show Below (w.heap.size + 1) (w.alloc (.cells #[.int .i64 o, .int .i64 z, .slice a1 n1 c1] 24)) (w.alloc (.cells #[.int .i64 o, .int .i64 z, .slice a1 n1 c1] 24)).drew from (Below.refl _ _).drew)
  by_cases c : 0 ≤ o ∧ o ≤ 6
  · obtain ⟨c0, c6⟩ := c
    have DIN : inB o 0 6 = true := decide_eq_true ⟨c0, c6⟩
    cases hnum : M.isNum z with
    | true =>
      have HNUM := hid hnum
      clear hnum
      by_cases hle : (n1 : Int) = t
      · have q : ((n1 : Int) == t) = true := beq_iff_eq.2 hle
        have HLEN := hid (show decide ((A.length : Int) = trees o) = true by rw [hl, htr]; exact decide_eq_true hle)
        clear hle
        cases hall : M.allNum A with
        | true =>
          have HALL := hid hall
          clear hall
          have HF := hid (show serOk o z A = true by unfold serOk; rw [decide_eq_true ⟨c0, c6⟩, HNUM.out, HLEN.out, HALL.out]; rfl)
          clear hl htr
          go_enter Tryd.func33, Tryd.ntmps33
          go_wp2_with fail
          refine wp_region_calm (C := fun wc => Below (w.heap.size + 1) (w.alloc (.cells #[.int .i64 o, .int .i64 z, .slice a1 n1 c1] 24)) wc) rfl (by kernel_rfl) hS0.out ?_
          (refine quiet_stepH (fun K hK => ?_); refine q_val ?_ (by rfl) ?_ ?_; rotate_left 1; (focus (intro wc hC; skip; go_simp; try rfl)); go_simp; refine hK.out _ ?_; clear hK K)
          (refine quiet_stepH (fun K hK => ?_); refine q_val ?_ (by rfl) ?_ ?_; rotate_left 1; (focus (intro wc hC; obtain ⟨q0, q1, q2⟩ := box_in hC; go_simp; try rfl)); go_simp; refine hK.out _ ?_; clear hK K)
          (refine quiet_stepH (fun K hK => ?_); refine q_call ?_ ?_ ?_ (by rfl) ?_ ?_ ?_; rotate_left 3; (focus (intro wc hC; go_simp; first | done | rfl | (refine And.intro ?_ ?_ <;> rfl))))
          · exact fun wc hC => (spec_l1In _ _ _ _).mono fun e w' ⟨e1, e2⟩ => ⟨by rw [e1, DIN], e2 ▸ hC⟩
          (go_simp; refine hK.out _ ?_; clear hK K)
          (refine quiet_stepH (fun K hK => ?_); refine q_val ?_ (by rfl) ?_ ?_; rotate_left 1; (focus (intro wc hC; skip; go_simp; try rfl)); go_simp; refine hK.out _ ?_; clear hK K)
          (refine quiet_stepH (fun K hK => ?_); refine q_val ?_ (by rfl) ?_ ?_; rotate_left 1; (focus (intro wc hC; skip; go_simp; try rfl)); go_simp; refine hK.out _ ?_; clear hK K)
          (refine quiet_stepH (fun K hK => ?_); refine q_val ?_ (by rfl) ?_ ?_; rotate_left 1; (focus (intro wc hC; obtain ⟨q0, q1, q2⟩ := box_in hC; go_simp; try rfl)); go_simp; refine hK.out _ ?_; clear hK K)
          (refine quiet_stepH (fun K hK => ?_); refine q_call ?_ ?_ ?_ (by rfl) ?_ ?_ ?_; rotate_left 3; (focus (intro wc hC; go_simp; first | done | rfl | (refine And.intro ?_ ?_ <;> rfl))))
          · exact fun wc hC => (spec_IsNumber _ _).mono fun e w' ⟨e1, e2⟩ => ⟨by rw [e1, HNUM.out], e2 ▸ hC⟩
          (go_simp; refine hK.out _ ?_; clear hK K)
          (refine quiet_stepH (fun K hK => ?_); refine q_val ?_ (by rfl) ?_ ?_; rotate_left 1; (focus (intro wc hC; skip; go_simp; try rfl)); go_simp; refine hK.out _ ?_; clear hK K)
          (refine quiet_stepH (fun K hK => ?_); refine q_val ?_ (by rfl) ?_ ?_; rotate_left 1; (focus (intro wc hC; skip; go_simp; try rfl)); go_simp; refine hK.out _ ?_; clear hK K)
          (refine quiet_stepH (fun K hK => ?_); refine q_val ?_ (by rfl) ?_ ?_; rotate_left 1; (focus (intro wc hC; skip; go_simp; try rfl)); go_simp; refine hK.out _ ?_; clear hK K)
          (refine quiet_stepH (fun K hK => ?_); refine q_val ?_ (by rfl) ?_ ?_; rotate_left 1; (focus (intro wc hC; obtain ⟨q0, q1, q2⟩ := box_in hC; go_simp; try rfl)); go_simp; refine hK.out _ ?_; clear hK K)
          (refine quiet_stepH (fun K hK => ?_); refine q_val ?_ (by rfl) ?_ ?_; rotate_left 1; (focus (intro wc hC; skip; go_simp; try rfl)); go_simp; refine hK.out _ ?_; clear hK K)
          (refine quiet_stepH (fun K hK => ?_); refine q_val ?_ (by rfl) ?_ ?_; rotate_left 1; (focus (intro wc hC; skip; go_simp; try rfl)); go_simp; refine hK.out _ ?_; clear hK K)
          (refine quiet_stepH (fun K hK => ?_); refine q_val ?_ (by rfl) ?_ ?_; rotate_left 1; (focus (intro wc hC; obtain ⟨q0, q1, q2⟩ := box_in hC; go_simp; try rfl)); go_simp; refine hK.out _ ?_; clear hK K)
          (refine quiet_stepH (fun K hK => ?_); refine q_call ?_ ?_ ?_ (by rfl) ?_ ?_ ?_; rotate_left 3; (focus (intro wc hC; go_simp; first | done | rfl | (refine And.intro ?_ ?_ <;> rfl))))
          · exact fun wc hC => (spec_CountTrees _ _).mono fun e w' ⟨e1, e2⟩ => ⟨by rw [e1, HTR.out], hC.trans (e2.mono (by simpa using hC.size))⟩
          (go_simp; refine hK.out _ ?_; clear hK K)
          (refine quiet_stepH (fun K hK => ?_); refine q_val ?_ (by rfl) ?_ ?_; rotate_left 1; (focus (intro wc hC; skip; go_simp; try rfl)); go_simp; refine hK.out _ ?_; clear hK K)
          (refine quiet_stepH (fun K hK => ?_); refine q_val ?_ (by rfl) ?_ ?_; rotate_left 1; (focus (intro wc hC; skip; go_simp; try rfl)); go_simp; refine hK.out _ ?_; clear hK K)
          (refine quiet_stepH (fun K hK => ?_); refine q_val ?_ (by rfl) ?_ ?_; rotate_left 1; (focus (intro wc hC; skip; go_simp; try rfl)); go_simp; refine hK.out _ ?_; clear hK K)
          (refine quiet_stepH (fun K hK => ?_); refine q_val ?_ (by rfl) ?_ ?_; rotate_left 1; (focus (intro wc hC; skip; go_simp; try rfl)); go_simp; refine hK.out _ ?_; clear hK K)
          (refine quiet_stepH (fun K hK => ?_); refine q_val ?_ (by rfl) ?_ ?_; rotate_left 1; (focus (intro wc hC; obtain ⟨q0, q1, q2⟩ := box_in hC; go_simp; try rfl)); go_simp; refine hK.out _ ?_; clear hK K)
          (refine quiet_stepH (fun K hK => ?_); refine q_call ?_ ?_ ?_ (by rfl) ?_ ?_ ?_; rotate_left 3; (focus (intro wc hC; go_simp; first | done | rfl | (refine And.intro ?_ ?_ <;> rfl))))
          · exact fun wc hC => (spec_l1All _ _ _ A _ (H1.out.below (in_box hC))).mono fun e w' ⟨e1, e2⟩ => ⟨by rw [e1, HALL.out], e2 ▸ hC⟩
          (go_simp; refine hK.out _ ?_; clear hK K)
          (refine quiet_stepH (fun K hK => ?_); refine q_val ?_ (by rfl) ?_ ?_; rotate_left 1; (focus (intro wc hC; skip; go_simp; try rfl)); go_simp; refine hK.out _ ?_; clear hK K)
          (refine quiet_stepH (fun K hK => ?_); refine q_val ?_ (by rfl) ?_ ?_; rotate_left 1; (focus (intro wc hC; skip; go_simp; try rfl)); go_simp; refine hK.out _ ?_; clear hK K)
          refine wpQuiet_nil ?_
          intro wq hq
          have HQ := hid (in_box hq)
          clear hq
          go_wp2_with fail
          go_ret
          exact ⟨ret_b HF.out.symm, HQ.out⟩
        | false =>
          have HALL := hid hall
          clear hall
          have HF := hid (show serOk o z A = false by unfold serOk; rw [decide_eq_true ⟨c0, c6⟩, HNUM.out, HLEN.out, HALL.out]; rfl)
          clear hl htr
          go_enter Tryd.func33, Tryd.ntmps33
          go_wp2_with fail
          refine wp_region_calm (C := fun wc => Below (w.heap.size + 1) (w.alloc (.cells #[.int .i64 o, .int .i64 z, .slice a1 n1 c1] 24)) wc) rfl (by kernel_rfl) hS0.out ?_
          (refine quiet_stepH (fun K hK => ?_); refine q_val ?_ (by rfl) ?_ ?_; rotate_left 1; (focus (intro wc hC; skip; go_simp; try rfl)); go_simp; refine hK.out _ ?_; clear hK K)
          (refine quiet_stepH (fun K hK => ?_); refine q_val ?_ (by rfl) ?_ ?_; rotate_left 1; (focus (intro wc hC; obtain ⟨q0, q1, q2⟩ := box_in hC; go_simp; try rfl)); go_simp; refine hK.out _ ?_; clear hK K)
          (refine quiet_stepH (fun K hK => ?_); refine q_call ?_ ?_ ?_ (by rfl) ?_ ?_ ?_; rotate_left 3; (focus (intro wc hC; go_simp; first | done | rfl | (refine And.intro ?_ ?_ <;> rfl))))
          · exact fun wc hC => (spec_l1In _ _ _ _).mono fun e w' ⟨e1, e2⟩ => ⟨by rw [e1, DIN], e2 ▸ hC⟩
          (go_simp; refine hK.out _ ?_; clear hK K)
          (refine quiet_stepH (fun K hK => ?_); refine q_val ?_ (by rfl) ?_ ?_; rotate_left 1; (focus (intro wc hC; skip; go_simp; try rfl)); go_simp; refine hK.out _ ?_; clear hK K)
          (refine quiet_stepH (fun K hK => ?_); refine q_val ?_ (by rfl) ?_ ?_; rotate_left 1; (focus (intro wc hC; skip; go_simp; try rfl)); go_simp; refine hK.out _ ?_; clear hK K)
          (refine quiet_stepH (fun K hK => ?_); refine q_val ?_ (by rfl) ?_ ?_; rotate_left 1; (focus (intro wc hC; obtain ⟨q0, q1, q2⟩ := box_in hC; go_simp; try rfl)); go_simp; refine hK.out _ ?_; clear hK K)
          (refine quiet_stepH (fun K hK => ?_); refine q_call ?_ ?_ ?_ (by rfl) ?_ ?_ ?_; rotate_left 3; (focus (intro wc hC; go_simp; first | done | rfl | (refine And.intro ?_ ?_ <;> rfl))))
          · exact fun wc hC => (spec_IsNumber _ _).mono fun e w' ⟨e1, e2⟩ => ⟨by rw [e1, HNUM.out], e2 ▸ hC⟩
          (go_simp; refine hK.out _ ?_; clear hK K)
          (refine quiet_stepH (fun K hK => ?_); refine q_val ?_ (by rfl) ?_ ?_; rotate_left 1; (focus (intro wc hC; skip; go_simp; try rfl)); go_simp; refine hK.out _ ?_; clear hK K)
          (refine quiet_stepH (fun K hK => ?_); refine q_val ?_ (by rfl) ?_ ?_; rotate_left 1; (focus (intro wc hC; skip; go_simp; try rfl)); go_simp; refine hK.out _ ?_; clear hK K)
          (refine quiet_stepH (fun K hK => ?_); refine q_val ?_ (by rfl) ?_ ?_; rotate_left 1; (focus (intro wc hC; skip; go_simp; try rfl)); go_simp; refine hK.out _ ?_; clear hK K)
          (refine quiet_stepH (fun K hK => ?_); refine q_val ?_ (by rfl) ?_ ?_; rotate_left 1; (focus (intro wc hC; obtain ⟨q0, q1, q2⟩ := box_in hC; go_simp; try rfl)); go_simp; refine hK.out _ ?_; clear hK K)
          (refine quiet_stepH (fun K hK => ?_); refine q_val ?_ (by rfl) ?_ ?_; rotate_left 1; (focus (intro wc hC; skip; go_simp; try rfl)); go_simp; refine hK.out _ ?_; clear hK K)
          (refine quiet_stepH (fun K hK => ?_); refine q_val ?_ (by rfl) ?_ ?_; rotate_left 1; (focus (intro wc hC; skip; go_simp; try rfl)); go_simp; refine hK.out _ ?_; clear hK K)
          (refine quiet_stepH (fun K hK => ?_); refine q_val ?_ (by rfl) ?_ ?_; rotate_left 1; (focus (intro wc hC; obtain ⟨q0, q1, q2⟩ := box_in hC; go_simp; try rfl)); go_simp; refine hK.out _ ?_; clear hK K)
          (refine quiet_stepH (fun K hK => ?_); refine q_call ?_ ?_ ?_ (by rfl) ?_ ?_ ?_; rotate_left 3; (focus (intro wc hC; go_simp; first | done | rfl | (refine And.intro ?_ ?_ <;> rfl))))
          · exact fun wc hC => (spec_CountTrees _ _).mono fun e w' ⟨e1, e2⟩ => ⟨by rw [e1, HTR.out], hC.trans (e2.mono (by simpa using hC.size))⟩
          (go_simp; refine hK.out _ ?_; clear hK K)
          (refine quiet_stepH (fun K hK => ?_); refine q_val ?_ (by rfl) ?_ ?_; rotate_left 1; (focus (intro wc hC; skip; go_simp; try rfl)); go_simp; refine hK.out _ ?_; clear hK K)
          (refine quiet_stepH (fun K hK => ?_); refine q_val ?_ (by rfl) ?_ ?_; rotate_left 1; (focus (intro wc hC; skip; go_simp; try rfl)); go_simp; refine hK.out _ ?_; clear hK K)
          (refine quiet_stepH (fun K hK => ?_); refine q_val ?_ (by rfl) ?_ ?_; rotate_left 1; (focus (intro wc hC; skip; go_simp; try rfl)); go_simp; refine hK.out _ ?_; clear hK K)
          (refine quiet_stepH (fun K hK => ?_); refine q_val ?_ (by rfl) ?_ ?_; rotate_left 1; (focus (intro wc hC; skip; go_simp; try rfl)); go_simp; refine hK.out _ ?_; clear hK K)
          (refine quiet_stepH (fun K hK => ?_); refine q_val ?_ (by rfl) ?_ ?_; rotate_left 1; (focus (intro wc hC; obtain ⟨q0, q1, q2⟩ := box_in hC; go_simp; try rfl)); go_simp; refine hK.out _ ?_; clear hK K)
          (refine quiet_stepH (fun K hK => ?_); refine q_call ?_ ?_ ?_ (by rfl) ?_ ?_ ?_; rotate_left 3; (focus (intro wc hC; go_simp; first | done | rfl | (refine And.intro ?_ ?_ <;> rfl))))
          · exact fun wc hC => (spec_l1All _ _ _ A _ (H1.out.below (in_box hC))).mono fun e w' ⟨e1, e2⟩ => ⟨by rw [e1, HALL.out], e2 ▸ hC⟩
          (go_simp; refine hK.out _ ?_; clear hK K)
          (refine quiet_stepH (fun K hK => ?_); refine q_val ?_ (by rfl) ?_ ?_; rotate_left 1; (focus (intro wc hC; skip; go_simp; try rfl)); go_simp; refine hK.out _ ?_; clear hK K)
          (refine quiet_stepH (fun K hK => ?_); refine q_val ?_ (by rfl) ?_ ?_; rotate_left 1; (focus (intro wc hC; skip; go_simp; try rfl)); go_simp; refine hK.out _ ?_; clear hK K)
          refine wpQuiet_nil ?_
          intro wq hq
          have HQ := hid (in_box hq)
          clear hq
          go_wp2_with fail
          go_ret
          exact ⟨ret_b HF.out.symm, HQ.out⟩
      · have q : ((n1 : Int) == t) = false := by simpa using hle
        have HLEN := hid (show decide ((A.length : Int) = trees o) = false by rw [hl, htr]; exact decide_eq_false hle)
        clear hle
        have HF := hid (show serOk o z A = false by unfold serOk; rw [decide_eq_true ⟨c0, c6⟩, HNUM.out, HLEN.out]; rfl)
        clear hl htr
        go_enter Tryd.func33, Tryd.ntmps33
        go_wp2_with fail
        refine wp_region_calm (C := fun wc => Below (w.heap.size + 1) (w.alloc (.cells #[.int .i64 o, .int .i64 z, .slice a1 n1 c1] 24)) wc) rfl (by kernel_rfl) hS0.out ?_
        (refine quiet_stepH (fun K hK => ?_); refine q_val ?_ (by rfl) ?_ ?_; rotate_left 1; (focus (intro wc hC; skip; go_simp; try rfl)); go_simp; refine hK.out _ ?_; clear hK K)
        (refine quiet_stepH (fun K hK => ?_); refine q_val ?_ (by rfl) ?_ ?_; rotate_left 1; (focus (intro wc hC; obtain ⟨q0, q1, q2⟩ := box_in hC; go_simp; try rfl)); go_simp; refine hK.out _ ?_; clear hK K)
        (refine quiet_stepH (fun K hK => ?_); refine q_call ?_ ?_ ?_ (by rfl) ?_ ?_ ?_; rotate_left 3; (focus (intro wc hC; go_simp; first | done | rfl | (refine And.intro ?_ ?_ <;> rfl))))
        · exact fun wc hC => (spec_l1In _ _ _ _).mono fun e w' ⟨e1, e2⟩ => ⟨by rw [e1, DIN], e2 ▸ hC⟩
        (go_simp; refine hK.out _ ?_; clear hK K)
        (refine quiet_stepH (fun K hK => ?_); refine q_val ?_ (by rfl) ?_ ?_; rotate_left 1; (focus (intro wc hC; skip; go_simp; try rfl)); go_simp; refine hK.out _ ?_; clear hK K)
        (refine quiet_stepH (fun K hK => ?_); refine q_val ?_ (by rfl) ?_ ?_; rotate_left 1; (focus (intro wc hC; skip; go_simp; try rfl)); go_simp; refine hK.out _ ?_; clear hK K)
        (refine quiet_stepH (fun K hK => ?_); refine q_val ?_ (by rfl) ?_ ?_; rotate_left 1; (focus (intro wc hC; obtain ⟨q0, q1, q2⟩ := box_in hC; go_simp; try rfl)); go_simp; refine hK.out _ ?_; clear hK K)
        (refine quiet_stepH (fun K hK => ?_); refine q_call ?_ ?_ ?_ (by rfl) ?_ ?_ ?_; rotate_left 3; (focus (intro wc hC; go_simp; first | done | rfl | (refine And.intro ?_ ?_ <;> rfl))))
        · exact fun wc hC => (spec_IsNumber _ _).mono fun e w' ⟨e1, e2⟩ => ⟨by rw [e1, HNUM.out], e2 ▸ hC⟩
        (go_simp; refine hK.out _ ?_; clear hK K)
        (refine quiet_stepH (fun K hK => ?_); refine q_val ?_ (by rfl) ?_ ?_; rotate_left 1; (focus (intro wc hC; skip; go_simp; try rfl)); go_simp; refine hK.out _ ?_; clear hK K)
        (refine quiet_stepH (fun K hK => ?_); refine q_val ?_ (by rfl) ?_ ?_; rotate_left 1; (focus (intro wc hC; skip; go_simp; try rfl)); go_simp; refine hK.out _ ?_; clear hK K)
        (refine quiet_stepH (fun K hK => ?_); refine q_val ?_ (by rfl) ?_ ?_; rotate_left 1; (focus (intro wc hC; skip; go_simp; try rfl)); go_simp; refine hK.out _ ?_; clear hK K)
        (refine quiet_stepH (fun K hK => ?_); refine q_val ?_ (by rfl) ?_ ?_; rotate_left 1; (focus (intro wc hC; obtain ⟨q0, q1, q2⟩ := box_in hC; go_simp; try rfl)); go_simp; refine hK.out _ ?_; clear hK K)
        (refine quiet_stepH (fun K hK => ?_); refine q_val ?_ (by rfl) ?_ ?_; rotate_left 1; (focus (intro wc hC; skip; go_simp; try rfl)); go_simp; refine hK.out _ ?_; clear hK K)
        (refine quiet_stepH (fun K hK => ?_); refine q_val ?_ (by rfl) ?_ ?_; rotate_left 1; (focus (intro wc hC; skip; go_simp; try rfl)); go_simp; refine hK.out _ ?_; clear hK K)
        (refine quiet_stepH (fun K hK => ?_); refine q_val ?_ (by rfl) ?_ ?_; rotate_left 1; (focus (intro wc hC; obtain ⟨q0, q1, q2⟩ := box_in hC; go_simp; try rfl)); go_simp; refine hK.out _ ?_; clear hK K)
        (refine quiet_stepH (fun K hK => ?_); refine q_call ?_ ?_ ?_ (by rfl) ?_ ?_ ?_; rotate_left 3; (focus (intro wc hC; go_simp; first | done | rfl | (refine And.intro ?_ ?_ <;> rfl))))
        · exact fun wc hC => (spec_CountTrees _ _).mono fun e w' ⟨e1, e2⟩ => ⟨by rw [e1, HTR.out], hC.trans (e2.mono (by simpa using hC.size))⟩
        (go_simp; refine hK.out _ ?_; clear hK K)
        (refine quiet_stepH (fun K hK => ?_); refine q_val ?_ (by rfl) ?_ ?_; rotate_left 1; (focus (intro wc hC; skip; go_simp; try rfl)); go_simp; refine hK.out _ ?_; clear hK K)
        (refine quiet_stepH (fun K hK => ?_); refine q_val ?_ (by rfl) ?_ ?_; rotate_left 1; (focus (intro wc hC; skip; go_simp; try rfl)); go_simp; refine hK.out _ ?_; clear hK K)
        (refine quiet_stepH (fun K hK => ?_); refine q_val ?_ (by rfl) ?_ ?_; rotate_left 1; (focus (intro wc hC; skip; go_simp; try rfl)); go_simp; refine hK.out _ ?_; clear hK K)
        (refine quiet_stepH (fun K hK => ?_); refine q_skip (by rfl) ?_; go_simp; refine hK.out _ ?_; clear hK K)
        (refine quiet_stepH (fun K hK => ?_); refine q_skip (by rfl) ?_; go_simp; refine hK.out _ ?_; clear hK K)
        (refine quiet_stepH (fun K hK => ?_); refine q_skip (by rfl) ?_; go_simp; refine hK.out _ ?_; clear hK K)
        (refine quiet_stepH (fun K hK => ?_); refine q_val ?_ (by rfl) ?_ ?_; rotate_left 1; (focus (intro wc hC; skip; go_simp; try rfl)); go_simp; refine hK.out _ ?_; clear hK K)
        (refine quiet_stepH (fun K hK => ?_); refine q_val ?_ (by rfl) ?_ ?_; rotate_left 1; (focus (intro wc hC; skip; go_simp; try rfl)); go_simp; refine hK.out _ ?_; clear hK K)
        refine wpQuiet_nil ?_
        intro wq hq
        have HQ := hid (in_box hq)
        clear hq
        go_wp2_with fail
        go_ret
        exact ⟨ret_b HF.out.symm, HQ.out⟩
    | false =>
      have HNUM := hid hnum
      clear hnum
      have HF := hid (show serOk o z A = false by unfold serOk; rw [decide_eq_true ⟨c0, c6⟩, HNUM.out]; rfl)
      clear hl htr
      go_enter Tryd.func33, Tryd.ntmps33
      go_wp2_with fail
      refine wp_region_calm (C := fun wc => Below (w.heap.size + 1) (w.alloc (.cells #[.int .i64 o, .int .i64 z, .slice a1 n1 c1] 24)) wc) rfl (by kernel_rfl) hS0.out ?_
      (refine quiet_stepH (fun K hK => ?_); refine q_val ?_ (by rfl) ?_ ?_; rotate_left 1; (focus (intro wc hC; skip; go_simp; try rfl)); go_simp; refine hK.out _ ?_; clear hK K)
      (refine quiet_stepH (fun K hK => ?_); refine q_val ?_ (by rfl) ?_ ?_; rotate_left 1; (focus (intro wc hC; obtain ⟨q0, q1, q2⟩ := box_in hC; go_simp; try rfl)); go_simp; refine hK.out _ ?_; clear hK K)
      (refine quiet_stepH (fun K hK => ?_); refine q_call ?_ ?_ ?_ (by rfl) ?_ ?_ ?_; rotate_left 3; (focus (intro wc hC; go_simp; first | done | rfl | (refine And.intro ?_ ?_ <;> rfl))))
      · exact fun wc hC => (spec_l1In _ _ _ _).mono fun e w' ⟨e1, e2⟩ => ⟨by rw [e1, DIN], e2 ▸ hC⟩
      (go_simp; refine hK.out _ ?_; clear hK K)
      (refine quiet_stepH (fun K hK => ?_); refine q_val ?_ (by rfl) ?_ ?_; rotate_left 1; (focus (intro wc hC; skip; go_simp; try rfl)); go_simp; refine hK.out _ ?_; clear hK K)
      (refine quiet_stepH (fun K hK => ?_); refine q_val ?_ (by rfl) ?_ ?_; rotate_left 1; (focus (intro wc hC; skip; go_simp; try rfl)); go_simp; refine hK.out _ ?_; clear hK K)
      (refine quiet_stepH (fun K hK => ?_); refine q_val ?_ (by rfl) ?_ ?_; rotate_left 1; (focus (intro wc hC; obtain ⟨q0, q1, q2⟩ := box_in hC; go_simp; try rfl)); go_simp; refine hK.out _ ?_; clear hK K)
      (refine quiet_stepH (fun K hK => ?_); refine q_call ?_ ?_ ?_ (by rfl) ?_ ?_ ?_; rotate_left 3; (focus (intro wc hC; go_simp; first | done | rfl | (refine And.intro ?_ ?_ <;> rfl))))
      · exact fun wc hC => (spec_IsNumber _ _).mono fun e w' ⟨e1, e2⟩ => ⟨by rw [e1, HNUM.out], e2 ▸ hC⟩
      (go_simp; refine hK.out _ ?_; clear hK K)
      (refine quiet_stepH (fun K hK => ?_); refine q_val ?_ (by rfl) ?_ ?_; rotate_left 1; (focus (intro wc hC; skip; go_simp; try rfl)); go_simp; refine hK.out _ ?_; clear hK K)
      (refine quiet_stepH (fun K hK => ?_); refine q_val ?_ (by rfl) ?_ ?_; rotate_left 1; (focus (intro wc hC; skip; go_simp; try rfl)); go_simp; refine hK.out _ ?_; clear hK K)
      (refine quiet_stepH (fun K hK => ?_); refine q_skip (by rfl) ?_; go_simp; refine hK.out _ ?_; clear hK K)
      (refine quiet_stepH (fun K hK => ?_); refine q_skip (by rfl) ?_; go_simp; refine hK.out _ ?_; clear hK K)
      (refine quiet_stepH (fun K hK => ?_); refine q_skip (by rfl) ?_; go_simp; refine hK.out _ ?_; clear hK K)
      (refine quiet_stepH (fun K hK => ?_); refine q_skip (by rfl) ?_; go_simp; refine hK.out _ ?_; clear hK K)
      (refine quiet_stepH (fun K hK => ?_); refine q_skip (by rfl) ?_; go_simp; refine hK.out _ ?_; clear hK K)
      (refine quiet_stepH (fun K hK => ?_); refine q_skip (by rfl) ?_; go_simp; refine hK.out _ ?_; clear hK K)
      (refine quiet_stepH (fun K hK => ?_); refine q_skip (by rfl) ?_; go_simp; refine hK.out _ ?_; clear hK K)
      (refine quiet_stepH (fun K hK => ?_); refine q_val ?_ (by rfl) ?_ ?_; rotate_left 1; (focus (intro wc hC; skip; go_simp; try rfl)); go_simp; refine hK.out _ ?_; clear hK K)
      (refine quiet_stepH (fun K hK => ?_); refine q_val ?_ (by rfl) ?_ ?_; rotate_left 1; (focus (intro wc hC; skip; go_simp; try rfl)); go_simp; refine hK.out _ ?_; clear hK K)
      (refine quiet_stepH (fun K hK => ?_); refine q_skip (by rfl) ?_; go_simp; refine hK.out _ ?_; clear hK K)
      (refine quiet_stepH (fun K hK => ?_); refine q_skip (by rfl) ?_; go_simp; refine hK.out _ ?_; clear hK K)
      (refine quiet_stepH (fun K hK => ?_); refine q_skip (by rfl) ?_; go_simp; refine hK.out _ ?_; clear hK K)
      (refine quiet_stepH (fun K hK => ?_); refine q_val ?_ (by rfl) ?_ ?_; rotate_left 1; (focus (intro wc hC; skip; go_simp; try rfl)); go_simp; refine hK.out _ ?_; clear hK K)
      (refine quiet_stepH (fun K hK => ?_); refine q_val ?_ (by rfl) ?_ ?_; rotate_left 1; (focus (intro wc hC; skip; go_simp; try rfl)); go_simp; refine hK.out _ ?_; clear hK K)
      refine wpQuiet_nil ?_
      intro wq hq
      have HQ := hid (in_box hq)
      clear hq
      go_wp2_with fail
      go_ret
      exact ⟨ret_b HF.out.symm, HQ.out⟩
  · have DIN : inB o 0 6 = false := decide_eq_false c
    have HF := hid (show serOk o z A = false by unfold serOk; rw [decide_eq_false c]; rfl)
    clear hl htr
    go_enter Tryd.func33, Tryd.ntmps33
    go_wp2_with fail
    refine wp_region_calm (C := fun wc => Below (w.heap.size + 1) (w.alloc (.cells #[.int .i64 o, .int .i64 z, .slice a1 n1 c1] 24)) wc) rfl (by kernel_rfl) hS0.out ?_
    (refine quiet_stepH (fun K hK => ?_); refine q_val ?_ (by rfl) ?_ ?_; rotate_left 1; (focus (intro wc hC; skip; go_simp; try rfl)); go_simp; refine hK.out _ ?_; clear hK K)
    (refine quiet_stepH (fun K hK => ?_); refine q_val ?_ (by rfl) ?_ ?_; rotate_left 1; (focus (intro wc hC; obtain ⟨q0, q1, q2⟩ := box_in hC; go_simp; try rfl)); go_simp; refine hK.out _ ?_; clear hK K)
    (refine quiet_stepH (fun K hK => ?_); refine q_call ?_ ?_ ?_ (by rfl) ?_ ?_ ?_; rotate_left 3; (focus (intro wc hC; go_simp; first | done | rfl | (refine And.intro ?_ ?_ <;> rfl))))
    · exact fun wc hC => (spec_l1In _ _ _ _).mono fun e w' ⟨e1, e2⟩ => ⟨by rw [e1, DIN], e2 ▸ hC⟩
    (go_simp; refine hK.out _ ?_; clear hK K)
    (refine quiet_stepH (fun K hK => ?_); refine q_val ?_ (by rfl) ?_ ?_; rotate_left 1; (focus (intro wc hC; skip; go_simp; try rfl)); go_simp; refine hK.out _ ?_; clear hK K)
    (refine quiet_stepH (fun K hK => ?_); refine q_skip (by rfl) ?_; go_simp; refine hK.out _ ?_; clear hK K)
    (refine quiet_stepH (fun K hK => ?_); refine q_skip (by rfl) ?_; go_simp; refine hK.out _ ?_; clear hK K)
    (refine quiet_stepH (fun K hK => ?_); refine q_skip (by rfl) ?_; go_simp; refine hK.out _ ?_; clear hK K)
    (refine quiet_stepH (fun K hK => ?_); refine q_val ?_ (by rfl) ?_ ?_; rotate_left 1; (focus (intro wc hC; skip; go_simp; try rfl)); go_simp; refine hK.out _ ?_; clear hK K)
    (refine quiet_stepH (fun K hK => ?_); refine q_val ?_ (by rfl) ?_ ?_; rotate_left 1; (focus (intro wc hC; skip; go_simp; try rfl)); go_simp; refine hK.out _ ?_; clear hK K)
    (refine quiet_stepH (fun K hK => ?_); refine q_skip (by rfl) ?_; go_simp; refine hK.out _ ?_; clear hK K)
    (refine quiet_stepH (fun K hK => ?_); refine q_skip (by rfl) ?_; go_simp; refine hK.out _ ?_; clear hK K)
    (refine quiet_stepH (fun K hK => ?_); refine q_skip (by rfl) ?_; go_simp; refine hK.out _ ?_; clear hK K)
    (refine quiet_stepH (fun K hK => ?_); refine q_skip (by rfl) ?_; go_simp; refine hK.out _ ?_; clear hK K)
    (refine quiet_stepH (fun K hK => ?_); refine q_skip (by rfl) ?_; go_simp; refine hK.out _ ?_; clear hK K)
    (refine quiet_stepH (fun K hK => ?_); refine q_skip (by rfl) ?_; go_simp; refine hK.out _ ?_; clear hK K)
    (refine quiet_stepH (fun K hK => ?_); refine q_skip (by rfl) ?_; go_simp; refine hK.out _ ?_; clear hK K)
    (refine quiet_stepH (fun K hK => ?_); refine q_val ?_ (by rfl) ?_ ?_; rotate_left 1; (focus (intro wc hC; skip; go_simp; try rfl)); go_simp; refine hK.out _ ?_; clear hK K)
    (refine quiet_stepH (fun K hK => ?_); refine q_val ?_ (by rfl) ?_ ?_; rotate_left 1; (focus (intro wc hC; skip; go_simp; try rfl)); go_simp; refine hK.out _ ?_; clear hK K)
    (refine quiet_stepH (fun K hK => ?_); refine q_skip (by rfl) ?_; go_simp; refine hK.out _ ?_; clear hK K)
    (refine quiet_stepH (fun K hK => ?_); refine q_skip (by rfl) ?_; go_simp; refine hK.out _ ?_; clear hK K)
    (refine quiet_stepH (fun K hK => ?_); refine q_skip (by rfl) ?_; go_simp; refine hK.out _ ?_; clear hK K)
    (refine quiet_stepH (fun K hK => ?_); refine q_val ?_ (by rfl) ?_ ?_; rotate_left 1; (focus (intro wc hC; skip; go_simp; try rfl)); go_simp; refine hK.out _ ?_; clear hK K)
    (refine quiet_stepH (fun K hK => ?_); refine q_val ?_ (by rfl) ?_ ?_; rotate_left 1; (focus (intro wc hC; skip; go_simp; try rfl)); go_simp; refine hK.out _ ?_; clear hK K)
    refine wpQuiet_nil ?_
    intro wq hq
    have HQ := hid (in_box hq)
    clear hq
    go_wp2_with fail
    go_ret
    exact ⟨ret_b HF.out.symm, HQ.out⟩
end Go.Proofs.YtgbjoaheidgafaaDoor
