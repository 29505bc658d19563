/- SimplifyingOf of the implementation: the closures. -/
import Derived.Test.YthebegfceaehfaaDot
import Derived.Test.YthebegfceaehfaaHoldG
import Derived.Test.YthebegfceaehfaaRegG
import Derived.Test.YthebegfceaehfaaQuiet
namespace Go.Proofs.Ythebegfceaehfaa
open Go.RowKit
attribute [local irreducible] M.powr

theorem all_step {f : Nat → Bool} {j : Nat} (h : (List.range j).all f = true) (hf : f j = true) : (List.range (j + 1)).all f = true := by
  rw [List.range_succ, List.all_append, h]; simp [hf]
theorem all_stop {f : Nat → Bool} {j S : Nat} (hj : j < S) (hf : f j = false) : (List.range S).all f = false := by
  rw [← Bool.not_eq_true]
  intro h
  have := List.all_eq_true.1 h j (List.mem_range.2 hj)
  rw [hf] at this
  cases this
/-- The equations of a kind for one k. -/
def simp0 (B C : List Int) (k : Nat) : Bool := M.dotL B (powL C ((k : Int) - 1)) == M.frac 1 k
def eq1 (A C : List Int) (S k i : Nat) : Bool := M.dotL (rowL A S i) (powL C ((k : Int) - 1)) == M.frac (M.powr (C.getD i 0) k) k
def simp1 (A C : List Int) (S k : Nat) : Bool := (List.range S).all (eq1 A C S k)
def wgt (B C : List Int) (k : Nat) : List Int := (B.zip (powL C ((k : Int) - 1))).map fun x => M.times x.1 x.2
def eq2 (A B C : List Int) (S k j : Nat) : Bool := M.dotL (wgt B C k) (colL A S j) == M.frac (M.times (B.getD j 0) (M.minus 1 (M.powr (C.getD j 0) k))) k
def simp2 (A B C : List Int) (S k : Nat) : Bool := (List.range S).all (eq2 A B C S k)
theorem wgt_len {B C : List Int} {k S : Nat} (h1 : B.length = S) (h2 : C.length = S) : (wgt B C k).length = S := by simp [wgt, powL_len, h1, h2]
theorem wgt_at {B C : List Int} {k S i : Nat} {x y : Int} (h1 : B.length = S) (h2 : C.length = S) (hi : i < S) (hx : x = B.getD i 0) (hy : y = C.getD i 0) : M.times x (M.powr y ((k : Int) - 1)) = (wgt B C k).getD i 0 := by
  rw [powL_at (by omega) hy]
  subst hx
  have a1 : i < B.length := by omega
  have a2 : i < (powL C ((k : Int) - 1)).length := by rw [powL_len]; omega
  have e : (B.zip (powL C ((k : Int) - 1)))[i]? = some (B[i], (powL C ((k : Int) - 1))[i]) := by rw [List.getElem?_eq_getElem (by simp; omega), List.getElem_zip]
  simp [wgt, List.getD, a1, a2, e]
theorem colL_at {A : List Int} {S j i : Nat} (h : i < S) : (colL A S j).getD i 0 = A.getD (i * S + j) 0 := by simp [colL, List.getD, h]
theorem bne_beq {a b : Int} : (a != b) = !(a == b) := rfl
/-- What the closures stand on. -/
structure Env (w : World) (S : Nat) (a1 : Option Addr) (n1 c1 : Nat) (A : List Int) (a2 : Option Addr) (c2 : Nat) (B : List Int) (a3 : Option Addr) (c3 : Nat) (C : List Int) (bx cb pb : Nat) : Prop where
  box : w.heap[bx]? = some (.cells #[.int .i64 S, .slice a1 n1 c1, .slice a2 S c2] 27 (0, 0))
  c : w.cell? ⟨cb, 0, none⟩ = some (.slice a3 S c3)
  pw : w.cell? ⟨pb, 0, none⟩ = some (.func (.func 36) #[] #[.pointer (some ⟨cb, 0, none⟩)])
  rA : Rd w a1 n1 c1 A
  rB : Rd w a2 S c2 B
  rC : Rd w a3 S c3 C
  hn : n1 = S * S
  hS : S ≤ 8
section
variable {w w' : World} {S : Nat} {a1 : Option Addr} {n1 c1 : Nat} {A : List Int} {a2 : Option Addr} {c2 : Nat} {B : List Int} {a3 : Option Addr} {c3 : Nat} {C : List Int} {bx cb pb : Nat}
theorem Env.below (h : Env w S a1 n1 c1 A a2 c2 B a3 c3 C bx cb pb) (hb : Below w.heap.size w w') : Env w' S a1 n1 c1 A a2 c2 B a3 c3 C bx cb pb :=
  ⟨bk_below h.box hb, (hb.cell (World.block_lt_of_cell? w _ h.c)).trans h.c, (hb.cell (World.block_lt_of_cell? w _ h.pw)).trans h.pw, h.rA.below hb, h.rB.below hb, h.rC.below hb, h.hn, h.hS⟩
theorem Env.cells (h : Env w S a1 n1 c1 A a2 c2 B a3 c3 C bx cb pb) : w.cell? ⟨bx, 0, none⟩ = some (.int .i64 S) ∧ w.cell? ⟨bx, 1, none⟩ = some (.slice a1 n1 c1) ∧ w.cell? ⟨bx, 2, none⟩ = some (.slice a2 S c2) ∧ w.cell? ⟨cb, 0, none⟩ = some (.slice a3 S c3) ∧ w.cell? ⟨pb, 0, none⟩ = some (.func (.func 36) #[] #[.pointer (some ⟨cb, 0, none⟩)]) :=
  ⟨(blk3 h.box).1.1, (blk3 h.box).1.2.1, (blk3 h.box).1.2.2, h.c, h.pw⟩
theorem impl_a' (i j : Nat) (v2 : Value) (w : World) (h : Rd w a1 n1 c1 A) (hn : n1 = S * S) (hi : i < S) (hj : j < S) (hS : S ≤ 8) :
    Calls Try.prog 45 #[.agg #[.int .i64 S, .slice a1 n1 c1, v2], .int .i64 i, .int .i64 j] w fun e w' => e = .returned (.int .i64 (A.getD (i * S + j) 0)) ∧ Below w.heap.size w w' :=
  (impl_a S i j a1 n1 c1 A v2 w h hn hi hj hS).mono fun e w' ⟨x, h1, h2, _, h4⟩ => ⟨by rw [h1]; exact congrArg (fun z => Ending.returned (.int .i64 z)) h2.out, h4⟩

set_option maxHeartbeats 2000000 in
theorem impl_simp0 (k : Nat) (hE : Env w S a1 n1 c1 A a2 c2 B a3 c3 C bx cb pb) (hk1 : 1 ≤ k) (hk6 : k ≤ 6) :
    Calls Try.prog 38 #[.int .i64 k, .pointer (some ⟨bx, 0, none⟩), .pointer (some ⟨pb, 0, none⟩)] w fun e w' => e = .returned (.bool (simp0 B C k)) ∧ Below w.heap.size w w' := by
  have HE := hid hE
  have hS := hE.hS
  clear hE
  have hw1 : IntKind.i64.wrap ((k : Int) - 1) = (k : Int) - 1 := IntWalk.i64_in _ ⟨by omega, by omega⟩
  go_enter Try.func38, Try.ntmps38
  go_wp2_with fail
  have vhB1 := hid (show Below w.heap.size w w.drew from (Below.refl _ _).drew)
  refine (fun (HG : Rg _ _ 10) => wp_region_hh (S := fun w' => Below w.heap.size w w') HG rfl ?_) ⟨by kernel_rfl, by decide, by kernel_rfl, by kernel_rfl, fun _ _ d _ _ h => by cases d <;> exact h⟩
  (refine hh_take 0 HG rfl (by decide) (by kernel_rfl) (by kernel_rfl) vhB1.out (fun K hK => ?_); refine take_val ?_ (by rfl) ?_ ?_; rotate_left 1; (focus (intro wc hC; skip; go_simp; try rfl)); go_simp; refine hK.out _ ?_; clear hK K)
  (refine hh_take 1 HG rfl (by decide) (by kernel_rfl) (by kernel_rfl) vhB1.out (fun K hK => ?_); refine take_val ?_ (by rfl) ?_ ?_; rotate_left 1; (focus (intro wc hC; obtain ⟨u0, u1, u2, u3, u4⟩ := (HE.out.below hC).cells; go_simp; try rfl)); go_simp; refine hK.out _ ?_; clear hK K)
  (refine hh_take 2 HG rfl (by decide) (by kernel_rfl) (by kernel_rfl) vhB1.out (fun K hK => ?_); refine take_val ?_ (by rfl) ?_ ?_; rotate_left 1; (focus (intro wc hC; obtain ⟨u0, u1, u2, u3, u4⟩ := (HE.out.below hC).cells; go_simp; try rfl)); go_simp; refine hK.out _ ?_; clear hK K)
  (refine hh_take 3 HG rfl (by decide) (by kernel_rfl) (by kernel_rfl) vhB1.out (fun K hK => ?_); refine take_val ?_ (by rfl) ?_ ?_; rotate_left 1; (focus (intro wc hC; skip; go_simp; try rfl)); go_simp; refine hK.out _ ?_; clear hK K)
  (refine hh_take 4 HG rfl (by decide) (by kernel_rfl) (by kernel_rfl) vhB1.out (fun K hK => ?_); refine take_val ?_ (by rfl) ?_ ?_; rotate_left 1; (focus (intro wc hC; skip; go_simp; try rfl)); go_simp; refine hK.out _ ?_; clear hK K)
  (refine hh_take 7 HG rfl (by decide) (by kernel_rfl) (by kernel_rfl) vhB1.out (fun K hK => ?_); refine take_val ?_ (by rfl) ?_ ?_; rotate_left 1; (focus (intro wc hC; skip; go_simp; try rfl)); go_simp; refine hK.out _ ?_; clear hK K)
  refine hh_mid 5 rfl (by decide) (by kernel_rfl) (fun K hK => ?_)
  (refine mid_call ?_ ?_ (by rfl) ?_ ?_; rotate_left 2; (focus (go_simp; first | done | rfl | (refine And.intro ?_ ?_ <;> rfl))))
  refine (impl_powers ((k : Int) - 1) a3 S c3 C _ cb (HE.out.below vhB1.out).c (HE.out.below vhB1.out).rC ⟨by omega, by omega⟩ hS).mono ?_
  rintro e vV2 ⟨p1, n1', d1, rfl, rfl, hN⟩
  refine ⟨_, rfl, ?_⟩
  have GP := hid (hN.1.rd)
  have vhB3 := hid (vhB1.out.trans ((hN.2).mono (show w.heap.size ≤ w.heap.size from vhB1.out.size)))
  (go_simp; refine hK.out _ _ ?_ ?_ <;> clear hK K)
  · exact vhB3.out
  refine hh_mid 6 rfl (by decide) (by kernel_rfl) (fun K hK => ?_)
  (refine mid_call ?_ ?_ (by rfl) ?_ ?_; rotate_left 2; (focus (go_simp; first | done | rfl | (refine And.intro ?_ ?_ <;> rfl))))
  refine (impl_dot _ _ _ B _ _ (powL C ((k : Int) - 1)) _ (HE.out.below vhB3.out).rB GP.out).mono ?_
  rintro e vV4 ⟨rfl, hb⟩
  refine ⟨_, rfl, ?_⟩
  have vhB5 := hid (vhB3.out.trans ((hb).mono (show w.heap.size ≤ vV2.heap.size from vhB3.out.size)))
  (go_simp; refine hK.out _ _ ?_ ?_ <;> clear hK K)
  · exact vhB5.out
  refine hh_mid 8 rfl (by decide) (by kernel_rfl) (fun K hK => ?_)
  (refine mid_call ?_ ?_ (by rfl) ?_ ?_; rotate_left 2; (focus (go_simp; first | done | rfl | (refine And.intro ?_ ?_ <;> rfl))))
  refine (impl_Fraction 1 k _).mono ?_
  rintro e w' ⟨rfl, rfl⟩
  refine ⟨_, rfl, ?_⟩
  (go_simp; refine hK.out _ _ ?_ ?_ <;> clear hK K)
  · exact vhB5.out
  (refine hh_take 9 HG rfl (by decide) (by kernel_rfl) (by kernel_rfl) vhB5.out (fun K hK => ?_); refine take_val ?_ (by rfl) ?_ ?_; rotate_left 1; (focus (intro wc hC; skip; go_simp; try rfl)); go_simp; refine hK.out _ ?_; clear hK K)
  refine hh_done (by kernel_rfl) ?_
  simp only [List.drop_succ_cons, List.drop_zero]
  change wpList _ _ _ _ _ _
  clear GP hw1
  go_wp2_with fail
  go_ret
  exact ⟨rfl, vhB5.out⟩
set_option maxHeartbeats 4000000 in
theorem impl_simp1 (k : Nat) (hE : Env w S a1 n1 c1 A a2 c2 B a3 c3 C bx cb pb) (hk1 : 1 ≤ k) (hk6 : k ≤ 6) :
    Calls Try.prog 41 #[.int .i64 k, .pointer (some ⟨cb, 0, none⟩), .pointer (some ⟨bx, 0, none⟩), .pointer (some ⟨pb, 0, none⟩)] w fun e w' => e = .returned (.bool (simp1 A C S k)) ∧ Below w.heap.size w w' := by
  have HE := hid hE
  have hS := hE.hS
  have hn := hid hE.hn
  obtain ⟨x0, x1, x2, x3, x4⟩ := hE.cells
  clear hE
  have hw1 : IntKind.i64.wrap ((k : Int) - 1) = (k : Int) - 1 := IntWalk.i64_in _ ⟨by omega, by omega⟩
  go_enter Try.func41, Try.ntmps41
  go_wp2_with fail
  clear x0 x1 x2 x3 x4
  go_loopw [6, 9] (fun _ i wr => ∃ j : Nat, i = .int .i64 j ∧ j ≤ S ∧ Hid ((List.range j).all (eq1 A C S k) = true) ∧ Hid (Below w.heap.size w wr)) (fun _ i _ => S - (intOf i).toNat)
  case atStart => exact ⟨0, rfl, Nat.zero_le _, hid rfl, hid (Below.refl _ _)⟩
  case round =>
    obtain ⟨j, rfl, hj, hA, hB⟩ := hrel
    obtain ⟨W, rfl⟩ : ∃ W : World, W = wr := ⟨_, rfl⟩
    by_cases hlt : j < S
    · have hki : (j : Int) < (S : Int) := by omega
      have HW := hid (HE.out.below hB.out)
      obtain ⟨b0, f0, y0, rfl, _, _, _, _⟩ := HW.out.rA.at (k := 0) (by rw [hn.out]; exact Nat.mul_pos (by omega) (by omega))
      obtain ⟨b3, f3, y, rfl, hc, _, _, hy⟩ := HW.out.rC.at hlt
      have HC3 : Hid (∀ wc, Below W.heap.size W wc → wc.cell? ⟨b3, f3 + j, none⟩ = some (.int .i64 y)) := hid fun wc h => (h.cell (World.block_lt_of_cell? W _ hc)).trans hc
      clear hc
      go_wp2_with fail
      have vhB1 := hid (show Below W.heap.size W W.drew from (Below.refl _ _).drew)
      refine (fun (HG : Rg _ _ 16) => wp_region_hh (S := fun w' => Below W.heap.size W w') HG rfl ?_) ⟨by kernel_rfl, by decide, by kernel_rfl, by kernel_rfl, fun _ _ d _ _ h => by cases d <;> exact h⟩
      (refine hh_take 0 HG rfl (by decide) (by kernel_rfl) (by kernel_rfl) vhB1.out (fun K hK => ?_); refine take_val ?_ (by rfl) ?_ ?_; rotate_left 1; (focus (intro wc hC; obtain ⟨u0, u1, u2, u3, u4⟩ := (HW.out.below hC).cells; go_simp; try rfl)); go_simp; refine hK.out _ ?_; clear hK K)
      (refine hh_take 1 HG rfl (by decide) (by kernel_rfl) (by kernel_rfl) vhB1.out (fun K hK => ?_); refine take_val ?_ (by rfl) ?_ ?_; rotate_left 1; (focus (intro wc hC; skip; go_simp; try rfl)); go_simp; refine hK.out _ ?_; clear hK K)
      (refine hh_take 3 HG rfl (by decide) (by kernel_rfl) (by kernel_rfl) vhB1.out (fun K hK => ?_); refine take_val ?_ (by rfl) ?_ ?_; rotate_left 1; (focus (intro wc hC; obtain ⟨u0, u1, u2, u3, u4⟩ := (HW.out.below hC).cells; go_simp; try rfl)); go_simp; refine hK.out _ ?_; clear hK K)
      (refine hh_take 4 HG rfl (by decide) (by kernel_rfl) (by kernel_rfl) vhB1.out (fun K hK => ?_); refine take_val ?_ (by rfl) ?_ ?_; rotate_left 1; (focus (intro wc hC; skip; go_simp; try rfl)); go_simp; refine hK.out _ ?_; clear hK K)
      (refine hh_take 5 HG rfl (by decide) (by kernel_rfl) (by kernel_rfl) vhB1.out (fun K hK => ?_); refine take_val ?_ (by rfl) ?_ ?_; rotate_left 1; (focus (intro wc hC; skip; go_simp; try rfl)); go_simp; refine hK.out _ ?_; clear hK K)
      (refine hh_take 8 HG rfl (by decide) (by kernel_rfl) (by kernel_rfl) vhB1.out (fun K hK => ?_); refine take_val ?_ (by rfl) ?_ ?_; rotate_left 1; (focus (intro wc hC; obtain ⟨u0, u1, u2, u3, u4⟩ := (HW.out.below hC).cells; go_simp; try rfl)); go_simp; refine hK.out _ ?_; clear hK K)
      (refine hh_take 9 HG rfl (by decide) (by kernel_rfl) (by kernel_rfl) vhB1.out (fun K hK => ?_); refine take_val ?_ (by rfl) ?_ ?_; rotate_left 1; (focus (intro wc hC; skip; go_simp; try rfl)); go_simp; refine hK.out _ ?_; clear hK K)
      (refine hh_take 10 HG rfl (by decide) (by kernel_rfl) (by kernel_rfl) vhB1.out (fun K hK => ?_); refine take_val ?_ (by rfl) ?_ ?_; rotate_left 1; (focus (intro wc hC; skip; go_simp; try rfl)); go_simp; refine hK.out _ ?_; clear hK K)
      (refine hh_take 11 HG rfl (by decide) (by kernel_rfl) (by kernel_rfl) vhB1.out (fun K hK => ?_); refine take_val ?_ (by rfl) ?_ ?_; rotate_left 1; (focus (intro wc hC; have u5 := HC3.out wc hC; go_simp; try rfl)); go_simp; refine hK.out _ ?_; clear hK K)
      (refine hh_take 12 HG rfl (by decide) (by kernel_rfl) (by kernel_rfl) vhB1.out (fun K hK => ?_); refine take_val ?_ (by rfl) ?_ ?_; rotate_left 1; (focus (intro wc hC; skip; go_simp; try rfl)); go_simp; refine hK.out _ ?_; clear hK K)
      (refine hh_take 14 HG rfl (by decide) (by kernel_rfl) (by kernel_rfl) vhB1.out (fun K hK => ?_); refine take_val ?_ (by rfl) ?_ ?_; rotate_left 1; (focus (intro wc hC; skip; go_simp; try rfl)); go_simp; refine hK.out _ ?_; clear hK K)
      refine hh_mid 2 rfl (by decide) (by kernel_rfl) (fun K hK => ?_)
      (refine mid_call ?_ ?_ (by rfl) ?_ ?_; rotate_left 2; (focus (go_simp; first | done | rfl | (refine And.intro ?_ ?_ <;> rfl))))
      refine (impl_row S j b0 f0 n1 c1 _ _ hn.out HW.out.rA.cap HW.out.rA.max hlt hS).mono ?_
      rintro e vV2 ⟨rfl, hb⟩
      refine ⟨_, rfl, ?_⟩
      have vhB3 := hid (vhB1.out.trans ((hb).mono (show W.heap.size ≤ W.heap.size from vhB1.out.size)))
      (go_simp; refine hK.out _ _ ?_ ?_ <;> clear hK K)
      · exact vhB3.out
      refine hh_mid 6 rfl (by decide) (by kernel_rfl) (fun K hK => ?_)
      (refine mid_call ?_ ?_ (by rfl) ?_ ?_; rotate_left 2; (focus (go_simp; first | done | rfl | (refine And.intro ?_ ?_ <;> rfl))))
      refine (impl_powers ((k : Int) - 1) _ S c3 C _ cb (HW.out.below vhB3.out).c (HW.out.below vhB3.out).rC ⟨by omega, by omega⟩ hS).mono ?_
      rintro e vV4 ⟨p1, n1', d1, rfl, rfl, hN⟩
      refine ⟨_, rfl, ?_⟩
      have GP := hid (hN.1.rd)
      have vhB5 := hid (vhB3.out.trans ((hN.2).mono (show W.heap.size ≤ vV2.heap.size from vhB3.out.size)))
      (go_simp; refine hK.out _ _ ?_ ?_ <;> clear hK K)
      · exact vhB5.out
      refine hh_mid 7 rfl (by decide) (by kernel_rfl) (fun K hK => ?_)
      (refine mid_call ?_ ?_ (by rfl) ?_ ?_; rotate_left 2; (focus (go_simp; first | done | rfl | (refine And.intro ?_ ?_ <;> rfl))))
      refine (impl_dot _ _ _ (rowL A S j) _ _ (powL C ((k : Int) - 1)) _ ((HW.out.below vhB5.out).rA.row hn.out hlt) GP.out).mono ?_
      rintro e vV6 ⟨rfl, hb⟩
      refine ⟨_, rfl, ?_⟩
      have vhB7 := hid (vhB5.out.trans ((hb).mono (show W.heap.size ≤ vV4.heap.size from vhB5.out.size)))
      (go_simp; refine hK.out _ _ ?_ ?_ <;> clear hK K)
      · exact vhB7.out
      refine hh_mid 13 rfl (by decide) (by kernel_rfl) (fun K hK => ?_)
      (refine mid_call ?_ ?_ (by rfl) ?_ ?_; rotate_left 2; (focus (go_simp; first | done | rfl | (refine And.intro ?_ ?_ <;> rfl))))
      refine (impl_Power y k _ ⟨by omega, by omega⟩).mono ?_
      rintro e w' ⟨rfl, rfl⟩
      refine ⟨_, rfl, ?_⟩
      (go_simp; refine hK.out _ _ ?_ ?_ <;> clear hK K)
      · exact vhB7.out
      refine hh_mid 15 rfl (by decide) (by kernel_rfl) (fun K hK => ?_)
      (refine mid_call ?_ ?_ (by rfl) ?_ ?_; rotate_left 2; (focus (go_simp; first | done | rfl | (refine And.intro ?_ ?_ <;> rfl))))
      refine (impl_Fraction _ k _).mono ?_
      rintro e w' ⟨rfl, rfl⟩
      refine ⟨_, rfl, ?_⟩
      (go_simp; refine hK.out _ _ ?_ ?_ <;> clear hK K)
      · exact vhB7.out
      refine hh_done (by kernel_rfl) ?_
      simp only [List.drop_succ_cons, List.drop_zero]
      change wpList _ _ _ _ _ _
      have hv : eq1 A C S k j = (M.dotL (rowL A S j) (powL C ((k : Int) - 1)) == M.frac (M.powr y k) k) := by unfold eq1; rw [← hy.out]
      have HB2 := hid (hB.out.trans (vhB7.out.mono hB.out.size))
      clear GP HC3
      cases hq : (M.dotL (rowL A S j) (powL C ((k : Int) - 1)) == M.frac (M.powr y k) k) with
      | true =>
        have hq2 : (M.dotL (rowL A S j) (powL C ((k : Int) - 1)) != M.frac (M.powr y k) k) = false := by rw [bne_beq, hq]; rfl
        have HQ := hid (hv.trans hq)
        clear hv hq
        go_wp2_with fail
        go_roundw
        case rel => exact ⟨j + 1, by go_num, by omega, hid (all_step hA.out HQ.out), HB2⟩
        case measure => simp [intOf]; omega
      | false =>
        have hq2 : (M.dotL (rowL A S j) (powL C ((k : Int) - 1)) != M.frac (M.powr y k) k) = true := by rw [bne_beq, hq]; rfl
        have HQ := hid (hv.trans hq)
        clear hv hq
        go_wp2_with fail
        go_ret
        exact ⟨ret_b (all_stop hlt HQ.out).symm, HB2.out⟩
    · obtain rfl : j = S := by omega
      go_wp2_with fail
      go_ret
      exact ⟨ret_b hA.out.symm, hB.out⟩
set_option maxHeartbeats 8000000 in
theorem impl_simp2 (k : Nat) (hE : Env w S a1 n1 c1 A a2 c2 B a3 c3 C bx cb pb) (hk1 : 1 ≤ k) (hk6 : k ≤ 6) :
    Calls Try.prog 42 #[.int .i64 k, .pointer (some ⟨cb, 0, none⟩), .pointer (some ⟨bx, 0, none⟩)] w fun e w' => e = .returned (.bool (simp2 A B C S k)) ∧ Below w.heap.size w w' := by
  have HE := hid hE
  have hS := hE.hS
  have hn := hid hE.hn
  obtain ⟨x0, x1, x2, x3, x4⟩ := hE.cells
  have HLW := hid (show (wgt B C k).length = S from wgt_len hE.rB.len hE.rC.len)
  clear hE
  have hw1 : IntKind.i64.wrap ((k : Int) - 1) = (k : Int) - 1 := IntWalk.i64_in _ ⟨by omega, by omega⟩
  go_enter Try.func42, Try.ntmps42
  go_wp2_with fail
  clear x0 x1 x2 x3 x4
  go_loopw [5, 6, 7, 10] (fun _ _ _ i wr => ∃ j : Nat, i = .int .i64 j ∧ j ≤ S ∧ Hid ((List.range j).all (eq2 A B C S k) = true) ∧ Hid (Below w.heap.size w wr)) (fun _ _ _ i _ => S - (intOf i).toNat)
  case atStart => exact ⟨0, rfl, Nat.zero_le _, hid rfl, hid (Below.refl _ _)⟩
  case round =>
    obtain ⟨j, rfl, hj, hA, hB⟩ := hrel
    obtain ⟨W0, rfl⟩ : ∃ W0 : World, W0 = wr := ⟨_, rfl⟩
    have HW0 := hid (HE.out.below hB.out)
    by_cases hlt : j < S
    · have hki : (j : Int) < (S : Int) := by omega
      obtain ⟨x0, x1, x2, x3, x4⟩ := HW0.out.cells
      go_wp2_with fail
      clear x0 x1 x2 x3 x4
      go_loopw [6, 7, 15] (fun s _ i wr => ∃ (i0 : Nat) (n0 : Int), i = .int .i64 i0 ∧ s = .int .i64 n0 ∧ i0 ≤ S ∧ Hid (n0 = M.dotL ((wgt B C k).take i0) ((colL A S j).take i0)) ∧ Hid (Below w.heap.size w wr)) (fun _ _ i _ => S - (intOf i).toNat)
      case atStart => exact ⟨0, 0, rfl, rfl, Nat.zero_le _, hid rfl, hB⟩
      case round =>
        clear hB HW0
        obtain ⟨i, n0, rfl, rfl, hi, hD, hB⟩ := hrel
        obtain ⟨W, rfl⟩ : ∃ W : World, W = wr := ⟨_, rfl⟩
        have HW := hid (HE.out.below hB.out)
        by_cases hli : i < S
        · have hii : (i : Int) < (S : Int) := by omega
          obtain ⟨b2, f2, x, rfl, hc2, _, _, hx⟩ := HW.out.rB.at hli
          obtain ⟨b3, f3, y, rfl, hc3, _, _, hy⟩ := HW.out.rC.at hli
          have HC2 : Hid (∀ wc, Below W.heap.size W wc → wc.cell? ⟨b2, f2 + i, none⟩ = some (.int .i64 x)) := hid fun wc h => (h.cell (World.block_lt_of_cell? W _ hc2)).trans hc2
          have HC3 : Hid (∀ wc, Below W.heap.size W wc → wc.cell? ⟨b3, f3 + i, none⟩ = some (.int .i64 y)) := hid fun wc h => (h.cell (World.block_lt_of_cell? W _ hc3)).trans hc3
          have HST := hid (show M.plus n0 (M.times (M.times x (M.powr y ((k : Int) - 1))) (A.getD (i * S + j) 0)) = M.dotL ((wgt B C k).take (i + 1)) ((colL A S j).take (i + 1)) from
            dot_step (by rw [HLW.out]; exact hli) (by rw [colL_len]; exact hli) hD.out (wgt_at HW.out.rB.len HW.out.rC.len hli hx.out hy.out) (colL_at hli).symm)
          clear hc2 hc3
          have hS0 := hid (show Below W.heap.size W W.drew from (Below.refl _ _).drew)
          go_wp2_with fail
          refine wp_region_calm (C := fun wc => Below W.heap.size W wc) rfl (by kernel_rfl) hS0.out ?_
          (refine quiet_stepH (fun K hK => ?_); refine q_val ?_ (by rfl) ?_ ?_; rotate_left 1; (focus (intro wc hC; skip; go_simp; try rfl)); go_simp; refine hK.out _ ?_; clear hK K)
          (refine quiet_stepH (fun K hK => ?_); refine q_val ?_ (by rfl) ?_ ?_; rotate_left 1; (focus (intro wc hC; skip; go_simp; try rfl)); go_simp; refine hK.out _ ?_; clear hK K)
          (refine quiet_stepH (fun K hK => ?_); refine q_val ?_ (by rfl) ?_ ?_; rotate_left 1; (focus (intro wc hC; obtain ⟨u0, u1, u2, u3, u4⟩ := (HW.out.below hC).cells; go_simp; try rfl)); go_simp; refine hK.out _ ?_; clear hK K)
          (refine quiet_stepH (fun K hK => ?_); refine q_val ?_ (by rfl) ?_ ?_; rotate_left 1; (focus (intro wc hC; skip; go_simp; try rfl)); go_simp; refine hK.out _ ?_; clear hK K)
          (refine quiet_stepH (fun K hK => ?_); refine q_val ?_ (by rfl) ?_ ?_; rotate_left 1; (focus (intro wc hC; skip; go_simp; try rfl)); go_simp; refine hK.out _ ?_; clear hK K)
          (refine quiet_stepH (fun K hK => ?_); refine q_val ?_ (by rfl) ?_ ?_; rotate_left 1; (focus (intro wc hC; have u5 := HC2.out wc hC; go_simp; try rfl)); go_simp; refine hK.out _ ?_; clear hK K)
          (refine quiet_stepH (fun K hK => ?_); refine q_val ?_ (by rfl) ?_ ?_; rotate_left 1; (focus (intro wc hC; obtain ⟨u0, u1, u2, u3, u4⟩ := (HW.out.below hC).cells; go_simp; try rfl)); go_simp; refine hK.out _ ?_; clear hK K)
          (refine quiet_stepH (fun K hK => ?_); refine q_val ?_ (by rfl) ?_ ?_; rotate_left 1; (focus (intro wc hC; skip; go_simp; try rfl)); go_simp; refine hK.out _ ?_; clear hK K)
          (refine quiet_stepH (fun K hK => ?_); refine q_val ?_ (by rfl) ?_ ?_; rotate_left 1; (focus (intro wc hC; skip; go_simp; try rfl)); go_simp; refine hK.out _ ?_; clear hK K)
          (refine quiet_stepH (fun K hK => ?_); refine q_val ?_ (by rfl) ?_ ?_; rotate_left 1; (focus (intro wc hC; have u5 := HC3.out wc hC; go_simp; try rfl)); go_simp; refine hK.out _ ?_; clear hK K)
          (refine quiet_stepH (fun K hK => ?_); refine q_val ?_ (by rfl) ?_ ?_; rotate_left 1; (focus (intro wc hC; skip; go_simp; try rfl)); go_simp; refine hK.out _ ?_; clear hK K)
          (refine quiet_stepH (fun K hK => ?_); refine q_val ?_ (by rfl) ?_ ?_; rotate_left 1; (focus (intro wc hC; skip; go_simp; try rfl)); go_simp; refine hK.out _ ?_; clear hK K)
          (refine quiet_stepH (fun K hK => ?_); refine q_call ?_ ?_ ?_ (by rfl) ?_ ?_ ?_; rotate_left 3; (focus (intro wc hC; go_simp; first | done | rfl | (refine And.intro ?_ ?_ <;> rfl))))
          · exact fun wc hC => (impl_Power y ((k : Int) - 1) _ ⟨by omega, by omega⟩).mono fun e w' ⟨e1, e2⟩ => ⟨by rw [e1], e2 ▸ hC⟩
          (go_simp; refine hK.out _ ?_; clear hK K)
          (refine quiet_stepH (fun K hK => ?_); refine q_call ?_ ?_ ?_ (by rfl) ?_ ?_ ?_; rotate_left 3; (focus (intro wc hC; go_simp; first | done | rfl | (refine And.intro ?_ ?_ <;> rfl))))
          · exact fun wc hC => (impl_Times x _ _).mono fun e w' ⟨e1, e2⟩ => ⟨by rw [e1], e2 ▸ hC⟩
          (go_simp; refine hK.out _ ?_; clear hK K)
          (refine quiet_stepH (fun K hK => ?_); refine q_val ?_ (by rfl) ?_ ?_; rotate_left 1; (focus (intro wc hC; obtain ⟨u0, u1, u2, u3, u4⟩ := (HW.out.below hC).cells; go_simp; try rfl)); go_simp; refine hK.out _ ?_; clear hK K)
          (refine quiet_stepH (fun K hK => ?_); refine q_val ?_ (by rfl) ?_ ?_; rotate_left 1; (focus (intro wc hC; skip; go_simp; try rfl)); go_simp; refine hK.out _ ?_; clear hK K)
          (refine quiet_stepH (fun K hK => ?_); refine q_val ?_ (by rfl) ?_ ?_; rotate_left 1; (focus (intro wc hC; skip; go_simp; try rfl)); go_simp; refine hK.out _ ?_; clear hK K)
          (refine quiet_stepH (fun K hK => ?_); refine q_call ?_ ?_ ?_ (by rfl) ?_ ?_ ?_; rotate_left 3; (focus (intro wc hC; go_simp; first | done | rfl | (refine And.intro ?_ ?_ <;> rfl))))
          · exact fun wc hC => (impl_a' i j _ _ (HW.out.below hC).rA hn.out hli hlt hS).mono fun e w' ⟨e1, e2⟩ => ⟨by rw [e1], hC.trans (e2.mono hC.size)⟩
          (go_simp; refine hK.out _ ?_; clear hK K)
          (refine quiet_stepH (fun K hK => ?_); refine q_call ?_ ?_ ?_ (by rfl) ?_ ?_ ?_; rotate_left 3; (focus (intro wc hC; go_simp; first | done | rfl | (refine And.intro ?_ ?_ <;> rfl))))
          · exact fun wc hC => (impl_Times _ _ _).mono fun e w' ⟨e1, e2⟩ => ⟨by rw [e1], e2 ▸ hC⟩
          (go_simp; refine hK.out _ ?_; clear hK K)
          (refine quiet_stepH (fun K hK => ?_); refine q_call ?_ ?_ ?_ (by rfl) ?_ ?_ ?_; rotate_left 3; (focus (intro wc hC; go_simp; first | done | rfl | (refine And.intro ?_ ?_ <;> rfl))))
          · exact fun wc hC => (impl_Plus n0 _ _).mono fun e w' ⟨e1, e2⟩ => ⟨by rw [e1], e2 ▸ hC⟩
          (go_simp; refine hK.out _ ?_; clear hK K)
          (refine quiet_stepH (fun K hK => ?_); refine q_val ?_ (by rfl) ?_ ?_; rotate_left 1; (focus (intro wc hC; skip; go_simp; try rfl)); go_simp; refine hK.out _ ?_; clear hK K)
          refine wpQuiet_nil ?_
          intro wq hq
          have HB2 := hid (hB.out.trans (hq.mono hB.out.size))
          clear hq HC2 HC3 hS0
          go_wp2_with fail
          go_roundw
          case rel => exact ⟨i + 1, _, by go_num, rfl, by omega, hid HST.out, HB2⟩
          case measure => simp [intOf]; omega
        · obtain rfl : i = S := by omega
          have HN0 := hid (show n0 = M.dotL (wgt B C k) (colL A i j) by rw [hD.out, List.take_of_length_le (by rw [HLW.out]; exact Nat.le_refl _), List.take_of_length_le (by rw [colL_len]; exact Nat.le_refl _)])
          obtain ⟨b2, f2, x, rfl, hc2, _, _, hx⟩ := HW.out.rB.at hlt
          obtain ⟨b3, f3, y, rfl, hc3, _, _, hy⟩ := HW.out.rC.at hlt
          have HC2 : Hid (∀ wc, Below W.heap.size W wc → wc.cell? ⟨b2, f2 + j, none⟩ = some (.int .i64 x)) := hid fun wc h => (h.cell (World.block_lt_of_cell? W _ hc2)).trans hc2
          have HC3 : Hid (∀ wc, Below W.heap.size W wc → wc.cell? ⟨b3, f3 + j, none⟩ = some (.int .i64 y)) := hid fun wc h => (h.cell (World.block_lt_of_cell? W _ hc3)).trans hc3
          have hv : eq2 A B C i k j = (n0 == M.frac (M.times x (M.minus 1 (M.powr y k))) k) := by unfold eq2; rw [HN0.out, ← hx.out, ← hy.out]
          clear hc2 hc3
          have hS0 := hid (show Below W.heap.size W W.drew from (Below.refl _ _).drew)
          go_wp2_with fail
          refine wp_region_calm (C := fun wc => Below W.heap.size W wc) rfl (by kernel_rfl) hS0.out ?_
          (refine quiet_stepH (fun K hK => ?_); refine q_val ?_ (by rfl) ?_ ?_; rotate_left 1; (focus (intro wc hC; skip; go_simp; try rfl)); go_simp; refine hK.out _ ?_; clear hK K)
          (refine quiet_stepH (fun K hK => ?_); refine q_val ?_ (by rfl) ?_ ?_; rotate_left 1; (focus (intro wc hC; skip; go_simp; try rfl)); go_simp; refine hK.out _ ?_; clear hK K)
          (refine quiet_stepH (fun K hK => ?_); refine q_val ?_ (by rfl) ?_ ?_; rotate_left 1; (focus (intro wc hC; obtain ⟨u0, u1, u2, u3, u4⟩ := (HW.out.below hC).cells; go_simp; try rfl)); go_simp; refine hK.out _ ?_; clear hK K)
          (refine quiet_stepH (fun K hK => ?_); refine q_val ?_ (by rfl) ?_ ?_; rotate_left 1; (focus (intro wc hC; skip; go_simp; try rfl)); go_simp; refine hK.out _ ?_; clear hK K)
          (refine quiet_stepH (fun K hK => ?_); refine q_val ?_ (by rfl) ?_ ?_; rotate_left 1; (focus (intro wc hC; skip; go_simp; try rfl)); go_simp; refine hK.out _ ?_; clear hK K)
          (refine quiet_stepH (fun K hK => ?_); refine q_val ?_ (by rfl) ?_ ?_; rotate_left 1; (focus (intro wc hC; have u5 := HC2.out wc hC; go_simp; try rfl)); go_simp; refine hK.out _ ?_; clear hK K)
          (refine quiet_stepH (fun K hK => ?_); refine q_val ?_ (by rfl) ?_ ?_; rotate_left 1; (focus (intro wc hC; obtain ⟨u0, u1, u2, u3, u4⟩ := (HW.out.below hC).cells; go_simp; try rfl)); go_simp; refine hK.out _ ?_; clear hK K)
          (refine quiet_stepH (fun K hK => ?_); refine q_val ?_ (by rfl) ?_ ?_; rotate_left 1; (focus (intro wc hC; skip; go_simp; try rfl)); go_simp; refine hK.out _ ?_; clear hK K)
          (refine quiet_stepH (fun K hK => ?_); refine q_val ?_ (by rfl) ?_ ?_; rotate_left 1; (focus (intro wc hC; skip; go_simp; try rfl)); go_simp; refine hK.out _ ?_; clear hK K)
          (refine quiet_stepH (fun K hK => ?_); refine q_val ?_ (by rfl) ?_ ?_; rotate_left 1; (focus (intro wc hC; have u5 := HC3.out wc hC; go_simp; try rfl)); go_simp; refine hK.out _ ?_; clear hK K)
          (refine quiet_stepH (fun K hK => ?_); refine q_val ?_ (by rfl) ?_ ?_; rotate_left 1; (focus (intro wc hC; skip; go_simp; try rfl)); go_simp; refine hK.out _ ?_; clear hK K)
          (refine quiet_stepH (fun K hK => ?_); refine q_call ?_ ?_ ?_ (by rfl) ?_ ?_ ?_; rotate_left 3; (focus (intro wc hC; go_simp; first | done | rfl | (refine And.intro ?_ ?_ <;> rfl))))
          · exact fun wc hC => (impl_Power y k _ ⟨by omega, by omega⟩).mono fun e w' ⟨e1, e2⟩ => ⟨by rw [e1], e2 ▸ hC⟩
          (go_simp; refine hK.out _ ?_; clear hK K)
          (refine quiet_stepH (fun K hK => ?_); refine q_call ?_ ?_ ?_ (by rfl) ?_ ?_ ?_; rotate_left 3; (focus (intro wc hC; go_simp; first | done | rfl | (refine And.intro ?_ ?_ <;> rfl))))
          · exact fun wc hC => (impl_Minus 1 _ _).mono fun e w' ⟨e1, e2⟩ => ⟨by rw [e1], e2 ▸ hC⟩
          (go_simp; refine hK.out _ ?_; clear hK K)
          (refine quiet_stepH (fun K hK => ?_); refine q_call ?_ ?_ ?_ (by rfl) ?_ ?_ ?_; rotate_left 3; (focus (intro wc hC; go_simp; first | done | rfl | (refine And.intro ?_ ?_ <;> rfl))))
          · exact fun wc hC => (impl_Times x _ _).mono fun e w' ⟨e1, e2⟩ => ⟨by rw [e1], e2 ▸ hC⟩
          (go_simp; refine hK.out _ ?_; clear hK K)
          (refine quiet_stepH (fun K hK => ?_); refine q_val ?_ (by rfl) ?_ ?_; rotate_left 1; (focus (intro wc hC; skip; go_simp; try rfl)); go_simp; refine hK.out _ ?_; clear hK K)
          (refine quiet_stepH (fun K hK => ?_); refine q_call ?_ ?_ ?_ (by rfl) ?_ ?_ ?_; rotate_left 3; (focus (intro wc hC; go_simp; first | done | rfl | (refine And.intro ?_ ?_ <;> rfl))))
          · exact fun wc hC => (impl_Fraction _ k _).mono fun e w' ⟨e1, e2⟩ => ⟨by rw [e1], e2 ▸ hC⟩
          (go_simp; refine hK.out _ ?_; clear hK K)
          (refine quiet_stepH (fun K hK => ?_); refine q_val ?_ (by rfl) ?_ ?_; rotate_left 1; (focus (intro wc hC; skip; go_simp; try rfl)); go_simp; refine hK.out _ ?_; clear hK K)
          refine wpQuiet_nil ?_
          intro wq hq
          have HB2 := hid (hB.out.trans (hq.mono hB.out.size))
          clear hq HC2 HC3 hS0
          cases hq : (n0 == M.frac (M.times x (M.minus 1 (M.powr y k))) k) with
          | true =>
            have hq2 : (n0 != M.frac (M.times x (M.minus 1 (M.powr y k))) k) = false := by rw [bne_beq, hq]; rfl
            have HQ := hid (hv.trans hq)
            clear hv hq
            go_wp2_with fail
            go_roundw
            case rel => exact ⟨j + 1, by go_num, by omega, hid (all_step hA.out HQ.out), HB2⟩
            case measure => simp [intOf]; omega
          | false =>
            have hq2 : (n0 != M.frac (M.times x (M.minus 1 (M.powr y k))) k) = true := by rw [bne_beq, hq]; rfl
            have HQ := hid (hv.trans hq)
            clear hv hq
            go_wp2_with fail
            go_ret
            exact ⟨ret_b (all_stop hlt HQ.out).symm, HB2.out⟩
    · obtain rfl : j = S := by omega
      go_wp2_with fail
      go_ret
      exact ⟨ret_b hA.out.symm, hB.out⟩
end
end Go.Proofs.Ythebegfceaehfaa
