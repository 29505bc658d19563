/- ReduceTableau of the reference. -/
import Derived.Test.YtekojohhjnklkaaRedT
import Derived.Test.YtekojohhjnklkaaMrgS
import Derived.Test.YtekojohhjnklkaaClsS
import Derived.Test.YtekojohhjnklkaaNeedS
import Derived.Test.YtekojohhjnklkaaChS
import Derived.Test.YtekojohhjnklkaaRdcI
namespace Go.Proofs.Ytekojohhjnklkaa
open Go.RowKit

/-- Where the loop stands: the tableau x in the variable's block xb. -/
structure Rq (w : World) (lo xb : Nat) (wr : World) (x : Red.Tt) (a1 : Option Addr) (n1 c1 : Nat) (a2 : Option Addr) (c2 : Nat) : Prop where
  box : wr.heap[xb]? = some (.cells #[.int .i64 x.st, .slice a1 n1 c1, .slice a2 x.st c2] 27 (0, 0))
  res : wr.heap[w.heap.size + 1]? = some (.cells #[.int .i64 0, .slice none 0 0, .slice none 0 0] 27 (0, 0))
  l : Below w.heap.size w wr
  fA : Fr wr lo a1 n1 c1 x.A
  fB : Fr wr lo a2 x.st c2 x.B
  sep : Sep a1 n1 a2 x.st
  n : n1 = x.st * x.st
  s8 : x.st ≤ 8
  lo1 : w.heap.size + 1 < lo
  lo2 : lo ≤ xb
theorem Rq.below {w wr w' : World} {lo xb : Nat} {x : Red.Tt} {a1 : Option Addr} {n1 c1 : Nat} {a2 : Option Addr} {c2 : Nat} (h : Rq w lo xb wr x a1 n1 c1 a2 c2) (hB : Below wr.heap.size wr w') : Rq w lo xb w' x a1 n1 c1 a2 c2 :=
  ⟨bk_below h.box hB, bk_below h.res hB, l_below h.l hB, h.fA.below hB, h.fB.below hB, h.sep, h.n, h.s8, h.lo1, h.lo2⟩
theorem Rq.stM {w wr : World} {lo xb : Nat} {x : Red.Tt} {a1 : Option Addr} {n1 c1 : Nat} {a2 : Option Addr} {c2 : Nat} (h : Rq w lo xb wr x a1 n1 c1 a2 c2) : stM wr xb = x.st := stM_at (blk3 h.box).1.1
theorem Rq.next {w wr V U : World} {lo xb : Nat} {x z : Red.Tt} {a1 : Option Addr} {n1 c1 : Nat} {a2 : Option Addr} {c2 : Nat} (h : Rq w lo xb wr x a1 n1 c1 a2 c2) (hV : Below wr.heap.size wr V) {p : Option Addr} {n c : Nat} {q : Option Addr} {d : Nat} (hT : NewT V U z.A z.B p n c q z.st d) (hn : n = z.st * z.st) (h8 : z.st ≤ 8) :
    Rq w lo xb (((U.setCell ⟨xb, 0, none⟩ (.int .i64 z.st)).setCell ⟨xb, 1, none⟩ (.slice p n c)).setCell ⟨xb, 2, none⟩ (.slice q z.st d)) z p n c q d := by
  have hU := h.below (hV.trans (hT.2.2.2.mono hV.size))
  have hlt : xb < V.heap.size := Nat.lt_of_lt_of_le (bk_lt h.box) hV.size
  have h1 := h.lo1
  have h2 := h.lo2
  refine ⟨heap_setCell_same _ _ _ _ _ _ (heap_setCell_same _ _ _ _ _ _ (heap_setCell_same _ _ _ _ _ _ hU.box)), ?_, ((hU.l.setCell (by simp; omega) _).setCell (by simp; omega) _).setCell (by simp; omega) _, ?_, ?_, hT.2.2.1, hn, h8, h1, h2⟩
  · exact (heap_setCell_other _ _ _ _ (by simp; omega)).trans ((heap_setCell_other _ _ _ _ (by simp; omega)).trans ((heap_setCell_other _ _ _ _ (by simp; omega)).trans hU.res))
  · exact (fr_set (fr_set (fr_set hT.1 _ hlt) _ hlt) _ hlt).mono (by omega)
  · exact (fr_set (fr_set (fr_set hT.2.1 _ hlt) _ hlt) _ hlt).mono (by omega)
theorem Rq.done {w wr : World} {lo xb : Nat} {x : Red.Tt} {a1 : Option Addr} {n1 c1 : Nat} {a2 : Option Addr} {c2 : Nat} (h : Rq w lo xb wr x a1 n1 c1 a2 c2) (u v t : Value) :
    NewT w (((wr.setCell ⟨w.heap.size + 1, 0, none⟩ u).setCell ⟨w.heap.size + 1, 1, none⟩ v).setCell ⟨w.heap.size + 1, 2, none⟩ t) x.A x.B a1 n1 c1 a2 x.st c2 := by
  have h1 := h.lo1
  exact ⟨(fr_set (fr_set (fr_set h.fA _ h1) _ h1) _ h1).mono (by omega), (fr_set (fr_set (fr_set h.fB _ h1) _ h1) _ h1).mono (by omega), h.sep, ((h.l.setCell (by simp) _).setCell (by simp) _).setCell (by simp) _⟩
def mz (n : Value) (s : Nat) : Nat := 2 * s + (if intOf n = (s : Int) then 0 else 1)
theorem mz_lt {z : Int} {s s' : Nat} (h : z ≠ (s : Int)) (hle : s' ≤ s) : mz (.int .i64 (s : Int)) s' < mz (.int .i64 z) s := by
  unfold mz
  show 2 * s' + (if (s : Int) = (s' : Int) then 0 else 1) < 2 * s + (if z = (s : Int) then 0 else 1)
  rw [if_neg h]
  split <;> omega
/-- What the loop knows of the answer. -/
structure Rz (x0 x : Red.Tt) (z : Int) : Prop where
  go : z ≠ (x.st : Int) → Red.red x0 = Red.red x
  stop : z = (x.st : Int) → Red.red x0 = x
theorem Rz.step {x0 x y : Red.Tt} {z : Int} (h : Rz x0 x z) (hz : z ≠ (x.st : Int)) (hy : y = Red.stepT x) : Rz x0 y (x.st : Int) := by
  subst hy
  refine ⟨fun e => (h.go hz).trans (Red.red_go (fun e2 => e (by rw [e2]))), fun e => (h.go hz).trans (Red.red_stop (by omega))⟩

set_option maxRecDepth 20000 in
set_option maxHeartbeats 8000000 in
theorem spec_ReduceTableau_yes (S : Nat) (a1 : Option Addr) (n1 c1 : Nat) (A : List Int) (a2 : Option Addr) (c2 : Nat) (B : List Int) (w : World) (h1 : Rd w a1 n1 c1 A) (h2 : Rd w a2 S c2 B) (hok : tabOk S A B = true) (e1 : n1 = S * S) (hS : S ≤ 8) :
    Calls Try.prog 46 #[.agg #[.int .i64 S, .slice a1 n1 c1, .slice a2 S c2]] w fun e w' => ∃ p n c q m d, e = .returned (.agg #[.int .i64 (Red.red ⟨S, A, B⟩).st, .slice p n c, .slice q m d]) ∧ NewT w w' (Red.red ⟨S, A, B⟩).A (Red.red ⟨S, A, B⟩).B p n c q m d := by
  have HN := hid hok
  have H1 := hid h1
  have H2 := hid h2
  have E1 := hid e1
  have K0 := hid (bk_alloc (bk_new w #[.int .i64 S, .slice a1 n1 c1, .slice a2 S c2] 27) (.cells #[.int .i64 0, .slice none 0 0, .slice none 0 0] 27))
  have R0 := hid (heap_alloc_at (w.alloc (.cells #[.int .i64 S, .slice a1 n1 c1, .slice a2 S c2] 27)) #[.int .i64 0, .slice none 0 0, .slice none 0 0] 27 (w.heap.size + 1) (by simp))
  have L0 := hid (l_alloc (below_box w (.cells #[.int .i64 S, .slice a1 n1 c1, .slice a2 S c2] 27)) (.cells #[.int .i64 0, .slice none 0 0, .slice none 0 0] 27))
  clear h1 h2 hok e1
  generalize hx0 : (⟨S, A, B⟩ : Red.Tt) = x0
  have HX0 := hid hx0
  clear hx0
  go_enter Try.func46, Try.ntmps46
  go_wp2_with fail
  refine (spec_TableauOk _ _ _ _ A _ _ _ B _ (H1.out.below L0.out) (H2.out.below L0.out)).mono ?_
  rw [HN.out]
  rintro e w1 ⟨rfl, hB⟩
  have y1 := hB.size
  simp only [World.size_alloc] at y1
  have K1 := hid (bk_below K0.out hB)
  have R1 := hid (bk_below R0.out hB)
  have L1 := hid (l_below L0.out hB)
  clear hB K0 R0 L0
  go_wp2_with fail
  go_loopw [3, 4] (fun v i wr => ∃ k : Nat, i = .int .i64 k ∧ k ≤ S ∧ Hid (Ow wr w1.heap.size v k (Red.ints (List.range k))) ∧ Hid (Below w1.heap.size w1 wr)) (fun _ i _ => S - (intOf i).toNat)
  case atStart => exact ⟨0, rfl, Nat.zero_le _, hid (Ow.empty w1 _ (Nat.le_refl _)), hid (below_box _ _)⟩
  case round =>
    obtain ⟨k, rfl, hk, hO, hB⟩ := hrel
    obtain ⟨W, rfl⟩ : ∃ W : World, W = wr := ⟨_, rfl⟩
    have K2 := hid (bk_below K1.out hB.out)
    have R2 := hid (bk_below R1.out hB.out)
    have L2 := hid (l_below L1.out hB.out)
    have y2 := hB.out.size
    obtain ⟨⟨q0, q1, q2⟩, _⟩ := blk3 K2.out
    by_cases hlt : k < S
    · have hki : (k : Int) < (S : Int) := by omega
      have hk64 : I64 (k : Int) := ⟨by omega, by omega⟩
      go_wp2_with (at_builtin; refine wpList_append_int _ rfl _ _ rfl w1.heap.size _ k _ rfl (hO.out.alloc _) _ (k : Int) rfl (cell_one _ _ _) hk64 (by omega) (by simp; omega) ?_; intro v' w3 hO3 hG3)
      rw [← Red.ints_snoc, ← List.range_succ] at hO3
      have O3 := hid hO3
      have B3 := hid ((hB.out.alloc y2 _).grown hG3 (by simp; omega) (fun j hj => (hO.out.lt j hj).1))
      clear hO3 hG3
      go_wp2_with fail
      go_roundw
      case rel => exact ⟨k + 1, by go_num, by omega, O3, B3⟩
      case measure => simp [intOf]; omega
    · obtain rfl : S = k := by omega
      obtain ⟨al, cl, e5, hFr⟩ := hO.out.fr
      subst e5
      have FL := hid hFr.rd
      have AL := hid (show A.length = S * S by rw [H1.out.len]; exact E1.out)
      clear hFr
      go_wp2_with fail
      refine (spec_l6Choose S a1 n1 c1 A a2 c2 B al S cl (Red.ints (List.range S)) _ (H1.out.below L2.out) (H2.out.below L2.out) FL.out E1.out hS hS (by
        intro y hy
        obtain ⟨i, hi, rfl⟩ := List.mem_map.1 hy
        have := List.mem_range.1 hi
        exact ⟨by omega, by omega⟩)).mono ?_
      rintro e W2 ⟨p1, m1, d1, p2, m2, d2, rfl, hT⟩
      rw [all_A AL.out, all_B H2.out.len] at hT
      have hm1 : m1 = S * S := by rw [← AL.out]; exact hT.1.rd.len.symm
      have hm2 : S = m2 := by rw [← H2.out.len]; exact hT.2.1.rd.len
      have y3 := hT.2.2.2.size
      have Q0 := hid (show Rq w w1.heap.size W2.heap.size (W2.alloc (.cells #[.int .i64 S, .slice p1 m1 d1, .slice p2 S d2] 27)) x0 p1 m1 d1 p2 d2 by
        subst hm2
        rw [← HX0.out]
        exact ⟨bk_new _ _ _, bk_alloc (bk_below R2.out hT.2.2.2) _, l_alloc (l_below L2.out hT.2.2.2) _, (hT.1.mono (by omega)).alloc _, (hT.2.1.mono (by omega)).alloc _, hT.2.2.1, hm1, hS, by omega, by omega⟩)
      clear hT hm1 K2 R2 L2 q0 q1 q2 hO hB FL
      subst hm2
      go_wp2_with fail
      clear K1 R1 L1
      go_loopw [6] (fun n wr => ∃ (z : Int) (x : Red.Tt) (a1 : Option Addr) (n1 c1 : Nat) (a2 : Option Addr) (c2 : Nat), n = .int .i64 z ∧ Hid (Rq w w1.heap.size W2.heap.size wr x a1 n1 c1 a2 c2) ∧ Hid (Rz x0 x z)) (fun n wr => mz n (stM wr W2.heap.size))
      case atStart => exact ⟨-1, x0, _, _, _, _, _, rfl, Q0, hid ⟨fun _ => rfl, fun e => by omega⟩⟩
      case round =>
        clear Q0
        obtain ⟨z, x, b1, k1, f1, b2, f2, rfl, hQ, hZ⟩ := hrel
        obtain ⟨X, rfl⟩ : ∃ X : World, X = wr := ⟨_, rfl⟩
        have hbx := hQ.out.box
        obtain ⟨⟨r0, r1, r2⟩, g0, g1, g2⟩ := blk3 hbx
        have hs8 := hQ.out.s8
        have hnl := Red.needT_le x
        have hlo1 := hQ.out.lo1
        have hlo2 := hQ.out.lo2
        by_cases hst : z = (x.st : Int)
        · have hq : (z != (x.st : Int)) = false := by rw [hst]; simp
          have HF := hid (hZ.out.stop hst)
          have hq2 : (z == (x.st : Int)) = true := by rw [hst]; simp
          obtain ⟨⟨t0, t1, t2⟩, f0, f1', f2'⟩ := blk3 hQ.out.res
          clear hbx
          clear hst
          go_wp2_with fail
          exact ret_tab rfl rfl (heap_setCell_same _ _ _ _ _ _ (heap_setCell_same _ _ _ _ _ _ (heap_setCell_same _ _ _ _ _ _ hQ.out.res))) rfl ⟨b1, k1, f1, b2, x.st, f2, by rw [HF.out], by rw [HF.out]; exact hQ.out.done _ _ _⟩
        · have hq : (z != (x.st : Int)) = true := by simpa using hst
          have hq2 : (z == (x.st : Int)) = false := by simpa using hst
          have HST := hid hst
          have HU : Hid (∀ wc, Below X.heap.size X wc → wc.cell? ⟨W2.heap.size, 0, none⟩ = some (.int .i64 x.st) ∧ wc.cell? ⟨W2.heap.size, 1, none⟩ = some (.slice b1 k1 f1) ∧ wc.cell? ⟨W2.heap.size, 2, none⟩ = some (.slice b2 x.st f2)) := hid fun wc h => (blk3 (bk_below hbx h)).1
          have hxl := bk_lt hbx
          clear hbx hst
          go_wp2_with fail
          clear r0 r1 r2 g0 g1 g2
          have vhB1 := hid (show Below X.heap.size X X.drew from (Below.refl _ _).drew)
          refine (fun (HG : Rg _ _ 4) => wp_region_hh (S := fun w' => Below X.heap.size X w') HG rfl ?_) ⟨by kernel_rfl, by decide, by kernel_rfl, by kernel_rfl, fun _ _ d _ _ h => by cases d <;> exact h⟩
          (refine hh_take 0 HG rfl (by decide) (by kernel_rfl) (by kernel_rfl) vhB1.out (fun K hK => ?_); refine take_val ?_ (by rfl) ?_ ?_; rotate_left 1; (focus (intro wc hC; obtain ⟨s1, s2, s3⟩ := HU.out wc hC; go_simp; try rfl)); go_simp; refine hK.out _ ?_; clear hK K)
          (refine hh_take 1 HG rfl (by decide) (by kernel_rfl) (by kernel_rfl) vhB1.out (fun K hK => ?_); refine take_val ?_ (by rfl) ?_ ?_; rotate_left 1; (focus (intro wc hC; obtain ⟨s1, s2, s3⟩ := HU.out wc hC; go_simp; try rfl)); go_simp; refine hK.out _ ?_; clear hK K)
          refine hh_mid 2 rfl (by decide) (by kernel_rfl) (fun K hK => ?_)
          (refine mid_call ?_ ?_ (by rfl) ?_ ?_; rotate_left 2; (focus (go_simp; first | done | rfl | (refine And.intro ?_ ?_ <;> rfl))))
          refine (spec_l6Needed x.st b1 k1 f1 x.A b2 f2 x.B _ (hQ.out.fA.rd.below vhB1.out) (hQ.out.fB.rd.below vhB1.out) hQ.out.n hs8).mono ?_
          rintro e V1 ⟨al, nl, cl, rfl, hN⟩
          have hnl2 : (Red.needT x).length = nl := hN.1.rd.len
          have NL := hid hN.1.rd
          have B1 := hid (vhB1.out.trans (hN.2.mono vhB1.out.size))
          clear hN
          refine ⟨_, rfl, ?_⟩
          (go_simp; refine hK.out _ _ ?_ ?_ <;> clear hK K)
          · exact B1.out
          refine hh_mid 3 rfl (by decide) (by kernel_rfl) (fun K hK => ?_)
          (refine mid_call ?_ ?_ (by rfl) ?_ ?_; rotate_left 2; (focus (go_simp; first | done | rfl | (refine And.intro ?_ ?_ <;> rfl))))
          refine (spec_l6Choose x.st b1 k1 f1 x.A b2 f2 x.B al nl cl (Red.needT x) _ (hQ.out.fA.rd.below B1.out) (hQ.out.fB.rd.below B1.out) NL.out hQ.out.n hs8 (by rw [← hnl2]; exact Nat.le_trans hnl hs8) (Red.needT_in x)).mono ?_
          rintro e V2 ⟨p1', m1', d1', p2', m2', d2', rfl, hT⟩
          obtain ⟨y, hy⟩ : ∃ y, y = Red.pickT x := ⟨_, rfl⟩
          have hys : nl = y.st := by rw [hy]; exact hnl2.symm
          have hyA : firstN (chE x.A (Red.needT x) x.st nl) (nl * nl) = y.A := by rw [hy, ← hnl2]; rfl
          have hyB : firstN (chB x.B (Red.needT x)) nl = y.B := by rw [hy, ← hnl2]; rfl
          have hm1 : m1' = nl * nl := by have h := hT.1.rd.len; rw [firstN_len] at h; exact h.symm
          have hm2 : m2' = nl := by have h := hT.2.1.rd.len; rw [firstN_len] at h; exact h.symm
          have hy8 : y.st ≤ 8 := by rw [← hys, ← hnl2]; exact Nat.le_trans hnl hs8
          rw [hyA, hyB] at hT
          clear hyA hyB hnl2 NL
          subst hys
          subst hm2
          have T2 := hid hT
          have HY := hid hy
          have HM1 := hid hm1
          have B2 := hid (B1.out.trans (hT.2.2.2.mono B1.out.size))
          clear hT hy hm1
          refine ⟨_, rfl, ?_⟩
          (go_simp; refine hK.out _ _ ?_ ?_ <;> clear hK K)
          · exact B2.out
          refine hh_done (by kernel_rfl) ?_
          simp only [List.drop_succ_cons, List.drop_zero]
          change wpList _ _ _ _ _ _
          have QP := hid (Rq.next hQ.out B1.out T2.out HM1.out hy8)
          obtain ⟨⟨s0, s1, s2⟩, j0, j1, j2⟩ := blk3 (hQ.out.below B2.out).box
          go_wp2_with fail
          clear s0 s1 s2 j0 j1 j2
          generalize ((V2.setCell ⟨W2.heap.size, 0, none⟩ (.int .i64 y.st)).setCell ⟨W2.heap.size, 1, none⟩ (.slice p1' m1' d1')).setCell ⟨W2.heap.size, 2, none⟩ (.slice p2' y.st d2') = X1 at QP ⊢
          have hbx1 := QP.out.box
          have HU2 : Hid (∀ wc, Below X1.heap.size X1 wc → wc.cell? ⟨W2.heap.size, 0, none⟩ = some (.int .i64 y.st) ∧ wc.cell? ⟨W2.heap.size, 1, none⟩ = some (.slice p1' m1' d1') ∧ wc.cell? ⟨W2.heap.size, 2, none⟩ = some (.slice p2' y.st d2')) := hid fun wc h => (blk3 (bk_below hbx1 h)).1
          have hxl1 := bk_lt hbx1
          clear hbx1
          have uhB1 := hid (show Below X1.heap.size X1 X1.drew from (Below.refl _ _).drew)
          refine (fun (HG : Rg _ _ 4) => wp_region_hh (S := fun w' => Below X1.heap.size X1 w') HG rfl ?_) ⟨by kernel_rfl, by decide, by kernel_rfl, by kernel_rfl, fun _ _ d _ _ h => by cases d <;> exact h⟩
          (refine hh_take 0 HG rfl (by decide) (by kernel_rfl) (by kernel_rfl) uhB1.out (fun K hK => ?_); refine take_val ?_ (by rfl) ?_ ?_; rotate_left 1; (focus (intro wc hC; obtain ⟨s1, s2, s3⟩ := HU2.out wc hC; go_simp; try rfl)); go_simp; refine hK.out _ ?_; clear hK K)
          (refine hh_take 1 HG rfl (by decide) (by kernel_rfl) (by kernel_rfl) uhB1.out (fun K hK => ?_); refine take_val ?_ (by rfl) ?_ ?_; rotate_left 1; (focus (intro wc hC; obtain ⟨s1, s2, s3⟩ := HU2.out wc hC; go_simp; try rfl)); go_simp; refine hK.out _ ?_; clear hK K)
          refine hh_mid 2 rfl (by decide) (by kernel_rfl) (fun K hK => ?_)
          (refine mid_call ?_ ?_ (by rfl) ?_ ?_; rotate_left 2; (focus (go_simp; first | done | rfl | (refine And.intro ?_ ?_ <;> rfl))))
          refine (spec_l6Classes y.st p1' m1' d1' y.A p2' y.st d2' _ (QP.out.fA.rd.below uhB1.out) QP.out.n hy8).mono ?_
          rintro e V3 ⟨ac, cc, rfl, hN⟩
          have NC := hid hN.1.rd
          have B3 := hid (uhB1.out.trans (hN.2.mono uhB1.out.size))
          clear hN
          refine ⟨_, rfl, ?_⟩
          (go_simp; refine hK.out _ _ ?_ ?_ <;> clear hK K)
          · exact B3.out
          refine hh_mid 3 rfl (by decide) (by kernel_rfl) (fun K hK => ?_)
          (refine mid_call ?_ ?_ (by rfl) ?_ ?_; rotate_left 2; (focus (go_simp; first | done | rfl | (refine And.intro ?_ ?_ <;> rfl))))
          refine (spec_l6Merge y.st p1' m1' d1' y.A p2' d2' y.B ac cc (Red.classes y.A y.st) _ (QP.out.fA.rd.below B3.out) (QP.out.fB.rd.below B3.out) NC.out QP.out.n hy8 (Red.rounds_cls y.A y.st y.st) (cn := (Red.mrgT y).st) rfl).mono ?_
          rintro e V4 ⟨q1', k1', e1', q2', k2', e2', rfl, hT⟩
          have hT : NewT V3 V4 (Red.mrgT y).A (Red.mrgT y).B q1' k1' e1' q2' k2' e2' := hT
          obtain ⟨zz, hzz⟩ : ∃ zz, zz = Red.mrgT y := ⟨_, rfl⟩
          have hz2 : zz = Red.stepT x := by rw [hzz, HY.out]; rfl
          have hzl : zz.A.length = zz.st * zz.st ∧ zz.B.length = zz.st := by rw [hz2]; exact Red.stepT_len x
          have hzs : zz.st ≤ x.st := by rw [hz2]; exact Red.stepT_le x
          rw [← hzz] at hT ⊢
          have hk1 : k1' = zz.st * zz.st := by rw [← hzl.1]; exact hT.1.rd.len.symm
          have hk2 : k2' = zz.st := by rw [← hzl.2]; exact hT.2.1.rd.len.symm
          clear hzz hzl
          subst hk2
          have T4 := hid hT
          have HZZ := hid hz2
          have HK1 := hid hk1
          have B4 := hid (B3.out.trans (hT.2.2.2.mono B3.out.size))
          clear hT hz2 hk1
          refine ⟨_, rfl, ?_⟩
          (go_simp; refine hK.out _ _ ?_ ?_ <;> clear hK K)
          · exact B4.out
          refine hh_done (by kernel_rfl) ?_
          simp only [List.drop_succ_cons, List.drop_zero]
          change wpList _ _ _ _ _ _
          have QZ := hid (Rq.next QP.out B3.out T4.out HK1.out (Nat.le_trans hzs hs8))
          have HZN := hid (hZ.out.step HST.out HZZ.out)
          obtain ⟨⟨s0, s1, s2⟩, j0, j1, j2⟩ := blk3 (QP.out.below B4.out).box
          go_wp2_with fail
          go_roundw
          case rel => exact ⟨(x.st : Int), zz, _, _, _, _, _, rfl, QZ, HZN⟩
          case measure =>
            have e1 := hQ.out.stM
            have e2 := QZ.out.stM
            rw [e1, e2]
            exact mz_lt HST.out hzs
theorem spec_ReduceTableau_no (s : Int) (a1 : Option Addr) (n1 c1 : Nat) (A : List Int) (a2 : Option Addr) (n2 c2 : Nat) (B : List Int) (w : World) (h1 : Rd w a1 n1 c1 A) (h2 : Rd w a2 n2 c2 B) (hno : tabOk s A B = false) :
    Calls Try.prog 46 #[.agg #[.int .i64 s, .slice a1 n1 c1, .slice a2 n2 c2]] w fun e w' => ∃ p n c q m d, e = .returned (.agg #[.int .i64 0, .slice p n c, .slice q m d]) ∧ NewT w w' [] [] p n c q m d := by
  have HN := hid hno
  have S0 := hid ((St.first w #[.int .i64 s, .slice a1 n1 c1, .slice a2 n2 c2] 27).alloc (.cells #[.int .i64 0, .slice none 0 0, .slice none 0 0] 27))
  go_enter Try.func46, Try.ntmps46
  go_wp2_with fail
  refine (spec_TableauOk _ _ _ _ A _ _ _ B _ ((h1.alloc _).alloc _) ((h2.alloc _).alloc _)).mono ?_
  rw [HN.out]
  rintro e w1 ⟨rfl, hB⟩
  have S1 := hid (S0.out.step hB)
  have hr := bk_below (heap_alloc_at (w.alloc (.cells #[.int .i64 s, .slice a1 n1 c1, .slice a2 n2 c2] 27)) #[.int .i64 0, .slice none 0 0, .slice none 0 0] 27 (w.heap.size + 1) (by simp)) hB
  have HRS := hid hr
  obtain ⟨⟨r0, r1, r2⟩, f0, f1, f2⟩ := blk3 hr
  clear hB hr
  go_wp2_with fail
  obtain ⟨e1, e2⟩ := none_end S1.out.below (Nat.le_succ _) HRS.out (.int .i64 0) (.slice none 0 0) (.slice none 0 0)
  exact ret_tab rfl rfl e1 rfl ⟨_, _, _, _, _, _, rfl, e2⟩
theorem spec_ReduceTableau (s : Int) (a1 : Option Addr) (n1 c1 : Nat) (A : List Int) (a2 : Option Addr) (n2 c2 : Nat) (B : List Int) (w : World) (h1 : Rd w a1 n1 c1 A) (h2 : Rd w a2 n2 c2 B)
    {rs : Int} {rA rB : List Int} {rb : Bool} (hr : redV s A B = ⟨rs, rA, rB, rb⟩) :
    Calls Try.prog 46 #[.agg #[.int .i64 s, .slice a1 n1 c1, .slice a2 n2 c2]] w fun e w' => ∃ p n c q m' d', e = .returned (.agg #[.int .i64 rs, .slice p n c, .slice q m' d']) ∧ NewT w w' rA rB p n c q m' d' := by
  cases hok : tabOk s A B with
  | false =>
    rw [redV_no hok] at hr
    cases hr
    exact spec_ReduceTableau_no s a1 n1 c1 A a2 n2 c2 B w h1 h2 hok
  | true =>
    obtain ⟨S, rfl, hS, e1, e2, _⟩ := tabOk_parts hok h1.len h2.len
    rw [redV_yes hok] at hr
    cases hr
    subst e2
    exact spec_ReduceTableau_yes n2 a1 n1 c1 A a2 c2 B w h1 h2 hok e1 hS
end Go.Proofs.Ytekojohhjnklkaa
