/- Merged texts: SolS, SolI, Dot. -/
import Derived.Test.YthebegfceaehfaaDoorKt12
import Derived.Test.YthebegfceaehfaaDoorKt15
import Derived.Test.YthebegfceaehfaaDoorKt4
/- SolS: l1Copy and SolveSystem of the specification, at a system of n rows of n numbers whose kernel is trivial. -/
namespace Go.Proofs.YthebegfceaehfaaDoor
open Go.RowKit Sol
attribute [local irreducible] M.powr

/-- The matrix with the right sides behind it. -/
def aug (m : Nat → Nat → Int) (g : Nat → Int) (n : Nat) : Nat → Nat → Int := fun i j => if j = n then g i else m i j
theorem fresh_of {x : Value} {b0 s : Nat} (h : x.ownBlock = some b0 ∨ x.ownBlock = some s) {l : Nat} (h1 : l ≤ b0) (h2 : l ≤ s) : x.ownBlock ≠ none ∧ ∀ q, x.ownBlock = some q → l ≤ q := by
  rcases h with e | e
  · exact ⟨by rw [e]; simp, fun q hq => by rw [e] at hq; cases hq; exact h1⟩
  · exact ⟨by rw [e]; simp, fun q hq => by rw [e] at hq; cases hq; exact h2⟩
set_option maxHeartbeats 2000000 in
theorem spec_l1Copy (n ob c : Nat) (m : Nat → Nat → Int) (w : World) (h : Rm w ob n m) (h1 : 1 ≤ n) (h8 : n ≤ 8) :
    Calls Tryd.prog 91 #[.slice (some ⟨ob, 0, none⟩) n c] w fun e w' => ∃ v ro, e = .returned v ∧ Gr w' w.heap.size v n ro (fun _ => n) m ∧ Below w.heap.size w w' := by
  have H := hid h
  clear h
  go_enter Tryd.func91, Tryd.ntmps91
  go_wp2_with fail
  go_loopw [3, 4] (fun v i wr => ∃ (k : Nat) (ro : Nat → Value), i = .int .i64 k ∧ k ≤ n ∧ Hid (Gr wr w.heap.size v k ro (fun _ => n) m) ∧ Hid (Below w.heap.size w wr)) (fun _ i _ => n - (intOf i).toNat)
  case atStart => exact ⟨0, fun _ => .slice none 0 0, rfl, Nat.zero_le _, hid (Gr.empty _ _ (Nat.le_refl _) _ _ _), hid (below_box _ _)⟩
  case round =>
    obtain ⟨k, ro, rfl, hk, hG, hB⟩ := hrel
    obtain ⟨vo, vc, rfl, _, _⟩ := hG.out.fr
    by_cases hlt : k < n
    · have hki : (k : Int) < (n : Int) := by omega
      obtain ⟨ao, c1, u0, hr⟩ := (H.out.below hB.out) k hlt
      have HR := hid hr
      have hs := hB.out.size
      have u1 : (wr.alloc (.cells #[] 3)).cell? ⟨ob, k, none⟩ = some (.slice ao n c1) := ((below_box wr _).cell (World.block_lt_of_cell? wr _ u0)).trans u0
      clear hr u0
      have O0 := hid (Ow.empty wr w.heap.size hs)
      go_wp2_with (at_builtin; first
        | ((refine wpList_append_ints _ rfl _ _ rfl w.heap.size _ 0 _ rfl O0.out ao n c1 (rowF m n k) rfl (HR.out.alloc _) (by omega) (by simp; omega) ?_); intro ao' c' w2 hO2 hG2 hW2; simp only [Nat.zero_add, List.nil_append] at hO2 hW2 ⊢; have hs2 := hG2.size; simp only [World.size_alloc] at hs2; obtain ⟨f1, f2⟩ := fresh_of (l := wr.heap.size) hW2 (Nat.le_refl _) (by simp); obtain ⟨f3, f4⟩ := hG.out.apart f1 f2; have G2 := hid ((hG.out.above (below_box _ _) hG2 (Nat.le_refl _))); have B2 := hid ((hB.out.alloc hs _).grown hG2 (by simp; omega) (fun q hq => by cases hq; exact hs)); have O2 := hid hO2; have F := hid (And.intro f1 (And.intro f3 f4)); clear hO2 hG2 hW2 f1 f2 f3 f4 u1 O0 HR)
        | ((refine wpList_append_row _ rfl _ _ rfl rfl (G2.out.alloc _) (r := m k) (O2.out.alloc _) F.out.1 F.out.2.1 F.out.2.2 _ rfl (cell_one _ _ _) (by omega) (by simp; omega) ?_); intro v' w3 hG3 hg3 _))
      have G3 := hid (Gr.congr (ro' := fun i => if i = k then .slice ao' n c' else ro i) (wd' := fun _ => n) (m' := m) hG3 (fun i hi => rfl) (fun i hi => by simp) (fun i hi j hj => by by_cases e : i = k <;> simp [e]))
      have B3 := hid ((B2.out.alloc (by omega) _).grown hg3 (by simp; omega) (fun q hq => (hG.out.out.lt q hq).1))
      clear hG3 hg3
      go_wp2_with fail
      go_roundw
      case rel => exact ⟨k + 1, _, by go_num, by omega, G3, B3⟩
      case measure => simp [intOf]; omega
    · obtain rfl : k = n := by omega
      go_wp2_with fail
      go_ret
      exact ⟨_, ro, rfl, hG.out, hB.out⟩
def partN (f : Nat → Int) (n k : Nat) : List Int := (List.range k).map f ++ List.replicate (n - k) 0
theorem partN_zero (f : Nat → Int) (n : Nat) : partN f n 0 = List.replicate n 0 := by simp [partN]
theorem partN_end (f : Nat → Int) (n : Nat) : partN f n n = (List.range n).map f := by simp [partN]
theorem partN_step (f : Nat → Int) {n k : Nat} (h : k < n) : (partN f n k).set k (f k) = partN f n (k + 1) := by
  unfold partN
  rw [List.set_append_right _ _ (by simp), List.length_map, List.length_range, Nat.sub_self, show n - k = (n - (k + 1)) + 1 by omega, List.replicate_succ, List.set_cons_zero, List.range_succ, List.map_append, List.append_assoc]
  rfl
theorem rng_at (f : Nat → Int) {n k : Nat} (h : k < n) : ((List.range n).map f).getD k 0 = f k := by simp [List.getD, h]
/-- What the two SolveSystem answer. -/
def solL (m : Nat → Nat → Int) (g : Nat → Int) (n : Nat) : List Int := (List.range n).map fun i => (red n n (aug m g n)).1 i n
theorem aug_num {m : Nat → Nat → Int} {g : Nat → Int} {n : Nat} (hn : ∀ i j, i < n → j < n → M.num (m i j)) (hg : ∀ i, i < n → M.num (g i)) : ∀ i j, i < n → j < n + 1 → M.num (aug m g n i j) := by
  intro i j hi hj
  unfold aug
  split
  · exact hg i hi
  · exact hn i j hi (by omega)
set_option maxRecDepth 20000 in
set_option maxHeartbeats 4000000 in
theorem spec_SolveSystem (n ob c : Nat) (m : Nat → Nat → Int) (ar : Option Addr) (cr : Nat) (g : Nat → Int) (w : World) (h : Rm w ob n m) (h1 : 1 ≤ n) (h8 : n ≤ 8) (hn : ∀ i j, i < n → j < n → M.num (m i j)) (hr : Rd w ar n cr ((List.range n).map g)) (hg : ∀ i, i < n → M.num (g i))
    (ht : ∀ x, Ker (aug m g n) n n x → ∀ j, j < n → M.P ∣ x j) :
    Calls Tryd.prog 72 #[.slice (some ⟨ob, 0, none⟩) n c, .slice ar n cr] w fun e w' => ∃ ao cc, e = .returned (.tuple #[.slice ao n cc, .bool true]) ∧ Fr w' w.heap.size ao n cc (solL m g n) ∧ Below w.heap.size w w' := by
  have H := hid h
  have HN := hid hn
  have HR := hid hr
  have HG := hid hg
  have HA := hid (aug_num hn hg)
  have HF := hid ((red_full (Nat.le_succ n) (aug_num hn hg) ht) n (Nat.le_refl _))
  have HAR := hid (M.allNum_of (l := (List.range n).map g) fun x hx => by
    obtain ⟨j, hj, rfl⟩ := List.mem_map.1 hx
    exact hg j (List.mem_range.1 hj))
  have hnz : ((n : Int) != (n : Int)) = false := by simp
  have hn0 : (0 : Int) < (n : Int) := by omega
  clear h hn hr hg ht
  go_enter Tryd.func72, Tryd.ntmps72
  go_wp2_with fail
  refine (spec_l1Rows n ob c m _ H.out h1 h8 HN.out).mono ?_
  rintro e w1 ⟨rfl, hB⟩
  have B1 := hid hB
  have H1 := hid (H.out.below hB)
  clear hB
  go_wp2_with fail
  refine (spec_l1All _ _ _ _ _ (HR.out.below B1.out)).mono ?_
  rw [HAR.out]
  rintro e w1' ⟨rfl, rfl⟩
  obtain ⟨a0, c0, u0, _⟩ := H1.out 0 (by omega)
  go_wp2_with fail
  clear u0
  refine (spec_l1Copy n ob c m _ H1.out h1 h8).mono ?_
  rintro e w2 ⟨v, ro, rfl, hG, hB⟩
  obtain ⟨oc, vc, rfl, hvc, hvm⟩ := hG.slc (by omega)
  have B2 := hid (l_below B1.out hB)
  have G2 := hid (Gr.congr (ro' := ro) (wd' := fun i => if i < 0 then n + 1 else n) (m' := aug m g n) hG (fun i hi => rfl) (fun i hi => by simp) (fun i hi j hj => by unfold aug; rw [if_neg (by omega)]))
  have lo1 := B1.out.size
  clear hG hB
  go_wp2_with fail
  go_loopw [8] (fun i wr => ∃ (k : Nat) (ro : Nat → Value), i = .int .i64 k ∧ k ≤ n ∧ Hid (Gr wr w1.heap.size (.slice (some ⟨oc, 0, none⟩) n vc) n ro (fun i => if i < k then n + 1 else n) (aug m g n)) ∧ Hid (Below w.heap.size w wr)) (fun i _ => n - (intOf i).toNat)
  case atStart => exact ⟨0, ro, rfl, Nat.zero_le _, G2, B2⟩
  case round =>
    clear G2 B2
    obtain ⟨k, ro, rfl, hk, hG, hB⟩ := hrel
    have sz := hB.out.size
    by_cases hlt : k < n
    · have hki : (k : Int) < (n : Int) := by omega
      obtain ⟨ab, cx, ex, hO⟩ := hG.out.pick (k := n) hlt (by simp)
      obtain ⟨u0, u3⟩ := hG.out.cell (ob := oc) rfl hlt
      rw [ex] at u0
      obtain ⟨b, o, y, rfl, u1, y1, y2, hy⟩ := (HR.out.below hB.out).at hlt
      have hb1 : b < w.heap.size := by
        obtain ⟨b', o', e, hc⟩ := HR.out.cell k hlt
        cases e
        exact World.block_lt_of_cell? w _ hc
      have hab := hO.lt ab rfl
      have hoc := hG.out.out.lt oc rfl
      have hne : oc ≠ ab := fun e => hG.out.sep k hlt (by rw [ex, e]; rfl)
      have HO := hid hO
      have EX := hid ex
      clear hO ex
      go_wp2_with fail
      refine (fun (HG : Rg _ _ 13) => wp_region_hh (S := fun w' => w'.cell? ⟨oc, k, none⟩ = some (.slice (some ⟨ab, 0, none⟩) n cx) ∧ w'.cell? ⟨b, o + k, none⟩ = some (.int .i64 y)) HG rfl ?_) ⟨by kernel_rfl, by decide, by kernel_rfl, by kernel_rfl, fun _ _ d _ _ h => by cases d <;> exact h⟩
      have hS0 : Hid (wr.drew.cell? ⟨oc, k, none⟩ = some (.slice (some ⟨ab, 0, none⟩) n cx) ∧ wr.drew.cell? ⟨b, o + k, none⟩ = some (.int .i64 y)) := hid ⟨u0, u1⟩
      (refine hh_take 0 HG rfl (by decide) (by kernel_rfl) (by kernel_rfl) hS0.out (fun K hK => ?_); refine take_val ?_ (by rfl) ?_ ?_; rotate_left 1; (focus (intro wc hC; skip; go_simp; try rfl)); go_simp; refine hK.out _ ?_; clear hK K)
      (refine hh_take 1 HG rfl (by decide) (by kernel_rfl) (by kernel_rfl) hS0.out (fun K hK => ?_); refine take_val ?_ (by rfl) ?_ ?_; rotate_left 1; (focus (intro wc hC; skip; go_simp; try rfl)); go_simp; refine hK.out _ ?_; clear hK K)
      (refine hh_take 2 HG rfl (by decide) (by kernel_rfl) (by kernel_rfl) hS0.out (fun K hK => ?_); refine take_val ?_ (by rfl) ?_ ?_; rotate_left 1; (focus (intro wc hC; skip; go_simp; try rfl)); go_simp; refine hK.out _ ?_; clear hK K)
      (refine hh_take 3 HG rfl (by decide) (by kernel_rfl) (by kernel_rfl) hS0.out (fun K hK => ?_); refine take_val ?_ (by rfl) ?_ ?_; rotate_left 1; (focus (intro wc hC; skip; go_simp; try rfl)); go_simp; refine hK.out _ ?_; clear hK K)
      (refine hh_take 4 HG rfl (by decide) (by kernel_rfl) (by kernel_rfl) hS0.out (fun K hK => ?_); refine take_val ?_ (by rfl) ?_ ?_; rotate_left 1; (focus (intro wc hC; skip; go_simp; try rfl)); go_simp; refine hK.out _ ?_; clear hK K)
      (refine hh_take 5 HG rfl (by decide) (by kernel_rfl) (by kernel_rfl) hS0.out (fun K hK => ?_); refine take_val ?_ (by rfl) ?_ ?_; rotate_left 1; (focus (intro wc hC; obtain ⟨s0, s1⟩ := hC; go_simp; try rfl)); go_simp; refine hK.out _ ?_; clear hK K)
      (refine hh_take 6 HG rfl (by decide) (by kernel_rfl) (by kernel_rfl) hS0.out (fun K hK => ?_); refine take_val ?_ (by rfl) ?_ ?_; rotate_left 1; (focus (intro wc hC; skip; go_simp; try rfl)); go_simp; refine hK.out _ ?_; clear hK K)
      (refine hh_take 7 HG rfl (by decide) (by kernel_rfl) (by kernel_rfl) hS0.out (fun K hK => ?_); refine take_val ?_ (by rfl) ?_ ?_; rotate_left 1; (focus (intro wc hC; skip; go_simp; try rfl)); go_simp; refine hK.out _ ?_; clear hK K)
      (refine hh_take 8 HG rfl (by decide) (by kernel_rfl) (by kernel_rfl) hS0.out (fun K hK => ?_); refine take_val ?_ (by rfl) ?_ ?_; rotate_left 1; (focus (intro wc hC; skip; go_simp; try rfl)); go_simp; refine hK.out _ ?_; clear hK K)
      (refine hh_take 9 HG rfl (by decide) (by kernel_rfl) (by kernel_rfl) hS0.out (fun K hK => ?_); refine take_val ?_ (by rfl) ?_ ?_; rotate_left 1; (focus (intro wc hC; obtain ⟨s0, s1⟩ := hC; go_simp; try rfl)); go_simp; refine hK.out _ ?_; clear hK K)
      refine hh_mid 10 rfl (by decide) (by kernel_rfl) (fun K hK => ?_)
      (refine mid_val ?_ ?_ (by rfl) ?_ ?_; rotate_left 2; (focus (go_simp; first | done | rfl | (refine And.intro ?_ ?_ <;> rfl))); go_simp; refine hK.out _ _ ?_ ?_ <;> clear hK K)
      · exact ⟨((below_box wr.drew _).cell (World.block_lt_of_cell? wr.drew _ hS0.out.1)).trans hS0.out.1, ((below_box wr.drew _).cell (World.block_lt_of_cell? wr.drew _ hS0.out.2)).trans hS0.out.2⟩
      refine hh_mid 11 rfl (by decide) (by kernel_rfl) (fun K hK => ?_)
      refine step_append_ints (by rfl) _ _ (by rfl) w1.heap.size _ n _ (by rfl) (HO.out.drew.alloc _) _ 1 1 [y] (by rfl) (rd_one wr.drew _ _ ⟨y1, y2⟩) (by omega) (by simp; omega) ?_
      intro ao4 c4 w4 hO4 hG4 hW4
      have hS4 : Hid (w4.cell? ⟨oc, k, none⟩ = some (.slice (some ⟨ab, 0, none⟩) n cx) ∧ w4.cell? ⟨b, o + k, none⟩ = some (.int .i64 y)) :=
        hid ⟨hG4.cell (((below_box wr.drew _).cell (World.block_lt_of_cell? wr.drew _ hS0.out.1)).trans hS0.out.1) (by show some oc ≠ some ab; simpa using hne), hG4.cell (((below_box wr.drew _).cell (World.block_lt_of_cell? wr.drew _ hS0.out.2)).trans hS0.out.2) (by show some b ≠ some ab; simp only [ne_eq, Option.some.injEq]; omega)⟩
      have hf4 : w4.frozen? ⟨oc, k, none⟩ = false := (World.frozen?_of_block (hG4.block oc (by simp; omega) (by show some oc ≠ some ab; simpa using hne))).trans (((below_box wr.drew _).frozen hoc.2).trans u3)
      have G4 := hid (Gr.push (hG.out.drew.alloc (.cells #[.int .i64 y] 3)) hlt rfl (x := .slice ao4 (n + 1) c4) (y := y) (by rw [show (if k < k then n + 1 else n) = n by simp]; exact hO4) (by rw [EX.out]; exact hG4) (by rw [EX.out]; exact hW4))
      have B4 := hid (show Below w.heap.size w (w4.setCell ⟨oc, k, none⟩ (.slice ao4 (n + 1) c4)) from ((hB.out.drew.alloc sz _).grown hG4 (by simp; omega) (fun q hq => by cases hq; show w.heap.size ≤ ab; omega)).setCell (by show w.heap.size ≤ oc; omega) _)
      clear hO4 hG4 hW4 u0 u1 u3
      (go_simp; refine hK.out _ _ ?_ ?_ <;> clear hK K)
      · exact hS4.out
      (refine hh_take 12 HG rfl (by decide) (by kernel_rfl) (by kernel_rfl) hS4.out (fun K hK => ?_); refine take_val ?_ (by rfl) ?_ ?_; rotate_left 1; (focus (intro wc hC; skip; go_simp; try rfl)); go_simp; refine hK.out _ ?_; clear hK K)
      refine hh_done (by kernel_rfl) ?_
      simp only [List.drop_succ_cons, List.drop_zero]
      change wpList _ _ _ _ _ _
      obtain ⟨u0, _⟩ := hS4.out
      go_wp2_with fail
      go_roundw
      case rel =>
        refine ⟨k + 1, _, by go_num, by omega, hid (Gr.congr (ro' := fun j => if j = k then .slice ao4 (n + 1) c4 else ro j) G4.out (fun i hi => rfl) (fun i hi => ?_) (fun i hi j hj => ?_)), B4⟩
        · by_cases e : i = k
          · subst e; simp
          · simp only [if_neg e]
            by_cases e2 : i < k
            · rw [if_pos e2, if_pos (by omega)]
            · rw [if_neg e2, if_neg (by omega)]
        · by_cases e : i = k
          · subst e
            simp only [if_pos, Nat.lt_irrefl, if_false]
            unfold aug
            by_cases e2 : j = n
            · subst e2
              rw [if_pos rfl, if_pos rfl, hy.out, rng_at g hlt]
            · rw [if_neg e2, if_neg e2]
          · simp only [if_neg e]
      case measure => simp [intOf]; omega
    · obtain rfl : k = n := by omega
      obtain ⟨oc', vc', hb, hc, ev, _, _, hM⟩ := hG.out.mat (by omega) (W := k + 1) (fun i hi => by simp [hi]) HA.out
      cases ev
      have HM := hid hM
      clear hM
      go_wp2_with fail
      refine (spec_l1Reduce k vc _ HM.out (by omega) h8 (by omega) hvc).mono ?_
      rintro e w4 ⟨ao, nn, cc, hb', hc', rfl, hlen, hF, hM, hB4⟩
      obtain ⟨hI, hL⟩ := HF.out
      rw [hL] at hlen hF
      obtain rfl : k = nn := by simpa using hlen
      have HFA := hid hF
      have HM2 := hid hM
      have B4 := hid (hB.out.trans (hB4.mono lo1))
      clear hlen hF hM hB4 HM hI hL
      have HSL : solL m g k = (List.range k).map fun i => (red k k (aug m g k)).1 i k := rfl
      generalize (red k k (aug m g k)).1 = R at HM2 HSL
      have HSLH := hid HSL
      clear HSL
      have hR : Hid (partN (fun i => R i k) k k = (List.range k).map fun i => R i k) := hid (partN_end _ _)
      go_wp2_with (at_make; refine wpList_make_ints _ rfl _ _ rfl k rfl rfl (by omega) ?_; intro w5 hB5 hS5 hF5)
      have B5 := hid (l_below B4.out hB5)
      have HM5 := hid (HM2.out.below hB5)
      have HFA5 := hid (HFA.out.below hB5)
      have hF5' := hF5
      rw [← partN_zero (fun i => R i k) k] at hF5'
      have HF5 := hid hF5'
      have hz4 : wr.heap.size ≤ w4.heap.size := HM2.out.tp
      have sz4 := B4.out.size
      have haA := hid (HFA.out.blkN_bd)
      clear hB5 hF5 hF5' HM2 HFA B4
      go_loopw [11] (fun i wq => ∃ j : Nat, i = .int .i64 j ∧ j ≤ k ∧ Hid (Mat wq w1.heap.size wr.heap.size oc k (k + 1) hb' hc' R) ∧ Hid (Fr wq wr.heap.size ao k cc ((List.range k).map fun x : Nat => (x : Int))) ∧ Hid (Fr wq w4.heap.size (some ⟨w4.heap.size, 0, none⟩) k k (partN (fun i => R i k) k j)) ∧ Hid (Below w.heap.size w wq)) (fun i _ => k - (intOf i).toNat)
      case atStart => exact ⟨0, rfl, Nat.zero_le _, HM5, HFA5, HF5, B5⟩
      case round =>
        clear HM5 HFA5 HF5 B5
        obtain ⟨j, rfl, hj, hM, hA, hF, hB⟩ := hrel
        by_cases hjk : j < k
        · have hji : (j : Int) < (k : Int) := by omega
          obtain ⟨b2, o2, x, rfl, v1, _, _, hx⟩ := hA.out.rd.at hjk
          obtain rfl : x = (j : Int) := hx.out.trans (rng_at (fun x : Nat => (x : Int)) hjk)
          clear hx
          have hb2 := haA.out b2 (by unfold blkN blk; rw [if_neg (by omega)]; rfl)
          have v2 := (hM.out.out j hjk).1
          obtain ⟨z, hz⟩ : ∃ z, z = R j k := ⟨_, rfl⟩
          have v3 := (hM.out.row j hjk k (by omega)).1
          have hzn := hM.out.num j k hjk (by omega)
          rw [← hz] at v3 hzn
          have HZ := hid hz
          have HZN := hid hzn
          clear hz hzn
          obtain ⟨b3, o3, y, e3, v4, _, _, _⟩ := hF.out.rd.at hjk
          simp only [Option.some.injEq, Addr.mk.injEq, and_true] at e3
          obtain ⟨rfl, rfl⟩ := e3
          have v5 := (hF.out.own _ _ _ rfl (by omega)).2 j hjk
          simp only [Nat.zero_add] at v4 v5
          go_wp2_with fail
          go_region
          go_wp2_with fail
          go_roundw
          case rel =>
            have hst := hF.out.store hjk (x := z) (I64.num HZN.out)
            rw [Nat.zero_add, HZ.out, partN_step (fun i => R i k) hjk, ← HZ.out] at hst
            refine ⟨j + 1, by go_num, by omega, hid ((hM.out.grown (grown_setCell _ _ _ _) (fun q hq => by cases hq; exact hz4)).below ((Below.refl _ _).drew)), hid ((hA.out.grown (grown_setCell _ _ _ _) (fun _ => .inl ?_)).below ((Below.refl _ _).drew)), hid (hst.below ((Below.refl _ _).drew)), hid (hB.out.setCell sz4 _).drew⟩
            show some b2 ≠ some w4.heap.size
            simp only [ne_eq, Option.some.injEq]
            omega
          case measure => simp [intOf]; omega
        · obtain rfl : j = k := by omega
          go_wp2_with fail
          go_ret2
          refine ⟨_, _, rfl, ?_, hB.out⟩
          have h9 := hF.out
          rw [hR.out, ← HSLH.out] at h9
          exact h9.mono sz4
end Go.Proofs.YthebegfceaehfaaDoor

/- SolI: SolveSystem of the implementation. -/
namespace Go.Proofs.YthebegfceaehfaaDoor
open Go.RowKit Sol
attribute [local irreducible] M.powr

theorem aug_row (m : Nat → Nat → Int) (g : Nat → Int) (n k : Nat) : rowF m n k ++ [g k] = (List.range (n + 1)).map (aug m g n k) := by
  unfold rowF
  rw [List.range_succ, List.map_append, List.map_cons, List.map_nil]
  congr 1
  · exact List.map_congr_left fun j hj => by unfold aug; rw [if_neg (by have := List.mem_range.1 hj; omega)]
  · unfold aug; rw [if_pos rfl]
set_option maxRecDepth 20000 in
set_option maxHeartbeats 4000000 in
theorem impl_SolveSystem (n ob c : Nat) (m : Nat → Nat → Int) (ar : Option Addr) (cr : Nat) (g : Nat → Int) (w : World) (h : Rm w ob n m) (h1 : 1 ≤ n) (h8 : n ≤ 8) (hn : ∀ i j, i < n → j < n → M.num (m i j)) (hr : Rd w ar n cr ((List.range n).map g)) (hg : ∀ i, i < n → M.num (g i))
    (ht : ∀ x, Ker (aug m g n) n n x → ∀ j, j < n → M.P ∣ x j) :
    Calls Tryd.prog 79 #[.slice (some ⟨ob, 0, none⟩) n c, .slice ar n cr] w fun e w' => ∃ ao cc, e = .returned (.tuple #[.slice ao n cc, .bool true]) ∧ Fr w' w.heap.size ao n cc (solL m g n) ∧ Below w.heap.size w w' := by
  have H := hid h
  have HN := hid hn
  have HR := hid hr
  have HG := hid hg
  have HA := hid (aug_num hn hg)
  have HF := hid ((red_full (Nat.le_succ n) (aug_num hn hg) ht) n (Nat.le_refl _))
  have HAR := hid (M.allNum_of (l := (List.range n).map g) fun x hx => by
    obtain ⟨j, hj, rfl⟩ := List.mem_map.1 hx
    exact hg j (List.mem_range.1 hj))
  have hnz : ((n : Int) != (n : Int)) = false := by simp
  have hn0 : (0 : Int) < (n : Int) := by omega
  clear h hn hr hg ht
  go_enter Tryd.func79, Tryd.ntmps79
  go_wp2_with fail
  refine (impl_systemOk n ob c m _ H.out h1 h8 HN.out).mono ?_
  rintro e w1 ⟨rfl, rfl⟩
  go_wp2_with fail
  refine (impl_allNumbers _ _ _ _ _ HR.out).mono ?_
  rw [HAR.out]
  rintro e w1' ⟨rfl, rfl⟩
  obtain ⟨a0, c0, u0, _⟩ := H.out 0 (by omega)
  go_wp2_with fail
  clear u0
  go_loopw [7, 8, 9, 35] (fun v _ _ i wr => ∃ (k : Nat) (ro : Nat → Value), i = .int .i64 k ∧ k ≤ n ∧ Hid (Gr wr w.heap.size v k ro (fun _ => n + 1) (aug m g n)) ∧ Hid (Below w.heap.size w wr)) (fun _ _ _ i _ => n - (intOf i).toNat)
  case atStart => exact ⟨0, fun _ => .slice none 0 0, rfl, Nat.zero_le _, hid (Gr.empty _ _ (Nat.le_refl _) _ _ _), hid (below_box _ _)⟩
  case round =>
    obtain ⟨k, ro, rfl, hk, hG, hB⟩ := hrel
    have sz := hB.out.size
    obtain ⟨vo, vc, rfl, _, _⟩ := hG.out.fr
    by_cases hlt : k < n
    · have hki : (k : Int) < (n : Int) := by omega
      obtain ⟨ao, c1, u0, hr⟩ := (H.out.below hB.out) k hlt
      obtain ⟨b, o, y, rfl, u1, y1, y2, hy⟩ := (HR.out.below hB.out).at hlt
      have HRO := hid hr
      have hau := aug_row m g n k
      have HAU : Hid (rowF m n k ++ [y] = (List.range (n + 1)).map (aug m g n k)) := hid (by rw [hy.out, rng_at g hlt]; exact hau)
      clear hr hau hy
      have HU : Hid (∀ wc, Below wr.heap.size wr wc → wc.cell? ⟨b, o + k, none⟩ = some (.int .i64 y)) := hid fun wc h => (h.cell (World.block_lt_of_cell? wr _ u1)).trans u1
      go_wp2_with fail
      have B0 := hid (show Below wr.heap.size wr wr.drew from (Below.refl _ _).drew)
      refine (fun (HG : Rg _ _ 11) => wp_region_hh (S := fun w' => Below wr.heap.size wr w') HG rfl ?_) ⟨by kernel_rfl, by decide, by kernel_rfl, by kernel_rfl, fun _ _ d _ _ h => by cases d <;> exact h⟩
      (refine hh_take 0 HG rfl (by decide) (by kernel_rfl) (by kernel_rfl) B0.out (fun K hK => ?_); refine take_val ?_ (by rfl) ?_ ?_; rotate_left 1; (focus (intro wc hC; skip; go_simp; try rfl)); go_simp; refine hK.out _ ?_; clear hK K)
      (refine hh_take 2 HG rfl (by decide) (by kernel_rfl) (by kernel_rfl) B0.out (fun K hK => ?_); refine take_val ?_ (by rfl) ?_ ?_; rotate_left 1; (focus (intro wc hC; skip; go_simp; try rfl)); go_simp; refine hK.out _ ?_; clear hK K)
      (refine hh_take 4 HG rfl (by decide) (by kernel_rfl) (by kernel_rfl) B0.out (fun K hK => ?_); refine take_val ?_ (by rfl) ?_ ?_; rotate_left 1; (focus (intro wc hC; skip; go_simp; try rfl)); go_simp; refine hK.out _ ?_; clear hK K)
      (refine hh_take 5 HG rfl (by decide) (by kernel_rfl) (by kernel_rfl) B0.out (fun K hK => ?_); refine take_val ?_ (by rfl) ?_ ?_; rotate_left 1; (focus (intro wc hC; skip; go_simp; try rfl)); go_simp; refine hK.out _ ?_; clear hK K)
      (refine hh_take 6 HG rfl (by decide) (by kernel_rfl) (by kernel_rfl) B0.out (fun K hK => ?_); refine take_val ?_ (by rfl) ?_ ?_; rotate_left 1; (focus (intro wc hC; skip; go_simp; try rfl)); go_simp; refine hK.out _ ?_; clear hK K)
      (refine hh_take 7 HG rfl (by decide) (by kernel_rfl) (by kernel_rfl) B0.out (fun K hK => ?_); refine take_val ?_ (by rfl) ?_ ?_; rotate_left 1; (focus (intro wc hC; have x0 := HU.out wc hC; go_simp; try rfl)); go_simp; refine hK.out _ ?_; clear hK K)
      refine hh_two 1 8 rfl rfl (by decide) (by decide) (by kernel_rfl) (fun K hK => ?_) (fun K hK => ?_)
      · skip
        (refine mid_val ?_ ?_ (by rfl) ?_ ?_; rotate_left 2; (focus (go_simp; first | done | rfl | (refine And.intro ?_ ?_ <;> rfl))); go_simp; refine hK.out _ _ ?_ ?_ <;> clear hK K)
        · exact B0.out.alloc B0.out.size _
        have E1 := hid (Ow.empty wr.drew w.heap.size (Nat.le_trans sz B0.out.size))
        have Bb1 : wr.heap.size ≤ wr.heap.size := Nat.le_refl _
        have Ba1 := hid (show Below wr.heap.size wr (wr.drew.alloc (.cells #[] 3)) from B0.out.alloc B0.out.size _)
        refine hh_two 3 8 rfl rfl (by decide) (by decide) (by kernel_rfl) (fun K hK => ?_) (fun K hK => ?_)
        · skip
          refine step_append_ints (by rfl) _ _ (by rfl) w.heap.size _ 0 _ (by rfl) E1.out ao n c1 (rowF m n k) (by rfl) (HRO.out.below Ba1.out) (by omega) (Nat.le_trans sz Ba1.out.size) ?_
          intro ax c3 W3 hO3 hG3 hW3
          simp only [Nat.zero_add, List.nil_append] at hO3 hW3 ⊢
          have B3 := hid (Ba1.out.grown hG3 Ba1.out.size (fun q hq => by cases hq; exact Bb1))
          have F3 := hid (fresh_of (l := wr.heap.size) hW3 Bb1 Ba1.out.size)
          have O3 := hid hO3
          clear hO3 hG3 hW3
          (go_simp; refine hK.out _ _ ?_ ?_ <;> clear hK K)
          · exact B3.out
          refine hh_mid 8 rfl (by decide) (by kernel_rfl) (fun K hK => ?_)
          (refine mid_val ?_ ?_ (by rfl) ?_ ?_; rotate_left 2; (focus (go_simp; first | done | rfl | (refine And.intro ?_ ?_ <;> rfl))); go_simp; refine hK.out _ _ ?_ ?_ <;> clear hK K)
          · exact B3.out.alloc B3.out.size _
          have Rb2 := hid (rd_one W3 y 3 ⟨y1, y2⟩)
          have Bc2 := hid (show Below wr.heap.size wr (W3.alloc (.cells #[.int .i64 y] 3)) from B3.out.alloc B3.out.size _)
          have Ec2 := hid (O3.out.alloc (.cells #[.int .i64 y] 3))
          refine hh_mid 9 rfl (by decide) (by kernel_rfl) (fun K hK => ?_)
          refine step_append_ints (by rfl) _ _ (by rfl) w.heap.size _ n _ (by rfl) Ec2.out _ 1 1 [y] (by rfl) Rb2.out (by omega) (Nat.le_trans sz Bc2.out.size) ?_
          intro ay c9 W9 hO9 hG9 hW9
          have B9 := hid (Bc2.out.grown hG9 Bc2.out.size (fun q hq => F3.out.2 q hq))
          obtain ⟨f1, f2⟩ : (Value.slice ay (n + 1) c9).ownBlock ≠ none ∧ ∀ q, (Value.slice ay (n + 1) c9).ownBlock = some q → wr.heap.size ≤ q := by
            rcases hW9 with e | e
            · rw [e]; exact F3.out
            · rw [e]; exact ⟨by simp, fun q hq => by cases hq; exact Bc2.out.size⟩
          obtain ⟨f3, f4⟩ := hG.out.apart f1 f2
          have G9 := hid (hG.out.below B9.out)
          have O9 := hid hO9
          have F9 := hid (And.intro f1 (And.intro f3 f4))
          have L9 := hid (hB.out.trans (B9.out.mono sz))
          clear hO9 hG9 hW9 f1 f2 f3 f4
          (go_simp; refine hK.out _ _ ?_ ?_ <;> clear hK K)
          · exact B9.out
          refine hh_mid 10 rfl (by decide) (by kernel_rfl) (fun K hK => ?_)
          (refine mid_val ?_ ?_ (by rfl) ?_ ?_; rotate_left 2; (focus (go_simp; first | done | rfl | (refine And.intro ?_ ?_ <;> rfl))); go_simp; refine hK.out _ _ ?_ ?_ <;> clear hK K)
          · exact B9.out.alloc B9.out.size _
          refine hh_done (by kernel_rfl) ?_
          simp only [List.drop_succ_cons, List.drop_zero]
          change wpList _ _ _ _ _ _
          have sz9 := L9.out.size
          go_wp2_with (at_builtin; (refine wpList_append_row _ rfl _ _ rfl rfl (G9.out.alloc _) (r := aug m g n k) (k := n + 1) (by have e := O9.out.alloc (.cells #[Value.slice ay (n + 1) c9] 22); rw [HAU.out] at e; exact e) F9.out.1 F9.out.2.1 F9.out.2.2 _ rfl (cell_one _ _ _) (by omega) (by simp; omega) ?_); intro v' w3 hG3 hg3 _)
          have G3 := hid (Gr.congr (ro' := fun i => if i = k then .slice ay (n + 1) c9 else ro i) (wd' := fun _ => n + 1) (m' := aug m g n) hG3 (fun i hi => rfl) (fun i hi => by simp) (fun i hi j hj => by by_cases e : i = k <;> simp [e]))
          have B4 := hid ((L9.out.alloc sz9 _).grown hg3 (by simp; omega) (fun q hq => (hG.out.out.lt q hq).1))
          clear hG3 hg3
          go_wp2_with fail
          go_roundw
          case rel => exact ⟨k + 1, _, by go_num, by omega, G3, B4⟩
          case measure => simp [intOf]; omega
        · skip
          (refine mid_val ?_ ?_ (by rfl) ?_ ?_; rotate_left 2; (focus (go_simp; first | done | rfl | (refine And.intro ?_ ?_ <;> rfl))); go_simp; refine hK.out _ _ ?_ ?_ <;> clear hK K)
          · exact Ba1.out.alloc Ba1.out.size _
          have Rb3 := hid (by have h := rd_one (wr.drew.alloc (.cells #[] 3)) y 3 ⟨y1, y2⟩; rw [show (wr.drew.alloc (.cells #[] 3)).heap.size = wr.heap.size + 1 by simp] at h; exact h)
          have Bc3 := hid (show Below wr.heap.size wr ((wr.drew.alloc (.cells #[] 3)).alloc (.cells #[.int .i64 y] 3)) from Ba1.out.alloc Ba1.out.size _)
          have Ec3 := hid (E1.out.alloc (.cells #[.int .i64 y] 3))
          refine hh_mid 3 rfl (by decide) (by kernel_rfl) (fun K hK => ?_)
          refine step_append_ints (by rfl) _ _ (by rfl) w.heap.size _ 0 _ (by rfl) Ec3.out ao n c1 (rowF m n k) (by rfl) (HRO.out.below Bc3.out) (by omega) (Nat.le_trans sz Bc3.out.size) ?_
          intro ax c3 W3 hO3 hG3 hW3
          simp only [Nat.zero_add, List.nil_append] at hO3 hW3 ⊢
          have B3 := hid (Bc3.out.grown hG3 Bc3.out.size (fun q hq => by cases hq; exact Bb1))
          have F3 := hid (fresh_of (l := wr.heap.size) hW3 Bb1 Bc3.out.size)
          have R3 := hid (Rb3.out.grown hG3 (fun _ => .inl (by show some _ ≠ some _; simp)))
          have O3 := hid hO3
          clear hO3 hG3 hW3
          (go_simp; refine hK.out _ _ ?_ ?_ <;> clear hK K)
          · exact B3.out
          refine hh_mid 9 rfl (by decide) (by kernel_rfl) (fun K hK => ?_)
          refine step_append_ints (by rfl) _ _ (by rfl) w.heap.size _ n _ (by rfl) O3.out _ 1 1 [y] (by rfl) R3.out (by omega) (Nat.le_trans sz B3.out.size) ?_
          intro ay c9 W9 hO9 hG9 hW9
          have B9 := hid (B3.out.grown hG9 B3.out.size (fun q hq => F3.out.2 q hq))
          obtain ⟨f1, f2⟩ : (Value.slice ay (n + 1) c9).ownBlock ≠ none ∧ ∀ q, (Value.slice ay (n + 1) c9).ownBlock = some q → wr.heap.size ≤ q := by
            rcases hW9 with e | e
            · rw [e]; exact F3.out
            · rw [e]; exact ⟨by simp, fun q hq => by cases hq; exact B3.out.size⟩
          obtain ⟨f3, f4⟩ := hG.out.apart f1 f2
          have G9 := hid (hG.out.below B9.out)
          have O9 := hid hO9
          have F9 := hid (And.intro f1 (And.intro f3 f4))
          have L9 := hid (hB.out.trans (B9.out.mono sz))
          clear hO9 hG9 hW9 f1 f2 f3 f4
          (go_simp; refine hK.out _ _ ?_ ?_ <;> clear hK K)
          · exact B9.out
          refine hh_mid 10 rfl (by decide) (by kernel_rfl) (fun K hK => ?_)
          (refine mid_val ?_ ?_ (by rfl) ?_ ?_; rotate_left 2; (focus (go_simp; first | done | rfl | (refine And.intro ?_ ?_ <;> rfl))); go_simp; refine hK.out _ _ ?_ ?_ <;> clear hK K)
          · exact B9.out.alloc B9.out.size _
          refine hh_done (by kernel_rfl) ?_
          simp only [List.drop_succ_cons, List.drop_zero]
          change wpList _ _ _ _ _ _
          have sz9 := L9.out.size
          go_wp2_with (at_builtin; (refine wpList_append_row _ rfl _ _ rfl rfl (G9.out.alloc _) (r := aug m g n k) (k := n + 1) (by have e := O9.out.alloc (.cells #[Value.slice ay (n + 1) c9] 22); rw [HAU.out] at e; exact e) F9.out.1 F9.out.2.1 F9.out.2.2 _ rfl (cell_one _ _ _) (by omega) (by simp; omega) ?_); intro v' w3 hG3 hg3 _)
          have G3 := hid (Gr.congr (ro' := fun i => if i = k then .slice ay (n + 1) c9 else ro i) (wd' := fun _ => n + 1) (m' := aug m g n) hG3 (fun i hi => rfl) (fun i hi => by simp) (fun i hi j hj => by by_cases e : i = k <;> simp [e]))
          have B4 := hid ((L9.out.alloc sz9 _).grown hg3 (by simp; omega) (fun q hq => (hG.out.out.lt q hq).1))
          clear hG3 hg3
          go_wp2_with fail
          go_roundw
          case rel => exact ⟨k + 1, _, by go_num, by omega, G3, B4⟩
          case measure => simp [intOf]; omega
      · skip
        (refine mid_val ?_ ?_ (by rfl) ?_ ?_; rotate_left 2; (focus (go_simp; first | done | rfl | (refine And.intro ?_ ?_ <;> rfl))); go_simp; refine hK.out _ _ ?_ ?_ <;> clear hK K)
        · exact B0.out.alloc B0.out.size _
        have Rb4 := hid (rd_one wr.drew y 3 ⟨y1, y2⟩)
        have Bc4 := hid (show Below wr.heap.size wr (wr.drew.alloc (.cells #[.int .i64 y] 3)) from B0.out.alloc B0.out.size _)
        refine hh_mid 1 rfl (by decide) (by kernel_rfl) (fun K hK => ?_)
        (refine mid_val ?_ ?_ (by rfl) ?_ ?_; rotate_left 2; (focus (go_simp; first | done | rfl | (refine And.intro ?_ ?_ <;> rfl))); go_simp; refine hK.out _ _ ?_ ?_ <;> clear hK K)
        · exact Bc4.out.alloc Bc4.out.size _
        have E5 := hid (by have h := Ow.empty (wr.drew.alloc (.cells #[.int .i64 y] 3)) w.heap.size (Nat.le_trans sz Bc4.out.size); rw [show (wr.drew.alloc (.cells #[.int .i64 y] 3)).heap.size = wr.heap.size + 1 by simp] at h; exact h)
        have Bb5 : wr.heap.size ≤ wr.heap.size + 1 := Nat.le_succ _
        have Ba5 := hid (show Below wr.heap.size wr ((wr.drew.alloc (.cells #[.int .i64 y] 3)).alloc (.cells #[] 3)) from Bc4.out.alloc Bc4.out.size _)
        have Ra5 := hid (Rb4.out.alloc (.cells #[] 3))
        refine hh_mid 3 rfl (by decide) (by kernel_rfl) (fun K hK => ?_)
        refine step_append_ints (by rfl) _ _ (by rfl) w.heap.size _ 0 _ (by rfl) E5.out ao n c1 (rowF m n k) (by rfl) (HRO.out.below Ba5.out) (by omega) (Nat.le_trans sz Ba5.out.size) ?_
        intro ax c3 W3 hO3 hG3 hW3
        simp only [Nat.zero_add, List.nil_append] at hO3 hW3 ⊢
        have B3 := hid (Ba5.out.grown hG3 Ba5.out.size (fun q hq => by cases hq; exact Bb5))
        have F3 := hid (fresh_of (l := wr.heap.size) hW3 Bb5 Ba5.out.size)
        have R3 := hid (Ra5.out.grown hG3 (fun _ => .inl (by show some _ ≠ some _; simp)))
        have O3 := hid hO3
        clear hO3 hG3 hW3
        (go_simp; refine hK.out _ _ ?_ ?_ <;> clear hK K)
        · exact B3.out
        refine hh_mid 9 rfl (by decide) (by kernel_rfl) (fun K hK => ?_)
        refine step_append_ints (by rfl) _ _ (by rfl) w.heap.size _ n _ (by rfl) O3.out _ 1 1 [y] (by rfl) R3.out (by omega) (Nat.le_trans sz B3.out.size) ?_
        intro ay c9 W9 hO9 hG9 hW9
        have B9 := hid (B3.out.grown hG9 B3.out.size (fun q hq => F3.out.2 q hq))
        obtain ⟨f1, f2⟩ : (Value.slice ay (n + 1) c9).ownBlock ≠ none ∧ ∀ q, (Value.slice ay (n + 1) c9).ownBlock = some q → wr.heap.size ≤ q := by
          rcases hW9 with e | e
          · rw [e]; exact F3.out
          · rw [e]; exact ⟨by simp, fun q hq => by cases hq; exact B3.out.size⟩
        obtain ⟨f3, f4⟩ := hG.out.apart f1 f2
        have G9 := hid (hG.out.below B9.out)
        have O9 := hid hO9
        have F9 := hid (And.intro f1 (And.intro f3 f4))
        have L9 := hid (hB.out.trans (B9.out.mono sz))
        clear hO9 hG9 hW9 f1 f2 f3 f4
        (go_simp; refine hK.out _ _ ?_ ?_ <;> clear hK K)
        · exact B9.out
        refine hh_mid 10 rfl (by decide) (by kernel_rfl) (fun K hK => ?_)
        (refine mid_val ?_ ?_ (by rfl) ?_ ?_; rotate_left 2; (focus (go_simp; first | done | rfl | (refine And.intro ?_ ?_ <;> rfl))); go_simp; refine hK.out _ _ ?_ ?_ <;> clear hK K)
        · exact B9.out.alloc B9.out.size _
        refine hh_done (by kernel_rfl) ?_
        simp only [List.drop_succ_cons, List.drop_zero]
        change wpList _ _ _ _ _ _
        have sz9 := L9.out.size
        go_wp2_with (at_builtin; (refine wpList_append_row _ rfl _ _ rfl rfl (G9.out.alloc _) (r := aug m g n k) (k := n + 1) (by have e := O9.out.alloc (.cells #[Value.slice ay (n + 1) c9] 22); rw [HAU.out] at e; exact e) F9.out.1 F9.out.2.1 F9.out.2.2 _ rfl (cell_one _ _ _) (by omega) (by simp; omega) ?_); intro v' w3 hG3 hg3 _)
        have G3 := hid (Gr.congr (ro' := fun i => if i = k then .slice ay (n + 1) c9 else ro i) (wd' := fun _ => n + 1) (m' := aug m g n) hG3 (fun i hi => rfl) (fun i hi => by simp) (fun i hi j hj => by by_cases e : i = k <;> simp [e]))
        have B4 := hid ((L9.out.alloc sz9 _).grown hg3 (by simp; omega) (fun q hq => (hG.out.out.lt q hq).1))
        clear hG3 hg3
        go_wp2_with fail
        go_roundw
        case rel => exact ⟨k + 1, _, by go_num, by omega, G3, B4⟩
        case measure => simp [intOf]; omega
    · obtain rfl : k = n := by omega
      obtain ⟨oc, vc', hb, hc, ev, hvc, _, hM⟩ := hG.out.mat (by omega) (W := k + 1) (fun i hi => rfl) HA.out
      cases ev
      have HM := hid hM
      clear hM
      go_wp2_with fail
      refine (impl_reduceRows k _ _ HM.out (by omega) h8 (by omega) hvc).mono ?_
      rintro e w4 ⟨ao, nn, cc, hb', hc', rfl, hlen, hF, hM, hB4⟩
      obtain ⟨hI, hL⟩ := HF.out
      rw [hL] at hlen hF
      obtain rfl : k = nn := by simpa using hlen
      have HFA := hid hF
      have HM2 := hid hM
      have B4 := hid (hB.out.trans hB4)
      clear hlen hF hM hB4 HM hI hL
      have HSL : solL m g k = (List.range k).map fun i => (red k k (aug m g k)).1 i k := rfl
      generalize (red k k (aug m g k)).1 = R at HM2 HSL
      have HSLH := hid HSL
      clear HSL
      have hR : Hid (partN (fun i => R i k) k k = (List.range k).map fun i => R i k) := hid (partN_end _ _)
      go_wp2_with (at_make; refine wpList_make_ints _ rfl _ _ rfl k rfl rfl (by omega) ?_; intro w5 hB5 hS5 hF5)
      have B5 := hid (l_below B4.out hB5)
      have HM5 := hid (HM2.out.below hB5)
      have HFA5 := hid (HFA.out.below hB5)
      have hF5' := hF5
      rw [← partN_zero (fun i => R i k) k] at hF5'
      have HF5 := hid hF5'
      have hz4 : wr.heap.size ≤ w4.heap.size := HM2.out.tp
      have sz4 := B4.out.size
      have haA := hid (HFA.out.blkN_bd)
      clear hB5 hF5 hF5' HM2 HFA B4
      go_loopw [12, 60] (fun _ i wq => ∃ j : Nat, i = .int .i64 j ∧ j ≤ k ∧ Hid (Mat wq w.heap.size wr.heap.size oc k (k + 1) hb' hc' R) ∧ Hid (Fr wq wr.heap.size ao k cc ((List.range k).map fun x : Nat => (x : Int))) ∧ Hid (Fr wq w4.heap.size (some ⟨w4.heap.size, 0, none⟩) k k (partN (fun i => R i k) k j)) ∧ Hid (Below w.heap.size w wq)) (fun _ i _ => k - (intOf i).toNat)
      case atStart => exact ⟨0, rfl, Nat.zero_le _, HM5, HFA5, HF5, B5⟩
      case round =>
        clear HM5 HFA5 HF5 B5
        obtain ⟨j, rfl, hj, hM, hA, hF, hB⟩ := hrel
        by_cases hjk : j < k
        · have hji : (j : Int) < (k : Int) := by omega
          obtain ⟨b2, o2, x, rfl, v1, _, _, hx⟩ := hA.out.rd.at hjk
          obtain rfl : x = (j : Int) := hx.out.trans (rng_at (fun x : Nat => (x : Int)) hjk)
          clear hx
          have hb2 := haA.out b2 (by unfold blkN blk; rw [if_neg (by omega)]; rfl)
          have v2 := (hM.out.out j hjk).1
          obtain ⟨z, hz⟩ : ∃ z, z = R j k := ⟨_, rfl⟩
          have v3 := (hM.out.row j hjk k (by omega)).1
          have hzn := hM.out.num j k hjk (by omega)
          rw [← hz] at v3 hzn
          have HZ := hid hz
          have HZN := hid hzn
          clear hz hzn
          obtain ⟨b3, o3, y, e3, v4, _, _, _⟩ := hF.out.rd.at hjk
          simp only [Option.some.injEq, Addr.mk.injEq, and_true] at e3
          obtain ⟨rfl, rfl⟩ := e3
          have v5 := (hF.out.own _ _ _ rfl (by omega)).2 j hjk
          simp only [Nat.zero_add] at v4 v5
          go_wp2_with fail
          go_region
          go_wp2_with fail
          go_roundw
          case rel =>
            have hst := hF.out.store hjk (x := z) (I64.num HZN.out)
            rw [Nat.zero_add, HZ.out, partN_step (fun i => R i k) hjk, ← HZ.out] at hst
            refine ⟨j + 1, by go_num, by omega, hid ((hM.out.grown (grown_setCell _ _ _ _) (fun q hq => by cases hq; exact hz4)).below ((Below.refl _ _).drew)), hid ((hA.out.grown (grown_setCell _ _ _ _) (fun _ => .inl ?_)).below ((Below.refl _ _).drew)), hid (hst.below ((Below.refl _ _).drew)), hid (hB.out.setCell sz4 _).drew⟩
            show some b2 ≠ some w4.heap.size
            simp only [ne_eq, Option.some.injEq]
            omega
          case measure => simp [intOf]; omega
        · obtain rfl : j = k := by omega
          go_wp2_with fail
          go_ret2
          refine ⟨_, _, rfl, ?_, hB.out⟩
          have h9 := hF.out
          rw [hR.out, ← HSLH.out] at h9
          exact h9.mono sz4
end Go.Proofs.YthebegfceaehfaaDoor

/- Dot: Sums of products, powers, columns. -/
namespace Go.Proofs.YthebegfceaehfaaDoor
open Go.RowKit
attribute [local irreducible] M.powr

theorem dot_step {xs ys : List Int} {k : Nat} {n x y : Int} (h : k < xs.length) (h' : k < ys.length) (hn : n = M.dotL (xs.take k) (ys.take k)) (ex : x = xs.getD k 0) (ey : y = ys.getD k 0) : M.plus n (M.times x y) = M.dotL (xs.take (k + 1)) (ys.take (k + 1)) := by
  subst ex ey hn
  rw [take_snoc 0 xs k h, take_snoc 0 ys k h']
  unfold M.dotL
  rw [List.zip_append (by simp; omega), List.foldl_append]
  rfl
def powL (C : List Int) (k : Int) : List Int := C.map (M.powr · k)
theorem powL_len (C : List Int) (k : Int) : (powL C k).length = C.length := by simp [powL]
theorem powL_at {C : List Int} {k : Int} {i : Nat} {x : Int} (h : i < C.length) (hx : x = C.getD i 0) : M.powr x k = (powL C k).getD i 0 := by
  subst hx
  simp [powL, List.getD, h]
theorem powL_step {C : List Int} {k x : Int} {i : Nat} (h : i < C.length) (hx : x = C.getD i 0) : (powL C k).take (i + 1) = (powL C k).take i ++ [M.powr x k] := by
  rw [take_snoc 0 _ i (by rw [powL_len]; exact h), ← powL_at h hx]
/-- A column of A. -/
def colL (A : List Int) (S j : Nat) : List Int := (List.range S).map fun i => A.getD (i * S + j) 0
theorem colL_len (A : List Int) (S j : Nat) : (colL A S j).length = S := by simp [colL]
theorem colL_step {A : List Int} {S j i : Nat} {x : Int} (h : i < S) (hx : x = A.getD (i * S + j) 0) : (colL A S j).take (i + 1) = (colL A S j).take i ++ [x] := by
  rw [take_snoc 0 _ i (by rw [colL_len]; exact h), hx]
  simp [colL, List.getD, h]

set_option maxHeartbeats 1000000 in
theorem spec_powers (k : Int) (ao : Option Addr) (n c : Nat) (xs : List Int) (w : World)  (hr : Rd w ao n c xs) (hk : -1 ≤ k ∧ k ≤ 100) (hn8 : n ≤ 8) :
    Calls Tryd.prog 70 #[.slice ao n c, .int .i64 k] w fun e w' => ∃ ao' n' c', e = .returned (.slice ao' n' c') ∧ n = n' ∧ NewInts w w' (powL xs k) ao' n' c' := by
  have HR := hid hr
  obtain ⟨k0, k1⟩ := hk
  clear hr
  go_enter Tryd.func70, Tryd.ntmps70
  go_wp2_with fail
  go_loopw [5, 6] (fun v i wr => ∃ (j : Nat), i = .int .i64 j ∧ j ≤ n ∧ Hid (Ow wr w.heap.size v j ((powL xs k).take j)) ∧ Hid (Below w.heap.size w wr)) (fun _ i _ => n - (intOf i).toNat)
  case atStart => exact ⟨0, rfl, Nat.zero_le _, hid (Ow.empty _ _ (Nat.le_refl _)), hid (below_new _ _)⟩
  case round =>
    obtain ⟨j, rfl, hj, hO, hB⟩ := hrel
    by_cases hlt : j < n
    · obtain ⟨b, o, y, rfl, hc, _, _, hy⟩ := (HR.out.below hB.out).at hlt
      have hki : (j : Int) < (n : Int) := by omega
      go_wp2_with fail
      refine (spec_Power y k _ ⟨by omega, by omega⟩).mono ?_
      generalize hq : M.powr y k = q
      have HQ := hid hq
      clear hq
      rintro e w' ⟨rfl, rfl⟩
      go_wp2_with (at_builtin; (refine wpList_append_int _ rfl _ _ rfl w.heap.size _ _ _ rfl (hO.out.alloc _) _ q rfl (cell_one _ _ _) (by rw [← HQ.out]; exact I64.num (M.num_powr _ _)) (by omega) (by have := hB.out.size; simp; omega) ?_); intro v' w3 hO3 hG3)
      have O3 := hid hO3
      have B3 := hid ((hB.out.alloc hB.out.size _).grown hG3 (by have := hB.out.size; simp; omega) (fun j hj => (hO.out.lt j hj).1))
      clear hO3 hG3
      go_wp2_with fail
      go_roundw
      case rel => exact ⟨j + 1, by go_num, by omega, hid (by rw [powL_step (by rw [HR.out.len]; exact hlt) hy.out, HQ.out]; exact O3.out), B3⟩
      case measure => simp [intOf]; omega
    · obtain rfl : j = n := by omega
      have HL := hid (show (powL xs k).take j = powL xs k from List.take_of_length_le (by rw [powL_len, HR.out.len]; exact Nat.le_refl _))
      go_wp2_with fail
      go_ret
      obtain ⟨ao', c', e1, h1⟩ := hO.out.fr
      cases e1
      exact ⟨_, _, _, rfl, rfl, HL.out ▸ h1, hB.out⟩
end Go.Proofs.YthebegfceaehfaaDoor
