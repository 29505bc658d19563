/- Merged texts: Wts, Dif. -/
import Derived.Test.YthebegfceaehfaaDoorKt16
/- Wts: Weights: the system of the powers of the nodes. -/
namespace Go.Proofs.YthebegfceaehfaaDoor
open Go.RowKit Sol
attribute [local irreducible] M.powr

theorem Ow.mono {w : World} {b b' n : Nat} {v : Value} {xs : List Int} (h : Ow w b v n xs) (hb : b' ≤ b) : Ow w b' v n xs := by
  refine ⟨⟨h.1.1, ?_⟩, h.2⟩
  rcases h.1.2 with h1 | ⟨g, cap, cur, e, hg, rest⟩
  · exact .inl h1
  · exact .inr ⟨g, cap, cur, e, Nat.le_trans hb hg, rest⟩
theorem Ow.some {w : World} {b n : Nat} {v : Value} {xs : List Int} (h : Ow w b v n xs) (hn : 0 < n) : v.ownBlock ≠ none := by
  rcases h.1.2 with ⟨_, h1⟩ | ⟨g, cap, cur, e, _⟩
  · omega
  · rw [e]; simp [Value.ownBlock]
/-- The matrix of the powers, and the right sides up to a place. -/
def pwM (C : List Int) : Nat → Nat → Int := fun i j => M.powr (C.getD j 0) i
def rgt (a : Int) : Nat → Int := fun i => M.frac (M.powr a ((i : Int) + 1)) ((i : Int) + 1)
def Dif (C : List Int) (n : Nat) : Prop := ∀ i j, i < n → j < n → i ≠ j → ¬ M.P ∣ C.getD i 0 - C.getD j 0
def wtL (C : List Int) (n : Nat) (a : Int) : List Int := solL (pwM C) (rgt a) n
theorem pw_ker {C : List Int} {n : Nat} (g : Nat → Int) (h : Dif C n) : ∀ x, Ker (aug (pwM C) g n) n n x → ∀ j, j < n → M.P ∣ x j := pws_ker (c := fun j => C.getD j 0) (g := g) h
theorem pwM_num (C : List Int) (i j : Nat) : M.num (pwM C i j) := M.num_powr _ _
theorem rgt_num (a : Int) (i : Nat) : M.num (rgt a i) := M.num_frac _ _
theorem powL_row (C : List Int) {n : Nat} (k : Nat) (h : C.length = n) : powL C k = (List.range n).map (pwM C k) := by
  apply List.ext_getElem
  · rw [powL_len]; simp [h]
  · intro i h1 h2
    have hi : i < C.length := by simpa [powL] using h1
    simp [powL, pwM, List.getD, hi]
/-- Rows and right sides that are being made: N rows of n numbers, L right sides. -/
structure Sy (w : World) (lo : Nat) (v vr : Value) (N L n : Nat) (ro : Nat → Value) (m : Nat → Nat → Int) (g : Nat → Int) : Prop where
  gr : Gr w lo v N ro (fun _ => n) m
  rt : Ow w lo vr L ((List.range L).map g)
  s0 : vr.ownBlock ≠ none
  s1 : vr.ownBlock ≠ v.ownBlock
  s2 : ∀ i, i < N → (ro i).ownBlock ≠ vr.ownBlock
section
variable {w w' : World} {lo : Nat} {v vr : Value} {N L n : Nat} {ro : Nat → Value} {m : Nat → Nat → Int} {g : Nat → Int}
theorem Sy.below (h : Sy w lo v vr N L n ro m g) (hB : Below w.heap.size w w') : Sy w' lo v vr N L n ro m g := ⟨h.gr.below hB, h.rt.below hB, h.s0, h.s1, h.s2⟩
theorem Sy.start (w : World) (n : Nat) (ro : Nat → Value) (m : Nat → Nat → Int) (g : Nat → Int) : Sy ((w.alloc (.cells #[] 22)).alloc (.cells #[] 3)) w.heap.size (.slice (some ⟨w.heap.size, 0, none⟩) 0 0) (.slice (some ⟨w.heap.size + 1, 0, none⟩) 0 0) 0 0 n ro m g :=
  ⟨(Gr.empty w w.heap.size (Nat.le_refl _) ro _ m).alloc _, by
    have h := Ow.empty (w.alloc (.cells #[] 22)) w.heap.size (by simp)
    rw [World.size_alloc] at h
    exact h, by simp [Value.ownBlock], by simp [Value.ownBlock], fun i hi => absurd hi (Nat.not_lt_zero i)⟩
/-- What lies behind everything is neither of both. -/
theorem Sy.apart (h : Sy w lo v vr N L n ro m g) {x : Value} (hxo : x.ownBlock ≠ none) (hx : ∀ q, x.ownBlock = some q → w.heap.size ≤ q) : x.ownBlock ≠ v.ownBlock ∧ (∀ i, i < N → x.ownBlock ≠ (ro i).ownBlock) ∧ x.ownBlock ≠ vr.ownBlock := by
  obtain ⟨h1, h2⟩ := h.gr.apart hxo hx
  refine ⟨h1, h2, fun e => ?_⟩
  cases e1 : x.ownBlock with
  | none => exact hxo e1
  | some q => have := (h.rt.lt q (e.symm.trans e1)).2; have := hx q e1; omega
theorem Sy.addRow (h : Sy w lo v vr N L n ro m g) {v' x : Value} {m' : Nat → Nat → Int} (hG : Gr w' lo v' (N + 1) (fun i => if i = N then x else ro i) (fun _ => n) m') (hg : w.grownBy w' v.ownBlock) (hat : v'.ownBlock = v.ownBlock ∨ v'.ownBlock = some w.heap.size) (hx : x.ownBlock ≠ vr.ownBlock) :
    Sy w' lo v' vr (N + 1) L n (fun i => if i = N then x else ro i) m' g := by
  refine ⟨hG, h.rt.grown hg (.inr h.s1), h.s0, ?_, fun i hi => ?_⟩
  · rcases hat with e | e
    · rw [e]; exact h.s1
    · rw [e]
      intro e1
      have := (h.rt.lt _ e1).2
      omega
  · by_cases e : i = N
    · simp only [if_pos e]; exact hx
    · simp only [if_neg e]; exact h.s2 i (by omega)
theorem Sy.addNum (h : Sy w lo v vr N L n ro m g) {v' : Value} {y : Int} (hO : Ow w' lo v' (L + 1) ((List.range L).map g ++ [y])) (hy : y = g L) (hg : w.grownBy w' vr.ownBlock) (hat : v'.ownBlock = vr.ownBlock ∨ v'.ownBlock = some w.heap.size) : Sy w' lo v v' N (L + 1) n ro m g := by
  refine ⟨h.gr.grown hg (.inr (Ne.symm h.s1)) h.s2, ?_, ?_, ?_, fun i hi => ?_⟩
  · rw [List.range_succ, List.map_append, List.map_cons, List.map_nil, ← hy]; exact hO
  · rcases hat with e | e
    · rw [e]; exact h.s0
    · rw [e]; simp
  · rcases hat with e | e
    · rw [e]; exact h.s1
    · rw [e]
      intro e1
      have := (h.gr.out.lt _ e1.symm).2
      omega
  · rcases hat with e | e
    · rw [e]; exact h.s2 i hi
    · rw [e]
      intro e1
      have := ((h.gr.row i hi).lt _ e1).2
      omega
/-- To be read. -/
theorem Gr.rm (h : Gr w lo v N ro (fun _ => n) m) (hN : 0 < N) (e : n = N) : ∃ ob cc, v = .slice (some ⟨ob, 0, none⟩) N cc ∧ Rm w ob N m := by
  subst e
  obtain ⟨ob, cc, e, _, _⟩ := h.slc hN
  refine ⟨ob, cc, e, fun i hi => ?_⟩
  obtain ⟨b, c, e1, hO⟩ := h.pick (k := n) hi rfl
  obtain ⟨ao, c', e2, hF⟩ := hO.fr
  cases e2
  exact ⟨_, _, by rw [(h.cell (ob := ob) (by rw [e]; rfl) hi).1, e1], hF.rd⟩
end
set_option maxHeartbeats 1000000 in
theorem spec_powersO (k : Nat) (ao : Option Addr) (n c : Nat) (xs : List Int) (w : World) (hr : Rd w ao n c xs) (hk : k ≤ 100) (hn8 : n ≤ 8) :
    Calls Tryd.prog 70 #[.slice ao n c, .int .i64 k] w fun e w' => ∃ ao' c', e = .returned (.slice ao' n c') ∧ Ow w' w.heap.size (.slice ao' n c') n ((List.range n).map (pwM xs k)) ∧ Below w.heap.size w w' := by
  have HR := hid hr
  clear hr
  go_enter Tryd.func70, Tryd.ntmps70
  go_wp2_with fail
  go_loopw [5, 6] (fun v i wr => ∃ (j : Nat), i = .int .i64 j ∧ j ≤ n ∧ Hid (Ow wr w.heap.size v j ((powL xs k).take j)) ∧ Hid (Below w.heap.size w wr)) (fun _ i _ => n - (intOf i).toNat)
  case atStart => exact ⟨0, rfl, Nat.zero_le _, hid (Ow.empty _ _ (Nat.le_refl _)), hid (below_new _ _)⟩
  case round =>
    obtain ⟨j, rfl, hj, hO, hB⟩ := hrel
    by_cases hlt : j < n
    · obtain ⟨b, o, y, rfl, hc, _, _, hy⟩ := (HR.out.below hB.out).at hlt
      have hki : (j : Int) < (n : Int) := by omega
      go_wp2_with fail
      refine (spec_Power y k _ ⟨by omega, by omega⟩).mono ?_
      generalize hq : M.powr y k = q
      have HQ := hid hq
      clear hq
      rintro e w' ⟨rfl, rfl⟩
      go_wp2_with (at_builtin; (refine wpList_append_int _ rfl _ _ rfl w.heap.size _ _ _ rfl (hO.out.alloc _) _ q rfl (cell_one _ _ _) (by rw [← HQ.out]; exact I64.num (M.num_powr _ _)) (by omega) (by have := hB.out.size; simp; omega) ?_); intro v' w3 hO3 hG3)
      have O3 := hid hO3
      have B3 := hid ((hB.out.alloc hB.out.size _).grown hG3 (by have := hB.out.size; simp; omega) (fun j hj => (hO.out.lt j hj).1))
      clear hO3 hG3
      go_wp2_with fail
      go_roundw
      case rel => exact ⟨j + 1, by go_num, by omega, hid (by rw [powL_step (by rw [HR.out.len]; exact hlt) hy.out, HQ.out]; exact O3.out), B3⟩
      case measure => simp [intOf]; omega
    · obtain rfl : j = n := by omega
      have HL := hid (show (powL xs k).take j = powL xs k from List.take_of_length_le (by rw [powL_len, HR.out.len]; exact Nat.le_refl _))
      go_wp2_with fail
      go_ret
      obtain ⟨ao', c', e1, h1⟩ := hO.out.fr
      cases e1
      exact ⟨_, _, rfl, by have h := hO.out; rw [HL.out, powL_row xs k HR.out.len] at h; exact h, hB.out⟩
-- WALKS
set_option maxRecDepth 20000 in
set_option maxHeartbeats 2000000 in
theorem spec_l7Weights (a : Int) (ao : Option Addr) (n c : Nat) (C : List Int) (w : World) (hr : Rd w ao n c C) (h1 : 1 ≤ n) (h8 : n ≤ 8) (hd : Dif C n) :
    Calls Tryd.prog 40 #[.slice ao n c, .int .i64 a] w fun e w' => ∃ ao' c', e = .returned (.slice ao' n c') ∧ Fr w' w.heap.size ao' n c' (wtL C n a) ∧ Below w.heap.size w w' := by
  have HR := hid hr
  have HD := hid hd
  clear hr hd
  go_enter Tryd.func40, Tryd.ntmps40
  go_wp2_with fail
  go_loopw [5, 6, 7] (fun v vr i wr => ∃ (k : Nat) (ro : Nat → Value), i = .int .i64 (k + 1 : Nat) ∧ k ≤ n ∧ Hid (Sy wr w.heap.size v vr k k n ro (pwM C) (rgt a)) ∧ Hid (Below w.heap.size w wr)) (fun _ _ i _ => n + 1 - (intOf i).toNat)
  case atStart => exact ⟨0, fun _ => .slice none 0 0, rfl, Nat.zero_le _, hid (Sy.start _ _ _ _ _), hid ((below_box _ _).alloc (by simp) _)⟩
  case round =>
    obtain ⟨k, ro, rfl, hk, hS, hB⟩ := hrel
    obtain ⟨vo, vc, rfl, _, _⟩ := hS.out.gr.fr
    obtain ⟨go, gc, rfl, _⟩ := hS.out.rt.fr
    have sz := hB.out.size
    by_cases hlt : k < n
    · have hki : ((k + 1 : Nat) : Int) ≤ (n : Int) := by omega
      have hsub : IntKind.i64.wrap (((k + 1 : Nat) : Int) - 1) = (k : Int) := by rw [show ((k + 1 : Nat) : Int) - 1 = (k : Int) by omega]; exact IntWalk.i64_in _ ⟨by omega, by omega⟩
      go_wp2_with fail
      refine (spec_powersO k _ n c C _ (HR.out.below hB.out) (by omega) h8).mono ?_
      rintro e w1 ⟨ax, cx, rfl, hO1, hB1⟩
      have O1 := hid hO1
      have S1 := hid (hS.out.below hB1)
      have B1 := hid (l_below hB.out hB1)
      have z1 := B1.out.size
      have F1 := hid (hS.out.apart (hO1.some (by omega)) (fun q hq => (hO1.lt q hq).1))
      clear hO1 hB1
      go_wp2_with (first
        | (at_builtin; first
          | ((refine wpList_append_row _ rfl _ _ rfl rfl (S1.out.gr.alloc _) (r := pwM C k) ((O1.out.mono sz).alloc _) (O1.out.some (by omega)) F1.out.1 F1.out.2.1 _ rfl (cell_one _ _ _) (by omega) (by simp; omega) ?_); intro v2 w2 hG2 hg2 hat; have S2 := hid ((S1.out.below (below_box _ _)).addRow (m' := pwM C) (hG2.congr (ro' := fun i => if i = k then .slice ax n cx else ro i) (wd' := fun _ => n) (m' := pwM C) (fun i hi => rfl) (fun i hi => by simp) (fun i hi j hj => by by_cases e : i = k <;> simp [e])) hg2 hat F1.out.2.2); have B2 := hid ((B1.out.alloc z1 _).grown hg2 (by simp; omega) (fun q hq => (S1.out.gr.out.lt q hq).1)); have z2 := B2.out.size; clear hG2 hg2 hat S1 B1 O1 F1)
          | ((refine wpList_append_ints _ rfl _ _ rfl w.heap.size _ k _ rfl (S2.out.rt.alloc _) _ 1 1 [q] rfl (rd_one _ q _ HQI.out) (by omega) (by simp; omega) ?_); intro ay cy w3 hO3 hG3 hW3))
        | (go_at_call 71; refine (spec_Power a _ _ ⟨by omega, by omega⟩).mono ?_; rintro e w' ⟨rfl, rfl⟩)
        | (go_at_call 41; refine (spec_Fraction _ _ _).mono ?_; generalize hq : M.frac (M.powr a ((k : Int) + 1)) ((k : Int) + 1) = q; have HQ : Hid (rgt a k = q) := hid hq; have HQI : Hid (I64 q) := hid (hq ▸ I64.num (rgt_num a k)); clear hq; rintro e w' ⟨rfl, rfl⟩))
      have S3 := hid ((S2.out.below (below_box _ _)).addNum hO3 HQ.out.symm hG3 hW3)
      have B3 := hid ((B2.out.alloc z2 _).grown hG3 (by simp; omega) (fun q hq => (S2.out.rt.lt q hq).1))
      clear hO3 hG3 hW3
      go_wp2_with fail
      go_roundw
      case rel => exact ⟨k + 1, _, by go_num, by omega, S3, B3⟩
      case measure => simp [intOf]; omega
    · obtain rfl : k = n := by omega
      have hki : ¬ ((k + 1 : Nat) : Int) ≤ (k : Int) := by omega
      obtain ⟨ob, cc, e1, hR⟩ := hS.out.gr.rm (by omega) rfl
      cases e1
      obtain ⟨go', gc', e2, hF⟩ := hS.out.rt.fr
      cases e2
      have HRM := hid hR
      have HF := hid hF
      clear hR hF
      go_wp2_with fail
      refine (spec_SolveSystem k ob _ (pwM C) _ _ (rgt a) _ HRM.out h1 h8 (fun i j _ _ => pwM_num C i j) HF.out.rd (fun i _ => rgt_num a i) (pw_ker _ HD.out)).mono ?_
      rintro e w1 ⟨ao', c', rfl, hF1, hB1⟩
      have F1 := hid hF1
      have B1 := hid (l_below hB.out hB1)
      clear hF1 hB1
      go_wp2_with fail
      go_ret
      exact ⟨_, _, rfl, F1.out.mono sz, B1.out⟩
set_option maxRecDepth 20000 in
set_option maxHeartbeats 2000000 in
theorem impl_quadratureA (pb : Nat) (g : Nat → Int) (ao : Option Addr) (n c : Nat) (C : List Int) (w : World) (hr : Rd w ao n c C) (h1 : 1 ≤ n) (h8 : n ≤ 8) (hd : Dif C n) (hg : ∀ i, M.num (g i))
    (hc : ∀ (k : Nat) (z : Int) (wc : World), k < n → z = (k : Int) + 1 → Below w.heap.size w wc → Calls Tryd.prog 50 #[.int .i64 z, .pointer (some ⟨pb, 0, none⟩)] wc fun e w' => e = .returned (.int .i64 (g k)) ∧ wc = w') :
    Calls Tryd.prog 49 #[.slice ao n c, .func (.func 50) #[] #[.pointer (some ⟨pb, 0, none⟩)]] w fun e w' => ∃ ao' c', e = .returned (.slice ao' n c') ∧ Fr w' w.heap.size ao' n c' (solL (pwM C) g n) ∧ Below w.heap.size w w' := by
  have HR := hid hr
  have HD := hid hd
  have HC := hid hc
  have HG := hid hg
  clear hr hd hc hg
  go_enter Tryd.func49, Tryd.ntmps49
  go_wp2_with fail
  go_loopw [5, 6, 7, 8, 10, 24] (fun v vr i _ _ _ wr => ∃ (k : Nat) (ro : Nat → Value), i = .int .i64 ((k : Int) + 1) ∧ k ≤ n ∧ Hid (Sy wr w.heap.size v vr k k n ro (pwM C) g) ∧ Hid (Below w.heap.size w wr)) (fun _ _ i _ _ _ _ => n + 1 - (intOf i).toNat)
  case atStart => exact ⟨0, fun _ => .slice none 0 0, rfl, Nat.zero_le _, hid (Sy.start _ _ _ _ _), hid ((below_box _ _).alloc (by simp) _)⟩
  case round =>
    obtain ⟨k, ro, rfl, hk, hS, hB⟩ := hrel
    obtain ⟨vo, vc, rfl, _, _⟩ := hS.out.gr.fr
    obtain ⟨go, gc, rfl, _⟩ := hS.out.rt.fr
    have sz := hB.out.size
    by_cases hlt : k < n
    · have hki : (k : Int) + 1 ≤ (n : Int) := by omega
      obtain ⟨wo, rfl⟩ : ∃ wo : World, wo = wr := ⟨_, rfl⟩
      go_wp2_with fail
      go_loopw [8, 10, 24] (fun vx _ i wq => ∃ j : Nat, i = .int .i64 j ∧ j ≤ n ∧ Hid (Ow wq wo.heap.size vx j ((List.range j).map (pwM C k))) ∧ Hid (Below wo.heap.size wo wq)) (fun _ _ i _ => n - (intOf i).toNat)
      case atStart => exact ⟨0, rfl, Nat.zero_le _, hid (Ow.empty _ _ (Nat.le_refl _)), hid (below_box _ _)⟩
      case round =>
        obtain ⟨j, rfl, hj, hO, hB2⟩ := hrel
        have sz2 := hB2.out.size
        by_cases hjn : j < n
        · obtain ⟨b, o, y, rfl, hc, _, _, hy⟩ := (HR.out.below (l_below hB.out hB2.out)).at hjn
          have hji : (j : Int) < (n : Int) := by omega
          have hsub : IntKind.i64.wrap ((k : Int) + 1 - 1) = (k : Int) := by rw [show (k : Int) + 1 - 1 = (k : Int) by omega]; exact IntWalk.i64_in _ ⟨by omega, by omega⟩
          go_wp2_with fail
          refine (impl_Power y k _ ⟨by omega, by omega⟩).mono ?_
          generalize hq : M.powr y k = q
          have HQ := hid hq
          have HQI : Hid (I64 q) := hid (hq ▸ I64.num (M.num_powr _ _))
          clear hq
          rintro e w' ⟨rfl, rfl⟩
          go_wp2_with (at_builtin; (refine wpList_append_int _ rfl _ _ rfl wo.heap.size _ _ _ rfl (hO.out.alloc _) _ q rfl (cell_one _ _ _) HQI.out (by omega) (by simp; omega) ?_); intro v' w3 hO3 hG3)
          have O3 := hid hO3
          have B3 := hid ((hB2.out.alloc sz2 _).grown hG3 (by simp; omega) (fun j hj => (hO.out.lt j hj).1))
          clear hO3 hG3
          go_wp2_with fail
          go_roundw
          case rel => exact ⟨j + 1, by go_num, by omega, hid (by rw [List.range_succ, List.map_append, List.map_cons, List.map_nil, show pwM C k j = q by rw [← HQ.out, hy.out]; rfl]; exact O3.out), B3⟩
          case measure => simp [intOf]; omega
        · obtain rfl : j = n := by omega
          obtain ⟨ax, cx, rfl, _⟩ := hO.out.fr
          have S1 := hid (hS.out.below hB2.out)
          have B1 := hid (l_below hB.out hB2.out)
          have z1 := B1.out.size
          have F1 := hid (hS.out.apart (hO.out.some (by omega)) (fun q hq => (hO.out.lt q hq).1))
          go_wp2_with (first
            | (at_builtin; first
              | ((refine wpList_append_row _ rfl _ _ rfl rfl (S1.out.gr.alloc _) (r := pwM C k) ((hO.out.mono sz).alloc _) (hO.out.some (by omega)) F1.out.1 F1.out.2.1 _ rfl (cell_one _ _ _) (by omega) (by simp; omega) ?_); intro v2 w2 hG2 hg2 hat; have S2 := hid ((S1.out.below (below_box _ _)).addRow (m' := pwM C) (hG2.congr (ro' := fun i => if i = k then .slice ax j cx else ro i) (wd' := fun _ => j) (m' := pwM C) (fun i hi => rfl) (fun i hi => by simp) (fun i hi t ht => by by_cases e : i = k <;> simp [e])) hg2 hat F1.out.2.2); have B2 := hid ((B1.out.alloc z1 _).grown hg2 (by simp; omega) (fun q hq => (S1.out.gr.out.lt q hq).1)); have z2 := B2.out.size; clear hG2 hg2 hat S1 B1 F1)
              | ((refine wpList_append_ints _ rfl _ _ rfl w.heap.size _ k _ rfl (S2.out.rt.alloc _) _ 1 1 [q] rfl (rd_one _ q _ HQI.out) (by omega) (by simp; omega) ?_); intro ay cy w3 hO3 hG3 hW3))
            | (go_at_call 50; refine (HC.out k _ _ hlt (by omega) B2.out).mono ?_; generalize hq : g k = q; have HQ := hid hq; have HQI : Hid (I64 q) := hid (hq ▸ I64.num (HG.out k)); clear hq; rintro e w' ⟨rfl, rfl⟩))
          have S3 := hid ((S2.out.below (below_box _ _)).addNum hO3 HQ.out.symm hG3 hW3)
          have B3 := hid ((B2.out.alloc z2 _).grown hG3 (by simp; omega) (fun q hq => (S2.out.rt.lt q hq).1))
          clear hO3 hG3 hW3
          go_wp2_with fail
          go_roundw
          case rel => exact ⟨k + 1, _, by go_num, by omega, S3, B3⟩
          case measure => simp [intOf]; omega
    · obtain rfl : k = n := by omega
      have hki : ¬ (k : Int) + 1 ≤ (k : Int) := by omega
      obtain ⟨ob, cc, e1, hR⟩ := hS.out.gr.rm (by omega) rfl
      cases e1
      obtain ⟨go', gc', e2, hF⟩ := hS.out.rt.fr
      cases e2
      have HRM := hid hR
      have HF := hid hF
      clear hR hF
      go_wp2_with fail
      refine (impl_SolveSystem k ob _ (pwM C) _ _ g _ HRM.out h1 h8 (fun i j _ _ => pwM_num C i j) HF.out.rd (fun i _ => HG.out i) (pw_ker _ HD.out)).mono ?_
      rintro e w1 ⟨ao', c', rfl, hF1, hB1⟩
      have F1 := hid hF1
      have B1 := hid (l_below hB.out hB1)
      clear hF1 hB1
      go_wp2_with fail
      go_ret
      exact ⟨_, _, rfl, F1.out.mono sz, B1.out⟩
set_option maxRecDepth 20000 in
set_option maxHeartbeats 2000000 in
theorem impl_quadratureB (g : Nat → Int) (ao : Option Addr) (n c : Nat) (C : List Int) (w : World) (hr : Rd w ao n c C) (h1 : 1 ≤ n) (h8 : n ≤ 8) (hd : Dif C n) (hg : ∀ i, M.num (g i))
    (hc : ∀ (k : Nat) (z : Int) (wc : World), k < n → z = (k : Int) + 1 → Below w.heap.size w wc → Calls Tryd.prog 53 #[.int .i64 z] wc fun e w' => e = .returned (.int .i64 (g k)) ∧ wc = w') :
    Calls Tryd.prog 49 #[.slice ao n c, .func (.func 53) #[] #[]] w fun e w' => ∃ ao' c', e = .returned (.slice ao' n c') ∧ Fr w' w.heap.size ao' n c' (solL (pwM C) g n) ∧ Below w.heap.size w w' := by
  have HR := hid hr
  have HD := hid hd
  have HC := hid hc
  have HG := hid hg
  clear hr hd hc hg
  go_enter Tryd.func49, Tryd.ntmps49
  go_wp2_with fail
  go_loopw [5, 6, 7, 8, 10, 24] (fun v vr i _ _ _ wr => ∃ (k : Nat) (ro : Nat → Value), i = .int .i64 ((k : Int) + 1) ∧ k ≤ n ∧ Hid (Sy wr w.heap.size v vr k k n ro (pwM C) g) ∧ Hid (Below w.heap.size w wr)) (fun _ _ i _ _ _ _ => n + 1 - (intOf i).toNat)
  case atStart => exact ⟨0, fun _ => .slice none 0 0, rfl, Nat.zero_le _, hid (Sy.start _ _ _ _ _), hid ((below_box _ _).alloc (by simp) _)⟩
  case round =>
    obtain ⟨k, ro, rfl, hk, hS, hB⟩ := hrel
    obtain ⟨vo, vc, rfl, _, _⟩ := hS.out.gr.fr
    obtain ⟨go, gc, rfl, _⟩ := hS.out.rt.fr
    have sz := hB.out.size
    by_cases hlt : k < n
    · have hki : (k : Int) + 1 ≤ (n : Int) := by omega
      obtain ⟨wo, rfl⟩ : ∃ wo : World, wo = wr := ⟨_, rfl⟩
      go_wp2_with fail
      go_loopw [8, 10, 24] (fun vx _ i wq => ∃ j : Nat, i = .int .i64 j ∧ j ≤ n ∧ Hid (Ow wq wo.heap.size vx j ((List.range j).map (pwM C k))) ∧ Hid (Below wo.heap.size wo wq)) (fun _ _ i _ => n - (intOf i).toNat)
      case atStart => exact ⟨0, rfl, Nat.zero_le _, hid (Ow.empty _ _ (Nat.le_refl _)), hid (below_box _ _)⟩
      case round =>
        obtain ⟨j, rfl, hj, hO, hB2⟩ := hrel
        have sz2 := hB2.out.size
        by_cases hjn : j < n
        · obtain ⟨b, o, y, rfl, hc, _, _, hy⟩ := (HR.out.below (l_below hB.out hB2.out)).at hjn
          have hji : (j : Int) < (n : Int) := by omega
          have hsub : IntKind.i64.wrap ((k : Int) + 1 - 1) = (k : Int) := by rw [show (k : Int) + 1 - 1 = (k : Int) by omega]; exact IntWalk.i64_in _ ⟨by omega, by omega⟩
          go_wp2_with fail
          refine (impl_Power y k _ ⟨by omega, by omega⟩).mono ?_
          generalize hq : M.powr y k = q
          have HQ := hid hq
          have HQI : Hid (I64 q) := hid (hq ▸ I64.num (M.num_powr _ _))
          clear hq
          rintro e w' ⟨rfl, rfl⟩
          go_wp2_with (at_builtin; (refine wpList_append_int _ rfl _ _ rfl wo.heap.size _ _ _ rfl (hO.out.alloc _) _ q rfl (cell_one _ _ _) HQI.out (by omega) (by simp; omega) ?_); intro v' w3 hO3 hG3)
          have O3 := hid hO3
          have B3 := hid ((hB2.out.alloc sz2 _).grown hG3 (by simp; omega) (fun j hj => (hO.out.lt j hj).1))
          clear hO3 hG3
          go_wp2_with fail
          go_roundw
          case rel => exact ⟨j + 1, by go_num, by omega, hid (by rw [List.range_succ, List.map_append, List.map_cons, List.map_nil, show pwM C k j = q by rw [← HQ.out, hy.out]; rfl]; exact O3.out), B3⟩
          case measure => simp [intOf]; omega
        · obtain rfl : j = n := by omega
          obtain ⟨ax, cx, rfl, _⟩ := hO.out.fr
          have S1 := hid (hS.out.below hB2.out)
          have B1 := hid (l_below hB.out hB2.out)
          have z1 := B1.out.size
          have F1 := hid (hS.out.apart (hO.out.some (by omega)) (fun q hq => (hO.out.lt q hq).1))
          go_wp2_with (first
            | (at_builtin; first
              | ((refine wpList_append_row _ rfl _ _ rfl rfl (S1.out.gr.alloc _) (r := pwM C k) ((hO.out.mono sz).alloc _) (hO.out.some (by omega)) F1.out.1 F1.out.2.1 _ rfl (cell_one _ _ _) (by omega) (by simp; omega) ?_); intro v2 w2 hG2 hg2 hat; have S2 := hid ((S1.out.below (below_box _ _)).addRow (m' := pwM C) (hG2.congr (ro' := fun i => if i = k then .slice ax j cx else ro i) (wd' := fun _ => j) (m' := pwM C) (fun i hi => rfl) (fun i hi => by simp) (fun i hi t ht => by by_cases e : i = k <;> simp [e])) hg2 hat F1.out.2.2); have B2 := hid ((B1.out.alloc z1 _).grown hg2 (by simp; omega) (fun q hq => (S1.out.gr.out.lt q hq).1)); have z2 := B2.out.size; clear hG2 hg2 hat S1 B1 F1)
              | ((refine wpList_append_ints _ rfl _ _ rfl w.heap.size _ k _ rfl (S2.out.rt.alloc _) _ 1 1 [q] rfl (rd_one _ q _ HQI.out) (by omega) (by simp; omega) ?_); intro ay cy w3 hO3 hG3 hW3))
            | (go_at_call 53; refine (HC.out k _ _ hlt (by omega) B2.out).mono ?_; generalize hq : g k = q; have HQ := hid hq; have HQI : Hid (I64 q) := hid (hq ▸ I64.num (HG.out k)); clear hq; rintro e w' ⟨rfl, rfl⟩))
          have S3 := hid ((S2.out.below (below_box _ _)).addNum hO3 HQ.out.symm hG3 hW3)
          have B3 := hid ((B2.out.alloc z2 _).grown hG3 (by simp; omega) (fun q hq => (S2.out.rt.lt q hq).1))
          clear hO3 hG3 hW3
          go_wp2_with fail
          go_roundw
          case rel => exact ⟨k + 1, _, by go_num, by omega, S3, B3⟩
          case measure => simp [intOf]; omega
    · obtain rfl : k = n := by omega
      have hki : ¬ (k : Int) + 1 ≤ (k : Int) := by omega
      obtain ⟨ob, cc, e1, hR⟩ := hS.out.gr.rm (by omega) rfl
      cases e1
      obtain ⟨go', gc', e2, hF⟩ := hS.out.rt.fr
      cases e2
      have HRM := hid hR
      have HF := hid hF
      clear hR hF
      go_wp2_with fail
      refine (impl_SolveSystem k ob _ (pwM C) _ _ g _ HRM.out h1 h8 (fun i j _ _ => pwM_num C i j) HF.out.rd (fun i _ => HG.out i) (pw_ker _ HD.out)).mono ?_
      rintro e w1 ⟨ao', c', rfl, hF1, hB1⟩
      have F1 := hid hF1
      have B1 := hid (l_below hB.out hB1)
      clear hF1 hB1
      go_wp2_with fail
      go_ret
      exact ⟨_, _, rfl, F1.out.mono sz, B1.out⟩
/-! the closures -/
theorem colA (k : Nat) (z x : Int) (pb : Nat) (w : World) (hk : k < 8) (hz : z = (k : Int) + 1) (hx : w.cell? ⟨pb, 0, none⟩ = some (.int .i64 x)) :
    Calls Tryd.prog 50 #[.int .i64 z, .pointer (some ⟨pb, 0, none⟩)] w fun e w' => e = .returned (.int .i64 (rgt x k)) ∧ w = w' := by
  have H := hid (show M.frac (M.powr x z) z = rgt x k by rw [hz]; rfl)
  have h1 : 1 ≤ z := by omega
  have h2 : z ≤ 8 := by omega
  clear hz
  go_enter Tryd.func50, Tryd.ntmps50
  go_wp2_with ((first | (go_at_call 52; refine (impl_Power _ _ _ ⟨by omega, by omega⟩).mono ?_; rintro e w' ⟨rfl, rfl⟩) | (go_at_call 51; refine (impl_Fraction _ _ _).mono ?_; rintro e w' ⟨rfl, rfl⟩)))
  go_ret
  exact ⟨ret_i H.out, rfl⟩
theorem rgt_one (k : Nat) : rgt 1 k = M.frac 1 ((k : Int) + 1) := by
  unfold rgt
  rw [show M.powr 1 ((k : Int) + 1) = 1 by
    unfold M.powr
    rw [if_neg (by omega), Int.one_pow]
    rfl]
theorem colB (k : Nat) (z : Int) (w : World) (hz : z = (k : Int) + 1) :
    Calls Tryd.prog 53 #[.int .i64 z] w fun e w' => e = .returned (.int .i64 (rgt 1 k)) ∧ w = w' := by
  have H := hid (show M.frac 1 z = rgt 1 k by rw [hz, rgt_one])
  clear hz
  go_enter Tryd.func53, Tryd.ntmps53
  go_wp2_with ((go_at_call 51; refine (impl_Fraction _ _ _).mono ?_; rintro e w' ⟨rfl, rfl⟩))
  go_ret
  exact ⟨ret_i H.out, rfl⟩
end Go.Proofs.YthebegfceaehfaaDoor

/- Dif: Are all numbers different: allDifferent, l7Different. -/
namespace Go.Proofs.YthebegfceaehfaaDoor
open Go.RowKit

def NdTo (C : List Int) (k : Nat) : Prop := ∀ i, i < k → ∀ j, j < i → C.getD i 0 ≠ C.getD j 0
instance (C : List Int) (k : Nat) : Decidable (NdTo C k) := by unfold NdTo; infer_instance
def ndB (C : List Int) : Bool := decide (NdTo C C.length)
theorem ndB_yes {C : List Int} {n : Nat} (hn : C.length = n) (h : NdTo C n) : ndB C = true := by subst hn; exact decide_eq_true h
theorem ndB_no {C : List Int} {n i j : Nat} {x y : Int} (hn : C.length = n) (hi : i < n) (hj : j < i) (hx : x = C.getD i 0) (hy : y = C.getD j 0) (h : x = y) : ndB C = false := by
  subst hn
  exact decide_eq_false fun H => H i hi j hj (by rw [← hx, ← hy, h])
/-- j elements ahead of i were compared. -/
def NdAt (C : List Int) (i t : Nat) : Prop := ∀ j, j < t → C.getD i 0 ≠ C.getD j 0
theorem NdAt.next {C : List Int} {i t : Nat} {x y : Int} (h : NdAt C i t) (hx : x = C.getD i 0) (hy : y = C.getD t 0) (hne : x ≠ y) : NdAt C i (t + 1) := by
  intro j hj
  by_cases e : j = t
  · subst e; rw [← hx, ← hy]; exact hne
  · exact h j (by omega)
theorem NdTo.next {C : List Int} {i : Nat} (h : NdTo C i) (h2 : NdAt C i i) : NdTo C (i + 1) := by
  intro k hk j hj
  by_cases e : k = i
  · subst e; exact h2 j hj
  · exact h k (by omega) j hj
theorem dif_of {C : List Int} {n : Nat} (hn : C.length = n) (hN : M.allNum C = true) (hd : ndB C = true) : Dif C n := by
  subst hn
  have hd' : NdTo C C.length := of_decide_eq_true hd
  have hnum : ∀ i, i < C.length → M.num (C.getD i 0) := fun i hi => M.allNum_mem hN _ (by rw [List.getD_eq_getElem?_getD, List.getElem?_eq_getElem hi]; exact List.getElem_mem _)
  intro i j hi hj hij
  rcases Nat.lt_or_gt_of_ne hij with h | h
  · exact Sol.num_diff (hnum i hi) (hnum j hj) (fun e => hd' j hj i h e.symm)
  · exact Sol.num_diff (hnum i hi) (hnum j hj) (hd' i hi j h)
set_option maxHeartbeats 1000000 in
theorem impl_allDifferent (ao : Option Addr) (n c : Nat) (C : List Int) (w : World) (hr : Rd w ao n c C) :
    Calls Tryd.prog 47 #[.slice ao n c] w fun e w' => e = .returned (.bool (ndB C)) ∧ w = w' := by
  have hn : n ≤ 9223372036854775807 := Nat.le_trans hr.cap hr.max
  have hc := hr.cap
  have hm := hr.max
  have HR := hid hr
  clear hr
  go_enter Tryd.func47, Tryd.ntmps47
  go_wp2_with fail
  go_loop [3, 4, 6, 9] (fun _ _ _ i => ∃ k : Nat, i = .int .i64 k ∧ k ≤ n ∧ Hid (NdTo C k)) (fun _ _ _ i => n - (intOf i).toNat)
  case atStart => exact ⟨0, rfl, Nat.zero_le _, hid (fun i hi => absurd hi (Nat.not_lt_zero i))⟩
  case round =>
    obtain ⟨k, rfl, hk, hN⟩ := hrel
    by_cases hlt : k < n
    · have hki : (k : Int) < (n : Int) := by omega
      obtain ⟨b, o, x, rfl, hx0, _, _, hx⟩ := HR.out.at hlt
      go_wp2_with fail
      go_loop [6, 18] (fun _ i => ∃ t : Nat, i = .int .i64 t ∧ t ≤ k ∧ Hid (NdAt C k t)) (fun _ i => k - (intOf i).toNat)
      case atStart => exact ⟨0, rfl, Nat.zero_le _, hid (fun i hi => absurd hi (Nat.not_lt_zero i))⟩
      case round =>
        obtain ⟨t, rfl, ht, hA⟩ := hrel
        by_cases htk : t < k
        · have hti : (t : Int) < (k : Int) := by omega
          obtain ⟨b2, o2, y, e2, hy0, _, _, hy⟩ := HR.out.at (k := t) (by omega)
          cases e2
          by_cases hxy : x = y
          · have hq : (x == y) = true := beq_iff_eq.2 hxy
            have HQ := hid hxy
            clear hxy
            go_wp2_with fail
            go_ret
            exact ⟨ret_b (ndB_no HR.out.len hlt htk hx.out hy.out HQ.out).symm, rfl⟩
          · have hq : (x == y) = false := beq_eq_false_iff_ne.2 hxy
            go_wp2_with fail
            go_round
            case rel => exact ⟨t + 1, by go_num, by omega, hid (hA.out.next hx.out hy.out hxy)⟩
            case measure => simp [intOf]; omega
        · obtain rfl : t = k := by omega
          go_wp2_with fail
          go_round
          case rel => exact ⟨t + 1, by go_num, by omega, hid (hN.out.next hA.out)⟩
          case measure => simp [intOf]; omega
    · obtain rfl : k = n := by omega
      go_wp2_with fail
      go_ret
      exact ⟨ret_b (ndB_yes HR.out.len hN.out).symm, rfl⟩
set_option maxHeartbeats 1000000 in
theorem spec_l7Different (ao : Option Addr) (n c : Nat) (C : List Int) (w : World) (hr : Rd w ao n c C) :
    Calls Tryd.prog 39 #[.slice ao n c] w fun e w' => e = .returned (.bool (ndB C && M.allNum C)) ∧ Below w.heap.size w w' := by
  have hn : n ≤ 9223372036854775807 := Nat.le_trans hr.cap hr.max
  have HR := hid hr
  clear hr
  go_enter Tryd.func39, Tryd.ntmps39
  go_wp2_with fail
  go_loopw [3, 4] (fun i _ wr => ∃ k : Nat, i = .int .i64 k ∧ k ≤ n ∧ Hid (NdTo C k) ∧ Hid (Below w.heap.size w wr)) (fun i _ _ => n - (intOf i).toNat)
  case atStart => exact ⟨0, rfl, Nat.zero_le _, hid (fun i hi => absurd hi (Nat.not_lt_zero i)), hid (Below.refl _ _)⟩
  case round =>
    obtain ⟨k, rfl, hk, hN, hB⟩ := hrel
    by_cases hlt : k < n
    · have hki : (k : Int) < (n : Int) := by omega
      go_wp2_with fail
      go_loopw [4] (fun i wr => ∃ t : Nat, i = .int .i64 t ∧ t ≤ k ∧ Hid (NdAt C k t) ∧ Hid (Below w.heap.size w wr)) (fun i _ => k - (intOf i).toNat)
      case atStart => exact ⟨0, rfl, Nat.zero_le _, hid (fun i hi => absurd hi (Nat.not_lt_zero i)), hB⟩
      case round =>
        clear hB
        obtain ⟨t, rfl, ht, hA, hB⟩ := hrel
        by_cases htk : t < k
        · have hti : (t : Int) < (k : Int) := by omega
          have htn : (t : Int) < (n : Int) := by omega
          obtain ⟨b, o, x, rfl, hx0, _, _, hx⟩ := (HR.out.below hB.out).at hlt
          obtain ⟨b2, o2, y, e2, hy0, _, _, hy⟩ := (HR.out.below hB.out).at (k := t) (by omega)
          cases e2
          by_cases hxy : x = y
          · have hq : (y == x) = true := beq_iff_eq.2 hxy.symm
            have HQ := hid hxy
            clear hxy
            go_wp2_with fail
            go_quiet (fail)
            go_wp2_with fail
            go_ret
            exact ⟨ret_b (by rw [ndB_no HR.out.len hlt htk hx.out hy.out HQ.out]; rfl), Below.drewN' hB.out _⟩
          · have hq : (y == x) = false := beq_eq_false_iff_ne.2 (Ne.symm hxy)
            go_wp2_with fail
            go_quiet (fail)
            go_wp2_with fail
            go_roundw
            case rel => exact ⟨t + 1, by go_num, by omega, hid (hA.out.next hx.out hy.out hxy), hid (Below.drewN' hB.out _)⟩
            case measure => simp [intOf]; omega
        · obtain rfl : t = k := by omega
          go_wp2_with fail
          go_roundw
          case rel => exact ⟨t + 1, by go_num, by omega, hid (hN.out.next hA.out), hB⟩
          case measure => simp [intOf]; omega
    · obtain rfl : k = n := by omega
      go_wp2_with fail
      refine (spec_l1All _ _ _ _ _ (HR.out.below hB.out)).mono ?_
      rintro e w1 ⟨rfl, rfl⟩
      go_wp2_with fail
      go_ret
      exact ⟨ret_b (by rw [ndB_yes HR.out.len hN.out]; rfl), hB.out⟩
end Go.Proofs.YthebegfceaehfaaDoor
