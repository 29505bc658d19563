/- ParseSeries: the walks. -/
import Derived.Test.YtgbjoaheidgafaaDoorPns
import Derived.Test.YtgbjoaheidgafaaDoorFieldV
namespace Go.Proofs.YtgbjoaheidgafaaDoor
open Go.RowKit

/-- The order at which a series has so many numbers, from k on, f orders left. -/
def psFind (m : Int) : Nat → Nat → Option Nat
  | _, 0 => none
  | k, f + 1 => if trees (k : Int) + 1 = m then some k else psFind m (k + 1) f
def psV (l : List UInt8) : Sb :=
  if pnsB l then match psFind (pnsL l).length 0 7 with
    | some k => ⟨k, (pnsL l).getD 0 0, (pnsL l).drop 1, true⟩
    | none => Sb.none
  else Sb.none
theorem psFind_some {m : Int} : ∀ f k j, psFind m k f = some j → k ≤ j ∧ j < k + f ∧ trees (j : Int) + 1 = m
  | 0, k, j, h => by cases h
  | f + 1, k, j, h => by
    rw [psFind] at h
    split at h
    · cases h
      exact ⟨Nat.le_refl _, by omega, by assumption⟩
    · obtain ⟨h1, h2, h3⟩ := psFind_some f (k + 1) j h
      exact ⟨by omega, by omega, h3⟩
theorem psV_len (l : List UInt8) : (psV l).A.length ≤ 1000 := by
  unfold psV
  split
  · split
    · rename_i k h
      obtain ⟨_, _, h3⟩ := psFind_some _ _ _ h
      have := (trees_bd (k : Int)).2
      simp only [List.length_drop]
      omega
    · exact Nat.zero_le _
  · exact Nat.zero_le _
theorem psFind_no {m : Int} {k : Nat} (hk : k ≤ 6) (h : trees (k : Int) + 1 ≠ m) : psFind m k (7 - k) = psFind m (k + 1) (7 - (k + 1)) := by
  rw [show 7 - k = (7 - (k + 1)) + 1 by omega, psFind, if_neg h]
theorem psFind_yes {m : Int} {k : Nat} (hk : k ≤ 6) (h : trees (k : Int) + 1 = m) : psFind m k (7 - k) = some k := by
  rw [show 7 - k = (7 - (k + 1)) + 1 by omega, psFind, if_pos h]
theorem Fr.tail {w : World} {lo b o n c : Nat} {x : Int} {xs : List Int} (h : Fr w lo (some ⟨b, o, Option.none⟩) (n + 1) c (x :: xs)) : Fr w lo (some ⟨b, o + 1, Option.none⟩) n (c - 1) xs := by
  have hl := h.rd.len
  have hc := h.rd.cap
  have hm := h.rd.max
  refine ⟨⟨by simpa using hl, by omega, by omega, fun i hi => ?_, fun y hy => h.rd.wf y (List.mem_cons_of_mem _ hy)⟩, fun b' o' s e hn => ?_⟩
  · obtain ⟨b', o', e, hx⟩ := h.rd.cell (i + 1) (by omega)
    cases e
    refine ⟨b, o + 1, rfl, ?_⟩
    rw [show o + 1 + i = o + (i + 1) by omega, hx]
    simp [List.getD]
  · cases e
    obtain ⟨h1, h2⟩ := h.own b o Option.none rfl (by omega)
    refine ⟨h1, fun i hi => ?_⟩
    rw [show o + 1 + i = o + (i + 1) by omega]
    exact h2 (i + 1) (by omega)
theorem Fr.void {w : World} {lo c : Nat} {ao : Option Addr} (hc : c ≤ 9223372036854775807) : Fr w lo ao 0 c [] := ⟨Rd.nil _ _ _ hc, fun b o s e hn => absurd hn (by omega)⟩
/-- What the law asks of the world. -/
def Tm (w : World) : Prop := Tc w ∧ Mx w
theorem Tm.below {w w' : World} (h : Tm w) (hB : Below w.heap.size w w') : Tm w' := ⟨h.1.below hB, h.2.below hB⟩
/-- The series, or none, as it is handed back. -/
theorem psV_no {l : List UInt8} (h : pnsB l = false) : psV l = Sb.none := by unfold psV; rw [h]; rfl
theorem psV_none {l : List UInt8} (h : pnsB l = true) (h2 : psFind (pnsL l).length 0 7 = none) : psV l = Sb.none := by unfold psV; rw [h, h2]; rfl
theorem psV_some {l : List UInt8} {k : Nat} (h : pnsB l = true) (h2 : psFind (pnsL l).length 0 7 = some k) : psV l = ⟨k, (pnsL l).getD 0 0, (pnsL l).drop 1, true⟩ := by unfold psV; rw [h, h2]; rfl
set_option maxRecDepth 20000 in
set_option maxHeartbeats 4000000 in
theorem impl_ParseSeries (s : ByteArray) (w : World) (hs : s.size ≤ 1048576) (ht : Tm w) {ro rz : Int} {rA : List Int} {rb : Bool} (hr : psV s.data.toList = ⟨ro, rz, rA, rb⟩) :
    Calls Tryd.prog 19 #[.string s] w fun e w' => ∃ p n c, e = .returned (.tuple #[.agg #[.int .i64 ro, .int .i64 rz, .slice p n c], .bool rb]) ∧ NewS w w' rA p n c := by
  have HRV := hid hr
  have HT := hid ht
  have RS0 := hid (bk_new w #[.int .i64 0, .int .i64 0, .slice none 0 0] 24)
  have B0 := hid (below_box w (.cells #[.int .i64 0, .int .i64 0, .slice none 0 0] 24))
  have HT0 := hid (ht.below B0.out)
  clear hr ht
  go_enter Tryd.func19, Tryd.ntmps19
  go_wp2_with fail
  refine (impl_ParseNumbers s _ hs HT0.out.2).mono ?_
  cases hok : pnsB s.data.toList with
  | false =>
    have HV := hid (psV_no hok)
    clear hok
    rintro e w1 ⟨ao, n, c, rfl, hN⟩
    have B1 := hid (l_below B0.out hN.2)
    have RS1 := hid (bk_below RS0.out hN.2)
    clear hN
    obtain ⟨⟨t0, t1, t2⟩, f0, f1, f2⟩ := blk3 RS1.out
    go_wp2_with fail
    go_loopw [6] (fun i wr => i = .int .i64 0 ∧ Hid (w1 = wr)) (fun _ _ => 0)
    case atStart => exact ⟨rfl, hid rfl⟩
    case round =>
      obtain ⟨rfl, hw⟩ := hrel
      have hw' := hw.out
      subst hw'
      go_wp2_with fail
      have hR := HRV.out
      rw [HV.out] at hR
      cases hR
      obtain ⟨e1, e2⟩ := noneS_end B1.out (Nat.le_refl _) RS1.out (.int .i64 0) (.int .i64 0) (.slice none 0 0)
      exact ret_serb rfl rfl rfl e1 rfl ⟨_, _, _, rfl, e2⟩
  | true =>
    have HOK := hid hok
    clear hok
    rintro e w1 ⟨ao, n, c, rfl, hN⟩
    have B1 := hid (l_below B0.out hN.2)
    have RS1 := hid (bk_below RS0.out hN.2)
    have F1 := hid hN.1
    have HT1 := hid (HT0.out.below hN.2)
    have HLEN := hid hN.1.rd.len
    have sz1 := hN.2.size
    simp only [World.size_alloc] at sz1
    have hbd : n ≤ 9223372036854775807 := Nat.le_trans hN.1.rd.cap hN.1.rd.max
    have F1' := F1.out
    simp only [World.size_alloc] at F1'
    clear F1 hN
    have F1 := hid F1'
    clear F1'
    go_wp2_with fail
    go_loopw [6] (fun i wr => ∃ k : Nat, i = .int .i64 k ∧ k ≤ 7 ∧ Hid (psFind (n : Int) k (7 - k) = psFind (n : Int) 0 7) ∧ Hid (Below w1.heap.size w1 wr)) (fun i _ => 7 - (intOf i).toNat)
    case atStart => exact ⟨0, rfl, Nat.zero_le _, hid rfl, hid (Below.refl _ _)⟩
    case round =>
      obtain ⟨k, rfl, hk, hP, hB⟩ := hrel
      have B2 := hid (l_below B1.out hB.out)
      have RS2 := hid (bk_below RS1.out hB.out)
      have F2 := hid (F1.out.below hB.out)
      have HT2 := hid (HT1.out.below hB.out)
      have sz2 := hB.out.size
      by_cases h6 : k ≤ 6
      · have h6i : (k : Int) ≤ 6 := by omega
        obtain ⟨tn, htn, ht37, _⟩ := trees_nat (k := k) h6
        go_wp2_with fail
        refine (impl_CountTrees k _ HT2.out.1).mono ?_
        rw [htn]
        rintro e w2 ⟨rfl, rfl⟩
        by_cases he : tn + 1 = n
        · have HF := hid (psFind_yes (m := (n : Int)) h6 (by rw [htn]; omega))
          have HV := hid (psV_some HOK.out (by rw [HLEN.out, ← hP.out]; exact HF.out))
          subst he
          obtain ⟨b, oo, x, rfl, u0, _, _, hx⟩ := F2.out.rd.at (k := 0) (by omega)
          rw [Nat.add_zero] at u0
          obtain ⟨X, XS, hL⟩ : ∃ X XS, pnsL s.data.toList = X :: XS := by
            cases hl : pnsL s.data.toList with
            | nil => have := HLEN.out; rw [hl] at this; simp at this
            | cons a t => exact ⟨a, t, rfl⟩
          have HX := hid (show (pnsL s.data.toList).getD 0 0 = x from hx.out.symm)
          have HXS := hid (show (pnsL s.data.toList).drop 1 = XS by rw [hL]; rfl)
          have F3 := hid (hL ▸ F2.out)
          have hcap := F2.out.rd.cap
          have hcm := F2.out.rd.max
          have hbq := (F2.out.own b oo none rfl (by omega)).1
          obtain ⟨⟨t0, t1, t2⟩, f0, f1, f2⟩ := blk3 RS2.out
          clear hx hL
          rcases Nat.eq_zero_or_pos tn with h0 | hpos
          · subst h0
            have HXE : Hid (XS = []) := hid (List.eq_nil_of_length_eq_zero (by have := F3.out.rd.len; simpa using this))
            by_cases hc1 : c = 1
            · subst hc1
              go_wp2_with fail
              go_region
              go_wp2_with fail
              have hR := HRV.out
              rw [HV.out] at hR
              cases hR
              refine ret_serb rfl rfl rfl (heap_setCell_same _ _ _ _ _ _ (heap_setCell_same _ _ _ _ _ _ (heap_setCell_same _ _ _ _ _ _ RS2.out))) rfl ⟨_, _, _, by rw [HX.out], ?_⟩
              exact ⟨by rw [HXS.out, HXE.out]; exact Fr.void (by omega), trivial, trivial, ((B2.out.drew.setCell (Nat.le_refl _) _).setCell (Nat.le_refl _) _).setCell (Nat.le_refl _) _⟩
            · have hc2 : (1 : Int) < (c : Int) := by omega
              go_wp2_with fail
              go_region
              go_wp2_with fail
              have hR := HRV.out
              rw [HV.out] at hR
              cases hR
              refine ret_serb rfl rfl rfl (heap_setCell_same _ _ _ _ _ _ (heap_setCell_same _ _ _ _ _ _ (heap_setCell_same _ _ _ _ _ _ RS2.out))) rfl ⟨_, _, _, by rw [HX.out], ?_⟩
              exact ⟨by rw [HXS.out, HXE.out]; exact Fr.void (by omega), trivial, trivial, ((B2.out.drew.setCell (Nat.le_refl _) _).setCell (Nat.le_refl _) _).setCell (Nat.le_refl _) _⟩
          · have hc2 : (1 : Int) < (c : Int) := by omega
            go_wp2_with fail
            go_region
            go_wp2_with fail
            have hR := HRV.out
            rw [HV.out] at hR
            cases hR
            refine ret_serb rfl rfl rfl (heap_setCell_same _ _ _ _ _ _ (heap_setCell_same _ _ _ _ _ _ (heap_setCell_same _ _ _ _ _ _ RS2.out))) rfl ⟨_, _, _, by rw [HX.out], ?_⟩
            exact ⟨by rw [HXS.out]; exact (frS_set (frS_set (frS_set (F3.out.tail.below ((Below.refl _ _).drew)) _ (by omega)) _ (by omega)) _ (by omega)).mono (by omega), trivial, trivial, ((B2.out.drew.setCell (Nat.le_refl _) _).setCell (Nat.le_refl _) _).setCell (Nat.le_refl _) _⟩
        · have hq : ((tn : Int) == (n : Int) - 1) = false := by rw [beq_eq_false_iff_ne]; omega
          have HN := hid (psFind_no (m := (n : Int)) h6 (by rw [htn]; omega))
          go_wp2_with fail
          go_roundw
          case rel => exact ⟨k + 1, by go_num, by omega, hid (HN.out.symm.trans hP.out), hB⟩
          case measure => simp [intOf]; omega
      · obtain rfl : k = 7 := by omega
        have HV := hid (psV_none HOK.out (by rw [HLEN.out, ← hP.out]; rfl))
        obtain ⟨⟨t0, t1, t2⟩, f0, f1, f2⟩ := blk3 RS2.out
        go_wp2_with fail
        have hR := HRV.out
        rw [HV.out] at hR
        cases hR
        obtain ⟨e1, e2⟩ := noneS_end B2.out (Nat.le_refl _) RS2.out (.int .i64 0) (.int .i64 0) (.slice none 0 0)
        exact ret_serb rfl rfl rfl e1 rfl ⟨_, _, _, rfl, e2⟩
set_option maxRecDepth 20000 in
set_option maxHeartbeats 4000000 in
theorem spec_ParseSeries (s : ByteArray) (w : World) (hs : s.size ≤ 1048576) (ht : Tm w) {ro rz : Int} {rA : List Int} {rb : Bool} (hr : psV s.data.toList = ⟨ro, rz, rA, rb⟩) :
    Calls Tryd.prog 18 #[.string s] w fun e w' => ∃ p n c, e = .returned (.tuple #[.agg #[.int .i64 ro, .int .i64 rz, .slice p n c], .bool rb]) ∧ NewS w w' rA p n c := by
  have HRV := hid hr
  have HT := hid ht
  have RS0 := hid (bk_new w #[.int .i64 0, .int .i64 0, .slice none 0 0] 24)
  have B0 := hid (below_box w (.cells #[.int .i64 0, .int .i64 0, .slice none 0 0] 24))
  have HT0 := hid (ht.below B0.out)
  clear hr ht
  go_enter Tryd.func18, Tryd.ntmps18
  go_wp2_with fail
  refine (spec_ParseNumbers s _ hs HT0.out.2).mono ?_
  cases hok : pnsB s.data.toList with
  | false =>
    have HV := hid (psV_no hok)
    clear hok
    rintro e w1 ⟨ao, n, c, rfl, hN⟩
    have B1 := hid (l_below B0.out hN.2)
    have RS1 := hid (bk_below RS0.out hN.2)
    clear hN
    obtain ⟨⟨t0, t1, t2⟩, f0, f1, f2⟩ := blk3 RS1.out
    go_wp2_with fail
    go_loopw [6] (fun i wr => i = .int .i64 0 ∧ Hid (w1 = wr)) (fun _ _ => 0)
    case atStart => exact ⟨rfl, hid rfl⟩
    case round =>
      obtain ⟨rfl, hw⟩ := hrel
      have hw' := hw.out
      subst hw'
      go_wp2_with fail
      have hR := HRV.out
      rw [HV.out] at hR
      cases hR
      obtain ⟨e1, e2⟩ := noneS_end B1.out (Nat.le_refl _) RS1.out (.int .i64 0) (.int .i64 0) (.slice none 0 0)
      exact ret_serb rfl rfl rfl e1 rfl ⟨_, _, _, rfl, e2⟩
  | true =>
    have HOK := hid hok
    clear hok
    rintro e w1 ⟨ao, n, c, rfl, hN⟩
    have B1 := hid (l_below B0.out hN.2)
    have RS1 := hid (bk_below RS0.out hN.2)
    have F1 := hid hN.1
    have HT1 := hid (HT0.out.below hN.2)
    have HLEN := hid hN.1.rd.len
    have sz1 := hN.2.size
    simp only [World.size_alloc] at sz1
    have hbd : n ≤ 9223372036854775807 := Nat.le_trans hN.1.rd.cap hN.1.rd.max
    have F1' := F1.out
    simp only [World.size_alloc] at F1'
    clear F1 hN
    have F1 := hid F1'
    clear F1'
    go_wp2_with fail
    go_loopw [6] (fun i wr => ∃ k : Nat, i = .int .i64 k ∧ k ≤ 7 ∧ Hid (psFind (n : Int) k (7 - k) = psFind (n : Int) 0 7) ∧ Hid (Below w1.heap.size w1 wr)) (fun i _ => 7 - (intOf i).toNat)
    case atStart => exact ⟨0, rfl, Nat.zero_le _, hid rfl, hid (Below.refl _ _)⟩
    case round =>
      obtain ⟨k, rfl, hk, hP, hB⟩ := hrel
      have B2 := hid (l_below B1.out hB.out)
      have RS2 := hid (bk_below RS1.out hB.out)
      have F2 := hid (F1.out.below hB.out)
      have HT2 := hid (HT1.out.below hB.out)
      have sz2 := hB.out.size
      by_cases h6 : k ≤ 6
      · have h6i : (k : Int) ≤ 6 := by omega
        obtain ⟨tn, htn, ht37, _⟩ := trees_nat (k := k) h6
        go_wp2_with fail
        refine (spec_CountTrees k _).mono ?_
        rw [htn]
        rintro e w2 ⟨rfl, hBc⟩
        have B3 := hid (l_below B2.out hBc)
        have RS3 := hid (bk_below RS2.out hBc)
        have F3' := hid (F2.out.below hBc)
        have hB3 := hid (l_below hB.out hBc)
        have sz3 := hB3.out.size
        clear hBc B2 RS2 F2 HT2
        have B2 := B3
        have RS2 := RS3
        have F2 := F3'
        clear B3 RS3 F3'
        by_cases he : tn + 1 = n
        · have HF := hid (psFind_yes (m := (n : Int)) h6 (by rw [htn]; omega))
          have HV := hid (psV_some HOK.out (by rw [HLEN.out, ← hP.out]; exact HF.out))
          subst he
          obtain ⟨b, oo, x, rfl, u0, _, _, hx⟩ := F2.out.rd.at (k := 0) (by omega)
          rw [Nat.add_zero] at u0
          obtain ⟨X, XS, hL⟩ : ∃ X XS, pnsL s.data.toList = X :: XS := by
            cases hl : pnsL s.data.toList with
            | nil => have := HLEN.out; rw [hl] at this; simp at this
            | cons a t => exact ⟨a, t, rfl⟩
          have HX := hid (show (pnsL s.data.toList).getD 0 0 = x from hx.out.symm)
          have HXS := hid (show (pnsL s.data.toList).drop 1 = XS by rw [hL]; rfl)
          have F3 := hid (hL ▸ F2.out)
          have hcap := F2.out.rd.cap
          have hcm := F2.out.rd.max
          have hbq := (F2.out.own b oo none rfl (by omega)).1
          obtain ⟨⟨t0, t1, t2⟩, f0, f1, f2⟩ := blk3 RS2.out
          clear hx hL
          rcases Nat.eq_zero_or_pos tn with h0 | hpos
          · subst h0
            have HXE : Hid (XS = []) := hid (List.eq_nil_of_length_eq_zero (by have := F3.out.rd.len; simpa using this))
            by_cases hc1 : c = 1
            · subst hc1
              go_wp2_with fail
              go_region
              go_wp2_with fail
              have hR := HRV.out
              rw [HV.out] at hR
              cases hR
              refine ret_serb rfl rfl rfl (heap_setCell_same _ _ _ _ _ _ (heap_setCell_same _ _ _ _ _ _ (heap_setCell_same _ _ _ _ _ _ RS2.out))) rfl ⟨_, _, _, by rw [HX.out], ?_⟩
              exact ⟨by rw [HXS.out, HXE.out]; exact Fr.void (by omega), trivial, trivial, ((B2.out.drew.setCell (Nat.le_refl _) _).setCell (Nat.le_refl _) _).setCell (Nat.le_refl _) _⟩
            · have hc2 : (1 : Int) < (c : Int) := by omega
              go_wp2_with fail
              go_region
              go_wp2_with fail
              have hR := HRV.out
              rw [HV.out] at hR
              cases hR
              refine ret_serb rfl rfl rfl (heap_setCell_same _ _ _ _ _ _ (heap_setCell_same _ _ _ _ _ _ (heap_setCell_same _ _ _ _ _ _ RS2.out))) rfl ⟨_, _, _, by rw [HX.out], ?_⟩
              exact ⟨by rw [HXS.out, HXE.out]; exact Fr.void (by omega), trivial, trivial, ((B2.out.drew.setCell (Nat.le_refl _) _).setCell (Nat.le_refl _) _).setCell (Nat.le_refl _) _⟩
          · have hc2 : (1 : Int) < (c : Int) := by omega
            go_wp2_with fail
            go_region
            go_wp2_with fail
            have hR := HRV.out
            rw [HV.out] at hR
            cases hR
            refine ret_serb rfl rfl rfl (heap_setCell_same _ _ _ _ _ _ (heap_setCell_same _ _ _ _ _ _ (heap_setCell_same _ _ _ _ _ _ RS2.out))) rfl ⟨_, _, _, by rw [HX.out], ?_⟩
            exact ⟨by rw [HXS.out]; exact (frS_set (frS_set (frS_set (F3.out.tail.below ((Below.refl _ _).drew)) _ (by omega)) _ (by omega)) _ (by omega)).mono (by omega), trivial, trivial, ((B2.out.drew.setCell (Nat.le_refl _) _).setCell (Nat.le_refl _) _).setCell (Nat.le_refl _) _⟩
        · have hq : ((n : Int) == 1 + (tn : Int)) = false := by rw [beq_eq_false_iff_ne]; omega
          have HN := hid (psFind_no (m := (n : Int)) h6 (by rw [htn]; omega))
          go_wp2_with fail
          go_roundw
          case rel => exact ⟨k + 1, by go_num, by omega, hid (HN.out.symm.trans hP.out), hB3⟩
          case measure => simp [intOf]; omega
      · obtain rfl : k = 7 := by omega
        have HV := hid (psV_none HOK.out (by rw [HLEN.out, ← hP.out]; rfl))
        obtain ⟨⟨t0, t1, t2⟩, f0, f1, f2⟩ := blk3 RS2.out
        go_wp2_with fail
        have hR := HRV.out
        rw [HV.out] at hR
        cases hR
        obtain ⟨e1, e2⟩ := noneS_end B2.out (Nat.le_refl _) RS2.out (.int .i64 0) (.int .i64 0) (.slice none 0 0)
        exact ret_serb rfl rfl rfl e1 rfl ⟨_, _, _, rfl, e2⟩
end Go.Proofs.YtgbjoaheidgafaaDoor
