/- ScaleTableau of the reference. -/
import Derived.Test.YtekojohhjnklkaaAp
import Derived.Deep.RegionLaw
namespace Go.Proofs.Ytekojohhjnklkaa
open Go.RowKit

theorem map_snoc (f : Int → Int) {xs : List Int} {k : Nat} {x : Int} (h : k < xs.length) (e : x = xs.getD k 0) : (xs.take k).map f ++ [f x] = (xs.take (k + 1)).map f := by
  subst e
  rw [take_snoc 0 xs k h, List.map_append]
  rfl
theorem spec_ScaleTableau_no (s : Int) (a1 : Option Addr) (n1 c1 : Nat) (A : List Int) (a2 : Option Addr) (n2 c2 : Nat) (B : List Int) (k : Int) (w : World) (h1 : Rd w a1 n1 c1 A) (h2 : Rd w a2 n2 c2 B) (hno : tabOk s A B = false) :
    Calls Try.prog 34 #[.agg #[.int .i64 s, .slice a1 n1 c1, .slice a2 n2 c2], .int .i64 k] w fun e w' => ∃ a1 n1 c1 a2 n2 c2, e = .returned (.agg #[.int .i64 0, .slice a1 n1 c1, .slice a2 n2 c2]) ∧ NewT w w' [] [] a1 n1 c1 a2 n2 c2 := by
  have HN := hid hno
  have S0 := hid ((St.first w #[.int .i64 s, .slice a1 n1 c1, .slice a2 n2 c2] 27).alloc (.cells #[.int .i64 0, .slice none 0 0, .slice none 0 0] 27))
  go_enter Try.func34, Try.ntmps34
  go_wp2_with fail
  refine (spec_TableauOk _ _ _ _ A _ _ _ B _ ((h1.alloc _).alloc _) ((h2.alloc _).alloc _)).mono ?_
  rw [HN.out]
  rintro e w1 ⟨rfl, hB⟩
  have S1 := hid (S0.out.step hB)
  have hr := bk_below (heap_alloc_at (w.alloc (.cells #[.int .i64 s, .slice a1 n1 c1, .slice a2 n2 c2] 27)) #[.int .i64 0, .slice none 0 0, .slice none 0 0] 27 (w.heap.size + 1) (by simp)) hB
  have HRS := hid hr
  obtain ⟨⟨r0, r1, r2⟩, f0, f1, f2⟩ := blk3 hr
  clear hB hr
  go_wp2_with fail
  obtain ⟨e1, e2⟩ := none_end S1.out.below (Nat.le_succ _) HRS.out (.int .i64 0) (.slice none 0 0) (.slice none 0 0)
  exact ret_tab rfl rfl e1 rfl ⟨_, _, _, _, _, _, rfl, e2⟩
set_option maxHeartbeats 2000000 in
theorem spec_ScaleTableau_yes (S : Nat) (a1 : Option Addr) (n1 c1 : Nat) (A : List Int) (a2 : Option Addr) (n2 c2 : Nat) (B : List Int) (k : Int) (w : World) (h1 : Rd w a1 n1 c1 A) (h2 : Rd w a2 n2 c2 B) (hok : tabOk S A B = true) (e1 : n1 = S * S) (e2 : n2 = S) (hS : S ≤ 8) :
    Calls Try.prog 34 #[.agg #[.int .i64 S, .slice a1 n1 c1, .slice a2 n2 c2], .int .i64 k] w fun e w' => ∃ a1 n1 c1 a2 n2 c2, e = .returned (.agg #[.int .i64 S, .slice a1 n1 c1, .slice a2 n2 c2]) ∧ NewT w w' (A.map (M.times · k)) (B.map (M.times · k)) a1 n1 c1 a2 n2 c2 := by
  have HN := hid hok
  have H1 := hid h1
  have H2 := hid h2
  have e64 : n1 ≤ 64 := by rw [e1]; exact Nat.mul_le_mul hS hS
  subst e2
  clear h1 h2 hok e1
  have K0 := hid (heap_alloc_at w #[.int .i64 n2, .slice a1 n1 c1, .slice a2 n2 c2] 27 w.heap.size rfl)
  have K1 := hid (bk_alloc K0.out (.cells #[.int .i64 0, .slice none 0 0, .slice none 0 0] 27))
  have R1 := hid (heap_alloc_at (w.alloc (.cells #[.int .i64 n2, .slice a1 n1 c1, .slice a2 n2 c2] 27)) #[.int .i64 0, .slice none 0 0, .slice none 0 0] 27 (w.heap.size + 1) (by simp))
  have L1 := hid (l_alloc (below_box w (.cells #[.int .i64 n2, .slice a1 n1 c1, .slice a2 n2 c2] 27)) (.cells #[.int .i64 0, .slice none 0 0, .slice none 0 0] 27))
  go_enter Try.func34, Try.ntmps34
  go_wp2_with fail
  refine (spec_TableauOk _ _ _ _ A _ _ _ B _ ((H1.out.alloc _).alloc _) ((H2.out.alloc _).alloc _)).mono ?_
  rw [HN.out]
  rintro e w1 ⟨rfl, hB⟩
  have y1 := hB.size
  simp only [World.size_alloc] at y1
  have K2 := hid (bk_below K1.out hB)
  have R2 := hid (bk_below R1.out hB)
  have L2 := hid (l_below L1.out hB)
  clear hB K0 K1 R1 L1
  obtain ⟨⟨q0, q1, q2⟩, _⟩ := blk3 K2.out
  have A0 := hid (Ap.start w1 (.int .i64 n2))
  go_wp2_with fail
  clear q0 q1 q2
  go_loopw [6] (fun i wr => ∃ (j : Nat) (vA : Value), i = .int .i64 j ∧ j ≤ n1 ∧ Hid (Ap w1.heap.size w1 wr (.int .i64 n2) vA (.slice none 0 0) j 0 ((A.take j).map (M.times · k)) [])) (fun i _ => n1 - (intOf i).toNat)
  case atStart => exact ⟨0, _, rfl, Nat.zero_le _, A0⟩
  case round =>
    obtain ⟨j, vA, rfl, hj, hM⟩ := hrel
    obtain ⟨wo, rfl⟩ : ∃ wo : World, wo = wr := ⟨_, rfl⟩
    have kb := hM.out.old (by omega) K2.out
    obtain ⟨⟨q0, q1, q2⟩, _⟩ := blk3 kb
    by_cases hlt : j < n1
    · obtain ⟨b, o, x, rfl, hc0, _, _, hx⟩ := H1.out.at hlt
      have hbl := World.block_lt_of_cell? w _ hc0
      simp only at hbl
      have hc := (((L2.out.trans (hM.out.l.mono (by omega))).cell (p := ⟨b, o + j, none⟩) hbl)).trans hc0
      clear hc0
      have hki : (j : Int) < (n1 : Int) := by omega
      have hz := hM.out.size
      obtain ⟨⟨r0, r1, r2⟩, f0, f1, f2⟩ := blk3 hM.out.out
      have hs : ∀ w', Below (w1.heap.size + 1) wo w' → w'.cell? ⟨w.heap.size, 1, none⟩ = some (.slice (some ⟨b, o, none⟩) n1 c1) ∧ w'.cell? ⟨w1.heap.size, 1, none⟩ = some vA ∧ w'.frozen? ⟨w1.heap.size, 1, none⟩ = false ∧ w'.cell? ⟨b, o + j, none⟩ = some (.int .i64 x) := fun w' hB =>
        ⟨(hB.cell (p := ⟨w.heap.size, 1, none⟩) (by simp; omega)).trans q1, (hB.cell (p := ⟨w1.heap.size, 1, none⟩) (by simp)).trans r1, (hB.frozen (p := ⟨w1.heap.size, 1, none⟩) (by simp)).trans f1, (hB.cell (p := ⟨b, o + j, none⟩) (by simp; omega)).trans hc⟩
      have HKS := hid hs
      clear hs kb
      go_wp2_with fail
      go_region_law (first
          | (refine step_append_ints (by rfl) _ _ (by rfl) (w1.heap.size + 1) vA j _ (by rfl) ((hM.out.a.alloc _).drew) _ 1 1 [M.times x k] (by rfl) (rd_one _ _ _ (I64.num (M.num_times _ _))).drew (by omega) (by simp; omega) ?_; intro ao' c' w3 hO hG hW; obtain ⟨s1, s2, s3, s4⟩ := HKS.out w3 ((((Below.refl _ _).drew).alloc (by simp; omega) _).grown hG (by simp; omega) (fun k hk => (hM.out.a.lt k hk).1)))
          | (go_simp; go_at_call 65; refine (spec_Times _ _ _).mono ?_; rintro e w' ⟨rfl, rfl⟩))
      all_goals
        (have hN := hid ((((hM.out.below (((Below.refl _ _).drew).alloc (by simp) (.cells #[.int .i64 (M.times x k)] 3))).pushA hO hG hW)))
         go_wp2_with fail
         go_roundw
         case rel =>
           refine ⟨j + 1, .slice ao' (j + 1) c', by go_num, by omega, hid ?_⟩
           rw [← map_snoc (M.times · k) (k := j) (by rw [H1.out.len]; exact hlt) hx.out]
           exact hN.out
         case measure => simp [intOf]; omega)
    · obtain rfl : n1 = j := by omega
      have hM0 := hM.out
      rw [show A.take n1 = A from List.take_of_length_le (Nat.le_of_eq H1.out.len)] at hM0
      have HM0 := hid hM0
      have hsz := hM0.size
      clear hM0 hM kb
      go_wp2_with fail
      clear q0 q1 q2
      go_loopw [7] (fun i wr => ∃ (j : Nat) (vB : Value), i = .int .i64 j ∧ j ≤ n2 ∧ Hid (Ap w1.heap.size w1 wr (.int .i64 n2) vA vB n1 j (A.map (M.times · k)) ((B.take j).map (M.times · k)))) (fun i _ => n2 - (intOf i).toNat)
      case atStart => exact ⟨0, _, rfl, Nat.zero_le _, HM0⟩
      case round =>
        obtain ⟨j, vB, rfl, hj, hM⟩ := hrel
        obtain ⟨wq, rfl⟩ : ∃ wq : World, wq = wr := ⟨_, rfl⟩
        have kb := hM.out.old (by omega) K2.out
        obtain ⟨⟨q0, q1, q2⟩, _⟩ := blk3 kb
        by_cases hlt : j < n2
        · obtain ⟨b, o, x, rfl, hc0, _, _, hx⟩ := H2.out.at hlt
          have hbl := World.block_lt_of_cell? w _ hc0
          simp only at hbl
          have hc := (((L2.out.trans (hM.out.l.mono (by omega))).cell (p := ⟨b, o + j, none⟩) hbl)).trans hc0
          clear hc0
          have hki : (j : Int) < (n2 : Int) := by omega
          have hz := hM.out.size
          obtain ⟨⟨r0, r1, r2⟩, f0, f1, f2⟩ := blk3 hM.out.out
          have hs : ∀ w', Below (w1.heap.size + 1) wq w' → w'.cell? ⟨w.heap.size, 2, none⟩ = some (.slice (some ⟨b, o, none⟩) n2 c2) ∧ w'.cell? ⟨w1.heap.size, 2, none⟩ = some vB ∧ w'.frozen? ⟨w1.heap.size, 2, none⟩ = false ∧ w'.cell? ⟨b, o + j, none⟩ = some (.int .i64 x) := fun w' hB =>
            ⟨(hB.cell (p := ⟨w.heap.size, 2, none⟩) (by simp; omega)).trans q2, (hB.cell (p := ⟨w1.heap.size, 2, none⟩) (by simp)).trans r2, (hB.frozen (p := ⟨w1.heap.size, 2, none⟩) (by simp)).trans f2, (hB.cell (p := ⟨b, o + j, none⟩) (by simp; omega)).trans hc⟩
          have HKS := hid hs
          clear hs kb
          go_wp2_with fail
          go_region_law (first
              | (refine step_append_ints (by rfl) _ _ (by rfl) (w1.heap.size + 1) vB j _ (by rfl) ((hM.out.b.alloc _).drew) _ 1 1 [M.times x k] (by rfl) (rd_one _ _ _ (I64.num (M.num_times _ _))).drew (by omega) (by simp; omega) ?_; intro ao' c' w3 hO hG hW; obtain ⟨s1, s2, s3, s4⟩ := HKS.out w3 ((((Below.refl _ _).drew).alloc (by simp; omega) _).grown hG (by simp; omega) (fun k hk => (hM.out.b.lt k hk).1)))
              | (go_simp; go_at_call 65; refine (spec_Times _ _ _).mono ?_; rintro e w' ⟨rfl, rfl⟩))
          all_goals
            (have hN := hid ((((hM.out.below (((Below.refl _ _).drew).alloc (by simp) (.cells #[.int .i64 (M.times x k)] 3))).pushB hO hG hW)))
             go_wp2_with fail
             go_roundw
             case rel =>
               refine ⟨j + 1, .slice ao' (j + 1) c', by go_num, by omega, hid ?_⟩
               rw [← map_snoc (M.times · k) (k := j) (by rw [H2.out.len]; exact hlt) hx.out]
               exact hN.out
             case measure => simp [intOf]; omega)
        · obtain rfl : n2 = j := by omega
          have hM0 := hM.out
          rw [show B.take n2 = B from List.take_of_length_le (Nat.le_of_eq H2.out.len)] at hM0
          have HM1 := hid hM0
          obtain ⟨⟨t0, t1, t2⟩, f0, f1, f2⟩ := blk3 (hM0.old (by omega) R2.out)
          obtain ⟨_, _, rfl, _⟩ := hM0.a.fr
          obtain ⟨_, _, rfl, _⟩ := hM0.b.fr
          obtain ⟨⟨r0, r1, r2⟩, _⟩ := blk3 hM0.out
          clear hM0 hM kb
          go_wp2_with fail
          obtain ⟨_, _, _, _, ea, eb, e1, e2⟩ := HM1.out.finish (Nat.le_succ _) (by omega) L2.out R2.out
          cases ea
          cases eb
          exact ret_tab rfl rfl e1 rfl ⟨_, _, _, _, _, _, rfl, e2⟩
end Go.Proofs.Ytekojohhjnklkaa
