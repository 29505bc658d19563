/- ComposeTableaus of the implementation. -/
import Derived.Test.YtekojohhjnklkaaCmpL
import Derived.Test.YtekojohhjnklkaaQuiet
import Derived.StillTailTactics
import Derived.Test.YtekojohhjnklkaaHold
namespace Go.Proofs.Ytekojohhjnklkaa
open Go.RowKit

/-- 'out' is a struct at ob, its fields the blocks bA, bB, known whole; what lay below lo in W1 is as it was. -/
structure Cw (lo : Nat) (W1 wr : World) (S : Value) (ob bA bB nA nB : Nat) (XA XB : List Int) : Prop where
  l : Below lo W1 wr
  out : wr.heap[ob]? = some (.cells #[S, .slice (some ⟨bA, 0, none⟩) nA nA, .slice (some ⟨bB, 0, none⟩) nB nB] 27 (0, 0))
  a : Bi wr bA XA
  b : Bi wr bB XB
theorem Cw.below {lo : Nat} {W1 wr w' : World} {S : Value} {ob bA bB nA nB : Nat} {XA XB : List Int} (h : Cw lo W1 wr S ob bA bB nA nB XA XB) (hb : Below wr.heap.size wr w') (hl : lo ≤ wr.heap.size) : Cw lo W1 w' S ob bA bB nA nB XA XB :=
  ⟨h.l.trans (hb.mono hl), bk_below h.out hb, h.a.below hb, h.b.below hb⟩
theorem Cw.old {lo : Nat} {W1 wr : World} {S : Value} {ob bA bB nA nB : Nat} {XA XB : List Int} (h : Cw lo W1 wr S ob bA bB nA nB XA XB) {k : Nat} {o : Obj} (hk : k < lo) (ho : W1.heap[k]? = some o) : wr.heap[k]? = some o := (h.l.block k hk).trans ho

/-- A copy into A's block. -/
theorem Cw.copied {lo : Nat} {W1 wr w' : World} {S : Value} {ob bA bB nA nB : Nat} {XA XA' XB : List Int} (h : Cw lo W1 wr S ob bA bB nA nB XA XB) (hg : wr.grownBy w' (some bA)) (hb : Bi w' bA XA') (hl : lo ≤ wr.heap.size) (hlA : lo ≤ bA) (h1 : ob ≠ bA) (h2 : bB ≠ bA) : Cw lo W1 w' S ob bA bB nA nB XA' XB :=
  ⟨h.l.grown hg hl (fun k hk => by simp only [Option.some.injEq] at hk; omega), bk_grown h.out hg (fun k hk => by simp only [Option.some.injEq] at hk; omega), hb, bk_grown h.b hg (fun k hk => by simp only [Option.some.injEq] at hk; omega)⟩
theorem Cw.storeB {lo : Nat} {W1 wr : World} {S : Value} {ob bA bB nA nB : Nat} {XA XB : List Int} (h : Cw lo W1 wr S ob bA bB nA nB XA XB) (k : Nat) (x : Int) (hlB : lo ≤ bB) (h1 : ob ≠ bB) (h2 : bA ≠ bB) : Cw lo W1 (wr.setCell ⟨bB, k, none⟩ (.int .i64 x)) S ob bA bB nA nB XA (XB.set k x) :=
  ⟨h.l.setCell hlB _, (heap_setCell_other _ _ _ _ h1).trans h.out, h.a.far h2, h.b.set k x⟩
theorem Cw.drew {lo : Nat} {W1 wr : World} {S : Value} {ob bA bB nA nB : Nat} {XA XB : List Int} (h : Cw lo W1 wr S ob bA bB nA nB XA XB) : Cw lo W1 wr.drew S ob bA bB nA nB XA XB := ⟨h.l.drew, h.out, h.a, h.b⟩
set_option maxHeartbeats 4000000 in
theorem impl_ComposeTableaus_yes (S T : Nat) (a1 : Option Addr) (n1 c1 : Nat) (A : List Int) (a2 : Option Addr) (c2 : Nat) (B : List Int) (a3 : Option Addr) (n3 c3 : Nat) (C : List Int) (a4 : Option Addr) (c4 : Nat) (D : List Int) (w : World)
    (h1 : Rd w a1 n1 c1 A) (h2 : Rd w a2 S c2 B) (h3 : Rd w a3 n3 c3 C) (h4 : Rd w a4 T c4 D) (hok1 : tabOk S A B = true) (hok2 : tabOk T C D = true) (e1 : n1 = S * S) (e3 : n3 = T * T) (hN : S + T ≤ 8) :
    Calls Try.prog 40 #[.agg #[.int .i64 S, .slice a1 n1 c1, .slice a2 S c2], .agg #[.int .i64 T, .slice a3 n3 c3, .slice a4 T c4]] w fun e w' => ∃ p n c q m d, e = .returned (.tuple #[.agg #[.int .i64 ((S : Int) + (T : Int)), .slice p n c, .slice q m d], .bool true]) ∧ NewT w w' (cmpL A B C S T (S + T)) (B ++ D) p n c q m d := by
  obtain ⟨N, hNe⟩ : ∃ N, N = S + T := ⟨_, rfl⟩
  have hNi : (S : Int) + (T : Int) = (N : Int) := by omega
  have HN1 := hid hok1
  have HN2 := hid hok2
  have H1 := hid h1
  have H2 := hid h2
  have H3 := hid h3
  have H4 := hid h4
  have E1 := hid e1
  have E3 := hid e3
  obtain ⟨nn, hnn⟩ : ∃ nn, nn = N * N := ⟨_, rfl⟩
  have e64 : nn ≤ 64 := by rw [hnn]; exact Nat.mul_le_mul (show N ≤ 8 by omega) (show N ≤ 8 by omega)
  have ENN := hid hnn
  have HNE := hid hNe
  have hN8 : N ≤ 8 := by omega
  have hS8 : S ≤ N := by omega
  have hT8 : T ≤ N := by omega
  clear h1 h2 h3 h4 hok1 hok2 e1 e3 hnn hNe
  rw [hNi]
  have HNI := hid hNi
  clear hNi
  have S0 := hid (((St.first w #[.int .i64 S, .slice a1 n1 c1, .slice a2 S c2] 27).alloc (.cells #[.int .i64 T, .slice a3 n3 c3, .slice a4 T c4] 27)).alloc (.cells #[.int .i64 0, .slice none 0 0, .slice none 0 0] 27))
  have T0 := hid (bk_alloc (heap_alloc_at (w.alloc (.cells #[.int .i64 S, .slice a1 n1 c1, .slice a2 S c2] 27)) #[.int .i64 T, .slice a3 n3 c3, .slice a4 T c4] 27 (w.heap.size + 1) (by simp)) (.cells #[.int .i64 0, .slice none 0 0, .slice none 0 0] 27))
  have R0 := hid (heap_alloc_at ((w.alloc (.cells #[.int .i64 S, .slice a1 n1 c1, .slice a2 S c2] 27)).alloc (.cells #[.int .i64 T, .slice a3 n3 c3, .slice a4 T c4] 27)) #[.int .i64 0, .slice none 0 0, .slice none 0 0] 27 (w.heap.size + 1 + 1) (by simp))
  go_enter Try.func40, Try.ntmps40
  go_wp2_with fail
  refine (impl_TableauOk _ _ _ _ A _ _ _ B _ (H1.out.below S0.out.below) (H2.out.below S0.out.below)).mono ?_
  rw [HN1.out]
  rintro e w1 ⟨rfl, hB⟩
  have y1 := hB.size
  simp only [World.size_alloc] at y1
  have S1 := hid (S0.out.step hB)
  have T1 := hid (bk_below T0.out hB)
  have R1 := hid (bk_below R0.out hB)
  obtain ⟨⟨q0, q1, q2⟩, _⟩ := blk3 S1.out.box
  obtain ⟨⟨p0, p1, p2⟩, _⟩ := blk3 T1.out
  clear hB S0 T0 R0
  go_wp2_with fail
  refine (impl_TableauOk _ _ _ _ C _ _ _ D _ (H3.out.below S1.out.below) (H4.out.below S1.out.below)).mono ?_
  rw [HN2.out]
  rintro e w2 ⟨rfl, hB⟩
  have y2 := hB.size
  have S2 := hid (S1.out.step hB)
  have T2 := hid (bk_below T1.out hB)
  have R2 := hid (bk_below R1.out hB)
  clear hB S1 T1 R1 q0 q1 q2 p0 p1 p2
  obtain ⟨⟨q0, q1, q2⟩, _⟩ := blk3 S2.out.box
  obtain ⟨⟨p0, p1, p2⟩, _⟩ := blk3 T2.out
  have hwr : IntKind.i64.wrap ((S : Int) + (T : Int)) = (N : Int) := by rw [HNI.out]; exact IntWalk.i64_in (N : Int) ⟨by omega, by omega⟩
  have hg : ¬ (8 : Int) < (N : Int) := by omega
  go_wp2_with fail
  refine (impl_emptyW N nn _ hN8 ENN.out).mono ?_
  rintro e w3 ⟨bA, bB, rfl, hbA, hbB, hne, hB3, hA3, hB3'⟩
  have y3 := hB3.size
  have z1 := bk_lt hbA
  have z2 := bk_lt hbB
  have M0 := hid (show Cw w2.heap.size w2 (w3.alloc (.cells #[.int .i64 N, .slice (some ⟨bA, 0, none⟩) nn nn, .slice (some ⟨bB, 0, none⟩) N N] 27)) (.int .i64 N) w3.heap.size bA bB nn N (zerosL nn) (zerosL N) from
    ⟨hB3.alloc (by omega) _, bk_new _ _ _, bk_alloc hbA _, bk_alloc hbB _⟩)
  clear hbA hbB hB3 q0 q1 q2 p0 p1 p2
  have hlt3 : w.heap.size + 1 < w3.heap.size := by omega
  have HBD := hid (show (B ++ D).length = N by rw [List.length_append, H2.out.len, H4.out.len, HNE.out])
  have HLN := hid (show (∀ k, k ≤ N → (cmpL A B C S T k).length = k * N) ∧ ∀ k, k ≤ N → ((B ++ D).take k ++ zerosL (N - k)).length = N by
    refine ⟨fun k hk => ?_, fun k hk => ?_⟩
    · rw [cmpL_len (by rw [H1.out.len, E1.out]) H2.out.len (by rw [H3.out.len, E3.out]) k (by rw [← HNE.out]; exact hk), HNE.out]
    · rw [List.length_append, List.length_take, HBD.out]; simp [zerosL]; omega)
  go_wp2_with fail
  go_loopw [7, 8, 35] (fun _ _ i wr => ∃ k : Nat, i = .int .i64 k ∧ k ≤ N ∧ w2.heap.size ≤ wr.heap.size ∧ Hid (Cw w2.heap.size w2 wr (.int .i64 N) w3.heap.size bA bB nn N (cmpL A B C S T k ++ zerosL (nn - k * N)) ((B ++ D).take k ++ zerosL (N - k)))) (fun _ _ i _ => N - (intOf i).toNat)
  case atStart => exact ⟨0, rfl, Nat.zero_le _, by simp; omega, hid (by simpa [cmpL] using M0.out)⟩
  case round =>
    obtain ⟨k, rfl, hk, hz, hM⟩ := hrel
    obtain ⟨wo, rfl⟩ : ∃ wo : World, wo = wr := ⟨_, rfl⟩
    by_cases hlt : k < N
    · have hki : (k : Int) < (N : Int) := by omega
      obtain ⟨⟨r0, r1, r2⟩, _⟩ := blk3 hM.out.out
      go_wp2_with fail
      refine (impl_row N k bA 0 nn nn _ _ ENN.out (Nat.le_refl _) (by omega) hlt hN8).mono ?_
      rintro e w4 ⟨rfl, hB⟩
      have y4 := hB.size
      have M1 := hid (hM.out.below hB hz)
      clear hB r0 r1 r2
      obtain ⟨⟨q0, q1, q2⟩, _⟩ := blk3 (M1.out.old (by omega) S2.out.box)
      obtain ⟨⟨p0, p1, p2⟩, _⟩ := blk3 (M1.out.old (by omega) T2.out)
      obtain ⟨⟨r0, r1, r2⟩, _⟩ := blk3 M1.out.out
      by_cases hlo : k < S
      · have hki2 : (k : Int) < (S : Int) := by omega
        obtain ⟨ab, ao, x0, rfl, _, _, _, _⟩ := H1.out.at (k := 0) (by rw [E1.out]; exact Nat.mul_pos (by omega) (by omega))
        go_wp2_with fail
        refine (impl_row S k ab ao n1 c1 _ _ E1.out H1.out.cap H1.out.max hlo (by omega)).mono ?_
        rintro e w5 ⟨rfl, hB⟩
        have y5 := hB.size
        have M2 := hid (M1.out.below hB (by omega))
        clear hB r0 r1 r2 q0 q1 q2 p0 p1 p2
        obtain ⟨hl1, hl2⟩ := HLN.out
        have hst := step_bd hlt hN8
        rw [← ENN.out] at hst
        obtain ⟨w6, hcp, hbi, hgr, hsz6⟩ := run_copy_ints (dLen := N) (dCap := nn - k * N) M2.out.a (hl1 k (by omega)) ((H1.out.below (S2.out.below.trans (M2.out.l.mono (by omega)))).row E1.out hlo) (by omega) (by omega) 3
        have M3 := hid (M2.out.copied hgr hbi (by omega) (by omega) (by omega) (by omega))
        obtain ⟨⟨q0, q1, q2⟩, _⟩ := blk3 (M3.out.old (by omega) S2.out.box)
        obtain ⟨⟨r0, r1, r2⟩, _⟩ := blk3 M3.out.out
        obtain ⟨b, o, x, rfl, hcx, x1, x2, hx⟩ := (H2.out.below (S2.out.below.trans (M3.out.l.mono (by omega)))).at hlo
        obtain ⟨y', hcB, hfB⟩ := M3.out.b.cell (k := k) (by rw [hl2 k (by omega)]; exact hlt)
        have hM4 := M3.out.drew.storeB k x (by omega) (by omega) (by omega)
        have hxe : x = (B ++ D).getD k 0 := getD_lo H2.out.len hlo hx.out
        rw [cmpB_step HBD.out hlt hxe, show nn - k * N - S = T + (nn - (k + 1) * N) by rw [Nat.add_mul, Nat.one_mul]; have := HNE.out; omega, zerosL_add,
          ← List.append_assoc, List.append_assoc (cmpL A B C S T k), ← cmpRow_lo (B := B) (C := C) (T := T) hlo, ← cmpL_succ] at hM4
        have M4 := hid hM4
        clear hM4 hxe hbi hgr hst hl1 hl2
        go_wp2_with fail
        refine wp_region_still_tail 8 (by kernel_rfl) (by kernel_rfl) ?_
        simp only [List.take_succ_cons, List.take_zero, List.drop_succ_cons, List.drop_zero]
        repeat still_step
        refine wpStill_nil ?_
        change wpList _ _ _ _ _ w6.drew
        go_wp2_with fail
        go_roundw
        case rel => exact ⟨k + 1, by go_num, by omega, by simp; omega, M4⟩
        case measure => simp [intOf]; omega
      · have hki2 : (S : Int) ≤ (k : Int) := by omega
        obtain ⟨k', hk'e⟩ : ∃ k', k' = k - S := ⟨_, rfl⟩
        have hk' : k' < T := by have := HNE.out; omega
        have HKE := hid hk'e
        obtain ⟨hl1, hl2⟩ := HLN.out
        have hst := step_bd hlt hN8
        rw [← ENN.out] at hst
        obtain ⟨w5, hcp, hbi, hgr, hsz5⟩ := run_copy_ints (dLen := N) (dCap := nn - k * N) M1.out.a (hl1 k (by omega)) (H2.out.below (S2.out.below.trans (M1.out.l.mono (by omega)))) (by omega) (by omega) 3
        have M2 := hid (M1.out.copied hgr hbi (by omega) (by omega) (by omega) (by omega))
        have hdS : ¬ ((k : Int) < (S : Int)) := by omega
        clear hk'e
        go_wp2_with fail
        clear hcp hbi hgr q0 q1 q2 p0 p1 p2 r0 r1 r2
        obtain ⟨⟨q0, q1, q2⟩, _⟩ := blk3 (M2.out.old (by omega) S2.out.box)
        obtain ⟨⟨p0, p1, p2⟩, _⟩ := blk3 (M2.out.old (by omega) T2.out)
        obtain ⟨cb, co, x0, rfl, _, _, _, _⟩ := H3.out.at (k := 0) (by rw [E3.out]; exact Nat.mul_pos (by omega) (by omega))
        have hs : ∀ w', Below w5.heap.size w5 w' → w'.cell? ⟨w.heap.size, 0, none⟩ = some (.int .i64 S) ∧ w'.cell? ⟨w.heap.size + 1, 0, none⟩ = some (.int .i64 T) ∧ w'.cell? ⟨w.heap.size + 1, 1, none⟩ = some (.slice (some ⟨cb, co, none⟩) n3 c3) ∧ w'.cell? ⟨w.heap.size + 1, 2, none⟩ = some (.slice a4 T c4) := fun w' hB =>
          ⟨(hB.cell (p := ⟨w.heap.size, 0, none⟩) (by simp; omega)).trans q0, (hB.cell (p := ⟨w.heap.size + 1, 0, none⟩) (by simp; omega)).trans p0, (hB.cell (p := ⟨w.heap.size + 1, 1, none⟩) (by simp; omega)).trans p1, (hB.cell (p := ⟨w.heap.size + 1, 2, none⟩) (by simp; omega)).trans p2⟩
        have HKS := hid hs
        have hwk : IntKind.i64.wrap ((k : Int) - (S : Int)) = (k' : Int) := wrap_dif (by have := HKE.out; omega) (by omega)
        have hSN : (S : Int) ≤ (N : Int) := by omega
        have hcap : (N : Int) ≤ ((nn - k * N : Nat) : Int) := by omega
        have hc1 : ¬ nn - k * N = S := by have := HNE.out; omega
        have hc2 : ¬ S = nn - k * N := by omega
        have hc3 : ¬ nn - k * N - S = 0 := by omega
        clear hs q0 q1 q2 p0 p1 p2 hdS
        go_wp2_with fail
        refine wp_region_kept (S := fun w' => Below w5.heap.size w5 w') 9 10 rfl (by kernel_rfl) (fun _ _ d _ _ h => by cases d <;> exact h) ((Below.refl _ _).drew) ?_
        simp only [List.take_succ_cons, List.take_zero, List.drop_succ_cons, List.drop_zero]
        (refine take_step (fun K hK => ?_); refine take_val ?_ (by rfl) ?_ ?_; rotate_left 1; (focus (intro wc hC; skip; go_simp; try rfl)); go_simp; refine hK.out _ ?_; clear hK K)
        (refine take_step (fun K hK => ?_); refine take_val ?_ (by rfl) ?_ ?_; rotate_left 1; (focus (intro wc hC; skip; go_simp; try rfl)); go_simp; refine hK.out _ ?_; clear hK K)
        (refine take_step (fun K hK => ?_); refine take_val ?_ (by rfl) ?_ ?_; rotate_left 1; (focus (intro wc hC; obtain ⟨s0, s1, s2, s3⟩ := HKS.out wc hC; go_simp; try rfl)); go_simp; refine hK.out _ ?_; clear hK K)
        (refine take_step (fun K hK => ?_); refine take_val ?_ (by rfl) ?_ ?_; rotate_left 1; (focus (intro wc hC; skip; go_simp; try rfl)); go_simp; refine hK.out _ ?_; clear hK K)
        (refine take_step (fun K hK => ?_); refine take_val ?_ (by rfl) ?_ ?_; rotate_left 1; (focus (intro wc hC; obtain ⟨s0, s1, s2, s3⟩ := HKS.out wc hC; go_simp; try rfl)); go_simp; refine hK.out _ ?_; clear hK K)
        (refine take_step (fun K hK => ?_); refine take_val ?_ (by rfl) ?_ ?_; rotate_left 1; (focus (intro wc hC; skip; go_simp; try rfl)); go_simp; refine hK.out _ ?_; clear hK K)
        (refine take_step (fun K hK => ?_); refine take_val ?_ (by rfl) ?_ ?_; rotate_left 1; (focus (intro wc hC; skip; go_simp; try rfl)); go_simp; refine hK.out _ ?_; clear hK K)
        (refine take_step (fun K hK => ?_); refine take_val ?_ (by rfl) ?_ ?_; rotate_left 1; (focus (intro wc hC; obtain ⟨s0, s1, s2, s3⟩ := HKS.out wc hC; go_simp; try rfl)); go_simp; refine hK.out _ ?_; clear hK K)
        (refine take_step (fun K hK => ?_); refine take_val ?_ (by rfl) ?_ ?_; rotate_left 1; (focus (intro wc hC; skip; go_simp; try rfl)); go_simp; refine hK.out _ ?_; clear hK K)
        change wpMid _ _ _ _ _ _ _ _
        (refine mid_step (fun K hK => ?_); refine mid_call ?_ ?_ (by rfl) ?_ ?_; rotate_left 2; focus (go_simp; first | done | rfl | (refine And.intro ?_ ?_ <;> rfl)))
        refine (impl_row T k' cb co n3 c3 _ _ E3.out H3.out.cap H3.out.max hk' (by omega)).mono ?_
        rintro e w6 ⟨rfl, hB⟩
        refine ⟨_, rfl, ?_⟩
        have hB5 : Below w5.heap.size w5 w6 := of_drew hB
        clear hB
        have hNS := HNE.out
        have y6 := hB5.size
        have M3 := hid (M2.out.below hB5 (by omega))
        obtain ⟨w7, hcp2, hbi2, hgr2, hsz7⟩ := run_copy_ints (dLen := N - S) (dCap := nn - k * N - S) (off := k * N + S) M3.out.a (by rw [List.length_append, hl1 k (by omega), H2.out.len]) ((H3.out.below (S2.out.below.trans (M3.out.l.mono (by omega)))).row E3.out hk') (by omega) (by omega) 3
        have M4 := hid (M3.out.copied hgr2 hbi2 (by omega) (by omega) (by omega) (by omega))
        clear hNS
        (go_simp; refine hK.out _ _ ?_ ?_ <;> clear hK K)
        · exact hB5
        change wpList _ _ _ _ _ _
        clear hB5 hwk hcap hSN
        obtain ⟨⟨q0, q1, q2⟩, _⟩ := blk3 (M4.out.old (by omega) S2.out.box)
        obtain ⟨⟨p0, p1, p2⟩, _⟩ := blk3 (M4.out.old (by omega) T2.out)
        obtain ⟨⟨r0, r1, r2⟩, _⟩ := blk3 M4.out.out
        obtain ⟨b, o, x, rfl, hcx, x1, x2, hx⟩ := (H4.out.below (S2.out.below.trans (M4.out.l.mono (by omega)))).at hk'
        obtain ⟨y', hcB, hfB⟩ := M4.out.b.cell (k := k) (by rw [hl2 k (by omega)]; exact hlt)
        have hM5 := M4.out.drew.storeB k x (by omega) (by omega) (by omega)
        have hxe : x = (B ++ D).getD k 0 := getD_hi H2.out.len hlo (by rw [← HKE.out]; exact hx.out)
        rw [cmpB_step HBD.out hlt hxe, show nn - k * N - S - T = nn - (k + 1) * N by rw [Nat.add_mul, Nat.one_mul]; have := HNE.out; omega,
          List.append_assoc (cmpL A B C S T k), HKE.out, ← cmpRow_hi (A := A) hlo, ← cmpL_succ] at hM5
        have M5 := hid hM5
        clear hM5 hxe hbi2 hgr2 hst hl1 hl2
        have hwk : IntKind.i64.wrap ((k : Int) - (S : Int)) = (k' : Int) := wrap_dif (by have := HKE.out; omega) (by omega)
        have hki3 : (k' : Int) < (T : Int) := by omega
        go_wp2_with fail
        refine wp_region_still_tail 11 (by kernel_rfl) (by kernel_rfl) ?_
        simp only [List.take_succ_cons, List.take_zero, List.drop_succ_cons, List.drop_zero]
        repeat still_step
        refine wpStill_nil ?_
        change wpList _ _ _ _ _ w7.drew
        go_wp2_with fail
        go_roundw
        case rel => exact ⟨k + 1, by go_num, by omega, by simp; omega, M5⟩
        case measure => simp [intOf]; omega
    · obtain rfl : N = k := by omega
      have hM0 := hM.out
      rw [← ENN.out, Nat.sub_self, Nat.sub_self, show zerosL 0 = [] from rfl, List.append_nil, List.append_nil, List.take_of_length_le (Nat.le_of_eq HBD.out)] at hM0
      have HM1 := hid hM0
      obtain ⟨⟨t0, t1, t2⟩, f0, f1, f2⟩ := blk3 (hM0.old (by omega) R2.out)
      obtain ⟨⟨r0, r1, r2⟩, _⟩ := blk3 hM0.out
      clear hM0 hM
      go_wp2_with fail
      refine ret_tabb rfl rfl rfl (heap_setCell_same _ _ _ _ _ _ (heap_setCell_same _ _ _ _ _ _ (heap_setCell_same _ _ _ _ _ _ (HM1.out.old (by omega) R2.out)))) rfl ⟨_, _, _, _, _, _, rfl, ?_⟩
      have hcm : cmpL A B C S T N = cmpL A B C S T (S + T) := by rw [HNE.out]
      rw [← hcm]
      exact newT_blocks (((HM1.out.a.far (by omega)).far (by omega)).far (by omega)) (((HM1.out.b.far (by omega)).far (by omega)).far (by omega)) ((((S2.out.below.trans (HM1.out.l.mono (by omega))).setCell (by simp; omega) _).setCell (by simp; omega) _).setCell (by simp; omega) _)
        (by omega) (by omega) hne (by rw [HLN.out.1 N (Nat.le_refl _), ENN.out]) HBD.out (by omega) (by omega) (cmpL_wf H1.out.wf H2.out.wf H3.out.wf) (fun x hx => (List.mem_append.1 hx).elim (H2.out.wf x) (H4.out.wf x))
end Go.Proofs.Ytekojohhjnklkaa
