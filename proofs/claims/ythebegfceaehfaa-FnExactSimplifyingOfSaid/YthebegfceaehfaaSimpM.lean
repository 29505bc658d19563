/- SimplifyingOf of the implementation. -/
import Derived.Test.YthebegfceaehfaaSimpI
import Derived.Laws.EntriesVeiled
namespace Go.Proofs.Ythebegfceaehfaa
open Go.RowKit
attribute [local irreducible] M.powr

def cntGo (f : Nat → Bool) : Nat → Nat → Nat
  | n, 0 => n
  | n, fuel + 1 => if f (n + 1) then cntGo f (n + 1) fuel else n
def cnt6 (f : Nat → Bool) : Nat := cntGo f 0 6
theorem cntGo_le (f : Nat → Bool) : ∀ fuel n, cntGo f n fuel ≤ n + fuel
  | 0, n => by simp [cntGo]
  | fuel + 1, n => by
    rw [cntGo]
    split
    · have := cntGo_le f fuel (n + 1)
      omega
    · omega
theorem cntGo_yes {f : Nat → Bool} {n : Nat} (hn : n < 6) (h : f (n + 1) = true) : cntGo f n (6 - n) = cntGo f (n + 1) (6 - (n + 1)) := by
  rw [show 6 - n = (6 - (n + 1)) + 1 by omega, cntGo, if_pos h]
theorem cntGo_no {f : Nat → Bool} {n : Nat} (hn : n < 6) (h : f (n + 1) = false) : cntGo f n (6 - n) = n := by
  rw [show 6 - n = (6 - (n + 1)) + 1 by omega, cntGo, h]; rfl
def simpL (A B C : List Int) (S : Nat) : List Int := [(cnt6 (simp0 B C) : Int), (cnt6 (simp1 A C S) : Int), (cnt6 (simp2 A B C S) : Int)]
def simpV (s : Int) (A B : List Int) : List Int := if tabOk s A B then simpL A B (nodesL A s.toNat s.toNat) s.toNat else []
theorem simpV_no {s : Int} {A B : List Int} (h : tabOk s A B = false) : simpV s A B = [] := by unfold simpV; rw [h]; rfl
theorem simpV_yes {S : Nat} {A B : List Int} (h : tabOk S A B = true) : simpV S A B = simpL A B (nodesL A S S) S := by unfold simpV; rw [h, if_pos rfl, Int.toNat_natCast]
theorem simpV_len (s : Int) (A B : List Int) : (simpV s A B).length ≤ 8 := by
  unfold simpV
  split <;> simp [simpL]
theorem simpL_wf {A B C : List Int} {S : Nat} : ∀ x ∈ simpL A B C S, I64 x := by
  intro x hx
  have h := fun f => cntGo_le f 6 0
  simp only [simpL, List.mem_cons, List.not_mem_nil, or_false] at hx
  have h0 := h (simp0 B C)
  have h1 := h (simp1 A C S)
  have h2 := h (simp2 A B C S)
  unfold cnt6 at hx
  rcases hx with rfl | rfl | rfl <;> exact ⟨by omega, by omega⟩
theorem cell3 {w : World} {b : Nat} {x y z : Value} {e : TypeId} (h : w.heap[b]? = some (.cells #[x, y, z] e (0, 0))) : w.cell? ⟨b, 0, none⟩ = some x ∧ w.cell? ⟨b, 1, none⟩ = some y ∧ w.cell? ⟨b, 2, none⟩ = some z := (blk3 h).1

section
variable {w : World} {S : Nat} {a1 : Option Addr} {n1 c1 : Nat} {A : List Int} {a2 : Option Addr} {c2 : Nat} {B : List Int} {a3 : Option Addr} {c3 : Nat} {C : List Int} {bx cb pb : Nat}
theorem impl_simp0' (x : Int) (k : Nat) (hx : x = k) (hE : Env w S a1 n1 c1 A a2 c2 B a3 c3 C bx cb pb) (hk1 : 1 ≤ k) (hk6 : k ≤ 6) :
    Calls Try.prog 38 #[.int .i64 x, .pointer (some ⟨bx, 0, none⟩), .pointer (some ⟨pb, 0, none⟩)] w fun e w' => e = .returned (.bool (simp0 B C k)) ∧ Below w.heap.size w w' := hx ▸ impl_simp0 k hE hk1 hk6
theorem impl_simp1' (x : Int) (k : Nat) (hx : x = k) (hE : Env w S a1 n1 c1 A a2 c2 B a3 c3 C bx cb pb) (hk1 : 1 ≤ k) (hk6 : k ≤ 6) :
    Calls Try.prog 41 #[.int .i64 x, .pointer (some ⟨cb, 0, none⟩), .pointer (some ⟨bx, 0, none⟩), .pointer (some ⟨pb, 0, none⟩)] w fun e w' => e = .returned (.bool (simp1 A C S k)) ∧ Below w.heap.size w w' := hx ▸ impl_simp1 k hE hk1 hk6
theorem impl_simp2' (x : Int) (k : Nat) (hx : x = k) (hE : Env w S a1 n1 c1 A a2 c2 B a3 c3 C bx cb pb) (hk1 : 1 ≤ k) (hk6 : k ≤ 6) :
    Calls Try.prog 42 #[.int .i64 x, .pointer (some ⟨cb, 0, none⟩), .pointer (some ⟨bx, 0, none⟩)] w fun e w' => e = .returned (.bool (simp2 A B C S k)) ∧ Below w.heap.size w w' := hx ▸ impl_simp2 k hE hk1 hk6
end
theorem impl_SimplifyingOf_no (s : Int) (a1 : Option Addr) (n1 c1 : Nat) (A : List Int) (a2 : Option Addr) (n2 c2 : Nat) (B : List Int) (w : World) (h1 : Rd w a1 n1 c1 A) (h2 : Rd w a2 n2 c2 B) (hno : tabOk s A B = false) :
    Calls Try.prog 14 #[.agg #[.int .i64 s, .slice a1 n1 c1, .slice a2 n2 c2]] w fun e w' => ∃ ao n c, e = .returned (.slice ao n c) ∧ NewInts w w' [] ao n c := by
  have H1 := hid h1
  have H2 := hid h2
  have S0 := hid (St.first w #[.int .i64 s, .slice a1 n1 c1, .slice a2 n2 c2] 27)
  have HN := hid hno
  clear hno h1 h2
  go_enter Try.func14, Try.ntmps14
  go_wp2_with fail
  refine (impl_TableauOk _ _ _ _ A _ _ _ B _ (H1.out.below S0.out.below) (H2.out.below S0.out.below)).mono ?_
  rw [HN.out]
  rintro e w1 ⟨rfl, hB⟩
  have S1 := hid (S0.out.step hB)
  clear hB
  go_wp2_with fail
  go_ret
  exact ⟨_, _, _, rfl, Fr.none _ _, S1.out.below⟩
set_option maxHeartbeats 8000000 in
theorem impl_SimplifyingOf_yes (S : Nat) (a1 : Option Addr) (n1 c1 : Nat) (A : List Int) (a2 : Option Addr) (c2 : Nat) (B : List Int) (w : World) (h1 : Rd w a1 n1 c1 A) (h2 : Rd w a2 S c2 B) (hok : tabOk S A B = true) (e1 : n1 = S * S) (hS : S ≤ 8) :
    Calls Try.prog 14 #[.agg #[.int .i64 S, .slice a1 n1 c1, .slice a2 S c2]] w fun e w' => ∃ ao n c, e = .returned (.slice ao n c) ∧ NewInts w w' (simpL A B (nodesL A S S) S) ao n c := by
  have H1 := hid h1
  have H2 := hid h2
  have E1 := hid e1
  have S0 := hid (St.first w #[.int .i64 S, .slice a1 n1 c1, .slice a2 S c2] 27)
  have HN := hid hok
  have HV := hid (show nodesV S A B = nodesL A S S by unfold nodesV; rw [hok, if_pos rfl, Int.toNat_natCast])
  have hmf : ∀ (fn : Fn) (first cap : Array Value) (w : World), (Instr.makeFunc fn first cap).run Try.prog w = .ok (.func fn first cap) w := fun _ _ _ _ => rfl
  clear hok h1 h2 e1
  go_enter Try.func14, Try.ntmps14
  go_wp2_with fail
  refine (impl_TableauOk _ _ _ _ A _ _ _ B _ (H1.out.below S0.out.below) (H2.out.below S0.out.below)).mono ?_
  rw [HN.out]
  rintro e w1 ⟨rfl, hB⟩
  have S1 := hid (S0.out.step hB)
  obtain ⟨⟨q0, q1, q2⟩, _⟩ := blk3 S1.out.box
  clear hB
  go_wp2_with fail
  refine (impl_NodesOf _ _ _ _ A _ _ _ B _ (H1.out.below S1.out.below) (H2.out.below S1.out.below)).mono ?_
  rw [HV.out]
  rintro e w2 ⟨a3, n3, c3, rfl, hN⟩
  obtain rfl : S = n3 := by have h := hN.1.rd.len; rw [← h]; simp [nodesL]
  have S2 := hid (S1.out.step hN.2)
  have HC := hid hN.1.rd
  have z2 := S2.out.size
  clear hN q0 q1 q2
  generalize hC : nodesL A S S = C at *
  have HCE := hid hC
  clear hC
  go_wp2_with fail
  obtain ⟨W0, hW0⟩ : ∃ W0, W0 = ((w2.alloc (.cells #[.slice a3 S c3] 22)).alloc (.cells #[.func (.func 36) #[] #[.pointer (some ⟨w2.heap.size, 0, none⟩)]] 44)).alloc (.cells #[.func (.func 38) #[] #[.pointer (some ⟨w.heap.size, 0, none⟩), .pointer (some ⟨w2.heap.size + 1, 0, none⟩)],
    .func (.func 41) #[] #[.pointer (some ⟨w2.heap.size, 0, none⟩), .pointer (some ⟨w.heap.size, 0, none⟩), .pointer (some ⟨w2.heap.size + 1, 0, none⟩)], .func (.func 42) #[] #[.pointer (some ⟨w2.heap.size, 0, none⟩), .pointer (some ⟨w.heap.size, 0, none⟩)]] 48) := ⟨_, rfl⟩
  have hsz : W0.heap.size = w2.heap.size + 1 + 1 + 1 := by rw [hW0]; simp
  have HSZ := hid hsz
  have hs1 : w2.heap.size + 1 + 1 + 1 ≤ W0.heap.size := by omega
  have hB0 : Below w2.heap.size w2 W0 := by
    rw [hW0]
    exact (((Below.refl _ _).alloc (Nat.le_refl _) _).alloc (by simp) _).alloc (by simp; omega) _
  have HTB := hid (show W0.heap[w2.heap.size + 1 + 1]? = some (.cells #[.func (.func 38) #[] #[.pointer (some ⟨w.heap.size, 0, none⟩), .pointer (some ⟨w2.heap.size + 1, 0, none⟩)],
    .func (.func 41) #[] #[.pointer (some ⟨w2.heap.size, 0, none⟩), .pointer (some ⟨w.heap.size, 0, none⟩), .pointer (some ⟨w2.heap.size + 1, 0, none⟩)], .func (.func 42) #[] #[.pointer (some ⟨w2.heap.size, 0, none⟩), .pointer (some ⟨w.heap.size, 0, none⟩)]] 48 (0, 0)) by
      rw [hW0]; exact heap_alloc_at _ _ _ _ (by simp))
  have HE := hid (show Env W0 S a1 n1 c1 A a2 c2 B a3 c3 C w.heap.size w2.heap.size (w2.heap.size + 1) from
    ⟨bk_below S2.out.box hB0, by
      rw [hW0]
      rw [World.cell?_alloc_past _ _ _ (by simp; omega), World.cell?_alloc_past _ _ _ (by simp), World.cell?_alloc_at _ _ _ _ rfl]; rfl, by
      rw [hW0]
      rw [World.cell?_alloc_past _ _ _ (by simp), World.cell?_alloc_at _ _ _ _ (by simp)]; rfl,
      H1.out.below (l_below S2.out.below hB0), H2.out.below (l_below S2.out.below hB0), HC.out.below hB0, E1.out, hS⟩)
  have HB0 := hid (l_below S2.out.below hB0)
  rw [← hW0]
  clear hW0 hB0 hmf S0 S1 S2 HC
  have HO0 := hid (show Ow (W0.alloc (.cells #[] 3)) W0.heap.size (.slice (some ⟨w2.heap.size + 1 + 1 + 1, 0, none⟩) 0 0) 0 [] from hsz ▸ Ow.empty W0 W0.heap.size (Nat.le_refl _))
  clear hsz
  go_loopw [6, 8, 9, 23] (fun v _ _ i wr => ∃ j : Nat, i = .int .i64 j ∧ j ≤ 3 ∧ Hid (Ow wr W0.heap.size v j ((simpL A B C S).take j)) ∧ Hid (Below W0.heap.size W0 wr)) (fun _ _ _ i _ => 3 - (intOf i).toNat)
  case atStart => exact ⟨0, rfl, by omega, HO0, hid (below_box _ _)⟩
  case round =>
    obtain ⟨j, rfl, hj, hO, hB⟩ := hrel
    obtain ⟨⟨t0, t1, t2⟩, _⟩ := blk3 (bk_below HTB.out hB.out)
    obtain hc | hc | hc | hc : j = 0 ∨ j = 1 ∨ j = 2 ∨ j = 3 := by omega
    · subst hc
      rw [show ((0 : Nat) : Int) = 0 from rfl]
      go_wp2_with fail
      clear t0 t1 t2
      go_loopw [9] (fun m wr => ∃ q : Nat, m = .int .i64 q ∧ q ≤ 6 ∧ Hid (cntGo (simp0 B C) q (6 - q) = cnt6 (simp0 B C)) ∧ Hid (Ow wr W0.heap.size u6 0 ((simpL A B C S).take 0)) ∧ Hid (Below W0.heap.size W0 wr)) (fun m _ => 6 - (intOf m).toNat)
      case atStart => exact ⟨0, rfl, by omega, hid rfl, hO, hB⟩
      case round =>
        clear hO hB
        obtain ⟨q, rfl, hq, hC6, hO2, hB2⟩ := hrel
        by_cases hlt : q < 6
        · have hqi : (q : Int) < 6 := by omega
          cases hf : (simp0 B C) (q + 1) with
          | true =>
            have HF := hid hf
            clear hf
            go_wp2_with fail
            refine (impl_simp0' ((q : Int) + 1) (q + 1) (by omega) (HE.out.below hB2.out) (by omega) (by omega)).mono ?_
            rw [show simp0 B C (q + 1) = _ from HF.out]
            rintro e w5 ⟨rfl, hb⟩
            have O5 := hid (hO2.out.below hb)
            have B5 := hid (hB2.out.trans (hb.mono hB2.out.size))
            clear hb
            go_wp2_with fail
            go_roundw
            case rel => exact ⟨q + 1, by go_num, by omega, hid ((cntGo_yes hlt HF.out).symm.trans hC6.out), O5, B5⟩
            case measure => simp [intOf]; omega
          | false =>
            have HQ := hid (show (q : Int) = (cnt6 (simp0 B C) : Int) by rw [← hC6.out, cntGo_no hlt hf])
            have HF := hid hf
            clear hf
            go_wp2_with fail
            refine (impl_simp0' ((q : Int) + 1) (q + 1) (by omega) (HE.out.below hB2.out) (by omega) (by omega)).mono ?_
            rw [show simp0 B C (q + 1) = _ from HF.out]
            rintro e w5 ⟨rfl, hb⟩
            have O5 := hid (hO2.out.below hb)
            have B5 := hid (hB2.out.trans (hb.mono hB2.out.size))
            clear hb hO2 hB2
            have hO2 := O5
            have hB2 := B5
            clear O5 B5
            go_wp2_with (at_builtin; (refine wpList_append_int _ rfl _ _ rfl W0.heap.size _ 0 _ rfl (hO2.out.alloc _) _ (q : Int) rfl (cell_one _ _ _) ⟨by omega, by omega⟩ (by omega) (by have := hB2.out.size; simp; omega) ?_); intro v' w4 hO4 hG4)
            have O4 := hid hO4
            have B4 := hid ((hB2.out.alloc hB2.out.size _).grown hG4 (by have := hB2.out.size; simp; omega) (fun j hj => (hO2.out.lt j hj).1))
            clear hO4 hG4
            go_wp2_with fail
            go_roundw
            case rel => exact ⟨1, rfl, by omega, hid (by have h := O4.out; rw [HQ.out] at h; exact h), B4⟩
            case measure => simp [intOf]
        · obtain rfl : q = 6 := by omega
          have HQ := hid (show ((6 : Nat) : Int) = (cnt6 (simp0 B C) : Int) from congrArg Nat.cast hC6.out)
          go_wp2_with (at_builtin; (refine wpList_append_int _ rfl _ _ rfl W0.heap.size _ 0 _ rfl (hO2.out.alloc _) _ ((6 : Nat) : Int) rfl (cell_one _ _ _) ⟨by omega, by omega⟩ (by omega) (by have := hB2.out.size; simp; omega) ?_); intro v' w4 hO4 hG4)
          have O4 := hid hO4
          have B4 := hid ((hB2.out.alloc hB2.out.size _).grown hG4 (by have := hB2.out.size; simp; omega) (fun j hj => (hO2.out.lt j hj).1))
          clear hO4 hG4
          go_wp2_with fail
          go_roundw
          case rel => exact ⟨1, rfl, by omega, hid (by have h := O4.out; rw [HQ.out] at h; exact h), B4⟩
          case measure => simp [intOf]
    · subst hc
      rw [show ((1 : Nat) : Int) = 1 from rfl]
      go_wp2_with fail
      clear t0 t1 t2
      go_loopw [9] (fun m wr => ∃ q : Nat, m = .int .i64 q ∧ q ≤ 6 ∧ Hid (cntGo (simp1 A C S) q (6 - q) = cnt6 (simp1 A C S)) ∧ Hid (Ow wr W0.heap.size u6 1 ((simpL A B C S).take 1)) ∧ Hid (Below W0.heap.size W0 wr)) (fun m _ => 6 - (intOf m).toNat)
      case atStart => exact ⟨0, rfl, by omega, hid rfl, hO, hB⟩
      case round =>
        clear hO hB
        obtain ⟨q, rfl, hq, hC6, hO2, hB2⟩ := hrel
        by_cases hlt : q < 6
        · have hqi : (q : Int) < 6 := by omega
          cases hf : (simp1 A C S) (q + 1) with
          | true =>
            have HF := hid hf
            clear hf
            go_wp2_with fail
            refine (impl_simp1' ((q : Int) + 1) (q + 1) (by omega) (HE.out.below hB2.out) (by omega) (by omega)).mono ?_
            rw [show simp1 A C S (q + 1) = _ from HF.out]
            rintro e w5 ⟨rfl, hb⟩
            have O5 := hid (hO2.out.below hb)
            have B5 := hid (hB2.out.trans (hb.mono hB2.out.size))
            clear hb
            go_wp2_with fail
            go_roundw
            case rel => exact ⟨q + 1, by go_num, by omega, hid ((cntGo_yes hlt HF.out).symm.trans hC6.out), O5, B5⟩
            case measure => simp [intOf]; omega
          | false =>
            have HQ := hid (show (q : Int) = (cnt6 (simp1 A C S) : Int) by rw [← hC6.out, cntGo_no hlt hf])
            have HF := hid hf
            clear hf
            go_wp2_with fail
            refine (impl_simp1' ((q : Int) + 1) (q + 1) (by omega) (HE.out.below hB2.out) (by omega) (by omega)).mono ?_
            rw [show simp1 A C S (q + 1) = _ from HF.out]
            rintro e w5 ⟨rfl, hb⟩
            have O5 := hid (hO2.out.below hb)
            have B5 := hid (hB2.out.trans (hb.mono hB2.out.size))
            clear hb hO2 hB2
            have hO2 := O5
            have hB2 := B5
            clear O5 B5
            go_wp2_with (at_builtin; (refine wpList_append_int _ rfl _ _ rfl W0.heap.size _ 1 _ rfl (hO2.out.alloc _) _ (q : Int) rfl (cell_one _ _ _) ⟨by omega, by omega⟩ (by omega) (by have := hB2.out.size; simp; omega) ?_); intro v' w4 hO4 hG4)
            have O4 := hid hO4
            have B4 := hid ((hB2.out.alloc hB2.out.size _).grown hG4 (by have := hB2.out.size; simp; omega) (fun j hj => (hO2.out.lt j hj).1))
            clear hO4 hG4
            go_wp2_with fail
            go_roundw
            case rel => exact ⟨2, rfl, by omega, hid (by have h := O4.out; rw [HQ.out] at h; exact h), B4⟩
            case measure => simp [intOf]
        · obtain rfl : q = 6 := by omega
          have HQ := hid (show ((6 : Nat) : Int) = (cnt6 (simp1 A C S) : Int) from congrArg Nat.cast hC6.out)
          go_wp2_with (at_builtin; (refine wpList_append_int _ rfl _ _ rfl W0.heap.size _ 1 _ rfl (hO2.out.alloc _) _ ((6 : Nat) : Int) rfl (cell_one _ _ _) ⟨by omega, by omega⟩ (by omega) (by have := hB2.out.size; simp; omega) ?_); intro v' w4 hO4 hG4)
          have O4 := hid hO4
          have B4 := hid ((hB2.out.alloc hB2.out.size _).grown hG4 (by have := hB2.out.size; simp; omega) (fun j hj => (hO2.out.lt j hj).1))
          clear hO4 hG4
          go_wp2_with fail
          go_roundw
          case rel => exact ⟨2, rfl, by omega, hid (by have h := O4.out; rw [HQ.out] at h; exact h), B4⟩
          case measure => simp [intOf]
    · subst hc
      rw [show ((2 : Nat) : Int) = 2 from rfl]
      go_wp2_with fail
      clear t0 t1 t2
      go_loopw [9] (fun m wr => ∃ q : Nat, m = .int .i64 q ∧ q ≤ 6 ∧ Hid (cntGo (simp2 A B C S) q (6 - q) = cnt6 (simp2 A B C S)) ∧ Hid (Ow wr W0.heap.size u6 2 ((simpL A B C S).take 2)) ∧ Hid (Below W0.heap.size W0 wr)) (fun m _ => 6 - (intOf m).toNat)
      case atStart => exact ⟨0, rfl, by omega, hid rfl, hO, hB⟩
      case round =>
        clear hO hB
        obtain ⟨q, rfl, hq, hC6, hO2, hB2⟩ := hrel
        by_cases hlt : q < 6
        · have hqi : (q : Int) < 6 := by omega
          cases hf : (simp2 A B C S) (q + 1) with
          | true =>
            have HF := hid hf
            clear hf
            go_wp2_with fail
            refine (impl_simp2' ((q : Int) + 1) (q + 1) (by omega) (HE.out.below hB2.out) (by omega) (by omega)).mono ?_
            rw [show simp2 A B C S (q + 1) = _ from HF.out]
            rintro e w5 ⟨rfl, hb⟩
            have O5 := hid (hO2.out.below hb)
            have B5 := hid (hB2.out.trans (hb.mono hB2.out.size))
            clear hb
            go_wp2_with fail
            go_roundw
            case rel => exact ⟨q + 1, by go_num, by omega, hid ((cntGo_yes hlt HF.out).symm.trans hC6.out), O5, B5⟩
            case measure => simp [intOf]; omega
          | false =>
            have HQ := hid (show (q : Int) = (cnt6 (simp2 A B C S) : Int) by rw [← hC6.out, cntGo_no hlt hf])
            have HF := hid hf
            clear hf
            go_wp2_with fail
            refine (impl_simp2' ((q : Int) + 1) (q + 1) (by omega) (HE.out.below hB2.out) (by omega) (by omega)).mono ?_
            rw [show simp2 A B C S (q + 1) = _ from HF.out]
            rintro e w5 ⟨rfl, hb⟩
            have O5 := hid (hO2.out.below hb)
            have B5 := hid (hB2.out.trans (hb.mono hB2.out.size))
            clear hb hO2 hB2
            have hO2 := O5
            have hB2 := B5
            clear O5 B5
            go_wp2_with (at_builtin; (refine wpList_append_int _ rfl _ _ rfl W0.heap.size _ 2 _ rfl (hO2.out.alloc _) _ (q : Int) rfl (cell_one _ _ _) ⟨by omega, by omega⟩ (by omega) (by have := hB2.out.size; simp; omega) ?_); intro v' w4 hO4 hG4)
            have O4 := hid hO4
            have B4 := hid ((hB2.out.alloc hB2.out.size _).grown hG4 (by have := hB2.out.size; simp; omega) (fun j hj => (hO2.out.lt j hj).1))
            clear hO4 hG4
            go_wp2_with fail
            go_roundw
            case rel => exact ⟨3, rfl, by omega, hid (by have h := O4.out; rw [HQ.out] at h; exact h), B4⟩
            case measure => simp [intOf]
        · obtain rfl : q = 6 := by omega
          have HQ := hid (show ((6 : Nat) : Int) = (cnt6 (simp2 A B C S) : Int) from congrArg Nat.cast hC6.out)
          go_wp2_with (at_builtin; (refine wpList_append_int _ rfl _ _ rfl W0.heap.size _ 2 _ rfl (hO2.out.alloc _) _ ((6 : Nat) : Int) rfl (cell_one _ _ _) ⟨by omega, by omega⟩ (by omega) (by have := hB2.out.size; simp; omega) ?_); intro v' w4 hO4 hG4)
          have O4 := hid hO4
          have B4 := hid ((hB2.out.alloc hB2.out.size _).grown hG4 (by have := hB2.out.size; simp; omega) (fun j hj => (hO2.out.lt j hj).1))
          clear hO4 hG4
          go_wp2_with fail
          go_roundw
          case rel => exact ⟨3, rfl, by omega, hid (by have h := O4.out; rw [HQ.out] at h; exact h), B4⟩
          case measure => simp [intOf]
    · subst hc
      go_wp2_with fail
      go_ret
      obtain ⟨ao, c, e, hF⟩ := hO.out.fr
      cases e
      exact ⟨_, _, _, rfl, by rw [show nodesL A S S = C from HCE.out]; exact hF.mono HB0.out.size, l_below HB0.out hB.out⟩
theorem impl_SimplifyingOf (s : Int) (a1 : Option Addr) (n1 c1 : Nat) (A : List Int) (a2 : Option Addr) (n2 c2 : Nat) (B : List Int) (w : World) (h1 : Rd w a1 n1 c1 A) (h2 : Rd w a2 n2 c2 B) :
    Calls Try.prog 14 #[.agg #[.int .i64 s, .slice a1 n1 c1, .slice a2 n2 c2]] w fun e w' => ∃ ao n c, e = .returned (.slice ao n c) ∧ NewInts w w' (simpV s A B) ao n c := by
  cases hok : tabOk s A B with
  | false => rw [simpV_no hok]; exact impl_SimplifyingOf_no s a1 n1 c1 A a2 n2 c2 B w h1 h2 hok
  | true =>
    obtain ⟨S, rfl, hS, e1, rfl, _⟩ := tabOk_parts hok h1.len h2.len
    rw [simpV_yes hok]
    exact impl_SimplifyingOf_yes n2 a1 n1 c1 A a2 c2 B w h1 h2 hok e1 hS
end Go.Proofs.Ythebegfceaehfaa
