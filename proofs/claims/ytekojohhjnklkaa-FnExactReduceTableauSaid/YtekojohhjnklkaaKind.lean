/- KindOf. -/
import Derived.Test.YtekojohhjnklkaaRow
namespace Go.Proofs.Ytekojohhjnklkaa
open Go.RowKit

def kExp : ByteArray := ⟨#[101, 120, 112, 108, 105, 99, 105, 116]⟩
def kImp : ByteArray := ⟨#[105, 109, 112, 108, 105, 99, 105, 116]⟩
def kDia : ByteArray := ⟨#[100, 105, 97, 103, 111, 110, 97, 108]⟩
def kOf (b : Bool) : ByteArray := if b then kDia else kExp
def nz (A : List Int) (S i j : Nat) : Bool := A.getD (i * S + j) 0 != 0
/-- is there an element above the diagonal in the first rows? -/
def upTo (A : List Int) (S i : Nat) : Bool := (List.range i).any fun i => (List.range S).any fun j => decide (i < j) && nz A S i j
/-- is there one on the diagonal? -/
def dgTo (A : List Int) (S i : Nat) : Bool := (List.range i).any fun i => nz A S i i
/-- the same with the first elements of the row i -/
def upIn (A : List Int) (S i j : Nat) : Bool := (List.range j).any fun j => decide (i < j) && nz A S i j
def dgIn (A : List Int) (S i j : Nat) : Bool := dgTo A S i || decide (i < j) && nz A S i i
def kindOf (A : List Int) (S : Nat) : ByteArray := if upTo A S S then kImp else kOf (dgTo A S S)
theorem upTo_succ (A : List Int) (S i : Nat) : upTo A S (i + 1) = (upTo A S i || upIn A S i S) := by
  simp [upTo, upIn, List.range_succ]
theorem dgTo_succ (A : List Int) (S i : Nat) : dgTo A S (i + 1) = (dgTo A S i || nz A S i i) := by simp [dgTo, List.range_succ]
theorem upIn_succ (A : List Int) (S i j : Nat) : upIn A S i (j + 1) = (upIn A S i j || decide (i < j) && nz A S i j) := by simp [upIn, List.range_succ]
theorem upIn_start (A : List Int) (S i : Nat) : upIn A S i i = false := by
  unfold upIn
  rw [List.any_eq_false]
  intro x hx
  have := List.mem_range.1 hx
  simp
  omega
theorem nz_of {A : List Int} {S i j : Nat} {x : Int} (e : El A S i j x) : nz A S i j = !(x == 0) := by
  unfold El at e
  unfold nz
  rw [← e]
  rfl
theorem upIn_skip {A : List Int} {S i j : Nat} {x : Int} (h : upIn A S i j = false) (e : El A S i j x) (h0 : (x == 0) = true) : upIn A S i (j + 1) = false := by
  rw [upIn_succ, h, nz_of e, h0]
  simp
theorem upIn_diag {A : List Int} {S i : Nat} (h : upIn A S i i = false) : upIn A S i (i + 1) = false := by
  rw [upIn_succ, h]
  simp
theorem dgIn_skip {A : List Int} {S i j : Nat} {x : Int} (hij : i ≤ j) (e : El A S i j x) (h0 : (x == 0) = true) : dgIn A S i (j + 1) = dgIn A S i j := by
  unfold dgIn
  by_cases h : i = j
  · subst h
    rw [nz_of e, h0]
    simp
  · rw [show decide (i < j + 1) = decide (i < j) from by rw [decide_eq_decide]; omega]
theorem dgIn_diag {A : List Int} {S i : Nat} {x : Int} (e : El A S i i x) (h0 : (x == 0) = false) : dgIn A S i (i + 1) = true := by
  unfold dgIn
  rw [nz_of e, h0]
  simp
theorem up_hit {A : List Int} {S i j : Nat} {x : Int} (hi : i < S) (hj : j < S) (hij : i < j) (e : El A S i j x) (h0 : (x == 0) = false) : upTo A S S = true := by
  unfold upTo
  rw [List.any_eq_true]
  refine ⟨i, List.mem_range.2 hi, ?_⟩
  rw [List.any_eq_true]
  exact ⟨j, List.mem_range.2 hj, by rw [nz_of e, h0, decide_eq_true hij]; rfl⟩
theorem dgIn_start (A : List Int) (S i : Nat) : dgIn A S i i = dgTo A S i := by simp [dgIn]
theorem dgIn_end {A : List Int} {S i : Nat} (hi : i < S) : dgIn A S i S = dgTo A S (i + 1) := by rw [dgTo_succ]; simp [dgIn, hi]

theorem impl_KindOf_no (s : Int) (a1 : Option Addr) (n1 c1 : Nat) (A : List Int) (a2 : Option Addr) (n2 c2 : Nat) (B : List Int) (w : World) (h1 : Rd w a1 n1 c1 A) (h2 : Rd w a2 n2 c2 B) (hno : tabOk s A B = false) :
    Calls Try.prog 28 #[.agg #[.int .i64 s, .slice a1 n1 c1, .slice a2 n2 c2]] w fun e w' => e = .returned (.string ⟨#[]⟩) ∧ Below w.heap.size w w' := by
  have HN := hid hno
  have S0 := hid (St.first w #[.int .i64 s, .slice a1 n1 c1, .slice a2 n2 c2] 27)
  go_enter Try.func28, Try.ntmps28
  go_wp2_with fail
  refine (impl_TableauOk _ _ _ _ A _ _ _ B _ (h1.alloc _) (h2.alloc _)).mono ?_
  rw [HN.out]
  rintro e w1 ⟨rfl, hB⟩
  have S1 := hid (S0.out.step hB)
  clear hB
  go_wp2_with fail
  go_ret
  exact ⟨rfl, S1.out.below⟩
theorem tabOk_parts {s : Int} {A B : List Int} {n1 n2 : Nat} (h : tabOk s A B = true) (hA : A.length = n1) (hB : B.length = n2) : ∃ S : Nat, s = S ∧ S ≤ 8 ∧ n1 = S * S ∧ n2 = S ∧ (∀ x ∈ A, M.num x) ∧ ∀ x ∈ B, M.num x := by
  unfold tabOk at h
  simp only [Bool.and_eq_true, decide_eq_true_eq] at h
  obtain ⟨⟨h0, h8, e1, e2⟩, hA', hB'⟩ := h
  obtain ⟨S, rfl⟩ := Int.eq_ofNat_of_zero_le h0
  refine ⟨S, rfl, by omega, ?_, by omega, M.allNum_mem hA', M.allNum_mem hB'⟩
  rw [← hA]
  have : ((A.length : Nat) : Int) = ((S * S : Nat) : Int) := by rw [e1, Int.natCast_mul]
  omega
theorem ret_s {a b : ByteArray} (h : a = b) : Ending.returned (.string a) = .returned (.string b) := by rw [h]
theorem impl_KindOf_yes (S : Nat) (a1 : Option Addr) (n1 c1 : Nat) (A : List Int) (a2 : Option Addr) (n2 c2 : Nat) (B : List Int) (w : World) (h1 : Rd w a1 n1 c1 A) (h2 : Rd w a2 n2 c2 B) (hok : tabOk S A B = true) (e1 : n1 = S * S) (e2 : n2 = S) (hS : S ≤ 8) :
    Calls Try.prog 28 #[.agg #[.int .i64 S, .slice a1 n1 c1, .slice a2 n2 c2]] w fun e w' => e = .returned (.string (kindOf A S)) ∧ Below w.heap.size w w' := by
  have HN := hid hok
  have S0 := hid (St.first w #[.int .i64 S, .slice a1 n1 c1, .slice a2 n2 c2] 27)
  have H1 := hid h1
  have H2 := hid h2
  have E1 := hid e1
  subst e2
  clear h1 h2 hok e1
  go_enter Try.func28, Try.ntmps28
  go_wp2_with fail
  refine (impl_TableauOk _ _ _ _ A _ _ _ B _ (H1.out.alloc _) (H2.out.alloc _)).mono ?_
  rw [HN.out]
  rintro e w1 ⟨rfl, hB⟩
  have S1 := hid (S0.out.step hB)
  obtain ⟨⟨q0, q1, q2⟩, _⟩ := blk3 S1.out.box
  clear hB
  go_wp2_with fail
  clear q0 q1 q2
  go_loopw [3, 4, 5, 12] (fun k _ _ i wr => ∃ (i' : Nat) (b : Bool), i = .int .i64 i' ∧ k = .string (kOf b) ∧ i' ≤ n2 ∧ Hid (b = dgTo A n2 i') ∧ Hid (upTo A n2 i' = false) ∧ Hid (St w wr #[.int .i64 n2, .slice a1 n1 c1, .slice a2 n2 c2] 27)) (fun _ _ _ i _ => n2 - (intOf i).toNat)
  case atStart => exact ⟨0, false, rfl, rfl, Nat.zero_le _, hid rfl, hid rfl, S1⟩
  case round =>
    obtain ⟨i, b, rfl, rfl, hi, hb, hu, hS1⟩ := hrel
    obtain ⟨wo, rfl⟩ : ∃ wo : World, wo = wr := ⟨_, rfl⟩
    obtain ⟨⟨q0, q1, q2⟩, _⟩ := blk3 hS1.out.box
    by_cases hlt : i < n2
    · go_wp2_with fail
      clear q0 q1 q2
      go_loopw [3, 5] (fun k j wr => ∃ (j' : Nat) (b : Bool), j = .int .i64 j' ∧ k = .string (kOf b) ∧ i ≤ j' ∧ j' ≤ n2 ∧ Hid (b = dgIn A n2 i j') ∧ Hid (upIn A n2 i j' = false) ∧ Hid (St w wr #[.int .i64 n2, .slice a1 n1 c1, .slice a2 n2 c2] 27)) (fun _ j _ => n2 - (intOf j).toNat)
      case atStart => exact ⟨i, b, rfl, rfl, Nat.le_refl _, hi, hid (by rw [dgIn_start]; exact hb.out), hid (upIn_start _ _ _), hS1⟩
      case round =>
        obtain ⟨j, b', rfl, rfl, hij, hj, hb', hu', hS2⟩ := hrel
        obtain ⟨⟨q0, q1, q2⟩, _⟩ := blk3 hS2.out.box
        by_cases hlt2 : j < n2
        · go_wp2_with fail
          refine (impl_a n2 i j _ _ _ A _ _ (H1.out.below hS2.out.below) E1.out hlt hlt2 hS).mono ?_
          rintro e w2 ⟨x, rfl, hx, _, hB⟩
          have S2 := hid (hS2.out.step hB)
          clear hB q0 q1 q2
          obtain ⟨⟨q0, q1, q2⟩, _⟩ := blk3 S2.out.box
          cases h0 : (x == 0) with
          | true =>
            have H0 := hid h0
            go_wp2_with fail
            go_roundw
            case rel => exact ⟨j + 1, b', by go_num, rfl, by omega, by omega, hid (by rw [dgIn_skip hij hx.out H0.out]; exact hb'.out), hid (upIn_skip hu'.out hx.out H0.out), S2⟩
            case measure => simp [intOf]; omega
          | false =>
            have H0 := hid h0
            by_cases hgt : i < j
            · go_wp2_with fail
              go_ret
              exact ⟨ret_s (by unfold kindOf; rw [up_hit hlt hlt2 hgt hx.out H0.out]; rfl), S2.out.below⟩
            · obtain rfl : i = j := by omega
              go_wp2_with fail
              go_roundw
              case rel => exact ⟨i + 1, true, by go_num, rfl, by omega, by omega, hid (dgIn_diag hx.out H0.out).symm, hid (upIn_diag hu'.out), S2⟩
              case measure => simp [intOf]; omega
        · obtain rfl : j = n2 := by omega
          go_wp2_with fail
          go_roundw
          case rel => exact ⟨i + 1, b', by go_num, rfl, by omega, hid (by rw [← dgIn_end hlt]; exact hb'.out), hid (by rw [upTo_succ, hu.out, hu'.out]; rfl), hS2⟩
          case measure => simp [intOf]; omega
    · obtain rfl : i = n2 := by omega
      go_wp2_with fail
      go_ret
      exact ⟨ret_s (by unfold kindOf; rw [hu.out, ← hb.out]; rfl), hS1.out.below⟩
theorem spec_KindOf_no (s : Int) (a1 : Option Addr) (n1 c1 : Nat) (A : List Int) (a2 : Option Addr) (n2 c2 : Nat) (B : List Int) (w : World) (h1 : Rd w a1 n1 c1 A) (h2 : Rd w a2 n2 c2 B) (hno : tabOk s A B = false) :
    Calls Try.prog 27 #[.agg #[.int .i64 s, .slice a1 n1 c1, .slice a2 n2 c2]] w fun e w' => e = .returned (.string ⟨#[]⟩) ∧ Below w.heap.size w w' := by
  have HN := hid hno
  have S0 := hid (St.first w #[.int .i64 s, .slice a1 n1 c1, .slice a2 n2 c2] 27)
  go_enter Try.func27, Try.ntmps27
  go_wp2_with fail
  refine (spec_TableauOk _ _ _ _ A _ _ _ B _ (h1.alloc _) (h2.alloc _)).mono ?_
  rw [HN.out]
  rintro e w1 ⟨rfl, hB⟩
  have S1 := hid (S0.out.step hB)
  clear hB
  go_wp2_with fail
  go_ret
  exact ⟨rfl, S1.out.below⟩
theorem spec_KindOf_yes (S : Nat) (a1 : Option Addr) (n1 c1 : Nat) (A : List Int) (a2 : Option Addr) (n2 c2 : Nat) (B : List Int) (w : World) (h1 : Rd w a1 n1 c1 A) (h2 : Rd w a2 n2 c2 B) (hok : tabOk S A B = true) (e1 : n1 = S * S) (e2 : n2 = S) (hS : S ≤ 8) :
    Calls Try.prog 27 #[.agg #[.int .i64 S, .slice a1 n1 c1, .slice a2 n2 c2]] w fun e w' => e = .returned (.string (kindOf A S)) ∧ Below w.heap.size w w' := by
  have HN := hid hok
  have S0 := hid (St.first w #[.int .i64 S, .slice a1 n1 c1, .slice a2 n2 c2] 27)
  have H1 := hid h1
  have H2 := hid h2
  have E1 := hid e1
  subst e2
  clear h1 h2 hok e1
  go_enter Try.func27, Try.ntmps27
  go_wp2_with fail
  refine (spec_TableauOk _ _ _ _ A _ _ _ B _ (H1.out.alloc _) (H2.out.alloc _)).mono ?_
  rw [HN.out]
  rintro e w1 ⟨rfl, hB⟩
  have S1 := hid (S0.out.step hB)
  obtain ⟨⟨q0, q1, q2⟩, _⟩ := blk3 S1.out.box
  clear hB
  go_wp2_with fail
  clear q0 q1 q2
  go_loopw [3, 4, 5] (fun k i _ wr => ∃ (i' : Nat) (b : Bool), i = .int .i64 i' ∧ k = .string (kOf b) ∧ i' ≤ n2 ∧ Hid (b = dgTo A n2 i') ∧ Hid (upTo A n2 i' = false) ∧ Hid (St w wr #[.int .i64 n2, .slice a1 n1 c1, .slice a2 n2 c2] 27)) (fun _ i _ _ => n2 - (intOf i).toNat)
  case atStart => exact ⟨0, false, rfl, rfl, Nat.zero_le _, hid rfl, hid rfl, S1⟩
  case round =>
    obtain ⟨i, b, rfl, rfl, hi, hb, hu, hS1⟩ := hrel
    obtain ⟨wo, rfl⟩ : ∃ wo : World, wo = wr := ⟨_, rfl⟩
    obtain ⟨⟨q0, q1, q2⟩, _⟩ := blk3 hS1.out.box
    by_cases hlt : i < n2
    · go_wp2_with fail
      clear q0 q1 q2
      go_loopw [3, 5] (fun k j wr => ∃ (j' : Nat) (b : Bool), j = .int .i64 j' ∧ k = .string (kOf b) ∧ i ≤ j' ∧ j' ≤ n2 ∧ Hid (b = dgIn A n2 i j') ∧ Hid (upIn A n2 i j' = false) ∧ Hid (St w wr #[.int .i64 n2, .slice a1 n1 c1, .slice a2 n2 c2] 27)) (fun _ j _ => n2 - (intOf j).toNat)
      case atStart => exact ⟨i, b, rfl, rfl, Nat.le_refl _, hi, hid (by rw [dgIn_start]; exact hb.out), hid (upIn_start _ _ _), hS1⟩
      case round =>
        obtain ⟨j, b', rfl, rfl, hij, hj, hb', hu', hS2⟩ := hrel
        obtain ⟨⟨q0, q1, q2⟩, _⟩ := blk3 hS2.out.box
        by_cases hlt2 : j < n2
        · obtain ⟨f1, f2, f3, f4, f5⟩ := at_facts E1.out (H1.out.cap) hlt hlt2 hS
          obtain ⟨bb, oo, x, rfl, hc, _, _, hx⟩ := (H1.out.below hS2.out.below).at f5
          have HX := hid (show El A n2 i j x from hx)
          clear hx
          cases h0 : (x == 0) with
          | true =>
            have H0 := hid h0
            go_wp2_with fail
            go_roundw
            case rel => exact ⟨j + 1, b', by go_num, rfl, by omega, by omega, hid (by rw [dgIn_skip hij HX.out H0.out]; exact hb'.out), hid (upIn_skip hu'.out HX.out H0.out), hS2⟩
            case measure => simp [intOf]; omega
          | false =>
            have H0 := hid h0
            by_cases hgt : i < j
            · go_wp2_with fail
              go_ret
              exact ⟨ret_s (by unfold kindOf; rw [up_hit hlt hlt2 hgt HX.out H0.out]; rfl), hS2.out.below⟩
            · obtain rfl : i = j := by omega
              go_wp2_with fail
              go_roundw
              case rel => exact ⟨i + 1, true, by go_num, rfl, by omega, by omega, hid (dgIn_diag HX.out H0.out).symm, hid (upIn_diag hu'.out), hS2⟩
              case measure => simp [intOf]; omega
        · obtain rfl : j = n2 := by omega
          go_wp2_with fail
          go_roundw
          case rel => exact ⟨i + 1, b', by go_num, rfl, by omega, hid (by rw [← dgIn_end hlt]; exact hb'.out), hid (by rw [upTo_succ, hu.out, hu'.out]; rfl), hS2⟩
          case measure => simp [intOf]; omega
    · obtain rfl : i = n2 := by omega
      go_wp2_with fail
      go_ret
      exact ⟨ret_s (by unfold kindOf; rw [hu.out, ← hb.out]; rfl), hS1.out.below⟩

def kindV (s : Int) (A B : List Int) : ByteArray := if tabOk s A B then kindOf A s.toNat else ⟨#[]⟩
theorem impl_KindOf (s : Int) (a1 : Option Addr) (n1 c1 : Nat) (A : List Int) (a2 : Option Addr) (n2 c2 : Nat) (B : List Int) (w : World) (h1 : Rd w a1 n1 c1 A) (h2 : Rd w a2 n2 c2 B) :
    Calls Try.prog 28 #[.agg #[.int .i64 s, .slice a1 n1 c1, .slice a2 n2 c2]] w fun e w' => e = .returned (.string (kindV s A B)) ∧ Below w.heap.size w w' := by
  cases hok : tabOk s A B with
  | false => exact (impl_KindOf_no s a1 n1 c1 A a2 n2 c2 B w h1 h2 hok).mono fun e w' ⟨h, h'⟩ => ⟨by rw [h]; unfold kindV; rw [hok]; rfl, h'⟩
  | true =>
    obtain ⟨S, rfl, hS, e1, e2, _⟩ := tabOk_parts hok h1.len h2.len
    exact (impl_KindOf_yes S a1 n1 c1 A a2 n2 c2 B w h1 h2 hok e1 e2 hS).mono fun e w' ⟨h, h'⟩ => ⟨by rw [h]; unfold kindV; rw [hok]; rfl, h'⟩
theorem spec_KindOf (s : Int) (a1 : Option Addr) (n1 c1 : Nat) (A : List Int) (a2 : Option Addr) (n2 c2 : Nat) (B : List Int) (w : World) (h1 : Rd w a1 n1 c1 A) (h2 : Rd w a2 n2 c2 B) :
    Calls Try.prog 27 #[.agg #[.int .i64 s, .slice a1 n1 c1, .slice a2 n2 c2]] w fun e w' => e = .returned (.string (kindV s A B)) ∧ Below w.heap.size w w' := by
  cases hok : tabOk s A B with
  | false => exact (spec_KindOf_no s a1 n1 c1 A a2 n2 c2 B w h1 h2 hok).mono fun e w' ⟨h, h'⟩ => ⟨by rw [h]; unfold kindV; rw [hok]; rfl, h'⟩
  | true =>
    obtain ⟨S, rfl, hS, e1, e2, _⟩ := tabOk_parts hok h1.len h2.len
    exact (spec_KindOf_yes S a1 n1 c1 A a2 n2 c2 B w h1 h2 hok e1 e2 hS).mono fun e w' ⟨h, h'⟩ => ⟨by rw [h]; unfold kindV; rw [hok]; rfl, h'⟩
end Go.Proofs.Ytekojohhjnklkaa
