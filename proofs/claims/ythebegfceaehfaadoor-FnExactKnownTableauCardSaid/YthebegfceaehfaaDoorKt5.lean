/- Merged texts: FmtT, ParL, Par, Cut. -/
import Derived.Test.YthebegfceaehfaaDoorKt4
import Derived.Test.YthebegfceaehfaaDoorKt3
import Derived.Test.YthebegfceaehfaaDoorKt1
import Derived.Lib.IndexMore
/- FmtT: FormatTableau: the contracts. -/
namespace Go.Proofs.YthebegfceaehfaaDoor
open Go.RowKit

def rowT (A : List Int) (S i : Nat) : List UInt8 := fmtNs (rowL A S i) ++ [32, 124, 32]
def rowsT (A : List Int) (S k : Nat) : List UInt8 := (List.range k).flatMap (rowT A S)
theorem rowsT_succ (A : List Int) (S k : Nat) : rowsT A S (k + 1) = rowsT A S k ++ rowT A S k := by simp [rowsT, List.range_succ]
def fmtTab (s : Int) (A B : List Int) : ByteArray := if tabOk s A B then (if s = 0 then bs [110, 111, 110, 101] else bs (rowsT A s.toNat s.toNat ++ fmtNs B)) else bs []
theorem fmtTab_no {s : Int} {A B : List Int} (h : tabOk s A B = false) : fmtTab s A B = bs [] := by unfold fmtTab; rw [h]; rfl
theorem fmtTab_zero {A B : List Int} (h : tabOk (0 : Nat) A B = true) : fmtTab (0 : Nat) A B = bs [110, 111, 110, 101] := by unfold fmtTab; rw [h]; rfl
theorem fmtTab_yes {S : Nat} {A B : List Int} (h : tabOk S A B = true) (h0 : S ≠ 0) : fmtTab S A B = bs (rowsT A S S ++ fmtNs B) := by
  unfold fmtTab; rw [h, if_pos rfl, if_neg (by omega), Int.toNat_natCast]
theorem rowT_len {A : List Int} {S i : Nat} (hS : S ≤ 8) : (rowT A S i).length ≤ 107 := by
  have h := fmtNs_len (rowL A S i)
  have h2 : (rowL A S i).length ≤ 8 := by unfold rowL; rw [List.length_take]; omega
  unfold rowT
  rw [List.length_append]
  show _ + 3 ≤ _
  omega
theorem rowsT_len {A : List Int} {S : Nat} (hS : S ≤ 8) : ∀ k, (rowsT A S k).length ≤ 107 * k
  | 0 => by simp [rowsT]
  | k + 1 => by
    rw [rowsT_succ, List.length_append]
    have := rowsT_len (A := A) hS k
    have := rowT_len (A := A) (i := k) hS
    omega

set_option maxRecDepth 20000 in
set_option maxHeartbeats 2000000 in
theorem spec_FormatTableau (s : Int) (a1 : Option Addr) (n1 c1 : Nat) (A : List Int) (a2 : Option Addr) (n2 c2 : Nat) (B : List Int) (w : World) (h1 : Rd w a1 n1 c1 A) (h2 : Rd w a2 n2 c2 B) :
    Calls Tryd.prog 14 #[.agg #[.int .i64 s, .slice a1 n1 c1, .slice a2 n2 c2]] w fun e w' => e = .returned (.string (fmtTab s A B)) ∧ Below w.heap.size w w' := by
  have H1 := hid h1
  have H2 := hid h2
  have S0 := hid (St.first w #[.int .i64 s, .slice a1 n1 c1, .slice a2 n2 c2] 24)
  cases hok : tabOk s A B with
  | false =>
    have HN := hid hok
    clear hok h1 h2
    go_enter Tryd.func14, Tryd.ntmps14
    go_wp2_with fail
    refine (spec_TableauOk _ _ _ _ A _ _ _ B _ (H1.out.below S0.out.below) (H2.out.below S0.out.below)).mono ?_
    rw [HN.out]
    rintro e w1 ⟨rfl, hB⟩
    have S1 := hid (S0.out.step hB)
    clear hB
    go_wp2_with fail
    go_ret
    exact ⟨ret_s (by rw [fmtTab_no HN.out]; rfl), S1.out.below⟩
  | true =>
    obtain ⟨S, rfl, hS, e1, rfl, _⟩ := tabOk_parts hok h1.len h2.len
    have HN := hid hok
    have E1 := hid e1
    clear hok h1 h2 e1
    by_cases h0 : n2 = 0
    · subst h0
      have HZ := hid (fmtTab_zero HN.out)
      go_enter Tryd.func14, Tryd.ntmps14
      go_wp2_with fail
      refine (spec_TableauOk _ _ _ _ A _ _ _ B _ (H1.out.below S0.out.below) (H2.out.below S0.out.below)).mono ?_
      rw [show tabOk 0 A B = true from HN.out]
      rintro e w1 ⟨rfl, hB⟩
      have S1 := hid (S0.out.step hB)
      obtain ⟨⟨q0, q1, q2⟩, _⟩ := blk3 S1.out.box
      clear hB
      go_wp2_with fail
      go_ret
      exact ⟨ret_s (by rw [HZ.out]; rfl), S1.out.below⟩
    · have hz : ((n2 : Int) == 0) = false := by simp; omega
      have HY := hid (fmtTab_yes HN.out h0)
      go_enter Tryd.func14, Tryd.ntmps14
      go_wp2_with fail
      refine (spec_TableauOk _ _ _ _ A _ _ _ B _ (H1.out.below S0.out.below) (H2.out.below S0.out.below)).mono ?_
      rw [HN.out]
      rintro e w1 ⟨rfl, hB⟩
      have S1 := hid (S0.out.step hB)
      obtain ⟨⟨q0, q1, q2⟩, _⟩ := blk3 S1.out.box
      clear hB
      go_wp2_with fail
      clear q0 q1 q2
      go_loopw [3, 4] (fun s i wr => ∃ (k : Nat), i = .int .i64 k ∧ k ≤ n2 ∧ s = .string (bs (rowsT A n2 k)) ∧ Hid (Below w1.heap.size w1 wr)) (fun _ i _ => n2 - (intOf i).toNat)
      case atStart => exact ⟨0, rfl, Nat.zero_le _, rfl, hid (Below.refl _ _)⟩
      case round =>
        obtain ⟨k, rfl, hk, rfl, hB⟩ := hrel
        have S2 := hid (S1.out.step hB.out)
        obtain ⟨⟨q0, q1, q2⟩, _⟩ := blk3 S2.out.box
        obtain ⟨q, hq⟩ : ∃ q, bs (rowsT A n2 k) = q := ⟨_, rfl⟩
        have lq : q.size ≤ 900 := by
          rw [← hq, bs_size]
          have := rowsT_len (A := A) hS k
          omega
        rw [hq]
        have HQ := hid hq
        clear hq
        by_cases hlt : k < n2
        · have hki : (k : Int) < (n2 : Int) := by omega
          obtain ⟨b, o, y, rfl, _, _, _, _⟩ := (H1.out.below (l_below S1.out.below hB.out)).at (k := 0) (by rw [E1.out]; exact Nat.mul_pos (by omega) (by omega))
          obtain ⟨tx, htx⟩ : ∃ tx, bs (fmtNs (rowL A n2 k)) = tx := ⟨_, rfl⟩
          have ltx : tx.size ≤ 104 := by
            rw [← htx, bs_size]
            have h := fmtNs_len (rowL A n2 k)
            have h2 : (rowL A n2 k).length ≤ 8 := by unfold rowL; rw [List.length_take]; omega
            omega
          have HTX := hid htx
          clear htx
          go_wp2_with fail
          refine (spec_row n2 k b o n1 c1 _ _ E1.out H1.out.cap H1.out.max hlt hS).mono ?_
          rintro e w2 ⟨rfl, hb⟩
          have S3 := hid (S2.out.step hb)
          have HB3 := hid (hB.out.trans (hb.mono hB.out.size))
          clear hb
          go_wp2_with fail
          refine (spec_FormatNumbers _ n2 _ (rowL A n2 k) _ ((H1.out.below S3.out.below).row E1.out hlt) (by omega)).mono ?_
          rw [HTX.out]
          rintro e w3 ⟨rfl, hb⟩
          have HB4 := hid (HB3.out.trans (hb.mono HB3.out.size))
          have sz : (q ++ tx).size ≤ 1010 := by rw [ByteArray.size_append]; omega
          have a1 := sadd w3 q tx (by omega) (by omega)
          have a2 := sadd w3 (q ++ tx) ⟨#[32, 124, 32]⟩ (by omega) (by decide)
          clear hb
          go_wp2_with fail
          go_roundw
          case rel => exact ⟨k + 1, by go_num, by omega, congrArg Value.string (by rw [← HQ.out, ← HTX.out, rowsT_succ, show (⟨#[32, 124, 32]⟩ : ByteArray) = bs [32, 124, 32] from rfl, bs_append, bs_append]; unfold rowT; rw [List.append_assoc]), HB4⟩
          case measure => simp [intOf]; omega
        · obtain rfl : k = n2 := by omega
          obtain ⟨tx, htx⟩ : ∃ tx, bs (fmtNs B) = tx := ⟨_, rfl⟩
          have ltx : tx.size ≤ 104 := by
            rw [← htx, bs_size]
            have h := fmtNs_len B
            rw [H2.out.len] at h
            omega
          have HTX := hid htx
          clear htx
          go_wp2_with fail
          refine (spec_FormatNumbers _ k _ B _ (H2.out.below S2.out.below) (by omega)).mono ?_
          rw [HTX.out]
          rintro e w3 ⟨rfl, hb⟩
          have S4 := hid (S2.out.step hb)
          have a1 := sadd w3 q tx (by omega) (by omega)
          clear hb
          go_wp2_with fail
          go_ret
          exact ⟨ret_s (by rw [HY.out, ← HQ.out, ← HTX.out, bs_append]), S4.out.below⟩
end Go.Proofs.YthebegfceaehfaaDoor

/- ParL: Numbers read from texts, plain: both readers read back what FormatNumber writes. -/
namespace Go.Proofs.YthebegfceaehfaaDoor

def isD (c : UInt8) : Bool := decide (48 ≤ c.toNat ∧ c.toNat ≤ 57)
/-- The value of digits behind the value n; none where another sign stands. -/
def dval : Nat → List UInt8 → Option Nat
  | n, [] => some n
  | n, c :: l => if isD c then dval (10 * n + (c.toNat - 48)) l else none
theorem dval_append : ∀ (l : List UInt8) (n : Nat) (r : List UInt8), dval n (l ++ r) = (dval n l).bind fun m => dval m r
  | [], n, r => rfl
  | c :: l, n, r => by
    rw [List.cons_append, dval, dval]
    split
    · exact dval_append l _ r
    · rfl
theorem dval_snoc (l : List UInt8) (n : Nat) (c : UInt8) : dval n (l ++ [c]) = (dval n l).bind fun m => if isD c then some (10 * m + (c.toNat - 48)) else none := by
  rw [dval_append]
  rfl
theorem dval_stop {l : List UInt8} {k n : Nat} (h : k < l.length) (hn : isD (l.getD k 0) = false) : dval n l = none := by
  have e : l = l.take k ++ l.getD k 0 :: l.drop (k + 1) := by
    conv => lhs; rw [← List.take_append_drop k l, List.drop_eq_getElem_cons h]
    simp [List.getD, h]
  rw [e, dval_append]
  cases dval n (l.take k) with
  | none => rfl
  | some m => simp only [Option.bind_some]; rw [dval, hn]; rfl
theorem dval_lt : ∀ (l : List UInt8) (n m : Nat), dval n l = some m → m < (n + 1) * 10 ^ l.length
  | [], n, m, h => by cases h; simp
  | c :: l, n, m, h => by
    rw [dval] at h
    split at h
    · rename_i hd
      have := dval_lt l _ m h
      have hd' := of_decide_eq_true hd
      have h2 : (10 * n + (c.toNat - 48) + 1) * 10 ^ l.length ≤ (10 * (n + 1)) * 10 ^ l.length := Nat.mul_le_mul_right _ (by omega)
      rw [List.length_cons, Nat.pow_succ, Nat.mul_comm (10 ^ l.length) 10, ← Nat.mul_assoc, Nat.mul_comm (n + 1) 10]
      omega
    · cases h
theorem dgt_toNat {d : Nat} (h : d < 10) : (dgt d).toNat = 48 + d := by
  unfold dgt
  rw [UInt8.toNat_ofNat']
  omega
theorem dgt_isD {d : Nat} (h : d < 10) : isD (dgt d) = true := by unfold isD; rw [dgt_toNat h]; exact decide_eq_true (by omega)
theorem dval_decN (n : Nat) : dval 0 (decN n) = some n := by
  induction n using Nat.strongRecOn with
  | _ n ih =>
    by_cases h : n < 10
    · rw [decN_lo h, dval, dgt_isD h, if_pos rfl, dgt_toNat h, dval]
      congr 1
      omega
    · rw [decN_hi h, dval_snoc, ih (n / 10) (by omega)]
      simp only [Option.bind_some]
      rw [dgt_isD (Nat.mod_lt _ (by omega)), if_pos rfl, dgt_toNat (Nat.mod_lt _ (by omega))]
      congr 1
      omega
theorem decN_digits (n : Nat) : ∀ c ∈ decN n, isD c = true := by
  induction n using Nat.strongRecOn with
  | _ n ih =>
    intro c hc
    by_cases h : n < 10
    · rw [decN_lo h] at hc
      simp only [List.mem_cons, List.not_mem_nil, or_false] at hc
      exact hc ▸ dgt_isD h
    · rw [decN_hi h] at hc
      rcases List.mem_append.1 hc with h1 | h1
      · exact ih _ (by omega) c h1
      · simp only [List.mem_cons, List.not_mem_nil, or_false] at h1
        exact h1 ▸ dgt_isD (Nat.mod_lt _ (by omega))
theorem getD_app {l : List UInt8} (r : List UInt8) (h : 0 < l.length) : (l ++ r).getD 0 0 = l.getD 0 0 := by
  rw [List.getD_eq_getElem?_getD, List.getD_eq_getElem?_getD, List.getElem?_append_left h]
theorem decN_pos (n : Nat) : 0 < (decN n).length := by
  by_cases h : n < 10
  · rw [decN_lo h]; simp
  · rw [decN_hi h]; simp
/-- No leading zero. -/
theorem decN_head (n : Nat) : 0 < n → (decN n).getD 0 0 ≠ 48 := by
  induction n using Nat.strongRecOn with
  | _ n ih =>
    intro h0
    by_cases h : n < 10
    · rw [decN_lo h]
      intro e
      have := congrArg UInt8.toNat (show dgt n = 48 from e)
      rw [dgt_toNat h] at this
      simp at this
      omega
    · rw [decN_hi h, getD_app _ (decN_pos _)]
      exact ih _ (by omega) (by omega)
theorem decN_lead (n : Nat) : ¬ ((decN n).length > 1 ∧ (decN n).getD 0 0 = 48) := by
  intro ⟨h1, h2⟩
  rcases Nat.eq_zero_or_pos n with h | h
  · subst h
    rw [decN_lo (by omega)] at h1
    simp at h1
  · exact decN_head n h h2
theorem decN_ne {n : Nat} {c : UInt8} (hc : isD c = false) : (decN n).getD 0 0 ≠ c := by
  intro e
  have hm : (decN n).getD 0 0 ∈ decN n := by
    rw [List.getD_eq_getElem?_getD, List.getElem?_eq_getElem (decN_pos n)]
    exact List.getElem_mem _
  have := decN_digits n _ hm
  rw [e, hc] at this
  cases this

def optI : Option Nat → Int
  | some n => n
  | none => -1
/-- readDecimal -/
def rdI (l : List UInt8) : Int := if l.length = 0 ∨ l.length > 10 ∨ (l.length > 1 ∧ l.getD 0 0 = 48) then -1 else optI (dval 0 l)
/-- l1Digits -/
def rdS (l : List UInt8) : Int := if l.length = 0 ∨ l.length > 10 then -1 else optI (dval 0 l)
theorem rdI_decN {n : Nat} (h : n < 10 ^ 10) : rdI (decN n) = n := by
  have h1 := decN_pos n
  have h2 := decN_len 10 n h (by omega)
  have h3 := decN_lead n
  unfold rdI
  rw [if_neg (by rintro (h | h | h) <;> first | omega | exact h3 h), dval_decN]
  rfl
theorem rdS_decN {n : Nat} (h : n < 10 ^ 10) : rdS (decN n) = n := by
  have h1 := decN_pos n
  have h2 := decN_len 10 n h (by omega)
  unfold rdS
  rw [if_neg (by omega), dval_decN]
  rfl
theorem optI_bd (o : Option Nat) (k : Nat) (h : ∀ n, o = some n → n < k) : -1 ≤ optI o ∧ (optI o < k ∨ o = none) := by
  cases o with
  | none => exact ⟨Int.le_refl _, .inr rfl⟩
  | some n => have := h n rfl; exact ⟨by simp only [optI]; omega, .inl (by simp only [optI]; omega)⟩
theorem dval_bd {l : List UInt8} (h : l.length ≤ 10) : -1 ≤ optI (dval 0 l) ∧ optI (dval 0 l) < 10000000000 := by
  cases hd : dval 0 l with
  | none => exact ⟨by decide, by decide⟩
  | some m =>
    have h1 := dval_lt l 0 m hd
    have h2 : 10 ^ l.length ≤ 10 ^ 10 := Nat.pow_le_pow_right (by omega) h
    simp only [optI]
    omega
theorem rdI_bd (l : List UInt8) : -1 ≤ rdI l ∧ rdI l < 10000000000 := by
  unfold rdI
  split
  · exact ⟨by decide, by decide⟩
  · exact dval_bd (by omega)
theorem rdS_bd (l : List UInt8) : -1 ≤ rdS l ∧ rdS l < 10000000000 := by
  unfold rdS
  split
  · exact ⟨by decide, by decide⟩
  · exact dval_bd (by omega)

/-- A text cut at each place where a sign stands. -/
def sp1 (c : UInt8) : List UInt8 → List (List UInt8)
  | [] => [[]]
  | b :: l => if b = c then [] :: sp1 c l else match sp1 c l with
    | [] => [[b]]
    | x :: xs => (b :: x) :: xs
theorem sp1_ne (c : UInt8) : ∀ l, sp1 c l ≠ []
  | [] => by simp [sp1]
  | b :: l => by
    rw [sp1]
    split
    · simp
    · split <;> simp
theorem sp1_free (c : UInt8) : ∀ l, c ∉ l → sp1 c l = [l]
  | [], _ => rfl
  | b :: l, h => by
    rw [sp1, if_neg (show ¬ b = c from fun e => h (by rw [e]; exact List.mem_cons_self)), sp1_free c l (fun h1 => h (List.mem_cons_of_mem _ h1))]
theorem sp1_cut (c : UInt8) : ∀ x r, c ∉ x → sp1 c (x ++ c :: r) = x :: sp1 c r
  | [], r, _ => by rw [List.nil_append, sp1, if_pos rfl]
  | b :: l, r, h => by
    rw [List.cons_append, sp1, if_neg (show ¬ b = c from fun e => h (by rw [e]; exact List.mem_cons_self)), sp1_cut c l r (fun h1 => h (List.mem_cons_of_mem _ h1))]
/-- One sign more at the end. -/
theorem sp1_end (c b : UInt8) : ∀ (l : List UInt8) (D : List (List UInt8)) (cur : List UInt8), sp1 c l = D ++ [cur] → sp1 c (l ++ [b]) = if b = c then D ++ [cur, []] else D ++ [cur ++ [b]]
  | [], D, cur, h => by
    have hD : D = [] ∧ cur = [] := by
      cases D with
      | nil => simp [sp1] at h; exact ⟨rfl, h⟩
      | cons d D => simp [sp1] at h
    obtain ⟨rfl, rfl⟩ := hD
    simp only [List.nil_append, sp1]
  | a :: l, D, cur, h => by
    rw [List.cons_append, sp1]
    rw [sp1] at h
    by_cases ha : a = c
    · rw [if_pos ha] at h ⊢
      cases D with
      | nil =>
        simp only [List.nil_append, List.cons.injEq] at h
        exact absurd h.2 (sp1_ne c l)
      | cons d D =>
        simp only [List.cons_append, List.cons.injEq] at h
        rw [← h.1, sp1_end c b l D cur h.2]
        split <;> rfl
    · rw [if_neg ha] at h ⊢
      cases hs : sp1 c l with
      | nil => exact absurd hs (sp1_ne c l)
      | cons x xs =>
        rw [hs] at h
        simp only at h
        cases D with
        | nil =>
          simp only [List.nil_append, List.cons.injEq] at h
          obtain ⟨h1, rfl⟩ := h
          have := sp1_end c b l [] x (by rw [hs]; rfl)
          rw [this]
          subst h1
          by_cases hb : b = c
          · simp [hb]
          · simp [hb]
        | cons d D =>
          simp only [List.cons_append, List.cons.injEq] at h
          obtain ⟨h1, rfl⟩ := h
          have := sp1_end c b l (x :: D) cur (by rw [hs]; rfl)
          rw [this, ← h1]
          by_cases hb : b = c
          · simp [hb]
          · simp [hb]

/-- What ParseNumber of the implementation tries: -1 for nothing. -/
def cutV (l : List UInt8) : List UInt8 × List UInt8 × Bool := Lib.cut l [47]
def quoI (t : List UInt8) : Int := if rdI (cutV t).1 < 0 ∨ (if (cutV t).2.2 then rdI (cutV t).2.1 else 1) < 1 then -1 else M.frac (rdI (cutV t).1) (if (cutV t).2.2 then rdI (cutV t).2.1 else 1)
def valI (s : List UInt8) : Int :=
  if s.getD 0 0 = 35 then rdI (s.drop 1)
  else if s.getD 0 0 = 45 then (if quoI (s.drop 1) < 0 then -1 else M.res (-(quoI (s.drop 1)))) else quoI s
/-- What ParseNumber of the specification tries. -/
def quoS (g : Int) (t : List UInt8) : Int :=
  if rdS ((sp1 47 t).getD 0 []) < 0 ∨ (if (sp1 47 t).length > 1 then rdS ((sp1 47 t).getD 1 []) else 1) < 0 ∨ (sp1 47 t).length > 2 then -1
  else M.frac (g * rdS ((sp1 47 t).getD 0 [])) (if (sp1 47 t).length > 1 then rdS ((sp1 47 t).getD 1 []) else 1)
def valS (s : List UInt8) : Int :=
  if s.getD 0 0 = 35 then rdS (s.drop 1)
  else if s.getD 0 0 = 45 then quoS (-1) (s.drop 1) else quoS 1 s
/-- The number that a text is. -/
def pnOk (v : Int) (s : List UInt8) : Bool := M.isNum v && decide (fmtN v = s)
theorem frac_of {n a : Int} {b : Nat} (hn : M.num n) (h : n * b % M.P = a % M.P) (h1 : 1 ≤ b) (h2 : b ≤ 9999) : M.frac a b = n := by
  have hb : (b : Int) % M.P ≠ 0 := by
    have hP : M.P = 1000000271 := rfl
    rw [hP, Int.emod_eq_of_lt (by omega) (by omega)]
    omega
  have h3 := M.mul_inv hb
  unfold M.frac M.times
  rw [← M.mul_l, ← h, M.mul_l, Int.mul_assoc, ← M.mul_r, h3, Int.mul_one]
  exact M.res_of_num hn
theorem index_one_free (c : UInt8) : ∀ l : List UInt8, c ∉ l → Lib.index l [c] = -1
  | [], _ => rfl
  | b :: l, h => by
    rw [Lib.index, index_one_free c l (fun h1 => h (List.mem_cons_of_mem _ h1))]
    rw [if_neg (by
      intro e
      simp only [List.isPrefixOf, Bool.and_true, beq_iff_eq] at e
      exact h (e ▸ List.mem_cons_self))]
    rfl
theorem index_one_cut (c : UInt8) : ∀ (x r : List UInt8), c ∉ x → Lib.index (x ++ c :: r) [c] = x.length
  | [], r, _ => by
    rw [List.nil_append, Lib.index, if_pos (by simp [List.isPrefixOf])]
    rfl
  | b :: l, r, h => by
    rw [List.cons_append, Lib.index, index_one_cut c l r (fun h1 => h (List.mem_cons_of_mem _ h1))]
    rw [if_neg (by
      intro e
      simp only [List.isPrefixOf, Bool.and_true, beq_iff_eq] at e
      exact h (e ▸ List.mem_cons_self))]
    rw [if_neg (by simp only [beq_iff_eq]; omega)]
    rw [List.length_cons]; omega
theorem cutV_free {l : List UInt8} (h : (47 : UInt8) ∉ l) : cutV l = (l, [], false) := by
  unfold cutV Lib.cut
  rw [index_one_free _ _ h, if_neg (by omega)]
theorem cutV_cut {x r : List UInt8} (h : (47 : UInt8) ∉ x) : cutV (x ++ 47 :: r) = (x, r, true) := by
  unfold cutV Lib.cut
  rw [index_one_cut _ _ _ h, if_pos (by omega), Int.toNat_natCast, List.take_left', List.drop_append]
  · simp
  · rfl
theorem decN_no (n : Nat) {c : UInt8} (hc : isD c = false) : c ∉ decN n := fun h => by
  have := decN_digits n c h
  rw [hc] at this
  cases this
/-- the parts of a fraction's text -/
def fracT (a b : Nat) : List UInt8 := if b = 1 then decN a else decN a ++ 47 :: decN b
theorem quoI_frac {a b : Nat} (ha : a ≤ 9999) (h1 : 1 ≤ b) (hb : b ≤ 9999) : quoI (fracT a b) = M.frac a b := by
  have hs := decN_no a (c := 47) (by decide)
  unfold quoI fracT
  by_cases h : b = 1
  · subst h
    rw [if_pos rfl, cutV_free hs]
    simp only [rdI_decN (show a < 10 ^ 10 by omega)]
    rw [if_neg (by simp)]
    rfl
  · rw [if_neg h, cutV_cut hs]
    simp only [rdI_decN (show a < 10 ^ 10 by omega), rdI_decN (show b < 10 ^ 10 by omega), if_true]
    rw [if_neg (by omega)]
theorem quoS_frac (g : Int) {a b : Nat} (ha : a ≤ 9999) (h1 : 1 ≤ b) (hb : b ≤ 9999) : quoS g (fracT a b) = M.frac (g * a) b := by
  have hs := decN_no a (c := 47) (by decide)
  have ht := decN_no b (c := 47) (by decide)
  unfold quoS fracT
  by_cases h : b = 1
  · subst h
    rw [if_pos rfl, sp1_free 47 _ hs]
    simp only [List.getD_cons_zero, List.length_cons, List.length_nil, rdS_decN (show a < 10 ^ 10 by omega)]
    rw [if_neg (by simp)]
    simp
  · rw [if_neg h, sp1_cut 47 _ _ hs, sp1_free 47 _ ht]
    simp only [List.getD_cons_zero, List.getD_cons_succ, List.length_cons, List.length_nil, rdS_decN (show a < 10 ^ 10 by omega), rdS_decN (show b < 10 ^ 10 by omega)]
    rw [if_neg (by simp)]
    simp
theorem fracT_head (a b : Nat) {c : UInt8} (hc : isD c = false) : (fracT a b).getD 0 0 ≠ c := by
  unfold fracT
  split
  · exact decN_ne hc
  · rw [getD_app _ (decN_pos _)]; exact decN_ne hc
theorem small_cong {n : Int} {b : Nat} {a : Int} (h : small n b = some a) : n * b % M.P = a % M.P := by
  unfold small at h
  simp only at h
  split at h
  · cases h; rw [M.mod_mod]
  · split at h
    · cases h
      rw [Int.sub_emod_right, M.mod_mod]
    · cases h
theorem fmtGo_cases {n : Int} : ∀ f b, 1 ≤ b → b + f ≤ 10000 →
    (∃ (a c : Nat), a ≤ 9999 ∧ 1 ≤ c ∧ c ≤ 9999 ∧ n * c % M.P = (a : Int) % M.P ∧ fmtGo n b f = fracT a c) ∨
    (∃ (a c : Nat), a ≤ 9999 ∧ 1 ≤ c ∧ c ≤ 9999 ∧ n * c % M.P = (-(a : Int)) % M.P ∧ fmtGo n b f = 45 :: fracT a c) ∨ fmtGo n b f = 35 :: decN n.toNat
  | 0, b, _, _ => .inr (.inr rfl)
  | f + 1, b, h1, hb => by
    unfold fmtGo
    cases hs : small n b with
    | none => exact fmtGo_cases f (b + 1) (by omega) (by omega)
    | some a =>
      obtain ⟨a0, a1⟩ := small_bd hs
      have hc := small_cong hs
      by_cases hneg : a < 0
      · refine .inr (.inl ⟨a.natAbs, b, by omega, h1, by omega, by rw [hc, show -(a.natAbs : Int) = a by omega], ?_⟩)
        simp only
        unfold decI fracT
        rw [if_pos hneg]
        split <;> rfl
      · refine .inl ⟨a.toNat, b, by omega, h1, by omega, by rw [hc, show (a.toNat : Int) = a by omega], ?_⟩
        simp only
        unfold decI fracT
        rw [if_neg hneg]
theorem frac_neg (x b : Int) : M.res (-(M.frac x b)) = M.frac (-x) b := by
  unfold M.frac M.times M.res
  rw [Int.neg_mul, show -(x * M.inv b % M.P) = 0 - x * M.inv b % M.P by omega, M.sub_r]
  congr 1
  omega
theorem vals_fmt {n : Int} (hn : M.num n) : valI (fmtN n) = n ∧ valS (fmtN n) = n := by
  unfold fmtN
  rw [M.isNum_true hn, if_pos rfl]
  have hnn : n.toNat < 10 ^ 10 ∧ (n.toNat : Int) = n := by
    have : M.P = 1000000271 := rfl
    obtain ⟨h1, h2⟩ := hn
    omega
  rcases fmtGo_cases (n := n) 9999 1 (by omega) (by omega) with ⟨a, c, h1, h2, h3, h4, h5⟩ | ⟨a, c, h1, h2, h3, h4, h5⟩ | h5
  · rw [h5]
    unfold valI valS
    rw [if_neg (fracT_head a c (by decide)), if_neg (fracT_head a c (by decide)), if_neg (fracT_head a c (by decide)), if_neg (fracT_head a c (by decide)), quoI_frac h1 h2 h3, quoS_frac 1 h1 h2 h3, Int.one_mul]
    exact ⟨frac_of hn h4 h2 h3, frac_of hn h4 h2 h3⟩
  · rw [h5]
    unfold valI valS
    simp only [List.getD_cons_zero, List.drop_succ_cons, List.drop_zero]
    rw [if_neg (show ¬ (45 : UInt8) = 35 by decide), if_pos trivial, if_neg (show ¬ (45 : UInt8) = 35 by decide), if_pos trivial, quoI_frac h1 h2 h3, quoS_frac (-1) h1 h2 h3, frac_neg]
    have hf := M.num_frac (a : Int) c
    rw [if_neg (by have := hf.1; omega)]
    refine ⟨frac_of hn h4 h2 h3, ?_⟩
    rw [show (-1 : Int) * (a : Int) = -(a : Int) by omega]
    exact frac_of hn h4 h2 h3
  · rw [h5]
    unfold valI valS
    simp only [List.getD_cons_zero, List.drop_succ_cons, List.drop_zero]
    rw [if_pos trivial, if_pos trivial, rdI_decN hnn.1, rdS_decN hnn.1]
    exact ⟨hnn.2, hnn.2⟩
/-- The number of a text, and whether it is one. -/
def pnB (s : List UInt8) : Bool := pnOk (valI s) s
def pnV (s : List UInt8) : Int := if pnB s then valI s else 0
theorem pn_of {v : Int} {s : List UInt8} (h : pnOk v s = true) : M.num v ∧ fmtN v = s := by
  unfold pnOk at h
  simp only [Bool.and_eq_true, decide_eq_true_eq] at h
  exact ⟨M.num_of_isNum h.1, h.2⟩
theorem pn_same (s : List UInt8) : pnOk (valS s) s = pnB s ∧ (pnB s = true → valS s = valI s) := by
  have key : ∀ v, pnOk v s = true → valI s = v ∧ valS s = v := by
    intro v h
    obtain ⟨h1, h2⟩ := pn_of h
    rw [← h2]
    exact vals_fmt h1
  refine ⟨?_, fun h => ?_⟩
  · unfold pnB
    cases h : pnOk (valS s) s with
    | true => rw [(key _ h).1, h]
    | false =>
      cases h2 : pnOk (valI s) s with
      | false => rfl
      | true => rw [(key _ h2).2, h2] at h; cases h
  · exact (key _ h).2
theorem pnV_fmt {n : Int} (hn : M.num n) : pnB (fmtN n) = true ∧ pnV (fmtN n) = n := by
  have h : pnB (fmtN n) = true := by
    unfold pnB pnOk
    rw [(vals_fmt hn).1, M.isNum_true hn]
    simp
  exact ⟨h, by unfold pnV; rw [if_pos h, (vals_fmt hn).1]⟩
theorem pnV_num (s : List UInt8) : M.num (pnV s) := by
  unfold pnV
  split
  · rename_i h; exact (pn_of h).1
  · exact ⟨by decide, by decide⟩
end Go.Proofs.YthebegfceaehfaaDoor

/- Par: Numbers read from texts: the walks of readDecimal, l1Digits. -/
namespace Go.Proofs.YthebegfceaehfaaDoor
open Go.RowKit

theorem byte_at (s : ByteArray) (k : Nat) (h : k < s.size) : s.data.toList.getD k 0 = s[k] := by
  have h' : k < s.data.toList.length := by rw [Array.length_toList]; exact h
  rw [List.getD_eq_getElem?_getD, List.getElem?_eq_getElem h']
  rfl
theorem bytes_snoc (s : ByteArray) (k : Nat) (h : k < s.size) : s.data.toList.take (k + 1) = s.data.toList.take k ++ [s[k]] := by
  have h' : k < s.data.toList.length := by rw [Array.length_toList]; exact h
  rw [take_snoc 0 _ k h', byte_at s k h]
theorem bytes_len (s : ByteArray) : s.data.toList.length = s.size := Array.length_toList
/-- k digits were read, their value m. -/
def RdTo (s : ByteArray) (k m : Nat) : Prop := dval 0 (s.data.toList.take k) = some m
theorem RdTo.lt {s : ByteArray} {k m : Nat} (h : RdTo s k m) (hk : k ≤ 10) : m < 10000000000 := by
  have h1 := dval_lt _ 0 m h
  have h2 : (s.data.toList.take k).length ≤ 10 := by rw [List.length_take]; omega
  have h3 : 10 ^ (s.data.toList.take k).length ≤ 10 ^ 10 := Nat.pow_le_pow_right (by omega) h2
  omega
theorem RdTo.next {s : ByteArray} {k m : Nat} (h : RdTo s k m) (hk : k < s.size) (h1 : 48 ≤ s[k].toNat) (h2 : s[k].toNat ≤ 57) : RdTo s (k + 1) (10 * m + (s[k].toNat - 48)) := by
  unfold RdTo
  rw [bytes_snoc s k hk, dval_snoc, h]
  simp only [Option.bind_some]
  rw [if_pos (show isD s[k] = true from decide_eq_true ⟨h1, h2⟩)]
theorem RdTo.stop {s : ByteArray} {k : Nat} (hk : k < s.size) (h : ¬ (48 ≤ s[k].toNat ∧ s[k].toNat ≤ 57)) : dval 0 s.data.toList = none :=
  dval_stop (k := k) (by rw [bytes_len]; exact hk) (by rw [byte_at s k hk]; exact decide_eq_false h)
theorem RdTo.all {s : ByteArray} {m : Nat} (h : RdTo s s.size m) : dval 0 s.data.toList = some m := by
  unfold RdTo at h
  rw [← bytes_len, List.take_length] at h
  exact h
theorem rdI_go {s : ByteArray} (h0 : s.size ≠ 0) (h1 : s.size ≤ 10) (h2 : ¬ (s.size > 1 ∧ s.data.toList.getD 0 0 = 48)) : rdI s.data.toList = optI (dval 0 s.data.toList) := by
  unfold rdI
  rw [bytes_len, if_neg (by rintro (h | h | h) <;> first | omega | exact h2 h)]
theorem rdS_go {s : ByteArray} (h0 : s.size ≠ 0) (h1 : s.size ≤ 10) : rdS s.data.toList = optI (dval 0 s.data.toList) := by
  unfold rdS
  rw [bytes_len, if_neg (by omega)]
-- WALKS
set_option maxHeartbeats 1000000 in
theorem impl_readDecimal_go (s : ByteArray) (w : World) (h0 : s.size ≠ 0) (h1 : s.size ≤ 10) (h2 : ¬ (s.size > 1 ∧ s.data.toList.getD 0 0 = 48)) :
    Calls Tryd.prog 65 #[.string s] w fun e w' => e = .returned (.int .i64 (rdI s.data.toList)) ∧ w = w' := by
  have HG := hid (rdI_go h0 h1 h2)
  have q0 : ((s.size : Int) == 0) = false := by rw [beq_eq_false_iff_ne]; omega
  have q1 : (s.size : Int) ≤ 10 := by omega
  have hp : 0 < s.size := by omega
  have q4 : ((s[0].toNat : Int) == 48) = false ∨ ¬ (1 : Int) < (s.size : Int) := by
    by_cases h3 : 1 < s.size
    · left
      rw [beq_eq_false_iff_ne]
      intro e
      refine h2 ⟨h3, ?_⟩
      rw [byte_at s 0 hp]
      have h : s[0].toNat = 48 := by omega
      exact UInt8.toNat_inj.1 (show s[0].toNat = (48 : UInt8).toNat from h)
    · right; omega
  clear h2
  go_enter Tryd.func65, Tryd.ntmps65
  rcases q4 with q4 | q4
  all_goals go_wp2_with fail
  all_goals
    go_loop [3, 25] (fun n i => ∃ k m : Nat, i = .int .i64 k ∧ n = .int .i64 m ∧ k ≤ s.size ∧ Hid (RdTo s k m)) (fun _ i => s.size - (intOf i).toNat)
    case atStart => exact ⟨0, 0, rfl, rfl, Nat.zero_le _, hid rfl⟩
    case round =>
      obtain ⟨k, m, rfl, rfl, hk, hR⟩ := hrel
      have hmb := hR.out.lt (by omega)
      by_cases hlt : k < s.size
      · have hki : (k : Int) < (s.size : Int) := by omega
        have hcb : s[k].toNat < 256 := UInt8.toNat_lt _
        by_cases hd : 48 ≤ s[k].toNat ∧ s[k].toNat ≤ 57
        · have d1 : ¬ (s[k].toNat : Int) < 48 := by omega
          have d2 : ¬ (57 : Int) < (s[k].toNat : Int) := by omega
          have HN := hid (hR.out.next hlt hd.1 hd.2)
          have hsub : ((s[k].toNat : Int) - 48) = ((s[k].toNat - 48 : Nat) : Int) := by omega
          have hd1 := hd.1
          have hd2 := hd.2
          clear hd
          go_wp2_with fail
          go_round
          case rel => exact ⟨k + 1, _, by go_num, by go_num, by omega, HN⟩
          case measure => simp [intOf]; omega
        · have HS := hid (RdTo.stop hlt hd)
          by_cases d1 : s[k].toNat < 48
          · have d1i : (s[k].toNat : Int) < 48 := by omega
            clear hd
            go_wp2_with fail
            go_ret
            exact ⟨ret_i (by rw [HG.out, HS.out]; rfl), rfl⟩
          · have d1i : ¬ (s[k].toNat : Int) < 48 := by omega
            have d2i : (57 : Int) < (s[k].toNat : Int) := by omega
            clear hd d1
            go_wp2_with fail
            go_ret
            exact ⟨ret_i (by rw [HG.out, HS.out]; rfl), rfl⟩
      · obtain rfl : k = s.size := by omega
        go_wp2_with fail
        go_ret
        exact ⟨ret_i (by rw [HG.out, hR.out.all]; rfl), rfl⟩
theorem rdI_no0 {s : ByteArray} (h : s.size = 0) : rdI s.data.toList = -1 := by unfold rdI; rw [bytes_len, if_pos (.inl h)]
theorem rdI_no1 {s : ByteArray} (h : ¬ s.size ≤ 10) : rdI s.data.toList = -1 := by unfold rdI; rw [bytes_len, if_pos (.inr (.inl (by omega)))]
theorem rdI_no2 {s : ByteArray} (h : s.size > 1 ∧ s.data.toList.getD 0 0 = 48) : rdI s.data.toList = -1 := by unfold rdI; rw [bytes_len, if_pos (.inr (.inr h))]
theorem rdS_no0 {s : ByteArray} (h : s.size = 0) : rdS s.data.toList = -1 := by unfold rdS; rw [bytes_len, if_pos (.inl h)]
theorem rdS_no1 {s : ByteArray} (h : ¬ s.size ≤ 10) : rdS s.data.toList = -1 := by unfold rdS; rw [bytes_len, if_pos (.inr (by omega))]
theorem impl_readDecimal (s : ByteArray) (w : World) (hs : s.size ≤ 4294967280) :
    Calls Tryd.prog 65 #[.string s] w fun e w' => e = .returned (.int .i64 (rdI s.data.toList)) ∧ w = w' := by
  by_cases h0 : s.size = 0
  · have H := hid (rdI_no0 h0)
    have q0 : ((s.size : Int) == 0) = true := by rw [beq_iff_eq]; omega
    clear h0
    go_enter Tryd.func65, Tryd.ntmps65
    go_wp2_with fail
    go_ret
    exact ⟨ret_i H.out.symm, rfl⟩
  · by_cases h1 : s.size ≤ 10
    · by_cases h2 : s.size > 1 ∧ s.data.toList.getD 0 0 = 48
      · have H := hid (rdI_no2 h2)
        have q0 : ((s.size : Int) == 0) = false := by rw [beq_eq_false_iff_ne]; omega
        have q1 : (s.size : Int) ≤ 10 := by omega
        have hp : 0 < s.size := by omega
        have q3 : (1 : Int) < (s.size : Int) := by omega
        have q4 : ((s[0].toNat : Int) == 48) = true := by
          rw [beq_iff_eq]
          have h := h2.2
          rw [byte_at s 0 hp] at h
          rw [h]; rfl
        clear h2
        go_enter Tryd.func65, Tryd.ntmps65
        go_wp2_with fail
        go_ret
        exact ⟨ret_i H.out.symm, rfl⟩
      · exact impl_readDecimal_go s w h0 h1 h2
    · have H := hid (rdI_no1 h1)
      have q0 : ((s.size : Int) == 0) = false := by rw [beq_eq_false_iff_ne]; omega
      have q1 : ¬ (s.size : Int) ≤ 10 := by omega
      clear h0 h1
      go_enter Tryd.func65, Tryd.ntmps65
      go_wp2_with fail
      go_ret
      exact ⟨ret_i H.out.symm, rfl⟩
set_option maxHeartbeats 1000000 in
theorem spec_l1Digits (s : ByteArray) (w : World) (hs : s.size ≤ 4294967280) :
    Calls Tryd.prog 57 #[.string s] w fun e w' => e = .returned (.int .i64 (rdS s.data.toList)) ∧ w = w' := by
  by_cases h0 : s.size = 0
  · have H := hid (rdS_no0 h0)
    have q0 : ((s.size : Int) == 0) = true := by rw [beq_iff_eq]; omega
    clear h0
    go_enter Tryd.func57, Tryd.ntmps57
    go_wp2_with fail
    go_ret
    exact ⟨ret_i H.out.symm, rfl⟩
  · have q0 : ((s.size : Int) == 0) = false := by rw [beq_eq_false_iff_ne]; omega
    by_cases h1 : s.size ≤ 10
    · have HG := hid (rdS_go h0 h1)
      have q1 : (s.size : Int) ≤ 10 := by omega
      go_enter Tryd.func57, Tryd.ntmps57
      go_wp2_with fail
      go_loop [3, 4] (fun n i => ∃ k m : Nat, i = .int .i64 k ∧ n = .int .i64 m ∧ k ≤ s.size ∧ Hid (RdTo s k m)) (fun _ i => s.size - (intOf i).toNat)
      case atStart => exact ⟨0, 0, rfl, rfl, Nat.zero_le _, hid rfl⟩
      case round =>
        obtain ⟨k, m, rfl, rfl, hk, hR⟩ := hrel
        have hmb := hR.out.lt (by omega)
        by_cases hlt : k < s.size
        · have hki : (k : Int) < (s.size : Int) := by omega
          have hcb : s[k].toNat < 256 := UInt8.toNat_lt _
          by_cases hd : 48 ≤ s[k].toNat ∧ s[k].toNat ≤ 57
          · have d1 : ¬ (s[k].toNat : Int) < 48 := by omega
            have d2 : ¬ (57 : Int) < (s[k].toNat : Int) := by omega
            have HN := hid (hR.out.next hlt hd.1 hd.2)
            have hsub : ((s[k].toNat : Int) - 48) = ((s[k].toNat - 48 : Nat) : Int) := by omega
            have hd1 := hd.1
            have hd2 := hd.2
            clear hd
            go_wp2_with fail
            go_round
            case rel => exact ⟨k + 1, _, by go_num, by go_num, by omega, HN⟩
            case measure => simp [intOf]; omega
          · have HS := hid (RdTo.stop hlt hd)
            by_cases d1 : s[k].toNat < 48
            · have d1i : (s[k].toNat : Int) < 48 := by omega
              clear hd
              go_wp2_with fail
              go_ret
              exact ⟨ret_i (by rw [HG.out, HS.out]; rfl), rfl⟩
            · have d1i : ¬ (s[k].toNat : Int) < 48 := by omega
              have d2i : (57 : Int) < (s[k].toNat : Int) := by omega
              clear hd d1
              go_wp2_with fail
              go_ret
              exact ⟨ret_i (by rw [HG.out, HS.out]; rfl), rfl⟩
        · obtain rfl : k = s.size := by omega
          go_wp2_with fail
          go_ret
          exact ⟨ret_i (by rw [HG.out, hR.out.all]; rfl), rfl⟩
    · have H := hid (rdS_no1 h1)
      have q1 : ¬ (s.size : Int) ≤ 10 := by omega
      clear h0 h1
      go_enter Tryd.func57, Tryd.ntmps57
      go_wp2_with fail
      go_ret
      exact ⟨ret_i H.out.symm, rfl⟩
end Go.Proofs.YthebegfceaehfaaDoor

/- Cut: l1Cut: a text cut at each place where a sign stands. -/
namespace Go.Proofs.YthebegfceaehfaaDoor
open Go.RowKit

theorem ext_bs (s : ByteArray) (f k : Nat) : s.extract f k = bs ((s.data.toList.take k).drop f) := by
  rw [← bs_list (s.extract f k)]
  congr 1
  rw [Lib.extract_data, List.drop_take]
/-- What was cut off the first k signs: the pieces D, and the piece from f on. -/
def CutTo (s : ByteArray) (c : UInt8) (k f : Nat) (D : List (List UInt8)) : Prop := sp1 c (s.data.toList.take k) = D ++ [(s.data.toList.take k).drop f]
theorem CutTo.zero (s : ByteArray) (c : UInt8) : CutTo s c 0 0 [] := rfl
theorem CutTo.hit {s : ByteArray} {c : UInt8} {k f : Nat} {D : List (List UInt8)} (h : CutTo s c k f D) (hk : k < s.size) (hc : s[k] = c) : CutTo s c (k + 1) (k + 1) (D ++ [(s.data.toList.take k).drop f]) := by
  unfold CutTo
  rw [bytes_snoc s k hk, sp1_end c s[k] _ D _ h, if_pos hc]
  have hl : (s.data.toList.take k).length = k := by rw [List.length_take, bytes_len]; omega
  rw [show (s.data.toList.take k ++ [s[k]]).drop (k + 1) = [] from List.drop_eq_nil_of_le (by rw [List.length_append, hl]; exact Nat.le_refl _), List.append_assoc]
  rfl
theorem CutTo.miss {s : ByteArray} {c : UInt8} {k f : Nat} {D : List (List UInt8)} (h : CutTo s c k f D) (hk : k < s.size) (hf : f ≤ k) (hc : s[k] ≠ c) : CutTo s c (k + 1) f D := by
  unfold CutTo
  rw [bytes_snoc s k hk, sp1_end c s[k] _ D _ h, if_neg hc]
  have hl : (s.data.toList.take k).length = k := by rw [List.length_take, bytes_len]; omega
  rw [List.drop_append_of_le_length (by omega)]
theorem CutTo.all {s : ByteArray} {c : UInt8} {f : Nat} {D : List (List UInt8)} (h : CutTo s c s.size f D) : sp1 c s.data.toList = D ++ [(s.data.toList.take s.size).drop f] := by
  unfold CutTo at h
  rw [← bytes_len, List.take_length] at h ⊢
  exact h
set_option maxHeartbeats 1000000 in
theorem spec_l1Cut (s : ByteArray) (c : UInt8) (cz : Int) (w : World) (hs : s.size ≤ 1048576) (hz : cz = (c.toNat : Int)) :
    Calls Tryd.prog 12 #[.string s, .int .u8 cz] w fun e w' => ∃ v n, e = .returned v ∧ n ≤ s.size + 1 ∧ Sw w' w.heap.size v n (sp1 c s.data.toList) ∧ Below w.heap.size w w' := by
  have HZ := hid hz
  clear hz
  go_enter Tryd.func12, Tryd.ntmps12
  go_wp2_with fail
  go_loopw [5, 6, 7] (fun v fr i wr => ∃ (k f n : Nat) (D : List (List UInt8)), i = .int .i64 k ∧ fr = .int .i64 f ∧ k ≤ s.size ∧ f ≤ k ∧ n ≤ k ∧ Hid (CutTo s c k f D) ∧ Hid (Sw wr w.heap.size v n D) ∧ Hid (Below w.heap.size w wr)) (fun _ _ i _ => s.size - (intOf i).toNat)
  case atStart => exact ⟨0, 0, 0, [], rfl, rfl, Nat.zero_le _, Nat.zero_le _, Nat.zero_le _, hid (CutTo.zero s c), hid (Sw.empty _ _ (Nat.le_refl _)), hid (below_box _ _)⟩
  case round =>
    obtain ⟨k, f, n, D, rfl, rfl, hk, hf, hn, hC, hS, hB⟩ := hrel
    have sz := hB.out.size
    by_cases hlt : k < s.size
    · have hki : (k : Int) < (s.size : Int) := by omega
      have hfi : (f : Int) ≤ (k : Int) := by omega
      have hcb : s[k].toNat < 256 := UInt8.toNat_lt _
      by_cases hc : s[k] = c
      · have q : ((s[k].toNat : Int) == cz) = true := by rw [beq_iff_eq, HZ.out, hc]
        have HN := hid (hC.out.hit hlt hc)
        have HE := hid (ext_bs s f k)
        clear hc
        go_wp2_with (at_builtin; refine wpList_append_txt _ rfl _ _ rfl w.heap.size _ n _ rfl (hS.out.alloc _) wr.heap.size ((s.data.toList.take k).drop f) rfl (by rw [← HE.out]; exact cell_one _ _ _) (by omega) (by simp; omega) ?_; intro v' w4 hS4 hG4)
        have HS4 := hid hS4
        have HB4 := hid ((hB.out.alloc sz (.cells #[.string (s.extract f k)] 9)).grown hG4 (by simp; omega) (fun j hj => (hS.out.lt j hj).1))
        clear hS4 hG4
        go_wp2_with fail
        go_roundw
        case rel => exact ⟨k + 1, k + 1, n + 1, _, by go_num, by go_num, by omega, Nat.le_refl _, by omega, HN, HS4, HB4⟩
        case measure => simp [intOf]; omega
      · have q : ((s[k].toNat : Int) == cz) = false := by
          rw [beq_eq_false_iff_ne, HZ.out]
          intro e
          exact hc (UInt8.toNat_inj.1 (by omega))
        have HN := hid (hC.out.miss hlt hf hc)
        clear hc
        go_wp2_with fail
        go_roundw
        case rel => exact ⟨k + 1, f, n, D, by go_num, rfl, by omega, by omega, by omega, HN, hS, hB⟩
        case measure => simp [intOf]; omega
    · obtain rfl : k = s.size := by omega
      have HE := hid (ext_bs s f s.size)
      have HA := hid hC.out.all
      have hfi : (f : Int) ≤ (s.size : Int) := by omega
      go_wp2_with (at_builtin; refine wpList_append_txt _ rfl _ _ rfl w.heap.size _ n _ rfl (hS.out.alloc _) wr.heap.size ((s.data.toList.take s.size).drop f) rfl (by rw [← HE.out]; exact cell_one _ _ _) (by omega) (by simp; omega) ?_; intro v' w4 hS4 hG4)
      have HS4 := hid hS4
      have HB4 := hid ((hB.out.alloc sz (.cells #[.string (s.extract f s.size)] 9)).grown hG4 (by simp; omega) (fun j hj => (hS.out.lt j hj).1))
      clear hS4 hG4
      go_wp2_with fail
      go_ret
      exact ⟨_, n + 1, rfl, by omega, by rw [HA.out]; exact HS4.out, HB4.out⟩
end Go.Proofs.YthebegfceaehfaaDoor
