/- Numbers read from texts, plain: both readers read back what FormatNumber writes. -/
import Derived.Test.YthebegfceaehfaaDoorFmtL
import Derived.Lib.IndexMore
namespace Go.Proofs.YthebegfceaehfaaDoor

def isD (c : UInt8) : Bool := decide (48 ≤ c.toNat ∧ c.toNat ≤ 57)
/-- The value of digits behind the value n; none where another sign stands. -/
def dval : Nat → List UInt8 → Option Nat
  | n, [] => some n
  | n, c :: l => if isD c then dval (10 * n + (c.toNat - 48)) l else none
theorem dval_append : ∀ (l : List UInt8) (n : Nat) (r : List UInt8), dval n (l ++ r) = (dval n l).bind fun m => dval m r
  | [], n, r => rfl
  | c :: l, n, r => by
    rw [List.cons_append, dval, dval]
    split
    · exact dval_append l _ r
    · rfl
theorem dval_snoc (l : List UInt8) (n : Nat) (c : UInt8) : dval n (l ++ [c]) = (dval n l).bind fun m => if isD c then some (10 * m + (c.toNat - 48)) else none := by
  rw [dval_append]
  rfl
theorem dval_stop {l : List UInt8} {k n : Nat} (h : k < l.length) (hn : isD (l.getD k 0) = false) : dval n l = none := by
  have e : l = l.take k ++ l.getD k 0 :: l.drop (k + 1) := by
    conv => lhs; rw [← List.take_append_drop k l, List.drop_eq_getElem_cons h]
    simp [List.getD, h]
  rw [e, dval_append]
  cases dval n (l.take k) with
  | none => rfl
  | some m => simp only [Option.bind_some]; rw [dval, hn]; rfl
theorem dval_lt : ∀ (l : List UInt8) (n m : Nat), dval n l = some m → m < (n + 1) * 10 ^ l.length
  | [], n, m, h => by cases h; simp
  | c :: l, n, m, h => by
    rw [dval] at h
    split at h
    · rename_i hd
      have := dval_lt l _ m h
      have hd' := of_decide_eq_true hd
      have h2 : (10 * n + (c.toNat - 48) + 1) * 10 ^ l.length ≤ (10 * (n + 1)) * 10 ^ l.length := Nat.mul_le_mul_right _ (by omega)
      rw [List.length_cons, Nat.pow_succ, Nat.mul_comm (10 ^ l.length) 10, ← Nat.mul_assoc, Nat.mul_comm (n + 1) 10]
      omega
    · cases h
theorem dgt_toNat {d : Nat} (h : d < 10) : (dgt d).toNat = 48 + d := by
  unfold dgt
  rw [UInt8.toNat_ofNat']
  omega
theorem dgt_isD {d : Nat} (h : d < 10) : isD (dgt d) = true := by unfold isD; rw [dgt_toNat h]; exact decide_eq_true (by omega)
theorem dval_decN (n : Nat) : dval 0 (decN n) = some n := by
  induction n using Nat.strongRecOn with
  | _ n ih =>
    by_cases h : n < 10
    · rw [decN_lo h, dval, dgt_isD h, if_pos rfl, dgt_toNat h, dval]
      congr 1
      omega
    · rw [decN_hi h, dval_snoc, ih (n / 10) (by omega)]
      simp only [Option.bind_some]
      rw [dgt_isD (Nat.mod_lt _ (by omega)), if_pos rfl, dgt_toNat (Nat.mod_lt _ (by omega))]
      congr 1
      omega
theorem decN_digits (n : Nat) : ∀ c ∈ decN n, isD c = true := by
  induction n using Nat.strongRecOn with
  | _ n ih =>
    intro c hc
    by_cases h : n < 10
    · rw [decN_lo h] at hc
      simp only [List.mem_cons, List.not_mem_nil, or_false] at hc
      exact hc ▸ dgt_isD h
    · rw [decN_hi h] at hc
      rcases List.mem_append.1 hc with h1 | h1
      · exact ih _ (by omega) c h1
      · simp only [List.mem_cons, List.not_mem_nil, or_false] at h1
        exact h1 ▸ dgt_isD (Nat.mod_lt _ (by omega))
theorem getD_app {l : List UInt8} (r : List UInt8) (h : 0 < l.length) : (l ++ r).getD 0 0 = l.getD 0 0 := by
  rw [List.getD_eq_getElem?_getD, List.getD_eq_getElem?_getD, List.getElem?_append_left h]
theorem decN_pos (n : Nat) : 0 < (decN n).length := by
  by_cases h : n < 10
  · rw [decN_lo h]; simp
  · rw [decN_hi h]; simp
/-- No leading zero. -/
theorem decN_head (n : Nat) : 0 < n → (decN n).getD 0 0 ≠ 48 := by
  induction n using Nat.strongRecOn with
  | _ n ih =>
    intro h0
    by_cases h : n < 10
    · rw [decN_lo h]
      intro e
      have := congrArg UInt8.toNat (show dgt n = 48 from e)
      rw [dgt_toNat h] at this
      simp at this
      omega
    · rw [decN_hi h, getD_app _ (decN_pos _)]
      exact ih _ (by omega) (by omega)
theorem decN_lead (n : Nat) : ¬ ((decN n).length > 1 ∧ (decN n).getD 0 0 = 48) := by
  intro ⟨h1, h2⟩
  rcases Nat.eq_zero_or_pos n with h | h
  · subst h
    rw [decN_lo (by omega)] at h1
    simp at h1
  · exact decN_head n h h2
theorem decN_ne {n : Nat} {c : UInt8} (hc : isD c = false) : (decN n).getD 0 0 ≠ c := by
  intro e
  have hm : (decN n).getD 0 0 ∈ decN n := by
    rw [List.getD_eq_getElem?_getD, List.getElem?_eq_getElem (decN_pos n)]
    exact List.getElem_mem _
  have := decN_digits n _ hm
  rw [e, hc] at this
  cases this

def optI : Option Nat → Int
  | some n => n
  | none => -1
/-- readDecimal -/
def rdI (l : List UInt8) : Int := if l.length = 0 ∨ l.length > 10 ∨ (l.length > 1 ∧ l.getD 0 0 = 48) then -1 else optI (dval 0 l)
/-- l1Digits -/
def rdS (l : List UInt8) : Int := if l.length = 0 ∨ l.length > 10 then -1 else optI (dval 0 l)
theorem rdI_decN {n : Nat} (h : n < 10 ^ 10) : rdI (decN n) = n := by
  have h1 := decN_pos n
  have h2 := decN_len 10 n h (by omega)
  have h3 := decN_lead n
  unfold rdI
  rw [if_neg (by rintro (h | h | h) <;> first | omega | exact h3 h), dval_decN]
  rfl
theorem rdS_decN {n : Nat} (h : n < 10 ^ 10) : rdS (decN n) = n := by
  have h1 := decN_pos n
  have h2 := decN_len 10 n h (by omega)
  unfold rdS
  rw [if_neg (by omega), dval_decN]
  rfl
theorem optI_bd (o : Option Nat) (k : Nat) (h : ∀ n, o = some n → n < k) : -1 ≤ optI o ∧ (optI o < k ∨ o = none) := by
  cases o with
  | none => exact ⟨Int.le_refl _, .inr rfl⟩
  | some n => have := h n rfl; exact ⟨by simp only [optI]; omega, .inl (by simp only [optI]; omega)⟩
theorem dval_bd {l : List UInt8} (h : l.length ≤ 10) : -1 ≤ optI (dval 0 l) ∧ optI (dval 0 l) < 10000000000 := by
  cases hd : dval 0 l with
  | none => exact ⟨by decide, by decide⟩
  | some m =>
    have h1 := dval_lt l 0 m hd
    have h2 : 10 ^ l.length ≤ 10 ^ 10 := Nat.pow_le_pow_right (by omega) h
    simp only [optI]
    omega
theorem rdI_bd (l : List UInt8) : -1 ≤ rdI l ∧ rdI l < 10000000000 := by
  unfold rdI
  split
  · exact ⟨by decide, by decide⟩
  · exact dval_bd (by omega)
theorem rdS_bd (l : List UInt8) : -1 ≤ rdS l ∧ rdS l < 10000000000 := by
  unfold rdS
  split
  · exact ⟨by decide, by decide⟩
  · exact dval_bd (by omega)

/-- A text cut at each place where a sign stands. -/
def sp1 (c : UInt8) : List UInt8 → List (List UInt8)
  | [] => [[]]
  | b :: l => if b = c then [] :: sp1 c l else match sp1 c l with
    | [] => [[b]]
    | x :: xs => (b :: x) :: xs
theorem sp1_ne (c : UInt8) : ∀ l, sp1 c l ≠ []
  | [] => by simp [sp1]
  | b :: l => by
    rw [sp1]
    split
    · simp
    · split <;> simp
theorem sp1_free (c : UInt8) : ∀ l, c ∉ l → sp1 c l = [l]
  | [], _ => rfl
  | b :: l, h => by
    rw [sp1, if_neg (show ¬ b = c from fun e => h (by rw [e]; exact List.mem_cons_self)), sp1_free c l (fun h1 => h (List.mem_cons_of_mem _ h1))]
theorem sp1_cut (c : UInt8) : ∀ x r, c ∉ x → sp1 c (x ++ c :: r) = x :: sp1 c r
  | [], r, _ => by rw [List.nil_append, sp1, if_pos rfl]
  | b :: l, r, h => by
    rw [List.cons_append, sp1, if_neg (show ¬ b = c from fun e => h (by rw [e]; exact List.mem_cons_self)), sp1_cut c l r (fun h1 => h (List.mem_cons_of_mem _ h1))]
/-- One sign more at the end. -/
theorem sp1_end (c b : UInt8) : ∀ (l : List UInt8) (D : List (List UInt8)) (cur : List UInt8), sp1 c l = D ++ [cur] → sp1 c (l ++ [b]) = if b = c then D ++ [cur, []] else D ++ [cur ++ [b]]
  | [], D, cur, h => by
    have hD : D = [] ∧ cur = [] := by
      cases D with
      | nil => simp [sp1] at h; exact ⟨rfl, h⟩
      | cons d D => simp [sp1] at h
    obtain ⟨rfl, rfl⟩ := hD
    simp only [List.nil_append, sp1]
  | a :: l, D, cur, h => by
    rw [List.cons_append, sp1]
    rw [sp1] at h
    by_cases ha : a = c
    · rw [if_pos ha] at h ⊢
      cases D with
      | nil =>
        simp only [List.nil_append, List.cons.injEq] at h
        exact absurd h.2 (sp1_ne c l)
      | cons d D =>
        simp only [List.cons_append, List.cons.injEq] at h
        rw [← h.1, sp1_end c b l D cur h.2]
        split <;> rfl
    · rw [if_neg ha] at h ⊢
      cases hs : sp1 c l with
      | nil => exact absurd hs (sp1_ne c l)
      | cons x xs =>
        rw [hs] at h
        simp only at h
        cases D with
        | nil =>
          simp only [List.nil_append, List.cons.injEq] at h
          obtain ⟨h1, rfl⟩ := h
          have := sp1_end c b l [] x (by rw [hs]; rfl)
          rw [this]
          subst h1
          by_cases hb : b = c
          · simp [hb]
          · simp [hb]
        | cons d D =>
          simp only [List.cons_append, List.cons.injEq] at h
          obtain ⟨h1, rfl⟩ := h
          have := sp1_end c b l (x :: D) cur (by rw [hs]; rfl)
          rw [this, ← h1]
          by_cases hb : b = c
          · simp [hb]
          · simp [hb]

/-- What ParseNumber of the implementation tries: -1 for nothing. -/
def cutV (l : List UInt8) : List UInt8 × List UInt8 × Bool := Lib.cut l [47]
def quoI (t : List UInt8) : Int := if rdI (cutV t).1 < 0 ∨ (if (cutV t).2.2 then rdI (cutV t).2.1 else 1) < 1 then -1 else M.frac (rdI (cutV t).1) (if (cutV t).2.2 then rdI (cutV t).2.1 else 1)
def valI (s : List UInt8) : Int :=
  if s.getD 0 0 = 35 then rdI (s.drop 1)
  else if s.getD 0 0 = 45 then (if quoI (s.drop 1) < 0 then -1 else M.res (-(quoI (s.drop 1)))) else quoI s
/-- What ParseNumber of the specification tries. -/
def quoS (g : Int) (t : List UInt8) : Int :=
  if rdS ((sp1 47 t).getD 0 []) < 0 ∨ (if (sp1 47 t).length > 1 then rdS ((sp1 47 t).getD 1 []) else 1) < 0 ∨ (sp1 47 t).length > 2 then -1
  else M.frac (g * rdS ((sp1 47 t).getD 0 [])) (if (sp1 47 t).length > 1 then rdS ((sp1 47 t).getD 1 []) else 1)
def valS (s : List UInt8) : Int :=
  if s.getD 0 0 = 35 then rdS (s.drop 1)
  else if s.getD 0 0 = 45 then quoS (-1) (s.drop 1) else quoS 1 s
/-- The number that a text is. -/
def pnOk (v : Int) (s : List UInt8) : Bool := M.isNum v && decide (fmtN v = s)
theorem frac_of {n a : Int} {b : Nat} (hn : M.num n) (h : n * b % M.P = a % M.P) (h1 : 1 ≤ b) (h2 : b ≤ 9999) : M.frac a b = n := by
  have hb : (b : Int) % M.P ≠ 0 := by
    have hP : M.P = 1000000271 := rfl
    rw [hP, Int.emod_eq_of_lt (by omega) (by omega)]
    omega
  have h3 := M.mul_inv hb
  unfold M.frac M.times
  rw [← M.mul_l, ← h, M.mul_l, Int.mul_assoc, ← M.mul_r, h3, Int.mul_one]
  exact M.res_of_num hn
theorem index_one_free (c : UInt8) : ∀ l : List UInt8, c ∉ l → Lib.index l [c] = -1
  | [], _ => rfl
  | b :: l, h => by
    rw [Lib.index, index_one_free c l (fun h1 => h (List.mem_cons_of_mem _ h1))]
    rw [if_neg (by
      intro e
      simp only [List.isPrefixOf, Bool.and_true, beq_iff_eq] at e
      exact h (e ▸ List.mem_cons_self))]
    rfl
theorem index_one_cut (c : UInt8) : ∀ (x r : List UInt8), c ∉ x → Lib.index (x ++ c :: r) [c] = x.length
  | [], r, _ => by
    rw [List.nil_append, Lib.index, if_pos (by simp [List.isPrefixOf])]
    rfl
  | b :: l, r, h => by
    rw [List.cons_append, Lib.index, index_one_cut c l r (fun h1 => h (List.mem_cons_of_mem _ h1))]
    rw [if_neg (by
      intro e
      simp only [List.isPrefixOf, Bool.and_true, beq_iff_eq] at e
      exact h (e ▸ List.mem_cons_self))]
    rw [if_neg (by simp only [beq_iff_eq]; omega)]
    rw [List.length_cons]; omega
theorem cutV_free {l : List UInt8} (h : (47 : UInt8) ∉ l) : cutV l = (l, [], false) := by
  unfold cutV Lib.cut
  rw [index_one_free _ _ h, if_neg (by omega)]
theorem cutV_cut {x r : List UInt8} (h : (47 : UInt8) ∉ x) : cutV (x ++ 47 :: r) = (x, r, true) := by
  unfold cutV Lib.cut
  rw [index_one_cut _ _ _ h, if_pos (by omega), Int.toNat_natCast, List.take_left', List.drop_append]
  · simp
  · rfl
theorem decN_no (n : Nat) {c : UInt8} (hc : isD c = false) : c ∉ decN n := fun h => by
  have := decN_digits n c h
  rw [hc] at this
  cases this
/-- the parts of a fraction's text -/
def fracT (a b : Nat) : List UInt8 := if b = 1 then decN a else decN a ++ 47 :: decN b
theorem quoI_frac {a b : Nat} (ha : a ≤ 9999) (h1 : 1 ≤ b) (hb : b ≤ 9999) : quoI (fracT a b) = M.frac a b := by
  have hs := decN_no a (c := 47) (by decide)
  unfold quoI fracT
  by_cases h : b = 1
  · subst h
    rw [if_pos rfl, cutV_free hs]
    simp only [rdI_decN (show a < 10 ^ 10 by omega)]
    rw [if_neg (by simp)]
    rfl
  · rw [if_neg h, cutV_cut hs]
    simp only [rdI_decN (show a < 10 ^ 10 by omega), rdI_decN (show b < 10 ^ 10 by omega), if_true]
    rw [if_neg (by omega)]
theorem quoS_frac (g : Int) {a b : Nat} (ha : a ≤ 9999) (h1 : 1 ≤ b) (hb : b ≤ 9999) : quoS g (fracT a b) = M.frac (g * a) b := by
  have hs := decN_no a (c := 47) (by decide)
  have ht := decN_no b (c := 47) (by decide)
  unfold quoS fracT
  by_cases h : b = 1
  · subst h
    rw [if_pos rfl, sp1_free 47 _ hs]
    simp only [List.getD_cons_zero, List.length_cons, List.length_nil, rdS_decN (show a < 10 ^ 10 by omega)]
    rw [if_neg (by simp)]
    simp
  · rw [if_neg h, sp1_cut 47 _ _ hs, sp1_free 47 _ ht]
    simp only [List.getD_cons_zero, List.getD_cons_succ, List.length_cons, List.length_nil, rdS_decN (show a < 10 ^ 10 by omega), rdS_decN (show b < 10 ^ 10 by omega)]
    rw [if_neg (by simp)]
    simp
theorem fracT_head (a b : Nat) {c : UInt8} (hc : isD c = false) : (fracT a b).getD 0 0 ≠ c := by
  unfold fracT
  split
  · exact decN_ne hc
  · rw [getD_app _ (decN_pos _)]; exact decN_ne hc
theorem small_cong {n : Int} {b : Nat} {a : Int} (h : small n b = some a) : n * b % M.P = a % M.P := by
  unfold small at h
  simp only at h
  split at h
  · cases h; rw [M.mod_mod]
  · split at h
    · cases h
      rw [Int.sub_emod_right, M.mod_mod]
    · cases h
theorem fmtGo_cases {n : Int} : ∀ f b, 1 ≤ b → b + f ≤ 10000 →
    (∃ (a c : Nat), a ≤ 9999 ∧ 1 ≤ c ∧ c ≤ 9999 ∧ n * c % M.P = (a : Int) % M.P ∧ fmtGo n b f = fracT a c) ∨
    (∃ (a c : Nat), a ≤ 9999 ∧ 1 ≤ c ∧ c ≤ 9999 ∧ n * c % M.P = (-(a : Int)) % M.P ∧ fmtGo n b f = 45 :: fracT a c) ∨ fmtGo n b f = 35 :: decN n.toNat
  | 0, b, _, _ => .inr (.inr rfl)
  | f + 1, b, h1, hb => by
    unfold fmtGo
    cases hs : small n b with
    | none => exact fmtGo_cases f (b + 1) (by omega) (by omega)
    | some a =>
      obtain ⟨a0, a1⟩ := small_bd hs
      have hc := small_cong hs
      by_cases hneg : a < 0
      · refine .inr (.inl ⟨a.natAbs, b, by omega, h1, by omega, by rw [hc, show -(a.natAbs : Int) = a by omega], ?_⟩)
        simp only
        unfold decI fracT
        rw [if_pos hneg]
        split <;> rfl
      · refine .inl ⟨a.toNat, b, by omega, h1, by omega, by rw [hc, show (a.toNat : Int) = a by omega], ?_⟩
        simp only
        unfold decI fracT
        rw [if_neg hneg]
theorem frac_neg (x b : Int) : M.res (-(M.frac x b)) = M.frac (-x) b := by
  unfold M.frac M.times M.res
  rw [Int.neg_mul, show -(x * M.inv b % M.P) = 0 - x * M.inv b % M.P by omega, M.sub_r]
  congr 1
  omega
theorem vals_fmt {n : Int} (hn : M.num n) : valI (fmtN n) = n ∧ valS (fmtN n) = n := by
  unfold fmtN
  rw [M.isNum_true hn, if_pos rfl]
  have hnn : n.toNat < 10 ^ 10 ∧ (n.toNat : Int) = n := by
    have : M.P = 1000000271 := rfl
    obtain ⟨h1, h2⟩ := hn
    omega
  rcases fmtGo_cases (n := n) 9999 1 (by omega) (by omega) with ⟨a, c, h1, h2, h3, h4, h5⟩ | ⟨a, c, h1, h2, h3, h4, h5⟩ | h5
  · rw [h5]
    unfold valI valS
    rw [if_neg (fracT_head a c (by decide)), if_neg (fracT_head a c (by decide)), if_neg (fracT_head a c (by decide)), if_neg (fracT_head a c (by decide)), quoI_frac h1 h2 h3, quoS_frac 1 h1 h2 h3, Int.one_mul]
    exact ⟨frac_of hn h4 h2 h3, frac_of hn h4 h2 h3⟩
  · rw [h5]
    unfold valI valS
    simp only [List.getD_cons_zero, List.drop_succ_cons, List.drop_zero]
    rw [if_neg (show ¬ (45 : UInt8) = 35 by decide), if_pos trivial, if_neg (show ¬ (45 : UInt8) = 35 by decide), if_pos trivial, quoI_frac h1 h2 h3, quoS_frac (-1) h1 h2 h3, frac_neg]
    have hf := M.num_frac (a : Int) c
    rw [if_neg (by have := hf.1; omega)]
    refine ⟨frac_of hn h4 h2 h3, ?_⟩
    rw [show (-1 : Int) * (a : Int) = -(a : Int) by omega]
    exact frac_of hn h4 h2 h3
  · rw [h5]
    unfold valI valS
    simp only [List.getD_cons_zero, List.drop_succ_cons, List.drop_zero]
    rw [if_pos trivial, if_pos trivial, rdI_decN hnn.1, rdS_decN hnn.1]
    exact ⟨hnn.2, hnn.2⟩
/-- The number of a text, and whether it is one. -/
def pnB (s : List UInt8) : Bool := pnOk (valI s) s
def pnV (s : List UInt8) : Int := if pnB s then valI s else 0
theorem pn_of {v : Int} {s : List UInt8} (h : pnOk v s = true) : M.num v ∧ fmtN v = s := by
  unfold pnOk at h
  simp only [Bool.and_eq_true, decide_eq_true_eq] at h
  exact ⟨M.num_of_isNum h.1, h.2⟩
theorem pn_same (s : List UInt8) : pnOk (valS s) s = pnB s ∧ (pnB s = true → valS s = valI s) := by
  have key : ∀ v, pnOk v s = true → valI s = v ∧ valS s = v := by
    intro v h
    obtain ⟨h1, h2⟩ := pn_of h
    rw [← h2]
    exact vals_fmt h1
  refine ⟨?_, fun h => ?_⟩
  · unfold pnB
    cases h : pnOk (valS s) s with
    | true => rw [(key _ h).1, h]
    | false =>
      cases h2 : pnOk (valI s) s with
      | false => rfl
      | true => rw [(key _ h2).2, h2] at h; cases h
  · exact (key _ h).2
theorem pnV_fmt {n : Int} (hn : M.num n) : pnB (fmtN n) = true ∧ pnV (fmtN n) = n := by
  have h : pnB (fmtN n) = true := by
    unfold pnB pnOk
    rw [(vals_fmt hn).1, M.isNum_true hn]
    simp
  exact ⟨h, by unfold pnV; rw [if_pos h, (vals_fmt hn).1]⟩
theorem pnV_num (s : List UInt8) : M.num (pnV s) := by
  unfold pnV
  split
  · rename_i h; exact (pn_of h).1
  · exact ⟨by decide, by decide⟩
end Go.Proofs.YthebegfceaehfaaDoor
