/- Merged texts: PtL, Fill, ChL, PermL. -/
import Derived.Test.YthebegfceaehfaaDoorKt5
import Derived.Test.YthebegfceaehfaaDoorKt8
import Derived.Test.YthebegfceaehfaaDoorKt7
import Derived.Lib.CountLaws
/- PtL: ParseTableau: the plain law. -/
namespace Go.Proofs.YthebegfceaehfaaDoor
open Go.RowKit

abbrev sepP : List UInt8 := [32, 124, 32]
abbrev noneT : List UInt8 := [110, 111, 110, 101]
def catP (rs : List (List UInt8)) (b : List UInt8) : List UInt8 := rs.flatMap (· ++ sepP) ++ b
theorem catP_cons (r : List UInt8) (rs : List (List UInt8)) (b : List UInt8) : catP (r :: rs) b = r ++ 32 :: 124 :: 32 :: catP rs b := by simp [catP, sepP]
theorem catP_nil (b : List UInt8) : catP [] b = b := by simp [catP]
theorem occ_pre {l : List UInt8} {j : Nat} (h : Lib.occAt l sepP j = true) : ∃ t, sepP ++ t = l.drop j := List.isPrefixOf_iff_prefix.1 h
theorem occ_mem {l : List UInt8} {j : Nat} (h : Lib.occAt l sepP j = true) : (124 : UInt8) ∈ l := by
  obtain ⟨t, ht⟩ := occ_pre h
  exact List.mem_of_mem_drop (i := j) (by rw [← ht]; simp [sepP])
theorem index_free {l : List UInt8} (h : (124 : UInt8) ∉ l) : Lib.index l sepP = -1 := Lib.index_none fun j _ => by
  cases e : Lib.occAt l sepP j with
  | false => rfl
  | true => exact absurd (occ_mem e) h
theorem index_cutP {r t : List UInt8} (h : (124 : UInt8) ∉ r) : Lib.index (r ++ 32 :: 124 :: 32 :: t) sepP = r.length := by
  refine Lib.index_first (i := r.length) (by simp) ?_ fun j hj => ?_
  · unfold Lib.occAt; rw [List.drop_left]; simp [List.isPrefixOf]
  · cases e : Lib.occAt (r ++ 32 :: 124 :: 32 :: t) sepP j with
    | false => rfl
    | true =>
      obtain ⟨t', ht'⟩ := occ_pre e
      have h1 : ((r ++ 32 :: 124 :: 32 :: t).drop j)[1]? = some 124 := by rw [← ht']; rfl
      rw [List.getElem?_drop] at h1
      by_cases hj1 : j + 1 < r.length
      · rw [List.getElem?_append_left hj1] at h1
        exact absurd (List.mem_of_getElem? h1) h
      · rw [show j + 1 = r.length by omega, List.getElem?_append_right (Nat.le_refl _), Nat.sub_self] at h1
        exact absurd h1 (by simp)
/-- A text cut at " | ". -/
def splitP (l : List UInt8) : List (List UInt8) := Lib.splitK sepP 0 (Lib.count l sepP) l
theorem splitP_cat : ∀ (rs : List (List UInt8)) (b : List UInt8), (∀ r ∈ rs, (124 : UInt8) ∉ r) → (124 : UInt8) ∉ b → splitP (catP rs b) = rs ++ [b]
  | [], b, _, hb => by
    unfold splitP
    rw [catP_nil, Lib.count_miss (index_free hb)]
    rfl
  | r :: rs, b, hr, hb => by
    have hi := index_cutP (t := catP rs b) (hr r List.mem_cons_self)
    have hd : (r ++ 32 :: 124 :: 32 :: catP rs b).drop (r.length + sepP.length) = catP rs b := by
      rw [← List.drop_drop, List.drop_left]; rfl
    have ih := splitP_cat rs b (fun x hx => hr x (List.mem_cons_of_mem _ hx)) hb
    unfold splitP at ih ⊢
    rw [catP_cons, Lib.count_hit (by decide) hi, hd, Nat.add_comm, Lib.splitK, hi, if_neg (by simp only [beq_iff_eq]; omega), Int.toNat_natCast, Nat.add_zero, List.take_left, hd, ih]
    rfl
theorem splitK_cat : ∀ (k : Nat) (l : List UInt8), ∃ rs b, Lib.splitK sepP 0 k l = rs ++ [b] ∧ catP rs b = l
  | 0, l => ⟨[], l, rfl, catP_nil l⟩
  | k + 1, l => by
    rw [Lib.splitK]
    rcases Lib.index_spec l sepP with ⟨h1, _⟩ | ⟨i, h1, h2, h3, _⟩
    · rw [h1]
      exact ⟨[], l, rfl, catP_nil l⟩
    · rw [h1, if_neg (by simp only [beq_iff_eq]; omega), Int.toNat_natCast, Nat.add_zero]
      obtain ⟨rs, b, e1, e2⟩ := splitK_cat k (l.drop (i + sepP.length))
      refine ⟨l.take i :: rs, b, by rw [e1]; rfl, ?_⟩
      obtain ⟨t, ht⟩ := occ_pre h3
      rw [catP_cons, e2, ← List.drop_drop, ← ht]
      conv => rhs; rw [← List.take_append_drop i l, ← ht]
      rfl

/-! ### words -/
theorem join_cc (c : UInt8) (w v : List UInt8) (ws : List (List UInt8)) : Lib.join (w :: v :: ws) [c] = w ++ c :: Lib.join (v :: ws) [c] := by
  rw [Lib.join_cons, Lib.join_cons]
  simp [Lib.joinTail]
theorem sp1_join (c : UInt8) : ∀ l : List UInt8, Lib.join (sp1 c l) [c] = l
  | [] => by rw [sp1, Lib.join_one]
  | b :: l => by
    have ih := sp1_join c l
    rw [sp1]
    cases hs : sp1 c l with
    | nil => exact absurd hs (sp1_ne c l)
    | cons x xs =>
      rw [hs] at ih
      by_cases hb : b = c
      · rw [if_pos hb, join_cc, ih, hb]; rfl
      · rw [if_neg hb]
        show Lib.join ((b :: x) :: xs) [c] = b :: l
        rw [Lib.join_cons] at ih ⊢
        rw [List.cons_append, ih]
theorem sp1_words (c : UInt8) : ∀ ws : List (List UInt8), ws ≠ [] → (∀ w ∈ ws, c ∉ w) → sp1 c (Lib.join ws [c]) = ws
  | [], h, _ => absurd rfl h
  | [w], _, h => by rw [Lib.join_one]; exact sp1_free c w (h w List.mem_cons_self)
  | w :: v :: ws, _, h => by
    rw [join_cc, sp1_cut c _ _ (h w List.mem_cons_self), sp1_words c (v :: ws) (by simp) (fun x hx => h x (List.mem_cons_of_mem _ hx))]
theorem join_no {c d : UInt8} (hd : c ≠ d) : ∀ ws : List (List UInt8), (∀ w ∈ ws, c ∉ w) → c ∉ Lib.join ws [d]
  | [], _ => by rw [Lib.join_nil]; simp
  | [w], h => by rw [Lib.join_one]; exact h w List.mem_cons_self
  | w :: v :: ws, h => by
    rw [join_cc]
    simp only [List.mem_append, List.mem_cons, not_or]
    exact ⟨h w List.mem_cons_self, hd, join_no hd (v :: ws) (fun x hx => h x (List.mem_cons_of_mem _ hx))⟩
theorem fmtN_no {n : Int} (hn : M.num n) {c : UInt8} (hc : isD c = false) (h1 : c ≠ 45) (h2 : c ≠ 47) (h3 : c ≠ 35) : c ∉ fmtN n := by
  unfold fmtN
  rw [M.isNum_true hn, if_pos rfl]
  have hf : ∀ a b, c ∉ fracT a b := fun a b => by
    unfold fracT
    split
    · exact decN_no _ hc
    · simp only [List.mem_append, List.mem_cons, not_or]; exact ⟨decN_no _ hc, h2, decN_no _ hc⟩
  rcases fmtGo_cases (n := n) 9999 1 (by omega) (by omega) with ⟨a, d, _, _, _, _, h⟩ | ⟨a, d, _, _, _, _, h⟩ | h <;> rw [h]
  · exact hf _ _
  · simp only [List.mem_cons, not_or]; exact ⟨h1, hf _ _⟩
  · simp only [List.mem_cons, not_or]; exact ⟨h3, decN_no _ hc⟩
theorem fmtNs_all {xs : List Int} (h : ∀ x ∈ xs, M.num x) : fmtNs xs = Lib.join (xs.map fmtN) [32] := by unfold fmtNs; rw [M.allNum_of h, if_pos rfl]
theorem pnsL_yes {p : List UInt8} (h : pnsB p = true) : pnsL p = (sp1 32 p).map pnV := by unfold pnsL; rw [if_pos h]
theorem pns_fmt {xs : List Int} (h0 : xs ≠ []) (h : ∀ x ∈ xs, M.num x) : pnsB (fmtNs xs) = true ∧ pnsL (fmtNs xs) = xs ∧ (124 : UInt8) ∉ fmtNs xs := by
  have hs : sp1 32 (fmtNs xs) = xs.map fmtN := by
    rw [fmtNs_all h]
    refine sp1_words 32 _ (by simpa using h0) fun w hw => ?_
    obtain ⟨x, hx, rfl⟩ := List.mem_map.1 hw
    exact fmtN_no (h x hx) (by decide) (by decide) (by decide) (by decide)
  have hB : pnsB (fmtNs xs) = true := by
    unfold pnsB
    rw [hs, List.all_map]
    exact List.all_eq_true.2 fun x hx => (pnV_fmt (h x hx)).1
  refine ⟨hB, ?_, ?_⟩
  · rw [pnsL_yes hB, hs, List.map_map]
    conv => rhs; rw [← List.map_id xs]
    exact List.map_congr_left fun x hx => (pnV_fmt (h x hx)).2
  · rw [fmtNs_all h]
    refine join_no (by decide) _ fun w hw => ?_
    obtain ⟨x, hx, rfl⟩ := List.mem_map.1 hw
    exact fmtN_no (h x hx) (by decide) (by decide) (by decide) (by decide)
theorem pnB_fmt {t : List UInt8} (h : pnB t = true) : fmtN (pnV t) = t := by
  unfold pnV
  rw [if_pos h]
  exact (pn_of h).2
theorem pns_back {p : List UInt8} (h : pnsB p = true) : fmtNs (pnsL p) = p ∧ ∀ x ∈ pnsL p, M.num x := by
  have hn : ∀ x ∈ pnsL p, M.num x := fun x hx => by
    rw [pnsL_yes h] at hx
    obtain ⟨t, _, rfl⟩ := List.mem_map.1 hx
    exact pnV_num t
  refine ⟨?_, hn⟩
  rw [fmtNs_all hn, pnsL_yes h, List.map_map]
  have : (sp1 32 p).map (fmtN ∘ pnV) = sp1 32 p := by
    conv => rhs; rw [← List.map_id (sp1 32 p)]
    exact List.map_congr_left fun t ht => pnB_fmt (List.all_eq_true.1 h t ht)
  rw [this, sp1_join]

/-! ### cut at the sign alone -/
def pipes : List UInt8 → List (List UInt8) → List UInt8 → List (List UInt8)
  | pre, [], b => [pre ++ b]
  | pre, r :: rs, b => (pre ++ r ++ [32]) :: pipes [32] rs b
theorem sp1_pipes : ∀ (rs : List (List UInt8)) (pre b : List UInt8), (124 : UInt8) ∉ pre → (∀ r ∈ rs, (124 : UInt8) ∉ r) → (124 : UInt8) ∉ b → sp1 124 (pre ++ catP rs b) = pipes pre rs b
  | [], pre, b, h1, _, h3 => by
    rw [catP_nil]
    exact sp1_free _ _ (by simp only [List.mem_append, not_or]; exact ⟨h1, h3⟩)
  | r :: rs, pre, b, h1, h2, h3 => by
    rw [catP_cons, show pre ++ (r ++ 32 :: 124 :: 32 :: catP rs b) = (pre ++ r ++ [32]) ++ 124 :: ([32] ++ catP rs b) by simp, sp1_cut _ _ _ ?_, sp1_pipes rs [32] b (by decide) (fun x hx => h2 x (List.mem_cons_of_mem _ hx)) h3]
    · rfl
    · simp only [List.mem_append, not_or]
      exact ⟨⟨h1, h2 r List.mem_cons_self⟩, by decide⟩
theorem pipes_len : ∀ (rs : List (List UInt8)) (pre b : List UInt8), (pipes pre rs b).length = rs.length + 1
  | [], _, _ => rfl
  | _ :: rs, _, b => by rw [pipes, List.length_cons, pipes_len rs [32] b, List.length_cons]
theorem pipes_get : ∀ (rs : List (List UInt8)) (pre b : List UInt8) (i : Nat), i ≤ rs.length → (pipes pre rs b).getD i [] = (if 0 < i then [32] else pre) ++ ((rs ++ [b]).getD i [] ++ if i < rs.length then [32] else [])
  | [], pre, b, i, h => by
    obtain rfl : i = 0 := by simpa using h
    simp [pipes]
  | r :: rs, pre, b, 0, _ => by simp [pipes]
  | r :: rs, pre, b, i + 1, h => by
    have := pipes_get rs [32] b i (by simpa using h)
    simp only [pipes, List.getD_cons_succ, List.cons_append, List.length_cons, Nat.add_lt_add_iff_right, this, Nat.zero_lt_succ, if_pos]
    split <;> rfl
def ptTrim (N i : Nat) (p : List UInt8) : List UInt8 := if i + 1 < N then (if 0 < i then p.drop 1 else p).dropLast else if 0 < i then p.drop 1 else p
theorem trim_pipes {rs : List (List UInt8)} {b : List UInt8} {i : Nat} (h : i ≤ rs.length) : ptTrim (rs.length + 1) i ((pipes [] rs b).getD i []) = (rs ++ [b]).getD i [] := by
  rw [pipes_get rs [] b i h]
  unfold ptTrim
  have e : (if 0 < i then ((if 0 < i then [32] else []) ++ ((rs ++ [b]).getD i [] ++ if i < rs.length then [32] else [])).drop 1 else (if 0 < i then [32] else []) ++ ((rs ++ [b]).getD i [] ++ if i < rs.length then [32] else [])) = (rs ++ [b]).getD i [] ++ (if i < rs.length then [32] else [] : List UInt8) := by
    by_cases h0 : 0 < i
    · simp only [if_pos h0]; rfl
    · simp only [if_neg h0]; rfl
  rw [e]
  by_cases h1 : i < rs.length
  · rw [if_pos (by omega), if_pos h1, List.dropLast_concat]
  · rw [if_neg (by omega), if_neg h1, List.append_nil]

/-! ### both sides -/
def ptRow (S : Nat) (p : List UInt8) : Bool := pnsB p && decide ((pnsL p).length = S)
def ptI (l : List UInt8) : Tb :=
  if l = noneT then ⟨0, [], [], true⟩
  else if 1 ≤ (splitP l).length - 1 ∧ (splitP l).length - 1 ≤ 8 ∧ (splitP l).all (ptRow ((splitP l).length - 1)) = true then
    ⟨((splitP l).length - 1 : Nat), ((splitP l).take ((splitP l).length - 1)).flatMap pnsL, pnsL ((splitP l).getD ((splitP l).length - 1) []), true⟩
  else Tb.none
def ptSt (l : List UInt8) : Nat := (sp1 124 l).length - 1
def ptN (l : List UInt8) (i : Nat) : List Int := pnsL (ptTrim (sp1 124 l).length i ((sp1 124 l).getD i []))
def ptA (l : List UInt8) (k : Nat) : List Int := (List.range k).flatMap (ptN l)
def ptS (l : List UInt8) : Tb :=
  if l = noneT then ⟨0, [], [], true⟩
  else if l = [] ∨ fmtTab (ptSt l : Nat) (ptA l (ptSt l)) (ptN l (ptSt l)) ≠ bs l then Tb.none
  else ⟨(ptSt l : Nat), ptA l (ptSt l), ptN l (ptSt l), true⟩
theorem rows_all {A : List Int} {S : Nat} : ∀ k, (List.range k).flatMap (rowL A S) = A.take (k * S)
  | 0 => by simp
  | k + 1 => by
    rw [List.range_succ, List.flatMap_append, rows_all k, List.flatMap_cons, List.flatMap_nil, List.append_nil, Nat.succ_mul, List.take_add]
    rfl
theorem rowL_lenS {A : List Int} {S i : Nat} (hA : A.length = S * S) (hi : i < S) : (rowL A S i).length = S := by
  unfold rowL
  have : (i + 1) * S ≤ S * S := Nat.mul_le_mul_right S hi
  rw [Nat.succ_mul] at this
  rw [List.length_take, List.length_drop]
  omega
theorem rowsT_cat (A : List Int) (S : Nat) (b : List UInt8) : rowsT A S S ++ b = catP ((List.range S).map fun i => fmtNs (rowL A S i)) b := by
  unfold rowsT catP
  rw [List.flatMap_map]
  rfl
/-- A tableau's text is read back by both. -/
theorem pt_key {S : Nat} {A B : List Int} {l : List UInt8} (h1 : 1 ≤ S) (h8 : S ≤ 8) (hA : A.length = S * S) (hB : B.length = S) (nA : ∀ x ∈ A, M.num x) (nB : ∀ x ∈ B, M.num x) (hl : l = rowsT A S S ++ fmtNs B) :
    l ≠ noneT ∧ l ≠ [] ∧ ptI l = ⟨(S : Nat), A, B, true⟩ ∧ ptSt l = S ∧ ptA l S = A ∧ ptN l S = B := by
  have hrow : ∀ i, i < S → pnsB (fmtNs (rowL A S i)) = true ∧ pnsL (fmtNs (rowL A S i)) = rowL A S i ∧ (124 : UInt8) ∉ fmtNs (rowL A S i) := fun i hi =>
    pns_fmt (fun e => by have := rowL_lenS hA hi; rw [e] at this; simp at this; omega) fun x hx => nA x (List.mem_of_mem_drop (List.mem_of_mem_take hx))
  have hb := pns_fmt (xs := B) (fun e => by rw [e] at hB; simp at hB; omega) nB
  obtain ⟨rs, hrs⟩ : ∃ rs, rs = (List.range S).map fun i => fmtNs (rowL A S i) := ⟨_, rfl⟩
  have hlen : rs.length = S := by rw [hrs]; simp
  have hfree : ∀ r ∈ rs, (124 : UInt8) ∉ r := fun r hr => by
    rw [hrs] at hr
    obtain ⟨i, hi, rfl⟩ := List.mem_map.1 hr
    exact (hrow i (List.mem_range.1 hi)).2.2
  have hcat : l = catP rs (fmtNs B) := by rw [hl, rowsT_cat, ← hrs]
  have hsp : splitP l = rs ++ [fmtNs B] := by rw [hcat]; exact splitP_cat rs _ hfree hb.2.2
  have hpp : sp1 124 l = pipes [] rs (fmtNs B) := by rw [hcat]; exact sp1_pipes rs [] _ (by simp) hfree hb.2.2
  have hlp : (sp1 124 l).length = rs.length + 1 := by rw [hpp, pipes_len]
  have hpipe : (124 : UInt8) ∈ l := by
    cases rs with
    | nil => simp at hlen; omega
    | cons r rs => rw [hcat, catP_cons]; simp
  have hne : l ≠ noneT := fun e => by rw [e] at hpipe; revert hpipe; decide
  have hget : ∀ i, i < S → (rs ++ [fmtNs B]).getD i [] = fmtNs (rowL A S i) := fun i hi => by
    rw [List.getD_eq_getElem?_getD, List.getElem?_append_left (by omega), hrs, List.getElem?_map, List.getElem?_range hi]; rfl
  have hlast : (rs ++ [fmtNs B]).getD S [] = fmtNs B := by
    rw [List.getD_eq_getElem?_getD, List.getElem?_append_right (by omega), hlen, Nat.sub_self]; rfl
  have hflat : rs.flatMap pnsL = A := by
    rw [hrs, List.flatMap_map]
    have : (List.range S).flatMap (fun i => pnsL (fmtNs (rowL A S i))) = (List.range S).flatMap (rowL A S) := by
      rw [List.flatMap_def, List.flatMap_def]
      congr 1
      exact List.map_congr_left fun i hi => (hrow i (List.mem_range.1 hi)).2.1
    rw [this, rows_all, ← hA, List.take_length]
  have hN : ∀ i, i ≤ S → ptN l i = pnsL ((rs ++ [fmtNs B]).getD i []) := fun i hi => by
    unfold ptN
    rw [hlp, hpp, trim_pipes (by omega)]
  refine ⟨hne, fun e => by rw [e] at hpipe; simp at hpipe, ?_, ?_, ?_, ?_⟩
  · unfold ptI
    rw [if_neg hne, hsp, List.length_append, hlen, List.length_singleton, Nat.add_sub_cancel, if_pos ?_, List.take_left' hlen, hflat, hlast, hb.2.1]
    refine ⟨h1, h8, List.all_eq_true.2 fun p hp => ?_⟩
    unfold ptRow
    rcases List.mem_append.1 hp with hp | hp
    · rw [hrs] at hp
      obtain ⟨i, hi, rfl⟩ := List.mem_map.1 hp
      have hi' := List.mem_range.1 hi
      rw [(hrow i hi').1, (hrow i hi').2.1, rowL_lenS hA hi']
      simp
    · rw [List.mem_singleton.1 hp, hb.1, hb.2.1, hB]
      simp
  · unfold ptSt
    rw [hlp, hlen]; rfl
  · unfold ptA
    have : (List.range S).flatMap (ptN l) = (List.range S).flatMap (rowL A S) := by
      rw [List.flatMap_def, List.flatMap_def]
      congr 1
      refine List.map_congr_left fun i hi => ?_
      have hi' := List.mem_range.1 hi
      rw [hN i (by omega), hget i hi', (hrow i hi').2.1]
    rw [this, rows_all, ← hA, List.take_length]
  · rw [hN S (Nat.le_refl _), hlast, hb.2.1]
theorem tabOk_mk {S : Nat} {A B : List Int} (h8 : S ≤ 8) (hA : A.length = S * S) (hB : B.length = S) (nA : ∀ x ∈ A, M.num x) (nB : ∀ x ∈ B, M.num x) : tabOk S A B = true := by
  rw [tabOk_yes ⟨by omega, by omega, by rw [hA]; simp, by rw [hB]⟩, M.allNum_of nA, M.allNum_of nB]; rfl
theorem flat_len {S : Nat} : ∀ rs : List (List UInt8), (∀ r ∈ rs, (pnsL r).length = S) → (rs.flatMap pnsL).length = rs.length * S
  | [], _ => by simp
  | r :: rs, h => by
    rw [List.flatMap_cons, List.length_append, h r List.mem_cons_self, flat_len rs (fun x hx => h x (List.mem_cons_of_mem _ hx)), List.length_cons, Nat.succ_mul]
    omega
theorem flat_row {S : Nat} : ∀ (rs : List (List UInt8)), (∀ r ∈ rs, (pnsL r).length = S) → ∀ i, i < rs.length → rowL (rs.flatMap pnsL) S i = pnsL (rs.getD i [])
  | [], _, i, hi => by simp at hi
  | r :: rs, h, 0, _ => by
    unfold rowL
    rw [Nat.zero_mul, List.drop_zero, List.flatMap_cons, List.take_left' (h r List.mem_cons_self)]
    rfl
  | r :: rs, h, i + 1, hi => by
    have ih := flat_row rs (fun x hx => h x (List.mem_cons_of_mem _ hx)) i (by simpa using hi)
    unfold rowL at ih ⊢
    rw [List.flatMap_cons, Nat.succ_mul, Nat.add_comm, ← List.drop_drop, List.drop_left' (h r List.mem_cons_self), ih]
    rfl
theorem pt_same (l : List UInt8) : ptS l = ptI l := by
  by_cases hn : l = noneT
  · unfold ptS ptI
    rw [if_pos hn, if_pos hn]
  by_cases hI : 1 ≤ (splitP l).length - 1 ∧ (splitP l).length - 1 ≤ 8 ∧ (splitP l).all (ptRow ((splitP l).length - 1)) = true
  · obtain ⟨h1, h8, hall⟩ := hI
    obtain ⟨rs, b, e1, e2⟩ := splitK_cat (Lib.count l sepP) l
    have e1' : splitP l = rs ++ [b] := e1
    have hS : (splitP l).length - 1 = rs.length := by rw [e1', List.length_append, List.length_singleton, Nat.add_sub_cancel]
    rw [hS] at h1 h8 hall
    have hp : ∀ p ∈ rs ++ [b], pnsB p = true ∧ (pnsL p).length = rs.length := fun p hp => by
      have := List.all_eq_true.1 hall p (by rw [e1']; exact hp)
      unfold ptRow at this
      simpa using this
    have hb := hp b (by simp)
    have hr : ∀ r ∈ rs, pnsB r = true ∧ (pnsL r).length = rs.length := fun r hr => hp r (List.mem_append_left _ hr)
    have hA : (rs.flatMap pnsL).length = rs.length * rs.length := flat_len rs fun r h => (hr r h).2
    have nA : ∀ x ∈ rs.flatMap pnsL, M.num x := fun x hx => by
      obtain ⟨r, h, hx⟩ := List.mem_flatMap.1 hx
      exact (pns_back (hr r h).1).2 x hx
    have nB := (pns_back hb.1).2
    have hrow : ((List.range rs.length).map fun i => fmtNs (rowL (rs.flatMap pnsL) rs.length i)) = rs := by
      refine List.ext_getElem (by simp) fun i h1 h2 => ?_
      rw [List.getElem_map, List.getElem_range, flat_row rs (fun r h => (hr r h).2) i h2]
      rw [List.getD_eq_getElem?_getD, List.getElem?_eq_getElem h2]
      exact (pns_back (hr _ (List.getElem_mem h2)).1).1
    have hl : l = rowsT (rs.flatMap pnsL) rs.length rs.length ++ fmtNs (pnsL b) := by rw [rowsT_cat, hrow, (pns_back hb.1).1, e2]
    obtain ⟨k1, k2, k3, k4, k5, k6⟩ := pt_key h1 h8 hA hb.2 nA nB hl
    rw [k3]
    unfold ptS
    rw [if_neg k1, k4, k5, k6, if_neg]
    rintro (e | e)
    · exact k2 e
    · exact e (by rw [fmtTab_yes (tabOk_mk h8 hA hb.2 nA nB) (by omega), hl])
  · have eI : ptI l = Tb.none := by unfold ptI; rw [if_neg hn, if_neg hI]
    rw [eI]
    unfold ptS
    rw [if_neg hn]
    by_cases h : l = [] ∨ fmtTab (ptSt l : Nat) (ptA l (ptSt l)) (ptN l (ptSt l)) ≠ bs l
    · rw [if_pos h]
    · exfalso
      rw [not_or, Classical.not_not] at h
      obtain ⟨h0, hf⟩ := h
      cases hok : tabOk (ptSt l : Nat) (ptA l (ptSt l)) (ptN l (ptSt l)) with
      | false => rw [fmtTab_no hok] at hf; exact h0 (bs_inj hf).symm
      | true =>
        obtain ⟨S, hS, h8, hA, hB, nA, nB⟩ := tabOk_parts hok rfl rfl
        have hS' : ptSt l = S := by omega
        rw [hS'] at hok hf hA hB nA nB
        by_cases hz : S = 0
        · subst hz
          rw [fmtTab_zero hok] at hf
          exact hn (bs_inj hf).symm
        · rw [fmtTab_yes hok hz] at hf
          have k := (pt_key (by omega) h8 hA hB nA nB (bs_inj hf).symm).2.2.1
          rw [eI] at k
          exact absurd (congrArg Tb.ok k) (by simp [Tb.none])
end Go.Proofs.YthebegfceaehfaaDoor

/- Fill: Lists that are filled place after place. -/
namespace Go.Proofs.YthebegfceaehfaaDoor
open Go.RowKit

/-- The first n values of f. -/
def firstN (f : Nat → Int) (n : Nat) : List Int := (List.range n).map f
theorem firstN_succ (f : Nat → Int) (n : Nat) : firstN f (n + 1) = firstN f n ++ [f n] := by simp [firstN, List.range_succ]
theorem firstN_len (f : Nat → Int) (n : Nat) : (firstN f n).length = n := by simp [firstN]
theorem firstN_set {f g : Nat → Int} {n q : Nat} {v : Int} (hv : g q = v) (h : ∀ p, p < n → p ≠ q → g p = f p) : (firstN f n).set q v = firstN g n := by
  apply List.ext_getElem
  · simp [firstN]
  · intro i h1 h2
    rw [List.getElem_set]
    simp only [firstN, List.length_map, List.length_range] at h2
    by_cases e : q = i
    · subst e; simp [firstN, hv]
    · rw [if_neg e]
      simp only [firstN, List.getElem_map, List.getElem_range]
      exact (h i h2 (Ne.symm e)).symm
theorem firstN_zero {f : Nat → Int} {n : Nat} (h : ∀ p, p < n → f p = 0) : List.replicate n 0 = firstN f n := by
  apply List.ext_getElem
  · simp [firstN]
  · intro i h1 h2
    simp only [List.length_replicate] at h1
    simp [firstN, h i h1]
theorem firstN_congr {f g : Nat → Int} {n : Nat} (h : ∀ p, p < n → f p = g p) : firstN f n = firstN g n := by
  apply List.ext_getElem
  · simp [firstN]
  · intro i h1 _
    simp only [firstN, List.length_map, List.length_range] at h1
    simp [firstN, h i h1]
/-- the last t of N places are filled -/
def backN (f : Nat → Int) (N t : Nat) : List Int := firstN (fun q => if N ≤ q + t then f q else 0) N
theorem backN_zero (f : Nat → Int) (N : Nat) : List.replicate N 0 = backN f N 0 := firstN_zero fun _ _ => if_neg (by omega)
theorem backN_all (f : Nat → Int) (N : Nat) : backN f N N = firstN f N := firstN_congr fun p hp => if_pos (by omega)
theorem backN_set {f : Nat → Int} {N t q : Nat} {v : Int} (hq : q + (t + 1) = N) (hv : f q = v) : (backN f N t).set q v = backN f N (t + 1) :=
  firstN_set (by rw [if_pos (by omega)]; exact hv) fun p _ hne => by
    by_cases e : N ≤ p + t
    · rw [if_pos (by omega), if_pos e]
    · rw [if_neg (by omega), if_neg e]
/-- the first t of N places are filled -/
def headN (f : Nat → Int) (N t : Nat) : List Int := firstN (fun q => if q < t then f q else 0) N
theorem headN_zero (f : Nat → Int) (N : Nat) : List.replicate N 0 = headN f N 0 := firstN_zero fun _ _ => if_neg (by omega)
theorem headN_all (f : Nat → Int) (N : Nat) : headN f N N = firstN f N := firstN_congr fun _ hp => if_pos hp
theorem headN_set {f : Nat → Int} {N t : Nat} {v : Int} (hv : f t = v) : (headN f N t).set t v = headN f N (t + 1) :=
  firstN_set (by rw [if_pos (by omega)]; exact hv) fun p _ hne => by
    by_cases e : p < t
    · rw [if_pos (by omega), if_pos e]
    · rw [if_neg (by omega), if_neg e]

/-! ### AdjointTableau -/
def adjE (A B : List Int) (S q : Nat) : Int := M.minus (B.getD (S - 1 - q % S) 0) (A.getD (S * S - 1 - q) 0)
def revE (B : List Int) (S q : Nat) : Int := B.getD (S - 1 - q) 0
def adjV (s : Int) (A B : List Int) : Tb := if tabOk s A B then ⟨s, firstN (adjE A B s.toNat) (s.toNat * s.toNat), firstN (revE B s.toNat) s.toNat, true⟩ else Tb.none
theorem adjV_yes {S : Nat} {A B : List Int} (h : tabOk S A B = true) : adjV S A B = ⟨S, firstN (adjE A B S) (S * S), firstN (revE B S) S, true⟩ := if_pos h
theorem adjV_no {s : Int} {A B : List Int} (h : tabOk s A B = false) : adjV s A B = Tb.none := if_neg (by rw [h]; simp)
theorem adjV_len (s : Int) (A B : List Int) : (adjV s A B).A.length ≤ 1000 ∧ (adjV s A B).B.length ≤ 1000 := by
  cases hok : tabOk s A B with
  | false => rw [adjV_no hok]; exact ⟨Nat.zero_le _, Nat.zero_le _⟩
  | true =>
    obtain ⟨S, rfl, hS, e1, e2, _⟩ := tabOk_parts hok rfl rfl
    rw [adjV_yes hok]
    simp only [firstN_len]
    have : S * S ≤ 64 := Nat.mul_le_mul hS hS
    omega
/-- where the element of row i, column j lies in the adjoint -/
theorem adj_place {S i j : Nat} (hi : i < S) (hj : j < S) : ((S - 1 - i) * S + (S - 1 - j)) % S = S - 1 - j ∧ (S - 1 - i) * S + (S - 1 - j) + (i * S + j + 1) = S * S := by
  obtain ⟨a, rfl⟩ : ∃ a, S = i + 1 + a := ⟨S - (i + 1), by omega⟩
  have e1 : i + 1 + a - 1 - i = a := by omega
  rw [e1]
  refine ⟨?_, ?_⟩
  · rw [Nat.mul_comm a, Nat.mul_add_mod]; exact Nat.mod_eq_of_lt (by omega)
  · have e2 : (i + 1 + a) * (i + 1 + a) = i * (i + 1 + a) + (i + 1 + a) + a * (i + 1 + a) := by
      rw [Nat.add_mul, Nat.add_mul, Nat.one_mul]
    omega
theorem adj_at {A B : List Int} {S i j : Nat} {x y : Int} (hi : i < S) (hj : j < S) (hx : x = B.getD j 0) (hy : El A S i j y) : adjE A B S ((S - 1 - i) * S + (S - 1 - j)) = M.minus x y := by
  obtain ⟨e1, e2⟩ := adj_place hi hj
  unfold adjE
  rw [e1, show S - 1 - (S - 1 - j) = j by omega, show S * S - 1 - ((S - 1 - i) * S + (S - 1 - j)) = i * S + j by omega, ← hx, ← (show y = A.getD (i * S + j) 0 from hy)]
end Go.Proofs.YthebegfceaehfaaDoor

/- ChL: The stages that are chosen: plain lists. -/
namespace Go.Proofs.YthebegfceaehfaaDoor
open Go.RowKit
def chE (A L : List Int) (S N q : Nat) : Int := A.getD ((L.getD (q / N) 0).toNat * S + (L.getD (q % N) 0).toNat) 0
def chB (B L : List Int) (q : Nat) : Int := B.getD (L.getD q 0).toNat 0
theorem place_div {i j N : Nat} (hj : j < N) : (i * N + j) / N = i ∧ (i * N + j) % N = j := by
  refine ⟨?_, ?_⟩
  · rw [Nat.mul_comm, Nat.mul_add_div (by omega), Nat.div_eq_of_lt hj, Nat.add_zero]
  · rw [Nat.mul_comm, Nat.mul_add_mod]; exact Nat.mod_eq_of_lt hj
theorem chE_at {A L : List Int} {S N i j xi yi : Nat} {x y z : Int} (hj : j < N) (hx : x = L.getD i 0) (hy : y = L.getD j 0) (ex : x = xi) (ey : y = yi) (hz : El A S xi yi z) : chE A L S N (i * N + j) = z := by
  obtain ⟨e1, e2⟩ := place_div (i := i) hj
  unfold chE
  rw [e1, e2, ← hx, ← hy, ex, ey, Int.toNat_natCast, Int.toNat_natCast]
  exact (show z = A.getD (xi * S + yi) 0 from hz).symm
theorem chB_at {B L : List Int} {i xi : Nat} {x z : Int} (hx : x = L.getD i 0) (ex : x = xi) (hz : z = B.getD xi 0) : chB B L i = z := by
  unfold chB
  rw [← hx, ex, Int.toNat_natCast]
  exact hz.symm
theorem mem_at {L : List Int} {i n : Nat} {x : Int} (hl : L.length = n) (hi : i < n) (hx : x = L.getD i 0) : x ∈ L := by
  have h : i < L.length := by omega
  rw [hx, List.getD_eq_getElem?_getD, List.getElem?_eq_getElem h]
  exact List.getElem_mem h
theorem step_bd {i N : Nat} (hi : i < N) (hN : N ≤ 8) : i * N + N ≤ N * N ∧ N * N ≤ 64 := by
  have h1 : (i + 1) * N ≤ N * N := Nat.mul_le_mul (by omega) (Nat.le_refl _)
  have h2 : N * N ≤ 8 * 8 := Nat.mul_le_mul hN hN
  rw [Nat.add_mul, Nat.one_mul] at h1
  omega
end Go.Proofs.YthebegfceaehfaaDoor

/- PermL: PermuteTableau: plain lists; a slice of bools. -/
namespace Go.Proofs.YthebegfceaehfaaDoor
open Go.RowKit

/-- Each element a stage, none of them met before. -/
def permGo (S : Int) : List Int → List Int → Bool
  | _, [] => true
  | seen, x :: xs => (decide (0 ≤ x) && decide (x < S) && !decide (x ∈ seen)) && permGo S (seen ++ [x]) xs
theorem permGo_all {S : Int} : ∀ (xs seen : List Int), permGo S seen xs = true → ∀ x ∈ xs, 0 ≤ x ∧ x < S
  | [], _, _, x, hx => by cases hx
  | y :: ys, seen, h, x, hx => by
    unfold permGo at h
    simp only [Bool.and_eq_true, decide_eq_true_eq] at h
    rcases List.mem_cons.1 hx with rfl | hx
    · exact h.1.1
    · exact permGo_all ys _ h.2 x hx
theorem permGo_step {S : Int} {L : List Int} {k n : Nat} {x : Int} (hl : L.length = n) (hk : k < n) (hx : x = L.getD k 0) :
    permGo S (L.take k) (L.drop k) = ((decide (0 ≤ x) && decide (x < S) && !decide (x ∈ L.take k)) && permGo S (L.take (k + 1)) (L.drop (k + 1))) := by
  have h : k < L.length := by omega
  have hx' : x = L[k] := by rw [hx, List.getD_eq_getElem?_getD, List.getElem?_eq_getElem h]; rfl
  rw [List.drop_eq_getElem_cons h, ← hx']
  rw [show L.take (k + 1) = L.take k ++ [x] by rw [take_snoc 0 L k h, ← hx]]
  rfl
/-- which stages are met -/
def metL (S : Nat) (seen : List Int) : List Bool := (List.range S).map fun (b : Nat) => decide ((b : Int) ∈ seen)
theorem metL_at {S xi : Nat} {seen : List Int} (h : xi < S) : (metL S seen).getD xi false = decide ((xi : Int) ∈ seen) := by
  simp [metL, List.getD, h]
theorem metL_nil (S : Nat) : List.replicate S false = metL S [] := by
  apply List.ext_getElem
  · simp [metL]
  · intro i h1 h2; simp [metL]
theorem metL_set {S xi : Nat} {seen : List Int} : (metL S seen).set xi true = metL S (seen ++ [(xi : Int)]) := by
  apply List.ext_getElem
  · simp [metL]
  · intro i h1 h2
    rw [List.getElem_set]
    simp only [metL, List.getElem_map, List.getElem_range, List.mem_append, List.mem_cons, List.not_mem_nil, or_false]
    by_cases e : xi = i
    · subst e; simp
    · rw [if_neg e]
      have : ¬ (i : Int) = (xi : Int) := by omega
      simp [this]
def permV (s : Int) (A B L : List Int) : Tb :=
  if tabOk s A B && decide ((L.length : Int) = s) && permGo s [] L then ⟨s, firstN (chE A L s.toNat s.toNat) (s.toNat * s.toNat), firstN (chB B L) s.toNat, true⟩ else Tb.none
theorem permV_yes {S : Nat} {A B L : List Int} (h : tabOk S A B = true) (h2 : L.length = S) (h3 : permGo S [] L = true) : permV S A B L = ⟨S, firstN (chE A L S S) (S * S), firstN (chB B L) S, true⟩ := by
  unfold permV
  rw [h, h3, h2]
  simp
theorem permV_no {s : Int} {A B : List Int} (L : List Int) (h : tabOk s A B = false) : permV s A B L = Tb.none := by
  unfold permV; rw [h]; rfl
theorem permV_len' {S : Nat} {A B L : List Int} (h : L.length ≠ S) : permV S A B L = Tb.none := by
  unfold permV
  rw [show decide ((L.length : Int) = (S : Int)) = false by simp; omega]
  simp
theorem permV_bad {s : Int} {A B L : List Int} (h : permGo s [] L = false) : permV s A B L = Tb.none := by
  unfold permV; rw [h]; simp
theorem permV_len (s : Int) (A B L : List Int) : (permV s A B L).A.length ≤ 1000 ∧ (permV s A B L).B.length ≤ 1000 := by
  cases hok : tabOk s A B with
  | false => rw [permV_no L hok]; exact ⟨Nat.zero_le _, Nat.zero_le _⟩
  | true =>
    obtain ⟨S, rfl, hS, e1, e2, _⟩ := tabOk_parts hok rfl rfl
    by_cases h2 : L.length = S
    · cases h3 : permGo S [] L with
      | false => rw [permV_bad h3]; exact ⟨Nat.zero_le _, Nat.zero_le _⟩
      | true =>
        rw [permV_yes hok h2 h3]
        simp only [firstN_len]
        have : S * S ≤ 64 := Nat.mul_le_mul hS hS
        omega
    · rw [permV_len' h2]; exact ⟨Nat.zero_le _, Nat.zero_le _⟩

/-! ### a slice of bools -/
theorem info_bool : (Tryd.prog.info? 4).map (fun i => (i.zero, i.size, i.bytes)) = some (some (.bool false), 1, 1) := by kernel_rfl
def bools (bs : List Bool) : Array Value := (bs.map Value.bool).toArray
/-- The bools of block mb. -/
def Met (w : World) (mb : Nat) (bs : List Bool) : Prop := w.heap[mb]? = some (.cells (bools bs) 4 (0, 0))
theorem Met.at {w : World} {mb : Nat} {bs : List Bool} (h : Met w mb bs) {i : Nat} (hi : i < bs.length) : w.cell? ⟨mb, i, none⟩ = some (.bool (bs.getD i false)) ∧ w.frozen? ⟨mb, i, none⟩ = false := by
  refine ⟨?_, frozen_of_row w _ _ _ _ h⟩
  rw [cell_of_row w mb i _ _ _ h]
  simp [bools, List.getD, hi]
theorem Met.set {w : World} {mb : Nat} {bs : List Bool} (h : Met w mb bs) (i : Nat) : Met (w.setCell ⟨mb, i, none⟩ (.bool true)) mb (bs.set i true) := by
  unfold Met
  rw [heap_setCell_same _ _ _ _ _ _ h]
  congr 2
  apply Array.toList_inj.1
  simp [bools]
theorem metL_length (S : Nat) (seen : List Int) : (metL S seen).length = S := by simp [metL]

theorem fr_set {w : World} {lo : Nat} {ao : Option Addr} {n c : Nat} {xs : List Int} (h : Fr w lo ao n c xs) {b k : Nat} (v : Value) (hb : b < lo) : Fr (w.setCell ⟨b, k, none⟩ v) lo ao n c xs :=
  h.grown (grown_setCell w b k v) (fun hn => .inl (by
    obtain ⟨b', o, e, _⟩ := h.rd.cell 0 hn
    subst e
    have := (h.own _ _ _ rfl hn).1
    exact blk_ne (Nat.ne_of_gt (Nat.lt_of_lt_of_le hb this))))
/-- A callee's tableau that is stored into the result's block. -/
theorem newT_stores {w wi w' : World} {rA rB : List Int} {p : Option Addr} {n c : Nat} {q : Option Addr} {m d : Nat} (h : NewT wi w' rA rB p n c q m d) (hl : Below w.heap.size w wi) {b : Nat} (hb : w.heap.size ≤ b) (hlt : b < wi.heap.size) (u v t : Value) :
    NewT w (((w'.setCell ⟨b, 0, none⟩ u).setCell ⟨b, 1, none⟩ v).setCell ⟨b, 2, none⟩ t) rA rB p n c q m d :=
  ⟨(fr_set (fr_set (fr_set h.1 u hlt) v hlt) t hlt).mono (by omega), (fr_set (fr_set (fr_set h.2.1 u hlt) v hlt) t hlt).mono (by omega), h.2.2.1,
    (((hl.trans (h.2.2.2.mono (by omega))).setCell hb u).setCell hb v).setCell hb t⟩
theorem ret_tabb {fn : Func} {R : Ending → World → Prop} {a : Act} {w : World} {t t2 : Tmp} {b : Nat} {x y z : Value} {u : Bool} (hres : fn.results = #[.cell t 24, .tmp t2])
    (ht : a.tmps.getD t undef = .pointer (some ⟨b, 0, none⟩)) (ht2 : a.tmps.getD t2 undef = .bool u) (hb : w.heap[b]? = some (.cells #[x, y, z] 24 (0, 0))) (hd : a.defers = [])
    (hR : R (.returned (.tuple #[.agg #[x, y, z], .bool u])) w) : bodyPost Tryd.prog fn R .ret a w := by
  obtain ⟨⟨q0, q1, q2⟩, _⟩ := blk3 hb
  refine bodyPost_ret (v := .tuple #[.agg #[x, y, z], .bool u]) ?_ hd hR
  rw [Array.getD_eq_getD_getElem?] at ht ht2
  simp only [results, hres]
  simp [go_sem, ht, ht2, q0, q1, q2]
end Go.Proofs.YthebegfceaehfaaDoor
