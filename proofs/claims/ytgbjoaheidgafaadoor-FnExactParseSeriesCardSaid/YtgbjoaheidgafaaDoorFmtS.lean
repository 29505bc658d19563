/- FormatNumbers: a list of texts, joined. -/
import Derived.Test.YtgbjoaheidgafaaDoorFmtV
import Derived.Test.YtgbjoaheidgafaaDoorNodesOf
import Derived.Test.YtgbjoaheidgafaaDoorShelf
namespace Go.Proofs.YtgbjoaheidgafaaDoor
open Go.RowKit

def fmtNs (l : List Int) : List UInt8 := if M.allNum l then Lib.join (l.map fmtN) [32] else []
theorem join_snoc (xs : List (List UInt8)) (x : List UInt8) : Lib.join (xs ++ [x]) [32] = if xs = [] then x else Lib.join xs [32] ++ 32 :: x := by
  cases xs with
  | nil => simp [Lib.join_one]
  | cons y ys =>
    rw [List.cons_append, Lib.join_cons, Lib.join_cons, if_neg (by simp)]
    unfold Lib.joinTail
    rw [List.map_append, List.flatten_append]
    simp
theorem join_len (l : List Int) : (Lib.join (l.map fmtN) [32]).length ≤ 13 * l.length := by
  cases l with
  | nil => simp [Lib.join_nil]
  | cons x xs =>
    have h : ∀ r : List Int, (Lib.joinTail [32] (r.map fmtN)).length ≤ 13 * r.length := by
      intro r
      induction r with
      | nil => simp [Lib.joinTail]
      | cons y ys ih =>
        have := fmtN_len y
        unfold Lib.joinTail at ih ⊢
        simp only [List.map_cons, List.flatten_cons, List.length_append, List.length_cons, List.length_nil] at ih ⊢
        omega
    have h1 := h xs
    have h2 := fmtN_len x
    rw [List.map_cons, Lib.join_cons, List.length_append, List.length_cons]
    omega
theorem fmtNs_len (l : List Int) : (fmtNs l).length ≤ 13 * l.length := by
  unfold fmtNs
  split
  · exact join_len l
  · simp
theorem take_map_snoc {xs : List Int} {k : Nat} {x : Int} (h : k < xs.length) (hx : x = xs.getD k 0) : (xs.take (k + 1)).map fmtN = (xs.take k).map fmtN ++ [fmtN x] := by
  rw [take_snoc 0 xs k h, ← hx, List.map_append]; rfl

/-! ### a slice of texts of the call's own -/
def txt (l : List UInt8) : Value := .string (bs l)
def Sw (w : World) (base : Nat) (v : Value) (n : Nat) (xs : List (List UInt8)) : Prop := w.ownsRow base 9 1 v n (xs.map txt)
theorem info_str : (Tryd.prog.info? 9).map (fun i => (i.zero, i.size, i.bytes)) = some (some (.string ⟨#[]⟩), 1, 16) := by kernel_rfl
theorem Sw.empty (w : World) (base : Nat) (hb : base ≤ w.heap.size) : Sw (w.alloc (.cells #[] 9)) base (.slice (some ⟨w.heap.size, 0, none⟩) 0 0) 0 [] :=
  World.ownsRow_made w #[] 0 hb (by unfold maxLen; omega) (by simp)
theorem Sw.len {w : World} {base : Nat} {v : Value} {n : Nat} {xs : List (List UInt8)} (h : Sw w base v n xs) : xs.length = n := by simpa using h.1
theorem Sw.lt {w : World} {base : Nat} {v : Value} {n : Nat} {xs : List (List UInt8)} (h : Sw w base v n xs) : ∀ k, v.ownBlock = some k → base ≤ k ∧ k < w.heap.size := World.ownsRow.lt h
theorem Sw.below {w w' : World} {base : Nat} {v : Value} {n : Nat} {xs : List (List UInt8)} (h : Sw w base v n xs) (hb : Below w.heap.size w w') : Sw w' base v n xs :=
  World.ownsRow.kept (row := none) h ⟨hb.os, hb.tape, hb.output, hb.size, fun k hk _ => hb.block k hk⟩ (by cases v.ownBlock <;> simp)
theorem Sw.alloc {w : World} {base : Nat} {v : Value} {n : Nat} {xs : List (List UInt8)} (h : Sw w base v n xs) (o : Obj) : Sw (w.alloc o) base v n xs := h.below (below_box w o)
theorem Sw.at {w : World} {base : Nat} {v : Value} {n : Nat} {xs : List (List UInt8)} (h : Sw w base v n xs) : ∃ g c, (v = .slice none 0 0 ∧ n = 0) ∨ (v = .slice (some ⟨g, 0, none⟩) n c ∧ n ≤ c ∧ g < w.heap.size ∧ ∀ (j : Nat) x, (xs.map bs)[j]? = some x → w.cell? ⟨g, 0 + j, none⟩ = some (.string x)) := by
  obtain ⟨h1, h2⟩ := h
  rcases h2 with ⟨rfl, rfl⟩ | ⟨g, cap, cur, rfl, hb, hg, hnc, hcm, hcs, htake⟩
  · exact ⟨0, 0, .inl ⟨rfl, rfl⟩⟩
  · refine ⟨g, cap, .inr ⟨rfl, hnc, (Array.getElem?_eq_some_iff.1 hg).1, fun j x hj => ?_⟩⟩
    have hjl : j < xs.length := by
      have := (List.getElem?_eq_some_iff.1 hj).1
      simpa using this
    have hn : xs.length = n := by simpa using h1
    rw [Nat.zero_add, cell_of_row w g j cur _ _ hg, ← Array.getElem?_toList]
    have e : (cur.toList.take (n * 1))[j]? = (xs.map txt)[j]? := by rw [htake]
    rw [List.getElem?_take, if_pos (by omega)] at e
    rw [e, List.getElem?_map]
    rw [List.getElem?_map] at hj
    cases hx : xs[j]? with
    | none => rw [hx] at hj; cases hj
    | some y => rw [hx] at hj; cases hj; rfl
theorem wpList_append_txt (w : World) {ops : Array Oper} {rest : List Oper} {o : Oper} {a : Act} {Q : Exit → Act → World → Prop} (hg : o.guard = none) (s x : Operand)
    (hop : o.op = .call { callee := .builtin .append, args := #[s, x], argTypes := #[54, 54] }) (base : Nat) (v : Value) (n : Nat) (xs : List (List UInt8)) (hs : a.eval s = v) (hown : Sw w base v n xs)
    (b : Nat) (y : List UInt8) (hx : a.eval x = .slice (some ⟨b, 0, none⟩) 1 1) (hc : w.cell? ⟨b, 0, none⟩ = some (.string (bs y))) (hn : n ≤ 4194304) (hbase : base ≤ w.heap.size)
    (h : ∀ v' w', Sw w' base v' (n + 1) (xs ++ [y]) → w.grownBy w' v.ownBlock → wpList Tryd.prog ops Q rest (a.put o.dst v') w') : wpList Tryd.prog ops Q (o :: rest) a w := by
  obtain ⟨i, hi, hz0, hz1, hz2⟩ := info_parts info_str
  refine wpList_append_own w hg s x 54 hop base 9 i (.string ⟨#[]⟩) 1 16 Tryd.underlying54 hi hz0 hz1 hz2 rfl (by decide) v n (xs.map txt) hs hown ⟨b, 0, none⟩ 1 1 [.string (bs y)] hx rfl
    (fun j u hj => ?_) (fun u hu => ?_) (by unfold maxLen; omega) (by omega) hbase (fun v' w' h1 h2 _ => h v' w' (by unfold Sw; rw [List.map_append]; exact h1) h2)
  · match j, hj with
    | 0, hj => simp only [List.getElem?_cons_zero, Option.some.injEq] at hj; subst hj; simpa [Addr.add] using hc
  · simp only [List.mem_cons, List.not_mem_nil, or_false] at hu; subst hu; rfl

theorem impl_FormatNumbers (ao : Option Addr) (n c : Nat) (xs : List Int) (w : World) (hr : Rd w ao n c xs) (hn : n ≤ 1000) :
    Calls Tryd.prog 36 #[.slice ao n c] w fun e w' => e = .returned (.string (bs (fmtNs xs))) ∧ Below w.heap.size w w' := by
  have HR := hid hr
  clear hr
  cases hall : M.allNum xs with
  | false =>
    have HA := hid hall
    clear hall
    go_enter Tryd.func36, Tryd.ntmps36
    go_wp2_with fail
    refine (impl_allNumbers _ _ _ xs _ HR.out).mono ?_
    rw [HA.out]
    rintro e w' ⟨rfl, rfl⟩
    go_wp2_with fail
    go_ret
    exact ⟨ret_s (by unfold fmtNs; rw [HA.out]; rfl), Below.refl _ _⟩
  | true =>
    have HA := hid hall
    have HF := hid (show fmtNs xs = Lib.join (xs.map fmtN) [32] by unfold fmtNs; rw [hall]; rfl)
    clear hall
    go_enter Tryd.func36, Tryd.ntmps36
    go_wp2_with fail
    refine (impl_allNumbers _ _ _ xs _ HR.out).mono ?_
    rw [HA.out]
    rintro e w' ⟨rfl, rfl⟩
    go_wp2_with fail
    go_loopw [3, 12] (fun v i wr => ∃ (k : Nat), i = .int .i64 k ∧ k ≤ n ∧ Hid (Sw wr w.heap.size v k ((xs.take k).map fmtN)) ∧ Hid (Below w.heap.size w wr)) (fun _ i _ => n - (intOf i).toNat)
    case atStart => exact ⟨0, rfl, Nat.zero_le _, hid (Sw.empty w _ (Nat.le_refl _)), hid (below_box _ _)⟩
    case round =>
      obtain ⟨k, rfl, hk, hS, hB⟩ := hrel
      by_cases hlt : k < n
      · obtain ⟨b, o, x, rfl, hc, _, _, hx⟩ := (HR.out.below hB.out).at hlt
        have hki : (k : Int) < (n : Int) := by omega
        obtain ⟨tx, htx⟩ : ∃ tx, bs (fmtN x) = tx := ⟨_, rfl⟩
        have HTX := hid htx
        clear htx
        go_wp2_with fail
        refine (impl_FormatNumber x _).mono ?_
        rw [HTX.out]
        rintro e w' ⟨rfl, rfl⟩
        have hcS : Hid (∀ {w' : World}, w' = wr.alloc (.cells #[.string tx] 9) → w'.cell? ⟨wr.heap.size, 0, none⟩ = some (.string (bs (fmtN x)))) := hid (fun e => by rw [e, HTX.out]; exact cell_one _ _ _)
        have HL := hid (show k < xs.length by rw [HR.out.len]; exact hlt)
        go_wp2_with (at_builtin; refine wpList_append_txt _ rfl _ _ rfl w.heap.size _ k _ rfl (hS.out.alloc _) wr.heap.size (fmtN x) rfl (hcS.out rfl) (by omega) (by simp; have := hB.out.size; omega) ?_; intro v' w4 hS4 hG4)
        have HS4 := hid hS4
        have HB4 := hid ((hB.out.alloc hB.out.size (.cells #[.string tx] 9)).grown hG4 (by simp; have := hB.out.size; omega) (fun j hj => (hS.out.lt j hj).1))
        clear hS4 hG4
        go_roundw
        case rel => exact ⟨k + 1, by go_num, by omega, hid (by rw [take_map_snoc HL.out hx.out]; exact HS4.out), HB4⟩
        case measure => simp [intOf]; omega
      · obtain rfl : k = n := by omega
        have HT := hid (show (xs.take k).map fmtN = xs.map fmtN by rw [← HR.out.len, List.take_length])
        obtain ⟨g, cc, hv⟩ := hS.out.at
        rcases hv with ⟨rfl, rfl⟩ | ⟨rfl, hcap, hg, hcell⟩
        · have HX := hid (show xs = [] from List.eq_nil_of_length_eq_zero HR.out.len)
          go_wp2_with fail
          refine (Tryd.strings_Join_none none 0 ⟨#[32]⟩ _).mono ?_
          rintro e w' ⟨rfl, hw⟩
          subst hw
          go_wp2_with fail
          go_ret
          exact ⟨ret_s (by rw [HF.out, HX.out]; rfl), hB.out⟩
        · have hl : (((xs.take k).map fmtN).map bs).length = k := by simp [HR.out.len]
          have HJ := hid (show ∀ wj, wj = wr → Calls Tryd.prog 50 #[.slice (some ⟨g, 0, none⟩) k cc, .string ⟨#[32]⟩] wj fun e w' => e = .returned (.string (bs (fmtNs xs))) ∧ Below wj.heap.size wj w' from by
            intro wj e
            subst e
            have h := Tryd.strings_Join g 0 cc (((xs.take k).map fmtN).map bs) ⟨#[32]⟩ wj hcell hg (by rw [hl]; omega) (by rw [hl]; exact hcap) (by
              have e1 : (((xs.take k).map fmtN).map bs).map (·.data.toList) = xs.map fmtN := by
                rw [HT.out, List.map_map, List.map_map]
                apply List.map_congr_left
                intro y _
                simp [bs_data]
              rw [e1]
              have := join_len xs
              rw [HR.out.len] at this
              show (Lib.join (xs.map fmtN) [32]).length ≤ _
              omega)
            rw [hl] at h
            refine h.mono fun e w' ⟨h1, h2⟩ => ⟨?_, h2⟩
            rw [h1, HF.out]
            have e1 : (((xs.take k).map fmtN).map bs).map (·.data.toList) = xs.map fmtN := by
              rw [HT.out, List.map_map, List.map_map]
              apply List.map_congr_left
              intro y _
              simp [bs_data]
            rw [e1]
            rfl)
          clear hcell hl hcap
          go_wp2_with fail
          refine (HJ.out _ rfl).mono ?_
          rintro e w' ⟨rfl, hb⟩
          have HB2 := hid (hB.out.trans (hb.mono hB.out.size))
          clear hb
          go_wp2_with fail
          go_ret
          exact ⟨rfl, HB2.out⟩

set_option maxRecDepth 20000 in
theorem spec_FormatNumbers (ao : Option Addr) (n c : Nat) (xs : List Int) (w : World) (hr : Rd w ao n c xs) (hn : n ≤ 1000) :
    Calls Tryd.prog 34 #[.slice ao n c] w fun e w' => e = .returned (.string (bs (fmtNs xs))) ∧ Below w.heap.size w w' := by
  have HR := hid hr
  clear hr
  go_enter Tryd.func34, Tryd.ntmps34
  go_wp2_with fail
  go_loopw [3, 4] (fun s i wr => ∃ (k : Nat), i = .int .i64 k ∧ k ≤ n ∧ s = .string (bs (Lib.join ((xs.take k).map fmtN) [32])) ∧ Hid (M.allNum (xs.take k) = true) ∧ Hid (Below w.heap.size w wr)) (fun _ i _ => n - (intOf i).toNat)
  case atStart => exact ⟨0, rfl, Nat.zero_le _, rfl, hid rfl, hid (Below.refl _ _)⟩
  case round =>
    obtain ⟨k, rfl, hk, rfl, hA, hB⟩ := hrel
    by_cases hlt : k < n
    · obtain ⟨b, o, x, rfl, hc, _, _, hx⟩ := (HR.out.below hB.out).at hlt
      have hki : (k : Int) < (n : Int) := by omega
      have HL := hid (show k < xs.length by rw [HR.out.len]; exact hlt)
      obtain ⟨q, hq⟩ : ∃ q, bs (Lib.join ((xs.take k).map fmtN) [32]) = q := ⟨_, rfl⟩
      have lq : q.size ≤ 13000 := by
        rw [← hq, bs_size]
        have := join_len (xs.take k)
        rw [List.length_take] at this
        omega
      rw [hq]
      have HQ := hid hq
      clear hq
      cases hnum : M.isNum x with
      | false =>
        have HN := hid hnum
        clear hnum
        go_wp2_with fail
        refine (spec_IsNumber _ _).mono ?_
        rw [HN.out]
        rintro e w' ⟨rfl, rfl⟩
        go_wp2_with fail
        go_ret
        exact ⟨ret_s (by unfold fmtNs; rw [allNum_stop HL.out hx.out HN.out]; rfl), hB.out⟩
      | true =>
        have HN := hid hnum
        clear hnum
        obtain ⟨tx, htx⟩ : ∃ tx, bs (fmtN x) = tx := ⟨_, rfl⟩
        have ltx : tx.size ≤ 12 := by rw [← htx, bs_size]; exact fmtN_len x
        have HTX := hid htx
        clear htx
        by_cases h0 : k = 0
        · subst h0
          simp only [Nat.add_zero] at hc
          go_wp2_with fail
          refine (spec_IsNumber _ _).mono ?_
          rw [HN.out]
          rintro e w' ⟨rfl, rfl⟩
          go_wp2_with fail
          refine (spec_FormatNumber x _).mono ?_
          rw [HTX.out]
          rintro e w4 ⟨rfl, hb⟩
          have HB2 := hid (hB.out.trans (hb.mono hB.out.size))
          have a1 := sadd w4 q tx (by omega) (by omega)
          clear hb
          go_wp2_with fail
          go_roundw
          case rel =>
            refine ⟨0 + 1, by go_num, by omega, ?_, hid (allNum_step HL.out hA.out hx.out HN.out), HB2⟩
            rw [take_map_snoc HL.out hx.out, join_snoc, if_pos (by simp), ← HQ.out, ← HTX.out, bs_append]
            rfl
          case measure => simp [intOf]; omega
        · have hk0 : (0 : Int) < (k : Int) := by omega
          have s1 : (q ++ ⟨#[32]⟩).size ≤ 14000 := by rw [ByteArray.size_append]; show _ + 1 ≤ _; omega
          have a0 := sadd wr q ⟨#[32]⟩ (by omega) (by decide)
          go_wp2_with fail
          refine (spec_IsNumber _ _).mono ?_
          rw [HN.out]
          rintro e w' ⟨rfl, rfl⟩
          go_wp2_with fail
          refine (spec_FormatNumber x _).mono ?_
          rw [HTX.out]
          rintro e w4 ⟨rfl, hb⟩
          have HB2 := hid (hB.out.trans (hb.mono hB.out.size))
          have a1 := sadd w4 (q ++ ⟨#[32]⟩) tx (by omega) (by omega)
          clear hb
          go_wp2_with fail
          go_roundw
          case rel =>
            refine ⟨k + 1, by go_num, by omega, ?_, hid (allNum_step HL.out hA.out hx.out HN.out), HB2⟩
            have hne : ¬ (xs.take k).map fmtN = [] := by
              intro e
              have h1 := congrArg List.length e
              rw [List.length_map, List.length_take, List.length_nil] at h1
              have h2 := HL.out
              omega
            rw [take_map_snoc HL.out hx.out, join_snoc, if_neg hne, ← HQ.out, ← HTX.out, bs1, bs_append, bs_append]
            simp
          case measure => simp [intOf]; omega
    · obtain rfl : k = n := by omega
      have HT := hid (show xs.take k = xs by rw [← HR.out.len, List.take_length])
      go_wp2_with fail
      go_ret
      exact ⟨ret_s (by unfold fmtNs; rw [← HT.out, hA.out]; simp [HT.out]), hB.out⟩
end Go.Proofs.YtgbjoaheidgafaaDoor
