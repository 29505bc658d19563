/- FormatNumbers: a list of texts, joined. -/
import Derived.Test.YthebegfceaehfaaDoorFmtV
import Derived.Test.YthebegfceaehfaaDoorNodesOf
import Derived.Test.YthebegfceaehfaaDoorShelf
import Derived.Lib.Join
namespace Go.Proofs.YthebegfceaehfaaDoor
open Go.RowKit

def fmtNs (l : List Int) : List UInt8 := if M.allNum l then Lib.join (l.map fmtN) [32] else []
theorem join_snoc (xs : List (List UInt8)) (x : List UInt8) : Lib.join (xs ++ [x]) [32] = if xs = [] then x else Lib.join xs [32] ++ 32 :: x := by
  cases xs with
  | nil => simp [Lib.join_one]
  | cons y ys =>
    rw [List.cons_append, Lib.join_cons, Lib.join_cons, if_neg (by simp)]
    unfold Lib.joinTail
    rw [List.map_append, List.flatten_append]
    simp
theorem join_len (l : List Int) : (Lib.join (l.map fmtN) [32]).length ≤ 13 * l.length := by
  cases l with
  | nil => simp [Lib.join_nil]
  | cons x xs =>
    have h : ∀ r : List Int, (Lib.joinTail [32] (r.map fmtN)).length ≤ 13 * r.length := by
      intro r
      induction r with
      | nil => simp [Lib.joinTail]
      | cons y ys ih =>
        have := fmtN_len y
        unfold Lib.joinTail at ih ⊢
        simp only [List.map_cons, List.flatten_cons, List.length_append, List.length_cons, List.length_nil] at ih ⊢
        omega
    have h1 := h xs
    have h2 := fmtN_len x
    rw [List.map_cons, Lib.join_cons, List.length_append, List.length_cons]
    omega
theorem fmtNs_len (l : List Int) : (fmtNs l).length ≤ 13 * l.length := by
  unfold fmtNs
  split
  · exact join_len l
  · simp
theorem take_map_snoc {xs : List Int} {k : Nat} {x : Int} (h : k < xs.length) (hx : x = xs.getD k 0) : (xs.take (k + 1)).map fmtN = (xs.take k).map fmtN ++ [fmtN x] := by
  rw [take_snoc 0 xs k h, ← hx, List.map_append]; rfl

/-! ### a slice of texts of the call's own -/
def txt (l : List UInt8) : Value := .string (bs l)
def Sw (w : World) (base : Nat) (v : Value) (n : Nat) (xs : List (List UInt8)) : Prop := w.ownsRow base 9 1 v n (xs.map txt)
theorem info_str : (Tryd.prog.info? 9).map (fun i => (i.zero, i.size, i.bytes)) = some (some (.string ⟨#[]⟩), 1, 16) := by kernel_rfl
theorem Sw.empty (w : World) (base : Nat) (hb : base ≤ w.heap.size) : Sw (w.alloc (.cells #[] 9)) base (.slice (some ⟨w.heap.size, 0, none⟩) 0 0) 0 [] :=
  World.ownsRow_made w #[] 0 hb (by unfold maxLen; omega) (by simp)
theorem Sw.len {w : World} {base : Nat} {v : Value} {n : Nat} {xs : List (List UInt8)} (h : Sw w base v n xs) : xs.length = n := by simpa using h.1
theorem Sw.lt {w : World} {base : Nat} {v : Value} {n : Nat} {xs : List (List UInt8)} (h : Sw w base v n xs) : ∀ k, v.ownBlock = some k → base ≤ k ∧ k < w.heap.size := World.ownsRow.lt h
theorem Sw.below {w w' : World} {base : Nat} {v : Value} {n : Nat} {xs : List (List UInt8)} (h : Sw w base v n xs) (hb : Below w.heap.size w w') : Sw w' base v n xs :=
  World.ownsRow.kept (row := none) h ⟨hb.os, hb.tape, hb.output, hb.size, fun k hk _ => hb.block k hk⟩ (by cases v.ownBlock <;> simp)
theorem Sw.alloc {w : World} {base : Nat} {v : Value} {n : Nat} {xs : List (List UInt8)} (h : Sw w base v n xs) (o : Obj) : Sw (w.alloc o) base v n xs := h.below (below_box w o)
theorem Sw.at {w : World} {base : Nat} {v : Value} {n : Nat} {xs : List (List UInt8)} (h : Sw w base v n xs) : ∃ g c, (v = .slice none 0 0 ∧ n = 0) ∨ (v = .slice (some ⟨g, 0, none⟩) n c ∧ n ≤ c ∧ g < w.heap.size ∧ ∀ (j : Nat) x, (xs.map bs)[j]? = some x → w.cell? ⟨g, 0 + j, none⟩ = some (.string x)) := by
  obtain ⟨h1, h2⟩ := h
  rcases h2 with ⟨rfl, rfl⟩ | ⟨g, cap, cur, rfl, hb, hg, hnc, hcm, hcs, htake⟩
  · exact ⟨0, 0, .inl ⟨rfl, rfl⟩⟩
  · refine ⟨g, cap, .inr ⟨rfl, hnc, (Array.getElem?_eq_some_iff.1 hg).1, fun j x hj => ?_⟩⟩
    have hjl : j < xs.length := by
      have := (List.getElem?_eq_some_iff.1 hj).1
      simpa using this
    have hn : xs.length = n := by simpa using h1
    rw [Nat.zero_add, cell_of_row w g j cur _ _ hg, ← Array.getElem?_toList]
    have e : (cur.toList.take (n * 1))[j]? = (xs.map txt)[j]? := by rw [htake]
    rw [List.getElem?_take, if_pos (by omega)] at e
    rw [e, List.getElem?_map]
    rw [List.getElem?_map] at hj
    cases hx : xs[j]? with
    | none => rw [hx] at hj; cases hj
    | some y => rw [hx] at hj; cases hj; rfl
theorem wpList_append_txt (w : World) {ops : Array Oper} {rest : List Oper} {o : Oper} {a : Act} {Q : Exit → Act → World → Prop} (hg : o.guard = none) (s x : Operand)
    (hop : o.op = .call { callee := .builtin .append, args := #[s, x], argTypes := #[30, 30] }) (base : Nat) (v : Value) (n : Nat) (xs : List (List UInt8)) (hs : a.eval s = v) (hown : Sw w base v n xs)
    (b : Nat) (y : List UInt8) (hx : a.eval x = .slice (some ⟨b, 0, none⟩) 1 1) (hc : w.cell? ⟨b, 0, none⟩ = some (.string (bs y))) (hn : n ≤ 4194304) (hbase : base ≤ w.heap.size)
    (h : ∀ v' w', Sw w' base v' (n + 1) (xs ++ [y]) → w.grownBy w' v.ownBlock → wpList Tryd.prog ops Q rest (a.put o.dst v') w') : wpList Tryd.prog ops Q (o :: rest) a w := by
  obtain ⟨i, hi, hz0, hz1, hz2⟩ := info_parts info_str
  refine wpList_append_own w hg s x 30 hop base 9 i (.string ⟨#[]⟩) 1 16 Tryd.underlying30 hi hz0 hz1 hz2 rfl (by decide) v n (xs.map txt) hs hown ⟨b, 0, none⟩ 1 1 [.string (bs y)] hx rfl
    (fun j u hj => ?_) (fun u hu => ?_) (by unfold maxLen; omega) (by omega) hbase (fun v' w' h1 h2 _ => h v' w' (by unfold Sw; rw [List.map_append]; exact h1) h2)
  · match j, hj with
    | 0, hj => simp only [List.getElem?_cons_zero, Option.some.injEq] at hj; subst hj; simpa [Addr.add] using hc
  · simp only [List.mem_cons, List.not_mem_nil, or_false] at hu; subst hu; rfl

set_option maxRecDepth 20000 in
theorem spec_FormatNumbers (ao : Option Addr) (n c : Nat) (xs : List Int) (w : World) (hr : Rd w ao n c xs) (hn : n ≤ 1000) :
    Calls Tryd.prog 34 #[.slice ao n c] w fun e w' => e = .returned (.string (bs (fmtNs xs))) ∧ Below w.heap.size w w' := by
  have HR := hid hr
  clear hr
  go_enter Tryd.func34, Tryd.ntmps34
  go_wp2_with fail
  go_loopw [3, 4] (fun s i wr => ∃ (k : Nat), i = .int .i64 k ∧ k ≤ n ∧ s = .string (bs (Lib.join ((xs.take k).map fmtN) [32])) ∧ Hid (M.allNum (xs.take k) = true) ∧ Hid (Below w.heap.size w wr)) (fun _ i _ => n - (intOf i).toNat)
  case atStart => exact ⟨0, rfl, Nat.zero_le _, rfl, hid rfl, hid (Below.refl _ _)⟩
  case round =>
    obtain ⟨k, rfl, hk, rfl, hA, hB⟩ := hrel
    by_cases hlt : k < n
    · obtain ⟨b, o, x, rfl, hc, _, _, hx⟩ := (HR.out.below hB.out).at hlt
      have hki : (k : Int) < (n : Int) := by omega
      have HL := hid (show k < xs.length by rw [HR.out.len]; exact hlt)
      obtain ⟨q, hq⟩ : ∃ q, bs (Lib.join ((xs.take k).map fmtN) [32]) = q := ⟨_, rfl⟩
      have lq : q.size ≤ 13000 := by
        rw [← hq, bs_size]
        have := join_len (xs.take k)
        rw [List.length_take] at this
        omega
      rw [hq]
      have HQ := hid hq
      clear hq
      cases hnum : M.isNum x with
      | false =>
        have HN := hid hnum
        clear hnum
        go_wp2_with fail
        refine (spec_IsNumber _ _).mono ?_
        rw [HN.out]
        rintro e w' ⟨rfl, rfl⟩
        go_wp2_with fail
        go_ret
        exact ⟨ret_s (by unfold fmtNs; rw [allNum_stop HL.out hx.out HN.out]; rfl), hB.out⟩
      | true =>
        have HN := hid hnum
        clear hnum
        obtain ⟨tx, htx⟩ : ∃ tx, bs (fmtN x) = tx := ⟨_, rfl⟩
        have ltx : tx.size ≤ 12 := by rw [← htx, bs_size]; exact fmtN_len x
        have HTX := hid htx
        clear htx
        by_cases h0 : k = 0
        · subst h0
          simp only [Nat.add_zero] at hc
          go_wp2_with fail
          refine (spec_IsNumber _ _).mono ?_
          rw [HN.out]
          rintro e w' ⟨rfl, rfl⟩
          go_wp2_with fail
          refine (spec_FormatNumber x _).mono ?_
          rw [HTX.out]
          rintro e w4 ⟨rfl, hb⟩
          have HB2 := hid (hB.out.trans (hb.mono hB.out.size))
          have a1 := sadd w4 q tx (by omega) (by omega)
          clear hb
          go_wp2_with fail
          go_roundw
          case rel =>
            refine ⟨0 + 1, by go_num, by omega, ?_, hid (allNum_step HL.out hA.out hx.out HN.out), HB2⟩
            rw [take_map_snoc HL.out hx.out, join_snoc, if_pos (by simp), ← HQ.out, ← HTX.out, bs_append]
            rfl
          case measure => simp [intOf]; omega
        · have hk0 : (0 : Int) < (k : Int) := by omega
          have s1 : (q ++ ⟨#[32]⟩).size ≤ 14000 := by rw [ByteArray.size_append]; show _ + 1 ≤ _; omega
          have a0 := sadd wr q ⟨#[32]⟩ (by omega) (by decide)
          go_wp2_with fail
          refine (spec_IsNumber _ _).mono ?_
          rw [HN.out]
          rintro e w' ⟨rfl, rfl⟩
          go_wp2_with fail
          refine (spec_FormatNumber x _).mono ?_
          rw [HTX.out]
          rintro e w4 ⟨rfl, hb⟩
          have HB2 := hid (hB.out.trans (hb.mono hB.out.size))
          have a1 := sadd w4 (q ++ ⟨#[32]⟩) tx (by omega) (by omega)
          clear hb
          go_wp2_with fail
          go_roundw
          case rel =>
            refine ⟨k + 1, by go_num, by omega, ?_, hid (allNum_step HL.out hA.out hx.out HN.out), HB2⟩
            have hne : ¬ (xs.take k).map fmtN = [] := by
              intro e
              have h1 := congrArg List.length e
              rw [List.length_map, List.length_take, List.length_nil] at h1
              have h2 := HL.out
              omega
            rw [take_map_snoc HL.out hx.out, join_snoc, if_neg hne, ← HQ.out, ← HTX.out, bs1, bs_append, bs_append]
            simp
          case measure => simp [intOf]; omega
    · obtain rfl : k = n := by omega
      have HT := hid (show xs.take k = xs by rw [← HR.out.len, List.take_length])
      go_wp2_with fail
      go_ret
      exact ⟨ret_s (by unfold fmtNs; rw [← HT.out, hA.out]; simp [HT.out]), hB.out⟩
end Go.Proofs.YthebegfceaehfaaDoor
