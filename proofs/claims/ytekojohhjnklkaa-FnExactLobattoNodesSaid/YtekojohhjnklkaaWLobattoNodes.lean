/- FnExactLobattoNodes: the walk of the law. -/
import Derived.Test.YtekojohhjnklkaaNodes
import Derived.Test.YtekojohhjnklkaaSt
namespace Go.Proofs.Ytekojohhjnklkaa
open Go.RowKit

theorem lobatto_len (s : Int) : (M.lobatto s).length ≤ 1000 := by
  unfold M.lobatto
  (repeat' split) <;> simp
theorem walk_LobattoNodes (s : Int) {w : World} (_hs : I64 s) :
    Calls Try.prog 5 #[.int .i64 s] w fun e w' => e = .returned (.bool true) ∧ Below w.heap.size w w' := by
  have hl := lobatto_len s
  generalize hxs : M.lobatto s = xs at hl
  have HXS := hid hxs
  clear hxs
  go_enter Try.func5, Try.ntmps5
  go_wp2_with fail
  refine (spec_LobattoNodes _ _).mono ?_
  rw [HXS.out]
  rintro e w1 ⟨ao, an, ac, rfl, hN⟩
  have HW := hid hN
  clear hN
  go_wp2_with fail
  refine (impl_LobattoNodes _ _).mono ?_
  rw [HXS.out]
  rintro e w2 ⟨go, gn, gc, rfl, hN⟩
  have HG := hid hN
  have hgn : gn ≤ 1000 := by rw [← hN.1.rd.len]; exact hl
  clear hN
  go_wp2_with fail
  refine (law_eqIntS_true _ _ _ _ _ _ xs _ HG.out.1.rd (HW.out.1.rd.below HG.out.2)).mono ?_
  rintro e w3 ⟨rfl, hB⟩
  have HB3 := hid hB
  have HL3 := hid (HW.out.2.trans ((HG.out.2.trans (hB.mono HG.out.2.size)).mono HW.out.2.size))
  clear hB
  go_wp2_with fail
  refine (law_markIntS w1.heap.size _ _ _ xs 1 _ (HG.out.1.below HB3.out) (by omega) (by omega) (by omega)).mono ?_
  rintro e w4 ⟨rfl, hF, hM⟩
  have HF := hid hF
  have HR4 := hid ((((HW.out.1.below HG.out.2).below HB3.out).rd).grownN hM ((HW.out.1.sep HG.out.1 (Nat.le_refl _)).symm))
  have HL4 := hid (HL3.out.grown hM HL3.out.size (fun k hk => Nat.le_trans HW.out.2.size (HG.out.1.blkN_bd k hk).1))
  clear hF hM
  go_wp2_with fail
  refine (law_heldIntS _ _ _ _ _ HF.out.rd (by omega) (by omega) (by omega)).mono ?_
  rintro e w4' ⟨rfl, rfl⟩
  go_wp2_with fail
  refine (impl_LobattoNodes _ _).mono ?_
  rw [HXS.out]
  rintro e w5 ⟨ho, hn, hc, rfl, hN⟩
  have HH := hid hN
  have HL5 := hid (HL4.out.trans (hN.2.mono HL4.out.size))
  clear hN
  go_wp2_with fail
  refine (law_eqIntS_true _ _ _ _ _ _ xs _ HH.out.1.rd (HR4.out.below HH.out.2)).mono ?_
  rintro e w6 ⟨rfl, hB⟩
  have HB6 := hid hB
  have HL6 := hid (HL5.out.trans (hB.mono HL5.out.size))
  clear hB
  go_wp2_with fail
  refine (law_heldIntS _ _ _ _ _ ((HF.out.rd.below HH.out.2).below HB6.out) (by omega) (by omega) (by omega)).mono ?_
  rintro e w6' ⟨rfl, rfl⟩
  go_wp2_with fail
  go_ret
  exact ⟨rfl, HL6.out⟩
end Go.Proofs.Ytekojohhjnklkaa
