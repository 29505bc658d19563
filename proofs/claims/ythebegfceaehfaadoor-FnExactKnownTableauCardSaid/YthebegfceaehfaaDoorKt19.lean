/- Merged texts: KnNg, KnNr, KnNl, KnNz, KnN, KnL, ColS. -/
import Derived.Test.YthebegfceaehfaaDoorKt18
import Derived.Test.YthebegfceaehfaaDoorKt13
/- KnNg: KnownTableau: the program's walk, the name begins with gauss. -/
namespace Go.Proofs.YthebegfceaehfaaDoor
open Go.RowKit
set_option maxRecDepth 20000 in
set_option maxHeartbeats 8000000 in
theorem kn_hit0 (s : ByteArray) (w : World) (hk : ktText s.data.toList = []) (h0 : Lib.hasPrefix s.data.toList gaussT = true) {c : UInt8} (hc : knC gaussT s.data.toList = some c) {rs : Int} {rA rB : List Int} {rb : Bool} (hr : colV (M.gauss ((c.toNat : Int) - 48)) = ⟨rs, rA, rB, rb⟩) :
    Calls Tryd.prog 11 #[.string s] w fun e w' => ∃ p n c q m' d', e = .returned (.tuple #[.agg #[.int .i64 rs, .slice p n c, .slice q m' d'], .bool rb]) ∧ NewT w w' rA rB p n c q m' d' := by
  have HK := hid hk
  obtain ⟨q1, q2, q3, q4, q5, q6, q7, q8, q9⟩ := kt_none hk
  rw [← Lib.toList_data] at q1 q2 q3 q4 q5 q6 q7 q8 q9
  have H0 := hid h0
  have H1 : Hid (Lib.hasPrefix s.data.toList radauT = false) := hid (pre_other h0 (by decide))
  have H2 : Hid (Lib.hasPrefix s.data.toList lobT = false) := hid (pre_other h0 (by decide))
  have HC := hid hc
  clear h0 hc
  have HR := hid hr
  have RS0 := hid (bk_new w #[.int .i64 0, .slice none 0 0, .slice none 0 0] 24)
  have B0 := hid (below_box w (.cells #[.int .i64 0, .slice none 0 0, .slice none 0 0] 24))
  clear hk hr
  go_enter Tryd.func11, Tryd.ntmps11
  go_wp2_with fail
  refine (cut_hit (p := gaussT) rfl HC.out _).mono ?_
  rintro e w1 ⟨T, rfl, rfl, hT0, hT1, rfl⟩
  have hcb : T[0].toNat < 256 := UInt8.toNat_lt _
  have hT2 : ((T.size : Int) == 1) = true := by rw [hT1]; rfl
  have HT1 := hid hT1
  clear hT1
  go_wp2_with fail
  refine (impl_GaussNodes ((T[0].toNat : Int) - 48) _).mono ?_
  rintro e w2 ⟨ao, n, c2, rfl, hN⟩
  have HNS := hid hN
  have B2 := hid (l_below B0.out hN.2)
  have R2 := hid (bk_below RS0.out hN.2)
  have z2 := bk_lt R2.out
  clear hN
  go_wp2_with fail
  refine (impl_CollocationTableau _ _ _ _ _ HNS.out.1.rd HR.out).mono ?_
  rintro e w3 ⟨p, n', c3, q, m', d', rfl, hT⟩
  have HT := hid hT
  have hR := bk_below R2.out hT.2.2.2
  have R3 := hid hR
  obtain ⟨⟨r0, r1, r2⟩, f0, f1, f2⟩ := blk3 hR
  clear hR hT
  go_wp2_with fail
  exact ret_tabb rfl rfl rfl (heap_setCell_same _ _ _ _ _ _ (heap_setCell_same _ _ _ _ _ _ (heap_setCell_same _ _ _ _ _ _ R3.out))) rfl ⟨_, _, _, _, _, _, rfl, newT_stores HT.out B2.out (Nat.le_refl _) z2 _ _ _⟩
set_option maxRecDepth 20000 in
set_option maxHeartbeats 8000000 in
theorem kn_off0 (s : ByteArray) (w : World) (hk : ktText s.data.toList = []) (h0 : Lib.hasPrefix s.data.toList gaussT = true) (hc : knC gaussT s.data.toList = none) {rs : Int} {rA rB : List Int} {rb : Bool} (hr : Tb.none = ⟨rs, rA, rB, rb⟩) :
    Calls Tryd.prog 11 #[.string s] w fun e w' => ∃ p n c q m' d', e = .returned (.tuple #[.agg #[.int .i64 rs, .slice p n c, .slice q m' d'], .bool rb]) ∧ NewT w w' rA rB p n c q m' d' := by
  have HK := hid hk
  obtain ⟨q1, q2, q3, q4, q5, q6, q7, q8, q9⟩ := kt_none hk
  rw [← Lib.toList_data] at q1 q2 q3 q4 q5 q6 q7 q8 q9
  have H0 := hid h0
  have H1 : Hid (Lib.hasPrefix s.data.toList radauT = false) := hid (pre_other h0 (by decide))
  have H2 : Hid (Lib.hasPrefix s.data.toList lobT = false) := hid (pre_other h0 (by decide))
  have HC := hid hc
  clear h0 hc
  have HR := hid hr
  have RS0 := hid (bk_new w #[.int .i64 0, .slice none 0 0, .slice none 0 0] 24)
  have B0 := hid (below_box w (.cells #[.int .i64 0, .slice none 0 0, .slice none 0 0] 24))
  clear hk hr
  go_enter Tryd.func11, Tryd.ntmps11
  go_wp2_with fail
  refine (cut_off (p := gaussT) rfl H0.out HC.out _).mono ?_
  rintro e w1 ⟨T0, rfl, rfl, hs⟩
  go_wp2_with fail
  clear hs
  refine (cut_no (p := radauT) rfl H1.out _).mono ?_
  rintro e w1 ⟨T1, rfl, rfl⟩
  go_wp2_with fail
  refine (cut_no (p := lobT) rfl H2.out _).mono ?_
  rintro e w1 ⟨T2, rfl, rfl⟩
  go_wp2_with fail
  obtain ⟨rfl, rfl, rfl, rfl⟩ := tb_eq (HR.out.symm.trans (show Tb.none = ⟨0, [], [], false⟩ from rfl))
  obtain ⟨⟨r0, r1, r2⟩, f0, f1, f2⟩ := blk3 RS0.out
  go_wp2_with fail
  exact ret_tabb rfl rfl rfl RS0.out rfl ⟨_, _, _, _, _, _, rfl, NewT.none B0.out⟩
end Go.Proofs.YthebegfceaehfaaDoor

/- KnNr: KnownTableau: the program's walk, the name begins with radau. -/
namespace Go.Proofs.YthebegfceaehfaaDoor
open Go.RowKit
set_option maxRecDepth 20000 in
set_option maxHeartbeats 8000000 in
theorem kn_hit1 (s : ByteArray) (w : World) (hk : ktText s.data.toList = []) (h1 : Lib.hasPrefix s.data.toList radauT = true) {c : UInt8} (hc : knC radauT s.data.toList = some c) {rs : Int} {rA rB : List Int} {rb : Bool} (hr : colV (M.radau ((c.toNat : Int) - 48)) = ⟨rs, rA, rB, rb⟩) :
    Calls Tryd.prog 11 #[.string s] w fun e w' => ∃ p n c q m' d', e = .returned (.tuple #[.agg #[.int .i64 rs, .slice p n c, .slice q m' d'], .bool rb]) ∧ NewT w w' rA rB p n c q m' d' := by
  have HK := hid hk
  obtain ⟨q1, q2, q3, q4, q5, q6, q7, q8, q9⟩ := kt_none hk
  rw [← Lib.toList_data] at q1 q2 q3 q4 q5 q6 q7 q8 q9
  have H1 := hid h1
  have H0 : Hid (Lib.hasPrefix s.data.toList gaussT = false) := hid (pre_other h1 (by decide))
  have H2 : Hid (Lib.hasPrefix s.data.toList lobT = false) := hid (pre_other h1 (by decide))
  have HC := hid hc
  clear h1 hc
  have HR := hid hr
  have RS0 := hid (bk_new w #[.int .i64 0, .slice none 0 0, .slice none 0 0] 24)
  have B0 := hid (below_box w (.cells #[.int .i64 0, .slice none 0 0, .slice none 0 0] 24))
  clear hk hr
  go_enter Tryd.func11, Tryd.ntmps11
  go_wp2_with fail
  refine (cut_no (p := gaussT) rfl H0.out _).mono ?_
  rintro e w1 ⟨T0, rfl, rfl⟩
  go_wp2_with fail
  refine (cut_hit (p := radauT) rfl HC.out _).mono ?_
  rintro e w1 ⟨T, rfl, rfl, hT0, hT1, rfl⟩
  have hcb : T[0].toNat < 256 := UInt8.toNat_lt _
  have hT2 : ((T.size : Int) == 1) = true := by rw [hT1]; rfl
  have HT1 := hid hT1
  clear hT1
  go_wp2_with fail
  refine (impl_RadauNodes ((T[0].toNat : Int) - 48) _).mono ?_
  rintro e w2 ⟨ao, n, c2, rfl, hN⟩
  have HNS := hid hN
  have B2 := hid (l_below B0.out hN.2)
  have R2 := hid (bk_below RS0.out hN.2)
  have z2 := bk_lt R2.out
  clear hN
  go_wp2_with fail
  refine (impl_CollocationTableau _ _ _ _ _ HNS.out.1.rd HR.out).mono ?_
  rintro e w3 ⟨p, n', c3, q, m', d', rfl, hT⟩
  have HT := hid hT
  have hR := bk_below R2.out hT.2.2.2
  have R3 := hid hR
  obtain ⟨⟨r0, r1, r2⟩, f0, f1, f2⟩ := blk3 hR
  clear hR hT
  go_wp2_with fail
  exact ret_tabb rfl rfl rfl (heap_setCell_same _ _ _ _ _ _ (heap_setCell_same _ _ _ _ _ _ (heap_setCell_same _ _ _ _ _ _ R3.out))) rfl ⟨_, _, _, _, _, _, rfl, newT_stores HT.out B2.out (Nat.le_refl _) z2 _ _ _⟩
set_option maxRecDepth 20000 in
set_option maxHeartbeats 8000000 in
theorem kn_off1 (s : ByteArray) (w : World) (hk : ktText s.data.toList = []) (h1 : Lib.hasPrefix s.data.toList radauT = true) (hc : knC radauT s.data.toList = none) {rs : Int} {rA rB : List Int} {rb : Bool} (hr : Tb.none = ⟨rs, rA, rB, rb⟩) :
    Calls Tryd.prog 11 #[.string s] w fun e w' => ∃ p n c q m' d', e = .returned (.tuple #[.agg #[.int .i64 rs, .slice p n c, .slice q m' d'], .bool rb]) ∧ NewT w w' rA rB p n c q m' d' := by
  have HK := hid hk
  obtain ⟨q1, q2, q3, q4, q5, q6, q7, q8, q9⟩ := kt_none hk
  rw [← Lib.toList_data] at q1 q2 q3 q4 q5 q6 q7 q8 q9
  have H1 := hid h1
  have H0 : Hid (Lib.hasPrefix s.data.toList gaussT = false) := hid (pre_other h1 (by decide))
  have H2 : Hid (Lib.hasPrefix s.data.toList lobT = false) := hid (pre_other h1 (by decide))
  have HC := hid hc
  clear h1 hc
  have HR := hid hr
  have RS0 := hid (bk_new w #[.int .i64 0, .slice none 0 0, .slice none 0 0] 24)
  have B0 := hid (below_box w (.cells #[.int .i64 0, .slice none 0 0, .slice none 0 0] 24))
  clear hk hr
  go_enter Tryd.func11, Tryd.ntmps11
  go_wp2_with fail
  refine (cut_no (p := gaussT) rfl H0.out _).mono ?_
  rintro e w1 ⟨T0, rfl, rfl⟩
  go_wp2_with fail
  refine (cut_off (p := radauT) rfl H1.out HC.out _).mono ?_
  rintro e w1 ⟨T1, rfl, rfl, hs⟩
  go_wp2_with fail
  clear hs
  refine (cut_no (p := lobT) rfl H2.out _).mono ?_
  rintro e w1 ⟨T2, rfl, rfl⟩
  go_wp2_with fail
  obtain ⟨rfl, rfl, rfl, rfl⟩ := tb_eq (HR.out.symm.trans (show Tb.none = ⟨0, [], [], false⟩ from rfl))
  obtain ⟨⟨r0, r1, r2⟩, f0, f1, f2⟩ := blk3 RS0.out
  go_wp2_with fail
  exact ret_tabb rfl rfl rfl RS0.out rfl ⟨_, _, _, _, _, _, rfl, NewT.none B0.out⟩
end Go.Proofs.YthebegfceaehfaaDoor

/- KnNl: KnownTableau: the program's walk, the name begins with lobatto. -/
namespace Go.Proofs.YthebegfceaehfaaDoor
open Go.RowKit
set_option maxRecDepth 20000 in
set_option maxHeartbeats 8000000 in
theorem kn_hit2 (s : ByteArray) (w : World) (hk : ktText s.data.toList = []) (h2 : Lib.hasPrefix s.data.toList lobT = true) {c : UInt8} (hc : knC lobT s.data.toList = some c) {rs : Int} {rA rB : List Int} {rb : Bool} (hr : colV (M.lobatto ((c.toNat : Int) - 48)) = ⟨rs, rA, rB, rb⟩) :
    Calls Tryd.prog 11 #[.string s] w fun e w' => ∃ p n c q m' d', e = .returned (.tuple #[.agg #[.int .i64 rs, .slice p n c, .slice q m' d'], .bool rb]) ∧ NewT w w' rA rB p n c q m' d' := by
  have HK := hid hk
  obtain ⟨q1, q2, q3, q4, q5, q6, q7, q8, q9⟩ := kt_none hk
  rw [← Lib.toList_data] at q1 q2 q3 q4 q5 q6 q7 q8 q9
  have H2 := hid h2
  have H0 : Hid (Lib.hasPrefix s.data.toList gaussT = false) := hid (pre_other h2 (by decide))
  have H1 : Hid (Lib.hasPrefix s.data.toList radauT = false) := hid (pre_other h2 (by decide))
  have HC := hid hc
  clear h2 hc
  have HR := hid hr
  have RS0 := hid (bk_new w #[.int .i64 0, .slice none 0 0, .slice none 0 0] 24)
  have B0 := hid (below_box w (.cells #[.int .i64 0, .slice none 0 0, .slice none 0 0] 24))
  clear hk hr
  go_enter Tryd.func11, Tryd.ntmps11
  go_wp2_with fail
  refine (cut_no (p := gaussT) rfl H0.out _).mono ?_
  rintro e w1 ⟨T0, rfl, rfl⟩
  go_wp2_with fail
  refine (cut_no (p := radauT) rfl H1.out _).mono ?_
  rintro e w1 ⟨T1, rfl, rfl⟩
  go_wp2_with fail
  refine (cut_hit (p := lobT) rfl HC.out _).mono ?_
  rintro e w1 ⟨T, rfl, rfl, hT0, hT1, rfl⟩
  have hcb : T[0].toNat < 256 := UInt8.toNat_lt _
  have hT2 : ((T.size : Int) == 1) = true := by rw [hT1]; rfl
  have HT1 := hid hT1
  clear hT1
  go_wp2_with fail
  refine (impl_LobattoNodes ((T[0].toNat : Int) - 48) _).mono ?_
  rintro e w2 ⟨ao, n, c2, rfl, hN⟩
  have HNS := hid hN
  have B2 := hid (l_below B0.out hN.2)
  have R2 := hid (bk_below RS0.out hN.2)
  have z2 := bk_lt R2.out
  clear hN
  go_wp2_with fail
  refine (impl_CollocationTableau _ _ _ _ _ HNS.out.1.rd HR.out).mono ?_
  rintro e w3 ⟨p, n', c3, q, m', d', rfl, hT⟩
  have HT := hid hT
  have hR := bk_below R2.out hT.2.2.2
  have R3 := hid hR
  obtain ⟨⟨r0, r1, r2⟩, f0, f1, f2⟩ := blk3 hR
  clear hR hT
  go_wp2_with fail
  exact ret_tabb rfl rfl rfl (heap_setCell_same _ _ _ _ _ _ (heap_setCell_same _ _ _ _ _ _ (heap_setCell_same _ _ _ _ _ _ R3.out))) rfl ⟨_, _, _, _, _, _, rfl, newT_stores HT.out B2.out (Nat.le_refl _) z2 _ _ _⟩
set_option maxRecDepth 20000 in
set_option maxHeartbeats 8000000 in
theorem kn_off2 (s : ByteArray) (w : World) (hk : ktText s.data.toList = []) (h2 : Lib.hasPrefix s.data.toList lobT = true) (hc : knC lobT s.data.toList = none) {rs : Int} {rA rB : List Int} {rb : Bool} (hr : Tb.none = ⟨rs, rA, rB, rb⟩) :
    Calls Tryd.prog 11 #[.string s] w fun e w' => ∃ p n c q m' d', e = .returned (.tuple #[.agg #[.int .i64 rs, .slice p n c, .slice q m' d'], .bool rb]) ∧ NewT w w' rA rB p n c q m' d' := by
  have HK := hid hk
  obtain ⟨q1, q2, q3, q4, q5, q6, q7, q8, q9⟩ := kt_none hk
  rw [← Lib.toList_data] at q1 q2 q3 q4 q5 q6 q7 q8 q9
  have H2 := hid h2
  have H0 : Hid (Lib.hasPrefix s.data.toList gaussT = false) := hid (pre_other h2 (by decide))
  have H1 : Hid (Lib.hasPrefix s.data.toList radauT = false) := hid (pre_other h2 (by decide))
  have HC := hid hc
  clear h2 hc
  have HR := hid hr
  have RS0 := hid (bk_new w #[.int .i64 0, .slice none 0 0, .slice none 0 0] 24)
  have B0 := hid (below_box w (.cells #[.int .i64 0, .slice none 0 0, .slice none 0 0] 24))
  clear hk hr
  go_enter Tryd.func11, Tryd.ntmps11
  go_wp2_with fail
  refine (cut_no (p := gaussT) rfl H0.out _).mono ?_
  rintro e w1 ⟨T0, rfl, rfl⟩
  go_wp2_with fail
  refine (cut_no (p := radauT) rfl H1.out _).mono ?_
  rintro e w1 ⟨T1, rfl, rfl⟩
  go_wp2_with fail
  refine (cut_off (p := lobT) rfl H2.out HC.out _).mono ?_
  rintro e w1 ⟨T2, rfl, rfl, hs⟩
  go_wp2_with fail
  clear hs
  obtain ⟨rfl, rfl, rfl, rfl⟩ := tb_eq (HR.out.symm.trans (show Tb.none = ⟨0, [], [], false⟩ from rfl))
  obtain ⟨⟨r0, r1, r2⟩, f0, f1, f2⟩ := blk3 RS0.out
  go_wp2_with fail
  exact ret_tabb rfl rfl rfl RS0.out rfl ⟨_, _, _, _, _, _, rfl, NewT.none B0.out⟩
end Go.Proofs.YthebegfceaehfaaDoor

/- KnNz: KnownTableau: the program's walk, the name begins with none of the three. -/
namespace Go.Proofs.YthebegfceaehfaaDoor
open Go.RowKit
set_option maxRecDepth 20000 in
set_option maxHeartbeats 8000000 in
theorem kn_off (s : ByteArray) (w : World) (hk : ktText s.data.toList = []) (h0 : Lib.hasPrefix s.data.toList gaussT = false) (h1 : Lib.hasPrefix s.data.toList radauT = false) (h2 : Lib.hasPrefix s.data.toList lobT = false) {rs : Int} {rA rB : List Int} {rb : Bool} (hr : Tb.none = ⟨rs, rA, rB, rb⟩) :
    Calls Tryd.prog 11 #[.string s] w fun e w' => ∃ p n c q m' d', e = .returned (.tuple #[.agg #[.int .i64 rs, .slice p n c, .slice q m' d'], .bool rb]) ∧ NewT w w' rA rB p n c q m' d' := by
  have HK := hid hk
  obtain ⟨q1, q2, q3, q4, q5, q6, q7, q8, q9⟩ := kt_none hk
  rw [← Lib.toList_data] at q1 q2 q3 q4 q5 q6 q7 q8 q9
  have H0 := hid h0
  clear h0
  have H1 := hid h1
  clear h1
  have H2 := hid h2
  clear h2
  have HR := hid hr
  have RS0 := hid (bk_new w #[.int .i64 0, .slice none 0 0, .slice none 0 0] 24)
  have B0 := hid (below_box w (.cells #[.int .i64 0, .slice none 0 0, .slice none 0 0] 24))
  clear hk hr
  go_enter Tryd.func11, Tryd.ntmps11
  go_wp2_with fail
  refine (cut_no (p := gaussT) rfl H0.out _).mono ?_
  rintro e w1 ⟨T0, rfl, rfl⟩
  go_wp2_with fail
  refine (cut_no (p := radauT) rfl H1.out _).mono ?_
  rintro e w1 ⟨T1, rfl, rfl⟩
  go_wp2_with fail
  refine (cut_no (p := lobT) rfl H2.out _).mono ?_
  rintro e w1 ⟨T2, rfl, rfl⟩
  go_wp2_with fail
  obtain ⟨rfl, rfl, rfl, rfl⟩ := tb_eq (HR.out.symm.trans (show Tb.none = ⟨0, [], [], false⟩ from rfl))
  obtain ⟨⟨r0, r1, r2⟩, f0, f1, f2⟩ := blk3 RS0.out
  go_wp2_with fail
  exact ret_tabb rfl rfl rfl RS0.out rfl ⟨_, _, _, _, _, _, rfl, NewT.none B0.out⟩
end Go.Proofs.YthebegfceaehfaaDoor

/- KnN: KnownTableau: the program's walk. -/
namespace Go.Proofs.YthebegfceaehfaaDoor
open Go.RowKit
theorem impl_KnownTableau (s : ByteArray) (w : World) (_hs : s.size ≤ 1048576) (hm : Mx w) {rs : Int} {rA rB : List Int} {rb : Bool} (hr : knV s.data.toList = ⟨rs, rA, rB, rb⟩) :
    Calls Tryd.prog 11 #[.string s] w fun e w' => ∃ p n c q m' d', e = .returned (.tuple #[.agg #[.int .i64 rs, .slice p n c, .slice q m' d'], .bool rb]) ∧ NewT w w' rA rB p n c q m' d' := by
  by_cases hk : ktText s.data.toList ≠ []
  · rw [knV_text hk] at hr
    exact impl_KnownTableau_text s w hm hk hr
  have hk := Decidable.not_not.1 hk
  unfold knV at hr
  rw [if_neg (fun h => h hk)] at hr
  cases h0 : Lib.hasPrefix s.data.toList gaussT with
  | true =>
    cases hc : knC gaussT s.data.toList with
    | some c =>
      simp only [hc] at hr
      exact kn_hit0 s w hk h0 hc hr
    | none =>
      have n1 : knC radauT s.data.toList = none := knC_no (pre_other h0 (by decide))
      have n2 : knC lobT s.data.toList = none := knC_no (pre_other h0 (by decide))
      simp only [hc, n1, n2] at hr
      exact kn_off0 s w hk h0 hc hr
  | false =>
    cases h1 : Lib.hasPrefix s.data.toList radauT with
    | true =>
      cases hc : knC radauT s.data.toList with
      | some c =>
        simp only [hc, knC_no h0] at hr
        exact kn_hit1 s w hk h1 hc hr
      | none =>
        have n2 : knC lobT s.data.toList = none := knC_no (pre_other h1 (by decide))
        simp only [hc, knC_no h0, n2] at hr
        exact kn_off1 s w hk h1 hc hr
    | false =>
      cases h2 : Lib.hasPrefix s.data.toList lobT with
      | true =>
        cases hc : knC lobT s.data.toList with
        | some c =>
          simp only [hc, knC_no h0, knC_no h1] at hr
          exact kn_hit2 s w hk h2 hc hr
        | none =>
          simp only [hc, knC_no h0, knC_no h1] at hr
          exact kn_off2 s w hk h2 hc hr
      | false =>
        simp only [knC_no h0, knC_no h1, knC_no h2] at hr
        exact kn_off s w hk h0 h1 h2 hr
end Go.Proofs.YthebegfceaehfaaDoor

/- KnL: KnownTableau: names made of a prefix and a digit. -/
namespace Go.Proofs.YthebegfceaehfaaDoor
open Go.RowKit

theorem kt_size (l : List UInt8) : (ktText l).length ≤ 1048576 := by
  unfold ktText
  repeat' split
  all_goals decide
theorem pre_app (p t : List UInt8) : Lib.hasPrefix (p ++ t) p = true := by
  unfold Lib.hasPrefix
  rw [List.isPrefixOf_iff_prefix]
  exact List.prefix_append p t
theorem knC_app (p : List UInt8) (c : UInt8) : knC p (p ++ [c]) = some c := by
  unfold knC
  rw [if_pos (pre_app p [c])]
  unfold Lib.trimPrefix
  rw [if_pos (pre_app p [c]), List.drop_left]
theorem knC_eq {p l : List UInt8} {c : UInt8} (h : knC p l = some c) : l = p ++ [c] := by
  obtain ⟨h1, h2⟩ := knC_some h
  unfold Lib.trimPrefix at h2
  rw [if_pos h1] at h2
  unfold Lib.hasPrefix at h1
  rw [List.isPrefixOf_iff_prefix] at h1
  obtain ⟨t, rfl⟩ := h1
  rw [List.drop_left] at h2
  rw [h2]
theorem four {k : Nat} (h1 : 1 ≤ k) (h4 : k ≤ 4) : k = 1 ∨ k = 2 ∨ k = 3 ∨ k = 4 := by omega
theorem dgt_int {k : Nat} (h4 : k ≤ 4) : ((dgt k).toNat : Int) - 48 = (k : Int) := by
  rw [dgt_nat (by omega)]
  omega
theorem knG_dgt (f : Int → List Int) {k : Nat} (h4 : k ≤ 4) : knG f (dgt k) = colV (f k) := by
  unfold knG
  rw [dgt_int h4]
theorem kt_gauss {k : Nat} (h1 : 1 ≤ k) (h4 : k ≤ 4) : ktText (gaussT ++ [dgt k]) = [] := by
  rcases four h1 h4 with rfl | rfl | rfl | rfl <;> decide
theorem kt_radau {k : Nat} (h1 : 1 ≤ k) (h4 : k ≤ 4) : ktText (radauT ++ [dgt k]) = [] := by
  rcases four h1 h4 with rfl | rfl | rfl | rfl <;> decide
theorem kt_lob {k : Nat} (h1 : 1 ≤ k) (h4 : k ≤ 4) : ktText (lobT ++ [dgt k]) = [] := by
  rcases four h1 h4 with rfl | rfl | rfl | rfl <;> decide
theorem knV_gauss {k : Nat} (h1 : 1 ≤ k) (h4 : k ≤ 4) : knV (gaussT ++ [dgt k]) = colV (M.gauss k) := by
  unfold knV
  rw [if_neg (fun h => h (kt_gauss h1 h4)), knC_app]
  exact knG_dgt _ h4
theorem knV_radau {k : Nat} (h1 : 1 ≤ k) (h4 : k ≤ 4) : knV (radauT ++ [dgt k]) = colV (M.radau k) := by
  unfold knV
  rw [if_neg (fun h => h (kt_radau h1 h4)), knC_no (p := gaussT) (pre_other (pre_app radauT [dgt k]) (by decide)), knC_app]
  exact knG_dgt _ h4
theorem knV_lob {k : Nat} (h1 : 1 ≤ k) (h4 : k ≤ 4) : knV (lobT ++ [dgt k]) = colV (M.lobatto k) := by
  unfold knV
  rw [if_neg (fun h => h (kt_lob h1 h4)), knC_no (p := gaussT) (pre_other (pre_app lobT [dgt k]) (by decide)), knC_no (p := radauT) (pre_other (pre_app lobT [dgt k]) (by decide)), knC_app]
  exact knG_dgt _ h4
theorem out_no {l p : List UInt8} {c : UInt8} (h : knC p l = some c) (h' : ∀ k : Nat, 1 ≤ k → k < 5 → l ≠ p ++ [dgt k]) (z : Int) (hz : z = (c.toNat : Int) - 48) : z ≠ 1 ∧ z ≠ 2 ∧ z ≠ 3 ∧ z ≠ 4 := by
  have e := knC_eq h
  have g : ∀ k : Nat, 1 ≤ k → k < 5 → z ≠ (k : Int) := by
    intro k h1 h4 e2
    refine h' k h1 h4 ?_
    rw [e]
    congr 2
    apply UInt8.toNat_inj.1
    rw [dgt_nat (by omega)]
    omega
  exact ⟨g 1 (by omega) (by omega), g 2 (by omega) (by omega), g 3 (by omega) (by omega), g 4 (by omega) (by omega)⟩
theorem colV_nil : colV [] = Tb.none := colV_no (by decide)
/-- The names before the k-th digit are not the name. -/
structure KnTo (l : List UInt8) (k : Nat) : Prop where
  g : ∀ j : Nat, 1 ≤ j → j < k → l ≠ gaussT ++ [dgt j]
  r : ∀ j : Nat, 1 ≤ j → j < k → l ≠ radauT ++ [dgt j]
  b : ∀ j : Nat, 1 ≤ j → j < k → l ≠ lobT ++ [dgt j]
theorem KnTo.start (l : List UInt8) : KnTo l 1 := ⟨fun j h1 h2 => by omega, fun j h1 h2 => by omega, fun j h1 h2 => by omega⟩
theorem KnTo.step {l : List UInt8} {k : Nat} (h : KnTo l k) (hg : l ≠ gaussT ++ [dgt k]) (hr : l ≠ radauT ++ [dgt k]) (hb : l ≠ lobT ++ [dgt k]) : KnTo l (k + 1) := by
  refine ⟨fun j h1 h2 => ?_, fun j h1 h2 => ?_, fun j h1 h2 => ?_⟩
  · by_cases e : j = k
    · exact e ▸ hg
    · exact h.g j h1 (by omega)
  · by_cases e : j = k
    · exact e ▸ hr
    · exact h.r j h1 (by omega)
  · by_cases e : j = k
    · exact e ▸ hb
    · exact h.b j h1 (by omega)
theorem knV_none {l : List UInt8} (hk : ktText l = []) (h : KnTo l 5) : knV l = Tb.none := by
  unfold knV
  rw [if_neg (fun h => h hk)]
  cases h0 : knC gaussT l with
  | some c =>
    obtain ⟨n1, n2, n3, n4⟩ := out_no h0 h.g _ rfl
    show knG M.gauss c = Tb.none
    unfold knG M.gauss
    rw [if_neg n1, if_neg n2, if_neg n3, colV_nil]
  | none =>
    cases h1 : knC radauT l with
    | some c =>
      obtain ⟨n1, n2, n3, n4⟩ := out_no h1 h.r _ rfl
      show knG M.radau c = Tb.none
      unfold knG M.radau
      rw [if_neg n1, if_neg n2, if_neg n3, colV_nil]
    | none =>
      cases h2 : knC lobT l with
      | some c =>
        obtain ⟨n1, n2, n3, n4⟩ := out_no h2 h.b _ rfl
        show knG M.lobatto c = Tb.none
        unfold knG M.lobatto
        rw [if_neg n2, if_neg n3, if_neg n4, colV_nil]
      | none => rfl
end Go.Proofs.YthebegfceaehfaaDoor

/- ColS: CollocationTableau of the specification. -/
namespace Go.Proofs.YthebegfceaehfaaDoor
open Go.RowKit

set_option maxHeartbeats 1000000 in
theorem spec_CollocationTableau_no (ao : Option Addr) (n c : Nat) (C : List Int) (w : World) (hr : Rd w ao n c C) (hno : colOk C = false) :
    Calls Tryd.prog 23 #[.slice ao n c] w fun e w' => ∃ a1 n1 c1 a2 n2 c2, e = .returned (.tuple #[.agg #[.int .i64 0, .slice a1 n1 c1, .slice a2 n2 c2], .bool false]) ∧ NewT w w' [] [] a1 n1 c1 a2 n2 c2 := by
  have hn : n ≤ 9223372036854775807 := Nat.le_trans hr.cap hr.max
  have HR := hid hr
  have hlen := hr.len
  have hr0 := bk_new w #[.int .i64 0, .slice none 0 0, .slice none 0 0] 24
  have HRS := hid hr0
  obtain ⟨⟨r0, r1, r2⟩, f0, f1, f2⟩ := blk3 hr0
  clear hr hr0
  by_cases hin : 1 ≤ n ∧ n ≤ 8
  · have HI := hid (show inB (n : Int) 1 8 = true from decide_eq_true ⟨by omega, by omega⟩)
    have HX : Hid ((ndB C && M.allNum C) = false) := hid (by
      unfold colOk at hno
      rw [hlen, decide_eq_true hin.1, decide_eq_true hin.2, Bool.true_and, Bool.true_and, Bool.and_comm] at hno
      exact hno)
    clear hno hlen hin
    go_enter Tryd.func23, Tryd.ntmps23
    go_wp2_with fail
    refine (spec_l1In _ _ _ _).mono ?_
    rw [HI.out]
    rintro e w1 ⟨rfl, rfl⟩
    go_wp2_with fail
    refine (spec_l7Different _ _ _ C _ (HR.out.alloc _)).mono ?_
    rw [HX.out]
    rintro e w1 ⟨rfl, hB⟩
    have hr1 := bk_below HRS.out hB
    have HR1 := hid hr1
    have BW := hid (l_below (below_box w (.cells #[.int .i64 0, .slice none 0 0, .slice none 0 0] 24)) hB)
    clear r0 r1 r2 f0 f1 f2 hB
    obtain ⟨⟨r0, r1, r2⟩, f0, f1, f2⟩ := blk3 hr1
    clear hr1
    go_wp2_with fail
    obtain ⟨e1, e2⟩ := none_end BW.out (Nat.le_refl _) HR1.out (.int .i64 0) (.slice none 0 0) (.slice none 0 0)
    exact ret_tabb rfl rfl rfl e1 rfl ⟨_, _, _, _, _, _, rfl, e2⟩
  · have HI := hid (show inB (n : Int) 1 8 = false from decide_eq_false (by omega))
    clear hno hlen hin
    go_enter Tryd.func23, Tryd.ntmps23
    go_wp2_with fail
    refine (spec_l1In _ _ _ _).mono ?_
    rw [HI.out]
    rintro e w1 ⟨rfl, rfl⟩
    go_wp2_with fail
    exact ret_tabb rfl rfl rfl HRS.out rfl ⟨_, _, _, _, _, _, rfl, NewT.none (below_box _ _)⟩
/-- The answer that is being made: its block ob, its A appended to behind it, its B ahead of it. -/
structure Cs (w wr : World) (ob n : Nat) (vA : Value) (nA : Nat) (XA : List Int) (b2 : Option Addr) (cB : Nat) (XB : List Int) : Prop where
  l : Below w.heap.size w wr
  res : wr.heap[w.heap.size]? = some (.cells #[.int .i64 0, .slice none 0 0, .slice none 0 0] 24 (0, 0))
  out : wr.heap[ob]? = some (.cells #[.int .i64 n, vA, .slice b2 n cB] 24 (0, 0))
  a : Ow wr (ob + 1) vA nA XA
  b : Fr wr (w.heap.size + 1) b2 n cB XB
  hb : ∀ q, blkN b2 n = some q → w.heap.size < q ∧ q < ob
  lt : w.heap.size < ob
section
variable {w wr w' : World} {ob n nA cB : Nat} {vA : Value} {XA XB : List Int} {b2 : Option Addr}
theorem Cs.below (h : Cs w wr ob n vA nA XA b2 cB XB) (hB : Below wr.heap.size wr w') : Cs w w' ob n vA nA XA b2 cB XB :=
  ⟨l_below h.l hB, bk_below h.res hB, bk_below h.out hB, h.a.below hB, h.b.below hB, h.hb, h.lt⟩
theorem Cs.push (h : Cs w wr ob n vA nA XA b2 cB XB) {v' : Value} {m : Nat} {ys : List Int} (hO : Ow w' (ob + 1) v' (nA + m) (XA ++ ys)) (hG : wr.grownBy w' vA.ownBlock) :
    Cs w (w'.setCell ⟨ob, 1, none⟩ v') ob n v' (nA + m) (XA ++ ys) b2 cB XB := by
  have hs := bk_lt h.out
  have hlt := h.lt
  have hne : ∀ q, q ≤ ob → some q ≠ vA.ownBlock := fun q hq e => by have := (h.a.lt q e.symm).1; omega
  have hbb : ∀ r : Option Nat, (∀ q, r = some q → ob ≤ q) → (0 < n → blk b2 ≠ r ∨ r = none) := fun r hr hn => by
    cases e : r with
    | none => exact .inr rfl
    | some q =>
      refine .inl fun e' => ?_
      have := (h.hb q (by rw [blkN_pos hn]; exact e')).2
      have := hr q e
      omega
  refine ⟨(h.l.grown hG (by omega) (fun k hk => by have := (h.a.lt k hk).1; omega)).setCell (Nat.le_of_lt hlt) _, ?_, heap_setCell_same _ _ _ _ _ _ ((hG.block ob hs (hne ob (Nat.le_refl _))).trans h.out), ow_setCell hO (Nat.lt_succ_self _) _, ?_, h.hb, hlt⟩
  · exact (heap_setCell_other _ _ _ _ (Nat.ne_of_lt hlt)).trans ((hG.block _ (by omega) (hne _ (by omega))).trans h.res)
  · refine (h.b.grown hG (hbb _ fun q hq => by have := (h.a.lt q hq).1; omega)).grown (grown_setCell _ _ _ _) (hbb _ fun q hq => by cases hq; exact Nat.le_refl _)
/-- The answer is handed back. -/
theorem Cs.finish (h : Cs w wr ob n vA nA XA b2 cB XB) : ∃ a1 c1, vA = .slice a1 nA c1 ∧
    (((wr.setCell ⟨w.heap.size, 0, none⟩ (.int .i64 n)).setCell ⟨w.heap.size, 1, none⟩ vA).setCell ⟨w.heap.size, 2, none⟩ (.slice b2 n cB)).heap[w.heap.size]? = some (.cells #[.int .i64 n, vA, .slice b2 n cB] 24 (0, 0)) ∧
    NewT w (((wr.setCell ⟨w.heap.size, 0, none⟩ (.int .i64 n)).setCell ⟨w.heap.size, 1, none⟩ vA).setCell ⟨w.heap.size, 2, none⟩ (.slice b2 n cB)) XA XB a1 nA c1 b2 n cB := by
  obtain ⟨a1, c1, rfl, hF⟩ := h.a.fr
  have hlt := h.lt
  refine ⟨a1, c1, rfl, heap_setCell_same _ _ _ _ _ _ (heap_setCell_same _ _ _ _ _ _ (heap_setCell_same _ _ _ _ _ _ h.res)), ?_, ?_, ?_, ((h.l.setCell (Nat.le_refl _) _).setCell (Nat.le_refl _) _).setCell (Nat.le_refl _) _⟩
  · exact (fr_set (fr_set (fr_set hF _ (by omega)) _ (by omega)) _ (by omega)).mono (by omega)
  · exact (fr_set (fr_set (fr_set h.b _ (Nat.lt_succ_self _)) _ (Nat.lt_succ_self _)) _ (Nat.lt_succ_self _)).mono (Nat.le_succ _)
  · intro h1 h2 e
    obtain ⟨q, o, e1, hc⟩ := hF.rd.cell 0 h1
    have h3 := (hF.own q o none e1 h1).1
    have h4 := (h.hb q (by rw [blkN_pos h2, ← e, e1]; rfl)).2
    omega
end
set_option maxRecDepth 20000 in
set_option maxHeartbeats 4000000 in
theorem spec_CollocationTableau_yes (ao : Option Addr) (n c : Nat) (C : List Int) (w : World) (hr : Rd w ao n c C) (hok : colOk C = true) :
    Calls Tryd.prog 23 #[.slice ao n c] w fun e w' => ∃ a1 n1 c1 a2 n2 c2, e = .returned (.tuple #[.agg #[.int .i64 n, .slice a1 n1 c1, .slice a2 n2 c2], .bool true]) ∧ NewT w w' (colFlat C n n) (wtL C n 1) a1 n1 c1 a2 n2 c2 := by
  have HD := hid (colOk_dif hr.len hok)
  obtain ⟨h1, h8, hA, hN⟩ := colOk_parts hok
  rw [hr.len] at h1 h8
  have HX := hid (show (ndB C && M.allNum C) = true by rw [hA, hN]; rfl)
  have HI := hid (show inB (n : Int) 1 8 = true from decide_eq_true ⟨by omega, by omega⟩)
  have HR := hid hr
  have RS0 := hid (bk_new w #[.int .i64 0, .slice none 0 0, .slice none 0 0] 24)
  have B0 := hid (below_box w (.cells #[.int .i64 0, .slice none 0 0, .slice none 0 0] 24))
  clear hr hok hA hN
  go_enter Tryd.func23, Tryd.ntmps23
  go_wp2_with fail
  refine (spec_l1In _ _ _ _).mono ?_
  rw [HI.out]
  rintro e w1 ⟨rfl, rfl⟩
  go_wp2_with fail
  refine (spec_l7Different _ _ _ C _ (HR.out.alloc _)).mono ?_
  rw [HX.out]
  rintro e w1 ⟨rfl, hB⟩
  have y1 := hB.size
  simp only [World.size_alloc] at y1
  have RS1 := hid (bk_below RS0.out hB)
  have B1 := hid (l_below B0.out hB)
  clear hB RS0 B0
  go_wp2_with fail
  refine (spec_l7Weights 1 _ n c C _ (HR.out.below B1.out) h1 h8 HD.out).mono ?_
  rintro e w2 ⟨aq, cq, rfl, hF, hB⟩
  have y2 := hB.size
  have B2 := hid (l_below B1.out hB)
  have S0 := hid (show Cs w (w2.alloc (.cells #[.int .i64 n, .slice none 0 0, .slice aq n cq] 24)) w2.heap.size n (.slice none 0 0) 0 [] aq cq (wtL C n 1) from
    ⟨B2.out.alloc (by omega) _, bk_alloc (bk_below RS1.out hB) _, bk_new _ _ _, Ow.nil _ _, (hF.mono (by omega)).alloc _, fun q hq => by have := hF.blkN_bd q hq; omega, by omega⟩)
  clear hF hB RS1 B1 B2
  go_wp2_with fail
  go_loopw [5] (fun i wr => ∃ (k nA : Nat) (vA : Value), i = .int .i64 k ∧ k ≤ n ∧ Hid (nA = k * n) ∧ Hid (Cs w wr w2.heap.size n vA nA (colFlat C n k) aq cq (wtL C n 1))) (fun i _ => n - (intOf i).toNat)
  case atStart => exact ⟨0, 0, _, rfl, Nat.zero_le _, hid (by simp), hid (by simpa [colFlat] using S0.out)⟩
  case round =>
    clear S0
    obtain ⟨k, nA, vA, rfl, hk, hnA, hS⟩ := hrel
    obtain ⟨wo, rfl⟩ : ∃ wo : World, wo = wr := ⟨_, rfl⟩
    obtain ⟨va, ca, rfl, _⟩ := hS.out.a.fr
    by_cases hlt : k < n
    · have hki : (k : Int) < (n : Int) := by omega
      have hn64 : nA + n ≤ 64 := by
        rw [hnA.out, ← Nat.succ_mul]
        exact Nat.mul_le_mul (show k + 1 ≤ 8 by omega) h8
      obtain ⟨b, o, x, rfl, hc, x1, x2, hx⟩ := (HR.out.below hS.out.l).at hlt
      have hb1 : b < w.heap.size := by
        obtain ⟨b', o', e, hc⟩ := HR.out.cell k hlt
        cases e
        exact World.block_lt_of_cell? w _ hc
      have hob := bk_lt hS.out.out
      have hlt2 := hS.out.lt
      obtain ⟨⟨r0, r1, r2⟩, f0, f1, f2⟩ := blk3 hS.out.out
      go_wp2_with fail
      refine (fun (HG : Rg _ _ 10) => wp_region_hh (S := fun w' => w'.cell? ⟨w2.heap.size, 1, none⟩ = some (.slice va nA ca) ∧ w'.cell? ⟨b, o + k, none⟩ = some (.int .i64 x)) HG rfl ?_) ⟨by kernel_rfl, by decide, by kernel_rfl, by kernel_rfl, fun _ _ d _ _ h => by cases d <;> exact h⟩
      have hS0 : Hid (wo.drew.cell? ⟨w2.heap.size, 1, none⟩ = some (.slice va nA ca) ∧ wo.drew.cell? ⟨b, o + k, none⟩ = some (.int .i64 x)) := hid ⟨r1, hc⟩
      (refine hh_take 0 HG rfl (by decide) (by kernel_rfl) (by kernel_rfl) hS0.out (fun K hK => ?_); refine take_val ?_ (by rfl) ?_ ?_; rotate_left 1; (focus (intro wc hC; skip; go_simp; try rfl)); go_simp; refine hK.out _ ?_; clear hK K)
      (refine hh_take 1 HG rfl (by decide) (by kernel_rfl) (by kernel_rfl) hS0.out (fun K hK => ?_); refine take_val ?_ (by rfl) ?_ ?_; rotate_left 1; (focus (intro wc hC; obtain ⟨s0, s1⟩ := hC; go_simp; try rfl)); go_simp; refine hK.out _ ?_; clear hK K)
      (refine hh_take 2 HG rfl (by decide) (by kernel_rfl) (by kernel_rfl) hS0.out (fun K hK => ?_); refine take_val ?_ (by rfl) ?_ ?_; rotate_left 1; (focus (intro wc hC; skip; go_simp; try rfl)); go_simp; refine hK.out _ ?_; clear hK K)
      (refine hh_take 3 HG rfl (by decide) (by kernel_rfl) (by kernel_rfl) hS0.out (fun K hK => ?_); refine take_val ?_ (by rfl) ?_ ?_; rotate_left 1; (focus (intro wc hC; skip; go_simp; try rfl)); go_simp; refine hK.out _ ?_; clear hK K)
      (refine hh_take 4 HG rfl (by decide) (by kernel_rfl) (by kernel_rfl) hS0.out (fun K hK => ?_); refine take_val ?_ (by rfl) ?_ ?_; rotate_left 1; (focus (intro wc hC; skip; go_simp; try rfl)); go_simp; refine hK.out _ ?_; clear hK K)
      (refine hh_take 5 HG rfl (by decide) (by kernel_rfl) (by kernel_rfl) hS0.out (fun K hK => ?_); refine take_val ?_ (by rfl) ?_ ?_; rotate_left 1; (focus (intro wc hC; skip; go_simp; try rfl)); go_simp; refine hK.out _ ?_; clear hK K)
      (refine hh_take 6 HG rfl (by decide) (by kernel_rfl) (by kernel_rfl) hS0.out (fun K hK => ?_); refine take_val ?_ (by rfl) ?_ ?_; rotate_left 1; (focus (intro wc hC; obtain ⟨s0, s1⟩ := hC; go_simp; try rfl)); go_simp; refine hK.out _ ?_; clear hK K)
      (refine hh_mid 7 rfl (by decide) (by kernel_rfl) (fun K hK => ?_); refine mid_call ?_ ?_ (by rfl) ?_ ?_; rotate_left 2; (focus (go_simp; first | done | rfl | (refine And.intro ?_ ?_ <;> rfl))))
      refine (spec_l7Weights x _ n c C _ (HR.out.below hS.out.l.drew) h1 h8 HD.out).mono ?_
      rintro e w5 ⟨ap, cp, rfl, hF, hB5⟩
      refine ⟨_, rfl, ?_⟩
      have S5 := hid ((hS.out.below ((Below.refl _ _).drew)).below hB5)
      have F5 := hid hF
      have y5 := hB5.size
      have z5 : wo.heap.size ≤ w5.heap.size := y5
      have hS5 : Hid (w5.cell? ⟨w2.heap.size, 1, none⟩ = some (.slice va nA ca) ∧ w5.cell? ⟨b, o + k, none⟩ = some (.int .i64 x)) := hid ⟨(hB5.cell (World.block_lt_of_cell? wo _ r1)).trans r1, (hB5.cell (World.block_lt_of_cell? wo _ hc)).trans hc⟩
      clear hF hB5 r0 r1 r2 f0 f1 f2 hc y5
      (go_simp; refine hK.out _ _ ?_ ?_ <;> clear hK K)
      · exact hS5.out
      refine hh_mid 8 rfl (by decide) (by kernel_rfl) (fun K hK => ?_)
      refine step_append_ints (by rfl) _ _ (by rfl) (w2.heap.size + 1) _ nA _ (by rfl) S5.out.a ap n cp (wtL C n x) (by rfl) F5.out.rd (by omega) (by omega) ?_
      intro ao4 c4 w6 hO6 hG6 hW6
      have hne : ∀ q, q ≤ w2.heap.size → some q ≠ (Value.slice va nA ca).ownBlock := fun q hq e => by have := (S5.out.a.lt q e.symm).1; omega
      have hS6 : Hid (w6.cell? ⟨w2.heap.size, 1, none⟩ = some (.slice va nA ca) ∧ w6.cell? ⟨b, o + k, none⟩ = some (.int .i64 x)) := hid ⟨hG6.cell hS5.out.1 (hne _ (Nat.le_refl _)), hG6.cell hS5.out.2 (hne _ (by show b ≤ _; omega))⟩
      have hf6 : w6.frozen? ⟨w2.heap.size, 1, none⟩ = false := (World.frozen?_of_block (hG6.block w2.heap.size (by omega) (hne _ (Nat.le_refl _)))).trans (blk3 S5.out.out).2.2.1
      have S6 := hid (S5.out.push hO6 hG6)
      clear hO6 hG6 hW6 hne
      (go_simp; refine hK.out _ _ ?_ ?_ <;> clear hK K)
      · exact hS6.out
      (refine hh_take 9 HG rfl (by decide) (by kernel_rfl) (by kernel_rfl) hS6.out (fun K hK => ?_); refine take_val ?_ (by rfl) ?_ ?_; rotate_left 1; (focus (intro wc hC; skip; go_simp; try rfl)); go_simp; refine hK.out _ ?_; clear hK K)
      refine hh_done (by kernel_rfl) ?_
      simp only [List.drop_succ_cons, List.drop_zero]
      change wpList _ _ _ _ _ _
      obtain ⟨s0, _⟩ := hS6.out
      go_wp2_with fail
      go_roundw
      case rel => exact ⟨k + 1, nA + n, _, by go_num, by omega, hid (by rw [hnA.out, Nat.add_mul, Nat.one_mul]), hid (by rw [colFlat_succ, ← hx.out]; exact S6.out)⟩
      case measure => simp [intOf]; omega
    · obtain rfl : k = n := by omega
      obtain ⟨⟨r0, r1, r2⟩, _⟩ := blk3 hS.out.out
      obtain ⟨⟨t0, t1, t2⟩, f0, f1, f2⟩ := blk3 hS.out.res
      go_wp2_with fail
      obtain ⟨a1, c1, e0, e1, e2⟩ := hS.out.finish
      cases e0
      exact ret_tabb rfl rfl rfl e1 rfl ⟨_, _, _, _, _, _, rfl, e2⟩
theorem spec_CollocationTableau (ao : Option Addr) (n c : Nat) (C : List Int) (w : World) (h : Rd w ao n c C) {rs : Int} {rA rB : List Int} {rb : Bool} (hr : colV C = ⟨rs, rA, rB, rb⟩) :
    Calls Tryd.prog 23 #[.slice ao n c] w fun e w' => ∃ p n c q m' d', e = .returned (.tuple #[.agg #[.int .i64 rs, .slice p n c, .slice q m' d'], .bool rb]) ∧ NewT w w' rA rB p n c q m' d' := by
  cases hok : colOk C with
  | false =>
    rw [colV_no hok] at hr
    cases hr
    exact spec_CollocationTableau_no ao n c C w h hok
  | true =>
    rw [colV_yes hok, h.len] at hr
    cases hr
    exact spec_CollocationTableau_yes ao n c C w h hok
end Go.Proofs.YthebegfceaehfaaDoor
