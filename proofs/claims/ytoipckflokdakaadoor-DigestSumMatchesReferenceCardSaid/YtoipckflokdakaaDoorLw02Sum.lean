/- The walk of the law DigestSumMatchesReference. -/
import Derived.Test.YtoipckflokdakaaDoorRefTree
import Derived.Test.YtoipckflokdakaaDoorLw02Bind
namespace Go.Proofs.YtoipckflokdakaaDoor
open Go.RowKit Sha Mk
attribute [local go_sem] Oper.semAt_some
theorem cut_500 (s : ByteArray) (_hs : (s.size : Int) ≤ 9223372036854775807) : ∃ M : Nat, min (s.size : Int) 500 = (M : Int) ∧ M ≤ s.size ∧ M ≤ 500 ∧ (s.extract 0 M).size ≤ 500 :=
  ⟨min s.size 500, by omega, by omega, by omega, by rw [ByteArray.size_extract]; omega⟩
set_option maxRecDepth 100000 in
set_option maxHeartbeats 8000000 in
theorem sum_law (s t : ByteArray) (w : World) (hK : RoundIn w) (hs : (s.size : Int) ≤ 9223372036854775807) (ht : (t.size : Int) ≤ 9223372036854775807) :
    Calls Tryd.prog 10 #[.string s, .string t] w fun e w' => e = .returned (.bool true) ∧ Below w.heap.size w w' := by
  have HK := Lib.hid hK
  obtain ⟨Ms, ms1, ms2, ms3, ms4⟩ := cut_500 s hs
  obtain ⟨Mt, mt1, mt2, mt3, mt4⟩ := cut_500 t ht
  obtain ⟨S, hS⟩ : ∃ S, s.extract 0 Ms = S := ⟨_, rfl⟩
  obtain ⟨T, hT⟩ : ∃ T, t.extract 0 Mt = T := ⟨_, rfl⟩
  rw [hS] at ms4
  rw [hT] at mt4
  have HS := Lib.hid hS
  have HT := Lib.hid hT
  clear hK hS hT
  go_enter Tryd.func10, Tryd.ntmps10
  go_wp2_with fail
  refine (sane_any w HK.out).mono ?_
  rintro e w1 ⟨rfl, b1⟩
  go_wp2_with fail
  rw [HS.out]
  refine (sum_any S w1 (by omega) (HK.out.then_ b1)).mono ?_
  rintro e w2 ⟨rfl, b2⟩
  have B2 := Lib.hid (below_next b1 b2)
  clear b1 b2
  go_wp2_with fail
  refine (rsum_any S w2 (by omega)).mono ?_
  rintro e w3 ⟨rfl, b3⟩
  have B3 := Lib.hid (below_next B2.out b3)
  clear b3 B2
  have hd1 : ((sumS S).toList == (sumS S).toList) = true := eq_of rfl
  go_wp2_with fail
  rw [HT.out]
  refine (leaf_any T w3 (by omega) (HK.out.then_ B3.out)).mono ?_
  rintro e w4 ⟨rfl, b4⟩
  have B4 := Lib.hid (below_next B3.out b4)
  clear b4 B3
  go_wp2_with fail
  refine (rleaf_any T w4 (by omega)).mono ?_
  rintro e w5 ⟨rfl, b5⟩
  have B5 := Lib.hid (below_next B4.out b5)
  clear b5 B4
  have hd2 : ((leafS T).toList == (leafS T).toList) = true := eq_of rfl
  go_wp2_with fail
  refine (node_any S T w5 (by omega) (by omega) (HK.out.then_ B5.out)).mono ?_
  rintro e w6 ⟨rfl, b6⟩
  have B6 := Lib.hid (below_next B5.out b6)
  clear b6 B5
  go_wp2_with fail
  refine (rnode_any S T w6 (by omega) (by omega)).mono ?_
  rintro e w7 ⟨rfl, b7⟩
  have B7 := Lib.hid (below_next B6.out b7)
  clear b7 B6
  have hd3 : ((nodeS S T).toList == (nodeS S T).toList) = true := eq_of rfl
  go_wp2_with fail
  refine (chain_any T S w7 (by omega) (by omega) (HK.out.then_ B7.out)).mono ?_
  rintro e w8 ⟨rfl, b8⟩
  have B8 := Lib.hid (below_next B7.out b8)
  clear b8 B7
  go_wp2_with fail
  refine (rchain_any T S w8 (by omega) (by omega)).mono ?_
  rintro e w9 ⟨rfl, b9⟩
  have B9 := below_next B8.out b9
  clear b9 B8
  have hd4 : ((chainS T S).toList == (chainS T S).toList) = true := eq_of rfl
  go_wp2_with fail
  go_ret
  exact ⟨rfl, B9⟩
end Go.Proofs.YtoipckflokdakaaDoor
