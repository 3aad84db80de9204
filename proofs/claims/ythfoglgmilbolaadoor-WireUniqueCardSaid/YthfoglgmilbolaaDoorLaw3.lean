/- The walk of the law WireUnique. -/
import Derived.Test.YthfoglgmilbolaaDoorLaw2
namespace Go.Proofs.YthfoglgmilbolaaDoor
open Go.RowKit Wire
theorem ext_take' (s : ByteArray) (a j : Nat) : (s.extract a (a + j)).toList = (s.data.toList.drop a).take j := by
  rw [ByteArray.toList_eq, ByteArray.data_extract, Array.toList_extract]
  simp [List.extract]
set_option maxRecDepth 100000 in
set_option maxHeartbeats 4000000 in
theorem law3 (s : ByteArray) (at0 : Int) (f0 : Int) (w : World) (hN : Nib w) (hs : (s.size : Int) ≤ 9223372036854775807) (n0 : -9223372036854775808 ≤ at0) (n1 : at0 ≤ 9223372036854775807) (k0 : 0 ≤ f0) (k1 : f0 ≤ 255) :
    Calls Tryd.prog 5 #[.string s, .int .i64 at0, .int .u8 f0] w fun e w' => e = .returned (.bool true) ∧ Below w.heap.size w w' := by
  have HN := Lib.hid hN
  obtain ⟨M, m1, m2, m3⟩ := cut_min s.size 300 (by omega)
  clear hN
  go_enter Tryd.func5, Tryd.ntmps5
  go_wp2_with fail
  refine (sane_any _ HN.out).mono ?_
  rintro e w1 ⟨rfl, b1⟩
  have hcv : ∀ W : World, W.cell? ⟨w1.heap.size, 0, none⟩ = some (.int .u8 f0) → (convert 38 9 (.slice (some ⟨w1.heap.size, 0, none⟩) 1 1)).run Tryd.prog W = .ok (.string ⟨[UInt8.ofNat f0.toNat].toArray⟩) W := by
    intro W hc
    have hcell : ∀ i, i < 1 → W.cell? ⟨w1.heap.size, 0 + i, none⟩ = some (.int .u8 ([f0].getD i 0)) := by
      intro i hi
      obtain rfl : i = 0 := by omega
      simpa using hc
    rw [run_convert_bytes_arg W 38 5 Tryd.underlying38 Tryd.underlying5 w1.heap.size 0 1 1 [f0] rfl hcell 9 Tryd.underlying9]
    rfl
  go_wp2_with fail
  go_region
  clear hcv
  obtain ⟨W0, hW0⟩ : ∃ W0, (w1.alloc (.cells #[.int .u8 f0] 5)).drew = W0 := ⟨_, rfl⟩
  have B0 : Below w.heap.size w W0 := by rw [← hW0]; exact (b1.alloc b1.size _).drew
  rw [hW0]
  clear hW0 b1
  go_wp2_with fail
  refine (pick_any at0 _ _ n0 n1 (by omega) (by omega)).mono ?_
  rintro e w2 ⟨rfl, rfl⟩
  have p1 := pickI_lo at0 (1 + (M : Int) + 1) (by omega)
  have p2 := pickI_hi at0 (1 + (M : Int) + 1) (by omega)
  go_wp2_with fail
  obtain ⟨T, hT⟩ : ∃ T, ByteArray.mk #[UInt8.ofNat f0.toNat] ++ s.extract 0 M = T := ⟨_, rfl⟩
  have hTs : T.size = 1 + M := by rw [← hT, ByteArray.size_append, ByteArray.size_extract, show (ByteArray.mk #[UInt8.ofNat f0.toNat]).size = 1 from rfl]; omega
  have hTs1 : T.size ≤ 1 + M := by omega
  have hTs2 : 1 + M ≤ T.size := by omega
  have hTl := len_size T
  obtain ⟨y, hy⟩ := Int.eq_ofNat_of_zero_le p1
  have hyl : y ≤ T.size := by omega
  rw [hT, hy]
  clear hT hTs hy p1 p2 m1 m2 hs k0 k1 n0 n1
  obtain ⟨V0, hV0⟩ : ∃ V0, W0.alloc (.cells #[.int .i64 0, .int .i64 (y : Int)] 3) = V0 := ⟨_, rfl⟩
  have c0 : V0.cell? ⟨W0.heap.size, 0, none⟩ = some (.int .i64 0) := by rw [← hV0]; simp
  have c1 : V0.cell? ⟨W0.heap.size, 1, none⟩ = some (.int .i64 (y : Int)) := by rw [← hV0]; simp
  have hlt : W0.heap.size < V0.heap.size := by rw [← hV0]; simp
  have B2 : Below w.heap.size w V0 := by rw [← hV0]; exact B0.alloc B0.size _
  rw [hV0]
  obtain ⟨B, hBe⟩ : ∃ B, B = W0.heap.size := ⟨_, rfl⟩
  rw [← hBe] at c0 c1 hlt ⊢
  clear hV0 B0 hBe
  have HTl := Lib.hid hTl
  clear hTl
  go_loopw [38] (fun i wr => ∃ k : Nat, k ≤ 2 ∧ i = .int .i64 (k : Int) ∧ Below V0.heap.size V0 wr) (fun i _ => 2 - (intOf i).toNat)
  case atStart => exact ⟨0, by omega, rfl, Below.refl _ _⟩
  case round =>
    obtain ⟨k, hk, rfl, hB⟩ := hrel
    by_cases hk2 : k < 2
    · obtain ⟨a, hc, ha⟩ : ∃ a : Nat, wr.cell? ⟨B, k, none⟩ = some (.int .i64 (a : Int)) ∧ a ≤ T.size := by
        rcases (show k = 0 ∨ k = 1 by omega) with rfl | rfl
        · exact ⟨0, (hB.cell (p := ⟨B, 0, none⟩) hlt).trans c0, by omega⟩
        · exact ⟨y, (hB.cell (p := ⟨B, 1, none⟩) hlt).trans c1, hyl⟩
      clear c0 c1
      go_wp2_with fail
      refine (int_any _ _ _ (by omega)).mono ?_
      rintro e w3 ⟨rfl, rfl⟩
      rcases iR_nat (l := T.data.toList) (a := a) (by rw [HTl.out]; exact ha) with ⟨n, j, hi, hj, he, hn0, hn1, hp⟩ | hi
      all_goals rcases sR_nat (l := T.data.toList) (a := a) (by rw [HTl.out]; exact ha) with ⟨t, m, hx, hm, hf, htl, hq⟩ | hx
      · rw [hi]
        rw [HTl.out] at hj
        rw [HTl.out] at hm
        have HX := Lib.hid hx
        have HF := Lib.hid hf
        have hcmq : ((T.extract a (a + m)).toList == putsI t) = true := by rw [ext_take', hq]; simp
        have HQ := Lib.hid hcmq
        clear hf hq hcmq
        have hcmp : ((T.extract a (a + j)).toList == putI n) = true := by rw [ext_take', hp]; simp
        have HE := Lib.hid he
        clear he hp
        clear hi hx
        unfold iV
        go_wp2_with fail
        refine (put_any _ _).mono ?_
        rintro e w3 ⟨rfl, b3⟩
        rw [HE.out]
        unfold bs
        go_wp2_with fail
        refine (str_any _ _ _ (by omega)).mono ?_
        rintro e w4 ⟨rfl, rfl⟩
        rw [HX.out]
        unfold sV bs
        go_wp2_with fail
        refine (puts_any ⟨t.toArray⟩ _ (by rw [← len_size, data_mk]; omega)).mono ?_
        rintro e w4 ⟨rfl, b4⟩
        rw [data_mk, HF.out]
        have hcmq := HQ.out
        unfold bs
        go_wp2_with fail
        exact ⟨⟨k + 1, by omega, by go_num, (hB.trans (b3.mono hB.size)).trans (b4.mono (Nat.le_trans hB.size b3.size))⟩, by simp [intOf]; omega⟩
      · rw [hi]
        rw [HTl.out] at hj
        have HX := Lib.hid hx
        have hcmp : ((T.extract a (a + j)).toList == putI n) = true := by rw [ext_take', hp]; simp
        have HE := Lib.hid he
        clear he hp
        clear hi hx
        unfold iV
        go_wp2_with fail
        refine (put_any _ _).mono ?_
        rintro e w3 ⟨rfl, b3⟩
        rw [HE.out]
        unfold bs
        go_wp2_with fail
        refine (str_any _ _ _ (by omega)).mono ?_
        rintro e w4 ⟨rfl, rfl⟩
        rw [HX.out]
        unfold sV bs
        go_wp2_with fail
        refine (puts_any ⟨#[]⟩ _ (by decide)).mono ?_
        rintro e w4 ⟨rfl, b4⟩
        unfold bs
        go_wp2_with fail
        exact ⟨⟨k + 1, by omega, by go_num, (hB.trans (b3.mono hB.size)).trans (b4.mono (Nat.le_trans hB.size b3.size))⟩, by simp [intOf]; omega⟩
      · rw [hi]
        rw [HTl.out] at hm
        have HX := Lib.hid hx
        have HF := Lib.hid hf
        have hcmq : ((T.extract a (a + m)).toList == putsI t) = true := by rw [ext_take', hq]; simp
        have HQ := Lib.hid hcmq
        clear hf hq hcmq
        clear hi hx
        unfold iV
        go_wp2_with fail
        refine (put_any _ _).mono ?_
        rintro e w3 ⟨rfl, b3⟩
        unfold bs
        go_wp2_with fail
        refine (str_any _ _ _ (by omega)).mono ?_
        rintro e w4 ⟨rfl, rfl⟩
        rw [HX.out]
        unfold sV bs
        go_wp2_with fail
        refine (puts_any ⟨t.toArray⟩ _ (by rw [← len_size, data_mk]; omega)).mono ?_
        rintro e w4 ⟨rfl, b4⟩
        rw [data_mk, HF.out]
        have hcmq := HQ.out
        unfold bs
        go_wp2_with fail
        exact ⟨⟨k + 1, by omega, by go_num, (hB.trans (b3.mono hB.size)).trans (b4.mono (Nat.le_trans hB.size b3.size))⟩, by simp [intOf]; omega⟩
      · rw [hi]
        have HX := Lib.hid hx
        clear hi hx
        unfold iV
        go_wp2_with fail
        refine (put_any _ _).mono ?_
        rintro e w3 ⟨rfl, b3⟩
        unfold bs
        go_wp2_with fail
        refine (str_any _ _ _ (by omega)).mono ?_
        rintro e w4 ⟨rfl, rfl⟩
        rw [HX.out]
        unfold sV bs
        go_wp2_with fail
        refine (puts_any ⟨#[]⟩ _ (by decide)).mono ?_
        rintro e w4 ⟨rfl, b4⟩
        unfold bs
        go_wp2_with fail
        exact ⟨⟨k + 1, by omega, by go_num, (hB.trans (b3.mono hB.size)).trans (b4.mono (Nat.le_trans hB.size b3.size))⟩, by simp [intOf]; omega⟩
    · obtain rfl : k = 2 := by omega
      go_wp2_with fail
      go_ret
      exact ⟨rfl, below_next B2 hB⟩
end Go.Proofs.YthfoglgmilbolaaDoor
