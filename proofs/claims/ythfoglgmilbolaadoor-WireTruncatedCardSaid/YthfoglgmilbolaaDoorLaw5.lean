/- The walk of the law WireTruncated. -/
import Derived.Test.YthfoglgmilbolaaDoorLaw2
namespace Go.Proofs.YthfoglgmilbolaaDoor
open Go.RowKit Wire
theorem ext_zero (l : List UInt8) (j : Nat) : (ByteArray.mk l.toArray).extract 0 j = ByteArray.mk (l.take j).toArray := by
  apply ByteArray.ext
  rw [ByteArray.data_extract]
  apply Array.toList_inj.1
  simp [Array.toList_extract, List.extract]
set_option maxRecDepth 100000 in
set_option maxHeartbeats 4000000 in
theorem law5 (c d : Int) (text : ByteArray) (at0 : Int) (w : World) (hN : Nib w) (hs : (text.size : Int) ≤ 9223372036854775807) (n0 : -9223372036854775808 ≤ c) (n1 : c ≤ 9223372036854775807) (m0 : -9223372036854775808 ≤ d) (m1 : d ≤ 9223372036854775807)
    (a0 : -9223372036854775808 ≤ at0) (a1 : at0 ≤ 9223372036854775807) :
    Calls Tryd.prog 7 #[.int .i64 c, .int .i64 d, .string text, .int .i64 at0] w fun e w' => e = .returned (.bool true) ∧ Below w.heap.size w w' := by
  have HN := Lib.hid hN
  obtain ⟨M, q1, q2, q3⟩ := cut_min text.size 200 (by omega)
  clear hN
  have hc := numI_bd c
  have hd := numI_bd d
  have hpc := putI_num hc.1 hc.2
  have hpd := putI_num hd.1 hd.2
  have lc := enc_len9 (zz_lt (n := numI c) (by omega) (by omega))
  have ld := enc_len9 (zz_lt (n := numI d) (by omega) (by omega))
  have lc1 : 1 ≤ (enc (zz (numI c))).length := List.length_pos_iff.2 (enc_ne _)
  have HPC := Lib.hid hpc
  have HPD := Lib.hid hpd
  clear hpc hpd
  go_enter Tryd.func7, Tryd.ntmps7
  go_wp2_with fail
  refine (sane_any _ HN.out).mono ?_
  rintro e w1 ⟨rfl, b1⟩
  go_wp2_with fail
  refine (num_any c _ n0 n1).mono ?_
  rintro e w2 ⟨rfl, b2⟩
  go_wp2_with fail
  refine (put_any _ _).mono ?_
  rintro e w3 ⟨rfl, b3⟩
  rw [HPC.out.1, HPC.out.2]
  unfold bs
  go_wp2_with fail
  refine (num_any d _ m0 m1).mono ?_
  rintro e w4 ⟨rfl, b4⟩
  go_wp2_with fail
  refine (put_any _ _).mono ?_
  rintro e w5 ⟨rfl, b5⟩
  rw [HPD.out.1, HPD.out.2]
  unfold bs
  go_wp2_with fail
  obtain ⟨T, hT⟩ : ∃ T, text.extract 0 M = T := ⟨_, rfl⟩
  have hTs : (T.size : Int) ≤ 200 := by rw [← hT, ByteArray.size_extract]; omega
  rw [hT]
  clear hT q1 q2 q3 hs
  refine (puts_any _ _ (by omega)).mono ?_
  rintro e w6 ⟨rfl, b6⟩
  have hTl : T.data.toList.length ≤ 200 := by rw [len_size]; omega
  have l2 := putsI_len (t := T.data.toList) (by omega)
  have l3 : 1 ≤ (putsI T.data.toList).length := by rw [putsI, if_neg (by omega), List.length_append]; have := List.length_pos_iff.2 (enc_ne (zz (T.data.toList.length : Int))); omega
  rw [putsI_ok (by omega)]
  unfold bs
  have g1 : (((enc (zz (numI c))).length : Int) == 0) = false := beq_eq_false_iff_ne.2 (by omega)
  have g2 : (((putsI T.data.toList).length : Int) == 0) = false := beq_eq_false_iff_ne.2 (by omega)
  go_wp2_with fail
  refine (pick_any at0 _ _ a0 a1 (by omega) (by omega)).mono ?_
  rintro e w7 ⟨rfl, rfl⟩
  have p1 := pickI_lo at0 ((enc (zz (numI c))).length : Int) (by omega)
  have p2 := pickI_hi at0 ((enc (zz (numI c))).length : Int) (by omega)
  obtain ⟨j, hj⟩ := Int.eq_ofNat_of_zero_le p1
  rw [hj]
  have hjl : j < (enc (zz (numI c))).length := by omega
  clear p1 p2 hj
  go_wp2_with fail
  rw [ext_zero]
  refine (int_any _ _ _ (by rw [← len_size, data_mk, List.length_take]; omega)).mono ?_
  rintro e w7 ⟨rfl, rfl⟩
  rw [data_mk, iR_short hjl]
  unfold iV
  go_wp2_with fail
  refine (pick_any at0 _ _ a0 a1 (by omega) (by omega)).mono ?_
  rintro e w7 ⟨rfl, rfl⟩
  have p3 := pickI_lo at0 ((putsI T.data.toList).length : Int) (by omega)
  have p4 := pickI_hi at0 ((putsI T.data.toList).length : Int) (by omega)
  obtain ⟨k, hk⟩ := Int.eq_ofNat_of_zero_le p3
  rw [hk]
  have hkl : k < (putsI T.data.toList).length := by omega
  clear p3 p4 hk
  go_wp2_with fail
  rw [ext_zero]
  refine (str_any _ _ _ (by rw [← len_size, data_mk, List.length_take]; omega)).mono ?_
  rintro e w7 ⟨rfl, rfl⟩
  rw [data_mk, sR_short (by omega) hkl]
  unfold sV bs
  by_cases hlen : (enc (zz (numI c))).length ≤ (enc (zz (numI d))).length
  · by_cases hpre : (enc (zz (numI d))).take (enc (zz (numI c))).length = enc (zz (numI c))
    · have heq := enc_prefix hlen hpre
      have hb : (numI c == numI d) = true := by simp [heq]
      have hcmp : (((ByteArray.mk (enc (zz (numI d))).toArray).extract 0 (enc (zz (numI c))).length).toList == enc (zz (numI c))) = true := by rw [ext_zero, ByteArray.toList_mk, hpre]; simp
      have HB := Lib.hid hb
      clear hpre heq hb
      go_wp2_with fail
      refine (num_any c _ n0 n1).mono ?_
      rintro e w7 ⟨rfl, b7⟩
      go_wp2_with fail
      refine (num_any d _ m0 m1).mono ?_
      rintro e w8 ⟨rfl, b8⟩
      have hb := HB.out
      go_wp2_with fail
      go_ret
      exact ⟨rfl, below_next (below_next (below_next (below_next (below_next (below_next (below_next b1 b2) b3) b4) b5) b6) b7) b8⟩
    · have hb : (numI c == numI d) = false := by
        rw [beq_eq_false_iff_ne]; intro h; rw [h, List.take_length] at hpre; exact hpre rfl
      have hcmp : (((ByteArray.mk (enc (zz (numI d))).toArray).extract 0 (enc (zz (numI c))).length).toList == enc (zz (numI c))) = false := by
        rw [ext_zero, ByteArray.toList_mk]; simpa using hpre
      have HB := Lib.hid hb
      clear hpre hb
      go_wp2_with fail
      refine (num_any c _ n0 n1).mono ?_
      rintro e w7 ⟨rfl, b7⟩
      go_wp2_with fail
      refine (num_any d _ m0 m1).mono ?_
      rintro e w8 ⟨rfl, b8⟩
      have hb := HB.out
      go_wp2_with fail
      go_ret
      exact ⟨rfl, below_next (below_next (below_next (below_next (below_next (below_next (below_next b1 b2) b3) b4) b5) b6) b7) b8⟩
  · have hb : (numI c == numI d) = false := by
      rw [beq_eq_false_iff_ne]; intro h; rw [h] at hlen; omega
    have HB := Lib.hid hb
    clear hb
    go_wp2_with fail
    refine (num_any c _ n0 n1).mono ?_
    rintro e w7 ⟨rfl, b7⟩
    go_wp2_with fail
    refine (num_any d _ m0 m1).mono ?_
    rintro e w8 ⟨rfl, b8⟩
    have hb := HB.out
    go_wp2_with fail
    go_ret
    exact ⟨rfl, below_next (below_next (below_next (below_next (below_next (below_next (below_next b1 b2) b3) b4) b5) b6) b7) b8⟩
end Go.Proofs.YthfoglgmilbolaaDoor
