/- The walk of the law WireRoundTrip. -/
import Derived.Test.YthfoglgmilbolaaDoorWireLaws
namespace Go.Proofs.YthfoglgmilbolaaDoor
open Go.RowKit Wire
/-- how much of a string is taken -/
theorem cut_min (n : Nat) (m : Int) (hm : 0 ≤ m) : ∃ M : Nat, (if m < (n : Int) then m else (n : Int)) = (M : Int) ∧ M ≤ n ∧ (M : Int) ≤ m := by
  by_cases h : m < (n : Int)
  · exact ⟨m.toNat, by rw [if_pos h]; omega, by omega, by omega⟩
  · exact ⟨n, by rw [if_neg h], by omega, by omega⟩
theorem data_mk (l : List UInt8) : (ByteArray.mk l.toArray).data.toList = l := by simp
theorem below_next {a b c : World} (h : Below a.heap.size a b) (k : Below b.heap.size b c) : Below a.heap.size a c := h.trans (k.mono h.size)
theorem cat_data (P Q : ByteArray) (l : List UInt8) : (P ++ ByteArray.mk l.toArray ++ Q).data.toList = P.data.toList ++ l ++ Q.data.toList := by simp [ByteArray.data_append]
theorem len_size (P : ByteArray) : P.data.toList.length = P.size := by simp
theorem cat_size (P Q : ByteArray) (l : List UInt8) : (P ++ ByteArray.mk l.toArray ++ Q).size = P.size + l.length + Q.size := by
  rw [← len_size, cat_data, List.length_append, List.length_append, len_size, len_size]
set_option maxRecDepth 100000 in
set_option maxHeartbeats 4000000 in
theorem law2 (c : Int) (text A0 A1 : ByteArray) (w : World) (hN : Nib w) (hs : (text.size : Int) ≤ 9223372036854775807) (hs0 : (A0.size : Int) ≤ 9223372036854775807) (hs1 : (A1.size : Int) ≤ 9223372036854775807) (n0 : -9223372036854775808 ≤ c) (n1 : c ≤ 9223372036854775807) :
    Calls Tryd.prog 4 #[.int .i64 c, .string text, .agg #[.string A0, .string A1]] w fun e w' => e = .returned (.bool true) ∧ Below w.heap.size w w' := by
  have HN := Lib.hid hN
  obtain ⟨M, m1, m2, m3⟩ := cut_min text.size 200 (by omega)
  obtain ⟨M0, m4, m5, m6⟩ := cut_min A0.size 200 (by omega)
  obtain ⟨M1, m7, m8, m9⟩ := cut_min A1.size 200 (by omega)
  clear hN
  go_enter Tryd.func4, Tryd.ntmps4
  go_wp2_with fail
  obtain ⟨W0, hW0⟩ : ∃ W0, w.alloc (.cells #[.string A0, .string A1] 36) = W0 := ⟨_, rfl⟩
  have B0 : Below w.heap.size w W0 := by rw [← hW0]; exact (Below.refl _ _).alloc (Nat.le_refl _) _
  have c0 : W0.cell? ⟨w.heap.size, 0, none⟩ = some (.string A0) := by rw [← hW0]; simp
  have c1 : W0.cell? ⟨w.heap.size, 1, none⟩ = some (.string A1) := by rw [← hW0]; simp
  have hlt : w.heap.size < W0.heap.size := by rw [← hW0]; simp
  rw [hW0]
  clear hW0
  refine (sane_any _ (HN.out.below B0 (Nat.le_refl _))).mono ?_
  rintro e w1 ⟨rfl, b1⟩
  go_wp2_with fail
  refine (num_any c _ n0 n1).mono ?_
  rintro e w2 ⟨rfl, b2⟩
  have B2 := b1.trans (b2.mono b1.size)
  have d0 := (B2.cell (p := ⟨w.heap.size, 0, none⟩) hlt).trans c0
  have d1 := (B2.cell (p := ⟨w.heap.size, 1, none⟩) hlt).trans c1
  clear c0 c1 b1 b2
  have hnb := numI_bd c
  go_wp2_with fail
  obtain ⟨T, hT⟩ : ∃ T, text.extract 0 M = T := ⟨_, rfl⟩
  obtain ⟨P, hP⟩ : ∃ P, A0.extract 0 M0 = P := ⟨_, rfl⟩
  obtain ⟨Q, hQ⟩ : ∃ Q, A1.extract 0 M1 = Q := ⟨_, rfl⟩
  have hTs : (T.size : Int) ≤ 200 := by rw [← hT, ByteArray.size_extract]; omega
  have hPs : (P.size : Int) ≤ 200 := by rw [← hP, ByteArray.size_extract]; omega
  have hQs : (Q.size : Int) ≤ 200 := by rw [← hQ, ByteArray.size_extract]; omega
  rw [hT, hP, hQ]
  clear hT hP hQ m1 m2 m3 m4 m5 m6 m7 m8 m9 d0 d1 hs hs0 hs1
  refine (put_any _ _).mono ?_
  rintro e w3 ⟨rfl, b3⟩
  rw [(putI_num hnb.1 hnb.2).1, (putI_num hnb.1 hnb.2).2]
  have l1 := enc_len9 (zz_lt (n := numI c) (by omega) (by omega))
  unfold bs
  go_wp2_with fail
  refine (puts_any _ _ (by omega)).mono ?_
  rintro e w4 ⟨rfl, b4⟩
  have hTl : T.data.toList.length ≤ 200 := by have : T.data.toList.length = T.size := by simp
                                              omega
  rw [putsI_ok (by omega)]
  have l2 := putsI_len (t := T.data.toList) (by omega)
  unfold bs
  go_wp2_with fail
  refine (int_any _ _ _ (by rw [cat_size]; omega)).mono ?_
  rintro e w5 ⟨rfl, rfl⟩
  have e1 := iR_enc P.data.toList Q.data.toList (n := numI c) (by omega) (by omega)
  rw [cat_data, ← len_size P, e1, len_size P]
  clear e1
  unfold iV
  go_wp2_with fail
  refine (str_any _ _ _ (by rw [cat_size]; omega)).mono ?_
  rintro e w5 ⟨rfl, rfl⟩
  have e2 := sR_enc P.data.toList Q.data.toList T.data.toList (by omega)
  rw [cat_data, ← len_size P, e2, len_size P]
  clear e2
  unfold sV bs
  go_wp2_with fail
  go_ret
  exact ⟨rfl, below_next (below_next (below_next B0 B2) b3) b4⟩
end Go.Proofs.YthfoglgmilbolaaDoor
