/- The walk of the law DigestExtensionBinding. -/
import Derived.Test.YtoipckflokdakaaDoorLw02Bind
import Derived.Test.YtoipckflokdakaaDoorLw02Sides
namespace Go.Proofs.YtoipckflokdakaaDoor
open Go.RowKit Sha Mk
attribute [local go_sem] Oper.semAt_some
theorem vext_parts {old rt : ByteArray} {m n : Int} {p : List ByteArray} (h : verifyXB old m rt n p = true) : ∃ m' n' : Nat, m = (m' : Int) ∧ n = (n' : Int) ∧ m' ≤ n' ∧ (∀ x ∈ p, x.size = 32) ∧ old.size = 32 ∧ (m' = 0 → old = sumS ⟨#[]⟩) ∧ (m' = n' → m' ≠ 0 → old = rt) ∧ (m' ≠ 0 → m' ≠ n' → bothS old m' n' p.reverse true = some (old, rt)) := by
  simp only [verifyXB, Bool.and_eq_true, decide_eq_true_eq, beq_iff_eq] at h
  obtain ⟨⟨⟨⟨⟨h1, h2⟩, h3⟩, h4⟩, h5⟩, h6⟩ := h
  obtain ⟨m', rfl⟩ := Int.eq_ofNat_of_zero_le h1
  obtain ⟨n', rfl⟩ := Int.eq_ofNat_of_zero_le (by omega : 0 ≤ n)
  refine ⟨m', n', rfl, rfl, by omega, all_sizes h3, by omega, fun h0 => ?_, fun h0 h7 => ?_, fun h0 h7 => ?_⟩
  · rw [if_pos (by omega)] at h6
    exact (str_beq_iff _ _).1 (Bool.and_eq_true _ _ ▸ h6).2
  · rw [if_neg (by omega), if_pos (by omega)] at h6
    exact (str_beq_iff _ _).1 (Bool.and_eq_true _ _ ▸ h6).2
  · rw [if_neg (by omega), if_neg (by omega), Int.toNat_natCast, Int.toNat_natCast] at h6
    cases hv : bothS old m' n' p.reverse true with
    | none => rw [hv] at h6; cases h6
    | some v =>
      rw [hv] at h6
      have h8 : (v.1.toList == old.toList && v.2.toList == rt.toList) = true := h6
      rw [Bool.and_eq_true] at h8
      have e1 := (str_beq_iff _ _).1 h8.1
      have e2 := (str_beq_iff _ _).1 h8.2
      obtain ⟨v1, v2⟩ := v
      simp only at e1 e2
      rw [e1, e2]
theorem sides_sizes (old : ByteArray) (ho : old.size = 32) : ∀ (P : List ByteArray) (m n : Nat) (b : Bool), (∀ x ∈ P, x.size = 32) → (∀ y ∈ (sidesF old m n P b).1, y.size ≤ 1000000) ∧ (sidesF old m n P b).1.length ≤ P.length + 1
  | [], m, n, b, _ => by rw [sides_nil]; exact ⟨fun y hy => (by cases hy), Nat.zero_le _⟩
  | x :: P, m, n, b, hP => by
    have hP' : ∀ z ∈ P, z.size = 32 := fun z hz => hP z (List.mem_cons_of_mem _ hz)
    have hx := hP x (List.mem_cons_self ..)
    have key : ∀ v : ByteArray, v.size = 32 → (preS 1 [v, x]).size ≤ 1000000 ∧ (preS 1 [x, v]).size ≤ 1000000 := fun v hv => by
      constructor <;> (simp [preS, size_mk]; have := len_data v; have := len_data x; omega)
    by_cases h : n ≤ m
    · rw [sides_all _ _ _ _ _ _ h]; exact ⟨fun y hy => (by cases hy), Nat.zero_le _⟩
    · by_cases hk : m ≤ lft n
      · rw [sides_left _ _ _ _ _ _ (by omega) hk]
        have ih := sides_sizes old ho P m (lft n) b hP'
        refine ⟨fun y hy => ?_, by simp; exact ih.2⟩
        rcases List.mem_cons.1 hy with rfl | hy
        · exact (key _ (sides_size old ho _ _ _ _ hP')).1
        · exact ih.1 y hy
      · rw [sides_right _ _ _ _ _ _ (by omega) hk]
        have ih := sides_sizes old ho P (m - lft n) (n - lft n) false hP'
        refine ⟨fun y hy => ?_, by simp; exact ih.2⟩
        rcases List.mem_cons.1 hy with rfl | hy
        · exact (key _ (sides_size old ho _ _ _ _ hP')).2
        · exact ih.1 y hy
set_option maxRecDepth 100000 in
set_option maxHeartbeats 8000000 in
theorem xbind_law (a : ByteArray) (A : Option Addr) (ca : Nat) (P : List ByteArray) (b : ByteArray) (B : Option Addr) (cb : Nat) (Q : List ByteArray) (m : Int) (rt : ByteArray) (n : Int) (w : World) (hK : RoundIn w)
    (hA : StrsAt w A P) (hl : (P.length : Int) ≤ 9223372036854775807) (hP : ∀ s ∈ P, (s.size : Int) ≤ 9223372036854775807) (hB : StrsAt w B Q) (hlb : (Q.length : Int) ≤ 9223372036854775807) (hQ : ∀ s ∈ Q, (s.size : Int) ≤ 9223372036854775807)
    (m0 : -9223372036854775808 ≤ m) (m1 : m ≤ 9223372036854775807) (n0 : -9223372036854775808 ≤ n) (n1 : n ≤ 9223372036854775807) (ha : (a.size : Int) ≤ 9223372036854775807) (hb : (b.size : Int) ≤ 9223372036854775807) (hr : (rt.size : Int) ≤ 9223372036854775807) :
    Calls Tryd.prog 8 #[.string a, .slice A P.length ca, .string b, .slice B Q.length cb, .int .i64 m, .string rt, .int .i64 n] w fun e w' => e = .returned (.bool true) ∧ Below w.heap.size w w' := by
  have HK := Lib.hid hK
  obtain ⟨np, hnp⟩ : ∃ k, P.length = k := ⟨_, rfl⟩
  obtain ⟨nq, hnq⟩ : ∃ k, Q.length = k := ⟨_, rfl⟩
  have HF := Lib.hid (fun W h => few_in A ca np 70 P hnp W h (by omega) (by decide) hP)
  have HG := Lib.hid (fun W h => few_in B cb nq 70 Q hnq W h (by omega) (by decide) hQ)
  have hpz := fewS_sizes P 70
  have hqz := fewS_sizes Q 70
  have hpl : (fewS P 70).length ≤ 70 := by rw [fewS_length]; omega
  have hql : (fewS Q 70).length ≤ 70 := by rw [fewS_length]; omega
  have HA := Lib.hid hA
  have HB := Lib.hid hB
  rw [hnp, hnq]
  obtain ⟨X, hX⟩ : ∃ X, fewS P 70 = X := ⟨_, rfl⟩
  obtain ⟨Y, hY⟩ : ∃ Y, fewS Q 70 = Y := ⟨_, rfl⟩
  rw [hX] at HF hpz hpl
  rw [hY] at HG hqz hql
  obtain ⟨x, hx⟩ : ∃ x, X.length = x := ⟨_, rfl⟩
  obtain ⟨y, hy⟩ : ∃ y, Y.length = y := ⟨_, rfl⟩
  have HXL := Lib.hid hx
  have HYL := Lib.hid hy
  rw [hx] at HF hpl
  rw [hy] at HG hql
  have HPZ := Lib.hid hpz
  have HQZ := Lib.hid hqz
  clear hK hA hl hP hB hlb hQ hnp hnq hX hY hpz hqz hx hy
  go_enter Tryd.func8, Tryd.ntmps8
  go_wp2_with fail
  refine (sane_any w HK.out).mono ?_
  rintro e w1 ⟨rfl, b1⟩
  go_wp2_with fail
  refine (HF.out w1 (HA.out.then_ b1)).mono ?_
  rintro e w2 ⟨Ax, cx, rfl, sx, lx, mx, b2⟩
  have SX := Lib.hid sx
  have B2 := Lib.hid (below_next b1 b2)
  clear sx b1 b2
  go_wp2_with fail
  refine (HG.out w2 (HB.out.then_ B2.out)).mono ?_
  rintro e w3 ⟨Ay, cy, rfl, sy, ly, my, b3⟩
  have SY := Lib.hid sy
  have SX3 := Lib.hid (SX.out.then_ b3)
  have B3 := Lib.hid (below_next B2.out b3)
  clear sy b3 SX B2
  go_wp2_with fail
  have HV := Lib.hid (vext_any a m rt n Ax cx X w3 m0 m1 n0 n1 ha hr SX3.out (by rw [HXL.out]; omega) (by rw [HXL.out]; omega) mx (fun s hs => by have := HPZ.out s hs; omega) (HK.out.then_ B3.out))
  rw [HXL.out] at HV
  have HU := Lib.hid (fun (W : World) h1 h2 => vext_any b m rt n Ay cy Y W m0 m1 n0 n1 hb hr h1 (by rw [HYL.out]; omega) (by rw [HYL.out]; omega) my (fun s hs => by have := HQZ.out s hs; omega) h2)
  rw [HYL.out] at HU
  obtain ⟨r1, hr1⟩ : ∃ r, verifyXB a m rt n X = r := ⟨_, rfl⟩
  obtain ⟨r2, hr2⟩ : ∃ r, verifyXB b m rt n Y = r := ⟨_, rfl⟩
  have HR1 := Lib.hid hr1
  have HR2 := Lib.hid hr2
  rw [hr1] at HV
  rw [hr2] at HU
  clear hr1 hr2
  refine HV.out.mono ?_
  rintro e w4 ⟨rfl, b4⟩
  have SY4 := Lib.hid (SY.out.then_ b4)
  have SX4 := Lib.hid (SX3.out.then_ b4)
  have B4 := Lib.hid (below_next B3.out b4)
  clear b4 B3 SX3 SY HV
  go_wp2_with fail
  refine (HU.out w4 SY4.out (HK.out.then_ B4.out)).mono ?_
  rintro e w5 ⟨rfl, b5⟩
  have SY5 := Lib.hid (SY4.out.then_ b5)
  have SX5 := Lib.hid (SX4.out.then_ b5)
  have B5 := Lib.hid (below_next B4.out b5)
  clear b5 B4 SX4 SY4 HU
  by_cases hgo : r1 = true ∧ r2 = true ∧ a ≠ b
  · obtain ⟨rfl, rfl, hne⟩ := hgo
    have hd : (a.toList == b.toList) = false := neq_of hne
    obtain ⟨m', n', rfl, rfl, hmn, hX32, hz1, ha0, han, hv1⟩ := vext_parts HR1.out
    obtain ⟨m2, n2, e1, e2, _, hY32, hz2, hb0, hbn, hv2⟩ := vext_parts HR2.out
    obtain rfl : n2 = n' := by omega
    obtain rfl : m2 = m' := by omega
    have hm0 : m2 ≠ 0 := fun h => hne ((ha0 h).trans (hb0 h).symm)
    have hmn2 : m2 ≠ n2 := fun h => hne ((han h hm0).trans (hbn h hm0).symm)
    have hcol := bind_sides a b hz1 hz2 X.reverse Y.reverse m2 n2 true a b rt (fun z hz => hX32 z (List.mem_reverse.1 hz)) (fun z hz => hY32 z (List.mem_reverse.1 hz)) (hv1 hm0 hmn2) (hv2 hm0 hmn2) hne
    have HW1 := Lib.hid (sides_any a hz1 x m2 n2 true Ax cx X w5 HXL.out (by omega) n1 m1 (by omega) lx mx hX32 SX5.out (HK.out.then_ B5.out))
    have HW2 := Lib.hid (fun (W : World) h1 h2 => sides_any b hz2 y m2 n2 true Ay cy Y W HYL.out (by omega) n1 m1 (by omega) ly my hY32 h1 h2)
    obtain ⟨hs1, hl1⟩ := sides_sizes a hz1 X.reverse m2 n2 true (fun z hz => hX32 z (List.mem_reverse.1 hz))
    obtain ⟨hs2, hl2⟩ := sides_sizes b hz2 Y.reverse m2 n2 true (fun z hz => hY32 z (List.mem_reverse.1 hz))
    rw [List.length_reverse, HXL.out] at hl1
    rw [List.length_reverse, HYL.out] at hl2
    obtain ⟨R1, hR1⟩ : ∃ R, sidesF a m2 n2 X.reverse true = R := ⟨_, rfl⟩
    obtain ⟨R2, hR2⟩ : ∃ R, sidesF b m2 n2 Y.reverse true = R := ⟨_, rfl⟩
    rw [hR1] at hcol HW1 hs1 hl1
    rw [hR2] at hcol HW2 hs2 hl2
    obtain ⟨L1, V1⟩ := R1
    obtain ⟨L2, V2⟩ := R2
    dsimp only at hcol hs1 hs2 hl1 hl2
    have HC := Lib.hid (fun (W : World) (A1 A2 : Option Addr) (c1 c2 : Nat) h1 h2 h3 => collide_yes A1 A2 c1 c2 L1 L2 W h1 h2 hs1 hs2 (by omega) (by omega) hcol h3)
    obtain ⟨k1, hm1⟩ : ∃ m, L1.length = m := ⟨_, rfl⟩
    obtain ⟨k2, hm2⟩ : ∃ m, L2.length = m := ⟨_, rfl⟩
    have HW1 : Hid (Calls Tryd.prog 28 #[.string a, .int .i64 (m2 : Int), .int .i64 (n2 : Int), .slice Ax x cx, .bool true] w5 fun e w' => ∃ Ar cr, e = .returned (.tuple #[.slice Ar k1 cr, .string V1]) ∧ StrsAt w' Ar L1 ∧ Below w5.heap.size w5 w') := by
      refine Lib.hid (HW1.out.mono ?_)
      rintro e w' ⟨Ar, cr, rfl, q1, _, _, _, q2⟩
      exact ⟨Ar, cr, by rw [← hm1], q1, q2⟩
    have HW2 : Hid (∀ W, StrsAt W Ay Y → RoundIn W → Calls Tryd.prog 28 #[.string b, .int .i64 (m2 : Int), .int .i64 (n2 : Int), .slice Ay y cy, .bool true] W fun e w' => ∃ Ar cr, e = .returned (.tuple #[.slice Ar k2 cr, .string V2]) ∧ StrsAt w' Ar L2 ∧ Below W.heap.size W w') := by
      refine Lib.hid (fun W h1 h2 => (HW2.out W h1 h2).mono ?_)
      rintro e w' ⟨Ar, cr, rfl, q1, _, _, _, q2⟩
      exact ⟨Ar, cr, by rw [← hm2], q1, q2⟩
    rw [hm1, hm2] at HC
    clear hR1 hR2 hcol hs1 hs2 hl1 hl2 hm1 hm2 hX32 hY32 hv1 hv2 e1 e2 hne HR1 HR2 ha0 han hb0 hbn
    go_wp2_with fail
    refine HW1.out.mono ?_
    rintro e w6 ⟨A1, c1, rfl, s1, b6⟩
    have S1 := Lib.hid s1
    have B6 := Lib.hid (below_next B5.out b6)
    have SY6 := Lib.hid (SY5.out.then_ b6)
    clear s1 b6 B5 SY5 SX5
    go_wp2_with fail
    refine (HW2.out w6 SY6.out (HK.out.then_ B6.out)).mono ?_
    rintro e w7 ⟨A2, c2, rfl, s2, b7⟩
    have S2 := Lib.hid s2
    have S17 := Lib.hid (S1.out.then_ b7)
    have B7 := Lib.hid (below_next B6.out b7)
    clear s2 b7 B6 SY6 S1
    go_wp2_with fail
    refine (HC.out w7 A1 A2 c1 c2 S17.out S2.out (HK.out.then_ B7.out)).mono ?_
    rintro e w8 ⟨rfl, b8⟩
    have B8 := below_next B7.out b8
    go_wp2_with fail
    go_ret
    exact ⟨rfl, B8⟩
  · have B5' := B5.out
    cases r1 with
    | false =>
      go_wp2_with fail
      go_ret
      exact ⟨rfl, B5'⟩
    | true =>
      cases r2 with
      | false =>
        go_wp2_with fail
        go_ret
        exact ⟨rfl, B5'⟩
      | true =>
        have he : a = b := by
          rcases Classical.em (a = b) with h | h
          · exact h
          · exact absurd ⟨rfl, rfl, h⟩ hgo
        have hd : (a.toList == b.toList) = true := eq_of he
        clear he hgo
        go_wp2_with fail
        go_ret
        exact ⟨rfl, B5'⟩
end Go.Proofs.YtoipckflokdakaaDoor
