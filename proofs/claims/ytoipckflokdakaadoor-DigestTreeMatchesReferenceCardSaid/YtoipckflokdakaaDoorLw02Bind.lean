/- The walk of the law DigestBinding. -/
import Derived.Test.YtoipckflokdakaaDoorLw02PrfA
import Derived.Test.YtoipckflokdakaaDoorLw02Coll
import Derived.Test.YtoipckflokdakaaDoorLw02Way
namespace Go.Proofs.YtoipckflokdakaaDoor
open Go.RowKit Sha Mk
attribute [local go_sem] Oper.semAt_some
theorem few_in (A : Option Addr) (c n k : Nat) (l : List ByteArray) (hn : l.length = n) (w : World) (hA : StrsAt w A l) (hl : (n : Int) ≤ 9223372036854775807) (hk : k ≤ 100) (hs : ∀ s ∈ l, (s.size : Int) ≤ 9223372036854775807) :
    Calls Tryd.prog 13 #[.slice A n c, .int .i64 (k : Int)] w fun e w' => ∃ Ax cx, e = .returned (.slice Ax (fewS l k).length cx) ∧ StrsAt w' Ax (fewS l k) ∧ (fewS l k).length ≤ cx ∧ cx ≤ maxLen ∧ Below w.heap.size w w' := by
  subst hn
  refine (few_any A c l k w hA hl hk hs).mono ?_
  rintro e w' ⟨v, rfl, o, b⟩
  obtain ⟨Ax, cx, rfl, h1, h2, h3⟩ := own_strs o
  exact ⟨Ax, cx, rfl, h1, h2, h3, b⟩
/-- a string cut to 60 bytes, in the walk's words -/
theorem cut_to (s : ByteArray) (hs : (s.size : Int) ≤ 9223372036854775807) : ∃ M : Nat, min (s.size : Int) 60 = (M : Int) ∧ M ≤ s.size ∧ M ≤ 60 ∧ s.extract 0 M = cut60 s := by
  exact ⟨min s.size 60, by omega, by omega, by omega, rfl⟩
theorem verify_parts {rt : ByteArray} {n i : Int} {s : ByteArray} {p : List ByteArray} (h : verifyB rt n i s p = true) : ∃ n' i' : Nat, n = (n' : Int) ∧ i = (i' : Int) ∧ i' < n' ∧ (∀ x ∈ p, x.size = 32) ∧ valueS n' i' s p.reverse = some rt := by
  simp only [verifyB, Bool.and_eq_true, decide_eq_true_eq] at h
  obtain ⟨⟨⟨h1, h2⟩, h3⟩, h4⟩ := h
  obtain ⟨i', rfl⟩ := Int.eq_ofNat_of_zero_le h1
  obtain ⟨n', rfl⟩ := Int.eq_ofNat_of_zero_le (by omega : 0 ≤ n)
  refine ⟨n', i', rfl, rfl, by omega, all_sizes h3, ?_⟩
  rw [Int.toNat_natCast, Int.toNat_natCast] at h4
  cases hv : valueS n' i' s p.reverse with
  | none => rw [hv] at h4; cases h4
  | some v =>
    rw [hv, ← str_beq] at h4
    rw [(str_beq_iff _ _).1 h4]
theorem way_sizes : ∀ (P : List ByteArray) (n i : Nat) (s : ByteArray), s.size ≤ 60 → (∀ x ∈ P, x.size ≤ 60) → ∀ y ∈ (wayF n i s P).1, y.size ≤ 1000000
  | [], n, i, s, hs, _ => by
    rw [way_nil]
    intro y hy
    rw [List.mem_singleton.1 hy]
    simp [preS, size_mk]; have := len_data s; omega
  | x :: P, n, i, s, hs, hP => by
    have hP' : ∀ z ∈ P, z.size ≤ 60 := fun z hz => hP z (List.mem_cons_of_mem _ hz)
    have hx := hP x (List.mem_cons_self ..)
    have key : ∀ v : ByteArray, v.size = 32 → (preS 1 [v, x]).size ≤ 1000000 ∧ (preS 1 [x, v]).size ≤ 1000000 := fun v hv => by
      constructor <;> (simp [preS, size_mk]; have := len_data v; have := len_data x; omega)
    by_cases h : n ≤ 1
    · rw [way_one _ _ _ _ h]
      intro y hy
      rw [List.mem_singleton.1 hy]
      simp [preS, size_mk]; have := len_data s; omega
    · by_cases hi : i < lft n
      · rw [way_left _ _ _ _ _ (by omega) hi]
        intro y hy
        rcases List.mem_cons.1 hy with rfl | hy
        · exact (key _ (way_size _ _ _ _)).1
        · exact way_sizes P _ _ s hs hP' y hy
      · rw [way_right _ _ _ _ _ (by omega) hi]
        intro y hy
        rcases List.mem_cons.1 hy with rfl | hy
        · exact (key _ (way_size _ _ _ _)).2
        · exact way_sizes P _ _ s hs hP' y hy
theorem way_len : ∀ (P : List ByteArray) (n i : Nat) (s : ByteArray), (wayF n i s P).1.length ≤ P.length + 1
  | [], n, i, s => by rw [way_nil]; exact Nat.le_refl _
  | x :: P, n, i, s => by
    by_cases h : n ≤ 1
    · rw [way_one _ _ _ _ h]; simp
    · by_cases hi : i < lft n
      · rw [way_left _ _ _ _ _ (by omega) hi]; have := way_len P (lft n) i s; simp; omega
      · rw [way_right _ _ _ _ _ (by omega) hi]; have := way_len P (n - lft n) (i - lft n) s; simp; omega
set_option maxRecDepth 100000 in
set_option maxHeartbeats 8000000 in
theorem bind_law (rt : ByteArray) (n i : Int) (s : ByteArray) (A : Option Addr) (ca : Nat) (P : List ByteArray) (t : ByteArray) (B : Option Addr) (cb : Nat) (Q : List ByteArray) (w : World) (hK : RoundIn w)
    (hA : StrsAt w A P) (hl : (P.length : Int) ≤ 9223372036854775807) (hP : ∀ s ∈ P, (s.size : Int) ≤ 9223372036854775807) (hB : StrsAt w B Q) (hlb : (Q.length : Int) ≤ 9223372036854775807) (hQ : ∀ s ∈ Q, (s.size : Int) ≤ 9223372036854775807)
    (n0 : -9223372036854775808 ≤ n) (n1 : n ≤ 9223372036854775807) (i0 : -9223372036854775808 ≤ i) (i1 : i ≤ 9223372036854775807) (_hr : (rt.size : Int) ≤ 9223372036854775807) (hs : (s.size : Int) ≤ 9223372036854775807) (ht : (t.size : Int) ≤ 9223372036854775807) :
    Calls Tryd.prog 7 #[.string rt, .int .i64 n, .int .i64 i, .string s, .slice A P.length ca, .string t, .slice B Q.length cb] w fun e w' => e = .returned (.bool true) ∧ Below w.heap.size w w' := by
  have HK := Lib.hid hK
  obtain ⟨np, hnp⟩ : ∃ k, P.length = k := ⟨_, rfl⟩
  obtain ⟨nq, hnq⟩ : ∃ k, Q.length = k := ⟨_, rfl⟩
  have HF := Lib.hid (fun W h => few_in A ca np 70 P hnp W h (by omega) (by decide) hP)
  have HG := Lib.hid (fun W h => few_in B cb nq 70 Q hnq W h (by omega) (by decide) hQ)
  have hpz := fewS_sizes P 70
  have hqz := fewS_sizes Q 70
  have hpl : (fewS P 70).length ≤ 70 := by rw [fewS_length]; omega
  have hql : (fewS Q 70).length ≤ 70 := by rw [fewS_length]; omega
  have HA := Lib.hid hA
  have HB := Lib.hid hB
  obtain ⟨Ms, ms1, ms2, ms3, ms4⟩ := cut_to s hs
  obtain ⟨Mt, mt1, mt2, mt3, mt4⟩ := cut_to t ht
  have MS4 := Lib.hid ms4
  have MT4 := Lib.hid mt4
  have zs : (cut60 s).size ≤ 60 := cut60_size s
  have zt : (cut60 t).size ≤ 60 := cut60_size t
  rw [hnp, hnq]
  obtain ⟨X, hX⟩ : ∃ X, fewS P 70 = X := ⟨_, rfl⟩
  obtain ⟨Y, hY⟩ : ∃ Y, fewS Q 70 = Y := ⟨_, rfl⟩
  obtain ⟨S, hS⟩ : ∃ S, cut60 s = S := ⟨_, rfl⟩
  obtain ⟨T, hT⟩ : ∃ T, cut60 t = T := ⟨_, rfl⟩
  rw [hX] at HF hpz hpl
  rw [hY] at HG hqz hql
  rw [hS] at MS4 zs
  rw [hT] at MT4 zt
  obtain ⟨x, hx⟩ : ∃ x, X.length = x := ⟨_, rfl⟩
  obtain ⟨y, hy⟩ : ∃ y, Y.length = y := ⟨_, rfl⟩
  have HXL := Lib.hid hx
  have HYL := Lib.hid hy
  rw [hx] at HF hpl
  rw [hy] at HG hql
  have HPZ := Lib.hid hpz
  have HQZ := Lib.hid hqz
  clear hK hA hl hP hB hlb hQ hnp hnq hX hY hS hT ms4 mt4 hpz hqz hx hy
  go_enter Tryd.func7, Tryd.ntmps7
  go_wp2_with fail
  refine (sane_any w HK.out).mono ?_
  rintro e w1 ⟨rfl, b1⟩
  go_wp2_with fail
  refine (HF.out w1 (HA.out.then_ b1)).mono ?_
  rintro e w2 ⟨Ax, cx, rfl, sx, lx, mx, b2⟩
  have SX := Lib.hid sx
  have B2 := Lib.hid (below_next b1 b2)
  clear sx b1 b2
  go_wp2_with fail
  refine (HG.out w2 (HB.out.then_ B2.out)).mono ?_
  rintro e w3 ⟨Ay, cy, rfl, sy, ly, my, b3⟩
  have SY := Lib.hid sy
  have SX3 := Lib.hid (SX.out.then_ b3)
  have B3 := Lib.hid (below_next B2.out b3)
  clear sy b3 SX B2
  go_wp2_with fail
  rw [MS4.out, MT4.out]
  have HV := Lib.hid (verify_any rt n i S Ax cx X w3 n0 n1 i0 i1 (by omega) SX3.out (by rw [HXL.out]; omega) (by rw [HXL.out]; omega) mx (fun s hs => by have := HPZ.out s hs; omega) (HK.out.then_ B3.out))
  rw [HXL.out] at HV
  have HU := Lib.hid (fun (W : World) h1 h2 => verify_any rt n i T Ay cy Y W n0 n1 i0 i1 (by omega) h1 (by rw [HYL.out]; omega) (by rw [HYL.out]; omega) my (fun s hs => by have := HQZ.out s hs; omega) h2)
  rw [HYL.out] at HU
  obtain ⟨r1, hr1⟩ : ∃ r, verifyB rt n i S X = r := ⟨_, rfl⟩
  obtain ⟨r2, hr2⟩ : ∃ r, verifyB rt n i T Y = r := ⟨_, rfl⟩
  have HR1 := Lib.hid hr1
  have HR2 := Lib.hid hr2
  rw [hr1] at HV
  rw [hr2] at HU
  clear hr1 hr2
  refine HV.out.mono ?_
  rintro e w4 ⟨rfl, b4⟩
  have SY4 := Lib.hid (SY.out.then_ b4)
  have SX4 := Lib.hid (SX3.out.then_ b4)
  have B4 := Lib.hid (below_next B3.out b4)
  clear b4 B3 SX3 SY HV
  go_wp2_with fail
  refine (HU.out w4 SY4.out (HK.out.then_ B4.out)).mono ?_
  rintro e w5 ⟨rfl, b5⟩
  have SY5 := Lib.hid (SY4.out.then_ b5)
  have SX5 := Lib.hid (SX4.out.then_ b5)
  have B5 := Lib.hid (below_next B4.out b5)
  clear b5 B4 SX4 SY4 HU
  by_cases hgo : r1 = true ∧ r2 = true ∧ S ≠ T
  · obtain ⟨rfl, rfl, hne⟩ := hgo
    have hd : (S.toList == T.toList) = false := neq_of hne
    obtain ⟨n', i', rfl, rfl, hin, hX32, hv1⟩ := verify_parts HR1.out
    obtain ⟨n2, i2, e1, e2, _, hY32, hv2⟩ := verify_parts HR2.out
    obtain rfl : n2 = n' := by omega
    obtain rfl : i2 = i' := by omega
    have hcol := bind_way X.reverse Y.reverse n2 i2 S T rt (fun z hz => hX32 z (List.mem_reverse.1 hz)) (fun z hz => hY32 z (List.mem_reverse.1 hz)) hv1 hv2 hne
    have HW1 := Lib.hid (way_any x n2 i2 S Ax cx X w5 HXL.out n1 i1 (by omega) lx mx zs HPZ.out SX5.out (HK.out.then_ B5.out))
    have HW2 := Lib.hid (fun (W : World) h1 h2 => way_any y n2 i2 T Ay cy Y W HYL.out n1 i1 (by omega) ly my zt HQZ.out h1 h2)
    have hs1 := way_sizes X.reverse n2 i2 S zs (fun z hz => HPZ.out z (List.mem_reverse.1 hz))
    have hs2 := way_sizes Y.reverse n2 i2 T zt (fun z hz => HQZ.out z (List.mem_reverse.1 hz))
    have hl1 := way_len X.reverse n2 i2 S
    have hl2 := way_len Y.reverse n2 i2 T
    rw [List.length_reverse, HXL.out] at hl1
    rw [List.length_reverse, HYL.out] at hl2
    obtain ⟨R1, hR1⟩ : ∃ R, wayF n2 i2 S X.reverse = R := ⟨_, rfl⟩
    obtain ⟨R2, hR2⟩ : ∃ R, wayF n2 i2 T Y.reverse = R := ⟨_, rfl⟩
    rw [hR1] at hcol HW1 hs1 hl1
    rw [hR2] at hcol HW2 hs2 hl2
    obtain ⟨L1, V1⟩ := R1
    obtain ⟨L2, V2⟩ := R2
    dsimp only at hcol hs1 hs2 hl1 hl2
    have HC := Lib.hid (fun (W : World) (A1 A2 : Option Addr) (c1 c2 : Nat) h1 h2 h3 => collide_yes A1 A2 c1 c2 L1 L2 W h1 h2 hs1 hs2 (by omega) (by omega) hcol h3)
    obtain ⟨m1, hm1⟩ : ∃ m, L1.length = m := ⟨_, rfl⟩
    obtain ⟨m2, hm2⟩ : ∃ m, L2.length = m := ⟨_, rfl⟩
    have HW1 : Hid (Calls Tryd.prog 26 #[.int .i64 (n2 : Int), .int .i64 (i2 : Int), .string S, .slice Ax x cx] w5 fun e w' => ∃ Ar cr, e = .returned (.tuple #[.slice Ar m1 cr, .string V1]) ∧ StrsAt w' Ar L1 ∧ Below w5.heap.size w5 w') := by
      refine Lib.hid (HW1.out.mono ?_)
      rintro e w' ⟨Ar, cr, rfl, q1, _, _, _, q2⟩
      exact ⟨Ar, cr, by rw [← hm1], q1, q2⟩
    have HW2 : Hid (∀ W, StrsAt W Ay Y → RoundIn W → Calls Tryd.prog 26 #[.int .i64 (n2 : Int), .int .i64 (i2 : Int), .string T, .slice Ay y cy] W fun e w' => ∃ Ar cr, e = .returned (.tuple #[.slice Ar m2 cr, .string V2]) ∧ StrsAt w' Ar L2 ∧ Below W.heap.size W w') := by
      refine Lib.hid (fun W h1 h2 => (HW2.out W h1 h2).mono ?_)
      rintro e w' ⟨Ar, cr, rfl, q1, _, _, _, q2⟩
      exact ⟨Ar, cr, by rw [← hm2], q1, q2⟩
    rw [hm1, hm2] at HC
    clear hR1 hR2 hcol hs1 hs2 hl1 hl2 hm1 hm2 hX32 hY32 hv1 hv2 e1 e2 hne HR1 HR2
    go_wp2_with fail
    refine HW1.out.mono ?_
    rintro e w6 ⟨A1, c1, rfl, s1, b6⟩
    have S1 := Lib.hid s1
    have B6 := Lib.hid (below_next B5.out b6)
    have SY6 := Lib.hid (SY5.out.then_ b6)
    clear s1 b6 B5 SY5 SX5
    go_wp2_with fail
    refine (HW2.out w6 SY6.out (HK.out.then_ B6.out)).mono ?_
    rintro e w7 ⟨A2, c2, rfl, s2, b7⟩
    have S2 := Lib.hid s2
    have S17 := Lib.hid (S1.out.then_ b7)
    have B7 := Lib.hid (below_next B6.out b7)
    clear s2 b7 B6 SY6 S1
    go_wp2_with fail
    refine (HC.out w7 A1 A2 c1 c2 S17.out S2.out (HK.out.then_ B7.out)).mono ?_
    rintro e w8 ⟨rfl, b8⟩
    have B8 := below_next B7.out b8
    go_wp2_with fail
    go_ret
    exact ⟨rfl, B8⟩
  · have B5' := B5.out
    cases r1 with
    | false =>
      go_wp2_with fail
      go_ret
      exact ⟨rfl, B5'⟩
    | true =>
      cases r2 with
      | false =>
        go_wp2_with fail
        go_ret
        exact ⟨rfl, B5'⟩
      | true =>
        have he : S = T := by
          rcases Classical.em (S = T) with h | h
          · exact h
          · exact absurd ⟨rfl, rfl, h⟩ hgo
        have hd : (S.toList == T.toList) = true := eq_of he
        clear he hgo
        go_wp2_with fail
        go_ret
        exact ⟨rfl, B5'⟩
end Go.Proofs.YtoipckflokdakaaDoor
