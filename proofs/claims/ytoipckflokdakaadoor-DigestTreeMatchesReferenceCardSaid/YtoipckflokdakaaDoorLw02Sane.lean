/- The laws function sane of chapter 02. -/
import Derived.Test.YtoipckflokdakaaDoorLw02Val
namespace Go.Proofs.YtoipckflokdakaaDoor
open Go.RowKit Sha Mk
attribute [local go_sem] Oper.semAt_some
theorem own_strs {w : World} {base : Nat} {e : TypeId} {v : Value} {p : List ByteArray} (h : w.ownsRow base e 1 v p.length (svs p)) : ∃ A c, v = .slice A p.length c ∧ StrsAt w A p ∧ p.length ≤ c ∧ c ≤ maxLen := by
  rcases h.2 with ⟨h1, h2⟩ | ⟨g, cap, cur, h1, h2, h3, h4, h5, h6, h7⟩
  · exact ⟨none, 0, by rw [h1, h2], fun i hi => by omega, by omega, Nat.zero_le _⟩
  · subst h1
    exact ⟨_, _, rfl, strs_of_own h, h4, h5⟩
theorem all_two {a b : ByteArray} (ha : a.size = 32) (hb : b.size = 32) : allB [a, b] = true := by simp [allB, oddB, ha, hb]
theorem two_sizes : ∀ s ∈ [leafS sb, leafS sc], (s.size : Int) ≤ 9223372036854775807 := fun s hs => by
  rcases List.mem_cons.1 hs with rfl | hs
  · rw [leafS_size]; decide
  · rw [List.mem_singleton.1 hs, leafS_size]; decide
theorem all_one {a : ByteArray} (ha : a.size = 32) : allB [a] = true := by simp [allB, oddB, ha]
theorem vb_1 : verifyB (rootS [sa, sb, sc]) 3 2 sc [nodeS (leafS sa) (leafS sb)] = true := by
  rw [verifyB, all_one (nodeS_size _ _), show valueS (3 : Int).toNat (2 : Int).toNat sc [nodeS (leafS sa) (leafS sb)].reverse = some (rootS [sa, sb, sc]) from rfl]
  have := (str_beq_iff (rootS [sa, sb, sc]) (rootS [sa, sb, sc])).2 rfl
  rw [str_beq] at this
  rw [this]; rfl
theorem vb_2 : verifyB (rootS [sa, sb, sc]) 3 2 sd [nodeS (leafS sa) (leafS sb)] = false := by
  rw [verifyB, show valueS (3 : Int).toNat (2 : Int).toNat sd [nodeS (leafS sa) (leafS sb)].reverse = some (nodeS (nodeS (leafS sa) (leafS sb)) (leafS sd)) from rfl, ← str_beq]
  rw [show ((nodeS (nodeS (leafS sa) (leafS sb)) (leafS sd)).toList == (rootS [sa, sb, sc]).toList) = false from by
    rw [Bool.eq_false_iff]; intro h; exact ne_1 ((str_beq_iff _ _).1 h)]
  exact Bool.and_false _
theorem vx_1 : verifyXB (rootS [sa]) 1 (rootS [sa, sb, sc]) 3 [leafS sb, leafS sc] = true := by
  rw [verifyXB, all_two (leafS_size _) (leafS_size _), rootS_size, rootS_size, if_neg (by decide), if_neg (by decide), show bothS (rootS [sa]) (1 : Int).toNat (3 : Int).toNat [leafS sb, leafS sc].reverse true = some (rootS [sa], rootS [sa, sb, sc]) from rfl]
  simp only [(str_beq_iff _ _).2]
  rfl
theorem vx_2 : verifyXB (rootS [sa, sb]) 1 (rootS [sa, sb, sc]) 3 [leafS sb, leafS sc] = false := by
  rw [verifyXB, if_neg (by decide), if_neg (by decide), show bothS (rootS [sa, sb]) (1 : Int).toNat (3 : Int).toNat [leafS sb, leafS sc].reverse true = some (rootS [sa, sb], nodeS (nodeS (nodeS (leafS sa) (leafS sb)) (leafS sb)) (leafS sc)) from rfl]
  simp only
  rw [show ((nodeS (nodeS (nodeS (leafS sa) (leafS sb)) (leafS sb)) (leafS sc)).toList == (rootS [sa, sb, sc]).toList) = false from by
    rw [Bool.eq_false_iff]; intro h; exact ne_2 ((str_beq_iff _ _).1 h), Bool.and_false, Bool.and_false]
set_option maxRecDepth 100000 in
set_option maxHeartbeats 8000000 in
theorem sane_any (w : World) (hK : RoundIn w) : Calls Tryd.prog 12 #[] w fun e w' => e = .returned (.bool true) ∧ Below w.heap.size w w' := by
  have HK := Lib.hid hK
  clear hK
  go_enter Tryd.func12, Tryd.ntmps12
  go_wp2_with fail
  have hB := below_alloc (Below.refl w.heap.size w) (.cells #[.string sa, .string sb, .string sc] 9)
  have hst : StrsAt (w.alloc (.cells #[.string sa, .string sb, .string sc] 9)) (some ⟨w.heap.size, 0, none⟩) [sa, sb, sc] := by
    intro i hi
    have hi : i < 3 := hi
    rcases (show i = 0 ∨ i = 1 ∨ i = 2 by omega) with rfl | rfl | rfl
    · exact ⟨_, _, rfl, new_cell rfl⟩
    · exact ⟨_, _, rfl, new_cell rfl⟩
    · exact ⟨_, _, rfl, new_cell rfl⟩
  obtain ⟨W1, hW1⟩ : ∃ W1, w.alloc (.cells #[.string sa, .string sb, .string sc] 9) = W1 := ⟨_, rfl⟩
  rw [hW1] at hB hst ⊢
  clear hW1
  have hsz : ∀ s ∈ [sa, sb, sc], s.size ≤ 400000 := by decide
  obtain ⟨B0, hB0⟩ : ∃ B0, w.heap.size = B0 := ⟨_, rfl⟩
  have HB := Lib.hid hB
  have HST := Lib.hid hst
  have HSZ := Lib.hid hsz
  rw [hB0] at HST ⊢
  have HB0 := Lib.hid hB0
  clear hB hst hsz hB0
  refine (proof_yes (some ⟨B0, 0, none⟩) 3 [sa, sb, sc] 2 W1 HST.out (by decide) (by decide) (by decide) (by decide) HSZ.out (HK.out.then_ HB.out)).mono ?_
  rintro e w2 ⟨v2, rfl, o2, b2⟩
  rw [proof_abc] at o2
  obtain ⟨A2, c2, rfl, s2, l2, m2⟩ := own_strs o2
  have B2 := below_next HB.out b2
  have S2 := Lib.hid s2
  have ST2 := HST.out.then_ b2
  clear o2 s2
  go_wp2_with fail
  refine (ext_yes (some ⟨B0, 0, none⟩) 3 [sa, sb, sc] 1 w2 ST2 (by decide) (by decide) (by decide) (by decide) (by decide) HSZ.out (HK.out.then_ B2)).mono ?_
  rintro e w3 ⟨v3, rfl, o3, b3⟩
  rw [show extP [sa, sb, sc] 1 true = [leafS sb, leafS sc] from rfl] at o3
  obtain ⟨A3, c3, rfl, s3, l3, m3⟩ := own_strs o3
  have B3 := below_next B2 b3
  have S23 := Lib.hid (S2.out.then_ b3)
  have ST3 := ST2.then_ b3
  have S3 := Lib.hid s3
  clear o3 s3 S2 ST2
  go_wp2_with fail
  refine (proof_no (some ⟨B0, 0, none⟩) 3 [sa, sb, sc] 3 w3 (by decide) (.inr (by decide))).mono ?_
  rintro e w4 ⟨rfl, rfl⟩
  go_wp2_with fail
  refine (root_any (some ⟨B0, 0, none⟩) 3 [sa, sb, sc] w3 ST3 (by decide) HSZ.out (HK.out.then_ B3)).mono ?_
  rintro e w4 ⟨rfl, b4⟩
  have B4 := below_next B3 b4
  obtain ⟨R, hR⟩ : ∃ R, rootS [sa, sb, sc] = R := ⟨_, rfl⟩
  rw [hR]
  have HR := Lib.hid hR
  clear hR
  go_wp2_with fail
  refine (sum_any ⟨#[]⟩ w4 (by decide) (HK.out.then_ B4)).mono ?_
  rintro e w5 ⟨rfl, b5⟩
  have B5 := below_next B4 b5
  have P5 : Below w3.heap.size w3 w5 := below_next b4 b5
  obtain ⟨Z, hZ⟩ : ∃ Z, sumS ⟨#[]⟩ = Z := ⟨_, rfl⟩
  have hz1 : Z.size = 32 := by rw [← hZ]; exact sumS_size _
  have hz2 := hex_e
  rw [hZ] at hz2 ⊢
  clear hZ b4 b5
  go_wp2_with fail
  refine (hex_any Z w5 (by omega)).mono ?_
  rintro e w6 ⟨rfl, b6⟩
  have B6 := below_next B5 b6
  have P6 : Below w3.heap.size w3 w6 := below_next P5 b6
  rw [hz2]
  clear hz2 hz1 b6
  go_wp2_with fail
  refine (sum_any ⟨#[97, 98, 99]⟩ w6 (by decide) (HK.out.then_ B6)).mono ?_
  rintro e w7 ⟨rfl, b7⟩
  have B7 := below_next B6 b7
  have P7 : Below w3.heap.size w3 w7 := below_next P6 b7
  obtain ⟨Z, hZ⟩ : ∃ Z, sumS ⟨#[97, 98, 99]⟩ = Z := ⟨_, rfl⟩
  have hz1 : Z.size = 32 := by rw [← hZ]; exact sumS_size _
  have hz2 := hex_abc
  rw [hZ] at hz2 ⊢
  clear hZ b7
  go_wp2_with fail
  refine (hex_any Z w7 (by omega)).mono ?_
  rintro e w8 ⟨rfl, b8⟩
  have B8 := below_next B7 b8
  have P8 : Below w3.heap.size w3 w8 := below_next P7 b8
  rw [hz2]
  clear hz2 hz1 b8 B7 B6 B5 P5 P6 P7
  go_wp2_with fail
  have v1 := vb_1
  have v2 := vb_2
  have v3 := vx_1
  have v4 := vx_2
  rw [HR.out] at v1 v2 v3 v4
  have V3 := Lib.hid v3
  have V4 := Lib.hid v4
  have hrs : R.size = 32 := by rw [← HR.out]; exact rootS_size _
  refine (verify_any R 3 2 sc A2 c2 [nodeS (leafS sa) (leafS sb)] w8 (by decide) (by decide) (by decide) (by decide) (by decide) (S23.out.then_ P8) (by decide) l2 m2 (fun s hs => by rw [List.mem_singleton.1 hs, nodeS_size]; decide) (HK.out.then_ B8)).mono ?_
  rintro e w9 ⟨rfl, b9⟩
  have B9 := below_next B8 b9
  have P9 : Below w3.heap.size w3 w9 := below_next P8 b9
  rw [v1]
  clear v1 b9 P8 v3 v4
  go_wp2_with fail
  refine (verify_any R 3 2 sd A2 c2 [nodeS (leafS sa) (leafS sb)] w9 (by decide) (by decide) (by decide) (by decide) (by decide) (S23.out.then_ P9) (by decide) l2 m2 (fun s hs => by rw [List.mem_singleton.1 hs, nodeS_size]; decide) (HK.out.then_ B9)).mono ?_
  rintro e w10 ⟨rfl, b10⟩
  have B10 := below_next B9 b10
  have P10 : Below w3.heap.size w3 w10 := below_next P9 b10
  rw [v2]
  clear v2 b10 P9 B9
  go_wp2_with fail
  refine (root_any (some ⟨B0, 0, none⟩) 3 [sa] w10 ((ST3.take 1).then_ P10) (by decide) (by decide) (HK.out.then_ B10)).mono ?_
  rintro e w11 ⟨rfl, b11⟩
  have B11 := below_next B10 b11
  have P11 : Below w3.heap.size w3 w11 := below_next P10 b11
  have hq1 : (rootS [sa]).size = 32 := rootS_size _
  obtain ⟨Q1, hQ1⟩ : ∃ Q, rootS [sa] = Q := ⟨_, rfl⟩
  rw [hQ1] at V3 hq1 ⊢
  clear hQ1 b11
  go_wp2_with fail
  refine (vext_any Q1 1 R 3 A3 c3 [leafS sb, leafS sc] w11 (by decide) (by decide) (by decide) (by decide) (by omega) (by omega) (S3.out.then_ P11) (by decide) l3 m3 two_sizes (HK.out.then_ B11)).mono ?_
  rintro e w12 ⟨rfl, b12⟩
  have B12 := below_next B11 b12
  have P12 : Below w3.heap.size w3 w12 := below_next P11 b12
  rw [V3.out]
  clear b12 P11 P10 B10 B11
  go_wp2_with fail
  refine (root_any (some ⟨B0, 0, none⟩) 3 [sa, sb] w12 ((ST3.take 2).then_ P12) (by decide) (by decide) (HK.out.then_ B12)).mono ?_
  rintro e w13 ⟨rfl, b13⟩
  have B13 := below_next B12 b13
  have P13 : Below w3.heap.size w3 w13 := below_next P12 b13
  have hq2 : (rootS [sa, sb]).size = 32 := rootS_size _
  obtain ⟨Q2, hQ2⟩ : ∃ Q, rootS [sa, sb] = Q := ⟨_, rfl⟩
  rw [hQ2] at V4 hq2 ⊢
  clear hQ2 b13
  go_wp2_with fail
  refine (vext_any Q2 1 R 3 A3 c3 [leafS sb, leafS sc] w13 (by decide) (by decide) (by decide) (by decide) (by omega) (by omega) (S3.out.then_ P13) (by decide) l3 m3 two_sizes (HK.out.then_ B13)).mono ?_
  rintro e w14 ⟨rfl, b14⟩
  have B14 := below_next B13 b14
  rw [V4.out]
  clear b14 P13 P12 B12 B13
  go_wp2_with fail
  go_ret
  exact ⟨rfl, B14⟩
end Go.Proofs.YtoipckflokdakaaDoor
