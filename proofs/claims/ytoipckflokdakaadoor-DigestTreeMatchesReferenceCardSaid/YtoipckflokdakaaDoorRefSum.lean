/- The reference's Sum. -/
import Derived.Test.YtoipckflokdakaaDoorRefBlock
namespace Go.Proofs.YtoipckflokdakaaDoor
open Go.RowKit Sha
attribute [local go_sem] Oper.semAt_some
theorem bytes_of_own {w : World} {base g n c : Nat} {e : TypeId} {L : List Nat} (h : w.ownsRow base e 1 (.slice (some ⟨g, 0, none⟩) n c) n (uvs L)) : BytesAt w g 0 L := fun j hj => by
  have hl := h.1
  rw [uvs_length, Nat.mul_one] at hl
  rw [Nat.zero_add, h.cellAt j (by omega)]
  simp [uvs, List.getD, hj]
theorem out_next (v : V) (j : Nat) (hj : j < 8) : (outV v).take (4 * (j + 1)) = (outV v).take (4 * j) ++ [(outV v).getD (4 * j) 0, (outV v).getD (4 * j + 1) 0, (outV v).getD (4 * j + 2) 0, (outV v).getD (4 * j + 3) 0] := by
  rcases (show j = 0 ∨ j = 1 ∨ j = 2 ∨ j = 3 ∨ j = 4 ∨ j = 5 ∨ j = 6 ∨ j = 7 by omega) with rfl | rfl | rfl | rfl | rfl | rfl | rfl | rfl <;> rfl
theorem new_cells (w : World) (ys : List Value) (e : TypeId) : ∀ j u, ys[j]? = some u → (w.alloc (.cells ys.toArray e)).cell? ((⟨w.heap.size, 0, none⟩ : Addr).add j) = some u := fun j u hj => by
  rw [add0, cell_of_row _ _ j ys.toArray e (0, 0) (heap_alloc_new w _)]
  simpa using hj
set_option maxRecDepth 100000 in
set_option maxHeartbeats 8000000 in
theorem rsum_any (s : ByteArray) (w : World) (hs : s.size ≤ 100000) :
    Calls Tryd.prog 33 #[.string s] w fun e w' => e = .returned (.string (sumS s)) ∧ Below w.heap.size w w' := by
  obtain ⟨i0, hi0, hz0, hz1, hz2⟩ := info_parts u8_infos
  have I1 := Lib.hid hi0
  have I2 := Lib.hid hz0
  have I3 := Lib.hid hz1
  have I4 := Lib.hid hz2
  have HEXT := Lib.hid (fun W => extended_any s W hs)
  have hel := ext_length (nbs s)
  have heb := ext_blocks (nbs s)
  have hex := ext_lt (nbs s) (nbs_lt s)
  obtain ⟨nb, hnb⟩ : ∃ nb, (ext (nbs s)).length / 64 = nb := ⟨_, rfl⟩
  rw [hnb] at heb
  obtain ⟨St, s0, s1, s2, s3⟩ := blks_run (ext (nbs s)) nb
  have hsum : strN (outV (St nb)) = sumS s := by rw [sumS, sumN, hnb, s3]
  have hzz : zeros (nbs s).length ≤ 63 := by unfold zeros; omega
  rw [nbs_length] at hel hzz
  have hnbl : nb ≤ 1600 := by omega
  have hnb1 : 1 ≤ nb := by omega
  obtain ⟨B, hB⟩ : ∃ B, ext (nbs s) = B := ⟨_, rfl⟩
  rw [hB] at HEXT heb hex s1
  have HBL := Lib.hid heb
  rw [heb] at HEXT
  have HEX := Lib.hid hex
  have HS0 := Lib.hid s0
  have HS1 := Lib.hid s1
  have HSV := Lib.hid s2
  have HSUM := Lib.hid hsum
  clear hi0 hz0 hz1 hz2 hel heb hex hnb s0 s1 s2 s3 hsum hzz hB
  have hz : (wvs (vl iv)).toArray = #[.int .u32 1779033703, .int .u32 3144134277, .int .u32 1013904242, .int .u32 2773480762, .int .u32 1359893119, .int .u32 2600822924, .int .u32 528734635, .int .u32 1541459225] := rfl
  have hw0 : WordsAt (w.alloc (.cells (wvs (vl iv)).toArray 69)) w.heap.size 0 (vl iv) := words_of_row (t := 69) (heap_alloc_new _ _)
  rw [hz] at hw0
  have HW0 := Lib.hid hw0
  have HB0 := Lib.hid (below_alloc (Below.refl w.heap.size w) (.cells #[.int .u32 1779033703, .int .u32 3144134277, .int .u32 1013904242, .int .u32 2773480762, .int .u32 1359893119, .int .u32 2600822924, .int .u32 528734635, .int .u32 1541459225] 69))
  clear hz hw0
  go_enter Tryd.func33, Tryd.ntmps33
  go_wp2_with fail
  obtain ⟨W0, hW0⟩ : ∃ W, w.alloc (.cells #[.int .u32 1779033703, .int .u32 3144134277, .int .u32 1013904242, .int .u32 2773480762, .int .u32 1359893119, .int .u32 2600822924, .int .u32 528734635, .int .u32 1541459225] 69) = W := ⟨_, rfl⟩
  rw [hW0] at HW0 HB0 ⊢
  clear hW0
  refine (HEXT.out W0).mono ?_
  rintro e w1 ⟨v1, rfl, o1, b1⟩
  have HAT : ∃ ge ce, v1 = .slice (some ⟨ge, 0, none⟩) (64 * nb) ce ∧ BytesAt w1 ge 0 B ∧ 64 * nb ≤ ce ∧ ce ≤ maxLen := by
    rcases o1.2 with ⟨h1, h2⟩ | ⟨g, cap, cur, h1, h2, h3, h4, h5, h6, h7⟩
    · omega
    · subst h1
      exact ⟨g, cap, rfl, bytes_of_own o1, h4, h5⟩
  obtain ⟨ge, ce, rfl, hat, hce, hcm⟩ := HAT
  have HAT := Lib.hid hat
  have HB1 := Lib.hid (below_next HB0.out b1)
  have HW1 := Lib.hid (HW0.out.then_ b1)
  clear o1 b1 hat HW0 HB0
  go_wp2_with fail
  go_loopw [3, 5] (fun h i wr => ∃ (k m g cc : Nat), i = .int .i64 (m : Int) ∧ m = 64 * k ∧ k ≤ nb ∧ h = .slice (some ⟨g, 0, none⟩) 8 cc ∧ WordsAt wr g 0 (vl (St k)) ∧ Below w1.heap.size w1 wr) (fun _ i _ => 64 * nb - (intOf i).toNat)
  case atStart => exact ⟨0, 0, _, _, rfl, rfl, Nat.zero_le _, rfl, by rw [HS0.out]; exact HW1.out, Below.refl _ _⟩
  case round =>
    obtain ⟨k, m, g, cc, rfl, hm, hk, rfl, hwd, hb⟩ := hrel
    have HM := Lib.hid hm
    by_cases hlt : k < nb
    · have g1 : (m : Int) < ((64 * nb : Nat) : Int) := by omega
      have g1' : (m : Int) < 64 * (nb : Int) := by omega
      have g2 : (m : Int) + 64 ≤ (ce : Int) := by omega
      have g3 : (0 : Int) ≤ (m : Int) := by omega
      have g4 : (m : Int) ≤ (m : Int) + 64 := by omega
      have hck : ¬ ce = m := by omega
      have hca := chunk_at (HAT.out.then_ hb) HBL.out hlt
      rw [← hm] at hca
      have hbl := block_any g cc ge m (ce - m) (St k) ((B.drop m).take 64) wr (HSV.out k) hwd hca.1 hca.2 (mem_chunk HEX.out)
      have hs1 := HS1.out k
      rw [← hm] at hs1
      rw [← hs1] at hbl
      have HBLK := Lib.hid hbl
      have HBB := Lib.hid hb
      clear hbl hs1 hca hwd hb hm
      go_wp2_with fail
      refine HBLK.out.mono ?_
      rintro e w2 ⟨g2', cc2, rfl, hw2, b2⟩
      go_wp2_with fail
      refine ⟨⟨k + 1, m + 64, g2', cc2, by rfl, by have := HM.out; omega, by omega, rfl, hw2, below_next HBB.out b2⟩, by simp [intOf]; omega⟩
    · obtain rfl : k = nb := by omega
      have g1 : ¬ (m : Int) < ((64 * k : Nat) : Int) := by omega
      have g1' : ¬ (m : Int) < 64 * (k : Int) := by omega
      have HBW := Lib.hid (below_next HB1.out hb)
      have HWD := Lib.hid hwd
      have hvb := HSV.out k
      obtain ⟨V, hV⟩ : ∃ V, St k = V := ⟨_, rfl⟩
      rw [hV] at HSUM HWD hvb
      have lg : g < wr.heap.size := lt_size (HWD.out 0 (by rw [vl_length]; omega))
      clear hwd hb hV HB1 HW1 HAT
      go_wp2_with fail
      obtain ⟨wo, hwo⟩ : ∃ W, wr = W := ⟨_, rfl⟩
      rw [hwo] at HBW HWD lg ⊢
      clear hwo
      go_loopw [6, 7] (fun v i wr => ∃ j : Nat, i = .int .i64 (j : Int) ∧ j ≤ 8 ∧ wr.ownsRow wo.heap.size 5 1 v (4 * j) (uvs ((outV V).take (4 * j))) ∧ Below wo.heap.size wo wr) (fun _ i _ => 8 - (intOf i).toNat)
      case atStart => exact ⟨0, rfl, Nat.zero_le _, World.ownsRow_nil _ _ _ _, Below.refl _ _⟩
      case round =>
        obtain ⟨j, rfl, hj, how, hb⟩ := hrel
        have HO := Lib.hid how
        have HBB := Lib.hid hb
        have hbs := hb.size
        by_cases hlt : j < 8
        · have x0 := cell_then hb (HWD.out j (by rw [vl_length]; omega))
          rw [Nat.zero_add] at x0
          have hn := out_next V j hlt
          have o0 := out_get V j 0 hlt (by omega)
          have o1 := out_get V j 1 hlt (by omega)
          have o2 := out_get V j 2 hlt (by omega)
          have o3 := out_get V j 3 hlt (by omega)
          have hxl := vl_lt hvb j
          obtain ⟨x, hx⟩ : ∃ x, (vl V).getD j 0 = x := ⟨_, rfl⟩
          rw [hx] at x0 o0 o1 o2 o3 hxl
          rw [Nat.add_zero] at o0
          obtain ⟨y0, hy0⟩ : ∃ y, (outV V).getD (4 * j) 0 = y := ⟨_, rfl⟩
          obtain ⟨y1, hy1⟩ : ∃ y, (outV V).getD (4 * j + 1) 0 = y := ⟨_, rfl⟩
          obtain ⟨y2, hy2⟩ : ∃ y, (outV V).getD (4 * j + 2) 0 = y := ⟨_, rfl⟩
          obtain ⟨y3, hy3⟩ : ∃ y, (outV V).getD (4 * j + 3) 0 = y := ⟨_, rfl⟩
          rw [hy0] at hn o0
          rw [hy1] at hn o1
          rw [hy2] at hn o2
          rw [hy3] at hn o3
          simp only [Nat.mul_zero, Nat.sub_zero, Nat.reduceMul, Nat.reduceSub, Nat.reducePow, Nat.div_one] at o0 o1 o2 o3
          have q0 : (x : Int) / 16777216 % 256 = (y0 : Int) := by omega
          have q1 : (x : Int) / 65536 % 256 = (y1 : Int) := by omega
          have q2 : (x : Int) / 256 % 256 = (y2 : Int) := by omega
          have q3 : (x : Int) % 256 = (y3 : Int) := by omega
          have r0 : IntKind.u8.wrap ((x : Int) / 16777216) = (y0 : Int) := by simp [IntKind.wrap, IntKind.signed, IntKind.bits]; omega
          have r1 : IntKind.u8.wrap ((x : Int) / 65536) = (y1 : Int) := by simp [IntKind.wrap, IntKind.signed, IntKind.bits]; omega
          have r2 : IntKind.u8.wrap ((x : Int) / 256) = (y2 : Int) := by simp [IntKind.wrap, IntKind.signed, IntKind.bits]; omega
          have r3 : IntKind.u8.wrap (x : Int) = (y3 : Int) := by simp [IntKind.wrap, IntKind.signed, IntKind.bits]; omega
          have HN := Lib.hid hn
          have X0 := Lib.hid x0
          clear how hb hx hy0 hy1 hy2 hy3 o0 o1 o2 o3 hn x0
          go_wp2_with fail
          have hnot : ∀ q, q < wo.heap.size → q ∉ u6.ownBlock.toList := fun q hq h => by have := (HO.out.lt q (own_mem h)).1; omega
          go_region_held3 (fun w' => Kept u6.ownBlock.toList wr w' ∧ w'.cell? ⟨g, j, none⟩ = some (.int .u32 (x : Int))) ((suffices hK : Kept u6.ownBlock.toList wr _ from ⟨hK, hK.cell X0.out (hnot _ (by omega))⟩; repeat (first | with_reducible exact Kept.refl _ _ | with_reducible refine Kept.alloc ?_ _ | with_reducible refine Kept.drew ?_ | with_reducible exact HK4.out))) (first | (refine step_append_lies _ (by rfl) _ _ 46 (by rfl) wo.heap.size 5 i0 _ 1 1 Tryd.underlying46 I1.out I2.out I3.out I4.out rfl (by omega) u6 (4 * j) _ (by rfl) (own_then HO.out (by repeat (first | with_reducible exact Below.refl _ _ | with_reducible refine below_alloc ?_ _ | with_reducible refine Below.drew ?_))) ⟨wr.heap.size, 0, none⟩ 4 4 [.int .u8 (y0 : Int), .int .u8 (y1 : Int), .int .u8 (y2 : Int), .int .u8 (y3 : Int)] (by rfl) rfl (by first | exact new_cells _ _ _ | exact new_cells wr.drew _ _) (by simp [Value.oneCell']) (by omega) (by unfold maxLen; omega) (by omega) (by first | (simp; done) | (simp; omega) | omega) _ rfl ?_; intro g4 c4 w4 o4 k4 h4 h5; have HK4 := Lib.hid (((Kept.of_below (show Below wr.heap.size wr _ by repeat (first | with_reducible exact Below.refl _ _ | with_reducible refine below_alloc ?_ _ | with_reducible refine Below.drew ?_))).mono (fun _ h => by cases h)).trans ((Kept.refl _ _).grown k4 (fun q hq => .inl (mem_own hq))) (New.refl _ _)); have HO4 := Lib.hid o4))
          go_wp2_with fail
          refine ⟨⟨j + 1, by rfl, by omega, ?_, HK4.out.below_next HBB.out hbs (fun q hq => (HO.out.lt q (own_mem hq)).1)⟩, by simp [intOf]; omega⟩
          rw [HN.out, uvs_append]
          exact HO4.out
        · obtain rfl : j = 8 := by omega
          have g3 : ¬ ((8 : Nat) : Int) < 8 := by omega
          have hfull : (outV V).take (4 * 8) = outV V := rfl
          rw [hfull] at how
          obtain ⟨g9, c9, rfl, h91, h92⟩ := how.form (by omega)
          have hba := bytes_of_own how
          have hcv : (convert 46 9 (.slice (some ⟨g9, 0, none⟩) 32 c9)).run Tryd.prog wr = .ok (.string (strN (outV V))) wr := conv_nat (fun i hi => by have := hba i hi; rwa [Nat.zero_add] at this) (outV_length V)
          rw [HSUM.out] at hcv
          obtain ⟨Z, hZ⟩ : ∃ Z, sumS s = Z := ⟨_, rfl⟩
          rw [hZ] at hcv
          have HZ := Lib.hid hZ
          clear how hb hfull hba HO hZ
          go_wp2_with fail
          go_ret
          exact ⟨by rw [HZ.out]; rfl, below_next HBW.out HBB.out⟩
end Go.Proofs.YtoipckflokdakaaDoor
