/- The walk of the law WireSequence. -/
import Derived.Test.YthfoglgmilbolaaDoorWireSeq
import Derived.Deep.RegionHeld3
namespace Go.Proofs.YthfoglgmilbolaaDoor
open Go.RowKit Wire
theorem cell_then {w wx : World} {a : Addr} {v : Value} (hb : Below w.heap.size w wx) (h : w.cell? a = some v) : wx.cell? a = some v := (hb.cell (World.block_lt_of_cell? _ _ h)).trans h
set_option maxRecDepth 100000 in
set_option maxHeartbeats 4000000 in
theorem law4 (la lb : Option Addr) (ll lc tl tc : Nat) (Z : Nat → Int) (S : Nat → ByteArray) (w : World) (hN : Nib w) (hll : (ll : Int) ≤ 9223372036854775807) (htl : (tl : Int) ≤ 9223372036854775807)
    (hZ : ∀ i, i < ll → ∃ a, la = some a ∧ w.cell? (a.add i) = some (.int .i64 (Z i)) ∧ -9223372036854775808 ≤ Z i ∧ Z i ≤ 9223372036854775807)
    (hS : ∀ i, i < tl → ∃ a, lb = some a ∧ w.cell? (a.add i) = some (.string (S i)) ∧ ((S i).size : Int) ≤ 9223372036854775807) :
    Calls Tryd.prog 6 #[.slice la ll lc, .slice lb tl tc] w fun e w' => e = .returned (.bool true) ∧ Below w.heap.size w w' := by
  have HN := Lib.hid hN
  clear hN
  have HZ := Lib.hid hZ
  have HS := Lib.hid hS
  clear hZ hS
  obtain ⟨M0, h0, a1, a2⟩ : ∃ M0 : Nat, (if tl < ll then (tl : Int) else (ll : Int)) = (M0 : Int) ∧ M0 ≤ tl ∧ M0 ≤ ll := by
    by_cases h : tl < ll
    · exact ⟨tl, if_pos h, by omega, by omega⟩
    · exact ⟨ll, if_neg h, by omega, by omega⟩
  obtain ⟨M, m1, m2, m3⟩ := cut_min M0 20 (by omega)
  go_enter Tryd.func6, Tryd.ntmps6
  go_wp2_with fail
  refine (sane_any _ HN.out).mono ?_
  rintro e w1 ⟨rfl, b1⟩
  go_wp2_with fail
  clear h0 m1
  go_loopw [7, 8] (fun s i wr => ∃ k : Nat, k ≤ M ∧ s = .string ⟨(seqTo Z S k).toArray⟩ ∧ i = .int .i64 (k : Int) ∧ Below w.heap.size w wr) (fun _ i _ => M - (intOf i).toNat)
  case atStart => exact ⟨0, by omega, rfl, rfl, b1⟩
  case round =>
    obtain ⟨k, hk, rfl, rfl, hB⟩ := hrel
    by_cases hkM : k < M
    · obtain ⟨a, rfl, ha, za, zb⟩ := HZ.out k (by omega)
      obtain ⟨b, rfl, hb, sb⟩ := HS.out k (by omega)
      have ha := cell_then hB ha
      obtain ⟨C, c1, c2, c3⟩ := cut_min (S k).size 100 (by omega)
      have hcut := cutS_extract (S k) C c1.symm
      have HC := Lib.hid hcut
      clear hcut
      have HH := Lib.hid hb
      clear hb
      go_wp2_with fail
      refine (num_any (Z k) _ za zb).mono ?_
      rintro e w2 ⟨rfl, b2⟩
      have hnb := numI_bd (Z k)
      go_wp2_with fail
      refine (put_any _ _).mono ?_
      rintro e w3 ⟨rfl, b3⟩
      rw [(putI_num hnb.1 hnb.2).1, (putI_num hnb.1 hnb.2).2]
      have B3 := below_next (below_next hB b2) b3
      have hb := cell_then B3 HH.out
      unfold bs
      go_wp2_with fail
      have hkt : (k : Int) < (tl : Int) := by omega
      have hk0 : (0 : Int) ≤ (k : Int) := by omega
      go_region_held3 (fun w' => w'.cell? (b.add k) = some (.string (S k))) (go_keep) (first | (go_at_call 19; refine (puts_any _ _ (by rw [ByteArray.size_extract]; omega)).mono ?_; rintro e w4 ⟨rfl, b4⟩; have hb4 := cell_then b4 hb))
      have hcl := cutS_len (S k)
      have ecut : (S k).data.toList.take C = cutS (S k) := by
        have := congrArg (fun x : ByteArray => x.data.toList) HC.out
        simpa using this
      rw [ecut, putsI_ok (by omega)]
      clear ecut hb4 hb hkt hk0 c1
      have B4 : Below w.heap.size w w4 := below_next (below_next B3 ((Below.refl _ _).drew)) b4
      have l1 := enc_num_len (Z k)
      have l2 := seqTo_len Z S k
      have l3 := putsI_len (t := cutS (S k)) (by omega)
      unfold bs
      go_wp2_with fail
      exact ⟨⟨k + 1, by omega, by rw [seq_data, seqTo], by go_num, B4⟩, by simp [intOf]; omega⟩
    · obtain rfl : k = M := by omega
      have lM := seqTo_len Z S k
      clear b1
      go_wp2_with fail
      go_loopw [13, 14] (fun p i wr => ∃ j : Nat, j ≤ k ∧ p = .int .i64 ((seqTo Z S j).length : Int) ∧ i = .int .i64 (j : Int) ∧ Below w.heap.size w wr) (fun _ i _ => k - (intOf i).toNat)
      case atStart => exact ⟨0, by omega, rfl, rfl, hB⟩
      case round =>
        clear hB
        obtain ⟨j, hj, rfl, rfl, hB⟩ := hrel
        by_cases hjM : j < k
        · obtain ⟨a, rfl, ha, za, zb⟩ := HZ.out j (by omega)
          obtain ⟨b, rfl, hb, sb⟩ := HS.out j (by omega)
          have ha := cell_then hB ha
          have hb := cell_then hB hb
          obtain ⟨C, c1, c2, c3⟩ := cut_min (S j).size 100 (by omega)
          have hcut := cutS_extract (S j) C c1.symm
          have HC := Lib.hid hcut
          clear hcut
          have I1 := Lib.hid (seqTo_int Z S hjM)
          have I2 := Lib.hid (seqTo_str Z S hjM)
          go_wp2_with fail
          refine (int_any _ _ _ (by rw [← len_size, data_mk]; omega)).mono ?_
          rintro e w2 ⟨rfl, rfl⟩
          rw [data_mk, I1.out]
          unfold iV
          go_wp2_with fail
          refine (str_any _ _ _ (by rw [← len_size, data_mk]; omega)).mono ?_
          rintro e w2 ⟨rfl, rfl⟩
          rw [data_mk, I2.out]
          unfold sV bs
          go_wp2_with fail
          have hcmp : (cutS (S j) == ((S j).extract 0 C).toList) = true := by rw [HC.out, ByteArray.toList_mk]; simp
          have hkl : (j : Int) < (ll : Int) := by omega
          have hkt : (j : Int) < (tl : Int) := by omega
          have hk0 : (0 : Int) ≤ (j : Int) := by omega
          go_region_held3 (fun w' => w'.cell? (a.add j) = some (.int .i64 (Z j)) ∧ w'.cell? (b.add j) = some (.string (S j))) (go_keep) (first | (go_at_call 11; refine (num_any (Z j) _ za zb).mono ?_; rintro e w4 ⟨rfl, b4⟩; have hb4 := cell_then b4 hb; have ha4 := cell_then b4 ha))
          clear ha hb hkl hkt hk0 c1 ha4 hb4
          have B4 : Below w.heap.size w w4 := below_next (below_next hB ((Below.refl _ _).drew)) b4
          go_wp2_with fail
          exact ⟨⟨j + 1, by omega, rfl, by go_num, B4⟩, by simp [intOf]; omega⟩
        · obtain rfl : j = k := by omega
          have I3 := Lib.hid (seqTo_end (seqTo Z S j))
          go_wp2_with fail
          refine (int_any _ _ _ (by rw [← len_size, data_mk]; omega)).mono ?_
          rintro e w2 ⟨rfl, rfl⟩
          rw [data_mk, I3.out]
          unfold iV
          go_wp2_with fail
          go_ret
          exact ⟨rfl, hB⟩
end Go.Proofs.YthfoglgmilbolaaDoor
