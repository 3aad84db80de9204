/- The walk of the law WireSumBurst. -/
import Derived.Test.YthfoglgmilbolaaDoorLaw7
import Derived.Lib.ConvBytes
import Derived.Lib.SmallJoins
namespace Go.Proofs.YthfoglgmilbolaaDoor
open Go.RowKit Wire
/-- block g begins with these bytes, which may be written -/
def RowB (W : World) (g : Nat) (L : List UInt8) : Prop :=
  ∃ cs lo hi, W.heap[g]? = some (.cells cs 5 (lo, hi)) ∧ L.length ≤ lo ∧ L.length ≤ cs.size ∧ ∀ j (h : j < L.length), cs[j]? = some (bv L[j])
theorem RowB.cell {W : World} {g : Nat} {L : List UInt8} (h : RowB W g L) {j : Nat} (hj : j < L.length) : W.cell? ⟨g, j, none⟩ = some (bv L[j]) := by
  obtain ⟨cs, lo, hi, hg, _, _, hc⟩ := h
  rw [Joins.cell_of_block hg]; exact hc j hj
theorem RowB.free {W : World} {g : Nat} {L : List UInt8} (h : RowB W g L) {j : Nat} (hj : j < L.length) : W.frozen? ⟨g, j, none⟩ = false := by
  obtain ⟨cs, lo, hi, hg, hl, _, _⟩ := h
  simp [World.frozen?, hg]; omega
theorem RowB.set {W : World} {g : Nat} {L : List UInt8} (h : RowB W g L) (q : Nat) (v : UInt8) : RowB (W.setCell ⟨g, q, none⟩ (bv v)) g (L.set q v) := by
  obtain ⟨cs, lo, hi, hg, hl, hs, hc⟩ := h
  refine ⟨cs.setIfInBounds q (bv v), lo, hi, Joins.block_setCell hg _, by simpa using hl, by simpa using hs, fun j hj => ?_⟩
  rw [List.length_set] at hj
  rw [Array.getElem?_setIfInBounds, List.getElem_set]
  by_cases hq : q = j
  · subst hq
    rw [if_pos rfl, if_pos rfl, if_pos (by omega)]
  · rw [if_neg hq, if_neg hq]; exact hc j hj
theorem RowB.drew {W : World} {g : Nat} {L : List UInt8} (h : RowB W g L) : RowB W.drew g L := h
theorem RowB.drewN {W : World} {g : Nat} {L : List UInt8} (h : RowB W g L) (n : Nat) : RowB (W.drewN n) g L := h
theorem RowB.conv {P : Program} {W : World} {g : Nat} {L : List UInt8} (h : RowB W g L) (src dst : TypeId) (cap : Nat) (hs : P.underlying src = some (.slice 5)) (he : P.underlying 5 = some (.int .u8)) (hd : P.underlying dst = some .string) :
    (convert src dst (.slice (some ⟨g, 0, none⟩) L.length cap)).run P W = .ok (bs L) W := by
  rw [run_convert_bytes_arg W src 5 hs he g 0 L.length cap (L.map fun b => (b.toNat : Int)) (by simp) (fun i hi => ?_) dst hd]
  · unfold bs strOfNums
    simp [List.map_map, Function.comp_def]
  · rw [Nat.zero_add, h.cell hi]
    simp [bv, List.getD, List.getElem?_eq_getElem hi]
theorem RowB.new (w : World) (s : ByteArray) : RowB (Lib.bytesWorld w 5 s) w.heap.size s.data.toList := by
  have h0 := Lib.bytesWorld_at_new w 5 s
  have hc : ∀ j, j < s.size → (Lib.bytesCells w 5 s)[j]? = some (.int .u8 (s.data.toList.getD j 0).toNat) := fun j hj => by
    have := Lib.bytesWorld_cell w 5 s j hj
    rwa [Joins.cell_of_block h0] at this
  have hsz : s.size ≤ (Lib.bytesCells w 5 s).size := by
    rcases Nat.lt_or_ge (Lib.bytesCells w 5 s).size s.size with h | h
    · have := hc _ h
      rw [Array.getElem?_eq_none (Nat.le_refl _)] at this
      cases this
    · exact h
  refine ⟨_, _, _, h0, by rw [len_size]; exact hsz, by rw [len_size]; exact hsz, fun j hj => ?_⟩
  rw [hc j (by rw [← len_size]; exact hj)]
  simp [bv, List.getD, List.getElem?_eq_getElem hj]
theorem run_convert_string_bytes' (w : World) (s : ByteArray) : ∃ (W : World) (cap : Nat), (convert 9 38 (.string s)).run Tryd.prog w = .ok (.slice (some ⟨w.heap.size, 0, none⟩) s.size cap) W ∧ RowB W w.heap.size s.data.toList ∧ Below w.heap.size w W ∧ w.heap.size < W.heap.size :=
  ⟨_, _, Lib.run_convert_string_bytes w 9 38 5 s Tryd.underlying9 Tryd.underlying38 Tryd.underlying5, RowB.new w s, Joins.below_bytesWorld _ w _ s (Nat.le_refl _), by rw [Lib.bytesWorld_size]; omega⟩
theorem bit_cast (B k : Nat) : ((B : Int) / 2 ^ k).tmod 2 = ((B / 2 ^ k % 2 : Nat) : Int) := by
  have e : ((B : Int) / 2 ^ k) = ((B / 2 ^ k : Nat) : Int) := by rw [Int.natCast_ediv, Int.natCast_pow]; rfl
  rw [e]; rfl
theorem bit_true {B k : Nat} (h : B / 2 ^ k % 2 = 1) : (((B : Int) / 2 ^ k).tmod 2 == 1) = true := by rw [bit_cast, h]; rfl
theorem bit_false {B k : Nat} (h : ¬ B / 2 ^ k % 2 = 1) : (((B : Int) / 2 ^ k).tmod 2 == 1) = false := by rw [bit_cast, show B / 2 ^ k % 2 = 0 by omega]; rfl
theorem flip_val (x : UInt8) {r : Nat} (h : r < 8) : ∃ v : UInt8, bits BinOp.xor IntKind.u8 (x.toNat : Int) (2 ^ r % 256) = (v.toNat : Int) ∧ v.toNat = x.toNat ^^^ 2 ^ r := by
  have hp : 2 ^ r < 256 := by
    have := Nat.pow_lt_pow_right (show 1 < 2 by omega) h
    simpa using this
  have hv : (x ^^^ UInt8.ofNat (2 ^ r)).toNat = x.toNat ^^^ 2 ^ r := by
    rw [UInt8.toNat_xor, UInt8.toNat_ofNat', Nat.mod_eq_of_lt (by simpa using hp)]
  refine ⟨x ^^^ UInt8.ofNat (2 ^ r), ?_, hv⟩
  have e : ((2 : Int) ^ r % 256) = ((2 ^ r : Nat) : Int) := by
    rw [show ((2 : Int) ^ r) = ((2 ^ r : Nat) : Int) by rw [Int.natCast_pow]; rfl]; exact Int.emod_eq_of_lt (Int.natCast_nonneg _) (Int.ofNat_lt.2 hp)
  rw [e, u8_xor_nat _ _ (UInt8.toNat_lt _) hp, hv]
theorem ext_data (s : ByteArray) (M : Nat) : (s.extract 0 M).data.toList = s.data.toList.take M := by
  rw [ByteArray.data_extract, Array.toList_extract]; simp [List.extract]
theorem burst_bool {a b P : Nat} (h : a = b ↔ P = 0) : ((!decide (P = 0)) == ((a : Int) != (b : Int))) = true := by
  by_cases hp : P = 0
  · have := h.2 hp; subst this; simp [hp]
  · have : a ≠ b := fun e => hp (h.1 e)
    simp [hp]; omega
set_option maxRecDepth 100000 in
set_option maxHeartbeats 4000000 in
theorem law6 (s : ByteArray) (at0 : Int) (B : Nat) (w : World) (hN : Nib w) (hs : (s.size : Int) ≤ 9223372036854775807) (a0 : -9223372036854775808 ≤ at0) (a1 : at0 ≤ 9223372036854775807) (hB32 : (B : Int) ≤ 4294967295) :
    Calls Tryd.prog 8 #[.string s, .int .i64 at0, .int .u32 (B : Int)] w fun e w' => e = .returned (.bool true) ∧ Below w.heap.size w w' := by
  have HN := Lib.hid hN
  obtain ⟨M, m1, m2, m3⟩ := cut_min s.size 300 (by omega)
  clear hN
  go_enter Tryd.func8, Tryd.ntmps8
  go_wp2_with fail
  refine (sane_any _ HN.out).mono ?_
  rintro e w1 ⟨rfl, b1⟩
  have hcv := run_convert_string_bytes' w1 (s.extract 0 M)
  obtain ⟨W0, cap, hcv, hrow, B0, hgs⟩ := hcv
  have hsz : (s.extract 0 M).size = M := by rw [ByteArray.size_extract]; omega
  rw [hsz] at hcv
  obtain ⟨L0, hL0⟩ : ∃ L0, (s.extract 0 M).data.toList = L0 := ⟨_, rfl⟩
  have hl0 : L0.length = M := by rw [← hL0, len_size]; exact hsz
  rw [hL0] at hrow
  have HL0 := Lib.hid hL0
  have HLN := Lib.hid hl0
  have BW := below_next b1 B0
  clear hL0 hl0 hsz B0 hs
  by_cases hM0 : M = 0
  · have hb0 : ((M : Int) == 0) = true := by simp [hM0]
    clear hM0
    go_wp2_with fail
    go_ret
    exact ⟨rfl, BW⟩
  by_cases hBz : B = 0
  · have hb0 : ((M : Int) == 0) = false := beq_eq_false_iff_ne.2 (by omega)
    have hb1 : ((B : Int) == 0) = true := by simp [hBz]
    clear hBz
    go_wp2_with fail
    go_ret
    exact ⟨rfl, BW⟩
  have hb0 : ((M : Int) == 0) = false := beq_eq_false_iff_ne.2 (by omega)
  have hb1 : ((B : Int) == 0) = false := beq_eq_false_iff_ne.2 (by omega)
  go_wp2_with fail
  refine (pick_any at0 _ _ a0 a1 (by omega) (by omega)).mono ?_
  rintro e w2 ⟨rfl, rfl⟩
  have p1 := pickI_lo at0 (8 * (M : Int)) (by omega)
  have p2 := pickI_hi at0 (8 * (M : Int)) (by omega)
  obtain ⟨f, hf⟩ := Int.eq_ofNat_of_zero_le p1
  rw [hf]
  have hfl : f < 8 * M := by omega
  clear p1 p2 hf hb0 hb1 hcv m1
  go_wp2_with fail
  obtain ⟨g, hg⟩ : ∃ g, g = w1.heap.size := ⟨_, rfl⟩
  rw [← hg] at hrow hgs ⊢
  have hgB : w.heap.size ≤ g := by rw [hg]; exact b1.size
  clear hg b1
  go_loopw [10, 11] (fun ch i wr => ∃ (k : Nat) (L : List UInt8), k ≤ 32 ∧ f + k ≤ 8 * M ∧ i = .int .i64 (k : Int) ∧ ch = .bool (!decide (B % 2 ^ k = 0)) ∧ RowB wr g L ∧ L.length = M ∧ num L = num L0 ^^^ (2 ^ f * (B % 2 ^ k)) ∧ Below w.heap.size w wr) (fun _ i _ => 32 - (intOf i).toNat)
  case atStart => exact ⟨0, L0, by omega, by omega, rfl, by simp [Nat.mod_one], hrow, HLN.out, by simp [Nat.mod_one], BW⟩
  case round =>
    obtain ⟨k, L, hk, hfk, rfl, rfl, hr, hLl, hn, hBr⟩ := hrel
    have HLl := Lib.hid hLl
    have HN2 := Lib.hid hn
    clear hLl hn
    by_cases hk32 : k < 32 ∧ f + k < 8 * M
    · obtain ⟨hk1, hk2⟩ := hk32
      by_cases hbit : B / 2 ^ k % 2 = 1
      · have hq : (f + k) / 8 < L.length := by rw [HLl.out]; omega
        have hcell := hr.cell hq
        have hfree := hr.free hq
        unfold bv at hcell
        have hbt := bit_true hbit
        obtain ⟨v, hv1, hv2⟩ := flip_val (L[(f + k) / 8]'hq) (show (f + k) % 8 < 8 by omega)
        have HV2 := Lib.hid hv2
        clear hv2
        go_wp2_with fail
        go_region
        go_wp2_with fail
        refine ⟨⟨k + 1, L.set ((f + k) / 8) v, by omega, by omega, by go_num, ?_, hr.set _ v, by rw [List.length_set]; exact HLl.out, ?_, (hBr.setCell (p := ⟨g, (f + k) / 8, none⟩) hgB _).drew⟩, by simp [intOf]; omega⟩
        · rw [decide_eq_false (bits_one hbit)]; rfl
        · exact burst_step HN2.out hbit hq (by omega) HV2.out
      · have hbt := bit_false hbit
        have hbz : decide (B % 2 ^ (k + 1) = 0) = decide (B % 2 ^ k = 0) := decide_eq_decide.2 (bits_zero hbit)
        have HBZ := Lib.hid hbz
        clear hbz
        go_wp2_with fail
        refine ⟨⟨k + 1, L, by omega, by omega, by go_num, ?_, hr, HLl.out, burst_same HN2.out hbit, hBr⟩, by simp [intOf]; omega⟩
        rw [HBZ.out]
    · have hend : ¬ ((k : Int) < 32 ∧ (f : Int) + k < 8 * M) := by omega
      have hP : B % 2 ^ k < 4294967296 := by
        rcases (show k = 32 ∨ k < 32 by omega) with h | h
        · subst h; exact Nat.mod_lt _ (by omega)
        · have := Nat.mod_le B (2 ^ k); omega
      have hcrc := crc_burst (l := L0) (m := L) (f := f) (P := B % 2 ^ k) (by rw [HLN.out, HLl.out]) HN2.out hP (by rw [HLN.out]; omega)
      have hll : L.length = M := HLl.out
      have hcv : ∀ n : Nat, (convert 38 9 (.slice (some ⟨g, 0, none⟩) M cap)).run Tryd.prog (wr.drewN n) = .ok (bs L) (wr.drewN n) := fun n => by
        have := (hr.drewN n).conv (P := Tryd.prog) 38 9 cap Tryd.underlying38 Tryd.underlying5 Tryd.underlying9
        rwa [hll] at this
      have hNb : ∀ n : Nat, Nib (wr.drewN n) := fun n => by
        have h := HN.out.below hBr (Nat.le_refl _)
        exact ⟨h.1, h.2⟩
      have HNb := Lib.hid hNb
      have HCR := Lib.hid hcrc
      have hXl : L.length ≤ 300 := by omega
      clear hNb hcrc hll
      unfold bs at hcv
      have hcase : k = 32 ∨ (k < 32 ∧ 8 * M ≤ f + k) := by omega
      clear hk32 hend
      rcases hcase with hk32 | ⟨hk31, hfk2⟩
      · have hk32' : 32 ≤ k := by omega
        clear hk32
        go_wp2_with fail
        go_quiet ((go_at_call 21; exact Calls.quiet_of_same ((sum_any _ _ (by first | (rw [← len_size, data_mk]; omega) | (rw [ByteArray.size_extract]; omega)) (HNb.out _)).mono (fun _ _ h => ⟨h.1, h.2.symm⟩))))
        go_wp2_with fail
        go_ret
        refine ⟨ret_bool ?_, hBr.trans (below_draws _ _ _)⟩
        rw [← ext_data s M, HL0.out]
        exact burst_bool HCR.out
      · go_wp2_with fail
        go_quiet ((go_at_call 21; exact Calls.quiet_of_same ((sum_any _ _ (by first | (rw [← len_size, data_mk]; omega) | (rw [ByteArray.size_extract]; omega)) (HNb.out _)).mono (fun _ _ h => ⟨h.1, h.2.symm⟩))))
        go_wp2_with fail
        go_ret
        refine ⟨ret_bool ?_, hBr.trans (below_draws _ _ _)⟩
        rw [← ext_data s M, HL0.out]
        exact burst_bool HCR.out
end Go.Proofs.YthfoglgmilbolaaDoor
