/- The walk of the law WireSumAffine. -/
import Derived.Test.YthfoglgmilbolaaDoorLaw2
import Derived.Test.YthfoglgmilbolaaDoorWireAff
import Derived.Deep.QuietTactic
import Derived.BigQuiet
namespace Go.Proofs.YthfoglgmilbolaaDoor
open Go.RowKit Wire
theorem run_min_int4 {P : Program} (w : World) (ts : Array TypeId) (t : TypeId) (x y z u : Int) : ∃ M : Int, (Builtin.min_ ts t #[.int .i64 x, .int .i64 y, .int .i64 z, .int .i64 u]).run P w = .ok (.int .i64 M) w ∧
    M ≤ x ∧ M ≤ y ∧ M ≤ z ∧ M ≤ u ∧ (0 ≤ x → 0 ≤ y → 0 ≤ z → 0 ≤ u → 0 ≤ M) := by
  refine ⟨if u < (if z < (if y < x then y else x) then z else (if y < x then y else x)) then u else (if z < (if y < x then y else x) then z else (if y < x then y else x)), by simp [Builtin.min_, Builtin.min2], ?_⟩
  (repeat' split) <;> omega
theorem ret_bool {a : Bool} (h : a = true) : Ending.returned (.bool a) = .returned (.bool true) := by rw [h]
theorem below_draws (B : Nat) (w : World) (n : Nat) : Below B w (w.drewN n) := ⟨rfl, rfl, rfl, Nat.le_refl _, fun _ _ => rfl⟩
theorem i64_xor32 {a b : Nat} (ha : a < 4294967296) (hb : b < 4294967296) : bits .xor .i64 (a : Int) (b : Int) = ((a ^^^ b : Nat) : Int) := by
  have hx : a ^^^ b < 2 ^ 32 := Nat.xor_lt_two_pow ha hb
  show IntKind.i64.wrap ((BitVec.ofInt 64 (a : Int) ^^^ BitVec.ofInt 64 (b : Int)).toNat : Int) = _
  rw [BitVec.toNat_xor, BitVec.ofInt_natCast, BitVec.ofInt_natCast, BitVec.toNat_ofNat, BitVec.toNat_ofNat, Nat.mod_eq_of_lt (by omega), Nat.mod_eq_of_lt (by omega), IntKind.wrap_i64]
  omega
theorem set_grow {α : Type} {L : List α} {k M : Nat} {z : α} (hk : k < M) (hL : L.length = M) : (L.take k ++ List.replicate (M - k) z).set k (L[k]'(by omega)) = L.take (k + 1) ++ List.replicate (M - (k + 1)) z := by
  have h1 : (L.take k).length = k := by rw [List.length_take]; omega
  rw [List.set_append_right _ _ (by omega), h1, Nat.sub_self, show M - k = (M - (k + 1)) + 1 by omega, List.replicate_succ, List.set_cons_zero, List.take_succ_eq_append_getElem (show k < L.length by omega), List.append_assoc]
  rfl
theorem xor_rows (a b c : ByteArray) (M : Nat) (ha : M ≤ a.size) (hb : M ≤ b.size) (hc : M ≤ c.size) :
    ∃ X : List UInt8, X.length = M ∧ (∀ (k : Nat) (hk : k < M), X[k]? = some ((a[k]'(by omega)) ^^^ (b[k]'(by omega)) ^^^ (c[k]'(by omega)))) ∧
      crc X = (crc (a.data.toList.take M) ^^^ crc (b.data.toList.take M)) ^^^ crc (c.data.toList.take M) := by
  have nA : (a.data.toList.take M).length = M := by rw [List.length_take, len_size]; omega
  have nB : (b.data.toList.take M).length = M := by rw [List.length_take, len_size]; omega
  have nC : (c.data.toList.take M).length = M := by rw [List.length_take, len_size]; omega
  have nAB := xorL_len _ _ (nA.trans nB.symm)
  have nX := xorL_len (xorL (a.data.toList.take M) (b.data.toList.take M)) (c.data.toList.take M) (by omega)
  refine ⟨_, by omega, fun k hk => ?_, crc_xor3 _ _ _ (by omega) (by omega)⟩
  rw [List.getElem?_eq_getElem (by omega), xorL_get _ _ k (by omega) (by omega), xorL_get _ _ k (by omega) (by omega)]
  simp only [List.getElem_take]
  rfl
set_option maxRecDepth 100000 in
set_option maxHeartbeats 4000000 in
theorem law7 (a b c : ByteArray) (w : World) (hN : Nib w) (ha : (a.size : Int) ≤ 9223372036854775807) (hb : (b.size : Int) ≤ 9223372036854775807) (hc : (c.size : Int) ≤ 9223372036854775807) :
    Calls Tryd.prog 9 #[.string a, .string b, .string c] w fun e w' => e = .returned (.bool true) ∧ Below w.heap.size w w' := by
  have HN := Lib.hid hN
  clear hN
  obtain ⟨i0, hi, hz0, hz1, hz2⟩ := info_parts info5
  go_enter Tryd.func9, Tryd.ntmps9
  go_wp2_with fail
  refine (sane_any _ HN.out).mono ?_
  rintro e w1 ⟨rfl, b1⟩
  obtain ⟨M0, hM, hm1, hm2, hm3, hm4, hm5⟩ := run_min_int4 (P := Tryd.prog) w1 #[3, 3, 3, 3] 3 a.size b.size c.size 200
  obtain ⟨M, rfl⟩ := Int.eq_ofNat_of_zero_le (hm5 (by omega) (by omega) (by omega) (by omega))
  clear hm5
  go_wp2_with (at_make; refine wpList_make_full _ rfl _ _ _ rfl w.heap.size 5 i0 (.int .u8 0) 1 Tryd.underlying38 hi hz0 hz1 .i64 .i64 _ _ M rfl rfl rfl rfl (by rw [hz2]; omega) (by unfold maxLen; omega) b1.size ?_; intro w2 hown hgr)
  obtain ⟨X, nX, xget, xcrc⟩ := xor_rows a b c M (by omega) (by omega) (by omega)
  have HX := Lib.hid xget
  have HC := Lib.hid xcrc
  have HL := Lib.hid nX
  have hown0 : w2.ownsRow w.heap.size 5 1 (.slice (some ⟨w1.heap.size, 0, none⟩) M M) M ((X.take 0 ++ List.replicate (M - 0) 0).map bv) := by
    have e : (madeCells (Value.int IntKind.u8 0).cells (M * 1)).toList = (X.take 0 ++ List.replicate (M - 0) (0 : UInt8)).map bv := by
      rw [Nat.mul_one, show (Value.int IntKind.u8 0).cells = #[.int .u8 0] from rfl, toList_madeCells_one]
      simp [bv]
    rw [← e]; exact hown
  have B2 : Below w.heap.size w w2 := b1.grown hgr b1.size (fun k ek => by cases ek)
  clear hown hgr xget nX xcrc hM
  obtain ⟨g, hg⟩ : ∃ g, g = w1.heap.size := ⟨_, rfl⟩
  rw [← hg] at hown0 ⊢
  have hgB : w.heap.size ≤ g := by rw [hg]; exact b1.size
  clear hg b1
  go_loopw [10] (fun i wr => ∃ k : Nat, k ≤ M ∧ i = .int .i64 (k : Int) ∧ wr.ownsRow w.heap.size 5 1 (.slice (some ⟨g, 0, none⟩) M M) M ((X.take k ++ List.replicate (M - k) 0).map bv) ∧ Below w.heap.size w wr) (fun i _ => M - (intOf i).toNat)
  case atStart => exact ⟨0, by omega, rfl, hown0, B2⟩
  case round =>
    obtain ⟨k, hk, rfl, hown, hB⟩ := hrel
    by_cases hlt : k < M
    · have hcell := hown.cellAt k (by omega)
      have hfr := hown.frozenAt k
      obtain ⟨old, hold⟩ : ∃ old : Int, wr.cell? ⟨g, k, none⟩ = some (.int .u8 old) := by
        have hl : k < (X.take k ++ List.replicate (M - k) (0 : UInt8)).length := by
          rw [List.length_append, List.length_take, List.length_replicate, HL.out]; omega
        rw [hcell, List.getElem?_map, List.getElem?_eq_getElem hl]
        exact ⟨_, rfl⟩
      have hxk := HX.out k hlt
      have hx : bits BinOp.xor IntKind.u8 (bits BinOp.xor IntKind.u8 ((a[k]'(by omega)).toNat : Int) ((b[k]'(by omega)).toNat : Int)) ((c[k]'(by omega)).toNat : Int) = (((a[k]'(by omega)) ^^^ (b[k]'(by omega)) ^^^ (c[k]'(by omega))).toNat : Int) := by
        rw [u8_xor_nat _ _ (UInt8.toNat_lt _) (UInt8.toNat_lt _), ← UInt8.toNat_xor, u8_xor_nat _ _ (UInt8.toNat_lt _) (UInt8.toNat_lt _), ← UInt8.toNat_xor]
      obtain ⟨xk, hxk'⟩ : ∃ xk, (a[k]'(by omega)) ^^^ (b[k]'(by omega)) ^^^ (c[k]'(by omega)) = xk := ⟨_, rfl⟩
      rw [hxk'] at hx hxk
      have HK := Lib.hid hxk
      clear hcell hxk hxk'
      have h1 : (k : Int) < a.size := by omega
      have h2 : (k : Int) < b.size := by omega
      have h3 : (k : Int) < c.size := by omega
      go_wp2_with fail
      go_region
      go_wp2_with fail
      have hst := hown.stored k (bv xk)
      refine ⟨⟨k + 1, by omega, by go_num, ?_, ?_⟩, by simp [intOf]; omega⟩
      · have hset := set_grow (z := (0 : UInt8)) hlt HL.out
        have hget : X[k]'(by rw [HL.out]; exact hlt) = xk := by
          have := HK.out
          rw [List.getElem?_eq_getElem (by rw [HL.out]; exact hlt)] at this
          simpa using this
        rw [hget] at hset
        rw [← hset, List.map_set]
        exact hst.1.drew
      · exact (hB.setCell (p := ⟨g, k, none⟩) hgB _).drew
    · obtain rfl : k = M := by omega
      have hfull : X.take k ++ List.replicate (k - k) (0 : UInt8) = X := by rw [Nat.sub_self, List.replicate_zero, List.append_nil, List.take_of_length_le (by rw [HL.out]; exact Nat.le_refl _)]
      rw [hfull] at hown
      clear hfull
      have hcv : ∀ n : Nat, (convert 38 9 (.slice (some ⟨g, 0, none⟩) k k)).run Tryd.prog (wr.drewN n) = .ok (bs X) (wr.drewN n) := fun n =>
        conv_own 38 9 5 Tryd.underlying38 Tryd.underlying5 Tryd.underlying9 (w := wr.drewN n) (n := k) hown
      have hNb : ∀ n : Nat, Nib (wr.drewN n) := fun n => by
        have h := HN.out.below hB (Nat.le_refl _)
        exact ⟨h.1, h.2⟩
      have HNb := Lib.hid hNb
      clear hNb
      have hXl : X.length ≤ 200 := by rw [HL.out]; omega
      unfold bs at hcv
      go_wp2_with fail
      go_quiet ((go_at_call 21; exact Calls.quiet_of_same ((sum_any _ _ (by first | (rw [← len_size, data_mk]; omega) | (rw [ByteArray.size_extract]; omega)) (HNb.out _)).mono (fun _ _ h => ⟨h.1, h.2.symm⟩))))
      go_wp2_with fail
      go_ret
      refine ⟨ret_bool ?_, hB.trans (below_draws _ _ _)⟩
      rw [i64_xor32 (crc_lt _) (crc_lt _), i64_xor32 (Nat.xor_lt_two_pow (n := 32) (crc_lt _) (crc_lt _)) (crc_lt _), ← HC.out]
      simp
end Go.Proofs.YthfoglgmilbolaaDoor
