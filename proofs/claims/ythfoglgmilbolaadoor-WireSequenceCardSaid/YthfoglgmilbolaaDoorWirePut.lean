/- What PutInt returns: the groups of the zigzag number, or an error; conditions: none. -/
import Derived.Test.YthfoglgmilbolaaDoorWireRPut
import Derived.Test.YthfoglgmilbolaaDoorRange
import Derived.RangeFuncBound
import Derived.Shelf.Abstract
import Derived.Shelf.RegionOpen
import Derived.OwnWalkIn
import Derived.TacticsInMore
import Derived.LoopNIn
import Derived.LoopIn
namespace Go.Proofs.YthfoglgmilbolaaDoor
open Go.RowKit Wire
attribute [local go_sem] Oper.semAt_some
/-- the number in a box -/
def boxInt (b : Nat) (W : World) : Nat := match W.cell? ⟨b, 0, none⟩ with | some (.int _ n) => n.toNat | _ => 0
theorem boxInt_eq {b t : Nat} {k : IntKind} {n : Int} {W : World} (h : Boxed W b t (.int k n)) : boxInt b W = n.toNat := by simp [boxInt, h.cell]

set_option maxHeartbeats 400000 in
theorem groups_any (z : Int) (w : World) :
    Calls Tryd.prog 23 #[.int .u64 z] w fun e w' => e = .returned (.func (.func 25) #[] #[.pointer (some ⟨w.heap.size, 0, none⟩)]) ∧ w.alloc (.cells #[.int .u64 z] 49) = w' := by
  go_enter Tryd.func23, Tryd.ntmps23
  go_wp2
  go_ret
  exact ⟨rfl, rfl⟩

theorem and127 (y : Nat) (h : (y : Int) ≤ 18446744073709551615) : bits BinOp.and IntKind.u64 (y : Int) 127 = (y : Int) % 128 := by
  have := u64_and_nat y 127 (by omega) (by omega)
  rw [nat_mask7] at this
  exact this

def RoundGives (J : Nat → World → Prop) (Fin : World → Prop) (zb y : Nat) (e : Ending) (W' : World) : Prop :=
  e = .returned (.bool true) ∧ Boxed W' zb 49 (.int .u64 (y : Int)) ∧ (y < 128 → Fin W') ∧ (128 ≤ y → ∀ u, J (y / 128) (W'.setCell ⟨zb, 0, none⟩ u))

set_option maxRecDepth 100000 in
set_option maxHeartbeats 1000000 in
theorem groups1_in (l zb z : Nat) (J : Nat → World → Prop) (Fin : World → Prop) (hz : (z : Int) ≤ 9223372036854775807)
    (hY : ∀ y W, y ≤ z → J y W → Boxed W zb 49 (.int .u64 (y : Int)) → YieldAt Fence.wide 0 Tryd.prog l #[.int .u8 ((y : Int) % 128), .bool (decide ((y : Int) < 128))] W (RoundGives J Fin zb y))
    (W : World) (hb : Boxed W zb 49 (.int .u64 (z : Int))) (h0 : J z W) :
    CallsIn Fence.wide 0 Tryd.prog 25 #[.func (.yield l) #[] #[], .pointer (some ⟨zb, 0, none⟩)] W fun e W' => (∃ v, e = .returned v) ∧ Fin W' := by
  refine callsIn_of_wp Tryd.func25 rfl trivial ?_ rfl
  simp only [Tryd.ntmps25, List.size_toArray, List.length_cons, List.length_nil, Nat.reduceAdd, Nat.reduceSub, Array.replicate_succ, Array.replicate_zero, List.push_toArray, List.append_toArray, List.nil_append, List.cons_append]
  gi_wp2
  gi_loopw [3] (fun _ wr => ∃ y : Nat, y ≤ z ∧ J y wr ∧ Boxed wr zb 49 (.int .u64 (y : Int))) (fun _ wr => boxInt zb wr)
  case atStart => exact ⟨z, Nat.le_refl _, h0, hb⟩
  case round =>
    obtain ⟨y, hy, hJ, hby⟩ := hrel
    obtain ⟨fn, tmps, assign, body, hy1, hR⟩ := hY y wr hy hJ hby
    have hc := hby.cell
    have hf := hby.frozen
    have hbits : bits BinOp.and IntKind.u64 (y : Int) 127 = (y : Int) % 128 := and127 y (by omega)
    clear hY
    by_cases hlt : y < 128
    · gi_wp2
      refine ⟨rfl, hR.mono ?_⟩
      rintro e W3 ⟨rfl, hb3, hfin, _⟩
      have hfin := hfin hlt
      gi_wp2
      refine bodyPost_ret (results_none rfl _ _ _) rfl ?_
      exact ⟨⟨_, rfl⟩, hfin⟩
    · gi_wp2
      refine ⟨rfl, hR.mono ?_⟩
      rintro e W3 ⟨rfl, hb3, _, hgo⟩
      have hgo := Lib.hid (hgo (by omega))
      have hc3 := hb3.cell
      have hf3 := hb3.frozen
      gi_wp2
      have hb4 := hb3.set (.int .u64 ((y : Int) / 128))
      exact ⟨⟨y / 128, by omega, hgo.out _, hb4⟩, by rw [boxInt_eq hb4, boxInt_eq hby]; omega⟩

theorem xor_ones (x : Nat) (h : x < 18446744073709551616) : x ^^^ 18446744073709551615 = 18446744073709551615 - x := by
  have e := congrArg BitVec.toNat (BitVec.xor_allOnes (x := BitVec.ofNat 64 x))
  rw [BitVec.toNat_xor, BitVec.toNat_not, BitVec.toNat_allOnes, BitVec.toNat_ofNat, Nat.mod_eq_of_lt (by simpa using h)] at e
  simpa using e
theorem zz_bits (n : Int) (h0 : -4611686018427387903 ≤ n) (h1 : n ≤ 4611686018427387903) :
    bits BinOp.xor IntKind.u64 (IntKind.u64.wrap (IntKind.u64.wrap n * 2)) (IntKind.u64.wrap (n / 9223372036854775808)) = ((zz n : Nat) : Int) := by
  simp only [IntKind.wrap_u64]
  unfold zz
  by_cases h : n < 0
  · rw [if_pos h]
    have e1 : n % 18446744073709551616 * 2 % 18446744073709551616 = ((18446744073709551616 - (-n).toNat * 2 : Nat) : Int) := by omega
    have e2 : n / 9223372036854775808 % 18446744073709551616 = ((18446744073709551615 : Nat) : Int) := by omega
    rw [e1, e2, u64_xor_nat _ _ (by omega) (by omega), xor_ones _ (by omega)]
    omega
  · rw [if_neg h]
    have e1 : n % 18446744073709551616 * 2 % 18446744073709551616 = ((n.toNat * 2 : Nat) : Int) := by omega
    have e2 : n / 9223372036854775808 % 18446744073709551616 = ((0 : Nat) : Int) := by omega
    rw [e1, e2, u64_xor_nat _ _ (by omega) (by omega), Nat.xor_zero]

theorem or128 (b : Nat) (h : b < 128) : bits BinOp.or IntKind.u8 (b : Int) 128 = ((b + 128 : Nat) : Int) := by
  have := u8_or128_right b (by omega) (by omega)
  rw [this]; omega

def PutJ (w : World) (z0 l D : Nat) (rec : LoopState → Option Code → Obj) (y : Nat) (W : World) : Prop :=
  ∃ (pre : List UInt8) (v : Value), pre ++ enc y = enc z0 ∧ Boxed W w.heap.size 38 v ∧ W.ownsRow w.heap.size 5 1 v pre.length (pre.map bv) ∧ Below w.heap.size w W ∧
    W.heap[l]? = some (rec .ready none) ∧ W.heap[D]? = some (.deferred (some []))
def PutF (w : World) (z0 l D : Nat) (rec : LoopState → Option Code → Obj) (W : World) : Prop :=
  ∃ (v : Value), Boxed W w.heap.size 38 v ∧ W.ownsRow w.heap.size 5 1 v (enc z0).length ((enc z0).map bv) ∧ Below w.heap.size w W ∧
    W.heap[l]? = some (rec .ready none) ∧ W.heap[D]? = some (.deferred (some []))

theorem put_close {w Wb W3 : World} {z0 y D : Nat} {rec : LoopState → Option Code → Obj} (hcl : ∀ st pe, (rec st pe).isCells = false) {pre : List UInt8} {b : UInt8} {v' : Value} {a : Act}
    (hv2 : Boxed W3 w.heap.size 38 v') (hr2 : W3.ownsRow w.heap.size 5 1 v' (pre.length + 1) ((pre ++ [b]).map bv)) (hk2 : KeepsOthers Wb W3) (hB3 : Below w.heap.size w W3)
    (hz2 : Boxed W3 (w.heap.size + 1) 49 (.int .u64 (y : Int))) (hlb : Wb.heap[D + 1]? = some (rec .busy none)) (hDb : Wb.heap[D]? = some (.deferred (some []))) (hD : w.heap.size + 2 ≤ D)
    (hfin : y < 128 → pre ++ [b] = enc z0) (hnext : 128 ≤ y → (pre ++ [b]) ++ enc (y / 128) = enc z0) :
    roundEnd (D + 1) rec (RoundGives (PutJ w z0 (D + 1) D rec) (PutF w z0 (D + 1) D rec) (w.heap.size + 1) y) .normal a W3 := by
  have hl3 := hk2.same _ _ hlb (hcl _ _)
  have hD3 := hk2.same _ _ hDb rfl
  have hv4 := boxed_putObj hv2 (show w.heap.size ≠ D + 1 by omega) (rec .ready none)
  have hr4 := ownsRow_putObj hr2 (rec .ready none) hl3 (hcl _ _)
  have hB4 := below_putObj hB3 (show w.heap.size ≤ D + 1 by omega) (rec .ready none)
  have hz4 := boxed_putObj hz2 (show w.heap.size + 1 ≠ D + 1 by omega) (rec .ready none)
  have hl4 := heap_put hl3 (rec .ready none)
  have hD4 := heap_putObj hD3 (show D ≠ D + 1 by omega) (rec .ready none)
  refine ⟨hl3, ?_⟩
  generalize W3.putObj (D + 1) (rec .ready none) = W4 at hv4 hr4 hB4 hz4 hl4 hD4 ⊢
  refine ⟨rfl, hz4, fun h => ?_, fun h u => ?_⟩
  · have he := hfin h
    exact ⟨v', hv4, by rw [← he]; simpa using hr4, hB4, hl4, hD4⟩
  · exact ⟨pre ++ [b], v', hnext h, hv4.other (by omega) u, by simpa using ownsRow_setCell_other (a := ⟨w.heap.size + 1, 0, none⟩) hr4 (hz4.not_row (by decide) hr4).symm u, hB4.setCell (p := ⟨w.heap.size + 1, 0, none⟩) (by simp) u,
      heap_setCell (p := ⟨w.heap.size + 1, 0, none⟩) hl4 (by simp; omega) u, heap_setCell (p := ⟨w.heap.size + 1, 0, none⟩) hD4 (by simp; omega) u⟩

set_option maxRecDepth 100000 in
set_option maxHeartbeats 1000000 in
theorem put_yes (n : Int) (w : World) (h0 : -4611686018427387903 ≤ n) (h1 : n ≤ 4611686018427387903) :
    Calls Tryd.prog 12 #[.int .i64 n] w fun e w' => e = .returned (.tuple #[bs (enc (zz n)), .int .i64 0]) ∧ Below w.heap.size w w' := by
  obtain ⟨i0, hi, hz0, hz1, hz2⟩ := info_parts info5
  have hl9 := enc_len9 (zz_lt h0 h1)
  have hzl : ((zz n : Nat) : Int) ≤ 9223372036854775806 := by have := zz_lt h0 h1; omega
  refine calls_of_wp_marks Tryd.func12 rfl ?_
  simp only [Tryd.ntmps12, List.size_toArray, List.length_cons, List.length_nil, Nat.reduceAdd, Nat.reduceSub, Array.replicate_succ, Array.replicate_zero, List.push_toArray, List.append_toArray, List.nil_append, List.cons_append]
  go_wp2_with fail
  rw [zz_bits n h0 h1]
  refine (groups_any _ _).mono ?_
  rintro e w1 ⟨rfl, rfl⟩
  go_wp2_with fail
  obtain ⟨W0, hW0⟩ : ∃ W0, (w.alloc (.cells #[.slice none 0 0] 38)).alloc (.cells #[.int .u64 ((zz n : Nat) : Int)] 49) = W0 := ⟨_, rfl⟩
  have hs0 : W0.heap.size ≤ w.heap.size + 2 ∧ w.heap.size + 2 ≤ W0.heap.size := by rw [← hW0]; simp
  have bO : Boxed W0 w.heap.size 38 (.slice none 0 0) := by rw [← hW0]; exact (Boxed.new w _ _).alloc _
  have bZ : Boxed W0 (w.heap.size + 1) 49 (.int .u64 ((zz n : Nat) : Int)) := by
    rw [← hW0]; have := Boxed.new (w.alloc (.cells #[.slice none 0 0] 38)) 49 (.int .u64 ((zz n : Nat) : Int)); rwa [World.size_alloc] at this
  have hB0 : Below w.heap.size w W0 := by rw [← hW0]; exact ((Below.refl _ w).alloc (Nat.le_refl _) _).alloc (by simp) _
  rw [hW0]
  clear hW0
  refine range_outer (n := 0) (gf := 25) (lb := #[.pointer (some ⟨w.heap.size + 1, 0, none⟩)]) rfl (enters_of Tryd.func25 (by kernel_rfl) rfl) ?_
  intro fn rec hrec
  have hcl := rec_cells hrec
  refine (groups1_in _ (w.heap.size + 1) (zz n) (PutJ w (zz n) (W0.heap.size + 1) W0.heap.size rec) (PutF w (zz n) (W0.heap.size + 1) W0.heap.size rec) (by omega) ?round _ ?box ?start).mono ?done
  case box => exact (bZ.alloc _).alloc _
  case start =>
    refine ⟨[], _, rfl, (bO.alloc _).alloc _, World.ownsRow_nil _ _ _ _, (hB0.alloc (by omega) _).alloc (by simp; omega) _, ?_, ?_⟩
    · have := World.alloc_heap_new (W0.alloc (.deferred (some []))) (rec .ready none)
      rwa [World.size_alloc] at this
    · exact heap_alloc (World.alloc_heap_new W0 _) _
  case round =>
    rintro y W hy ⟨pre, v, hpre, hv, hrow, hB, hl, hD⟩ hz
    have hlen : pre.length + (enc y).length ≤ 9 := by rw [← List.length_append, hpre]; exact hl9
    have hne : 1 ≤ (enc y).length := List.length_pos_iff.2 (enc_ne y)
    have HP := Lib.hid hpre
    clear hpre
    refine yield_round hrec trivial hl rfl ?_
    clear hrec
    gi_wp2
    refine ⟨hl, ?_⟩
    obtain ⟨Wb, hWb⟩ : ∃ Wb, W.putObj (W0.heap.size + 1) (rec .busy none) = Wb := ⟨_, rfl⟩
    have hvb : Boxed Wb w.heap.size 38 v := by rw [← hWb]; exact boxed_putObj hv (by omega) _
    have hzb : Boxed Wb (w.heap.size + 1) 49 (.int .u64 (y : Int)) := by rw [← hWb]; exact boxed_putObj hz (by omega) _
    have hrb : Wb.ownsRow w.heap.size 5 1 v pre.length (pre.map bv) := by rw [← hWb]; exact ownsRow_putObj hrow _ hl (hcl _ _)
    have hBb : Below w.heap.size w Wb := by rw [← hWb]; exact below_putObj hB (by omega) _
    have hlb := heap_put hl (rec .busy none)
    have hDb := heap_putObj hD (show W0.heap.size ≠ W0.heap.size + 1 by omega) (rec .busy none)
    rw [hWb] at hlb hDb ⊢
    clear hWb hv hrow hB hl hD hz
    have hcb := hvb.cell
    have hsB := hBb.size
    by_cases hlt : y < 128
    · have hb0 := Lib.hid (bv_ofNat y (by omega))
      rw [show ((y : Int) % 128) = (y : Int) by omega]
      have hd : decide ((y : Int) < 128) = true := by simp; omega
      gi_wp2_with (gi_at_builtin; refine wpListIn_append_own _ rfl _ _ 38 rfl w.heap.size 5 i0 (.int .u8 0) 1 1 Tryd.underlying38 hi hz0 hz1 hz2 rfl (by decide) _ _ _ rfl (hrb.alloc _) ⟨Wb.heap.size, 0, none⟩ 1 1 [.int .u8 (y : Int)] rfl rfl (cell_one_new _ _ _) (by simp [Value.oneCell']) (by unfold maxLen; omega) (by omega) (by simp; omega) ?_; intro v' w1 hown1 hgr _; obtain ⟨g', cap', rfl⟩ := ownsRow_succ hown1; obtain ⟨hv1, hv2, hr2, hk2, hb2⟩ := hvb.appended (by decide) hrb hsB (Nat.le_refl _) hown1 hgr; have hz2 := ((hzb.alloc _).kept hgr (hzb.not_row (by decide) hrb)).other (show w.heap.size + 1 ≠ w.heap.size by omega) (.slice (some ⟨g', 0, none⟩) (pre.length + 1) cap'); clear hown1 hgr; have hc1 := hv1.cell; have hf1 := hv1.frozen)
      exact put_close hcl (pre := pre) (b := UInt8.ofNat y) hv2 (by rw [List.map_append, List.map_singleton, hb0.out]; exact hr2) hk2 (hBb.trans hb2) hz2 hlb hDb (by omega) (fun _ => by rw [← HP.out, enc_small hlt]) (fun h => by omega)
    · have hb0 := Lib.hid (bv_ofNat (y % 128 + 128) (by omega))
      have hd : decide ((y : Int) < 128) = false := by simp; omega
      have hor : bits BinOp.or IntKind.u8 ((y : Int) % 128) 128 = (y : Int) % 128 + 128 := or128 (y % 128) (by omega)
      gi_wp2_with (gi_at_builtin; refine wpListIn_append_own _ rfl _ _ 38 rfl w.heap.size 5 i0 (.int .u8 0) 1 1 Tryd.underlying38 hi hz0 hz1 hz2 rfl (by decide) _ _ _ rfl (hrb.alloc _) ⟨Wb.heap.size, 0, none⟩ 1 1 [.int .u8 ((y : Int) % 128 + 128)] rfl rfl (cell_one_new _ _ _) (by simp [Value.oneCell']) (by unfold maxLen; omega) (by omega) (by simp; omega) ?_; intro v' w1 hown1 hgr _; obtain ⟨g', cap', rfl⟩ := ownsRow_succ hown1; obtain ⟨hv1, hv2, hr2, hk2, hb2⟩ := hvb.appended (by decide) hrb hsB (Nat.le_refl _) hown1 hgr; have hz2 := ((hzb.alloc _).kept hgr (hzb.not_row (by decide) hrb)).other (show w.heap.size + 1 ≠ w.heap.size by omega) (.slice (some ⟨g', 0, none⟩) (pre.length + 1) cap'); clear hown1 hgr; have hc1 := hv1.cell; have hf1 := hv1.frozen)
      exact put_close hcl (pre := pre) (b := UInt8.ofNat (y % 128 + 128)) hv2 (by rw [List.map_append, List.map_singleton, hb0.out]; exact hr2) hk2 (hBb.trans hb2) hz2 hlb hDb (by omega) (fun h => by omega) (fun h => by rw [← HP.out, enc_big (z := y) (by omega), List.append_assoc, List.singleton_append])
  case done =>
    rintro e W' ⟨hv, v, hbox, hrow, hB, hl, hD⟩
    refine ⟨hv, .inl ⟨hl, ?_⟩⟩
    have hbox4 := boxed_putObj hbox (show w.heap.size ≠ W0.heap.size + 1 by omega) (rec .exhausted none)
    have hrow4 := ownsRow_putObj hrow (rec .exhausted none) hl (hcl _ _)
    have hB4 := below_putObj hB (show w.heap.size ≤ W0.heap.size + 1 by omega) (rec .exhausted none)
    have hD4 := heap_putObj hD (show W0.heap.size ≠ W0.heap.size + 1 by omega) (rec .exhausted none)
    obtain ⟨W4, hW4⟩ : ∃ W4, W'.putObj (W0.heap.size + 1) (rec .exhausted none) = W4 := ⟨_, rfl⟩
    rw [hW4] at hbox4 hrow4 hB4 hD4 ⊢
    clear hW4 hrec
    have hc4 := hbox4.cell
    have hcv := conv_own 38 9 5 Tryd.underlying38 Tryd.underlying5 Tryd.underlying9 hrow4
    go_wp2_with fail
    exact leaves_marked hD4 (results_tmp2 rfl _ _ _) ⟨rfl, below_putObj hB4 (by omega) _⟩

set_option maxRecDepth 100000 in
set_option maxHeartbeats 1000000 in
theorem put_no (n : Int) (w : World) (h : n < -4611686018427387903 ∨ 4611686018427387903 < n) :
    Calls Tryd.prog 12 #[.int .i64 n] w fun e w' => e = .returned (.tuple #[bs [], .int .i64 10]) ∧ w = w' := by
  rcases h with h | h
  · go_enter Tryd.func12, Tryd.ntmps12
    go_wp2_with fail
    go_ret2
    exact ⟨rfl, rfl⟩
  · have h' : ¬ n < -4611686018427387903 := by omega
    go_enter Tryd.func12, Tryd.ntmps12
    go_wp2_with fail
    go_ret2
    exact ⟨rfl, rfl⟩
end Go.Proofs.YthfoglgmilbolaaDoor
