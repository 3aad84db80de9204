/- What the reference PutInt returns: the groups of the zigzag number, or an error; conditions: none. -/
import Derived.Test.YthfoglgmilbolaaDoorWireNum
import Derived.RangeFuncNested
import Derived.Maps.AppendAt
namespace Go.Proofs.YthfoglgmilbolaaDoor
open Go.RowKit Wire
/-- a byte as a value -/
def bv (b : UInt8) : Value := .int .u8 (b.toNat : Int)
/-- a list of bytes as a string -/
def bs (l : List UInt8) : Value := .string ⟨l.toArray⟩
theorem info5 : (Tryd.prog.info? 5).map (fun i => (i.zero, i.size, i.bytes)) = some (some (.int .u8 0), 1, 1) := by kernel_rfl
theorem bv_one (l : List UInt8) : ∀ u ∈ l.map bv, u.oneCell' = true := by
  intro u hu; simp at hu; obtain ⟨b, _, rfl⟩ := hu; rfl
theorem bv_ofNat (k : Nat) (h : k < 256) : bv (UInt8.ofNat k) = .int .u8 (k : Int) := by
  unfold bv; rw [UInt8.toNat_ofNat']; congr 1; omega

theorem conv_own {P : Program} {w : World} {base n : Nat} {v : Value} {l : List UInt8} (src dst e : TypeId) (hs : P.underlying src = some (.slice e)) (he : P.underlying e = some (.int .u8)) (hd : P.underlying dst = some .string)
    (h : w.ownsRow base e 1 v n (l.map bv)) : (convert src dst v).run P w = .ok (bs l) w := by
  have hn : l.length = n := by simpa using h.1
  rcases h.2 with ⟨rfl, h0⟩ | ⟨g, cap, cur, rfl, hb, hg, hnc, hcm, hsz, htk⟩
  · have : l = [] := by cases l <;> simp_all
    subst this
    rw [run_convert_bytes_nil w src e hs he 0 0 dst hd]; rfl
  · rw [run_convert_bytes_arg w src e hs he g 0 n cap (l.map fun b => (b.toNat : Int)) (by simpa using hn) (fun i hi => ?_) dst hd]
    · unfold bs strOfNums
      simp [List.map_map, Function.comp_def]
    · have hc := h.cellAt i (by omega)
      rw [Nat.zero_add, hc, List.getElem?_map, List.getElem?_eq_getElem (by omega)]
      simp [bv, List.getD, List.getElem?_eq_getElem (show i < (l.map fun b => (b.toNat : Int)).length by simp; omega)]

/-- one byte appended to bytes that the call owns -/
theorem own_snoc {w wr w1 : World} {e : TypeId} {v v1 x : Value} {pre : List UInt8} {b : UInt8} {o : Obj} {B : Nat} (hB : Below B w wr) (hown : wr.ownsRow B e 1 v pre.length (pre.map bv))
    (hown1 : w1.ownsRow B e 1 v1 (pre.length + 1) (pre.map bv ++ [x])) (hgr : (wr.alloc o).grownBy w1 v.ownBlock) (hx : bv b = x) (hsz : B ≤ wr.heap.size := by omega) :
    w1.ownsRow B e 1 v1 (pre.length + 1) ((pre ++ [b]).map bv) ∧ Below B w w1 := by
  subst hx
  refine ⟨by simpa using hown1, (hB.alloc hsz o).grown hgr (by simp; omega) fun j ej => ?_⟩
  exact (hown.lt j ej).1

set_option maxHeartbeats 1000000 in
theorem rput_no (n : Int) (w : World) (h : n < -4611686018427387903 ∨ 4611686018427387903 < n) :
    Calls Tryd.prog 13 #[.int .i64 n] w fun e w' => e = .returned (.tuple #[bs [], .int .i64 10]) ∧ w = w' := by
  rcases h with h | h
  · go_enter Tryd.func13, Tryd.ntmps13
    go_wp2_with fail
    go_ret2
    exact ⟨rfl, rfl⟩
  · have h' : ¬ n < -4611686018427387903 := by omega
    go_enter Tryd.func13, Tryd.ntmps13
    go_wp2_with fail
    go_ret2
    exact ⟨rfl, rfl⟩

set_option maxHeartbeats 1000000 in
set_option maxRecDepth 100000 in
theorem rput_yes (n : Int) (w : World) (h0 : -4611686018427387903 ≤ n) (h1 : n ≤ 4611686018427387903) :
    Calls Tryd.prog 13 #[.int .i64 n] w fun e w' => e = .returned (.tuple #[bs (enc (zz n)), .int .i64 0]) ∧ Below w.heap.size w w' := by
  obtain ⟨i0, hi, hz0, hz1, hz2⟩ := info_parts info5
  have hl9 := enc_len9 (zz_lt h0 h1)
  have hzl : ((zz n : Nat) : Int) ≤ 9223372036854775806 := by have := zz_lt h0 h1; omega
  go_enter Tryd.func13, Tryd.ntmps13
  go_wp2_with fail
  refine (zz_any _ _ (by omega) (by omega)).mono ?_
  rintro e w1 ⟨rfl, rfl⟩
  go_wp2_with fail
  go_loopw [4, 5] (fun z v wr => ∃ (y : Nat) (pre : List UInt8), z = .int .u64 (y : Int) ∧ y ≤ zz n ∧ pre ++ enc y = enc (zz n) ∧ wr.ownsRow w.heap.size 5 1 v pre.length (pre.map bv) ∧ Below w.heap.size w wr)
    (fun z _ _ => (intOf z).toNat)
  case atStart => exact ⟨zz n, [], rfl, Nat.le_refl _, rfl, World.ownsRow_nil _ _ _ _, Below.refl _ _⟩
  case round =>
    obtain ⟨y, pre, rfl, hy, hpre, hown, hB⟩ := hrel
    have hlen : pre.length + (enc y).length ≤ 9 := by rw [← List.length_append, hpre]; exact hl9
    have hne : 1 ≤ (enc y).length := List.length_pos_iff.2 (enc_ne y)
    have hsz := hB.size
    have HP := Lib.hid hpre
    clear hpre
    by_cases hlt : y < 128
    · have hb0 := bv_ofNat y (by omega)
      go_wp2_with (at_builtin; refine wpList_append_own _ rfl _ _ 38 rfl w.heap.size 5 i0 (.int .u8 0) 1 1 Tryd.underlying38 hi hz0 hz1 hz2 rfl (by decide) _ _ _ rfl (hown.alloc _) ⟨wr.heap.size, 0, none⟩ 1 1 [.int .u8 (y : Int)] rfl rfl (cell_one_new _ _ _) (by simp [Value.oneCell']) (by unfold maxLen; omega) (by omega) (by simp; omega) ?_; intro v1 w1 hown1 hgr1 _; obtain ⟨hown2, hB1⟩ := own_snoc hB hown hown1 hgr1 hb0; clear hown1 hgr1; have hcv := conv_own 38 9 5 Tryd.underlying38 Tryd.underlying5 Tryd.underlying9 hown2)
      go_ret2
      exact ⟨congrArg (fun l => Ending.returned (.tuple #[bs l, .int .i64 0])) (by rw [← HP.out, enc_small hlt]), hB1⟩
    · have hb0 := bv_ofNat (y % 128 + 128) (by omega)
      go_wp2_with (at_builtin; refine wpList_append_own _ rfl _ _ 38 rfl w.heap.size 5 i0 (.int .u8 0) 1 1 Tryd.underlying38 hi hz0 hz1 hz2 rfl (by decide) _ _ _ rfl (hown.alloc _) ⟨wr.heap.size, 0, none⟩ 1 1 [.int .u8 ((y : Int) % 128 + 128)] rfl rfl (cell_one_new _ _ _) (by simp [Value.oneCell']) (by unfold maxLen; omega) (by omega) (by simp; omega) ?_; intro v1 w1 hown1 hgr1 _; obtain ⟨hown2, hB1⟩ := own_snoc hB hown hown1 hgr1 hb0; clear hown1 hgr1)
      go_roundw
      case rel => exact ⟨y / 128, pre ++ [UInt8.ofNat (y % 128 + 128)], by go_num, by omega, by rw [← HP.out, enc_big (z := y) (by omega), List.append_assoc, List.singleton_append], by simpa using hown2, hB1⟩
      case measure => simp [intOf]; omega
end Go.Proofs.YthfoglgmilbolaaDoor
