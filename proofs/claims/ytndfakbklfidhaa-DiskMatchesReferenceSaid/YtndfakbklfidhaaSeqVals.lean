/- The library's slices.Values, AppendSeq and Collect at integers: a slice of the call's own with the same elements. -/
import Derived.Test.YtndfakbklfidhaaProg
import Derived.Test.YtndfakbklfidhaaRange
import Derived.Test.YtndfakbklfidhaaArr
import Derived.WalkKit
import Derived.KernelRfl
import Derived.WalkSpells
import Derived.Carry
import Derived.Lib.Hide
import Derived.RangeFuncBound
import Derived.Shelf.Abstract
import Derived.Shelf.RegionOpen
import Derived.OwnWalkIn
import Derived.TacticsInMore
import Derived.LoopNIn
import Derived.LoopIn
namespace Go.Proofs.Ytndfakbklfidhaa
open Go.RowKit
attribute [local go_sem] Oper.semAt_some
theorem int_info1 : (Try.prog.info? 3).map (fun i => (i.zero, i.size, i.bytes)) = some (some (.int .i64 0), 1, 8) := by kernel_rfl
theorem values_any (A : Option Addr) (n c : Nat) (w : World) : Calls Try.prog 40 #[.slice A n c] w fun e w' => e = .returned (.func (.func 47) #[] #[.pointer (some ⟨w.heap.size, 0, none⟩)]) ∧ w.alloc (.cells #[.slice A n c] 37) = w' := by
  go_enter Try.func40, Try.ntmps40
  go_wp2
  go_ret
  exact ⟨rfl, rfl⟩
set_option maxRecDepth 100000 in
set_option maxHeartbeats 1000000 in
theorem vals1_in (l Bs : Nat) (A : Option Addr) (cap : Nat) (zs : List Int) (J : Nat → World → Prop) (hn : (zs.length : Int) ≤ 4611686018427387904)
    (hJ : ∀ k W, J k W → IntsAt W A zs ∧ W.cell? ⟨Bs, 0, none⟩ = some (.slice A zs.length cap))
    (hY : ∀ k W, k < zs.length → J k W → YieldAt Fence.wide 0 Try.prog l #[.int .i64 (zs.getD k 0)] W (fun e W' => e = .returned (.bool true) ∧ J (k + 1) W'))
    (W : World) (h0 : J 0 W) :
    CallsIn Fence.wide 0 Try.prog 47 #[.func (.yield l) #[] #[], .pointer (some ⟨Bs, 0, none⟩)] W fun e W' => (∃ v, e = .returned v) ∧ J zs.length W' := by
  have hb := (hJ 0 W h0).2
  refine callsIn_of_wp Try.func47 rfl trivial ?_ rfl
  simp only [Try.ntmps47, List.size_toArray, List.length_cons, List.length_nil, Nat.reduceAdd, Nat.reduceSub, Array.replicate_succ, Array.replicate_zero, List.push_toArray, List.append_toArray, List.nil_append, List.cons_append]
  gi_wp2
  gi_loopw [7] (fun i wr => ∃ k : Nat, k ≤ zs.length ∧ i = .int .i64 (k : Int) ∧ J k wr) (fun i _ => zs.length - (intOf i).toNat)
  case atStart => exact ⟨0, Nat.zero_le _, rfl, h0⟩
  case round =>
    obtain ⟨k, hk, rfl, hJk⟩ := hrel
    by_cases hlt : k < zs.length
    · obtain ⟨b, o, rfl, hc⟩ := (hJ k wr hJk).1 k hlt
      obtain ⟨z, hz⟩ : ∃ z, zs.getD k 0 = z := ⟨_, rfl⟩
      obtain ⟨fn, tmps, assign, body, hy1, hR⟩ := hY k wr hlt hJk
      rw [hz] at hc hy1
      clear hz hJ hY
      have i1 : (0 : Int) ≤ (k : Int) := by omega
      have i2 : (k : Int) < (zs.length : Int) := by omega
      gi_wp2
      refine ⟨rfl, hR.mono ?_⟩
      rintro e W3 ⟨rfl, hJ3⟩
      gi_wp2
      exact ⟨⟨k + 1, by omega, by go_num, hJ3⟩, by simp [intOf]; omega⟩
    · obtain rfl : k = zs.length := by omega
      clear hJ hY
      gi_wp2
      go_end0
      exact ⟨⟨_, rfl⟩, hJk⟩
/-- a slice of the call's own with these integers -/
def OwnQ (zs : List Int) (w : World) (e : Ending) (w' : World) : Prop := ∃ v, e = .returned v ∧ w'.ownsRow w.heap.size 3 1 v zs.length (ivs zs) ∧ Below w.heap.size w w'
def ApJ (w : World) (zs : List Int) (l D : Nat) (rec : LoopState → Option Code → Obj) (k : Nat) (W : World) : Prop :=
  ∃ v, Boxed W w.heap.size 37 v ∧ W.ownsRow w.heap.size 3 1 v k (ivs (zs.take k)) ∧ Below w.heap.size w W ∧ W.heap[l]? = some (rec .ready none) ∧ W.heap[D]? = some (.deferred (some []))
theorem takeInt {l : List Int} {k : Nat} (h : k < l.length) : l.take (k + 1) = l.take k ++ [l.getD k 0] := by
  rw [List.take_succ_eq_append_getElem h, List.getD, List.getElem?_eq_getElem h]; rfl
theorem ap_close {w Wb W3 : World} {zs : List Int} {k D : Nat} {rec : LoopState → Option Code → Obj} (hcl : ∀ st pe, (rec st pe).isCells = false) {v' : Value} {a : Act}
    (hv2 : Boxed W3 w.heap.size 37 v') (hr2 : W3.ownsRow w.heap.size 3 1 v' (k + 1) (ivs (zs.take k) ++ [.int .i64 (zs.getD k 0)])) (hk2 : KeepsOthers Wb W3) (hB3 : Below w.heap.size w W3)
    (hlb : Wb.heap[D + 1]? = some (rec .busy none)) (hDb : Wb.heap[D]? = some (.deferred (some []))) (hD : w.heap.size + 1 ≤ D) (hlt : k < zs.length) :
    roundEnd (D + 1) rec (fun e W' => e = .returned (.bool true) ∧ ApJ w zs (D + 1) D rec (k + 1) W') .normal a W3 := by
  have hl3 := hk2.same _ _ hlb (hcl _ _)
  have hD3 := hk2.same _ _ hDb rfl
  have hv4 := boxed_putObj hv2 (show w.heap.size ≠ D + 1 by omega) (rec .ready none)
  have hr4 := ownsRow_putObj hr2 (rec .ready none) hl3 (hcl _ _)
  have hB4 := below_putObj hB3 (show w.heap.size ≤ D + 1 by omega) (rec .ready none)
  have hl4 := heap_put hl3 (rec .ready none)
  have hD4 := heap_putObj hD3 (show D ≠ D + 1 by omega) (rec .ready none)
  refine ⟨hl3, rfl, v', hv4, ?_, hB4, hl4, hD4⟩
  rw [takeInt hlt, ivs_append]; exact hr4
set_option maxRecDepth 100000 in
set_option maxHeartbeats 1000000 in
theorem append_seq (Bs : Nat) (A : Option Addr) (cap : Nat) (zs : List Int) (w : World) (hA : IntsAt w A zs) (hb : w.cell? ⟨Bs, 0, none⟩ = some (.slice A zs.length cap)) (hn : zs.length ≤ 17592186044416) :
    Calls Try.prog 49 #[.slice none 0 0, .func (.func 47) #[] #[.pointer (some ⟨Bs, 0, none⟩)]] w (OwnQ zs w) := by
  obtain ⟨i0, hi, hz0, hz1, hz2⟩ := info_parts int_info1
  refine calls_of_wp_marks Try.func49 rfl ?_
  simp only [Try.ntmps49, List.size_toArray, List.length_cons, List.length_nil, Nat.reduceAdd, Nat.reduceSub, Array.replicate_succ, Array.replicate_zero, List.push_toArray, List.append_toArray, List.nil_append, List.cons_append]
  have HA := Lib.hid hA
  have Hb := Lib.hid hb
  clear hA hb
  go_wp2_with fail
  obtain ⟨W0, hW0⟩ : ∃ W0, w.alloc (.cells #[.slice none 0 0] 37) = W0 := ⟨_, rfl⟩
  have hs0 : W0.heap.size ≤ w.heap.size + 1 ∧ w.heap.size + 1 ≤ W0.heap.size := by rw [← hW0]; simp
  have bO : Boxed W0 w.heap.size 37 (.slice none 0 0) := by rw [← hW0]; exact Boxed.new w _ _
  have hB0 : Below w.heap.size w W0 := by rw [← hW0]; exact (Below.refl _ w).alloc (Nat.le_refl _) _
  rw [hW0]
  clear hW0
  refine range_outer (n := 0) (gf := 47) (lb := #[.pointer (some ⟨Bs, 0, none⟩)]) rfl (enters_of Try.func47 (by kernel_rfl) rfl) ?_
  intro fn rec hrec
  have hcl := rec_cells hrec
  refine (vals1_in _ Bs A cap zs (ApJ w zs (W0.heap.size + 1) W0.heap.size rec) (by omega) ?reads ?round _ ?start).mono ?done
  case reads =>
    rintro k W ⟨v, _, _, hB, _, _⟩
    exact ⟨HA.out.then_ hB, cell_then hB Hb.out⟩
  case start =>
    refine ⟨_, (bO.alloc _).alloc _, World.ownsRow_nil _ _ _ _, (hB0.alloc (by omega) _).alloc (by simp; omega) _, ?_, ?_⟩
    · have := World.alloc_heap_new (W0.alloc (.deferred (some []))) (rec .ready none)
      rwa [World.size_alloc] at this
    · exact heap_alloc (World.alloc_heap_new W0 _) _
  case round =>
    rintro k W hlt ⟨v, hv, hrow, hB, hl, hD⟩
    obtain ⟨z, hz⟩ : ∃ z, zs.getD k 0 = z := ⟨_, rfl⟩
    rw [hz]
    have HZ := Lib.hid hz
    clear hz
    refine yield_round hrec trivial hl rfl ?_
    clear hrec
    gi_wp2
    refine ⟨hl, ?_⟩
    obtain ⟨Wb, hWb⟩ : ∃ Wb, W.putObj (W0.heap.size + 1) (rec .busy none) = Wb := ⟨_, rfl⟩
    have hvb : Boxed Wb w.heap.size 37 v := by rw [← hWb]; exact boxed_putObj hv (by omega) _
    have hrb : Wb.ownsRow w.heap.size 3 1 v k (ivs (zs.take k)) := by rw [← hWb]; exact ownsRow_putObj hrow _ hl (hcl _ _)
    have hBb : Below w.heap.size w Wb := by rw [← hWb]; exact below_putObj hB (by omega) _
    have hlb := heap_put hl (rec .busy none)
    have hDb := heap_putObj hD (show W0.heap.size ≠ W0.heap.size + 1 by omega) (rec .busy none)
    rw [hWb] at hlb hDb ⊢
    clear hWb hv hrow hB hl hD
    have hcb := hvb.cell
    have hsB := hBb.size
    gi_wp2_with (gi_at_builtin; refine wpListIn_append_own _ rfl _ _ 37 rfl w.heap.size 3 i0 (.int .i64 0) 1 8 Try.underlying37 hi hz0 hz1 hz2 rfl (by decide) _ _ _ rfl (hrb.alloc _) ⟨Wb.heap.size, 0, none⟩ 1 1 [.int .i64 z] rfl rfl (cell_one_new _ _ _) (by simp [Value.oneCell']) (by unfold maxLen; omega) (by omega) (by simp; omega) ?_; intro v' w1 hown1 hgr _; obtain ⟨g', cap', rfl⟩ := ownsRow_succ hown1; obtain ⟨hv1, hv2, hr2, hk2, hb2⟩ := hvb.appended (by decide) hrb hsB (Nat.le_refl _) hown1 hgr; clear hown1 hgr; have hc1 := hv1.cell; have hf1 := hv1.frozen)
    exact ap_close hcl hv2 (by rw [HZ.out]; exact hr2) hk2 (hBb.trans hb2) hlb hDb (by omega) hlt
  case done =>
    rintro e W' ⟨hv, v, hbox, hrow, hB, hl, hD⟩
    refine ⟨hv, .inl ⟨hl, ?_⟩⟩
    have hbox4 := boxed_putObj hbox (show w.heap.size ≠ W0.heap.size + 1 by omega) (rec .exhausted none)
    have hrow4 := ownsRow_putObj hrow (rec .exhausted none) hl (hcl _ _)
    have hB4 := below_putObj hB (show w.heap.size ≤ W0.heap.size + 1 by omega) (rec .exhausted none)
    have hD4 := heap_putObj hD (show W0.heap.size ≠ W0.heap.size + 1 by omega) (rec .exhausted none)
    obtain ⟨W4, hW4⟩ : ∃ W4, W'.putObj (W0.heap.size + 1) (rec .exhausted none) = W4 := ⟨_, rfl⟩
    rw [hW4] at hbox4 hrow4 hB4 hD4 ⊢
    clear hW4 hrec
    have hc4 := hbox4.cell
    go_wp2_with fail
    refine leaves_marked hD4 (results_tmp rfl _ _ _) ⟨_, rfl, ?_, below_putObj hB4 (by omega) _⟩
    rw [List.take_of_length_le (Nat.le_refl _)] at hrow4
    exact ownsRow_putObj hrow4 _ hD4 rfl
theorem collect_any (Bs : Nat) (A : Option Addr) (cap : Nat) (zs : List Int) (w : World) (hA : IntsAt w A zs) (hb : w.cell? ⟨Bs, 0, none⟩ = some (.slice A zs.length cap)) (hn : zs.length ≤ 17592186044416) :
    Calls Try.prog 45 #[.func (.func 47) #[] #[.pointer (some ⟨Bs, 0, none⟩)]] w (OwnQ zs w) := by
  have HA := Lib.hid hA
  have Hb := Lib.hid hb
  clear hA hb
  go_enter Try.func45, Try.ntmps45
  go_wp2_with (go_at_call 49; refine (append_seq Bs A cap zs _ HA.out Hb.out hn).mono ?_; rintro e w1 ⟨v, rfl, ho, hb⟩; have HO := Lib.hid ho; clear ho)
  go_ret
  exact ⟨_, rfl, HO.out, hb⟩
end Go.Proofs.Ytndfakbklfidhaa
