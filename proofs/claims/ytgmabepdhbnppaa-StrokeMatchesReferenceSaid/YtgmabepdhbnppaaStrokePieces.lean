/- Package stroke: pieces, the iterator over the ends of a stroke's pieces. -/
import Derived.Test.YtgmabepdhbnppaaStrokeCode
import Derived.Test.YtgmabepdhbnppaaRange
import Derived.Test.YtgmabepdhbnppaaHead
import Derived.RangeFuncBound
import Derived.Shelf.Abstract
import Derived.Shelf.RegionOpen
import Derived.OwnWalkIn
import Derived.TacticsInMore
import Derived.LoopNIn
import Derived.LoopIn
namespace Go.Proofs.Ytgmabepdhbnppaa
open Go.RowKit Str
attribute [local go_sem] Oper.semAt_some
theorem pieces_any (v0 v1 v2 : Value) (w : World) : Calls Try.prog 43 #[.agg #[v0, v1, v2]] w fun e w' => e = .returned (.func (.func 60) #[] #[.pointer (some ⟨w.heap.size, 0, none⟩)]) ∧ w.alloc (.cells #[v0, v1, v2] 27) = w' := by
  go_enter Try.func43, Try.ntmps43
  go_wp2
  go_ret
  exact ⟨rfl, rfl⟩
theorem cell_putObj {W : World} {a : Addr} {v : Value} {l : Nat} (h : W.cell? a = some v) (hne : a.block ≠ l) (o : Obj) : (W.putObj l o).cell? a = some v :=
  (World.cell?_of_block (World.putObj_heap_other hne)).trans h
/-- what a round of the iterator comes to -/
def PieceRound (J : Nat → World → Prop) (Fin : World → Prop) (i : Nat) (e : Ending) (W' : World) : Prop :=
  (e = .returned (.bool true) ∧ J (i + 1) W') ∨ (e = .returned (.bool false) ∧ Fin W')
/-- the cells of dots -/
def DotC (W : World) (b o : Nat) (D : List Dot) : Prop := ∀ i, i < D.length →
    W.cell? ⟨b, o + i * 4, none⟩ = some (.int .i64 (dotAt D i).x) ∧ W.cell? ⟨b, o + i * 4 + 1, none⟩ = some (.int .i64 (dotAt D i).y) ∧
    W.cell? ⟨b, o + i * 4 + 2, none⟩ = some (.int .i64 (dotAt D i).t) ∧ W.cell? ⟨b, o + i * 4 + 3, none⟩ = some (.int .i64 (dotAt D i).p)
set_option maxRecDepth 100000 in
set_option maxHeartbeats 4000000 in
theorem pieces1_in (l sb b o cap : Nat) (D : List Dot) (J : Nat → World → Prop) (Fin : World → Prop) (hn1 : 0 < D.length) (hn2 : (D.length : Int) ≤ 200)
    (hJ : ∀ i W, J i W → W.cell? ⟨sb, 2, none⟩ = some (.slice (some ⟨b, o, none⟩) D.length cap) ∧ DotC W b o D)
    (hS : ∀ i W W', J i W → Below W.heap.size W W' → J i W')
    (hY : ∀ i W, i < max (D.length - 1) 1 → J i W → YieldAt Fence.wide 0 Try.prog l #[pv (dotAt D i).x (dotAt D i).y, pv (dotAt D (nx D i)).x (dotAt D (nx D i)).y] W (PieceRound J Fin i))
    (W : World) (h0 : J 0 W) :
    CallsIn Fence.wide 0 Try.prog 60 #[.func (.yield l) #[] #[], .pointer (some ⟨sb, 0, none⟩)] W fun e W' => (∃ v, e = .returned v) ∧ (J (max (D.length - 1) 1) W' ∨ Fin W') := by
  have HJ := Lib.hid hJ
  have HS := Lib.hid hS
  have HY := Lib.hid hY
  have H0 := Lib.hid h0
  clear hJ hS hY h0
  obtain ⟨hst, hdc⟩ := HJ.out _ _ H0.out
  clear hdc
  obtain ⟨M, hM, hM1⟩ : ∃ M : Nat, (if (D.length : Int) - 1 < 1 then 1 else (D.length : Int) - 1) = (M : Int) ∧ M = max (D.length - 1) 1 := ⟨max (D.length - 1) 1, by split <;> omega, rfl⟩
  rw [← hM1]
  have hM2 : 1 ≤ M := by omega
  have hM3 : M ≤ D.length := by omega
  have HM := Lib.hid hM1
  clear hM1
  refine callsIn_of_wp Try.func60 rfl trivial ?_ rfl
  simp only [Try.ntmps60, List.size_toArray, List.length_cons, List.length_nil, Nat.reduceAdd, Nat.reduceSub, Array.replicate_succ, Array.replicate_zero, List.push_toArray, List.append_toArray, List.nil_append, List.cons_append]
  gi_wp2
  clear hM hst
  gi_loopw [9] (fun i wr => ∃ k : Nat, k ≤ M ∧ i = .int .i64 (k : Int) ∧ J k wr) (fun i _ => M - (intOf i).toNat)
  case atStart => exact ⟨0, by omega, rfl, H0.out⟩
  case round =>
    obtain ⟨k, hk, rfl, hJk⟩ := hrel
    have HK := Lib.hid hJk
    obtain ⟨hst, hdc⟩ := HJ.out _ _ hJk
    have HD := Lib.hid hdc
    clear hJk hdc
    by_cases hlt : k < M
    · obtain ⟨N, hN, hN1⟩ : ∃ N : Nat, (if (D.length : Int) - 1 < (k : Int) + 1 then (D.length : Int) - 1 else (k : Int) + 1) = (N : Int) ∧ N = nx D k := ⟨nx D k, by unfold nx; split <;> omega, rfl⟩
      have hN2 : N < D.length := by unfold nx at hN1; omega
      have hk2 : k < D.length := by omega
      obtain ⟨c0, c1, c2, c3⟩ := HD.out k hk2
      obtain ⟨d0, d1, d2, d3⟩ := HD.out N hN2
      have g0 := fun d os => cell_regrown hst d os
      have k0 := fun d os => cell_regrown c0 d os
      have k1 := fun d os => cell_regrown c1 d os
      have k2 := fun d os => cell_regrown c2 d os
      have k3 := fun d os => cell_regrown c3 d os
      have e0 := fun d os => cell_regrown d0 d os
      have e1 := fun d os => cell_regrown d1 d os
      have e2 := fun d os => cell_regrown d2 d os
      have e3 := fun d os => cell_regrown d3 d os
      have hkn : (k : Int) < (D.length : Int) := by omega
      have hNn : (N : Int) < (D.length : Int) := by omega
      have hk0 : (0 : Int) ≤ (k : Int) := by omega
      have hN0 : (0 : Int) ≤ (N : Int) := by omega
      have hw1 : IntKind.i64.wrap ((k : Int) + 1) = (k : Int) + 1 := IntWalk.i64_in _ (by omega)
      have hw2 : IntKind.i64.wrap ((D.length : Int) - 1) = (D.length : Int) - 1 := IntWalk.i64_in _ (by omega)
      have HN := Lib.hid hN1
      clear hN1 c0 c1 c2 c3 d0 d1 d2 d3
      gi_wp2
      refine wpIn_region_head 19 rfl (by kernel_rfl) (by kernel_rfl) ?_
      simp only [List.take_succ_cons, List.take_zero, List.drop_succ_cons, List.drop_zero]
      repeat (first | gi_big_quiet_step (fail) | (refine BigFrame.wpQuietIn_want (fun _ _ _ _ => trivial) (by rfl) (fun K hK => ?_); gi_big_quiet_op; apply Exists.intro; refine ⟨fun _ => ?_, ?_⟩; (focus (exact ⟨rfl, CallsIn.regrown_of (callsIn_wide.2 (at_any _ _))⟩)); refine hK _ ?_; clear hK K))
      refine wpQuietIn_nil ?_
      intro wq hq
      clear g0 k0 k1 k2 k3 e0 e1 e2 e3 hw1 hw2
      have hJq := HS.out k wr wq HK.out hq
      obtain ⟨fn, tmps, assign, body, hy1, hR⟩ := HY.out k wq (by rw [← HM.out]; exact hlt) hJq
      rw [← HN.out] at hy1
      clear hJq
      gi_wp2
      refine ⟨rfl, hR.mono ?_⟩
      rintro e W3 hpr
      rcases hpr with ⟨rfl, hJ3⟩ | ⟨rfl, hf3⟩
      · have HJ3 := Lib.hid hJ3
        clear hJ3
        gi_wp2
        exact ⟨⟨k + 1, by omega, by go_num, HJ3.out⟩, by simp [intOf]; omega⟩
      · have HF3 := Lib.hid hf3
        clear hf3
        gi_wp2
        refine bodyPost_ret (results_none rfl _ _ _) rfl ?_
        exact ⟨⟨_, rfl⟩, .inr HF3.out⟩
    · obtain rfl : k = M := by omega
      gi_wp2
      go_end0
      exact ⟨⟨_, rfl⟩, .inl HK.out⟩
end Go.Proofs.Ytgmabepdhbnppaa
