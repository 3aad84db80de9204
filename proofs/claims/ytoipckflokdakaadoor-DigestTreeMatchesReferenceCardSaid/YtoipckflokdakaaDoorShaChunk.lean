/- The library's slices.Chunk at bytes, 64 a piece. -/
import Derived.Test.YtoipckflokdakaaDoorShaOut
import Derived.Test.YtoipckflokdakaaDoorBytsApp
import Derived.Test.YtoipckflokdakaaDoorRange
import Derived.WalkSpells
import Derived.RangeFuncBound
import Derived.Shelf.Abstract
import Derived.Shelf.RegionOpen
import Derived.OwnWalkIn
import Derived.TacticsInMore
import Derived.LoopNIn
import Derived.LoopIn
import Derived.Sort.QuietIn
namespace Go.Proofs.YtoipckflokdakaaDoor
open Go.RowKit Sha
attribute [local go_sem] Oper.semAt_some
theorem chunk_any (A : Option Addr) (n c : Nat) (w : World) : Calls Tryd.prog 54 #[.slice A n c, .int .i64 64] w fun e w' => e = .returned (.func (.func 66) #[] #[.pointer (some ⟨w.heap.size, 0, none⟩), .pointer (some ⟨w.heap.size + 1, 0, none⟩)]) ∧ (w.alloc (.cells #[.slice A n c] 46)).alloc (.cells #[.int .i64 64] 3) = w' := by
  go_enter Tryd.func54, Tryd.ntmps54
  go_wp2
  go_ret
  exact ⟨rfl, rfl⟩
set_option maxRecDepth 100000 in
set_option maxHeartbeats 1000000 in
theorem chunk_in (l Bs Bn g cap nb : Nat) (J : Nat → World → Prop) (hcap : 64 * nb ≤ cap) (hmax : cap ≤ maxLen)
    (hJ : ∀ k W, J k W → W.cell? ⟨Bs, 0, none⟩ = some (.slice (some ⟨g, 0, none⟩) (64 * nb) cap) ∧ W.cell? ⟨Bn, 0, none⟩ = some (.int .i64 64)) (hD : ∀ k W n, J k W → J k (W.drewN n))
    (hY : ∀ k W, k < nb → J k W → YieldAt Fence.wide 0 Tryd.prog l #[.slice (some ⟨g, 64 * k, none⟩) 64 64] W (fun e W' => e = .returned (.bool true) ∧ J (k + 1) W'))
    (W : World) (h0 : J 0 W) :
    CallsIn Fence.wide 0 Tryd.prog 66 #[.func (.yield l) #[] #[], .pointer (some ⟨Bs, 0, none⟩), .pointer (some ⟨Bn, 0, none⟩)] W fun e W' => (∃ v, e = .returned v) ∧ J nb W' := by
  unfold maxLen at hmax
  have HJ := Lib.hid hJ
  have HY := Lib.hid hY
  have HD := Lib.hid hD
  clear hD
  refine callsIn_of_wp Tryd.func66 rfl trivial ?_ rfl
  simp only [Tryd.ntmps66, List.size_toArray, List.length_cons, List.length_nil, Nat.reduceAdd, Nat.reduceSub, Array.replicate_succ, Array.replicate_zero, List.push_toArray, List.append_toArray, List.nil_append, List.cons_append]
  gi_wp2
  gi_loopw [4] (fun i wr => ∃ k : Nat, k ≤ nb ∧ i = .int .i64 (64 * (k : Int)) ∧ J k wr) (fun i _ => 64 * nb - (intOf i).toNat)
  case atStart => exact ⟨0, Nat.zero_le _, rfl, h0⟩
  case round =>
    obtain ⟨k, hk, rfl, hJk⟩ := hrel
    obtain ⟨c0, c1⟩ := hJ k wr hJk
    by_cases hlt : k < nb
    · have i0 : (0 : Int) ≤ 64 * (k : Int) := by omega
      have i1 : 64 * (k : Int) < 64 * (nb : Int) := by omega
      have i2 : 64 * (k : Int) ≤ 64 * (nb : Int) := by omega
      have i3 : 64 * (k : Int) + 64 ≤ 64 * (nb : Int) := by omega
      have i4 : 64 * (k : Int) + 64 ≤ (cap : Int) := by omega
      clear hJ hY
      have HJk := Lib.hid hJk
      have i5 : 64 * (k : Int) < (cap : Int) := by omega
      have i6 : 64 * k < cap := by omega
      gi_wp2
      gi_quiet (fail)
      obtain ⟨W2, hW2⟩ : ∃ W2, wr.drewN nq = W2 := ⟨_, rfl⟩
      have hJ2 := HD.out k wr nq HJk.out
      rw [hW2] at hJ2
      obtain ⟨d0, d1⟩ := HJ.out k W2 hJ2
      obtain ⟨fn, tmps, assign, body, hy1, hR⟩ := HY.out k W2 hlt hJ2
      rw [hW2]
      clear hW2 c0 c1 hJk hJ2
      gi_wp2
      refine ⟨rfl, hR.mono ?_⟩
      rintro e W3 ⟨rfl, hJ3⟩
      obtain ⟨e0, e1⟩ := HJ.out (k + 1) W3 hJ3
      clear hy1 hR d0 d1
      gi_wp2
      exact ⟨⟨k + 1, by omega, by go_num, hJ3⟩, by simp [intOf]; omega⟩
    · obtain rfl : k = nb := by omega
      clear hJ hY
      gi_wp2
      go_end0
      exact ⟨⟨_, rfl⟩, hJk⟩
end Go.Proofs.YtoipckflokdakaaDoor
