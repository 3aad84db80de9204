/- The library's slices.Backward at strings. -/
import Derived.Test.YtoipckflokdakaaDoorDigRoot
import Derived.Test.YtoipckflokdakaaDoorApp1
namespace Go.Proofs.YtoipckflokdakaaDoor
open Go.RowKit Sha Mk
attribute [local go_sem] Oper.semAt_some
theorem back_any (A : Option Addr) (n c : Nat) (w : World) : Calls Tryd.prog 44 #[.slice A n c] w fun e w' => e = .returned (.func (.func 60) #[] #[.pointer (some ⟨w.heap.size, 0, none⟩)]) ∧ w.alloc (.cells #[.slice A n c] 22) = w' := by
  go_enter Tryd.func44, Tryd.ntmps44
  go_wp2
  go_ret
  exact ⟨rfl, rfl⟩
set_option maxRecDepth 100000 in
set_option maxHeartbeats 1000000 in
theorem back_in (l Bs : Nat) (A : Option Addr) (cap : Nat) (zs : List ByteArray) (J : Nat → World → Prop) (hn : zs.length ≤ 1000000)
    (hJ : ∀ k W, J k W → StrsAt W A zs ∧ W.cell? ⟨Bs, 0, none⟩ = some (.slice A zs.length cap))
    (hY : ∀ k W, k < zs.length → J k W → YieldAt Fence.wide 0 Tryd.prog l #[.int .i64 ((zs.length : Int) - 1 - (k : Int)), .string (zs.getD (zs.length - 1 - k) ⟨#[]⟩)] W (fun e W' => e = .returned (.bool true) ∧ J (k + 1) W'))
    (W : World) (h0 : J 0 W) :
    CallsIn Fence.wide 0 Tryd.prog 60 #[.func (.yield l) #[] #[], .pointer (some ⟨Bs, 0, none⟩)] W fun e W' => (∃ v, e = .returned v) ∧ J zs.length W' := by
  have hb := (hJ 0 W h0).2
  refine callsIn_of_wp Tryd.func60 rfl trivial ?_ rfl
  simp only [Tryd.ntmps60, List.size_toArray, List.length_cons, List.length_nil, Nat.reduceAdd, Nat.reduceSub, Array.replicate_succ, Array.replicate_zero, List.push_toArray, List.append_toArray, List.nil_append, List.cons_append]
  gi_wp2
  gi_loopw [3] (fun i wr => ∃ k : Nat, k ≤ zs.length ∧ i = .int .i64 ((zs.length : Int) - 1 - (k : Int)) ∧ J k wr) (fun i _ => (intOf i + 1).toNat)
  case atStart => exact ⟨0, Nat.zero_le _, by simp, h0⟩
  case round =>
    obtain ⟨k, hk, rfl, hJk⟩ := hrel
    by_cases hlt : k < zs.length
    · obtain ⟨hst, hbx⟩ := hJ k wr hJk
      obtain ⟨b, o, rfl, hc⟩ := hst (zs.length - 1 - k) (by omega)
      obtain ⟨fn, tmps, assign, body, hy1, hR⟩ := hY k wr hlt hJk
      obtain ⟨z, hz⟩ : ∃ z, zs.getD (zs.length - 1 - k) ⟨#[]⟩ = z := ⟨_, rfl⟩
      rw [hz] at hc hy1
      clear hz hJ hY hst hb
      have i1 : (0 : Int) ≤ (zs.length : Int) - 1 - (k : Int) := by omega
      have i2 : (zs.length : Int) - 1 - (k : Int) < (zs.length : Int) := by omega
      have i3 : ((zs.length : Int) - 1 - (k : Int)).toNat = zs.length - 1 - k := by omega
      gi_wp2
      refine ⟨rfl, hR.mono ?_⟩
      rintro e W3 ⟨rfl, hJ3⟩
      gi_wp2
      refine ⟨⟨k + 1, by omega, ?_, hJ3⟩, by simp [intOf]; omega⟩
      congr 1
      omega
    · obtain rfl : k = zs.length := by omega
      have i1 : ¬ (0 : Int) ≤ (zs.length : Int) - 1 - (zs.length : Int) := by omega
      clear hJ hY
      gi_wp2
      go_end0
      exact ⟨⟨_, rfl⟩, hJk⟩
end Go.Proofs.YtoipckflokdakaaDoor
