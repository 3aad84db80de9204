/- The laws function binary of chapter 02. -/
import Derived.Test.YtoipckflokdakaaDoorLw02Sane
import Derived.Test.YtoipckflokdakaaDoorLw02Plain
namespace Go.Proofs.YtoipckflokdakaaDoor
open Go.RowKit Sha Mk
attribute [local go_sem] Oper.semAt_some
def binN (n : Nat) : Nat := if n = 0 then 0 else (n.log2 + 1)
theorem binN_pow (n : Nat) : n ≤ 2 ^ binN n := by
  rw [binN]
  split
  · omega
  · have := (Nat.log2_eq_iff (n := n) (k := n.log2) (by omega)).1 rfl
    omega
theorem binN_half (n : Nat) (h : 1 ≤ n) : binN n = binN (n / 2) + 1 := by
  rw [binN, if_neg (by omega), binN]
  by_cases h2 : n / 2 = 0
  · obtain rfl : n = 1 := by omega
    rfl
  · rw [if_neg h2]
    have e := (Nat.log2_eq_iff (n := n / 2) (k := (n / 2).log2) h2).1 rfl
    have : n.log2 = (n / 2).log2 + 1 := (Nat.log2_eq_iff (by omega)).2 ⟨by rw [Nat.pow_succ]; omega, by rw [Nat.pow_succ]; omega⟩
    omega
theorem binN_le (n : Nat) (h : n < 1024) : binN n ≤ 10 := by
  rw [binN]
  split
  · omega
  · have := Nat.log2_lt (n := n) (k := 10) (by omega) |>.2 h
    omega
set_option maxRecDepth 100000 in
set_option maxHeartbeats 4000000 in
theorem binary_any (n : Nat) (w : World) (hn : n < 1024) : Calls Tryd.prog 25 #[.int .i64 (n : Int)] w fun e w' => e = .returned (.int .i64 (binN n : Int)) ∧ w = w' := by
  have hb := binN_le n hn
  obtain ⟨N, hN⟩ : ∃ N, binN n = N := ⟨_, rfl⟩
  have HN := Lib.hid hN
  rw [hN] at hb ⊢
  clear hN
  go_enter Tryd.func25, Tryd.ntmps25
  go_wp2_with fail
  go_loopw [0, 3] (fun a k' wr => ∃ m k : Nat, a = .int .i64 (m : Int) ∧ k' = .int .i64 (k : Int) ∧ m < 1024 ∧ k + binN m = N ∧ w = wr) (fun a _ _ => (intOf a).toNat)
  case atStart => exact ⟨n, 0, rfl, rfl, hn, by rw [Nat.zero_add]; exact HN.out, rfl⟩
  case round =>
    obtain ⟨m, k, rfl, rfl, hm, hk, rfl⟩ := hrel
    have HK := Lib.hid hk
    have hkN : k ≤ 10 := by omega
    clear hk
    by_cases h0 : m = 0
    · subst h0
      have hkk : k = N := by have := HK.out; rw [show binN 0 = 0 from rfl] at this; omega
      subst hkk
      go_wp2_with fail
      go_ret
      exact ⟨rfl, rfl⟩
    · have g1 : (0 : Int) < (m : Int) := by omega
      obtain ⟨q, hq⟩ : ∃ q, m / 2 = q := ⟨_, rfl⟩
      have e1 : IntKind.i64.wrap ((m : Int) / 2) = (q : Int) := by rw [IntWalk.i64_in _ (by omega)]; omega
      have e2 : (m : Int) / 2 = (q : Int) := by omega
      have g2 : 0 < m := by omega
      have hb2 := binN_half m (by omega)
      rw [hq] at hb2
      have HB2 := Lib.hid hb2
      have hlt : q < m := by omega
      clear hb2 h0
      go_wp2_with fail
      refine ⟨⟨q, k + 1, by rfl, by rfl, by omega, by have := HK.out; have := HB2.out; omega, by trivial⟩, by simp [intOf]; omega⟩
end Go.Proofs.YtoipckflokdakaaDoor
