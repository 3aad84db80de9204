/- Root: what it returns; left. -/
import Derived.Test.YtoipckflokdakaaDoorDigLeaf
import Derived.Test.YtoipckflokdakaaDoorMerk
namespace Go.Proofs.YtoipckflokdakaaDoor
open Go.RowKit Sha Mk
attribute [local go_sem] Oper.semAt_some
theorem bitLenAux_log : ∀ (f x : Nat), x < 2 ^ f → x ≠ 0 → Lib.bitLenAux f x = x.log2 + 1
  | 0, x, h, h0 => by
    have : x < 1 := h
    omega
  | f + 1, x, h, h0 => by
    rw [Lib.bitLenAux, if_neg h0]
    by_cases h1 : x / 2 = 0
    · have : x = 1 := by omega
      subst this
      have : Lib.bitLenAux f 0 = 0 := by cases f <;> simp [Lib.bitLenAux]
      rw [h1, this]; rfl
    · rw [bitLenAux_log f (x / 2) (by rw [Nat.pow_succ] at h; omega) h1, Nat.log2_def x, if_pos (by omega)]
      omega
theorem bitLen_log {x : Nat} (h : x < 2 ^ 64) (h0 : x ≠ 0) : Lib.bitLen x = x.log2 + 1 := bitLenAux_log 64 x h h0
theorem left_any (n : Nat) (w : World) (h1 : 2 ≤ n) (h2 : n ≤ 9223372036854775807) : Calls Tryd.prog 40 #[.int .i64 (n : Int)] w fun e w' => e = .returned (.int .i64 ((lft n : Nat) : Int)) ∧ w = w' := by
  have hl := bitLen_log (x := n - 1) (by omega) (by omega)
  have hlog : (n - 1).log2 ≤ 62 := by
    have := (Nat.log2_lt (n := n - 1) (k := 63) (by omega)).2 (by omega)
    omega
  have hd : Hid (lft n = 2 ^ (n - 1).log2) := rfl
  have hj := fun w => Tryd.bits_Len ((n - 1 : Nat) : Int) w (by omega) (by omega)
  have e : (((n - 1 : Nat) : Int)).toNat = n - 1 := by omega
  rw [e, hl] at hj
  clear e hl
  obtain ⟨L, hL⟩ : ∃ L, (n - 1).log2 = L := ⟨_, rfl⟩
  rw [hL] at hlog hd
  simp only [hL] at hj
  have HJ := Lib.hid hj
  have i1 : (n : Int) ≤ 9223372036854775807 := by omega
  have e1 : (n : Int) - 1 = ((n - 1 : Nat) : Int) := by omega
  clear hL hj
  go_enter Tryd.func40, Tryd.ntmps40
  go_wp2_with (go_at_call 59; refine (HJ.out _).mono ?_; rintro e w1 ⟨rfl, rfl⟩)
  go_ret
  have hp : 2 ^ L ≤ 2 ^ 62 := Nat.pow_le_pow_right (by decide) hlog
  have hc : ((2 : Int) ^ L) = ((2 ^ L : Nat) : Int) := by rw [Int.natCast_pow]; rfl
  have hdo := hd.out
  obtain ⟨q, hq⟩ : ∃ q, 2 ^ L = q := ⟨_, rfl⟩
  rw [hq] at hp hc hdo
  exact ⟨ret_int (by rw [hdo, hc, IntWalk.wrap64_in _ (by omega)]), rfl⟩
end Go.Proofs.YtoipckflokdakaaDoor
