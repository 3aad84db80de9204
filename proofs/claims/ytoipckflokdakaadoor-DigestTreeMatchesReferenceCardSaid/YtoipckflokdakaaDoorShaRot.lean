/- A word rotated; rotations of a word combined. -/
import Derived.Test.YtoipckflokdakaaDoorProg
import Derived.Test.YtoipckflokdakaaDoorShaPlain
import Derived.Test.YtoipckflokdakaaDoorArr
import Derived.IntWalk
import Derived.Deep.QuietTactic
import Derived.BigQuiet
import Derived.Laws.BitsAllLaws
namespace Go.Proofs.YtoipckflokdakaaDoor
open Go.RowKit Sha
theorem rot_nat (x n m : Nat) (hx : x < 4294967296) (h1 : 1 ≤ n) (h2 : n ≤ 31) (hm : 32 - n = m) : bits .or .u32 ((x : Int) * 2 ^ m % 4294967296) ((x : Int) / 2 ^ (32 - m)) = ((rotr n x : Nat) : Int) := by
  have e1 : (x : Int) * 2 ^ m % 4294967296 = ((x * 2 ^ m % 4294967296 : Nat) : Int) := by
    rw [Int.natCast_emod, Int.natCast_mul, Int.natCast_pow]; rfl
  have e2 : (x : Int) / 2 ^ (32 - m) = ((x / 2 ^ (32 - m) : Nat) : Int) := by
    rw [Int.natCast_ediv, Int.natCast_pow]; rfl
  rw [e1, e2, u32_or_nat _ _ (by omega) (Nat.lt_of_le_of_lt (Nat.div_le_self _ _) hx), Nat.or_comm, rotr, Nat.shiftRight_eq_div_pow, Nat.shiftLeft_eq, hm, show 32 - m = n by omega]
theorem rot_any (x n : Nat) (w : World) (hx : x < 4294967296) (h1 : 1 ≤ n) (h2 : n ≤ 31) : Calls Tryd.prog 77 #[.int .u32 (x : Int), .int .i64 (-(n : Int))] w fun e w' => e = .returned (.int .u32 ((rotr n x : Nat) : Int)) ∧ w = w' := by
  have hb : bits .and .u64 (IntKind.u64.wrap (-(n : Int))) 31 = ((32 - n : Nat) : Int) := by
    have : IntKind.u64.wrap (-(n : Int)) = ((18446744073709551616 - n : Nat) : Int) := by simp [IntKind.wrap, IntKind.signed, IntKind.bits]; omega
    rw [this, show (31 : Int) = ((31 : Nat) : Int) from rfl, u64_and_nat _ _ (by omega) (by omega), show (31 : Nat) = 2 ^ 5 - 1 from rfl, Nat.and_two_pow_sub_one_eq_mod]
    omega
  obtain ⟨m, hm⟩ : ∃ m, 32 - n = m := ⟨_, rfl⟩
  have HR := Lib.hid (rot_nat x n m hx h1 h2 hm)
  rw [hm] at hb
  have m1 : 1 ≤ m := by omega
  have m2 : m ≤ 31 := by omega
  have m3 : (m : Int) < 64 := by omega
  have m4 : (0 : Int) ≤ (m : Int) := by omega
  clear hm
  go_enter Tryd.func77, Tryd.ntmps77
  go_wp2_with fail
  go_ret
  exact ⟨ret_int HR.out, rfl⟩
theorem rrot_any (x n : Nat) (w : World) (hx : x < 4294967296) (h1 : 1 ≤ n) (h2 : n ≤ 31) : Calls Tryd.prog 69 #[.int .u32 (x : Int), .int .i64 (n : Int)] w fun e w' => e = .returned (.int .u32 ((rotr n x : Nat) : Int)) ∧ ∃ n, w' = w.drewN n := by
  have HR : Hid (bits .or .u32 ((x : Int) / 2 ^ n) ((x : Int) * 2 ^ (32 - n) % 4294967296) = ((rotr n x : Nat) : Int)) := by
    have e1 : (x : Int) * 2 ^ (32 - n) % 4294967296 = ((x * 2 ^ (32 - n) % 4294967296 : Nat) : Int) := by
      rw [Int.natCast_emod, Int.natCast_mul, Int.natCast_pow]; rfl
    have e2 : (x : Int) / 2 ^ n = ((x / 2 ^ n : Nat) : Int) := by
      rw [Int.natCast_ediv, Int.natCast_pow]; rfl
    show _ = _
    rw [e1, e2, u32_or_nat _ _ (Nat.lt_of_le_of_lt (Nat.div_le_self _ _) hx) (by omega), rotr, Nat.shiftRight_eq_div_pow, Nat.shiftLeft_eq]
  have m1 : (n : Int) ≤ 31 := by omega
  have m2 : 1 ≤ (n : Int) := by omega
  go_enter Tryd.func69, Tryd.ntmps69
  go_wp2_with fail
  go_quiet (fail)
  go_wp2_with fail
  go_ret
  exact ⟨ret_int (by first | exact HR.out | (rw [show (32 - (n : Int)).toNat = 32 - n by omega]; exact HR.out)), nq, rfl⟩
theorem mix_snoc (x : Nat) : ∀ (l : List Nat) (n r : Nat), mix x (l ++ [n]) r = mix x l r ^^^ rotr n x
  | [], _, _ => rfl
  | _ :: t, n, _ => mix_snoc x t n _
theorem mixed_any (x : Nat) (A : Option Addr) (c : Nat) (ns : List Nat) (w : World) (hx : x < 4294967296) (hn : ∀ n ∈ ns, 1 ≤ n ∧ n ≤ 31) (hA : IntsAt w A (natI ns)) (hl : ns.length ≤ 16) :
    Calls Tryd.prog 68 #[.int .u32 (x : Int), .slice A ns.length c] w fun e w' => e = .returned (.int .u32 ((mix x ns 0 : Nat) : Int)) ∧ w = w' := by
  have HA := Lib.hid hA
  have HN := Lib.hid hn
  clear hA hn
  go_enter Tryd.func68, Tryd.ntmps68
  go_wp2_with fail
  go_loop [5, 10] (fun o i => ∃ (k R : Nat), k ≤ ns.length ∧ i = .int .i64 (k : Int) ∧ o = .int .u32 (R : Int) ∧ R < 4294967296 ∧ Hid (mix x (ns.take k) 0 = R)) (fun _ i => ns.length - (intOf i).toNat)
  case atStart => exact ⟨0, 0, by omega, rfl, rfl, by omega, rfl⟩
  case round =>
    obtain ⟨k, R, hk, rfl, rfl, hR, HM⟩ := hrel
    by_cases hlt : k < ns.length
    · obtain ⟨b, o, rfl, hc⟩ := HA.out k (by rw [natI_length]; exact hlt)
      obtain ⟨n, hn⟩ : ∃ n, ns[k] = n := ⟨_, rfl⟩
      have e : (natI ns).getD k 0 = (n : Int) := by
        rw [← hn, natI, List.getD, List.getElem?_map, List.getElem?_eq_getElem hlt]; rfl
      rw [e] at hc
      obtain ⟨n1, n2⟩ := HN.out n (by rw [← hn]; exact List.getElem_mem hlt)
      have hx1 : R ^^^ rotr n x < 4294967296 := Nat.xor_lt_two_pow (n := 32) hR (rotr_lt n x hx)
      have e1 : bits BinOp.xor IntKind.u32 (R : Int) ((rotr n x : Nat) : Int) = ((R ^^^ rotr n x : Nat) : Int) := u32_xor_nat _ _ (by omega) (rotr_lt n x hx)
      have HT : Hid (mix x (ns.take (k + 1)) 0 = R ^^^ rotr n x) := by
        show _ = _
        rw [List.take_succ_eq_append_getElem hlt, mix_snoc, HM.out, hn]
      clear hn e
      obtain ⟨R1, hR1⟩ : ∃ R1, R ^^^ rotr n x = R1 := ⟨_, rfl⟩
      rw [hR1] at hx1 e1 HT
      clear hR1
      have n3 : (n : Int) ≤ 31 := by omega
      go_wp2_with (go_at_call 77; refine (rot_any x n _ hx n1 n2).mono ?_; rintro e w1 ⟨rfl, rfl⟩)
      go_round
      case rel => exact ⟨k + 1, R1, by omega, by go_num, rfl, hx1, HT⟩
      case measure => simp [intOf]; omega
    · obtain rfl : k = ns.length := by omega
      have h := HM.out
      rw [List.take_length] at h
      have H := Lib.hid h
      clear h HM
      go_wp2_with fail
      go_ret
      exact ⟨ret_int (by rw [H.out]), rfl⟩
end Go.Proofs.YtoipckflokdakaaDoor
