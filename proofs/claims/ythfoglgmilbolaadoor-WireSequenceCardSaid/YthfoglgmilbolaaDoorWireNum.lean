/- What pick and NumberFrom of the laws and zigzag of the reference return, for every integer of the type. -/
import Derived.Test.YthfoglgmilbolaaDoorProg
import Derived.Test.YthfoglgmilbolaaDoorWirePlain
import Derived.WalkKit
import Derived.WalkSpells
import Derived.WalkLawsBesides
import Derived.Lib.Hide
namespace Go.Proofs.YthfoglgmilbolaaDoor
open Go.RowKit Wire
theorem ret_int {k : IntKind} {a b : Int} (h : a = b) : Ending.returned (.int k a) = .returned (.int k b) := by rw [h]
set_option maxHeartbeats 400000 in
theorem pick_any (c n : Int) (w : World) (h0 : -9223372036854775808 ≤ c) (h1 : c ≤ 9223372036854775807) (hn : 1 ≤ n) (hn' : n ≤ 9223372036854775807) :
    Calls Tryd.prog 14 #[.int .i64 c, .int .i64 n] w fun e w' => e = .returned (.int .i64 (pickI c n)) ∧ w = w' := by
  go_enter Tryd.func14, Tryd.ntmps14
  go_wp2
  · go_ret
    exact ⟨ret_int (by rw [← Int.neg_tmod, pickI, if_pos (by assumption), Int.tmod_eq_emod_of_nonneg (by omega)]), rfl⟩
  · go_ret
    exact ⟨ret_int (by rw [pickI, if_neg (by omega)]), rfl⟩

theorem tab_get : ∀ (k : Nat) (h : k < 8), ([Value.int IntKind.i64 64, Value.int IntKind.i64 128, Value.int IntKind.i64 8192, Value.int IntKind.i64 16384,
        Value.int IntKind.i64 1073741824, Value.int IntKind.i64 36028797018963968,
        Value.int IntKind.i64 576460752303423488, Value.int IntKind.i64 2][k]'h) = .int .i64 (numT k)
  | 0, _ => rfl
  | 1, _ => rfl
  | 2, _ => rfl
  | 3, _ => rfl
  | 4, _ => rfl
  | 5, _ => rfl
  | 6, _ => rfl
  | 7, _ => rfl
  | k + 8, h => by omega

set_option maxHeartbeats 400000 in
theorem num_any (c : Int) (w : World) (h0 : -9223372036854775808 ≤ c) (h1 : c ≤ 9223372036854775807) :
    Calls Tryd.prog 11 #[.int .i64 c] w fun e w' => e = .returned (.int .i64 (numI c)) ∧ Below w.heap.size w w' := by
  have p1 := pickI_lo c 4611686018427387904 (by omega)
  have p2 := pickI_hi c 4611686018427387904 (by omega)
  have p3 := pickI_lo c 8 (by omega)
  have p4 := pickI_hi c 8 (by omega)
  have p5 := numTab_bd (pickI c 8).toNat
  have p6 := pickI_lo (pickI c 4611686018427387904 / 8) (numT (pickI c 8).toNat) (by omega)
  have p7 := pickI_hi (pickI c 4611686018427387904 / 8) (numT (pickI c 8).toNat) (by omega)
  go_enter Tryd.func11, Tryd.ntmps11
  go_wp2_with fail
  refine (pick_any _ _ _ (by omega) (by omega) (by omega) (by omega)).mono ?_
  rintro e w1 ⟨rfl, rfl⟩
  go_wp2_with fail
  refine (pick_any _ _ _ (by omega) (by omega) (by omega) (by omega)).mono ?_
  rintro e w1 ⟨rfl, rfl⟩
  go_wp2_with fail
  simp only [tab_get]
  refine (pick_any _ _ _ (by omega) (by omega) (by omega) (by omega)).mono ?_
  rintro e w1 ⟨rfl, rfl⟩
  go_wp2_with fail
  refine (pick_any _ _ _ (by omega) (by omega) (by omega) (by omega)).mono ?_
  rintro e w1 ⟨rfl, rfl⟩
  go_wp2_with fail
  · go_ret
    exact ⟨ret_int (by rw [numI, if_pos (by assumption)]), (Below.refl _ _).alloc (Nat.le_refl _) _⟩
  · go_ret
    exact ⟨ret_int (by rw [numI, if_neg (by omega)]), (Below.refl _ _).alloc (Nat.le_refl _) _⟩

set_option maxHeartbeats 400000 in
theorem zz_any (n : Int) (w : World) (h0 : -4611686018427387903 ≤ n) (h1 : n ≤ 4611686018427387903) :
    Calls Tryd.prog 24 #[.int .i64 n] w fun e w' => e = .returned (.int .u64 (zz n : Nat)) ∧ w = w' := by
  go_enter Tryd.func24, Tryd.ntmps24
  go_wp2_with fail
  · go_ret
    exact ⟨ret_int (by rw [zz, if_pos (by assumption)]; omega), rfl⟩
  · go_ret
    exact ⟨ret_int (by rw [zz, if_neg (by omega)]; omega), rfl⟩
end Go.Proofs.YthfoglgmilbolaaDoor
