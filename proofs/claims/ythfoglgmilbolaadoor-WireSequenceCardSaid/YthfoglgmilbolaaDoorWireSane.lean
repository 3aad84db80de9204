/- The laws function sane returns true; condition: the table of the program lies in memory. -/
import Derived.Test.YthfoglgmilbolaaDoorWireCrc
namespace Go.Proofs.YthfoglgmilbolaaDoor
open Go.RowKit Wire
theorem enc_127 : putI (-64) = [127] := by rw [putI, if_neg (by omega), show zz (-64) = 127 by decide, enc_small (by omega)]; rfl
theorem enc_128 : putI 64 = [128, 1] := by rw [putI, if_neg (by omega), show zz 64 = 128 by decide, enc_big (by omega), enc_small (by omega)]; rfl
theorem enc_max : putI 4611686018427387904 = [] := by rw [putI, if_pos (by omega)]
theorem putE_max : putE 4611686018427387904 = 10 := by rw [putE, if_pos (by omega)]
theorem enc_ab : putsI [97, 98] = [4, 97, 98] := by
  rw [putsI, if_neg (by decide), show zz (([97, 98] : List UInt8).length : Int) = 4 by decide, enc_small (by omega)]; rfl
theorem dec_1 : dec [172, 2, 98] = some (150, 2) := by decide
theorem dec_2 : dec [128, 0] = none := by decide
theorem dec_3 : dec [4, 97, 98, 99] = some (2, 1) := by decide
theorem dec_4 : dec [4, 97] = some (2, 1) := by decide
theorem crc_9 : crc [49, 50, 51, 52, 53, 54, 55, 56, 57] = 3808858755 := by decide +kernel

set_option maxRecDepth 100000 in
set_option maxHeartbeats 4000000 in
theorem sane_any (w : World) (hN : Nib w) :
    Calls Tryd.prog 10 #[] w fun e w' => e = .returned (.bool true) ∧ Below w.heap.size w w' := by
  have HN := Lib.hid hN
  clear hN
  go_enter Tryd.func10, Tryd.ntmps10
  go_wp2_with fail
  refine (put_any _ _).mono ?_
  rintro e w1 ⟨rfl, b1⟩
  rw [enc_127, show putE (-64) = 0 from if_neg (by omega)]
  unfold bs
  go_wp2_with fail
  refine (put_any _ _).mono ?_
  rintro e w2 ⟨rfl, b2⟩
  rw [enc_128, show putE 64 = 0 from if_neg (by omega)]
  unfold bs
  go_wp2_with fail
  refine (int_in ⟨#[97, 172, 2, 98]⟩ 1 _ (by decide) (by decide)).mono ?_
  rintro e w3 ⟨rfl, rfl⟩
  rw [show dec (List.drop 1 (ByteArray.mk #[97, 172, 2, 98]).data.toList) = some (150, 2) from dec_1]
  unfold intTup
  go_wp2_with fail
  refine (int_in ⟨#[128, 0]⟩ 0 _ (by decide) (by decide)).mono ?_
  rintro e w3 ⟨rfl, rfl⟩
  rw [show dec (List.drop 0 (ByteArray.mk #[128, 0]).data.toList) = none from dec_2]
  unfold intTup
  go_wp2_with fail
  refine (puts_any ⟨#[97, 98]⟩ _ (by decide)).mono ?_
  rintro e w3 ⟨rfl, b3⟩
  rw [show putsI (ByteArray.mk #[97, 98]).data.toList = [4, 97, 98] from enc_ab, show putsE (ByteArray.mk #[97, 98]).data.toList = 0 from rfl]
  unfold bs
  go_wp2_with fail
  refine (str_in ⟨#[4, 97, 98, 99]⟩ 0 _ (by decide) (by decide)).mono ?_
  rintro e w4 ⟨rfl, rfl⟩
  rw [show strTup (ByteArray.mk #[4, 97, 98, 99]).data.toList 0 = .tuple #[.string ⟨#[97, 98]⟩, .int .i64 3, .int .i64 0] from by
    unfold strTup; rw [show dec (List.drop 0 (ByteArray.mk #[4, 97, 98, 99]).data.toList) = some (2, 1) from dec_3]; rfl]
  go_wp2_with fail
  refine (str_in ⟨#[4, 97]⟩ 0 _ (by decide) (by decide)).mono ?_
  rintro e w4 ⟨rfl, rfl⟩
  rw [show strTup (ByteArray.mk #[4, 97]).data.toList 0 = .tuple #[.string ⟨#[]⟩, .int .i64 0, .int .i64 10] from by
    unfold strTup; rw [show dec (List.drop 0 (ByteArray.mk #[4, 97]).data.toList) = some (2, 1) from dec_4]; rfl]
  go_wp2_with fail
  refine (put_any _ _).mono ?_
  rintro e w4 ⟨rfl, b4⟩
  rw [enc_max, putE_max]
  unfold bs
  go_wp2_with fail
  refine (int_out ⟨#[]⟩ 1 _ (by decide) (by decide)).mono ?_
  rintro e w5 ⟨rfl, rfl⟩
  go_wp2_with fail
  have B2 := b1.trans (b2.mono b1.size)
  have B3 := B2.trans (b3.mono B2.size)
  have B4 := B3.trans (b4.mono B3.size)
  refine (sum_any ⟨#[49, 50, 51, 52, 53, 54, 55, 56, 57]⟩ _ (by decide) (HN.out.below B4 (Nat.le_refl _))).mono ?_
  rintro e w5 ⟨rfl, rfl⟩
  rw [show crc (ByteArray.mk #[49, 50, 51, 52, 53, 54, 55, 56, 57]).data.toList = 3808858755 from crc_9]
  go_wp2_with fail
  go_ret
  exact ⟨rfl, B4⟩
end Go.Proofs.YthfoglgmilbolaaDoor
