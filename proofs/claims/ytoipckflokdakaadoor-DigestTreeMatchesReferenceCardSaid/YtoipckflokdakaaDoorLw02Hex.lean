/- The laws function hex of chapter 02. -/
import Derived.Test.YtoipckflokdakaaDoorLw02Few
namespace Go.Proofs.YtoipckflokdakaaDoor
open Go.RowKit Sha Mk
attribute [local go_sem] Oper.semAt_some
def hexC : ByteArray := ⟨#[48, 49, 50, 51, 52, 53, 54, 55, 56, 57, 97, 98, 99, 100, 101, 102]⟩
def hexL : List UInt8 → List UInt8
  | [] => []
  | b :: t => hexC.data.toList.getD (b.toNat / 16) 0 :: hexC.data.toList.getD (b.toNat % 16) 0 :: hexL t
theorem hexL_append (a b : List UInt8) : hexL (a ++ b) = hexL a ++ hexL b := by
  induction a with
  | nil => rfl
  | cons x t ih => simp [hexL, ih]
def hexS (l : List UInt8) : ByteArray := ⟨(hexL l).toArray⟩
theorem hexC_one (a : Nat) (h : a < 16) : hexC.extract a (a + 1) = ⟨#[hexC.data.toList.getD a 0]⟩ := by
  revert a
  decide
theorem hexS_succ (l : List UInt8) (k : Nat) (h : k < l.length) : hexS (l.take (k + 1)) = hexS (l.take k) ++ hexC.extract ((l.getD k 0).toNat / 16) ((l.getD k 0).toNat / 16 + 1) ++ hexC.extract ((l.getD k 0).toNat % 16) ((l.getD k 0).toNat % 16 + 1) := by
  have hb := (l.getD k 0).toNat_lt
  rw [hexC_one _ (by omega), hexC_one _ (by omega), List.take_succ_eq_append_getElem h, hexS, hexL_append, hexS]
  have : l.getD k 0 = l[k] := by rw [List.getD, List.getElem?_eq_getElem h]; rfl
  rw [this]
  apply ByteArray.ext
  simp [hexL]
theorem hexL_length (l : List UInt8) : (hexL l).length = 2 * l.length := by
  induction l with
  | nil => rfl
  | cons x t ih => rw [hexL, List.length_cons, List.length_cons, ih, List.length_cons]; omega
theorem hexS_size (l : List UInt8) : (hexS l).size = 2 * l.length := by rw [← hexL_length]; simp [hexS, ByteArray.size]
set_option maxRecDepth 100000 in
set_option maxHeartbeats 4000000 in
theorem hex_any (s : ByteArray) (w : World) (hs : s.size ≤ 1000) : Calls Tryd.prog 39 #[.string s] w fun e w' => e = .returned (.string (hexS s.data.toList)) ∧ Below w.heap.size w w' := by
  obtain ⟨l, hl⟩ : ∃ l, s.data.toList = l := ⟨_, rfl⟩
  have hsl : s.size = l.length := by rw [← hl]; simp
  have HL := Lib.hid hl
  go_enter Tryd.func39, Tryd.ntmps39
  go_wp2_with fail
  go_loopw [3, 4] (fun v i wr => ∃ k : Nat, i = .int .i64 (k : Int) ∧ k ≤ l.length ∧ v = .string (hexS (l.take k)) ∧ Below w.heap.size w wr) (fun _ i _ => l.length - (intOf i).toNat)
  case atStart => exact ⟨0, rfl, Nat.zero_le _, rfl, Below.refl _ _⟩
  case round =>
    obtain ⟨k, rfl, hk, rfl, hB0⟩ := hrel
    by_cases h1 : k < l.length
    · have g1 : (k : Int) < (s.size : Int) := by omega
      have g2 : (0 : Int) ≤ (k : Int) := by omega
      have hsu := hexS_succ l k h1
      obtain ⟨b, hb⟩ : ∃ b, l.getD k 0 = b := ⟨_, rfl⟩
      have hd : s.data[k]? = some b := by rw [← Array.getElem?_toList, hl, ← hb, List.getD, List.getElem?_eq_getElem h1]; rfl
      have hbl := b.toNat_lt
      rw [hb] at hsu
      obtain ⟨F, hF⟩ : ∃ F, hexS (l.take k) = F := ⟨_, rfl⟩
      have hFs : F.size ≤ 2000 := by rw [← hF, hexS_size, List.length_take]; omega
      rw [hF] at hsu ⊢
      have hsk : s[k]'(by omega) = b := by
        have h5 : s.data[k]? = some (s[k]'(by omega)) := Array.getElem?_eq_getElem _
        rw [h5] at hd
        injection hd
      obtain ⟨B, hB⟩ : ∃ B, b.toNat = B := ⟨_, rfl⟩
      rw [hB] at hsu hbl
      obtain ⟨q, hq⟩ : ∃ q, B / 16 = q := ⟨_, rfl⟩
      obtain ⟨q1, hq1⟩ : ∃ q1, q + 1 = q1 := ⟨_, rfl⟩
      obtain ⟨r, hr⟩ : ∃ r, B % 16 = r := ⟨_, rfl⟩
      obtain ⟨r1, hr1⟩ : ∃ r1, r + 1 = r1 := ⟨_, rfl⟩
      rw [hq, hr, hq1, hr1] at hsu
      have e1 : IntKind.u8.wrap ((B : Int) / 16) = (q : Int) := by rw [IntWalk.u8_in _ (by omega)]; omega
      have e2 : IntKind.u8.wrap ((q : Int) + 1) = (q1 : Int) := by rw [IntWalk.u8_in _ (by omega)]; omega
      have e3 : (B : Int).tmod 16 = (r : Int) := by rw [Int.tmod_eq_emod_of_nonneg (by omega)]; omega
      have e4 : IntKind.u8.wrap ((r : Int) + 1) = (r1 : Int) := by rw [IntWalk.u8_in _ (by omega)]; omega
      have f1 : (q1 : Int) ≤ 16 := by omega
      have f2 : q ≤ q1 := by omega
      have f3 : (r1 : Int) ≤ 16 := by omega
      have f4 : r ≤ r1 := by omega
      have HSU := Lib.hid hsu
      have x1 : (hexC.extract q q1).size ≤ 16 := by have : hexC.size = 16 := rfl; rw [ByteArray.size_extract]; omega
      have x2 : (hexC.extract r r1).size ≤ 16 := by have : hexC.size = 16 := rfl; rw [ByteArray.size_extract]; omega
      have x3 : (F ++ hexC.extract q q1).size = F.size + (hexC.extract q q1).size := ByteArray.size_append
      have c1 : ∀ w, (Op.stringOp .add F ((⟨#[48, 49, 50, 51, 52, 53, 54, 55, 56, 57, 97, 98, 99, 100, 101, 102]⟩ : ByteArray).extract q q1)).run Tryd.prog w = .ok (.string (F ++ (⟨#[48, 49, 50, 51, 52, 53, 54, 55, 56, 57, 97, 98, 99, 100, 101, 102]⟩ : ByteArray).extract q q1)) w := fun w => run_string_add_sum w F (hexC.extract q q1) (by omega)
      have c2 : ∀ w, (Op.stringOp .add (F ++ (⟨#[48, 49, 50, 51, 52, 53, 54, 55, 56, 57, 97, 98, 99, 100, 101, 102]⟩ : ByteArray).extract q q1) ((⟨#[48, 49, 50, 51, 52, 53, 54, 55, 56, 57, 97, 98, 99, 100, 101, 102]⟩ : ByteArray).extract r r1)).run Tryd.prog w = .ok (.string (F ++ (⟨#[48, 49, 50, 51, 52, 53, 54, 55, 56, 57, 97, 98, 99, 100, 101, 102]⟩ : ByteArray).extract q q1 ++ (⟨#[48, 49, 50, 51, 52, 53, 54, 55, 56, 57, 97, 98, 99, 100, 101, 102]⟩ : ByteArray).extract r r1)) w := fun w => run_string_add_sum w (F ++ hexC.extract q q1) (hexC.extract r r1) (by omega)
      clear hsu hb hF hq hq1 hr hr1 hd
      go_wp2_with fail
      go_region_law fail
      all_goals
        simp only [Act.put, List.setIfInBounds_toArray, List.set_cons_zero, List.set_cons_succ, List.getElem_toArray, List.getElem_cons_zero, List.getElem_cons_succ]
        clear c1 c2
        go_wp2_with fail
        refine ⟨⟨k + 1, by rfl, by omega, ?_, below_drewN (n := 1) hB0⟩, by simp [intOf]; omega⟩
        rw [HSU.out]; rfl
    · have g1 : ¬ (k : Int) < (s.size : Int) := by omega
      obtain rfl : k = l.length := by omega
      rw [List.take_length]
      obtain ⟨F, hF⟩ : ∃ F, hexS l = F := ⟨_, rfl⟩
      rw [hF]
      have HF := Lib.hid hF
      go_wp2_with fail
      go_ret
      exact ⟨rfl, hB0⟩
end Go.Proofs.YtoipckflokdakaaDoor
