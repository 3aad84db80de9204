/- The laws DiskNil and DiskNewMatches. -/
import Derived.Test.YtndfakbklfidhaaDiskSane
namespace Go.Proofs.Ytndfakbklfidhaa
open Go.RowKit Dsk
set_option maxRecDepth 100000 in
theorem nil_law (o n : Int) (s : ByteArray) (A : Option Addr) (m c : Nat) (w : World) (hs : (s.size : Int) ≤ 9223372036854775807) (hm : m ≤ c) (_hc : (c : Int) ≤ 9223372036854775807) :
    Calls Try.prog 5 #[.int .i64 o, .int .i64 n, .string s, .slice A m c] w fun e w' => e = .returned (.bool true) ∧ Below w.heap.size w w' := by
  have hm2 : (m : Int) ≤ (c : Int) := by omega
  have hmin0 : (0 : Int) ≤ min (m : Int) 100 := by omega
  have hmin1 : min (m : Int) 100 ≤ (c : Int) := by omega
  go_enter Try.func5, Try.ntmps5
  go_wp2_with fail
  refine (sane_any _).mono ?_
  rintro e w1 ⟨rfl, hB⟩
  go_wp2_with fail
  refine (read_nil _ _ _).mono ?_
  rintro e w2 ⟨rfl, rfl⟩
  go_wp2_with fail
  refine (cut_any s 100 _ hs (by omega)).mono ?_
  rintro e w2 ⟨rfl, rfl⟩
  go_wp2_with fail
  refine (write_nil _ _ _).mono ?_
  rintro e w2 ⟨rfl, rfl⟩
  go_wp2_with fail
  refine (sync_nil _).mono ?_
  rintro e w2 ⟨rfl, rfl⟩
  go_wp2_with fail
  refine (cut_nil _ _).mono ?_
  rintro e w2 ⟨rfl, rfl⟩
  go_wp2_with fail
  refine (crash_nil _ _ _ _ _).mono ?_
  rintro e w3 ⟨rfl, hC⟩
  go_wp2_with fail
  refine (pending_nil _).mono ?_
  rintro e w4 ⟨rfl, rfl⟩
  go_wp2_with fail
  refine (size_nil _).mono ?_
  rintro e w4 ⟨rfl, rfl⟩
  go_wp2_with fail
  go_ret
  exact ⟨rfl, below_next hB hC⟩
theorem new_read (n k : Nat) (h : k < n) : sof (((nw n).vis.drop k).take 1) = ⟨#[0]⟩ := by
  have : ((nw n).vis.drop k).take 1 = [0] := by
    rw [nw]
    simp only [List.drop_replicate, List.take_replicate]
    rw [show min 1 (n - k) = 1 by omega]; rfl
  rw [this]; rfl
set_option maxRecDepth 100000 in
theorem newm_law (size at' : Int) (w : World) (ha : I64 at') : Calls Try.prog 3 #[.int .i64 size, .int .i64 at'] w fun e w' => e = .returned (.bool true) ∧ Below w.heap.size w w' := by
  by_cases h1 : 1 ≤ size ∧ size ≤ 4194304
  · obtain ⟨n, rfl⟩ := Int.eq_ofNat_of_zero_le (show 0 ≤ size by omega)
    obtain ⟨h1, h2⟩ := h1
    have i1 : ¬ (n : Int) < 1 := by omega
    have i2 : ¬ (4194304 : Int) < (n : Int) := by omega
    have hk := pk_lt at' (n := n) (by omega)
    obtain ⟨k, hke⟩ : ∃ k, pk at' n = k := ⟨_, rfl⟩
    rw [hke] at hk
    have HK := Lib.hid hke
    clear hke
    go_enter Try.func3, Try.ntmps3
    go_wp2_with fail
    refine (sane_any _).mono ?_
    rintro e w1 ⟨rfl, hB⟩
    go_wp2_with fail
    refine (new_any n _ (by omega) (by omega)).mono ?_
    rintro e w2 ⟨g, F, rfl, h0, hF, hb⟩
    have H0 := Lib.hid h0
    have hB2 := below_next hB hb
    clear h0 hb hF
    go_wp2_with fail
    refine (pick_any at' n _ ha (by omega) (by omega)).mono ?_
    rintro e w3 ⟨rfl, rfl⟩
    rw [HK.out]
    go_wp2_with fail
    refine (read_in k 1 g F (nw n) _ H0.out rfl (by rw [show (nw n).sure.length = n by simp [nw]]; omega)).mono ?_
    rintro e w3 ⟨rfl, rfl⟩
    rw [new_read n k hk]
    go_wp2_with fail
    refine (size_any g F (nw n) _ H0.out).mono ?_
    rintro e w3 ⟨rfl, rfl⟩
    rw [show ((nw n).sure.length : Int) = (n : Int) by simp [nw]]
    go_wp2_with fail
    refine (pending_any g F (nw n) _ H0.out).mono ?_
    rintro e w3 ⟨rfl, rfl⟩
    rw [show ((nw n).pend.length : Int) = 0 by simp [nw]]
    go_wp2_with fail
    go_ret
    exact ⟨rfl, hB2⟩
  · have h2 : size < 1 ∨ 4194304 < size := by omega
    rcases h2 with h2 | h2
    · clear h1
      go_enter Try.func3, Try.ntmps3
      go_wp2_with fail
      refine (sane_any _).mono ?_
      rintro e w1 ⟨rfl, hB⟩
      go_wp2_with fail
      refine (new_no size _ (.inl h2)).mono ?_
      rintro e w2 ⟨rfl, rfl⟩
      go_wp2_with fail
      go_ret
      exact ⟨rfl, hB⟩
    · have h3 : ¬ size < 1 := by omega
      clear h1
      go_enter Try.func3, Try.ntmps3
      go_wp2_with fail
      refine (sane_any _).mono ?_
      rintro e w1 ⟨rfl, hB⟩
      go_wp2_with fail
      refine (new_no size _ (.inr h2)).mono ?_
      rintro e w2 ⟨rfl, rfl⟩
      go_wp2_with fail
      go_ret
      exact ⟨rfl, hB⟩
end Go.Proofs.Ytndfakbklfidhaa
