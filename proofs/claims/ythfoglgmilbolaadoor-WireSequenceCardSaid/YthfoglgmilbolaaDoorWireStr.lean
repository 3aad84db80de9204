/- What String and PutString return, of the program and of the reference; strings of at most 2 to the 62nd bytes. -/
import Derived.Test.YthfoglgmilbolaaDoorWireRInt
namespace Go.Proofs.YthfoglgmilbolaaDoor
open Go.RowKit Wire
theorem bs_ext (s : ByteArray) (a b : Nat) : Value.string (s.extract a b) = bs ((s.data.toList.drop a).take (b - a)) := by
  unfold bs
  congr 1
  apply ByteArray.ext
  rw [ByteArray.data_extract]
  apply Array.toList_inj.1
  simp [Array.toList_extract, List.extract]
/-- what String returns -/
def strTup (l : List UInt8) (at0 : Nat) : Value :=
  match dec (l.drop at0) with
  | none => .tuple #[bs [], .int .i64 0, .int .i64 10]
  | some (n, k) => if n < 0 ∨ 65536 < n ∨ (l.length : Int) - ((at0 : Int) + (k : Int)) < n then .tuple #[bs [], .int .i64 0, .int .i64 10]
    else .tuple #[bs ((l.drop (at0 + k)).take n.toNat), .int .i64 ((at0 : Int) + (k : Int) + n), .int .i64 0]
theorem str_fail (s : ByteArray) (at0 : Nat) (h : dec (s.data.toList.drop at0) = none) : strTup s.data.toList at0 = .tuple #[.string ⟨#[]⟩, .int .i64 0, .int .i64 10] := by
  rw [strTup, h]; rfl
theorem str_bad (s : ByteArray) (at0 k : Nat) (n : Int) (h : dec (s.data.toList.drop at0) = some (n, k)) (hb : n < 0 ∨ 65536 < n ∨ (s.size : Int) - ((at0 : Int) + (k : Int)) < n) :
    strTup s.data.toList at0 = .tuple #[.string ⟨#[]⟩, .int .i64 0, .int .i64 10] := by
  rw [strTup, h]; simp only []
  rw [if_pos (by simpa using hb)]; rfl
theorem str_good (s : ByteArray) (at0 k n : Nat) (h : dec (s.data.toList.drop at0) = some ((n : Int), k)) (hb : ¬ ((n : Int) < 0 ∨ 65536 < (n : Int) ∨ (s.size : Int) - ((at0 : Int) + (k : Int)) < (n : Int))) :
    strTup s.data.toList at0 = .tuple #[.string (s.extract (at0 + k) (at0 + k + n)), .int .i64 ((at0 : Int) + (k : Int) + (n : Int)), .int .i64 0] := by
  rw [strTup, h]; simp only []
  rw [if_neg (by simpa using hb), bs_ext]
  simp
set_option maxRecDepth 100000 in
set_option maxHeartbeats 2000000 in
theorem str_in (s : ByteArray) (at0 : Nat) (w : World) (hs : (s.size : Int) ≤ 4611686018427387904) (h : at0 ≤ s.size) :
    Calls Tryd.prog 17 #[.string s, .int .i64 (at0 : Int)] w fun e w' => e = .returned (strTup s.data.toList at0) ∧ w = w' := by
  go_enter Tryd.func17, Tryd.ntmps17
  go_wp2_with fail
  refine (int_in s at0 _ hs h).mono ?_
  rintro e w1 ⟨rfl, rfl⟩
  cases hd : dec (s.data.toList.drop at0) with
  | none =>
    have HD := Lib.hid hd
    clear hd
    unfold intTup
    go_wp2_with fail
    refine bodyPost_ret (results_tmp3 rfl _ _ _) rfl ?_
    exact ⟨congrArg Ending.returned (str_fail s at0 HD.out).symm, rfl⟩
  | some p =>
    obtain ⟨n, k⟩ := p
    have hdi := (dec_iff _ _ _).1 hd
    have HD := Lib.hid hd
    clear hd
    have hsz : s.data.toList.length = s.size := by simp
    have hk : at0 + k ≤ s.size := by have h1 := hdi.1; rw [List.length_drop] at h1; omega
    have hn1 := hdi.2.1
    have hn2 := hdi.2.2.1
    clear hdi hsz
    by_cases hb : n < 0 ∨ 65536 < n ∨ (s.size : Int) - ((at0 : Int) + (k : Int)) < n
    · have HB := Lib.hid hb
      clear hb
      unfold intTup
      go_wp2_with fail
      all_goals first
        | (exfalso; rcases HB.out with h | h | h <;> omega)
        | (refine bodyPost_ret (results_tmp3 rfl _ _ _) rfl ?_; exact ⟨congrArg Ending.returned (str_bad s at0 k n HD.out HB.out).symm, rfl⟩)
    · obtain ⟨m, rfl⟩ := Int.eq_ofNat_of_zero_le (show 0 ≤ n by omega)
      have HB := Lib.hid hb
      have hb1 : ¬ (65536 : Int) < (m : Int) := by omega
      have hb2 : ¬ (s.size : Int) - ((at0 : Int) + (k : Int)) < (m : Int) := by omega
      clear hb hn1 hn2
      unfold intTup
      go_wp2_with fail
      refine bodyPost_ret (results_tmp3 rfl _ _ _) rfl ?_
      exact ⟨congrArg Ending.returned (str_good s at0 k m HD.out HB.out).symm, rfl⟩
set_option maxRecDepth 100000 in
set_option maxHeartbeats 2000000 in
theorem rstr_in (s : ByteArray) (at0 : Nat) (w : World) (hs : (s.size : Int) ≤ 4611686018427387904) (h : at0 ≤ s.size) :
    Calls Tryd.prog 18 #[.string s, .int .i64 (at0 : Int)] w fun e w' => e = .returned (strTup s.data.toList at0) ∧ Below w.heap.size w w' := by
  go_enter Tryd.func18, Tryd.ntmps18
  go_wp2_with fail
  refine (rint_in s at0 _ hs h).mono ?_
  rintro e w1 ⟨rfl, hB1⟩
  cases hd : dec (s.data.toList.drop at0) with
  | none =>
    have HD := Lib.hid hd
    clear hd
    unfold intTup
    go_wp2_with fail
    refine bodyPost_ret (results_tmp3 rfl _ _ _) rfl ?_
    exact ⟨congrArg Ending.returned (str_fail s at0 HD.out).symm, hB1⟩
  | some p =>
    obtain ⟨n, k⟩ := p
    have hdi := (dec_iff _ _ _).1 hd
    have HD := Lib.hid hd
    clear hd
    have hsz : s.data.toList.length = s.size := by simp
    have hk : at0 + k ≤ s.size := by have h1 := hdi.1; rw [List.length_drop] at h1; omega
    have hn1 := hdi.2.1
    have hn2 := hdi.2.2.1
    clear hdi hsz
    by_cases hb : n < 0 ∨ 65536 < n ∨ (s.size : Int) - ((at0 : Int) + (k : Int)) < n
    · have HB := Lib.hid hb
      clear hb
      unfold intTup
      go_wp2_with fail
      all_goals first
        | (exfalso; rcases HB.out with h | h | h <;> omega)
        | (refine bodyPost_ret (results_tmp3 rfl _ _ _) rfl ?_; exact ⟨congrArg Ending.returned (str_bad s at0 k n HD.out HB.out).symm, hB1⟩)
    · obtain ⟨m, rfl⟩ := Int.eq_ofNat_of_zero_le (show 0 ≤ n by omega)
      have HB := Lib.hid hb
      have hb1 : ¬ (65536 : Int) < (m : Int) := by omega
      have hb2 : ¬ (s.size : Int) - ((at0 : Int) + (k : Int)) < (m : Int) := by omega
      clear hb hn1 hn2
      unfold intTup
      go_wp2_with fail
      refine bodyPost_ret (results_tmp3 rfl _ _ _) rfl ?_
      exact ⟨congrArg Ending.returned (str_good s at0 k m HD.out HB.out).symm, hB1⟩
set_option maxRecDepth 100000 in
set_option maxHeartbeats 2000000 in
theorem str_out (s : ByteArray) (at0 : Int) (w : World) (hs : (s.size : Int) ≤ 4611686018427387904) (h : at0 < 0 ∨ (s.size : Int) < at0) :
    Calls Tryd.prog 17 #[.string s, .int .i64 at0] w fun e w' => e = .returned (.tuple #[bs [], .int .i64 0, .int .i64 2]) ∧ w = w' := by
  go_enter Tryd.func17, Tryd.ntmps17
  go_wp2_with fail
  refine (int_out s at0 _ hs h).mono ?_
  rintro e w1 ⟨rfl, rfl⟩
  go_wp2_with fail
  refine bodyPost_ret (results_tmp3 rfl _ _ _) rfl ?_
  exact ⟨rfl, rfl⟩
set_option maxRecDepth 100000 in
set_option maxHeartbeats 2000000 in
theorem rstr_out (s : ByteArray) (at0 : Int) (w : World) (hs : (s.size : Int) ≤ 4611686018427387904) (h : at0 < 0 ∨ (s.size : Int) < at0) :
    Calls Tryd.prog 18 #[.string s, .int .i64 at0] w fun e w' => e = .returned (.tuple #[bs [], .int .i64 0, .int .i64 2]) ∧ Below w.heap.size w w' := by
  go_enter Tryd.func18, Tryd.ntmps18
  go_wp2_with fail
  refine (rint_out s at0 _ hs h).mono ?_
  rintro e w1 ⟨rfl, hB1⟩
  go_wp2_with fail
  refine bodyPost_ret (results_tmp3 rfl _ _ _) rfl ?_
  exact ⟨rfl, hB1⟩

/-- what PutString returns -/
def putsI (l : List UInt8) : List UInt8 := if 65536 < l.length then [] else enc (zz (l.length : Int)) ++ l
def putsE (l : List UInt8) : Int := if 65536 < l.length then 10 else 0
theorem bs_append (a : List UInt8) (s : ByteArray) : Value.string (⟨a.toArray⟩ ++ s) = bs (a ++ s.data.toList) := by
  unfold bs
  congr 1
set_option maxRecDepth 100000 in
set_option maxHeartbeats 2000000 in
theorem puts_any (s : ByteArray) (w : World) (hs : (s.size : Int) ≤ 4611686018427387904) :
    Calls Tryd.prog 19 #[.string s] w fun e w' => e = .returned (.tuple #[bs (putsI s.data.toList), .int .i64 (putsE s.data.toList)]) ∧ Below w.heap.size w w' := by
  have hsz : s.data.toList.length = s.size := by simp
  by_cases hb : 65536 < s.size
  · have he1 : putsI s.data.toList = [] := by rw [putsI, if_pos (by omega)]
    have he2 : putsE s.data.toList = 10 := by rw [putsE, if_pos (by omega)]
    rw [he1, he2]
    clear he1 he2 hsz
    go_enter Tryd.func19, Tryd.ntmps19
    go_wp2_with fail
    go_ret2
    exact ⟨rfl, Below.refl _ _⟩
  · have he1 : putsI s.data.toList = enc (zz (s.size : Int)) ++ s.data.toList := by rw [putsI, if_neg (by omega), hsz]
    have he2 : putsE s.data.toList = 0 := by rw [putsE, if_neg (by omega)]
    rw [he1, he2]
    clear he1 he2 hsz
    have hl9 := enc_len9 (zz_lt (n := (s.size : Int)) (by omega) (by omega))
    go_enter Tryd.func19, Tryd.ntmps19
    go_wp2_with fail
    refine (put_any _ _).mono ?_
    rintro e w1 ⟨rfl, hB1⟩
    rw [show putI (s.size : Int) = enc (zz (s.size : Int)) from if_neg (by omega)]
    unfold bs
    go_wp2_with fail
    go_ret2
    exact ⟨congrArg (fun x => Ending.returned (.tuple #[x, .int .i64 0])) (bs_append _ _), hB1⟩
set_option maxRecDepth 100000 in
set_option maxHeartbeats 2000000 in
theorem rputs_any (s : ByteArray) (w : World) (hs : (s.size : Int) ≤ 4611686018427387904) :
    Calls Tryd.prog 20 #[.string s] w fun e w' => e = .returned (.tuple #[bs (putsI s.data.toList), .int .i64 (putsE s.data.toList)]) ∧ Below w.heap.size w w' := by
  have hsz : s.data.toList.length = s.size := by simp
  by_cases hb : 65536 < s.size
  · have he1 : putsI s.data.toList = [] := by rw [putsI, if_pos (by omega)]
    have he2 : putsE s.data.toList = 10 := by rw [putsE, if_pos (by omega)]
    rw [he1, he2]
    clear he1 he2 hsz
    go_enter Tryd.func20, Tryd.ntmps20
    go_wp2_with fail
    go_ret2
    exact ⟨rfl, Below.refl _ _⟩
  · have he1 : putsI s.data.toList = enc (zz (s.size : Int)) ++ s.data.toList := by rw [putsI, if_neg (by omega), hsz]
    have he2 : putsE s.data.toList = 0 := by rw [putsE, if_neg (by omega)]
    rw [he1, he2]
    clear he1 he2 hsz
    have hl9 := enc_len9 (zz_lt (n := (s.size : Int)) (by omega) (by omega))
    go_enter Tryd.func20, Tryd.ntmps20
    go_wp2_with fail
    refine (rput_any _ _).mono ?_
    rintro e w1 ⟨rfl, hB1⟩
    rw [show putI (s.size : Int) = enc (zz (s.size : Int)) from if_neg (by omega)]
    unfold bs
    go_wp2_with fail
    go_ret2
    exact ⟨congrArg (fun x => Ending.returned (.tuple #[x, .int .i64 0])) (bs_append _ _), hB1⟩
end Go.Proofs.YthfoglgmilbolaaDoor
