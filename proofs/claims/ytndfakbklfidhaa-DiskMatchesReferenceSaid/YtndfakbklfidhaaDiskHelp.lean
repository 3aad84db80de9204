/- The small functions of the laws of chapter 33: pick, cut, fits, put. -/
import Derived.Test.YtndfakbklfidhaaDiskCrash
namespace Go.Proofs.Ytndfakbklfidhaa
open Go.RowKit Dsk
def I64 (c : Int) : Prop := -9223372036854775808 ≤ c ∧ c ≤ 9223372036854775807
/-- an arbitrary integer as an index below n -/
def pk (c : Int) (n : Nat) : Nat := ((if c < 0 then -(c + 1) else c) % (n : Int)).toNat
theorem pk_lt (c : Int) {n : Nat} (h : 1 ≤ n) : pk c n < n := by
  unfold pk
  have h2 : (n : Int) ≠ 0 := by omega
  have h3 := Int.emod_lt_of_pos (if c < 0 then -(c + 1) else c) (show (0 : Int) < (n : Int) by omega)
  have h4 := Int.emod_nonneg (if c < 0 then -(c + 1) else c) h2
  omega
theorem pk_cast (c : Int) {n : Nat} (h : 1 ≤ n) : ((pk c n : Nat) : Int) = (if c < 0 then -(c + 1) else c) % (n : Int) := by
  unfold pk
  have h4 := Int.emod_nonneg (if c < 0 then -(c + 1) else c) (show (n : Int) ≠ 0 by omega)
  omega
theorem pick_any (c : Int) (n : Nat) (w : World) (hc : I64 c) (hn : 1 ≤ n) (hn2 : n ≤ 4294967296) : Calls Try.prog 15 #[.int .i64 c, .int .i64 (n : Int)] w fun e w' => e = .returned (.int .i64 ((pk c n : Nat) : Int)) ∧ w = w' := by
  obtain ⟨h1, h2⟩ := hc
  have hp := Lib.hid (pk_cast c hn)
  have hz : ((n : Int) == 0) = false := by rw [beq_eq_false_iff_ne]; omega
  by_cases h : c < 0
  · rw [if_pos h] at hp
    go_enter Try.func15, Try.ntmps15
    go_wp2_with fail
    go_ret
    exact ⟨ret_int (by rw [hp.out, ← Int.neg_tmod, Int.tmod_eq_emod_of_nonneg (by omega)]), rfl⟩
  · rw [if_neg h] at hp
    go_enter Try.func15, Try.ntmps15
    go_wp2_with fail
    go_ret
    exact ⟨ret_int (by rw [hp.out]), rfl⟩
/-- a string cut to n bytes -/
def cutS (s : ByteArray) (n : Nat) : ByteArray := s.extract 0 (min s.size n)
theorem cutS_size (s : ByteArray) (n : Nat) : (cutS s n).size = min s.size n := by rw [cutS, ByteArray.size_extract]; omega
theorem cut_any (s : ByteArray) (n : Nat) (w : World) (hs : (s.size : Int) ≤ 9223372036854775807) (hn : n ≤ 4294967296) : Calls Try.prog 22 #[.string s, .int .i64 (n : Int)] w fun e w' => e = .returned (.string (cutS s n)) ∧ w = w' := by
  have H : Hid (cutS s n = s.extract 0 (min (s.size : Int) (n : Int)).toNat) := by
    show _ = _
    rw [cutS]; congr 1; omega
  go_enter Try.func22, Try.ntmps22
  go_wp2_with fail
  go_ret
  exact ⟨by rw [H.out]; rfl, rfl⟩
theorem fits_any (o : Int) (s : ByteArray) (b : Bool) (n : Nat) (w : World) (ho : I64 o) (hs : (s.size : Int) ≤ 9223372036854775807) (h1 : 1 ≤ n) (hn : n ≤ 4194304) :
    Calls Try.prog 26 #[.agg #[.int .i64 o, .string s, .bool b], .int .i64 (n : Int)] w fun e w' => e = .returned (.agg #[.int .i64 ((pk o (n + 1) : Nat) : Int), .string (cutS s (n - pk o (n + 1))), .bool b]) ∧ Below w.heap.size w w' := by
  have hp := pk_lt o (n := n + 1) (by omega)
  obtain ⟨p, hpe⟩ : ∃ p, pk o (n + 1) = p := ⟨_, rfl⟩
  rw [hpe] at hp ⊢
  have HP := Lib.hid hpe
  clear hpe
  have hpi : (p : Int) ≤ (n : Int) := by omega
  have e1 : ((n + 1 : Nat) : Int) = (n : Int) + 1 := by omega
  have E1 := Lib.hid e1
  have E2 := Lib.hid (show ((n - p : Nat) : Int) = (n : Int) - (p : Int) by omega)
  clear e1
  go_enter Try.func26, Try.ntmps26
  go_wp2_with fail
  rw [← E1.out]
  refine (pick_any o (n + 1) _ ho (by omega) (by omega)).mono ?_
  rintro e w1 ⟨rfl, rfl⟩
  rw [HP.out]
  go_wp2_with fail
  rw [← E2.out]
  refine (cut_any s (n - p) _ hs (by omega)).mono ?_
  rintro e w1 ⟨rfl, rfl⟩
  go_wp2_with fail
  exact bodyPost_ret (v := .agg #[.int .i64 (p : Int), .string (cutS s (n - p)), .bool b]) (by simp [results, Try.results26, go_sem]) rfl ⟨rfl, below_alloc (below_alloc (Below.refl _ _) _) _⟩
theorem splice_zero {α : Type} (L : List α) (o : Nat) : splice L o [] = L := by simp [splice]
theorem splice_next {α : Type} [Inhabited α] (L c : List α) (o k : Nat) (hk : k < c.length) (h : o + c.length ≤ L.length) (d : α) : (splice L o (c.take k)).set (o + k) (c.getD k d) = splice L o (c.take (k + 1)) := by
  apply List.ext_getElem?
  intro i
  rw [List.getElem?_set]
  have hg : c[k]? = some (c.getD k d) := by rw [List.getD, List.getElem?_eq_getElem hk]; rfl
  simp only [splice, List.length_append, List.length_take, List.length_drop, List.getElem?_append, List.getElem?_take, List.getElem?_drop]
  have m1 : min o L.length = o := by omega
  have m2 : min k c.length = k := by omega
  have m3 : min (k + 1) c.length = k + 1 := by omega
  simp only [m1, m2, m3]
  by_cases h1 : o + k = i
  · subst h1
    rw [if_pos rfl, if_pos (by omega), if_neg (by omega), if_pos (by omega), if_pos (by omega)]
    rw [show o + k - o = k by omega, hg]
  · rw [if_neg h1]
    by_cases h2 : i < o
    · simp only [if_pos h2]
    · simp only [if_neg h2]
      by_cases h3 : i - o < k
      · simp only [if_pos h3, if_pos (show i - o < k + 1 by omega)]
      · simp only [if_neg h3, if_neg (show ¬ i - o < k + 1 by omega)]
        congr 1
        omega
/-- bytes stored one by one -/
theorem row_store {t : TypeId} {w : World} {g : Nat} {L : List UInt8} (h : RowB t w g L) {i : Nat} {b : UInt8} : RowB t (w.setCell ⟨g, i, none⟩ (.int .u8 (b.toNat : Int))) g (L.set i b) := by
  have := heap_setCell_same w g i _ t (.int .u8 (b.toNat : Int)) h
  unfold RowB
  rw [this]
  congr 2
  apply Array.toList_inj.1
  simp [bcs, List.map_set]
set_option maxRecDepth 100000 in
theorem put_any (g n o : Nat) (L : List UInt8) (s : ByteArray) (w : World) (h : RowB 5 w g L) (hl : L.length = n) (hf : o + s.size ≤ n) (hn : n ≤ 4194304) :
    Calls Try.prog 27 #[.slice (some ⟨g, 0, none⟩) n n, .int .i64 (o : Int), .string s] w fun e w' => e = .returned (.tuple #[]) ∧ RowB 5 w' g (splice L o (bts s)) ∧ Kept [g] w w' := by
  have HL := Lib.hid hl
  have HH := Lib.hid h
  clear hl h
  go_enter Try.func27, Try.ntmps27
  go_wp2_with fail
  go_loopw [6] (fun i wr => ∃ k : Nat, k ≤ s.size ∧ i = .int .i64 (k : Int) ∧ RowB 5 wr g (splice L o ((bts s).take k)) ∧ Kept [g] w wr) (fun i _ => s.size - (intOf i).toNat)
  case atStart => exact ⟨0, by omega, rfl, by rw [List.take_zero, splice_zero]; exact HH.out, Kept.refl _ _⟩
  case round =>
    obtain ⟨k, hk, rfl, hr, hK⟩ := hrel
    have HR := Lib.hid hr
    by_cases hlt : k < s.size
    · have hll : (splice L o ((bts s).take k)).length = n := by
        rw [length_splice _ _ _ (by rw [List.length_take, bts_length, HL.out]; omega), HL.out]
      have c0 := hr.cell (i := o + k) (by rw [hll]; omega)
      have f0 := frozen_of_row wr g (o + k) _ _ hr
      have lg := lt_size c0
      have i1 : (o : Int) + (k : Int) < (n : Int) := by omega
      obtain ⟨v, hv⟩ : ∃ v, wr.cell? ⟨g, o + k, none⟩ = some v := ⟨_, c0⟩
      clear c0 hr hll
      go_wp2_with fail
      refine ⟨⟨k + 1, by omega, by go_num, ?_, hK.setCell (.inl (by simp)) _⟩, by simp [intOf]; omega⟩
      have h := row_store HR.out (i := o + k) (b := s[k])
      have e : (bts s).getD k 0 = s[k] := by
        rw [List.getD, List.getElem?_eq_getElem (by rw [bts_length]; exact hlt)]; rfl
      rw [← e, splice_next _ _ _ _ (by rw [bts_length]; exact hlt) (by rw [bts_length, HL.out]; exact hf), e] at h
      exact h
    · obtain rfl : k = s.size := by omega
      clear hr
      go_wp2_with fail
      go_end0
      have h := HR.out
      rw [List.take_of_length_le (by rw [bts_length]; exact Nat.le_refl _)] at h
      exact ⟨rfl, h, hK⟩
end Go.Proofs.Ytndfakbklfidhaa
