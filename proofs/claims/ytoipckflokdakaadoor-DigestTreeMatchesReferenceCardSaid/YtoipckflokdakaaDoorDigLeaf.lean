/- Leaf, Node, Chain: what they return. -/
import Derived.Test.YtoipckflokdakaaDoorShaSum
import Derived.Test.YtoipckflokdakaaDoorShelf02
namespace Go.Proofs.YtoipckflokdakaaDoor
open Go.RowKit Sha
/-- a digest of a mark and strings behind it -/
def markS (b : UInt8) (l : List ByteArray) : ByteArray := sumS ⟨(b :: (l.map (·.data.toList)).flatten).toArray⟩
def leafS (s : ByteArray) : ByteArray := markS 0 [s]
def nodeS (a b : ByteArray) : ByteArray := markS 1 [a, b]
def chainS (a b : ByteArray) : ByteArray := markS 2 [a, b]
theorem join_flat (l : List (List UInt8)) : Lib.join l [] = l.flatten := by
  induction l with
  | nil => rfl
  | cons a t ih =>
    cases t with
    | nil => simp [Lib.join]
    | cons b t =>
      simp [Lib.join] at ih ⊢
      exact ih
theorem mark_add (b : UInt8) (l : List ByteArray) : (⟨#[b]⟩ : ByteArray) ++ ⟨((l.map (·.data.toList)).flatten).toArray⟩ = ⟨(b :: (l.map (·.data.toList)).flatten).toArray⟩ := by
  apply ByteArray.ext
  simp [ByteArray.data_append]
theorem size_mk (l : List UInt8) : (ByteArray.mk l.toArray).size = l.length := by simp [ByteArray.size]
theorem Tryd_join (g c : Nat) (l : List ByteArray) (w : World) (hc : ∀ (j : Nat) x, l[j]? = some x → w.cell? ⟨g, 0 + j, none⟩ = some (.string x)) (hg : g < w.heap.size) (hlen : l.length ≤ 100) (h2 : l.length ≤ c) (hl : (l.map (·.data.toList)).flatten.length ≤ 900000) :
    Calls Tryd.prog 65 #[.slice (some ⟨g, 0, none⟩) l.length c, .string ⟨#[]⟩] w.drew fun e w' => e = .returned (.string ⟨((l.map (·.data.toList)).flatten).toArray⟩) ∧ Below w.drew.heap.size w.drew w' := by
  have h := Tryd.strings_Join g 0 c l ⟨#[]⟩ w.drew hc hg (by omega) h2 (by rw [join_flat]; omega)
  rw [join_flat] at h
  exact h
theorem ret_str {a b : ByteArray} (h : a = b) : Ending.returned (.string a) = .returned (.string b) := by rw [h]
theorem marked_in (b : UInt8) (B g c : Nat) (l : List ByteArray) (w : World) (hB : w.cell? ⟨B, 0, none⟩ = some (.string ⟨#[b]⟩)) (hc : ∀ (j : Nat) x, l[j]? = some x → w.cell? ⟨g, 0 + j, none⟩ = some (.string x)) (hg : g < w.heap.size) (_h1 : 1 ≤ l.length) (h2 : l.length ≤ c)
    (hl : (l.map (·.data.toList)).flatten.length ≤ 900000) (hlen : l.length ≤ 100) (hK : RoundIn w) :
    Calls Tryd.prog 64 #[.slice (some ⟨g, 0, none⟩) l.length c, .pointer (some ⟨B, 0, none⟩)] w fun e w' => e = .returned (.string (markS b l)) ∧ Below w.heap.size w w' := by
  have hj := Tryd_join g c l w hc hg hlen h2 hl
  have HK := Lib.hid hK
  have HM := Lib.hid (mark_add b l)
  have hsz : ((⟨#[b]⟩ : ByteArray) ++ ⟨((l.map (·.data.toList)).flatten).toArray⟩).size ≤ 1000000 := by
    rw [mark_add, size_mk, List.length_cons]; omega
  have HE : Hid (markS b l = sumS ((⟨#[b]⟩ : ByteArray) ++ ⟨((l.map (·.data.toList)).flatten).toArray⟩)) := by
    show _ = _
    rw [mark_add]; rfl
  obtain ⟨J, hJ⟩ : ∃ J, (⟨((l.map (·.data.toList)).flatten).toArray⟩ : ByteArray) = J := ⟨_, rfl⟩
  rw [hJ] at hj hsz HE
  have HJ := Lib.hid hj
  have HSZ := Lib.hid hsz
  have hl1 : 0 ≤ (J.size : Int) := by omega
  have hl3 : J.size ≤ 900000 := by rw [← hJ, size_mk]; omega
  have hl4 : ∀ w, (Op.stringOp .add (⟨#[b]⟩ : ByteArray) J).run Tryd.prog w = .ok (.string ((⟨#[b]⟩ : ByteArray) ++ J)) w := fun w => run_string_add_sum w _ _ (by have : (⟨#[b]⟩ : ByteArray).size = 1 := rfl; omega)
  have hl2 : (J.size : Int) ≤ 900000 := by
    rw [← hJ, size_mk]; omega
  clear hj hK hsz hJ HM hc
  go_enter Tryd.func64, Tryd.ntmps64
  go_wp2_with fail
  go_region_held3 (fun w' => w'.cell? ⟨B, 0, none⟩ = some (.string ⟨#[b]⟩) ∧ RoundIn w') ((first | exact ⟨hB, HK.out⟩ | exact ⟨q1, q2⟩ | exact ⟨q3, q4⟩)) (first | (go_at_call 65; (with_reducible refine HJ.out.mono ?_); rintro e w4 ⟨rfl, b4⟩; have q1 := cell_then b4 hB; have q2 := RoundIn.then_ (w := w.drew) HK.out b4) | (go_at_call 30; (with_reducible refine (sum_any _ _ HSZ.out q2).mono ?_); rintro e w5 ⟨rfl, b5⟩; have q3 := cell_then b5 q1; have q4 := RoundIn.then_ q2 b5))
  go_wp2_with fail
  go_ret
  exact ⟨ret_str HE.out.symm, below_next (below_next (B := w.heap.size) ((Below.refl w.heap.size w).drew) b4) b5⟩
theorem marked_any (s : ByteArray) (w : World) : Calls Tryd.prog 53 #[.string s] w fun e w' => e = .returned (.func (.func 64) #[] #[.pointer (some ⟨w.heap.size, 0, none⟩)]) ∧ w.alloc (.cells #[.string s] 9) = w' := by
  go_enter Tryd.func53, Tryd.ntmps53
  go_wp2
  go_ret
  exact ⟨rfl, rfl⟩
theorem len_data (s : ByteArray) : s.data.toList.length = s.size := by rw [Array.length_toList]; rfl
theorem leaf_any (s : ByteArray) (w : World) (hs : s.size ≤ 400000) (hK : RoundIn w) : Calls Tryd.prog 29 #[.string s] w fun e w' => e = .returned (.string (leafS s)) ∧ Below w.heap.size w w' := by
  have HK := Lib.hid hK
  clear hK
  go_enter Tryd.func29, Tryd.ntmps29
  go_wp2_with (go_at_call 53; refine (marked_any _ _).mono ?_; rintro e w1 ⟨rfl, rfl⟩)
  have B1 := below_alloc (below_alloc (Below.refl w.heap.size w) (.cells #[.string ⟨#[0]⟩] 9)) (.cells #[.string s] 9)
  refine (marked_in 0 w.heap.size (w.heap.size + 1) 1 [s] _ ?h1 ?h2 ?h3 (by simp) (by simp) (by simp; have := len_data s; omega) (by simp) (HK.out.then_ B1)).mono ?_
  case h1 => exact keep_alloc _ (new_cell rfl)
  case h2 =>
    intro j x hj
    rw [Nat.zero_add]
    have hl : j < 1 := (List.getElem?_eq_some_iff.1 hj).1
    obtain rfl : j = 0 := by omega
    obtain rfl : s = x := by simpa using hj
    exact new_cell' rfl
  case h3 => simp
  rintro e w2 ⟨rfl, b2⟩
  go_wp2_with fail
  go_ret
  exact ⟨rfl, below_next B1 b2⟩
theorem node_any (a b : ByteArray) (w : World) (ha : a.size ≤ 400000) (hb : b.size ≤ 400000) (hK : RoundIn w) : Calls Tryd.prog 32 #[.string a, .string b] w fun e w' => e = .returned (.string (nodeS a b)) ∧ Below w.heap.size w w' := by
  have HK := Lib.hid hK
  clear hK
  go_enter Tryd.func32, Tryd.ntmps32
  go_wp2_with (go_at_call 53; refine (marked_any _ _).mono ?_; rintro e w1 ⟨rfl, rfl⟩)
  have B1 := below_alloc (below_alloc (Below.refl w.heap.size w) (.cells #[.string ⟨#[1]⟩] 9)) (.cells #[.string a, .string b] 9)
  refine (marked_in 1 w.heap.size (w.heap.size + 1) 2 [a, b] _ ?h1 ?h2 ?h3 (by simp) (by simp) (by simp; have := len_data a; have := len_data b; omega) (by simp) (HK.out.then_ B1)).mono ?_
  case h1 => exact keep_alloc _ (new_cell rfl)
  case h2 =>
    intro j x hj
    rw [Nat.zero_add]
    have hl : j < 2 := (List.getElem?_eq_some_iff.1 hj).1
    rcases (show j = 0 ∨ j = 1 by omega) with rfl | rfl
    · obtain rfl : a = x := by simpa using hj
      exact new_cell' rfl
    · obtain rfl : b = x := by simpa using hj
      exact new_cell' rfl
  case h3 => simp
  rintro e w2 ⟨rfl, b2⟩
  go_wp2_with fail
  go_ret
  exact ⟨rfl, below_next B1 b2⟩
theorem chain_any (a b : ByteArray) (w : World) (ha : a.size ≤ 400000) (hb : b.size ≤ 400000) (hK : RoundIn w) : Calls Tryd.prog 36 #[.string a, .string b] w fun e w' => e = .returned (.string (chainS a b)) ∧ Below w.heap.size w w' := by
  have HK := Lib.hid hK
  clear hK
  go_enter Tryd.func36, Tryd.ntmps36
  go_wp2_with (go_at_call 53; refine (marked_any _ _).mono ?_; rintro e w1 ⟨rfl, rfl⟩)
  have B1 := below_alloc (below_alloc (Below.refl w.heap.size w) (.cells #[.string ⟨#[2]⟩] 9)) (.cells #[.string a, .string b] 9)
  refine (marked_in 2 w.heap.size (w.heap.size + 1) 2 [a, b] _ ?h1 ?h2 ?h3 (by simp) (by simp) (by simp; have := len_data a; have := len_data b; omega) (by simp) (HK.out.then_ B1)).mono ?_
  case h1 => exact keep_alloc _ (new_cell rfl)
  case h2 =>
    intro j x hj
    rw [Nat.zero_add]
    have hl : j < 2 := (List.getElem?_eq_some_iff.1 hj).1
    rcases (show j = 0 ∨ j = 1 by omega) with rfl | rfl
    · obtain rfl : a = x := by simpa using hj
      exact new_cell' rfl
    · obtain rfl : b = x := by simpa using hj
      exact new_cell' rfl
  case h3 => simp
  rintro e w2 ⟨rfl, b2⟩
  go_wp2_with fail
  go_ret
  exact ⟨rfl, below_next B1 b2⟩
end Go.Proofs.YtoipckflokdakaaDoor
