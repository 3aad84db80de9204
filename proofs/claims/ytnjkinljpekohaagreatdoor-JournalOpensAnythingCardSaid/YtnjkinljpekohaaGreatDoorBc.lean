/- Contracts of the library, proved over any program, at this program: no walk, each one application. Written by the tools lay-shelf.mjs and lay-plain.mjs; remarks struck. Leaf, Node, Chain: what they return. -/
import Derived.Shelf.Strings.Builder1
import Derived.Shelf.Strings.Builder2
import Derived.Shelf.Strings.OnBuilder
import Derived.Shelf.Strings.Trim
import Derived.Shelf.Small.Utf8
import Derived.Shelf.Small.Bits
import Derived.Shelf.Small.Strs
import Derived.Shelf.Small.Wraps
import Derived.Shelf.Strings.BuilderF
import Derived.Shelf.Strings.BuilderK
import Derived.Shelf.Strings.Builder2Cap
import Derived.Shelf.Strconv.Itoa0
import Derived.Shelf.Strings.Search1
import Derived.Shelf.Unicode.Decode
import Derived.Shelf.Strings.Runes
import Derived.Shelf.Strings.AsciiSet
import Derived.Shelf.Unicode.DecodeSlow
import Derived.Shelf.Unicode.DecodeAny
import Derived.Shelf.Unicode.DecodeLast
import Derived.Shelf.Strings.BuilderCap
import Derived.Ground.Names2Prog
import Derived.Shelf.Slices.Clone
import Derived.Shelf.Slices.CompactI
import Derived.Shelf.Slices.SearchI
import Derived.Shelf.Slices.Cells
import Derived.Ground.SlgnProg
import Derived.Shelf.SlicesE.Compact
import Derived.Shelf.SlicesE.Clone
import Derived.Ground.SlgfProg
import Derived.Shelf.SlicesE.IndexFunc
import Derived.Shelf.SlicesE.DeleteFunc
import Derived.Test.YtnjkinljpekohaaGreatDoorProg
import Derived.Test.YtnjkinljpekohaaGreatDoorBb
namespace Go.Proofs
open Go.Shelf
def Tryz.lays156_ren : Go.Shelf.Ren := ⟨fun | 156 => 126 | 165 => 141 | 166 => 51 | 169 => 53 | 240 => 84 | 241 => 148 | 276 => 105 | 277 => 151 | n => n, fun | 31 => 32 | 9 => 9 | 3 => 3 | 4 => 4 | 0 => 0 | 20 => 20 | 72 => 99 | 76 => 102 | 70 => 97 | 37 => 53 | 75 => 101 | 127 => 139 | 164 => 160 | 5 => 5 | 80 => 104 | n => n, fun | n => n⟩
theorem Tryz.lays156 : Go.Proofs.Lays.n156 Tryz.prog Tryz.lays156_ren := {
  mixed := by kernel_rfl
  f156 := Tryz.func126.trans (congrArg some (by kernel_rfl))
  f165 := Tryz.func141.trans (congrArg some (by kernel_rfl))
  f166 := Tryz.func51.trans (congrArg some (by kernel_rfl))
  f169 := Tryz.func53.trans (congrArg some (by kernel_rfl))
  f240 := Tryz.func84.trans (congrArg some (by kernel_rfl))
  f241 := Tryz.func148.trans (congrArg some (by kernel_rfl))
  f276 := Tryz.func105.trans (congrArg some (by kernel_rfl))
  f277 := Tryz.func151.trans (congrArg some (by kernel_rfl))
  t0 := Tryz.underlying0
  a0 := Tryz.isAgg0
  z0 := Tryz.sizeOf0
  v0 := Tryz.zeroValue0
  t3 := Tryz.underlying3
  a3 := Tryz.isAgg3
  z3 := Tryz.sizeOf3
  v3 := Tryz.zeroValue3
  t4 := Tryz.underlying4
  a4 := Tryz.isAgg4
  z4 := Tryz.sizeOf4
  v4 := Tryz.zeroValue4
  t9 := Tryz.underlying9
  a9 := Tryz.isAgg9
  z9 := Tryz.sizeOf9
  v9 := Tryz.zeroValue9
  t20 := Tryz.underlying20
  a20 := Tryz.isAgg20
  z20 := Tryz.sizeOf20
  v20 := Tryz.zeroValue20
  t31 := Tryz.underlying32
  a31 := Tryz.isAgg32
  z31 := Tryz.sizeOf32
  v31 := Tryz.zeroValue32
  t37 := Tryz.underlying53
  a37 := Tryz.isAgg53
  z37 := Tryz.sizeOf53
  v37 := Tryz.zeroValue53
  t70 := Tryz.underlying97
  a70 := Tryz.isAgg97
  z70 := Tryz.sizeOf97
  v70 := Tryz.zeroValue97
  t72 := Tryz.underlying99
  a72 := Tryz.isAgg99
  z72 := Tryz.sizeOf99
  v72 := Tryz.zeroValue99
  t75 := Tryz.underlying101
  a75 := Tryz.isAgg101
  z75 := Tryz.sizeOf101
  v75 := Tryz.zeroValue101
  t76 := Tryz.underlying102
  a76 := Tryz.isAgg102
  z76 := Tryz.sizeOf102
  v76 := Tryz.zeroValue102
  t127 := Tryz.underlying139
  a127 := Tryz.isAgg139
  z127 := Tryz.sizeOf139
  v127 := Tryz.zeroValue139
  t164 := Tryz.underlying160
  a164 := Tryz.isAgg160
  z164 := Tryz.sizeOf160
  v164 := Tryz.zeroValue160 }
theorem Tryz.Builder_Extra_156 : Builder.Extra Tryz.prog Tryz.lays156_ren := {
  sizeBuilder := by kernel_rfl
  liesBuilder := by kernel_rfl
  t5 := Tryz.underlying5
  a5 := Tryz.isAgg5
  z5 := Tryz.sizeOf5
  v5 := Tryz.zeroValue5
  infoByte := by kernel_rfl
  cellsByte := by kernel_rfl
  sizeByte := by kernel_rfl
  neB5 := by decide }
open Go.RowKit in
theorem Tryz.strings_Join_none (a : Option Addr) (c : Nat) (sep : ByteArray) (w : World) :
    Calls Tryz.prog 126 #[.slice a 0 c, .string sep] w fun e w' => e = .returned (.string ⟨#[]⟩) ∧ w' = w := Any.strings_Join_none Tryz.lays156 Tryz.Builder_Extra_156 a c sep w
open Go.RowKit in
theorem Tryz.strings_Join (bk o c : Nat) (xs : List ByteArray) (sep : ByteArray) (w : World) (hcells : ∀ (j : Nat) x, xs[j]? = some x → w.cell? ⟨bk, o + j, none⟩ = some (.string x)) (hbk : bk < w.heap.size) (hN : xs.length ≤ 140737488355328) (hcap : xs.length ≤ c) (hlen : (Lib.join (xs.map (·.data.toList)) sep.data.toList).length ≤ 140737488355328) :
    Calls Tryz.prog 126 #[.slice (some ⟨bk, o, none⟩) xs.length c, .string sep] w fun e w' => e = .returned (.string ⟨(Lib.join (xs.map (·.data.toList)) sep.data.toList).toArray⟩) ∧ Below w.heap.size w w' := Any.strings_Join Tryz.lays156 Tryz.Builder_Extra_156 bk o c xs sep w hcells hbk hN hcap hlen
end Go.Proofs
namespace Go.Proofs.YtnjkinljpekohaaGreatDoor
open Go.RowKit Sha
/-- a digest of a mark and strings behind it -/
def markS (b : UInt8) (l : List ByteArray) : ByteArray := sumS ⟨(b :: (l.map (·.data.toList)).flatten).toArray⟩
def leafS (s : ByteArray) : ByteArray := markS 0 [s]
def nodeS (a b : ByteArray) : ByteArray := markS 1 [a, b]
def chainS (a b : ByteArray) : ByteArray := markS 2 [a, b]
theorem join_flat (l : List (List UInt8)) : Lib.join l [] = l.flatten := by
  induction l with
  | nil => rfl
  | cons a t ih =>
    cases t with
    | nil => simp [Lib.join]
    | cons b t =>
      simp [Lib.join] at ih ⊢
      exact ih
theorem mark_add (b : UInt8) (l : List ByteArray) : (⟨#[b]⟩ : ByteArray) ++ ⟨((l.map (·.data.toList)).flatten).toArray⟩ = ⟨(b :: (l.map (·.data.toList)).flatten).toArray⟩ := by
  apply ByteArray.ext
  simp [ByteArray.data_append]
theorem size_mk (l : List UInt8) : (ByteArray.mk l.toArray).size = l.length := by simp [ByteArray.size]
theorem Tryd_join (g c : Nat) (l : List ByteArray) (w : World) (hc : ∀ (j : Nat) x, l[j]? = some x → w.cell? ⟨g, 0 + j, none⟩ = some (.string x)) (hg : g < w.heap.size) (hlen : l.length ≤ 100) (h2 : l.length ≤ c) (hl : (l.map (·.data.toList)).flatten.length ≤ 900000) :
    Calls Tryz.prog 126 #[.slice (some ⟨g, 0, none⟩) l.length c, .string ⟨#[]⟩] w.drew fun e w' => e = .returned (.string ⟨((l.map (·.data.toList)).flatten).toArray⟩) ∧ Below w.drew.heap.size w.drew w' := by
  have h := Tryz.strings_Join g 0 c l ⟨#[]⟩ w.drew hc hg (by omega) h2 (by rw [join_flat]; omega)
  rw [join_flat] at h
  exact h
theorem ret_str {a b : ByteArray} (h : a = b) : Ending.returned (.string a) = .returned (.string b) := by rw [h]
theorem marked_in (b : UInt8) (B g c : Nat) (l : List ByteArray) (w : World) (hB : w.cell? ⟨B, 0, none⟩ = some (.string ⟨#[b]⟩)) (hc : ∀ (j : Nat) x, l[j]? = some x → w.cell? ⟨g, 0 + j, none⟩ = some (.string x)) (hg : g < w.heap.size) (_h1 : 1 ≤ l.length) (h2 : l.length ≤ c)
    (hl : (l.map (·.data.toList)).flatten.length ≤ 900000) (hlen : l.length ≤ 100) (hK : RoundIn w) :
    Calls Tryz.prog 124 #[.slice (some ⟨g, 0, none⟩) l.length c, .pointer (some ⟨B, 0, none⟩)] w fun e w' => e = .returned (.string (markS b l)) ∧ Below w.heap.size w w' := by
  have hj := Tryd_join g c l w hc hg hlen h2 hl
  have HK := Lib.hid hK
  have HM := Lib.hid (mark_add b l)
  have hsz : ((⟨#[b]⟩ : ByteArray) ++ ⟨((l.map (·.data.toList)).flatten).toArray⟩).size ≤ 1000000 := by
    rw [mark_add, size_mk, List.length_cons]; omega
  have HE : Hid (markS b l = sumS ((⟨#[b]⟩ : ByteArray) ++ ⟨((l.map (·.data.toList)).flatten).toArray⟩)) := by
    show _ = _
    rw [mark_add]; rfl
  obtain ⟨J, hJ⟩ : ∃ J, (⟨((l.map (·.data.toList)).flatten).toArray⟩ : ByteArray) = J := ⟨_, rfl⟩
  rw [hJ] at hj hsz HE
  have HJ := Lib.hid hj
  have HSZ := Lib.hid hsz
  have hl1 : 0 ≤ (J.size : Int) := by omega
  have hl3 : J.size ≤ 900000 := by rw [← hJ, size_mk]; omega
  have hl4 : ∀ w, (Op.stringOp .add (⟨#[b]⟩ : ByteArray) J).run Tryz.prog w = .ok (.string ((⟨#[b]⟩ : ByteArray) ++ J)) w := fun w => run_string_add_sum w _ _ (by have : (⟨#[b]⟩ : ByteArray).size = 1 := rfl; omega)
  have hl2 : (J.size : Int) ≤ 900000 := by
    rw [← hJ, size_mk]; omega
  clear hj hK hsz hJ HM hc
  go_enter Tryz.func124, Tryz.ntmps124
  go_wp2_with fail
  go_region_held3 (fun w' => w'.cell? ⟨B, 0, none⟩ = some (.string ⟨#[b]⟩) ∧ RoundIn w') ((first | exact ⟨hB, HK.out⟩ | exact ⟨q1, q2⟩ | exact ⟨q3, q4⟩)) (first | (go_at_call 126; (with_reducible refine HJ.out.mono ?_); rintro e w4 ⟨rfl, b4⟩; have q1 := cell_then b4 hB; have q2 := RoundIn.then_ (w := w.drew) HK.out b4) | (go_at_call 125; (with_reducible refine (sum_any _ _ HSZ.out q2).mono ?_); rintro e w5 ⟨rfl, b5⟩; have q3 := cell_then b5 q1; have q4 := RoundIn.then_ q2 b5))
  go_wp2_with fail
  go_ret
  exact ⟨ret_str HE.out.symm, below_next (below_next (B := w.heap.size) ((Below.refl w.heap.size w).drew) b4) b5⟩
theorem marked_any (s : ByteArray) (w : World) : Calls Tryz.prog 106 #[.string s] w fun e w' => e = .returned (.func (.func 124) #[] #[.pointer (some ⟨w.heap.size, 0, none⟩)]) ∧ w.alloc (.cells #[.string s] 9) = w' := by
  go_enter Tryz.func106, Tryz.ntmps106
  go_wp2
  go_ret
  exact ⟨rfl, rfl⟩
theorem len_data (s : ByteArray) : s.data.toList.length = s.size := by rw [Array.length_toList]; rfl
theorem chain_any (a b : ByteArray) (w : World) (ha : a.size ≤ 400000) (hb : b.size ≤ 400000) (hK : RoundIn w) : Calls Tryz.prog 85 #[.string a, .string b] w fun e w' => e = .returned (.string (chainS a b)) ∧ Below w.heap.size w w' := by
  have HK := Lib.hid hK
  clear hK
  go_enter Tryz.func85, Tryz.ntmps85
  go_wp2_with (go_at_call 106; refine (marked_any _ _).mono ?_; rintro e w1 ⟨rfl, rfl⟩)
  have B1 := below_alloc (below_alloc (Below.refl w.heap.size w) (.cells #[.string ⟨#[2]⟩] 9)) (.cells #[.string a, .string b] 9)
  refine (marked_in 2 w.heap.size (w.heap.size + 1) 2 [a, b] _ ?h1 ?h2 ?h3 (by simp) (by simp) (by simp; have := len_data a; have := len_data b; omega) (by simp) (HK.out.then_ B1)).mono ?_
  case h1 => exact keep_alloc _ (new_cell rfl)
  case h2 =>
    intro j x hj
    rw [Nat.zero_add]
    have hl : j < 2 := (List.getElem?_eq_some_iff.1 hj).1
    rcases (show j = 0 ∨ j = 1 by omega) with rfl | rfl
    · obtain rfl : a = x := by simpa using hj
      exact new_cell' rfl
    · obtain rfl : b = x := by simpa using hj
      exact new_cell' rfl
  case h3 => simp
  rintro e w2 ⟨rfl, b2⟩
  go_wp2_with fail
  go_ret
  exact ⟨rfl, below_next B1 b2⟩
end Go.Proofs.YtnjkinljpekohaaGreatDoor
