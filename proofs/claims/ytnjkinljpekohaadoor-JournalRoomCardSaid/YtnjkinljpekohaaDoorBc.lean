/- Contracts of the library, proved over any program, at this program: no walk, each one application. Written by the tools lay-shelf.mjs and lay-plain.mjs; remarks struck. Leaf, Node, Chain: what they return. -/
import Derived.Shelf.Strings.Builder1
import Derived.Shelf.Strings.Builder2
import Derived.Shelf.Strings.OnBuilder
import Derived.Shelf.Strings.Trim
import Derived.Shelf.Small.Utf8
import Derived.Shelf.Small.Strs
import Derived.Shelf.Strings.BuilderF
import Derived.Shelf.Strings.BuilderK
import Derived.Shelf.Strings.Builder2Cap
import Derived.Shelf.Strings.Search1
import Derived.Shelf.Unicode.Decode
import Derived.Shelf.Strings.Runes
import Derived.Shelf.Strings.AsciiSet
import Derived.Shelf.Unicode.DecodeSlow
import Derived.Shelf.Unicode.DecodeAny
import Derived.Shelf.Unicode.DecodeLast
import Derived.Shelf.Strings.BuilderCap
import Derived.Ground.Names2Prog
import Derived.Shelf.Slices.Clone
import Derived.Ground.SlgnProg
import Derived.Shelf.SlicesE.Clone
import Derived.Ground.SlgfProg
import Derived.Shelf.SlicesE.IndexFunc
import Derived.Test.YtnjkinljpekohaaDoorProg
import Derived.Test.YtnjkinljpekohaaDoorBb
namespace Go.Proofs
open Go.Shelf
def Tryd.lays156_ren : Go.Shelf.Ren := ⟨fun | 156 => 72 | 165 => 81 | 166 => 31 | 169 => 33 | 240 => 52 | 241 => 87 | 276 => 63 | 277 => 90 | n => n, fun | 31 => 22 | 9 => 9 | 3 => 3 | 4 => 4 | 0 => 0 | 20 => 20 | 72 => 67 | 76 => 70 | 70 => 65 | 37 => 38 | 75 => 69 | 127 => 94 | 164 => 107 | 5 => 5 | 80 => 73 | n => n, fun | n => n⟩
theorem Tryd.lays156 : Go.Proofs.Lays.n156 Tryd.prog Tryd.lays156_ren := {
  mixed := by kernel_rfl
  f156 := Tryd.func72.trans (congrArg some (by kernel_rfl))
  f165 := Tryd.func81.trans (congrArg some (by kernel_rfl))
  f166 := Tryd.func31.trans (congrArg some (by kernel_rfl))
  f169 := Tryd.func33.trans (congrArg some (by kernel_rfl))
  f240 := Tryd.func52.trans (congrArg some (by kernel_rfl))
  f241 := Tryd.func87.trans (congrArg some (by kernel_rfl))
  f276 := Tryd.func63.trans (congrArg some (by kernel_rfl))
  f277 := Tryd.func90.trans (congrArg some (by kernel_rfl))
  t0 := Tryd.underlying0
  a0 := Tryd.isAgg0
  z0 := Tryd.sizeOf0
  v0 := Tryd.zeroValue0
  t3 := Tryd.underlying3
  a3 := Tryd.isAgg3
  z3 := Tryd.sizeOf3
  v3 := Tryd.zeroValue3
  t4 := Tryd.underlying4
  a4 := Tryd.isAgg4
  z4 := Tryd.sizeOf4
  v4 := Tryd.zeroValue4
  t9 := Tryd.underlying9
  a9 := Tryd.isAgg9
  z9 := Tryd.sizeOf9
  v9 := Tryd.zeroValue9
  t20 := Tryd.underlying20
  a20 := Tryd.isAgg20
  z20 := Tryd.sizeOf20
  v20 := Tryd.zeroValue20
  t31 := Tryd.underlying22
  a31 := Tryd.isAgg22
  z31 := Tryd.sizeOf22
  v31 := Tryd.zeroValue22
  t37 := Tryd.underlying38
  a37 := Tryd.isAgg38
  z37 := Tryd.sizeOf38
  v37 := Tryd.zeroValue38
  t70 := Tryd.underlying65
  a70 := Tryd.isAgg65
  z70 := Tryd.sizeOf65
  v70 := Tryd.zeroValue65
  t72 := Tryd.underlying67
  a72 := Tryd.isAgg67
  z72 := Tryd.sizeOf67
  v72 := Tryd.zeroValue67
  t75 := Tryd.underlying69
  a75 := Tryd.isAgg69
  z75 := Tryd.sizeOf69
  v75 := Tryd.zeroValue69
  t76 := Tryd.underlying70
  a76 := Tryd.isAgg70
  z76 := Tryd.sizeOf70
  v76 := Tryd.zeroValue70
  t127 := Tryd.underlying94
  a127 := Tryd.isAgg94
  z127 := Tryd.sizeOf94
  v127 := Tryd.zeroValue94
  t164 := Tryd.underlying107
  a164 := Tryd.isAgg107
  z164 := Tryd.sizeOf107
  v164 := Tryd.zeroValue107 }
theorem Tryd.Builder_Extra_156 : Builder.Extra Tryd.prog Tryd.lays156_ren := {
  sizeBuilder := by kernel_rfl
  liesBuilder := by kernel_rfl
  t5 := Tryd.underlying5
  a5 := Tryd.isAgg5
  z5 := Tryd.sizeOf5
  v5 := Tryd.zeroValue5
  infoByte := by kernel_rfl
  cellsByte := by kernel_rfl
  sizeByte := by kernel_rfl
  neB5 := by decide }
open Go.RowKit in
theorem Tryd.strings_Join_none (a : Option Addr) (c : Nat) (sep : ByteArray) (w : World) :
    Calls Tryd.prog 72 #[.slice a 0 c, .string sep] w fun e w' => e = .returned (.string ⟨#[]⟩) ∧ w' = w := Any.strings_Join_none Tryd.lays156 Tryd.Builder_Extra_156 a c sep w
open Go.RowKit in
theorem Tryd.strings_Join (bk o c : Nat) (xs : List ByteArray) (sep : ByteArray) (w : World) (hcells : ∀ (j : Nat) x, xs[j]? = some x → w.cell? ⟨bk, o + j, none⟩ = some (.string x)) (hbk : bk < w.heap.size) (hN : xs.length ≤ 140737488355328) (hcap : xs.length ≤ c) (hlen : (Lib.join (xs.map (·.data.toList)) sep.data.toList).length ≤ 140737488355328) :
    Calls Tryd.prog 72 #[.slice (some ⟨bk, o, none⟩) xs.length c, .string sep] w fun e w' => e = .returned (.string ⟨(Lib.join (xs.map (·.data.toList)) sep.data.toList).toArray⟩) ∧ Below w.heap.size w w' := Any.strings_Join Tryd.lays156 Tryd.Builder_Extra_156 bk o c xs sep w hcells hbk hN hcap hlen
end Go.Proofs
namespace Go.Proofs.YtnjkinljpekohaaDoor
open Go.RowKit Sha
/-- a digest of a mark and strings behind it -/
def markS (b : UInt8) (l : List ByteArray) : ByteArray := sumS ⟨(b :: (l.map (·.data.toList)).flatten).toArray⟩
def leafS (s : ByteArray) : ByteArray := markS 0 [s]
def nodeS (a b : ByteArray) : ByteArray := markS 1 [a, b]
def chainS (a b : ByteArray) : ByteArray := markS 2 [a, b]
theorem join_flat (l : List (List UInt8)) : Lib.join l [] = l.flatten := by
  induction l with
  | nil => rfl
  | cons a t ih =>
    cases t with
    | nil => simp [Lib.join]
    | cons b t =>
      simp [Lib.join] at ih ⊢
      exact ih
theorem mark_add (b : UInt8) (l : List ByteArray) : (⟨#[b]⟩ : ByteArray) ++ ⟨((l.map (·.data.toList)).flatten).toArray⟩ = ⟨(b :: (l.map (·.data.toList)).flatten).toArray⟩ := by
  apply ByteArray.ext
  simp [ByteArray.data_append]
theorem size_mk (l : List UInt8) : (ByteArray.mk l.toArray).size = l.length := by simp [ByteArray.size]
theorem Tryd_join (g c : Nat) (l : List ByteArray) (w : World) (hc : ∀ (j : Nat) x, l[j]? = some x → w.cell? ⟨g, 0 + j, none⟩ = some (.string x)) (hg : g < w.heap.size) (hlen : l.length ≤ 100) (h2 : l.length ≤ c) (hl : (l.map (·.data.toList)).flatten.length ≤ 900000) :
    Calls Tryd.prog 72 #[.slice (some ⟨g, 0, none⟩) l.length c, .string ⟨#[]⟩] w.drew fun e w' => e = .returned (.string ⟨((l.map (·.data.toList)).flatten).toArray⟩) ∧ Below w.drew.heap.size w.drew w' := by
  have h := Tryd.strings_Join g 0 c l ⟨#[]⟩ w.drew hc hg (by omega) h2 (by rw [join_flat]; omega)
  rw [join_flat] at h
  exact h
theorem ret_str {a b : ByteArray} (h : a = b) : Ending.returned (.string a) = .returned (.string b) := by rw [h]
theorem marked_in (b : UInt8) (B g c : Nat) (l : List ByteArray) (w : World) (hB : w.cell? ⟨B, 0, none⟩ = some (.string ⟨#[b]⟩)) (hc : ∀ (j : Nat) x, l[j]? = some x → w.cell? ⟨g, 0 + j, none⟩ = some (.string x)) (hg : g < w.heap.size) (_h1 : 1 ≤ l.length) (h2 : l.length ≤ c)
    (hl : (l.map (·.data.toList)).flatten.length ≤ 900000) (hlen : l.length ≤ 100) (hK : RoundIn w) :
    Calls Tryd.prog 70 #[.slice (some ⟨g, 0, none⟩) l.length c, .pointer (some ⟨B, 0, none⟩)] w fun e w' => e = .returned (.string (markS b l)) ∧ Below w.heap.size w w' := by
  have hj := Tryd_join g c l w hc hg hlen h2 hl
  have HK := Lib.hid hK
  have HM := Lib.hid (mark_add b l)
  have hsz : ((⟨#[b]⟩ : ByteArray) ++ ⟨((l.map (·.data.toList)).flatten).toArray⟩).size ≤ 1000000 := by
    rw [mark_add, size_mk, List.length_cons]; omega
  have HE : Hid (markS b l = sumS ((⟨#[b]⟩ : ByteArray) ++ ⟨((l.map (·.data.toList)).flatten).toArray⟩)) := by
    show _ = _
    rw [mark_add]; rfl
  obtain ⟨J, hJ⟩ : ∃ J, (⟨((l.map (·.data.toList)).flatten).toArray⟩ : ByteArray) = J := ⟨_, rfl⟩
  rw [hJ] at hj hsz HE
  have HJ := Lib.hid hj
  have HSZ := Lib.hid hsz
  have hl1 : 0 ≤ (J.size : Int) := by omega
  have hl3 : J.size ≤ 900000 := by rw [← hJ, size_mk]; omega
  have hl4 : ∀ w, (Op.stringOp .add (⟨#[b]⟩ : ByteArray) J).run Tryd.prog w = .ok (.string ((⟨#[b]⟩ : ByteArray) ++ J)) w := fun w => run_string_add_sum w _ _ (by have : (⟨#[b]⟩ : ByteArray).size = 1 := rfl; omega)
  have hl2 : (J.size : Int) ≤ 900000 := by
    rw [← hJ, size_mk]; omega
  clear hj hK hsz hJ HM hc
  go_enter Tryd.func70, Tryd.ntmps70
  go_wp2_with fail
  go_region_held3 (fun w' => w'.cell? ⟨B, 0, none⟩ = some (.string ⟨#[b]⟩) ∧ RoundIn w') ((first | exact ⟨hB, HK.out⟩ | exact ⟨q1, q2⟩ | exact ⟨q3, q4⟩)) (first | (go_at_call 72; (with_reducible refine HJ.out.mono ?_); rintro e w4 ⟨rfl, b4⟩; have q1 := cell_then b4 hB; have q2 := RoundIn.then_ (w := w.drew) HK.out b4) | (go_at_call 71; (with_reducible refine (sum_any _ _ HSZ.out q2).mono ?_); rintro e w5 ⟨rfl, b5⟩; have q3 := cell_then b5 q1; have q4 := RoundIn.then_ q2 b5))
  go_wp2_with fail
  go_ret
  exact ⟨ret_str HE.out.symm, below_next (below_next (B := w.heap.size) ((Below.refl w.heap.size w).drew) b4) b5⟩
theorem marked_any (s : ByteArray) (w : World) : Calls Tryd.prog 64 #[.string s] w fun e w' => e = .returned (.func (.func 70) #[] #[.pointer (some ⟨w.heap.size, 0, none⟩)]) ∧ w.alloc (.cells #[.string s] 9) = w' := by
  go_enter Tryd.func64, Tryd.ntmps64
  go_wp2
  go_ret
  exact ⟨rfl, rfl⟩
theorem len_data (s : ByteArray) : s.data.toList.length = s.size := by rw [Array.length_toList]; rfl
theorem chain_any (a b : ByteArray) (w : World) (ha : a.size ≤ 400000) (hb : b.size ≤ 400000) (hK : RoundIn w) : Calls Tryd.prog 53 #[.string a, .string b] w fun e w' => e = .returned (.string (chainS a b)) ∧ Below w.heap.size w w' := by
  have HK := Lib.hid hK
  clear hK
  go_enter Tryd.func53, Tryd.ntmps53
  go_wp2_with (go_at_call 64; refine (marked_any _ _).mono ?_; rintro e w1 ⟨rfl, rfl⟩)
  have B1 := below_alloc (below_alloc (Below.refl w.heap.size w) (.cells #[.string ⟨#[2]⟩] 9)) (.cells #[.string a, .string b] 9)
  refine (marked_in 2 w.heap.size (w.heap.size + 1) 2 [a, b] _ ?h1 ?h2 ?h3 (by simp) (by simp) (by simp; have := len_data a; have := len_data b; omega) (by simp) (HK.out.then_ B1)).mono ?_
  case h1 => exact keep_alloc _ (new_cell rfl)
  case h2 =>
    intro j x hj
    rw [Nat.zero_add]
    have hl : j < 2 := (List.getElem?_eq_some_iff.1 hj).1
    rcases (show j = 0 ∨ j = 1 by omega) with rfl | rfl
    · obtain rfl : a = x := by simpa using hj
      exact new_cell' rfl
    · obtain rfl : b = x := by simpa using hj
      exact new_cell' rfl
  case h3 => simp
  rintro e w2 ⟨rfl, b2⟩
  go_wp2_with fail
  go_ret
  exact ⟨rfl, below_next B1 b2⟩
end Go.Proofs.YtnjkinljpekohaaDoor
