/- Contracts of the library, proved over any program, at this program: no walk, each one application. Written by the tools lay-shelf.mjs and lay-plain.mjs; remarks struck. The closure in Crash: what it leaves out. The library's Sorted, Compact and DeleteFunc, as Crash calls them. Package disk: Crash. -/
import Derived.Shelf.Strings.Builder1
import Derived.Shelf.Strings.Builder2
import Derived.Shelf.Strings.OnBuilder
import Derived.Shelf.Strings.Trim
import Derived.Shelf.Small.Utf8
import Derived.Shelf.Small.Bits
import Derived.Shelf.Small.Strs
import Derived.Shelf.Small.Wraps
import Derived.Shelf.Strings.BuilderF
import Derived.Shelf.Strings.BuilderK
import Derived.Shelf.Strings.Builder2Cap
import Derived.Shelf.Strconv.Itoa0
import Derived.Shelf.Strings.Search1
import Derived.Shelf.Sort.Plain
import Derived.Shelf.Unicode.Decode
import Derived.Shelf.Strings.Runes
import Derived.Shelf.Strings.AsciiSet
import Derived.Shelf.Unicode.DecodeSlow
import Derived.Shelf.Unicode.DecodeAny
import Derived.Shelf.Unicode.DecodeLast
import Derived.Shelf.Strings.BuilderCap
import Derived.Ground.Names2Prog
import Derived.Shelf.Slices.Clone
import Derived.Shelf.Slices.CompactI
import Derived.Shelf.Slices.SearchI
import Derived.Shelf.Slices.Cells
import Derived.Shelf.Slices.In.SortNone
import Derived.Ground.SlgnProg
import Derived.Shelf.SlicesE.Compact
import Derived.Shelf.SlicesE.Clone
import Derived.Ground.SlgfProg
import Derived.Shelf.SlicesE.IndexFunc
import Derived.Shelf.SlicesE.DeleteFunc
import Derived.Test.YtnjkinljpekohaaGreatDoorProg
import Derived.Test.YtnjkinljpekohaaGreatDoorBf
import Derived.Test.YtnjkinljpekohaaGreatDoorBe
import Derived.Shelf.GgClosure.Gives
import Derived.Test.YtnjkinljpekohaaGreatDoorBs
import Derived.Lib.OwnBridge
namespace Go.Proofs
open Go.Shelf
def Tryz.lays189_ren : Go.Shelf.Ren := ⟨fun | 189 => 80 | 125 => 104 | 257 => 103 | 128 => 122 | 129 => 123 | 294 => 113 | 295 => 114 | 296 => 115 | 297 => 116 | 298 => 117 | 299 => 118 | 216 => 119 | 300 => 120 | 301 => 121 | 328 => 132 | 329 => 133 | 330 => 134 | 331 => 135 | 332 => 136 | 215 => 137 | 343 => 144 | n => n, fun | 28 => 34 | 3 => 3 | 46 => 122 | 0 => 0 | 51 => 118 | 53 => 144 | 4 => 4 | 183 => 180 | 182 => 179 | 131 => 184 | 5 => 5 | 9 => 9 | 218 => 199 | 222 => 203 | 228 => 212 | 229 => 213 | n => n, fun | n => n⟩
theorem Tryz.lays189 : Go.Proofs.Lays.n189 Tryz.prog Tryz.lays189_ren := {
  mixed := by kernel_rfl
  f125 := Tryz.func104.trans (congrArg some (by kernel_rfl))
  f128 := Tryz.func122.trans (congrArg some (by kernel_rfl))
  f129 := Tryz.func123.trans (congrArg some (by kernel_rfl))
  f189 := Tryz.func80.trans (congrArg some (by kernel_rfl))
  f215 := Tryz.func137.trans (congrArg some (by kernel_rfl))
  f216 := Tryz.func119.trans (congrArg some (by kernel_rfl))
  f257 := Tryz.func103.trans (congrArg some (by kernel_rfl))
  f294 := Tryz.func113.trans (congrArg some (by kernel_rfl))
  f295 := Tryz.func114.trans (congrArg some (by kernel_rfl))
  f296 := Tryz.func115.trans (congrArg some (by kernel_rfl))
  f297 := Tryz.func116.trans (congrArg some (by kernel_rfl))
  f298 := Tryz.func117.trans (congrArg some (by kernel_rfl))
  f299 := Tryz.func118.trans (congrArg some (by kernel_rfl))
  f300 := Tryz.func120.trans (congrArg some (by kernel_rfl))
  f301 := Tryz.func121.trans (congrArg some (by kernel_rfl))
  f328 := Tryz.func132.trans (congrArg some (by kernel_rfl))
  f329 := Tryz.func133.trans (congrArg some (by kernel_rfl))
  f330 := Tryz.func134.trans (congrArg some (by kernel_rfl))
  f331 := Tryz.func135.trans (congrArg some (by kernel_rfl))
  f332 := Tryz.func136.trans (congrArg some (by kernel_rfl))
  f343 := Tryz.func144.trans (congrArg some (by kernel_rfl))
  t0 := Tryz.underlying0
  a0 := Tryz.isAgg0
  z0 := Tryz.sizeOf0
  v0 := Tryz.zeroValue0
  t3 := Tryz.underlying3
  a3 := Tryz.isAgg3
  z3 := Tryz.sizeOf3
  v3 := Tryz.zeroValue3
  t4 := Tryz.underlying4
  a4 := Tryz.isAgg4
  z4 := Tryz.sizeOf4
  v4 := Tryz.zeroValue4
  t5 := Tryz.underlying5
  a5 := Tryz.isAgg5
  z5 := Tryz.sizeOf5
  v5 := Tryz.zeroValue5
  t9 := Tryz.underlying9
  a9 := Tryz.isAgg9
  z9 := Tryz.sizeOf9
  v9 := Tryz.zeroValue9
  t28 := Tryz.underlying34
  a28 := Tryz.isAgg34
  z28 := Tryz.sizeOf34
  v28 := Tryz.zeroValue34
  t46 := Tryz.underlying122
  a46 := Tryz.isAgg122
  z46 := Tryz.sizeOf122
  v46 := Tryz.zeroValue122
  t51 := Tryz.underlying118
  a51 := Tryz.isAgg118
  z51 := Tryz.sizeOf118
  v51 := Tryz.zeroValue118
  t53 := Tryz.underlying144
  a53 := Tryz.isAgg144
  z53 := Tryz.sizeOf144
  v53 := Tryz.zeroValue144
  t131 := Tryz.underlying184
  a131 := Tryz.isAgg184
  z131 := Tryz.sizeOf184
  v131 := Tryz.zeroValue184
  t182 := Tryz.underlying179
  a182 := Tryz.isAgg179
  z182 := Tryz.sizeOf179
  v182 := Tryz.zeroValue179
  t183 := Tryz.underlying180
  a183 := Tryz.isAgg180
  z183 := Tryz.sizeOf180
  v183 := Tryz.zeroValue180
  t218 := Tryz.underlying199
  a218 := Tryz.isAgg199
  z218 := Tryz.sizeOf199
  v218 := Tryz.zeroValue199
  t222 := Tryz.underlying203
  a222 := Tryz.isAgg203
  z222 := Tryz.sizeOf203
  v222 := Tryz.zeroValue203
  t228 := Tryz.underlying212
  a228 := Tryz.isAgg212
  z228 := Tryz.sizeOf212
  v228 := Tryz.zeroValue212
  t229 := Tryz.underlying213
  a229 := Tryz.isAgg213
  z229 := Tryz.sizeOf213
  v229 := Tryz.zeroValue213 }
open Go.Sort Go.RowKit in
theorem Tryz.slices_Sort_int (blk off cap : Nat) (zs : List Int) (w : World) (hH : Holds (Value.int .i64) w blk off zs.toArray) (hblk : blk < w.heap.size) (hsz : zs.length < 4611686018427387904) :
    Calls Tryz.prog 80 #[.slice (some ⟨blk, off, none⟩) zs.length cap] w fun e w' =>
      e = .returned (.tuple #[]) ∧ ∃ n os, w' = grow (putRow (Value.int .i64) (Sort.ahead w n) blk off (zs.mergeSort fun x y => decide (x ≤ y)).toArray) os := Any.slices_Sort_int Tryz.lays189 blk off cap zs w hH hblk hsz
def Tryz.laysNm220_ren : Go.Shelf.Ren := ⟨fun | 20 => 41 | n => n, fun | 22 => 34 | 3 => 3 | 4 => 4 | 0 => 0 | n => n, fun | n => n⟩
theorem Tryz.laysNm220 : Go.Proofs.Lays2.n20 Tryz.prog Tryz.laysNm220_ren := {
  mixed := by kernel_rfl
  f20 := Tryz.func41.trans (congrArg some (by kernel_rfl))
  t0 := Tryz.underlying0
  a0 := Tryz.isAgg0
  z0 := Tryz.sizeOf0
  v0 := Tryz.zeroValue0
  t3 := Tryz.underlying3
  a3 := Tryz.isAgg3
  z3 := Tryz.sizeOf3
  v3 := Tryz.zeroValue3
  t4 := Tryz.underlying4
  a4 := Tryz.isAgg4
  z4 := Tryz.sizeOf4
  v4 := Tryz.zeroValue4
  t22 := Tryz.underlying34
  a22 := Tryz.isAgg34
  z22 := Tryz.sizeOf34
  v22 := Tryz.zeroValue34
  i3 := by kernel_rfl }
open Go.RowKit Go.Lib Go.Sort in
theorem Tryz.slices_Compact_int (blk off cap : Nat) (zs : List Int) (w : World) (hH : Holds (Value.int .i64) w blk off zs.toArray) (hsz : zs.length ≤ 9223372036854775807) (hcap : zs.length ≤ cap) :
    Calls Tryz.prog 41 #[.slice (some ⟨blk, off, none⟩) zs.length cap] w fun e w' => e = .returned (.slice (some ⟨blk, off, none⟩) (Lib.compact zs).length cap) ∧ ∃ q, w' = putRow (Value.int .i64) (Sort.ahead w q) blk off (Lib.compact zs ++ List.replicate (zs.length - (Lib.compact zs).length) 0).toArray := Any.slices_Compact_int Tryz.laysNm220 blk off cap zs w hH hsz hcap
open Go.RowKit Go.Lib Go.Sort in
theorem Tryz.slices_Compact_int_empty (a : Option Addr) (cap : Nat) (w : World) :
    Calls Tryz.prog 41 #[.slice a 0 cap] w fun e w' => e = .returned (.slice a 0 cap) ∧ w' = w := Any.slices_Compact_int_empty Tryz.laysNm220 a cap w
open Go.RowKit Go.Sort in
theorem Tryz.slices_Sort_int_none (p : Option Addr) (cap : Nat) (w : World) :
    Calls Tryz.prog 80 #[.slice p 0 cap] w fun e w' => e = .returned (.tuple #[]) ∧ w' = w := Any.slices_Sort_int_none Tryz.lays189 p cap w
def Tryz.laysSlH6_f82_ren : Go.Shelf.Ren := ⟨fun | 6 => 82 | n => n, fun | 22 => 34 | 23 => 3 | 25 => 90 | 3 => 3 | 0 => 0 | 4 => 4 | n => n, fun | n => n⟩
theorem Tryz.laysSlH6_f82 : Go.Proofs.SlLaysH.n6 Tryz.prog Tryz.laysSlH6_f82_ren := {
  mixed := by kernel_rfl
  f6 := ⟨Tryz.f82.name, by decide, Tryz.func82.trans (congrArg some (by kernel_rfl))⟩
  t0 := Tryz.underlying0
  a0 := Tryz.isAgg0
  z0 := Tryz.sizeOf0
  v0 := Tryz.zeroValue0
  t3 := Tryz.underlying3
  a3 := Tryz.isAgg3
  z3 := Tryz.sizeOf3
  v3 := Tryz.zeroValue3
  t4 := Tryz.underlying4
  a4 := Tryz.isAgg4
  z4 := Tryz.sizeOf4
  v4 := Tryz.zeroValue4
  t22 := Tryz.underlying34
  a22 := Tryz.isAgg34
  z22 := Tryz.sizeOf34
  v22 := Tryz.zeroValue34
  a23 := Tryz.isAgg3
  z23 := Tryz.sizeOf3
  t25 := Tryz.underlying90
  a25 := Tryz.isAgg90
  z25 := Tryz.sizeOf90
  v25 := Tryz.zeroValue90 }
open Go.RowKit Go.Lib in
theorem Tryz.slices_IndexFunc_empty_f82 {α : Type} [Inhabited α] (a : Option Addr) (c : Nat) (fv : Value) (w : World) :
    Calls Tryz.prog 82 #[.slice a 0 c, fv] w fun e w' => e = .returned (.int .i64 (-1)) ∧ w' = w := AnyE.slices_IndexFunc_empty Tryz.laysSlH6_f82 a c fv w
def Tryz.laysSlH10_f44_ren : Go.Shelf.Ren := ⟨fun | 10 => 44 | 6 => 82 | n => n, fun | 22 => 34 | 23 => 3 | 25 => 90 | 3 => 3 | 4 => 4 | 0 => 0 | n => n, fun | n => n⟩
theorem Tryz.laysSlH10_f44 : Go.Proofs.SlLaysH.n10 Tryz.prog Tryz.laysSlH10_f44_ren := {
  mixed := by kernel_rfl
  f6 := ⟨Tryz.f82.name, by decide, Tryz.func82.trans (congrArg some (by kernel_rfl))⟩
  f10 := ⟨Tryz.f44.name, by decide, Tryz.func44.trans (congrArg some (by kernel_rfl))⟩
  t0 := Tryz.underlying0
  a0 := Tryz.isAgg0
  z0 := Tryz.sizeOf0
  v0 := Tryz.zeroValue0
  t3 := Tryz.underlying3
  a3 := Tryz.isAgg3
  z3 := Tryz.sizeOf3
  v3 := Tryz.zeroValue3
  t4 := Tryz.underlying4
  a4 := Tryz.isAgg4
  z4 := Tryz.sizeOf4
  v4 := Tryz.zeroValue4
  t22 := Tryz.underlying34
  a22 := Tryz.isAgg34
  z22 := Tryz.sizeOf34
  v22 := Tryz.zeroValue34
  a23 := Tryz.isAgg3
  z23 := Tryz.sizeOf3
  t25 := Tryz.underlying90
  a25 := Tryz.isAgg90
  z25 := Tryz.sizeOf90
  v25 := Tryz.zeroValue90 }
open Go.RowKit Go.Lib Go.Sort in
theorem Tryz.slices_DeleteFunc {α : Type} [Inhabited α] (enc : α → Value) (hO : OneCell enc) (p : α → Bool) (g : Nat) (lb : Array Value) (eg : ∀ args w, (callFunc g args).run Tryz.prog w = .ok (.enter g args) w) (zr : α) (v23 : ∀ w, (zeroValue 3).run Tryz.prog w = .ok (enc zr) w) (blk off cap : Nat) (d : Array α) (w : World) (hp : PredAt Tryz.prog g lb enc p w) (hpo : PredOver Tryz.prog g lb enc p blk off d.size w) (hH : Holds enc w blk off d) (hsz : d.size ≤ 9223372036854775807) (hcap : d.size ≤ cap) :
    Calls Tryz.prog 44 #[.slice (some ⟨blk, off, none⟩) d.size cap, .func (.func g) #[] lb] w fun e w' => e = .returned (.slice (some ⟨blk, off, none⟩) (d.toList.filter fun x => !p x).length cap) ∧ ∃ q, w' = putRow enc (Sort.ahead w q) blk off ((d.toList.filter fun x => !p x) ++ List.replicate (d.size - (d.toList.filter fun x => !p x).length) zr).toArray := AnyE.slices_DeleteFunc Tryz.laysSlH10_f44 enc hO p g lb eg zr v23 blk off cap d w hp hpo hH hsz hcap
end Go.Proofs
namespace Go.Proofs.YtnjkinljpekohaaGreatDoor
open Go.RowKit Dsk Go.Lib Go.Sort
theorem clo_gives (x : Int) (B g : Nat) (a : Option Addr) (n c : Nat) (W : World) (h0 : W.cell? ⟨B, 0, none⟩ = some (.pointer (some ⟨g, 0, none⟩))) (h4 : W.cell? ⟨g, 4, none⟩ = some (.slice a n c)) :
    FnGives Tryz.prog 45 #[.pointer (some ⟨B, 0, none⟩)] #[.int .i64 x] (.bool (outB n x)) W := by
  show Calls Tryz.prog 45 #[.int .i64 x, .pointer (some ⟨B, 0, none⟩)] W _
  by_cases h1 : x < 0
  · rw [show outB n x = true by simp [outB, h1]]
    go_enter Tryz.func45, Tryz.ntmps45
    go_wp2_with fail
    go_ret
    exact ⟨rfl, 0, rfl⟩
  · by_cases h2 : (n : Int) ≤ x
    · rw [show outB n x = true by simp [outB, h2]]
      go_enter Tryz.func45, Tryz.ntmps45
      go_wp2_with fail
      go_ret
      exact ⟨rfl, 0, rfl⟩
    · rw [show outB n x = false by simp [outB, h1, h2]]
      go_enter Tryz.func45, Tryz.ntmps45
      go_wp2_with fail
      go_ret
      exact ⟨rfl, 0, rfl⟩
theorem clo_at (B g : Nat) (a : Option Addr) (n c : Nat) (w : World) (h0 : w.cell? ⟨B, 0, none⟩ = some (.pointer (some ⟨g, 0, none⟩))) (h4 : w.cell? ⟨g, 4, none⟩ = some (.slice a n c)) :
    PredAt Tryz.prog 45 #[.pointer (some ⟨B, 0, none⟩)] (Value.int .i64) (outB n) w :=
  fun W x hb => clo_gives x B g a n c W (cell_then hb h0) (cell_then hb h4)
theorem clo_over (B g : Nat) (a : Option Addr) (n c blk off size : Nat) (w : World) (h0 : w.cell? ⟨B, 0, none⟩ = some (.pointer (some ⟨g, 0, none⟩))) (h4 : w.cell? ⟨g, 4, none⟩ = some (.slice a n c)) (hB : B ≠ blk) (hg : g ≠ blk) :
    PredOver Tryz.prog 45 #[.pointer (some ⟨B, 0, none⟩)] (Value.int .i64) (outB n) blk off size w := by
  have lB := lt_size h0
  have lg := lt_size h4
  refine fun m os dk x _ => clo_gives x B g a n c _ ?_ ?_
  · unfold sortWorld
    rw [cell?_grow _ _ _ (by show B < (putRow _ _ _ _ _).heap.size; rw [size_putRow]; exact lB), cell?_putRow_other _ _ blk off _ _ (Or.inl hB)]
    exact h0
  · unfold sortWorld
    rw [cell?_grow _ _ _ (by show g < (putRow _ _ _ _ _).heap.size; rw [size_putRow]; exact lg), cell?_putRow_other _ _ blk off _ _ (Or.inl hg)]
    exact h4
end Go.Proofs.YtnjkinljpekohaaGreatDoor
namespace Go.Proofs.YtnjkinljpekohaaGreatDoor
open Go.RowKit Dsk Go.Lib Go.Sort
/-- a slice of the call's own, from a block on, with these integers -/
def OwnB (base : Nat) (zs : List Int) (w : World) (e : Ending) (w' : World) : Prop := ∃ v, e = .returned v ∧ w'.ownsRow base 3 1 v zs.length (ivs zs) ∧ Below base w w'
theorem nil_or {w : World} {base n : Nat} {t : TypeId} {v : Value} {zs : List Int} (h : w.ownsRow base t 1 v n (ivs zs)) : (v = .slice none 0 0 ∧ zs = []) ∨ v ≠ .slice none 0 0 := by
  rcases h.2 with ⟨h1, h2⟩ | ⟨g, cap, cur, rfl, _⟩
  · refine .inl ⟨h1, ?_⟩
    have := h.1
    rw [ivs_length, h2] at this
    exact List.eq_nil_of_length_eq_zero (by simpa using this)
  · exact .inr (by simp)
theorem own_grow {w : World} {base n : Nat} {t : TypeId} {v : Value} {xs : List Value} (os : Array Obj) (h : w.ownsRow base t 1 v n xs) : (grow w os).ownsRow base t 1 v n xs :=
  own_then h ⟨rfl, rfl, rfl, by show w.heap.size ≤ (w.heap ++ os).size; rw [Array.size_append]; omega, fun _ hj => Sort.heap_grow_old w os hj⟩
theorem below_grow {w0 w : World} {B : Nat} (os : Array Obj) (h : Below B w0 w) (hB : B ≤ w.heap.size) : Below B w0 (grow w os) :=
  h.trans ⟨rfl, rfl, rfl, by show w.heap.size ≤ (w.heap ++ os).size; rw [Array.size_append]; omega, fun _ hj => Sort.heap_grow_old w os (by omega)⟩
theorem sort_own (base : Nat) (v : Value) (zs : List Int) (w : World) (h : w.ownsRow base 3 1 v zs.length (ivs zs)) (hb : base ≤ w.heap.size) (hn : zs.length < 4611686018427387904) :
    Calls Tryz.prog 80 #[v] w fun e w' => e = .returned (.tuple #[]) ∧ w'.ownsRow base 3 1 v zs.length (ivs (sortI zs)) ∧ Below base w w' := by
  rcases nil_or h with ⟨rfl, rfl⟩ | hne
  · exact (Tryz.slices_Sort_int_none none 0 w).mono fun e w' ⟨he, hw⟩ => ⟨he, by subst hw; rw [show sortI [] = [] by simp [sortI]]; exact World.ownsRow_nil _ _ _ _, by subst hw; exact Below.refl _ _⟩
  · obtain ⟨g, cap, rfl, h1, h2, h3, h4, h5, h6⟩ := holds_of_ownsRow (enc := Value.int .i64) h hne
    refine (Tryz.slices_Sort_int g 0 cap zs w h6 h2 hn).mono fun e w' ⟨he, n, os, hw⟩ => ⟨he, ?_, ?_⟩
    · subst hw
      have := ownsRow_putRow (enc := Value.int .i64) (q := n) (ys := sortI zs) h (sortI_length zs) (Nat.le_refl _)
      rw [List.take_of_length_le (by rw [sortI_length]; exact Nat.le_refl _)] at this
      exact own_grow os this
    · subst hw
      exact below_grow os (below_putRow (Below.refl _ _) h1) (by rw [size_putRow]; exact hb)
theorem sorted_any (Bs : Nat) (A : Option Addr) (cap : Nat) (zs : List Int) (w : World) (hA : IntsAt w A zs) (hb : w.cell? ⟨Bs, 0, none⟩ = some (.slice A zs.length cap)) (hn : zs.length ≤ 17592186044416) :
    Calls Tryz.prog 42 #[.func (.func 81) #[] #[.pointer (some ⟨Bs, 0, none⟩)]] w (OwnB w.heap.size (sortI zs) w) := by
  have HA := Lib.hid hA
  have Hb := Lib.hid hb
  clear hA hb
  go_enter Tryz.func42, Tryz.ntmps42
  go_wp2_with (first | (go_at_call 79; refine (collect_any Bs A cap zs _ HA.out Hb.out hn).mono ?_; rintro e w1 ⟨v, rfl, ho, hb⟩; have HO := Lib.hid ho; clear ho) | (go_at_call 80; refine (sort_own w.heap.size v zs _ HO.out hb.size (by omega)).mono ?_; rintro e w2 ⟨rfl, ho2, hb2⟩; have HO2 := Lib.hid ho2; clear ho2))
  go_ret
  exact ⟨_, rfl, by rw [sortI_length]; exact HO2.out, hb.trans hb2⟩
theorem compact_le (zs : List Int) : (compact zs).length ≤ zs.length := by
  unfold compact compactUpTo
  rw [List.length_map]
  have := List.length_filter_le (keeps zs.toArray) (List.range zs.length)
  simpa using this
theorem compact_own (base : Nat) (v : Value) (zs : List Int) (w : World) (h : w.ownsRow base 3 1 v zs.length (ivs zs)) (hn : zs.length < 4611686018427387904) :
    Calls Tryz.prog 41 #[v] w (OwnB base (compact zs) w) := by
  rcases nil_or h with ⟨rfl, rfl⟩ | hne
  · exact (Tryz.slices_Compact_int_empty none 0 w).mono fun e w' ⟨he, hw⟩ => ⟨_, he, by subst hw; exact World.ownsRow_nil _ _ _ _, by subst hw; exact Below.refl _ _⟩
  · obtain ⟨g, cap, rfl, h1, h2, h3, h4, h5, h6⟩ := holds_of_ownsRow (enc := Value.int .i64) h hne
    have hl := compact_le zs
    refine (Tryz.slices_Compact_int g 0 cap zs w h6 (by omega) h3).mono fun e w' ⟨he, q, hw⟩ => ⟨_, he, ?_, ?_⟩
    · subst hw
      have := ownsRow_putRow (enc := Value.int .i64) (q := q) (k := (compact zs).length) (ys := compact zs ++ List.replicate (zs.length - (compact zs).length) 0) h (by simp; omega) hl
      rw [List.take_left] at this
      exact this
    · subst hw
      exact below_putRow (Below.refl _ _) h1
theorem delete_own (base B g : Nat) (a : Option Addr) (n c : Nat) (v : Value) (zs : List Int) (w : World) (h : w.ownsRow base 3 1 v zs.length (ivs zs)) (hn : zs.length < 4611686018427387904)
    (h0 : w.cell? ⟨B, 0, none⟩ = some (.pointer (some ⟨g, 0, none⟩))) (h4 : w.cell? ⟨g, 4, none⟩ = some (.slice a n c)) (hB : B < base) (hg : g < base) :
    Calls Tryz.prog 44 #[v, .func (.func 45) #[] #[.pointer (some ⟨B, 0, none⟩)]] w (OwnB base (zs.filter fun x => !outB n x) w) := by
  have eg : ∀ args w, (callFunc 45 args).run Tryz.prog w = .ok (.enter 45 args) w := enters_of Tryz.func45 (by kernel_rfl) rfl
  rcases nil_or h with ⟨rfl, rfl⟩ | hne
  · clear h h0 h4 eg
    go_enter Tryz.func44, Tryz.ntmps44
    go_wp2_with (go_at_call 82; refine (Tryz.slices_IndexFunc_empty_f82 (α := Int) none 0 _ _).mono ?_; rintro e w1 ⟨rfl, rfl⟩)
    go_ret
    exact ⟨_, rfl, World.ownsRow_nil _ _ _ _, Below.refl _ _⟩
  · obtain ⟨g', cap, rfl, h1, h2, h3, h4', h5, h6⟩ := holds_of_ownsRow (enc := Value.int .i64) h hne
    have hl := List.length_filter_le (fun x => !outB n x) zs
    refine (Tryz.slices_DeleteFunc (Value.int .i64) (fun _ => rfl) (outB n) 45 #[.pointer (some ⟨B, 0, none⟩)] eg 0 Tryz.zeroValue3 g' 0 cap zs.toArray w (clo_at B g a n c w h0 h4) (clo_over B g a n c g' 0 _ w h0 h4 (by omega) (by omega)) h6 (by simp; omega) (by simpa using h3)).mono fun e w' ⟨he, q, hw⟩ => ⟨_, he, ?_, ?_⟩
    · subst hw
      have := ownsRow_putRow (enc := Value.int .i64) (q := q) (k := (zs.filter fun x => !outB n x).length) (ys := (zs.filter fun x => !outB n x) ++ List.replicate (zs.length - (zs.filter fun x => !outB n x).length) 0) h (by simp; omega) hl
      rw [List.take_left] at this
      exact this
    · subst hw
      exact below_putRow (Below.refl _ _) h1
end Go.Proofs.YtnjkinljpekohaaGreatDoor
namespace Go.Proofs.YtnjkinljpekohaaGreatDoor
open Go.RowKit Dsk Go.Lib
theorem crash_nil (A : Option Addr) (n c : Nat) (t : Int) (w : World) : Calls Tryz.prog 14 #[.pointer none, .slice A n c, .int .i64 t] w fun e w' => e = .returned (.int .i64 1) ∧ Below w.heap.size w w' := by
  go_enter Tryz.func14, Tryz.ntmps14
  go_wp2_with fail
  go_ret
  exact ⟨rfl, below_alloc (Below.refl _ _) _⟩
theorem own_ints {w : World} {base n : Nat} {e : TypeId} {v : Value} {L : List Int} (h : w.ownsRow base e 1 v n (ivs L)) : ∃ O c, v = .slice O n c ∧ IntsAt w O L ∧ L.length = n ∧ ∀ a, O = some a → base ≤ a.block := by
  have hl : L.length = n := by have := h.1; rw [ivs_length] at this; simpa using this
  rcases h.2 with ⟨h1, h2⟩ | ⟨g, cap, cur, rfl, h1, _⟩
  · obtain rfl : L = [] := List.eq_nil_of_length_eq_zero (by omega)
    exact ⟨none, 0, by rw [h1, h2], fun i hi => absurd hi (by simp), hl, fun a h => by cases h⟩
  · exact ⟨_, _, rfl, ints_of_own h, hl, fun a ha => by injection ha with ha; subst ha; exact h1⟩
set_option maxRecDepth 100000 in
set_option maxHeartbeats 2000000 in
theorem crash_any (g : Nat) (F : List Nat) (D : Dk) (A : Option Addr) (cap : Nat) (keep : List Int) (t : Int) (w : World) (h : DiskAt w g F D) (hA : IntsAt w A keep) (hn : keep.length ≤ 17592186044416) (ht : t ≤ 9223372036854775807) (hpl : D.pend.length ≤ 1000000) :
    Calls Tryz.prog 14 #[.pointer (some ⟨g, 0, none⟩), .slice A keep.length cap, .int .i64 t] w (TurnQ g F (cr D keep t) (.int .i64 0) w) := by
  have HD := Lib.hid h
  obtain ⟨gd, gv, pv, rfl, h1, h2, hg, hs, hv, hp, hk⟩ := h
  have hm := hk.max
  have lg := hlt hg
  have HG := Lib.hid hg
  have HS := Lib.hid hs
  have HV := Lib.hid hv
  have HP := Lib.hid hp
  have HK := Lib.hid hk
  have H1 := Lib.hid h1
  have H2 := Lib.hid h2
  have HA := Lib.hid hA
  obtain ⟨pa, pc, hpv⟩ := pend_len hp
  have HPV := Lib.hid hpv
  clear hg hs hv hp hk h1 h2 hA hpv
  go_enter Tryz.func14, Tryz.ntmps14
  go_wp2_with fail
  obtain ⟨W0, hW0⟩ : ∃ W, w.alloc (.cells #[.pointer (some ⟨g, 0, none⟩)] 24) = W := ⟨_, rfl⟩
  have b0 : W0.cell? ⟨w.heap.size, 0, none⟩ = some (.pointer (some ⟨g, 0, none⟩)) := by rw [← hW0]; exact new_cell rfl
  have B0 : Below w.heap.size w W0 := by rw [← hW0]; exact below_alloc (Below.refl _ _) _
  have z0 : w.heap.size < W0.heap.size := by rw [← hW0]; simp
  rw [hW0]
  clear hW0
  have Hb0 := Lib.hid b0
  clear b0
  refine (values_any A keep.length cap _).mono ?_
  rintro e w1 ⟨rfl, rfl⟩
  go_wp2_with fail
  obtain ⟨W1, hW1⟩ : ∃ W, W0.alloc (.cells #[.slice A keep.length cap] 34) = W := ⟨_, rfl⟩
  have b1 : W1.cell? ⟨W0.heap.size, 0, none⟩ = some (.slice A keep.length cap) := by rw [← hW1]; exact new_cell rfl
  have B1' : Below W0.heap.size W0 W1 := by rw [← hW1]; exact below_alloc (Below.refl _ _) _
  rw [hW1]
  clear hW1
  have B1 := below_next B0 B1'
  have z1 : w.heap.size < W1.heap.size := Nat.lt_of_lt_of_le z0 B1'.size
  have Hb1 := Lib.hid (cell_then B1' Hb0.out)
  refine (sorted_any W0.heap.size A cap keep W1 (HA.out.then_ B1) b1 hn).mono ?_
  rintro e w2 ⟨v2, rfl, ho2, B2⟩
  have HO2 := Lib.hid ho2
  clear ho2 b1
  have ls := sortI_length keep
  go_wp2_with fail
  refine (compact_own W1.heap.size v2 (sortI keep) w2 HO2.out (by omega)).mono ?_
  rintro e w3 ⟨v3, rfl, ho3, B3⟩
  have HO3 := Lib.hid ho3
  clear ho3
  have lc := compact_le (sortI keep)
  have B13 := B2.trans B3
  have K3 : Kept [] w w3 := (Kept.of_below B1).trans (Kept.of_below (B13.mono (Nat.le_refl _))) (New.refl _ _)
  have c4 := (cells5 (K3.heap HG.out (fun h => by cases h))).2.2.2.2
  rw [HPV.out] at c4
  have Hc4 := Lib.hid c4
  have Hb3 := Lib.hid (cell_then B13 Hb1.out)
  clear c4
  go_wp2_with fail
  refine (delete_own W1.heap.size w.heap.size g pa D.pend.length pc v3 (compact (sortI keep)) w3 HO3.out (by omega) Hb3.out Hc4.out z1 (by omega)).mono ?_
  rintro e w4 ⟨v4, rfl, ho4, B4⟩
  obtain ⟨O, oc, rfl, hI, -, hO⟩ := own_ints ho4
  rw [← ordL, ordL_eq] at hI ⊢
  obtain ⟨I, hIe⟩ : ∃ I, keptI D.pend.length keep = I := ⟨_, rfl⟩
  rw [hIe] at hI ⊢
  rw [List.length_map] at *
  have lI := keptI_length D.pend.length keep
  rw [hIe] at lI
  have HI := Lib.hid hI
  have HIE := Lib.hid hIe
  have K4 : Kept [] w w4 := (Kept.of_below B1).trans (Kept.of_below (B13.trans B4)) (New.refl _ _)
  have Hb4 := Lib.hid (cell_then (B13.trans B4) Hb1.out)
  clear ho4 hI hIe
  go_wp2_with fail
  have Sl := surv_length D keep t
  have HSl := Lib.hid Sl
  rw [HIE.out] at HSl
  have Sf := Lib.hid (fit_surv HK.out keep t)
  have Sg := Lib.hid (fun k i (hk : k < I.length) (hi : I.getD k 0 = i) => by
    have := surv_get (D := D) (keep := keep) (t := t) (k := k) (i := i) (by rw [HIE.out]; exact hk) (by rw [HIE.out]; exact hi)
    rw [HIE.out] at this
    exact this)
  obtain ⟨S, hS⟩ : ∃ S, surv D keep t = S := ⟨_, rfl⟩
  rw [hS] at HSl Sf Sg
  have HS2 := Lib.hid hS
  clear Sl hS
  have Gl := Lib.hid (fun i (hi : i < I.length) => (by
    have h := keptI_lt (n := D.pend.length) (zs := keep) (i := I.getD i 0)
    rw [HIE.out] at h
    exact h (by rw [List.getD, List.getElem?_eq_getElem hi]; exact List.getElem_mem hi) : I.getD i 0 < D.pend.length))
  have w4l : W1.heap.size ≤ w4.heap.size := (B13.trans B4).size
  have hgd := Lib.hid (hlt HS.out)
  clear ls lc B0 B1 B1' B2 B3 B4 B13 K3
  go_loopw [22] (fun i wr => ∃ k : Nat, k ≤ I.length ∧ i = .int .i64 (k : Int) ∧ RowB 5 wr gd (overs D.sure (S.take k)) ∧ Kept [gd] w4 wr) (fun i _ => I.length - (intOf i).toNat)
  case atStart => exact ⟨0, by omega, rfl, by rw [List.take_zero]; exact HS.out.kept K4 (fun h => by cases h), Kept.refl _ _⟩
  case round =>
    obtain ⟨k, hk, rfl, hrow, hK⟩ := hrel
    have HR := Lib.hid hrow
    clear hrow
    have G5 := hK.heap (K4.heap HG.out (fun h => by cases h)) (by simpa using H1.out.1)
    have bC := hK.cell Hb4.out (by have := hgd.out; simp; omega)
    by_cases hlt : k < I.length
    · obtain ⟨i, hi⟩ : ∃ i, I.getD k 0 = i := ⟨_, rfl⟩
      have hin := Gl.out k hlt
      rw [hi] at hin
      have hsk := Sg.out k i hlt hi
      obtain ⟨b, o, rfl, oC⟩ := HI.out k (by simpa using hlt)
      have hbo : W1.heap.size ≤ b := hO _ rfl
      replace oC := hK.cell oC (by have := hgd.out; simp; omega)
      rw [show (I.map fun i : Nat => (i : Int)).getD k 0 = (i : Int) by rw [List.getD, List.getElem?_map, List.getElem?_eq_getElem hlt]; rw [List.getD, List.getElem?_eq_getElem hlt] at hi; simp only [Option.getD_some] at hi; simp [hi]] at oC
      obtain ⟨gp, pcp, hpf, -, hgp⟩ := HP.out.form (by omega)
      have c4 := (cells5 G5).2.2.2.2
      rw [hpf] at c4
      have hP := HP.out
      rw [hpf] at hP
      have pO := hK.own (K4.own hP (fun _ _ h => by cases h)) (fun k hk => by
        obtain rfl : gp = k := by simpa [Value.ownBlock] using hk
        have := (H2.out gp (by rw [hpf]; rfl)).2.1
        simpa using this)
      have e0 := pO.cellAt (i * 2) (by omega)
      have e1 := pO.cellAt (i * 2 + 1) (by omega)
      rw [(pcs_get hin).1] at e0
      rw [(pcs_get hin).2] at e1
      obtain ⟨p, hp⟩ : ∃ p, D.pend.getD i (0, ByteArray.empty) = p := ⟨_, rfl⟩
      rw [hp] at e0 e1 hsk
      have c2 := (cells5 G5).2.2.1
      have HSK := Lib.hid hsk
      have HP2 := Lib.hid hpf
      have i1 : (0 : Int) ≤ (k : Int) := by omega
      have i2 : (k : Int) < (I.length : Int) := by omega
      have i3 : (0 : Int) ≤ (i : Int) := by omega
      have i4 : (i : Int) < (D.pend.length : Int) := by omega
      have lI2 : (I.length : Int) ≤ 1000000 := by omega
      have l1 := lt_size e0
      have l2 := lt_size bC
      have l3 := lt_size oC
      have l4 := lt_size c4
      have HG5 := Lib.hid G5
      clear G5 hi hp hpf hP pO hsk
      obtain ⟨s', hq, hc⟩ : ∃ s', S.getD k (0, ByteArray.empty) = (p.1, s') ∧ ((k + 1 = I.length ∧ 0 ≤ t ∧ p.2.extract 0 (min t (p.2.size : Int)).toNat = s') ∨ (k + 1 = I.length ∧ t < 0 ∧ p.2 = s') ∨ (k + 1 ≠ I.length ∧ p.2 = s')) := by
        by_cases h1 : k + 1 = I.length
        · by_cases h2 : 0 ≤ t
          · refine ⟨_, ?_, .inl ⟨h1, h2, rfl⟩⟩
            rw [HSK.out, if_pos h1, torn, if_pos h2]
            congr 2
            omega
          · refine ⟨_, ?_, .inr (.inl ⟨h1, by omega, rfl⟩)⟩
            rw [HSK.out, if_pos h1, torn, if_neg h2]
        · exact ⟨_, by rw [HSK.out, if_neg h1], .inr (.inr ⟨h1, rfl⟩)⟩
      have hfit : p.1 + s'.size ≤ D.sure.length := by
        have := Sf.out (p.1, s') (by rw [← hq, List.getD, List.getElem?_eq_getElem (by rw [HSl.out]; exact hlt)]; exact List.getElem_mem _)
        exact this
      have Hq := Lib.hid hq
      clear hq
      rcases hc with ⟨q1, q2, q3⟩ | ⟨q1, q2, q3⟩ | ⟨q1, q3⟩
      · have j1 : ((k : Int) == (I.length : Int) - 1) = true := by rw [beq_iff_eq]; omega
        have Q3 := Lib.hid q3
        clear q1 q3
        go_wp2_with fail
        rw [Q3.out]
        have x0 : (wr.alloc (.cells #[.int .i64 (p.1 : Int), .string s'] 92)).cell? ⟨wr.heap.size, 0, none⟩ = some (.int .i64 (p.1 : Int)) := new_cell rfl
        have x1 : (wr.alloc (.cells #[.int .i64 (p.1 : Int), .string s'] 92)).cell? ⟨wr.heap.size, 1, none⟩ = some (.string s') := new_cell rfl
        have K5 : Kept [] wr (wr.alloc (.cells #[.int .i64 (p.1 : Int), .string s'] 92)) := (Kept.refl _ _).alloc _
        have bC2 := K5.cell bC (fun h => by cases h)
        have d2 := K5.cell c2 (fun h => by cases h)
        obtain ⟨W5, hW5⟩ : ∃ W, wr.alloc (.cells #[.int .i64 (p.1 : Int), .string s'] 92) = W := ⟨_, rfl⟩
        rw [hW5] at x0 x1 K5 bC2 d2 ⊢
        clear hW5
        have m1 := lt_size x0
        have m2 := lt_size bC2
        have m3 := lt_size d2
        have g_x0 := fun D os => cell_regrown x0 D os
        have g_x1 := fun D os => cell_regrown x1 D os
        have g_bC := fun D os => cell_regrown bC2 D os
        have g_d2 := fun D os => cell_regrown d2 D os
        refine wp_region_head 5 (by kernel_rfl) (by kernel_rfl) ?_
        simp only [List.take_succ_cons, List.take_zero, List.drop_succ_cons, List.drop_zero]
        repeat (go_big_quiet_step (fail))
        refine wpQuiet_nil ?_
        intro wq hq
        clear g_x0 g_x1 g_bC g_d2 x0 x1 bC2 d2
        have k6 := K5.trans (Kept.of_below hq) (New.refl _ _)
        go_wp2_with (go_at_call 46; refine (onto_any p.1 s' gd D.sure.length (overs D.sure (S.take k)) wq (RowB.kept HR.out k6 (fun h => by cases h)) (overs_length (fit_take Sf.out k)) hfit hm).mono ?_; rintro e w7 ⟨rfl, r1, k7⟩; have R1 := Lib.hid r1; clear r1)
        refine ⟨⟨k + 1, by omega, by go_num, ?_, (hK.trans (k6.mono (fun _ h => by cases h)) (New.refl _ _)).trans k7 (New.refl _ _)⟩, by simp [intOf]; omega⟩
        rw [overs_take (by rw [HSl.out]; exact hlt), Hq.out]
        exact R1.out
      · have j1 : ((k : Int) == (I.length : Int) - 1) = true := by rw [beq_iff_eq]; omega
        have q2' : ¬ 0 ≤ t := by omega
        have Q3 := Lib.hid q3
        clear q1 q3
        go_wp2_with fail
        rw [Q3.out]
        have x0 : (wr.alloc (.cells #[.int .i64 (p.1 : Int), .string s'] 92)).cell? ⟨wr.heap.size, 0, none⟩ = some (.int .i64 (p.1 : Int)) := new_cell rfl
        have x1 : (wr.alloc (.cells #[.int .i64 (p.1 : Int), .string s'] 92)).cell? ⟨wr.heap.size, 1, none⟩ = some (.string s') := new_cell rfl
        have K5 : Kept [] wr (wr.alloc (.cells #[.int .i64 (p.1 : Int), .string s'] 92)) := (Kept.refl _ _).alloc _
        have bC2 := K5.cell bC (fun h => by cases h)
        have d2 := K5.cell c2 (fun h => by cases h)
        obtain ⟨W5, hW5⟩ : ∃ W, wr.alloc (.cells #[.int .i64 (p.1 : Int), .string s'] 92) = W := ⟨_, rfl⟩
        rw [hW5] at x0 x1 K5 bC2 d2 ⊢
        clear hW5
        have m1 := lt_size x0
        have m2 := lt_size bC2
        have m3 := lt_size d2
        have g_x0 := fun D os => cell_regrown x0 D os
        have g_x1 := fun D os => cell_regrown x1 D os
        have g_bC := fun D os => cell_regrown bC2 D os
        have g_d2 := fun D os => cell_regrown d2 D os
        refine wp_region_head 5 (by kernel_rfl) (by kernel_rfl) ?_
        simp only [List.take_succ_cons, List.take_zero, List.drop_succ_cons, List.drop_zero]
        repeat (go_big_quiet_step (fail))
        refine wpQuiet_nil ?_
        intro wq hq
        clear g_x0 g_x1 g_bC g_d2 x0 x1 bC2 d2
        have k6 := K5.trans (Kept.of_below hq) (New.refl _ _)
        go_wp2_with (go_at_call 46; refine (onto_any p.1 s' gd D.sure.length (overs D.sure (S.take k)) wq (RowB.kept HR.out k6 (fun h => by cases h)) (overs_length (fit_take Sf.out k)) hfit hm).mono ?_; rintro e w7 ⟨rfl, r1, k7⟩; have R1 := Lib.hid r1; clear r1)
        refine ⟨⟨k + 1, by omega, by go_num, ?_, (hK.trans (k6.mono (fun _ h => by cases h)) (New.refl _ _)).trans k7 (New.refl _ _)⟩, by simp [intOf]; omega⟩
        rw [overs_take (by rw [HSl.out]; exact hlt), Hq.out]
        exact R1.out
      · have j1 : ((k : Int) == (I.length : Int) - 1) = false := by rw [beq_eq_false_iff_ne]; omega
        have Q3 := Lib.hid q3
        clear q1 q3
        go_wp2_with fail
        rw [Q3.out]
        have x0 : (wr.alloc (.cells #[.int .i64 (p.1 : Int), .string s'] 92)).cell? ⟨wr.heap.size, 0, none⟩ = some (.int .i64 (p.1 : Int)) := new_cell rfl
        have x1 : (wr.alloc (.cells #[.int .i64 (p.1 : Int), .string s'] 92)).cell? ⟨wr.heap.size, 1, none⟩ = some (.string s') := new_cell rfl
        have K5 : Kept [] wr (wr.alloc (.cells #[.int .i64 (p.1 : Int), .string s'] 92)) := (Kept.refl _ _).alloc _
        have bC2 := K5.cell bC (fun h => by cases h)
        have d2 := K5.cell c2 (fun h => by cases h)
        obtain ⟨W5, hW5⟩ : ∃ W, wr.alloc (.cells #[.int .i64 (p.1 : Int), .string s'] 92) = W := ⟨_, rfl⟩
        rw [hW5] at x0 x1 K5 bC2 d2 ⊢
        clear hW5
        have m1 := lt_size x0
        have m2 := lt_size bC2
        have m3 := lt_size d2
        have g_x0 := fun D os => cell_regrown x0 D os
        have g_x1 := fun D os => cell_regrown x1 D os
        have g_bC := fun D os => cell_regrown bC2 D os
        have g_d2 := fun D os => cell_regrown d2 D os
        refine wp_region_head 5 (by kernel_rfl) (by kernel_rfl) ?_
        simp only [List.take_succ_cons, List.take_zero, List.drop_succ_cons, List.drop_zero]
        repeat (go_big_quiet_step (fail))
        refine wpQuiet_nil ?_
        intro wq hq
        clear g_x0 g_x1 g_bC g_d2 x0 x1 bC2 d2
        have k6 := K5.trans (Kept.of_below hq) (New.refl _ _)
        go_wp2_with (go_at_call 46; refine (onto_any p.1 s' gd D.sure.length (overs D.sure (S.take k)) wq (RowB.kept HR.out k6 (fun h => by cases h)) (overs_length (fit_take Sf.out k)) hfit hm).mono ?_; rintro e w7 ⟨rfl, r1, k7⟩; have R1 := Lib.hid r1; clear r1)
        refine ⟨⟨k + 1, by omega, by go_num, ?_, (hK.trans (k6.mono (fun _ h => by cases h)) (New.refl _ _)).trans k7 (New.refl _ _)⟩, by simp [intOf]; omega⟩
        rw [overs_take (by rw [HSl.out]; exact hlt), Hq.out]
        exact R1.out
    · obtain rfl : k = I.length := by omega
      have c2 := (cells5 G5).2.2.1
      have c3 := (cells5 G5).2.2.2.1
      have HG5 := Lib.hid G5
      have l1 := lt_size c2
      have l2 := lt_size bC
      clear G5 hlt
      go_wp2_with fail
      have g_bC := fun D os => cell_regrown bC D os
      have g_c2 := fun D os => cell_regrown c2 D os
      have g_c3 := fun D os => cell_regrown c3 D os
      refine wp_region_head 9 (by kernel_rfl) (by kernel_rfl) ?_
      simp only [List.take_succ_cons, List.take_zero, List.drop_succ_cons, List.drop_zero]
      repeat (go_big_quiet_step (fail))
      refine wpQuiet_nil ?_
      intro wq hq
      clear g_bC g_c2 g_c3 bC c2 c3
      have k6 := Kept.of_below hq
      have hk6 : ∀ x : Nat, x ∉ ([] : List Nat) := fun _ h => by cases h
      have ho : wq.ownsRow 0 92 2 pv D.pend.length (pcs D.pend) := k6.own (hK.own (K4.own HP.out (fun _ _ => hk6 _)) (fun k hk => by simpa using (H2.out k hk).2.1)) (fun _ _ => hk6 _)
      have hv6 : RowB 5 wq gv D.vis := ((HV.out.kept K4 (hk6 _)).kept hK (by simpa using fun e => H1.out.2.2 e.symm)).kept k6 (hk6 _)
      have hs6 : RowB 5 wq gd (overs D.sure S) := by
        have := RowB.kept HR.out k6 (hk6 _)
        rwa [List.take_of_length_le (by rw [HSl.out]; exact Nat.le_refl _)] at this
      have hlo : (overs D.sure S).length = D.sure.length := overs_length Sf.out
      have Ho := Lib.hid ho
      have Hv6 := Lib.hid hv6
      have Hs6 := Lib.hid hs6
      have Hlo := Lib.hid hlo
      have HGq := Lib.hid (k6.heap HG5.out (hk6 _))
      clear ho hv6 hs6 hlo
      go_wp2_with (go_at_call 47; refine (settle_any g gd gv D.sure.length (overs D.sure S) D.vis _ _ _ _ pv D.pend.length _ wq HGq.out Hs6.out Hv6.out Hlo.out HK.out.len Ho.out H1.out.2.1 (fun k hk => ⟨(H2.out k hk).1, (H2.out k hk).2.2⟩)).mono ?_; rintro e w7 ⟨rfl, r1, r2, r3, r4⟩; have R2 := Lib.hid r2; have f0 := frozen_of_row w7 g 0 _ _ r2; have f1 := frozen_of_row w7 g 1 _ _ r2; have y0 := (cells5 r2).1; have y1 := (cells5 r2).2.1; have z7 : w7.cell? ⟨w.heap.size, 0, none⟩ = some (.pointer (some ⟨g, 0, none⟩)) := r4.cell (k6.cell (hK.cell Hb4.out (by have := hgd.out; simp; omega)) (hk6 _)) (by have := hgd.out; simp; exact ⟨by omega, by have := hlt HV.out; omega, fun h => by have := (HP.out.lt _ h).2; omega⟩); clear r2)
      go_ret
      have e1 : cr D keep t = { off := false, left := 0, sure := overs D.sure S, vis := overs D.sure S, pend := [] } := by rw [cr, HS2.out]
      have hok := ok_cr HK.out keep t
      rw [e1] at hok ⊢
      have hgd1 := H1.out.1
      have hgv1 := H1.out.2.1
      have hdv1 := H1.out.2.2
      have K8 : Kept [g] w7 ((w7.setCell ⟨g, 0, none⟩ (.bool false)).setCell ⟨g, 1, none⟩ (.int .i64 0)) := ((Kept.refl _ _).setCell (.inl (by simp)) _).setCell (.inl (by simp)) _
      have q0 := heap_setCell_same w7 g 0 _ _ (.bool false) R2.out
      have q1 := heap_setCell_same _ g 1 _ _ (.int .i64 0) q0
      have rd : RowB 5 w7 gd (overs D.sure S) := Hs6.out.kept r4 (by
        simp only [List.mem_cons, not_or]
        exact ⟨fun e => hgd1 e.symm, hdv1, fun h => (H2.out gd (own_mem h)).2.1 rfl⟩)
      refine ⟨_, rfl, settled H1.out H2.out (D := D) (rd.kept K8 (by simpa using fun e => hgd1 e.symm)) (RowB.kept r1 K8 (by simpa using fun e => hgv1 e.symm)) (by simpa using q1) (K8.own r3 (fun k hk => by rw [cut0_own] at hk; simpa using (H2.out k hk).1)) Hlo.out hok, ?_, New.refl _ _⟩
      refine ((((K4.mono (fun _ h => by cases h)).trans (hK.mono fun k h => ?_) (New.refl _ _)).trans (k6.mono (fun _ h => by cases h)) (New.refl _ _)).trans (r4.mono fun k h => ?_) (New.refl _ _)).trans (K8.mono fun k h => ?_) (New.refl _ _)
      · simp only [List.mem_singleton] at h; simp [h]
      · simp only [List.mem_cons] at h ⊢
        rcases h with h | h | h
        · exact .inl h
        · exact .inr (.inr (.inl h))
        · exact .inr (.inr (.inr h))
      · simp only [List.mem_singleton] at h; simp [h]
end Go.Proofs.YtnjkinljpekohaaGreatDoor
