/- Contracts of the library, proved over any program, at this program: no walk, each one application. Written by the tools lay-shelf.mjs and lay-plain.mjs; remarks struck. Package journal: Open. -/
import Derived.Shelf.Strings.Builder1
import Derived.Shelf.Strings.Builder2
import Derived.Shelf.Strings.OnBuilder
import Derived.Shelf.Strings.Trim
import Derived.Shelf.Small.Utf8
import Derived.Shelf.Small.Bits
import Derived.Shelf.Small.Strs
import Derived.Shelf.Small.Wraps
import Derived.Shelf.Strings.BuilderF
import Derived.Shelf.Strings.BuilderK
import Derived.Shelf.Strings.Builder2Cap
import Derived.Shelf.Strconv.Itoa0
import Derived.Shelf.Strings.Search1
import Derived.Shelf.Unicode.Decode
import Derived.Shelf.Strings.Runes
import Derived.Shelf.Strings.AsciiSet
import Derived.Shelf.Unicode.DecodeSlow
import Derived.Shelf.Unicode.DecodeAny
import Derived.Shelf.Unicode.DecodeLast
import Derived.Shelf.Strings.BuilderCap
import Derived.Ground.Names2Prog
import Derived.Shelf.Slices.Clone
import Derived.Shelf.Slices.CompactI
import Derived.Shelf.Slices.SearchI
import Derived.Shelf.Slices.Cells
import Derived.Ground.SlgnProg
import Derived.Shelf.SlicesE.Compact
import Derived.Shelf.SlicesE.Clone
import Derived.Ground.SlgfProg
import Derived.Shelf.SlicesE.IndexFunc
import Derived.Shelf.SlicesE.DeleteFunc
import Derived.Test.YtnjkinljpekohaaGreatDoorProg
import Derived.Test.YtnjkinljpekohaaGreatDoorBh
import Derived.Deep.RegionHeldLaw
import Derived.IntWalk
namespace Go.Proofs
open Go.Shelf
def Tryz.lays160_ren : Go.Shelf.Ren := ⟨fun | 160 => 36 | 232 => 72 | 231 => 71 | 227 => 73 | 234 => 75 | 233 => 74 | 236 => 77 | 235 => 76 | 228 => 98 | 271 => 101 | 151 => 100 | 197 => 99 | 120 => 112 | 152 => 111 | 260 => 110 | 137 => 128 | 119 => 129 | 224 => 130 | 225 => 131 | 217 => 143 | 266 => 149 | n => n, fun | 9 => 9 | 4 => 4 | 3 => 3 | 5 => 5 | 117 => 129 | 116 => 128 | 0 => 0 | 124 => 132 | 21 => 21 | 105 => 154 | 46 => 122 | 119 => 192 | 139 => 195 | 138 => 194 | n => n, fun | 3 => 1 | 4 => 2 | n => n⟩
theorem Tryz.lays160 : Go.Proofs.Lays.n160 Tryz.prog Tryz.lays160_ren := {
  mixed := by kernel_rfl
  f119 := Tryz.func129.trans (congrArg some (by kernel_rfl))
  f120 := Tryz.func112.trans (congrArg some (by kernel_rfl))
  f137 := Tryz.func128.trans (congrArg some (by kernel_rfl))
  f151 := Tryz.func100.trans (congrArg some (by kernel_rfl))
  f152 := Tryz.func111.trans (congrArg some (by kernel_rfl))
  f160 := Tryz.func36.trans (congrArg some (by kernel_rfl))
  f197 := Tryz.func99.trans (congrArg some (by kernel_rfl))
  f217 := Tryz.func143.trans (congrArg some (by kernel_rfl))
  f224 := Tryz.func130.trans (congrArg some (by kernel_rfl))
  f225 := Tryz.func131.trans (congrArg some (by kernel_rfl))
  f227 := Tryz.func73.trans (congrArg some (by kernel_rfl))
  f228 := Tryz.func98.trans (congrArg some (by kernel_rfl))
  f231 := Tryz.func71.trans (congrArg some (by kernel_rfl))
  f232 := Tryz.func72.trans (congrArg some (by kernel_rfl))
  f233 := Tryz.func74.trans (congrArg some (by kernel_rfl))
  f234 := Tryz.func75.trans (congrArg some (by kernel_rfl))
  f235 := Tryz.func76.trans (congrArg some (by kernel_rfl))
  f236 := Tryz.func77.trans (congrArg some (by kernel_rfl))
  f260 := Tryz.func110.trans (congrArg some (by kernel_rfl))
  f266 := Tryz.func149.trans (congrArg some (by kernel_rfl))
  f271 := Tryz.func101.trans (congrArg some (by kernel_rfl))
  t0 := Tryz.underlying0
  a0 := Tryz.isAgg0
  z0 := Tryz.sizeOf0
  v0 := Tryz.zeroValue0
  t3 := Tryz.underlying3
  a3 := Tryz.isAgg3
  z3 := Tryz.sizeOf3
  v3 := Tryz.zeroValue3
  t4 := Tryz.underlying4
  a4 := Tryz.isAgg4
  z4 := Tryz.sizeOf4
  v4 := Tryz.zeroValue4
  t5 := Tryz.underlying5
  a5 := Tryz.isAgg5
  z5 := Tryz.sizeOf5
  v5 := Tryz.zeroValue5
  t9 := Tryz.underlying9
  a9 := Tryz.isAgg9
  z9 := Tryz.sizeOf9
  v9 := Tryz.zeroValue9
  t21 := Tryz.underlying21
  a21 := Tryz.isAgg21
  z21 := Tryz.sizeOf21
  v21 := Tryz.zeroValue21
  t46 := Tryz.underlying122
  a46 := Tryz.isAgg122
  z46 := Tryz.sizeOf122
  v46 := Tryz.zeroValue122
  t105 := Tryz.underlying154
  a105 := Tryz.isAgg154
  z105 := Tryz.sizeOf154
  v105 := Tryz.zeroValue154
  t116 := Tryz.underlying128
  a116 := Tryz.isAgg128
  z116 := Tryz.sizeOf128
  t117 := Tryz.underlying129
  a117 := Tryz.isAgg129
  z117 := Tryz.sizeOf129
  v117 := Tryz.zeroValue129
  t119 := Tryz.underlying192
  a119 := Tryz.isAgg192
  z119 := Tryz.sizeOf192
  t124 := Tryz.underlying132
  a124 := Tryz.isAgg132
  z124 := Tryz.sizeOf132
  v124 := Tryz.zeroValue132
  t138 := Tryz.underlying194
  a138 := Tryz.isAgg194
  z138 := Tryz.sizeOf194
  v138 := Tryz.zeroValue194
  t139 := Tryz.underlying195
  a139 := Tryz.isAgg195
  z139 := Tryz.sizeOf195
  v139 := Tryz.zeroValue195
  g3 := by kernel_rfl
  g4 := by kernel_rfl }
open Go.RowKit in
theorem Tryz.strings_Trim_one (s : ByteArray) (c : UInt8) (hc : c.toNat < 128) (w : World) (hs : s.size ≤ 9223372036854775807) :
    Calls Tryz.prog 36 #[.string s, .string ⟨#[c]⟩] w fun e w' => e = .returned (.string ⟨(Lib.trimB s.data.toList c).toArray⟩) ∧ (w' = w ∨ w' = w.drew) := Any.strings_Trim_one Tryz.lays160 s c hc w hs
def Tryz.laysNm216_ren : Go.Shelf.Ren := ⟨fun | 16 => 48 | n => n, fun | 24 => 32 | 9 => 9 | 4 => 4 | n => n, fun | n => n⟩
theorem Tryz.laysNm216 : Go.Proofs.Lays2.n16 Tryz.prog Tryz.laysNm216_ren := {
  mixed := by kernel_rfl
  f16 := Tryz.func48.trans (congrArg some (by kernel_rfl))
  t4 := Tryz.underlying4
  a4 := Tryz.isAgg4
  z4 := Tryz.sizeOf4
  v4 := Tryz.zeroValue4
  t9 := Tryz.underlying9
  a9 := Tryz.isAgg9
  z9 := Tryz.sizeOf9
  v9 := Tryz.zeroValue9
  t24 := Tryz.underlying32
  a24 := Tryz.isAgg32
  z24 := Tryz.sizeOf32
  v24 := Tryz.zeroValue32
  i9 := by kernel_rfl }
open Go.RowKit Go.Lib in
theorem Tryz.slices_Clone_string (b off n c : Nat) (zs : List ByteArray) (w : World) (hz : n ≤ zs.length) (hbig : n * 16 ≤ 140737488355328) (hc : ∀ j, j < zs.length → w.cell? ⟨b, off + j, none⟩ = some (.string (zs.getD j ByteArray.empty))) :
    Calls Tryz.prog 48 #[.slice (some ⟨b, off, none⟩) n c] w fun e w' => ∃ v', e = .returned v' ∧ w'.ownsRow w.heap.size 9 1 v' n ((zs.take n).map (Value.string)) ∧ v' ≠ .slice none 0 0 ∧ Below w.heap.size w w' := Any.slices_Clone_string Tryz.laysNm216 b off n c zs w hz hbig hc
open Go.RowKit Go.Lib in
theorem Tryz.slices_Clone_string_nil (n c : Nat) (w : World) :
    Calls Tryz.prog 48 #[.slice none n c] w fun e w' => e = .returned (.slice none 0 0) ∧ w' = w := Any.slices_Clone_string_nil Tryz.laysNm216 n c w
open Go.RowKit Go.Lib in
theorem Tryz.slices_Clone_string_zero (a : Addr) (c : Nat) (w : World) :
    Calls Tryz.prog 48 #[.slice (some a) 0 c] w fun e w' => ∃ v', e = .returned v' ∧ w'.ownsRow w.heap.size 9 1 v' 0 [] ∧ v' ≠ .slice none 0 0 ∧ Below w.heap.size w w' := Any.slices_Clone_string_zero Tryz.laysNm216 a c w
def Tryz.laysSlH8_f50_ren : Go.Shelf.Ren := ⟨fun | 8 => 50 | 6 => 83 | n => n, fun | 22 => 32 | 23 => 9 | 25 => 95 | 4 => 4 | 3 => 3 | 0 => 0 | n => n, fun | n => n⟩
theorem Tryz.laysSlH8_f50 : Go.Proofs.SlLaysH.n8 Tryz.prog Tryz.laysSlH8_f50_ren := {
  mixed := by kernel_rfl
  f6 := ⟨Tryz.f83.name, by decide, Tryz.func83.trans (congrArg some (by kernel_rfl))⟩
  f8 := ⟨Tryz.f50.name, by decide, Tryz.func50.trans (congrArg some (by kernel_rfl))⟩
  t0 := Tryz.underlying0
  a0 := Tryz.isAgg0
  z0 := Tryz.sizeOf0
  v0 := Tryz.zeroValue0
  t3 := Tryz.underlying3
  a3 := Tryz.isAgg3
  z3 := Tryz.sizeOf3
  v3 := Tryz.zeroValue3
  t4 := Tryz.underlying4
  a4 := Tryz.isAgg4
  z4 := Tryz.sizeOf4
  v4 := Tryz.zeroValue4
  t22 := Tryz.underlying32
  a22 := Tryz.isAgg32
  z22 := Tryz.sizeOf32
  v22 := Tryz.zeroValue32
  a23 := Tryz.isAgg9
  z23 := Tryz.sizeOf9
  t25 := Tryz.underlying95
  a25 := Tryz.isAgg95
  z25 := Tryz.sizeOf95
  v25 := Tryz.zeroValue95 }
open Go.RowKit Go.Lib in
theorem Tryz.slices_ContainsFunc {α : Type} [Inhabited α] (enc : α → Value) (p : α → Bool) (g : Nat) (lb : Array Value) (eg : ∀ args w, (callFunc g args).run Tryz.prog w = .ok (.enter g args) w) (b off n c : Nat) (zs : List α) (w : World) (hp : PredAt Tryz.prog g lb enc p w) (hz : n ≤ zs.length) (hbig : n ≤ 9223372036854775807) (hc : ∀ j, j < zs.length → w.cell? ⟨b, off + j, none⟩ = some (enc zs[j]!)) :
    Calls Tryz.prog 50 #[.slice (some ⟨b, off, none⟩) n c, .func (.func g) #[] lb] w fun e w' => e = .returned (.bool ((zs.take n).any p)) ∧ ∃ q, w' = w.drewN q := AnyE.slices_ContainsFunc Tryz.laysSlH8_f50 enc p g lb eg b off n c zs w hp hz hbig hc
open Go.RowKit Go.Lib in
theorem Tryz.slices_ContainsFunc_empty {α : Type} [Inhabited α] (a : Option Addr) (c : Nat) (fv : Value) (w : World) :
    Calls Tryz.prog 50 #[.slice a 0 c, fv] w fun e w' => e = .returned (.bool false) ∧ w' = w := AnyE.slices_ContainsFunc_empty Tryz.laysSlH8_f50 a c fv w
end Go.Proofs
namespace Go.Proofs.YtnjkinljpekohaaGreatDoor.Jo
open Go.RowKit Sha Dsk Jr
theorem dw_nil : ∀ m : List UInt8, m.dropWhile (· == 0) = [] ↔ ∀ x ∈ m, x = 0
  | [] => by simp
  | a :: m => by
    by_cases h : a = 0
    · subst h
      have := dw_nil m
      simp [this]
    · have hb : (a == 0) = false := by simpa using h
      simp [hb, h]
theorem dw_all : ∀ m : List UInt8, (∀ x ∈ m.dropWhile (· == 0), x = 0) → ∀ x ∈ m, x = 0
  | [], _ => by simp
  | a :: m, hm => by
    by_cases h : a = 0
    · subst h
      have hb : List.dropWhile (· == (0 : UInt8)) (0 :: m) = m.dropWhile (· == 0) := rfl
      rw [hb] at hm
      intro x hx
      rcases List.mem_cons.1 hx with rfl | hx
      · rfl
      · exact dw_all m hm x hx
    · have hb : (a == 0) = false := by simpa using h
      rw [List.dropWhile_cons, if_neg (by rw [hb]; simp)] at hm
      exact hm
theorem trimB_nil (l : List UInt8) : Lib.trimB l 0 = [] ↔ l = List.replicate l.length 0 := by
  have hr : ∀ m : List UInt8, (∀ x ∈ m, x = 0) ↔ m = List.replicate m.length 0 := fun m => by rw [List.eq_replicate_iff]; simp
  rw [← hr]
  unfold Lib.trimB Lib.trimLeftB Lib.trimRightB
  rw [dw_nil]
  constructor
  · intro h x hx
    exact dw_all l.reverse (fun y hy => h y (List.mem_reverse.2 hy)) x (List.mem_reverse.2 hx)
  · intro h x hx
    rw [List.mem_reverse] at hx
    exact h x (List.mem_reverse.1 ((List.dropWhile_sublist _).subset hx))
theorem trim_any (x : ByteArray) (w : World) (hx : x.size ≤ 9223372036854775807) :
    Calls Tryz.prog 36 #[.string x, .string ⟨#[0]⟩] w fun e w' => e = .returned (.string (sof (Lib.trimB (bts x) 0))) ∧ Below w.heap.size w w' := by
  refine (Tryz.strings_Trim_one x 0 (by decide) w hx).mono ?_
  rintro e w' ⟨rfl, rfl | rfl⟩
  · exact ⟨rfl, Below.refl _ _⟩
  · exact ⟨rfl, (Below.refl _ _).drew⟩
/-- what Open returns and leaves -/
def opn (D : Dk) : Int × Option (List ByteArray × ByteArray × Nat) × Dk :=
  if D.off then (331, none, D) else
    match Jr.load chainS D.vis D.vis.length zed 0 with
    | none => (342, none, D)
    | some o => if (wipe D o.2.2).1 = 0 then (0, some o, (wipe D o.2.2).2) else ((wipe D o.2.2).1, none, (wipe D o.2.2).2)
/-- what a world holds of a journal: gj its block, v its records' slice, gd its disk -/
def JAt (w : World) (gj gd : Nat) (v : Value) (b : Bool) (o : List ByteArray × ByteArray × Nat) : Prop := TapeAt w gj 80 (tailJ gd b) v o.1 o.2.1 o.2.2
/-- what Open leaves -/
def OpnQ (gd : Nat) (F : List Nat) (R : Int × Option (List ByteArray × ByteArray × Nat) × Dk) (w : World) (e : Ending) (w' : World) : Prop :=
  ∃ F', DiskAt w' gd F' R.2.2 ∧ Kept F w w' ∧ New w F F' ∧ match R.2.1 with
    | none => e = .returned (.tuple #[.pointer none, .int .i64 R.1])
    | some o => ∃ gj v, e = .returned (.tuple #[.pointer (some ⟨gj, 0, none⟩), .int .i64 0]) ∧ JAt w' gj gd v false o ∧ (∀ x ∈ gj :: v.ownBlock.toList, w.heap.size ≤ x ∧ x ∉ F')
theorem writ_any (gj : Nat) (o : Int) (s : ByteArray) (w : World) : Calls Tryz.prog 38 #[.pointer (some ⟨gj, 0, none⟩), .int .i64 o, .string s] w fun e w' => ∃ B1 B2 B3, e = .returned (.func (.func 78) #[] #[.pointer (some ⟨B1, 0, none⟩), .pointer (some ⟨B2, 0, none⟩), .pointer (some ⟨B3, 0, none⟩)]) ∧ Below w.heap.size w w' ∧
    (w.heap.size ≤ B1 ∧ w'.cell? ⟨B1, 0, none⟩ = some (.pointer (some ⟨gj, 0, none⟩))) ∧ (w.heap.size ≤ B2 ∧ w'.cell? ⟨B2, 0, none⟩ = some (.int .i64 o)) ∧ (w.heap.size ≤ B3 ∧ w'.cell? ⟨B3, 0, none⟩ = some (.string s)) := by
  have hmf : ∀ (fn : Fn) (first cap : Array Value) (w : World), (Instr.makeFunc fn first cap).run Tryz.prog w = .ok (.func fn first cap) w := fun _ _ _ _ => rfl
  go_enter Tryz.func38, Tryz.ntmps38
  go_wp2_with fail
  go_ret
  refine ⟨_, _, _, rfl, (((Below.refl _ _).alloc (Nat.le_refl _) _).alloc (by simp) _).alloc (by simp; omega) _, ⟨Nat.le_refl _, keep_alloc _ (keep_alloc _ (new_cell rfl))⟩, ⟨by omega, keep_alloc _ (new_cell' rfl)⟩, ⟨by omega, ?_⟩⟩
  have := new_cell (w := (w.alloc (.cells #[.pointer (some ⟨gj, 0, none⟩)] 29)).alloc (.cells #[.int .i64 o] 3)) (l := #[.string s]) (t := 9) (i := 0) rfl
  simpa using this
theorem opn_nil (w : World) : Calls Tryz.prog 11 #[.pointer none] w fun e w' => e = .returned (.tuple #[.pointer none, .int .i64 1]) ∧ w = w' := by
  go_enter Tryz.func11, Tryz.ntmps11
  go_wp2_with fail
  go_ret2
  exact ⟨rfl, rfl⟩
set_option maxHeartbeats 2000000 in
theorem opn_off (gd : Nat) (F : List Nat) (D : Dk) (w : World) (hd : DiskAt w gd F D) (ho : D.off = true) : Calls Tryz.prog 11 #[.pointer (some ⟨gd, 0, none⟩)] w (OpnQ gd F (opn D) w) := by
  have HD := Lib.hid hd
  have HO := Lib.hid ho
  clear hd ho
  go_enter Tryz.func11, Tryz.ntmps11
  go_wp2_with (first
    | (go_at_call 34; (with_reducible refine (size_any gd F D _ HD.out).mono ?_); rintro e w1 ⟨rfl, rfl⟩)
    | (go_at_call 33; (with_reducible refine (read_off _ _ gd F D _ HD.out HO.out).mono ?_); rintro e w1 ⟨rfl, rfl⟩))
  go_ret2
  rw [opn, if_pos HO.out]
  exact ⟨F, HD.out, Kept.refl _ _, New.refl _ _, rfl⟩
set_option maxRecDepth 100000 in
set_option maxHeartbeats 2000000 in
theorem opn_on (gd : Nat) (F : List Nat) (D : Dk) (a : Addr) (w : World) (hd : DiskAt w gd F D) (ho : D.off = false) (hK : RoundIn w) (hE : ErrIn w 222 (.pointer (some a))) (hpl : D.pend.length ≤ 900000)
    (_h1 : 4 ∉ F) (_h2 : 0 ∉ F) : Calls Tryz.prog 11 #[.pointer (some ⟨gd, 0, none⟩)] w (OpnQ gd F (opn D) w) := by
  have hok := hd.ok
  have hsz : D.vis.length ≤ 4194304 := by rw [hok.len]; exact hok.max
  have hrd := read_in 0 D.sure.length gd F D w hd ho (by omega)
  rw [List.drop_zero, List.take_of_length_le (by rw [hok.len]; exact Nat.le_refl _), show (((0 : Nat)) : Int) = 0 from rfl] at hrd
  have hop := open_any gd (sof D.vis) a w (by rw [← bts_length, bts_sof]; exact hsz) hK hE
  rw [bts_sof] at hop
  obtain ⟨S, hS⟩ : ∃ S, sof D.vis = S := ⟨_, rfl⟩
  obtain ⟨n, hn⟩ : ∃ n, D.sure.length = n := ⟨_, rfl⟩
  have hSn : S.size = n := by rw [← hS, ← bts_length, bts_sof, hok.len, hn]
  rw [hS] at hop hrd
  rw [hn] at hrd
  have hsi := size_any gd F D w hd
  rw [hn] at hsi
  have hn4 : n ≤ 4194304 := by rw [← hn]; exact hok.max
  have HSi := Lib.hid hsi
  have HRd := Lib.hid hrd
  have HS := Lib.hid hS
  have HN := Lib.hid hn
  have HSn := Lib.hid hSn
  have HD := Lib.hid hd
  have HO := Lib.hid ho
  have HK := Lib.hid hK
  have HE := Lib.hid hE
  have hop' : Hid (opn D = match Jr.load chainS D.vis D.vis.length zed 0 with | none => (342, none, D) | some o => if (wipe D o.2.2).1 = 0 then (0, some o, (wipe D o.2.2).2) else ((wipe D o.2.2).1, none, (wipe D o.2.2).2)) := (show opn D = _ by rw [opn, if_neg (by rw [ho]; simp)])
  obtain ⟨Out, hOut⟩ : ∃ Out, Jr.load chainS D.vis D.vis.length zed 0 = Out := ⟨_, rfl⟩
  rw [hOut] at hop hop'
  have HOp := Lib.hid hop
  have HOut := Lib.hid hOut
  clear hd ho hK hE hop hsi hrd hS hn hSn hOut hok
  cases Out with
  | none =>
    go_enter Tryz.func11, Tryz.ntmps11
    go_wp2_with (first
      | (go_at_call 34; (with_reducible refine HSi.out.mono ?_); rintro e w1 ⟨rfl, rfl⟩)
      | (go_at_call 33; (with_reducible refine HRd.out.mono ?_); rintro e w1 ⟨rfl, rfl⟩)
      | (go_at_call 35; (with_reducible refine HOp.out.mono ?_); rintro e w1 ⟨b1, rfl⟩; have B1 := Lib.hid b1; clear b1))
    go_ret2
    rw [hop'.out]
    exact ⟨F, HD.out.below B1.out, (Kept.of_below B1.out).mono (fun _ h => by cases h), New.refl _ _, rfl⟩
  | some o =>
    obtain ⟨rs, h, k⟩ := o
    go_enter Tryz.func11, Tryz.ntmps11
    go_wp2_with (first
      | (go_at_call 34; (with_reducible refine HSi.out.mono ?_); rintro e w1 ⟨rfl, rfl⟩)
      | (go_at_call 33; (with_reducible refine HRd.out.mono ?_); rintro e w1 ⟨rfl, rfl⟩))
    refine HOp.out.mono ?_
    rintro e w1 ⟨b1, gj, v, rfl, t1, hg1, hv1⟩
    have hkn : k ≤ n := by
      have := (load_sound chainS chain_size D.vis.length D.vis zed 0 rs h k (Nat.zero_le _) (by omega) HOut.out).2.2.1
      have := HSn.out; have := HS.out
      rw [← HSn.out, ← HS.out, ← bts_length, bts_sof]
      assumption
    have c2 := cells_get t1.blk (i := 2) rfl
    have T1 := Lib.hid t1
    have B1 := Lib.hid b1
    have HG1 := Lib.hid hg1
    have HV1 := Lib.hid hv1
    clear t1 b1 hg1 hv1
    have hkS : (k : Int) ≤ (S.size : Int) := by have := HSn.out; omega
    have hk0 : (0 : Int) ≤ (k : Int) := by omega
    have htr := trim_any (S.extract k S.size) w1 (by rw [ByteArray.size_extract]; have := HSn.out; omega)
    have hbe : bts (S.extract k S.size) = D.vis.drop k := by
      rw [bts_extract, ← HS.out, bts_sof, List.take_of_length_le]
      rw [List.length_drop, ← bts_length, bts_sof]
      exact Nat.le_refl _
    have hvl : D.vis.length = n := by rw [← HSn.out, ← HS.out, ← bts_length, bts_sof]
    rw [hbe] at htr
    by_cases hz : D.vis.drop k = List.replicate (D.vis.length - k) 0
    · have hw : wipe D k = (0, D) := by rw [wipe, if_pos hz]
      rw [(trimB_nil _).2 (by rw [List.length_drop]; exact hz)] at htr
      have htr : Calls Tryz.prog 36 #[.string (S.extract k S.size), .string ⟨#[0]⟩] w1 fun e w' => e = .returned (.string ⟨#[]⟩) ∧ Below w1.heap.size w1 w' := htr
      have HTr := Lib.hid htr
      have HW := Lib.hid hw
      clear htr hbe hz hw hvl
      go_wp2_with (go_at_call 36; (with_reducible refine HTr.out.mono ?_); rintro e w2 ⟨rfl, b2⟩; have B2 := Lib.hid b2; clear b2)
      go_ret2
      rw [hop'.out]
      dsimp only
      rw [HW.out, if_pos rfl]
      have B12 : Below w.heap.size w w2 := below_next B1.out B2.out
      refine ⟨F, HD.out.below B12, (Kept.of_below B12).mono (fun _ h => by cases h), New.refl _ _, gj, v, rfl, tape_kept T1.out (Kept.of_below B2.out) (by simp) (by simp), fun x hx => ?_⟩
      have hx : w.heap.size ≤ x := by
        rcases List.mem_cons.1 hx with rfl | hx
        · exact HG1.out
        · exact HV1.out x (Option.mem_toList.1 hx)
      exact ⟨hx, fun hm => by have := HD.out.lt x hm; omega⟩
    · obtain ⟨X, hX⟩ : ∃ X, sof (Lib.trimB (D.vis.drop k) 0) = X := ⟨_, rfl⟩
      have hXn : X.toList ≠ [] := by
        rw [← hX, ByteArray.toList_eq]
        intro e
        have e : Lib.trimB (D.vis.drop k) 0 = [] := e
        exact hz (by rw [trimB_nil, List.length_drop] at e; exact e)
      rw [hX] at htr
      have HTr := Lib.hid htr
      have hx1 : X.toList.isEmpty = false := by simpa using hXn
      have hx2 : (!X.toList.isEmpty) = true := by rw [hx1]; rfl
      clear htr hbe hvl hX hXn
      go_wp2_with (go_at_call 36; (with_reducible refine HTr.out.mono ?_); rintro e w2 ⟨rfl, b2⟩; have B2 := Lib.hid b2; clear b2)
      have d2 := (cell_then B2.out c2)
      obtain ⟨m, hm⟩ : ∃ m, n - k = m := ⟨_, rfl⟩
      have hmn : (S.size : Int) - (k : Int) = (m : Int) := by have := HSn.out; omega
      have hm4 : m ≤ 4194304 := by omega
      obtain ⟨ZB, hZB⟩ : ∃ ZB : Obj, .cells (bcs (List.replicate m 0)).toArray 5 (0, 0) = ZB := ⟨_, rfl⟩
      obtain ⟨Z, hZ⟩ : ∃ Z, sof (List.replicate m (0 : UInt8)) = Z := ⟨_, rfl⟩
      have hmk : ∀ W : World, (Instr.makeSlice 53 (.int .i64 ((S.size : Int) - (k : Int))) (.int .i64 ((S.size : Int) - (k : Int)))).run Tryz.prog W = .ok (.slice (some ⟨W.heap.size, 0, none⟩) m m) (W.alloc ZB) := fun W => by rw [← hZB, hmn]; exact make_bytes m hm4 W
      have hcv : ∀ W : World, (convert 53 9 (.slice (some ⟨W.heap.size, 0, none⟩) m m)).run Tryz.prog (W.alloc ZB) = .ok (.string Z) (W.alloc ZB) := fun W => by
        have := conv_row (w := W.alloc ZB) (g := W.heap.size) (L := List.replicate m 0) (by rw [← hZB]; exact heap_alloc_new _ _) 0 m m (by simp)
        rw [List.drop_zero, List.take_of_length_le (by simp), hZ] at this
        exact this
      have hcv2 : ∀ W : World, (convert 53 9 (.slice (some ⟨W.heap.size, 0, none⟩) m m)).run Tryz.prog (W.alloc ZB).drew = .ok (.string Z) (W.alloc ZB).drew := fun W => by
        have := conv_row (w := (W.alloc ZB).drew) (g := W.heap.size) (L := List.replicate m 0) (by rw [← hZB]; exact heap_alloc_new _ _) 0 m m (by simp)
        rw [List.drop_zero, List.take_of_length_le (by simp), hZ] at this
        exact this
      have sm1 : IntKind.i64.wrap ((S.size : Int) - (k : Int)) = (S.size : Int) - (k : Int) := IntWalk.i64_in _ (by omega)
      have HM := Lib.hid hm
      have HMN := Lib.hid hmn
      have HZ := Lib.hid hZ
      clear hm hmn hZB hZ c2
      obtain ⟨c, D2, hwp, hc⟩ : ∃ c D2, wipe D k = (c, D2) ∧ (c = 0 ∨ c = 331) := by
        refine ⟨(wipe D k).1, (wipe D k).2, rfl, ?_⟩
        unfold wipe
        rw [if_neg hz, HO.out, if_neg (by simp)]
        split
        · exact .inr rfl
        · exact .inl rfl
      have hfi : ∀ (W3 : World) (B1 B2 B3 : Nat), Below (w2.alloc ZB).drew.heap.size (w2.alloc ZB).drew W3 → ((w2.alloc ZB).drew.heap.size ≤ B1 ∧ W3.cell? ⟨B1, 0, none⟩ = some (.pointer (some ⟨gj, 0, none⟩))) → ((w2.alloc ZB).drew.heap.size ≤ B2 ∧ W3.cell? ⟨B2, 0, none⟩ = some (.int .i64 (k : Int))) → ((w2.alloc ZB).drew.heap.size ≤ B3 ∧ W3.cell? ⟨B3, 0, none⟩ = some (.string Z)) →
          Calls Tryz.prog 37 #[.slice (some ⟨W3.heap.size, 0, none⟩) 2 2] (W3.alloc (.cells #[.func (.func 78) #[] #[.pointer (some ⟨B1, 0, none⟩), .pointer (some ⟨B2, 0, none⟩), .pointer (some ⟨B3, 0, none⟩)], .func (.func 39) #[.pointer (some ⟨gd, 0, none⟩)] #[]] 82)) (TurnQ gd F D2 (.int .i64 c) w2) := by
        intro W3 B1' B2' B3' hb g1 g2 g3
        have hb0 : Below w2.heap.size w2 (w2.alloc ZB).drew := ((Below.refl _ _).alloc (Nat.le_refl _) _).drew
        have hb2 : Below w2.heap.size w2 W3 := below_next hb0 hb
        have hb3 : Below w.heap.size w W3 := below_next (below_next B1.out B2.out) hb2
        have hlt := HD.out.lt
        have hs := hb0.size
        have hs2 := B2.out.size
        have hs1 := B1.out.size
        have hfar : ∀ x, w.heap.size ≤ x → x ∉ F := fun x hx hm => by have := hlt x hm; omega
        have := first_of gd gj 2 82 F D [.wr B1' B2' B3' k Z, .sy] W3 rfl (HD.out.below hb3) (cell_then hb2 (cell_then B2.out (cells_get T1.out.blk (i := 3) rfl))) (hfar gj HG1.out) (fun x hx => ?_) (by omega) hpl
        · have hr : runS [.wr k Z, .sy] D = (c, D2) := by
            rw [← hwp, wipe, if_neg hz, runS_on HO.out]
            rw [show D.vis.length - k = m by rw [← HM.out, ← HSn.out, ← HS.out, ← bts_length, bts_sof], HZ.out]
            rw [HO.out, if_neg (by simp)]
            simp only [doS, HO.out]
            rw [if_neg (by simp)]
            show runS [.sy] (wr D k Z) = _
            cases ho : offW D with
            | true => rw [if_pos rfl, runS_off (show (wr D k Z).off = true from ho)]
            | false => rw [if_neg (by simp), runS_on (show (wr D k Z).off = false from ho)]; simp [runS, doS, show (wr D k Z).off = false from ho]
          have e2 : runS (List.map Cl.stp [.wr B1' B2' B3' k Z, .sy]) D = (c, D2) := hr
          rw [e2] at this
          exact this.mono (fun e w' h => turn_before hb2 h)
        · rcases List.mem_cons.1 hx with rfl | hx
          · refine ⟨⟨hfar _ (by omega), hfar _ (by omega), hfar _ (by omega)⟩, g1.2, g2.2, g3.2, ?_⟩
            have : Z.size = m := by rw [← HZ.out, ← bts_length, bts_sof, List.length_replicate]
            rw [HN.out]; have := HM.out; omega
          · obtain rfl : x = .sy := by simpa using hx
            trivial
      have HFi := Lib.hid hfi
      have HWP := Lib.hid hwp
      clear hfi hwp
      have hgl := lt_size d2
      have HGF := Lib.hid (show gj ∉ F from fun hm => by have := HD.out.lt gj hm; have := HG1.out; omega)
      have E2 := Lib.hid (show (w2.alloc ZB).drew.cell? ⟨gj, 2, none⟩ = some (.int .i64 (k : Int)) from drew_cell (keep_alloc _ d2))
      rcases hc with rfl | rfl
      · go_region_held_law (fun w' => w'.cell? ⟨gj, 2, none⟩ = some (.int .i64 (k : Int))) (first | assumption | ((try simp only [World.cell?_drew]); repeat (first | assumption | with_reducible refine keep_alloc _ ?_))) (first | (go_at_call 38; (with_reducible refine (writ_any gj (k : Int) Z _).mono ?_); rintro e w3 ⟨B1', B2', B3', rfl, b3, f1, f2, f3⟩; have F0 := Lib.hid b3; have F1 := Lib.hid f1; have F2 := Lib.hid f2; have F3 := Lib.hid f3; have s3 := cell_then F0.out E2.out; clear b3 f1 f2 f3) | (go_at_call 37; (with_reducible refine (HFi.out w3 B1' B2' B3' F0.out F1.out F2.out F3.out).mono ?_); rintro e w4 ⟨F', rfl, d4, k4, n4⟩; have s4 := k4.cell d2 HGF.out; have D4 := Lib.hid d4; have K4 := Lib.hid k4; have N4 := Lib.hid n4; clear d4 k4 n4))
        all_goals
          clear hmk hcv hcv2 sm1
          go_wp2_with fail
          go_ret2
          have B12 : Below w.heap.size w w2 := below_next B1.out B2.out
          have hjv : ∀ x ∈ gj :: v.ownBlock.toList, w.heap.size ≤ x ∧ x < w2.heap.size := fun x hx => by
            have hs2 := B2.out.size
            rcases List.mem_cons.1 hx with rfl | hx
            · exact ⟨HG1.out, by omega⟩
            · exact ⟨HV1.out x (Option.mem_toList.1 hx), by have := (T1.out.own.lt x (Option.mem_toList.1 hx)).2; omega⟩
          have hnF : ∀ x, w.heap.size ≤ x → x ∉ F := fun x hx hm => by have := HD.out.lt x hm; omega
          rw [hop'.out, HWP.out, if_pos rfl]
          refine ⟨F', D4.out, ((Kept.of_below B12).mono (fun _ h => by cases h)).trans K4.out (New.refl _ _), (New.refl _ _).trans N4.out B12.size, gj, v, rfl, ?_, fun x hx => ⟨(hjv x hx).1, fun hm => ?_⟩⟩
          · exact tape_kept (tape_kept T1.out (Kept.of_below B2.out) (by simp) (by simp)) K4.out (hnF _ (hjv gj (by simp)).1) (fun x hx => hnF _ (hjv x (List.mem_cons_of_mem _ (Option.mem_toList.2 hx))).1)
          · rcases N4.out x hm with h | h
            · exact hnF _ (hjv x hx).1 h
            · have := (hjv x hx).2; omega
      · go_region_held_law (fun w' => w'.cell? ⟨gj, 2, none⟩ = some (.int .i64 (k : Int))) (first | assumption | ((try simp only [World.cell?_drew]); repeat (first | assumption | with_reducible refine keep_alloc _ ?_))) (first | (go_at_call 38; (with_reducible refine (writ_any gj (k : Int) Z _).mono ?_); rintro e w3 ⟨B1', B2', B3', rfl, b3, f1, f2, f3⟩; have F0 := Lib.hid b3; have F1 := Lib.hid f1; have F2 := Lib.hid f2; have F3 := Lib.hid f3; have s3 := cell_then F0.out E2.out; clear b3 f1 f2 f3) | (go_at_call 37; (with_reducible refine (HFi.out w3 B1' B2' B3' F0.out F1.out F2.out F3.out).mono ?_); rintro e w4 ⟨F', rfl, d4, k4, n4⟩; have s4 := k4.cell d2 HGF.out; have D4 := Lib.hid d4; have K4 := Lib.hid k4; have N4 := Lib.hid n4; clear d4 k4 n4))
        all_goals
          clear hmk hcv hcv2 sm1
          go_wp2_with fail
          go_ret2
          have B12 : Below w.heap.size w w2 := below_next B1.out B2.out
          rw [hop'.out, HWP.out, if_neg (by simp)]
          exact ⟨F', D4.out, ((Kept.of_below B12).mono (fun _ h => by cases h)).trans K4.out (New.refl _ _), (New.refl _ _).trans N4.out B12.size, rfl⟩
end Go.Proofs.YtnjkinljpekohaaGreatDoor.Jo
