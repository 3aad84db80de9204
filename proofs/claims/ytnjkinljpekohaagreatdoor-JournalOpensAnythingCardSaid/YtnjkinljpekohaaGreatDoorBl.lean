/- What every law of this seat needs for its row: the table in memory, the post out of Below, the witness' world. Slices of integers and of strings among the arguments, nil or not: the cells of their elements. Nothing of the program stands here. A slice of strings among the arguments, as a list. -/
import Derived.Test.YtnjkinljpekohaaGreatDoorCards
import Derived.Test.YtnjkinljpekohaaGreatDoorTie
import Derived.Test.YtnjkinljpekohaaGreatDoorBk
import Derived.ProofKit
import Derived.OpenShut
import Derived.Deep.DeepHandedRow
import Derived.Lib.LaidTab
import Derived.Stop.LaidErr
import Derived.Stop.Asserts
import Derived.SliceStrings
import Derived.Test.YtnjkinljpekohaaGreatDoorBe
namespace Go.Proofs.YtnjkinljpekohaaGreatDoor
open Go.ChangeShapes Go.WideShapes Go.ChangeAt Go.RowKit Sha
theorem own : ownKnob Tryz.prog.godebug = none := by kernel_rfl
theorem gTab : Tryz.prog.globalNamed "slatewall/digest.round" = some 4 := by kernel_rfl
theorem gTabType : (Tryz.prog.globals[4]?).map (·.type) = some 217 := by kernel_rfl
theorem cellsTab : Tryz.prog.cellsOf 217 = 64 := by kernel_rfl
theorem cellsElem : Tryz.prog.cellsOf 118 = 1 := by kernel_rfl
def nibInts : List Int := [1116352408, 1899447441, 3049323471, 3921009573, 961987163, 1508970993, 2453635748, 2870763221, 3624381080, 310598401, 607225278, 1426881987, 1925078388, 2162078206, 2614888103, 3248222580, 3835390401, 4022224774, 264347078, 604807628, 770255983, 1249150122, 1555081692, 1996064986, 2554220882, 2821834349, 2952996808, 3210313671, 3336571891, 3584528711, 113926993, 338241895, 666307205, 773529912, 1294757372, 1396182291, 1695183700, 1986661051, 2177026350, 2456956037, 2730485921, 2820302411, 3259730800, 3345764771, 3516065817, 3600352804, 4094571909, 275423344, 430227734, 506948616, 659060556, 883997877, 958139571, 1322822218, 1537002063, 1747873779, 1955562222, 2024104815, 2227730452, 2361852424, 2428436474, 2756734187, 3204031479, 3329325298]
theorem nibInts_get : ∀ k : Nat, k < 64 → nibInts.getD k 0 = ((K64.getD k 0 : Nat) : Int) := by decide
theorem laid_tail {P : Program} {x : String × DataW Unit} {r : List (String × DataW Unit)} {W : World} (h : laidMet P (x :: r) W) : laidMet P r W := by
  obtain ⟨n, d⟩ := x
  obtain ⟨ps, ⟨g, t, cs, f, p, q, h1, h2, h3, h4, h5, h6⟩, hn, hr⟩ := h
  subst h6
  exact ⟨q, h5, (List.nodup_append.1 hn).2.1, fun b off hm => hr b off (List.mem_append_right _ hm)⟩
/-- what the rows of this seat lay: the tables and the error -/
abbrev laidJ : List (String × DataW Unit) := [("unicode/utf8.acceptRanges", Rows.laid_unicode_utf8_acceptRanges), ("slatewall/digest.round", Rows.laid_slatewall_digest_round), ("slatewall/journal.errDamaged", Rows.laid_slatewall_journal_errDamaged), ("unicode/utf8.first", Rows.laid_unicode_utf8_first)]
theorem table {W : World} (h : laidMetH Tryz.prog laidJ W) : RoundIn W := by
  have ht : Lib.TabIs Tryz.prog W "slatewall/digest.round" .u32 nibInts := Lib.tabIs_of_head gTab gTabType Tryz.underlying217 Tryz.underlying118 cellsElem cellsTab (laid_tail h)
  have hc : ∀ k : Nat, k < 64 → W.cell? ⟨4, k, none⟩ = some (.int .u32 ((K64.getD k 0 : Nat) : Int)) := fun k hk => by
    rw [← nibInts_get k hk]; exact ht.cell gTab k hk
  exact ⟨World.block_lt_of_cell? W ⟨4, 0, none⟩ (hc 0 (by omega)), hc⟩
theorem gErr : Tryz.prog.globalNamed "slatewall/journal.errDamaged" = some 0 := by kernel_rfl
theorem gErrType : (Tryz.prog.globals[0]?).map (·.type) = some 101 := by kernel_rfl
theorem errStar : "*" ++ "errors.errorString" = "*errors.errorString" := by decide
theorem errRow (u : TypeId) (h : Tryz.prog.typeName? 3 u = some "*errors.errorString") : u = 222 :=
  typeName_ptr_named (nm := "errors.errorString") (by rw [errStar]; kernel_rfl) (by kernel_rfl) (by decide) u (by rw [errStar]; exact h)
theorem errCells : Tryz.prog.cellsOf 244 = 1 := by kernel_rfl
theorem strCells : Tryz.prog.cellsOf 9 = 1 := by kernel_rfl
theorem sentinel {W : World} (h : laidMetH Tryz.prog laidJ W) : ∃ a, Jo.ErrIn W 222 (.pointer (some a)) := by
  obtain ⟨a, s, hv, _⟩ := laid_sentinel (laid_tail (laid_tail h)) gErr gErrType Tryz.underlying101 errRow Tryz.underlying222 Tryz.underlying244 rfl rfl Tryz.underlying9 errCells strCells
  refine ⟨a, ?_⟩
  have := World.var?_cell gErr hv 0
  unfold Jo.ErrIn
  simpa using this

/-- the post of a row out of 'nothing that lay has turned' -/
theorem post_below {H : Type} {enc : TypeId × Value → H} {P : Program} {f : Func} {s : ChangeSpec} {apart fresh handsOn again : Bool} {W W' : World} {args : Array Value} {v : Value} {ds gs : List (DataW H)} {before pa pv : List MemPlace}
    (hW : DataW.Whole enc P f.params.toList s.vars apart W args.toList ds gs before)
    (hres : ∀ (b : Nat) (sp : Nat → Bool) (hd : Bool), DataW.TrodAll enc P W' b sp hd f.resultTypes.toList (v.resultList f.resultTypes.size) (s.fn H (ds ++ gs)).results [])
    (hargs : ∀ sp : Nat → Bool, (∀ p ∈ before, sp p.block = true) → DataW.TrodAll enc P W' 0 sp true f.params.toList args.toList (s.fn H (ds ++ gs)).args pa)
    (hvars : ∀ sp : Nat → Bool, (∀ p ∈ before, sp p.block = true) → DataW.TrodVars enc P W' sp s.vars (s.fn H (ds ++ gs)).vars pv)
    (hps : before = pa ++ pv) (hb : Below W.heap.size W W')
    (hok : ∀ (j : Nat) (t : TypeId) (r : Value), f.resultTypes[j]? = some t → (v.resultList f.resultTypes.size)[j]? = some r → Value.okWide P W' .any 0 t r) :
    s.post enc P f apart fresh handsOn again W args v W' := by
  have hlt : ∀ p ∈ before, p.block < W.heap.size := fun p hp => hW.lt p hp
  have hold : ∀ p ∈ before, (fun b => decide (b < W.heap.size)) p.block = true := fun p hp => decide_eq_true (hlt p hp)
  have hin : ∀ p ∈ before, p ∈ pa ++ pv := fun p hp => hps ▸ hp
  have hin' : ∀ p ∈ pa ++ pv, p ∈ before := fun p hp => hps ▸ hp
  refine ⟨ds, gs, before, [], pa, pv, hW, hres _ _ _, hargs _ hold, hvars _ hold, ?_, ?_⟩
  · exact World.keptBut_mono (fun p hp => ⟨hp, .inr (List.mem_append.1 (hin p hp))⟩) (hb.frame (· ∈ before))
  · intro _
    obtain ⟨_, _, _, _, _, hz, hn⟩ := hW
    refine ⟨hok, _, _, ([] ++ pa) ++ pv, ⟨[] ++ pa, pv, trodAll_append (hargs _ (fun _ _ => rfl)) (hres _ _ _), hvars _ (fun _ _ => rfl), rfl, ?_, ?_⟩, ?_⟩
    · intro b off hp
      have hp' : MemPlace.cell b off ∈ before := hin' _ (by simpa using hp)
      rw [hb.frozen (hlt _ hp')]
      exact hz b off hp'
    · intro ha
      simpa [hps] using hn ha
    · intro p hp _
      exact hin' _ (by simpa using hp)

/-- arguments below the old heap's end read as they did -/
theorem args_stay {H : Type} {enc : TypeId × Value → H} {P : Program} (hl : laidOutB P = true) {W W' : World} (hb : Below W.heap.size W W') (sp : Nat → Bool) :
    ∀ (ts : List TypeId) (vs : List Value) (ds : List (DataW H)) (ps : List MemPlace), (∀ t ∈ ts, P.readableRec t = true ∧ t < P.types.size) → DataW.TrodAll enc P W 0 (fun _ => true) true ts vs ds ps →
      (∀ x ∈ ps, x.block < W.heap.size) → (∀ x ∈ ps, sp x.block = true) → DataW.TrodAll enc P W' 0 sp true ts vs ds ps
  | [], vs, ds, ps, _, h, _, _ => by obtain ⟨rfl, rfl, rfl⟩ := trodAll_nil h; exact h
  | t :: ts, vs, ds, ps, hr, h, hlt, hsp => by
    obtain ⟨v, vs', d, ds', p, q, rfl, rfl, rfl, h1, h2⟩ := trodAll_cons h
    exact trodAll_cons_mk (WideElems.Trod_stays hl (hr t (by simp)).1 (hr t (by simp)).2 h1 (fun x hx => hb.same (hlt x (by simp [hx]))) (fun x hx => hsp x (by simp [hx])))
      (args_stay hl hb sp ts vs' ds' q (fun t ht => hr t (by simp [ht])) h2 (fun x hx => hlt x (by simp [hx])) (fun x hx => hsp x (by simp [hx])))

/-- the post of a law's row, for arguments of whatever types -/
theorem law_post {H : Type} {enc : TypeId × Value → H} {P : Program} {f : Func} {s : ChangeSpec} {W W' : World} {args : Array Value} {ds gs : List (DataW H)} {before : List MemPlace} {tb : TypeId}
    (hl : laidOutB P = true) (hr : ∀ t ∈ f.params.toList, P.readableRec t = true ∧ t < P.types.size) (hW : DataW.Whole enc P f.params.toList s.vars false W args.toList ds gs before) (hv : s.vars = [])
    (hspec : s.fn H (ds ++ gs) = { results := [.lit (.bool true)], args := ds }) (hrt : f.resultTypes = #[tb]) (htb : P.underlying tb = some .bool) (hb : Below W.heap.size W W') :
    s.post enc P f false true false false W args (.bool true) W' := by
  have hW' := hW
  obtain ⟨p, q, hA, hV, hps, hz, hn⟩ := hW
  rw [hv] at hV
  obtain ⟨rfl, rfl⟩ := trodVars_none hV
  have hlt : ∀ x ∈ p, x.block < W.heap.size := fun x hx => hW'.lt x (by rw [hps]; simpa using hx)
  refine post_below (pa := p) (pv := []) hW' ?_ ?_ ?_ hps hb ?_
  · intro b sp hd
    rw [hspec, hrt]
    exact trodAll_cons_mk (shut_bool htb true) trodAll_mk0
  · intro sp hsp
    rw [hspec]
    exact args_stay hl hb sp _ _ _ _ hr hA hlt (fun x hx => hsp x (by rw [hps]; simpa using hx))
  · intro sp _
    rw [hspec, hv]
    exact rfl
  · exact ok_one hrt rfl (okWide_bool_mk htb true)

/-- two strings by value -/
theorem open_str2 {H : Type} {enc : TypeId × Value → H} {P : Program} {w : World} {base : Nat} {spare : Nat → Bool} {held : Bool} {r : Reach} {b0 : Nat} {t e : TypeId} {v : Value} {d : DataW H} {p : List MemPlace}
    (ha : P.underlying t = some (.array 2 e)) (he : P.underlying e = some .string) (hce : P.cellsOf e = 1) (hct : P.cellsOf t = 2) (hv : Value.okWide P w r b0 t v) (h : DataW.Trod enc P w base spare held t v d p) :
    ∃ a b : ByteArray, v = .agg #[.string a, .string b] ∧ a.size ≤ maxLen ∧ b.size ≤ maxLen := by
  simp only [Value.okWide, ha] at hv
  obtain ⟨cs, rfl, hsz, _⟩ := hv
  obtain ⟨c0, c1, rfl⟩ : ∃ c0 c1, cs = #[c0, c1] := by
    obtain ⟨l⟩ := cs
    have hl : l.length = 2 := by simpa [hct] using hsz
    match l, hl with
    | [c0, c1], _ => exact ⟨c0, c1, rfl⟩
  obtain ⟨fuel, hf⟩ := h
  obtain ⟨xs, m, _, _, hcl, hxl, hx⟩ := DataW.trod_array ha hf
  simp only [Value.cells] at hcl hx
  rw [hct] at hcl
  rw [hce] at hx
  have k0 := hx 0 (by omega)
  have k1 := hx 1 (by omega)
  rw [List.getElem?_eq_getElem (by omega)] at k0 k1
  obtain ⟨a, ea, _, ha'⟩ := DataW.trod_string he k0
  obtain ⟨b, eb, _, hb'⟩ := DataW.trod_string he k1
  simp at ea eb
  subst ea eb
  exact ⟨a, b, rfl, ha', hb'⟩
theorem i64_lo {x : Int} (h : (Lit.int .i64 x).wf = true) : -9223372036854775808 ≤ x := by
  simp [Lit.wf, IntKind.min, IntKind.max, IntKind.signed, IntKind.bits] at h; omega
theorem i64_hi {x : Int} (h : (Lit.int .i64 x).wf = true) : x ≤ 9223372036854775807 := by
  simp [Lit.wf, IntKind.min, IntKind.max, IntKind.signed, IntKind.bits] at h; omega
theorem u8_lo {x : Int} (h : (Lit.int .u8 x).wf = true) : 0 ≤ x := by
  simp [Lit.wf, IntKind.min, IntKind.max, IntKind.signed, IntKind.bits] at h; omega
theorem u8_hi {x : Int} (h : (Lit.int .u8 x).wf = true) : x ≤ 255 := by
  simp [Lit.wf, IntKind.min, IntKind.max, IntKind.signed, IntKind.bits] at h; omega
theorem u32_lo {x : Int} (h : (Lit.int .u32 x).wf = true) : 0 ≤ x := by
  simp [Lit.wf, IntKind.min, IntKind.max, IntKind.signed, IntKind.bits] at h; omega
theorem u32_hi {x : Int} (h : (Lit.int .u32 x).wf = true) : x ≤ 4294967295 := by
  simp [Lit.wf, IntKind.min, IntKind.max, IntKind.signed, IntKind.bits] at h; omega
theorem str_max {s : ByteArray} (h : s.size ≤ maxLen) : (s.size : Int) ≤ 9223372036854775807 := by unfold maxLen at h; omega
theorem laidOut : laidOutB Tryz.prog = true := by kernel_rfl

/-- the values of a laid table -/
def leaf1 : DataW Unit → List Value
  | .lit (.int k n) => [.int k n]
  | _ => []
def leaf2 : DataW Unit → List Value
  | .agg q => q.flatMap leaf1
  | d => leaf1 d
def leafs : DataW Unit → Array Value
  | .agg q => (q.flatMap leaf2).toArray
  | _ => #[]
def putRow (v : Array Value) : Obj → Obj
  | .cells _ t frozen => .cells v t frozen
  | o => o
def laidHeap (h : Array Obj) : Array Obj :=
  let h1 := h.modify 4 (putRow (leafs Rows.laid_slatewall_digest_round))
  let h2 := h1.modify 2 (putRow (leafs Rows.laid_unicode_utf8_acceptRanges))
  let h3 := h2.modify 1 (putRow (leafs Rows.laid_unicode_utf8_first))
  let h4 := h3.modify 0 (putRow #[.iface 222 (.pointer (some ⟨h.size, 0, none⟩))])
  h4.push (.cells #[.string ⟨#[100, 97, 109, 97, 103, 101, 100]⟩] 244 (0, 0))
/-- a world for the witness: the settled one, the tables and the error as their initialisers lay them -/
noncomputable def laidWorld (os : Os) : World := { World.holding Tryz.prog os ⟨#[], #[], []⟩ with heap := laidHeap (World.holding Tryz.prog os ⟨#[], #[], []⟩).heap }
end Go.Proofs.YtnjkinljpekohaaGreatDoor
namespace Go.Proofs.YtnjkinljpekohaaGreatDoor
open Go.ChangeShapes Go.WideShapes Go.ChangeAt Go.RowKit
theorem open_ints_all {H : Type} {enc : TypeId × Value → H} {P : Program} {w : World} {base : Nat} {r : Reach} {b0 : Nat} {t e : TypeId} {v : Value} {d : DataW H} {p : List MemPlace}
    (ht : P.underlying t = some (.slice e)) (he : P.underlying e = some (.int .i64)) (hc : P.cellsOf e = 1) (hv : Value.okWide P w r b0 t v) (h : DataW.Trod enc P w base (fun _ => true) true t v d p) :
    ∃ (o : Option Addr) (len cap : Nat) (Z : Nat → Int), v = .slice o len cap ∧ (len : Int) ≤ 9223372036854775807 ∧
      ∀ i, i < len → ∃ a, o = some a ∧ w.cell? (a.add i) = some (.int .i64 (Z i)) ∧ -9223372036854775808 ≤ Z i ∧ Z i ≤ 9223372036854775807 := by
  obtain ⟨a0, len0, cap0, rfl⟩ := okWide_slice ht hv
  obtain ⟨fuel, hf⟩ := h
  rcases open_ints ht he hc hf with ⟨hcs, _⟩ | ⟨a, len, cap, zs, hcs, _, hl, hm, hz, _, hcell, hw⟩
  · simp only [Value.cells, List.cons.injEq, Value.slice.injEq] at hcs
    obtain ⟨⟨rfl, rfl, rfl⟩, _⟩ := hcs
    exact ⟨none, 0, 0, fun _ => 0, rfl, by omega, fun i hi => by omega⟩
  · simp only [Value.cells, List.cons.injEq, Value.slice.injEq] at hcs
    obtain ⟨⟨rfl, rfl, rfl⟩, _⟩ := hcs
    simp only [if_true] at hz
    refine ⟨some a, len0, cap0, fun i => zs.getD i 0, rfl, by unfold maxLen at hm; omega, fun i hi => ⟨a, rfl, hcell i (by omega), ?_⟩⟩
    have hmem : zs.getD i 0 ∈ zs := by
      rw [List.getD, List.getElem?_eq_getElem (by omega)]
      exact List.getElem_mem _
    exact ⟨i64_lo (hw _ hmem), i64_hi (hw _ hmem)⟩
theorem open_strings_all {H : Type} {enc : TypeId × Value → H} {P : Program} {w : World} {base : Nat} {r : Reach} {b0 : Nat} {t e : TypeId} {v : Value} {d : DataW H} {p : List MemPlace}
    (ht : P.underlying t = some (.slice e)) (he : P.underlying e = some .string) (hc : P.cellsOf e = 1) (hv : Value.okWide P w r b0 t v) (h : DataW.Trod enc P w base (fun _ => true) true t v d p) :
    ∃ (o : Option Addr) (len cap : Nat) (S : Nat → ByteArray), v = .slice o len cap ∧ (len : Int) ≤ 9223372036854775807 ∧
      ∀ i, i < len → ∃ a, o = some a ∧ w.cell? (a.add i) = some (.string (S i)) ∧ ((S i).size : Int) ≤ 9223372036854775807 := by
  obtain ⟨a0, len0, cap0, rfl⟩ := okWide_slice ht hv
  obtain ⟨fuel, hf⟩ := h
  rcases open_strings ht he hc hf with ⟨hcs, _⟩ | ⟨a, len, cap, ss, hcs, _, hl, hm, hz, _, hcell, hw⟩
  · simp only [Value.cells, List.cons.injEq, Value.slice.injEq] at hcs
    obtain ⟨⟨rfl, rfl, rfl⟩, _⟩ := hcs
    exact ⟨none, 0, 0, fun _ => ByteArray.empty, rfl, by omega, fun i hi => by omega⟩
  · simp only [Value.cells, List.cons.injEq, Value.slice.injEq] at hcs
    obtain ⟨⟨rfl, rfl, rfl⟩, _⟩ := hcs
    simp only [if_true] at hz
    refine ⟨some a, len0, cap0, fun i => ss.getD i ByteArray.empty, rfl, by unfold maxLen at hm; omega, fun i hi => ⟨a, rfl, hcell i (by omega), ?_⟩⟩
    have hmem : ss.getD i ByteArray.empty ∈ ss := by
      rw [List.getD, List.getElem?_eq_getElem (by omega)]
      exact List.getElem_mem _
    exact str_max (hw _ hmem)
end Go.Proofs.YtnjkinljpekohaaGreatDoor
namespace Go.Proofs.YtnjkinljpekohaaGreatDoor
open Go.RowKit
theorem spot_none {w : World} {a : Addr} {v : Value} (h : w.cell? a = some v) : a.spot = none := by
  unfold World.cell? at h
  split at h
  · split at h
    · cases h
    · rename_i h1
      simpa using h1
  · cases h
theorem strs_open {w : World} {A : Option Addr} {n : Nat} {S : Nat → ByteArray} (h : ∀ i, i < n → ∃ a, A = some a ∧ w.cell? (a.add i) = some (.string (S i)) ∧ ((S i).size : Int) ≤ 9223372036854775807) : ∃ L : List ByteArray, L.length = n ∧ StrsAt w A L ∧ ∀ s ∈ L, (s.size : Int) ≤ 9223372036854775807 := by
  refine ⟨(List.range n).map S, by simp, fun i hi => ?_, fun s hs => ?_⟩
  · have hi : i < n := by simpa using hi
    obtain ⟨a, rfl, hc0, _⟩ := h 0 (by omega)
    obtain ⟨a', e', hc, _⟩ := h i hi
    obtain rfl := Option.some.inj e'
    have hn : a.spot = none := spot_none (show w.cell? a = some (.string (S 0)) from hc0)
    obtain ⟨b, o, sp⟩ := a
    have hn : sp = none := hn
    subst hn
    refine ⟨b, o, rfl, ?_⟩
    rw [show ((List.range n).map S).getD i ⟨#[]⟩ = S i by simp [List.getD, hi]]
    rw [show (⟨b, o, none⟩ : Addr).add i = ⟨b, o + i, none⟩ by unfold Addr.add; split <;> simp_all] at hc
    exact hc
  · obtain ⟨i, hi, rfl⟩ := List.mem_map.1 hs
    obtain ⟨a, _, _, h3⟩ := h i (List.mem_range.1 hi)
    exact h3
end Go.Proofs.YtnjkinljpekohaaGreatDoor
