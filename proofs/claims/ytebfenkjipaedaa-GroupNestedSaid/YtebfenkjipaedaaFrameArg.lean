/- Arguments opened: arrays of integers, slices of arrays of three integers; the post of a law's row out of Below. Nothing of the program stands here. -/
import Derived.Test.YtebfenkjipaedaaRows
import Derived.Test.YtebfenkjipaedaaGa
import Derived.Test.YtebfenkjipaedaaMem
import Derived.ProofKit
import Derived.OpenShut
import Derived.Deep.DeepHandedRow
namespace Go.Proofs.Ytebfenkjipaedaa
open Go.ChangeShapes Go.WideShapes Go.ChangeAt Go.RowKit Str
theorem own : ownKnob Try.prog.godebug = none := by kernel_rfl
theorem laidOut : laidOutB Try.prog = true := by kernel_rfl
/-- the post of a row out of 'nothing that lay has turned' -/
theorem post_below {H : Type} {enc : TypeId × Value → H} {P : Program} {f : Func} {s : ChangeSpec} {apart fresh handsOn again : Bool} {W W' : World} {args : Array Value} {v : Value} {ds gs : List (DataW H)} {before pa pv : List MemPlace}
    (hW : DataW.Whole enc P f.params.toList s.vars apart W args.toList ds gs before)
    (hres : ∀ (b : Nat) (sp : Nat → Bool) (hd : Bool), DataW.TrodAll enc P W' b sp hd f.resultTypes.toList (v.resultList f.resultTypes.size) (s.fn H (ds ++ gs)).results [])
    (hargs : ∀ sp : Nat → Bool, (∀ p ∈ before, sp p.block = true) → DataW.TrodAll enc P W' 0 sp true f.params.toList args.toList (s.fn H (ds ++ gs)).args pa)
    (hvars : ∀ sp : Nat → Bool, (∀ p ∈ before, sp p.block = true) → DataW.TrodVars enc P W' sp s.vars (s.fn H (ds ++ gs)).vars pv)
    (hps : before = pa ++ pv) (hb : Below W.heap.size W W')
    (hok : ∀ (j : Nat) (t : TypeId) (r : Value), f.resultTypes[j]? = some t → (v.resultList f.resultTypes.size)[j]? = some r → Value.okWide P W' .any 0 t r) :
    s.post enc P f apart fresh handsOn again W args v W' := by
  have hlt : ∀ p ∈ before, p.block < W.heap.size := fun p hp => hW.lt p hp
  have hold : ∀ p ∈ before, (fun b => decide (b < W.heap.size)) p.block = true := fun p hp => decide_eq_true (hlt p hp)
  have hin : ∀ p ∈ before, p ∈ pa ++ pv := fun p hp => hps ▸ hp
  have hin' : ∀ p ∈ pa ++ pv, p ∈ before := fun p hp => hps ▸ hp
  refine ⟨ds, gs, before, [], pa, pv, hW, hres _ _ _, hargs _ hold, hvars _ hold, ?_, ?_⟩
  · exact World.keptBut_mono (fun p hp => ⟨hp, .inr (List.mem_append.1 (hin p hp))⟩) (hb.frame (· ∈ before))
  · intro _
    obtain ⟨_, _, _, _, _, hz, hn⟩ := hW
    refine ⟨hok, _, _, ([] ++ pa) ++ pv, ⟨[] ++ pa, pv, trodAll_append (hargs _ (fun _ _ => rfl)) (hres _ _ _), hvars _ (fun _ _ => rfl), rfl, ?_, ?_⟩, ?_⟩
    · intro b off hp
      have hp' : MemPlace.cell b off ∈ before := hin' _ (by simpa using hp)
      rw [hb.frozen (hlt _ hp')]
      exact hz b off hp'
    · intro ha
      simpa [hps] using hn ha
    · intro p hp _
      exact hin' _ (by simpa using hp)

/-- arguments below the old heap's end read as they did -/
theorem args_stay {H : Type} {enc : TypeId × Value → H} {P : Program} (hl : laidOutB P = true) {W W' : World} (hb : Below W.heap.size W W') (sp : Nat → Bool) :
    ∀ (ts : List TypeId) (vs : List Value) (ds : List (DataW H)) (ps : List MemPlace), (∀ t ∈ ts, P.readableRec t = true ∧ t < P.types.size) → DataW.TrodAll enc P W 0 (fun _ => true) true ts vs ds ps →
      (∀ x ∈ ps, x.block < W.heap.size) → (∀ x ∈ ps, sp x.block = true) → DataW.TrodAll enc P W' 0 sp true ts vs ds ps
  | [], vs, ds, ps, _, h, _, _ => by obtain ⟨rfl, rfl, rfl⟩ := trodAll_nil h; exact h
  | t :: ts, vs, ds, ps, hr, h, hlt, hsp => by
    obtain ⟨v, vs', d, ds', p, q, rfl, rfl, rfl, h1, h2⟩ := trodAll_cons h
    exact trodAll_cons_mk (WideElems.Trod_stays hl (hr t (by simp)).1 (hr t (by simp)).2 h1 (fun x hx => hb.same (hlt x (by simp [hx]))) (fun x hx => hsp x (by simp [hx])))
      (args_stay hl hb sp ts vs' ds' q (fun t ht => hr t (by simp [ht])) h2 (fun x hx => hlt x (by simp [hx])) (fun x hx => hsp x (by simp [hx])))

/-- the post of a law's row, for arguments of whatever types -/
theorem law_post {H : Type} {enc : TypeId × Value → H} {P : Program} {f : Func} {s : ChangeSpec} {W W' : World} {args : Array Value} {ds gs : List (DataW H)} {before : List MemPlace} {tb : TypeId}
    (hl : laidOutB P = true) (hr : ∀ t ∈ f.params.toList, P.readableRec t = true ∧ t < P.types.size) (hW : DataW.Whole enc P f.params.toList s.vars false W args.toList ds gs before) (hv : s.vars = [])
    (hspec : s.fn H (ds ++ gs) = { results := [.lit (.bool true)], args := ds }) (hrt : f.resultTypes = #[tb]) (htb : P.underlying tb = some .bool) (hb : Below W.heap.size W W') :
    s.post enc P f false true false false W args (.bool true) W' := by
  have hW' := hW
  obtain ⟨p, q, hA, hV, hps, hz, hn⟩ := hW
  rw [hv] at hV
  obtain ⟨rfl, rfl⟩ := trodVars_none hV
  have hlt : ∀ x ∈ p, x.block < W.heap.size := fun x hx => hW'.lt x (by rw [hps]; simpa using hx)
  refine post_below (pa := p) (pv := []) hW' ?_ ?_ ?_ hps hb ?_
  · intro b sp hd
    rw [hspec, hrt]
    exact trodAll_cons_mk (shut_bool htb true) trodAll_mk0
  · intro sp hsp
    rw [hspec]
    exact args_stay hl hb sp _ _ _ _ hr hA hlt (fun x hx => hsp x (by rw [hps]; simpa using hx))
  · intro sp _
    rw [hspec, hv]
    exact rfl
  · exact ok_one hrt rfl (okWide_bool_mk htb true)

theorem i64_lo {x : Int} (h : (Lit.int .i64 x).wf = true) : -9223372036854775808 ≤ x := by
  simp [Lit.wf, IntKind.min, IntKind.max, IntKind.signed, IntKind.bits] at h; omega
theorem i64_hi {x : Int} (h : (Lit.int .i64 x).wf = true) : x ≤ 9223372036854775807 := by
  simp [Lit.wf, IntKind.min, IntKind.max, IntKind.signed, IntKind.bits] at h; omega
theorem laid_none (P : Program) (w : World) : laidMetH P [] w := ⟨[], rfl, List.nodup_nil, fun _ _ h => by simp at h⟩
/-- the number in a cell -/
def numV : Value → Int
  | .int _ z => z
  | _ => 0
def numAt (w : World) (a : Addr) : Int := numV ((w.cell? a).getD undef)
theorem ints_of_array {H : Type} {enc : TypeId × Value → H} {P : Program} {w : World} {base : Nat} {spare : Nat → Bool} {held : Bool} {fuel n : Nat} {t e : TypeId} {cs : List Value} {x : DataW H × List MemPlace}
    (ha : P.underlying t = some (.array n e)) (he : P.underlying e = some (.int .i64)) (hce : P.cellsOf e = 1) (hct : P.cellsOf t = n) (h : DataW.trod enc P w base spare held fuel t cs = some x) :
    cs.length = n ∧ ∀ i, i < n → cs[i]? = some (.int .i64 (numV (cs.getD i undef))) ∧ (-9223372036854775808 ≤ numV (cs.getD i undef) ∧ numV (cs.getD i undef) ≤ 9223372036854775807) := by
  obtain ⟨xs, m, _, _, hcl, hxl, hx⟩ := DataW.trod_array ha h
  rw [hct] at hcl
  refine ⟨hcl, fun i hi => ?_⟩
  have k := hx i hi
  rw [hce, Nat.mul_one, List.getElem?_eq_getElem (by omega)] at k
  obtain ⟨z, ez, _, hz⟩ := DataW.trod_int he k
  have hz2 : cs[i]? = some (.int .i64 z) := by
    have := congrArg (fun l => l[0]?) ez
    simpa [List.getElem?_take, List.getElem?_drop] using this
  rw [List.getD, hz2]
  exact ⟨rfl, i64_lo hz, i64_hi hz⟩
/-- an array of integers by value -/
theorem open_intarr {H : Type} {enc : TypeId × Value → H} {P : Program} {w : World} {base : Nat} {spare : Nat → Bool} {held : Bool} {r : Reach} {b0 n : Nat} {t e : TypeId} {v : Value} {d : DataW H} {p : List MemPlace}
    (ha : P.underlying t = some (.array n e)) (he : P.underlying e = some (.int .i64)) (hce : P.cellsOf e = 1) (hct : P.cellsOf t = n) (hv : Value.okWide P w r b0 t v) (h : DataW.Trod enc P w base spare held t v d p) :
    ∃ l : List Int, l.length = n ∧ v = .agg (l.map (Value.int .i64)).toArray ∧ ∀ x ∈ l, -9223372036854775808 ≤ x ∧ x ≤ 9223372036854775807 := by
  simp only [Value.okWide, ha] at hv
  obtain ⟨⟨cs⟩, rfl, hsz, _⟩ := hv
  obtain ⟨fuel, hf⟩ := h
  simp only [Value.cells] at hf
  obtain ⟨hl, hx⟩ := ints_of_array ha he hce hct hf
  refine ⟨cs.map numV, by simpa using hl, ?_, ?_⟩
  · congr 2
    refine List.ext_getElem (by simp) fun i h1 h2 => ?_
    have h3 := (hx i (by omega)).1
    rw [List.getD, List.getElem?_eq_getElem h1] at h3
    simpa using Option.some.inj h3
  · intro x hm
    obtain ⟨v, hv, rfl⟩ := List.mem_map.1 hm
    obtain ⟨i, hi, rfl⟩ := List.getElem_of_mem hv
    have h3 := (hx i (by omega)).2
    rw [List.getD, List.getElem?_eq_getElem hi] at h3
    exact h3
theorem addr_plain {w : World} {a : Addr} {v : Value} (h : w.cell? a = some v) : a = ⟨a.block, a.off, none⟩ := by
  obtain ⟨b, o, s⟩ := a
  cases s with
  | none => rfl
  | some s => simp only [World.cell?] at h; split at h <;> simp at h
theorem add_add (a : Addr) (i j : Nat) (hs : a.spot = none) : (a.add i).add j = ⟨a.block, a.off + i + j, none⟩ := by
  obtain ⟨b, o, s⟩ := a
  simp only at hs
  subst hs
  unfold Addr.add
  split
  · split
    · subst_vars; rfl
    · subst_vars; simp
  · split
    · subst_vars; simp
    · simp
/-- a slice of arrays of three integers -/
theorem open_rows3 {H : Type} {enc : TypeId × Value → H} {P : Program} {w : World} {base : Nat} {r : Reach} {b0 : Nat} {t u e : TypeId} {v : Value} {d : DataW H} {p : List MemPlace}
    (ht : P.underlying t = some (.slice u)) (ha : P.underlying u = some (.array 3 e)) (he : P.underlying e = some (.int .i64)) (hce : P.cellsOf e = 1) (hct : P.cellsOf u = 3) (hv : Value.okWide P w r b0 t v) (h : DataW.Trod enc P w base (fun _ => true) true t v d p) :
    ∃ (A : Option Addr) (cap : Nat) (es : List E3), v = .slice A es.length cap ∧ (es.length : Int) ≤ 9223372036854775807 ∧
      (∀ i, i < es.length → ∃ b o, A = some ⟨b, o, none⟩ ∧ w.cell? ⟨b, o + i * 3, none⟩ = some (.int .i64 (es.getD i ⟨0, 0, 0⟩).a) ∧ w.cell? ⟨b, o + i * 3 + 1, none⟩ = some (.int .i64 (es.getD i ⟨0, 0, 0⟩).b) ∧ w.cell? ⟨b, o + i * 3 + 2, none⟩ = some (.int .i64 (es.getD i ⟨0, 0, 0⟩).c)) ∧
      ∀ x ∈ es, (-9223372036854775808 ≤ x.a ∧ x.a ≤ 9223372036854775807) ∧ (-9223372036854775808 ≤ x.b ∧ x.b ≤ 9223372036854775807) ∧ -9223372036854775808 ≤ x.c ∧ x.c ≤ 9223372036854775807 := by
  obtain ⟨a0, len0, cap0, rfl⟩ := okWide_slice ht hv
  obtain ⟨fuel, hf⟩ := h
  simp only [Value.cells] at hf
  rcases DataW.trod_slice ht hf with ⟨hcs, _⟩ | ⟨a, len, cap, elems, rest, n, _, hcs, _, hb, hl, hm, hlen, hel, _, _⟩
  · simp only [List.cons.injEq, Value.slice.injEq] at hcs
    obtain ⟨⟨rfl, rfl, rfl⟩, _⟩ := hcs
    exact ⟨none, 0, [], rfl, by simp, fun i hi => absurd hi (by simp), fun x hx => by simp at hx⟩
  · simp only [List.cons.injEq, Value.slice.injEq] at hcs
    obtain ⟨⟨rfl, rfl, rfl⟩, _⟩ := hcs
    have each : ∀ i, i < len0 → ∃ cs : List Value, (∀ j, j < 3 → w.cell? ((a.add (i * 3)).add j) = some (.int .i64 (numV (cs.getD j undef))) ∧ -9223372036854775808 ≤ numV (cs.getD j undef) ∧ numV (cs.getD j undef) ≤ 9223372036854775807) := fun i hi => by
      have h1 := hel i hi
      rw [List.getElem?_eq_getElem (by omega), hct] at h1
      obtain ⟨cs, h2, h3⟩ := Option.bind_eq_some_iff.1 h1
      obtain ⟨_, _, h4⟩ := World.cells?_some h2
      obtain ⟨_, h5⟩ := ints_of_array ha he hce hct h3
      exact ⟨cs, fun j hj => ⟨(h4 j hj).trans (h5 j hj).1, (h5 j hj).2⟩⟩
    have hE : ∀ i, i < len0 → ∃ e : E3, (w.cell? ((a.add (i * 3)).add 0) = some (.int .i64 e.a) ∧ w.cell? ((a.add (i * 3)).add 1) = some (.int .i64 e.b) ∧ w.cell? ((a.add (i * 3)).add 2) = some (.int .i64 e.c)) ∧ (-9223372036854775808 ≤ e.a ∧ e.a ≤ 9223372036854775807) ∧ (-9223372036854775808 ≤ e.b ∧ e.b ≤ 9223372036854775807) ∧ -9223372036854775808 ≤ e.c ∧ e.c ≤ 9223372036854775807 := fun i hi => by
      obtain ⟨cs, hc⟩ := each i hi
      exact ⟨⟨_, _, _⟩, ⟨(hc 0 (by omega)).1, (hc 1 (by omega)).1, (hc 2 (by omega)).1⟩, (hc 0 (by omega)).2, (hc 1 (by omega)).2, (hc 2 (by omega)).2⟩
    obtain ⟨es, hes, hall⟩ : ∃ es : List E3, es.length = len0 ∧ ∀ i (hi : i < es.length), (w.cell? ((a.add (i * 3)).add 0) = some (.int .i64 es[i].a) ∧ w.cell? ((a.add (i * 3)).add 1) = some (.int .i64 es[i].b) ∧ w.cell? ((a.add (i * 3)).add 2) = some (.int .i64 es[i].c)) ∧ (-9223372036854775808 ≤ es[i].a ∧ es[i].a ≤ 9223372036854775807) ∧ (-9223372036854775808 ≤ es[i].b ∧ es[i].b ≤ 9223372036854775807) ∧ -9223372036854775808 ≤ es[i].c ∧ es[i].c ≤ 9223372036854775807 := by
      have hE' : ∀ i : Fin len0, _ := fun i => hE i.1 i.2
      refine ⟨List.ofFn fun i : Fin len0 => Classical.choose (hE' i), by simp, fun i hi => ?_⟩
      have hi2 : i < len0 := by simpa using hi
      have := Classical.choose_spec (hE' ⟨i, hi2⟩)
      simpa using this
    subst hes
    refine ⟨some a, cap0, es, rfl, by unfold maxLen at hm; omega, fun i hi => ?_, fun x hx => ?_⟩
    · obtain ⟨⟨c0, c1, c2⟩, _⟩ := hall i hi
      have hz : (a.add (0 * 3)).add 0 = a := by simp [Addr.add]
      have hs : a.spot = none := by
        have h0 := (hall 0 (by omega)).1.1
        rw [hz] at h0
        exact congrArg Addr.spot (addr_plain h0)
      rw [add_add _ _ _ hs] at c0 c1 c2
      refine ⟨a.block, a.off, by obtain ⟨b, o, s⟩ := a; simp only at hs; subst hs; rfl, ?_⟩
      rw [List.getD, List.getElem?_eq_getElem hi]
      exact ⟨c0, c1, c2⟩
    · obtain ⟨i, hi, rfl⟩ := List.getElem_of_mem hx
      exact (hall i hi).2
end Go.Proofs.Ytebfenkjipaedaa
