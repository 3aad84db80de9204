/- The post of a law's row out of Below; what arguments hold: integers, strings, slices of integers, of bools. Nothing of the program stands here. -/
import Derived.Test.YtndfakbklfidhaaRows
import Derived.Test.YtndfakbklfidhaaMem
import Derived.ProofKit
import Derived.OpenShut
import Derived.Deep.DeepHandedRow
namespace Go.Proofs.Ytndfakbklfidhaa
open Go.ChangeShapes Go.WideShapes Go.ChangeAt Go.RowKit
theorem own : ownKnob Try.prog.godebug = none := by kernel_rfl
theorem laidOut : laidOutB Try.prog = true := by kernel_rfl
/-- the post of a row out of 'nothing that lay has turned' -/
theorem post_below {H : Type} {enc : TypeId × Value → H} {P : Program} {f : Func} {s : ChangeSpec} {apart fresh handsOn again : Bool} {W W' : World} {args : Array Value} {v : Value} {ds gs : List (DataW H)} {before pa pv : List MemPlace}
    (hW : DataW.Whole enc P f.params.toList s.vars apart W args.toList ds gs before)
    (hres : ∀ (b : Nat) (sp : Nat → Bool) (hd : Bool), DataW.TrodAll enc P W' b sp hd f.resultTypes.toList (v.resultList f.resultTypes.size) (s.fn H (ds ++ gs)).results [])
    (hargs : ∀ sp : Nat → Bool, (∀ p ∈ before, sp p.block = true) → DataW.TrodAll enc P W' 0 sp true f.params.toList args.toList (s.fn H (ds ++ gs)).args pa)
    (hvars : ∀ sp : Nat → Bool, (∀ p ∈ before, sp p.block = true) → DataW.TrodVars enc P W' sp s.vars (s.fn H (ds ++ gs)).vars pv)
    (hps : before = pa ++ pv) (hb : Below W.heap.size W W')
    (hok : ∀ (j : Nat) (t : TypeId) (r : Value), f.resultTypes[j]? = some t → (v.resultList f.resultTypes.size)[j]? = some r → Value.okWide P W' .any 0 t r) :
    s.post enc P f apart fresh handsOn again W args v W' := by
  have hlt : ∀ p ∈ before, p.block < W.heap.size := fun p hp => hW.lt p hp
  have hold : ∀ p ∈ before, (fun b => decide (b < W.heap.size)) p.block = true := fun p hp => decide_eq_true (hlt p hp)
  have hin : ∀ p ∈ before, p ∈ pa ++ pv := fun p hp => hps ▸ hp
  have hin' : ∀ p ∈ pa ++ pv, p ∈ before := fun p hp => hps ▸ hp
  refine ⟨ds, gs, before, [], pa, pv, hW, hres _ _ _, hargs _ hold, hvars _ hold, ?_, ?_⟩
  · exact World.keptBut_mono (fun p hp => ⟨hp, .inr (List.mem_append.1 (hin p hp))⟩) (hb.frame (· ∈ before))
  · intro _
    obtain ⟨_, _, _, _, _, hz, hn⟩ := hW
    refine ⟨hok, _, _, ([] ++ pa) ++ pv, ⟨[] ++ pa, pv, trodAll_append (hargs _ (fun _ _ => rfl)) (hres _ _ _), hvars _ (fun _ _ => rfl), rfl, ?_, ?_⟩, ?_⟩
    · intro b off hp
      have hp' : MemPlace.cell b off ∈ before := hin' _ (by simpa using hp)
      rw [hb.frozen (hlt _ hp')]
      exact hz b off hp'
    · intro ha
      simpa [hps] using hn ha
    · intro p hp _
      exact hin' _ (by simpa using hp)

/-- arguments below the old heap's end read as they did -/
theorem args_stay {H : Type} {enc : TypeId × Value → H} {P : Program} (hl : laidOutB P = true) {W W' : World} (hb : Below W.heap.size W W') (sp : Nat → Bool) :
    ∀ (ts : List TypeId) (vs : List Value) (ds : List (DataW H)) (ps : List MemPlace), (∀ t ∈ ts, P.readableRec t = true ∧ t < P.types.size) → DataW.TrodAll enc P W 0 (fun _ => true) true ts vs ds ps →
      (∀ x ∈ ps, x.block < W.heap.size) → (∀ x ∈ ps, sp x.block = true) → DataW.TrodAll enc P W' 0 sp true ts vs ds ps
  | [], vs, ds, ps, _, h, _, _ => by obtain ⟨rfl, rfl, rfl⟩ := trodAll_nil h; exact h
  | t :: ts, vs, ds, ps, hr, h, hlt, hsp => by
    obtain ⟨v, vs', d, ds', p, q, rfl, rfl, rfl, h1, h2⟩ := trodAll_cons h
    exact trodAll_cons_mk (WideElems.Trod_stays hl (hr t (by simp)).1 (hr t (by simp)).2 h1 (fun x hx => hb.same (hlt x (by simp [hx]))) (fun x hx => hsp x (by simp [hx])))
      (args_stay hl hb sp ts vs' ds' q (fun t ht => hr t (by simp [ht])) h2 (fun x hx => hlt x (by simp [hx])) (fun x hx => hsp x (by simp [hx])))

/-- the post of a law's row, for arguments of whatever types -/
theorem law_post {H : Type} {enc : TypeId × Value → H} {P : Program} {f : Func} {s : ChangeSpec} {W W' : World} {args : Array Value} {ds gs : List (DataW H)} {before : List MemPlace} {tb : TypeId}
    (hl : laidOutB P = true) (hr : ∀ t ∈ f.params.toList, P.readableRec t = true ∧ t < P.types.size) (hW : DataW.Whole enc P f.params.toList s.vars false W args.toList ds gs before) (hv : s.vars = [])
    (hspec : s.fn H (ds ++ gs) = { results := [.lit (.bool true)], args := ds }) (hrt : f.resultTypes = #[tb]) (htb : P.underlying tb = some .bool) (hb : Below W.heap.size W W') :
    s.post enc P f false true false false W args (.bool true) W' := by
  have hW' := hW
  obtain ⟨p, q, hA, hV, hps, hz, hn⟩ := hW
  rw [hv] at hV
  obtain ⟨rfl, rfl⟩ := trodVars_none hV
  have hlt : ∀ x ∈ p, x.block < W.heap.size := fun x hx => hW'.lt x (by rw [hps]; simpa using hx)
  refine post_below (pa := p) (pv := []) hW' ?_ ?_ ?_ hps hb ?_
  · intro b sp hd
    rw [hspec, hrt]
    exact trodAll_cons_mk (shut_bool htb true) trodAll_mk0
  · intro sp hsp
    rw [hspec]
    exact args_stay hl hb sp _ _ _ _ hr hA hlt (fun x hx => hsp x (by rw [hps]; simpa using hx))
  · intro sp _
    rw [hspec, hv]
    exact rfl
  · exact ok_one hrt rfl (okWide_bool_mk htb true)

theorem i64_lo {x : Int} (h : (Lit.int .i64 x).wf = true) : -9223372036854775808 ≤ x := by
  simp [Lit.wf, IntKind.min, IntKind.max, IntKind.signed, IntKind.bits] at h; omega
theorem i64_hi {x : Int} (h : (Lit.int .i64 x).wf = true) : x ≤ 9223372036854775807 := by
  simp [Lit.wf, IntKind.min, IntKind.max, IntKind.signed, IntKind.bits] at h; omega
theorem laid_none (P : Program) (w : World) : laidMetH P [] w := ⟨[], rfl, List.nodup_nil, fun _ _ h => by simp at h⟩
theorem addr_plain {w : World} {a : Addr} {v : Value} (h : w.cell? a = some v) : a = ⟨a.block, a.off, none⟩ := by
  obtain ⟨b, o, s⟩ := a
  cases s with
  | none => rfl
  | some s => simp only [World.cell?] at h; split at h <;> simp at h
theorem add_add (a : Addr) (i j : Nat) (hs : a.spot = none) : (a.add i).add j = ⟨a.block, a.off + i + j, none⟩ := by
  obtain ⟨b, o, s⟩ := a
  simp only at hs
  subst hs
  unfold Addr.add
  split
  · split
    · subst_vars; rfl
    · subst_vars; simp
  · split
    · subst_vars; simp
    · simp
theorem str_max {s : ByteArray} (h : s.size ≤ maxLen) : (s.size : Int) ≤ 9223372036854775807 := by unfold maxLen at h; omega
/-- a slice whose elements have K cells each: where they lie, and how each reads -/
theorem open_elems {H : Type} {enc : TypeId × Value → H} {P : Program} {w : World} {base : Nat} {r : Reach} {b0 K : Nat} {t u : TypeId} {v : Value} {d : DataW H} {p : List MemPlace}
    (ht : P.underlying t = some (.slice u)) (hct : P.cellsOf u = K) (hK : 0 < K) (hv : Value.okWide P w r b0 t v) (h : DataW.Trod enc P w base (fun _ => true) true t v d p) :
    ∃ (A : Option Addr) (len cap : Nat), v = .slice A len cap ∧ len ≤ cap ∧ (cap : Int) ≤ 9223372036854775807 ∧ ∀ i, i < len → ∃ (b o : Nat) (cs : List Value) (x : DataW H × List MemPlace) (fuel : Nat),
      A = some ⟨b, o, none⟩ ∧ cs.length = K ∧ (∀ j, j < K → w.cell? ⟨b, o + i * K + j, none⟩ = some (cs.getD j undef)) ∧ DataW.trod enc P w base (fun _ => true) true fuel u cs = some x := by
  obtain ⟨a0, len0, cap0, rfl⟩ := okWide_slice ht hv
  obtain ⟨fuel, hf⟩ := h
  simp only [Value.cells] at hf
  rcases DataW.trod_slice ht hf with ⟨hcs, _⟩ | ⟨a, len, cap, elems, rest, n, _, hcs, _, hb, hl, hm, hlen, hel, _, _⟩
  · simp only [List.cons.injEq, Value.slice.injEq] at hcs
    obtain ⟨⟨rfl, rfl, rfl⟩, _⟩ := hcs
    exact ⟨none, 0, 0, rfl, by omega, by omega, fun i hi => absurd hi (by omega)⟩
  · simp only [List.cons.injEq, Value.slice.injEq] at hcs
    obtain ⟨⟨rfl, rfl, rfl⟩, _⟩ := hcs
    refine ⟨some a, len0, cap0, rfl, hl, by unfold maxLen at hm; omega, fun i hi => ?_⟩
    have h1 := hel i hi
    rw [List.getElem?_eq_getElem (by omega), hct] at h1
    obtain ⟨cs, h2, h3⟩ := Option.bind_eq_some_iff.1 h1
    obtain ⟨_, h20, h4⟩ := World.cells?_some h2
    have hs : a.spot = none := by
      have g1 := hel 0 (by omega)
      rw [List.getElem?_eq_getElem (by omega), hct, Nat.zero_mul] at g1
      obtain ⟨cs0, g2, _⟩ := Option.bind_eq_some_iff.1 g1
      obtain ⟨_, g3, g4⟩ := World.cells?_some g2
      have h0 := g4 0 hK
      rw [List.getElem?_eq_getElem (by omega)] at h0
      have hz : (a.add 0).add 0 = a := by simp [Addr.add]
      rw [hz] at h0
      exact congrArg Addr.spot (addr_plain h0)
    refine ⟨a.block, a.off, cs, _, _, by obtain ⟨b, o, s⟩ := a; simp only at hs; subst hs; rfl, h20, fun j hj => ?_, h3⟩
    have h5 := h4 j hj
    rw [add_add _ _ _ hs] at h5
    rw [h5, List.getD, List.getElem?_eq_getElem (by omega)]
    rfl
theorem cells_one {cs : List Value} {v : Value} (h : cs = [v]) : cs.getD 0 undef = v := by subst h; rfl
/-- a slice of integers -/
theorem open_intl {H : Type} {enc : TypeId × Value → H} {P : Program} {w : World} {base : Nat} {r : Reach} {b0 : Nat} {t u : TypeId} {v : Value} {d : DataW H} {p : List MemPlace}
    (ht : P.underlying t = some (.slice u)) (hu : P.underlying u = some (.int .i64)) (hct : P.cellsOf u = 1) (hv : Value.okWide P w r b0 t v) (h : DataW.Trod enc P w base (fun _ => true) true t v d p) :
    ∃ (A : Option Addr) (cap : Nat) (L : List Int), v = .slice A L.length cap ∧ L.length ≤ cap ∧ (cap : Int) ≤ 9223372036854775807 ∧ (∀ i, i < L.length → ∃ b o, A = some ⟨b, o, none⟩ ∧ w.cell? ⟨b, o + i, none⟩ = some (.int .i64 (L.getD i 0))) ∧
      ∀ i, i < L.length → -9223372036854775808 ≤ L.getD i 0 ∧ L.getD i 0 ≤ 9223372036854775807 := by
  obtain ⟨A, len, cap, rfl, h1, h2, h3⟩ := open_elems ht hct (by omega) hv h
  have hE : ∀ i : Fin len, ∃ z : Int, (∃ b o, A = some ⟨b, o, none⟩ ∧ w.cell? ⟨b, o + i.1, none⟩ = some (.int .i64 z)) ∧ -9223372036854775808 ≤ z ∧ z ≤ 9223372036854775807 := fun i => by
    obtain ⟨b, o, cs, x, fuel, hA, hl, hc, hx⟩ := h3 i.1 i.2
    obtain ⟨z, hz, _, hw⟩ := DataW.trod_int hu hx
    have h0 := hc 0 (by omega)
    rw [cells_one hz] at h0
    exact ⟨z, ⟨b, o, hA, by simpa using h0⟩, i64_lo hw, i64_hi hw⟩
  refine ⟨A, cap, List.ofFn fun i => Classical.choose (hE i), by rw [List.length_ofFn], by rw [List.length_ofFn]; exact h1, h2, fun i hi => ?_, fun i hi => ?_⟩
  all_goals
    rw [List.length_ofFn] at hi
    have hs := Classical.choose_spec (hE ⟨i, hi⟩)
    rw [List.getD, List.getElem?_ofFn]
    simp only [hi, dif_pos, Option.getD_some]
  · exact hs.1
  · exact hs.2
end Go.Proofs.Ytndfakbklfidhaa
