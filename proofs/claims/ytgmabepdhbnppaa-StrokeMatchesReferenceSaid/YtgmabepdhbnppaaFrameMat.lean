/- The arguments of the law StrokeMatchesReference opened: a dot, a stroke, places, indices. -/
import Derived.Test.YtgmabepdhbnppaaFrameArg
import Derived.Test.YtgmabepdhbnppaaStrokeSmall
import Derived.Deep.Strs
import Derived.ChangeSame
namespace Go.Proofs.Ytgmabepdhbnppaa
open Go.ChangeShapes Go.WideShapes Go.ChangeAt Go.RowKit Str Go.Deep
theorem one_cell {P : Program} {cs : List Value} {o k : Nat} {t : TypeId} {v : Value} (hc : P.cellsOf t = 1) (ho : o = k) (h : (cs.drop o).take (P.cellsOf t) = [v]) : cs.getD k undef = v := by
  subst ho
  rw [hc] at h
  have := congrArg (fun l => l[0]?) h
  simp only [List.getElem?_take, List.getElem?_drop] at this
  simp at this
  rw [List.getD, this]; rfl
/-- a slice whose elements have K cells each: where they lie, and how each reads -/
theorem open_elems {H : Type} {enc : TypeId × Value → H} {P : Program} {w : World} {base : Nat} {r : Reach} {b0 K : Nat} {t u : TypeId} {v : Value} {d : DataW H} {p : List MemPlace}
    (ht : P.underlying t = some (.slice u)) (hct : P.cellsOf u = K) (hK : 0 < K) (hv : Value.okWide P w r b0 t v) (h : DataW.Trod enc P w base (fun _ => true) true t v d p) :
    ∃ (A : Option Addr) (len cap : Nat), v = .slice A len cap ∧ len ≤ cap ∧ (cap : Int) ≤ 9223372036854775807 ∧ ∀ i, i < len → ∃ (b o : Nat) (cs : List Value) (x : DataW H × List MemPlace) (fuel : Nat),
      A = some ⟨b, o, none⟩ ∧ cs.length = K ∧ (∀ j, j < K → w.cell? ⟨b, o + i * K + j, none⟩ = some (cs.getD j undef)) ∧ DataW.trod enc P w base (fun _ => true) true fuel u cs = some x := by
  obtain ⟨a0, len0, cap0, rfl⟩ := okWide_slice ht hv
  obtain ⟨fuel, hf⟩ := h
  simp only [Value.cells] at hf
  rcases DataW.trod_slice ht hf with ⟨hcs, _⟩ | ⟨a, len, cap, elems, rest, n, _, hcs, _, hb, hl, hm, hlen, hel, _, _⟩
  · simp only [List.cons.injEq, Value.slice.injEq] at hcs
    obtain ⟨⟨rfl, rfl, rfl⟩, _⟩ := hcs
    exact ⟨none, 0, 0, rfl, by omega, by omega, fun i hi => absurd hi (by omega)⟩
  · simp only [List.cons.injEq, Value.slice.injEq] at hcs
    obtain ⟨⟨rfl, rfl, rfl⟩, _⟩ := hcs
    refine ⟨some a, len0, cap0, rfl, hl, by unfold maxLen at hm; omega, fun i hi => ?_⟩
    have h1 := hel i hi
    rw [List.getElem?_eq_getElem (by omega), hct] at h1
    obtain ⟨cs, h2, h3⟩ := Option.bind_eq_some_iff.1 h1
    obtain ⟨_, h20, h4⟩ := World.cells?_some h2
    have hs : a.spot = none := by
      have g1 := hel 0 (by omega)
      rw [List.getElem?_eq_getElem (by omega), hct, Nat.zero_mul] at g1
      obtain ⟨cs0, g2, _⟩ := Option.bind_eq_some_iff.1 g1
      obtain ⟨_, g3, g4⟩ := World.cells?_some g2
      have h0 := g4 0 hK
      rw [List.getElem?_eq_getElem (by omega)] at h0
      have hz : (a.add 0).add 0 = a := by simp [Addr.add]
      rw [hz] at h0
      exact congrArg Addr.spot (addr_plain h0)
    refine ⟨a.block, a.off, cs, _, _, by obtain ⟨b, o, s⟩ := a; simp only at hs; subst hs; rfl, h20, fun j hj => ?_, h3⟩
    have h5 := h4 j hj
    rw [add_add _ _ _ hs] at h5
    rw [h5, List.getD, List.getElem?_eq_getElem (by omega)]
    rfl
theorem cells_one {cs : List Value} {v : Value} (h : cs = [v]) : cs.getD 0 undef = v := by subst h; rfl
/-- a slice of integers -/
theorem open_intl {H : Type} {enc : TypeId × Value → H} {P : Program} {w : World} {base : Nat} {r : Reach} {b0 : Nat} {t u : TypeId} {v : Value} {d : DataW H} {p : List MemPlace}
    (ht : P.underlying t = some (.slice u)) (hu : P.underlying u = some (.int .i64)) (hct : P.cellsOf u = 1) (hv : Value.okWide P w r b0 t v) (h : DataW.Trod enc P w base (fun _ => true) true t v d p) :
    ∃ (A : Option Addr) (cap : Nat) (L : List Int), v = .slice A L.length cap ∧ L.length ≤ cap ∧ (cap : Int) ≤ 9223372036854775807 ∧ (∀ i, i < L.length → ∃ b o, A = some ⟨b, o, none⟩ ∧ w.cell? ⟨b, o + i, none⟩ = some (.int .i64 (L.getD i 0))) ∧
      ∀ i, i < L.length → -9223372036854775808 ≤ L.getD i 0 ∧ L.getD i 0 ≤ 9223372036854775807 := by
  obtain ⟨A, len, cap, rfl, h1, h2, h3⟩ := open_elems ht hct (by omega) hv h
  have hE : ∀ i : Fin len, ∃ z : Int, (∃ b o, A = some ⟨b, o, none⟩ ∧ w.cell? ⟨b, o + i.1, none⟩ = some (.int .i64 z)) ∧ -9223372036854775808 ≤ z ∧ z ≤ 9223372036854775807 := fun i => by
    obtain ⟨b, o, cs, x, fuel, hA, hl, hc, hx⟩ := h3 i.1 i.2
    obtain ⟨z, hz, _, hw⟩ := DataW.trod_int hu hx
    have h0 := hc 0 (by omega)
    rw [cells_one hz] at h0
    exact ⟨z, ⟨b, o, hA, by simpa using h0⟩, i64_lo hw, i64_hi hw⟩
  refine ⟨A, cap, List.ofFn fun i => Classical.choose (hE i), by rw [List.length_ofFn], by rw [List.length_ofFn]; exact h1, h2, fun i hi => ?_, fun i hi => ?_⟩
  all_goals
    rw [List.length_ofFn] at hi
    have hs := Classical.choose_spec (hE ⟨i, hi⟩)
    rw [List.getD, List.getElem?_ofFn]
    simp only [hi, dif_pos, Option.getD_some]
  · exact hs.1
  · exact hs.2
/-- a slice, in a field, whose elements have K cells each -/
theorem elems_raw {H : Type} {enc : TypeId × Value → H} {P : Program} {w : World} {base : Nat} {K : Nat} {t u : TypeId} {fuel : Nat} {cs : List Value} {x : DataW H × List MemPlace}
    (ht : P.underlying t = some (.slice u)) (hct : P.cellsOf u = K) (hK : 0 < K) (hf : DataW.trod enc P w base (fun _ => true) true fuel t cs = some x) :
    ∃ (A : Option Addr) (len cap : Nat), cs = [.slice A len cap] ∧ len ≤ cap ∧ (cap : Int) ≤ 9223372036854775807 ∧ ∀ i, i < len → ∃ (b o : Nat) (cs : List Value) (x : DataW H × List MemPlace) (fuel : Nat),
      A = some ⟨b, o, none⟩ ∧ cs.length = K ∧ (∀ j, j < K → w.cell? ⟨b, o + i * K + j, none⟩ = some (cs.getD j undef)) ∧ DataW.trod enc P w base (fun _ => true) true fuel u cs = some x := by
  rcases DataW.trod_slice ht hf with ⟨hcs, _⟩ | ⟨a, len, cap, elems, rest, n, _, hcs, _, hb, hl, hm, hlen, hel, _, _⟩
  · exact ⟨none, 0, 0, hcs, by omega, by omega, fun i hi => absurd hi (by omega)⟩
  · refine ⟨some a, len, cap, hcs, hl, by unfold maxLen at hm; omega, fun i hi => ?_⟩
    have h1 := hel i hi
    rw [List.getElem?_eq_getElem (by omega), hct] at h1
    obtain ⟨cs, h2, h3⟩ := Option.bind_eq_some_iff.1 h1
    obtain ⟨_, h20, h4⟩ := World.cells?_some h2
    have hs : a.spot = none := by
      have g1 := hel 0 (by omega)
      rw [List.getElem?_eq_getElem (by omega), hct, Nat.zero_mul] at g1
      obtain ⟨cs0, g2, _⟩ := Option.bind_eq_some_iff.1 g1
      obtain ⟨_, g3, g4⟩ := World.cells?_some g2
      have h0 := g4 0 hK
      rw [List.getElem?_eq_getElem (by omega)] at h0
      have hz : (a.add 0).add 0 = a := by simp [Addr.add]
      rw [hz] at h0
      exact congrArg Addr.spot (addr_plain h0)
    refine ⟨a.block, a.off, cs, _, _, by obtain ⟨b, o, s⟩ := a; simp only at hs; subst hs; rfl, h20, fun j hj => ?_, h3⟩
    have h5 := h4 j hj
    rw [add_add _ _ _ hs] at h5
    rw [h5, List.getD, List.getElem?_eq_getElem (by omega)]
    rfl
theorem trod_four {H : Type} {enc : TypeId × Value → H} {P : Program} {w : World} {base : Nat} {spare : Nat → Bool} {held : Bool} {t : TypeId} {f0 f1 f2 f3 : Field} {fuel : Nat} {cs : List Value} {x : DataW H × List MemPlace} (ht : P.underlying t = some (.struct #[f0, f1, f2, f3])) (h : DataW.trod enc P w base spare held fuel t cs = some x) :
    ∃ y0 y1 y2 y3 n, cs.length = P.cellsOf t ∧ DataW.trod enc P w base spare held n f0.type ((cs.drop f0.offset).take (P.cellsOf f0.type)) = some y0 ∧
      DataW.trod enc P w base spare held n f1.type ((cs.drop f1.offset).take (P.cellsOf f1.type)) = some y1 ∧ DataW.trod enc P w base spare held n f2.type ((cs.drop f2.offset).take (P.cellsOf f2.type)) = some y2 ∧
      DataW.trod enc P w base spare held n f3.type ((cs.drop f3.offset).take (P.cellsOf f3.type)) = some y3 := by
  obtain ⟨xs, n, _, rfl, hl, hlen, hf⟩ := DataW.trod_struct ht h
  match xs, hlen with
  | [y0, y1, y2, y3], _ => exact ⟨y0, y1, y2, y3, n, hl, by simpa using hf 0 f0 rfl, by simpa using hf 1 f1 rfl, by simpa using hf 2 f2 rfl, by simpa using hf 3 f3 rfl⟩
theorem four_cells {cs : List Value} (h : cs.length = 4) : cs = [cs.getD 0 undef, cs.getD 1 undef, cs.getD 2 undef, cs.getD 3 undef] := by
  match cs, h with
  | [a, b, c, d], _ => rfl
theorem three_cells {cs : List Value} (h : cs.length = 3) : cs = [cs.getD 0 undef, cs.getD 1 undef, cs.getD 2 undef] := by
  match cs, h with
  | [a, b, c], _ => rfl
theorem two_cells {cs : List Value} (h : cs.length = 2) : cs = [cs.getD 0 undef, cs.getD 1 undef] := by
  match cs, h with
  | [a, b], _ => rfl
set_option maxRecDepth 100000 in
/-- a dot's cells -/
theorem dot_raw {H : Type} {enc : TypeId × Value → H} {w : World} {base : Nat} {spare : Nat → Bool} {held : Bool} {fuel : Nat} {cs : List Value} {x : DataW H × List MemPlace} (h : DataW.trod enc Try.prog w base spare held fuel 24 cs = some x) :
    ∃ d : Dot, cs = [.int .i64 d.x, .int .i64 d.y, .int .i64 d.t, .int .i64 d.p] := by
  obtain ⟨y0, y1, y2, y3, n, hl, t0, t1, t2, t3⟩ := trod_four Try.underlying24 h
  obtain ⟨z0, hz0, _⟩ := DataW.trod_int Try.underlying3 t0
  obtain ⟨z1, hz1, _⟩ := DataW.trod_int Try.underlying3 t1
  obtain ⟨z2, hz2, _⟩ := DataW.trod_int Try.underlying3 t2
  obtain ⟨z3, hz3, _⟩ := DataW.trod_int Try.underlying3 t3
  have hl4 : cs.length = 4 := hl.trans (by kernel_rfl)
  refine ⟨⟨z0, z1, z2, z3⟩, ?_⟩
  rw [four_cells hl4, one_cell (k := 0) (by kernel_rfl) rfl hz0, one_cell (k := 1) (by kernel_rfl) rfl hz1, one_cell (k := 2) (by kernel_rfl) rfl hz2, one_cell (k := 3) (by kernel_rfl) rfl hz3]
set_option maxRecDepth 100000 in
/-- a dot by value -/
theorem open_dot {H : Type} {enc : TypeId × Value → H} {w : World} {base : Nat} {spare : Nat → Bool} {held : Bool} {r : Reach} {b0 : Nat} {v : Value} {d : DataW H} {p : List MemPlace}
    (hv : Value.okWide Try.prog w r b0 24 v) (h : DataW.Trod enc Try.prog w base spare held 24 v d p) :
    ∃ d : Dot, v = .agg #[.int .i64 d.x, .int .i64 d.y, .int .i64 d.t, .int .i64 d.p] := by
  simp only [Value.okWide, Try.underlying24] at hv
  obtain ⟨⟨cs⟩, rfl, hsz⟩ := hv
  obtain ⟨fuel, hf⟩ := h
  simp only [Value.cells] at hf
  obtain ⟨d, rfl⟩ := dot_raw hf
  exact ⟨d, rfl⟩
set_option maxRecDepth 100000 in
/-- dots in a field -/
theorem dots_raw {H : Type} {enc : TypeId × Value → H} {w : World} {base : Nat} {fuel : Nat} {cs : List Value} {x : DataW H × List MemPlace} (h : DataW.trod enc Try.prog w base (fun _ => true) true fuel 25 cs = some x) :
    ∃ (A : Option Addr) (c : Nat) (D : List Dot), cs = [.slice A D.length c] ∧ D.length ≤ c ∧ (c : Int) ≤ 9223372036854775807 ∧ Dots w A D := by
  obtain ⟨A, len, cap, rfl, h1, h2, h3⟩ := elems_raw (K := 4) Try.underlying25 (by kernel_rfl) (by omega) h
  have hE : ∀ i : Fin len, ∃ x : Dot, ∃ b o, A = some ⟨b, o, none⟩ ∧ w.cell? ⟨b, o + i.1 * 4, none⟩ = some (.int .i64 x.x) ∧ w.cell? ⟨b, o + i.1 * 4 + 1, none⟩ = some (.int .i64 x.y) ∧ w.cell? ⟨b, o + i.1 * 4 + 2, none⟩ = some (.int .i64 x.t) ∧ w.cell? ⟨b, o + i.1 * 4 + 3, none⟩ = some (.int .i64 x.p) := fun i => by
    obtain ⟨b, o, cs, x, fuel, hA, hl, hc, hx⟩ := h3 i.1 i.2
    obtain ⟨d, rfl⟩ := dot_raw hx
    exact ⟨d, b, o, hA, hc 0 (by omega), hc 1 (by omega), hc 2 (by omega), hc 3 (by omega)⟩
  refine ⟨A, cap, List.ofFn fun i => Classical.choose (hE i), by rw [List.length_ofFn], by rw [List.length_ofFn]; exact h1, h2, fun i hi => ?_⟩
  rw [List.length_ofFn] at hi
  have hs := Classical.choose_spec (hE ⟨i, hi⟩)
  have e : dotAt (List.ofFn fun i => Classical.choose (hE i)) i = Classical.choose (hE ⟨i, hi⟩) := by
    rw [dotAt, List.getD, List.getElem?_ofFn]
    simp only [hi, dif_pos, Option.getD_some]
  rw [e]
  exact hs
set_option maxRecDepth 100000 in
/-- a stroke by value -/
theorem open_stroke {H : Type} {enc : TypeId × Value → H} {w : World} {base : Nat} {r : Reach} {b0 : Nat} {v : Value} {d : DataW H} {p : List MemPlace}
    (hv : Value.okWide Try.prog w r b0 27 v) (h : DataW.Trod enc Try.prog w base (fun _ => true) true 27 v d p) :
    ∃ (P N : Int) (A : Option Addr) (c : Nat) (D : List Dot), v = .agg #[.int .i64 P, .int .i64 N, .slice A D.length c] ∧ D.length ≤ c ∧ (c : Int) ≤ 9223372036854775807 ∧ Dots w A D := by
  simp only [Value.okWide, Try.underlying27] at hv
  obtain ⟨⟨cs⟩, rfl, hsz⟩ := hv
  obtain ⟨fuel, hf⟩ := h
  simp only [Value.cells] at hf
  obtain ⟨y0, y1, y2, n, _, hl, t0, t1, t2⟩ := trod_struct3 Try.underlying27 hf
  obtain ⟨z0, hz0, _⟩ := DataW.trod_int Try.underlying3 t0
  obtain ⟨z1, hz1, _⟩ := DataW.trod_int Try.underlying3 t1
  obtain ⟨A, c, D, hD, hc, hm, hdots⟩ := dots_raw t2
  have hl3 : cs.length = 3 := hl.trans (by kernel_rfl)
  refine ⟨z0, z1, A, c, D, ?_, hc, hm, hdots⟩
  rw [three_cells hl3, one_cell (k := 0) (by kernel_rfl) rfl hz0, one_cell (k := 1) (by kernel_rfl) rfl hz1, one_cell (k := 2) (by kernel_rfl) rfl hD]
set_option maxRecDepth 100000 in
/-- three places by value -/
theorem open_places {H : Type} {enc : TypeId × Value → H} {w : World} {base : Nat} {spare : Nat → Bool} {held : Bool} {r : Reach} {b0 : Nat} {v : Value} {d : DataW H} {p : List MemPlace}
    (hv : Value.okWide Try.prog w r b0 30 v) (h : DataW.Trod enc Try.prog w base spare held 30 v d p) :
    ∃ f : Nat → Int × Int, v = .agg #[.int .i64 (f 0).1, .int .i64 (f 0).2, .int .i64 (f 1).1, .int .i64 (f 1).2, .int .i64 (f 2).1, .int .i64 (f 2).2] ∧ ∀ j, j < 3 → I64 (f j).1 ∧ I64 (f j).2 := by
  simp only [Value.okWide, Try.underlying30] at hv
  obtain ⟨⟨cs⟩, rfl, hsz⟩ := hv
  obtain ⟨fuel, hf⟩ := h
  simp only [Value.cells] at hf
  obtain ⟨xs, m, _, _, hcl, hxl, hx⟩ := DataW.trod_array Try.underlying30 hf
  have hl6 : cs.length = 6 := hcl.trans (by kernel_rfl)
  have hE : ∀ i : Fin 3, ∃ q : Int × Int, (cs.drop (i.1 * 2)).take 2 = [.int .i64 q.1, .int .i64 q.2] ∧ I64 q.1 ∧ I64 q.2 := fun i => by
    have k := hx i.1 i.2
    rw [show Try.prog.cellsOf 29 = 2 by kernel_rfl] at k
    rw [List.getElem?_eq_getElem (by omega)] at k
    obtain ⟨y0, y1, n, _, hl, t0, t1⟩ := trod_struct2 Try.underlying29 k
    obtain ⟨z0, hz0, _, hw0⟩ := DataW.trod_int Try.underlying3 t0
    obtain ⟨z1, hz1, _, hw1⟩ := DataW.trod_int Try.underlying3 t1
    have hl2 : ((cs.drop (i.1 * 2)).take 2).length = 2 := hl.trans (by kernel_rfl)
    refine ⟨(z0, z1), ?_, ⟨i64_lo hw0, i64_hi hw0⟩, ⟨i64_lo hw1, i64_hi hw1⟩⟩
    rw [two_cells hl2, one_cell (k := 0) (by kernel_rfl) rfl hz0, one_cell (k := 1) (by kernel_rfl) rfl hz1]
  obtain ⟨⟨x0, y0⟩, h0, i0, j0⟩ := hE 0
  obtain ⟨⟨x1, y1⟩, h1, i1, j1⟩ := hE 1
  obtain ⟨⟨x2, y2⟩, h2, i2, j2⟩ := hE 2
  match cs, hl6 with
  | [a0, a1, a2, a3, a4, a5], _ =>
    simp at h0 h1 h2
    refine ⟨fun j => if j = 0 then (x0, y0) else if j = 1 then (x1, y1) else (x2, y2), ?_, fun j hj => ?_⟩
    · simp [h0, h1, h2]
    · rcases (show j = 0 ∨ j = 1 ∨ j = 2 by omega) with rfl | rfl | rfl
      · exact ⟨i0, j0⟩
      · exact ⟨i1, j1⟩
      · exact ⟨i2, j2⟩
end Go.Proofs.Ytgmabepdhbnppaa
