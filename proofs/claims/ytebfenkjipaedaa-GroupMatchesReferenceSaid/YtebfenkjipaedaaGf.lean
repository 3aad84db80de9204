/- Arguments opened: lists of pairs of integers, lists of integers. Nothing of the program stands here. Arguments opened: groups, one group, wires, a device. -/
import Derived.Test.YtebfenkjipaedaaFrameArg
import Derived.Test.YtebfenkjipaedaaGrpMade2
import Derived.Test.YtebfenkjipaedaaGrpMatA
import Derived.Deep.Strs
import Derived.ChangeSame
namespace Go.Proofs.Ytebfenkjipaedaa
open Go.ChangeShapes Go.WideShapes Go.ChangeAt Go.RowKit
theorem at_plain {a : Addr} (h : a.spot = none) (i : Nat) : a.add i = ⟨a.block, a.off + i, none⟩ := by
  obtain ⟨b, o, s⟩ := a
  simp only at h
  subst h
  unfold Addr.add; split <;> simp_all
theorem addr_eq {a : Addr} (h : a.spot = none) : some a = some ⟨a.block, a.off, none⟩ := by
  obtain ⟨b, o, s⟩ := a
  simp only at h
  subst h
  rfl
/-- a slice of arrays of two integers -/
theorem open_pairs {H : Type} {enc : TypeId × Value → H} {P : Program} {w : World} {base : Nat} {r : Reach} {b0 : Nat} {t u e : TypeId} {v : Value} {d : DataW H} {p : List MemPlace}
    (ht : P.underlying t = some (.slice u)) (ha : P.underlying u = some (.array 2 e)) (he : P.underlying e = some (.int .i64)) (hce : P.cellsOf e = 1) (hct : P.cellsOf u = 2) (hv : Value.okWide P w r b0 t v) (h : DataW.Trod enc P w base (fun _ => true) true t v d p) :
    ∃ (A : Option Addr) (c : Nat) (rows : List (Int × Int)), v = .slice A rows.length c ∧ Gr.P2At w A rows ∧ Gr.P2Ok rows ∧ rows.length ≤ 9223372036854775807 := by
  obtain ⟨a0, len0, cap0, rfl⟩ := okWide_slice ht hv
  obtain ⟨fuel, hf⟩ := h
  simp only [Value.cells] at hf
  rcases DataW.trod_slice ht hf with ⟨hcs, _⟩ | ⟨a, len, cap, elems, rest, n, _, hcs, _, hb, hl, hm, hlen, hel, _, _⟩
  · simp only [List.cons.injEq, Value.slice.injEq] at hcs
    obtain ⟨⟨rfl, rfl, rfl⟩, _⟩ := hcs
    exact ⟨none, 0, [], rfl, fun i hi => absurd hi (by simp), fun i hi => absurd hi (by simp), by simp⟩
  · simp only [List.cons.injEq, Value.slice.injEq] at hcs
    obtain ⟨⟨rfl, rfl, rfl⟩, _⟩ := hcs
    have each : ∀ i, i < len0 → ∃ cs : List Value, (∀ j, j < 2 → w.cell? ((a.add (i * 2)).add j) = some (.int .i64 (numV (cs.getD j undef))) ∧ -9223372036854775808 ≤ numV (cs.getD j undef) ∧ numV (cs.getD j undef) ≤ 9223372036854775807) := fun i hi => by
      have h1 := hel i hi
      rw [List.getElem?_eq_getElem (by omega), hct] at h1
      obtain ⟨cs, h2, h3⟩ := Option.bind_eq_some_iff.1 h1
      obtain ⟨_, _, h4⟩ := World.cells?_some h2
      obtain ⟨_, h5⟩ := ints_of_array ha he hce hct h3
      exact ⟨cs, fun j hj => ⟨(h4 j hj).trans (h5 j hj).1, (h5 j hj).2⟩⟩
    have hE : ∀ i, i < len0 → ∃ e : Int × Int, (w.cell? ((a.add (i * 2)).add 0) = some (.int .i64 e.1) ∧ w.cell? ((a.add (i * 2)).add 1) = some (.int .i64 e.2)) ∧ Gp.I64 e.1 ∧ Gp.I64 e.2 := fun i hi => by
      obtain ⟨cs, hc⟩ := each i hi
      exact ⟨⟨_, _⟩, ⟨(hc 0 (by omega)).1, (hc 1 (by omega)).1⟩, (hc 0 (by omega)).2, (hc 1 (by omega)).2⟩
    obtain ⟨es, hes, hall⟩ : ∃ es : List (Int × Int), es.length = len0 ∧ ∀ i (hi : i < es.length), (w.cell? ((a.add (i * 2)).add 0) = some (.int .i64 es[i].1) ∧ w.cell? ((a.add (i * 2)).add 1) = some (.int .i64 es[i].2)) ∧ Gp.I64 es[i].1 ∧ Gp.I64 es[i].2 := by
      have hE' : ∀ i : Fin len0, _ := fun i => hE i.1 i.2
      refine ⟨List.ofFn fun i : Fin len0 => Classical.choose (hE' i), by simp, fun i hi => ?_⟩
      have hi2 : i < len0 := by simpa using hi
      have := Classical.choose_spec (hE' ⟨i, hi2⟩)
      simpa using this
    subst hes
    refine ⟨some a, cap0, es, rfl, fun i hi => ?_, fun i hi => ?_, by unfold maxLen at hm; omega⟩
    · obtain ⟨⟨c0, c1⟩, _⟩ := hall i hi
      have hz : (a.add (0 * 2)).add 0 = a := by simp [Addr.add]
      have hs : a.spot = none := by
        have h0 := (hall 0 (by omega)).1.1
        rw [hz] at h0
        exact congrArg Addr.spot (addr_plain h0)
      rw [add_add _ _ _ hs] at c0 c1
      refine ⟨a.block, a.off, addr_eq hs, ?_⟩
      rw [List.getD, List.getElem?_eq_getElem hi]
      exact ⟨c0, c1⟩
    · rw [List.getD, List.getElem?_eq_getElem hi]
      exact (hall i hi).2
/-- a list of integers -/
theorem open_nums {H : Type} {enc : TypeId × Value → H} {P : Program} {w : World} {base : Nat} {r : Reach} {b0 : Nat} {t e : TypeId} {v : Value} {d : DataW H} {p : List MemPlace}
    (ht : P.underlying t = some (.slice e)) (he : P.underlying e = some (.int .i64)) (hc : P.cellsOf e = 1) (hv : Value.okWide P w r b0 t v) (h : DataW.Trod enc P w base (fun _ => true) true t v d p) :
    ∃ (Y : Option Addr) (c : Nat) (ys : List Int), v = .slice Y ys.length c ∧ IntsAt w Y ys ∧ (∀ y ∈ ys, Gp.I64 y) ∧ ys.length ≤ c ∧ ys.length ≤ 9223372036854775807 := by
  obtain ⟨a0, len0, cap0, rfl⟩ := okWide_slice ht hv
  obtain ⟨fuel, hf⟩ := h
  rcases open_ints ht he hc hf with ⟨hcs, _⟩ | ⟨a, len, cap, zs, hcs, _, hl, hm, hz, _, hcell, hw⟩
  · simp only [Value.cells, List.cons.injEq, Value.slice.injEq] at hcs
    obtain ⟨⟨rfl, rfl, rfl⟩, _⟩ := hcs
    exact ⟨none, 0, [], rfl, fun i hi => absurd hi (by simp), fun y hy => by simp at hy, by simp, by simp⟩
  · simp only [Value.cells, List.cons.injEq, Value.slice.injEq] at hcs
    obtain ⟨⟨rfl, rfl, rfl⟩, _⟩ := hcs
    simp only [if_true] at hz
    have hlen : (zs.take len0).length = len0 := by rw [List.length_take]; omega
    refine ⟨some a, cap0, zs.take len0, by rw [hlen], fun i hi => ?_, fun y hy => ?_, by omega, by unfold maxLen at hm; omega⟩
    · rw [hlen] at hi
      have h0 := hcell 0 (by omega)
      have hs : a.spot = none := by
        rw [show a.add 0 = a by simp [Addr.add]] at h0
        exact congrArg Addr.spot (addr_plain h0)
      have := hcell i (by omega)
      rw [at_plain hs] at this
      refine ⟨a.block, a.off, addr_eq hs, ?_⟩
      rw [this]
      simp only [List.getD, List.getElem?_take, if_pos hi]
    · have hm := hw y (List.mem_of_mem_take hy)
      exact ⟨i64_lo hm, i64_hi hm⟩
end Go.Proofs.Ytebfenkjipaedaa
namespace Go.Proofs.Ytebfenkjipaedaa
open Go.ChangeShapes Go.WideShapes Go.ChangeAt Go.RowKit Str Go.Deep
theorem one_cell {P : Program} {cs : List Value} {o k : Nat} {t : TypeId} {v : Value} (hc : P.cellsOf t = 1) (ho : o = k) (h : (cs.drop o).take (P.cellsOf t) = [v]) : cs.getD k undef = v := by
  subst ho
  rw [hc] at h
  have := congrArg (fun l => l[0]?) h
  simp only [List.getElem?_take, List.getElem?_drop] at this
  simp at this
  rw [List.getD, this]; rfl
/-- a slice, in a field, whose elements have K cells each -/
theorem elems_raw {H : Type} {enc : TypeId × Value → H} {P : Program} {w : World} {base : Nat} {K : Nat} {t u : TypeId} {fuel : Nat} {cs : List Value} {x : DataW H × List MemPlace}
    (ht : P.underlying t = some (.slice u)) (hct : P.cellsOf u = K) (hK : 0 < K) (hf : DataW.trod enc P w base (fun _ => true) true fuel t cs = some x) :
    ∃ (A : Option Addr) (len cap : Nat), cs = [.slice A len cap] ∧ len ≤ cap ∧ (cap : Int) ≤ 9223372036854775807 ∧ (A = none → cap = 0) ∧ ∀ i, i < len → ∃ (b o : Nat) (cs : List Value) (x : DataW H × List MemPlace) (fuel : Nat),
      A = some ⟨b, o, none⟩ ∧ cs.length = K ∧ (∀ j, j < K → w.cell? ⟨b, o + i * K + j, none⟩ = some (cs.getD j undef)) ∧ DataW.trod enc P w base (fun _ => true) true fuel u cs = some x := by
  rcases DataW.trod_slice ht hf with ⟨hcs, _⟩ | ⟨a, len, cap, elems, rest, n, _, hcs, _, hb, hl, hm, hlen, hel, _, _⟩
  · exact ⟨none, 0, 0, hcs, by omega, by omega, fun _ => rfl, fun i hi => absurd hi (by omega)⟩
  · refine ⟨some a, len, cap, hcs, hl, by unfold maxLen at hm; omega, fun e => (by cases e), fun i hi => ?_⟩
    have h1 := hel i hi
    rw [List.getElem?_eq_getElem (by omega), hct] at h1
    obtain ⟨cs, h2, h3⟩ := Option.bind_eq_some_iff.1 h1
    obtain ⟨_, h20, h4⟩ := World.cells?_some h2
    have hs : a.spot = none := by
      have g1 := hel 0 (by omega)
      rw [List.getElem?_eq_getElem (by omega), hct, Nat.zero_mul] at g1
      obtain ⟨cs0, g2, _⟩ := Option.bind_eq_some_iff.1 g1
      obtain ⟨_, g3, g4⟩ := World.cells?_some g2
      have h0 := g4 0 hK
      rw [List.getElem?_eq_getElem (by omega)] at h0
      have hz : (a.add 0).add 0 = a := by simp [Addr.add]
      rw [hz] at h0
      exact congrArg Addr.spot (addr_plain h0)
    refine ⟨a.block, a.off, cs, _, _, by obtain ⟨b, o, s⟩ := a; simp only at hs; subst hs; rfl, h20, fun j hj => ?_, h3⟩
    have h5 := h4 j hj
    rw [add_add _ _ _ hs] at h5
    rw [h5, List.getD, List.getElem?_eq_getElem (by omega)]
    rfl
theorem trod_four {H : Type} {enc : TypeId × Value → H} {P : Program} {w : World} {base : Nat} {spare : Nat → Bool} {held : Bool} {t : TypeId} {f0 f1 f2 f3 : Field} {fuel : Nat} {cs : List Value} {x : DataW H × List MemPlace} (ht : P.underlying t = some (.struct #[f0, f1, f2, f3])) (h : DataW.trod enc P w base spare held fuel t cs = some x) :
    ∃ y0 y1 y2 y3 n, cs.length = P.cellsOf t ∧ DataW.trod enc P w base spare held n f0.type ((cs.drop f0.offset).take (P.cellsOf f0.type)) = some y0 ∧
      DataW.trod enc P w base spare held n f1.type ((cs.drop f1.offset).take (P.cellsOf f1.type)) = some y1 ∧ DataW.trod enc P w base spare held n f2.type ((cs.drop f2.offset).take (P.cellsOf f2.type)) = some y2 ∧
      DataW.trod enc P w base spare held n f3.type ((cs.drop f3.offset).take (P.cellsOf f3.type)) = some y3 := by
  obtain ⟨xs, n, _, rfl, hl, hlen, hf⟩ := DataW.trod_struct ht h
  match xs, hlen with
  | [y0, y1, y2, y3], _ => exact ⟨y0, y1, y2, y3, n, hl, by simpa using hf 0 f0 rfl, by simpa using hf 1 f1 rfl, by simpa using hf 2 f2 rfl, by simpa using hf 3 f3 rfl⟩
theorem four_cells {cs : List Value} (h : cs.length = 4) : cs = [cs.getD 0 undef, cs.getD 1 undef, cs.getD 2 undef, cs.getD 3 undef] := by
  match cs, h with
  | [a, b, c, d], _ => rfl
theorem three_cells {cs : List Value} (h : cs.length = 3) : cs = [cs.getD 0 undef, cs.getD 1 undef, cs.getD 2 undef] := by
  match cs, h with
  | [a, b, c], _ => rfl
theorem trod_six {H : Type} {enc : TypeId × Value → H} {P : Program} {w : World} {base : Nat} {spare : Nat → Bool} {held : Bool} {t : TypeId} {f0 f1 f2 f3 f4 f5 : Field} {fuel : Nat} {cs : List Value} {x : DataW H × List MemPlace} (ht : P.underlying t = some (.struct #[f0, f1, f2, f3, f4, f5])) (h : DataW.trod enc P w base spare held fuel t cs = some x) :
    ∃ y0 y1 y2 y3 y4 y5 n, cs.length = P.cellsOf t ∧ DataW.trod enc P w base spare held n f0.type ((cs.drop f0.offset).take (P.cellsOf f0.type)) = some y0 ∧
      DataW.trod enc P w base spare held n f1.type ((cs.drop f1.offset).take (P.cellsOf f1.type)) = some y1 ∧ DataW.trod enc P w base spare held n f2.type ((cs.drop f2.offset).take (P.cellsOf f2.type)) = some y2 ∧
      DataW.trod enc P w base spare held n f3.type ((cs.drop f3.offset).take (P.cellsOf f3.type)) = some y3 ∧ DataW.trod enc P w base spare held n f4.type ((cs.drop f4.offset).take (P.cellsOf f4.type)) = some y4 ∧
      DataW.trod enc P w base spare held n f5.type ((cs.drop f5.offset).take (P.cellsOf f5.type)) = some y5 := by
  obtain ⟨xs, n, _, rfl, hl, hlen, hf⟩ := DataW.trod_struct ht h
  match xs, hlen with
  | [y0, y1, y2, y3, y4, y5], _ => exact ⟨y0, y1, y2, y3, y4, y5, n, hl, by simpa using hf 0 f0 rfl, by simpa using hf 1 f1 rfl, by simpa using hf 2 f2 rfl, by simpa using hf 3 f3 rfl, by simpa using hf 4 f4 rfl, by simpa using hf 5 f5 rfl⟩
theorem six_cells {cs : List Value} (h : cs.length = 6) : cs = [cs.getD 0 undef, cs.getD 1 undef, cs.getD 2 undef, cs.getD 3 undef, cs.getD 4 undef, cs.getD 5 undef] := by
  match cs, h with
  | [a, b, c, d, e, f], _ => rfl
theorem cells_one {cs : List Value} {v : Value} (h : cs = [v]) : cs.getD 0 undef = v := by subst h; rfl
theorem ofFn_getD {α : Type} {n : Nat} (f : Fin n → α) (d : α) {i : Nat} (hi : i < n) : (List.ofFn f).getD i d = f ⟨i, hi⟩ := by
  rw [List.getD, List.getElem?_ofFn]
  simp only [hi, dif_pos, Option.getD_some]
/-- integers in a field -/
theorem ints_raw {H : Type} {enc : TypeId × Value → H} {P : Program} {w : World} {base : Nat} {t u : TypeId} {fuel : Nat} {cs : List Value} {x : DataW H × List MemPlace}
    (ht : P.underlying t = some (.slice u)) (hu : P.underlying u = some (.int .i64)) (hct : P.cellsOf u = 1) (hf : DataW.trod enc P w base (fun _ => true) true fuel t cs = some x) :
    ∃ (A : Option Addr) (c : Nat) (L : List Int), cs = [.slice A L.length c] ∧ Gr.MsAt w (.slice A L.length c) L ∧ (∀ q, q < L.length → Gp.I64 (L.getD q 0)) ∧ L.length ≤ 9223372036854775807 := by
  obtain ⟨A, len, cap, rfl, h1, h2, h0, h3⟩ := elems_raw ht hct (by omega) hf
  have hE : ∀ i : Fin len, ∃ z : Int, (∃ b o, A = some ⟨b, o, none⟩ ∧ w.cell? ⟨b, o + i.1, none⟩ = some (.int .i64 z)) ∧ Gp.I64 z := fun i => by
    obtain ⟨b, o, cs, x, fuel, hA, hl, hc, hx⟩ := h3 i.1 i.2
    obtain ⟨z, hz, _, hw⟩ := DataW.trod_int hu hx
    have h0 := hc 0 (by omega)
    rw [cells_one hz] at h0
    exact ⟨z, ⟨b, o, hA, by simpa using h0⟩, i64_lo hw, i64_hi hw⟩
  have hlen : (List.ofFn fun i => Classical.choose (hE i)).length = len := List.length_ofFn
  refine ⟨A, cap, List.ofFn fun i => Classical.choose (hE i), by rw [hlen], ⟨A, cap, rfl, by rw [hlen]; exact h1, fun i hi => ?_, h0⟩, fun i hi => ?_, by rw [hlen]; omega⟩
  all_goals
    rw [hlen] at hi
    have hs := Classical.choose_spec (hE ⟨i, hi⟩)
    rw [ofFn_getD _ _ hi]
  · exact hs.1
  · exact hs.2
/-- a group as a program may be given it -/
structure GOk (w : World) (g : Gp.Grp) : Prop where
  ms : Gr.MsAt w g.v g.ms
  id : Gp.I64 g.id
  of : Gp.I64 g.of
  is : ∀ q, q < g.ms.length → Gp.I64 (g.ms.getD q 0)
  len : g.ms.length ≤ 9223372036854775807
set_option maxRecDepth 100000 in
/-- a group's cells -/
theorem group_raw {H : Type} {enc : TypeId × Value → H} {w : World} {base : Nat} {fuel : Nat} {cs : List Value} {x : DataW H × List MemPlace} (h : DataW.trod enc Try.prog w base (fun _ => true) true fuel 26 cs = some x) :
    ∃ (oid oof : Int) (oa : Option Addr) (oc : Nat) (om : List Int), cs = [.int .i64 oid, .int .i64 oof, .slice oa om.length oc] ∧ GOk w ⟨oid, oof, .slice oa om.length oc, om⟩ := by
  obtain ⟨y0, y1, y2, n, _, hl, t0, t1, t2⟩ := trod_struct3 Try.underlying26 h
  obtain ⟨z0, hz0, _, hw0⟩ := DataW.trod_int Try.underlying3 t0
  obtain ⟨z1, hz1, _, hw1⟩ := DataW.trod_int Try.underlying3 t1
  obtain ⟨A, c, L, hL, hm, hi, hn⟩ := ints_raw Try.underlying23 Try.underlying3 (by kernel_rfl) t2
  have hl3 : cs.length = 3 := hl.trans (by kernel_rfl)
  refine ⟨z0, z1, A, c, L, ?_, hm, ⟨i64_lo hw0, i64_hi hw0⟩, ⟨i64_lo hw1, i64_hi hw1⟩, hi, hn⟩
  rw [three_cells hl3, one_cell (k := 0) (by kernel_rfl) rfl hz0, one_cell (k := 1) (by kernel_rfl) rfl hz1, one_cell (k := 2) (by kernel_rfl) rfl hL]
set_option maxRecDepth 100000 in
/-- a group by value -/
theorem open_group {H : Type} {enc : TypeId × Value → H} {w : World} {base : Nat} {r : Reach} {b0 : Nat} {v : Value} {d : DataW H} {p : List MemPlace}
    (hv : Value.okWide Try.prog w r b0 26 v) (h : DataW.Trod enc Try.prog w base (fun _ => true) true 26 v d p) :
    ∃ (oid oof : Int) (oa : Option Addr) (oc : Nat) (om : List Int), v = .agg #[.int .i64 oid, .int .i64 oof, .slice oa om.length oc] ∧ GOk w ⟨oid, oof, .slice oa om.length oc, om⟩ := by
  simp only [Value.okWide, Try.underlying26] at hv
  obtain ⟨⟨cs⟩, rfl, hsz⟩ := hv
  obtain ⟨fuel, hf⟩ := h
  simp only [Value.cells] at hf
  obtain ⟨oid, oof, oa, oc, om, rfl, ho⟩ := group_raw hf
  exact ⟨oid, oof, oa, oc, om, rfl, ho⟩
set_option maxRecDepth 100000 in
/-- groups -/
theorem open_groups {H : Type} {enc : TypeId × Value → H} {w : World} {base : Nat} {r : Reach} {b0 : Nat} {v : Value} {d : DataW H} {p : List MemPlace}
    (hv : Value.okWide Try.prog w r b0 24 v) (h : DataW.Trod enc Try.prog w base (fun _ => true) true 24 v d p) :
    ∃ (A : Option Addr) (c : Nat) (l : List Gp.Grp), v = .slice A l.length c ∧ Gr.GrpsAt w A l ∧ Gr.RawOk l := by
  obtain ⟨a0, len0, cap0, rfl⟩ := okWide_slice Try.underlying24 hv
  obtain ⟨fuel, hf⟩ := h
  simp only [Value.cells] at hf
  obtain ⟨A, len, cap, hcs, h1, h2, _, h3⟩ := elems_raw (K := 3) Try.underlying24 (by kernel_rfl) (by omega) hf
  simp only [List.cons.injEq, Value.slice.injEq] at hcs
  obtain ⟨⟨rfl, rfl, rfl⟩, _⟩ := hcs
  have hE : ∀ i : Fin len0, ∃ g : Gp.Grp, (∃ b o, a0 = some ⟨b, o, none⟩ ∧ Gr.GrpAt w b (o + i.1 * 3) g) ∧ GOk w g := fun i => by
    obtain ⟨b, o, cs, x, fuel, hA, hl, hc, hx⟩ := h3 i.1 i.2
    obtain ⟨oid, oof, oa, oc, om, rfl, ho⟩ := group_raw hx
    exact ⟨⟨oid, oof, .slice oa om.length oc, om⟩, ⟨b, o, hA, ⟨hc 0 (by omega), hc 1 (by omega), hc 2 (by omega)⟩⟩, ho⟩
  have hlen : (List.ofFn fun i => Classical.choose (hE i)).length = len0 := List.length_ofFn
  have hget : ∀ i (hi : i < len0), (∃ b o, a0 = some ⟨b, o, none⟩ ∧ Gr.GrpAt w b (o + i * 3) ((List.ofFn fun i => Classical.choose (hE i)).getD i Gp.g0)) ∧ GOk w ((List.ofFn fun i => Classical.choose (hE i)).getD i Gp.g0) := fun i hi => by
    have hs := Classical.choose_spec (hE ⟨i, hi⟩)
    rw [ofFn_getD _ _ hi]
    exact hs
  obtain ⟨G, hG⟩ : ∃ G, (List.ofFn fun i => Classical.choose (hE i)) = G := ⟨_, rfl⟩
  rw [hG] at hlen hget
  subst hlen
  exact ⟨a0, cap0, G, rfl, fun i hi => ⟨(hget i hi).1, (hget i hi).2.ms⟩, ⟨by omega, fun j hj => (hget j hj).2.id, fun j hj => (hget j hj).2.of, fun j hj => (hget j hj).2.is, fun j hj => (hget j hj).2.len⟩⟩
set_option maxRecDepth 100000 in
/-- a wire's cells -/
theorem wire_raw {H : Type} {enc : TypeId × Value → H} {w : World} {base : Nat} {spare : Nat → Bool} {held : Bool} {fuel : Nat} {cs : List Value} {x : DataW H × List MemPlace} (h : DataW.trod enc Try.prog w base spare held fuel 63 cs = some x) :
    ∃ y : Gp.Wir, cs = [.int .i64 y.code, .int .i64 y.src, .int .i64 y.out, .int .i64 y.dst, .int .i64 y.inp, .int .i64 y.delay] ∧ Gr.wW y := by
  obtain ⟨y0, y1, y2, y3, y4, y5, n, hl, t0, t1, t2, t3, t4, t5⟩ := trod_six Try.underlying63 h
  obtain ⟨z0, hz0, _, hw0⟩ := DataW.trod_int Try.underlying3 t0
  obtain ⟨z1, hz1, _, hw1⟩ := DataW.trod_int Try.underlying3 t1
  obtain ⟨z2, hz2, _, hw2⟩ := DataW.trod_int Try.underlying3 t2
  obtain ⟨z3, hz3, _, hw3⟩ := DataW.trod_int Try.underlying3 t3
  obtain ⟨z4, hz4, _, hw4⟩ := DataW.trod_int Try.underlying3 t4
  obtain ⟨z5, hz5, _, hw5⟩ := DataW.trod_int Try.underlying3 t5
  have hl6 : cs.length = 6 := hl.trans (by kernel_rfl)
  refine ⟨⟨z0, z1, z2, z3, z4, z5⟩, ?_, ⟨⟨i64_lo hw1, i64_hi hw1⟩, ⟨i64_lo hw3, i64_hi hw3⟩⟩⟩
  rw [six_cells hl6, one_cell (k := 0) (by kernel_rfl) rfl hz0, one_cell (k := 1) (by kernel_rfl) rfl hz1, one_cell (k := 2) (by kernel_rfl) rfl hz2, one_cell (k := 3) (by kernel_rfl) rfl hz3, one_cell (k := 4) (by kernel_rfl) rfl hz4, one_cell (k := 5) (by kernel_rfl) rfl hz5]
set_option maxRecDepth 100000 in
/-- wires -/
theorem open_wires {H : Type} {enc : TypeId × Value → H} {w : World} {base : Nat} {r : Reach} {b0 : Nat} {v : Value} {d : DataW H} {p : List MemPlace}
    (hv : Value.okWide Try.prog w r b0 27 v) (h : DataW.Trod enc Try.prog w base (fun _ => true) true 27 v d p) :
    ∃ (A : Option Addr) (c : Nat) (l : List Gp.Wir), v = .slice A l.length c ∧ l.length ≤ c ∧ l.length ≤ 9223372036854775807 ∧ Gr.WirsAt w A l ∧ Gr.WsOk l := by
  obtain ⟨a0, len0, cap0, rfl⟩ := okWide_slice Try.underlying27 hv
  obtain ⟨fuel, hf⟩ := h
  simp only [Value.cells] at hf
  obtain ⟨A, len, cap, hcs, h1, h2, _, h3⟩ := elems_raw (K := 6) Try.underlying27 (by kernel_rfl) (by omega) hf
  simp only [List.cons.injEq, Value.slice.injEq] at hcs
  obtain ⟨⟨rfl, rfl, rfl⟩, _⟩ := hcs
  have hE : ∀ i : Fin len0, ∃ y : Gp.Wir, (∃ b o, a0 = some ⟨b, o, none⟩ ∧ Gr.WirAt w b (o + i.1 * 6) y) ∧ Gr.wW y := fun i => by
    obtain ⟨b, o, cs, x, fuel, hA, hl, hc, hx⟩ := h3 i.1 i.2
    obtain ⟨y, rfl, hy⟩ := wire_raw hx
    exact ⟨y, ⟨b, o, hA, ⟨hc 0 (by omega), hc 1 (by omega), hc 2 (by omega), hc 3 (by omega), hc 4 (by omega), hc 5 (by omega)⟩⟩, hy⟩
  have hlen : (List.ofFn fun i => Classical.choose (hE i)).length = len0 := List.length_ofFn
  have hget : ∀ i (hi : i < len0), (∃ b o, a0 = some ⟨b, o, none⟩ ∧ Gr.WirAt w b (o + i * 6) ((List.ofFn fun i => Classical.choose (hE i)).getD i Gp.w0)) ∧ Gr.wW ((List.ofFn fun i => Classical.choose (hE i)).getD i Gp.w0) := fun i hi => by
    have hs := Classical.choose_spec (hE ⟨i, hi⟩)
    rw [ofFn_getD _ _ hi]
    exact hs
  obtain ⟨G, hG⟩ : ∃ G, (List.ofFn fun i => Classical.choose (hE i)) = G := ⟨_, rfl⟩
  rw [hG] at hlen hget
  subst hlen
  exact ⟨a0, cap0, G, rfl, h1, by omega, fun i hi => (hget i hi).1, fun j hj => (hget j hj).2⟩
set_option maxRecDepth 100000 in
/-- a device by value -/
theorem open_device {H : Type} {enc : TypeId × Value → H} {w : World} {base : Nat} {spare : Nat → Bool} {held : Bool} {r : Reach} {b0 : Nat} {v : Value} {d : DataW H} {p : List MemPlace}
    (hv : Value.okWide Try.prog w r b0 29 v) (h : DataW.Trod enc Try.prog w base spare held 29 v d p) :
    ∃ x : Gp.Dev, v = .agg #[.int .i64 x.code, .int .i64 x.kind, .string x.text, .int .i64 x.size] ∧ Gp.I64 x.code := by
  simp only [Value.okWide, Try.underlying29] at hv
  obtain ⟨⟨cs⟩, rfl, hsz⟩ := hv
  obtain ⟨fuel, hf⟩ := h
  simp only [Value.cells] at hf
  obtain ⟨y0, y1, y2, y3, n, hl, t0, t1, t2, t3⟩ := trod_four Try.underlying29 hf
  obtain ⟨z0, hz0, _, hw0⟩ := DataW.trod_int Try.underlying3 t0
  obtain ⟨z1, hz1, _⟩ := DataW.trod_int Try.underlying3 t1
  obtain ⟨z2, hz2, _⟩ := DataW.trod_string Try.underlying9 t2
  obtain ⟨z3, hz3, _⟩ := DataW.trod_int Try.underlying3 t3
  have hl4 : cs.length = 4 := hl.trans (by kernel_rfl)
  refine ⟨⟨z0, z1, z2, z3⟩, ?_, i64_lo hw0, i64_hi hw0⟩
  rw [four_cells hl4, one_cell (k := 0) (by kernel_rfl) rfl hz0, one_cell (k := 1) (by kernel_rfl) rfl hz1, one_cell (k := 2) (by kernel_rfl) rfl hz2, one_cell (k := 3) (by kernel_rfl) rfl hz3]
end Go.Proofs.Ytebfenkjipaedaa
