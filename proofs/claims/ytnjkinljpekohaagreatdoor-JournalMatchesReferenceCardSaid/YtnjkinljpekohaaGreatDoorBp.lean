/- Lists of lists of strings among the arguments. Nothing of the program stands here. Slices of integers among the arguments, with their capacity. -/
import Derived.Test.YtnjkinljpekohaaGreatDoorBl
import Derived.Test.YtnjkinljpekohaaGreatDoorBo
import Derived.Deep.Strs
namespace Go.Proofs.YtnjkinljpekohaaGreatDoor
open Go.ChangeShapes Go.WideShapes Go.ChangeAt Go.RowKit
theorem add_plain {a : Addr} (h : a.spot = none) (i : Nat) : a.add i = ⟨a.block, a.off + i, none⟩ := by
  obtain ⟨b, o, s⟩ := a
  simp only at h
  subst h
  unfold Addr.add; split <;> simp_all
/-- one list of strings, out of the cells that hold its slice -/
theorem open_grp {H : Type} {enc : TypeId × Value → H} {P : Program} {w : World} {u e : TypeId} {fuel : Nat} {cs : List Value} {x : DataW H × List MemPlace}
    (hu : P.underlying u = some (.slice e)) (he : P.underlying e = some .string) (hc : P.cellsOf e = 1) (h : DataW.trod enc P w 0 (fun _ => true) true fuel u cs = some x) :
    ∃ g : Jo.Grp, cs = [.slice g.A g.l.length g.c] ∧ Jo.GrpAt w g := by
  rcases open_strings hu he hc h with ⟨hcs, _⟩ | ⟨a, len, cap, ss, hcs, _, hl, hm, hz, _, hcell, hw⟩
  · exact ⟨⟨none, 0, []⟩, hcs, ⟨fun i hi => absurd hi (by simp), by simp, by simp⟩⟩
  · simp only [if_true] at hz
    have hlen : (ss.take len).length = len := by rw [List.length_take]; omega
    refine ⟨⟨some a, cap, ss.take len⟩, by rw [hcs, hlen], ⟨fun i hi => ?_, by dsimp only; rw [hlen]; unfold maxLen at hm; omega, fun s hs => str_max (hw s (List.mem_of_mem_take hs))⟩⟩
    dsimp only at hi
    have hi' : i < len := by rw [hlen] at hi; exact hi
    have h0 := hcell 0 (by omega)
    have hs : a.spot = none := spot_none (by have := h0; rw [show a.add 0 = a by simp [Addr.add]] at this; exact this)
    refine ⟨a.block, a.off, by obtain ⟨b, o, s⟩ := a; simp only at hs; subst hs; rfl, ?_⟩
    have := hcell i (by omega)
    rw [add_plain hs] at this
    rw [this]
    simp only [List.getD, List.getElem?_take, if_pos hi']
    rfl
/-- lists of strings -/
theorem open_grps {H : Type} {enc : TypeId × Value → H} {P : Program} {w : World} {base : Nat} {r : Reach} {b0 : Nat} {t u e : TypeId} {v : Value} {d : DataW H} {p : List MemPlace}
    (ht : P.underlying t = some (.slice u)) (hu : P.underlying u = some (.slice e)) (he : P.underlying e = some .string) (hc : P.cellsOf e = 1) (hcu : P.cellsOf u = 1) (hb0 : base = 0) (hv : Value.okWide P w r b0 t v) (h : DataW.Trod enc P w base (fun _ => true) true t v d p) :
    ∃ (A : Option Addr) (cap : Nat) (G : List Jo.Grp), v = .slice A G.length cap ∧ (G.length : Int) ≤ 9223372036854775807 ∧ Jo.GrpsAt w A G := by
  subst hb0
  obtain ⟨a0, len0, cap0, rfl⟩ := okWide_slice ht hv
  obtain ⟨fuel, hf⟩ := h
  simp only [Value.cells] at hf
  rcases DataW.trod_slice ht hf with ⟨hcs, _⟩ | ⟨a, len, cap, elems, rest, n, _, hcs, _, hb, hl, hm, hlen, hel, _, _⟩
  · simp only [List.cons.injEq, Value.slice.injEq] at hcs
    obtain ⟨⟨rfl, rfl, rfl⟩, _⟩ := hcs
    exact ⟨none, 0, [], rfl, by simp, fun i hi => absurd hi (by simp)⟩
  · simp only [List.cons.injEq, Value.slice.injEq] at hcs
    obtain ⟨⟨rfl, rfl, rfl⟩, _⟩ := hcs
    have each : ∀ i, i < len0 → ∃ g : Jo.Grp, w.cell? (a.add i) = some (.slice g.A g.l.length g.c) ∧ Jo.GrpAt w g := fun i hi => by
      have h1 := hel i hi
      rw [List.getElem?_eq_getElem (by omega), hcu, Nat.mul_one] at h1
      obtain ⟨cs, h2, h3⟩ := Option.bind_eq_some_iff.1 h1
      obtain ⟨_, h5, h4⟩ := World.cells?_some h2
      obtain ⟨g, hg, hgr⟩ := open_grp hu he hc h3
      refine ⟨g, ?_, hgr⟩
      have := h4 0 (by omega)
      rw [show (a.add i).add 0 = a.add i by simp [Addr.add], hg] at this
      simpa using this
    have hE' : ∀ i : Fin len0, _ := fun i => each i.1 i.2
    obtain ⟨G, hG, hall⟩ : ∃ G : List Jo.Grp, G.length = len0 ∧ ∀ i (hi : i < G.length), w.cell? (a.add i) = some (.slice G[i].A G[i].l.length G[i].c) ∧ Jo.GrpAt w G[i] := by
      refine ⟨List.ofFn fun i : Fin len0 => Classical.choose (hE' i), by simp, fun i hi => ?_⟩
      have hi2 : i < len0 := by simpa using hi
      have := Classical.choose_spec (hE' ⟨i, hi2⟩)
      simpa using this
    subst hG
    refine ⟨some a, cap0, G, rfl, by unfold maxLen at hm; omega, fun i hi => ?_⟩
    obtain ⟨hc0, hg⟩ := hall i hi
    have hs : a.spot = none := spot_none (by have := (hall 0 (by omega)).1; rw [show a.add 0 = a by simp [Addr.add]] at this; exact this)
    rw [add_plain hs] at hc0
    refine ⟨a.block, a.off, by obtain ⟨b, o, s⟩ := a; simp only at hs; subst hs; rfl, ?_⟩
    rw [List.getD, List.getElem?_eq_getElem hi]
    exact ⟨hc0, hg⟩
end Go.Proofs.YtnjkinljpekohaaGreatDoor
namespace Go.Proofs.YtnjkinljpekohaaGreatDoor
open Go.ChangeShapes Go.WideShapes Go.ChangeAt Go.RowKit Go.Deep
theorem addr_plain {w : World} {a : Addr} {v : Value} (h : w.cell? a = some v) : a = ⟨a.block, a.off, none⟩ := by
  obtain ⟨b, o, s⟩ := a
  cases s with
  | none => rfl
  | some s => simp only [World.cell?] at h; split at h <;> simp at h
theorem add_add (a : Addr) (i j : Nat) (hs : a.spot = none) : (a.add i).add j = ⟨a.block, a.off + i + j, none⟩ := by
  obtain ⟨b, o, s⟩ := a
  simp only at hs
  subst hs
  unfold Addr.add
  split
  · split
    · subst_vars; rfl
    · subst_vars; simp
  · split
    · subst_vars; simp
    · simp
/-- a slice whose elements have K cells each: where they lie, and how each reads -/
theorem open_elems {H : Type} {enc : TypeId × Value → H} {P : Program} {w : World} {base : Nat} {r : Reach} {b0 K : Nat} {t u : TypeId} {v : Value} {d : DataW H} {p : List MemPlace}
    (ht : P.underlying t = some (.slice u)) (hct : P.cellsOf u = K) (hK : 0 < K) (hv : Value.okWide P w r b0 t v) (h : DataW.Trod enc P w base (fun _ => true) true t v d p) :
    ∃ (A : Option Addr) (len cap : Nat), v = .slice A len cap ∧ len ≤ cap ∧ (cap : Int) ≤ 9223372036854775807 ∧ ∀ i, i < len → ∃ (b o : Nat) (cs : List Value) (x : DataW H × List MemPlace) (fuel : Nat),
      A = some ⟨b, o, none⟩ ∧ cs.length = K ∧ (∀ j, j < K → w.cell? ⟨b, o + i * K + j, none⟩ = some (cs.getD j undef)) ∧ DataW.trod enc P w base (fun _ => true) true fuel u cs = some x := by
  obtain ⟨a0, len0, cap0, rfl⟩ := okWide_slice ht hv
  obtain ⟨fuel, hf⟩ := h
  simp only [Value.cells] at hf
  rcases DataW.trod_slice ht hf with ⟨hcs, _⟩ | ⟨a, len, cap, elems, rest, n, _, hcs, _, hb, hl, hm, hlen, hel, _, _⟩
  · simp only [List.cons.injEq, Value.slice.injEq] at hcs
    obtain ⟨⟨rfl, rfl, rfl⟩, _⟩ := hcs
    exact ⟨none, 0, 0, rfl, by omega, by omega, fun i hi => absurd hi (by omega)⟩
  · simp only [List.cons.injEq, Value.slice.injEq] at hcs
    obtain ⟨⟨rfl, rfl, rfl⟩, _⟩ := hcs
    refine ⟨some a, len0, cap0, rfl, hl, by unfold maxLen at hm; omega, fun i hi => ?_⟩
    have h1 := hel i hi
    rw [List.getElem?_eq_getElem (by omega), hct] at h1
    obtain ⟨cs, h2, h3⟩ := Option.bind_eq_some_iff.1 h1
    obtain ⟨_, h20, h4⟩ := World.cells?_some h2
    have hs : a.spot = none := by
      have g1 := hel 0 (by omega)
      rw [List.getElem?_eq_getElem (by omega), hct, Nat.zero_mul] at g1
      obtain ⟨cs0, g2, _⟩ := Option.bind_eq_some_iff.1 g1
      obtain ⟨_, g3, g4⟩ := World.cells?_some g2
      have h0 := g4 0 hK
      rw [List.getElem?_eq_getElem (by omega)] at h0
      have hz : (a.add 0).add 0 = a := by simp [Addr.add]
      rw [hz] at h0
      exact congrArg Addr.spot (addr_plain h0)
    refine ⟨a.block, a.off, cs, _, _, by obtain ⟨b, o, s⟩ := a; simp only at hs; subst hs; rfl, h20, fun j hj => ?_, h3⟩
    have h5 := h4 j hj
    rw [add_add _ _ _ hs] at h5
    rw [h5, List.getD, List.getElem?_eq_getElem (by omega)]
    rfl
theorem cells_one {cs : List Value} {v : Value} (h : cs = [v]) : cs.getD 0 undef = v := by subst h; rfl
/-- a slice of integers -/
theorem open_intl {H : Type} {enc : TypeId × Value → H} {P : Program} {w : World} {base : Nat} {r : Reach} {b0 : Nat} {t u : TypeId} {v : Value} {d : DataW H} {p : List MemPlace}
    (ht : P.underlying t = some (.slice u)) (hu : P.underlying u = some (.int .i64)) (hct : P.cellsOf u = 1) (hv : Value.okWide P w r b0 t v) (h : DataW.Trod enc P w base (fun _ => true) true t v d p) :
    ∃ (A : Option Addr) (cap : Nat) (L : List Int), v = .slice A L.length cap ∧ L.length ≤ cap ∧ (cap : Int) ≤ 9223372036854775807 ∧ (∀ i, i < L.length → ∃ b o, A = some ⟨b, o, none⟩ ∧ w.cell? ⟨b, o + i, none⟩ = some (.int .i64 (L.getD i 0))) ∧
      ∀ i, i < L.length → -9223372036854775808 ≤ L.getD i 0 ∧ L.getD i 0 ≤ 9223372036854775807 := by
  obtain ⟨A, len, cap, rfl, h1, h2, h3⟩ := open_elems ht hct (by omega) hv h
  have hE : ∀ i : Fin len, ∃ z : Int, (∃ b o, A = some ⟨b, o, none⟩ ∧ w.cell? ⟨b, o + i.1, none⟩ = some (.int .i64 z)) ∧ -9223372036854775808 ≤ z ∧ z ≤ 9223372036854775807 := fun i => by
    obtain ⟨b, o, cs, x, fuel, hA, hl, hc, hx⟩ := h3 i.1 i.2
    obtain ⟨z, hz, _, hw⟩ := DataW.trod_int hu hx
    have h0 := hc 0 (by omega)
    rw [cells_one hz] at h0
    exact ⟨z, ⟨b, o, hA, by simpa using h0⟩, i64_lo hw, i64_hi hw⟩
  refine ⟨A, cap, List.ofFn fun i => Classical.choose (hE i), by rw [List.length_ofFn], by rw [List.length_ofFn]; exact h1, h2, fun i hi => ?_, fun i hi => ?_⟩
  all_goals
    rw [List.length_ofFn] at hi
    have hs := Classical.choose_spec (hE ⟨i, hi⟩)
    rw [List.getD, List.getElem?_ofFn]
    simp only [hi, dif_pos, Option.getD_some]
  · exact hs.1
  · exact hs.2
theorem one_cell {P : Program} {cs : List Value} {o k : Nat} {t : TypeId} {v : Value} (hc : P.cellsOf t = 1) (ho : o = k) (h : (cs.drop o).take (P.cellsOf t) = [v]) : cs.getD k undef = v := by
  subst ho
  rw [hc] at h
  have := congrArg (fun l => l[0]?) h
  simp only [List.getElem?_take, List.getElem?_drop] at this
  simp at this
  rw [List.getD, this]; rfl
set_option maxRecDepth 100000 in
theorem trod_four {H : Type} {enc : TypeId × Value → H} {P : Program} {w : World} {base : Nat} {spare : Nat → Bool} {held : Bool} {t : TypeId} {f0 f1 f2 f3 : Field} {fuel : Nat} {cs : List Value} {x : DataW H × List MemPlace} (ht : P.underlying t = some (.struct #[f0, f1, f2, f3])) (h : DataW.trod enc P w base spare held fuel t cs = some x) :
    ∃ y0 y1 y2 y3 n, DataW.trod enc P w base spare held n f0.type ((cs.drop f0.offset).take (P.cellsOf f0.type)) = some y0 ∧
      DataW.trod enc P w base spare held n f1.type ((cs.drop f1.offset).take (P.cellsOf f1.type)) = some y1 ∧ DataW.trod enc P w base spare held n f2.type ((cs.drop f2.offset).take (P.cellsOf f2.type)) = some y2 ∧
      DataW.trod enc P w base spare held n f3.type ((cs.drop f3.offset).take (P.cellsOf f3.type)) = some y3 := by
  obtain ⟨xs, n, _, rfl, hl, hlen, hf⟩ := DataW.trod_struct ht h
  match xs, hlen with
  | [y0, y1, y2, y3], _ => exact ⟨y0, y1, y2, y3, n, by simpa using hf 0 f0 rfl, by simpa using hf 1 f1 rfl, by simpa using hf 2 f2 rfl, by simpa using hf 3 f3 rfl⟩
/-- a slice of integers in a field -/
theorem open_ints_raw {H : Type} {enc : TypeId × Value → H} {P : Program} {w : World} {base : Nat} {t u : TypeId} {fuel : Nat} {cs : List Value} {x : DataW H × List MemPlace}
    (ht : P.underlying t = some (.slice u)) (hu : P.underlying u = some (.int .i64)) (hct : P.cellsOf u = 1) (hf : DataW.trod enc P w base (fun _ => true) true fuel t cs = some x) :
    ∃ (A : Option Addr) (cap : Nat) (L : List Int), cs = [.slice A L.length cap] ∧ L.length ≤ cap ∧ (cap : Int) ≤ 9223372036854775807 ∧ IntsAt w A L := by
  rcases DataW.trod_slice ht hf with ⟨hcs, _⟩ | ⟨a, len, cap, elems, rest, n, _, hcs, _, hb, hl, hm, hlen, hel, _, _⟩
  · exact ⟨none, 0, [], hcs, by simp, by omega, fun i hi => absurd hi (by simp)⟩
  · have hE : ∀ i : Fin len, ∃ z : Int, ∃ b o, (some a : Option Addr) = some ⟨b, o, none⟩ ∧ w.cell? ⟨b, o + i.1, none⟩ = some (.int .i64 z) := fun i => by
      have hi0 := i.2
      have h1 := hel i.1 i.2
      rw [List.getElem?_eq_getElem (by omega), hct] at h1
      obtain ⟨cs1, h2, h3⟩ := Option.bind_eq_some_iff.1 h1
      obtain ⟨_, h20, h4⟩ := World.cells?_some h2
      have hs : a.spot = none := by
        have g1 := hel 0 (by omega)
        rw [List.getElem?_eq_getElem (by omega), hct, Nat.zero_mul] at g1
        obtain ⟨cs0, g2, _⟩ := Option.bind_eq_some_iff.1 g1
        obtain ⟨_, g3, g4⟩ := World.cells?_some g2
        have h0 := g4 0 (by omega)
        rw [List.getElem?_eq_getElem (by omega)] at h0
        have hz : (a.add 0).add 0 = a := by simp [Addr.add]
        rw [hz] at h0
        exact congrArg Addr.spot (addr_plain h0)
      obtain ⟨z, hz, _⟩ := DataW.trod_int hu h3
      have h5 := h4 0 (by omega)
      rw [add_add _ _ _ hs] at h5
      subst hz
      refine ⟨z, a.block, a.off, by obtain ⟨b, o, s⟩ := a; simp only at hs; subst hs; rfl, ?_⟩
      simpa using h5
    refine ⟨some a, cap, List.ofFn fun i => Classical.choose (hE i), by rw [List.length_ofFn]; exact hcs, by rw [List.length_ofFn]; exact hl, by unfold maxLen at hm; omega, fun i hi => ?_⟩
    rw [List.length_ofFn] at hi
    have hs := Classical.choose_spec (hE ⟨i, hi⟩)
    rw [List.getD, List.getElem?_ofFn]
    simp only [hi, dif_pos, Option.getD_some]
    exact hs
end Go.Proofs.YtnjkinljpekohaaGreatDoor
