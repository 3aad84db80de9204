/- Lists of lists of strings among the arguments. Nothing of the program stands here. -/
import Derived.Test.YtnjkinljpekohaaGreatDoorBl
import Derived.Test.YtnjkinljpekohaaGreatDoorBo
namespace Go.Proofs.YtnjkinljpekohaaGreatDoor
open Go.ChangeShapes Go.WideShapes Go.ChangeAt Go.RowKit
theorem add_plain {a : Addr} (h : a.spot = none) (i : Nat) : a.add i = ⟨a.block, a.off + i, none⟩ := by
  obtain ⟨b, o, s⟩ := a
  simp only at h
  subst h
  unfold Addr.add; split <;> simp_all
/-- one list of strings, out of the cells that hold its slice -/
theorem open_grp {H : Type} {enc : TypeId × Value → H} {P : Program} {w : World} {u e : TypeId} {fuel : Nat} {cs : List Value} {x : DataW H × List MemPlace}
    (hu : P.underlying u = some (.slice e)) (he : P.underlying e = some .string) (hc : P.cellsOf e = 1) (h : DataW.trod enc P w 0 (fun _ => true) true fuel u cs = some x) :
    ∃ g : Jo.Grp, cs = [.slice g.A g.l.length g.c] ∧ Jo.GrpAt w g := by
  rcases open_strings hu he hc h with ⟨hcs, _⟩ | ⟨a, len, cap, ss, hcs, _, hl, hm, hz, _, hcell, hw⟩
  · exact ⟨⟨none, 0, []⟩, hcs, ⟨fun i hi => absurd hi (by simp), by simp, by simp⟩⟩
  · simp only [if_true] at hz
    have hlen : (ss.take len).length = len := by rw [List.length_take]; omega
    refine ⟨⟨some a, cap, ss.take len⟩, by rw [hcs, hlen], ⟨fun i hi => ?_, by dsimp only; rw [hlen]; unfold maxLen at hm; omega, fun s hs => str_max (hw s (List.mem_of_mem_take hs))⟩⟩
    dsimp only at hi
    have hi' : i < len := by rw [hlen] at hi; exact hi
    have h0 := hcell 0 (by omega)
    have hs : a.spot = none := spot_none (by have := h0; rw [show a.add 0 = a by simp [Addr.add]] at this; exact this)
    refine ⟨a.block, a.off, by obtain ⟨b, o, s⟩ := a; simp only at hs; subst hs; rfl, ?_⟩
    have := hcell i (by omega)
    rw [add_plain hs] at this
    rw [this]
    simp only [List.getD, List.getElem?_take, if_pos hi']
    rfl
/-- lists of strings -/
theorem open_grps {H : Type} {enc : TypeId × Value → H} {P : Program} {w : World} {base : Nat} {r : Reach} {b0 : Nat} {t u e : TypeId} {v : Value} {d : DataW H} {p : List MemPlace}
    (ht : P.underlying t = some (.slice u)) (hu : P.underlying u = some (.slice e)) (he : P.underlying e = some .string) (hc : P.cellsOf e = 1) (hcu : P.cellsOf u = 1) (hb0 : base = 0) (hv : Value.okWide P w r b0 t v) (h : DataW.Trod enc P w base (fun _ => true) true t v d p) :
    ∃ (A : Option Addr) (cap : Nat) (G : List Jo.Grp), v = .slice A G.length cap ∧ (G.length : Int) ≤ 9223372036854775807 ∧ Jo.GrpsAt w A G := by
  subst hb0
  obtain ⟨a0, len0, cap0, rfl⟩ := okWide_slice ht hv
  obtain ⟨fuel, hf⟩ := h
  simp only [Value.cells] at hf
  rcases DataW.trod_slice ht hf with ⟨hcs, _⟩ | ⟨a, len, cap, elems, rest, n, _, hcs, _, hb, hl, hm, hlen, hel, _, _⟩
  · simp only [List.cons.injEq, Value.slice.injEq] at hcs
    obtain ⟨⟨rfl, rfl, rfl⟩, _⟩ := hcs
    exact ⟨none, 0, [], rfl, by simp, fun i hi => absurd hi (by simp)⟩
  · simp only [List.cons.injEq, Value.slice.injEq] at hcs
    obtain ⟨⟨rfl, rfl, rfl⟩, _⟩ := hcs
    have each : ∀ i, i < len0 → ∃ g : Jo.Grp, w.cell? (a.add i) = some (.slice g.A g.l.length g.c) ∧ Jo.GrpAt w g := fun i hi => by
      have h1 := hel i hi
      rw [List.getElem?_eq_getElem (by omega), hcu, Nat.mul_one] at h1
      obtain ⟨cs, h2, h3⟩ := Option.bind_eq_some_iff.1 h1
      obtain ⟨_, h5, h4⟩ := World.cells?_some h2
      obtain ⟨g, hg, hgr⟩ := open_grp hu he hc h3
      refine ⟨g, ?_, hgr⟩
      have := h4 0 (by omega)
      rw [show (a.add i).add 0 = a.add i by simp [Addr.add], hg] at this
      simpa using this
    have hE' : ∀ i : Fin len0, _ := fun i => each i.1 i.2
    obtain ⟨G, hG, hall⟩ : ∃ G : List Jo.Grp, G.length = len0 ∧ ∀ i (hi : i < G.length), w.cell? (a.add i) = some (.slice G[i].A G[i].l.length G[i].c) ∧ Jo.GrpAt w G[i] := by
      refine ⟨List.ofFn fun i : Fin len0 => Classical.choose (hE' i), by simp, fun i hi => ?_⟩
      have hi2 : i < len0 := by simpa using hi
      have := Classical.choose_spec (hE' ⟨i, hi2⟩)
      simpa using this
    subst hG
    refine ⟨some a, cap0, G, rfl, by unfold maxLen at hm; omega, fun i hi => ?_⟩
    obtain ⟨hc0, hg⟩ := hall i hi
    have hs : a.spot = none := spot_none (by have := (hall 0 (by omega)).1; rw [show a.add 0 = a by simp [Addr.add]] at this; exact this)
    rw [add_plain hs] at hc0
    refine ⟨a.block, a.off, by obtain ⟨b, o, s⟩ := a; simp only at hs; subst hs; rfl, ?_⟩
    rw [List.getD, List.getElem?_eq_getElem hi]
    exact ⟨hc0, hg⟩
end Go.Proofs.YtnjkinljpekohaaGreatDoor
