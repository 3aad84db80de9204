/- Slices of the law's calls among the arguments. -/
import Derived.Test.YtndfakbklfidhaaFrameDisk
import Derived.Test.YtndfakbklfidhaaDiskL8
namespace Go.Proofs.Ytndfakbklfidhaa
open Go.ChangeShapes Go.WideShapes Go.ChangeAt Go.RowKit Go.Deep
theorem trod_five {H : Type} {enc : TypeId × Value → H} {P : Program} {w : World} {base : Nat} {spare : Nat → Bool} {held : Bool} {t : TypeId} {f0 f1 f2 f3 f4 : Field} {fuel : Nat} {cs : List Value} {x : DataW H × List MemPlace} (ht : P.underlying t = some (.struct #[f0, f1, f2, f3, f4])) (h : DataW.trod enc P w base spare held fuel t cs = some x) :
    ∃ y0 y1 y2 y3 y4 n, DataW.trod enc P w base spare held n f0.type ((cs.drop f0.offset).take (P.cellsOf f0.type)) = some y0 ∧
      DataW.trod enc P w base spare held n f1.type ((cs.drop f1.offset).take (P.cellsOf f1.type)) = some y1 ∧ DataW.trod enc P w base spare held n f2.type ((cs.drop f2.offset).take (P.cellsOf f2.type)) = some y2 ∧
      DataW.trod enc P w base spare held n f3.type ((cs.drop f3.offset).take (P.cellsOf f3.type)) = some y3 ∧ DataW.trod enc P w base spare held n f4.type ((cs.drop f4.offset).take (P.cellsOf f4.type)) = some y4 := by
  obtain ⟨xs, n, _, rfl, hl, hlen, hf⟩ := DataW.trod_struct ht h
  match xs, hlen with
  | [y0, y1, y2, y3, y4], _ => exact ⟨y0, y1, y2, y3, y4, n, by simpa using hf 0 f0 rfl, by simpa using hf 1 f1 rfl, by simpa using hf 2 f2 rfl, by simpa using hf 3 f3 rfl, by simpa using hf 4 f4 rfl⟩
/-- a slice of integers in a field -/
theorem open_ints_raw {H : Type} {enc : TypeId × Value → H} {P : Program} {w : World} {base : Nat} {t u : TypeId} {fuel : Nat} {cs : List Value} {x : DataW H × List MemPlace}
    (ht : P.underlying t = some (.slice u)) (hu : P.underlying u = some (.int .i64)) (hct : P.cellsOf u = 1) (hf : DataW.trod enc P w base (fun _ => true) true fuel t cs = some x) :
    ∃ (A : Option Addr) (cap : Nat) (L : List Int), cs = [.slice A L.length cap] ∧ L.length ≤ cap ∧ (cap : Int) ≤ 9223372036854775807 ∧ IntsAt w A L := by
  rcases DataW.trod_slice ht hf with ⟨hcs, _⟩ | ⟨a, len, cap, elems, rest, n, _, hcs, _, hb, hl, hm, hlen, hel, _, _⟩
  · exact ⟨none, 0, [], hcs, by simp, by omega, fun i hi => absurd hi (by simp)⟩
  · have hE : ∀ i : Fin len, ∃ z : Int, ∃ b o, (some a : Option Addr) = some ⟨b, o, none⟩ ∧ w.cell? ⟨b, o + i.1, none⟩ = some (.int .i64 z) := fun i => by
      have hi0 := i.2
      have h1 := hel i.1 i.2
      rw [List.getElem?_eq_getElem (by omega), hct] at h1
      obtain ⟨cs1, h2, h3⟩ := Option.bind_eq_some_iff.1 h1
      obtain ⟨_, h20, h4⟩ := World.cells?_some h2
      have hs : a.spot = none := by
        have g1 := hel 0 (by omega)
        rw [List.getElem?_eq_getElem (by omega), hct, Nat.zero_mul] at g1
        obtain ⟨cs0, g2, _⟩ := Option.bind_eq_some_iff.1 g1
        obtain ⟨_, g3, g4⟩ := World.cells?_some g2
        have h0 := g4 0 (by omega)
        rw [List.getElem?_eq_getElem (by omega)] at h0
        have hz : (a.add 0).add 0 = a := by simp [Addr.add]
        rw [hz] at h0
        exact congrArg Addr.spot (addr_plain h0)
      obtain ⟨z, hz, _⟩ := DataW.trod_int hu h3
      have h5 := h4 0 (by omega)
      rw [add_add _ _ _ hs] at h5
      subst hz
      refine ⟨z, a.block, a.off, by obtain ⟨b, o, s⟩ := a; simp only at hs; subst hs; rfl, ?_⟩
      simpa using h5
    refine ⟨some a, cap, List.ofFn fun i => Classical.choose (hE i), by rw [List.length_ofFn]; exact hcs, by rw [List.length_ofFn]; exact hl, by unfold maxLen at hm; omega, fun i hi => ?_⟩
    rw [List.length_ofFn] at hi
    have hs := Classical.choose_spec (hE ⟨i, hi⟩)
    rw [List.getD, List.getElem?_ofFn]
    simp only [hi, dif_pos, Option.getD_some]
    exact hs
set_option maxRecDepth 100000 in
theorem open_steps {H : Type} {enc : TypeId × Value → H} {w : World} {base : Nat} {r : Reach} {b0 : Nat} {v : Value} {d : DataW H} {p : List MemPlace}
    (hv : Value.okWide Try.prog w r b0 32 v) (h : DataW.Trod enc Try.prog w base (fun _ => true) true 32 v d p) :
    ∃ (A : Option Addr) (cap : Nat) (L : List Sp), v = .slice A L.length cap ∧ L.length ≤ cap ∧ (cap : Int) ≤ 9223372036854775807 ∧ SpsAt w A L ∧ SpsOk L := by
  obtain ⟨A, len, cap, rfl, h1, h2, h3⟩ := open_elems (K := 5) Try.underlying32 (by kernel_rfl) (by omega) hv h
  have hE : ∀ i : Fin len, ∃ x : Sp, (∃ b o, A = some ⟨b, o, none⟩ ∧ w.cell? ⟨b, o + i.1 * 5, none⟩ = some (.int .i64 x.call) ∧ w.cell? ⟨b, o + i.1 * 5 + 1, none⟩ = some (.int .i64 x.off) ∧ w.cell? ⟨b, o + i.1 * 5 + 2, none⟩ = some (.int .i64 x.n) ∧
      w.cell? ⟨b, o + i.1 * 5 + 3, none⟩ = some (.string x.s) ∧ w.cell? ⟨b, o + i.1 * 5 + 4, none⟩ = some (.slice x.a x.l.length x.c) ∧ IntsAt w x.a x.l) ∧
      I64 x.call ∧ I64 x.off ∧ I64 x.n ∧ (x.s.size : Int) ≤ 9223372036854775807 ∧ x.l.length ≤ x.c ∧ (x.c : Int) ≤ 9223372036854775807 := fun i => by
    obtain ⟨b, o, cs, x, fuel, hA, hl, hc, hx⟩ := h3 i.1 i.2
    obtain ⟨y0, y1, y2, y3, y4, n, t0, t1, t2, t3, t4⟩ := trod_five Try.underlying39 hx
    obtain ⟨z0, hz0, _, hw0⟩ := DataW.trod_int Try.underlying3 t0
    obtain ⟨z1, hz1, _, hw1⟩ := DataW.trod_int Try.underlying3 t1
    obtain ⟨z2, hz2, _, hw2⟩ := DataW.trod_int Try.underlying3 t2
    obtain ⟨s, hs, _, hm⟩ := DataW.trod_string Try.underlying9 t3
    obtain ⟨xa, xc, xl, hxl, hle, hcm, hI⟩ := open_ints_raw Try.underlying37 Try.underlying3 (by kernel_rfl) t4
    have g0 := hc 0 (by omega)
    have g1 := hc 1 (by omega)
    have g2 := hc 2 (by omega)
    have g3 := hc 3 (by omega)
    have g4 := hc 4 (by omega)
    rw [one_cell (k := 0) (by kernel_rfl) rfl hz0] at g0
    rw [one_cell (k := 1) (by kernel_rfl) rfl hz1] at g1
    rw [one_cell (k := 2) (by kernel_rfl) rfl hz2] at g2
    rw [one_cell (k := 3) (by kernel_rfl) rfl hs] at g3
    rw [one_cell (k := 4) (by kernel_rfl) rfl hxl] at g4
    exact ⟨⟨z0, z1, z2, s, xa, xc, xl⟩, ⟨b, o, hA, g0, g1, g2, g3, g4, hI⟩, ⟨i64_lo hw0, i64_hi hw0⟩, ⟨i64_lo hw1, i64_hi hw1⟩, ⟨i64_lo hw2, i64_hi hw2⟩, str_max hm, hle, hcm⟩
  refine ⟨A, cap, List.ofFn fun i => Classical.choose (hE i), by rw [List.length_ofFn], by rw [List.length_ofFn]; exact h1, h2, fun i hi => ?_, fun i hi => ?_⟩
  all_goals
    rw [List.length_ofFn] at hi
    have hs := Classical.choose_spec (hE ⟨i, hi⟩)
    rw [List.getD, List.getElem?_ofFn]
    simp only [hi, dif_pos, Option.getD_some]
  · exact hs.1
  · exact hs.2
end Go.Proofs.Ytndfakbklfidhaa
