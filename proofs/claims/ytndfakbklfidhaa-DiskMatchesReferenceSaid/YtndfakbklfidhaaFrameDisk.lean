/- Slices of the laws' writes among the arguments. -/
import Derived.Test.YtndfakbklfidhaaFramePost
import Derived.Test.YtndfakbklfidhaaDiskWs
import Derived.Deep.Strs
namespace Go.Proofs.Ytndfakbklfidhaa
open Go.ChangeShapes Go.WideShapes Go.ChangeAt Go.RowKit Go.Deep
theorem one_cell {P : Program} {cs : List Value} {o k : Nat} {t : TypeId} {v : Value} (hc : P.cellsOf t = 1) (ho : o = k) (h : (cs.drop o).take (P.cellsOf t) = [v]) : cs.getD k undef = v := by
  subst ho
  rw [hc] at h
  have := congrArg (fun l => l[0]?) h
  simp only [List.getElem?_take, List.getElem?_drop] at this
  simp at this
  rw [List.getD, this]; rfl
set_option maxRecDepth 100000 in
theorem open_writes {H : Type} {enc : TypeId × Value → H} {w : World} {base : Nat} {r : Reach} {b0 : Nat} {v : Value} {d : DataW H} {p : List MemPlace}
    (hv : Value.okWide Try.prog w r b0 51 v) (h : DataW.Trod enc Try.prog w base (fun _ => true) true 51 v d p) :
    ∃ (A : Option Addr) (cap : Nat) (L : List Wp), v = .slice A L.length cap ∧ L.length ≤ cap ∧ (cap : Int) ≤ 9223372036854775807 ∧ WsAt w A L ∧ WsOk L := by
  obtain ⟨A, len, cap, rfl, h1, h2, h3⟩ := open_elems (K := 3) Try.underlying51 (by kernel_rfl) (by omega) hv h
  have hE : ∀ i : Fin len, ∃ x : Wp, (∃ b o, A = some ⟨b, o, none⟩ ∧ w.cell? ⟨b, o + i.1 * 3, none⟩ = some (.int .i64 x.off) ∧ w.cell? ⟨b, o + i.1 * 3 + 1, none⟩ = some (.string x.s) ∧ w.cell? ⟨b, o + i.1 * 3 + 2, none⟩ = some (.bool x.sync)) ∧ I64 x.off ∧ (x.s.size : Int) ≤ 9223372036854775807 := fun i => by
    obtain ⟨b, o, cs, x, fuel, hA, hl, hc, hx⟩ := h3 i.1 i.2
    obtain ⟨y0, y1, y2, n, _, _, t0, t1, t2⟩ := trod_struct3 Try.underlying53 hx
    obtain ⟨z, hz, _, hw⟩ := DataW.trod_int Try.underlying3 t0
    obtain ⟨s, hs, _, hm⟩ := DataW.trod_string Try.underlying9 t1
    obtain ⟨bb, hb, _⟩ := DataW.trod_bool Try.underlying4 t2
    have g0 := hc 0 (by omega)
    have g1 := hc 1 (by omega)
    have g2 := hc 2 (by omega)
    rw [one_cell (k := 0) (by kernel_rfl) rfl hz] at g0
    rw [one_cell (k := 1) (by kernel_rfl) rfl hs] at g1
    rw [one_cell (k := 2) (by kernel_rfl) rfl hb] at g2
    exact ⟨⟨z, s, bb⟩, ⟨b, o, hA, g0, g1, g2⟩, ⟨i64_lo hw, i64_hi hw⟩, str_max hm⟩
  refine ⟨A, cap, List.ofFn fun i => Classical.choose (hE i), by rw [List.length_ofFn], by rw [List.length_ofFn]; exact h1, h2, fun i hi => ?_, fun i hi => ?_⟩
  all_goals
    rw [List.length_ofFn] at hi
    have hs := Classical.choose_spec (hE ⟨i, hi⟩)
    rw [List.getD, List.getElem?_ofFn]
    simp only [hi, dif_pos, Option.getD_some]
  · exact hs.1
  · exact hs.2
end Go.Proofs.Ytndfakbklfidhaa
