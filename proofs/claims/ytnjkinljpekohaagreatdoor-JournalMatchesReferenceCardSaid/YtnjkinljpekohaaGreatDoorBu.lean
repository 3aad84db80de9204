/- The calls of the laws of chapter 34, as they lie in memory. Slices of the laws' calls among the arguments (chapter 34). -/
import Derived.Test.YtnjkinljpekohaaGreatDoorBo
import Derived.Test.YtnjkinljpekohaaGreatDoorBm
import Derived.Test.YtnjkinljpekohaaGreatDoorBp
namespace Go.Proofs.YtnjkinljpekohaaGreatDoor.Jo
open Go.RowKit Sha Dsk Jr
/-- a call of a law: its kind, its group of records, its number, which writes survive -/
structure Jop where
  kind : Int
  la : Option Addr
  lc : Nat
  ll : List ByteArray
  n : Int
  ka : Option Addr
  kc : Nat
  kl : List Int
def jop0 : Jop := ⟨0, none, 0, [], 0, none, 0, []⟩
structure JopAt (w : World) (b o : Nat) (x : Jop) : Prop where
  kind : w.cell? ⟨b, o, none⟩ = some (.int .i64 x.kind)
  row : w.cell? ⟨b, o + 1, none⟩ = some (.slice x.la x.ll.length x.lc)
  num : w.cell? ⟨b, o + 2, none⟩ = some (.int .i64 x.n)
  keep : w.cell? ⟨b, o + 3, none⟩ = some (.slice x.ka x.kl.length x.kc)
  grp : GrpAt w ⟨x.la, x.lc, x.ll⟩
  ints : IntsAt w x.ka x.kl
def OpsAt (w : World) (A : Option Addr) (l : List Jop) : Prop := ∀ i, i < l.length → ∃ b o, A = some ⟨b, o, none⟩ ∧ JopAt w b (o + i * 4) (l.getD i jop0)
structure JopOk (x : Jop) : Prop where
  kind : I64 x.kind
  num : I64 x.n
  cap : x.kl.length ≤ x.kc
  max : (x.kc : Int) ≤ 9223372036854775807
def OpsOk (l : List Jop) : Prop := ∀ i, i < l.length → JopOk (l.getD i jop0)
theorem ints_then {w w' : World} {K : Option Addr} {l : List Int} (h : IntsAt w K l) (hb : Below w.heap.size w w') : IntsAt w' K l := fun i hi => by
  obtain ⟨b, o, h1, h2⟩ := h i hi
  exact ⟨b, o, h1, cell_then hb h2⟩
theorem JopAt.then_ {w w' : World} {b o : Nat} {x : Jop} (h : JopAt w b o x) (hb : Below w.heap.size w w') : JopAt w' b o x :=
  ⟨cell_then hb h.kind, cell_then hb h.row, cell_then hb h.num, cell_then hb h.keep, h.grp.then_ hb, ints_then h.ints hb⟩
theorem ints_cut {w : World} {K : Option Addr} {l : List Int} (h : IntsAt w K l) (n : Nat) : IntsAt w K (l.take n) := fun i hi => by
  rw [List.length_take] at hi
  obtain ⟨b, o, h1, h2⟩ := h i (by omega)
  refine ⟨b, o, h1, ?_⟩
  rw [h2, List.getD, List.getD, List.getElem?_take, if_pos (by omega)]
end Go.Proofs.YtnjkinljpekohaaGreatDoor.Jo
namespace Go.Proofs.YtnjkinljpekohaaGreatDoor
open Go.ChangeShapes Go.WideShapes Go.ChangeAt Go.RowKit Go.Deep
set_option maxRecDepth 100000 in
theorem open_ops {H : Type} {enc : TypeId × Value → H} {w : World} {r : Reach} {b0 : Nat} {v : Value} {d : DataW H} {p : List MemPlace}
    (hv : Value.okWide Tryz.prog w r b0 22 v) (h : DataW.Trod enc Tryz.prog w 0 (fun _ => true) true 22 v d p) :
    ∃ (A : Option Addr) (cap : Nat) (L : List Jo.Jop), v = .slice A L.length cap ∧ L.length ≤ cap ∧ (cap : Int) ≤ 9223372036854775807 ∧ Jo.OpsAt w A L ∧ Jo.OpsOk L := by
  obtain ⟨A, len, cap, rfl, h1, h2, h3⟩ := open_elems (K := 4) Tryz.underlying22 (by kernel_rfl) (by omega) hv h
  have hE : ∀ i : Fin len, ∃ x : Jo.Jop, (∃ b o, A = some ⟨b, o, none⟩ ∧ Jo.JopAt w b (o + i.1 * 4) x) ∧ Jo.JopOk x := fun i => by
    obtain ⟨b, o, cs, x, fuel, hA, hl, hc, hx⟩ := h3 i.1 i.2
    obtain ⟨y0, y1, y2, y3, n, t0, t1, t2, t3⟩ := trod_four Tryz.underlying36 hx
    obtain ⟨z0, hz0, _, hw0⟩ := DataW.trod_int Tryz.underlying3 t0
    obtain ⟨g, hg, hG⟩ := open_grp Tryz.underlying32 Tryz.underlying9 (by kernel_rfl) t1
    obtain ⟨z2, hz2, _, hw2⟩ := DataW.trod_int Tryz.underlying3 t2
    obtain ⟨xa, xc, xl, hxl, hle, hcm, hI⟩ := open_ints_raw Tryz.underlying34 Tryz.underlying3 (by kernel_rfl) t3
    have g0 := hc 0 (by omega)
    have g1 := hc 1 (by omega)
    have g2 := hc 2 (by omega)
    have g3 := hc 3 (by omega)
    rw [one_cell (k := 0) (by kernel_rfl) rfl hz0] at g0
    rw [one_cell (k := 1) (by kernel_rfl) rfl hg] at g1
    rw [one_cell (k := 2) (by kernel_rfl) rfl hz2] at g2
    rw [one_cell (k := 3) (by kernel_rfl) rfl hxl] at g3
    exact ⟨⟨z0, g.A, g.c, g.l, z2, xa, xc, xl⟩, ⟨b, o, hA, ⟨g0, g1, g2, g3, hG, hI⟩⟩, ⟨⟨i64_lo hw0, i64_hi hw0⟩, ⟨i64_lo hw2, i64_hi hw2⟩, hle, hcm⟩⟩
  refine ⟨A, cap, List.ofFn fun i => Classical.choose (hE i), by rw [List.length_ofFn], by rw [List.length_ofFn]; exact h1, h2, fun i hi => ?_, fun i hi => ?_⟩
  all_goals
    rw [List.length_ofFn] at hi
    have hs := Classical.choose_spec (hE ⟨i, hi⟩)
    rw [List.getD, List.getElem?_ofFn]
    simp only [hi, dif_pos, Option.getD_some]
  · exact hs.1
  · exact hs.2
end Go.Proofs.YtnjkinljpekohaaGreatDoor
