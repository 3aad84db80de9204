/- The calls of the laws of chapter 34, as they lie in memory. -/
import Derived.Test.YtnjkinljpekohaaGreatDoorBo
import Derived.Test.YtnjkinljpekohaaGreatDoorBm
namespace Go.Proofs.YtnjkinljpekohaaGreatDoor.Jo
open Go.RowKit Sha Dsk Jr
/-- a call of a law: its kind, its group of records, its number, which writes survive -/
structure Jop where
  kind : Int
  la : Option Addr
  lc : Nat
  ll : List ByteArray
  n : Int
  ka : Option Addr
  kc : Nat
  kl : List Int
def jop0 : Jop := ⟨0, none, 0, [], 0, none, 0, []⟩
structure JopAt (w : World) (b o : Nat) (x : Jop) : Prop where
  kind : w.cell? ⟨b, o, none⟩ = some (.int .i64 x.kind)
  row : w.cell? ⟨b, o + 1, none⟩ = some (.slice x.la x.ll.length x.lc)
  num : w.cell? ⟨b, o + 2, none⟩ = some (.int .i64 x.n)
  keep : w.cell? ⟨b, o + 3, none⟩ = some (.slice x.ka x.kl.length x.kc)
  grp : GrpAt w ⟨x.la, x.lc, x.ll⟩
  ints : IntsAt w x.ka x.kl
def OpsAt (w : World) (A : Option Addr) (l : List Jop) : Prop := ∀ i, i < l.length → ∃ b o, A = some ⟨b, o, none⟩ ∧ JopAt w b (o + i * 4) (l.getD i jop0)
structure JopOk (x : Jop) : Prop where
  kind : I64 x.kind
  num : I64 x.n
  cap : x.kl.length ≤ x.kc
  max : (x.kc : Int) ≤ 9223372036854775807
def OpsOk (l : List Jop) : Prop := ∀ i, i < l.length → JopOk (l.getD i jop0)
theorem ints_then {w w' : World} {K : Option Addr} {l : List Int} (h : IntsAt w K l) (hb : Below w.heap.size w w') : IntsAt w' K l := fun i hi => by
  obtain ⟨b, o, h1, h2⟩ := h i hi
  exact ⟨b, o, h1, cell_then hb h2⟩
theorem JopAt.then_ {w w' : World} {b o : Nat} {x : Jop} (h : JopAt w b o x) (hb : Below w.heap.size w w') : JopAt w' b o x :=
  ⟨cell_then hb h.kind, cell_then hb h.row, cell_then hb h.num, cell_then hb h.keep, h.grp.then_ hb, ints_then h.ints hb⟩
theorem ints_cut {w : World} {K : Option Addr} {l : List Int} (h : IntsAt w K l) (n : Nat) : IntsAt w K (l.take n) := fun i hi => by
  rw [List.length_take] at hi
  obtain ⟨b, o, h1, h2⟩ := h i (by omega)
  refine ⟨b, o, h1, ?_⟩
  rw [h2, List.getD, List.getD, List.getElem?_take, if_pos (by omega)]
end Go.Proofs.YtnjkinljpekohaaGreatDoor.Jo
