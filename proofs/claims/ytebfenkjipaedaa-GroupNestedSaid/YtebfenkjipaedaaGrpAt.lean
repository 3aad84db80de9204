/- Groups in memory; maps that may be nil; small functions of package group. -/
import Derived.Test.YtebfenkjipaedaaGrpMap
import Derived.Test.YtebfenkjipaedaaArr
import Derived.Test.YtebfenkjipaedaaGb
import Derived.Test.YtebfenkjipaedaaGc
import Derived.WalkMore
import Derived.LoopIn
import Derived.Deep.DeepMust
import Derived.Deep.RegionHeldLaw
import Derived.Deep.RegionHeld3
import Derived.Deep.RegionLaw
import Derived.Lib.QuietBelow
import Derived.Deep.DeepCutAuto
import Derived.Shelf.Abstract
import Derived.Shelf.RegionOpen
import Derived.RangeFuncBound
import Derived.LoopNIn
import Derived.TacticsInMore
import Derived.OwnWalkIn
namespace Go.Proofs.Ytebfenkjipaedaa.Gr
open Go.RowKit Gp
attribute [local go_sem] Oper.semAt_some
/-- a slice of integers in memory -/
def MsAt (w : World) (v : Value) (ms : List Int) : Prop := ∃ A c, v = .slice A ms.length c ∧ ms.length ≤ c ∧ IntsAt w A ms ∧ (A = none → c = 0)
theorem MsAt.then_ {w w' : World} {v : Value} {ms : List Int} (h : MsAt w v ms) (hb : Below w.heap.size w w') : MsAt w' v ms := by
  obtain ⟨A, c, h1, h2, h3, h4⟩ := h
  exact ⟨A, c, h1, h2, h3.then_ hb, h4⟩
structure GrpAt (w : World) (b o : Nat) (g : Grp) : Prop where
  id : w.cell? ⟨b, o, none⟩ = some (.int .i64 g.id)
  of : w.cell? ⟨b, o + 1, none⟩ = some (.int .i64 g.of)
  v : w.cell? ⟨b, o + 2, none⟩ = some g.v
theorem GrpAt.then_ {w w' : World} {b o : Nat} {g : Grp} (h : GrpAt w b o g) (hb : Below w.heap.size w w') : GrpAt w' b o g := ⟨cell_then hb h.id, cell_then hb h.of, cell_then hb h.v⟩
/-- groups in memory -/
def GrpsAt (w : World) (A : Option Addr) (l : List Grp) : Prop := ∀ i, i < l.length → (∃ b o, A = some ⟨b, o, none⟩ ∧ GrpAt w b (o + i * 3) (l.getD i g0)) ∧ MsAt w (l.getD i g0).v (l.getD i g0).ms
theorem GrpsAt.then_ {w w' : World} {A : Option Addr} {l : List Grp} (h : GrpsAt w A l) (hb : Below w.heap.size w w') : GrpsAt w' A l := fun i hi => by
  obtain ⟨⟨b, o, h1, h2⟩, h3⟩ := h i hi
  exact ⟨⟨b, o, h1, h2.then_ hb⟩, h3.then_ hb⟩
/-- a map that may be nil -/
def MapV (w : World) (v : Value) (f : Int → Option Value) : Prop := (v = .map none ∧ ∀ k, f k = none) ∨ ∃ B n, v = .map (some B) ∧ MapAt w B n f
theorem MapV.then_ {w w' : World} {v : Value} {f : Int → Option Value} (h : MapV w v f) (hb : Below w.heap.size w w') : MapV w' v f := by
  rcases h with h | ⟨B, n, h1, h2⟩
  · exact .inl h
  · exact .inr ⟨B, n, h1, h2.then_ hb⟩
theorem MapV.congr {w : World} {v : Value} {f g : Int → Option Value} (h : MapV w v f) (e : ∀ k, f k = g k) : MapV w v g := by
  obtain rfl : f = g := funext e
  exact h
theorem MapV.look {w : World} {v : Value} {f : Int → Option Value} (h : MapV w v f) {t e : TypeId} (ht : Try.prog.underlying t = some (.map 3 e)) {z : Value} (hz : (zeroValue e).run Try.prog w = .ok z w) {k : Int} (hk : I64 k) :
    (Instr.lookup t v (.int .i64 k) false).run Try.prog w = .ok ((f k).getD z) w := by
  rcases h with ⟨rfl, h⟩ | ⟨B, n, rfl, h⟩
  · rw [h]
    exact Maps.look_nil false (Maps.int_keyed int_u) ht hz (Maps.keyOf_int_mk int_u (wf_of hk))
  · exact h.look ht hz hk
theorem MapV.look_ok {w : World} {v : Value} {f : Int → Option Value} (h : MapV w v f) {t e : TypeId} (ht : Try.prog.underlying t = some (.map 3 e)) {z : Value} (hz : (zeroValue e).run Try.prog w = .ok z w) {k : Int} (hk : I64 k) :
    (Instr.lookup t v (.int .i64 k) true).run Try.prog w = .ok (.tuple #[(f k).getD z, .bool (f k).isSome]) w := by
  rcases h with ⟨rfl, h⟩ | ⟨B, n, rfl, h⟩
  · rw [h]
    exact Maps.look_nil true (Maps.int_keyed int_u) ht hz (Maps.keyOf_int_mk int_u (wf_of hk))
  · exact h.look_ok ht hz hk
theorem grp_zero : ∀ w, (zeroValue 26).run Try.prog w = .ok (gv g0) w := fun w => by kernel_rfl
theorem int_zero : ∀ w, (zeroValue 3).run Try.prog w = .ok (.int .i64 0) w := fun w => by kernel_rfl
theorem gmap_u : Try.prog.underlying 70 = some (.map 3 26) := by kernel_rfl
theorem imap_u : Try.prog.underlying 71 = some (.map 3 3) := by kernel_rfl
def inB (n lo hi : Int) : Bool := decide (lo ≤ n) && decide (n ≤ hi)
theorem inB_iff {n lo hi : Int} : inB n lo hi = true ↔ lo ≤ n ∧ n ≤ hi := by simp [inB]
theorem in_any (n lo hi : Int) (w : World) : Calls Try.prog 55 #[.int .i64 n, .int .i64 lo, .int .i64 hi] w fun e w' => e = .returned (.bool (inB n lo hi)) ∧ w = w' := by
  by_cases h1 : lo ≤ n
  · by_cases h2 : n ≤ hi
    · rw [show inB n lo hi = true from inB_iff.2 ⟨h1, h2⟩]
      go_enter Try.func55, Try.ntmps55
      go_wp2_with fail
      go_ret
      exact ⟨rfl, rfl⟩
    · rw [show inB n lo hi = false by simp [inB, h2]]
      go_enter Try.func55, Try.ntmps55
      go_wp2_with fail
      go_ret
      exact ⟨rfl, rfl⟩
  · rw [show inB n lo hi = false by simp [inB, h1]]
    go_enter Try.func55, Try.ntmps55
    go_wp2_with fail
    go_ret
    exact ⟨rfl, rfl⟩
theorem inR_any (n lo hi : Int) (w : World) : Calls Try.prog 38 #[.int .i64 n, .int .i64 lo, .int .i64 hi] w fun e w' => e = .returned (.bool (inB n lo hi)) ∧ w = w' := by
  by_cases h1 : lo ≤ n
  · by_cases h2 : n ≤ hi
    · rw [show inB n lo hi = true from inB_iff.2 ⟨h1, h2⟩]
      go_enter Try.func38, Try.ntmps38
      go_wp2_with fail
      go_ret
      exact ⟨rfl, rfl⟩
    · rw [show inB n lo hi = false by simp [inB, h2]]
      go_enter Try.func38, Try.ntmps38
      go_wp2_with fail
      go_ret
      exact ⟨rfl, rfl⟩
  · rw [show inB n lo hi = false by simp [inB, h1]]
    go_enter Try.func38, Try.ntmps38
    go_wp2_with fail
    go_ret
    exact ⟨rfl, rfl⟩
end Go.Proofs.Ytebfenkjipaedaa.Gr
