/- A map from integers to values that is kept as it is: reading and storing. -/
import Derived.Test.YtebfenkjipaedaaGrpPlain
import Derived.Test.YtebfenkjipaedaaKept
import Derived.Test.YtebfenkjipaedaaProg
import Derived.Maps.OwnSet
namespace Go.Proofs.Ytebfenkjipaedaa.Gr
open Go.RowKit Gp Go.Maps
theorem int_u : Try.prog.underlying 3 = some (.int .i64) := by kernel_rfl
/-- an element reads as itself -/
def heldR (v : Value) : Option (DataW Value × List MemPlace) := some (.held v, [])
/-- block B is a map of at most n entries, with the values of f -/
def MapAt (w : World) (B n : Nat) (f : Int → Option Value) : Prop := ∃ D : DataW Value, w.ownsMap Try.prog 3 heldR B n D ∧
  ∀ k, I64 k → Maps.has D (.int .i64 k) = (f k).isSome ∧ ∀ z : DataW Value, D.atKey (.int .i64 k) z = match f k with | some v => .held v | none => z
theorem wf_of {k : Int} (h : I64 k) : (Lit.int .i64 k).wf = true := WalkArith.wf_i64 h
theorem MapAt.made (w : World) : MapAt (w.alloc (.map #[] 0)) w.heap.size 0 (fun _ => none) :=
  ⟨_, World.ownsMap_made _ _ _ _, fun _ _ => ⟨rfl, fun _ => rfl⟩⟩
theorem MapAt.kept {S : List Nat} {w w' : World} {B n : Nat} {f : Int → Option Value} (h : MapAt w B n f) (k : Kept S w w') (hB : B ∉ S) : MapAt w' B n f := by
  obtain ⟨D, ⟨es, clock, hb, F, hs, hD⟩, hf⟩ := h
  exact ⟨D, ⟨es, clock, k.heap hb hB, F, hs, hD⟩, hf⟩
theorem MapAt.lt {w : World} {B n : Nat} {f : Int → Option Value} (h : MapAt w B n f) : B < w.heap.size := by
  obtain ⟨D, h1, _⟩ := h; exact h1.lt
theorem MapAt.then_ {w w' : World} {B n : Nat} {f : Int → Option Value} (h : MapAt w B n f) (k : Below w.heap.size w w') : MapAt w' B n f := h.kept (Kept.of_below k) (by simp)
theorem MapAt.congr {w : World} {B n : Nat} {f g : Int → Option Value} (h : MapAt w B n f) (e : ∀ k, f k = g k) : MapAt w B n g := by
  obtain rfl : f = g := funext e
  exact h
theorem held_inj {a b : Value} (h : (DataW.held a : DataW Value) = .held b) : a = b := by injection h
theorem MapAt.look {w : World} {B n : Nat} {f : Int → Option Value} (h : MapAt w B n f) {t e : TypeId} (ht : Try.prog.underlying t = some (.map 3 e)) {z : Value} (hz : (zeroValue e).run Try.prog w = .ok z w) {k : Int} (hk : I64 k) :
    (Instr.lookup t (.map (some B)) (.int .i64 k) false).run Try.prog w = .ok ((f k).getD z) w := by
  obtain ⟨D, h1, hf⟩ := h
  obtain ⟨v, ps, hr, hR⟩ := h1.lookup (int_keyed int_u) ht hz (zd := .held z) (zp := []) rfl (keyOf_int_mk int_u (wf_of hk))
  rw [hr]
  have h2 := (hf k hk).2 (.held z)
  simp only [heldR, Option.some.injEq, Prod.mk.injEq] at hR
  rw [h2] at hR
  have e : v = (f k).getD z := by
    cases hfk : f k with
    | none => rw [hfk] at hR; exact held_inj hR.1
    | some u => rw [hfk] at hR; exact held_inj hR.1
  rw [e]
theorem MapAt.look_ok {w : World} {B n : Nat} {f : Int → Option Value} (h : MapAt w B n f) {t e : TypeId} (ht : Try.prog.underlying t = some (.map 3 e)) {z : Value} (hz : (zeroValue e).run Try.prog w = .ok z w) {k : Int} (hk : I64 k) :
    (Instr.lookup t (.map (some B)) (.int .i64 k) true).run Try.prog w = .ok (.tuple #[(f k).getD z, .bool (f k).isSome]) w := by
  obtain ⟨D, h1, hf⟩ := h
  obtain ⟨v, ps, hr, hR⟩ := h1.look_ok (int_keyed int_u) ht hz (zd := .held z) (zp := []) rfl (keyOf_int_mk int_u (wf_of hk))
  rw [hr, (hf k hk).1]
  have h2 := (hf k hk).2 (.held z)
  simp only [heldR, Option.some.injEq, Prod.mk.injEq] at hR
  rw [h2] at hR
  have e : v = (f k).getD z := by
    cases hfk : f k with
    | none => rw [hfk] at hR; exact held_inj hR.1
    | some u => rw [hfk] at hR; exact held_inj hR.1
  rw [e]
theorem MapAt.store {w : World} {B n : Nat} {f : Int → Option Value} (h : MapAt w B n f) {t e : TypeId} (ht : Try.prog.underlying t = some (.map 3 e)) (hn : n < maxLen) {k : Int} (hk : I64 k) (v : Value) :
    ∃ w', (Instr.mapUpdate t (.map (some B)) (.int .i64 k) v).run Try.prog w = .ok () w' ∧ MapAt w' B (n + 1) (fun x => if x = k then some v else f x) ∧ Kept [B] w w' := by
  obtain ⟨D, h1, hf⟩ := h
  obtain ⟨w', hr, h2, h3⟩ := h1.update (int_keyed int_u) ht hn (keyOf_int_mk int_u (wf_of hk)) (val := v) (d := .held v) (ps := []) rfl
  refine ⟨w', hr, ⟨_, h2, fun x hx => ?_⟩, (Kept.refl _ _).grown h3 (fun k' e => .inl (by injection e with e; simp [e]))⟩
  have hM := h1.isMap
  by_cases e : x = k
  · subst e
    dsimp only
    rw [if_pos rfl]
    have hK : WideAt.IsKeyLit (.int .i64 x) := trivial
    exact ⟨has_put_same (k := .int .i64 x) hM hK (.held v), fun z => atKey_put_same (k := .int .i64 x) hM hK (.held v) z⟩
  · dsimp only
    rw [if_neg e]
    have hne : (Lit.int .i64 x) ≠ Lit.int .i64 k := fun e' => e (by injection e')
    exact ⟨(has_put_other hne (.held v)).trans (hf x hx).1, fun z => (atKey_put_other hne (.held v) z).trans ((hf x hx).2 z)⟩
end Go.Proofs.Ytebfenkjipaedaa.Gr
