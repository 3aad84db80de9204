/- Leaving a function behind several loops over functions: each has left a block for deferred calls, and none was deferred. No program stands here. -/
import Derived.Test.YtebfenkjipaedaaRange
import Derived.Test.YtebfenkjipaedaaKept
namespace Go.Proofs.Ytebfenkjipaedaa
open Go.RowKit
/-- the deferred entry of a loop over a function -/
def marks (Ds : List Nat) : List Deferred := Ds.map fun D => { target := .collected D, args := #[] }
/-- the blocks of the loops, empty -/
structure MarksAt (W : World) (B : Nat) (Ds : List Nat) : Prop where
  nodup : Ds.Nodup
  at_ : ∀ D ∈ Ds, B ≤ D ∧ W.heap[D]? = some (.deferred (some []))
theorem MarksAt.nil (W : World) (B : Nat) : MarksAt W B [] := ⟨List.nodup_nil, fun D h => by cases h⟩
theorem MarksAt.kept {W W' : World} {B : Nat} {Ds S : List Nat} (h : MarksAt W B Ds) (k : Kept S W W') (hS : ∀ D ∈ Ds, D ∉ S) : MarksAt W' B Ds :=
  ⟨h.nodup, fun D hD => ⟨(h.at_ D hD).1, k.heap (h.at_ D hD).2 (hS D hD)⟩⟩
theorem MarksAt.cons {W W' : World} {B D : Nat} {Ds : List Nat} (h : MarksAt W B Ds) (hb : ∀ D ∈ Ds, W'.heap[D]? = W.heap[D]?) (hB : B ≤ D) (hlt : ∀ D' ∈ Ds, D' < D) (hD : W'.heap[D]? = some (.deferred (some []))) : MarksAt W' B (D :: Ds) := by
  refine ⟨List.nodup_cons.2 ⟨fun e => by have := hlt D e; omega, h.nodup⟩, fun D' hD' => ?_⟩
  rcases List.mem_cons.1 hD' with e | e
  · subst e; exact ⟨hB, hD⟩
  · exact ⟨(h.at_ D' e).1, (hb D' e).trans (h.at_ D' e).2⟩
theorem MarksAt.lt {W : World} {B : Nat} {Ds : List Nat} (h : MarksAt W B Ds) : ∀ D ∈ Ds, D < W.heap.size := fun D hD => heap_lt (h.at_ D hD).2
theorem kept_putObj {S : List Nat} {a b : World} (h : Kept S a b) {l : Nat} (hl : l ∈ S ∨ a.heap.size ≤ l) (o : Obj) : Kept S a (b.putObj l o) :=
  ⟨h.os, h.tape, h.output, by have := h.size; simpa using this, fun k hk hn => (World.putObj_heap_other (fun e => by subst e; rcases hl with hl | hl; exact hn hl; omega)).trans (h.block k hk hn)⟩
/-- what a return owes behind such loops -/
theorem leaves_marks {P : Program} {fn : Func} {tmps : Array Value} {R : Ending → World → Prop} {B : Nat} : ∀ {Ds : List Nat} {W : World}, MarksAt W B Ds →
    (∀ W', Kept Ds W W' → ∃ v, (results fn tmps).run P W' = .ok v W' ∧ R (.returned v) W') → LeavesInM Fence.wide 0 P fn tmps R (marks Ds) .returning W
  | [], W, _, h => h W (Kept.refl _ _)
  | D :: Ds, W, hm, h => by
    have hD := (hm.at_ D (by simp)).2
    have hn := List.nodup_cons.1 hm.nodup
    refine ⟨by simp, .inl ⟨D, W.putObj D (.deferred none), rfl, run_takeDeferred hD, ?_⟩⟩
    have hk : Kept [D] W (W.putObj D (.deferred none)) := kept_putObj (Kept.refl _ _) (.inl (by simp)) _
    refine leaves_marks (B := B) (Ds := Ds) ⟨hn.2, fun D' hD' => ⟨(hm.at_ D' (by simp [hD'])).1, hk.heap (hm.at_ D' (by simp [hD'])).2 (by simp; exact fun e => hn.1 (e ▸ hD'))⟩⟩ (fun W' hk' => h W' ?_)
    exact (hk.mono (by simp)).trans (hk'.mono (fun k hk => by simp [hk])) (New.refl _ _)
end Go.Proofs.Ytebfenkjipaedaa
