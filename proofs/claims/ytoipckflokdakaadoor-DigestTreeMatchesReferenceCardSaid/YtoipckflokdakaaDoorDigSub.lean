/- Parts of a list of strings in memory; a list turned; all, take, join. -/
import Derived.Test.YtoipckflokdakaaDoorDigRootW
namespace Go.Proofs.YtoipckflokdakaaDoor
open Go.RowKit Sha Mk
theorem StrsAt.take {w : World} {b o : Nat} {l : List ByteArray} (h : StrsAt w (some ⟨b, o, none⟩) l) (k : Nat) : StrsAt w (some ⟨b, o, none⟩) (l.take k) := fun i hi => by
  rw [List.length_take] at hi
  obtain ⟨b', o', e, hc⟩ := h i (by omega)
  refine ⟨b', o', e, ?_⟩
  rw [hc]
  simp [List.getD, show i < k by omega]
theorem StrsAt.drop {w : World} {b o : Nat} {l : List ByteArray} (h : StrsAt w (some ⟨b, o, none⟩) l) (k : Nat) : StrsAt w (some ⟨b, o + k, none⟩) (l.drop k) := fun i hi => by
  rw [List.length_drop] at hi
  obtain ⟨b', o', e, hc⟩ := h (k + i) (by omega)
  injection e with e
  injection e with e1 e2
  subst e1 e2
  refine ⟨b, o + k, rfl, ?_⟩
  rw [Nat.add_assoc, hc]
  simp [List.getD]
theorem root_n (A : Option Addr) (cap n : Nat) (l : List ByteArray) (w : World) (hn : l.length = n) (hA : StrsAt w A l) (hl : n ≤ 1000) (hs : ∀ s ∈ l, s.size ≤ 400000) (hK : RoundIn w) :
    Calls Tryd.prog 19 #[.slice A n cap] w fun e w' => e = .returned (.string (rootS l)) ∧ Below w.heap.size w w' := by
  subst hn
  exact root_any A cap l w hA hl hs hK
theorem setCells_block : ∀ (vs : List Value) (o : Nat) (w : World) (g : Nat) (cur : Array Value) (t : TypeId), w.heap[g]? = some (.cells cur t (0, 0)) → o + vs.length ≤ cur.size →
    (w.setCells g o vs).heap[g]? = some (.cells (cur.toList.take o ++ vs ++ cur.toList.drop (o + vs.length)).toArray t (0, 0))
  | [], o, w, g, cur, t, hg, _ => by
    simp only [List.append_nil, List.length_nil, Nat.add_zero, List.take_append_drop, Array.toArray_toList]
    exact hg
  | v :: r, o, w, g, cur, t, hg, hl => by
    rw [List.length_cons] at hl
    have h1 := heap_setCell_same w g o cur t v hg
    have h2 := setCells_block r (o + 1) (w.setCell ⟨g, o, none⟩ v) g (cur.setIfInBounds o v) t h1 (by rw [Array.size_setIfInBounds]; omega)
    show ((w.setCell ⟨g, o, none⟩ v).setCells g (o + 1) r).heap[g]? = _
    rw [h2]
    congr 3
    have ho : o < cur.toList.length := by rw [Array.length_toList]; omega
    rw [Array.toList_setIfInBounds, List.take_succ_eq_append_getElem (by rw [List.length_set]; exact ho), List.getElem_set_self, List.take_set_of_le (Nat.le_refl _), List.drop_set_of_lt (by omega), List.length_cons]
    simp [Nat.add_assoc, Nat.add_comm 1]
theorem setCells_kept : ∀ (vs : List Value) (o : Nat) (w : World) (g : Nat), Kept [g] w (w.setCells g o vs)
  | [], _, w, g => Kept.refl _ _
  | v :: r, o, w, g => ((Kept.refl [g] w).setCell (p := ⟨g, o, none⟩) (.inl (by simp)) v).trans (setCells_kept r (o + 1) _ g) (New.refl _ _)
open Go.Lib Go.Sort in
theorem turned_strs (p : List ByteArray) : (strsOf (fun i => p.getD i ⟨#[]⟩) p.length).reverse.map encStr = svs p.reverse := by
  have e : strsOf (fun i => p.getD i ⟨#[]⟩) p.length = p.map fun s => s.data.toList := by
    apply List.ext_getElem
    · simp [strsOf]
    · intro i h1 h2
      have h3 : i < p.length := by simpa [strsOf] using h1
      simp [strsOf, List.getD, h3]
  rw [e, ← List.map_reverse, List.map_map, svs]
  exact List.map_congr_left fun s _ => rfl
/-- slices.Reverse of a list of strings of the call's own -/
theorem reverse_own (B : Nat) (v : Value) (p : List ByteArray) (w : World) (h : w.ownsRow B 9 1 v p.length (svs p)) (hp : p.length ≤ 1000) : Calls Tryd.prog 41 #[v] w fun e w' => e = .returned (.tuple #[]) ∧ w'.ownsRow B 9 1 v p.length (svs p.reverse) ∧ Kept v.ownBlock.toList w w' := by
  rcases h.2 with ⟨rfl, h0⟩ | ⟨g, cap, cur, rfl, hb, hg, hn, hm, hs, ht⟩
  · have hp0 : p = [] := List.eq_nil_of_length_eq_zero h0
    subst hp0
    refine (Tryd.slices_Reverse_string_empty none 0 w).mono ?_
    rintro e w' ⟨rfl, rfl⟩
    exact ⟨rfl, h, Kept.refl _ _⟩
  · have hst := strs_of_own h
    refine (Tryd.slices_Reverse_string_cells g 0 p.length cap (fun i => p.getD i ⟨#[]⟩) w (by omega) (fun i hi => ?_) (fun j hj => frozen_of_row w g (0 + j) cur _ hg)).mono ?_
    · obtain ⟨b', o', e, hc⟩ := hst i hi
      injection e with e
      injection e with e1 e2
      subst e1 e2
      exact hc
    · rintro e w' ⟨rfl, q, rfl⟩
      rw [turned_strs]
      have hlen : (svs p.reverse).length = p.length := by rw [svs_length, List.length_reverse]
      have hbk := setCells_block (svs p.reverse) 0 (w.drewN q) g cur 9 hg (by rw [hlen, hs]; omega)
      refine ⟨rfl, ⟨by rw [hlen, Nat.mul_one], .inr ⟨g, cap, _, rfl, hb, hbk, hn, hm, ?_, ?_⟩⟩, ?_⟩
      · simp [hlen]; omega
      · simp [hlen]
      · have k0 : Kept [g] w (w.drewN q) := ⟨rfl, rfl, rfl, Nat.le_refl _, fun _ _ _ => rfl⟩
        exact k0.trans (setCells_kept _ _ _ g) (New.refl _ _)
end Go.Proofs.YtoipckflokdakaaDoor
