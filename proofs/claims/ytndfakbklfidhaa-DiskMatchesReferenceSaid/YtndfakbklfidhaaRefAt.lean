/- The reference disk: what a world holds of it; New, apply, has, Cut. -/
import Derived.Test.YtndfakbklfidhaaDiskHelp
import Derived.Test.YtndfakbklfidhaaDiskOrd
import Derived.Deep.AppendLies
namespace Go.Proofs.Ytndfakbklfidhaa
open Go.RowKit Dsk
/-- a block that begins with these bytes -/
def RowX (t : TypeId) (w : World) (g : Nat) (l : List UInt8) : Prop := ∃ z : List Value, w.heap[g]? = some (.cells (bcs l ++ z).toArray t (0, 0))
theorem RowX.kept {t : TypeId} {S : List Nat} {w w' : World} {g : Nat} {l : List UInt8} (h : RowX t w g l) (k : Kept S w w') (hn : g ∉ S) : RowX t w' g l := h.imp fun _ h => k.heap h hn
theorem RowX.lt {t : TypeId} {w : World} {g : Nat} {l : List UInt8} (h : RowX t w g l) : g < w.heap.size := h.elim fun _ h => hlt h
theorem RowX.cell {t : TypeId} {w : World} {g : Nat} {l : List UInt8} (h : RowX t w g l) {i : Nat} (hi : i < l.length) : w.cell? ⟨g, i, none⟩ = some (.int .u8 ((l[i].toNat : Nat) : Int)) := by
  obtain ⟨z, h⟩ := h
  rw [cell_of_row w g i _ t (0, 0) h, List.getElem?_toArray, List.getElem?_append_left (by rw [bcs_length]; exact hi)]
  simp [bcs, hi]
theorem RowX.store {t : TypeId} {w : World} {g : Nat} {L : List UInt8} (h : RowX t w g L) {i : Nat} (hi : i < L.length) {b : UInt8} : RowX t (w.setCell ⟨g, i, none⟩ (.int .u8 (b.toNat : Int))) g (L.set i b) := by
  obtain ⟨z, h⟩ := h
  refine ⟨z, ?_⟩
  have := heap_setCell_same w g i _ t (.int .u8 (b.toNat : Int)) h
  rw [this]
  congr 2
  apply Array.toList_inj.1
  simp [bcs, List.map_set, hi]
theorem RowX.of_own {t : TypeId} {w : World} {base g n c : Nat} {L : List UInt8} (h : w.ownsRow base t 1 (.slice (some ⟨g, 0, none⟩) n c) n (bcs L)) : RowX t w g L := by
  rcases h.2 with ⟨h', _⟩ | ⟨g', cap, cur, h', _, hg, _, _, _, ht⟩
  · cases h'
  · injection h' with h1 h2 h3
    injection h1 with h1
    injection h1 with h1
    subst h1
    refine ⟨cur.toList.drop (n * 1), ?_⟩
    rw [← ht, List.take_append_drop]
    exact hg
/-- what a world holds of a reference disk: h its block, G all its blocks -/
def RefAt (w : World) (h : Nat) (G : List Nat) (D : Dk) : Prop :=
  ∃ (gs cs : Nat) (pv : Value), G = h :: gs :: pv.ownBlock.toList ∧ h ≠ gs ∧ (∀ k, pv.ownBlock = some k → k ≠ h ∧ k ≠ gs) ∧
    w.heap[h]? = some (.cells #[.slice (some ⟨gs, 0, none⟩) D.sure.length cs, pv, .bool D.off, .int .i64 D.left] 43 (0, 0)) ∧
    RowX 5 w gs D.sure ∧ w.ownsRow 0 80 2 pv D.pend.length (pcs D.pend) ∧ Ok D ∧ D.sure.length ≤ cs
theorem RefAt.kept {S : List Nat} {w w' : World} {g : Nat} {F : List Nat} {D : Dk} (h : RefAt w g F D) (k : Kept S w w') (hd : ∀ x ∈ F, x ∉ S) : RefAt w' g F D := by
  obtain ⟨gs, cs, pv, rfl, h1, h2, hg, hs, ho, hk, hc⟩ := h
  refine ⟨gs, cs, pv, rfl, h1, h2, k.heap hg (hd g (by simp)), hs.kept k (hd gs (by simp)), k.own ho fun x hx => hd x ?_, hk, hc⟩
  exact List.mem_cons_of_mem _ (List.mem_cons_of_mem _ (mem_own hx))
theorem RefAt.below {w w' : World} {g : Nat} {F : List Nat} {D : Dk} (h : RefAt w g F D) (k : Below w.heap.size w w') : RefAt w' g F D := h.kept (Kept.of_below k) (fun _ _ h => by cases h)
theorem RefAt.lt {w : World} {g : Nat} {F : List Nat} {D : Dk} (h : RefAt w g F D) : ∀ x ∈ F, x < w.heap.size := by
  obtain ⟨gs, cs, pv, rfl, h1, h2, hg, hs, ho, hk, hc⟩ := h
  intro x hx
  simp only [List.mem_cons] at hx
  rcases hx with rfl | rfl | hx
  · exact hlt hg
  · exact hs.lt
  · exact (ho.lt x (own_mem hx)).2
theorem RefAt.ok {w : World} {g : Nat} {F : List Nat} {D : Dk} (h : RefAt w g F D) : Ok D := by
  obtain ⟨_, _, _, _, _, _, _, _, _, hk, _⟩ := h
  exact hk
theorem cells4 {w : World} {g : Nat} {c0 c1 c2 c3 : Value} {t : TypeId} (h : w.heap[g]? = some (.cells #[c0, c1, c2, c3] t (0, 0))) :
    w.cell? ⟨g, 0, none⟩ = some c0 ∧ w.cell? ⟨g, 1, none⟩ = some c1 ∧ w.cell? ⟨g, 2, none⟩ = some c2 ∧ w.cell? ⟨g, 3, none⟩ = some c3 :=
  ⟨cell_of_row w g 0 _ t (0, 0) h, cell_of_row w g 1 _ t (0, 0) h, cell_of_row w g 2 _ t (0, 0) h, cell_of_row w g 3 _ t (0, 0) h⟩
set_option maxRecDepth 100000 in
theorem apply_any (g n c o : Nat) (L : List UInt8) (s : ByteArray) (w : World) (h : RowX 5 w g L) (hl : L.length = n) (hf : o + s.size ≤ n) (hn : n ≤ 4194304) :
    Calls Try.prog 44 #[.slice (some ⟨g, 0, none⟩) n c, .int .i64 (o : Int), .string s] w fun e w' => e = .returned (.tuple #[]) ∧ RowX 5 w' g (splice L o (bts s)) ∧ Kept [g] w w' := by
  have HL := Lib.hid hl
  have HH := Lib.hid h
  clear hl h
  go_enter Try.func44, Try.ntmps44
  go_wp2_with fail
  go_loopw [6] (fun i wr => ∃ k : Nat, k ≤ s.size ∧ i = .int .i64 (k : Int) ∧ RowX 5 wr g (splice L o ((bts s).take k)) ∧ Kept [g] w wr) (fun i _ => s.size - (intOf i).toNat)
  case atStart => exact ⟨0, by omega, rfl, by rw [List.take_zero, splice_zero]; exact HH.out, Kept.refl _ _⟩
  case round =>
    obtain ⟨k, hk, rfl, hr, hK⟩ := hrel
    have HR := Lib.hid hr
    by_cases hlt : k < s.size
    · have hll : (splice L o ((bts s).take k)).length = n := by
        rw [length_splice _ _ _ (by rw [List.length_take, bts_length, HL.out]; omega), HL.out]
      have HLL := Lib.hid hll
      have c0 := hr.cell (i := o + k) (by rw [hll]; omega)
      have f0 := hr.elim fun _ h => frozen_of_row wr g (o + k) _ _ h
      have lg := lt_size c0
      have i1 : (o : Int) + (k : Int) < (n : Int) := by omega
      obtain ⟨v, hv⟩ : ∃ v, wr.cell? ⟨g, o + k, none⟩ = some v := ⟨_, c0⟩
      clear c0 hr hll
      go_wp2_with fail
      refine ⟨⟨k + 1, by omega, by go_num, ?_, hK.setCell (.inl (by simp)) _⟩, by simp [intOf]; omega⟩
      have h := HR.out.store (i := o + k) (by rw [HLL.out]; omega) (b := s[k])
      have e : (bts s).getD k 0 = s[k] := by
        rw [List.getD, List.getElem?_eq_getElem (by rw [bts_length]; exact hlt)]; rfl
      rw [← e, splice_next _ _ _ _ (by rw [bts_length]; exact hlt) (by rw [bts_length, HL.out]; exact hf), e] at h
      exact h
    · obtain rfl : k = s.size := by omega
      clear hr
      go_wp2_with fail
      go_end0
      have h := HR.out
      rw [List.take_of_length_le (by rw [bts_length]; exact Nat.le_refl _)] at h
      exact ⟨rfl, h, hK⟩
theorem has_any (A : Option Addr) (cap : Nat) (l : List Int) (k : Nat) (w : World) (h : IntsAt w A l) (hl : (l.length : Int) ≤ 9223372036854775807) : Calls Try.prog 43 #[.slice A l.length cap, .int .i64 (k : Int)] w fun e w' => e = .returned (.bool (l.contains (k : Int))) ∧ w = w' := by
  have HA := Lib.hid h
  clear h
  obtain ⟨B, hB⟩ : ∃ B, l.contains (k : Int) = B := ⟨_, rfl⟩
  rw [hB]
  have HB := Lib.hid hB
  clear hB
  go_enter Try.func43, Try.ntmps43
  go_wp2_with fail
  go_loopw [5] (fun i wr => ∃ j : Nat, j ≤ l.length ∧ i = .int .i64 (j : Int) ∧ (∀ i, i < j → l.getD i 0 ≠ (k : Int)) ∧ w = wr) (fun i _ => l.length - (intOf i).toNat)
  case atStart => exact ⟨0, by omega, rfl, fun i hi => absurd hi (by omega), rfl⟩
  case round =>
    obtain ⟨j, hj, rfl, hno, rfl⟩ := hrel
    have HNO := Lib.hid hno
    clear hno
    by_cases hlt : j < l.length
    · obtain ⟨b, o, rfl, c0⟩ := HA.out j hlt
      have i0 : (0 : Int) ≤ (j : Int) := by omega
      have i1 : (j : Int) < (l.length : Int) := by omega
      obtain ⟨z, hz⟩ : ∃ z, l.getD j 0 = z := ⟨_, rfl⟩
      rw [hz] at c0
      have HZ := Lib.hid hz
      clear hz
      by_cases he : z = (k : Int)
      · have hb1 : (z == (k : Int)) = true := by rw [beq_iff_eq]; exact he
        have HE := Lib.hid he
        clear he
        go_wp2_with fail
        go_ret
        refine ⟨?_, rfl⟩
        have : B = true := by
          rw [← HB.out, List.contains_iff_mem, ← HE.out, ← HZ.out, List.getD, List.getElem?_eq_getElem hlt]
          exact List.getElem_mem hlt
        rw [this]; rfl
      · have hb1 : (z == (k : Int)) = false := by rw [beq_eq_false_iff_ne]; exact he
        have HE := Lib.hid he
        clear he
        go_wp2_with fail
        exact ⟨⟨j + 1, by omega, by go_num, fun i hi => by
          by_cases e : i = j
          · rw [e, HZ.out]; exact HE.out
          · exact HNO.out i (by omega), trivial⟩, by simp [intOf]; omega⟩
    · obtain rfl : j = l.length := by omega
      have i1 : ¬ (l.length : Int) < (l.length : Int) := by omega
      go_wp2_with fail
      go_ret
      refine ⟨?_, rfl⟩
      have : B = false := by
        rw [← HB.out, Bool.eq_false_iff, Ne, List.contains_iff_mem]
        intro hm
        obtain ⟨i, hi, e⟩ := List.getElem_of_mem hm
        refine HNO.out i hi ?_
        rw [List.getD, List.getElem?_eq_getElem hi]
        exact e
      rw [this]; rfl
end Go.Proofs.Ytndfakbklfidhaa
