/- Rides in memory and rides in the plain theory: the lifted way is the cost of the path. -/
import Derived.Test.YtgopadbdnndkiaaPj
import Derived.Test.YtgopadbdnndkiaaPi
namespace Go.Proofs.Ytgopadbdnndkiaa.Pt
open Go.RowKit Str
theorem lift_row {l : List Stk} (hl : l.length ≤ 9) : ∀ {rs : List Nat} {set r : Nat}, r < 2 * l.length → Fresh l.length set rs → lift l (fin l r) rs = Plt.pathC (gapF l) r rs
  | [], _, _, _, _ => rfl
  | q :: t, set, r, hr, hF => by
    have hq := (Plt.mem_left.1 hF.1).1
    rw [lift, Plt.pathC, gapF, if_pos hq, if_neg (by omega), if_pos hr, lift_row hl hq hF.2]
theorem lift_path {l : List Stk} (hl : l.length ≤ 9) {rs : List Nat} {set : Nat} (hF : Fresh l.length set rs) : lift l (0, 0) rs = Plt.pathC (gapF l) 18 rs := by
  cases rs with
  | nil => rfl
  | cons q t =>
    have hq := (Plt.mem_left.1 hF.1).1
    rw [lift, Plt.pathC, gapF, if_pos hq, if_pos rfl, lift_row hl hq hF.2]
theorem right_of {n : Nat} : ∀ {rs : List Nat} {set : Nat}, Fresh n set rs → rs.length = Plt.cnt n set → Plt.Right n set rs
  | [], _, _, h => Plt.cnt_zero h.symm
  | r :: t, _, hF, h => ⟨hF.1, right_of hF.2 (by have := Plt.cnt_put hF.1; simp at h; omega)⟩
theorem cnt_full (n : Nat) : Plt.cnt n 0 = n := by
  have : (List.range n).filter (fun i => !Nat.testBit 0 i) = List.range n := List.filter_eq_self.2 (fun i _ => by simp)
  rw [Plt.cnt, this, List.length_range]
theorem fresh_of {n : Nat} : ∀ {rs : List Nat} {set : Nat}, Plt.Right n set rs → Fresh n set rs
  | [], _, _ => trivial
  | _ :: _, _, h => ⟨h.1, fresh_of h.2⟩
theorem right_len {n : Nat} : ∀ {rs : List Nat} {set : Nat}, Plt.Right n set rs → rs.length = Plt.cnt n set
  | [], set, h => by
    refine (Nat.eq_zero_of_not_pos fun hc => ?_).symm
    obtain ⟨i, hi⟩ := List.exists_mem_of_length_pos hc
    rw [List.mem_filter, List.mem_range] at hi
    have : 2 * i ∈ Plt.leftL n set := Plt.mem_left.2 ⟨by omega, by rw [show 2 * i / 2 = i by omega]; simpa using hi.2⟩
    rw [show Plt.leftL n set = [] from h] at this
    simp at this
  | r :: t, set, h => by
    have := Plt.cnt_put h.1
    have := right_len h.2
    simp; omega
theorem best_fresh (l : List Stk) (hl : l.length ≤ 9) : Fresh l.length 0 (bestR l) ∧ (bestR l).length = l.length ∧ lift l (0, 0) (bestR l) = Plt.val l.length (gapF l) 0 18 := by
  have h := Plt.best_right l.length (gapF l) l.length 0 18 (Plt.cnt_le _ _)
  have hF := fresh_of h.1
  exact ⟨hF, by rw [bestR, right_len h.1, cnt_full], by rw [bestR, lift_path hl hF]; exact h.2⟩
theorem lift_least {l : List Stk} (hl : l.length ≤ 9) {rs : List Nat} (hF : Fresh l.length 0 rs) (hn : rs.length = l.length) : Plt.val l.length (gapF l) 0 18 ≤ lift l (0, 0) rs := by
  rw [lift_path hl hF]
  exact Plt.val_least _ _ _ _ _ (right_of hF (by rw [cnt_full]; exact hn))
theorem lift_bounds {l : List Stk} (hO : PageOk l) {T : Nat → Int} {cost : Int} (h : Plt.boundsB l.length (gapF l) T cost = true) {rs : List Nat} (hF : Fresh l.length 0 rs) (hn : rs.length = l.length) : cost ≤ lift l (0, 0) rs := by
  rw [lift_path hO.len hF]
  exact Plt.bounds_least (n := l.length) (g := gapF l) (T := T) hO.len (gapF_bd hO) h (right_of hF (by rw [cnt_full]; exact hn))
/-- fresh rides: of strokes that are not in the set, each of another stroke -/
theorem fresh_iff {n : Nat} : ∀ {rs : List Nat} {set : Nat}, Fresh n set rs ↔ (∀ r ∈ rs, r < 2 * n ∧ set.testBit (r / 2) = false) ∧ (rs.map (· / 2)).Nodup
  | [], _ => by simp [Fresh]
  | r :: t, set => by
    rw [Fresh, fresh_iff (rs := t), Plt.mem_left, List.map_cons, List.nodup_cons]
    constructor
    · rintro ⟨h1, h2, h3⟩
      refine ⟨fun q hq => ?_, fun hm => ?_, h3⟩
      · rcases List.mem_cons.1 hq with rfl | hq
        · exact h1
        · have := h2 q hq
          rw [Plt.put_bit, Bool.or_eq_false_iff] at this
          exact ⟨this.1, this.2.1⟩
      · obtain ⟨q, hq, he⟩ := List.mem_map.1 hm
        have := (h2 q hq).2
        rw [Plt.put_bit, Bool.or_eq_false_iff] at this
        have := this.2
        simp at this
        exact this he.symm
    · rintro ⟨h1, h2, h3⟩
      refine ⟨h1 r (List.mem_cons_self ..), fun q hq => ?_, h3⟩
      have := h1 q (List.mem_cons_of_mem _ hq)
      refine ⟨this.1, ?_⟩
      rw [Plt.put_bit, this.2, Bool.false_or, decide_eq_false_iff_not]
      intro he
      exact h2 (List.mem_map.2 ⟨q, hq, he.symm⟩)
/-- a ride, turned around -/
def flipR (r : Nat) : Nat := if r % 2 = 0 then r + 1 else r - 1
theorem flipR_half (r : Nat) : flipR r / 2 = r / 2 := by unfold flipR; split <;> omega
theorem flipR_lt {r n : Nat} (h : r < 2 * n) : flipR r < 2 * n := by unfold flipR; split <;> omega
theorem rdv_flip (l : List Stk) (r : Nat) : rdv l (flipR r) = ((rdv l r).1, !(rdv l r).2) := by
  unfold rdv
  rw [flipR_half]
  congr 1
  unfold flipR
  rw [Bool.eq_iff_iff]
  split <;> simp <;> omega
theorem fresh_flip {n : Nat} {rs : List Nat} (hF : Fresh n 0 rs) {i : Nat} (hi : i < rs.length) : Fresh n 0 (rs.set i (flipR (rs.getD i 0))) := by
  rw [fresh_iff] at hF ⊢
  have hg : rs.getD i 0 = rs[i] := by simp [List.getD, List.getElem?_eq_getElem hi]
  refine ⟨fun r hr => ?_, ?_⟩
  · rcases List.mem_or_eq_of_mem_set hr with h | rfl
    · exact hF.1 r h
    · rw [hg]
      have := hF.1 _ (List.getElem_mem hi)
      exact ⟨flipR_lt this.1, by rw [flipR_half]; exact this.2⟩
  · have : (rs.set i (flipR (rs.getD i 0))).map (· / 2) = rs.map (· / 2) := by
      rw [List.map_set, flipR_half, hg]
      refine List.ext_getElem (by simp) fun k h1 h2 => ?_
      rw [List.getElem_set]
      split
      · next h => subst h; simp
      · rfl
    rw [this]; exact hF.2
theorem fresh_perm {n : Nat} {rs rs' : List Nat} (hF : Fresh n 0 rs) (hp : rs'.Perm rs) : Fresh n 0 rs' := by
  rw [fresh_iff] at hF ⊢
  exact ⟨fun r hr => hF.1 r (hp.mem_iff.1 hr), (hp.map _).nodup_iff.2 hF.2⟩
end Go.Proofs.Ytgopadbdnndkiaa.Pt
