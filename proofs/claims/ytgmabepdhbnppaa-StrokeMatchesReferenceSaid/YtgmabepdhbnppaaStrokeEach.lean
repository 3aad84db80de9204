/- Package stroke: each at dots, with the functions of Moved and Turned. -/
import Derived.Test.YtgmabepdhbnppaaStrokeChg
import Derived.Laws.MakeOwn
namespace Go.Proofs.Ytgmabepdhbnppaa
open Go.RowKit Str
theorem dot_info : (Try.prog.info? 24).map (fun i => (i.zero, i.size, i.bytes)) = some (some (.agg #[.int .i64 0, .int .i64 0, .int .i64 0, .int .i64 0]), 4, 32) := by kernel_rfl
/-- the cells of dots, one after another -/
def dcells : List Dot → List Value
  | [] => []
  | d :: r => .int .i64 d.x :: .int .i64 d.y :: .int .i64 d.t :: .int .i64 d.p :: dcells r
theorem dcells_append (a b : List Dot) : dcells (a ++ b) = dcells a ++ dcells b := by
  induction a with
  | nil => rfl
  | cons d r ih => simp [dcells, ih]
theorem dcells_length (l : List Dot) : (dcells l).length = l.length * 4 := by
  induction l with
  | nil => rfl
  | cons d r ih => simp only [dcells, List.length_cons, ih]; omega
theorem dcells_get : ∀ (l : List Dot) (i : Nat), i < l.length → (dcells l)[i * 4]? = some (.int .i64 (dotAt l i).x) ∧ (dcells l)[i * 4 + 1]? = some (.int .i64 (dotAt l i).y) ∧ (dcells l)[i * 4 + 2]? = some (.int .i64 (dotAt l i).t) ∧ (dcells l)[i * 4 + 3]? = some (.int .i64 (dotAt l i).p)
  | d :: r, 0, _ => ⟨rfl, rfl, rfl, rfl⟩
  | d :: r, i + 1, h => by
    have := dcells_get r i (by simpa using h)
    rw [show (i + 1) * 4 = i * 4 + 4 by omega]
    exact this
theorem dots_of_own {w : World} {base g n cap : Nat} {e : TypeId} {l : List Dot} (h : w.ownsRow base e 4 (.slice (some ⟨g, 0, none⟩) n cap) n (dcells l)) : Dots w (some ⟨g, 0, none⟩) l := fun i hi => by
  have hl := h.1
  rw [dcells_length] at hl
  obtain ⟨c0, c1, c2, c3⟩ := dcells_get l i hi
  refine ⟨g, 0, rfl, ?_⟩
  rw [Nat.zero_add]
  exact ⟨(h.cellAt _ (by omega)).trans c0, (h.cellAt _ (by omega)).trans c1, (h.cellAt _ (by omega)).trans c2, (h.cellAt _ (by omega)).trans c3⟩
theorem own_cap {w : World} {base g n cap : Nat} {e : TypeId} {size : Nat} {xs : List Value} (h : w.ownsRow base e size (.slice (some ⟨g, 0, none⟩) n cap) n xs) : n ≤ cap ∧ (cap : Int) ≤ 9223372036854775807 := by
  rcases h.2 with ⟨h, _⟩ | ⟨g2, c2, cur, h, _, _, h3, h4, _⟩
  · cases h
  · simp only [Value.slice.injEq] at h
    unfold maxLen at h4
    omega
theorem new_dot {w : World} {d : Dot} {t : TypeId} : ∀ j u, [(.int .i64 d.x : Value), .int .i64 d.y, .int .i64 d.t, .int .i64 d.p][j]? = some u → (w.alloc (.cells #[.int .i64 d.x, .int .i64 d.y, .int .i64 d.t, .int .i64 d.p] t)).cell? ((⟨w.heap.size, 0, none⟩ : Addr).add j) = some u := by
  intro j u h
  have hj : j < 4 := by
    rcases Nat.lt_or_ge j 4 with h' | h'
    · exact h'
    · rw [List.getElem?_eq_none (by simpa using h')] at h; cases h
  rcases (show j = 0 ∨ j = 1 ∨ j = 2 ∨ j = 3 by omega) with rfl | rfl | rfl | rfl
  all_goals exact new_cell (by simpa using h)
/-- what each comes to -/
def DotsP (E : List Dot) (w : World) (e : Ending) (w' : World) : Prop :=
  ∃ g cap, e = .returned (.slice (some ⟨g, 0, none⟩) E.length cap) ∧ w.heap.size ≤ g ∧ Dots w' (some ⟨g, 0, none⟩) E ∧ E.length ≤ cap ∧ (cap : Int) ≤ 9223372036854775807 ∧ Below w.heap.size w w'
theorem map_take_snoc (f : Dot → Dot) {D : List Dot} {k : Nat} (h : k < D.length) : (D.take (k + 1)).map f = (D.take k).map f ++ [f (dotAt D k)] := by rw [take_dot h, List.map_append]; rfl
set_option maxRecDepth 100000 in
set_option maxHeartbeats 4000000 in
theorem each_mv (A : Option Addr) (cap : Nat) (D : List Dot) (f : Dot → Dot) (v1 v2 : Value) (w : World) (hn : (D.length : Int) ≤ 200) (hD : Dots w A D)
    (hF : ∀ d W, d ∈ D → Below w.heap.size w W → Calls Try.prog 57 #[dv d, v1, v2] W fun e w' => e = .returned (dv (f d)) ∧ Below W.heap.size W w') :
    Calls Try.prog 63 #[.slice A D.length cap, .func (.func 57) #[] #[v1, v2]] w (DotsP (D.map f) w) := by
  obtain ⟨i0, hi0, hz0, hz1, hz2⟩ := info_parts dot_info
  have HF := Lib.hid hF
  have HD := Lib.hid hD
  clear hF hD
  have hmk : ∀ W, (Instr.makeSlice 25 (.int .i64 0) (.int .i64 (D.length : Int))).run Try.prog W = .ok (.slice (some ⟨W.heap.size, 0, none⟩) 0 D.length) (W.alloc (.cells (madeCells #[.int .i64 0, .int .i64 0, .int .i64 0, .int .i64 0] (D.length * 4)) 24)) := fun W => by
    have := run_make (P := Try.prog) W 25 24 i0 _ Try.underlying25 hi0 hz0 .i64 .i64 0 D.length (by omega) (by omega) (by rw [hz2]; omega) (by omega)
    rw [hz1] at this
    exact this
  go_enter Try.func63, Try.ntmps63
  go_wp2_with fail
  clear hmk
  go_loopw [5, 13] (fun v i wr => ∃ k g cp : Nat, k ≤ D.length ∧ i = .int .i64 (k : Int) ∧ v = .slice (some ⟨g, 0, none⟩) k cp ∧ wr.ownsRow w.heap.size 24 4 (.slice (some ⟨g, 0, none⟩) k cp) k (dcells ((D.take k).map f)) ∧ Below w.heap.size w wr) (fun _ i _ => D.length - (intOf i).toNat)
  case atStart => exact ⟨0, w.heap.size, D.length, by omega, rfl, rfl, World.ownsRow_made w _ D.length (Nat.le_refl _) (by unfold maxLen; omega) (size_madeCells _ _), below_alloc (Below.refl _ _) _⟩
  case round =>
    obtain ⟨k, g, cp, hk, rfl, rfl, hown, hB⟩ := hrel
    by_cases hlt : k < D.length
    · obtain ⟨b, o, rfl, c0, c1, c2, c3⟩ := (HD.out.below hB) k hlt
      have hmem := dotAt_mem hlt
      have HS := Lib.hid (map_take_snoc f hlt)
      go_wp2_with fail
      refine (HF.out _ _ hmem (below_alloc hB _)).mono ?_
      rintro e w1 ⟨rfl, b1⟩
      have hB2 := below_next (below_alloc hB _) b1
      have hown2 := own_then (hown.alloc _) b1
      have hBs := hB2.size
      obtain ⟨E, hE⟩ : ∃ E, f (dotAt D k) = E := ⟨_, rfl⟩
      rw [hE]
      have HE := Lib.hid hE
      clear hown b1 hE c0 c1 c2 c3
      unfold dv
      go_wp2_with (at_builtin; refine wpList_append_lies _ rfl _ _ _ rfl w.heap.size 24 i0 _ 4 32 Try.underlying25 hi0 hz0 hz1 hz2 rfl (by omega) _ _ _ rfl (hown2.alloc _) ⟨w1.heap.size, 0, none⟩ 1 1 [.int .i64 E.x, .int .i64 E.y, .int .i64 E.t, .int .i64 E.p] rfl rfl new_dot (by simp [Value.oneCell']) (by omega) (by unfold maxLen; omega) (by omega) (by simp; omega) (w1.heap.size + 1) (by simp) ?_; intro g' cp' wy hown' hgrow hat hlt')
      have hgr : (w1.alloc (.cells #[.int .i64 E.x, .int .i64 E.y, .int .i64 E.t, .int .i64 E.p] 24)).grownBy wy (some g) := hgrow
      have hg2 := (hown2.lt g rfl).1
      clear hat hgrow
      refine ⟨⟨k + 1, g', cp', by omega, by go_num, rfl, ?_, (below_alloc hB2 _).grown hgr (by simp; omega) (fun j h => by injection h with h; omega)⟩, by simp [intOf]; omega⟩
      rw [HS.out, dcells_append, HE.out]
      exact hown'
    · obtain rfl : k = D.length := by omega
      rw [List.take_length] at hown
      have hc := own_cap hown
      go_wp2_with fail
      go_ret
      exact ⟨g, cp, by rw [List.length_map]; rfl, (hown.lt g rfl).1, dots_of_own hown, by rw [List.length_map]; exact hc.1, hc.2, hB⟩
set_option maxRecDepth 100000 in
set_option maxHeartbeats 4000000 in
theorem each_tn (A : Option Addr) (cap : Nat) (D : List Dot) (f : Dot → Dot) (v1 : Value) (w : World) (hn : (D.length : Int) ≤ 200) (hD : Dots w A D)
    (hF : ∀ d W, d ∈ D → Below w.heap.size w W → Calls Try.prog 58 #[dv d, v1] W fun e w' => e = .returned (dv (f d)) ∧ Below W.heap.size W w') :
    Calls Try.prog 63 #[.slice A D.length cap, .func (.func 58) #[] #[v1]] w (DotsP (D.map f) w) := by
  obtain ⟨i0, hi0, hz0, hz1, hz2⟩ := info_parts dot_info
  have HF := Lib.hid hF
  have HD := Lib.hid hD
  clear hF hD
  have hmk : ∀ W, (Instr.makeSlice 25 (.int .i64 0) (.int .i64 (D.length : Int))).run Try.prog W = .ok (.slice (some ⟨W.heap.size, 0, none⟩) 0 D.length) (W.alloc (.cells (madeCells #[.int .i64 0, .int .i64 0, .int .i64 0, .int .i64 0] (D.length * 4)) 24)) := fun W => by
    have := run_make (P := Try.prog) W 25 24 i0 _ Try.underlying25 hi0 hz0 .i64 .i64 0 D.length (by omega) (by omega) (by rw [hz2]; omega) (by omega)
    rw [hz1] at this
    exact this
  go_enter Try.func63, Try.ntmps63
  go_wp2_with fail
  clear hmk
  go_loopw [5, 13] (fun v i wr => ∃ k g cp : Nat, k ≤ D.length ∧ i = .int .i64 (k : Int) ∧ v = .slice (some ⟨g, 0, none⟩) k cp ∧ wr.ownsRow w.heap.size 24 4 (.slice (some ⟨g, 0, none⟩) k cp) k (dcells ((D.take k).map f)) ∧ Below w.heap.size w wr) (fun _ i _ => D.length - (intOf i).toNat)
  case atStart => exact ⟨0, w.heap.size, D.length, by omega, rfl, rfl, World.ownsRow_made w _ D.length (Nat.le_refl _) (by unfold maxLen; omega) (size_madeCells _ _), below_alloc (Below.refl _ _) _⟩
  case round =>
    obtain ⟨k, g, cp, hk, rfl, rfl, hown, hB⟩ := hrel
    by_cases hlt : k < D.length
    · obtain ⟨b, o, rfl, c0, c1, c2, c3⟩ := (HD.out.below hB) k hlt
      have hmem := dotAt_mem hlt
      have HS := Lib.hid (map_take_snoc f hlt)
      go_wp2_with fail
      refine (HF.out _ _ hmem (below_alloc hB _)).mono ?_
      rintro e w1 ⟨rfl, b1⟩
      have hB2 := below_next (below_alloc hB _) b1
      have hown2 := own_then (hown.alloc _) b1
      have hBs := hB2.size
      obtain ⟨E, hE⟩ : ∃ E, f (dotAt D k) = E := ⟨_, rfl⟩
      rw [hE]
      have HE := Lib.hid hE
      clear hown b1 hE c0 c1 c2 c3
      unfold dv
      go_wp2_with (at_builtin; refine wpList_append_lies _ rfl _ _ _ rfl w.heap.size 24 i0 _ 4 32 Try.underlying25 hi0 hz0 hz1 hz2 rfl (by omega) _ _ _ rfl (hown2.alloc _) ⟨w1.heap.size, 0, none⟩ 1 1 [.int .i64 E.x, .int .i64 E.y, .int .i64 E.t, .int .i64 E.p] rfl rfl new_dot (by simp [Value.oneCell']) (by omega) (by unfold maxLen; omega) (by omega) (by simp; omega) (w1.heap.size + 1) (by simp) ?_; intro g' cp' wy hown' hgrow hat hlt')
      have hgr : (w1.alloc (.cells #[.int .i64 E.x, .int .i64 E.y, .int .i64 E.t, .int .i64 E.p] 24)).grownBy wy (some g) := hgrow
      have hg2 := (hown2.lt g rfl).1
      clear hat hgrow
      refine ⟨⟨k + 1, g', cp', by omega, by go_num, rfl, ?_, (below_alloc hB2 _).grown hgr (by simp; omega) (fun j h => by injection h with h; omega)⟩, by simp [intOf]; omega⟩
      rw [HS.out, dcells_append, HE.out]
      exact hown'
    · obtain rfl : k = D.length := by omega
      rw [List.take_length] at hown
      have hc := own_cap hown
      go_wp2_with fail
      go_ret
      exact ⟨g, cp, by rw [List.length_map]; rfl, (hown.lt g rfl).1, dots_of_own hown, by rw [List.length_map]; exact hc.1, hc.2, hB⟩
end Go.Proofs.Ytgmabepdhbnppaa
