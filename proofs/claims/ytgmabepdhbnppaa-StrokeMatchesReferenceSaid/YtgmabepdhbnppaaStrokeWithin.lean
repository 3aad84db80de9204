/- Package stroke: Within. -/
import Derived.Test.YtgmabepdhbnppaaStrokePieces
import Derived.Test.YtgmabepdhbnppaaStrokeNearB
namespace Go.Proofs.Ytgmabepdhbnppaa
open Go.RowKit Str
attribute [local go_sem] Oper.semAt_some
theorem within_no (P N : Int) (A : Option Addr) (cap : Nat) (D : List Dot) (px py z : Int) (w : World) (hD : Dots w A D) (hn : (D.length : Int) ≤ 4611686018427387904) (h1 : validB P N D = false) :
    Calls Try.prog 31 #[.agg #[.int .i64 P, .int .i64 N, .slice A D.length cap], .agg #[.int .i64 px, .int .i64 py], .int .i64 z] w fun e w' => e = .returned (.bool false) ∧ Below w.heap.size w w' := by
  have HD := Lib.hid hD
  clear hD
  go_enter Try.func31, Try.ntmps31
  go_wp2_with fail
  have B0 : Below w.heap.size w ((((w.alloc (.cells #[.int .i64 P, .int .i64 N, .slice A D.length cap] 27)).alloc (.cells #[.int .i64 px, .int .i64 py] 29)).alloc (.cells #[.int .i64 z] 3)).alloc (.cells #[.bool false] 4)) := below_alloc (below_alloc (below_alloc (below_alloc (Below.refl _ _) _) _) _) _
  refine (valid_any P N A cap D _ (HD.out.below B0) hn).mono ?_
  rintro e w1 ⟨rfl, b1⟩
  rw [h1]
  obtain ⟨e0, f0⟩ := var_then b1 (a := ⟨w.heap.size + 1 + 1 + 1, 0, none⟩) (v := .bool false) (by simp [go_sem])
  go_wp2_with fail
  exact bodyPost_ret (v := .bool false) (by simp [results, Try.results31, go_sem, e0]) rfl ⟨rfl, (below_next B0 b1).setCell (by dsimp only; omega) _⟩
/-- the state of the loop in Within -/
def WinJ (w : World) (b o cap : Nat) (D : List Dot) (px py z : Int) (sb l : Nat) (rec : LoopState → Option Code → Obj) (i : Nat) (W : World) : Prop :=
  withinTo D px py z i = false ∧ Boxed W (w.heap.size + 1 + 1 + 1) 4 (.bool false) ∧ (W.cell? ⟨w.heap.size + 1, 0, none⟩ = some (.int .i64 px) ∧ W.cell? ⟨w.heap.size + 1, 1, none⟩ = some (.int .i64 py) ∧ W.cell? ⟨w.heap.size + 1 + 1, 0, none⟩ = some (.int .i64 z)) ∧
  W.cell? ⟨sb, 2, none⟩ = some (.slice (some ⟨b, o, none⟩) D.length cap) ∧ DotC W b o D ∧ Below w.heap.size w W ∧ W.heap[l + 1]? = some (rec .ready none) ∧ W.heap[l]? = some (.deferred (some []))
def WinF (w : World) (D : List Dot) (px py z : Int) (l : Nat) (rec : LoopState → Option Code → Obj) (W : World) : Prop :=
  withinF D px py z = true ∧ Boxed W (w.heap.size + 1 + 1 + 1) 4 (.bool true) ∧ Below w.heap.size w W ∧ W.heap[l + 1]? = some (rec .done (some .ret)) ∧ W.heap[l]? = some (.deferred (some []))
set_option maxRecDepth 100000 in
set_option maxHeartbeats 4000000 in
theorem within_yes (P N : Int) (A : Option Addr) (cap : Nat) (D : List Dot) (px py z : Int) (w : World) (hD : Dots w A D) (h1 : validB P N D = true) :
    Calls Try.prog 31 #[.agg #[.int .i64 P, .int .i64 N, .slice A D.length cap], .agg #[.int .i64 px, .int .i64 py], .int .i64 z] w fun e w' => e = .returned (.bool (withinF D px py z)) ∧ Below w.heap.size w w' := by
  obtain ⟨⟨p5, p6⟩, p0⟩ := valid_len h1
  have H1 := Lib.hid h1
  clear h1
  obtain ⟨b, o, rfl, hlt, hc⟩ := hD.open_ p0
  have HD := Lib.hid hD
  have HC := Lib.hid hc
  clear hD hc
  refine calls_of_wp_marks Try.func31 rfl ?_
  simp only [Try.ntmps31, List.size_toArray, List.length_cons, List.length_nil, Nat.reduceAdd, Nat.reduceSub, Array.replicate_succ, Array.replicate_zero, List.push_toArray, List.append_toArray, List.nil_append, List.cons_append]
  go_wp2_with fail
  have B0 : Below w.heap.size w ((((w.alloc (.cells #[.int .i64 P, .int .i64 N, .slice (some ⟨b, o, none⟩) D.length cap] 27)).alloc (.cells #[.int .i64 px, .int .i64 py] 29)).alloc (.cells #[.int .i64 z] 3)).alloc (.cells #[.bool false] 4)) := below_alloc (below_alloc (below_alloc (below_alloc (Below.refl _ _) _) _) _) _
  refine (valid_any P N _ cap D _ (HD.out.below B0) (by omega)).mono ?_
  rintro e w1 ⟨rfl, b1⟩
  rw [H1.out]
  have B1 := below_next B0 b1
  have e0 : w1.cell? ⟨w.heap.size, 0, none⟩ = some (.int .i64 P) := cell_then b1 (by simp [go_sem])
  have e1 : w1.cell? ⟨w.heap.size, 1, none⟩ = some (.int .i64 N) := cell_then b1 (by simp [go_sem])
  have e2 : w1.cell? ⟨w.heap.size, 2, none⟩ = some (.slice (some ⟨b, o, none⟩) D.length cap) := cell_then b1 (by simp [go_sem])
  have f0 : w1.cell? ⟨w.heap.size + 1, 0, none⟩ = some (.int .i64 px) := cell_then b1 (by simp [go_sem])
  have f1 : w1.cell? ⟨w.heap.size + 1, 1, none⟩ = some (.int .i64 py) := cell_then b1 (by simp [go_sem])
  have f2 : w1.cell? ⟨w.heap.size + 1 + 1, 0, none⟩ = some (.int .i64 z) := cell_then b1 (by simp [go_sem])
  have bR : Boxed w1 (w.heap.size + 1 + 1 + 1) 4 (.bool false) := by
    refine (b1.block _ (by simp)).trans ?_
    have := Boxed.new (((w.alloc (.cells #[.int .i64 P, .int .i64 N, .slice (some ⟨b, o, none⟩) D.length cap] 27)).alloc (.cells #[.int .i64 px, .int .i64 py] 29)).alloc (.cells #[.int .i64 z] 3)) 4 (.bool false)
    simp only [World.size_alloc] at this
    exact this
  have hsz := heap_lt bR
  clear B0 b1
  go_wp2_with fail
  refine (pieces_any _ _ _ _).mono ?_
  rintro e w2 ⟨rfl, rfl⟩
  go_wp2_with fail
  obtain ⟨W0, hW0⟩ : ∃ W0, w1.alloc (.cells #[.int .i64 P, .int .i64 N, .slice (some ⟨b, o, none⟩) D.length cap] 27) = W0 := ⟨_, rfl⟩
  have hs0 : W0.heap.size ≤ w1.heap.size + 1 ∧ w1.heap.size + 1 ≤ W0.heap.size := by rw [← hW0]; simp
  have cS : W0.cell? ⟨w1.heap.size, 2, none⟩ = some (.slice (some ⟨b, o, none⟩) D.length cap) := by rw [← hW0]; exact new_cell rfl
  have BN : Below w1.heap.size w1 W0 := by rw [← hW0]; exact below_alloc (Below.refl _ _) _
  rw [hW0]
  clear hW0 e0 e1 e2
  refine range_outer (n := 0) (gf := 60) (lb := #[.pointer (some ⟨w1.heap.size, 0, none⟩)]) rfl (enters_of Try.func60 (by kernel_rfl) rfl) ?_
  intro fn rec hrec
  have hcl := rec_cells hrec
  refine (pieces1_in _ w1.heap.size b o cap D (WinJ w b o cap D px py z w1.heap.size W0.heap.size rec) (WinF w D px py z W0.heap.size rec) p0 p6 ?hJ ?hS ?round _ ?start).mono ?done
  case hJ => exact fun i W h => ⟨h.2.2.2.1, h.2.2.2.2.1⟩
  case hS => exact fun i W W' ⟨h0, h1, ⟨h2, h3, h4⟩, h5, h6, h7, h8, h9⟩ hb => ⟨h0, (hb.block _ (heap_lt h1)).trans h1, ⟨cell_then hb h2, cell_then hb h3, cell_then hb h4⟩, cell_then hb h5, Dots.of_open hb h6, below_next h7 hb, (hb.block _ (heap_lt h8)).trans h8, (hb.block _ (heap_lt h9)).trans h9⟩
  case start =>
    have BM : Below W0.heap.size W0 ((W0.alloc (.deferred (some []))).alloc (rec .ready none)) := below_alloc (below_alloc (Below.refl _ _) _) _
    have BT : Below w1.heap.size w1 ((W0.alloc (.deferred (some []))).alloc (rec .ready none)) := below_next BN BM
    refine ⟨rfl, (BT.block _ hsz).trans bR, ⟨cell_then BT f0, cell_then BT f1, cell_then BT f2⟩, cell_then BM cS, Dots.of_open (below_next B1 BT) HC.out, below_next B1 BT, ?_, ?_⟩
    · have := World.alloc_heap_new (W0.alloc (.deferred (some []))) (rec .ready none)
      rwa [World.size_alloc] at this
    · exact heap_alloc (World.alloc_heap_new W0 _) _
  case round =>
    clear f0 f1 f2 bR
    rintro i W hi ⟨j0, j1, ⟨f0, f1, f2⟩, j2, j3, j4, j5, j6⟩
    have HJ0 := Lib.hid j0
    clear j0
    refine yield_round hrec trivial j5 rfl ?_
    clear hrec
    unfold pv
    gi_wp2
    have hlW := heap_lt j5
    have hWs := heap_lt j1
    have hcs := lt_size j2
    refine ⟨heap_alloc (heap_alloc j5 _) _, ?_⟩
    obtain ⟨Wa, hWa⟩ : ∃ Wa, (W.alloc (.cells #[.int .i64 (dotAt D i).x, .int .i64 (dotAt D i).y] 29)).alloc (.cells #[.int .i64 (dotAt D (nx D i)).x, .int .i64 (dotAt D (nx D i)).y] 29) = Wa := ⟨_, rfl⟩
    have hBa : Below W.heap.size W Wa := by rw [← hWa]; exact below_alloc (below_alloc (Below.refl _ _) _) _
    have a0 : Wa.cell? ⟨W.heap.size, 0, none⟩ = some (.int .i64 (dotAt D i).x) := by rw [← hWa]; exact keep_alloc _ (new_cell rfl)
    have a1 : Wa.cell? ⟨W.heap.size, 1, none⟩ = some (.int .i64 (dotAt D i).y) := by rw [← hWa]; exact keep_alloc _ (new_cell rfl)
    have a2 : Wa.cell? ⟨W.heap.size + 1, 0, none⟩ = some (.int .i64 (dotAt D (nx D i)).x) := by rw [← hWa]; exact new_cell' rfl
    have a3 : Wa.cell? ⟨W.heap.size + 1, 1, none⟩ = some (.int .i64 (dotAt D (nx D i)).y) := by rw [← hWa]; exact new_cell' rfl
    have hla := (hBa.block _ hlW).trans j5
    rw [hWa]
    clear hWa
    obtain ⟨Wb, hWb⟩ : ∃ Wb, Wa.putObj (W0.heap.size + 1) (rec .busy none) = Wb := ⟨_, rfl⟩
    have b0 : Wb.cell? ⟨W.heap.size, 0, none⟩ = some (.int .i64 (dotAt D i).x) := by rw [← hWb]; exact cell_putObj a0 (by dsimp only; omega) _
    have b1 : Wb.cell? ⟨W.heap.size, 1, none⟩ = some (.int .i64 (dotAt D i).y) := by rw [← hWb]; exact cell_putObj a1 (by dsimp only; omega) _
    have b2 : Wb.cell? ⟨W.heap.size + 1, 0, none⟩ = some (.int .i64 (dotAt D (nx D i)).x) := by rw [← hWb]; exact cell_putObj a2 (by dsimp only; omega) _
    have b3 : Wb.cell? ⟨W.heap.size + 1, 1, none⟩ = some (.int .i64 (dotAt D (nx D i)).y) := by rw [← hWb]; exact cell_putObj a3 (by dsimp only; omega) _
    have g0 : Wb.cell? ⟨w.heap.size + 1, 0, none⟩ = some (.int .i64 px) := by rw [← hWb]; exact cell_putObj (cell_then hBa f0) (by dsimp only; omega) _
    have g1 : Wb.cell? ⟨w.heap.size + 1, 1, none⟩ = some (.int .i64 py) := by rw [← hWb]; exact cell_putObj (cell_then hBa f1) (by dsimp only; omega) _
    have g2 : Wb.cell? ⟨w.heap.size + 1 + 1, 0, none⟩ = some (.int .i64 z) := by rw [← hWb]; exact cell_putObj (cell_then hBa f2) (by dsimp only; omega) _
    have k1 : Boxed Wb (w.heap.size + 1 + 1 + 1) 4 (.bool false) := by rw [← hWb]; exact boxed_putObj ((hBa.block _ hWs).trans j1) (by omega) _
    have k2 : Wb.cell? ⟨w1.heap.size, 2, none⟩ = some (.slice (some ⟨b, o, none⟩) D.length cap) := by rw [← hWb]; exact cell_putObj (cell_then hBa j2) (by dsimp only; omega) _
    have k4 : Below w.heap.size w Wb := by rw [← hWb]; exact below_putObj (below_next j4 hBa) (by omega) _
    have k5 := heap_put hla (rec .busy none)
    have k6 := heap_putObj ((hBa.block _ (heap_lt j6)).trans j6) (show W0.heap.size ≠ W0.heap.size + 1 by omega) (rec .busy none)
    rw [hWb] at k5 k6 ⊢
    clear hWb a0 a1 a2 a3 hla hBa j1 j2 j3 j4 j5 j6 f0 f1 f2
    gi_wp2_with fail
    refine ⟨trivial, rfl, CallsIn.inRound _ ((callsIn_wide (n := 0)).2 ((nearB_any _ _ _ _ _ _ _ _).mono ?_))⟩
    rintro e W3 ⟨rfl, b4⟩
    have m1 : Boxed W3 (w.heap.size + 1 + 1 + 1) 4 (.bool false) := (b4.block _ (heap_lt k1)).trans k1
    have m2 := cell_then b4 k2
    have m4 := below_next k4 b4
    have m5 := (b4.block _ (heap_lt k5)).trans k5
    have m6 := (b4.block _ (heap_lt k6)).trans k6
    replace g0 := cell_then b4 g0
    replace g1 := cell_then b4 g1
    replace g2 := cell_then b4 g2
    have hc1 := m1.cell
    have hf1 := m1.frozen
    have hi2 : i < D.length := by omega
    clear b0 b1 b2 b3 k1 k2 k4 k5 k6 b4
    cases hb : nearB (dotAt D i).x (dotAt D i).y (dotAt D (nx D i)).x (dotAt D (nx D i)).y px py z with
    | false =>
      have hw : withinTo D px py z (i + 1) = false := by rw [withinTo, HJ0.out, hb]; rfl
      have HW := Lib.hid hw
      clear hw
      gi_wp2_with fail
      refine ⟨m5, .inl ⟨rfl, HW.out, boxed_putObj m1 (by omega) _, ⟨cell_putObj g0 (by dsimp only; omega) _, cell_putObj g1 (by dsimp only; omega) _, cell_putObj g2 (by dsimp only; omega) _⟩, cell_putObj m2 (by dsimp only; omega) _, Dots.of_open (below_putObj m4 (by omega) _) HC.out, below_putObj m4 (by omega) _, heap_put m5 _, heap_putObj m6 (by omega) _⟩⟩
    | true =>
      have hw : withinF D px py z = true := within_mono hb _ hi
      have HW := Lib.hid hw
      clear hw
      gi_wp2_with fail
      have hm5 := heap_setCell (p := ⟨w.heap.size + 1 + 1 + 1, 0, none⟩) m5 (by dsimp only; omega) (.bool true)
      refine ⟨hm5, .inr ⟨rfl, HW.out, boxed_putObj (m1.set _) (by omega) _, below_putObj (m4.setCell (by dsimp only; omega) _) (by omega) _, heap_put hm5 _, heap_putObj (heap_setCell m6 (by dsimp only; omega) _) (by omega) _⟩⟩
  case done =>
    rintro e W' ⟨hv, hJ | hF⟩
    · obtain ⟨j0, j1, _, j2, j3, j4, j5, j6⟩ := hJ
      refine ⟨hv, .inl ⟨j5, ?_⟩⟩
      have hj0 : withinF D px py z = false := j0
      have HJ0 := Lib.hid hj0
      have k1 := boxed_putObj j1 (show w.heap.size + 1 + 1 + 1 ≠ W0.heap.size + 1 by omega) (rec .exhausted none)
      have k4 := below_putObj j4 (show w.heap.size ≤ W0.heap.size + 1 by omega) (rec .exhausted none)
      have k6 := heap_putObj j6 (show W0.heap.size ≠ W0.heap.size + 1 by omega) (rec .exhausted none)
      obtain ⟨W4, hW4⟩ : ∃ W4, W'.putObj (W0.heap.size + 1) (rec .exhausted none) = W4 := ⟨_, rfl⟩
      rw [hW4] at k1 k4 k6 ⊢
      clear hW4 hrec j0 hj0
      have hc1 := k1.cell
      have hf1 := k1.frozen
      go_wp2_with fail
      have k7 := (boxed_putObj (k1.set (.bool false)) (show w.heap.size + 1 + 1 + 1 ≠ W0.heap.size by omega) (.deferred none)).cell
      exact leaves_marked (heap_setCell k6 (by dsimp only; omega) _) (by simp [results, Try.results31, go_sem, k7]) ⟨ret_bool HJ0.out.symm, below_putObj (k4.setCell (by dsimp only; omega) _) (by omega) _⟩
    · obtain ⟨j0, j1, j4, j5, j6⟩ := hF
      refine ⟨hv, .inr ⟨_, j5, ?_⟩⟩
      have HJ0 := Lib.hid j0
      have k1 := boxed_putObj j1 (show w.heap.size + 1 + 1 + 1 ≠ W0.heap.size + 1 by omega) (rec .exhausted (some .ret))
      have k4 := below_putObj j4 (show w.heap.size ≤ W0.heap.size + 1 by omega) (rec .exhausted (some .ret))
      have k6 := heap_putObj j6 (show W0.heap.size ≠ W0.heap.size + 1 by omega) (rec .exhausted (some .ret))
      obtain ⟨W4, hW4⟩ : ∃ W4, W'.putObj (W0.heap.size + 1) (rec .exhausted (some .ret)) = W4 := ⟨_, rfl⟩
      rw [hW4] at k1 k4 k6 ⊢
      clear hW4 hrec j0
      go_wp2_with fail
      have k7 := (boxed_putObj k1 (show w.heap.size + 1 + 1 + 1 ≠ W0.heap.size by omega) (.deferred none)).cell
      exact leaves_marked k6 (by simp [results, Try.results31, go_sem, k7]) ⟨ret_bool HJ0.out.symm, below_putObj k4 (by omega) _⟩
end Go.Proofs.Ytgmabepdhbnppaa
