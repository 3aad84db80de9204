/- Package stroke: Way. -/
import Derived.Test.YtgmabepdhbnppaaStrokePieces
namespace Go.Proofs.Ytgmabepdhbnppaa
open Go.RowKit Str
attribute [local go_sem] Oper.semAt_some
theorem run_max_int4 {P : Program} (w : World) (ts : Array TypeId) (t : TypeId) (k k2 k3 k4 : IntKind) (x y z v : Int) : (Builtin.max_ ts t #[.int k x, .int k2 y, .int k3 z, .int k4 v]).run P w = .ok (.int k (maxI (maxI (maxI x y) z) v)) w := by
  simp [Builtin.max_, Builtin.max2, maxI]
  rfl
attribute [local go_sem] run_max_int4
theorem way_no (P N : Int) (A : Option Addr) (cap : Nat) (D : List Dot) (w : World) (hD : Dots w A D) (hn : (D.length : Int) ≤ 4611686018427387904) (h1 : validB P N D = false) :
    Calls Try.prog 16 #[.agg #[.int .i64 P, .int .i64 N, .slice A D.length cap]] w fun e w' => e = .returned (.tuple #[.int .i64 0, .int .i64 50]) ∧ Below w.heap.size w w' := by
  have HD := Lib.hid hD
  clear hD
  go_enter Try.func16, Try.ntmps16
  go_wp2_with fail
  have B0 : Below w.heap.size w (w.alloc (.cells #[.int .i64 P, .int .i64 N, .slice A D.length cap] 27)) := (Below.refl _ _).alloc (Nat.le_refl _) _
  refine (valid_any P N A cap D _ (HD.out.below B0) hn).mono ?_
  rintro e w1 ⟨rfl, b1⟩
  rw [h1]
  go_wp2_with fail
  go_ret2
  exact ⟨rfl, below_next B0 b1⟩
/-- the state of the loop in Way -/
def WayJ (w : World) (_P _N : Int) (b o cap : Nat) (D : List Dot) (sm sb l : Nat) (rec : LoopState → Option Code → Obj) (i : Nat) (W : World) : Prop :=
  Boxed W sm 3 (.int .i64 (wayTo D i)) ∧ W.cell? ⟨sb, 2, none⟩ = some (.slice (some ⟨b, o, none⟩) D.length cap) ∧ DotC W b o D ∧ Below w.heap.size w W ∧ W.heap[l + 1]? = some (rec .ready none) ∧ W.heap[l]? = some (.deferred (some []))
set_option maxRecDepth 100000 in
set_option maxHeartbeats 4000000 in
theorem way_yes (P N : Int) (A : Option Addr) (cap : Nat) (D : List Dot) (w : World) (hD : Dots w A D) (h1 : validB P N D = true) :
    Calls Try.prog 16 #[.agg #[.int .i64 P, .int .i64 N, .slice A D.length cap]] w fun e w' => e = .returned (.tuple #[.int .i64 (wayF D), .int .i64 0]) ∧ Below w.heap.size w w' := by
  obtain ⟨⟨p5, p6⟩, p0⟩ := valid_len h1
  have hpl := placed (validB_dots h1)
  have HPL := Lib.hid hpl
  have H1 := Lib.hid h1
  clear h1 hpl
  obtain ⟨b, o, rfl, hlt, hc⟩ := hD.open_ p0
  have HD := Lib.hid hD
  have HC := Lib.hid hc
  clear hD hc
  refine calls_of_wp_marks Try.func16 rfl ?_
  simp only [Try.ntmps16, List.size_toArray, List.length_cons, List.length_nil, Nat.reduceAdd, Nat.reduceSub, Array.replicate_succ, Array.replicate_zero, List.push_toArray, List.append_toArray, List.nil_append, List.cons_append]
  go_wp2_with fail
  have B0 : Below w.heap.size w (w.alloc (.cells #[.int .i64 P, .int .i64 N, .slice (some ⟨b, o, none⟩) D.length cap] 27)) := (Below.refl _ _).alloc (Nat.le_refl _) _
  refine (valid_any P N _ cap D _ (HD.out.below B0) (by omega)).mono ?_
  rintro e w1 ⟨rfl, b1⟩
  rw [H1.out]
  have B1 := below_next B0 b1
  have e0 : w1.cell? ⟨w.heap.size, 0, none⟩ = some (.int .i64 P) := cell_then b1 (by simp [go_sem])
  have e1 : w1.cell? ⟨w.heap.size, 1, none⟩ = some (.int .i64 N) := cell_then b1 (by simp [go_sem])
  have e2 : w1.cell? ⟨w.heap.size, 2, none⟩ = some (.slice (some ⟨b, o, none⟩) D.length cap) := cell_then b1 (by simp [go_sem])
  have hsz := lt_size e0
  clear B0 b1
  go_wp2_with fail
  refine (pieces_any _ _ _ _).mono ?_
  rintro e w2 ⟨rfl, rfl⟩
  clear e0 e1 e2
  go_wp2_with fail
  obtain ⟨W0, hW0⟩ : ∃ W0, (w1.alloc (.cells #[.int .i64 0] 3)).alloc (.cells #[.int .i64 P, .int .i64 N, .slice (some ⟨b, o, none⟩) D.length cap] 27) = W0 := ⟨_, rfl⟩
  have hs0 : W0.heap.size ≤ w1.heap.size + 2 ∧ w1.heap.size + 2 ≤ W0.heap.size := by rw [← hW0]; simp
  have bS : Boxed W0 w1.heap.size 3 (.int .i64 0) := by rw [← hW0]; exact (Boxed.new w1 _ _).alloc _
  have cS : W0.cell? ⟨w1.heap.size + 1, 2, none⟩ = some (.slice (some ⟨b, o, none⟩) D.length cap) := by rw [← hW0]; exact new_cell' rfl
  have BW : Below w.heap.size w W0 := by rw [← hW0]; exact below_alloc (below_alloc B1 _) _
  have hd0 : DotC W0 b o D := Dots.of_open BW HC.out
  rw [hW0]
  clear hW0
  refine range_outer (n := 0) (gf := 60) (lb := #[.pointer (some ⟨w1.heap.size + 1, 0, none⟩)]) rfl (enters_of Try.func60 (by kernel_rfl) rfl) ?_
  intro fn rec hrec
  have hcl := rec_cells hrec
  refine (pieces1_in _ (w1.heap.size + 1) b o cap D (WayJ w P N b o cap D w1.heap.size (w1.heap.size + 1) W0.heap.size rec) (fun _ => False) p0 p6 ?hJ ?hS ?round _ ?start).mono ?done
  case hJ => exact fun i W h => ⟨h.2.1, h.2.2.1⟩
  case hS => exact fun i W W' ⟨h1, h2, h3, h4, h5, h6⟩ hb => ⟨(hb.block _ (heap_lt h1)).trans h1, cell_then hb h2, Dots.of_open hb h3, below_next h4 hb, (hb.block _ (heap_lt h5)).trans h5, (hb.block _ (heap_lt h6)).trans h6⟩
  case start =>
    refine ⟨(bS.alloc _).alloc _, keep_alloc _ (keep_alloc _ cS), ?_, below_alloc (below_alloc BW _) _, ?_, ?_⟩
    · exact Dots.of_open (below_alloc (below_alloc (Below.refl _ _) _) _) hd0
    · have := World.alloc_heap_new (W0.alloc (.deferred (some []))) (rec .ready none)
      rwa [World.size_alloc] at this
    · exact heap_alloc (World.alloc_heap_new W0 _) _
  case round =>
    rintro i W hi ⟨j1, j2, j3, j4, j5, j6⟩
    refine yield_round hrec trivial j5 rfl ?_
    clear hrec
    unfold pv
    gi_wp2
    have hlW := heap_lt j5
    have hWs := heap_lt j1
    have hcs := lt_size j2
    refine ⟨heap_alloc (heap_alloc j5 _) _, ?_⟩
    obtain ⟨Wa, hWa⟩ : ∃ Wa, (W.alloc (.cells #[.int .i64 (dotAt D i).x, .int .i64 (dotAt D i).y] 29)).alloc (.cells #[.int .i64 (dotAt D (nx D i)).x, .int .i64 (dotAt D (nx D i)).y] 29) = Wa := ⟨_, rfl⟩
    have hBa : Below W.heap.size W Wa := by rw [← hWa]; exact below_alloc (below_alloc (Below.refl _ _) _) _
    have a0 : Wa.cell? ⟨W.heap.size, 0, none⟩ = some (.int .i64 (dotAt D i).x) := by rw [← hWa]; exact keep_alloc _ (new_cell rfl)
    have a1 : Wa.cell? ⟨W.heap.size, 1, none⟩ = some (.int .i64 (dotAt D i).y) := by rw [← hWa]; exact keep_alloc _ (new_cell rfl)
    have a2 : Wa.cell? ⟨W.heap.size + 1, 0, none⟩ = some (.int .i64 (dotAt D (nx D i)).x) := by rw [← hWa]; exact new_cell' rfl
    have a3 : Wa.cell? ⟨W.heap.size + 1, 1, none⟩ = some (.int .i64 (dotAt D (nx D i)).y) := by rw [← hWa]; exact new_cell' rfl
    have hla := (hBa.block _ hlW).trans j5
    rw [hWa]
    clear hWa
    obtain ⟨Wb, hWb⟩ : ∃ Wb, Wa.putObj (W0.heap.size + 1) (rec .busy none) = Wb := ⟨_, rfl⟩
    have b0 : Wb.cell? ⟨W.heap.size, 0, none⟩ = some (.int .i64 (dotAt D i).x) := by rw [← hWb]; exact cell_putObj a0 (by dsimp only; omega) _
    have b1 : Wb.cell? ⟨W.heap.size, 1, none⟩ = some (.int .i64 (dotAt D i).y) := by rw [← hWb]; exact cell_putObj a1 (by dsimp only; omega) _
    have b2 : Wb.cell? ⟨W.heap.size + 1, 0, none⟩ = some (.int .i64 (dotAt D (nx D i)).x) := by rw [← hWb]; exact cell_putObj a2 (by dsimp only; omega) _
    have b3 : Wb.cell? ⟨W.heap.size + 1, 1, none⟩ = some (.int .i64 (dotAt D (nx D i)).y) := by rw [← hWb]; exact cell_putObj a3 (by dsimp only; omega) _
    have k1 : Boxed Wb w1.heap.size 3 (.int .i64 (wayTo D i)) := by rw [← hWb]; exact boxed_putObj ((hBa.block _ hWs).trans j1) (by omega) _
    have k2 : Wb.cell? ⟨w1.heap.size + 1, 2, none⟩ = some (.slice (some ⟨b, o, none⟩) D.length cap) := by rw [← hWb]; exact cell_putObj (cell_then hBa j2) (by dsimp only; omega) _
    have k4 : Below w.heap.size w Wb := by rw [← hWb]; exact below_putObj (below_next j4 hBa) (by omega) _
    have k5 := heap_put hla (rec .busy none)
    have k6 := heap_putObj ((hBa.block _ (heap_lt j6)).trans j6) (show W0.heap.size ≠ W0.heap.size + 1 by omega) (rec .busy none)
    rw [hWb] at k5 k6 ⊢
    clear hWb a0 a1 a2 a3 hla hBa j1 j2 j3 j4 j5 j6
    have hc1 := k1.cell
    have hf1 := k1.frozen
    have hi2 : i < D.length := by omega
    have hx1 := placeB_iff.1 (HPL.out _ (dotAt_mem hi2))
    have hx2 := placeB_iff.1 (HPL.out _ (dotAt_mem (D := D) (i := nx D i) (by unfold nx; omega)))
    have hwb := way_bd HPL.out i (by omega)
    have hsp := stp_bd (HPL.out _ (dotAt_mem hi2)) (HPL.out _ (dotAt_mem (D := D) (i := nx D i) (by unfold nx; omega)))
    unfold stp at hsp
    gi_wp2
    obtain ⟨v, hv⟩ : ∃ v, (.int .i64 (wayTo D (i + 1)) : Value) = v := ⟨_, rfl⟩
    have hw3 := heap_setCell (p := ⟨w1.heap.size, 0, none⟩) k5 (show W0.heap.size + 1 ≠ w1.heap.size by omega) v
    have hb3 : Below w.heap.size w (Wb.setCell ⟨w1.heap.size, 0, none⟩ v) := k4.setCell (by dsimp only; omega) _
    show roundEnd (W0.heap.size + 1) rec _ .normal _ (Wb.setCell ⟨w1.heap.size, 0, none⟩ (.int .i64 (wayTo D (i + 1))))
    rw [hv]
    refine ⟨hw3, .inl ⟨rfl, ?_, cell_putObj (cell_set _ k2 (by dsimp only; omega)) (by dsimp only; omega) _, Dots.of_open (below_putObj hb3 (by omega) _) HC.out, below_putObj hb3 (by omega) _, heap_put hw3 _, heap_putObj (heap_setCell k6 (by dsimp only; omega) _) (by omega) _⟩⟩
    rw [← hv]
    exact boxed_putObj (k1.set _) (by omega) _
  case done =>
    rintro e W' ⟨hv, hJ | hF⟩
    · obtain ⟨j1, j2, j3, j4, j5, j6⟩ := hJ
      refine ⟨hv, .inl ⟨j5, ?_⟩⟩
      have k1 := boxed_putObj j1 (show w1.heap.size ≠ W0.heap.size + 1 by omega) (rec .exhausted none)
      have k4 := below_putObj j4 (show w.heap.size ≤ W0.heap.size + 1 by omega) (rec .exhausted none)
      have k6 := heap_putObj j6 (show W0.heap.size ≠ W0.heap.size + 1 by omega) (rec .exhausted none)
      rw [way_pieces (by omega)] at k1
      obtain ⟨W4, hW4⟩ : ∃ W4, W'.putObj (W0.heap.size + 1) (rec .exhausted none) = W4 := ⟨_, rfl⟩
      rw [hW4] at k1 k4 k6 ⊢
      clear hW4 hrec
      have hc1 := k1.cell
      go_wp2_with fail
      exact leaves_marked k6 (results_tmp2 rfl _ _ _) ⟨rfl, below_putObj k4 (by omega) _⟩
    · exact hF.elim
end Go.Proofs.Ytgmabepdhbnppaa
