/- Package stroke: what Thin asks of the dots between two others. -/
import Derived.Test.YtgmabepdhbnppaaStrokePieces
import Derived.Test.YtgmabepdhbnppaaStrokeNearB
namespace Go.Proofs.Ytgmabepdhbnppaa
open Go.RowKit Str
set_option maxRecDepth 100000 in
set_option maxHeartbeats 4000000 in
theorem far_any (_P _N : Int) (b o cap sb gi gk gz : Nat) (D : List Dot) (d : Dot) (i k : Nat) (z : Int) (w : World) (hpl : ∀ d ∈ D, placeB d.x d.y = true) (hd : placeB d.x d.y = true) (hz : 0 ≤ z ∧ z ≤ 1000) (hi : i < D.length) (hk : k < D.length) (_hn : (D.length : Int) ≤ 200)
    (hs : w.cell? ⟨sb, 2, none⟩ = some (.slice (some ⟨b, o, none⟩) D.length cap)) (hc : DotC w b o D) (ci : w.cell? ⟨gi, 0, none⟩ = some (.int .i64 (i : Int))) (ck : w.cell? ⟨gk, 0, none⟩ = some (.int .i64 (k : Int))) (cz : w.cell? ⟨gz, 0, none⟩ = some (.int .i64 z)) :
    Calls Try.prog 52 #[dv d, .pointer (some ⟨sb, 0, none⟩), .pointer (some ⟨gi, 0, none⟩), .pointer (some ⟨gk, 0, none⟩), .pointer (some ⟨gz, 0, none⟩)] w fun e w' => e = .returned (.bool (!nearD (dotAt D i) (dotAt D k) d z)) ∧ Below w.heap.size w w' := by
  obtain ⟨c0, c1, c2, c3⟩ := hc i hi
  obtain ⟨d0, d1, d2, d3⟩ := hc k hk
  have HC := Lib.hid hc
  have HPL := Lib.hid hpl
  have HP := Lib.hid hd
  clear hc hpl hd
  unfold dv
  go_enter Try.func52, Try.ntmps52
  go_wp2_with fail
  obtain ⟨W, hW⟩ : ∃ W, w.alloc (.cells #[.int .i64 d.x, .int .i64 d.y, .int .i64 d.t, .int .i64 d.p] 24) = W := ⟨_, rfl⟩
  have BW : Below w.heap.size w W := by rw [← hW]; exact below_alloc (Below.refl _ _) _
  have n0 : W.cell? ⟨w.heap.size, 0, none⟩ = some (.int .i64 d.x) := by rw [← hW]; exact new_cell rfl
  have n1 : W.cell? ⟨w.heap.size, 1, none⟩ = some (.int .i64 d.y) := by rw [← hW]; exact new_cell rfl
  have n2 : W.cell? ⟨w.heap.size, 2, none⟩ = some (.int .i64 d.t) := by rw [← hW]; exact new_cell rfl
  have n3 : W.cell? ⟨w.heap.size, 3, none⟩ = some (.int .i64 d.p) := by rw [← hW]; exact new_cell rfl
  rw [hW]
  clear hW
  replace hs := fun d os => cell_regrown (cell_then BW hs) d os
  replace ci := fun d os => cell_regrown (cell_then BW ci) d os
  replace ck := fun d os => cell_regrown (cell_then BW ck) d os
  replace cz := fun d os => cell_regrown (cell_then BW cz) d os
  replace c0 := fun d os => cell_regrown (cell_then BW c0) d os
  replace c1 := fun d os => cell_regrown (cell_then BW c1) d os
  replace c2 := fun d os => cell_regrown (cell_then BW c2) d os
  replace c3 := fun d os => cell_regrown (cell_then BW c3) d os
  replace d0 := fun d os => cell_regrown (cell_then BW d0) d os
  replace d1 := fun d os => cell_regrown (cell_then BW d1) d os
  replace d2 := fun d os => cell_regrown (cell_then BW d2) d os
  replace d3 := fun d os => cell_regrown (cell_then BW d3) d os
  replace n0 := fun d os => cell_regrown n0 d os
  replace n1 := fun d os => cell_regrown n1 d os
  replace n2 := fun d os => cell_regrown n2 d os
  replace n3 := fun d os => cell_regrown n3 d os
  have q1 : (i : Int) < (D.length : Int) := by omega
  have q2 : (k : Int) < (D.length : Int) := by omega
  have q3 : (0 : Int) ≤ (i : Int) := by omega
  have q4 : (0 : Int) ≤ (k : Int) := by omega
  refine wp_region_quiet_below (by kernel_rfl) (by kernel_rfl) ?_
  repeat (go_big_quiet_step (first | exact Calls.regrown_of (at_any _ _) | exact Calls.regrown_of (near_any _ _ _ _ _ _ _ _ (HPL.out _ (dotAt_mem hi)) (HPL.out _ (dotAt_mem hk)) HP.out hz.1 hz.2)))
  refine wpQuiet_nil ?_
  intro wq hq0
  have hq := below_of_class hq0
  clear hq0
  clear hs ci ck cz c0 c1 c2 c3 d0 d1 d2 d3 n0 n1 n2 n3
  go_wp2_with fail
  go_ret
  exact ⟨rfl, below_next BW hq⟩
end Go.Proofs.Ytgmabepdhbnppaa
