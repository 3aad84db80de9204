/- Package stroke: the functions that Moved and Turned give to changed. -/
import Derived.Test.YtgmabepdhbnppaaStrokeCode
import Derived.Test.YtgmabepdhbnppaaArr
import Derived.Test.YtgmabepdhbnppaaHead
import Derived.RegionTactic
import Derived.ChangeAlike
namespace Go.Proofs.Ytgmabepdhbnppaa
open Go.RowKit Str
theorem quarters (q : Int) (hq : -9223372036854775808 ≤ q ∧ q ≤ 9223372036854775807) : (wrap64 (q.tmod 4 + 4)).tmod 4 = (((q % 4).toNat : Nat) : Int) := by
  have h1 : q.tmod 4 = q % 4 ∨ (q.tmod 4 = q % 4 - 4 ∧ 0 < q % 4) := by
    rcases Int.le_total 0 q with h | h
    · exact .inl (Int.tmod_eq_emod_of_nonneg h)
    · obtain ⟨p, hp⟩ : ∃ p, q = -p := ⟨-q, by omega⟩
      have e : q.tmod 4 = -(p % 4) := by rw [hp, Int.neg_tmod, Int.tmod_eq_emod_of_nonneg (by omega)]
      omega
  have h2 : wrap64 (q.tmod 4 + 4) = q.tmod 4 + 4 := IntWalk.wrap64_in _ (by omega)
  rw [h2, Int.tmod_eq_emod_of_nonneg (by omega)]
  omega
def mv1 (u v : Int) (d : Dot) : Dot := ⟨d.x + u, d.y + v, d.t, d.p⟩
set_option maxRecDepth 100000 in
set_option maxHeartbeats 4000000 in
theorem moved1_any (d : Dot) (u v : Int) (gu gv : Nat) (w : World) (hd : placeB d.x d.y = true) (hu : -4095 ≤ u ∧ u ≤ 4095) (hv : -4095 ≤ v ∧ v ≤ 4095) (cu : w.cell? ⟨gu, 0, none⟩ = some (.int .i64 u)) (cv : w.cell? ⟨gv, 0, none⟩ = some (.int .i64 v)) :
    Calls Try.prog 57 #[dv d, .pointer (some ⟨gu, 0, none⟩), .pointer (some ⟨gv, 0, none⟩)] w fun e w' => e = .returned (dv (mv1 u v d)) ∧ Below w.heap.size w w' := by
  have hp := placeB_iff.1 hd
  clear hd
  unfold dv
  have lu := lt_size cu
  have lv := lt_size cv
  go_enter Try.func57, Try.ntmps57
  go_wp2_with fail
  obtain ⟨W, hW⟩ : ∃ W, (w.alloc (.cells #[.int .i64 d.x, .int .i64 d.y, .int .i64 d.t, .int .i64 d.p] 24)).alloc (.cells #[.int .i64 0, .int .i64 0, .int .i64 0, .int .i64 0] 24) = W := ⟨_, rfl⟩
  have BW : Below w.heap.size w W := by rw [← hW]; exact below_alloc (below_alloc (Below.refl _ _) _) _
  obtain ⟨n0, f0⟩ : W.cell? ⟨w.heap.size, 0, none⟩ = some (.int .i64 d.x) ∧ W.frozen? ⟨w.heap.size, 0, none⟩ = false := by rw [← hW]; simp [go_sem]
  obtain ⟨n1, f1⟩ : W.cell? ⟨w.heap.size, 1, none⟩ = some (.int .i64 d.y) ∧ W.frozen? ⟨w.heap.size, 1, none⟩ = false := by rw [← hW]; simp [go_sem]
  have n2 : W.cell? ⟨w.heap.size, 2, none⟩ = some (.int .i64 d.t) := by rw [← hW]; simp [go_sem]
  have n3 : W.cell? ⟨w.heap.size, 3, none⟩ = some (.int .i64 d.p) := by rw [← hW]; simp [go_sem]
  obtain ⟨m0, e0⟩ : W.cell? ⟨w.heap.size + 1, 0, none⟩ = some (.int .i64 0) ∧ W.frozen? ⟨w.heap.size + 1, 0, none⟩ = false := by rw [← hW]; simp [go_sem]
  obtain ⟨m1, e1⟩ : W.cell? ⟨w.heap.size + 1, 1, none⟩ = some (.int .i64 0) ∧ W.frozen? ⟨w.heap.size + 1, 1, none⟩ = false := by rw [← hW]; simp [go_sem]
  obtain ⟨m2, e2⟩ : W.cell? ⟨w.heap.size + 1, 2, none⟩ = some (.int .i64 0) ∧ W.frozen? ⟨w.heap.size + 1, 2, none⟩ = false := by rw [← hW]; simp [go_sem]
  obtain ⟨m3, e3⟩ : W.cell? ⟨w.heap.size + 1, 3, none⟩ = some (.int .i64 0) ∧ W.frozen? ⟨w.heap.size + 1, 3, none⟩ = false := by rw [← hW]; simp [go_sem]
  replace cu := cell_then BW cu
  replace cv := cell_then BW cv
  rw [hW]
  clear hW
  have w1 : IntKind.i64.wrap (d.x + u) = d.x + u := IntWalk.i64_in _ (by omega)
  have w2 : IntKind.i64.wrap (d.y + v) = d.y + v := IntWalk.i64_in _ (by omega)
  go_region
  go_wp2_with fail
  exact bodyPost_ret (v := dv (mv1 u v d)) (by simp [results, Try.results57, go_sem, dv, mv1, m0, m1, m2, m3]) rfl ⟨rfl, ((((((BW.setCell (by dsimp only; omega) _).setCell (by dsimp only; omega) _).setCell (by dsimp only; omega) _).setCell (by dsimp only; omega) _).setCell (by dsimp only; omega) _).setCell (by dsimp only; omega) _).drew⟩
set_option maxRecDepth 100000 in
set_option maxHeartbeats 4000000 in
theorem turned1_any (d : Dot) (q : Int) (gq : Nat) (w : World) (hd : placeB d.x d.y = true) (hq : -9223372036854775808 ≤ q ∧ q ≤ 9223372036854775807) (cq : w.cell? ⟨gq, 0, none⟩ = some (.int .i64 q)) :
    Calls Try.prog 58 #[dv d, .pointer (some ⟨gq, 0, none⟩)] w fun e w' => e = .returned (dv (turnN (q % 4).toNat d)) ∧ Below w.heap.size w w' := by
  have hp := placeB_iff.1 hd
  clear hd
  unfold dv
  have lq := lt_size cq
  obtain ⟨m, hm⟩ : ∃ m, (q % 4).toNat = m := ⟨_, rfl⟩
  have h4 := quarters q hq
  rw [hm] at h4
  have hm4 : m < 4 := by omega
  rw [hm]
  clear hm hq
  go_enter Try.func58, Try.ntmps58
  go_wp2_with fail
  clear h4
  obtain ⟨W, hW⟩ : ∃ W, (w.alloc (.cells #[.int .i64 d.x, .int .i64 d.y, .int .i64 d.t, .int .i64 d.p] 24)).alloc (.cells #[.int .i64 0, .int .i64 0, .int .i64 0, .int .i64 0] 24) = W := ⟨_, rfl⟩
  have BW : Below w.heap.size w W := by rw [← hW]; exact below_alloc (below_alloc (Below.refl _ _) _) _
  have V0 : Var4 W w.heap.size := by rw [← hW]; exact Var4.alloc (Var4.new _ _ _ _ _ _) _
  have V1 : Var4 W (w.heap.size + 1) := by rw [← hW]; exact Var4.of (v0 := .int .i64 0) (by simp [go_sem]) (v1 := .int .i64 0) (by simp [go_sem]) (v2 := .int .i64 0) (by simp [go_sem]) (v3 := .int .i64 0) (by simp [go_sem])
  have n0 : W.cell? ⟨w.heap.size, 0, none⟩ = some (.int .i64 d.x) := by rw [← hW]; simp [go_sem]
  have n1 : W.cell? ⟨w.heap.size, 1, none⟩ = some (.int .i64 d.y) := by rw [← hW]; simp [go_sem]
  have n2 : W.cell? ⟨w.heap.size, 2, none⟩ = some (.int .i64 d.t) := by rw [← hW]; simp [go_sem]
  have n3 : W.cell? ⟨w.heap.size, 3, none⟩ = some (.int .i64 d.p) := by rw [← hW]; simp [go_sem]
  rw [hW]
  clear hW
  go_loopw [8] (fun i wr => ∃ k : Nat, k ≤ m ∧ i = .int .i64 (k : Int) ∧ Var4 wr w.heap.size ∧ Var4 wr (w.heap.size + 1) ∧ wr.cell? ⟨w.heap.size, 0, none⟩ = some (.int .i64 (turnN k d).x) ∧ wr.cell? ⟨w.heap.size, 1, none⟩ = some (.int .i64 (turnN k d).y) ∧
    wr.cell? ⟨w.heap.size, 2, none⟩ = some (.int .i64 d.t) ∧ wr.cell? ⟨w.heap.size, 3, none⟩ = some (.int .i64 d.p) ∧ Below w.heap.size w wr) (fun i _ => m - (intOf i).toNat)
  case atStart => exact ⟨0, by omega, rfl, V0, V1, n0, n1, n2, n3, BW⟩
  case round =>
    clear V0 V1 n0 n1 n2 n3 BW
    obtain ⟨k, hk, rfl, V0, V1, n0, n1, n2, n3, hB⟩ := hrel
    have f0 := V0.f0
    have f1 := V0.f1
    have H0 := Lib.hid V0
    have H1 := Lib.hid V1
    have hpk := placeB_iff.1 ((turn_place k d).trans (placeB_iff.2 hp))
    clear V0 V1
    by_cases hlt : k < m
    · go_wp2_with fail
      refine ⟨⟨k + 1, by omega, by go_num, (H0.out.set_ _ _).set_ _ _, (H1.out.set_ _ _).set_ _ _, cell_off _ (H0.out.s0 _) (by omega), (H0.out.set_ _ _).s1 _, cell_off _ (cell_off _ n2 (by omega)) (by omega), cell_off _ (cell_off _ n3 (by omega)) (by omega), (hB.setCell (by dsimp only; omega) _).setCell (by dsimp only; omega) _⟩, by simp [intOf]; omega⟩
    · obtain rfl : k = m := by omega
      obtain ⟨m0, m1, m2, m3⟩ := And.intro H1.out.c0 (And.intro H1.out.c1 (And.intro H1.out.c2 H1.out.c3))
      obtain ⟨e0, e1, e2, e3⟩ := And.intro H1.out.f0 (And.intro H1.out.f1 (And.intro H1.out.f2 H1.out.f3))
      go_wp2_with fail
      have ht := (turn_tp k d).1
      have hpp := (turn_tp k d).2
      exact bodyPost_ret (v := dv (turnN k d)) (by simp [results, Try.results58, go_sem, dv, m0, m1, m2, m3, ht, hpp]) rfl ⟨rfl, ((((hB.setCell (by dsimp only; omega) _).setCell (by dsimp only; omega) _).setCell (by dsimp only; omega) _).setCell (by dsimp only; omega) _)⟩
end Go.Proofs.Ytgmabepdhbnppaa
