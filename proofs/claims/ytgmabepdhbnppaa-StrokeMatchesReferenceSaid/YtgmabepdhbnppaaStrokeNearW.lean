/- Package stroke: near. -/
import Derived.Test.YtgmabepdhbnppaaStrokeBase
namespace Go.Proofs.Ytgmabepdhbnppaa
open Go.RowKit Str
set_option maxRecDepth 100000 in
set_option maxHeartbeats 4000000 in
theorem near_any (ax ay bx b_y px py z : Int) (w : World) (h1 : placeB ax ay = true) (h2 : placeB bx b_y = true) (h3 : placeB px py = true) (h4 : 0 ≤ z) (h5 : z ≤ 1000) :
    Calls Try.prog 53 #[pv ax ay, pv bx b_y, pv px py, .int .i64 z] w fun e w' => e = .returned (.bool (nearI ax ay bx b_y px py z)) ∧ Below w.heap.size w w' := by
  have h1 := placeB_iff.1 h1
  have h2 := placeB_iff.1 h2
  have h3 := placeB_iff.1 h3
  unfold pv
  go_enter Try.func53, Try.ntmps53
  go_upto_region 1 with fail
  obtain ⟨W, hW⟩ : ∃ W, ((w.alloc (.cells #[.int .i64 ax, .int .i64 ay] 29)).alloc (.cells #[.int .i64 bx, .int .i64 b_y] 29)).alloc (.cells #[.int .i64 px, .int .i64 py] 29) = W := ⟨_, rfl⟩
  have B0 : Below w.heap.size w W := by rw [← hW]; exact (((Below.refl _ _).alloc (Nat.le_refl _) _).alloc (by simp) _).alloc (by simp; omega) _
  have c1 : W.cell? ⟨w.heap.size, 0, none⟩ = some (.int .i64 ax) := by rw [← hW]; simp [go_sem]
  have c2 : W.cell? ⟨w.heap.size, 1, none⟩ = some (.int .i64 ay) := by rw [← hW]; simp [go_sem]
  have c3 : W.cell? ⟨w.heap.size + 1, 0, none⟩ = some (.int .i64 bx) := by rw [← hW]; simp [go_sem]
  have c4 : W.cell? ⟨w.heap.size + 1, 1, none⟩ = some (.int .i64 b_y) := by rw [← hW]; simp [go_sem]
  have c5 : W.cell? ⟨w.heap.size + 1 + 1, 0, none⟩ = some (.int .i64 px) := by rw [← hW]; simp [go_sem]
  have c6 : W.cell? ⟨w.heap.size + 1 + 1, 1, none⟩ = some (.int .i64 py) := by rw [← hW]; simp [go_sem]
  have hsz : w.heap.size + 1 + 1 < W.heap.size := by rw [← hW]; simp
  rw [hW]
  clear hW
  go_cut [9, 10, 11] (fun s9 s10 s11 wx => ∃ p q r : Nat, s9 = .pointer (some ⟨p, 0, none⟩) ∧ s10 = .pointer (some ⟨q, 0, none⟩) ∧ s11 = .pointer (some ⟨r, 0, none⟩) ∧
    wx.cell? ⟨p, 0, none⟩ = some (.int .i64 (bx - ax)) ∧ wx.cell? ⟨p, 1, none⟩ = some (.int .i64 (b_y - ay)) ∧ wx.cell? ⟨q, 0, none⟩ = some (.int .i64 (px - ax)) ∧ wx.cell? ⟨q, 1, none⟩ = some (.int .i64 (py - ay)) ∧
    wx.cell? ⟨r, 0, none⟩ = some (.int .i64 (px - bx)) ∧ wx.cell? ⟨r, 1, none⟩ = some (.int .i64 (py - b_y)) ∧ Below w.heap.size w wx)
  case first =>
    have g1 := IntWalk.i64_in (bx - ax) (by omega)
    have g2 := IntWalk.i64_in (b_y - ay) (by omega)
    have g3 := IntWalk.i64_in (px - ax) (by omega)
    have g4 := IntWalk.i64_in (py - ay) (by omega)
    have g5 := IntWalk.i64_in (px - bx) (by omega)
    have g6 := IntWalk.i64_in (py - b_y) (by omega)
    go_region_held3 (fun w' => w'.cell? ⟨w.heap.size, 0, none⟩ = some (.int .i64 ax) ∧ w'.cell? ⟨w.heap.size, 1, none⟩ = some (.int .i64 ay) ∧ w'.cell? ⟨w.heap.size + 1, 0, none⟩ = some (.int .i64 bx) ∧ w'.cell? ⟨w.heap.size + 1, 1, none⟩ = some (.int .i64 b_y) ∧ w'.cell? ⟨w.heap.size + 1 + 1, 0, none⟩ = some (.int .i64 px) ∧ w'.cell? ⟨w.heap.size + 1 + 1, 1, none⟩ = some (.int .i64 py)) ((refine ⟨?_, ?_, ?_, ?_, ?_, ?_⟩ <;> (simp only [World.cell?_drew]; (repeat (refine keep_alloc _ ?_)); assumption))) (fail)
    all_goals
      clear g1 g2 g3 g4 g5 g6 c1 c2 c3 c4 c5 c6
      go_wp2_with fail
      go_meet
      exact ⟨_, _, _, rfl, rfl, rfl, by simp [go_sem], by simp [go_sem], by simp [go_sem], by simp [go_sem], by simp [go_sem], by simp [go_sem], (((B0.alloc B0.size _).alloc (by have := B0.size; simp; omega) _).alloc (by have := B0.size; simp; omega) _).drew⟩
  case rest =>
    obtain ⟨p, q, r, rfl, rfl, rfl, d1, d2, d3, d4, d5, d6, hB⟩ := hcut
    clear c1 c2 c3 c4 c5 c6
    have bz := mul_bd (a := z) (b := z) (m := 1000) (by omega) (by omega) (by omega) (by omega) (by omega)
    have bz1 : z * z ≤ 1000000 := by omega
    have bz0 := self_nonneg z
    have t1 := mul_bd (a := bx - ax) (b := px - ax) (m := 4095) (by omega) (by omega) (by omega) (by omega) (by omega)
    have t2 := mul_bd (a := b_y - ay) (b := py - ay) (m := 4095) (by omega) (by omega) (by omega) (by omega) (by omega)
    go_wp2_with fail
    refine (dot_any _ _ _ _ _ (by omega) (by omega) (by omega) (by omega) (by omega) (by omega) (by omega) (by omega)).mono ?_
    rintro e w1 ⟨rfl, b1⟩
    have e1 := cell_then b1 d1
    have e2 := cell_then b1 d2
    have e3 := cell_then b1 d3
    have e4 := cell_then b1 d4
    have e5 := cell_then b1 d5
    have e6 := cell_then b1 d6
    clear d1 d2 d3 d4 d5 d6
    have B1 := below_next hB b1
    by_cases n1 : (bx - ax) * (px - ax) + (b_y - ay) * (py - ay) ≤ 0
    · have hn : nearI ax ay bx b_y px py z = decide ((px - ax) * (px - ax) + (py - ay) * (py - ay) ≤ z * z) := by unfold nearI; rw [if_pos n1]
      have HN := Lib.hid hn
      clear hn
      go_wp2_with fail
      refine (dot_any _ _ _ _ _ (by omega) (by omega) (by omega) (by omega) (by omega) (by omega) (by omega) (by omega)).mono ?_
      rintro e w2 ⟨rfl, b2⟩
      go_wp2_with fail
      go_ret
      exact ⟨ret_bool HN.out.symm, below_next B1 b2⟩
    · go_wp2_with fail
      refine (dot_any _ _ _ _ _ (by omega) (by omega) (by omega) (by omega) (by omega) (by omega) (by omega) (by omega)).mono ?_
      rintro e w2 ⟨rfl, b2⟩
      have f1 := cell_then b2 e1
      have f2 := cell_then b2 e2
      have f3 := cell_then b2 e3
      have f4 := cell_then b2 e4
      have f5 := cell_then b2 e5
      have f6 := cell_then b2 e6
      clear e1 e2 e3 e4 e5 e6
      have B2 := below_next B1 b2
      by_cases n2 : 0 ≤ (bx - ax) * (px - bx) + (b_y - ay) * (py - b_y)
      · have hn : nearI ax ay bx b_y px py z = decide ((px - bx) * (px - bx) + (py - b_y) * (py - b_y) ≤ z * z) := by unfold nearI; rw [if_neg (by omega), if_pos n2]
        have HN := Lib.hid hn
        clear hn
        go_wp2_with fail
        refine (dot_any _ _ _ _ _ (by omega) (by omega) (by omega) (by omega) (by omega) (by omega) (by omega) (by omega)).mono ?_
        rintro e w3 ⟨rfl, b3⟩
        go_wp2_with fail
        go_ret
        exact ⟨ret_bool HN.out.symm, below_next B2 b3⟩
      · have hn : nearI ax ay bx b_y px py z = decide (((bx - ax) * (py - ay) - (b_y - ay) * (px - ax)) * ((bx - ax) * (py - ay) - (b_y - ay) * (px - ax)) ≤ z * z * ((bx - ax) * (bx - ax) + (b_y - ay) * (b_y - ay))) := by unfold nearI; rw [if_neg (by omega), if_neg (by omega)]
        have HN := Lib.hid hn
        clear hn
        have t3 := mul_bd (a := bx - ax) (b := py - ay) (m := 4095) (by omega) (by omega) (by omega) (by omega) (by omega)
        have t4 := mul_bd (a := b_y - ay) (b := px - ax) (m := 4095) (by omega) (by omega) (by omega) (by omega) (by omega)
        have t5 := mul_bd (a := bx - ax) (b := bx - ax) (m := 4095) (by omega) (by omega) (by omega) (by omega) (by omega)
        have t6 := mul_bd (a := b_y - ay) (b := b_y - ay) (m := 4095) (by omega) (by omega) (by omega) (by omega) (by omega)
        have t7 := mul_bd (a := (bx - ax) * (py - ay) - (b_y - ay) * (px - ax)) (b := (bx - ax) * (py - ay) - (b_y - ay) * (px - ax)) (m := 33538050) (by omega) (by omega) (by omega) (by omega) (by omega)
        have t8 := mul_bd (a := z * z) (b := (bx - ax) * (bx - ax) + (b_y - ay) * (b_y - ay)) (m := 33538050) (by omega) (by omega) (by omega) (by omega) (by omega)
        go_wp2_with fail
        refine (dot_any _ _ _ _ _ (by omega) (by omega) (by omega) (by omega) (by omega) (by omega) (by omega) (by omega)).mono ?_
        rintro e w3 ⟨rfl, b3⟩
        go_wp2_with fail
        go_ret
        exact ⟨ret_bool HN.out.symm, below_next B2 b3⟩
end Go.Proofs.Ytgmabepdhbnppaa
