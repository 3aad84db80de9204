/- Package stroke: Near. -/
import Derived.Test.YtgmabepdhbnppaaStrokeNearW
import Derived.Test.YtgmabepdhbnppaaStrokeValid
namespace Go.Proofs.Ytgmabepdhbnppaa
open Go.RowKit Str
set_option maxRecDepth 100000 in
set_option maxHeartbeats 4000000 in
theorem nearB_any (ax ay bx b_y px py z : Int) (w : World) : Calls Try.prog 37 #[.agg #[.int .i64 ax, .int .i64 ay], .agg #[.int .i64 bx, .int .i64 b_y], .agg #[.int .i64 px, .int .i64 py], .int .i64 z] w fun e w' =>
    e = .returned (.bool (nearB ax ay bx b_y px py z)) ∧ Below w.heap.size w w' := by
  have B0 : Below w.heap.size w (((w.alloc (.cells #[.int .i64 ax, .int .i64 ay] 29)).alloc (.cells #[.int .i64 bx, .int .i64 b_y] 29)).alloc (.cells #[.int .i64 px, .int .i64 py] 29)) := below_alloc (below_alloc (below_alloc (Below.refl _ _) _) _) _
  cases h1 : placeB ax ay with
  | false =>
    have hn : nearB ax ay bx b_y px py z = false := by simp [nearB, h1]
    have HN := Lib.hid hn
    clear hn
    go_enter Try.func37, Try.ntmps37
    go_wp2_with fail
    refine (place_any _ _ _).mono ?_
    rintro e w1 ⟨rfl, b1⟩
    rw [h1]
    have e0 := cell_then b1 (a := ⟨w.heap.size, 0, none⟩) (v := .int .i64 ax) (by simp [go_sem])
    have e1 := cell_then b1 (a := ⟨w.heap.size, 1, none⟩) (v := .int .i64 ay) (by simp [go_sem])
    have e2 := cell_then b1 (a := ⟨w.heap.size + 1, 0, none⟩) (v := .int .i64 bx) (by simp [go_sem])
    have e3 := cell_then b1 (a := ⟨w.heap.size + 1, 1, none⟩) (v := .int .i64 b_y) (by simp [go_sem])
    have e4 := cell_then b1 (a := ⟨w.heap.size + 1 + 1, 0, none⟩) (v := .int .i64 px) (by simp [go_sem])
    have e5 := cell_then b1 (a := ⟨w.heap.size + 1 + 1, 1, none⟩) (v := .int .i64 py) (by simp [go_sem])
    have B1 := below_next B0 b1
    go_wp2_with fail
    go_ret
    exact ⟨ret_bool HN.out.symm, B1⟩
  | true =>
    cases h2 : placeB bx b_y with
    | false =>
      have hn : nearB ax ay bx b_y px py z = false := by simp [nearB, h2]
      have HN := Lib.hid hn
      clear hn
      go_enter Try.func37, Try.ntmps37
      go_wp2_with fail
      refine (place_any _ _ _).mono ?_
      rintro e w1 ⟨rfl, b1⟩
      rw [h1]
      have e0 := cell_then b1 (a := ⟨w.heap.size, 0, none⟩) (v := .int .i64 ax) (by simp [go_sem])
      have e1 := cell_then b1 (a := ⟨w.heap.size, 1, none⟩) (v := .int .i64 ay) (by simp [go_sem])
      have e2 := cell_then b1 (a := ⟨w.heap.size + 1, 0, none⟩) (v := .int .i64 bx) (by simp [go_sem])
      have e3 := cell_then b1 (a := ⟨w.heap.size + 1, 1, none⟩) (v := .int .i64 b_y) (by simp [go_sem])
      have e4 := cell_then b1 (a := ⟨w.heap.size + 1 + 1, 0, none⟩) (v := .int .i64 px) (by simp [go_sem])
      have e5 := cell_then b1 (a := ⟨w.heap.size + 1 + 1, 1, none⟩) (v := .int .i64 py) (by simp [go_sem])
      have B1 := below_next B0 b1
      go_wp2_with fail
      refine (place_any _ _ _).mono ?_
      rintro e w2 ⟨rfl, b2⟩
      rw [h2]
      replace e0 := cell_then b2 e0
      replace e1 := cell_then b2 e1
      replace e2 := cell_then b2 e2
      replace e3 := cell_then b2 e3
      replace e4 := cell_then b2 e4
      replace e5 := cell_then b2 e5
      have B2 := below_next B1 b2
      go_wp2_with fail
      go_ret
      exact ⟨ret_bool HN.out.symm, B2⟩
    | true =>
      cases h3 : placeB px py with
      | false =>
        have hn : nearB ax ay bx b_y px py z = false := by simp [nearB, h3]
        have HN := Lib.hid hn
        clear hn
        go_enter Try.func37, Try.ntmps37
        go_wp2_with fail
        refine (place_any _ _ _).mono ?_
        rintro e w1 ⟨rfl, b1⟩
        rw [h1]
        have e0 := cell_then b1 (a := ⟨w.heap.size, 0, none⟩) (v := .int .i64 ax) (by simp [go_sem])
        have e1 := cell_then b1 (a := ⟨w.heap.size, 1, none⟩) (v := .int .i64 ay) (by simp [go_sem])
        have e2 := cell_then b1 (a := ⟨w.heap.size + 1, 0, none⟩) (v := .int .i64 bx) (by simp [go_sem])
        have e3 := cell_then b1 (a := ⟨w.heap.size + 1, 1, none⟩) (v := .int .i64 b_y) (by simp [go_sem])
        have e4 := cell_then b1 (a := ⟨w.heap.size + 1 + 1, 0, none⟩) (v := .int .i64 px) (by simp [go_sem])
        have e5 := cell_then b1 (a := ⟨w.heap.size + 1 + 1, 1, none⟩) (v := .int .i64 py) (by simp [go_sem])
        have B1 := below_next B0 b1
        go_wp2_with fail
        refine (place_any _ _ _).mono ?_
        rintro e w2 ⟨rfl, b2⟩
        rw [h2]
        replace e0 := cell_then b2 e0
        replace e1 := cell_then b2 e1
        replace e2 := cell_then b2 e2
        replace e3 := cell_then b2 e3
        replace e4 := cell_then b2 e4
        replace e5 := cell_then b2 e5
        have B2 := below_next B1 b2
        go_wp2_with fail
        refine (place_any _ _ _).mono ?_
        rintro e w3 ⟨rfl, b3⟩
        rw [h3]
        replace e0 := cell_then b3 e0
        replace e1 := cell_then b3 e1
        replace e2 := cell_then b3 e2
        replace e3 := cell_then b3 e3
        replace e4 := cell_then b3 e4
        replace e5 := cell_then b3 e5
        have B3 := below_next B2 b3
        go_wp2_with fail
        go_ret
        exact ⟨ret_bool HN.out.symm, B3⟩
      | true =>
        cases h4 : isInB z 0 1000 with
        | false =>
          have hn : nearB ax ay bx b_y px py z = false := by simp [nearB, h4]
          have HN := Lib.hid hn
          clear hn
          go_enter Try.func37, Try.ntmps37
          go_wp2_with fail
          refine (place_any _ _ _).mono ?_
          rintro e w1 ⟨rfl, b1⟩
          rw [h1]
          have e0 := cell_then b1 (a := ⟨w.heap.size, 0, none⟩) (v := .int .i64 ax) (by simp [go_sem])
          have e1 := cell_then b1 (a := ⟨w.heap.size, 1, none⟩) (v := .int .i64 ay) (by simp [go_sem])
          have e2 := cell_then b1 (a := ⟨w.heap.size + 1, 0, none⟩) (v := .int .i64 bx) (by simp [go_sem])
          have e3 := cell_then b1 (a := ⟨w.heap.size + 1, 1, none⟩) (v := .int .i64 b_y) (by simp [go_sem])
          have e4 := cell_then b1 (a := ⟨w.heap.size + 1 + 1, 0, none⟩) (v := .int .i64 px) (by simp [go_sem])
          have e5 := cell_then b1 (a := ⟨w.heap.size + 1 + 1, 1, none⟩) (v := .int .i64 py) (by simp [go_sem])
          have B1 := below_next B0 b1
          go_wp2_with fail
          refine (place_any _ _ _).mono ?_
          rintro e w2 ⟨rfl, b2⟩
          rw [h2]
          replace e0 := cell_then b2 e0
          replace e1 := cell_then b2 e1
          replace e2 := cell_then b2 e2
          replace e3 := cell_then b2 e3
          replace e4 := cell_then b2 e4
          replace e5 := cell_then b2 e5
          have B2 := below_next B1 b2
          go_wp2_with fail
          refine (place_any _ _ _).mono ?_
          rintro e w3 ⟨rfl, b3⟩
          rw [h3]
          replace e0 := cell_then b3 e0
          replace e1 := cell_then b3 e1
          replace e2 := cell_then b3 e2
          replace e3 := cell_then b3 e3
          replace e4 := cell_then b3 e4
          replace e5 := cell_then b3 e5
          have B3 := below_next B2 b3
          go_wp2_with fail
          refine (isIn_any _ _ _ _).mono ?_
          rintro e w5 ⟨rfl, rfl⟩
          rw [h4]
          go_wp2_with fail
          go_ret
          exact ⟨ret_bool HN.out.symm, B3⟩
        | true =>
          have hn : nearB ax ay bx b_y px py z = nearI ax ay bx b_y px py z := by simp [nearB, h1, h2, h3, h4]
          have HN := Lib.hid hn
          have hz := isInB_iff.1 h4
          clear hn
          go_enter Try.func37, Try.ntmps37
          go_wp2_with fail
          refine (place_any _ _ _).mono ?_
          rintro e w1 ⟨rfl, b1⟩
          rw [h1]
          have e0 := cell_then b1 (a := ⟨w.heap.size, 0, none⟩) (v := .int .i64 ax) (by simp [go_sem])
          have e1 := cell_then b1 (a := ⟨w.heap.size, 1, none⟩) (v := .int .i64 ay) (by simp [go_sem])
          have e2 := cell_then b1 (a := ⟨w.heap.size + 1, 0, none⟩) (v := .int .i64 bx) (by simp [go_sem])
          have e3 := cell_then b1 (a := ⟨w.heap.size + 1, 1, none⟩) (v := .int .i64 b_y) (by simp [go_sem])
          have e4 := cell_then b1 (a := ⟨w.heap.size + 1 + 1, 0, none⟩) (v := .int .i64 px) (by simp [go_sem])
          have e5 := cell_then b1 (a := ⟨w.heap.size + 1 + 1, 1, none⟩) (v := .int .i64 py) (by simp [go_sem])
          have B1 := below_next B0 b1
          go_wp2_with fail
          refine (place_any _ _ _).mono ?_
          rintro e w2 ⟨rfl, b2⟩
          rw [h2]
          replace e0 := cell_then b2 e0
          replace e1 := cell_then b2 e1
          replace e2 := cell_then b2 e2
          replace e3 := cell_then b2 e3
          replace e4 := cell_then b2 e4
          replace e5 := cell_then b2 e5
          have B2 := below_next B1 b2
          go_wp2_with fail
          refine (place_any _ _ _).mono ?_
          rintro e w3 ⟨rfl, b3⟩
          rw [h3]
          replace e0 := cell_then b3 e0
          replace e1 := cell_then b3 e1
          replace e2 := cell_then b3 e2
          replace e3 := cell_then b3 e3
          replace e4 := cell_then b3 e4
          replace e5 := cell_then b3 e5
          have B3 := below_next B2 b3
          go_wp2_with fail
          refine (isIn_any _ _ _ _).mono ?_
          rintro e w5 ⟨rfl, rfl⟩
          rw [h4]
          go_wp2_with fail
          refine (near_any _ _ _ _ _ _ _ _ h1 h2 h3 hz.1 hz.2).mono ?_
          rintro e w6 ⟨rfl, b6⟩
          go_wp2_with fail
          go_ret
          exact ⟨ret_bool HN.out.symm, below_next B3 b6⟩
end Go.Proofs.Ytgmabepdhbnppaa
