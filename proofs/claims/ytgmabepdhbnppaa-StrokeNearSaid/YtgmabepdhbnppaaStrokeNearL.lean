/- The walk of the law StrokeNear. -/
import Derived.Test.YtgmabepdhbnppaaStrokeSane
import Derived.Test.YtgmabepdhbnppaaStrokeNear
import Derived.Test.YtgmabepdhbnppaaHead
import Derived.Test.YtgmabepdhbnppaaOneWay
namespace Go.Proofs.Ytgmabepdhbnppaa
open Go.RowKit Str
theorem place_pick (a b : Int) : placeB (pickI a 4096) (pickI b 4096) = true := by
  have h1 := pickI_bd a (n := 4096) (by omega)
  have h2 := pickI_bd b (n := 4096) (by omega)
  exact placeB_iff.2 ⟨by omega, by omega⟩
theorem nearB_in {ax ay bx b_y px py z : Int} (h1 : placeB ax ay = true) (h2 : placeB bx b_y = true) (h3 : placeB px py = true) (h4 : 0 ≤ z) (h5 : z ≤ 1000) : nearB ax ay bx b_y px py z = nearI ax ay bx b_y px py z := by
  simp [nearB, h1, h2, h3, isInB_iff.2 ⟨h4, h5⟩]
set_option maxRecDepth 100000 in
set_option maxHeartbeats 8000000 in
theorem near_walk (n : Bool) (xa xb xc xd xp xq tol more a b c d p q z y : Int) (w : World) (ia : I64 xa) (ib : I64 xb) (ic : I64 xc) (id : I64 xd) (ip : I64 xp) (iq : I64 xq) (it : I64 tol) (im : I64 more)
    (ha : pickI xa 4096 = a) (hb : pickI xb 4096 = b) (hc : pickI xc 4096 = c) (hd : pickI xd 4096 = d) (hp : pickI xp 4096 = p) (hq : pickI xq 4096 = q) (hz : pickI tol 1001 = z) (hy : z + pickI more (1001 - z) = y)
    (hn : nearB a b c d p q z = n) (hn2 : nearB c d a b p q z = n) (hn3 : n = true → nearB a b c d p q y = true) (hn4 : nearB a b c d a b z = true) (hn5 : nearB a b c d c d z = true)
    (hin : n = true → minI a c - z ≤ p ∧ p ≤ maxI a c + z ∧ minI b d - z ≤ q ∧ q ≤ maxI b d + z) (hlev : minI a c ≤ p → p ≤ maxI a c → nearB a b c b p q z = decide (maxI (q - b) (b - q) ≤ z)) :
    Calls Try.prog 8 #[.agg #[.int .i64 xa, .int .i64 xb, .int .i64 xc, .int .i64 xd, .int .i64 xp, .int .i64 xq], .int .i64 tol, .int .i64 more] w fun e w' => e = .returned (.bool true) ∧ Below w.heap.size w w' := by
  have ba := pickI_bd xa (n := 4096) (by omega)
  rw [ha] at ba
  have Ha := Lib.hid ha
  clear ha
  have bb := pickI_bd xb (n := 4096) (by omega)
  rw [hb] at bb
  have Hb := Lib.hid hb
  clear hb
  have bc := pickI_bd xc (n := 4096) (by omega)
  rw [hc] at bc
  have Hc := Lib.hid hc
  clear hc
  have bd := pickI_bd xd (n := 4096) (by omega)
  rw [hd] at bd
  have Hd := Lib.hid hd
  clear hd
  have bp := pickI_bd xp (n := 4096) (by omega)
  rw [hp] at bp
  have Hp := Lib.hid hp
  clear hp
  have bq := pickI_bd xq (n := 4096) (by omega)
  rw [hq] at bq
  have Hq := Lib.hid hq
  clear hq
  have bz := pickI_bd tol (n := 1001) (by omega)
  rw [hz] at bz
  have by_ := pickI_bd more (n := 1001 - z) (by omega)
  have Hz := Lib.hid hz
  have Hy := Lib.hid hy
  clear hz
  have by2 : 0 ≤ y ∧ y ≤ 1000 := by omega
  clear hy
  have HN := Lib.hid hn
  clear hn
  have HN2 := Lib.hid hn2
  clear hn2
  have HN3 := Lib.hid hn3
  clear hn3
  have HN4 := Lib.hid hn4
  clear hn4
  have HN5 := Lib.hid hn5
  clear hn5
  go_enter Try.func8, Try.ntmps8
  go_wp2_with fail
  have hB := Below.refl w.heap.size w
  have hA : Below w.heap.size w (w.alloc (.cells #[.int .i64 xa, .int .i64 xb, .int .i64 xc, .int .i64 xd, .int .i64 xp, .int .i64 xq] 67)) := below_alloc (Below.refl _ _) _
  replace hB := below_next hB hA
  have x0 : (w.alloc (.cells #[.int .i64 xa, .int .i64 xb, .int .i64 xc, .int .i64 xd, .int .i64 xp, .int .i64 xq] 67)).cell? ⟨w.heap.size, 0, none⟩ = some (.int .i64 xa) := new_cell rfl
  have x1 : (w.alloc (.cells #[.int .i64 xa, .int .i64 xb, .int .i64 xc, .int .i64 xd, .int .i64 xp, .int .i64 xq] 67)).cell? ⟨w.heap.size, 1, none⟩ = some (.int .i64 xb) := new_cell rfl
  have x2 : (w.alloc (.cells #[.int .i64 xa, .int .i64 xb, .int .i64 xc, .int .i64 xd, .int .i64 xp, .int .i64 xq] 67)).cell? ⟨w.heap.size, 2, none⟩ = some (.int .i64 xc) := new_cell rfl
  have x3 : (w.alloc (.cells #[.int .i64 xa, .int .i64 xb, .int .i64 xc, .int .i64 xd, .int .i64 xp, .int .i64 xq] 67)).cell? ⟨w.heap.size, 3, none⟩ = some (.int .i64 xd) := new_cell rfl
  have x4 : (w.alloc (.cells #[.int .i64 xa, .int .i64 xb, .int .i64 xc, .int .i64 xd, .int .i64 xp, .int .i64 xq] 67)).cell? ⟨w.heap.size, 4, none⟩ = some (.int .i64 xp) := new_cell rfl
  have x5 : (w.alloc (.cells #[.int .i64 xa, .int .i64 xb, .int .i64 xc, .int .i64 xd, .int .i64 xp, .int .i64 xq] 67)).cell? ⟨w.heap.size, 5, none⟩ = some (.int .i64 xq) := new_cell rfl
  obtain ⟨v_1, hv_1⟩ : ∃ vv_ : World, (w.alloc (.cells #[.int .i64 xa, .int .i64 xb, .int .i64 xc, .int .i64 xd, .int .i64 xp, .int .i64 xq] 67)) = vv_ := ⟨_, rfl⟩
  rw [hv_1] at hB x0 x1 x2 x3 x4 x5 ⊢
  clear hA hv_1
  refine (sane_any _).mono ?_
  rintro e w_2 ⟨rfl, bq⟩
  replace hB := below_next hB bq
  replace x0 := cell_then bq x0
  replace x1 := cell_then bq x1
  replace x2 := cell_then bq x2
  replace x3 := cell_then bq x3
  replace x4 := cell_then bq x4
  replace x5 := cell_then bq x5
  clear bq
  have lx0 := lt_size x0
  go_wp2_with fail
  clear lx0
  have lx0 := lt_size x0
  apply wp_same
  case hreg =>
    go_region_held3 (fun w' => Below w_2.heap.size w_2 w' ∧ w'.cell? ⟨w.heap.size, 0, none⟩ = some (.int .i64 xa) ∧ w'.cell? ⟨w.heap.size, 1, none⟩ = some (.int .i64 xb)) ((suffices hB : Below w_2.heap.size w_2 _ from ⟨hB, cell_then hB ‹_›, cell_then hB ‹_›⟩; repeat (first | with_reducible exact Below.refl _ _ | with_reducible refine below_alloc ?_ _ | with_reducible refine Below.setCell ?_ (by dsimp only; omega) _ | with_reducible refine Below.drew ?_ | with_reducible refine below_next ?_ ‹Below _ _ _›))) (first | (go_at_call 12; refine (pickL_any _ _ _ (by assumption) (by omega) (by omega)).mono ?_; rintro e w' ⟨rfl, rfl⟩))
    all_goals exact EndsIn.mk
  case hcont =>
    clear lx0
    have lx0 := lt_size x0
    go_wp2_with fail
    rw [Ha.out, Hb.out]
    have hA : Below w_2.heap.size w_2 (w_2.alloc (.cells #[.int .i64 a, .int .i64 b] 29)).drew := (below_alloc (Below.refl _ _) _).drew
    clear lx0
    replace hB := below_next hB hA
    replace x0 := cell_then hA x0
    replace x1 := cell_then hA x1
    replace x2 := cell_then hA x2
    replace x3 := cell_then hA x3
    replace x4 := cell_then hA x4
    replace x5 := cell_then hA x5
    have A0 : (w_2.alloc (.cells #[.int .i64 a, .int .i64 b] 29)).drew.cell? ⟨w_2.heap.size, 0, none⟩ = some (.int .i64 a) := drew_cell (new_cell rfl)
    have A1 : (w_2.alloc (.cells #[.int .i64 a, .int .i64 b] 29)).drew.cell? ⟨w_2.heap.size, 1, none⟩ = some (.int .i64 b) := drew_cell (new_cell rfl)
    obtain ⟨v_3, hv_3⟩ : ∃ vv_ : World, (w_2.alloc (.cells #[.int .i64 a, .int .i64 b] 29)).drew = vv_ := ⟨_, rfl⟩
    rw [hv_3] at hB x0 x1 x2 x3 x4 x5 A0 A1 ⊢
    clear hA hv_3
    have lx0 := lt_size x0
    have lA0 := lt_size A0
    apply wp_same
    case hreg =>
      go_region_held3 (fun w' => Below v_3.heap.size v_3 w' ∧ w'.cell? ⟨w.heap.size, 2, none⟩ = some (.int .i64 xc) ∧ w'.cell? ⟨w.heap.size, 3, none⟩ = some (.int .i64 xd)) ((suffices hB : Below v_3.heap.size v_3 _ from ⟨hB, cell_then hB ‹_›, cell_then hB ‹_›⟩; repeat (first | with_reducible exact Below.refl _ _ | with_reducible refine below_alloc ?_ _ | with_reducible refine Below.setCell ?_ (by dsimp only; omega) _ | with_reducible refine Below.drew ?_ | with_reducible refine below_next ?_ ‹Below _ _ _›))) (first | (go_at_call 12; refine (pickL_any _ _ _ (by assumption) (by omega) (by omega)).mono ?_; rintro e w' ⟨rfl, rfl⟩))
      all_goals exact EndsIn.mk
    case hcont =>
      clear lx0 lA0
      have lx0 := lt_size x0
      have lA0 := lt_size A0
      go_wp2_with fail
      rw [Hc.out, Hd.out]
      have hA : Below v_3.heap.size v_3 (v_3.alloc (.cells #[.int .i64 c, .int .i64 d] 29)).drew := (below_alloc (Below.refl _ _) _).drew
      clear lx0 lA0
      replace hB := below_next hB hA
      replace x0 := cell_then hA x0
      replace x1 := cell_then hA x1
      replace x2 := cell_then hA x2
      replace x3 := cell_then hA x3
      replace x4 := cell_then hA x4
      replace x5 := cell_then hA x5
      replace A0 := cell_then hA A0
      replace A1 := cell_then hA A1
      have B0 : (v_3.alloc (.cells #[.int .i64 c, .int .i64 d] 29)).drew.cell? ⟨v_3.heap.size, 0, none⟩ = some (.int .i64 c) := drew_cell (new_cell rfl)
      have B1 : (v_3.alloc (.cells #[.int .i64 c, .int .i64 d] 29)).drew.cell? ⟨v_3.heap.size, 1, none⟩ = some (.int .i64 d) := drew_cell (new_cell rfl)
      obtain ⟨v_4, hv_4⟩ : ∃ vv_ : World, (v_3.alloc (.cells #[.int .i64 c, .int .i64 d] 29)).drew = vv_ := ⟨_, rfl⟩
      rw [hv_4] at hB x0 x1 x2 x3 x4 x5 A0 A1 B0 B1 ⊢
      clear hA hv_4
      have lx0 := lt_size x0
      have lA0 := lt_size A0
      have lB0 := lt_size B0
      apply wp_same
      case hreg =>
        go_region_held3 (fun w' => Below v_4.heap.size v_4 w' ∧ w'.cell? ⟨w.heap.size, 4, none⟩ = some (.int .i64 xp) ∧ w'.cell? ⟨w.heap.size, 5, none⟩ = some (.int .i64 xq)) ((suffices hB : Below v_4.heap.size v_4 _ from ⟨hB, cell_then hB ‹_›, cell_then hB ‹_›⟩; repeat (first | with_reducible exact Below.refl _ _ | with_reducible refine below_alloc ?_ _ | with_reducible refine Below.setCell ?_ (by dsimp only; omega) _ | with_reducible refine Below.drew ?_ | with_reducible refine below_next ?_ ‹Below _ _ _›))) (first | (go_at_call 12; refine (pickL_any _ _ _ (by assumption) (by omega) (by omega)).mono ?_; rintro e w' ⟨rfl, rfl⟩))
        all_goals exact EndsIn.mk
      case hcont =>
        clear lx0 lA0 lB0
        have lx0 := lt_size x0
        have lA0 := lt_size A0
        have lB0 := lt_size B0
        go_wp2_with fail
        rw [Hp.out, Hq.out]
        have hA : Below v_4.heap.size v_4 (v_4.alloc (.cells #[.int .i64 p, .int .i64 q] 29)).drew := (below_alloc (Below.refl _ _) _).drew
        clear lx0 lA0 lB0
        replace hB := below_next hB hA
        replace x0 := cell_then hA x0
        replace x1 := cell_then hA x1
        replace x2 := cell_then hA x2
        replace x3 := cell_then hA x3
        replace x4 := cell_then hA x4
        replace x5 := cell_then hA x5
        replace A0 := cell_then hA A0
        replace A1 := cell_then hA A1
        replace B0 := cell_then hA B0
        replace B1 := cell_then hA B1
        have P0 : (v_4.alloc (.cells #[.int .i64 p, .int .i64 q] 29)).drew.cell? ⟨v_4.heap.size, 0, none⟩ = some (.int .i64 p) := drew_cell (new_cell rfl)
        have P1 : (v_4.alloc (.cells #[.int .i64 p, .int .i64 q] 29)).drew.cell? ⟨v_4.heap.size, 1, none⟩ = some (.int .i64 q) := drew_cell (new_cell rfl)
        obtain ⟨v_5, hv_5⟩ : ∃ vv_ : World, (v_4.alloc (.cells #[.int .i64 p, .int .i64 q] 29)).drew = vv_ := ⟨_, rfl⟩
        rw [hv_5] at hB x0 x1 x2 x3 x4 x5 A0 A1 B0 B1 P0 P1 ⊢
        clear hA hv_5
        have lx0 := lt_size x0
        have lA0 := lt_size A0
        have lB0 := lt_size B0
        have lP0 := lt_size P0
        go_wp2_with fail
        refine (pickL_any _ _ _ it (by omega) (by omega)).mono ?_
        rintro e w_6 ⟨rfl, rfl⟩
        rw [Hz.out]
        clear lx0 lA0 lB0 lP0
        have lx0 := lt_size x0
        have lA0 := lt_size A0
        have lB0 := lt_size B0
        have lP0 := lt_size P0
        go_wp2_with fail
        refine (pickL_any _ _ _ im (by omega) (by omega)).mono ?_
        rintro e w_7 ⟨rfl, rfl⟩
        clear lx0 lA0 lB0 lP0
        have lx0 := lt_size x0
        have lA0 := lt_size A0
        have lB0 := lt_size B0
        have lP0 := lt_size P0
        go_wp2_with fail
        rw [Hy.out]
        clear by_
        refine (nearB_any a b c d p q z _).mono ?_
        rintro e w_8 ⟨rfl, bq⟩
        clear lx0 lA0 lB0 lP0
        replace hB := below_next hB bq
        replace x0 := cell_then bq x0
        replace x1 := cell_then bq x1
        replace x2 := cell_then bq x2
        replace x3 := cell_then bq x3
        replace x4 := cell_then bq x4
        replace x5 := cell_then bq x5
        replace A0 := cell_then bq A0
        replace A1 := cell_then bq A1
        replace B0 := cell_then bq B0
        replace B1 := cell_then bq B1
        replace P0 := cell_then bq P0
        replace P1 := cell_then bq P1
        clear bq
        rw [HN.out]
        have lx0 := lt_size x0
        have lA0 := lt_size A0
        have lB0 := lt_size B0
        have lP0 := lt_size P0
        go_wp2_with fail
        refine (nearB_any c d a b p q z _).mono ?_
        rintro e w_9 ⟨rfl, bq⟩
        clear lx0 lA0 lB0 lP0
        replace hB := below_next hB bq
        replace x0 := cell_then bq x0
        replace x1 := cell_then bq x1
        replace x2 := cell_then bq x2
        replace x3 := cell_then bq x3
        replace x4 := cell_then bq x4
        replace x5 := cell_then bq x5
        replace A0 := cell_then bq A0
        replace A1 := cell_then bq A1
        replace B0 := cell_then bq B0
        replace B1 := cell_then bq B1
        replace P0 := cell_then bq P0
        replace P1 := cell_then bq P1
        clear bq
        rw [HN2.out]
        have HL := Lib.hid hlev
        have HI := Lib.hid hin
        clear hlev hin
        obtain ⟨M1, hM1⟩ : ∃ M, minI a c = M := ⟨_, rfl⟩
        obtain ⟨N1, hN1⟩ : ∃ M, maxI a c = M := ⟨_, rfl⟩
        obtain ⟨M2, hM2⟩ : ∃ M, minI b d = M := ⟨_, rfl⟩
        obtain ⟨N2, hN2⟩ : ∃ M, maxI b d = M := ⟨_, rfl⟩
        obtain ⟨MX, hMX⟩ : ∃ M, maxI (q - b) (b - q) = M := ⟨_, rfl⟩
        have hi := HI.out
        have hl := HL.out
        rw [hM1, hN1] at hi hl
        rw [hM2, hN2] at hi
        rw [hMX] at hl
        clear HI HL
        have HI := Lib.hid hi
        have HL := Lib.hid hl
        clear hi hl
        have bM1 : 0 ≤ M1 ∧ M1 ≤ 4095 := by rw [← hM1]; unfold minI; split <;> omega
        have bN1 : 0 ≤ N1 ∧ N1 ≤ 4095 := by rw [← hN1]; unfold maxI; split <;> omega
        have bM2 : 0 ≤ M2 ∧ M2 ≤ 4095 := by rw [← hM2]; unfold minI; split <;> omega
        have bN2 : 0 ≤ N2 ∧ N2 ≤ 4095 := by rw [← hN2]; unfold maxI; split <;> omega
        unfold minI at hM1 hM2
        unfold maxI at hN1 hN2 hMX
        cases n with
        | false =>
          have lx0 := lt_size x0
          have lA0 := lt_size A0
          have lB0 := lt_size B0
          have lP0 := lt_size P0
          go_wp2_with fail
          refine (nearB_any a b c d a b z _).mono ?_
          rintro e w_10 ⟨rfl, bq⟩
          clear lx0 lA0 lB0 lP0
          replace hB := below_next hB bq
          replace x0 := cell_then bq x0
          replace x1 := cell_then bq x1
          replace x2 := cell_then bq x2
          replace x3 := cell_then bq x3
          replace x4 := cell_then bq x4
          replace x5 := cell_then bq x5
          replace A0 := cell_then bq A0
          replace A1 := cell_then bq A1
          replace B0 := cell_then bq B0
          replace B1 := cell_then bq B1
          replace P0 := cell_then bq P0
          replace P1 := cell_then bq P1
          clear bq
          rw [HN4.out]
          have lx0 := lt_size x0
          have lA0 := lt_size A0
          have lB0 := lt_size B0
          have lP0 := lt_size P0
          go_wp2_with fail
          refine (nearB_any a b c d c d z _).mono ?_
          rintro e w_11 ⟨rfl, bq⟩
          clear lx0 lA0 lB0 lP0
          replace hB := below_next hB bq
          replace x0 := cell_then bq x0
          replace x1 := cell_then bq x1
          replace x2 := cell_then bq x2
          replace x3 := cell_then bq x3
          replace x4 := cell_then bq x4
          replace x5 := cell_then bq x5
          replace A0 := cell_then bq A0
          replace A1 := cell_then bq A1
          replace B0 := cell_then bq B0
          replace B1 := cell_then bq B1
          replace P0 := cell_then bq P0
          replace P1 := cell_then bq P1
          clear bq
          rw [HN5.out]
          have IN := HI.out
          clear HI
          clear IN
          have lx0 := lt_size x0
          have lA0 := lt_size A0
          have lB0 := lt_size B0
          have lP0 := lt_size P0
          go_upto_region 12 with fail
          go_cut [14] (fun s wx => ∃ B : Bool, s = .bool B ∧ (false = true → B = true) ∧ wx = w_11)
          case first =>
            go_wp2_with fail
            all_goals (go_meet; refine ⟨_, rfl, fun _ => ?_, rfl⟩; first | trivial | rfl | contradiction)
          case rest =>
            obtain ⟨B, rfl, hBB, rfl⟩ := hcut
            obtain ⟨v_12, rfl⟩ : ∃ v : World, v = wc := ⟨_, rfl⟩
            clear hBB
            clear lx0 lA0 lB0 lP0
            have lx0 := lt_size x0
            have lA0 := lt_size A0
            have lB0 := lt_size B0
            have lP0 := lt_size P0
            go_upto_region 14 with fail
            have hA : Below v_12.heap.size v_12 (v_12.alloc (.cells #[.int .i64 c, .int .i64 b] 29)) := below_alloc (Below.refl _ _) _
            clear lx0 lA0 lB0 lP0
            replace hB := below_next hB hA
            replace x0 := cell_then hA x0
            replace x1 := cell_then hA x1
            replace x2 := cell_then hA x2
            replace x3 := cell_then hA x3
            replace x4 := cell_then hA x4
            replace x5 := cell_then hA x5
            replace A0 := cell_then hA A0
            replace A1 := cell_then hA A1
            replace B0 := cell_then hA B0
            replace B1 := cell_then hA B1
            replace P0 := cell_then hA P0
            replace P1 := cell_then hA P1
            have L0 : (v_12.alloc (.cells #[.int .i64 c, .int .i64 b] 29)).cell? ⟨v_12.heap.size, 0, none⟩ = some (.int .i64 c) := new_cell rfl
            have L1 : (v_12.alloc (.cells #[.int .i64 c, .int .i64 b] 29)).cell? ⟨v_12.heap.size, 1, none⟩ = some (.int .i64 b) := new_cell rfl
            obtain ⟨v_13, hv_13⟩ : ∃ vv_ : World, (v_12.alloc (.cells #[.int .i64 c, .int .i64 b] 29)) = vv_ := ⟨_, rfl⟩
            rw [hv_13] at hB x0 x1 x2 x3 x4 x5 A0 A1 B0 B1 P0 P1 L0 L1 ⊢
            clear hA hv_13
            have lx0 := lt_size x0
            have lA0 := lt_size A0
            have lB0 := lt_size B0
            have lP0 := lt_size P0
            have lL0 := lt_size L0
            go_cut [16] (fun s wx => ∃ B : Bool, s = .bool B ∧ (B = true → M1 ≤ p ∧ p ≤ N1) ∧ wx = v_13)
            case first =>
              go_wp2_with fail
              all_goals (go_meet; refine ⟨_, rfl, ?_, rfl⟩; first | trivial | exact fun _ => ⟨by assumption, by assumption⟩ | (intro h; first | contradiction | omega | (simp at h; omega)))
            case rest =>
              obtain ⟨B2, rfl, hB2, rfl⟩ := hcut
              obtain ⟨v_14, rfl⟩ : ∃ v : World, v = wc := ⟨_, rfl⟩
              clear hM1 hN1 hM2 hN2
              clear lx0 lA0 lB0 lP0 lL0
              have lx0 := lt_size x0
              have lA0 := lt_size A0
              have lB0 := lt_size B0
              have lP0 := lt_size P0
              have lL0 := lt_size L0
              cases B2 with
              | false =>
                clear hB2
                clear lx0 lA0 lB0 lP0 lL0
                have lx0 := lt_size x0
                have lA0 := lt_size A0
                have lB0 := lt_size B0
                have lP0 := lt_size P0
                have lL0 := lt_size L0
                go_wp2_with fail
                clear lx0 lA0 lB0 lP0 lL0
                have lx0 := lt_size x0
                have lA0 := lt_size A0
                have lB0 := lt_size B0
                have lP0 := lt_size P0
                have lL0 := lt_size L0
                refine wp_region_quiet_below (by kernel_rfl) (by kernel_rfl) ?_
                repeat (go_big_quiet_step (fail))
                refine wpQuiet_nil ?_
                intro wq_15 hq0
                have hq_16 := below_of_class hq0
                clear hq0
                clear lx0 lA0 lB0 lP0 lL0
                replace hB := below_next hB hq_16
                replace x0 := cell_then hq_16 x0
                replace x1 := cell_then hq_16 x1
                replace x2 := cell_then hq_16 x2
                replace x3 := cell_then hq_16 x3
                replace x4 := cell_then hq_16 x4
                replace x5 := cell_then hq_16 x5
                replace A0 := cell_then hq_16 A0
                replace A1 := cell_then hq_16 A1
                replace B0 := cell_then hq_16 B0
                replace B1 := cell_then hq_16 B1
                replace P0 := cell_then hq_16 P0
                replace P1 := cell_then hq_16 P1
                replace L0 := cell_then hq_16 L0
                replace L1 := cell_then hq_16 L1
                clear hq_16
                have lx0 := lt_size x0
                have lA0 := lt_size A0
                have lB0 := lt_size B0
                have lP0 := lt_size P0
                have lL0 := lt_size L0
                go_wp2_with fail
                go_ret
                exact ⟨rfl, hB⟩
              | true =>
                have hb2 := hB2 rfl
                have hlv := HL.out hb2.1 hb2.2
                clear hB2 hb2 HL
                by_cases hmz : MX ≤ z
                · rw [decide_eq_true hmz] at hlv
                  have HV := Lib.hid hlv
                  clear hlv
                  have hw1 : IntKind.i64.wrap (q - b) = q - b := IntWalk.i64_in _ (by omega)
                  have hw2 : IntKind.i64.wrap (b - q) = b - q := IntWalk.i64_in _ (by omega)
                  clear lx0 lA0 lB0 lP0 lL0
                  have lx0 := lt_size x0
                  have lA0 := lt_size A0
                  have lB0 := lt_size B0
                  have lP0 := lt_size P0
                  have lL0 := lt_size L0
                  go_wp2_with fail
                  clear lx0 lA0 lB0 lP0 lL0
                  have g_A0 := fun D os => cell_regrown A0 D os
                  have g_A1 := fun D os => cell_regrown A1 D os
                  have g_L0 := fun D os => cell_regrown L0 D os
                  have g_L1 := fun D os => cell_regrown L1 D os
                  have g_P0 := fun D os => cell_regrown P0 D os
                  have g_P1 := fun D os => cell_regrown P1 D os
                  have lx0 := lt_size x0
                  have lA0 := lt_size A0
                  have lB0 := lt_size B0
                  have lP0 := lt_size P0
                  have lL0 := lt_size L0
                  refine wp_region_quiet_below (by kernel_rfl) (by kernel_rfl) ?_
                  repeat (go_big_quiet_step (exact Calls.regrown_of ((nearB_any a b c b p q z _).mono fun e w' h => ⟨h.1.trans (by rw [HV.out]), h.2⟩)))
                  refine wpQuiet_nil ?_
                  intro wq_15 hq0
                  have hq_16 := below_of_class hq0
                  clear hq0
                  clear g_A0 g_A1 g_L0 g_L1 g_P0 g_P1
                  clear lx0 lA0 lB0 lP0 lL0
                  replace hB := below_next hB hq_16
                  replace x0 := cell_then hq_16 x0
                  replace x1 := cell_then hq_16 x1
                  replace x2 := cell_then hq_16 x2
                  replace x3 := cell_then hq_16 x3
                  replace x4 := cell_then hq_16 x4
                  replace x5 := cell_then hq_16 x5
                  replace A0 := cell_then hq_16 A0
                  replace A1 := cell_then hq_16 A1
                  replace B0 := cell_then hq_16 B0
                  replace B1 := cell_then hq_16 B1
                  replace P0 := cell_then hq_16 P0
                  replace P1 := cell_then hq_16 P1
                  replace L0 := cell_then hq_16 L0
                  replace L1 := cell_then hq_16 L1
                  clear hq_16
                  clear hw1 hw2 hMX
                  have lx0 := lt_size x0
                  have lA0 := lt_size A0
                  have lB0 := lt_size B0
                  have lP0 := lt_size P0
                  have lL0 := lt_size L0
                  go_wp2_with fail
                  go_ret
                  exact ⟨rfl, hB⟩
                · rw [decide_eq_false hmz] at hlv
                  have HV := Lib.hid hlv
                  clear hlv
                  replace hmz : z < MX := by omega
                  have hw1 : IntKind.i64.wrap (q - b) = q - b := IntWalk.i64_in _ (by omega)
                  have hw2 : IntKind.i64.wrap (b - q) = b - q := IntWalk.i64_in _ (by omega)
                  clear lx0 lA0 lB0 lP0 lL0
                  have lx0 := lt_size x0
                  have lA0 := lt_size A0
                  have lB0 := lt_size B0
                  have lP0 := lt_size P0
                  have lL0 := lt_size L0
                  go_wp2_with fail
                  clear lx0 lA0 lB0 lP0 lL0
                  have g_A0 := fun D os => cell_regrown A0 D os
                  have g_A1 := fun D os => cell_regrown A1 D os
                  have g_L0 := fun D os => cell_regrown L0 D os
                  have g_L1 := fun D os => cell_regrown L1 D os
                  have g_P0 := fun D os => cell_regrown P0 D os
                  have g_P1 := fun D os => cell_regrown P1 D os
                  have lx0 := lt_size x0
                  have lA0 := lt_size A0
                  have lB0 := lt_size B0
                  have lP0 := lt_size P0
                  have lL0 := lt_size L0
                  refine wp_region_quiet_below (by kernel_rfl) (by kernel_rfl) ?_
                  repeat (go_big_quiet_step (exact Calls.regrown_of ((nearB_any a b c b p q z _).mono fun e w' h => ⟨h.1.trans (by rw [HV.out]), h.2⟩)))
                  refine wpQuiet_nil ?_
                  intro wq_15 hq0
                  have hq_16 := below_of_class hq0
                  clear hq0
                  clear g_A0 g_A1 g_L0 g_L1 g_P0 g_P1
                  clear lx0 lA0 lB0 lP0 lL0
                  replace hB := below_next hB hq_16
                  replace x0 := cell_then hq_16 x0
                  replace x1 := cell_then hq_16 x1
                  replace x2 := cell_then hq_16 x2
                  replace x3 := cell_then hq_16 x3
                  replace x4 := cell_then hq_16 x4
                  replace x5 := cell_then hq_16 x5
                  replace A0 := cell_then hq_16 A0
                  replace A1 := cell_then hq_16 A1
                  replace B0 := cell_then hq_16 B0
                  replace B1 := cell_then hq_16 B1
                  replace P0 := cell_then hq_16 P0
                  replace P1 := cell_then hq_16 P1
                  replace L0 := cell_then hq_16 L0
                  replace L1 := cell_then hq_16 L1
                  clear hq_16
                  clear hw1 hw2 hMX
                  have lx0 := lt_size x0
                  have lA0 := lt_size A0
                  have lB0 := lt_size B0
                  have lP0 := lt_size P0
                  have lL0 := lt_size L0
                  go_wp2_with fail
                  go_ret
                  exact ⟨ret_bool (a := !decide (MX ≤ z)) (by simp; omega), hB⟩
        | true =>
          have lx0 := lt_size x0
          have lA0 := lt_size A0
          have lB0 := lt_size B0
          have lP0 := lt_size P0
          go_wp2_with fail
          refine (nearB_any a b c d p q y _).mono ?_
          rintro e w_10 ⟨rfl, bq⟩
          clear lx0 lA0 lB0 lP0
          replace hB := below_next hB bq
          replace x0 := cell_then bq x0
          replace x1 := cell_then bq x1
          replace x2 := cell_then bq x2
          replace x3 := cell_then bq x3
          replace x4 := cell_then bq x4
          replace x5 := cell_then bq x5
          replace A0 := cell_then bq A0
          replace A1 := cell_then bq A1
          replace B0 := cell_then bq B0
          replace B1 := cell_then bq B1
          replace P0 := cell_then bq P0
          replace P1 := cell_then bq P1
          clear bq
          rw [HN3.out (by first | rfl | trivial)]
          have lx0 := lt_size x0
          have lA0 := lt_size A0
          have lB0 := lt_size B0
          have lP0 := lt_size P0
          go_wp2_with fail
          refine (nearB_any a b c d a b z _).mono ?_
          rintro e w_11 ⟨rfl, bq⟩
          clear lx0 lA0 lB0 lP0
          replace hB := below_next hB bq
          replace x0 := cell_then bq x0
          replace x1 := cell_then bq x1
          replace x2 := cell_then bq x2
          replace x3 := cell_then bq x3
          replace x4 := cell_then bq x4
          replace x5 := cell_then bq x5
          replace A0 := cell_then bq A0
          replace A1 := cell_then bq A1
          replace B0 := cell_then bq B0
          replace B1 := cell_then bq B1
          replace P0 := cell_then bq P0
          replace P1 := cell_then bq P1
          clear bq
          rw [HN4.out]
          have lx0 := lt_size x0
          have lA0 := lt_size A0
          have lB0 := lt_size B0
          have lP0 := lt_size P0
          go_wp2_with fail
          refine (nearB_any a b c d c d z _).mono ?_
          rintro e w_12 ⟨rfl, bq⟩
          clear lx0 lA0 lB0 lP0
          replace hB := below_next hB bq
          replace x0 := cell_then bq x0
          replace x1 := cell_then bq x1
          replace x2 := cell_then bq x2
          replace x3 := cell_then bq x3
          replace x4 := cell_then bq x4
          replace x5 := cell_then bq x5
          replace A0 := cell_then bq A0
          replace A1 := cell_then bq A1
          replace B0 := cell_then bq B0
          replace B1 := cell_then bq B1
          replace P0 := cell_then bq P0
          replace P1 := cell_then bq P1
          clear bq
          rw [HN5.out]
          have IN := HI.out
          clear HI
          replace IN := IN (by first | rfl | trivial)
          have lx0 := lt_size x0
          have lA0 := lt_size A0
          have lB0 := lt_size B0
          have lP0 := lt_size P0
          go_upto_region 12 with fail
          go_cut [14] (fun s wx => ∃ B : Bool, s = .bool B ∧ (true = true → B = true) ∧ wx = w_12)
          case first =>
            go_wp2_with fail
            all_goals (go_meet; refine ⟨_, rfl, fun _ => ?_, rfl⟩; first | trivial | rfl | contradiction)
          case rest =>
            obtain ⟨B, rfl, hBB, rfl⟩ := hcut
            obtain ⟨v_13, rfl⟩ : ∃ v : World, v = wc := ⟨_, rfl⟩
            obtain rfl := hBB (by first | rfl | trivial)
            clear IN
            clear lx0 lA0 lB0 lP0
            have lx0 := lt_size x0
            have lA0 := lt_size A0
            have lB0 := lt_size B0
            have lP0 := lt_size P0
            go_upto_region 14 with fail
            have hA : Below v_13.heap.size v_13 (v_13.alloc (.cells #[.int .i64 c, .int .i64 b] 29)) := below_alloc (Below.refl _ _) _
            clear lx0 lA0 lB0 lP0
            replace hB := below_next hB hA
            replace x0 := cell_then hA x0
            replace x1 := cell_then hA x1
            replace x2 := cell_then hA x2
            replace x3 := cell_then hA x3
            replace x4 := cell_then hA x4
            replace x5 := cell_then hA x5
            replace A0 := cell_then hA A0
            replace A1 := cell_then hA A1
            replace B0 := cell_then hA B0
            replace B1 := cell_then hA B1
            replace P0 := cell_then hA P0
            replace P1 := cell_then hA P1
            have L0 : (v_13.alloc (.cells #[.int .i64 c, .int .i64 b] 29)).cell? ⟨v_13.heap.size, 0, none⟩ = some (.int .i64 c) := new_cell rfl
            have L1 : (v_13.alloc (.cells #[.int .i64 c, .int .i64 b] 29)).cell? ⟨v_13.heap.size, 1, none⟩ = some (.int .i64 b) := new_cell rfl
            obtain ⟨v_14, hv_14⟩ : ∃ vv_ : World, (v_13.alloc (.cells #[.int .i64 c, .int .i64 b] 29)) = vv_ := ⟨_, rfl⟩
            rw [hv_14] at hB x0 x1 x2 x3 x4 x5 A0 A1 B0 B1 P0 P1 L0 L1 ⊢
            clear hA hv_14
            have lx0 := lt_size x0
            have lA0 := lt_size A0
            have lB0 := lt_size B0
            have lP0 := lt_size P0
            have lL0 := lt_size L0
            go_cut [16] (fun s wx => ∃ B : Bool, s = .bool B ∧ (B = true → M1 ≤ p ∧ p ≤ N1) ∧ wx = v_14)
            case first =>
              go_wp2_with fail
              all_goals (go_meet; refine ⟨_, rfl, ?_, rfl⟩; first | trivial | exact fun _ => ⟨by assumption, by assumption⟩ | (intro h; first | contradiction | omega | (simp at h; omega)))
            case rest =>
              obtain ⟨B2, rfl, hB2, rfl⟩ := hcut
              obtain ⟨v_15, rfl⟩ : ∃ v : World, v = wc := ⟨_, rfl⟩
              clear hM1 hN1 hM2 hN2
              clear lx0 lA0 lB0 lP0 lL0
              have lx0 := lt_size x0
              have lA0 := lt_size A0
              have lB0 := lt_size B0
              have lP0 := lt_size P0
              have lL0 := lt_size L0
              cases B2 with
              | false =>
                clear hB2
                clear lx0 lA0 lB0 lP0 lL0
                have lx0 := lt_size x0
                have lA0 := lt_size A0
                have lB0 := lt_size B0
                have lP0 := lt_size P0
                have lL0 := lt_size L0
                go_wp2_with fail
                clear lx0 lA0 lB0 lP0 lL0
                have lx0 := lt_size x0
                have lA0 := lt_size A0
                have lB0 := lt_size B0
                have lP0 := lt_size P0
                have lL0 := lt_size L0
                refine wp_region_quiet_below (by kernel_rfl) (by kernel_rfl) ?_
                repeat (go_big_quiet_step (fail))
                refine wpQuiet_nil ?_
                intro wq_16 hq0
                have hq_17 := below_of_class hq0
                clear hq0
                clear lx0 lA0 lB0 lP0 lL0
                replace hB := below_next hB hq_17
                replace x0 := cell_then hq_17 x0
                replace x1 := cell_then hq_17 x1
                replace x2 := cell_then hq_17 x2
                replace x3 := cell_then hq_17 x3
                replace x4 := cell_then hq_17 x4
                replace x5 := cell_then hq_17 x5
                replace A0 := cell_then hq_17 A0
                replace A1 := cell_then hq_17 A1
                replace B0 := cell_then hq_17 B0
                replace B1 := cell_then hq_17 B1
                replace P0 := cell_then hq_17 P0
                replace P1 := cell_then hq_17 P1
                replace L0 := cell_then hq_17 L0
                replace L1 := cell_then hq_17 L1
                clear hq_17
                have lx0 := lt_size x0
                have lA0 := lt_size A0
                have lB0 := lt_size B0
                have lP0 := lt_size P0
                have lL0 := lt_size L0
                go_wp2_with fail
                go_ret
                exact ⟨rfl, hB⟩
              | true =>
                have hb2 := hB2 rfl
                have hlv := HL.out hb2.1 hb2.2
                clear hB2 hb2 HL
                by_cases hmz : MX ≤ z
                · rw [decide_eq_true hmz] at hlv
                  have HV := Lib.hid hlv
                  clear hlv
                  have hw1 : IntKind.i64.wrap (q - b) = q - b := IntWalk.i64_in _ (by omega)
                  have hw2 : IntKind.i64.wrap (b - q) = b - q := IntWalk.i64_in _ (by omega)
                  clear lx0 lA0 lB0 lP0 lL0
                  have lx0 := lt_size x0
                  have lA0 := lt_size A0
                  have lB0 := lt_size B0
                  have lP0 := lt_size P0
                  have lL0 := lt_size L0
                  go_wp2_with fail
                  clear lx0 lA0 lB0 lP0 lL0
                  have g_A0 := fun D os => cell_regrown A0 D os
                  have g_A1 := fun D os => cell_regrown A1 D os
                  have g_L0 := fun D os => cell_regrown L0 D os
                  have g_L1 := fun D os => cell_regrown L1 D os
                  have g_P0 := fun D os => cell_regrown P0 D os
                  have g_P1 := fun D os => cell_regrown P1 D os
                  have lx0 := lt_size x0
                  have lA0 := lt_size A0
                  have lB0 := lt_size B0
                  have lP0 := lt_size P0
                  have lL0 := lt_size L0
                  refine wp_region_quiet_below (by kernel_rfl) (by kernel_rfl) ?_
                  repeat (go_big_quiet_step (exact Calls.regrown_of ((nearB_any a b c b p q z _).mono fun e w' h => ⟨h.1.trans (by rw [HV.out]), h.2⟩)))
                  refine wpQuiet_nil ?_
                  intro wq_16 hq0
                  have hq_17 := below_of_class hq0
                  clear hq0
                  clear g_A0 g_A1 g_L0 g_L1 g_P0 g_P1
                  clear lx0 lA0 lB0 lP0 lL0
                  replace hB := below_next hB hq_17
                  replace x0 := cell_then hq_17 x0
                  replace x1 := cell_then hq_17 x1
                  replace x2 := cell_then hq_17 x2
                  replace x3 := cell_then hq_17 x3
                  replace x4 := cell_then hq_17 x4
                  replace x5 := cell_then hq_17 x5
                  replace A0 := cell_then hq_17 A0
                  replace A1 := cell_then hq_17 A1
                  replace B0 := cell_then hq_17 B0
                  replace B1 := cell_then hq_17 B1
                  replace P0 := cell_then hq_17 P0
                  replace P1 := cell_then hq_17 P1
                  replace L0 := cell_then hq_17 L0
                  replace L1 := cell_then hq_17 L1
                  clear hq_17
                  clear hw1 hw2 hMX
                  have lx0 := lt_size x0
                  have lA0 := lt_size A0
                  have lB0 := lt_size B0
                  have lP0 := lt_size P0
                  have lL0 := lt_size L0
                  go_wp2_with fail
                  go_ret
                  exact ⟨rfl, hB⟩
                · rw [decide_eq_false hmz] at hlv
                  have HV := Lib.hid hlv
                  clear hlv
                  replace hmz : z < MX := by omega
                  have hw1 : IntKind.i64.wrap (q - b) = q - b := IntWalk.i64_in _ (by omega)
                  have hw2 : IntKind.i64.wrap (b - q) = b - q := IntWalk.i64_in _ (by omega)
                  clear lx0 lA0 lB0 lP0 lL0
                  have lx0 := lt_size x0
                  have lA0 := lt_size A0
                  have lB0 := lt_size B0
                  have lP0 := lt_size P0
                  have lL0 := lt_size L0
                  go_wp2_with fail
                  clear lx0 lA0 lB0 lP0 lL0
                  have g_A0 := fun D os => cell_regrown A0 D os
                  have g_A1 := fun D os => cell_regrown A1 D os
                  have g_L0 := fun D os => cell_regrown L0 D os
                  have g_L1 := fun D os => cell_regrown L1 D os
                  have g_P0 := fun D os => cell_regrown P0 D os
                  have g_P1 := fun D os => cell_regrown P1 D os
                  have lx0 := lt_size x0
                  have lA0 := lt_size A0
                  have lB0 := lt_size B0
                  have lP0 := lt_size P0
                  have lL0 := lt_size L0
                  refine wp_region_quiet_below (by kernel_rfl) (by kernel_rfl) ?_
                  repeat (go_big_quiet_step (exact Calls.regrown_of ((nearB_any a b c b p q z _).mono fun e w' h => ⟨h.1.trans (by rw [HV.out]), h.2⟩)))
                  refine wpQuiet_nil ?_
                  intro wq_16 hq0
                  have hq_17 := below_of_class hq0
                  clear hq0
                  clear g_A0 g_A1 g_L0 g_L1 g_P0 g_P1
                  clear lx0 lA0 lB0 lP0 lL0
                  replace hB := below_next hB hq_17
                  replace x0 := cell_then hq_17 x0
                  replace x1 := cell_then hq_17 x1
                  replace x2 := cell_then hq_17 x2
                  replace x3 := cell_then hq_17 x3
                  replace x4 := cell_then hq_17 x4
                  replace x5 := cell_then hq_17 x5
                  replace A0 := cell_then hq_17 A0
                  replace A1 := cell_then hq_17 A1
                  replace B0 := cell_then hq_17 B0
                  replace B1 := cell_then hq_17 B1
                  replace P0 := cell_then hq_17 P0
                  replace P1 := cell_then hq_17 P1
                  replace L0 := cell_then hq_17 L0
                  replace L1 := cell_then hq_17 L1
                  clear hq_17
                  clear hw1 hw2 hMX
                  have lx0 := lt_size x0
                  have lA0 := lt_size A0
                  have lB0 := lt_size B0
                  have lP0 := lt_size P0
                  have lL0 := lt_size L0
                  go_wp2_with fail
                  go_ret
                  exact ⟨ret_bool (a := !decide (MX ≤ z)) (by simp; omega), hB⟩
end Go.Proofs.Ytgmabepdhbnppaa
