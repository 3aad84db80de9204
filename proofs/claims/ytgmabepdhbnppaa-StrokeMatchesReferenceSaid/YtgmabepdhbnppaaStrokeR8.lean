/- The strokes' reference: first, between. -/
import Derived.Test.YtgmabepdhbnppaaStrokeR2
import Derived.Test.YtgmabepdhbnppaaStrokeLaws
import Derived.Test.YtgmabepdhbnppaaStrokeKept
namespace Go.Proofs.Ytgmabepdhbnppaa
open Go.RowKit Str
attribute [local go_sem] Oper.semAt_some
/-- a slice of indices -/
def NatR (w : World) (A : Option Addr) (T : List Nat) : Prop := ∀ i, i < T.length → ∃ b o, A = some ⟨b, o, none⟩ ∧ w.cell? ⟨b, o + i, none⟩ = some (.int .i64 ((T.getD i 0 : Nat) : Int))
theorem NatR.then_ {w w' : World} {A : Option Addr} {T : List Nat} (h : NatR w A T) (hb : Below w.heap.size w w') : NatR w' A T := fun i hi => by
  obtain ⟨b, o, hA, hc⟩ := h i hi
  exact ⟨b, o, hA, cell_then hb hc⟩
theorem first_at : ∀ {k : Nat} {a b : List Nat}, k < a.length → a.length = b.length → a.take k = b.take k → a.getD k 0 ≠ b.getD k 0 → firstB a b = decide (a.getD k 0 < b.getD k 0)
  | _, [], _, h, _, _, _ => by simp at h
  | _, _ :: _, [], _, h, _, _ => by simp at h
  | 0, x :: r, y :: s, _, _, _, hne => by
    have hne : x ≠ y := hne
    rw [firstB, if_neg hne]
    rfl
  | k + 1, x :: r, y :: s, hk, hl, he, hne => by
    simp only [List.take_succ_cons, List.cons.injEq] at he
    rw [firstB, if_pos he.1]
    exact first_at (by simpa using hk) (by simpa using hl) he.2 hne
set_option maxRecDepth 100000 in
theorem firstR_any (A B : Option Addr) (ca cb : Nat) (a b : List Nat) (w : World) (hA : NatR w A a) (hB : NatR w B b) (hl : a.length = b.length) (hm : a.length ≤ 1000000) :
    Calls Try.prog 55 #[.slice A a.length ca, .slice B b.length cb] w fun e w' => e = .returned (.bool (firstB a b)) ∧ Below w.heap.size w w' := by
  have HA := Lib.hid hA
  have HB := Lib.hid hB
  have HL := Lib.hid hl
  rw [← hl]
  clear hA hB hl
  go_enter Try.func55, Try.ntmps55
  go_wp2_with fail
  go_loopw [5] (fun i wr => ∃ k : Nat, k ≤ a.length ∧ i = .int .i64 (k : Int) ∧ a.take k = b.take k ∧ Below w.heap.size w wr) (fun i _ => a.length - (intOf i).toNat)
  case atStart => exact ⟨0, by omega, rfl, rfl, Below.refl _ _⟩
  case round =>
    obtain ⟨k, hk, rfl, he, hW⟩ := hrel
    have HE := Lib.hid he
    have HW := Lib.hid hW
    by_cases hlt : k < a.length
    · obtain ⟨b1, o1, rfl, c1⟩ := (HA.out.then_ hW) k hlt
      obtain ⟨b2, o2, rfl, c2⟩ := (HB.out.then_ hW) k (by rw [← HL.out]; exact hlt)
      have hf : a.getD k 0 ≠ b.getD k 0 → firstB a b = decide (a.getD k 0 < b.getD k 0) := fun h => first_at hlt HL.out he h
      have hn : a.getD k 0 = b.getD k 0 → a.take (k + 1) = b.take (k + 1) := fun h => by
        have hlt2 : k < b.length := by rw [← HL.out]; exact hlt
        rw [List.getD, List.getD, List.getElem?_eq_getElem hlt, List.getElem?_eq_getElem hlt2] at h
        have h' : a[k] = b[k] := by simpa using h
        rw [List.take_succ_eq_append_getElem hlt, List.take_succ_eq_append_getElem hlt2, he, h']
      obtain ⟨x, hx⟩ : ∃ x, a.getD k 0 = x := ⟨_, rfl⟩
      obtain ⟨y, hy⟩ : ∃ y, b.getD k 0 = y := ⟨_, rfl⟩
      rw [hx] at c1 hf hn
      rw [hy] at c2 hf hn
      have HF := Lib.hid hf
      have HN := Lib.hid hn
      have hki : (k : Int) < (a.length : Int) := by omega
      have hk0 : (0 : Int) ≤ (k : Int) := by omega
      have g_0 := fun D os => cell_regrown c1 D os
      have g_1 := fun D os => cell_regrown c2 D os
      clear he hW hf hn hx hy
      go_wp2_with fail
      by_cases hxy : x = y
      · have t1 : ((x : Int) != (y : Int)) = false := by simp [hxy]
        have t2 : (x != y) = false := by simp [hxy]
        have HT := Lib.hid (HN.out hxy)
        clear hxy
        refine wp_region_quiet_below (by kernel_rfl) (by kernel_rfl) ?_
        repeat (go_big_quiet_step (fail))
        refine wpQuiet_nil ?_
        intro wq hq0
        have hq := below_of_class hq0
        clear hq0
        have HQ := Lib.hid (below_next HW.out hq)
        clear hq g_0 g_1
        go_wp2_with fail
        exact ⟨⟨k + 1, by omega, by go_num, HT.out, HQ.out⟩, by simp [intOf]; omega⟩
      · have t1 : ((x : Int) != (y : Int)) = true := by simp; omega
        have t2 : (x != y) = true := by simp [hxy]
        have HT := Lib.hid (HF.out hxy)
        clear hxy
        refine wp_region_quiet_below (by kernel_rfl) (by kernel_rfl) ?_
        repeat (go_big_quiet_step (fail))
        refine wpQuiet_nil ?_
        intro wq hq0
        have hq := below_of_class hq0
        clear hq0
        have HQ := Lib.hid (below_next HW.out hq)
        replace c1 := cell_then hq c1
        replace c2 := cell_then hq c2
        clear hq g_0 g_1 t1 t2
        have g_0 := fun D os => cell_regrown c1 D os
        have g_1 := fun D os => cell_regrown c2 D os
        go_wp2_with fail
        refine wp_region_quiet_below (by kernel_rfl) (by kernel_rfl) ?_
        repeat (go_big_quiet_step (fail))
        refine wpQuiet_nil ?_
        intro wq hq0
        have hq := below_of_class hq0
        clear hq0
        have HQ2 := Lib.hid (below_next HQ.out hq)
        clear hq g_0 g_1
        go_wp2_with fail
        go_ret
        exact ⟨by rw [HT.out]; simp, HQ2.out⟩
    · obtain rfl : k = a.length := by omega
      have hab : a = b := by
        have h := he
        rw [List.take_length, HL.out, List.take_length] at h
        exact h
      have HS := Lib.hid (show firstB a b = false by rw [hab]; exact firstB_self b)
      have hkk : ¬ (a.length : Int) < (a.length : Int) := by omega
      clear he hW hab hlt
      go_wp2_with fail
      go_ret
      exact ⟨by rw [HS.out]; rfl, HW.out⟩
set_option maxRecDepth 100000 in
set_option maxHeartbeats 4000000 in
theorem betweenR_any (P N : Int) (A : Option Addr) (cap : Nat) (D : List Dot) (i k : Nat) (z : Int) (w : World) (hD : Dots w A D) (hcp : D.length ≤ cap) (h1 : validB P N D = true) (hik : i < k) (hk : k < D.length) (hz : 0 ≤ z ∧ z ≤ 1000) :
    Calls Try.prog 54 #[.agg #[.int .i64 P, .int .i64 N, .slice A D.length cap], .int .i64 (i : Int), .int .i64 (k : Int), .int .i64 z] w fun e w' => e = .returned (.bool (okD D z i k)) ∧ Below w.heap.size w w' := by
  obtain ⟨⟨p5, p6⟩, p0⟩ := valid_len h1
  have HPL := Lib.hid (placed (validB_dots h1))
  have HD := Lib.hid hD
  have hcp' : (D.length : Int) ≤ (cap : Int) := by omega
  obtain ⟨W, hW⟩ : ∃ W, w.alloc (.cells #[.int .i64 P, .int .i64 N, .slice A D.length cap] 27) = W := ⟨_, rfl⟩
  have B0 : Below w.heap.size w W := by rw [← hW]; exact below_alloc (Below.refl _ _) _
  have e0 : W.cell? ⟨w.heap.size, 2, none⟩ = some (.slice A D.length cap) := by rw [← hW]; exact new_cell rfl
  have HW := Lib.hid hW
  have HB0 := Lib.hid B0
  have y0 : IntKind.i64.wrap ((i : Int) + 1) = (i : Int) + 1 := IntWalk.i64_in _ (by omega)
  clear h1 hD B0 hW
  go_enter Try.func54, Try.ntmps54
  go_wp2_with fail
  rw [HW.out]
  clear HW y0
  go_loopw [9] (fun n wr => ∃ j : Nat, i + 1 ≤ j ∧ j ≤ k ∧ n = .int .i64 (j : Int) ∧ (∀ q, i < q → q < j → nearD (dotAt D i) (dotAt D k) (dotAt D q) z = true) ∧ Below W.heap.size W wr) (fun n _ => k - (intOf n).toNat)
  case atStart => exact ⟨i + 1, by omega, by omega, by go_num, fun q h1 h2 => by omega, Below.refl _ _⟩
  case round =>
    obtain ⟨j, hj1, hj2, rfl, hall, hB⟩ := hrel
    have e1 := cell_then hB e0
    have le := lt_size e1
    have HB := Lib.hid hB
    have HALL := Lib.hid hall
    have HBB := Lib.hid (below_next HB0.out hB)
    by_cases hlt : j < k
    · obtain ⟨b, o, rfl, c0, c1, c2, c3⟩ := (HD.out.below HBB.out) i (by omega)
      obtain ⟨b_, o_, e_, d0, d1, d2, d3⟩ := (HD.out.below HBB.out) k hk
      cases e_
      obtain ⟨b_, o_, e_, f0, f1, f2, f3⟩ := (HD.out.below HBB.out) j (by omega)
      cases e_
      have p1 := HPL.out _ (dotAt_mem (show i < D.length by omega))
      have p2 := HPL.out _ (dotAt_mem hk)
      have p3 := HPL.out _ (dotAt_mem (show j < D.length by omega))
      have hno : nearD (dotAt D i) (dotAt D k) (dotAt D j) z = false → okD D z i k = false := fun h => by
        cases ho : okD D z i k with
        | false => rfl
        | true => have := okD_iff.1 ho j (by omega) hlt; rw [h] at this; cases this
      have hye : nearD (dotAt D i) (dotAt D k) (dotAt D j) z = true → ∀ q, i < q → q < j + 1 → nearD (dotAt D i) (dotAt D k) (dotAt D q) z = true := fun h q h1 h2 => by
        rcases (show q < j ∨ q = j by omega) with h3 | h3
        · exact HALL.out q h1 h3
        · rw [h3]; exact h
      have hnb : nearB (dotAt D i).x (dotAt D i).y (dotAt D k).x (dotAt D k).y (dotAt D j).x (dotAt D j).y z = nearD (dotAt D i) (dotAt D k) (dotAt D j) z := by
        simp [nearB, p1, p2, p3, isInB_iff.2 hz, nearD]
      have HNR := fun W => nearR_any (dotAt D i).x (dotAt D i).y (dotAt D k).x (dotAt D k).y (dotAt D j).x (dotAt D j).y z W
      rw [hnb] at HNR
      have HA1 := fun W => atR_any (dotAt D i) W
      have HA2 := fun W => atR_any (dotAt D k) W
      have HA3 := fun W => atR_any (dotAt D j) W
      unfold pv at HA1 HA2 HA3
      obtain ⟨r, hr⟩ : ∃ r, nearD (dotAt D i) (dotAt D k) (dotAt D j) z = r := ⟨_, rfl⟩
      rw [hr] at HNR hno hye
      obtain ⟨p, hp⟩ : ∃ x, dotAt D i = x := ⟨_, rfl⟩
      obtain ⟨q, hq⟩ : ∃ x, dotAt D k = x := ⟨_, rfl⟩
      obtain ⟨s, hs⟩ : ∃ x, dotAt D j = x := ⟨_, rfl⟩
      rw [hp] at c0 c1 c2 c3
      rw [hq] at d0 d1 d2 d3
      rw [hs] at f0 f1 f2 f3
      rw [hp] at HA1
      rw [hq] at HA2
      rw [hs] at HA3
      rw [hp, hq, hs] at HNR
      have HNR := Lib.hid HNR
      have HA1 := Lib.hid HA1
      have HA2 := Lib.hid HA2
      have HA3 := Lib.hid HA3
      have HNO := Lib.hid hno
      have HYE := Lib.hid hye
      have hi1 : (i : Int) < (D.length : Int) := by omega
      have hi0 : (0 : Int) ≤ (i : Int) := by omega
      have hk1 : (k : Int) < (D.length : Int) := by omega
      have hk0 : (0 : Int) ≤ (k : Int) := by omega
      have hj3 : (j : Int) < (D.length : Int) := by omega
      have hj0 : (0 : Int) ≤ (j : Int) := by omega
      have hjk : (j : Int) < (k : Int) := by omega
      have g_0 := fun D os => cell_regrown e1 D os
      have g_1 := fun D os => cell_regrown c0 D os
      have g_2 := fun D os => cell_regrown c1 D os
      have g_3 := fun D os => cell_regrown c2 D os
      have g_4 := fun D os => cell_regrown c3 D os
      have g_5 := fun D os => cell_regrown d0 D os
      have g_6 := fun D os => cell_regrown d1 D os
      have g_7 := fun D os => cell_regrown d2 D os
      have g_8 := fun D os => cell_regrown d3 D os
      have g_9 := fun D os => cell_regrown f0 D os
      have g_10 := fun D os => cell_regrown f1 D os
      have g_11 := fun D os => cell_regrown f2 D os
      have g_12 := fun D os => cell_regrown f3 D os
      clear hB hall hno hye hnb hr hp hq hs p1 p2 p3
      go_wp2_with fail
      refine wp_region_quiet_below (by kernel_rfl) (by kernel_rfl) ?_
      repeat (go_big_quiet_step (first | (with_reducible exact Calls.regrown_of (HA1.out _)) | (with_reducible exact Calls.regrown_of (HA2.out _)) | (with_reducible exact Calls.regrown_of (HA3.out _)) | (with_reducible exact Calls.regrown_of (HNR.out _))))
      refine wpQuiet_nil ?_
      intro wq hq0
      have hq := below_of_class hq0
      clear hq0
      have HQ := Lib.hid (below_next HB.out hq)
      clear hq g_0 g_1 g_2 g_3 g_4 g_5 g_6 g_7 g_8 g_9 g_10 g_11 g_12
      cases r with
      | false =>
        have HT := Lib.hid (HNO.out (by trivial))
        go_wp2_with fail
        go_ret
        exact ⟨by rw [HT.out]; rfl, below_next HB0.out HQ.out⟩
      | true =>
        have HT := Lib.hid (HYE.out (by trivial))
        go_wp2_with fail
        exact ⟨⟨j + 1, by omega, by omega, by go_num, HT.out, HQ.out⟩, by simp [intOf]; omega⟩
    · obtain rfl : k = j := by omega
      have HT := Lib.hid (okD_iff.2 fun q h1 h2 => HALL.out q h1 h2)
      have hkk : ¬ (k : Int) < (k : Int) := by omega
      clear hB hall hlt
      go_wp2_with fail
      go_ret
      exact ⟨by rw [HT.out]; rfl, HBB.out⟩
end Go.Proofs.Ytgmabepdhbnppaa
