/- Package stroke: Box. -/
import Derived.Test.YtgmabepdhbnppaaStrokeCode
namespace Go.Proofs.Ytgmabepdhbnppaa
open Go.RowKit Str
attribute [local go_sem ↓] Var2.c0 Var2.c1 Var2.f0 Var2.f1 Var4.c0 Var4.c1 Var4.c2 Var4.c3 Var4.f0 Var4.f1 Var4.f2 Var4.f3
attribute [local go_sem] Var2.new Var2.alloc Var2.set_ Var2.drew Var2.set2 Var2.new_set2 Var2.alloc_set2
theorem box_no (P N : Int) (A : Option Addr) (cap : Nat) (D : List Dot) (w : World) (hD : Dots w A D) (hn : (D.length : Int) ≤ 4611686018427387904) (h1 : validB P N D = false) :
    Calls Try.prog 14 #[.agg #[.int .i64 P, .int .i64 N, .slice A D.length cap]] w fun e w' => e = .returned (.tuple #[.agg #[.int .i64 0, .int .i64 0, .int .i64 0, .int .i64 0], .int .i64 50]) ∧ Below w.heap.size w w' := by
  have HD := Lib.hid hD
  clear hD
  go_enter Try.func14, Try.ntmps14
  go_wp2_with fail
  have B0 : Below w.heap.size w ((w.alloc (.cells #[.int .i64 P, .int .i64 N, .slice A D.length cap] 27)).alloc (.cells #[.int .i64 0, .int .i64 0, .int .i64 0, .int .i64 0] 40)) := ((Below.refl _ _).alloc (Nat.le_refl _) _).alloc (by simp) _
  refine (valid_any P N A cap D _ (HD.out.below B0) hn).mono ?_
  rintro e w1 ⟨rfl, b1⟩
  rw [h1]
  have V1 : Var4 w1 (w.heap.size + 1) := Var4.of (var_then b1 (v := .int .i64 0) (by simp [go_sem])) (var_then b1 (v := .int .i64 0) (by simp [go_sem])) (var_then b1 (v := .int .i64 0) (by simp [go_sem])) (var_then b1 (v := .int .i64 0) (by simp [go_sem]))
  go_wp2_with fail
  exact bodyPost_ret (v := .tuple #[.agg #[.int .i64 0, .int .i64 0, .int .i64 0, .int .i64 0], .int .i64 50]) (by simp [results, Try.results14, go_sem, V1.c0, V1.c1, V1.c2, V1.c3]) rfl ⟨rfl, ((((below_next B0 b1).setCell (by simp) _).setCell (by simp) _).setCell (by simp) _).setCell (by simp) _⟩
set_option maxRecDepth 100000 in
set_option maxHeartbeats 4000000 in
theorem box_yes (P N : Int) (A : Option Addr) (cap : Nat) (D : List Dot) (w : World) (hD : Dots w A D) (h1 : validB P N D = true) :
    Calls Try.prog 14 #[.agg #[.int .i64 P, .int .i64 N, .slice A D.length cap]] w fun e w' => e = .returned (.tuple #[.agg #[.int .i64 (boxF D).1, .int .i64 (boxF D).2.1, .int .i64 (boxF D).2.2.1, .int .i64 (boxF D).2.2.2], .int .i64 0]) ∧ Below w.heap.size w w' := by
  obtain ⟨⟨p5, p6⟩, p0⟩ := valid_len h1
  have H1 := Lib.hid h1
  clear h1
  obtain ⟨b, o, rfl, hlt, hc⟩ := hD.open_ p0
  have HD := Lib.hid hD
  have HC := Lib.hid hc
  clear hD hc
  go_enter Try.func14, Try.ntmps14
  go_wp2_with fail
  have B0 : Below w.heap.size w ((w.alloc (.cells #[.int .i64 P, .int .i64 N, .slice (some ⟨b, o, none⟩) D.length cap] 27)).alloc (.cells #[.int .i64 0, .int .i64 0, .int .i64 0, .int .i64 0] 40)) := ((Below.refl _ _).alloc (Nat.le_refl _) _).alloc (by simp) _
  refine (valid_any P N _ cap D _ (HD.out.below B0) (by omega)).mono ?_
  rintro e w1 ⟨rfl, b1⟩
  rw [H1.out]
  have B1 := below_next B0 b1
  have e0 : w1.cell? ⟨w.heap.size, 2, none⟩ = some (.slice (some ⟨b, o, none⟩) D.length cap) := cell_then b1 (by simp [go_sem])
  obtain ⟨c0, c1, c2, c3⟩ := Dots.of_open B1 HC.out 0 p0
  have V1 : Var4 w1 (w.heap.size + 1) := Var4.of (var_then b1 (v := .int .i64 0) (by simp [go_sem])) (var_then b1 (v := .int .i64 0) (by simp [go_sem])) (var_then b1 (v := .int .i64 0) (by simp [go_sem])) (var_then b1 (v := .int .i64 0) (by simp [go_sem]))
  have hsz : w.heap.size + 1 < w1.heap.size := by have := b1.size; simp at this; omega
  clear B0 b1
  simp only [Nat.zero_mul, Nat.add_zero] at c0 c1 c2 c3
  go_upto_region 3 with fail
  go_cut [4, 5] (fun s4 s5 wx => ∃ p q : Nat, s4 = .pointer (some ⟨p, 0, none⟩) ∧ s5 = .pointer (some ⟨q, 0, none⟩) ∧ w.heap.size + 1 < p ∧ w.heap.size + 1 < q ∧ p ≠ q ∧
    wx.cell? ⟨p, 0, none⟩ = some (.int .i64 (dotAt D 0).x) ∧ wx.cell? ⟨p, 1, none⟩ = some (.int .i64 (dotAt D 0).y) ∧ wx.cell? ⟨q, 0, none⟩ = some (.int .i64 (dotAt D 0).x) ∧ wx.cell? ⟨q, 1, none⟩ = some (.int .i64 (dotAt D 0).y) ∧
    Var2 wx p ∧ Var2 wx q ∧ Below w.heap.size w wx ∧ wx.cell? ⟨w.heap.size, 2, none⟩ = some (.slice (some ⟨b, o, none⟩) D.length cap) ∧ Var4 wx (w.heap.size + 1))
  case first =>
    go_region_held3 (fun w' => Below w1.heap.size w1 w' ∧ w'.cell? ⟨w.heap.size, 2, none⟩ = some (.slice (some ⟨b, o, none⟩) D.length cap) ∧ w'.cell? ⟨b, o, none⟩ = some (.int .i64 (dotAt D 0).x) ∧ w'.cell? ⟨b, o + 1, none⟩ = some (.int .i64 (dotAt D 0).y) ∧ w'.cell? ⟨b, o + 2, none⟩ = some (.int .i64 (dotAt D 0).t) ∧ w'.cell? ⟨b, o + 3, none⟩ = some (.int .i64 (dotAt D 0).p)) ((suffices hB : Below w1.heap.size w1 _ from ⟨hB, cell_then hB ‹_›, cell_then hB ‹_›, cell_then hB ‹_›, cell_then hB ‹_›, cell_then hB ‹_›⟩; repeat (first | with_reducible exact Below.refl _ _ | with_reducible refine below_alloc ?_ _ | with_reducible refine Below.setCell ?_ (by dsimp only; omega) _ | with_reducible refine Below.drew ?_ | with_reducible refine below_next ?_ ‹Below _ _ _›))) (first | (go_at_call 42; refine (at_any _ _).mono ?_; rintro e w' ⟨rfl, b'⟩; unfold pv; have hz' := b'.size; (try simp at hz'); have hv' := fun g (h : Var2 _ g) => Var2.then_ h b'; (try ((with_reducible have hm1' := hv' _ (by first | exact Var2.new _ _ _ _ | exact Var2.drew (Var2.new _ _ _ _))); (try simp at hm1'))); (try with_reducible have hm2' := hv' _ (by first | exact Var2.alloc (Var2.new _ _ _ _) _ | exact Var2.drew (Var2.alloc (Var2.new _ _ _ _) _))); (try with_reducible have hm3' := hv' _ ‹Var2 _ _›); (try with_reducible have hm4' := hv' _ (Var2.alloc ‹Var2 _ _› _)); (try have hm5' := And.intro hm1' hm2'); (try ((with_reducible have hm6' := both (hv' _) (hv' _) ‹Var2 _ _ ∧ Var2 _ _›); obtain ⟨hm7', hm8'⟩ := hm6'))))
    all_goals
      obtain ⟨F1, F2, -⟩ := ‹Below w1.heap.size w1 _ ∧ _›
      have F3 := V1.then_ F1
      go_wp2_with fail
      go_meet
      refine ⟨_, _, rfl, rfl, by omega, by omega, ?_⟩
      refine and_then (by omega) (fun hpq => ?_)
      refine ⟨?_, ?_, ?_, ?_, ?_, ?_, below_next B1 F1, F2, F3⟩
      all_goals first
        | (with_reducible exact new_cell rfl)
        | (with_reducible exact new_cell' rfl)
        | (with_reducible exact keep_alloc _ (new_cell rfl))
        | (with_reducible exact cell_set _ (cell_set _ (new_cell rfl) (by dsimp only; omega)) (by dsimp only; omega))
        | (with_reducible refine cell_off _ (Var2.s0 ?_ _) (by omega); (repeat (first | assumption | with_reducible exact Var2.new _ _ _ _ | with_reducible exact Var2.new' _ _ _ _ _ | with_reducible refine Var2.set_ ?_ _ _ | with_reducible refine Var2.alloc ?_ _ | with_reducible refine Var2.drew ?_)))
        | (with_reducible refine cell_set _ (cell_set _ (cell_off _ (Var2.s0 ?_ _) (by omega)) (by dsimp only; omega)) (by dsimp only; omega); (repeat (first | assumption | with_reducible exact Var2.new _ _ _ _ | with_reducible exact Var2.new' _ _ _ _ _ | with_reducible refine Var2.set_ ?_ _ _ | with_reducible refine Var2.alloc ?_ _ | with_reducible refine Var2.drew ?_)))
        | (with_reducible refine Var2.s1 ?_ _; (repeat (first | assumption | with_reducible exact Var2.new _ _ _ _ | with_reducible exact Var2.new' _ _ _ _ _ | with_reducible refine Var2.set_ ?_ _ _ | with_reducible refine Var2.alloc ?_ _ | with_reducible refine Var2.drew ?_)))
        | (with_reducible refine cell_set _ (cell_set _ (Var2.s1 ?_ _) (by dsimp only; omega)) (by dsimp only; omega); (repeat (first | assumption | with_reducible exact Var2.new _ _ _ _ | with_reducible exact Var2.new' _ _ _ _ _ | with_reducible refine Var2.set_ ?_ _ _ | with_reducible refine Var2.alloc ?_ _ | with_reducible refine Var2.drew ?_)))
        | ((repeat (first | assumption | with_reducible exact Var2.new _ _ _ _ | with_reducible exact Var2.new' _ _ _ _ _ | with_reducible refine Var2.set_ ?_ _ _ | with_reducible refine Var2.alloc ?_ _ | with_reducible refine Var2.drew ?_)); done)
  case rest =>
    obtain ⟨p, q, rfl, rfl, hp, hq, hpq, f0, f1, f2, f3, V2, V3, B2, e1, V4⟩ := hcut
    clear e0 V1 hsz c0 c1 c2 c3 B1
    have q0 : p ≠ w.heap.size + 1 := by omega
    have q1 : q ≠ w.heap.size + 1 := by omega
    have q2 : p ≠ w.heap.size := by omega
    have q3 : q ≠ w.heap.size := by omega
    go_wp2_with fail
    go_loopw [25] (fun i wr => ∃ k : Nat, k ≤ D.length ∧ i = .int .i64 (k : Int) ∧
      wr.cell? ⟨p, 0, none⟩ = some (.int .i64 (mnF Dot.x (dotAt D 0).x (D.take k))) ∧ wr.cell? ⟨p, 1, none⟩ = some (.int .i64 (mnF Dot.y (dotAt D 0).y (D.take k))) ∧
      wr.cell? ⟨q, 0, none⟩ = some (.int .i64 (mxF Dot.x (dotAt D 0).x (D.take k))) ∧ wr.cell? ⟨q, 1, none⟩ = some (.int .i64 (mxF Dot.y (dotAt D 0).y (D.take k))) ∧
      Var2 wr p ∧ Var2 wr q ∧ Below w.heap.size w wr ∧ Var4 wr (w.heap.size + 1)) (fun i _ => D.length - (intOf i).toNat)
    case atStart => exact ⟨0, by omega, rfl, f0, f1, f2, f3, V2, V3, B2, V4⟩
    case round =>
      clear f0 f1 f2 f3 V2 V3 V4 B2 e1
      obtain ⟨k, hk, rfl, f0, f1, f2, f3, V2, V3, B2, V4⟩ := hrel
      have z0 := V2.f0
      have z1 := V2.f1
      have z2 := V3.f0
      have z3 := V3.f1
      have HV2 := Lib.hid V2
      have HV3 := Lib.hid V3
      clear V2 V3
      have n1 := lt_size f0
      have n2 := lt_size f2
      by_cases hlt : k < D.length
      · obtain ⟨c0, c1, c2, c3⟩ := Dots.of_open B2 HC.out k hlt
        go_wp2_with fail
        have HV2a := Lib.hid (HV2.out.set_ ⟨p, 0, none⟩ (.int .i64 (minI (mnF Dot.x (dotAt D 0).x (D.take k)) (dotAt D k).x)))
        have HV3a := Lib.hid ((HV3.out.set_ ⟨p, 0, none⟩ (.int .i64 (minI (mnF Dot.x (dotAt D 0).x (D.take k)) (dotAt D k).x))).set_ ⟨p, 1, none⟩ (.int .i64 (minI (mnF Dot.y (dotAt D 0).y (D.take k)) (dotAt D k).y)))
        have HV3b := Lib.hid (HV3a.out.set_ ⟨q, 0, none⟩ (.int .i64 (maxI (mxF Dot.x (dotAt D 0).x (D.take k)) (dotAt D k).x)))
        refine ⟨⟨k + 1, by omega, by go_num, ?_, ?_, ?_, ?_, (((((HV2.out.set_ _ _).set_ _ _).set_ _ _).set_ _ _).alloc _), (((((HV3.out.set_ _ _).set_ _ _).set_ _ _).set_ _ _).alloc _),
          (((((B2.setCell (by dsimp only; omega) _).setCell (by dsimp only; omega) _).setCell (by dsimp only; omega) _).setCell (by dsimp only; omega) _).alloc (by have := B2.size; simp; omega) _), (((((V4.set_ _ _).set_ _ _).set_ _ _).set_ _ _).alloc _)⟩, by simp [intOf]; omega⟩
        · rw [take_dot hlt, mnF_snoc]; exact keep_alloc _ (cell_set _ (cell_set _ (cell_off _ (HV2.out.s0 _) (by omega)) (by dsimp only; exact hpq)) (by dsimp only; exact hpq))
        · rw [take_dot hlt, mnF_snoc]; exact keep_alloc _ (cell_set _ (cell_set _ (HV2a.out.s1 _) (by dsimp only; exact hpq)) (by dsimp only; exact hpq))
        · rw [take_dot hlt, mxF_snoc]; exact keep_alloc _ (cell_off _ (HV3a.out.s0 _) (by omega))
        · rw [take_dot hlt, mxF_snoc]; exact keep_alloc _ (HV3b.out.s1 _)
      · obtain rfl : k = D.length := by omega
        rw [List.take_length] at f0 f1 f2 f3
        have hb := box_bd (D := D) (by omega) (placed (validB_dots H1.out))
        unfold boxF at hb
        simp only [] at hb
        have HB := Lib.hid B2
        go_wp2_with fail
        exact bodyPost_ret (v := .tuple #[.agg #[.int .i64 (boxF D).1, .int .i64 (boxF D).2.1, .int .i64 (boxF D).2.2.1, .int .i64 (boxF D).2.2.2], .int .i64 0]) (by simp [results, Try.results14, go_sem, V4.s0, (V4.set_ _ _).s1, ((V4.set_ _ _).set_ _ _).s2, (((V4.set_ _ _).set_ _ _).set_ _ _).s3]; exact ⟨rfl, rfl, rfl, rfl⟩) rfl ⟨rfl, ((((HB.out.setCell (by simp) _).setCell (by simp) _).setCell (by simp) _).setCell (by simp) _)⟩
end Go.Proofs.Ytgmabepdhbnppaa
