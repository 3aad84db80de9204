/- The strokes' reference: Ends, Way, Within of any stroke. -/
import Derived.Test.YtgmabepdhbnppaaStrokeR2
import Derived.Test.YtgmabepdhbnppaaStrokeR3
namespace Go.Proofs.Ytgmabepdhbnppaa
open Go.RowKit Str
attribute [local go_sem] Oper.semAt_some
attribute [local go_sem ↓] Var2.c0 Var2.c1 Var2.f0 Var2.f1
theorem sizeR_below (n : Int) (w : World) (h : -9223372036854775807 ≤ n ∧ n ≤ 9223372036854775807) : Calls Try.prog 44 #[.int .i64 n] w fun e w' => e = .returned (.int .i64 (sizeI n)) ∧ Below w.heap.size w w' := by
  refine (sizeR_any n w h).mono ?_
  rintro e w' ⟨rfl, rfl⟩
  exact ⟨rfl, Below.refl _ _⟩
theorem endsR_no (P N : Int) (A : Option Addr) (cap : Nat) (D : List Dot) (w : World) (hD : Dots w A D) (hcp : D.length ≤ cap) (hcm : (cap : Int) ≤ 9223372036854775807) (h1 : validB P N D = false) :
    Calls Try.prog 19 #[.agg #[.int .i64 P, .int .i64 N, .slice A D.length cap]] w fun e w' => e = .returned (.tuple #[pv 0 0, pv 0 0, .int .i64 50]) ∧ Below w.heap.size w w' := by
  have HD := Lib.hid hD
  clear hD
  go_enter Try.func19, Try.ntmps19
  go_wp2_with fail
  have B0 : Below w.heap.size w (((w.alloc (.cells #[.int .i64 P, .int .i64 N, .slice A D.length cap] 27)).alloc (.cells #[.int .i64 0, .int .i64 0] 29)).alloc (.cells #[.int .i64 0, .int .i64 0] 29)) := (((Below.refl _ _).alloc (Nat.le_refl _) _).alloc (by simp) _).alloc (by simp; omega) _
  refine (validR_any P N A cap D _ (HD.out.below B0) hcp hcm).mono ?_
  rintro e w1 ⟨rfl, b1⟩
  rw [h1]
  obtain ⟨e0, f0⟩ := var_then b1 (a := ⟨w.heap.size + 1, 0, none⟩) (v := .int .i64 0) (by simp [go_sem])
  obtain ⟨e1, f1⟩ := var_then b1 (a := ⟨w.heap.size + 1, 1, none⟩) (v := .int .i64 0) (by simp [go_sem])
  obtain ⟨e2, f2⟩ := var_then b1 (a := ⟨w.heap.size + 1 + 1, 0, none⟩) (v := .int .i64 0) (by simp [go_sem])
  obtain ⟨e3, f3⟩ := var_then b1 (a := ⟨w.heap.size + 1 + 1, 1, none⟩) (v := .int .i64 0) (by simp [go_sem])
  go_wp2_with fail
  exact bodyPost_ret (v := .tuple #[pv 0 0, pv 0 0, .int .i64 50]) (by simp [results, Try.results19, go_sem, pv, e0, e1, e2, e3]) rfl ⟨rfl, ((((below_next B0 b1).setCell (by simp) _).setCell (by simp) _).setCell (by simp; omega) _).setCell (by simp; omega) _⟩
set_option maxRecDepth 100000 in
set_option maxHeartbeats 4000000 in
theorem endsR_yes (P N : Int) (A : Option Addr) (cap : Nat) (D : List Dot) (w : World) (hD : Dots w A D) (hcp : D.length ≤ cap) (hcm : (cap : Int) ≤ 9223372036854775807) (h1 : validB P N D = true) :
    Calls Try.prog 19 #[.agg #[.int .i64 P, .int .i64 N, .slice A D.length cap]] w fun e w' => e = .returned (.tuple #[pv (dotAt D 0).x (dotAt D 0).y, pv (dotAt D (D.length - 1)).x (dotAt D (D.length - 1)).y, .int .i64 0]) ∧ Below w.heap.size w w' := by
  obtain ⟨⟨p5, p6⟩, p0⟩ := valid_len h1
  have H1 := Lib.hid h1
  clear h1
  have hcp' : (D.length : Int) ≤ (cap : Int) := by omega
  obtain ⟨b, o, rfl, hlt, hc⟩ := hD.open_ p0
  have HD := Lib.hid hD
  have HC := Lib.hid hc
  clear hD hc
  go_enter Try.func19, Try.ntmps19
  go_wp2_with fail
  have B0 : Below w.heap.size w (((w.alloc (.cells #[.int .i64 P, .int .i64 N, .slice (some ⟨b, o, none⟩) D.length cap] 27)).alloc (.cells #[.int .i64 0, .int .i64 0] 29)).alloc (.cells #[.int .i64 0, .int .i64 0] 29)) := (((Below.refl _ _).alloc (Nat.le_refl _) _).alloc (by simp) _).alloc (by simp; omega) _
  refine (validR_any P N _ cap D _ (HD.out.below B0) hcp hcm).mono ?_
  rintro e w1 ⟨rfl, b1⟩
  rw [H1.out]
  have B1 := below_next B0 b1
  have e0 : w1.cell? ⟨w.heap.size, 2, none⟩ = some (.slice (some ⟨b, o, none⟩) D.length cap) := cell_then b1 (by simp [go_sem])
  obtain ⟨c0, c1, c2, c3⟩ := Dots.of_open B1 HC.out 0 p0
  obtain ⟨d0, d1, d2, d3⟩ := Dots.of_open B1 HC.out (D.length - 1) (by omega)
  have V1 : Var2 w1 (w.heap.size + 1) := Var2.of (var_then b1 (v := .int .i64 0) (by simp [go_sem])) (var_then b1 (v := .int .i64 0) (by simp [go_sem]))
  have V2 : Var2 w1 (w.heap.size + 1 + 1) := Var2.of (var_then b1 (v := .int .i64 0) (by simp [go_sem])) (var_then b1 (v := .int .i64 0) (by simp [go_sem]))
  clear B0 b1
  simp only [Nat.zero_mul, Nat.add_zero] at c0 c1 c2 c3
  have eq1 : ((D.length : Int) - 1).toNat = D.length - 1 := by omega
  have w1q : IntKind.i64.wrap ((D.length : Int) - 1) = (D.length : Int) - 1 := IntWalk.i64_in _ (by omega)
  have b01 : (0 : Int) ≤ (D.length : Int) - 1 := by omega
  have b02 : (D.length : Int) - 1 < (D.length : Int) := by omega
  have S0 : Below w.heap.size w w1 ∧ w1.cell? ⟨w.heap.size, 2, none⟩ = some (.slice (some ⟨b, o, none⟩) D.length cap) ∧ w1.cell? ⟨b, o, none⟩ = some (.int .i64 (dotAt D 0).x) ∧ w1.cell? ⟨b, o + 1, none⟩ = some (.int .i64 (dotAt D 0).y) ∧ w1.cell? ⟨b, o + 2, none⟩ = some (.int .i64 (dotAt D 0).t) ∧ w1.cell? ⟨b, o + 3, none⟩ = some (.int .i64 (dotAt D 0).p) ∧ w1.cell? ⟨b, o + (D.length - 1) * 4, none⟩ = some (.int .i64 (dotAt D (D.length - 1)).x) ∧ w1.cell? ⟨b, o + (D.length - 1) * 4 + 1, none⟩ = some (.int .i64 (dotAt D (D.length - 1)).y) ∧ w1.cell? ⟨b, o + (D.length - 1) * 4 + 2, none⟩ = some (.int .i64 (dotAt D (D.length - 1)).t) ∧ w1.cell? ⟨b, o + (D.length - 1) * 4 + 3, none⟩ = some (.int .i64 (dotAt D (D.length - 1)).p) ∧ Var2 w1 (w.heap.size + 1) ∧ Var2 w1 (w.heap.size + 1 + 1) := ⟨‹_›, ‹_›, ‹_›, ‹_›, ‹_›, ‹_›, ‹_›, ‹_›, ‹_›, ‹_›, ‹_›, ‹_›⟩
  go_wp2_with fail
  go_region_held3 (fun w' => Below w.heap.size w w' ∧ w'.cell? ⟨w.heap.size, 2, none⟩ = some (.slice (some ⟨b, o, none⟩) D.length cap) ∧ w'.cell? ⟨b, o, none⟩ = some (.int .i64 (dotAt D 0).x) ∧ w'.cell? ⟨b, o + 1, none⟩ = some (.int .i64 (dotAt D 0).y) ∧ w'.cell? ⟨b, o + 2, none⟩ = some (.int .i64 (dotAt D 0).t) ∧ w'.cell? ⟨b, o + 3, none⟩ = some (.int .i64 (dotAt D 0).p) ∧ w'.cell? ⟨b, o + (D.length - 1) * 4, none⟩ = some (.int .i64 (dotAt D (D.length - 1)).x) ∧ w'.cell? ⟨b, o + (D.length - 1) * 4 + 1, none⟩ = some (.int .i64 (dotAt D (D.length - 1)).y) ∧ w'.cell? ⟨b, o + (D.length - 1) * 4 + 2, none⟩ = some (.int .i64 (dotAt D (D.length - 1)).t) ∧ w'.cell? ⟨b, o + (D.length - 1) * 4 + 3, none⟩ = some (.int .i64 (dotAt D (D.length - 1)).p) ∧ Var2 w' (w.heap.size + 1) ∧ Var2 w' (w.heap.size + 1 + 1)) ((have hS := ‹Below w.heap.size w _ ∧ _›; refine ⟨?_, ?_, ?_, ?_, ?_, ?_, ?_, ?_, ?_, ?_, ?_, ?_⟩; (focus (first | with_reducible exact below_next hS.1 ‹Below _ _ _› | (repeat (first | with_reducible exact hS.1 | with_reducible exact Below.alloc hS.1 (Below.size hS.1) _ | with_reducible refine Below.setCell ?_ (by dsimp only; omega) _ | with_reducible refine Below.drew ?_)))); (focus (first | with_reducible exact cell_then ‹Below _ _ _› hS.2.1 | ((try simp only [World.cell?_drew]); repeat (first | with_reducible exact hS.2.1 | with_reducible refine cell_set _ ?_ (by dsimp only; omega) | with_reducible refine keep_alloc _ ?_)))); (focus (first | with_reducible exact cell_then ‹Below _ _ _› hS.2.2.1 | ((try simp only [World.cell?_drew]); repeat (first | with_reducible exact hS.2.2.1 | with_reducible refine cell_set _ ?_ (by dsimp only; omega) | with_reducible refine keep_alloc _ ?_)))); (focus (first | with_reducible exact cell_then ‹Below _ _ _› hS.2.2.2.1 | ((try simp only [World.cell?_drew]); repeat (first | with_reducible exact hS.2.2.2.1 | with_reducible refine cell_set _ ?_ (by dsimp only; omega) | with_reducible refine keep_alloc _ ?_)))); (focus (first | with_reducible exact cell_then ‹Below _ _ _› hS.2.2.2.2.1 | ((try simp only [World.cell?_drew]); repeat (first | with_reducible exact hS.2.2.2.2.1 | with_reducible refine cell_set _ ?_ (by dsimp only; omega) | with_reducible refine keep_alloc _ ?_)))); (focus (first | with_reducible exact cell_then ‹Below _ _ _› hS.2.2.2.2.2.1 | ((try simp only [World.cell?_drew]); repeat (first | with_reducible exact hS.2.2.2.2.2.1 | with_reducible refine cell_set _ ?_ (by dsimp only; omega) | with_reducible refine keep_alloc _ ?_)))); (focus (first | with_reducible exact cell_then ‹Below _ _ _› hS.2.2.2.2.2.2.1 | ((try simp only [World.cell?_drew]); repeat (first | with_reducible exact hS.2.2.2.2.2.2.1 | with_reducible refine cell_set _ ?_ (by dsimp only; omega) | with_reducible refine keep_alloc _ ?_)))); (focus (first | with_reducible exact cell_then ‹Below _ _ _› hS.2.2.2.2.2.2.2.1 | ((try simp only [World.cell?_drew]); repeat (first | with_reducible exact hS.2.2.2.2.2.2.2.1 | with_reducible refine cell_set _ ?_ (by dsimp only; omega) | with_reducible refine keep_alloc _ ?_)))); (focus (first | with_reducible exact cell_then ‹Below _ _ _› hS.2.2.2.2.2.2.2.2.1 | ((try simp only [World.cell?_drew]); repeat (first | with_reducible exact hS.2.2.2.2.2.2.2.2.1 | with_reducible refine cell_set _ ?_ (by dsimp only; omega) | with_reducible refine keep_alloc _ ?_)))); (focus (first | with_reducible exact cell_then ‹Below _ _ _› hS.2.2.2.2.2.2.2.2.2.1 | ((try simp only [World.cell?_drew]); repeat (first | with_reducible exact hS.2.2.2.2.2.2.2.2.2.1 | with_reducible refine cell_set _ ?_ (by dsimp only; omega) | with_reducible refine keep_alloc _ ?_)))); (focus (first | with_reducible exact Var2.then_ hS.2.2.2.2.2.2.2.2.2.2.1 ‹Below _ _ _› | (repeat (first | with_reducible exact hS.2.2.2.2.2.2.2.2.2.2.1 | with_reducible refine Var2.set_ ?_ _ _ | with_reducible refine Var2.alloc ?_ _ | with_reducible refine Var2.drew ?_)))); (focus (first | with_reducible exact Var2.then_ hS.2.2.2.2.2.2.2.2.2.2.2 ‹Below _ _ _› | (repeat (first | with_reducible exact hS.2.2.2.2.2.2.2.2.2.2.2 | with_reducible refine Var2.set_ ?_ _ _ | with_reducible refine Var2.alloc ?_ _ | with_reducible refine Var2.drew ?_)))))) (first | (go_at_call 45; refine (atR_any _ _).mono ?_; rintro e w' ⟨rfl, b'⟩; unfold pv))
  obtain ⟨F1, -⟩ := ‹Below w.heap.size w _ ∧ _›
  have X1 := (V1.drew.then_ ‹Below w1.drew.heap.size _ _›).then_ b'
  have X2 := (V2.drew.then_ ‹Below w1.drew.heap.size _ _›).then_ b'
  go_wp2_with fail
  exact bodyPost_ret (v := .tuple #[pv (dotAt D 0).x (dotAt D 0).y, pv (dotAt D (D.length - 1)).x (dotAt D (D.length - 1)).y, .int .i64 0]) (by simp [results, Try.results19, go_sem, pv, X1.c0, X1.c1, X2.c0, X2.c1]) rfl ⟨rfl, F1⟩
theorem within_mono {D : List Dot} {px py z : Int} {k : Nat} (h : withinTo D px py z k = true) : ∀ {n : Nat}, k ≤ n → withinTo D px py z n = true
  | n, hn => by
    induction n with
    | zero => obtain rfl : k = 0 := by omega
              exact h
    | succ n ih =>
      rcases (show k ≤ n ∨ k = n + 1 by omega) with h1 | h1
      · rw [withinTo, ih h1]; rfl
      · rw [← h1]; exact h
set_option maxRecDepth 100000 in
theorem wayR_no (P N : Int) (A : Option Addr) (cap : Nat) (D : List Dot) (w : World) (hD : Dots w A D) (hcp : D.length ≤ cap) (hcm : (cap : Int) ≤ 9223372036854775807) (h1 : validB P N D = false) :
    Calls Try.prog 17 #[.agg #[.int .i64 P, .int .i64 N, .slice A D.length cap]] w fun e w' => e = .returned (.tuple #[.int .i64 0, .int .i64 50]) ∧ Below w.heap.size w w' := by
  have B0 := below_alloc (Below.refl w.heap.size w) (.cells #[.int .i64 P, .int .i64 N, .slice A D.length cap] 27)
  have hc := validR_any P N A cap D _ (hD.below B0) hcp hcm
  rw [h1] at hc
  have HC := Lib.hid hc
  have HB0 := Lib.hid B0
  clear hc B0 hD h1
  go_enter Try.func17, Try.ntmps17
  go_wp2_with fail
  refine HC.out.mono ?_
  rintro e w1 ⟨rfl, b1⟩
  have HB := Lib.hid (below_next HB0.out b1)
  clear b1
  go_wp2_with fail
  exact bodyPost_ret (v := .tuple #[.int .i64 0, .int .i64 50]) (by simp [results, Try.results17]) rfl ⟨rfl, HB.out⟩
set_option maxRecDepth 100000 in
theorem withinR_no (P N : Int) (A : Option Addr) (cap : Nat) (D : List Dot) (px py z : Int) (w : World) (hD : Dots w A D) (hcp : D.length ≤ cap) (hcm : (cap : Int) ≤ 9223372036854775807) (h1 : validB P N D = false) :
    Calls Try.prog 32 #[.agg #[.int .i64 P, .int .i64 N, .slice A D.length cap], .agg #[.int .i64 px, .int .i64 py], .int .i64 z] w fun e w' => e = .returned (.bool false) ∧ Below w.heap.size w w' := by
  have B0 := below_alloc (below_alloc (Below.refl w.heap.size w) (.cells #[.int .i64 P, .int .i64 N, .slice A D.length cap] 27)) (.cells #[.int .i64 px, .int .i64 py] 29)
  have hc := validR_any P N A cap D _ (hD.below B0) hcp hcm
  rw [h1] at hc
  have HC := Lib.hid hc
  have HB0 := Lib.hid B0
  clear hc B0 hD h1
  go_enter Try.func32, Try.ntmps32
  go_wp2_with fail
  refine HC.out.mono ?_
  rintro e w1 ⟨rfl, b1⟩
  have HB := Lib.hid (below_next HB0.out b1)
  clear b1
  go_wp2_with fail
  go_ret
  exact ⟨rfl, HB.out⟩
set_option maxRecDepth 100000 in
set_option maxHeartbeats 4000000 in
theorem wayR_yes (P N : Int) (A : Option Addr) (cap : Nat) (D : List Dot) (w : World) (hD : Dots w A D) (hcp : D.length ≤ cap) (hcm : (cap : Int) ≤ 9223372036854775807) (h1 : validB P N D = true) :
    Calls Try.prog 17 #[.agg #[.int .i64 P, .int .i64 N, .slice A D.length cap]] w fun e w' => e = .returned (.tuple #[.int .i64 (wayF D), .int .i64 0]) ∧ Below w.heap.size w w' := by
  obtain ⟨⟨p5, p6⟩, p0⟩ := valid_len h1
  have hcp' : (D.length : Int) ≤ (cap : Int) := by omega
  have HPL := Lib.hid (placed (validB_dots h1))
  have HWB := Lib.hid (way_bd (placed (validB_dots h1)))
  have HD := Lib.hid hD
  have B0 := below_alloc (Below.refl w.heap.size w) (.cells #[.int .i64 P, .int .i64 N, .slice A D.length cap] 27)
  have hc := validR_any P N A cap D _ (hD.below B0) hcp hcm
  rw [h1] at hc
  have HC := Lib.hid hc
  have e0 : (w.alloc (.cells #[.int .i64 P, .int .i64 N, .slice A D.length cap] 27)).cell? ⟨w.heap.size, 2, none⟩ = some (.slice A D.length cap) := new_cell rfl
  have E0 := Lib.hid e0
  have HB0 := Lib.hid B0
  clear hc B0 hD h1 e0
  go_enter Try.func17, Try.ntmps17
  go_wp2_with fail
  refine HC.out.mono ?_
  rintro e w1 ⟨rfl, b1⟩
  have e1 := cell_then b1 E0.out
  have HB := Lib.hid (below_next HB0.out b1)
  have hl1 := lt_size e1
  clear b1 HC HB0 E0
  go_wp2_with fail
  go_loopw [4, 5] (fun s i wr => ∃ k : Nat, k + 1 ≤ D.length ∧ i = .int .i64 ((k + 1 : Nat) : Int) ∧ s = .int .i64 (wayTo D k) ∧ Below w1.heap.size w1 wr) (fun _ i _ => D.length - (intOf i).toNat)
  case atStart => exact ⟨0, by omega, rfl, rfl, Below.refl _ _⟩
  case round =>
    obtain ⟨k, hk, rfl, rfl, hB⟩ := hrel
    have e2 := cell_then hB e1
    have hl2 := lt_size e2
    have HBB := Lib.hid (below_next HB.out hB)
    by_cases hlt : k + 1 < D.length
    · obtain ⟨b, o, rfl, c0, c1, -, -⟩ := (HD.out.below HBB.out) (k + 1) hlt
      obtain ⟨b_, o_, e_, d0, d1, -, -⟩ := (HD.out.below HBB.out) k (by omega)
      cases e_
      have hst : wayTo D (k + 1) = wayTo D k + stp (dotAt D k) (dotAt D (k + 1)) := by rw [wayTo, show nx D k = k + 1 by unfold nx; omega]
      rw [← stp_ref] at hst
      have hwb := HWB.out k (by omega)
      have hpa := placeB_iff.1 (HPL.out _ (dotAt_mem (show k < D.length by omega)))
      have hpb := placeB_iff.1 (HPL.out _ (dotAt_mem hlt))
      obtain ⟨p, hp⟩ : ∃ p, dotAt D k = p := ⟨_, rfl⟩
      obtain ⟨q, hq⟩ : ∃ q, dotAt D (k + 1) = q := ⟨_, rfl⟩
      rw [hp, hq] at hst
      rw [hp] at d0 d1 hpa
      rw [hq] at c0 c1 hpb
      obtain ⟨px, py, pt, pp⟩ := p
      obtain ⟨qx, qy, qt, qp⟩ := q
      dsimp only at c0 c1 d0 d1 hpa hpb hst
      obtain ⟨V, hV⟩ : ∃ V, wayTo D k = V := ⟨_, rfl⟩
      rw [hV] at hst hwb ⊢
      have y1 : IntKind.i64.wrap (qx - px) = qx - px := IntWalk.i64_in _ (by omega)
      have y2 : IntKind.i64.wrap (qy - py) = qy - py := IntWalk.i64_in _ (by omega)
      have HS1 := Lib.hid (fun W => sizeR_below (qx - px) W (by omega))
      have HS2 := Lib.hid (fun W => sizeR_below (qy - py) W (by omega))
      have bs1 : 0 ≤ sizeI (qx - px) ∧ sizeI (qx - px) ≤ 4095 := by unfold sizeI; split <;> omega
      have bs2 : 0 ≤ sizeI (qy - py) ∧ sizeI (qy - py) ≤ 4095 := by unfold sizeI; split <;> omega
      obtain ⟨S1, h1⟩ : ∃ S, sizeI (qx - px) = S := ⟨_, rfl⟩
      obtain ⟨S2, h2⟩ : ∃ S, sizeI (qy - py) = S := ⟨_, rfl⟩
      rw [h1] at HS1 hst bs1
      rw [h2] at HS2 hst bs2
      have bm : 0 ≤ maxI S1 S2 ∧ maxI S1 S2 ≤ 4095 := by unfold maxI; split <;> omega
      obtain ⟨M, hM⟩ : ∃ M, maxI S1 S2 = M := ⟨_, rfl⟩
      rw [hM] at hst bm
      have j1 : (if S1 < S2 then S2 else S1) = M := hM
      have j2 : (if S2 < S1 then S1 else S2) = M := by rw [← hM]; unfold maxI; split <;> split <;> omega
      have j3 : (if S1 ≤ S2 then S2 else S1) = M := by rw [← hM]; unfold maxI; split <;> split <;> omega
      have j4 : (if S2 ≤ S1 then S1 else S2) = M := by rw [← hM]; unfold maxI; split <;> split <;> omega
      have y3 : IntKind.i64.wrap (V + M) = V + M := IntWalk.i64_in _ (by omega)
      have HST := Lib.hid hst
      have hk1 : ((k + 1 : Nat) : Int) < (D.length : Int) := by omega
      have hk2 : (0 : Int) ≤ ((k + 1 : Nat) : Int) := by omega
      have hk3 : (k : Int) < (D.length : Int) := by omega
      have hk4 : (0 : Int) ≤ (k : Int) := by omega
      have y4 : IntKind.i64.wrap (((k + 1 : Nat) : Int) - 1) = (k : Int) := by rw [show ((k + 1 : Nat) : Int) - 1 = (k : Int) by omega]; exact IntWalk.i64_in _ (by omega)
      have HBX := Lib.hid hB
      clear hp hq hst hV h1 h2 hM hB hpa hpb
      go_wp2_with fail
      have g_0 := fun D os => cell_regrown e2 D os
      have g_1 := fun D os => cell_regrown c0 D os
      have g_2 := fun D os => cell_regrown c1 D os
      have g_3 := fun D os => cell_regrown d0 D os
      have g_4 := fun D os => cell_regrown d1 D os
      refine wp_region_quiet_below (by kernel_rfl) (by kernel_rfl) ?_
      repeat (go_big_quiet_step (first | (with_reducible exact Calls.regrown_of (HS1.out _)) | (with_reducible exact Calls.regrown_of (HS2.out _))))
      refine wpQuiet_nil ?_
      intro wq hq0
      have hq := below_of_class hq0
      clear hq0
      clear g_0 g_1 g_2 g_3 g_4 j1 j2 j3 j4 y1 y2 y4
      have HQ := Lib.hid (below_next HBX.out hq)
      clear hq
      go_wp2_with fail
      exact ⟨⟨k + 1, by omega, by go_num, by rw [HST.out], HQ.out⟩, by simp [intOf]; omega⟩
    · have hk1 : D.length = k + 1 := by omega
      have hw : wayF D = wayTo D k := by rw [wayF, hk1]; rfl
      have HW := Lib.hid hw
      have hk2 : ¬ ((k + 1 : Nat) : Int) < (D.length : Int) := by omega
      clear hB hw hlt hk1
      go_wp2_with fail
      exact bodyPost_ret (v := .tuple #[.int .i64 (wayTo D k), .int .i64 0]) (by simp [results, Try.results17]) rfl ⟨by rw [HW.out], HBB.out⟩
set_option maxRecDepth 100000 in
set_option maxHeartbeats 4000000 in
theorem withinR_yes (P N : Int) (A : Option Addr) (cap : Nat) (D : List Dot) (px py z : Int) (w : World) (hD : Dots w A D) (hcp : D.length ≤ cap) (hcm : (cap : Int) ≤ 9223372036854775807) (h1 : validB P N D = true) :
    Calls Try.prog 32 #[.agg #[.int .i64 P, .int .i64 N, .slice A D.length cap], .agg #[.int .i64 px, .int .i64 py], .int .i64 z] w fun e w' => e = .returned (.bool (withinF D px py z)) ∧ Below w.heap.size w w' := by
  obtain ⟨⟨p5, p6⟩, p0⟩ := valid_len h1
  rw [← within_ref px py z (by omega) (placed (validB_dots h1))]
  have hcp' : (D.length : Int) ≤ (cap : Int) := by omega
  have HD := Lib.hid hD
  have B0 := below_alloc (below_alloc (Below.refl w.heap.size w) (.cells #[.int .i64 P, .int .i64 N, .slice A D.length cap] 27)) (.cells #[.int .i64 px, .int .i64 py] 29)
  have hc := validR_any P N A cap D _ (hD.below B0) hcp hcm
  rw [h1] at hc
  have HC := Lib.hid hc
  have e0 : ((w.alloc (.cells #[.int .i64 P, .int .i64 N, .slice A D.length cap] 27)).alloc (.cells #[.int .i64 px, .int .i64 py] 29)).cell? ⟨w.heap.size, 2, none⟩ = some (.slice A D.length cap) := keep_alloc _ (new_cell rfl)
  have x0 : ((w.alloc (.cells #[.int .i64 P, .int .i64 N, .slice A D.length cap] 27)).alloc (.cells #[.int .i64 px, .int .i64 py] 29)).cell? ⟨w.heap.size + 1, 0, none⟩ = some (.int .i64 px) := new_cell' rfl
  have x1 : ((w.alloc (.cells #[.int .i64 P, .int .i64 N, .slice A D.length cap] 27)).alloc (.cells #[.int .i64 px, .int .i64 py] 29)).cell? ⟨w.heap.size + 1, 1, none⟩ = some (.int .i64 py) := new_cell' rfl
  have E0 := Lib.hid e0
  have X0 := Lib.hid x0
  have X1 := Lib.hid x1
  have HB0 := Lib.hid B0
  clear hc B0 hD h1 e0 x0 x1
  go_enter Try.func32, Try.ntmps32
  go_wp2_with fail
  refine HC.out.mono ?_
  rintro e w1 ⟨rfl, b1⟩
  have e1 := cell_then b1 E0.out
  have y0 := cell_then b1 X0.out
  have y1 := cell_then b1 X1.out
  have HB := Lib.hid (below_next HB0.out b1)
  have hl1 := lt_size e1
  clear b1 HC HB0 E0 X0 X1
  go_wp2_with fail
  go_loopw [7] (fun i wr => ∃ k : Nat, k ≤ D.length ∧ i = .int .i64 (k : Int) ∧ withinTo D px py z k = false ∧ Below w1.heap.size w1 wr) (fun i _ => D.length - (intOf i).toNat)
  case atStart => exact ⟨0, by omega, rfl, rfl, Below.refl _ _⟩
  case round =>
    obtain ⟨k, hk, rfl, hno, hB⟩ := hrel
    have e2 := cell_then hB e1
    have z0 := cell_then hB y0
    have z1 := cell_then hB y1
    have hl2 := lt_size e2
    have HBB := Lib.hid (below_next HB.out hB)
    by_cases hlt : k < D.length
    · obtain ⟨b, o, rfl, c0, c1, c2, c3⟩ := (HD.out.below HBB.out) k hlt
      have hm : nx D k < D.length := by unfold nx; omega
      obtain ⟨b_, o_, e_, d0, d1, d2, d3⟩ := (HD.out.below HBB.out) (nx D k) hm
      cases e_
      have hst : withinTo D px py z (k + 1) = (withinTo D px py z k || nearB (dotAt D k).x (dotAt D k).y (dotAt D (nx D k)).x (dotAt D (nx D k)).y px py z) := rfl
      rw [hno, Bool.false_or] at hst
      have hmn : (if (D.length : Int) - 1 < (k : Int) + 1 then (D.length : Int) - 1 else (k : Int) + 1) = (nx D k : Int) := by unfold nx; split <;> omega
      obtain ⟨m, hmm⟩ : ∃ m, nx D k = m := ⟨_, rfl⟩
      rw [hmm] at d0 d1 d2 d3 hst hm hmn
      obtain ⟨p, hp⟩ : ∃ p, dotAt D k = p := ⟨_, rfl⟩
      obtain ⟨q, hq⟩ : ∃ q, dotAt D m = q := ⟨_, rfl⟩
      rw [hp, hq] at hst
      rw [hp] at c0 c1 c2 c3
      rw [hq] at d0 d1 d2 d3
      have HA1 := Lib.hid (fun W => atR_any p W)
      have HA2 := Lib.hid (fun W => atR_any q W)
      unfold pv at HA1 HA2
      have hnr := fun W => nearR_any p.x p.y q.x q.y px py z W
      obtain ⟨r, hr⟩ : ∃ r, nearB p.x p.y q.x q.y px py z = r := ⟨_, rfl⟩
      rw [hr] at hst hnr
      have HNR := Lib.hid hnr
      have HST := Lib.hid hst
      have t1 : IntKind.i64.wrap ((k : Int) + 1) = (k : Int) + 1 := IntWalk.i64_in _ (by omega)
      have t2 : IntKind.i64.wrap ((D.length : Int) - 1) = (D.length : Int) - 1 := IntWalk.i64_in _ (by omega)
      have j1 := hmn
      have j2 : (if (k : Int) + 1 < (D.length : Int) - 1 then (k : Int) + 1 else (D.length : Int) - 1) = (m : Int) := by rw [← hmn]; split <;> split <;> omega
      have j3 : (if (D.length : Int) - 1 ≤ (k : Int) + 1 then (D.length : Int) - 1 else (k : Int) + 1) = (m : Int) := by rw [← hmn]; split <;> split <;> omega
      have j4 : (if (k : Int) + 1 ≤ (D.length : Int) - 1 then (k : Int) + 1 else (D.length : Int) - 1) = (m : Int) := by rw [← hmn]; split <;> split <;> omega
      have hk1 : (k : Int) < (D.length : Int) := by omega
      have hk2 : (0 : Int) ≤ (k : Int) := by omega
      have hm1 : (m : Int) < (D.length : Int) := by omega
      have hm2 : (0 : Int) ≤ (m : Int) := by omega
      have HBX := Lib.hid hB
      clear hno hst hmn hmm hp hq hr hnr hB
      go_wp2_with fail
      have g_0 := fun D os => cell_regrown e2 D os
      have g_1 := fun D os => cell_regrown c0 D os
      have g_2 := fun D os => cell_regrown c1 D os
      have g_3 := fun D os => cell_regrown c2 D os
      have g_4 := fun D os => cell_regrown c3 D os
      have g_5 := fun D os => cell_regrown d0 D os
      have g_6 := fun D os => cell_regrown d1 D os
      have g_7 := fun D os => cell_regrown d2 D os
      have g_8 := fun D os => cell_regrown d3 D os
      have g_9 := fun D os => cell_regrown z0 D os
      have g_10 := fun D os => cell_regrown z1 D os
      refine wp_region_quiet_below (by kernel_rfl) (by kernel_rfl) ?_
      repeat (go_big_quiet_step (first | (with_reducible exact Calls.regrown_of (HA1.out _)) | (with_reducible exact Calls.regrown_of (HA2.out _)) | (with_reducible exact Calls.regrown_of (HNR.out _))))
      refine wpQuiet_nil ?_
      intro wq hq0
      have hq := below_of_class hq0
      clear hq0
      clear g_0 g_1 g_2 g_3 g_4 g_5 g_6 g_7 g_8 g_9 g_10 j1 j2 j3 j4 t1 t2
      have HQ := Lib.hid (below_next HBX.out hq)
      clear hq
      cases r with
      | true =>
        have HT := Lib.hid (within_mono HST.out (show k + 1 ≤ D.length by omega))
        go_wp2_with fail
        go_ret
        exact ⟨by rw [HT.out]; rfl, below_next HB.out HQ.out⟩
      | false =>
        go_wp2_with fail
        exact ⟨⟨k + 1, by omega, by go_num, HST.out, HQ.out⟩, by simp [intOf]; omega⟩
    · obtain rfl : k = D.length := by omega
      have HN := Lib.hid hno
      have hk2 : ¬ (D.length : Int) < (D.length : Int) := by omega
      clear hB hlt hno
      go_wp2_with fail
      go_ret
      exact ⟨by rw [HN.out]; rfl, HBB.out⟩
end Go.Proofs.Ytgmabepdhbnppaa
