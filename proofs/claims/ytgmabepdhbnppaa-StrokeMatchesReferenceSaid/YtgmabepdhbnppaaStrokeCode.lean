/- Package stroke: Code and Ends. -/
import Derived.Test.YtgmabepdhbnppaaStrokeValid
namespace Go.Proofs.Ytgmabepdhbnppaa
open Go.RowKit Str
attribute [local go_sem ↓] Var2.c0 Var2.c1 Var2.f0 Var2.f1
theorem valid_len {P N : Int} {D : List Dot} (h : validB P N D = true) : (1 ≤ (D.length : Int) ∧ (D.length : Int) ≤ 200) ∧ 0 < D.length := by
  rw [validB, Bool.and_eq_true, headB_iff] at h
  omega
theorem validB_dots {P N : Int} {D : List Dot} (h : validB P N D = true) : dotsB 0 D = true := by
  rw [validB, Bool.and_eq_true] at h; exact h.2
theorem code_any (P N : Int) (A : Option Addr) (cap : Nat) (D : List Dot) (w : World) (hD : Dots w A D) (hn : (D.length : Int) ≤ 4611686018427387904) :
    Calls Try.prog 22 #[.agg #[.int .i64 P, .int .i64 N, .slice A D.length cap]] w fun e w' => e = .returned (.int .i64 (if validB P N D = true then 1000 * P + N else 0)) ∧ Below w.heap.size w w' := by
  have hv := fun W hb => (valid_any P N A cap D W (hD.below hb) hn)
  have B0 : Below w.heap.size w (w.alloc (.cells #[.int .i64 P, .int .i64 N, .slice A D.length cap] 27)) := (Below.refl _ _).alloc (Nat.le_refl _) _
  have HV := Lib.hid (hv _ B0)
  clear hv
  cases h1 : validB P N D with
  | false =>
    rw [if_neg (by simp)]
    go_enter Try.func22, Try.ntmps22
    go_wp2_with fail
    refine HV.out.mono ?_
    rintro e w1 ⟨rfl, b1⟩
    rw [h1]
    go_wp2_with fail
    go_ret
    exact ⟨rfl, below_next B0 b1⟩
  | true =>
    rw [if_pos rfl]
    have hb := h1
    rw [validB, Bool.and_eq_true, headB_iff] at hb
    have H1 := Lib.hid h1
    clear h1
    obtain ⟨⟨⟨p1, p2⟩, ⟨p3, p4⟩, p5, p6⟩, p7⟩ := hb
    clear p7
    go_enter Try.func22, Try.ntmps22
    go_wp2_with fail
    refine HV.out.mono ?_
    rintro e w1 ⟨rfl, b1⟩
    rw [H1.out]
    have e0 : w1.cell? ⟨w.heap.size, 0, none⟩ = some (.int .i64 P) := cell_then b1 (by simp [go_sem])
    have e1 : w1.cell? ⟨w.heap.size, 1, none⟩ = some (.int .i64 N) := cell_then b1 (by simp [go_sem])
    go_wp2_with fail
    go_ret
    exact ⟨rfl, below_next B0 b1⟩
/-- a struct's cells in a world behind a contract -/
theorem ends_no (P N : Int) (A : Option Addr) (cap : Nat) (D : List Dot) (w : World) (hD : Dots w A D) (hn : (D.length : Int) ≤ 4611686018427387904) (h1 : validB P N D = false) :
    Calls Try.prog 18 #[.agg #[.int .i64 P, .int .i64 N, .slice A D.length cap]] w fun e w' => e = .returned (.tuple #[pv 0 0, pv 0 0, .int .i64 50]) ∧ Below w.heap.size w w' := by
  have HD := Lib.hid hD
  clear hD
  go_enter Try.func18, Try.ntmps18
  go_wp2_with fail
  have B0 : Below w.heap.size w (((w.alloc (.cells #[.int .i64 P, .int .i64 N, .slice A D.length cap] 27)).alloc (.cells #[.int .i64 0, .int .i64 0] 29)).alloc (.cells #[.int .i64 0, .int .i64 0] 29)) := (((Below.refl _ _).alloc (Nat.le_refl _) _).alloc (by simp) _).alloc (by simp; omega) _
  refine (valid_any P N A cap D _ (HD.out.below B0) hn).mono ?_
  rintro e w1 ⟨rfl, b1⟩
  rw [h1]
  obtain ⟨e0, f0⟩ := var_then b1 (a := ⟨w.heap.size + 1, 0, none⟩) (v := .int .i64 0) (by simp [go_sem])
  obtain ⟨e1, f1⟩ := var_then b1 (a := ⟨w.heap.size + 1, 1, none⟩) (v := .int .i64 0) (by simp [go_sem])
  obtain ⟨e2, f2⟩ := var_then b1 (a := ⟨w.heap.size + 1 + 1, 0, none⟩) (v := .int .i64 0) (by simp [go_sem])
  obtain ⟨e3, f3⟩ := var_then b1 (a := ⟨w.heap.size + 1 + 1, 1, none⟩) (v := .int .i64 0) (by simp [go_sem])
  go_wp2_with fail
  exact bodyPost_ret (v := .tuple #[pv 0 0, pv 0 0, .int .i64 50]) (by simp [results, Try.results18, go_sem, pv, e0, e1, e2, e3]) rfl ⟨rfl, ((((below_next B0 b1).setCell (by simp) _).setCell (by simp) _).setCell (by simp; omega) _).setCell (by simp; omega) _⟩
set_option maxRecDepth 100000 in
set_option maxHeartbeats 4000000 in
theorem ends_yes (P N : Int) (A : Option Addr) (cap : Nat) (D : List Dot) (w : World) (hD : Dots w A D) (h1 : validB P N D = true) :
    Calls Try.prog 18 #[.agg #[.int .i64 P, .int .i64 N, .slice A D.length cap]] w fun e w' => e = .returned (.tuple #[pv (dotAt D 0).x (dotAt D 0).y, pv (dotAt D (D.length - 1)).x (dotAt D (D.length - 1)).y, .int .i64 0]) ∧ Below w.heap.size w w' := by
  obtain ⟨⟨p5, p6⟩, p0⟩ := valid_len h1
  have H1 := Lib.hid h1
  clear h1
  obtain ⟨b, o, rfl, hlt, hc⟩ := hD.open_ p0
  have HD := Lib.hid hD
  have HC := Lib.hid hc
  clear hD hc
  go_enter Try.func18, Try.ntmps18
  go_wp2_with fail
  have B0 : Below w.heap.size w (((w.alloc (.cells #[.int .i64 P, .int .i64 N, .slice (some ⟨b, o, none⟩) D.length cap] 27)).alloc (.cells #[.int .i64 0, .int .i64 0] 29)).alloc (.cells #[.int .i64 0, .int .i64 0] 29)) := (((Below.refl _ _).alloc (Nat.le_refl _) _).alloc (by simp) _).alloc (by simp; omega) _
  refine (valid_any P N _ cap D _ (HD.out.below B0) (by omega)).mono ?_
  rintro e w1 ⟨rfl, b1⟩
  rw [H1.out]
  have B1 := below_next B0 b1
  have e0 : w1.cell? ⟨w.heap.size, 2, none⟩ = some (.slice (some ⟨b, o, none⟩) D.length cap) := cell_then b1 (by simp [go_sem])
  obtain ⟨c0, c1, c2, c3⟩ := Dots.of_open B1 HC.out 0 p0
  obtain ⟨d0, d1, d2, d3⟩ := Dots.of_open B1 HC.out (D.length - 1) (by omega)
  have V1 : Var2 w1 (w.heap.size + 1) := Var2.of (var_then b1 (v := .int .i64 0) (by simp [go_sem])) (var_then b1 (v := .int .i64 0) (by simp [go_sem]))
  have V2 : Var2 w1 (w.heap.size + 1 + 1) := Var2.of (var_then b1 (v := .int .i64 0) (by simp [go_sem])) (var_then b1 (v := .int .i64 0) (by simp [go_sem]))
  clear B0 b1
  simp only [Nat.zero_mul, Nat.add_zero] at c0 c1 c2 c3
  have eq1 : ((D.length : Int) - 1).toNat = D.length - 1 := by omega
  have w1q : IntKind.i64.wrap ((D.length : Int) - 1) = (D.length : Int) - 1 := IntWalk.i64_in _ (by omega)
  have b01 : (0 : Int) ≤ (D.length : Int) - 1 := by omega
  have b02 : (D.length : Int) - 1 < (D.length : Int) := by omega
  have S0 : Below w.heap.size w w1 ∧ w1.cell? ⟨w.heap.size, 2, none⟩ = some (.slice (some ⟨b, o, none⟩) D.length cap) ∧ w1.cell? ⟨b, o, none⟩ = some (.int .i64 (dotAt D 0).x) ∧ w1.cell? ⟨b, o + 1, none⟩ = some (.int .i64 (dotAt D 0).y) ∧ w1.cell? ⟨b, o + 2, none⟩ = some (.int .i64 (dotAt D 0).t) ∧ w1.cell? ⟨b, o + 3, none⟩ = some (.int .i64 (dotAt D 0).p) ∧ w1.cell? ⟨b, o + (D.length - 1) * 4, none⟩ = some (.int .i64 (dotAt D (D.length - 1)).x) ∧ w1.cell? ⟨b, o + (D.length - 1) * 4 + 1, none⟩ = some (.int .i64 (dotAt D (D.length - 1)).y) ∧ w1.cell? ⟨b, o + (D.length - 1) * 4 + 2, none⟩ = some (.int .i64 (dotAt D (D.length - 1)).t) ∧ w1.cell? ⟨b, o + (D.length - 1) * 4 + 3, none⟩ = some (.int .i64 (dotAt D (D.length - 1)).p) ∧ Var2 w1 (w.heap.size + 1) ∧ Var2 w1 (w.heap.size + 1 + 1) := ⟨‹_›, ‹_›, ‹_›, ‹_›, ‹_›, ‹_›, ‹_›, ‹_›, ‹_›, ‹_›, ‹_›, ‹_›⟩
  go_wp2_with fail
  go_region_held3 (fun w' => Below w.heap.size w w' ∧ w'.cell? ⟨w.heap.size, 2, none⟩ = some (.slice (some ⟨b, o, none⟩) D.length cap) ∧ w'.cell? ⟨b, o, none⟩ = some (.int .i64 (dotAt D 0).x) ∧ w'.cell? ⟨b, o + 1, none⟩ = some (.int .i64 (dotAt D 0).y) ∧ w'.cell? ⟨b, o + 2, none⟩ = some (.int .i64 (dotAt D 0).t) ∧ w'.cell? ⟨b, o + 3, none⟩ = some (.int .i64 (dotAt D 0).p) ∧ w'.cell? ⟨b, o + (D.length - 1) * 4, none⟩ = some (.int .i64 (dotAt D (D.length - 1)).x) ∧ w'.cell? ⟨b, o + (D.length - 1) * 4 + 1, none⟩ = some (.int .i64 (dotAt D (D.length - 1)).y) ∧ w'.cell? ⟨b, o + (D.length - 1) * 4 + 2, none⟩ = some (.int .i64 (dotAt D (D.length - 1)).t) ∧ w'.cell? ⟨b, o + (D.length - 1) * 4 + 3, none⟩ = some (.int .i64 (dotAt D (D.length - 1)).p) ∧ Var2 w' (w.heap.size + 1) ∧ Var2 w' (w.heap.size + 1 + 1)) ((have hS := ‹Below w.heap.size w _ ∧ _›; refine ⟨?_, ?_, ?_, ?_, ?_, ?_, ?_, ?_, ?_, ?_, ?_, ?_⟩; (focus (first | with_reducible exact below_next hS.1 ‹Below _ _ _› | (repeat (first | with_reducible exact hS.1 | with_reducible exact Below.alloc hS.1 (Below.size hS.1) _ | with_reducible refine Below.setCell ?_ (by dsimp only; omega) _ | with_reducible refine Below.drew ?_)))); (focus (first | with_reducible exact cell_then ‹Below _ _ _› hS.2.1 | ((try simp only [World.cell?_drew]); repeat (first | with_reducible exact hS.2.1 | with_reducible refine cell_set _ ?_ (by dsimp only; omega) | with_reducible refine keep_alloc _ ?_)))); (focus (first | with_reducible exact cell_then ‹Below _ _ _› hS.2.2.1 | ((try simp only [World.cell?_drew]); repeat (first | with_reducible exact hS.2.2.1 | with_reducible refine cell_set _ ?_ (by dsimp only; omega) | with_reducible refine keep_alloc _ ?_)))); (focus (first | with_reducible exact cell_then ‹Below _ _ _› hS.2.2.2.1 | ((try simp only [World.cell?_drew]); repeat (first | with_reducible exact hS.2.2.2.1 | with_reducible refine cell_set _ ?_ (by dsimp only; omega) | with_reducible refine keep_alloc _ ?_)))); (focus (first | with_reducible exact cell_then ‹Below _ _ _› hS.2.2.2.2.1 | ((try simp only [World.cell?_drew]); repeat (first | with_reducible exact hS.2.2.2.2.1 | with_reducible refine cell_set _ ?_ (by dsimp only; omega) | with_reducible refine keep_alloc _ ?_)))); (focus (first | with_reducible exact cell_then ‹Below _ _ _› hS.2.2.2.2.2.1 | ((try simp only [World.cell?_drew]); repeat (first | with_reducible exact hS.2.2.2.2.2.1 | with_reducible refine cell_set _ ?_ (by dsimp only; omega) | with_reducible refine keep_alloc _ ?_)))); (focus (first | with_reducible exact cell_then ‹Below _ _ _› hS.2.2.2.2.2.2.1 | ((try simp only [World.cell?_drew]); repeat (first | with_reducible exact hS.2.2.2.2.2.2.1 | with_reducible refine cell_set _ ?_ (by dsimp only; omega) | with_reducible refine keep_alloc _ ?_)))); (focus (first | with_reducible exact cell_then ‹Below _ _ _› hS.2.2.2.2.2.2.2.1 | ((try simp only [World.cell?_drew]); repeat (first | with_reducible exact hS.2.2.2.2.2.2.2.1 | with_reducible refine cell_set _ ?_ (by dsimp only; omega) | with_reducible refine keep_alloc _ ?_)))); (focus (first | with_reducible exact cell_then ‹Below _ _ _› hS.2.2.2.2.2.2.2.2.1 | ((try simp only [World.cell?_drew]); repeat (first | with_reducible exact hS.2.2.2.2.2.2.2.2.1 | with_reducible refine cell_set _ ?_ (by dsimp only; omega) | with_reducible refine keep_alloc _ ?_)))); (focus (first | with_reducible exact cell_then ‹Below _ _ _› hS.2.2.2.2.2.2.2.2.2.1 | ((try simp only [World.cell?_drew]); repeat (first | with_reducible exact hS.2.2.2.2.2.2.2.2.2.1 | with_reducible refine cell_set _ ?_ (by dsimp only; omega) | with_reducible refine keep_alloc _ ?_)))); (focus (first | with_reducible exact Var2.then_ hS.2.2.2.2.2.2.2.2.2.2.1 ‹Below _ _ _› | (repeat (first | with_reducible exact hS.2.2.2.2.2.2.2.2.2.2.1 | with_reducible refine Var2.set_ ?_ _ _ | with_reducible refine Var2.alloc ?_ _ | with_reducible refine Var2.drew ?_)))); (focus (first | with_reducible exact Var2.then_ hS.2.2.2.2.2.2.2.2.2.2.2 ‹Below _ _ _› | (repeat (first | with_reducible exact hS.2.2.2.2.2.2.2.2.2.2.2 | with_reducible refine Var2.set_ ?_ _ _ | with_reducible refine Var2.alloc ?_ _ | with_reducible refine Var2.drew ?_)))))) (first | (go_at_call 42; refine (at_any _ _).mono ?_; rintro e w' ⟨rfl, b'⟩; unfold pv))
  obtain ⟨F1, -⟩ := ‹Below w.heap.size w _ ∧ _›
  have X1 := (V1.drew.then_ ‹Below w1.drew.heap.size _ _›).then_ b'
  have X2 := (V2.drew.then_ ‹Below w1.drew.heap.size _ _›).then_ b'
  go_wp2_with fail
  exact bodyPost_ret (v := .tuple #[pv (dotAt D 0).x (dotAt D 0).y, pv (dotAt D (D.length - 1)).x (dotAt D (D.length - 1)).y, .int .i64 0]) (by simp [results, Try.results18, go_sem, pv, X1.c0, X1.c1, X2.c0, X2.c1]) rfl ⟨rfl, F1⟩
end Go.Proofs.Ytgmabepdhbnppaa
