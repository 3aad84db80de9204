/- The chapter's example: a page of two strokes, its values; refusals. The laws' check of the chapter's examples. The strokes' reference: At, Place, Valid, Code of a valid stroke. 'append(v, s...)', any number of elements, none too, onto a slice of the call's own, as a step of a drawn region and of the walk. No program stands here. -/
import Derived.Test.YtgopadbdnndkiaaPi
import Derived.Test.YtgopadbdnndkiaaPj
import Derived.Test.YtgopadbdnndkiaaPb
import Derived.Test.YtgopadbdnndkiaaPc
import Derived.Maps.AppendAt
namespace Go.Proofs.Ytgopadbdnndkiaa.Pt
open Go.RowKit Str
attribute [local go_sem] Oper.semAt_some
/-- the example's page -/
def exL (A1 A2 : Option Addr) : List Stk := [⟨0, 1, A1, 2, [⟨100, 0, 0, 0⟩, ⟨200, 0, 0, 0⟩]⟩, ⟨0, 2, A2, 2, [⟨500, 0, 0, 0⟩, ⟨210, 0, 0, 0⟩]⟩]
theorem ex_ok (A1 A2 : Option Addr) : PageOk (exL A1 A2) := by
  refine ⟨show 2 ≤ 9 by omega, fun i hi => ?_, fun i hi => ?_, fun i hi => ?_⟩
  · have : i = 0 ∨ i = 1 := by have : i < 2 := hi; omega
    rcases this with rfl | rfl <;> rfl
  · have : i = 0 ∨ i = 1 := by have : i < 2 := hi; omega
    rcases this with rfl | rfl <;> exact Nat.le_refl 2
  · have : i = 0 := by have : i + 1 < 2 := hi; omega
    subst this; show (1000 * 0 + 1 : Int) < 1000 * 0 + 2; omega
theorem ex_best (A1 A2 : Option Addr) : bestR (exL A1 A2) = [0, 3] := by kernel_rfl
theorem ex_val (A1 A2 : Option Addr) : Plt.val 2 (gapF (exL A1 A2)) 0 18 = 110 := by kernel_rfl
theorem ex_far (A1 A2 : Option Addr) : lift (exL A1 A2) (0, 0) [0, 2] = 400 := by kernel_rfl
theorem ex_t18 (A1 A2 : Option Addr) : Plt.tab 2 (gapF (exL A1 A2)) 18 = 10 := by kernel_rfl
theorem ex_t19 (A1 A2 : Option Addr) : Plt.tab 2 (gapF (exL A1 A2)) 19 = 110 := by kernel_rfl
theorem ex_t54 (A1 A2 : Option Addr) : Plt.tab 2 (gapF (exL A1 A2)) 54 = 0 := by kernel_rfl
theorem ex_pulls (A1 A2 : Option Addr) : pulsR (exL A1 A2) [0, 3] = [⟨false, 100, 0⟩, ⟨true, 200, 0⟩, ⟨false, 210, 0⟩, ⟨true, 500, 0⟩] := by kernel_rfl
theorem ex_read : rdL [⟨false, 100, 0⟩, ⟨true, 200, 0⟩, ⟨false, 210, 0⟩, ⟨true, 500, 0⟩] = [[(100, 0), (200, 0)], [(210, 0), (500, 0)]] := by kernel_rfl
theorem ex_b110 (A1 A2 : Option Addr) : Plt.boundsB 2 (gapF (exL A1 A2)) (Plt.tab 2 (gapF (exL A1 A2))) 110 = true := (Plt.bounds_tab (by decide) (gapF_bd (ex_ok A1 A2))).2 (by rw [ex_val]; decide)
theorem ex_b111 (A1 A2 : Option Addr) : Plt.boundsB 2 (gapF (exL A1 A2)) (Plt.tab 2 (gapF (exL A1 A2))) 111 = false := by
  cases h : Plt.boundsB 2 (gapF (exL A1 A2)) (Plt.tab 2 (gapF (exL A1 A2))) 111 with
  | false => rfl
  | true =>
    have := (Plt.bounds_tab (by decide) (gapF_bd (ex_ok A1 A2))).1 h
    rw [ex_val] at this
    omega
theorem ex_fresh3 : Fresh 2 0 [0, 3] := by
  refine ⟨Plt.mem_left.2 ⟨by decide, by decide⟩, Plt.mem_left.2 ⟨by decide, by decide⟩, trivial⟩
theorem ex_fresh2 : Fresh 2 0 [0, 2] := by
  refine ⟨Plt.mem_left.2 ⟨by decide, by decide⟩, Plt.mem_left.2 ⟨by decide, by decide⟩, trivial⟩
set_option maxRecDepth 100000 in
set_option maxHeartbeats 4000000 in
/-- a first pull that is down is refused -/
theorem read_first (b c : Nat) (w : World) (c0 : w.cell? ⟨b, 0, none⟩ = some (.bool true)) (c1 : w.cell? ⟨b, 1, none⟩ = some (.int .i64 0)) (c2 : w.cell? ⟨b, 2, none⟩ = some (.int .i64 0)) :
    Calls Try.prog 18 #[.slice (some ⟨b, 0, none⟩) 1 c] w fun e w' => e = .returned (.tuple #[.slice none 0 0, .int .i64 260]) ∧ Below w.heap.size w w' := by
  have HPP := Lib.hid (fun W => place_any 0 0 W)
  unfold pv at HPP
  have hB : placeB 0 0 = true := by decide
  rw [hB] at HPP
  clear hB
  go_enter Try.func18, Try.ntmps18
  go_wp2_with fail
  go_loopw [4, 13] (fun v j wr => v = .slice none 0 0 ∧ j = .int .i64 0 ∧ wr = w) (fun _ _ _ => 1)
  case atStart => exact ⟨rfl, rfl, rfl⟩
  case round =>
    obtain ⟨rfl, rfl, rfl⟩ := hrel
    have hbl := lt_size c0
    go_wp2_with fail
    refine (HPP.out _).mono ?_
    rintro e w2 ⟨rfl, b2⟩
    have a0 : w2.cell? ⟨wr.heap.size, 0, none⟩ = some (.bool true) := cell_then b2 (new_cell rfl)
    have HB := Lib.hid (below_next (below_alloc (Below.refl wr.heap.size wr) (.cells #[.bool true, .int .i64 0, .int .i64 0] 66)) b2)
    clear b2
    go_wp2_with fail
    exact bodyPost_ret (results_tmp2 rfl _ _ _) rfl ⟨rfl, HB.out⟩
set_option maxRecDepth 100000 in
set_option maxHeartbeats 4000000 in
/-- a page of an empty stroke is not valid -/
theorem valid_empty (b c : Nat) (w : World) (c0 : w.cell? ⟨b, 0, none⟩ = some (.int .i64 0)) (c1 : w.cell? ⟨b, 1, none⟩ = some (.int .i64 0)) (c2 : w.cell? ⟨b, 2, none⟩ = some (.slice none 0 0)) :
    Calls Try.prog 26 #[.slice (some ⟨b, 0, none⟩) 1 c] w fun e w' => e = .returned (.bool false) ∧ Below w.heap.size w w' := by
  have HV := Lib.hid (fun W => valid_any 0 0 none 0 [] W (fun i hi => by simp at hi) (by simp))
  have hB : validB 0 0 [] = false := by decide
  rw [hB] at HV
  simp only [List.length_nil] at HV
  clear hB
  go_enter Try.func26, Try.ntmps26
  go_wp2_with fail
  go_loopw [7] (fun j wr => j = .int .i64 0 ∧ wr = w) (fun _ _ => 1)
  case atStart => exact ⟨rfl, rfl⟩
  case round =>
    obtain ⟨rfl, rfl⟩ := hrel
    go_wp2_with fail
    have n0 : (wr.alloc (.cells #[.int .i64 0, .int .i64 0, .slice none 0 0] 50)).cell? ⟨wr.heap.size, 0, none⟩ = some (.int .i64 0) := new_cell rfl
    have n1 : (wr.alloc (.cells #[.int .i64 0, .int .i64 0, .slice none 0 0] 50)).cell? ⟨wr.heap.size, 1, none⟩ = some (.int .i64 0) := new_cell rfl
    have n2 : (wr.alloc (.cells #[.int .i64 0, .int .i64 0, .slice none 0 0] 50)).cell? ⟨wr.heap.size, 2, none⟩ = some (.slice none 0 0) := new_cell rfl
    have g_0 := fun D os => cell_regrown n0 D os
    have g_1 := fun D os => cell_regrown n1 D os
    have g_2 := fun D os => cell_regrown n2 D os
    clear n0 n1 n2
    refine wp_region_quiet_below (by kernel_rfl) (by kernel_rfl) ?_
    repeat (go_big_quiet_step (first | (with_reducible exact Calls.regrown_of (HV.out _))))
    refine wpQuiet_nil ?_
    intro wq hq0
    have hq := below_of_class hq0
    clear hq0
    clear g_0 g_1 g_2
    have HB := Lib.hid (below_next (below_alloc (Below.refl wr.heap.size wr) (.cells #[.int .i64 0, .int .i64 0, .slice none 0 0] 50)) hq)
    clear hq
    go_wp2_with fail
    go_ret
    exact ⟨rfl, HB.out⟩
end Go.Proofs.Ytgopadbdnndkiaa.Pt
namespace Go.Proofs.Ytgopadbdnndkiaa.Pt
open Go.RowKit Str
attribute [local go_sem] Oper.semAt_some
set_option maxRecDepth 100000 in
set_option maxHeartbeats 4000000 in
theorem example_any (w : World) : Calls Try.prog 24 #[] w fun e w' => ∃ g A1 A2, e = .returned (.slice (some ⟨g, 0, none⟩) 2 2) ∧ PageAt w' (some ⟨g, 0, none⟩) (exL A1 A2) ∧ Below w.heap.size w w' := by
  go_enter Try.func24, Try.ntmps24
  go_wp2_with fail
  go_ret
  refine ⟨w.heap.size + 1 + 1, some ⟨w.heap.size, 0, none⟩, some ⟨w.heap.size + 1, 0, none⟩, rfl, fun i hi => ⟨w.heap.size + 1 + 1, 0, rfl, ?_⟩, below_alloc (below_alloc (below_alloc (Below.refl _ _) _) _) _⟩
  have : i = 0 ∨ i = 1 := by have : i < 2 := hi; omega
  rcases this with rfl | rfl
  · refine ⟨by simp [go_sem, exL], by simp [go_sem, exL], by simp [go_sem, exL], fun k hk => ⟨w.heap.size, 0, rfl, ?_⟩⟩
    have : k = 0 ∨ k = 1 := by have : k < 2 := hk; omega
    rcases this with rfl | rfl <;> simp [go_sem, exL, dotAt]
  · refine ⟨by simp [go_sem, exL], by simp [go_sem, exL], by simp [go_sem, exL], fun k hk => ⟨w.heap.size + 1, 0, rfl, ?_⟩⟩
    have : k = 0 ∨ k = 1 := by have : k < 2 := hk; omega
    rcases this with rfl | rfl <;> simp [go_sem, exL, dotAt]
theorem rds_two {w : World} {g : Nat} {a b : Int} {x y : Bool} (h0 : w.cell? ⟨g, 0, none⟩ = some (.int .i64 a)) (h1 : w.cell? ⟨g, 1, none⟩ = some (.bool x)) (h2 : w.cell? ⟨g, 2, none⟩ = some (.int .i64 b)) (h3 : w.cell? ⟨g, 3, none⟩ = some (.bool y)) : RdsAt w (some ⟨g, 0, none⟩) [(a, x), (b, y)] := fun i hi => by
  have : i = 0 ∨ i = 1 := by have : i < 2 := hi; omega
  rcases this with rfl | rfl
  · exact ⟨g, 0, rfl, h0, h1⟩
  · exact ⟨g, 0, rfl, h2, h3⟩
theorem ex_pok : PulsOk [⟨false, 100, 0⟩, ⟨true, 200, 0⟩, ⟨false, 210, 0⟩, ⟨true, 500, 0⟩] := by
  refine ⟨by decide, fun i hi => ?_, fun i hi hd => ?_⟩
  · have : i = 0 ∨ i = 1 ∨ i = 2 ∨ i = 3 := by have : i < 4 := hi; omega
    rcases this with rfl | rfl | rfl | rfl <;> decide
  · have : i = 0 ∨ i = 1 ∨ i = 2 ∨ i = 3 := by have : i < 4 := hi; omega
    rcases this with rfl | rfl | rfl | rfl
    · cases hd
    · decide
    · cases hd
    · decide
set_option maxRecDepth 100000 in
set_option maxHeartbeats 8000000 in
theorem sane_any (w : World) : Calls Try.prog 9 #[] w fun e w' => e = .returned (.bool true) ∧ Below w.heap.size w w' := by
  have HEX := Lib.hid (example_any w)
  go_enter Try.func9, Try.ntmps9
  go_wp2_with fail
  refine HEX.out.mono ?_
  rintro e w1 ⟨gp, A1, A2, rfl, hp, b1⟩
  have HO := Lib.hid (ex_ok A1 A2)
  have HP := Lib.hid hp
  have HB1 := Lib.hid b1
  have hbest := best_any (some ⟨gp, 0, none⟩) 2 (exL A1 A2) w1 hp (ex_ok A1 A2) (Nat.le_refl 2)
  rw [ex_best] at hbest
  rw [show (exL A1 A2).length = 2 from rfl, ex_val] at hbest
  have HBEST := Lib.hid hbest
  clear hp b1 hbest HEX
  go_wp2_with fail
  refine HBEST.out.mono ?_
  rintro e w2 ⟨v2, rfl, own2, b2⟩
  obtain ⟨AR, cR, rfl, hcR⟩ := own_slice own2
  have hrd2 : RdsAt w2 AR [(1, false), (2, true)] := rds_of_own own2
  have HRD := Lib.hid hrd2
  have HW2 := Lib.hid b2
  clear own2 b2 hrd2 HBEST
  go_wp2_with fail
  have HPA := Lib.hid (fun W (hW : Below w1.heap.size w1 W) => HP.out.then_ hW)
  have hb2 : Below w1.heap.size w1 (w2.alloc (.cells #[.int .i64 1, .bool false, .int .i64 2, .bool false] 35)) := below_alloc HW2.out _
  have hlf := lifted_any (some ⟨gp, 0, none⟩) 2 (exL A1 A2) (some ⟨w2.heap.size, 0, none⟩) 2 [0, 2] _ (HPA.out _ hb2) HO.out (rds_two (new_cell rfl) (new_cell rfl) (new_cell rfl) (new_cell rfl)) ex_fresh2 (Nat.le_refl 2) rfl
  rw [show (exL A1 A2).length = 2 from rfl, ex_far] at hlf
  have HLF := Lib.hid hlf
  have HW2b := Lib.hid hb2
  clear hlf hb2
  refine HLF.out.mono ?_
  rintro e w3 ⟨rfl, b3⟩
  have HW3 := Lib.hid (below_next HW2b.out b3)
  have HRD3 := Lib.hid ((HRD.out.then_ (below_alloc (Below.refl _ _) _)).then_ b3)
  clear b3 HLF
  have hpr := prove_any (some ⟨gp, 0, none⟩) 2 (exL A1 A2) w3 (HPA.out _ HW3.out) HO.out
  rw [show (exL A1 A2).length = 2 from rfl, show 18 * 2 ^ 2 = 72 from rfl] at hpr
  have HPR := Lib.hid hpr
  clear hpr
  go_wp2_with fail
  refine HPR.out.mono ?_
  rintro e w4 ⟨tb, rfl, htb, hT, b4⟩
  have HT4 := Lib.hid hT
  have HW4 := Lib.hid (below_next HW3.out b4)
  have HRD4 := Lib.hid (HRD3.out.then_ b4)
  clear hT b4 HPR htb
  have hpu := pulls_any (some ⟨gp, 0, none⟩) 2 (exL A1 A2) AR cR [0, 3] w4 (HPA.out _ HW4.out) HO.out HRD4.out ex_fresh3 hcR rfl
  rw [show (exL A1 A2).length = 2 from rfl, ex_pulls] at hpu
  have HPU := Lib.hid hpu
  clear hpu
  go_wp2_with fail
  refine HPU.out.mono ?_
  rintro e w5 ⟨v5, rfl, own5, b5⟩
  obtain ⟨AP, cP, rfl, hcP⟩ := own_slice own5
  have HPS5 := Lib.hid (puls_of_own own5)
  have HW5 := Lib.hid (below_next HW4.out b5)
  have HRD5 := Lib.hid (HRD4.out.then_ b5)
  have HT5 := Lib.hid (HT4.out.then_ b5)
  clear own5 b5 HPU
  have hre := read_any AP cP _ w5 HPS5.out ex_pok
  rw [ex_read] at hre
  have HRE := Lib.hid hre
  clear hre
  go_wp2_with fail
  refine HRE.out.mono ?_
  rintro e w6 ⟨v6, hs, rfl, hd6, b6⟩
  obtain ⟨AD, cD, rfl, hcD⟩ := own_slice hd6.own
  have HD6 := Lib.hid hd6
  have HPS6 := Lib.hid (HPS5.out.then_ b6)
  have HW6 := Lib.hid (below_next HW5.out b6)
  have HRD6 := Lib.hid (HRD5.out.then_ b6)
  have HT6 := Lib.hid (HT5.out.then_ b6)
  clear hd6 b6 HRE
  have hln := lifted_no (some ⟨gp, 0, none⟩) 2 (exL A1 A2) w6 (HPA.out _ HW6.out) HO.out (show 0 < 2 by omega)
  rw [show (exL A1 A2).length = 2 from rfl] at hln
  have HLN := Lib.hid hln
  clear hln
  go_wp2_with fail
  refine HLN.out.mono ?_
  rintro e w7 ⟨rfl, b7⟩
  have HD7 := Lib.hid (HD6.out.then_ b7)
  have HPS7 := Lib.hid (HPS6.out.then_ b7)
  have HW7 := Lib.hid (below_next HW6.out b7)
  have HRD7 := Lib.hid (HRD6.out.then_ b7)
  have HT7 := Lib.hid (HT6.out.then_ b7)
  clear b7 HLN
  go_wp2_with fail
  have HRF := Lib.hid (read_first w7.heap.size 1 (w7.alloc (.cells #[.bool true, .int .i64 0, .int .i64 0] 66)) (new_cell rfl) (new_cell rfl) (new_cell rfl))
  refine HRF.out.mono ?_
  rintro e w8 ⟨rfl, b8⟩
  have hb8 := below_next (below_alloc (Below.refl w7.heap.size w7) (.cells #[.bool true, .int .i64 0, .int .i64 0] 66)) b8
  have HD8 := Lib.hid (HD7.out.then_ hb8)
  have HPS8 := Lib.hid (HPS7.out.then_ hb8)
  have HW8 := Lib.hid (below_next HW7.out hb8)
  have HRD8 := Lib.hid (HRD7.out.then_ hb8)
  have HT8 := Lib.hid (HT7.out.then_ hb8)
  clear b8 hb8 HRF
  simp only [List.length_cons, List.length_nil, Nat.zero_add, Nat.reduceAdd] at hcD ⊢
  go_wp2_with fail
  have HSR := Lib.hid (samerides_yes AR (some ⟨w8.heap.size, 0, none⟩) cR 2 [(1, false), (2, true)] (w8.alloc (.cells #[.int .i64 1, .bool false, .int .i64 2, .bool true] 35)) (HRD8.out.then_ (below_alloc (Below.refl _ _) _)) (rds_two (new_cell rfl) (new_cell rfl) (new_cell rfl) (new_cell rfl)) (by simp))
  refine HSR.out.mono ?_
  rintro e w9 ⟨rfl, b9⟩
  have hb9 := below_next (below_alloc (Below.refl w8.heap.size w8) (.cells #[.int .i64 1, .bool false, .int .i64 2, .bool true] 35)) b9
  have HD9 := Lib.hid (HD8.out.then_ hb9)
  have HPS9 := Lib.hid (HPS8.out.then_ hb9)
  have HW9 := Lib.hid (below_next HW8.out hb9)
  have HT9 := Lib.hid (HT8.out.then_ hb9)
  clear b9 hb9 HSR
  have t18 := (HT9.out 18 (by omega)).1
  have t19 := (HT9.out 19 (by omega)).1
  have t54 := (HT9.out 54 (by omega)).1
  rw [ex_t18] at t18
  rw [ex_t19] at t19
  rw [ex_t54] at t54
  go_wp2_with fail
  clear t18 t19 t54
  have hps4 : PulsAt (w9.alloc (.cells #[.bool false, .int .i64 100, .int .i64 0, .bool true, .int .i64 200, .int .i64 0, .bool false, .int .i64 210, .int .i64 0, .bool true, .int .i64 500, .int .i64 0] 66)) (some ⟨w9.heap.size, 0, none⟩) [⟨false, 100, 0⟩, ⟨true, 200, 0⟩, ⟨false, 210, 0⟩, ⟨true, 500, 0⟩] := fun i hi => by
    have : i = 0 ∨ i = 1 ∨ i = 2 ∨ i = 3 := by have : i < 4 := hi; omega
    rcases this with rfl | rfl | rfl | rfl <;> exact ⟨w9.heap.size, 0, rfl, new_cell rfl, new_cell rfl, new_cell rfl⟩
  have HSP := Lib.hid (samepulls_yes AP (some ⟨w9.heap.size, 0, none⟩) cP 4 [⟨false, 100, 0⟩, ⟨true, 200, 0⟩, ⟨false, 210, 0⟩, ⟨true, 500, 0⟩] _ (HPS9.out.then_ (below_alloc (Below.refl _ _) _)) hps4 (by simp))
  refine HSP.out.mono ?_
  rintro e w10 ⟨rfl, b10⟩
  have hb10 := below_next (below_alloc (Below.refl w9.heap.size w9) (.cells #[.bool false, .int .i64 100, .int .i64 0, .bool true, .int .i64 200, .int .i64 0, .bool false, .int .i64 210, .int .i64 0, .bool true, .int .i64 500, .int .i64 0] 66)) b10
  have hd10 := HD9.out.then_ hb10
  have HW10 := Lib.hid (below_next HW9.out hb10)
  have HT10 := Lib.hid (HT9.out.then_ hb10)
  clear b10 hb10 HSP hps4
  obtain ⟨gd, hgd⟩ : ∃ gd, AD = some ⟨gd, 0, none⟩ := by
    rcases hd10.own.2 with ⟨h', _⟩ | ⟨g, cap, cur, h', _⟩
    · injection h' with h1 h2 h3; cases h2
    · injection h' with h1 h2 h3; exact ⟨g, h1⟩
  subst hgd
  obtain ⟨AX, cX, hX, hcX⟩ := own_slice (hd10.row 1 (show 1 < 2 by omega))
  have hrow := hd10.row 1 (show 1 < 2 by omega)
  have hown := hd10.own
  have hhl := hd10.len
  rw [show ([[(100, 0), (200, 0)], [(210, 0), (500, 0)]] : List (List (Int × Int))).getD 1 [] = [(210, 0), (500, 0)] from rfl] at hX hrow hcX
  simp only [List.length_cons, List.length_nil, Nat.zero_add, Nat.reduceAdd] at hX hrow hown hhl hcX
  rw [hX] at hrow
  obtain ⟨gx, hgx⟩ : ∃ gx, AX = some ⟨gx, 0, none⟩ := by
    rcases hrow.2 with ⟨h', _⟩ | ⟨g, cap, cur, h', _⟩
    · injection h' with h1 h2 h3; cases h2
    · injection h' with h1 h2 h3; exact ⟨g, h1⟩
  subst hgx
  have z1 : w10.cell? ⟨gd, 1, none⟩ = some (.slice (some ⟨gx, 0, none⟩) 2 cX) := by
    rw [hown.cellAt 1 (by omega), ← hX]
    simp [List.getD, List.getElem?_eq_getElem (show 1 < hs.length by omega)]
  have z2 : w10.cell? ⟨gx, 0, none⟩ = some (.int .i64 210) := (hrow.cellAt 0 (by omega)).trans rfl
  have z3 : w10.cell? ⟨gx, 1, none⟩ = some (.int .i64 0) := (hrow.cellAt 1 (by omega)).trans rfl
  have hq := fun w => eql_place w 210 210 0 0
  simp only [decide_true, and_self] at hq
  have hcX2 : (2 : Int) ≤ (cX : Int) := by omega
  clear hX hrow hown hhl hd10
  go_wp2_with fail
  clear z1 z2 z3 hq
  have hbn := bounds_any (some ⟨gp, 0, none⟩) 2 (exL A1 A2) tb 0 72 (Plt.tab 2 (gapF (exL A1 A2))) 110 w10 (HPA.out _ HW10.out) HO.out (tab_of_arr HT10.out) (show 18 * 2 ^ 2 ≤ 72 by omega)
  rw [show (exL A1 A2).length = 2 from rfl, show 18 * 2 ^ 2 = 72 from rfl, ex_b110] at hbn
  have HBN := Lib.hid hbn
  clear hbn
  refine HBN.out.mono ?_
  rintro e w11 ⟨rfl, b11⟩
  have HW11 := Lib.hid (below_next HW10.out b11)
  have HT11 := Lib.hid (HT10.out.then_ b11)
  clear b11 HBN
  have hbn := bounds_any (some ⟨gp, 0, none⟩) 2 (exL A1 A2) tb 0 72 (Plt.tab 2 (gapF (exL A1 A2))) 111 w11 (HPA.out _ HW11.out) HO.out (tab_of_arr HT11.out) (show 18 * 2 ^ 2 ≤ 72 by omega)
  rw [show (exL A1 A2).length = 2 from rfl, show 18 * 2 ^ 2 = 72 from rfl, ex_b111] at hbn
  have HBN := Lib.hid hbn
  clear hbn
  go_wp2_with fail
  refine HBN.out.mono ?_
  rintro e w12 ⟨rfl, b12⟩
  have HW12 := Lib.hid (below_next HW11.out b12)
  clear b12 HBN
  have hvl := valid_yes (some ⟨gp, 0, none⟩) 2 (exL A1 A2) w12 (HPA.out _ HW12.out) HO.out
  rw [show (exL A1 A2).length = 2 from rfl] at hvl
  have HVL := Lib.hid hvl
  clear hvl
  go_wp2_with fail
  refine HVL.out.mono ?_
  rintro e w13 ⟨rfl, b13⟩
  have HW13 := Lib.hid (below_next HW12.out b13)
  clear b13 HVL
  go_wp2_with fail
  have HVE := Lib.hid (valid_empty w13.heap.size 1 (w13.alloc (.cells #[.int .i64 0, .int .i64 0, .slice none 0 0] 50)) (new_cell rfl) (new_cell rfl) (new_cell rfl))
  refine HVE.out.mono ?_
  rintro e w14 ⟨rfl, b14⟩
  have HW14 := Lib.hid (below_next HW13.out (below_next (below_alloc (Below.refl _ _) _) b14))
  clear b14 HVE
  have HGP := Lib.hid (pgap_any 3 9 5 2 w14 (by omega) (by omega) (by omega) (by omega))
  unfold pv at HGP
  rw [show gapI 3 9 5 2 = 7 from by decide] at HGP
  go_wp2_with fail
  refine HGP.out.mono ?_
  rintro e w15 ⟨rfl, b15⟩
  have HW15 := Lib.hid (below_next HB1.out (below_next HW14.out b15))
  clear b15 HGP
  go_wp2_with fail
  go_ret
  exact ⟨rfl, HW15.out⟩
end Go.Proofs.Ytgopadbdnndkiaa.Pt
namespace Go.Proofs.Ytgopadbdnndkiaa
open Go.RowKit Str
attribute [local go_sem] Oper.semAt_some
theorem atR_any (d : Dot) (w : World) : Calls Try.prog 55 #[.agg #[.int .i64 d.x, .int .i64 d.y, .int .i64 d.t, .int .i64 d.p]] w fun e w' => e = .returned (pv d.x d.y) ∧ Below w.heap.size w w' := by
  go_enter Try.func55, Try.ntmps55
  go_wp2_with fail
  exact bodyPost_ret (v := .agg #[.int .i64 d.x, .int .i64 d.y]) (by simp [results, Try.results55, go_sem]) rfl ⟨rfl, ((Below.refl _ _).alloc (Nat.le_refl _) _).alloc (by simp) _⟩
theorem placeR_yes (x y : Int) (w : World) (hx : 0 ≤ x ∧ x ≤ 4095) (hy : 0 ≤ y ∧ y ≤ 4095) : Calls Try.prog 54 #[pv x y] w fun e w' => e = .returned (.bool true) ∧ Below w.heap.size w w' := by
  obtain ⟨h1, h2⟩ := hx
  obtain ⟨h3, h4⟩ := hy
  unfold pv
  go_enter Try.func54, Try.ntmps54
  go_wp2_with fail
  go_ret
  exact ⟨rfl, below_alloc (Below.refl _ _) _⟩
theorem lastT_take {D : List Dot} : ∀ {k : Nat} (l : Int), k < D.length → lastT l (D.take (k + 1)) = (dotAt D k).t := by
  intro k l hk
  rw [take_dot hk]
  have : ∀ (E : List Dot) (l : Int) (d : Dot), lastT l (E ++ [d]) = d.t := by
    intro E
    induction E with
    | nil => intro l d; rfl
    | cons a t ih => intro l d; exact ih a.t d
  exact this _ _ _
theorem dot_facts {D : List Dot} (h : dotsB 0 D = true) {k : Nat} (hk : k < D.length) : (0 ≤ (dotAt D k).x ∧ (dotAt D k).x ≤ 4095) ∧ (0 ≤ (dotAt D k).y ∧ (dotAt D k).y ≤ 4095) ∧ (0 ≤ (dotAt D k).t ∧ (dotAt D k).t ≤ 1000000) ∧ 0 ≤ (dotAt D k).p ∧ (dotAt D k).p ≤ 100 := by
  obtain ⟨h1, h2, h3⟩ := dotB_iff.1 (dotsB_mem (by omega) h _ (dotAt_mem hk))
  exact ⟨h1.1, h1.2, h2, h3⟩
theorem dot_asc {D : List Dot} (h : dotsB 0 D = true) {k : Nat} (hk : k + 1 < D.length) : (dotAt D k).t ≤ (dotAt D (k + 1)).t := by
  have h1 : dotsB 0 (D.take (k + 1 + 1)) = true := by
    cases hb : dotsB 0 (D.take (k + 1 + 1)) with
    | true => rfl
    | false => rw [dotsB_take_false hb] at h; cases h
  rw [take_dot hk, dotsB_snoc, Bool.and_eq_true, lastT_take _ (by omega)] at h1
  exact (dotB_iff.1 h1.2).2.1.1
set_option maxRecDepth 100000 in
set_option maxHeartbeats 4000000 in
theorem validR_yes (P N : Int) (A : Option Addr) (cap : Nat) (D : List Dot) (w : World) (hD : Dots w A D) (hv : validB P N D = true) (hcp : D.length ≤ cap) :
    Calls Try.prog 48 #[.agg #[.int .i64 P, .int .i64 N, .slice A D.length cap]] w fun e w' => e = .returned (.bool true) ∧ Below w.heap.size w w' := by
  have h1 := hv
  rw [validB, Bool.and_eq_true, headB_iff] at h1
  obtain ⟨⟨⟨p1, p2⟩, ⟨p3, p4⟩, p5, p6⟩, hd⟩ := h1
  have HD := Lib.hid hD
  have HV := Lib.hid hd
  have hcp' : (D.length : Int) ≤ (cap : Int) := by omega
  clear hv hD hd
  go_enter Try.func48, Try.ntmps48
  go_wp2_with fail
  obtain ⟨W0, hW0⟩ : ∃ W0, w.alloc (.cells #[.int .i64 P, .int .i64 N, .slice A D.length cap] 50) = W0 := ⟨_, rfl⟩
  have hB0 : Below w.heap.size w W0 := by rw [← hW0]; exact below_alloc (Below.refl _ _) _
  have hc0 : W0.cell? ⟨w.heap.size, 2, none⟩ = some (.slice A D.length cap) := by rw [← hW0]; exact new_cell rfl
  have hs0 : w.heap.size < W0.heap.size := by rw [← hW0]; simp
  rw [hW0]
  clear hW0
  have HB0 := Lib.hid hB0
  have HC0 := Lib.hid hc0
  clear hB0 hc0
  go_loopw [3] (fun i wr => ∃ k : Nat, k ≤ D.length ∧ i = .int .i64 (k : Int) ∧ Below W0.heap.size W0 wr) (fun i _ => D.length - (intOf i).toNat)
  case atStart => exact ⟨0, by omega, rfl, Below.refl _ _⟩
  case round =>
    obtain ⟨k, hk, rfl, hB⟩ := hrel
    have hc2 := cell_then hB HC0.out
    by_cases hlt : k < D.length
    · obtain ⟨b, o, rfl, c0, c1, c2, c3⟩ := (HD.out.below (below_next HB0.out hB)) k hlt
      obtain ⟨f1, f2, f3, f4⟩ := dot_facts HV.out hlt
      have hasc : ∀ j, k = j + 1 → (dotAt D j).t ≤ (dotAt D k).t := fun j hj => by subst hj; exact dot_asc HV.out hlt
      have hpv : ∀ j, k = j + 1 → wr.cell? ⟨b, o + j * 4 + 2, none⟩ = some (.int .i64 (dotAt D j).t) := fun j hj => by
        obtain ⟨b', o', e, _, _, x, _⟩ := (HD.out.below (below_next HB0.out hB)) j (by omega)
        injection e with e
        injection e with e1 e2
        subst e1 e2
        exact x
      have HAT := Lib.hid (fun W => atR_any (dotAt D k) W)
      have HPL := Lib.hid (fun W => placeR_yes (dotAt D k).x (dotAt D k).y W f1 f2)
      unfold pv at HAT HPL
      obtain ⟨x, hx⟩ : ∃ x, (dotAt D k).x = x := ⟨_, rfl⟩
      obtain ⟨y, hy⟩ : ∃ y, (dotAt D k).y = y := ⟨_, rfl⟩
      obtain ⟨t, ht⟩ : ∃ t, (dotAt D k).t = t := ⟨_, rfl⟩
      obtain ⟨p, hp⟩ : ∃ p, (dotAt D k).p = p := ⟨_, rfl⟩
      rw [hx, hy] at HPL
      rw [hx, hy, ht, hp] at HAT
      rw [hx] at c0
      rw [hy] at c1
      rw [ht] at c2 f3 hasc
      rw [hp] at c3 f4
      have hkk : (k : Int) < (D.length : Int) := by omega
      have hk0 : (0 : Int) ≤ (k : Int) := by omega
      have t1 : decide (t < 0) = false := decide_eq_false (by omega)
      have t2 : decide ((1000000 : Int) < t) = false := decide_eq_false (by omega)
      have t3 : decide (p < 0) = false := decide_eq_false (by omega)
      have t4 : decide ((100 : Int) < p) = false := decide_eq_false (by omega)
      have HB := Lib.hid hB
      have HASC := Lib.hid hasc
      have HPV := Lib.hid hpv
      clear hx hy ht hp f1 f2 f3 f4 hB hasc hpv
      obtain ⟨V, hV⟩ : ∃ V, wr.alloc (.cells #[.int .i64 x, .int .i64 y, .int .i64 t, .int .i64 p] 54) = V := ⟨_, rfl⟩
      have n0 : V.cell? ⟨wr.heap.size, 0, none⟩ = some (.int .i64 x) := by rw [← hV]; exact new_cell rfl
      have n1 : V.cell? ⟨wr.heap.size, 1, none⟩ = some (.int .i64 y) := by rw [← hV]; exact new_cell rfl
      have n2 : V.cell? ⟨wr.heap.size, 2, none⟩ = some (.int .i64 t) := by rw [← hV]; exact new_cell rfl
      have n3 : V.cell? ⟨wr.heap.size, 3, none⟩ = some (.int .i64 p) := by rw [← hV]; exact new_cell rfl
      have n4 : V.cell? ⟨w.heap.size, 2, none⟩ = some (.slice (some ⟨b, o, none⟩) D.length cap) := by rw [← hV]; exact keep_alloc _ hc2
      have hBV : Below wr.heap.size wr V := by rw [← hV]; exact below_alloc (Below.refl _ _) _
      have HVV := Lib.hid hV
      have HBV := Lib.hid hBV
      clear hV hBV
      go_wp2_with fail
      rw [HVV.out]
      have g_0 := fun D os => cell_regrown n0 D os
      have g_1 := fun D os => cell_regrown n1 D os
      have g_2 := fun D os => cell_regrown n2 D os
      have g_3 := fun D os => cell_regrown n3 D os
      have g_4 := fun D os => cell_regrown n4 D os
      rcases Nat.eq_zero_or_pos k with hk1 | hk1
      · subst hk1
        refine wp_region_quiet_below (by kernel_rfl) (by kernel_rfl) ?_
        repeat (go_big_quiet_step (first | (with_reducible exact Calls.regrown_of (HAT.out _)) | (with_reducible exact Calls.regrown_of (HPL.out _))))
        refine wpQuiet_nil ?_
        intro wq hq0
        have hq := below_of_class hq0
        clear hq0
        clear g_0 g_1 g_2 g_3 g_4
        have hq2 := Lib.hid (below_next HB.out (below_next HBV.out hq))
        clear hq
        go_wp2_with fail
        exact ⟨⟨1, by omega, by go_num, hq2.out⟩, by simp [intOf]; omega⟩
      · obtain ⟨j, rfl⟩ : ∃ j, k = j + 1 := ⟨k - 1, by omega⟩
        have n5 := cell_then HBV.out (HPV.out j rfl)
        have h5 := HASC.out j rfl
        obtain ⟨s, hs⟩ : ∃ s, (dotAt D j).t = s := ⟨_, rfl⟩
        rw [hs] at n5 h5
        have g_5 := fun D os => cell_regrown n5 D os
        have t5 : decide (t < s) = false := decide_eq_false (by omega)
        have t6 : decide ((0 : Int) < ((j + 1 : Nat) : Int)) = true := decide_eq_true (by omega)
        have t7 : IntKind.i64.wrap (((j + 1 : Nat) : Int) - 1) = (j : Int) := by rw [show ((j + 1 : Nat) : Int) - 1 = (j : Int) by omega]; exact IntWalk.i64_in _ (by omega)
        have j0 : (0 : Int) ≤ (j : Int) := by omega
        have j1 : (j : Int) < (D.length : Int) := by omega
        clear hs h5
        refine wp_region_quiet_below (by kernel_rfl) (by kernel_rfl) ?_
        repeat (go_big_quiet_step (first | (with_reducible exact Calls.regrown_of (HAT.out _)) | (with_reducible exact Calls.regrown_of (HPL.out _))))
        refine wpQuiet_nil ?_
        intro wq hq0
        have hq := below_of_class hq0
        clear hq0
        clear g_0 g_1 g_2 g_3 g_4 g_5 t7
        have hq2 := Lib.hid (below_next HB.out (below_next HBV.out hq))
        clear hq
        go_wp2_with fail
        exact ⟨⟨j + 1 + 1, by omega, by go_num, hq2.out⟩, by simp [intOf]; omega⟩
    · have HB := Lib.hid (below_next HB0.out hB)
      have hkk : ¬ (k : Int) < (D.length : Int) := by omega
      clear hB
      go_wp2_with fail
      go_ret
      exact ⟨rfl, HB.out⟩
set_option maxRecDepth 100000 in
theorem codeR_yes (P N : Int) (A : Option Addr) (cap : Nat) (D : List Dot) (w : World) (hD : Dots w A D) (hv : validB P N D = true) (hcp : D.length ≤ cap) :
    Calls Try.prog 35 #[.agg #[.int .i64 P, .int .i64 N, .slice A D.length cap]] w fun e w' => e = .returned (.int .i64 (1000 * P + N)) ∧ Below w.heap.size w w' := by
  have h1 := hv
  rw [validB, Bool.and_eq_true, headB_iff] at h1
  obtain ⟨⟨⟨p1, p2⟩, ⟨p3, p4⟩, p5, p6⟩, hd⟩ := h1
  have B0 := below_alloc (Below.refl w.heap.size w) (.cells #[.int .i64 P, .int .i64 N, .slice A D.length cap] 50)
  have HC := Lib.hid (validR_yes P N A cap D _ (hD.below B0) hv hcp)
  have n0 : (w.alloc (.cells #[.int .i64 P, .int .i64 N, .slice A D.length cap] 50)).cell? ⟨w.heap.size, 0, none⟩ = some (.int .i64 P) := new_cell rfl
  have n1 : (w.alloc (.cells #[.int .i64 P, .int .i64 N, .slice A D.length cap] 50)).cell? ⟨w.heap.size, 1, none⟩ = some (.int .i64 N) := new_cell rfl
  have HB0 := Lib.hid B0
  have N0 := Lib.hid n0
  have N1 := Lib.hid n1
  clear hv hD hd B0 n0 n1
  go_enter Try.func35, Try.ntmps35
  go_wp2_with fail
  refine HC.out.mono ?_
  rintro e w1 ⟨rfl, b1⟩
  have m0 := cell_then b1 N0.out
  have m1 := cell_then b1 N1.out
  have HB := Lib.hid (below_next HB0.out b1)
  clear b1
  go_wp2_with fail
  go_ret
  exact ⟨rfl, HB.out⟩
end Go.Proofs.Ytgopadbdnndkiaa
namespace Go.Proofs.Ytgopadbdnndkiaa
open Go.RowKit
section
variable {P : Program} {w : World} {ops : Array Oper} {rest : List Oper} {o : Oper} {a : Act} {Q : Exit → Act → World → Prop}
theorem wp_appendN {K : Act → World → Prop} (s x : Operand) (t : TypeId) (ho : o.op = .call { callee := .builtin .append, args := #[s, x], argTypes := #[t, t] })
    (base : Nat) (e : TypeId) (i : TypeInfo) (z : Value) (size bytes : Nat) (ht : P.underlying t = some (.slice e)) (hi : P.info? e = some i) (hz : i.zero = some z)
    (hsize : i.size = size) (hby : i.bytes = bytes) (hzs : z.cells.size = size) (hsz : 0 < size) (v : Value) (n : Nat) (xs : List Value) (hs : a.eval s = v) (hown : w.ownsRow base e size v n xs)
    (ad : Addr) (m c : Nat) (news : List Value) (hx : a.eval x = .slice (some ad) m c) (hl : news.length = m * size) (hnews : ∀ j u, news[j]? = some u → w.cell? (ad.add j) = some u) (h1 : ∀ u ∈ news, u.oneCell' = true)
    (h63 : n + m ≤ maxLen) (hbytes : (n + m) * bytes ≤ 140737488355328) (hbase : base ≤ w.heap.size)
    (h : ∀ v' w', w'.ownsRow base e size v' (n + m) (xs ++ news) → Kept v.ownBlock.toList w w' → (∀ g, v'.ownBlock = some g → v.ownBlock = some g ∨ w.heap.size ≤ g) → K (a.put o.dst v') w') : o.wp P a w K Q := by
  obtain ⟨v', w', hr, h2, h3, _, h5⟩ := run_append_own_at (P := P) w base t o.type e i z size bytes ht hi hz hsize hby hzs hsz v n xs hown ad m c news hl hnews h1 h63 hbytes hbase
  unfold Oper.wp execOp
  simp only [ho, resolve, invoke, builtin, Sem.run_bind, Sem.run_pure, Result.andThen_ok, List.map_toArray, List.map_cons, List.map_nil, hs, hx, hr]
  refine h v' w' h2 ((Kept.refl _ w).grown h3 (fun k hk => .inl (mem_own hk))) (fun g hg => ?_)
  rcases h5 with h5 | h5
  · exact .inl (by rw [← h5]; exact hg)
  · rw [hg] at h5; injection h5 with h5; exact .inr (by omega)
theorem step_appendN {K : Act → World → Prop} {E : Prop} (hgd : o.guard = none) (s x : Operand) (t : TypeId) (ho : o.op = .call { callee := .builtin .append, args := #[s, x], argTypes := #[t, t] })
    (base : Nat) (e : TypeId) (i : TypeInfo) (z : Value) (size bytes : Nat) (ht : P.underlying t = some (.slice e)) (hi : P.info? e = some i) (hz : i.zero = some z)
    (hsize : i.size = size) (hby : i.bytes = bytes) (hzs : z.cells.size = size) (hsz : 0 < size) (v : Value) (n : Nat) (xs : List Value) (hs : a.eval s = v) (hown : w.ownsRow base e size v n xs)
    (ad : Addr) (m c : Nat) (news : List Value) (hx : a.eval x = .slice (some ad) m c) (hl : news.length = m * size) (hnews : ∀ j u, news[j]? = some u → w.cell? (ad.add j) = some u) (h1 : ∀ u ∈ news, u.oneCell' = true)
    (h63 : n + m ≤ maxLen) (hbytes : (n + m) * bytes ≤ 140737488355328) (hbase : base ≤ w.heap.size)
    (h : ∀ v' w', w'.ownsRow base e size v' (n + m) (xs ++ news) → Kept v.ownBlock.toList w w' → (∀ g, v'.ownBlock = some g → v.ownBlock = some g ∨ w.heap.size ≤ g) → K (a.put o.dst v') w') :
    if Region.wanted o (yielded ops a.tmps) = true then Oper.wp P o a w K Q else E := by
  have hw : Region.wanted o (yielded ops a.tmps) = true := by simp [Region.wanted, hgd]
  rw [if_pos hw]
  exact wp_appendN s x t ho base e i z size bytes ht hi hz hsize hby hzs hsz v n xs hs hown ad m c news hx hl hnews h1 h63 hbytes hbase h
theorem wpList_appendN (hgd : o.guard = none) (s x : Operand) (t : TypeId) (ho : o.op = .call { callee := .builtin .append, args := #[s, x], argTypes := #[t, t] })
    (base : Nat) (e : TypeId) (i : TypeInfo) (z : Value) (size bytes : Nat) (ht : P.underlying t = some (.slice e)) (hi : P.info? e = some i) (hz : i.zero = some z)
    (hsize : i.size = size) (hby : i.bytes = bytes) (hzs : z.cells.size = size) (hsz : 0 < size) (v : Value) (n : Nat) (xs : List Value) (hs : a.eval s = v) (hown : w.ownsRow base e size v n xs)
    (ad : Addr) (m c : Nat) (news : List Value) (hx : a.eval x = .slice (some ad) m c) (hl : news.length = m * size) (hnews : ∀ j u, news[j]? = some u → w.cell? (ad.add j) = some u) (h1 : ∀ u ∈ news, u.oneCell' = true)
    (h63 : n + m ≤ maxLen) (hbytes : (n + m) * bytes ≤ 140737488355328) (hbase : base ≤ w.heap.size)
    (h : ∀ v' w', w'.ownsRow base e size v' (n + m) (xs ++ news) → Kept v.ownBlock.toList w w' → (∀ g, v'.ownBlock = some g → v.ownBlock = some g ∨ w.heap.size ≤ g) → wpList P ops Q rest (a.put o.dst v') w') : wpList P ops Q (o :: rest) a w :=
  wpList_plain hgd fun _ hK => wp_appendN s x t ho base e i z size bytes ht hi hz hsize hby hzs hsz v n xs hs hown ad m c news hx hl hnews h1 h63 hbytes hbase fun v' w' h2 h3 h4 => hK _ _ (h v' w' h2 h3 h4)
end
end Go.Proofs.Ytgopadbdnndkiaa
