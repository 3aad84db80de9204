/- The chapter's sane: true. -/
import Derived.Test.YtgmabepdhbnppaaStrokeSmall
import Derived.Test.YtgmabepdhbnppaaStrokeKept
import Derived.Test.YtgmabepdhbnppaaStrokeThinW
import Derived.Test.YtgmabepdhbnppaaStrokeWithin
import Derived.Test.YtgmabepdhbnppaaStrokeWay
import Derived.Test.YtgmabepdhbnppaaStrokeBox
import Derived.Test.YtgmabepdhbnppaaStrokeCode
import Derived.Test.YtgmabepdhbnppaaStrokeNearB
import Derived.Test.YtgmabepdhbnppaaStrokeSame
namespace Go.Proofs.Ytgmabepdhbnppaa
open Go.RowKit Str
theorem ex_valid : validB 2 7 exD = true := by decide
theorem ex_box : boxF exD = (0, 0, 101, 100) := by decide
theorem ex_way : wayF exD = 200 := by decide
theorem ex_thin2 : thinF exD 2 = [0, 2, 4] := by decide +kernel
theorem ex_thin1 : thinF exD 1 = [0, 1, 2, 4] := by decide +kernel
theorem ex_thin0 : thinF exD 0 = [0, 1, 2, 3, 4] := by decide +kernel
theorem ex_nat2 : natI [0, 2, 4] = [0, 2, 4] := rfl
theorem ex_nat1 : natI [0, 1, 2, 4] = [0, 1, 2, 4] := rfl
theorem ex_nat0 : natI [0, 1, 2, 3, 4] = [0, 1, 2, 3, 4] := rfl
def exT : List Dot := [⟨4095, 0, 0, 0⟩, ⟨4093, 50, 0, 0⟩, ⟨4095, 100, 0, 0⟩, ⟨4035, 100, 0, 0⟩, ⟨3995, 101, 0, 0⟩]
theorem ex_turn : turnD ((1 : Int) % 4).toNat exD = exT := by decide
theorem ext_valid : validB 2 7 exT = true := by decide
theorem ex_end1 : pv (dotAt exT 0).x (dotAt exT 0).y = .agg #[.int .i64 4095, .int .i64 0] := rfl
theorem ex_end2 : pv (dotAt exT (exT.length - 1)).x (dotAt exT (exT.length - 1)).y = .agg #[.int .i64 3995, .int .i64 101] := rfl
def exK : List Dot := [⟨0, 0, 0, 0⟩, ⟨100, 0, 0, 0⟩, ⟨101, 100, 0, 0⟩]
theorem ex_kept : keptE exD [0, 2, 4] = exK := by decide
def exM : List Dot := [⟨1, 2, 0, 0⟩, ⟨51, 4, 0, 0⟩, ⟨101, 2, 0, 0⟩, ⟨101, 62, 0, 0⟩, ⟨102, 102, 0, 0⟩]
theorem ex_move : moveD 1 2 exD = exM := by decide
theorem exm_valid : validB 2 7 (moveD 1 2 exD) = true := by decide
theorem asz (w : World) (o : Obj) : (w.alloc o).heap.size = w.heap.size + 1 := by first | (simp; done) | exact Array.size_push _ | (unfold World.alloc; exact Array.size_push _)
theorem ex_n3 : nearB 0 0 100 0 50 3 3 = true := by decide
theorem ex_n2 : nearB 0 0 100 0 50 3 2 = false := by decide
theorem ex_code : (if validB 2 7 exD = true then (1000 * 2 + 7 : Int) else 0) = 2007 := by rw [if_pos ex_valid]; rfl
theorem ex_within : withinF exD 52 3 2 = true := by decide
theorem ex_inval : validB 0 0 [] = false := by decide
theorem ex_same : sameB 2 7 exD 2 7 exD = true := by decide
theorem ex_diff : sameB 2 7 exD 2 7 exT = false := by decide
theorem eqD (w : World) (a b c d : Int) : (binOp .eql 24 (.agg #[.int .i64 a, .int .i64 b, .int .i64 c, .int .i64 d]) (.agg #[.int .i64 a, .int .i64 b, .int .i64 c, .int .i64 d])).run Try.prog w = .ok (.bool true) w := by
  rw [eql_dot w ⟨a, b, c, d⟩ ⟨a, b, c, d⟩]; simp
theorem eqP (w : World) (a b : Int) : (binOp .eql 29 (.agg #[.int .i64 a, .int .i64 b]) (.agg #[.int .i64 a, .int .i64 b])).run Try.prog w = .ok (.bool true) w := by
  have u3 := Try.underlying3
  have hS : Try.prog.underlying 29 = some (.struct (Try.prog.fieldsOf 29)) := by kernel_rfl
  have hp : Try.prog.stoodInHeld 29 = false := by kernel_rfl
  have ia := Try.isAgg3
  have iz := Try.sizeOf3
  rw [run_eql_struct, show (10000 : Nat) = 9999 + 1 from rfl, run_equalIn_agg w 9999 29 _ _ hS hp]
  simp only [Program.fieldsOf, Try.underlying29]
  go_simp
theorem eqR (w : World) (a b c d : Int) : (binOp .eql 40 (.agg #[.int .i64 a, .int .i64 b, .int .i64 c, .int .i64 d]) (.agg #[.int .i64 a, .int .i64 b, .int .i64 c, .int .i64 d])).run Try.prog w = .ok (.bool true) w := by
  have u3 := Try.underlying3
  have hS : Try.prog.underlying 40 = some (.struct (Try.prog.fieldsOf 40)) := by kernel_rfl
  have hp : Try.prog.stoodInHeld 40 = false := by kernel_rfl
  have ia := Try.isAgg3
  have iz := Try.sizeOf3
  rw [run_eql_struct, show (10000 : Nat) = 9999 + 1 from rfl, run_equalIn_agg w 9999 40 _ _ hS hp]
  simp only [Program.fieldsOf, Try.underlying40]
  go_simp
theorem ints_lit {w : World} {l : List Int} {cs : Array Value} {t : TypeId} (h : cs.toList = ivs l) : IntsAt (w.alloc (.cells cs t)) (some ⟨w.heap.size, 0, none⟩) l := fun i hi => by
  refine ⟨_, _, rfl, ?_⟩
  rw [Nat.zero_add]
  refine new_cell ?_
  rw [← Array.getElem?_toList, h, ivs, List.getElem?_map, List.getElem?_eq_getElem hi]
  simp [List.getD, List.getElem?_eq_getElem hi]
set_option maxRecDepth 100000 in
set_option maxHeartbeats 8000000 in
theorem sane_any (w : World) : Calls Try.prog 10 #[] w fun e w' => e = .returned (.bool true) ∧ Below w.heap.size w w' := by
  go_enter Try.func10, Try.ntmps10
  go_wp2_with fail
  refine (example_any _).mono ?_
  rintro e w1 ⟨g, rfl, sD, b1⟩
  go_wp2_with fail
  have hB : Below w.heap.size w (w1.alloc (.cells #[.int .i64 2, .int .i64 7, .slice (some ⟨g, 0, none⟩) 5 5] 27)) := below_alloc b1 _
  have s0 : (w1.alloc (.cells #[.int .i64 2, .int .i64 7, .slice (some ⟨g, 0, none⟩) 5 5] 27)).cell? ⟨w1.heap.size, 0, none⟩ = some (.int .i64 2) := new_cell rfl
  have s1 : (w1.alloc (.cells #[.int .i64 2, .int .i64 7, .slice (some ⟨g, 0, none⟩) 5 5] 27)).cell? ⟨w1.heap.size, 1, none⟩ = some (.int .i64 7) := new_cell rfl
  have s2 : (w1.alloc (.cells #[.int .i64 2, .int .i64 7, .slice (some ⟨g, 0, none⟩) 5 5] 27)).cell? ⟨w1.heap.size, 2, none⟩ = some (.slice (some ⟨g, 0, none⟩) 5 5) := new_cell rfl
  replace sD := sD.below (below_alloc (Below.refl _ (w1)) (.cells #[.int .i64 2, .int .i64 7, .slice (some ⟨g, 0, none⟩) 5 5] 27))
  obtain ⟨v1, hv1⟩ : ∃ v, w1.alloc (.cells #[.int .i64 2, .int .i64 7, .slice (some ⟨g, 0, none⟩) 5 5] 27) = v := ⟨_, rfl⟩
  rw [hv1] at hB s0 s1 s2 sD ⊢
  clear b1 hv1
  refine (box_yes 2 7 _ 5 exD _ sD ex_valid).mono ?_
  rintro e w2 ⟨rfl, bq⟩
  replace hB := below_next hB bq
  replace s0 := cell_then bq s0
  replace s1 := cell_then bq s1
  replace s2 := cell_then bq s2
  replace sD := sD.below bq
  clear bq
  have ls0 := lt_size s0
  rw [ex_box]
  go_wp2_with fail
  have hA := below_alloc (Below.refl _ w2) (.cells #[.int .i64 0, .int .i64 0, .int .i64 101, .int .i64 100] 40)
  replace hB := below_next hB hA
  replace s0 := cell_then hA s0
  replace s1 := cell_then hA s1
  replace s2 := cell_then hA s2
  replace sD := sD.below hA
  have r0 : (w2.alloc (.cells #[.int .i64 0, .int .i64 0, .int .i64 101, .int .i64 100] 40)).cell? ⟨w2.heap.size, 0, none⟩ = some (.int .i64 0) := new_cell rfl
  have r1 : (w2.alloc (.cells #[.int .i64 0, .int .i64 0, .int .i64 101, .int .i64 100] 40)).cell? ⟨w2.heap.size, 1, none⟩ = some (.int .i64 0) := new_cell rfl
  have r2 : (w2.alloc (.cells #[.int .i64 0, .int .i64 0, .int .i64 101, .int .i64 100] 40)).cell? ⟨w2.heap.size, 2, none⟩ = some (.int .i64 101) := new_cell rfl
  have r3 : (w2.alloc (.cells #[.int .i64 0, .int .i64 0, .int .i64 101, .int .i64 100] 40)).cell? ⟨w2.heap.size, 3, none⟩ = some (.int .i64 100) := new_cell rfl
  clear hA
  obtain ⟨vw2, hvw2⟩ : ∃ v, w2.alloc (.cells #[.int .i64 0, .int .i64 0, .int .i64 101, .int .i64 100] 40) = v := ⟨_, rfl⟩
  rw [hvw2] at hB s0 s1 s2 sD r0 r1 r2 r3 ⊢
  clear hvw2 ls0
  refine (way_yes 2 7 _ 5 exD _ sD ex_valid).mono ?_
  rintro e w3 ⟨rfl, bq⟩
  replace hB := below_next hB bq
  replace s0 := cell_then bq s0
  replace s1 := cell_then bq s1
  replace s2 := cell_then bq s2
  replace sD := sD.below bq
  replace r0 := cell_then bq r0
  replace r1 := cell_then bq r1
  replace r2 := cell_then bq r2
  replace r3 := cell_then bq r3
  clear bq
  have ls0 := lt_size s0
  have lr0 := lt_size r0
  rw [ex_way]
  go_wp2_with fail
  clear ls0 lr0
  refine (thin_yes 2 7 _ 5 exD 2 _ sD (by decide) (by decide) ex_valid (by decide)).mono ?_
  rintro e w4 ⟨Aa, capa, rfl, ia, ca, bq⟩
  replace hB := below_next hB bq
  replace s0 := cell_then bq s0
  replace s1 := cell_then bq s1
  replace s2 := cell_then bq s2
  replace sD := sD.below bq
  replace r0 := cell_then bq r0
  replace r1 := cell_then bq r1
  replace r2 := cell_then bq r2
  replace r3 := cell_then bq r3
  clear bq
  have ls0 := lt_size s0
  have lr0 := lt_size r0
  rw [ex_thin2] at ia ca ⊢
  rw [ex_nat2] at ia
  go_wp2_with fail
  clear ls0 lr0
  refine (thin_yes 2 7 _ 5 exD 1 _ sD (by decide) (by decide) ex_valid (by decide)).mono ?_
  rintro e w5 ⟨Ab, capb, rfl, ib, cb, bq⟩
  replace hB := below_next hB bq
  replace s0 := cell_then bq s0
  replace s1 := cell_then bq s1
  replace s2 := cell_then bq s2
  replace sD := sD.below bq
  replace r0 := cell_then bq r0
  replace r1 := cell_then bq r1
  replace r2 := cell_then bq r2
  replace r3 := cell_then bq r3
  replace ia := ia.then_ bq
  clear bq
  have ls0 := lt_size s0
  have lr0 := lt_size r0
  rw [ex_thin1] at ib cb ⊢
  rw [ex_nat1] at ib
  go_wp2_with fail
  clear ls0 lr0
  refine (thin_yes 2 7 _ 5 exD 0 _ sD (by decide) (by decide) ex_valid (by decide)).mono ?_
  rintro e w6 ⟨Ac, capc, rfl, ic, cc, bq⟩
  replace hB := below_next hB bq
  replace s0 := cell_then bq s0
  replace s1 := cell_then bq s1
  replace s2 := cell_then bq s2
  replace sD := sD.below bq
  replace r0 := cell_then bq r0
  replace r1 := cell_then bq r1
  replace r2 := cell_then bq r2
  replace r3 := cell_then bq r3
  replace ia := ia.then_ bq
  replace ib := ib.then_ bq
  clear bq
  have ls0 := lt_size s0
  have lr0 := lt_size r0
  rw [ex_thin0] at ic cc ⊢
  rw [ex_nat0] at ic
  go_wp2_with fail
  clear ls0 lr0
  refine (turned_yes 2 7 _ 5 exD 1 _ ⟨by decide, by decide⟩ sD ex_valid).mono ?_
  rintro e w7 ⟨gt, capt, rfl, hgt, tD, ct1, ct2, bq⟩
  replace hB := below_next hB bq
  replace s0 := cell_then bq s0
  replace s1 := cell_then bq s1
  replace s2 := cell_then bq s2
  replace sD := sD.below bq
  replace r0 := cell_then bq r0
  replace r1 := cell_then bq r1
  replace r2 := cell_then bq r2
  replace r3 := cell_then bq r3
  replace ia := ia.then_ bq
  replace ib := ib.then_ bq
  replace ic := ic.then_ bq
  clear bq
  have ls0 := lt_size s0
  have lr0 := lt_size r0
  rw [ex_turn] at tD ct1 ⊢
  rw [show exT.length = 5 from rfl] at ct1 ⊢
  go_wp2_with fail
  have hA := below_alloc (Below.refl _ w7) (.cells #[.int .i64 2, .int .i64 7, .slice (some ⟨gt, 0, none⟩) 5 capt] 27)
  replace hB := below_next hB hA
  replace s0 := cell_then hA s0
  replace s1 := cell_then hA s1
  replace s2 := cell_then hA s2
  replace sD := sD.below hA
  replace r0 := cell_then hA r0
  replace r1 := cell_then hA r1
  replace r2 := cell_then hA r2
  replace r3 := cell_then hA r3
  replace ia := ia.then_ hA
  replace ib := ib.then_ hA
  replace ic := ic.then_ hA
  replace tD := tD.below hA
  have t0 : (w7.alloc (.cells #[.int .i64 2, .int .i64 7, .slice (some ⟨gt, 0, none⟩) 5 capt] 27)).cell? ⟨w7.heap.size, 0, none⟩ = some (.int .i64 2) := new_cell rfl
  have t1 : (w7.alloc (.cells #[.int .i64 2, .int .i64 7, .slice (some ⟨gt, 0, none⟩) 5 capt] 27)).cell? ⟨w7.heap.size, 1, none⟩ = some (.int .i64 7) := new_cell rfl
  have t2 : (w7.alloc (.cells #[.int .i64 2, .int .i64 7, .slice (some ⟨gt, 0, none⟩) 5 capt] 27)).cell? ⟨w7.heap.size, 2, none⟩ = some (.slice (some ⟨gt, 0, none⟩) 5 capt) := new_cell rfl
  clear hA
  obtain ⟨vw7, hvw7⟩ : ∃ v, w7.alloc (.cells #[.int .i64 2, .int .i64 7, .slice (some ⟨gt, 0, none⟩) 5 capt] 27) = v := ⟨_, rfl⟩
  rw [hvw7] at hB s0 s1 s2 sD r0 r1 r2 r3 ia ib ic tD t0 t1 t2 ⊢
  clear hvw7 ls0 lr0
  refine (ends_yes 2 7 _ capt exT _ tD ext_valid).mono ?_
  rintro e w8 ⟨rfl, bq⟩
  replace hB := below_next hB bq
  replace s0 := cell_then bq s0
  replace s1 := cell_then bq s1
  replace s2 := cell_then bq s2
  replace sD := sD.below bq
  replace r0 := cell_then bq r0
  replace r1 := cell_then bq r1
  replace r2 := cell_then bq r2
  replace r3 := cell_then bq r3
  replace ia := ia.then_ bq
  replace ib := ib.then_ bq
  replace ic := ic.then_ bq
  replace tD := tD.below bq
  replace t0 := cell_then bq t0
  replace t1 := cell_then bq t1
  replace t2 := cell_then bq t2
  clear bq
  have ls0 := lt_size s0
  have lr0 := lt_size r0
  have lt0 := lt_size t0
  rw [ex_end1, ex_end2]
  go_wp2_with fail
  have hA : Below w8.heap.size w8 ((w8.alloc (.cells #[.int .i64 4095, .int .i64 0] 29)).alloc (.cells #[.int .i64 3995, .int .i64 101] 29)) := below_alloc (below_alloc (Below.refl _ _) _) _
  replace hB := below_next hB hA
  replace s0 := cell_then hA s0
  replace s1 := cell_then hA s1
  replace s2 := cell_then hA s2
  replace sD := sD.below hA
  replace r0 := cell_then hA r0
  replace r1 := cell_then hA r1
  replace r2 := cell_then hA r2
  replace r3 := cell_then hA r3
  replace ia := ia.then_ hA
  replace ib := ib.then_ hA
  replace ic := ic.then_ hA
  replace tD := tD.below hA
  replace t0 := cell_then hA t0
  replace t1 := cell_then hA t1
  replace t2 := cell_then hA t2
  have a0 : ((w8.alloc (.cells #[.int .i64 4095, .int .i64 0] 29)).alloc (.cells #[.int .i64 3995, .int .i64 101] 29)).cell? ⟨w8.heap.size, 0, none⟩ = some (.int .i64 4095) := keep_alloc _ (new_cell rfl)
  have a1 : ((w8.alloc (.cells #[.int .i64 4095, .int .i64 0] 29)).alloc (.cells #[.int .i64 3995, .int .i64 101] 29)).cell? ⟨w8.heap.size, 1, none⟩ = some (.int .i64 0) := keep_alloc _ (new_cell rfl)
  have b0 : ((w8.alloc (.cells #[.int .i64 4095, .int .i64 0] 29)).alloc (.cells #[.int .i64 3995, .int .i64 101] 29)).cell? ⟨w8.heap.size + 1, 0, none⟩ = some (.int .i64 3995) := new_cell' rfl
  have b1 : ((w8.alloc (.cells #[.int .i64 4095, .int .i64 0] 29)).alloc (.cells #[.int .i64 3995, .int .i64 101] 29)).cell? ⟨w8.heap.size + 1, 1, none⟩ = some (.int .i64 101) := new_cell' rfl
  obtain ⟨vw8, hvw8⟩ : ∃ v, ((w8.alloc (.cells #[.int .i64 4095, .int .i64 0] 29)).alloc (.cells #[.int .i64 3995, .int .i64 101] 29)) = v := ⟨_, rfl⟩
  rw [hvw8] at hB s0 s1 s2 sD r0 r1 r2 r3 ia ib ic tD t0 t1 t2 a0 a1 b0 b1 ⊢
  clear hA hvw8 ls0 lr0 lt0
  refine (kept_any 2 7 _ _ 5 _ exD [0, 2, 4] _ sD ia (by decide) (by decide) ex_valid).mono ?_
  rintro e w9 ⟨hk, hk2⟩
  obtain ⟨gc, capk, rfl, hgc, cD, cc1, cc2, bq⟩ := hk (by decide)
  clear hk
  replace hB := below_next hB bq
  replace s0 := cell_then bq s0
  replace s1 := cell_then bq s1
  replace s2 := cell_then bq s2
  replace sD := sD.below bq
  replace r0 := cell_then bq r0
  replace r1 := cell_then bq r1
  replace r2 := cell_then bq r2
  replace r3 := cell_then bq r3
  replace ia := ia.then_ bq
  replace ib := ib.then_ bq
  replace ic := ic.then_ bq
  replace tD := tD.below bq
  replace t0 := cell_then bq t0
  replace t1 := cell_then bq t1
  replace t2 := cell_then bq t2
  replace a0 := cell_then bq a0
  replace a1 := cell_then bq a1
  replace b0 := cell_then bq b0
  replace b1 := cell_then bq b1
  clear bq
  have ls0 := lt_size s0
  have lr0 := lt_size r0
  have lt0 := lt_size t0
  have la0 := lt_size a0
  have lb0 := lt_size b0
  clear hk2
  rw [ex_kept] at cD cc1 ⊢
  rw [show exK.length = 3 from rfl] at cc1 ⊢
  go_wp2_with fail
  have hA := below_alloc (Below.refl _ w9) (.cells #[.int .i64 2, .int .i64 7, .slice (some ⟨gc, 0, none⟩) 3 capk] 27)
  replace hB := below_next hB hA
  replace s0 := cell_then hA s0
  replace s1 := cell_then hA s1
  replace s2 := cell_then hA s2
  replace sD := sD.below hA
  replace r0 := cell_then hA r0
  replace r1 := cell_then hA r1
  replace r2 := cell_then hA r2
  replace r3 := cell_then hA r3
  replace ia := ia.then_ hA
  replace ib := ib.then_ hA
  replace ic := ic.then_ hA
  replace tD := tD.below hA
  replace t0 := cell_then hA t0
  replace t1 := cell_then hA t1
  replace t2 := cell_then hA t2
  replace a0 := cell_then hA a0
  replace a1 := cell_then hA a1
  replace b0 := cell_then hA b0
  replace b1 := cell_then hA b1
  replace cD := cD.below hA
  have c0 : (w9.alloc (.cells #[.int .i64 2, .int .i64 7, .slice (some ⟨gc, 0, none⟩) 3 capk] 27)).cell? ⟨w9.heap.size, 0, none⟩ = some (.int .i64 2) := new_cell rfl
  have c1 : (w9.alloc (.cells #[.int .i64 2, .int .i64 7, .slice (some ⟨gc, 0, none⟩) 3 capk] 27)).cell? ⟨w9.heap.size, 1, none⟩ = some (.int .i64 7) := new_cell rfl
  have c2 : (w9.alloc (.cells #[.int .i64 2, .int .i64 7, .slice (some ⟨gc, 0, none⟩) 3 capk] 27)).cell? ⟨w9.heap.size, 2, none⟩ = some (.slice (some ⟨gc, 0, none⟩) 3 capk) := new_cell rfl
  clear hA
  obtain ⟨vw9, hvw9⟩ : ∃ v, w9.alloc (.cells #[.int .i64 2, .int .i64 7, .slice (some ⟨gc, 0, none⟩) 3 capk] 27) = v := ⟨_, rfl⟩
  rw [hvw9] at hB s0 s1 s2 sD r0 r1 r2 r3 ia ib ic tD t0 t1 t2 a0 a1 b0 b1 cD c0 c1 c2 ⊢
  clear hvw9 ls0 lr0 lt0 la0 lb0
  refine (moved_yes 2 7 _ 5 exD 1 2 _ sD (by decide) (by decide) ex_valid exm_valid).mono ?_
  rintro e w10 ⟨gm, capm, rfl, hgm, mD, cm1, cm2, bq⟩
  replace hB := below_next hB bq
  replace s0 := cell_then bq s0
  replace s1 := cell_then bq s1
  replace s2 := cell_then bq s2
  replace sD := sD.below bq
  replace r0 := cell_then bq r0
  replace r1 := cell_then bq r1
  replace r2 := cell_then bq r2
  replace r3 := cell_then bq r3
  replace ia := ia.then_ bq
  replace ib := ib.then_ bq
  replace ic := ic.then_ bq
  replace tD := tD.below bq
  replace t0 := cell_then bq t0
  replace t1 := cell_then bq t1
  replace t2 := cell_then bq t2
  replace a0 := cell_then bq a0
  replace a1 := cell_then bq a1
  replace b0 := cell_then bq b0
  replace b1 := cell_then bq b1
  replace cD := cD.below bq
  replace c0 := cell_then bq c0
  replace c1 := cell_then bq c1
  replace c2 := cell_then bq c2
  clear bq
  have ls0 := lt_size s0
  have lr0 := lt_size r0
  have lt0 := lt_size t0
  have la0 := lt_size a0
  have lb0 := lt_size b0
  have lc0 := lt_size c0
  rw [ex_move] at mD cm1 ⊢
  rw [show exM.length = 5 from rfl] at cm1 ⊢
  go_wp2_with fail
  have hA := below_alloc (Below.refl _ w10) (.cells #[.int .i64 2, .int .i64 7, .slice (some ⟨gm, 0, none⟩) 5 capm] 27)
  replace hB := below_next hB hA
  replace s0 := cell_then hA s0
  replace s1 := cell_then hA s1
  replace s2 := cell_then hA s2
  replace sD := sD.below hA
  replace r0 := cell_then hA r0
  replace r1 := cell_then hA r1
  replace r2 := cell_then hA r2
  replace r3 := cell_then hA r3
  replace ia := ia.then_ hA
  replace ib := ib.then_ hA
  replace ic := ic.then_ hA
  replace tD := tD.below hA
  replace t0 := cell_then hA t0
  replace t1 := cell_then hA t1
  replace t2 := cell_then hA t2
  replace a0 := cell_then hA a0
  replace a1 := cell_then hA a1
  replace b0 := cell_then hA b0
  replace b1 := cell_then hA b1
  replace cD := cD.below hA
  replace c0 := cell_then hA c0
  replace c1 := cell_then hA c1
  replace c2 := cell_then hA c2
  replace mD := mD.below hA
  have m0 : (w10.alloc (.cells #[.int .i64 2, .int .i64 7, .slice (some ⟨gm, 0, none⟩) 5 capm] 27)).cell? ⟨w10.heap.size, 0, none⟩ = some (.int .i64 2) := new_cell rfl
  have m1 : (w10.alloc (.cells #[.int .i64 2, .int .i64 7, .slice (some ⟨gm, 0, none⟩) 5 capm] 27)).cell? ⟨w10.heap.size, 1, none⟩ = some (.int .i64 7) := new_cell rfl
  have m2 : (w10.alloc (.cells #[.int .i64 2, .int .i64 7, .slice (some ⟨gm, 0, none⟩) 5 capm] 27)).cell? ⟨w10.heap.size, 2, none⟩ = some (.slice (some ⟨gm, 0, none⟩) 5 capm) := new_cell rfl
  clear hA
  obtain ⟨vw10, hvw10⟩ : ∃ v, w10.alloc (.cells #[.int .i64 2, .int .i64 7, .slice (some ⟨gm, 0, none⟩) 5 capm] 27) = v := ⟨_, rfl⟩
  rw [hvw10] at hB s0 s1 s2 sD r0 r1 r2 r3 ia ib ic tD t0 t1 t2 a0 a1 b0 b1 cD c0 c1 c2 mD m0 m1 m2 ⊢
  clear hvw10 ls0 lr0 lt0 la0 lb0 lc0
  refine (thin_no 2 7 _ 5 exD (-1) _ sD (by decide) (.inr (by decide))).mono ?_
  rintro e w11 ⟨rfl, bq⟩
  replace hB := below_next hB bq
  replace s0 := cell_then bq s0
  replace s1 := cell_then bq s1
  replace s2 := cell_then bq s2
  replace sD := sD.below bq
  replace r0 := cell_then bq r0
  replace r1 := cell_then bq r1
  replace r2 := cell_then bq r2
  replace r3 := cell_then bq r3
  replace ia := ia.then_ bq
  replace ib := ib.then_ bq
  replace ic := ic.then_ bq
  replace tD := tD.below bq
  replace t0 := cell_then bq t0
  replace t1 := cell_then bq t1
  replace t2 := cell_then bq t2
  replace a0 := cell_then bq a0
  replace a1 := cell_then bq a1
  replace b0 := cell_then bq b0
  replace b1 := cell_then bq b1
  replace cD := cD.below bq
  replace c0 := cell_then bq c0
  replace c1 := cell_then bq c1
  replace c2 := cell_then bq c2
  replace mD := mD.below bq
  replace m0 := cell_then bq m0
  replace m1 := cell_then bq m1
  replace m2 := cell_then bq m2
  clear bq
  have ls0 := lt_size s0
  have lr0 := lt_size r0
  have lt0 := lt_size t0
  have la0 := lt_size a0
  have lb0 := lt_size b0
  have lc0 := lt_size c0
  have lm0 := lt_size m0
  go_wp2_with fail
  clear ls0 lr0 lt0 la0 lb0 lc0 lm0
  refine (kept_no 2 7 _ none 5 0 exD [] _ (by decide) sD (.inr rfl)).mono ?_
  rintro e w12 ⟨rfl, bq⟩
  replace hB := below_next hB bq
  replace s0 := cell_then bq s0
  replace s1 := cell_then bq s1
  replace s2 := cell_then bq s2
  replace sD := sD.below bq
  replace r0 := cell_then bq r0
  replace r1 := cell_then bq r1
  replace r2 := cell_then bq r2
  replace r3 := cell_then bq r3
  replace ia := ia.then_ bq
  replace ib := ib.then_ bq
  replace ic := ic.then_ bq
  replace tD := tD.below bq
  replace t0 := cell_then bq t0
  replace t1 := cell_then bq t1
  replace t2 := cell_then bq t2
  replace a0 := cell_then bq a0
  replace a1 := cell_then bq a1
  replace b0 := cell_then bq b0
  replace b1 := cell_then bq b1
  replace cD := cD.below bq
  replace c0 := cell_then bq c0
  replace c1 := cell_then bq c1
  replace c2 := cell_then bq c2
  replace mD := mD.below bq
  replace m0 := cell_then bq m0
  replace m1 := cell_then bq m1
  replace m2 := cell_then bq m2
  clear bq
  have ls0 := lt_size s0
  have lr0 := lt_size r0
  have lt0 := lt_size t0
  have la0 := lt_size a0
  have lb0 := lt_size b0
  have lc0 := lt_size c0
  have lm0 := lt_size m0
  go_wp2_with fail
  have hA := below_alloc (Below.refl _ w12) (.cells #[.int .i64 0, .int .i64 0, .slice none 0 0] 27)
  replace hB := below_next hB hA
  replace s0 := cell_then hA s0
  replace s1 := cell_then hA s1
  replace s2 := cell_then hA s2
  replace sD := sD.below hA
  replace r0 := cell_then hA r0
  replace r1 := cell_then hA r1
  replace r2 := cell_then hA r2
  replace r3 := cell_then hA r3
  replace ia := ia.then_ hA
  replace ib := ib.then_ hA
  replace ic := ic.then_ hA
  replace tD := tD.below hA
  replace t0 := cell_then hA t0
  replace t1 := cell_then hA t1
  replace t2 := cell_then hA t2
  replace a0 := cell_then hA a0
  replace a1 := cell_then hA a1
  replace b0 := cell_then hA b0
  replace b1 := cell_then hA b1
  replace cD := cD.below hA
  replace c0 := cell_then hA c0
  replace c1 := cell_then hA c1
  replace c2 := cell_then hA c2
  replace mD := mD.below hA
  replace m0 := cell_then hA m0
  replace m1 := cell_then hA m1
  replace m2 := cell_then hA m2
  have zz : (w12.alloc (.cells #[.int .i64 0, .int .i64 0, .slice none 0 0] 27)).cell? ⟨w12.heap.size, 0, none⟩ = some (.int .i64 0) := new_cell rfl
  have hsz : w12.heap.size + 1 = (w12.alloc (.cells #[.int .i64 0, .int .i64 0, .slice none 0 0] 27)).heap.size := (asz _ _).symm
  rw [hsz]
  clear hA hsz
  obtain ⟨vz, hvz⟩ : ∃ v, w12.alloc (.cells #[.int .i64 0, .int .i64 0, .slice none 0 0] 27) = v := ⟨_, rfl⟩
  rw [hvz] at hB s0 s1 s2 sD r0 r1 r2 r3 ia ib ic tD t0 t1 t2 a0 a1 b0 b1 cD c0 c1 c2 mD m0 m1 m2 zz ⊢
  clear hvz
  have lzz := lt_size zz
  have hA := below_alloc (Below.refl _ vz) (.cells #[.int .i64 0, .int .i64 2, .int .i64 4] 3)
  replace hB := below_next hB hA
  replace s0 := cell_then hA s0
  replace s1 := cell_then hA s1
  replace s2 := cell_then hA s2
  replace sD := sD.below hA
  replace r0 := cell_then hA r0
  replace r1 := cell_then hA r1
  replace r2 := cell_then hA r2
  replace r3 := cell_then hA r3
  replace ia := ia.then_ hA
  replace ib := ib.then_ hA
  replace ic := ic.then_ hA
  replace tD := tD.below hA
  replace t0 := cell_then hA t0
  replace t1 := cell_then hA t1
  replace t2 := cell_then hA t2
  replace a0 := cell_then hA a0
  replace a1 := cell_then hA a1
  replace b0 := cell_then hA b0
  replace b1 := cell_then hA b1
  replace cD := cD.below hA
  replace c0 := cell_then hA c0
  replace c1 := cell_then hA c1
  replace c2 := cell_then hA c2
  replace mD := mD.below hA
  replace m0 := cell_then hA m0
  replace m1 := cell_then hA m1
  replace m2 := cell_then hA m2
  replace zz := cell_then hA zz
  have ja : IntsAt (vz.alloc (.cells #[.int .i64 0, .int .i64 2, .int .i64 4] 3)) (some ⟨vz.heap.size, 0, none⟩) [0, 2, 4] := ints_lit rfl
  obtain ⟨vvz, hvvz⟩ : ∃ v, vz.alloc (.cells #[.int .i64 0, .int .i64 2, .int .i64 4] 3) = v := ⟨_, rfl⟩
  rw [hvvz] at hB s0 s1 s2 sD r0 r1 r2 r3 ia ib ic tD t0 t1 t2 a0 a1 b0 b1 cD c0 c1 c2 mD m0 m1 m2 zz ja ⊢
  clear hA hvvz ls0 lr0 lt0 la0 lb0 lc0 lm0 lzz
  refine (ints_any _ _ _ _ [0, 2, 4] [0, 2, 4] _ ia ja (by decide)).mono ?_
  rintro e w13 ⟨rfl, bq⟩
  replace hB := below_next hB bq
  replace s0 := cell_then bq s0
  replace s1 := cell_then bq s1
  replace s2 := cell_then bq s2
  replace sD := sD.below bq
  replace r0 := cell_then bq r0
  replace r1 := cell_then bq r1
  replace r2 := cell_then bq r2
  replace r3 := cell_then bq r3
  replace ia := ia.then_ bq
  replace ib := ib.then_ bq
  replace ic := ic.then_ bq
  replace tD := tD.below bq
  replace t0 := cell_then bq t0
  replace t1 := cell_then bq t1
  replace t2 := cell_then bq t2
  replace a0 := cell_then bq a0
  replace a1 := cell_then bq a1
  replace b0 := cell_then bq b0
  replace b1 := cell_then bq b1
  replace cD := cD.below bq
  replace c0 := cell_then bq c0
  replace c1 := cell_then bq c1
  replace c2 := cell_then bq c2
  replace mD := mD.below bq
  replace m0 := cell_then bq m0
  replace m1 := cell_then bq m1
  replace m2 := cell_then bq m2
  replace zz := cell_then bq zz
  replace ja := ja.then_ bq
  clear bq
  have ls0 := lt_size s0
  have lr0 := lt_size r0
  have lt0 := lt_size t0
  have la0 := lt_size a0
  have lb0 := lt_size b0
  have lc0 := lt_size c0
  have lm0 := lt_size m0
  have lzz := lt_size zz
  rw [show (decide (([0, 2, 4] : List Int) = [0, 2, 4])) = true from rfl]
  go_wp2_with fail
  have hA := below_alloc (Below.refl _ w13) (.cells #[.int .i64 0, .int .i64 1, .int .i64 2, .int .i64 4] 3)
  replace hB := below_next hB hA
  replace s0 := cell_then hA s0
  replace s1 := cell_then hA s1
  replace s2 := cell_then hA s2
  replace sD := sD.below hA
  replace r0 := cell_then hA r0
  replace r1 := cell_then hA r1
  replace r2 := cell_then hA r2
  replace r3 := cell_then hA r3
  replace ia := ia.then_ hA
  replace ib := ib.then_ hA
  replace ic := ic.then_ hA
  replace tD := tD.below hA
  replace t0 := cell_then hA t0
  replace t1 := cell_then hA t1
  replace t2 := cell_then hA t2
  replace a0 := cell_then hA a0
  replace a1 := cell_then hA a1
  replace b0 := cell_then hA b0
  replace b1 := cell_then hA b1
  replace cD := cD.below hA
  replace c0 := cell_then hA c0
  replace c1 := cell_then hA c1
  replace c2 := cell_then hA c2
  replace mD := mD.below hA
  replace m0 := cell_then hA m0
  replace m1 := cell_then hA m1
  replace m2 := cell_then hA m2
  replace zz := cell_then hA zz
  replace ja := ja.then_ hA
  have jb : IntsAt (w13.alloc (.cells #[.int .i64 0, .int .i64 1, .int .i64 2, .int .i64 4] 3)) (some ⟨w13.heap.size, 0, none⟩) [0, 1, 2, 4] := ints_lit rfl
  obtain ⟨vw13, hvw13⟩ : ∃ v, w13.alloc (.cells #[.int .i64 0, .int .i64 1, .int .i64 2, .int .i64 4] 3) = v := ⟨_, rfl⟩
  rw [hvw13] at hB s0 s1 s2 sD r0 r1 r2 r3 ia ib ic tD t0 t1 t2 a0 a1 b0 b1 cD c0 c1 c2 mD m0 m1 m2 zz ja jb ⊢
  clear hA hvw13 ls0 lr0 lt0 la0 lb0 lc0 lm0 lzz
  refine (ints_any _ _ _ _ [0, 1, 2, 4] [0, 1, 2, 4] _ ib jb (by decide)).mono ?_
  rintro e w14 ⟨rfl, bq⟩
  replace hB := below_next hB bq
  replace s0 := cell_then bq s0
  replace s1 := cell_then bq s1
  replace s2 := cell_then bq s2
  replace sD := sD.below bq
  replace r0 := cell_then bq r0
  replace r1 := cell_then bq r1
  replace r2 := cell_then bq r2
  replace r3 := cell_then bq r3
  replace ia := ia.then_ bq
  replace ib := ib.then_ bq
  replace ic := ic.then_ bq
  replace tD := tD.below bq
  replace t0 := cell_then bq t0
  replace t1 := cell_then bq t1
  replace t2 := cell_then bq t2
  replace a0 := cell_then bq a0
  replace a1 := cell_then bq a1
  replace b0 := cell_then bq b0
  replace b1 := cell_then bq b1
  replace cD := cD.below bq
  replace c0 := cell_then bq c0
  replace c1 := cell_then bq c1
  replace c2 := cell_then bq c2
  replace mD := mD.below bq
  replace m0 := cell_then bq m0
  replace m1 := cell_then bq m1
  replace m2 := cell_then bq m2
  replace zz := cell_then bq zz
  replace ja := ja.then_ bq
  replace jb := jb.then_ bq
  clear bq
  have ls0 := lt_size s0
  have lr0 := lt_size r0
  have lt0 := lt_size t0
  have la0 := lt_size a0
  have lb0 := lt_size b0
  have lc0 := lt_size c0
  have lm0 := lt_size m0
  have lzz := lt_size zz
  rw [show (decide (([0, 1, 2, 4] : List Int) = [0, 1, 2, 4])) = true from rfl]
  go_wp2_with fail
  have hA := below_alloc (Below.refl _ w14) (.cells #[.int .i64 0, .int .i64 1, .int .i64 2, .int .i64 3, .int .i64 4] 3)
  replace hB := below_next hB hA
  replace s0 := cell_then hA s0
  replace s1 := cell_then hA s1
  replace s2 := cell_then hA s2
  replace sD := sD.below hA
  replace r0 := cell_then hA r0
  replace r1 := cell_then hA r1
  replace r2 := cell_then hA r2
  replace r3 := cell_then hA r3
  replace ia := ia.then_ hA
  replace ib := ib.then_ hA
  replace ic := ic.then_ hA
  replace tD := tD.below hA
  replace t0 := cell_then hA t0
  replace t1 := cell_then hA t1
  replace t2 := cell_then hA t2
  replace a0 := cell_then hA a0
  replace a1 := cell_then hA a1
  replace b0 := cell_then hA b0
  replace b1 := cell_then hA b1
  replace cD := cD.below hA
  replace c0 := cell_then hA c0
  replace c1 := cell_then hA c1
  replace c2 := cell_then hA c2
  replace mD := mD.below hA
  replace m0 := cell_then hA m0
  replace m1 := cell_then hA m1
  replace m2 := cell_then hA m2
  replace zz := cell_then hA zz
  replace ja := ja.then_ hA
  replace jb := jb.then_ hA
  have jc : IntsAt (w14.alloc (.cells #[.int .i64 0, .int .i64 1, .int .i64 2, .int .i64 3, .int .i64 4] 3)) (some ⟨w14.heap.size, 0, none⟩) [0, 1, 2, 3, 4] := ints_lit rfl
  obtain ⟨vw14, hvw14⟩ : ∃ v, w14.alloc (.cells #[.int .i64 0, .int .i64 1, .int .i64 2, .int .i64 3, .int .i64 4] 3) = v := ⟨_, rfl⟩
  rw [hvw14] at hB s0 s1 s2 sD r0 r1 r2 r3 ia ib ic tD t0 t1 t2 a0 a1 b0 b1 cD c0 c1 c2 mD m0 m1 m2 zz ja jb jc ⊢
  clear hA hvw14 ls0 lr0 lt0 la0 lb0 lc0 lm0 lzz
  refine (ints_any _ _ _ _ [0, 1, 2, 3, 4] [0, 1, 2, 3, 4] _ ic jc (by decide)).mono ?_
  rintro e w15 ⟨rfl, bq⟩
  replace hB := below_next hB bq
  replace s0 := cell_then bq s0
  replace s1 := cell_then bq s1
  replace s2 := cell_then bq s2
  replace sD := sD.below bq
  replace r0 := cell_then bq r0
  replace r1 := cell_then bq r1
  replace r2 := cell_then bq r2
  replace r3 := cell_then bq r3
  replace ia := ia.then_ bq
  replace ib := ib.then_ bq
  replace ic := ic.then_ bq
  replace tD := tD.below bq
  replace t0 := cell_then bq t0
  replace t1 := cell_then bq t1
  replace t2 := cell_then bq t2
  replace a0 := cell_then bq a0
  replace a1 := cell_then bq a1
  replace b0 := cell_then bq b0
  replace b1 := cell_then bq b1
  replace cD := cD.below bq
  replace c0 := cell_then bq c0
  replace c1 := cell_then bq c1
  replace c2 := cell_then bq c2
  replace mD := mD.below bq
  replace m0 := cell_then bq m0
  replace m1 := cell_then bq m1
  replace m2 := cell_then bq m2
  replace zz := cell_then bq zz
  replace ja := ja.then_ bq
  replace jb := jb.then_ bq
  replace jc := jc.then_ bq
  clear bq
  have ls0 := lt_size s0
  have lr0 := lt_size r0
  have lt0 := lt_size t0
  have la0 := lt_size a0
  have lb0 := lt_size b0
  have lc0 := lt_size c0
  have lm0 := lt_size m0
  have lzz := lt_size zz
  rw [show (decide (([0, 1, 2, 3, 4] : List Int) = [0, 1, 2, 3, 4])) = true from rfl]
  go_wp2_with fail
  obtain ⟨b_, o_, hA_, x0, x1, x2, x3⟩ := cD 1 (by decide)
  cases hA_
  have kc0 : w15.cell? ⟨gc, 4, none⟩ = some (.int .i64 100) := x0
  have kc1 : w15.cell? ⟨gc, 5, none⟩ = some (.int .i64 0) := x1
  have kc2 : w15.cell? ⟨gc, 6, none⟩ = some (.int .i64 0) := x2
  have kc3 : w15.cell? ⟨gc, 7, none⟩ = some (.int .i64 0) := x3
  clear x0 x1 x2 x3
  obtain ⟨b_, o_, hA_, x0, x1, x2, x3⟩ := mD 4 (by decide)
  cases hA_
  have km0 : w15.cell? ⟨gm, 16, none⟩ = some (.int .i64 102) := x0
  have km1 : w15.cell? ⟨gm, 17, none⟩ = some (.int .i64 102) := x1
  have km2 : w15.cell? ⟨gm, 18, none⟩ = some (.int .i64 0) := x2
  have km3 : w15.cell? ⟨gm, 19, none⟩ = some (.int .i64 0) := x3
  clear x0 x1 x2 x3
  have q1 := fun W => eqR W 0 0 101 100
  have q2 := fun W => eqP W 4095 0
  have q3 := fun W => eqP W 3995 101
  have q4 := fun W => eqD W 100 0 0 0
  have q5 := fun W => eqD W 102 102 0 0
  refine (nearB_any 0 0 100 0 50 3 3 _).mono ?_
  rintro e w16 ⟨rfl, bq⟩
  replace hB := below_next hB bq
  replace s0 := cell_then bq s0
  replace s1 := cell_then bq s1
  replace s2 := cell_then bq s2
  replace sD := sD.below bq
  replace r0 := cell_then bq r0
  replace r1 := cell_then bq r1
  replace r2 := cell_then bq r2
  replace r3 := cell_then bq r3
  replace ia := ia.then_ bq
  replace ib := ib.then_ bq
  replace ic := ic.then_ bq
  replace tD := tD.below bq
  replace t0 := cell_then bq t0
  replace t1 := cell_then bq t1
  replace t2 := cell_then bq t2
  replace a0 := cell_then bq a0
  replace a1 := cell_then bq a1
  replace b0 := cell_then bq b0
  replace b1 := cell_then bq b1
  replace cD := cD.below bq
  replace c0 := cell_then bq c0
  replace c1 := cell_then bq c1
  replace c2 := cell_then bq c2
  replace mD := mD.below bq
  replace m0 := cell_then bq m0
  replace m1 := cell_then bq m1
  replace m2 := cell_then bq m2
  replace zz := cell_then bq zz
  replace ja := ja.then_ bq
  replace jb := jb.then_ bq
  replace jc := jc.then_ bq
  replace kc0 := cell_then bq kc0
  replace kc1 := cell_then bq kc1
  replace kc2 := cell_then bq kc2
  replace kc3 := cell_then bq kc3
  replace km0 := cell_then bq km0
  replace km1 := cell_then bq km1
  replace km2 := cell_then bq km2
  replace km3 := cell_then bq km3
  clear bq
  have ls0 := lt_size s0
  have lr0 := lt_size r0
  have lt0 := lt_size t0
  have la0 := lt_size a0
  have lb0 := lt_size b0
  have lc0 := lt_size c0
  have lm0 := lt_size m0
  have lzz := lt_size zz
  have lkc0 := lt_size kc0
  have lkm0 := lt_size km0
  rw [ex_n3]
  go_wp2_with fail
  clear ls0 lr0 lt0 la0 lb0 lc0 lm0 lzz lkc0 lkm0
  refine (nearB_any 0 0 100 0 50 3 2 _).mono ?_
  rintro e w17 ⟨rfl, bq⟩
  replace hB := below_next hB bq
  replace s0 := cell_then bq s0
  replace s1 := cell_then bq s1
  replace s2 := cell_then bq s2
  replace sD := sD.below bq
  replace r0 := cell_then bq r0
  replace r1 := cell_then bq r1
  replace r2 := cell_then bq r2
  replace r3 := cell_then bq r3
  replace ia := ia.then_ bq
  replace ib := ib.then_ bq
  replace ic := ic.then_ bq
  replace tD := tD.below bq
  replace t0 := cell_then bq t0
  replace t1 := cell_then bq t1
  replace t2 := cell_then bq t2
  replace a0 := cell_then bq a0
  replace a1 := cell_then bq a1
  replace b0 := cell_then bq b0
  replace b1 := cell_then bq b1
  replace cD := cD.below bq
  replace c0 := cell_then bq c0
  replace c1 := cell_then bq c1
  replace c2 := cell_then bq c2
  replace mD := mD.below bq
  replace m0 := cell_then bq m0
  replace m1 := cell_then bq m1
  replace m2 := cell_then bq m2
  replace zz := cell_then bq zz
  replace ja := ja.then_ bq
  replace jb := jb.then_ bq
  replace jc := jc.then_ bq
  replace kc0 := cell_then bq kc0
  replace kc1 := cell_then bq kc1
  replace kc2 := cell_then bq kc2
  replace kc3 := cell_then bq kc3
  replace km0 := cell_then bq km0
  replace km1 := cell_then bq km1
  replace km2 := cell_then bq km2
  replace km3 := cell_then bq km3
  clear bq
  have ls0 := lt_size s0
  have lr0 := lt_size r0
  have lt0 := lt_size t0
  have la0 := lt_size a0
  have lb0 := lt_size b0
  have lc0 := lt_size c0
  have lm0 := lt_size m0
  have lzz := lt_size zz
  have lkc0 := lt_size kc0
  have lkm0 := lt_size km0
  rw [ex_n2]
  go_wp2_with fail
  clear ls0 lr0 lt0 la0 lb0 lc0 lm0 lzz lkc0 lkm0
  refine (code_any 2 7 _ 5 exD _ sD (by decide)).mono ?_
  rintro e w18 ⟨rfl, bq⟩
  replace hB := below_next hB bq
  replace s0 := cell_then bq s0
  replace s1 := cell_then bq s1
  replace s2 := cell_then bq s2
  replace sD := sD.below bq
  replace r0 := cell_then bq r0
  replace r1 := cell_then bq r1
  replace r2 := cell_then bq r2
  replace r3 := cell_then bq r3
  replace ia := ia.then_ bq
  replace ib := ib.then_ bq
  replace ic := ic.then_ bq
  replace tD := tD.below bq
  replace t0 := cell_then bq t0
  replace t1 := cell_then bq t1
  replace t2 := cell_then bq t2
  replace a0 := cell_then bq a0
  replace a1 := cell_then bq a1
  replace b0 := cell_then bq b0
  replace b1 := cell_then bq b1
  replace cD := cD.below bq
  replace c0 := cell_then bq c0
  replace c1 := cell_then bq c1
  replace c2 := cell_then bq c2
  replace mD := mD.below bq
  replace m0 := cell_then bq m0
  replace m1 := cell_then bq m1
  replace m2 := cell_then bq m2
  replace zz := cell_then bq zz
  replace ja := ja.then_ bq
  replace jb := jb.then_ bq
  replace jc := jc.then_ bq
  replace kc0 := cell_then bq kc0
  replace kc1 := cell_then bq kc1
  replace kc2 := cell_then bq kc2
  replace kc3 := cell_then bq kc3
  replace km0 := cell_then bq km0
  replace km1 := cell_then bq km1
  replace km2 := cell_then bq km2
  replace km3 := cell_then bq km3
  clear bq
  have ls0 := lt_size s0
  have lr0 := lt_size r0
  have lt0 := lt_size t0
  have la0 := lt_size a0
  have lb0 := lt_size b0
  have lc0 := lt_size c0
  have lm0 := lt_size m0
  have lzz := lt_size zz
  have lkc0 := lt_size kc0
  have lkm0 := lt_size km0
  rw [ex_code]
  go_wp2_with fail
  clear ls0 lr0 lt0 la0 lb0 lc0 lm0 lzz lkc0 lkm0
  refine (within_yes 2 7 _ 5 exD 52 3 2 _ sD ex_valid).mono ?_
  rintro e w19 ⟨rfl, bq⟩
  replace hB := below_next hB bq
  replace s0 := cell_then bq s0
  replace s1 := cell_then bq s1
  replace s2 := cell_then bq s2
  replace sD := sD.below bq
  replace r0 := cell_then bq r0
  replace r1 := cell_then bq r1
  replace r2 := cell_then bq r2
  replace r3 := cell_then bq r3
  replace ia := ia.then_ bq
  replace ib := ib.then_ bq
  replace ic := ic.then_ bq
  replace tD := tD.below bq
  replace t0 := cell_then bq t0
  replace t1 := cell_then bq t1
  replace t2 := cell_then bq t2
  replace a0 := cell_then bq a0
  replace a1 := cell_then bq a1
  replace b0 := cell_then bq b0
  replace b1 := cell_then bq b1
  replace cD := cD.below bq
  replace c0 := cell_then bq c0
  replace c1 := cell_then bq c1
  replace c2 := cell_then bq c2
  replace mD := mD.below bq
  replace m0 := cell_then bq m0
  replace m1 := cell_then bq m1
  replace m2 := cell_then bq m2
  replace zz := cell_then bq zz
  replace ja := ja.then_ bq
  replace jb := jb.then_ bq
  replace jc := jc.then_ bq
  replace kc0 := cell_then bq kc0
  replace kc1 := cell_then bq kc1
  replace kc2 := cell_then bq kc2
  replace kc3 := cell_then bq kc3
  replace km0 := cell_then bq km0
  replace km1 := cell_then bq km1
  replace km2 := cell_then bq km2
  replace km3 := cell_then bq km3
  clear bq
  have ls0 := lt_size s0
  have lr0 := lt_size r0
  have lt0 := lt_size t0
  have la0 := lt_size a0
  have lb0 := lt_size b0
  have lc0 := lt_size c0
  have lm0 := lt_size m0
  have lzz := lt_size zz
  have lkc0 := lt_size kc0
  have lkm0 := lt_size km0
  rw [ex_within]
  go_wp2_with fail
  clear ls0 lr0 lt0 la0 lb0 lc0 lm0 lzz lkc0 lkm0
  refine (valid_any 2 7 _ 5 exD _ sD (by decide)).mono ?_
  rintro e w20 ⟨rfl, bq⟩
  replace hB := below_next hB bq
  replace s0 := cell_then bq s0
  replace s1 := cell_then bq s1
  replace s2 := cell_then bq s2
  replace sD := sD.below bq
  replace r0 := cell_then bq r0
  replace r1 := cell_then bq r1
  replace r2 := cell_then bq r2
  replace r3 := cell_then bq r3
  replace ia := ia.then_ bq
  replace ib := ib.then_ bq
  replace ic := ic.then_ bq
  replace tD := tD.below bq
  replace t0 := cell_then bq t0
  replace t1 := cell_then bq t1
  replace t2 := cell_then bq t2
  replace a0 := cell_then bq a0
  replace a1 := cell_then bq a1
  replace b0 := cell_then bq b0
  replace b1 := cell_then bq b1
  replace cD := cD.below bq
  replace c0 := cell_then bq c0
  replace c1 := cell_then bq c1
  replace c2 := cell_then bq c2
  replace mD := mD.below bq
  replace m0 := cell_then bq m0
  replace m1 := cell_then bq m1
  replace m2 := cell_then bq m2
  replace zz := cell_then bq zz
  replace ja := ja.then_ bq
  replace jb := jb.then_ bq
  replace jc := jc.then_ bq
  replace kc0 := cell_then bq kc0
  replace kc1 := cell_then bq kc1
  replace kc2 := cell_then bq kc2
  replace kc3 := cell_then bq kc3
  replace km0 := cell_then bq km0
  replace km1 := cell_then bq km1
  replace km2 := cell_then bq km2
  replace km3 := cell_then bq km3
  clear bq
  have ls0 := lt_size s0
  have lr0 := lt_size r0
  have lt0 := lt_size t0
  have la0 := lt_size a0
  have lb0 := lt_size b0
  have lc0 := lt_size c0
  have lm0 := lt_size m0
  have lzz := lt_size zz
  have lkc0 := lt_size kc0
  have lkm0 := lt_size km0
  rw [ex_valid]
  go_wp2_with fail
  clear ls0 lr0 lt0 la0 lb0 lc0 lm0 lzz lkc0 lkm0
  refine (valid_any 0 0 none 0 [] _ (fun i hi => absurd hi (by simp)) (by decide)).mono ?_
  rintro e w21 ⟨rfl, bq⟩
  replace hB := below_next hB bq
  replace s0 := cell_then bq s0
  replace s1 := cell_then bq s1
  replace s2 := cell_then bq s2
  replace sD := sD.below bq
  replace r0 := cell_then bq r0
  replace r1 := cell_then bq r1
  replace r2 := cell_then bq r2
  replace r3 := cell_then bq r3
  replace ia := ia.then_ bq
  replace ib := ib.then_ bq
  replace ic := ic.then_ bq
  replace tD := tD.below bq
  replace t0 := cell_then bq t0
  replace t1 := cell_then bq t1
  replace t2 := cell_then bq t2
  replace a0 := cell_then bq a0
  replace a1 := cell_then bq a1
  replace b0 := cell_then bq b0
  replace b1 := cell_then bq b1
  replace cD := cD.below bq
  replace c0 := cell_then bq c0
  replace c1 := cell_then bq c1
  replace c2 := cell_then bq c2
  replace mD := mD.below bq
  replace m0 := cell_then bq m0
  replace m1 := cell_then bq m1
  replace m2 := cell_then bq m2
  replace zz := cell_then bq zz
  replace ja := ja.then_ bq
  replace jb := jb.then_ bq
  replace jc := jc.then_ bq
  replace kc0 := cell_then bq kc0
  replace kc1 := cell_then bq kc1
  replace kc2 := cell_then bq kc2
  replace kc3 := cell_then bq kc3
  replace km0 := cell_then bq km0
  replace km1 := cell_then bq km1
  replace km2 := cell_then bq km2
  replace km3 := cell_then bq km3
  clear bq
  have ls0 := lt_size s0
  have lr0 := lt_size r0
  have lt0 := lt_size t0
  have la0 := lt_size a0
  have lb0 := lt_size b0
  have lc0 := lt_size c0
  have lm0 := lt_size m0
  have lzz := lt_size zz
  have lkc0 := lt_size kc0
  have lkm0 := lt_size km0
  rw [ex_inval]
  go_wp2_with fail
  clear ls0 lr0 lt0 la0 lb0 lc0 lm0 lzz lkc0 lkm0
  refine (same_any 2 7 2 7 _ _ 5 5 exD exD _ sD sD (by decide)).mono ?_
  rintro e w22 ⟨rfl, bq⟩
  replace hB := below_next hB bq
  replace s0 := cell_then bq s0
  replace s1 := cell_then bq s1
  replace s2 := cell_then bq s2
  replace sD := sD.below bq
  replace r0 := cell_then bq r0
  replace r1 := cell_then bq r1
  replace r2 := cell_then bq r2
  replace r3 := cell_then bq r3
  replace ia := ia.then_ bq
  replace ib := ib.then_ bq
  replace ic := ic.then_ bq
  replace tD := tD.below bq
  replace t0 := cell_then bq t0
  replace t1 := cell_then bq t1
  replace t2 := cell_then bq t2
  replace a0 := cell_then bq a0
  replace a1 := cell_then bq a1
  replace b0 := cell_then bq b0
  replace b1 := cell_then bq b1
  replace cD := cD.below bq
  replace c0 := cell_then bq c0
  replace c1 := cell_then bq c1
  replace c2 := cell_then bq c2
  replace mD := mD.below bq
  replace m0 := cell_then bq m0
  replace m1 := cell_then bq m1
  replace m2 := cell_then bq m2
  replace zz := cell_then bq zz
  replace ja := ja.then_ bq
  replace jb := jb.then_ bq
  replace jc := jc.then_ bq
  replace kc0 := cell_then bq kc0
  replace kc1 := cell_then bq kc1
  replace kc2 := cell_then bq kc2
  replace kc3 := cell_then bq kc3
  replace km0 := cell_then bq km0
  replace km1 := cell_then bq km1
  replace km2 := cell_then bq km2
  replace km3 := cell_then bq km3
  clear bq
  have ls0 := lt_size s0
  have lr0 := lt_size r0
  have lt0 := lt_size t0
  have la0 := lt_size a0
  have lb0 := lt_size b0
  have lc0 := lt_size c0
  have lm0 := lt_size m0
  have lzz := lt_size zz
  have lkc0 := lt_size kc0
  have lkm0 := lt_size km0
  rw [ex_same]
  go_wp2_with fail
  clear ls0 lr0 lt0 la0 lb0 lc0 lm0 lzz lkc0 lkm0
  refine (same_any 2 7 2 7 _ _ 5 capt exD exT _ sD tD (by decide)).mono ?_
  rintro e w23 ⟨rfl, bq⟩
  replace hB := below_next hB bq
  replace s0 := cell_then bq s0
  replace s1 := cell_then bq s1
  replace s2 := cell_then bq s2
  replace sD := sD.below bq
  replace r0 := cell_then bq r0
  replace r1 := cell_then bq r1
  replace r2 := cell_then bq r2
  replace r3 := cell_then bq r3
  replace ia := ia.then_ bq
  replace ib := ib.then_ bq
  replace ic := ic.then_ bq
  replace tD := tD.below bq
  replace t0 := cell_then bq t0
  replace t1 := cell_then bq t1
  replace t2 := cell_then bq t2
  replace a0 := cell_then bq a0
  replace a1 := cell_then bq a1
  replace b0 := cell_then bq b0
  replace b1 := cell_then bq b1
  replace cD := cD.below bq
  replace c0 := cell_then bq c0
  replace c1 := cell_then bq c1
  replace c2 := cell_then bq c2
  replace mD := mD.below bq
  replace m0 := cell_then bq m0
  replace m1 := cell_then bq m1
  replace m2 := cell_then bq m2
  replace zz := cell_then bq zz
  replace ja := ja.then_ bq
  replace jb := jb.then_ bq
  replace jc := jc.then_ bq
  replace kc0 := cell_then bq kc0
  replace kc1 := cell_then bq kc1
  replace kc2 := cell_then bq kc2
  replace kc3 := cell_then bq kc3
  replace km0 := cell_then bq km0
  replace km1 := cell_then bq km1
  replace km2 := cell_then bq km2
  replace km3 := cell_then bq km3
  clear bq
  have ls0 := lt_size s0
  have lr0 := lt_size r0
  have lt0 := lt_size t0
  have la0 := lt_size a0
  have lb0 := lt_size b0
  have lc0 := lt_size c0
  have lm0 := lt_size m0
  have lzz := lt_size zz
  have lkc0 := lt_size kc0
  have lkm0 := lt_size km0
  rw [ex_diff]
  go_wp2_with fail
  clear ls0 lr0 lt0 la0 lb0 lc0 lm0 lzz lkc0 lkm0
  go_ret
  exact ⟨rfl, hB⟩
end Go.Proofs.Ytgmabepdhbnppaa
