/- The strokes' reference: Turned of any stroke. -/
import Derived.Test.YtgmabepdhbnppaaStrokeR5
import Derived.Test.YtgmabepdhbnppaaStrokeMoved
namespace Go.Proofs.Ytgmabepdhbnppaa
open Go.RowKit Str
attribute [local go_sem] Oper.semAt_some
attribute [local go_sem ↓] Var3.c0 Var3.c1 Var3.c2 Var3.f0 Var3.f1 Var3.f2
set_option maxRecDepth 100000 in
set_option maxHeartbeats 4000000 in
theorem turnedR_bad (P N : Int) (A : Option Addr) (cap : Nat) (D : List Dot) (q : Int) (w : World) (hD : Dots w A D) (hcp : D.length ≤ cap) (hcm : (cap : Int) ≤ 9223372036854775807) (h1 : validB P N D = false) :
    Calls Try.prog 36 #[.agg #[.int .i64 P, .int .i64 N, .slice A D.length cap], .int .i64 q] w (NoP w) := by
  have B0 : Below w.heap.size w ((w.alloc (.cells #[.int .i64 P, .int .i64 N, .slice A D.length cap] 27)).alloc (.cells #[.int .i64 0, .int .i64 0, .slice none 0 0] 27)) := below_alloc (below_alloc (Below.refl _ _) _) _
  have hc := validR_any P N A cap D _ (hD.below B0) hcp hcm
  rw [h1] at hc
  have HC := Lib.hid hc
  have HB0 := Lib.hid B0
  clear hc B0 h1
  clear hD
  go_enter Try.func36, Try.ntmps36
  go_wp2_with fail
  refine HC.out.mono ?_
  rintro e w1 ⟨rfl, b1⟩
  have V1 : Var3 w1 (w.heap.size + 1) := Var3.of (var_then b1 (v := .int .i64 0) (by simp [go_sem])) (var_then b1 (v := .int .i64 0) (by simp [go_sem])) (var_then b1 (v := .slice none 0 0) (by simp [go_sem]))
  go_wp2_with fail
  exact bodyPost_ret (v := .tuple #[.agg #[.int .i64 0, .int .i64 0, .slice none 0 0], .int .i64 50]) (by simp [results, Try.results36, go_sem, V1.c0, V1.c1, V1.c2]) rfl ⟨rfl, (((below_next HB0.out b1).setCell (by simp) _).setCell (by simp) _).setCell (by simp) _⟩
set_option maxRecDepth 100000 in
set_option maxHeartbeats 4000000 in
theorem turnedR_yes (P N : Int) (A : Option Addr) (cap : Nat) (D : List Dot) (q : Int) (w : World) (hD : Dots w A D) (hcp : D.length ≤ cap) (hcm : (cap : Int) ≤ 9223372036854775807) (h1 : validB P N D = true) (hq : -9223372036854775808 ≤ q ∧ q ≤ 9223372036854775807) :
    Calls Try.prog 36 #[.agg #[.int .i64 P, .int .i64 N, .slice A D.length cap], .int .i64 q] w (YesP P N (turnD (q % 4).toNat D) w) := by
  obtain ⟨m, hm⟩ : ∃ m, (q % 4).toNat = m := ⟨_, rfl⟩
  rw [hm]
  have hm4 : m = 0 ∨ m = 1 ∨ m = 2 ∨ m = 3 := by omega
  obtain ⟨r, hr⟩ : ∃ r, q.tmod 4 = r := ⟨_, rfl⟩
  have hrm : (0 ≤ r ∧ r = (m : Int)) ∨ (r < 0 ∧ r + 4 = (m : Int)) := by
    rcases Int.lt_or_le q 0 with h | h
    · have e1 : q.tmod 4 = -((-q) % 4) := by
        rw [show q = -(-q) by omega, Int.neg_tmod, Int.tmod_eq_emod_of_nonneg (by omega), Int.neg_neg]
      omega
    · have e1 : q.tmod 4 = q % 4 := Int.tmod_eq_emod_of_nonneg h
      omega
  have hrb : -4 ≤ r ∧ r < 4 := by omega
  clear hm hq
  obtain ⟨⟨p5, p6⟩, p0⟩ := valid_len h1
  have hpl := placed (validB_dots h1)
  have HPL := Lib.hid hpl
  have hcp' : (D.length : Int) ≤ (cap : Int) := by omega
  obtain ⟨i0, hi0, hz0, hz1, hz2⟩ := info_parts dot_info
  have HI := Lib.hid (And.intro hi0 (And.intro hz0 (And.intro hz1 hz2)))
  have B0 : Below w.heap.size w ((w.alloc (.cells #[.int .i64 P, .int .i64 N, .slice A D.length cap] 27)).alloc (.cells #[.int .i64 0, .int .i64 0, .slice none 0 0] 27)) := below_alloc (below_alloc (Below.refl _ _) _) _
  have hc := validR_any P N A cap D _ (hD.below B0) hcp hcm
  rw [h1] at hc
  have HC := Lib.hid hc
  have HB0 := Lib.hid B0
  clear hc B0 h1
  have HD := Lib.hid hD
  clear hD hi0 hz0 hz1 hz2 hpl
  go_enter Try.func36, Try.ntmps36
  go_wp2_with fail
  refine HC.out.mono ?_
  rintro e w1 ⟨rfl, b1⟩
  have e0 : w1.cell? ⟨w.heap.size, 0, none⟩ = some (.int .i64 P) := cell_then b1 (by simp [go_sem])
  have e1 : w1.cell? ⟨w.heap.size, 1, none⟩ = some (.int .i64 N) := cell_then b1 (by simp [go_sem])
  have e2 : w1.cell? ⟨w.heap.size, 2, none⟩ = some (.slice A D.length cap) := cell_then b1 (by simp [go_sem])
  have V1 : Var3 w1 (w.heap.size + 1) := Var3.of (var_then b1 (v := .int .i64 0) (by simp [go_sem])) (var_then b1 (v := .int .i64 0) (by simp [go_sem])) (var_then b1 (v := .slice none 0 0) (by simp [go_sem]))
  have hsz := lt_size V1.c0
  obtain ⟨W0, hW0⟩ : ∃ W0, w1.alloc (.cells #[.int .i64 P, .int .i64 N, .slice none 0 0] 27) = W0 := ⟨_, rfl⟩
  have BN : Below w1.heap.size w1 W0 := by rw [← hW0]; exact below_alloc (Below.refl _ _) _
  have VO : Var3 W0 w1.heap.size := by rw [← hW0]; exact Var3.new _ _ _ _ _
  have o0 : W0.cell? ⟨w1.heap.size, 0, none⟩ = some (.int .i64 P) := by rw [← hW0]; exact new_cell rfl
  have o1 : W0.cell? ⟨w1.heap.size, 1, none⟩ = some (.int .i64 N) := by rw [← hW0]; exact new_cell rfl
  have o2 : W0.cell? ⟨w1.heap.size, 2, none⟩ = some (.slice none 0 0) := by rw [← hW0]; exact new_cell rfl
  have e3 := cell_then BN e2
  have HB1 := Lib.hid (below_next HB0.out (below_next b1 BN))
  have HV1 := Lib.hid (V1.then_ BN)
  have HVO := Lib.hid VO
  have HW0 := Lib.hid hW0
  obtain ⟨gr, hgr⟩ : ∃ g, w1.heap.size = g := ⟨_, rfl⟩
  rw [hgr] at o0 o1 o2 HVO hsz
  have HGR := Lib.hid hgr
  clear hW0 VO V1 BN b1 HB0 HC hgr e2
  rcases hrm with ⟨hr0, hrm⟩ | ⟨hr0, hrm⟩
  · have x1 : IntKind.i64.wrap r = r := IntWalk.i64_in _ (by omega)
    subst hrm
    go_wp2_with fail
    rw [HW0.out, HGR.out]
    clear HW0 HGR e0 e1
    go_loopw [8, 9, 10] (fun i _ _ wr => ∃ (k : Nat) (x : Value), k ≤ D.length ∧ i = .int .i64 (k : Int) ∧ wr.ownsRow (gr + 1) 24 4 x k (dcells (turnD m (D.take k))) ∧ wr.cell? ⟨gr, 0, none⟩ = some (.int .i64 P) ∧ wr.cell? ⟨gr, 1, none⟩ = some (.int .i64 N) ∧ wr.cell? ⟨gr, 2, none⟩ = some x ∧ Var3 wr gr ∧ Var3 wr (w.heap.size + 1) ∧ wr.cell? ⟨w.heap.size, 2, none⟩ = some (.slice A D.length cap) ∧ Below w.heap.size w wr) (fun i _ _ _ => D.length - (intOf i).toNat)
    case atStart => exact ⟨0, .slice none 0 0, by omega, rfl, World.ownsRow_nil _ _ _ _, o0, o1, o2, HVO.out, HV1.out, e3, HB1.out⟩
    case round =>
      clear o0 o1 o2 HVO HV1 e3 HB1
      obtain ⟨k, x, hk, rfl, hown, o0, o1, o2, VO, VR, e2, hB⟩ := hrel
      have HOW := Lib.hid hown
      have HVO := Lib.hid VO
      have HVR := Lib.hid VR
      have HB := Lib.hid hB
      have lo := lt_size o2
      have lr := lt_size VR.c0
      have le := lt_size e2
      have z2 := VO.f2
      clear hown VO VR
      by_cases hlt : k < D.length
      · obtain ⟨b, o, rfl, c0, c1, c2, c3⟩ := (HD.out.below hB) k hlt
        have hbl := lt_size c0
        have hpd := placeB_iff.1 (HPL.out _ (dotAt_mem hlt))
        have hmd : turnD m (D.take (k + 1)) = turnD m (D.take k) ++ [turnN m (dotAt D k)] := by rw [take_dot hlt, turnD, turnD, List.map_append]; rfl
        obtain ⟨d, hd⟩ : ∃ d, dotAt D k = d := ⟨_, rfl⟩
        rw [hd] at hmd hpd c0 c1 c2 c3
        obtain ⟨dx, dy, dt, dp⟩ := d
        dsimp only at hpd c0 c1 c2 c3
        have y1 : IntKind.i64.wrap (4095 - dx) = 4095 - dx := IntWalk.i64_in _ (by omega)
        have y2 : IntKind.i64.wrap (4095 - dy) = 4095 - dy := IntWalk.i64_in _ (by omega)
        have hkk : (k : Int) < (D.length : Int) := by omega
        have hk0 : (0 : Int) ≤ (k : Int) := by omega
        have nn1 : gr ≠ wr.heap.size := by omega
        have nn2 : gr ≠ wr.heap.size + 1 := by omega
        have nn3 : gr ≠ wr.heap.size + 1 + 1 := by omega
        have nn4 : gr ≠ wr.heap.size + 2 := by omega
        have hxo : ∀ q, q < gr + 1 → x.ownBlock ≠ some q := fun q hq h => by have := (HOW.out.lt q h).1; omega
        have hxl : ∀ q, x.ownBlock = some q → q < wr.heap.size := fun q h => (HOW.out.lt q h).2
        have HXL := Lib.hid hxl
        clear hB hd hxo hxl
        rcases hm4 with rfl | rfl | rfl | rfl
        · have HMD := Lib.hid hmd
          clear hmd
          have HOD := Lib.hid (((HOW.out.alloc (.cells #[.int .i64 dx, .int .i64 dy, .int .i64 dt, .int .i64 dp] 24)).alloc (.cells #[.int .i64 dx, .int .i64 (4095 - dy), .int .i64 (4095 - dx), .int .i64 dy] 3)).alloc (.cells #[.int .i64 dy, .int .i64 dx, .int .i64 (4095 - dy), .int .i64 (4095 - dx)] 3))
          have o2' : (((wr.alloc (.cells #[.int .i64 dx, .int .i64 dy, .int .i64 dt, .int .i64 dp] 24)).alloc (.cells #[.int .i64 dx, .int .i64 (4095 - dy), .int .i64 (4095 - dx), .int .i64 dy] 3)).alloc (.cells #[.int .i64 dy, .int .i64 dx, .int .i64 (4095 - dy), .int .i64 (4095 - dx)] 3)).cell? ⟨gr, 2, none⟩ = some x := keep_alloc _ (keep_alloc _ (keep_alloc _ o2))
          obtain ⟨V, hV⟩ : ∃ V, (((wr.alloc (.cells #[.int .i64 dx, .int .i64 dy, .int .i64 dt, .int .i64 dp] 24)).alloc (.cells #[.int .i64 dx, .int .i64 (4095 - dy), .int .i64 (4095 - dx), .int .i64 dy] 3)).alloc (.cells #[.int .i64 dy, .int .i64 dx, .int .i64 (4095 - dy), .int .i64 (4095 - dx)] 3)) = V := ⟨_, rfl⟩
          have bV : Below wr.heap.size wr V := by rw [← hV]; exact below_alloc (below_alloc (below_alloc (Below.refl _ _) _) _) _
          rw [hV] at HOD
          have HBV := Lib.hid bV
          have hbV : gr + 1 ≤ V.heap.size := by have := bV.size; omega
          have p2 := cell_then bV o2
          have HVO4 := Lib.hid (HVO.out.then_ bV)
          have HVR4 := Lib.hid (HVR.out.then_ bV)
          have HB4 := Lib.hid (below_next HB.out bV)
          have HVV := Lib.hid hV
          have hsV : V.heap.size = wr.heap.size + 1 + 1 + 1 := by rw [← hV]; simp
          have hsV : V.heap.size = wr.heap.size + 1 + 1 + 1 := by rw [← hV]; simp
          have d0 : V.cell? ⟨wr.heap.size, 0, none⟩ = some (.int .i64 dx) := by rw [← hV]; exact keep_alloc _ (keep_alloc _ (new_cell rfl))
          have d1 : V.cell? ⟨wr.heap.size, 1, none⟩ = some (.int .i64 dy) := by rw [← hV]; exact keep_alloc _ (keep_alloc _ (new_cell rfl))
          have d2 : V.cell? ⟨wr.heap.size, 2, none⟩ = some (.int .i64 dt) := by rw [← hV]; exact keep_alloc _ (keep_alloc _ (new_cell rfl))
          have d3 : V.cell? ⟨wr.heap.size, 3, none⟩ = some (.int .i64 dp) := by rw [← hV]; exact keep_alloc _ (keep_alloc _ (new_cell rfl))
          have lV : gr < V.heap.size := by omega
          have lD := lt_size d0
          clear hV bV
          go_wp2_with (at_builtin; rw [HVV.out]; refine wpList_append1 rfl _ _ 25 rfl (gr + 1) 24 i0 _ 4 32 Try.underlying25 HI.out.1 HI.out.2.1 HI.out.2.2.1 HI.out.2.2.2 rfl (by omega) (by omega) x k _ rfl HOD.out #[.int .i64 dx, .int .i64 dy, .int .i64 dt, .int .i64 dp] (by rw [hsV]; rfl) rfl (by simp [Value.oneCell']) (by omega) hbV ?_; intro g' c' w' own' k' n'; have KB := k'.below hbV (fun q hq => (HOD.out.lt q (own_mem hq)).1); have y2 : w'.cell? ⟨gr, 2, none⟩ = some x := (KB.cell (p := ⟨gr, 2, none⟩) (by dsimp only; omega)).trans p2; have HV2 := Lib.hid (var3_under HVO4.out KB (by omega)); have g2 := HV2.out.f2; have OW := Lib.hid own'; have HKB := Lib.hid KB; have hgn := Lib.hid (own'.lt g' rfl).1; clear own' k' n' KB)
          have KB := HKB.out
          refine ⟨⟨k + 1, by omega, by omega, _, ?_, (KB.cell (p := ⟨gr, 0, none⟩) (by dsimp only; omega)).trans (cell_then HBV.out o0), (KB.cell (p := ⟨gr, 1, none⟩) (by dsimp only; omega)).trans (cell_then HBV.out o1), rfl, HV2.out.set_ _ _, (var3_under HVR4.out KB (by omega)).set_ _ _, (KB.cell (p := ⟨w.heap.size, 2, none⟩) (by dsimp only; omega)).trans (cell_then HBV.out e2), (HB4.out.trans (KB.mono (by omega))).setCell (by dsimp only; omega) _⟩, by simp [intOf]; omega⟩
          rw [HMD.out, dcells_append]
          have hE : dcells [turnN 0 ⟨dx, dy, dt, dp⟩] = [.int .i64 dx, .int .i64 dy, .int .i64 dt, .int .i64 dp] := by rfl
          rw [hE]
          exact own_set OW.out (fun h => by have h2 : g' = gr := Option.some.inj h; have := hgn.out; omega) _
        · have HMD := Lib.hid hmd
          clear hmd
          have HOD := Lib.hid (((HOW.out.alloc (.cells #[.int .i64 (4095 - dy), .int .i64 dx, .int .i64 dt, .int .i64 dp] 24)).alloc (.cells #[.int .i64 dx, .int .i64 (4095 - dy), .int .i64 (4095 - dx), .int .i64 dy] 3)).alloc (.cells #[.int .i64 dy, .int .i64 dx, .int .i64 (4095 - dy), .int .i64 (4095 - dx)] 3))
          have o2' : (((wr.alloc (.cells #[.int .i64 (4095 - dy), .int .i64 dx, .int .i64 dt, .int .i64 dp] 24)).alloc (.cells #[.int .i64 dx, .int .i64 (4095 - dy), .int .i64 (4095 - dx), .int .i64 dy] 3)).alloc (.cells #[.int .i64 dy, .int .i64 dx, .int .i64 (4095 - dy), .int .i64 (4095 - dx)] 3)).cell? ⟨gr, 2, none⟩ = some x := keep_alloc _ (keep_alloc _ (keep_alloc _ o2))
          obtain ⟨V, hV⟩ : ∃ V, (((wr.alloc (.cells #[.int .i64 (4095 - dy), .int .i64 dx, .int .i64 dt, .int .i64 dp] 24)).alloc (.cells #[.int .i64 dx, .int .i64 (4095 - dy), .int .i64 (4095 - dx), .int .i64 dy] 3)).alloc (.cells #[.int .i64 dy, .int .i64 dx, .int .i64 (4095 - dy), .int .i64 (4095 - dx)] 3)) = V := ⟨_, rfl⟩
          have bV : Below wr.heap.size wr V := by rw [← hV]; exact below_alloc (below_alloc (below_alloc (Below.refl _ _) _) _) _
          rw [hV] at HOD
          have HBV := Lib.hid bV
          have hbV : gr + 1 ≤ V.heap.size := by have := bV.size; omega
          have p2 := cell_then bV o2
          have HVO4 := Lib.hid (HVO.out.then_ bV)
          have HVR4 := Lib.hid (HVR.out.then_ bV)
          have HB4 := Lib.hid (below_next HB.out bV)
          have HVV := Lib.hid hV
          have hsV : V.heap.size = wr.heap.size + 1 + 1 + 1 := by rw [← hV]; simp
          have hsV : V.heap.size = wr.heap.size + 1 + 1 + 1 := by rw [← hV]; simp
          have d0 : V.cell? ⟨wr.heap.size, 0, none⟩ = some (.int .i64 (4095 - dy)) := by rw [← hV]; exact keep_alloc _ (keep_alloc _ (new_cell rfl))
          have d1 : V.cell? ⟨wr.heap.size, 1, none⟩ = some (.int .i64 dx) := by rw [← hV]; exact keep_alloc _ (keep_alloc _ (new_cell rfl))
          have d2 : V.cell? ⟨wr.heap.size, 2, none⟩ = some (.int .i64 dt) := by rw [← hV]; exact keep_alloc _ (keep_alloc _ (new_cell rfl))
          have d3 : V.cell? ⟨wr.heap.size, 3, none⟩ = some (.int .i64 dp) := by rw [← hV]; exact keep_alloc _ (keep_alloc _ (new_cell rfl))
          have lV : gr < V.heap.size := by omega
          have lD := lt_size d0
          clear hV bV
          go_wp2_with (at_builtin; rw [HVV.out]; refine wpList_append1 rfl _ _ 25 rfl (gr + 1) 24 i0 _ 4 32 Try.underlying25 HI.out.1 HI.out.2.1 HI.out.2.2.1 HI.out.2.2.2 rfl (by omega) (by omega) x k _ rfl HOD.out #[.int .i64 (4095 - dy), .int .i64 dx, .int .i64 dt, .int .i64 dp] (by rw [hsV]; rfl) rfl (by simp [Value.oneCell']) (by omega) hbV ?_; intro g' c' w' own' k' n'; have KB := k'.below hbV (fun q hq => (HOD.out.lt q (own_mem hq)).1); have y2 : w'.cell? ⟨gr, 2, none⟩ = some x := (KB.cell (p := ⟨gr, 2, none⟩) (by dsimp only; omega)).trans p2; have HV2 := Lib.hid (var3_under HVO4.out KB (by omega)); have g2 := HV2.out.f2; have OW := Lib.hid own'; have HKB := Lib.hid KB; have hgn := Lib.hid (own'.lt g' rfl).1; clear own' k' n' KB)
          have KB := HKB.out
          refine ⟨⟨k + 1, by omega, by omega, _, ?_, (KB.cell (p := ⟨gr, 0, none⟩) (by dsimp only; omega)).trans (cell_then HBV.out o0), (KB.cell (p := ⟨gr, 1, none⟩) (by dsimp only; omega)).trans (cell_then HBV.out o1), rfl, HV2.out.set_ _ _, (var3_under HVR4.out KB (by omega)).set_ _ _, (KB.cell (p := ⟨w.heap.size, 2, none⟩) (by dsimp only; omega)).trans (cell_then HBV.out e2), (HB4.out.trans (KB.mono (by omega))).setCell (by dsimp only; omega) _⟩, by simp [intOf]; omega⟩
          rw [HMD.out, dcells_append]
          have hE : dcells [turnN 1 ⟨dx, dy, dt, dp⟩] = [.int .i64 (4095 - dy), .int .i64 dx, .int .i64 dt, .int .i64 dp] := by rfl
          rw [hE]
          exact own_set OW.out (fun h => by have h2 : g' = gr := Option.some.inj h; have := hgn.out; omega) _
        · have HMD := Lib.hid hmd
          clear hmd
          have HOD := Lib.hid (((HOW.out.alloc (.cells #[.int .i64 (4095 - dx), .int .i64 (4095 - dy), .int .i64 dt, .int .i64 dp] 24)).alloc (.cells #[.int .i64 dx, .int .i64 (4095 - dy), .int .i64 (4095 - dx), .int .i64 dy] 3)).alloc (.cells #[.int .i64 dy, .int .i64 dx, .int .i64 (4095 - dy), .int .i64 (4095 - dx)] 3))
          have o2' : (((wr.alloc (.cells #[.int .i64 (4095 - dx), .int .i64 (4095 - dy), .int .i64 dt, .int .i64 dp] 24)).alloc (.cells #[.int .i64 dx, .int .i64 (4095 - dy), .int .i64 (4095 - dx), .int .i64 dy] 3)).alloc (.cells #[.int .i64 dy, .int .i64 dx, .int .i64 (4095 - dy), .int .i64 (4095 - dx)] 3)).cell? ⟨gr, 2, none⟩ = some x := keep_alloc _ (keep_alloc _ (keep_alloc _ o2))
          obtain ⟨V, hV⟩ : ∃ V, (((wr.alloc (.cells #[.int .i64 (4095 - dx), .int .i64 (4095 - dy), .int .i64 dt, .int .i64 dp] 24)).alloc (.cells #[.int .i64 dx, .int .i64 (4095 - dy), .int .i64 (4095 - dx), .int .i64 dy] 3)).alloc (.cells #[.int .i64 dy, .int .i64 dx, .int .i64 (4095 - dy), .int .i64 (4095 - dx)] 3)) = V := ⟨_, rfl⟩
          have bV : Below wr.heap.size wr V := by rw [← hV]; exact below_alloc (below_alloc (below_alloc (Below.refl _ _) _) _) _
          rw [hV] at HOD
          have HBV := Lib.hid bV
          have hbV : gr + 1 ≤ V.heap.size := by have := bV.size; omega
          have p2 := cell_then bV o2
          have HVO4 := Lib.hid (HVO.out.then_ bV)
          have HVR4 := Lib.hid (HVR.out.then_ bV)
          have HB4 := Lib.hid (below_next HB.out bV)
          have HVV := Lib.hid hV
          have hsV : V.heap.size = wr.heap.size + 1 + 1 + 1 := by rw [← hV]; simp
          have hsV : V.heap.size = wr.heap.size + 1 + 1 + 1 := by rw [← hV]; simp
          have d0 : V.cell? ⟨wr.heap.size, 0, none⟩ = some (.int .i64 (4095 - dx)) := by rw [← hV]; exact keep_alloc _ (keep_alloc _ (new_cell rfl))
          have d1 : V.cell? ⟨wr.heap.size, 1, none⟩ = some (.int .i64 (4095 - dy)) := by rw [← hV]; exact keep_alloc _ (keep_alloc _ (new_cell rfl))
          have d2 : V.cell? ⟨wr.heap.size, 2, none⟩ = some (.int .i64 dt) := by rw [← hV]; exact keep_alloc _ (keep_alloc _ (new_cell rfl))
          have d3 : V.cell? ⟨wr.heap.size, 3, none⟩ = some (.int .i64 dp) := by rw [← hV]; exact keep_alloc _ (keep_alloc _ (new_cell rfl))
          have lV : gr < V.heap.size := by omega
          have lD := lt_size d0
          clear hV bV
          go_wp2_with (at_builtin; rw [HVV.out]; refine wpList_append1 rfl _ _ 25 rfl (gr + 1) 24 i0 _ 4 32 Try.underlying25 HI.out.1 HI.out.2.1 HI.out.2.2.1 HI.out.2.2.2 rfl (by omega) (by omega) x k _ rfl HOD.out #[.int .i64 (4095 - dx), .int .i64 (4095 - dy), .int .i64 dt, .int .i64 dp] (by rw [hsV]; rfl) rfl (by simp [Value.oneCell']) (by omega) hbV ?_; intro g' c' w' own' k' n'; have KB := k'.below hbV (fun q hq => (HOD.out.lt q (own_mem hq)).1); have y2 : w'.cell? ⟨gr, 2, none⟩ = some x := (KB.cell (p := ⟨gr, 2, none⟩) (by dsimp only; omega)).trans p2; have HV2 := Lib.hid (var3_under HVO4.out KB (by omega)); have g2 := HV2.out.f2; have OW := Lib.hid own'; have HKB := Lib.hid KB; have hgn := Lib.hid (own'.lt g' rfl).1; clear own' k' n' KB)
          have KB := HKB.out
          refine ⟨⟨k + 1, by omega, by omega, _, ?_, (KB.cell (p := ⟨gr, 0, none⟩) (by dsimp only; omega)).trans (cell_then HBV.out o0), (KB.cell (p := ⟨gr, 1, none⟩) (by dsimp only; omega)).trans (cell_then HBV.out o1), rfl, HV2.out.set_ _ _, (var3_under HVR4.out KB (by omega)).set_ _ _, (KB.cell (p := ⟨w.heap.size, 2, none⟩) (by dsimp only; omega)).trans (cell_then HBV.out e2), (HB4.out.trans (KB.mono (by omega))).setCell (by dsimp only; omega) _⟩, by simp [intOf]; omega⟩
          rw [HMD.out, dcells_append]
          have hE : dcells [turnN 2 ⟨dx, dy, dt, dp⟩] = [.int .i64 (4095 - dx), .int .i64 (4095 - dy), .int .i64 dt, .int .i64 dp] := by rfl
          rw [hE]
          exact own_set OW.out (fun h => by have h2 : g' = gr := Option.some.inj h; have := hgn.out; omega) _
        · have HMD := Lib.hid hmd
          clear hmd
          have HOD := Lib.hid (((HOW.out.alloc (.cells #[.int .i64 dy, .int .i64 (4095 - dx), .int .i64 dt, .int .i64 dp] 24)).alloc (.cells #[.int .i64 dx, .int .i64 (4095 - dy), .int .i64 (4095 - dx), .int .i64 dy] 3)).alloc (.cells #[.int .i64 dy, .int .i64 dx, .int .i64 (4095 - dy), .int .i64 (4095 - dx)] 3))
          have o2' : (((wr.alloc (.cells #[.int .i64 dy, .int .i64 (4095 - dx), .int .i64 dt, .int .i64 dp] 24)).alloc (.cells #[.int .i64 dx, .int .i64 (4095 - dy), .int .i64 (4095 - dx), .int .i64 dy] 3)).alloc (.cells #[.int .i64 dy, .int .i64 dx, .int .i64 (4095 - dy), .int .i64 (4095 - dx)] 3)).cell? ⟨gr, 2, none⟩ = some x := keep_alloc _ (keep_alloc _ (keep_alloc _ o2))
          obtain ⟨V, hV⟩ : ∃ V, (((wr.alloc (.cells #[.int .i64 dy, .int .i64 (4095 - dx), .int .i64 dt, .int .i64 dp] 24)).alloc (.cells #[.int .i64 dx, .int .i64 (4095 - dy), .int .i64 (4095 - dx), .int .i64 dy] 3)).alloc (.cells #[.int .i64 dy, .int .i64 dx, .int .i64 (4095 - dy), .int .i64 (4095 - dx)] 3)) = V := ⟨_, rfl⟩
          have bV : Below wr.heap.size wr V := by rw [← hV]; exact below_alloc (below_alloc (below_alloc (Below.refl _ _) _) _) _
          rw [hV] at HOD
          have HBV := Lib.hid bV
          have hbV : gr + 1 ≤ V.heap.size := by have := bV.size; omega
          have p2 := cell_then bV o2
          have HVO4 := Lib.hid (HVO.out.then_ bV)
          have HVR4 := Lib.hid (HVR.out.then_ bV)
          have HB4 := Lib.hid (below_next HB.out bV)
          have HVV := Lib.hid hV
          have hsV : V.heap.size = wr.heap.size + 1 + 1 + 1 := by rw [← hV]; simp
          have hsV : V.heap.size = wr.heap.size + 1 + 1 + 1 := by rw [← hV]; simp
          have d0 : V.cell? ⟨wr.heap.size, 0, none⟩ = some (.int .i64 dy) := by rw [← hV]; exact keep_alloc _ (keep_alloc _ (new_cell rfl))
          have d1 : V.cell? ⟨wr.heap.size, 1, none⟩ = some (.int .i64 (4095 - dx)) := by rw [← hV]; exact keep_alloc _ (keep_alloc _ (new_cell rfl))
          have d2 : V.cell? ⟨wr.heap.size, 2, none⟩ = some (.int .i64 dt) := by rw [← hV]; exact keep_alloc _ (keep_alloc _ (new_cell rfl))
          have d3 : V.cell? ⟨wr.heap.size, 3, none⟩ = some (.int .i64 dp) := by rw [← hV]; exact keep_alloc _ (keep_alloc _ (new_cell rfl))
          have lV : gr < V.heap.size := by omega
          have lD := lt_size d0
          clear hV bV
          go_wp2_with (at_builtin; rw [HVV.out]; refine wpList_append1 rfl _ _ 25 rfl (gr + 1) 24 i0 _ 4 32 Try.underlying25 HI.out.1 HI.out.2.1 HI.out.2.2.1 HI.out.2.2.2 rfl (by omega) (by omega) x k _ rfl HOD.out #[.int .i64 dy, .int .i64 (4095 - dx), .int .i64 dt, .int .i64 dp] (by rw [hsV]; rfl) rfl (by simp [Value.oneCell']) (by omega) hbV ?_; intro g' c' w' own' k' n'; have KB := k'.below hbV (fun q hq => (HOD.out.lt q (own_mem hq)).1); have y2 : w'.cell? ⟨gr, 2, none⟩ = some x := (KB.cell (p := ⟨gr, 2, none⟩) (by dsimp only; omega)).trans p2; have HV2 := Lib.hid (var3_under HVO4.out KB (by omega)); have g2 := HV2.out.f2; have OW := Lib.hid own'; have HKB := Lib.hid KB; have hgn := Lib.hid (own'.lt g' rfl).1; clear own' k' n' KB)
          have KB := HKB.out
          refine ⟨⟨k + 1, by omega, by omega, _, ?_, (KB.cell (p := ⟨gr, 0, none⟩) (by dsimp only; omega)).trans (cell_then HBV.out o0), (KB.cell (p := ⟨gr, 1, none⟩) (by dsimp only; omega)).trans (cell_then HBV.out o1), rfl, HV2.out.set_ _ _, (var3_under HVR4.out KB (by omega)).set_ _ _, (KB.cell (p := ⟨w.heap.size, 2, none⟩) (by dsimp only; omega)).trans (cell_then HBV.out e2), (HB4.out.trans (KB.mono (by omega))).setCell (by dsimp only; omega) _⟩, by simp [intOf]; omega⟩
          rw [HMD.out, dcells_append]
          have hE : dcells [turnN 3 ⟨dx, dy, dt, dp⟩] = [.int .i64 dy, .int .i64 (4095 - dx), .int .i64 dt, .int .i64 dp] := by simp only [turnN, turn1, dcells, show (4095 : Int) - (4095 - dy) = dy by omega]
          rw [hE]
          exact own_set OW.out (fun h => by have h2 : g' = gr := Option.some.inj h; have := hgn.out; omega) _
      · obtain rfl : k = D.length := by omega
        have hown := HOW.out
        rw [List.take_length] at hown
        obtain ⟨g7, c7, rfl, hgw7, -⟩ := hown.form (by omega)
        have HOW2 := Lib.hid hown
        obtain ⟨m0, m1, m2⟩ := And.intro HVR.out.c0 (And.intro HVR.out.c1 HVR.out.c2)
        obtain ⟨z0, z1, z2⟩ := And.intro HVR.out.f0 (And.intro HVR.out.f1 HVR.out.f2)
        have hkk : ¬ (D.length : Int) < (D.length : Int) := by omega
        clear hown hB HOW hlt
        go_wp2_with fail
        exact bodyPost_ret (v := .tuple #[.agg #[.int .i64 P, .int .i64 N, .slice (some ⟨g7, 0, none⟩) D.length c7], .int .i64 0]) (by simp [results, Try.results36, go_sem, m0, m1, m2]) rfl (out_end HOW2.out (by rw [turnD, List.length_map]) (by omega) (by omega) HB.out)
  · have x1 : IntKind.i64.wrap (r + 4) = r + 4 := IntWalk.i64_in _ (by omega)
    have hrn : r < 0 := hr0
    have HRM := Lib.hid hrm
    clear hrm
    go_wp2_with fail
    rw [HW0.out, HGR.out, HRM.out]
    clear HW0 HGR e0 e1 x1 HRM
    go_loopw [8, 9, 10] (fun i _ _ wr => ∃ (k : Nat) (x : Value), k ≤ D.length ∧ i = .int .i64 (k : Int) ∧ wr.ownsRow (gr + 1) 24 4 x k (dcells (turnD m (D.take k))) ∧ wr.cell? ⟨gr, 0, none⟩ = some (.int .i64 P) ∧ wr.cell? ⟨gr, 1, none⟩ = some (.int .i64 N) ∧ wr.cell? ⟨gr, 2, none⟩ = some x ∧ Var3 wr gr ∧ Var3 wr (w.heap.size + 1) ∧ wr.cell? ⟨w.heap.size, 2, none⟩ = some (.slice A D.length cap) ∧ Below w.heap.size w wr) (fun i _ _ _ => D.length - (intOf i).toNat)
    case atStart => exact ⟨0, .slice none 0 0, by omega, rfl, World.ownsRow_nil _ _ _ _, o0, o1, o2, HVO.out, HV1.out, e3, HB1.out⟩
    case round =>
      clear o0 o1 o2 HVO HV1 e3 HB1
      obtain ⟨k, x, hk, rfl, hown, o0, o1, o2, VO, VR, e2, hB⟩ := hrel
      have HOW := Lib.hid hown
      have HVO := Lib.hid VO
      have HVR := Lib.hid VR
      have HB := Lib.hid hB
      have lo := lt_size o2
      have lr := lt_size VR.c0
      have le := lt_size e2
      have z2 := VO.f2
      clear hown VO VR
      by_cases hlt : k < D.length
      · obtain ⟨b, o, rfl, c0, c1, c2, c3⟩ := (HD.out.below hB) k hlt
        have hbl := lt_size c0
        have hpd := placeB_iff.1 (HPL.out _ (dotAt_mem hlt))
        have hmd : turnD m (D.take (k + 1)) = turnD m (D.take k) ++ [turnN m (dotAt D k)] := by rw [take_dot hlt, turnD, turnD, List.map_append]; rfl
        obtain ⟨d, hd⟩ : ∃ d, dotAt D k = d := ⟨_, rfl⟩
        rw [hd] at hmd hpd c0 c1 c2 c3
        obtain ⟨dx, dy, dt, dp⟩ := d
        dsimp only at hpd c0 c1 c2 c3
        have y1 : IntKind.i64.wrap (4095 - dx) = 4095 - dx := IntWalk.i64_in _ (by omega)
        have y2 : IntKind.i64.wrap (4095 - dy) = 4095 - dy := IntWalk.i64_in _ (by omega)
        have hkk : (k : Int) < (D.length : Int) := by omega
        have hk0 : (0 : Int) ≤ (k : Int) := by omega
        have nn1 : gr ≠ wr.heap.size := by omega
        have nn2 : gr ≠ wr.heap.size + 1 := by omega
        have nn3 : gr ≠ wr.heap.size + 1 + 1 := by omega
        have nn4 : gr ≠ wr.heap.size + 2 := by omega
        have hxo : ∀ q, q < gr + 1 → x.ownBlock ≠ some q := fun q hq h => by have := (HOW.out.lt q h).1; omega
        have hxl : ∀ q, x.ownBlock = some q → q < wr.heap.size := fun q h => (HOW.out.lt q h).2
        have HXL := Lib.hid hxl
        clear hB hd hxo hxl
        rcases hm4 with rfl | rfl | rfl | rfl
        · have HMD := Lib.hid hmd
          clear hmd
          have HOD := Lib.hid (((HOW.out.alloc (.cells #[.int .i64 dx, .int .i64 dy, .int .i64 dt, .int .i64 dp] 24)).alloc (.cells #[.int .i64 dx, .int .i64 (4095 - dy), .int .i64 (4095 - dx), .int .i64 dy] 3)).alloc (.cells #[.int .i64 dy, .int .i64 dx, .int .i64 (4095 - dy), .int .i64 (4095 - dx)] 3))
          have o2' : (((wr.alloc (.cells #[.int .i64 dx, .int .i64 dy, .int .i64 dt, .int .i64 dp] 24)).alloc (.cells #[.int .i64 dx, .int .i64 (4095 - dy), .int .i64 (4095 - dx), .int .i64 dy] 3)).alloc (.cells #[.int .i64 dy, .int .i64 dx, .int .i64 (4095 - dy), .int .i64 (4095 - dx)] 3)).cell? ⟨gr, 2, none⟩ = some x := keep_alloc _ (keep_alloc _ (keep_alloc _ o2))
          obtain ⟨V, hV⟩ : ∃ V, (((wr.alloc (.cells #[.int .i64 dx, .int .i64 dy, .int .i64 dt, .int .i64 dp] 24)).alloc (.cells #[.int .i64 dx, .int .i64 (4095 - dy), .int .i64 (4095 - dx), .int .i64 dy] 3)).alloc (.cells #[.int .i64 dy, .int .i64 dx, .int .i64 (4095 - dy), .int .i64 (4095 - dx)] 3)) = V := ⟨_, rfl⟩
          have bV : Below wr.heap.size wr V := by rw [← hV]; exact below_alloc (below_alloc (below_alloc (Below.refl _ _) _) _) _
          rw [hV] at HOD
          have HBV := Lib.hid bV
          have hbV : gr + 1 ≤ V.heap.size := by have := bV.size; omega
          have p2 := cell_then bV o2
          have HVO4 := Lib.hid (HVO.out.then_ bV)
          have HVR4 := Lib.hid (HVR.out.then_ bV)
          have HB4 := Lib.hid (below_next HB.out bV)
          have HVV := Lib.hid hV
          have hsV : V.heap.size = wr.heap.size + 1 + 1 + 1 := by rw [← hV]; simp
          have hsV : V.heap.size = wr.heap.size + 1 + 1 + 1 := by rw [← hV]; simp
          have d0 : V.cell? ⟨wr.heap.size, 0, none⟩ = some (.int .i64 dx) := by rw [← hV]; exact keep_alloc _ (keep_alloc _ (new_cell rfl))
          have d1 : V.cell? ⟨wr.heap.size, 1, none⟩ = some (.int .i64 dy) := by rw [← hV]; exact keep_alloc _ (keep_alloc _ (new_cell rfl))
          have d2 : V.cell? ⟨wr.heap.size, 2, none⟩ = some (.int .i64 dt) := by rw [← hV]; exact keep_alloc _ (keep_alloc _ (new_cell rfl))
          have d3 : V.cell? ⟨wr.heap.size, 3, none⟩ = some (.int .i64 dp) := by rw [← hV]; exact keep_alloc _ (keep_alloc _ (new_cell rfl))
          have lV : gr < V.heap.size := by omega
          have lD := lt_size d0
          clear hV bV
          go_wp2_with (at_builtin; rw [HVV.out]; refine wpList_append1 rfl _ _ 25 rfl (gr + 1) 24 i0 _ 4 32 Try.underlying25 HI.out.1 HI.out.2.1 HI.out.2.2.1 HI.out.2.2.2 rfl (by omega) (by omega) x k _ rfl HOD.out #[.int .i64 dx, .int .i64 dy, .int .i64 dt, .int .i64 dp] (by rw [hsV]; rfl) rfl (by simp [Value.oneCell']) (by omega) hbV ?_; intro g' c' w' own' k' n'; have KB := k'.below hbV (fun q hq => (HOD.out.lt q (own_mem hq)).1); have y2 : w'.cell? ⟨gr, 2, none⟩ = some x := (KB.cell (p := ⟨gr, 2, none⟩) (by dsimp only; omega)).trans p2; have HV2 := Lib.hid (var3_under HVO4.out KB (by omega)); have g2 := HV2.out.f2; have OW := Lib.hid own'; have HKB := Lib.hid KB; have hgn := Lib.hid (own'.lt g' rfl).1; clear own' k' n' KB)
          have KB := HKB.out
          refine ⟨⟨k + 1, by omega, by omega, _, ?_, (KB.cell (p := ⟨gr, 0, none⟩) (by dsimp only; omega)).trans (cell_then HBV.out o0), (KB.cell (p := ⟨gr, 1, none⟩) (by dsimp only; omega)).trans (cell_then HBV.out o1), rfl, HV2.out.set_ _ _, (var3_under HVR4.out KB (by omega)).set_ _ _, (KB.cell (p := ⟨w.heap.size, 2, none⟩) (by dsimp only; omega)).trans (cell_then HBV.out e2), (HB4.out.trans (KB.mono (by omega))).setCell (by dsimp only; omega) _⟩, by simp [intOf]; omega⟩
          rw [HMD.out, dcells_append]
          have hE : dcells [turnN 0 ⟨dx, dy, dt, dp⟩] = [.int .i64 dx, .int .i64 dy, .int .i64 dt, .int .i64 dp] := by rfl
          rw [hE]
          exact own_set OW.out (fun h => by have h2 : g' = gr := Option.some.inj h; have := hgn.out; omega) _
        · have HMD := Lib.hid hmd
          clear hmd
          have HOD := Lib.hid (((HOW.out.alloc (.cells #[.int .i64 (4095 - dy), .int .i64 dx, .int .i64 dt, .int .i64 dp] 24)).alloc (.cells #[.int .i64 dx, .int .i64 (4095 - dy), .int .i64 (4095 - dx), .int .i64 dy] 3)).alloc (.cells #[.int .i64 dy, .int .i64 dx, .int .i64 (4095 - dy), .int .i64 (4095 - dx)] 3))
          have o2' : (((wr.alloc (.cells #[.int .i64 (4095 - dy), .int .i64 dx, .int .i64 dt, .int .i64 dp] 24)).alloc (.cells #[.int .i64 dx, .int .i64 (4095 - dy), .int .i64 (4095 - dx), .int .i64 dy] 3)).alloc (.cells #[.int .i64 dy, .int .i64 dx, .int .i64 (4095 - dy), .int .i64 (4095 - dx)] 3)).cell? ⟨gr, 2, none⟩ = some x := keep_alloc _ (keep_alloc _ (keep_alloc _ o2))
          obtain ⟨V, hV⟩ : ∃ V, (((wr.alloc (.cells #[.int .i64 (4095 - dy), .int .i64 dx, .int .i64 dt, .int .i64 dp] 24)).alloc (.cells #[.int .i64 dx, .int .i64 (4095 - dy), .int .i64 (4095 - dx), .int .i64 dy] 3)).alloc (.cells #[.int .i64 dy, .int .i64 dx, .int .i64 (4095 - dy), .int .i64 (4095 - dx)] 3)) = V := ⟨_, rfl⟩
          have bV : Below wr.heap.size wr V := by rw [← hV]; exact below_alloc (below_alloc (below_alloc (Below.refl _ _) _) _) _
          rw [hV] at HOD
          have HBV := Lib.hid bV
          have hbV : gr + 1 ≤ V.heap.size := by have := bV.size; omega
          have p2 := cell_then bV o2
          have HVO4 := Lib.hid (HVO.out.then_ bV)
          have HVR4 := Lib.hid (HVR.out.then_ bV)
          have HB4 := Lib.hid (below_next HB.out bV)
          have HVV := Lib.hid hV
          have hsV : V.heap.size = wr.heap.size + 1 + 1 + 1 := by rw [← hV]; simp
          have hsV : V.heap.size = wr.heap.size + 1 + 1 + 1 := by rw [← hV]; simp
          have d0 : V.cell? ⟨wr.heap.size, 0, none⟩ = some (.int .i64 (4095 - dy)) := by rw [← hV]; exact keep_alloc _ (keep_alloc _ (new_cell rfl))
          have d1 : V.cell? ⟨wr.heap.size, 1, none⟩ = some (.int .i64 dx) := by rw [← hV]; exact keep_alloc _ (keep_alloc _ (new_cell rfl))
          have d2 : V.cell? ⟨wr.heap.size, 2, none⟩ = some (.int .i64 dt) := by rw [← hV]; exact keep_alloc _ (keep_alloc _ (new_cell rfl))
          have d3 : V.cell? ⟨wr.heap.size, 3, none⟩ = some (.int .i64 dp) := by rw [← hV]; exact keep_alloc _ (keep_alloc _ (new_cell rfl))
          have lV : gr < V.heap.size := by omega
          have lD := lt_size d0
          clear hV bV
          go_wp2_with (at_builtin; rw [HVV.out]; refine wpList_append1 rfl _ _ 25 rfl (gr + 1) 24 i0 _ 4 32 Try.underlying25 HI.out.1 HI.out.2.1 HI.out.2.2.1 HI.out.2.2.2 rfl (by omega) (by omega) x k _ rfl HOD.out #[.int .i64 (4095 - dy), .int .i64 dx, .int .i64 dt, .int .i64 dp] (by rw [hsV]; rfl) rfl (by simp [Value.oneCell']) (by omega) hbV ?_; intro g' c' w' own' k' n'; have KB := k'.below hbV (fun q hq => (HOD.out.lt q (own_mem hq)).1); have y2 : w'.cell? ⟨gr, 2, none⟩ = some x := (KB.cell (p := ⟨gr, 2, none⟩) (by dsimp only; omega)).trans p2; have HV2 := Lib.hid (var3_under HVO4.out KB (by omega)); have g2 := HV2.out.f2; have OW := Lib.hid own'; have HKB := Lib.hid KB; have hgn := Lib.hid (own'.lt g' rfl).1; clear own' k' n' KB)
          have KB := HKB.out
          refine ⟨⟨k + 1, by omega, by omega, _, ?_, (KB.cell (p := ⟨gr, 0, none⟩) (by dsimp only; omega)).trans (cell_then HBV.out o0), (KB.cell (p := ⟨gr, 1, none⟩) (by dsimp only; omega)).trans (cell_then HBV.out o1), rfl, HV2.out.set_ _ _, (var3_under HVR4.out KB (by omega)).set_ _ _, (KB.cell (p := ⟨w.heap.size, 2, none⟩) (by dsimp only; omega)).trans (cell_then HBV.out e2), (HB4.out.trans (KB.mono (by omega))).setCell (by dsimp only; omega) _⟩, by simp [intOf]; omega⟩
          rw [HMD.out, dcells_append]
          have hE : dcells [turnN 1 ⟨dx, dy, dt, dp⟩] = [.int .i64 (4095 - dy), .int .i64 dx, .int .i64 dt, .int .i64 dp] := by rfl
          rw [hE]
          exact own_set OW.out (fun h => by have h2 : g' = gr := Option.some.inj h; have := hgn.out; omega) _
        · have HMD := Lib.hid hmd
          clear hmd
          have HOD := Lib.hid (((HOW.out.alloc (.cells #[.int .i64 (4095 - dx), .int .i64 (4095 - dy), .int .i64 dt, .int .i64 dp] 24)).alloc (.cells #[.int .i64 dx, .int .i64 (4095 - dy), .int .i64 (4095 - dx), .int .i64 dy] 3)).alloc (.cells #[.int .i64 dy, .int .i64 dx, .int .i64 (4095 - dy), .int .i64 (4095 - dx)] 3))
          have o2' : (((wr.alloc (.cells #[.int .i64 (4095 - dx), .int .i64 (4095 - dy), .int .i64 dt, .int .i64 dp] 24)).alloc (.cells #[.int .i64 dx, .int .i64 (4095 - dy), .int .i64 (4095 - dx), .int .i64 dy] 3)).alloc (.cells #[.int .i64 dy, .int .i64 dx, .int .i64 (4095 - dy), .int .i64 (4095 - dx)] 3)).cell? ⟨gr, 2, none⟩ = some x := keep_alloc _ (keep_alloc _ (keep_alloc _ o2))
          obtain ⟨V, hV⟩ : ∃ V, (((wr.alloc (.cells #[.int .i64 (4095 - dx), .int .i64 (4095 - dy), .int .i64 dt, .int .i64 dp] 24)).alloc (.cells #[.int .i64 dx, .int .i64 (4095 - dy), .int .i64 (4095 - dx), .int .i64 dy] 3)).alloc (.cells #[.int .i64 dy, .int .i64 dx, .int .i64 (4095 - dy), .int .i64 (4095 - dx)] 3)) = V := ⟨_, rfl⟩
          have bV : Below wr.heap.size wr V := by rw [← hV]; exact below_alloc (below_alloc (below_alloc (Below.refl _ _) _) _) _
          rw [hV] at HOD
          have HBV := Lib.hid bV
          have hbV : gr + 1 ≤ V.heap.size := by have := bV.size; omega
          have p2 := cell_then bV o2
          have HVO4 := Lib.hid (HVO.out.then_ bV)
          have HVR4 := Lib.hid (HVR.out.then_ bV)
          have HB4 := Lib.hid (below_next HB.out bV)
          have HVV := Lib.hid hV
          have hsV : V.heap.size = wr.heap.size + 1 + 1 + 1 := by rw [← hV]; simp
          have hsV : V.heap.size = wr.heap.size + 1 + 1 + 1 := by rw [← hV]; simp
          have d0 : V.cell? ⟨wr.heap.size, 0, none⟩ = some (.int .i64 (4095 - dx)) := by rw [← hV]; exact keep_alloc _ (keep_alloc _ (new_cell rfl))
          have d1 : V.cell? ⟨wr.heap.size, 1, none⟩ = some (.int .i64 (4095 - dy)) := by rw [← hV]; exact keep_alloc _ (keep_alloc _ (new_cell rfl))
          have d2 : V.cell? ⟨wr.heap.size, 2, none⟩ = some (.int .i64 dt) := by rw [← hV]; exact keep_alloc _ (keep_alloc _ (new_cell rfl))
          have d3 : V.cell? ⟨wr.heap.size, 3, none⟩ = some (.int .i64 dp) := by rw [← hV]; exact keep_alloc _ (keep_alloc _ (new_cell rfl))
          have lV : gr < V.heap.size := by omega
          have lD := lt_size d0
          clear hV bV
          go_wp2_with (at_builtin; rw [HVV.out]; refine wpList_append1 rfl _ _ 25 rfl (gr + 1) 24 i0 _ 4 32 Try.underlying25 HI.out.1 HI.out.2.1 HI.out.2.2.1 HI.out.2.2.2 rfl (by omega) (by omega) x k _ rfl HOD.out #[.int .i64 (4095 - dx), .int .i64 (4095 - dy), .int .i64 dt, .int .i64 dp] (by rw [hsV]; rfl) rfl (by simp [Value.oneCell']) (by omega) hbV ?_; intro g' c' w' own' k' n'; have KB := k'.below hbV (fun q hq => (HOD.out.lt q (own_mem hq)).1); have y2 : w'.cell? ⟨gr, 2, none⟩ = some x := (KB.cell (p := ⟨gr, 2, none⟩) (by dsimp only; omega)).trans p2; have HV2 := Lib.hid (var3_under HVO4.out KB (by omega)); have g2 := HV2.out.f2; have OW := Lib.hid own'; have HKB := Lib.hid KB; have hgn := Lib.hid (own'.lt g' rfl).1; clear own' k' n' KB)
          have KB := HKB.out
          refine ⟨⟨k + 1, by omega, by omega, _, ?_, (KB.cell (p := ⟨gr, 0, none⟩) (by dsimp only; omega)).trans (cell_then HBV.out o0), (KB.cell (p := ⟨gr, 1, none⟩) (by dsimp only; omega)).trans (cell_then HBV.out o1), rfl, HV2.out.set_ _ _, (var3_under HVR4.out KB (by omega)).set_ _ _, (KB.cell (p := ⟨w.heap.size, 2, none⟩) (by dsimp only; omega)).trans (cell_then HBV.out e2), (HB4.out.trans (KB.mono (by omega))).setCell (by dsimp only; omega) _⟩, by simp [intOf]; omega⟩
          rw [HMD.out, dcells_append]
          have hE : dcells [turnN 2 ⟨dx, dy, dt, dp⟩] = [.int .i64 (4095 - dx), .int .i64 (4095 - dy), .int .i64 dt, .int .i64 dp] := by rfl
          rw [hE]
          exact own_set OW.out (fun h => by have h2 : g' = gr := Option.some.inj h; have := hgn.out; omega) _
        · have HMD := Lib.hid hmd
          clear hmd
          have HOD := Lib.hid (((HOW.out.alloc (.cells #[.int .i64 dy, .int .i64 (4095 - dx), .int .i64 dt, .int .i64 dp] 24)).alloc (.cells #[.int .i64 dx, .int .i64 (4095 - dy), .int .i64 (4095 - dx), .int .i64 dy] 3)).alloc (.cells #[.int .i64 dy, .int .i64 dx, .int .i64 (4095 - dy), .int .i64 (4095 - dx)] 3))
          have o2' : (((wr.alloc (.cells #[.int .i64 dy, .int .i64 (4095 - dx), .int .i64 dt, .int .i64 dp] 24)).alloc (.cells #[.int .i64 dx, .int .i64 (4095 - dy), .int .i64 (4095 - dx), .int .i64 dy] 3)).alloc (.cells #[.int .i64 dy, .int .i64 dx, .int .i64 (4095 - dy), .int .i64 (4095 - dx)] 3)).cell? ⟨gr, 2, none⟩ = some x := keep_alloc _ (keep_alloc _ (keep_alloc _ o2))
          obtain ⟨V, hV⟩ : ∃ V, (((wr.alloc (.cells #[.int .i64 dy, .int .i64 (4095 - dx), .int .i64 dt, .int .i64 dp] 24)).alloc (.cells #[.int .i64 dx, .int .i64 (4095 - dy), .int .i64 (4095 - dx), .int .i64 dy] 3)).alloc (.cells #[.int .i64 dy, .int .i64 dx, .int .i64 (4095 - dy), .int .i64 (4095 - dx)] 3)) = V := ⟨_, rfl⟩
          have bV : Below wr.heap.size wr V := by rw [← hV]; exact below_alloc (below_alloc (below_alloc (Below.refl _ _) _) _) _
          rw [hV] at HOD
          have HBV := Lib.hid bV
          have hbV : gr + 1 ≤ V.heap.size := by have := bV.size; omega
          have p2 := cell_then bV o2
          have HVO4 := Lib.hid (HVO.out.then_ bV)
          have HVR4 := Lib.hid (HVR.out.then_ bV)
          have HB4 := Lib.hid (below_next HB.out bV)
          have HVV := Lib.hid hV
          have hsV : V.heap.size = wr.heap.size + 1 + 1 + 1 := by rw [← hV]; simp
          have hsV : V.heap.size = wr.heap.size + 1 + 1 + 1 := by rw [← hV]; simp
          have d0 : V.cell? ⟨wr.heap.size, 0, none⟩ = some (.int .i64 dy) := by rw [← hV]; exact keep_alloc _ (keep_alloc _ (new_cell rfl))
          have d1 : V.cell? ⟨wr.heap.size, 1, none⟩ = some (.int .i64 (4095 - dx)) := by rw [← hV]; exact keep_alloc _ (keep_alloc _ (new_cell rfl))
          have d2 : V.cell? ⟨wr.heap.size, 2, none⟩ = some (.int .i64 dt) := by rw [← hV]; exact keep_alloc _ (keep_alloc _ (new_cell rfl))
          have d3 : V.cell? ⟨wr.heap.size, 3, none⟩ = some (.int .i64 dp) := by rw [← hV]; exact keep_alloc _ (keep_alloc _ (new_cell rfl))
          have lV : gr < V.heap.size := by omega
          have lD := lt_size d0
          clear hV bV
          go_wp2_with (at_builtin; rw [HVV.out]; refine wpList_append1 rfl _ _ 25 rfl (gr + 1) 24 i0 _ 4 32 Try.underlying25 HI.out.1 HI.out.2.1 HI.out.2.2.1 HI.out.2.2.2 rfl (by omega) (by omega) x k _ rfl HOD.out #[.int .i64 dy, .int .i64 (4095 - dx), .int .i64 dt, .int .i64 dp] (by rw [hsV]; rfl) rfl (by simp [Value.oneCell']) (by omega) hbV ?_; intro g' c' w' own' k' n'; have KB := k'.below hbV (fun q hq => (HOD.out.lt q (own_mem hq)).1); have y2 : w'.cell? ⟨gr, 2, none⟩ = some x := (KB.cell (p := ⟨gr, 2, none⟩) (by dsimp only; omega)).trans p2; have HV2 := Lib.hid (var3_under HVO4.out KB (by omega)); have g2 := HV2.out.f2; have OW := Lib.hid own'; have HKB := Lib.hid KB; have hgn := Lib.hid (own'.lt g' rfl).1; clear own' k' n' KB)
          have KB := HKB.out
          refine ⟨⟨k + 1, by omega, by omega, _, ?_, (KB.cell (p := ⟨gr, 0, none⟩) (by dsimp only; omega)).trans (cell_then HBV.out o0), (KB.cell (p := ⟨gr, 1, none⟩) (by dsimp only; omega)).trans (cell_then HBV.out o1), rfl, HV2.out.set_ _ _, (var3_under HVR4.out KB (by omega)).set_ _ _, (KB.cell (p := ⟨w.heap.size, 2, none⟩) (by dsimp only; omega)).trans (cell_then HBV.out e2), (HB4.out.trans (KB.mono (by omega))).setCell (by dsimp only; omega) _⟩, by simp [intOf]; omega⟩
          rw [HMD.out, dcells_append]
          have hE : dcells [turnN 3 ⟨dx, dy, dt, dp⟩] = [.int .i64 dy, .int .i64 (4095 - dx), .int .i64 dt, .int .i64 dp] := by simp only [turnN, turn1, dcells, show (4095 : Int) - (4095 - dy) = dy by omega]
          rw [hE]
          exact own_set OW.out (fun h => by have h2 : g' = gr := Option.some.inj h; have := hgn.out; omega) _
      · obtain rfl : k = D.length := by omega
        have hown := HOW.out
        rw [List.take_length] at hown
        obtain ⟨g7, c7, rfl, hgw7, -⟩ := hown.form (by omega)
        have HOW2 := Lib.hid hown
        obtain ⟨m0, m1, m2⟩ := And.intro HVR.out.c0 (And.intro HVR.out.c1 HVR.out.c2)
        obtain ⟨z0, z1, z2⟩ := And.intro HVR.out.f0 (And.intro HVR.out.f1 HVR.out.f2)
        have hkk : ¬ (D.length : Int) < (D.length : Int) := by omega
        clear hown hB HOW hlt
        go_wp2_with fail
        exact bodyPost_ret (v := .tuple #[.agg #[.int .i64 P, .int .i64 N, .slice (some ⟨g7, 0, none⟩) D.length c7], .int .i64 0]) (by simp [results, Try.results36, go_sem, m0, m1, m2]) rfl (out_end HOW2.out (by rw [turnD, List.length_map]) (by omega) (by omega) HB.out)
end Go.Proofs.Ytgmabepdhbnppaa
