/- Package stroke: Kept. -/
import Derived.Test.YtgmabepdhbnppaaStrokeMoved
import Derived.Deep.RegionLaw
namespace Go.Proofs.Ytgmabepdhbnppaa
open Go.RowKit Str
/-- indices that rise and lie below n -/
def keptFrom (n : Nat) : Int → List Int → Bool
  | _, [] => true
  | a, k :: r => decide (a < k) && decide (k < (n : Int)) && keptFrom n k r
def lastK : Int → List Int → Int
  | a, [] => a
  | _, k :: r => lastK k r
theorem keptFrom_append (n : Nat) : ∀ (a : Int) (l m : List Int), keptFrom n a (l ++ m) = (keptFrom n a l && keptFrom n (lastK a l) m)
  | a, [], m => by simp [keptFrom, lastK]
  | a, k :: r, m => by simp [keptFrom, lastK, keptFrom_append n k r m, Bool.and_assoc]
theorem lastK_snoc (a : Int) (l : List Int) (x : Int) : lastK a (l ++ [x]) = x := by
  induction l generalizing a with
  | nil => rfl
  | cons k r ih => exact ih k
theorem keptFrom_take {n k : Nat} {a : Int} {l : List Int} (h : keptFrom n a (l.take k) = false) : keptFrom n a l = false := by
  conv => lhs; rw [← List.take_append_drop k l]
  rw [keptFrom_append, h, Bool.false_and]
theorem takeI {l : List Int} {k : Nat} (h : k < l.length) : l.take (k + 1) = l.take k ++ [l.getD k 0] := by
  rw [List.take_succ_eq_append_getElem h, List.getD, List.getElem?_eq_getElem h]; rfl
theorem keptFrom_snoc {n k : Nat} {a : Int} {l : List Int} (h : k < l.length) : keptFrom n a (l.take (k + 1)) = (keptFrom n a (l.take k) && (decide (lastK a (l.take k) < l.getD k 0) && decide (l.getD k 0 < (n : Int)))) := by
  rw [takeI h, keptFrom_append]
  simp [keptFrom]
theorem lastK_take {a : Int} {l : List Int} {k : Nat} (h : k < l.length) : lastK a (l.take (k + 1)) = l.getD k 0 := by rw [takeI h, lastK_snoc]
/-- what has been passed lies in the stroke -/
theorem keptFrom_lo {n : Nat} : ∀ {a : Int} {l : List Int}, keptFrom n a l = true → ∀ x ∈ l, a < x ∧ x < (n : Int)
  | a, k :: r, h, x, hx => by
    simp only [keptFrom, Bool.and_eq_true, decide_eq_true_eq] at h
    rcases List.mem_cons.1 hx with rfl | hx
    · exact h.1
    · have := keptFrom_lo h.2 x hx; omega
/-- the dots that are kept -/
def keptE (D : List Dot) (l : List Int) : List Dot := l.map fun i => dotAt D i.toNat
theorem keptE_length (D : List Dot) (l : List Int) : (keptE D l).length = l.length := List.length_map _
theorem keptE_snoc (D : List Dot) {l : List Int} {k : Nat} (h : k < l.length) : keptE D (l.take (k + 1)) = keptE D (l.take k) ++ [dotAt D (l.getD k 0).toNat] := by rw [takeI h, keptE, List.map_append]; rfl
def KeptP (P N : Int) (D : List Dot) (l : List Int) (w : World) (e : Ending) (w' : World) : Prop :=
  (keptFrom D.length (-1) l = true → YesP P N (keptE D l) w e w') ∧ (keptFrom D.length (-1) l = false → NoP w e w')
theorem kept_no (P N : Int) (A B : Option Addr) (cap cb : Nat) (D : List Dot) (l : List Int) (w : World) (hn : (D.length : Int) ≤ 4611686018427387904) (hD : Dots w A D) (h : validB P N D = false ∨ l = []) :
    Calls Try.prog 26 #[.agg #[.int .i64 P, .int .i64 N, .slice A D.length cap], .slice B l.length cb] w (NoP w) := by
  have HD := Lib.hid hD
  clear hD
  have B0 : Below w.heap.size w ((w.alloc (.cells #[.int .i64 P, .int .i64 N, .slice A D.length cap] 27)).alloc (.cells #[.int .i64 0, .int .i64 0, .slice none 0 0] 27)) := below_alloc (below_alloc (Below.refl _ _) _) _
  cases hv : validB P N D with
  | false =>
    go_enter Try.func26, Try.ntmps26
    go_wp2_with fail
    refine (valid_any P N A cap D _ (HD.out.below B0) hn).mono ?_
    rintro e w1 ⟨rfl, b1⟩
    rw [hv]
    obtain ⟨m0, z0⟩ := var_then b1 (a := ⟨w.heap.size + 1, 0, none⟩) (v := .int .i64 0) (by simp [go_sem])
    obtain ⟨m1, z1⟩ := var_then b1 (a := ⟨w.heap.size + 1, 1, none⟩) (v := .int .i64 0) (by simp [go_sem])
    obtain ⟨m2, z2⟩ := var_then b1 (a := ⟨w.heap.size + 1, 2, none⟩) (v := .slice none 0 0) (by simp [go_sem])
    go_wp2_with fail
    exact bodyPost_ret (v := .tuple #[.agg #[.int .i64 0, .int .i64 0, .slice none 0 0], .int .i64 50]) (by simp [results, Try.results26, go_sem, m0, m1, m2]) rfl ⟨rfl, (((below_next B0 b1).setCell (by dsimp only; omega) _).setCell (by dsimp only; omega) _).setCell (by dsimp only; omega) _⟩
  | true =>
    have hl := h.resolve_left (by rw [hv]; simp)
    subst hl
    go_enter Try.func26, Try.ntmps26
    go_wp2_with fail
    refine (valid_any P N A cap D _ (HD.out.below B0) hn).mono ?_
    rintro e w1 ⟨rfl, b1⟩
    rw [hv]
    obtain ⟨m0, z0⟩ := var_then b1 (a := ⟨w.heap.size + 1, 0, none⟩) (v := .int .i64 0) (by simp [go_sem])
    obtain ⟨m1, z1⟩ := var_then b1 (a := ⟨w.heap.size + 1, 1, none⟩) (v := .int .i64 0) (by simp [go_sem])
    obtain ⟨m2, z2⟩ := var_then b1 (a := ⟨w.heap.size + 1, 2, none⟩) (v := .slice none 0 0) (by simp [go_sem])
    go_wp2_with fail
    exact bodyPost_ret (v := .tuple #[.agg #[.int .i64 0, .int .i64 0, .slice none 0 0], .int .i64 50]) (by simp [results, Try.results26, go_sem, m0, m1, m2]) rfl ⟨rfl, (((below_next B0 b1).setCell (by dsimp only; omega) _).setCell (by dsimp only; omega) _).setCell (by dsimp only; omega) _⟩
set_option maxRecDepth 100000 in
set_option maxHeartbeats 4000000 in
theorem kept_any (P N : Int) (A B : Option Addr) (cap cb : Nat) (D : List Dot) (l : List Int) (w : World) (hD : Dots w A D) (hl : IntsAt w B l) (hl0 : 0 < l.length) (hl2 : (l.length : Int) ≤ 4398046511104) (h1 : validB P N D = true) :
    Calls Try.prog 26 #[.agg #[.int .i64 P, .int .i64 N, .slice A D.length cap], .slice B l.length cb] w (KeptP P N D l w) := by
  obtain ⟨⟨p5, p6⟩, p0⟩ := valid_len h1
  have H1 := Lib.hid h1
  clear h1
  obtain ⟨b, o, rfl, hlt, hc⟩ := hD.open_ p0
  have HD := Lib.hid hD
  have HC := Lib.hid hc
  have HL := Lib.hid hl
  clear hD hc hl
  obtain ⟨i0, hi0, hz0, hz1, hz2⟩ := info_parts dot_info
  have B0 : Below w.heap.size w ((w.alloc (.cells #[.int .i64 P, .int .i64 N, .slice (some ⟨b, o, none⟩) D.length cap] 27)).alloc (.cells #[.int .i64 0, .int .i64 0, .slice none 0 0] 27)) := below_alloc (below_alloc (Below.refl _ _) _) _
  have hne : ((l.length : Int) == 0) = false := by rw [beq_eq_false_iff_ne]; omega
  go_enter Try.func26, Try.ntmps26
  go_wp2_with fail
  refine (valid_any P N _ cap D _ (HD.out.below B0) (by omega)).mono ?_
  rintro e w1 ⟨rfl, b1⟩
  rw [H1.out]
  have B1 := below_next B0 b1
  have e0 : w1.cell? ⟨w.heap.size, 0, none⟩ = some (.int .i64 P) := cell_then b1 (by simp [go_sem])
  have e1 : w1.cell? ⟨w.heap.size, 1, none⟩ = some (.int .i64 N) := cell_then b1 (by simp [go_sem])
  have e2 : w1.cell? ⟨w.heap.size, 2, none⟩ = some (.slice (some ⟨b, o, none⟩) D.length cap) := cell_then b1 (by simp [go_sem])
  have V1 : Var3 w1 (w.heap.size + 1) := Var3.of (var_then b1 (v := .int .i64 0) (by simp [go_sem])) (var_then b1 (v := .int .i64 0) (by simp [go_sem])) (var_then b1 (v := .slice none 0 0) (by simp [go_sem]))
  have hsz := lt_size V1.c0
  have HV1 := Lib.hid V1
  clear B0 b1 V1
  go_wp2_with fail
  clear hne
  obtain ⟨W0, hW0⟩ : ∃ W0, w1.alloc (.cells #[.int .i64 P, .int .i64 N, .slice none 0 0] 27) = W0 := ⟨_, rfl⟩
  have BN : Below w1.heap.size w1 W0 := by rw [← hW0]; exact below_alloc (Below.refl _ _) _
  have VO : Var3 W0 w1.heap.size := by rw [← hW0]; exact Var3.new _ _ _ _ _
  have o0 : W0.cell? ⟨w1.heap.size, 0, none⟩ = some (.int .i64 P) := by rw [← hW0]; exact new_cell rfl
  have o1 : W0.cell? ⟨w1.heap.size, 1, none⟩ = some (.int .i64 N) := by rw [← hW0]; exact new_cell rfl
  have o2 : W0.cell? ⟨w1.heap.size, 2, none⟩ = some (.slice none 0 0) := by rw [← hW0]; exact new_cell rfl
  rw [hW0]
  clear hW0
  go_loopw [25] (fun i wr => ∃ (k : Nat) (v : Value), k ≤ l.length ∧ i = .int .i64 (k : Int) ∧ keptFrom D.length (-1) (l.take k) = true ∧ wr.ownsRow (w1.heap.size + 1) 24 4 v k (dcells (keptE D (l.take k))) ∧
    wr.cell? ⟨w1.heap.size, 0, none⟩ = some (.int .i64 P) ∧ wr.cell? ⟨w1.heap.size, 1, none⟩ = some (.int .i64 N) ∧ wr.cell? ⟨w1.heap.size, 2, none⟩ = some v ∧ Var3 wr w1.heap.size ∧ Var3 wr (w.heap.size + 1) ∧
    wr.cell? ⟨w.heap.size, 2, none⟩ = some (.slice (some ⟨b, o, none⟩) D.length cap) ∧ Below w.heap.size w wr) (fun i _ => l.length - (intOf i).toNat)
  case atStart => exact ⟨0, .slice none 0 0, by omega, rfl, rfl, World.ownsRow_nil _ _ _ _, o0, o1, o2, VO, HV1.out.then_ BN, cell_then BN e2, below_next B1 BN⟩
  case round =>
    clear o0 o1 o2 VO e0 e1 e2 BN
    obtain ⟨k, v, hk, rfl, hkf, hown, o0, o1, o2, VO, VR, e2, hB⟩ := hrel
    have lo := lt_size o2
    have lr := lt_size VR.c0
    have HKF := Lib.hid hkf
    have HVO := Lib.hid VO
    have HVR := Lib.hid VR
    have fo := VO.f2
    clear hkf VO VR
    have hvw : some w.heap.size ≠ v.ownBlock := fun h => by have := hown.lt _ h.symm; omega
    have hvr : some (w.heap.size + 1) ≠ v.ownBlock := fun h => by have := hown.lt _ h.symm; omega
    have hvb : some w1.heap.size ≠ v.ownBlock := fun h => by have := hown.lt _ h.symm; omega
    by_cases hlt2 : k < l.length
    · obtain ⟨bb, bo, rfl, cx⟩ := (HL.out.then_ hB) k hlt2
      obtain ⟨x, hx⟩ : ∃ x, l.getD k 0 = x := ⟨_, rfl⟩
      rw [hx] at cx
      have HX := Lib.hid hx
      have hs := keptFrom_snoc (n := D.length) (a := -1) hlt2
      rw [HKF.out, Bool.true_and, hx] at hs
      have HS := Lib.hid hs
      clear hx hs
      go_wp2_with fail
      refine (isIn_any _ _ _ _).mono ?_
      rintro e w2 ⟨rfl, rfl⟩
      cases hin : isInB x 0 ((D.length : Int) - 1) with
      | false =>
        have hno : keptFrom D.length (-1) l = false := keptFrom_take (k := k + 1) (by
          rw [HS.out]
          by_cases hx0 : 0 ≤ x
          · have : ¬ x < (D.length : Int) := fun h => by rw [isInB_iff.2 ⟨hx0, by omega⟩] at hin; cases hin
            simp [this]
          · have : ¬ lastK (-1) (l.take k) < x := by
              cases k with
              | zero => simp [lastK]; omega
              | succ k =>
                rw [lastK_take (by omega)]
                have := keptFrom_lo HKF.out (l.getD k 0) (by rw [takeI (by omega)]; simp)
                omega
            simp [this])
        have HNO := Lib.hid hno
        clear hno
        obtain ⟨m0, m1, m2⟩ := And.intro HVR.out.c0 (And.intro HVR.out.c1 HVR.out.c2)
        obtain ⟨z0, z1, z2⟩ := And.intro HVR.out.f0 (And.intro HVR.out.f1 HVR.out.f2)
        clear e2 o0 o1 o2 cx
        go_wp2_with fail
        refine bodyPost_ret (v := .tuple #[.agg #[.int .i64 0, .int .i64 0, .slice none 0 0], .int .i64 50]) (by simp [results, Try.results26, go_sem, m0, m1, m2]) rfl ⟨fun h => (by rw [HNO.out] at h; cases h), fun _ => ⟨rfl, ((hB.setCell (by dsimp only; omega) _).setCell (by dsimp only; omega) _).setCell (by dsimp only; omega) _⟩⟩
      | true =>
        have hxx := isInB_iff.1 hin
        cases k with
        | zero =>
          obtain ⟨j, hj⟩ := Int.eq_ofNat_of_zero_le hxx.1
          subst hj
          have hjn : j < D.length := by omega
          obtain ⟨c0, c1, c2, c3⟩ := Dots.of_open hB HC.out j hjn
          have q1 : (0 : Int) ≤ (j : Int) := by omega
          have q2 : (j : Int) < (D.length : Int) := by omega
          have hkt2 : keptFrom D.length (-1) (l.take (0 + 1)) = true := by
            rw [HS.out]
            have e1 : decide ((j : Int) < (D.length : Int)) = true := decide_eq_true q2
            rw [e1, Bool.and_true]
            exact decide_eq_true (by simp [lastK]; omega)
          have HKT := Lib.hid hkt2
          have hes := keptE_snoc D hlt2
          rw [HX.out, Int.toNat_natCast] at hes
          have HES := Lib.hid hes
          clear hkt2 hes
          go_wp2_with fail
          go_region_law ((refine step_append_lies _ (by rfl) _ _ _ (by rfl) (w1.heap.size + 1) 24 i0 _ 4 32 Try.underlying25 hi0 hz0 hz1 hz2 rfl (by omega) v 0 _ (by rfl) ((hown.alloc _).drew) ⟨wr.heap.size, 0, none⟩ 1 1 [.int .i64 (dotAt D j).x, .int .i64 (dotAt D j).y, .int .i64 (dotAt D j).t, .int .i64 (dotAt D j).p] (by rfl) rfl (fun j u h => by rw [World.cell?_drew]; exact new_dot j u h) (by simp [Value.oneCell']) (by omega) (by unfold maxLen; omega) (by omega) (by simp; omega) (wr.heap.size + 1) (by simp) ?_; intro g' cp' wy hown' hgrow hat hlt'; have x2 := (hgrow.cell_far ⟨w1.heap.size, 2, none⟩ (by simp; omega) hvb).trans (keep_alloc _ o2); have x3 := (hgrow.frozen_far ⟨w1.heap.size, 2, none⟩ (by simp; omega) hvb).trans (var_then (below_alloc (Below.refl _ _) _) ⟨o2, fo⟩).2))
          all_goals
            have hBd := (below_alloc hB (.cells #[.int .i64 (dotAt D j).x, .int .i64 (dotAt D j).y, .int .i64 (dotAt D j).t, .int .i64 (dotAt D j).p] 24)).drew
            have hB2 : Below w.heap.size w wy := hBd.grown hgrow hBd.size (fun q hq => by have := hown.lt q hq; omega)
            have y0 := cell_grown' (drew_cell (keep_alloc _ o0)) hgrow hvb
            have y1 := cell_grown' (drew_cell (keep_alloc _ o1)) hgrow hvb
            have y2 := cell_grown' (drew_cell (keep_alloc _ e2)) hgrow hvw
            have VO2 := ((HVO.out.alloc _).drew).grown hgrow hvb
            have VR2 := ((HVR.out.alloc _).drew).grown hgrow hvr
            have hgb := (hown'.lt g' rfl).1
            go_wp2_with fail
            refine ⟨⟨0 + 1, .slice (some ⟨g', 0, none⟩) (0 + 1) cp', by omega, by go_num, HKT.out, ?_, cell_off _ y0 (by omega), cell_off _ y1 (by omega), VO2.s2 _, VO2.set_ _ _, VR2.set_ _ _, cell_set _ y2 (by dsimp only; omega), hB2.setCell (by dsimp only; omega) _⟩, by simp [intOf]; omega⟩
            rw [HES.out, dcells_append]
            exact own_set hown' (fun h => by have h2 : g' = w1.heap.size := Option.some.inj h; omega) _
        | succ k =>
          obtain ⟨y, hy⟩ : ∃ y, l.getD k 0 = y := ⟨_, rfl⟩
          obtain ⟨bb', bo', hbb, cy⟩ := (HL.out.then_ hB) k (by omega)
          injection hbb with hbb
          injection hbb with e1 e2'
          subst e1 e2'
          rw [hy] at cy
          have hlk : lastK (-1) (l.take (k + 1)) = y := by rw [lastK_take (by omega), hy]
          have hpos : ((k + 1 : Nat) : Int) - 1 = (k : Int) := by omega
          have q3 : (k : Int) < (l.length : Int) := by omega
          by_cases hle : x ≤ y
          · have hno : keptFrom D.length (-1) l = false := keptFrom_take (k := k + 1 + 1) (by
              rw [HS.out, hlk]
              have : decide (y < x) = false := by simp; omega
              rw [this, Bool.false_and])
            have HNO := Lib.hid hno
            obtain ⟨m0, m1, m2⟩ := And.intro HVR.out.c0 (And.intro HVR.out.c1 HVR.out.c2)
            obtain ⟨z0, z1, z2⟩ := And.intro HVR.out.f0 (And.intro HVR.out.f1 HVR.out.f2)
            clear hno hlk hy e2 o0 o1 o2 cx
            go_wp2_with fail
            refine bodyPost_ret (v := .tuple #[.agg #[.int .i64 0, .int .i64 0, .slice none 0 0], .int .i64 50]) (by simp [results, Try.results26, go_sem, m0, m1, m2]) rfl ⟨fun h => (by rw [HNO.out] at h; cases h), fun _ => ⟨rfl, ((hB.setCell (by dsimp only; omega) _).setCell (by dsimp only; omega) _).setCell (by dsimp only; omega) _⟩⟩
          · have HLK := Lib.hid hlk
            clear hy hlk
            obtain ⟨j, hj⟩ := Int.eq_ofNat_of_zero_le hxx.1
            subst hj
            have hjn : j < D.length := by omega
            obtain ⟨c0, c1, c2, c3⟩ := Dots.of_open hB HC.out j hjn
            have q1 : (0 : Int) ≤ (j : Int) := by omega
            have q2 : (j : Int) < (D.length : Int) := by omega
            have hkt2 : keptFrom D.length (-1) (l.take (k + 1 + 1)) = true := by
              rw [HS.out]
              have e1 : decide ((j : Int) < (D.length : Int)) = true := decide_eq_true q2
              rw [e1, Bool.and_true]
              exact decide_eq_true (by rw [HLK.out]; omega)
            have HKT := Lib.hid hkt2
            have hes := keptE_snoc D hlt2
            rw [HX.out, Int.toNat_natCast] at hes
            have HES := Lib.hid hes
            clear hkt2 hes
            go_wp2_with fail
            go_region_law ((refine step_append_lies _ (by rfl) _ _ _ (by rfl) (w1.heap.size + 1) 24 i0 _ 4 32 Try.underlying25 hi0 hz0 hz1 hz2 rfl (by omega) v (k + 1) _ (by rfl) ((hown.alloc _).drew) ⟨wr.heap.size, 0, none⟩ 1 1 [.int .i64 (dotAt D j).x, .int .i64 (dotAt D j).y, .int .i64 (dotAt D j).t, .int .i64 (dotAt D j).p] (by rfl) rfl (fun j u h => by rw [World.cell?_drew]; exact new_dot j u h) (by simp [Value.oneCell']) (by omega) (by unfold maxLen; omega) (by omega) (by simp; omega) (wr.heap.size + 1) (by simp) ?_; intro g' cp' wy hown' hgrow hat hlt'; have x2 := (hgrow.cell_far ⟨w1.heap.size, 2, none⟩ (by simp; omega) hvb).trans (keep_alloc _ o2); have x3 := (hgrow.frozen_far ⟨w1.heap.size, 2, none⟩ (by simp; omega) hvb).trans (var_then (below_alloc (Below.refl _ _) _) ⟨o2, fo⟩).2))
            all_goals
              have hBd := (below_alloc hB (.cells #[.int .i64 (dotAt D j).x, .int .i64 (dotAt D j).y, .int .i64 (dotAt D j).t, .int .i64 (dotAt D j).p] 24)).drew
              have hB2 : Below w.heap.size w wy := hBd.grown hgrow hBd.size (fun q hq => by have := hown.lt q hq; omega)
              have y0 := cell_grown' (drew_cell (keep_alloc _ o0)) hgrow hvb
              have y1 := cell_grown' (drew_cell (keep_alloc _ o1)) hgrow hvb
              have y2 := cell_grown' (drew_cell (keep_alloc _ e2)) hgrow hvw
              have VO2 := ((HVO.out.alloc _).drew).grown hgrow hvb
              have VR2 := ((HVR.out.alloc _).drew).grown hgrow hvr
              have hgb := (hown'.lt g' rfl).1
              go_wp2_with fail
              refine ⟨⟨k + 1 + 1, .slice (some ⟨g', 0, none⟩) (k + 1 + 1) cp', by omega, by go_num, HKT.out, ?_, cell_off _ y0 (by omega), cell_off _ y1 (by omega), VO2.s2 _, VO2.set_ _ _, VR2.set_ _ _, cell_set _ y2 (by dsimp only; omega), hB2.setCell (by dsimp only; omega) _⟩, by simp [intOf]; omega⟩
              rw [HES.out, dcells_append]
              exact own_set hown' (fun h => by have h2 : g' = w1.heap.size := Option.some.inj h; omega) _
    · obtain rfl : k = l.length := by omega
      rw [List.take_length] at hown
      have hkt := HKF.out
      rw [List.take_length] at hkt
      have HKT := Lib.hid hkt
      obtain ⟨m0, m1, m2⟩ := And.intro HVR.out.c0 (And.intro HVR.out.c1 HVR.out.c2)
      obtain ⟨z0, z1, z2⟩ := And.intro HVR.out.f0 (And.intro HVR.out.f1 HVR.out.f2)
      obtain ⟨g, cp, rfl, hgl, hgs⟩ := hown.form (by omega)
      clear hkt e2
      go_wp2_with fail
      refine bodyPost_ret (v := .tuple #[.agg #[.int .i64 P, .int .i64 N, .slice (some ⟨g, 0, none⟩) l.length cp], .int .i64 0]) (by simp [results, Try.results26, go_sem, m0, m1, m2]) rfl ⟨fun _ => ?_, fun h => (by rw [HKT.out] at h; cases h)⟩
      have hcc := own_cap hown
      have B6 := ((hB.setCell (p := ⟨w.heap.size + 1, 0, none⟩) (by dsimp only; omega) (.int .i64 P)).setCell (p := ⟨w.heap.size + 1, 1, none⟩) (by dsimp only; omega) (.int .i64 N)).setCell (p := ⟨w.heap.size + 1, 2, none⟩) (by dsimp only; omega) (.slice (some ⟨g, 0, none⟩) l.length cp)
      have hdd := dots_of_own hown
      refine ⟨g, cp, by rw [keptE_length], by omega, fun i hi => ?_, by rw [keptE_length]; exact hcc.1, hcc.2, B6⟩
      obtain ⟨b, o, hA, c0, c1, c2, c3⟩ := hdd i hi
      have ne : g = b := by injection hA with hA; injection hA
      exact ⟨b, o, hA, cell_set _ (cell_set _ (cell_set _ c0 (by dsimp only; omega)) (by dsimp only; omega)) (by dsimp only; omega), cell_set _ (cell_set _ (cell_set _ c1 (by dsimp only; omega)) (by dsimp only; omega)) (by dsimp only; omega), cell_set _ (cell_set _ (cell_set _ c2 (by dsimp only; omega)) (by dsimp only; omega)) (by dsimp only; omega), cell_set _ (cell_set _ (cell_set _ c3 (by dsimp only; omega)) (by dsimp only; omega)) (by dsimp only; omega)⟩
end Go.Proofs.Ytgmabepdhbnppaa
