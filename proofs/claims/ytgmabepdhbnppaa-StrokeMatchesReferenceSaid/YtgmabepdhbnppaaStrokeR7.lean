/- The strokes' reference: Kept of any stroke. -/
import Derived.Test.YtgmabepdhbnppaaStrokeR5
import Derived.Test.YtgmabepdhbnppaaStrokeKept
import Derived.Test.YtgmabepdhbnppaaHead
import Derived.Deep.RegionLaw
namespace Go.Proofs.Ytgmabepdhbnppaa
open Go.RowKit Str
attribute [local go_sem] Oper.semAt_some
attribute [local go_sem ↓] Var3.c0 Var3.c1 Var3.c2 Var3.f0 Var3.f1 Var3.f2
theorem keptFrom_len {n : Nat} : ∀ {a : Int} {l : List Int}, keptFrom n a l = true → (l.length : Int) ≤ max 0 ((n : Int) - 1 - a)
  | a, [], _ => by simp; omega
  | a, k :: r, h => by
    simp only [keptFrom, Bool.and_eq_true, decide_eq_true_eq] at h
    have := keptFrom_len h.2
    rw [List.length_cons]
    omega
theorem lastK_ge {n k : Nat} {l : List Int} (h : keptFrom n (-1) (l.take k) = true) (hk : k ≤ l.length) : -1 ≤ lastK (-1) (l.take k) := by
  cases k with
  | zero => simp [lastK]
  | succ k =>
    rw [lastK_take (by omega)]
    have := keptFrom_lo h (l.getD k 0) (by rw [takeI (by omega)]; simp)
    omega
set_option maxRecDepth 100000 in
set_option maxHeartbeats 4000000 in
theorem keptR_bad (P N : Int) (A : Option Addr) (cap : Nat) (D : List Dot) (B : Option Addr) (cb : Nat) (l : List Int) (w : World) (hD : Dots w A D) (hcp : D.length ≤ cap) (hcm : (cap : Int) ≤ 9223372036854775807) (h1 : validB P N D = false) :
    Calls Try.prog 27 #[.agg #[.int .i64 P, .int .i64 N, .slice A D.length cap], .slice B l.length cb] w (NoP w) := by
  have B0 : Below w.heap.size w ((w.alloc (.cells #[.int .i64 P, .int .i64 N, .slice A D.length cap] 27)).alloc (.cells #[.int .i64 0, .int .i64 0, .slice none 0 0] 27)) := below_alloc (below_alloc (Below.refl _ _) _) _
  have hc := validR_any P N A cap D _ (hD.below B0) hcp hcm
  rw [h1] at hc
  have HC := Lib.hid hc
  have HB0 := Lib.hid B0
  clear hc B0 h1
  clear hD
  go_enter Try.func27, Try.ntmps27
  go_wp2_with fail
  refine HC.out.mono ?_
  rintro e w1 ⟨rfl, b1⟩
  have V1 : Var3 w1 (w.heap.size + 1) := Var3.of (var_then b1 (v := .int .i64 0) (by simp [go_sem])) (var_then b1 (v := .int .i64 0) (by simp [go_sem])) (var_then b1 (v := .slice none 0 0) (by simp [go_sem]))
  go_wp2_with fail
  exact bodyPost_ret (v := .tuple #[.agg #[.int .i64 0, .int .i64 0, .slice none 0 0], .int .i64 50]) (by simp [results, Try.results27, go_sem, V1.c0, V1.c1, V1.c2]) rfl ⟨rfl, (((below_next HB0.out b1).setCell (by simp) _).setCell (by simp) _).setCell (by simp) _⟩
set_option maxRecDepth 100000 in
set_option maxHeartbeats 4000000 in
theorem keptR_none (P N : Int) (A : Option Addr) (cap : Nat) (D : List Dot) (B : Option Addr) (cb : Nat) (l : List Int) (w : World) (hD : Dots w A D) (hcp : D.length ≤ cap) (hcm : (cap : Int) ≤ 9223372036854775807) (h1 : validB P N D = true) (hl : l.length = 0) :
    Calls Try.prog 27 #[.agg #[.int .i64 P, .int .i64 N, .slice A D.length cap], .slice B l.length cb] w (NoP w) := by
  have B0 : Below w.heap.size w ((w.alloc (.cells #[.int .i64 P, .int .i64 N, .slice A D.length cap] 27)).alloc (.cells #[.int .i64 0, .int .i64 0, .slice none 0 0] 27)) := below_alloc (below_alloc (Below.refl _ _) _) _
  have hc := validR_any P N A cap D _ (hD.below B0) hcp hcm
  rw [h1] at hc
  have HC := Lib.hid hc
  have HB0 := Lib.hid B0
  clear hc B0 h1
  clear hD
  have hz : ((l.length : Int) == 0) = true := by rw [beq_iff_eq]; omega
  clear hl
  go_enter Try.func27, Try.ntmps27
  go_wp2_with fail
  refine HC.out.mono ?_
  rintro e w1 ⟨rfl, b1⟩
  have V1 : Var3 w1 (w.heap.size + 1) := Var3.of (var_then b1 (v := .int .i64 0) (by simp [go_sem])) (var_then b1 (v := .int .i64 0) (by simp [go_sem])) (var_then b1 (v := .slice none 0 0) (by simp [go_sem]))
  go_wp2_with fail
  exact bodyPost_ret (v := .tuple #[.agg #[.int .i64 0, .int .i64 0, .slice none 0 0], .int .i64 50]) (by simp [results, Try.results27, go_sem, V1.c0, V1.c1, V1.c2]) rfl ⟨rfl, (((below_next HB0.out b1).setCell (by simp) _).setCell (by simp) _).setCell (by simp) _⟩
set_option maxRecDepth 100000 in
set_option maxHeartbeats 4000000 in
theorem keptR_many (P N : Int) (A : Option Addr) (cap : Nat) (D : List Dot) (B : Option Addr) (cb : Nat) (l : List Int) (w : World) (hD : Dots w A D) (hcp : D.length ≤ cap) (hcm : (cap : Int) ≤ 9223372036854775807) (h1 : validB P N D = true) (hl : D.length < l.length) :
    Calls Try.prog 27 #[.agg #[.int .i64 P, .int .i64 N, .slice A D.length cap], .slice B l.length cb] w (NoP w) := by
  have B0 : Below w.heap.size w ((w.alloc (.cells #[.int .i64 P, .int .i64 N, .slice A D.length cap] 27)).alloc (.cells #[.int .i64 0, .int .i64 0, .slice none 0 0] 27)) := below_alloc (below_alloc (Below.refl _ _) _) _
  have hc := validR_any P N A cap D _ (hD.below B0) hcp hcm
  rw [h1] at hc
  have HC := Lib.hid hc
  have HB0 := Lib.hid B0
  clear hc B0 h1
  clear hD
  have hz : ((l.length : Int) == 0) = false := by rw [beq_eq_false_iff_ne]; omega
  have hg : (D.length : Int) < (l.length : Int) := by omega
  go_enter Try.func27, Try.ntmps27
  go_wp2_with fail
  refine HC.out.mono ?_
  rintro e w1 ⟨rfl, b1⟩
  have e2 : w1.cell? ⟨w.heap.size, 2, none⟩ = some (.slice A D.length cap) := cell_then b1 (by simp [go_sem])
  have le := lt_size e2
  have V1 : Var3 w1 (w.heap.size + 1) := Var3.of (var_then b1 (v := .int .i64 0) (by simp [go_sem])) (var_then b1 (v := .int .i64 0) (by simp [go_sem])) (var_then b1 (v := .slice none 0 0) (by simp [go_sem]))
  go_wp2_with fail
  exact bodyPost_ret (v := .tuple #[.agg #[.int .i64 0, .int .i64 0, .slice none 0 0], .int .i64 50]) (by simp [results, Try.results27, go_sem, V1.c0, V1.c1, V1.c2]) rfl ⟨rfl, (((below_next HB0.out b1).setCell (by simp) _).setCell (by simp) _).setCell (by simp) _⟩
set_option maxRecDepth 100000 in
set_option maxHeartbeats 4000000 in
theorem keptR_loop (P N : Int) (A : Option Addr) (cap : Nat) (D : List Dot) (B : Option Addr) (cb : Nat) (l : List Int) (w : World) (hD : Dots w A D) (hcp : D.length ≤ cap) (hcm : (cap : Int) ≤ 9223372036854775807) (hl : IntsAt w B l) (hl0 : 0 < l.length) (hl1 : l.length ≤ D.length) (h1 : validB P N D = true) :
    Calls Try.prog 27 #[.agg #[.int .i64 P, .int .i64 N, .slice A D.length cap], .slice B l.length cb] w (KeptP P N D l w) := by
  obtain ⟨⟨p5, p6⟩, p0⟩ := valid_len h1
  have hpl := placed (validB_dots h1)
  have HPL := Lib.hid hpl
  have hcp' : (D.length : Int) ≤ (cap : Int) := by omega
  obtain ⟨i0, hi0, hz0, hz1, hz2⟩ := info_parts dot_info
  have HI := Lib.hid (And.intro hi0 (And.intro hz0 (And.intro hz1 hz2)))
  have B0 : Below w.heap.size w ((w.alloc (.cells #[.int .i64 P, .int .i64 N, .slice A D.length cap] 27)).alloc (.cells #[.int .i64 0, .int .i64 0, .slice none 0 0] 27)) := below_alloc (below_alloc (Below.refl _ _) _) _
  have hc := validR_any P N A cap D _ (hD.below B0) hcp hcm
  rw [h1] at hc
  have HC := Lib.hid hc
  have HB0 := Lib.hid B0
  clear hc B0 h1
  have HD := Lib.hid hD
  have HL := Lib.hid hl
  have hz : ((l.length : Int) == 0) = false := by rw [beq_eq_false_iff_ne]; omega
  have hg : decide ((D.length : Int) < (l.length : Int)) = false := decide_eq_false (by omega)
  have hg2 : decide (D.length < l.length) = false := decide_eq_false (by omega)
  clear hl hD hi0 hz0 hz1 hz2 hpl
  go_enter Try.func27, Try.ntmps27
  go_wp2_with fail
  refine HC.out.mono ?_
  rintro e w1 ⟨rfl, b1⟩
  have e0 : w1.cell? ⟨w.heap.size, 0, none⟩ = some (.int .i64 P) := cell_then b1 (by simp [go_sem])
  have e1 : w1.cell? ⟨w.heap.size, 1, none⟩ = some (.int .i64 N) := cell_then b1 (by simp [go_sem])
  have e2 : w1.cell? ⟨w.heap.size, 2, none⟩ = some (.slice A D.length cap) := cell_then b1 (by simp [go_sem])
  have V1 : Var3 w1 (w.heap.size + 1) := Var3.of (var_then b1 (v := .int .i64 0) (by simp [go_sem])) (var_then b1 (v := .int .i64 0) (by simp [go_sem])) (var_then b1 (v := .slice none 0 0) (by simp [go_sem]))
  have hsz := lt_size V1.c0
  obtain ⟨W0, hW0⟩ : ∃ W0, w1.alloc (.cells #[.int .i64 P, .int .i64 N, .slice none 0 0] 27) = W0 := ⟨_, rfl⟩
  have BN : Below w1.heap.size w1 W0 := by rw [← hW0]; exact below_alloc (Below.refl _ _) _
  have VO : Var3 W0 w1.heap.size := by rw [← hW0]; exact Var3.new _ _ _ _ _
  have o0 : W0.cell? ⟨w1.heap.size, 0, none⟩ = some (.int .i64 P) := by rw [← hW0]; exact new_cell rfl
  have o1 : W0.cell? ⟨w1.heap.size, 1, none⟩ = some (.int .i64 N) := by rw [← hW0]; exact new_cell rfl
  have o2 : W0.cell? ⟨w1.heap.size, 2, none⟩ = some (.slice none 0 0) := by rw [← hW0]; exact new_cell rfl
  have e3 := cell_then BN e2
  have HB1 := Lib.hid (below_next HB0.out (below_next b1 BN))
  have HV1 := Lib.hid (V1.then_ BN)
  have HVO := Lib.hid VO
  have HW0 := Lib.hid hW0
  obtain ⟨gr, hgr⟩ : ∃ g, w1.heap.size = g := ⟨_, rfl⟩
  rw [hgr] at o0 o1 o2 HVO hsz
  have HGR := Lib.hid hgr
  have le := lt_size e2
  clear hW0 VO V1 BN b1 HB0 HC hgr
  go_wp2_with fail
  rw [HW0.out, HGR.out]
  have hl200 : l.length ≤ 200 := by omega
  clear HW0 HGR e0 e1 e2 hz hg hg2 hl1
  go_loopw [7] (fun i wr => ∃ (k : Nat) (v : Value), k ≤ l.length ∧ i = .int .i64 (k : Int) ∧ keptFrom D.length (-1) (l.take k) = true ∧ wr.ownsRow (gr + 1) 24 4 v k (dcells (keptE D (l.take k))) ∧ wr.cell? ⟨gr, 0, none⟩ = some (.int .i64 P) ∧ wr.cell? ⟨gr, 1, none⟩ = some (.int .i64 N) ∧ wr.cell? ⟨gr, 2, none⟩ = some v ∧ Var3 wr gr ∧ Var3 wr (w.heap.size + 1) ∧ wr.cell? ⟨w.heap.size, 2, none⟩ = some (.slice A D.length cap) ∧ Below w.heap.size w wr) (fun i _ => l.length - (intOf i).toNat)
  case atStart => exact ⟨0, .slice none 0 0, by omega, rfl, rfl, World.ownsRow_nil _ _ _ _, o0, o1, o2, HVO.out, HV1.out, e3, HB1.out⟩
  case round =>
    clear o0 o1 o2 HVO HV1 e3 HB1 le
    obtain ⟨k, v, hk, rfl, hkf, hown, o0, o1, o2, VO, VR, e2, hB⟩ := hrel
    have HKF := Lib.hid hkf
    have HOW := Lib.hid hown
    have HVO := Lib.hid VO
    have HVR := Lib.hid VR
    have HB := Lib.hid hB
    have lo := lt_size o2
    have lr := lt_size VR.c0
    have le := lt_size e2
    clear hkf hown VO VR
    by_cases hlt : k < l.length
    · obtain ⟨bb, bo, rfl, cx⟩ := (HL.out.then_ hB) k hlt
      have hs := keptFrom_snoc (n := D.length) (a := -1) hlt
      have hge := lastK_ge HKF.out hk
      have hes := keptE_snoc D hlt
      obtain ⟨x, hx⟩ : ∃ x, l.getD k 0 = x := ⟨_, rfl⟩
      rw [HKF.out, Bool.true_and, hx] at hs
      rw [hx] at cx hes
      have hla : k = 0 ∨ ∃ j, k = j + 1 ∧ lastK (-1) (l.take k) = l.getD j 0 := by
        rcases Nat.eq_zero_or_pos k with h | h
        · exact .inl h
        · obtain ⟨j, rfl⟩ : ∃ j, k = j + 1 := ⟨k - 1, by omega⟩
          exact .inr ⟨j, rfl, lastK_take (by omega)⟩
      have hla0 : k = 0 → lastK (-1) (l.take k) = -1 := fun h => by rw [h]; rfl
      obtain ⟨La, hLa⟩ : ∃ L, lastK (-1) (l.take k) = L := ⟨_, rfl⟩
      rw [hLa] at hs hge hla hla0
      have HS := Lib.hid hs
      have HLA := Lib.hid hla
      have HLA0 := Lib.hid hla0
      have hkk : (k : Int) < (l.length : Int) := by omega
      have hk0 : (0 : Int) ≤ (k : Int) := by omega
      clear hs hLa hla hla0 hx
      have g_0 := fun D os => cell_regrown cx D os
      have g_1 := fun D os => cell_regrown e2 D os
      by_cases a1 : x < 0
      · have t1 : decide (x < 0) = true := decide_eq_true a1
        clear hB
        go_wp2_with fail
        have HN := Lib.hid (keptFrom_take (a := -1) (k := k + 1) (by rw [HS.out]; simp; omega))
        refine wp_region_quiet_below (by kernel_rfl) (by kernel_rfl) ?_
        repeat (go_big_quiet_step (fail))
        refine wpQuiet_nil ?_
        intro wq hq0
        have hq := below_of_class hq0
        clear hq0
        obtain ⟨m0, m1, m2⟩ := And.intro (HVR.out.then_ hq).c0 (And.intro (HVR.out.then_ hq).c1 (HVR.out.then_ hq).c2)
        obtain ⟨f0, f1, f2⟩ := And.intro (HVR.out.then_ hq).f0 (And.intro (HVR.out.then_ hq).f1 (HVR.out.then_ hq).f2)
        have HBQ := Lib.hid (below_next HB.out hq)
        have hqs := hq.size
        clear o0 o1 o2 e2 cx hq
        go_wp2_with fail
        exact bodyPost_ret (v := .tuple #[.agg #[.int .i64 0, .int .i64 0, .slice none 0 0], .int .i64 50]) (by simp [results, Try.results27, go_sem, m0, m1, m2]) rfl ⟨fun h => (by rw [HN.out] at h; cases h), fun _ => ⟨rfl, ((HBQ.out.setCell (by dsimp only; omega) _).setCell (by dsimp only; omega) _).setCell (by dsimp only; omega) _⟩⟩
      have t1 : decide (x < 0) = false := decide_eq_false a1
      obtain ⟨m, rfl⟩ := Int.eq_ofNat_of_zero_le (show 0 ≤ x by omega)
      by_cases a2 : (D.length : Int) ≤ (m : Int)
      · have t2 : decide ((D.length : Int) ≤ (m : Int)) = true := decide_eq_true a2
        have t2' : decide (D.length ≤ m) = true := decide_eq_true (by omega)
        clear hB
        go_wp2_with fail
        have HN := Lib.hid (keptFrom_take (a := -1) (k := k + 1) (by rw [HS.out]; simp; omega))
        refine wp_region_quiet_below (by kernel_rfl) (by kernel_rfl) ?_
        repeat (go_big_quiet_step (fail))
        refine wpQuiet_nil ?_
        intro wq hq0
        have hq := below_of_class hq0
        clear hq0
        obtain ⟨m0, m1, m2⟩ := And.intro (HVR.out.then_ hq).c0 (And.intro (HVR.out.then_ hq).c1 (HVR.out.then_ hq).c2)
        obtain ⟨f0, f1, f2⟩ := And.intro (HVR.out.then_ hq).f0 (And.intro (HVR.out.then_ hq).f1 (HVR.out.then_ hq).f2)
        have HBQ := Lib.hid (below_next HB.out hq)
        have hqs := hq.size
        clear o0 o1 o2 e2 cx hq
        go_wp2_with fail
        exact bodyPost_ret (v := .tuple #[.agg #[.int .i64 0, .int .i64 0, .slice none 0 0], .int .i64 50]) (by simp [results, Try.results27, go_sem, m0, m1, m2]) rfl ⟨fun h => (by rw [HN.out] at h; cases h), fun _ => ⟨rfl, ((HBQ.out.setCell (by dsimp only; omega) _).setCell (by dsimp only; omega) _).setCell (by dsimp only; omega) _⟩⟩
      have t2 : decide ((D.length : Int) ≤ (m : Int)) = false := decide_eq_false a2
      have t2' : decide (D.length ≤ m) = false := decide_eq_false (by omega)
      obtain ⟨b, o, rfl, c0, c1, c2, c3⟩ := (HD.out.below hB) m (by omega)
      rw [Int.toNat_natCast] at hes
      obtain ⟨d, hd⟩ : ∃ d, dotAt D m = d := ⟨_, rfl⟩
      rw [hd] at hes c0 c1 c2 c3
      have HES := Lib.hid hes
      have hm0 : (0 : Int) ≤ (m : Int) := by omega
      have hm1 : (m : Int) < (D.length : Int) := by omega
      clear hd hes
      rcases HLA.out with hkj | ⟨j, hkj, hLj⟩
      · have hLz := HLA0.out hkj
        have t3 : decide ((0 : Int) < (k : Int)) = false := decide_eq_false (by omega)
        have t3' : decide (0 < k) = false := decide_eq_false (by omega)
        clear hB hkj
        go_wp2_with fail
        refine wp_region_quiet_below (by kernel_rfl) (by kernel_rfl) ?_
        repeat (go_big_quiet_step (fail))
        refine wpQuiet_nil ?_
        intro wq hq0
        have hq := below_of_class hq0
        clear hq0
        have HKT : Hid (keptFrom D.length (-1) (l.take (k + 1)) = true) := Lib.hid (by rw [HS.out]; rw [hLz]; simp; omega)
        have HBQ := Lib.hid (below_next HB.out hq)
        have HOQ := Lib.hid (own_then HOW.out hq)
        have HVQ := Lib.hid (HVO.out.then_ hq)
        have HRQ := Lib.hid (HVR.out.then_ hq)
        replace o0 := cell_then hq o0
        replace o1 := cell_then hq o1
        replace o2 := cell_then hq o2
        replace e2 := cell_then hq e2
        replace cx := cell_then hq cx
        replace c0 := cell_then hq c0
        replace c1 := cell_then hq c1
        replace c2 := cell_then hq c2
        replace c3 := cell_then hq c3
        have hqs := hq.size
        have fo := HVQ.out.f2
        have lo := lt_size o2
        have le := lt_size e2
        have lc := lt_size c0
        clear hq g_0 g_1 t1 t2 t2' t3 t3'
        go_wp2_with fail
        have hbw : b < w.heap.size := by
          obtain ⟨b', o', e', x', -⟩ := HD.out m (by omega)
          injection e' with e'
          injection e' with e1' e2'
          subst e1'
          exact lt_size x'
        have hbbw : bb < w.heap.size := by
          obtain ⟨b', o', e', x'⟩ := HL.out k hlt
          injection e' with e'
          injection e' with e1' e2'
          subst e1'
          exact lt_size x'
        go_region_law (first | (refine step_append1 (by rfl) _ _ 25 (by rfl) (gr + 1) 24 i0 _ 4 32 Try.underlying25 HI.out.1 HI.out.2.1 HI.out.2.2.1 HI.out.2.2.2 rfl (by omega) (by omega) v k _ (by rfl) ((HOQ.out.alloc _).drew) wq.heap.size [.int .i64 d.x, .int .i64 d.y, .int .i64 d.t, .int .i64 d.p] (by rfl) rfl (fun j u h => by rw [World.cell?_drew]; exact new_cell (by simpa using h)) (by simp [Value.oneCell']) (by omega) (by simp; omega) ?_; intro g' c' w' own' k' n'; have KB := k'.below (B := gr + 1) (by simp; omega) (fun q hq => (HOQ.out.lt q (own_mem hq)).1); have y2 : w'.cell? ⟨gr, 2, none⟩ = some v := (KB.cell (p := ⟨gr, 2, none⟩) (by dsimp only; omega)).trans (drew_cell (keep_alloc _ o2)); have HV2 := Lib.hid (var3_under ((HVQ.out.alloc _).drew) KB (by omega)); have g2 := HV2.out.f2; have OW := Lib.hid own'; have HKB := Lib.hid KB; have hgn := Lib.hid (own'.lt g' rfl).1; clear own' k' n' KB; have Y := And.intro ((HKB.out.cell (p := ⟨w.heap.size, 2, none⟩) (by dsimp only; omega)).trans (drew_cell (keep_alloc _ e2))) (And.intro ((HKB.out.cell (p := ⟨bb, bo + k, none⟩) (by dsimp only; omega)).trans (drew_cell (keep_alloc _ cx))) (And.intro ((HKB.out.cell (p := ⟨b, o + m * 4, none⟩) (by dsimp only; omega)).trans (drew_cell (keep_alloc _ c0))) (And.intro ((HKB.out.cell (p := ⟨b, o + m * 4 + 1, none⟩) (by dsimp only; omega)).trans (drew_cell (keep_alloc _ c1))) (And.intro ((HKB.out.cell (p := ⟨b, o + m * 4 + 2, none⟩) (by dsimp only; omega)).trans (drew_cell (keep_alloc _ c2))) ((HKB.out.cell (p := ⟨b, o + m * 4 + 3, none⟩) (by dsimp only; omega)).trans (drew_cell (keep_alloc _ c3)))))))))
        all_goals
          have KB := HKB.out
          go_wp2_with fail
          refine ⟨⟨k + 1, _, by omega, by go_num, HKT.out, ?_, cell_off _ ((KB.cell (p := ⟨gr, 0, none⟩) (by dsimp only; omega)).trans (drew_cell (keep_alloc _ o0))) (by omega), cell_off _ ((KB.cell (p := ⟨gr, 1, none⟩) (by dsimp only; omega)).trans (drew_cell (keep_alloc _ o1))) (by omega), set_same6 y2, HV2.out.set_ _ _, (var3_under ((HRQ.out.alloc _).drew) KB (by omega)).set_ _ _, cell_set _ ((KB.cell (p := ⟨w.heap.size, 2, none⟩) (by dsimp only; omega)).trans (drew_cell (keep_alloc _ e2))) (by dsimp only; omega), (((below_alloc HBQ.out _).drew).trans (KB.mono (by omega))).setCell (by dsimp only; omega) _⟩, by simp [intOf]; omega⟩
          rw [HES.out, dcells_append]
          exact own_set OW.out (fun h => by have h2 : g' = gr := Option.some.inj h; have := hgn.out; omega) _
      · obtain ⟨bb', bo', hbb, cy⟩ := (HL.out.then_ hB) j (by omega)
        cases hbb
        obtain ⟨y, hy⟩ : ∃ y, l.getD j 0 = y := ⟨_, rfl⟩
        rw [hy] at cy hLj
        have t3 : decide ((0 : Int) < (k : Int)) = true := decide_eq_true (by omega)
        have t3' : decide (0 < k) = true := decide_eq_true (by omega)
        have t4 : IntKind.i64.wrap ((k : Int) - 1) = (j : Int) := by rw [show (k : Int) - 1 = (j : Int) by omega]; exact IntWalk.i64_in _ (by omega)
        have hj0 : (0 : Int) ≤ (j : Int) := by omega
        have hj1 : (j : Int) < (l.length : Int) := by omega
        have g_2 := fun D os => cell_regrown cy D os
        clear hy hB hkj
        by_cases a3 : (m : Int) ≤ y
        · have t5 : decide ((m : Int) ≤ y) = true := decide_eq_true a3
          go_wp2_with fail
          have HN := Lib.hid (keptFrom_take (a := -1) (k := k + 1) (by rw [HS.out]; rw [hLj]; simp; omega))
          refine wp_region_quiet_below (by kernel_rfl) (by kernel_rfl) ?_
          repeat (go_big_quiet_step (fail))
          refine wpQuiet_nil ?_
          intro wq hq0
          have hq := below_of_class hq0
          clear hq0
          obtain ⟨m0, m1, m2⟩ := And.intro (HVR.out.then_ hq).c0 (And.intro (HVR.out.then_ hq).c1 (HVR.out.then_ hq).c2)
          obtain ⟨f0, f1, f2⟩ := And.intro (HVR.out.then_ hq).f0 (And.intro (HVR.out.then_ hq).f1 (HVR.out.then_ hq).f2)
          have HBQ := Lib.hid (below_next HB.out hq)
          have hqs := hq.size
          clear o0 o1 o2 e2 cx hq
          go_wp2_with fail
          exact bodyPost_ret (v := .tuple #[.agg #[.int .i64 0, .int .i64 0, .slice none 0 0], .int .i64 50]) (by simp [results, Try.results27, go_sem, m0, m1, m2]) rfl ⟨fun h => (by rw [HN.out] at h; cases h), fun _ => ⟨rfl, ((HBQ.out.setCell (by dsimp only; omega) _).setCell (by dsimp only; omega) _).setCell (by dsimp only; omega) _⟩⟩
        have t5 : decide ((m : Int) ≤ y) = false := decide_eq_false a3
        go_wp2_with fail
        refine wp_region_quiet_below (by kernel_rfl) (by kernel_rfl) ?_
        repeat (go_big_quiet_step (fail))
        refine wpQuiet_nil ?_
        intro wq hq0
        have hq := below_of_class hq0
        clear hq0
        have HKT : Hid (keptFrom D.length (-1) (l.take (k + 1)) = true) := Lib.hid (by rw [HS.out]; rw [hLj]; simp; omega)
        have HBQ := Lib.hid (below_next HB.out hq)
        have HOQ := Lib.hid (own_then HOW.out hq)
        have HVQ := Lib.hid (HVO.out.then_ hq)
        have HRQ := Lib.hid (HVR.out.then_ hq)
        replace o0 := cell_then hq o0
        replace o1 := cell_then hq o1
        replace o2 := cell_then hq o2
        replace e2 := cell_then hq e2
        replace cx := cell_then hq cx
        replace c0 := cell_then hq c0
        replace c1 := cell_then hq c1
        replace c2 := cell_then hq c2
        replace c3 := cell_then hq c3
        have hqs := hq.size
        have fo := HVQ.out.f2
        have lo := lt_size o2
        have le := lt_size e2
        have lc := lt_size c0
        clear hq g_0 g_1 g_2 t1 t2 t2' t3 t3' t4 t5
        go_wp2_with fail
        have hbw : b < w.heap.size := by
          obtain ⟨b', o', e', x', -⟩ := HD.out m (by omega)
          injection e' with e'
          injection e' with e1' e2'
          subst e1'
          exact lt_size x'
        have hbbw : bb < w.heap.size := by
          obtain ⟨b', o', e', x'⟩ := HL.out k hlt
          injection e' with e'
          injection e' with e1' e2'
          subst e1'
          exact lt_size x'
        go_region_law (first | (refine step_append1 (by rfl) _ _ 25 (by rfl) (gr + 1) 24 i0 _ 4 32 Try.underlying25 HI.out.1 HI.out.2.1 HI.out.2.2.1 HI.out.2.2.2 rfl (by omega) (by omega) v k _ (by rfl) ((HOQ.out.alloc _).drew) wq.heap.size [.int .i64 d.x, .int .i64 d.y, .int .i64 d.t, .int .i64 d.p] (by rfl) rfl (fun j u h => by rw [World.cell?_drew]; exact new_cell (by simpa using h)) (by simp [Value.oneCell']) (by omega) (by simp; omega) ?_; intro g' c' w' own' k' n'; have KB := k'.below (B := gr + 1) (by simp; omega) (fun q hq => (HOQ.out.lt q (own_mem hq)).1); have y2 : w'.cell? ⟨gr, 2, none⟩ = some v := (KB.cell (p := ⟨gr, 2, none⟩) (by dsimp only; omega)).trans (drew_cell (keep_alloc _ o2)); have HV2 := Lib.hid (var3_under ((HVQ.out.alloc _).drew) KB (by omega)); have g2 := HV2.out.f2; have OW := Lib.hid own'; have HKB := Lib.hid KB; have hgn := Lib.hid (own'.lt g' rfl).1; clear own' k' n' KB; have Y := And.intro ((HKB.out.cell (p := ⟨w.heap.size, 2, none⟩) (by dsimp only; omega)).trans (drew_cell (keep_alloc _ e2))) (And.intro ((HKB.out.cell (p := ⟨bb, bo + k, none⟩) (by dsimp only; omega)).trans (drew_cell (keep_alloc _ cx))) (And.intro ((HKB.out.cell (p := ⟨b, o + m * 4, none⟩) (by dsimp only; omega)).trans (drew_cell (keep_alloc _ c0))) (And.intro ((HKB.out.cell (p := ⟨b, o + m * 4 + 1, none⟩) (by dsimp only; omega)).trans (drew_cell (keep_alloc _ c1))) (And.intro ((HKB.out.cell (p := ⟨b, o + m * 4 + 2, none⟩) (by dsimp only; omega)).trans (drew_cell (keep_alloc _ c2))) ((HKB.out.cell (p := ⟨b, o + m * 4 + 3, none⟩) (by dsimp only; omega)).trans (drew_cell (keep_alloc _ c3)))))))))
        all_goals
          have KB := HKB.out
          go_wp2_with fail
          refine ⟨⟨k + 1, _, by omega, by go_num, HKT.out, ?_, cell_off _ ((KB.cell (p := ⟨gr, 0, none⟩) (by dsimp only; omega)).trans (drew_cell (keep_alloc _ o0))) (by omega), cell_off _ ((KB.cell (p := ⟨gr, 1, none⟩) (by dsimp only; omega)).trans (drew_cell (keep_alloc _ o1))) (by omega), set_same6 y2, HV2.out.set_ _ _, (var3_under ((HRQ.out.alloc _).drew) KB (by omega)).set_ _ _, cell_set _ ((KB.cell (p := ⟨w.heap.size, 2, none⟩) (by dsimp only; omega)).trans (drew_cell (keep_alloc _ e2))) (by dsimp only; omega), (((below_alloc HBQ.out _).drew).trans (KB.mono (by omega))).setCell (by dsimp only; omega) _⟩, by simp [intOf]; omega⟩
          rw [HES.out, dcells_append]
          exact own_set OW.out (fun h => by have h2 : g' = gr := Option.some.inj h; have := hgn.out; omega) _
    · obtain rfl : k = l.length := by omega
      have hkf := HKF.out
      have hown := HOW.out
      rw [List.take_length] at hkf hown
      obtain ⟨g7, c7, rfl, hgw7, -⟩ := hown.form (by omega)
      have HKF2 := Lib.hid hkf
      have HOW2 := Lib.hid hown
      obtain ⟨m0, m1, m2⟩ := And.intro HVR.out.c0 (And.intro HVR.out.c1 HVR.out.c2)
      obtain ⟨z0, z1, z2⟩ := And.intro HVR.out.f0 (And.intro HVR.out.f1 HVR.out.f2)
      have hkk : ¬ (l.length : Int) < (l.length : Int) := by omega
      clear hkf hown hB HOW HKF hlt
      go_wp2_with fail
      exact bodyPost_ret (v := .tuple #[.agg #[.int .i64 P, .int .i64 N, .slice (some ⟨g7, 0, none⟩) l.length c7], .int .i64 0]) (by simp [results, Try.results27, go_sem, m0, m1, m2]) rfl ⟨fun _ => out_end HOW2.out (keptE_length D l) (by omega) (by omega) HB.out, fun h => (by rw [HKF2.out] at h; cases h)⟩
end Go.Proofs.Ytgmabepdhbnppaa
