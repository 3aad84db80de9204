/- Package group: Dissolve, refused. Package group: Collapse, refused. -/
import Derived.Test.YtebfenkjipaedaaGrpDis
import Derived.Test.YtebfenkjipaedaaGrpCol2
namespace Go.Proofs.Ytebfenkjipaedaa.Gr
open Go.RowKit Gp Go.Sort
attribute [local go_sem] Oper.semAt_some
set_option maxRecDepth 100000 in
set_option maxHeartbeats 4000000 in
theorem dissolve_bad (A : Option Addr) (c : Nat) (l : List Grp) (id : Int) (w : World) (hG : GrpsAt w A l) (hS : Sized l) (hv : ¬ Valid l) (hi : I64 id) :
    Calls Try.prog 24 #[.slice A l.length c, .int .i64 id] w fun e w' => e = .returned (.tuple #[.slice none 0 0, .int .i64 130]) ∧ Below w.heap.size w w' := by
  have HR := Lib.hid (read_any A c l w hG hS)
  have HI := Lib.hid hi
  have HV := Lib.hid hv
  have HG := Lib.hid hG
  clear hG hS hv hi
  go_enter Try.func24, Try.ntmps24
  go_wp2_with fail
  refine HR.out.mono ?_
  rintro e w1 ⟨m, o, b, f, f', rfl, hb1, hbv, h1, h2, _, hff⟩
  obtain ⟨m, rfl⟩ := h1.shape
  obtain ⟨o, rfl⟩ := h2.shape
  cases b with
  | true => exact absurd (hbv.1 rfl) HV.out
  | false =>
  have B1 := Lib.hid hb1
  have hx2 := h1.then_ (below_alloc (Below.refl _ _) (.cells #[.map m, .map o] 73))
  have hlk := hx2.look_ok gmap_u (grp_zero _) HI.out
  obtain ⟨g, A', n', c', hg1, hg2⟩ : ∃ g A' n' c', (f id).getD (gv g0) = gv g ∧ g.v = .slice A' n' c' := by
    rcases hff with h | h
    · exact ⟨g0, _, _, _, by rw [h]; rfl, rfl⟩
    · obtain ⟨A', n', c', h'⟩ := found_slice HG.out id
      exact ⟨_, _, _, _, by rw [h, gv_of], h'⟩
  rw [hg1, gv, hg2] at hlk
  obtain ⟨kn, hkn⟩ : ∃ kn, (f id).isSome = kn := ⟨_, rfl⟩
  rw [hkn] at hlk
  unfold iv
  clear h1 h2 hb1 hbv hx2 hff hg1 hg2 hkn
  go_wp2_with fail
  (first | refine bodyPost_ret (results_tmp2 rfl _ _ _) rfl ?_ | refine bodyPost_end (results_tmp2 rfl _ _ _) rfl ?_)
  exact ⟨rfl, below_alloc (below_alloc B1.out _) _⟩
set_option maxRecDepth 100000 in
set_option maxHeartbeats 4000000 in
theorem dissolve_none (A : Option Addr) (c : Nat) (l : List Grp) (id : Int) (w : World) (hG : GrpsAt w A l) (hS : Sized l) (hv : Valid l) (hi : I64 id) (hk : (find l id).isSome = false) :
    Calls Try.prog 24 #[.slice A l.length c, .int .i64 id] w fun e w' => e = .returned (.tuple #[.slice none 0 0, .int .i64 130]) ∧ Below w.heap.size w w' := by
  have HR := Lib.hid (read_yes A c l w hG hS hv)
  have HI := Lib.hid hi
  have HK := Lib.hid hk
  clear hG hS hv hi hk
  go_enter Try.func24, Try.ntmps24
  go_wp2_with fail
  refine HR.out.mono ?_
  rintro e w1 ⟨m, o, rfl, hx, hb1⟩
  have B1 := Lib.hid hb1
  have hlk := (hx.then_ (below_alloc (Below.refl _ _) (.cells #[.map m, .map o] 73))).g.look_ok gmap_u (grp_zero _) HI.out
  rw [gv_of, Option.isSome_map, HK.out, show find l id = none by simpa using HK.out] at hlk
  unfold iv
  simp only [Option.getD_none, gv, g0] at hlk
  clear hx hb1
  go_wp2_with fail
  (first | refine bodyPost_ret (results_tmp2 rfl _ _ _) rfl ?_ | refine bodyPost_end (results_tmp2 rfl _ _ _) rfl ?_)
  exact ⟨rfl, below_alloc (below_alloc B1.out _) _⟩
theorem dissolve_no (A : Option Addr) (c : Nat) (l : List Grp) (id : Int) (w : World) (hG : GrpsAt w A l) (hS : Sized l) (hi : I64 id) (hv : ¬ (Valid l ∧ (find l id).isSome = true)) :
    Calls Try.prog 24 #[.slice A l.length c, .int .i64 id] w fun e w' => e = .returned (.tuple #[.slice none 0 0, .int .i64 130]) ∧ Below w.heap.size w w' := by
  by_cases h : Valid l
  · exact dissolve_none A c l id w hG hS h hi (by cases hk : (find l id).isSome with | false => rfl | true => exact absurd ⟨h, hk⟩ hv)
  · exact dissolve_bad A c l id w hG hS h hi
end Go.Proofs.Ytebfenkjipaedaa.Gr
namespace Go.Proofs.Ytebfenkjipaedaa.Gr
open Go.RowKit Gp Go.Sort
attribute [local go_sem] Oper.semAt_some
theorem store_nil (w : World) (t : TypeId) : (store ⟨w.heap.size, 0, none⟩ .nilFunc).run Try.prog (w.alloc (.cells #[.nilFunc] t)) = .ok () (w.alloc (.cells #[.nilFunc] t)) := by
  rw [run_store _ _ _ _ _ rfl]
  simp [go_sem]
/-- a net of nothing -/
def nz : Value := nv (.slice none 0 0) (.slice none 0 0)
/-- the variables of Collapse -/
structure ColS (w : World) (b5 r6 r7 : Nat) (d x : Value) (W : World) : Prop where
  bel : Below w.heap.size w W
  c0 : W.cell? ⟨b5, 0, none⟩ = some d
  c1 : W.cell? ⟨b5, 1, none⟩ = some x
  r6 : W.heap[r6]? = some (.cells #[.slice none 0 0, .slice none 0 0] 36 (0, 0))
  r7 : W.heap[r7]? = some (.cells #[.slice none 0 0, .slice none 0 0] 36 (0, 0))
theorem ColS.then_ {w W W' : World} {b5 r6 r7 : Nat} {d x : Value} (h : ColS w b5 r6 r7 d x W) (hb : Below W.heap.size W W') : ColS w b5 r6 r7 d x W' :=
  ⟨below_next h.bel hb, cell_then hb h.c0, cell_then hb h.c1, (Kept.of_below hb).heap h.r6 (by simp), (Kept.of_below hb).heap h.r7 (by simp)⟩
theorem col_start (w : World) (d x : Value) : ColS w w.heap.size (w.heap.size + 1) (w.heap.size + 1 + 1) d x (((w.alloc (.cells #[d, x] 36)).alloc (.cells #[.slice none 0 0, .slice none 0 0] 36)).alloc (.cells #[.slice none 0 0, .slice none 0 0] 36)) := by
  have h5 := World.alloc_heap_new w (.cells #[d, x] 36)
  have h6 := World.alloc_heap_new (w.alloc (.cells #[d, x] 36)) (.cells #[.slice none 0 0, .slice none 0 0] 36)
  have h7 := World.alloc_heap_new ((w.alloc (.cells #[d, x] 36)).alloc (.cells #[.slice none 0 0, .slice none 0 0] 36)) (.cells #[.slice none 0 0, .slice none 0 0] 36)
  rw [World.size_alloc] at h6
  rw [World.size_alloc, World.size_alloc] at h7
  have h5' := heap_alloc (heap_alloc h5 (.cells #[.slice none 0 0, .slice none 0 0] 36)) (.cells #[.slice none 0 0, .slice none 0 0] 36)
  exact ⟨below_alloc (below_alloc (below_alloc (Below.refl _ _) _) _) _, (cells2 h5').1, (cells2 h5').2, heap_alloc h6 _, h7⟩
theorem nil_set {W : World} {g : Nat} {t : TypeId} {i : Nat} (hi : i < 2) (h : W.heap[g]? = some (.cells #[.slice none 0 0, .slice none 0 0] t (0, 0))) : (W.setCell ⟨g, i, none⟩ (.slice none 0 0)).heap[g]? = some (.cells #[.slice none 0 0, .slice none 0 0] t (0, 0)) := by
  rw [heap_setCell_same W g i _ t _ h]
  rcases (show i = 0 ∨ i = 1 by omega) with rfl | rfl <;> rfl
/-- a return of nothing -/
theorem col_leave {w W : World} {b5 r6 r7 : Nat} {d x : Value} {tmps : Array Value} {df : List Deferred} (h : ColS w b5 r6 r7 d x W) (h6 : tmps[6]? = some (.pointer (some ⟨r6, 0, none⟩))) (h7 : tmps[7]? = some (.pointer (some ⟨r7, 0, none⟩))) (h8 : tmps[8]? = some (.int .i64 130)) (hne : w.heap.size ≤ r6 ∧ r6 < r7) (hd : df = []) :
    bodyPost Try.prog Try.f29 (fun e w' => e = .returned (.tuple #[nz, nz, .int .i64 130]) ∧ Below w.heap.size w w') Exit.ret { tmps := tmps, defers := df }
      ((((W.setCell ⟨r6, 0, none⟩ (.slice none 0 0)).setCell ⟨r6, 1, none⟩ (.slice none 0 0)).setCell ⟨r7, 0, none⟩ (.slice none 0 0)).setCell ⟨r7, 1, none⟩ (.slice none 0 0)) := by
  subst hd
  have q6 := heap_setCell (p := ⟨r7, 1, none⟩) (heap_setCell (p := ⟨r7, 0, none⟩) (nil_set (i := 1) (by omega) (nil_set (i := 0) (by omega) h.r6)) (by dsimp only; omega) (.slice none 0 0)) (by dsimp only; omega) (.slice none 0 0)
  have q7 := nil_set (i := 1) (by omega) (nil_set (i := 0) (by omega) (heap_setCell (p := ⟨r6, 1, none⟩) (heap_setCell (p := ⟨r6, 0, none⟩) h.r7 (by dsimp only; omega) (.slice none 0 0)) (by dsimp only; omega) (.slice none 0 0)))
  have hb := (((h.bel.setCell (p := ⟨r6, 0, none⟩) (by dsimp only; omega) (.slice none 0 0)).setCell (p := ⟨r6, 1, none⟩) (by dsimp only; omega) (.slice none 0 0)).setCell (p := ⟨r7, 0, none⟩) (by dsimp only; omega) (.slice none 0 0)).setCell (p := ⟨r7, 1, none⟩) (by dsimp only; omega) (.slice none 0 0)
  obtain ⟨V, hV⟩ : ∃ V, ((((W.setCell ⟨r6, 0, none⟩ (.slice none 0 0)).setCell ⟨r6, 1, none⟩ (.slice none 0 0)).setCell ⟨r7, 0, none⟩ (.slice none 0 0)).setCell ⟨r7, 1, none⟩ (.slice none 0 0)) = V := ⟨_, rfl⟩
  rw [hV] at q6 q7 hb ⊢
  obtain ⟨y0, y1⟩ := cells2 q6
  obtain ⟨z0, z1⟩ := cells2 q7
  refine bodyPost_ret (v := .tuple #[nz, nz, .int .i64 130]) (by unfold nz nv; simp [results, Try.results29, h6, h7, h8, y0, y1, z0, z1, asAddr, Result.andThen, go_sem]) rfl ⟨rfl, hb⟩

set_option maxRecDepth 100000 in
set_option maxHeartbeats 4000000 in
theorem collapse_bad (A : Option Addr) (c : Nat) (l : List Grp) (id : Int) (d x : Value) (w : World) (hG : GrpsAt w A l) (hS : Sized l) (hi : I64 id) (hv : ¬ (Valid l ∧ (find l id).isSome = true)) :
    Calls Try.prog 29 #[.slice A l.length c, .int .i64 id, nv d x] w fun e w' => e = .returned (.tuple #[nz, nz, .int .i64 130]) ∧ Below w.heap.size w w' := by
  have HST := Lib.hid (col_start w d x)
  have HIS := Lib.hid (fun W (hB : Below w.heap.size w W) => inside_no A c l id W (hG.then_ hB) hS hi hv)
  clear hG hS hi hv
  unfold nv
  go_enter Try.func29, Try.ntmps29
  go_wp2_with fail
  obtain ⟨W0, hW0⟩ : ∃ W0, (((w.alloc (.cells #[d, x] 36)).alloc (.cells #[.slice none 0 0, .slice none 0 0] 36)).alloc (.cells #[.slice none 0 0, .slice none 0 0] 36)) = W0 := ⟨_, rfl⟩
  rw [hW0] at HST ⊢
  obtain ⟨b5, hb5⟩ : ∃ b5, w.heap.size = b5 := ⟨_, rfl⟩
  obtain ⟨r6, hr6⟩ : ∃ r6, w.heap.size + 1 = r6 := ⟨_, rfl⟩
  obtain ⟨r7, hr7⟩ : ∃ r7, w.heap.size + 1 + 1 = r7 := ⟨_, rfl⟩
  have HRB := Lib.hid (show b5 < r6 ∧ r6 < r7 ∧ w.heap.size ≤ b5 by omega)
  have HC := Lib.hid (show ColS w b5 r6 r7 d x W0 by rw [← hr7, ← hr6, ← hb5]; exact HST.out)
  rw [hr7, hr6, hb5]
  clear hW0 hb5 hr6 hr7 HST
  refine (HIS.out _ HC.out.bel).mono ?_
  rintro e w1 ⟨rfl, hb1⟩
  have HC := Lib.hid (HC.out.then_ (below_alloc hb1 (.cells #[.nilFunc] 78)))
  have hst := store_nil w1 78
  clear hb1

  have HCw := HC
  obtain ⟨p0, p1⟩ := cells2 HC.out.r6
  obtain ⟨q0, q1⟩ := cells2 HC.out.r7
  have t0 := frozen_of_row _ r6 0 _ _ HC.out.r6
  have t1 := frozen_of_row _ r6 1 _ _ HC.out.r6
  have t2 := frozen_of_row _ r7 0 _ _ HC.out.r7
  have t3 := frozen_of_row _ r7 1 _ _ HC.out.r7
  obtain ⟨hr1, hr2, hr3⟩ := HRB.out
  go_wp2_with fail
  exact col_leave HC.out rfl rfl rfl ⟨by omega, hr2⟩ rfl
set_option maxRecDepth 100000 in
set_option maxHeartbeats 4000000 in
theorem collapse_flatw (A : Option Addr) (c : Nat) (l : List Grp) (id : Int) (D : Option Addr) (cd : Nat) (ds : List Dev) (B : Option Addr) (cb : Nat) (ws : List Wir) (w : World) (hG : GrpsAt w A l) (hS : Sized l) (hi : I64 id) (hv : Valid l) (hk : (find l id).isSome = true) (hW : WirsAt w B ws) (hWL : ws.length ≤ 1000) (hr : riseB (ws.map (·.code)) = false) :
    Calls Try.prog 29 #[.slice A l.length c, .int .i64 id, nv (.slice D ds.length cd) (.slice B ws.length cb)] w fun e w' => e = .returned (.tuple #[nz, nz, .int .i64 130]) ∧ Below w.heap.size w w' := by
  have HST := Lib.hid (col_start w (.slice D ds.length cd) (.slice B ws.length cb))
  have HIS := Lib.hid (fun W (hB : Below w.heap.size w W) => inside_yes A c l id W (hG.then_ hB) hS hv hi hk)
  have HRI := Lib.hid (fun W (hB : Below w.heap.size w W) => w_rising B cb ws W (hW.then_ hB) hWL)
  have HR := Lib.hid hr
  clear hG hS hi hv hk hW hr
  unfold nv
  go_enter Try.func29, Try.ntmps29
  go_wp2_with fail
  obtain ⟨W0, hW0⟩ : ∃ W0, (((w.alloc (.cells #[(.slice D ds.length cd), (.slice B ws.length cb)] 36)).alloc (.cells #[.slice none 0 0, .slice none 0 0] 36)).alloc (.cells #[.slice none 0 0, .slice none 0 0] 36)) = W0 := ⟨_, rfl⟩
  rw [hW0] at HST ⊢
  obtain ⟨b5, hb5⟩ : ∃ b5, w.heap.size = b5 := ⟨_, rfl⟩
  obtain ⟨r6, hr6⟩ : ∃ r6, w.heap.size + 1 = r6 := ⟨_, rfl⟩
  obtain ⟨r7, hr7⟩ : ∃ r7, w.heap.size + 1 + 1 = r7 := ⟨_, rfl⟩
  have HRB := Lib.hid (show b5 < r6 ∧ r6 < r7 ∧ w.heap.size ≤ b5 by omega)
  have HC := Lib.hid (show ColS w b5 r6 r7 (.slice D ds.length cd) (.slice B ws.length cb) W0 by rw [← hr7, ← hr6, ← hb5]; exact HST.out)
  rw [hr7, hr6, hb5]
  clear hW0 hb5 hr6 hr7 HST
  refine (HIS.out _ HC.out.bel).mono ?_
  rintro e w1 ⟨b6, b3, m, o, rfl, hin, hb1⟩
  have HC := Lib.hid (HC.out.then_ hb1)
  have hbl : b5 < w1.heap.size := lt_size HC.out.c0
  have c0 := HC.out.c0
  have c1 := HC.out.c1
  have hst := store_func w1 (.func 59) #[] #[.pointer (some ⟨b6, 0, none⟩), .pointer (some ⟨b3, 0, none⟩)] 78
  have HCn := Lib.hid (HC.out.then_ (below_alloc (Below.refl _ _) (.cells #[.func (.func 59) #[] #[.pointer (some ⟨b6, 0, none⟩), .pointer (some ⟨b3, 0, none⟩)]] 78)))
  clear hin hb1 HC
  go_wp2_with fail
  clear hst c0 c1 hbl
  refine (HRI.out _ HCn.out.bel).mono ?_
  rintro e w2 ⟨rfl, hb2⟩
  rw [HR.out]
  have HC := Lib.hid (HCn.out.then_ hb2)
  clear hb2 HCn
  obtain ⟨p0, p1⟩ := cells2 HC.out.r6
  obtain ⟨q0, q1⟩ := cells2 HC.out.r7
  have t0 := frozen_of_row _ r6 0 _ _ HC.out.r6
  have t1 := frozen_of_row _ r6 1 _ _ HC.out.r6
  have t2 := frozen_of_row _ r7 0 _ _ HC.out.r7
  have t3 := frozen_of_row _ r7 1 _ _ HC.out.r7
  obtain ⟨hr1, hr2, hr3⟩ := HRB.out
  go_wp2_with fail
  exact col_leave HC.out rfl rfl rfl ⟨by omega, hr2⟩ rfl
set_option maxRecDepth 100000 in
set_option maxHeartbeats 4000000 in
theorem collapse_flatd (A : Option Addr) (c : Nat) (l : List Grp) (id : Int) (D : Option Addr) (cd : Nat) (ds : List Dev) (B : Option Addr) (cb : Nat) (ws : List Wir) (w : World) (hG : GrpsAt w A l) (hS : Sized l) (hi : I64 id) (hv : Valid l) (hk : (find l id).isSome = true) (hW : WirsAt w B ws) (hWL : ws.length ≤ 1000) (hr : riseB (ws.map (·.code)) = true) (hD : DevsAt w D ds) (hDL : ds.length ≤ 1000) (hr2 : riseB (ds.map (·.code)) = false) :
    Calls Try.prog 29 #[.slice A l.length c, .int .i64 id, nv (.slice D ds.length cd) (.slice B ws.length cb)] w fun e w' => e = .returned (.tuple #[nz, nz, .int .i64 130]) ∧ Below w.heap.size w w' := by
  have HST := Lib.hid (col_start w (.slice D ds.length cd) (.slice B ws.length cb))
  have HIS := Lib.hid (fun W (hB : Below w.heap.size w W) => inside_yes A c l id W (hG.then_ hB) hS hv hi hk)
  have HRI := Lib.hid (fun W (hB : Below w.heap.size w W) => w_rising B cb ws W (hW.then_ hB) hWL)
  have HR := Lib.hid hr
  have HRD := Lib.hid (fun W (hB : Below w.heap.size w W) => d_rising D cd ds W (hD.then_ hB) hDL)
  have HR2 := Lib.hid hr2
  clear hD hr2
  clear hG hS hi hv hk hW hr
  unfold nv
  go_enter Try.func29, Try.ntmps29
  go_wp2_with fail
  obtain ⟨W0, hW0⟩ : ∃ W0, (((w.alloc (.cells #[(.slice D ds.length cd), (.slice B ws.length cb)] 36)).alloc (.cells #[.slice none 0 0, .slice none 0 0] 36)).alloc (.cells #[.slice none 0 0, .slice none 0 0] 36)) = W0 := ⟨_, rfl⟩
  rw [hW0] at HST ⊢
  obtain ⟨b5, hb5⟩ : ∃ b5, w.heap.size = b5 := ⟨_, rfl⟩
  obtain ⟨r6, hr6⟩ : ∃ r6, w.heap.size + 1 = r6 := ⟨_, rfl⟩
  obtain ⟨r7, hr7⟩ : ∃ r7, w.heap.size + 1 + 1 = r7 := ⟨_, rfl⟩
  have HRB := Lib.hid (show b5 < r6 ∧ r6 < r7 ∧ w.heap.size ≤ b5 by omega)
  have HC := Lib.hid (show ColS w b5 r6 r7 (.slice D ds.length cd) (.slice B ws.length cb) W0 by rw [← hr7, ← hr6, ← hb5]; exact HST.out)
  rw [hr7, hr6, hb5]
  clear hW0 hb5 hr6 hr7 HST
  refine (HIS.out _ HC.out.bel).mono ?_
  rintro e w1 ⟨b6, b3, m, o, rfl, hin, hb1⟩
  have HC := Lib.hid (HC.out.then_ hb1)
  have hbl : b5 < w1.heap.size := lt_size HC.out.c0
  have c0 := HC.out.c0
  have c1 := HC.out.c1
  have hst := store_func w1 (.func 59) #[] #[.pointer (some ⟨b6, 0, none⟩), .pointer (some ⟨b3, 0, none⟩)] 78
  have HCn := Lib.hid (HC.out.then_ (below_alloc (Below.refl _ _) (.cells #[.func (.func 59) #[] #[.pointer (some ⟨b6, 0, none⟩), .pointer (some ⟨b3, 0, none⟩)]] 78)))
  clear hin hb1 HC
  go_wp2_with fail
  clear hst c0 c1 hbl
  refine (HRI.out _ HCn.out.bel).mono ?_
  rintro e w2 ⟨rfl, hb2⟩
  rw [HR.out]
  have HC := Lib.hid (HCn.out.then_ hb2)
  clear hb2 HCn
  have c0 := HC.out.c0
  have c1 := HC.out.c1
  go_wp2_with fail
  clear c0 c1
  refine (HRD.out _ HC.out.bel).mono ?_
  rintro e w3 ⟨rfl, hb3⟩
  rw [HR2.out]
  have HC := Lib.hid (HC.out.then_ hb3)
  clear hb3
  obtain ⟨p0, p1⟩ := cells2 HC.out.r6
  obtain ⟨q0, q1⟩ := cells2 HC.out.r7
  have t0 := frozen_of_row _ r6 0 _ _ HC.out.r6
  have t1 := frozen_of_row _ r6 1 _ _ HC.out.r6
  have t2 := frozen_of_row _ r7 0 _ _ HC.out.r7
  have t3 := frozen_of_row _ r7 1 _ _ HC.out.r7
  obtain ⟨hr1, hr2, hr3⟩ := HRB.out
  go_wp2_with fail
  exact col_leave HC.out rfl rfl rfl ⟨by omega, hr2⟩ rfl
theorem collapse_no (A : Option Addr) (c : Nat) (l : List Grp) (id : Int) (D : Option Addr) (cd : Nat) (ds : List Dev) (B : Option Addr) (cb : Nat) (ws : List Wir) (w : World) (hG : GrpsAt w A l) (hS : Sized l) (hi : I64 id)
    (hD : DevsAt w D ds) (hDL : ds.length ≤ 1000) (hW : WirsAt w B ws) (hWL : ws.length ≤ 1000)
    (hv : ¬ ((Valid l ∧ (find l id).isSome = true) ∧ riseB (ws.map (·.code)) = true ∧ riseB (ds.map (·.code)) = true)) :
    Calls Try.prog 29 #[.slice A l.length c, .int .i64 id, nv (.slice D ds.length cd) (.slice B ws.length cb)] w fun e w' => e = .returned (.tuple #[nz, nz, .int .i64 130]) ∧ Below w.heap.size w w' := by
  by_cases h : Valid l ∧ (find l id).isSome = true
  · cases hr : riseB (ws.map (·.code)) with
    | false => exact collapse_flatw A c l id D cd ds B cb ws w hG hS hi h.1 h.2 hW hWL hr
    | true =>
      cases hr2 : riseB (ds.map (·.code)) with
      | false => exact collapse_flatd A c l id D cd ds B cb ws w hG hS hi h.1 h.2 hW hWL hr hD hDL hr2
      | true => exact absurd ⟨h, hr, hr2⟩ hv
  · exact collapse_bad A c l id _ _ w hG hS hi h
end Go.Proofs.Ytebfenkjipaedaa.Gr
