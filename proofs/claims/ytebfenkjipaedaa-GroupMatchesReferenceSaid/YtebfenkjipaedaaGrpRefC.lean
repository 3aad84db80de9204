/- The reference's Collapse. -/
import Derived.Test.YtebfenkjipaedaaGrpRefW
import Derived.Test.YtebfenkjipaedaaGg
import Derived.Test.YtebfenkjipaedaaGrpNet
namespace Go.Proofs.Ytebfenkjipaedaa.Gr
open Go.RowKit Gp Go.Sort
attribute [local go_sem] Oper.semAt_some
/-- two blocks of nets; two rows that grow, at the same place of each -/
structure Two (B g h : Nat) (e : TypeId) (sz : Nat) (u v : Value) (xs ys : List Value) (nx ny : Nat) (c1 c2 : Array Value) (W : World) : Prop where
  lt : g < B ∧ h < B ∧ g ≠ h
  cg : W.heap[g]? = some (.cells c1 36 (0, 0))
  ch : W.heap[h]? = some (.cells c2 36 (0, 0))
  ou : W.ownsRow B e sz u nx xs
  ov : W.ownsRow B e sz v ny ys
  ne : ∀ b, u.ownBlock = some b → v.ownBlock ≠ some b
  sz : B ≤ W.heap.size
theorem Two.swap {B g h : Nat} {e : TypeId} {sz : Nat} {u v : Value} {xs ys : List Value} {nx ny : Nat} {c1 c2 : Array Value} {W : World} (t : Two B g h e sz u v xs ys nx ny c1 c2 W) : Two B h g e sz v u ys xs ny nx c2 c1 W :=
  ⟨⟨t.lt.2.1, t.lt.1, fun e => t.lt.2.2 e.symm⟩, t.ch, t.cg, t.ov, t.ou, fun b h1 h2 => t.ne b h2 h1, t.sz⟩
theorem Two.then_ {B g h : Nat} {e : TypeId} {sz : Nat} {u v : Value} {xs ys : List Value} {nx ny : Nat} {c1 c2 : Array Value} {W W' : World} (t : Two B g h e sz u v xs ys nx ny c1 c2 W) (hb : Below W.heap.size W W') : Two B g h e sz u v xs ys nx ny c1 c2 W' :=
  ⟨t.lt, (Kept.of_below hb).heap t.cg (by simp), (Kept.of_below hb).heap t.ch (by simp), own_then t.ou hb, own_then t.ov hb, t.ne, by have := t.sz; have := hb.size; omega⟩
theorem Two.step {B g h : Nat} {e : TypeId} {sz : Nat} {u v : Value} {xs ys new : List Value} {nx ny : Nat} {c1 c2 : Array Value} {W W' : World} (t : Two B g h e sz u v xs ys nx ny c1 c2 W) {b c : Nat} (i : Nat)
    (ho : W'.ownsRow B e sz (.slice (some ⟨b, 0, none⟩) (nx + 1) c) (nx + 1) (xs ++ new)) (hk : Kept u.ownBlock.toList W W') (hb : u.ownBlock = some b ∨ W.heap.size ≤ b) :
    Two B g h e sz (.slice (some ⟨b, 0, none⟩) (nx + 1) c) v (xs ++ new) ys (nx + 1) ny (c1.setIfInBounds i (.slice (some ⟨b, 0, none⟩) (nx + 1) c)) c2 (W'.setCell ⟨g, i, none⟩ (.slice (some ⟨b, 0, none⟩) (nx + 1) c)) := by
  have hlt := t.lt
  have hd : ∀ q ∈ u.ownBlock.toList, B ≤ q := fun q hq => (t.ou.lt q (own_mem hq)).1
  have hbB : B ≤ b := by
    rcases hb with e | e
    · exact (t.ou.lt b e).1
    · have := t.sz; omega
  refine ⟨hlt, ?_, ?_, own_set ho (fun e => by have : b = g := by simpa [Value.ownBlock] using e
                                               omega) _, own_set (hk.own t.ov (fun q hq e => t.ne q (own_mem e) hq)) (fun e => by have := (t.ov.lt _ e).1; dsimp only at this; omega) _, fun q h1 h2 => ?_, by have := hk.size; have := t.sz; simp [World.setCell]; omega⟩
  · exact heap_setCell_same _ _ _ _ _ _ (hk.heap t.cg (fun e => by have := hd _ e; omega))
  · rw [Below.heap_setCell _ _ _ _ (by dsimp only; omega)]; exact hk.heap t.ch (fun e => by have := hd _ e; omega)
  · have e1 : b = q := by simpa [Value.ownBlock] using h1
    subst e1
    rcases hb with e | e
    · exact t.ne b e h2
    · have := (t.ov.lt b h2).2; omega
/-- a row that grows no more -/
def Fix (B1 B2 g h : Nat) (e : TypeId) (sz : Nat) (a : Value) (n : Nat) (xs : List Value) (W : World) : Prop := W.ownsRow B1 e sz a n xs ∧ ∀ b, a.ownBlock = some b → b < B2 ∧ b ≠ g ∧ b ≠ h
theorem Fix.then_ {B1 B2 g h : Nat} {e : TypeId} {sz : Nat} {a : Value} {n : Nat} {xs : List Value} {W W' : World} (f : Fix B1 B2 g h e sz a n xs W) (hb : Below W.heap.size W W') : Fix B1 B2 g h e sz a n xs W' := ⟨own_then f.1 hb, f.2⟩
theorem Fix.step {B1 B2 g h : Nat} {e : TypeId} {sz : Nat} {a : Value} {n : Nat} {xs : List Value} {W W' : World} (f : Fix B1 B2 g h e sz a n xs W) {S : List Nat} (hk : Kept S W W') (hS : ∀ q ∈ S, B2 ≤ q) (k i : Nat) (hk2 : k = g ∨ k = h) (x : Value) : Fix B1 B2 g h e sz a n xs (W'.setCell ⟨k, i, none⟩ x) :=
  ⟨own_set (hk.own f.1 (fun q hq e => by have := (f.2 q hq).1; have := hS q e; omega)) (fun e => by have := f.2 _ e; dsimp only at this; omega) _, f.2⟩
/-- a return of nothing -/
theorem rcol_leave {w W : World} {b5 r6 r7 : Nat} {d x : Value} {tmps : Array Value} {df : List Deferred} (h : ColS w b5 r6 r7 d x W) (h6 : tmps[6]? = some (.pointer (some ⟨r6, 0, none⟩))) (h7 : tmps[7]? = some (.pointer (some ⟨r7, 0, none⟩))) (h8 : tmps[8]? = some (.int .i64 130)) (hne : w.heap.size ≤ r6 ∧ r6 < r7) (hd : df = []) :
    bodyPost Try.prog Try.f30 (fun e w' => e = .returned (.tuple #[nz, nz, .int .i64 130]) ∧ Below w.heap.size w w') Exit.ret { tmps := tmps, defers := df }
      ((((W.setCell ⟨r6, 0, none⟩ (.slice none 0 0)).setCell ⟨r6, 1, none⟩ (.slice none 0 0)).setCell ⟨r7, 0, none⟩ (.slice none 0 0)).setCell ⟨r7, 1, none⟩ (.slice none 0 0)) := by
  subst hd
  have q6 := heap_setCell (p := ⟨r7, 1, none⟩) (heap_setCell (p := ⟨r7, 0, none⟩) (nil_set (i := 1) (by omega) (nil_set (i := 0) (by omega) h.r6)) (by dsimp only; omega) (.slice none 0 0)) (by dsimp only; omega) (.slice none 0 0)
  have q7 := nil_set (i := 1) (by omega) (nil_set (i := 0) (by omega) (heap_setCell (p := ⟨r6, 1, none⟩) (heap_setCell (p := ⟨r6, 0, none⟩) h.r7 (by dsimp only; omega) (.slice none 0 0)) (by dsimp only; omega) (.slice none 0 0)))
  have hb := (((h.bel.setCell (p := ⟨r6, 0, none⟩) (by dsimp only; omega) (.slice none 0 0)).setCell (p := ⟨r6, 1, none⟩) (by dsimp only; omega) (.slice none 0 0)).setCell (p := ⟨r7, 0, none⟩) (by dsimp only; omega) (.slice none 0 0)).setCell (p := ⟨r7, 1, none⟩) (by dsimp only; omega) (.slice none 0 0)
  obtain ⟨V, hV⟩ : ∃ V, ((((W.setCell ⟨r6, 0, none⟩ (.slice none 0 0)).setCell ⟨r6, 1, none⟩ (.slice none 0 0)).setCell ⟨r7, 0, none⟩ (.slice none 0 0)).setCell ⟨r7, 1, none⟩ (.slice none 0 0)) = V := ⟨_, rfl⟩
  rw [hV] at q6 q7 hb ⊢
  obtain ⟨y0, y1⟩ := cells2 q6
  obtain ⟨z0, z1⟩ := cells2 q7
  refine bodyPost_ret (v := .tuple #[nz, nz, .int .i64 130]) (by unfold nz nv; simp [results, Try.results30, h6, h7, h8, y0, y1, z0, z1, asAddr, Result.andThen, go_sem]) rfl ⟨rfl, hb⟩
theorem take_rise {ds : List Dev} {k : Nat} (h : k + 1 < ds.length) : riseB ((ds.take (k + 2)).map (·.code)) = (riseB ((ds.take (k + 1)).map (·.code)) && decide ((ds.getD k d0).code < (ds.getD (k + 1) d0).code)) := by
  have hg : ∀ n j, j < n → n ≤ ds.length → ((ds.take n).map (·.code)).getD j 0 = (ds.getD j d0).code := fun n j hj hn => by
    rw [getD_map (d := d0) (by rw [List.length_take]; omega), getD_take hj hn]
  rw [Bool.eq_iff_iff, Bool.and_eq_true, decide_eq_true_iff, riseB_iff, riseB_iff]
  constructor
  · intro hr
    refine ⟨fun i hi => ?_, ?_⟩
    · rw [List.length_map, List.length_take] at hi
      have := hr i (by rw [List.length_map, List.length_take]; omega)
      rw [hg _ _ (by omega) (by omega), hg _ _ (by omega) (by omega)] at this ⊢
      exact this
    · have := hr k (by rw [List.length_map, List.length_take]; omega)
      rw [hg _ _ (by omega) (by omega), hg _ _ (by omega) (by omega)] at this
      exact this
  · rintro ⟨hr, hl⟩ i hi
    rw [List.length_map, List.length_take] at hi
    rw [hg _ _ (by omega) (by omega), hg _ _ (by omega) (by omega)]
    rcases Nat.lt_or_ge i k with h1 | h1
    · have := hr i (by rw [List.length_map, List.length_take]; omega)
      rw [hg _ _ (by omega) (by omega), hg _ _ (by omega) (by omega)] at this
      exact this
    · obtain rfl : i = k := by omega
      exact hl
theorem take_one_rise (ds : List Dev) : riseB ((ds.take 1).map (·.code)) = true := riseB_iff.2 (fun i hi => by rw [List.length_map, List.length_take] at hi; omega)
set_option maxRecDepth 100000 in
set_option maxHeartbeats 8000000 in
theorem rcollapse_no1 (A : Option Addr) (c : Nat) (l : List Grp) (id : Int) (D : Option Addr) (cd : Nat) (ds : List Dev) (B : Option Addr) (cb : Nat) (ws : List Wir) (w : World) (hG : GrpsAt w A l) (hS : Sized l) (hv : ¬ (Valid l ∧ (find l id).isSome = true))
    (hD : DevsAt w D ds) (hDL : ds.length ≤ 1000) (hW : WirsAt w B ws) (hWL : ws.length ≤ 1000) :
    Calls Try.prog 30 #[.slice A l.length c, .int .i64 id, nv (.slice D ds.length cd) (.slice B ws.length cb)] w fun e w' => e = .returned (.tuple #[nz, nz, .int .i64 130]) ∧ Below w.heap.size w w' := by
  have HST := Lib.hid (col_start w (.slice D ds.length cd) (.slice B ws.length cb))
  have HBE := Lib.hid (fun W (hB : Below w.heap.size w W) => rbelow_no A c l id W (hG.then_ hB) hS hv)
  have HRI := Lib.hid (fun W (hB : Below w.heap.size w W) => rwired_any B cb ws W (hW.then_ hB) hWL)
  have HD := Lib.hid hD
  have hdI : (ds.length : Int) ≤ 1000 := by omega
  clear hG hS hv hD hW
  unfold nv
  go_enter Try.func30, Try.ntmps30
  go_wp2_with fail
  obtain ⟨W0, hW0⟩ : ∃ W0, (((w.alloc (.cells #[.slice D ds.length cd, .slice B ws.length cb] 36)).alloc (.cells #[.slice none 0 0, .slice none 0 0] 36)).alloc (.cells #[.slice none 0 0, .slice none 0 0] 36)) = W0 := ⟨_, rfl⟩
  rw [hW0] at HST ⊢
  obtain ⟨b5, hb5⟩ : ∃ b5, w.heap.size = b5 := ⟨_, rfl⟩
  obtain ⟨r6, hr6⟩ : ∃ r6, w.heap.size + 1 = r6 := ⟨_, rfl⟩
  obtain ⟨r7, hr7⟩ : ∃ r7, w.heap.size + 1 + 1 = r7 := ⟨_, rfl⟩
  have HRB := Lib.hid (show b5 < r6 ∧ r6 < r7 ∧ w.heap.size ≤ b5 by omega)
  have HC := Lib.hid (show ColS w b5 r6 r7 (.slice D ds.length cd) (.slice B ws.length cb) W0 by rw [← hr7, ← hr6, ← hb5]; exact HST.out)
  rw [hr7, hr6, hb5]
  clear hW0 hb5 hr6 hr7 HST
  refine (HBE.out _ HC.out.bel).mono ?_
  rintro e w1 ⟨rfl, hb1⟩
  have HC := Lib.hid (HC.out.then_ hb1)
  have k1 := HC.out.c1
  clear hb1 HBE
  go_wp2_with fail
  refine (HRI.out _ HC.out.bel).mono ?_
  rintro e w2 ⟨rfl, hb2⟩
  have HC := Lib.hid (HC.out.then_ hb2)
  obtain ⟨b0, hb0⟩ : ∃ b0, riseB (ws.map (·.code)) = b0 := ⟨_, rfl⟩
  rw [hb0]
  have HB0 := Lib.hid hb0
  clear hb2 HRI k1 hb0
  go_wp2_with fail
  go_loopw [11, 12] (fun q i wr => ∃ k : Nat, k ≤ ds.length ∧ i = .int .i64 ((k : Int) + 1) ∧ q = .bool (b0 && riseB ((ds.take (k + 1)).map (·.code))) ∧ Below w2.heap.size w2 wr) (fun _ i _ => ds.length + 1 - (intOf i).toNat)
  case atStart => exact ⟨0, by omega, rfl, by rw [take_one_rise, Bool.and_true], Below.refl _ _⟩
  case round =>
    obtain ⟨k, hk, rfl, rfl, hB⟩ := hrel
    have HB := Lib.hid hB
    have HC3 := Lib.hid (HC.out.then_ hB)
    have k0 := HC3.out.c0
    clear hB
    by_cases hkl : k + 1 < ds.length
    · have hkI : (k : Int) + 1 < (ds.length : Int) := by omega
      have hk0 : (0 : Int) ≤ (k : Int) := by omega
      have hk1 : (0 : Int) ≤ (k : Int) + 1 := by omega
      have hkJ : (k : Int) < (ds.length : Int) := by omega
      obtain ⟨b1, o1, hA1, hx⟩ := (HD.out.then_ HC3.out.bel) (k + 1) hkl
      obtain ⟨b2, o2, hA2, hy⟩ := (HD.out.then_ HC3.out.bel) k (by omega)
      subst hA1
      injection hA2 with hA2
      injection hA2 with hA2 hA3
      subst hA2 hA3
      have c0 := hx.c0
      have e0 := hy.c0
      have htr := take_rise hkl
      obtain ⟨u, hu⟩ : ∃ u, (ds.getD (k + 1) d0).code = u := ⟨_, rfl⟩
      obtain ⟨v, hv⟩ : ∃ v, (ds.getD k d0).code = v := ⟨_, rfl⟩
      rw [hu] at c0 htr
      rw [hv] at e0 htr
      obtain ⟨ob, hob⟩ : ∃ ob, (b0 && riseB ((ds.take (k + 1)).map (·.code))) = ob := ⟨_, rfl⟩
      have HTR := Lib.hid (show (b0 && riseB ((ds.take (k + 1 + 1)).map (·.code))) = (ob && decide (v < u)) by rw [← hob, htr, Bool.and_assoc])
      rw [hob]
      have hw1 : IntKind.i64.wrap ((k : Int) + 1 - 1) = (k : Int) := by rw [Int.add_sub_cancel]; exact IntWalk.i64_in _ (by omega)
      have g_0 := fun D os => cell_regrown c0 D os
      have g_1 := fun D os => cell_regrown e0 D os
      have g_2 := fun D os => cell_regrown k0 D os
      clear hx hy hu hv htr hob c0 e0
      cases ob with
      | true =>
        go_wp2_with fail
        clear k0
        refine wp_region_quiet_below (by kernel_rfl) (by kernel_rfl) ?_
        repeat (go_big_quiet_step (fail))
        refine wpQuiet_nil ?_
        intro wq hq0
        have hq := below_of_class hq0
        clear hq0
        have HB2 := Lib.hid (below_next HB.out hq)
        clear g_0 g_1 g_2 hq
        go_wp2_with fail
        exact ⟨⟨k + 1, by omega, by go_num, by rw [HTR.out]; rfl, HB2.out⟩, by simp [intOf]; omega⟩
      | false =>
        go_wp2_with fail
        clear k0
        refine wp_region_quiet_below (by kernel_rfl) (by kernel_rfl) ?_
        repeat (go_big_quiet_step (fail))
        refine wpQuiet_nil ?_
        intro wq hq0
        have hq := below_of_class hq0
        clear hq0
        have HB2 := Lib.hid (below_next HB.out hq)
        clear g_0 g_1 g_2 hq
        go_wp2_with fail
        exact ⟨⟨k + 1, by omega, by go_num, by rw [HTR.out]; rfl, HB2.out⟩, by simp [intOf]; omega⟩
    · have hkI : ¬ (k : Int) + 1 < (ds.length : Int) := by omega
      rw [List.take_of_length_le (show ds.length ≤ k + 1 by omega)]
      obtain ⟨bt, hbt⟩ : ∃ bt, (b0 && riseB (ds.map (·.code))) = bt := ⟨_, rfl⟩
      rw [hbt]
      clear hbt
      obtain ⟨p0, p1⟩ := cells2 HC3.out.r6
      obtain ⟨q0, q1⟩ := cells2 HC3.out.r7
      have t0 := frozen_of_row _ r6 0 _ _ HC3.out.r6
      have t1 := frozen_of_row _ r6 1 _ _ HC3.out.r6
      have t2 := frozen_of_row _ r7 0 _ _ HC3.out.r7
      have t3 := frozen_of_row _ r7 1 _ _ HC3.out.r7
      obtain ⟨hr1, hr2, hr3⟩ := HRB.out
      go_wp2_with fail
      exact rcol_leave HC3.out rfl rfl rfl ⟨by omega, hr2⟩ rfl
set_option maxRecDepth 100000 in
set_option maxHeartbeats 8000000 in
theorem rcollapse_no2 (A : Option Addr) (c : Nat) (l : List Grp) (id : Int) (D : Option Addr) (cd : Nat) (ds : List Dev) (B : Option Addr) (cb : Nat) (ws : List Wir) (w : World) (hG : GrpsAt w A l) (hS : Sized l) (hv : Valid l) (hk : (find l id).isSome = true)
    (hD : DevsAt w D ds) (hDL : ds.length ≤ 1000) (hW : WirsAt w B ws) (hWL : ws.length ≤ 1000) (hr : (riseB (ws.map (·.code)) && riseB (ds.map (·.code))) = false) :
    Calls Try.prog 30 #[.slice A l.length c, .int .i64 id, nv (.slice D ds.length cd) (.slice B ws.length cb)] w fun e w' => e = .returned (.tuple #[nz, nz, .int .i64 130]) ∧ Below w.heap.size w w' := by
  have HST := Lib.hid (col_start w (.slice D ds.length cd) (.slice B ws.length cb))
  have HBE := Lib.hid (fun W (hB : Below w.heap.size w W) => rbelow_yes A c l id W (hG.then_ hB) hS hv hk)
  have HRI := Lib.hid (fun W (hB : Below w.heap.size w W) => rwired_any B cb ws W (hW.then_ hB) hWL)
  have HD := Lib.hid hD
  have hdI : (ds.length : Int) ≤ 1000 := by omega
  have HRR := Lib.hid hr
  clear hG hS hv hD hW hk hr
  unfold nv
  go_enter Try.func30, Try.ntmps30
  go_wp2_with fail
  obtain ⟨W0, hW0⟩ : ∃ W0, (((w.alloc (.cells #[.slice D ds.length cd, .slice B ws.length cb] 36)).alloc (.cells #[.slice none 0 0, .slice none 0 0] 36)).alloc (.cells #[.slice none 0 0, .slice none 0 0] 36)) = W0 := ⟨_, rfl⟩
  rw [hW0] at HST ⊢
  obtain ⟨b5, hb5⟩ : ∃ b5, w.heap.size = b5 := ⟨_, rfl⟩
  obtain ⟨r6, hr6⟩ : ∃ r6, w.heap.size + 1 = r6 := ⟨_, rfl⟩
  obtain ⟨r7, hr7⟩ : ∃ r7, w.heap.size + 1 + 1 = r7 := ⟨_, rfl⟩
  have HRB := Lib.hid (show b5 < r6 ∧ r6 < r7 ∧ w.heap.size ≤ b5 by omega)
  have HC := Lib.hid (show ColS w b5 r6 r7 (.slice D ds.length cd) (.slice B ws.length cb) W0 by rw [← hr7, ← hr6, ← hb5]; exact HST.out)
  rw [hr7, hr6, hb5]
  clear hW0 hb5 hr6 hr7 HST
  refine (HBE.out _ HC.out.bel).mono ?_
  rintro e w1 ⟨_, rfl, ⟨Ai, ci, rfl, _, _, _⟩, hb1⟩
  have HC := Lib.hid (HC.out.then_ hb1)
  have k1 := HC.out.c1
  clear hb1 HBE
  go_wp2_with fail
  refine (HRI.out _ HC.out.bel).mono ?_
  rintro e w2 ⟨rfl, hb2⟩
  have HC := Lib.hid (HC.out.then_ hb2)
  obtain ⟨b0, hb0⟩ : ∃ b0, riseB (ws.map (·.code)) = b0 := ⟨_, rfl⟩
  rw [hb0]
  have HB0 := Lib.hid hb0
  clear hb2 HRI k1 hb0
  go_wp2_with fail
  go_loopw [11, 12] (fun q i wr => ∃ k : Nat, k ≤ ds.length ∧ i = .int .i64 ((k : Int) + 1) ∧ q = .bool (b0 && riseB ((ds.take (k + 1)).map (·.code))) ∧ Below w2.heap.size w2 wr) (fun _ i _ => ds.length + 1 - (intOf i).toNat)
  case atStart => exact ⟨0, by omega, rfl, by rw [take_one_rise, Bool.and_true], Below.refl _ _⟩
  case round =>
    obtain ⟨k, hk, rfl, rfl, hB⟩ := hrel
    have HB := Lib.hid hB
    have HC3 := Lib.hid (HC.out.then_ hB)
    have k0 := HC3.out.c0
    clear hB
    by_cases hkl : k + 1 < ds.length
    · have hkI : (k : Int) + 1 < (ds.length : Int) := by omega
      have hk0 : (0 : Int) ≤ (k : Int) := by omega
      have hk1 : (0 : Int) ≤ (k : Int) + 1 := by omega
      have hkJ : (k : Int) < (ds.length : Int) := by omega
      obtain ⟨b1, o1, hA1, hx⟩ := (HD.out.then_ HC3.out.bel) (k + 1) hkl
      obtain ⟨b2, o2, hA2, hy⟩ := (HD.out.then_ HC3.out.bel) k (by omega)
      subst hA1
      injection hA2 with hA2
      injection hA2 with hA2 hA3
      subst hA2 hA3
      have c0 := hx.c0
      have e0 := hy.c0
      have htr := take_rise hkl
      obtain ⟨u, hu⟩ : ∃ u, (ds.getD (k + 1) d0).code = u := ⟨_, rfl⟩
      obtain ⟨v, hv⟩ : ∃ v, (ds.getD k d0).code = v := ⟨_, rfl⟩
      rw [hu] at c0 htr
      rw [hv] at e0 htr
      obtain ⟨ob, hob⟩ : ∃ ob, (b0 && riseB ((ds.take (k + 1)).map (·.code))) = ob := ⟨_, rfl⟩
      have HTR := Lib.hid (show (b0 && riseB ((ds.take (k + 1 + 1)).map (·.code))) = (ob && decide (v < u)) by rw [← hob, htr, Bool.and_assoc])
      rw [hob]
      have hw1 : IntKind.i64.wrap ((k : Int) + 1 - 1) = (k : Int) := by rw [Int.add_sub_cancel]; exact IntWalk.i64_in _ (by omega)
      have g_0 := fun D os => cell_regrown c0 D os
      have g_1 := fun D os => cell_regrown e0 D os
      have g_2 := fun D os => cell_regrown k0 D os
      clear hx hy hu hv htr hob c0 e0
      cases ob with
      | true =>
        go_wp2_with fail
        clear k0
        refine wp_region_quiet_below (by kernel_rfl) (by kernel_rfl) ?_
        repeat (go_big_quiet_step (fail))
        refine wpQuiet_nil ?_
        intro wq hq0
        have hq := below_of_class hq0
        clear hq0
        have HB2 := Lib.hid (below_next HB.out hq)
        clear g_0 g_1 g_2 hq
        go_wp2_with fail
        exact ⟨⟨k + 1, by omega, by go_num, by rw [HTR.out]; rfl, HB2.out⟩, by simp [intOf]; omega⟩
      | false =>
        go_wp2_with fail
        clear k0
        refine wp_region_quiet_below (by kernel_rfl) (by kernel_rfl) ?_
        repeat (go_big_quiet_step (fail))
        refine wpQuiet_nil ?_
        intro wq hq0
        have hq := below_of_class hq0
        clear hq0
        have HB2 := Lib.hid (below_next HB.out hq)
        clear g_0 g_1 g_2 hq
        go_wp2_with fail
        exact ⟨⟨k + 1, by omega, by go_num, by rw [HTR.out]; rfl, HB2.out⟩, by simp [intOf]; omega⟩
    · have hkI : ¬ (k : Int) + 1 < (ds.length : Int) := by omega
      rw [List.take_of_length_le (show ds.length ≤ k + 1 by omega)]
      obtain ⟨bt, hbt⟩ : ∃ bt, (b0 && riseB (ds.map (·.code))) = bt := ⟨_, rfl⟩
      rw [hbt]
      obtain rfl : bt = false := by rw [← hbt, ← HB0.out]; exact HRR.out
      clear hbt
      obtain ⟨p0, p1⟩ := cells2 HC3.out.r6
      obtain ⟨q0, q1⟩ := cells2 HC3.out.r7
      have t0 := frozen_of_row _ r6 0 _ _ HC3.out.r6
      have t1 := frozen_of_row _ r6 1 _ _ HC3.out.r6
      have t2 := frozen_of_row _ r7 0 _ _ HC3.out.r7
      have t3 := frozen_of_row _ r7 1 _ _ HC3.out.r7
      obtain ⟨hr1, hr2, hr3⟩ := HRB.out
      go_wp2_with fail
      exact rcol_leave HC3.out rfl rfl rfl ⟨by omega, hr2⟩ rfl
theorem rcollapse_no (A : Option Addr) (c : Nat) (l : List Grp) (id : Int) (D : Option Addr) (cd : Nat) (ds : List Dev) (B : Option Addr) (cb : Nat) (ws : List Wir) (w : World) (hG : GrpsAt w A l) (hS : Sized l)
    (hD : DevsAt w D ds) (hDL : ds.length ≤ 1000) (hW : WirsAt w B ws) (hWL : ws.length ≤ 1000) (hv : ¬ ((Valid l ∧ (find l id).isSome = true) ∧ riseB (ws.map (·.code)) = true ∧ riseB (ds.map (·.code)) = true)) :
    Calls Try.prog 30 #[.slice A l.length c, .int .i64 id, nv (.slice D ds.length cd) (.slice B ws.length cb)] w fun e w' => e = .returned (.tuple #[nz, nz, .int .i64 130]) ∧ Below w.heap.size w w' := by
  by_cases h : Valid l ∧ (find l id).isSome = true
  · refine rcollapse_no2 A c l id D cd ds B cb ws w hG hS h.1 h.2 hD hDL hW hWL ?_
    cases h1 : riseB (ws.map (·.code)) with
    | false => rfl
    | true =>
      cases h2 : riseB (ds.map (·.code)) with
      | false => rfl
      | true => exact absurd ⟨h, h1, h2⟩ hv
  · exact rcollapse_no1 A c l id D cd ds B cb ws w hG hS h hD hDL hW hWL
set_option maxRecDepth 100000 in
set_option maxHeartbeats 8000000 in
theorem rcollapse_yes (A : Option Addr) (c : Nat) (l : List Grp) (id : Int) (D : Option Addr) (cd : Nat) (ds : List Dev) (B : Option Addr) (cb : Nat) (ws : List Wir) (w : World) (hG : GrpsAt w A l) (hS : Sized l) (hv : Valid l) (hk : (find l id).isSome = true)
    (hD : DevsAt w D ds) (hDL : ds.length ≤ 1000) (hW : WirsAt w B ws) (hWL : ws.length ≤ 1000) (hr1 : riseB (ws.map (·.code)) = true) (hr2 : riseB (ds.map (·.code)) = true) :
    Calls Try.prog 30 #[.slice A l.length c, .int .i64 id, nv (.slice D ds.length cd) (.slice B ws.length cb)] w fun e w' => ∃ d1 x1 d2 x2, e = .returned (.tuple #[nv d1 x1, nv d2 x2, .int .i64 0]) ∧
      NetAt w' d1 x1 (ds.filter (dIn l id)) (ws.filter (wIn l id)) ∧ NetAt w' d2 x2 (ds.filter (dOut l id)) (ws.filter (wOut l id)) ∧ Below w.heap.size w w' := by
  obtain ⟨i0, hi0, i1, i2, i3⟩ := info_parts d_info
  obtain ⟨t0, ht0, t1, t2, t3⟩ := info_parts w_info
  have HST := Lib.hid (col_start w (.slice D ds.length cd) (.slice B ws.length cb))
  have HBE := Lib.hid (fun W (hB : Below w.heap.size w W) => rbelow_yes A c l id W (hG.then_ hB) hS hv hk)
  have HRI := Lib.hid (fun W (hB : Below w.heap.size w W) => rwired_any B cb ws W (hW.then_ hB) hWL)
  have HD := Lib.hid hD
  have hdI : (ds.length : Int) ≤ 1000 := by omega
  have HWW := Lib.hid hW
  have hwI : (ws.length : Int) ≤ 1000 := by omega
  have HRR := Lib.hid (show (riseB (ws.map (·.code)) && riseB (ds.map (·.code))) = true by rw [hr1, hr2]; rfl)
  have HIN := Lib.hid (fun c => below_ins hv id c)
  have HBLL := Lib.hid (below_len hS hv id)
  have I0 := Lib.hid hi0
  have I1 := Lib.hid i1
  have I2 := Lib.hid i2
  have I3 := Lib.hid i3
  have J0 := Lib.hid ht0
  have J1 := Lib.hid t1
  have J2 := Lib.hid t2
  have J3 := Lib.hid t3
  clear hG hS hv hD hW hk hr1 hr2 hi0 i1 i2 i3 ht0 t1 t2 t3
  unfold nv
  go_enter Try.func30, Try.ntmps30
  go_wp2_with fail
  obtain ⟨W0, hW0⟩ : ∃ W0, (((w.alloc (.cells #[.slice D ds.length cd, .slice B ws.length cb] 36)).alloc (.cells #[.slice none 0 0, .slice none 0 0] 36)).alloc (.cells #[.slice none 0 0, .slice none 0 0] 36)) = W0 := ⟨_, rfl⟩
  rw [hW0] at HST ⊢
  obtain ⟨b5, hb5⟩ : ∃ b5, w.heap.size = b5 := ⟨_, rfl⟩
  obtain ⟨r6, hr6⟩ : ∃ r6, w.heap.size + 1 = r6 := ⟨_, rfl⟩
  obtain ⟨r7, hr7⟩ : ∃ r7, w.heap.size + 1 + 1 = r7 := ⟨_, rfl⟩
  have HRB := Lib.hid (show b5 < r6 ∧ r6 < r7 ∧ w.heap.size ≤ b5 by omega)
  have HC := Lib.hid (show ColS w b5 r6 r7 (.slice D ds.length cd) (.slice B ws.length cb) W0 by rw [← hr7, ← hr6, ← hb5]; exact HST.out)
  rw [hr7, hr6, hb5]
  clear hW0 hb5 hr6 hr7 HST
  refine (HBE.out _ HC.out.bel).mono ?_
  rintro e w1 ⟨_, rfl, ⟨Ai, ci, rfl, _, hii, _⟩, hb1⟩
  have II := Lib.hid hii
  clear hii
  have HC := Lib.hid (HC.out.then_ hb1)
  have k1 := HC.out.c1
  clear hb1 HBE
  go_wp2_with fail
  refine (HRI.out _ HC.out.bel).mono ?_
  rintro e w2 ⟨rfl, hb2⟩
  have HC := Lib.hid (HC.out.then_ hb2)
  have II := Lib.hid (II.out.then_ hb2)
  obtain ⟨b0, hb0⟩ : ∃ b0, riseB (ws.map (·.code)) = b0 := ⟨_, rfl⟩
  rw [hb0]
  have HB0 := Lib.hid hb0
  clear hb2 HRI k1 hb0
  go_wp2_with fail
  go_loopw [11, 12] (fun q i wr => ∃ k : Nat, k ≤ ds.length ∧ i = .int .i64 ((k : Int) + 1) ∧ q = .bool (b0 && riseB ((ds.take (k + 1)).map (·.code))) ∧ Below w2.heap.size w2 wr) (fun _ i _ => ds.length + 1 - (intOf i).toNat)
  case atStart => exact ⟨0, by omega, rfl, by rw [take_one_rise, Bool.and_true], Below.refl _ _⟩
  case round =>
    obtain ⟨k, hk, rfl, rfl, hB⟩ := hrel
    have HB := Lib.hid hB
    have HC3 := Lib.hid (HC.out.then_ hB)
    have k0 := HC3.out.c0
    clear hB
    by_cases hkl : k + 1 < ds.length
    · have hkI : (k : Int) + 1 < (ds.length : Int) := by omega
      have hk0 : (0 : Int) ≤ (k : Int) := by omega
      have hk1 : (0 : Int) ≤ (k : Int) + 1 := by omega
      have hkJ : (k : Int) < (ds.length : Int) := by omega
      obtain ⟨b1, o1, hA1, hx⟩ := (HD.out.then_ HC3.out.bel) (k + 1) hkl
      obtain ⟨b2, o2, hA2, hy⟩ := (HD.out.then_ HC3.out.bel) k (by omega)
      subst hA1
      injection hA2 with hA2
      injection hA2 with hA2 hA3
      subst hA2 hA3
      have c0 := hx.c0
      have e0 := hy.c0
      have htr := take_rise hkl
      obtain ⟨u, hu⟩ : ∃ u, (ds.getD (k + 1) d0).code = u := ⟨_, rfl⟩
      obtain ⟨v, hv⟩ : ∃ v, (ds.getD k d0).code = v := ⟨_, rfl⟩
      rw [hu] at c0 htr
      rw [hv] at e0 htr
      obtain ⟨ob, hob⟩ : ∃ ob, (b0 && riseB ((ds.take (k + 1)).map (·.code))) = ob := ⟨_, rfl⟩
      have HTR := Lib.hid (show (b0 && riseB ((ds.take (k + 1 + 1)).map (·.code))) = (ob && decide (v < u)) by rw [← hob, htr, Bool.and_assoc])
      rw [hob]
      have hw1 : IntKind.i64.wrap ((k : Int) + 1 - 1) = (k : Int) := by rw [Int.add_sub_cancel]; exact IntWalk.i64_in _ (by omega)
      have g_0 := fun D os => cell_regrown c0 D os
      have g_1 := fun D os => cell_regrown e0 D os
      have g_2 := fun D os => cell_regrown k0 D os
      clear hx hy hu hv htr hob c0 e0
      cases ob with
      | true =>
        go_wp2_with fail
        clear k0
        refine wp_region_quiet_below (by kernel_rfl) (by kernel_rfl) ?_
        repeat (go_big_quiet_step (fail))
        refine wpQuiet_nil ?_
        intro wq hq0
        have hq := below_of_class hq0
        clear hq0
        have HB2 := Lib.hid (below_next HB.out hq)
        clear g_0 g_1 g_2 hq
        go_wp2_with fail
        exact ⟨⟨k + 1, by omega, by go_num, by rw [HTR.out]; rfl, HB2.out⟩, by simp [intOf]; omega⟩
      | false =>
        go_wp2_with fail
        clear k0
        refine wp_region_quiet_below (by kernel_rfl) (by kernel_rfl) ?_
        repeat (go_big_quiet_step (fail))
        refine wpQuiet_nil ?_
        intro wq hq0
        have hq := below_of_class hq0
        clear hq0
        have HB2 := Lib.hid (below_next HB.out hq)
        clear g_0 g_1 g_2 hq
        go_wp2_with fail
        exact ⟨⟨k + 1, by omega, by go_num, by rw [HTR.out]; rfl, HB2.out⟩, by simp [intOf]; omega⟩
    · have hkI : ¬ (k : Int) + 1 < (ds.length : Int) := by omega
      rw [List.take_of_length_le (show ds.length ≤ k + 1 by omega)]
      have hbt : (b0 && riseB (ds.map (·.code))) = true := by rw [← HB0.out]; exact HRR.out
      rw [hbt]
      have IIa := Lib.hid (II.out.then_ HB.out)
      clear hbt hkl HC HB II
      rename World => Wa
      obtain ⟨bl, hbl⟩ : ∃ bl, below l id = bl := ⟨_, rfl⟩
      rw [hbl] at IIa HIN HBLL ⊢
      clear hbl
      have HIIa := HC3
      go_upto_region 12 with fail
      clear k0 HIIa
      obtain ⟨W1, hW1⟩ : ∃ W1, (Wa.alloc (.cells #[.slice none 0 0, .slice none 0 0] 36)).alloc (.cells #[.slice none 0 0, .slice none 0 0] 36) = W1 := ⟨_, rfl⟩
      have N0 : W1.heap[Wa.heap.size]? = some (.cells #[.slice none 0 0, .slice none 0 0] 36 (0, 0)) := by rw [← hW1]; exact heap_alloc (World.alloc_heap_new _ _) _
      have N1 : W1.heap[Wa.heap.size + 1]? = some (.cells #[.slice none 0 0, .slice none 0 0] 36 (0, 0)) := by
        have h := World.alloc_heap_new (Wa.alloc (.cells #[.slice none 0 0, .slice none 0 0] 36)) (.cells #[.slice none 0 0, .slice none 0 0] 36)
        rw [World.size_alloc, hW1] at h
        exact h
      have hsz : W1.heap.size = Wa.heap.size + 1 + 1 := by rw [← hW1, World.size_alloc, World.size_alloc]
      have H1 : Below Wa.heap.size Wa W1 := by rw [← hW1]; exact below_alloc (below_alloc (Below.refl _ _) _) _
      rw [hW1]
      obtain ⟨g13, hg13⟩ : ∃ n, Wa.heap.size = n := ⟨_, rfl⟩
      obtain ⟨g14, hg14⟩ : ∃ n, Wa.heap.size + 1 = n := ⟨_, rfl⟩
      have HT := Lib.hid (show Two W1.heap.size g13 g14 29 4 (.slice none 0 0) (.slice none 0 0) (((ds.take 0).filter (dIn l id)).flatMap dcs) (((ds.take 0).filter (dOut l id)).flatMap dcs) 0 0 #[.slice none 0 0, .slice none 0 0] #[.slice none 0 0, .slice none 0 0] W1 from ⟨⟨by omega, by omega, by omega⟩, by rw [← hg13]; exact N0, by rw [← hg14]; exact N1, World.ownsRow_nil _ _ _ _, World.ownsRow_nil _ _ _ _, fun b hb => (by cases hb), Nat.le_refl _⟩)
      have HG1 := Lib.hid (show Wa.heap.size ≤ g13 ∧ Wa.heap.size ≤ g14 ∧ g13 ≠ g14 ∧ g13 < W1.heap.size ∧ g14 < W1.heap.size by omega)
      have HB1 := Lib.hid H1
      rw [hg14, hg13]
      clear N0 N1 hsz H1 hW1 hg13 hg14
      go_loopw [15] (fun i wr => ∃ (k n m : Nat) (u v : Value), k ≤ ds.length ∧ i = .int .i64 (k : Int) ∧ n ≤ k ∧ m ≤ k ∧ n = ((ds.take k).filter (dIn l id)).length ∧ m = ((ds.take k).filter (dOut l id)).length ∧ Two W1.heap.size g13 g14 29 4 u v (((ds.take k).filter (dIn l id)).flatMap dcs) (((ds.take k).filter (dOut l id)).flatMap dcs) n m #[u, .slice none 0 0] #[v, .slice none 0 0] wr ∧ Below Wa.heap.size Wa wr) (fun i _ => ds.length - (intOf i).toNat)
      case atStart => exact ⟨0, 0, 0, _, _, by omega, rfl, by omega, by omega, rfl, rfl, HT.out, HB1.out⟩
      case round =>
        clear HT HB1
        obtain ⟨k, n, m, u, v, hk, rfl, hnk, hmk, hn, hm, hT, hB⟩ := hrel
        have HB := Lib.hid hB
        have HT := Lib.hid hT
        have HNN := Lib.hid hn
        have HMM := Lib.hid hm
        have HC4 := Lib.hid (HC3.out.then_ hB)
        have k0 := HC4.out.c0
        obtain ⟨Au, cu, rfl, _⟩ := own_slice hT.ou
        obtain ⟨Av, cv, rfl, _⟩ := own_slice hT.ov
        clear hB hT hn hm
        by_cases hkl : k < ds.length
        · have hkI : (k : Int) < (ds.length : Int) := by omega
          have hk0 : (0 : Int) ≤ (k : Int) := by omega
          obtain ⟨b1, o1, rfl, c0, c1, c2, c3⟩ := (HD.out.then_ HC4.out.bel) k hkl
          have hts := take_succ (d := d0) hkl
          obtain ⟨x, hx⟩ : ∃ x, ds.getD k d0 = x := ⟨_, rfl⟩
          rw [hx] at c0 c1 c2 c3 hts
          have HTS := Lib.hid hts
          have HH := Lib.hid (has_any Ai ci bl x.code wr HBLL.out (IIa.out.then_ HB.out))
          rw [HIN.out] at HH
          have HBS := Lib.hid (show Wa.heap.size ≤ wr.heap.size from HB.out.size)
          have hTsz := HT.out.sz
          clear hts hx
          cases hin : insB l id x.code with
          | true =>
            rw [hin] at HH
            have hyi : dIn l id x = true := hin
            have hno : dOut l id x = false := by unfold dOut; rw [hin]; rfl
            have HT1 := Lib.hid (show (ds.take (k + 1)).filter (dIn l id) = (ds.take k).filter (dIn l id) ++ [x] by rw [HTS.out, List.filter_append, List.filter_cons, if_pos hyi]; rfl)
            have HT2 := Lib.hid (show (ds.take (k + 1)).filter (dOut l id) = (ds.take k).filter (dOut l id) by rw [HTS.out, List.filter_append, List.filter_cons, if_neg (by rw [hno]; simp)]; simp)
            clear hin hyi hno
            go_wp2_with fail
            refine HH.out.mono ?_
            rintro e w4 ⟨rfl, rfl⟩
            clear HH
            have HGN := Lib.hid (show ∀ q ∈ (Value.slice Au n cu).ownBlock.toList, q ≠ g13 from fun q hq e => by
              have := (HT.out.ou.lt q (own_mem hq)).1
              have := HT.out.lt
              omega)
            have q0 := (cells2 HT.out.cg).1
            have lg := lt_size q0
            go_upto_region 15 with fail
            go_region_law (first
              | (refine step_append1 (by rfl) _ _ 34 (by rfl) W1.heap.size 29 i0 _ 4 40 Try.underlying34 I0.out I1.out I2.out I3.out rfl (by omega) (by omega) (Value.slice Au n cu) n _ (by rfl) ((HT.out.ou.alloc _).drew) wr.heap.size [.int .i64 x.code, .int .i64 x.kind, .string x.text, .int .i64 x.size] (by rfl) rfl (fun j u h => new_cell (by simpa using h)) (by simp [Value.oneCell']) (by omega) (by first | (simp; done) | (simp; omega)) ?_; intro g' c' w8 own' k' n'; have OW := Lib.hid own'; have KW := Lib.hid (show Kept (Value.slice Au n cu).ownBlock.toList wr w8 from ((Kept.refl _ wr).alloc _).drew.trans k' (New.refl _ _)); have NW := Lib.hid n'; have p0 := (cells2 (KW.out.heap HT.out.cg (fun e => HGN.out _ e rfl))).1; have f0 := frozen_of_row _ g13 0 _ _ (KW.out.heap HT.out.cg (fun e => HGN.out _ e rfl)); clear own' k' n')
              | fail)
            all_goals (
              go_wp2_with fail
              have ht := HT.out.step (new := dcs x) (b := g') (c := c') 0 OW.out KW.out (NW.out.imp (fun h => h) (fun h => by simp at h; omega))
              refine ⟨⟨k + 1, n + 1, m, .slice (some ⟨g', 0, none⟩) (n + 1) c', .slice Av m cv, by omega, by go_num, by omega, by omega, by rw [HT1.out, List.length_append, ← HNN.out]; rfl, by rw [HT2.out]; exact HMM.out, ?_, (KW.out.below_next HB.out HBS.out (fun q hq => by have := (HT.out.ou.lt q (own_mem hq)).1; have := HG1.out; omega)).setCell (by have := HG1.out; dsimp only; omega) _⟩, by simp [intOf]; omega⟩
              rw [HT1.out, HT2.out, List.flatMap_append]
              simpa using ht)
            | false =>
              rw [hin] at HH
              have hyi : dIn l id x = false := hin
              have hno : dOut l id x = true := by unfold dOut; rw [hin]; rfl
              have HT1 := Lib.hid (show (ds.take (k + 1)).filter (dIn l id) = (ds.take k).filter (dIn l id) by rw [HTS.out, List.filter_append, List.filter_cons, if_neg (by rw [hyi]; simp)]; simp)
              have HT2 := Lib.hid (show (ds.take (k + 1)).filter (dOut l id) = (ds.take k).filter (dOut l id) ++ [x] by rw [HTS.out, List.filter_append, List.filter_cons, if_pos hno]; rfl)
              clear hin hyi hno
              go_wp2_with fail
              refine HH.out.mono ?_
              rintro e w4 ⟨rfl, rfl⟩
              clear HH
              have HGN := Lib.hid (show ∀ q ∈ (Value.slice Av m cv).ownBlock.toList, q ≠ g14 from fun q hq e => by
                have := (HT.out.ov.lt q (own_mem hq)).1
                have := HT.out.lt
                omega)
              have q0 := (cells2 HT.out.ch).1
              have lg := lt_size q0
              go_upto_region 16 with fail
              go_region_law (first
                | (refine step_append1 (by rfl) _ _ 34 (by rfl) W1.heap.size 29 i0 _ 4 40 Try.underlying34 I0.out I1.out I2.out I3.out rfl (by omega) (by omega) (Value.slice Av m cv) m _ (by rfl) ((HT.out.ov.alloc _).drew) wr.heap.size [.int .i64 x.code, .int .i64 x.kind, .string x.text, .int .i64 x.size] (by rfl) rfl (fun j u h => new_cell (by simpa using h)) (by simp [Value.oneCell']) (by omega) (by first | (simp; done) | (simp; omega)) ?_; intro g' c' w8 own' k' n'; have OW := Lib.hid own'; have KW := Lib.hid (show Kept (Value.slice Av m cv).ownBlock.toList wr w8 from ((Kept.refl _ wr).alloc _).drew.trans k' (New.refl _ _)); have NW := Lib.hid n'; have p0 := (cells2 (KW.out.heap HT.out.ch (fun e => HGN.out _ e rfl))).1; have f0 := frozen_of_row _ g14 0 _ _ (KW.out.heap HT.out.ch (fun e => HGN.out _ e rfl)); clear own' k' n')
                | fail)
              all_goals (
                go_wp2_with fail
                have ht := (HT.out.swap.step (new := dcs x) (b := g') (c := c') 0 OW.out KW.out (NW.out.imp (fun h => h) (fun h => by simp at h; omega))).swap
                refine ⟨⟨k + 1, n, m + 1, .slice Au n cu, .slice (some ⟨g', 0, none⟩) (m + 1) c', by omega, by go_num, by omega, by omega, by rw [HT1.out]; exact HNN.out, by rw [HT2.out, List.length_append, ← HMM.out]; rfl, ?_, (KW.out.below_next HB.out HBS.out (fun q hq => by have := (HT.out.ov.lt q (own_mem hq)).1; have := HG1.out; omega)).setCell (by have := HG1.out; dsimp only; omega) _⟩, by simp [intOf]; omega⟩
                rw [HT1.out, HT2.out, List.flatMap_append]
                simpa using ht)
        · have hkI : ¬ (k : Int) < (ds.length : Int) := by omega
          have hke : k = ds.length := by omega
          subst hke
          have hT := HT.out
          have hN := HNN.out
          have hM := HMM.out
          rw [List.take_length] at hT hN hM
          have FD1 := Lib.hid (show Fix W1.heap.size wr.heap.size g13 g14 29 4 (.slice Au n cu) n ((ds.filter (dIn l id)).flatMap dcs) wr from ⟨hT.ou, fun b hb => by have := hT.ou.lt b hb; have := hT.lt; omega⟩)
          have FD2 := Lib.hid (show Fix W1.heap.size wr.heap.size g13 g14 29 4 (.slice Av m cv) m ((ds.filter (dOut l id)).flatMap dcs) wr from ⟨hT.ov, fun b hb => by have := hT.ov.lt b hb; have := hT.lt; omega⟩)
          have HTW := Lib.hid (show Two wr.heap.size g13 g14 63 6 (.slice none 0 0) (.slice none 0 0) (((ws.take 0).filter (wIn l id)).flatMap wcs) (((ws.take 0).filter (wOut l id)).flatMap wcs) 0 0 #[.slice Au n cu, .slice none 0 0] #[.slice Av m cv, .slice none 0 0] wr from ⟨by have := hT.lt; have := hT.sz; omega, hT.cg, hT.ch, World.ownsRow_nil _ _ _ _, World.ownsRow_nil _ _ _ _, fun b hb => (by cases hb), Nat.le_refl _⟩)
          have HNE := Lib.hid hN
          have HME := Lib.hid hM
          have HW2 := Lib.hid HB.out.size
          clear hT hN hM HT HNN HMM hkl hk hnk hmk
          rename World => W2
          go_wp2_with fail
          clear k0
          go_loopw [16, 17, 18] (fun i _ _ wr => ∃ (k n2 m2 : Nat) (u v : Value), k ≤ ws.length ∧ i = .int .i64 (k : Int) ∧ n2 ≤ k ∧ m2 ≤ k ∧ n2 = ((ws.take k).filter (wIn l id)).length ∧ m2 = ((ws.take k).filter (wOut l id)).length ∧ Two W2.heap.size g13 g14 63 6 u v (((ws.take k).filter (wIn l id)).flatMap wcs) (((ws.take k).filter (wOut l id)).flatMap wcs) n2 m2 #[.slice Au n cu, u] #[.slice Av m cv, v] wr ∧ Fix W1.heap.size W2.heap.size g13 g14 29 4 (.slice Au n cu) n ((ds.filter (dIn l id)).flatMap dcs) wr ∧ Fix W1.heap.size W2.heap.size g13 g14 29 4 (.slice Av m cv) m ((ds.filter (dOut l id)).flatMap dcs) wr ∧ Below Wa.heap.size Wa wr) (fun i _ _ _ => ws.length - (intOf i).toNat)
          case atStart => exact ⟨0, 0, 0, _, _, by omega, rfl, by omega, by omega, rfl, rfl, HTW.out, FD1.out, FD2.out, HB.out⟩
          case round =>
            clear HTW FD1 FD2 HB HC4
            obtain ⟨k, n2, m2, u, v, hk, rfl, hnk, hmk, hn, hm, hT, hF1, hF2, hB⟩ := hrel
            have HB := Lib.hid hB
            have HT := Lib.hid hT
            have HNN := Lib.hid hn
            have HMM := Lib.hid hm
            have HF1 := Lib.hid hF1
            have HF2 := Lib.hid hF2
            have HC4 := Lib.hid (HC3.out.then_ hB)
            have k0 := HC4.out.c1
            obtain ⟨Bu, bu, rfl, _⟩ := own_slice hT.ou
            obtain ⟨Bv, bv, rfl, _⟩ := own_slice hT.ov
            clear hB hT hn hm hF1 hF2
            by_cases hkl : k < ws.length
            · have hkI : (k : Int) < (ws.length : Int) := by omega
              have hk0 : (0 : Int) ≤ (k : Int) := by omega
              obtain ⟨b1, o1, rfl, c0, c1, c2, c3, c4, c5⟩ := (HWW.out.then_ HC4.out.bel) k hkl
              have hts := take_succ (d := w0) hkl
              obtain ⟨x, hx⟩ : ∃ x, ws.getD k w0 = x := ⟨_, rfl⟩
              rw [hx] at c0 c1 c2 c3 c4 c5 hts
              have HTS := Lib.hid hts
              have HH1 := Lib.hid (has_any Ai ci bl x.src wr HBLL.out (IIa.out.then_ HB.out))
              have HH2 := Lib.hid (has_any Ai ci bl x.dst wr HBLL.out (IIa.out.then_ HB.out))
              rw [HIN.out] at HH1 HH2
              have HBS := Lib.hid (show Wa.heap.size ≤ wr.heap.size from HB.out.size)
              have HC2S := Lib.hid (show Wa.heap.size ≤ W2.heap.size from HW2.out)
              have hTsz := HT.out.sz
              clear hts hx
              obtain ⟨fr, hfr⟩ : ∃ fr, insB l id x.src = fr := ⟨_, rfl⟩
              obtain ⟨tt, hto⟩ : ∃ tt, insB l id x.dst = tt := ⟨_, rfl⟩
              rw [hfr] at HH1
              rw [hto] at HH2
              have HI1 := Lib.hid (show wIn l id x = (fr && tt) by unfold wIn; rw [hfr, hto])
              have HI2 := Lib.hid (show wOut l id x = (!fr && !tt) by unfold wOut; rw [hfr, hto])
              clear hfr hto
              go_wp2_with fail
              refine HH1.out.mono ?_
              rintro e w4 ⟨rfl, rfl⟩
              go_wp2_with fail
              refine HH2.out.mono ?_
              rintro e w4 ⟨rfl, rfl⟩
              clear HH1 HH2
              cases fr with
              | true =>
                cases tt with
                | true =>
                  have HT1 := Lib.hid (show (ws.take (k + 1)).filter (wIn l id) = (ws.take k).filter (wIn l id) ++ [x] by rw [HTS.out, List.filter_append, List.filter_cons, if_pos (by rw [HI1.out]; rfl)]; rfl)
                  have HT2 := Lib.hid (show (ws.take (k + 1)).filter (wOut l id) = (ws.take k).filter (wOut l id) by rw [HTS.out, List.filter_append, List.filter_cons, if_neg (by rw [HI2.out]; simp)]; simp)
                  have HGN := Lib.hid (show ∀ q ∈ (Value.slice Bu n2 bu).ownBlock.toList, q ≠ g13 from fun q hq e => by
                    have := (HT.out.ou.lt q (own_mem hq)).1
                    have := HT.out.lt
                    omega)
                  have q0 := (cells2 HT.out.cg).2
                  have lg := lt_size q0
                  go_upto_region 23 with fail
                  go_region_law (first
                    | (refine step_append1 (by rfl) _ _ 27 (by rfl) W2.heap.size 63 t0 _ 6 48 Try.underlying27 J0.out J1.out J2.out J3.out rfl (by omega) (by omega) (Value.slice Bu n2 bu) n2 _ (by rfl) ((HT.out.ou.alloc _).drew) wr.heap.size [.int .i64 x.code, .int .i64 x.src, .int .i64 x.out, .int .i64 x.dst, .int .i64 x.inp, .int .i64 x.delay] (by rfl) rfl (fun j u h => new_cell (by simpa using h)) (by simp [Value.oneCell']) (by omega) (by first | (simp; done) | (simp; omega)) ?_; intro g' c' w8 own' k' n'; have OW := Lib.hid own'; have KW := Lib.hid (show Kept (Value.slice Bu n2 bu).ownBlock.toList wr w8 from ((Kept.refl _ wr).alloc _).drew.trans k' (New.refl _ _)); have NW := Lib.hid n'; have p0 := (cells2 (KW.out.heap HT.out.cg (fun e => HGN.out _ e rfl))).2; have f0 := frozen_of_row _ g13 1 _ _ (KW.out.heap HT.out.cg (fun e => HGN.out _ e rfl)); clear own' k' n')
                    | fail)
                  all_goals (
                    go_wp2_with fail
                    have ht := HT.out.step (new := wcs x) (b := g') (c := c') 1 OW.out KW.out (NW.out.imp (fun h => h) (fun h => by simp at h; omega))
                    refine ⟨⟨k + 1, n2 + 1, m2, .slice (some ⟨g', 0, none⟩) (n2 + 1) c', .slice Bv m2 bv, by omega, by go_num, by omega, by omega, by rw [HT1.out, List.length_append, ← HNN.out]; rfl, by rw [HT2.out]; exact HMM.out, ?_, HF1.out.step KW.out (fun q hq => (HT.out.ou.lt q (own_mem hq)).1) g13 1 (.inl rfl) _, HF2.out.step KW.out (fun q hq => (HT.out.ou.lt q (own_mem hq)).1) g13 1 (.inl rfl) _, (KW.out.below_next HB.out HBS.out (fun q hq => by have := (HT.out.ou.lt q (own_mem hq)).1; have := HC2S.out; omega)).setCell (by have := HG1.out; dsimp only; omega) _⟩, by simp [intOf]; omega⟩
                    rw [HT1.out, HT2.out, List.flatMap_append]
                    simpa using ht)
                | false =>
                  have HT1 := Lib.hid (show (ws.take (k + 1)).filter (wIn l id) = (ws.take k).filter (wIn l id) by rw [HTS.out, List.filter_append, List.filter_cons, if_neg (by rw [HI1.out]; simp)]; simp)
                  have HT2 := Lib.hid (show (ws.take (k + 1)).filter (wOut l id) = (ws.take k).filter (wOut l id) by rw [HTS.out, List.filter_append, List.filter_cons, if_neg (by rw [HI2.out]; simp)]; simp)
                  go_wp2_with fail
                  exact ⟨⟨k + 1, n2, m2, _, _, by omega, by go_num, by omega, by omega, by rw [HT1.out]; exact HNN.out, by rw [HT2.out]; exact HMM.out, by rw [HT1.out, HT2.out]; exact HT.out, HF1.out, HF2.out, HB.out⟩, by simp [intOf]; omega⟩
              | false =>
                cases tt with
                | true =>
                  have HT1 := Lib.hid (show (ws.take (k + 1)).filter (wIn l id) = (ws.take k).filter (wIn l id) by rw [HTS.out, List.filter_append, List.filter_cons, if_neg (by rw [HI1.out]; simp)]; simp)
                  have HT2 := Lib.hid (show (ws.take (k + 1)).filter (wOut l id) = (ws.take k).filter (wOut l id) by rw [HTS.out, List.filter_append, List.filter_cons, if_neg (by rw [HI2.out]; simp)]; simp)
                  go_wp2_with fail
                  exact ⟨⟨k + 1, n2, m2, _, _, by omega, by go_num, by omega, by omega, by rw [HT1.out]; exact HNN.out, by rw [HT2.out]; exact HMM.out, by rw [HT1.out, HT2.out]; exact HT.out, HF1.out, HF2.out, HB.out⟩, by simp [intOf]; omega⟩
                | false =>
                  have HT1 := Lib.hid (show (ws.take (k + 1)).filter (wIn l id) = (ws.take k).filter (wIn l id) by rw [HTS.out, List.filter_append, List.filter_cons, if_neg (by rw [HI1.out]; simp)]; simp)
                  have HT2 := Lib.hid (show (ws.take (k + 1)).filter (wOut l id) = (ws.take k).filter (wOut l id) ++ [x] by rw [HTS.out, List.filter_append, List.filter_cons, if_pos (by rw [HI2.out]; rfl)]; rfl)
                  have HGN := Lib.hid (show ∀ q ∈ (Value.slice Bv m2 bv).ownBlock.toList, q ≠ g14 from fun q hq e => by
                    have := (HT.out.ov.lt q (own_mem hq)).1
                    have := HT.out.lt
                    omega)
                  have q0 := (cells2 HT.out.ch).2
                  have lg := lt_size q0
                  go_upto_region 25 with fail
                  go_region_law (first
                    | (refine step_append1 (by rfl) _ _ 27 (by rfl) W2.heap.size 63 t0 _ 6 48 Try.underlying27 J0.out J1.out J2.out J3.out rfl (by omega) (by omega) (Value.slice Bv m2 bv) m2 _ (by rfl) ((HT.out.ov.alloc _).drew) wr.heap.size [.int .i64 x.code, .int .i64 x.src, .int .i64 x.out, .int .i64 x.dst, .int .i64 x.inp, .int .i64 x.delay] (by rfl) rfl (fun j u h => new_cell (by simpa using h)) (by simp [Value.oneCell']) (by omega) (by first | (simp; done) | (simp; omega)) ?_; intro g' c' w8 own' k' n'; have OW := Lib.hid own'; have KW := Lib.hid (show Kept (Value.slice Bv m2 bv).ownBlock.toList wr w8 from ((Kept.refl _ wr).alloc _).drew.trans k' (New.refl _ _)); have NW := Lib.hid n'; have p0 := (cells2 (KW.out.heap HT.out.ch (fun e => HGN.out _ e rfl))).2; have f0 := frozen_of_row _ g14 1 _ _ (KW.out.heap HT.out.ch (fun e => HGN.out _ e rfl)); clear own' k' n')
                    | fail)
                  all_goals (
                    go_wp2_with fail
                    have ht := (HT.out.swap.step (new := wcs x) (b := g') (c := c') 1 OW.out KW.out (NW.out.imp (fun h => h) (fun h => by simp at h; omega))).swap
                    refine ⟨⟨k + 1, n2, m2 + 1, .slice Bu n2 bu, .slice (some ⟨g', 0, none⟩) (m2 + 1) c', by omega, by go_num, by omega, by omega, by rw [HT1.out]; exact HNN.out, by rw [HT2.out, List.length_append, ← HMM.out]; rfl, ?_, HF1.out.step KW.out (fun q hq => (HT.out.ov.lt q (own_mem hq)).1) g14 1 (.inr rfl) _, HF2.out.step KW.out (fun q hq => (HT.out.ov.lt q (own_mem hq)).1) g14 1 (.inr rfl) _, (KW.out.below_next HB.out HBS.out (fun q hq => by have := (HT.out.ov.lt q (own_mem hq)).1; have := HC2S.out; omega)).setCell (by have := HG1.out; dsimp only; omega) _⟩, by simp [intOf]; omega⟩
                    rw [HT1.out, HT2.out, List.flatMap_append]
                    simpa using ht)
            · have hkI : ¬ (k : Int) < (ws.length : Int) := by omega
              have hke : k = ws.length := by omega
              subst hke
              have hT := HT.out
              have hN := HNN.out
              have hM := HMM.out
              rw [List.take_length] at hT hN hM
              have N1 := Lib.hid (show NetAt wr (.slice Au n cu) (.slice Bu n2 bu) (ds.filter (dIn l id)) (ws.filter (wIn l id)) from ⟨d_own HF1.out.1 HNE.out.symm, w_own hT.ou hN.symm⟩)
              have N2 := Lib.hid (show NetAt wr (.slice Av m cv) (.slice Bv m2 bv) (ds.filter (dOut l id)) (ws.filter (wOut l id)) from ⟨d_own HF2.out.1 HME.out.symm, w_own hT.ov hM.symm⟩)
              obtain ⟨p0, p1⟩ := cells2 HC4.out.r6
              obtain ⟨q0, q1⟩ := cells2 HC4.out.r7
              have t0 := frozen_of_row _ r6 0 _ _ HC4.out.r6
              have t1 := frozen_of_row _ r6 1 _ _ HC4.out.r6
              have t2 := frozen_of_row _ r7 0 _ _ HC4.out.r7
              have t3 := frozen_of_row _ r7 1 _ _ HC4.out.r7
              have Y6 : Hid (New2 wr r6) := Lib.hid ⟨p0, p1, t0, t1⟩
              have Y7 : Hid (New2 wr r7) := Lib.hid ⟨q0, q1, t2, t3⟩
              obtain ⟨x0, x1⟩ := cells2 hT.cg
              obtain ⟨x2, x3⟩ := cells2 hT.ch
              obtain ⟨hr1, hr2, hr3⟩ := HRB.out
              have HBT := Lib.hid HC4.out.bel
              have h6a := heap_lt HC3.out.r6
              have h7a := heap_lt HC3.out.r7
              have h6g : r6 < g13 := by have := HG1.out; omega
              have h6h : r6 < g14 := by have := HG1.out; omega
              have h7g : r7 < g13 := by have := HG1.out; omega
              have h7h : r7 < g14 := by have := HG1.out; omega
              clear h6a h7a
              clear hT hN hM HT HNN HMM HF1 HF2
              go_upto_region 26 with fail
              clear k0
              go_region_held_law (fun w' => w'.cell? ⟨g13, 0, none⟩ = some (.slice Au n cu) ∧ w'.cell? ⟨g13, 1, none⟩ = some (.slice Bu n2 bu) ∧ w'.cell? ⟨g14, 0, none⟩ = some (.slice Av m cv) ∧ w'.cell? ⟨g14, 1, none⟩ = some (.slice Bv m2 bv)) (((try simp only [World.cell?_drew]); refine ⟨?_, ?_, ?_, ?_⟩ <;> (repeat (first | with_reducible assumption | with_reducible refine cell_set _ ?_ (by dsimp only; omega))))) (fail)
              all_goals (
                go_wp2_with fail
                first
                    | (obtain ⟨V1, hV1⟩ : ∃ V1, (wr.setCell ⟨r6, 0, none⟩ (.slice Au n cu)).setCell ⟨r6, 1, none⟩ (.slice Bu n2 bu) = V1 := ⟨_, rfl⟩
                       obtain ⟨y0, y1, ny1⟩ := N1.out.fill Y6.out (.slice Au n cu) (.slice Bu n2 bu)
                       obtain ⟨_, _, ny2⟩ := N2.out.fill Y6.out (.slice Au n cu) (.slice Bu n2 bu)
                       have Z7 := (Y7.out.other (show r7 ≠ r6 by omega) 0 (.slice Au n cu)).other (show r7 ≠ r6 by omega) 1 (.slice Bu n2 bu)
                       rw [hV1] at y0 y1 ny1 ny2 Z7 ⊢
                       obtain ⟨z0, z1, nz2⟩ := ny2.fill Z7 (.slice Av m cv) (.slice Bv m2 bv)
                       obtain ⟨_, _, nz1⟩ := ny1.fill Z7 (.slice Av m cv) (.slice Bv m2 bv)
                       have y0 := cell_set (p := ⟨r7, 1, none⟩) (.slice Bv m2 bv) (cell_set (p := ⟨r7, 0, none⟩) (.slice Av m cv) y0 (by dsimp only; omega)) (by dsimp only; omega)
                       have y1 := cell_set (p := ⟨r7, 1, none⟩) (.slice Bv m2 bv) (cell_set (p := ⟨r7, 0, none⟩) (.slice Av m cv) y1 (by dsimp only; omega)) (by dsimp only; omega)
                       have hbV : Below w.heap.size w ((V1.setCell ⟨r7, 0, none⟩ (.slice Av m cv)).setCell ⟨r7, 1, none⟩ (.slice Bv m2 bv)) := by
                         rw [← hV1]
                         exact (((HBT.out.setCell (by dsimp only; omega) _).setCell (by dsimp only; omega) _).setCell (by dsimp only; omega) _).setCell (by dsimp only; omega) _
                       obtain ⟨V2, hV2⟩ : ∃ V2, (V1.setCell ⟨r7, 0, none⟩ (.slice Av m cv)).setCell ⟨r7, 1, none⟩ (.slice Bv m2 bv) = V2 := ⟨_, rfl⟩
                       rw [hV2] at y0 y1 z0 z1 nz1 nz2 hbV ⊢
                       have y0 : V2.drew.cell? ⟨r6, 0, none⟩ = _ := y0
                       have y1 : V2.drew.cell? ⟨r6, 1, none⟩ = _ := y1
                       have z0 : V2.drew.cell? ⟨r7, 0, none⟩ = _ := z0
                       have z1 : V2.drew.cell? ⟨r7, 1, none⟩ = _ := z1
                       first
                         | refine bodyPost_ret (v := .tuple #[nv (.slice Au n cu) (.slice Bu n2 bu), nv (.slice Av m cv) (.slice Bv m2 bv), .int .i64 0]) (by unfold nv; simp [results, Try.results30, y0, y1, z0, z1, asAddr, Result.andThen, go_sem]) rfl ?_
                         | refine bodyPost_end (v := .tuple #[nv (.slice Au n cu) (.slice Bu n2 bu), nv (.slice Av m cv) (.slice Bv m2 bv), .int .i64 0]) (by unfold nv; simp [results, Try.results30, y0, y1, z0, z1, asAddr, Result.andThen, go_sem]) rfl ?_
                       exact ⟨_, _, _, _, rfl, nz1.then_ (Below.drew (Below.refl _ _)), nz2.then_ (Below.drew (Below.refl _ _)), Below.drew hbV⟩)
                    | (obtain ⟨V1, hV1⟩ : ∃ V1, (wr.setCell ⟨r7, 0, none⟩ (.slice Av m cv)).setCell ⟨r7, 1, none⟩ (.slice Bv m2 bv) = V1 := ⟨_, rfl⟩
                       obtain ⟨y0, y1, ny1⟩ := N2.out.fill Y7.out (.slice Av m cv) (.slice Bv m2 bv)
                       obtain ⟨_, _, ny2⟩ := N1.out.fill Y7.out (.slice Av m cv) (.slice Bv m2 bv)
                       have Z7 := (Y6.out.other (show r6 ≠ r7 by omega) 0 (.slice Av m cv)).other (show r6 ≠ r7 by omega) 1 (.slice Bv m2 bv)
                       rw [hV1] at y0 y1 ny1 ny2 Z7 ⊢
                       obtain ⟨z0, z1, nz2⟩ := ny2.fill Z7 (.slice Au n cu) (.slice Bu n2 bu)
                       obtain ⟨_, _, nz1⟩ := ny1.fill Z7 (.slice Au n cu) (.slice Bu n2 bu)
                       have y0 := cell_set (p := ⟨r6, 1, none⟩) (.slice Bu n2 bu) (cell_set (p := ⟨r6, 0, none⟩) (.slice Au n cu) y0 (by dsimp only; omega)) (by dsimp only; omega)
                       have y1 := cell_set (p := ⟨r6, 1, none⟩) (.slice Bu n2 bu) (cell_set (p := ⟨r6, 0, none⟩) (.slice Au n cu) y1 (by dsimp only; omega)) (by dsimp only; omega)
                       have hbV : Below w.heap.size w ((V1.setCell ⟨r6, 0, none⟩ (.slice Au n cu)).setCell ⟨r6, 1, none⟩ (.slice Bu n2 bu)) := by
                         rw [← hV1]
                         exact (((HBT.out.setCell (by dsimp only; omega) _).setCell (by dsimp only; omega) _).setCell (by dsimp only; omega) _).setCell (by dsimp only; omega) _
                       obtain ⟨V2, hV2⟩ : ∃ V2, (V1.setCell ⟨r6, 0, none⟩ (.slice Au n cu)).setCell ⟨r6, 1, none⟩ (.slice Bu n2 bu) = V2 := ⟨_, rfl⟩
                       rw [hV2] at y0 y1 z0 z1 nz1 nz2 hbV ⊢
                       have y0 : V2.drew.cell? ⟨r7, 0, none⟩ = _ := y0
                       have y1 : V2.drew.cell? ⟨r7, 1, none⟩ = _ := y1
                       have z0 : V2.drew.cell? ⟨r6, 0, none⟩ = _ := z0
                       have z1 : V2.drew.cell? ⟨r6, 1, none⟩ = _ := z1
                       first
                         | refine bodyPost_ret (v := .tuple #[nv (.slice Au n cu) (.slice Bu n2 bu), nv (.slice Av m cv) (.slice Bv m2 bv), .int .i64 0]) (by unfold nv; simp [results, Try.results30, y0, y1, z0, z1, asAddr, Result.andThen, go_sem]) rfl ?_
                         | refine bodyPost_end (v := .tuple #[nv (.slice Au n cu) (.slice Bu n2 bu), nv (.slice Av m cv) (.slice Bv m2 bv), .int .i64 0]) (by unfold nv; simp [results, Try.results30, y0, y1, z0, z1, asAddr, Result.andThen, go_sem]) rfl ?_
                       exact ⟨_, _, _, _, rfl, nz2.then_ (Below.drew (Below.refl _ _)), nz1.then_ (Below.drew (Below.refl _ _)), Below.drew hbV⟩))
end Go.Proofs.Ytebfenkjipaedaa.Gr
