/- The reference's Net: a net that integers determine. -/
import Derived.Test.YtebfenkjipaedaaGrpMade2
import Derived.Test.YtebfenkjipaedaaGrpCol2
namespace Go.Proofs.Ytebfenkjipaedaa.Gr
open Go.RowKit Gp Go.Sort
attribute [local go_sem] Oper.semAt_some
def devN (k : Nat) : Dev := ⟨10 * ((k : Int) + 1), 1 + (k : Int) % 5, ⟨#[]⟩, (k : Int)⟩
def wirN (y : List (Int × Int)) (k : Nat) : Wir := ⟨1000 + (k : Int), 10 * (1 + pickI (y.getD k (0, 0)).1 16), 0, 10 * (1 + pickI (y.getD k (0, 0)).2 16), 0, (k : Int) % 3⟩
def devsN (n : Nat) : List Dev := (List.range n).map devN
def wirsN (y : List (Int × Int)) (n : Nat) : List Wir := (List.range n).map (wirN y)
theorem devsN_len (n : Nat) : (devsN n).length = n := by simp [devsN]
theorem wirsN_len (y : List (Int × Int)) (n : Nat) : (wirsN y n).length = n := by simp [wirsN]
theorem devsN_succ (n : Nat) : devsN (n + 1) = devsN n ++ [devN n] := by simp [devsN, List.range_succ]
theorem wirsN_succ (y : List (Int × Int)) (n : Nat) : wirsN y (n + 1) = wirsN y n ++ [wirN y n] := by simp [wirsN, List.range_succ]
theorem devsN_get {n i : Nat} (h : i < n) : (devsN n).getD i d0 = devN i := by rw [getD_eq (by rw [devsN_len]; exact h)]; simp [devsN]
theorem wirsN_get {y : List (Int × Int)} {n i : Nat} (h : i < n) : (wirsN y n).getD i w0 = wirN y i := by rw [getD_eq (by rw [wirsN_len]; exact h)]; simp [wirsN]
theorem devsN_ok {n : Nat} (hn : n ≤ 100) : DsOk (devsN n) := fun j hj => by
  rw [devsN_len] at hj
  rw [devsN_get hj]
  unfold dW devN I64
  dsimp only
  omega
theorem wirsN_ok {y : List (Int × Int)} {n : Nat} : WsOk (wirsN y n) := fun j hj => by
  rw [wirsN_len] at hj
  rw [wirsN_get hj]
  have h1 := pickI_bd (y.getD j (0, 0)).1 (n := 16) (by omega)
  have h2 := pickI_bd (y.getD j (0, 0)).2 (n := 16) (by omega)
  unfold wW wirN I64
  dsimp only
  omega
theorem devsN_rise (n : Nat) : riseB ((devsN n).map (·.code)) = true := riseB_iff.2 (fun i hi => by
  rw [List.length_map, devsN_len] at hi
  rw [getD_map (d := d0) (by rw [devsN_len]; omega), getD_map (d := d0) (by rw [devsN_len]; exact hi), devsN_get (by omega), devsN_get hi]
  unfold devN
  dsimp only
  omega)
theorem wirsN_rise (y : List (Int × Int)) (n : Nat) : riseB ((wirsN y n).map (·.code)) = true := riseB_iff.2 (fun i hi => by
  rw [List.length_map, wirsN_len] at hi
  rw [getD_map (d := w0) (by rw [wirsN_len]; omega), getD_map (d := w0) (by rw [wirsN_len]; exact hi), wirsN_get (by omega), wirsN_get hi]
  unfold wirN
  dsimp only
  omega)
/-- the net while it grows: its block, the result's block, its rows -/
structure NetS (B n4 n5 : Nat) (vd vw : Value) (ds : List Dev) (ws : List Wir) (W : World) : Prop where
  lt : n4 < n5 ∧ n5 < B
  r : W.heap[n4]? = some (.cells #[.slice none 0 0, .slice none 0 0] 36 (0, 0))
  c : W.heap[n5]? = some (.cells #[vd, vw] 36 (0, 0))
  d : W.ownsRow B 29 4 vd ds.length (ds.flatMap dcs)
  w : W.ownsRow B 63 6 vw ws.length (ws.flatMap wcs)
  dw : ∀ b, vd.ownBlock = some b → vw.ownBlock ≠ some b
  sz : B ≤ W.heap.size
theorem NetS.then_ {B n4 n5 : Nat} {vd vw : Value} {ds : List Dev} {ws : List Wir} {W W' : World} (h : NetS B n4 n5 vd vw ds ws W) (hb : Below W.heap.size W W') : NetS B n4 n5 vd vw ds ws W' :=
  ⟨h.lt, (Kept.of_below hb).heap h.r (by simp), (Kept.of_below hb).heap h.c (by simp), own_then h.d hb, own_then h.w hb, h.dw, by have := h.sz; have := hb.size; omega⟩
theorem NetS.dev {B n4 n5 : Nat} {vd vw : Value} {ds : List Dev} {ws : List Wir} {W W' : World} (h : NetS B n4 n5 vd vw ds ws W) {x : Dev} {g c : Nat} (ho : W'.ownsRow B 29 4 (.slice (some ⟨g, 0, none⟩) (ds.length + 1) c) (ds.length + 1) (ds.flatMap dcs ++ dcs x))
    (hk : Kept vd.ownBlock.toList W W') (hb : vd.ownBlock = some g ∨ W.heap.size ≤ g) : NetS B n4 n5 (.slice (some ⟨g, 0, none⟩) (ds.length + 1) c) vw (ds ++ [x]) ws (W'.setCell ⟨n5, 0, none⟩ (.slice (some ⟨g, 0, none⟩) (ds.length + 1) c)) := by
  have hlt := h.lt
  have hd : ∀ q ∈ vd.ownBlock.toList, B ≤ q := fun q hq => (h.d.lt q (own_mem hq)).1
  have hgB : B ≤ g := by
    rcases hb with e | e
    · exact (h.d.lt g e).1
    · have := h.sz; omega
  have hgn : g ≠ n5 := by omega
  have hc' := hk.heap h.c (fun e => by have := hd _ e; omega)
  have hr' := hk.heap h.r (fun e => by have := hd _ e; omega)
  refine ⟨hlt, ?_, ?_, own_set (by rw [List.length_append, List.length_singleton, List.flatMap_append]; simpa using ho) (fun e => hgn (by simpa [Value.ownBlock] using e)) _, own_set (hk.own h.w (fun q hq e => h.dw q (own_mem e) hq)) (fun e => by have := (h.w.lt _ e).1; dsimp only at this; omega) _, fun b hb1 hb2 => ?_, by have := hk.size; have := h.sz; simp [World.setCell]; omega⟩
  · rw [Below.heap_setCell _ _ _ _ (by dsimp only; omega)]; exact hr'
  · rw [heap_setCell_same _ _ _ _ _ _ hc']; rfl
  · have e1 : g = b := by simpa [Value.ownBlock] using hb1
    subst e1
    rcases hb with e | e
    · exact h.dw g e hb2
    · have := (h.w.lt g hb2).2; omega
theorem NetS.wir {B n4 n5 : Nat} {vd vw : Value} {ds : List Dev} {ws : List Wir} {W W' : World} (h : NetS B n4 n5 vd vw ds ws W) {x : Wir} {g c : Nat} (ho : W'.ownsRow B 63 6 (.slice (some ⟨g, 0, none⟩) (ws.length + 1) c) (ws.length + 1) (ws.flatMap wcs ++ wcs x))
    (hk : Kept vw.ownBlock.toList W W') (hb : vw.ownBlock = some g ∨ W.heap.size ≤ g) : NetS B n4 n5 vd (.slice (some ⟨g, 0, none⟩) (ws.length + 1) c) ds (ws ++ [x]) (W'.setCell ⟨n5, 1, none⟩ (.slice (some ⟨g, 0, none⟩) (ws.length + 1) c)) := by
  have hlt := h.lt
  have hd : ∀ q ∈ vw.ownBlock.toList, B ≤ q := fun q hq => (h.w.lt q (own_mem hq)).1
  have hgB : B ≤ g := by
    rcases hb with e | e
    · exact (h.w.lt g e).1
    · have := h.sz; omega
  have hgn : g ≠ n5 := by omega
  have hc' := hk.heap h.c (fun e => by have := hd _ e; omega)
  have hr' := hk.heap h.r (fun e => by have := hd _ e; omega)
  refine ⟨hlt, ?_, ?_, own_set (hk.own h.d (fun q hq e => h.dw q hq (own_mem e))) (fun e => by have := (h.d.lt _ e).1; dsimp only at this; omega) _, own_set (by rw [List.length_append, List.length_singleton, List.flatMap_append]; simpa using ho) (fun e => hgn (by simpa [Value.ownBlock] using e)) _, fun b hb1 hb2 => ?_, by have := hk.size; have := h.sz; simp [World.setCell]; omega⟩
  · rw [Below.heap_setCell _ _ _ _ (by dsimp only; omega)]; exact hr'
  · rw [heap_setCell_same _ _ _ _ _ _ hc']; rfl
  · have e1 : g = b := by simpa [Value.ownBlock] using hb2
    subst e1
    rcases hb with e | e
    · exact h.dw g hb1 e
    · have := (h.d.lt g hb1).2; omega
-- walk
theorem d_own {w : World} {base n : Nat} {v : Value} {l : List Dev} (h : w.ownsRow base 29 4 v n (l.flatMap dcs)) (hl : l.length = n) : ∃ A c, v = .slice A l.length c ∧ DevsAt w A l := by
  rcases h.2 with ⟨rfl, h0⟩ | ⟨g, cap, cur, rfl, _⟩
  · have : l = [] := List.eq_nil_of_length_eq_zero (by omega)
    subst this
    exact ⟨none, 0, rfl, fun i hi => by simp at hi⟩
  · subst hl
    exact ⟨_, _, rfl, d_of_rec (rec_of_own dcs_len h rfl) (Nat.le_refl _)⟩
theorem w_own {w : World} {base n : Nat} {v : Value} {l : List Wir} (h : w.ownsRow base 63 6 v n (l.flatMap wcs)) (hl : l.length = n) : ∃ A c, v = .slice A l.length c ∧ WirsAt w A l := by
  rcases h.2 with ⟨rfl, h0⟩ | ⟨g, cap, cur, rfl, _⟩
  · have : l = [] := List.eq_nil_of_length_eq_zero (by omega)
    subst this
    exact ⟨none, 0, rfl, fun i hi => by simp at hi⟩
  · subst hl
    exact ⟨_, _, rfl, w_of_rec (rec_of_own wcs_len h rfl) (Nat.le_refl _)⟩
/-- the result's block, written -/
theorem NetS.res {B n4 n5 : Nat} {vd vw : Value} {ds : List Dev} {ws : List Wir} {W : World} (h : NetS B n4 n5 vd vw ds ws W) : NetAt ((W.setCell ⟨n4, 0, none⟩ vd).setCell ⟨n4, 1, none⟩ vw) vd vw ds ws ∧ ((W.setCell ⟨n4, 0, none⟩ vd).setCell ⟨n4, 1, none⟩ vw).cell? ⟨n4, 0, none⟩ = some vd ∧ ((W.setCell ⟨n4, 0, none⟩ vd).setCell ⟨n4, 1, none⟩ vw).cell? ⟨n4, 1, none⟩ = some vw := by
  have hx : ((W.setCell ⟨n4, 0, none⟩ vd).setCell ⟨n4, 1, none⟩ vw).heap[n4]? = some (.cells #[vd, vw] 36 (0, 0)) := by
    rw [heap_setCell_same _ n4 1 _ _ _ (heap_setCell_same W n4 0 _ _ _ h.r)]; rfl
  have hlt := h.lt
  have hd := own_set (own_set h.d (p := ⟨n4, 0, none⟩) (fun e => by have := (h.d.lt _ e).1; dsimp only at this; omega) vd) (p := ⟨n4, 1, none⟩) (fun e => by have := (h.d.lt _ e).1; dsimp only at this; omega) vw
  have hw := own_set (own_set h.w (p := ⟨n4, 0, none⟩) (fun e => by have := (h.w.lt _ e).1; dsimp only at this; omega) vd) (p := ⟨n4, 1, none⟩) (fun e => by have := (h.w.lt _ e).1; dsimp only at this; omega) vw
  exact ⟨⟨d_own hd rfl, w_own hw rfl⟩, cell_of_row _ n4 0 _ _ _ hx, cell_of_row _ n4 1 _ _ _ hx⟩
set_option maxRecDepth 100000 in
set_option maxHeartbeats 8000000 in
theorem net_any (dv : Int) (A : Option Addr) (c : Nat) (rows : List (Int × Int)) (w : World) (hdv : I64 dv) (hA : P2At w A rows) (hAO : P2Ok rows) (hAl : rows.length ≤ 9223372036854775807) :
    Calls Try.prog 14 #[.int .i64 dv, .slice A rows.length c] w fun e w' => ∃ d x ds ws, e = .returned (nv d x) ∧ NetAt w' d x ds ws ∧ DsOk ds ∧ WsOk ws ∧ riseB (ds.map (·.code)) = true ∧ riseB (ws.map (·.code)) = true ∧ ds.length ≤ 13 ∧ ws.length ≤ 20 ∧ Below w.heap.size w w' := by
  obtain ⟨i0, hi0, i1, i2, i3⟩ := info_parts d_info
  obtain ⟨t0, ht0, t1, t2, t3⟩ := info_parts w_info
  have HA := Lib.hid hA
  have HAO := Lib.hid hAO
  have hrl : (rows.length : Int) ≤ 9223372036854775807 := by omega
  have HPD := Lib.hid (fun W => pickR_any dv 13 W hdv (by omega) (by omega))
  obtain ⟨N, hN⟩ : ∃ N, pickI dv 13 = N := ⟨_, rfl⟩
  have hNb := pickI_bd dv (n := 13) (by omega)
  rw [hN] at HPD hNb
  obtain ⟨hN0, hN1⟩ := hNb
  clear hN hA hAO hdv
  go_enter Try.func14, Try.ntmps14
  go_upto_region 2 with fail
  obtain ⟨W0, hW0⟩ : ∃ W0, (w.alloc (.cells #[.slice none 0 0, .slice none 0 0] 36)).alloc (.cells #[.slice none 0 0, .slice none 0 0] 36) = W0 := ⟨_, rfl⟩
  have N0 : W0.heap[w.heap.size]? = some (.cells #[.slice none 0 0, .slice none 0 0] 36 (0, 0)) := by rw [← hW0]; exact heap_alloc (World.alloc_heap_new _ _) _
  have N1 : W0.heap[w.heap.size + 1]? = some (.cells #[.slice none 0 0, .slice none 0 0] 36 (0, 0)) := by
    have h := World.alloc_heap_new (w.alloc (.cells #[.slice none 0 0, .slice none 0 0] 36)) (.cells #[.slice none 0 0, .slice none 0 0] 36)
    rw [World.size_alloc, hW0] at h
    exact h
  have hsz : W0.heap.size = w.heap.size + 1 + 1 := by rw [← hW0, World.size_alloc, World.size_alloc]
  have H0 : Below w.heap.size w W0 := by rw [← hW0]; exact below_alloc (below_alloc (Below.refl _ _) _) _
  rw [hW0]
  obtain ⟨n4, hn4⟩ : ∃ n, w.heap.size = n := ⟨_, rfl⟩
  obtain ⟨n5, hn5⟩ : ∃ n, w.heap.size + 1 = n := ⟨_, rfl⟩
  have HS := Lib.hid (show NetS W0.heap.size n4 n5 (.slice none 0 0) (.slice none 0 0) (devsN 0) (wirsN rows 0) W0 from ⟨by omega, by rw [← hn4]; exact N0, by rw [← hn5]; exact N1, World.ownsRow_nil _ _ _ _, World.ownsRow_nil _ _ _ _, fun b hb => (by cases hb), Nat.le_refl _⟩)
  have HW := Lib.hid H0
  have hwn : w.heap.size ≤ n4 := by omega
  have hw0 : w.heap.size ≤ W0.heap.size := by omega
  rw [hn5, hn4]
  clear N0 N1 hsz H0 hW0 hn4 hn5
  go_wp2_with fail
  go_loopw [6] (fun i wr => ∃ (k : Nat) (vd : Value), k ≤ 13 ∧ i = .int .i64 (k : Int) ∧ NetS W0.heap.size n4 n5 vd (.slice none 0 0) (devsN k) (wirsN rows 0) wr ∧ Below w.heap.size w wr) (fun i _ => 14 - (intOf i).toNat)
  case atStart => exact ⟨0, _, by omega, rfl, HS.out, HW.out⟩
  case round =>
    obtain ⟨k, vd, hk, rfl, hS, hB⟩ := hrel
    have HSK := Lib.hid hS
    have HB := Lib.hid hB
    clear hS hB
    have hk0 : (0 : Int) ≤ (k : Int) := by omega
    obtain ⟨Ad, cd, rfl, _⟩ := own_slice HSK.out.d
    rw [devsN_len] at HSK

    go_wp2_with fail
    refine (HPD.out _).mono ?_
    rintro e w5 ⟨rfl, rfl⟩
    by_cases hkN : (k : Int) < N
    · have hkI : (k : Int) < N := hkN
      have q0 := cell_of_row _ n5 0 _ _ _ HSK.out.c
      have q1 := cell_of_row _ n5 1 _ _ _ HSK.out.c
      have hbs := HSK.out.sz
      have HOD := Lib.hid HSK.out.d
      rw [devsN_len] at HOD
      have hqn : ∀ q ∈ (Value.slice Ad k cd).ownBlock.toList, q ≠ n5 := fun q hq e => by
        have := (HSK.out.d.lt q (own_mem hq)).1
        have := HSK.out.lt
        omega
      have HC8 := Lib.hid (fun (W : World) (hW : Kept (Value.slice Ad k cd).ownBlock.toList wr W) => (show W.heap[n5]? = some (.cells #[.slice Ad k cd, .slice none 0 0] 36 (0, 0)) from hW.heap HSK.out.c (fun e => hqn n5 e rfl)))
      clear hqn
      go_wp2_with (at_builtin; refine wpList_append1 rfl _ _ 34 rfl W0.heap.size 29 i0 _ 4 40 Try.underlying34 hi0 i1 i2 i3 rfl (by omega) (by omega) (.slice Ad k cd) k _ rfl HOD.out #[.int .i64 (10 * ((k : Int) + 1)), .int .i64 (1 + (k : Int) % 5), .string ⟨#[]⟩, .int .i64 (k : Int)] rfl rfl (by simp [Value.oneCell']) (by omega) hbs ?_; intro g' c' w8 own' k' n'; have OW := Lib.hid own'; have KW := Lib.hid k'; have NW := Lib.hid n'; have hc8 := HC8.out _ k'; have p0 := cell_of_row _ n5 0 _ _ _ hc8; have f0 := frozen_of_row _ n5 0 _ _ hc8; clear own' k' n' hc8)
      have hd := HSK.out.dev (x := devN k) (g := g') (c := c') (W' := w8) (by rw [devsN_len]; exact OW.out) KW.out NW.out
      rw [devsN_len, ← devsN_succ] at hd
      refine ⟨⟨k + 1, _, by omega, by go_num, hd, (KW.out.below_next HB.out (by have := HB.out.size; omega) (fun q hq => by have := (HOD.out.lt q (own_mem hq)).1; omega)).setCell (by have := HSK.out.lt; dsimp only; omega) _⟩, ?_⟩
      simp [intOf]; omega
    · have hkI : ¬ (k : Int) < N := hkN
      go_wp2_with fail
      go_loopw [7] (fun i wx => ∃ (j : Nat) (vw : Value), j ≤ 20 ∧ j ≤ rows.length ∧ i = .int .i64 (j : Int) ∧ NetS W0.heap.size n4 n5 (.slice Ad k cd) vw (devsN k) (wirsN rows j) wx ∧ Below w.heap.size w wx) (fun i _ => 21 - (intOf i).toNat)
      case atStart => exact ⟨0, _, by omega, by omega, rfl, HSK.out, HB.out⟩
      case round =>
        obtain ⟨j, vw, hj, hjr, rfl, hS, hB⟩ := hrel
        have HSJ := Lib.hid hS
        have HBJ := Lib.hid hB
        clear hS hB
        have hj0 : (0 : Int) ≤ (j : Int) := by omega
        obtain ⟨Aw, cw, rfl, _⟩ := own_slice HSJ.out.w
        rw [wirsN_len] at HSJ
        have q0 := cell_of_row _ n5 0 _ _ _ HSJ.out.c
        have q1 := cell_of_row _ n5 1 _ _ _ HSJ.out.c
        by_cases hgo : j < rows.length ∧ j < 20
        · obtain ⟨hgo1, hgo2⟩ := hgo
          have hgI : (j : Int) < (rows.length : Int) := by omega
          have hgJ : (j : Int) < 20 := by omega
          have hbs := HSJ.out.sz
          have HOW := Lib.hid HSJ.out.w
          rw [wirsN_len] at HOW
          obtain ⟨b, o, rfl, c0, c1⟩ := (HA.out.then_ HBJ.out) j hgo1
          obtain ⟨hx1, hy1⟩ := HAO.out j hgo1
          have HWE := Lib.hid (show wirN rows j = ⟨1000 + (j : Int), 10 * (1 + pickI (rows.getD j (0, 0)).1 16), 0, 10 * (1 + pickI (rows.getD j (0, 0)).2 16), 0, (j : Int) % 3⟩ from rfl)
          obtain ⟨x, hx⟩ : ∃ x, (rows.getD j (0, 0)).1 = x := ⟨_, rfl⟩
          obtain ⟨y, hy⟩ : ∃ y, (rows.getD j (0, 0)).2 = y := ⟨_, rfl⟩
          rw [hx] at c0 hx1 HWE
          rw [hy] at c1 hy1 HWE
          have HPA := Lib.hid (fun W => pickR_any x 16 W hx1 (by omega) (by omega))
          have HPB := Lib.hid (fun W => pickR_any y 16 W hy1 (by omega) (by omega))
          obtain ⟨p0, p1⟩ := pickI_bd x (n := 16) (by omega)
          obtain ⟨r0, r1⟩ := pickI_bd y (n := 16) (by omega)
          obtain ⟨P, hP⟩ : ∃ P, pickI x 16 = P := ⟨_, rfl⟩
          obtain ⟨R, hR⟩ : ∃ R, pickI y 16 = R := ⟨_, rfl⟩
          rw [hP] at HPA HWE p0 p1
          rw [hR] at HPB HWE r0 r1
          have I1 := Lib.hid ht0
          have I2 := Lib.hid t1
          have I3 := Lib.hid t2
          have I4 := Lib.hid t3
          have hn5 : n5 < wr.heap.size := by have := HSJ.out.lt; omega
          clear hx hy hx1 hy1 hP hR ht0 t1 t2 t3
          go_upto_region 9 with fail
          have hqn : ∀ q ∈ (Value.slice Aw j cw).ownBlock.toList, q ≠ n5 := fun q hq e => by
            have := (HOW.out.lt q (own_mem hq)).1
            have := HSJ.out.lt
            omega
          have HC8 := Lib.hid (fun (W : World) (hW : Kept (Value.slice Aw j cw).ownBlock.toList wr W) => (show W.heap[n5]? = some (.cells #[.slice Ad k cd, .slice Aw j cw] 36 (0, 0)) from hW.heap HSJ.out.c (fun e => hqn n5 e rfl)))
          clear q0 hqn
          have HRW := Lib.hid (show [Value.int .i64 (IntKind.i64.wrap (1000 + (j : Int))), .int .i64 (IntKind.i64.wrap (10 * IntKind.i64.wrap (1 + P))), .int .i64 0, .int .i64 (IntKind.i64.wrap (10 * IntKind.i64.wrap (1 + R))), .int .i64 0, .int .i64 ((j : Int).tmod 3)] = wcs (wirN rows j) from by
            rw [HWE.out, show IntKind.i64.wrap (1000 + (j : Int)) = 1000 + (j : Int) from IntWalk.i64_in _ (by omega), show IntKind.i64.wrap (1 + P) = 1 + P from IntWalk.i64_in _ (by omega), show IntKind.i64.wrap (1 + R) = 1 + R from IntWalk.i64_in _ (by omega), show IntKind.i64.wrap (10 * (1 + P)) = 10 * (1 + P) from IntWalk.i64_in _ (by omega), show IntKind.i64.wrap (10 * (1 + R)) = 10 * (1 + R) from IntWalk.i64_in _ (by omega), tmodI _ _ (by omega)]
            rfl)
          -- region nine
          go_region_law (first
            | (refine step_append1 (by rfl) _ _ 27 (by rfl) W0.heap.size 63 t0 _ 6 48 Try.underlying27 I1.out I2.out I3.out I4.out rfl (by omega) (by omega) (.slice Aw j cw) j _ (by rfl) ((HOW.out.alloc _).drew) wr.heap.size [.int .i64 (IntKind.i64.wrap (1000 + (j : Int))), .int .i64 (IntKind.i64.wrap (10 * IntKind.i64.wrap (1 + P))), .int .i64 0, .int .i64 (IntKind.i64.wrap (10 * IntKind.i64.wrap (1 + R))), .int .i64 0, .int .i64 ((j : Int).tmod 3)] (by rfl) rfl (fun j u h => new_cell (by simpa using h)) (by simp [Value.oneCell']) (by omega) (by simp; omega) ?_; intro g' c' w8 own' k' n'; have OW := Lib.hid own'; have KW := Lib.hid (show Kept (Value.slice Aw j cw).ownBlock.toList wr w8 from ((Kept.refl _ wr).alloc _).drew.trans k' (New.refl _ _)); have NW := Lib.hid n'; have p0 := cell_of_row _ n5 1 _ _ _ (HC8.out _ KW.out); have f0 := frozen_of_row _ n5 1 _ _ (HC8.out _ KW.out); clear own' k' n')
            | (go_simp; go_wp2_with (first | (go_at_call 35; (with_reducible refine (HPA.out _).mono ?_); rintro e w' ⟨rfl, rfl⟩) | (go_at_call 35; (with_reducible refine (HPB.out _).mono ?_); rintro e w' ⟨rfl, rfl⟩))))
          all_goals (
            go_wp2_with fail
            have hd := HSJ.out.wir (x := wirN rows j) (g := g') (c := c') (W' := w8) (by rw [wirsN_len, ← HRW.out]; exact OW.out) KW.out (NW.out.imp id (fun h => by simp at h; omega))
            rw [wirsN_len, ← wirsN_succ] at hd
            refine ⟨⟨j + 1, _, by omega, by omega, by go_num, hd, (KW.out.below_next HBJ.out (by have := HBJ.out.size; omega) (fun q hq => by have := (HOW.out.lt q (own_mem hq)).1; omega)).setCell (by have := HSJ.out.lt; dsimp only; omega) _⟩, ?_⟩
            simp [intOf]; omega)
        · have z0 := cell_of_row _ n4 0 _ _ _ HSJ.out.r
          have z1 := cell_of_row _ n4 1 _ _ _ HSJ.out.r
          have fz0 := frozen_of_row _ n4 0 _ _ HSJ.out.r
          have fz1 := frozen_of_row _ n4 1 _ _ HSJ.out.r
          by_cases hjr2 : j < rows.length
          · have hgI : (j : Int) < (rows.length : Int) := by omega
            have hgJ : ¬ (j : Int) < 20 := by omega
            clear hgo
            go_wp2_with fail
            clear z0 z1 fz0 fz1 q0 q1
            obtain ⟨NA, y0, y1⟩ := HSJ.out.res
            have hkk := devsN_len k
            have hjj := wirsN_len rows j
            refine bodyPost_ret (v := nv (.slice Ad k cd) (.slice Aw j cw)) (by unfold nv; simp [results, Try.results14, y0, y1, asAddr, Result.andThen, go_sem]) rfl ?_
            exact ⟨_, _, rfl, devsN k, wirsN rows j, NA, devsN_ok (by omega), wirsN_ok, devsN_rise k, wirsN_rise rows j, by omega, by omega, (HBJ.out.setCell (by dsimp only; omega) _).setCell (by dsimp only; omega) _⟩
          · have hgI : ¬ (j : Int) < (rows.length : Int) := by omega
            clear hgo
            go_wp2_with fail
            clear z0 z1 fz0 fz1 q0 q1
            obtain ⟨NA, y0, y1⟩ := HSJ.out.res
            have hkk := devsN_len k
            have hjj := wirsN_len rows j
            refine bodyPost_ret (v := nv (.slice Ad k cd) (.slice Aw j cw)) (by unfold nv; simp [results, Try.results14, y0, y1, asAddr, Result.andThen, go_sem]) rfl ?_
            exact ⟨_, _, rfl, devsN k, wirsN rows j, NA, devsN_ok (by omega), wirsN_ok, devsN_rise k, wirsN_rise rows j, by omega, by omega, (HBJ.out.setCell (by dsimp only; omega) _).setCell (by dsimp only; omega) _⟩
end Go.Proofs.Ytebfenkjipaedaa.Gr
