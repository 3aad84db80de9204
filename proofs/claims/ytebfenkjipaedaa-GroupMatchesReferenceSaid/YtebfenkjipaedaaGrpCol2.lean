/- Package group: Collapse. -/
import Derived.Test.YtebfenkjipaedaaGrpPor
namespace Go.Proofs.Ytebfenkjipaedaa.Gr
open Go.RowKit Gp Go.Sort
attribute [local go_sem] Oper.semAt_some
/-- a net as a value -/
def nv (d x : Value) : Value := .agg #[d, x]
/-- devices that the tests take -/
def DsOk (ds : List Dev) : Prop := ∀ j, j < ds.length → dW (ds.getD j d0)
/-- a net in memory: its devices, its wires -/
structure NetAt (w : World) (d x : Value) (ds : List Dev) (ws : List Wir) : Prop where
  d : ∃ A c, d = .slice A ds.length c ∧ DevsAt w A ds
  w : ∃ A c, x = .slice A ws.length c ∧ WirsAt w A ws
theorem NetAt.then_ {w w' : World} {d x : Value} {ds : List Dev} {ws : List Wir} (h : NetAt w d x ds ws) (hb : Below w.heap.size w w') : NetAt w' d x ds ws := by
  obtain ⟨⟨A, c, e, h1⟩, ⟨B, c', e', h2⟩⟩ := h
  exact ⟨⟨A, c, e, h1.then_ hb⟩, ⟨B, c', e', h2.then_ hb⟩⟩
/-- a function is stored into a new variable -/
theorem store_func (w : World) (f : Fn) (ca lb : Array Value) (t : TypeId) : (store ⟨w.heap.size, 0, none⟩ (.func f ca lb)).run Try.prog (w.alloc (.cells #[.nilFunc] t)) = .ok () (w.alloc (.cells #[.func f ca lb] t)) := by
  rw [run_store _ _ _ _ _ rfl]
  simp [go_sem]
/-- a new block of two cells, behind a call -/
theorem new2 {W v : World} {a b : Value} {t : TypeId} (hq : Below (W.alloc (.cells #[a, b] t)).heap.size (W.alloc (.cells #[a, b] t)) v) :
    v.cell? ⟨W.heap.size, 0, none⟩ = some a ∧ v.cell? ⟨W.heap.size, 1, none⟩ = some b ∧ v.frozen? ⟨W.heap.size, 0, none⟩ = false ∧ v.frozen? ⟨W.heap.size, 1, none⟩ = false := by
  have h : v.heap[W.heap.size]? = some (.cells #[a, b] t (0, 0)) := (hq.block _ (by simp)).trans (World.alloc_heap_new W _)
  exact ⟨cell_of_row v _ 0 _ _ _ h, cell_of_row v _ 1 _ _ _ h, frozen_of_row v _ 0 _ _ h, frozen_of_row v _ 1 _ _ h⟩
def New2 (W : World) (g : Nat) : Prop := W.cell? ⟨g, 0, none⟩ = some (.slice none 0 0) ∧ W.cell? ⟨g, 1, none⟩ = some (.slice none 0 0) ∧ W.frozen? ⟨g, 0, none⟩ = false ∧ W.frozen? ⟨g, 1, none⟩ = false
theorem New2.then_ {W v : World} {g : Nat} (hq : Below W.heap.size W v) (h : New2 W g) : New2 v g :=
  ⟨cell_then hq h.1, cell_then hq h.2.1, (hq.frozen (World.block_lt_of_cell? _ _ h.1)).trans h.2.2.1, (hq.frozen (World.block_lt_of_cell? _ _ h.2.1)).trans h.2.2.2⟩
theorem New2.other {W : World} {g g' : Nat} (h : New2 W g) (hne : g ≠ g') (i : Nat) (u : Value) : New2 (W.setCell ⟨g', i, none⟩ u) g :=
  ⟨cell_set _ h.1 hne, cell_set _ h.2.1 hne, by rw [frozen_set]; exact h.2.2.1, by rw [frozen_set]; exact h.2.2.2⟩
theorem New2.new {W v : World} {t : TypeId} (hq : Below (W.alloc (.cells #[.slice none 0 0, .slice none 0 0] t)).heap.size (W.alloc (.cells #[.slice none 0 0, .slice none 0 0] t)) v) : New2 v W.heap.size := new2 hq
theorem New2.newd {W v : World} {t : TypeId} (hq : Below (W.alloc (.cells #[.slice none 0 0, .slice none 0 0] t)).drew.heap.size (W.alloc (.cells #[.slice none 0 0, .slice none 0 0] t)).drew v) : New2 v W.heap.size := by
  have h : v.heap[W.heap.size]? = some (.cells #[.slice none 0 0, .slice none 0 0] t (0, 0)) := (hq.block _ (by simp)).trans (World.alloc_heap_new W _)
  exact ⟨cell_of_row v _ 0 _ _ _ h, cell_of_row v _ 1 _ _ _ h, frozen_of_row v _ 0 _ _ h, frozen_of_row v _ 1 _ _ h⟩
theorem store_other {W : World} {g i : Nat} {p : Addr} {u v x : Value} (hc : W.cell? ⟨g, i, none⟩ = some x) (h : W.cell? p = some v) (hne : v ≠ x) : (W.setCell ⟨g, i, none⟩ u).cell? p = some v := by
  rw [World.cell?_setCell_other]
  · exact h
  · intro e
    rw [← e, hc] at h
    injection h with h
    exact hne h.symm
theorem NetAt.store {W : World} {d x : Value} {ds : List Dev} {ws : List Wir} (h : NetAt W d x ds ws) {g i : Nat} (hc : W.cell? ⟨g, i, none⟩ = some (.slice none 0 0)) (u : Value) : NetAt (W.setCell ⟨g, i, none⟩ u) d x ds ws := by
  obtain ⟨⟨A, c, e, h1⟩, ⟨B, c', e', h2⟩⟩ := h
  refine ⟨⟨A, c, e, fun q hq => ?_⟩, ⟨B, c', e', fun q hq => ?_⟩⟩
  · obtain ⟨b, o, e1, hx⟩ := h1 q hq
    exact ⟨b, o, e1, store_other hc hx.c0 (by simp), store_other hc hx.c1 (by simp), store_other hc hx.c2 (by simp), store_other hc hx.c3 (by simp)⟩
  · obtain ⟨b, o, e1, hx⟩ := h2 q hq
    exact ⟨b, o, e1, store_other hc hx.c0 (by simp), store_other hc hx.c1 (by simp), store_other hc hx.c2 (by simp), store_other hc hx.c3 (by simp), store_other hc hx.c4 (by simp), store_other hc hx.c5 (by simp)⟩
/-- a variable of a net is filled -/
theorem NetAt.fill {W : World} {d x : Value} {ds : List Dev} {ws : List Wir} (h : NetAt W d x ds ws) {g : Nat} (hn : New2 W g) (u v : Value) : ((W.setCell ⟨g, 0, none⟩ u).setCell ⟨g, 1, none⟩ v).cell? ⟨g, 0, none⟩ = some u ∧ ((W.setCell ⟨g, 0, none⟩ u).setCell ⟨g, 1, none⟩ v).cell? ⟨g, 1, none⟩ = some v ∧ NetAt ((W.setCell ⟨g, 0, none⟩ u).setCell ⟨g, 1, none⟩ v) d x ds ws :=
  ⟨cell_off _ (World.cell?_setCell_same _ _ _ hn.1) (by omega), World.cell?_setCell_same _ _ _ (cell_off _ hn.2.1 (by omega)), (h.store hn.1 u).store (cell_off _ hn.2.1 (by omega)) v⟩
set_option maxRecDepth 100000 in
set_option maxHeartbeats 40000000 in
theorem collapse_yes (A : Option Addr) (c : Nat) (l : List Grp) (id : Int) (D : Option Addr) (cd : Nat) (ds : List Dev) (B : Option Addr) (cb : Nat) (ws : List Wir) (w : World) (hG : GrpsAt w A l) (hS : Sized l) (hv : Valid l) (hi : I64 id) (hk : (find l id).isSome = true)
    (hD : DevsAt w D ds) (hDO : DsOk ds) (hDL : ds.length ≤ 1000) (hW : WirsAt w B ws) (hWO : WsOk ws) (hWL : ws.length ≤ 1000) (hr : riseB (ws.map (·.code)) = true) (hr2 : riseB (ds.map (·.code)) = true) :
    Calls Try.prog 29 #[.slice A l.length c, .int .i64 id, nv (.slice D ds.length cd) (.slice B ws.length cb)] w fun e w' => ∃ d1 x1 d2 x2, e = .returned (.tuple #[nv d1 x1, nv d2 x2, .int .i64 0]) ∧
      NetAt w' d1 x1 (ds.filter (dIn l id)) (ws.filter (wIn l id)) ∧ NetAt w' d2 x2 (ds.filter (dOut l id)) (ws.filter (wOut l id)) ∧ Below w.heap.size w w' := by
  have HIS := Lib.hid (fun W (hB : Below w.heap.size w W) => inside_yes A c l id W (hG.then_ hB) hS hv hi hk)
  have HRI := Lib.hid (fun W (hB : Below w.heap.size w W) => w_rising B cb ws W (hW.then_ hB) hWL)
  have HRD := Lib.hid (fun W (hB : Below w.heap.size w W) => d_rising D cd ds W (hD.then_ hB) hDL)
  have HK1 := Lib.hid (fun b9 b6 b3 m o W (hB : Below w.heap.size w W) (h : CapAt W b9 l id b6 b3 m o) => kept1 D cd ds l id b9 b6 b3 m o W hv hS hDO hDL (hD.then_ hB) h)
  have HK2 := Lib.hid (fun b9 b6 b3 m o W (hB : Below w.heap.size w W) (h : CapAt W b9 l id b6 b3 m o) => kept2 B cb ws l id b9 b6 b3 m o W hv hS hWO hWL (hW.then_ hB) h)
  have HK3 := Lib.hid (fun b9 b6 b3 m o W (hB : Below w.heap.size w W) (h : CapAt W b9 l id b6 b3 m o) => kept3 D cd ds l id b9 b6 b3 m o W hv hS hDO hDL (hD.then_ hB) h)
  have HK4 := Lib.hid (fun b9 b6 b3 m o W (hB : Below w.heap.size w W) (h : CapAt W b9 l id b6 b3 m o) => kept4 B cb ws l id b9 b6 b3 m o W hv hS hWO hWL (hW.then_ hB) h)
  have HR := Lib.hid hr
  have HR2 := Lib.hid hr2
  clear hG hS hv hi hk hD hDO hW hWO hr hr2
  unfold nv
  go_enter Try.func29, Try.ntmps29
  go_wp2_with fail
  obtain ⟨W0, hW0⟩ : ∃ W0, (((w.alloc (.cells #[.slice D ds.length cd, .slice B ws.length cb] 36)).alloc (.cells #[.slice none 0 0, .slice none 0 0] 36)).alloc (.cells #[.slice none 0 0, .slice none 0 0] 36)) = W0 := ⟨_, rfl⟩
  have hB0 : Below w.heap.size w W0 := by rw [← hW0]; exact below_alloc (below_alloc (below_alloc (Below.refl _ _) _) _) _
  have h5 : W0.heap[w.heap.size]? = some (.cells #[.slice D ds.length cd, .slice B ws.length cb] 36 (0, 0)) := by rw [← hW0]; exact heap_alloc (heap_alloc (World.alloc_heap_new _ _) _) _
  have h6 : W0.heap[w.heap.size + 1]? = some (.cells #[.slice none 0 0, .slice none 0 0] 36 (0, 0)) := by
    rw [← hW0]
    refine heap_alloc ?_ _
    have := World.alloc_heap_new (w.alloc (.cells #[.slice D ds.length cd, .slice B ws.length cb] 36)) (.cells #[.slice none 0 0, .slice none 0 0] 36)
    rwa [World.size_alloc] at this
  have h7 : W0.heap[w.heap.size + 1 + 1]? = some (.cells #[.slice none 0 0, .slice none 0 0] 36 (0, 0)) := by
    rw [← hW0]
    have := World.alloc_heap_new ((w.alloc (.cells #[.slice D ds.length cd, .slice B ws.length cb] 36)).alloc (.cells #[.slice none 0 0, .slice none 0 0] 36)) (.cells #[.slice none 0 0, .slice none 0 0] 36)
    rwa [World.size_alloc, World.size_alloc] at this
  rw [hW0]
  obtain ⟨b5, hb5⟩ : ∃ b5, w.heap.size = b5 := ⟨_, rfl⟩
  obtain ⟨r6, hr6⟩ : ∃ r6, w.heap.size + 1 = r6 := ⟨_, rfl⟩
  obtain ⟨r7, hr7⟩ : ∃ r7, w.heap.size + 1 + 1 = r7 := ⟨_, rfl⟩
  rw [hr7, hr6, hb5]
  rw [hb5] at h5
  rw [hr6] at h6
  rw [hr7] at h7
  have HRB := Lib.hid (show b5 < r6 ∧ r6 < r7 ∧ w.heap.size ≤ b5 by omega)
  have HB0 := Lib.hid hB0
  clear hW0 hb5 hr6 hr7 hB0
  refine (HIS.out _ HB0.out).mono ?_
  rintro e w1 ⟨b6, b3, m, o, rfl, hin, hb1⟩
  have HIN := Lib.hid hin
  have B1 := Lib.hid (below_next HB0.out hb1)
  have k1 : Kept [] W0 w1 := Kept.of_below hb1
  have hbl : b5 < w1.heap.size := Nat.lt_of_lt_of_le (heap_lt h5) hb1.size
  have h5 := k1.heap h5 (by simp)
  have h6 := k1.heap h6 (by simp)
  have h7 := k1.heap h7 (by simp)
  obtain ⟨c0, c1⟩ := cells2 h5
  have H5 := Lib.hid h5
  have H6 := Lib.hid h6
  have H7 := Lib.hid h7
  have hst := store_func w1 (.func 59) #[] #[.pointer (some ⟨b6, 0, none⟩), .pointer (some ⟨b3, 0, none⟩)] 78
  clear hin hb1 h5 h6 h7 k1
  go_wp2_with fail
  clear hst
  obtain ⟨W1, hW1⟩ : ∃ W1, w1.alloc (.cells #[.func (.func 59) #[] #[.pointer (some ⟨b6, 0, none⟩), .pointer (some ⟨b3, 0, none⟩)]] 78) = W1 := ⟨_, rfl⟩
  have hb2 : Below w1.heap.size w1 W1 := by rw [← hW1]; exact below_alloc (Below.refl _ _) _
  have hcap : CapAt W1 w1.heap.size l id b6 b3 (.map m) (.map o) := ⟨by rw [← hW1]; exact new_cell rfl, HIN.out.then_ hb2⟩
  rw [hW1]
  obtain ⟨b9, hb9⟩ : ∃ b9, w1.heap.size = b9 := ⟨_, rfl⟩
  rw [hb9] at hcap
  rw [hb9]
  have B2 := Lib.hid (below_next B1.out hb2)
  have hr69 := Lib.hid (show r7 < W1.heap.size from Nat.lt_of_lt_of_le (heap_lt H7.out) hb2.size)
  have c0 := cell_then hb2 c0
  have c1 := cell_then hb2 c1
  have K2 : Hid (Kept [] w1 W1) := Lib.hid (Kept.of_below hb2)
  have H5 := Lib.hid (K2.out.heap H5.out (by simp))
  have H6 := Lib.hid (K2.out.heap H6.out (by simp))
  have H7 := Lib.hid (K2.out.heap H7.out (by simp))
  have HCP := Lib.hid hcap
  clear hb2 hcap hW1 hb9 hbl
  refine (HRI.out _ B2.out).mono ?_
  rintro e w2 ⟨rfl, hb3⟩
  rw [HR.out]
  have c0 := cell_then hb3 c0
  have c1 := cell_then hb3 c1
  have B3 := Lib.hid (below_next B2.out hb3)
  have HCP := Lib.hid (HCP.out.then_ hb3)
  have K3 : Hid (Kept [] W1 w2) := Lib.hid (Kept.of_below hb3)
  have H5 := Lib.hid (K3.out.heap H5.out (by simp))
  have H6 := Lib.hid (K3.out.heap H6.out (by simp))
  have H7 := Lib.hid (K3.out.heap H7.out (by simp))
  clear hb3
  go_wp2_with fail
  refine (HRD.out _ B3.out).mono ?_
  rintro e w3 ⟨rfl, hb4⟩
  rw [HR2.out]
  have c0 := cell_then hb4 c0
  have c1 := cell_then hb4 c1
  have B4 := Lib.hid (below_next B3.out hb4)
  have HCP := Lib.hid (HCP.out.then_ hb4)
  have K4 : Hid (Kept [] w2 w3) := Lib.hid (Kept.of_below hb4)
  have H5 := Lib.hid (K4.out.heap H5.out (by simp))
  have H6 := Lib.hid (K4.out.heap H6.out (by simp))
  have H7 := Lib.hid (K4.out.heap H7.out (by simp))
  clear hb4
  go_wp2_with fail
  -- tail
  have BX := B4
  have HD := Lib.hid (fun V (hV : Below w3.heap.size w3 V) => HK1.out b9 b6 b3 (.map m) (.map o) V (below_next BX.out hV) (HCP.out.then_ hV))
  have HE := Lib.hid (fun V (hV : Below w3.heap.size w3 V) => HK2.out b9 b6 b3 (.map m) (.map o) V (below_next BX.out hV) (HCP.out.then_ hV))
  have C0 := Lib.hid c0
  have C1 := Lib.hid c1
  have hbz := lt_size c0
  go_cut [11] from 11 to 43 (fun s wx => ∃ (g : Nat) (d1 x1 : Value), s = .pointer (some ⟨g, 0, none⟩) ∧ wx.cell? ⟨g, 0, none⟩ = some d1 ∧ wx.cell? ⟨g, 1, none⟩ = some x1 ∧ NetAt wx d1 x1 (ds.filter (dIn l id)) (ws.filter (wIn l id)) ∧ Below w3.heap.size w3 wx ∧ w3.heap.size ≤ g)
  case first =>
    go_region_held_law (fun w' => w'.cell? ⟨b5, 0, none⟩ = some (.slice D ds.length cd) ∧ w'.cell? ⟨b5, 1, none⟩ = some (.slice B ws.length cb)) ((suffices hB : Below w3.heap.size w3 _ from ⟨cell_then hB C0.out, cell_then hB C1.out⟩; (repeat (first | with_reducible exact Below.refl _ _ | with_reducible assumption | with_reducible refine below_alloc ?_ _ | with_reducible refine Below.drew ?_ | with_reducible refine Below.setCell ?_ (by dsimp only; omega) _)))) (first | (go_at_call 49; (with_reducible refine (HD.out _ ?hbel).mono ?_); (case hbel => (repeat (first | with_reducible exact Below.refl _ _ | with_reducible assumption | with_reducible refine below_alloc ?_ _ | with_reducible refine Below.drew ?_ | with_reducible refine Below.setCell ?_ (by dsimp only; omega) _))); rintro e v1 ⟨A1, k1, rfl, hk1, hd1, hq1⟩; have Q1 : Below w3.heap.size w3 v1 := below_next (by (repeat (first | with_reducible exact Below.refl _ _ | with_reducible assumption | with_reducible refine below_alloc ?_ _ | with_reducible refine Below.drew ?_ | with_reducible refine Below.setCell ?_ (by dsimp only; omega) _))) hq1; have D1 := Lib.hid hd1; have zq1 := Q1.size; clear hk1 hd1; have N1 := (by first | exact New2.newd hq1 | exact New2.new hq1 : New2 v1 w3.heap.size)) | (go_at_call 49; (with_reducible refine (HD.out _ ?hbel).mono ?_); (case hbel => (repeat (first | with_reducible exact Below.refl _ _ | with_reducible assumption | with_reducible refine below_alloc ?_ _ | with_reducible refine Below.drew ?_ | with_reducible refine Below.setCell ?_ (by dsimp only; omega) _))); rintro e v1 ⟨A1, k1, rfl, hk1, hd1, hq1⟩; have Q1 : Below w3.heap.size w3 v1 := below_next (by (repeat (first | with_reducible exact Below.refl _ _ | with_reducible assumption | with_reducible refine below_alloc ?_ _ | with_reducible refine Below.drew ?_ | with_reducible refine Below.setCell ?_ (by dsimp only; omega) _))) hq1; have D1 := Lib.hid hd1; have zq1 := Q1.size; clear hk1 hd1) | (go_at_call 51; (with_reducible refine (HE.out _ ?hbel).mono ?_); (case hbel => (repeat (first | with_reducible exact Below.refl _ _ | with_reducible assumption | with_reducible refine below_alloc ?_ _ | with_reducible refine Below.drew ?_ | with_reducible refine Below.setCell ?_ (by dsimp only; omega) _))); rintro e v2 ⟨A2, k2, rfl, hk2, hd2, hq2⟩; have Q2 : Below w3.heap.size w3 v2 := below_next (by (repeat (first | with_reducible exact Below.refl _ _ | with_reducible assumption | with_reducible refine below_alloc ?_ _ | with_reducible refine Below.drew ?_ | with_reducible refine Below.setCell ?_ (by dsimp only; omega) _))) hq2; have NT := Lib.hid (show NetAt v2 (.slice A1 (ds.filter (dIn l id)).length k1) (.slice A2 (ws.filter (wIn l id)).length k2) (ds.filter (dIn l id)) (ws.filter (wIn l id)) from ⟨⟨A1, k1, rfl, D1.out.then_ (below_next (show Below v1.heap.size v1 _ by (repeat (first | with_reducible exact Below.refl _ _ | with_reducible assumption | with_reducible refine below_alloc ?_ _ | with_reducible refine Below.drew ?_ | with_reducible refine Below.setCell ?_ (by dsimp only; omega) _))) hq2)⟩, ⟨A2, k2, rfl, hd2⟩⟩); clear hk2 hd2; have N2 := New2.then_ hq2 (by with_reducible assumption); have HN2 := Lib.hid N2; obtain ⟨m0, m1, m2, m3⟩ := N2) | (go_at_call 51; (with_reducible refine (HE.out _ ?hbel).mono ?_); (case hbel => (repeat (first | with_reducible exact Below.refl _ _ | with_reducible assumption | with_reducible refine below_alloc ?_ _ | with_reducible refine Below.drew ?_ | with_reducible refine Below.setCell ?_ (by dsimp only; omega) _))); rintro e v2 ⟨A2, k2, rfl, hk2, hd2, hq2⟩; have Q2 : Below w3.heap.size w3 v2 := below_next (by (repeat (first | with_reducible exact Below.refl _ _ | with_reducible assumption | with_reducible refine below_alloc ?_ _ | with_reducible refine Below.drew ?_ | with_reducible refine Below.setCell ?_ (by dsimp only; omega) _))) hq2; have NT := Lib.hid (show NetAt v2 (.slice A1 (ds.filter (dIn l id)).length k1) (.slice A2 (ws.filter (wIn l id)).length k2) (ds.filter (dIn l id)) (ws.filter (wIn l id)) from ⟨⟨A1, k1, rfl, D1.out.then_ (below_next (show Below v1.heap.size v1 _ by (repeat (first | with_reducible exact Below.refl _ _ | with_reducible assumption | with_reducible refine below_alloc ?_ _ | with_reducible refine Below.drew ?_ | with_reducible refine Below.setCell ?_ (by dsimp only; omega) _))) hq2)⟩, ⟨A2, k2, rfl, hd2⟩⟩); clear hk2 hd2; have N2 := New2.new hq2; have HN2 := Lib.hid N2; obtain ⟨m0, m1, m2, m3⟩ := N2) | (go_at_call 51; (with_reducible refine (HE.out _ ?hbel).mono ?_); (case hbel => (repeat (first | with_reducible exact Below.refl _ _ | with_reducible assumption | with_reducible refine below_alloc ?_ _ | with_reducible refine Below.drew ?_ | with_reducible refine Below.setCell ?_ (by dsimp only; omega) _))); rintro e v2 ⟨A2, k2, rfl, hk2, hd2, hq2⟩; have Q2 : Below w3.heap.size w3 v2 := below_next (by (repeat (first | with_reducible exact Below.refl _ _ | with_reducible assumption | with_reducible refine below_alloc ?_ _ | with_reducible refine Below.drew ?_ | with_reducible refine Below.setCell ?_ (by dsimp only; omega) _))) hq2; have NT := Lib.hid (show NetAt v2 (.slice A1 (ds.filter (dIn l id)).length k1) (.slice A2 (ws.filter (wIn l id)).length k2) (ds.filter (dIn l id)) (ws.filter (wIn l id)) from ⟨⟨A1, k1, rfl, D1.out.then_ (below_next (show Below v1.heap.size v1 _ by (repeat (first | with_reducible exact Below.refl _ _ | with_reducible assumption | with_reducible refine below_alloc ?_ _ | with_reducible refine Below.drew ?_ | with_reducible refine Below.setCell ?_ (by dsimp only; omega) _))) hq2)⟩, ⟨A2, k2, rfl, hd2⟩⟩); clear hk2 hd2))
    all_goals (go_wp2_with fail)
    all_goals (go_meet)
    all_goals (first
      | exact ⟨_, _, _, rfl, new_cell rfl, new_cell rfl, NT.out.then_ (below_alloc (Below.refl _ _) _), (by (repeat (first | with_reducible exact Below.refl _ _ | with_reducible assumption | with_reducible refine below_alloc ?_ _ | with_reducible refine Below.drew ?_ | with_reducible refine Below.setCell ?_ (by dsimp only; omega) _))), (by first | omega | exact Q2.size)⟩
      | exact ⟨_, _, _, rfl, (NT.out.fill HN2.out _ _).1, (NT.out.fill HN2.out _ _).2.1, (NT.out.fill HN2.out _ _).2.2, (by (repeat (first | with_reducible exact Below.refl _ _ | with_reducible assumption | with_reducible refine below_alloc ?_ _ | with_reducible refine Below.drew ?_ | with_reducible refine Below.setCell ?_ (by dsimp only; omega) _))), (by first | omega | exact Q2.size)⟩)
  case rest =>
    obtain ⟨g1, d1, x1, rfl, e0, e1, hn1, hq, hg1⟩ := hcut
    have HG1 := Lib.hid (show r7 < g1 by have := heap_lt H7.out; omega)
    clear hg1
    have N1 := Lib.hid hn1
    have E0 := Lib.hid e0
    have E1 := Lib.hid e1
    have c0 := cell_then hq c0
    have c1 := cell_then hq c1
    have BX := Lib.hid (below_next B4.out hq)
    have HCP := Lib.hid (HCP.out.then_ hq)
    have K5 : Hid (Kept [] w3 wc) := Lib.hid (Kept.of_below hq)
    have H6 := Lib.hid (K5.out.heap H6.out (by simp))
    have H7 := Lib.hid (K5.out.heap H7.out (by simp))
    clear hn1 e0 e1 hq HD HE C0 C1 hbz B4 K5
    obtain ⟨W5, hW5⟩ : ∃ W5, wc = W5 := ⟨_, rfl⟩
    rw [hW5] at N1 E0 E1 c0 c1 BX HCP H6 H7 ⊢
    clear hW5
    go_wp2_with fail
    have HD := Lib.hid (fun V (hV : Below W5.heap.size W5 V) => HK3.out b9 b6 b3 (.map m) (.map o) V (below_next BX.out hV) (HCP.out.then_ hV))
    have HE := Lib.hid (fun V (hV : Below W5.heap.size W5 V) => HK4.out b9 b6 b3 (.map m) (.map o) V (below_next BX.out hV) (HCP.out.then_ hV))
    have C0 := Lib.hid c0
    have C1 := Lib.hid c1
    have hbz := lt_size c0
    go_cut [12] from 12 to 52 (fun s wx => ∃ (g : Nat) (d1 x1 : Value), s = .pointer (some ⟨g, 0, none⟩) ∧ wx.cell? ⟨g, 0, none⟩ = some d1 ∧ wx.cell? ⟨g, 1, none⟩ = some x1 ∧ NetAt wx d1 x1 (ds.filter (dOut l id)) (ws.filter (wOut l id)) ∧ Below W5.heap.size W5 wx ∧ W5.heap.size ≤ g)
    case first =>
      go_region_held_law (fun w' => w'.cell? ⟨b5, 0, none⟩ = some (.slice D ds.length cd) ∧ w'.cell? ⟨b5, 1, none⟩ = some (.slice B ws.length cb)) ((suffices hB : Below W5.heap.size W5 _ from ⟨cell_then hB C0.out, cell_then hB C1.out⟩; (repeat (first | with_reducible exact Below.refl _ _ | with_reducible assumption | with_reducible refine below_alloc ?_ _ | with_reducible refine Below.drew ?_ | with_reducible refine Below.setCell ?_ (by dsimp only; omega) _)))) (first | (go_at_call 49; (with_reducible refine (HD.out _ ?hbel).mono ?_); (case hbel => (repeat (first | with_reducible exact Below.refl _ _ | with_reducible assumption | with_reducible refine below_alloc ?_ _ | with_reducible refine Below.drew ?_ | with_reducible refine Below.setCell ?_ (by dsimp only; omega) _))); rintro e v3 ⟨A1, k1, rfl, hk1, hd1, hq1⟩; have Q1 : Below W5.heap.size W5 v3 := below_next (by (repeat (first | with_reducible exact Below.refl _ _ | with_reducible assumption | with_reducible refine below_alloc ?_ _ | with_reducible refine Below.drew ?_ | with_reducible refine Below.setCell ?_ (by dsimp only; omega) _))) hq1; have D1 := Lib.hid hd1; have zq1 := Q1.size; clear hk1 hd1; have N1 := (by first | exact New2.newd hq1 | exact New2.new hq1 : New2 v3 W5.heap.size)) | (go_at_call 49; (with_reducible refine (HD.out _ ?hbel).mono ?_); (case hbel => (repeat (first | with_reducible exact Below.refl _ _ | with_reducible assumption | with_reducible refine below_alloc ?_ _ | with_reducible refine Below.drew ?_ | with_reducible refine Below.setCell ?_ (by dsimp only; omega) _))); rintro e v3 ⟨A1, k1, rfl, hk1, hd1, hq1⟩; have Q1 : Below W5.heap.size W5 v3 := below_next (by (repeat (first | with_reducible exact Below.refl _ _ | with_reducible assumption | with_reducible refine below_alloc ?_ _ | with_reducible refine Below.drew ?_ | with_reducible refine Below.setCell ?_ (by dsimp only; omega) _))) hq1; have D1 := Lib.hid hd1; have zq1 := Q1.size; clear hk1 hd1) | (go_at_call 51; (with_reducible refine (HE.out _ ?hbel).mono ?_); (case hbel => (repeat (first | with_reducible exact Below.refl _ _ | with_reducible assumption | with_reducible refine below_alloc ?_ _ | with_reducible refine Below.drew ?_ | with_reducible refine Below.setCell ?_ (by dsimp only; omega) _))); rintro e v4 ⟨A2, k2, rfl, hk2, hd2, hq2⟩; have Q2 : Below W5.heap.size W5 v4 := below_next (by (repeat (first | with_reducible exact Below.refl _ _ | with_reducible assumption | with_reducible refine below_alloc ?_ _ | with_reducible refine Below.drew ?_ | with_reducible refine Below.setCell ?_ (by dsimp only; omega) _))) hq2; have NT := Lib.hid (show NetAt v4 (.slice A1 (ds.filter (dOut l id)).length k1) (.slice A2 (ws.filter (wOut l id)).length k2) (ds.filter (dOut l id)) (ws.filter (wOut l id)) from ⟨⟨A1, k1, rfl, D1.out.then_ (below_next (show Below v3.heap.size v3 _ by (repeat (first | with_reducible exact Below.refl _ _ | with_reducible assumption | with_reducible refine below_alloc ?_ _ | with_reducible refine Below.drew ?_ | with_reducible refine Below.setCell ?_ (by dsimp only; omega) _))) hq2)⟩, ⟨A2, k2, rfl, hd2⟩⟩); clear hk2 hd2; have N2 := New2.then_ hq2 (by with_reducible assumption); have HN2 := Lib.hid N2; obtain ⟨m0, m1, m2, m3⟩ := N2) | (go_at_call 51; (with_reducible refine (HE.out _ ?hbel).mono ?_); (case hbel => (repeat (first | with_reducible exact Below.refl _ _ | with_reducible assumption | with_reducible refine below_alloc ?_ _ | with_reducible refine Below.drew ?_ | with_reducible refine Below.setCell ?_ (by dsimp only; omega) _))); rintro e v4 ⟨A2, k2, rfl, hk2, hd2, hq2⟩; have Q2 : Below W5.heap.size W5 v4 := below_next (by (repeat (first | with_reducible exact Below.refl _ _ | with_reducible assumption | with_reducible refine below_alloc ?_ _ | with_reducible refine Below.drew ?_ | with_reducible refine Below.setCell ?_ (by dsimp only; omega) _))) hq2; have NT := Lib.hid (show NetAt v4 (.slice A1 (ds.filter (dOut l id)).length k1) (.slice A2 (ws.filter (wOut l id)).length k2) (ds.filter (dOut l id)) (ws.filter (wOut l id)) from ⟨⟨A1, k1, rfl, D1.out.then_ (below_next (show Below v3.heap.size v3 _ by (repeat (first | with_reducible exact Below.refl _ _ | with_reducible assumption | with_reducible refine below_alloc ?_ _ | with_reducible refine Below.drew ?_ | with_reducible refine Below.setCell ?_ (by dsimp only; omega) _))) hq2)⟩, ⟨A2, k2, rfl, hd2⟩⟩); clear hk2 hd2; have N2 := New2.new hq2; have HN2 := Lib.hid N2; obtain ⟨m0, m1, m2, m3⟩ := N2) | (go_at_call 51; (with_reducible refine (HE.out _ ?hbel).mono ?_); (case hbel => (repeat (first | with_reducible exact Below.refl _ _ | with_reducible assumption | with_reducible refine below_alloc ?_ _ | with_reducible refine Below.drew ?_ | with_reducible refine Below.setCell ?_ (by dsimp only; omega) _))); rintro e v4 ⟨A2, k2, rfl, hk2, hd2, hq2⟩; have Q2 : Below W5.heap.size W5 v4 := below_next (by (repeat (first | with_reducible exact Below.refl _ _ | with_reducible assumption | with_reducible refine below_alloc ?_ _ | with_reducible refine Below.drew ?_ | with_reducible refine Below.setCell ?_ (by dsimp only; omega) _))) hq2; have NT := Lib.hid (show NetAt v4 (.slice A1 (ds.filter (dOut l id)).length k1) (.slice A2 (ws.filter (wOut l id)).length k2) (ds.filter (dOut l id)) (ws.filter (wOut l id)) from ⟨⟨A1, k1, rfl, D1.out.then_ (below_next (show Below v3.heap.size v3 _ by (repeat (first | with_reducible exact Below.refl _ _ | with_reducible assumption | with_reducible refine below_alloc ?_ _ | with_reducible refine Below.drew ?_ | with_reducible refine Below.setCell ?_ (by dsimp only; omega) _))) hq2)⟩, ⟨A2, k2, rfl, hd2⟩⟩); clear hk2 hd2))
      all_goals (go_wp2_with fail)
      all_goals (go_meet)
      all_goals (first
        | exact ⟨_, _, _, rfl, new_cell rfl, new_cell rfl, NT.out.then_ (below_alloc (Below.refl _ _) _), (by (repeat (first | with_reducible exact Below.refl _ _ | with_reducible assumption | with_reducible refine below_alloc ?_ _ | with_reducible refine Below.drew ?_ | with_reducible refine Below.setCell ?_ (by dsimp only; omega) _))), (by first | omega | exact Q2.size)⟩
        | exact ⟨_, _, _, rfl, (NT.out.fill HN2.out _ _).1, (NT.out.fill HN2.out _ _).2.1, (NT.out.fill HN2.out _ _).2.2, (by (repeat (first | with_reducible exact Below.refl _ _ | with_reducible assumption | with_reducible refine below_alloc ?_ _ | with_reducible refine Below.drew ?_ | with_reducible refine Below.setCell ?_ (by dsimp only; omega) _))), (by first | omega | exact Q2.size)⟩)
    case rest =>
      obtain ⟨g2, d2, x2, rfl, f0, f1, hn2, hq, hg2⟩ := hcut
      have hr7g : r7 < g2 := by have := heap_lt H7.out; omega
      have hr7g1 := HG1.out
      clear hg2
      have e0 := cell_then hq E0.out
      have e1 := cell_then hq E1.out
      have N1 := Lib.hid (N1.out.then_ hq)
      have N2 := Lib.hid hn2
      have BY := Lib.hid (below_next BX.out hq)
      have K6 : Hid (Kept [] W5 wc) := Lib.hid (Kept.of_below hq)
      have H6 := Lib.hid (K6.out.heap H6.out (by simp))
      have H7 := Lib.hid (K6.out.heap H7.out (by simp))
      obtain ⟨p0, p1⟩ := cells2 H6.out
      obtain ⟨q0, q1⟩ := cells2 H7.out
      have t0 := frozen_of_row wc r6 0 _ _ H6.out
      have t1 := frozen_of_row wc r6 1 _ _ H6.out
      have t2 := frozen_of_row wc r7 0 _ _ H7.out
      have t3 := frozen_of_row wc r7 1 _ _ H7.out
      have hr67 := HRB.out
      have Y6 : Hid (New2 wc r6) := Lib.hid ⟨p0, p1, t0, t1⟩
      have Y7 : Hid (New2 wc r7) := Lib.hid ⟨q0, q1, t2, t3⟩
      obtain ⟨⟨A3, k3, rfl, h3⟩, ⟨A4, k4, rfl, h4⟩⟩ := N1.out
      obtain ⟨⟨A5, k5, rfl, h5⟩, ⟨A6, k6, rfl, h6⟩⟩ := hn2
      obtain ⟨hr67a, hr67b, hr67c⟩ := hr67
      clear hq HD HE C0 C1 hbz BX K6 E0 E1 h3 h4 h5 h6
      go_wp2_with fail
      -- region 6
      go_region
      all_goals (
        go_wp2_with fail
        obtain ⟨V1, hV1⟩ : ∃ V1, (wc.setCell ⟨r6, 0, none⟩ (.slice A3 (ds.filter (dIn l id)).length k3)).setCell ⟨r6, 1, none⟩ (.slice A4 (ws.filter (wIn l id)).length k4) = V1 := ⟨_, rfl⟩
        obtain ⟨y0, y1, ny1⟩ := N1.out.fill Y6.out (.slice A3 (ds.filter (dIn l id)).length k3) (.slice A4 (ws.filter (wIn l id)).length k4)
        obtain ⟨_, _, ny2⟩ := N2.out.fill Y6.out (.slice A3 (ds.filter (dIn l id)).length k3) (.slice A4 (ws.filter (wIn l id)).length k4)
        have Z7 := (Y7.out.other (show r7 ≠ r6 by omega) 0 (.slice A3 (ds.filter (dIn l id)).length k3)).other (show r7 ≠ r6 by omega) 1 (.slice A4 (ws.filter (wIn l id)).length k4)
        rw [hV1] at y0 y1 ny1 ny2 Z7 ⊢
        obtain ⟨z0, z1, nz2⟩ := ny2.fill Z7 (.slice A5 (ds.filter (dOut l id)).length k5) (.slice A6 (ws.filter (wOut l id)).length k6)
        obtain ⟨_, _, nz1⟩ := ny1.fill Z7 (.slice A5 (ds.filter (dOut l id)).length k5) (.slice A6 (ws.filter (wOut l id)).length k6)
        have y0 := cell_set (p := ⟨r7, 1, none⟩) (.slice A6 (ws.filter (wOut l id)).length k6) (cell_set (p := ⟨r7, 0, none⟩) (.slice A5 (ds.filter (dOut l id)).length k5) y0 (by dsimp only; omega)) (by dsimp only; omega)
        have y1 := cell_set (p := ⟨r7, 1, none⟩) (.slice A6 (ws.filter (wOut l id)).length k6) (cell_set (p := ⟨r7, 0, none⟩) (.slice A5 (ds.filter (dOut l id)).length k5) y1 (by dsimp only; omega)) (by dsimp only; omega)
        have hbV : Below w.heap.size w ((V1.setCell ⟨r7, 0, none⟩ (.slice A5 (ds.filter (dOut l id)).length k5)).setCell ⟨r7, 1, none⟩ (.slice A6 (ws.filter (wOut l id)).length k6)) := by
          rw [← hV1]
          exact (((BY.out.setCell (by dsimp only; omega) _).setCell (by dsimp only; omega) _).setCell (by dsimp only; omega) _).setCell (by dsimp only; omega) _
        obtain ⟨V2, hV2⟩ : ∃ V2, (V1.setCell ⟨r7, 0, none⟩ (.slice A5 (ds.filter (dOut l id)).length k5)).setCell ⟨r7, 1, none⟩ (.slice A6 (ws.filter (wOut l id)).length k6) = V2 := ⟨_, rfl⟩
        rw [hV2] at y0 y1 z0 z1 nz1 nz2 hbV ⊢
        have y0 : V2.drew.cell? ⟨r6, 0, none⟩ = _ := y0
        have y1 : V2.drew.cell? ⟨r6, 1, none⟩ = _ := y1
        have z0 : V2.drew.cell? ⟨r7, 0, none⟩ = _ := z0
        have z1 : V2.drew.cell? ⟨r7, 1, none⟩ = _ := z1
        first
          | refine bodyPost_ret (v := .tuple #[nv (.slice A3 (ds.filter (dIn l id)).length k3) (.slice A4 (ws.filter (wIn l id)).length k4), nv (.slice A5 (ds.filter (dOut l id)).length k5) (.slice A6 (ws.filter (wOut l id)).length k6), .int .i64 0]) (by unfold nv; simp [results, Try.results29, y0, y1, z0, z1, asAddr, Result.andThen, go_sem]) rfl ?_
          | refine bodyPost_end (v := .tuple #[nv (.slice A3 (ds.filter (dIn l id)).length k3) (.slice A4 (ws.filter (wIn l id)).length k4), nv (.slice A5 (ds.filter (dOut l id)).length k5) (.slice A6 (ws.filter (wOut l id)).length k6), .int .i64 0]) (by unfold nv; simp [results, Try.results29, y0, y1, z0, z1, asAddr, Result.andThen, go_sem]) rfl ?_
        exact ⟨_, _, _, _, rfl, nz1.then_ (Below.drew (Below.refl _ _)), nz2.then_ (Below.drew (Below.refl _ _)), Below.drew hbV⟩)
end Go.Proofs.Ytebfenkjipaedaa.Gr
