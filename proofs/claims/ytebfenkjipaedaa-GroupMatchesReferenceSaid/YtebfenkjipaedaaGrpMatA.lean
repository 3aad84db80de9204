/- GroupMatchesReference: its inputs: arbitrary groups, one put in the place of another one. -/
import Derived.Test.YtebfenkjipaedaaGrpFew
import Derived.Test.YtebfenkjipaedaaGrpBoth
namespace Go.Proofs.Ytebfenkjipaedaa.Gr
open Go.RowKit Gp Go.Sort
/-- groups as a program may be given them -/
structure RawOk (l : List Grp) : Prop where
  len : l.length ≤ 9223372036854775807
  id : ∀ j, j < l.length → I64 (l.getD j g0).id
  of : ∀ j, j < l.length → I64 (l.getD j g0).of
  ms : ∀ j, j < l.length → ∀ q, q < (l.getD j g0).ms.length → I64 ((l.getD j g0).ms.getD q 0)
  mlen : ∀ j, j < l.length → (l.getD j g0).ms.length ≤ 9223372036854775807
theorem few_get {l L : List Grp} (h : L.map key = (l.take 25).map cutK) {j : Nat} (hj : j < L.length) : j < l.length ∧ (L.getD j g0).id = (l.getD j g0).id ∧ (L.getD j g0).of = (l.getD j g0).of ∧ (L.getD j g0).ms = (l.getD j g0).ms.take 5 := by
  have hlen : L.length = (l.take 25).length := by have := congrArg List.length h; simpa using this
  have h1 : (L.map key).getD j (key g0) = ((l.take 25).map cutK).getD j (key g0) := by rw [h]
  rw [hlen] at hj
  have hjl : j < l.length := by rw [List.length_take] at hj; omega
  have hj25 : j < 25 := by rw [List.length_take] at hj; omega
  rw [getD_eq (by rw [List.length_map]; omega), getD_eq (by rw [List.length_map]; exact hj), List.getElem_map, List.getElem_map, List.getElem_take] at h1
  rw [getD_eq (show j < L.length by omega), getD_eq hjl]
  refine ⟨hjl, congrArg (fun t => t.1) h1, congrArg (fun t => t.2.1) h1, congrArg (fun t => t.2.2) h1⟩
theorem few_sized {l L : List Grp} (h : L.map key = (l.take 25).map cutK) (hr : RawOk l) : Sized L := by
  have hlen : L.length = (l.take 25).length := by have := congrArg List.length h; simpa using this
  refine ⟨by rw [hlen, List.length_take]; omega, fun j hj => ?_, fun j hj => ?_, fun j hj q hq => ?_, fun j hj => ?_⟩
  · obtain ⟨h1, h2, _, _⟩ := few_get h hj
    rw [h2]; exact hr.id j h1
  · obtain ⟨h1, _, h2, _⟩ := few_get h hj
    rw [h2]; exact hr.of j h1
  · obtain ⟨h1, _, _, h2⟩ := few_get h hj
    rw [h2, List.length_take] at hq
    rw [h2, getD_eq (by rw [List.length_take]; omega), List.getElem_take, ← getD_eq (d := 0) (by omega)]
    exact hr.ms j h1 q (by omega)
  · obtain ⟨h1, _, _, h2⟩ := few_get h hj
    rw [h2, List.length_take]; omega
theorem sized_set {l : List Grp} (h : Sized l) {k : Nat} (_hk : k < l.length) {x : Grp} (h1 : I64 x.id) (h2 : I64 x.of) (h3 : ∀ q, q < x.ms.length → I64 (x.ms.getD q 0)) (h4 : x.ms.length ≤ 1000) : Sized (l.set k x) := by
  have hget : ∀ j, j < l.length → (l.set k x).getD j g0 = if j = k then x else l.getD j g0 := fun j hj => by
    rw [getD_eq (by rw [List.length_set]; exact hj), List.getElem_set]
    by_cases e : k = j
    · rw [if_pos e, if_pos e.symm]
    · rw [if_neg e, if_neg (Ne.symm e), getD_eq hj]
  refine ⟨by rw [List.length_set]; exact h.len, fun j hj => ?_, fun j hj => ?_, fun j hj => ?_, fun j hj => ?_⟩ <;> rw [List.length_set] at hj <;> rw [hget j hj] <;> split
  · exact h1
  · exact h.id j hj
  · exact h2
  · exact h.of j hj
  · exact h3
  · exact h.ms j hj
  · exact h4
  · exact h.mlen j hj
/-- a group in the place of another one -/
theorem bent_at {w : World} {B g n c : Nat} {L : List Grp} {W : World} (h : DisS B (.slice (some ⟨g, 0, none⟩) n c) n L W) (hn : n = L.length) {k : Nat} (hk : k < L.length) (x : Grp) (hx : MsAt w x.v x.ms) (hb : Below w.heap.size w W) (hB : w.heap.size ≤ B) :
    GrpsAt (((W.setCell ⟨g, k * 3, none⟩ (.int .i64 x.id)).setCell ⟨g, k * 3 + 1, none⟩ (.int .i64 x.of)).setCell ⟨g, k * 3 + 2, none⟩ x.v) (some ⟨g, 0, none⟩) (L.set k x) ∧ Below w.heap.size w (((W.setCell ⟨g, k * 3, none⟩ (.int .i64 x.id)).setCell ⟨g, k * 3 + 1, none⟩ (.int .i64 x.of)).setCell ⟨g, k * 3 + 2, none⟩ x.v) := by
  have hg := (h.own.lt g rfl).1
  have hbb := ((hb.setCell (p := ⟨g, k * 3, none⟩) (by dsimp only; omega) (.int .i64 x.id)).setCell (p := ⟨g, k * 3 + 1, none⟩) (by dsimp only; omega) (.int .i64 x.of)).setCell (p := ⟨g, k * 3 + 2, none⟩) (by dsimp only; omega) x.v
  refine ⟨?_, hbb⟩
  obtain ⟨y, hy⟩ : ∃ y, L.getD k g0 = y := ⟨_, rfl⟩
  have r1 := own_put h.own (k * 3) (.int .i64 x.id)
  have f1 := flat_set g0 gcs_len (⟨x.id, y.of, y.v, y.ms⟩ : Grp) 0 (by omega) (.int .i64 x.id) L k hk (by rw [hy]; rfl)
  rw [Nat.add_zero] at f1
  rw [f1] at r1
  have hk1 : k < (L.set k (⟨x.id, y.of, y.v, y.ms⟩ : Grp)).length := by rw [List.length_set]; exact hk
  have r2 := own_put r1 (k * 3 + 1) (.int .i64 x.of)
  rw [flat_set g0 gcs_len (⟨x.id, x.of, y.v, y.ms⟩ : Grp) 1 (by omega) (.int .i64 x.of) _ k hk1 (by rw [getD_eq hk1, List.getElem_set_self]; rfl), List.set_set] at r2
  have hk2 : k < (L.set k (⟨x.id, x.of, y.v, y.ms⟩ : Grp)).length := by rw [List.length_set]; exact hk
  have r3 := own_put r2 (k * 3 + 2) x.v
  rw [flat_set g0 gcs_len x 2 (by omega) x.v _ k hk2 (by rw [getD_eq hk2, List.getElem_set_self]; rfl), List.set_set] at r3
  have hr := rec_of_own (d := g0) gcs_len r3 (by rw [List.length_set]; exact hn.symm)
  intro i hi
  rw [List.length_set] at hi
  refine ⟨⟨g, 0, rfl, ?_⟩, ?_⟩
  · rw [Nat.zero_add]
    exact ⟨(hr.cell (by omega) (show 0 < 3 by omega) rfl).1, (hr.cell (by omega) (show 1 < 3 by omega) rfl).1, (hr.cell (by omega) (show 2 < 3 by omega) rfl).1⟩
  · rw [getD_eq (by rw [List.length_set]; exact hi), List.getElem_set]
    by_cases e : k = i
    · rw [if_pos e]; exact hx.then_ hbb
    · rw [if_neg e]
      obtain ⟨h1, h2⟩ := h.ms _ (List.getElem_mem hi)
      have hne : (L[i]).v.ownBlock ≠ some g := fun e => h2 g e rfl
      exact ms_of_own (own_set (p := ⟨g, k * 3 + 2, none⟩) (own_set (p := ⟨g, k * 3 + 1, none⟩) (own_set (p := ⟨g, k * 3, none⟩) h1 hne _) hne _) hne _)
theorem cells4 {w : World} {g : Nat} {c0 c1 c2 c3 : Value} {t : TypeId} (h : w.heap[g]? = some (.cells #[c0, c1, c2, c3] t (0, 0))) : w.cell? ⟨g, 0, none⟩ = some c0 ∧ w.cell? ⟨g, 1, none⟩ = some c1 ∧ w.cell? ⟨g, 2, none⟩ = some c2 ∧ w.cell? ⟨g, 3, none⟩ = some c3 :=
  ⟨cell_of_row w g 0 _ _ _ h, cell_of_row w g 1 _ _ _ h, cell_of_row w g 2 _ _ _ h, cell_of_row w g 3 _ _ _ h⟩
theorem cells6 {w : World} {g : Nat} {c0 c1 c2 c3 c4 c5 : Value} {t : TypeId} (h : w.heap[g]? = some (.cells #[c0, c1, c2, c3, c4, c5] t (0, 0))) : w.cell? ⟨g, 0, none⟩ = some c0 ∧ w.cell? ⟨g, 1, none⟩ = some c1 ∧ w.cell? ⟨g, 2, none⟩ = some c2 ∧ w.cell? ⟨g, 3, none⟩ = some c3 ∧ w.cell? ⟨g, 4, none⟩ = some c4 ∧ w.cell? ⟨g, 5, none⟩ = some c5 :=
  ⟨cell_of_row w g 0 _ _ _ h, cell_of_row w g 1 _ _ _ h, cell_of_row w g 2 _ _ _ h, cell_of_row w g 3 _ _ _ h, cell_of_row w g 4 _ _ _ h, cell_of_row w g 5 _ _ _ h⟩
theorem lit4_at2 (w : World) (o : Obj) : ((w.alloc o).alloc (.cells #[] 29)).ownsRow w.heap.size 29 4 (.slice (some ⟨w.heap.size + 1, 0, none⟩) 0 0) 0 [] := by
  have h := World.ownsRow_lit (base := w.heap.size) (e := 29) (size := 4) (w.alloc o) #[] 0 (by simp) (by unfold maxLen; omega) rfl
  rw [World.size_alloc] at h
  exact h
theorem wirs_take {w : World} {A : Option Addr} {l : List Wir} (h : WirsAt w A l) (k : Nat) : WirsAt w A (l.take k) := fun i hi => by
  rw [List.length_take] at hi
  obtain ⟨b, o, h1, h2⟩ := h i (by omega)
  exact ⟨b, o, h1, by rw [getD_eq (by rw [List.length_take]; omega), List.getElem_take, ← getD_eq (d := w0) (by omega)]; exact h2⟩
theorem wsok_take {l : List Wir} (h : WsOk l) (k : Nat) : WsOk (l.take k) := fun i hi => by
  rw [List.length_take] at hi
  rw [getD_eq (by rw [List.length_take]; omega), List.getElem_take, ← getD_eq (d := w0) (by omega)]
  exact h i (by omega)
theorem dsok_snoc {l : List Dev} {x : Dev} (h : DsOk l) (hx : I64 x.code) : DsOk (l ++ [x]) := fun i hi => by
  rw [List.length_append, List.length_singleton] at hi
  rcases Nat.lt_or_ge i l.length with h1 | h1
  · rw [getD_left h1]; exact h i h1
  · obtain rfl : i = l.length := by omega
    rw [getD_last]; exact hx
theorem d_news_any {w : World} {ad : Addr} {l : List Dev} (h : DevsAt w (some ad) l) (j : Nat) (u : Value) (hu : (l.flatMap dcs)[j]? = some u) : w.cell? (ad.add j) = some u := by
  rcases Nat.eq_zero_or_pos l.length with h0 | h0
  · obtain rfl := List.eq_nil_of_length_eq_zero h0
    simp at hu
  · obtain ⟨b, o, e, _⟩ := h 0 h0
    injection e with e
    subst e
    exact d_news h j u hu
theorem dev_cells {w : World} {g : Nat} {x : Dev} {t : TypeId} (h : w.heap[g]? = some (.cells #[.int .i64 x.code, .int .i64 x.kind, .string x.text, .int .i64 x.size] t (0, 0))) (j : Nat) (u : Value) (hu : [Value.int .i64 x.code, .int .i64 x.kind, .string x.text, .int .i64 x.size][j]? = some u) : w.cell? ⟨g, j, none⟩ = some u :=
  cell_of_row w g j _ _ _ h |>.trans (by simpa using hu)
theorem step_append0 {P : Program} {w : World} {ops : Array Oper} {o : Oper} {a : Act} {Q : Exit → Act → World → Prop} {K : Act → World → Prop} {E : Prop} (hgd : o.guard = none) (s x : Operand) (t : TypeId) (ho : o.op = .call { callee := .builtin .append, args := #[s, x], argTypes := #[t, t] })
    (e : TypeId) (i : TypeInfo) (ht : P.underlying t = some (.slice e)) (hi : P.info? e = some i) (b : Addr) (n cap c : Nat) (hs : a.eval s = .slice (some b) n cap) (hx : a.eval x = .slice none 0 c) (hn : n ≤ cap)
    (h : K (a.put o.dst (.slice (some b) n cap)) w) : if Region.wanted o (yielded ops a.tmps) = true then Oper.wp P o a w K Q else E := by
  have hw : Region.wanted o (yielded ops a.tmps) = true := by simp [Region.wanted, hgd]
  rw [if_pos hw]
  have hr : (Builtin.append_ #[t, t] o.type #[.slice (some b) n cap, .slice none 0 c]).run P w = .ok (.slice (some b) n cap) w := by
    simp [Builtin.append_, run_underlying ht, sizeOf, typeInfo, hi, Builtin.lenOf, Builtin.firstCells, hn, storeCells]
  unfold Oper.wp execOp
  simp only [ho, resolve, invoke, builtin, Sem.run_bind, Sem.run_pure, Result.andThen_ok, List.map_toArray, List.map_cons, List.map_nil, hs, hx, hr]
  exact h
/-- a device more in the third net -/
theorem strange_end {w6 W6 w9 : World} {n27 n28 n29 cd ce cw g' c' lw lt : Nat} {D E WA : Option Addr} {ds : List Dev} {x : Dev} {T : TypeId}
    (h6 : Below w6.heap.size w6 W6) (hn : n27 < n28 ∧ n28 < n29 ∧ n29 < W6.heap.size) (hl : w6.heap.size ≤ n27)
    (H27 : W6.heap[n27]? = some (.cells #[.slice D ds.length cd, .slice E lw ce] T (0, 0))) (H28 : W6.heap[n28]? = some (.cells #[.slice D ds.length cd, .slice WA lt cw] T (0, 0))) (H29 : W6.heap[n29]? = some (.cells #[.slice D ds.length cd, .slice E lw ce] T (0, 0)))
    (K9 : Below W6.heap.size W6 w9) (own : w9.ownsRow W6.heap.size 29 4 (.slice (some ⟨g', 0, none⟩) (ds.length + 1) c') (ds.length + 1) (ds.flatMap dcs ++ [.int .i64 x.code, .int .i64 x.kind, .string x.text, .int .i64 x.size])) :
    ∃ (V : Option Addr) (cv : Nat), (w9.setCell ⟨n29, 0, none⟩ (.slice (some ⟨g', 0, none⟩) (ds.length + 1) c')).heap[n29]? = some (.cells #[.slice V (ds ++ [x]).length cv, .slice E lw ce] T (0, 0)) ∧ DevsAt (w9.setCell ⟨n29, 0, none⟩ (.slice (some ⟨g', 0, none⟩) (ds.length + 1) c')) V (ds ++ [x]) ∧
      (w9.setCell ⟨n29, 0, none⟩ (.slice (some ⟨g', 0, none⟩) (ds.length + 1) c')).heap[n27]? = some (.cells #[.slice D ds.length cd, .slice E lw ce] T (0, 0)) ∧ (w9.setCell ⟨n29, 0, none⟩ (.slice (some ⟨g', 0, none⟩) (ds.length + 1) c')).heap[n28]? = some (.cells #[.slice D ds.length cd, .slice WA lt cw] T (0, 0)) ∧
      Below w6.heap.size w6 (w9.setCell ⟨n29, 0, none⟩ (.slice (some ⟨g', 0, none⟩) (ds.length + 1) c')) := by
  have hlen : (ds ++ [x]).length = ds.length + 1 := by simp
  have hg := (own.lt g' rfl).1
  have k := Kept.of_below K9
  have hne : (Value.slice (some ⟨g', 0, none⟩) (ds.length + 1) c').ownBlock ≠ some n29 := fun e => by
    have h9 : g' = n29 := by simpa [Value.ownBlock] using e
    omega
  have o2 := own_set (p := ⟨n29, 0, none⟩) own hne (.slice (some ⟨g', 0, none⟩) (ds.length + 1) c')
  refine ⟨some ⟨g', 0, none⟩, c', ?_, ?_, heap_setCell (k.heap H27 (by simp)) (by dsimp only; omega) _, heap_setCell (k.heap H28 (by simp)) (by dsimp only; omega) _, (below_next h6 K9).setCell (by dsimp only; omega) _⟩
  · rw [hlen]; exact heap_setCell_same _ n29 0 _ _ _ (k.heap H29 (by simp))
  · rw [← hlen] at o2 ⊢
    have hfm : (ds ++ [x]).flatMap dcs = ds.flatMap dcs ++ [.int .i64 x.code, .int .i64 x.kind, .string x.text, .int .i64 x.size] := by rw [List.flatMap_append]; rfl
    rw [← hfm] at o2
    exact d_of_rec (d_rec_own o2 rfl) (Nat.le_refl _)
set_option maxRecDepth 100000 in
theorem nets3 (W : World) (a b c d e f : Value) : (Instr.buildSlice 49 3 #[(0, .agg #[a, b]), (1, .agg #[c, d]), (2, .agg #[e, f])]).run Try.prog W = .ok (.slice (some ⟨W.heap.size, 0, none⟩) 3 3) (W.alloc (.cells #[a, b, c, d, e, f] 36)) := by
  simp [go_sem]
/-- a row of three nets -/
theorem wpList_nets {w : World} {ops : Array Oper} {rest : List Oper} {o : Oper} {a : Act} {Q : Exit → Act → World → Prop} (hgd : o.guard = none) (x0 x1 x2 : Operand) (ho : o.op = .buildSlice 49 3 #[(0, x0), (1, x1), (2, x2)]) (v0 v1 v2 v3 v4 v5 : Value)
    (h0 : a.eval x0 = .agg #[v0, v1]) (h1 : a.eval x1 = .agg #[v2, v3]) (h2 : a.eval x2 = .agg #[v4, v5])
    (h : wpList Try.prog ops Q rest (a.put o.dst (.slice (some ⟨w.heap.size, 0, none⟩) 3 3)) (w.alloc (.cells #[v0, v1, v2, v3, v4, v5] 36))) : wpList Try.prog ops Q (o :: rest) a w := by
  refine wpList_plain hgd fun K hK => ?_
  unfold Oper.wp execOp
  simp only [ho, Sem.run_bind, Sem.run_pure, Result.andThen_ok, List.map_toArray, List.map_cons, List.map_nil, h0, h1, h2, nets3]
  exact hK _ _ h
/-- few of one group -/
theorem few_one {w : World} {oid oof : Int} {oa : Option Addr} {oc : Nat} {om : List Int} (hom : MsAt w (.slice oa om.length oc) om) (hol : om.length ≤ 9223372036854775807) (g : Nat) (t : TypeId) (W : World) (hW : Below w.heap.size w W) (hr : W.heap[g]? = some (.cells #[.int .i64 oid, .int .i64 oof, .slice oa om.length oc] t (0, 0))) :
    Calls Try.prog 12 #[.slice (some ⟨g, 0, none⟩) 1 1] W fun e w' => ∃ g' c', e = .returned (.slice (some ⟨g', 0, none⟩) 1 c') ∧ w'.cell? ⟨g', 0, none⟩ = some (.int .i64 oid) ∧ w'.cell? ⟨g', 1, none⟩ = some (.int .i64 oof) ∧ w'.cell? ⟨g', 2, none⟩ = some (.slice oa (min om.length 5) oc) ∧ Below W.heap.size W w' := by
  have hG : GrpsAt W (some ⟨g, 0, none⟩) [⟨oid, oof, .slice oa om.length oc, om⟩] := fun i hi => by
    obtain rfl : i = 0 := by simpa using hi
    exact ⟨⟨g, 0, rfl, ⟨(cells3 hr).1, (cells3 hr).2.1, (cells3 hr).2.2⟩⟩, hom.then_ hW⟩
  refine (few_any (some ⟨g, 0, none⟩) 1 [⟨oid, oof, .slice oa om.length oc, om⟩] W hG (by simp) (fun j hj => by
    obtain rfl : j = 0 := by simpa using hj
    exact hol)).mono ?_
  rintro e w' ⟨A', L, c', rfl, _, hg, hl, hk, hb, hv, hA⟩
  have hl1 : L.length = 1 := by rw [hl]; rfl
  obtain ⟨G, rfl⟩ : ∃ G, L = [G] := by
    cases L with
    | nil => cases hl1
    | cons y t => cases t with
      | nil => exact ⟨y, rfl⟩
      | cons z t => simp at hl1
  obtain ⟨⟨b, o, hA2, hx⟩, _⟩ := hg 0 (by simp)
  rcases hA with h | ⟨g', h⟩
  · rw [h] at hA2; cases hA2
  · rw [h] at hA2
    injection hA2 with hA2
    injection hA2 with hA2 hA3
    subst hA2 hA3
    have hk' : key G = (oid, oof, om.take 5) := by
      have : [key G] = [cutK ⟨oid, oof, .slice oa om.length oc, om⟩] := hk
      injection this
    have hv' : G.v = .slice oa (min om.length 5) oc := by
      have : [G.v] = [cutV (.slice oa om.length oc)] := hv
      injection this
    have k1 : G.id = oid := congrArg (fun t => t.1) hk'
    have k2 : G.of = oof := congrArg (fun t => t.2.1) hk'
    have e0 := hx.id
    have e1 := hx.of
    have e2 := hx.v
    have hGG : ([G] : List Grp).getD 0 g0 = G := rfl
    rw [hGG] at e0 e1 e2
    rw [k1] at e0
    rw [k2] at e1
    rw [hv'] at e2
    exact ⟨g', c', by rw [h]; rfl, e0, e1, e2, hb⟩
end Go.Proofs.Ytebfenkjipaedaa.Gr
