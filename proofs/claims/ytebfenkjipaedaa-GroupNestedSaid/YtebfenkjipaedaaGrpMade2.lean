/- The reference's Made: groups that integers determine. -/
import Derived.Test.YtebfenkjipaedaaGe
namespace Go.Proofs.Ytebfenkjipaedaa.Gr
open Go.RowKit Gp Go.Sort
attribute [local go_sem] Oper.semAt_some
/-- pairs of integers in memory -/
def P2At (w : World) (A : Option Addr) (l : List (Int × Int)) : Prop := ∀ i, i < l.length → ∃ b o, A = some ⟨b, o, none⟩ ∧ w.cell? ⟨b, o + i * 2, none⟩ = some (.int .i64 (l.getD i (0, 0)).1) ∧ w.cell? ⟨b, o + i * 2 + 1, none⟩ = some (.int .i64 (l.getD i (0, 0)).2)
theorem P2At.then_ {w w' : World} {A : Option Addr} {l : List (Int × Int)} (h : P2At w A l) (hb : Below w.heap.size w w') : P2At w' A l := fun i hi => by
  obtain ⟨b, o, e, h1, h2⟩ := h i hi
  exact ⟨b, o, e, cell_then hb h1, cell_then hb h2⟩
def P2Ok (l : List (Int × Int)) : Prop := ∀ i, i < l.length → I64 (l.getD i (0, 0)).1 ∧ I64 (l.getD i (0, 0)).2
def IsOk (l : List Int) : Prop := ∀ i, i < l.length → I64 (l.getD i 0)
theorem isok_of {l : List Int} (h : ∀ y ∈ l, I64 y) : IsOk l := fun _ hi => h _ (mem_getD hi)
theorem own_any {w : World} {base g n c size : Nat} {e : TypeId} {xs : List Value} (h : w.ownsRow base e size (.slice (some ⟨g, 0, none⟩) n c) n xs) {i : Nat} (hi : i < n * size) : ∃ v, w.cell? ⟨g, i, none⟩ = some v := by
  rw [h.cellAt i hi]
  exact ⟨_, List.getElem?_eq_getElem (by rw [h.1]; exact hi)⟩
theorem own_put {w : World} {base g n c size : Nat} {e : TypeId} {xs : List Value} (h : w.ownsRow base e size (.slice (some ⟨g, 0, none⟩) n c) n xs) (i : Nat) (v : Value) : (w.setCell ⟨g, i, none⟩ v).ownsRow base e size (.slice (some ⟨g, 0, none⟩) n c) n (xs.set i v) := by
  rcases h.2 with ⟨h', _⟩ | ⟨g', cap', cur, h', hb, hg, hn, hm, hs, hx⟩
  · cases h'
  · injection h' with e1 e2 e3
    injection e1 with e1
    injection e1 with e1
    subst e1
    subst e3
    refine ⟨by rw [List.length_set]; exact h.1, .inr ⟨g, c, cur.setIfInBounds i v, rfl, hb, heap_setCell_same w g i cur e v hg, hn, hm, by rw [Array.size_setIfInBounds]; exact hs, ?_⟩⟩
    rw [Array.toList_setIfInBounds, List.take_set, hx]
theorem flat_set {α : Type} {f : α → List Value} {sz : Nat} (d : α) (hf : ∀ x, (f x).length = sz) (x : α) (r : Nat) (hr : r < sz) (v : Value) : ∀ (L : List α) (k : Nat), k < L.length → f x = (f (L.getD k d)).set r v → (L.flatMap f).set (k * sz + r) v = (L.set k x).flatMap f
  | [], k, h, _ => by simp at h
  | y :: t, 0, _, hx => by
    rw [List.flatMap_cons, Nat.zero_mul, Nat.zero_add, List.set_append_left _ _ (by rw [hf]; exact hr), List.set_cons_zero, List.flatMap_cons, hx]
    rfl
  | y :: t, k + 1, h, hx => by
    rw [List.flatMap_cons, List.set_append_right _ _ (by rw [hf, Nat.succ_mul]; omega), hf, show (k + 1) * sz + r - sz = k * sz + r by rw [Nat.succ_mul]; omega, flat_set d hf x r hr v t k (by simpa using h) (by simpa using hx), List.set_cons_succ, List.flatMap_cons]
/-- the members' rows lie apart -/
def Sep (L : List Grp) : Prop := ∀ j j', j < L.length → j' < L.length → j ≠ j' → ∀ b, (L.getD j g0).v.ownBlock = some b → (L.getD j' g0).v.ownBlock ≠ some b
/-- a cell of the groups' row is written -/
theorem DisS.put {B g n c : Nat} {L : List Grp} {W : World} (h : DisS B (.slice (some ⟨g, 0, none⟩) n c) n L W) (_hn : n = L.length) {k r : Nat} (hk : k < L.length) (hr : r < 3) (x : Grp) (v : Value) (hx : gcs x = (gcs (L.getD k g0)).set r v)
    (hm : W.ownsRow B 3 1 x.v x.ms.length (ivs x.ms) ∧ ∀ b, x.v.ownBlock = some b → (Value.slice (some ⟨g, 0, none⟩) n c).ownBlock ≠ some b) : DisS B (.slice (some ⟨g, 0, none⟩) n c) n (L.set k x) (W.setCell ⟨g, k * 3 + r, none⟩ v) := by
  have hne : ∀ {y : Grp}, (∀ b, y.v.ownBlock = some b → (Value.slice (some ⟨g, 0, none⟩) n c).ownBlock ≠ some b) → y.v.ownBlock ≠ some (⟨g, k * 3 + r, none⟩ : Addr).block := fun {y} hy e => hy _ e rfl
  refine ⟨?_, fun y hy => ?_⟩
  · rw [← flat_set g0 gcs_len x r hr v L k hk hx]
    exact own_put h.own _ v
  · rcases List.mem_or_eq_of_mem_set hy with h1 | h1
    · exact ⟨own_set (h.ms y h1).1 (hne (h.ms y h1).2) _, (h.ms y h1).2⟩
    · subst h1; exact ⟨own_set hm.1 (hne hm.2) _, hm.2⟩
/-- a member's row has grown, and its cell is written -/
theorem DisS.give {B g n c : Nat} {L : List Grp} {W W' : World} (h : DisS B (.slice (some ⟨g, 0, none⟩) n c) n L W) (_hn : n = L.length) (hS : Sep L) {k : Nat} (hk : k < L.length) (x : Grp) {g' m' c' : Nat} (hx : gcs x = (gcs (L.getD k g0)).set 2 (.slice (some ⟨g', 0, none⟩) m' c')) (hxv : x.v = .slice (some ⟨g', 0, none⟩) m' c')
    (ho : W'.ownsRow B 3 1 x.v x.ms.length (ivs x.ms)) (hK : Kept (L.getD k g0).v.ownBlock.toList W W') (hb : (L.getD k g0).v.ownBlock = some g' ∨ W.heap.size ≤ g') : DisS B (.slice (some ⟨g, 0, none⟩) n c) n (L.set k x) (W'.setCell ⟨g, k * 3 + 2, none⟩ (.slice (some ⟨g', 0, none⟩) m' c')) ∧ Sep (L.set k x) := by
  have hg := (h.own.lt g rfl).2
  have hkm : L.getD k g0 ∈ L := by rw [getD_eq hk]; exact List.getElem_mem hk
  have hgk : ∀ q ∈ (L.getD k g0).v.ownBlock.toList, q ≠ g := fun q hq e => (h.ms _ hkm).2 q (own_mem hq) (by rw [e]; rfl)
  have hne' : g' ≠ g := fun e => by
    rcases hb with h1 | h1
    · exact (h.ms _ hkm).2 g' h1 (by rw [e]; rfl)
    · omega
  have hget : ∀ j, j < L.length → (L.set k x).getD j g0 = if j = k then x else L.getD j g0 := fun j hj => by
    rw [getD_eq (by rw [List.length_set]; exact hj), List.getElem_set]
    by_cases e : k = j
    · rw [if_pos e, if_pos e.symm]
    · rw [if_neg e, if_neg (Ne.symm e), getD_eq hj]
  have hown : W'.ownsRow B 26 3 (.slice (some ⟨g, 0, none⟩) n c) n (L.flatMap gcs) := hK.own h.own (fun q hq e => by
    have : g = q := by simpa [Value.ownBlock] using hq
    exact hgk q e this.symm)
  refine ⟨⟨?_, fun y hy => ?_⟩, fun j j' hj hj' hne b hb1 hb2 => ?_⟩
  · rw [← flat_set g0 gcs_len x 2 (by omega) _ L k hk hx]
    exact own_put hown _ _
  · obtain ⟨j, hj, e⟩ := ex_getD g0 hy
    rw [List.length_set] at hj
    rw [hget j hj] at e
    by_cases ej : j = k
    · rw [if_pos ej] at e
      subst e
      refine ⟨own_set ho (by rw [hxv]; intro e; exact hne' (by simpa [Value.ownBlock] using e)) _, fun b hb1 hb2 => ?_⟩
      rw [hxv] at hb1
      have e1 : g' = b := by simpa [Value.ownBlock] using hb1
      have e2 : g = b := by simpa [Value.ownBlock] using hb2
      exact hne' (e1.trans e2.symm)
    · rw [if_neg ej] at e
      have hm : y ∈ L := by rw [← e, getD_eq hj]; exact List.getElem_mem hj
      have hy := hK.own (h.ms y hm).1 (fun q hq e1 => hS j k hj hk ej q (by rw [e]; exact hq) (own_mem e1))
      exact ⟨own_set (p := ⟨g, k * 3 + 2, none⟩) hy (fun e1 => (h.ms y hm).2 _ e1 rfl) _, (h.ms y hm).2⟩
  · rw [List.length_set] at hj hj'
    rw [hget j hj] at hb1
    rw [hget j' hj'] at hb2
    have key : ∀ i, i < L.length → i ≠ k → (L.getD i g0).v.ownBlock ≠ some g' := fun i hi hik e1 => by
      rcases hb with h1 | h1
      · exact hS i k hi hk hik g' e1 h1
      · have := ((h.ms _ (by rw [getD_eq hi]; exact List.getElem_mem hi)).1.lt g' e1).2
        omega
    have hxb : x.v.ownBlock = some g' := by rw [hxv]; rfl
    by_cases e : j = k
    · rw [if_pos e] at hb1
      rw [if_neg (by omega)] at hb2
      rw [hxb] at hb1
      injection hb1 with hb1
      subst hb1
      exact key j' hj' (by omega) hb2
    · rw [if_neg e] at hb1
      by_cases e' : j' = k
      · rw [if_pos e', hxb] at hb2
        injection hb2 with hb2
        subst hb2
        exact key j hj e hb1
      · rw [if_neg e'] at hb2
        exact hS j j' hj hj' hne b hb1 hb2
theorem Sep.nils {L : List Grp} (h : ∀ g ∈ L, g.v = .slice none 0 0) : Sep L := fun j j' hj _ _ b hb _ => by
  rw [h _ (by rw [getD_eq hj]; exact List.getElem_mem hj)] at hb
  cases hb
/-- what Made comes to: groups in a slice of the call's own -/
def MadeQ (w : World) (e : Ending) (w' : World) : Prop := ∃ L g c, e = .returned (.slice (some ⟨g, 0, none⟩) L.length c) ∧ 1 ≤ L.length ∧ MadeP L 16 ∧ DisS w.heap.size (.slice (some ⟨g, 0, none⟩) L.length c) L.length L w' ∧ Below w.heap.size w w'
theorem wrap3 {k : Nat} (hk : k ≤ 14) : wrap64 (3 * (k : Int)) = 3 * (k : Int) := by unfold wrap64; omega
set_option maxRecDepth 100000 in
set_option maxHeartbeats 4000000 in
theorem made_any (A : Option Addr) (c : Nat) (rows : List (Int × Int)) (B : Option Addr) (cb : Nat) (codes : List Int) (w : World) (hA : P2At w A rows) (hAO : P2Ok rows) (hAl : rows.length ≤ 9223372036854775807) (hB : IntsAt w B codes) (hBO : IsOk codes) (hBl : codes.length ≤ 9223372036854775807) :
    Calls Try.prog 11 #[.slice A rows.length c, .slice B codes.length cb] w (MadeQ w) := by
  obtain ⟨j0, hj0, e0, e1, e2⟩ := info_parts int_info1
  obtain ⟨i0, hi0, d0, d1, d2⟩ := info_parts grp_info
  have HA := Lib.hid hA
  have HAO := Lib.hid hAO
  have HBB := Lib.hid hB
  have HBO := Lib.hid hBO
  have hrl : (rows.length : Int) ≤ 9223372036854775807 := by omega
  have hcl : (codes.length : Int) ≤ 9223372036854775807 := by omega
  clear hA hAO hB hBO
  go_enter Try.func11, Try.ntmps11
  go_wp2_with fail
  go_loopw [5, 6] (fun u i wr => ∃ (k : Nat) (L : List Grp), k ≤ 14 ∧ L.length = k ∧ i = .int .i64 (k : Int) ∧ MadeP L 0 ∧ DisS w.heap.size u k L wr ∧ (∀ g ∈ L, g.v = .slice none 0 0) ∧ Below w.heap.size w wr) (fun _ i _ => 14 - (intOf i).toNat)
  case atStart => exact ⟨0, [], by omega, rfl, rfl, MadeP.zero, ⟨World.ownsRow_nil _ _ _ _, fun g hg => (by cases hg)⟩, fun g hg => (by cases hg), Below.refl _ _⟩
  case round =>
    obtain ⟨k, L, hk, hL, rfl, hP, hD, hN, hB⟩ := hrel
    have HL := Lib.hid hL
    have HP := Lib.hid hP
    have HD := Lib.hid hD
    have HN := Lib.hid hN
    have HB := Lib.hid hB
    clear hL hP hD hN hB
    have hk0 : (0 : Int) ≤ (k : Int) := by omega
    obtain ⟨Au, cu, rfl, hcu⟩ := own_slice HD.out.own
    by_cases hgo : k < 14 ∧ (k < rows.length ∨ k = 0)
    · obtain ⟨h14, hgo'⟩ := hgo
      have hk14 : (k : Int) < 14 := by omega
      go_upto_region 3 with fail
      go_cut [21] from 10 to 21 (fun s wx => s = .bool true ∧ wx = wr)
      case first =>
        rcases hgo' with h | h
        · have hkr : (k : Int) < (rows.length : Int) := by omega
          go_wp2_with fail
          go_meet
          exact ⟨rfl, rfl⟩
        · subst h
          rcases Nat.eq_zero_or_pos rows.length with hz | hz
          · have hkr : ¬ (0 < rows.length) := by omega
            go_wp2_with fail
            go_meet
            exact ⟨rfl, rfl⟩
          · go_wp2_with fail
            go_meet
            exact ⟨rfl, rfl⟩
      case rest =>
        obtain ⟨rfl, hw⟩ := hcut
        rw [hw]
        clear hw
        have HGO := Lib.hid hgo'
        clear hgo'
        go_upto_if 28 with fail
        obtain ⟨gb, hgb⟩ : ∃ gb, wr.heap.size = gb := ⟨_, rfl⟩
        obtain ⟨Wg, hWg⟩ : ∃ Wg, wr.alloc (.cells #[.int .i64 (3 * (k : Int)), .int .i64 (-1), .slice none 0 0] 26) = Wg := ⟨_, rfl⟩
        have hbg : Below wr.heap.size wr Wg := by rw [← hWg]; exact below_alloc (Below.refl _ _) _
        have hgh := World.alloc_heap_new wr (.cells #[.int .i64 (3 * (k : Int)), .int .i64 (-1), .slice none 0 0] 26)
        rw [hWg] at hgh ⊢
        rw [hgb] at hgh ⊢
        have HBG := Lib.hid hbg
        have HGH := Lib.hid hgh
        have HGB := Lib.hid hgb
        have hgl : gb < Wg.heap.size := heap_lt hgh
        clear hWg hbg hgh hgb
        go_cut [28] from 22 to 43 (fun s wx => ∃ of : Int, (of = -1 ∨ ∃ j : Nat, j < k ∧ of = 3 * (j : Int)) ∧ wx.heap[gb]? = some (.cells #[.int .i64 (3 * (k : Int)), .int .i64 of, .slice none 0 0] 26 (0, 0)) ∧ Kept [gb] Wg wx)
        case first =>
          rcases Nat.eq_zero_or_pos k with hz | hz
          · have hkg : decide (0 < k) = false := decide_eq_false (by omega)
            have hkn : ¬ (0 < k) := by omega
            go_wp2_with fail
            go_meet
            exact ⟨-1, .inl rfl, HGH.out, Kept.refl _ _⟩
          · have hkg : decide (0 < k) = true := decide_eq_true hz
            have hkr : k < rows.length := by have := HGO.out; omega
            have hkI : (k : Int) < (rows.length : Int) := by omega
            obtain ⟨b, o, rfl, c0, _⟩ := (HA.out.then_ (below_next HB.out HBG.out)) k hkr
            have hxi := (HAO.out k hkr).1
            obtain ⟨x, hx⟩ : ∃ x, (rows.getD k (0, 0)).1 = x := ⟨_, rfl⟩
            rw [hx] at c0 hxi
            have HPK := Lib.hid (fun W => pickR_any x ((k : Int) + 1) W hxi (by omega) (by omega))
            obtain ⟨P, hP⟩ : ∃ P, pickI x ((k : Int) + 1) = P := ⟨_, rfl⟩
            have hPb := pickI_bd x (n := (k : Int) + 1) (by omega)
            rw [hP] at HPK hPb
            obtain ⟨hP0, hP1⟩ := hPb
            have hP2 : P ≤ 14 := by omega
            have HP1 := Lib.hid hP1
            have q1 := cell_of_row Wg gb 1 _ _ _ HGH.out
            have f1 := frozen_of_row Wg gb 1 _ _ HGH.out
            clear hx hxi hP hP1
            by_cases hp : P < 1
            · have HPP := Lib.hid hp
              have hneg : 3 * P - 3 < 0 := by omega
              go_wp2_with fail
              refine (HPK.out _).mono ?_
              rintro e w5 ⟨rfl, rfl⟩
              go_wp2_with fail
              go_meet
              refine ⟨-1, .inl rfl, ?_, ((Kept.refl _ _).setCell (.inl (by simp)) _).setCell (.inl (by simp)) _⟩
              rw [heap_setCell_same _ gb 1 _ _ _ (heap_setCell_same Wg gb 1 _ _ _ HGH.out)]; rfl
            · have HPP := Lib.hid hp
              have hneg : ¬ 3 * P - 3 < 0 := by omega
              go_wp2_with fail
              refine (HPK.out _).mono ?_
              rintro e w5 ⟨rfl, rfl⟩
              go_wp2_with fail
              go_meet
              refine ⟨3 * P - 3, .inr ⟨(P - 1).toNat, ?_, ?_⟩, ?_, (Kept.refl _ _).setCell (.inl (by simp)) _⟩
              · have := HP1.out; omega
              · omega
              · rw [heap_setCell_same Wg gb 1 _ _ _ HGH.out]; rfl
        case rest =>
          obtain ⟨of1, ho1, hh1, hk1⟩ := hcut
          have HO1 := Lib.hid ho1
          have HH1 := Lib.hid hh1
          have HK1 := Lib.hid hk1
          have hX : Below wr.heap.size wr wc := hk1.below_next HBG.out HBG.out.size (by simp; have := HGB.out; omega)
          have HB1 := Lib.hid (below_next HB.out hX)
          have HD1 := Lib.hid (HD.out.then_ hX)
          have hbs := HB1.out.size
          have q0 := cell_of_row wc gb 0 _ _ _ hh1
          have q1 := cell_of_row wc gb 1 _ _ _ hh1
          have q2 := cell_of_row wc gb 2 _ _ _ hh1
          have hgbl : gb < wc.heap.size := heap_lt hh1
          clear ho1 hh1 hk1 hX
          have hw3 := wrap3 hk
          go_wp2_with (at_builtin; refine wpList_append1 rfl _ _ 24 rfl w.heap.size 26 i0 _ 3 40 Try.underlying24 hi0 d0 d1 d2 rfl (by omega) (by omega) (.slice Au k cu) k _ rfl HD1.out.own #[.int .i64 (3 * (k : Int)), .int .i64 of1, .slice none 0 0] rfl rfl (by simp [Value.oneCell']) (by omega) hbs ?_; intro g' c' w8 own' k' n'; have OW := Lib.hid own'; have KW := Lib.hid k'; have NW := Lib.hid n'; have p0 := k'.cell q0 (fun e => by have h4 := (HD.out.own.lt _ (own_mem e)).2; have h5 := HGB.out; dsimp only at h4; omega); clear own' k' n')
          obtain ⟨G, hG⟩ : ∃ G : Grp, (⟨3 * (L.length : Int), of1, .slice none 0 0, []⟩ : Grp) = G := ⟨_, rfl⟩
          have hgl : gcs G = [.int .i64 (3 * (k : Int)), .int .i64 of1, .slice none 0 0] := by rw [← hG, ← HL.out]; rfl
          have hD2 : DisS w.heap.size (.slice (some ⟨g', 0, none⟩) (k + 1) c') (k + 1) (L ++ [G]) w8 := HD1.out.next (by rw [← hG]; exact World.ownsRow_nil _ _ _ _) (fun b hb e => by rw [← hG] at hb; cases hb) (by rw [hgl]; exact OW.out) KW.out (fun b hb => by have : g' = b := (by simpa [Value.ownBlock] using hb); subst this; exact NW.out)
          have HD2 := Lib.hid hD2
          have HB2 := Lib.hid (KW.out.below_next HB1.out hbs (fun q hq => (HD1.out.own.lt q (own_mem hq)).1))
          obtain ⟨A3, c3, hA3, _, hG3⟩ := hD2.at (show k + 1 = (L ++ [G]).length by rw [List.length_append, HL.out]; rfl)
          have HG := Lib.hid hG
          have hLL : (L ++ [G]).length = k + 1 := by rw [List.length_append, HL.out]; rfl
          rw [hLL] at hA3
          have HRO := Lib.hid (routward_any A3 c3 (L ++ [G]) (3 * (k : Int)) w8 hG3 (by omega))
          rw [hLL, ← hA3] at HRO
          have HLL := Lib.hid hLL
          clear hG hgl hD2 hA3 hG3 hLL q0 q1 q2 hw3
          refine HRO.out.mono ?_
          rintro e w9 ⟨v, rfl, hvo, hb9⟩
          obtain ⟨A9, c9, rfl, _⟩ := own_slice hvo
          have HD9 := Lib.hid (HD2.out.then_ hb9)
          have HB9 := Lib.hid (below_next HB2.out hb9)
          obtain ⟨on, hon⟩ : ∃ on, (outR (L ++ [G]) 13 (3 * (k : Int))).length = on := ⟨_, rfl⟩
          rw [hon]
          have HON := Lib.hid hon
          clear hvo hb9 hon p0
          by_cases h12 : on ≤ 12
          · have hn12 : ¬ (12 : Int) < (on : Int) := by omega
            have HP2 := Lib.hid (show MadeP (L ++ [G]) 0 by
              rw [← HG.out]
              refine HP.out.push (by rw [HL.out]; exact h14) (by rw [HL.out]; exact HO1.out) (made_ok HP.out (by rw [HL.out]; exact HO1.out) ?_)
              rw [HG.out, HL.out, HON.out]; exact h12)
            clear h12
            go_wp2_with fail
            refine ⟨⟨k + 1, L ++ [G], by omega, HLL.out, by go_num, HP2.out, HD9.out, ?_, HB9.out⟩, ?_⟩
            · intro x hx
              rcases List.mem_append.1 hx with h | h
              · exact HN.out x h
              · rw [List.mem_singleton.1 h, ← HG.out]
            · simp [intOf]; omega
          · have hn12 : (12 : Int) < (on : Int) := by omega
            obtain ⟨G2, hG2⟩ : ∃ G2 : Grp, (⟨3 * (L.length : Int), -1, .slice none 0 0, []⟩ : Grp) = G2 := ⟨_, rfl⟩
            have hset : (L ++ [G]).set k G2 = L ++ [G2] := by rw [← HL.out, List.set_append_right _ _ (Nat.le_refl _), Nat.sub_self]; rfl
            have hgetk : (L ++ [G]).getD k g0 = G := by rw [← HL.out]; exact getD_last
            have HD10 := Lib.hid (HD9.out.put (k := k) (r := 1) (by rw [HLL.out]) (by rw [HLL.out]; omega) (by omega) G2 (.int .i64 (-1)) (by rw [hgetk, ← HG.out, ← hG2]; rfl) ⟨by rw [← hG2]; exact World.ownsRow_nil _ _ _ _, fun b hb e => by rw [← hG2] at hb; cases hb⟩)
            rw [hset] at HD10
            have HP2 := Lib.hid (show MadeP (L ++ [G2]) 0 by
              rw [← hG2]
              exact HP.out.push (by rw [HL.out]; exact h14) (.inl rfl) (made_ok_neg HP.out))
            have HGE := Lib.hid hG2
            have hgs := (HD9.out.own.lt g' rfl)
            have HGS := Lib.hid hgs.1
            obtain ⟨cs, hcs⟩ := own_any HD9.out.own (show k * 3 + 1 < (k + 1) * 3 by omega)
            have hfz := HD9.out.own.frozenAt (k * 3 + 1)
            have hkl : (k : Int) < (k : Int) + 1 := by omega
            clear hset hgetk hG2 h12
            go_wp2_with fail
            refine ⟨⟨k + 1, L ++ [G2], by omega, (by have := HLL.out; rw [List.length_append, List.length_singleton] at this ⊢; exact this), by go_num, HP2.out, HD10.out, ?_, HB9.out.setCell (by dsimp only; have := HGS.out; omega) _⟩, ?_⟩
            · intro x hx
              rcases List.mem_append.1 hx with h | h
              · exact HN.out x h
              · rw [List.mem_singleton.1 h, ← HGE.out]
            · simp [intOf]; omega
    · -- TWO
      go_upto_region 3 with fail
      go_cut [21] from 10 to 21 (fun s wx => s = .bool false ∧ wx = wr)
      case first =>
        by_cases h14 : k < 14
        · have hk14 : (k : Int) < 14 := by omega
          have hkr : ¬ (k : Int) < (rows.length : Int) := by omega
          have hkz : ((k : Int) == 0) = false := by rw [beq_eq_false_iff_ne]; omega
          go_wp2_with fail
          go_meet
          exact ⟨rfl, rfl⟩
        · have hk14 : ¬ (k : Int) < 14 := by omega
          go_wp2_with fail
          go_meet
          exact ⟨rfl, rfl⟩
      case rest =>
        obtain ⟨rfl, hw⟩ := hcut
        rw [hw]
        clear hw
        have hk1 : 1 ≤ k := by omega
        have HL1 := Lib.hid hk1
        obtain ⟨ga, rfl⟩ : ∃ ga, Au = some ⟨ga, 0, none⟩ := by
          rcases HD.out.own.2 with ⟨h1, h2⟩ | ⟨ga, _, _, h1, _⟩
          · omega
          · injection h1 with h1; exact ⟨ga, h1⟩
        have HSP := Lib.hid (Sep.nils HN.out)
        clear hgo
        obtain ⟨N, hN⟩ : ∃ N, L.length = N := ⟨_, rfl⟩
        have hNk : N = k := by rw [← hN]; exact HL.out
        subst hNk
        go_wp2_with fail
        go_loopw [8, 9] (fun i z wr' => ∃ (i' : Nat) (L' : List Grp), i' ≤ 16 ∧ L'.length = N ∧ i = .int .i64 (i' : Int) ∧ MadeP L' i' ∧ DisS w.heap.size (.slice (some ⟨ga, 0, none⟩) N cu) N L' wr' ∧ Sep L' ∧ Below w.heap.size w wr') (fun i _ _ => 16 - (intOf i).toNat)
        case atStart => exact ⟨0, L, by omega, HL.out, rfl, HP.out, HD.out, HSP.out, HB.out⟩
        case round =>
          obtain ⟨i, M, hi, hM, rfl, hP, hD, hS, hB⟩ := hrel
          have HM := Lib.hid hM
          have HPM := Lib.hid hP
          have HDM := Lib.hid hD
          have HSM := Lib.hid hS
          have HBM := Lib.hid hB
          clear hM hP hD hS hB
          have hi0 : (0 : Int) ≤ (i : Int) := by omega
          by_cases hgo : i < codes.length ∧ i < 16
          · obtain ⟨hic, h16⟩ := hgo
            have hicI : (i : Int) < (codes.length : Int) := by omega
            have hi16 : (i : Int) < 16 := by omega
            obtain ⟨b, o, rfl, c0⟩ := (HBB.out.then_ HBM.out) i hic
            have hxi := HBO.out i hic
            obtain ⟨x, hx⟩ : ∃ x, codes.getD i 0 = x := ⟨_, rfl⟩
            rw [hx] at c0 hxi
            have HPK := Lib.hid (fun W => pickR_any x ((N : Int) + 1) W hxi (by omega) (by omega))
            obtain ⟨P, hP⟩ : ∃ P, pickI x ((N : Int) + 1) = P := ⟨_, rfl⟩
            have hPb := pickI_bd x (n := (N : Int) + 1) (by omega)
            rw [hP] at HPK hPb
            obtain ⟨hP0, hP1⟩ := hPb
            obtain ⟨p, rfl⟩ : ∃ p : Nat, P = (p : Int) := ⟨P.toNat, by omega⟩
            have hp14 : (p : Int) ≤ 14 := by omega
            clear hx hxi hP hP1
            go_wp2_with fail
            refine (HPK.out _).mono ?_
            rintro e w5 ⟨rfl, rfl⟩
            by_cases hpn : p < N
            · have hpI : (p : Int) < (N : Int) := by omega
              obtain ⟨Ak, ck, hv, hck⟩ := own_slice (HDM.out.ms (M.getD p g0) (mem_getD (by rw [HM.out]; exact hpn))).1
              obtain ⟨K, hK⟩ : ∃ K, M.getD p g0 = K := ⟨_, rfl⟩
              rw [hK] at hv hck
              have HO := Lib.hid (HDM.out.ms (M.getD p g0) (mem_getD (by rw [HM.out]; exact hpn)))
              rw [hK] at HO
              have hcell := ((rec_of_own (d := g0) gcs_len HDM.out.own HM.out).cell (q := p) hpn (show 2 < 3 by omega) rfl).1
              have hKl := HPM.out.len p (by rw [HM.out]; exact hpn)
              rw [hK] at hcell hKl
              change wr.cell? ⟨ga, p * 3 + 2, none⟩ = some K.v at hcell
              rw [hv] at hcell
              have hbs := HBM.out.size
              have HKE := Lib.hid hK
              have HV := Lib.hid hv
              obtain ⟨Kl, hkl⟩ : ∃ Kl, K.ms.length = Kl := ⟨_, rfl⟩
              rw [hkl] at hcell hck hKl
              have HKL := Lib.hid hkl
              have hfz := HDM.out.own.frozenAt (p * 3 + 2)
              have OWN := Lib.hid HO.out.1
              rw [hv, hkl] at OWN
              have hbi : wrap64 (10 * ((i : Int) + 1)) = 10 * ((i : Int) + 1) := by unfold wrap64; omega
              have hgs := (HDM.out.own.lt ga rfl)
              have HGS := Lib.hid hgs
              have hne8 : ∀ q ∈ (Value.slice Ak Kl ck).ownBlock.toList, q ≠ ga := fun q hq e => by
                have h1 := HO.out.2 q (by rw [hv, hkl]; exact own_mem hq)
                rw [e] at h1; exact h1 rfl
              have HC8 := Lib.hid (fun (W : World) (hW : Kept (Value.slice Ak Kl ck).ownBlock.toList wr W) => (show W.cell? ⟨ga, p * 3 + 2, none⟩ = some (.slice Ak Kl ck) ∧ W.frozen? ⟨ga, p * 3 + 2, none⟩ = false from ⟨hW.cell hcell (fun e => hne8 ga e rfl), (hW.own HDM.out.own (fun q hq e => by
                have e2 : ga = q := by simpa [Value.ownBlock] using hq
                exact hne8 q e e2.symm)).frozenAt (p * 3 + 2)⟩))
              clear hK hv hkl hgs hne8
              go_wp2_with (at_builtin; refine wpList_append1 rfl _ _ 23 rfl w.heap.size 3 j0 _ 1 8 Try.underlying23 hj0 e0 e1 e2 rfl (by omega) (by omega) (.slice Ak Kl ck) Kl _ rfl OWN.out #[.int .i64 (10 * ((i : Int) + 1))] rfl rfl (by simp [Value.oneCell']) (by omega) hbs ?_; intro g' c' w8 own' k' n'; have OW := Lib.hid own'; have KW := Lib.hid k'; have NW := Lib.hid n'; obtain ⟨p0, f0⟩ := HC8.out _ k'; clear own' k' n')
              obtain ⟨x, hx⟩ : ∃ x : Grp, ({ K with v := .slice (some ⟨g', 0, none⟩) (Kl + 1) c', ms := K.ms ++ [10 * ((i : Int) + 1)] } : Grp) = x := ⟨_, rfl⟩
              have hgv := HPM.out.give h16 (k := p) (by rw [HM.out]; exact hpn) (.slice (some ⟨g', 0, none⟩) (Kl + 1) c')
              rw [HKE.out, hx] at hgv
              have hkv : (M.getD p g0).v = .slice Ak Kl ck := by rw [HKE.out, HV.out, HKL.out]
              have hd := HDM.out.give (W' := w8) HM.out.symm HSM.out (k := p) (by rw [HM.out]; exact hpn) x (g' := g') (m' := Kl + 1) (c' := c') (by rw [HKE.out, ← hx]; rfl) (by rw [← hx]) (by
                have h1 : x.ms.length = Kl + 1 := by rw [← hx, ← HKL.out]; simp
                have h2 : ivs x.ms = ivs K.ms ++ [.int .i64 (10 * ((i : Int) + 1))] := by rw [← hx]; simp [ivs]
                have h3 : x.v = .slice (some ⟨g', 0, none⟩) (Kl + 1) c' := by rw [← hx]
                rw [h1, h2, h3]; exact OW.out) (by rw [hkv]; exact KW.out) (by rw [hkv]; exact NW.out)
              refine ⟨⟨i + 1, M.set p x, by omega, by rw [List.length_set]; exact HM.out, by go_num, hgv, hd.1, hd.2, ?_⟩, ?_⟩
              · refine (KW.out.below_next HBM.out hbs (fun q hq => ?_)).setCell (by have := HGS.out.1; dsimp only; omega) _
                have h1 := OWN.out
                exact (h1.lt q (own_mem hq)).1
              · simp [intOf]; omega
            · have hpI : ¬ (p : Int) < (N : Int) := by omega
              go_wp2_with fail
              refine ⟨⟨i + 1, M, by omega, HM.out, by go_num, HPM.out.more, HDM.out, HSM.out, HBM.out⟩, ?_⟩
              simp [intOf]; omega
          · have HX := Lib.hid (show MadeP M 16 from by
              have step : ∀ j, i ≤ j → MadeP M j := fun j hj => by
                induction j with
                | zero => obtain rfl : i = 0 := by omega
                          exact HPM.out
                | succ j ih => 
                  rcases Nat.lt_or_ge i (j + 1) with h | h
                  · exact (ih (by omega)).more
                  · obtain rfl : i = j + 1 := by omega
                    exact HPM.out
              exact step 16 hi)
            have fin : MadeQ w (.returned (.slice (some ⟨ga, 0, none⟩) N cu)) wr := ⟨M, ga, cu, by rw [HM.out], by rw [HM.out]; exact HL1.out, HX.out, by rw [HM.out]; exact HDM.out, HBM.out⟩
            have FIN := Lib.hid fin
            clear fin
            by_cases hic : i < codes.length
            · have hicI : (i : Int) < (codes.length : Int) := by omega
              have hi16 : ¬ (i : Int) < 16 := by omega
              clear hgo
              go_wp2_with fail
              exact bodyPost_end (v := .slice (some ⟨ga, 0, none⟩) N cu) (by simp [results, Try.results11]) rfl FIN.out
            · have hicI : ¬ (i : Int) < (codes.length : Int) := by omega
              clear hgo
              go_wp2_with fail
              exact bodyPost_end (v := .slice (some ⟨ga, 0, none⟩) N cu) (by simp [results, Try.results11]) rfl FIN.out
