/- Package group: Dissolve. -/
import Derived.Test.YtebfenkjipaedaaGrpBelow
import Derived.Test.YtebfenkjipaedaaGrpRow
import Derived.Laws.AppendOwnNone
namespace Go.Proofs.Ytebfenkjipaedaa.Gp
/-- what a group says, without where it lies -/
def key (g : Grp) : Int × Int × List Int := (g.id, g.of, g.ms)
end Go.Proofs.Ytebfenkjipaedaa.Gp
namespace Go.Proofs.Ytebfenkjipaedaa.Gr
open Go.RowKit Gp Go.Sort
attribute [local go_sem] Oper.semAt_some
def gcs (g : Grp) : List Value := [.int .i64 g.id, .int .i64 g.of, g.v]
theorem gcs_len (g : Grp) : (gcs g).length = 3 := rfl
theorem grp_info : (Try.prog.info? 26).map (fun i => (i.zero, i.size, i.bytes)) = some (some (gv g0), 3, 40) := by kernel_rfl
/-- one group, when another one is dissolved -/
def disM (gone g : Grp) : List Int := if g.id = gone.of then sortI (g.ms ++ gone.ms) else g.ms
def disO (gone : Grp) (id : Int) (g : Grp) : Int := if g.of = id then gone.of else g.of
def disK (gone : Grp) (id : Int) (g : Grp) : List (Int × Int × List Int) := if g.id = id then [] else [(g.id, disO gone id g, disM gone g)]
def disN (l : List Grp) (gone : Grp) (id : Int) (k : Nat) : List (Int × Int × List Int) := (l.take k).flatMap (disK gone id)
theorem disN_succ {l : List Grp} {gone : Grp} {id : Int} {k : Nat} (h : k < l.length) : disN l gone id (k + 1) = disN l gone id k ++ disK gone id (l.getD k g0) := by
  unfold disN
  rw [take_succ (d := g0) h, List.flatMap_append]
  simp
/-- groups of the call's own, with their members -/
structure DisS (B : Nat) (u : Value) (n : Nat) (L : List Grp) (W : World) : Prop where
  own : W.ownsRow B 26 3 u n (L.flatMap gcs)
  ms : ∀ g ∈ L, W.ownsRow B 3 1 g.v g.ms.length (ivs g.ms) ∧ ∀ b, g.v.ownBlock = some b → u.ownBlock ≠ some b
theorem DisS.then_ {B : Nat} {u : Value} {n : Nat} {L : List Grp} {W W' : World} (h : DisS B u n L W) (hb : Below W.heap.size W W') : DisS B u n L W' :=
  ⟨own_then h.own hb, fun g hg => ⟨own_then (h.ms g hg).1 hb, (h.ms g hg).2⟩⟩
theorem ms_of_own {w : World} {base : Nat} {v : Value} {ms : List Int} (h : w.ownsRow base 3 1 v ms.length (ivs ms)) : MsAt w v ms := by
  rcases h.2 with ⟨rfl, h0⟩ | ⟨g, cap, cur, rfl, _, _, hc, _⟩
  · have : ms = [] := List.eq_nil_of_length_eq_zero h0
    subst this
    exact ms_nil w
  · exact ⟨_, cap, rfl, hc, ints_of_own h, fun e => by cases e⟩
/-- the groups as a list in memory -/
theorem DisS.at {B : Nat} {u : Value} {n : Nat} {L : List Grp} {W : World} (h : DisS B u n L W) (hn : n = L.length) : ∃ A c, u = .slice A L.length c ∧ L.length ≤ c ∧ GrpsAt W A L := by
  subst hn
  rcases h.own.2 with ⟨rfl, h0⟩ | ⟨g, cap, cur, rfl, _, _, hc, _⟩
  · have : L = [] := List.eq_nil_of_length_eq_zero h0
    subst this
    exact ⟨none, 0, rfl, by simp, fun i hi => by simp at hi⟩
  · have hr := rec_of_own (d := g0) gcs_len h.own rfl
    refine ⟨_, cap, rfl, hc, fun i hi => ⟨⟨g, 0, rfl, ?_⟩, ms_of_own (h.ms _ (mem_getD hi)).1⟩⟩
    rw [Nat.zero_add]
    exact ⟨(hr.cell hi (show 0 < 3 by omega) rfl).1, (hr.cell hi (show 1 < 3 by omega) rfl).1, (hr.cell hi (show 2 < 3 by omega) rfl).1⟩
/-- one group more -/
theorem DisS.next {B : Nat} {u u' : Value} {n : Nat} {L : List Grp} {W W' : World} {g : Grp} (h : DisS B u n L W) (hg : W.ownsRow B 3 1 g.v g.ms.length (ivs g.ms)) (hne : ∀ b, g.v.ownBlock = some b → u.ownBlock ≠ some b)
    (ho : W'.ownsRow B 26 3 u' (n + 1) (L.flatMap gcs ++ gcs g)) (hk : Kept u.ownBlock.toList W W') (hb : ∀ b, u'.ownBlock = some b → u.ownBlock = some b ∨ W.heap.size ≤ b) : DisS B u' (n + 1) (L ++ [g]) W' := by
  have step : ∀ x : Grp, (W.ownsRow B 3 1 x.v x.ms.length (ivs x.ms) ∧ ∀ b, x.v.ownBlock = some b → u.ownBlock ≠ some b) → (W'.ownsRow B 3 1 x.v x.ms.length (ivs x.ms) ∧ ∀ b, x.v.ownBlock = some b → u'.ownBlock ≠ some b) := fun x ⟨h1, h2⟩ =>
    ⟨hk.own h1 (fun q hq e => h2 q hq (own_mem e)), fun b hx e => by
      rcases hb b e with h3 | h3
      · exact h2 b hx h3
      · have := (h1.lt b hx).2; omega⟩
  refine ⟨by rw [List.flatMap_append]; simpa using ho, fun x hx => ?_⟩
  rcases List.mem_append.1 hx with h1 | h1
  · exact step x (h.ms x h1)
  · rw [List.mem_singleton.1 h1]
    exact step g ⟨hg, hne⟩
theorem news_any {w : World} {a : Addr} {ms : List Int} (h : IntsAt w (some a) ms) (j : Nat) (u : Value) (hu : (ivs ms)[j]? = some u) : w.cell? (a.add j) = some u := by
  have hj : j < ms.length := by have := (List.getElem?_eq_some_iff.1 hu).1; rwa [ivs_length] at this
  obtain ⟨b, o, hA, _⟩ := h j hj
  injection hA with hA
  subst hA
  exact news_ints h j u hu
set_option maxRecDepth 100000 in
set_option maxHeartbeats 4000000 in
theorem dissolve_yes (A : Option Addr) (c : Nat) (l : List Grp) (id : Int) (gone : Grp) (w : World) (hG : GrpsAt w A l) (hS : Sized l) (hv : Valid l) (hi : I64 id) (hk : find l id = some gone) :
    Calls Try.prog 24 #[.slice A l.length c, .int .i64 id] w fun e w' => ∃ A' L c', e = .returned (.tuple #[.slice A' L.length c', .int .i64 0]) ∧ L.length ≤ c' ∧ GrpsAt w' A' L ∧ L.map key = disN l gone id l.length ∧ Below w.heap.size w w' := by
  obtain ⟨j0, hj0, e0, e1, e2⟩ := info_parts int_info1
  obtain ⟨i0, hi0, d0, d1, d2⟩ := info_parts grp_info
  have HG := Lib.hid hG
  have HS := Lib.hid hS
  have HR := Lib.hid (read_yes A c l w hG hS hv)
  have HI := Lib.hid hi
  have HK := Lib.hid hk
  have hlen : (l.length : Int) ≤ 24 := by have := hv.len; omega
  clear hG hS hv hi hk
  go_enter Try.func24, Try.ntmps24
  go_wp2_with fail
  refine HR.out.mono ?_
  rintro e w1 ⟨m, o, rfl, hx, hb1⟩
  have hxx := hx.then_ (below_alloc (Below.refl _ _) (.cells #[.map m, .map o] 73))
  have hlk := hxx.g.look_ok gmap_u (grp_zero _) HI.out
  rw [HK.out] at hlk
  simp only [Option.map_some, Option.getD_some, Option.isSome_some] at hlk
  obtain ⟨jg, hjg, hge⟩ := ex_getD g0 (find_some HK.out).1
  have hgm := (HG.out jg hjg).2
  have hgl := HS.out.mlen jg hjg
  rw [hge] at hgm hgl
  obtain ⟨ag, cg, hgv, hgc, hgi, hg0⟩ := hgm
  have HG0 := Lib.hid hg0
  clear hg0
  unfold gv at hlk
  rw [hgv] at hlk
  have B1 := Lib.hid hb1
  have HGI := Lib.hid hgi
  unfold iv
  clear hx hb1 hxx hgi hge
  go_wp2_with fail
  obtain ⟨W2, hW2⟩ : ∃ W2, (w1.alloc (.cells #[.map m, .map o] 73)).alloc (.cells #[.int .i64 gone.id, .int .i64 gone.of, .slice ag gone.ms.length cg] 26) = W2 := ⟨_, rfl⟩
  have hb2 : Below w1.heap.size w1 W2 := by rw [← hW2]; exact below_alloc (below_alloc (Below.refl _ _) _) _
  have B2 := Lib.hid (below_next B1.out hb2)
  have hn1 : W2.heap[w1.heap.size + 1]? = some (.cells #[.int .i64 gone.id, .int .i64 gone.of, .slice ag gone.ms.length cg] 26 (0, 0)) := by
    rw [← hW2]
    have := World.alloc_heap_new (w1.alloc (.cells #[.map m, .map o] 73)) (.cells #[.int .i64 gone.id, .int .i64 gone.of, .slice ag gone.ms.length cg] 26)
    rwa [World.size_alloc] at this
  rw [hW2]
  obtain ⟨b8, hb8⟩ : ∃ b8, w1.heap.size + 1 = b8 := ⟨_, rfl⟩
  rw [hb8] at hn1 ⊢
  have HN := Lib.hid hn1
  have HGM := Lib.hid (HGI.out.then_ B2.out)
  clear hlk hW2 hb2 hn1 hb8
  go_loopw [10, 33] (fun u i wr => ∃ (k n : Nat) (L : List Grp), k ≤ l.length ∧ n = L.length ∧ n ≤ k ∧ i = .int .i64 (k : Int) ∧ DisS W2.heap.size u n L wr ∧ L.map key = disN l gone id k ∧ Below W2.heap.size W2 wr) (fun _ i _ => l.length - (intOf i).toNat)
  case atStart => exact ⟨0, 0, [], by omega, rfl, by omega, rfl, ⟨World.ownsRow_nil _ _ _ _, fun g hg => by cases hg⟩, rfl, Below.refl _ _⟩
  case round =>
    obtain ⟨k, n, L, hk, hn, hnk, rfl, hD, hL, hB⟩ := hrel
    have HD := Lib.hid hD
    have HL := Lib.hid hL
    have HB := Lib.hid hB
    have HNL := Lib.hid hn
    clear hD hL hB hn
    by_cases hlt : k < l.length
    · have hkl : (k : Int) < (l.length : Int) := by omega
      have hk0 : (0 : Int) ≤ (k : Int) := by omega
      have HBB := Lib.hid (below_next B2.out HB.out)
      obtain ⟨⟨ba, oa, hA, hga⟩, _⟩ := (HG.out.then_ HBB.out) k hlt
      have hms := (HG.out k hlt).2
      have HSU := Lib.hid (disN_succ (gone := gone) (id := id) hlt)
      have hml := HS.out.mlen k hlt
      obtain ⟨g, hg⟩ : ∃ g, l.getD k g0 = g := ⟨_, rfl⟩
      rw [hg] at hga hms HSU hml
      obtain ⟨am, cm, hv, hcm, hmi, hm0⟩ := hms
      subst hA
      have x0 := hga.id
      have x1 := hga.of
      have x2 := hga.v
      rw [hv] at x2
      have HMS := Lib.hid (show MsAt w (.slice am g.ms.length cm) g.ms from ⟨am, cm, rfl, hcm, hmi, hm0⟩)
      clear hg hga hmi hv hcm hm0
      by_cases hid : g.id = id
      · have hb : (g.id == id) = true := beq_iff_eq.2 hid
        have HE := Lib.hid (show disK gone id g = [] by unfold disK; rw [if_pos hid])
        have HD2 := Lib.hid (HD.out.then_ (below_alloc (Below.refl _ _) (.cells #[.int .i64 g.id, .int .i64 g.of, .slice am g.ms.length cm] 26)))
        have HB2 := Lib.hid (below_alloc HB.out (.cells #[.int .i64 g.id, .int .i64 g.of, .slice am g.ms.length cm] 26))
        clear hid
        go_wp2_with fail
        refine ⟨⟨k + 1, n, L, by omega, HNL.out, by omega, by go_num, HD2.out, by rw [HSU.out, HE.out, List.append_nil]; exact HL.out, HB2.out⟩, ?_⟩
        simp [intOf]; omega
      · have hb : (g.id == id) = false := beq_eq_false_iff_ne.2 hid
        go_wp2_with fail
        -- tail
        obtain ⟨Wg, hWg⟩ : ∃ Wg, wr.alloc (.cells #[.int .i64 g.id, .int .i64 g.of, .slice am g.ms.length cm] 26) = Wg := ⟨_, rfl⟩
        have hbg : Below wr.heap.size wr Wg := by rw [← hWg]; exact below_alloc (Below.refl _ _) _
        have hgb := World.alloc_heap_new wr (.cells #[.int .i64 g.id, .int .i64 g.of, .slice am g.ms.length cm] 26)
        rw [hWg] at hgb ⊢
        have hsg : Wg.heap.size = wr.heap.size + 1 := by rw [← hWg]; simp
        obtain ⟨bg, hbge⟩ : ∃ bg, wr.heap.size = bg := ⟨_, rfl⟩
        rw [hbge] at hgb ⊢
        have HBGE := Lib.hid hbge
        have HSG := Lib.hid hsg
        have HBG := Lib.hid hbg
        have HGB := Lib.hid hgb
        clear hWg hbg hgb hsg hbge x0 x1 x2
        have HCL := Lib.hid (clone_any _ g.ms Wg (HMS.out.then_ (below_next HBB.out HBG.out)) (by omega))
        refine HCL.out.mono ?_
        rintro e w3 ⟨v, rfl, hown, hb3⟩
        obtain ⟨Av, cv, rfl, hcv⟩ := own_slice hown
        have HOW := Lib.hid hown
        have HB3 := Lib.hid hb3
        have hgb3 := (hb3.block bg (heap_lt HGB.out)).trans HGB.out
        have HG3 := Lib.hid hgb3
        have y0 := cell_of_row w3 bg 0 _ _ _ hgb3
        have y1 := cell_of_row w3 bg 1 _ _ _ hgb3
        have y2 := cell_of_row w3 bg 2 _ _ _ hgb3
        have z1 := frozen_of_row w3 bg 1 _ _ hgb3
        have z2 := frozen_of_row w3 bg 2 _ _ hgb3
        have H8 : Hid (w3.heap[b8]? = _) := Lib.hid ((Kept.of_below (HB.out.trans ((HBG.out.mono (by have := HB.out.size; omega)).trans (hb3.mono (by have := HB.out.size; have := HBG.out.size; omega))))).heap HN.out (by simp))
        have u0 := cell_of_row w3 b8 0 _ _ _ H8.out
        have u1 := cell_of_row w3 b8 1 _ _ _ H8.out
        have u2 := cell_of_row w3 b8 2 _ _ _ H8.out
        have hb8g : b8 < bg := by have h1 := heap_lt HN.out; have h2 := HB.out.size; have h3 := HBGE.out; omega
        have hbgl : bg < w3.heap.size := heap_lt hgb3
        clear hown hb3 hgb3 hcv
        by_cases hof : g.of = id
        · have hob : (g.of == id) = true := beq_iff_eq.2 hof
          have HOF := Lib.hid (show disO gone id g = gone.of by unfold disO; rw [if_pos hof])
          clear hof
          have hW4a : ((w3.setCell ⟨bg, 2, none⟩ (.slice Av g.ms.length cv)).setCell ⟨bg, 1, none⟩ (.int .i64 gone.of)).heap[bg]? = some (.cells #[.int .i64 g.id, .int .i64 gone.of, .slice Av g.ms.length cv] 26 (0, 0)) := by
            rw [heap_setCell_same _ bg 1 _ _ _ (heap_setCell_same w3 bg 2 _ _ _ HG3.out)]; rfl
          have hK4a : Kept [bg] w3 ((w3.setCell ⟨bg, 2, none⟩ (.slice Av g.ms.length cv)).setCell ⟨bg, 1, none⟩ (.int .i64 gone.of)) := ((Kept.refl _ _).setCell (.inl (by simp)) _).setCell (.inl (by simp)) _
          have HW4a := Lib.hid hW4a
          have HK4a := Lib.hid hK4a
          clear hW4a hK4a
          by_cases hgo : g.id = gone.of
          · have hgb : (g.id == gone.of) = true := beq_iff_eq.2 hgo
            have HM := Lib.hid (show disM gone g = sortI (g.ms ++ gone.ms) by unfold disM; rw [if_pos hgo])
            clear hgo
            go_upto_region 14 with fail
            obtain ⟨W4, hW4⟩ : ∃ W4, ((w3.setCell ⟨bg, 2, none⟩ (.slice Av g.ms.length cv)).setCell ⟨bg, 1, none⟩ (.int .i64 gone.of)) = W4 := ⟨_, rfl⟩
            rw [hW4] at HW4a HK4a ⊢
            have q0 := cell_of_row W4 bg 0 _ _ _ HW4a.out
            have q1 := cell_of_row W4 bg 1 _ _ _ HW4a.out
            have q2 := cell_of_row W4 bg 2 _ _ _ HW4a.out
            have qf := frozen_of_row W4 bg 2 _ _ HW4a.out
            have HO4 := Lib.hid (HK4a.out.own HOW.out (fun q hq e => by have h1 := (HOW.out.lt q hq).1; have h2 := List.mem_singleton.1 e; have h3 := HSG.out; have h4 := HBGE.out; omega))
            have hs4 := HK4a.out.size
            have HX4 := Lib.hid (HK4a.out.below_next (below_next HBG.out HB3.out) (by have := HBG.out.size; have := HB3.out.size; omega) (by simp; have := HBGE.out; omega))
            have HB4 := Lib.hid (below_next HB.out HX4.out)
            have HD4 := Lib.hid (HD.out.then_ HX4.out)
            have hbs := HB4.out.size
            have r2 := cell_then (show Below w3.heap.size w3 w3 from Below.refl _ _) u2
            have v2 : W4.cell? ⟨b8, 2, none⟩ = some (.slice ag gone.ms.length cg) := HK4a.out.cell u2 (by simp; omega)
            have HMG := Lib.hid (HGM.out.then_ HB4.out)
            have hgl2 : gone.ms.length ≤ 1000 := hgl
            have hb8w : b8 < W4.heap.size := lt_size v2
            have hbgw : bg < W4.heap.size := heap_lt HW4a.out
            clear hW4 y0 y1 y2 z1 z2 u0 u1 u2 r2
            have HNW := Lib.hid (show bg < Wg.heap.size ∧ Wg.heap.size ≤ W4.heap.size from ⟨by have := HSG.out; have := HBGE.out; omega, by have := HB3.out.size; omega⟩)
            cases ag with
            | none =>
              have hgn : gone.ms = [] := by
                cases hgm : gone.ms with
                | nil => rfl
                | cons x t => obtain ⟨b, o, h1, _⟩ := HMG.out 0 (by rw [hgm]; simp); cases h1
              have hcg0 : cg = 0 := HG0.out rfl
              subst hcg0
              have hgz : gone.ms.length = 0 := by rw [hgn]; rfl
              have HGN := Lib.hid hgn
              have HGZ := Lib.hid hgz
              clear hgn hgz
              go_wp2_with (at_builtin; refine wpList_append_own_none rfl (.tmp 58) (.tmp 60) 23 rfl Wg.heap.size 3 j0 1 Try.underlying23 hj0 (.slice Av g.ms.length cv) g.ms.length _ rfl HO4.out (by show Value.slice none gone.ms.length 0 = _; rw [HGZ.out]) ?_)
              obtain ⟨W6, hW6⟩ : ∃ W6, W4.setCell ⟨bg, 2, none⟩ (.slice Av g.ms.length cv) = W6 := ⟨_, rfl⟩
              have h6b : W6.heap[bg]? = some (.cells #[.int .i64 g.id, .int .i64 gone.of, .slice Av g.ms.length cv] 26 (0, 0)) := by
                rw [← hW6, heap_setCell_same W4 bg 2 _ _ _ HW4a.out]; rfl
              have h6k : Kept [bg] W4 W6 := by rw [← hW6]; exact (Kept.refl _ _).setCell (.inl (by simp)) _
              have o6 : W6.ownsRow Wg.heap.size 3 1 (.slice Av g.ms.length cv) (g.ms ++ gone.ms).length (ivs (g.ms ++ gone.ms)) := by
                rw [HGN.out, List.append_nil, ← hW6]
                exact own_set HO4.out (fun e => by have h1 := (HO4.out.lt _ e).1; have h2 := HNW.out; dsimp only at h1; omega) _
              have HSO := Lib.hid (sort_own Wg.heap.size _ (g.ms ++ gone.ms) W6 o6 (by have := h6k.size; have := HNW.out; omega) (by rw [List.length_append]; omega))
              have HX6 := Lib.hid (h6k.below_next HX4.out HX4.out.size (by simp; have := HBGE.out; omega))
              have H6B := Lib.hid h6b
              have H6S := Lib.hid h6k.size
              rw [hW6]
              clear hW6 h6b h6k o6 v2 q0 q1 q2 qf
              refine HSO.out.mono ?_
              rintro e w7 ⟨rfl, own7, hb7⟩
              have O7 := Lib.hid own7
              have hx7 : Below wr.heap.size wr w7 := HX6.out.trans (hb7.mono (by have h2 := HNW.out; have h3 := HBGE.out; omega))
              have hb7b := (hb7.block bg HNW.out.1).trans H6B.out
              have HD7 := Lib.hid (HD.out.then_ hx7)
              have HB7 := Lib.hid (below_next HB.out hx7)
              have hbs7 := HB7.out.size
              have s0 := cell_of_row w7 bg 0 _ _ _ hb7b
              have s1 := cell_of_row w7 bg 1 _ _ _ hb7b
              have s2 := cell_of_row w7 bg 2 _ _ _ hb7b
              have HKEY := Lib.hid (show disK gone id g = [key ⟨g.id, gone.of, (.slice Av g.ms.length cv), sortI (g.ms ++ gone.ms)⟩] by unfold disK key; rw [if_neg hid, HOF.out, HM.out])
              have HNX := Lib.hid (fun u' W' c' => DisS.next (g := ⟨g.id, gone.of, (.slice Av g.ms.length cv), sortI (g.ms ++ gone.ms)⟩) (u' := .slice (some ⟨u', 0, none⟩) (n + 1) c') (W' := W') HD7.out (own_base (base := Wg.heap.size) (by have := HB.out.size; have := HSG.out; have := HBGE.out; omega) (by dsimp only; rw [sortI_length]; exact O7.out)) (fun b hb e => by have h1 := (O7.out.lt b hb).1; have h2 := (HD.out.own.lt b e).2; have h3 := HSG.out; omega))
              clear hb7b hx7 hb7 own7
              go_wp2_with (at_builtin; refine wpList_append1 rfl _ _ 24 rfl W2.heap.size 26 i0 _ 3 40 Try.underlying24 hi0 d0 d1 d2 rfl (by omega) (by omega) u10 n _ rfl HD7.out.own #[.int .i64 g.id, .int .i64 gone.of, (.slice Av g.ms.length cv)] rfl rfl (by simp [Value.oneCell']) (by omega) hbs7 ?_; intro g' c' w8 own' k' n'; have OW := Lib.hid own'; have KW := Lib.hid k'; have NW := Lib.hid n'; clear own' k' n')
              refine ⟨⟨k + 1, n + 1, L ++ [⟨g.id, gone.of, (.slice Av g.ms.length cv), sortI (g.ms ++ gone.ms)⟩], by omega, by rw [List.length_append, ← HNL.out]; rfl, by omega, by go_num, ?_, ?_, ?_⟩, ?_⟩
              · exact HNX.out g' w8 c' OW.out KW.out (fun b hb => by have : g' = b := (by simpa [Value.ownBlock] using hb); subst this; exact NW.out)
              · rw [List.map_append, HL.out, HSU.out, HKEY.out]; rfl
              · exact KW.out.below_next HB7.out hbs7 (fun q hq => (HD7.out.own.lt q (own_mem hq)).1)
              · simp [intOf]; omega
            | some aa =>
              have HNA := Lib.hid (fun j u hu => news_any HMG.out j u hu)
              go_wp2_with (at_builtin; refine wpList_appendN rfl (.tmp 58) (.tmp 60) 23 rfl Wg.heap.size 3 j0 _ 1 8 Try.underlying23 hj0 e0 e1 e2 rfl (by omega) (.slice Av g.ms.length cv) g.ms.length _ rfl HO4.out aa gone.ms.length cg (ivs gone.ms) rfl (by rw [ivs_length]; omega) HNA.out (one_ints gone.ms) (by unfold maxLen; omega) (by omega) HNW.out.2 ?_; intro v5 w5 own5 k5 n5; obtain ⟨A5, c5, rfl, hc5⟩ := own_slice own5; have O5 := Lib.hid own5; have K5 := Lib.hid k5; have hb5 := k5.heap HW4a.out (fun e => by have h1 := (HO4.out.lt _ (own_mem e)).1; have h2 := HNW.out; omega); have r2 := cell_of_row w5 bg 2 _ _ _ hb5; have rf := frozen_of_row w5 bg 2 _ _ hb5; have H5B := Lib.hid hb5; clear own5 k5 n5 hc5 hb5)
              obtain ⟨W6, hW6⟩ : ∃ W6, w5.setCell ⟨bg, 2, none⟩ (.slice A5 (g.ms.length + gone.ms.length) c5) = W6 := ⟨_, rfl⟩
              have h6b : W6.heap[bg]? = some (.cells #[.int .i64 g.id, .int .i64 gone.of, .slice A5 (g.ms.length + gone.ms.length) c5] 26 (0, 0)) := by
                rw [← hW6, heap_setCell_same w5 bg 2 _ _ _ H5B.out]; rfl
              have h6k : Kept [bg] w5 W6 := by rw [← hW6]; exact (Kept.refl _ _).setCell (.inl (by simp)) _
              have hx5 : Below wr.heap.size wr w5 := K5.out.below_next HX4.out HX4.out.size (fun q hq => by have h1 := (HO4.out.lt q (own_mem hq)).1; have h2 := HNW.out; have h3 := HBGE.out; omega)
              have o6 : W6.ownsRow Wg.heap.size 3 1 (.slice A5 (g.ms.length + gone.ms.length) c5) (g.ms ++ gone.ms).length (ivs (g.ms ++ gone.ms)) := by
                rw [ivs_append, List.length_append, ← hW6]
                exact own_set O5.out (fun e => by have h1 := (O5.out.lt _ e).1; have h2 := HNW.out; dsimp only at h1; omega) _
              have HSO := Lib.hid (sort_own Wg.heap.size _ (g.ms ++ gone.ms) W6 o6 (by have := h6k.size; have := HNW.out; have := K5.out.size; omega) (by rw [List.length_append]; omega))
              have HX6 := Lib.hid (h6k.below_next hx5 hx5.size (by simp; have := HBGE.out; omega))
              have H6B := Lib.hid h6b
              have H6S := Lib.hid (show W4.heap.size ≤ W6.heap.size by have := h6k.size; have := K5.out.size; omega)
              rw [hW6]
              clear hW6 h6b h6k o6 hx5 v2 q0 q1 q2 qf r2 rf
              refine HSO.out.mono ?_
              rintro e w7 ⟨rfl, own7, hb7⟩
              have O7 := Lib.hid own7
              have hx7 : Below wr.heap.size wr w7 := HX6.out.trans (hb7.mono (by have h2 := HNW.out; have h3 := HBGE.out; omega))
              have hb7b := (hb7.block bg HNW.out.1).trans H6B.out
              have HD7 := Lib.hid (HD.out.then_ hx7)
              have HB7 := Lib.hid (below_next HB.out hx7)
              have hbs7 := HB7.out.size
              have s0 := cell_of_row w7 bg 0 _ _ _ hb7b
              have s1 := cell_of_row w7 bg 1 _ _ _ hb7b
              have s2 := cell_of_row w7 bg 2 _ _ _ hb7b
              have HKEY := Lib.hid (show disK gone id g = [key ⟨g.id, gone.of, (.slice A5 (g.ms.length + gone.ms.length) c5), sortI (g.ms ++ gone.ms)⟩] by unfold disK key; rw [if_neg hid, HOF.out, HM.out])
              have HNX := Lib.hid (fun u' W' c' => DisS.next (g := ⟨g.id, gone.of, (.slice A5 (g.ms.length + gone.ms.length) c5), sortI (g.ms ++ gone.ms)⟩) (u' := .slice (some ⟨u', 0, none⟩) (n + 1) c') (W' := W') HD7.out (own_base (base := Wg.heap.size) (by have := HB.out.size; have := HSG.out; have := HBGE.out; omega) (by dsimp only; rw [sortI_length]; exact O7.out)) (fun b hb e => by have h1 := (O7.out.lt b hb).1; have h2 := (HD.out.own.lt b e).2; have h3 := HSG.out; omega))
              clear hb7b hx7 hb7 own7
              go_wp2_with (at_builtin; refine wpList_append1 rfl _ _ 24 rfl W2.heap.size 26 i0 _ 3 40 Try.underlying24 hi0 d0 d1 d2 rfl (by omega) (by omega) u10 n _ rfl HD7.out.own #[.int .i64 g.id, .int .i64 gone.of, (.slice A5 (g.ms.length + gone.ms.length) c5)] rfl rfl (by simp [Value.oneCell']) (by omega) hbs7 ?_; intro g' c' w8 own' k' n'; have OW := Lib.hid own'; have KW := Lib.hid k'; have NW := Lib.hid n'; clear own' k' n')
              refine ⟨⟨k + 1, n + 1, L ++ [⟨g.id, gone.of, (.slice A5 (g.ms.length + gone.ms.length) c5), sortI (g.ms ++ gone.ms)⟩], by omega, by rw [List.length_append, ← HNL.out]; rfl, by omega, by go_num, ?_, ?_, ?_⟩, ?_⟩
              · exact HNX.out g' w8 c' OW.out KW.out (fun b hb => by have : g' = b := (by simpa [Value.ownBlock] using hb); subst this; exact NW.out)
              · rw [List.map_append, HL.out, HSU.out, HKEY.out]; rfl
              · exact KW.out.below_next HB7.out hbs7 (fun q hq => (HD7.out.own.lt q (own_mem hq)).1)
              · simp [intOf]; omega
          · have hgb : (g.id == gone.of) = false := beq_eq_false_iff_ne.2 hgo
            have HM := Lib.hid (show disM gone g = g.ms by unfold disM; rw [if_neg hgo])
            clear hgo
            go_upto_region 16 with fail
            obtain ⟨W4, hW4⟩ : ∃ W4, ((w3.setCell ⟨bg, 2, none⟩ (.slice Av g.ms.length cv)).setCell ⟨bg, 1, none⟩ (.int .i64 gone.of)) = W4 := ⟨_, rfl⟩
            rw [hW4] at HW4a HK4a ⊢
            have q0 := cell_of_row W4 bg 0 _ _ _ HW4a.out
            have q1 := cell_of_row W4 bg 1 _ _ _ HW4a.out
            have q2 := cell_of_row W4 bg 2 _ _ _ HW4a.out
            have qf := frozen_of_row W4 bg 2 _ _ HW4a.out
            have HO4 := Lib.hid (HK4a.out.own HOW.out (fun q hq e => by have h1 := (HOW.out.lt q hq).1; have h2 := List.mem_singleton.1 e; have h3 := HSG.out; have h4 := HBGE.out; omega))
            have hs4 := HK4a.out.size
            have HX4 := Lib.hid (HK4a.out.below_next (below_next HBG.out HB3.out) (by have := HBG.out.size; have := HB3.out.size; omega) (by simp; have := HBGE.out; omega))
            have HB4 := Lib.hid (below_next HB.out HX4.out)
            have HD4 := Lib.hid (HD.out.then_ HX4.out)
            have hbs := HB4.out.size
            have HKEY := Lib.hid (show disK gone id g = [key ⟨g.id, gone.of, .slice Av g.ms.length cv, g.ms⟩] by unfold disK key; rw [if_neg hid, HOF.out, HM.out])
            have HNX := Lib.hid (fun u' W' c' => DisS.next (g := ⟨g.id, gone.of, .slice Av g.ms.length cv, g.ms⟩) (u' := .slice (some ⟨u', 0, none⟩) (n + 1) c') (W' := W') HD4.out (own_base (by have := HB.out.size; have := HSG.out; have := HBGE.out; omega) HO4.out) (fun b hb e => by have h1 := (HO4.out.lt b hb).1; have h2 := (HD.out.own.lt b e).2; have h3 := HSG.out; omega))
            clear hW4 y0 y1 y2 z1 z2 u0 u1 u2
            go_wp2_with (at_builtin; refine wpList_append1 rfl _ _ 24 rfl W2.heap.size 26 i0 _ 3 40 Try.underlying24 hi0 d0 d1 d2 rfl (by omega) (by omega) u10 n _ rfl HD4.out.own #[.int .i64 g.id, .int .i64 gone.of, .slice Av g.ms.length cv] rfl rfl (by simp [Value.oneCell']) (by omega) hbs ?_; intro g' c' w5 own' k' n'; have OW := Lib.hid own'; have KW := Lib.hid k'; have NW := Lib.hid n'; clear own' k' n')
            refine ⟨⟨k + 1, n + 1, L ++ [⟨g.id, gone.of, .slice Av g.ms.length cv, g.ms⟩], by omega, by rw [List.length_append, ← HNL.out]; rfl, by omega, by go_num, ?_, ?_, ?_⟩, ?_⟩
            · exact HNX.out g' w5 c' OW.out KW.out (fun b hb => by have : g' = b := (by simpa [Value.ownBlock] using hb); subst this; exact NW.out)
            · rw [List.map_append, HL.out, HSU.out, HKEY.out]; rfl
            · exact KW.out.below_next HB4.out hbs (fun q hq => (HD4.out.own.lt q (own_mem hq)).1)
            · simp [intOf]; omega
        · have hob : (g.of == id) = false := beq_eq_false_iff_ne.2 hof
          have HOF := Lib.hid (show disO gone id g = g.of by unfold disO; rw [if_neg hof])
          clear hof
          have hW4a : (w3.setCell ⟨bg, 2, none⟩ (.slice Av g.ms.length cv)).heap[bg]? = some (.cells #[.int .i64 g.id, .int .i64 g.of, .slice Av g.ms.length cv] 26 (0, 0)) := by
            rw [heap_setCell_same w3 bg 2 _ _ _ HG3.out]; rfl
          have hK4a : Kept [bg] w3 (w3.setCell ⟨bg, 2, none⟩ (.slice Av g.ms.length cv)) := (Kept.refl _ _).setCell (.inl (by simp)) _
          have HW4a := Lib.hid hW4a
          have HK4a := Lib.hid hK4a
          clear hW4a hK4a
          by_cases hgo : g.id = gone.of
          · have hgb : (g.id == gone.of) = true := beq_iff_eq.2 hgo
            have HM := Lib.hid (show disM gone g = sortI (g.ms ++ gone.ms) by unfold disM; rw [if_pos hgo])
            clear hgo
            go_upto_region 14 with fail
            obtain ⟨W4, hW4⟩ : ∃ W4, (w3.setCell ⟨bg, 2, none⟩ (.slice Av g.ms.length cv)) = W4 := ⟨_, rfl⟩
            rw [hW4] at HW4a HK4a ⊢
            have q0 := cell_of_row W4 bg 0 _ _ _ HW4a.out
            have q1 := cell_of_row W4 bg 1 _ _ _ HW4a.out
            have q2 := cell_of_row W4 bg 2 _ _ _ HW4a.out
            have qf := frozen_of_row W4 bg 2 _ _ HW4a.out
            have HO4 := Lib.hid (HK4a.out.own HOW.out (fun q hq e => by have h1 := (HOW.out.lt q hq).1; have h2 := List.mem_singleton.1 e; have h3 := HSG.out; have h4 := HBGE.out; omega))
            have hs4 := HK4a.out.size
            have HX4 := Lib.hid (HK4a.out.below_next (below_next HBG.out HB3.out) (by have := HBG.out.size; have := HB3.out.size; omega) (by simp; have := HBGE.out; omega))
            have HB4 := Lib.hid (below_next HB.out HX4.out)
            have HD4 := Lib.hid (HD.out.then_ HX4.out)
            have hbs := HB4.out.size
            have r2 := cell_then (show Below w3.heap.size w3 w3 from Below.refl _ _) u2
            have v2 : W4.cell? ⟨b8, 2, none⟩ = some (.slice ag gone.ms.length cg) := HK4a.out.cell u2 (by simp; omega)
            have HMG := Lib.hid (HGM.out.then_ HB4.out)
            have hgl2 : gone.ms.length ≤ 1000 := hgl
            have hb8w : b8 < W4.heap.size := lt_size v2
            have hbgw : bg < W4.heap.size := heap_lt HW4a.out
            clear hW4 y0 y1 y2 z1 z2 u0 u1 u2 r2
            have HNW := Lib.hid (show bg < Wg.heap.size ∧ Wg.heap.size ≤ W4.heap.size from ⟨by have := HSG.out; have := HBGE.out; omega, by have := HB3.out.size; omega⟩)
            cases ag with
            | none =>
              have hgn : gone.ms = [] := by
                cases hgm : gone.ms with
                | nil => rfl
                | cons x t => obtain ⟨b, o, h1, _⟩ := HMG.out 0 (by rw [hgm]; simp); cases h1
              have hcg0 : cg = 0 := HG0.out rfl
              subst hcg0
              have hgz : gone.ms.length = 0 := by rw [hgn]; rfl
              have HGN := Lib.hid hgn
              have HGZ := Lib.hid hgz
              clear hgn hgz
              go_wp2_with (at_builtin; refine wpList_append_own_none rfl (.tmp 58) (.tmp 60) 23 rfl Wg.heap.size 3 j0 1 Try.underlying23 hj0 (.slice Av g.ms.length cv) g.ms.length _ rfl HO4.out (by show Value.slice none gone.ms.length 0 = _; rw [HGZ.out]) ?_)
              obtain ⟨W6, hW6⟩ : ∃ W6, W4.setCell ⟨bg, 2, none⟩ (.slice Av g.ms.length cv) = W6 := ⟨_, rfl⟩
              have h6b : W6.heap[bg]? = some (.cells #[.int .i64 g.id, .int .i64 g.of, .slice Av g.ms.length cv] 26 (0, 0)) := by
                rw [← hW6, heap_setCell_same W4 bg 2 _ _ _ HW4a.out]; rfl
              have h6k : Kept [bg] W4 W6 := by rw [← hW6]; exact (Kept.refl _ _).setCell (.inl (by simp)) _
              have o6 : W6.ownsRow Wg.heap.size 3 1 (.slice Av g.ms.length cv) (g.ms ++ gone.ms).length (ivs (g.ms ++ gone.ms)) := by
                rw [HGN.out, List.append_nil, ← hW6]
                exact own_set HO4.out (fun e => by have h1 := (HO4.out.lt _ e).1; have h2 := HNW.out; dsimp only at h1; omega) _
              have HSO := Lib.hid (sort_own Wg.heap.size _ (g.ms ++ gone.ms) W6 o6 (by have := h6k.size; have := HNW.out; omega) (by rw [List.length_append]; omega))
              have HX6 := Lib.hid (h6k.below_next HX4.out HX4.out.size (by simp; have := HBGE.out; omega))
              have H6B := Lib.hid h6b
              have H6S := Lib.hid h6k.size
              rw [hW6]
              clear hW6 h6b h6k o6 v2 q0 q1 q2 qf
              refine HSO.out.mono ?_
              rintro e w7 ⟨rfl, own7, hb7⟩
              have O7 := Lib.hid own7
              have hx7 : Below wr.heap.size wr w7 := HX6.out.trans (hb7.mono (by have h2 := HNW.out; have h3 := HBGE.out; omega))
              have hb7b := (hb7.block bg HNW.out.1).trans H6B.out
              have HD7 := Lib.hid (HD.out.then_ hx7)
              have HB7 := Lib.hid (below_next HB.out hx7)
              have hbs7 := HB7.out.size
              have s0 := cell_of_row w7 bg 0 _ _ _ hb7b
              have s1 := cell_of_row w7 bg 1 _ _ _ hb7b
              have s2 := cell_of_row w7 bg 2 _ _ _ hb7b
              have HKEY := Lib.hid (show disK gone id g = [key ⟨g.id, g.of, (.slice Av g.ms.length cv), sortI (g.ms ++ gone.ms)⟩] by unfold disK key; rw [if_neg hid, HOF.out, HM.out])
              have HNX := Lib.hid (fun u' W' c' => DisS.next (g := ⟨g.id, g.of, (.slice Av g.ms.length cv), sortI (g.ms ++ gone.ms)⟩) (u' := .slice (some ⟨u', 0, none⟩) (n + 1) c') (W' := W') HD7.out (own_base (base := Wg.heap.size) (by have := HB.out.size; have := HSG.out; have := HBGE.out; omega) (by dsimp only; rw [sortI_length]; exact O7.out)) (fun b hb e => by have h1 := (O7.out.lt b hb).1; have h2 := (HD.out.own.lt b e).2; have h3 := HSG.out; omega))
              clear hb7b hx7 hb7 own7
              go_wp2_with (at_builtin; refine wpList_append1 rfl _ _ 24 rfl W2.heap.size 26 i0 _ 3 40 Try.underlying24 hi0 d0 d1 d2 rfl (by omega) (by omega) u10 n _ rfl HD7.out.own #[.int .i64 g.id, .int .i64 g.of, (.slice Av g.ms.length cv)] rfl rfl (by simp [Value.oneCell']) (by omega) hbs7 ?_; intro g' c' w8 own' k' n'; have OW := Lib.hid own'; have KW := Lib.hid k'; have NW := Lib.hid n'; clear own' k' n')
              refine ⟨⟨k + 1, n + 1, L ++ [⟨g.id, g.of, (.slice Av g.ms.length cv), sortI (g.ms ++ gone.ms)⟩], by omega, by rw [List.length_append, ← HNL.out]; rfl, by omega, by go_num, ?_, ?_, ?_⟩, ?_⟩
              · exact HNX.out g' w8 c' OW.out KW.out (fun b hb => by have : g' = b := (by simpa [Value.ownBlock] using hb); subst this; exact NW.out)
              · rw [List.map_append, HL.out, HSU.out, HKEY.out]; rfl
              · exact KW.out.below_next HB7.out hbs7 (fun q hq => (HD7.out.own.lt q (own_mem hq)).1)
              · simp [intOf]; omega
            | some aa =>
              have HNA := Lib.hid (fun j u hu => news_any HMG.out j u hu)
              go_wp2_with (at_builtin; refine wpList_appendN rfl (.tmp 58) (.tmp 60) 23 rfl Wg.heap.size 3 j0 _ 1 8 Try.underlying23 hj0 e0 e1 e2 rfl (by omega) (.slice Av g.ms.length cv) g.ms.length _ rfl HO4.out aa gone.ms.length cg (ivs gone.ms) rfl (by rw [ivs_length]; omega) HNA.out (one_ints gone.ms) (by unfold maxLen; omega) (by omega) HNW.out.2 ?_; intro v5 w5 own5 k5 n5; obtain ⟨A5, c5, rfl, hc5⟩ := own_slice own5; have O5 := Lib.hid own5; have K5 := Lib.hid k5; have hb5 := k5.heap HW4a.out (fun e => by have h1 := (HO4.out.lt _ (own_mem e)).1; have h2 := HNW.out; omega); have r2 := cell_of_row w5 bg 2 _ _ _ hb5; have rf := frozen_of_row w5 bg 2 _ _ hb5; have H5B := Lib.hid hb5; clear own5 k5 n5 hc5 hb5)
              obtain ⟨W6, hW6⟩ : ∃ W6, w5.setCell ⟨bg, 2, none⟩ (.slice A5 (g.ms.length + gone.ms.length) c5) = W6 := ⟨_, rfl⟩
              have h6b : W6.heap[bg]? = some (.cells #[.int .i64 g.id, .int .i64 g.of, .slice A5 (g.ms.length + gone.ms.length) c5] 26 (0, 0)) := by
                rw [← hW6, heap_setCell_same w5 bg 2 _ _ _ H5B.out]; rfl
              have h6k : Kept [bg] w5 W6 := by rw [← hW6]; exact (Kept.refl _ _).setCell (.inl (by simp)) _
              have hx5 : Below wr.heap.size wr w5 := K5.out.below_next HX4.out HX4.out.size (fun q hq => by have h1 := (HO4.out.lt q (own_mem hq)).1; have h2 := HNW.out; have h3 := HBGE.out; omega)
              have o6 : W6.ownsRow Wg.heap.size 3 1 (.slice A5 (g.ms.length + gone.ms.length) c5) (g.ms ++ gone.ms).length (ivs (g.ms ++ gone.ms)) := by
                rw [ivs_append, List.length_append, ← hW6]
                exact own_set O5.out (fun e => by have h1 := (O5.out.lt _ e).1; have h2 := HNW.out; dsimp only at h1; omega) _
              have HSO := Lib.hid (sort_own Wg.heap.size _ (g.ms ++ gone.ms) W6 o6 (by have := h6k.size; have := HNW.out; have := K5.out.size; omega) (by rw [List.length_append]; omega))
              have HX6 := Lib.hid (h6k.below_next hx5 hx5.size (by simp; have := HBGE.out; omega))
              have H6B := Lib.hid h6b
              have H6S := Lib.hid (show W4.heap.size ≤ W6.heap.size by have := h6k.size; have := K5.out.size; omega)
              rw [hW6]
              clear hW6 h6b h6k o6 hx5 v2 q0 q1 q2 qf r2 rf
              refine HSO.out.mono ?_
              rintro e w7 ⟨rfl, own7, hb7⟩
              have O7 := Lib.hid own7
              have hx7 : Below wr.heap.size wr w7 := HX6.out.trans (hb7.mono (by have h2 := HNW.out; have h3 := HBGE.out; omega))
              have hb7b := (hb7.block bg HNW.out.1).trans H6B.out
              have HD7 := Lib.hid (HD.out.then_ hx7)
              have HB7 := Lib.hid (below_next HB.out hx7)
              have hbs7 := HB7.out.size
              have s0 := cell_of_row w7 bg 0 _ _ _ hb7b
              have s1 := cell_of_row w7 bg 1 _ _ _ hb7b
              have s2 := cell_of_row w7 bg 2 _ _ _ hb7b
              have HKEY := Lib.hid (show disK gone id g = [key ⟨g.id, g.of, (.slice A5 (g.ms.length + gone.ms.length) c5), sortI (g.ms ++ gone.ms)⟩] by unfold disK key; rw [if_neg hid, HOF.out, HM.out])
              have HNX := Lib.hid (fun u' W' c' => DisS.next (g := ⟨g.id, g.of, (.slice A5 (g.ms.length + gone.ms.length) c5), sortI (g.ms ++ gone.ms)⟩) (u' := .slice (some ⟨u', 0, none⟩) (n + 1) c') (W' := W') HD7.out (own_base (base := Wg.heap.size) (by have := HB.out.size; have := HSG.out; have := HBGE.out; omega) (by dsimp only; rw [sortI_length]; exact O7.out)) (fun b hb e => by have h1 := (O7.out.lt b hb).1; have h2 := (HD.out.own.lt b e).2; have h3 := HSG.out; omega))
              clear hb7b hx7 hb7 own7
              go_wp2_with (at_builtin; refine wpList_append1 rfl _ _ 24 rfl W2.heap.size 26 i0 _ 3 40 Try.underlying24 hi0 d0 d1 d2 rfl (by omega) (by omega) u10 n _ rfl HD7.out.own #[.int .i64 g.id, .int .i64 g.of, (.slice A5 (g.ms.length + gone.ms.length) c5)] rfl rfl (by simp [Value.oneCell']) (by omega) hbs7 ?_; intro g' c' w8 own' k' n'; have OW := Lib.hid own'; have KW := Lib.hid k'; have NW := Lib.hid n'; clear own' k' n')
              refine ⟨⟨k + 1, n + 1, L ++ [⟨g.id, g.of, (.slice A5 (g.ms.length + gone.ms.length) c5), sortI (g.ms ++ gone.ms)⟩], by omega, by rw [List.length_append, ← HNL.out]; rfl, by omega, by go_num, ?_, ?_, ?_⟩, ?_⟩
              · exact HNX.out g' w8 c' OW.out KW.out (fun b hb => by have : g' = b := (by simpa [Value.ownBlock] using hb); subst this; exact NW.out)
              · rw [List.map_append, HL.out, HSU.out, HKEY.out]; rfl
              · exact KW.out.below_next HB7.out hbs7 (fun q hq => (HD7.out.own.lt q (own_mem hq)).1)
              · simp [intOf]; omega
          · have hgb : (g.id == gone.of) = false := beq_eq_false_iff_ne.2 hgo
            have HM := Lib.hid (show disM gone g = g.ms by unfold disM; rw [if_neg hgo])
            clear hgo
            go_upto_region 16 with fail
            obtain ⟨W4, hW4⟩ : ∃ W4, (w3.setCell ⟨bg, 2, none⟩ (.slice Av g.ms.length cv)) = W4 := ⟨_, rfl⟩
            rw [hW4] at HW4a HK4a ⊢
            have q0 := cell_of_row W4 bg 0 _ _ _ HW4a.out
            have q1 := cell_of_row W4 bg 1 _ _ _ HW4a.out
            have q2 := cell_of_row W4 bg 2 _ _ _ HW4a.out
            have qf := frozen_of_row W4 bg 2 _ _ HW4a.out
            have HO4 := Lib.hid (HK4a.out.own HOW.out (fun q hq e => by have h1 := (HOW.out.lt q hq).1; have h2 := List.mem_singleton.1 e; have h3 := HSG.out; have h4 := HBGE.out; omega))
            have hs4 := HK4a.out.size
            have HX4 := Lib.hid (HK4a.out.below_next (below_next HBG.out HB3.out) (by have := HBG.out.size; have := HB3.out.size; omega) (by simp; have := HBGE.out; omega))
            have HB4 := Lib.hid (below_next HB.out HX4.out)
            have HD4 := Lib.hid (HD.out.then_ HX4.out)
            have hbs := HB4.out.size
            have HKEY := Lib.hid (show disK gone id g = [key ⟨g.id, g.of, .slice Av g.ms.length cv, g.ms⟩] by unfold disK key; rw [if_neg hid, HOF.out, HM.out])
            have HNX := Lib.hid (fun u' W' c' => DisS.next (g := ⟨g.id, g.of, .slice Av g.ms.length cv, g.ms⟩) (u' := .slice (some ⟨u', 0, none⟩) (n + 1) c') (W' := W') HD4.out (own_base (by have := HB.out.size; have := HSG.out; have := HBGE.out; omega) HO4.out) (fun b hb e => by have h1 := (HO4.out.lt b hb).1; have h2 := (HD.out.own.lt b e).2; have h3 := HSG.out; omega))
            clear hW4 y0 y1 y2 z1 z2 u0 u1 u2
            go_wp2_with (at_builtin; refine wpList_append1 rfl _ _ 24 rfl W2.heap.size 26 i0 _ 3 40 Try.underlying24 hi0 d0 d1 d2 rfl (by omega) (by omega) u10 n _ rfl HD4.out.own #[.int .i64 g.id, .int .i64 g.of, .slice Av g.ms.length cv] rfl rfl (by simp [Value.oneCell']) (by omega) hbs ?_; intro g' c' w5 own' k' n'; have OW := Lib.hid own'; have KW := Lib.hid k'; have NW := Lib.hid n'; clear own' k' n')
            refine ⟨⟨k + 1, n + 1, L ++ [⟨g.id, g.of, .slice Av g.ms.length cv, g.ms⟩], by omega, by rw [List.length_append, ← HNL.out]; rfl, by omega, by go_num, ?_, ?_, ?_⟩, ?_⟩
            · exact HNX.out g' w5 c' OW.out KW.out (fun b hb => by have : g' = b := (by simpa [Value.ownBlock] using hb); subst this; exact NW.out)
            · rw [List.map_append, HL.out, HSU.out, HKEY.out]; rfl
            · exact KW.out.below_next HB4.out hbs (fun q hq => (HD4.out.own.lt q (own_mem hq)).1)
            · simp [intOf]; omega
    · obtain rfl : k = l.length := by omega
      obtain ⟨Au, cu, rfl, hcu, hgu⟩ := HD.out.at HNL.out
      have HGU := Lib.hid hgu
      have HNN := HNL.out
      subst HNN
      clear hgu hlt
      go_wp2_with fail
      (first | refine bodyPost_ret (results_tmp2 rfl _ _ _) rfl ?_ | refine bodyPost_end (results_tmp2 rfl _ _ _) rfl ?_)
      exact ⟨Au, L, cu, rfl, hcu, HGU.out, HL.out, below_next B2.out HB.out⟩
end Go.Proofs.Ytebfenkjipaedaa.Gr
