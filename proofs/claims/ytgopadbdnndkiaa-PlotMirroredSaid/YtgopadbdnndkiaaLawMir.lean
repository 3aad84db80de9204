/- A page with x and y exchanged: what stays the same. The law PlotMirrored. PlotMirrored: if X and Y are exchanged in all strokes, the best rides are the same, and so is the way; no condition beyond the row of the statement. -/
import Derived.Test.YtgopadbdnndkiaaPj
import Derived.Test.YtgopadbdnndkiaaPk
import Derived.Test.YtgopadbdnndkiaaPl
import Derived.Test.YtgopadbdnndkiaaPq
import Derived.Test.YtgopadbdnndkiaaPc
import Derived.Test.YtgopadbdnndkiaaPn
namespace Go.Proofs.Ytgopadbdnndkiaa.Pt
open Go.RowKit Str
/-- a dot with x and y exchanged -/
def mirD (d : Dot) : Dot := ⟨d.y, d.x, d.t, d.p⟩
/-- a page is another one with x and y exchanged -/
structure Mir (l M : List Stk) : Prop where
  len : M.length = l.length
  p : ∀ i, i < l.length → (M.getD i stk0).P = (l.getD i stk0).P
  n : ∀ i, i < l.length → (M.getD i stk0).N = (l.getD i stk0).N
  d : ∀ i, i < l.length → (M.getD i stk0).D = (l.getD i stk0).D.map mirD
  c : ∀ i, i < l.length → (M.getD i stk0).D.length ≤ (M.getD i stk0).c
theorem dotB_mir (l : Int) (d : Dot) : dotB l (mirD d) = dotB l d := by
  rw [Bool.eq_iff_iff, dotB_iff, dotB_iff]
  simp only [mirD]
  constructor <;> rintro ⟨⟨h1, h2⟩, h3⟩ <;> exact ⟨⟨h2, h1⟩, h3⟩
theorem dotsB_mir : ∀ (D : List Dot) (l : Int), dotsB l (D.map mirD) = dotsB l D
  | [], _ => rfl
  | d :: t, l => by
    rw [List.map_cons, dotsB, dotsB, dotB_mir, show (mirD d).t = d.t from rfl, dotsB_mir t]
theorem validB_mir (P N : Int) (D : List Dot) : validB P N (D.map mirD) = validB P N D := by
  rw [validB, validB, dotsB_mir, List.length_map]
theorem Mir.code {l M : List Stk} (h : Mir l M) {i : Nat} (hi : i < l.length) : codeI (M.getD i stk0) = codeI (l.getD i stk0) := by
  rw [codeI, codeI, h.p i hi, h.n i hi]
theorem Mir.ok {l M : List Stk} (h : Mir l M) (hO : PageOk l) : PageOk M := by
  have hl := h.len
  refine ⟨by rw [hl]; exact hO.len, fun i hi => ?_, fun i hi => h.c i (by omega), fun i hi => ?_⟩
  · rw [h.p i (by omega), h.n i (by omega), h.d i (by omega), validB_mir]
    exact hO.each i (by omega)
  · rw [h.code (by omega), h.code (by omega)]
    exact hO.asc i (by omega)
def swp (p : Int × Int) : Int × Int := (p.2, p.1)
theorem plc_mir {l M : List Stk} (h : Mir l M) {r : Nat} (hr : r < 2 * l.length) : plc M r = (plc l r).map swp := by
  have e : xy ∘ mirD = swp ∘ xy := rfl
  unfold plc
  rw [h.d (r / 2) (by omega), List.map_map, e, ← List.map_map]
  split
  · rw [List.map_reverse]
  · rfl
theorem getD_swp (L : List (Int × Int)) (k : Nat) : (L.map swp).getD k (0, 0) = swp (L.getD k (0, 0)) := by
  simp only [List.getD, List.getElem?_map]
  cases L[k]? <;> rfl
theorem gapI_swp (a b c d : Int) : gapI b a d c = gapI a b c d := by
  unfold gapI maxI
  repeat' split
  all_goals omega
theorem bgn_mir {l M : List Stk} (h : Mir l M) {r : Nat} (hr : r < 2 * l.length) : bgn M r = swp (bgn l r) := by
  rw [bgn, bgn, plc_mir h hr, getD_swp]
theorem fin_mir {l M : List Stk} (h : Mir l M) {r : Nat} (hr : r < 2 * l.length) : fin M r = swp (fin l r) := by
  rw [fin, fin, plc_mir h hr, List.length_map, getD_swp]
theorem gapF_mir {l M : List Stk} (h : Mir l M) : gapF M = gapF l := by
  funext i k
  unfold gapF
  rw [h.len]
  split
  · next hk =>
    rw [bgn_mir h hk]
    split
    · exact gapI_swp 0 0 _ _
    · split
      · next hi =>
        rw [fin_mir h hi]
        exact gapI_swp _ _ _ _
      · rfl
  · rfl
theorem best_mir {l M : List Stk} (h : Mir l M) : bestR M = bestR l := by rw [bestR, bestR, h.len, gapF_mir h]
theorem rdv_mir {l M : List Stk} (h : Mir l M) {rs : List Nat} (hr : ∀ r ∈ rs, r < 2 * l.length) : rs.map (rdv M) = rs.map (rdv l) := by
  refine List.map_congr_left fun r hm => ?_
  have := hr r hm
  unfold rdv
  rw [h.code (by omega)]
end Go.Proofs.Ytgopadbdnndkiaa.Pt
namespace Go.Proofs.Ytgopadbdnndkiaa.Pt
open Go.RowKit Str
attribute [local go_sem] Oper.semAt_some
/-- a stroke is stroke i of a page with x and y exchanged -/
structure MirS (l : List Stk) (i : Nat) (s : Stk) : Prop where
  p : s.P = (l.getD i stk0).P
  n : s.N = (l.getD i stk0).N
  d : s.D = (l.getD i stk0).D.map mirD
  c : s.D.length ≤ s.c
theorem mir_all {l M : List Stk} (hl : M.length = l.length) (h : ∀ i, i < M.length → MirS l i (M.getD i stk0)) : Mir l M :=
  ⟨hl, fun i hi => (h i (by omega)).p, fun i hi => (h i (by omega)).n, fun i hi => (h i (by omega)).d, fun i hi => (h i (by omega)).c⟩
theorem mir_take {D : List Dot} {k : Nat} (h : k < D.length) : (D.take (k + 1)).map mirD = (D.take k).map mirD ++ [mirD (dotAt D k)] := by rw [take_dot h, List.map_append]; rfl
theorem var3_below {w wx : World} {g B : Nat} (h : Var3 w g) (hb : Below B w wx) (hg : g < B) : Var3 wx g := by
  unfold Var3 at h ⊢
  intro i hi
  obtain ⟨⟨v, h1⟩, h2⟩ := h i hi
  exact ⟨⟨v, (hb.cell (p := ⟨g, i, none⟩) hg).trans h1⟩, (hb.frozen (p := ⟨g, i, none⟩) hg).trans h2⟩
set_option maxRecDepth 100000 in
set_option maxHeartbeats 8000000 in
theorem mirror_law (X : Option Addr) (cx : Nat) (rows : List Row3) (w : World) (hR : RowsAt w X rows) (hc : rows.length ≤ cx) (hm : rows.length ≤ 9223372036854775807) :
    Calls Try.prog 6 #[.slice X rows.length cx] w fun e w' => e = .returned (.bool true) ∧ Below w.heap.size w w' := by
  obtain ⟨i0, hi0, hz0, hz1, hz2⟩ := info_parts dot_info
  obtain ⟨j0, hj0, hy0, hy1, hy2⟩ := info_parts stroke_info
  have HI := Lib.hid (And.intro hi0 (And.intro hz0 (And.intro hz1 hz2)))
  have HJ := Lib.hid (And.intro hj0 (And.intro hy0 (And.intro hy1 hy2)))
  have HSA := Lib.hid (fun W => sane_any W)
  have HMA := Lib.hid (fun W (hW : Below w.heap.size w W) => made26_any X cx rows W (hR.then_ hW) hc hm)
  clear hR hc hm hi0 hz0 hz1 hz2 hj0 hy0 hy1 hy2
  go_enter Try.func6, Try.ntmps6
  go_wp2_with fail
  refine (HSA.out _).mono ?_
  rintro e w1 ⟨rfl, b1⟩
  have HB1 := Lib.hid b1
  have HM1 := Lib.hid (HMA.out _ b1)
  clear b1 HSA
  go_wp2_with fail
  refine HM1.out.mono ?_
  rintro e w2 ⟨A, c, l, rfl, hmp, -, hp, hlc, b2⟩
  have HO := Lib.hid hmp.ok
  have HP := Lib.hid hp
  have HB2 := Lib.hid (below_next HB1.out b2)
  have hlc' : (l.length : Int) ≤ (c : Int) := by omega
  have hl9 : (l.length : Int) ≤ 9 := by have := HO.out.len; omega
  clear b2 hmp hp HM1 HMA HB1
  go_wp2_with fail
  go_loopw [5, 6, 7, 8, 9, 10] (fun v j _ _ _ _ wr => ∃ (M : List Stk), M.length ≤ l.length ∧ j = .int .i64 (M.length : Int) ∧ wr.ownsRow w2.heap.size 50 3 v M.length (scells M) ∧ (∀ i, i < M.length → MirS l i (M.getD i stk0) ∧ Dots wr (M.getD i stk0).A (M.getD i stk0).D ∧ ∃ g, (M.getD i stk0).A = some ⟨g, 0, none⟩ ∧ g < wr.heap.size ∧ v.ownBlock ≠ some g) ∧ Below w2.heap.size w2 wr) (fun _ j _ _ _ _ _ => l.length - (intOf j).toNat)
  case atStart => exact ⟨[], by simp, rfl, World.ownsRow_nil _ _ _ _, fun i hi => by simp at hi, Below.refl _ _⟩
  case round =>
    obtain ⟨M, hl, rfl, hown, hmd, hB⟩ := hrel
    obtain ⟨k, hk⟩ : ∃ k, M.length = k := ⟨_, rfl⟩
    rw [hk] at hl ⊢
    obtain ⟨wo, hwo⟩ : ∃ wo, wo = wr := ⟨_, rfl⟩
    subst hwo
    by_cases hlt : k < l.length
    · rw [hk] at hown
      obtain ⟨b, o, rfl, hs⟩ := (HP.out.then_ hB) k hlt
      have c0 := hs.p
      have c1 := hs.n
      have c2 := hs.d
      have HD := Lib.hid hs.dots
      have hv := vstr (HO.out.each k hlt)
      obtain ⟨s, hs'⟩ : ∃ s, l.getD k stk0 = s := ⟨_, rfl⟩
      rw [hs'] at c0 c1 c2 HD hv
      have HS := Lib.hid hs'
      have HOW := Lib.hid hown
      have HMD := Lib.hid hmd
      have HB := Lib.hid hB
      have HK := Lib.hid hk
      obtain ⟨hv1, hv2, hv3, hv4⟩ := hv
      have hcap := HO.out.cap k hlt
      rw [HS.out] at hcap
      have hki : (k : Int) < (l.length : Int) := by omega
      have hk0 : (0 : Int) ≤ (k : Int) := by omega
      have hbs := HB.out.size
      clear hs hs' hown hmd hB hk
      obtain ⟨sP, sN, sA, sc, sD⟩ := s
      dsimp only at c0 c1 c2 HD hv1 hv2 hv3 hv4 hcap
      obtain ⟨N, hN⟩ : ∃ N, sD.length = N := ⟨_, rfl⟩
      rw [hN] at c2 hv3 hv4 hcap
      have HN := Lib.hid hN
      clear hN
      have hb0 := lt_size c0
      go_wp2_with fail
      go_region_held3 (fun w' => Below wo.heap.size wo w' ∧ w'.cell? ⟨b, o + k * 3, none⟩ = some (.int .i64 sP) ∧ w'.cell? ⟨b, o + k * 3 + 1, none⟩ = some (.int .i64 sN)) ((suffices hB : Below wo.heap.size wo _ from ⟨hB, cell_then hB ‹_›, cell_then hB ‹_›⟩; repeat (first | with_reducible exact Below.refl _ _ | with_reducible refine below_alloc ?_ _ | with_reducible refine Below.setCell ?_ (by dsimp only; omega) _ | with_reducible refine Below.drew ?_ | with_reducible refine below_next ?_ ‹Below _ _ _›))) (fail)
      go_wp2_with fail
      obtain ⟨W9, hW9⟩ : ∃ W, (wo.alloc (.cells #[.int .i64 sP, .int .i64 sN, .slice none 0 0] 50)).drew = W := ⟨_, rfl⟩
      have B9 : Below wo.heap.size wo W9 := by rw [← hW9]; exact (below_alloc (Below.refl _ _) _).drew
      have VS9 : Var3 W9 wo.heap.size := by rw [← hW9]; exact (Var3.new _ _ _ _ _).drew
      have p0 : W9.cell? ⟨wo.heap.size, 0, none⟩ = some (.int .i64 sP) := by rw [← hW9]; exact new_cell rfl
      have p1 : W9.cell? ⟨wo.heap.size, 1, none⟩ = some (.int .i64 sN) := by rw [← hW9]; exact new_cell rfl
      have p2 : W9.cell? ⟨wo.heap.size, 2, none⟩ = some (.slice none 0 0) := by rw [← hW9]; exact new_cell rfl
      rw [hW9]
      clear hW9
      go_wp2_with fail
      go_loopw [8, 9, 10] (fun q _ _ wr => ∃ (r : Nat) (v : Value), r ≤ N ∧ q = .int .i64 (r : Int) ∧ wr.ownsRow (wo.heap.size + 1) 54 4 v r (dcells ((sD.take r).map mirD)) ∧ Var3 wr wo.heap.size ∧ wr.cell? ⟨wo.heap.size, 0, none⟩ = some (.int .i64 sP) ∧ wr.cell? ⟨wo.heap.size, 1, none⟩ = some (.int .i64 sN) ∧ wr.cell? ⟨wo.heap.size, 2, none⟩ = some v ∧ Below wo.heap.size wo wr) (fun q _ _ _ => N - (intOf q).toNat)
      case atStart => exact ⟨0, _, by omega, rfl, World.ownsRow_nil _ _ _ _, VS9, p0, p1, p2, B9⟩
      case round =>
        clear VS9 p0 p1 p2 B9
        obtain ⟨r, v, hr, rfl, hown, VS, p0, p1, p2, hB'⟩ := hrel
        have c2' := cell_then hB' c2
        have hsz := hB'.size
        have hri : 0 ≤ (r : Int) := by omega
        have hls := lt_size p0
        have hci : (N : Int) ≤ (sc : Int) := by omega
        have HV := Lib.hid VS
        have HB' := Lib.hid hB'
        have HOW' := Lib.hid hown
        have f2 := VS.f2
        clear VS hB' hown
        by_cases hlt2 : r < N
        · have hrN : (r : Int) < (N : Int) := by omega
          obtain ⟨b2, o2, rfl, d0, d1, d2, d3⟩ := (HD.out.below HB'.out) r (by rw [HN.out]; exact hlt2)
          have hmt := mir_take (D := sD) (k := r) (by rw [HN.out]; exact hlt2)
          obtain ⟨d, hd⟩ : ∃ d, dotAt sD r = d := ⟨_, rfl⟩
          rw [hd] at d0 d1 d2 d3 hmt
          have HMT := Lib.hid hmt
          have hb2 := lt_size d0
          clear hd hmt
          have HOD := Lib.hid (HOW'.out.alloc (.cells #[.int .i64 d.y, .int .i64 d.x, .int .i64 d.t, .int .i64 d.p] 54))
          have HVD := Lib.hid (HV.out.alloc (.cells #[.int .i64 d.y, .int .i64 d.x, .int .i64 d.t, .int .i64 d.p] 54))
          have HBD := Lib.hid (below_alloc HB'.out (.cells #[.int .i64 d.y, .int .i64 d.x, .int .i64 d.t, .int .i64 d.p] 54))
          have hbd := HBD.out.size
          have hbd2 : wo.heap.size + 1 ≤ (wr.alloc (.cells #[.int .i64 d.y, .int .i64 d.x, .int .i64 d.t, .int .i64 d.p] 54)).heap.size := by simp; omega
          have HP2 := Lib.hid (keep_alloc (.cells #[.int .i64 d.y, .int .i64 d.x, .int .i64 d.t, .int .i64 d.p] 54) p2)
          go_wp2_with (at_builtin; refine wpList_append1 rfl _ _ 48 rfl (wo.heap.size + 1) 54 i0 _ 4 32 Try.underlying48 HI.out.1 HI.out.2.1 HI.out.2.2.1 HI.out.2.2.2 rfl (by omega) (by omega) v r _ rfl HOD.out #[.int .i64 d.y, .int .i64 d.x, .int .i64 d.t, .int .i64 d.p] (by rw [World.size_alloc]; rfl) rfl (by simp [Value.oneCell']) (by omega) hbd2 ?_; intro g' c' w' own' k' n'; have KB := k'.below hbd2 (fun q hq => (HOD.out.lt q (own_mem hq)).1); have y2 : w'.cell? ⟨wo.heap.size, 2, none⟩ = some v := (KB.cell (p := ⟨wo.heap.size, 2, none⟩) (by dsimp only; omega)).trans HP2.out; have HV2 := Lib.hid (var3_below HVD.out KB (by omega)); have g2 := HV2.out.f2; have OW := Lib.hid own'; have HKB := Lib.hid KB; have hgn := Lib.hid (own'.lt g' rfl).1; clear own' k' n' KB)
          refine ⟨⟨r + 1, _, by omega, by go_num, ?_, HV2.out.set_ _ _, cell_off _ ((HKB.out.cell (p := ⟨wo.heap.size, 0, none⟩) (by dsimp only; omega)).trans (keep_alloc _ p0)) (by omega), cell_off _ ((HKB.out.cell (p := ⟨wo.heap.size, 1, none⟩) (by dsimp only; omega)).trans (keep_alloc _ p1)) (by omega), set_same y2, (HBD.out.trans (HKB.out.mono (Nat.le_succ _))).setCell (by dsimp only; omega) _⟩, by simp [intOf]; omega⟩
          rw [HMT.out, dcells_append]
          exact own_set OW.out (fun h => by have h2 : g' = wo.heap.size := Option.some.inj h; have := hgn.out; omega) _
        · obtain rfl : r = N := by omega
          have hown := HOW'.out
          rw [List.take_of_length_le (by rw [HN.out]; omega)] at hown
          obtain ⟨g7, c7, rfl, hgw7, -⟩ := hown.form (by omega)
          have hc7 := own_cap hown
          have HDG := Lib.hid (dots_of_own hown)
          have HOM := Lib.hid (own_then HOW.out HB'.out)
          have HBM := Lib.hid (below_next HB.out HB'.out)
          have hbm := HBM.out.size
          have hg7 := (hown.lt g7 rfl)
          have hnr : ¬ (r : Int) < (r : Int) := by omega
          clear hown
          go_wp2_with (at_builtin; refine wpList_append1 rfl _ _ 25 rfl w2.heap.size 50 j0 _ 3 40 Try.underlying25 HJ.out.1 HJ.out.2.1 HJ.out.2.2.1 HJ.out.2.2.2 rfl (by omega) (by omega) u5 k _ rfl HOM.out #[.int .i64 sP, .int .i64 sN, .slice (some ⟨g7, 0, none⟩) r c7] rfl rfl (by simp [Value.oneCell']) (by omega) hbm ?_; intro g' c' w' own' k' n'; have OW := Lib.hid own'; have KW := Lib.hid k'; have NW := Lib.hid n'; clear own' k' n')
          have HB7 := Lib.hid (KW.out.below_next HBM.out hbm (fun q hq => (HOM.out.lt q (own_mem hq)).1))
          have HOWS := HOW
          obtain ⟨s', hs'⟩ : ∃ s' : Stk, s' = ⟨sP, sN, some ⟨g7, 0, none⟩, c7, sD.map mirD⟩ := ⟨_, rfl⟩
          have hms : MirS l k s' := by
            rw [hs']
            refine ⟨by rw [HS.out], by rw [HS.out], by rw [HS.out], ?_⟩
            dsimp only
            rw [List.length_map, HN.out]
            exact hc7.1
          refine ⟨⟨M ++ [s'], ?_, by rw [List.length_append, HK.out]; go_num, ?_, fun q hq => ?_, HB7.out⟩, by simp [intOf]; omega⟩
          · rw [List.length_append, HK.out]; simp only [List.length_cons, List.length_nil]; omega
          · have h := OW.out
            rw [List.length_append, scells_append, HK.out, hs']
            simp only [scells, List.flatMap_cons, List.flatMap_nil, List.length_map, HN.out, List.append_nil] at h ⊢
            exact h
          · rw [List.length_append, HK.out, List.length_cons, List.length_nil] at hq
            by_cases hqk : q < k
            · have e : (M ++ [s']).getD q stk0 = M.getD q stk0 := by simp [List.getD, List.getElem?_append_left (show q < M.length by rw [HK.out]; exact hqk)]
              rw [e]
              obtain ⟨h1, h2, gq, h3, h4, h5⟩ := HMD.out q (by rw [HK.out]; exact hqk)
              refine ⟨h1, ?_, gq, h3, by have := KW.out.size; omega, fun e2 => ?_⟩
              · rw [h3] at h2 ⊢
                exact dots_kept (h2.below HB'.out) KW.out (fun e2 => h5 (own_mem e2))
              · have e3 : g' = gq := by simpa [Value.ownBlock] using e2
                subst e3
                rcases NW.out with h6 | h6
                · exact h5 h6
                · omega
            · obtain rfl : q = k := by omega
              have e : (M ++ [s']).getD q stk0 = s' := by rw [← HK.out]; simp [List.getD]
              rw [e]
              have hgn : g7 ∉ u5.ownBlock.toList := fun e2 => by have := (HOW.out.lt _ (own_mem e2)).2; omega
              refine ⟨hms, ?_, g7, by rw [hs'], by have := KW.out.size; omega, fun e2 => ?_⟩
              · rw [hs']
                exact dots_kept HDG.out KW.out hgn
              · have e3 : g' = g7 := by simpa [Value.ownBlock] using e2
                rcases NW.out with h6 | h6
                · exact hgn (by rw [← e3]; exact mem_own h6)
                · omega
    · obtain rfl : k = l.length := by omega
      obtain ⟨A3, c3, rfl, hc3⟩ := own_slice hown
      have hMir := mir_all hk (fun i hi => (hmd i hi).1)
      have hpg := page_of_own (l := M) hown (fun i hi => (hmd i hi).2.1)
      rw [hk] at hc3 hown
      have HMI := Lib.hid hMir
      have HPM := Lib.hid hpg
      have HPL := Lib.hid (HP.out.then_ hB)
      have HB3 := Lib.hid (below_next HB2.out hB)
      have HB23 := Lib.hid hB
      have hbl := best_any A c l wo HPL.out HO.out hlc
      have HMK := Lib.hid hk
      obtain ⟨V, hV⟩ : ∃ V, Plt.val l.length (gapF l) 0 18 = V := ⟨_, rfl⟩
      have hVM : Plt.val M.length (gapF M) 0 18 = V := by rw [hk, gapF_mir hMir, hV]
      obtain ⟨bs, hbs⟩ : ∃ bs, bestR l = bs := ⟨_, rfl⟩
      have hbM : bestR M = bs := by rw [best_mir hMir, hbs]
      obtain ⟨hbF, hbn, -⟩ := best_fresh l HO.out.len
      rw [hV, hbs] at hbl
      rw [hbs] at hbF hbn
      have HBE := Lib.hid hbl
      have HRV := Lib.hid (rdv_mir hMir (fun r hr => fresh_mem hbF r hr))
      have HVM := Lib.hid hVM
      have HBM := Lib.hid hbM
      have HBN := Lib.hid hbn
      have hki : ¬ (l.length : Int) < (l.length : Int) := by omega
      clear hown hmd hB hMir hpg hk hbl hV hVM hbM hbs hbF hbn hl hlt
      go_wp2_with fail
      refine HBE.out.mono ?_
      rintro e w4 ⟨v4, rfl, own4, b4⟩
      rw [HBN.out] at own4
      obtain ⟨AB, cB, rfl, hcB⟩ := own_slice own4
      have HRA := Lib.hid (rds_of_own own4)
      have HB4 := Lib.hid (below_next HB3.out b4)
      have hbm := best_any A3 c3 M w4 (HPM.out.then_ b4) (HMI.out.ok HO.out) (by rw [HMK.out]; exact hc3)
      rw [HVM.out, HBM.out, HRV.out] at hbm
      have HBE2 := Lib.hid hbm
      clear own4 b4 HBE hbm
      go_wp2_with fail
      refine HBE2.out.mono ?_
      rintro e w5 ⟨v5, rfl, own5, b5⟩
      rw [HBN.out] at own5
      obtain ⟨AC, cC, rfl, hcC⟩ := own_slice own5
      have hbr : (bs.map (rdv l)).length = l.length := by rw [List.length_map, HBN.out]
      have hsm := fun W (hW : Below w5.heap.size w5 W) => samerides_yes AB AC cB cC (bs.map (rdv l)) W ((HRA.out.then_ b5).then_ hW) ((rds_of_own own5).then_ hW) (by omega)
      rw [hbr] at hsm
      have HSM := Lib.hid (hsm w5 (Below.refl _ _))
      have HB5 := Lib.hid (below_next HB4.out b5)
      have q1 : (V == V) = true := by simp
      clear own5 b5 HBE2 hsm
      go_wp2_with fail
      refine HSM.out.mono ?_
      rintro e w6 ⟨rfl, b6⟩
      have HB6 := Lib.hid (below_next HB5.out b6)
      clear b6 HSM q1
      go_wp2_with fail
      go_ret
      exact ⟨rfl, HB6.out⟩
end Go.Proofs.Ytgopadbdnndkiaa.Pt
namespace Go.Proofs.Ytgopadbdnndkiaa.lawPlotMirrored
open Go.ChangeShapes Go.WideShapes Go.ChangeAt Go.RowKit
open Go.ChangeMaps (open_string shut_string)

theorem readable : ∀ t ∈ (#[22] : Array TypeId).toList, Try.prog.readableRec t = true ∧ t < Try.prog.types.size := by
  intro t ht
  simp only [List.mem_cons, List.not_mem_nil, or_false] at ht
  rcases ht with rfl
  · exact ⟨by kernel_rfl, of_decide_eq_true (by kernel_rfl)⟩
set_option maxRecDepth 100000 in
theorem contract (H : Type) (enc : TypeId × Value → H) (W : World) (base : Nat) (args : Array Value) (ds gs : List (DataW H)) (before : List MemPlace)
    (hval : ∀ (j : Nat) t v, Try.f6.params[j]? = some t → args[j]? = some v → Value.okWide Try.prog W .any base t v)
    (hW : DataW.Whole enc Try.prog Try.f6.params.toList Rows.plotMirroredSpec.vars false W args.toList ds gs before) :
    Calls Try.prog 6 args W fun e W' => ∃ v, e = .returned v ∧ Rows.plotMirroredSpec.post enc Try.prog Try.f6 false true false false W args v W' := by
  have hW' := hW
  obtain ⟨p, q, hA0, hV, rfl, hfz, hnd⟩ := hW
  have hA : DataW.TrodAll enc Try.prog W 0 (fun _ => true) true Try.f6.params.toList args.toList ds p := hA0
  rw [Try.params6] at hA hval
  obtain ⟨v0, vs0, d0, ds0, p0, q0, hargs, rfl, rfl, h0, r0⟩ := trodAll_cons hA
  obtain ⟨rfl, rfl, rfl⟩ := trodAll_nil r0
  obtain rfl : args = #[v0] := by cases args; simp_all
  obtain ⟨rfl, rfl⟩ := trodVars_none hV
  obtain ⟨X0, c0, rows0, rfl, hR0, hc0, hm0⟩ := open_pages Try.underlying22 Try.underlying70 Try.underlying71 Try.underlying3 (by kernel_rfl) (by kernel_rfl) (by kernel_rfl) (hval 0 22 v0 rfl rfl) h0
  clear hA0
  refine (Pt.mirror_law X0 c0 rows0 W hR0 hc0 hm0).mono ?_
  rintro e W' ⟨rfl, hb⟩
  exact ⟨_, rfl, law_post laidOut (by rw [Try.params6]; exact readable) hW' rfl rfl rfl Try.underlying4 hb⟩
theorem reads (os : Os) {H : Type} (enc : TypeId × Value → H) : ∃ places, DataW.whole enc Try.prog ((World.holding Try.prog os ⟨#[], #[], []⟩).forCall (fun _ _ => 0) ⟨#[], #[.slice none 0 0], []⟩).memory Try.f6.params.toList Rows.plotMirroredSpec.vars false (#[.slice none 0 0] : Array Value).toList 8 = some ([.nil], [], places) :=
  ⟨[], by kernel_rfl⟩
set_option maxRecDepth 100000 in
theorem lifted (os : Os) (started : os.Started) (H : Type) (enc : TypeId × Value → H) (F : Stop.Interp) :
    ReturnsInHanded {} Try.checked os 6 .any ((OpenSpec.ofChange Rows.plotMirroredSpec).preRow enc Try.prog Try.f6 Rows.plotMirroredRow.domain false Rows.plotMirroredRow.laid) (((OpenSpec.ofChange Rows.plotMirroredSpec).at F).post enc Try.prog Try.f6 false true false false) := by
  obtain ⟨places, hx⟩ := reads os enc
  refine returnsInHanded_of_row (C := Try.checked) (s := OpenSpec.ofChange Rows.plotMirroredSpec) own started (by kernel_rfl) Try.func6
    (witness_row_at (enc := enc) (C := Try.checked) false (World.holding Try.prog os ⟨#[], #[], []⟩) #[.slice none 0 0] rfl (by kernel_rfl) (by kernel_rfl) (by kernel_rfl)
      (OpenSpec.preRow_of_cond 8 hx (by kernel_rfl) (fun k hk => by cases hk) (by kernel_rfl) (laid_none _ _))) ?_
  intro W base args ds gs before hval hW _ _ _ hL _ _
  exact contract H enc W base args ds gs before hval hW
theorem said : Rows.PlotMirroredSaid :=
  OpenClaim.holds_of_cond 6 Try.f6 rfl rfl rfl rfl rfl rfl rfl ⟨rfl, rfl, rfl, rfl, rfl⟩ rfl rfl rfl rfl rfl (by kernel_rfl) Try.func6 (by kernel_rfl)
    (of_decide_eq_true (by kernel_rfl)) (by unfold Func.isWrapper; rw [if_neg (of_decide_eq_false (by kernel_rfl))]; exact ⟨rfl, rfl⟩)
    (fun os started H enc _ F => by rw [OpenClaim.pre_eq_preRow]; exact lifted os started H enc F)
end Go.Proofs.Ytgopadbdnndkiaa.lawPlotMirrored
