/- The small functions of the chapter's laws and reference: pick. slices.Reverse on a list of places that the call has made. Package plot: the places of a ride; where it begins and ends. Package plot: a valid page is valid; the index of a stroke by its code. -/
import Derived.Test.YtgopadbdnndkiaaPc
import Derived.Test.YtgopadbdnndkiaaPd
import Derived.Test.YtgopadbdnndkiaaPb
namespace Go.Proofs.Ytgopadbdnndkiaa.Pt
open Go.RowKit Str
attribute [local go_sem] Oper.semAt_some
theorem pickL_any (c n : Int) (w : World) (hc : I64 c) (hn : 0 < n) (hn2 : n ≤ 9223372036854775807) : Calls Try.prog 16 #[.int .i64 c, .int .i64 n] w fun e w' => e = .returned (.int .i64 (pickI c n)) ∧ w = w' := by
  obtain ⟨h1, h2⟩ := hc
  by_cases h : c < 0
  · have hp := Lib.hid (show pickI c n = (-(c + 1)).tmod n by rw [tmodI _ _ (by omega), pickI, if_pos h])
    have hz : (n == 0) = false := by rw [beq_eq_false_iff_ne]; omega
    go_enter Try.func16, Try.ntmps16
    go_wp2_with fail
    go_ret
    exact ⟨ret_int (by rw [hp.out, Int.neg_tmod]), rfl⟩
  · have hp := Lib.hid (show pickI c n = c.tmod n by rw [tmodI _ _ (by omega), pickI, if_neg h])
    have hz : (n == 0) = false := by rw [beq_eq_false_iff_ne]; omega
    go_enter Try.func16, Try.ntmps16
    go_wp2_with fail
    go_ret
    exact ⟨ret_int (by rw [hp.out]; first | rfl | rw [tmodI _ _ (by omega)]), rfl⟩
theorem pickR_any (c n : Int) (w : World) (hc : I64 c) (hn : 0 < n) (hn2 : n ≤ 9223372036854775807) : Calls Try.prog 36 #[.int .i64 c, .int .i64 n] w fun e w' => e = .returned (.int .i64 (pickI c n)) ∧ w = w' := by
  obtain ⟨h1, h2⟩ := hc
  by_cases h : c < 0
  · have hp := Lib.hid (show pickI c n = (-(c + 1)).tmod n by rw [tmodI _ _ (by omega), pickI, if_pos h])
    have hz : (n == 0) = false := by rw [beq_eq_false_iff_ne]; omega
    go_enter Try.func36, Try.ntmps36
    go_wp2_with fail
    go_ret
    exact ⟨ret_int (by rw [hp.out, Int.neg_tmod]), rfl⟩
  · have hp := Lib.hid (show pickI c n = c.tmod n by rw [tmodI _ _ (by omega), pickI, if_neg h])
    have hz : (n == 0) = false := by rw [beq_eq_false_iff_ne]; omega
    go_enter Try.func36, Try.ntmps36
    go_wp2_with fail
    go_ret
    exact ⟨ret_int (by rw [hp.out]; first | rfl | rw [tmodI _ _ (by omega)]), rfl⟩
end Go.Proofs.Ytgopadbdnndkiaa.Pt
namespace Go.Proofs.Ytgopadbdnndkiaa.Pt
open Go.RowKit Str
attribute [local go_sem] Oper.semAt_some
/-- places that may be written -/
def PlsV (w : World) (g n : Nat) (f : Nat → Int × Int) : Prop := ∀ q, q < n → (w.cell? ⟨g, q * 2, none⟩ = some (.int .i64 (f q).1) ∧ w.cell? ⟨g, q * 2 + 1, none⟩ = some (.int .i64 (f q).2)) ∧ w.frozen? ⟨g, q * 2, none⟩ = false ∧ w.frozen? ⟨g, q * 2 + 1, none⟩ = false
theorem plsv_of_own {w : World} {base g cap n : Nat} {e : TypeId} {l : List (Int × Int)} (h : w.ownsRow base e 2 (.slice (some ⟨g, 0, none⟩) n cap) n (pcs l)) (hl : l.length = n) : PlsV w g n (fun q => l.getD q (0, 0)) := fun q hq => by
  have h1 := pls_of_own h q (by omega)
  rcases h.2 with ⟨h', _⟩ | ⟨g', cap', cur, h', _, hg, _⟩
  · cases h'
  · injection h' with e1 e2 e3
    injection e1 with e1
    injection e1 with e1
    subst e1
    exact ⟨h1, frozen_of_row w g _ _ _ hg, frozen_of_row w g _ _ _ hg⟩
theorem set_cell {W : World} {g i j : Nat} {x v : Value} (h : W.cell? ⟨g, i, none⟩ = some x) (hne : i ≠ j) : (W.setCell ⟨g, j, none⟩ v).cell? ⟨g, i, none⟩ = some x := by
  rw [World.cell?_setCell_other]
  · exact h
  · intro e; injection e with _ e _; exact hne e.symm
theorem set_same {W : World} {g j : Nat} {x v : Value} (h : W.cell? ⟨g, j, none⟩ = some x) : (W.setCell ⟨g, j, none⟩ v).cell? ⟨g, j, none⟩ = some v := World.cell?_setCell_same _ _ _ h
/-- a place is written -/
theorem PlsV.set {w : World} {g n : Nat} {f : Nat → Int × Int} (h : PlsV w g n f) {j : Nat} (hj : j < n) (x y : Int) : PlsV ((w.setCell ⟨g, j * 2, none⟩ (.int .i64 x)).setCell ⟨g, j * 2 + 1, none⟩ (.int .i64 y)) g n (fun q => if q = j then (x, y) else f q) := fun q hq => by
  obtain ⟨⟨h1, h2⟩, h3, h4⟩ := h q hq
  refine ⟨?_, by rw [World.frozen?_setCell, World.frozen?_setCell]; exact h3, by rw [World.frozen?_setCell, World.frozen?_setCell]; exact h4⟩
  by_cases e : q = j
  · subst e
    show World.cell? _ _ = some (.int .i64 (if q = q then (x, y) else f q).1) ∧ World.cell? _ _ = some (.int .i64 (if q = q then (x, y) else f q).2)
    rw [if_pos rfl]
    exact ⟨set_cell (set_same h1) (by omega), set_same (set_cell h2 (by omega))⟩
  · show World.cell? _ _ = some (.int .i64 (if q = j then (x, y) else f q).1) ∧ World.cell? _ _ = some (.int .i64 (if q = j then (x, y) else f q).2)
    rw [if_neg e]
    exact ⟨set_cell (set_cell h1 (by omega)) (by omega), set_cell (set_cell h2 (by omega)) (by omega)⟩
/-- places of which the first k and the last k have changed sides -/
def revF (n k : Nat) (f : Nat → Int × Int) (q : Nat) : Int × Int := if q < k ∨ n - k ≤ q then f (n - 1 - q) else f q
theorem revF_next {n k : Nat} (f : Nat → Int × Int) (hk : 2 * k + 1 < n) : ∀ q, q < n → (if q = n - 1 - k then f k else if q = k then f (n - 1 - k) else revF n k f q) = revF n (k + 1) f q := fun q hq => by
  unfold revF
  by_cases e1 : q = n - 1 - k
  · rw [if_pos e1, if_pos (.inr (by omega)), e1]; congr 1; omega
  · rw [if_neg e1]
    by_cases e2 : q = k
    · rw [if_pos e2, if_pos (.inl (by omega)), e2]
    · rw [if_neg e2]
      by_cases e3 : q < k ∨ n - k ≤ q
      · rw [if_pos e3, if_pos (by omega)]
      · rw [if_neg e3, if_neg (by omega)]
theorem revF_end {n k : Nat} (f : Nat → Int × Int) (hk : n ≤ 2 * k + 1) (q : Nat) (hq : q < n) : revF n k f q = f (n - 1 - q) := by
  unfold revF
  split
  · rfl
  · rw [show n - 1 - q = q by omega]
set_option maxRecDepth 100000 in
set_option maxHeartbeats 4000000 in
theorem rev_any (g n c : Nat) (f : Nat → Int × Int) (w : World) (h : PlsV w g n f) (hn1 : 1 ≤ n) (hn : n ≤ 100000) :
    Calls Try.prog 50 #[.slice (some ⟨g, 0, none⟩) n c] w fun e w' => e = .returned (.tuple #[]) ∧ PlsV w' g n (fun q => f (n - 1 - q)) ∧ Kept [g] w w' := by
  have H := Lib.hid h
  clear h
  go_enter Try.func50, Try.ntmps50
  go_wp2_with fail
  go_loopw [2, 3] (fun i j wr => ∃ k : Nat, 2 * k ≤ n ∧ i = .int .i64 (k : Int) ∧ j = .int .i64 ((n : Int) - 1 - (k : Int)) ∧ PlsV wr g n (revF n k f) ∧ Kept [g] w wr) (fun i _ _ => n - (intOf i).toNat)
  case atStart => exact ⟨0, by omega, rfl, by go_num, fun q hq => by rw [show revF n 0 f q = f q by unfold revF; rw [if_neg (by omega)]]; exact H.out q hq, Kept.refl _ _⟩
  case round =>
    obtain ⟨k, hk, rfl, rfl, hp, hK⟩ := hrel
    have HK := Lib.hid hK
    have HP := Lib.hid hp
    clear hK hp
    by_cases hlt : 2 * k + 1 < n
    · obtain ⟨j, hj⟩ : ∃ j : Nat, n - 1 - k = j := ⟨_, rfl⟩
      have hji : (n : Int) - 1 - (k : Int) = (j : Int) := by omega
      rw [hji]
      have hkj : (k : Int) < (j : Int) := by omega
      have hjn : (j : Int) < (n : Int) := by omega
      have hkn : (k : Int) < (n : Int) := by omega
      have hk0 : (0 : Int) ≤ (k : Int) := by omega
      have hj0 : (0 : Int) ≤ (j : Int) := by omega
      obtain ⟨⟨a1, a2⟩, a3, a4⟩ := HP.out k (by omega)
      obtain ⟨⟨b1, b2⟩, b3, b4⟩ := HP.out j (by omega)
      have hx : revF n k f k = f k := by unfold revF; rw [if_neg (by omega)]
      have hy : revF n k f j = f j := by unfold revF; rw [if_neg (by omega)]
      rw [hx] at a1 a2
      rw [hy] at b1 b2
      have HJ := Lib.hid hj
      have HJI := Lib.hid hji
      clear hx hy hj hji
      go_wp2_with fail
      go_region
      go_wp2_with fail
      have hp := (HP.out.set (j := k) (by have := HJ.out; omega) (f j).1 (f j).2).set (j := j) (by have := HJ.out; omega) (f k).1 (f k).2
      refine ⟨⟨k + 1, by omega, by go_num, by have := HJI.out; go_num, ?_, ?_⟩, by simp [intOf]; omega⟩
      · intro q hq
        have e := revF_next f hlt q hq
        rw [HJ.out] at e
        have := hp q hq
        rw [← e]
        exact this
      · exact (((((HK.out.setCell (.inl (List.mem_singleton.2 rfl)) _).setCell (.inl (List.mem_singleton.2 rfl)) _).setCell (.inl (List.mem_singleton.2 rfl)) _).setCell (.inl (List.mem_singleton.2 rfl)) _).drew)
    · have hkj : ¬ ((k : Int) < (n : Int) - 1 - (k : Int)) := by omega
      go_wp2_with fail
      refine bodyPost_end (v := .tuple #[]) (by simp [results, Try.results50]) rfl ?_
      exact ⟨rfl, fun q hq => by have := HP.out q hq; rw [revF_end f (by omega) q hq] at this; exact this, HK.out⟩
end Go.Proofs.Ytgopadbdnndkiaa.Pt
namespace Go.Proofs.Ytgopadbdnndkiaa.Pt
open Go.RowKit Str
attribute [local go_sem] Oper.semAt_some
theorem place_info : (Try.prog.info? 56).map (fun i => (i.zero, i.size, i.bytes)) = some (some (.agg #[.int .i64 0, .int .i64 0]), 2, 16) := by kernel_rfl
/-- the places of dots -/
def xy (d : Dot) : Int × Int := (d.x, d.y)
/-- the places of a ride -/
def plc (l : List Stk) (r : Nat) : List (Int × Int) := if r % 2 = 1 then ((l.getD (r / 2) stk0).D.map xy).reverse else (l.getD (r / 2) stk0).D.map xy
theorem plc_length (l : List Stk) (r : Nat) : (plc l r).length = (l.getD (r / 2) stk0).D.length := by
  unfold plc
  split <;> simp
theorem map_take_xy {D : List Dot} {k : Nat} (h : k < D.length) : (D.take (k + 1)).map xy = (D.take k).map xy ++ [xy (dotAt D k)] := by rw [take_dot h, List.map_append]; rfl
theorem pls_at {w : World} {g : Nat} {l : List (Int × Int)} {f : Nat → Int × Int} (h : PlsV w g l.length f) (he : ∀ q, q < l.length → f q = l.getD q (0, 0)) : PlsAt w g l := fun i hi => by
  have := (h i hi).1
  rw [he i hi] at this
  exact this
theorem getD_rev (l : List (Int × Int)) (q : Nat) (h : q < l.length) : l.getD (l.length - 1 - q) (0, 0) = l.reverse.getD q (0, 0) := by
  have h1 : l.length - 1 - q < l.length := by omega
  have h2 : q < l.reverse.length := by simpa using h
  simp only [List.getD, List.getElem?_eq_getElem h1, List.getElem?_eq_getElem h2, List.getElem_reverse]
/-- what places comes to -/
def PlcP (l : List (Int × Int)) (w : World) (e : Ending) (w' : World) : Prop :=
  ∃ g c, e = .returned (.slice (some ⟨g, 0, none⟩) l.length c) ∧ w.heap.size ≤ g ∧ PlsAt w' g l ∧ (l.length : Int) ≤ c ∧ (c : Int) ≤ 9223372036854775807 ∧ Below w.heap.size w w'
set_option maxRecDepth 100000 in
set_option maxHeartbeats 4000000 in
theorem places_any (A : Option Addr) (c : Nat) (l : List Stk) (r : Nat) (w : World) (hP : PageAt w A l) (hO : PageOk l) (hr : r < 2 * l.length) :
    Calls Try.prog 39 #[.slice A l.length c, .int .i64 (r : Int)] w (PlcP (plc l r) w) := by
  obtain ⟨i0, hi0, hz0, hz1, hz2⟩ := info_parts place_info
  have hlen := hO.len
  obtain ⟨s, hs⟩ : ∃ s, l.getD (r / 2) stk0 = s := ⟨_, rfl⟩
  have hv := hO.each (r / 2) (by omega)
  have hcap := hO.cap (r / 2) (by omega)
  obtain ⟨b, o, rfl, hS⟩ := hP (r / 2) (by omega)
  rw [hs] at hv hcap hS
  obtain ⟨_, _, hd1, hd2⟩ := vstr hv
  have hd1' : (1 : Int) ≤ (s.D.length : Int) := by omega
  have hd2' : (s.D.length : Int) ≤ 200 := by omega
  have hcap' : (s.D.length : Int) ≤ (s.c : Int) := by omega
  obtain ⟨i, hi⟩ : ∃ i, r / 2 = i := ⟨_, rfl⟩
  have hil : (i : Int) < (l.length : Int) := by omega
  have hi0' : (0 : Int) ≤ (i : Int) := by omega
  have hri : ((r : Int)) / 2 = (i : Int) := by omega
  have hr0 : 0 ≤ (r : Int) := by omega
  have hr18 : (r : Int) < 18 := by omega
  have hd := hS.d
  rw [hi] at hd
  have HD := Lib.hid hS.dots
  have HS := Lib.hid hs
  clear hP hO hv hS hs hi
  go_enter Try.func39, Try.ntmps39
  go_wp2_with fail
  go_loopw [5, 15] (fun v j wr => ∃ k : Nat, k ≤ s.D.length ∧ j = .int .i64 (k : Int) ∧ wr.ownsRow w.heap.size 56 2 v k (pcs ((s.D.take k).map xy)) ∧ Below w.heap.size w wr) (fun _ j _ => s.D.length - (intOf j).toNat)
  case atStart => exact ⟨0, by omega, rfl, World.ownsRow_nil _ _ _ _, Below.refl _ _⟩
  case round =>
    obtain ⟨k, hk, rfl, hown, hB⟩ := hrel
    by_cases hlt : k < s.D.length
    · obtain ⟨b, o, e, c0, c1, c2, c3⟩ := (HD.out.below hB) k hlt
      rw [e]
      have HX := Lib.hid (map_take_xy hlt)
      have HO := Lib.hid hown
      have hkk : (k : Int) < (s.D.length : Int) := by omega
      have hk0 : (0 : Int) ≤ (k : Int) := by omega
      have HBB := Lib.hid hB
      have hB' := hB
      clear hown hB hd
      have hbs := hB'.size
      go_wp2_with (at_builtin; refine wpList_append1 rfl _ _ 52 rfl w.heap.size 56 i0 _ 2 16 Try.underlying52 hi0 hz0 hz1 hz2 rfl (by omega) (by omega) _ k _ rfl (HO.out.alloc _) #[.int .i64 (dotAt s.D k).x, .int .i64 (dotAt s.D k).y] (by rw [World.size_alloc]; rfl) rfl (by simp [Value.oneCell']) (by omega) (by simp; omega) ?_; intro g' c' w' own' k' _; have OW := Lib.hid own'; have BW := Lib.hid (k'.below_next (below_alloc HBB.out _) (by simp; omega) (fun q hq => (HO.out.lt q (own_mem hq)).1)); clear own' k')
      refine ⟨⟨k + 1, by omega, by go_num, ?_, BW.out⟩, by simp [intOf]; omega⟩
      rw [HX.out, pcs_append]
      exact OW.out
    · obtain rfl : k = s.D.length := by omega
      rw [List.take_length] at hown
      obtain ⟨g, cp, rfl⟩ : ∃ g cp, u5 = .slice (some ⟨g, 0, none⟩) s.D.length cp := by
        rcases hown.2 with ⟨h', h0⟩ | ⟨g2, c2, cur, h', _⟩
        · omega
        · exact ⟨g2, c2, h'⟩
      have hgb := (hown.lt g rfl).1
      have hcc := own_cap hown
      have hF := plsv_of_own hown (by simp)
      have hP := pls_of_own hown
      clear hown
      have HF := Lib.hid hF
      have HP2 := Lib.hid hP
      have HBB := Lib.hid hB
      clear hF hP hB hd
      by_cases hp : r % 2 = 1
      · have hp2 : (r : Int) % 2 = 1 := by omega
        go_wp2_with fail
        refine (rev_any g s.D.length cp _ wr HF.out (by omega) (by omega)).mono ?_
        rintro e w2 ⟨rfl, h2, k2⟩
        have B2 := Lib.hid (k2.below_next HBB.out HBB.out.size (fun q hq => by rw [List.mem_singleton.1 hq]; exact hgb))
        have H2 := Lib.hid h2
        clear h2 k2
        go_wp2_with fail
        go_ret
        have e1 : plc l r = (s.D.map xy).reverse := by unfold plc; rw [if_pos hp, HS.out]
        rw [e1]
        refine ⟨g, cp, by simp, hgb, pls_at (by rw [List.length_reverse, List.length_map]; exact H2.out) (fun q hq => ?_), by rw [List.length_reverse, List.length_map]; omega, hcc.2, B2.out⟩
        have := getD_rev (s.D.map xy) q (by simpa using hq)
        rw [List.length_map] at this
        exact this
      · have hp2 : (r : Int) % 2 = 0 := by omega
        go_wp2_with fail
        go_ret
        have e1 : plc l r = s.D.map xy := by unfold plc; rw [if_neg hp, HS.out]
        rw [e1]
        exact ⟨g, cp, by simp, hgb, HP2.out, by rw [List.length_map]; omega, hcc.2, HBB.out⟩
/-- where a ride begins and ends -/
def bgn (l : List Stk) (r : Nat) : Int × Int := (plc l r).getD 0 (0, 0)
def fin (l : List Stk) (r : Nat) : Int × Int := (plc l r).getD ((plc l r).length - 1) (0, 0)
theorem plc_pos {l : List Stk} {r : Nat} (hO : PageOk l) (hr : r < 2 * l.length) : 1 ≤ (plc l r).length ∧ (plc l r).length ≤ 200 := by
  obtain ⟨_, _, h⟩ := vstr (hO.each (r / 2) (by omega))
  rw [plc_length]; exact h
set_option maxRecDepth 100000 in
set_option maxHeartbeats 4000000 in
theorem begins_any (A : Option Addr) (c : Nat) (l : List Stk) (r : Nat) (w : World) (hP : PageAt w A l) (hO : PageOk l) (hr : r < 2 * l.length) :
    Calls Try.prog 33 #[.slice A l.length c, .int .i64 (r : Int)] w fun e w' => e = .returned (pv (bgn l r).1 (bgn l r).2) ∧ Below w.heap.size w w' := by
  have hn := plc_pos hO hr
  have hn0 : (0 : Int) < ((plc l r).length : Int) := by omega
  have hn2 : ((plc l r).length : Int) ≤ 200 := by omega
  have HC := Lib.hid (places_any A c l r (w.alloc (.cells #[.int .i64 0, .int .i64 0] 56)) (hP.then_ (below_alloc (Below.refl _ _) _)) hO hr)
  have hV : Var2 (w.alloc (.cells #[.int .i64 0, .int .i64 0] 56)) w.heap.size := Var2.of (v0 := .int .i64 0) (v1 := .int .i64 0) ⟨by simp [go_sem], by simp [go_sem]⟩ ⟨by simp [go_sem], by simp [go_sem]⟩
  have HV := Lib.hid hV
  clear hP hO hV
  obtain ⟨X, hX⟩ : ∃ X, bgn l r = X := ⟨_, rfl⟩
  rw [hX]
  unfold bgn at hX
  obtain ⟨n, hN⟩ : ∃ n, (plc l r).length = n := ⟨_, rfl⟩
  rw [hN] at hn hn0 hn2
  have HX := Lib.hid hX
  have HN := Lib.hid hN
  clear hX hN
  unfold pv
  go_enter Try.func33, Try.ntmps33
  go_wp2_with fail
  refine HC.out.mono ?_
  rintro e w1 ⟨g, c1, rfl, hg, hp, h1, h2, hb⟩
  have hx := hp 0 (by have := HN.out; omega)
  rw [HX.out] at hx
  rw [HN.out] at h1 ⊢
  obtain ⟨x1, x2⟩ := hx
  rw [Nat.zero_mul] at x1 x2
  have HB := Lib.hid (below_next (below_alloc (Below.refl w.heap.size w) (.cells #[.int .i64 0, .int .i64 0] 56)) hb)
  have V1 := HV.out.then_ hb
  have z0 := V1.c0
  have z1 := V1.c1
  have f0 := V1.f0
  have f1 := V1.f1
  have lz := lt_size z0
  clear hb hp V1
  go_wp2_with fail
  exact bodyPost_ret (v := .agg #[.int .i64 X.1, .int .i64 X.2]) (by simp [results, Try.results33, go_sem, z0, z1]) rfl ⟨rfl, (HB.out.setCell (Nat.le_refl _) _).setCell (Nat.le_refl _) _⟩
set_option maxRecDepth 100000 in
set_option maxHeartbeats 4000000 in
theorem ends_any (A : Option Addr) (c : Nat) (l : List Stk) (r : Nat) (w : World) (hP : PageAt w A l) (hO : PageOk l) (hr : r < 2 * l.length) :
    Calls Try.prog 34 #[.slice A l.length c, .int .i64 (r : Int)] w fun e w' => e = .returned (pv (fin l r).1 (fin l r).2) ∧ Below w.heap.size w w' := by
  have hn := plc_pos hO hr
  have hn0 : (0 : Int) < ((plc l r).length : Int) := by omega
  have hn2 : ((plc l r).length : Int) ≤ 200 := by omega
  have HC := Lib.hid (places_any A c l r (w.alloc (.cells #[.int .i64 0, .int .i64 0] 56)) (hP.then_ (below_alloc (Below.refl _ _) _)) hO hr)
  have hV : Var2 (w.alloc (.cells #[.int .i64 0, .int .i64 0] 56)) w.heap.size := Var2.of (v0 := .int .i64 0) (v1 := .int .i64 0) ⟨by simp [go_sem], by simp [go_sem]⟩ ⟨by simp [go_sem], by simp [go_sem]⟩
  have HV := Lib.hid hV
  clear hP hO hV
  obtain ⟨X, hX⟩ : ∃ X, fin l r = X := ⟨_, rfl⟩
  rw [hX]
  unfold fin at hX
  obtain ⟨n, hN⟩ : ∃ n, (plc l r).length = n := ⟨_, rfl⟩
  rw [hN] at hn hn0 hn2 hX
  have HX := Lib.hid hX
  have HN := Lib.hid hN
  clear hX hN
  unfold pv
  go_enter Try.func34, Try.ntmps34
  go_wp2_with fail
  refine HC.out.mono ?_
  rintro e w1 ⟨g, c1, rfl, hg, hp, h1, h2, hb⟩
  have hx := hp (n - 1) (by have := HN.out; omega)
  rw [HX.out] at hx
  rw [HN.out] at h1 ⊢
  obtain ⟨x1, x2⟩ := hx
  have hnn : (n : Int) - 1 = ((n - 1 : Nat) : Int) := by omega
  have hn3 : ((n - 1 : Nat) : Int) < (n : Int) := by omega
  have hn4 : (0 : Int) ≤ ((n - 1 : Nat) : Int) := by omega
  have HB := Lib.hid (below_next (below_alloc (Below.refl w.heap.size w) (.cells #[.int .i64 0, .int .i64 0] 56)) hb)
  have V1 := HV.out.then_ hb
  have z0 := V1.c0
  have z1 := V1.c1
  have f0 := V1.f0
  have f1 := V1.f1
  have lz := lt_size z0
  clear hb hp V1
  go_wp2_with fail
  exact bodyPost_ret (v := .agg #[.int .i64 X.1, .int .i64 X.2]) (by simp [results, Try.results34, go_sem, z0, z1]) rfl ⟨rfl, (HB.out.setCell (Nat.le_refl _) _).setCell (Nat.le_refl _) _⟩
end Go.Proofs.Ytgopadbdnndkiaa.Pt
namespace Go.Proofs.Ytgopadbdnndkiaa.Pt
open Go.RowKit Str
attribute [local go_sem] Oper.semAt_some
/-- a stroke as a value -/
def sv (s : Stk) : Value := .agg #[.int .i64 s.P, .int .i64 s.N, .slice s.A s.D.length s.c]
theorem code_s (s : Stk) (w : World) (hD : Dots w s.A s.D) (hv : validB s.P s.N s.D = true) : Calls Try.prog 19 #[.agg #[.int .i64 s.P, .int .i64 s.N, .slice s.A s.D.length s.c]] w fun e w' => e = .returned (.int .i64 (codeI s)) ∧ Below w.heap.size w w' := by
  have h := code_any s.P s.N s.A s.c s.D w hD (by have := (vstr hv).2.2; omega)
  rw [if_pos hv] at h
  exact h
theorem valid_s (s : Stk) (w : World) (hD : Dots w s.A s.D) (hv : validB s.P s.N s.D = true) : Calls Try.prog 41 #[.agg #[.int .i64 s.P, .int .i64 s.N, .slice s.A s.D.length s.c]] w fun e w' => e = .returned (.bool true) ∧ Below w.heap.size w w' := by
  have h := valid_any s.P s.N s.A s.c s.D w hD (by have := (vstr hv).2.2; omega)
  rw [hv] at h
  exact h
set_option maxRecDepth 100000 in
set_option maxHeartbeats 4000000 in
theorem valid_yes (A : Option Addr) (c : Nat) (l : List Stk) (w : World) (hP : PageAt w A l) (hO : PageOk l) :
    Calls Try.prog 26 #[.slice A l.length c] w fun e w' => e = .returned (.bool true) ∧ Below w.heap.size w w' := by
  have hlen : (l.length : Int) ≤ 9 := by have := hO.len; omega
  have HP := Lib.hid hP
  have HO := Lib.hid hO
  clear hP hO
  go_enter Try.func26, Try.ntmps26
  go_wp2_with fail
  go_loopw [7] (fun j wr => ∃ k : Nat, k ≤ l.length ∧ j = .int .i64 (k : Int) ∧ Below w.heap.size w wr) (fun j _ => l.length - (intOf j).toNat)
  case atStart => exact ⟨0, by omega, rfl, Below.refl _ _⟩
  case round =>
    obtain ⟨k, hk, rfl, hB⟩ := hrel
    by_cases hlt : k < l.length
    · have hv := HO.out.each k hlt
      have hcp := HO.out.cap k hlt
      have hasc : 0 < k → codeI (l.getD (k - 1) stk0) < codeI (l.getD k stk0) := fun h => by have := HO.out.asc (k - 1) (by omega); rwa [Nat.sub_add_cancel h] at this
      have HA := Lib.hid hasc
      obtain ⟨s, hs⟩ : ∃ s, l.getD k stk0 = s := ⟨_, rfl⟩
      obtain ⟨b, o, rfl, hS⟩ := (HP.out.then_ hB) k hlt
      rw [hs] at hv hcp hS
      have c0 := hS.p
      have c1 := hS.n
      have c2 := hS.d
      have hcc : (s.D.length : Int) ≤ (s.c : Int) := by omega
      have HV := Lib.hid hv
      have HD := Lib.hid hS.dots
      have HS := Lib.hid hs
      have HB := Lib.hid hB
      have hkk : (k : Int) < (l.length : Int) := by omega
      have hk0 : (0 : Int) ≤ (k : Int) := by omega
      clear hv hcp hS hs hB hasc
      have B1 := below_alloc (Below.refl wr.heap.size wr) (.cells #[.int .i64 s.P, .int .i64 s.N, .slice s.A s.D.length s.c] 50)
      have HC1 := Lib.hid (fun d os => valid_s s (Sort.grow (redrawn (wr.alloc (.cells #[.int .i64 s.P, .int .i64 s.N, .slice s.A s.D.length s.c] 50)) d) os) ((HD.out.below B1).below (below_regrown _ _ _)) HV.out)
      clear B1
      have n0 : (wr.alloc (.cells #[.int .i64 s.P, .int .i64 s.N, .slice s.A s.D.length s.c] 50)).cell? ⟨wr.heap.size, 0, none⟩ = some (.int .i64 s.P) := by simp [go_sem]
      have n1 : (wr.alloc (.cells #[.int .i64 s.P, .int .i64 s.N, .slice s.A s.D.length s.c] 50)).cell? ⟨wr.heap.size, 1, none⟩ = some (.int .i64 s.N) := by simp [go_sem]
      have n2 : (wr.alloc (.cells #[.int .i64 s.P, .int .i64 s.N, .slice s.A s.D.length s.c] 50)).cell? ⟨wr.heap.size, 2, none⟩ = some (.slice s.A s.D.length s.c) := by simp [go_sem]
      have g_4 := fun D os => cell_regrown n0 D os
      have g_5 := fun D os => cell_regrown n1 D os
      have g_6 := fun D os => cell_regrown n2 D os
      clear n0 n1 n2
      by_cases hz : k = 0
      · have hd : decide (0 < k) = false := by simp; omega
        clear hz
        go_wp2_with fail
        refine wp_region_quiet_below (by kernel_rfl) (by kernel_rfl) ?_
        repeat (go_big_quiet_step (first | (with_reducible exact Calls.regrown_of (HC1.out _ _))))
        refine wpQuiet_nil ?_
        intro wq hq0
        have hq := below_of_class hq0
        clear hq0
        clear hd HC1 g_4 g_5 g_6
        go_wp2_with fail
        exact ⟨⟨k + 1, by omega, by go_num, below_next (below_alloc HB.out _) hq⟩, by simp [intOf]; omega⟩
      · have hd : decide (0 < k) = true := by simp; omega
        have hk1 : (k : Int) - 1 = ((k - 1 : Nat) : Int) := by omega
        have hk2 : ((k - 1 : Nat) : Int) < (l.length : Int) := by omega
        have hk3 : (0 : Int) ≤ ((k - 1 : Nat) : Int) := by omega
        obtain ⟨t, ht⟩ : ∃ t, l.getD (k - 1) stk0 = t := ⟨_, rfl⟩
        obtain ⟨b2, o2, e2, hT⟩ := (HP.out.then_ HB.out) (k - 1) (by omega)
        injection e2 with e2
        injection e2 with e2 e3
        subst e2 e3
        have hlt2 : codeI t < codeI s := by have := HA.out (by omega); rw [HS.out, ht] at this; exact this
        have hd2 : decide (codeI s ≤ codeI t) = false := by simp; omega
        have hvt := HO.out.each (k - 1) (by omega)
        have hct := HO.out.cap (k - 1) (by omega)
        rw [ht] at hT hvt hct
        have t0 := keep_alloc (.cells #[.int .i64 s.P, .int .i64 s.N, .slice s.A s.D.length s.c] 50) hT.p
        have t1 := keep_alloc (.cells #[.int .i64 s.P, .int .i64 s.N, .slice s.A s.D.length s.c] 50) hT.n
        have t2 := keep_alloc (.cells #[.int .i64 s.P, .int .i64 s.N, .slice s.A s.D.length s.c] 50) hT.d
        have g_1 := fun D os => cell_regrown t0 D os
        have g_2 := fun D os => cell_regrown t1 D os
        have g_3 := fun D os => cell_regrown t2 D os
        have hcc2 : (t.D.length : Int) ≤ (t.c : Int) := by omega
        have B1 := below_alloc (Below.refl wr.heap.size wr) (.cells #[.int .i64 s.P, .int .i64 s.N, .slice s.A s.D.length s.c] 50)
        have HC2 := Lib.hid (fun d os => code_s s (Sort.grow (redrawn (wr.alloc (.cells #[.int .i64 s.P, .int .i64 s.N, .slice s.A s.D.length s.c] 50)) d) os) ((HD.out.below B1).below (below_regrown _ _ _)) HV.out)
        have HC3 := Lib.hid (fun d os => code_s t (Sort.grow (redrawn (wr.alloc (.cells #[.int .i64 s.P, .int .i64 s.N, .slice s.A s.D.length s.c] 50)) d) os) ((hT.dots.below B1).below (below_regrown _ _ _)) hvt)
        clear B1 hT hvt hct hlt2 ht hz t0 t1 t2
        go_wp2_with fail
        refine wp_region_quiet_below (by kernel_rfl) (by kernel_rfl) ?_
        repeat (go_big_quiet_step (first | (with_reducible exact Calls.regrown_of (HC1.out _ _)) | (with_reducible exact Calls.regrown_of (HC2.out _ _)) | (with_reducible exact Calls.regrown_of (HC3.out _ _))))
        refine wpQuiet_nil ?_
        intro wq hq0
        have hq := below_of_class hq0
        clear hq0
        clear hd hd2 HC1 HC2 HC3 g_1 g_2 g_3 g_4 g_5 g_6
        go_wp2_with fail
        exact ⟨⟨k + 1, by omega, by go_num, below_next (below_alloc HB.out _) hq⟩, by simp [intOf]; omega⟩
    · obtain rfl : k = l.length := by omega
      go_wp2_with fail
      go_ret
      exact ⟨rfl, hB⟩
end Go.Proofs.Ytgopadbdnndkiaa.Pt
