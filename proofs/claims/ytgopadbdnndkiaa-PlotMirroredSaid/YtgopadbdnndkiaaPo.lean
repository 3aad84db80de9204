/- Package plot: the gaps of a page. -/
import Derived.Test.YtgopadbdnndkiaaPg
namespace Go.Proofs.Ytgopadbdnndkiaa.Pt
open Go.RowKit Str
attribute [local go_sem] Oper.semAt_some
/-- the gap from the end of a ride (18: from the place 0, 0) to the begin of a ride -/
def gapF (l : List Stk) (i k : Nat) : Int := if k < 2 * l.length then (if i = 18 then gapI 0 0 (bgn l k).1 (bgn l k).2 else if i < 2 * l.length then gapI (fin l i).1 (fin l i).2 (bgn l k).1 (bgn l k).2 else 0) else 0
/-- the first k columns -/
def gapTo (l : List Stk) (k i q : Nat) : Int := if q < k then gapF l i q else 0
/-- column k, of which the rows below i are there -/
def gapIn (l : List Stk) (k i a b : Nat) : Int := if b < k then gapF l a b else if b = k then (if a = 18 ∨ a < i then gapF l a b else 0) else 0
theorem gap_first (l : List Stk) (k : Nat) : putG (gapTo l k) 18 k (gapF l 18 k) = gapIn l k 0 := by
  funext a b
  unfold putG gapTo gapIn
  by_cases h1 : b < k
  · rw [if_neg (by omega), if_pos h1, if_pos h1]
  · by_cases h2 : b = k
    · subst h2
      by_cases h3 : a = 18
      · subst h3; simp
      · simp [h3]
    · simp [h1, h2]
theorem gap_next (l : List Stk) (k i : Nat) (hi : i < 18) : putG (gapIn l k i) i k (gapF l i k) = gapIn l k (i + 1) := by
  funext a b
  unfold putG gapIn
  by_cases h1 : b < k
  · rw [if_neg (by omega), if_pos h1, if_pos h1]
  · by_cases h2 : b = k
    · subst h2
      by_cases h3 : a = i
      · subst h3; simp
      · have : (a = 18 ∨ a < i + 1) ↔ (a = 18 ∨ a < i) := by omega
        simp [h3, this]
    · simp [h1, h2]
theorem gap_row (l : List Stk) (k : Nat) : gapIn l k (2 * l.length) = gapTo l (k + 1) := by
  funext a b
  unfold gapIn gapTo
  by_cases h1 : b < k
  · rw [if_pos h1, if_pos (by omega)]
  · by_cases h2 : b = k
    · subst h2
      have e : (if b < b + 1 then gapF l a b else 0) = gapF l a b := if_pos (by omega)
      rw [e, if_neg h1, if_pos rfl]
      by_cases h3 : a = 18 ∨ a < 2 * l.length
      · rw [if_pos h3]
      · rw [if_neg h3]
        unfold gapF
        rw [if_neg (fun e => h3 (.inl e)), if_neg (fun e => h3 (.inr e))]
        split <;> rfl
    · rw [if_neg h1, if_neg h2, if_neg (by omega)]
theorem gap_all (l : List Stk) : gapTo l (2 * l.length) = gapF l := by
  funext a b
  unfold gapTo
  by_cases h : b < 2 * l.length
  · rw [if_pos h]
  · rw [if_neg h, gapF, if_neg h]
theorem gap_none (l : List Stk) : gapTo l 0 = fun _ _ => 0 := by
  funext a b; simp [gapTo]
/-- places at the addresses that the loops go by -/
def PlsO (W : World) (A : Option Addr) (B : Nat) (l : List (Int × Int)) : Prop := ∀ i, i < l.length → ∃ g, A = some ⟨g, 0, none⟩ ∧ B ≤ g ∧ PlsAt W g l
theorem PlsO.kept {W W' : World} {A : Option Addr} {B : Nat} {l : List (Int × Int)} {S : List Nat} (h : PlsO W A B l) (k : Kept S W W') (hS : ∀ g ∈ S, g < B) : PlsO W' A B l := fun i hi => by
  obtain ⟨g, h1, h2, h3⟩ := h i hi
  have hn : g ∉ S := fun e => by have := hS g e; omega
  exact ⟨g, h1, h2, fun q hq => ⟨k.cell (h3 q hq).1 hn, k.cell (h3 q hq).2 hn⟩⟩
theorem set_cell2 {W : World} {b i g : Nat} {x : Value} (h : W.cell? ⟨b, i, none⟩ = some x) (hne : b ≠ g) (j : Nat) (v : Value) : (W.setCell ⟨g, j, none⟩ v).cell? ⟨b, i, none⟩ = some x := by
  rw [World.cell?_setCell_other]
  · exact h
  · intro e; injection e with e _ _; exact hne e.symm
theorem range_getD (n : Nat) (F : Nat → Int × Int) {k : Nat} (h : k < n) : ((List.range n).map F).getD k (0, 0) = F k := by
  simp [List.getD, List.getElem?_range h]
set_option maxRecDepth 100000 in
set_option maxHeartbeats 4000000 in
theorem gaps_any (A : Option Addr) (c : Nat) (l : List Stk) (w : World) (hP : PageAt w A l) (hO : PageOk l) :
    Calls Try.prog 29 #[.slice A l.length c] w fun e w' => e = .returned (.agg (rowG (gapF l))) ∧ Below w.heap.size w w' := by
  have hlen : (l.length : Int) ≤ 9 := by have := hO.len; omega
  obtain ⟨hzv, hzs⟩ := zero_of_info gaps_info
  have HP := Lib.hid hP
  have HO := Lib.hid hO
  have HZS := Lib.hid hzs
  clear hP hO hzs
  obtain ⟨Z, hZ⟩ : ∃ Z, rowG (fun _ _ => 0) = Z := ⟨_, rfl⟩
  rw [hZ] at hzv
  have HZ := Lib.hid hZ
  clear hZ
  go_enter Try.func29, Try.ntmps29
  go_wp2_with fail
  obtain ⟨W0, hW0⟩ : ∃ W0, ((w.alloc (.cells #[.slice A l.length c] 73)).alloc (.cells Z 76)).alloc (.cells Z 76) = W0 := ⟨_, rfl⟩
  have hs0 : w.heap.size + 3 ≤ W0.heap.size := by rw [← hW0]; simp
  have hB0 : Below w.heap.size w W0 := by rw [← hW0]; exact below_alloc (below_alloc (below_alloc (Below.refl _ _) _) _) _
  have hc0 : W0.cell? ⟨w.heap.size, 0, none⟩ = some (.slice A l.length c) := by rw [← hW0]; exact keep_alloc _ (keep_alloc _ (new_cell rfl))
  have hg1 : W0.heap[w.heap.size + 1]? = some (.cells Z 76 (0, 0)) := by
    rw [← hW0]
    have := heap_alloc_last (w.alloc (.cells #[.slice A l.length c] 73)) (.cells Z 76)
    rw [World.size_alloc] at this
    exact heap_alloc this _
  have hg2 : W0.heap[w.heap.size + 1 + 1]? = some (.cells Z 76 (0, 0)) := by
    rw [← hW0]
    have := heap_alloc_last ((w.alloc (.cells #[.slice A l.length c] 73)).alloc (.cells Z 76)) (.cells Z 76)
    rw [World.size_alloc, World.size_alloc] at this
    exact this
  rw [hW0]
  clear hW0
  have HCB := Lib.hid (pls_begins w.heap.size l.length c A (bgn l) W0 hlen hc0 (fun r W hr hW => begins_any A c l r W (HP.out.then_ (below_next hB0 hW)) HO.out hr))
  refine HCB.out.mono ?_
  rintro e w1 ⟨A1, c1, rfl, hp1, hk1, b1⟩
  have HCE := Lib.hid (pls_ends w.heap.size l.length c A (fin l) w1 hlen (cell_then b1 hc0) (fun r W hr hW => ends_any A c l r W (HP.out.then_ (below_next (below_next hB0 b1) hW)) HO.out hr))
  go_wp2_with fail
  refine HCE.out.mono ?_
  rintro e w2 ⟨A2, c2, rfl, hp2, hk2, b2⟩
  clear HCB HCE hzv
  have hB2 := below_next (below_next hB0 b1) b2
  have hg1' := (b2.block _ (heap_lt ((b1.block _ (heap_lt hg1)).trans hg1))).trans ((b1.block _ (heap_lt hg1)).trans hg1)
  have hg2' := (b2.block _ (heap_lt ((b1.block _ (heap_lt hg2)).trans hg2))).trans ((b1.block _ (heap_lt hg2)).trans hg2)
  have hs1 := b1.size
  have hs2 := b2.size
  have hP1 : PlsO w2 A1 (w.heap.size + 3) ((List.range (2 * l.length)).map (bgn l)) := fun i hi => by
    obtain ⟨g, h1, h2, h3⟩ := hp1 i hi
    exact ⟨g, h1, by omega, h3.then_ b2⟩
  have hP2 : PlsO w2 A2 (w.heap.size + 3) ((List.range (2 * l.length)).map (fin l)) := fun i hi => by
    obtain ⟨g, h1, h2, h3⟩ := hp2 i hi
    exact ⟨g, h1, by omega, h3⟩
  rw [List.length_map, List.length_range] at hk1 hk2 ⊢
  have HP1 := Lib.hid hP1
  have HP2 := Lib.hid hP2
  have HB2 := Lib.hid hB2
  have HG1 := Lib.hid hg1'
  have HG2 := Lib.hid hg2'
  clear hp1 hp2 hg1 hg2 hg1' hg2' hc0 hB0 b1 b2 hB2 hP1 hP2
  go_wp2_with fail
  go_loopw [18] (fun j wr => ∃ k : Nat, k ≤ 2 * l.length ∧ j = .int .i64 (k : Int) ∧ wr.heap[w.heap.size + 1 + 1]? = some (.cells (rowG (gapTo l k)) 76 (0, 0)) ∧ Kept [w.heap.size + 1 + 1] w2 wr) (fun j _ => 2 * l.length - (intOf j).toNat)
  case atStart => exact ⟨0, by omega, rfl, by rw [gap_none, HZ.out]; exact HG2.out, Kept.refl _ _⟩
  case round =>
    obtain ⟨k, hk, rfl, hg, hK⟩ := hrel
    by_cases hlt : k < 2 * l.length
    · obtain ⟨g, rfl, hgb, hpl⟩ := (HP1.out.kept hK (fun q hq => by rw [List.mem_singleton.1 hq]; omega)) k (by simpa using hlt)
      obtain ⟨x1, x2⟩ := hpl k (by simpa using hlt)
      rw [range_getD _ _ hlt] at x1 x2
      have hbb := bgn_bd HO.out hlt
      have HGP := Lib.hid (fun W => gap_any 0 0 (bgn l k).1 (bgn l k).2 W (by omega) (by omega) hbb.1 hbb.2)
      have hgf : gapI 0 0 (bgn l k).1 (bgn l k).2 = gapF l 18 k := by rw [gapF, if_pos hlt, if_pos rfl]
      unfold pv at HGP
      rw [hgf] at HGP
      obtain ⟨U, hU⟩ : ∃ U, (bgn l k).1 = U := ⟨_, rfl⟩
      obtain ⟨V, hV⟩ : ∃ V, (bgn l k).2 = V := ⟨_, rfl⟩
      rw [hU] at x1 HGP hbb
      rw [hV] at x2 HGP hbb
      have HU := Lib.hid hU
      have HV := Lib.hid hV
      have HK := Lib.hid hK
      have HG := Lib.hid hg
      have hkk : (k : Int) < 2 * (l.length : Int) := by omega
      have hk0 : (0 : Int) ≤ (k : Int) := by omega
      have hk18 : (k : Int) < 18 := by omega
      clear hU hV hgf hK hpl hg
      go_wp2_with fail
      refine (HGP.out _).mono ?_
      rintro e w3 ⟨rfl, b3⟩
      have hB3 : Below wr.heap.size wr w3 := below_next (below_alloc (Below.refl _ _) _) b3
      have hgr := (hB3.block _ (heap_lt HG.out)).trans HG.out
      have HB3 := Lib.hid hB3
      have hc3 := cell_of_row w3 _ (18 * 18 + k) _ _ _ hgr
      rw [rowG_get _ (by omega) (by omega)] at hc3
      have hf3 := frozen_of_row w3 _ (18 * 18 + k) _ _ hgr
      have HGR := Lib.hid hgr
      have y0 : w3.cell? ⟨wr.heap.size, 0, none⟩ = some (.int .i64 U) := cell_then b3 (new_cell rfl)
      have y1 : w3.cell? ⟨wr.heap.size, 1, none⟩ = some (.int .i64 V) := cell_then b3 (new_cell rfl)
      have hwg := heap_lt HG.out
      have HKs := Lib.hid ((HK.out.and_below hB3).setCell (p := ⟨w.heap.size + 1 + 1, 324 + k, none⟩) (.inl (List.mem_singleton.2 rfl)) (.int .i64 (gapF l 18 k)))
      have hgs := heap_setCell_same w3 _ (324 + k) _ _ (.int .i64 (gapF l 18 k)) hgr
      rw [show 324 + k = 18 * 18 + k by omega, rowG_set _ (by omega) (by omega), gap_first] at hgs
      have Y0 := Lib.hid (set_cell2 y0 (show wr.heap.size ≠ w.heap.size + 1 + 1 by omega) (324 + k) (.int .i64 (gapF l 18 k)))
      have Y1 := Lib.hid (set_cell2 y1 (show wr.heap.size ≠ w.heap.size + 1 + 1 by omega) (324 + k) (.int .i64 (gapF l 18 k)))
      have HGS := Lib.hid hgs
      clear b3 hB3 hgr HGP y0 y1 hgs
      go_wp2_with fail
      clear hc3 hf3
      obtain ⟨wo, hwo⟩ : ∃ wo, wo = wr := ⟨_, rfl⟩
      subst hwo
      go_loopw [31] (fun j wi => ∃ i : Nat, i ≤ 2 * l.length ∧ j = .int .i64 (i : Int) ∧ wi.heap[w.heap.size + 1 + 1]? = some (.cells (rowG (gapIn l k i)) 76 (0, 0)) ∧ wi.cell? ⟨wo.heap.size, 0, none⟩ = some (.int .i64 U) ∧ wi.cell? ⟨wo.heap.size, 1, none⟩ = some (.int .i64 V) ∧ Kept [w.heap.size + 1 + 1] w2 wi) (fun j _ => 2 * l.length - (intOf j).toNat)
      case atStart => exact ⟨0, by omega, rfl, HGS.out, Y0.out, Y1.out, HKs.out⟩
      case round =>
        obtain ⟨i, hi, rfl, hgi, z0, z1, hKi⟩ := hrel
        by_cases hli : i < 2 * l.length
        · obtain ⟨g4, rfl, hgb4, hpl4⟩ := (HP2.out.kept hKi (fun q hq => by rw [List.mem_singleton.1 hq]; omega)) i (by simpa using hli)
          obtain ⟨x3, x4⟩ := hpl4 i (by simpa using hli)
          rw [range_getD _ _ hli] at x3 x4
          have hfb := fin_bd HO.out hli
          have hgf2 : gapI (fin l i).1 (fin l i).2 (bgn l k).1 (bgn l k).2 = gapF l i k := by rw [gapF, if_pos hlt, if_neg (by omega), if_pos hli]
          rw [HU.out, HV.out] at hgf2
          obtain ⟨S, hS⟩ : ∃ S, (fin l i).1 = S := ⟨_, rfl⟩
          obtain ⟨T, hT⟩ : ∃ T, (fin l i).2 = T := ⟨_, rfl⟩
          rw [hS] at x3 hfb hgf2
          rw [hT] at x4 hfb hgf2
          have HGQ := Lib.hid (fun W => gap_any S T U V W hfb.1 hfb.2 hbb.1 hbb.2)
          unfold pv at HGQ
          rw [hgf2] at HGQ
          have HGI := Lib.hid hgi
          have HKI := Lib.hid hKi
          have hii : (i : Int) < 2 * (l.length : Int) := by omega
          have hi0 : (0 : Int) ≤ (i : Int) := by omega
          have hi19 : (i : Int) < 19 := by omega
          clear hgf2 hS hT hpl4 hgi hKi hfb
          have hwi := heap_lt HGI.out
          have hzi := lt_size z0
          go_wp2_with fail
          have g_1 := fun D os => cell_regrown (keep_alloc (.cells #[.int .i64 S, .int .i64 T] 56) z0) D os
          have g_2 := fun D os => cell_regrown (keep_alloc (.cells #[.int .i64 S, .int .i64 T] 56) z1) D os
          have g_3 := fun D os => cell_regrown (show (wr.alloc (.cells #[.int .i64 S, .int .i64 T] 56)).cell? ⟨wr.heap.size, 0, none⟩ = some (.int .i64 S) from new_cell rfl) D os
          have g_4 := fun D os => cell_regrown (show (wr.alloc (.cells #[.int .i64 S, .int .i64 T] 56)).cell? ⟨wr.heap.size, 1, none⟩ = some (.int .i64 T) from new_cell rfl) D os
          refine wp_region_head 7 (by kernel_rfl) (by kernel_rfl) ?_
          simp only [List.take_succ_cons, List.take_zero, List.drop_succ_cons, List.drop_zero]
          repeat (go_big_quiet_step ((with_reducible exact Calls.regrown_of (HGQ.out _))))
          refine wpQuiet_nil ?_
          intro wq hq
          clear g_1 g_2 g_3 g_4
          have hBq := below_next (below_alloc (Below.refl wr.heap.size wr) (.cells #[.int .i64 S, .int .i64 T] 56)) hq
          have hgq := (hBq.block _ hwi).trans HGI.out
          have hc5 := cell_of_row wq _ (i * 18 + k) _ _ _ hgq
          rw [rowG_get _ (by omega) (by omega)] at hc5
          have hf5 := frozen_of_row wq _ (i * 18 + k) _ _ hgq
          have HKq := Lib.hid ((HKI.out.and_below hBq).setCell (p := ⟨w.heap.size + 1 + 1, i * 18 + k, none⟩) (.inl (List.mem_singleton.2 rfl)) (.int .i64 (gapF l i k)))
          have hgn := heap_setCell_same wq _ (i * 18 + k) _ _ (.int .i64 (gapF l i k)) hgq
          rw [rowG_set _ (by omega) (by omega), gap_next _ _ _ (by omega)] at hgn
          have HGN := Lib.hid hgn
          have Z0 := Lib.hid (set_cell2 (cell_then hBq z0) (show wo.heap.size ≠ w.heap.size + 1 + 1 by omega) (i * 18 + k) (.int .i64 (gapF l i k)))
          have Z1 := Lib.hid (set_cell2 (cell_then hBq z1) (show wo.heap.size ≠ w.heap.size + 1 + 1 by omega) (i * 18 + k) (.int .i64 (gapF l i k)))
          clear hq hBq hgq hgn z0 z1 HGQ
          go_wp2_with fail
          exact ⟨⟨i + 1, by omega, by go_num, HGN.out, Z0.out, Z1.out, HKq.out⟩, by simp [intOf]; omega⟩
        · obtain rfl : i = 2 * l.length := by omega
          rw [gap_row] at hgi
          have HGI := Lib.hid hgi
          have HKI := Lib.hid hKi
          clear hgi hKi z0 z1
          go_wp2_with fail
          exact ⟨⟨k + 1, by omega, by go_num, HGI.out, HKI.out⟩, by simp [intOf]; omega⟩
    · obtain rfl : k = 2 * l.length := by omega
      rw [gap_all] at hg
      have HG := Lib.hid hg
      have HK := Lib.hid hK
      clear hg hK
      have hu := Try.underlying76
      have hl : (loadVar 76 ⟨w.heap.size + 1 + 1, 0, none⟩).run Try.prog wr = .ok (.agg (rowG (gapF l))) wr := run_loadVar_row _ _ _ _ _ (0, 0) _ HG.out hu rfl (by rw [HZS.out, rowG_size])
      have hl2 : (Instr.loadAt 76 (.pointer (some ⟨w.heap.size + 1 + 1, 0, none⟩))).run Try.prog wr = .ok (.agg (rowG (gapF l))) wr := by
        simp only [Instr.loadAt, Instr.sureAddr, Sem.run_bind, Sem.run_pure, Result.andThen]
        exact hl
      clear hl
      have hz : Z.size = 342 := by rw [← HZ.out, rowG_size]
      have hg1 := (HK.out.heap HG1.out (by simp))
      have hs := run_storeVar_row (P := Try.prog) wr (w.heap.size + 1) 76 76 Z (rowG (gapF l)) hg1 (by rw [HZS.out, rowG_size]) (by rw [hz, rowG_size]) (rowG_one _)
      have hsc : (storeCells ⟨w.heap.size + 1, 0, none⟩ (rowG (gapF l)).toList).run Try.prog wr = .ok () (wr.setRow (w.heap.size + 1) (rowG (gapF l))) := by
        have := run_storeCells_from (P := Try.prog) (w.heap.size + 1) 76 (rowG (gapF l)).toList 0 Z wr hg1 (by rw [Array.length_toList, rowG_size, hz]) (fun v hv => (Array.all_eq_true_iff_forall_mem.1 (rowG_one (gapF l))) v (by simpa using hv))
        simpa using this
      have HL2 := Lib.hid hl2
      have hgr := setRow_heap wr (w.heap.size + 1) Z (rowG (gapF l)) 76 (0, 0) hg1
      have HLD := Lib.hid (run_loadVar_row (P := Try.prog) _ _ _ 76 _ (0, 0) _ hgr hu rfl (by rw [HZS.out, rowG_size]))
      clear hs hl2 hz hg1 hu hgr
      go_wp2_with fail
      refine step_load rfl rfl HL2.out ?_
      go_wp2_with fail
      refine bodyPost_ret (v := .agg (rowG (gapF l))) ?_ rfl ⟨rfl, ?_⟩
      · simp [results, Try.results29, asAddr, HLD.out]
      · have hb := HK.out.below_next HB2.out HB2.out.size (fun q hq => by rw [List.mem_singleton.1 hq]; omega)
        exact ((Kept.of_below hb).setRow (.inr (by omega)) _).below (Nat.le_refl _) (fun q hq => by cases hq)
end Go.Proofs.Ytgopadbdnndkiaa.Pt
