/- The laws function heads of chapter 02, and Same of the reference. -/
import Derived.Test.YtoipckflokdakaaDoorLw02Coll
import Derived.Test.YtoipckflokdakaaDoorLw02Way
namespace Go.Proofs.YtoipckflokdakaaDoor
open Go.RowKit Sha Mk
attribute [local go_sem] Oper.semAt_some
set_option maxRecDepth 100000 in
set_option maxHeartbeats 4000000 in
theorem rsame_any (A B : Option Addr) (ca cb : Nat) (x y : List ByteArray) (w : World) (hA : StrsAt w A x) (hB : StrsAt w B y) (hlx : (x.length : Int) ≤ 9223372036854775807) (hly : (y.length : Int) ≤ 9223372036854775807) :
    Calls Tryd.prog 18 #[.slice A x.length ca, .slice B y.length cb] w fun e w' => e = .returned (.bool (decide (x = y))) ∧ Below w.heap.size w w' := by
  have HA := Lib.hid hA
  have HB := Lib.hid hB
  obtain ⟨nx, hnx⟩ : ∃ n, x.length = n := ⟨_, rfl⟩
  obtain ⟨ny, hny⟩ : ∃ n, y.length = n := ⟨_, rfl⟩
  have HNX := Lib.hid hnx
  have HNY := Lib.hid hny
  rw [hnx] at hlx ⊢
  rw [hny] at hly ⊢
  clear hA hB hnx hny
  by_cases hn : nx = ny
  · subst hn
    obtain ⟨r, hr⟩ : ∃ r, decide (x = y) = r := ⟨_, rfl⟩
    have HR := Lib.hid hr
    rw [hr]
    clear hr
    go_enter Tryd.func18, Tryd.ntmps18
    go_wp2_with fail
    go_loopw [5] (fun i wr => ∃ k : Nat, i = .int .i64 (k : Int) ∧ k ≤ nx ∧ Hid (x.take k = y.take k) ∧ Below w.heap.size w wr) (fun i _ => nx - (intOf i).toNat)
    case atStart => exact ⟨0, rfl, Nat.zero_le _, Lib.hid rfl, Below.refl _ _⟩
    case round =>
      obtain ⟨k, rfl, hk, HE, hb⟩ := hrel
      by_cases hlt : k < nx
      · have hkx : k < x.length := by have := HNX.out; omega
        have hky : k < y.length := by have := HNY.out; omega
        have g1 : (k : Int) < (nx : Int) := by omega
        obtain ⟨b1, o1, rfl, c1⟩ := strs_at (HA.out.then_ hb) hkx
        obtain ⟨b2, o2, rfl, c2⟩ := strs_at (HB.out.then_ hb) hky
        have hnext : x[k] = y[k] → x.take (k + 1) = y.take (k + 1) := fun e => by
          rw [List.take_succ_eq_append_getElem hkx, List.take_succ_eq_append_getElem hky, HE.out, e]
        have hstop : x[k] ≠ y[k] → r = false := fun e => by
          rw [← HR.out]; simp only [decide_eq_false_iff_not]; intro e2; subst e2; exact e rfl
        obtain ⟨u, hu⟩ : ∃ u, x[k] = u := ⟨_, rfl⟩
        obtain ⟨v, hv⟩ : ∃ v, y[k] = v := ⟨_, rfl⟩
        rw [hu] at c1 hnext hstop
        rw [hv] at c2 hnext hstop
        have C1 := Lib.hid c1
        have C2 := Lib.hid c2
        have HBB := Lib.hid hb
        have HNX2 := Lib.hid hnext
        have HST := Lib.hid hstop
        clear hu hv c1 c2 hb hkx hky hnext hstop
        go_wp2_with fail
        by_cases he : u = v
        · have hd : (u.toList == v.toList) = true := eq_of he
          have g_1 := fun D os => cell_regrown C1.out D os
          have g_2 := fun D os => cell_regrown C2.out D os
          refine wp_region_quiet_below (by kernel_rfl) (by kernel_rfl) ?_
          repeat (go_big_quiet_step (fail))
          refine wpQuiet_nil ?_
          intro wq hq0
          have hq := below_of_class hq0
          clear hq0
          clear g_1 g_2
          go_wp2_with fail
          refine ⟨⟨k + 1, by rfl, by omega, Lib.hid (HNX2.out he), below_next HBB.out hq⟩, by simp [intOf]; omega⟩
        · have hd : (u.toList == v.toList) = false := neq_of he
          have g_1 := fun D os => cell_regrown C1.out D os
          have g_2 := fun D os => cell_regrown C2.out D os
          refine wp_region_quiet_below (by kernel_rfl) (by kernel_rfl) ?_
          repeat (go_big_quiet_step (fail))
          refine wpQuiet_nil ?_
          intro wq hq0
          have hq := below_of_class hq0
          clear hq0
          clear g_1 g_2
          go_wp2_with fail
          go_ret
          exact ⟨by rw [HST.out he]; rfl, below_next HBB.out hq⟩
      · obtain rfl : k = nx := by omega
        have g1 : ¬ (k : Int) < (k : Int) := by omega
        have hr : r = true := by
          rw [← HR.out]; simp only [decide_eq_true_eq]
          have := HE.out
          rwa [List.take_of_length_le (by rw [HNX.out]; exact Nat.le_refl _), List.take_of_length_le (by rw [HNY.out]; exact Nat.le_refl _)] at this
        subst hr
        go_wp2_with fail
        go_ret
        exact ⟨rfl, hb⟩
  · have hr : decide (x = y) = false := by
      simp only [decide_eq_false_iff_not]; intro e; subst e; exact hn (HNX.out.symm.trans HNY.out)
    rw [hr]
    have g1 : ¬ (nx : Int) = (ny : Int) := by omega
    clear hr
    go_enter Tryd.func18, Tryd.ntmps18
    go_wp2_with fail
    go_ret
    exact ⟨rfl, Below.refl _ _⟩
theorem headsF_take (l : List ByteArray) (k : Nat) (h : k < l.length) : headsF (l.take (k + 1)).reverse = preS 2 [headN (l.take k), l[k]] :: headsF (l.take k).reverse := by
  rw [List.take_succ_eq_append_getElem h, List.reverse_append, List.reverse_singleton, List.singleton_append, headsF, List.reverse_reverse]
theorem headN_take (l : List ByteArray) (k : Nat) (h : k < l.length) : headN (l.take (k + 1)) = chainS (headN (l.take k)) l[k] := by
  rw [List.take_succ_eq_append_getElem h, head_snoc]
def z32c : Array Value := (List.replicate 32 (Value.int .u8 0)).toArray
theorem make32 (w : World) : (Instr.makeSlice 46 (.int .i64 32) (.int .i64 32)).run Tryd.prog w = .ok (.slice (some ⟨w.heap.size, 0, none⟩) 32 32) (w.alloc (.cells z32c 5)) := by
  obtain ⟨i, hi, hz, hs, hb⟩ := info_parts u8_infos
  have h := run_makeSlice (P := Tryd.prog) w 46 5 i (.int .u8 0) Tryd.underlying46 hi hz .i64 .i64 32 32 (by omega) (Int.le_refl _) (by rw [hs]; simp) (by rw [hb]; omega) (by omega)
  rw [h, hs]
  have e : madeCells (Value.int IntKind.u8 0).cells 32 = z32c := by
    apply Array.toList_inj.1
    rw [show (Value.int IntKind.u8 0).cells = #[Value.int IntKind.u8 0] from rfl, toList_madeCells_one]
    simp [z32c]
  exact congrArg (fun q => Result.ok (Value.slice (some ⟨w.heap.size, 0, none⟩) 32 32) (w.alloc (.cells q 5))) e
theorem conv32 (w : World) : (convert 46 9 (.slice (some ⟨w.heap.size, 0, none⟩) 32 32)).run Tryd.prog (w.alloc (.cells z32c 5)) = .ok (.string z32) (w.alloc (.cells z32c 5)) := by
  have h := run_convert_bytes_back (P := Tryd.prog) (w.alloc (.cells z32c 5)) 46 9 5 ⟨w.heap.size, 0, none⟩ 32 (List.replicate 32 0) Tryd.underlying46 Tryd.underlying5 Tryd.underlying9 (fun j hj => ?_)
  · simpa [z32] using h
  · have hj' : j < 32 := by rwa [List.length_replicate] at hj
    have e1 : z32c[j]? = some (.int .u8 0) := by rw [z32c, List.getElem?_toArray, List.getElem?_replicate, if_pos hj']
    rw [add0, new_cell e1, List.getElem_replicate]
    rfl
set_option maxRecDepth 100000 in
set_option maxHeartbeats 4000000 in
theorem heads_any (A : Option Addr) (c : Nat) (l : List ByteArray) (w : World) (hA : StrsAt w A l) (hl : l.length ≤ 1000) (hs : ∀ s ∈ l, s.size ≤ 400000) (hK : RoundIn w) :
    Calls Tryd.prog 38 #[.slice A l.length c] w fun e w' => ∃ Ar cr, e = .returned (.tuple #[.slice Ar l.length cr, .string (headN l)]) ∧ StrsAt w' Ar (headsF l.reverse) ∧ l.length ≤ cr ∧ cr ≤ maxLen ∧ Below w.heap.size w w' := by
  obtain ⟨i0, hi0, hz0, hz1, hz2⟩ := info_parts str_info1
  have I1 := Lib.hid hi0
  have I2 := Lib.hid hz0
  have I3 := Lib.hid hz1
  have I4 := Lib.hid hz2
  have HA := Lib.hid hA
  have HS := Lib.hid hs
  have HK := Lib.hid hK
  obtain ⟨N, hN⟩ : ∃ N, l.length = N := ⟨_, rfl⟩
  have HN := Lib.hid hN
  rw [hN] at hl ⊢
  clear hA hs hK hi0 hz0 hz1 hz2 hN
  go_enter Tryd.func38, Tryd.ntmps38
  have hmk := make32 w
  have hcv := conv32 w
  have HB1 := Lib.hid (below_alloc (Below.refl w.heap.size w) (.cells z32c 5))
  obtain ⟨Z, hZ⟩ : ∃ Z, z32 = Z := ⟨_, rfl⟩
  rw [hZ] at hcv
  have HZ := Lib.hid hZ
  clear hZ
  go_wp2_with fail
  have hs0 := (HB1.out).size
  obtain ⟨W1, hW1⟩ : ∃ W1, w.alloc (.cells z32c 5) = W1 := ⟨_, rfl⟩
  rw [hW1] at HB1 hs0 ⊢
  clear hmk hcv hW1
  go_loopw [4, 5, 6] (fun h out i wr => ∃ (k : Nat) (H : ByteArray) (A' : Option Addr) (c' : Nat), i = .int .i64 (k : Int) ∧ k ≤ N ∧ h = .string H ∧ Hid (headN (l.take k) = H) ∧ H.size = 32 ∧ out = .slice A' k c' ∧ StrsAt wr A' (headsF (l.take k).reverse) ∧ k ≤ c' ∧ c' ≤ maxLen ∧ Below w.heap.size w wr) (fun _ _ i _ => N - (intOf i).toNat)
  case atStart => exact ⟨0, Z, none, 0, rfl, Nat.zero_le _, rfl, Lib.hid (by rw [← HZ.out]; rfl), by rw [← HZ.out]; rfl, rfl, strs_nil _ _, Nat.le_refl _, Nat.zero_le _, HB1.out⟩
  case round =>
    obtain ⟨k, H, A', c', rfl, hk, rfl, HH, hH, rfl, hst, hc', hcm', hb⟩ := hrel
    by_cases hlt : k < N
    · have hkl : k < l.length := by have := HN.out; omega
      have g1 : (k : Int) < (N : Int) := by omega
      obtain ⟨b1, o1, rfl, c1⟩ := strs_at (HA.out.then_ hb) hkl
      have hn1 := headsF_take l k hkl
      have hn2 := headN_take l k hkl
      have sz := HS.out _ (List.getElem_mem hkl)
      obtain ⟨u, hu⟩ : ∃ u, l[k] = u := ⟨_, rfl⟩
      rw [hu] at c1 hn1 hn2 sz
      rw [HH.out] at hn1 hn2
      obtain ⟨T, hT⟩ : ∃ T, headsF (l.take k).reverse = T := ⟨_, rfl⟩
      rw [hT] at hst hn1
      have hTl : T.length = k := by rw [← hT, heads_length, List.length_reverse, List.length_take, HN.out]; omega
      have HT := Lib.hid hTl
      have HST := Lib.hid hst
      have HB := Lib.hid hb
      have HN1 := Lib.hid hn1
      have HN2 := Lib.hid hn2
      have hP := pre_app2 2 H u
      have HP := Lib.hid hP
      have C1 := c1
      have HKW := Lib.hid (HK.out.then_ hb)
      have hcs : (chainS H u).size = 32 := sumS_size _
      clear hu hT hTl hst hb hn1 hn2 hP hkl c1
      go_wp2_with (first | (at_builtin; rw [HP.out]; refine wpList_front_strs rfl _ _ 22 rfl 9 i0 _ Tryd.underlying22 I1.out I2.out I3.out I4.out rfl _ rfl A' _ c' _ HT.out rfl HST.out (by omega) ?_; intro A4 c4 w4 s4 l4 m4 b4; have S4 := Lib.hid s4; have HK4 := Lib.hid (HKW.out.then_ b4); have HB4 := Lib.hid b4; have C4 := cell_then b4 C1; clear s4 b4) | (go_at_call 36; (with_reducible refine (chain_any _ _ _ ?_ sz HK4.out).mono ?_); (focus (omega)); rintro e w5 ⟨rfl, b5⟩))
      refine ⟨⟨k + 1, _, A4, c4, by rfl, by omega, rfl, HN2, hcs, by rfl, by rw [HN1.out]; exact S4.out.then_ b5, l4, m4, below_next (below_next HB.out HB4.out) b5⟩, by simp [intOf]; omega⟩
    · obtain rfl : k = N := by omega
      have g1 : ¬ (k : Int) < (k : Int) := by omega
      have e1 := HH.out
      rw [List.take_of_length_le (by rw [HN.out]; exact Nat.le_refl _)] at e1 hst
      have HE := Lib.hid e1
      clear e1 HH
      go_wp2_with fail
      go_ret2
      exact ⟨_, _, by rw [HE.out]; rfl, hst, hc', hcm', hb⟩
end Go.Proofs.YtoipckflokdakaaDoor
