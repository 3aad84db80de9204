/- The reference's wired and Ports. -/
import Derived.Test.YtebfenkjipaedaaGrpRefB
import Derived.Test.YtebfenkjipaedaaGrpPor
import Derived.Test.YtebfenkjipaedaaGrpForL
namespace Go.Proofs.Ytebfenkjipaedaa.Gr
open Go.RowKit Gp Go.Sort
attribute [local go_sem] Oper.semAt_some
set_option maxRecDepth 100000 in
set_option maxHeartbeats 4000000 in
theorem rwired_any (B : Option Addr) (cb : Nat) (ws : List Wir) (w : World) (hW : WirsAt w B ws) (hL : ws.length ≤ 1000) :
    Calls Try.prog 46 #[.slice B ws.length cb] w fun e w' => e = .returned (.bool (riseB (ws.map (·.code)))) ∧ Below w.heap.size w w' := by
  have HW := Lib.hid hW
  have hlI : (ws.length : Int) ≤ 1000 := by omega
  clear hW
  go_enter Try.func46, Try.ntmps46
  go_wp2_with fail
  go_loopw [3] (fun i wr => ∃ k : Nat, k ≤ ws.length ∧ i = .int .i64 ((k : Int) + 1) ∧ (∀ j, j + 1 < k + 1 → j + 1 < ws.length → (ws.getD j w0).code < (ws.getD (j + 1) w0).code) ∧ Below w.heap.size w wr) (fun i _ => ws.length + 1 - (intOf i).toNat)
  case atStart => exact ⟨0, by omega, rfl, fun j hj => by omega, Below.refl _ _⟩
  case round =>
    obtain ⟨k, hk, rfl, hr, hB⟩ := hrel
    have HR := Lib.hid hr
    have HB := Lib.hid hB
    clear hr hB
    by_cases hkl : k + 1 < ws.length
    · have hkI : (k : Int) + 1 < (ws.length : Int) := by omega
      have hk0 : (0 : Int) ≤ (k : Int) := by omega
      have hk1 : (0 : Int) ≤ (k : Int) + 1 := by omega
      have hkJ : (k : Int) < (ws.length : Int) := by omega
      obtain ⟨b1, o1, hA1, hx⟩ := (HW.out.then_ HB.out) (k + 1) hkl
      obtain ⟨b2, o2, hA2, hy⟩ := (HW.out.then_ HB.out) k (by omega)
      subst hA1
      injection hA2 with hA2
      injection hA2 with hA2 hA3
      subst hA2 hA3
      have c0 := hx.c0
      have e0 := hy.c0
      have hno := Lib.hid (fun h : (ws.getD (k + 1) w0).code ≤ (ws.getD k w0).code => riseB_no (cs := ws.map (·.code)) (i := k) (by rw [List.length_map]; exact hkl) (by rw [getD_map (d := w0) hkl, getD_map (d := w0) (by omega)]; exact h))
      have hyes := Lib.hid (fun h : (ws.getD k w0).code < (ws.getD (k + 1) w0).code => (show ∀ j, j + 1 < k + 1 + 1 → j + 1 < ws.length → (ws.getD j w0).code < (ws.getD (j + 1) w0).code from fun j hj hj2 => by
        rcases Nat.lt_or_ge j k with h1 | h1
        · exact HR.out j (by omega) hj2
        · obtain rfl : j = k := by omega
          exact h))
      obtain ⟨u, hu⟩ : ∃ u, (ws.getD (k + 1) w0).code = u := ⟨_, rfl⟩
      obtain ⟨v, hv⟩ : ∃ v, (ws.getD k w0).code = v := ⟨_, rfl⟩
      rw [hu] at c0 hno hyes
      rw [hv] at e0 hno hyes
      have hw1 : IntKind.i64.wrap ((k : Int) + 1 - 1) = (k : Int) := by rw [Int.add_sub_cancel]; exact IntWalk.i64_in _ (by omega)
      have g_0 := fun D os => cell_regrown c0 D os
      have g_1 := fun D os => cell_regrown e0 D os
      clear hx hy hu hv
      by_cases hle : u ≤ v
      · have hdec : decide (u ≤ v) = true := decide_eq_true hle
        have HNO := Lib.hid (hno.out hle)
        clear hle hno hyes c0 e0
        go_wp2_with fail
        refine wp_region_quiet_below (by kernel_rfl) (by kernel_rfl) ?_
        repeat (go_big_quiet_step (fail))
        refine wpQuiet_nil ?_
        intro wq hq0
        have hq := below_of_class hq0
        clear hq0
        have HB2 := Lib.hid (below_next HB.out hq)
        clear g_0 g_1 hq
        go_wp2_with fail
        go_ret
        exact ⟨ret_bool HNO.out.symm, HB2.out⟩
      · have hdec : decide (u ≤ v) = false := decide_eq_false hle
        have HYE := Lib.hid (hyes.out (by omega))
        clear hle hno hyes c0 e0
        go_wp2_with fail
        refine wp_region_quiet_below (by kernel_rfl) (by kernel_rfl) ?_
        repeat (go_big_quiet_step (fail))
        refine wpQuiet_nil ?_
        intro wq hq0
        have hq := below_of_class hq0
        clear hq0
        have HB2 := Lib.hid (below_next HB.out hq)
        clear g_0 g_1 hq
        go_wp2_with fail
        exact ⟨⟨k + 1, by omega, by go_num, HYE.out, HB2.out⟩, by simp [intOf]; omega⟩
    · have hkI : ¬ (k : Int) + 1 < (ws.length : Int) := by omega
      have HRI := Lib.hid (show riseB (ws.map (·.code)) = true from riseB_iff.2 (fun j hj => by
        rw [List.length_map] at hj
        rw [getD_map (d := w0) (by omega), getD_map (d := w0) hj]
        exact HR.out j (by omega) hj))
      go_wp2_with fail
      go_ret
      exact ⟨ret_bool HRI.out.symm, HB.out⟩
set_option maxRecDepth 100000 in
set_option maxHeartbeats 4000000 in
theorem rports_yes (A : Option Addr) (c : Nat) (l : List Grp) (id : Int) (B : Option Addr) (cb : Nat) (ws : List Wir) (w : World) (hG : GrpsAt w A l) (hS : Sized l) (hv : Valid l) (hk : (find l id).isSome = true)
    (hW : WirsAt w B ws) (hL : ws.length ≤ 1000) (hr : riseB (ws.map (·.code)) = true) :
    Calls Try.prog 28 #[.slice A l.length c, .int .i64 id, .slice B ws.length cb] w fun e w' => ∃ A' c', e = .returned (.tuple #[.slice A' (portsL l id ws).length c', .int .i64 0]) ∧ PrtsAt w' A' (portsL l id ws) ∧ Below w.heap.size w w' := by
  obtain ⟨j0, hj0, e0, e1, e2⟩ := info_parts p_info
  have HBE := Lib.hid (rbelow_yes A c l id w hG hS hv hk)
  have HRI := Lib.hid (fun W (hB : Below w.heap.size w W) => rwired_any B cb ws W (hW.then_ hB) hL)
  have HIN := Lib.hid (fun c => below_ins hv id c)
  have HW := Lib.hid hW
  have HR := Lib.hid hr
  have hll : (ws.length : Int) ≤ 1000 := by omega
  have hbll := below_len hS hv id
  clear hG hS hv hk hW hr
  go_enter Try.func28, Try.ntmps28
  go_wp2_with fail
  refine HBE.out.mono ?_
  rintro e w1 ⟨_, rfl, ⟨Ai, ci, rfl, _, hii, _⟩, hb1⟩
  have B1 := Lib.hid hb1
  have II := Lib.hid hii
  clear hii hb1 HBE
  go_wp2_with fail
  refine (HRI.out _ B1.out).mono ?_
  rintro e w2 ⟨rfl, hb2⟩
  rw [HR.out]
  have II := Lib.hid (II.out.then_ hb2)
  have B2 := Lib.hid (below_next B1.out hb2)
  clear hb2 HRI B1
  obtain ⟨bl, hbl⟩ : ∃ bl, below l id = bl := ⟨_, rfl⟩
  rw [hbl] at II HIN hbll ⊢
  clear hbl
  go_wp2_with fail
  go_loopw [10, 11, 12, 13, 14] (fun u i _ _ _ wr => ∃ k n : Nat, k ≤ ws.length ∧ n = (portsN l id ws k).length ∧ i = .int .i64 (k : Int) ∧ wr.ownsRow w2.heap.size 65 3 u n ((portsN l id ws k).flatMap pcs) ∧ Below w2.heap.size w2 wr) (fun _ i _ _ _ _ => ws.length - (intOf i).toNat)
  case atStart => exact ⟨0, 0, by omega, rfl, rfl, World.ownsRow_nil _ _ _ _, Below.refl _ _⟩
  case round =>
    obtain ⟨k, n, hk, hn, rfl, hown, hB⟩ := hrel
    have HOW := Lib.hid hown
    have HB := Lib.hid hB
    have HNN := Lib.hid hn
    have hnl := portsN_len l id ws k hk
    rw [← hn] at hnl
    clear hown hB hn
    by_cases hlt : k < ws.length
    · have hkl : (k : Int) < (ws.length : Int) := by omega
      have hk0 : (0 : Int) ≤ (k : Int) := by omega
      obtain ⟨bw, ow, rfl, hx⟩ := (HW.out.then_ (below_next B2.out HB.out)) k hlt
      have HSU := Lib.hid (portsN_succ (l := l) (id := id) hlt)
      obtain ⟨x, hxe⟩ : ∃ x, ws.getD k w0 = x := ⟨_, rfl⟩
      rw [hxe] at hx HSU
      have y0 := hx.c0
      have y1 := hx.c1
      have y2 := hx.c2
      have y3 := hx.c3
      have y4 := hx.c4
      have y5 := hx.c5
      clear hx hxe
      go_upto_region 9 with fail
      obtain ⟨W3, hW3⟩ : ∃ W3, wr.alloc (.cells #[.int .i64 x.code, .int .i64 x.src, .int .i64 x.out, .int .i64 x.dst, .int .i64 x.inp, .int .i64 x.delay] 63) = W3 := ⟨_, rfl⟩
      have hb3 : Below wr.heap.size wr W3 := by rw [← hW3]; exact below_alloc (Below.refl _ _) _
      have z0 : W3.cell? ⟨wr.heap.size, 0, none⟩ = some (.int .i64 x.code) := by rw [← hW3]; exact new_cell rfl
      have z1 : W3.cell? ⟨wr.heap.size, 1, none⟩ = some (.int .i64 x.src) := by rw [← hW3]; exact new_cell rfl
      have z3 : W3.cell? ⟨wr.heap.size, 3, none⟩ = some (.int .i64 x.dst) := by rw [← hW3]; exact new_cell rfl
      have B3 := Lib.hid (below_next HB.out hb3)
      have HOW3 := Lib.hid (own_then HOW.out hb3)
      have HH1 := Lib.hid (has_any Ai ci bl x.src W3 hbll ((II.out.then_ HB.out).then_ hb3))
      have HH2 := Lib.hid (has_any Ai ci bl x.dst W3 hbll ((II.out.then_ HB.out).then_ hb3))
      rw [HIN.out] at HH1 HH2
      rw [hW3]
      obtain ⟨h3, hh3⟩ : ∃ h3, wr.heap.size = h3 := ⟨_, rfl⟩
      rw [hh3] at z0 z1 z3 ⊢
      clear hW3 hh3 hb3 y0 y1 y2 y3 y4 y5
      obtain ⟨fr, hfr⟩ : ∃ fr, insB l id x.src = fr := ⟨_, rfl⟩
      obtain ⟨tt, hto⟩ : ∃ tt, insB l id x.dst = tt := ⟨_, rfl⟩
      rw [hfr] at HH1
      rw [hto] at HH2
      have HF := Lib.hid hfr
      have HT := Lib.hid hto
      have hbs := B3.out.size
      obtain ⟨Au, cu, rfl, hcu⟩ := own_slice HOW3.out
      clear hfr hto
      go_wp2_with fail
      refine HH1.out.mono ?_
      rintro e w4 ⟨rfl, rfl⟩
      go_wp2_with fail
      refine HH2.out.mono ?_
      rintro e w4 ⟨rfl, rfl⟩
      clear HH1 HH2
      cases fr with
      | false =>
        cases tt with
        | false =>
          have Z := Lib.hid (show portOf l id x = [] by unfold portOf; rw [HF.out, HT.out]; rfl)
          go_wp2_with fail
          refine ⟨⟨k + 1, n, by omega, ?_, by go_num, ?_, B3.out⟩, ?_⟩
          · rw [HSU.out, Z.out, List.append_nil]; exact HNN.out
          · rw [HSU.out, Z.out, List.append_nil]; exact HOW3.out
          · simp [intOf]; omega
        | true =>
          have Z := Lib.hid (show portOf l id x = [⟨x.code, true, x.dst⟩] by unfold portOf; rw [HF.out, HT.out]; rfl)
          go_wp2_with (at_builtin; refine wpList_append1 rfl _ _ 50 rfl w2.heap.size 65 j0 _ 3 24 Try.underlying50 hj0 e0 e1 e2 rfl (by omega) (by omega) (.slice Au n cu) n _ rfl HOW3.out #[.int .i64 x.code, .bool true, .int .i64 x.dst] rfl rfl (by simp [Value.oneCell']) (by omega) hbs ?_; intro g' c' w4 own' k' n'; have OW := Lib.hid own'; have KW := Lib.hid k'; clear own' k' n')
          refine ⟨⟨k + 1, n + 1, by omega, ?_, by go_num, ?_, ?_⟩, ?_⟩
          · rw [HSU.out, Z.out, List.length_append, ← HNN.out]; rfl
          · rw [HSU.out, Z.out, List.flatMap_append]; exact OW.out
          · exact KW.out.below_next B3.out hbs (fun q hq => (HOW3.out.lt q (own_mem hq)).1)
          · simp [intOf]; omega
      | true =>
        cases tt with
        | false =>
          have Z := Lib.hid (show portOf l id x = [⟨x.code, false, x.src⟩] by unfold portOf; rw [HF.out, HT.out]; rfl)
          go_wp2_with (at_builtin; refine wpList_append1 rfl _ _ 50 rfl w2.heap.size 65 j0 _ 3 24 Try.underlying50 hj0 e0 e1 e2 rfl (by omega) (by omega) (.slice Au n cu) n _ rfl HOW3.out #[.int .i64 x.code, .bool false, .int .i64 x.src] rfl rfl (by simp [Value.oneCell']) (by omega) hbs ?_; intro g' c' w4 own' k' n'; have OW := Lib.hid own'; have KW := Lib.hid k'; clear own' k' n')
          refine ⟨⟨k + 1, n + 1, by omega, ?_, by go_num, ?_, ?_⟩, ?_⟩
          · rw [HSU.out, Z.out, List.length_append, ← HNN.out]; rfl
          · rw [HSU.out, Z.out, List.flatMap_append]; exact OW.out
          · exact KW.out.below_next B3.out hbs (fun q hq => (HOW3.out.lt q (own_mem hq)).1)
          · simp [intOf]; omega
        | true =>
          have Z := Lib.hid (show portOf l id x = [] by unfold portOf; rw [HF.out, HT.out]; rfl)
          go_wp2_with fail
          refine ⟨⟨k + 1, n, by omega, ?_, by go_num, ?_, B3.out⟩, ?_⟩
          · rw [HSU.out, Z.out, List.append_nil]; exact HNN.out
          · rw [HSU.out, Z.out, List.append_nil]; exact HOW3.out
          · simp [intOf]; omega
    · obtain rfl : k = ws.length := by omega
      have hkl : ¬ (ws.length : Int) < (ws.length : Int) := by omega
      have hall : portsN l id ws ws.length = portsL l id ws := by unfold portsN portsL; rw [List.take_length]
      rw [hall] at HOW HNN
      obtain ⟨Ap, cp, rfl, hp⟩ := p_own HOW.out HNN.out.symm
      have HP := Lib.hid hp
      clear hp hlt
      go_wp2_with fail
      (first | refine bodyPost_ret (results_tmp2 rfl _ _ _) rfl ?_ | refine bodyPost_end (results_tmp2 rfl _ _ _) rfl ?_)
      exact ⟨Ap, ⟨cp, rfl⟩, HP.out, below_next B2.out HB.out⟩
set_option maxRecDepth 100000 in
set_option maxHeartbeats 4000000 in
theorem rports_no (A : Option Addr) (c : Nat) (l : List Grp) (id : Int) (B : Option Addr) (cb : Nat) (ws : List Wir) (w : World) (hG : GrpsAt w A l) (hS : Sized l) (hW : WirsAt w B ws) (hL : ws.length ≤ 1000)
    (hv : ¬ ((Valid l ∧ (find l id).isSome = true) ∧ riseB (ws.map (·.code)) = true)) :
    Calls Try.prog 28 #[.slice A l.length c, .int .i64 id, .slice B ws.length cb] w fun e w' => e = .returned (.tuple #[.slice none 0 0, .int .i64 130]) ∧ Below w.heap.size w w' := by
  by_cases h : Valid l ∧ (find l id).isSome = true
  · have hr : riseB (ws.map (·.code)) = false := by
      cases hr : riseB (ws.map (·.code)) with
      | false => rfl
      | true => exact absurd ⟨h, hr⟩ hv
    have HBE := Lib.hid (rbelow_yes A c l id w hG hS h.1 h.2)
    have HRI := Lib.hid (fun W (hB : Below w.heap.size w W) => rwired_any B cb ws W (hW.then_ hB) hL)
    rw [hr] at HRI
    clear hG hS hv h hW hr
    go_enter Try.func28, Try.ntmps28
    go_wp2_with fail
    refine HBE.out.mono ?_
    rintro e w1 ⟨_, rfl, ⟨Ai, ci, rfl, _, _, _⟩, hb1⟩
    have B1 := Lib.hid hb1
    clear hb1 HBE
    go_wp2_with fail
    refine (HRI.out _ B1.out).mono ?_
    rintro e w2 ⟨rfl, hb2⟩
    have B2 := Lib.hid (below_next B1.out hb2)
    clear hb2 HRI B1
    go_wp2_with fail
    (first | refine bodyPost_ret (results_tmp2 rfl _ _ _) rfl ?_ | refine bodyPost_end (results_tmp2 rfl _ _ _) rfl ?_)
    exact ⟨rfl, B2.out⟩
  · have HBE := Lib.hid (rbelow_no A c l id w hG hS h)
    clear hG hS hv h hW
    go_enter Try.func28, Try.ntmps28
    go_wp2_with fail
    refine HBE.out.mono ?_
    rintro e w1 ⟨rfl, hb1⟩
    have B1 := Lib.hid hb1
    clear hb1 HBE
    go_wp2_with fail
    (first | refine bodyPost_ret (results_tmp2 rfl _ _ _) rfl ?_ | refine bodyPost_end (results_tmp2 rfl _ _ _) rfl ?_)
    exact ⟨rfl, B1.out⟩
end Go.Proofs.Ytebfenkjipaedaa.Gr
