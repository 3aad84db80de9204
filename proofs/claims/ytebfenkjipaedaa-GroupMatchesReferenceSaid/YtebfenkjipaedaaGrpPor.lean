/- Package group: Ports. -/
import Derived.Test.YtebfenkjipaedaaGrpKep
namespace Go.Proofs.Ytebfenkjipaedaa.Gp
/-- where a wire crosses: its code, whether inward, the device inside -/
structure Prt where
  wire : Int
  inw : Bool
  dev : Int
deriving DecidableEq
def p0 : Prt := ⟨0, false, 0⟩
end Go.Proofs.Ytebfenkjipaedaa.Gp
namespace Go.Proofs.Ytebfenkjipaedaa.Gr
open Go.RowKit Gp Go.Sort
attribute [local go_sem] Oper.semAt_some
def pcs (x : Prt) : List Value := [.int .i64 x.wire, .bool x.inw, .int .i64 x.dev]
def pv (x : Prt) : Value := .agg #[.int .i64 x.wire, .bool x.inw, .int .i64 x.dev]
theorem pcs_len (x : Prt) : (pcs x).length = 3 := rfl
structure PrtAt (w : World) (b o : Nat) (x : Prt) : Prop where
  c0 : w.cell? ⟨b, o, none⟩ = some (.int .i64 x.wire)
  c1 : w.cell? ⟨b, o + 1, none⟩ = some (.bool x.inw)
  c2 : w.cell? ⟨b, o + 2, none⟩ = some (.int .i64 x.dev)
theorem PrtAt.then_ {w w' : World} {b o : Nat} {x : Prt} (h : PrtAt w b o x) (hb : Below w.heap.size w w') : PrtAt w' b o x := ⟨cell_then hb h.c0, cell_then hb h.c1, cell_then hb h.c2⟩
def PrtsAt (w : World) (A : Option Addr) (l : List Prt) : Prop := ∀ i, i < l.length → ∃ b o, A = some ⟨b, o, none⟩ ∧ PrtAt w b (o + i * 3) (l.getD i p0)
theorem PrtsAt.then_ {w w' : World} {A : Option Addr} {l : List Prt} (h : PrtsAt w A l) (hb : Below w.heap.size w w') : PrtsAt w' A l := fun i hi => by
  obtain ⟨b, o, h1, h2⟩ := h i hi
  exact ⟨b, o, h1, h2.then_ hb⟩
theorem p_info : (Try.prog.info? 65).map (fun i => (i.zero, i.size, i.bytes)) = some (some (pv p0), 3, 24) := by kernel_rfl
theorem p_of_rec {w : World} {g n : Nat} {e : TypeId} {l : List Prt} (h : RecV w g 3 n e (fun q => pcs (l.getD q p0))) (hl : l.length ≤ n) : PrtsAt w (some ⟨g, 0, none⟩) l := fun i hi => ⟨g, 0, rfl, by
  rw [Nat.zero_add]
  exact ⟨(h.cell (show i < n by omega) (show 0 < 3 by omega) rfl).1, (h.cell (show i < n by omega) (show 1 < 3 by omega) rfl).1, (h.cell (show i < n by omega) (show 2 < 3 by omega) rfl).1⟩⟩
/-- ports of the call's own, or none -/
theorem p_own {w : World} {base n : Nat} {v : Value} {l : List Prt} (h : w.ownsRow base 65 3 v n (l.flatMap pcs)) (hl : l.length = n) : ∃ A c, v = .slice A l.length c ∧ PrtsAt w A l := by
  rcases h.2 with ⟨rfl, h0⟩ | ⟨g, cap, cur, rfl, _⟩
  · have : l = [] := List.eq_nil_of_length_eq_zero (by omega)
    subst this
    exact ⟨none, 0, rfl, fun i hi => by simp at hi⟩
  · subst hl
    exact ⟨_, _, rfl, p_of_rec (rec_of_own pcs_len h rfl) (Nat.le_refl _)⟩
def portOf (l : List Grp) (id : Int) (x : Wir) : List Prt :=
  if (insB l id x.src && !insB l id x.dst) = true then [⟨x.code, false, x.src⟩] else if (insB l id x.dst && !insB l id x.src) = true then [⟨x.code, true, x.dst⟩] else []
def portsL (l : List Grp) (id : Int) (ws : List Wir) : List Prt := ws.flatMap (portOf l id)
def portsN (l : List Grp) (id : Int) (ws : List Wir) (k : Nat) : List Prt := (ws.take k).flatMap (portOf l id)
theorem portsN_succ {l : List Grp} {id : Int} {ws : List Wir} {k : Nat} (h : k < ws.length) : portsN l id ws (k + 1) = portsN l id ws k ++ portOf l id (ws.getD k w0) := by
  unfold portsN
  rw [take_succ (d := w0) h, List.flatMap_append]
  simp
theorem portOf_len (l : List Grp) (id : Int) (x : Wir) : (portOf l id x).length ≤ 1 := by
  unfold portOf
  split
  · simp
  · split <;> simp
theorem portsN_len (l : List Grp) (id : Int) (ws : List Wir) : ∀ k, k ≤ ws.length → (portsN l id ws k).length ≤ k
  | 0, _ => by simp [portsN]
  | k + 1, h => by
    rw [portsN_succ (by omega), List.length_append]
    have := portsN_len l id ws k (by omega)
    have := portOf_len l id (ws.getD k w0)
    omega
/-- wires that the tests take -/
def WsOk (ws : List Wir) : Prop := ∀ j, j < ws.length → wW (ws.getD j w0)
set_option maxRecDepth 100000 in
set_option maxHeartbeats 4000000 in
theorem ports_yes (A : Option Addr) (c : Nat) (l : List Grp) (id : Int) (B : Option Addr) (cb : Nat) (ws : List Wir) (w : World) (hG : GrpsAt w A l) (hS : Sized l) (hv : Valid l) (hi : I64 id) (hk : (find l id).isSome = true)
    (hW : WirsAt w B ws) (hO : WsOk ws) (hL : ws.length ≤ 1000) (hr : riseB (ws.map (·.code)) = true) :
    Calls Try.prog 27 #[.slice A l.length c, .int .i64 id, .slice B ws.length cb] w fun e w' => ∃ A' c', e = .returned (.tuple #[.slice A' (portsL l id ws).length c', .int .i64 0]) ∧ PrtsAt w' A' (portsL l id ws) ∧ Below w.heap.size w w' := by
  obtain ⟨j0, hj0, e0, e1, e2⟩ := info_parts p_info
  have HIS := Lib.hid (inside_yes A c l id w hG hS hv hi hk)
  have HRI := Lib.hid (fun W (hB : Below w.heap.size w W) => w_rising B cb ws W (hW.then_ hB) hL)
  have HIA := Lib.hid (fun F b6 b3 m o code W (hc : I64 code) (h : InsAt W F l id b6 b3 m o) => is_any F l id b6 b3 m o code W hv hS hc h)
  have HW := Lib.hid hW
  have HO := Lib.hid hO
  have HR := Lib.hid hr
  have hll : (ws.length : Int) ≤ 1000 := by omega
  clear hG hS hv hi hk hW hO hr
  go_enter Try.func27, Try.ntmps27
  go_wp2_with fail
  refine HIS.out.mono ?_
  rintro e w1 ⟨b6, b3, m, o, rfl, hin, hb1⟩
  have HIN := Lib.hid hin
  have B1 := Lib.hid hb1
  clear hin hb1
  go_wp2_with fail
  refine (HRI.out _ B1.out).mono ?_
  rintro e w2 ⟨rfl, hb2⟩
  rw [HR.out]
  have HIN2 := Lib.hid (HIN.out.then_ hb2)
  have B2 := Lib.hid (below_next B1.out hb2)
  clear hb2
  go_wp2_with fail
  go_loopw [10, 30] (fun u i wr => ∃ k n : Nat, k ≤ ws.length ∧ n = (portsN l id ws k).length ∧ i = .int .i64 (k : Int) ∧ wr.ownsRow w2.heap.size 65 3 u n ((portsN l id ws k).flatMap pcs) ∧ Below w2.heap.size w2 wr) (fun _ i _ => ws.length - (intOf i).toNat)
  case atStart => exact ⟨0, 0, by omega, rfl, rfl, World.ownsRow_nil _ _ _ _, Below.refl _ _⟩
  case round =>
    obtain ⟨k, n, hk, hn, rfl, hown, hB⟩ := hrel
    have HOW := Lib.hid hown
    have HB := Lib.hid hB
    have HNN := Lib.hid hn
    have hnl := portsN_len l id ws k hk
    rw [← hn] at hnl
    clear hown hB hn
    by_cases hlt : k < ws.length
    · have hkl : (k : Int) < (ws.length : Int) := by omega
      have hk0 : (0 : Int) ≤ (k : Int) := by omega
      obtain ⟨bw, ow, rfl, hx⟩ := (HW.out.then_ (below_next B2.out HB.out)) k hlt
      have hxo := HO.out k hlt
      have HSU := Lib.hid (portsN_succ (l := l) (id := id) hlt)
      obtain ⟨x, hxe⟩ : ∃ x, ws.getD k w0 = x := ⟨_, rfl⟩
      rw [hxe] at hx hxo HSU
      have y0 := hx.c0
      have y1 := hx.c1
      have y2 := hx.c2
      have y3 := hx.c3
      have y4 := hx.c4
      have y5 := hx.c5
      have HXO := Lib.hid hxo
      clear hx hxe hxo
      go_wp2_with fail
      -- region 8
      obtain ⟨W3, hW3⟩ : ∃ W3, wr.alloc (.cells #[.int .i64 x.code, .int .i64 x.src, .int .i64 x.out, .int .i64 x.dst, .int .i64 x.inp, .int .i64 x.delay] 63) = W3 := ⟨_, rfl⟩
      have hb3 : Below wr.heap.size wr W3 := by rw [← hW3]; exact below_alloc (Below.refl _ _) _
      have z0 : W3.cell? ⟨wr.heap.size, 0, none⟩ = some (.int .i64 x.code) := by rw [← hW3]; exact new_cell rfl
      have z1 : W3.cell? ⟨wr.heap.size, 1, none⟩ = some (.int .i64 x.src) := by rw [← hW3]; exact new_cell rfl
      have z3 : W3.cell? ⟨wr.heap.size, 3, none⟩ = some (.int .i64 x.dst) := by rw [← hW3]; exact new_cell rfl
      have B3 := Lib.hid (below_next HB.out hb3)
      have HIN3 := Lib.hid (HIN2.out.then_ B3.out)
      have HOW3 := Lib.hid (own_then HOW.out hb3)
      rw [hW3]
      clear hW3 hb3 y0 y1 y2 y3 y4 y5
      have g_1 := fun D os => cell_regrown z1 D os
      have g_3 := fun D os => cell_regrown z3 D os
      have C1 := Lib.hid (fun d os => HIA.out _ b6 b3 (.map m) (.map o) x.src (Sort.grow (redrawn W3 d) os) HXO.out.1 (HIN3.out.then_ (below_regrown _ _ _)))
      have C3 := Lib.hid (fun d os => HIA.out _ b6 b3 (.map m) (.map o) x.dst (Sort.grow (redrawn W3 d) os) HXO.out.2 (HIN3.out.then_ (below_regrown _ _ _)))
      refine wp_region_quiet_below (by kernel_rfl) (by kernel_rfl) ?_
      repeat (go_big_quiet_step (first | (with_reducible exact Calls.regrown_of (C1.out _ _)) | (with_reducible exact Calls.regrown_of (C3.out _ _))))
      refine wpQuiet_nil ?_
      intro wq hq0
      have hq := below_of_class hq0
      clear hq0
      clear g_1 g_3
      have z0 := cell_then hq z0
      have z1 := cell_then hq z1
      have z3 := cell_then hq z3
      have HBq := Lib.hid (below_next B3.out hq)
      have HOWq := Lib.hid (own_then HOW3.out hq)
      have hbs := HBq.out.size
      obtain ⟨fr, hfr⟩ : ∃ fr, insB l id x.src = fr := ⟨_, rfl⟩
      obtain ⟨tt, hto⟩ : ∃ tt, insB l id x.dst = tt := ⟨_, rfl⟩
      rw [hfr, hto]
      have HF := Lib.hid hfr
      have HT := Lib.hid hto
      clear hfr hto hq
      cases fr with
      | false =>
        cases tt with
        | false =>
          have Z := Lib.hid (show portOf l id x = [] by unfold portOf; rw [HF.out, HT.out]; rfl)
          go_wp2_with fail
          refine ⟨⟨k + 1, n, by omega, ?_, by go_num, ?_, HBq.out⟩, ?_⟩
          · rw [HSU.out, Z.out, List.append_nil]; exact HNN.out
          · rw [HSU.out, Z.out, List.append_nil]; exact HOWq.out
          · simp [intOf]; omega
        | true =>
          have Z := Lib.hid (show portOf l id x = [⟨x.code, true, x.dst⟩] by unfold portOf; rw [HF.out, HT.out]; rfl)
          go_wp2_with (at_builtin; refine wpList_append1 rfl _ _ 50 rfl w2.heap.size 65 j0 _ 3 24 Try.underlying50 hj0 e0 e1 e2 rfl (by omega) (by omega) u10 n _ rfl HOWq.out #[.int .i64 x.code, .bool true, .int .i64 x.dst] rfl rfl (by simp [Value.oneCell']) (by omega) hbs ?_; intro g' c' w4 own' k' n'; have OW := Lib.hid own'; have KW := Lib.hid k'; clear own' k' n')
          refine ⟨⟨k + 1, n + 1, by omega, ?_, by go_num, ?_, ?_⟩, ?_⟩
          · rw [HSU.out, Z.out, List.length_append, ← HNN.out]; rfl
          · rw [HSU.out, Z.out, List.flatMap_append]; exact OW.out
          · exact KW.out.below_next HBq.out hbs (fun q hq => (HOWq.out.lt q (own_mem hq)).1)
          · simp [intOf]; omega
      | true =>
        cases tt with
        | false =>
          have Z := Lib.hid (show portOf l id x = [⟨x.code, false, x.src⟩] by unfold portOf; rw [HF.out, HT.out]; rfl)
          go_wp2_with (at_builtin; refine wpList_append1 rfl _ _ 50 rfl w2.heap.size 65 j0 _ 3 24 Try.underlying50 hj0 e0 e1 e2 rfl (by omega) (by omega) u10 n _ rfl HOWq.out #[.int .i64 x.code, .bool false, .int .i64 x.src] rfl rfl (by simp [Value.oneCell']) (by omega) hbs ?_; intro g' c' w4 own' k' n'; have OW := Lib.hid own'; have KW := Lib.hid k'; clear own' k' n')
          refine ⟨⟨k + 1, n + 1, by omega, ?_, by go_num, ?_, ?_⟩, ?_⟩
          · rw [HSU.out, Z.out, List.length_append, ← HNN.out]; rfl
          · rw [HSU.out, Z.out, List.flatMap_append]; exact OW.out
          · exact KW.out.below_next HBq.out hbs (fun q hq => (HOWq.out.lt q (own_mem hq)).1)
          · simp [intOf]; omega
        | true =>
          have Z := Lib.hid (show portOf l id x = [] by unfold portOf; rw [HF.out, HT.out]; rfl)
          go_wp2_with fail
          refine ⟨⟨k + 1, n, by omega, ?_, by go_num, ?_, HBq.out⟩, ?_⟩
          · rw [HSU.out, Z.out, List.append_nil]; exact HNN.out
          · rw [HSU.out, Z.out, List.append_nil]; exact HOWq.out
          · simp [intOf]; omega
    · obtain rfl : k = ws.length := by omega
      have hall : portsN l id ws ws.length = portsL l id ws := by unfold portsN portsL; rw [List.take_length]
      rw [hall] at HOW HNN
      obtain ⟨Ap, cp, rfl, hp⟩ := p_own HOW.out HNN.out.symm
      have HP := Lib.hid hp
      clear hp hlt
      go_wp2_with fail
      (first | refine bodyPost_ret (results_tmp2 rfl _ _ _) rfl ?_ | refine bodyPost_end (results_tmp2 rfl _ _ _) rfl ?_)
      exact ⟨Ap, cp, rfl, HP.out, below_next B2.out HB.out⟩
set_option maxRecDepth 100000 in
set_option maxHeartbeats 4000000 in
theorem ports_bad (A : Option Addr) (c : Nat) (l : List Grp) (id : Int) (v : Value) (w : World) (hG : GrpsAt w A l) (hS : Sized l) (hi : I64 id) (hv : ¬ (Valid l ∧ (find l id).isSome = true)) :
    Calls Try.prog 27 #[.slice A l.length c, .int .i64 id, v] w fun e w' => e = .returned (.tuple #[.slice none 0 0, .int .i64 130]) ∧ Below w.heap.size w w' := by
  have HI := Lib.hid (inside_no A c l id w hG hS hi hv)
  clear hG hS hv hi
  go_enter Try.func27, Try.ntmps27
  go_wp2_with fail
  refine HI.out.mono ?_
  rintro e w1 ⟨rfl, hb1⟩
  have B1 := Lib.hid hb1
  clear hb1
  go_wp2_with fail
  (first | refine bodyPost_ret (results_tmp2 rfl _ _ _) rfl ?_ | refine bodyPost_end (results_tmp2 rfl _ _ _) rfl ?_)
  exact ⟨rfl, B1.out⟩
set_option maxRecDepth 100000 in
set_option maxHeartbeats 4000000 in
theorem ports_flat (A : Option Addr) (c : Nat) (l : List Grp) (id : Int) (B : Option Addr) (cb : Nat) (ws : List Wir) (w : World) (hG : GrpsAt w A l) (hS : Sized l) (hv : Valid l) (hi : I64 id) (hk : (find l id).isSome = true)
    (hW : WirsAt w B ws) (hL : ws.length ≤ 1000) (hr : riseB (ws.map (·.code)) = false) :
    Calls Try.prog 27 #[.slice A l.length c, .int .i64 id, .slice B ws.length cb] w fun e w' => e = .returned (.tuple #[.slice none 0 0, .int .i64 130]) ∧ Below w.heap.size w w' := by
  have HIS := Lib.hid (inside_yes A c l id w hG hS hv hi hk)
  have HRI := Lib.hid (fun W (hB : Below w.heap.size w W) => w_rising B cb ws W (hW.then_ hB) hL)
  have HR := Lib.hid hr
  clear hG hS hv hi hk hW hr
  go_enter Try.func27, Try.ntmps27
  go_wp2_with fail
  refine HIS.out.mono ?_
  rintro e w1 ⟨b6, b3, m, o, rfl, _, hb1⟩
  have B1 := Lib.hid hb1
  clear hb1
  go_wp2_with fail
  refine (HRI.out _ B1.out).mono ?_
  rintro e w2 ⟨rfl, hb2⟩
  rw [HR.out]
  have B2 := Lib.hid (below_next B1.out hb2)
  clear hb2
  go_wp2_with fail
  (first | refine bodyPost_ret (results_tmp2 rfl _ _ _) rfl ?_ | refine bodyPost_end (results_tmp2 rfl _ _ _) rfl ?_)
  exact ⟨rfl, B2.out⟩
theorem ports_no (A : Option Addr) (c : Nat) (l : List Grp) (id : Int) (B : Option Addr) (cb : Nat) (ws : List Wir) (w : World) (hG : GrpsAt w A l) (hS : Sized l) (hi : I64 id) (hW : WirsAt w B ws) (hL : ws.length ≤ 1000)
    (hv : ¬ ((Valid l ∧ (find l id).isSome = true) ∧ riseB (ws.map (·.code)) = true)) :
    Calls Try.prog 27 #[.slice A l.length c, .int .i64 id, .slice B ws.length cb] w fun e w' => e = .returned (.tuple #[.slice none 0 0, .int .i64 130]) ∧ Below w.heap.size w w' := by
  by_cases h : Valid l ∧ (find l id).isSome = true
  · exact ports_flat A c l id B cb ws w hG hS h.1 hi h.2 hW hL (by cases hr : riseB (ws.map (·.code)) with | false => rfl | true => exact absurd ⟨h, hr⟩ hv)
  · exact ports_bad A c l id _ w hG hS hi h
end Go.Proofs.Ytebfenkjipaedaa.Gr
