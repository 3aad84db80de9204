/- Equal groups, ports, nets (the reference's tests). -/
import Derived.Test.YtebfenkjipaedaaGrpRef1
import Derived.Test.YtebfenkjipaedaaGrpCol2
import Derived.Laws.StructEq
namespace Go.Proofs.Ytebfenkjipaedaa.Gr
open Go.RowKit Gp Go.Sort
attribute [local go_sem] Oper.semAt_some
theorem eqF_port (w : World) (x0 y0 : Int) (x1 y1 : Bool) (x2 y2 : Int) : (Op.equalIn 10000 65 (.agg #[.int .i64 x0, .bool x1, .int .i64 x2]) (.agg #[.int .i64 y0, .bool y1, .int .i64 y2])).run Try.prog w = .ok (decide (x0 = y0 ∧ x1 = y1 ∧ x2 = y2)) w := by
  have u3 := Try.underlying3
  have hS : Try.prog.underlying 65 = some (.struct (Try.prog.fieldsOf 65)) := by kernel_rfl
  have hp : Try.prog.stoodInHeld 65 = false := by kernel_rfl
  have ia := Try.isAgg3
  have iz := Try.sizeOf3
  have u4 := Try.underlying4
  have ia4 := Try.isAgg4
  have iz4 := Try.sizeOf4
  rw [show (10000 : Nat) = 9999 + 1 from rfl, run_equalIn_agg w 9999 65 _ _ hS hp]
  simp only [Program.fieldsOf, Try.underlying65]
  go_simp
  by_cases h0 : x0 = y0 <;> cases x1 <;> cases y1 <;> by_cases h2 : x2 = y2 <;> simp [h0, h2]
theorem neq_port (w : World) (x0 y0 : Int) (x1 y1 : Bool) (x2 y2 : Int) : (binOp .neq 65 (.agg #[.int .i64 x0, .bool x1, .int .i64 x2]) (.agg #[.int .i64 y0, .bool y1, .int .i64 y2])).run Try.prog w = .ok (.bool (!decide (x0 = y0 ∧ x1 = y1 ∧ x2 = y2))) w := by
  rw [run_neq_struct, eqF_port]; rfl
theorem eql_port (w : World) (x0 y0 : Int) (x1 y1 : Bool) (x2 y2 : Int) : (binOp .eql 65 (.agg #[.int .i64 x0, .bool x1, .int .i64 x2]) (.agg #[.int .i64 y0, .bool y1, .int .i64 y2])).run Try.prog w = .ok (.bool (decide (x0 = y0 ∧ x1 = y1 ∧ x2 = y2))) w := by
  rw [run_eql_struct, eqF_port]; rfl
theorem eqF_wire (w : World) (x0 y0 : Int) (x1 y1 : Int) (x2 y2 : Int) (x3 y3 : Int) (x4 y4 : Int) (x5 y5 : Int) : (Op.equalIn 10000 63 (.agg #[.int .i64 x0, .int .i64 x1, .int .i64 x2, .int .i64 x3, .int .i64 x4, .int .i64 x5]) (.agg #[.int .i64 y0, .int .i64 y1, .int .i64 y2, .int .i64 y3, .int .i64 y4, .int .i64 y5])).run Try.prog w = .ok (decide (x0 = y0 ∧ x1 = y1 ∧ x2 = y2 ∧ x3 = y3 ∧ x4 = y4 ∧ x5 = y5)) w := by
  have u3 := Try.underlying3
  have hS : Try.prog.underlying 63 = some (.struct (Try.prog.fieldsOf 63)) := by kernel_rfl
  have hp : Try.prog.stoodInHeld 63 = false := by kernel_rfl
  have ia := Try.isAgg3
  have iz := Try.sizeOf3
  rw [show (10000 : Nat) = 9999 + 1 from rfl, run_equalIn_agg w 9999 63 _ _ hS hp]
  simp only [Program.fieldsOf, Try.underlying63]
  go_simp
  by_cases h0 : x0 = y0 <;> by_cases h1 : x1 = y1 <;> by_cases h2 : x2 = y2 <;> by_cases h3 : x3 = y3 <;> by_cases h4 : x4 = y4 <;> by_cases h5 : x5 = y5 <;> simp [h0, h1, h2, h3, h4, h5]
theorem neq_wire (w : World) (x0 y0 : Int) (x1 y1 : Int) (x2 y2 : Int) (x3 y3 : Int) (x4 y4 : Int) (x5 y5 : Int) : (binOp .neq 63 (.agg #[.int .i64 x0, .int .i64 x1, .int .i64 x2, .int .i64 x3, .int .i64 x4, .int .i64 x5]) (.agg #[.int .i64 y0, .int .i64 y1, .int .i64 y2, .int .i64 y3, .int .i64 y4, .int .i64 y5])).run Try.prog w = .ok (.bool (!decide (x0 = y0 ∧ x1 = y1 ∧ x2 = y2 ∧ x3 = y3 ∧ x4 = y4 ∧ x5 = y5))) w := by
  rw [run_neq_struct, eqF_wire]; rfl
theorem eql_wire (w : World) (x0 y0 : Int) (x1 y1 : Int) (x2 y2 : Int) (x3 y3 : Int) (x4 y4 : Int) (x5 y5 : Int) : (binOp .eql 63 (.agg #[.int .i64 x0, .int .i64 x1, .int .i64 x2, .int .i64 x3, .int .i64 x4, .int .i64 x5]) (.agg #[.int .i64 y0, .int .i64 y1, .int .i64 y2, .int .i64 y3, .int .i64 y4, .int .i64 y5])).run Try.prog w = .ok (.bool (decide (x0 = y0 ∧ x1 = y1 ∧ x2 = y2 ∧ x3 = y3 ∧ x4 = y4 ∧ x5 = y5))) w := by
  rw [run_eql_struct, eqF_wire]; rfl
theorem eqF_dev (w : World) (a b c : Int) (t : ByteArray) : (Op.equalIn 10000 29 (.agg #[.int .i64 a, .int .i64 b, .string t, .int .i64 c]) (.agg #[.int .i64 a, .int .i64 b, .string t, .int .i64 c])).run Try.prog w = .ok true w := by
  have u3 := Try.underlying3
  have hS : Try.prog.underlying 29 = some (.struct (Try.prog.fieldsOf 29)) := by kernel_rfl
  have hp : Try.prog.stoodInHeld 29 = false := by kernel_rfl
  have ia := Try.isAgg3
  have iz := Try.sizeOf3
  have u4 := Try.underlying9
  have ia4 := Try.isAgg9
  have iz4 := Try.sizeOf9
  rw [show (10000 : Nat) = 9999 + 1 from rfl, run_equalIn_agg w 9999 29 _ _ hS hp]
  simp only [Program.fieldsOf, Try.underlying29]
  go_simp
theorem neq_dev (w : World) (a b c : Int) (t : ByteArray) : (binOp .neq 29 (.agg #[.int .i64 a, .int .i64 b, .string t, .int .i64 c]) (.agg #[.int .i64 a, .int .i64 b, .string t, .int .i64 c])).run Try.prog w = .ok (.bool false) w := by
  rw [run_neq_struct, eqF_dev]; rfl
set_option maxRecDepth 100000 in
set_option maxHeartbeats 4000000 in
theorem sameports_yes (A B : Option Addr) (ca cb : Nat) (L : List Prt) (w : World) (hA : PrtsAt w A L) (hB : PrtsAt w B L) (hn : L.length ≤ 100000) :
    Calls Try.prog 31 #[.slice A L.length ca, .slice B L.length cb] w fun e w' => e = .returned (.bool true) ∧ Below w.heap.size w w' := by
  have hln : (L.length : Int) ≤ 100000 := by omega
  have hne : ((L.length : Int) != (L.length : Int)) = false := by simp
  have HA := Lib.hid hA
  have HB := Lib.hid hB
  clear hA hB
  go_enter Try.func31, Try.ntmps31
  go_wp2_with fail
  go_loopw [5] (fun i wr => ∃ k : Nat, k ≤ L.length ∧ i = .int .i64 (k : Int) ∧ Below w.heap.size w wr) (fun i _ => L.length - (intOf i).toNat)
  case atStart => exact ⟨0, by omega, rfl, Below.refl _ _⟩
  case round =>
    obtain ⟨k, hk, rfl, hBB⟩ := hrel
    by_cases hlt : k < L.length
    · obtain ⟨b, o, rfl, c0, c1, c2⟩ := (HA.out.then_ hBB) k hlt
      obtain ⟨b', o', rfl, e0, e1, e2⟩ := (HB.out.then_ hBB) k hlt
      obtain ⟨P, hP⟩ : ∃ P, L.getD k p0 = P := ⟨_, rfl⟩
      rw [hP] at c0 c1 c2 e0 e1 e2
      obtain ⟨x, z, y⟩ := P
      dsimp only at c0 c1 c2 e0 e1 e2
      have hkk : (k : Int) < (L.length : Int) := by omega
      have hk0 : (0 : Int) ≤ (k : Int) := by omega
      have g_0 := fun D os => cell_regrown c0 D os
      have g_1 := fun D os => cell_regrown c1 D os
      have g_2 := fun D os => cell_regrown c2 D os
      have g_3 := fun D os => cell_regrown e0 D os
      have g_4 := fun D os => cell_regrown e1 D os
      have g_5 := fun D os => cell_regrown e2 D os
      have hq := fun w => neq_port w x x z z y y
      simp only [decide_true, and_self, Bool.not_true] at hq
      have HBB := Lib.hid hBB
      clear hP c0 c1 c2 e0 e1 e2 hBB
      go_wp2_with fail
      have hq9 := hq
      refine wp_region_quiet_below (by kernel_rfl) (by kernel_rfl) ?_
      repeat (go_big_quiet_step (fail))
      refine wpQuiet_nil ?_
      intro wq hq0
      have hq := below_of_class hq0
      clear hq0
      clear g_0 g_1 g_2 g_3 g_4 g_5 hq9
      have HQ := Lib.hid (below_next HBB.out hq)
      clear hq
      go_wp2_with fail
      exact ⟨⟨k + 1, by omega, by go_num, HQ.out⟩, by simp [intOf]; omega⟩
    · have hkk : ¬ (k : Int) < (L.length : Int) := by omega
      have HBB := Lib.hid hBB
      clear hBB
      go_wp2_with fail
      go_ret
      exact ⟨rfl, HBB.out⟩
set_option maxRecDepth 100000 in
set_option maxHeartbeats 4000000 in
theorem same_yes (A B : Option Addr) (ca cb : Nat) (L M : List Grp) (w : World) (hA : GrpsAt w A L) (hB : GrpsAt w B M) (hn : L.length ≤ 100000) (hm : ∀ g ∈ L, g.ms.length ≤ 100000) (hk : L.map key = M.map key) :
    Calls Try.prog 26 #[.slice A L.length ca, .slice B M.length cb] w fun e w' => e = .returned (.bool true) ∧ Below w.heap.size w w' := by
  have hlm : M.length = L.length := by have := congrArg List.length hk; simpa using this.symm
  rw [hlm]
  have HK := Lib.hid (fun k (hk' : k < L.length) => (show key (L.getD k g0) = key (M.getD k g0) by
    have h1 := congrArg (fun l => l[k]?) hk
    simp only [List.getElem?_map] at h1
    rw [List.getElem?_eq_getElem hk', List.getElem?_eq_getElem (by omega)] at h1
    rw [getD_eq hk', getD_eq (by omega)]
    simpa using h1))
  have hln : (L.length : Int) ≤ 100000 := by omega
  have hne : ((L.length : Int) != (L.length : Int)) = false := by simp
  have HA := Lib.hid hA
  have HB := Lib.hid hB
  have HM := Lib.hid hm
  clear hA hB hk hm
  go_enter Try.func26, Try.ntmps26
  go_wp2_with fail
  go_loopw [5] (fun i wr => ∃ k : Nat, k ≤ L.length ∧ i = .int .i64 (k : Int) ∧ Below w.heap.size w wr) (fun i _ => L.length - (intOf i).toNat)
  case atStart => exact ⟨0, by omega, rfl, Below.refl _ _⟩
  case round =>
    obtain ⟨k, hk, rfl, hBB⟩ := hrel
    by_cases hlt : k < L.length
    · obtain ⟨⟨b, o, rfl, hc⟩, hms⟩ := (HA.out.then_ hBB) k hlt
      obtain ⟨⟨b', o', rfl, he⟩, hms'⟩ := (HB.out.then_ hBB) k (by omega)
      have hkey := HK.out k hlt
      have hml := HM.out _ (mem_getD (d := g0) hlt)
      obtain ⟨P, hP⟩ : ∃ P, L.getD k g0 = P := ⟨_, rfl⟩
      obtain ⟨Q, hQ⟩ : ∃ Q, M.getD k g0 = Q := ⟨_, rfl⟩
      rw [hP] at hc hms hkey hml
      rw [hQ] at he hms' hkey
      obtain ⟨i0, f0, v, m⟩ := P
      obtain ⟨i1, f1, v', m'⟩ := Q
      unfold key at hkey
      simp only [Prod.mk.injEq] at hkey
      obtain ⟨rfl, rfl, rfl⟩ := hkey
      obtain ⟨c0, c1, c2⟩ := hc
      obtain ⟨e0, e1, e2⟩ := he
      obtain ⟨Am, cm, hv, _, hIA, _⟩ := hms
      obtain ⟨Bm, dm, hv', _, hIB, _⟩ := hms'
      dsimp only at c0 c1 c2 e0 e1 e2 hv hv' hIA hIB hml
      subst hv hv'
      have hkk : (k : Int) < (L.length : Int) := by omega
      have hk0 : (0 : Int) ≤ (k : Int) := by omega
      have g_0 := fun D os => cell_regrown c0 D os
      have g_1 := fun D os => cell_regrown c1 D os
      have g_2 := fun D os => cell_regrown c2 D os
      have g_3 := fun D os => cell_regrown e0 D os
      have g_4 := fun D os => cell_regrown e1 D os
      have g_5 := fun D os => cell_regrown e2 D os
      have CI := Lib.hid (fun D os => ints_yes Am Bm cm dm m (grow (redrawn wr D) os) hml (hIA.then_ (below_regrown wr D os)) (hIB.then_ (below_regrown wr D os)))
      have n0 : (i0 != i0) = false := by simp
      have n1 : (f0 != f0) = false := by simp
      have HBB := Lib.hid hBB
      clear hP hQ c0 c1 c2 e0 e1 e2 hBB hIA hIB
      go_wp2_with fail
      refine wp_region_quiet_below (by kernel_rfl) (by kernel_rfl) ?_
      repeat (go_big_quiet_step (first | (with_reducible exact Calls.regrown_of (CI.out _ _))))
      refine wpQuiet_nil ?_
      intro wq hq0
      have hq := below_of_class hq0
      clear hq0
      have HQ := Lib.hid (below_next HBB.out hq)
      clear g_0 g_1 g_2 g_3 g_4 g_5 hq CI
      go_wp2_with fail
      exact ⟨⟨k + 1, by omega, by go_num, HQ.out⟩, by simp [intOf]; omega⟩
    · have hkk : ¬ (k : Int) < (L.length : Int) := by omega
      have HBB := Lib.hid hBB
      clear hBB
      go_wp2_with fail
      go_ret
      exact ⟨rfl, HBB.out⟩
set_option maxRecDepth 100000 in
set_option maxHeartbeats 4000000 in
theorem samenets_yes (d x d' x' : Value) (ds : List Dev) (ws : List Wir) (w : World) (hA : NetAt w d x ds ws) (hB : NetAt w d' x' ds ws) (hn : ds.length ≤ 100000) (hm : ws.length ≤ 100000) :
    Calls Try.prog 32 #[nv d x, nv d' x'] w fun e w' => e = .returned (.bool true) ∧ Below w.heap.size w w' := by
  obtain ⟨⟨A, ca, rfl, hDA⟩, ⟨C, cc, rfl, hWA⟩⟩ := hA
  obtain ⟨⟨B, cb, rfl, hDB⟩, ⟨E, ce, rfl, hWB⟩⟩ := hB
  have hln : (ds.length : Int) ≤ 100000 := by omega
  have hlm : (ws.length : Int) ≤ 100000 := by omega
  have hne : ((ds.length : Int) != (ds.length : Int)) = false := by simp
  have hnf : ((ws.length : Int) != (ws.length : Int)) = false := by simp
  have HA := Lib.hid hDA
  have HB := Lib.hid hDB
  have HC := Lib.hid hWA
  have HE := Lib.hid hWB
  clear hDA hDB hWA hWB
  unfold nv
  go_enter Try.func32, Try.ntmps32
  go_upto_region 1 with fail
  obtain ⟨W0, hW0⟩ : ∃ W0, (w.alloc (.cells #[.slice A ds.length ca, .slice C ws.length cc] 36)).alloc (.cells #[.slice B ds.length cb, .slice E ws.length ce] 36) = W0 := ⟨_, rfl⟩
  have H0 : Below w.heap.size w W0 := by rw [← hW0]; exact below_alloc (below_alloc (Below.refl _ _) _) _
  have N0 : W0.heap[w.heap.size]? = some (.cells #[.slice A ds.length ca, .slice C ws.length cc] 36 (0, 0)) := by rw [← hW0]; exact heap_alloc (World.alloc_heap_new _ _) _
  have N1 : W0.heap[w.heap.size + 1]? = some (.cells #[.slice B ds.length cb, .slice E ws.length ce] 36 (0, 0)) := by
    have h := World.alloc_heap_new (w.alloc (.cells #[.slice A ds.length ca, .slice C ws.length cc] 36)) (.cells #[.slice B ds.length cb, .slice E ws.length ce] 36)
    rw [World.size_alloc, hW0] at h
    exact h
  obtain ⟨p2, hp2⟩ : ∃ p2, w.heap.size = p2 := ⟨_, rfl⟩
  obtain ⟨p3, hp3⟩ : ∃ p3, w.heap.size + 1 = p3 := ⟨_, rfl⟩
  rw [hW0, hp3, hp2]
  rw [hp2] at N0
  rw [hp3] at N1
  have HK := Lib.hid (show W0.cell? ⟨p2, 0, none⟩ = some (.slice A ds.length ca) ∧ W0.cell? ⟨p2, 1, none⟩ = some (.slice C ws.length cc) ∧ W0.cell? ⟨p3, 0, none⟩ = some (.slice B ds.length cb) ∧ W0.cell? ⟨p3, 1, none⟩ = some (.slice E ws.length ce) from ⟨cell_of_row W0 p2 0 _ _ _ N0, cell_of_row W0 p2 1 _ _ _ N0, cell_of_row W0 p3 0 _ _ _ N1, cell_of_row W0 p3 1 _ _ _ N1⟩)
  have HDA := Lib.hid (HA.out.then_ H0)
  have HDB := Lib.hid (HB.out.then_ H0)
  have HDC := Lib.hid (HC.out.then_ H0)
  have HDE := Lib.hid (HE.out.then_ H0)
  have H00 := Lib.hid (show Below w.heap.size w W0 by simpa only [hp2] using H0)
  obtain ⟨k0, k1, k2, k3⟩ := HK.out
  clear hW0 N0 N1 H0 hp2 hp3 HA HB HC HE
  go_wp2_with fail
  clear k0 k1 k2 k3
  go_loopw [5] (fun i wr => ∃ k : Nat, k ≤ ds.length ∧ i = .int .i64 (k : Int) ∧ Below W0.heap.size W0 wr) (fun i _ => ds.length - (intOf i).toNat)
  case atStart => exact ⟨0, by omega, rfl, Below.refl _ _⟩
  case round =>
    obtain ⟨k, hk, rfl, hBB⟩ := hrel
    have k0 := cell_then hBB HK.out.1
    have k1 := cell_then hBB HK.out.2.1
    have k2 := cell_then hBB HK.out.2.2.1
    have k3 := cell_then hBB HK.out.2.2.2
    by_cases hlt : k < ds.length
    · obtain ⟨b, o, rfl, c0, c1, c2, c3⟩ := (HDA.out.then_ hBB) k hlt
      obtain ⟨b', o', rfl, e0, e1, e2, e3⟩ := (HDB.out.then_ hBB) k hlt
      obtain ⟨P, hP⟩ : ∃ P, ds.getD k d0 = P := ⟨_, rfl⟩
      rw [hP] at c0 c1 c2 c3 e0 e1 e2 e3
      obtain ⟨x0, x1, t, x2⟩ := P
      dsimp only at c0 c1 c2 c3 e0 e1 e2 e3
      have hkk : (k : Int) < (ds.length : Int) := by omega
      have hk0 : (0 : Int) ≤ (k : Int) := by omega
      have g_0 := fun D os => cell_regrown c0 D os
      have g_1 := fun D os => cell_regrown c1 D os
      have g_2 := fun D os => cell_regrown c2 D os
      have g_3 := fun D os => cell_regrown c3 D os
      have g_4 := fun D os => cell_regrown e0 D os
      have g_5 := fun D os => cell_regrown e1 D os
      have g_6 := fun D os => cell_regrown e2 D os
      have g_7 := fun D os => cell_regrown e3 D os
      have g_8 := fun D os => cell_regrown k0 D os
      have g_9 := fun D os => cell_regrown k2 D os
      have hq := fun w => neq_dev w x0 x1 x2 t
      have HBB := Lib.hid hBB
      clear hP c0 c1 c2 c3 e0 e1 e2 e3 hBB
      go_wp2_with fail
      clear k0 k1 k2 k3
      have hq9 := hq
      refine wp_region_quiet_below (by kernel_rfl) (by kernel_rfl) ?_
      repeat (go_big_quiet_step (fail))
      refine wpQuiet_nil ?_
      intro wq hq0
      have hq := below_of_class hq0
      clear hq0
      clear g_0 g_1 g_2 g_3 g_4 g_5 g_6 g_7 g_8 g_9 hq9
      have HQ := Lib.hid (below_next HBB.out hq)
      clear hq
      go_wp2_with fail
      exact ⟨⟨k + 1, by omega, by go_num, HQ.out⟩, by simp [intOf]; omega⟩
    · have hkk : ¬ (k : Int) < (ds.length : Int) := by omega
      have HBB := Lib.hid hBB
      clear hBB
      go_wp2_with fail
      clear k0 k1 k2 k3
      go_loopw [6] (fun i wr => ∃ k : Nat, k ≤ ws.length ∧ i = .int .i64 (k : Int) ∧ Below W0.heap.size W0 wr) (fun i _ => ws.length - (intOf i).toNat)
      case atStart => exact ⟨0, by omega, rfl, HBB.out⟩
      case round =>
        obtain ⟨k, hk, rfl, hBB⟩ := hrel
        have k0 := cell_then hBB HK.out.1
        have k1 := cell_then hBB HK.out.2.1
        have k2 := cell_then hBB HK.out.2.2.1
        have k3 := cell_then hBB HK.out.2.2.2
        by_cases hlt : k < ws.length
        · obtain ⟨b, o, rfl, c0, c1, c2, c3, c4, c5⟩ := (HDC.out.then_ hBB) k hlt
          obtain ⟨b', o', rfl, e0, e1, e2, e3, e4, e5⟩ := (HDE.out.then_ hBB) k hlt
          obtain ⟨P, hP⟩ : ∃ P, ws.getD k w0 = P := ⟨_, rfl⟩
          rw [hP] at c0 c1 c2 c3 c4 c5 e0 e1 e2 e3 e4 e5
          obtain ⟨x0, x1, x2, x3, x4, x5⟩ := P
          dsimp only at c0 c1 c2 c3 c4 c5 e0 e1 e2 e3 e4 e5
          have hkk : (k : Int) < (ws.length : Int) := by omega
          have hk0 : (0 : Int) ≤ (k : Int) := by omega
          have g_0 := fun D os => cell_regrown c0 D os
          have g_1 := fun D os => cell_regrown c1 D os
          have g_2 := fun D os => cell_regrown c2 D os
          have g_3 := fun D os => cell_regrown c3 D os
          have g_4 := fun D os => cell_regrown c4 D os
          have g_5 := fun D os => cell_regrown c5 D os
          have g_6 := fun D os => cell_regrown e0 D os
          have g_7 := fun D os => cell_regrown e1 D os
          have g_8 := fun D os => cell_regrown e2 D os
          have g_9 := fun D os => cell_regrown e3 D os
          have g_10 := fun D os => cell_regrown e4 D os
          have g_11 := fun D os => cell_regrown e5 D os
          have g_12 := fun D os => cell_regrown k1 D os
          have g_13 := fun D os => cell_regrown k3 D os
          have hq := fun w => neq_wire w x0 x0 x1 x1 x2 x2 x3 x3 x4 x4 x5 x5
          simp only [decide_true, and_self, Bool.not_true] at hq
          have HBB := Lib.hid hBB
          clear hP c0 c1 c2 c3 c4 c5 e0 e1 e2 e3 e4 e5 hBB
          go_wp2_with fail
          clear k0 k1 k2 k3
          have hq9 := hq
          refine wp_region_quiet_below (by kernel_rfl) (by kernel_rfl) ?_
          repeat (go_big_quiet_step (fail))
          refine wpQuiet_nil ?_
          intro wq hq0
          have hq := below_of_class hq0
          clear hq0
          clear g_0 g_1 g_2 g_3 g_4 g_5 g_6 g_7 g_8 g_9 g_10 g_11 g_12 g_13 hq9
          have HQ := Lib.hid (below_next HBB.out hq)
          clear hq
          go_wp2_with fail
          exact ⟨⟨k + 1, by omega, by go_num, HQ.out⟩, by simp [intOf]; omega⟩
        · have hkk : ¬ (k : Int) < (ws.length : Int) := by omega
          have HBB := Lib.hid hBB
          clear hBB
          go_wp2_with fail
          go_ret
          exact ⟨rfl, below_next H00.out HBB.out⟩
end Go.Proofs.Ytebfenkjipaedaa.Gr
