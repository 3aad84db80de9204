/- Package group: Common. -/
import Derived.Test.YtebfenkjipaedaaGrpBelow
namespace Go.Proofs.Ytebfenkjipaedaa.Gr
open Go.RowKit Gp Go.Sort
attribute [local go_sem] Oper.semAt_some
/-- the last of what two lists begin with -/
def lastC : List Int → List Int → Int → Int
  | a :: p, b :: q, d => if a = b then lastC p q a else d
  | _, _, d => d
theorem lastC_nil {p q : List Int} {k : Nat} (h : p.length ≤ k ∨ q.length ≤ k) (d : Int) : lastC (p.drop k) (q.drop k) d = d := by
  rcases h with h | h
  · rw [List.drop_eq_nil_of_le h]; simp [lastC]
  · rw [List.drop_eq_nil_of_le h]
    cases p.drop k <;> simp [lastC]
theorem drop_getD {p : List Int} {k : Nat} (h : k < p.length) : p.drop k = p.getD k 0 :: p.drop (k + 1) := by
  rw [getD_eq h, List.drop_eq_getElem_cons h]
theorem lastC_eq {p q : List Int} {k : Nat} (h1 : k < p.length) (h2 : k < q.length) (h : p.getD k 0 = q.getD k 0) (d : Int) : lastC (p.drop k) (q.drop k) d = lastC (p.drop (k + 1)) (q.drop (k + 1)) (p.getD k 0) := by
  rw [drop_getD h1, drop_getD h2, lastC, if_pos h]
theorem lastC_ne {p q : List Int} {k : Nat} (h1 : k < p.length) (h2 : k < q.length) (h : p.getD k 0 ≠ q.getD k 0) (d : Int) : lastC (p.drop k) (q.drop k) d = d := by
  rw [drop_getD h1, drop_getD h2, lastC, if_neg h]
def common (l : List Grp) (a b : Int) : Int := lastC (path l a) (path l b) (-1)
set_option maxRecDepth 100000 in
set_option maxHeartbeats 4000000 in
theorem common_yes (A : Option Addr) (c : Nat) (l : List Grp) (a b : Int) (w : World) (hG : GrpsAt w A l) (hS : Sized l) (hv : Valid l) (ha : I64 a) (hb : I64 b) :
    Calls Try.prog 19 #[.slice A l.length c, .int .i64 a, .int .i64 b] w fun e w' => e = .returned (.tuple #[.int .i64 (common l a b), .int .i64 0]) ∧ Below w.heap.size w w' := by
  have HR := Lib.hid (read_yes A c l w hG hS hv)
  have HP := Lib.hid (fun m o W code (hc : I64 code) (hx : IdxAt W m o l) => path_any m o l code W hv hS hc hx)
  have HA := Lib.hid ha
  have HB := Lib.hid hb
  clear hG hS hv ha hb
  go_enter Try.func19, Try.ntmps19
  go_wp2_with fail
  refine HR.out.mono ?_
  rintro e w1 ⟨m, o, rfl, hx, hb1⟩
  have hx1 := hx.then_ (below_alloc (Below.refl _ _) (.cells #[.map m, .map o] 73))
  have B1 := Lib.hid (below_alloc hb1 (.cells #[.map m, .map o] 73))
  have X0 := Lib.hid (show (w1.alloc (.cells #[.map m, .map o] 73)).drew.cell? ⟨w1.heap.size, 0, none⟩ = some (.map m) ∧ (w1.alloc (.cells #[.map m, .map o] 73)).drew.cell? ⟨w1.heap.size, 1, none⟩ = some (.map o) from ⟨new_cell rfl, new_cell rfl⟩)
  have HX := Lib.hid (hx1.then_ (Below.drew (Below.refl _ _)))
  unfold iv at HP ⊢
  clear hx hb1 hx1
  go_wp2_with fail
  go_region_held_law (fun w' => w'.cell? ⟨w1.heap.size, 0, none⟩ = some (.map m) ∧ w'.cell? ⟨w1.heap.size, 1, none⟩ = some (.map o)) (first | exact X0.out | exact X2.out | exact X3.out) (first | (go_at_call 39; (with_reducible refine (HP.out (.map m) (.map o) _ a HA.out HX.out).mono ?_); rintro e w2 ⟨v, rfl, hm1, hb2⟩; have M1 := Lib.hid hm1; have B2 := Lib.hid hb2; have X2 := Lib.hid (show w2.cell? ⟨w1.heap.size, 0, none⟩ = some (.map m) ∧ w2.cell? ⟨w1.heap.size, 1, none⟩ = some (.map o) from ⟨cell_then hb2 X0.out.1, cell_then hb2 X0.out.2⟩); clear hm1 hb2) | (go_at_call 39; (with_reducible refine (HP.out (.map m) (.map o) _ b HB.out (HX.out.then_ B2.out)).mono ?_); rintro e w3 ⟨v3, rfl, hm3, hb3⟩; have M3 := Lib.hid hm3; have B3 := Lib.hid hb3; have X3 := Lib.hid (show w3.cell? ⟨w1.heap.size, 0, none⟩ = some (.map m) ∧ w3.cell? ⟨w1.heap.size, 1, none⟩ = some (.map o) from ⟨cell_then hb3 X2.out.1, cell_then hb3 X2.out.2⟩); clear hm3 hb3))
  obtain ⟨Ap, cp, rfl, hcp, hip, _⟩ := M1.out
  obtain ⟨Aq, cq, rfl, hcq, hiq, _⟩ := M3.out
  have hp12 := path_len l a
  have hq12 := path_len l b
  have HC := Lib.hid (show common l a b = lastC (path l a) (path l b) (-1) from rfl)
  obtain ⟨p, hp⟩ : ∃ p, path l a = p := ⟨_, rfl⟩
  obtain ⟨q, hq⟩ : ∃ q, path l b = q := ⟨_, rfl⟩
  rw [hp, hq] at HC
  rw [hp] at hip hp12 ⊢
  rw [hq] at hiq hq12 ⊢
  have HIP := Lib.hid (hip.then_ B3.out)
  have HIQ := Lib.hid hiq
  have B4 := Lib.hid (below_next (below_next B1.out (Below.drew (Below.refl _ _))) (below_next B2.out B3.out))
  clear hp hq hip hiq hcp hcq
  go_wp2_with fail
  go_loopw [10, 13] (fun d i wr => ∃ (k : Nat) (z : Int), k ≤ p.length ∧ k ≤ q.length ∧ i = .int .i64 (k : Int) ∧ d = .int .i64 z ∧ Below w3.heap.size w3 wr ∧ lastC p q (-1) = lastC (p.drop k) (q.drop k) z) (fun _ i _ => 13 - (intOf i).toNat)
  case atStart => exact ⟨0, -1, by omega, by omega, rfl, rfl, Below.refl _ _, rfl⟩
  case round =>
    obtain ⟨k, z, hk1, hk2, rfl, rfl, hB4, hl⟩ := hrel
    have HB4 := Lib.hid hB4
    clear hB4
    have HL := Lib.hid hl
    clear hl
    by_cases hlt : k < p.length ∧ k < q.length
    · obtain ⟨h1, h2⟩ := hlt
      obtain ⟨bp, op, hAp, hcp⟩ := (HIP.out.then_ HB4.out) k h1
      obtain ⟨bq, oq, hAq, hcq⟩ := (HIQ.out.then_ HB4.out) k h2
      subst hAp
      subst hAq
      obtain ⟨x, hx⟩ : ∃ x, p.getD k 0 = x := ⟨_, rfl⟩
      obtain ⟨y, hy⟩ : ∃ y, q.getD k 0 = y := ⟨_, rfl⟩
      rw [hx] at hcp
      rw [hy] at hcq
      have HX2 := Lib.hid hx
      have HY2 := Lib.hid hy
      have hkM : decide ((k : Int) < min (p.length : Int) (q.length : Int)) = true := decide_eq_true (by omega)
      have hkp : (k : Int) < (p.length : Int) := by omega
      have hkq : (k : Int) < (q.length : Int) := by omega
      have hk0 : (0 : Int) ≤ (k : Int) := by omega
      clear hx hy
      have g_1 := fun D os => cell_regrown hcp D os
      have g_2 := fun D os => cell_regrown hcq D os
      by_cases he : x = y
      · have hb : (x == y) = true := beq_iff_eq.2 he
        have HE := Lib.hid he
        clear he
        go_wp2_with fail
        refine wp_region_quiet_below (by kernel_rfl) (by kernel_rfl) ?_
        repeat (go_big_quiet_step (fail))
        refine wpQuiet_nil ?_
        intro wq hq0
        have hq := below_of_class hq0
        clear hq0
        have c1 := cell_then hq hcp
        have B5 := Lib.hid (below_next HB4.out hq)
        have HL2 := Lib.hid (HL.out.trans (lastC_eq h1 h2 (by rw [HX2.out, HY2.out, HE.out]) z))
        clear g_1 g_2 hkM hq
        go_wp2_with fail
        refine ⟨⟨k + 1, x, by omega, by omega, by go_num, rfl, B5.out, by rw [HL2.out, HX2.out]⟩, ?_⟩
        simp [intOf]; omega
      · have hb : (x == y) = false := beq_eq_false_iff_ne.2 he
        have HE := Lib.hid he
        clear he
        go_wp2_with fail
        refine wp_region_quiet_below (by kernel_rfl) (by kernel_rfl) ?_
        repeat (go_big_quiet_step (fail))
        refine wpQuiet_nil ?_
        intro wq hq0
        have hq := below_of_class hq0
        clear hq0
        have B5 := Lib.hid (below_next HB4.out hq)
        have HL2 := Lib.hid (HL.out.trans (lastC_ne h1 h2 (by rw [HX2.out, HY2.out]; exact HE.out) z))
        clear g_1 g_2 hkM hq
        go_wp2_with fail
        (first | refine bodyPost_ret (results_tmp2 rfl _ _ _) rfl ?_ | refine bodyPost_end (results_tmp2 rfl _ _ _) rfl ?_)
        exact ⟨by rw [HC.out, HL2.out]; rfl, below_next B4.out B5.out⟩
    · have hkM : decide ((k : Int) < min (p.length : Int) (q.length : Int)) = false := decide_eq_false (by omega)
      have HL2 := Lib.hid (HL.out.trans (lastC_nil (by omega) z))
      go_wp2_with fail
      refine wp_region_quiet_below (by kernel_rfl) (by kernel_rfl) ?_
      repeat (go_big_quiet_step (fail))
      refine wpQuiet_nil ?_
      intro wq hq0
      have hq := below_of_class hq0
      clear hq0
      have B5 := Lib.hid (below_next HB4.out hq)
      clear hkM hq
      go_wp2_with fail
      (first | refine bodyPost_ret (results_tmp2 rfl _ _ _) rfl ?_ | refine bodyPost_end (results_tmp2 rfl _ _ _) rfl ?_)
      exact ⟨by rw [HC.out, HL2.out]; rfl, below_next B4.out B5.out⟩
set_option maxRecDepth 100000 in
set_option maxHeartbeats 4000000 in
theorem common_no (A : Option Addr) (c : Nat) (l : List Grp) (a b : Int) (w : World) (hG : GrpsAt w A l) (hS : Sized l) (hv : ¬ Valid l) :
    Calls Try.prog 19 #[.slice A l.length c, .int .i64 a, .int .i64 b] w fun e w' => e = .returned (.tuple #[.int .i64 0, .int .i64 130]) ∧ Below w.heap.size w w' := by
  have HR := Lib.hid (read_no A c l w hG hS hv)
  clear hG hS hv
  go_enter Try.func19, Try.ntmps19
  go_wp2_with fail
  refine HR.out.mono ?_
  rintro e w1 ⟨m, o, f, rfl, _, hb1⟩
  have B1 := Lib.hid (below_alloc hb1 (.cells #[.map m, .map o] 73))
  unfold iv
  clear hb1
  go_wp2_with fail
  (first | refine bodyPost_ret (results_tmp2 rfl _ _ _) rfl ?_ | refine bodyPost_end (results_tmp2 rfl _ _ _) rfl ?_)
  exact ⟨rfl, B1.out⟩
end Go.Proofs.Ytebfenkjipaedaa.Gr
