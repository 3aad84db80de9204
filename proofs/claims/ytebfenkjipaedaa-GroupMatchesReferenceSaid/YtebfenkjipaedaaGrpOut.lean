/- Package group: outward, the iterator over a group and those around it. -/
import Derived.Test.YtebfenkjipaedaaGrpAt
namespace Go.Proofs.Ytebfenkjipaedaa.Gr
open Go.RowKit Gp
attribute [local go_sem] Oper.semAt_some
/-- an index as a value -/
def iv (m o : Value) : Value := .agg #[m, o]
theorem outward_any (m o : Value) (id : Int) (w : World) : Calls Try.prog 56 #[iv m o, .int .i64 id] w fun e w' => e = .returned (.func (.func 69) #[] #[.pointer (some ⟨w.heap.size + 1, 0, none⟩), .pointer (some ⟨w.heap.size, 0, none⟩)]) ∧ (w.alloc (.cells #[m, o] 73)).alloc (.cells #[.int .i64 id] 3) = w' := by
  unfold iv
  go_enter Try.func56, Try.ntmps56
  go_wp2
  go_ret
  exact ⟨rfl, rfl⟩
/-- how a round of the iterator ends: it goes on, or the loop is left -/
def Rnd (J : Nat → World → Prop) (Fin : World → Prop) (i : Nat) (e : Ending) (W' : World) : Prop :=
  (e = .returned (.bool true) ∧ J i W') ∨ (e = .returned (.bool false) ∧ Fin W')
theorem gv_of {l : List Grp} {x : Int} : ((find l x).map gv).getD (gv g0) = gv ((find l x).getD g0) := by
  cases find l x <;> rfl
theorem field_of (a b : Int) (c : Value) : ∀ w, (Instr.field 26 (.agg #[.int .i64 a, .int .i64 b, c]) 1).run Try.prog w = .ok (.int .i64 b) w := fun w => by kernel_rfl
set_option maxRecDepth 100000 in
set_option maxHeartbeats 4000000 in
theorem out1_any (bi bx lb : Nat) (l : List Grp) (id : Int) (m _o : Value) (f : Int → Option Value) (J J' : Nat → World → Prop) (Fin : World → Prop) (kk : World → Nat)
    (hx : ∀ k W, J k W → k ≤ 13 ∧ kk W = k ∧ I64 (nth l id k) ∧ W.cell? ⟨bi, 0, none⟩ = some (.int .i64 (nth l id k)))
    (hY : ∀ k W, J k W → nth l id k ≠ -1 → YieldAt Fence.wide 0 Try.prog lb #[.int .i64 (nth l id k)] W (Rnd J' Fin k))
    (hM : ∀ k W, J' k W → k ≤ 12 ∧ I64 (nth l id k) ∧ W.cell? ⟨bi, 0, none⟩ = some (.int .i64 (nth l id k)) ∧ W.frozen? ⟨bi, 0, none⟩ = false ∧ W.cell? ⟨bx, 0, none⟩ = some m ∧ MapV W m f ∧ ∀ x, f x = (find l x).map gv)
    (hS : ∀ k W, J' k W → J (k + 1) (W.setCell ⟨bi, 0, none⟩ (.int .i64 (nth l id (k + 1)))))
    (W : World) (h0 : J 0 W) :
    CallsIn Fence.wide 0 Try.prog 69 #[.func (.yield lb) #[] #[], .pointer (some ⟨bi, 0, none⟩), .pointer (some ⟨bx, 0, none⟩)] W fun e W' => (∃ v, e = .returned v) ∧ ((∃ k, J k W' ∧ nth l id k = -1) ∨ Fin W') := by
  have HX := Lib.hid hx
  have HY := Lib.hid hY
  have HM := Lib.hid hM
  have HS := Lib.hid hS
  have H0 := Lib.hid h0
  clear hx hY hM hS h0
  obtain ⟨_, _, _, hc⟩ := HX.out _ _ H0.out
  refine callsIn_of_wp Try.func69 rfl trivial ?_ rfl
  simp only [Try.ntmps69, List.size_toArray, List.length_cons, List.length_nil, Nat.reduceAdd, Nat.reduceSub, Array.replicate_succ, Array.replicate_zero, List.push_toArray, List.append_toArray, List.nil_append, List.cons_append]
  clear hc
  gi_wp2
  gi_loopw [4] (fun _ wr => ∃ k : Nat, J k wr) (fun _ wr => 13 - kk wr)
  case atStart => exact ⟨0, H0.out⟩
  case round =>
    obtain ⟨k, hJk⟩ := hrel
    have HK := Lib.hid hJk
    obtain ⟨hk13, hkk, hix, hc⟩ := HX.out _ _ hJk
    obtain ⟨x, hxe⟩ : ∃ x, nth l id k = x := ⟨_, rfl⟩
    rw [hxe] at hix hc
    have HXE := Lib.hid hxe
    clear hJk hxe
    by_cases hn : x = -1
    · subst hn
      gi_wp2
      refine ⟨fun _ h => (by cases h), ?_⟩
      gi_wp2
      refine bodyPost_end (results_none rfl _ _ _) rfl ?_
      exact ⟨⟨_, rfl⟩, .inl ⟨k, HK.out, HXE.out⟩⟩
    · have hy := HY.out k wr HK.out (by rw [HXE.out]; exact hn)
      rw [HXE.out] at hy
      obtain ⟨fn, tmps, assign, body, hy1, hR⟩ := hy
      have hnb : (x == -1) = false := beq_eq_false_iff_ne.2 hn
      have hnb2 : (x != -1) = true := by simp [bne, hnb]
      gi_wp2
      refine ⟨rfl, hR.mono ?_⟩
      rintro e W3 hpr
      clear hy1 hR hc
      rcases hpr with ⟨rfl, hJ3⟩ | ⟨rfl, hf3⟩
      · obtain ⟨hk12, hi3, hc3, hf3, hm3, hmv, hff⟩ := HM.out k W3 hJ3
        have HJ3 := Lib.hid (HS.out k W3 hJ3)
        have hlk := hmv.look gmap_u (grp_zero W3) hi3
        rw [hff, gv_of] at hlk
        rw [HXE.out] at hc3 hlk
        obtain ⟨g, hg⟩ : ∃ g, (find l x).getD g0 = g := ⟨_, rfl⟩
        rw [hg] at hlk
        have hof : nth l id (k + 1) = g.of := by
          show ofI l (nth l id k) = g.of
          rw [HXE.out, ← hg]
          unfold ofI
          cases find l x <;> rfl
        rw [hof] at HJ3
        have HG := Lib.hid hg
        unfold gv at hlk
        clear hJ3 hi3 hmv hff hg hof
        have hfo := field_of g.id g.of g.v W3
        gi_wp2
        refine ⟨⟨k + 1, HJ3.out⟩, ?_⟩
        obtain ⟨_, h2, _, _⟩ := HX.out _ _ HJ3.out
        rw [h2, hkk]
        omega
      · have HF3 := Lib.hid hf3
        clear hf3
        gi_wp2
        refine bodyPost_end (results_none rfl _ _ _) rfl ?_
        exact ⟨⟨_, rfl⟩, .inr HF3.out⟩
end Go.Proofs.Ytebfenkjipaedaa.Gr
