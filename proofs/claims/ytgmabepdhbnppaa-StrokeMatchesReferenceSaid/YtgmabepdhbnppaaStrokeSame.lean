/- Package stroke: Same; slices.Equal at dots. -/
import Derived.Test.YtgmabepdhbnppaaStrokeCode
import Derived.Test.YtgmabepdhbnppaaHead
import Derived.Laws.StructEq
namespace Go.Proofs.Ytgmabepdhbnppaa
open Go.RowKit Str
theorem eqF_dot (w : World) (d e : Dot) : (Op.equalIn 10000 24 (.agg #[.int .i64 d.x, .int .i64 d.y, .int .i64 d.t, .int .i64 d.p]) (.agg #[.int .i64 e.x, .int .i64 e.y, .int .i64 e.t, .int .i64 e.p])).run Try.prog w = .ok (decide (d = e)) w := by
  have u3 := Try.underlying3
  have hS : Try.prog.underlying 24 = some (.struct (Try.prog.fieldsOf 24)) := by kernel_rfl
  have hp : Try.prog.stoodInHeld 24 = false := by kernel_rfl
  have ia := Try.isAgg3
  have iz := Try.sizeOf3
  obtain ⟨a, b, c, f⟩ := d
  obtain ⟨a', b', c', f'⟩ := e
  rw [show (10000 : Nat) = 9999 + 1 from rfl, run_equalIn_agg w 9999 24 _ _ hS hp]
  simp only [Program.fieldsOf, Try.underlying24]
  go_simp
  by_cases h1 : a = a' <;> by_cases h2 : b = b' <;> by_cases h3 : c = c' <;> by_cases h4 : f = f' <;> simp [h1, h2, h3, h4]
theorem neq_dot (w : World) (d e : Dot) : (binOp .neq 24 (.agg #[.int .i64 d.x, .int .i64 d.y, .int .i64 d.t, .int .i64 d.p]) (.agg #[.int .i64 e.x, .int .i64 e.y, .int .i64 e.t, .int .i64 e.p])).run Try.prog w = .ok (.bool (!decide (d = e))) w := by
  rw [run_neq_struct, eqF_dot]; rfl
theorem eql_dot (w : World) (d e : Dot) : (binOp .eql 24 (.agg #[.int .i64 d.x, .int .i64 d.y, .int .i64 d.t, .int .i64 d.p]) (.agg #[.int .i64 e.x, .int .i64 e.y, .int .i64 e.t, .int .i64 e.p])).run Try.prog w = .ok (.bool (decide (d = e))) w := by
  rw [run_eql_struct, eqF_dot]; rfl
/-- two lists of dots, up to k -/
theorem take_eq {D E : List Dot} {k : Nat} (h1 : k < D.length) (h2 : k < E.length) : D.take (k + 1) = E.take (k + 1) ↔ D.take k = E.take k ∧ dotAt D k = dotAt E k := by
  rw [take_dot h1, take_dot h2]
  constructor
  · intro h
    obtain ⟨a, b⟩ := List.append_inj h (by simp; omega)
    exact ⟨a, by simpa using b⟩
  · rintro ⟨a, b⟩; rw [a, b]
set_option maxRecDepth 100000 in
set_option maxHeartbeats 4000000 in
theorem equal_any (A B : Option Addr) (ca cb : Nat) (D E : List Dot) (w : World) (hD : Dots w A D) (hE : Dots w B E) (hn : (D.length : Int) ≤ 4611686018427387904) :
    Calls Try.prog 49 #[.slice A D.length ca, .slice B E.length cb] w fun e w' => e = .returned (.bool (decide (D = E))) ∧ Below w.heap.size w w' := by
  have HD := Lib.hid hD
  have HE := Lib.hid hE
  clear hD hE
  by_cases hl : D.length = E.length
  · rw [← hl]
    have hb : ((D.length : Int) != (D.length : Int)) = false := by simp
    have HLL := Lib.hid hl
    clear hl
    go_enter Try.func49, Try.ntmps49
    go_wp2_with fail
    clear hb
    go_loopw [13] (fun i wr => ∃ k : Nat, k ≤ D.length ∧ i = .int .i64 (k : Int) ∧ D.take k = E.take k ∧ Below w.heap.size w wr) (fun i _ => D.length - (intOf i).toNat)
    case atStart => exact ⟨0, by omega, rfl, rfl, Below.refl _ _⟩
    case round =>
      obtain ⟨k, hk, rfl, hq, hB⟩ := hrel
      have HQ := Lib.hid hq
      clear hq
      by_cases hlt : k < D.length
      · obtain ⟨b, o, rfl, c0, c1, c2, c3⟩ := (HD.out.below hB) k hlt
        obtain ⟨b', o', rfl, d0, d1, d2, d3⟩ := (HE.out.below hB) k (by rw [← HLL.out]; exact hlt)
        have HT := Lib.hid (take_eq hlt (show k < E.length by rw [← HLL.out]; exact hlt))
        replace c0 := fun d os => cell_regrown c0 d os
        replace c1 := fun d os => cell_regrown c1 d os
        replace c2 := fun d os => cell_regrown c2 d os
        replace c3 := fun d os => cell_regrown c3 d os
        replace d0 := fun d os => cell_regrown d0 d os
        replace d1 := fun d os => cell_regrown d1 d os
        replace d2 := fun d os => cell_regrown d2 d os
        replace d3 := fun d os => cell_regrown d3 d os
        have q1 : (0 : Int) ≤ (k : Int) := by omega
        have q2 : (k : Int) < (D.length : Int) := by omega
        have hnq := fun W => neq_dot W (dotAt D k) (dotAt E k)
        go_wp2_with fail
        refine wp_region_quiet_below (by kernel_rfl) (by kernel_rfl) ?_
        repeat (go_big_quiet_step (fail))
        refine wpQuiet_nil ?_
        intro wq hq0
        have hq := below_of_class hq0
        clear hq0
        clear c0 c1 c2 c3 d0 d1 d2 d3 hnq
        have hB2 := below_next hB hq
        cases hde : decide (dotAt D k = dotAt E k) with
        | false =>
          have hne : decide (D = E) = false := by
            refine decide_eq_false (fun h => ?_)
            subst h
            simp at hde
          have HN := Lib.hid hne
          clear hne
          go_wp2_with fail
          go_ret
          exact ⟨ret_bool HN.out.symm, hB2⟩
        | true =>
          have ht := HT.out.2 ⟨HQ.out, of_decide_eq_true hde⟩
          have HTT := Lib.hid ht
          clear ht
          go_wp2_with fail
          exact ⟨⟨k + 1, by omega, by go_num, HTT.out, hB2⟩, by simp [intOf]; omega⟩
      · obtain rfl : k = D.length := by omega
        have he := HQ.out
        rw [List.take_length, HLL.out, List.take_length] at he
        have HE2 := Lib.hid (show decide (D = E) = true from decide_eq_true he)
        clear he
        go_wp2_with fail
        go_ret
        exact ⟨ret_bool HE2.out.symm, hB⟩
  · have hb : ((D.length : Int) != (E.length : Int)) = true := by simp; omega
    have hne : decide (D = E) = false := decide_eq_false (fun h => hl (by rw [h]))
    have HN := Lib.hid hne
    clear hne
    go_enter Try.func49, Try.ntmps49
    go_wp2_with fail
    go_ret
    exact ⟨ret_bool HN.out.symm, Below.refl _ _⟩
def sameB (P N : Int) (D : List Dot) (Q M : Int) (E : List Dot) : Bool := decide (P = Q) && decide (N = M) && decide (D = E)
set_option maxRecDepth 100000 in
set_option maxHeartbeats 4000000 in
theorem same_any (P N Q M : Int) (A B : Option Addr) (ca cb : Nat) (D E : List Dot) (w : World) (hD : Dots w A D) (hE : Dots w B E) (hn : (D.length : Int) ≤ 4611686018427387904) :
    Calls Try.prog 24 #[.agg #[.int .i64 P, .int .i64 N, .slice A D.length ca], .agg #[.int .i64 Q, .int .i64 M, .slice B E.length cb]] w fun e w' => e = .returned (.bool (sameB P N D Q M E)) ∧ Below w.heap.size w w' := by
  have HD := Lib.hid hD
  have HE := Lib.hid hE
  clear hD hE
  have B0 : Below w.heap.size w ((w.alloc (.cells #[.int .i64 P, .int .i64 N, .slice A D.length ca] 27)).alloc (.cells #[.int .i64 Q, .int .i64 M, .slice B E.length cb] 27)) := below_alloc (below_alloc (Below.refl _ _) _) _
  cases hp : (P == Q) with
  | false =>
    have HS := Lib.hid (show sameB P N D Q M E = false by rw [beq_eq_false_iff_ne] at hp; simp [sameB, hp])
    go_enter Try.func24, Try.ntmps24
    go_wp2_with fail
    go_ret
    exact ⟨ret_bool HS.out.symm, B0⟩
  | true =>
    cases hm : (N == M) with
    | false =>
      have HS := Lib.hid (show sameB P N D Q M E = false by rw [beq_eq_false_iff_ne] at hm; simp [sameB, hm])
      go_enter Try.func24, Try.ntmps24
      go_wp2_with fail
      go_ret
      exact ⟨ret_bool HS.out.symm, B0⟩
    | true =>
      have HS := Lib.hid (show sameB P N D Q M E = decide (D = E) by rw [beq_iff_eq] at hp hm; simp [sameB, hp, hm])
      go_enter Try.func24, Try.ntmps24
      go_wp2_with fail
      refine (equal_any A B ca cb D E _ (HD.out.below B0) (HE.out.below B0) hn).mono ?_
      rintro e w1 ⟨rfl, b1⟩
      go_wp2_with fail
      go_ret
      exact ⟨ret_bool HS.out.symm, below_next B0 b1⟩
end Go.Proofs.Ytgmabepdhbnppaa
