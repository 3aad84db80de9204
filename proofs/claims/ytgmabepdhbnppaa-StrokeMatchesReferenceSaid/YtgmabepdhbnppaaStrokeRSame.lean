/- The reference's Same. -/
import Derived.Test.YtgmabepdhbnppaaStrokeSame
import Derived.Test.YtgmabepdhbnppaaHead
namespace Go.Proofs.Ytgmabepdhbnppaa
open Go.RowKit Str
set_option maxRecDepth 100000 in
set_option maxHeartbeats 4000000 in
theorem sameR_any (P N Q M : Int) (A B : Option Addr) (ca cb : Nat) (D E : List Dot) (w : World) (hD : Dots w A D) (hE : Dots w B E) (hn : (D.length : Int) ≤ 4611686018427387904) :
    Calls Try.prog 25 #[.agg #[.int .i64 P, .int .i64 N, .slice A D.length ca], .agg #[.int .i64 Q, .int .i64 M, .slice B E.length cb]] w fun e w' => e = .returned (.bool (sameB P N D Q M E)) ∧ Below w.heap.size w w' := by
  have HD := Lib.hid hD
  have HE := Lib.hid hE
  clear hD hE
  have B0 : Below w.heap.size w ((w.alloc (.cells #[.int .i64 P, .int .i64 N, .slice A D.length ca] 27)).alloc (.cells #[.int .i64 Q, .int .i64 M, .slice B E.length cb] 27)) := below_alloc (below_alloc (Below.refl _ _) _) _
  cases hp : (P != Q) with
  | true =>
    have HS := Lib.hid (show sameB P N D Q M E = false by rw [bne_iff_ne] at hp; simp [sameB, hp])
    go_enter Try.func25, Try.ntmps25
    go_wp2_with fail
    go_ret
    exact ⟨ret_bool HS.out.symm, B0⟩
  | false =>
    cases hm : (N != M) with
    | true =>
      have HS := Lib.hid (show sameB P N D Q M E = false by rw [bne_iff_ne] at hm; simp [sameB, hm])
      go_enter Try.func25, Try.ntmps25
      go_wp2_with fail
      go_ret
      exact ⟨ret_bool HS.out.symm, B0⟩
    | false =>
      have HS := Lib.hid (show sameB P N D Q M E = decide (D = E) by
        have hp' : P = Q := by simpa using hp
        have hm' : N = M := by simpa using hm
        simp [sameB, hp', hm'])
      by_cases hl : D.length = E.length
      · rw [← hl]
        rw [← hl] at B0
        have hb : ((D.length : Int) != (D.length : Int)) = false := by simp
        have HLL := Lib.hid hl
        clear hl
        have HD0 := Lib.hid (HD.out.below B0)
        have HE0 := Lib.hid (HE.out.below B0)
        go_enter Try.func25, Try.ntmps25
        go_wp2_with fail
        clear hb
        obtain ⟨W, hW⟩ : ∃ W, (w.alloc (.cells #[.int .i64 P, .int .i64 N, .slice A D.length ca] 27)).alloc (.cells #[.int .i64 Q, .int .i64 M, .slice B D.length cb] 27) = W := ⟨_, rfl⟩
        have s2 : W.cell? ⟨w.heap.size, 2, none⟩ = some (.slice A D.length ca) := by rw [← hW]; exact keep_alloc _ (new_cell rfl)
        have t2 : W.cell? ⟨w.heap.size + 1, 2, none⟩ = some (.slice B D.length cb) := by rw [← hW]; exact new_cell' rfl
        have HD1 := HD0.out
        have HE1 := HE0.out
        clear HD0 HE0
        rw [hW] at B0 HD1 HE1 ⊢
        clear hW
        have HD2 := Lib.hid HD1
        have HE2 := Lib.hid HE1
        clear HD1 HE1
        go_loopw [5] (fun i wr => ∃ k : Nat, k ≤ D.length ∧ i = .int .i64 (k : Int) ∧ D.take k = E.take k ∧ Below W.heap.size W wr) (fun i _ => D.length - (intOf i).toNat)
        case atStart => exact ⟨0, by omega, rfl, rfl, Below.refl _ _⟩
        case round =>
          obtain ⟨k, hk, rfl, hq, hB⟩ := hrel
          have HQ := Lib.hid hq
          clear hq
          have hB0 := below_next B0 hB
          replace s2 := cell_then hB s2
          replace t2 := cell_then hB t2
          by_cases hlt : k < D.length
          · obtain ⟨b, o, rfl, c0, c1, c2, c3⟩ := (HD2.out.below hB) k hlt
            obtain ⟨b', o', rfl, d0, d1, d2, d3⟩ := (HE2.out.below hB) k (by rw [← HLL.out]; exact hlt)
            have HT := Lib.hid (take_eq hlt (show k < E.length by rw [← HLL.out]; exact hlt))
            replace c0 := fun d os => cell_regrown c0 d os
            replace c1 := fun d os => cell_regrown c1 d os
            replace c2 := fun d os => cell_regrown c2 d os
            replace c3 := fun d os => cell_regrown c3 d os
            replace d0 := fun d os => cell_regrown d0 d os
            replace d1 := fun d os => cell_regrown d1 d os
            replace d2 := fun d os => cell_regrown d2 d os
            replace d3 := fun d os => cell_regrown d3 d os
            have u2 := fun d os => cell_regrown s2 d os
            have v2 := fun d os => cell_regrown t2 d os
            have q1 : (0 : Int) ≤ (k : Int) := by omega
            have q2 : (k : Int) < (D.length : Int) := by omega
            have hnq := fun W => neq_dot W (dotAt D k) (dotAt E k)
            go_wp2_with fail
            refine wp_region_quiet_below (by kernel_rfl) (by kernel_rfl) ?_
            repeat (go_big_quiet_step (fail))
            refine wpQuiet_nil ?_
            intro wq hq0
            have hq := below_of_class hq0
            clear hq0
            clear c0 c1 c2 c3 d0 d1 d2 d3 hnq u2 v2
            have hB2 := below_next hB hq
            have hB3 := below_next hB0 hq
            cases hde : decide (dotAt D k = dotAt E k) with
            | false =>
              have hne : decide (D = E) = false := by
                refine decide_eq_false (fun h => ?_)
                subst h
                simp at hde
              have HN := Lib.hid hne
              clear hne
              go_wp2_with fail
              go_ret
              exact ⟨ret_bool (by rw [HS.out, HN.out]), hB3⟩
            | true =>
              have ht := HT.out.2 ⟨HQ.out, of_decide_eq_true hde⟩
              have HTT := Lib.hid ht
              clear ht
              go_wp2_with fail
              exact ⟨⟨k + 1, by omega, by go_num, HTT.out, hB2⟩, by simp [intOf]; omega⟩
          · obtain rfl : k = D.length := by omega
            have he := HQ.out
            rw [List.take_length, HLL.out, List.take_length] at he
            have HE3 := Lib.hid (show decide (D = E) = true from decide_eq_true he)
            clear he
            go_wp2_with fail
            go_ret
            exact ⟨ret_bool (by rw [HS.out, HE3.out]), hB0⟩
      · have hb : ((D.length : Int) != (E.length : Int)) = true := by simp; omega
        have hne : decide (D = E) = false := decide_eq_false (fun h => hl (by rw [h]))
        have HN := Lib.hid hne
        clear hne
        go_enter Try.func25, Try.ntmps25
        go_wp2_with fail
        go_ret
        exact ⟨ret_bool (by rw [HS.out, HN.out]), B0⟩
end Go.Proofs.Ytgmabepdhbnppaa
