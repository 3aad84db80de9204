/- The small functions of the chapter's laws and reference: pick, Ints, example. -/
import Derived.Test.YtgmabepdhbnppaaStrokeSame
import Derived.Test.YtgmabepdhbnppaaArr
namespace Go.Proofs.Ytgmabepdhbnppaa
open Go.RowKit Str
/-- an integer of 64 bits -/
def I64 (c : Int) : Prop := -9223372036854775808 ≤ c ∧ c ≤ 9223372036854775807
def pickI (c n : Int) : Int := (if c < 0 then -(c + 1) else c) % n
theorem pickI_bd (c : Int) {n : Int} (h : 0 < n) : 0 ≤ pickI c n ∧ pickI c n < n := ⟨Int.emod_nonneg _ (by omega), Int.emod_lt_of_pos _ h⟩
theorem tmodI (a n : Int) (h : 0 ≤ a) : a.tmod n = a % n := Int.tmod_eq_emod_of_nonneg h
theorem pickL_any (c n : Int) (w : World) (hc : I64 c) (hn : 0 < n) (hn2 : n ≤ 9223372036854775807) : Calls Try.prog 12 #[.int .i64 c, .int .i64 n] w fun e w' => e = .returned (.int .i64 (pickI c n)) ∧ w = w' := by
  obtain ⟨h1, h2⟩ := hc
  by_cases h : c < 0
  · have hp := Lib.hid (show pickI c n = (-(c + 1)).tmod n by rw [tmodI _ _ (by omega), pickI, if_pos h])
    have hz : (n == 0) = false := by rw [beq_eq_false_iff_ne]; omega
    go_enter Try.func12, Try.ntmps12
    go_wp2_with fail
    go_ret
    exact ⟨ret_int (by rw [hp.out, Int.neg_tmod]), rfl⟩
  · have hp := Lib.hid (show pickI c n = c.tmod n by rw [tmodI _ _ (by omega), pickI, if_neg h])
    have hz : (n == 0) = false := by rw [beq_eq_false_iff_ne]; omega
    go_enter Try.func12, Try.ntmps12
    go_wp2_with fail
    go_ret
    exact ⟨ret_int (by rw [hp.out]; first | rfl | rw [tmodI _ _ (by omega)]), rfl⟩
theorem pickR_any (c n : Int) (w : World) (hc : I64 c) (hn : 0 < n) (hn2 : n ≤ 9223372036854775807) : Calls Try.prog 41 #[.int .i64 c, .int .i64 n] w fun e w' => e = .returned (.int .i64 (pickI c n)) ∧ w = w' := by
  obtain ⟨h1, h2⟩ := hc
  by_cases h : c < 0
  · have hp := Lib.hid (show pickI c n = (-(c + 1)).tmod n by rw [tmodI _ _ (by omega), pickI, if_pos h])
    have hz : (n == 0) = false := by rw [beq_eq_false_iff_ne]; omega
    go_enter Try.func41, Try.ntmps41
    go_wp2_with fail
    go_ret
    exact ⟨ret_int (by rw [hp.out, Int.neg_tmod]), rfl⟩
  · have hp := Lib.hid (show pickI c n = c.tmod n by rw [tmodI _ _ (by omega), pickI, if_neg h])
    have hz : (n == 0) = false := by rw [beq_eq_false_iff_ne]; omega
    go_enter Try.func41, Try.ntmps41
    go_wp2_with fail
    go_ret
    exact ⟨ret_int (by rw [hp.out]; first | rfl | rw [tmodI _ _ (by omega)]), rfl⟩
theorem takeI_eq {D E : List Int} {k : Nat} (h1 : k < D.length) (h2 : k < E.length) : D.take (k + 1) = E.take (k + 1) ↔ D.take k = E.take k ∧ D.getD k 0 = E.getD k 0 := by
  have e : ∀ (l : List Int), k < l.length → l.take (k + 1) = l.take k ++ [l.getD k 0] := fun l h => by
    rw [List.take_succ_eq_append_getElem h, List.getD, List.getElem?_eq_getElem h]; rfl
  rw [e D h1, e E h2]
  constructor
  · intro h
    obtain ⟨a, b⟩ := List.append_inj h (by simp; omega)
    exact ⟨a, by simpa using b⟩
  · rintro ⟨a, b⟩; rw [a, b]
set_option maxRecDepth 100000 in
set_option maxHeartbeats 4000000 in
theorem ints_any (A B : Option Addr) (ca cb : Nat) (D E : List Int) (w : World) (hD : IntsAt w A D) (hE : IntsAt w B E) (hn : (D.length : Int) ≤ 4611686018427387904) :
    Calls Try.prog 30 #[.slice A D.length ca, .slice B E.length cb] w fun e w' => e = .returned (.bool (decide (D = E))) ∧ Below w.heap.size w w' := by
  have HD := Lib.hid hD
  have HE := Lib.hid hE
  clear hD hE
  by_cases hl : D.length = E.length
  · rw [← hl]
    have hb : ((D.length : Int) != (D.length : Int)) = false := by simp
    have HLL := Lib.hid hl
    clear hl
    go_enter Try.func30, Try.ntmps30
    go_wp2_with fail
    clear hb
    go_loopw [5] (fun i wr => ∃ k : Nat, k ≤ D.length ∧ i = .int .i64 (k : Int) ∧ D.take k = E.take k ∧ Below w.heap.size w wr) (fun i _ => D.length - (intOf i).toNat)
    case atStart => exact ⟨0, by omega, rfl, rfl, Below.refl _ _⟩
    case round =>
      obtain ⟨k, hk, rfl, hq, hB⟩ := hrel
      have HQ := Lib.hid hq
      clear hq
      by_cases hlt : k < D.length
      · obtain ⟨b, o, rfl, c0⟩ := (HD.out.then_ hB) k hlt
        obtain ⟨b', o', rfl, d0⟩ := (HE.out.then_ hB) k (by rw [← HLL.out]; exact hlt)
        have HT := Lib.hid (takeI_eq hlt (show k < E.length by rw [← HLL.out]; exact hlt))
        obtain ⟨x, hx⟩ : ∃ x, D.getD k 0 = x := ⟨_, rfl⟩
        obtain ⟨y, hy⟩ : ∃ y, E.getD k 0 = y := ⟨_, rfl⟩
        rw [hx] at c0
        rw [hy] at d0
        have HX := Lib.hid hx
        have HY := Lib.hid hy
        clear hx hy
        replace c0 := fun d os => cell_regrown c0 d os
        replace d0 := fun d os => cell_regrown d0 d os
        have q1 : (0 : Int) ≤ (k : Int) := by omega
        have q2 : (k : Int) < (D.length : Int) := by omega
        go_wp2_with fail
        refine wp_region_quiet_below (by kernel_rfl) (by kernel_rfl) ?_
        repeat (go_big_quiet_step (fail))
        refine wpQuiet_nil ?_
        intro wq hq0
        have hq := below_of_class hq0
        clear hq0
        clear c0 d0
        have hB2 := below_next hB hq
        by_cases hde : x = y
        · have ht := HT.out.2 ⟨HQ.out, by rw [HX.out, HY.out]; exact hde⟩
          have HTT := Lib.hid ht
          have hbb : (x != y) = false := by simp [hde]
          clear ht hde
          go_wp2_with fail
          exact ⟨⟨k + 1, by omega, by go_num, HTT.out, hB2⟩, by simp [intOf]; omega⟩
        · have hne : decide (D = E) = false := decide_eq_false (fun h => hde (by rw [← HX.out, ← HY.out, h]))
          have HN := Lib.hid hne
          have hbb : (x != y) = true := by simp [hde]
          clear hne hde
          go_wp2_with fail
          go_ret
          exact ⟨ret_bool HN.out.symm, hB2⟩
      · obtain rfl : k = D.length := by omega
        have he := HQ.out
        rw [List.take_length, HLL.out, List.take_length] at he
        have HE2 := Lib.hid (show decide (D = E) = true from decide_eq_true he)
        clear he
        go_wp2_with fail
        go_ret
        exact ⟨ret_bool HE2.out.symm, hB⟩
  · have hb : ((D.length : Int) != (E.length : Int)) = true := by simp; omega
    have hne : decide (D = E) = false := decide_eq_false (fun h => hl (by rw [h]))
    have HN := Lib.hid hne
    clear hne
    go_enter Try.func30, Try.ntmps30
    go_wp2_with fail
    go_ret
    exact ⟨ret_bool HN.out.symm, Below.refl _ _⟩
/-- the chapter's example -/
def exD : List Dot := [⟨0, 0, 0, 0⟩, ⟨50, 2, 0, 0⟩, ⟨100, 0, 0, 0⟩, ⟨100, 60, 0, 0⟩, ⟨101, 100, 0, 0⟩]
def ExP (w : World) (e : Ending) (w' : World) : Prop := ∃ g, e = .returned (.agg #[.int .i64 2, .int .i64 7, .slice (some ⟨g, 0, none⟩) 5 5]) ∧ Dots w' (some ⟨g, 0, none⟩) exD ∧ Below w.heap.size w w'
theorem example_any (w : World) : Calls Try.prog 40 #[] w (ExP w) := by
  go_enter Try.func40, Try.ntmps40
  go_wp2_with fail
  refine bodyPost_ret (v := .agg #[.int .i64 2, .int .i64 7, .slice (some ⟨w.heap.size + 1, 0, none⟩) 5 5]) (by simp [results, Try.results40, go_sem]) rfl ⟨w.heap.size + 1, rfl, fun i hi => ?_, below_alloc (below_alloc (Below.refl _ _) _) _⟩
  have hi5 : i < 5 := hi
  refine ⟨_, _, rfl, ?_⟩
  rcases (show i = 0 ∨ i = 1 ∨ i = 2 ∨ i = 3 ∨ i = 4 by omega) with rfl | rfl | rfl | rfl | rfl
  all_goals exact ⟨new_cell' rfl, new_cell' rfl, new_cell' rfl, new_cell' rfl⟩
end Go.Proofs.Ytgmabepdhbnppaa
