/- The reference's and the laws' small functions: pick, Find, Has, outward, Ints. -/
import Derived.Test.YtebfenkjipaedaaGrpDis
namespace Go.Proofs.Ytebfenkjipaedaa.Gp
def pickI (c n : Int) : Int := (if c < 0 then -(c + 1) else c) % n
theorem pickI_bd (c : Int) {n : Int} (h : 0 < n) : 0 ≤ pickI c n ∧ pickI c n < n := ⟨Int.emod_nonneg _ (by omega), Int.emod_lt_of_pos _ h⟩
theorem tmodI (a n : Int) (h : 0 ≤ a) : a.tmod n = a % n := Int.tmod_eq_emod_of_nonneg h
/-- the index of a group -/
def idxI (l : List Grp) (id : Int) : Int := match l.findIdx? (fun g => g.id == id) with | some k => (k : Int) | none => -1
theorem idxI_some {l : List Grp} {id : Int} {k : Nat} (hk : k < l.length) (h : (l.getD k g0).id = id) (hj : ∀ j, j < k → (l.getD j g0).id ≠ id) : idxI l id = (k : Int) := by
  have : l.findIdx? (fun g => g.id == id) = some k := by
    rw [List.findIdx?_eq_some_iff_getElem]
    refine ⟨hk, ?_, fun j hji => ?_⟩
    · rw [← getD_eq (d := g0) hk, beq_iff_eq]; exact h
    · have := hj j hji
      rw [getD_eq (by omega)] at this
      simpa using this
  unfold idxI
  rw [this]
theorem idxI_none {l : List Grp} {id : Int} (h : ∀ j, j < l.length → (l.getD j g0).id ≠ id) : idxI l id = -1 := by
  have : l.findIdx? (fun g => g.id == id) = none := by
    rw [List.findIdx?_eq_none_iff]
    intro x hx
    obtain ⟨j, hj, e⟩ := ex_getD g0 hx
    have := h j hj
    rw [e] at this
    exact beq_eq_false_iff_ne.2 this
  unfold idxI
  rw [this]
/-- what an index says -/
theorem idxI_cases (l : List Grp) (id : Int) : (idxI l id = -1 ∧ find l id = none) ∨ ∃ k : Nat, k < l.length ∧ idxI l id = (k : Int) ∧ (l.getD k g0).id = id ∧ find l id = some (l.getD k g0) := by
  cases h : l.findIdx? (fun g => g.id == id) with
  | none =>
    refine .inl ⟨by unfold idxI; rw [h], ?_⟩
    rw [List.findIdx?_eq_none_iff] at h
    exact List.find?_eq_none.2 (fun x hx => by rw [h x hx]; simp)
  | some k =>
    rw [List.findIdx?_eq_some_iff_getElem] at h
    obtain ⟨hk, h1, h2⟩ := h
    have h1' : (l.getD k g0).id = id := by rw [getD_eq hk]; exact beq_iff_eq.1 h1
    have h2' : ∀ j, j < k → (l.getD j g0).id ≠ id := fun j hj => by rw [getD_eq (by omega)]; simpa using h2 j hj
    refine .inr ⟨k, hk, idxI_some hk h1' h2', h1', ?_⟩
    unfold find
    rw [List.find?_eq_some_iff_getElem]
    exact ⟨by rw [h1']; simp, k, hk, (getD_eq hk).symm, fun j hj => by have := h2' j hj; rw [getD_eq (by omega)] at this; simpa using this⟩
/-- outward, as the reference goes -/
def outR (l : List Grp) : Nat → Int → List Int
  | 0, _ => []
  | n + 1, id => match find l id with | none => [] | some g => g.id :: outR l n g.of
end Go.Proofs.Ytebfenkjipaedaa.Gp
namespace Go.Proofs.Ytebfenkjipaedaa.Gr
open Go.RowKit Gp Go.Sort
attribute [local go_sem] Oper.semAt_some
theorem pickL_any (c n : Int) (w : World) (hc : I64 c) (hn : 0 < n) (hn2 : n ≤ 9223372036854775807) : Calls Try.prog 13 #[.int .i64 c, .int .i64 n] w fun e w' => e = .returned (.int .i64 (pickI c n)) ∧ w = w' := by
  obtain ⟨h1, h2⟩ := hc
  by_cases h : c < 0
  · have hp := Lib.hid (show pickI c n = (-(c + 1)).tmod n by rw [tmodI _ _ (by omega), pickI, if_pos h])
    have hz : (n == 0) = false := by rw [beq_eq_false_iff_ne]; omega
    go_enter Try.func13, Try.ntmps13
    go_wp2_with fail
    go_ret
    exact ⟨ret_int (by rw [hp.out, Int.neg_tmod]), rfl⟩
  · have hp := Lib.hid (show pickI c n = c.tmod n by rw [tmodI _ _ (by omega), pickI, if_neg h])
    have hz : (n == 0) = false := by rw [beq_eq_false_iff_ne]; omega
    go_enter Try.func13, Try.ntmps13
    go_wp2_with fail
    go_ret
    exact ⟨ret_int (by rw [hp.out]; first | rfl | rw [tmodI _ _ (by omega)]), rfl⟩
theorem pickR_any (c n : Int) (w : World) (hc : I64 c) (hn : 0 < n) (hn2 : n ≤ 9223372036854775807) : Calls Try.prog 35 #[.int .i64 c, .int .i64 n] w fun e w' => e = .returned (.int .i64 (pickI c n)) ∧ w = w' := by
  obtain ⟨h1, h2⟩ := hc
  by_cases h : c < 0
  · have hp := Lib.hid (show pickI c n = (-(c + 1)).tmod n by rw [tmodI _ _ (by omega), pickI, if_pos h])
    have hz : (n == 0) = false := by rw [beq_eq_false_iff_ne]; omega
    go_enter Try.func35, Try.ntmps35
    go_wp2_with fail
    go_ret
    exact ⟨ret_int (by rw [hp.out, Int.neg_tmod]), rfl⟩
  · have hp := Lib.hid (show pickI c n = c.tmod n by rw [tmodI _ _ (by omega), pickI, if_neg h])
    have hz : (n == 0) = false := by rw [beq_eq_false_iff_ne]; omega
    go_enter Try.func35, Try.ntmps35
    go_wp2_with fail
    go_ret
    exact ⟨ret_int (by rw [hp.out]; first | rfl | rw [tmodI _ _ (by omega)]), rfl⟩
set_option maxRecDepth 100000 in
set_option maxHeartbeats 4000000 in
theorem find_any (A : Option Addr) (c : Nat) (l : List Grp) (id : Int) (w : World) (h : GrpsAt w A l) (hl : l.length ≤ 1000) :
    Calls Try.prog 33 #[.slice A l.length c, .int .i64 id] w fun e w' => e = .returned (.int .i64 (idxI l id)) ∧ w = w' := by
  have H := Lib.hid h
  have hll : (l.length : Int) ≤ 1000 := by omega
  clear h
  go_enter Try.func33, Try.ntmps33
  go_wp2_with fail
  go_loopw [5] (fun i wr => ∃ k : Nat, k ≤ l.length ∧ i = .int .i64 (k : Int) ∧ (∀ j, j < k → (l.getD j g0).id ≠ id) ∧ wr = w) (fun i _ => l.length - (intOf i).toNat)
  case atStart => exact ⟨0, by omega, rfl, fun j hj => by omega, rfl⟩
  case round =>
    obtain ⟨k, hk, rfl, hq, rfl⟩ := hrel
    have HQ := Lib.hid hq
    clear hq
    by_cases hlt : k < l.length
    · obtain ⟨⟨b, o, rfl, hx⟩, _⟩ := H.out k hlt
      have y0 := hx.id
      obtain ⟨y, hy⟩ : ∃ y, (l.getD k g0).id = y := ⟨_, rfl⟩
      rw [hy] at y0
      have HY := Lib.hid hy
      clear hy hx
      by_cases e : y = id
      · have hb : (y == id) = true := beq_iff_eq.2 e
        have HE := Lib.hid (idxI_some hlt (HY.out.trans e) HQ.out)
        clear e
        go_wp2_with fail
        go_ret
        exact ⟨ret_int HE.out.symm, rfl⟩
      · have hb : (y == id) = false := beq_eq_false_iff_ne.2 e
        have HQ2 := Lib.hid (show ∀ j, j < k + 1 → (l.getD j g0).id ≠ id from fun j hj => by
          rcases Nat.lt_succ_iff_lt_or_eq.1 hj with h | h
          · exact HQ.out j h
          · rw [h, HY.out]; exact e)
        clear e
        go_wp2_with fail
        exact ⟨⟨k + 1, by omega, by go_num, HQ2.out, trivial⟩, by simp [intOf]; omega⟩
    · obtain rfl : k = l.length := by omega
      have HE := Lib.hid (idxI_none HQ.out)
      go_wp2_with fail
      go_ret
      exact ⟨ret_int HE.out.symm, rfl⟩
set_option maxRecDepth 100000 in
set_option maxHeartbeats 4000000 in
theorem has_any (A : Option Addr) (c : Nat) (l : List Int) (x : Int) (w : World) (hl : l.length ≤ 100000) (h : IntsAt w A l) :
    Calls Try.prog 34 #[.slice A l.length c, .int .i64 x] w fun e w' => e = .returned (.bool (l.contains x)) ∧ w = w' := by
  have H := Lib.hid h
  have hll : (l.length : Int) ≤ 100000 := by omega
  clear h
  go_enter Try.func34, Try.ntmps34
  go_wp2_with fail
  go_loopw [5] (fun i wr => ∃ k : Nat, k ≤ l.length ∧ i = .int .i64 (k : Int) ∧ (∀ j, j < k → l.getD j 0 ≠ x) ∧ wr = w) (fun i _ => l.length - (intOf i).toNat)
  case atStart => exact ⟨0, by omega, rfl, fun j hj => by omega, rfl⟩
  case round =>
    obtain ⟨k, hk, rfl, hq, rfl⟩ := hrel
    have HQ := Lib.hid hq
    clear hq
    by_cases hlt : k < l.length
    · obtain ⟨b, o, rfl, c0⟩ := H.out k hlt
      obtain ⟨y, hy⟩ : ∃ y, l.getD k 0 = y := ⟨_, rfl⟩
      rw [hy] at c0
      have HY := Lib.hid hy
      clear hy
      by_cases e : y = x
      · have hb : (y == x) = true := beq_iff_eq.2 e
        have HE := Lib.hid (show l.contains x = true by rw [List.contains_eq_mem, decide_eq_true_iff, ← e, ← HY.out]; exact mem_getD hlt)
        clear e
        go_wp2_with fail
        go_ret
        exact ⟨ret_bool HE.out.symm, rfl⟩
      · have hb : (y == x) = false := beq_eq_false_iff_ne.2 e
        have HQ2 := Lib.hid (show ∀ j, j < k + 1 → l.getD j 0 ≠ x from fun j hj => by
          rcases Nat.lt_succ_iff_lt_or_eq.1 hj with h | h
          · exact HQ.out j h
          · rw [h, HY.out]; exact e)
        clear e
        go_wp2_with fail
        exact ⟨⟨k + 1, by omega, by go_num, HQ2.out, trivial⟩, by simp [intOf]; omega⟩
    · obtain rfl : k = l.length := by omega
      have HE := Lib.hid (show l.contains x = false by
        rw [List.contains_eq_mem, decide_eq_false_iff_not]
        intro hm
        obtain ⟨j, hj, e⟩ := ex_getD 0 hm
        exact HQ.out j hj e)
      go_wp2_with fail
      go_ret
      exact ⟨ret_bool HE.out.symm, rfl⟩
set_option maxRecDepth 100000 in
set_option maxHeartbeats 4000000 in
theorem ints_yes (A B : Option Addr) (ca cb : Nat) (l : List Int) (w : World) (hl : l.length ≤ 100000) (h : IntsAt w A l) (h' : IntsAt w B l) :
    Calls Try.prog 21 #[.slice A l.length ca, .slice B l.length cb] w fun e w' => e = .returned (.bool true) ∧ Below w.heap.size w w' := by
  have H := Lib.hid h
  have H' := Lib.hid h'
  have hll : (l.length : Int) ≤ 100000 := by omega
  have hne : ((l.length : Int) != (l.length : Int)) = false := by simp
  clear h h'
  go_enter Try.func21, Try.ntmps21
  go_wp2_with fail
  go_loopw [5] (fun i wr => ∃ k : Nat, k ≤ l.length ∧ i = .int .i64 (k : Int) ∧ Below w.heap.size w wr) (fun i _ => l.length - (intOf i).toNat)
  case atStart => exact ⟨0, by omega, rfl, Below.refl _ _⟩
  case round =>
    obtain ⟨k, hk, rfl, hB⟩ := hrel
    have HB := Lib.hid hB
    clear hB
    by_cases hlt : k < l.length
    · have hkl : (k : Int) < (l.length : Int) := by omega
      have hk0 : (0 : Int) ≤ (k : Int) := by omega
      obtain ⟨b, o, rfl, c0⟩ := (H.out.then_ HB.out) k hlt
      obtain ⟨b', o', rfl, c1⟩ := (H'.out.then_ HB.out) k hlt
      obtain ⟨y, hy⟩ : ∃ y, l.getD k 0 = y := ⟨_, rfl⟩
      rw [hy] at c0 c1
      have g_1 := fun D os => cell_regrown c0 D os
      have g_2 := fun D os => cell_regrown c1 D os
      have hyy : (y != y) = false := by simp
      clear hy
      go_wp2_with fail
      refine wp_region_quiet_below (by kernel_rfl) (by kernel_rfl) ?_
      repeat (go_big_quiet_step (fail))
      refine wpQuiet_nil ?_
      intro wq hq0
      have hq := below_of_class hq0
      clear hq0
      have B2 := Lib.hid (below_next HB.out hq)
      clear g_1 g_2 hq
      go_wp2_with fail
      exact ⟨⟨k + 1, by omega, by go_num, B2.out⟩, by simp [intOf]; omega⟩
    · obtain rfl : k = l.length := by omega
      go_wp2_with fail
      go_ret
      exact ⟨rfl, HB.out⟩
end Go.Proofs.Ytebfenkjipaedaa.Gr
