/- Package group: Dissolve, refused. -/
import Derived.Test.YtebfenkjipaedaaGrpDis
namespace Go.Proofs.Ytebfenkjipaedaa.Gr
open Go.RowKit Gp Go.Sort
attribute [local go_sem] Oper.semAt_some
set_option maxRecDepth 100000 in
set_option maxHeartbeats 4000000 in
theorem dissolve_bad (A : Option Addr) (c : Nat) (l : List Grp) (id : Int) (w : World) (hG : GrpsAt w A l) (hS : Sized l) (hv : ¬ Valid l) (hi : I64 id) :
    Calls Try.prog 24 #[.slice A l.length c, .int .i64 id] w fun e w' => e = .returned (.tuple #[.slice none 0 0, .int .i64 130]) ∧ Below w.heap.size w w' := by
  have HR := Lib.hid (read_any A c l w hG hS)
  have HI := Lib.hid hi
  have HV := Lib.hid hv
  have HG := Lib.hid hG
  clear hG hS hv hi
  go_enter Try.func24, Try.ntmps24
  go_wp2_with fail
  refine HR.out.mono ?_
  rintro e w1 ⟨m, o, b, f, f', rfl, hb1, hbv, h1, h2, _, hff⟩
  obtain ⟨m, rfl⟩ := h1.shape
  obtain ⟨o, rfl⟩ := h2.shape
  cases b with
  | true => exact absurd (hbv.1 rfl) HV.out
  | false =>
  have B1 := Lib.hid hb1
  have hx2 := h1.then_ (below_alloc (Below.refl _ _) (.cells #[.map m, .map o] 73))
  have hlk := hx2.look_ok gmap_u (grp_zero _) HI.out
  obtain ⟨g, A', n', c', hg1, hg2⟩ : ∃ g A' n' c', (f id).getD (gv g0) = gv g ∧ g.v = .slice A' n' c' := by
    rcases hff with h | h
    · exact ⟨g0, _, _, _, by rw [h]; rfl, rfl⟩
    · obtain ⟨A', n', c', h'⟩ := found_slice HG.out id
      exact ⟨_, _, _, _, by rw [h, gv_of], h'⟩
  rw [hg1, gv, hg2] at hlk
  obtain ⟨kn, hkn⟩ : ∃ kn, (f id).isSome = kn := ⟨_, rfl⟩
  rw [hkn] at hlk
  unfold iv
  clear h1 h2 hb1 hbv hx2 hff hg1 hg2 hkn
  go_wp2_with fail
  (first | refine bodyPost_ret (results_tmp2 rfl _ _ _) rfl ?_ | refine bodyPost_end (results_tmp2 rfl _ _ _) rfl ?_)
  exact ⟨rfl, below_alloc (below_alloc B1.out _) _⟩
set_option maxRecDepth 100000 in
set_option maxHeartbeats 4000000 in
theorem dissolve_none (A : Option Addr) (c : Nat) (l : List Grp) (id : Int) (w : World) (hG : GrpsAt w A l) (hS : Sized l) (hv : Valid l) (hi : I64 id) (hk : (find l id).isSome = false) :
    Calls Try.prog 24 #[.slice A l.length c, .int .i64 id] w fun e w' => e = .returned (.tuple #[.slice none 0 0, .int .i64 130]) ∧ Below w.heap.size w w' := by
  have HR := Lib.hid (read_yes A c l w hG hS hv)
  have HI := Lib.hid hi
  have HK := Lib.hid hk
  clear hG hS hv hi hk
  go_enter Try.func24, Try.ntmps24
  go_wp2_with fail
  refine HR.out.mono ?_
  rintro e w1 ⟨m, o, rfl, hx, hb1⟩
  have B1 := Lib.hid hb1
  have hlk := (hx.then_ (below_alloc (Below.refl _ _) (.cells #[.map m, .map o] 73))).g.look_ok gmap_u (grp_zero _) HI.out
  rw [gv_of, Option.isSome_map, HK.out, show find l id = none by simpa using HK.out] at hlk
  unfold iv
  simp only [Option.getD_none, gv, g0] at hlk
  clear hx hb1
  go_wp2_with fail
  (first | refine bodyPost_ret (results_tmp2 rfl _ _ _) rfl ?_ | refine bodyPost_end (results_tmp2 rfl _ _ _) rfl ?_)
  exact ⟨rfl, below_alloc (below_alloc B1.out _) _⟩
theorem dissolve_no (A : Option Addr) (c : Nat) (l : List Grp) (id : Int) (w : World) (hG : GrpsAt w A l) (hS : Sized l) (hi : I64 id) (hv : ¬ (Valid l ∧ (find l id).isSome = true)) :
    Calls Try.prog 24 #[.slice A l.length c, .int .i64 id] w fun e w' => e = .returned (.tuple #[.slice none 0 0, .int .i64 130]) ∧ Below w.heap.size w w' := by
  by_cases h : Valid l
  · exact dissolve_none A c l id w hG hS h hi (by cases hk : (find l id).isSome with | false => rfl | true => exact absurd ⟨h, hk⟩ hv)
  · exact dissolve_bad A c l id w hG hS h hi
end Go.Proofs.Ytebfenkjipaedaa.Gr
