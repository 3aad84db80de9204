/- The law StrokeNear: the walk joined with the plain laws. -/
import Derived.Test.YtgmabepdhbnppaaStrokeNearL
namespace Go.Proofs.Ytgmabepdhbnppaa
open Go.RowKit Str
theorem near_law (xa xb xc xd xp xq tol more : Int) (w : World) (ia : I64 xa) (ib : I64 xb) (ic : I64 xc) (id : I64 xd) (ip : I64 xp) (iq : I64 xq) (it : I64 tol) (im : I64 more) :
    Calls Try.prog 8 #[.agg #[.int .i64 xa, .int .i64 xb, .int .i64 xc, .int .i64 xd, .int .i64 xp, .int .i64 xq], .int .i64 tol, .int .i64 more] w fun e w' => e = .returned (.bool true) ∧ Below w.heap.size w w' := by
  have h1 := place_pick xa xb
  have h2 := place_pick xc xd
  have h3 := place_pick xp xq
  have bz := pickI_bd tol (n := 1001) (by omega)
  have b_y := pickI_bd more (n := 1001 - pickI tol 1001) (by omega)
  have h21 : placeB (pickI xc 4096) (pickI xb 4096) = true := place_pick xc xb
  obtain ⟨z, hz⟩ : ∃ z, pickI tol 1001 = z := ⟨_, rfl⟩
  rw [hz] at bz b_y
  obtain ⟨y, hy⟩ : ∃ y, z + pickI more (1001 - z) = y := ⟨_, rfl⟩
  obtain ⟨a, ha⟩ : ∃ a, pickI xa 4096 = a := ⟨_, rfl⟩
  obtain ⟨b, hb⟩ : ∃ a, pickI xb 4096 = a := ⟨_, rfl⟩
  obtain ⟨c, hc⟩ : ∃ a, pickI xc 4096 = a := ⟨_, rfl⟩
  obtain ⟨d, hd⟩ : ∃ a, pickI xd 4096 = a := ⟨_, rfl⟩
  obtain ⟨p, hp⟩ : ∃ a, pickI xp 4096 = a := ⟨_, rfl⟩
  obtain ⟨q, hq⟩ : ∃ a, pickI xq 4096 = a := ⟨_, rfl⟩
  rw [ha, hb] at h1
  rw [hc, hd] at h2
  rw [hp, hq] at h3
  rw [hc, hb] at h21
  refine near_walk (nearB a b c d p q z) xa xb xc xd xp xq tol more a b c d p q z y w ia ib ic id ip iq it im ha hb hc hd hp hq hz hy rfl ?_ ?_ ?_ ?_ ?_ ?_
  · rw [nearB_in h2 h1 h3 (by omega) (by omega), nearB_in h1 h2 h3 (by omega) (by omega), near_sym]
  · rw [nearB_in h1 h2 h3 (by omega) (by omega), nearB_in h1 h2 h3 (by omega) (by omega)]
    exact near_mono (by omega) (by omega)
  · rw [nearB_in h1 h2 h1 (by omega) (by omega), near_first]
  · rw [nearB_in h1 h2 h2 (by omega) (by omega), near_second]
  · rw [nearB_in h1 h2 h3 (by omega) (by omega)]
    intro h
    have e1 := near_inside (by omega) h
    rw [← near_swap] at h
    have e2 := near_inside (by omega) h
    exact ⟨e1.1, e1.2, e2.1, e2.2⟩
  · intro g1 g2
    rw [nearB_in h1 h21 h3 (by omega) (by omega), near_level (by omega) g1 g2]
    refine decide_eq_decide.2 ?_
    unfold maxI
    split <;> omega
end Go.Proofs.Ytgmabepdhbnppaa
