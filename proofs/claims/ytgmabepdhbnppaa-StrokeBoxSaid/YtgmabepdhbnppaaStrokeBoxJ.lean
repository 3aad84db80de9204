/- The law StrokeBox: the walk joined with the plain laws. -/
import Derived.Test.YtgmabepdhbnppaaStrokeBoxL
namespace Go.Proofs.Ytgmabepdhbnppaa
open Go.RowKit Str
theorem box_law (a b a2 b2 tol : Int) (A : Option Addr) (cap : Nat) (es : List E3) (w : World) (ia : I64 a) (ib : I64 b) (ia2 : I64 a2) (ib2 : I64 b2) (it : I64 tol)
    (hE : Ents w A es) (hI : ∀ e ∈ es, I64 e.a ∧ I64 e.b ∧ I64 e.c) (hn : (es.length : Int) ≤ 9223372036854775807) :
    Calls Try.prog 9 #[.int .i64 a, .int .i64 b, .slice A es.length cap, .agg #[.int .i64 a2, .int .i64 b2], .int .i64 tol] w fun e w' => e = .returned (.bool true) ∧ Below w.heap.size w w' := by
  have hval : validB (pickI a 40) (1 + pickI b 999) (madeD a b (wrap64 (a * 37)) es) = true := made_valid a b _ es
  have hvE : validB (pickI a2 40) (1 + pickI b2 999) (madeD a2 b2 (wrap64 (a2 * 37)) es) = true := made_valid a2 b2 _ es
  obtain ⟨D, hD⟩ : ∃ D, madeD a b (wrap64 (a * 37)) es = D := ⟨_, rfl⟩
  obtain ⟨E, hDE⟩ : ∃ D, madeD a2 b2 (wrap64 (a2 * 37)) es = D := ⟨_, rfl⟩
  rw [hD] at hval
  rw [hDE] at hvE
  have b1 := pickI_bd b (n := 999) (by omega)
  have b3 := pickI_bd b2 (n := 999) (by omega)
  obtain ⟨P, hP⟩ : ∃ P, pickI a 40 = P := ⟨_, rfl⟩
  obtain ⟨N, hN⟩ : ∃ N, 1 + pickI b 999 = N := ⟨_, rfl⟩
  obtain ⟨Q, hQ⟩ : ∃ P, pickI a2 40 = P := ⟨_, rfl⟩
  obtain ⟨M, hM⟩ : ∃ N, 1 + pickI b2 999 = N := ⟨_, rfl⟩
  rw [hP, hN] at hval
  rw [hQ, hM] at hvE
  have hpl := placed (validB_dots hval)
  have hl := valid_len hval
  have h1 : 1 ≤ D.length := by omega
  have hb := box_bd h1 hpl
  have hw := way_box h1 hpl
  obtain ⟨s1, ⟨p1, m1, q1⟩, ⟨p2, m2, q2⟩, ⟨p3, m3, q3⟩, ⟨p4, m4, q4⟩⟩ := box_spec h1
  obtain ⟨X, Y, V, H, hbox⟩ : ∃ X Y V H, boxF D = (X, Y, V, H) := ⟨_, _, _, _, rfl⟩
  rw [hbox] at hb hw s1 q1 q2 q3 q4
  dsimp only at hb hw s1 q1 q2 q3 q4
  have bz := pickI_bd tol (n := 1001) (by omega)
  refine box_walk a b _ a2 b2 _ tol P N Q M X Y V H _ _ A cap es D E w ia ib ia2 ib2 it rfl rfl hE hI hn hD hDE hP hN hQ hM rfl hval hvE hbox (by omega) (by omega) rfl hw.1 hw.2 (fun j hj => s1 _ (dotAt_mem hj)) (fun j hj => within_own hpl hj (isInB_iff.2 ⟨by omega, by omega⟩)) ?_ ?_
  · intro c0 c1 c2 c3 h
    have g : ∀ d ∈ D, SideQ X Y V H d c0 c1 c2 c3 := fun d hd => by
      obtain ⟨i, hi, rfl⟩ := List.getElem_of_mem hd
      have := h i hi
      rwa [dotAt_lt hi] at this
    exact ⟨(g _ m1).1 q1, (g _ m2).2.1 q2, (g _ m3).2.2.1 q3, (g _ m4).2.2.2 q4⟩
  · have hc := code_eq (P := P) (N := N) (Q := Q) (M := M) (by omega) (by omega)
    rw [Bool.eq_iff_iff, Bool.and_eq_true, beq_iff_eq, beq_iff_eq, beq_iff_eq]
    exact hc
end Go.Proofs.Ytgmabepdhbnppaa
