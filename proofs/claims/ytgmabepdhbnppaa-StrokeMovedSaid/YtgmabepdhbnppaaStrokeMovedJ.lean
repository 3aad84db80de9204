/- The law StrokeMoved: the walks joined with the plain laws. -/
import Derived.Test.YtgmabepdhbnppaaStrokeMovedL
namespace Go.Proofs.Ytgmabepdhbnppaa
open Go.RowKit Str
theorem thin_len {D : List Dot} {z : Int} (h1 : 1 ≤ D.length) : (thinF D z).length ≤ D.length := by
  have := tail_len (ok := okD D z) (L := D.length - 1) (D.length - 1) 0
  rw [thinF, List.length_cons]
  omega
theorem moved_law (a b tol n0 n1 : Int) (A : Option Addr) (cap : Nat) (es : List E3) (w : World) (ia : I64 a) (ib : I64 b) (it : I64 tol) (i0 : I64 n0) (i1 : I64 n1)
    (hE : Ents w A es) (hI : ∀ e ∈ es, I64 e.a ∧ I64 e.b ∧ I64 e.c) (hn : (es.length : Int) ≤ 9223372036854775807) :
    Calls Try.prog 7 #[.int .i64 a, .int .i64 b, .slice A es.length cap, .agg #[.int .i64 n0, .int .i64 n1], .int .i64 tol] w fun e w' => e = .returned (.bool true) ∧ Below w.heap.size w w' := by
  have hval : validB (pickI a 40) (1 + pickI b 999) (madeD a b (wrap64 (a * 37)) es) = true := made_valid a b _ es
  obtain ⟨D, hD⟩ : ∃ D, madeD a b (wrap64 (a * 37)) es = D := ⟨_, rfl⟩
  rw [hD] at hval
  obtain ⟨P, hP⟩ : ∃ P, pickI a 40 = P := ⟨_, rfl⟩
  obtain ⟨N, hN⟩ : ∃ N, 1 + pickI b 999 = N := ⟨_, rfl⟩
  rw [hP, hN] at hval
  obtain ⟨u, hu⟩ : ∃ u, pickI n0 3000 - 1500 = u := ⟨_, rfl⟩
  obtain ⟨v, hv⟩ : ∃ v, pickI n1 3000 - 1500 = v := ⟨_, rfl⟩
  obtain ⟨E, hME⟩ : ∃ E, moveD u v D = E := ⟨_, rfl⟩
  have hpl := placed (validB_dots hval)
  have hl := valid_len hval
  have h1 : 1 ≤ D.length := by omega
  have h2 : D.length ≤ 200 := by omega
  have hb := box_bd h1 hpl
  have hf := move_fits u v h1 (validB_dots hval)
  have hbE := box_move u v h1
  rw [hME] at hf hbE
  obtain ⟨X, Y, V, H, hbox⟩ : ∃ X Y V H, boxF D = (X, Y, V, H) := ⟨_, _, _, _, rfl⟩
  rw [hbox] at hb hf hbE
  dsimp only at hb hf hbE
  have hlE : E.length = D.length := by rw [← hME]; simp [moveD]
  have hvE : validB P N E = dotsB 0 E := by
    have h := hval
    rw [validB, Bool.and_eq_true] at h
    rw [validB, hlE, h.1, Bool.true_and]
  cases hd : dotsB 0 E with
  | false =>
    refine moved_not_walk a b _ tol n0 n1 P N _ u v X Y V H A cap es D E w ia ib it i0 i1 rfl hE hI hn hD hP hN rfl hu hv hval hbox (by omega) (by omega) hME (hvE.trans hd) ?_
    rw [hd] at hf
    have := (not_congr hf).1 (by simp)
    omega
  | true =>
    have hf := hf.1 hd
    have m0 : dotAt D 0 ∈ D := dotAt_mem (by omega)
    have m1 : dotAt D (D.length - 1) ∈ D := dotAt_mem (by omega)
    have q0 := placeB_iff.1 (hpl _ m0)
    have q1 := placeB_iff.1 (hpl _ m1)
    have e0 : dotAt E 0 = ⟨(dotAt D 0).x + u, (dotAt D 0).y + v, (dotAt D 0).t, (dotAt D 0).p⟩ := by rw [← hME]; exact dotAt_map _ (by omega)
    have e1 : dotAt E (E.length - 1) = ⟨(dotAt D (D.length - 1)).x + u, (dotAt D (D.length - 1)).y + v, (dotAt D (D.length - 1)).t, (dotAt D (D.length - 1)).p⟩ := by rw [hlE, ← hME]; exact dotAt_map _ (by omega)
    refine moved_fits_walk _ _ _ _ _ _ a b _ tol n0 n1 P N _ u v X Y V H A cap es D E w ia ib it i0 i1 rfl hE hI hn hD hP hN rfl hu hv hval hbox (by omega) (by omega) hME (hvE.trans hd) (by omega) (by omega) (by omega) (by omega) hbE rfl ?_ rfl ?_ ?_ ?_ rfl rfl ?_ ?_ q0 q1
    · rw [← hME, way_move]
    · rw [← hME, thin_move u v h2 h1]
    · rw [natI_length]; have := thin_len (z := pickI tol 400) h1; omega
    · rw [← hME, moveD_back]
    · rw [e0]; rfl
    · rw [e1]; rfl
end Go.Proofs.Ytgmabepdhbnppaa
