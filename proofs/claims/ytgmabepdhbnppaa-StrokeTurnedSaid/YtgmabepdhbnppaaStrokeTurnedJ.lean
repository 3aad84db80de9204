/- The law StrokeTurned: the walk joined with the plain laws. -/
import Derived.Test.YtgmabepdhbnppaaStrokeTurnedL
namespace Go.Proofs.Ytgmabepdhbnppaa
open Go.RowKit Str
theorem thin_len2 {D : List Dot} {z : Int} (h1 : 1 ≤ D.length) : (thinF D z).length ≤ D.length := by
  have := tail_len (ok := okD D z) (L := D.length - 1) (D.length - 1) 0
  rw [thinF, List.length_cons]
  omega
theorem turn_valid {P N : Int} {D : List Dot} (n : Nat) (h : validB P N D = true) : validB P N (turnD n D) = true := by
  rw [validB, Bool.and_eq_true] at h ⊢
  rw [turnD_dots, show (turnD n D).length = D.length from List.length_map _]
  exact h
theorem turned_law (a b qs tol n0 n1 : Int) (A : Option Addr) (cap : Nat) (es : List E3) (w : World) (ia : I64 a) (ib : I64 b) (iq : I64 qs) (it : I64 tol) (i0 : I64 n0) (i1 : I64 n1)
    (hE : Ents w A es) (hI : ∀ e ∈ es, I64 e.a ∧ I64 e.b ∧ I64 e.c) (hn : (es.length : Int) ≤ 9223372036854775807) :
    Calls Try.prog 6 #[.int .i64 a, .int .i64 b, .slice A es.length cap, .agg #[.int .i64 n0, .int .i64 n1], .int .i64 qs, .int .i64 tol] w fun e w' => e = .returned (.bool true) ∧ Below w.heap.size w w' := by
  have hval : validB (pickI a 40) (1 + pickI b 999) (madeD a b (wrap64 (a * 37)) es) = true := made_valid a b _ es
  obtain ⟨D, hD⟩ : ∃ D, madeD a b (wrap64 (a * 37)) es = D := ⟨_, rfl⟩
  rw [hD] at hval
  obtain ⟨P, hP⟩ : ∃ P, pickI a 40 = P := ⟨_, rfl⟩
  obtain ⟨N, hN⟩ : ∃ N, 1 + pickI b 999 = N := ⟨_, rfl⟩
  rw [hP, hN] at hval
  have hpl := placed (validB_dots hval)
  have hl := valid_len hval
  have h1 : 1 ≤ D.length := by omega
  have h2 : D.length ≤ 200 := by omega
  have hb := box_bd h1 hpl
  have hbE := box_turn1 h1
  obtain ⟨X, Y, V, H, hbox⟩ : ∃ X Y V H, boxF D = (X, Y, V, H) := ⟨_, _, _, _, rfl⟩
  rw [hbox] at hb hbE
  dsimp only at hb hbE
  have bn := pickI_bd qs (n := 40) (by omega)
  obtain ⟨n, hq⟩ : ∃ n, pickI qs 40 = n := ⟨_, rfl⟩
  rw [hq] at bn
  have m0 : dotAt D 0 ∈ D := dotAt_mem (by omega)
  have m1 : dotAt D (D.length - 1) ∈ D := dotAt_mem (by omega)
  have q0 := placeB_iff.1 (hpl _ m0)
  have q1 := placeB_iff.1 (hpl _ m1)
  have hlE : (turnD 1 D).length = D.length := List.length_map _
  have e0 : dotAt (turnD 1 D) 0 = turn1 (dotAt D 0) := dotAt_map _ (by omega)
  have e1 : dotAt (turnD 1 D) ((turnD 1 D).length - 1) = turn1 (dotAt D (D.length - 1)) := by rw [hlE]; exact dotAt_map _ (by omega)
  refine turned_walk a b _ tol n0 n1 qs P N _ n _ _ X Y V H _ _ _ _ _ _ _ A cap es D (turnD 1 D) (turnD (n % 4).toNat D) w ia ib it i0 i1 iq rfl hE hI hn hD hP hN rfl hq rfl rfl hval (turn_valid 1 hval) (turn_valid _ hval)
    rfl ?_ ?_ rfl ?_ ?_ hbox (by omega) (by omega) hbE rfl (way_turn1 D) rfl ?_ ?_ rfl rfl ?_ ?_ q0 q1 rfl (within_turn1 h1 _ _ _)
  · show turnD 3 (turnD 1 D) = D
    rw [turnD_add]; exact turnD_four D
  · exact turnD_zero D
  · rw [turnD_add]
    rcases (show ((-n) % 4).toNat + (n % 4).toNat = 0 ∨ ((-n) % 4).toNat + (n % 4).toNat = 4 by omega) with h | h
    · rw [h]; exact turnD_zero D
    · rw [h]; exact turnD_four D
  · rw [show (n + 4) % 4 = n % 4 by omega]
  · rw [thin_turn1 h2 h1]
  · rw [natI_length]; have := thin_len2 (z := pickI tol 400) h1; omega
  · rw [e0]; rfl
  · rw [e1]; rfl
end Go.Proofs.Ytgmabepdhbnppaa
