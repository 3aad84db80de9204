/- The law StrokeTolerance: the walk joined with the plain laws. -/
import Derived.Test.YtgmabepdhbnppaaStrokeTolL
namespace Go.Proofs.Ytgmabepdhbnppaa
open Go.RowKit Str
theorem dotsB_cons {l : Int} {d : Dot} {r : List Dot} (h : dotsB l (d :: r) = true) : dotB l d = true ∧ dotsB d.t r = true := by
  rw [dotsB, Bool.and_eq_true] at h; exact h
/-- the dots of a stroke, one by one -/
theorem dotsB_at : ∀ {D : List Dot} {l : Int}, dotsB l D = true → ∀ i, i < D.length → dotB l (dotAt D i) = true ∧ ∀ j, i ≤ j → j < D.length → (dotAt D i).t ≤ (dotAt D j).t
  | [], _, _, i, hi => absurd hi (by simp)
  | d :: r, l, h, i, hi => by
    obtain ⟨h1, h2⟩ := dotsB_cons h
    have h1' := dotB_iff.1 h1
    cases i with
    | zero =>
      refine ⟨h1, fun j _ hj => ?_⟩
      cases j with
      | zero => exact Int.le_refl _
      | succ j => exact (dotB_iff.1 (dotsB_at h2 j (by simpa using hj)).1).2.1.1
    | succ i =>
      obtain ⟨k1, k2⟩ := dotsB_at h2 i (by simpa using hi)
      have k1' := dotB_iff.1 k1
      refine ⟨dotB_iff.2 ⟨k1'.1, ⟨?_, k1'.2.1.2⟩, k1'.2.2⟩, fun j hij hj => ?_⟩
      · exact Int.le_trans h1'.2.1.1 k1'.2.1.1
      · cases j with
        | zero => omega
        | succ j => exact k2 j (by omega) (by simpa using hj)
/-- the dots at rising indices are a stroke's dots -/
theorem dotsB_pick {D : List Dot} (h : dotsB 0 D = true) : ∀ {T : List Nat} {l : Int}, (∀ i, i + 1 < T.length → T.getD i 0 < T.getD (i + 1) 0) → (∀ i, i < T.length → T.getD i 0 < D.length) → (0 < T.length → l ≤ (dotAt D (T.getD 0 0)).t) → dotsB l (T.map (dotAt D)) = true
  | [], _, _, _, _ => rfl
  | k :: r, l, hs, hi, hl => by
    have hk : k < D.length := hi 0 (by simp)
    have hd := dotB_iff.1 (dotsB_at h k hk).1
    rw [List.map_cons, dotsB, Bool.and_eq_true]
    refine ⟨dotB_iff.2 ⟨hd.1, ⟨hl (by simp), hd.2.1.2⟩, hd.2.2⟩, dotsB_pick h (fun i hi2 => hs (i + 1) (by simpa using hi2)) (fun i hi2 => hi (i + 1) (by simpa using hi2)) fun hr => ?_⟩
    have h1 : k < r.getD 0 0 := hs 0 (by simpa using hr)
    have h2 : r.getD 0 0 < D.length := hi 1 (by simpa using hr)
    exact (dotsB_at h k hk).2 _ (by omega) h2
theorem kept_natI (D : List Dot) (T : List Nat) : keptE D (natI T) = T.map (dotAt D) := by
  rw [keptE, natI, List.map_map]
  exact List.map_congr_left fun a _ => by simp
theorem keptFrom_natI {n : Nat} : ∀ {T : List Nat} {a : Int}, (∀ i, i + 1 < T.length → T.getD i 0 < T.getD (i + 1) 0) → (∀ i, i < T.length → T.getD i 0 < n) → (0 < T.length → a < (T.getD 0 0 : Nat)) → keptFrom n a (natI T) = true
  | [], _, _, _, _ => rfl
  | k :: r, a, hs, hi, ha => by
    have h0 : a < (k : Int) := ha (by simp)
    have h1 : k < n := hi 0 (by simp)
    show keptFrom n a ((k : Int) :: natI r) = true
    rw [keptFrom, Bool.and_eq_true, Bool.and_eq_true]
    refine ⟨⟨decide_eq_true h0, decide_eq_true (by omega)⟩, keptFrom_natI (fun i hi2 => hs (i + 1) (by simpa using hi2)) (fun i hi2 => hi (i + 1) (by simpa using hi2)) fun hr => ?_⟩
    have : k < r.getD 0 0 := hs 0 (by simpa using hr)
    omega
theorem thin_lenL {D : List Dot} {z : Int} (h1 : 1 ≤ D.length) : (thinF D z).length ≤ D.length := by
  have := tail_len (ok := okD D z) (L := D.length - 1) (D.length - 1) 0
  rw [thinF, List.length_cons]
  omega
theorem tol_law (a b tol more : Int) (A : Option Addr) (cap : Nat) (es : List E3) (w : World) (ia : I64 a) (ib : I64 b) (it : I64 tol) (im : I64 more)
    (hE : Ents w A es) (hI : ∀ e ∈ es, I64 e.a ∧ I64 e.b ∧ I64 e.c) (hn : (es.length : Int) ≤ 9223372036854775807) :
    Calls Try.prog 5 #[.int .i64 a, .int .i64 b, .slice A es.length cap, .int .i64 tol, .int .i64 more] w fun e w' => e = .returned (.bool true) ∧ Below w.heap.size w w' := by
  have hval : validB (pickI a 40) (1 + pickI b 999) (madeD a b (wrap64 (a * 37)) es) = true := made_valid a b _ es
  obtain ⟨D, hD⟩ : ∃ D, madeD a b (wrap64 (a * 37)) es = D := ⟨_, rfl⟩
  rw [hD] at hval
  obtain ⟨P, hP⟩ : ∃ P, pickI a 40 = P := ⟨_, rfl⟩
  obtain ⟨N, hN⟩ : ∃ N, 1 + pickI b 999 = N := ⟨_, rfl⟩
  rw [hP, hN] at hval
  have hdd := validB_dots hval
  have hpl := placed hdd
  have hl := valid_len hval
  have h1 : 1 ≤ D.length := by omega
  have h2 : D.length ≤ 200 := by omega
  have bz := pickI_bd tol (n := 400) (by omega)
  have bm := pickI_bd more (n := 600) (by omega)
  obtain ⟨z, hz⟩ : ∃ z, pickI tol 400 = z := ⟨_, rfl⟩
  rw [hz] at bz
  obtain ⟨y, hy⟩ : ∃ y, z + pickI more 600 = y := ⟨_, rfl⟩
  have c1 := thin_mono (y := y) h2 h1 (z := z) (by omega) (by omega)
  have c2 := thin_mono (y := z) h2 h1 (z := 0) (by omega) (by omega)
  obtain ⟨t1, t2, t3, t4, t5⟩ := thin_spec h2 h1 0
  obtain ⟨s1, s2, s3, s4, s5⟩ := thin_spec h2 h1 z
  have l0 := thin_lenL (z := 0) h1
  have lz := thin_lenL (z := z) h1
  have hb := box_bd h1 hpl
  have hkd : keptE D (natI (thinF D z)) = (thinF D z).map (dotAt D) := kept_natI _ _
  have hvK : validB P N (keptE D (natI (thinF D z))) = true := by
    have h := hval
    rw [validB, Bool.and_eq_true, headB_iff] at h
    rw [validB, Bool.and_eq_true, headB_iff, hkd]
    refine ⟨⟨h.1.1, h.1.2.1, by rw [List.length_map]; omega, by rw [List.length_map]; omega⟩, ?_⟩
    refine dotsB_pick hdd (fun i hi => (s4 i hi).1) s5 fun _ => ?_
    exact (dotB_iff.1 (dotsB_at hdd _ (s5 0 (by omega))).1).2.1.1
  have hK1 : 1 ≤ (keptE D (natI (thinF D z))).length := by rw [hkd, List.length_map]; exact s1
  have hsub := box_sub (D := D) hK1 (fun d hd => by
    rw [hkd] at hd
    obtain ⟨i, hi, rfl⟩ := List.mem_map.1 hd
    obtain ⟨j, hj, rfl⟩ := List.getElem_of_mem hi
    have := s5 j hj
    rw [List.getD, List.getElem?_eq_getElem hj] at this
    exact dotAt_mem this)
  have hbK := box_bd hK1 (placed (validB_dots hvK))
  obtain ⟨K, hK⟩ : ∃ K, keptE D (natI (thinF D z)) = K := ⟨_, rfl⟩
  rw [hK] at hsub hbK hvK
  obtain ⟨X, Y, V, H, hbox⟩ : ∃ X Y V H, boxF D = (X, Y, V, H) := ⟨_, _, _, _, rfl⟩
  obtain ⟨X2, Y2, V2, H2, hbox2⟩ : ∃ X Y V H, boxF K = (X, Y, V, H) := ⟨_, _, _, _, rfl⟩
  rw [hbox] at hb hsub
  rw [hbox2] at hbK hsub
  dsimp only at hb hsub hbK
  refine tol_walk a b _ tol more P N X Y V H X2 Y2 V2 H2 z y A cap es D K _ _ (thinF D 0) w ia ib it im rfl hE hI hn hD hP hN hz hy hval rfl rfl rfl (by rw [natI_length]; exact c1) (by rw [natI_length]; exact c2) t1 (by omega) (by rw [natI_length]; exact s1) t2 t3 ?_ t5
    (keptFrom_natI (fun i hi => (s4 i hi).1) s5 (fun _ => by omega)) hK hvK hbox hbox2 (by omega) (by omega) (by omega) (by omega)
  intro i hi
  obtain ⟨k1, k2⟩ := t4 i hi
  refine ⟨k1, fun k hk hk2 => ?_⟩
  exact near_zero (okD_iff.1 k2 k hk hk2)
end Go.Proofs.Ytgmabepdhbnppaa
