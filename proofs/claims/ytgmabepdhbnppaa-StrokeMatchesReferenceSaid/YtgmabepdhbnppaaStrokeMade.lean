/- The reference's Made. -/
import Derived.Test.YtgmabepdhbnppaaStrokeMadeP
import Derived.Test.YtgmabepdhbnppaaStrokeSmall
import Derived.Test.YtgmabepdhbnppaaStrokeEach
import Derived.WalkSpells
import Derived.Test.YtgmabepdhbnppaaHead
namespace Go.Proofs.Ytgmabepdhbnppaa
open Go.RowKit Str
/-- a slice of three numbers each -/
def Ents (W : World) (A : Option Addr) (es : List E3) : Prop := ∀ i, i < es.length → ∃ b o, A = some ⟨b, o, none⟩ ∧
  W.cell? ⟨b, o + i * 3, none⟩ = some (.int .i64 (es.getD i ⟨0, 0, 0⟩).a) ∧ W.cell? ⟨b, o + i * 3 + 1, none⟩ = some (.int .i64 (es.getD i ⟨0, 0, 0⟩).b) ∧
  W.cell? ⟨b, o + i * 3 + 2, none⟩ = some (.int .i64 (es.getD i ⟨0, 0, 0⟩).c)
theorem Ents.below {W W' : World} {A : Option Addr} {es : List E3} (h : Ents W A es) (hb : Below W.heap.size W W') : Ents W' A es := fun j hj => by
  obtain ⟨b, o, hA, h0, h1, h2⟩ := h j hj
  exact ⟨b, o, hA, cell_then hb h0, cell_then hb h1, cell_then hb h2⟩
theorem Var4.grown {W W' : World} {g : Nat} {row : Option Nat} (h : Var4 W g) (hg : W.grownBy W' row) (hne : some g ≠ row) : Var4 W' g := by
  unfold Var4 at h ⊢; exact VarN.grown h hg hne
theorem own_base {w : World} {b b' size n : Nat} {e : TypeId} {v : Value} {xs : List Value} (h : w.ownsRow b e size v n xs) (hb : b' ≤ b) : w.ownsRow b' e size v n xs :=
  ⟨h.1, by
    rcases h.2 with h2 | ⟨g, c, cur, h1, h3, h4⟩
    · exact .inl h2
    · exact .inr ⟨g, c, cur, h1, Nat.le_trans hb h3, h4⟩⟩
theorem made_end {P N : Int} {w wr : World} {B g cp k : Nat} {t : TypeId} {E D : List Dot} (hown : wr.ownsRow B t 4 (.slice (some ⟨g, 0, none⟩) (k + 1) cp) (k + 1) (dcells E)) (hT : E = D) (hN : D.length = k + 1) (hwB : w.heap.size + 1 ≤ B) (hB : Below w.heap.size w wr) :
    ∃ g' cp' : Nat, Ending.returned (.agg #[.int .i64 P, .int .i64 N, .slice (some ⟨g, 0, none⟩) (k + 1) cp]) = .returned (.agg #[.int .i64 P, .int .i64 N, .slice (some ⟨g', 0, none⟩) D.length cp']) ∧ w.heap.size ≤ g' ∧
    (((wr.setCell ⟨w.heap.size, 0, none⟩ (.int .i64 P)).setCell ⟨w.heap.size, 1, none⟩ (.int .i64 N)).setCell ⟨w.heap.size, 2, none⟩ (.slice (some ⟨g, 0, none⟩) (k + 1) cp)).ownsRow w.heap.size t 4 (.slice (some ⟨g', 0, none⟩) D.length cp') D.length (dcells D) ∧
    Dots (((wr.setCell ⟨w.heap.size, 0, none⟩ (.int .i64 P)).setCell ⟨w.heap.size, 1, none⟩ (.int .i64 N)).setCell ⟨w.heap.size, 2, none⟩ (.slice (some ⟨g, 0, none⟩) (k + 1) cp)) (some ⟨g', 0, none⟩) D ∧ D.length ≤ cp' ∧ (cp' : Int) ≤ 9223372036854775807 ∧
    Below w.heap.size w (((wr.setCell ⟨w.heap.size, 0, none⟩ (.int .i64 P)).setCell ⟨w.heap.size, 1, none⟩ (.int .i64 N)).setCell ⟨w.heap.size, 2, none⟩ (.slice (some ⟨g, 0, none⟩) (k + 1) cp)) := by
  subst hT
  have hg := (hown.lt g rfl).1
  have hcc := own_cap hown
  have hdd := dots_of_own hown
  refine ⟨g, cp, by rw [hN], by omega, by rw [hN]; exact own_set (own_set (own_set (own_base hown (by omega)) (fun h => by have h2 : g = w.heap.size := Option.some.inj h; omega) _) (fun h => by have h2 : g = w.heap.size := Option.some.inj h; omega) _) (fun h => by have h2 : g = w.heap.size := Option.some.inj h; omega) _, fun i hi => ?_, by rw [hN]; exact hcc.1, hcc.2, ((hB.setCell (p := ⟨w.heap.size, 0, none⟩) (by dsimp only; omega) _).setCell (p := ⟨w.heap.size, 1, none⟩) (by dsimp only; omega) _).setCell (p := ⟨w.heap.size, 2, none⟩) (by dsimp only; omega) _⟩
  obtain ⟨b, o, hA, c0, c1, c2, c3⟩ := hdd i hi
  have ne : g = b := by injection hA with hA; injection hA
  exact ⟨b, o, hA, cell_set _ (cell_set _ (cell_set _ c0 (by dsimp only; omega)) (by dsimp only; omega)) (by dsimp only; omega), cell_set _ (cell_set _ (cell_set _ c1 (by dsimp only; omega)) (by dsimp only; omega)) (by dsimp only; omega), cell_set _ (cell_set _ (cell_set _ c2 (by dsimp only; omega)) (by dsimp only; omega)) (by dsimp only; omega), cell_set _ (cell_set _ (cell_set _ c3 (by dsimp only; omega)) (by dsimp only; omega)) (by dsimp only; omega)⟩
set_option maxRecDepth 100000 in
set_option maxHeartbeats 4000000 in
theorem made_own (a b m : Int) (A : Option Addr) (cap : Nat) (es : List E3) (w : World) (ha : I64 a) (hb : I64 b) (hm' : wrap64 (a * 37) = m) (hE : Ents w A es) (hI : ∀ e ∈ es, I64 e.a ∧ I64 e.b ∧ I64 e.c) (hn : (es.length : Int) ≤ 9223372036854775807) :
    Calls Try.prog 11 #[.int .i64 a, .int .i64 b, .slice A es.length cap] w fun e w' => ∃ g cp : Nat, e = .returned (.agg #[.int .i64 (pickI a 40), .int .i64 (1 + pickI b 999), .slice (some ⟨g, 0, none⟩) (madeD a b m es).length cp]) ∧ w.heap.size ≤ g ∧ w'.ownsRow w.heap.size 24 4 (.slice (some ⟨g, 0, none⟩) (madeD a b m es).length cp) (madeD a b m es).length (dcells (madeD a b m es)) ∧ Dots w' (some ⟨g, 0, none⟩) (madeD a b m es) ∧ (madeD a b m es).length ≤ cp ∧ (cp : Int) ≤ 9223372036854775807 ∧ Below w.heap.size w w' := by
  have HMM := Lib.hid hm'
  clear hm'
  have HE := Lib.hid hE
  have HI := Lib.hid hI
  clear hE hI
  have p1 := pickI_bd a (n := 40) (by omega)
  have p2 := pickI_bd b (n := 999) (by omega)
  have p3 := pickI_bd b (n := 2000) (by omega)
  have p4 := pickI_bd a (n := 500) (by omega)
  obtain ⟨i0, hi0, hz0, hz1, hz2⟩ := info_parts dot_info
  go_enter Try.func11, Try.ntmps11
  go_wp2_with fail
  refine (pickR_any _ _ _ ha (by omega) (by omega)).mono ?_
  rintro e w1 ⟨rfl, rfl⟩
  go_wp2_with fail
  refine (pickR_any _ _ _ hb (by omega) (by omega)).mono ?_
  rintro e w1 ⟨rfl, rfl⟩
  go_wp2_with fail
  refine (pickR_any _ _ _ hb (by omega) (by omega)).mono ?_
  rintro e w1 ⟨rfl, rfl⟩
  go_wp2_with fail
  have hm : I64 (wrap64 (a * 37)) := by unfold I64 wrap64; omega
  rw [HMM.out] at hm ⊢
  have p5 := pickI_bd m (n := 2000) (by omega)
  refine (pickR_any _ _ _ hm (by omega) (by omega)).mono ?_
  rintro e w1 ⟨rfl, rfl⟩
  go_wp2_with fail
  obtain ⟨W2, hW⟩ : ∃ W, (w.alloc (.cells #[.int .i64 0, .int .i64 0, .slice none 0 0] 27)).alloc (.cells #[.int .i64 (pickI a 40), .int .i64 (1 + pickI b 999), .slice none 0 0] 27) = W := ⟨_, rfl⟩
  have hs2 : W2.heap.size = w.heap.size + 2 := by rw [← hW]; simp
  have B2 : Below w.heap.size w W2 := by rw [← hW]; exact below_alloc (below_alloc (Below.refl _ _) _) _
  have VR : Var3 W2 w.heap.size := by rw [← hW]; exact (Var3.new _ _ _ _ _).alloc _
  have VS : Var3 W2 (w.heap.size + 1) := by rw [← hW]; exact Var3.of (v0 := .int .i64 (pickI a 40)) (by simp [go_sem]) (v1 := .int .i64 (1 + pickI b 999)) (by simp [go_sem]) (v2 := .slice none 0 0) (by simp [go_sem])
  have s0 : W2.cell? ⟨w.heap.size + 1, 0, none⟩ = some (.int .i64 (pickI a 40)) := by rw [← hW]; exact new_cell' rfl
  have s1 : W2.cell? ⟨w.heap.size + 1, 1, none⟩ = some (.int .i64 (1 + pickI b 999)) := by rw [← hW]; exact new_cell' rfl
  have s2 : W2.cell? ⟨w.heap.size + 1, 2, none⟩ = some (.slice none 0 0) := by rw [← hW]; exact new_cell' rfl
  rw [hW]
  clear hW
  have f2 := VS.f2
  have hls := lt_size s2
  obtain ⟨v0, hv0, hr0⟩ : ∃ v0, v0 = Value.slice none 0 0 ∧ ∀ (W : World) (base : Nat), W.ownsRow base 24 4 v0 0 [] := ⟨_, rfl, fun W base => World.ownsRow_nil _ _ _ _⟩
  have hb0 : ∀ g, some g ≠ v0.ownBlock := fun g h => by rw [hv0] at h; cases h
  rw [← hv0] at s2
  clear hv0
  have HVR := Lib.hid VR
  have HVS := Lib.hid VS
  have HS2 := Lib.hid hs2
  clear VR VS hs2
  have hm0 : made0 a b m = ⟨1000 + pickI b 2000, 1000 + pickI m 2000, pickI a 500, 0⟩ := rfl
  refine (pickR_any _ _ _ ha (by omega) (by omega)).mono ?_
  rintro e w1 ⟨rfl, rfl⟩
  go_wp2_with (at_builtin; go_must (refine wpList_append_lies _ rfl _ _ _ rfl (W2.heap.size + 1) 24 i0 _ 4 32 Try.underlying25 hi0 hz0 hz1 hz2 rfl (by omega) v0 0 [] rfl (hr0 _ _) ⟨W2.heap.size + 1, 0, none⟩ 1 1 [.int .i64 (1000 + pickI b 2000), .int .i64 (1000 + pickI m 2000), .int .i64 (pickI a 500), .int .i64 0] rfl rfl (fun j u h => by have h2 := new_dot (w := W2.alloc (.cells #[.int .i64 (made0 a b m).x, .int .i64 (made0 a b m).y, .int .i64 (made0 a b m).t, .int .i64 (made0 a b m).p] 24)) (d := made0 a b m) (t := 24) j u h; rw [show (W2.alloc (.cells #[.int .i64 (made0 a b m).x, .int .i64 (made0 a b m).y, .int .i64 (made0 a b m).t, .int .i64 (made0 a b m).p] 24)).heap.size = W2.heap.size + 1 by simp] at h2; exact h2) (by simp [Value.oneCell']) (by omega) (by unfold maxLen; omega) (by omega) (by simp) (W2.heap.size + 1 + 1) (by simp) ?_); intro g cp W3 hown hgrow hat hlt'; have x2 := (hgrow.cell_far ⟨w.heap.size + 1, 2, none⟩ (by simp; omega) (hb0 _)).trans (keep_alloc _ (keep_alloc _ s2)); have x3 := (hgrow.frozen_far ⟨w.heap.size + 1, 2, none⟩ (by simp; omega) (hb0 _)).trans (var_then (below_alloc (below_alloc (Below.refl _ _) _) _) ⟨s2, f2⟩).2)
  have hg0 := (hown.lt g rfl).1
  rw [HS2.out] at hg0
  have hB3 : Below w.heap.size w W3 := (below_alloc (below_alloc B2 _) _).grown hgrow (below_alloc (below_alloc B2 _) _).size (fun q hq => absurd hq.symm (hb0 q))
  have y0 := cell_grown' (keep_alloc _ (keep_alloc _ s0)) hgrow (hb0 _)
  have y1 := cell_grown' (keep_alloc _ (keep_alloc _ s1)) hgrow (hb0 _)
  have VR3 := ((HVR.out.alloc _).alloc _).grown hgrow (hb0 _)
  have VS3 := ((HVS.out.alloc _).alloc _).grown hgrow (hb0 _)
  have VD3 := ((Var4.new W2 _ _ _ _ _).alloc _).grown hgrow (hb0 _)
  have d0 := cell_grown' (a := ⟨W2.heap.size, 0, none⟩) (v := .int .i64 (1000 + pickI b 2000)) (keep_alloc _ (new_cell rfl)) hgrow (hb0 _)
  have d1 := cell_grown' (a := ⟨W2.heap.size, 1, none⟩) (v := .int .i64 (1000 + pickI m 2000)) (keep_alloc _ (new_cell rfl)) hgrow (hb0 _)
  have d2 := cell_grown' (a := ⟨W2.heap.size, 2, none⟩) (v := .int .i64 (pickI a 500)) (keep_alloc _ (new_cell rfl)) hgrow (hb0 _)
  have d3 := cell_grown' (a := ⟨W2.heap.size, 3, none⟩) (v := .int .i64 0) (keep_alloc _ (new_cell rfl)) hgrow (hb0 _)
  have hq := lt_size s2
  clear hgrow hat x2 x3
  go_loopw [9] (fun i wr => ∃ k g cp : Nat, k ≤ es.length ∧ k ≤ 23 ∧ i = .int .i64 (k : Int) ∧ wr.ownsRow (W2.heap.size + 1) 24 4 (.slice (some ⟨g, 0, none⟩) (k + 1) cp) (k + 1) (dcells (made0 a b m :: madeR (made0 a b m) (es.take k))) ∧
    wr.cell? ⟨w.heap.size + 1, 0, none⟩ = some (.int .i64 (pickI a 40)) ∧ wr.cell? ⟨w.heap.size + 1, 1, none⟩ = some (.int .i64 (1 + pickI b 999)) ∧ wr.cell? ⟨w.heap.size + 1, 2, none⟩ = some (.slice (some ⟨g, 0, none⟩) (k + 1) cp) ∧ Var3 wr w.heap.size ∧ Var3 wr (w.heap.size + 1) ∧ Var4 wr W2.heap.size ∧
    wr.cell? ⟨W2.heap.size, 0, none⟩ = some (.int .i64 (lastD (made0 a b m) (es.take k)).x) ∧ wr.cell? ⟨W2.heap.size, 1, none⟩ = some (.int .i64 (lastD (made0 a b m) (es.take k)).y) ∧ wr.cell? ⟨W2.heap.size, 2, none⟩ = some (.int .i64 (lastD (made0 a b m) (es.take k)).t) ∧ wr.cell? ⟨W2.heap.size, 3, none⟩ = some (.int .i64 (lastD (made0 a b m) (es.take k)).p) ∧ Below w.heap.size w wr) (fun i _ => 23 - (intOf i).toNat)
  case atStart =>
    exact ⟨0, g, cp, by omega, by omega, rfl, own_set hown (fun h => by have h2 : g = w.heap.size + 1 := Option.some.inj h; omega) _, cell_off _ y0 (by omega), cell_off _ y1 (by omega), VS3.s2 _, VR3.set_ _ _, VS3.set_ _ _, VD3.set_ _ _,
      cell_set _ d0 (by dsimp only; omega), cell_set _ d1 (by dsimp only; omega), cell_set _ d2 (by dsimp only; omega), cell_set _ d3 (by dsimp only; omega), hB3.setCell (by dsimp only; omega) _⟩
  case round =>
    clear hg0 hB3 y0 y1 VR3 VS3 VD3 d0 d1 d2 d3 hown s0 s1 s2 f2
    obtain ⟨k, g, cp, hk, hk2, rfl, hown, e0, e1, e2, VR, VS, VD, d0, d1, d2, d3, hB⟩ := hrel
    have lS := lt_size e2
    have lR := lt_size VR.c0
    have lD := lt_size d0
    by_cases hlt : k < es.length ∧ k < 23
    · obtain ⟨hlt1, hlt2⟩ := hlt
      obtain ⟨b', o, rfl, c0, c1, c2⟩ := HE.out k hlt1
      have hbl := lt_size c0
      replace c0 := cell_then hB c0
      replace c1 := cell_then hB c1
      replace c2 := cell_then hB c2
      obtain ⟨E, hE⟩ : ∃ E, es.getD k ⟨0, 0, 0⟩ = E := ⟨_, rfl⟩
      obtain ⟨d, hd⟩ : ∃ d, lastD (made0 a b m) (es.take k) = d := ⟨_, rfl⟩
      rw [hE] at c0 c1 c2
      rw [hd] at d0 d1 d2 d3
      have hdk := lastD_ok (made0_ok a b m) (es.take k)
      rw [hd, List.length_take, show min k es.length = k by omega] at hdk
      have hx : 0 ≤ d.x ∧ d.x ≤ 4095 := hdk.1
      have hy : 0 ≤ d.y ∧ d.y ≤ 4095 := hdk.2.1
      have ht : 0 ≤ d.t ∧ d.t ≤ 1000000 := ⟨hdk.2.2.1.1, by have := hdk.2.2.1.2; omega⟩
      clear hdk
      have hEI := HI.out E (by rw [← hE, List.getD, List.getElem?_eq_getElem hlt1]; exact List.getElem_mem _)
      obtain ⟨i1, i2, i3⟩ := hEI
      have q1 := pickI_bd E.a (n := 401) (by omega)
      have q2 := pickI_bd E.b (n := 401) (by omega)
      have q3 := pickI_bd E.c (n := 50) (by omega)
      have q4 := pickI_bd E.c (n := 101) (by omega)
      have HEE := Lib.hid hE
      have HDD := Lib.hid hd
      have HVR := Lib.hid VR
      have HVS := Lib.hid VS
      have HVD := Lib.hid VD
      have hkn : (k : Int) < (es.length : Int) := by omega
      have hk0 : (0 : Int) ≤ (k : Int) := by omega
      have hk23 : (k : Int) < 23 := by omega
      clear VR VS VD hE hd
      have g0 := fun D os => cell_regrown d0 D os
      have k0 := fun D os => cell_regrown c0 D os
      have hw1 : IntKind.i64.wrap (d.x + pickI E.a 401) = d.x + pickI E.a 401 := IntWalk.i64_in _ (by omega)
      have hw2 : IntKind.i64.wrap (d.x + pickI E.a 401 - 200) = d.x + pickI E.a 401 - 200 := IntWalk.i64_in _ (by omega)
      obtain ⟨v, hv⟩ : ∃ v, d.x + pickI E.a 401 - 200 = v := ⟨_, rfl⟩
      obtain ⟨X1, hX1⟩ : ∃ X, min 4095 v = X := ⟨_, rfl⟩
      obtain ⟨X, hX⟩ : ∃ X, max 0 X1 = X := ⟨_, rfl⟩
      have j1 : (if v < 4095 then v else 4095) = X1 := by rw [← hX1]; split <;> omega
      have j2 : (if 4095 < v then 4095 else v) = X1 := by rw [← hX1]; split <;> omega
      have j3 : (if v ≤ 4095 then v else 4095) = X1 := by rw [← hX1]; split <;> omega
      have j4 : (if 4095 ≤ v then 4095 else v) = X1 := by rw [← hX1]; split <;> omega
      have l1 : (if X1 < 0 then 0 else X1) = X := by rw [← hX]; split <;> omega
      have l2 : (if 0 < X1 then X1 else 0) = X := by rw [← hX]; split <;> omega
      have l3 : (if X1 ≤ 0 then 0 else X1) = X := by rw [← hX]; split <;> omega
      have l4 : (if 0 ≤ X1 then X1 else 0) = X := by rw [← hX]; split <;> omega
      rw [← hv] at j1 j2 j3 j4 hX1
      have HX1 := Lib.hid hX1
      have HX := Lib.hid hX
      clear hv hX1 hX
      clear v
      go_wp2_with fail
      refine wp_region_head 13 (by kernel_rfl) (by kernel_rfl) ?_
      simp only [List.take_succ_cons, List.take_zero, List.drop_succ_cons, List.drop_zero]
      repeat (go_big_quiet_step (exact Calls.regrown_of ((pickR_any _ _ _ i1 (by omega) (by omega)).mono fun e w' h => ⟨h.1, h.2 ▸ Below.refl _ _⟩)))
      refine wpQuiet_nil ?_
      intro wq hq
      replace hB := below_next hB hq
      replace hown := own_then hown hq
      replace e0 := cell_then hq e0
      replace e1 := cell_then hq e1
      replace e2 := cell_then hq e2
      replace d0 := cell_then hq d0
      replace d1 := cell_then hq d1
      replace d2 := cell_then hq d2
      replace d3 := cell_then hq d3
      replace c0 := cell_then hq c0
      replace c1 := cell_then hq c1
      replace c2 := cell_then hq c2
      have VR := HVR.out.then_ hq
      have VS := HVS.out.then_ hq
      have VD := HVD.out.then_ hq
      have fd := VD.f0
      clear HVR HVS HVD hq g0 k0 j1 j2 j3 j4 l1 l2 l3 l4 hw1 hw2
      have HVR := Lib.hid VR
      have HVS := Lib.hid VS
      have HVD := Lib.hid VD
      clear VR VS VD
      go_wp2_with fail
      have hgl := (hown.lt g rfl).1
      have hB9 := hB.setCell (p := ⟨W2.heap.size, 0, none⟩) (by dsimp only; omega) (.int .i64 X)
      have hown9 := own_set hown (p := ⟨W2.heap.size, 0, none⟩) (fun h => by have h2 : g = W2.heap.size := Option.some.inj h; omega) (.int .i64 X)
      obtain ⟨Wx, hWx⟩ : ∃ W, wq.setCell ⟨W2.heap.size, 0, none⟩ (.int .i64 X) = W := ⟨_, rfl⟩
      replace e0 := cell_set (p := ⟨W2.heap.size, 0, none⟩) (.int .i64 X) e0 (by dsimp only; omega)
      replace e1 := cell_set (p := ⟨W2.heap.size, 0, none⟩) (.int .i64 X) e1 (by dsimp only; omega)
      replace e2 := cell_set (p := ⟨W2.heap.size, 0, none⟩) (.int .i64 X) e2 (by dsimp only; omega)
      replace c0 := cell_set (p := ⟨W2.heap.size, 0, none⟩) (.int .i64 X) c0 (by dsimp only; omega)
      replace c1 := cell_set (p := ⟨W2.heap.size, 0, none⟩) (.int .i64 X) c1 (by dsimp only; omega)
      replace c2 := cell_set (p := ⟨W2.heap.size, 0, none⟩) (.int .i64 X) c2 (by dsimp only; omega)
      replace d0 := HVD.out.s0 (.int .i64 X)
      replace d1 := cell_off (.int .i64 X) d1 (show (1 : Nat) ≠ 0 by omega)
      replace d2 := cell_off (.int .i64 X) d2 (show (2 : Nat) ≠ 0 by omega)
      replace d3 := cell_off (.int .i64 X) d3 (show (3 : Nat) ≠ 0 by omega)
      have VR := HVR.out.set_ ⟨W2.heap.size, 0, none⟩ (.int .i64 X)
      have VS := HVS.out.set_ ⟨W2.heap.size, 0, none⟩ (.int .i64 X)
      have VD := HVD.out.set_ ⟨W2.heap.size, 0, none⟩ (.int .i64 X)
      clear HVR HVS HVD hB hown fd
      rw [hWx] at hB9 hown9 e0 e1 e2 c0 c1 c2 d0 d1 d2 d3 VR VS VD ⊢
      clear hWx
      have HVR := Lib.hid VR
      have HVS := Lib.hid VS
      have HVD := Lib.hid VD
      clear VR VS VD
      have hB := hB9
      have hown := hown9
      clear hB9 hown9 hgl
      have g0 := fun D os => cell_regrown d1 D os
      have k0 := fun D os => cell_regrown c1 D os
      have hw1 : IntKind.i64.wrap (d.y + pickI E.b 401) = d.y + pickI E.b 401 := IntWalk.i64_in _ (by omega)
      have hw2 : IntKind.i64.wrap (d.y + pickI E.b 401 - 200) = d.y + pickI E.b 401 - 200 := IntWalk.i64_in _ (by omega)
      obtain ⟨v, hv⟩ : ∃ v, d.y + pickI E.b 401 - 200 = v := ⟨_, rfl⟩
      obtain ⟨Y1, hY1⟩ : ∃ Y, min 4095 v = Y := ⟨_, rfl⟩
      obtain ⟨Y, hY⟩ : ∃ Y, max 0 Y1 = Y := ⟨_, rfl⟩
      have j1 : (if v < 4095 then v else 4095) = Y1 := by rw [← hY1]; split <;> omega
      have j2 : (if 4095 < v then 4095 else v) = Y1 := by rw [← hY1]; split <;> omega
      have j3 : (if v ≤ 4095 then v else 4095) = Y1 := by rw [← hY1]; split <;> omega
      have j4 : (if 4095 ≤ v then 4095 else v) = Y1 := by rw [← hY1]; split <;> omega
      have l1 : (if Y1 < 0 then 0 else Y1) = Y := by rw [← hY]; split <;> omega
      have l2 : (if 0 < Y1 then Y1 else 0) = Y := by rw [← hY]; split <;> omega
      have l3 : (if Y1 ≤ 0 then 0 else Y1) = Y := by rw [← hY]; split <;> omega
      have l4 : (if 0 ≤ Y1 then Y1 else 0) = Y := by rw [← hY]; split <;> omega
      rw [← hv] at j1 j2 j3 j4 hY1
      have HY1 := Lib.hid hY1
      have HY := Lib.hid hY
      clear hv hY1 hY
      clear v
      go_wp2_with fail
      refine wp_region_head 13 (by kernel_rfl) (by kernel_rfl) ?_
      simp only [List.take_succ_cons, List.take_zero, List.drop_succ_cons, List.drop_zero]
      repeat (go_big_quiet_step (exact Calls.regrown_of ((pickR_any _ _ _ i2 (by omega) (by omega)).mono fun e w' h => ⟨h.1, h.2 ▸ Below.refl _ _⟩)))
      refine wpQuiet_nil ?_
      intro wq hq
      replace hB := below_next hB hq
      replace hown := own_then hown hq
      replace e0 := cell_then hq e0
      replace e1 := cell_then hq e1
      replace e2 := cell_then hq e2
      replace d0 := cell_then hq d0
      replace d1 := cell_then hq d1
      replace d2 := cell_then hq d2
      replace d3 := cell_then hq d3
      replace c0 := cell_then hq c0
      replace c1 := cell_then hq c1
      replace c2 := cell_then hq c2
      have VR := HVR.out.then_ hq
      have VS := HVS.out.then_ hq
      have VD := HVD.out.then_ hq
      have fd := VD.f1
      clear HVR HVS HVD hq g0 k0 j1 j2 j3 j4 l1 l2 l3 l4 hw1 hw2
      have HVR := Lib.hid VR
      have HVS := Lib.hid VS
      have HVD := Lib.hid VD
      clear VR VS VD
      go_wp2_with fail
      have hgl := (hown.lt g rfl).1
      have hB9 := hB.setCell (p := ⟨W2.heap.size, 1, none⟩) (by dsimp only; omega) (.int .i64 Y)
      have hown9 := own_set hown (p := ⟨W2.heap.size, 1, none⟩) (fun h => by have h2 : g = W2.heap.size := Option.some.inj h; omega) (.int .i64 Y)
      obtain ⟨Wy, hWy⟩ : ∃ W, wq.setCell ⟨W2.heap.size, 1, none⟩ (.int .i64 Y) = W := ⟨_, rfl⟩
      replace e0 := cell_set (p := ⟨W2.heap.size, 1, none⟩) (.int .i64 Y) e0 (by dsimp only; omega)
      replace e1 := cell_set (p := ⟨W2.heap.size, 1, none⟩) (.int .i64 Y) e1 (by dsimp only; omega)
      replace e2 := cell_set (p := ⟨W2.heap.size, 1, none⟩) (.int .i64 Y) e2 (by dsimp only; omega)
      replace c0 := cell_set (p := ⟨W2.heap.size, 1, none⟩) (.int .i64 Y) c0 (by dsimp only; omega)
      replace c1 := cell_set (p := ⟨W2.heap.size, 1, none⟩) (.int .i64 Y) c1 (by dsimp only; omega)
      replace c2 := cell_set (p := ⟨W2.heap.size, 1, none⟩) (.int .i64 Y) c2 (by dsimp only; omega)
      replace d0 := cell_off (.int .i64 Y) d0 (show (0 : Nat) ≠ 1 by omega)
      replace d1 := HVD.out.s1 (.int .i64 Y)
      replace d2 := cell_off (.int .i64 Y) d2 (show (2 : Nat) ≠ 1 by omega)
      replace d3 := cell_off (.int .i64 Y) d3 (show (3 : Nat) ≠ 1 by omega)
      have VR := HVR.out.set_ ⟨W2.heap.size, 1, none⟩ (.int .i64 Y)
      have VS := HVS.out.set_ ⟨W2.heap.size, 1, none⟩ (.int .i64 Y)
      have VD := HVD.out.set_ ⟨W2.heap.size, 1, none⟩ (.int .i64 Y)
      clear HVR HVS HVD hB hown fd
      rw [hWy] at hB9 hown9 e0 e1 e2 c0 c1 c2 d0 d1 d2 d3 VR VS VD ⊢
      clear hWy
      have HVR := Lib.hid VR
      have HVS := Lib.hid VS
      have HVD := Lib.hid VD
      clear VR VS VD
      have hB := hB9
      have hown := hown9
      clear hB9 hown9 hgl
      have g0 := fun D os => cell_regrown d2 D os
      have k0 := fun D os => cell_regrown c2 D os
      have hw1 : IntKind.i64.wrap (d.t + pickI E.c 50) = d.t + pickI E.c 50 := IntWalk.i64_in _ (by omega)
      go_wp2_with fail
      refine wp_region_head 10 (by kernel_rfl) (by kernel_rfl) ?_
      simp only [List.take_succ_cons, List.take_zero, List.drop_succ_cons, List.drop_zero]
      repeat (go_big_quiet_step (exact Calls.regrown_of ((pickR_any _ _ _ i3 (by omega) (by omega)).mono fun e w' h => ⟨h.1, h.2 ▸ Below.refl _ _⟩)))
      refine wpQuiet_nil ?_
      intro wq hq
      replace hB := below_next hB hq
      replace hown := own_then hown hq
      replace e0 := cell_then hq e0
      replace e1 := cell_then hq e1
      replace e2 := cell_then hq e2
      replace d0 := cell_then hq d0
      replace d1 := cell_then hq d1
      replace d2 := cell_then hq d2
      replace d3 := cell_then hq d3
      replace c0 := cell_then hq c0
      replace c1 := cell_then hq c1
      replace c2 := cell_then hq c2
      have VR := HVR.out.then_ hq
      have VS := HVS.out.then_ hq
      have VD := HVD.out.then_ hq
      have fd := VD.f2
      clear HVR HVS HVD hq g0 k0 hw1
      have HVR := Lib.hid VR
      have HVS := Lib.hid VS
      have HVD := Lib.hid VD
      clear VR VS VD
      go_wp2_with fail
      have hgl := (hown.lt g rfl).1
      have hB9 := hB.setCell (p := ⟨W2.heap.size, 2, none⟩) (by dsimp only; omega) (.int .i64 (d.t + pickI E.c 50))
      have hown9 := own_set hown (p := ⟨W2.heap.size, 2, none⟩) (fun h => by have h2 : g = W2.heap.size := Option.some.inj h; omega) (.int .i64 (d.t + pickI E.c 50))
      obtain ⟨Wt, hWt⟩ : ∃ W, wq.setCell ⟨W2.heap.size, 2, none⟩ (.int .i64 (d.t + pickI E.c 50)) = W := ⟨_, rfl⟩
      replace e0 := cell_set (p := ⟨W2.heap.size, 2, none⟩) (.int .i64 (d.t + pickI E.c 50)) e0 (by dsimp only; omega)
      replace e1 := cell_set (p := ⟨W2.heap.size, 2, none⟩) (.int .i64 (d.t + pickI E.c 50)) e1 (by dsimp only; omega)
      replace e2 := cell_set (p := ⟨W2.heap.size, 2, none⟩) (.int .i64 (d.t + pickI E.c 50)) e2 (by dsimp only; omega)
      replace c0 := cell_set (p := ⟨W2.heap.size, 2, none⟩) (.int .i64 (d.t + pickI E.c 50)) c0 (by dsimp only; omega)
      replace c1 := cell_set (p := ⟨W2.heap.size, 2, none⟩) (.int .i64 (d.t + pickI E.c 50)) c1 (by dsimp only; omega)
      replace c2 := cell_set (p := ⟨W2.heap.size, 2, none⟩) (.int .i64 (d.t + pickI E.c 50)) c2 (by dsimp only; omega)
      replace d0 := cell_off (.int .i64 (d.t + pickI E.c 50)) d0 (show (0 : Nat) ≠ 2 by omega)
      replace d1 := cell_off (.int .i64 (d.t + pickI E.c 50)) d1 (show (1 : Nat) ≠ 2 by omega)
      replace d2 := HVD.out.s2 (.int .i64 (d.t + pickI E.c 50))
      replace d3 := cell_off (.int .i64 (d.t + pickI E.c 50)) d3 (show (3 : Nat) ≠ 2 by omega)
      have VR := HVR.out.set_ ⟨W2.heap.size, 2, none⟩ (.int .i64 (d.t + pickI E.c 50))
      have VS := HVS.out.set_ ⟨W2.heap.size, 2, none⟩ (.int .i64 (d.t + pickI E.c 50))
      have VD := HVD.out.set_ ⟨W2.heap.size, 2, none⟩ (.int .i64 (d.t + pickI E.c 50))
      clear HVR HVS HVD hB hown fd
      rw [hWt] at hB9 hown9 e0 e1 e2 c0 c1 c2 d0 d1 d2 d3 VR VS VD ⊢
      clear hWt
      have HVR := Lib.hid VR
      have HVS := Lib.hid VS
      have HVD := Lib.hid VD
      clear VR VS VD
      have hB := hB9
      have hown := hown9
      clear hB9 hown9 hgl
      have fd := HVD.out.f3
      go_wp2_with fail
      refine (pickR_any _ _ _ i3 (by omega) (by omega)).mono ?_
      rintro e w9 ⟨rfl, rfl⟩
      have hgl := (hown.lt g rfl).1
      have ht2 := lt_size d0
      have ht3 := lt_size e2
      rw [HS2.out] at hgl
      have hvb : some (w.heap.size + 1) ≠ some g := fun h => by have h2 := Option.some.inj h; omega
      have hgl2 := (hown.lt g rfl).1
      go_wp2_with (at_builtin; go_must (refine wpList_append_lies _ rfl _ _ _ rfl (W2.heap.size + 1) 24 i0 _ 4 32 Try.underlying25 hi0 hz0 hz1 hz2 rfl (by omega) _ _ _ rfl ((own_set hown (p := ⟨W2.heap.size, 3, none⟩) (fun h => by have h2 : g = W2.heap.size := Option.some.inj h; omega) (.int .i64 (pickI E.c 101))).alloc _) ⟨Wt.heap.size, 0, none⟩ 1 1 [.int .i64 X, .int .i64 Y, .int .i64 (d.t + pickI E.c 50), .int .i64 (pickI E.c 101)] rfl rfl (fun j u h => by have h2 := new_dot (w := Wt.setCell ⟨W2.heap.size, 3, none⟩ (.int .i64 (pickI E.c 101))) (d := ⟨X, Y, d.t + pickI E.c 50, pickI E.c 101⟩) (t := 24) j u h; simpa using h2) (by simp [Value.oneCell']) (by omega) (by unfold maxLen; omega) (by omega) (by simp; omega) (Wt.heap.size + 1) (by simp) ?_); intro g' cp' wy hown' hgrow hat hlt'; have x2 := (hgrow.cell_far ⟨w.heap.size + 1, 2, none⟩ (by simp; omega) hvb).trans (keep_alloc _ (cell_set _ e2 (by dsimp only; omega))); have x3 := (hgrow.frozen_far ⟨w.heap.size + 1, 2, none⟩ (by simp; omega) hvb).trans ((HVS.out.set_ _ _).alloc _).f2)
      have hvr : some w.heap.size ≠ some g := fun h => by have h2 := Option.some.inj h; omega
      have hvd : some W2.heap.size ≠ some g := fun h => by have h2 := Option.some.inj h; omega
      have y0 := cell_grown' (keep_alloc _ (cell_set (p := ⟨W2.heap.size, 3, none⟩) (.int .i64 (pickI E.c 101)) e0 (by dsimp only; omega))) hgrow hvb
      have y1 := cell_grown' (keep_alloc _ (cell_set (p := ⟨W2.heap.size, 3, none⟩) (.int .i64 (pickI E.c 101)) e1 (by dsimp only; omega))) hgrow hvb
      have z0 := cell_grown' (keep_alloc _ (cell_off (j := 3) (.int .i64 (pickI E.c 101)) d0 (by omega))) hgrow hvd
      have z1 := cell_grown' (keep_alloc _ (cell_off (j := 3) (.int .i64 (pickI E.c 101)) d1 (by omega))) hgrow hvd
      have z2 := cell_grown' (keep_alloc _ (cell_off (j := 3) (.int .i64 (pickI E.c 101)) d2 (by omega))) hgrow hvd
      have z3 := cell_grown' (keep_alloc _ (HVD.out.s3 (.int .i64 (pickI E.c 101)))) hgrow hvd
      have VR2 := ((HVR.out.set_ ⟨W2.heap.size, 3, none⟩ (.int .i64 (pickI E.c 101))).alloc _).grown hgrow hvr
      have VS2 := ((HVS.out.set_ ⟨W2.heap.size, 3, none⟩ (.int .i64 (pickI E.c 101))).alloc _).grown hgrow hvb
      have VD2 := ((HVD.out.set_ ⟨W2.heap.size, 3, none⟩ (.int .i64 (pickI E.c 101))).alloc _).grown hgrow hvd
      have B8 := hB.setCell (p := ⟨W2.heap.size, 3, none⟩) (by dsimp only; omega) (.int .i64 (pickI E.c 101))
      have B9 := (below_alloc B8 (.cells #[.int .i64 X, .int .i64 Y, .int .i64 (d.t + pickI E.c 50), .int .i64 (pickI E.c 101)] 24)).grown hgrow (below_alloc B8 _).size (fun q hq => by have h2 : g = q := Option.some.inj hq; omega)
      have hts : es.take (k + 1) = es.take k ++ [E] := by rw [List.take_succ_eq_append_getElem hlt1, ← HEE.out, List.getD, List.getElem?_eq_getElem hlt1]; rfl
      have hmn : madeN d E = ⟨X, Y, d.t + pickI E.c 50, pickI E.c 101⟩ := by rw [← HX.out, ← HX1.out, ← HY.out, ← HY1.out]; rfl
      have hm1 : made0 a b m :: madeR (made0 a b m) (es.take (k + 1)) = (made0 a b m :: madeR (made0 a b m) (es.take k)) ++ [⟨X, Y, d.t + pickI E.c 50, pickI E.c 101⟩] := by rw [hts, madeR_snoc, HDD.out, hmn]; rfl
      have hl1 : lastD (made0 a b m) (es.take (k + 1)) = ⟨X, Y, d.t + pickI E.c 50, pickI E.c 101⟩ := by rw [hts, lastD_snoc, HDD.out, hmn]
      have hgn := (hown'.lt g' rfl).1
      refine ⟨⟨k + 1, g', cp', by omega, by omega, by go_num, ?_, cell_off _ y0 (by omega), cell_off _ y1 (by omega), VS2.s2 _, VR2.set_ _ _, VS2.set_ _ _, VD2.set_ _ _, ?_, ?_, ?_, ?_, B9.setCell (by dsimp only; omega) _⟩, by simp [intOf]; omega⟩
      · rw [hm1, dcells_append]
        exact own_set hown' (fun h => by have h2 : g' = w.heap.size + 1 := Option.some.inj h; omega) _
      · rw [hl1]; exact cell_set _ z0 (by dsimp only; omega)
      · rw [hl1]; exact cell_set _ z1 (by dsimp only; omega)
      · rw [hl1]; exact cell_set _ z2 (by dsimp only; omega)
      · rw [hl1]; exact cell_set _ z3 (by dsimp only; omega)
    · have HT : Hid (made0 a b m :: madeR (made0 a b m) (es.take k) = madeD a b m es) := Lib.hid (by
        rw [madeD]; by_cases h23 : k < 23
        · rw [List.take_of_length_le (show es.length ≤ k by omega), List.take_of_length_le (show es.length ≤ 23 by omega)]
        · rw [show k = 23 by omega])
      have HN : Hid ((madeD a b m es).length = k + 1) := Lib.hid (by rw [madeD_length]; omega)
      have HOWN := Lib.hid hown
      have HVR := Lib.hid VR
      obtain ⟨m0, m1, m2⟩ := And.intro HVR.out.c0 (And.intro HVR.out.c1 HVR.out.c2)
      obtain ⟨z0, z1, z2⟩ := And.intro HVR.out.f0 (And.intro HVR.out.f1 HVR.out.f2)
      clear hown VR VS VD d0 d1 d2 d3
      have hk23 : ¬ (k : Int) < 23 ∨ (k : Int) < 23 := by omega
      by_cases hke : (k : Int) < (es.length : Int)
      · have hk3 : 23 ≤ (k : Int) := by omega
        clear hlt hk23
        go_wp2_with fail
        refine bodyPost_ret (v := .agg #[.int .i64 (pickI a 40), .int .i64 (1 + pickI b 999), .slice (some ⟨g, 0, none⟩) (k + 1) cp]) (by simp [results, Try.results11, go_sem, m0, m1, m2]) rfl ?_
        exact made_end HOWN.out HT.out HN.out (by rw [HS2.out]; omega) hB
      · replace hke : (es.length : Int) ≤ (k : Int) := by omega
        clear hlt hk23
        go_wp2_with fail
        refine bodyPost_ret (v := .agg #[.int .i64 (pickI a 40), .int .i64 (1 + pickI b 999), .slice (some ⟨g, 0, none⟩) (k + 1) cp]) (by simp [results, Try.results11, go_sem, m0, m1, m2]) rfl ?_
        exact made_end HOWN.out HT.out HN.out (by rw [HS2.out]; omega) hB
theorem made_any (a b m : Int) (A : Option Addr) (cap : Nat) (es : List E3) (w : World) (ha : I64 a) (hb : I64 b) (hm' : wrap64 (a * 37) = m) (hE : Ents w A es) (hI : ∀ e ∈ es, I64 e.a ∧ I64 e.b ∧ I64 e.c) (hn : (es.length : Int) ≤ 9223372036854775807) :
    Calls Try.prog 11 #[.int .i64 a, .int .i64 b, .slice A es.length cap] w fun e w' => ∃ g cp : Nat, e = .returned (.agg #[.int .i64 (pickI a 40), .int .i64 (1 + pickI b 999), .slice (some ⟨g, 0, none⟩) (madeD a b m es).length cp]) ∧ w.heap.size ≤ g ∧ Dots w' (some ⟨g, 0, none⟩) (madeD a b m es) ∧ (madeD a b m es).length ≤ cp ∧ (cp : Int) ≤ 9223372036854775807 ∧ Below w.heap.size w w' := by
  refine (made_own a b m A cap es w ha hb hm' hE hI hn).mono ?_
  rintro e w' ⟨g, cp, h1, h2, -, h3⟩
  exact ⟨g, cp, h1, h2, h3⟩
end Go.Proofs.Ytgmabepdhbnppaa
