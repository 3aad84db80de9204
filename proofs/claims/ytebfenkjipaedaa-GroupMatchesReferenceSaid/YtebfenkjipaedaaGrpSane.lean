/- The laws' check of the chapter's example. -/
import Derived.Test.YtebfenkjipaedaaGrpExP
namespace Go.Proofs.Ytebfenkjipaedaa.Gr
open Go.RowKit Gp Go.Sort
attribute [local go_sem] Oper.semAt_some
/-- the example in memory -/
structure ExAt (w W : World) (gg gw a b c : Nat) : Prop where
  g : GrpsAt W (some ⟨gg, 0, none⟩) (exL (.slice (some ⟨a, 0, none⟩) 1 1) (.slice (some ⟨b, 0, none⟩) 2 2) (.slice (some ⟨c, 0, none⟩) 1 1))
  wi : WirsAt W (some ⟨gw, 0, none⟩) exW
  bel : Below w.heap.size w W
theorem ExAt.then_ {w W W' : World} {gg gw a b c : Nat} (h : ExAt w W gg gw a b c) (hb : Below W.heap.size W W') : ExAt w W' gg gw a b c := ⟨h.g.then_ hb, h.wi.then_ hb, below_next h.bel hb⟩
def exC (a b c : Nat) : Array Value := #[.int .i64 1, .int .i64 (-1), .slice (some ⟨a, 0, none⟩) 1 1, .int .i64 2, .int .i64 1, .slice (some ⟨b, 0, none⟩) 2 2, .int .i64 3, .int .i64 (-1), .slice (some ⟨c, 0, none⟩) 1 1]
theorem ints1 {W : World} {g : Nat} {x : Int} (h : W.cell? ⟨g, 0, none⟩ = some (.int .i64 x)) : IntsAt W (some ⟨g, 0, none⟩) [x] := fun i hi => by
  obtain rfl : i = 0 := by simpa using hi
  exact ⟨g, 0, rfl, h⟩
theorem ints2 {W : World} {g : Nat} {x y : Int} (h : W.cell? ⟨g, 0, none⟩ = some (.int .i64 x)) (h' : W.cell? ⟨g, 1, none⟩ = some (.int .i64 y)) : IntsAt W (some ⟨g, 0, none⟩) [x, y] := fun i hi => by
  rcases (show i = 0 ∨ i = 1 by have : i < 2 := hi
                                omega) with rfl | rfl
  · exact ⟨g, 0, rfl, h⟩
  · exact ⟨g, 0, rfl, h'⟩
theorem ints3 {W : World} {g : Nat} {x y z : Int} (h : W.cell? ⟨g, 0, none⟩ = some (.int .i64 x)) (h' : W.cell? ⟨g, 1, none⟩ = some (.int .i64 y)) (h2 : W.cell? ⟨g, 2, none⟩ = some (.int .i64 z)) : IntsAt W (some ⟨g, 0, none⟩) [x, y, z] := fun i hi => by
  rcases j3 hi with rfl | rfl | rfl
  · exact ⟨g, 0, rfl, h⟩
  · exact ⟨g, 0, rfl, h'⟩
  · exact ⟨g, 0, rfl, h2⟩
theorem ex_start (w : World) : ExAt w (((((w.alloc (.cells #[.int .i64 10] 3)).alloc (.cells #[.int .i64 20, .int .i64 30] 3)).alloc (.cells #[.int .i64 40] 3)).alloc (.cells (exC w.heap.size (w.heap.size + 1) (w.heap.size + 1 + 1)) 26)).alloc
    (.cells #[.int .i64 1, .int .i64 10, .int .i64 0, .int .i64 20, .int .i64 0, .int .i64 0, .int .i64 2, .int .i64 20, .int .i64 0, .int .i64 30, .int .i64 0, .int .i64 0, .int .i64 3, .int .i64 30, .int .i64 0, .int .i64 40, .int .i64 0, .int .i64 0] 63)) (w.heap.size + 1 + 1 + 1) (w.heap.size + 1 + 1 + 1 + 1) w.heap.size (w.heap.size + 1) (w.heap.size + 1 + 1) := by
  refine ⟨fun i hi => ?_, fun i hi => ⟨w.heap.size + 1 + 1 + 1 + 1, 0, rfl, ?_⟩, below_alloc (below_alloc (below_alloc (below_alloc (below_alloc (Below.refl _ _) _) _) _) _) _⟩
  · rcases j3 hi with rfl | rfl | rfl
    · exact ⟨⟨w.heap.size + 1 + 1 + 1, 0, rfl, by simp [go_sem, exL, exC], by simp [go_sem, exL, exC], by simp [go_sem, exL, exC]⟩, ⟨_, 1, rfl, Nat.le_refl 1, ints1 (by simp [go_sem]), fun e => by cases e⟩⟩
    · exact ⟨⟨w.heap.size + 1 + 1 + 1, 0, rfl, by simp [go_sem, exL, exC], by simp [go_sem, exL, exC], by simp [go_sem, exL, exC]⟩, ⟨_, 2, rfl, Nat.le_refl 2, ints2 (by simp [go_sem]) (by simp [go_sem]), fun e => by cases e⟩⟩
    · exact ⟨⟨w.heap.size + 1 + 1 + 1, 0, rfl, by simp [go_sem, exL, exC], by simp [go_sem, exL, exC], by simp [go_sem, exL, exC]⟩, ⟨_, 1, rfl, Nat.le_refl 1, ints1 (by simp [go_sem]), fun e => by cases e⟩⟩
  · rcases j3 hi with rfl | rfl | rfl <;> exact ⟨by simp [go_sem, exW], by simp [go_sem, exW], by simp [go_sem, exW], by simp [go_sem, exW], by simp [go_sem, exW], by simp [go_sem, exW]⟩
theorem s_path1 {w W : World} {gg gw a b c : Nat} (h : ExAt w W gg gw a b c) : Calls Try.prog 17 #[.slice (some ⟨gg, 0, none⟩) 3 3, .int .i64 20] W fun e w' => ∃ A k, e = .returned (.tuple #[.slice A 2 k, .int .i64 0]) ∧ IntsAt w' A [1, 2] ∧ Below W.heap.size W w' := by
  refine (gpath_yes (some ⟨gg, 0, none⟩) 3 (exL (.slice (some ⟨a, 0, none⟩) 1 1) (.slice (some ⟨b, 0, none⟩) 2 2) (.slice (some ⟨c, 0, none⟩) 1 1)) 20 W h.g (ex_sized _ _ _) (ex_valid _ _ _) ⟨by decide, by decide⟩).mono ?_
  rintro e w' ⟨v, rfl, hm, hb⟩
  rw [ex_path20] at hm
  obtain ⟨A, k, rfl, _, hi, _⟩ := hm
  exact ⟨A, k, rfl, hi, hb⟩
theorem s_path2 {w W : World} {gg gw a b c : Nat} (h : ExAt w W gg gw a b c) : Calls Try.prog 17 #[.slice (some ⟨gg, 0, none⟩) 3 3, .int .i64 50] W fun e w' => ∃ A k, e = .returned (.tuple #[.slice A 0 k, .int .i64 0]) ∧ Below W.heap.size W w' := by
  refine (gpath_yes (some ⟨gg, 0, none⟩) 3 (exL (.slice (some ⟨a, 0, none⟩) 1 1) (.slice (some ⟨b, 0, none⟩) 2 2) (.slice (some ⟨c, 0, none⟩) 1 1)) 50 W h.g (ex_sized _ _ _) (ex_valid _ _ _) ⟨by decide, by decide⟩).mono ?_
  rintro e w' ⟨v, rfl, hm, hb⟩
  rw [ex_path50] at hm
  obtain ⟨A, k, rfl, _, hi, _⟩ := hm
  exact ⟨A, k, rfl, hb⟩
theorem s_below {w W : World} {gg gw a b c : Nat} (h : ExAt w W gg gw a b c) : Calls Try.prog 22 #[.slice (some ⟨gg, 0, none⟩) 3 3, .int .i64 1] W fun e w' => ∃ A k, e = .returned (.tuple #[.slice A 3 k, .int .i64 0]) ∧ IntsAt w' A [10, 20, 30] ∧ Below W.heap.size W w' := by
  refine (below_yes (some ⟨gg, 0, none⟩) 3 (exL (.slice (some ⟨a, 0, none⟩) 1 1) (.slice (some ⟨b, 0, none⟩) 2 2) (.slice (some ⟨c, 0, none⟩) 1 1)) 1 W h.g (ex_sized _ _ _) (ex_valid _ _ _) ⟨by decide, by decide⟩ (ex_is1 _ _ _)).mono ?_
  rintro e w' ⟨v, rfl, hm, hb⟩
  rw [ex_below] at hm
  obtain ⟨A, k, rfl, _, hi, _⟩ := ms_of_own (ms := [10, 20, 30]) hm
  exact ⟨A, k, rfl, hi, hb⟩
theorem s_belown {w W : World} {gg gw a b c : Nat} (h : ExAt w W gg gw a b c) : Calls Try.prog 22 #[.slice (some ⟨gg, 0, none⟩) 3 3, .int .i64 4] W fun e w' => e = .returned (.tuple #[.slice none 0 0, .int .i64 130]) ∧ Below W.heap.size W w' :=
  below_no (some ⟨gg, 0, none⟩) 3 (exL (.slice (some ⟨a, 0, none⟩) 1 1) (.slice (some ⟨b, 0, none⟩) 2 2) (.slice (some ⟨c, 0, none⟩) 1 1)) 4 W h.g (ex_sized _ _ _) ⟨by decide, by decide⟩ (fun h => by rw [ex_none] at h; exact absurd h.2 (by decide))
theorem s_com1 {w W : World} {gg gw a b c : Nat} (h : ExAt w W gg gw a b c) : Calls Try.prog 19 #[.slice (some ⟨gg, 0, none⟩) 3 3, .int .i64 10, .int .i64 30] W fun e w' => e = .returned (.tuple #[.int .i64 1, .int .i64 0]) ∧ Below W.heap.size W w' := by
  have h1 := common_yes (some ⟨gg, 0, none⟩) 3 (exL (.slice (some ⟨a, 0, none⟩) 1 1) (.slice (some ⟨b, 0, none⟩) 2 2) (.slice (some ⟨c, 0, none⟩) 1 1)) 10 30 W h.g (ex_sized _ _ _) (ex_valid _ _ _) ⟨by decide, by decide⟩ ⟨by decide, by decide⟩
  rw [ex_com1] at h1
  exact h1
theorem s_com2 {w W : World} {gg gw a b c : Nat} (h : ExAt w W gg gw a b c) : Calls Try.prog 19 #[.slice (some ⟨gg, 0, none⟩) 3 3, .int .i64 10, .int .i64 40] W fun e w' => e = .returned (.tuple #[.int .i64 (-1), .int .i64 0]) ∧ Below W.heap.size W w' := by
  have h1 := common_yes (some ⟨gg, 0, none⟩) 3 (exL (.slice (some ⟨a, 0, none⟩) 1 1) (.slice (some ⟨b, 0, none⟩) 2 2) (.slice (some ⟨c, 0, none⟩) 1 1)) 10 40 W h.g (ex_sized _ _ _) (ex_valid _ _ _) ⟨by decide, by decide⟩ ⟨by decide, by decide⟩
  rw [ex_com2] at h1
  exact h1
theorem s_ports {w W : World} {gg gw a b c : Nat} (h : ExAt w W gg gw a b c) : Calls Try.prog 27 #[.slice (some ⟨gg, 0, none⟩) 3 3, .int .i64 2, .slice (some ⟨gw, 0, none⟩) 3 3] W fun e w' => ∃ A k, e = .returned (.tuple #[.slice A 2 k, .int .i64 0]) ∧ PrtsAt w' A [⟨1, true, 20⟩, ⟨3, false, 30⟩] ∧ Below W.heap.size W w' := by
  refine (ports_yes (some ⟨gg, 0, none⟩) 3 (exL (.slice (some ⟨a, 0, none⟩) 1 1) (.slice (some ⟨b, 0, none⟩) 2 2) (.slice (some ⟨c, 0, none⟩) 1 1)) 2 _ 3 exW W h.g (ex_sized _ _ _) (ex_valid _ _ _) ⟨by decide, by decide⟩ (ex_is2 _ _ _) h.wi ex_wok (by decide) ex_riseW).mono ?_
  rintro e w' ⟨A, k, rfl, hm, hb⟩
  rw [ex_ports] at hm
  exact ⟨A, k, rfl, hm, hb⟩
theorem s_dis {w W : World} {gg gw a b c : Nat} (h : ExAt w W gg gw a b c) : Calls Try.prog 24 #[.slice (some ⟨gg, 0, none⟩) 3 3, .int .i64 2] W fun e w' => ∃ A L k, e = .returned (.tuple #[.slice A L.length k, .int .i64 0]) ∧ GrpsAt w' A L ∧ L.map key = [(1, -1, [10, 20, 30]), (3, -1, [40])] ∧ Below W.heap.size W w' := by
  refine (dissolve_yes (some ⟨gg, 0, none⟩) 3 (exL (.slice (some ⟨a, 0, none⟩) 1 1) (.slice (some ⟨b, 0, none⟩) 2 2) (.slice (some ⟨c, 0, none⟩) 1 1)) 2 _ W h.g (ex_sized _ _ _) (ex_valid _ _ _) ⟨by decide, by decide⟩ (ex_find _ _ _)).mono ?_
  rintro e w' ⟨A, L, k, rfl, _, hg, hm, hb⟩
  exact ⟨A, L, k, rfl, hg, hm.trans (ex_dis _ _ _), hb⟩
theorem s_col {w W : World} {gg gw a b c : Nat} (h : ExAt w W gg gw a b c) {D : Nat} (hD : DevsAt W (some ⟨D, 0, none⟩) exD) : Calls Try.prog 29 #[.slice (some ⟨gg, 0, none⟩) 3 3, .int .i64 2, .agg #[.slice (some ⟨D, 0, none⟩) 2 2, .slice (some ⟨gw, 0, none⟩) 3 3]] W fun e w' => ∃ A1 c1 B1 e1 A2 c2 B2 e2, e = .returned (.tuple #[.agg #[.slice A1 1 c1, .slice B1 1 e1], .agg #[.slice A2 1 c2, .slice B2 0 e2], .int .i64 0]) ∧
    NetAt w' (.slice A1 1 c1) (.slice B1 1 e1) [⟨20, 0, ⟨#[]⟩, 0⟩] [⟨2, 20, 0, 30, 0, 0⟩] ∧ NetAt w' (.slice A2 1 c2) (.slice B2 0 e2) [⟨10, 0, ⟨#[]⟩, 0⟩] [] ∧ Below W.heap.size W w' := by
  refine (collapse_yes (some ⟨gg, 0, none⟩) 3 (exL (.slice (some ⟨a, 0, none⟩) 1 1) (.slice (some ⟨b, 0, none⟩) 2 2) (.slice (some ⟨c, 0, none⟩) 1 1)) 2 (some ⟨D, 0, none⟩) 2 exD (some ⟨gw, 0, none⟩) 3 exW W h.g (ex_sized _ _ _) (ex_valid _ _ _) ⟨by decide, by decide⟩ (ex_is2 _ _ _) hD ex_dok (by decide) h.wi ex_wok (by decide) ex_riseW ex_riseD).mono ?_
  rintro e w' ⟨d1, x1, d2, x2, rfl, h1, h2, hb⟩
  rw [ex_dIn, ex_wIn] at h1
  rw [ex_dOut, ex_wOut] at h2
  obtain ⟨⟨A1, c1, rfl, p1⟩, ⟨B1, e1, rfl, p2⟩⟩ := h1
  obtain ⟨⟨A2, c2, rfl, p3⟩, ⟨B2, e2, rfl, p4⟩⟩ := h2
  exact ⟨A1, c1, B1, e1, A2, c2, B2, e2, rfl, ⟨⟨A1, c1, rfl, p1⟩, ⟨B1, e1, rfl, p2⟩⟩, ⟨⟨A2, c2, rfl, p3⟩, ⟨B2, e2, rfl, p4⟩⟩, hb⟩
structure NCell (W : World) (r7 r8 : Nat) (d1 x1 d2 x2 : Value) : Prop where
  c0 : W.cell? ⟨r7, 0, none⟩ = some d1
  c1 : W.cell? ⟨r7, 1, none⟩ = some x1
  c2 : W.cell? ⟨r8, 0, none⟩ = some d2
  c3 : W.cell? ⟨r8, 1, none⟩ = some x2
theorem NCell.then_ {W W' : World} {r7 r8 : Nat} {d1 x1 d2 x2 : Value} (h : NCell W r7 r8 d1 x1 d2 x2) (hb : Below W.heap.size W W') : NCell W' r7 r8 d1 x1 d2 x2 := ⟨cell_then hb h.c0, cell_then hb h.c1, cell_then hb h.c2, cell_then hb h.c3⟩
theorem nets_new (W : World) (d1 x1 d2 x2 : Value) (W' : World) (hW : W' = (W.alloc (.cells #[d1, x1] 36)).alloc (.cells #[d2, x2] 36)) :
    (W'.cell? ⟨W.heap.size, 0, none⟩ = some d1 ∧ W'.cell? ⟨W.heap.size, 1, none⟩ = some x1 ∧ W'.cell? ⟨W.heap.size + 1, 0, none⟩ = some d2 ∧ W'.cell? ⟨W.heap.size + 1, 1, none⟩ = some x2) ∧ Below W.heap.size W W' := by
  subst hW
  exact ⟨⟨by simp [go_sem], by simp [go_sem], by simp [go_sem], by simp [go_sem]⟩, below_alloc (below_alloc (Below.refl _ _) _) _⟩
theorem exd_new (W : World) : DevsAt (W.alloc (.cells #[.int .i64 10, .int .i64 0, .string ⟨#[]⟩, .int .i64 0, .int .i64 20, .int .i64 0, .string ⟨#[]⟩, .int .i64 0] 29)) (some ⟨W.heap.size, 0, none⟩) exD := fun i hi => by
  rcases (show i = 0 ∨ i = 1 by have : i < 2 := hi
                                omega) with rfl | rfl <;> exact ⟨W.heap.size, 0, rfl, new_cell rfl, new_cell rfl, new_cell rfl, new_cell rfl⟩
theorem s_n1 {w W : World} {gg gw a b c : Nat} {A1 B1 : Option Addr} {c1 e1 : Nat} (h : ExAt w W gg gw a b c) (hn : NetAt W (.slice A1 1 c1) (.slice B1 1 e1) [⟨20, 0, ⟨#[]⟩, 0⟩] [⟨2, 20, 0, 30, 0, 0⟩]) {g : Nat} (hd : DevsAt W (some ⟨g, 0, none⟩) [⟨20, 0, ⟨#[]⟩, 0⟩]) :
    Calls Try.prog 32 #[.agg #[.slice A1 1 c1, .slice B1 1 e1], .agg #[.slice (some ⟨g, 0, none⟩) 1 1, .slice (some ⟨gw, 6, none⟩) 1 2]] W fun e w' => e = .returned (.bool true) ∧ Below W.heap.size W w' := by
  refine samenets_yes _ _ (.slice (some ⟨g, 0, none⟩) 1 1) (.slice (some ⟨gw, 6, none⟩) 1 2) [⟨20, 0, ⟨#[]⟩, 0⟩] [⟨2, 20, 0, 30, 0, 0⟩] W hn ⟨⟨_, 1, rfl, hd⟩, ⟨_, 2, rfl, fun i hi => ?_⟩⟩ (by decide) (by decide)
  obtain rfl : i = 0 := by simpa using hi
  obtain ⟨b', o', e, hw⟩ := h.wi 1 (by decide)
  simp only [Option.some.injEq, Addr.mk.injEq] at e
  obtain ⟨rfl, rfl, _⟩ := e
  exact ⟨gw, 6, rfl, hw⟩
theorem s_n2 {W : World} {A2 B2 : Option Addr} {c2 e2 : Nat} (hn : NetAt W (.slice A2 1 c2) (.slice B2 0 e2) [⟨10, 0, ⟨#[]⟩, 0⟩] []) {g : Nat} (hd : DevsAt W (some ⟨g, 0, none⟩) [⟨10, 0, ⟨#[]⟩, 0⟩]) :
    Calls Try.prog 32 #[.agg #[.slice A2 1 c2, .slice B2 0 e2], .agg #[.slice (some ⟨g, 0, none⟩) 1 1, .slice none 0 0]] W fun e w' => e = .returned (.bool true) ∧ Below W.heap.size W w' :=
  samenets_yes _ _ (.slice (some ⟨g, 0, none⟩) 1 1) (.slice none 0 0) [⟨10, 0, ⟨#[]⟩, 0⟩] [] W hn ⟨⟨_, 1, rfl, hd⟩, ⟨none, 0, rfl, fun i hi => by simp at hi⟩⟩ (by decide) (by decide)
theorem exd_one (W : World) (x : Int) : DevsAt (W.alloc (.cells #[.int .i64 x, .int .i64 0, .string ⟨#[]⟩, .int .i64 0] 29)) (some ⟨W.heap.size, 0, none⟩) [⟨x, 0, ⟨#[]⟩, 0⟩] := fun i hi => by
  obtain rfl : i = 0 := by simpa using hi
  exact ⟨W.heap.size, 0, rfl, new_cell rfl, new_cell rfl, new_cell rfl, new_cell rfl⟩
theorem NCell.four {W : World} {r7 r8 : Nat} {d1 x1 d2 x2 : Value} (h : NCell W r7 r8 d1 x1 d2 x2) : W.cell? ⟨r7, 0, none⟩ = some d1 ∧ W.cell? ⟨r7, 1, none⟩ = some x1 ∧ W.cell? ⟨r8, 0, none⟩ = some d2 ∧ W.cell? ⟨r8, 1, none⟩ = some x2 := ⟨h.c0, h.c1, h.c2, h.c3⟩
theorem prts2 {W : World} {g : Nat} {a b c d : Int} {x y : Bool} (h0 : W.cell? ⟨g, 0, none⟩ = some (.int .i64 a)) (h1 : W.cell? ⟨g, 1, none⟩ = some (.bool x)) (h2 : W.cell? ⟨g, 2, none⟩ = some (.int .i64 b)) (h3 : W.cell? ⟨g, 3, none⟩ = some (.int .i64 c)) (h4 : W.cell? ⟨g, 4, none⟩ = some (.bool y)) (h5 : W.cell? ⟨g, 5, none⟩ = some (.int .i64 d)) : PrtsAt W (some ⟨g, 0, none⟩) [⟨a, x, b⟩, ⟨c, y, d⟩] := fun i hi => by
  rcases (show i = 0 ∨ i = 1 by have : i < 2 := hi
                                omega) with rfl | rfl
  · exact ⟨g, 0, rfl, h0, h1, h2⟩
  · exact ⟨g, 0, rfl, h3, h4, h5⟩
theorem ExAt.last {w W : World} {gg gw a b c : Nat} (h : ExAt w W gg gw a b c) : W.cell? ⟨gg, 6, none⟩ = some (.int .i64 3) ∧ W.cell? ⟨gg, 7, none⟩ = some (.int .i64 (-1)) ∧ W.cell? ⟨gg, 8, none⟩ = some (.slice (some ⟨c, 0, none⟩) 1 1) := by
  obtain ⟨⟨b', o', e, hg⟩, _⟩ := h.g 2 (show 2 < 3 by decide)
  simp only [Option.some.injEq, Addr.mk.injEq] at e
  obtain ⟨rfl, rfl, _⟩ := e
  exact ⟨hg.id, hg.of, hg.v⟩
theorem ExAt.lastm {w W : World} {gg gw a b c : Nat} (h : ExAt w W gg gw a b c) : MsAt W (.slice (some ⟨c, 0, none⟩) 1 1) [40] := (h.g 2 (show 2 < 3 by decide)).2
/-- what Same is asked, in the last line -/
theorem s_same {w v : World} {gg gw a b c : Nat} (h : ExAt w v gg gw a b c) {A : Option Addr} {k : Nat} {L : List Grp} (hA : GrpsAt v A L) (hk : L.map key = [(1, -1, [10, 20, 30]), (3, -1, [40])]) (W : World)
    (hW : W = (v.alloc (.cells #[.int .i64 10, .int .i64 20, .int .i64 30] 3)).alloc (.cells #[.int .i64 1, .int .i64 (-1), .slice (some ⟨v.heap.size, 0, none⟩) 3 3, .int .i64 3, .int .i64 (-1), .slice (some ⟨c, 0, none⟩) 1 1] 26)) :
    Calls Try.prog 26 #[.slice A L.length k, .slice (some ⟨v.heap.size + 1, 0, none⟩) 2 2] W fun e w' => e = .returned (.bool true) ∧ Below W.heap.size W w' := by
  have hb : Below v.heap.size v W := by rw [hW]; exact below_alloc (below_alloc (Below.refl _ _) _) _
  have hm3 := h.lastm.then_ hb
  have hI : IntsAt W (some ⟨v.heap.size, 0, none⟩) [10, 20, 30] := by
    rw [hW]
    exact ints3 (by simp [go_sem]) (by simp [go_sem]) (by simp [go_sem])
  have hG : GrpsAt W (some ⟨v.heap.size + 1, 0, none⟩) [⟨1, -1, .slice (some ⟨v.heap.size, 0, none⟩) 3 3, [10, 20, 30]⟩, ⟨3, -1, .slice (some ⟨c, 0, none⟩) 1 1, [40]⟩] := fun i hi => by
    rcases (show i = 0 ∨ i = 1 by have : i < 2 := hi
                                  omega) with rfl | rfl
    · exact ⟨⟨v.heap.size + 1, 0, rfl, by rw [hW]; simp [go_sem], by rw [hW]; simp [go_sem], by rw [hW]; simp [go_sem]⟩, ⟨_, 3, rfl, Nat.le_refl 3, hI, fun e => by cases e⟩⟩
    · exact ⟨⟨v.heap.size + 1, 0, rfl, by rw [hW]; simp [go_sem], by rw [hW]; simp [go_sem], by rw [hW]; simp [go_sem]⟩, hm3⟩
  refine same_yes A (some ⟨v.heap.size + 1, 0, none⟩) k 2 L [⟨1, -1, .slice (some ⟨v.heap.size, 0, none⟩) 3 3, [10, 20, 30]⟩, ⟨3, -1, .slice (some ⟨c, 0, none⟩) 1 1, [40]⟩] W (hA.then_ hb) hG ?_ (fun g hg => ?_) hk
  · have := congrArg List.length hk
    rw [List.length_map] at this
    rw [this]; decide
  · have h1 : key g ∈ L.map key := List.mem_map_of_mem hg
    rw [hk] at h1
    unfold key at h1
    simp at h1
    rcases h1 with h1 | h1 <;> rw [h1.2.2] <;> decide
theorem s_valid {w W : World} {gg gw a b c : Nat} (h : ExAt w W gg gw a b c) : Calls Try.prog 15 #[.slice (some ⟨gg, 0, none⟩) 3 3] W fun e w' => e = .returned (.bool true) ∧ Below W.heap.size W w' :=
  valid_any (some ⟨gg, 0, none⟩) 3 (exL (.slice (some ⟨a, 0, none⟩) 1 1) (.slice (some ⟨b, 0, none⟩) 2 2) (.slice (some ⟨c, 0, none⟩) 1 1)) W true h.g (ex_sized _ _ _) ⟨fun _ => ex_valid _ _ _, fun _ => rfl⟩
theorem s_bad (W : World) (g : Nat) (h0 : W.cell? ⟨g, 0, none⟩ = some (.int .i64 1)) (h1 : W.cell? ⟨g, 1, none⟩ = some (.int .i64 1)) (h2 : W.cell? ⟨g, 2, none⟩ = some (.slice none 0 0)) : Calls Try.prog 15 #[.slice (some ⟨g, 0, none⟩) 1 1] W fun e w' => e = .returned (.bool false) ∧ Below W.heap.size W w' := by
  have hG : GrpsAt W (some ⟨g, 0, none⟩) [⟨1, 1, .slice none 0 0, []⟩] := fun i hi => by
    obtain rfl : i = 0 := by simpa using hi
    exact ⟨⟨g, 0, rfl, h0, h1, h2⟩, ms_nil W⟩
  exact valid_any (some ⟨g, 0, none⟩) 1 [⟨1, 1, .slice none 0 0, []⟩] W false hG ex_bad_sized ⟨fun e => (by cases e), fun h => absurd h ex_bad⟩
set_option maxRecDepth 100000 in
set_option maxHeartbeats 8000000 in
theorem sane_any (w : World) : Calls Try.prog 10 #[] w fun e w' => e = .returned (.bool true) ∧ Below w.heap.size w w' := by
  go_enter Try.func10, Try.ntmps10
  go_upto_region 3 with fail
  obtain ⟨W1, hW1⟩ : ∃ W1, W1 = (((((w.alloc (.cells #[.int .i64 10] 3)).alloc (.cells #[.int .i64 20, .int .i64 30] 3)).alloc (.cells #[.int .i64 40] 3)).alloc (.cells (exC w.heap.size (w.heap.size + 1) (w.heap.size + 1 + 1)) 26)).alloc
    (.cells #[.int .i64 1, .int .i64 10, .int .i64 0, .int .i64 20, .int .i64 0, .int .i64 0, .int .i64 2, .int .i64 20, .int .i64 0, .int .i64 30, .int .i64 0, .int .i64 0, .int .i64 3, .int .i64 30, .int .i64 0, .int .i64 40, .int .i64 0, .int .i64 0] 63)) := ⟨_, rfl⟩
  have hs := ex_start w
  rw [← hW1] at hs
  unfold exC at hW1
  rw [← hW1]
  obtain ⟨a, ha⟩ : ∃ a, w.heap.size = a := ⟨_, rfl⟩
  obtain ⟨b, hb⟩ : ∃ b, w.heap.size + 1 = b := ⟨_, rfl⟩
  obtain ⟨c, hc⟩ : ∃ c, w.heap.size + 1 + 1 = c := ⟨_, rfl⟩
  obtain ⟨gg, hgg⟩ : ∃ gg, w.heap.size + 1 + 1 + 1 = gg := ⟨_, rfl⟩
  obtain ⟨gw, hgw⟩ : ∃ gw, w.heap.size + 1 + 1 + 1 + 1 = gw := ⟨_, rfl⟩
  rw [hgw, hgg, hc, hb, ha] at hs ⊢
  have E := Lib.hid hs
  clear hs hW1 ha hb hc hgg hgw
-- walk
  go_wp2_with fail
  refine (s_path1 E.out).mono ?_
  rintro e w2 ⟨A3, k3, rfl, h3, hb⟩
  have E := Lib.hid (E.out.then_ hb)
  have F3 := Lib.hid h3
  clear hb h3
  go_wp2_with fail
  refine (s_path2 E.out).mono ?_
  rintro e w3 ⟨A5, k5, rfl, hb⟩
  have E := Lib.hid (E.out.then_ hb)
  have F3 := Lib.hid (F3.out.then_ hb)
  clear hb
  go_wp2_with fail
  refine (s_below E.out).mono ?_
  rintro e w4 ⟨A7, k7, rfl, h7, hb⟩
  have E := Lib.hid (E.out.then_ hb)
  have F3 := Lib.hid (F3.out.then_ hb)
  have F7 := Lib.hid h7
  clear hb h7
  go_wp2_with fail
  refine (s_com1 E.out).mono ?_
  rintro e w5 ⟨rfl, hb⟩
  have E := Lib.hid (E.out.then_ hb)
  have F3 := Lib.hid (F3.out.then_ hb)
  have F7 := Lib.hid (F7.out.then_ hb)
  clear hb
  go_wp2_with fail
  refine (s_com2 E.out).mono ?_
  rintro e w6 ⟨rfl, hb⟩
  have E := Lib.hid (E.out.then_ hb)
  have F3 := Lib.hid (F3.out.then_ hb)
  have F7 := Lib.hid (F7.out.then_ hb)
  clear hb
  go_wp2_with fail
  refine (s_ports E.out).mono ?_
  rintro e w7 ⟨A13, k13, rfl, h13, hb⟩
  have E := Lib.hid (E.out.then_ hb)
  have F3 := Lib.hid (F3.out.then_ hb)
  have F7 := Lib.hid (F7.out.then_ hb)
  have F13 := Lib.hid h13
  clear hb h13
  go_wp2_with fail
  refine (s_dis E.out).mono ?_
  rintro e w8 ⟨A15, L15, k15, rfl, h15, hk15, hb⟩
  have E := Lib.hid (E.out.then_ hb)
  have F3 := Lib.hid (F3.out.then_ hb)
  have F7 := Lib.hid (F7.out.then_ hb)
  have F13 := Lib.hid (F13.out.then_ hb)
  have F15 := Lib.hid h15
  clear hb h15
  have K15 := Lib.hid hk15
  clear hk15
  go_wp2_with fail
  have hD := exd_new w8
  have hb0 := below_alloc (Below.refl w8.heap.size w8) (.cells #[.int .i64 10, .int .i64 0, .string ⟨#[]⟩, .int .i64 0, .int .i64 20, .int .i64 0, .string ⟨#[]⟩, .int .i64 0] 29)
  have E := Lib.hid (E.out.then_ hb0)
  have F3 := Lib.hid (F3.out.then_ hb0)
  have F7 := Lib.hid (F7.out.then_ hb0)
  have F13 := Lib.hid (F13.out.then_ hb0)
  have F15 := Lib.hid (F15.out.then_ hb0)
  obtain ⟨gd, hgd⟩ : ∃ gd, w8.heap.size = gd := ⟨_, rfl⟩
  rw [hgd] at hD ⊢
  clear hb0 hgd
  refine (s_col E.out hD).mono ?_
  rintro e w9 ⟨A1, c1, B1, e1, A2, c2, B2, e2, rfl, h17, h18, hb⟩
  have E := Lib.hid (E.out.then_ hb)
  have F3 := Lib.hid (F3.out.then_ hb)
  have F7 := Lib.hid (F7.out.then_ hb)
  have F13 := Lib.hid (F13.out.then_ hb)
  have F15 := Lib.hid (F15.out.then_ hb)
  have F17 := Lib.hid h17
  have F18 := Lib.hid h18
  clear hb h17 h18
  clear hD
  go_upto_region 11 with fail
  obtain ⟨wn, hwn⟩ : ∃ wn, wn = (w9.alloc (.cells #[.slice A1 1 c1, .slice B1 1 e1] 36)).alloc (.cells #[.slice A2 1 c2, .slice B2 0 e2] 36) := ⟨_, rfl⟩
  obtain ⟨hn, hb0⟩ := nets_new w9 _ _ _ _ wn hwn
  rw [← hwn]
  obtain ⟨r7, hr7⟩ : ∃ r, w9.heap.size = r := ⟨_, rfl⟩
  obtain ⟨r8, hr8⟩ : ∃ r, w9.heap.size + 1 = r := ⟨_, rfl⟩
  have E := Lib.hid (E.out.then_ hb0)
  have F3 := Lib.hid (F3.out.then_ hb0)
  have F7 := Lib.hid (F7.out.then_ hb0)
  have F13 := Lib.hid (F13.out.then_ hb0)
  have F15 := Lib.hid (F15.out.then_ hb0)
  have F17 := Lib.hid (F17.out.then_ hb0)
  have F18 := Lib.hid (F18.out.then_ hb0)
  rw [hr8, hr7] at hn ⊢
  have FN := Lib.hid (show NCell wn r7 r8 (.slice A1 1 c1) (.slice B1 1 e1) (.slice A2 1 c2) (.slice B2 0 e2) from ⟨hn.1, hn.2.1, hn.2.2.1, hn.2.2.2⟩)
  clear hb0 hwn hn hr7 hr8
  go_wp2_with fail
  refine (s_belown E.out).mono ?_
  rintro e w10 ⟨rfl, hb⟩
  have E := Lib.hid (E.out.then_ hb)
  have F3 := Lib.hid (F3.out.then_ hb)
  have F7 := Lib.hid (F7.out.then_ hb)
  have F13 := Lib.hid (F13.out.then_ hb)
  have F15 := Lib.hid (F15.out.then_ hb)
  have F17 := Lib.hid (F17.out.then_ hb)
  have F18 := Lib.hid (F18.out.then_ hb)
  have FN := Lib.hid (FN.out.then_ hb)
  clear hb
  go_wp2_with fail
  have hl := ints2 (W := w10.alloc (.cells #[.int .i64 1, .int .i64 2] 3)) (g := w10.heap.size) (new_cell rfl) (new_cell rfl)
  have hb0 := below_alloc (Below.refl w10.heap.size w10) (.cells #[.int .i64 1, .int .i64 2] 3)
  have E := Lib.hid (E.out.then_ hb0)
  have F3 := Lib.hid (F3.out.then_ hb0)
  have F7 := Lib.hid (F7.out.then_ hb0)
  have F13 := Lib.hid (F13.out.then_ hb0)
  have F15 := Lib.hid (F15.out.then_ hb0)
  have F17 := Lib.hid (F17.out.then_ hb0)
  have F18 := Lib.hid (F18.out.then_ hb0)
  have FN := Lib.hid (FN.out.then_ hb0)
  obtain ⟨ga, hg⟩ : ∃ g, w10.heap.size = g := ⟨_, rfl⟩
  rw [hg] at hl ⊢
  clear hb0 hg
  refine (ints_yes A3 (some ⟨ga, 0, none⟩) k3 2 [1, 2] _ (by decide) F3.out hl).mono ?_
  rintro e w11 ⟨rfl, hb⟩
  have E := Lib.hid (E.out.then_ hb)
  have F3 := Lib.hid (F3.out.then_ hb)
  have F7 := Lib.hid (F7.out.then_ hb)
  have F13 := Lib.hid (F13.out.then_ hb)
  have F15 := Lib.hid (F15.out.then_ hb)
  have F17 := Lib.hid (F17.out.then_ hb)
  have F18 := Lib.hid (F18.out.then_ hb)
  have FN := Lib.hid (FN.out.then_ hb)
  clear hb
  clear hl
  go_wp2_with fail
  have hl := ints3 (W := w11.alloc (.cells #[.int .i64 10, .int .i64 20, .int .i64 30] 3)) (g := w11.heap.size) (new_cell rfl) (new_cell rfl) (new_cell rfl)
  have hb0 := below_alloc (Below.refl w11.heap.size w11) (.cells #[.int .i64 10, .int .i64 20, .int .i64 30] 3)
  have E := Lib.hid (E.out.then_ hb0)
  have F3 := Lib.hid (F3.out.then_ hb0)
  have F7 := Lib.hid (F7.out.then_ hb0)
  have F13 := Lib.hid (F13.out.then_ hb0)
  have F15 := Lib.hid (F15.out.then_ hb0)
  have F17 := Lib.hid (F17.out.then_ hb0)
  have F18 := Lib.hid (F18.out.then_ hb0)
  have FN := Lib.hid (FN.out.then_ hb0)
  obtain ⟨gb, hg⟩ : ∃ g, w11.heap.size = g := ⟨_, rfl⟩
  rw [hg] at hl ⊢
  clear hb0 hg
  refine (ints_yes A7 (some ⟨gb, 0, none⟩) k7 3 [10, 20, 30] _ (by decide) F7.out hl).mono ?_
  rintro e w12 ⟨rfl, hb⟩
  have E := Lib.hid (E.out.then_ hb)
  have F3 := Lib.hid (F3.out.then_ hb)
  have F7 := Lib.hid (F7.out.then_ hb)
  have F13 := Lib.hid (F13.out.then_ hb)
  have F15 := Lib.hid (F15.out.then_ hb)
  have F17 := Lib.hid (F17.out.then_ hb)
  have F18 := Lib.hid (F18.out.then_ hb)
  have FN := Lib.hid (FN.out.then_ hb)
  clear hb
  clear hl
  go_upto_region 15 with fail
  have X0 := Lib.hid FN.out.four
  have ha1 := below_alloc (Below.refl w12.heap.size w12) (.cells #[.int .i64 20, .int .i64 0, .string ⟨#[]⟩, .int .i64 0] 29)
  have ha0 := Below.drew ha1
  have XA := Lib.hid (FN.out.then_ ha1).four
  have XD := Lib.hid (FN.out.then_ ha0).four
  have EA := Lib.hid (E.out.then_ ha0)
  have NA := Lib.hid (F17.out.then_ ha0)
  have C1 := Lib.hid (s_n1 EA.out NA.out ((exd_one w12 20).then_ (Below.drew (Below.refl _ _))))
  have HA0 := Lib.hid ha0
  clear ha1 ha0 NA EA
  go_region_held_law (fun w' => w'.cell? ⟨r7, 0, none⟩ = some (.slice A1 1 c1) ∧ w'.cell? ⟨r7, 1, none⟩ = some (.slice B1 1 e1) ∧ w'.cell? ⟨r8, 0, none⟩ = some (.slice A2 1 c2) ∧ w'.cell? ⟨r8, 1, none⟩ = some (.slice B2 0 e2)) (first | exact X0.out | exact XA.out | exact XD.out | exact X2.out | exact XB.out | exact X3.out) (first | (go_at_call 32; (with_reducible refine C1.out.mono ?_); rintro e v1 ⟨rfl, hb⟩; have HV1 := Lib.hid (below_next HA0.out hb); clear hb; have X2 := Lib.hid (FN.out.then_ HV1.out).four; have XB := Lib.hid (FN.out.then_ (below_alloc HV1.out (.cells #[.int .i64 10, .int .i64 0, .string ⟨#[]⟩, .int .i64 0] 29))).four; have NB := Lib.hid (F18.out.then_ (below_alloc HV1.out (.cells #[.int .i64 10, .int .i64 0, .string ⟨#[]⟩, .int .i64 0] 29))); have C2 := Lib.hid (s_n2 NB.out (exd_one v1 10))) | (go_at_call 32; (with_reducible refine C2.out.mono ?_); rintro e v2 ⟨rfl, hb⟩; have HV2 := Lib.hid (below_next (below_alloc HV1.out (.cells #[.int .i64 10, .int .i64 0, .string ⟨#[]⟩, .int .i64 0] 29)) hb); clear hb; have X3 := Lib.hid (FN.out.then_ HV2.out).four))
  have E := Lib.hid (E.out.then_ HV2.out)
  have F13 := Lib.hid (F13.out.then_ HV2.out)
  have F15 := Lib.hid (F15.out.then_ HV2.out)
  clear F3 F7 F17 F18 FN X0 XA XD X2 X3 XB NB C1 C2 HV1 HA0
  go_wp2_with fail
  have hl := prts2 (W := v2.alloc (.cells #[.int .i64 1, .bool true, .int .i64 20, .int .i64 3, .bool false, .int .i64 30] 65)) (g := v2.heap.size) (new_cell rfl) (new_cell rfl) (new_cell rfl) (new_cell rfl) (new_cell rfl) (new_cell rfl)
  have hb0 := below_alloc (Below.refl v2.heap.size v2) (.cells #[.int .i64 1, .bool true, .int .i64 20, .int .i64 3, .bool false, .int .i64 30] 65)
  have E := Lib.hid (E.out.then_ hb0)
  have F13 := Lib.hid (F13.out.then_ hb0)
  have F15 := Lib.hid (F15.out.then_ hb0)
  refine (sameports_yes A13 (some ⟨v2.heap.size, 0, none⟩) k13 2 [⟨1, true, 20⟩, ⟨3, false, 30⟩] _ F13.out hl (by decide)).mono ?_
  rintro e v3 ⟨rfl, hb⟩
  have E := Lib.hid (E.out.then_ hb)
  have F15 := Lib.hid (F15.out.then_ hb)
  have EL := Lib.hid (E.out.then_ (below_alloc (Below.refl v3.heap.size v3) (.cells #[.int .i64 10, .int .i64 20, .int .i64 30] 3)))
  obtain ⟨l6, l7, l8⟩ := EL.out.last
  clear hl hb hb0 F13 EL
  go_wp2_with fail
  clear l6 l7 l8
  refine (s_same E.out F15.out K15.out _ rfl).mono ?_
  rintro e v4 ⟨rfl, hb⟩
  have hb0 := below_next (below_alloc (below_alloc (Below.refl v3.heap.size v3) (.cells #[.int .i64 10, .int .i64 20, .int .i64 30] 3)) (.cells #[.int .i64 1, .int .i64 (-1), .slice (some ⟨v3.heap.size, 0, none⟩) 3 3, .int .i64 3, .int .i64 (-1), .slice (some ⟨c, 0, none⟩) 1 1] 26)) hb
  have E := Lib.hid (E.out.then_ hb0)
  clear hb hb0 F15 K15
  go_wp2_with fail
  refine (s_valid E.out).mono ?_
  rintro e v5 ⟨rfl, hb⟩
  have E := Lib.hid (E.out.then_ hb)
  clear hb
  go_wp2_with fail
  refine (s_bad (v5.alloc (.cells #[.int .i64 1, .int .i64 1, .slice none 0 0] 26)) v5.heap.size (new_cell rfl) (new_cell rfl) (new_cell rfl)).mono ?_
  rintro e v6 ⟨rfl, hb⟩
  have B6 := Lib.hid (below_next (below_alloc E.out.bel (.cells #[.int .i64 1, .int .i64 1, .slice none 0 0] 26)) hb)
  clear hb
  go_wp2_with fail
  go_ret
  exact ⟨rfl, B6.out⟩
end Go.Proofs.Ytebfenkjipaedaa.Gr
