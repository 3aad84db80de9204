/- Package stroke: Same; slices.Equal at dots. A row of integers in a block of its own. No program stands here. The small functions of the chapter's laws and reference: pick, Ints, example. Package stroke: the functions that Moved and Turned give to changed. Package stroke: each at dots, with the functions of Moved and Turned. The reference's Made. -/
import Derived.Test.YtgopadbdnndkiaaPb
import Derived.Test.YtgopadbdnndkiaaPc
import Derived.Laws.StructEq
import Derived.Test.YtgopadbdnndkiaaPa
import Derived.Laws.OwnMore
import Derived.Deep.AppendLies
import Derived.OwnWalk
import Derived.RegionTactic
import Derived.ChangeAlike
import Derived.Laws.MakeOwn
import Derived.WalkSpells
namespace Go.Proofs.Ytgopadbdnndkiaa
open Go.RowKit Str
theorem eqF_dot (w : World) (d e : Dot) : (Op.equalIn 10000 54 (.agg #[.int .i64 d.x, .int .i64 d.y, .int .i64 d.t, .int .i64 d.p]) (.agg #[.int .i64 e.x, .int .i64 e.y, .int .i64 e.t, .int .i64 e.p])).run Try.prog w = .ok (decide (d = e)) w := by
  have u3 := Try.underlying3
  have hS : Try.prog.underlying 54 = some (.struct (Try.prog.fieldsOf 54)) := by kernel_rfl
  have hp : Try.prog.stoodInHeld 54 = false := by kernel_rfl
  have ia := Try.isAgg3
  have iz := Try.sizeOf3
  obtain ⟨a, b, c, f⟩ := d
  obtain ⟨a', b', c', f'⟩ := e
  rw [show (10000 : Nat) = 9999 + 1 from rfl, run_equalIn_agg w 9999 54 _ _ hS hp]
  simp only [Program.fieldsOf, Try.underlying54]
  go_simp
  by_cases h1 : a = a' <;> by_cases h2 : b = b' <;> by_cases h3 : c = c' <;> by_cases h4 : f = f' <;> simp [h1, h2, h3, h4]
theorem neq_dot (w : World) (d e : Dot) : (binOp .neq 54 (.agg #[.int .i64 d.x, .int .i64 d.y, .int .i64 d.t, .int .i64 d.p]) (.agg #[.int .i64 e.x, .int .i64 e.y, .int .i64 e.t, .int .i64 e.p])).run Try.prog w = .ok (.bool (!decide (d = e))) w := by
  rw [run_neq_struct, eqF_dot]; rfl
theorem eql_dot (w : World) (d e : Dot) : (binOp .eql 54 (.agg #[.int .i64 d.x, .int .i64 d.y, .int .i64 d.t, .int .i64 d.p]) (.agg #[.int .i64 e.x, .int .i64 e.y, .int .i64 e.t, .int .i64 e.p])).run Try.prog w = .ok (.bool (decide (d = e))) w := by
  rw [run_eql_struct, eqF_dot]; rfl
/-- two lists of dots, up to k -/
theorem take_eq {D E : List Dot} {k : Nat} (h1 : k < D.length) (h2 : k < E.length) : D.take (k + 1) = E.take (k + 1) ↔ D.take k = E.take k ∧ dotAt D k = dotAt E k := by
  rw [take_dot h1, take_dot h2]
  constructor
  · intro h
    obtain ⟨a, b⟩ := List.append_inj h (by simp; omega)
    exact ⟨a, by simpa using b⟩
  · rintro ⟨a, b⟩; rw [a, b]
def sameB (P N : Int) (D : List Dot) (Q M : Int) (E : List Dot) : Bool := decide (P = Q) && decide (N = M) && decide (D = E)
end Go.Proofs.Ytgopadbdnndkiaa
namespace Go.Proofs.Ytgopadbdnndkiaa
open Go.RowKit
/-- n cells of integers in a row -/
def ArrN (W : World) (g n : Nat) (f : Nat → Int) : Prop := ∀ j, j < n → W.cell? ⟨g, j, none⟩ = some (.int .i64 (f j)) ∧ W.frozen? ⟨g, j, none⟩ = false
theorem ArrN.then_ {W W' : World} {g n : Nat} {f : Nat → Int} (h : ArrN W g n f) (hb : Below W.heap.size W W') : ArrN W' g n f := fun j hj => var_then hb (h j hj)
theorem ArrN.other {W : World} {g n : Nat} {f : Nat → Int} (h : ArrN W g n f) {p : Addr} (hp : g ≠ p.block) (x : Value) : ArrN (W.setCell p x) g n f := fun j hj =>
  ⟨cell_set x (h j hj).1 hp, by rw [frozen_set]; exact (h j hj).2⟩
theorem ArrN.set_ {W : World} {g n : Nat} {f : Nat → Int} (h : ArrN W g n f) {i : Nat} (hi : i < n) (v : Int) : ArrN (W.setCell ⟨g, i, none⟩ (.int .i64 v)) g n (fun j => if j = i then v else f j) := fun j hj => by
  refine ⟨?_, by rw [frozen_set]; exact (h j hj).2⟩
  by_cases e : j = i
  · subst e
    dsimp only
    rw [if_pos rfl]
    simp [go_sem, (h j hj).1]
  · dsimp only
    rw [if_neg e]
    exact (World.cell?_setCell_other _ _ _ _ (fun e' => e (by injection e'; omega))).trans (h j hj).1
theorem ArrN.grown {W W' : World} {g n : Nat} {f : Nat → Int} {row : Option Nat} (h : ArrN W g n f) (hg : W.grownBy W' row) (hne : some g ≠ row) : ArrN W' g n f := fun j hj => by
  obtain ⟨h1, h2⟩ := h j hj
  have hlt := World.block_lt_of_cell? _ _ h1
  exact ⟨(hg.cell_far _ hlt hne).trans h1, (hg.frozen_far _ hlt hne).trans h2⟩
theorem own_then {w w' : World} {base : Nat} {e : TypeId} {size n : Nat} {v : Value} {xs : List Value} (h : w.ownsRow base e size v n xs) (hb : Below w.heap.size w w') : w'.ownsRow base e size v n xs := by
  refine ⟨h.1, ?_⟩
  rcases h.2 with h2 | ⟨g, cap, cur, h1, h2, h3, h4⟩
  · exact .inl h2
  · exact .inr ⟨g, cap, cur, h1, h2, (hb.block g (Array.getElem?_eq_some_iff.1 h3).1).trans h3, h4⟩
theorem own_set {w : World} {base : Nat} {e : TypeId} {size n : Nat} {v : Value} {xs : List Value} (h : w.ownsRow base e size v n xs) {p : Addr} (hne : v.ownBlock ≠ some p.block) (x : Value) : (w.setCell p x).ownsRow base e size v n xs := by
  refine ⟨h.1, ?_⟩
  rcases h.2 with h2 | ⟨g, cap, cur, rfl, h2, h3, h4⟩
  · exact .inl h2
  · exact .inr ⟨g, cap, cur, rfl, h2, (Below.heap_setCell w p x g (fun e => hne (by rw [← e]; rfl))).trans h3, h4⟩
theorem VarN.grown {W W' : World} {g n : Nat} {row : Option Nat} (h : VarN W g n) (hg : W.grownBy W' row) (hne : some g ≠ row) : VarN W' g n := fun i hi => by
  obtain ⟨⟨v, h1⟩, h2⟩ := h i hi
  have hlt := World.block_lt_of_cell? _ _ h1
  exact ⟨⟨v, (hg.cell_far _ hlt hne).trans h1⟩, (hg.frozen_far _ hlt hne).trans h2⟩
theorem Var3.grown {W W' : World} {g : Nat} {row : Option Nat} (h : Var3 W g) (hg : W.grownBy W' row) (hne : some g ≠ row) : Var3 W' g := by
  unfold Var3 at h ⊢; exact VarN.grown h hg hne
theorem drew_cell {W : World} {a : Addr} {v : Value} (h : W.cell? a = some v) : W.drew.cell? a = some v := h
theorem cell_grown' {W W' : World} {a : Addr} {v : Value} {row : Option Nat} (h : W.cell? a = some v) (hg : W.grownBy W' row) (hne : some a.block ≠ row) : W'.cell? a = some v :=
  (hg.cell_far _ (World.block_lt_of_cell? _ _ h) hne).trans h
/-- the integers of a list, as values -/
def ivs (l : List Int) : List Value := l.map fun n => .int .i64 n
theorem ivs_append (a b : List Int) : ivs (a ++ b) = ivs a ++ ivs b := List.map_append
theorem ivs_length (l : List Int) : (ivs l).length = l.length := List.length_map _
/-- natural numbers as integers -/
def natI (l : List Nat) : List Int := l.map fun n : Nat => (n : Int)
theorem natI_length (l : List Nat) : (natI l).length = l.length := List.length_map _
theorem natI_append (a b : List Nat) : natI (a ++ b) = natI a ++ natI b := List.map_append
/-- a list of integers in memory -/
def IntsAt (w : World) (A : Option Addr) (l : List Int) : Prop := ∀ i, i < l.length → ∃ b o, A = some ⟨b, o, none⟩ ∧ w.cell? ⟨b, o + i, none⟩ = some (.int .i64 (l.getD i 0))
theorem IntsAt.then_ {w w' : World} {A : Option Addr} {l : List Int} (h : IntsAt w A l) (hb : Below w.heap.size w w') : IntsAt w' A l := fun i hi => by
  obtain ⟨b, o, hA, hc⟩ := h i hi
  exact ⟨b, o, hA, cell_then hb hc⟩
theorem ints_of_own {w : World} {base g cap n : Nat} {e : TypeId} {l : List Int} (h : w.ownsRow base e 1 (.slice (some ⟨g, 0, none⟩) n cap) n (ivs l)) : IntsAt w (some ⟨g, 0, none⟩) l := fun i hi => by
  have hl := h.1
  rw [ivs_length, Nat.mul_one] at hl
  refine ⟨g, 0, rfl, ?_⟩
  rw [Nat.zero_add, h.cellAt i (by omega), ivs, List.getElem?_map, List.getElem?_eq_getElem hi]
  simp [List.getD, List.getElem?_eq_getElem hi]
end Go.Proofs.Ytgopadbdnndkiaa
namespace Go.Proofs.Ytgopadbdnndkiaa
open Go.RowKit Str
/-- an integer of 64 bits -/
def I64 (c : Int) : Prop := -9223372036854775808 ≤ c ∧ c ≤ 9223372036854775807
def pickI (c n : Int) : Int := (if c < 0 then -(c + 1) else c) % n
theorem pickI_bd (c : Int) {n : Int} (h : 0 < n) : 0 ≤ pickI c n ∧ pickI c n < n := ⟨Int.emod_nonneg _ (by omega), Int.emod_lt_of_pos _ h⟩
theorem tmodI (a n : Int) (h : 0 ≤ a) : a.tmod n = a % n := Int.tmod_eq_emod_of_nonneg h
theorem pickR_any (c n : Int) (w : World) (hc : I64 c) (hn : 0 < n) (hn2 : n ≤ 9223372036854775807) : Calls Try.prog 44 #[.int .i64 c, .int .i64 n] w fun e w' => e = .returned (.int .i64 (pickI c n)) ∧ w = w' := by
  obtain ⟨h1, h2⟩ := hc
  by_cases h : c < 0
  · have hp := Lib.hid (show pickI c n = (-(c + 1)).tmod n by rw [tmodI _ _ (by omega), pickI, if_pos h])
    have hz : (n == 0) = false := by rw [beq_eq_false_iff_ne]; omega
    go_enter Try.func44, Try.ntmps44
    go_wp2_with fail
    go_ret
    exact ⟨ret_int (by rw [hp.out, Int.neg_tmod]), rfl⟩
  · have hp := Lib.hid (show pickI c n = c.tmod n by rw [tmodI _ _ (by omega), pickI, if_neg h])
    have hz : (n == 0) = false := by rw [beq_eq_false_iff_ne]; omega
    go_enter Try.func44, Try.ntmps44
    go_wp2_with fail
    go_ret
    exact ⟨ret_int (by rw [hp.out]; first | rfl | rw [tmodI _ _ (by omega)]), rfl⟩
theorem takeI_eq {D E : List Int} {k : Nat} (h1 : k < D.length) (h2 : k < E.length) : D.take (k + 1) = E.take (k + 1) ↔ D.take k = E.take k ∧ D.getD k 0 = E.getD k 0 := by
  have e : ∀ (l : List Int), k < l.length → l.take (k + 1) = l.take k ++ [l.getD k 0] := fun l h => by
    rw [List.take_succ_eq_append_getElem h, List.getD, List.getElem?_eq_getElem h]; rfl
  rw [e D h1, e E h2]
  constructor
  · intro h
    obtain ⟨a, b⟩ := List.append_inj h (by simp; omega)
    exact ⟨a, by simpa using b⟩
  · rintro ⟨a, b⟩; rw [a, b]
/-- the chapter's example -/
def exD : List Dot := [⟨0, 0, 0, 0⟩, ⟨50, 2, 0, 0⟩, ⟨100, 0, 0, 0⟩, ⟨100, 60, 0, 0⟩, ⟨101, 100, 0, 0⟩]
def ExP (w : World) (e : Ending) (w' : World) : Prop := ∃ g, e = .returned (.agg #[.int .i64 2, .int .i64 7, .slice (some ⟨g, 0, none⟩) 5 5]) ∧ Dots w' (some ⟨g, 0, none⟩) exD ∧ Below w.heap.size w w'
end Go.Proofs.Ytgopadbdnndkiaa
namespace Go.Proofs.Ytgopadbdnndkiaa
open Go.RowKit Str
theorem quarters (q : Int) (hq : -9223372036854775808 ≤ q ∧ q ≤ 9223372036854775807) : (wrap64 (q.tmod 4 + 4)).tmod 4 = (((q % 4).toNat : Nat) : Int) := by
  have h1 : q.tmod 4 = q % 4 ∨ (q.tmod 4 = q % 4 - 4 ∧ 0 < q % 4) := by
    rcases Int.le_total 0 q with h | h
    · exact .inl (Int.tmod_eq_emod_of_nonneg h)
    · obtain ⟨p, hp⟩ : ∃ p, q = -p := ⟨-q, by omega⟩
      have e : q.tmod 4 = -(p % 4) := by rw [hp, Int.neg_tmod, Int.tmod_eq_emod_of_nonneg (by omega)]
      omega
  have h2 : wrap64 (q.tmod 4 + 4) = q.tmod 4 + 4 := IntWalk.wrap64_in _ (by omega)
  rw [h2, Int.tmod_eq_emod_of_nonneg (by omega)]
  omega
def mv1 (u v : Int) (d : Dot) : Dot := ⟨d.x + u, d.y + v, d.t, d.p⟩
end Go.Proofs.Ytgopadbdnndkiaa
namespace Go.Proofs.Ytgopadbdnndkiaa
open Go.RowKit Str
theorem dot_info : (Try.prog.info? 54).map (fun i => (i.zero, i.size, i.bytes)) = some (some (.agg #[.int .i64 0, .int .i64 0, .int .i64 0, .int .i64 0]), 4, 32) := by kernel_rfl
/-- the cells of dots, one after another -/
def dcells : List Dot → List Value
  | [] => []
  | d :: r => .int .i64 d.x :: .int .i64 d.y :: .int .i64 d.t :: .int .i64 d.p :: dcells r
theorem dcells_append (a b : List Dot) : dcells (a ++ b) = dcells a ++ dcells b := by
  induction a with
  | nil => rfl
  | cons d r ih => simp [dcells, ih]
theorem dcells_length (l : List Dot) : (dcells l).length = l.length * 4 := by
  induction l with
  | nil => rfl
  | cons d r ih => simp only [dcells, List.length_cons, ih]; omega
theorem dcells_get : ∀ (l : List Dot) (i : Nat), i < l.length → (dcells l)[i * 4]? = some (.int .i64 (dotAt l i).x) ∧ (dcells l)[i * 4 + 1]? = some (.int .i64 (dotAt l i).y) ∧ (dcells l)[i * 4 + 2]? = some (.int .i64 (dotAt l i).t) ∧ (dcells l)[i * 4 + 3]? = some (.int .i64 (dotAt l i).p)
  | d :: r, 0, _ => ⟨rfl, rfl, rfl, rfl⟩
  | d :: r, i + 1, h => by
    have := dcells_get r i (by simpa using h)
    rw [show (i + 1) * 4 = i * 4 + 4 by omega]
    exact this
theorem dots_of_own {w : World} {base g n cap : Nat} {e : TypeId} {l : List Dot} (h : w.ownsRow base e 4 (.slice (some ⟨g, 0, none⟩) n cap) n (dcells l)) : Dots w (some ⟨g, 0, none⟩) l := fun i hi => by
  have hl := h.1
  rw [dcells_length] at hl
  obtain ⟨c0, c1, c2, c3⟩ := dcells_get l i hi
  refine ⟨g, 0, rfl, ?_⟩
  rw [Nat.zero_add]
  exact ⟨(h.cellAt _ (by omega)).trans c0, (h.cellAt _ (by omega)).trans c1, (h.cellAt _ (by omega)).trans c2, (h.cellAt _ (by omega)).trans c3⟩
theorem own_cap {w : World} {base g n cap : Nat} {e : TypeId} {size : Nat} {xs : List Value} (h : w.ownsRow base e size (.slice (some ⟨g, 0, none⟩) n cap) n xs) : n ≤ cap ∧ (cap : Int) ≤ 9223372036854775807 := by
  rcases h.2 with ⟨h, _⟩ | ⟨g2, c2, cur, h, _, _, h3, h4, _⟩
  · cases h
  · simp only [Value.slice.injEq] at h
    unfold maxLen at h4
    omega
theorem new_dot {w : World} {d : Dot} {t : TypeId} : ∀ j u, [(.int .i64 d.x : Value), .int .i64 d.y, .int .i64 d.t, .int .i64 d.p][j]? = some u → (w.alloc (.cells #[.int .i64 d.x, .int .i64 d.y, .int .i64 d.t, .int .i64 d.p] t)).cell? ((⟨w.heap.size, 0, none⟩ : Addr).add j) = some u := by
  intro j u h
  have hj : j < 4 := by
    rcases Nat.lt_or_ge j 4 with h' | h'
    · exact h'
    · rw [List.getElem?_eq_none (by simpa using h')] at h; cases h
  rcases (show j = 0 ∨ j = 1 ∨ j = 2 ∨ j = 3 by omega) with rfl | rfl | rfl | rfl
  all_goals exact new_cell (by simpa using h)
/-- what each comes to -/
def DotsP (E : List Dot) (w : World) (e : Ending) (w' : World) : Prop :=
  ∃ g cap, e = .returned (.slice (some ⟨g, 0, none⟩) E.length cap) ∧ w.heap.size ≤ g ∧ Dots w' (some ⟨g, 0, none⟩) E ∧ E.length ≤ cap ∧ (cap : Int) ≤ 9223372036854775807 ∧ Below w.heap.size w w'
theorem map_take_snoc (f : Dot → Dot) {D : List Dot} {k : Nat} (h : k < D.length) : (D.take (k + 1)).map f = (D.take k).map f ++ [f (dotAt D k)] := by rw [take_dot h, List.map_append]; rfl
end Go.Proofs.Ytgopadbdnndkiaa
namespace Go.Proofs.Ytgopadbdnndkiaa
open Go.RowKit Str
/-- a slice of three numbers each -/
def Ents (W : World) (A : Option Addr) (es : List E3) : Prop := ∀ i, i < es.length → ∃ b o, A = some ⟨b, o, none⟩ ∧
  W.cell? ⟨b, o + i * 3, none⟩ = some (.int .i64 (es.getD i ⟨0, 0, 0⟩).a) ∧ W.cell? ⟨b, o + i * 3 + 1, none⟩ = some (.int .i64 (es.getD i ⟨0, 0, 0⟩).b) ∧
  W.cell? ⟨b, o + i * 3 + 2, none⟩ = some (.int .i64 (es.getD i ⟨0, 0, 0⟩).c)
theorem Ents.below {W W' : World} {A : Option Addr} {es : List E3} (h : Ents W A es) (hb : Below W.heap.size W W') : Ents W' A es := fun j hj => by
  obtain ⟨b, o, hA, h0, h1, h2⟩ := h j hj
  exact ⟨b, o, hA, cell_then hb h0, cell_then hb h1, cell_then hb h2⟩
theorem Var4.grown {W W' : World} {g : Nat} {row : Option Nat} (h : Var4 W g) (hg : W.grownBy W' row) (hne : some g ≠ row) : Var4 W' g := by
  unfold Var4 at h ⊢; exact VarN.grown h hg hne
theorem made_end {P N : Int} {w wr : World} {B g cp k : Nat} {t : TypeId} {E D : List Dot} (hown : wr.ownsRow B t 4 (.slice (some ⟨g, 0, none⟩) (k + 1) cp) (k + 1) (dcells E)) (hT : E = D) (hN : D.length = k + 1) (hwB : w.heap.size + 1 ≤ B) (hB : Below w.heap.size w wr) :
    ∃ g' cp' : Nat, Ending.returned (.agg #[.int .i64 P, .int .i64 N, .slice (some ⟨g, 0, none⟩) (k + 1) cp]) = .returned (.agg #[.int .i64 P, .int .i64 N, .slice (some ⟨g', 0, none⟩) D.length cp']) ∧ w.heap.size ≤ g' ∧
    Dots (((wr.setCell ⟨w.heap.size, 0, none⟩ (.int .i64 P)).setCell ⟨w.heap.size, 1, none⟩ (.int .i64 N)).setCell ⟨w.heap.size, 2, none⟩ (.slice (some ⟨g, 0, none⟩) (k + 1) cp)) (some ⟨g', 0, none⟩) D ∧ D.length ≤ cp' ∧ (cp' : Int) ≤ 9223372036854775807 ∧
    Below w.heap.size w (((wr.setCell ⟨w.heap.size, 0, none⟩ (.int .i64 P)).setCell ⟨w.heap.size, 1, none⟩ (.int .i64 N)).setCell ⟨w.heap.size, 2, none⟩ (.slice (some ⟨g, 0, none⟩) (k + 1) cp)) := by
  subst hT
  have hg := (hown.lt g rfl).1
  have hcc := own_cap hown
  have hdd := dots_of_own hown
  refine ⟨g, cp, by rw [hN], by omega, fun i hi => ?_, by rw [hN]; exact hcc.1, hcc.2, ((hB.setCell (p := ⟨w.heap.size, 0, none⟩) (by dsimp only; omega) _).setCell (p := ⟨w.heap.size, 1, none⟩) (by dsimp only; omega) _).setCell (p := ⟨w.heap.size, 2, none⟩) (by dsimp only; omega) _⟩
  obtain ⟨b, o, hA, c0, c1, c2, c3⟩ := hdd i hi
  have ne : g = b := by injection hA with hA; injection hA
  exact ⟨b, o, hA, cell_set _ (cell_set _ (cell_set _ c0 (by dsimp only; omega)) (by dsimp only; omega)) (by dsimp only; omega), cell_set _ (cell_set _ (cell_set _ c1 (by dsimp only; omega)) (by dsimp only; omega)) (by dsimp only; omega), cell_set _ (cell_set _ (cell_set _ c2 (by dsimp only; omega)) (by dsimp only; omega)) (by dsimp only; omega), cell_set _ (cell_set _ (cell_set _ c3 (by dsimp only; omega)) (by dsimp only; omega)) (by dsimp only; omega)⟩
set_option maxRecDepth 100000 in
set_option maxHeartbeats 4000000 in
theorem made_any (a b m : Int) (A : Option Addr) (cap : Nat) (es : List E3) (w : World) (ha : I64 a) (hb : I64 b) (hm' : wrap64 (a * 37) = m) (hE : Ents w A es) (hI : ∀ e ∈ es, I64 e.a ∧ I64 e.b ∧ I64 e.c) (hn : (es.length : Int) ≤ 9223372036854775807) :
    Calls Try.prog 27 #[.int .i64 a, .int .i64 b, .slice A es.length cap] w fun e w' => ∃ g cp : Nat, e = .returned (.agg #[.int .i64 (pickI a 40), .int .i64 (1 + pickI b 999), .slice (some ⟨g, 0, none⟩) (madeD a b m es).length cp]) ∧ w.heap.size ≤ g ∧ Dots w' (some ⟨g, 0, none⟩) (madeD a b m es) ∧ (madeD a b m es).length ≤ cp ∧ (cp : Int) ≤ 9223372036854775807 ∧ Below w.heap.size w w' := by
  have HMM := Lib.hid hm'
  clear hm'
  have HE := Lib.hid hE
  have HI := Lib.hid hI
  clear hE hI
  have p1 := pickI_bd a (n := 40) (by omega)
  have p2 := pickI_bd b (n := 999) (by omega)
  have p3 := pickI_bd b (n := 2000) (by omega)
  have p4 := pickI_bd a (n := 500) (by omega)
  obtain ⟨i0, hi0, hz0, hz1, hz2⟩ := info_parts dot_info
  go_enter Try.func27, Try.ntmps27
  go_wp2_with fail
  refine (pickR_any _ _ _ ha (by omega) (by omega)).mono ?_
  rintro e w1 ⟨rfl, rfl⟩
  go_wp2_with fail
  refine (pickR_any _ _ _ hb (by omega) (by omega)).mono ?_
  rintro e w1 ⟨rfl, rfl⟩
  go_wp2_with fail
  refine (pickR_any _ _ _ hb (by omega) (by omega)).mono ?_
  rintro e w1 ⟨rfl, rfl⟩
  go_wp2_with fail
  have hm : I64 (wrap64 (a * 37)) := by unfold I64 wrap64; omega
  rw [HMM.out] at hm ⊢
  have p5 := pickI_bd m (n := 2000) (by omega)
  refine (pickR_any _ _ _ hm (by omega) (by omega)).mono ?_
  rintro e w1 ⟨rfl, rfl⟩
  go_wp2_with fail
  obtain ⟨W2, hW⟩ : ∃ W, (w.alloc (.cells #[.int .i64 0, .int .i64 0, .slice none 0 0] 50)).alloc (.cells #[.int .i64 (pickI a 40), .int .i64 (1 + pickI b 999), .slice none 0 0] 50) = W := ⟨_, rfl⟩
  have hs2 : W2.heap.size = w.heap.size + 2 := by rw [← hW]; simp
  have B2 : Below w.heap.size w W2 := by rw [← hW]; exact below_alloc (below_alloc (Below.refl _ _) _) _
  have VR : Var3 W2 w.heap.size := by rw [← hW]; exact (Var3.new _ _ _ _ _).alloc _
  have VS : Var3 W2 (w.heap.size + 1) := by rw [← hW]; exact Var3.of (v0 := .int .i64 (pickI a 40)) (by simp [go_sem]) (v1 := .int .i64 (1 + pickI b 999)) (by simp [go_sem]) (v2 := .slice none 0 0) (by simp [go_sem])
  have s0 : W2.cell? ⟨w.heap.size + 1, 0, none⟩ = some (.int .i64 (pickI a 40)) := by rw [← hW]; exact new_cell' rfl
  have s1 : W2.cell? ⟨w.heap.size + 1, 1, none⟩ = some (.int .i64 (1 + pickI b 999)) := by rw [← hW]; exact new_cell' rfl
  have s2 : W2.cell? ⟨w.heap.size + 1, 2, none⟩ = some (.slice none 0 0) := by rw [← hW]; exact new_cell' rfl
  rw [hW]
  clear hW
  have f2 := VS.f2
  have hls := lt_size s2
  obtain ⟨v0, hv0, hr0⟩ : ∃ v0, v0 = Value.slice none 0 0 ∧ ∀ (W : World) (base : Nat), W.ownsRow base 54 4 v0 0 [] := ⟨_, rfl, fun W base => World.ownsRow_nil _ _ _ _⟩
  have hb0 : ∀ g, some g ≠ v0.ownBlock := fun g h => by rw [hv0] at h; cases h
  rw [← hv0] at s2
  clear hv0
  have HVR := Lib.hid VR
  have HVS := Lib.hid VS
  have HS2 := Lib.hid hs2
  clear VR VS hs2
  have hm0 : made0 a b m = ⟨1000 + pickI b 2000, 1000 + pickI m 2000, pickI a 500, 0⟩ := rfl
  refine (pickR_any _ _ _ ha (by omega) (by omega)).mono ?_
  rintro e w1 ⟨rfl, rfl⟩
  go_wp2_with (at_builtin; go_must (refine wpList_append_lies _ rfl _ _ _ rfl (W2.heap.size + 1) 54 i0 _ 4 32 Try.underlying48 hi0 hz0 hz1 hz2 rfl (by omega) v0 0 [] rfl (hr0 _ _) ⟨W2.heap.size + 1, 0, none⟩ 1 1 [.int .i64 (1000 + pickI b 2000), .int .i64 (1000 + pickI m 2000), .int .i64 (pickI a 500), .int .i64 0] rfl rfl (fun j u h => by have h2 := new_dot (w := W2.alloc (.cells #[.int .i64 (made0 a b m).x, .int .i64 (made0 a b m).y, .int .i64 (made0 a b m).t, .int .i64 (made0 a b m).p] 54)) (d := made0 a b m) (t := 54) j u h; rw [show (W2.alloc (.cells #[.int .i64 (made0 a b m).x, .int .i64 (made0 a b m).y, .int .i64 (made0 a b m).t, .int .i64 (made0 a b m).p] 54)).heap.size = W2.heap.size + 1 by simp] at h2; exact h2) (by simp [Value.oneCell']) (by omega) (by unfold maxLen; omega) (by omega) (by simp) (W2.heap.size + 1 + 1) (by simp) ?_); intro g cp W3 hown hgrow hat hlt'; have x2 := (hgrow.cell_far ⟨w.heap.size + 1, 2, none⟩ (by simp; omega) (hb0 _)).trans (keep_alloc _ (keep_alloc _ s2)); have x3 := (hgrow.frozen_far ⟨w.heap.size + 1, 2, none⟩ (by simp; omega) (hb0 _)).trans (var_then (below_alloc (below_alloc (Below.refl _ _) _) _) ⟨s2, f2⟩).2)
  have hg0 := (hown.lt g rfl).1
  rw [HS2.out] at hg0
  have hB3 : Below w.heap.size w W3 := (below_alloc (below_alloc B2 _) _).grown hgrow (below_alloc (below_alloc B2 _) _).size (fun q hq => absurd hq.symm (hb0 q))
  have y0 := cell_grown' (keep_alloc _ (keep_alloc _ s0)) hgrow (hb0 _)
  have y1 := cell_grown' (keep_alloc _ (keep_alloc _ s1)) hgrow (hb0 _)
  have VR3 := ((HVR.out.alloc _).alloc _).grown hgrow (hb0 _)
  have VS3 := ((HVS.out.alloc _).alloc _).grown hgrow (hb0 _)
  have VD3 := ((Var4.new W2 _ _ _ _ _).alloc _).grown hgrow (hb0 _)
  have d0 := cell_grown' (a := ⟨W2.heap.size, 0, none⟩) (v := .int .i64 (1000 + pickI b 2000)) (keep_alloc _ (new_cell rfl)) hgrow (hb0 _)
  have d1 := cell_grown' (a := ⟨W2.heap.size, 1, none⟩) (v := .int .i64 (1000 + pickI m 2000)) (keep_alloc _ (new_cell rfl)) hgrow (hb0 _)
  have d2 := cell_grown' (a := ⟨W2.heap.size, 2, none⟩) (v := .int .i64 (pickI a 500)) (keep_alloc _ (new_cell rfl)) hgrow (hb0 _)
  have d3 := cell_grown' (a := ⟨W2.heap.size, 3, none⟩) (v := .int .i64 0) (keep_alloc _ (new_cell rfl)) hgrow (hb0 _)
  have hq := lt_size s2
  clear hgrow hat x2 x3
  go_loopw [9] (fun i wr => ∃ k g cp : Nat, k ≤ es.length ∧ k ≤ 23 ∧ i = .int .i64 (k : Int) ∧ wr.ownsRow (W2.heap.size + 1) 54 4 (.slice (some ⟨g, 0, none⟩) (k + 1) cp) (k + 1) (dcells (made0 a b m :: madeR (made0 a b m) (es.take k))) ∧
    wr.cell? ⟨w.heap.size + 1, 0, none⟩ = some (.int .i64 (pickI a 40)) ∧ wr.cell? ⟨w.heap.size + 1, 1, none⟩ = some (.int .i64 (1 + pickI b 999)) ∧ wr.cell? ⟨w.heap.size + 1, 2, none⟩ = some (.slice (some ⟨g, 0, none⟩) (k + 1) cp) ∧ Var3 wr w.heap.size ∧ Var3 wr (w.heap.size + 1) ∧ Var4 wr W2.heap.size ∧
    wr.cell? ⟨W2.heap.size, 0, none⟩ = some (.int .i64 (lastD (made0 a b m) (es.take k)).x) ∧ wr.cell? ⟨W2.heap.size, 1, none⟩ = some (.int .i64 (lastD (made0 a b m) (es.take k)).y) ∧ wr.cell? ⟨W2.heap.size, 2, none⟩ = some (.int .i64 (lastD (made0 a b m) (es.take k)).t) ∧ wr.cell? ⟨W2.heap.size, 3, none⟩ = some (.int .i64 (lastD (made0 a b m) (es.take k)).p) ∧ Below w.heap.size w wr) (fun i _ => 23 - (intOf i).toNat)
  case atStart =>
    exact ⟨0, g, cp, by omega, by omega, rfl, own_set hown (fun h => by have h2 : g = w.heap.size + 1 := Option.some.inj h; omega) _, cell_off _ y0 (by omega), cell_off _ y1 (by omega), VS3.s2 _, VR3.set_ _ _, VS3.set_ _ _, VD3.set_ _ _,
      cell_set _ d0 (by dsimp only; omega), cell_set _ d1 (by dsimp only; omega), cell_set _ d2 (by dsimp only; omega), cell_set _ d3 (by dsimp only; omega), hB3.setCell (by dsimp only; omega) _⟩
  case round =>
    clear hg0 hB3 y0 y1 VR3 VS3 VD3 d0 d1 d2 d3 hown s0 s1 s2 f2
    obtain ⟨k, g, cp, hk, hk2, rfl, hown, e0, e1, e2, VR, VS, VD, d0, d1, d2, d3, hB⟩ := hrel
    have lS := lt_size e2
    have lR := lt_size VR.c0
    have lD := lt_size d0
    by_cases hlt : k < es.length ∧ k < 23
    · obtain ⟨hlt1, hlt2⟩ := hlt
      obtain ⟨b', o, rfl, c0, c1, c2⟩ := HE.out k hlt1
      have hbl := lt_size c0
      replace c0 := cell_then hB c0
      replace c1 := cell_then hB c1
      replace c2 := cell_then hB c2
      obtain ⟨E, hE⟩ : ∃ E, es.getD k ⟨0, 0, 0⟩ = E := ⟨_, rfl⟩
      obtain ⟨d, hd⟩ : ∃ d, lastD (made0 a b m) (es.take k) = d := ⟨_, rfl⟩
      rw [hE] at c0 c1 c2
      rw [hd] at d0 d1 d2 d3
      have hdk := lastD_ok (made0_ok a b m) (es.take k)
      rw [hd, List.length_take, show min k es.length = k by omega] at hdk
      have hx : 0 ≤ d.x ∧ d.x ≤ 4095 := hdk.1
      have hy : 0 ≤ d.y ∧ d.y ≤ 4095 := hdk.2.1
      have ht : 0 ≤ d.t ∧ d.t ≤ 1000000 := ⟨hdk.2.2.1.1, by have := hdk.2.2.1.2; omega⟩
      clear hdk
      have hEI := HI.out E (by rw [← hE, List.getD, List.getElem?_eq_getElem hlt1]; exact List.getElem_mem _)
      obtain ⟨i1, i2, i3⟩ := hEI
      have q1 := pickI_bd E.a (n := 401) (by omega)
      have q2 := pickI_bd E.b (n := 401) (by omega)
      have q3 := pickI_bd E.c (n := 50) (by omega)
      have q4 := pickI_bd E.c (n := 101) (by omega)
      have HEE := Lib.hid hE
      have HDD := Lib.hid hd
      have HVR := Lib.hid VR
      have HVS := Lib.hid VS
      have HVD := Lib.hid VD
      have hkn : (k : Int) < (es.length : Int) := by omega
      have hk0 : (0 : Int) ≤ (k : Int) := by omega
      have hk23 : (k : Int) < 23 := by omega
      clear VR VS VD hE hd
      have g0 := fun D os => cell_regrown d0 D os
      have k0 := fun D os => cell_regrown c0 D os
      have hw1 : IntKind.i64.wrap (d.x + pickI E.a 401) = d.x + pickI E.a 401 := IntWalk.i64_in _ (by omega)
      have hw2 : IntKind.i64.wrap (d.x + pickI E.a 401 - 200) = d.x + pickI E.a 401 - 200 := IntWalk.i64_in _ (by omega)
      obtain ⟨v, hv⟩ : ∃ v, d.x + pickI E.a 401 - 200 = v := ⟨_, rfl⟩
      obtain ⟨X1, hX1⟩ : ∃ X, min 4095 v = X := ⟨_, rfl⟩
      obtain ⟨X, hX⟩ : ∃ X, max 0 X1 = X := ⟨_, rfl⟩
      have j1 : (if v < 4095 then v else 4095) = X1 := by rw [← hX1]; split <;> omega
      have j2 : (if 4095 < v then 4095 else v) = X1 := by rw [← hX1]; split <;> omega
      have j3 : (if v ≤ 4095 then v else 4095) = X1 := by rw [← hX1]; split <;> omega
      have j4 : (if 4095 ≤ v then 4095 else v) = X1 := by rw [← hX1]; split <;> omega
      have l1 : (if X1 < 0 then 0 else X1) = X := by rw [← hX]; split <;> omega
      have l2 : (if 0 < X1 then X1 else 0) = X := by rw [← hX]; split <;> omega
      have l3 : (if X1 ≤ 0 then 0 else X1) = X := by rw [← hX]; split <;> omega
      have l4 : (if 0 ≤ X1 then X1 else 0) = X := by rw [← hX]; split <;> omega
      rw [← hv] at j1 j2 j3 j4 hX1
      have HX1 := Lib.hid hX1
      have HX := Lib.hid hX
      clear hv hX1 hX
      clear v
      go_wp2_with fail
      refine wp_region_head 13 (by kernel_rfl) (by kernel_rfl) ?_
      simp only [List.take_succ_cons, List.take_zero, List.drop_succ_cons, List.drop_zero]
      repeat (go_big_quiet_step (exact Calls.regrown_of ((pickR_any _ _ _ i1 (by omega) (by omega)).mono fun e w' h => ⟨h.1, h.2 ▸ Below.refl _ _⟩)))
      refine wpQuiet_nil ?_
      intro wq hq
      replace hB := below_next hB hq
      replace hown := own_then hown hq
      replace e0 := cell_then hq e0
      replace e1 := cell_then hq e1
      replace e2 := cell_then hq e2
      replace d0 := cell_then hq d0
      replace d1 := cell_then hq d1
      replace d2 := cell_then hq d2
      replace d3 := cell_then hq d3
      replace c0 := cell_then hq c0
      replace c1 := cell_then hq c1
      replace c2 := cell_then hq c2
      have VR := HVR.out.then_ hq
      have VS := HVS.out.then_ hq
      have VD := HVD.out.then_ hq
      have fd := VD.f0
      clear HVR HVS HVD hq g0 k0 j1 j2 j3 j4 l1 l2 l3 l4 hw1 hw2
      have HVR := Lib.hid VR
      have HVS := Lib.hid VS
      have HVD := Lib.hid VD
      clear VR VS VD
      go_wp2_with fail
      have hgl := (hown.lt g rfl).1
      have hB9 := hB.setCell (p := ⟨W2.heap.size, 0, none⟩) (by dsimp only; omega) (.int .i64 X)
      have hown9 := own_set hown (p := ⟨W2.heap.size, 0, none⟩) (fun h => by have h2 : g = W2.heap.size := Option.some.inj h; omega) (.int .i64 X)
      obtain ⟨Wx, hWx⟩ : ∃ W, wq.setCell ⟨W2.heap.size, 0, none⟩ (.int .i64 X) = W := ⟨_, rfl⟩
      replace e0 := cell_set (p := ⟨W2.heap.size, 0, none⟩) (.int .i64 X) e0 (by dsimp only; omega)
      replace e1 := cell_set (p := ⟨W2.heap.size, 0, none⟩) (.int .i64 X) e1 (by dsimp only; omega)
      replace e2 := cell_set (p := ⟨W2.heap.size, 0, none⟩) (.int .i64 X) e2 (by dsimp only; omega)
      replace c0 := cell_set (p := ⟨W2.heap.size, 0, none⟩) (.int .i64 X) c0 (by dsimp only; omega)
      replace c1 := cell_set (p := ⟨W2.heap.size, 0, none⟩) (.int .i64 X) c1 (by dsimp only; omega)
      replace c2 := cell_set (p := ⟨W2.heap.size, 0, none⟩) (.int .i64 X) c2 (by dsimp only; omega)
      replace d0 := HVD.out.s0 (.int .i64 X)
      replace d1 := cell_off (.int .i64 X) d1 (show (1 : Nat) ≠ 0 by omega)
      replace d2 := cell_off (.int .i64 X) d2 (show (2 : Nat) ≠ 0 by omega)
      replace d3 := cell_off (.int .i64 X) d3 (show (3 : Nat) ≠ 0 by omega)
      have VR := HVR.out.set_ ⟨W2.heap.size, 0, none⟩ (.int .i64 X)
      have VS := HVS.out.set_ ⟨W2.heap.size, 0, none⟩ (.int .i64 X)
      have VD := HVD.out.set_ ⟨W2.heap.size, 0, none⟩ (.int .i64 X)
      clear HVR HVS HVD hB hown fd
      rw [hWx] at hB9 hown9 e0 e1 e2 c0 c1 c2 d0 d1 d2 d3 VR VS VD ⊢
      clear hWx
      have HVR := Lib.hid VR
      have HVS := Lib.hid VS
      have HVD := Lib.hid VD
      clear VR VS VD
      have hB := hB9
      have hown := hown9
      clear hB9 hown9 hgl
      have g0 := fun D os => cell_regrown d1 D os
      have k0 := fun D os => cell_regrown c1 D os
      have hw1 : IntKind.i64.wrap (d.y + pickI E.b 401) = d.y + pickI E.b 401 := IntWalk.i64_in _ (by omega)
      have hw2 : IntKind.i64.wrap (d.y + pickI E.b 401 - 200) = d.y + pickI E.b 401 - 200 := IntWalk.i64_in _ (by omega)
      obtain ⟨v, hv⟩ : ∃ v, d.y + pickI E.b 401 - 200 = v := ⟨_, rfl⟩
      obtain ⟨Y1, hY1⟩ : ∃ Y, min 4095 v = Y := ⟨_, rfl⟩
      obtain ⟨Y, hY⟩ : ∃ Y, max 0 Y1 = Y := ⟨_, rfl⟩
      have j1 : (if v < 4095 then v else 4095) = Y1 := by rw [← hY1]; split <;> omega
      have j2 : (if 4095 < v then 4095 else v) = Y1 := by rw [← hY1]; split <;> omega
      have j3 : (if v ≤ 4095 then v else 4095) = Y1 := by rw [← hY1]; split <;> omega
      have j4 : (if 4095 ≤ v then 4095 else v) = Y1 := by rw [← hY1]; split <;> omega
      have l1 : (if Y1 < 0 then 0 else Y1) = Y := by rw [← hY]; split <;> omega
      have l2 : (if 0 < Y1 then Y1 else 0) = Y := by rw [← hY]; split <;> omega
      have l3 : (if Y1 ≤ 0 then 0 else Y1) = Y := by rw [← hY]; split <;> omega
      have l4 : (if 0 ≤ Y1 then Y1 else 0) = Y := by rw [← hY]; split <;> omega
      rw [← hv] at j1 j2 j3 j4 hY1
      have HY1 := Lib.hid hY1
      have HY := Lib.hid hY
      clear hv hY1 hY
      clear v
      go_wp2_with fail
      refine wp_region_head 13 (by kernel_rfl) (by kernel_rfl) ?_
      simp only [List.take_succ_cons, List.take_zero, List.drop_succ_cons, List.drop_zero]
      repeat (go_big_quiet_step (exact Calls.regrown_of ((pickR_any _ _ _ i2 (by omega) (by omega)).mono fun e w' h => ⟨h.1, h.2 ▸ Below.refl _ _⟩)))
      refine wpQuiet_nil ?_
      intro wq hq
      replace hB := below_next hB hq
      replace hown := own_then hown hq
      replace e0 := cell_then hq e0
      replace e1 := cell_then hq e1
      replace e2 := cell_then hq e2
      replace d0 := cell_then hq d0
      replace d1 := cell_then hq d1
      replace d2 := cell_then hq d2
      replace d3 := cell_then hq d3
      replace c0 := cell_then hq c0
      replace c1 := cell_then hq c1
      replace c2 := cell_then hq c2
      have VR := HVR.out.then_ hq
      have VS := HVS.out.then_ hq
      have VD := HVD.out.then_ hq
      have fd := VD.f1
      clear HVR HVS HVD hq g0 k0 j1 j2 j3 j4 l1 l2 l3 l4 hw1 hw2
      have HVR := Lib.hid VR
      have HVS := Lib.hid VS
      have HVD := Lib.hid VD
      clear VR VS VD
      go_wp2_with fail
      have hgl := (hown.lt g rfl).1
      have hB9 := hB.setCell (p := ⟨W2.heap.size, 1, none⟩) (by dsimp only; omega) (.int .i64 Y)
      have hown9 := own_set hown (p := ⟨W2.heap.size, 1, none⟩) (fun h => by have h2 : g = W2.heap.size := Option.some.inj h; omega) (.int .i64 Y)
      obtain ⟨Wy, hWy⟩ : ∃ W, wq.setCell ⟨W2.heap.size, 1, none⟩ (.int .i64 Y) = W := ⟨_, rfl⟩
      replace e0 := cell_set (p := ⟨W2.heap.size, 1, none⟩) (.int .i64 Y) e0 (by dsimp only; omega)
      replace e1 := cell_set (p := ⟨W2.heap.size, 1, none⟩) (.int .i64 Y) e1 (by dsimp only; omega)
      replace e2 := cell_set (p := ⟨W2.heap.size, 1, none⟩) (.int .i64 Y) e2 (by dsimp only; omega)
      replace c0 := cell_set (p := ⟨W2.heap.size, 1, none⟩) (.int .i64 Y) c0 (by dsimp only; omega)
      replace c1 := cell_set (p := ⟨W2.heap.size, 1, none⟩) (.int .i64 Y) c1 (by dsimp only; omega)
      replace c2 := cell_set (p := ⟨W2.heap.size, 1, none⟩) (.int .i64 Y) c2 (by dsimp only; omega)
      replace d0 := cell_off (.int .i64 Y) d0 (show (0 : Nat) ≠ 1 by omega)
      replace d1 := HVD.out.s1 (.int .i64 Y)
      replace d2 := cell_off (.int .i64 Y) d2 (show (2 : Nat) ≠ 1 by omega)
      replace d3 := cell_off (.int .i64 Y) d3 (show (3 : Nat) ≠ 1 by omega)
      have VR := HVR.out.set_ ⟨W2.heap.size, 1, none⟩ (.int .i64 Y)
      have VS := HVS.out.set_ ⟨W2.heap.size, 1, none⟩ (.int .i64 Y)
      have VD := HVD.out.set_ ⟨W2.heap.size, 1, none⟩ (.int .i64 Y)
      clear HVR HVS HVD hB hown fd
      rw [hWy] at hB9 hown9 e0 e1 e2 c0 c1 c2 d0 d1 d2 d3 VR VS VD ⊢
      clear hWy
      have HVR := Lib.hid VR
      have HVS := Lib.hid VS
      have HVD := Lib.hid VD
      clear VR VS VD
      have hB := hB9
      have hown := hown9
      clear hB9 hown9 hgl
      have g0 := fun D os => cell_regrown d2 D os
      have k0 := fun D os => cell_regrown c2 D os
      have hw1 : IntKind.i64.wrap (d.t + pickI E.c 50) = d.t + pickI E.c 50 := IntWalk.i64_in _ (by omega)
      go_wp2_with fail
      refine wp_region_head 10 (by kernel_rfl) (by kernel_rfl) ?_
      simp only [List.take_succ_cons, List.take_zero, List.drop_succ_cons, List.drop_zero]
      repeat (go_big_quiet_step (exact Calls.regrown_of ((pickR_any _ _ _ i3 (by omega) (by omega)).mono fun e w' h => ⟨h.1, h.2 ▸ Below.refl _ _⟩)))
      refine wpQuiet_nil ?_
      intro wq hq
      replace hB := below_next hB hq
      replace hown := own_then hown hq
      replace e0 := cell_then hq e0
      replace e1 := cell_then hq e1
      replace e2 := cell_then hq e2
      replace d0 := cell_then hq d0
      replace d1 := cell_then hq d1
      replace d2 := cell_then hq d2
      replace d3 := cell_then hq d3
      replace c0 := cell_then hq c0
      replace c1 := cell_then hq c1
      replace c2 := cell_then hq c2
      have VR := HVR.out.then_ hq
      have VS := HVS.out.then_ hq
      have VD := HVD.out.then_ hq
      have fd := VD.f2
      clear HVR HVS HVD hq g0 k0 hw1
      have HVR := Lib.hid VR
      have HVS := Lib.hid VS
      have HVD := Lib.hid VD
      clear VR VS VD
      go_wp2_with fail
      have hgl := (hown.lt g rfl).1
      have hB9 := hB.setCell (p := ⟨W2.heap.size, 2, none⟩) (by dsimp only; omega) (.int .i64 (d.t + pickI E.c 50))
      have hown9 := own_set hown (p := ⟨W2.heap.size, 2, none⟩) (fun h => by have h2 : g = W2.heap.size := Option.some.inj h; omega) (.int .i64 (d.t + pickI E.c 50))
      obtain ⟨Wt, hWt⟩ : ∃ W, wq.setCell ⟨W2.heap.size, 2, none⟩ (.int .i64 (d.t + pickI E.c 50)) = W := ⟨_, rfl⟩
      replace e0 := cell_set (p := ⟨W2.heap.size, 2, none⟩) (.int .i64 (d.t + pickI E.c 50)) e0 (by dsimp only; omega)
      replace e1 := cell_set (p := ⟨W2.heap.size, 2, none⟩) (.int .i64 (d.t + pickI E.c 50)) e1 (by dsimp only; omega)
      replace e2 := cell_set (p := ⟨W2.heap.size, 2, none⟩) (.int .i64 (d.t + pickI E.c 50)) e2 (by dsimp only; omega)
      replace c0 := cell_set (p := ⟨W2.heap.size, 2, none⟩) (.int .i64 (d.t + pickI E.c 50)) c0 (by dsimp only; omega)
      replace c1 := cell_set (p := ⟨W2.heap.size, 2, none⟩) (.int .i64 (d.t + pickI E.c 50)) c1 (by dsimp only; omega)
      replace c2 := cell_set (p := ⟨W2.heap.size, 2, none⟩) (.int .i64 (d.t + pickI E.c 50)) c2 (by dsimp only; omega)
      replace d0 := cell_off (.int .i64 (d.t + pickI E.c 50)) d0 (show (0 : Nat) ≠ 2 by omega)
      replace d1 := cell_off (.int .i64 (d.t + pickI E.c 50)) d1 (show (1 : Nat) ≠ 2 by omega)
      replace d2 := HVD.out.s2 (.int .i64 (d.t + pickI E.c 50))
      replace d3 := cell_off (.int .i64 (d.t + pickI E.c 50)) d3 (show (3 : Nat) ≠ 2 by omega)
      have VR := HVR.out.set_ ⟨W2.heap.size, 2, none⟩ (.int .i64 (d.t + pickI E.c 50))
      have VS := HVS.out.set_ ⟨W2.heap.size, 2, none⟩ (.int .i64 (d.t + pickI E.c 50))
      have VD := HVD.out.set_ ⟨W2.heap.size, 2, none⟩ (.int .i64 (d.t + pickI E.c 50))
      clear HVR HVS HVD hB hown fd
      rw [hWt] at hB9 hown9 e0 e1 e2 c0 c1 c2 d0 d1 d2 d3 VR VS VD ⊢
      clear hWt
      have HVR := Lib.hid VR
      have HVS := Lib.hid VS
      have HVD := Lib.hid VD
      clear VR VS VD
      have hB := hB9
      have hown := hown9
      clear hB9 hown9 hgl
      have fd := HVD.out.f3
      go_wp2_with fail
      refine (pickR_any _ _ _ i3 (by omega) (by omega)).mono ?_
      rintro e w9 ⟨rfl, rfl⟩
      have hgl := (hown.lt g rfl).1
      have ht2 := lt_size d0
      have ht3 := lt_size e2
      rw [HS2.out] at hgl
      have hvb : some (w.heap.size + 1) ≠ some g := fun h => by have h2 := Option.some.inj h; omega
      have hgl2 := (hown.lt g rfl).1
      go_wp2_with (at_builtin; go_must (refine wpList_append_lies _ rfl _ _ _ rfl (W2.heap.size + 1) 54 i0 _ 4 32 Try.underlying48 hi0 hz0 hz1 hz2 rfl (by omega) _ _ _ rfl ((own_set hown (p := ⟨W2.heap.size, 3, none⟩) (fun h => by have h2 : g = W2.heap.size := Option.some.inj h; omega) (.int .i64 (pickI E.c 101))).alloc _) ⟨Wt.heap.size, 0, none⟩ 1 1 [.int .i64 X, .int .i64 Y, .int .i64 (d.t + pickI E.c 50), .int .i64 (pickI E.c 101)] rfl rfl (fun j u h => by have h2 := new_dot (w := Wt.setCell ⟨W2.heap.size, 3, none⟩ (.int .i64 (pickI E.c 101))) (d := ⟨X, Y, d.t + pickI E.c 50, pickI E.c 101⟩) (t := 54) j u h; simpa using h2) (by simp [Value.oneCell']) (by omega) (by unfold maxLen; omega) (by omega) (by simp; omega) (Wt.heap.size + 1) (by simp) ?_); intro g' cp' wy hown' hgrow hat hlt'; have x2 := (hgrow.cell_far ⟨w.heap.size + 1, 2, none⟩ (by simp; omega) hvb).trans (keep_alloc _ (cell_set _ e2 (by dsimp only; omega))); have x3 := (hgrow.frozen_far ⟨w.heap.size + 1, 2, none⟩ (by simp; omega) hvb).trans ((HVS.out.set_ _ _).alloc _).f2)
      have hvr : some w.heap.size ≠ some g := fun h => by have h2 := Option.some.inj h; omega
      have hvd : some W2.heap.size ≠ some g := fun h => by have h2 := Option.some.inj h; omega
      have y0 := cell_grown' (keep_alloc _ (cell_set (p := ⟨W2.heap.size, 3, none⟩) (.int .i64 (pickI E.c 101)) e0 (by dsimp only; omega))) hgrow hvb
      have y1 := cell_grown' (keep_alloc _ (cell_set (p := ⟨W2.heap.size, 3, none⟩) (.int .i64 (pickI E.c 101)) e1 (by dsimp only; omega))) hgrow hvb
      have z0 := cell_grown' (keep_alloc _ (cell_off (j := 3) (.int .i64 (pickI E.c 101)) d0 (by omega))) hgrow hvd
      have z1 := cell_grown' (keep_alloc _ (cell_off (j := 3) (.int .i64 (pickI E.c 101)) d1 (by omega))) hgrow hvd
      have z2 := cell_grown' (keep_alloc _ (cell_off (j := 3) (.int .i64 (pickI E.c 101)) d2 (by omega))) hgrow hvd
      have z3 := cell_grown' (keep_alloc _ (HVD.out.s3 (.int .i64 (pickI E.c 101)))) hgrow hvd
      have VR2 := ((HVR.out.set_ ⟨W2.heap.size, 3, none⟩ (.int .i64 (pickI E.c 101))).alloc _).grown hgrow hvr
      have VS2 := ((HVS.out.set_ ⟨W2.heap.size, 3, none⟩ (.int .i64 (pickI E.c 101))).alloc _).grown hgrow hvb
      have VD2 := ((HVD.out.set_ ⟨W2.heap.size, 3, none⟩ (.int .i64 (pickI E.c 101))).alloc _).grown hgrow hvd
      have B8 := hB.setCell (p := ⟨W2.heap.size, 3, none⟩) (by dsimp only; omega) (.int .i64 (pickI E.c 101))
      have B9 := (below_alloc B8 (.cells #[.int .i64 X, .int .i64 Y, .int .i64 (d.t + pickI E.c 50), .int .i64 (pickI E.c 101)] 54)).grown hgrow (below_alloc B8 _).size (fun q hq => by have h2 : g = q := Option.some.inj hq; omega)
      have hts : es.take (k + 1) = es.take k ++ [E] := by rw [List.take_succ_eq_append_getElem hlt1, ← HEE.out, List.getD, List.getElem?_eq_getElem hlt1]; rfl
      have hmn : madeN d E = ⟨X, Y, d.t + pickI E.c 50, pickI E.c 101⟩ := by rw [← HX.out, ← HX1.out, ← HY.out, ← HY1.out]; rfl
      have hm1 : made0 a b m :: madeR (made0 a b m) (es.take (k + 1)) = (made0 a b m :: madeR (made0 a b m) (es.take k)) ++ [⟨X, Y, d.t + pickI E.c 50, pickI E.c 101⟩] := by rw [hts, madeR_snoc, HDD.out, hmn]; rfl
      have hl1 : lastD (made0 a b m) (es.take (k + 1)) = ⟨X, Y, d.t + pickI E.c 50, pickI E.c 101⟩ := by rw [hts, lastD_snoc, HDD.out, hmn]
      have hgn := (hown'.lt g' rfl).1
      refine ⟨⟨k + 1, g', cp', by omega, by omega, by go_num, ?_, cell_off _ y0 (by omega), cell_off _ y1 (by omega), VS2.s2 _, VR2.set_ _ _, VS2.set_ _ _, VD2.set_ _ _, ?_, ?_, ?_, ?_, B9.setCell (by dsimp only; omega) _⟩, by simp [intOf]; omega⟩
      · rw [hm1, dcells_append]
        exact own_set hown' (fun h => by have h2 : g' = w.heap.size + 1 := Option.some.inj h; omega) _
      · rw [hl1]; exact cell_set _ z0 (by dsimp only; omega)
      · rw [hl1]; exact cell_set _ z1 (by dsimp only; omega)
      · rw [hl1]; exact cell_set _ z2 (by dsimp only; omega)
      · rw [hl1]; exact cell_set _ z3 (by dsimp only; omega)
    · have HT : Hid (made0 a b m :: madeR (made0 a b m) (es.take k) = madeD a b m es) := Lib.hid (by
        rw [madeD]; by_cases h23 : k < 23
        · rw [List.take_of_length_le (show es.length ≤ k by omega), List.take_of_length_le (show es.length ≤ 23 by omega)]
        · rw [show k = 23 by omega])
      have HN : Hid ((madeD a b m es).length = k + 1) := Lib.hid (by rw [madeD_length]; omega)
      have HOWN := Lib.hid hown
      have HVR := Lib.hid VR
      obtain ⟨m0, m1, m2⟩ := And.intro HVR.out.c0 (And.intro HVR.out.c1 HVR.out.c2)
      obtain ⟨z0, z1, z2⟩ := And.intro HVR.out.f0 (And.intro HVR.out.f1 HVR.out.f2)
      clear hown VR VS VD d0 d1 d2 d3
      have hk23 : ¬ (k : Int) < 23 ∨ (k : Int) < 23 := by omega
      by_cases hke : (k : Int) < (es.length : Int)
      · have hk3 : 23 ≤ (k : Int) := by omega
        clear hlt hk23
        go_wp2_with fail
        refine bodyPost_ret (v := .agg #[.int .i64 (pickI a 40), .int .i64 (1 + pickI b 999), .slice (some ⟨g, 0, none⟩) (k + 1) cp]) (by simp [results, Try.results27, go_sem, m0, m1, m2]) rfl ?_
        exact made_end HOWN.out HT.out HN.out (by rw [HS2.out]; omega) hB
      · replace hke : (es.length : Int) ≤ (k : Int) := by omega
        clear hlt hk23
        go_wp2_with fail
        refine bodyPost_ret (v := .agg #[.int .i64 (pickI a 40), .int .i64 (1 + pickI b 999), .slice (some ⟨g, 0, none⟩) (k + 1) cp]) (by simp [results, Try.results27, go_sem, m0, m1, m2]) rfl ?_
        exact made_end HOWN.out HT.out HN.out (by rw [HS2.out]; omega) hB
end Go.Proofs.Ytgopadbdnndkiaa
