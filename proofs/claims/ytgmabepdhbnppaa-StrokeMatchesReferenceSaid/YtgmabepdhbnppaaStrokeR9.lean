/- The strokes' reference: lists in memory; Thin of a stroke that is not valid, or with a tolerance that is none. -/
import Derived.Test.YtgmabepdhbnppaaStrokeR8
import Derived.Test.YtgmabepdhbnppaaStrokeThinW
import Derived.Test.YtgmabepdhbnppaaKept
namespace Go.Proofs.Ytgmabepdhbnppaa
open Go.RowKit Str
attribute [local go_sem] Oper.semAt_some
theorem lists_info : (Try.prog.info? 32).map (fun i => (i.zero, i.size, i.bytes)) = some (some (.slice none 0 0), 1, 24) := by kernel_rfl
/-- a list of the reference's, in a block of its own: what follows the 0 -/
structure Lst where
  g : Nat
  c : Nat
  l : List Nat
def lst0 : Lst := ⟨0, 0, []⟩
def lv (r : Lst) : Value := .slice (some ⟨r.g, 0, none⟩) (r.l.length + 1) r.c
structure LstAt (w : World) (B : Nat) (r : Lst) : Prop where
  nat : NatR w (some ⟨r.g, 0, none⟩) (0 :: r.l)
  lo : B ≤ r.g
  hi : r.g < w.heap.size
  cap : r.l.length + 1 ≤ r.c ∧ (r.c : Int) ≤ 9223372036854775807
theorem LstAt.then_ {w w' : World} {B : Nat} {r : Lst} (h : LstAt w B r) (hb : Below w.heap.size w w') : LstAt w' B r :=
  ⟨h.nat.then_ hb, h.lo, Nat.lt_of_lt_of_le h.hi hb.size, h.cap⟩
theorem LstAt.kept {w w' : World} {S : List Nat} {B : Nat} {r : Lst} (h : LstAt w B r) (k : Kept S w w') (hS : r.g ∉ S) : LstAt w' B r :=
  ⟨fun i hi => by
    obtain ⟨b, o, hA, hc⟩ := h.nat i hi
    injection hA with hA
    injection hA with e1 e2 e3
    subst e1 e2
    exact ⟨r.g, 0, rfl, k.cell hc hS⟩, h.lo, Nat.lt_of_lt_of_le h.hi k.size, h.cap⟩
theorem LstAt.low {w : World} {B B' : Nat} {r : Lst} (h : LstAt w B r) (hb : B' ≤ B) : LstAt w B' r := ⟨h.nat, Nat.le_trans hb h.lo, h.hi, h.cap⟩
theorem nat_of_ints {w : World} {A : Option Addr} {l : List Nat} (h : IntsAt w A (natI l)) : NatR w A l := fun i hi => by
  obtain ⟨b, o, hA, hc⟩ := h i (by rw [natI_length]; exact hi)
  refine ⟨b, o, hA, ?_⟩
  rw [hc]
  simp [natI, List.getD, List.getElem?_map, List.getElem?_eq_getElem hi]
theorem ints_of_nat {w : World} {A : Option Addr} {l : List Nat} (h : NatR w A l) : IntsAt w A (natI l) := fun i hi => by
  rw [natI_length] at hi
  obtain ⟨b, o, hA, hc⟩ := h i hi
  refine ⟨b, o, hA, ?_⟩
  rw [hc]
  simp [natI, List.getD, List.getElem?_map, List.getElem?_eq_getElem hi]
theorem lst_of_own {w : World} {base g c n : Nat} {e : TypeId} {l : List Nat} (h : w.ownsRow base e 1 (.slice (some ⟨g, 0, none⟩) n c) n (ivs (natI (0 :: l)))) : LstAt w base ⟨g, c, l⟩ := by
  have hn : n = l.length + 1 := by
    have h1 := h.1
    rw [ivs_length, natI_length, List.length_cons] at h1
    omega
  have hc := own_cap h
  exact ⟨nat_of_ints (ints_of_own h), (h.lt g rfl).1, (h.lt g rfl).2, by dsimp only; omega⟩
/-- the cells of a list's numbers -/
theorem lst_cells {w : World} {B : Nat} {r : Lst} (h : LstAt w B r) : ∀ j u, (ivs (natI (0 :: r.l)))[j]? = some u → w.cell? ((⟨r.g, 0, none⟩ : Addr).add j) = some u := fun j u hu => by
  have hj : j < (0 :: r.l).length := by
    rcases Nat.lt_or_ge j (0 :: r.l).length with h' | h'
    · exact h'
    · rw [List.getElem?_eq_none (by rw [ivs_length, natI_length]; exact h')] at hu
      cases hu
  obtain ⟨b, o, hA, hc⟩ := h.nat j hj
  injection hA with hA
  injection hA with e1 e2 e3
  subst e1 e2
  have e : u = .int .i64 (((0 :: r.l).getD j 0 : Nat) : Int) := by
    rw [ivs, natI, List.getElem?_map, List.getElem?_map, List.getElem?_eq_getElem hj] at hu
    rw [List.getD, List.getElem?_eq_getElem hj]
    injection hu with hu
    exact hu.symm
  rw [e]
  cases j with
  | zero => exact hc
  | succ j => rw [Nat.zero_add] at hc; simpa [Addr.add] using hc
theorem ivs_one (l : List Int) : ∀ u ∈ ivs l, u.oneCell' = true := fun u hu => by
  obtain ⟨n, _, rfl⟩ := List.mem_map.1 hu
  rfl
theorem chain_long {ok : Nat → Nat → Bool} {k : Nat} : ∀ {a : Nat} {l : List Nat}, Chain ok a l k → l.length + a ≤ k
  | a, [], h => by
    have h : a = k := h
    simp [h]
  | a, x :: r, h => by
    have h1 := h.1
    have h2 := chain_long h.2.2
    rw [List.length_cons]
    omega
theorem own_long {ok : Nat → Nat → Bool} {best : Nat → List Nat} {k m : Nat} {l : List Nat} (h : Str.Own ok best k m (some l)) (hb : ∀ i, i < m → (best i).length ≤ i) (hm : m ≤ k) : l.length ≤ k := by
  obtain ⟨⟨i, hi, _, rfl⟩, _⟩ := h
  have := hb i hi
  rw [List.length_append, List.length_singleton]
  omega
theorem best_zero (ok : Nat → Nat → Bool) : Best ok 0 [] :=
  ⟨rfl, fun m _ => ⟨Nat.zero_le _, fun _ => by cases m <;> rfl⟩⟩
theorem first_zero (a b : List Nat) : firstB (0 :: a) (0 :: b) = firstB a b := by rw [firstB, if_pos rfl]
section
variable {Pr : Program}
/-- a load of one cell, whose value is known -/
theorem wpList_load_one {ops : Array Oper} {rest : List Oper} {o : Oper} {a : Act} {w : World} {Q : Exit → Act → World → Prop} (hgd : o.guard = none) (ty : TypeId) (x : Operand) (ho : o.op = .load ty x)
    (p : Addr) (v : Value) (hx : a.eval x = .pointer (some p)) (hr : (loadVar ty p).run Pr w = .ok v w) (h : wpList Pr ops Q rest (a.put o.dst v) w) : wpList Pr ops Q (o :: rest) a w :=
  wpList_plain hgd fun _ hK => by
    unfold Oper.wp execOp
    simp only [ho, hx, Instr.loadAt, Instr.sureAddr, Sem.run_bind, Sem.run_pure, Result.andThen_ok, hr]
    exact hK _ _ h
end
theorem load_list (W : World) (p : Addr) (v : Value) (h : W.cell? p = some v) : (loadVar 32 p).run Try.prog W = .ok v W := by
  simp [loadVar, go_sem, h]
set_option maxRecDepth 100000 in
theorem thinR_no (P N : Int) (A : Option Addr) (cap : Nat) (D : List Dot) (z : Int) (w : World) (hD : Dots w A D) (hcp : D.length ≤ cap) (hcm : (cap : Int) ≤ 9223372036854775807) (h1 : validB P N D = false ∨ isInB z 0 1000 = false) :
    Calls Try.prog 29 #[.agg #[.int .i64 P, .int .i64 N, .slice A D.length cap], .int .i64 z] w fun e w' => e = .returned (.tuple #[.slice none 0 0, .int .i64 50]) ∧ Below w.heap.size w w' := by
  have B0 : Below w.heap.size w (w.alloc (.cells #[.int .i64 P, .int .i64 N, .slice A D.length cap] 27)) := below_alloc (Below.refl _ _) _
  have hc := fun W (hW : Below (w.alloc (.cells #[.int .i64 P, .int .i64 N, .slice A D.length cap] 27)).heap.size (w.alloc (.cells #[.int .i64 P, .int .i64 N, .slice A D.length cap] 27)) W) => validR_any P N A cap D W ((hD.below B0).below hW) hcp hcm
  obtain ⟨r, hr⟩ : ∃ r, validB P N D = r := ⟨_, rfl⟩
  rw [hr] at hc h1
  have HC := Lib.hid hc
  have HB0 := Lib.hid B0
  have HD := Lib.hid hD
  clear hc B0 hD hr
  go_enter Try.func29, Try.ntmps29
  cases r with
  | false =>
    clear h1
    go_wp2_with fail
    refine (HC.out _ (Below.refl _ _)).mono ?_
    rintro e w1 ⟨rfl, b1⟩
    have HQ := Lib.hid (below_next HB0.out b1)
    clear b1
    go_wp2_with fail
    go_ret2
    exact ⟨rfl, HQ.out⟩
  | true =>
    have hz := h1.resolve_left (by simp)
    have hz2 : z < 0 ∨ 1000 < z := by
      rcases (show z < 0 ∨ 1000 < z ∨ (0 ≤ z ∧ z ≤ 1000) by omega) with h | h | h
      · exact .inl h
      · exact .inr h
      · rw [isInB_iff.2 h] at hz; cases hz
    clear h1 hz
    go_wp2_with fail
    refine (HC.out _ (Below.refl _ _)).mono ?_
    rintro e w1 ⟨rfl, b1⟩
    have HQ := Lib.hid (below_next HB0.out b1)
    clear b1
    by_cases hz0 : z < 0
    · have t1 : decide (z < 0) = true := by simpa using hz0
      clear hz0 hz2
      go_wp2_with fail
      go_ret2
      exact ⟨rfl, HQ.out⟩
    · have t1 : decide (z < 0) = false := by simpa using hz0
      have t2 : decide (1000 < z) = true := by simp; omega
      clear hz0 hz2
      go_wp2_with fail
      go_ret2
      exact ⟨rfl, HQ.out⟩
end Go.Proofs.Ytgmabepdhbnppaa
