/- What the law StrokeMatchesReference holds in memory: strokes, places; and its own 'few'. -/
import Derived.Test.YtgmabepdhbnppaaStrokeTwo
import Derived.Test.YtgmabepdhbnppaaStrokeMade
import Derived.Test.YtgmabepdhbnppaaHead
namespace Go.Proofs.Ytgmabepdhbnppaa
open Go.RowKit Str
attribute [local go_sem] Oper.semAt_some
/-- a stroke's value -/
structure SRec where
  P : Int
  N : Int
  A : Option Addr
  c : Nat
  D : List Dot
def sr0 : SRec := ⟨0, 0, none, 0, []⟩
structure SrAt (w : World) (b o : Nat) (s : SRec) : Prop where
  c0 : w.cell? ⟨b, o, none⟩ = some (.int .i64 s.P)
  c1 : w.cell? ⟨b, o + 1, none⟩ = some (.int .i64 s.N)
  c2 : w.cell? ⟨b, o + 2, none⟩ = some (.slice s.A s.D.length s.c)
  str : StrAt w s.P s.N s.A s.c s.D
theorem SrAt.then_ {w w' : World} {b o : Nat} {s : SRec} (h : SrAt w b o s) (hb : Below w.heap.size w w') : SrAt w' b o s :=
  ⟨cell_then hb h.c0, cell_then hb h.c1, cell_then hb h.c2, h.str.then_ hb⟩
def Cel2 (w : World) (g : Nat) (x y : Int) : Prop := w.cell? ⟨g, 0, none⟩ = some (.int .i64 x) ∧ w.cell? ⟨g, 1, none⟩ = some (.int .i64 y)
theorem Cel2.then_ {w w' : World} {g : Nat} {x y : Int} (h : Cel2 w g x y) (hb : Below w.heap.size w w') : Cel2 w' g x y := ⟨cell_then hb h.1, cell_then hb h.2⟩
def Cel4 (w : World) (g : Nat) (x y u v : Int) : Prop := w.cell? ⟨g, 0, none⟩ = some (.int .i64 x) ∧ w.cell? ⟨g, 1, none⟩ = some (.int .i64 y) ∧ w.cell? ⟨g, 2, none⟩ = some (.int .i64 u) ∧ w.cell? ⟨g, 3, none⟩ = some (.int .i64 v)
theorem Cel4.then_ {w w' : World} {g : Nat} {x y u v : Int} (h : Cel4 w g x y u v) (hb : Below w.heap.size w w') : Cel4 w' g x y u v := ⟨cell_then hb h.1, cell_then hb h.2.1, cell_then hb h.2.2.1, cell_then hb h.2.2.2⟩
/-- n places, one behind the other -/
def Pls (w : World) (g n : Nat) (f : Nat → Int × Int) : Prop := ∀ j, j < n → w.cell? ⟨g, j * 2, none⟩ = some (.int .i64 (f j).1) ∧ w.cell? ⟨g, j * 2 + 1, none⟩ = some (.int .i64 (f j).2)
theorem Pls.then_ {w w' : World} {g n : Nat} {f : Nat → Int × Int} (h : Pls w g n f) (hb : Below w.heap.size w w') : Pls w' g n f := fun j hj => ⟨cell_then hb (h j hj).1, cell_then hb (h j hj).2⟩
def PlsF (w : World) (g : Nat) (f : Nat → Int × Int) : Prop := Pls w g 6 f ∧ ∀ j, j < 12 → w.frozen? ⟨g, j, none⟩ = false
theorem PlsF.set_ {w : World} {g j : Nat} {f : Nat → Int × Int} (h : PlsF w g f) (hj : j < 6) (x y : Int) :
    PlsF ((w.setCell ⟨g, j * 2, none⟩ (.int .i64 x)).setCell ⟨g, j * 2 + 1, none⟩ (.int .i64 y)) g (fun q => if q = j then (x, y) else f q) := by
  refine ⟨fun q hq => ?_, fun q hq => by simpa using h.2 q hq⟩
  have h0 := (h.1 q hq).1
  have h1 := (h.1 q hq).2
  by_cases e : q = j
  · subst e
    simp only [if_true]
    exact ⟨cell_off _ (set_same5 h0) (by omega), set_same5 (cell_off _ h1 (by omega))⟩
  · simp only [if_neg e]
    exact ⟨cell_off _ (cell_off _ h0 (by omega)) (by omega), cell_off _ (cell_off _ h1 (by omega)) (by omega)⟩
theorem plsf_new (w : World) (t : TypeId) : PlsF (w.alloc (.cells #[.int .i64 0, .int .i64 0, .int .i64 0, .int .i64 0, .int .i64 0, .int .i64 0, .int .i64 0, .int .i64 0, .int .i64 0, .int .i64 0, .int .i64 0, .int .i64 0] t)) w.heap.size (fun _ => (0, 0)) := by
  refine ⟨fun j hj => ?_, fun j hj => by simp [go_sem]⟩
  rcases (show j = 0 ∨ j = 1 ∨ j = 2 ∨ j = 3 ∨ j = 4 ∨ j = 5 by omega) with rfl | rfl | rfl | rfl | rfl | rfl <;> exact ⟨new_cell rfl, new_cell rfl⟩
theorem PlsF.then_ {w w' : World} {g : Nat} {f : Nat → Int × Int} (h : PlsF w g f) (hb : Below w.heap.size w w') : PlsF w' g f :=
  ⟨h.1.then_ hb, fun j hj => by
    have hg : g < w.heap.size := lt_size (h.1 0 (by omega)).1
    rw [hb.frozen (p := ⟨g, j, none⟩) hg]
    exact h.2 j hj⟩
/-- the law's arguments that lie in memory: a dot, a stroke, three places, two numbers -/
structure ArgsAt (w : World) (g : Nat) (d : Dot) (P N : Int) (A : Option Addr) (m c : Nat) (f : Nat → Int × Int) (n0 n1 : Int) : Prop where
  dd : Cel4 w g d.x d.y d.t d.p
  r0 : w.cell? ⟨g + 1, 0, none⟩ = some (.int .i64 P)
  r1 : w.cell? ⟨g + 1, 1, none⟩ = some (.int .i64 N)
  r2 : w.cell? ⟨g + 1, 2, none⟩ = some (.slice A m c)
  pp : Pls w (g + 1 + 1) 3 f
  nn : Cel2 w (g + 1 + 1 + 1) n0 n1
theorem ArgsAt.then_ {w w' : World} {g : Nat} {d : Dot} {P N : Int} {A : Option Addr} {m c : Nat} {f : Nat → Int × Int} {n0 n1 : Int} (h : ArgsAt w g d P N A m c f n0 n1) (hb : Below w.heap.size w w') : ArgsAt w' g d P N A m c f n0 n1 :=
  ⟨h.dd.then_ hb, cell_then hb h.r0, cell_then hb h.r1, cell_then hb h.r2, h.pp.then_ hb, h.nn.then_ hb⟩
theorem take_dots {w : World} {A : Option Addr} {D : List Dot} (h : Dots w A D) (k : Nat) : Dots w A (D.take k) := fun i hi => by
  rw [List.length_take] at hi
  have e : dotAt (D.take k) i = dotAt D i := by simp [dotAt, List.getD, show i < k by omega]
  rw [e]
  exact h i (by omega)
theorem own_str {w : World} {base g n c : Nat} {e : TypeId} {D : List Dot} {P N : Int} (h : w.ownsRow base e 4 (.slice (some ⟨g, 0, none⟩) n c) n (dcells D)) (_hn : D.length = n) (hf : n ≤ 200) : StrAt w P N (some ⟨g, 0, none⟩) c D := by
  have hc := own_cap h
  exact ⟨dots_of_own h, by omega, hc.2, by omega⟩
def LitAt (w : World) (g : Nat) (L : List SRec) : Prop := ∀ j, j < L.length → SrAt w g (j * 3) (L.getD j sr0)
theorem LitAt.then_ {w w' : World} {g : Nat} {L : List SRec} (h : LitAt w g L) (hb : Below w.heap.size w w') : LitAt w' g L := fun j hj => (h j hj).then_ hb
/-- what all rounds of the law read -/
structure MatAt (w : World) (bO : Nat) (sO : SRec) (gn : Nat) (n0 n1 : Int) (gp : Nat) (f : Nat → Int × Int) (AK : Option Addr) (K : List Int) : Prop where
  own : SrAt w bO 0 sO
  nn : Cel2 w gn n0 n1
  pl : Pls w gp 6 f
  kk : IntsAt w AK K
theorem MatAt.then_ {w w' : World} {bO : Nat} {sO : SRec} {gn : Nat} {n0 n1 : Int} {gp : Nat} {f : Nat → Int × Int} {AK : Option Addr} {K : List Int} (h : MatAt w bO sO gn n0 n1 gp f AK K) (hb : Below w.heap.size w w') : MatAt w' bO sO gn n0 n1 gp f AK K :=
  ⟨h.own.then_ hb, h.nn.then_ hb, h.pl.then_ hb, h.kk.then_ hb⟩
/-- a list of indices -/
structure IRec where
  A : Option Addr
  c : Nat
  l : List Int
def ir0 : IRec := ⟨none, 0, []⟩
structure IrAt (w : World) (g j : Nat) (r : IRec) : Prop where
  c0 : w.cell? ⟨g, j, none⟩ = some (.slice r.A r.l.length r.c)
  ints : IntsAt w r.A r.l
  few : r.l.length ≤ 200
theorem IrAt.then_ {w w' : World} {g j : Nat} {r : IRec} (h : IrAt w g j r) (hb : Below w.heap.size w w') : IrAt w' g j r := ⟨cell_then hb h.c0, h.ints.then_ hb, h.few⟩
def IrsAt (w : World) (g : Nat) (L : List IRec) : Prop := ∀ j, j < L.length → IrAt w g j (L.getD j ir0)
theorem IrsAt.then_ {w w' : World} {g : Nat} {L : List IRec} (h : IrsAt w g L) (hb : Below w.heap.size w w') : IrsAt w' g L := fun j hj => (h j hj).then_ hb
theorem own_slice5 {w : World} {base n size : Nat} {e : TypeId} {v : Value} {xs : List Value} (h : w.ownsRow base e size v n xs) : ∃ A c, v = .slice A n c ∧ n ≤ c := by
  rcases h.2 with ⟨h', h0⟩ | ⟨g2, c2, cur, h', _, _, h3, _⟩
  · exact ⟨none, 0, by rw [h', h0], by omega⟩
  · exact ⟨_, c2, h', h3⟩
theorem ints_of_own5 {w : World} {base c n : Nat} {e : TypeId} {A : Option Addr} {l : List Int} (h : w.ownsRow base e 1 (.slice A n c) n (ivs l)) : IntsAt w A l := fun i hi => by
  have hl := h.1
  rw [ivs_length] at hl
  obtain ⟨g, c', h1, _⟩ := h.form (by omega)
  injection h1 with h1
  subst h1
  exact ints_of_own h i hi
theorem ints_take {w : World} {A : Option Addr} {l : List Int} (h : IntsAt w A l) (k : Nat) : IntsAt w A (l.take k) := fun i hi => by
  rw [List.length_take] at hi
  have e : (l.take k).getD i 0 = l.getD i 0 := by simp [List.getD, show i < k by omega]
  rw [e]
  exact h i (by omega)
theorem same_self (P N : Int) (D : List Dot) : sameB P N D P N D = true := by simp [sameB]
/-- a dot is stored into a row of the call's own -/
theorem dots_put {w : World} {base g n c k : Nat} {e : TypeId} {D : List Dot} (h : w.ownsRow base e 4 (.slice (some ⟨g, 0, none⟩) n c) n (dcells D)) (_hn : D.length = n) (d : Dot) (_hk : k < n) :
    Dots ((((w.setCell ⟨g, k * 4, none⟩ (.int .i64 d.x)).setCell ⟨g, k * 4 + 1, none⟩ (.int .i64 d.y)).setCell ⟨g, k * 4 + 2, none⟩ (.int .i64 d.t)).setCell ⟨g, k * 4 + 3, none⟩ (.int .i64 d.p)) (some ⟨g, 0, none⟩) (D.set k d) := fun i hi => by
  rw [List.length_set] at hi
  obtain ⟨b, o, hA, c0, c1, c2, c3⟩ := dots_of_own h i hi
  injection hA with hA
  injection hA with e1 e2 e3
  subst e1 e2
  refine ⟨g, 0, rfl, ?_⟩
  by_cases he : i = k
  · subst he
    have hd : dotAt (D.set i d) i = d := by simp [dotAt, List.getD, hi]
    rw [hd]
    rw [Nat.zero_add] at c0 c1 c2 c3 ⊢
    refine ⟨?_, ?_, ?_, ?_⟩
    · exact cell_off _ (cell_off _ (cell_off _ (set_same5 c0) (by omega)) (by omega)) (by omega)
    · exact cell_off _ (cell_off _ (set_same5 (cell_off _ c1 (by omega))) (by omega)) (by omega)
    · exact cell_off _ (set_same5 (cell_off _ (cell_off _ c2 (by omega)) (by omega))) (by omega)
    · exact set_same5 (cell_off _ (cell_off _ (cell_off _ c3 (by omega)) (by omega)) (by omega))
  · have hd : dotAt (D.set k d) i = dotAt D i := by simp [dotAt, List.getD, Ne.symm he]
    rw [hd]
    rw [Nat.zero_add] at c0 c1 c2 c3 ⊢
    exact ⟨cell_off _ (cell_off _ (cell_off _ (cell_off _ c0 (by omega)) (by omega)) (by omega)) (by omega), cell_off _ (cell_off _ (cell_off _ (cell_off _ c1 (by omega)) (by omega)) (by omega)) (by omega), cell_off _ (cell_off _ (cell_off _ (cell_off _ c2 (by omega)) (by omega)) (by omega)) (by omega), cell_off _ (cell_off _ (cell_off _ (cell_off _ c3 (by omega)) (by omega)) (by omega)) (by omega)⟩
theorem few_any (P N : Int) (A : Option Addr) (n c : Nat) (w : World) (hc : n ≤ c) (_hm : (c : Int) ≤ 9223372036854775807) :
    Calls Try.prog 13 #[.agg #[.int .i64 P, .int .i64 N, .slice A n c]] w fun e w' => e = .returned (.agg #[.int .i64 P, .int .i64 N, .slice A (min n 30) c]) ∧ Below w.heap.size w w' := by
  have hcI : (n : Int) ≤ (c : Int) := by omega
  go_enter Try.func13, Try.ntmps13
  go_wp2_with fail
  · have he : min n 30 = 30 := by omega
    rw [he]
    exact bodyPost_ret (v := .agg #[.int .i64 P, .int .i64 N, .slice A 30 c]) (by simp [results, Try.results13, go_sem]) rfl ⟨rfl, below_alloc (below_alloc (Below.refl _ _) _) _⟩
  · have he : min n 30 = n := by omega
    rw [he]
    exact bodyPost_ret (v := .agg #[.int .i64 P, .int .i64 N, .slice A n c]) (by simp [results, Try.results13, go_sem]) rfl ⟨rfl, below_alloc (below_alloc (Below.refl _ _) _) _⟩
end Go.Proofs.Ytgmabepdhbnppaa
