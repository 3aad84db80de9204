/- The strokes that the laws make: the plain part. -/
import Derived.Test.YtebfenkjipaedaaStrokePlain
namespace Go.Proofs.Ytebfenkjipaedaa
namespace Str
/-- a picked number (pick of the reference and of the laws) -/
def pick_ (c n : Int) : Int := (if c < 0 then -(c + 1) else c) % n
theorem pick_bd (c : Int) {n : Int} (h : 0 < n) : 0 ≤ pick_ c n ∧ pick_ c n < n := ⟨Int.emod_nonneg _ (by omega), Int.emod_lt_of_pos _ h⟩
/-- three drawn numbers -/
structure E3 where
  a : Int
  b : Int
  c : Int
/-- the next dot of a made stroke -/
def madeN (d : Dot) (e : E3) : Dot :=
  ⟨max 0 (min 4095 (d.x + pick_ e.a 401 - 200)), max 0 (min 4095 (d.y + pick_ e.b 401 - 200)), d.t + pick_ e.c 50, pick_ e.c 101⟩
/-- the first dot; m is the first number times 37, as the machine holds it -/
def made0 (a b m : Int) : Dot := ⟨1000 + pick_ b 2000, 1000 + pick_ m 2000, pick_ a 500, 0⟩
def madeR : Dot → List E3 → List Dot
  | _, [] => []
  | d, e :: r => madeN d e :: madeR (madeN d e) r
def madeD (a b m : Int) (es : List E3) : List Dot := made0 a b m :: madeR (made0 a b m) (es.take 23)
theorem madeR_length (d : Dot) (es : List E3) : (madeR d es).length = es.length := by
  induction es generalizing d with
  | nil => rfl
  | cons e r ih => simp [madeR, ih]
/-- the last dot of a walk -/
def lastD (d : Dot) (es : List E3) : Dot := es.foldl madeN d
theorem madeR_snoc (d : Dot) (es : List E3) (e : E3) : madeR d (es ++ [e]) = madeR d es ++ [madeN (lastD d es) e] := by
  induction es generalizing d with
  | nil => rfl
  | cons f r ih => simp [madeR, lastD, ih]
theorem lastD_snoc (d : Dot) (es : List E3) (e : E3) : lastD d (es ++ [e]) = madeN (lastD d es) e := by simp [lastD, List.foldl_append]
theorem madeD_length (a b m : Int) (es : List E3) : (madeD a b m es).length = 1 + min 23 es.length := by
  rw [madeD, List.length_cons, madeR_length, List.length_take]; omega
/-- a dot whose time is at most c -/
def DotOk (c : Int) (d : Dot) : Prop := (0 ≤ d.x ∧ d.x ≤ 4095) ∧ (0 ≤ d.y ∧ d.y ≤ 4095) ∧ (0 ≤ d.t ∧ d.t ≤ c) ∧ 0 ≤ d.p ∧ d.p ≤ 100
theorem made0_ok (a b m : Int) : DotOk 500 (made0 a b m) := by
  have h1 := pick_bd b (n := 2000) (by omega)
  have h2 := pick_bd m (n := 2000) (by omega)
  have h3 := pick_bd a (n := 500) (by omega)
  refine ⟨⟨?_, ?_⟩, ⟨?_, ?_⟩, ⟨?_, ?_⟩, ?_, ?_⟩ <;> simp only [made0] <;> omega
theorem madeN_ok {c : Int} {d : Dot} (h : DotOk c d) (e : E3) : DotOk (c + 50) (madeN d e) ∧ d.t ≤ (madeN d e).t := by
  obtain ⟨⟨x0, x1⟩, ⟨y0, y1⟩, ⟨t0, t1⟩, p0, p1⟩ := h
  have h1 := pick_bd e.a (n := 401) (by omega)
  have h2 := pick_bd e.b (n := 401) (by omega)
  have h3 := pick_bd e.c (n := 50) (by omega)
  have h4 := pick_bd e.c (n := 101) (by omega)
  refine ⟨⟨⟨?_, ?_⟩, ⟨?_, ?_⟩, ⟨?_, ?_⟩, ?_, ?_⟩, ?_⟩ <;> simp only [madeN] <;> omega
theorem madeR_ok {c : Int} {d : Dot} (h : DotOk c d) (es : List E3) (hc : c + 50 * es.length ≤ 1000000) : dotsB d.t (madeR d es) = true := by
  induction es generalizing d c with
  | nil => rfl
  | cons e r ih =>
    obtain ⟨h1, h2⟩ := madeN_ok h e
    rw [List.length_cons] at hc
    have hc2 : c + 50 + 50 * (r.length : Int) ≤ 1000000 := by omega
    rw [madeR, dotsB, ih h1 hc2, Bool.and_true, dotB_iff]
    obtain ⟨a1, a2, a3, a4⟩ := h1
    exact ⟨⟨a1, a2⟩, ⟨h2, by omega⟩, a4⟩
theorem lastD_ok {c : Int} {d : Dot} (h : DotOk c d) (es : List E3) : DotOk (c + 50 * es.length) (lastD d es) := by
  induction es generalizing d c with
  | nil => simpa [lastD] using h
  | cons e r ih =>
    have h1 := ih (madeN_ok h e).1
    rw [List.length_cons, show c + 50 * ((r.length + 1 : Nat) : Int) = c + 50 + 50 * (r.length : Int) by omega]
    exact h1
/-- a made stroke is a stroke -/
theorem made_valid (a b m : Int) (es : List E3) : validB (pick_ a 40) (1 + pick_ b 999) (madeD a b m es) = true := by
  have h1 := pick_bd a (n := 40) (by omega)
  have h2 := pick_bd b (n := 999) (by omega)
  have hl := madeD_length a b m es
  have hk := made0_ok a b m
  have hr : dotsB (made0 a b m).t (madeR (made0 a b m) (es.take 23)) = true := madeR_ok hk _ (by rw [List.length_take]; omega)
  rw [validB, Bool.and_eq_true]
  refine ⟨headB_iff.2 ⟨⟨?_, ?_⟩, ⟨?_, ?_⟩, ?_, ?_⟩, ?_⟩
  · omega
  · omega
  · omega
  · omega
  · omega
  · omega
  · rw [madeD, dotsB, hr, Bool.and_true, dotB_iff]
    obtain ⟨a1, a2, ⟨a3, a4⟩, a5⟩ := hk
    exact ⟨⟨a1, a2⟩, ⟨a3, by omega⟩, a5⟩
end Str
end Go.Proofs.Ytebfenkjipaedaa
