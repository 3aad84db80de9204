/- all, take, join; the library's slices.Backward at steps of a tree. -/
import Derived.Test.YtoipckflokdakaaDoorDigProof
import Derived.Shelf.GgClosure.Gives
namespace Go.Proofs.YtoipckflokdakaaDoor
open Go.RowKit Sha Mk Go.Lib
attribute [local go_sem] Oper.semAt_some
def oddB (s : ByteArray) : Bool := !((s.size : Int) == 32)
theorem isDigest_any (s : ByteArray) (w : World) (_hs : (s.size : Int) ≤ 9223372036854775807) : Calls Tryd.prog 51 #[.string s] w fun e w' => e = .returned (.bool ((s.size : Int) == 32)) ∧ w = w' := by
  go_enter Tryd.func51, Tryd.ntmps51
  go_wp2_with fail
  go_ret
  exact ⟨rfl, rfl⟩
/-- a list of digests -/
def allB (p : List ByteArray) : Bool := !(p.any oddB)
theorem odd_gives (s : ByteArray) (W : World) (hs : (s.size : Int) ≤ 9223372036854775807) : FnGives Tryd.prog 61 #[] #[.string s] (.bool (oddB s)) W := by
  show Calls Tryd.prog 61 #[.string s] W _
  obtain ⟨b, hb⟩ : ∃ b, oddB s = b := ⟨_, rfl⟩
  have HB := Lib.hid hb
  rw [hb]
  clear hb
  go_enter Tryd.func61, Tryd.ntmps61
  go_wp2_with (go_at_call 51; refine (isDigest_any s _ hs).mono ?_; rintro e w1 ⟨rfl, rfl⟩)
  go_ret
  exact ⟨ret_bool (by rw [← HB.out]; rfl), 0, rfl⟩
theorem take_no (A : Option Addr) (c : Nat) (w : World) : Calls Tryd.prog 46 #[.slice A 0 c] w fun e w' => e = .returned (.tuple #[.string ⟨#[]⟩, .slice none 0 0, .bool false]) ∧ w = w' := by
  go_enter Tryd.func46, Tryd.ntmps46
  go_wp2_with fail
  go_ret3
  exact ⟨rfl, rfl⟩
theorem take_yes (b o c m : Nat) (x : ByteArray) (w : World) (h : w.cell? ⟨b, o + m, none⟩ = some (.string x)) (hc : m + 1 ≤ c) (hm : m ≤ 1000000) : Calls Tryd.prog 46 #[.slice (some ⟨b, o, none⟩) (m + 1) c] w fun e w' => e = .returned (.tuple #[.string x, .slice (some ⟨b, o, none⟩) m c, .bool true]) ∧ Below w.heap.size w w' := by
  have H := Lib.hid h
  have i1 : (m : Int) ≤ (c : Int) := by omega
  have i2 : (0 : Int) ≤ (m : Int) := by omega
  clear h
  go_enter Tryd.func46, Tryd.ntmps46
  go_wp2_with fail
  have g_h := fun D os => cell_regrown H.out D os
  refine wp_region_quiet_below (by kernel_rfl) (by kernel_rfl) ?_
  repeat (go_big_quiet_step (fail))
  refine wpQuiet_nil ?_
  intro wq hq0
  have hq := below_of_class hq0
  clear hq0
  clear g_h
  go_wp2_with fail
  go_ret3
  exact ⟨rfl, hq⟩
theorem join_any (x : ByteArray) (b : Bool) (v : ByteArray) (w : World) (hx : x.size ≤ 400000) (hv : v.size ≤ 400000) (hK : RoundIn w) : Calls Tryd.prog 48 #[.agg #[.string x, .bool b], .string v] w fun e w' => e = .returned (.string (if b then nodeS x v else nodeS v x)) ∧ Below w.heap.size w w' := by
  have B1 := below_alloc (Below.refl w.heap.size w) (.cells #[.string x, .bool b] 58)
  have HK1 := Lib.hid (hK.then_ B1)
  have HB1 := Lib.hid B1
  clear hK B1
  cases b with
  | true =>
    rw [if_pos rfl]
    go_enter Tryd.func48, Tryd.ntmps48
    go_wp2_with (go_at_call 32; refine (node_any _ _ _ hx hv HK1.out).mono ?_; rintro e w1 ⟨rfl, b1⟩)
    go_ret
    exact ⟨rfl, below_next HB1.out b1⟩
  | false =>
    rw [if_neg (by decide)]
    go_enter Tryd.func48, Tryd.ntmps48
    go_wp2_with (go_at_call 32; refine (node_any _ _ _ hv hx HK1.out).mono ?_; rintro e w1 ⟨rfl, b1⟩)
    go_ret
    exact ⟨rfl, below_next HB1.out b1⟩
/-- the steps of a way in memory -/
def stepVs (l : List (ByteArray × Bool)) : List Value := l.flatMap fun x => [.string x.1, .bool x.2]
theorem stepVs_length (l : List (ByteArray × Bool)) : (stepVs l).length = l.length * 2 := by
  induction l with
  | nil => rfl
  | cons a t ih => simp only [stepVs, List.flatMap_cons, List.length_append, List.length_cons, List.length_nil] at ih ⊢; omega
theorem stepVs_append (a b : List (ByteArray × Bool)) : stepVs (a ++ b) = stepVs a ++ stepVs b := by simp [stepVs]
def StepsAt (w : World) (A : Option Addr) (l : List (ByteArray × Bool)) : Prop := ∀ i, i < l.length → ∃ b, A = some ⟨b, 0, none⟩ ∧ w.cell? ⟨b, i * 2, none⟩ = some (.string (l.getD i (⟨#[]⟩, false)).1) ∧ w.cell? ⟨b, i * 2 + 1, none⟩ = some (.bool (l.getD i (⟨#[]⟩, false)).2)
theorem StepsAt.then_ {w w' : World} {A : Option Addr} {l : List (ByteArray × Bool)} (h : StepsAt w A l) (hb : Below w.heap.size w w') : StepsAt w' A l := fun i hi => by
  obtain ⟨b, hA, h1, h2⟩ := h i hi
  exact ⟨b, hA, cell_then hb h1, cell_then hb h2⟩
theorem stepVs_get : ∀ (l : List (ByteArray × Bool)) (i : Nat), i < l.length → (stepVs l)[i * 2]? = some (.string (l.getD i (⟨#[]⟩, false)).1) ∧ (stepVs l)[i * 2 + 1]? = some (.bool (l.getD i (⟨#[]⟩, false)).2)
  | [], i, h => by simp at h
  | a :: t, 0, _ => ⟨rfl, rfl⟩
  | a :: t, i + 1, h => by
    have := stepVs_get t i (by simpa using h)
    have e : stepVs (a :: t) = .string a.1 :: .bool a.2 :: stepVs t := rfl
    rw [e, show (i + 1) * 2 = i * 2 + 1 + 1 by omega]
    simpa using this
theorem steps_of_own {w : World} {base g cap n : Nat} {e : TypeId} {l : List (ByteArray × Bool)} (h : w.ownsRow base e 2 (.slice (some ⟨g, 0, none⟩) n cap) n (stepVs l)) : StepsAt w (some ⟨g, 0, none⟩) l := fun i hi => by
  have hl := h.1
  rw [stepVs_length] at hl
  obtain ⟨h1, h2⟩ := stepVs_get l i hi
  exact ⟨g, rfl, (h.cellAt (i * 2) (by omega)).trans h1, (h.cellAt (i * 2 + 1) (by omega)).trans h2⟩
end Go.Proofs.YtoipckflokdakaaDoor
