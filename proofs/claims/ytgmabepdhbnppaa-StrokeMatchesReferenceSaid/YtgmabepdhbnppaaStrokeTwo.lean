/- Package stroke and its reference: both say the same, of any stroke with at most 200 dots. -/
import Derived.Test.YtgmabepdhbnppaaStrokeR3
import Derived.Test.YtgmabepdhbnppaaStrokeR4
import Derived.Test.YtgmabepdhbnppaaStrokeR6
import Derived.Test.YtgmabepdhbnppaaStrokeR7
import Derived.Test.YtgmabepdhbnppaaStrokeR10
import Derived.Test.YtgmabepdhbnppaaStrokeRSame
import Derived.Test.YtgmabepdhbnppaaStrokeSame
import Derived.Test.YtgmabepdhbnppaaStrokeMoved
import Derived.Test.YtgmabepdhbnppaaStrokeWithin
import Derived.Test.YtgmabepdhbnppaaStrokeWay
namespace Go.Proofs.Ytgmabepdhbnppaa
open Go.RowKit Str
/-- a stroke that is given to both -/
structure StrAt (w : World) (P N : Int) (A : Option Addr) (c : Nat) (D : List Dot) : Prop where
  dots : Dots w A D
  cap : D.length ≤ c
  max : (c : Int) ≤ 9223372036854775807
  few : D.length ≤ 200
theorem StrAt.then_ {w w' : World} {P N : Int} {A : Option Addr} {c : Nat} {D : List Dot} (h : StrAt w P N A c D) (hb : Below w.heap.size w w') : StrAt w' P N A c D := ⟨h.dots.below hb, h.cap, h.max, h.few⟩
section
variable {P N : Int} {A : Option Addr} {c : Nat} {D : List Dot} {w : World}
theorem StrAt.n62 (h : StrAt w P N A c D) : (D.length : Int) ≤ 4611686018427387904 := by have := h.few; omega
theorem box_two (h : StrAt w P N A c D) : ∃ x y u v e : Int, ∀ W, Below w.heap.size w W →
    (Calls Try.prog 14 #[.agg #[.int .i64 P, .int .i64 N, .slice A D.length c]] W fun r w' => r = .returned (.tuple #[.agg #[.int .i64 x, .int .i64 y, .int .i64 u, .int .i64 v], .int .i64 e]) ∧ Below W.heap.size W w') ∧
    (Calls Try.prog 15 #[.agg #[.int .i64 P, .int .i64 N, .slice A D.length c]] W fun r w' => r = .returned (.tuple #[.agg #[.int .i64 x, .int .i64 y, .int .i64 u, .int .i64 v], .int .i64 e]) ∧ Below W.heap.size W w') := by
  cases hv : validB P N D with
  | true => exact ⟨_, _, _, _, _, fun W hW => ⟨box_yes P N A c D W (h.dots.below hW) hv, boxR_yes P N A c D W (h.dots.below hW) h.cap h.max hv⟩⟩
  | false => exact ⟨_, _, _, _, _, fun W hW => ⟨box_no P N A c D W (h.dots.below hW) h.n62 hv, boxR_no P N A c D W (h.dots.below hW) h.cap h.max hv⟩⟩
theorem way_two (h : StrAt w P N A c D) : ∃ n e : Int, ∀ W, Below w.heap.size w W →
    (Calls Try.prog 16 #[.agg #[.int .i64 P, .int .i64 N, .slice A D.length c]] W fun r w' => r = .returned (.tuple #[.int .i64 n, .int .i64 e]) ∧ Below W.heap.size W w') ∧
    (Calls Try.prog 17 #[.agg #[.int .i64 P, .int .i64 N, .slice A D.length c]] W fun r w' => r = .returned (.tuple #[.int .i64 n, .int .i64 e]) ∧ Below W.heap.size W w') := by
  cases hv : validB P N D with
  | true => exact ⟨_, _, fun W hW => ⟨way_yes P N A c D W (h.dots.below hW) hv, wayR_yes P N A c D W (h.dots.below hW) h.cap h.max hv⟩⟩
  | false => exact ⟨_, _, fun W hW => ⟨way_no P N A c D W (h.dots.below hW) h.n62 hv, wayR_no P N A c D W (h.dots.below hW) h.cap h.max hv⟩⟩
theorem ends_two (h : StrAt w P N A c D) : ∃ x y u v e : Int, ∀ W, Below w.heap.size w W →
    (Calls Try.prog 18 #[.agg #[.int .i64 P, .int .i64 N, .slice A D.length c]] W fun r w' => r = .returned (.tuple #[.agg #[.int .i64 x, .int .i64 y], .agg #[.int .i64 u, .int .i64 v], .int .i64 e]) ∧ Below W.heap.size W w') ∧
    (Calls Try.prog 19 #[.agg #[.int .i64 P, .int .i64 N, .slice A D.length c]] W fun r w' => r = .returned (.tuple #[.agg #[.int .i64 x, .int .i64 y], .agg #[.int .i64 u, .int .i64 v], .int .i64 e]) ∧ Below W.heap.size W w') := by
  cases hv : validB P N D with
  | true => exact ⟨_, _, _, _, _, fun W hW => ⟨ends_yes P N A c D W (h.dots.below hW) hv, endsR_yes P N A c D W (h.dots.below hW) h.cap h.max hv⟩⟩
  | false => exact ⟨_, _, _, _, _, fun W hW => ⟨ends_no P N A c D W (h.dots.below hW) h.n62 hv, endsR_no P N A c D W (h.dots.below hW) h.cap h.max hv⟩⟩
theorem valid_two (h : StrAt w P N A c D) : ∃ b : Bool, ∀ W, Below w.heap.size w W →
    (Calls Try.prog 20 #[.agg #[.int .i64 P, .int .i64 N, .slice A D.length c]] W fun r w' => r = .returned (.bool b) ∧ Below W.heap.size W w') ∧
    (Calls Try.prog 21 #[.agg #[.int .i64 P, .int .i64 N, .slice A D.length c]] W fun r w' => r = .returned (.bool b) ∧ Below W.heap.size W w') :=
  ⟨_, fun W hW => ⟨valid_any P N A c D W (h.dots.below hW) h.n62, validR_any P N A c D W (h.dots.below hW) h.cap h.max⟩⟩
theorem code_two (h : StrAt w P N A c D) : ∃ n : Int, ∀ W, Below w.heap.size w W →
    (Calls Try.prog 22 #[.agg #[.int .i64 P, .int .i64 N, .slice A D.length c]] W fun r w' => r = .returned (.int .i64 n) ∧ Below W.heap.size W w') ∧
    (Calls Try.prog 23 #[.agg #[.int .i64 P, .int .i64 N, .slice A D.length c]] W fun r w' => r = .returned (.int .i64 n) ∧ Below W.heap.size W w') :=
  ⟨_, fun W hW => ⟨code_any P N A c D W (h.dots.below hW) h.n62, codeR_any P N A c D W (h.dots.below hW) h.cap h.max⟩⟩
theorem same_two (h : StrAt w P N A c D) {Q M : Int} {B : Option Addr} {cb : Nat} {E : List Dot} (hE : Dots w B E) : ∃ b : Bool, ∀ W, Below w.heap.size w W →
    (Calls Try.prog 24 #[.agg #[.int .i64 P, .int .i64 N, .slice A D.length c], .agg #[.int .i64 Q, .int .i64 M, .slice B E.length cb]] W fun r w' => r = .returned (.bool b) ∧ Below W.heap.size W w') ∧
    (Calls Try.prog 25 #[.agg #[.int .i64 P, .int .i64 N, .slice A D.length c], .agg #[.int .i64 Q, .int .i64 M, .slice B E.length cb]] W fun r w' => r = .returned (.bool b) ∧ Below W.heap.size W w') :=
  ⟨_, fun W hW => ⟨same_any P N Q M A B c cb D E W (h.dots.below hW) (hE.below hW) h.n62, sameR_any P N Q M A B c cb D E W (h.dots.below hW) (hE.below hW) h.n62⟩⟩
theorem within_two (h : StrAt w P N A c D) (px py z : Int) : ∃ b : Bool, ∀ W, Below w.heap.size w W →
    (Calls Try.prog 31 #[.agg #[.int .i64 P, .int .i64 N, .slice A D.length c], .agg #[.int .i64 px, .int .i64 py], .int .i64 z] W fun r w' => r = .returned (.bool b) ∧ Below W.heap.size W w') ∧
    (Calls Try.prog 32 #[.agg #[.int .i64 P, .int .i64 N, .slice A D.length c], .agg #[.int .i64 px, .int .i64 py], .int .i64 z] W fun r w' => r = .returned (.bool b) ∧ Below W.heap.size W w') := by
  cases hv : validB P N D with
  | true => exact ⟨_, fun W hW => ⟨within_yes P N A c D px py z W (h.dots.below hW) hv, withinR_yes P N A c D px py z W (h.dots.below hW) h.cap h.max hv⟩⟩
  | false => exact ⟨_, fun W hW => ⟨within_no P N A c D px py z W (h.dots.below hW) h.n62 hv, withinR_no P N A c D px py z W (h.dots.below hW) h.cap h.max hv⟩⟩
/-- a list, and an error, that are returned -/
def ListQ2 (T : List Int) (er : Int) (w : World) (r : Ending) (w' : World) : Prop := ∃ A c, r = .returned (.tuple #[.slice A T.length c, .int .i64 er]) ∧ IntsAt w' A T ∧ T.length ≤ c ∧ Below w.heap.size w w'
/-- a stroke, and an error, that are returned -/
def StrQ2 (Q M er : Int) (E : List Dot) (w : World) (r : Ending) (w' : World) : Prop := ∃ A c, r = .returned (.tuple #[.agg #[.int .i64 Q, .int .i64 M, .slice A E.length c], .int .i64 er]) ∧ Dots w' A E ∧ Below w.heap.size w w'
theorem StrQ2.yes {Q M : Int} {E : List Dot} {w : World} {r : Ending} {w' : World} (h : YesP Q M E w r w') : StrQ2 Q M 0 E w r w' := by
  obtain ⟨g, c, h1, _, h2, _, _, h3⟩ := h
  exact ⟨_, c, h1, h2, h3⟩
theorem StrQ2.no {w : World} {r : Ending} {w' : World} (h : NoP w r w') : StrQ2 0 0 50 [] w r w' := ⟨none, 0, h.1, fun i hi => by simp at hi, h.2⟩
theorem thin_two (h : StrAt w P N A c D) (z : Int) : ∃ (T : List Int) (er : Int), T.length ≤ 200 ∧ ∀ W, Below w.heap.size w W →
    (Calls Try.prog 28 #[.agg #[.int .i64 P, .int .i64 N, .slice A D.length c], .int .i64 z] W (ListQ2 T er W)) ∧
    (Calls Try.prog 29 #[.agg #[.int .i64 P, .int .i64 N, .slice A D.length c], .int .i64 z] W (ListQ2 T er W)) := by
  by_cases hv : validB P N D = true ∧ isInB z 0 1000 = true
  · refine ⟨natI (thinF D z), 0, ?_, fun W hW => ⟨(thin_yes P N A c D z W (h.dots.below hW) h.cap h.max hv.1 hv.2).mono ?_, (thinR_yes P N A c D z W (h.dots.below hW) h.cap h.max hv.1 hv.2).mono ?_⟩⟩
    · have := valid_len hv.1
      have := tail_len (ok := okD D z) (L := D.length - 1) (D.length - 1) 0
      rw [natI_length, thinF, List.length_cons]
      omega
    · rintro r w' ⟨B, cb, h1, h2, h3, h4⟩
      exact ⟨B, cb, by rw [natI_length]; exact h1, h2, by rw [natI_length]; exact h3, h4⟩
    · rintro r w' ⟨B, cb, h1, h2, h3, h4⟩
      exact ⟨B, cb, by rw [natI_length]; exact h1, h2, by rw [natI_length]; exact h3, h4⟩
  · have hv : validB P N D = false ∨ isInB z 0 1000 = false := by
      cases h1 : validB P N D with
      | false => exact .inl rfl
      | true =>
        cases h2 : isInB z 0 1000 with
        | false => exact .inr rfl
        | true => exact absurd ⟨h1, h2⟩ hv
    refine ⟨[], 50, by simp, fun W hW => ⟨(thin_no P N A c D z W (h.dots.below hW) h.n62 hv).mono ?_, (thinR_no P N A c D z W (h.dots.below hW) h.cap h.max hv).mono ?_⟩⟩
    · rintro r w' ⟨h1, h2⟩
      exact ⟨none, 0, h1, fun i hi => by simp at hi, by simp, h2⟩
    · rintro r w' ⟨h1, h2⟩
      exact ⟨none, 0, h1, fun i hi => by simp at hi, by simp, h2⟩
theorem kept_two (h : StrAt w P N A c D) {B : Option Addr} {cb : Nat} {l : List Int} (hl : IntsAt w B l) (hl2 : l.length ≤ 200) : ∃ (Q M er : Int) (E : List Dot), E.length ≤ 200 ∧ ∀ W, Below w.heap.size w W →
    (Calls Try.prog 26 #[.agg #[.int .i64 P, .int .i64 N, .slice A D.length c], .slice B l.length cb] W (StrQ2 Q M er E W)) ∧
    (Calls Try.prog 27 #[.agg #[.int .i64 P, .int .i64 N, .slice A D.length c], .slice B l.length cb] W (StrQ2 Q M er E W)) := by
  cases hv : validB P N D with
  | false => exact ⟨0, 0, 50, [], by simp, fun W hW => ⟨(kept_no P N A B c cb D l W h.n62 (h.dots.below hW) (.inl hv)).mono fun r w' hr => .no hr, (keptR_bad P N A c D B cb l W (h.dots.below hW) h.cap h.max hv).mono fun r w' hr => .no hr⟩⟩
  | true =>
    by_cases h0 : l.length = 0
    · exact ⟨0, 0, 50, [], by simp, fun W hW => ⟨(kept_no P N A B c cb D l W h.n62 (h.dots.below hW) (.inr (List.length_eq_zero_iff.1 h0))).mono fun r w' hr => .no hr, (keptR_none P N A c D B cb l W (h.dots.below hW) h.cap h.max hv h0).mono fun r w' hr => .no hr⟩⟩
    · have hS := fun W (hW : Below w.heap.size w W) => kept_any P N A B c cb D l W (h.dots.below hW) (hl.then_ hW) (by omega) (by omega) hv
      by_cases h1 : D.length < l.length
      · have hf : keptFrom D.length (-1) l = false := by
          cases hk : keptFrom D.length (-1) l with
          | false => rfl
          | true => have := keptFrom_len hk; omega
        exact ⟨0, 0, 50, [], by simp, fun W hW => ⟨(hS W hW).mono fun r w' hr => .no (hr.2 hf), (keptR_many P N A c D B cb l W (h.dots.below hW) h.cap h.max hv h1).mono fun r w' hr => .no hr⟩⟩
      · have hR := fun W (hW : Below w.heap.size w W) => keptR_loop P N A c D B cb l W (h.dots.below hW) h.cap h.max (hl.then_ hW) (by omega) (by omega) hv
        cases hk : keptFrom D.length (-1) l with
        | true => exact ⟨P, N, 0, keptE D l, by rw [keptE_length]; exact hl2, fun W hW => ⟨(hS W hW).mono fun r w' hr => .yes (hr.1 hk), (hR W hW).mono fun r w' hr => .yes (hr.1 hk)⟩⟩
        | false => exact ⟨0, 0, 50, [], by simp, fun W hW => ⟨(hS W hW).mono fun r w' hr => .no (hr.2 hk), (hR W hW).mono fun r w' hr => .no (hr.2 hk)⟩⟩
theorem moved_two (h : StrAt w P N A c D) (u v : Int) : ∃ (Q M er : Int) (E : List Dot), E.length ≤ 200 ∧ ∀ W, Below w.heap.size w W →
    (Calls Try.prog 33 #[.agg #[.int .i64 P, .int .i64 N, .slice A D.length c], .int .i64 u, .int .i64 v] W (StrQ2 Q M er E W)) ∧
    (Calls Try.prog 34 #[.agg #[.int .i64 P, .int .i64 N, .slice A D.length c], .int .i64 u, .int .i64 v] W (StrQ2 Q M er E W)) := by
  cases hv : validB P N D with
  | false => exact ⟨0, 0, 50, [], by simp, fun W hW => ⟨(moved_no P N A c D u v W h.n62 (h.dots.below hW) (.inr (.inr (.inl hv)))).mono fun r w' hr => .no hr, (movedR_bad P N A c D u v W (h.dots.below hW) h.cap h.max hv).mono fun r w' hr => .no hr⟩⟩
  | true =>
    by_cases hf : (-4095 ≤ u ∧ u ≤ 4095) ∧ -4095 ≤ v ∧ v ≤ 4095
    · have hR := fun W (hW : Below w.heap.size w W) => movedR_loop P N A c D u v W (h.dots.below hW) h.cap h.max hv hf.1 hf.2
      have hm := validB_moveOk (u := u) (v := v) hv
      cases hk : moveOk u v D with
      | true => exact ⟨P, N, 0, moveD u v D, by rw [moveD, List.length_map]; exact h.few, fun W hW => ⟨(moved_yes P N A c D u v W (h.dots.below hW) (isInB_iff.2 hf.1) (isInB_iff.2 hf.2) hv (by rw [hm]; exact hk)).mono fun r w' hr => .yes hr, (hR W hW).mono fun r w' hr => .yes (hr.1 hk)⟩⟩
      | false => exact ⟨0, 0, 50, [], by simp, fun W hW => ⟨(moved_no P N A c D u v W h.n62 (h.dots.below hW) (.inr (.inr (.inr (by rw [hm]; exact hk))))).mono fun r w' hr => .no hr, (hR W hW).mono fun r w' hr => .no (hr.2 hk)⟩⟩
    · have ho : isInB u (-4095) 4095 = false ∨ isInB v (-4095) 4095 = false := by
        cases h1 : isInB u (-4095) 4095 with
        | false => exact .inl rfl
        | true =>
          cases h2 : isInB v (-4095) 4095 with
          | false => exact .inr rfl
          | true => exact absurd ⟨isInB_iff.1 h1, isInB_iff.1 h2⟩ hf
      exact ⟨0, 0, 50, [], by simp, fun W hW => ⟨(moved_no P N A c D u v W h.n62 (h.dots.below hW) (by rcases ho with ho | ho; exact .inl ho; exact .inr (.inl ho))).mono fun r w' hr => .no hr, (movedR_far P N A c D u v W (h.dots.below hW) h.cap h.max hv hf).mono fun r w' hr => .no hr⟩⟩
theorem turned_two (h : StrAt w P N A c D) (q : Int) (hq : -9223372036854775808 ≤ q ∧ q ≤ 9223372036854775807) : ∃ (Q M er : Int) (E : List Dot), E.length ≤ 200 ∧ ∀ W, Below w.heap.size w W →
    (Calls Try.prog 35 #[.agg #[.int .i64 P, .int .i64 N, .slice A D.length c], .int .i64 q] W (StrQ2 Q M er E W)) ∧
    (Calls Try.prog 36 #[.agg #[.int .i64 P, .int .i64 N, .slice A D.length c], .int .i64 q] W (StrQ2 Q M er E W)) := by
  cases hv : validB P N D with
  | false => exact ⟨0, 0, 50, [], by simp, fun W hW => ⟨(turned_no P N A c D q W h.n62 hq (h.dots.below hW) hv).mono fun r w' hr => .no hr, (turnedR_bad P N A c D q W (h.dots.below hW) h.cap h.max hv).mono fun r w' hr => .no hr⟩⟩
  | true => exact ⟨P, N, 0, turnD (q % 4).toNat D, by rw [turnD, List.length_map]; exact h.few, fun W hW => ⟨(turned_yes P N A c D q W hq (h.dots.below hW) hv).mono fun r w' hr => .yes hr, (turnedR_yes P N A c D q W (h.dots.below hW) h.cap h.max hv hq).mono fun r w' hr => .yes hr⟩⟩
end
theorem near_two (ax ay bx b_y px py z : Int) : ∃ b : Bool, ∀ W,
    (Calls Try.prog 37 #[.agg #[.int .i64 ax, .int .i64 ay], .agg #[.int .i64 bx, .int .i64 b_y], .agg #[.int .i64 px, .int .i64 py], .int .i64 z] W fun r w' => r = .returned (.bool b) ∧ Below W.heap.size W w') ∧
    (Calls Try.prog 38 #[.agg #[.int .i64 ax, .int .i64 ay], .agg #[.int .i64 bx, .int .i64 b_y], .agg #[.int .i64 px, .int .i64 py], .int .i64 z] W fun r w' => r = .returned (.bool b) ∧ Below W.heap.size W w') :=
  ⟨_, fun W => ⟨nearB_any ax ay bx b_y px py z W, nearR_any ax ay bx b_y px py z W⟩⟩
end Go.Proofs.Ytgmabepdhbnppaa
