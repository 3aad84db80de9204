/- Package stroke: Valid and Code; what a stroke in memory is. -/
import Derived.Test.YtgmabepdhbnppaaStrokeBase
import Derived.Test.YtgmabepdhbnppaaStrokeLaws
namespace Go.Proofs.Ytgmabepdhbnppaa
open Go.RowKit Str
/-- dots in memory -/
def Dots (w : World) (A : Option Addr) (D : List Dot) : Prop :=
  ∀ i, i < D.length → ∃ b o, A = some ⟨b, o, none⟩ ∧ w.cell? ⟨b, o + i * 4, none⟩ = some (.int .i64 (dotAt D i).x) ∧ w.cell? ⟨b, o + i * 4 + 1, none⟩ = some (.int .i64 (dotAt D i).y) ∧
    w.cell? ⟨b, o + i * 4 + 2, none⟩ = some (.int .i64 (dotAt D i).t) ∧ w.cell? ⟨b, o + i * 4 + 3, none⟩ = some (.int .i64 (dotAt D i).p)
theorem Dots.below {w wx : World} {A : Option Addr} {D : List Dot} (h : Dots w A D) (hb : Below w.heap.size w wx) : Dots wx A D := fun i hi => by
  obtain ⟨b, o, hA, h0, h1, h2, h3⟩ := h i hi
  exact ⟨b, o, hA, cell_then hb h0, cell_then hb h1, cell_then hb h2, cell_then hb h3⟩
theorem Dots.open_ {w : World} {A : Option Addr} {D : List Dot} (h : Dots w A D) (hn : 0 < D.length) : ∃ b o, A = some ⟨b, o, none⟩ ∧ b < w.heap.size ∧ ∀ i, i < D.length →
    w.cell? ⟨b, o + i * 4, none⟩ = some (.int .i64 (dotAt D i).x) ∧ w.cell? ⟨b, o + i * 4 + 1, none⟩ = some (.int .i64 (dotAt D i).y) ∧
    w.cell? ⟨b, o + i * 4 + 2, none⟩ = some (.int .i64 (dotAt D i).t) ∧ w.cell? ⟨b, o + i * 4 + 3, none⟩ = some (.int .i64 (dotAt D i).p) := by
  obtain ⟨b, o, hA, h0, _⟩ := h 0 hn
  refine ⟨b, o, hA, World.block_lt_of_cell? _ _ h0, fun i hi => ?_⟩
  obtain ⟨b', o', hA', h'⟩ := h i hi
  rw [hA] at hA'
  injection hA' with hA'
  injection hA' with e1 e2
  subst e1 e2
  exact h'
theorem Dots.of_open {w wx : World} {b o : Nat} {D : List Dot} (hb : Below w.heap.size w wx) (h : ∀ i, i < D.length →
    w.cell? ⟨b, o + i * 4, none⟩ = some (.int .i64 (dotAt D i).x) ∧ w.cell? ⟨b, o + i * 4 + 1, none⟩ = some (.int .i64 (dotAt D i).y) ∧
    w.cell? ⟨b, o + i * 4 + 2, none⟩ = some (.int .i64 (dotAt D i).t) ∧ w.cell? ⟨b, o + i * 4 + 3, none⟩ = some (.int .i64 (dotAt D i).p)) (i : Nat) (hi : i < D.length) :
    wx.cell? ⟨b, o + i * 4, none⟩ = some (.int .i64 (dotAt D i).x) ∧ wx.cell? ⟨b, o + i * 4 + 1, none⟩ = some (.int .i64 (dotAt D i).y) ∧
    wx.cell? ⟨b, o + i * 4 + 2, none⟩ = some (.int .i64 (dotAt D i).t) ∧ wx.cell? ⟨b, o + i * 4 + 3, none⟩ = some (.int .i64 (dotAt D i).p) := by
  obtain ⟨h0, h1, h2, h3⟩ := h i hi
  exact ⟨cell_then hb h0, cell_then hb h1, cell_then hb h2, cell_then hb h3⟩
theorem Dots.drewN {w : World} {A : Option Addr} {D : List Dot} (h : Dots w A D) (n : Nat) : Dots (w.drewN n) A D := h
def sv (P N : Int) (A : Option Addr) (n cap : Nat) : Value := .agg #[.int .i64 P, .int .i64 N, .slice A n cap]
theorem dotsB_take_false {D : List Dot} {k : Nat} {l : Int} (h : dotsB l (D.take k) = false) : dotsB l D = false := by
  conv => lhs; rw [← List.take_append_drop k D]
  rw [dotsB_append, h, Bool.false_and]
theorem dotsB_snoc (l : Int) (D : List Dot) (d : Dot) : dotsB l (D ++ [d]) = (dotsB l D && dotB (lastT l D) d) := by
  rw [dotsB_append]; simp [dotsB]
theorem lastT_snoc (l : Int) (D : List Dot) (d : Dot) : lastT l (D ++ [d]) = d.t := by rw [lastT_append]; rfl

set_option maxRecDepth 100000 in
set_option maxHeartbeats 4000000 in
theorem valid_any (P N : Int) (A : Option Addr) (cap : Nat) (D : List Dot) (w : World) (hD : Dots w A D) (hn : (D.length : Int) ≤ 4611686018427387904) :
    Calls Try.prog 20 #[.agg #[.int .i64 P, .int .i64 N, .slice A D.length cap]] w fun e w' => e = .returned (.bool (validB P N D)) ∧ Below w.heap.size w w' := by
  have HD := Lib.hid hD
  clear hD
  have B0 : Below w.heap.size w (w.alloc (.cells #[.int .i64 P, .int .i64 N, .slice A D.length cap] 27)) := (Below.refl _ _).alloc (Nat.le_refl _) _
  cases h1 : isInB P 0 39 with
  | false =>
    have hv : validB P N D = false := by simp [validB, headB, h1]
    have HV := Lib.hid hv
    clear hv
    go_enter Try.func20, Try.ntmps20
    go_wp2_with fail
    refine (isIn_any _ _ _ _).mono ?_
    rintro e w1 ⟨rfl, rfl⟩
    rw [h1]
    go_wp2_with fail
    go_ret
    exact ⟨ret_bool HV.out.symm, B0⟩
  | true =>
    cases h2 : isInB N 1 999 with
    | false =>
      have hv : validB P N D = false := by simp [validB, headB, h2]
      have HV := Lib.hid hv
      clear hv
      go_enter Try.func20, Try.ntmps20
      go_wp2_with fail
      refine (isIn_any _ _ _ _).mono ?_
      rintro e w1 ⟨rfl, rfl⟩
      rw [h1]
      go_wp2_with fail
      refine (isIn_any _ _ _ _).mono ?_
      rintro e w1 ⟨rfl, rfl⟩
      rw [h2]
      go_wp2_with fail
      go_ret
      exact ⟨ret_bool HV.out.symm, B0⟩
    | true =>
      cases h3 : isInB (D.length : Int) 1 200 with
      | false =>
        have hv : validB P N D = false := by simp [validB, headB, h3]
        have HV := Lib.hid hv
        clear hv
        go_enter Try.func20, Try.ntmps20
        go_wp2_with fail
        refine (isIn_any _ _ _ _).mono ?_
        rintro e w1 ⟨rfl, rfl⟩
        rw [h1]
        go_wp2_with fail
        refine (isIn_any _ _ _ _).mono ?_
        rintro e w1 ⟨rfl, rfl⟩
        rw [h2]
        go_wp2_with fail
        refine (isIn_any _ _ _ _).mono ?_
        rintro e w1 ⟨rfl, rfl⟩
        rw [h3]
        go_wp2_with fail
        go_ret
        exact ⟨ret_bool HV.out.symm, B0⟩
      | true =>
        have hd : validB P N D = dotsB 0 D := by simp [validB, headB, h1, h2, h3]
        have HV := Lib.hid hd
        clear hd
        go_enter Try.func20, Try.ntmps20
        go_wp2_with fail
        refine (isIn_any _ _ _ _).mono ?_
        rintro e w1 ⟨rfl, rfl⟩
        rw [h1]
        go_wp2_with fail
        refine (isIn_any _ _ _ _).mono ?_
        rintro e w1 ⟨rfl, rfl⟩
        rw [h2]
        go_wp2_with fail
        refine (isIn_any _ _ _ _).mono ?_
        rintro e w1 ⟨rfl, rfl⟩
        rw [h3]
        go_wp2_with fail
        go_loopw [3, 26] (fun l i wr => ∃ k : Nat, k ≤ D.length ∧ i = .int .i64 (k : Int) ∧ l = .int .i64 (lastT 0 (D.take k)) ∧ dotsB 0 (D.take k) = true ∧ Below w.heap.size w wr) (fun _ i _ => D.length - (intOf i).toNat)
        case atStart => exact ⟨0, by omega, rfl, rfl, rfl, B0⟩
        case round =>
          obtain ⟨k, hk, rfl, rfl, hdk, hB⟩ := hrel
          by_cases hlt : k < D.length
          · obtain ⟨b, o, rfl, c0, c1, c2, c3⟩ := (HD.out.below hB) k hlt
            have hs : dotsB 0 (D.take (k + 1)) = dotB (lastT 0 (D.take k)) (dotAt D k) := by rw [take_dot hlt, dotsB_snoc, hdk, Bool.true_and]
            have HS := Lib.hid hs
            have HK := Lib.hid hdk
            clear hs hdk
            have HR : Hid (∀ {W : World} {o : Obj} {W1 : World}, W = wr.alloc o → Below W.heap.size W W1 → Below w.heap.size w W1) := fun {_ _ _} e h => (by subst e; exact below_next (hB.alloc hB.size _) h)
            go_wp2_with fail
            refine (at_any _ _).mono ?_
            rintro e w1 ⟨rfl, b1⟩
            unfold pv
            go_wp2_with fail
            refine (place_any _ _ _).mono ?_
            rintro e w2 ⟨rfl, b2⟩
            have e2 : w2.cell? ⟨wr.heap.size, 2, none⟩ = some (.int .i64 (dotAt D k).t) := cell_then b2 (cell_then b1 (by simp [go_sem]))
            have e3 : w2.cell? ⟨wr.heap.size, 3, none⟩ = some (.int .i64 (dotAt D k).p) := cell_then b2 (cell_then b1 (by simp [go_sem]))
            have B2 := HR.out rfl (below_next b1 b2)
            cases q1 : placeB (dotAt D k).x (dotAt D k).y with
            | false =>
              go_wp2_with fail
              go_ret
              exact ⟨ret_bool (by rw [HV.out]; exact (dotsB_take_false (k := k + 1) (by rw [HS.out, dotB, q1]; rfl)).symm), B2⟩
            | true =>
              go_wp2_with fail
              refine (isIn_any _ _ _ _).mono ?_
              rintro e w3 ⟨rfl, rfl⟩
              cases q2 : isInB (dotAt D k).t (lastT 0 (D.take k)) 1000000 with
              | false =>
                go_wp2_with fail
                go_ret
                exact ⟨ret_bool (by rw [HV.out]; exact (dotsB_take_false (k := k + 1) (by rw [HS.out, dotB, q1, q2]; rfl)).symm), B2⟩
              | true =>
                go_wp2_with fail
                refine (isIn_any _ _ _ _).mono ?_
                rintro e w3 ⟨rfl, rfl⟩
                cases q3 : isInB (dotAt D k).p 0 100 with
                | false =>
                  go_wp2_with fail
                  go_ret
                  exact ⟨ret_bool (by rw [HV.out]; exact (dotsB_take_false (k := k + 1) (by rw [HS.out, dotB, q1, q2, q3]; rfl)).symm), B2⟩
                | true =>
                  go_wp2_with fail
                  exact ⟨⟨k + 1, by omega, by go_num, by rw [take_dot hlt, lastT_snoc], by rw [HS.out, dotB, q1, q2, q3]; rfl, B2⟩, by simp [intOf]; omega⟩
          · obtain rfl : k = D.length := by omega
            rw [List.take_length] at hdk
            have HK := Lib.hid hdk
            clear hdk
            go_wp2_with fail
            go_ret
            exact ⟨ret_bool (by rw [HV.out, HK.out]), hB⟩
end Go.Proofs.Ytgmabepdhbnppaa
