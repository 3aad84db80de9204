/- The laws function sides of chapter 02. -/
import Derived.Test.YtoipckflokdakaaDoorLw02Way
namespace Go.Proofs.YtoipckflokdakaaDoor
open Go.RowKit Sha Mk
attribute [local go_sem] Oper.semAt_some
theorem rev_first (x : ByteArray) : ∀ (t : List ByteArray) (y : ByteArray) (P : List ByteArray), (x :: t).reverse = y :: P → (y :: P).getLastD y = x := fun t y P h => by
  have h2 : (y :: P).getLast? = some x := by rw [← h, List.getLast?_reverse]; rfl
  rw [List.getLastD_eq_getLast?, h2]; rfl
theorem ends_nil {w w' : World} {q : Nat} {v : ByteArray} (hb : Below w.heap.size w w') : ∃ Ar cr, Ending.returned (.tuple #[.slice none 0 0, .string v]) = .returned (.tuple #[.slice Ar ([] : List ByteArray).length cr, .string v]) ∧ StrsAt w' Ar [] ∧ ([] : List ByteArray).length ≤ q + 1 ∧ cr ≤ maxLen ∧ ([] : List ByteArray).length ≤ cr ∧ Below w.heap.size w w' :=
  ⟨none, 0, rfl, strs_nil _ _, Nat.zero_le _, Nat.zero_le _, Nat.le_refl _, hb⟩
set_option maxRecDepth 100000 in
set_option maxHeartbeats 4000000 in
theorem sides_base (old : ByteArray) (q m n : Nat) (b : Bool) (A : Option Addr) (c : Nat) (p : List ByteArray) (w : World) (hb : n ≤ m ∨ q = 0) (hp : p.length = q) (_hn : (n : Int) ≤ 9223372036854775807) (_hm : (m : Int) ≤ 9223372036854775807) (hq : q ≤ 100) (hA : StrsAt w A p) :
    Calls Tryd.prog 28 #[.string old, .int .i64 (m : Int), .int .i64 (n : Int), .slice A q c, .bool b] w fun e w' => ∃ Ar cr, e = .returned (.tuple #[.slice Ar (sidesF old m n p.reverse b).1.length cr, .string (sidesF old m n p.reverse b).2]) ∧ StrsAt w' Ar (sidesF old m n p.reverse b).1 ∧ (sidesF old m n p.reverse b).1.length ≤ q + 1 ∧ cr ≤ maxLen ∧ (sidesF old m n p.reverse b).1.length ≤ cr ∧ Below w.heap.size w w' := by
  by_cases hq0 : q = 0
  · have hp0 : p = [] := List.eq_nil_of_length_eq_zero (by omega)
    have hr := sides_nil old m n b
    rw [hp0, List.reverse_nil]
    obtain ⟨R, hR⟩ : ∃ R, sidesF old m n [] b = R := ⟨_, rfl⟩
    rw [hR] at hr ⊢
    have HR := Lib.hid hr
    clear hr hR
    subst hq0
    clear hp0 hp hA
    by_cases h2 : n ≤ m
    · have g1 : (n : Int) ≤ (m : Int) := by omega
      cases b
      all_goals
        go_enter Tryd.func28, Tryd.ntmps28
        go_wp2_with fail
        go_ret2
        rw [HR.out]
        exact ⟨none, 0, rfl, strs_nil _ _, Nat.zero_le _, Nat.zero_le _, Nat.le_refl _, Below.refl _ _⟩
    · have g1 : ¬ (n : Int) ≤ (m : Int) := by omega
      cases b
      all_goals
        go_enter Tryd.func28, Tryd.ntmps28
        go_wp2_with fail
        go_ret2
        rw [HR.out]
        exact ⟨none, 0, rfl, strs_nil _ _, Nat.zero_le _, Nat.zero_le _, Nat.le_refl _, Below.refl _ _⟩
  · have hnm : n ≤ m := by rcases hb with h | h; exact h; exact absurd h hq0
    have g1 : (n : Int) ≤ (m : Int) := by omega
    obtain ⟨x, t, rfl⟩ : ∃ x t, p = x :: t := by
      cases p with
      | nil => exact absurd hp (by simp; omega)
      | cons x t => exact ⟨x, t, rfl⟩
    obtain ⟨y, P, hP⟩ : ∃ y P, (x :: t).reverse = y :: P := by
      cases h : (x :: t).reverse with
      | nil => simp at h
      | cons y P => exact ⟨y, P, rfl⟩
    have hf := rev_first x t y P hP
    have hr := sides_all old m n y P b hnm
    rw [hf] at hr
    rw [hP]
    obtain ⟨R, hR⟩ : ∃ R, sidesF old m n (y :: P) b = R := ⟨_, rfl⟩
    rw [hR] at hr ⊢
    have HR := Lib.hid hr
    clear hr hR
    cases b with
    | true =>
      clear hP hf hA
      go_enter Tryd.func28, Tryd.ntmps28
      go_wp2_with fail
      go_ret2
      rw [HR.out]
      exact ⟨none, 0, rfl, strs_nil _ _, Nat.zero_le _, Nat.zero_le _, Nat.le_refl _, Below.refl _ _⟩
    | false =>
      obtain ⟨bb, o, rfl, hc⟩ := hA 0 (by simp)
      have hc0 : w.cell? ⟨bb, o, none⟩ = some (.string x) := hc
      have H := Lib.hid hc0
      have g2 : ¬ ((q : Int) = 0) := by omega
      have g3 : (0 : Int) < (q : Int) := by omega
      clear hP hf hA hc hc0
      go_enter Tryd.func28, Tryd.ntmps28
      go_wp2_with fail
      have g_h := fun D os => cell_regrown H.out D os
      refine wp_region_quiet_below (by kernel_rfl) (by kernel_rfl) ?_
      repeat (go_big_quiet_step (fail))
      refine wpQuiet_nil ?_
      intro wq hq0
      have hq := below_of_class hq0
      clear hq0
      clear g_h
      go_wp2_with fail
      go_ret2
      rw [HR.out]
      exact ⟨none, 0, rfl, strs_nil _ _, Nat.zero_le _, Nat.zero_le _, Nat.le_refl _, hq⟩
set_option maxRecDepth 100000 in
set_option maxHeartbeats 8000000 in
theorem sides_any (old : ByteArray) (ho : old.size = 32) : ∀ (q m n : Nat) (b : Bool) (A : Option Addr) (c : Nat) (p : List ByteArray) (w : World), p.length = q → 1 ≤ m → (n : Int) ≤ 9223372036854775807 → (m : Int) ≤ 9223372036854775807 → q ≤ 100 → q ≤ c → c ≤ maxLen → (∀ x ∈ p, x.size = 32) → StrsAt w A p → RoundIn w →
    Calls Tryd.prog 28 #[.string old, .int .i64 (m : Int), .int .i64 (n : Int), .slice A q c, .bool b] w fun e w' => ∃ Ar cr, e = .returned (.tuple #[.slice Ar (sidesF old m n p.reverse b).1.length cr, .string (sidesF old m n p.reverse b).2]) ∧ StrsAt w' Ar (sidesF old m n p.reverse b).1 ∧ (sidesF old m n p.reverse b).1.length ≤ q + 1 ∧ cr ≤ maxLen ∧ (sidesF old m n p.reverse b).1.length ≤ cr ∧ Below w.heap.size w w' := by
  obtain ⟨i0, hi0, hz0, hz1, hz2⟩ := info_parts str_info1
  have I1 := Lib.hid hi0
  have I2 := Lib.hid hz0
  have I3 := Lib.hid hz1
  have I4 := Lib.hid hz2
  clear hi0 hz0 hz1 hz2
  intro q
  induction q with
  | zero =>
    intro m n b A c p w hp hm1 hn hm hq _ _ _ hA _
    exact sides_base old 0 m n b A c p w (.inr rfl) hp hn hm hq hA
  | succ q ih =>
    intro m n b A c p w hp hm1 hn hm hq hc hcm hP hA hK
    by_cases h1 : n ≤ m
    · exact sides_base old (q + 1) m n b A c p w (.inl h1) hp hn hm hq hA
    · obtain ⟨bb, o, x, p', rfl, rfl, hp', hcell, hA'⟩ := strs_last hA hp
      have hx : x.size = 32 := hP x (by simp)
      have hP' : ∀ y ∈ p', y.size = 32 := fun y hy => hP y (by simp [hy])
      have hk1 := lft_lt (n := n) (by omega)
      have hk2 := lft_pos (n := n)
      rw [List.reverse_append, List.reverse_singleton, List.singleton_append]
      have HLF := Lib.hid (fun w => lleft_any n w (by omega) (by omega))
      have g1 : ¬ (n : Int) ≤ (m : Int) := by omega
      have g2 : ¬ ((q : Int) + 1 = 0) := by omega
      have i1 : (q : Int) ≤ (c : Int) := by omega
      have i2 : (0 : Int) ≤ (q : Int) := by omega
      by_cases hik : m ≤ lft n
      · rw [sides_left _ _ _ _ _ _ (by omega) hik]
        obtain ⟨k, hk⟩ : ∃ k, lft n = k := ⟨_, rfl⟩
        rw [hk] at hk1 hk2 hik HLF ⊢
        have HIH := Lib.hid (ih m k b (some ⟨bb, o, none⟩) c p' w hp' hm1 (by omega) hm (by omega) (by omega) hcm hP' hA' hK)
        have hvs := sides_size old ho p'.reverse m k b (fun x hx => hP' x (List.mem_reverse.1 hx))
        obtain ⟨R, hR⟩ : ∃ R, sidesF old m k p'.reverse b = R := ⟨_, rfl⟩
        rw [hR] at HIH hvs ⊢
        obtain ⟨rl, v⟩ := R
        have HIH := Lib.hid HIH.out
        dsimp only at HIH hvs ⊢
        obtain ⟨mm, hmm⟩ : ∃ mm, rl.length = mm := ⟨_, rfl⟩
        have HRL := Lib.hid hmm
        rw [List.length_cons, hmm]
        rw [hmm] at HIH
        have HPP := Lib.hid (pre_app2 1 v x)
        have HK := Lib.hid hK
        have HC := Lib.hid hcell
        have g3 : (m : Int) ≤ (k : Int) := by omega
        have NS1 : v.size ≤ 400000 := by omega
        have NS2 : x.size ≤ 400000 := by omega
        clear ih hp hA hA' hK hR hmm hk hP hP' hvs
        go_enter Tryd.func28, Tryd.ntmps28
        go_wp2_with (first | (go_at_call 31; (with_reducible refine (HLF.out _).mono ?_); rintro e w1 ⟨rfl, rfl⟩) | (go_at_call 28; (with_reducible refine (HIH.out).mono ?_); rintro e w2 ⟨Ar, cr, rfl, sr, lr, mr, nr, b2⟩; have SR := Lib.hid sr; have HK2 := Lib.hid (HK.out.then_ b2); have HB2 := Lib.hid b2; clear sr b2) | (go_at_call 32; (with_reducible refine (node_any _ _ _ NS1 NS2 HK4.out).mono ?_); rintro e w5 ⟨rfl, b5⟩) | (at_builtin; rw [HPP.out]; refine wpList_front_strs rfl _ _ 22 rfl 9 i0 _ Tryd.underlying22 I1.out I2.out I3.out I4.out rfl _ rfl Ar _ cr _ HRL.out rfl SR.out (by omega) ?_; intro A4 c4 w4 s4 l4 m4 b4; have S4 := Lib.hid s4; have HK4 := Lib.hid (HK2.out.then_ b4); have HB4 := Lib.hid b4; clear s4 b4))
        go_ret2
        exact ⟨A4, c4, rfl, S4.out.then_ b5, by omega, m4, l4, below_next (below_next HB2.out HB4.out) b5⟩
      · rw [sides_right _ _ _ _ _ _ (by omega) hik]
        obtain ⟨k, hk⟩ : ∃ k, lft n = k := ⟨_, rfl⟩
        rw [hk] at hk1 hk2 hik HLF ⊢
        obtain ⟨r, hr⟩ : ∃ r, n - k = r := ⟨_, rfl⟩
        obtain ⟨d, hd⟩ : ∃ d, m - k = d := ⟨_, rfl⟩
        rw [hr, hd]
        have e1 : (n : Int) - (k : Int) = (r : Int) := by omega
        have e2 : (m : Int) - (k : Int) = (d : Int) := by omega
        have HIH := Lib.hid (ih d r false (some ⟨bb, o, none⟩) c p' w hp' (by omega) (by omega) (by omega) (by omega) (by omega) hcm hP' hA' hK)
        have hvs := sides_size old ho p'.reverse d r false (fun x hx => hP' x (List.mem_reverse.1 hx))
        obtain ⟨R, hR⟩ : ∃ R, sidesF old d r p'.reverse false = R := ⟨_, rfl⟩
        rw [hR] at HIH hvs ⊢
        obtain ⟨rl, v⟩ := R
        have HIH := Lib.hid HIH.out
        dsimp only at HIH hvs ⊢
        obtain ⟨mm, hmm⟩ : ∃ mm, rl.length = mm := ⟨_, rfl⟩
        have HRL := Lib.hid hmm
        rw [List.length_cons, hmm]
        rw [hmm] at HIH
        have HPP := Lib.hid (pre_app2 1 x v)
        have HK := Lib.hid hK
        have HC := Lib.hid hcell
        have g3 : ¬ (m : Int) ≤ (k : Int) := by omega
        have NS1 : v.size ≤ 400000 := by omega
        have NS2 : x.size ≤ 400000 := by omega
        clear ih hp hA hA' hK hR hmm hk hr hd hP hP' hvs
        go_enter Tryd.func28, Tryd.ntmps28
        go_wp2_with (first | (go_at_call 31; (with_reducible refine (HLF.out _).mono ?_); rintro e w1 ⟨rfl, rfl⟩) | (go_at_call 28; (with_reducible refine (HIH.out).mono ?_); rintro e w2 ⟨Ar, cr, rfl, sr, lr, mr, nr, b2⟩; have SR := Lib.hid sr; have HK2 := Lib.hid (HK.out.then_ b2); have HB2 := Lib.hid b2; clear sr b2) | (go_at_call 32; (with_reducible refine (node_any _ _ _ NS2 NS1 HK4.out).mono ?_); rintro e w5 ⟨rfl, b5⟩) | (at_builtin; rw [HPP.out]; refine wpList_front_strs rfl _ _ 22 rfl 9 i0 _ Tryd.underlying22 I1.out I2.out I3.out I4.out rfl _ rfl Ar _ cr _ HRL.out rfl SR.out (by omega) ?_; intro A4 c4 w4 s4 l4 m4 b4; have S4 := Lib.hid s4; have HK4 := Lib.hid (HK2.out.then_ b4); have HB4 := Lib.hid b4; clear s4 b4))
        go_ret2
        exact ⟨A4, c4, rfl, S4.out.then_ b5, by omega, m4, l4, below_next (below_next HB2.out HB4.out) b5⟩
end Go.Proofs.YtoipckflokdakaaDoor
