/- The laws functions left, way and sides of chapter 02. -/
import Derived.Test.YtoipckflokdakaaDoorLw02BindA
import Derived.Test.YtoipckflokdakaaDoorStrsApp
namespace Go.Proofs.YtoipckflokdakaaDoor
open Go.RowKit Sha Mk
attribute [local go_sem] Oper.semAt_some
theorem pre_app1 (b : UInt8) (s : ByteArray) : (⟨#[b]⟩ : ByteArray) ++ s = preS b [s] := by
  apply ByteArray.ext
  simp [preS, ByteArray.data_append]
theorem pre_app2 (b : UInt8) (s t : ByteArray) : (⟨#[b]⟩ : ByteArray) ++ s ++ t = preS b [s, t] := by
  apply ByteArray.ext
  simp [preS, ByteArray.data_append]
set_option maxRecDepth 100000 in
set_option maxHeartbeats 4000000 in
theorem lleft_any (n : Nat) (w : World) (h1 : 2 ≤ n) (h2 : n ≤ 9223372036854775807) : Calls Tryd.prog 31 #[.int .i64 (n : Int)] w fun e w' => e = .returned (.int .i64 ((lft n : Nat) : Int)) ∧ w = w' := by
  go_enter Tryd.func31, Tryd.ntmps31
  go_wp2_with fail
  go_loopw [3] (fun k' wr => ∃ a k : Nat, k' = .int .i64 (k : Int) ∧ k = 2 ^ a ∧ k < n ∧ w = wr) (fun k' _ => n - (intOf k').toNat)
  case atStart => exact ⟨0, 1, rfl, rfl, by omega, rfl⟩
  case round =>
    obtain ⟨a, k, rfl, hk, hkn, rfl⟩ := hrel
    have hpos : 1 ≤ k := by rw [hk]; exact Nat.one_le_two_pow
    have HK := Lib.hid hk
    clear hk
    by_cases hlt : k + k < n
    · have g1 : (k : Int) < (n : Int) - (k : Int) := by omega
      have g2 : 2 * (k : Int) ≤ 9223372036854775807 := by omega
      go_wp2_with fail
      refine ⟨⟨a + 1, 2 * k, by rfl, by rw [HK.out, Nat.pow_succ]; omega, by omega, by trivial⟩, by simp [intOf]; omega⟩
    · have g1 : ¬ (k : Int) < (n : Int) - (k : Int) := by omega
      have hr : lft n = k := by rw [HK.out]; exact lft_eq (by rw [← HK.out]; omega) (by rw [Nat.pow_succ, ← HK.out]; omega)
      have HR := Lib.hid hr
      clear hr
      go_wp2_with fail
      go_ret
      exact ⟨by rw [HR.out]; rfl, rfl⟩
theorem new_one_strs (w : World) (y : ByteArray) (e : TypeId) : StrsAt (w.alloc (.cells #[.string y] e)) (some ⟨w.heap.size, 0, none⟩) [y] := fun i hi => by
  have hi : i < 1 := hi
  obtain rfl : i = 0 := by omega
  exact ⟨_, _, rfl, new_cell rfl⟩
set_option maxRecDepth 100000 in
set_option maxHeartbeats 4000000 in
theorem way_base (q n i : Nat) (s : ByteArray) (A : Option Addr) (c : Nat) (p : List ByteArray) (w : World) (hb : n ≤ 1 ∨ q = 0) (hp : p.length = q) (hn : (n : Int) ≤ 9223372036854775807) (_hi : (i : Int) ≤ 9223372036854775807) (hq : q ≤ 100) (hs : s.size ≤ 60) (hK : RoundIn w) :
    Calls Tryd.prog 26 #[.int .i64 (n : Int), .int .i64 (i : Int), .string s, .slice A q c] w fun e w' => ∃ Ar cr, e = .returned (.tuple #[.slice Ar (wayF n i s p.reverse).1.length cr, .string (wayF n i s p.reverse).2]) ∧ StrsAt w' Ar (wayF n i s p.reverse).1 ∧ (wayF n i s p.reverse).1.length ≤ q + 1 ∧ cr ≤ maxLen ∧ (wayF n i s p.reverse).1.length ≤ cr ∧ Below w.heap.size w w' := by
  have hw : wayF n i s p.reverse = ([preS 0 [s]], leafS s) := by
    rcases hb with h | h
    · exact way_one _ _ _ _ h
    · have hp0 : p = [] := List.eq_nil_of_length_eq_zero (by omega)
      rw [hp0, List.reverse_nil, way_nil]
  rw [hw]
  have HK := Lib.hid hK
  have HP := Lib.hid (pre_app1 0 s)
  have HB1 := Lib.hid (below_alloc (Below.refl w.heap.size w) (.cells #[.string (preS 0 [s])] 9))
  have HN := Lib.hid (new_one_strs w (preS 0 [s]) 9)
  clear hK hw hp
  rcases hb with h1 | h1
  · have g1 : (n : Int) ≤ 1 := by omega
    go_enter Tryd.func26, Tryd.ntmps26
    go_wp2_with fail
    rw [HP.out]
    refine (leaf_any s _ (by omega) (HK.out.then_ HB1.out)).mono ?_
    rintro e w2 ⟨rfl, b2⟩
    go_wp2_with fail
    go_ret2
    exact ⟨_, _, rfl, HN.out.then_ b2, by show 1 ≤ _; omega, by decide, by decide, below_next HB1.out b2⟩
  · by_cases h2 : n ≤ 1
    · have g1 : (n : Int) ≤ 1 := by omega
      go_enter Tryd.func26, Tryd.ntmps26
      go_wp2_with fail
      rw [HP.out]
      refine (leaf_any s _ (by omega) (HK.out.then_ HB1.out)).mono ?_
      rintro e w2 ⟨rfl, b2⟩
      go_wp2_with fail
      go_ret2
      exact ⟨_, _, rfl, HN.out.then_ b2, by show 1 ≤ _; omega, by decide, by decide, below_next HB1.out b2⟩
    · have g1 : ¬ (n : Int) ≤ 1 := by omega
      have g2 : (q : Int) = 0 := by omega
      go_enter Tryd.func26, Tryd.ntmps26
      go_wp2_with fail
      rw [HP.out]
      refine (leaf_any s _ (by omega) (HK.out.then_ HB1.out)).mono ?_
      rintro e w2 ⟨rfl, b2⟩
      go_wp2_with fail
      go_ret2
      exact ⟨_, _, rfl, HN.out.then_ b2, by show 1 ≤ _; omega, by decide, by decide, below_next HB1.out b2⟩
set_option maxRecDepth 100000 in
set_option maxHeartbeats 8000000 in
theorem way_any : ∀ (q n i : Nat) (s : ByteArray) (A : Option Addr) (c : Nat) (p : List ByteArray) (w : World), p.length = q → (n : Int) ≤ 9223372036854775807 → (i : Int) ≤ 9223372036854775807 → q ≤ 100 → q ≤ c → c ≤ maxLen → s.size ≤ 60 → (∀ x ∈ p, x.size ≤ 60) → StrsAt w A p → RoundIn w →
    Calls Tryd.prog 26 #[.int .i64 (n : Int), .int .i64 (i : Int), .string s, .slice A q c] w fun e w' => ∃ Ar cr, e = .returned (.tuple #[.slice Ar (wayF n i s p.reverse).1.length cr, .string (wayF n i s p.reverse).2]) ∧ StrsAt w' Ar (wayF n i s p.reverse).1 ∧ (wayF n i s p.reverse).1.length ≤ q + 1 ∧ cr ≤ maxLen ∧ (wayF n i s p.reverse).1.length ≤ cr ∧ Below w.heap.size w w' := by
  obtain ⟨i0, hi0, hz0, hz1, hz2⟩ := info_parts str_info1
  have I1 := Lib.hid hi0
  have I2 := Lib.hid hz0
  have I3 := Lib.hid hz1
  have I4 := Lib.hid hz2
  clear hi0 hz0 hz1 hz2
  intro q
  induction q with
  | zero =>
    intro n i s A c p w hp hn hi hq _ _ hs _ _ hK
    exact way_base 0 n i s A c p w (.inr rfl) hp hn hi hq hs hK
  | succ q ih =>
    intro n i s A c p w hp hn hi hq hc hcm hs hP hA hK
    by_cases h1 : n ≤ 1
    · exact way_base (q + 1) n i s A c p w (.inl h1) hp hn hi hq hs hK
    · obtain ⟨b, o, x, p', rfl, rfl, hp', hcell, hA'⟩ := strs_last hA hp
      have hx : x.size ≤ 60 := hP x (by simp)
      have hP' : ∀ y ∈ p', y.size ≤ 60 := fun y hy => hP y (by simp [hy])
      have hk1 := lft_lt (n := n) (by omega)
      have hk2 := lft_pos (n := n)
      rw [List.reverse_append, List.reverse_singleton, List.singleton_append]
      have HLF := Lib.hid (fun w => lleft_any n w (by omega) (by omega))
      have g1 : ¬ (n : Int) ≤ 1 := by omega
      have g2 : ¬ ((q : Int) + 1 = 0) := by omega
      have i1 : (q : Int) ≤ (c : Int) := by omega
      have i2 : (0 : Int) ≤ (q : Int) := by omega
      by_cases hik : i < lft n
      · rw [way_left _ _ _ _ _ (by omega) hik]
        obtain ⟨k, hk⟩ : ∃ k, lft n = k := ⟨_, rfl⟩
        rw [hk] at hk1 hk2 hik HLF ⊢
        have HIH := Lib.hid (ih k i s (some ⟨b, o, none⟩) c p' w hp' (by omega) hi (by omega) (by omega) hcm hs hP' hA' hK)
        have hvs := way_size p'.reverse k i s
        obtain ⟨R, hR⟩ : ∃ R, wayF k i s p'.reverse = R := ⟨_, rfl⟩
        rw [hR] at HIH hvs ⊢
        obtain ⟨rl, v⟩ := R
        have HIH := Lib.hid HIH.out
        dsimp only at HIH hvs ⊢
        obtain ⟨m, hm⟩ : ∃ m, rl.length = m := ⟨_, rfl⟩
        have HRL := Lib.hid hm
        rw [List.length_cons, hm]
        rw [hm] at HIH
        have HPP := Lib.hid (pre_app2 1 v x)
        have HK := Lib.hid hK
        have HC := Lib.hid hcell
        have g3 : (i : Int) < (k : Int) := by omega
        have NS1 : v.size ≤ 400000 := by omega
        have NS2 : x.size ≤ 400000 := by omega
        clear ih hp hA hA' hK hR hm hk hP hP' hvs
        go_enter Tryd.func26, Tryd.ntmps26
        go_wp2_with (first | (go_at_call 31; (with_reducible refine (HLF.out _).mono ?_); rintro e w1 ⟨rfl, rfl⟩) | (go_at_call 26; (with_reducible refine (HIH.out).mono ?_); rintro e w2 ⟨Ar, cr, rfl, sr, lr, mr, nr, b2⟩; have SR := Lib.hid sr; have HK2 := Lib.hid (HK.out.then_ b2); have HB2 := Lib.hid b2; clear sr b2) | (go_at_call 32; (with_reducible refine (node_any _ _ _ NS1 NS2 HK4.out).mono ?_); rintro e w5 ⟨rfl, b5⟩) | (at_builtin; rw [HPP.out]; refine wpList_front_strs rfl _ _ 22 rfl 9 i0 _ Tryd.underlying22 I1.out I2.out I3.out I4.out rfl _ rfl Ar _ cr _ HRL.out rfl SR.out (by omega) ?_; intro A4 c4 w4 s4 l4 m4 b4; have S4 := Lib.hid s4; have HK4 := Lib.hid (HK2.out.then_ b4); have HB4 := Lib.hid b4; clear s4 b4))
        go_ret2
        exact ⟨A4, c4, rfl, S4.out.then_ b5, by omega, m4, l4, below_next (below_next HB2.out HB4.out) b5⟩
      · rw [way_right _ _ _ _ _ (by omega) hik]
        obtain ⟨k, hk⟩ : ∃ k, lft n = k := ⟨_, rfl⟩
        rw [hk] at hk1 hk2 hik HLF ⊢
        obtain ⟨r, hr⟩ : ∃ r, n - k = r := ⟨_, rfl⟩
        obtain ⟨d, hd⟩ : ∃ d, i - k = d := ⟨_, rfl⟩
        rw [hr, hd]
        have e1 : (n : Int) - (k : Int) = (r : Int) := by omega
        have e2 : (i : Int) - (k : Int) = (d : Int) := by omega
        have HIH := Lib.hid (ih r d s (some ⟨b, o, none⟩) c p' w hp' (by omega) (by omega) (by omega) (by omega) hcm hs hP' hA' hK)
        have hvs := way_size p'.reverse r d s
        obtain ⟨R, hR⟩ : ∃ R, wayF r d s p'.reverse = R := ⟨_, rfl⟩
        rw [hR] at HIH hvs ⊢
        obtain ⟨rl, v⟩ := R
        have HIH := Lib.hid HIH.out
        dsimp only at HIH hvs ⊢
        obtain ⟨m, hm⟩ : ∃ m, rl.length = m := ⟨_, rfl⟩
        have HRL := Lib.hid hm
        rw [List.length_cons, hm]
        rw [hm] at HIH
        have HPP := Lib.hid (pre_app2 1 x v)
        have HK := Lib.hid hK
        have HC := Lib.hid hcell
        have g3 : ¬ (i : Int) < (k : Int) := by omega
        have NS1 : v.size ≤ 400000 := by omega
        have NS2 : x.size ≤ 400000 := by omega
        clear ih hp hA hA' hK hR hm hk hr hd hP hP' hvs
        go_enter Tryd.func26, Tryd.ntmps26
        go_wp2_with (first | (go_at_call 31; (with_reducible refine (HLF.out _).mono ?_); rintro e w1 ⟨rfl, rfl⟩) | (go_at_call 26; (with_reducible refine (HIH.out).mono ?_); rintro e w2 ⟨Ar, cr, rfl, sr, lr, mr, nr, b2⟩; have SR := Lib.hid sr; have HK2 := Lib.hid (HK.out.then_ b2); have HB2 := Lib.hid b2; clear sr b2) | (go_at_call 32; (with_reducible refine (node_any _ _ _ NS2 NS1 HK4.out).mono ?_); rintro e w5 ⟨rfl, b5⟩) | (at_builtin; rw [HPP.out]; refine wpList_front_strs rfl _ _ 22 rfl 9 i0 _ Tryd.underlying22 I1.out I2.out I3.out I4.out rfl _ rfl Ar _ cr _ HRL.out rfl SR.out (by omega) ?_; intro A4 c4 w4 s4 l4 m4 b4; have S4 := Lib.hid s4; have HK4 := Lib.hid (HK2.out.then_ b4); have HB4 := Lib.hid b4; clear s4 b4))
        go_ret2
        exact ⟨A4, c4, rfl, S4.out.then_ b5, by omega, m4, l4, below_next (below_next HB2.out HB4.out) b5⟩
end Go.Proofs.YtoipckflokdakaaDoor
