/- The reference's VerifyExtension. -/
import Derived.Test.YtoipckflokdakaaDoorRefVer
namespace Go.Proofs.YtoipckflokdakaaDoor
open Go.RowKit Sha Mk
attribute [local go_sem] Oper.semAt_some
set_option maxRecDepth 100000 in
set_option maxHeartbeats 8000000 in
theorem rvx_bad (old : ByteArray) (m : Int) (rt : ByteArray) (n : Int) (A : Option Addr) (c q : Nat) (r : Bool) (w : World) (_ho : (old.size : Int) ≤ 9223372036854775807) (_hr : (rt.size : Int) ≤ 9223372036854775807) (hD : Calls Tryd.prog 49 #[.slice A q c] w fun e w' => e = .returned (.bool r) ∧ Below w.heap.size w w')
    (hb : ¬ (0 ≤ m ∧ m ≤ n ∧ r = true ∧ old.size = 32 ∧ rt.size = 32)) :
    Calls Tryd.prog 24 #[.string old, .int .i64 m, .string rt, .int .i64 n, .slice A q c] w fun e w' => e = .returned (.bool false) ∧ Below w.heap.size w w' := by
  have HD := Lib.hid hD
  clear hD
  by_cases h1 : m < 0
  · have d1 : decide (m < 0) = true := by simpa using h1
    clear hb
    go_enter Tryd.func24, Tryd.ntmps24
    go_wp2_with (go_at_call 49; (with_reducible refine (HD.out).mono ?_); rintro e w1 ⟨rfl, b1⟩)
    all_goals
      go_ret
      exact ⟨rfl, b1⟩
  · have d1 : decide (m < 0) = false := by simpa using h1
    by_cases h2 : n < m
    · have d2 : decide (n < m) = true := by simpa using h2
      clear hb
      go_enter Tryd.func24, Tryd.ntmps24
      go_wp2_with (go_at_call 49; (with_reducible refine (HD.out).mono ?_); rintro e w1 ⟨rfl, b1⟩)
      all_goals
        go_ret
        exact ⟨rfl, b1⟩
    · have d2 : decide (n < m) = false := by simpa using h2
      cases r with
      | false =>
        clear hb
        go_enter Tryd.func24, Tryd.ntmps24
        go_wp2_with (go_at_call 49; (with_reducible refine (HD.out).mono ?_); rintro e w1 ⟨rfl, b1⟩)
        all_goals
          go_ret
          exact ⟨rfl, b1⟩
      | true =>
        by_cases h3 : old.size = 32
        · have d3 : (old.size : Int) = 32 := by omega
          have h4 : rt.size ≠ 32 := fun e => hb ⟨by omega, by omega, rfl, h3, e⟩
          have d4 : ¬ (rt.size : Int) = 32 := by omega
          have d5 : ((old.size : Int) == 32) = true := by simp; omega
          have d6 : ((rt.size : Int) == 32) = false := by simp; omega
          clear hb
          go_enter Tryd.func24, Tryd.ntmps24
          go_wp2_with (go_at_call 49; (with_reducible refine (HD.out).mono ?_); rintro e w1 ⟨rfl, b1⟩)
          all_goals
            go_ret
            exact ⟨rfl, b1⟩
        · have d3 : ¬ (old.size : Int) = 32 := by omega
          have d5 : ((old.size : Int) == 32) = false := by simp; omega
          clear hb
          go_enter Tryd.func24, Tryd.ntmps24
          go_wp2_with (go_at_call 49; (with_reducible refine (HD.out).mono ?_); rintro e w1 ⟨rfl, b1⟩)
          all_goals
            go_ret
            exact ⟨rfl, b1⟩
set_option maxRecDepth 100000 in
set_option maxHeartbeats 8000000 in
theorem rvext_any (old : ByteArray) (m : Int) (rt : ByteArray) (n : Int) (A : Option Addr) (c q : Nat) (p : List ByteArray) (w : World) (hp : p.length = q) (_hm2 : m ≤ 9223372036854775807) (hn2 : n ≤ 9223372036854775807) (ho : (old.size : Int) ≤ 9223372036854775807) (hr : (rt.size : Int) ≤ 9223372036854775807) (hA : StrsAt w A p) (hq : q ≤ 1000) (hc : q ≤ c) (hcm : c ≤ maxLen) (hsz : ∀ s ∈ p, (s.size : Int) ≤ 9223372036854775807) :
    Calls Tryd.prog 24 #[.string old, .int .i64 m, .string rt, .int .i64 n, .slice A q c] w fun e w' => e = .returned (.bool (verifyXB old m rt n p)) ∧ Below w.heap.size w w' := by
  have hD := rdigests_any A c q p w hp hA (by omega) hsz
  obtain ⟨r, hal⟩ : ∃ r, allB p = r := ⟨_, rfl⟩
  rw [hal] at hD
  by_cases hg : 0 ≤ m ∧ m ≤ n ∧ r = true ∧ old.size = 32 ∧ rt.size = 32
  · obtain ⟨h1, h2, rfl, h3, h4⟩ := hg
    have HD := Lib.hid hD
    obtain ⟨m', rfl⟩ := Int.eq_ofNat_of_zero_le h1
    obtain ⟨n', rfl⟩ := Int.eq_ofNat_of_zero_le (by omega : 0 ≤ n)
    have hmn : m' ≤ n' := by omega
    have hx : verifyXB old m' rt n' p = (if m' = 0 then p.isEmpty && (old.toList == (sumS ⟨#[]⟩).toList) else if m' = n' then p.isEmpty && (old.toList == rt.toList) else
      match bothS old m' n' p.reverse true with
      | some v => (v.1.toList == old.toList) && (v.2.toList == rt.toList)
      | none => false) := by
      rw [verifyXB, hal, h3, h4, Int.toNat_natCast, Int.toNat_natCast]
      have e1 : decide ((0 : Int) ≤ (m' : Int)) = true := by simp
      have e2 : decide ((m' : Int) ≤ (n' : Int)) = true := by simp; omega
      rw [e1, e2]
      simp only [Bool.true_and, Int.natCast_eq_zero, Int.natCast_inj]
      rfl
    obtain ⟨VB, hVB⟩ : ∃ b, verifyXB old m' rt n' p = b := ⟨_, rfl⟩
    rw [hVB] at hx ⊢
    have hpe : p.isEmpty = decide (q = 0) := by rw [← hp]; cases p <;> simp
    rw [hpe] at hx
    have d1 : decide ((m' : Int) < 0) = false := by simp
    have d2 : decide ((n' : Int) < (m' : Int)) = false := by simp; omega
    have d2' : decide (n' < m') = false := by simp; omega
    have d3 : (old.size : Int) = 32 := by omega
    have d4 : (rt.size : Int) = 32 := by omega
    have d5 : ((old.size : Int) == 32) = true := by simp; omega
    have d6 : ((rt.size : Int) == 32) = true := by simp; omega
    by_cases hm0 : m' = 0
    · subst hm0
      rw [if_pos rfl] at hx
      by_cases hq0 : q = 0
      · subst hq0
        obtain ⟨Z, hZ⟩ : ∃ Z, sumS ⟨#[]⟩ = Z := ⟨_, rfl⟩
        have hq2 : (old.toList == Z.toList) = VB := by rw [hx, hZ]; simp
        have HZ := Lib.hid hZ
        clear hx hpe hD hA hsz hp hal hVB hZ
        go_enter Tryd.func24, Tryd.ntmps24
        go_wp2_with (go_at_call 49; (with_reducible refine (HD.out).mono ?_); rintro e w1 ⟨rfl, b1⟩)
        refine (rsum_any _ _ (by decide)).mono ?_
        rintro e w2 ⟨rfl, b2⟩
        rw [HZ.out]
        go_wp2_with fail
        all_goals
          go_ret
          first | exact ⟨ret_bool hq2, below_next b1 b2⟩ | exact ⟨rfl, below_next b1 b2⟩
      · have hvf : VB = false := by rw [hx]; simp [hq0]
        subst hvf
        have g1 : ¬ (q : Int) = 0 := by omega
        have g2 : ((q : Int) == 0) = false := by simp; omega
        clear hx hpe hD hA hsz hp hal hVB
        go_enter Tryd.func24, Tryd.ntmps24
        go_wp2_with (go_at_call 49; (with_reducible refine (HD.out).mono ?_); rintro e w1 ⟨rfl, b1⟩)
        all_goals
          go_ret
          exact ⟨rfl, b1⟩
    · rw [if_neg hm0] at hx
      have g0 : ¬ (m' : Int) = 0 := by omega
      have g0' : ((m' : Int) == 0) = false := by simp; omega
      by_cases hme : m' = n'
      · subst hme
        rw [if_pos rfl] at hx
        by_cases hq0 : q = 0
        · subst hq0
          have hq2 : (old.toList == rt.toList) = VB := by rw [hx]; simp
          clear hx hpe hD hA hsz hp hal hVB
          go_enter Tryd.func24, Tryd.ntmps24
          go_wp2_with (go_at_call 49; (with_reducible refine (HD.out).mono ?_); rintro e w1 ⟨rfl, b1⟩)
          all_goals
            go_ret
            first | exact ⟨ret_bool hq2, b1⟩ | exact ⟨rfl, b1⟩
        · have hvf : VB = false := by rw [hx]; simp [hq0]
          subst hvf
          have g1 : ¬ (q : Int) = 0 := by omega
          have g2 : ((q : Int) == 0) = false := by simp; omega
          clear hx hpe hD hA hsz hp hal hVB
          go_enter Tryd.func24, Tryd.ntmps24
          go_wp2_with (go_at_call 49; (with_reducible refine (HD.out).mono ?_); rintro e w1 ⟨rfl, b1⟩)
          all_goals
            go_ret
            exact ⟨rfl, b1⟩
      · rw [if_neg hme] at hx
        have g1 : ¬ (m' : Int) = (n' : Int) := by omega
        have g1' : ((m' : Int) == (n' : Int)) = false := by simp; omega
        have HBT := Lib.hid (fun (W : World) hA => rboth_any old h3 q m' n' true A c p W hp (by omega) hmn hn2 hq hc hcm (all_sizes hal) hA)
        have HA := Lib.hid hA
        have HX := Lib.hid hx
        clear hx hpe hD hA hsz hp hal hVB
        go_enter Tryd.func24, Tryd.ntmps24
        go_wp2_with (go_at_call 49; (with_reducible refine (HD.out).mono ?_); rintro e w1 ⟨rfl, b1⟩)
        refine (HBT.out _ (HA.out.then_ b1)).mono ?_
        rintro e w2 ⟨a, b, ok, rfl, _, _, hvv, b2⟩
        have hx := HX.out
        rw [hvv] at hx
        clear hvv
        cases ok with
        | false =>
          have hvf : VB = false := hx
          subst hvf
          clear hx HX
          go_wp2_with fail
          all_goals
            go_ret
            exact ⟨rfl, below_next b1 b2⟩
        | true =>
          have hx2 : VB = ((a.toList == old.toList) && (b.toList == rt.toList)) := hx
          clear hx HX
          cases hab : (a.toList == old.toList) with
          | false =>
            rw [hab, Bool.false_and] at hx2
            subst hx2
            go_wp2_with fail
            all_goals
              go_ret
              exact ⟨rfl, below_next b1 b2⟩
          | true =>
            rw [hab, Bool.true_and] at hx2
            have hq2 : (b.toList == rt.toList) = VB := hx2.symm
            clear hx2
            go_wp2_with fail
            all_goals
              go_ret
              first | exact ⟨ret_bool hq2, below_next b1 b2⟩ | exact ⟨rfl, below_next b1 b2⟩
  · have hres : verifyXB old m rt n p = false := by
      rw [verifyXB, hal, Bool.eq_false_iff]
      intro e
      simp only [Bool.and_eq_true, decide_eq_true_eq, beq_iff_eq] at e
      exact hg ⟨e.1.1.1.1.1, e.1.1.1.1.2, e.1.1.1.2, by have := e.1.1.2; omega, by have := e.1.2; omega⟩
    rw [hres]
    exact rvx_bad old m rt n A c q r w ho hr hD hg
end Go.Proofs.YtoipckflokdakaaDoor
