/- The reference's both, Verify, VerifyExtension. -/
import Derived.Test.YtoipckflokdakaaDoorRefVal
import Derived.Test.YtoipckflokdakaaDoorLw02Xbind
namespace Go.Proofs.YtoipckflokdakaaDoor
open Go.RowKit Sha Mk
attribute [local go_sem] Oper.semAt_some
/-- what both returns -/
def BothQ (V : Option (ByteArray × ByteArray)) (w : World) (e : Ending) (w' : World) : Prop := ∃ a b ok, e = .returned (.tuple #[.string a, .string b, .bool ok]) ∧ a.size ≤ 32 ∧ b.size ≤ 32 ∧ V = (if ok then some (a, b) else none) ∧ Below w.heap.size w w'
set_option maxRecDepth 100000 in
set_option maxHeartbeats 8000000 in
theorem rboth_base (old : ByteArray) (ho : old.size = 32) (q m : Nat) (bo : Bool) (A : Option Addr) (c : Nat) (p : List ByteArray) (w : World) (hp : p.length = q) (_hm : (m : Int) ≤ 9223372036854775807) (hq : q ≤ 1000) (hP : ∀ x ∈ p, x.size = 32) (hA : StrsAt w A p) :
    Calls Tryd.prog 52 #[.string old, .int .i64 (m : Int), .int .i64 (m : Int), .slice A q c, .bool bo] w (BothQ (bothS old m m p.reverse bo) w) := by
  have hv := both_all old m m p.reverse bo (Nat.le_refl _)
  cases bo with
  | true =>
    rw [if_pos rfl] at hv
    by_cases h0 : q = 0
    · subst h0
      have hp0 : p = [] := List.eq_nil_of_length_eq_zero hp
      subst hp0
      have HV := Lib.hid hv
      clear hv hA hP hp
      go_enter Tryd.func52, Tryd.ntmps52
      go_wp2_with fail
      go_ret3
      exact ⟨_, _, true, rfl, by omega, by omega, by rw [HV.out]; rfl, Below.refl _ _⟩
    · have hpn : p.reverse ≠ [] := fun e => h0 (by have := congrArg List.length e; simp at this; rw [this] at hp; simpa using hp.symm)
      rw [if_neg hpn] at hv
      have HV := Lib.hid hv
      have g1 : ¬ ((q : Int) - 1 < 0) := by omega
      have g2 : ¬ ((q : Int) < 1) := by omega
      have g3 : (1 : Int) ≤ (q : Int) := by omega
      clear hv hA hP hp hpn
      go_enter Tryd.func52, Tryd.ntmps52
      go_wp2_with fail
      go_ret3
      exact ⟨_, _, false, rfl, by omega, by omega, by rw [HV.out]; rfl, Below.refl _ _⟩
  | false =>
    rw [if_neg (by decide)] at hv
    by_cases h1 : q = 1
    · subst h1
      obtain ⟨x, rfl⟩ : ∃ x, p = [x] := by
        match p, hp with
        | [x], _ => exact ⟨x, rfl⟩
      obtain ⟨b, o, rfl, hc0⟩ := hA 0 (by simp)
      have hx := hP x (by simp)
      have hcell : w.cell? ⟨b, o, none⟩ = some (.string x) := hc0
      have HV : Hid (bothS old m m ([x] : List ByteArray).reverse false = some (x, x)) := hv
      have HC := Lib.hid hcell
      clear hv hA hP hp hc0 hcell
      go_enter Tryd.func52, Tryd.ntmps52
      go_wp2_with fail
      have g_c := fun D os => cell_regrown HC.out D os
      refine wp_region_quiet_below (by kernel_rfl) (by kernel_rfl) ?_
      repeat (go_big_quiet_step (fail))
      refine wpQuiet_nil ?_
      intro wq hq0
      have hq := below_of_class hq0
      clear hq0
      clear g_c
      go_wp2_with fail
      go_ret3
      exact ⟨_, _, true, rfl, by omega, by omega, by rw [HV.out]; rfl, hq⟩
    · have HV : Hid (bothS old m m p.reverse false = none) := by
        show _ = _
        rw [hv]
        match h : p.reverse with
        | [] => rfl
        | [x] => exact absurd (by have := congrArg List.length h; rw [List.length_reverse, hp] at this; exact this) h1
        | x :: y :: t => rfl
      have g1 : ¬ ((q : Int) - 1 = 0) := by omega
      have g2 : ¬ ((q : Int) = 1) := by omega
      clear hv hA hP hp
      go_enter Tryd.func52, Tryd.ntmps52
      go_wp2_with fail
      go_ret3
      exact ⟨_, _, false, rfl, by decide, by decide, by rw [HV.out]; rfl, Below.refl _ _⟩
set_option maxRecDepth 100000 in
set_option maxHeartbeats 8000000 in
theorem rboth_any (old : ByteArray) (ho : old.size = 32) : ∀ (q m n : Nat) (bo : Bool) (A : Option Addr) (c : Nat) (p : List ByteArray) (w : World), p.length = q → 1 ≤ m → m ≤ n → (n : Int) ≤ 9223372036854775807 → q ≤ 1000 → q ≤ c → c ≤ maxLen → (∀ x ∈ p, x.size = 32) → StrsAt w A p →
    Calls Tryd.prog 52 #[.string old, .int .i64 (m : Int), .int .i64 (n : Int), .slice A q c, .bool bo] w (BothQ (bothS old m n p.reverse bo) w) := by
  intro q
  induction q with
  | zero =>
    intro m n bo A c p w hp hm1 hm hn hq hc hcm hP hA
    by_cases h1 : m = n
    · subst h1
      exact rboth_base old ho 0 m bo A c p w hp hn hq hP hA
    · have hp0 : p = [] := List.eq_nil_of_length_eq_zero hp
      subst hp0
      have HV : Hid (bothS old m n ([] : List ByteArray).reverse bo = none) := both_nil old m n bo (by omega)
      have g1 : ¬ (m : Int) = (n : Int) := by omega
      clear hA hP hp
      go_enter Tryd.func52, Tryd.ntmps52
      go_wp2_with fail
      go_ret3
      exact ⟨_, _, false, rfl, by decide, by decide, by rw [HV.out]; rfl, Below.refl _ _⟩
  | succ q ih =>
    intro m n bo A c p w hp hm1 hm hn hq hc hcm hP hA
    by_cases h1 : m = n
    · subst h1
      exact rboth_base old ho (q + 1) m bo A c p w hp hn hq hP hA
    · obtain ⟨b, o, x, p', rfl, rfl, hp', hcell, hA'⟩ := strs_last hA hp
      have hx : x.size = 32 := hP x (by simp)
      have hP' : ∀ y ∈ p', y.size = 32 := fun y hy => hP y (by simp [hy])
      rw [List.reverse_append, List.reverse_singleton, List.singleton_append]
      have i1 : (q : Int) ≤ (c : Int) := by omega
      have i2 : (0 : Int) ≤ (q : Int) := by omega
      have hv := both_cons old m n x p'.reverse bo (by omega)
      have hk1 := lft_lt (n := n) (by omega)
      have hk2 := lft_pos (n := n)
      have HLF := Lib.hid (fun w => rleft_any n w (by omega) (by omega))
      have g1 : ¬ (m : Int) = (n : Int) := by omega
      have g2 : ¬ ((q : Int) < 0) := by omega
      obtain ⟨k, hk⟩ : ∃ k, lft n = k := ⟨_, rfl⟩
      rw [hk] at hk1 hk2 HLF hv
      by_cases hik : m ≤ k
      · rw [if_pos hik] at hv
        have HIH := Lib.hid (ih m k bo (some ⟨b, o, none⟩) c p' w hp' hm1 hik (by omega) (by omega) (by omega) hcm hP' hA')
        have HC := Lib.hid hcell
        have HV := Lib.hid hv
        have g3 : (m : Int) ≤ (k : Int) := by omega
        have NS2 : x.size ≤ 40000 := by omega
        clear ih hp hA hA' hk hP hP' hv hcell
        go_enter Tryd.func52, Tryd.ntmps52
        go_wp2_with (first | (go_at_call 42; (with_reducible refine (HLF.out _).mono ?_); rintro e w1 ⟨rfl, rfl⟩) | (go_at_call 52; (with_reducible refine (HIH.out).mono ?_); rintro e w2 ⟨a, b2v, ok, rfl, hvs, hvs2, hvv, b2⟩; have HVV := Lib.hid hvv; have HC2 := cell_then b2 HC.out; have NS1 : b2v.size ≤ 40000 := by omega) | (go_at_call 35; (with_reducible refine (rnode_any b2v x _ NS1 NS2).mono ?_); rintro e w5 ⟨rfl, b5⟩))
        go_ret3
        refine ⟨_, _, ok, rfl, by omega, by rw [nodeS_size]; omega, ?_, below_next b2 b5⟩
        rw [HV.out, HVV.out]
        cases ok <;> rfl
      · rw [if_neg hik] at hv
        obtain ⟨r, hr⟩ : ∃ r, n - k = r := ⟨_, rfl⟩
        obtain ⟨d, hd⟩ : ∃ d, m - k = d := ⟨_, rfl⟩
        rw [hr, hd] at hv
        have e1 : (n : Int) - (k : Int) = (r : Int) := by omega
        have e2 : (m : Int) - (k : Int) = (d : Int) := by omega
        have HIH := Lib.hid (ih d r false (some ⟨b, o, none⟩) c p' w hp' (by omega) (by omega) (by omega) (by omega) (by omega) hcm hP' hA')
        have HC := Lib.hid hcell
        have HV := Lib.hid hv
        have g3 : ¬ (m : Int) ≤ (k : Int) := by omega
        have NS2 : x.size ≤ 40000 := by omega
        clear ih hp hA hA' hk hP hP' hv hcell hr hd
        go_enter Tryd.func52, Tryd.ntmps52
        go_wp2_with (go_at_call 42; (with_reducible refine (HLF.out _).mono ?_); rintro e w1 ⟨rfl, rfl⟩)
        refine (HIH.out).mono ?_
        rintro e w2 ⟨a, b2v, ok, rfl, hvs, hvs2, hvv, b2⟩
        have HVV := Lib.hid hvv
        have HB2 := Lib.hid b2
        have HC2 := Lib.hid (cell_then b2 HC.out)
        have NS1 : b2v.size ≤ 40000 := by omega
        have NS3 : a.size ≤ 40000 := by omega
        clear hvv b2
        go_wp2_with fail
        have RN := Lib.hid (fun (d : Nat) (os : Array Obj) => rnode_any x b2v (Sort.grow (redrawn w2 d) os) NS2 NS1)
        have RM := Lib.hid (fun (d : Nat) (os : Array Obj) => rnode_any x a (Sort.grow (redrawn w2 d) os) NS2 NS3)
        have g_c := fun D os => cell_regrown HC2.out D os
        refine wp_region_quiet_below (by kernel_rfl) (by kernel_rfl) ?_
        repeat (go_big_quiet_step (first | (with_reducible exact Calls.regrown_of (RN.out _ _)) | (with_reducible exact Calls.regrown_of (RM.out _ _))))
        refine wpQuiet_nil ?_
        intro wq hq0
        have hq := below_of_class hq0
        clear hq0
        clear g_c
        go_wp2_with fail
        go_ret3
        refine ⟨_, _, ok, rfl, by rw [nodeS_size]; omega, by rw [nodeS_size]; omega, ?_, below_next HB2.out hq⟩
        rw [HV.out, HVV.out]
        cases ok <;> rfl
theorem bool_cases (a b : Bool) (h : a = true ↔ b = true) : a = b := by cases a <;> cases b <;> simp_all
set_option maxRecDepth 100000 in
set_option maxHeartbeats 8000000 in
theorem rverify_any (rt : ByteArray) (n i : Int) (s : ByteArray) (A : Option Addr) (c q : Nat) (p : List ByteArray) (w : World) (hp : p.length = q) (hn2 : n ≤ 9223372036854775807) (hi2 : i ≤ 9223372036854775807) (hs : s.size ≤ 60) (hA : StrsAt w A p) (hq : q ≤ 1000) (hc : q ≤ c) (hcm : c ≤ maxLen) (hsz : ∀ s ∈ p, (s.size : Int) ≤ 9223372036854775807) :
    Calls Tryd.prog 22 #[.string rt, .int .i64 n, .int .i64 i, .string s, .slice A q c] w fun e w' => e = .returned (.bool (verifyB rt n i s p)) ∧ Below w.heap.size w w' := by
  have HD := Lib.hid (rdigests_any A c q p w hp hA (by omega) hsz)
  obtain ⟨r, hr⟩ : ∃ r, allB p = r := ⟨_, rfl⟩
  rw [hr] at HD
  by_cases h : 0 ≤ i ∧ i < n ∧ r = true
  · obtain ⟨h1, h2, rfl⟩ := h
    obtain ⟨i', rfl⟩ := Int.eq_ofNat_of_zero_le h1
    obtain ⟨n', rfl⟩ := Int.eq_ofNat_of_zero_le (by omega : 0 ≤ n)
    have HVL := Lib.hid (fun (W : World) hA => rvalue_any q n' i' s A c p W hp ⟨by omega, by omega⟩ (by omega) hq hc hcm hs (all_sizes hr) hA)
    have HA := Lib.hid hA
    have hres : ∀ v ok, valueS n' i' s p.reverse = (if ok then some v else none) → verifyB rt n' i' s p = (ok && (v.toList == rt.toList)) := fun v ok hv => by
      rw [verifyB, hr, Int.toNat_natCast, Int.toNat_natCast, hv]
      cases ok
      · simp
      · rw [if_pos rfl, ← str_beq]
        simp
        omega
    have HRES := Lib.hid hres
    have g1 : decide ((i' : Int) < 0) = false := by simp
    have g2 : decide ((n' : Int) ≤ (i' : Int)) = false := by simp; omega
    have g3 : decide (n' ≤ i') = false := by simp; omega
    obtain ⟨VB, hVB⟩ : ∃ b, verifyB rt n' i' s p = b := ⟨_, rfl⟩
    rw [hVB] at HRES ⊢
    clear hA hsz hp hr hres hVB
    go_enter Tryd.func22, Tryd.ntmps22
    go_wp2_with (go_at_call 49; (with_reducible refine (HD.out).mono ?_); rintro e w1 ⟨rfl, b1⟩)
    refine (HVL.out _ (HA.out.then_ b1)).mono ?_
    rintro e w2 ⟨v, ok, rfl, hvs, hvv, b2⟩
    have HQ := Lib.hid (HRES.out v ok hvv)
    clear hvv
    cases ok with
    | false =>
      have hq := HQ.out
      simp only [Bool.false_and] at hq
      subst hq
      go_wp2_with fail
      all_goals
        go_ret
        exact ⟨rfl, below_next b1 b2⟩
    | true =>
      have hq := HQ.out
      simp only [Bool.true_and] at hq
      have hq2 : (v.toList == rt.toList) = VB := hq.symm
      clear hq HQ
      go_wp2_with fail
      all_goals
        go_ret
        first | exact ⟨ret_bool hq2, below_next b1 b2⟩ | exact ⟨rfl, below_next b1 b2⟩
  · have hres : verifyB rt n i s p = false := by
      rw [verifyB, hr, Bool.eq_false_iff]
      intro e
      simp only [Bool.and_eq_true, decide_eq_true_eq] at e
      exact h ⟨e.1.1.1, e.1.1.2, e.1.2⟩
    rw [hres]
    clear hA hsz hp hr hres
    by_cases h1 : i < 0
    · have hd : decide (i < 0) = true := by simpa using h1
      clear h
      go_enter Tryd.func22, Tryd.ntmps22
      go_wp2_with (go_at_call 49; (with_reducible refine (HD.out).mono ?_); rintro e w1 ⟨rfl, b1⟩)
      go_ret
      exact ⟨rfl, b1⟩
    · have hd : decide (i < 0) = false := by simpa using h1
      by_cases h2 : n ≤ i
      · have hd2 : decide (n ≤ i) = true := by simpa using h2
        clear h
        go_enter Tryd.func22, Tryd.ntmps22
        go_wp2_with (go_at_call 49; (with_reducible refine (HD.out).mono ?_); rintro e w1 ⟨rfl, b1⟩)
        go_ret
        exact ⟨rfl, b1⟩
      · have hd2 : decide (n ≤ i) = false := by simpa using h2
        have hrf : r = false := by
          cases r with
          | false => rfl
          | true => exact absurd ⟨by omega, by omega, rfl⟩ h
        subst hrf
        clear h
        go_enter Tryd.func22, Tryd.ntmps22
        go_wp2_with (go_at_call 49; (with_reducible refine (HD.out).mono ?_); rintro e w1 ⟨rfl, b1⟩)
        go_ret
        exact ⟨rfl, b1⟩
end Go.Proofs.YtoipckflokdakaaDoor
