/- The reference's value, both, Verify, VerifyExtension. -/
import Derived.Test.YtoipckflokdakaaDoorRefTree
import Derived.Test.YtoipckflokdakaaDoorDigVext
import Derived.Test.YtoipckflokdakaaDoorStrsApp
namespace Go.Proofs.YtoipckflokdakaaDoor
open Go.RowKit Sha Mk
attribute [local go_sem] Oper.semAt_some
set_option maxRecDepth 100000 in
set_option maxHeartbeats 8000000 in
theorem rvalue_any : ∀ (q n i : Nat) (s : ByteArray) (A : Option Addr) (c : Nat) (p : List ByteArray) (w : World), p.length = q → (1 ≤ n ∧ (n : Int) ≤ 9223372036854775807) → (i : Int) ≤ 9223372036854775807 → q ≤ 1000 → q ≤ c → c ≤ maxLen → s.size ≤ 60 → (∀ x ∈ p, x.size = 32) → StrsAt w A p →
    Calls Tryd.prog 50 #[.int .i64 (n : Int), .int .i64 (i : Int), .string s, .slice A q c] w fun e w' => ∃ v ok, e = .returned (.tuple #[.string v, .bool ok]) ∧ v.size ≤ 32 ∧ valueS n i s p.reverse = (if ok then some v else none) ∧ Below w.heap.size w w' := by
  intro q
  induction q with
  | zero =>
    intro n i s A c p w hp hn hi hq _ _ hs _ _
    have hp0 : p = [] := List.eq_nil_of_length_eq_zero hp
    subst hp0
    by_cases h1 : n = 1
    · subst h1
      have HV : Hid (valueS 1 i s ([] : List ByteArray).reverse = some (leafS s)) := by show _ = _; rw [List.reverse_nil, value_one]; rfl
      go_enter Tryd.func50, Tryd.ntmps50
      go_wp2_with (go_at_call 34; (with_reducible refine (rleaf_any _ _ (by omega)).mono ?_); rintro e w2 ⟨rfl, b2⟩)
      go_ret2
      exact ⟨_, true, rfl, by rw [leafS_size]; omega, by rw [HV.out]; rfl, b2⟩
    · have HV : Hid (valueS n i s ([] : List ByteArray).reverse = none) := value_nil n i s (by omega)
      have g1 : ¬ (n : Int) = 1 := by omega
      go_enter Tryd.func50, Tryd.ntmps50
      go_wp2_with fail
      go_ret2
      exact ⟨_, false, rfl, by decide, by rw [HV.out]; rfl, Below.refl _ _⟩
  | succ q ih =>
    intro n i s A c p w hp hn hi hq hc hcm hs hP hA
    obtain ⟨b, o, x, p', rfl, rfl, hp', hcell, hA'⟩ := strs_last hA hp
    have hx : x.size = 32 := hP x (by simp)
    have hP' : ∀ y ∈ p', y.size = 32 := fun y hy => hP y (by simp [hy])
    rw [List.reverse_append, List.reverse_singleton, List.singleton_append]
    have i1 : (q : Int) ≤ (c : Int) := by omega
    have i2 : (0 : Int) ≤ (q : Int) := by omega
    by_cases h1 : n = 1
    · subst h1
      have HV : Hid (valueS 1 i s (x :: p'.reverse) = none) := by show _ = _; rw [value_one]; rfl
      have g2 : ¬ ((q : Int) < 0) := by omega
      clear ih hp hA hA' hcell
      go_enter Tryd.func50, Tryd.ntmps50
      go_wp2_with (go_at_call 34; (with_reducible refine (rleaf_any _ _ (by omega)).mono ?_); rintro e w2 ⟨rfl, b2⟩)
      go_ret2
      exact ⟨_, false, rfl, by rw [leafS_size]; omega, by rw [HV.out]; rfl, b2⟩
    · have hv := value_cons n i s x p'.reverse (by omega)
      have hk1 := lft_lt (n := n) (by omega)
      have hk2 := lft_pos (n := n)
      have HLF := Lib.hid (fun w => rleft_any n w (by omega) (by omega))
      have g1 : ¬ (n : Int) = 1 := by omega
      have g2 : ¬ ((q : Int) < 0) := by omega
      obtain ⟨k, hk⟩ : ∃ k, lft n = k := ⟨_, rfl⟩
      rw [hk] at hk1 hk2 HLF hv
      by_cases hik : i < k
      · rw [if_pos hik] at hv
        have HIH := Lib.hid (ih k i s (some ⟨b, o, none⟩) c p' w hp' (by omega) (by omega) (by omega) (by omega) hcm hs hP' hA')
        have HC := Lib.hid hcell
        have HV := Lib.hid hv
        have g3 : (i : Int) < (k : Int) := by omega
        have NS2 : x.size ≤ 40000 := by omega
        clear ih hp hA hA' hk hP hP' hv
        go_enter Tryd.func50, Tryd.ntmps50
        go_wp2_with (first | (go_at_call 42; (with_reducible refine (HLF.out _).mono ?_); rintro e w1 ⟨rfl, rfl⟩) | (go_at_call 50; (with_reducible refine (HIH.out).mono ?_); rintro e w2 ⟨v, ok, rfl, hvs, hvv, b2⟩; have HC2 := cell_then b2 HC.out; have NS1 : v.size ≤ 40000 := by omega) | (go_at_call 35; (with_reducible refine (rnode_any _ _ _ NS1 NS2).mono ?_); rintro e w5 ⟨rfl, b5⟩))
        go_ret2
        refine ⟨_, ok, rfl, by rw [nodeS_size]; omega, ?_, below_next b2 b5⟩
        rw [HV.out, hvv]
        cases ok <;> rfl
      · rw [if_neg hik] at hv
        obtain ⟨r, hr⟩ : ∃ r, n - k = r := ⟨_, rfl⟩
        obtain ⟨d, hd⟩ : ∃ d, i - k = d := ⟨_, rfl⟩
        rw [hr, hd] at hv
        have e1 : (n : Int) - (k : Int) = (r : Int) := by omega
        have e2 : (i : Int) - (k : Int) = (d : Int) := by omega
        have HIH := Lib.hid (ih r d s (some ⟨b, o, none⟩) c p' w hp' (by omega) (by omega) (by omega) (by omega) hcm hs hP' hA')
        have HC := Lib.hid hcell
        have HV := Lib.hid hv
        have g3 : ¬ (i : Int) < (k : Int) := by omega
        have NS2 : x.size ≤ 40000 := by omega
        clear ih hp hA hA' hk hP hP' hv hr hd
        go_enter Tryd.func50, Tryd.ntmps50
        go_wp2_with (first | (go_at_call 42; (with_reducible refine (HLF.out _).mono ?_); rintro e w1 ⟨rfl, rfl⟩) | (go_at_call 50; (with_reducible refine (HIH.out).mono ?_); rintro e w2 ⟨v, ok, rfl, hvs, hvv, b2⟩; have HC2 := cell_then b2 HC.out; have NS1 : v.size ≤ 40000 := by omega) | (go_at_call 35; (with_reducible refine (rnode_any _ _ _ NS2 NS1).mono ?_); rintro e w5 ⟨rfl, b5⟩))
        go_ret2
        refine ⟨_, ok, rfl, by rw [nodeS_size]; omega, ?_, below_next b2 b5⟩
        rw [HV.out, hvv]
        cases ok <;> rfl
end Go.Proofs.YtoipckflokdakaaDoor
