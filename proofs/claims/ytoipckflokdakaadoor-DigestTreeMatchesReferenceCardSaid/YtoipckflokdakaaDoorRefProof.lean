/- The reference's Proof. -/
import Derived.Test.YtoipckflokdakaaDoorRefTree
import Derived.Test.YtoipckflokdakaaDoorDigProof
namespace Go.Proofs.YtoipckflokdakaaDoor
open Go.RowKit Sha Mk
attribute [local go_sem] Oper.semAt_some
theorem rproof_no (A : Option Addr) (cap n : Nat) (i : Int) (w : World) (_hl : (n : Int) ≤ 9223372036854775807) (hi : i < 0 ∨ (n : Int) ≤ i) :
    Calls Tryd.prog 15 #[.slice A n cap, .int .i64 i] w fun e w' => e = .returned (.tuple #[.slice none 0 0, .int .i64 2]) ∧ w = w' := by
  by_cases h : i < 0
  · have hd : decide (i < 0) = true := by simpa using h
    go_enter Tryd.func15, Tryd.ntmps15
    go_wp2_with fail
    go_ret2
    exact ⟨rfl, rfl⟩
  · have h2 : (n : Int) ≤ i := by omega
    have hd : decide (i < 0) = false := by simpa using h
    have hd2 : decide ((n : Int) ≤ i) = true := by simpa using h2
    clear hi h h2
    go_enter Tryd.func15, Tryd.ntmps15
    go_wp2_with fail
    go_ret2
    exact ⟨rfl, rfl⟩
set_option maxRecDepth 100000 in
set_option maxHeartbeats 8000000 in
theorem rproof_yes : ∀ (f n : Nat) (A : Option Addr) (c : Nat) (l : List ByteArray) (i : Nat) (w : World), n ≤ f → l.length = n → n ≤ c → c ≤ maxLen → n ≤ 900 → i < n → StrsAt w A l → (∀ s ∈ l, s.size ≤ 40000) →
    Calls Tryd.prog 15 #[.slice A n c, .int .i64 (i : Int)] w fun e w' => ∃ v, e = .returned (.tuple #[v, .int .i64 0]) ∧ w'.ownsRow w.heap.size 9 1 v (proofS l i).length (svs (proofS l i)) ∧ Below w.heap.size w w' := by
  obtain ⟨i0, hi0, hz0, hz1, hz2⟩ := info_parts str_info1
  have I1 := Lib.hid hi0
  have I2 := Lib.hid hz0
  have I3 := Lib.hid hz1
  have I4 := Lib.hid hz2
  clear hi0 hz0 hz1 hz2
  intro f
  induction f with
  | zero => intro n A c l i w hf hn hc hcm hn2 hi hA hs; omega
  | succ f ih =>
    intro n A c l i w hf hn hc hcm hn2 hi hA hs
    by_cases h0 : n ≤ f
    · exact ih n A c l i w h0 hn hc hcm hn2 hi hA hs
    obtain rfl : n = f + 1 := by omega
    by_cases h1 : f = 0
    · subst h1
      obtain rfl : i = 0 := by omega
      have hp : proofS l 0 = [] := proof_one _ _ _ _ _ (by omega)
      have HP := Lib.hid hp
      clear hp hA hs ih
      go_enter Tryd.func15, Tryd.ntmps15
      go_wp2_with fail
      go_ret2
      exact ⟨_, rfl, by rw [HP.out]; exact World.ownsRow_nil _ _ _ _, Below.refl _ _⟩
    · have hspl := proof_split leafS nodeS (sumS ⟨#[]⟩) l i (by omega)
      rw [hn] at hspl
      have hk1 := lft_lt (n := f + 1) (by omega)
      have hk2 := lft_pos (n := f + 1)
      have HLF := Lib.hid (fun w => rleft_any (f + 1) w (by omega) (by omega))
      obtain ⟨k, hk⟩ : ∃ k, lft (f + 1) = k := ⟨_, rfl⟩
      rw [hk] at hspl hk1 hk2 HLF
      obtain ⟨b, o, rfl, _⟩ := hA 0 (by omega)
      have g1 : (k : Int) ≤ (c : Int) := by omega
      have g2 : (0 : Int) ≤ (k : Int) := by omega
      have g4 : (k : Int) ≤ (f : Int) + 1 := by omega
      have g5 : ¬ ((f : Int) + 1 = 1) := by omega
      have g6 : ¬ (f : Int) = 0 := by omega
      have g7 : (i : Int) < (f : Int) + 1 := by omega
      have hck : ¬ c = k := by omega
      have HLF' : Hid (∀ w, Calls Tryd.prog 42 #[.int .i64 ((f : Int) + 1)] w fun e w' => e = .returned (.int .i64 (k : Int)) ∧ w = w') := HLF
      clear HLF hk
      by_cases hik : i < k
      · skip
        have hpe : proofS l i = proofS (l.take k) i ++ [rootS (l.drop k)] := by
          have := hspl
          rw [if_pos hik] at this
          exact this
        rw [hpe]
        have HIH := Lib.hid (ih k (some ⟨b, o, none⟩) c (l.take k) i w (by omega) (by rw [List.length_take]; omega) (by omega) (by omega) (by omega) (by omega) (hA.take k) (fun s h => hs s (List.mem_of_mem_take h)))
        have HT := Lib.hid (fun (W : World) h => rroot_any (f + 1 - k) (f + 1 - k) (some ⟨b, o + k, none⟩) (c - k) (l.drop k) W (Nat.le_refl _) (by rw [List.length_drop]; omega) (by omega) (by omega) (by omega) h (fun s h => hs s (List.mem_of_mem_drop h)))
        have HST := Lib.hid (hA.drop k)
        have hpl := proof_length_lt leafS nodeS (sumS ⟨#[]⟩) (l.take k) i
        have hpl2 : (proofS (l.take k) i).length ≤ 1000 := Nat.le_trans hpl (by rw [List.length_take]; omega)
        obtain ⟨Pf, hPf⟩ : ∃ P, proofS (l.take k) i = P := ⟨_, rfl⟩
        rw [hPf] at HIH hpl2 ⊢
        obtain ⟨Rt, hRt⟩ : ∃ R, rootS (l.drop k) = R := ⟨_, rfl⟩
        rw [hRt] at HT ⊢
        obtain ⟨np, hnp⟩ : ∃ n, Pf.length = n := ⟨_, rfl⟩
        have HPL : Hid ((Pf ++ [Rt]).length = np + 1) := by show _ = _; rw [List.length_append, hnp]; rfl
        rw [HPL.out]
        rw [hnp] at HIH hpl2
        have g3 : (i : Int) < (k : Int) := by omega
        clear ih hA hs hspl hpe hpl hPf hRt hn hnp
        go_enter Tryd.func15, Tryd.ntmps15
        go_wp2_with (first | (go_at_call 42; (with_reducible refine (HLF'.out _).mono ?_); rintro e w9 ⟨rfl, rfl⟩) | (go_at_call 15; (with_reducible refine (HIH.out).mono ?_); rintro e w2 ⟨v2, rfl, o2, b2⟩; have HO2 := Lib.hid o2; have HST2 := Lib.hid (HST.out.then_ b2); have HB2 := Lib.hid b2; clear o2 b2) | (go_at_call 20; (with_reducible refine (HT.out _ HST2.out).mono ?_); rintro e w3 ⟨rfl, b3⟩; have HO3 := Lib.hid (own_then HO2.out b3); have HB3 := Lib.hid (below_next HB2.out b3); have hb3 := HB3.out.size; clear b3) | (at_builtin; refine wpList_append1 rfl _ _ 22 rfl w.heap.size 9 i0 _ 1 16 Tryd.underlying22 I1.out I2.out I3.out I4.out rfl (by omega) (by omega) v2 np _ rfl HO3.out #[.string Rt] rfl rfl (by simp [Value.oneCell']) (by omega) (by omega) ?_; intro g4 c4 w4 o4 k4 h4; have HO4 := Lib.hid o4; have HB4 := Lib.hid (k4.below_next HB3.out hb3 (fun q hq => (HO3.out.lt q (own_mem hq)).1)); clear o4 k4 h4))
        go_ret2
        exact ⟨_, rfl, by rw [svs_append]; exact HO4.out, HB4.out⟩
      · skip
        obtain ⟨d, hd⟩ : ∃ d, i - k = d := ⟨_, rfl⟩
        have e2 : (i : Int) - (k : Int) = (d : Int) := by omega
        have hpe : proofS l i = proofS (l.drop k) d ++ [rootS (l.take k)] := by
          have := hspl
          rw [if_neg hik, hd] at this
          exact this
        rw [hpe]
        have HIH := Lib.hid (ih (f + 1 - k) (some ⟨b, o + k, none⟩) (c - k) (l.drop k) d w (by omega) (by rw [List.length_drop]; omega) (by omega) (by omega) (by omega) (by omega) (hA.drop k) (fun s h => hs s (List.mem_of_mem_drop h)))
        have HT := Lib.hid (fun (W : World) h => rroot_any k k (some ⟨b, o, none⟩) c (l.take k) W (Nat.le_refl _) (by rw [List.length_take]; omega) (by omega) (by omega) (by omega) h (fun s h => hs s (List.mem_of_mem_take h)))
        have HST := Lib.hid (hA.take k)
        have hpl := proof_length_lt leafS nodeS (sumS ⟨#[]⟩) (l.drop k) d
        have hpl2 : (proofS (l.drop k) d).length ≤ 1000 := Nat.le_trans hpl (by rw [List.length_drop]; omega)
        obtain ⟨Pf, hPf⟩ : ∃ P, proofS (l.drop k) d = P := ⟨_, rfl⟩
        rw [hPf] at HIH hpl2 ⊢
        obtain ⟨Rt, hRt⟩ : ∃ R, rootS (l.take k) = R := ⟨_, rfl⟩
        rw [hRt] at HT ⊢
        obtain ⟨np, hnp⟩ : ∃ n, Pf.length = n := ⟨_, rfl⟩
        have HPL : Hid ((Pf ++ [Rt]).length = np + 1) := by show _ = _; rw [List.length_append, hnp]; rfl
        rw [HPL.out]
        rw [hnp] at HIH hpl2
        have g3 : ¬ (i : Int) < (k : Int) := by omega
        clear ih hA hs hspl hpe hpl hPf hRt hn hnp hd
        go_enter Tryd.func15, Tryd.ntmps15
        go_wp2_with (first | (go_at_call 42; (with_reducible refine (HLF'.out _).mono ?_); rintro e w9 ⟨rfl, rfl⟩) | (go_at_call 15; (with_reducible refine (HIH.out).mono ?_); rintro e w2 ⟨v2, rfl, o2, b2⟩; have HO2 := Lib.hid o2; have HST2 := Lib.hid (HST.out.then_ b2); have HB2 := Lib.hid b2; clear o2 b2) | (go_at_call 20; (with_reducible refine (HT.out _ HST2.out).mono ?_); rintro e w3 ⟨rfl, b3⟩; have HO3 := Lib.hid (own_then HO2.out b3); have HB3 := Lib.hid (below_next HB2.out b3); have hb3 := HB3.out.size; clear b3) | (at_builtin; refine wpList_append1 rfl _ _ 22 rfl w.heap.size 9 i0 _ 1 16 Tryd.underlying22 I1.out I2.out I3.out I4.out rfl (by omega) (by omega) v2 np _ rfl HO3.out #[.string Rt] rfl rfl (by simp [Value.oneCell']) (by omega) (by omega) ?_; intro g4 c4 w4 o4 k4 h4; have HO4 := Lib.hid o4; have HB4 := Lib.hid (k4.below_next HB3.out hb3 (fun q hq => (HO3.out.lt q (own_mem hq)).1)); clear o4 k4 h4))
        go_ret2
        exact ⟨_, rfl, by rw [svs_append]; exact HO4.out, HB4.out⟩
end Go.Proofs.YtoipckflokdakaaDoor
