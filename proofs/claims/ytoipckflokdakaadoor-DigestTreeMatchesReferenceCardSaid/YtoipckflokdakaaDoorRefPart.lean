/- The reference's part and Extension. -/
import Derived.Test.YtoipckflokdakaaDoorRefTree
import Derived.Test.YtoipckflokdakaaDoorDigExt
import Derived.Test.YtoipckflokdakaaDoorStrsApp
namespace Go.Proofs.YtoipckflokdakaaDoor
open Go.RowKit Sha Mk
attribute [local go_sem] Oper.semAt_some
theorem own_base {w : World} {base base' size n : Nat} {e : TypeId} {v : Value} {xs : List Value} (h : w.ownsRow base e size v n xs) (hb : base' ≤ base) : w.ownsRow base' e size v n xs := by
  refine ⟨h.1, ?_⟩
  rcases h.2 with h2 | ⟨g, cap, cur, h1, h2, h3⟩
  · exact .inl h2
  · exact .inr ⟨g, cap, cur, h1, Nat.le_trans hb h2, h3⟩
theorem below_arm {w W w' : World} {p : Prop} (h : Below w.heap.size w W) (b : Below W.heap.size W w') (k : Hid (Below w.heap.size w w') → p) : p := k (below_next h b)
theorem own_arm {w : World} {base base' size n : Nat} {e : TypeId} {v : Value} {xs : List Value} {p : Prop} (h : w.ownsRow base e size v n xs) (hb : base' ≤ base) (k : Hid (w.ownsRow base' e size v n xs) → p) : p := k (own_base h hb)
theorem and_elim_below {w w4 : World} {p : Prop} (h : Below w.heap.size w w4) (k : Hid (Below w.heap.size w w4) → p) : p := k h
set_option maxRecDepth 100000 in
set_option maxHeartbeats 8000000 in
theorem rpart_any : ∀ (f n : Nat) (A : Option Addr) (c : Nat) (l : List ByteArray) (m : Nat) (bo : Bool) (w : World), n ≤ f → l.length = n → n ≤ c → c ≤ maxLen → n ≤ 900 → 1 ≤ m → m ≤ n → StrsAt w A l → (∀ s ∈ l, s.size ≤ 40000) →
    Calls Tryd.prog 43 #[.slice A n c, .int .i64 (m : Int), .bool bo] w fun e w' => ∃ v, e = .returned v ∧ w'.ownsRow w.heap.size 9 1 v (extP l m bo).length (svs (extP l m bo)) ∧ Below w.heap.size w w' := by
  obtain ⟨i0, hi0, hz0, hz1, hz2⟩ := info_parts str_info1
  have I1 := Lib.hid hi0
  have I2 := Lib.hid hz0
  have I3 := Lib.hid hz1
  have I4 := Lib.hid hz2
  clear hi0 hz0 hz1 hz2
  intro f
  induction f with
  | zero => intro n A c l m bo w hf hn hc hcm hn2 hm1 hm hA hs; omega
  | succ f ih =>
    intro n A c l m bo w hf hn hc hcm hn2 hm1 hm hA hs
    by_cases h0 : n ≤ f
    · exact ih n A c l m bo w h0 hn hc hcm hn2 hm1 hm hA hs
    obtain rfl : n = f + 1 := by omega
    by_cases h1 : m = f + 1
    · subst h1
      have hp := part_all leafS nodeS (sumS ⟨#[]⟩) l (f + 1) bo (by omega) (by omega)
      cases bo with
      | true =>
        have HP : Hid (extP l (f + 1) true = []) := by show _ = _; rw [extP, hp]; rfl
        clear hp hA hs ih
        go_enter Tryd.func43, Tryd.ntmps43
        go_wp2_with fail
        go_ret
        exact ⟨_, rfl, by rw [HP.out]; exact World.ownsRow_nil _ _ _ _, Below.refl _ _⟩
      | false =>
        have HP : Hid (extP l (f + 1) false = [rootS l]) := by show _ = _; rw [extP, hp]; rfl
        have HT := Lib.hid (rroot_any (f + 1) (f + 1) A c l w (Nat.le_refl _) hn hc hcm (by omega) hA hs)
        obtain ⟨Rt, hRt⟩ : ∃ R, rootS l = R := ⟨_, rfl⟩
        rw [hRt] at HT HP
        clear hp hA hs ih hRt
        go_enter Tryd.func43, Tryd.ntmps43
        go_wp2_with (go_at_call 20; (with_reducible refine (HT.out).mono ?_); rintro e w3 ⟨rfl, b3⟩)
        go_ret
        refine ⟨_, rfl, ?_, below_alloc b3 _⟩
        rw [HP.out]
        exact own_lit (xs := [Rt]) (heap_alloc_new _ _) b3.size (by simp)
    · have hspl := part_split leafS nodeS (sumS ⟨#[]⟩) l m bo hm1 (by omega)
      rw [hn] at hspl
      have hk1 := lft_lt (n := f + 1) (by omega)
      have hk2 := lft_pos (n := f + 1)
      have HLF := Lib.hid (fun w => rleft_any (f + 1) w (by omega) (by omega))
      obtain ⟨k, hk⟩ : ∃ k, lft (f + 1) = k := ⟨_, rfl⟩
      rw [hk] at hspl hk1 hk2 HLF
      obtain ⟨b, o, rfl, _⟩ := hA 0 (by omega)
      have g1 : (k : Int) ≤ (c : Int) := by omega
      have g2 : (0 : Int) ≤ (k : Int) := by omega
      have g4 : (k : Int) ≤ (f : Int) + 1 := by omega
      have g5 : ¬ ((m : Int) = (f : Int) + 1) := by omega
      have hck : ¬ c = k := by omega
      have HLF' : Hid (∀ w, Calls Tryd.prog 42 #[.int .i64 ((f : Int) + 1)] w fun e w' => e = .returned (.int .i64 (k : Int)) ∧ w = w') := HLF
      clear HLF hk
      by_cases hik : m ≤ k
      · skip
        have hpe : extP l m bo = extP (l.take k) m bo ++ [rootS (l.drop k)] := by
          have := hspl
          rw [if_pos hik] at this
          exact this
        rw [hpe]
        have HIH := Lib.hid (fun (W : World) h => ih k (some ⟨b, o, none⟩) c (l.take k) m bo W (by omega) (by rw [List.length_take]; omega) (by omega) (by omega) (by omega) (by omega) (by omega) h (fun s h => hs s (List.mem_of_mem_take h)))
        have HT := Lib.hid (fun (W : World) h => rroot_any (f + 1 - k) (f + 1 - k) (some ⟨b, o + k, none⟩) (c - k) (l.drop k) W (Nat.le_refl _) (by rw [List.length_drop]; omega) (by omega) (by omega) (by omega) h (fun s h => hs s (List.mem_of_mem_drop h)))
        have HS1 := Lib.hid (hA.take k)
        have HS2 := Lib.hid (hA.drop k)
        have hpl := part_length leafS nodeS (sumS ⟨#[]⟩) 1000 (l.take k) m bo (by omega) (by rw [List.length_take]; omega) (by rw [List.length_take]; omega)
        have hpl2 : (extP (l.take k) m bo).length ≤ 1000 := Nat.le_trans hpl (by rw [List.length_take]; omega)
        obtain ⟨Pf, hPf⟩ : ∃ P, extP (l.take k) m bo = P := ⟨_, rfl⟩
        rw [hPf] at HIH hpl2 ⊢
        obtain ⟨Rt, hRt⟩ : ∃ R, rootS (l.drop k) = R := ⟨_, rfl⟩
        rw [hRt] at HT ⊢
        obtain ⟨np, hnp⟩ : ∃ n, Pf.length = n := ⟨_, rfl⟩
        have HPL : Hid ((Pf ++ [Rt]).length = np + 1) := by show _ = _; rw [List.length_append, hnp]; rfl
        rw [HPL.out]
        rw [hnp] at HIH hpl2
        have g3 : (m : Int) ≤ (k : Int) := by omega
        clear ih hA hs hspl hpe hpl hPf hRt hn hnp
        go_enter Tryd.func43, Tryd.ntmps43
        go_wp2_with (go_at_call 42; (with_reducible refine (HLF'.out _).mono ?_); rintro e w9 ⟨rfl, rfl⟩)
        go_region_held3 (fun w' => Below w.heap.size w w') ((first | exact Below.drew (Below.refl _ _) | exact HB4.out | exact below_alloc HB3.out _ | exact HB3.out | exact HB2.out)) (first | (go_at_call 43; (with_reducible refine (HIH.out w.drew (HS1.out.then_ (Below.drew (Below.refl _ _)))).mono ?_); rintro e w2 ⟨v2, rfl, o2, b2⟩; have HB2 := Lib.hid (below_next (Below.drew (Below.refl w.heap.size w)) b2); have HO2 := Lib.hid o2) | (go_at_call 20; (with_reducible refine (HT.out w2 (HS2.out.then_ HB2.out)).mono ?_); rintro e w3 ⟨rfl, b3⟩; have HB3 := Lib.hid (below_next HB2.out b3); have HO3 := Lib.hid (own_then HO2.out b3); have hb3 := HB3.out.size) | (refine step_append1 (by rfl) _ _ 22 (by rfl) w.heap.size 9 i0 _ 1 16 Tryd.underlying22 I1.out I2.out I3.out I4.out rfl (by omega) (by omega) v2 np _ (by rfl) (HO3.out.alloc _) w3.heap.size [.string Rt] (by rfl) rfl (new_one w3 _ _) (by simp [Value.oneCell']) (by omega) (by simp; omega) ?_; intro g4 c4 w4 o4 k4 h4; have HO4 := Lib.hid o4; have HB4 := Lib.hid (k4.below_next (B := w.heap.size) (below_alloc HB3.out _) (by simp; omega) (fun q hq => (HO3.out.lt q (own_mem hq)).1))))
        all_goals
          go_wp2_with fail
          go_ret
          exact ⟨_, rfl, by rw [svs_append]; exact HO4.out, HB4.out⟩
      · skip
        obtain ⟨d, hd⟩ : ∃ d, m - k = d := ⟨_, rfl⟩
        have e2 : (m : Int) - (k : Int) = (d : Int) := by omega
        have e3 : IntKind.i64.wrap (d : Int) = (d : Int) := IntWalk.i64_in _ (by omega)
        have hpe : extP l m bo = extP (l.drop k) d false ++ [rootS (l.take k)] := by
          have := hspl
          rw [if_neg hik, hd] at this
          exact this
        rw [hpe]
        have HIH := Lib.hid (fun (W : World) h => ih (f + 1 - k) (some ⟨b, o + k, none⟩) (c - k) (l.drop k) d false W (by omega) (by rw [List.length_drop]; omega) (by omega) (by omega) (by omega) (by omega) (by omega) h (fun s h => hs s (List.mem_of_mem_drop h)))
        have HT := Lib.hid (fun (W : World) h => rroot_any k k (some ⟨b, o, none⟩) c (l.take k) W (Nat.le_refl _) (by rw [List.length_take]; omega) (by omega) (by omega) (by omega) h (fun s h => hs s (List.mem_of_mem_take h)))
        have HS1 := Lib.hid (hA.drop k)
        have HS2 := Lib.hid (hA.take k)
        have hpl := part_length leafS nodeS (sumS ⟨#[]⟩) 1000 (l.drop k) d false (by omega) (by rw [List.length_drop]; omega) (by rw [List.length_drop]; omega)
        have hpl2 : (extP (l.drop k) d false).length ≤ 1000 := Nat.le_trans hpl (by rw [List.length_drop]; omega)
        obtain ⟨Pf, hPf⟩ : ∃ P, extP (l.drop k) d false = P := ⟨_, rfl⟩
        rw [hPf] at HIH hpl2 ⊢
        obtain ⟨Rt, hRt⟩ : ∃ R, rootS (l.take k) = R := ⟨_, rfl⟩
        rw [hRt] at HT ⊢
        obtain ⟨np, hnp⟩ : ∃ n, Pf.length = n := ⟨_, rfl⟩
        have HPL : Hid ((Pf ++ [Rt]).length = np + 1) := by show _ = _; rw [List.length_append, hnp]; rfl
        rw [HPL.out]
        rw [hnp] at HIH hpl2
        have g3 : ¬ (m : Int) ≤ (k : Int) := by omega
        clear ih hA hs hspl hpe hpl hPf hRt hn hnp hd
        go_enter Tryd.func43, Tryd.ntmps43
        go_wp2_with (go_at_call 42; (with_reducible refine (HLF'.out _).mono ?_); rintro e w9 ⟨rfl, rfl⟩)
        go_region_held3 (fun w' => Below w.heap.size w w') ((first | exact Below.drew (Below.refl _ _) | exact HB4.out | exact below_alloc HB3.out _ | exact HB3.out | exact HB2.out)) (first | (go_at_call 43; (with_reducible refine (HIH.out w.drew (HS1.out.then_ (Below.drew (Below.refl _ _)))).mono ?_); rintro e w2 ⟨v2, rfl, o2, b2⟩; have HB2 := Lib.hid (below_next (Below.drew (Below.refl w.heap.size w)) b2); have HO2 := Lib.hid o2) | (go_at_call 20; (with_reducible refine (HT.out w2 (HS2.out.then_ HB2.out)).mono ?_); rintro e w3 ⟨rfl, b3⟩; have HB3 := Lib.hid (below_next HB2.out b3); have HO3 := Lib.hid (own_then HO2.out b3); have hb3 := HB3.out.size) | (refine step_append1 (by rfl) _ _ 22 (by rfl) w.heap.size 9 i0 _ 1 16 Tryd.underlying22 I1.out I2.out I3.out I4.out rfl (by omega) (by omega) v2 np _ (by rfl) (HO3.out.alloc _) w3.heap.size [.string Rt] (by rfl) rfl (new_one w3 _ _) (by simp [Value.oneCell']) (by omega) (by simp; omega) ?_; intro g4 c4 w4 o4 k4 h4; have HO4 := Lib.hid o4; have HB4 := Lib.hid (k4.below_next (B := w.heap.size) (below_alloc HB3.out _) (by simp; omega) (fun q hq => (HO3.out.lt q (own_mem hq)).1))))
        all_goals
          go_wp2_with fail
          go_ret
          exact ⟨_, rfl, by rw [svs_append]; exact HO4.out, HB4.out⟩
theorem rext_no (A : Option Addr) (cap n : Nat) (m : Int) (w : World) (_hl : (n : Int) ≤ 9223372036854775807) (hm : m < 0 ∨ (n : Int) < m) :
    Calls Tryd.prog 17 #[.slice A n cap, .int .i64 m] w fun e w' => e = .returned (.tuple #[.slice none 0 0, .int .i64 2]) ∧ w = w' := by
  by_cases h : m < 0
  · have hd : decide (m < 0) = true := by simpa using h
    go_enter Tryd.func17, Tryd.ntmps17
    go_wp2_with fail
    go_ret2
    exact ⟨rfl, rfl⟩
  · have h2 : (n : Int) < m := by omega
    have hd : decide (m < 0) = false := by simpa using h
    have hd2 : decide ((n : Int) < m) = true := by simpa using h2
    clear hm h h2
    go_enter Tryd.func17, Tryd.ntmps17
    go_wp2_with fail
    go_ret2
    exact ⟨rfl, rfl⟩
theorem rext_yes (A : Option Addr) (c n : Nat) (l : List ByteArray) (m : Nat) (w : World) (hn : l.length = n) (hc : n ≤ c) (hcm : c ≤ maxLen) (hn2 : n ≤ 900) (hm : m ≤ n) (hA : StrsAt w A l) (hs : ∀ s ∈ l, s.size ≤ 40000) :
    Calls Tryd.prog 17 #[.slice A n c, .int .i64 (m : Int)] w fun e w' => ∃ v, e = .returned (.tuple #[v, .int .i64 0]) ∧ w'.ownsRow w.heap.size 9 1 v (extS l m).length (svs (extS l m)) ∧ Below w.heap.size w w' := by
  by_cases h0 : m = 0
  · subst h0
    have HP : Hid (extS l 0 = []) := rfl
    have g1 : ¬ ((n : Int) < 0) := by omega
    clear hA hs hn
    go_enter Tryd.func17, Tryd.ntmps17
    go_wp2_with fail
    go_ret2
    exact ⟨_, rfl, by rw [HP.out]; exact World.ownsRow_nil _ _ _ _, Below.refl _ _⟩
  · have HP : Hid (extS l m = extP l m true) := by show _ = _; rw [extS, if_neg h0]
    have HT := Lib.hid (rpart_any n n A c l m true w (Nat.le_refl _) hn hc hcm hn2 (by omega) hm hA hs)
    have g1 : ¬ ((n : Int) < (m : Int)) := by omega
    have g2 : ¬ ((m : Int) = 0) := by omega
    rw [HP.out]
    clear hA hs hn
    go_enter Tryd.func17, Tryd.ntmps17
    go_wp2_with (go_at_call 43; (with_reducible refine (HT.out).mono ?_); rintro e w3 ⟨v, rfl, o3, b3⟩)
    go_ret2
    exact ⟨_, rfl, o3, b3⟩
end Go.Proofs.YtoipckflokdakaaDoor
