/- The reference's Leaf, Node, Chain, Left, Root, Digests. -/
import Derived.Test.YtoipckflokdakaaDoorRefSum
import Derived.Test.YtoipckflokdakaaDoorLw02Way
namespace Go.Proofs.YtoipckflokdakaaDoor
open Go.RowKit Sha Mk
attribute [local go_sem] Oper.semAt_some
theorem pre_size1 (b : UInt8) (s : ByteArray) : (preS b [s]).size = s.size + 1 := by
  simp [preS, size_mk]
theorem pre_size2 (b : UInt8) (s t : ByteArray) : (preS b [s, t]).size = s.size + t.size + 1 := by
  simp [preS, size_mk]
theorem rleaf_any (s : ByteArray) (w : World) (hs : s.size ≤ 90000) : Calls Tryd.prog 34 #[.string s] w fun e w' => e = .returned (.string (leafS s)) ∧ Below w.heap.size w w' := by
  have HP := Lib.hid (pre_app1 0 s)
  have hz := pre_size1 0 s
  go_enter Tryd.func34, Tryd.ntmps34
  go_wp2_with fail
  rw [HP.out]
  refine (rsum_any _ _ (by omega)).mono ?_
  rintro e w1 ⟨rfl, b1⟩
  go_wp2_with fail
  go_ret
  exact ⟨rfl, b1⟩
theorem rnode_any (s t : ByteArray) (w : World) (hs : s.size ≤ 40000) (ht : t.size ≤ 40000) : Calls Tryd.prog 35 #[.string s, .string t] w fun e w' => e = .returned (.string (nodeS s t)) ∧ Below w.heap.size w w' := by
  have HP := Lib.hid (pre_app2 1 s t)
  have hz := pre_size2 1 s t
  go_enter Tryd.func35, Tryd.ntmps35
  go_wp2_with fail
  rw [HP.out]
  refine (rsum_any _ _ (by omega)).mono ?_
  rintro e w1 ⟨rfl, b1⟩
  go_wp2_with fail
  go_ret
  exact ⟨rfl, b1⟩
theorem rchain_any (s t : ByteArray) (w : World) (hs : s.size ≤ 40000) (ht : t.size ≤ 40000) : Calls Tryd.prog 37 #[.string s, .string t] w fun e w' => e = .returned (.string (chainS s t)) ∧ Below w.heap.size w w' := by
  have HP := Lib.hid (pre_app2 2 s t)
  have hz := pre_size2 2 s t
  go_enter Tryd.func37, Tryd.ntmps37
  go_wp2_with fail
  rw [HP.out]
  refine (rsum_any _ _ (by omega)).mono ?_
  rintro e w1 ⟨rfl, b1⟩
  go_wp2_with fail
  go_ret
  exact ⟨rfl, b1⟩
set_option maxRecDepth 100000 in
set_option maxHeartbeats 4000000 in
theorem rleft_any (n : Nat) (w : World) (h1 : 2 ≤ n) (h2 : n ≤ 9223372036854775807) : Calls Tryd.prog 42 #[.int .i64 (n : Int)] w fun e w' => e = .returned (.int .i64 ((lft n : Nat) : Int)) ∧ w = w' := by
  go_enter Tryd.func42, Tryd.ntmps42
  go_wp2_with fail
  go_loopw [3] (fun k' wr => ∃ a k : Nat, k' = .int .i64 (k : Int) ∧ k = 2 ^ a ∧ k < n ∧ w = wr) (fun k' _ => n - (intOf k').toNat)
  case atStart => exact ⟨0, 1, rfl, rfl, by omega, rfl⟩
  case round =>
    obtain ⟨a, k, rfl, hk, hkn, rfl⟩ := hrel
    have hpos : 1 ≤ k := by rw [hk]; exact Nat.one_le_two_pow
    have HK := Lib.hid hk
    clear hk
    by_cases hlt : k + k < n
    · have g1 : (k : Int) < (n : Int) - (k : Int) := by omega
      have g2 : 2 * (k : Int) ≤ 9223372036854775807 := by omega
      go_wp2_with fail
      refine ⟨⟨a + 1, 2 * k, by rfl, by rw [HK.out, Nat.pow_succ]; omega, by omega, by trivial⟩, by simp [intOf]; omega⟩
    · have g1 : ¬ (k : Int) < (n : Int) - (k : Int) := by omega
      have hr : lft n = k := by rw [HK.out]; exact lft_eq (by rw [← HK.out]; omega) (by rw [Nat.pow_succ, ← HK.out]; omega)
      have HR := Lib.hid hr
      clear hr
      go_wp2_with fail
      go_ret
      exact ⟨by rw [HR.out]; rfl, rfl⟩
set_option maxRecDepth 100000 in
set_option maxHeartbeats 4000000 in
theorem rdigests_any (A : Option Addr) (c n : Nat) (p : List ByteArray) (w : World) (hn : p.length = n) (hA : StrsAt w A p) (hl : n ≤ 1000000) (hs : ∀ s ∈ p, (s.size : Int) ≤ 9223372036854775807) : Calls Tryd.prog 49 #[.slice A n c] w fun e w' => e = .returned (.bool (allB p)) ∧ Below w.heap.size w w' := by
  have HA := Lib.hid hA
  have HS := Lib.hid hs
  have HN := Lib.hid hn
  obtain ⟨r, hr⟩ : ∃ r, allB p = r := ⟨_, rfl⟩
  have HR := Lib.hid hr
  rw [hr]
  clear hA hs hn hr
  go_enter Tryd.func49, Tryd.ntmps49
  go_wp2_with fail
  go_loopw [3] (fun i wr => ∃ k : Nat, i = .int .i64 (k : Int) ∧ k ≤ n ∧ Hid (∀ j, (hj : j < p.length) → j < k → p[j].size = 32) ∧ Below w.heap.size w wr) (fun i _ => n - (intOf i).toNat)
  case atStart => exact ⟨0, rfl, Nat.zero_le _, Lib.hid (fun j _ h => absurd h (Nat.not_lt_zero _)), Below.refl _ _⟩
  case round =>
    obtain ⟨k, rfl, hk, HP, hb⟩ := hrel
    by_cases hlt : k < n
    · have hkl : k < p.length := by have := HN.out; omega
      have g1 : (k : Int) < (n : Int) := by omega
      obtain ⟨b, o, hA2, hc⟩ := (HA.out.then_ hb) k hkl
      have hz := HS.out _ (List.getElem_mem hkl)
      have hgd : p.getD k ⟨#[]⟩ = p[k] := by simp [List.getD, hkl]
      rw [hgd] at hc
      have hnext : p[k].size = 32 → ∀ j, (hj : j < p.length) → j < k + 1 → p[j].size = 32 := fun e j hj h => by
        by_cases h2 : j < k
        · exact HP.out j hj h2
        · obtain rfl : j = k := by omega
          exact e
      have hstop : p[k].size ≠ 32 → r = false := fun e => by
        rw [← HR.out, allB, Bool.not_eq_false', List.any_eq_true]
        exact ⟨p[k], List.getElem_mem hkl, by simp [oddB]; omega⟩
      obtain ⟨u, hu⟩ : ∃ u, p[k] = u := ⟨_, rfl⟩
      rw [hu] at hc hz hnext hstop
      have HNX := Lib.hid hnext
      have HST := Lib.hid hstop
      have HC := Lib.hid hc
      have HB := Lib.hid hb
      subst hA2
      clear hu hnext hstop hc hb hgd hkl
      have hcell := HC.out
      by_cases he : u.size = 32
      · have g2 : (u.size : Int) = 32 := by omega
        go_wp2_with fail
        refine ⟨⟨k + 1, by rfl, by omega, Lib.hid (HNX.out he), HB.out⟩, by simp [intOf]; omega⟩
      · have g2 : ¬ (u.size : Int) = 32 := by omega
        go_wp2_with fail
        go_ret
        exact ⟨by rw [HST.out he]; rfl, HB.out⟩
    · obtain rfl : k = n := by omega
      have g1 : ¬ (k : Int) < (k : Int) := by omega
      have hr : r = true := by
        rw [← HR.out, allB, Bool.not_eq_true', List.any_eq_false]
        intro s hs
        obtain ⟨j, hj, rfl⟩ := List.getElem_of_mem hs
        have := HP.out j hj (by rw [← HN.out]; exact hj)
        simp [oddB, this]
      subst hr
      go_wp2_with fail
      go_ret
      exact ⟨rfl, hb⟩
set_option maxRecDepth 100000 in
set_option maxHeartbeats 8000000 in
theorem rroot_any : ∀ (f n : Nat) (A : Option Addr) (c : Nat) (l : List ByteArray) (w : World), n ≤ f → l.length = n → n ≤ c → c ≤ maxLen → n ≤ 1000 → StrsAt w A l → (∀ s ∈ l, s.size ≤ 40000) →
    Calls Tryd.prog 20 #[.slice A n c] w fun e w' => e = .returned (.string (rootS l)) ∧ Below w.heap.size w w' := by
  intro f
  induction f with
  | zero =>
    intro n A c l w hf hn hc hcm hn2 hA hs
    obtain rfl : n = 0 := by omega
    have hl : l = [] := List.eq_nil_of_length_eq_zero hn
    subst hl
    have HE : Hid (rootS [] = sumS ⟨#[]⟩) := rfl
    rw [HE.out]
    go_enter Tryd.func20, Tryd.ntmps20
    go_wp2_with fail
    refine (rsum_any _ _ (by decide)).mono ?_
    rintro e w1 ⟨rfl, b1⟩
    go_wp2_with fail
    go_ret
    exact ⟨rfl, b1⟩
  | succ f ih =>
    intro n A c l w hf hn hc hcm hn2 hA hs
    by_cases h0 : n ≤ f
    · exact ih n A c l w h0 hn hc hcm hn2 hA hs
    obtain rfl : n = f + 1 := by omega
    by_cases h1 : f = 0
    · subst h1
      obtain ⟨x, rfl⟩ : ∃ x, l = [x] := by
        match l, hn with
        | [x], _ => exact ⟨x, rfl⟩
      obtain ⟨b, o, rfl, hc0⟩ := hA 0 (by simp)
      have hx := hs x (by simp)
      have hcell : w.cell? ⟨b, o, none⟩ = some (.string x) := hc0
      have HE : Hid (rootS [x] = leafS x) := rfl
      rw [HE.out]
      clear hc0 hA hs
      go_enter Tryd.func20, Tryd.ntmps20
      go_wp2_with fail
      refine (rleaf_any _ _ (by omega)).mono ?_
      rintro e w1 ⟨rfl, b1⟩
      go_wp2_with fail
      go_ret
      exact ⟨rfl, b1⟩
    · have hsp : rootS l = nodeS (rootS (l.take (lft (f + 1)))) (rootS (l.drop (lft (f + 1)))) := by
        have := root_split leafS nodeS (sumS ⟨#[]⟩) l (by omega)
        rw [hn] at this
        exact this
      have hk1 := lft_lt (n := f + 1) (by omega)
      have hk2 := lft_pos (n := f + 1)
      have HLF := Lib.hid (fun w => rleft_any (f + 1) w (by omega) (by omega))
      obtain ⟨k, hk⟩ : ∃ k, lft (f + 1) = k := ⟨_, rfl⟩
      rw [hk] at hsp hk1 hk2 HLF
      obtain ⟨b, o, rfl, _⟩ := hA 0 (by omega)
      have hz1 : (rootS (l.take k)).size = 32 := rootS_size _
      have hz2 : (rootS (l.drop k)).size = 32 := rootS_size _
      have hl1 : (l.take k).length = k := by rw [List.length_take]; omega
      have hl2 : (l.drop k).length = f + 1 - k := by rw [List.length_drop]; omega
      have HQ1 := Lib.hid (fun (d : Nat) (os : Array Obj) => ih k (some ⟨b, o, none⟩) c (l.take k) (Sort.grow (redrawn w d) os) (by omega) hl1 (by omega) hcm (by omega) ((hA.take k).then_ (below_regrown w d os)) (fun s h => hs s (List.mem_of_mem_take h)))
      have HQ2 := Lib.hid (fun (d : Nat) (os : Array Obj) => ih (f + 1 - k) (some ⟨b, o + k, none⟩) (c - k) (l.drop k) (Sort.grow (redrawn w d) os) (by omega) hl2 (by omega) (by omega) (by omega) ((hA.drop k).then_ (below_regrown w d os)) (fun s h => hs s (List.mem_of_mem_drop h)))
      obtain ⟨U1, hU1⟩ : ∃ U, rootS (l.take k) = U := ⟨_, rfl⟩
      obtain ⟨U2, hU2⟩ : ∃ U, rootS (l.drop k) = U := ⟨_, rfl⟩
      rw [hU1] at hsp HQ1 hz1
      rw [hU2] at hsp HQ2 hz2
      rw [hsp]
      have HQ3 := Lib.hid (fun (d : Nat) (os : Array Obj) => rnode_any U1 U2 (Sort.grow (redrawn w d) os) (by omega) (by omega))
      have g1 : (k : Int) ≤ (c : Int) := by omega
      have g2 : (0 : Int) ≤ (k : Int) := by omega
      have g3 : (k : Int) ≤ (f : Int) + 1 := by omega
      have g4 : ¬ ((f : Int) + 1 = 0) := by omega
      have g5 : ¬ ((f : Int) + 1 = 1) := by omega
      have g6 : ¬ (f : Int) = 0 := by omega
      have hck : ¬ c = k := by omega
      have HLF' : Hid (∀ w, Calls Tryd.prog 42 #[.int .i64 ((f : Int) + 1)] w fun e w' => e = .returned (.int .i64 (k : Int)) ∧ w = w') := HLF
      clear ih hA hs hsp hk hl1 hl2 hU1 hU2 HLF hn
      go_enter Tryd.func20, Tryd.ntmps20
      go_wp2_with (go_at_call 42; (with_reducible refine (HLF'.out _).mono ?_); rintro e w9 ⟨rfl, rfl⟩)
      refine wp_region_quiet_below (by kernel_rfl) (by kernel_rfl) ?_
      repeat (go_big_quiet_step (first | (with_reducible exact Calls.regrown_of (HQ1.out _ _)) | (with_reducible exact Calls.regrown_of (HQ2.out _ _)) | (with_reducible exact Calls.regrown_of (HQ3.out _ _))))
      refine wpQuiet_nil ?_
      intro wq hq0
      have hq := below_of_class hq0
      clear hq0
      go_wp2_with fail
      go_ret
      exact ⟨rfl, hq⟩
end Go.Proofs.YtoipckflokdakaaDoor
