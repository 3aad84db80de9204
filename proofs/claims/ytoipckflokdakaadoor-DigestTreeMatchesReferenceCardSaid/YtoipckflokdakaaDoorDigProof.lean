/- Proof: what it returns. -/
import Derived.Test.YtoipckflokdakaaDoorDigSub
import Derived.Outline
namespace Go.Proofs.YtoipckflokdakaaDoor
open Go.RowKit Sha Mk
attribute [local go_sem] Oper.semAt_some
def proofS (l : List ByteArray) (i : Nat) : List ByteArray := proof leafS nodeS (sumS ⟨#[]⟩) l i
theorem proof_no (A : Option Addr) (cap : Nat) (l : List ByteArray) (i : Int) (w : World) (_hl : (l.length : Int) ≤ 9223372036854775807) (hi : i < 0 ∨ (l.length : Int) ≤ i) :
    Calls Tryd.prog 14 #[.slice A l.length cap, .int .i64 i] w fun e w' => e = .returned (.tuple #[.slice none 0 0, .int .i64 2]) ∧ w = w' := by
  by_cases h : i < 0
  · have hd : decide (i < 0) = true := by simpa using h
    go_enter Tryd.func14, Tryd.ntmps14
    go_wp2_with fail
    go_step3
    go_wp2_with fail
    (try rw [Exit.noGoto_ret])
    go_ret2
    exact ⟨rfl, rfl⟩
  · have h2 : (l.length : Int) ≤ i := by omega
    have hd : decide (i < 0) = false := by simpa using h
    have hd2 : decide ((l.length : Int) ≤ i) = true := by simpa using h2
    clear hi h h2
    go_enter Tryd.func14, Tryd.ntmps14
    go_wp2_with fail
    go_step3
    go_wp2_with fail
    (try rw [Exit.noGoto_ret])
    go_ret2
    exact ⟨rfl, rfl⟩
set_option maxRecDepth 100000 in
set_option maxHeartbeats 4000000 in
theorem proof_yes (A : Option Addr) (cap : Nat) (l : List ByteArray) (i : Nat) (w : World) (hA : StrsAt w A l) (hc : l.length ≤ cap) (hcm : cap ≤ maxLen) (hl : l.length ≤ 1000) (hi : i < l.length) (hs : ∀ s ∈ l, s.size ≤ 400000) (hK : RoundIn w) :
    Calls Tryd.prog 14 #[.slice A l.length cap, .int .i64 (i : Int)] w fun e w' => ∃ v, e = .returned (.tuple #[v, .int .i64 0]) ∧ w'.ownsRow w.heap.size 9 1 v (proofS l i).length (svs (proofS l i)) ∧ Below w.heap.size w w' := by
  obtain ⟨i0, hi0, hz0, hz1, hz2⟩ := info_parts str_info1
  have I1 := Lib.hid hi0
  have I2 := Lib.hid hz0
  have I3 := Lib.hid hz1
  have I4 := Lib.hid hz2
  have HS := Lib.hid hs
  have HK := Lib.hid hK
  obtain ⟨b, o, rfl, -⟩ := hA 0 (by omega)
  have HA := Lib.hid hA
  unfold maxLen at hcm
  obtain ⟨n, hn⟩ : ∃ n, l.length = n := ⟨_, rfl⟩
  rw [hn] at hc hl hi ⊢
  have HN := Lib.hid hn
  obtain ⟨p, hp⟩ : ∃ p, proofS l i = p := ⟨_, rfl⟩
  rw [hp]
  have HP := Lib.hid hp
  have j1 : decide ((i : Int) < 0) = false := by simp
  have j2 : decide (n ≤ i) = false := by simp; omega
  clear hi0 hz0 hz1 hz2 hs hK hA hn hp
  go_enter Tryd.func14, Tryd.ntmps14
  go_wp2_with fail
  go_step3
  go_wp2_with fail
  go_step3
  go_wp2_with fail
  go_loopw [0, 1, 6] (fun v i u wr => ∃ (o' c' : Nat) (l' : List ByteArray) (i' : Nat) (acc : List ByteArray), v = .slice (some ⟨b, o', none⟩) l'.length c' ∧ i = .int .i64 (i' : Int) ∧ i' < l'.length ∧ l'.length ≤ 1000 ∧ l'.length ≤ c' ∧ c' ≤ 2 ^ 63 - 1 ∧ StrsAt w (some ⟨b, o', none⟩) l' ∧ (∀ s ∈ l', s.size ≤ 400000) ∧ proofS l' i' ++ acc.reverse = p ∧ acc.length ≤ 1000 ∧ wr.ownsRow w.heap.size 9 1 u acc.length (svs acc) ∧ Below w.heap.size w wr) (fun v _ _ _ => sliceLen v)
  case atStart => exact ⟨o, cap, l, i, [], by rw [HN.out], rfl, by rw [HN.out]; exact hi, by rw [HN.out]; exact hl, by rw [HN.out]; exact hc, hcm, HA.out, HS.out, by rw [HP.out, List.reverse_nil, List.append_nil], by simp, World.ownsRow_nil _ _ _ _, Below.refl _ _⟩
  case round =>
    obtain ⟨o', c', l', i', acc, rfl, rfl, hi', hl', hc', hcm', hst, hsz, hpr, hal, how, hB⟩ := hrel
    have HST := Lib.hid hst
    have HSZ := Lib.hid hsz
    have HPR := Lib.hid hpr
    have HO := Lib.hid how
    have HB := Lib.hid hB
    have hbs := hB.size
    clear hst hsz hpr how hB
    obtain ⟨m, hm⟩ : ∃ m, l'.length = m := ⟨_, rfl⟩
    rw [hm] at hi' hl' hc' ⊢
    have HM := Lib.hid hm
    by_cases h1 : m = 1
    · have e1 : (((m : Nat) : Int) == 1) = true := by rw [beq_iff_eq]; omega
      have hacc : acc.reverse = p := by
        have h2 := HPR.out
        have h3 : proofS l' i' = [] := proof_one leafS nodeS _ l' i' (by omega)
        rw [h3, List.nil_append] at h2
        exact h2
      have HAC := Lib.hid hacc
      clear h1 hm hacc
      go_wp2_with (go_at_call 41; refine (reverse_own w.heap.size _ acc wr HO.out hal).mono ?_; rintro e w3 ⟨rfl, o3, k3⟩; have O3 := Lib.hid o3; have K3 := Lib.hid k3; clear o3 k3)
      (try rw [Exit.noGoto_ret])
      go_ret2
      refine ⟨_, rfl, ?_, K3.out.below_next HB.out hbs (fun q hq => (HO.out.lt q (own_mem hq)).1)⟩
      have h := O3.out
      rw [HAC.out] at h
      rw [show p.length = acc.length by rw [← HAC.out, List.length_reverse]]
      exact h
    · have e1 : (((m : Nat) : Int) == 1) = false := by rw [beq_eq_false_iff_ne]; omega
      have hm2 : 2 ≤ m := by omega
      have hk1 := lft_lt hm2
      have hk2 := lft_pos (n := m)
      have hspl := proof_split leafS nodeS (sumS ⟨#[]⟩) l' i' (by omega)
      rw [hm] at hspl
      have HCL := Lib.hid (fun w => left_any m w hm2 (by omega))
      obtain ⟨k, hk⟩ : ∃ k, lft m = k := ⟨_, rfl⟩
      rw [hk] at hk1 hk2 hspl
      simp only [hk] at HCL
      have HSPL := Lib.hid hspl
      clear hk hspl h1
      have f1 : (k : Int) ≤ (c' : Int) := by omega
      have f2 : (k : Int) ≤ (m : Int) := by omega
      have f3 : (k : Int) < (c' : Int) := by omega
      have f4 : k < c' := by omega
      have f5 : (0 : Int) ≤ (k : Int) := by omega
      have f6 : ¬ c' = k := by omega
      by_cases hik : i' < k
      · have g1 : ¬ (k : Int) ≤ (i' : Int) := by omega
        go_wp2_with (go_at_call 40; (with_reducible refine (HCL.out _).mono ?_); rintro e w1 ⟨rfl, rfl⟩)
        refine wp_region_quiet_below (by kernel_rfl) (by kernel_rfl) ?_
        repeat (go_big_quiet_step (fail))
        refine wpQuiet_nil ?_
        intro wq hq0
        have hq := below_of_class hq0
        clear hq0
        have HBQ := Lib.hid (below_next HB.out hq)
        have HOQ := Lib.hid (own_then HO.out hq)
        have HKQ := Lib.hid (HK.out.then_ HBQ.out)
        have hbq := HBQ.out.size
        have hn2 : (l'.drop k).length = (m - k) := by simp only [List.length_drop, HM.out]; (try omega)
        have hst2 := (HST.out.drop k).then_ HBQ.out
        have hsz2 : ∀ s ∈ (l'.drop k), s.size ≤ 400000 := fun s hs => HSZ.out s (List.mem_of_mem_drop hs)
        have HN2 := Lib.hid hn2
        have HS2 := Lib.hid hst2
        have HZ2 := Lib.hid hsz2
        have hlim : (m - k) ≤ 1000 := by omega
        clear hq hn2 hst2 hsz2
        go_wp2_with (first | (go_at_call 19; (with_reducible refine (root_n (some ⟨b, (o' + k), none⟩) (c' - k) (m - k) (l'.drop k) wq HN2.out HS2.out hlim HZ2.out HKQ.out).mono ?_); rintro e w2 ⟨rfl, b2⟩; have HO2 := Lib.hid (own_then HOQ.out b2); have hb2 := b2.size) | (at_builtin; refine wpList_append1 rfl _ _ 22 rfl w.heap.size 9 i0 _ 1 16 Tryd.underlying22 I1.out I2.out I3.out I4.out rfl (by omega) (by omega) u6 acc.length _ rfl HO2.out #[.string (rootS (l'.drop k))] rfl rfl (by simp [Value.oneCell']) (by omega) (by omega) ?_; intro a1 b1 w4 o4 k4 _; have O4 := Lib.hid o4; have K4 := Lib.hid k4; clear o4 k4))
        have hacc : (acc ++ [rootS (l'.drop k)]).length = acc.length + 1 := by simp
        have hpl : acc.length + 1 ≤ 1000 := by
          have h2 := congrArg List.length HPR.out
          have h3 := congrArg List.length HSPL.out
          have h4 := proof_length_lt leafS nodeS (sumS ⟨#[]⟩) l i
          have h5 := congrArg List.length HP.out
          have h6 : (proofS l' i').length = (proof leafS nodeS (sumS ⟨#[]⟩) l' i').length := rfl
          have h7 : (proofS l i).length = (proof leafS nodeS (sumS ⟨#[]⟩) l i).length := rfl
          have h8 := HN.out
          rw [if_pos hik] at h3
          rw [List.length_append] at h2 h3
          rw [List.length_reverse] at h2
          rw [List.length_singleton] at h3
          omega
        refine ⟨⟨o', c', (l'.take k), i', acc ++ [rootS (l'.drop k)], ?_, ?_, ?_, ?_, ?_, ?_, ?_, ?_, ?_, by rw [hacc]; exact hpl, ?_, ?_⟩, ?_⟩
        · rw [show (l'.take k).length = k by simp only [List.length_take, HM.out]; (try omega)]
        · rfl
        · simp only [List.length_take, HM.out]; (try omega)
        · simp only [List.length_take, HM.out]; (try omega)
        · simp only [List.length_take, HM.out]; (try omega)
        · omega
        · exact HST.out.take k
        · exact fun s hs => HSZ.out s (List.mem_of_mem_take hs)
        · have h2 := HPR.out
          have h3 : proofS l' i' = proofS (l'.take k) i' ++ [rootS (l'.drop k)] := by
            have := HSPL.out
            rw [if_pos hik] at this
            exact this
          rw [← h2, h3]
          simp
        · rw [hacc, svs_append]; exact O4.out
        · exact K4.out.below_next (below_next HBQ.out b2) (by omega) (fun q hq => (HO2.out.lt q (own_mem hq)).1)
        · simp [sliceLen]; omega
      · have g1 : (k : Int) ≤ (i' : Int) := by omega
        go_wp2_with (go_at_call 40; (with_reducible refine (HCL.out _).mono ?_); rintro e w1 ⟨rfl, rfl⟩)
        refine wp_region_quiet_below (by kernel_rfl) (by kernel_rfl) ?_
        repeat (go_big_quiet_step (fail))
        refine wpQuiet_nil ?_
        intro wq hq0
        have hq := below_of_class hq0
        clear hq0
        have HBQ := Lib.hid (below_next HB.out hq)
        have HOQ := Lib.hid (own_then HO.out hq)
        have HKQ := Lib.hid (HK.out.then_ HBQ.out)
        have hbq := HBQ.out.size
        have hn2 : (l'.take k).length = k := by simp only [List.length_take, HM.out]; (try omega)
        have hst2 := (HST.out.take k).then_ HBQ.out
        have hsz2 : ∀ s ∈ (l'.take k), s.size ≤ 400000 := fun s hs => HSZ.out s (List.mem_of_mem_take hs)
        have HN2 := Lib.hid hn2
        have HS2 := Lib.hid hst2
        have HZ2 := Lib.hid hsz2
        have hlim : k ≤ 1000 := by omega
        clear hq hn2 hst2 hsz2
        go_wp2_with (first | (go_at_call 19; (with_reducible refine (root_n (some ⟨b, o', none⟩) c' k (l'.take k) wq HN2.out HS2.out hlim HZ2.out HKQ.out).mono ?_); rintro e w2 ⟨rfl, b2⟩; have HO2 := Lib.hid (own_then HOQ.out b2); have hb2 := b2.size) | (at_builtin; refine wpList_append1 rfl _ _ 22 rfl w.heap.size 9 i0 _ 1 16 Tryd.underlying22 I1.out I2.out I3.out I4.out rfl (by omega) (by omega) u6 acc.length _ rfl HO2.out #[.string (rootS (l'.take k))] rfl rfl (by simp [Value.oneCell']) (by omega) (by omega) ?_; intro a1 b1 w4 o4 k4 _; have O4 := Lib.hid o4; have K4 := Lib.hid k4; clear o4 k4))
        have hacc : (acc ++ [rootS (l'.take k)]).length = acc.length + 1 := by simp
        have hpl : acc.length + 1 ≤ 1000 := by
          have h2 := congrArg List.length HPR.out
          have h3 := congrArg List.length HSPL.out
          have h4 := proof_length_lt leafS nodeS (sumS ⟨#[]⟩) l i
          have h5 := congrArg List.length HP.out
          have h6 : (proofS l' i').length = (proof leafS nodeS (sumS ⟨#[]⟩) l' i').length := rfl
          have h7 : (proofS l i).length = (proof leafS nodeS (sumS ⟨#[]⟩) l i).length := rfl
          have h8 := HN.out
          rw [if_neg hik] at h3
          rw [List.length_append] at h2 h3
          rw [List.length_reverse] at h2
          rw [List.length_singleton] at h3
          omega
        refine ⟨⟨(o' + k), (c' - k), (l'.drop k), (i' - k), acc ++ [rootS (l'.take k)], ?_, ?_, ?_, ?_, ?_, ?_, ?_, ?_, ?_, by rw [hacc]; exact hpl, ?_, ?_⟩, ?_⟩
        · rw [show (l'.drop k).length = (m - k) by simp only [List.length_drop, HM.out]; (try omega)]
        · congr 1; omega
        · simp only [List.length_drop, HM.out]; (try omega)
        · simp only [List.length_drop, HM.out]; (try omega)
        · simp only [List.length_drop, HM.out]; (try omega)
        · omega
        · exact HST.out.drop k
        · exact fun s hs => HSZ.out s (List.mem_of_mem_drop hs)
        · have h2 := HPR.out
          have h3 : proofS l' i' = proofS (l'.drop k) (i' - k) ++ [rootS (l'.take k)] := by
            have := HSPL.out
            rw [if_neg hik] at this
            exact this
          rw [← h2, h3]
          simp
        · rw [hacc, svs_append]; exact O4.out
        · exact K4.out.below_next (below_next HBQ.out b2) (by omega) (fun q hq => (HO2.out.lt q (own_mem hq)).1)
        · simp [sliceLen]; omega
end Go.Proofs.YtoipckflokdakaaDoor
