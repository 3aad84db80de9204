/- Extension: what it returns. -/
import Derived.Test.YtoipckflokdakaaDoorDigProof
namespace Go.Proofs.YtoipckflokdakaaDoor
open Go.RowKit Sha Mk
attribute [local go_sem] Oper.semAt_some
def extP (l : List ByteArray) (m : Nat) (b : Bool) : List ByteArray := Mk.part leafS nodeS (sumS ⟨#[]⟩) l m b
/-- the extension of the first m entries -/
def extS (l : List ByteArray) (m : Nat) : List ByteArray := if m = 0 then [] else extP l m true
theorem ext_no (A : Option Addr) (cap : Nat) (l : List ByteArray) (m : Int) (w : World) (_hl : (l.length : Int) ≤ 9223372036854775807) (hm : m < 0 ∨ (l.length : Int) < m) :
    Calls Tryd.prog 16 #[.slice A l.length cap, .int .i64 m] w fun e w' => e = .returned (.tuple #[.slice none 0 0, .int .i64 2]) ∧ w = w' := by
  by_cases h : m < 0
  · have hd : decide (m < 0) = true := by simpa using h
    go_enter Tryd.func16, Tryd.ntmps16
    go_wp2_with fail
    go_ret2
    exact ⟨rfl, rfl⟩
  · have h2 : (l.length : Int) < m := by omega
    have hd : decide (m < 0) = false := by simpa using h
    have hd2 : decide ((l.length : Int) < m) = true := by simpa using h2
    clear hm h h2
    go_enter Tryd.func16, Tryd.ntmps16
    go_wp2_with fail
    go_ret2
    exact ⟨rfl, rfl⟩
theorem ext_zero (A : Option Addr) (cap : Nat) (l : List ByteArray) (w : World) (_hl : (l.length : Int) ≤ 9223372036854775807) :
    Calls Tryd.prog 16 #[.slice A l.length cap, .int .i64 0] w fun e w' => e = .returned (.tuple #[.slice none 0 0, .int .i64 0]) ∧ w = w' := by
  have hd2 : decide ((l.length : Int) < 0) = false := by simp
  go_enter Tryd.func16, Tryd.ntmps16
  go_wp2_with fail
  go_ret2
  exact ⟨rfl, rfl⟩
set_option maxRecDepth 100000 in
set_option maxHeartbeats 4000000 in
theorem ext_yes (A : Option Addr) (cap : Nat) (l : List ByteArray) (m : Nat) (w : World) (hA : StrsAt w A l) (hc : l.length ≤ cap) (hcm : cap ≤ maxLen) (hl : l.length ≤ 900) (hm1 : 1 ≤ m) (hm : m ≤ l.length) (hs : ∀ s ∈ l, s.size ≤ 400000) (hK : RoundIn w) :
    Calls Tryd.prog 16 #[.slice A l.length cap, .int .i64 (m : Int)] w fun e w' => ∃ v, e = .returned (.tuple #[v, .int .i64 0]) ∧ w'.ownsRow w.heap.size 9 1 v (extP l m true).length (svs (extP l m true)) ∧ Below w.heap.size w w' := by
  obtain ⟨i0, hi0, hz0, hz1, hz2⟩ := info_parts str_info1
  have I1 := Lib.hid hi0
  have I2 := Lib.hid hz0
  have I3 := Lib.hid hz1
  have I4 := Lib.hid hz2
  have HS := Lib.hid hs
  have HK := Lib.hid hK
  obtain ⟨b, o, rfl, -⟩ := hA 0 (by omega)
  have HA := Lib.hid hA
  unfold maxLen at hcm
  have hpl : (extP l m true).length ≤ 1000 := by
    have := part_length leafS nodeS (sumS ⟨#[]⟩) l.length l m true hm1 (by omega) (Nat.le_refl _)
    show (Mk.part leafS nodeS (sumS ⟨#[]⟩) l m true).length ≤ 1000
    omega
  obtain ⟨n, hn⟩ : ∃ n, l.length = n := ⟨_, rfl⟩
  rw [hn] at hc hl hm ⊢
  have HN := Lib.hid hn
  obtain ⟨p, hp⟩ : ∃ p, extP l m true = p := ⟨_, rfl⟩
  rw [hp] at hpl ⊢
  have HP := Lib.hid hp
  have HPL := Lib.hid hpl
  have j1 : decide ((m : Int) < 0) = false := by simp
  have j2 : decide (n < m) = false := by simp; omega
  have j3 : (((m : Nat) : Int) == 0) = false := by rw [beq_eq_false_iff_ne]; omega
  clear hi0 hz0 hz1 hz2 hs hK hA hn hp hpl
  go_enter Tryd.func16, Tryd.ntmps16
  go_wp2_with fail
  go_loopw [0, 1, 6, 7] (fun v i u f wr => ∃ (o' c' : Nat) (l' : List ByteArray) (m' : Nat) (acc : List ByteArray) (bo : Bool), v = .slice (some ⟨b, o', none⟩) l'.length c' ∧ i = .int .i64 (m' : Int) ∧ f = .bool bo ∧ 1 ≤ m' ∧ m' ≤ l'.length ∧ l'.length ≤ 1000 ∧ l'.length ≤ c' ∧ c' ≤ 2 ^ 63 - 1 ∧ StrsAt w (some ⟨b, o', none⟩) l' ∧ (∀ s ∈ l', s.size ≤ 400000) ∧ extP l' m' bo ++ acc.reverse = p ∧ acc.length ≤ 1000 ∧ wr.ownsRow w.heap.size 9 1 u acc.length (svs acc) ∧ Below w.heap.size w wr) (fun v _ _ _ _ => sliceLen v)
  case atStart => exact ⟨o, cap, l, m, [], true, by rw [HN.out], rfl, rfl, hm1, by rw [HN.out]; exact hm, by rw [HN.out]; omega, by rw [HN.out]; exact hc, hcm, HA.out, HS.out, by rw [HP.out, List.reverse_nil, List.append_nil], by simp, World.ownsRow_nil _ _ _ _, Below.refl _ _⟩
  case round =>
    obtain ⟨o', c', l', m', acc, bo, rfl, rfl, rfl, hm1', hi', hl', hc', hcm', hst, hsz, hpr, hal, how, hB⟩ := hrel
    have HST := Lib.hid hst
    have HSZ := Lib.hid hsz
    have HPR := Lib.hid hpr
    have HO := Lib.hid how
    have HB := Lib.hid hB
    have hbs := hB.size
    clear hst hsz hpr how hB
    obtain ⟨L, hm⟩ : ∃ L, l'.length = L := ⟨_, rfl⟩
    rw [hm] at hi' hl' hc' ⊢
    have HM := Lib.hid hm
    by_cases h1 : m' = L
    · have e1 : ¬ (m' : Int) < (L : Int) := by omega
      have e1' : ¬ m' < L := by omega
      have hall : extP l' m' bo = if bo then [] else [rootS l'] := part_all leafS nodeS _ l' m' bo (by omega) (by omega)
      cases bo with
      | true =>
        have hacc : acc.reverse = p := by
          rw [← HPR.out, hall]; rfl
        have HAC := Lib.hid hacc
        clear h1 hm hacc hall
        go_wp2_with (go_at_call 41; refine (reverse_own w.heap.size _ acc wr HO.out hal).mono ?_; rintro e w3 ⟨rfl, o3, k3⟩; have O3 := Lib.hid o3; have K3 := Lib.hid k3; clear o3 k3)
        go_ret2
        refine ⟨_, rfl, ?_, K3.out.below_next HB.out hbs (fun q hq => (HO.out.lt q (own_mem hq)).1)⟩
        have h := O3.out
        rw [HAC.out] at h
        rw [show p.length = acc.length by rw [← HAC.out, List.length_reverse]]
        exact h
      | false =>
        have hacc : (acc ++ [rootS l']).reverse = p := by
          rw [← HPR.out, hall]; simp
        have hal2 : (acc ++ [rootS l']).length ≤ 1000 := by
          have h5 := congrArg List.length hacc
          have h6 := HPL.out
          rw [List.length_reverse] at h5
          omega
        have HAC := Lib.hid hacc
        have HKW := Lib.hid (HK.out.then_ HB.out)
        have HST2 := Lib.hid (HST.out.then_ HB.out)
        have HAL2 := Lib.hid hal2
        clear h1 hm hacc hall hal2
        go_wp2_with (first | (go_at_call 19; (with_reducible refine (root_n (some ⟨b, o', none⟩) c' L l' wr HM.out HST2.out hl' HSZ.out HKW.out).mono ?_); rintro e w2 ⟨rfl, b2⟩; have HO2 := Lib.hid (own_then HO.out b2); have hb2 := b2.size) | (at_builtin; refine wpList_append1 rfl _ _ 22 rfl w.heap.size 9 i0 _ 1 16 Tryd.underlying22 I1.out I2.out I3.out I4.out rfl (by omega) (by omega) u6 acc.length _ rfl HO2.out #[.string (rootS l')] rfl rfl (by simp [Value.oneCell']) (by omega) (by omega) ?_; intro a1 b1 w4 o4 k4 _; have O4 : Hid (w4.ownsRow w.heap.size 9 1 (.slice (some ⟨a1, 0, none⟩) (acc.length + 1) b1) (acc ++ [rootS l']).length (svs (acc ++ [rootS l']))) := (by show World.ownsRow _ _ _ _ _ _ _; rw [List.length_append, List.length_singleton, svs_append]; exact o4); have K4 := Lib.hid k4; clear o4 k4) | (go_at_call 41; refine (reverse_own w.heap.size _ (acc ++ [rootS l']) w4 O4.out HAL2.out).mono ?_; rintro e w3 ⟨rfl, o3, k3⟩; have O3 := Lib.hid o3; have K3 := Lib.hid k3; clear o3 k3))
        go_ret2
        have B4 := K4.out.below_next (below_next HB.out b2) (by omega) (fun q hq => (HO2.out.lt q (own_mem hq)).1)
        refine ⟨_, rfl, ?_, K3.out.below_next B4 B4.size (fun q hq => (O4.out.lt q (own_mem hq)).1)⟩
        have h := O3.out
        rw [HAC.out] at h
        rw [show p.length = (acc ++ [rootS l']).length by rw [← HAC.out, List.length_reverse]]
        exact h
    · have e1 : (m' : Int) < (L : Int) := by omega
      have hm2 : 2 ≤ L := by omega
      have hk1 := lft_lt hm2
      have hk2 := lft_pos (n := L)
      have hspl := part_split leafS nodeS (sumS ⟨#[]⟩) l' m' bo hm1' (by omega)
      rw [hm] at hspl
      have HCL := Lib.hid (fun w => left_any L w hm2 (by omega))
      obtain ⟨k, hk⟩ : ∃ k, lft L = k := ⟨_, rfl⟩
      rw [hk] at hk1 hk2 hspl
      simp only [hk] at HCL
      have HSPL := Lib.hid hspl
      clear hk hspl h1
      have f1 : (k : Int) ≤ (c' : Int) := by omega
      have f2 : (k : Int) ≤ (L : Int) := by omega
      have f3 : (k : Int) < (c' : Int) := by omega
      have f4 : k < c' := by omega
      have f5 : (0 : Int) ≤ (k : Int) := by omega
      have f6 : ¬ c' = k := by omega
      by_cases hik : m' ≤ k
      · have g1 : ¬ (k : Int) < (m' : Int) := by omega
        go_wp2_with (go_at_call 40; (with_reducible refine (HCL.out _).mono ?_); rintro e w1 ⟨rfl, rfl⟩)
        refine wp_region_quiet_below (by kernel_rfl) (by kernel_rfl) ?_
        repeat (go_big_quiet_step (fail))
        refine wpQuiet_nil ?_
        intro wq hq0
        have hq := below_of_class hq0
        clear hq0
        have HBQ := Lib.hid (below_next HB.out hq)
        have HOQ := Lib.hid (own_then HO.out hq)
        have HKQ := Lib.hid (HK.out.then_ HBQ.out)
        have hbq := HBQ.out.size
        have hn2 : (l'.drop k).length = (L - k) := by simp only [List.length_drop, HM.out]; (try omega)
        have hst2 := (HST.out.drop k).then_ HBQ.out
        have hsz2 : ∀ s ∈ (l'.drop k), s.size ≤ 400000 := fun s hs => HSZ.out s (List.mem_of_mem_drop hs)
        have HN2 := Lib.hid hn2
        have HS2 := Lib.hid hst2
        have HZ2 := Lib.hid hsz2
        have hlim : (L - k) ≤ 1000 := by omega
        clear hq hn2 hst2 hsz2
        go_wp2_with (first | (go_at_call 19; (with_reducible refine (root_n (some ⟨b, (o' + k), none⟩) (c' - k) (L - k) (l'.drop k) wq HN2.out HS2.out hlim HZ2.out HKQ.out).mono ?_); rintro e w2 ⟨rfl, b2⟩; have HO2 := Lib.hid (own_then HOQ.out b2); have hb2 := b2.size) | (at_builtin; refine wpList_append1 rfl _ _ 22 rfl w.heap.size 9 i0 _ 1 16 Tryd.underlying22 I1.out I2.out I3.out I4.out rfl (by omega) (by omega) u6 acc.length _ rfl HO2.out #[.string (rootS (l'.drop k))] rfl rfl (by simp [Value.oneCell']) (by omega) (by omega) ?_; intro a1 b1 w4 o4 k4 _; have O4 := Lib.hid o4; have K4 := Lib.hid k4; clear o4 k4))
        have hacc : (acc ++ [rootS (l'.drop k)]).length = acc.length + 1 := by simp
        have h3 : extP l' m' bo = extP (l'.take k) m' bo ++ [rootS (l'.drop k)] := by
          have := HSPL.out
          rw [if_pos hik] at this
          exact this
        have hpr2 : extP (l'.take k) m' bo ++ (acc ++ [rootS (l'.drop k)]).reverse = p := by
          rw [← HPR.out, h3]; simp
        have hpl : acc.length + 1 ≤ 1000 := by
          have h5 := congrArg List.length hpr2
          have h6 := HPL.out
          rw [List.length_append, List.length_reverse, hacc] at h5
          omega
        refine ⟨⟨o', c', (l'.take k), m', acc ++ [rootS (l'.drop k)], bo, ?_, ?_, rfl, ?_, ?_, ?_, ?_, ?_, ?_, ?_, hpr2, by rw [hacc]; exact hpl, ?_, ?_⟩, ?_⟩
        · rw [show (l'.take k).length = k by simp only [List.length_take, HM.out]; (try omega)]
        · rfl
        · omega
        · simp only [List.length_take, HM.out]; (try omega)
        · simp only [List.length_take, HM.out]; (try omega)
        · simp only [List.length_take, HM.out]; (try omega)
        · omega
        · exact HST.out.take k
        · exact fun s hs => HSZ.out s (List.mem_of_mem_take hs)
        · rw [hacc, svs_append]; exact O4.out
        · exact K4.out.below_next (below_next HBQ.out b2) (by omega) (fun q hq => (HO2.out.lt q (own_mem hq)).1)
        · simp [sliceLen]; omega
      · have g1 : (k : Int) < (m' : Int) := by omega
        go_wp2_with (go_at_call 40; (with_reducible refine (HCL.out _).mono ?_); rintro e w1 ⟨rfl, rfl⟩)
        refine wp_region_quiet_below (by kernel_rfl) (by kernel_rfl) ?_
        repeat (go_big_quiet_step (fail))
        refine wpQuiet_nil ?_
        intro wq hq0
        have hq := below_of_class hq0
        clear hq0
        have HBQ := Lib.hid (below_next HB.out hq)
        have HOQ := Lib.hid (own_then HO.out hq)
        have HKQ := Lib.hid (HK.out.then_ HBQ.out)
        have hbq := HBQ.out.size
        have hn2 : (l'.take k).length = k := by simp only [List.length_take, HM.out]; (try omega)
        have hst2 := (HST.out.take k).then_ HBQ.out
        have hsz2 : ∀ s ∈ (l'.take k), s.size ≤ 400000 := fun s hs => HSZ.out s (List.mem_of_mem_take hs)
        have HN2 := Lib.hid hn2
        have HS2 := Lib.hid hst2
        have HZ2 := Lib.hid hsz2
        have hlim : k ≤ 1000 := by omega
        clear hq hn2 hst2 hsz2
        go_wp2_with (first | (go_at_call 19; (with_reducible refine (root_n (some ⟨b, o', none⟩) c' k (l'.take k) wq HN2.out HS2.out hlim HZ2.out HKQ.out).mono ?_); rintro e w2 ⟨rfl, b2⟩; have HO2 := Lib.hid (own_then HOQ.out b2); have hb2 := b2.size) | (at_builtin; refine wpList_append1 rfl _ _ 22 rfl w.heap.size 9 i0 _ 1 16 Tryd.underlying22 I1.out I2.out I3.out I4.out rfl (by omega) (by omega) u6 acc.length _ rfl HO2.out #[.string (rootS (l'.take k))] rfl rfl (by simp [Value.oneCell']) (by omega) (by omega) ?_; intro a1 b1 w4 o4 k4 _; have O4 := Lib.hid o4; have K4 := Lib.hid k4; clear o4 k4))
        have hacc : (acc ++ [rootS (l'.take k)]).length = acc.length + 1 := by simp
        have h3 : extP l' m' bo = extP (l'.drop k) (m' - k) false ++ [rootS (l'.take k)] := by
          have := HSPL.out
          rw [if_neg hik] at this
          exact this
        have hpr2 : extP (l'.drop k) (m' - k) false ++ (acc ++ [rootS (l'.take k)]).reverse = p := by
          rw [← HPR.out, h3]; simp
        have hpl : acc.length + 1 ≤ 1000 := by
          have h5 := congrArg List.length hpr2
          have h6 := HPL.out
          rw [List.length_append, List.length_reverse, hacc] at h5
          omega
        refine ⟨⟨(o' + k), (c' - k), (l'.drop k), (m' - k), acc ++ [rootS (l'.take k)], false, ?_, ?_, rfl, ?_, ?_, ?_, ?_, ?_, ?_, ?_, hpr2, by rw [hacc]; exact hpl, ?_, ?_⟩, ?_⟩
        · rw [show (l'.drop k).length = (L - k) by simp only [List.length_drop, HM.out]; (try omega)]
        · congr 1; omega
        · omega
        · simp only [List.length_drop, HM.out]; (try omega)
        · simp only [List.length_drop, HM.out]; (try omega)
        · simp only [List.length_drop, HM.out]; (try omega)
        · omega
        · exact HST.out.drop k
        · exact fun s hs => HSZ.out s (List.mem_of_mem_drop hs)
        · rw [hacc, svs_append]; exact O4.out
        · exact K4.out.below_next (below_next HBQ.out b2) (by omega) (fun q hq => (HO2.out.lt q (own_mem hq)).1)
        · simp [sliceLen]; omega
end Go.Proofs.YtoipckflokdakaaDoor
