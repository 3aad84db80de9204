/- The reference's extended: a string with the bytes that are added to it. -/
import Derived.Test.YtoipckflokdakaaDoorShaSum
import Derived.Test.YtoipckflokdakaaDoorApp1
namespace Go.Proofs.YtoipckflokdakaaDoor
open Go.RowKit Sha
attribute [local go_sem] Oper.semAt_some
theorem uvs_one (l : List Nat) : ∀ u ∈ uvs l, u.oneCell' = true := fun u hu => by
  obtain ⟨x, _, rfl⟩ := List.mem_map.1 hu
  rfl
set_option maxRecDepth 100000 in
set_option maxHeartbeats 4000000 in
theorem extended_any (s : ByteArray) (w : World) (hs : s.size ≤ 100000) :
    Calls Tryd.prog 57 #[.string s] w fun e w' => ∃ v, e = .returned v ∧ w'.ownsRow w.heap.size 5 1 v (ext (nbs s)).length (uvs (ext (nbs s))) ∧ Below w.heap.size w w' := by
  obtain ⟨i0, hi0, hz0, hz1, hz2⟩ := info_parts u8_infos
  have I1 := Lib.hid hi0
  have I2 := Lib.hid hz0
  have I3 := Lib.hid hz1
  have I4 := Lib.hid hz2
  clear hi0 hz0 hz1 hz2
  go_enter Tryd.func57, Tryd.ntmps57
  go_wp2_with fail
  go_loopw [3, 4] (fun v i wr => ∃ k : Nat, i = .int .i64 (k : Int) ∧ k ≤ s.size ∧ wr.ownsRow w.heap.size 5 1 v k (uvs ((nbs s).take k)) ∧ Below w.heap.size w wr) (fun _ i _ => s.size - (intOf i).toNat)
  case atStart => exact ⟨0, rfl, Nat.zero_le _, World.ownsRow_nil _ _ _ _, Below.refl _ _⟩
  case round =>
    obtain ⟨k, rfl, hk, how, hB⟩ := hrel
    have HO := Lib.hid how
    have HB := Lib.hid hB
    have hbs := hB.size
    by_cases h1 : k < s.size
    · have g1 : (k : Int) < (s.size : Int) := by omega
      have g2 : (0 : Int) ≤ (k : Int) := by omega
      have hkl : k < (nbs s).length := by rw [nbs_length]; exact h1
      have hnx : (nbs s).take (k + 1) = (nbs s).take k ++ [(s[k]'h1).toNat] := by
        rw [List.take_succ_eq_append_getElem hkl]
        congr 2
        simp [nbs]; rfl
      obtain ⟨b, hb⟩ : ∃ b, s[k]'h1 = b := ⟨_, rfl⟩
      rw [hb] at hnx
      have HNX := Lib.hid hnx
      clear hnx hkl how hB
      go_wp2_with (at_builtin; refine wpList_append1 rfl _ _ 46 rfl w.heap.size 5 i0 _ 1 1 Tryd.underlying46 I1.out I2.out I3.out I4.out rfl (by omega) (by omega) u3 k _ rfl HO.out #[.int .u8 ((b.toNat : Nat) : Int)] rfl rfl (by simp [Value.oneCell']) (by omega) (by omega) ?_; intro g4 c4 w4 o4 k4 h4)
      have HB4 := Lib.hid (k4.below_next (B := w.heap.size) HB.out hbs (fun q hq => (HO.out.lt q (own_mem hq)).1))
      refine ⟨⟨k + 1, by rfl, by omega, by rw [HNX.out, uvs_append]; exact o4, HB4.out⟩, by simp [intOf]; omega⟩
    · obtain rfl : k = s.size := by omega
      have g1 : ¬ (s.size : Int) < (s.size : Int) := by omega
      have hfull : (nbs s).take s.size = nbs s := List.take_of_length_le (by rw [nbs_length]; exact Nat.le_refl _)
      rw [hfull] at HO
      clear how hB hfull
      obtain ⟨wo, hwo⟩ : ∃ W, wr = W := ⟨_, rfl⟩
      rw [hwo] at HO HB hbs ⊢
      clear hwo
      go_wp2_with (at_builtin; refine wpList_append1 rfl _ _ 46 rfl w.heap.size 5 i0 _ 1 1 Tryd.underlying46 I1.out I2.out I3.out I4.out rfl (by omega) (by omega) u3 s.size _ rfl HO.out #[.int .u8 128] rfl rfl (by simp [Value.oneCell']) (by omega) (by omega) ?_; intro g4 c4 w4 o4 k4 h4; have HB4 := Lib.hid (k4.below_next (B := w.heap.size) HB.out hbs (fun q hq => (HO.out.lt q (own_mem hq)).1)); have HO4 := Lib.hid o4)
      have hbs4 := HB4.out.size
      clear o4 k4 h4
      go_loopw [3] (fun v wr => ∃ m : Nat, s.size + 1 ≤ m ∧ m ≤ s.size + 1 + zeros s.size ∧ wr.ownsRow w.heap.size 5 1 v m (uvs (padTo s m)) ∧ Below w.heap.size w wr) (fun v _ => s.size + 1 + zeros s.size - sliceLen v)
      case atStart =>
        refine ⟨s.size + 1, by omega, by omega, ?_, HB4.out⟩
        have e : padTo s (s.size + 1) = nbs s ++ [128] := by simp [padTo]
        rw [e, uvs_append]
        exact HO4.out
      case round =>
        obtain ⟨m, hm1, hm2, how, hB⟩ := hrel
        have HO5 := Lib.hid how
        have HB5 := Lib.hid hB
        have hbs5 := hB.size
        have hzz : zeros s.size ≤ 63 := by unfold zeros; omega
        obtain ⟨g5, c5, rfl, hg5, hg6⟩ := how.form (by omega)
        clear how hB
        by_cases hd : m % 64 = 56
        · have h1 : (((m : Nat) : Int) % 64 != 56) = false := by simp; omega
          have h1' : (m : Int) % 64 = 56 := by omega
          have HD := Lib.hid hd
          clear hd
          go_wp2_with fail
          have hm : m = s.size + 1 + zeros s.size := by
            have := HD.out
            unfold zeros at hm2 ⊢
            omega
          have HM := Lib.hid hm
          have L8 := Lib.hid (len8_get s.size)
          have LL : Hid ((len8 s.size).length = 8) := rfl
          obtain ⟨T, hT⟩ : ∃ T, len8 s.size = T := ⟨_, rfl⟩
          rw [hT] at L8 LL
          have HT := Lib.hid hT
          obtain ⟨Pd, hPd⟩ : ∃ P, padTo s m = P := ⟨_, rfl⟩
          rw [hPd] at HO5
          have HPd := Lib.hid hPd
          clear hm hT hPd
          obtain ⟨wo2, hwo2⟩ : ∃ W, wr = W := ⟨_, rfl⟩
          rw [hwo2] at HO5 HB5 hbs5 hg6 ⊢
          clear hwo2 HO4 HB4 hbs4
          have lm : m ≤ 100064 := by omega
          go_loopw [3, 5] (fun v i wr => ∃ k : Nat, k ≤ 8 ∧ i = .int .i64 (7 - (k : Int)) ∧ wr.ownsRow w.heap.size 5 1 v (m + k) (uvs (Pd ++ T.take k)) ∧ Below w.heap.size w wr) (fun _ i _ => (intOf i + 1).toNat)
          case atStart => exact ⟨0, by omega, rfl, by rw [List.take_zero, List.append_nil]; exact HO5.out, HB5.out⟩
          case round =>
            obtain ⟨k, hk, rfl, how, hB⟩ := hrel
            have HO6 := Lib.hid how
            have HB6 := Lib.hid hB
            have hbs6 := hB.size
            obtain ⟨g6, c6, rfl, hg7, hg8⟩ := how.form (by omega)
            clear how hB
            by_cases hlt : k < 8
            · have i1 : (0 : Int) ≤ 7 - (k : Int) := by omega
              have i2 : (0 : Int) ≤ 8 * (7 - (k : Int)) := by omega
              have i3 : 8 * (7 - (k : Int)) ≤ 64 := by omega
              have i4 : (8 * (7 - (k : Int))).toNat = 8 * (7 - k) := by omega
              obtain ⟨V, hV⟩ : ∃ V, T.getD k 0 = V := ⟨_, rfl⟩
              have eV : 8 * ((s.size : Nat) : Int) / 2 ^ (8 * (7 - k)) % 256 = (V : Int) := by
                rw [← hV, L8.out k hlt, Int.natCast_emod, Int.natCast_ediv, Int.natCast_pow, Int.natCast_mul]; rfl
              have HV := Lib.hid hV
              clear hV
              go_wp2_with (at_builtin; refine wpList_append1 rfl _ _ 46 rfl w.heap.size 5 i0 _ 1 1 Tryd.underlying46 I1.out I2.out I3.out I4.out rfl (by omega) (by omega) (.slice (some ⟨g6, 0, none⟩) (m + k) c6) (m + k) _ rfl HO6.out #[.int .u8 (V : Int)] rfl rfl (by simp [Value.oneCell']) (by omega) (by omega) ?_; intro g7 c7 w7 o7 k7 h7; have HB7 := Lib.hid (k7.below_next (B := w.heap.size) HB6.out hbs6 (fun q hq => (HO6.out.lt q (own_mem hq)).1)); have HO7 := Lib.hid o7)
              have e : T.take (k + 1) = T.take k ++ [V] := by
                rw [List.take_succ_eq_append_getElem (by rw [LL.out]; exact hlt), ← HV.out, List.getD, List.getElem?_eq_getElem (by rw [LL.out]; exact hlt)]; rfl
              refine ⟨⟨k + 1, by omega, ?_, ?_, HB7.out⟩, by simp [intOf]; omega⟩
              · have i5 : 7 - (k : Int) - 1 = 7 - ((k + 1 : Nat) : Int) := by omega
                rw [i5]
              · rw [e, ← List.append_assoc, uvs_append]
                exact HO7.out
            · obtain rfl : k = 8 := by omega
              have e8 : Pd ++ T.take 8 = ext (nbs s) := by
                rw [List.take_of_length_le (by rw [LL.out]; exact Nat.le_refl _), ← HPd.out, ← HT.out, HM.out, ext_pad]
              have hel : (ext (nbs s)).length = m + 8 := by rw [ext_length, nbs_length, HM.out]
              have hown := HO6.out
              rw [e8] at hown
              have HOW := Lib.hid hown
              have HEL := Lib.hid hel
              clear e8 hown hel
              go_wp2_with fail
              go_ret
              exact ⟨_, rfl, by rw [HEL.out]; exact HOW.out, HB6.out⟩
        · have h1 : (((m : Nat) : Int) % 64 != 56) = true := by simp; omega
          have h1' : ¬ (m : Int) % 64 = 56 := by omega
          have HD := Lib.hid hd
          clear hd
          go_wp2_with (at_builtin; refine wpList_append1 rfl _ _ 46 rfl w.heap.size 5 i0 _ 1 1 Tryd.underlying46 I1.out I2.out I3.out I4.out rfl (by omega) (by omega) (.slice (some ⟨g5, 0, none⟩) m c5) m _ rfl HO5.out #[.int .u8 0] rfl rfl (by simp [Value.oneCell']) (by omega) (by omega) ?_; intro g6 c6 w6 o6 k6 h6; have HB6 := Lib.hid (k6.below_next (B := w.heap.size) HB5.out hbs5 (fun q hq => (HO5.out.lt q (own_mem hq)).1)); have HO6 := Lib.hid o6)
          have hz : m < s.size + 1 + zeros s.size := by
            have := HD.out
            by_cases e : m = s.size + 1 + zeros s.size
            · exfalso
              unfold zeros at e
              omega
            · omega
          refine ⟨⟨m + 1, by omega, by omega, ?_, HB6.out⟩, by simp [sliceLen]; omega⟩
          rw [← padTo_next s hm1, uvs_append]
          exact HO6.out
end Go.Proofs.YtoipckflokdakaaDoor
