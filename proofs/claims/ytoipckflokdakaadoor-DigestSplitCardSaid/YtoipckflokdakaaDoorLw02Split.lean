/- The walk of the law DigestSplit. -/
import Derived.Test.YtoipckflokdakaaDoorLw02Ext
import Derived.Test.YtoipckflokdakaaDoorLw02Bind
namespace Go.Proofs.YtoipckflokdakaaDoor
open Go.RowKit Sha Mk
attribute [local go_sem] Oper.semAt_some
set_option maxRecDepth 100000 in
set_option maxHeartbeats 8000000 in
theorem split_law (A : Option Addr) (ca : Nat) (P : List ByteArray) (s : ByteArray) (w : World) (hK : RoundIn w)
    (hA : StrsAt w A P) (hl : (P.length : Int) ≤ 9223372036854775807) (hP : ∀ s ∈ P, (s.size : Int) ≤ 9223372036854775807) (hs : (s.size : Int) ≤ 9223372036854775807) :
    Calls Tryd.prog 9 #[.slice A P.length ca, .string s] w fun e w' => e = .returned (.bool true) ∧ Below w.heap.size w w' := by
  obtain ⟨i0, hi0, hz0, hz1, hz2⟩ := info_parts str_info1
  have I1 := Lib.hid hi0
  have I2 := Lib.hid hz0
  have I3 := Lib.hid hz1
  have I4 := Lib.hid hz2
  have HK := Lib.hid hK
  obtain ⟨np, hnp⟩ : ∃ k, P.length = k := ⟨_, rfl⟩
  have HF := Lib.hid (fun W h => few_in A ca np 40 P hnp W h (by omega) (by decide) hP)
  have hpz := fewS_sizes P 40
  have hpl : (fewS P 40).length ≤ 40 := by rw [fewS_length]; omega
  have HA := Lib.hid hA
  obtain ⟨Ms, ms1, ms2, ms3, ms4⟩ := cut_to s hs
  have MS4 := Lib.hid ms4
  have zs : (cut60 s).size ≤ 60 := cut60_size s
  rw [hnp]
  obtain ⟨X, hX⟩ : ∃ X, fewS P 40 = X := ⟨_, rfl⟩
  obtain ⟨S, hS⟩ : ∃ S, cut60 s = S := ⟨_, rfl⟩
  rw [hX] at HF hpz hpl
  rw [hS] at MS4 zs
  obtain ⟨x, hx⟩ : ∃ x, X.length = x := ⟨_, rfl⟩
  have HXL := Lib.hid hx
  rw [hx] at HF hpl
  have HPZ := Lib.hid hpz
  clear hK hA hl hP hnp hX hS ms4 hpz hx hi0 hz0 hz1 hz2 hs
  go_enter Tryd.func9, Tryd.ntmps9
  go_wp2_with fail
  refine (sane_any w HK.out).mono ?_
  rintro e w1 ⟨rfl, b1⟩
  go_wp2_with fail
  refine (HF.out w1 (HA.out.then_ b1)).mono ?_
  rintro e w2 ⟨Ax, cx, rfl, sx, lx, mx, b2⟩
  have SX := Lib.hid sx
  have B2 := Lib.hid (below_next b1 b2)
  clear sx b1 b2
  go_wp2_with (first | (at_builtin; rw [MS4.out]; refine wpList_append_strs rfl _ _ 22 rfl w2.heap.size 9 i0 _ Tryd.underlying22 I1.out I2.out I3.out I4.out rfl (.slice (some ⟨w2.heap.size, 0, none⟩) 0 0) 0 [] rfl rfl (own_lit (xs := []) (heap_alloc_new _ _) (Nat.le_refl _) (by simp)) Ax x cx X HXL.out rfl (SX.out.then_ (below_alloc (Below.refl _ _) _)) (by omega) (by simp) ?_; intro v3 w3 o3 k3; have B3 : Below w2.heap.size w2 w3 := k3.below_next (below_alloc (Below.refl _ _) _) (by simp) (fun k hk => by have e := own_mem hk; simp only [Value.ownBlock] at e; injection e with e; omega); have HB3 := Lib.hid B3; have HO3 := Lib.hid o3; have hs3 := B3.size; have SX3 := Lib.hid (SX.out.then_ B3); clear B3 o3 k3) | (at_builtin; refine wpList_append1 rfl _ _ 22 rfl w2.heap.size 9 i0 _ 1 16 Tryd.underlying22 I1.out I2.out I3.out I4.out rfl (by omega) (by omega) v3 (0 + x) _ rfl HO3.out #[.string S] rfl rfl (by simp [Value.oneCell']) (by omega) (by omega) ?_; intro g4 c4 w4 o4 k4 h4))
  have B4 := Lib.hid (below_next B2.out (k4.below_next HB3.out hs3 (fun k hk => (HO3.out.lt k (own_mem hk)).1)))
  have k34 : Below w2.heap.size w2 w4 := k4.below_next HB3.out hs3 (fun k hk => (HO3.out.lt k (own_mem hk)).1)
  have SX4 := Lib.hid (SX.out.then_ k34)
  have hMl : (X ++ [S]).length = x + 1 := by rw [List.length_append, HXL.out]; rfl
  have o5 : w4.ownsRow w2.heap.size 9 1 (.slice (some ⟨g4, 0, none⟩) (x + 1) c4) (X ++ [S]).length (svs (X ++ [S])) := by
    rw [hMl, svs_append, show x + 1 = 0 + x + 1 by omega]
    exact o4
  obtain ⟨A5, c5, e5, sm, lm, mm⟩ := own_strs o5
  rw [hMl] at e5 lm
  injection e5 with e5a e5b e5c
  subst e5a e5c
  have hMz : ∀ z ∈ X ++ [S], z.size ≤ 400000 := fun z hz => by
    rcases List.mem_append.1 hz with h | h
    · have := HPZ.out z h; omega
    · rw [List.mem_singleton.1 h]; omega
  have hacc := ext_accepted (X ++ [S]) x (by rw [hMl]; omega)
  have hall := ext_all (X ++ [S]) x (by rw [hMl]; omega)
  have hxl : (extS (X ++ [S]) x).length ≤ 900 := by
    have h1 := ext_short (X ++ [S]) x (by rw [hMl]; omega)
    have h2 := binN_le (X ++ [S]).length (by rw [hMl]; omega)
    omega
  rw [hMl] at hacc
  rw [show (X ++ [S]).take x = X by rw [List.take_append_of_le_length (by rw [HXL.out]; exact Nat.le_refl _), List.take_of_length_le (by rw [HXL.out]; exact Nat.le_refl _)]] at hacc
  have hsp : 1 ≤ x → rootS (X ++ [S]) = nodeS (rootS ((X ++ [S]).take (lft (x + 1)))) (rootS ((X ++ [S]).drop (lft (x + 1)))) := fun h => by
    have := root_split leafS nodeS (sumS ⟨#[]⟩) (X ++ [S]) (by rw [hMl]; omega)
    rw [hMl] at this
    exact this
  have hone : x = 0 → rootS (X ++ [S]) = leafS S := fun h => by
    have hX0 : X = [] := List.eq_nil_of_length_eq_zero (by rw [HXL.out]; exact h)
    rw [hX0]; rfl
  have hzero : x = 0 → rootS X = sumS ⟨#[]⟩ := fun h => by
    have hX0 : X = [] := List.eq_nil_of_length_eq_zero (by rw [HXL.out]; exact h)
    rw [hX0]; rfl
  obtain ⟨M, hM⟩ : ∃ M, X ++ [S] = M := ⟨_, rfl⟩
  rw [hM] at hMl sm hMz hacc hall hxl hsp hone
  have HML := Lib.hid hMl
  have HMZ := Lib.hid hMz
  have SM := Lib.hid sm
  have HSP := Lib.hid hsp
  have HONE := Lib.hid hone
  have HZERO := Lib.hid hzero
  have hEX := Lib.hid (ext_in (some ⟨g4, 0, none⟩) c4 (x + 1) x M w4 hMl sm lm mm (by omega) (by omega) hMz (HK.out.then_ B4.out))
  obtain ⟨E, hE⟩ : ∃ E, extS M x = E := ⟨_, rfl⟩
  rw [hE] at hacc hall hxl hEX
  have HXS := Lib.hid (all_sizes hall)
  have HT1 := Lib.hid (fun (W : World) h1 h2 => root_n Ax cx x X W HXL.out h1 (by omega) (fun z hz => by have := HPZ.out z hz; omega) h2)
  have HT2 := Lib.hid (fun (W : World) h1 h2 => root_n (some ⟨g4, 0, none⟩) c4 (x + 1) M W HML.out h1 (by omega) HMZ.out h2)
  obtain ⟨R, hR⟩ : ∃ R, rootS X = R := ⟨_, rfl⟩
  obtain ⟨T, hT⟩ : ∃ T, rootS M = T := ⟨_, rfl⟩
  have hrz : R.size = 32 := by rw [← hR]; exact rootS_size _
  have htz : T.size = 32 := by rw [← hT]; exact rootS_size _
  rw [hR] at HT1 hacc HZERO
  rw [hT] at HT2 hacc HSP HONE
  obtain ⟨el, hel⟩ : ∃ n, E.length = n := ⟨_, rfl⟩
  have HV := Lib.hid (fun (W : World) (Ae : Option Addr) (ce : Nat) h1 h2 h3 h4 => vext_any R x T (x + 1 : Nat) Ae ce E W (by omega) (by omega) (by omega) (by omega) (by omega) (by omega) h1 (by omega) h2 h3 (fun z hz => by have := HXS.out z hz; omega) h4)
  rw [hacc] at HV
  rw [hel] at HV hEX hxl
  rw [show ((x + 1 : Nat) : Int) = (x : Int) + 1 by omega] at HV
  clear hMl o4 o5 k4 h4 e5b sm hMz hacc hall hsp hone hzero hM hE hR hT hel HO3 HB3 hs3 k34 MS4 SX SX3
  refine hEX.out.mono ?_
  rintro e w5 ⟨Ae, ce, rfl, se, le, me, b5⟩
  have SE := Lib.hid se
  have SX5 := Lib.hid (SX4.out.then_ b5)
  have SM5 := Lib.hid (SM.out.then_ b5)
  have B5 := Lib.hid (below_next B4.out b5)
  clear se b5 SX4 SM B4
  go_wp2_with fail
  refine (HT1.out w5 SX5.out (HK.out.then_ B5.out)).mono ?_
  rintro e w6 ⟨rfl, b6⟩
  have SE6 := Lib.hid (SE.out.then_ b6)
  have SX6 := Lib.hid (SX5.out.then_ b6)
  have SM6 := Lib.hid (SM5.out.then_ b6)
  have B6 := Lib.hid (below_next B5.out b6)
  clear b6 SX5 SM5 B5 SE
  go_wp2_with fail
  refine (HT2.out w6 SM6.out (HK.out.then_ B6.out)).mono ?_
  rintro e w7 ⟨rfl, b7⟩
  have SE7 := Lib.hid (SE6.out.then_ b7)
  have SX7 := Lib.hid (SX6.out.then_ b7)
  have SM7 := Lib.hid (SM6.out.then_ b7)
  have B7 := Lib.hid (below_next B6.out b7)
  clear b7 SX6 SM6 B6 SE6
  go_wp2_with fail
  refine (HV.out w7 Ae ce SE7.out le me (HK.out.then_ B7.out)).mono ?_
  rintro e w8 ⟨rfl, b8⟩
  have SX8 := Lib.hid (SX7.out.then_ b8)
  have SM8 := Lib.hid (SM7.out.then_ b8)
  have B8 := Lib.hid (below_next B7.out b8)
  clear b8 SX7 SM7 B7 SE7 HV hEX
  by_cases hx0 : x = 0
  · subst hx0
    have hd1 : (T.toList == (leafS S).toList) = true := eq_of (HONE.out rfl)
    have hd2 : (R.toList == (sumS ⟨#[]⟩).toList) = true := eq_of (HZERO.out rfl)
    go_wp2_with fail
    refine (HT2.out w8 SM8.out (HK.out.then_ B8.out)).mono ?_
    rintro e w9 ⟨rfl, b9⟩
    have SX9 := Lib.hid (SX8.out.then_ b9)
    have B9 := Lib.hid (below_next B8.out b9)
    go_wp2_with fail
    refine (leaf_any S w9 (by omega) (HK.out.then_ B9.out)).mono ?_
    rintro e w10 ⟨rfl, b10⟩
    have SX10 := Lib.hid (SX9.out.then_ b10)
    have B10 := Lib.hid (below_next B9.out b10)
    go_wp2_with fail
    refine (HT1.out w10 SX10.out (HK.out.then_ B10.out)).mono ?_
    rintro e w11 ⟨rfl, b11⟩
    have B11 := Lib.hid (below_next B10.out b11)
    go_wp2_with fail
    refine (sum_any ⟨#[]⟩ w11 (by decide) (HK.out.then_ B11.out)).mono ?_
    rintro e w12 ⟨rfl, b12⟩
    have B12 := below_next B11.out b12
    go_wp2_with fail
    go_ret
    exact ⟨rfl, B12⟩
  · have g1 : ¬ (x : Int) = 0 := by omega
    have g1' : ((x : Int) == 0) = false := by simp; omega
    have hsp := HSP.out (by omega)
    have hk1 := lft_lt (n := x + 1) (by omega)
    have hk2 := lft_pos (n := x + 1)
    have HLF := Lib.hid (fun w => lleft_any (x + 1) w (by omega) (by omega))
    obtain ⟨k, hk⟩ : ∃ k, lft (x + 1) = k := ⟨_, rfl⟩
    rw [hk] at hsp hk1 hk2 HLF
    have hd : (T.toList == (nodeS (rootS (M.take k)) (rootS (M.drop k))).toList) = true := eq_of hsp
    have g2 : (k : Int) ≤ (c4 : Int) := by omega
    have g3 : (0 : Int) ≤ (k : Int) := by omega
    have g4' : (k : Int) ≤ (x : Int) + 1 := by omega
    have HLF' : Hid (∀ w, Calls Tryd.prog 31 #[.int .i64 ((x : Int) + 1)] w fun e w' => e = .returned (.int .i64 (k : Int)) ∧ w = w') := HLF
    clear hk hsp HLF HSP HONE HZERO
    go_wp2_with (go_at_call 31; (with_reducible refine (HLF'.out _).mono ?_); rintro e w9 ⟨rfl, rfl⟩)
    have hck : ¬ c4 = k := by omega
    have hl1 : (M.take k).length = k := by rw [List.length_take, HML.out]; omega
    have hl2 : (M.drop k).length = x + 1 - k := by rw [List.length_drop, HML.out]
    have hst1 := SM8.out.take k
    have hst2 := SM8.out.drop k
    rw [Nat.zero_add] at hst2
    have HS1 := Lib.hid hst1
    have HS2 := Lib.hid hst2
    have HQ1 := Lib.hid (fun (d : Nat) (os : Array Obj) => HT2.out (Sort.grow (redrawn w8 d) os) (SM8.out.then_ (below_regrown w8 d os)) ((HK.out.then_ B8.out).then_ (below_regrown w8 d os)))
    have HQ2 := Lib.hid (fun (d : Nat) (os : Array Obj) => root_n (some ⟨g4, 0, none⟩) c4 k (M.take k) (Sort.grow (redrawn w8 d) os) hl1 (HS1.out.then_ (below_regrown w8 d os)) (by omega) (fun z hz => HMZ.out z (List.mem_of_mem_take hz)) ((HK.out.then_ B8.out).then_ (below_regrown w8 d os)))
    have HQ3 := Lib.hid (fun (d : Nat) (os : Array Obj) => root_n (some ⟨g4, k, none⟩) (c4 - k) (x + 1 - k) (M.drop k) (Sort.grow (redrawn w8 d) os) hl2 (HS2.out.then_ (below_regrown w8 d os)) (by omega) (fun z hz => HMZ.out z (List.mem_of_mem_drop hz)) ((HK.out.then_ B8.out).then_ (below_regrown w8 d os)))
    have hz1 : (rootS (M.take k)).size = 32 := rootS_size _
    have hz2 : (rootS (M.drop k)).size = 32 := rootS_size _
    obtain ⟨U1, hU1⟩ : ∃ U, rootS (M.take k) = U := ⟨_, rfl⟩
    obtain ⟨U2, hU2⟩ : ∃ U, rootS (M.drop k) = U := ⟨_, rfl⟩
    rw [hU1] at hd HQ2 hz1
    rw [hU2] at hd HQ3 hz2
    have HQ4 := Lib.hid (fun (d : Nat) (os : Array Obj) => node_any U1 U2 (Sort.grow (redrawn w8 d) os) (by omega) (by omega) ((HK.out.then_ B8.out).then_ (below_regrown w8 d os)))
    clear hst1 hst2 hl1 hl2 hU1 hU2
    refine wp_region_quiet_below (by kernel_rfl) (by kernel_rfl) ?_
    repeat (go_big_quiet_step (first | (with_reducible exact Calls.regrown_of (HQ1.out _ _)) | (with_reducible exact Calls.regrown_of (HQ2.out _ _)) | (with_reducible exact Calls.regrown_of (HQ3.out _ _)) | (with_reducible exact Calls.regrown_of (HQ4.out _ _))))
    refine wpQuiet_nil ?_
    intro wq hq0
    have hq := below_of_class hq0
    clear hq0
    go_wp2_with fail
    go_ret
    exact ⟨rfl, below_next B8.out hq⟩
end Go.Proofs.YtoipckflokdakaaDoor
