/- The reference's rides, right for a page. -/
import Derived.Test.YtgopadbdnndkiaaPm
import Derived.Test.YtgopadbdnndkiaaPj
import Derived.Test.YtgopadbdnndkiaaPk
import Derived.Deep.RegionLaw
namespace Go.Proofs.Ytgopadbdnndkiaa.Pt
open Go.RowKit Str
attribute [local go_sem] Oper.semAt_some
theorem le_succ_int (k : Nat) : ((k : Int) ≤ (k : Int) + 1) = True := eq_true (by omega)
attribute [local go_sem] le_succ_int
theorem fresh_snoc {n : Nat} : ∀ {rs : List Nat} {set r : Nat}, Fresh n set rs → r ∈ Plt.leftL n (rs.foldl Plt.put set) → Fresh n set (rs ++ [r])
  | [], _, _, _, h => ⟨h, trivial⟩
  | _q :: _t, _set, _r, hf, h => ⟨hf.1, fresh_snoc hf.2 h⟩
/-- the codes of strokes -/
def codesL (l : List Stk) (js : List Nat) : List Int := js.map fun j => codeI (l.getD j stk0)
/-- the strokes that are left -/
structure LeftJ (l : List Stk) (rs js : List Nat) : Prop where
  fresh : Fresh l.length 0 rs
  nodup : js.Nodup
  lt : ∀ j ∈ js, j < l.length
  left : ∀ j ∈ js, (setOf rs).testBit j = false
  len : rs.length + js.length = l.length
theorem int_row' : (Try.prog.info? 3).map (fun i => (i.zero, i.size, i.bytes)) = some (some (.int .i64 0), 1, 8) := by kernel_rfl
theorem LeftJ.start (l : List Stk) : LeftJ l [] (List.range l.length) := ⟨trivial, List.nodup_range, fun j hj => List.mem_range.1 hj, fun j _ => by simp [setOf], by simp⟩
theorem LeftJ.next {l : List Stk} {rs js : List Nat} (h : LeftJ l rs js) {k : Nat} (hk : k < js.length) {r : Nat} (hr : r / 2 = js.getD k 0) : LeftJ l (rs ++ [r]) (js.take k ++ js.drop (k + 1)) ∧ r < 2 * l.length := by
  have hm : js.getD k 0 ∈ js := getD_mem hk
  have hlt := h.lt _ hm
  have hlf := h.left _ hm
  have hsub : ∀ j ∈ js.take k ++ js.drop (k + 1), j ∈ js := fun j hj => by
    rcases List.mem_append.1 hj with hj | hj
    · exact List.mem_of_mem_take hj
    · exact List.mem_of_mem_drop hj
  have hsp : js = js.take k ++ js.getD k 0 :: js.drop (k + 1) := by
    have e : js.getD k 0 = js[k] := by simp [List.getD, List.getElem?_eq_getElem hk]
    rw [e, ← List.drop_eq_getElem_cons hk, List.take_append_drop]
  have hnd := h.nodup
  rw [hsp] at hnd
  have hne : ∀ j ∈ js.take k ++ js.drop (k + 1), j ≠ js.getD k 0 := fun j hj e => by
    rw [List.nodup_append] at hnd
    obtain ⟨_, n2, n3⟩ := hnd
    rw [List.nodup_cons] at n2
    rcases List.mem_append.1 hj with hj | hj
    · exact n3 j hj _ (by simp) e
    · exact n2.1 (e ▸ hj)
  refine ⟨⟨fresh_snoc h.fresh (Plt.mem_left.2 ⟨by omega, by rw [hr]; exact hlf⟩), ?_, fun j hj => h.lt j (hsub j hj), fun j hj => ?_, ?_⟩, by omega⟩
  · rw [List.nodup_append] at hnd ⊢
    obtain ⟨n1, n2, n3⟩ := hnd
    rw [List.nodup_cons] at n2
    exact ⟨n1, n2.2, fun a ha b hb => n3 a ha b (by simp [hb])⟩
  · rw [setOf_snoc, Plt.put_bit, h.left j (hsub j hj), hr, decide_eq_false (Ne.symm (hne j hj))]
    rfl
  · have := h.len
    simp only [List.length_append, List.length_take, List.length_drop, List.length_cons, List.length_nil]
    omega
theorem codesL_append (l : List Stk) (a b : List Nat) : codesL l (a ++ b) = codesL l a ++ codesL l b := List.map_append
theorem codesL_length (l : List Stk) (a : List Nat) : (codesL l a).length = a.length := List.length_map _
theorem codesL_take (l : List Stk) (a : List Nat) (k : Nat) : codesL l (a.take k) = (codesL l a).take k := by simp [codesL]
theorem codesL_drop (l : List Stk) (a : List Nat) (k : Nat) : codesL l (a.drop k) = (codesL l a).drop k := by simp [codesL]
theorem codesL_get (l : List Stk) {a : List Nat} {k : Nat} (h : k < a.length) : (ivs (codesL l a))[k]? = some (.int .i64 (codeI (l.getD (a.getD k 0) stk0))) := by
  simp [ivs, codesL, List.getD, List.getElem?_eq_getElem h]
theorem own_as {w : World} {base n n' : Nat} {e : TypeId} {v : Value} {xs ys : List Value} (h : w.ownsRow base e 1 v n xs) (hx : ys = xs) (hn : ys.length = n') : w.ownsRow base e 1 v n' ys := by
  subst hx
  have h1 := h.1
  obtain rfl : n = n' := by omega
  exact h
theorem add_row (g o j : Nat) : (⟨g, o, none⟩ : Addr).add j = ⟨g, o + j, none⟩ := by unfold Addr.add; split <;> simp_all
theorem news_of {W : World} {g k : Nat} {xs : List Value} (h : ∀ j u, xs[j]? = some u → W.cell? ⟨g, j, none⟩ = some u) (o : Obj) (j : Nat) (u : Value) (hj : (xs.take k)[j]? = some u) : ((W.alloc o).drew).cell? ((⟨g, 0, none⟩ : Addr).add j) = some u := by
  have h1 : xs[j]? = some u := by
    rw [List.getElem?_take] at hj
    split at hj
    · exact hj
    · cases hj
  rw [add_row, Nat.zero_add]
  exact keep_alloc o (h j u h1)
theorem news_from {W : World} {g k : Nat} {xs : List Value} (h : ∀ j u, xs[j]? = some u → W.cell? ⟨g, j, none⟩ = some u) (j : Nat) (u : Value) (hj : (xs.drop k)[j]? = some u) : W.cell? ((⟨g, k, none⟩ : Addr).add j) = some u := by
  rw [List.getElem?_drop] at hj
  rw [add_row]
  exact h _ u hj
set_option maxRecDepth 100000 in
set_option maxHeartbeats 4000000 in
theorem rides26_any (A : Option Addr) (c : Nat) (l : List Stk) (Y : Option Addr) (cy : Nat) (ys : List Int) (w : World) (hP : PageAt w A l) (hO : PageOk l) (hc : l.length ≤ c) (hY : IntsAt w Y ys) (hI : ∀ y ∈ ys, I64 y) (hcy : ys.length ≤ cy) (hyl : ys.length ≤ 9223372036854775807) :
    Calls Try.prog 13 #[.slice A l.length c, .slice Y ys.length cy] w fun e w' => ∃ v rs, e = .returned v ∧ Fresh l.length 0 rs ∧ rs.length = l.length ∧ w'.ownsRow w.heap.size 35 2 v l.length (rcells (rs.map (rdv l))) ∧ Below w.heap.size w w' := by
  obtain ⟨i0, hin0, hz0, hz1, hz2⟩ := info_parts ride_info
  obtain ⟨j0, hjn0, hy0, hy1, hy2⟩ := info_parts int_row'
  have hlen : (l.length : Int) ≤ 9 := by have := hO.len; omega
  have hcc : (l.length : Int) ≤ (c : Int) := by omega
  have hcy' : (ys.length : Int) ≤ (cy : Int) := by omega
  have hyl' : (ys.length : Int) ≤ 9223372036854775807 := by omega
  have HP := Lib.hid hP
  have HO := Lib.hid hO
  have HY := Lib.hid hY
  have HI := Lib.hid hI
  clear hP hO hY hI
  go_enter Try.func13, Try.ntmps13
  go_wp2_with fail
  go_loopw [5, 6] (fun v j wr => ∃ k : Nat, k ≤ l.length ∧ j = .int .i64 (k : Int) ∧ wr.ownsRow w.heap.size 3 1 v k (ivs (codesL l (List.range k))) ∧ Below w.heap.size w wr) (fun _ j _ => l.length - (intOf j).toNat)
  case atStart => exact ⟨0, by omega, rfl, World.ownsRow_nil _ _ _ _, Below.refl _ _⟩
  case round =>
    obtain ⟨k, hk, rfl, hown, hB⟩ := hrel
    by_cases hlt : k < l.length
    · have hv := HO.out.each k hlt
      have hcs := HO.out.cap k hlt
      obtain ⟨s, hs⟩ : ∃ s, l.getD k stk0 = s := ⟨_, rfl⟩
      obtain ⟨b, o, rfl, hS⟩ := (HP.out.then_ hB) k hlt
      rw [hs] at hv hcs hS
      have c0 := hS.p
      have c1 := hS.n
      have c2 := hS.d
      have HC := Lib.hid (codeR_yes s.P s.N s.A s.c s.D wr hS.dots hv hcs)
      have hcode : 1000 * s.P + s.N = codeI s := rfl
      have HCE := Lib.hid hcode
      have hkl : (k : Int) < (l.length : Int) := by omega
      have hk0 : (0 : Int) ≤ (k : Int) := by omega
      have HSS := Lib.hid hs
      have HB := Lib.hid hB
      have HOW := Lib.hid hown
      clear hv hcs hs hS hB hown hcode
      go_wp2_with fail
      refine HC.out.mono ?_
      rintro e w1 ⟨rfl, b1⟩
      have HB1 := Lib.hid (below_next HB.out b1)
      have HOW1 := Lib.hid (own_then HOW.out b1)
      have hbs := HB1.out.size
      clear b1 HC
      go_wp2_with (at_builtin; refine wpList_append1 rfl _ _ 23 rfl w.heap.size 3 j0 _ 1 8 Try.underlying23 hjn0 hy0 hy1 hy2 rfl (by omega) (by omega) _ k _ rfl HOW1.out #[.int .i64 (1000 * s.P + s.N)] rfl rfl (by simp [Value.oneCell']) (by omega) (by omega) ?_; intro g' c' w' own' k' _; have OW := Lib.hid own'; have BW := Lib.hid (k'.below_next HB1.out hbs (fun q hq => (HOW1.out.lt q (own_mem hq)).1)); clear own' k')
      refine ⟨⟨k + 1, by omega, by go_num, ?_, BW.out⟩, by simp [intOf]; omega⟩
      have h := OW.out
      rw [List.range_succ, codesL_append, ivs_append]
      rw [show ivs (codesL l [k]) = [.int .i64 (1000 * s.P + s.N)] by simp only [ivs, codesL, List.map_cons, List.map_nil, HSS.out]; rfl]
      exact h
    · obtain rfl : k = l.length := by omega
      have HOW := Lib.hid hown
      have HB := Lib.hid hB
      clear hown hB
      go_wp2_with fail
      go_loopw [5, 7, 8] (fun v o j wr => ∃ (rs js : List Nat), LeftJ l rs js ∧ j = .int .i64 (rs.length : Int) ∧ wr.ownsRow w.heap.size 3 1 v js.length (ivs (codesL l js)) ∧ wr.ownsRow w.heap.size 35 2 o rs.length (rcells (rs.map (rdv l))) ∧ (∀ g, v.ownBlock = some g → o.ownBlock ≠ some g) ∧ Below w.heap.size w wr) (fun _ _ j _ => l.length - (intOf j).toNat)
      case atStart => exact ⟨[], List.range l.length, LeftJ.start l, rfl, by rw [List.length_range]; exact HOW.out, World.ownsRow_nil _ _ _ _, fun g _ h => (by cases h), HB.out⟩
      case round =>
        obtain ⟨rs, js, hLJ, rfl, hv, ho, hne, hB⟩ := hrel
        obtain ⟨J, hJ⟩ : ∃ J, js.length = J := ⟨_, rfl⟩
        obtain ⟨K, hK⟩ : ∃ K, rs.length = K := ⟨_, rfl⟩
        have hJK := hLJ.len
        rw [hJ, hK] at hJK
        rw [hJ] at hv
        rw [hK] at ho ⊢
        by_cases hJ0 : 0 < J
        · obtain ⟨gl, cl, rfl, hgl1, hgl2⟩ := hv.form hJ0
          have hcl : J ≤ cl := by
            obtain ⟨A9, c9, e9, h9⟩ := own_slice hv
            injection e9 with _ _ e9
            omega
          obtain ⟨nn, hn1, hn2⟩ : ∃ nn : Nat, nn < 1000 ∧ ∀ (hh : K < ys.length), pickI (ys.getD K 0) 1000 = (nn : Int) := by
            by_cases hh : K < ys.length
            · have hb := pickI_bd (ys.getD K 0) (n := 1000) (by omega)
              exact ⟨(pickI (ys.getD K 0) 1000).toNat, by omega, fun _ => by omega⟩
            · exact ⟨0, by omega, fun h => absurd h hh⟩
          have HV := Lib.hid hv
          have HOO := Lib.hid ho
          have HNE := Lib.hid hne
          have HB := Lib.hid hB
          have HLJ := Lib.hid hLJ
          have HJ := Lib.hid hJ
          have HK := Lib.hid hK
          have hJ1 : (0 : Int) < (J : Int) := by omega
          have hJ9 : (J : Int) ≤ 9 := by omega
          have hK0 : (0 : Int) ≤ (K : Int) := by omega
          have hK9 : (K : Int) ≤ 9 := by omega
          have hJc : (J : Int) ≤ (cl : Int) := by omega
          clear hv ho hne hB hLJ hJ hK
          by_cases hh : K < ys.length
          · have hpk := hn2 hh
            obtain ⟨b9, o9, rfl, c9⟩ := (HY.out.then_ HB.out) K hh
            have hi9 := HI.out (ys.getD K 0) (by simp only [List.getD, List.getElem?_eq_getElem hh, Option.getD_some]; exact List.getElem_mem _)
            obtain ⟨y9, hy9⟩ : ∃ y9, ys.getD K 0 = y9 := ⟨_, rfl⟩
            rw [hy9] at c9 hi9 hpk
            have HPK := Lib.hid (pickR_any y9 1000 wr hi9 (by omega) (by omega))
            rw [hpk] at HPK
            have hKy : (K : Int) < (ys.length : Int) := by omega
            clear hpk hy9 hn2 hi9
            go_wp2_with fail
            refine HPK.out.mono ?_
            rintro e w9 ⟨rfl, rfl⟩
            obtain ⟨h0, hh0⟩ : ∃ h0, nn / 2 = h0 := ⟨_, rfl⟩
            obtain ⟨kk, hkk⟩ : ∃ kk, h0 % J = kk := ⟨_, rfl⟩
            have hkJ : kk < J := by rw [← hkk]; exact Nat.mod_lt _ hJ0
            have e1 : (nn : Int) / 2 = (h0 : Int) := by omega
            have e2 : (h0 : Int) % (J : Int) = (kk : Int) := by rw [← hkk]; exact (Int.natCast_emod h0 J).symm
            obtain ⟨bb, hbb⟩ : ∃ bb, (nn % 2 == 1) = bb := ⟨_, rfl⟩
            have e3 : (((nn : Int) % 2) == 1) = bb := by
              rw [← hbb]
              rcases Nat.mod_two_eq_zero_or_one nn with h | h
              · rw [h, show (nn : Int) % 2 = 0 by omega]; rfl
              · rw [h, show (nn : Int) % 2 = 1 by omega]; rfl
            have c0 : wr.cell? ⟨gl, kk, none⟩ = some (.int .i64 (codeI (l.getD (js.getD kk 0) stk0))) := (HV.out.cellAt kk (by omega)).trans (codesL_get l (by rw [HJ.out]; exact hkJ))
            obtain ⟨C, hC⟩ : ∃ C, codeI (l.getD (js.getD kk 0) stk0) = C := ⟨_, rfl⟩
            rw [hC] at c0
            obtain ⟨r, hr⟩ : ∃ r, 2 * js.getD kk 0 + nn % 2 = r := ⟨_, rfl⟩
            have HR1 := Lib.hid (show r / 2 = js.getD kk 0 by omega)
            have HR2 := Lib.hid (show rdv l r = (C, bb) by rw [rdv, show r / 2 = js.getD kk 0 by omega, hC, show r % 2 = nn % 2 by omega, hbb])
            have hk0 : (0 : Int) ≤ (kk : Int) := by omega
            have hkJ' : (kk : Int) < (J : Int) := by omega
            have hn0 : (0 : Int) ≤ (nn : Int) := by omega
            have hh00 : (0 : Int) ≤ (h0 : Int) := by omega
            have hbs := HB.out.size
            have E2 := Lib.hid e2
            clear hh0 hkk hbb hC hr e2 HPK
            have e2 := E2.out
            -- tail 1
            go_wp2_with (at_builtin; refine wpList_append1 rfl _ _ 27 rfl w.heap.size 35 i0 _ 2 16 Try.underlying27 hin0 hz0 hz1 hz2 rfl (by omega) (by omega) _ K _ rfl HOO.out #[.int .i64 C, .bool bb] rfl rfl (by simp [Value.oneCell']) (by omega) (by omega) ?_; intro g' c' w2 own' k' n'; have OW := Lib.hid own'; have KW := Lib.hid k'; have NW := Lib.hid n'; clear own' k' n')
            have hgo : ∀ q, q ∈ u7.ownBlock.toList → q ≠ gl := fun q hq e => HNE.out gl rfl (by rw [← e]; exact own_mem hq)
            have HV2 := Lib.hid (KW.out.own HV.out (fun q hq e => hgo q e (by injection hq with hq; exact hq.symm)))
            have HB2 := Lib.hid (KW.out.below_next HB.out hbs (fun q hq => (HOO.out.lt q (own_mem hq)).1))
            have hs2 := KW.out.size
            have hgg : gl ≠ g' := by
              rcases NW.out with h | h
              · exact fun e => hgo g' (mem_own h) e.symm
              · omega
            have hgl2 := (HV2.out.lt gl rfl).2
            have HGG := Lib.hid hgg
            have HNL := Lib.hid (fun j u (hj : (ivs (codesL l js))[j]? = some u) => show w2.cell? ⟨gl, j, none⟩ = some u from by
              have hjl := (List.getElem?_eq_some_iff.1 hj).1
              rw [ivs_length, codesL_length, HJ.out] at hjl
              rw [HV2.out.cellAt j (by omega)]; exact hj)
            have hlv : (ivs (codesL l js)).length = J := by rw [ivs_length, codesL_length, HJ.out]
            have HLV := Lib.hid hlv
            have hone : ∀ u ∈ ivs (codesL l js), u.oneCell' = true := fun u hu => by
              obtain ⟨x, _, rfl⟩ := List.mem_map.1 hu
              rfl
            have HONE := Lib.hid hone
            have HE0 := Lib.hid (World.ownsRow_lit (base := w.heap.size) (e := 3) (size := 1) w2 #[] 0 (by omega) (by unfold maxLen; omega) rfl)
            clear hgo hgg c0 HNE hlv hone
            have I1 := Lib.hid hjn0
            have I2 := Lib.hid hy0
            have I3 := Lib.hid hy1
            have I4 := Lib.hid hy2
            clear hjn0 hy0 hy1 hy2
            have h5 : ((kk : Nat) : Int) ≤ (cl : Int) := by omega
            have h6 : IntKind.i64.wrap (((kk : Nat) : Int) + 1) = ((kk : Nat) : Int) + 1 := IntWalk.i64_in _ (by omega)
            have h8 : IntKind.i64.wrap 1 = 1 := rfl
            have h9 : (1 : Int) ≤ (J : Int) := by omega
            have h7 : (0 : Int) ≤ ((kk : Nat) : Int) + 1 := by omega
            have h3 : ((kk : Nat) : Int) + 1 ≤ (cl : Int) := by omega
            have h4 : ((kk : Nat) : Int) + 1 ≤ (J : Int) := by omega
            rcases (show ¬ cl = kk + 1 ∨ (kk + 1 = J ∧ cl = kk + 1) by omega) with h2 | ⟨h1, h2⟩
            · go_wp2_with fail
              go_region_law (first | (refine step_appendN (by rfl) (.tmp 55) (.tmp 58) 23 (by rfl) w.heap.size 3 j0 _ 1 8 Try.underlying23 I1.out I2.out I3.out I4.out rfl (by omega) (.slice (some ⟨w2.heap.size, 0, none⟩) 0 0) 0 [] (by rfl) (HE0.out.drew) ⟨gl, 0, none⟩ kk cl ((ivs (codesL l js)).take kk) (by rfl) (by rw [List.length_take, HLV.out]; omega) (fun j u h => news_of (W := w2) HNL.out (.cells #[] 3) j u h) (fun u hu => HONE.out u (List.mem_of_mem_take hu)) (by unfold maxLen; omega) (by omega) (by simp; omega) ?_; intro v1 w3 own1 k1 n1; have K1 := Lib.hid k1; have N1 := Lib.hid n1; have nl3 : ∀ j u, (ivs (codesL l js))[j]? = some u → w3.cell? ⟨gl, j, none⟩ = some u := (fun j u h => k1.cell (show ((w2.alloc (.cells #[] 3)).drew).cell? ⟨gl, j, none⟩ = some u from keep_alloc _ (HNL.out j u h)) (fun e => by have h9 : w2.heap.size = gl := (by simpa [Value.ownBlock] using own_mem e); omega)); have h33 := k1.size; rw [World.size_drew, World.size_alloc] at h33) | (refine step_appendN (by rfl) (.tmp 59) (.tmp 63) 23 (by rfl) w.heap.size 3 j0 _ 1 8 Try.underlying23 I1.out I2.out I3.out I4.out rfl (by omega) v1 (0 + kk) _ (by rfl) own1 ⟨gl, kk + 1, none⟩ (J - (kk + 1)) (cl - (kk + 1)) ((ivs (codesL l js)).drop (kk + 1)) (by rfl) (by rw [List.length_drop, HLV.out]; omega) (fun j u h => news_from (fun j u h => nl3 j u h) j u h) (fun u hu => HONE.out u (List.mem_of_mem_drop hu)) (by unfold maxLen; omega) (by omega) (by omega) ?_; intro v2 w4 own2 k2 n2))
              all_goals
                have hkw : Kept v1.ownBlock.toList w3 w4 := k2
                have hq1 : ∀ q, v1.ownBlock = some q → w2.heap.size ≤ q := fun q hq => by
                  rcases N1.out q hq with h | h
                  · have : w2.heap.size = q := by simpa [Value.ownBlock] using h
                    omega
                  · rw [World.size_drew, World.size_alloc] at h; omega
                have hg2 := (OW.out.lt g' rfl).2
                have hO3 := K1.out.own ((OW.out.alloc (.cells #[] 3)).drew) (fun q hq e => by
                  have e1 : g' = q := by simpa [Value.ownBlock] using hq
                  have e2 : w2.heap.size = q := by simpa [Value.ownBlock] using own_mem e
                  omega)
                have hO4 := hkw.own hO3 (fun q hq e => by
                  have e1 : g' = q := by simpa [Value.ownBlock] using hq
                  have := hq1 q (own_mem e)
                  omega)
                have hB3 : Below w.heap.size w w3 := by
                  have hb0 := (below_alloc HB2.out (.cells #[] 3)).drew
                  exact K1.out.below_next hb0 hb0.size (fun q hq => by
                    have : w2.heap.size = q := by simpa [Value.ownBlock] using own_mem hq
                    omega)
                have hB4 : Below w.heap.size w w4 := hkw.below_next hB3 hB3.size (fun q hq => by have := hq1 q (own_mem hq); omega)
                have hn4 : ∀ g, v2.ownBlock = some g → (Value.slice (some ⟨g', 0, none⟩) (K + 1) c').ownBlock ≠ some g := fun g hg e => by
                  have e1 : g' = g := by simpa [Value.ownBlock] using e
                  rcases n2 g hg with h | h
                  · have := hq1 g h; omega
                  · omega
                have hown : w4.ownsRow w.heap.size 3 1 v2 (js.take kk ++ js.drop (kk + 1)).length (ivs (codesL l (js.take kk ++ js.drop (kk + 1)))) :=
                  own_as own2 (by rw [codesL_append, codesL_take, codesL_drop, ivs_append, ivs, ivs, List.map_take, List.map_drop]; simp [ivs]) (by rw [ivs_length, codesL_length])
                have hout : w4.ownsRow w.heap.size 35 2 (.slice (some ⟨g', 0, none⟩) (K + 1) c') (rs ++ [r]).length (rcells ((rs ++ [r]).map (rdv l))) := by
                  rw [List.length_append, HK.out, List.map_append, rcells_append, List.map_cons, HR2.out]
                  exact hO4
                have hnx := HLJ.out.next (k := kk) (by rw [HJ.out]; exact hkJ) HR1.out
                have HX := Lib.hid (show LeftJ l (rs ++ [r]) (js.take kk ++ js.drop (kk + 1)) ∧ w4.ownsRow w.heap.size 3 1 v2 (js.take kk ++ js.drop (kk + 1)).length (ivs (codesL l (js.take kk ++ js.drop (kk + 1)))) ∧ w4.ownsRow w.heap.size 35 2 (.slice (some ⟨g', 0, none⟩) (K + 1) c') (rs ++ [r]).length (rcells ((rs ++ [r]).map (rdv l))) ∧ (∀ g, v2.ownBlock = some g → (Value.slice (some ⟨g', 0, none⟩) (K + 1) c').ownBlock ≠ some g) ∧ Below w.heap.size w w4 from ⟨hnx.1, hown, hout, hn4, hB4⟩)
                clear hkw hq1 hg2 hO3 hO4 hB3 hB4 hn4 hown hout hnx nl3 k1 n1 k2 n2 own1 own2
                go_wp2_with fail
                refine ⟨⟨rs ++ [r], js.take kk ++ js.drop (kk + 1), HX.out.1, by rw [List.length_append, HK.out]; go_num, HX.out.2.1, HX.out.2.2.1, HX.out.2.2.2.1, HX.out.2.2.2.2⟩, ?_⟩
                simp [intOf]; omega
            · have HJK1 := Lib.hid h1
              clear h1
              subst h2
              go_wp2_with fail
              go_region_law (first | (refine step_appendN (by rfl) (.tmp 55) (.tmp 58) 23 (by rfl) w.heap.size 3 j0 _ 1 8 Try.underlying23 I1.out I2.out I3.out I4.out rfl (by omega) (.slice (some ⟨w2.heap.size, 0, none⟩) 0 0) 0 [] (by rfl) (HE0.out.drew) ⟨gl, 0, none⟩ kk _ ((ivs (codesL l js)).take kk) (by rfl) (by rw [List.length_take, HLV.out]; omega) (fun j u h => news_of (W := w2) HNL.out (.cells #[] 3) j u h) (fun u hu => HONE.out u (List.mem_of_mem_take hu)) (by unfold maxLen; omega) (by omega) (by simp; omega) ?_; intro v1 w3 own1 k1 n1; have K1 := Lib.hid k1; have N1 := Lib.hid n1; have nl3 : ∀ j u, (ivs (codesL l js))[j]? = some u → w3.cell? ⟨gl, j, none⟩ = some u := (fun j u h => k1.cell (show ((w2.alloc (.cells #[] 3)).drew).cell? ⟨gl, j, none⟩ = some u from keep_alloc _ (HNL.out j u h)) (fun e => by have h9 : w2.heap.size = gl := (by simpa [Value.ownBlock] using own_mem e); omega)); have h33 := k1.size; rw [World.size_drew, World.size_alloc] at h33) | (refine step_appendN (by rfl) (.tmp 59) (.tmp 63) 23 (by rfl) w.heap.size 3 j0 _ 1 8 Try.underlying23 I1.out I2.out I3.out I4.out rfl (by omega) v1 (0 + kk) _ (by rfl) own1 _ _ _ ((ivs (codesL l js)).drop (kk + 1)) (by rfl) (by have := HJK1.out; rw [List.length_drop, HLV.out]; omega) (fun j u h => by rw [List.drop_eq_nil_of_le (by have := HJK1.out; rw [HLV.out]; omega)] at h; cases h) (fun u hu => HONE.out u (List.mem_of_mem_drop hu)) (by unfold maxLen; omega) (by omega) (by omega) ?_; intro v2 w4 own2 k2 n2))
              all_goals
                have hkw : Kept v1.ownBlock.toList w3 w4 := k2
                have hq1 : ∀ q, v1.ownBlock = some q → w2.heap.size ≤ q := fun q hq => by
                  rcases N1.out q hq with h | h
                  · have : w2.heap.size = q := by simpa [Value.ownBlock] using h
                    omega
                  · rw [World.size_drew, World.size_alloc] at h; omega
                have hg2 := (OW.out.lt g' rfl).2
                have hO3 := K1.out.own ((OW.out.alloc (.cells #[] 3)).drew) (fun q hq e => by
                  have e1 : g' = q := by simpa [Value.ownBlock] using hq
                  have e2 : w2.heap.size = q := by simpa [Value.ownBlock] using own_mem e
                  omega)
                have hO4 := hkw.own hO3 (fun q hq e => by
                  have e1 : g' = q := by simpa [Value.ownBlock] using hq
                  have := hq1 q (own_mem e)
                  omega)
                have hB3 : Below w.heap.size w w3 := by
                  have hb0 := (below_alloc HB2.out (.cells #[] 3)).drew
                  exact K1.out.below_next hb0 hb0.size (fun q hq => by
                    have : w2.heap.size = q := by simpa [Value.ownBlock] using own_mem hq
                    omega)
                have hB4 : Below w.heap.size w w4 := hkw.below_next hB3 hB3.size (fun q hq => by have := hq1 q (own_mem hq); omega)
                have hn4 : ∀ g, v2.ownBlock = some g → (Value.slice (some ⟨g', 0, none⟩) (K + 1) c').ownBlock ≠ some g := fun g hg e => by
                  have e1 : g' = g := by simpa [Value.ownBlock] using e
                  rcases n2 g hg with h | h
                  · have := hq1 g h; omega
                  · omega
                have hown : w4.ownsRow w.heap.size 3 1 v2 (js.take kk ++ js.drop (kk + 1)).length (ivs (codesL l (js.take kk ++ js.drop (kk + 1)))) :=
                  own_as own2 (by rw [codesL_append, codesL_take, codesL_drop, ivs_append, ivs, ivs, List.map_take, List.map_drop]; simp [ivs]) (by rw [ivs_length, codesL_length])
                have hout : w4.ownsRow w.heap.size 35 2 (.slice (some ⟨g', 0, none⟩) (K + 1) c') (rs ++ [r]).length (rcells ((rs ++ [r]).map (rdv l))) := by
                  rw [List.length_append, HK.out, List.map_append, rcells_append, List.map_cons, HR2.out]
                  exact hO4
                have hnx := HLJ.out.next (k := kk) (by rw [HJ.out]; exact hkJ) HR1.out
                have HX := Lib.hid (show LeftJ l (rs ++ [r]) (js.take kk ++ js.drop (kk + 1)) ∧ w4.ownsRow w.heap.size 3 1 v2 (js.take kk ++ js.drop (kk + 1)).length (ivs (codesL l (js.take kk ++ js.drop (kk + 1)))) ∧ w4.ownsRow w.heap.size 35 2 (.slice (some ⟨g', 0, none⟩) (K + 1) c') (rs ++ [r]).length (rcells ((rs ++ [r]).map (rdv l))) ∧ (∀ g, v2.ownBlock = some g → (Value.slice (some ⟨g', 0, none⟩) (K + 1) c').ownBlock ≠ some g) ∧ Below w.heap.size w w4 from ⟨hnx.1, hown, hout, hn4, hB4⟩)
                clear hkw hq1 hg2 hO3 hO4 hB3 hB4 hn4 hown hout hnx nl3 k1 n1 k2 n2 own1 own2
                go_wp2_with fail
                refine ⟨⟨rs ++ [r], js.take kk ++ js.drop (kk + 1), HX.out.1, by rw [List.length_append, HK.out]; go_num, HX.out.2.1, HX.out.2.2.1, HX.out.2.2.2.1, HX.out.2.2.2.2⟩, ?_⟩
                simp [intOf]; omega
            -- end
          · have hKy : ¬ (K : Int) < (ys.length : Int) := by omega
            clear hn2
            have c0 : wr.cell? ⟨gl, 0, none⟩ = some (.int .i64 (codeI (l.getD (js.getD 0 0) stk0))) := (HV.out.cellAt 0 (by omega)).trans (codesL_get l (by rw [HJ.out]; exact hJ0))
            obtain ⟨C, hC⟩ : ∃ C, codeI (l.getD (js.getD 0 0) stk0) = C := ⟨_, rfl⟩
            rw [hC] at c0
            obtain ⟨r, hr⟩ : ∃ r, 2 * js.getD 0 0 = r := ⟨_, rfl⟩
            have HR1 := Lib.hid (show r / 2 = js.getD 0 0 by omega)
            have HR2 := Lib.hid (show rdv l r = (C, false) by rw [rdv, show r / 2 = js.getD 0 0 by omega, hC, show r % 2 = 0 by omega]; rfl)
            have hkJ : 0 < J := hJ0
            have hbs := HB.out.size
            clear hC hr
            -- tail 2
            go_wp2_with (at_builtin; refine wpList_append1 rfl _ _ 27 rfl w.heap.size 35 i0 _ 2 16 Try.underlying27 hin0 hz0 hz1 hz2 rfl (by omega) (by omega) _ K _ rfl HOO.out #[.int .i64 C, .bool false] rfl rfl (by simp [Value.oneCell']) (by omega) (by omega) ?_; intro g' c' w2 own' k' n'; have OW := Lib.hid own'; have KW := Lib.hid k'; have NW := Lib.hid n'; clear own' k' n')
            have hgo : ∀ q, q ∈ u7.ownBlock.toList → q ≠ gl := fun q hq e => HNE.out gl rfl (by rw [← e]; exact own_mem hq)
            have HV2 := Lib.hid (KW.out.own HV.out (fun q hq e => hgo q e (by injection hq with hq; exact hq.symm)))
            have HB2 := Lib.hid (KW.out.below_next HB.out hbs (fun q hq => (HOO.out.lt q (own_mem hq)).1))
            have hs2 := KW.out.size
            have hgg : gl ≠ g' := by
              rcases NW.out with h | h
              · exact fun e => hgo g' (mem_own h) e.symm
              · omega
            have hgl2 := (HV2.out.lt gl rfl).2
            have HGG := Lib.hid hgg
            have HNL := Lib.hid (fun j u (hj : (ivs (codesL l js))[j]? = some u) => show w2.cell? ⟨gl, j, none⟩ = some u from by
              have hjl := (List.getElem?_eq_some_iff.1 hj).1
              rw [ivs_length, codesL_length, HJ.out] at hjl
              rw [HV2.out.cellAt j (by omega)]; exact hj)
            have hlv : (ivs (codesL l js)).length = J := by rw [ivs_length, codesL_length, HJ.out]
            have HLV := Lib.hid hlv
            have hone : ∀ u ∈ ivs (codesL l js), u.oneCell' = true := fun u hu => by
              obtain ⟨x, _, rfl⟩ := List.mem_map.1 hu
              rfl
            have HONE := Lib.hid hone
            have HE0 := Lib.hid (World.ownsRow_lit (base := w.heap.size) (e := 3) (size := 1) w2 #[] 0 (by omega) (by unfold maxLen; omega) rfl)
            clear hgo hgg c0 HNE hlv hone
            have I1 := Lib.hid hjn0
            have I2 := Lib.hid hy0
            have I3 := Lib.hid hy1
            have I4 := Lib.hid hy2
            clear hjn0 hy0 hy1 hy2
            have h5 : ((0 : Nat) : Int) ≤ (cl : Int) := by omega
            have h6 : IntKind.i64.wrap (((0 : Nat) : Int) + 1) = ((0 : Nat) : Int) + 1 := IntWalk.i64_in _ (by omega)
            have h8 : IntKind.i64.wrap 1 = 1 := rfl
            have h9 : (1 : Int) ≤ (J : Int) := by omega
            have h7 : (0 : Int) ≤ ((0 : Nat) : Int) + 1 := by omega
            have h3 : ((0 : Nat) : Int) + 1 ≤ (cl : Int) := by omega
            have h4 : ((0 : Nat) : Int) + 1 ≤ (J : Int) := by omega
            rcases (show ¬ cl = 0 + 1 ∨ (0 + 1 = J ∧ cl = 0 + 1) by omega) with h2 | ⟨h1, h2⟩
            · go_wp2_with fail
              go_region_law (first | (refine step_appendN (by rfl) (.tmp 55) (.tmp 58) 23 (by rfl) w.heap.size 3 j0 _ 1 8 Try.underlying23 I1.out I2.out I3.out I4.out rfl (by omega) (.slice (some ⟨w2.heap.size, 0, none⟩) 0 0) 0 [] (by rfl) (HE0.out.drew) ⟨gl, 0, none⟩ 0 cl ((ivs (codesL l js)).take 0) (by rfl) (by rw [List.length_take, HLV.out]; omega) (fun j u h => news_of (W := w2) HNL.out (.cells #[] 3) j u h) (fun u hu => HONE.out u (List.mem_of_mem_take hu)) (by unfold maxLen; omega) (by omega) (by simp; omega) ?_; intro v1 w3 own1 k1 n1; have K1 := Lib.hid k1; have N1 := Lib.hid n1; have nl3 : ∀ j u, (ivs (codesL l js))[j]? = some u → w3.cell? ⟨gl, j, none⟩ = some u := (fun j u h => k1.cell (show ((w2.alloc (.cells #[] 3)).drew).cell? ⟨gl, j, none⟩ = some u from keep_alloc _ (HNL.out j u h)) (fun e => by have h9 : w2.heap.size = gl := (by simpa [Value.ownBlock] using own_mem e); omega)); have h33 := k1.size; rw [World.size_drew, World.size_alloc] at h33) | (refine step_appendN (by rfl) (.tmp 59) (.tmp 63) 23 (by rfl) w.heap.size 3 j0 _ 1 8 Try.underlying23 I1.out I2.out I3.out I4.out rfl (by omega) v1 (0 + 0) _ (by rfl) own1 ⟨gl, 0 + 1, none⟩ (J - (0 + 1)) (cl - (0 + 1)) ((ivs (codesL l js)).drop (0 + 1)) (by rfl) (by rw [List.length_drop, HLV.out]; omega) (fun j u h => news_from (fun j u h => nl3 j u h) j u h) (fun u hu => HONE.out u (List.mem_of_mem_drop hu)) (by unfold maxLen; omega) (by omega) (by omega) ?_; intro v2 w4 own2 k2 n2))
              all_goals
                have hkw : Kept v1.ownBlock.toList w3 w4 := k2
                have hq1 : ∀ q, v1.ownBlock = some q → w2.heap.size ≤ q := fun q hq => by
                  rcases N1.out q hq with h | h
                  · have : w2.heap.size = q := by simpa [Value.ownBlock] using h
                    omega
                  · rw [World.size_drew, World.size_alloc] at h; omega
                have hg2 := (OW.out.lt g' rfl).2
                have hO3 := K1.out.own ((OW.out.alloc (.cells #[] 3)).drew) (fun q hq e => by
                  have e1 : g' = q := by simpa [Value.ownBlock] using hq
                  have e2 : w2.heap.size = q := by simpa [Value.ownBlock] using own_mem e
                  omega)
                have hO4 := hkw.own hO3 (fun q hq e => by
                  have e1 : g' = q := by simpa [Value.ownBlock] using hq
                  have := hq1 q (own_mem e)
                  omega)
                have hB3 : Below w.heap.size w w3 := by
                  have hb0 := (below_alloc HB2.out (.cells #[] 3)).drew
                  exact K1.out.below_next hb0 hb0.size (fun q hq => by
                    have : w2.heap.size = q := by simpa [Value.ownBlock] using own_mem hq
                    omega)
                have hB4 : Below w.heap.size w w4 := hkw.below_next hB3 hB3.size (fun q hq => by have := hq1 q (own_mem hq); omega)
                have hn4 : ∀ g, v2.ownBlock = some g → (Value.slice (some ⟨g', 0, none⟩) (K + 1) c').ownBlock ≠ some g := fun g hg e => by
                  have e1 : g' = g := by simpa [Value.ownBlock] using e
                  rcases n2 g hg with h | h
                  · have := hq1 g h; omega
                  · omega
                have hown : w4.ownsRow w.heap.size 3 1 v2 (js.take 0 ++ js.drop (0 + 1)).length (ivs (codesL l (js.take 0 ++ js.drop (0 + 1)))) :=
                  own_as own2 (by rw [codesL_append, codesL_take, codesL_drop, ivs_append, ivs, ivs, List.map_take, List.map_drop]; simp [ivs]) (by rw [ivs_length, codesL_length])
                have hout : w4.ownsRow w.heap.size 35 2 (.slice (some ⟨g', 0, none⟩) (K + 1) c') (rs ++ [r]).length (rcells ((rs ++ [r]).map (rdv l))) := by
                  rw [List.length_append, HK.out, List.map_append, rcells_append, List.map_cons, HR2.out]
                  exact hO4
                have hnx := HLJ.out.next (k := 0) (by rw [HJ.out]; exact hkJ) HR1.out
                have HX := Lib.hid (show LeftJ l (rs ++ [r]) (js.take 0 ++ js.drop (0 + 1)) ∧ w4.ownsRow w.heap.size 3 1 v2 (js.take 0 ++ js.drop (0 + 1)).length (ivs (codesL l (js.take 0 ++ js.drop (0 + 1)))) ∧ w4.ownsRow w.heap.size 35 2 (.slice (some ⟨g', 0, none⟩) (K + 1) c') (rs ++ [r]).length (rcells ((rs ++ [r]).map (rdv l))) ∧ (∀ g, v2.ownBlock = some g → (Value.slice (some ⟨g', 0, none⟩) (K + 1) c').ownBlock ≠ some g) ∧ Below w.heap.size w w4 from ⟨hnx.1, hown, hout, hn4, hB4⟩)
                clear hkw hq1 hg2 hO3 hO4 hB3 hB4 hn4 hown hout hnx nl3 k1 n1 k2 n2 own1 own2
                go_wp2_with fail
                refine ⟨⟨rs ++ [r], js.take 0 ++ js.drop (0 + 1), HX.out.1, by rw [List.length_append, HK.out]; go_num, HX.out.2.1, HX.out.2.2.1, HX.out.2.2.2.1, HX.out.2.2.2.2⟩, ?_⟩
                simp [intOf]; omega
            · have HJK1 := Lib.hid h1
              clear h1
              subst h2
              go_wp2_with fail
              go_region_law (first | (refine step_appendN (by rfl) (.tmp 55) (.tmp 58) 23 (by rfl) w.heap.size 3 j0 _ 1 8 Try.underlying23 I1.out I2.out I3.out I4.out rfl (by omega) (.slice (some ⟨w2.heap.size, 0, none⟩) 0 0) 0 [] (by rfl) (HE0.out.drew) ⟨gl, 0, none⟩ 0 _ ((ivs (codesL l js)).take 0) (by rfl) (by rw [List.length_take, HLV.out]; omega) (fun j u h => news_of (W := w2) HNL.out (.cells #[] 3) j u h) (fun u hu => HONE.out u (List.mem_of_mem_take hu)) (by unfold maxLen; omega) (by omega) (by simp; omega) ?_; intro v1 w3 own1 k1 n1; have K1 := Lib.hid k1; have N1 := Lib.hid n1; have nl3 : ∀ j u, (ivs (codesL l js))[j]? = some u → w3.cell? ⟨gl, j, none⟩ = some u := (fun j u h => k1.cell (show ((w2.alloc (.cells #[] 3)).drew).cell? ⟨gl, j, none⟩ = some u from keep_alloc _ (HNL.out j u h)) (fun e => by have h9 : w2.heap.size = gl := (by simpa [Value.ownBlock] using own_mem e); omega)); have h33 := k1.size; rw [World.size_drew, World.size_alloc] at h33) | (refine step_appendN (by rfl) (.tmp 59) (.tmp 63) 23 (by rfl) w.heap.size 3 j0 _ 1 8 Try.underlying23 I1.out I2.out I3.out I4.out rfl (by omega) v1 (0 + 0) _ (by rfl) own1 _ _ _ ((ivs (codesL l js)).drop (0 + 1)) (by rfl) (by have := HJK1.out; rw [List.length_drop, HLV.out]; omega) (fun j u h => by rw [List.drop_eq_nil_of_le (by have := HJK1.out; rw [HLV.out]; omega)] at h; cases h) (fun u hu => HONE.out u (List.mem_of_mem_drop hu)) (by unfold maxLen; omega) (by omega) (by omega) ?_; intro v2 w4 own2 k2 n2))
              all_goals
                have hkw : Kept v1.ownBlock.toList w3 w4 := k2
                have hq1 : ∀ q, v1.ownBlock = some q → w2.heap.size ≤ q := fun q hq => by
                  rcases N1.out q hq with h | h
                  · have : w2.heap.size = q := by simpa [Value.ownBlock] using h
                    omega
                  · rw [World.size_drew, World.size_alloc] at h; omega
                have hg2 := (OW.out.lt g' rfl).2
                have hO3 := K1.out.own ((OW.out.alloc (.cells #[] 3)).drew) (fun q hq e => by
                  have e1 : g' = q := by simpa [Value.ownBlock] using hq
                  have e2 : w2.heap.size = q := by simpa [Value.ownBlock] using own_mem e
                  omega)
                have hO4 := hkw.own hO3 (fun q hq e => by
                  have e1 : g' = q := by simpa [Value.ownBlock] using hq
                  have := hq1 q (own_mem e)
                  omega)
                have hB3 : Below w.heap.size w w3 := by
                  have hb0 := (below_alloc HB2.out (.cells #[] 3)).drew
                  exact K1.out.below_next hb0 hb0.size (fun q hq => by
                    have : w2.heap.size = q := by simpa [Value.ownBlock] using own_mem hq
                    omega)
                have hB4 : Below w.heap.size w w4 := hkw.below_next hB3 hB3.size (fun q hq => by have := hq1 q (own_mem hq); omega)
                have hn4 : ∀ g, v2.ownBlock = some g → (Value.slice (some ⟨g', 0, none⟩) (K + 1) c').ownBlock ≠ some g := fun g hg e => by
                  have e1 : g' = g := by simpa [Value.ownBlock] using e
                  rcases n2 g hg with h | h
                  · have := hq1 g h; omega
                  · omega
                have hown : w4.ownsRow w.heap.size 3 1 v2 (js.take 0 ++ js.drop (0 + 1)).length (ivs (codesL l (js.take 0 ++ js.drop (0 + 1)))) :=
                  own_as own2 (by rw [codesL_append, codesL_take, codesL_drop, ivs_append, ivs, ivs, List.map_take, List.map_drop]; simp [ivs]) (by rw [ivs_length, codesL_length])
                have hout : w4.ownsRow w.heap.size 35 2 (.slice (some ⟨g', 0, none⟩) (K + 1) c') (rs ++ [r]).length (rcells ((rs ++ [r]).map (rdv l))) := by
                  rw [List.length_append, HK.out, List.map_append, rcells_append, List.map_cons, HR2.out]
                  exact hO4
                have hnx := HLJ.out.next (k := 0) (by rw [HJ.out]; exact hkJ) HR1.out
                have HX := Lib.hid (show LeftJ l (rs ++ [r]) (js.take 0 ++ js.drop (0 + 1)) ∧ w4.ownsRow w.heap.size 3 1 v2 (js.take 0 ++ js.drop (0 + 1)).length (ivs (codesL l (js.take 0 ++ js.drop (0 + 1)))) ∧ w4.ownsRow w.heap.size 35 2 (.slice (some ⟨g', 0, none⟩) (K + 1) c') (rs ++ [r]).length (rcells ((rs ++ [r]).map (rdv l))) ∧ (∀ g, v2.ownBlock = some g → (Value.slice (some ⟨g', 0, none⟩) (K + 1) c').ownBlock ≠ some g) ∧ Below w.heap.size w w4 from ⟨hnx.1, hown, hout, hn4, hB4⟩)
                clear hkw hq1 hg2 hO3 hO4 hB3 hB4 hn4 hown hout hnx nl3 k1 n1 k2 n2 own1 own2
                go_wp2_with fail
                refine ⟨⟨rs ++ [r], js.take 0 ++ js.drop (0 + 1), HX.out.1, by rw [List.length_append, HK.out]; go_num, HX.out.2.1, HX.out.2.2.1, HX.out.2.2.2.1, HX.out.2.2.2.2⟩, ?_⟩
                simp [intOf]; omega
            -- end
        · obtain rfl : J = 0 := by omega
          have hrl : rs.length = l.length := by rw [hK]; omega
          obtain ⟨A5, c5, rfl, hc5⟩ := own_slice hv
          rw [← hK, hrl] at ho
          have HOO := Lib.hid ho
          have HB := Lib.hid hB
          have HF := Lib.hid hLJ.fresh
          have HRL := Lib.hid hrl
          clear hv ho hne hB hLJ hrl hJ hK
          go_wp2_with fail
          go_ret
          exact ⟨_, rs, rfl, HF.out, HRL.out, HOO.out, HB.out⟩
end Go.Proofs.Ytgopadbdnndkiaa.Pt
