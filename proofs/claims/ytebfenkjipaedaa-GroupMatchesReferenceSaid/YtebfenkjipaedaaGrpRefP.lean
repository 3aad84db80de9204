/- The reference's Path and Common. -/
import Derived.Test.YtebfenkjipaedaaGrpRefV
namespace Go.Proofs.Ytebfenkjipaedaa.Gr
open Go.RowKit Gp Go.Sort
attribute [local go_sem] Oper.semAt_some
theorem outR_len (l : List Grp) : ∀ (n : Nat) (id : Int), (outR l n id).length ≤ n
  | 0, _ => by simp [outR]
  | n + 1, id => by
    cases hf : find l id with
    | none => unfold outR; rw [hf]; simp
    | some g => rw [outR_some hf, List.length_cons]; have := outR_len l n g.of; omega
theorem pathR_len (l : List Grp) (c : Int) : ∀ k, k ≤ l.length → (pathR l c k).length ≤ 13 * k
  | 0, _ => by simp [pathR]
  | k + 1, h => by
    rw [pathR_succ (by omega), List.length_append]
    have := pathR_len l c k (by omega)
    have h2 := outR_len l 13 (l.getD k g0).id
    split
    · rw [List.length_reverse]; omega
    · simp; omega
theorem rev_drop {l : List Int} {m : Nat} (h : m < l.length) : (l.drop m).reverse = (l.drop (m + 1)).reverse ++ [l.getD m 0] := by
  rw [drop_getD h, List.reverse_cons]
theorem kept_own {w w' : World} {S : List Nat} {base n size : Nat} {e : TypeId} {v : Value} {xs : List Value} (h : w.ownsRow base e size v n xs) (k : Kept S w w') (hS : ∀ b, v.ownBlock = some b → b ∉ S) : w'.ownsRow base e size v n xs :=
  k.own h (fun q hq e => hS q hq e)
set_option maxRecDepth 100000 in
set_option maxHeartbeats 8000000 in
theorem rpath_yes (A : Option Addr) (c : Nat) (l : List Grp) (code : Int) (w : World) (hG : GrpsAt w A l) (hS : Sized l) (hv : Valid l) :
    Calls Try.prog 18 #[.slice A l.length c, .int .i64 code] w fun e w' => ∃ v, e = .returned (.tuple #[v, .int .i64 0]) ∧ MsAt w' v (path l code) ∧ Below w.heap.size w w' := by
  obtain ⟨j0, hj0, e0, e1, e2⟩ := info_parts int_info1
  have HG := Lib.hid hG
  have HS := Lib.hid hS
  have hll := hS.len
  have HV := Lib.hid (rvalid_any A c l w true hG hS ⟨fun _ => hv, fun _ => rfl⟩)
  have HOU := Lib.hid (fun W x (hB : Below w.heap.size w W) => routward_any A c l x W (hG.then_ hB) hll)
  have HPA := Lib.hid (pathR_all hv code)
  have HPL := Lib.hid (pathR_len l code)
  clear hG hS hv
  go_enter Try.func18, Try.ntmps18
  go_wp2_with fail
  refine HV.out.mono ?_
  rintro e w1 ⟨rfl, hb1⟩
  have B1 := Lib.hid hb1
  clear hb1 HV
  go_wp2_with fail
  go_loopw [6, 7, 8, 9] (fun u i _ _ wr => ∃ k n : Nat, k ≤ l.length ∧ n = (pathR l code k).length ∧ i = .int .i64 (k : Int) ∧ wr.ownsRow w1.heap.size 3 1 u n (ivs (pathR l code k)) ∧ Below w1.heap.size w1 wr) (fun _ i _ _ _ => l.length - (intOf i).toNat)
  case atStart => exact ⟨0, 0, by omega, rfl, rfl, World.ownsRow_nil _ _ _ _, Below.refl _ _⟩
  case round =>
    obtain ⟨k, n, hk, hn, rfl, hO, hB⟩ := hrel
    have HO := Lib.hid hO
    have HB := Lib.hid hB
    have HN := Lib.hid hn
    have hnl := HPL.out k hk
    rw [← hn] at hnl
    have HNL := Lib.hid hnl
    clear hO hB hn hnl
    by_cases hkl : k < l.length
    · have hkI : (k : Int) < (l.length : Int) := by omega
      have hk0 : (0 : Int) ≤ (k : Int) := by omega
      have BW := Lib.hid (below_next B1.out HB.out)
      obtain ⟨⟨b, o, rfl, hx⟩, ⟨Am, cm, hv, _, him, _⟩⟩ := (HG.out.then_ BW.out) k hkl
      have c0 := hx.id
      have c2 := hx.v
      rw [hv] at c2
      have hml := HS.out.mlen k hkl
      have hsu := pathR_succ (c := code) hkl
      obtain ⟨ms, hms⟩ : ∃ ms, (l.getD k g0).ms = ms := ⟨_, rfl⟩
      rw [hms] at c2 him hml hsu
      have HSU := Lib.hid hsu
      have HHS := Lib.hid (has_any Am cm ms code _ (by omega) him)
      have HO2 := Lib.hid (HOU.out _ (l.getD k g0).id BW.out)
      obtain ⟨a, ha⟩ : ∃ a, (l.getD k g0).id = a := ⟨_, rfl⟩
      rw [ha] at c0 HO2 HSU
      clear hx hv him ha hml hms hsu
      cases hc : ms.contains code with
      | false =>
        rw [hc] at HHS HSU
        clear hc c0 HO2
        go_wp2_with fail
        refine HHS.out.mono ?_
        rintro e w2 ⟨rfl, rfl⟩
        clear HHS c2
        go_wp2_with fail
        refine ⟨⟨k + 1, n, by omega, ?_, by go_num, ?_, HB.out⟩, by simp [intOf]; omega⟩
        · rw [HSU.out, if_neg (by simp), List.append_nil]; exact HN.out
        · rw [HSU.out, if_neg (by simp), List.append_nil]; exact HO.out
      | true =>
        rw [hc] at HHS HSU
        clear hc
        go_wp2_with fail
        refine HHS.out.mono ?_
        rintro e w2 ⟨rfl, rfl⟩
        clear HHS c2
        go_wp2_with fail
        refine HO2.out.mono ?_
        rintro e w3 ⟨v, rfl, hown, hb3⟩
        have hul := outR_len l 13 a
        obtain ⟨up, hup⟩ : ∃ up, outR l 13 a = up := ⟨_, rfl⟩
        rw [hup] at hown hul HSU
        obtain ⟨Av, cv, rfl, _⟩ := own_slice hown
        have HUO := Lib.hid hown
        have HO3 := Lib.hid (own_then HO.out hb3)
        have HB3 := Lib.hid (below_next HB.out hb3)
        have HNE := Lib.hid (show ∀ b, u6.ownBlock = some b → (Value.slice Av up.length cv).ownBlock ≠ some b from fun b h1 h2 => by
          have := (HO.out.lt b h1).2
          have := (hown.lt b h2).1
          omega)
        have HUB := Lib.hid (fun b (h : (Value.slice Av up.length cv).ownBlock = some b) => (hown.lt b h))
        clear hup hown hb3 c0 HO2 HO
        go_wp2_with fail
        have HW3 := Lib.hid (show w1.heap.size ≤ w3.heap.size from HB3.out.size)
        go_loopw [6, 9] (fun u i wx => ∃ (m n : Nat) (t : Int), m ≤ up.length ∧ t = (m : Int) - 1 ∧ n = (pathR l code k ++ (up.drop m).reverse).length ∧ n + m ≤ 13 * (k + 1) ∧ i = .int .i64 t ∧ wx.ownsRow w1.heap.size 3 1 u n (ivs (pathR l code k ++ (up.drop m).reverse)) ∧ wx.ownsRow wr.heap.size 3 1 (.slice Av up.length cv) up.length (ivs up) ∧ (∀ b, u.ownBlock = some b → (Value.slice Av up.length cv).ownBlock ≠ some b) ∧ Below w1.heap.size w1 wx) (fun _ i _ => (intOf i + 1).toNat)
        case atStart => exact ⟨up.length, n, _, Nat.le_refl _, rfl, by rw [List.drop_length]; simpa using HN.out, by have := HNL.out; omega, rfl, by rw [List.drop_length]; simpa using HO3.out, HUO.out, HNE.out, HB3.out⟩
        case round =>
          clear HO3 HUO HNE HUB HB3 HW3
          obtain ⟨m, n2, t, hm, ht, hn2, hnm, rfl, hO, hU, hne, hB⟩ := hrel
          have HO := Lib.hid hO
          have HU := Lib.hid hU
          have HNE := Lib.hid hne
          have HB := Lib.hid hB
          have HN2 := Lib.hid hn2
          have HNM := Lib.hid hnm
          clear hO hU hne hB hn2 hnm
          cases m with
          | zero =>
            obtain rfl : t = -1 := by omega
            have HSUB := Lib.hid (show pathR l code (k + 1) = pathR l code k ++ (up.drop 0).reverse by rw [HSU.out]; simp)
            clear ht hm
            go_wp2_with fail
            exact ⟨⟨k + 1, n2, by omega, by rw [HSUB.out]; exact HN2.out, by go_num, by rw [HSUB.out]; exact HO.out, HB.out⟩, by simp [intOf]; omega⟩
          | succ m =>
            obtain rfl : t = (m : Int) := by omega
            have hm0 : (0 : Int) ≤ (m : Int) := by omega
            have hmI : (m : Int) < (up.length : Int) := by omega
            have hmu : m < up.length := by omega
            obtain ⟨A2, c2, hA2, _, hiu, _⟩ := ms_of_own HU.out
            injection hA2 with hA3 _ hA4
            subst hA3 hA4
            obtain ⟨bu, ou, rfl, d0⟩ := hiu m hmu
            obtain ⟨y, hy⟩ : ∃ y, up.getD m 0 = y := ⟨_, rfl⟩
            rw [hy] at d0
            have HRD := Lib.hid (rev_drop hmu)
            rw [hy] at HRD
            obtain ⟨Au, cu, rfl, hcu⟩ := own_slice HO.out
            have hbs := HB.out.size
            have hn6 : n2 ≤ 1000000 := by have := HNM.out; omega
            clear hiu hy ht hm
            go_wp2_with (at_builtin; refine wpList_append1 rfl _ _ 23 rfl w1.heap.size 3 j0 _ 1 8 Try.underlying23 hj0 e0 e1 e2 rfl (by omega) (by omega) (.slice Au n2 cu) n2 _ rfl HO.out #[.int .i64 y] rfl rfl (by simp [Value.oneCell']) hn6 hbs ?_; intro g' c' w8 own' k' n'; have OW := Lib.hid own'; have KW := Lib.hid k'; have NW := Lib.hid n'; clear own' k' n')
            have hU2 := kept_own HU.out KW.out (fun b hb hq => HNE.out b (own_mem hq) hb)
            have hne2 : ∀ b, (Value.slice (some ⟨g', 0, none⟩) (n2 + 1) c').ownBlock = some b → (Value.slice (some ⟨bu, ou, none⟩) up.length cv).ownBlock ≠ some b := fun b h1 h2 => by
              have e1 : g' = b := by simpa [Value.ownBlock] using h1
              subst e1
              rcases NW.out with e | e
              · exact HNE.out g' e h2
              · have := (HU.out.lt g' h2).2; omega
            refine ⟨⟨m, n2 + 1, _, by omega, rfl, ?_, by have := HNM.out; omega, by go_num, ?_, hU2, hne2, KW.out.below_next HB.out hbs (fun q hq => (HO.out.lt q (own_mem hq)).1)⟩, ?_⟩
            · rw [HRD.out, ← List.append_assoc, List.length_append, ← HN2.out]; rfl
            · rw [HRD.out, ← List.append_assoc, ivs_append]; exact OW.out
            · simp [intOf]
    · have hkI : ¬ (k : Int) < (l.length : Int) := by omega
      obtain rfl : k = l.length := by omega
      have hO := HO.out
      have hN := HN.out
      rw [HPA.out] at hO hN
      subst hN
      have HM := Lib.hid (ms_of_own hO)
      clear hO
      go_wp2_with fail
      (first | refine bodyPost_ret (results_tmp2 rfl _ _ _) rfl ?_ | refine bodyPost_end (results_tmp2 rfl _ _ _) rfl ?_)
      exact ⟨_, rfl, HM.out, below_next B1.out HB.out⟩
set_option maxRecDepth 100000 in
set_option maxHeartbeats 8000000 in
theorem rpath_no (A : Option Addr) (c : Nat) (l : List Grp) (code : Int) (w : World) (hG : GrpsAt w A l) (hS : Sized l) (hv : ¬ Valid l) :
    Calls Try.prog 18 #[.slice A l.length c, .int .i64 code] w fun e w' => e = .returned (.tuple #[.slice none 0 0, .int .i64 130]) ∧ Below w.heap.size w w' := by
  have HV := Lib.hid (rvalid_any A c l w false hG hS ⟨fun e => (by cases e), fun e => absurd e hv⟩)
  clear hG hS hv
  go_enter Try.func18, Try.ntmps18
  go_wp2_with fail
  refine HV.out.mono ?_
  rintro e w1 ⟨rfl, hb1⟩
  have B1 := Lib.hid hb1
  clear hb1 HV
  go_wp2_with fail
  (first | refine bodyPost_ret (results_tmp2 rfl _ _ _) rfl ?_ | refine bodyPost_end (results_tmp2 rfl _ _ _) rfl ?_)
  exact ⟨rfl, B1.out⟩
set_option maxRecDepth 100000 in
set_option maxHeartbeats 8000000 in
theorem rcommon_yes (A : Option Addr) (c : Nat) (l : List Grp) (a b : Int) (w : World) (hG : GrpsAt w A l) (hS : Sized l) (hv : Valid l) :
    Calls Try.prog 20 #[.slice A l.length c, .int .i64 a, .int .i64 b] w fun e w' => e = .returned (.tuple #[.int .i64 (common l a b), .int .i64 0]) ∧ Below w.heap.size w w' := by
  have HP := Lib.hid (rpath_yes A c l a w hG hS hv)
  have HQ := Lib.hid (fun W (hB : Below w.heap.size w W) => rpath_yes A c l b W (hG.then_ hB) hS hv)
  have HC := Lib.hid (common_ref hv a b)
  have hp12 := path_len l a
  have hq12 := path_len l b
  clear hG hS hv
  go_enter Try.func20, Try.ntmps20
  go_wp2_with fail
  refine HP.out.mono ?_
  rintro e w1 ⟨_, rfl, ⟨Ap, cp, rfl, _, hip, _⟩, hb1⟩
  have B1 := Lib.hid hb1
  have IP := Lib.hid hip
  clear hb1 HP hip
  go_wp2_with fail
  refine (HQ.out _ B1.out).mono ?_
  rintro e w2 ⟨_, rfl, ⟨Aq, cq, rfl, _, hiq, _⟩, hb2⟩
  have B2 := Lib.hid (below_next B1.out hb2)
  have IP := Lib.hid (IP.out.then_ hb2)
  have IQ := Lib.hid hiq
  clear hb2 HQ hiq B1
  obtain ⟨p, hp⟩ : ∃ p, path l a = p := ⟨_, rfl⟩
  obtain ⟨q, hq⟩ : ∃ q, path l b = q := ⟨_, rfl⟩
  rw [hp] at IP hp12 HC ⊢
  rw [hq] at IQ hq12 HC ⊢
  clear hp hq
  go_wp2_with fail
  go_loopw [12, 13] (fun d i wr => ∃ (k : Nat) (x : Int), k ≤ p.length ∧ i = .int .i64 (k : Int) ∧ d = .int .i64 x ∧ lastR q (p.drop k) x = common l a b ∧ wr = w2) (fun _ i _ => p.length - (intOf i).toNat)
  case atStart => exact ⟨0, -1, by omega, rfl, rfl, HC.out, rfl⟩
  case round =>
    obtain ⟨k, x, hk, rfl, rfl, hL, rfl⟩ := hrel
    have HL := Lib.hid hL
    clear hL
    by_cases hkl : k < p.length
    · have hkI : (k : Int) < (p.length : Int) := by omega
      have hk0 : (0 : Int) ≤ (k : Int) := by omega
      obtain ⟨bp, op, rfl, d0⟩ := IP.out k hkl
      have hdr := drop_getD hkl
      obtain ⟨y, hy⟩ : ∃ y, p.getD k 0 = y := ⟨_, rfl⟩
      rw [hy] at d0 hdr
      have HH := Lib.hid (has_any Aq cq q y wr (by omega) IQ.out)
      have HLN := Lib.hid (show lastR q (p.drop (k + 1)) (if q.contains y then y else x) = common l a b by rw [← HL.out, hdr]; rfl)
      clear hy hdr
      cases hc : q.contains y with
      | true =>
        rw [hc] at HH HLN
        clear hc
        go_wp2_with fail
        refine HH.out.mono ?_
        rintro e w3 ⟨rfl, rfl⟩
        go_wp2_with fail
        exact ⟨⟨k + 1, y, by omega, by go_num, rfl, HLN.out, trivial⟩, by simp [intOf]; omega⟩
      | false =>
        rw [hc] at HH HLN
        clear hc
        go_wp2_with fail
        refine HH.out.mono ?_
        rintro e w3 ⟨rfl, rfl⟩
        go_wp2_with fail
        exact ⟨⟨k + 1, x, by omega, by go_num, rfl, HLN.out, trivial⟩, by simp [intOf]; omega⟩
    · have hkI : ¬ (k : Int) < (p.length : Int) := by omega
      have hx : x = common l a b := by
        have h1 := HL.out
        rw [List.drop_of_length_le (by omega)] at h1
        exact h1
      subst hx
      go_wp2_with fail
      (first | refine bodyPost_ret (results_tmp2 rfl _ _ _) rfl ?_ | refine bodyPost_end (results_tmp2 rfl _ _ _) rfl ?_)
      exact ⟨rfl, B2.out⟩
set_option maxRecDepth 100000 in
set_option maxHeartbeats 8000000 in
theorem rcommon_no (A : Option Addr) (c : Nat) (l : List Grp) (a b : Int) (w : World) (hG : GrpsAt w A l) (hS : Sized l) (hv : ¬ Valid l) :
    Calls Try.prog 20 #[.slice A l.length c, .int .i64 a, .int .i64 b] w fun e w' => e = .returned (.tuple #[.int .i64 0, .int .i64 130]) ∧ Below w.heap.size w w' := by
  have HP := Lib.hid (rpath_no A c l a w hG hS hv)
  have HQ := Lib.hid (fun W (hB : Below w.heap.size w W) => rpath_no A c l b W (hG.then_ hB) hS hv)
  clear hG hS hv
  go_enter Try.func20, Try.ntmps20
  go_wp2_with fail
  refine HP.out.mono ?_
  rintro e w1 ⟨rfl, hb1⟩
  have B1 := Lib.hid hb1
  clear hb1 HP
  go_wp2_with fail
  refine (HQ.out _ B1.out).mono ?_
  rintro e w2 ⟨rfl, hb2⟩
  have B2 := Lib.hid (below_next B1.out hb2)
  clear hb2 HQ B1
  go_wp2_with fail
  (first | refine bodyPost_ret (results_tmp2 rfl _ _ _) rfl ?_ | refine bodyPost_end (results_tmp2 rfl _ _ _) rfl ?_)
  exact ⟨rfl, B2.out⟩
end Go.Proofs.Ytebfenkjipaedaa.Gr
