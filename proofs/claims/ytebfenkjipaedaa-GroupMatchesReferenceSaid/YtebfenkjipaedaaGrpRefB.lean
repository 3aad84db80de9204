/- The reference's put and Below. -/
import Derived.Test.YtebfenkjipaedaaGrpRefP
import Derived.Test.YtebfenkjipaedaaGd
import Derived.Deep.RegionLawGrows
namespace Go.Proofs.Ytebfenkjipaedaa.Gr
open Go.RowKit Gp Go.Sort
attribute [local go_sem] Oper.semAt_some
theorem ints_take {w : World} {A : Option Addr} {l : List Int} (h : IntsAt w A l) (k : Nat) : IntsAt w A (l.take k) := fun i hi => by
  rw [List.length_take] at hi
  obtain ⟨b, o, h1, h2⟩ := h i (by omega)
  exact ⟨b, o, h1, by rw [getD_eq (by rw [List.length_take]; omega), List.getElem_take, ← getD_eq (d := 0) (by omega)]; exact h2⟩
theorem ints_drop {w : World} {g : Nat} {l : List Int} (h : IntsAt w (some ⟨g, 0, none⟩) l) (k : Nat) : IntsAt w (some ⟨g, k, none⟩) (l.drop k) := fun i hi => by
  rw [List.length_drop] at hi
  obtain ⟨b, o, h1, h2⟩ := h (k + i) (by omega)
  injection h1 with h1
  injection h1 with h1 h3
  subst h1 h3
  refine ⟨g, k, rfl, ?_⟩
  rw [getD_eq (by rw [List.length_drop]; omega), List.getElem_drop, ← getD_eq (d := 0) (by omega)]
  rw [Nat.zero_add] at h2
  exact h2
theorem ivs_one (l : List Int) : ∀ u ∈ ivs l, u.oneCell' = true := fun u hu => by
  obtain ⟨n, _, rfl⟩ := List.mem_map.1 hu
  rfl
theorem row_one (x : Int) (l : List Int) : ∀ u ∈ [Value.int .i64 x] ++ ivs l, u.oneCell' = true := fun u hu => by
  rcases List.mem_append.1 hu with h | h
  · rw [List.mem_singleton.1 h]; rfl
  · exact ivs_one l u h
theorem add_z (g j : Nat) : (⟨g, 0, none⟩ : Addr).add j = ⟨g, j, none⟩ := by unfold Addr.add; split <;> simp_all
/-- a number put between what lies before and what lies behind it, in rows of the call's own -/
theorem put_end {w0 w8 w9 : World} {base : Nat} {l : List Int} {x : Int} {k m : Nat} {v : Value} (hk : m = 1 + (l.length - k)) (hkl : k ≤ l.length) (hp : putI x l = l.take k ++ x :: l.drop k) (hb : base ≤ w8.heap.size) (ho : w9.ownsRow w8.heap.size 3 1 v (k + m) (ivs (l.take k) ++ ([.int .i64 x] ++ ivs (l.drop k))))
    (h8 : Kept [] w0 w8) (h9 : w8.grownBy w9 none) : w9.ownsRow base 3 1 v (putI x l).length (ivs (putI x l)) ∧ Below w0.heap.size w0 w9 := by
  have hlen : (putI x l).length = k + m := by rw [hp, List.length_append, List.length_take, List.length_cons, List.length_drop]; omega
  have hiv : ivs (putI x l) = ivs (l.take k) ++ ([.int .i64 x] ++ ivs (l.drop k)) := by rw [hp]; simp [ivs]
  refine ⟨by rw [hlen, hiv]; exact own_base hb ho, ?_⟩
  have k9 : Kept [] w8 w9 := (Kept.refl [] w8).grown h9 (fun k hk => by cases hk)
  exact (h8.trans k9 (New.refl _ _)).below_next (Below.refl _ _) (Nat.le_refl _) (fun k hk => by cases hk)
set_option maxRecDepth 100000 in
set_option maxHeartbeats 8000000 in
theorem put_some (base g c : Nat) (l : List Int) (x : Int) (w : World) (hO : w.ownsRow base 3 1 (.slice (some ⟨g, 0, none⟩) l.length c) l.length (ivs l)) (hb : base ≤ w.heap.size) (hl : l.length ≤ 100000) :
    Calls Try.prog 42 #[.slice (some ⟨g, 0, none⟩) l.length c, .int .i64 x] w fun e w' => ∃ v, e = .returned v ∧ w'.ownsRow base 3 1 v (putI x l).length (ivs (putI x l)) ∧ Below w.heap.size w w' := by
  obtain ⟨j0, hj0, e0, e1, e2⟩ := info_parts int_info1
  have HO := Lib.hid hO
  obtain ⟨A2, c2, hA2, hlc, hil, _⟩ := ms_of_own hO
  injection hA2 with hA3 _ hA4
  subst hA3 hA4
  have HI := Lib.hid hil
  have hlI : (l.length : Int) ≤ 100000 := by omega
  have hgl := (hO.lt g rfl).2
  clear hO hil
  go_enter Try.func42, Try.ntmps42
  go_wp2_with fail
  go_loopw [5] (fun i wr => ∃ k : Nat, k ≤ l.length ∧ i = .int .i64 (k : Int) ∧ (∀ j, j < k → l.getD j 0 < x) ∧ wr = w) (fun i _ => l.length - (intOf i).toNat)
  case atStart => exact ⟨0, by omega, rfl, fun j hj => by omega, rfl⟩
  case round =>
    obtain ⟨k, hk, rfl, hlt, rfl⟩ := hrel
    have HLT := Lib.hid hlt
    clear hlt
    have hk0 : (0 : Int) ≤ (k : Int) := by omega
    by_cases hkl : k < l.length
    · have hkI : (k : Int) < (l.length : Int) := by omega
      obtain ⟨b1, o1, hA5, d0⟩ := HI.out k hkl
      injection hA5 with hA5
      injection hA5 with hA5 hA6
      subst hA5 hA6
      rw [Nat.zero_add] at d0
      obtain ⟨y, hy⟩ : ∃ y, l.getD k 0 = y := ⟨_, rfl⟩
      rw [hy] at d0
      have HY := Lib.hid hy
      clear hy
      by_cases hyx : y < x
      · have HLN := Lib.hid (show ∀ j, j < k + 1 → l.getD j 0 < x from fun j hj => by
          rcases Nat.lt_succ_iff_lt_or_eq.1 hj with h1 | h1
          · exact HLT.out j h1
          · rw [h1, HY.out]; exact hyx)
        go_wp2_with fail
        exact ⟨⟨k + 1, by omega, by go_num, HLN.out, trivial⟩, by simp [intOf]; omega⟩
      · have HPA := Lib.hid (putI_at hk HLT.out (fun _ => by rw [HY.out]; exact hyx))
        rw [HY.out] at HPA
        by_cases hye : y = x
        · have hyb : (y == x) = true := by rw [hye]; simp
          have HPE := Lib.hid (show putI x l = l by rw [HPA.out, if_pos ⟨hkl, hye⟩])
          clear hye HPA
          go_wp2_with fail
          go_ret
          exact ⟨_, rfl, by rw [HPE.out]; exact HO.out, Below.refl _ _⟩
        · have hyb : (y == x) = false := by rw [beq_eq_false_iff_ne]; exact hye
          have HPE := Lib.hid (show putI x l = l.take k ++ x :: l.drop k by rw [HPA.out, if_neg (fun h => hye h.2)])
          have hck : ¬ c = k := by omega
          have hkc : k ≤ c := by omega
          clear hye HPA
          have HE0 := Lib.hid (World.ownsRow_lit (base := wr.heap.size) (e := 3) (size := 1) wr #[.int .i64 x] 1 (by omega) (by unfold maxLen; omega) rfl)
          go_upto_region 6 with fail
          go_region_law (first
            | (refine step_appendN (by rfl) (.tmp 38) (.tmp 41) 23 (by rfl) wr.heap.size 3 j0 _ 1 8 Try.underlying23 hj0 e0 e1 e2 rfl (by omega) (.slice (some ⟨wr.heap.size, 0, none⟩) 1 1) 1 _ (by rfl) HE0.out.drew ⟨g, k, none⟩ (l.length - k) (c - k) (ivs (l.drop k)) (by rfl) (by simp [ivs]) (fun j u hu => news_any (((ints_drop HI.out k).then_ (below_alloc (Below.refl wr.heap.size wr) _).drew)) j u hu) (ivs_one _) (by unfold maxLen; omega) (by omega) (by simp) ?_
               intro v' w8 own' k' _
               obtain ⟨g8, c8, hv8, hg8, hg9⟩ := own'.form (by omega)
               subst hv8
               have K8 := Lib.hid (show Kept [] wr w8 from ((Kept.refl [] wr).alloc _).drew.trans k' (fun q hq => by
                 have : q = wr.heap.size := by simpa [Value.ownBlock] using hq
                 exact .inr (by omega)))
               have O8 := Lib.hid own'
               clear own' k')
            | (refine step_append_grows (by rfl) (.tmp 36) (.tmp 42) 23 (by rfl) 3 j0 _ 1 8 Try.underlying23 hj0 e0 e1 e2 rfl (by omega) (some ⟨g, 0, none⟩) k k (ivs (l.take k)) (by rfl) (fun h => by cases h) (by first | (simp [ivs]; done) | (simp [ivs]; omega)) (fun b hb j u hu => (by injection hb with hb; subst hb; exact news_any (ints_take (HI.out.then_ (K8.out.below_next (Below.refl _ _) (Nat.le_refl _) (fun k hk => by cases hk))) _) j u hu)) ⟨g8, 0, none⟩ (1 + (l.length - k)) c8 _ (by rfl) (O8.out.1.trans (by omega)) (fun j u hu => (by
                 have hj : j < (1 + (l.length - k)) * 1 := by have h1 := O8.out.1; rw [← h1]; exact (List.getElem?_eq_some_iff.1 hu).1
                 rw [add_z, O8.out.cellAt j hj]; exact hu)) (row_one _ _) (by omega) (by unfold maxLen; omega) (by omega) ?_
               intro v2 w9 own2 grow2
               have E9 := Lib.hid (put_end (l := l) (x := x) (k := k) (by omega) (by omega) HPE.out (Nat.le_trans hb K8.out.size) own2 K8.out grow2)
               clear own2 grow2))
          all_goals (
            go_wp2_with fail
            go_ret
            exact ⟨_, rfl, E9.out.1, E9.out.2⟩)
    · have hkI : ¬ (k : Int) < (l.length : Int) := by omega
      obtain rfl : k = l.length := by omega
      have HPA := Lib.hid (putI_at hk HLT.out (fun h => absurd h (Nat.lt_irrefl _)))
      have HPE := Lib.hid (show putI x l = l.take l.length ++ x :: l.drop l.length by rw [HPA.out, if_neg (fun h => hkl h.1)])
      have INI := Lib.hid (fun (a : Addr) W => (show IntsAt W (some a) (l.drop l.length) from fun i hi => absurd hi (by simp)))
      clear HPA hkl hk0 hk
      by_cases hcl : c = l.length
      · subst hcl
        have HE0 := Lib.hid (World.ownsRow_lit (base := wr.heap.size) (e := 3) (size := 1) wr #[.int .i64 x] 1 (by omega) (by unfold maxLen; omega) rfl)
        go_upto_region 6 with fail
        go_region_law (first
          | (refine step_appendN (by rfl) (.tmp 38) (.tmp 41) 23 (by rfl) wr.heap.size 3 j0 _ 1 8 Try.underlying23 hj0 e0 e1 e2 rfl (by omega) (.slice (some ⟨wr.heap.size, 0, none⟩) 1 1) 1 _ (by rfl) HE0.out.drew ⟨g, 0, none⟩ (0) (0) (ivs (l.drop l.length)) (by rfl) (by simp [ivs]) (fun j u hu => news_any (((INI.out _ wr).then_ (below_alloc (Below.refl wr.heap.size wr) _).drew)) j u hu) (ivs_one _) (by unfold maxLen; omega) (by omega) (by simp) ?_
             intro v' w8 own' k' _
             obtain ⟨g8, c8, hv8, hg8, hg9⟩ := own'.form (by omega)
             subst hv8
             have K8 := Lib.hid (show Kept [] wr w8 from ((Kept.refl [] wr).alloc _).drew.trans k' (fun q hq => by
               have : q = wr.heap.size := by simpa [Value.ownBlock] using hq
               exact .inr (by omega)))
             have O8 := Lib.hid own'
             clear own' k')
          | (refine step_append_grows (by rfl) (.tmp 36) (.tmp 42) 23 (by rfl) 3 j0 _ 1 8 Try.underlying23 hj0 e0 e1 e2 rfl (by omega) (some ⟨g, 0, none⟩) l.length l.length (ivs (l.take l.length)) (by rfl) (fun h => by cases h) (by first | (simp [ivs]; done) | (simp [ivs]; omega)) (fun b hb j u hu => (by injection hb with hb; subst hb; exact news_any (ints_take (HI.out.then_ (K8.out.below_next (Below.refl _ _) (Nat.le_refl _) (fun k hk => by cases hk))) _) j u hu)) ⟨g8, 0, none⟩ (1 + (0)) c8 _ (by rfl) (O8.out.1.trans (by omega)) (fun j u hu => (by
               have hj : j < (1 + (0)) * 1 := by have h1 := O8.out.1; rw [← h1]; exact (List.getElem?_eq_some_iff.1 hu).1
               rw [add_z, O8.out.cellAt j hj]; exact hu)) (row_one _ _) (by omega) (by unfold maxLen; omega) (by omega) ?_
             intro v2 w9 own2 grow2
             have E9 := Lib.hid (put_end (l := l) (x := x) (k := l.length) (by omega) (by omega) HPE.out (Nat.le_trans hb K8.out.size) own2 K8.out grow2)
             clear own2 grow2))
        all_goals (
          go_wp2_with fail
          go_ret
          exact ⟨_, rfl, E9.out.1, E9.out.2⟩)
      · have hkc : l.length ≤ c := hlc
        have HE0 := Lib.hid (World.ownsRow_lit (base := wr.heap.size) (e := 3) (size := 1) wr #[.int .i64 x] 1 (by omega) (by unfold maxLen; omega) rfl)
        go_upto_region 6 with fail
        go_region_law (first
          | (refine step_appendN (by rfl) (.tmp 38) (.tmp 41) 23 (by rfl) wr.heap.size 3 j0 _ 1 8 Try.underlying23 hj0 e0 e1 e2 rfl (by omega) (.slice (some ⟨wr.heap.size, 0, none⟩) 1 1) 1 _ (by rfl) HE0.out.drew ⟨g, l.length, none⟩ (0) (c - l.length) (ivs (l.drop l.length)) (by rfl) (by simp [ivs]) (fun j u hu => news_any (((INI.out _ wr).then_ (below_alloc (Below.refl wr.heap.size wr) _).drew)) j u hu) (ivs_one _) (by unfold maxLen; omega) (by omega) (by simp) ?_
             intro v' w8 own' k' _
             obtain ⟨g8, c8, hv8, hg8, hg9⟩ := own'.form (by omega)
             subst hv8
             have K8 := Lib.hid (show Kept [] wr w8 from ((Kept.refl [] wr).alloc _).drew.trans k' (fun q hq => by
               have : q = wr.heap.size := by simpa [Value.ownBlock] using hq
               exact .inr (by omega)))
             have O8 := Lib.hid own'
             clear own' k')
          | (refine step_append_grows (by rfl) (.tmp 36) (.tmp 42) 23 (by rfl) 3 j0 _ 1 8 Try.underlying23 hj0 e0 e1 e2 rfl (by omega) (some ⟨g, 0, none⟩) l.length l.length (ivs (l.take l.length)) (by rfl) (fun h => by cases h) (by first | (simp [ivs]; done) | (simp [ivs]; omega)) (fun b hb j u hu => (by injection hb with hb; subst hb; exact news_any (ints_take (HI.out.then_ (K8.out.below_next (Below.refl _ _) (Nat.le_refl _) (fun k hk => by cases hk))) _) j u hu)) ⟨g8, 0, none⟩ (1 + (0)) c8 _ (by rfl) (O8.out.1.trans (by omega)) (fun j u hu => (by
               have hj : j < (1 + (0)) * 1 := by have h1 := O8.out.1; rw [← h1]; exact (List.getElem?_eq_some_iff.1 hu).1
               rw [add_z, O8.out.cellAt j hj]; exact hu)) (row_one _ _) (by omega) (by unfold maxLen; omega) (by omega) ?_
             intro v2 w9 own2 grow2
             have E9 := Lib.hid (put_end (l := l) (x := x) (k := l.length) (by omega) (by omega) HPE.out (Nat.le_trans hb K8.out.size) own2 K8.out grow2)
             clear own2 grow2))
        all_goals (
          go_wp2_with fail
          go_ret
          exact ⟨_, rfl, E9.out.1, E9.out.2⟩)
set_option maxRecDepth 100000 in
set_option maxHeartbeats 8000000 in
theorem put_nil (base : Nat) (x : Int) (w : World) (hb : base ≤ w.heap.size) :
    Calls Try.prog 42 #[.slice none 0 0, .int .i64 x] w fun e w' => ∃ v, e = .returned v ∧ w'.ownsRow base 3 1 v (putI x []).length (ivs (putI x [])) ∧ Below w.heap.size w w' := by
  obtain ⟨j0, hj0, e0, e1, e2⟩ := info_parts int_info1
  go_enter Try.func42, Try.ntmps42
  go_wp2_with fail
  go_loopw [5] (fun i wr => i = .int .i64 0 ∧ wr = w) (fun _ _ => 0)
  case atStart => exact ⟨rfl, rfl⟩
  case round =>
    obtain ⟨rfl, rfl⟩ := hrel
    go_upto_region 6 with fail
    go_region_law (first | (refine step_append_grows (by rfl) (.tmp 36) (.tmp 42) 23 (by rfl) 3 j0 (.int .i64 0) 1 8 Try.underlying23 hj0 e0 e1 e2 rfl (by omega) none 0 0 [] (by rfl) (fun _ => ⟨rfl, rfl⟩) (by simp) (fun b hb => by cases hb) ⟨wr.heap.size, 0, none⟩ 1 1 [.int .i64 x] (by rfl) rfl (fun j u hu => by rw [add_z]; exact new_cell (by simpa using hu)) (by simp [Value.oneCell']) (by omega) (by unfold maxLen; omega) (by omega) ?_; intro v2 w9 own2 grow2; have O9 := Lib.hid own2; have K9 := Lib.hid (show Kept [] wr w9 from ((Kept.refl [] wr).alloc _).drew.grown grow2 (fun k hk => by cases hk)); clear own2 grow2) | fail)
    go_wp2_with fail
    go_ret
    exact ⟨_, rfl, own_base (by simp; omega) O9.out, K9.out.below_next (Below.refl _ _) (Nat.le_refl _) (fun k hk => by cases hk)⟩
theorem put_any (base : Nat) (v : Value) (l : List Int) (x : Int) (w : World) (hO : w.ownsRow base 3 1 v l.length (ivs l)) (hb : base ≤ w.heap.size) (hl : l.length ≤ 100000) :
    Calls Try.prog 42 #[v, .int .i64 x] w fun e w' => ∃ v, e = .returned v ∧ w'.ownsRow base 3 1 v (putI x l).length (ivs (putI x l)) ∧ Below w.heap.size w w' := by
  rcases hO.2 with ⟨h, h0⟩ | ⟨g, c, cur, h, _⟩
  · subst h
    obtain rfl : l = [] := List.eq_nil_of_length_eq_zero h0
    exact put_nil base x w hb
  · subst h
    exact put_some base g c l x w hO hb hl
set_option maxRecDepth 100000 in
set_option maxHeartbeats 8000000 in
theorem rbelow_yes (A : Option Addr) (c : Nat) (l : List Grp) (id : Int) (w : World) (hG : GrpsAt w A l) (hS : Sized l) (hv : Valid l) (hk : (find l id).isSome = true) :
    Calls Try.prog 23 #[.slice A l.length c, .int .i64 id] w fun e w' => ∃ v, e = .returned (.tuple #[v, .int .i64 0]) ∧ MsAt w' v (below l id) ∧ Below w.heap.size w w' := by
  have HG := Lib.hid hG
  have HS := Lib.hid hS
  have hll := hS.len
  have HV := Lib.hid (rvalid_any A c l w true hG hS ⟨fun _ => hv, fun _ => rfl⟩)
  have HF := Lib.hid (fun W (hB : Below w.heap.size w W) => find_any A c l id W (hG.then_ hB) hll)
  have HOU := Lib.hid (fun W x (hB : Below w.heap.size w W) => routward_any A c l x W (hG.then_ hB) hll)
  have HPB := Lib.hid (puts_below hv id)
  have HBL := Lib.hid (fun k => bel_len (id := id) hS k)
  have HOR := Lib.hid (fun k (hk : k < l.length) => outR_valid hv hk)
  obtain ⟨fi, hfi0, hfi⟩ : ∃ fi : Nat, (0 : Int) ≤ (fi : Int) ∧ idxI l id = (fi : Int) := by
    rcases idxI_cases l id with ⟨_, e⟩ | ⟨q, _, e, _⟩
    · rw [e] at hk; cases hk
    · exact ⟨q, by omega, e⟩
  rw [hfi] at HF
  have hl24 := hv.len
  have hfn : ¬ (fi : Int) < 0 := by omega
  clear hG hS hv hk hfi
  go_enter Try.func23, Try.ntmps23
  go_wp2_with fail
  refine HV.out.mono ?_
  rintro e w1 ⟨rfl, hb1⟩
  have B1 := Lib.hid hb1
  clear hb1 HV
  go_wp2_with fail
  refine (HF.out _ B1.out).mono ?_
  rintro e w2 ⟨rfl, rfl⟩
  clear HF
  go_wp2_with fail
  clear hfn hfi0
  go_loopw [6, 7, 8] (fun u i _ wr => ∃ k n : Nat, k ≤ l.length ∧ n = (putsI [] (bel l id k)).length ∧ i = .int .i64 (k : Int) ∧ wr.ownsRow w1.heap.size 3 1 u n (ivs (putsI [] (bel l id k))) ∧ Below w1.heap.size w1 wr) (fun _ i _ _ => l.length - (intOf i).toNat)
  case atStart => exact ⟨0, 0, by omega, by simp [bel, putsI], rfl, (by simp [bel, putsI, ivs]; exact World.ownsRow_nil _ _ _ _), Below.refl _ _⟩
  case round =>
    obtain ⟨k, n, hk, hn, rfl, hO, hB⟩ := hrel
    have HO := Lib.hid hO
    have HB := Lib.hid hB
    have HN := Lib.hid hn
    clear hO hB hn
    by_cases hkl : k < l.length
    · have hkI : (k : Int) < (l.length : Int) := by omega
      have hk0 : (0 : Int) ≤ (k : Int) := by omega
      have BW := Lib.hid (below_next B1.out HB.out)
      obtain ⟨⟨b, o, rfl, hx⟩, _⟩ := (HG.out.then_ BW.out) k hkl
      have c0 := hx.id
      have hml := HS.out.mlen k hkl
      have hsu := bel_succ (id := id) hkl
      have hbl := HBL.out k hk
      have HOx := Lib.hid (HOU.out _ (l.getD k g0).id BW.out)
      rw [HOR.out k hkl] at HOx
      obtain ⟨ms, hms⟩ : ∃ ms, (l.getD k g0).ms = ms := ⟨_, rfl⟩
      obtain ⟨a, ha⟩ : ∃ a, (l.getD k g0).id = a := ⟨_, rfl⟩
      rw [ha] at c0 HOx hsu
      rw [hms] at hml hsu
      have HSU := Lib.hid hsu
      have HML := Lib.hid hml
      have HBLK := Lib.hid (show (bel l id k).length ≤ 24000 by omega)
      have HMS := Lib.hid hms
      have hup := up_len l 12 a
      clear hx ha hms hsu hml hbl
      go_wp2_with fail
      refine HOx.out.mono ?_
      rintro e w3 ⟨v, rfl, hown, hb3⟩
      obtain ⟨Av, cv, rfl, _, hiv, _⟩ := ms_of_own hown
      have HB3 := Lib.hid (below_next HB.out hb3)
      have HO3 := Lib.hid (own_then HO.out hb3)
      have HHS := Lib.hid (has_any Av cv (up l 12 a) id w3 (by omega) hiv)
      clear hown hb3 hiv c0 HOx hup
      go_wp2_with fail
      refine HHS.out.mono ?_
      rintro e w4 ⟨rfl, rfl⟩
      clear HHS
      cases hc : (up l 12 a).contains id with
      | false =>
        have HSX := Lib.hid (show bel l id (k + 1) = bel l id k by rw [HSU.out, hc, if_neg (by simp), List.append_nil])
        clear hc
        go_wp2_with fail
        exact ⟨⟨k + 1, n, by omega, by rw [HSX.out]; exact HN.out, by go_num, by rw [HSX.out]; exact HO3.out, HB3.out⟩, by simp [intOf]; omega⟩
      | true =>
        have HSX := Lib.hid (show bel l id (k + 1) = bel l id k ++ ms by rw [HSU.out, hc, if_pos rfl])
        clear hc
        go_wp2_with fail
        go_loopw [6, 8] (fun u i wx => ∃ q n : Nat, q ≤ ms.length ∧ n = (putsI [] (bel l id k ++ ms.take q)).length ∧ i = .int .i64 (q : Int) ∧ wx.ownsRow w1.heap.size 3 1 u n (ivs (putsI [] (bel l id k ++ ms.take q))) ∧ Below w1.heap.size w1 wx) (fun _ i _ => ms.length - (intOf i).toNat)
        case atStart => exact ⟨0, n, by omega, by rw [List.take_zero, List.append_nil]; exact HN.out, rfl, by rw [List.take_zero, List.append_nil]; exact HO3.out, HB3.out⟩
        case round =>
          clear HO3 HB3 HO
          obtain ⟨q, n2, hq, hn2, rfl, hO, hB⟩ := hrel
          have HO := Lib.hid hO
          have HB := Lib.hid hB
          have HN2 := Lib.hid hn2
          clear hO hB hn2
          obtain ⟨⟨b, o, hA3, hx⟩, ⟨Am, cm, hvv, _, him, _⟩⟩ := (HG.out.then_ (below_next B1.out HB.out)) k hkl
          injection hA3 with hA3
          injection hA3 with hA3 hA4
          subst hA3 hA4
          have c2 := hx.v
          rw [hvv, HMS.out] at c2
          rw [HMS.out] at him
          clear hx hvv
          by_cases hqm : q < ms.length
          · have hqI : (q : Int) < (ms.length : Int) := by omega
            have hq0 : (0 : Int) ≤ (q : Int) := by omega
            obtain ⟨bm, om, rfl, d0⟩ := him q hqm
            have hts := take_succ (d := (0 : Int)) hqm
            obtain ⟨y, hy⟩ : ∃ y, ms.getD q 0 = y := ⟨_, rfl⟩
            rw [hy] at d0 hts
            have HTS := Lib.hid (show putsI [] (bel l id k ++ ms.take (q + 1)) = putI y (putsI [] (bel l id k ++ ms.take q)) by rw [hts, ← List.append_assoc, putsI_snoc])
            have hbnd : (putsI [] (bel l id k ++ ms.take q)).length ≤ 100000 := by
              have h1 := putsI_len (bel l id k ++ ms.take q) []
              rw [List.length_append, List.length_take] at h1
              have h2 := HBLK.out
              have h3 := HML.out
              simp only [List.length_nil] at h1
              omega
            have hown := HO.out
            rw [HN2.out] at hown
            have HPU := Lib.hid (put_any w1.heap.size _ _ y _ hown HB.out.size hbnd)
            clear hts hy him hbnd hown
            go_wp2_with fail
            refine HPU.out.mono ?_
            rintro e w5 ⟨v5, rfl, hown, hb5⟩
            have hmq := HML.out
            have HO5 := Lib.hid hown
            have HB5 := Lib.hid (below_next HB.out hb5)
            clear hown hb5 HPU d0 c2
            go_wp2_with fail
            exact ⟨⟨q + 1, _, by omega, rfl, by go_num, by rw [HTS.out]; exact HO5.out, HB5.out⟩, by simp [intOf]; omega⟩
          · have hqI : ¬ (q : Int) < (ms.length : Int) := by omega
            obtain rfl : q = ms.length := by omega
            have hO := HO.out
            have hN := HN2.out
            rw [List.take_length, ← HSX.out] at hO hN
            have HO5 := Lib.hid hO
            have HN5 := Lib.hid hN
            clear hO hN him
            go_wp2_with fail
            exact ⟨⟨k + 1, n2, by omega, HN5.out, by go_num, HO5.out, HB.out⟩, by simp [intOf]; omega⟩
    · have hkI : ¬ (k : Int) < (l.length : Int) := by omega
      obtain rfl : k = l.length := by omega
      have hO := HO.out
      have hN := HN.out
      rw [HPB.out] at hO hN
      subst hN
      have HM := Lib.hid (ms_of_own hO)
      clear hO
      go_wp2_with fail
      (first | refine bodyPost_ret (results_tmp2 rfl _ _ _) rfl ?_ | refine bodyPost_end (results_tmp2 rfl _ _ _) rfl ?_)
      exact ⟨_, rfl, HM.out, below_next B1.out HB.out⟩
set_option maxRecDepth 100000 in
set_option maxHeartbeats 8000000 in
theorem rbelow_no (A : Option Addr) (c : Nat) (l : List Grp) (id : Int) (w : World) (hG : GrpsAt w A l) (hS : Sized l) (hv : ¬ (Valid l ∧ (find l id).isSome = true)) :
    Calls Try.prog 23 #[.slice A l.length c, .int .i64 id] w fun e w' => e = .returned (.tuple #[.slice none 0 0, .int .i64 130]) ∧ Below w.heap.size w w' := by
  have hll := hS.len
  have HF := Lib.hid (fun W (hB : Below w.heap.size w W) => find_any A c l id W (hG.then_ hB) hll)
  by_cases hva : Valid l
  · have HV := Lib.hid (rvalid_any A c l w true hG hS ⟨fun _ => hva, fun _ => rfl⟩)
    have hix : idxI l id = -1 := by
      rcases idxI_cases l id with ⟨e, _⟩ | ⟨q, _, _, _, e⟩
      · exact e
      · exact absurd ⟨hva, by rw [e]; rfl⟩ hv
    rw [hix] at HF
    clear hG hS hv hix hva
    go_enter Try.func23, Try.ntmps23
    go_wp2_with fail
    refine HV.out.mono ?_
    rintro e w1 ⟨rfl, hb1⟩
    have B1 := Lib.hid hb1
    clear hb1 HV
    go_wp2_with fail
    refine (HF.out _ B1.out).mono ?_
    rintro e w2 ⟨rfl, rfl⟩
    go_wp2_with fail
    (first | refine bodyPost_ret (results_tmp2 rfl _ _ _) rfl ?_ | refine bodyPost_end (results_tmp2 rfl _ _ _) rfl ?_)
    exact ⟨rfl, B1.out⟩
  · have HV := Lib.hid (rvalid_any A c l w false hG hS ⟨fun e => (by cases e), fun e => absurd e hva⟩)
    clear hG hS hv hva HF
    go_enter Try.func23, Try.ntmps23
    go_wp2_with fail
    refine HV.out.mono ?_
    rintro e w1 ⟨rfl, hb1⟩
    have B1 := Lib.hid hb1
    clear hb1 HV
    go_wp2_with fail
    (first | refine bodyPost_ret (results_tmp2 rfl _ _ _) rfl ?_ | refine bodyPost_end (results_tmp2 rfl _ _ _) rfl ?_)
    exact ⟨rfl, B1.out⟩
end Go.Proofs.Ytebfenkjipaedaa.Gr
