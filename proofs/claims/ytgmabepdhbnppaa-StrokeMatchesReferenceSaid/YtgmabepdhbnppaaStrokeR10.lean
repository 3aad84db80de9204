/- The strokes' reference: Thin of a valid stroke. -/
import Derived.Test.YtgmabepdhbnppaaStrokeR9
import Derived.Test.YtgmabepdhbnppaaAppN
namespace Go.Proofs.Ytgmabepdhbnppaa
open Go.RowKit Str
attribute [local go_sem] Oper.semAt_some
/-- the inner loop's list, or none -/
def ov : Option Lst → Value
  | none => .slice none 0 0
  | some r => lv r
set_option maxRecDepth 100000 in
set_option maxHeartbeats 8000000 in
theorem thinR_yes (P N : Int) (A : Option Addr) (cap : Nat) (D : List Dot) (z : Int) (w : World) (hD : Dots w A D) (hcp : D.length ≤ cap) (hcm : (cap : Int) ≤ 9223372036854775807) (h1 : validB P N D = true) (hz : isInB z 0 1000 = true) :
    Calls Try.prog 29 #[.agg #[.int .i64 P, .int .i64 N, .slice A D.length cap], .int .i64 z] w (ThinP D z w) := by
  obtain ⟨⟨p5, p6⟩, p0⟩ := valid_len h1
  obtain ⟨iI, hI0, hI1, hI2, hI3⟩ := info_parts int_info
  obtain ⟨iL, hL0, hL1, hL2, hL3⟩ := info_parts lists_info
  have HI := Lib.hid (And.intro hI0 (And.intro hI1 (And.intro hI2 hI3)))
  have HJ := Lib.hid (And.intro hL0 (And.intro hL1 (And.intro hL2 hL3)))
  clear hI0 hI1 hI2 hI3 hL0 hL1 hL2 hL3
  have B0 : Below w.heap.size w (w.alloc (.cells #[.int .i64 P, .int .i64 N, .slice A D.length cap] 27)) := below_alloc (Below.refl _ _) _
  have hc := fun W (hW : Below (w.alloc (.cells #[.int .i64 P, .int .i64 N, .slice A D.length cap] 27)).heap.size (w.alloc (.cells #[.int .i64 P, .int .i64 N, .slice A D.length cap] 27)) W) => validR_any P N A cap D W ((hD.below B0).below hW) hcp hcm
  rw [h1] at hc
  have hb := fun i k W (hW : Below w.heap.size w W) (hik : i < k) (hk : k < D.length) => betweenR_any P N A cap D i k z W (hD.below hW) hcp h1 hik hk (isInB_iff.1 hz)
  have HC := Lib.hid hc
  have HBT := Lib.hid hb
  have HB0 := Lib.hid B0
  have hz2 := isInB_iff.1 hz
  have t1 : decide (z < 0) = false := by simp; omega
  have t2 : decide (1000 < z) = false := by simp; omega
  have HTB := Lib.hid (thin_best (D := D) (by omega) (by omega) z)
  have hcp' : (D.length : Int) ≤ (cap : Int) := by omega
  clear hc hb B0 hD h1 hz hz2
  have e0 : (w.alloc (.cells #[.int .i64 P, .int .i64 N, .slice A D.length cap] 27)).cell? ⟨w.heap.size, 0, none⟩ = some (.int .i64 P) := new_cell rfl
  have e1 : (w.alloc (.cells #[.int .i64 P, .int .i64 N, .slice A D.length cap] 27)).cell? ⟨w.heap.size, 1, none⟩ = some (.int .i64 N) := new_cell rfl
  have e2 : (w.alloc (.cells #[.int .i64 P, .int .i64 N, .slice A D.length cap] 27)).cell? ⟨w.heap.size, 2, none⟩ = some (.slice A D.length cap) := new_cell rfl
  go_enter Try.func29, Try.ntmps29
  go_wp2_with fail
  refine (HC.out _ (Below.refl _ _)).mono ?_
  rintro e w1 ⟨rfl, b1⟩
  replace e0 := cell_then b1 e0
  replace e1 := cell_then b1 e1
  replace e2 := cell_then b1 e2
  have HQ := Lib.hid (below_next HB0.out b1)
  obtain ⟨B, hBd⟩ : ∃ B, w.heap.size + 1 = B := ⟨_, rfl⟩
  have hwB : w.heap.size < B := by omega
  have hB1 : B ≤ w1.heap.size := by have h := b1.size; simp [go_sem] at h; omega
  clear b1 HC HB0 hBd
  have le0 := lt_size e0
  go_wp2_with fail
  obtain ⟨ww, hww⟩ : ∃ W, (w1.alloc (.cells #[.int .i64 0] 3)).alloc (.cells #[.slice (some ⟨w1.heap.size, 0, none⟩) 1 1] 32) = W := ⟨_, rfl⟩
  have BW : Below w1.heap.size w1 ww := by rw [← hww]; exact below_alloc (below_alloc (Below.refl _ _) _) _
  have hs1 := HQ.out.size
  have s1 : ww.heap.size = w1.heap.size + 2 := by rw [← hww]; simp [go_sem]
  have r0 : ww.cell? ⟨w1.heap.size, 0, none⟩ = some (.int .i64 0) := by rw [← hww]; exact keep_alloc _ (new_cell rfl)
  have o0 : ww.ownsRow B 32 1 (.slice (some ⟨w1.heap.size + 1, 0, none⟩) 1 1) 1 [.slice (some ⟨w1.heap.size, 0, none⟩) 1 1] := by
    have h := World.ownsRow_lit (base := B) (e := 32) (size := 1) (w1.alloc (.cells #[.int .i64 0] 3)) #[.slice (some ⟨w1.heap.size, 0, none⟩) 1 1] 1 (by simp [go_sem]; omega) (by unfold maxLen; omega) rfl
    rw [hww] at h
    simpa [go_sem] using h
  have l0 : LstAt ww B ⟨w1.heap.size, 1, []⟩ := ⟨fun i hi => by
    have : i = 0 := by simpa using hi
    subst this
    exact ⟨_, _, rfl, r0⟩, hB1, by dsimp only; omega, by simp⟩
  have HL0 := Lib.hid l0
  have HO0 := Lib.hid o0
  replace e0 := cell_then BW e0
  replace e1 := cell_then BW e1
  replace e2 := cell_then BW e2
  have HW0 := Lib.hid (below_next HQ.out BW)
  have hlt0 := lt_size e0
  rw [hww]
  clear hww BW s1 r0 o0 l0 le0 HQ
  obtain ⟨ok, hok⟩ : ∃ ok, okD D z = ok := ⟨_, rfl⟩
  have HOK := Lib.hid hok
  have hok1 : ∀ i, ok i (i + 1) = true := fun i => by rw [← hok]; exact okD_next D z i
  have HOK1 := Lib.hid hok1
  rw [hok] at HTB HBT
  obtain ⟨n, hn⟩ : ∃ n, D.length = n := ⟨_, rfl⟩
  have HN := Lib.hid hn
  rw [hn] at e2 hcp' p5 p6 p0 HBT HTB
  have hthin : thinF D z = 0 :: thinT D z := rfl
  have HTH := Lib.hid hthin
  clear hok hok1 hn hthin
  go_loopw [6, 7, 8, 9, 10, 11] (fun v k _ _ _ _ wr => ∃ M : List Lst, 1 ≤ M.length ∧ M.length ≤ n ∧ k = .int .i64 (M.length : Int) ∧ wr.ownsRow B 32 1 v M.length (M.map lv) ∧ (∀ q, q < M.length → LstAt wr B (M.getD q lst0) ∧ v.ownBlock ≠ some (M.getD q lst0).g ∧ Best ok q (M.getD q lst0).l) ∧ Below B ww wr) (fun _ k _ _ _ _ _ => n - (intOf k).toNat)
  case atStart =>
    refine ⟨[⟨w1.heap.size, 1, []⟩], by simp, by simp; omega, rfl, HO0.out, fun q hq => ?_, Below.refl _ _⟩
    have : q = 0 := by simpa using hq
    subst this
    exact ⟨HL0.out, by simp [Value.ownBlock, List.getD], best_zero ok⟩
  case round =>
    obtain ⟨M, hM1, hMn, rfl, hown, hmd, hB⟩ := hrel
    have e0r := (hB.cell (p := ⟨w.heap.size, 0, none⟩) (by dsimp only; omega)).trans e0
    have e1r := (hB.cell (p := ⟨w.heap.size, 1, none⟩) (by dsimp only; omega)).trans e1
    have e2r := (hB.cell (p := ⟨w.heap.size, 2, none⟩) (by dsimp only; omega)).trans e2
    have hlr := lt_size e0r
    obtain ⟨gB, cB, rfl, hgB, -⟩ := hown.form (by omega)
    have hcB := own_cap hown
    obtain ⟨k, hk⟩ : ∃ k, M.length = k := ⟨_, rfl⟩
    have HK := Lib.hid hk
    have HOW := Lib.hid hown
    have HMD := Lib.hid hmd
    have HB := Lib.hid hB
    have HWr := Lib.hid (HW0.out.trans (hB.mono (Nat.le_of_lt hwB)))
    rw [hk] at hM1 hMn hcB ⊢
    rw [hk] at HOW
    clear hown hmd hB hk
    obtain ⟨wo, hwo⟩ : ∃ wo, wo = wr := ⟨_, rfl⟩
    subst hwo
    by_cases hlt : k < n
    · have hki : (k : Int) < (n : Int) := by omega
      have hk0 : (0 : Int) ≤ (k : Int) := by omega
      obtain ⟨bf, hbf⟩ : ∃ f, (fun q => (M.getD q lst0).l) = f := ⟨_, rfl⟩
      have hbq : ∀ q, q < k → LstAt wo B (M.getD q lst0) ∧ gB ≠ (M.getD q lst0).g ∧ Best ok q (M.getD q lst0).l := fun q hq => by
        obtain ⟨h1, h2, h3⟩ := HMD.out q (by rw [HK.out]; exact hq)
        exact ⟨h1, fun e => h2 (by rw [← e]; rfl), h3⟩
      have hcq : ∀ q, q < k → wo.cell? ⟨gB, q, none⟩ = some (lv (M.getD q lst0)) := fun q hq => by
        have h : (M.map lv)[q]? = some (lv (M.getD q lst0)) := by
          have h2 : q < M.length := by rw [HK.out]; exact hq
          simp [List.getElem?_map, List.getD, List.getElem?_eq_getElem h2]
        exact (HOW.out.cellAt q (by omega)).trans h
      have HBQ0 := Lib.hid hbq
      have HCQ := Lib.hid hcq
      have HBF := Lib.hid hbf
      clear hbq hcq hbf
      go_wp2_with fail
      go_loopw [8, 9, 10, 11] (fun own i _ _ wx => ∃ (o : Option Lst) (q : Nat), q ≤ k ∧ i = .int .i64 (q : Int) ∧ own = ov o ∧ (∀ r, o = some r → LstAt wx wo.heap.size r) ∧ Str.Own ok bf k q (o.map Lst.l) ∧ Below wo.heap.size wo wx) (fun _ i _ _ _ => k - (intOf i).toNat)
      case atStart => exact ⟨none, 0, by omega, rfl, rfl, (fun r h => by cases h), (fun i hi => by omega), Below.refl _ _⟩
      case round =>
        obtain ⟨o, q, hqk, rfl, rfl, hol, hown, hB⟩ := hrel
        have e0x := cell_then hB e0r
        have e1x := cell_then hB e1r
        have e2x := cell_then hB e2r
        have hlx := lt_size e0x
        have HOWN := Lib.hid hown
        have HOL := Lib.hid hol
        have HBX := Lib.hid hB
        have hbx := hB.size
        clear hown hol hB
        obtain ⟨wx, hwx⟩ : ∃ wx, wx = wr := ⟨_, rfl⟩
        subst hwx
        by_cases hlq : q < k
        · have hqi : (q : Int) < (k : Int) := by omega
          have hq0 : (0 : Int) ≤ (q : Int) := by omega
          obtain ⟨hri, hgi, hbi⟩ := HBQ0.out q hlq
          have bq := cell_then HBX.out (HCQ.out q hlq)
          have hbfq : bf q = (M.getD q lst0).l := by rw [← HBF.out]
          have hlen := chain_long hbi.1
          obtain ⟨ri, hri'⟩ : ∃ r, M.getD q lst0 = r := ⟨_, rfl⟩
          rw [hri'] at hri hgi bq hbfq hlen
          obtain ⟨gi, ci, li⟩ := ri
          unfold lv at bq
          dsimp only at hgi bq hbfq hlen
          obtain ⟨mi, hmi⟩ : ∃ m, li.length + 1 = m := ⟨_, rfl⟩
          rw [hmi] at bq
          have hmq : mi ≤ q + 1 := by omega
          have hmi1 : 1 ≤ mi := by omega
          have hcap := hri.cap
          dsimp only at hcap
          rw [hmi] at hcap
          have HMI := Lib.hid hmi
          have HRI := Lib.hid (hri.then_ HBX.out)
          have HBFQ := Lib.hid hbfq
          have hcb := fun W (hW : Below wx.heap.size wx W) => HBT.out q k W (below_next HWr.out (below_next HBX.out hW)) hlq hlt
          have hturn := own_turn HOWN.out
          have hql := fun (l : List Nat) (h : o.map Lst.l = some l) => own_long (l := l) (h ▸ HOWN.out) (fun i hi => by rw [← HBF.out]; have := chain_long (HBQ0.out i (by omega)).2.2.1; omega) hqk
          obtain ⟨b, hb⟩ : ∃ b, ok q k = b := ⟨_, rfl⟩
          rw [hb] at hcb
          have HCB := Lib.hid hcb
          have HTURN := Lib.hid hturn
          have HOKB := Lib.hid hb
          have hqk2 : (q : Int) < (cB : Int) := by omega
          have hqk3 : (k : Int) ≤ (cB : Int) := by omega
          have wm : IntKind.i64.wrap ((mi : Int) + 1) = (mi : Int) + 1 := IntWalk.i64_in _ (by omega)
          clear hri hbi hri' hlen hmi hbfq hcb hturn hb hcap
          cases o with
          | none =>
            unfold ov
            go_wp2_with fail
            refine (HCB.out _ (Below.refl _ _)).mono ?_
            rintro e wq ⟨rfl, hq⟩
            have HQX := Lib.hid hq
            have HBQ := Lib.hid (below_next HBX.out hq)
            have hbq := (below_next HBX.out hq).size
            replace bq := cell_then hq bq
            clear hq e0x e1x e2x hlx
            cases b with
            | false =>
              go_wp2_with fail
              have HTQ := Lib.hid (show turn ok bf k q (Option.map Lst.l none) = none by rw [Option.map, turn, if_neg (by rw [HOKB.out]; simp)])
              refine ⟨⟨none, q + 1, by omega, by go_num, rfl, (fun r h => by cases h), ?_, HBQ.out⟩, by simp [intOf]; omega⟩
              have h := HTURN.out
              rw [HTQ.out] at h
              exact h
            | true =>
              have hri := HRI.out.then_ HQX.out
              have HE0 := Lib.hid (World.ownsRow_lit (base := wq.heap.size) (e := 3) (size := 1) wq #[] 0 (by omega) (by unfold maxLen; omega) rfl)
              have hnw : ∀ j u, (ivs (natI (0 :: li)))[j]? = some u → (wq.alloc (.cells #[] 3)).cell? ((⟨gi, 0, none⟩ : Addr).add j) = some u := fun j u h => cell_then (below_alloc (Below.refl _ _) _) (lst_cells hri j u h)
              have HNW := Lib.hid hnw
              have hrl : (ivs (natI (0 :: li))).length = mi * 1 := by rw [ivs_length, natI_length, List.length_cons, Nat.mul_one]; exact HMI.out
              have hmi200 : mi ≤ 200 := by omega
              have hgl7 := lt_size bq
              clear hnw hri
              go_wp2_with (at_builtin; refine wpList_appendN rfl _ _ 32 rfl wq.heap.size 3 iI _ 1 8 Try.underlying32 HI.out.1 HI.out.2.1 HI.out.2.2.1 HI.out.2.2.2 rfl (by omega) (.slice (some ⟨wq.heap.size, 0, none⟩) 0 0) 0 [] rfl HE0.out ⟨gi, 0, none⟩ mi ci (ivs (natI (0 :: li))) rfl hrl HNW.out (ivs_one _) (by unfold maxLen; omega) (by omega) (by simp [go_sem]) ?_)
              rintro v7 w7 own7 kp7 -
              have B7 : Below wq.heap.size wq w7 := Kept.below_next (below_alloc (Below.refl _ _) _) kp7 (by simp [go_sem]) (fun k hk => by have := own_mem hk; simp [Value.ownBlock] at this; omega)
              obtain ⟨g7, c7, rfl, hgw7, -⟩ := own7.form (by omega)
              have HO7 := Lib.hid own7
              have HB7 := Lib.hid B7
              have hb7 := B7.size
              clear own7 kp7 B7 HE0 HNW hrl
              go_wp2_with (at_builtin; refine wpList_append1 rfl _ _ 32 rfl wq.heap.size 3 iI _ 1 8 Try.underlying32 HI.out.1 HI.out.2.1 HI.out.2.2.1 HI.out.2.2.2 rfl (by omega) (by omega) (.slice (some ⟨g7, 0, none⟩) mi c7) mi _ rfl HO7.out #[.int .i64 (k : Int)] rfl rfl (by simp [Value.oneCell']) (by omega) hb7 ?_; intro g8 c8 w8 own8 k8 n8)
              have B8 : Below wq.heap.size wq w8 := k8.below_next HB7.out hb7 (fun q hq => (HO7.out.lt q (own_mem hq)).1)
              have L8 : LstAt w8 wq.heap.size ⟨g8, c8, li ++ [k]⟩ := lst_of_own (by
                have h : ivs (natI (0 :: (li ++ [k]))) = [] ++ ivs (natI (0 :: li)) ++ #[(.int .i64 (k : Int) : Value)].toList := by
                  rw [← List.cons_append, natI_append, ivs_append, List.nil_append]; rfl
                rw [h]
                exact own8)
              have HL8 := Lib.hid (L8.low (B' := wo.heap.size) (by omega))
              have HB8 := Lib.hid (below_next HBQ.out B8)
              have hov : (.slice (some ⟨g8, 0, none⟩) (mi + 1) c8 : Value) = ov (some ⟨g8, c8, li ++ [k]⟩) := by
                rw [ov, lv, List.length_append, List.length_singleton, HMI.out]
              have HOV := Lib.hid hov
              have hb8 := B8.size
              have HB8q := Lib.hid B8
              clear own8 k8 n8 B8 L8 HB7 HO7 hb7 hgw7 hov
              go_wp2_with fail
              have HTQ := Lib.hid (show turn ok bf k q (Option.map Lst.l none) = some (li ++ [k]) by rw [Option.map, turn, if_pos HOKB.out, HBFQ.out])
              refine ⟨⟨some ⟨g8, c8, li ++ [k]⟩, q + 1, by omega, by go_num, HOV.out, (fun r h => by injection h with h; subst h; exact HL8.out), ?_, HB8.out⟩, by simp [intOf]; omega⟩
              have h := HTURN.out
              rw [HTQ.out] at h
              exact h
          | some r =>
            have hr := HOL.out r rfl
            have hrl := hql r.l rfl
            obtain ⟨gr, cr, lr⟩ := r
            unfold ov lv
            dsimp only at hr hrl ⊢
            have hrc := hr.cap
            dsimp only at hrc
            obtain ⟨nr, hnr⟩ : ∃ m, lr.length + 1 = m := ⟨_, rfl⟩
            rw [hnr] at hrc ⊢
            have HNR := Lib.hid hnr
            have HR := Lib.hid hr
            have hnr1 : 1 ≤ nr := by omega
            have hnrk : nr ≤ k + 1 := by omega
            have hnrc : (nr : Int) ≤ (cr : Int) := by omega
            have hkeep : (.slice (some ⟨gr, 0, none⟩) nr cr : Value) = ov (some ⟨gr, cr, lr⟩) := by rw [ov, lv, HNR.out]
            have HKEEP := Lib.hid hkeep
            have HTS := Lib.hid (show turn ok bf k q (Option.map Lst.l (some ⟨gr, cr, lr⟩)) = (if lr.length < (bf q).length + 1 ∨ ok q k = false then some lr else if (bf q).length + 1 < lr.length ∨ firstB (bf q ++ [k]) lr = true then some (bf q ++ [k]) else some lr) from rfl)
            have t3 : decide ((0 : Int) < (nr : Int)) = true := by simp; omega
            clear hr hrl hnr hrc hkeep hql
            by_cases hmore : nr < mi + 1
            · have t4 : decide ((nr : Int) < (mi : Int) + 1) = true := by simp; omega
              have HTQ := Lib.hid (HTS.out.trans (if_pos (.inl (by rw [HBFQ.out]; have := HMI.out; have := HNR.out; omega))))
              go_wp2_with fail
              refine ⟨⟨some ⟨gr, cr, lr⟩, q + 1, by omega, by go_num, HKEEP.out, HOL.out, ?_, HBX.out⟩, by simp [intOf]; omega⟩
              have h := HTURN.out
              rw [HTQ.out] at h
              exact h
            · have t4 : decide ((nr : Int) < (mi : Int) + 1) = false := by simp; omega
              go_wp2_with fail
              refine (HCB.out _ (Below.refl _ _)).mono ?_
              rintro e wq ⟨rfl, hq⟩
              have HQX := Lib.hid hq
              have HBQ := Lib.hid (below_next HBX.out hq)
              have hbq := (below_next HBX.out hq).size
              replace bq := cell_then hq bq
              clear hq e0x e1x e2x hlx
              clear t3 t4
              have HR2 := Lib.hid (HR.out.then_ HQX.out)
              cases b with
              | false =>
                have HTQ := Lib.hid (HTS.out.trans (if_pos (.inr HOKB.out)))
                go_wp2_with fail
                refine ⟨⟨some ⟨gr, cr, lr⟩, q + 1, by omega, by go_num, HKEEP.out, (fun r h => by injection h with h; subst h; exact HR2.out), ?_, HBQ.out⟩, by simp [intOf]; omega⟩
                have h := HTURN.out
                rw [HTQ.out] at h
                exact h
              | true =>
                have hfst : ∀ (W : World) (g8 c8 : Nat), NatR W (some ⟨g8, 0, none⟩) (0 :: (li ++ [k])) → NatR W (some ⟨gr, 0, none⟩) (0 :: lr) → mi + 1 = nr → Calls Try.prog 55 #[.slice (some ⟨g8, 0, none⟩) (mi + 1) c8, .slice (some ⟨gr, 0, none⟩) nr cr] W fun e w' => e = .returned (.bool (firstB (bf q ++ [k]) lr)) ∧ Below W.heap.size W w' := fun W g8 c8 h1 h2 h3 => by
                  have hm := HMI.out
                  have hn := HNR.out
                  have h := firstR_any _ _ c8 cr _ _ W h1 h2 (by simp only [List.length_cons, List.length_append, List.length_nil]; omega) (by simp only [List.length_cons, List.length_append, List.length_nil]; omega)
                  rw [first_zero, List.length_cons, List.length_append, List.length_singleton, List.length_cons, HMI.out, HNR.out] at h
                  rw [HBFQ.out]
                  exact h
                have HFST := Lib.hid hfst
                have t5 : ((nr : Int) == 0) = false := by rw [beq_eq_false_iff_ne]; omega
                clear hfst
                by_cases hless : mi + 1 < nr
                · have t6 : decide (mi + 1 < nr) = true := by simpa using hless
                  have t7 : decide (((mi + 1 : Nat) : Int) < (nr : Int)) = true := by simp; omega
                  have t8 : decide ((mi : Int) + 1 < (nr : Int)) = true := by simp; omega
                  have HTQ := Lib.hid (HTS.out.trans (by rw [if_neg (by rw [HBFQ.out, HOKB.out]; have := HMI.out; have := HNR.out; simp; omega), if_pos (.inl (by rw [HBFQ.out]; have := HMI.out; have := HNR.out; omega)), HBFQ.out] : _ = some (li ++ [k])))
                  have hri := HRI.out.then_ HQX.out
                  have HE0 := Lib.hid (World.ownsRow_lit (base := wq.heap.size) (e := 3) (size := 1) wq #[] 0 (by omega) (by unfold maxLen; omega) rfl)
                  have hnw : ∀ j u, (ivs (natI (0 :: li)))[j]? = some u → (wq.alloc (.cells #[] 3)).cell? ((⟨gi, 0, none⟩ : Addr).add j) = some u := fun j u h => cell_then (below_alloc (Below.refl _ _) _) (lst_cells hri j u h)
                  have HNW := Lib.hid hnw
                  have hrl : (ivs (natI (0 :: li))).length = mi * 1 := by rw [ivs_length, natI_length, List.length_cons, Nat.mul_one]; exact HMI.out
                  have hmi200 : mi ≤ 200 := by omega
                  have hgl7 := lt_size bq
                  clear hnw hri
                  go_wp2_with (at_builtin; refine wpList_appendN rfl _ _ 32 rfl wq.heap.size 3 iI _ 1 8 Try.underlying32 HI.out.1 HI.out.2.1 HI.out.2.2.1 HI.out.2.2.2 rfl (by omega) (.slice (some ⟨wq.heap.size, 0, none⟩) 0 0) 0 [] rfl HE0.out ⟨gi, 0, none⟩ mi ci (ivs (natI (0 :: li))) rfl hrl HNW.out (ivs_one _) (by unfold maxLen; omega) (by omega) (by simp [go_sem]) ?_)
                  rintro v7 w7 own7 kp7 -
                  have B7 : Below wq.heap.size wq w7 := Kept.below_next (below_alloc (Below.refl _ _) _) kp7 (by simp [go_sem]) (fun k hk => by have := own_mem hk; simp [Value.ownBlock] at this; omega)
                  obtain ⟨g7, c7, rfl, hgw7, -⟩ := own7.form (by omega)
                  have HO7 := Lib.hid own7
                  have HB7 := Lib.hid B7
                  have hb7 := B7.size
                  clear own7 kp7 B7 HE0 HNW hrl
                  go_wp2_with (at_builtin; refine wpList_append1 rfl _ _ 32 rfl wq.heap.size 3 iI _ 1 8 Try.underlying32 HI.out.1 HI.out.2.1 HI.out.2.2.1 HI.out.2.2.2 rfl (by omega) (by omega) (.slice (some ⟨g7, 0, none⟩) mi c7) mi _ rfl HO7.out #[.int .i64 (k : Int)] rfl rfl (by simp [Value.oneCell']) (by omega) hb7 ?_; intro g8 c8 w8 own8 k8 n8)
                  have B8 : Below wq.heap.size wq w8 := k8.below_next HB7.out hb7 (fun q hq => (HO7.out.lt q (own_mem hq)).1)
                  have L8 : LstAt w8 wq.heap.size ⟨g8, c8, li ++ [k]⟩ := lst_of_own (by
                    have h : ivs (natI (0 :: (li ++ [k]))) = [] ++ ivs (natI (0 :: li)) ++ #[(.int .i64 (k : Int) : Value)].toList := by
                      rw [← List.cons_append, natI_append, ivs_append, List.nil_append]; rfl
                    rw [h]
                    exact own8)
                  have HL8 := Lib.hid (L8.low (B' := wo.heap.size) (by omega))
                  have HB8 := Lib.hid (below_next HBQ.out B8)
                  have hov : (.slice (some ⟨g8, 0, none⟩) (mi + 1) c8 : Value) = ov (some ⟨g8, c8, li ++ [k]⟩) := by
                    rw [ov, lv, List.length_append, List.length_singleton, HMI.out]
                  have HOV := Lib.hid hov
                  have hb8 := B8.size
                  have HB8q := Lib.hid B8
                  clear own8 k8 n8 B8 L8 HB7 HO7 hb7 hgw7 hov
                  refine ⟨⟨some ⟨g8, c8, li ++ [k]⟩, q + 1, by omega, by go_num, HOV.out, (fun r h => by injection h with h; subst h; exact HL8.out), ?_, HB8.out⟩, by simp [intOf]; omega⟩
                  have h := HTURN.out
                  rw [HTQ.out] at h
                  exact h
                · have heq : mi + 1 = nr := by omega
                  have t6 : decide (mi + 1 < nr) = false := by simpa using hless
                  have t7 : decide (((mi + 1 : Nat) : Int) < (nr : Int)) = false := by simp; omega
                  have t8 : decide ((mi : Int) + 1 < (nr : Int)) = false := by simp; omega
                  have HEQ := Lib.hid heq
                  clear heq
                  have hri := HRI.out.then_ HQX.out
                  have HE0 := Lib.hid (World.ownsRow_lit (base := wq.heap.size) (e := 3) (size := 1) wq #[] 0 (by omega) (by unfold maxLen; omega) rfl)
                  have hnw : ∀ j u, (ivs (natI (0 :: li)))[j]? = some u → (wq.alloc (.cells #[] 3)).cell? ((⟨gi, 0, none⟩ : Addr).add j) = some u := fun j u h => cell_then (below_alloc (Below.refl _ _) _) (lst_cells hri j u h)
                  have HNW := Lib.hid hnw
                  have hrl : (ivs (natI (0 :: li))).length = mi * 1 := by rw [ivs_length, natI_length, List.length_cons, Nat.mul_one]; exact HMI.out
                  have hmi200 : mi ≤ 200 := by omega
                  have hgl7 := lt_size bq
                  clear hnw hri
                  go_wp2_with (at_builtin; refine wpList_appendN rfl _ _ 32 rfl wq.heap.size 3 iI _ 1 8 Try.underlying32 HI.out.1 HI.out.2.1 HI.out.2.2.1 HI.out.2.2.2 rfl (by omega) (.slice (some ⟨wq.heap.size, 0, none⟩) 0 0) 0 [] rfl HE0.out ⟨gi, 0, none⟩ mi ci (ivs (natI (0 :: li))) rfl hrl HNW.out (ivs_one _) (by unfold maxLen; omega) (by omega) (by simp [go_sem]) ?_)
                  rintro v7 w7 own7 kp7 -
                  have B7 : Below wq.heap.size wq w7 := Kept.below_next (below_alloc (Below.refl _ _) _) kp7 (by simp [go_sem]) (fun k hk => by have := own_mem hk; simp [Value.ownBlock] at this; omega)
                  obtain ⟨g7, c7, rfl, hgw7, -⟩ := own7.form (by omega)
                  have HO7 := Lib.hid own7
                  have HB7 := Lib.hid B7
                  have hb7 := B7.size
                  clear own7 kp7 B7 HE0 HNW hrl
                  go_wp2_with (at_builtin; refine wpList_append1 rfl _ _ 32 rfl wq.heap.size 3 iI _ 1 8 Try.underlying32 HI.out.1 HI.out.2.1 HI.out.2.2.1 HI.out.2.2.2 rfl (by omega) (by omega) (.slice (some ⟨g7, 0, none⟩) mi c7) mi _ rfl HO7.out #[.int .i64 (k : Int)] rfl rfl (by simp [Value.oneCell']) (by omega) hb7 ?_; intro g8 c8 w8 own8 k8 n8)
                  have B8 : Below wq.heap.size wq w8 := k8.below_next HB7.out hb7 (fun q hq => (HO7.out.lt q (own_mem hq)).1)
                  have L8 : LstAt w8 wq.heap.size ⟨g8, c8, li ++ [k]⟩ := lst_of_own (by
                    have h : ivs (natI (0 :: (li ++ [k]))) = [] ++ ivs (natI (0 :: li)) ++ #[(.int .i64 (k : Int) : Value)].toList := by
                      rw [← List.cons_append, natI_append, ivs_append, List.nil_append]; rfl
                    rw [h]
                    exact own8)
                  have HL8 := Lib.hid (L8.low (B' := wo.heap.size) (by omega))
                  have HB8 := Lib.hid (below_next HBQ.out B8)
                  have hov : (.slice (some ⟨g8, 0, none⟩) (mi + 1) c8 : Value) = ov (some ⟨g8, c8, li ++ [k]⟩) := by
                    rw [ov, lv, List.length_append, List.length_singleton, HMI.out]
                  have HOV := Lib.hid hov
                  have hb8 := B8.size
                  have HB8q := Lib.hid B8
                  clear own8 k8 n8 B8 L8 HB7 HO7 hb7 hgw7 hov
                  have HR8 := Lib.hid (HR2.out.then_ HB8q.out)
                  have HF8 := Lib.hid (HFST.out w8 g8 c8 HL8.out.nat HR8.out.nat HEQ.out)
                  obtain ⟨fb, hfb⟩ : ∃ x, firstB (bf q ++ [k]) lr = x := ⟨_, rfl⟩
                  have hts := HTS.out
                  rw [if_neg (by rw [HBFQ.out, HOKB.out]; have := HMI.out; have := HNR.out; have := HEQ.out; simp; omega), hfb] at hts
                  rw [hfb] at HF8
                  have HTS2 := Lib.hid hts
                  clear hfb hts
                  refine HF8.out.mono ?_
                  rintro e w9 ⟨rfl, b9⟩
                  have HB9 := Lib.hid (below_next HB8.out b9)
                  have HL9 := Lib.hid (HL8.out.then_ b9)
                  have HRR := Lib.hid (HR8.out.then_ b9)
                  clear b9 HF8
                  cases fb with
                  | true =>
                    have HTQ := Lib.hid (HTS2.out.trans (by rw [if_pos (.inr rfl), HBFQ.out] : _ = some (li ++ [k])))
                    go_wp2_with fail
                    refine ⟨⟨some ⟨g8, c8, li ++ [k]⟩, q + 1, by omega, by go_num, HOV.out, (fun r h => by injection h with h; subst h; exact HL9.out), ?_, HB9.out⟩, by simp [intOf]; omega⟩
                    have h := HTURN.out
                    rw [HTQ.out] at h
                    exact h
                  | false =>
                    have HTQ := Lib.hid (HTS2.out.trans (by rw [if_neg (by rw [HBFQ.out]; have := HMI.out; have := HNR.out; have := HEQ.out; simp; omega)] : _ = some lr))
                    go_wp2_with fail
                    refine ⟨⟨some ⟨gr, cr, lr⟩, q + 1, by omega, by go_num, HKEEP.out, (fun r h => by injection h with h; subst h; exact HRR.out), ?_, HB9.out⟩, by simp [intOf]; omega⟩
                    have h := HTURN.out
                    rw [HTQ.out] at h
                    exact h
        · obtain rfl : q = k := by omega
          obtain ⟨l, hl, hbst⟩ := own_best (ok := ok) (by omega) (by have h := HOK1.out (q - 1); rw [show q - 1 + 1 = q by omega] at h; exact h) (fun i hi => by rw [← HBF.out]; exact (HBQ0.out i hi).2.2) HOWN.out
          cases o with
          | none => cases hl
          | some r =>
            have hr := HOL.out r rfl
            have hrl : r.l = l := by injection hl
            rw [← hrl] at hbst
            obtain ⟨gr, cr, lr⟩ := r
            unfold ov lv
            dsimp only at hbst ⊢
            have HR := Lib.hid hr
            have HBS := Lib.hid hbst
            have HOX := Lib.hid (own_then HOW.out HBX.out)
            have hgr := hr.lo
            have hgr2 := hr.hi
            have hgb := (HOW.out.lt gB rfl).2
            dsimp only at hgr hgr2
            have hws : B ≤ wx.heap.size := by omega
            have hqq : ¬ (q : Int) < (q : Int) := by omega
            clear hr hrl hbst hl
            go_wp2_with (at_builtin; refine wpList_append1 rfl _ _ 51 rfl B 32 iL _ 1 24 Try.underlying51 HJ.out.1 HJ.out.2.1 HJ.out.2.2.1 HJ.out.2.2.2 rfl (by omega) (by omega) (.slice (some ⟨gB, 0, none⟩) q cB) q _ rfl HOX.out #[.slice (some ⟨gr, 0, none⟩) (lr.length + 1) cr] rfl rfl (by simp [Value.oneCell']) (by omega) hws ?_; intro g' c' w' own' k' n'; have OW := Lib.hid own'; have KW := Lib.hid k'; have NW := Lib.hid n'; clear own' k' n')
            have hng : g' = gB ∨ wx.heap.size ≤ g' := by
              rcases NW.out with h | h
              · exact .inl (by injection h with h; exact h.symm)
              · exact .inr h
            refine ⟨⟨M ++ [⟨gr, cr, lr⟩], by rw [List.length_append, HK.out]; simp, by rw [List.length_append, HK.out]; simp; omega, by rw [List.length_append, HK.out]; go_num, ?_, fun p hp => ?_, ?_⟩, by simp [intOf]; omega⟩
            · rw [List.length_append, List.map_append, HK.out]
              exact OW.out
            · rw [List.length_append, HK.out, List.length_singleton] at hp
              by_cases hpq : p < q
              · have e : (M ++ [(⟨gr, cr, lr⟩ : Lst)]).getD p lst0 = M.getD p lst0 := by simp [List.getD, List.getElem?_append_left (show p < M.length by rw [HK.out]; exact hpq)]
                rw [e]
                obtain ⟨h1, h2, h3⟩ := HBQ0.out p hpq
                refine ⟨(h1.then_ HBX.out).kept KW.out (fun e2 => h2 (by simpa [Value.ownBlock, eq_comm] using e2)), fun e2 => ?_, h3⟩
                have e3 : g' = (M.getD p lst0).g := by simpa [Value.ownBlock] using e2
                have := h1.hi
                rcases hng with h6 | h6
                · exact h2 (by omega)
                · omega
              · obtain rfl : p = q := by omega
                have e : (M ++ [(⟨gr, cr, lr⟩ : Lst)]).getD p lst0 = ⟨gr, cr, lr⟩ := by rw [← HK.out]; simp [List.getD]
                rw [e]
                refine ⟨((HR.out.low (by omega)).kept KW.out (fun e2 => ?_)), fun e2 => ?_, HBS.out⟩
                · have e3 : gr = gB := by simpa [Value.ownBlock, eq_comm] using e2
                  omega
                · have e3 : g' = gr := by simpa [Value.ownBlock] using e2
                  omega
            · exact KW.out.below_next (HB.out.trans (HBX.out.mono (by omega))) (by omega) (fun q hq => by have := own_mem hq; simp [Value.ownBlock] at this; omega)
    · obtain rfl : k = n := by omega
      have hki : ¬ (k : Int) < (k : Int) := by omega
      obtain ⟨hl, -, hbst⟩ := HMD.out (k - 1) (by rw [HK.out]; omega)
      have hc : wo.cell? ⟨gB, k - 1, none⟩ = some (lv (M.getD (k - 1) lst0)) := by
        have h : (M.map lv)[k - 1]? = some (lv (M.getD (k - 1) lst0)) := by
          have h2 : k - 1 < M.length := by rw [HK.out]; omega
          simp [List.getElem?_map, List.getD, List.getElem?_eq_getElem h2]
        exact (HOW.out.cellAt (k - 1) (by omega)).trans h
      have heq := best_unique hbst HTB.out
      obtain ⟨r, hr⟩ : ∃ r, M.getD (k - 1) lst0 = r := ⟨_, rfl⟩
      rw [hr] at hl hc heq
      obtain ⟨gr, cr, lr⟩ := r
      unfold lv at hc
      dsimp only at hc heq
      have HL := Lib.hid hl
      have hth : thinF D z = 0 :: lr := by rw [HTH.out, heq]
      have HTT := Lib.hid hth
      have hgl := lt_size hc
      have hc3 := hl.cap
      dsimp only at hc3
      have eq1 : ((k : Int) - 1).toNat = k - 1 := by omega
      have wq1 : IntKind.i64.wrap ((k : Int) - 1) = (k : Int) - 1 := IntWalk.i64_in _ (by omega)
      have b01 : (0 : Int) ≤ (k : Int) - 1 := by omega
      have b02 : (k : Int) - 1 < (k : Int) := by omega
      have hkc : (k : Int) ≤ (cB : Int) := by omega
      clear heq hr hl hbst hth hlt
      go_wp2_with fail
      go_ret2
      refine ⟨some ⟨gr, 0, none⟩, cr, ?_, ?_, ?_, HWr.out⟩
      · rw [HTT.out]; rfl
      · rw [HTT.out]; exact ints_of_nat HL.out.nat
      · rw [HTT.out]; exact hc3.1
end Go.Proofs.Ytgmabepdhbnppaa
