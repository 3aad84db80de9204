/- Verify: what it returns. -/
import Derived.Test.YtoipckflokdakaaDoorDigAll
namespace Go.Proofs.YtoipckflokdakaaDoor
open Go.RowKit Sha Mk
attribute [local go_sem] Oper.semAt_some
theorem side_info1 : (Tryd.prog.info? 58).map (fun i => (i.zero, i.size, i.bytes)) = some (some (.agg #[.string ⟨#[]⟩, .bool false]), 2, 24) := by kernel_rfl
def valueS (n i : Nat) (s : ByteArray) (P : List ByteArray) : Option ByteArray := valueF leafS nodeS n i s P
/-- a way applied to a value, its last step first -/
def appW (l : List (ByteArray × Bool)) (v : ByteArray) : ByteArray := l.foldr (fun x v => if x.2 then nodeS x.1 v else nodeS v x.1) v
theorem appW_snoc (l : List (ByteArray × Bool)) (x : ByteArray × Bool) (v : ByteArray) : appW (l ++ [x]) v = appW l (if x.2 then nodeS x.1 v else nodeS v x.1) := by simp [appW]
theorem value_one (i : Nat) (s : ByteArray) (P : List ByteArray) : valueS 1 i s P = if P = [] then some (leafS s) else none := by
  cases P with
  | nil => simp [valueS, valueF]
  | cons x P => simp [valueS, valueF]
theorem value_nil (n i : Nat) (s : ByteArray) (h : 2 ≤ n) : valueS n i s [] = none := by
  rw [valueS, valueF, if_neg (by omega)]
theorem value_cons (n i : Nat) (s x : ByteArray) (P : List ByteArray) (h : 2 ≤ n) : valueS n i s (x :: P) = if i < lft n then (valueS (lft n) i s P).map fun v => nodeS v x else (valueS (n - lft n) (i - lft n) s P).map fun v => nodeS x v := by
  rw [valueS, valueF, if_neg (by omega)]
  rfl
def verifyB (rt : ByteArray) (n i : Int) (s : ByteArray) (p : List ByteArray) : Bool := decide (0 ≤ i) && decide (i < n) && allB p && ((valueS n.toNat i.toNat s p.reverse).map ByteArray.toList == some rt.toList)
theorem appW_run (Wy : List (ByteArray × Bool)) (m : Nat) (v : ByteArray) (hm : Wy.length = m) (hv : v.size = 32) : ∃ OUT : Nat → ByteArray, OUT 0 = v ∧ (∀ k, k < m → OUT (k + 1) = if (Wy.getD (m - 1 - k) (⟨#[]⟩, false)).2 then nodeS (Wy.getD (m - 1 - k) (⟨#[]⟩, false)).1 (OUT k) else nodeS (OUT k) (Wy.getD (m - 1 - k) (⟨#[]⟩, false)).1) ∧ (∀ k, (OUT k).size = 32) ∧ OUT m = appW Wy v := by
  refine ⟨fun k => appW (Wy.drop (m - k)) v, ?_, fun k hk => ?_, fun k => ?_, ?_⟩
  · show appW (Wy.drop (m - 0)) v = v
    rw [List.drop_eq_nil_of_le (by omega)]; rfl
  · show appW (Wy.drop (m - (k + 1))) v = _
    rw [show m - (k + 1) = m - 1 - k by omega, List.drop_eq_getElem_cons (by omega : m - 1 - k < Wy.length), show m - 1 - k + 1 = m - k by omega]
    rw [List.getD, List.getElem?_eq_getElem (by omega : m - 1 - k < Wy.length)]
    rfl
  · show (appW (Wy.drop (m - k)) v).size = 32
    cases Wy.drop (m - k) with
    | nil => exact hv
    | cons x t =>
      show (if x.2 then nodeS x.1 (appW t v) else nodeS (appW t v) x.1).size = 32
      split
      · exact nodeS_size _ _
      · exact nodeS_size _ _
  · show appW (Wy.drop (m - m)) v = _
    rw [Nat.sub_self, List.drop_zero]
theorem all_sizes {p : List ByteArray} (h : allB p = true) : ∀ s ∈ p, s.size = 32 := fun s hs => by
  rw [allB] at h
  simp only [Bool.not_eq_true', List.any_eq_false] at h
  have := h s hs
  simp [oddB] at this
  omega
theorem Kept.lt_of {w : World} {k : Nat} {x : Obj} (h : w.heap[k]? = some x) : k < w.heap.size := (Array.getElem?_eq_some_iff.1 h).1
theorem str_beq (a b : ByteArray) : (a.toList == b.toList) = ((some a).map ByteArray.toList == some b.toList) := rfl
theorem str_beq_iff (a b : ByteArray) : (a.toList == b.toList) = true ↔ a = b := by
  rw [beq_iff_eq, ByteArray.toList_eq, ByteArray.toList_eq]
  constructor
  · intro h
    cases a; cases b
    simp only at h
    rw [Array.toList_inj.1 h]
  · intro h
    rw [h]
theorem steps_putObj {W : World} {A : Option Addr} {zs : List (ByteArray × Bool)} (h : StepsAt W A zs) {l : Nat} (hne : ∀ y, A = some y → y.block ≠ l) (x : Obj) : StepsAt (W.putObj l x) A zs := fun i hi => by
  obtain ⟨b, hb, h1, h2⟩ := h i hi
  have := hne _ hb
  exact ⟨b, hb, cell_putObj' h1 this x, cell_putObj' h2 this x⟩
theorem steps_setCell {W : World} {A : Option Addr} {zs : List (ByteArray × Bool)} (h : StepsAt W A zs) {p : Addr} (hne : ∀ y, A = some y → y.block ≠ p.block) (x : Value) : StepsAt (W.setCell p x) A zs := fun i hi => by
  obtain ⟨b, hb, h1, h2⟩ := h i hi
  have := hne _ hb
  exact ⟨b, hb, cell_set x h1 this, cell_set x h2 this⟩
/-- the state of the loop over the way -/
structure VerJ (w : World) (OUT : Nat → ByteArray) (zs : List (ByteArray × Bool)) (A : Option Addr) (c ob Bs D : Nat) (rec : LoopState → Option Code → Obj) (k : Nat) (W : World) : Prop where
  out : Boxed W ob 9 (.string (OUT k))
  bs : W.cell? ⟨Bs, 0, none⟩ = some (.slice A zs.length c)
  steps : StepsAt W A zs
  rnd : RoundIn W
  below : Below w.heap.size w W
  loop : W.heap[D + 1]? = some (rec .ready none)
  dfr : W.heap[D]? = some (.deferred (some []))
theorem rev_take (p : List ByteArray) (q : Nat) (h : q < p.length) : (p.take (q + 1)).reverse = p.getD q ⟨#[]⟩ :: (p.take q).reverse := by
  rw [List.take_succ_eq_append_getElem h, List.reverse_append, List.getD, List.getElem?_eq_getElem h]
  rfl
theorem opt_map_app (o : Option ByteArray) (Wy : List (ByteArray × Bool)) (x : ByteArray) (b : Bool) : (o.map fun v => if b then nodeS x v else nodeS v x).map (appW Wy) = o.map (appW (Wy ++ [(x, b)])) := by
  cases o with
  | none => rfl
  | some v => simp [appW_snoc]
set_option maxRecDepth 100000 in
set_option maxHeartbeats 8000000 in
theorem verify_any (rt : ByteArray) (n i : Int) (s : ByteArray) (A : Option Addr) (c : Nat) (p : List ByteArray) (w : World) (hn1 : -9223372036854775808 ≤ n) (hn2 : n ≤ 9223372036854775807) (hi1 : -9223372036854775808 ≤ i) (hi2 : i ≤ 9223372036854775807) (hs : s.size ≤ 400000)
    (hA : StrsAt w A p) (hp : p.length ≤ 1000) (hc : p.length ≤ c) (_hcm : c ≤ maxLen) (hsz : ∀ s ∈ p, (s.size : Int) ≤ 9223372036854775807) (hK : RoundIn w) :
    Calls Tryd.prog 21 #[.string rt, .int .i64 n, .int .i64 i, .string s, .slice A p.length c] w fun e w' => e = .returned (.bool (verifyB rt n i s p)) ∧ Below w.heap.size w w' := by
  unfold maxLen at _hcm
  by_cases h1 : i < 0
  · have hr : verifyB rt n i s p = false := by simp [verifyB]; omega
    have HR := Lib.hid hr
    have hd : decide (i < 0) = true := by simpa using h1
    clear hr hA
    refine calls_of_wp_marks Tryd.func21 rfl ?_
    simp only [Tryd.ntmps21, List.size_toArray, List.length_cons, List.length_nil, Nat.reduceAdd, Nat.reduceSub, Array.replicate_succ, Array.replicate_zero, List.push_toArray, List.append_toArray, List.nil_append, List.cons_append]
    go_wp2_with fail
    refine ⟨_, results_tmp rfl _ _ _, ?_, Below.refl _ _⟩
    exact ret_bool HR.out.symm
  by_cases h2 : n ≤ i
  · have hr : verifyB rt n i s p = false := by simp [verifyB]; omega
    have HR := Lib.hid hr
    have hd : decide (i < 0) = false := by simpa using h1
    have hd2 : decide (n ≤ i) = true := by simpa using h2
    clear hr hA
    refine calls_of_wp_marks Tryd.func21 rfl ?_
    simp only [Tryd.ntmps21, List.size_toArray, List.length_cons, List.length_nil, Nat.reduceAdd, Nat.reduceSub, Array.replicate_succ, Array.replicate_zero, List.push_toArray, List.append_toArray, List.nil_append, List.cons_append]
    go_wp2_with fail
    refine ⟨_, results_tmp rfl _ _ _, ?_, Below.refl _ _⟩
    exact ret_bool HR.out.symm
  have hall := all_any A c p.length p w rfl hA (by omega) hsz
  have hd : decide (i < 0) = false := by simpa using h1
  have hd2 : decide (n ≤ i) = false := by simpa using h2
  obtain ⟨i', rfl⟩ := Int.eq_ofNat_of_zero_le (by omega : 0 ≤ i)
  obtain ⟨n', rfl⟩ := Int.eq_ofNat_of_zero_le (by omega : 0 ≤ n)
  have hd3 : decide (n' ≤ i') = false := by simp; omega
  clear hd2
  cases hb : allB p with
  | false =>
    rw [hb] at hall
    have hr : verifyB rt n' i' s p = false := by simp [verifyB, hb]
    have HR := Lib.hid hr
    have HALL := Lib.hid hall
    clear hr hA hall
    refine calls_of_wp_marks Tryd.func21 rfl ?_
    simp only [Tryd.ntmps21, List.size_toArray, List.length_cons, List.length_nil, Nat.reduceAdd, Nat.reduceSub, Array.replicate_succ, Array.replicate_zero, List.push_toArray, List.append_toArray, List.nil_append, List.cons_append]
    go_wp2_with (go_at_call 45; refine HALL.out.mono ?_; rintro e w1 ⟨rfl, b1⟩)
    refine ⟨_, results_tmp rfl _ _ _, ?_, b1⟩
    exact ret_bool HR.out.symm
  | true =>
    rw [hb] at hall
    obtain ⟨i0, hi0, hz0, hz1, hz2⟩ := info_parts side_info1
    have I1 := Lib.hid hi0
    have I2 := Lib.hid hz0
    have I3 := Lib.hid hz1
    have I4 := Lib.hid hz2
    have hr : verifyB rt n' i' s p = ((valueS n' i' s p.reverse).map ByteArray.toList == some rt.toList) := by simp [verifyB, hb]; omega
    have HR := Lib.hid hr
    have HALL := Lib.hid hall
    have HA := Lib.hid hA
    have HK := Lib.hid hK
    have HSZ := Lib.hid (all_sizes hb)
    have hin : i' < n' := by omega
    have hnm : n' ≤ 9223372036854775807 := by omega
    obtain ⟨N, hN⟩ : ∃ N, p.length = N := ⟨_, rfl⟩
    have HN := Lib.hid hN
    rw [hN] at HALL hp hc ⊢
    clear hr hA hall hK hi0 hz0 hz1 hz2 h1 h2 hb hsz hi1 hi2 hn1 hn2 hN
    refine calls_of_wp_marks Tryd.func21 rfl ?_
    simp only [Tryd.ntmps21, List.size_toArray, List.length_cons, List.length_nil, Nat.reduceAdd, Nat.reduceSub, Array.replicate_succ, Array.replicate_zero, List.push_toArray, List.append_toArray, List.nil_append, List.cons_append]
    go_wp2_with (go_at_call 45; refine HALL.out.mono ?_; rintro e w1 ⟨rfl, b1⟩)
    have HB1 := Lib.hid b1
    clear b1
    go_loopw [1, 2, 4, 11] (fun a1 a2 a4 v wr => ∃ (m j q : Nat) (Wy : List (ByteArray × Bool)), a1 = .int .i64 (m : Int) ∧ a2 = .int .i64 (j : Int) ∧ a4 = .slice A q c ∧ q ≤ N ∧ j < m ∧ m ≤ 9223372036854775807 ∧ valueS n' i' s p.reverse = (valueS m j s (p.take q).reverse).map (appW Wy) ∧ Wy.length + q = N ∧ (∀ x ∈ Wy, x.1.size = 32) ∧ wr.ownsRow w.heap.size 58 2 v Wy.length (stepVs Wy) ∧ Below w.heap.size w wr) (fun _ _ a4 _ _ => sliceLen a4)
    case atStart => exact ⟨n', i', N, [], rfl, rfl, rfl, Nat.le_refl _, hin, hnm, by rw [← HN.out, List.take_length]; cases valueS n' i' s p.reverse <;> rfl, by simp, (fun x h => (by cases h)), World.ownsRow_nil _ _ _ _, HB1.out⟩
    case round =>
      obtain ⟨m, j, q, Wy, rfl, rfl, rfl, hq, hjm, hm, hv, hw, hws, ho, hB⟩ := hrel
      have HV := Lib.hid hv
      have HW := Lib.hid hw
      have HWS := Lib.hid hws
      have HO := Lib.hid ho
      have HB := Lib.hid hB
      have hbs := hB.size
      have hwl : Wy.length ≤ 1000 := by omega
      clear hv hw hws ho hB
      by_cases hm1 : m = 1
      · have hg : ¬ (1 : Int) < (m : Int) := by omega
        obtain rfl : j = 0 := by omega
        have HS := Lib.hid hs
        have HKW := Lib.hid (HK.out.then_ HB.out)
        obtain ⟨g, cw, hvv⟩ : ∃ (g : Option Addr) (cw : Nat), u11 = .slice g Wy.length cw := by
          rcases HO.out.2 with ⟨h1, h2⟩ | ⟨g, c, cur, h1, _, _, _, _, _, _⟩
          · exact ⟨_, _, by rw [h1, h2]⟩
          · exact ⟨_, _, h1⟩
        subst hvv
        have HVF : Hid (valueS n' i' s p.reverse = if q = 0 then some (appW Wy (leafS s)) else none) := by
          show _ = _
          rw [HV.out, hm1, value_one]
          by_cases hq0 : q = 0
          · subst hq0; simp
          · have : (p.take q).reverse ≠ [] := by
              intro e
              have := congrArg List.length e
              rw [List.length_reverse, List.length_take, HN.out] at this
              simp at this; omega
            rw [if_neg this, if_neg hq0]; rfl
        clear hm1
        go_wp2_with (first | (go_at_call 29; refine (leaf_any s _ hs HKW.out).mono ?_; rintro e w2 ⟨rfl, b2⟩) | (go_at_call 47; refine (backW_any _ _ _ _).mono ?_; rintro e w7 ⟨rfl, hw7⟩))
        obtain ⟨OUT, u0, u1, u2, u3⟩ := appW_run Wy Wy.length (leafS s) rfl (leafS_size s)
        have HU0 := Lib.hid u0
        have HU1 := Lib.hid u1
        have HU2 := Lib.hid u2
        have HU3 := Lib.hid u3
        have B2 := below_next HB.out b2
        have hst2 : StepsAt w2 g Wy := by
          rcases HO.out.2 with ⟨h1, h2⟩ | ⟨g', cc, cur, h1, _, _, _, _, _, _⟩
          · intro i hi; omega
          · injection h1 with e1 e2 e3
            subst e1 e3
            exact (steps_of_own HO.out).then_ b2
        have hgn : ∀ y, g = some y → w.heap.size ≤ y.block ∧ y.block < w2.heap.size := by
          intro y hy
          rcases HO.out.2 with ⟨h1, h2⟩ | ⟨g', cc, cur, h1, hb', hg', _, _, _, _⟩
          · injection h1 with e1; rw [hy] at e1; cases e1
          · injection h1 with e1; rw [hy] at e1; injection e1 with e1; subst e1
            have := Kept.lt_of hg'
            have := b2.size
            dsimp only
            omega
        have K7 : Below w2.heap.size w2 w7 := by rw [← hw7]; exact below_alloc (below_alloc (Below.refl _ _) _) _
        have s7 : w2.heap.size + 2 ≤ w7.heap.size := by rw [← hw7]; simp
        have x0 : w7.cell? ⟨w2.heap.size + 1, 0, none⟩ = some (.slice g Wy.length cw) := by rw [← hw7]; exact new_cell' rfl
        have x1 : Boxed w7 w2.heap.size 9 (.string (OUT 0)) := by
          rw [← hw7, u0]
          exact heap_alloc (Boxed.new w2 _ _) _
        have hr7 := (HKW.out.then_ b2).then_ K7
        have hs7 := hst2.then_ K7
        have hb7 := below_next B2 K7
        have hl0 := HK.out.1
        have hl2 := B2.size
        clear hw7 u0 u1 u2 u3 hst2 B2 b2
        refine range_outer (n := 0) (gf := 63) (lb := #[.pointer (some ⟨w2.heap.size + 1, 0, none⟩)]) rfl (enters_of Tryd.func63 (by kernel_rfl) rfl) ?_
        intro fn rec hrec
        have hcl := rec_cells hrec
        refine (backW_in _ (w2.heap.size + 1) g cw Wy (VerJ w OUT Wy g cw w2.heap.size (w2.heap.size + 1) w7.heap.size rec) (by omega) (fun k W h => ⟨h.steps, h.bs⟩) ?round _ ?start).mono ?done
        case start =>
          have hb2 := below_alloc (below_alloc (Below.refl w7.heap.size w7) (.deferred (some []))) (rec .ready none)
          refine ⟨(x1.alloc _).alloc _, cell_then hb2 x0, hs7.then_ hb2, hr7.then_ hb2, below_next hb7 hb2, ?_, heap_alloc (World.alloc_heap_new w7 _) _⟩
          have := World.alloc_heap_new (w7.alloc (.deferred (some []))) (rec .ready none)
          rwa [World.size_alloc] at this
        case round =>
          intro k W hlt2 hJ
          have hst2 := HU1.out k hlt2
          obtain ⟨z, hz⟩ : ∃ z, Wy.getD (Wy.length - 1 - k) (⟨#[]⟩, false) = z := ⟨_, rfl⟩
          have hz1 : z.1.size = 32 := by
            rw [← hz, List.getD, List.getElem?_eq_getElem (by omega)]
            exact HWS.out _ (List.getElem_mem _)
          have hob := HU2.out k
          have hout := hJ.out
          obtain ⟨o1, ho1⟩ : ∃ o, OUT k = o := ⟨_, rfl⟩
          rw [hz] at hst2 ⊢
          rw [ho1] at hst2 hob hout
          obtain ⟨z1, z2⟩ := z
          simp only at hst2 hz1 ⊢
          have HST2 := Lib.hid hst2
          have HOUT := Lib.hid hout
          have HJ := Lib.hid hJ
          have hl := hJ.loop
          have hlW := heap_lt hl
          refine yield_round hrec trivial hl rfl ?_
          clear hrec hst2 hz ho1 hJ hout
          gi_wp2
          refine ⟨heap_alloc hl _, ?_⟩
          have hJ := HJ.out
          have hW1 := below_alloc (Below.refl W.heap.size W) (.cells #[.string z1, .bool z2] 58)
          have n0 : (W.alloc (.cells #[.string z1, .bool z2] 58)).cell? ⟨W.heap.size, 0, none⟩ = some (.string z1) := new_cell rfl
          have n1 : (W.alloc (.cells #[.string z1, .bool z2] 58)).cell? ⟨W.heap.size, 1, none⟩ = some (.bool z2) := new_cell rfl
          have hla := heap_alloc hl (.cells #[.string z1, .bool z2] 58)
          have hda := heap_alloc hJ.dfr (.cells #[.string z1, .bool z2] 58)
          have hoa : Boxed (W.alloc (.cells #[.string z1, .bool z2] 58)) w2.heap.size 9 (.string o1) := heap_alloc HOUT.out _
          have hsa : w2.heap.size < W.heap.size := heap_lt HOUT.out
          obtain ⟨Wa, hWa⟩ : ∃ Wa, W.alloc (.cells #[.string z1, .bool z2] 58) = Wa := ⟨_, rfl⟩
          rw [hWa] at hW1 n0 n1 hla hda hoa ⊢
          have hlb := heap_put hla (rec .busy none)
          have hD := heap_putObj hda (show w7.heap.size ≠ w7.heap.size + 1 by omega) (rec .busy none)
          have y0 := cell_putObj' (cell_then hW1 hJ.bs) (show w2.heap.size + 1 ≠ w7.heap.size + 1 by omega) (rec .busy none)
          have hbo := boxed_putObj hoa (show w2.heap.size ≠ w7.heap.size + 1 by omega) (rec .busy none)
          have hrn := roundIn_putObj (hJ.rnd.then_ hW1) (show _ ≠ w7.heap.size + 1 by omega) (rec .busy none)
          have hss := steps_putObj (hJ.steps.then_ hW1) (fun y hy => (by have := (hgn y hy).2; omega : y.block ≠ w7.heap.size + 1)) (rec .busy none)
          have hbl2 := below_putObj (below_next hJ.below hW1) (show w.heap.size ≤ w7.heap.size + 1 by omega) (rec .busy none)
          have m0 := cell_putObj' n0 (show W.heap.size ≠ w7.heap.size + 1 by omega) (rec .busy none)
          have m1 := cell_putObj' n1 (show W.heap.size ≠ w7.heap.size + 1 by omega) (rec .busy none)
          obtain ⟨Wb, hWb⟩ : ∃ Wb, Wa.putObj (w7.heap.size + 1) (rec .busy none) = Wb := ⟨_, rfl⟩
          rw [hWb] at hlb hD y0 hbo hrn hss hbl2 m0 m1 ⊢
          clear hWb hJ hl hlW hWa hW1 n0 n1 hla hda hoa
          have H0 := Lib.hid hlb
          have H1 := Lib.hid hD
          have H2 := Lib.hid y0
          have H5 := Lib.hid hrn
          have H4 := Lib.hid hss
          have H7 := Lib.hid hbl2
          have HBO := Lib.hid hbo
          have hcb := hbo.cell
          have hz2' : z1.size ≤ 400000 := by omega
          have hob2 : o1.size ≤ 400000 := by omega
          have lbo := lt_size hcb
          clear hlb hD y0 hrn hss hbl2 hbo hob hz1
          gi_wp2_with fail
          refine ⟨trivial, rfl, CallsIn.inRound _ ((callsIn_wide (n := 0)).2 ((join_any z1 z2 o1 _ hz2' hob2 H5.out).mono ?_))⟩
          rintro e W3 ⟨rfl, b3⟩
          have q1 : Boxed W3 w2.heap.size 9 (.string o1) := (b3.block _ (heap_lt HBO.out)).trans HBO.out
          rw [← HST2.out]
          have HM1 := Lib.hid q1
          have hc3 := q1.cell
          have hf3 := q1.frozen
          have lb3 := lt_size hc3
          clear hcb q1 m0 m1
          gi_wp2_with fail
          have hne : w2.heap.size ≠ w7.heap.size + 1 := by omega
          have q0 := heap_setCell (p := ⟨w2.heap.size, 0, none⟩) ((b3.block _ (heap_lt H0.out)).trans H0.out) (by dsimp only; omega) (.string (OUT (k + 1)))
          refine ⟨q0, rfl, ?_, ?_, ?_, ?_, ?_, heap_put q0 _, ?_⟩
          · exact boxed_putObj (HM1.out.set _) hne _
          · exact cell_putObj' (cell_set _ (cell_then b3 H2.out) (by dsimp only; omega)) (by dsimp only; omega) _
          · exact steps_putObj (steps_setCell (H4.out.then_ b3) (fun y hy => (by have := (hgn y hy).2; dsimp only; omega)) _) (fun y hy => (by have := (hgn y hy).2; omega)) _
          · have hr3 := H5.out.then_ b3
            exact roundIn_putObj ⟨by simpa using hr3.1, fun j hj => cell_set _ (hr3.2 j hj) (by dsimp only; omega)⟩ (by omega) _
          · exact below_putObj ((below_next H7.out b3).setCell (by dsimp only; omega) _) (by omega) _
          · exact heap_putObj (heap_setCell ((b3.block _ (heap_lt H1.out)).trans H1.out) (by dsimp only; omega) _) (by omega) _
        case done =>
          rintro e W' ⟨hv, hJ⟩
          refine ⟨hv, .inl ⟨hJ.loop, ?_⟩⟩
          have q1 := boxed_putObj hJ.out (show w2.heap.size ≠ w7.heap.size + 1 by omega) (rec .exhausted none)
          have q2 := below_putObj hJ.below (show w.heap.size ≤ w7.heap.size + 1 by omega) (rec .exhausted none)
          have q3 := heap_putObj hJ.dfr (show w7.heap.size ≠ w7.heap.size + 1 by omega) (rec .exhausted none)
          obtain ⟨W4, hW4⟩ : ∃ W4, W'.putObj (w7.heap.size + 1) (rec .exhausted none) = W4 := ⟨_, rfl⟩
          rw [hW4] at q1 q2 q3 ⊢
          rw [HU3.out] at q1
          obtain ⟨VV, hVV⟩ : ∃ VV, appW Wy (leafS s) = VV := ⟨_, rfl⟩
          rw [hVV] at q1 HVF
          have hc4 := q1.cell
          have HQ2 := Lib.hid q2
          have HQ3 := Lib.hid q3
          clear hW4 hrec q1 q2 q3 hJ hVV
          by_cases hq0 : q = 0
          · have e0 : (((q : Nat) : Int) == 0) = true := by rw [beq_iff_eq]; omega
            have HVF2 : Hid (verifyB rt n' i' s p = ((some VV).map ByteArray.toList == some rt.toList)) := by
              show _ = _
              rw [HR.out, HVF.out, if_pos hq0]
            clear hq0
            go_wp2_with fail
            refine leaves_marked HQ3.out (results_tmp rfl _ _ _) ⟨?_, below_putObj HQ2.out (by omega) _⟩
            exact ret_bool ((str_beq VV rt).trans HVF2.out.symm)
          · have e0 : (((q : Nat) : Int) == 0) = false := by rw [beq_eq_false_iff_ne]; omega
            have HVF2 : Hid (verifyB rt n' i' s p = false) := by
              show _ = _
              rw [HR.out, HVF.out, if_neg hq0]; rfl
            clear hq0
            go_wp2_with fail
            refine leaves_marked HQ3.out (results_tmp rfl _ _ _) ⟨?_, below_putObj HQ2.out (by omega) _⟩
            exact ret_bool HVF2.out.symm
      · by_cases hq0 : q = 0
        · have hg : (1 : Int) < (m : Int) := by omega
          subst hq0
          have hr0 : verifyB rt n' i' s p = false := by
            rw [HR.out, HV.out, List.take_zero, List.reverse_nil, value_nil _ _ _ (by omega)]; rfl
          have HR0 := Lib.hid hr0
          clear hr0
          go_wp2_with (go_at_call 46; refine (take_no A c _).mono ?_; rintro e w2 ⟨rfl, rfl⟩)
          refine ⟨_, results_tmp rfl _ _ _, ?_, HB.out⟩
          exact ret_bool HR0.out.symm
        · obtain ⟨q', rfl⟩ : ∃ q', q = q' + 1 := ⟨q - 1, by omega⟩
          have hq1 : q' < p.length := by have := HN.out; omega
          obtain ⟨b, o, rfl, hcell⟩ := (HA.out.then_ HB.out) q' hq1
          obtain ⟨x, hx⟩ : ∃ x, p.getD q' ⟨#[]⟩ = x := ⟨_, rfl⟩
          rw [hx] at hcell
          have hx32 : x.size = 32 := HSZ.out x (by rw [← hx, List.getD, List.getElem?_eq_getElem hq1]; exact List.getElem_mem hq1)
          have HX := Lib.hid hx
          have hm2 : 2 ≤ m := by omega
          have hk1 := lft_lt hm2
          have hk2 := lft_pos (n := m)
          have HCL := Lib.hid (fun w => left_any m w hm2 (by omega))
          obtain ⟨k, hk⟩ : ∃ k, lft m = k := ⟨_, rfl⟩
          rw [hk] at hk1 hk2
          simp only [hk] at HCL
          have HLF := Lib.hid hk
          have hg : (1 : Int) < (m : Int) := by omega
          clear hk hx hq1 hq0 hm1
          by_cases hjk : j < k
          · have hd4 : decide (k ≤ j) = false := by simp; omega
            go_wp2_with (first | (go_at_call 46; (with_reducible refine (take_yes b o c q' x wr hcell (by omega) (by omega)).mono ?_); rintro e w2 ⟨rfl, b2⟩; have HO2 := Lib.hid (own_then HO.out b2); have hb2 := b2.size) | (go_at_call 40; (with_reducible refine (HCL.out _).mono ?_); rintro e w3 ⟨rfl, rfl⟩) | (at_builtin; refine wpList_append1 rfl _ _ 54 rfl w.heap.size 58 i0 _ 2 24 Tryd.underlying54 I1.out I2.out I3.out I4.out rfl (by omega) (by omega) u11 Wy.length _ rfl HO2.out #[.string x, .bool false] rfl rfl (by simp [Value.oneCell']) (by omega) (by omega) ?_; intro a1 b1 w4 o4 k4 _; have O4 := Lib.hid o4; have K4 := Lib.hid k4; clear o4 k4))
            refine ⟨⟨k, j, q', Wy ++ [(x, false)], ?_, ?_, rfl, by omega, by omega, by omega, ?_, ?_, ?_, ?_, ?_⟩, by simp [sliceLen]⟩
            · rfl
            · rfl
            · rw [HV.out, rev_take p q' (by have := HN.out; omega), HX.out, value_cons _ _ _ _ _ hm2, HLF.out, if_pos hjk]
              exact opt_map_app _ Wy x false
            · simp only [List.length_append, List.length_singleton]; have := HW.out; omega
            · intro y hy
              rcases List.mem_append.1 hy with hy | hy
              · exact HWS.out y hy
              · rw [List.mem_singleton.1 hy]; exact hx32
            · rw [List.length_append, List.length_singleton, stepVs_append]; exact O4.out
            · exact K4.out.below_next (below_next HB.out b2) (by omega) (fun r hr => (HO2.out.lt r (own_mem hr)).1)
          · have hd4 : decide (k ≤ j) = true := by simp; omega
            go_wp2_with (first | (go_at_call 46; (with_reducible refine (take_yes b o c q' x wr hcell (by omega) (by omega)).mono ?_); rintro e w2 ⟨rfl, b2⟩; have HO2 := Lib.hid (own_then HO.out b2); have hb2 := b2.size) | (go_at_call 40; (with_reducible refine (HCL.out _).mono ?_); rintro e w3 ⟨rfl, rfl⟩) | (at_builtin; refine wpList_append1 rfl _ _ 54 rfl w.heap.size 58 i0 _ 2 24 Tryd.underlying54 I1.out I2.out I3.out I4.out rfl (by omega) (by omega) u11 Wy.length _ rfl HO2.out #[.string x, .bool true] rfl rfl (by simp [Value.oneCell']) (by omega) (by omega) ?_; intro a1 b1 w4 o4 k4 _; have O4 := Lib.hid o4; have K4 := Lib.hid k4; clear o4 k4))
            refine ⟨⟨(m - k), (j - k), q', Wy ++ [(x, true)], ?_, ?_, rfl, by omega, by omega, by omega, ?_, ?_, ?_, ?_, ?_⟩, by simp [sliceLen]⟩
            · congr 1; omega
            · congr 1; omega
            · rw [HV.out, rev_take p q' (by have := HN.out; omega), HX.out, value_cons _ _ _ _ _ hm2, HLF.out, if_neg hjk]
              exact opt_map_app _ Wy x true
            · simp only [List.length_append, List.length_singleton]; have := HW.out; omega
            · intro y hy
              rcases List.mem_append.1 hy with hy | hy
              · exact HWS.out y hy
              · rw [List.mem_singleton.1 hy]; exact hx32
            · rw [List.length_append, List.length_singleton, stepVs_append]; exact O4.out
            · exact K4.out.below_next (below_next HB.out b2) (by omega) (fun r hr => (HO2.out.lt r (own_mem hr)).1)
end Go.Proofs.YtoipckflokdakaaDoor
