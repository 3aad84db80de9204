/- The laws' few: groups cut to 25, their members to 5. -/
import Derived.Test.YtebfenkjipaedaaGrpDis
import Derived.Test.YtebfenkjipaedaaGrpMade2
namespace Go.Proofs.Ytebfenkjipaedaa.Gr
open Go.RowKit Gp Go.Sort
attribute [local go_sem] Oper.semAt_some
/-- groups in a row of the call's own, members wherever they lie -/
structure FewS (w0 : World) (B : Nat) (u : Value) (n : Nat) (L : List Grp) (W : World) : Prop where
  own : W.ownsRow B 26 3 u n (L.flatMap gcs)
  ms : ∀ g ∈ L, MsAt w0 g.v g.ms
  bel : Below w0.heap.size w0 W
theorem FewS.at {w0 : World} {B : Nat} {u : Value} {n : Nat} {L : List Grp} {W : World} (h : FewS w0 B u n L W) (hn : n = L.length) : ∃ A c, u = .slice A L.length c ∧ L.length ≤ c ∧ GrpsAt W A L ∧ (A = none ∨ ∃ g, A = some ⟨g, 0, none⟩) := by
  subst hn
  rcases h.own.2 with ⟨rfl, h0⟩ | ⟨g, cap, cur, rfl, _, _, hc, _⟩
  · have : L = [] := List.eq_nil_of_length_eq_zero h0
    subst this
    exact ⟨none, 0, rfl, by simp, fun i hi => by simp at hi, .inl rfl⟩
  · have hr := rec_of_own (d := g0) gcs_len h.own rfl
    refine ⟨_, cap, rfl, hc, fun i hi => ⟨⟨g, 0, rfl, ?_⟩, (h.ms _ (mem_getD hi)).then_ h.bel⟩, .inr ⟨g, rfl⟩⟩
    rw [Nat.zero_add]
    exact ⟨(hr.cell hi (show 0 < 3 by omega) rfl).1, (hr.cell hi (show 1 < 3 by omega) rfl).1, (hr.cell hi (show 2 < 3 by omega) rfl).1⟩
/-- what few makes of a slice of members -/
def cutV : Value → Value
  | .slice A n c => .slice A (min n 5) c
  | v => v
/-- what few makes of a group -/
def cutK (g : Grp) : Int × Int × List Int := (g.id, g.of, g.ms.take 5)
theorem ms_cut {w : World} {A : Option Addr} {c : Nat} {ms : List Int} (h : IntsAt w A ms) (hc : ms.length ≤ c) (h0 : A = none → c = 0) {k : Nat} (hk : k = min ms.length 5) : MsAt w (.slice A k c) (ms.take 5) := by
  have hl : (ms.take 5).length = k := by rw [List.length_take, hk]; omega
  refine ⟨A, c, by rw [hl], by omega, fun i hi => ?_, h0⟩
  rw [List.length_take] at hi
  obtain ⟨b, o, h1, h2⟩ := h i (by omega)
  exact ⟨b, o, h1, by rw [getD_eq (by rw [List.length_take]; omega), List.getElem_take, ← getD_eq (d := 0) (by omega)]; exact h2⟩
set_option maxRecDepth 100000 in
set_option maxHeartbeats 4000000 in
theorem few_any (A : Option Addr) (c : Nat) (l : List Grp) (w : World) (hG : GrpsAt w A l) (hl : l.length ≤ 9223372036854775807) (hml : ∀ j, j < l.length → (l.getD j g0).ms.length ≤ 9223372036854775807) :
    Calls Try.prog 12 #[.slice A l.length c] w fun e w' => ∃ A' L c', e = .returned (.slice A' L.length c') ∧ L.length ≤ c' ∧ GrpsAt w' A' L ∧ L.length = min l.length 25 ∧ L.map key = (l.take 25).map cutK ∧ Below w.heap.size w w' ∧ L.map (·.v) = (l.take 25).map (fun g => cutV g.v) ∧ (A' = none ∨ ∃ g, A' = some ⟨g, 0, none⟩) := by
  obtain ⟨i0, hi0, z0, z1, z2⟩ := info_parts grp_info
  have HG := Lib.hid hG
  have HML := Lib.hid hml
  have hlI : (l.length : Int) ≤ 9223372036854775807 := by omega
  clear hG hml
  go_enter Try.func12, Try.ntmps12
  go_wp2_with fail
  go_loopw [3, 4, 5] (fun u i _ wr => ∃ (k : Nat) (L : List Grp), k ≤ 25 ∧ k ≤ l.length ∧ k = L.length ∧ i = .int .i64 (k : Int) ∧ FewS w w.heap.size u k L wr ∧ L.map key = (l.take k).map cutK ∧ Below w.heap.size w wr ∧ L.map (·.v) = (l.take k).map (fun g => cutV g.v)) (fun _ i _ _ => 26 - (intOf i).toNat)
  case atStart => exact ⟨0, [], by omega, by omega, rfl, rfl, ⟨World.ownsRow_nil _ _ _ _, fun g hg => (by cases hg), Below.refl _ _⟩, rfl, Below.refl _ _, rfl⟩
  case round =>
    obtain ⟨k, L, hk, hkl, hkL, rfl, hF, hK, hB, hV⟩ := hrel
    have HVV := Lib.hid hV
    have HF := Lib.hid hF
    have HK := Lib.hid hK
    have HB := Lib.hid hB
    have HKL := Lib.hid hkL
    clear hF hK hB hkL hV
    by_cases hgo : k < l.length ∧ k < 25
    · obtain ⟨hg1, hg2⟩ := hgo
      have hgI : (k : Int) < (l.length : Int) := by omega
      have hgJ : (k : Int) < 25 := by omega
      have hk0 : (0 : Int) ≤ (k : Int) := by omega
      obtain ⟨⟨b, o, rfl, hx⟩, _⟩ := (HG.out.then_ HB.out) k hg1
      obtain ⟨_, am, cm, hv, hcm, him, hm0⟩ := HG.out k hg1
      have hml := HML.out k hg1
      have hts := take_succ (d := g0) hg1
      obtain ⟨g, hg⟩ : ∃ g, l.getD k g0 = g := ⟨_, rfl⟩
      rw [hg] at hx hv hcm him hml hts
      have x0 := hx.id
      have x1 := hx.of
      have x2 := hx.v
      rw [hv] at x2
      have HTS := Lib.hid hts
      have HCV := Lib.hid (show cutV g.v = .slice am (min g.ms.length 5) cm by rw [hv]; rfl)
      have HIM := Lib.hid him
      have HM0 := Lib.hid hm0
      obtain ⟨mn, hmn⟩ : ∃ mn, g.ms.length = mn := ⟨_, rfl⟩
      rw [hmn] at x2 hcm hml
      have HMN := Lib.hid hmn
      have hmi : (mn : Int) ≤ 9223372036854775807 := by omega
      have hmn0 : (0 : Int) ≤ (mn : Int) := by omega
      clear hx hv him hm0 hts hg hmn
      go_upto_region 7 with fail
      clear x0 x1 x2
      have hM0 : (min (mn : Int) 5).toNat = min g.ms.length 5 := by rw [HMN.out]; omega
      obtain ⟨M, hM⟩ : ∃ M, (min (mn : Int) 5).toNat = M := ⟨_, rfl⟩
      rw [hM] at hM0 ⊢
      obtain ⟨W5, hW5⟩ : ∃ W5, wr.alloc (.cells #[.int .i64 g.id, .int .i64 g.of, .slice am M cm] 26) = W5 := ⟨_, rfl⟩
      have hb5 : Below wr.heap.size wr W5 := by rw [← hW5]; exact below_alloc (Below.refl _ _) _
      have y0 : W5.cell? ⟨wr.heap.size, 0, none⟩ = some (.int .i64 g.id) := by rw [← hW5]; exact new_cell rfl
      have y1 : W5.cell? ⟨wr.heap.size, 1, none⟩ = some (.int .i64 g.of) := by rw [← hW5]; exact new_cell rfl
      have y2 : W5.cell? ⟨wr.heap.size, 2, none⟩ = some (.slice am M cm) := by rw [← hW5]; exact new_cell rfl
      have HMS := Lib.hid (show MsAt w (.slice am M cm) (g.ms.take 5) from ms_cut HIM.out (by rw [HMN.out]; exact hcm) HM0.out hM0)
      have HM00 := Lib.hid hM0
      have HB5 := Lib.hid hb5
      have HBB := Lib.hid (below_next HB.out hb5)
      have HF5 := Lib.hid (own_then HF.out.own hb5)
      rw [hW5]
      obtain ⟨g5, hg5⟩ : ∃ g5, wr.heap.size = g5 := ⟨_, rfl⟩
      rw [hg5] at y0 y1 y2 ⊢
      clear hM hM0 hW5 hb5 hg5
      have hbs := HBB.out.size
      obtain ⟨Au, cu, rfl, _⟩ := own_slice HF5.out
      go_wp2_with (at_builtin; refine wpList_append1 rfl _ _ 24 rfl w.heap.size 26 i0 _ 3 40 Try.underlying24 hi0 z0 z1 z2 rfl (by omega) (by omega) (.slice Au k cu) k _ rfl HF5.out #[.int .i64 g.id, .int .i64 g.of, .slice am M cm] rfl rfl (by simp [Value.oneCell']) (by omega) hbs ?_; intro g' c' w8 own' k' n'; have OW := Lib.hid own'; have KW := Lib.hid k'; clear own' k' n')
      have HB8 := Lib.hid (show Below w.heap.size w w8 from KW.out.below_next HBB.out hbs (fun q hq => (HF5.out.lt q (own_mem hq)).1))
      refine ⟨⟨k + 1, L ++ [⟨g.id, g.of, .slice am M cm, g.ms.take 5⟩], by omega, by omega, by rw [List.length_append, ← HKL.out]; rfl, by go_num, ⟨by rw [List.flatMap_append]; exact OW.out, fun x hx => ?_, HB8.out⟩, by rw [List.map_append, HK.out, HTS.out, List.map_append]; rfl, HB8.out, by rw [List.map_append, HVV.out, HTS.out, List.map_append]; congr 1; show [_] = [cutV g.v]; rw [HCV.out, ← HM00.out]⟩, by simp [intOf]; omega⟩
      rcases List.mem_append.1 hx with h1 | h1
      · exact HF.out.ms x h1
      · rw [List.mem_singleton.1 h1]; exact HMS.out
    · obtain ⟨Au, cu, rfl, hcu, hgs, hAu⟩ := HF.out.at HKL.out
      have HGS := Lib.hid hgs
      have HKX := Lib.hid (show L.map key = (l.take 25).map cutK by
        rw [HK.out]
        rcases Nat.lt_or_ge k 25 with h | h
        · rw [show k = l.length by omega, List.take_length, List.take_of_length_le (by omega)]
        · rw [show k = 25 by omega])
      have HVX := Lib.hid (show L.map (·.v) = (l.take 25).map (fun g => cutV g.v) by
        rw [HVV.out]
        rcases Nat.lt_or_ge k 25 with h | h
        · rw [show k = l.length by omega, List.take_length, List.take_of_length_le (by omega)]
        · rw [show k = 25 by omega])
      have HLX := Lib.hid (show L.length = min l.length 25 by rw [← HKL.out]; omega)
      have HAU := Lib.hid hAu
      clear hgs hAu
      by_cases hkl2 : k < l.length
      · have hgI : (k : Int) < (l.length : Int) := by omega
        have hgJ : ¬ (k : Int) < 25 := by omega
        clear hgo
        go_wp2_with fail
        go_ret
        exact ⟨Au, L, cu, rfl, hcu, HGS.out, HLX.out, (by simpa only [List.map_take] using HKX.out), HB.out, (by simpa only [List.map_take] using HVX.out), HAU.out⟩
      · have hgI : ¬ (k : Int) < (l.length : Int) := by omega
        clear hgo
        go_wp2_with fail
        go_ret
        exact ⟨Au, L, cu, rfl, hcu, HGS.out, HLX.out, (by simpa only [List.map_take] using HKX.out), HB.out, (by simpa only [List.map_take] using HVX.out), HAU.out⟩
end Go.Proofs.Ytebfenkjipaedaa.Gr
