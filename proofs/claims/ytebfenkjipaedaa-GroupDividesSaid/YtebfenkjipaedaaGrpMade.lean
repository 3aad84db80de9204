/- The reference's outward and Made. -/
import Derived.Test.YtebfenkjipaedaaGrpMadeP
namespace Go.Proofs.Ytebfenkjipaedaa.Gr
open Go.RowKit Gp Go.Sort
attribute [local go_sem] Oper.semAt_some
def lenS : Value → Nat
  | .slice _ n _ => n
  | _ => 0
set_option maxRecDepth 100000 in
set_option maxHeartbeats 4000000 in
theorem routward_any (A : Option Addr) (c : Nat) (l : List Grp) (id : Int) (w : World) (h : GrpsAt w A l) (hl : l.length ≤ 1000) :
    Calls Try.prog 36 #[.slice A l.length c, .int .i64 id] w (OwnQ (outR l 13 id) w) := by
  obtain ⟨j0, hj0, e0, e1, e2⟩ := info_parts int_info1
  have H := Lib.hid h
  have hll : (l.length : Int) ≤ 1000 := by omega
  have HF := Lib.hid (fun W x (hB : Below w.heap.size w W) => find_any A c l x W (h.then_ hB) hl)
  clear h
  go_enter Try.func36, Try.ntmps36
  go_wp2_with fail
  refine (HF.out _ _ (Below.refl _ _)).mono ?_
  rintro e w1 ⟨rfl, rfl⟩
  go_wp2_with fail
  go_loopw [5, 6] (fun u i wr => ∃ (k : Nat) (x : Int) (acc : List Int), k ≤ 13 ∧ acc.length = k ∧ i = .int .i64 (idxI l x) ∧ wr.ownsRow w.heap.size 3 1 u k (ivs acc) ∧ outR l 13 id = acc ++ outR l (13 - k) x ∧ Below w.heap.size w wr) (fun u _ _ => 13 - lenS u)
  case atStart => exact ⟨0, id, [], by omega, rfl, rfl, World.ownsRow_nil _ _ _ _, rfl, Below.refl _ _⟩
  case round =>
    obtain ⟨k, x, acc, hk, ha, rfl, hown, ho, hB⟩ := hrel
    have HA := Lib.hid ha
    have HO := Lib.hid ho
    have HB := Lib.hid hB
    have HOW := Lib.hid hown
    obtain ⟨Au, cu, rfl, hcu⟩ := own_slice hown
    clear ha ho hB hown
    have hk0 : (0 : Int) ≤ (k : Int) := by omega
    rcases idxI_cases l x with ⟨hi, hf⟩ | ⟨q, hq, hi, hx, hf⟩
    · rw [hi]
      have HE := Lib.hid (show outR l 13 id = acc by
        rw [HO.out]
        have : outR l (13 - k) x = [] := by
          cases 13 - k with
          | zero => rfl
          | succ n => unfold outR; rw [hf]
        rw [this, List.append_nil])
      clear hi hf
      go_wp2_with fail
      go_ret
      exact ⟨_, rfl, by rw [HE.out, HA.out]; exact HOW.out, HB.out⟩
    · rw [hi]
      have hq0 : (0 : Int) ≤ (q : Int) := by omega
      have hql : (q : Int) < (l.length : Int) := by omega
      by_cases hk12 : k ≤ 12
      · have hkI : (k : Int) ≤ 12 := by omega
        obtain ⟨⟨b, o, rfl, hxx⟩, _⟩ := (H.out.then_ HB.out) q hq
        obtain ⟨g, hg⟩ : ∃ g, l.getD q g0 = g := ⟨_, rfl⟩
        rw [hg] at hxx hx hf
        have y0 := hxx.id
        have y1 := hxx.of
        rw [hx] at y0
        have HS := Lib.hid (show outR l 13 id = (acc ++ [x]) ++ outR l (13 - (k + 1)) g.of by
          rw [HO.out, show 13 - k = (13 - (k + 1)) + 1 by omega, outR_some hf, List.append_assoc]; rfl)
        have Y1 := Lib.hid y1
        have hbw : b < w.heap.size := by
          obtain ⟨⟨b2, o2, hA2, hx2⟩, _⟩ := H.out q hq
          have : b = b2 ∧ o = o2 := by simpa using hA2
          rw [this.1]
          exact lt_size hx2.id
        have hbl := lt_size y1
        have hbs := HB.out.size
        clear hxx hx hf hg hi
        go_wp2_with (at_builtin; refine wpList_append1 rfl _ _ 23 rfl w.heap.size 3 j0 _ 1 8 Try.underlying23 hj0 e0 e1 e2 rfl (by omega) (by omega) (.slice Au k cu) k _ rfl HOW.out #[.int .i64 x] rfl rfl (by simp [Value.oneCell']) (by omega) hbs ?_; intro g' c' w3 own' k' n'; have OW := Lib.hid own'; have KW := Lib.hid k'; have y2 := k'.cell Y1.out (fun e => by have h4 := (HOW.out.lt _ (own_mem e)).1; dsimp only at h4; omega); clear own' k' n')
        have HB3 := Lib.hid (KW.out.below_next HB.out hbs (fun q hq => (HOW.out.lt q (own_mem hq)).1))
        refine (HF.out _ _ HB3.out).mono ?_
        rintro e w4 ⟨rfl, rfl⟩
        go_wp2_with fail
        refine ⟨⟨k + 1, g.of, acc ++ [x], by omega, by rw [List.length_append, HA.out]; rfl, rfl, ?_, HS.out, HB3.out⟩, ?_⟩
        · rw [ivs_append]; exact OW.out
        · simp [lenS]; omega
      · have hkI : ¬ (k : Int) ≤ 12 := by omega
        have HE := Lib.hid (show outR l 13 id = acc by
          rw [HO.out, show 13 - k = 0 by omega]; simp [outR])
        clear hi hf
        go_wp2_with fail
        go_ret
        exact ⟨_, rfl, by rw [HE.out, HA.out]; exact HOW.out, HB.out⟩
end Go.Proofs.Ytebfenkjipaedaa.Gr
