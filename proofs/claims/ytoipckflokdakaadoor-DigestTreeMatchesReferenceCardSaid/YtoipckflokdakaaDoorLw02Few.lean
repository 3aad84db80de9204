/- The laws functions few, binary, left of chapter 02. -/
import Derived.Test.YtoipckflokdakaaDoorDigVext
import Derived.Test.YtoipckflokdakaaDoorDigExt
namespace Go.Proofs.YtoipckflokdakaaDoor
open Go.RowKit Sha Mk
attribute [local go_sem] Oper.semAt_some
theorem cut_min (n : Nat) (m : Int) (hm : 0 ≤ m) : ∃ M : Nat, (if m < (n : Int) then m else (n : Int)) = (M : Int) ∧ M ≤ n ∧ (M : Int) ≤ m ∧ M = min n m.toNat := by
  by_cases h : m < (n : Int)
  · exact ⟨m.toNat, by rw [if_pos h]; omega, by omega, by omega, by omega⟩
  · exact ⟨n, by rw [if_neg h], by omega, by omega, by omega⟩
def cut60 (s : ByteArray) : ByteArray := s.extract 0 (min s.size 60)
def fewS (l : List ByteArray) (n : Nat) : List ByteArray := (l.take n).map cut60
theorem cut60_size (s : ByteArray) : (cut60 s).size ≤ 60 := by rw [cut60, ByteArray.size_extract]; omega
theorem fewS_length (l : List ByteArray) (n : Nat) : (fewS l n).length = min n l.length := by rw [fewS, List.length_map, List.length_take]
theorem fewS_sizes (l : List ByteArray) (n : Nat) : ∀ s ∈ fewS l n, s.size ≤ 60 := fun s hs => by
  obtain ⟨a, _, rfl⟩ := List.mem_map.1 hs
  exact cut60_size a
theorem fewS_succ (l : List ByteArray) (k : Nat) (h : k < l.length) : fewS l (k + 1) = fewS l k ++ [cut60 (l.getD k ⟨#[]⟩)] := by
  rw [fewS, List.take_succ_eq_append_getElem h, List.map_append, fewS, List.getD, List.getElem?_eq_getElem h]; rfl
set_option maxRecDepth 100000 in
set_option maxHeartbeats 4000000 in
theorem few_any (A : Option Addr) (c : Nat) (l : List ByteArray) (n : Nat) (w : World) (hA : StrsAt w A l) (_hl : (l.length : Int) ≤ 9223372036854775807) (hn : n ≤ 100) (hs : ∀ s ∈ l, (s.size : Int) ≤ 9223372036854775807) :
    Calls Tryd.prog 13 #[.slice A l.length c, .int .i64 (n : Int)] w fun e w' => ∃ v, e = .returned v ∧ w'.ownsRow w.heap.size 9 1 v (fewS l n).length (svs (fewS l n)) ∧ Below w.heap.size w w' := by
  obtain ⟨i0, hi0, hz0, hz1, hz2⟩ := info_parts str_info1
  have I1 := Lib.hid hi0
  have I2 := Lib.hid hz0
  have I3 := Lib.hid hz1
  have I4 := Lib.hid hz2
  have HA := Lib.hid hA
  have HS := Lib.hid hs
  obtain ⟨N, hN⟩ : ∃ N, l.length = N := ⟨_, rfl⟩
  have HN := Lib.hid hN
  rw [hN] at _hl ⊢
  clear hA hs hi0 hz0 hz1 hz2 hN
  go_enter Tryd.func13, Tryd.ntmps13
  go_wp2_with fail
  go_loopw [5, 6] (fun v i wr => ∃ k : Nat, i = .int .i64 (k : Int) ∧ k ≤ N ∧ k ≤ n ∧ wr.ownsRow w.heap.size 9 1 v k (svs (fewS l k)) ∧ Below w.heap.size w wr) (fun _ i _ => n - (intOf i).toNat)
  case atStart => exact ⟨0, rfl, Nat.zero_le _, Nat.zero_le _, World.ownsRow_nil _ _ _ _, Below.refl _ _⟩
  case round =>
    obtain ⟨k, rfl, hkN, hkn, how, hB⟩ := hrel
    have HO := Lib.hid how
    have HB := Lib.hid hB
    have hbs := hB.size
    clear how hB
    by_cases h1 : k < N
    · by_cases h2 : k < n
      · have hk : k < l.length := by have := HN.out; omega
        obtain ⟨b, o, rfl, hcell⟩ := (HA.out.then_ HB.out) k hk
        obtain ⟨x, hx⟩ : ∃ x, l.getD k ⟨#[]⟩ = x := ⟨_, rfl⟩
        rw [hx] at hcell
        have HX := Lib.hid hx
        have hxs : (x.size : Int) ≤ 9223372036854775807 := HS.out x (by rw [← hx, List.getD, List.getElem?_eq_getElem hk]; exact List.getElem_mem hk)
        obtain ⟨M, m4⟩ : ∃ M, min x.size 60 = M := ⟨_, rfl⟩
        have M4 := Lib.hid m4
        have m1 : min (x.size : Int) 60 = (M : Int) := by omega
        have m2 : M ≤ x.size := by omega
        have g1 : (k : Int) < (N : Int) := by omega
        have g2 : (k : Int) < (n : Int) := by omega
        have lx := lt_size hcell
        clear hk hx m4
        go_wp2_with fail
        go_region_law (refine step_append1 (by rfl) _ _ 22 (by rfl) w.heap.size 9 i0 _ 1 16 Tryd.underlying22 I1.out I2.out I3.out I4.out rfl (by omega) (by omega) u5 k _ (by rfl) (HO.out.alloc _) wr.heap.size [.string (x.extract 0 M)] (by rfl) rfl (new_one wr _ _) (by simp [Value.oneCell']) (by omega) (by simp; omega) ?_; intro a1 b1 w4 o4 k4 h4)
        all_goals
          simp only [Act.put, List.setIfInBounds_toArray, List.set_cons_zero, List.set_cons_succ, List.getElem_toArray, List.getElem_cons_zero, List.getElem_cons_succ]
          have k0 : Kept u5.ownBlock.toList wr w4 := ((Kept.refl u5.ownBlock.toList wr).alloc (.cells #[.string (x.extract 0 M)] 9)).drew.trans (k4 : Kept u5.ownBlock.toList _ w4) (New.refl _ _)
          have B4 := k0.below_next HB.out hbs (fun q hq => (HO.out.lt q (own_mem hq)).1)
          have HB4 := Lib.hid B4
          have HO4 := Lib.hid o4
          clear k0 B4 o4 k4 h4
          go_wp2_with fail
          refine ⟨⟨k + 1, by rfl, by omega, by omega, ?_, HB4.out⟩, by simp [intOf]; omega⟩
          rw [fewS_succ l k (by have := HN.out; omega), HX.out, svs_append, cut60, M4.out]
          exact HO4.out
      · have g1 : (k : Int) < (N : Int) := by omega
        have g2 : ¬ (k : Int) < (n : Int) := by omega
        have hfl : (fewS l n).length = k := by rw [fewS_length, HN.out]; omega
        have hfe : fewS l n = fewS l k := by rw [show n = k by omega]
        have HFL := Lib.hid hfl
        have HFE := Lib.hid hfe
        clear hfl hfe
        go_wp2_with fail
        go_ret
        refine ⟨_, rfl, ?_, HB.out⟩
        rw [HFL.out, HFE.out]; exact HO.out
    · have g1 : ¬ (k : Int) < (N : Int) := by omega
      have hfl : (fewS l n).length = k := by rw [fewS_length, HN.out]; omega
      have hfe : fewS l n = fewS l k := by rw [fewS, fewS, List.take_of_length_le (by rw [HN.out]; omega), List.take_of_length_le (by rw [HN.out]; omega)]
      have HFL := Lib.hid hfl
      have HFE := Lib.hid hfe
      clear hfl hfe
      go_wp2_with fail
      go_ret
      refine ⟨_, rfl, ?_, HB.out⟩
      rw [HFL.out, HFE.out]; exact HO.out
end Go.Proofs.YtoipckflokdakaaDoor
