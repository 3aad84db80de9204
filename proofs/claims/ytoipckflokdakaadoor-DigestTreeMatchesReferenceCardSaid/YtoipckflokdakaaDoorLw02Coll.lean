/- The laws functions collide and heads of chapter 02, and Same of the reference. -/
import Derived.Test.YtoipckflokdakaaDoorLw02BindA
import Derived.Test.YtoipckflokdakaaDoorStrsApp
namespace Go.Proofs.YtoipckflokdakaaDoor
open Go.RowKit Sha Mk
attribute [local go_sem] Oper.semAt_some
theorem strs_at {w : World} {A : Option Addr} {x : List ByteArray} (h : StrsAt w A x) {k : Nat} (hk : k < x.length) : ∃ b o, A = some ⟨b, o, none⟩ ∧ w.cell? ⟨b, o + k, none⟩ = some (.string x[k]) := by
  obtain ⟨b, o, hA, hc⟩ := h k hk
  refine ⟨b, o, hA, ?_⟩
  rw [hc]; simp [List.getD, hk]
theorem neq_of {a b : ByteArray} (h : a ≠ b) : (a.toList == b.toList) = false := by
  rw [Bool.eq_false_iff]; intro e; exact h ((str_beq_iff _ _).1 e)
theorem eq_of {a b : ByteArray} (h : a = b) : (a.toList == b.toList) = true := (str_beq_iff _ _).2 h
set_option maxRecDepth 100000 in
set_option maxHeartbeats 4000000 in
theorem collide_yes (A B : Option Addr) (ca cb : Nat) (x y : List ByteArray) (w : World) (hA : StrsAt w A x) (hB : StrsAt w B y) (hx : ∀ s ∈ x, s.size ≤ 1000000) (hy : ∀ s ∈ y, s.size ≤ 1000000) (hlx : x.length ≤ 1000) (_hly : y.length ≤ 1000) (hC : Coll x y) (hK : RoundIn w) :
    Calls Tryd.prog 27 #[.slice A x.length ca, .slice B y.length cb] w fun e w' => e = .returned (.bool true) ∧ Below w.heap.size w w' := by
  obtain ⟨j, hj1, hj2, hj3, hj4⟩ := hC
  have HJ3 := Lib.hid hj3
  have HJ4 := Lib.hid hj4
  have HA := Lib.hid hA
  have HB := Lib.hid hB
  have HX := Lib.hid hx
  have HY := Lib.hid hy
  have HK := Lib.hid hK
  obtain ⟨nx, hnx⟩ : ∃ n, x.length = n := ⟨_, rfl⟩
  obtain ⟨ny, hny⟩ : ∃ n, y.length = n := ⟨_, rfl⟩
  have HNX := Lib.hid hnx
  have HNY := Lib.hid hny
  have hjx : j < nx := by omega
  have hjy : j < ny := by omega
  rw [hnx] at hlx ⊢
  rw [hny] at _hly ⊢
  clear hA hB hx hy hK hj3 hj4 hnx hny
  go_enter Tryd.func27, Tryd.ntmps27
  go_wp2_with fail
  go_loopw [5] (fun i wr => ∃ k : Nat, i = .int .i64 (k : Int) ∧ k ≤ j ∧ Below w.heap.size w wr) (fun i _ => j + 1 - (intOf i).toNat)
  case atStart => exact ⟨0, rfl, Nat.zero_le _, Below.refl _ _⟩
  case round =>
    obtain ⟨k, rfl, hk, hb⟩ := hrel
    have hkx : k < x.length := by have := HNX.out; omega
    have hky : k < y.length := by have := HNY.out; omega
    have g1 : (k : Int) < (nx : Int) := by omega
    have g2 : (k : Int) < (ny : Int) := by omega
    obtain ⟨b1, o1, rfl, c1⟩ := strs_at (HA.out.then_ hb) hkx
    obtain ⟨b2, o2, rfl, c2⟩ := strs_at (HB.out.then_ hb) hky
    have s1 := HX.out _ (List.getElem_mem hkx)
    have s2 := HY.out _ (List.getElem_mem hky)
    have hj : k = j → x[k] ≠ y[k] ∧ sumS x[k] = sumS y[k] := fun e => by subst e; exact ⟨HJ3.out, HJ4.out⟩
    obtain ⟨u, hu⟩ : ∃ u, x[k] = u := ⟨_, rfl⟩
    obtain ⟨v, hv⟩ : ∃ v, y[k] = v := ⟨_, rfl⟩
    rw [hu] at c1 s1 hj
    rw [hv] at c2 s2 hj
    have C1 := Lib.hid c1
    have C2 := Lib.hid c2
    have HKW := Lib.hid (HK.out.then_ hb)
    have HBB := Lib.hid hb
    have HJ := Lib.hid hj
    clear hu hv c1 c2 hb hj hkx hky
    go_wp2_with fail
    have hH := HKW.out
    have HSU := Lib.hid (fun d os => sum_any u (Sort.grow (redrawn wr d) os) s1 (HKW.out.then_ (below_regrown wr d os)))
    have HSV := Lib.hid (fun d os => sum_any v (Sort.grow (redrawn wr d) os) s2 (HKW.out.then_ (below_regrown wr d os)))
    clear hH
    by_cases he : u = v
    · have hd : (u.toList == v.toList) = true := eq_of he
      have hkj : k < j := by
        rcases Nat.lt_or_ge k j with h | h
        · exact h
        · exact absurd he (HJ.out (by omega)).1
      have g_1 := fun D os => cell_regrown C1.out D os
      have g_2 := fun D os => cell_regrown C2.out D os
      refine wp_region_quiet_below (by kernel_rfl) (by kernel_rfl) ?_
      repeat (go_big_quiet_step (fail))
      refine wpQuiet_nil ?_
      intro wq hq0
      have hq := below_of_class hq0
      clear hq0
      clear g_1 g_2
      go_wp2_with fail
      refine ⟨⟨k + 1, by rfl, by omega, below_next HBB.out hq⟩, by simp [intOf]; omega⟩
    · have hd : (u.toList == v.toList) = false := neq_of he
      by_cases hs : sumS u = sumS v
      · have hd2 : ((sumS u).toList == (sumS v).toList) = true := eq_of hs
        have g_1 := fun D os => cell_regrown C1.out D os
        have g_2 := fun D os => cell_regrown C2.out D os
        refine wp_region_quiet_below (by kernel_rfl) (by kernel_rfl) ?_
        repeat (go_big_quiet_step (first | (with_reducible exact Calls.regrown_of (HSU.out _ _)) | (with_reducible exact Calls.regrown_of (HSV.out _ _))))
        refine wpQuiet_nil ?_
        intro wq hq0
        have hq := below_of_class hq0
        clear hq0
        clear g_1 g_2
        go_wp2_with fail
        go_ret
        exact ⟨rfl, below_next HBB.out hq⟩
      · have hd2 : ((sumS u).toList == (sumS v).toList) = false := neq_of hs
        have hkj : k < j := by
          rcases Nat.lt_or_ge k j with h | h
          · exact h
          · exact absurd (HJ.out (by omega)).2 hs
        have g_1 := fun D os => cell_regrown C1.out D os
        have g_2 := fun D os => cell_regrown C2.out D os
        refine wp_region_quiet_below (by kernel_rfl) (by kernel_rfl) ?_
        repeat (go_big_quiet_step (first | (with_reducible exact Calls.regrown_of (HSU.out _ _)) | (with_reducible exact Calls.regrown_of (HSV.out _ _))))
        refine wpQuiet_nil ?_
        intro wq hq0
        have hq := below_of_class hq0
        clear hq0
        clear g_1 g_2
        go_wp2_with fail
        refine ⟨⟨k + 1, by rfl, by omega, below_next HBB.out hq⟩, by simp [intOf]; omega⟩
end Go.Proofs.YtoipckflokdakaaDoor
