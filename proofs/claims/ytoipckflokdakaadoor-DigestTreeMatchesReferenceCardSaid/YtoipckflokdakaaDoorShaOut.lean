/- The digest that eight words are: digest. -/
import Derived.Test.YtoipckflokdakaaDoorShaAdd
import Derived.Laws.BytesArg
namespace Go.Proofs.YtoipckflokdakaaDoor
open Go.RowKit Sha
/-- bytes as values -/
def uvs (l : List Nat) : List Value := l.map fun x : Nat => Value.int .u8 (x : Int)
theorem uvs_length (l : List Nat) : (uvs l).length = l.length := List.length_map _
/-- a block that holds these bytes -/
def RowU (t : TypeId) (w : World) (g : Nat) (l : List Nat) : Prop := w.heap[g]? = some (.cells (uvs l).toArray t (0, 0))
theorem RowU.cell {t : TypeId} {w : World} {g : Nat} {l : List Nat} (h : RowU t w g l) {i : Nat} (hi : i < l.length) : w.cell? ⟨g, i, none⟩ = some (.int .u8 ((l.getD i 0 : Nat) : Int)) := by
  rw [cell_of_row w g i _ t (0, 0) h]
  simp [uvs, List.getD, hi]
theorem RowU.frozen {t : TypeId} {w : World} {g : Nat} {l : List Nat} (h : RowU t w g l) (i : Nat) : w.frozen? ⟨g, i, none⟩ = false := frozen_of_row w g i _ _ h
theorem RowU.store {t : TypeId} {w : World} {g : Nat} {l : List Nat} (h : RowU t w g l) (i x : Nat) : RowU t (w.setCell ⟨g, i, none⟩ (.int .u8 (x : Int))) g (l.set i x) := by
  have := heap_setCell_same w g i _ t (.int .u8 (x : Int)) h
  unfold RowU
  rw [this]
  congr 2
  apply Array.toList_inj.1
  simp [uvs, List.map_set]
/-- a string out of bytes -/
def strN (l : List Nat) : ByteArray := ⟨(l.map UInt8.ofNat).toArray⟩
theorem strOf_nat (l : List Nat) : strOfNums (l.map fun n : Nat => (n : Int)) = strN l := by
  unfold strOfNums strN
  simp [List.map_map, Function.comp_def]
theorem conv_nat {w : World} {g : Nat} {l : List Nat} {n c : Nat} (h : ∀ i, i < l.length → w.cell? ⟨g, i, none⟩ = some (.int .u8 ((l.getD i 0 : Nat) : Int))) (hn : l.length = n) :
    (convert 46 9 (.slice (some ⟨g, 0, none⟩) n c)).run Tryd.prog w = .ok (.string (strN l)) w := by
  rw [run_convert_bytes_arg (P := Tryd.prog) w 46 5 Tryd.underlying46 Tryd.underlying5 g 0 n c (l.map fun n : Nat => (n : Int)) (by simp [hn]) (fun i hi => ?_) 9 Tryd.underlying9, strOf_nat]
  rw [Nat.zero_add, h i (by omega)]
  simp [List.getD, show i < l.length by omega]
theorem out_get (v : V) (j k : Nat) (hj : j < 8) (hk : k < 4) : (outV v).getD (4 * j + k) 0 = (vl v).getD j 0 / 2 ^ (24 - 8 * k) % 256 := by
  rcases (show j = 0 ∨ j = 1 ∨ j = 2 ∨ j = 3 ∨ j = 4 ∨ j = 5 ∨ j = 6 ∨ j = 7 by omega) with rfl | rfl | rfl | rfl | rfl | rfl | rfl | rfl <;> rcases (show k = 0 ∨ k = 1 ∨ k = 2 ∨ k = 3 by omega) with rfl | rfl | rfl | rfl <;> first | rfl | exact congrArg (· % 256) (Nat.div_one _).symm
theorem vl_lt {v : V} (h : VB v) (j : Nat) : (vl v).getD j 0 < 4294967296 := by
  by_cases hj : j < 8
  · rcases (show j = 0 ∨ j = 1 ∨ j = 2 ∨ j = 3 ∨ j = 4 ∨ j = 5 ∨ j = 6 ∨ j = 7 by omega) with rfl | rfl | rfl | rfl | rfl | rfl | rfl | rfl
    · exact h.a
    · exact h.b
    · exact h.c
    · exact h.d
    · exact h.e
    · exact h.f
    · exact h.g
    · exact h.h
  · rw [List.getD, List.getElem?_eq_none (by rw [vl_length]; omega)]; decide
set_option maxRecDepth 100000 in
set_option maxHeartbeats 4000000 in
theorem digest_any (v : V) (w : World) (hv : VB v) : Calls Tryd.prog 56 #[.agg (wvs (vl v)).toArray] w fun e w' => e = .returned (.string (strN (outV v))) ∧ Below w.heap.size w w' := by
  have HO : Hid (∀ j k, j < 8 → k < 4 → (outV v).getD (4 * j + k) 0 = (vl v).getD j 0 / 2 ^ (24 - 8 * k) % 256) := out_get v
  have HLT := Lib.hid (vl_lt hv)
  have HL : Hid ((outV v).length = 32) := rfl
  have HV8 : Hid ((vl v).length = 8) := rfl
  obtain ⟨O, hO⟩ : ∃ O, outV v = O := ⟨_, rfl⟩
  obtain ⟨L, hL⟩ : ∃ L, vl v = L := ⟨_, rfl⟩
  rw [hO, hL] at HO
  rw [hO] at HL ⊢
  rw [hL] at HLT HV8 ⊢
  clear hO hL hv
  obtain ⟨C, hC⟩ : ∃ C, (wvs L).toArray = C := ⟨_, rfl⟩
  have HIX : Hid (∀ (k : Nat) (w : World), k < 8 → (Instr.index 71 (.agg C) (.int .i64 (k : Int))).run Tryd.prog w = .ok (.int .u32 ((L.getD k 0 : Nat) : Int)) w) := by
    intro k w hk
    rw [← hC]
    exact run_index_words Tryd.underlying71 Tryd.underlying69 size4b L HV8.out hk w
  have H1 := Lib.hid (words_one hC)
  have HSZ : Hid (C.size = 8) := by
    show _ = _
    rw [← hC, List.size_toArray, wvs_length, HV8.out]
  have HSI : Hid ((Tryd.prog.info? 71).map (·.size) = some C.size) := by
    show _ = _
    rw [HSZ.out]; exact size8
  rw [hC]
  clear hC
  go_enter Tryd.func56, Tryd.ntmps56
  have hg : ((w.alloc (.cells C 71)).alloc (.cells (uvs (List.replicate 32 0)).toArray 91)).heap[w.heap.size]? = some (.cells C 71 (0, 0)) := heap_alloc2_old _ _ _
  have HG := Lib.hid hg
  clear hg
  go_wp2_with (refine wpList_load_row rfl 71 _ rfl w.heap.size rfl 71 C (0, 0) _ HG.out Tryd.underlying71 rfl HSI.out ?_)
  obtain ⟨W, hW⟩ : ∃ W, (w.alloc (.cells C 71)).alloc (.cells (uvs (List.replicate 32 0)).toArray 91) = W := ⟨_, rfl⟩
  have hr : RowU 91 W (w.heap.size + 1) (partW O 0) := by
    rw [partW_zero, HL.out, ← hW]; exact heap_alloc2_new _ _ _
  have hB0 : Below w.heap.size w W := by rw [← hW]; exact below_alloc (below_alloc (Below.refl _ _) _) _
  have hz : (uvs (List.replicate 32 0)).toArray = #[.int .u8 0, .int .u8 0, .int .u8 0, .int .u8 0, .int .u8 0, .int .u8 0, .int .u8 0, .int .u8 0, .int .u8 0, .int .u8 0, .int .u8 0, .int .u8 0, .int .u8 0, .int .u8 0, .int .u8 0, .int .u8 0, .int .u8 0, .int .u8 0, .int .u8 0, .int .u8 0, .int .u8 0, .int .u8 0, .int .u8 0, .int .u8 0, .int .u8 0, .int .u8 0, .int .u8 0, .int .u8 0, .int .u8 0, .int .u8 0, .int .u8 0, .int .u8 0] := rfl
  rw [hz] at hW
  rw [hW]
  have HR := Lib.hid hr
  have HB := Lib.hid hB0
  clear hz hW hr hB0 HG
  go_loopw [8] (fun i wr => ∃ j : Nat, j ≤ 8 ∧ i = .int .i64 (j : Int) ∧ RowU 91 wr (w.heap.size + 1) (partW O (4 * j)) ∧ Below w.heap.size w wr) (fun i _ => 8 - (intOf i).toNat)
  case atStart => exact ⟨0, by omega, rfl, HR.out, HB.out⟩
  case round =>
    obtain ⟨j, hj, rfl, hr, hB⟩ := hrel
    have HR1 := Lib.hid hr
    have HB1 := Lib.hid hB
    clear hr hB
    by_cases hlt : j < 8
    · have HX := HIX.out j
      have hix := fun w => HX w hlt
      have hO := fun k => HO.out j k hlt
      have lx := HLT.out j
      obtain ⟨x, hx⟩ : ∃ x, L.getD j 0 = x := ⟨_, rfl⟩
      rw [hx] at hix lx
      simp only [hx] at hO
      have HO1 := Lib.hid hO
      clear HX hx hO
      go_wp2_with fail
      clear hix
      obtain ⟨wo, hwo⟩ : ∃ W, wr = W := ⟨_, rfl⟩
      rw [hwo] at HR1 HB1 ⊢
      clear hwo
      go_loopw [12] (fun i wr => ∃ k : Nat, k ≤ 4 ∧ i = .int .i64 (k : Int) ∧ RowU 91 wr (w.heap.size + 1) (partW O (4 * j + k)) ∧ Below w.heap.size w wr) (fun i _ => 4 - (intOf i).toNat)
      case atStart => exact ⟨0, by omega, rfl, HR1.out, HB1.out⟩
      case round =>
        obtain ⟨k, hk, rfl, hr, hB⟩ := hrel
        have HR2 := Lib.hid hr
        have HB2 := Lib.hid hB
        by_cases hk4 : k < 4
        · have c0 := hr.cell (i := 4 * j + k) (by rw [partW_length _ (by rw [HL.out]; omega), HL.out]; omega)
          have f0 := hr.frozen (4 * j + k)
          have l0 := lt_size c0
          have HV := Lib.hid (HO1.out k hk4)
          obtain ⟨u, hu⟩ : ∃ u, wr.cell? ⟨w.heap.size + 1, 4 * j + k, none⟩ = some u := ⟨_, c0⟩
          have i1 : (4 : Int) * (j : Int) + (k : Int) < 32 := by omega
          have i2 : (k : Int) < 4 := by omega
          have i3 : (0 : Int) ≤ 24 - 8 * (k : Int) := by omega
          have i4 : (24 : Int) - 8 * (k : Int) ≤ 32 := by omega
          have i5 : ((24 : Int) - 8 * (k : Int)).toNat = 24 - 8 * k := by omega
          clear c0 hr hB
          go_wp2_with fail
          refine ⟨⟨k + 1, by omega, by go_num, ?_, HB2.out.setCell (by simp) _⟩, by simp [intOf]; omega⟩
          have e : (x : Int) / 2 ^ (24 - 8 * k) % 256 = ((x / 2 ^ (24 - 8 * k) % 256 : Nat) : Int) := by rw [Int.natCast_emod, Int.natCast_ediv, Int.natCast_pow]; rfl
          rw [e, ← HV.out, ← Nat.add_assoc, ← partW_set O (by rw [HL.out]; omega) rfl]
          exact HR2.out.store _ _
        · obtain rfl : k = 4 := by omega
          clear hr hB
          go_wp2_with fail
          first
          | exact ⟨⟨j + 1, by omega, by go_num, HR2.out, HB2.out⟩, by simp [intOf]; omega⟩
          | (go_roundw; case rel => ((repeat apply Exists.intro); exact ⟨⟨j + 1, by omega, by go_num, HR2.out, HB2.out⟩, rfl⟩); case measure => (simp [intOf]; omega))
    · obtain rfl : j = 8 := by omega
      have hR := HR1.out
      have e1 : partW O (4 * 8) = O := by rw [show 4 * 8 = O.length from HL.out.symm, partW_all]
      rw [e1] at hR
      have hcv := conv_nat (c := 32) (fun i hi => hR.cell hi) HL.out
      clear hR e1
      go_wp2_with fail
      go_ret
      exact ⟨rfl, HB1.out⟩
end Go.Proofs.YtoipckflokdakaaDoor
