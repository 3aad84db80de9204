/- The words of a block: schedule. -/
import Derived.Test.YtoipckflokdakaaDoorShaRot
import Derived.Test.YtoipckflokdakaaDoorKept
import Derived.Test.YtoipckflokdakaaDoorHead
import Derived.Deep.RegionHeld3
namespace Go.Proofs.YtoipckflokdakaaDoor
open Go.RowKit Sha
/-- words as values -/
def wvs (l : List Nat) : List Value := l.map fun x : Nat => Value.int .u32 (x : Int)
theorem wvs_length (l : List Nat) : (wvs l).length = l.length := List.length_map _
/-- a block that holds these words -/
def RowW (t : TypeId) (w : World) (g : Nat) (l : List Nat) : Prop := w.heap[g]? = some (.cells (wvs l).toArray t (0, 0))
theorem RowW.cell {t : TypeId} {w : World} {g : Nat} {l : List Nat} (h : RowW t w g l) {i : Nat} (hi : i < l.length) : w.cell? ⟨g, i, none⟩ = some (.int .u32 ((l.getD i 0 : Nat) : Int)) := by
  rw [cell_of_row w g i _ t (0, 0) h]
  simp [wvs, List.getD, hi]
theorem RowW.frozen {t : TypeId} {w : World} {g : Nat} {l : List Nat} (h : RowW t w g l) (i : Nat) : w.frozen? ⟨g, i, none⟩ = false := frozen_of_row w g i _ _ h
theorem RowW.kept {t : TypeId} {S : List Nat} {w w' : World} {g : Nat} {l : List Nat} (h : RowW t w g l) (k : Kept S w w') (hn : g ∉ S) : RowW t w' g l := k.heap h hn
theorem RowW.then_ {t : TypeId} {w w' : World} {g : Nat} {l : List Nat} (h : RowW t w g l) (k : Below w.heap.size w w') : RowW t w' g l := h.kept (Kept.of_below k) (fun h => by cases h)
theorem RowW.store {t : TypeId} {w : World} {g : Nat} {l : List Nat} (h : RowW t w g l) (i x : Nat) : RowW t (w.setCell ⟨g, i, none⟩ (.int .u32 (x : Int))) g (l.set i x) := by
  have := heap_setCell_same w g i _ t (.int .u32 (x : Int)) h
  unfold RowW
  rw [this]
  congr 2
  apply Array.toList_inj.1
  simp [wvs, List.map_set]
/-- bytes in memory -/
def BytesAt (w : World) (g o : Nat) (b : List Nat) : Prop := ∀ j, j < b.length → w.cell? ⟨g, o + j, none⟩ = some (.int .u8 ((b.getD j 0 : Nat) : Int))
theorem BytesAt.then_ {w w' : World} {g o : Nat} {b : List Nat} (h : BytesAt w g o b) (k : Below w.heap.size w w') : BytesAt w' g o b := fun j hj => cell_then k (h j hj)
theorem BytesAt.kept {S : List Nat} {w w' : World} {g o : Nat} {b : List Nat} (h : BytesAt w g o b) (k : Kept S w w') (hn : g ∉ S) : BytesAt w' g o b := fun j hj => k.cell (h j hj) hn
/-- the first k words, then zeros -/
def partW (L : List Nat) (k : Nat) : List Nat := L.take k ++ List.replicate (L.length - k) 0
theorem partW_length (L : List Nat) {k : Nat} (hk : k ≤ L.length) : (partW L k).length = L.length := by
  rw [partW, List.length_append, List.length_take, List.length_replicate]; omega
theorem partW_zero (L : List Nat) : partW L 0 = List.replicate L.length 0 := by simp [partW]
theorem partW_all (L : List Nat) : partW L L.length = L := by simp [partW]
theorem partW_get (L : List Nat) {k i : Nat} (hk : k ≤ L.length) (hi : i < k) : (partW L k).getD i 0 = L.getD i 0 := by
  rw [partW, List.getD, List.getElem?_append_left (by rw [List.length_take]; omega)]
  simp [List.getD, hi]
theorem partW_set (L : List Nat) {k x : Nat} (hk : k < L.length) (hx : L.getD k 0 = x) : (partW L k).set k x = partW L (k + 1) := by
  have e1 : (L.take k).length = k := by rw [List.length_take]; omega
  rw [partW, partW, List.set_append_right _ _ (by rw [e1]; exact Nat.le_refl _), e1, Nat.sub_self, show L.length - k = (L.length - (k + 1)) + 1 by omega, List.replicate_succ, List.set_cons_zero, ← hx, List.getD, List.getElem?_eq_getElem hk, Option.getD_some, List.take_succ_eq_append_getElem hk, List.append_assoc, List.singleton_append]
theorem bytes_lt {b : List Nat} (hb : ∀ x ∈ b, x < 256) (i : Nat) : b.getD i 0 < 256 := by
  by_cases h : i < b.length
  · rw [List.getD, List.getElem?_eq_getElem h]; exact hb _ (List.getElem_mem h)
  · rw [List.getD, List.getElem?_eq_none (by omega)]; decide
theorem word_bits {a b c d : Nat} (ha : a < 256) (hb : b < 256) (hc : c < 256) (hd : d < 256) :
    bits .or .u32 (bits .or .u32 (bits .or .u32 ((a : Int) * 16777216) ((b : Int) * 65536)) ((c : Int) * 256)) (d : Int) = ((word a b c d : Nat) : Int) := by
  have e1 : (a : Int) * 16777216 = ((a * 16777216 : Nat) : Int) := by omega
  have e2 : (b : Int) * 65536 = ((b * 65536 : Nat) : Int) := by omega
  have e3 : (c : Int) * 256 = ((c * 256 : Nat) : Int) := by omega
  have l1 : a * 16777216 ||| b * 65536 < 4294967296 := Nat.or_lt_two_pow (n := 32) (by omega) (by omega)
  have l2 : (a * 16777216 ||| b * 65536) ||| c * 256 < 4294967296 := Nat.or_lt_two_pow (n := 32) l1 (by omega)
  rw [e1, e2, e3, u32_or_nat _ _ (by omega) (by omega), u32_or_nat _ _ l1 (by omega), u32_or_nat _ _ l2 (by omega), word]
theorem low_bits {x y m : Nat} (hx : x < 4294967296) (hm : m < 4294967296) : bits .xor .u32 (m : Int) ((x : Int) / (2 ^ y : Nat)) = ((m ^^^ (x >>> y) : Nat) : Int) := by
  have : (x : Int) / ((2 ^ y : Nat) : Int) = ((x / 2 ^ y : Nat) : Int) := by rw [Int.natCast_ediv]
  rw [this, u32_xor_nat _ _ hm (Nat.lt_of_le_of_lt (Nat.div_le_self _ _) hx), Nat.shiftRight_eq_div_pow]
theorem ints_lit2 {w : World} {g : Nat} {a b : Int} (h0 : w.cell? ⟨g, 0, none⟩ = some (.int .i64 a)) (h1 : w.cell? ⟨g, 1, none⟩ = some (.int .i64 b)) : IntsAt w (some ⟨g, 0, none⟩) [a, b] := fun i hi => by
  have hi' : i < 2 := hi
  rcases (show i = 0 ∨ i = 1 by omega) with rfl | rfl
  · exact ⟨g, 0, rfl, h0⟩
  · exact ⟨g, 0, rfl, h1⟩
theorem mixed2_any (x a b g c : Nat) (w : World) (hx : x < 4294967296) (ha : 1 ≤ a ∧ a ≤ 31) (hb : 1 ≤ b ∧ b ≤ 31) (h0 : w.cell? ⟨g, 0, none⟩ = some (.int .i64 (a : Int))) (h1 : w.cell? ⟨g, 1, none⟩ = some (.int .i64 (b : Int))) :
    Calls Tryd.prog 68 #[.int .u32 (x : Int), .slice (some ⟨g, 0, none⟩) 2 c] w fun e w' => e = .returned (.int .u32 ((m2 x a b : Nat) : Int)) ∧ w = w' := by
  have h := mixed_any x (some ⟨g, 0, none⟩) c [a, b] w hx (fun n hn => by
    simp only [List.mem_cons, List.not_mem_nil, or_false] at hn
    rcases hn with rfl | rfl
    · exact ha
    · exact hb) (ints_lit2 h0 h1) (by simp)
  rw [mix2] at h
  exact h
theorem mixed3_any (x a b d g c : Nat) (w : World) (hx : x < 4294967296) (ha : 1 ≤ a ∧ a ≤ 31) (hb : 1 ≤ b ∧ b ≤ 31) (hd : 1 ≤ d ∧ d ≤ 31) (h0 : w.cell? ⟨g, 0, none⟩ = some (.int .i64 (a : Int))) (h1 : w.cell? ⟨g, 1, none⟩ = some (.int .i64 (b : Int))) (h2 : w.cell? ⟨g, 2, none⟩ = some (.int .i64 (d : Int))) :
    Calls Tryd.prog 68 #[.int .u32 (x : Int), .slice (some ⟨g, 0, none⟩) 3 c] w fun e w' => e = .returned (.int .u32 ((m3 x a b d : Nat) : Int)) ∧ w = w' := by
  have h := mixed_any x (some ⟨g, 0, none⟩) c [a, b, d] w hx (fun n hn => by
    simp only [List.mem_cons, List.not_mem_nil, or_false] at hn
    rcases hn with rfl | rfl | rfl
    · exact ha
    · exact hb
    · exact hd) (fun i hi => by
    have hi' : i < 3 := hi
    rcases (show i = 0 ∨ i = 1 ∨ i = 2 by omega) with rfl | rfl | rfl
    · exact ⟨g, 0, rfl, h0⟩
    · exact ⟨g, 0, rfl, h1⟩
    · exact ⟨g, 0, rfl, h2⟩) (by simp)
  rw [mix3] at h
  exact h
theorem u32_wrap (x : Nat) : IntKind.u32.wrap (x : Int) = ((x % 4294967296 : Nat) : Int) := by simp [IntKind.wrap, IntKind.signed, IntKind.bits]
theorem u32_add (a b : Nat) : IntKind.u32.wrap ((a : Int) + (b : Int)) = (((a + b) % 4294967296 : Nat) : Int) := by rw [← Int.natCast_add, u32_wrap]
theorem next_bits {v0 v1 v2 v3 : Nat} (h0 : v0 < 4294967296) (h1 : v1 < 4294967296) :
    IntKind.u32.wrap (IntKind.u32.wrap (IntKind.u32.wrap ((v2 : Int) + bits BinOp.xor IntKind.u32 ((m2 v0 7 18 : Nat) : Int) ((v0 : Int) / 8)) + (v3 : Int)) + bits BinOp.xor IntKind.u32 ((m2 v1 17 19 : Nat) : Int) ((v1 : Int) / 1024))
      = (((((v2 + lows v0) % 4294967296 + v3) % 4294967296 + highs v1) % 4294967296 : Nat) : Int) := by
  have e1 : bits BinOp.xor IntKind.u32 ((m2 v0 7 18 : Nat) : Int) ((v0 : Int) / 8) = ((lows v0 : Nat) : Int) := low_bits (y := 3) h0 (m2_lt _ _ _ h0)
  have e2 : bits BinOp.xor IntKind.u32 ((m2 v1 17 19 : Nat) : Int) ((v1 : Int) / 1024) = ((highs v1 : Nat) : Int) := low_bits (y := 10) h1 (m2_lt _ _ _ h1)
  rw [e1, e2, u32_add, u32_add, u32_add]
theorem keep2 {W : World} {B i j k : Nat} {x y : Value} (h : W.drew.cell? ⟨B, i, none⟩ = some x ∧ W.drew.cell? ⟨B, j, none⟩ = some y ∧ W.drew.cell? ⟨B, k, none⟩ = some (curV W.drew ⟨B, k, none⟩) ∧ W.drew.frozen? ⟨B, k, none⟩ = false) (o : Obj) :
    (W.alloc o).drew.cell? ⟨B, i, none⟩ = some x ∧ (W.alloc o).drew.cell? ⟨B, j, none⟩ = some y ∧ (W.alloc o).drew.cell? ⟨B, k, none⟩ = some (curV (W.alloc o).drew ⟨B, k, none⟩) ∧ (W.alloc o).drew.frozen? ⟨B, k, none⟩ = false := by
  obtain ⟨h3, h4, h5, h6⟩ := h
  have h3' : W.cell? ⟨B, i, none⟩ = some x := h3
  have h4' : W.cell? ⟨B, j, none⟩ = some y := h4
  have h5' : W.cell? ⟨B, k, none⟩ = some (curV W.drew ⟨B, k, none⟩) := h5
  have h6' : W.frozen? ⟨B, k, none⟩ = false := h6
  have f := ((below_alloc (Below.refl _ W) o).frozen (p := ⟨B, k, none⟩) (lt_size h5')).trans h6'
  exact ⟨keep_alloc o h3', keep_alloc o h4', curV_spec (w := (W.alloc o).drew) (keep_alloc o h5'), f⟩
theorem keep2s {W : World} {B i j k : Nat} {x y : Value} (h : W.drew.cell? ⟨B, i, none⟩ = some x ∧ W.drew.cell? ⟨B, j, none⟩ = some y ∧ W.drew.cell? ⟨B, k, none⟩ = some (curV W.drew ⟨B, k, none⟩) ∧ W.drew.frozen? ⟨B, k, none⟩ = false) (hi : i ≠ k) (hj : j ≠ k) (v : Value) :
    (W.setCell ⟨B, k, none⟩ v).drew.cell? ⟨B, i, none⟩ = some x ∧ (W.setCell ⟨B, k, none⟩ v).drew.cell? ⟨B, j, none⟩ = some y ∧ (W.setCell ⟨B, k, none⟩ v).drew.cell? ⟨B, k, none⟩ = some (curV (W.setCell ⟨B, k, none⟩ v).drew ⟨B, k, none⟩) ∧ (W.setCell ⟨B, k, none⟩ v).drew.frozen? ⟨B, k, none⟩ = false := by
  obtain ⟨h3, h4, h5, h6⟩ := h
  have h3' : W.cell? ⟨B, i, none⟩ = some x := h3
  have h4' : W.cell? ⟨B, j, none⟩ = some y := h4
  have h5' : W.cell? ⟨B, k, none⟩ = some (curV W.drew ⟨B, k, none⟩) := h5
  have h6' : W.frozen? ⟨B, k, none⟩ = false := h6
  obtain ⟨u, hu⟩ := cell?_setCell_some (w := W) (p := ⟨B, k, none⟩) (x := v) (q := ⟨B, k, none⟩) h5'
  have f : (W.setCell ⟨B, k, none⟩ v).frozen? ⟨B, k, none⟩ = false := (frozen_set W _ _ v).trans h6'
  exact ⟨cell_off v h3' hi, cell_off v h4' hj, curV_spec (w := (W.setCell ⟨B, k, none⟩ v).drew) hu, f⟩
set_option maxRecDepth 100000 in
set_option maxHeartbeats 4000000 in
theorem schedule_any (g o c : Nat) (b : List Nat) (w : World) (hA : BytesAt w g o b) (hl : b.length = 64) (hb : ∀ x ∈ b, x < 256) :
    Calls Tryd.prog 67 #[.slice (some ⟨g, o, none⟩) 64 c] w fun e w' => e = .returned (.agg (wvs (sched b)).toArray) ∧ Below w.heap.size w w' := by
  have HA := Lib.hid hA
  have HL := Lib.hid hl
  have HB := Lib.hid hb
  have HS : Hid ((sched b).length = 64) := sched_length b
  have HF : Hid (∀ k, k < 16 → (sched b).getD k 0 = word (b.getD (4 * k) 0) (b.getD (4 * k + 1) 0) (b.getD (4 * k + 2) 0) (b.getD (4 * k + 3) 0)) := fun k hk => sched_first b hk
  have HX : Hid (∀ i, 16 ≤ i → i < 64 → (sched b).getD i 0 = ((((sched b).getD (i - 16) 0 + lows ((sched b).getD (i - 15) 0)) % 4294967296 + (sched b).getD (i - 7) 0) % 4294967296 + highs ((sched b).getD (i - 2) 0)) % 4294967296) := fun i h1 h2 => sched_next b h1 h2
  have HLT : Hid (∀ i, (sched b).getD i 0 < 4294967296) := sched_lt b hb
  obtain ⟨L, hL⟩ : ∃ L, sched b = L := ⟨_, rfl⟩
  rw [hL] at HS HF HX HLT ⊢
  clear hA hl hb hL
  go_enter Tryd.func67, Tryd.ntmps67
  go_wp2_with fail
  obtain ⟨W, hW⟩ : ∃ W, w.alloc (.cells (wvs (List.replicate 64 0)).toArray 88) = W := ⟨_, rfl⟩
  have hr : RowW 88 W w.heap.size (partW L 0) := by
    rw [partW_zero, HS.out, ← hW]; exact heap_alloc_new _ _
  have hB0 : Below w.heap.size w W := by rw [← hW]; exact below_alloc (Below.refl _ _) _
  have hz : (wvs (List.replicate 64 0)).toArray = #[.int .u32 0, .int .u32 0, .int .u32 0, .int .u32 0, .int .u32 0, .int .u32 0, .int .u32 0, .int .u32 0, .int .u32 0, .int .u32 0, .int .u32 0, .int .u32 0, .int .u32 0, .int .u32 0, .int .u32 0, .int .u32 0, .int .u32 0, .int .u32 0, .int .u32 0, .int .u32 0, .int .u32 0, .int .u32 0, .int .u32 0, .int .u32 0, .int .u32 0, .int .u32 0, .int .u32 0, .int .u32 0, .int .u32 0, .int .u32 0, .int .u32 0, .int .u32 0, .int .u32 0, .int .u32 0, .int .u32 0, .int .u32 0, .int .u32 0, .int .u32 0, .int .u32 0, .int .u32 0, .int .u32 0, .int .u32 0, .int .u32 0, .int .u32 0, .int .u32 0, .int .u32 0, .int .u32 0, .int .u32 0, .int .u32 0, .int .u32 0, .int .u32 0, .int .u32 0, .int .u32 0, .int .u32 0, .int .u32 0, .int .u32 0, .int .u32 0, .int .u32 0, .int .u32 0, .int .u32 0, .int .u32 0, .int .u32 0, .int .u32 0, .int .u32 0] := rfl
  rw [hz] at hW
  rw [hW]
  clear hz hW
  have HR := Lib.hid hr
  clear hr
  go_loopw [7] (fun i wr => ∃ k : Nat, k ≤ 16 ∧ i = .int .i64 (k : Int) ∧ RowW 88 wr w.heap.size (partW L k) ∧ Below w.heap.size w wr) (fun i _ => 16 - (intOf i).toNat)
  case atStart => exact ⟨0, by omega, rfl, HR.out, hB0⟩
  case round =>
    obtain ⟨k, hk, rfl, hr, hB⟩ := hrel
    have HR1 := Lib.hid hr
    have HB1 := Lib.hid hB
    by_cases hlt : k < 16
    · have x0 := cell_then hB (HA.out (4 * k) (by rw [HL.out]; omega))
      have x1 := cell_then hB (HA.out (4 * k + 1) (by rw [HL.out]; omega))
      have x2 := cell_then hB (HA.out (4 * k + 2) (by rw [HL.out]; omega))
      have x3 := cell_then hB (HA.out (4 * k + 3) (by rw [HL.out]; omega))
      have HN := Lib.hid (HF.out k hlt)
      have b0 := bytes_lt HB.out (4 * k)
      have b1 := bytes_lt HB.out (4 * k + 1)
      have b2 := bytes_lt HB.out (4 * k + 2)
      have b3 := bytes_lt HB.out (4 * k + 3)
      obtain ⟨v0, hv0⟩ : ∃ v, b.getD (4 * k) 0 = v := ⟨_, rfl⟩
      obtain ⟨v1, hv1⟩ : ∃ v, b.getD (4 * k + 1) 0 = v := ⟨_, rfl⟩
      obtain ⟨v2, hv2⟩ : ∃ v, b.getD (4 * k + 2) 0 = v := ⟨_, rfl⟩
      obtain ⟨v3, hv3⟩ : ∃ v, b.getD (4 * k + 3) 0 = v := ⟨_, rfl⟩
      rw [hv0] at b0 x0 HN
      rw [hv1] at b1 x1 HN
      rw [hv2] at b2 x2 HN
      rw [hv3] at b3 x3 HN
      clear hv0 hv1 hv2 hv3 hr hB hB0
      have m0 := lt_size x0
      have X0 := Lib.hid x0
      have X1 := Lib.hid x1
      have X2 := Lib.hid x2
      have X3 := Lib.hid x3
      clear x0 x1 x2 x3
      go_wp2_with fail
      have g_x0 := fun D os => cell_regrown X0.out D os
      have g_x1 := fun D os => cell_regrown X1.out D os
      have g_x2 := fun D os => cell_regrown X2.out D os
      have g_x3 := fun D os => cell_regrown X3.out D os
      refine wp_region_head 34 (by kernel_rfl) (by kernel_rfl) ?_
      simp only [List.take_succ_cons, List.take_zero, List.drop_succ_cons, List.drop_zero]
      repeat (go_big_quiet_step (fail))
      refine wpQuiet_nil ?_
      intro wq hq
      clear g_x0 g_x1 g_x2 g_x3
      have hV := word_bits b0 b1 b2 b3
      rw [← HN.out] at hV
      have hrq := HR1.out.then_ hq
      have c0 := hrq.cell (i := k) (by rw [partW_length _ (by rw [HS.out]; omega), HS.out]; omega)
      have f0 := hrq.frozen k
      have l0 := lt_size c0
      have HRQ := Lib.hid hrq
      have HBQ := Lib.hid (below_next HB1.out hq)
      obtain ⟨V, hVV⟩ : ∃ V, L.getD k 0 = V := ⟨_, rfl⟩
      rw [hVV] at hV
      have HV := Lib.hid hVV
      obtain ⟨u, hu⟩ : ∃ u, wq.cell? ⟨w.heap.size, k, none⟩ = some u := ⟨_, c0⟩
      clear hrq c0 hVV hq
      go_wp2_with fail
      refine ⟨⟨k + 1, by omega, by go_num, ?_, HBQ.out.setCell (by simp) _⟩, by simp [intOf]; omega⟩
      rw [← partW_set L (by rw [HS.out]; omega) HV.out]
      exact HRQ.out.store k V
    · obtain rfl : k = 16 := by omega
      clear hr hB hB0
      go_wp2_with fail
      obtain ⟨wo, hwo⟩ : ∃ wo, wr = wo := ⟨_, rfl⟩
      rw [hwo] at HR1 HB1 ⊢
      clear hwo
      go_loopw [4] (fun i wr => ∃ k : Nat, 16 ≤ k ∧ k ≤ 64 ∧ i = .int .i64 (k : Int) ∧ RowW 88 wr w.heap.size (partW L k) ∧ Below w.heap.size w wr) (fun i _ => 64 - (intOf i).toNat)
      case atStart => exact ⟨16, by omega, by omega, rfl, HR1.out, HB1.out⟩
      case round =>
        obtain ⟨k, hk1, hk, rfl, hr, hB⟩ := hrel
        have HR2 := Lib.hid hr
        have HB2 := Lib.hid hB
        by_cases hlt : k < 64
        · have hpl := partW_length L (show k ≤ L.length by rw [HS.out]; omega)
          rw [HS.out] at hpl
          have x0 := hr.cell (i := k - 15) (by rw [hpl]; omega)
          have x1 := hr.cell (i := k - 2) (by rw [hpl]; omega)
          have x2 := hr.cell (i := k - 16) (by rw [hpl]; omega)
          have x3 := hr.cell (i := k - 7) (by rw [hpl]; omega)
          have x4 := hr.cell (i := k) (by rw [hpl]; omega)
          rw [partW_get L (by rw [HS.out]; omega) (by omega)] at x0 x1 x2 x3
          have HN := Lib.hid (HX.out k hk1 hlt)
          have b0 := HLT.out (k - 15)
          have b1 := HLT.out (k - 2)
          have b2 := HLT.out (k - 16)
          have b3 := HLT.out (k - 7)
          obtain ⟨v0, hv0⟩ : ∃ v, L.getD (k - 15) 0 = v := ⟨_, rfl⟩
          obtain ⟨v1, hv1⟩ : ∃ v, L.getD (k - 2) 0 = v := ⟨_, rfl⟩
          obtain ⟨v2, hv2⟩ : ∃ v, L.getD (k - 16) 0 = v := ⟨_, rfl⟩
          obtain ⟨v3, hv3⟩ : ∃ v, L.getD (k - 7) 0 = v := ⟨_, rfl⟩
          obtain ⟨v4, hv4⟩ : ∃ v, (partW L k).getD k 0 = v := ⟨_, rfl⟩
          rw [hv0] at b0 x0 HN
          rw [hv1] at b1 x1 HN
          rw [hv2] at b2 x2 HN
          rw [hv3] at b3 x3 HN
          rw [hv4] at x4
          have e0 : (k : Int) - 15 = ((k - 15 : Nat) : Int) := by omega
          clear hv0 hv1 hv2 hv3 hv4 hr hB hpl
          have X0 := Lib.hid x0
          have X1 := Lib.hid x1
          have X2 := Lib.hid x2
          have X3 := Lib.hid x3
          have X4 := Lib.hid x4
          clear x0 x1 x2 x3 x4
          go_wp2_with fail
          have g_x0 := fun D os => cell_regrown X0.out D os
          have g_x1 := fun D os => cell_regrown X1.out D os
          refine wp_region_quiet_below (by kernel_rfl) (by kernel_rfl) ?_
          repeat (go_big_quiet_step (fail))
          refine wpQuiet_nil ?_
          intro wq hq0
          have hq := below_of_class hq0
          clear hq0
          clear g_x0 g_x1
          go_wp2_with fail
          have HRQ := HR2.out.then_ hq
          have c4 := cell_then hq X4.out
          have d2 : wq.drew.cell? ⟨w.heap.size, k - 16, none⟩ = some (.int .u32 (v2 : Int)) := drew_cell (cell_then hq X2.out)
          have d3 : wq.drew.cell? ⟨w.heap.size, k - 7, none⟩ = some (.int .u32 (v3 : Int)) := drew_cell (cell_then hq X3.out)
          have d4 : wq.drew.cell? ⟨w.heap.size, k, none⟩ = some (.int .u32 (v4 : Int)) := drew_cell c4
          have d5 : wq.drew.frozen? ⟨w.heap.size, k, none⟩ = false := HRQ.frozen k
          have S0 : wq.drew.cell? ⟨w.heap.size, k - 16, none⟩ = some (.int .u32 (v2 : Int)) ∧ wq.drew.cell? ⟨w.heap.size, k - 7, none⟩ = some (.int .u32 (v3 : Int)) ∧ wq.drew.cell? ⟨w.heap.size, k, none⟩ = some (curV wq.drew ⟨w.heap.size, k, none⟩) ∧ wq.drew.frozen? ⟨w.heap.size, k, none⟩ = false :=
            ⟨d2, d3, curV_spec d4, d5⟩
          have l0 := lt_size c4
          have q1 : k - 16 ≠ k := by omega
          have q2 : k - 7 ≠ k := by omega
          have HRQ' := Lib.hid HRQ
          have HBQ := Lib.hid (below_next HB2.out hq)
          clear c4 d2 d3 d4 d5
          have n1 : IntKind.i64.wrap ((k : Int) - 16) = (k : Int) - 16 := IntWalk.i64_in _ (by omega)
          have n2 : IntKind.i64.wrap ((k : Int) - 7) = (k : Int) - 7 := IntWalk.i64_in _ (by omega)
          have n3 : (16 : Int) ≤ (k : Int) := by omega
          have n4 : (7 : Int) ≤ (k : Int) := by omega
          have n5 : (k : Int) - 16 < 64 := by omega
          have n6 : (k : Int) - 7 < 64 := by omega
          have n7 : ((k : Int) - 16).toNat = k - 16 := by omega
          have n8 : ((k : Int) - 7).toNat = k - 7 := by omega
          have n9 : (k : Int) < 64 := by omega
          have P1 : Hid ((1 ≤ 7 ∧ 7 ≤ 31) ∧ (1 ≤ 18 ∧ 18 ≤ 31) ∧ (1 ≤ 17 ∧ 17 ≤ 31) ∧ (1 ≤ 19 ∧ 19 ≤ 31)) := by show _ ∧ _; omega
          clear HRQ
          have HN1 := next_bits (v2 := v2) (v3 := v3) b0 b1
          rw [← HN.out] at HN1
          obtain ⟨V, hV⟩ : ∃ V, L.getD k 0 = V := ⟨_, rfl⟩
          rw [hV] at HN1
          have F1 := (HRQ'.out.store k V)
          rw [partW_set L (by rw [HS.out]; omega) hV] at F1
          have F2 := HBQ.out.setCell (p := ⟨w.heap.size, k, none⟩) (by simp) (.int .u32 (V : Int))
          have HF4 : Hid (∀ A B, RowW 88 (((wq.setCell ⟨w.heap.size, k, none⟩ (.int .u32 (V : Int))).alloc A).alloc B).drew w.heap.size (partW L (k + 1))) := fun A B => F1.then_ (Below.drew (below_alloc (below_alloc (Below.refl _ _) A) B))
          have HF3 : Hid (∀ A B, Below w.heap.size w (((wq.setCell ⟨w.heap.size, k, none⟩ (.int .u32 (V : Int))).alloc A).alloc B).drew) := fun A B => Below.drew (below_alloc (below_alloc F2 A) B)
          have HNN := Lib.hid HN1
          clear F1 F2 hV HN1
          go_region_held3 (fun w' => w'.cell? ⟨w.heap.size, k - 16, none⟩ = some (.int .u32 (v2 : Int)) ∧ w'.cell? ⟨w.heap.size, k - 7, none⟩ = some (.int .u32 (v3 : Int)) ∧ w'.cell? ⟨w.heap.size, k, none⟩ = some (curV w' ⟨w.heap.size, k, none⟩) ∧ w'.frozen? ⟨w.heap.size, k, none⟩ = false) ((first | (with_reducible exact S0) | (have hS := ‹World.cell? _ _ = some _ ∧ _›; first | exact hS | exact keep2 hS _ | exact keep2 (keep2 (keep2s S0 q1 q2 _) _) _))) (first | (go_at_call 68; (with_reducible refine (mixed2_any v0 7 18 _ 2 _ b0 P1.out.1 P1.out.2.1 ?_ ?_).mono ?_); (focus (simp [go_sem])); (focus (simp [go_sem])); rintro e w4 ⟨rfl, rfl⟩) | (go_at_call 68; (with_reducible refine (mixed2_any v1 17 19 _ 2 _ b1 P1.out.2.2.1 P1.out.2.2.2 ?_ ?_).mono ?_); (focus (simp [go_sem])); (focus (simp [go_sem])); rintro e w4 ⟨rfl, rfl⟩))
          all_goals
            clear S0
            rw [HNN.out]
            go_wp2_with fail
            go_roundw
            case rel => (repeat apply Exists.intro); exact ⟨⟨k + 1, by omega, by omega, by go_num, HF4.out _ _, HF3.out _ _⟩, rfl⟩
            case measure => simp [intOf]; omega
        · obtain rfl : k = 64 := by omega
          clear hr hB
          have HRL := HR2.out
          rw [← HS.out, partW_all] at HRL
          have HRR := Lib.hid HRL
          clear HRL
          have hsz : (Tryd.prog.info? 88).map (·.size) = some (wvs L).toArray.size := by rw [List.size_toArray, wvs_length, HS.out]; kernel_rfl
          have HSZ := Lib.hid hsz
          obtain ⟨C, hC⟩ : ∃ C, (wvs L).toArray = C := ⟨_, rfl⟩
          have hg : wr.heap[w.heap.size]? = some (.cells C 88 (0, 0)) := by rw [← hC]; exact HRR.out
          have HG := Lib.hid hg
          rw [hC] at HSZ
          have HC := Lib.hid hC
          clear hsz hC hg HRR
          have h1 : C.all (·.oneCell') = true := by
            rw [← HC.out, Array.all_eq_true_iff_forall_mem]
            intro v hv
            obtain ⟨x, _, rfl⟩ := List.mem_map.1 (List.mem_toArray.1 hv)
            rfl
          have H1 := Lib.hid h1
          clear h1
          go_wp2_with (first | refine wpList_load_row rfl 88 _ rfl w.heap.size rfl 88 C (0, 0) _ HG.out Tryd.underlying88 rfl HSZ.out ?_ | refine wpList_store_row rfl 88 _ _ rfl w.heap.size C rfl rfl 88 C HG.out HSZ.out rfl H1.out ?_)
          exact bodyPost_ret (v := .agg C) (results_cell_row rfl _ _ w.heap.size 88 C (0, 0) _ rfl (setRow_heap wr w.heap.size C C _ _ HG.out) Tryd.underlying88 rfl HSZ.out) rfl ⟨by rw [HC.out], (((Kept.refl [w.heap.size] wr).setRow (.inl (by simp)) C).below_next HB2.out HB2.out.size (fun k hk => by have := List.mem_singleton.1 hk; omega))⟩
end Go.Proofs.YtoipckflokdakaaDoor
