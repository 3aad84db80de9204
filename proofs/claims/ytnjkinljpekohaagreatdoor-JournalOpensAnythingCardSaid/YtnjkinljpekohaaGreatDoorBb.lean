/- The words of a block: schedule. A block: add. The digest that eight words are: digest. A slice of bytes that a call has made, from a string or by append: what it holds; one byte more. No program stands here. A range over a function: the statement's law and a round's law with the loop's record in the open, so that an iterator may keep state of its own in cells. Nothing of the program stands here. The library's slices.Chunk at bytes, 64 a piece. Sum: what it returns. -/
import Derived.Test.YtnjkinljpekohaaGreatDoorBa
import Derived.Deep.RegionHeld3
import Derived.Deep.WholeRow
import Derived.Laws.BytesArg
import Derived.Laws.IdiomCopy
import Derived.Lib.ConvBytes
import Derived.Lib.SmallJoins
import Derived.RangeFuncNested
import Derived.RangeFuncLeaves
import Derived.WalkSpells
import Derived.RangeFuncBound
import Derived.Shelf.Abstract
import Derived.Shelf.RegionOpen
import Derived.OwnWalkIn
import Derived.TacticsInMore
import Derived.LoopNIn
import Derived.LoopIn
import Derived.Sort.QuietIn
namespace Go.Proofs.YtnjkinljpekohaaGreatDoor
open Go.RowKit Sha
/-- words as values -/
def wvs (l : List Nat) : List Value := l.map fun x : Nat => Value.int .u32 (x : Int)
theorem wvs_length (l : List Nat) : (wvs l).length = l.length := List.length_map _
/-- a block that holds these words -/
def RowW (t : TypeId) (w : World) (g : Nat) (l : List Nat) : Prop := w.heap[g]? = some (.cells (wvs l).toArray t (0, 0))
theorem RowW.cell {t : TypeId} {w : World} {g : Nat} {l : List Nat} (h : RowW t w g l) {i : Nat} (hi : i < l.length) : w.cell? ⟨g, i, none⟩ = some (.int .u32 ((l.getD i 0 : Nat) : Int)) := by
  rw [cell_of_row w g i _ t (0, 0) h]
  simp [wvs, List.getD, hi]
theorem RowW.frozen {t : TypeId} {w : World} {g : Nat} {l : List Nat} (h : RowW t w g l) (i : Nat) : w.frozen? ⟨g, i, none⟩ = false := frozen_of_row w g i _ _ h
theorem RowW.kept {t : TypeId} {S : List Nat} {w w' : World} {g : Nat} {l : List Nat} (h : RowW t w g l) (k : Kept S w w') (hn : g ∉ S) : RowW t w' g l := k.heap h hn
theorem RowW.then_ {t : TypeId} {w w' : World} {g : Nat} {l : List Nat} (h : RowW t w g l) (k : Below w.heap.size w w') : RowW t w' g l := h.kept (Kept.of_below k) (fun h => by cases h)
theorem RowW.store {t : TypeId} {w : World} {g : Nat} {l : List Nat} (h : RowW t w g l) (i x : Nat) : RowW t (w.setCell ⟨g, i, none⟩ (.int .u32 (x : Int))) g (l.set i x) := by
  have := heap_setCell_same w g i _ t (.int .u32 (x : Int)) h
  unfold RowW
  rw [this]
  congr 2
  apply Array.toList_inj.1
  simp [wvs, List.map_set]
/-- bytes in memory -/
def BytesAt (w : World) (g o : Nat) (b : List Nat) : Prop := ∀ j, j < b.length → w.cell? ⟨g, o + j, none⟩ = some (.int .u8 ((b.getD j 0 : Nat) : Int))
theorem BytesAt.then_ {w w' : World} {g o : Nat} {b : List Nat} (h : BytesAt w g o b) (k : Below w.heap.size w w') : BytesAt w' g o b := fun j hj => cell_then k (h j hj)
theorem BytesAt.kept {S : List Nat} {w w' : World} {g o : Nat} {b : List Nat} (h : BytesAt w g o b) (k : Kept S w w') (hn : g ∉ S) : BytesAt w' g o b := fun j hj => k.cell (h j hj) hn
/-- the first k words, then zeros -/
def partW (L : List Nat) (k : Nat) : List Nat := L.take k ++ List.replicate (L.length - k) 0
theorem partW_length (L : List Nat) {k : Nat} (hk : k ≤ L.length) : (partW L k).length = L.length := by
  rw [partW, List.length_append, List.length_take, List.length_replicate]; omega
theorem partW_zero (L : List Nat) : partW L 0 = List.replicate L.length 0 := by simp [partW]
theorem partW_all (L : List Nat) : partW L L.length = L := by simp [partW]
theorem partW_get (L : List Nat) {k i : Nat} (hk : k ≤ L.length) (hi : i < k) : (partW L k).getD i 0 = L.getD i 0 := by
  rw [partW, List.getD, List.getElem?_append_left (by rw [List.length_take]; omega)]
  simp [List.getD, hi]
theorem partW_set (L : List Nat) {k x : Nat} (hk : k < L.length) (hx : L.getD k 0 = x) : (partW L k).set k x = partW L (k + 1) := by
  have e1 : (L.take k).length = k := by rw [List.length_take]; omega
  rw [partW, partW, List.set_append_right _ _ (by rw [e1]; exact Nat.le_refl _), e1, Nat.sub_self, show L.length - k = (L.length - (k + 1)) + 1 by omega, List.replicate_succ, List.set_cons_zero, ← hx, List.getD, List.getElem?_eq_getElem hk, Option.getD_some, List.take_succ_eq_append_getElem hk, List.append_assoc, List.singleton_append]
theorem bytes_lt {b : List Nat} (hb : ∀ x ∈ b, x < 256) (i : Nat) : b.getD i 0 < 256 := by
  by_cases h : i < b.length
  · rw [List.getD, List.getElem?_eq_getElem h]; exact hb _ (List.getElem_mem h)
  · rw [List.getD, List.getElem?_eq_none (by omega)]; decide
theorem word_bits {a b c d : Nat} (ha : a < 256) (hb : b < 256) (hc : c < 256) (hd : d < 256) :
    bits .or .u32 (bits .or .u32 (bits .or .u32 ((a : Int) * 16777216) ((b : Int) * 65536)) ((c : Int) * 256)) (d : Int) = ((word a b c d : Nat) : Int) := by
  have e1 : (a : Int) * 16777216 = ((a * 16777216 : Nat) : Int) := by omega
  have e2 : (b : Int) * 65536 = ((b * 65536 : Nat) : Int) := by omega
  have e3 : (c : Int) * 256 = ((c * 256 : Nat) : Int) := by omega
  have l1 : a * 16777216 ||| b * 65536 < 4294967296 := Nat.or_lt_two_pow (n := 32) (by omega) (by omega)
  have l2 : (a * 16777216 ||| b * 65536) ||| c * 256 < 4294967296 := Nat.or_lt_two_pow (n := 32) l1 (by omega)
  rw [e1, e2, e3, u32_or_nat _ _ (by omega) (by omega), u32_or_nat _ _ l1 (by omega), u32_or_nat _ _ l2 (by omega), word]
theorem low_bits {x y m : Nat} (hx : x < 4294967296) (hm : m < 4294967296) : bits .xor .u32 (m : Int) ((x : Int) / (2 ^ y : Nat)) = ((m ^^^ (x >>> y) : Nat) : Int) := by
  have : (x : Int) / ((2 ^ y : Nat) : Int) = ((x / 2 ^ y : Nat) : Int) := by rw [Int.natCast_ediv]
  rw [this, u32_xor_nat _ _ hm (Nat.lt_of_le_of_lt (Nat.div_le_self _ _) hx), Nat.shiftRight_eq_div_pow]
theorem ints_lit2 {w : World} {g : Nat} {a b : Int} (h0 : w.cell? ⟨g, 0, none⟩ = some (.int .i64 a)) (h1 : w.cell? ⟨g, 1, none⟩ = some (.int .i64 b)) : IntsAt w (some ⟨g, 0, none⟩) [a, b] := fun i hi => by
  have hi' : i < 2 := hi
  rcases (show i = 0 ∨ i = 1 by omega) with rfl | rfl
  · exact ⟨g, 0, rfl, h0⟩
  · exact ⟨g, 0, rfl, h1⟩
theorem mixed2_any (x a b g c : Nat) (w : World) (hx : x < 4294967296) (ha : 1 ≤ a ∧ a ≤ 31) (hb : 1 ≤ b ∧ b ≤ 31) (h0 : w.cell? ⟨g, 0, none⟩ = some (.int .i64 (a : Int))) (h1 : w.cell? ⟨g, 1, none⟩ = some (.int .i64 (b : Int))) :
    Calls Tryz.prog 147 #[.int .u32 (x : Int), .slice (some ⟨g, 0, none⟩) 2 c] w fun e w' => e = .returned (.int .u32 ((m2 x a b : Nat) : Int)) ∧ w = w' := by
  have h := mixed_any x (some ⟨g, 0, none⟩) c [a, b] w hx (fun n hn => by
    simp only [List.mem_cons, List.not_mem_nil, or_false] at hn
    rcases hn with rfl | rfl
    · exact ha
    · exact hb) (ints_lit2 h0 h1) (by simp)
  rw [mix2] at h
  exact h
theorem mixed3_any (x a b d g c : Nat) (w : World) (hx : x < 4294967296) (ha : 1 ≤ a ∧ a ≤ 31) (hb : 1 ≤ b ∧ b ≤ 31) (hd : 1 ≤ d ∧ d ≤ 31) (h0 : w.cell? ⟨g, 0, none⟩ = some (.int .i64 (a : Int))) (h1 : w.cell? ⟨g, 1, none⟩ = some (.int .i64 (b : Int))) (h2 : w.cell? ⟨g, 2, none⟩ = some (.int .i64 (d : Int))) :
    Calls Tryz.prog 147 #[.int .u32 (x : Int), .slice (some ⟨g, 0, none⟩) 3 c] w fun e w' => e = .returned (.int .u32 ((m3 x a b d : Nat) : Int)) ∧ w = w' := by
  have h := mixed_any x (some ⟨g, 0, none⟩) c [a, b, d] w hx (fun n hn => by
    simp only [List.mem_cons, List.not_mem_nil, or_false] at hn
    rcases hn with rfl | rfl | rfl
    · exact ha
    · exact hb
    · exact hd) (fun i hi => by
    have hi' : i < 3 := hi
    rcases (show i = 0 ∨ i = 1 ∨ i = 2 by omega) with rfl | rfl | rfl
    · exact ⟨g, 0, rfl, h0⟩
    · exact ⟨g, 0, rfl, h1⟩
    · exact ⟨g, 0, rfl, h2⟩) (by simp)
  rw [mix3] at h
  exact h
theorem u32_wrap (x : Nat) : IntKind.u32.wrap (x : Int) = ((x % 4294967296 : Nat) : Int) := by simp [IntKind.wrap, IntKind.signed, IntKind.bits]
theorem u32_add (a b : Nat) : IntKind.u32.wrap ((a : Int) + (b : Int)) = (((a + b) % 4294967296 : Nat) : Int) := by rw [← Int.natCast_add, u32_wrap]
theorem next_bits {v0 v1 v2 v3 : Nat} (h0 : v0 < 4294967296) (h1 : v1 < 4294967296) :
    IntKind.u32.wrap (IntKind.u32.wrap (IntKind.u32.wrap ((v2 : Int) + bits BinOp.xor IntKind.u32 ((m2 v0 7 18 : Nat) : Int) ((v0 : Int) / 8)) + (v3 : Int)) + bits BinOp.xor IntKind.u32 ((m2 v1 17 19 : Nat) : Int) ((v1 : Int) / 1024))
      = (((((v2 + lows v0) % 4294967296 + v3) % 4294967296 + highs v1) % 4294967296 : Nat) : Int) := by
  have e1 : bits BinOp.xor IntKind.u32 ((m2 v0 7 18 : Nat) : Int) ((v0 : Int) / 8) = ((lows v0 : Nat) : Int) := low_bits (y := 3) h0 (m2_lt _ _ _ h0)
  have e2 : bits BinOp.xor IntKind.u32 ((m2 v1 17 19 : Nat) : Int) ((v1 : Int) / 1024) = ((highs v1 : Nat) : Int) := low_bits (y := 10) h1 (m2_lt _ _ _ h1)
  rw [e1, e2, u32_add, u32_add, u32_add]
theorem keep2 {W : World} {B i j k : Nat} {x y : Value} (h : W.drew.cell? ⟨B, i, none⟩ = some x ∧ W.drew.cell? ⟨B, j, none⟩ = some y ∧ W.drew.cell? ⟨B, k, none⟩ = some (curV W.drew ⟨B, k, none⟩) ∧ W.drew.frozen? ⟨B, k, none⟩ = false) (o : Obj) :
    (W.alloc o).drew.cell? ⟨B, i, none⟩ = some x ∧ (W.alloc o).drew.cell? ⟨B, j, none⟩ = some y ∧ (W.alloc o).drew.cell? ⟨B, k, none⟩ = some (curV (W.alloc o).drew ⟨B, k, none⟩) ∧ (W.alloc o).drew.frozen? ⟨B, k, none⟩ = false := by
  obtain ⟨h3, h4, h5, h6⟩ := h
  have h3' : W.cell? ⟨B, i, none⟩ = some x := h3
  have h4' : W.cell? ⟨B, j, none⟩ = some y := h4
  have h5' : W.cell? ⟨B, k, none⟩ = some (curV W.drew ⟨B, k, none⟩) := h5
  have h6' : W.frozen? ⟨B, k, none⟩ = false := h6
  have f := ((below_alloc (Below.refl _ W) o).frozen (p := ⟨B, k, none⟩) (lt_size h5')).trans h6'
  exact ⟨keep_alloc o h3', keep_alloc o h4', curV_spec (w := (W.alloc o).drew) (keep_alloc o h5'), f⟩
theorem keep2s {W : World} {B i j k : Nat} {x y : Value} (h : W.drew.cell? ⟨B, i, none⟩ = some x ∧ W.drew.cell? ⟨B, j, none⟩ = some y ∧ W.drew.cell? ⟨B, k, none⟩ = some (curV W.drew ⟨B, k, none⟩) ∧ W.drew.frozen? ⟨B, k, none⟩ = false) (hi : i ≠ k) (hj : j ≠ k) (v : Value) :
    (W.setCell ⟨B, k, none⟩ v).drew.cell? ⟨B, i, none⟩ = some x ∧ (W.setCell ⟨B, k, none⟩ v).drew.cell? ⟨B, j, none⟩ = some y ∧ (W.setCell ⟨B, k, none⟩ v).drew.cell? ⟨B, k, none⟩ = some (curV (W.setCell ⟨B, k, none⟩ v).drew ⟨B, k, none⟩) ∧ (W.setCell ⟨B, k, none⟩ v).drew.frozen? ⟨B, k, none⟩ = false := by
  obtain ⟨h3, h4, h5, h6⟩ := h
  have h3' : W.cell? ⟨B, i, none⟩ = some x := h3
  have h4' : W.cell? ⟨B, j, none⟩ = some y := h4
  have h5' : W.cell? ⟨B, k, none⟩ = some (curV W.drew ⟨B, k, none⟩) := h5
  have h6' : W.frozen? ⟨B, k, none⟩ = false := h6
  obtain ⟨u, hu⟩ := cell?_setCell_some (w := W) (p := ⟨B, k, none⟩) (x := v) (q := ⟨B, k, none⟩) h5'
  have f : (W.setCell ⟨B, k, none⟩ v).frozen? ⟨B, k, none⟩ = false := (frozen_set W _ _ v).trans h6'
  exact ⟨cell_off v h3' hi, cell_off v h4' hj, curV_spec (w := (W.setCell ⟨B, k, none⟩ v).drew) hu, f⟩
set_option maxRecDepth 100000 in
set_option maxHeartbeats 4000000 in
theorem schedule_any (g o c : Nat) (b : List Nat) (w : World) (hA : BytesAt w g o b) (hl : b.length = 64) (hb : ∀ x ∈ b, x < 256) :
    Calls Tryz.prog 146 #[.slice (some ⟨g, o, none⟩) 64 c] w fun e w' => e = .returned (.agg (wvs (sched b)).toArray) ∧ Below w.heap.size w w' := by
  have HA := Lib.hid hA
  have HL := Lib.hid hl
  have HB := Lib.hid hb
  have HS : Hid ((sched b).length = 64) := sched_length b
  have HF : Hid (∀ k, k < 16 → (sched b).getD k 0 = word (b.getD (4 * k) 0) (b.getD (4 * k + 1) 0) (b.getD (4 * k + 2) 0) (b.getD (4 * k + 3) 0)) := fun k hk => sched_first b hk
  have HX : Hid (∀ i, 16 ≤ i → i < 64 → (sched b).getD i 0 = ((((sched b).getD (i - 16) 0 + lows ((sched b).getD (i - 15) 0)) % 4294967296 + (sched b).getD (i - 7) 0) % 4294967296 + highs ((sched b).getD (i - 2) 0)) % 4294967296) := fun i h1 h2 => sched_next b h1 h2
  have HLT : Hid (∀ i, (sched b).getD i 0 < 4294967296) := sched_lt b hb
  obtain ⟨L, hL⟩ : ∃ L, sched b = L := ⟨_, rfl⟩
  rw [hL] at HS HF HX HLT ⊢
  clear hA hl hb hL
  go_enter Tryz.func146, Tryz.ntmps146
  go_wp2_with fail
  obtain ⟨W, hW⟩ : ∃ W, w.alloc (.cells (wvs (List.replicate 64 0)).toArray 217) = W := ⟨_, rfl⟩
  have hr : RowW 217 W w.heap.size (partW L 0) := by
    rw [partW_zero, HS.out, ← hW]; exact heap_alloc_new _ _
  have hB0 : Below w.heap.size w W := by rw [← hW]; exact below_alloc (Below.refl _ _) _
  have hz : (wvs (List.replicate 64 0)).toArray = #[.int .u32 0, .int .u32 0, .int .u32 0, .int .u32 0, .int .u32 0, .int .u32 0, .int .u32 0, .int .u32 0, .int .u32 0, .int .u32 0, .int .u32 0, .int .u32 0, .int .u32 0, .int .u32 0, .int .u32 0, .int .u32 0, .int .u32 0, .int .u32 0, .int .u32 0, .int .u32 0, .int .u32 0, .int .u32 0, .int .u32 0, .int .u32 0, .int .u32 0, .int .u32 0, .int .u32 0, .int .u32 0, .int .u32 0, .int .u32 0, .int .u32 0, .int .u32 0, .int .u32 0, .int .u32 0, .int .u32 0, .int .u32 0, .int .u32 0, .int .u32 0, .int .u32 0, .int .u32 0, .int .u32 0, .int .u32 0, .int .u32 0, .int .u32 0, .int .u32 0, .int .u32 0, .int .u32 0, .int .u32 0, .int .u32 0, .int .u32 0, .int .u32 0, .int .u32 0, .int .u32 0, .int .u32 0, .int .u32 0, .int .u32 0, .int .u32 0, .int .u32 0, .int .u32 0, .int .u32 0, .int .u32 0, .int .u32 0, .int .u32 0, .int .u32 0] := rfl
  rw [hz] at hW
  rw [hW]
  clear hz hW
  have HR := Lib.hid hr
  clear hr
  go_loopw [7] (fun i wr => ∃ k : Nat, k ≤ 16 ∧ i = .int .i64 (k : Int) ∧ RowW 217 wr w.heap.size (partW L k) ∧ Below w.heap.size w wr) (fun i _ => 16 - (intOf i).toNat)
  case atStart => exact ⟨0, by omega, rfl, HR.out, hB0⟩
  case round =>
    obtain ⟨k, hk, rfl, hr, hB⟩ := hrel
    have HR1 := Lib.hid hr
    have HB1 := Lib.hid hB
    by_cases hlt : k < 16
    · have x0 := cell_then hB (HA.out (4 * k) (by rw [HL.out]; omega))
      have x1 := cell_then hB (HA.out (4 * k + 1) (by rw [HL.out]; omega))
      have x2 := cell_then hB (HA.out (4 * k + 2) (by rw [HL.out]; omega))
      have x3 := cell_then hB (HA.out (4 * k + 3) (by rw [HL.out]; omega))
      have HN := Lib.hid (HF.out k hlt)
      have b0 := bytes_lt HB.out (4 * k)
      have b1 := bytes_lt HB.out (4 * k + 1)
      have b2 := bytes_lt HB.out (4 * k + 2)
      have b3 := bytes_lt HB.out (4 * k + 3)
      obtain ⟨v0, hv0⟩ : ∃ v, b.getD (4 * k) 0 = v := ⟨_, rfl⟩
      obtain ⟨v1, hv1⟩ : ∃ v, b.getD (4 * k + 1) 0 = v := ⟨_, rfl⟩
      obtain ⟨v2, hv2⟩ : ∃ v, b.getD (4 * k + 2) 0 = v := ⟨_, rfl⟩
      obtain ⟨v3, hv3⟩ : ∃ v, b.getD (4 * k + 3) 0 = v := ⟨_, rfl⟩
      rw [hv0] at b0 x0 HN
      rw [hv1] at b1 x1 HN
      rw [hv2] at b2 x2 HN
      rw [hv3] at b3 x3 HN
      clear hv0 hv1 hv2 hv3 hr hB hB0
      have m0 := lt_size x0
      have X0 := Lib.hid x0
      have X1 := Lib.hid x1
      have X2 := Lib.hid x2
      have X3 := Lib.hid x3
      clear x0 x1 x2 x3
      go_wp2_with fail
      have g_x0 := fun D os => cell_regrown X0.out D os
      have g_x1 := fun D os => cell_regrown X1.out D os
      have g_x2 := fun D os => cell_regrown X2.out D os
      have g_x3 := fun D os => cell_regrown X3.out D os
      refine wp_region_head 34 (by kernel_rfl) (by kernel_rfl) ?_
      simp only [List.take_succ_cons, List.take_zero, List.drop_succ_cons, List.drop_zero]
      repeat (go_big_quiet_step (fail))
      refine wpQuiet_nil ?_
      intro wq hq
      clear g_x0 g_x1 g_x2 g_x3
      have hV := word_bits b0 b1 b2 b3
      rw [← HN.out] at hV
      have hrq := HR1.out.then_ hq
      have c0 := hrq.cell (i := k) (by rw [partW_length _ (by rw [HS.out]; omega), HS.out]; omega)
      have f0 := hrq.frozen k
      have l0 := lt_size c0
      have HRQ := Lib.hid hrq
      have HBQ := Lib.hid (below_next HB1.out hq)
      obtain ⟨V, hVV⟩ : ∃ V, L.getD k 0 = V := ⟨_, rfl⟩
      rw [hVV] at hV
      have HV := Lib.hid hVV
      obtain ⟨u, hu⟩ : ∃ u, wq.cell? ⟨w.heap.size, k, none⟩ = some u := ⟨_, c0⟩
      clear hrq c0 hVV hq
      go_wp2_with fail
      refine ⟨⟨k + 1, by omega, by go_num, ?_, HBQ.out.setCell (by simp) _⟩, by simp [intOf]; omega⟩
      rw [← partW_set L (by rw [HS.out]; omega) HV.out]
      exact HRQ.out.store k V
    · obtain rfl : k = 16 := by omega
      clear hr hB hB0
      go_wp2_with fail
      obtain ⟨wo, hwo⟩ : ∃ wo, wr = wo := ⟨_, rfl⟩
      rw [hwo] at HR1 HB1 ⊢
      clear hwo
      go_loopw [4] (fun i wr => ∃ k : Nat, 16 ≤ k ∧ k ≤ 64 ∧ i = .int .i64 (k : Int) ∧ RowW 217 wr w.heap.size (partW L k) ∧ Below w.heap.size w wr) (fun i _ => 64 - (intOf i).toNat)
      case atStart => exact ⟨16, by omega, by omega, rfl, HR1.out, HB1.out⟩
      case round =>
        obtain ⟨k, hk1, hk, rfl, hr, hB⟩ := hrel
        have HR2 := Lib.hid hr
        have HB2 := Lib.hid hB
        by_cases hlt : k < 64
        · have hpl := partW_length L (show k ≤ L.length by rw [HS.out]; omega)
          rw [HS.out] at hpl
          have x0 := hr.cell (i := k - 15) (by rw [hpl]; omega)
          have x1 := hr.cell (i := k - 2) (by rw [hpl]; omega)
          have x2 := hr.cell (i := k - 16) (by rw [hpl]; omega)
          have x3 := hr.cell (i := k - 7) (by rw [hpl]; omega)
          have x4 := hr.cell (i := k) (by rw [hpl]; omega)
          rw [partW_get L (by rw [HS.out]; omega) (by omega)] at x0 x1 x2 x3
          have HN := Lib.hid (HX.out k hk1 hlt)
          have b0 := HLT.out (k - 15)
          have b1 := HLT.out (k - 2)
          have b2 := HLT.out (k - 16)
          have b3 := HLT.out (k - 7)
          obtain ⟨v0, hv0⟩ : ∃ v, L.getD (k - 15) 0 = v := ⟨_, rfl⟩
          obtain ⟨v1, hv1⟩ : ∃ v, L.getD (k - 2) 0 = v := ⟨_, rfl⟩
          obtain ⟨v2, hv2⟩ : ∃ v, L.getD (k - 16) 0 = v := ⟨_, rfl⟩
          obtain ⟨v3, hv3⟩ : ∃ v, L.getD (k - 7) 0 = v := ⟨_, rfl⟩
          obtain ⟨v4, hv4⟩ : ∃ v, (partW L k).getD k 0 = v := ⟨_, rfl⟩
          rw [hv0] at b0 x0 HN
          rw [hv1] at b1 x1 HN
          rw [hv2] at b2 x2 HN
          rw [hv3] at b3 x3 HN
          rw [hv4] at x4
          have e0 : (k : Int) - 15 = ((k - 15 : Nat) : Int) := by omega
          clear hv0 hv1 hv2 hv3 hv4 hr hB hpl
          have X0 := Lib.hid x0
          have X1 := Lib.hid x1
          have X2 := Lib.hid x2
          have X3 := Lib.hid x3
          have X4 := Lib.hid x4
          clear x0 x1 x2 x3 x4
          go_wp2_with fail
          have g_x0 := fun D os => cell_regrown X0.out D os
          have g_x1 := fun D os => cell_regrown X1.out D os
          refine wp_region_quiet_below (by kernel_rfl) (by kernel_rfl) ?_
          repeat (go_big_quiet_step (fail))
          refine wpQuiet_nil ?_
          intro wq hq0
          have hq := below_of_class hq0
          clear hq0
          clear g_x0 g_x1
          go_wp2_with fail
          have HRQ := HR2.out.then_ hq
          have c4 := cell_then hq X4.out
          have d2 : wq.drew.cell? ⟨w.heap.size, k - 16, none⟩ = some (.int .u32 (v2 : Int)) := drew_cell (cell_then hq X2.out)
          have d3 : wq.drew.cell? ⟨w.heap.size, k - 7, none⟩ = some (.int .u32 (v3 : Int)) := drew_cell (cell_then hq X3.out)
          have d4 : wq.drew.cell? ⟨w.heap.size, k, none⟩ = some (.int .u32 (v4 : Int)) := drew_cell c4
          have d5 : wq.drew.frozen? ⟨w.heap.size, k, none⟩ = false := HRQ.frozen k
          have S0 : wq.drew.cell? ⟨w.heap.size, k - 16, none⟩ = some (.int .u32 (v2 : Int)) ∧ wq.drew.cell? ⟨w.heap.size, k - 7, none⟩ = some (.int .u32 (v3 : Int)) ∧ wq.drew.cell? ⟨w.heap.size, k, none⟩ = some (curV wq.drew ⟨w.heap.size, k, none⟩) ∧ wq.drew.frozen? ⟨w.heap.size, k, none⟩ = false :=
            ⟨d2, d3, curV_spec d4, d5⟩
          have l0 := lt_size c4
          have q1 : k - 16 ≠ k := by omega
          have q2 : k - 7 ≠ k := by omega
          have HRQ' := Lib.hid HRQ
          have HBQ := Lib.hid (below_next HB2.out hq)
          clear c4 d2 d3 d4 d5
          have n1 : IntKind.i64.wrap ((k : Int) - 16) = (k : Int) - 16 := IntWalk.i64_in _ (by omega)
          have n2 : IntKind.i64.wrap ((k : Int) - 7) = (k : Int) - 7 := IntWalk.i64_in _ (by omega)
          have n3 : (16 : Int) ≤ (k : Int) := by omega
          have n4 : (7 : Int) ≤ (k : Int) := by omega
          have n5 : (k : Int) - 16 < 64 := by omega
          have n6 : (k : Int) - 7 < 64 := by omega
          have n7 : ((k : Int) - 16).toNat = k - 16 := by omega
          have n8 : ((k : Int) - 7).toNat = k - 7 := by omega
          have n9 : (k : Int) < 64 := by omega
          have P1 : Hid ((1 ≤ 7 ∧ 7 ≤ 31) ∧ (1 ≤ 18 ∧ 18 ≤ 31) ∧ (1 ≤ 17 ∧ 17 ≤ 31) ∧ (1 ≤ 19 ∧ 19 ≤ 31)) := by show _ ∧ _; omega
          clear HRQ
          have HN1 := next_bits (v2 := v2) (v3 := v3) b0 b1
          rw [← HN.out] at HN1
          obtain ⟨V, hV⟩ : ∃ V, L.getD k 0 = V := ⟨_, rfl⟩
          rw [hV] at HN1
          have F1 := (HRQ'.out.store k V)
          rw [partW_set L (by rw [HS.out]; omega) hV] at F1
          have F2 := HBQ.out.setCell (p := ⟨w.heap.size, k, none⟩) (by simp) (.int .u32 (V : Int))
          have HF4 : Hid (∀ A B, RowW 217 (((wq.setCell ⟨w.heap.size, k, none⟩ (.int .u32 (V : Int))).alloc A).alloc B).drew w.heap.size (partW L (k + 1))) := fun A B => F1.then_ (Below.drew (below_alloc (below_alloc (Below.refl _ _) A) B))
          have HF3 : Hid (∀ A B, Below w.heap.size w (((wq.setCell ⟨w.heap.size, k, none⟩ (.int .u32 (V : Int))).alloc A).alloc B).drew) := fun A B => Below.drew (below_alloc (below_alloc F2 A) B)
          have HNN := Lib.hid HN1
          clear F1 F2 hV HN1
          go_region_held3 (fun w' => w'.cell? ⟨w.heap.size, k - 16, none⟩ = some (.int .u32 (v2 : Int)) ∧ w'.cell? ⟨w.heap.size, k - 7, none⟩ = some (.int .u32 (v3 : Int)) ∧ w'.cell? ⟨w.heap.size, k, none⟩ = some (curV w' ⟨w.heap.size, k, none⟩) ∧ w'.frozen? ⟨w.heap.size, k, none⟩ = false) ((first | (with_reducible exact S0) | (have hS := ‹World.cell? _ _ = some _ ∧ _›; first | exact hS | exact keep2 hS _ | exact keep2 (keep2 (keep2s S0 q1 q2 _) _) _))) (first | (go_at_call 147; (with_reducible refine (mixed2_any v0 7 18 _ 2 _ b0 P1.out.1 P1.out.2.1 ?_ ?_).mono ?_); (focus (simp [go_sem])); (focus (simp [go_sem])); rintro e w4 ⟨rfl, rfl⟩) | (go_at_call 147; (with_reducible refine (mixed2_any v1 17 19 _ 2 _ b1 P1.out.2.2.1 P1.out.2.2.2 ?_ ?_).mono ?_); (focus (simp [go_sem])); (focus (simp [go_sem])); rintro e w4 ⟨rfl, rfl⟩))
          all_goals
            clear S0
            rw [HNN.out]
            go_wp2_with fail
            go_roundw
            case rel => (repeat apply Exists.intro); exact ⟨⟨k + 1, by omega, by omega, by go_num, HF4.out _ _, HF3.out _ _⟩, rfl⟩
            case measure => simp [intOf]; omega
        · obtain rfl : k = 64 := by omega
          clear hr hB
          have HRL := HR2.out
          rw [← HS.out, partW_all] at HRL
          have HRR := Lib.hid HRL
          clear HRL
          have hsz : (Tryz.prog.info? 217).map (·.size) = some (wvs L).toArray.size := by rw [List.size_toArray, wvs_length, HS.out]; kernel_rfl
          have HSZ := Lib.hid hsz
          obtain ⟨C, hC⟩ : ∃ C, (wvs L).toArray = C := ⟨_, rfl⟩
          have hg : wr.heap[w.heap.size]? = some (.cells C 217 (0, 0)) := by rw [← hC]; exact HRR.out
          have HG := Lib.hid hg
          rw [hC] at HSZ
          have HC := Lib.hid hC
          clear hsz hC hg HRR
          have h1 : C.all (·.oneCell') = true := by
            rw [← HC.out, Array.all_eq_true_iff_forall_mem]
            intro v hv
            obtain ⟨x, _, rfl⟩ := List.mem_map.1 (List.mem_toArray.1 hv)
            rfl
          have H1 := Lib.hid h1
          clear h1
          go_wp2_with (first | refine wpList_load_row rfl 217 _ rfl w.heap.size rfl 217 C (0, 0) _ HG.out Tryz.underlying217 rfl HSZ.out ?_ | refine wpList_store_row rfl 217 _ _ rfl w.heap.size C rfl rfl 217 C HG.out HSZ.out rfl H1.out ?_)
          exact bodyPost_ret (v := .agg C) (results_cell_row rfl _ _ w.heap.size 217 C (0, 0) _ rfl (setRow_heap wr w.heap.size C C _ _ HG.out) Tryz.underlying217 rfl HSZ.out) rfl ⟨by rw [HC.out], (((Kept.refl [w.heap.size] wr).setRow (.inl (by simp)) C).below_next HB2.out HB2.out.size (fun k hk => by have := List.mem_singleton.1 hk; omega))⟩
end Go.Proofs.YtnjkinljpekohaaGreatDoor
namespace Go.Proofs.YtnjkinljpekohaaGreatDoor
open Go.RowKit Sha
/-- the words k lie in memory -/
def RoundIn (w : World) : Prop := 4 < w.heap.size ∧ ∀ k : Nat, k < 64 → w.cell? ⟨4, k, none⟩ = some (.int .u32 ((K64.getD k 0 : Nat) : Int))
theorem RoundIn.below {w w' : World} {B : Nat} (h : RoundIn w) (hb : Below B w w') (hB : w.heap.size ≤ B) : RoundIn w' :=
  ⟨Nat.lt_of_lt_of_le h.1 hb.size, fun k hk => (hb.cell (p := ⟨4, k, none⟩) (Nat.lt_of_lt_of_le h.1 hB)).trans (h.2 k hk)⟩
theorem RoundIn.then_ {w w' : World} (h : RoundIn w) (hb : Below w.heap.size w w') : RoundIn w' := h.below hb (Nat.le_refl _)
/-- a whole array out of known cells -/
theorem wpList_load_cells {P : Program} {ops : Array Oper} {rest : List Oper} {o : Oper} {a : Act} {w : World} {Q : Exit → Act → World → Prop} (hgd : o.guard = none) (ty : TypeId) (x : Operand) (ho : o.op = .load ty x)
    (g : Nat) (hx : a.eval x = .pointer (some ⟨g, 0, none⟩)) (cs : List Value) (d : TypeDesc) (hc : ∀ j v, cs[j]? = some v → w.cell? ⟨g, j, none⟩ = some v)
    (hu : P.underlying ty = some d) (hd : (match d with | .struct _ | .array _ _ => true | _ => false) = true) (hi : (P.info? ty).map (·.size) = some cs.length)
    (h : wpList P ops Q rest (a.put o.dst (.agg cs.toArray)) w) : wpList P ops Q (o :: rest) a w := by
  refine wpList_plain hgd fun K hK => ?_
  have hl : (loadCells ⟨g, 0, none⟩ cs.length).run P w = .ok cs.toArray w :=
    run_loadCells_list (P := P) w ⟨g, 0, none⟩ cs (fun j v hj => by
      have hadd : (⟨g, 0, none⟩ : Addr).add j = ⟨g, j, none⟩ := by unfold Addr.add; split <;> simp_all
      rw [hadd]; exact hc j v hj)
  cases hq : P.info? ty with
  | none => simp [hq] at hi
  | some i =>
    have hs : i.size = cs.length := by simpa [hq] using hi
    have hagg : (isAgg ty).run P w = .ok true w := by
      unfold isAgg
      rw [Sem.run_bind, run_underlying hu w]
      cases d <;> simp_all
    have hlv : (loadVar ty ⟨g, 0, none⟩).run P w = .ok (.agg cs.toArray) w := by
      simp [loadVar, Sem.run_bind, hagg, sizeOf, typeInfo, hq, hs, hl]
    unfold Oper.wp execOp
    simp only [ho, hx, Instr.loadAt, Instr.sureAddr, Sem.run_bind, Sem.run_pure, Result.andThen_ok, hlv]
    exact hK _ _ h
/-- a whole array into the block that was made last -/
theorem wpList_store_new {P : Program} {ops : Array Oper} {rest : List Oper} {o : Oper} {a : Act} {w : World} {Q : Exit → Act → World → Prop} (hgd : o.guard = none) (ty : TypeId) (x y : Operand) (ho : o.op = .store ty x y)
    (cells : Array Value) {old : Array Value} (hx : a.eval x = .pointer (some ⟨w.heap.size, 0, none⟩)) (hy : a.eval y = .agg cells) (hi : (P.info? ty).map (·.size) = some cells.size)
    (n : Nat) (hold : old.size = n) (hn : n = cells.size) (h1 : cells.all (·.oneCell') = true)
    (h : wpList P ops Q rest (a.put o.dst undef) (w.alloc (.cells cells ty))) : wpList P ops Q (o :: rest) a (w.alloc (.cells old ty)) :=
  wpList_store_row hgd ty x y ho w.heap.size cells hx hy ty old (heap_alloc_new _ _) hi (hold.trans hn) h1 (by rw [World.setRow_alloc_new]; exact h)
theorem wpList_store_new2 {P : Program} {ops : Array Oper} {rest : List Oper} {o : Oper} {a : Act} {w : World} {Q : Exit → Act → World → Prop} (hgd : o.guard = none) (ty : TypeId) (x y : Operand) (ho : o.op = .store ty x y)
    (cells : Array Value) {old : Array Value} {A : Obj} (hx : a.eval x = .pointer (some ⟨w.heap.size + 1, 0, none⟩)) (hy : a.eval y = .agg cells) (hi : (P.info? ty).map (·.size) = some cells.size)
    (n : Nat) (hold : old.size = n) (hn : n = cells.size) (h1 : cells.all (·.oneCell') = true)
    (h : wpList P ops Q rest (a.put o.dst undef) ((w.alloc A).alloc (.cells cells ty))) : wpList P ops Q (o :: rest) a ((w.alloc A).alloc (.cells old ty)) :=
  wpList_store_new (w := w.alloc A) hgd ty x y ho cells (by rw [World.size_alloc]; exact hx) hy hi n hold hn h1 h
/-- an element of an array by value -/
theorem run_index_words {P : Program} {T E : TypeId} {n : Nat} (hT : P.underlying T = some (.array n E)) (hE : P.underlying E = some (.int .u32)) (hs : (P.info? E).map (·.size) = some 1) (L : List Nat) (hl : L.length = n) {k : Nat} (hk : k < n) (w : World) :
    (Instr.index T (.agg (wvs L).toArray) (.int .i64 (k : Int))).run P w = .ok (.int .u32 ((L.getD k 0 : Nat) : Int)) w := by
  cases hq : P.info? E with
  | none => simp [hq] at hs
  | some i =>
    have hs1 : i.size = 1 := by simpa [hq] using hs
    have hk2 : k < L.length := by omega
    have h1 : (0 : Int) ≤ (k : Int) := by omega
    have h2 : (k : Int) < (n : Int) := by omega
    simp [Instr.index, asIntOf, run_underlying hT, part, isAgg, run_underlying hE, sizeOf, typeInfo, hq, hs1, wvs, List.getD, hk2, go_sem]
    intro h
    omega
theorem words_one {L : List Nat} {C : Array Value} (hC : (wvs L).toArray = C) : C.all (·.oneCell') = true := by
  rw [← hC, Array.all_eq_true_iff_forall_mem]
  intro v hv
  obtain ⟨x, _, rfl⟩ := List.mem_map.1 (List.mem_toArray.1 hv)
  rfl
theorem vl_length (v : V) : (vl v).length = 8 := rfl
theorem size64 : (Tryz.prog.info? 217).map (·.size) = some 64 := by kernel_rfl
theorem size8 : (Tryz.prog.info? 206).map (·.size) = some 8 := by kernel_rfl
theorem size4b : (Tryz.prog.info? 118).map (·.size) = some 1 := by kernel_rfl
theorem words_cell {w : World} {g : Nat} {K : List Nat} {n : Nat} (h : ∀ k, k < n → w.cell? ⟨g, k, none⟩ = some (.int .u32 ((K.getD k 0 : Nat) : Int))) (hn : K.length = n) {j : Nat} {v : Value} (hj : (wvs K)[j]? = some v) : w.cell? ⟨g, j, none⟩ = some v := by
  have hl : j < K.length := by
    have := (List.getElem?_eq_some_iff.1 hj).1
    rwa [wvs_length] at this
  rw [h j (by omega), ← hj]
  simp [wvs, List.getD, hl]
theorem keep4 {W : World} {A B : Nat} {i j k l : Nat} {x y z u : Value} (h : W.drew.cell? ⟨A, i, none⟩ = some x ∧ W.drew.cell? ⟨A, j, none⟩ = some y ∧ W.drew.cell? ⟨A, k, none⟩ = some z ∧ W.drew.cell? ⟨B, l, none⟩ = some u) (o : Obj) :
    (W.alloc o).drew.cell? ⟨A, i, none⟩ = some x ∧ (W.alloc o).drew.cell? ⟨A, j, none⟩ = some y ∧ (W.alloc o).drew.cell? ⟨A, k, none⟩ = some z ∧ (W.alloc o).drew.cell? ⟨B, l, none⟩ = some u := by
  obtain ⟨h1, h2, h3, h4⟩ := h
  have a1 : W.cell? ⟨A, i, none⟩ = some x := h1
  have a2 : W.cell? ⟨A, j, none⟩ = some y := h2
  have a3 : W.cell? ⟨A, k, none⟩ = some z := h3
  have a4 : W.cell? ⟨B, l, none⟩ = some u := h4
  exact ⟨keep_alloc o a1, keep_alloc o a2, keep_alloc o a3, keep_alloc o a4⟩
theorem not_u32 (r : Nat) (h : r < 4294967296) : bits .xor .u32 IntKind.u32.max (r : Int) = ((4294967295 - r : Nat) : Int) := by
  have e := congrArg BitVec.toNat (BitVec.xor_allOnes (x := BitVec.ofNat 32 r))
  rw [BitVec.toNat_xor, BitVec.toNat_not, BitVec.toNat_allOnes, BitVec.toNat_ofNat, Nat.mod_eq_of_lt (by simpa using h)] at e
  have := u32_xor_nat 4294967295 r (by omega) (by omega)
  rw [Nat.xor_comm] at this
  rw [show (4294967295 : Nat) - r = r ^^^ 4294967295 by simpa using e.symm]
  exact this
theorem tt_bits {v : V} (hv : VB v) {k w : Nat} :
    IntKind.u32.wrap (IntKind.u32.wrap (IntKind.u32.wrap (IntKind.u32.wrap ((v.h : Int) + ((m3 v.e 6 11 25 : Nat) : Int)) + bits .xor .u32 (bits .and .u32 (v.e : Int) (v.f : Int)) (bits .and .u32 (bits .xor .u32 IntKind.u32.max (v.e : Int)) (v.g : Int))) + (k : Int)) + (w : Int)) = ((tt v k w : Nat) : Int) := by
  have b1 : v.e &&& v.f < 4294967296 := Nat.and_lt_two_pow (n := 32) _ hv.f
  have b2 : (4294967295 - v.e) &&& v.g < 4294967296 := Nat.and_lt_two_pow (n := 32) _ hv.g
  rw [not_u32 _ hv.e, u32_and_nat _ _ hv.e hv.f, u32_and_nat _ _ (by omega) hv.g, u32_xor_nat _ _ b1 b2, u32_add, u32_add, u32_add, u32_add]
  rfl
theorem uu_bits {v : V} (hv : VB v) :
    IntKind.u32.wrap (((m3 v.a 2 13 22 : Nat) : Int) + bits .xor .u32 (bits .xor .u32 (bits .and .u32 (v.a : Int) (v.b : Int)) (bits .and .u32 (v.a : Int) (v.c : Int))) (bits .and .u32 (v.b : Int) (v.c : Int))) = ((uu v : Nat) : Int) := by
  have b1 : v.a &&& v.b < 4294967296 := Nat.and_lt_two_pow (n := 32) _ hv.b
  have b2 : v.a &&& v.c < 4294967296 := Nat.and_lt_two_pow (n := 32) _ hv.c
  have b3 : v.b &&& v.c < 4294967296 := Nat.and_lt_two_pow (n := 32) _ hv.c
  rw [u32_and_nat _ _ hv.a hv.b, u32_and_nat _ _ hv.a hv.c, u32_and_nat _ _ hv.b hv.c, u32_xor_nat _ _ b1 b2, u32_xor_nat _ _ (Nat.xor_lt_two_pow (n := 32) b1 b2) b3, u32_add]
  rfl
theorem copy_src {t : TypeId} {w : World} {g n : Nat} {l m : List Nat} (h : RowW t w g l) (hm : l.take n = m) : ∀ j v, (wvs m)[j]? = some v → w.cell? ((⟨g, 0, none⟩ : Addr).add j) = some v := by
  intro j v hj
  have hadd : (⟨g, 0, none⟩ : Addr).add j = ⟨g, j, none⟩ := by unfold Addr.add; split <;> simp_all
  have hl : j < m.length := by
    have := (List.getElem?_eq_some_iff.1 hj).1
    rwa [wvs_length] at this
  have hl2 : j < l.length := by
    rw [← hm, List.length_take] at hl; omega
  rw [hadd, h.cell hl2, ← hj]
  subst hm
  simp only [wvs, List.getElem?_map, List.getD]
  rw [List.length_take] at hl
  rw [List.getElem?_take_of_lt (by omega), List.getElem?_eq_getElem hl2]
  rfl
theorem words_ones (l : List Nat) : ∀ v ∈ wvs l, v.oneCell' = true := fun v hv => by
  obtain ⟨x, _, rfl⟩ := List.mem_map.1 hv
  rfl
/-- 'copy(v[1:], v[:7])' -/
theorem wpList_shift {P : Program} {ops : Array Oper} {rest : List Oper} {o' : Oper} {A : Act} {w : World} {Q : Exit → Act → World → Prop} (hgd : o'.guard = none) (x y : Operand) (dT sT : TypeId)
    (ho : o'.op = .call { callee := .builtin .copy, args := #[x, y], argTypes := #[dT, sT] }) (elem : TypeId) (hu : P.underlying dT = some (.slice elem)) (hsz : (P.info? elem).map (·.size) = some 1)
    (g : Nat) (hd : A.eval x = .slice (some ⟨g, 1, none⟩) 7 7) (hs : A.eval y = .slice (some ⟨g, 0, none⟩) 7 8) (t : TypeId) (q0 q1 q2 q3 q4 q5 q6 q7 : Nat) (hr : RowW t w g [q0, q1, q2, q3, q4, q5, q6, q7])
    (h : ∀ w', Hid (RowW t w' g [q0, q0, q1, q2, q3, q4, q5, q6]) → Kept [g] w w' → wpList P ops Q rest (A.put o'.dst (goInt 7)) w') : wpList P ops Q (o' :: rest) A w :=
  wpList_copy_own hgd x y dT sT ho elem hu hsz g 1 7 7 ⟨g, 0, none⟩ 7 8 hd hs (wvs [q0, q1, q2, q3, q4, q5, q6, q7]).toArray t hr (wvs [q0, q1, q2, q3, q4, q5, q6]) rfl (copy_src (n := 7) hr rfl) (by simp [wvs]) (words_ones _)
    (h _ (setRow_heap w g _ _ t _ hr) ((Kept.refl _ _).setRow (.inl (by simp)) _))
/-- the first j words are new -/
def updW (E H : List Nat) (j : Nat) : List Nat := E.take j ++ H.drop j
theorem updW_length {E H : List Nat} {n j : Nat} (h1 : E.length = n) (h2 : H.length = n) (hj : j ≤ n) : (updW E H j).length = n := by
  rw [updW, List.length_append, List.length_take, List.length_drop]; omega
theorem updW_get {E H : List Nat} {n j : Nat} (h1 : E.length = n) (h2 : H.length = n) (hj : j < n) : (updW E H j).getD j 0 = H.getD j 0 := by
  have e1 : (E.take j).length = j := by rw [List.length_take]; omega
  rw [updW, List.getD, List.getElem?_append_right (by omega), e1, Nat.sub_self, List.getElem?_drop, Nat.add_zero, List.getD]
theorem updW_set {E H : List Nat} {n j : Nat} (h1 : E.length = n) (h2 : H.length = n) (hj : j < n) : (updW E H j).set j (E.getD j 0) = updW E H (j + 1) := by
  have e1 : (E.take j).length = j := by rw [List.length_take]; omega
  rw [updW, updW, List.set_append_right _ _ (by omega), e1, Nat.sub_self, List.drop_eq_getElem_cons (by omega : j < H.length), List.set_cons_zero, List.take_succ_eq_append_getElem (by omega : j < E.length), List.append_assoc, List.singleton_append, List.getD, List.getElem?_eq_getElem (by omega), Option.getD_some]
theorem vl_add (h v : V) (j : Nat) (hj : j < 8) : (vl (addV h v)).getD j 0 = ((vl h).getD j 0 + (vl v).getD j 0) % 4294967296 := by
  rcases (show j = 0 ∨ j = 1 ∨ j = 2 ∨ j = 3 ∨ j = 4 ∨ j = 5 ∨ j = 6 ∨ j = 7 by omega) with rfl | rfl | rfl | rfl | rfl | rfl | rfl | rfl <;> rfl
theorem u32_add' (a b : Nat) : ((a : Int) + (b : Int)) % 4294967296 = (((a + b) % 4294967296 : Nat) : Int) := by omega
set_option maxRecDepth 100000 in
set_option maxHeartbeats 4000000 in
theorem add_any (g gb o c : Nat) (H : V) (b : List Nat) (w : World) (hg : RowW 206 w g (vl H)) (hH : VB H) (hA : BytesAt w gb o b) (hl : b.length = 64) (hb : ∀ x ∈ b, x < 256) (hK : RoundIn w) :
    Calls Tryz.prog 139 #[.pointer (some ⟨g, 0, none⟩), .slice (some ⟨gb, o, none⟩) 64 c] w fun e w' => e = .returned (.tuple #[]) ∧ RowW 206 w' g (vl (addB H b)) ∧ Kept [g] w w' := by
  obtain ⟨R, hR0, hRS, hRB, hEnd⟩ := rounds_run H b hH
  have HS : Hid ((sched b).length = 64) := sched_length b
  have HLT : Hid (∀ i, (sched b).getD i 0 < 4294967296) := sched_lt b hb
  have hcs := fun w hA => schedule_any gb o c b w hA hl hb
  obtain ⟨E, hE⟩ : ∃ E, addB H b = E := ⟨_, rfl⟩
  rw [hE] at hEnd ⊢
  clear hE
  obtain ⟨L, hL⟩ : ∃ L, sched b = L := ⟨_, rfl⟩
  rw [hL] at hRS HS HLT hcs
  clear hL
  obtain ⟨K, hKK⟩ : ∃ K, K64 = K := ⟨_, rfl⟩
  have HKL : Hid (K.length = 64) := by rw [← hKK]; rfl
  have HKB : Hid (∀ k, K.getD k 0 < 4294967296) := by rw [← hKK]; exact k64_lt
  have hkc := hK.2
  have hki := hK.1
  rw [hKK] at hRS hkc
  clear hKK
  have HKC := Lib.hid hkc
  have HRS := Lib.hid hRS
  have HRB := Lib.hid hRB
  have HR0 := Lib.hid hR0
  have HEnd := Lib.hid hEnd
  have HCS := Lib.hid hcs
  have HG := Lib.hid hg
  have HA := Lib.hid hA
  have HH := Lib.hid hH
  clear hcs hkc hRS hRB hR0 hEnd hg hA hl hb hK hH
  obtain ⟨CL, hCL⟩ : ∃ C, (wvs L).toArray = C := ⟨_, rfl⟩
  have H1 := Lib.hid (words_one hCL)
  have HSZ : Hid (CL.size = 64) := by
    show _ = _
    rw [← hCL, List.size_toArray, wvs_length, HS.out]
  have HSI : Hid ((Tryz.prog.info? 217).map (·.size) = some CL.size) := by
    show _ = _
    rw [HSZ.out]; exact size64
  rw [hCL] at HCS
  have HCL := Lib.hid hCL
  clear hCL
  obtain ⟨CH, hCH⟩ : ∃ C, (wvs (vl H)).toArray = C := ⟨_, rfl⟩
  have H2 := Lib.hid (words_one hCH)
  have HHZ : Hid (CH.size = 8) := by
    show _ = _
    rw [← hCH, List.size_toArray, wvs_length, vl_length]
  have HHI : Hid ((Tryz.prog.info? 206).map (·.size) = some CH.size) := by
    show _ = _
    rw [HHZ.out]; exact size8
  have hg : w.heap[g]? = some (.cells CH 206 (0, 0)) := by rw [← hCH]; exact HG.out
  have lg := hlt hg
  have HGC := Lib.hid hg
  have HCH := Lib.hid hCH
  clear hCH hg
  go_enter Tryz.func139, Tryz.ntmps139
  have HKI : Hid ((Tryz.prog.info? 217).map (·.size) = some (wvs K).length) := by
    show _ = _
    rw [wvs_length, HKL.out]; exact size64
  have HSZ' : Hid (64 = CL.size) := HSZ.out.symm
  have HHZ' : Hid (8 = CH.size) := HHZ.out.symm
  go_wp2_with (first | (go_at_call 146; (with_reducible refine (HCS.out _ HA.out).mono ?_); rintro e w1 ⟨rfl, b1⟩; have HG1 := Lib.hid (show (w1.alloc (.cells CL 217)).heap[g]? = some (.cells CH 206 (0, 0)) from (Below.block (below_alloc b1 _) _ lg).trans HGC.out); have HK2 := Lib.hid (show ∀ j v, (wvs K)[j]? = some v → ((w1.alloc (.cells CL 217)).alloc (.cells CH 206)).cell? ⟨4, j, none⟩ = some v from fun j v hj => cell_then (below_alloc (below_alloc b1 _) _) (words_cell HKC.out HKL.out hj))) | (refine wpList_load_cells rfl 217 _ rfl 4 rfl (wvs K) _ HK2.out Tryz.underlying217 rfl HKI.out ?_) | (refine wpList_store_new rfl 217 _ _ rfl CL rfl rfl HSI.out 64 rfl HSZ'.out H1.out ?_) | (refine wpList_load_row rfl 206 _ rfl g rfl 206 CH (0, 0) _ HG1.out Tryz.underlying206 rfl HHI.out ?_) | (refine wpList_store_new2 rfl 206 _ _ rfl CH rfl rfl HHI.out 8 rfl HHZ'.out H2.out ?_))
  have BW := below_alloc (below_alloc b1 (.cells CL 217)) (.cells CH 206)
  have F1 : RowW 217 ((w1.alloc (.cells CL 217)).alloc (.cells CH 206)) w1.heap.size L := by
    show _ = _
    rw [HCL.out]; exact heap_alloc2_old _ _ _
  have F2 : RowW 206 ((w1.alloc (.cells CL 217)).alloc (.cells CH 206)) (w1.heap.size + 1) (vl H) := by
    show _ = _
    rw [HCH.out]; exact heap_alloc2_new _ _ _
  have F3 : RowW 206 ((w1.alloc (.cells CL 217)).alloc (.cells CH 206)) g (vl H) := HG.out.then_ BW
  have lw := b1.size
  obtain ⟨wo, hwo⟩ : ∃ W, (w1.alloc (.cells CL 217)).alloc (.cells CH 206) = W := ⟨_, rfl⟩
  have lo : wo.heap.size = w1.heap.size + 2 := by rw [← hwo]; simp
  have lo1 : w1.heap.size < wo.heap.size := by omega
  have lo2 : w1.heap.size + 1 < wo.heap.size := by omega
  rw [hwo] at BW F1 F2 F3 ⊢
  have HB := Lib.hid BW
  have HF1 := Lib.hid F1
  have HF2 := Lib.hid F2
  have HF3 := Lib.hid F3
  obtain ⟨CK, hCK⟩ : ∃ C, (wvs K).toArray = C := ⟨_, rfl⟩
  have HIX : Hid (∀ (k : Nat) (w : World), k < 64 → (Instr.index 217 (.agg CK) (.int .i64 (k : Int))).run Tryz.prog w = .ok (.int .u32 ((K.getD k 0 : Nat) : Int)) w) := by
    intro k w hk
    rw [← hCK]
    exact run_index_words Tryz.underlying217 Tryz.underlying118 size4b K HKL.out hk w
  rw [hCK]
  clear hwo hCK BW F1 F2 F3 HG1 HK2 b1 lo
  go_loopw [19] (fun i wr => ∃ k : Nat, k ≤ 64 ∧ i = .int .i64 (k : Int) ∧ RowW 206 wr (w1.heap.size + 1) (vl (R k)) ∧ Kept [w1.heap.size + 1] wo wr) (fun i _ => 64 - (intOf i).toNat)
  case atStart => exact ⟨0, by omega, rfl, by rw [HR0.out]; exact HF2.out, Kept.refl _ _⟩
  case round =>
    obtain ⟨k, hk, rfl, hr, hK⟩ := hrel
    have HRW := Lib.hid hr
    have HKP := Lib.hid hK
    clear hr hK
    by_cases hlt : k < 64
    · have HX := HIX.out k
      have hix := fun w => HX w hlt
      have HS1 := Lib.hid (HRS.out k hlt)
      have HVB := Lib.hid (HRB.out k)
      have bl := HLT.out k
      have bk := HKB.out k
      have x0 := (HF1.out.kept HKP.out (by simp)).cell (i := k) (by rw [HS.out]; exact hlt)
      obtain ⟨v, hv⟩ : ∃ v, R k = v := ⟨_, rfl⟩
      rw [hv] at HS1 HVB HRW
      obtain ⟨kk, hkk⟩ : ∃ v, K.getD k 0 = v := ⟨_, rfl⟩
      rw [hkk] at hix HS1 bk
      obtain ⟨ww, hww⟩ : ∃ v, L.getD k 0 = v := ⟨_, rfl⟩
      rw [hww] at x0 HS1 bl
      obtain ⟨R1, hR1⟩ : ∃ v, R (k + 1) = v := ⟨_, rfl⟩
      rw [hR1] at HS1
      have HR1 := Lib.hid hR1
      clear HX hv hkk hww hR1
      obtain ⟨a, b, c', d, e, f, g', z⟩ := v
      have hT := tt_bits HVB.out (k := kk) (w := ww)
      have hU := uu_bits HVB.out
      simp only at hT hU
      have hbd := HVB.out
      have he : e < 4294967296 := hbd.e
      have ha : a < 4294967296 := hbd.a
      have hv1 : R1 = ⟨(tt ⟨a, b, c', d, e, f, g', z⟩ kk ww + uu ⟨a, b, c', d, e, f, g', z⟩) % 4294967296, a, b, c', (d + tt ⟨a, b, c', d, e, f, g', z⟩ kk ww) % 4294967296, e, f, g'⟩ := HS1.out
      obtain ⟨T0, hT0⟩ : ∃ T0, tt ⟨a, b, c', d, e, f, g', z⟩ kk ww = T0 := ⟨_, rfl⟩
      obtain ⟨U0, hU0⟩ : ∃ U0, uu ⟨a, b, c', d, e, f, g', z⟩ = U0 := ⟨_, rfl⟩
      rw [hT0] at hT hv1
      rw [hU0] at hU hv1
      have HT := Lib.hid hT
      have HU := Lib.hid hU
      have HV1 := Lib.hid hv1
      clear hT0 hU0 hv1 HS1 hbd
      have X0 := Lib.hid x0
      have c0 : wr.cell? ⟨w1.heap.size + 1, 0, none⟩ = some (.int .u32 (a : Int)) := HRW.out.cell (i := 0) (by simp [vl])
      have c4 : wr.cell? ⟨w1.heap.size + 1, 4, none⟩ = some (.int .u32 (e : Int)) := HRW.out.cell (i := 4) (by simp [vl])
      have C0 := Lib.hid c0
      have C4 := Lib.hid c4
      have l0 := lt_size c0
      clear hT hU x0 c0 c4
      go_wp2_with fail
      have g_c0 := fun D os => cell_regrown C0.out D os
      have g_c4 := fun D os => cell_regrown C4.out D os
      refine wp_region_quiet_below (by kernel_rfl) (by kernel_rfl) ?_
      repeat (go_big_quiet_step (fail))
      refine wpQuiet_nil ?_
      intro wq hq0
      have hq := below_of_class hq0
      clear hq0
      clear g_c0 g_c4
      go_wp2_with fail
      have k1 := Kept.of_below hq
      have HRQ := Lib.hid (HRW.out.then_ hq)
      have q7 : wq.drew.cell? ⟨w1.heap.size + 1, 7, none⟩ = some (.int .u32 (z : Int)) := drew_cell (HRQ.out.cell (i := 7) (by simp [vl]))
      have q5 : wq.drew.cell? ⟨w1.heap.size + 1, 5, none⟩ = some (.int .u32 (f : Int)) := drew_cell (HRQ.out.cell (i := 5) (by simp [vl]))
      have q6 : wq.drew.cell? ⟨w1.heap.size + 1, 6, none⟩ = some (.int .u32 (g' : Int)) := drew_cell (HRQ.out.cell (i := 6) (by simp [vl]))
      have qk : wq.drew.cell? ⟨w1.heap.size, k, none⟩ = some (.int .u32 (ww : Int)) := drew_cell (cell_then hq X0.out)
      have S0 := And.intro q7 (And.intro q5 (And.intro q6 qk))
      have KQ := Lib.hid (HKP.out.trans (k1.mono (fun _ h => by cases h)) (New.refl _ _))
      have i9 : (k : Int) < 64 := by omega
      have P3 : Hid ((1 ≤ 6 ∧ 6 ≤ 31) ∧ (1 ≤ 11 ∧ 11 ≤ 31) ∧ (1 ≤ 25 ∧ 25 ≤ 31) ∧ (1 ≤ 2 ∧ 2 ≤ 31) ∧ (1 ≤ 13 ∧ 13 ≤ 31) ∧ (1 ≤ 22 ∧ 22 ≤ 31)) := by show _ ∧ _; omega
      clear q7 q5 q6 qk hq k1
      go_region_held3 (fun w' => w'.cell? ⟨w1.heap.size + 1, 7, none⟩ = some (.int .u32 (z : Int)) ∧ w'.cell? ⟨w1.heap.size + 1, 5, none⟩ = some (.int .u32 (f : Int)) ∧ w'.cell? ⟨w1.heap.size + 1, 6, none⟩ = some (.int .u32 (g' : Int)) ∧ w'.cell? ⟨w1.heap.size, k, none⟩ = some (.int .u32 (ww : Int))) ((first | (with_reducible exact S0) | (have hS := ‹World.cell? _ _ = some _ ∧ _›; first | exact hS | exact keep4 hS _))) (first | (go_at_call 147; (with_reducible refine (mixed3_any e 6 11 25 _ 3 _ he P3.out.1 P3.out.2.1 P3.out.2.2.1 ?_ ?_ ?_).mono ?_); (focus (simp [go_sem])); (focus (simp [go_sem])); (focus (simp [go_sem])); rintro e4 w4 ⟨rfl, rfl⟩))
      rw [HT.out]
      clear S0 i9 X0
      go_wp2_with fail
      have KW2 := Lib.hid ((KQ.out.alloc (.cells #[.int .i64 6, .int .i64 11, .int .i64 25] 3)).drew)
      have RW2 : RowW 206 (wq.alloc (.cells #[.int .i64 6, .int .i64 11, .int .i64 25] 3)).drew (w1.heap.size + 1) (vl ⟨a, b, c', d, e, f, g', z⟩) := HRQ.out.then_ (below_alloc (Below.refl _ _) _).drew
      have HRW2 := Lib.hid RW2
      have q1 := drew_cell (HRW2.out.cell (i := 1) (by simp [vl]))
      have q2 := drew_cell (HRW2.out.cell (i := 2) (by simp [vl]))
      have q3 := drew_cell (HRW2.out.cell (i := 3) (by simp [vl]))
      obtain ⟨w2, hw2⟩ : ∃ W, (wq.alloc (.cells #[.int .i64 6, .int .i64 11, .int .i64 25] 3)).drew = W := ⟨_, rfl⟩
      rw [hw2] at KW2 HRW2 q1 q2 q3 ⊢
      have lz2 := lt_size q1
      have S1 : w2.drew.cell? ⟨w1.heap.size + 1, 1, none⟩ = some (.int .u32 (b : Int)) ∧ w2.drew.cell? ⟨w1.heap.size + 1, 2, none⟩ = some (.int .u32 (c' : Int)) ∧ w2.drew.cell? ⟨w1.heap.size + 1, 3, none⟩ = some (.int .u32 (d : Int)) ∧ w2.drew.cell? ⟨w1.heap.size + 1, 3, none⟩ = some (.int .u32 (d : Int)) := ⟨q1, q2, q3, q3⟩
      clear hw2 q1 q2 q3 RW2 KQ HRQ
      go_region_held3 (fun w' => w'.cell? ⟨w1.heap.size + 1, 1, none⟩ = some (.int .u32 (b : Int)) ∧ w'.cell? ⟨w1.heap.size + 1, 2, none⟩ = some (.int .u32 (c' : Int)) ∧ w'.cell? ⟨w1.heap.size + 1, 3, none⟩ = some (.int .u32 (d : Int)) ∧ w'.cell? ⟨w1.heap.size + 1, 3, none⟩ = some (.int .u32 (d : Int))) ((first | (with_reducible exact S1) | (have hS := ‹World.cell? _ _ = some _ ∧ _›; first | exact hS | exact keep4 hS _))) (first | (go_at_call 147; (with_reducible refine (mixed3_any a 2 13 22 _ 3 _ ha P3.out.2.2.2.1 P3.out.2.2.2.2.1 P3.out.2.2.2.2.2 ?_ ?_ ?_).mono ?_); (focus (simp [go_sem])); (focus (simp [go_sem])); (focus (simp [go_sem])); rintro e4 w4 ⟨rfl, rfl⟩))
      rw [HU.out]
      clear S1
      have KW3 := Lib.hid ((KW2.out.alloc (.cells #[.int .i64 2, .int .i64 13, .int .i64 22] 3)).drew)
      have HRW3 := Lib.hid (show RowW 206 (w2.alloc (.cells #[.int .i64 2, .int .i64 13, .int .i64 22] 3)).drew (w1.heap.size + 1) (vl ⟨a, b, c', d, e, f, g', z⟩) from HRW2.out.then_ (below_alloc (Below.refl _ _) _).drew)
      obtain ⟨w3, hw3⟩ : ∃ W, (w2.alloc (.cells #[.int .i64 2, .int .i64 13, .int .i64 22] 3)).drew = W := ⟨_, rfl⟩
      rw [hw3] at KW3 HRW3 ⊢
      clear hw3 KW2 HRW2
      go_wp2_with fail
      have lv3 := lt_size (HRW3.out.cell (i := 0) (by simp [vl]))
      refine wp_region_head 2 (by kernel_rfl) (by kernel_rfl) ?_
      simp only [List.take_succ_cons, List.take_zero, List.drop_succ_cons, List.drop_zero]
      repeat (go_big_quiet_step (fail))
      refine wpQuiet_nil ?_
      intro wq hq
      have KW4 := Lib.hid (KW3.out.trans ((Kept.of_below hq).mono (fun _ h => by cases h)) (New.refl _ _))
      have HRW4 := Lib.hid (HRW3.out.then_ hq)
      clear hq KW3 HRW3
      have hT1 := u32_add T0 U0
      have hT2 := u32_add d T0
      have hT3 := u32_add' T0 U0
      have hT4 := u32_add' d T0
      obtain ⟨A1, hA1⟩ : ∃ x, (T0 + U0) % 4294967296 = x := ⟨_, rfl⟩
      obtain ⟨E1, hE1⟩ : ∃ x, (d + T0) % 4294967296 = x := ⟨_, rfl⟩
      rw [hA1] at hT1 hT3
      rw [hE1] at hT2 hT4
      rw [hA1, hE1] at HV1
      clear hA1 hE1
      go_wp2_with (refine wpList_shift rfl _ _ 119 119 rfl 118 Tryz.underlying119 size4b (w1.heap.size + 1) rfl rfl 206 a b c' d e f g' z HRW4.out ?_; intro w5 HRW5 k5; have c0 := HRW5.out.cell (i := 0) (by simp); have c4 : w5.cell? ⟨w1.heap.size + 1, 4, none⟩ = some (.int .u32 (d : Int)) := HRW5.out.cell (i := 4) (by simp); have f0 := HRW5.out.frozen 0; have f4 := HRW5.out.frozen 4; have l5 := lt_size c0; have KW5 := Lib.hid (KW4.out.trans k5 (New.refl _ _)); clear k5)
      have HRW6 := Lib.hid ((HRW5.out.store 0 A1).store 4 E1)
      have e6 : ([a, a, b, c', d, e, f, g'].set 0 A1).set 4 E1 = vl R1 := by rw [HV1.out]; rfl
      rw [e6] at HRW6
      have KW6 := Lib.hid ((KW5.out.setCell (p := ⟨w1.heap.size + 1, 0, none⟩) (.inl (by simp)) (.int .u32 (A1 : Int))).setCell (p := ⟨w1.heap.size + 1, 4, none⟩) (.inl (by simp)) (.int .u32 (E1 : Int)))
      clear c0 c4 f0 f4
      exact ⟨⟨k + 1, by omega, by go_num, by rw [HR1.out]; exact HRW6.out, KW6.out⟩, by simp [intOf]; omega⟩
    · obtain rfl : k = 64 := by omega
      have HLE : Hid (∀ j, j < 8 → (vl E).getD j 0 = ((vl H).getD j 0 + (vl (R 64)).getD j 0) % 4294967296) := by
        rw [HEnd.out]; exact vl_add H (R 64)
      have hg0 := HF3.out.kept HKP.out (by simp; omega)
      have HE8 : Hid ((vl E).length = 8) := rfl
      have HH8 : Hid ((vl H).length = 8) := rfl
      have HV8 : Hid ((vl (R 64)).length = 8) := rfl
      have HKG := Lib.hid hg0
      obtain ⟨LE, hLE⟩ : ∃ x, vl E = x := ⟨_, rfl⟩
      obtain ⟨LH, hLH⟩ : ∃ x, vl H = x := ⟨_, rfl⟩
      obtain ⟨LV, hLV⟩ : ∃ x, vl (R 64) = x := ⟨_, rfl⟩
      rw [hLE, hLH, hLV] at HLE
      rw [hLE] at HE8
      rw [hLH] at HH8 HKG
      rw [hLV] at HV8 HRW
      have HLE' := Lib.hid hLE
      clear hLE hLH hLV hg0
      go_wp2_with fail
      obtain ⟨wo2, hwo2⟩ : ∃ W, wr = W := ⟨_, rfl⟩
      have lg2 := Nat.lt_of_lt_of_le (Nat.lt_of_lt_of_le lg HB.out.size) HKP.out.size
      rw [hwo2] at HRW HKP HKG lg2 ⊢
      clear hwo2
      go_loopw [82] (fun i wr => ∃ j : Nat, j ≤ 8 ∧ i = .int .i64 (j : Int) ∧ RowW 206 wr g (updW LE LH j) ∧ Kept [g] wo2 wr) (fun i _ => 8 - (intOf i).toNat)
      case atStart => exact ⟨0, by omega, rfl, HKG.out, Kept.refl _ _⟩
      case round =>
        obtain ⟨j, hj, rfl, hr, hK⟩ := hrel
        have HR2 := Lib.hid hr
        have HK2 := Lib.hid hK
        clear hr hK
        by_cases hlt : j < 8
        · have x0 := HR2.out.cell (i := j) (by rw [updW_length HE8.out HH8.out hj]; exact hlt)
          rw [updW_get HE8.out HH8.out hlt] at x0
          have x1 := (HRW.out.kept HK2.out (by simp; omega)).cell (i := j) (by rw [HV8.out]; exact hlt)
          have HQ := Lib.hid (HLE.out j hlt)
          obtain ⟨p, hp⟩ : ∃ x, LH.getD j 0 = x := ⟨_, rfl⟩
          obtain ⟨q, hq⟩ : ∃ x, LV.getD j 0 = x := ⟨_, rfl⟩
          rw [hp] at x0 HQ
          rw [hq] at x1 HQ
          clear hp hq
          have X0 := Lib.hid x0
          have X1 := Lib.hid x1
          have l0 := lt_size x0
          have i8 : (j : Int) < 8 := by omega
          clear x0 x1
          go_wp2_with fail
          have g_c0 := fun D os => cell_regrown X0.out D os
          have g_c4 := fun D os => cell_regrown X1.out D os
          refine wp_region_head 11 (by kernel_rfl) (by kernel_rfl) ?_
          simp only [List.take_succ_cons, List.take_zero, List.drop_succ_cons, List.drop_zero]
          repeat (go_big_quiet_step (fail))
          refine wpQuiet_nil ?_
          intro wq hq
          clear g_c0 g_c4
          have hrq := HR2.out.then_ hq
          have c0 := cell_then hq X0.out
          have f0 := hrq.frozen j
          have l1 := lt_size c0
          have hst := hrq.store j (LE.getD j 0)
          rw [updW_set HE8.out HH8.out hlt, HQ.out] at hst
          have hV := u32_add' p q
          obtain ⟨V1, hV1⟩ : ∃ x, (p + q) % 4294967296 = x := ⟨_, rfl⟩
          rw [hV1] at hst hV
          have HST := Lib.hid hst
          have HK3 := Lib.hid ((HK2.out.trans ((Kept.of_below hq).mono (fun _ h => by cases h)) (New.refl _ _)).setCell (p := ⟨g, j, none⟩) (.inl (by simp)) (.int .u32 (V1 : Int)))
          clear hrq hst hV1 hq
          rw [hV]
          clear hV
          go_wp2_with fail
          go_roundw
          case rel => first | exact ⟨j + 1, by omega, by go_num, HST.out, HK3.out⟩ | ((repeat apply Exists.intro); exact ⟨⟨j + 1, by omega, by go_num, HST.out, HK3.out⟩, rfl⟩)
          case measure => simp [intOf]; omega
        · obtain rfl : j = 8 := by omega
          have hR := HR2.out
          have e1 : updW LE LH 8 = LE := by
            rw [updW, List.take_of_length_le (by rw [HE8.out]; exact Nat.le_refl _), List.drop_eq_nil_of_le (by rw [HH8.out]; exact Nat.le_refl _), List.append_nil]
          rw [e1, ← HLE'.out] at hR
          have HR3 := Lib.hid hR
          clear hR e1
          go_wp2_with fail
          go_end0
          have K0 : Kept [] w wo2 := (Kept.of_below HB.out).trans HKP.out (New.all (fun k hk => by have := List.mem_singleton.1 hk; omega))
          exact ⟨rfl, HR3.out, (K0.mono (fun _ h => by cases h)).trans HK2.out (New.refl _ _)⟩
end Go.Proofs.YtnjkinljpekohaaGreatDoor
namespace Go.Proofs.YtnjkinljpekohaaGreatDoor
open Go.RowKit Sha
/-- bytes as values -/
def uvs (l : List Nat) : List Value := l.map fun x : Nat => Value.int .u8 (x : Int)
theorem uvs_length (l : List Nat) : (uvs l).length = l.length := List.length_map _
/-- a block that holds these bytes -/
def RowU (t : TypeId) (w : World) (g : Nat) (l : List Nat) : Prop := w.heap[g]? = some (.cells (uvs l).toArray t (0, 0))
theorem RowU.cell {t : TypeId} {w : World} {g : Nat} {l : List Nat} (h : RowU t w g l) {i : Nat} (hi : i < l.length) : w.cell? ⟨g, i, none⟩ = some (.int .u8 ((l.getD i 0 : Nat) : Int)) := by
  rw [cell_of_row w g i _ t (0, 0) h]
  simp [uvs, List.getD, hi]
theorem RowU.frozen {t : TypeId} {w : World} {g : Nat} {l : List Nat} (h : RowU t w g l) (i : Nat) : w.frozen? ⟨g, i, none⟩ = false := frozen_of_row w g i _ _ h
theorem RowU.store {t : TypeId} {w : World} {g : Nat} {l : List Nat} (h : RowU t w g l) (i x : Nat) : RowU t (w.setCell ⟨g, i, none⟩ (.int .u8 (x : Int))) g (l.set i x) := by
  have := heap_setCell_same w g i _ t (.int .u8 (x : Int)) h
  unfold RowU
  rw [this]
  congr 2
  apply Array.toList_inj.1
  simp [uvs, List.map_set]
/-- a string out of bytes -/
def strN (l : List Nat) : ByteArray := ⟨(l.map UInt8.ofNat).toArray⟩
theorem strOf_nat (l : List Nat) : strOfNums (l.map fun n : Nat => (n : Int)) = strN l := by
  unfold strOfNums strN
  simp [List.map_map, Function.comp_def]
theorem conv_nat {w : World} {g : Nat} {l : List Nat} {n c : Nat} (h : ∀ i, i < l.length → w.cell? ⟨g, i, none⟩ = some (.int .u8 ((l.getD i 0 : Nat) : Int))) (hn : l.length = n) :
    (convert 53 9 (.slice (some ⟨g, 0, none⟩) n c)).run Tryz.prog w = .ok (.string (strN l)) w := by
  rw [run_convert_bytes_arg (P := Tryz.prog) w 53 5 Tryz.underlying53 Tryz.underlying5 g 0 n c (l.map fun n : Nat => (n : Int)) (by simp [hn]) (fun i hi => ?_) 9 Tryz.underlying9, strOf_nat]
  rw [Nat.zero_add, h i (by omega)]
  simp [List.getD, show i < l.length by omega]
theorem out_get (v : V) (j k : Nat) (hj : j < 8) (hk : k < 4) : (outV v).getD (4 * j + k) 0 = (vl v).getD j 0 / 2 ^ (24 - 8 * k) % 256 := by
  rcases (show j = 0 ∨ j = 1 ∨ j = 2 ∨ j = 3 ∨ j = 4 ∨ j = 5 ∨ j = 6 ∨ j = 7 by omega) with rfl | rfl | rfl | rfl | rfl | rfl | rfl | rfl <;> rcases (show k = 0 ∨ k = 1 ∨ k = 2 ∨ k = 3 by omega) with rfl | rfl | rfl | rfl <;> first | rfl | exact congrArg (· % 256) (Nat.div_one _).symm
theorem vl_lt {v : V} (h : VB v) (j : Nat) : (vl v).getD j 0 < 4294967296 := by
  by_cases hj : j < 8
  · rcases (show j = 0 ∨ j = 1 ∨ j = 2 ∨ j = 3 ∨ j = 4 ∨ j = 5 ∨ j = 6 ∨ j = 7 by omega) with rfl | rfl | rfl | rfl | rfl | rfl | rfl | rfl
    · exact h.a
    · exact h.b
    · exact h.c
    · exact h.d
    · exact h.e
    · exact h.f
    · exact h.g
    · exact h.h
  · rw [List.getD, List.getElem?_eq_none (by rw [vl_length]; omega)]; decide
set_option maxRecDepth 100000 in
set_option maxHeartbeats 4000000 in
theorem digest_any (v : V) (w : World) (hv : VB v) : Calls Tryz.prog 140 #[.agg (wvs (vl v)).toArray] w fun e w' => e = .returned (.string (strN (outV v))) ∧ Below w.heap.size w w' := by
  have HO : Hid (∀ j k, j < 8 → k < 4 → (outV v).getD (4 * j + k) 0 = (vl v).getD j 0 / 2 ^ (24 - 8 * k) % 256) := out_get v
  have HLT := Lib.hid (vl_lt hv)
  have HL : Hid ((outV v).length = 32) := rfl
  have HV8 : Hid ((vl v).length = 8) := rfl
  obtain ⟨O, hO⟩ : ∃ O, outV v = O := ⟨_, rfl⟩
  obtain ⟨L, hL⟩ : ∃ L, vl v = L := ⟨_, rfl⟩
  rw [hO, hL] at HO
  rw [hO] at HL ⊢
  rw [hL] at HLT HV8 ⊢
  clear hO hL hv
  obtain ⟨C, hC⟩ : ∃ C, (wvs L).toArray = C := ⟨_, rfl⟩
  have HIX : Hid (∀ (k : Nat) (w : World), k < 8 → (Instr.index 206 (.agg C) (.int .i64 (k : Int))).run Tryz.prog w = .ok (.int .u32 ((L.getD k 0 : Nat) : Int)) w) := by
    intro k w hk
    rw [← hC]
    exact run_index_words Tryz.underlying206 Tryz.underlying118 size4b L HV8.out hk w
  have H1 := Lib.hid (words_one hC)
  have HSZ : Hid (C.size = 8) := by
    show _ = _
    rw [← hC, List.size_toArray, wvs_length, HV8.out]
  have HSI : Hid ((Tryz.prog.info? 206).map (·.size) = some C.size) := by
    show _ = _
    rw [HSZ.out]; exact size8
  rw [hC]
  clear hC
  go_enter Tryz.func140, Tryz.ntmps140
  have hg : ((w.alloc (.cells C 206)).alloc (.cells (uvs (List.replicate 32 0)).toArray 220)).heap[w.heap.size]? = some (.cells C 206 (0, 0)) := heap_alloc2_old _ _ _
  have HG := Lib.hid hg
  clear hg
  go_wp2_with (refine wpList_load_row rfl 206 _ rfl w.heap.size rfl 206 C (0, 0) _ HG.out Tryz.underlying206 rfl HSI.out ?_)
  obtain ⟨W, hW⟩ : ∃ W, (w.alloc (.cells C 206)).alloc (.cells (uvs (List.replicate 32 0)).toArray 220) = W := ⟨_, rfl⟩
  have hr : RowU 220 W (w.heap.size + 1) (partW O 0) := by
    rw [partW_zero, HL.out, ← hW]; exact heap_alloc2_new _ _ _
  have hB0 : Below w.heap.size w W := by rw [← hW]; exact below_alloc (below_alloc (Below.refl _ _) _) _
  have hz : (uvs (List.replicate 32 0)).toArray = #[.int .u8 0, .int .u8 0, .int .u8 0, .int .u8 0, .int .u8 0, .int .u8 0, .int .u8 0, .int .u8 0, .int .u8 0, .int .u8 0, .int .u8 0, .int .u8 0, .int .u8 0, .int .u8 0, .int .u8 0, .int .u8 0, .int .u8 0, .int .u8 0, .int .u8 0, .int .u8 0, .int .u8 0, .int .u8 0, .int .u8 0, .int .u8 0, .int .u8 0, .int .u8 0, .int .u8 0, .int .u8 0, .int .u8 0, .int .u8 0, .int .u8 0, .int .u8 0] := rfl
  rw [hz] at hW
  rw [hW]
  have HR := Lib.hid hr
  have HB := Lib.hid hB0
  clear hz hW hr hB0 HG
  go_loopw [8] (fun i wr => ∃ j : Nat, j ≤ 8 ∧ i = .int .i64 (j : Int) ∧ RowU 220 wr (w.heap.size + 1) (partW O (4 * j)) ∧ Below w.heap.size w wr) (fun i _ => 8 - (intOf i).toNat)
  case atStart => exact ⟨0, by omega, rfl, HR.out, HB.out⟩
  case round =>
    obtain ⟨j, hj, rfl, hr, hB⟩ := hrel
    have HR1 := Lib.hid hr
    have HB1 := Lib.hid hB
    clear hr hB
    by_cases hlt : j < 8
    · have HX := HIX.out j
      have hix := fun w => HX w hlt
      have hO := fun k => HO.out j k hlt
      have lx := HLT.out j
      obtain ⟨x, hx⟩ : ∃ x, L.getD j 0 = x := ⟨_, rfl⟩
      rw [hx] at hix lx
      simp only [hx] at hO
      have HO1 := Lib.hid hO
      clear HX hx hO
      go_wp2_with fail
      clear hix
      obtain ⟨wo, hwo⟩ : ∃ W, wr = W := ⟨_, rfl⟩
      rw [hwo] at HR1 HB1 ⊢
      clear hwo
      go_loopw [12] (fun i wr => ∃ k : Nat, k ≤ 4 ∧ i = .int .i64 (k : Int) ∧ RowU 220 wr (w.heap.size + 1) (partW O (4 * j + k)) ∧ Below w.heap.size w wr) (fun i _ => 4 - (intOf i).toNat)
      case atStart => exact ⟨0, by omega, rfl, HR1.out, HB1.out⟩
      case round =>
        obtain ⟨k, hk, rfl, hr, hB⟩ := hrel
        have HR2 := Lib.hid hr
        have HB2 := Lib.hid hB
        by_cases hk4 : k < 4
        · have c0 := hr.cell (i := 4 * j + k) (by rw [partW_length _ (by rw [HL.out]; omega), HL.out]; omega)
          have f0 := hr.frozen (4 * j + k)
          have l0 := lt_size c0
          have HV := Lib.hid (HO1.out k hk4)
          obtain ⟨u, hu⟩ : ∃ u, wr.cell? ⟨w.heap.size + 1, 4 * j + k, none⟩ = some u := ⟨_, c0⟩
          have i1 : (4 : Int) * (j : Int) + (k : Int) < 32 := by omega
          have i2 : (k : Int) < 4 := by omega
          have i3 : (0 : Int) ≤ 24 - 8 * (k : Int) := by omega
          have i4 : (24 : Int) - 8 * (k : Int) ≤ 32 := by omega
          have i5 : ((24 : Int) - 8 * (k : Int)).toNat = 24 - 8 * k := by omega
          clear c0 hr hB
          go_wp2_with fail
          refine ⟨⟨k + 1, by omega, by go_num, ?_, HB2.out.setCell (by simp) _⟩, by simp [intOf]; omega⟩
          have e : (x : Int) / 2 ^ (24 - 8 * k) % 256 = ((x / 2 ^ (24 - 8 * k) % 256 : Nat) : Int) := by rw [Int.natCast_emod, Int.natCast_ediv, Int.natCast_pow]; rfl
          rw [e, ← HV.out, ← Nat.add_assoc, ← partW_set O (by rw [HL.out]; omega) rfl]
          exact HR2.out.store _ _
        · obtain rfl : k = 4 := by omega
          clear hr hB
          go_wp2_with fail
          first
          | exact ⟨⟨j + 1, by omega, by go_num, HR2.out, HB2.out⟩, by simp [intOf]; omega⟩
          | (go_roundw; case rel => ((repeat apply Exists.intro); exact ⟨⟨j + 1, by omega, by go_num, HR2.out, HB2.out⟩, rfl⟩); case measure => (simp [intOf]; omega))
    · obtain rfl : j = 8 := by omega
      have hR := HR1.out
      have e1 : partW O (4 * 8) = O := by rw [show 4 * 8 = O.length from HL.out.symm, partW_all]
      rw [e1] at hR
      have hcv := conv_nat (c := 32) (fun i hi => hR.cell hi) HL.out
      clear hR e1
      go_wp2_with fail
      go_ret
      exact ⟨rfl, HB1.out⟩
end Go.Proofs.YtnjkinljpekohaaGreatDoor
namespace Go.Proofs.YtnjkinljpekohaaGreatDoor
open Go.RowKit
/-- a slice of one-cell elements of the call's own, whatever mark its block bears -/
def Byts (w : World) (base : Nat) (v : Value) (n : Nat) (xs : List Value) : Prop :=
  xs.length = n ∧ ∃ g cap, v = .slice (some ⟨g, 0, none⟩) n cap ∧ base ≤ g ∧ g < w.heap.size ∧ n ≤ cap ∧ cap ≤ maxLen ∧ (∀ j u, xs[j]? = some u → w.cell? ⟨g, j, none⟩ = some u) ∧ ∀ j, n ≤ j → j < cap → (w.cell? ⟨g, j, none⟩).isSome = true ∧ w.frozen? ⟨g, j, none⟩ = false
theorem add0 (g j : Nat) : (⟨g, 0, none⟩ : Addr).add j = ⟨g, j, none⟩ := by unfold Addr.add; split <;> simp_all
theorem Byts.kept {S : List Nat} {w w' : World} {base n : Nat} {v : Value} {xs : List Value} (h : Byts w base v n xs) (k : Kept S w w') (hn : ∀ g, v.ownBlock = some g → g ∉ S) : Byts w' base v n xs := by
  obtain ⟨h0, g, cap, rfl, hb, hl, h1, h2, h3, h4⟩ := h
  have hb' := k.block g hl (hn g rfl)
  exact ⟨h0, g, cap, rfl, hb, Nat.lt_of_lt_of_le hl k.size, h1, h2, fun j u hj => (World.cell?_of_block hb').trans (h3 j u hj), fun j h5 h6 => by
    rw [World.cell?_of_block (a := ⟨g, j, none⟩) hb', World.frozen?_of_block (a := ⟨g, j, none⟩) hb']; exact h4 j h5 h6⟩
theorem Byts.then_ {w w' : World} {base n : Nat} {v : Value} {xs : List Value} (h : Byts w base v n xs) (k : Below w.heap.size w w') : Byts w' base v n xs := h.kept (Kept.of_below k) (fun _ _ h => by cases h)
theorem Byts.alloc {w : World} {base n : Nat} {v : Value} {xs : List Value} (h : Byts w base v n xs) (o : Obj) : Byts (w.alloc o) base v n xs := h.then_ (below_alloc (Below.refl _ _) o)
theorem Byts.lt {w : World} {base n : Nat} {v : Value} {xs : List Value} (h : Byts w base v n xs) : ∀ g, v.ownBlock = some g → base ≤ g ∧ g < w.heap.size := by
  obtain ⟨_, g, cap, rfl, hb, hl, _⟩ := h
  intro k hk
  obtain rfl : g = k := by simpa [Value.ownBlock] using hk
  exact ⟨hb, hl⟩
theorem Byts.of_string (w : World) (e : TypeId) (s : ByteArray) (hs : s.size ≤ maxLen) : Byts (Lib.bytesWorld w e s) w.heap.size (.slice (some ⟨w.heap.size, 0, none⟩) s.size (grownCap w s.size 0 e)) s.size (s.data.toList.map fun b => Value.int .u8 (b.toNat : Int)) := by
  have h0 := Lib.bytesWorld_at_new w e s
  have hge := grownCap_ge w s.size 0 e
  have hsz : (Lib.bytesCells w e s).size = grownCap w s.size 0 e := by
    simp only [Lib.bytesCells, Array.size_append, Array.size_map, Array.size_replicate]
    show s.size + _ = _
    omega
  refine ⟨by rw [List.length_map, Array.length_toList]; rfl, w.heap.size, _, rfl, Nat.le_refl _, by rw [Lib.bytesWorld_size]; omega, hge, grownCap_le_maxLen w s.size 0 e hs, fun j u hj => ?_, fun j h1 h2 => ⟨?_, ?_⟩⟩
  · have hl : j < s.size := by
      have := (List.getElem?_eq_some_iff.1 hj).1
      rwa [List.length_map, Array.length_toList] at this
    rw [Lib.bytesWorld_cell w e s j hl, ← hj]
    simp [List.getD, hl]
  · simp only [World.cell?, h0]
    rw [Array.getElem?_eq_getElem (by omega)]
    rfl
  · simp only [World.frozen?, h0]
    simp
    omega
theorem run_append_byts {P : Program} {w : World} (t ty e : TypeId) (i : TypeInfo) (z : Value) (ht : P.underlying t = some (.slice e)) (hi : P.info? e = some i) (hz : i.zero = some z)
    (hsize : i.size = 1) (hby : i.bytes = 1) (hzs : z.cells.size = 1) {base n : Nat} {v : Value} {xs : List Value} (h : Byts w base v n xs)
    (a : Addr) (c : Nat) (x : Value) (hx : w.cell? (a.add 0) = some x) (h1 : x.oneCell' = true) (h63 : n + 1 ≤ 70368744177664) (hbase : base ≤ w.heap.size) :
    ∃ v' w', (Builtin.append_ #[t, t] ty #[v, .slice (some a) 1 c]).run P w = .ok v' w' ∧ Byts w' base v' (n + 1) (xs ++ [x]) ∧ Kept v.ownBlock.toList w w' := by
  obtain ⟨h0, g, cap, rfl, hb, hl, hnc, hcm, h3, h4⟩ := h
  have hlen : (xs ++ [x]).length = n + 1 := by rw [List.length_append, h0]; rfl
  have hnews : ∀ j u, [x][j]? = some u → w.cell? (a.add j) = some u := fun j u hj => by
    have : j < 1 := (List.getElem?_eq_some_iff.1 hj).1
    obtain rfl : j = 0 := by omega
    rw [hx]; simpa using hj
  by_cases hroom : n + 1 ≤ cap
  · obtain ⟨h5, h6⟩ := h4 n (Nat.le_refl _) (by omega)
    have hf := run_firstCells_some (P := P) w i.size 1 a 1 c [x] (by rw [hsize]; rfl) hnews
    have z1 : ∀ j, j < [x].length → (w.cell? ⟨g, n + 0 + j, none⟩).isSome = true := fun j hj => by
      have hj1 : j < 1 := hj
      obtain rfl : j = 0 := by omega
      exact h5
    have z2 : ∀ j, j < [x].length → w.frozen? ⟨g, n + 0 + j, none⟩ = false := fun j hj => by
      have hj1 : j < 1 := hj
      obtain rfl : j = 0 := by omega
      exact h6
    have hst := run_storeCells_cells (P := P) g n [x] 0 w z1 z2 (fun u hu => by rw [List.mem_singleton.1 hu]; exact h1)
    simp only [hsize] at hf
    have hw : w.setCells g n [x] = w.setCell ⟨g, n, none⟩ x := rfl
    refine ⟨.slice (some ⟨g, 0, none⟩) (n + 1) cap, w.setCell ⟨g, n, none⟩ x, ?_, ⟨hlen, g, cap, rfl, hb, by simpa using hl, hroom, hcm, fun j u hj => ?_, fun j h7 h8 => ?_⟩, (Kept.refl _ _).setCell (.inl (by simp [Value.ownBlock])) _⟩
    · simp only [Nat.add_zero, hw] at hst
      simp [Builtin.append_, run_underlying ht, sizeOf, typeInfo, hi, Builtin.lenOf, hroom, hf, hsize, Addr.add_lit, hst]
    · by_cases hjn : j = n
      · subst hjn
        rw [List.getElem?_append_right (by omega), h0, Nat.sub_self] at hj
        obtain rfl : x = u := by simpa using hj
        obtain ⟨q, hq⟩ := Option.isSome_iff_exists.1 h5
        simp [go_sem, hq]
      · have hjl : j < n := by
          have := (List.getElem?_eq_some_iff.1 hj).1
          omega
        rw [List.getElem?_append_left (by omega)] at hj
        exact (World.cell?_setCell_other w _ _ x (fun e => hjn (by injection e; omega))).trans (h3 j u hj)
    · obtain ⟨h9, h10⟩ := h4 j (by omega) h8
      refine ⟨?_, (frozen_set w _ _ x).trans h10⟩
      rw [World.cell?_setCell_other w _ _ x (fun e => by injection e; omega)]
      exact h9
  · have holds : ∀ j u, xs[j]? = some u → w.cell? ((⟨g, 0, none⟩ : Addr).add j) = some u := fun j u hj => by rw [add0]; exact h3 j u hj
    have hr := run_append_grow (P := P) w t ty e i z ht hi hz ⟨g, 0, none⟩ n cap xs (by rw [hsize, h0, Nat.mul_one]) holds a 1 c [x] (by rw [hsize]; rfl) hnews (by omega) (by omega) (growslice_fits (by omega) (by rw [hby]; omega))
    have hge := grownCap_ge w (n + 1) cap e
    have hcm' : grownCap w (n + 1) cap e ≤ maxLen := grownCap_le_maxLen w (n + 1) cap e (by unfold maxLen; omega)
    have hcs : (xs.toArray ++ [x].toArray ++ Builtin.zeroCells z.cells (grownCap w (n + 1) cap e - (n + 1))).size = grownCap w (n + 1) cap e := by
      simp only [Array.size_append, List.size_toArray, h0, List.length_singleton]
      have : (Builtin.zeroCells z.cells (grownCap w (n + 1) cap e - (n + 1))).size = grownCap w (n + 1) cap e - (n + 1) := by simp [Builtin.zeroCells, hzs]
      omega
    obtain ⟨C, hC⟩ : ∃ C, xs.toArray ++ [x].toArray ++ Builtin.zeroCells z.cells (grownCap w (n + 1) cap e - (n + 1)) = C := ⟨_, rfl⟩
    have hC1 : ∀ j u, (xs ++ [x])[j]? = some u → C[j]? = some u := fun j u hj => by
      have hl := (List.getElem?_eq_some_iff.1 hj).1
      rw [← hC, Array.getElem?_append_left (by simpa using hl)]
      simpa using hj
    rw [hC] at hr hcs
    have hnew : (w.drew.alloc (.cells C e)).heap[w.heap.size]? = some (.cells C e (0, 0)) := heap_alloc_new w.drew _
    refine ⟨_, _, hr, ⟨hlen, w.heap.size, _, rfl, hbase, by simp, hge, hcm', fun j u hj => ?_, fun j h7 h8 => ⟨?_, ?_⟩⟩, (((Kept.refl _ w).drew).alloc _)⟩
    · rw [cell_of_row _ _ j C e (0, 0) hnew]; exact hC1 j u hj
    · rw [cell_of_row _ _ j C e (0, 0) hnew, Array.getElem?_eq_getElem (by omega)]; rfl
    · exact frozen_of_row _ _ j C e hnew
theorem wpList_append_byts {P : Program} {w : World} {ops : Array Oper} {rest : List Oper} {o : Oper} {A : Act} {Q : Exit → Act → World → Prop} (hgd : o.guard = none) (s x : Operand) (t : TypeId)
    (ho : o.op = .call { callee := .builtin .append, args := #[s, x], argTypes := #[t, t] }) (e : TypeId) (i : TypeInfo) (z : Value) (ht : P.underlying t = some (.slice e)) (hi : P.info? e = some i) (hz : i.zero = some z)
    (hsize : i.size = 1) (hby : i.bytes = 1) (hzs : z.cells.size = 1) {base n : Nat} {v : Value} {xs : List Value} (hs : A.eval s = v) (h : Byts w base v n xs)
    (ad : Addr) (c : Nat) (y : Value) (hx : A.eval x = .slice (some ad) 1 c) (hy : w.cell? (ad.add 0) = some y) (h1 : y.oneCell' = true) (h63 : n + 1 ≤ 70368744177664) (hbase : base ≤ w.heap.size)
    (hn : ∀ v' w', Byts w' base v' (n + 1) (xs ++ [y]) → Kept v.ownBlock.toList w w' → wpList P ops Q rest (A.put o.dst v') w') : wpList P ops Q (o :: rest) A w := by
  refine wpList_plain hgd fun K hK => ?_
  obtain ⟨v', w', hr, h2, h3⟩ := run_append_byts (P := P) t o.type e i z ht hi hz hsize hby hzs h ad c y hy h1 h63 hbase
  unfold Oper.wp execOp
  simp only [ho, resolve, invoke, builtin, Sem.run_bind, Sem.run_pure, Result.andThen_ok, List.map_toArray, List.map_cons, List.map_nil, hs, hx, hr]
  exact hK _ _ (hn v' w' h2 h3)
end Go.Proofs.YtnjkinljpekohaaGreatDoor
namespace Go.Proofs.YtnjkinljpekohaaGreatDoor
open Go.RowKit

/-- the record of a loop over a function -/
def loopRec (fn : FuncId) (tmps : Array Value) (ps : Array Tmp) (assign body : Code) (D : Nat) (st : LoopState) (pe : Option Code) : Obj :=
  .loop { state := st, pending := pe, fn := fn, tmps := tmps, params := ps, assign := assign, body := body, defers := D }
theorem loopRec_cells {fn : FuncId} {tmps : Array Value} {ps : Array Tmp} {assign body : Code} {D : Nat} {st : LoopState} {pe : Option Code} : (loopRec fn tmps ps assign body D st pe).isCells = false := rfl

/-- how a round may be left, and what is owed then -/
def roundEnd (l : Nat) (rec : LoopState → Option Code → Obj) (R : Ending → World → Prop) : Exit → Act → World → Prop
  | .normal, _, W => W.heap[l]? = some (rec .busy none) ∧ R (.returned (.bool true)) (W.putObj l (rec .ready none))
  | .ret, _, W => W.heap[l]? = some (rec .busy none) ∧ R (.returned (.bool false)) (W.putObj l (rec .done (some .ret)))
  | .exit id, _, W => W.heap[l]? = some (rec .busy none) ∧ R (.returned (.bool false)) (W.putObj l (rec .done (some (.exit id))))
  | .goto t, _, W => W.heap[l]? = some (rec .busy none) ∧ R (.returned (.bool false)) (W.putObj l (rec .done (some (.goto t))))
  | .panic _, _, _ => False
  | .outgrown, _, _ => False

/-- one call of yield, from the walks of the assignment and the body -/
theorem yield_round {F : Fence} {m : Nat} {P : Program} {l : Nat} {fn : FuncId} {tmps : Array Value} {ps : Array Tmp} {assign body : Code} {D : Nat} {W : World} {args : Array Value} {R : Ending → World → Prop}
    {rec : LoopState → Option Code → Obj} (hrec : rec = loopRec fn tmps ps assign body D) (hfn : F.fn fn) (hl : W.heap[l]? = some (rec .ready none)) (hs : args.size = ps.size)
    (h : assign.wpIn (F.inRound l) m P (Exit.then (fun a₁ W1 => W1.heap[l]? = some (rec .ready none) ∧
      body.wpIn (F.inRound l) m P (roundEnd l rec R) a₁ (W1.putObj l (rec .busy none))) (fun _ _ _ => False))
      { tmps := (ps.zip args).foldl (fun t (p, v) => t.setIfInBounds p v) tmps, defers := [] } W) : YieldAt F m P l args W R := by
  subst hrec
  refine ⟨fn, _, assign, body, run_yield hl hs, roundIn_of_wpIn hfn (wpIn_mono h ?_)⟩
  intro e a1 W1 hp
  cases e with
  | normal =>
    obtain ⟨hl1, hb⟩ := hp
    refine ⟨_, run_beginRound hl1 rfl, wpIn_mono hb ?_⟩
    intro e2 a2 W2 hq
    have fin : ∀ jump : Option Code, W2.heap[l]? = some (loopRec fn tmps ps assign body D .busy none) →
        (Instr.endRound l jump).run P W2 = .ok (.bool jump.isNone) (W2.putObj l (loopRec fn tmps ps assign body D (if jump.isNone then .ready else .done) jump)) :=
      fun jump hj => run_endRound jump hj
    cases e2 with
    | normal => exact ⟨_, _, fin none hq.1, hq.2⟩
    | ret => exact ⟨_, _, fin (some .ret) hq.1, hq.2⟩
    | exit id => exact ⟨_, _, fin (some (.exit id)) hq.1, hq.2⟩
    | goto t => exact ⟨_, _, fin (some (.goto t)) hq.1, hq.2⟩
    | panic c => exact hq.elim
    | outgrown => exact hq.elim
  | ret => exact hp.elim
  | exit id => exact hp.elim
  | goto t => exact hp.elim
  | panic c => exact hp.elim
  | outgrown => exact hp.elim

theorem rec_cells {rec : LoopState → Option Code → Obj} {fn : FuncId} {tmps : Array Value} {ps : Array Tmp} {assign body : Code} {D : Nat} (hrec : rec = loopRec fn tmps ps assign body D) (st : LoopState) (pe : Option Code) :
    (rec st pe).isCells = false := by subst hrec; rfl

/-- what the function that is ranged over must come to -/
def rangeEnd (l : Nat) (rec : LoopState → Option Code → Obj) (Qn : World → Prop) (Qj : Code → World → Prop) (e : Ending) (W : World) : Prop :=
  (∃ v, e = .returned v) ∧ ((W.heap[l]? = some (rec .ready none) ∧ Qn (W.putObj l (rec .exhausted none))) ∨
    ∃ c, W.heap[l]? = some (rec .done (some c)) ∧ Qj c (W.putObj l (rec .exhausted (some c))))

/-- the statement, in a function's own body -/
theorem range_outer {P : Program} {g : Operand} {ps : Array Tmp} {assign body : Code} {Q : Exit → Act → World → Prop} {a : Act} {w : World} {n gf : Nat} {lb : Array Value}
    (hg : a.eval g = .func (.func gf) #[] lb) (eg : ∀ args w, (callFunc gf args).run P w = .ok (.enter gf args) w)
    (h : ∀ fn rec, rec = loopRec fn a.tmps ps assign body w.heap.size → CallsIn Fence.wide (n - 1) P gf (#[.func (.yield (w.heap.size + 1)) #[] #[]] ++ lb)
      ((w.alloc (.deferred (some []))).alloc (rec .ready none))
      (rangeEnd (w.heap.size + 1) rec
        (Q .normal { a with defers := { target := .collected w.heap.size, args := #[] } :: a.defers })
        (fun c W => c.wp P Q { a with defers := { target := .collected w.heap.size, args := #[] } :: a.defers } W))) :
    (Code.rangeFunc g ps assign body).wp P Q a w := by
  refine (wpIn_wide (n := n)).1 ?_
  refine wpIn_rangeFunc ?_
  intro fn hfn
  have h' := h fn _ rfl
  obtain ⟨W1, hW1⟩ : ∃ W1, (w.alloc (.deferred (some []))).alloc (loopRec fn a.tmps ps assign body w.heap.size .ready none) = W1 := ⟨_, rfl⟩
  rw [hW1] at h'
  refine ⟨w.heap.size + 1, [{ target := .collected w.heap.size, args := #[] }], W1, { target := .fn (.func gf) lb, args := #[.func (.yield (w.heap.size + 1)) #[] #[]] }, W1, gf,
    #[.func (.yield (w.heap.size + 1)) #[] #[]] ++ lb, W1, ?_, ?_, ?_, ?_, ?_, ?_⟩
  · rw [← hW1]; exact run_enterLoop_outer _ _ _ _ _
  · simp only [resolve, hg]; simp [go_sem]
  · exact fun _ _ => True.intro
  · simp [invoke, go_sem, eg]
  · exact fun hd => by simp [Fence.wide] at hd
  refine h'.mono ?_
  rintro e W' ⟨⟨v, rfl⟩, hh⟩
  rcases hh with hh | hh
  · obtain ⟨hl, hq⟩ := hh
    refine ⟨none, W'.putObj (w.heap.size + 1) (loopRec fn a.tmps ps assign body w.heap.size .exhausted none), ?_, ?_⟩
    · exact run_endLoop hl (by simp)
    · exact hq
  · obtain ⟨c, hl, hq⟩ := hh
    refine ⟨some c, W'.putObj (w.heap.size + 1) (loopRec fn a.tmps ps assign body w.heap.size .exhausted (some c)), ?_, ?_⟩
    · exact run_endLoop hl (by simp)
    · exact wpIn_wide.2 hq

/-- the statement, in a round of another loop -/
theorem range_inner {P : Program} {g : Operand} {ps : Array Tmp} {assign body : Code} {Q : Exit → Act → World → Prop} {a : Act} {w : World} {n gf l₀ : Nat} {lb : Array Value}
    {fn₀ : FuncId} {tmps₀ : Array Value} {ps₀ : Array Tmp} {assign₀ body₀ : Code} {D₀ : Nat} {st₀ : LoopState} {pe₀ : Option Code} (hl₀ : w.heap[l₀]? = some (loopRec fn₀ tmps₀ ps₀ assign₀ body₀ D₀ st₀ pe₀))
    (hg : a.eval g = .func (.func gf) #[] lb) (eg : ∀ args w, (callFunc gf args).run P w = .ok (.enter gf args) w)
    (h : ∀ fn rec, rec = loopRec fn a.tmps ps assign body D₀ → CallsIn Fence.wide (n - 1) P gf (#[.func (.yield w.heap.size) #[] #[]] ++ lb)
      (w.alloc (rec .ready none))
      (rangeEnd w.heap.size rec (Q .normal a) (fun c W => c.wpIn (Fence.wide.inRound l₀) n P Q a W))) :
    (Code.rangeFunc g ps assign body).wpIn (Fence.wide.inRound l₀) n P Q a w := by
  refine wpIn_rangeFunc ?_
  intro fn hfn
  have h' := h fn _ rfl
  obtain ⟨W1, hW1⟩ : ∃ W1, w.alloc (loopRec fn a.tmps ps assign body D₀ .ready none) = W1 := ⟨_, rfl⟩
  rw [hW1] at h'
  refine ⟨w.heap.size, [], W1, { target := .fn (.func gf) lb, args := #[.func (.yield w.heap.size) #[] #[]] }, W1, gf,
    #[.func (.yield w.heap.size) #[] #[]] ++ lb, W1, ?_, ?_, ?_, ?_, ?_, ?_⟩
  · rw [← hW1]; exact run_enterLoop_inner hl₀ _ _ _ _ _
  · simp only [resolve, hg]; simp [go_sem]
  · exact fun _ _ => True.intro
  · simp [invoke, go_sem, eg]
  · exact fun hd => by simp [Fence.wide, Fence.inRound] at hd
  refine CallsIn.inRound l₀ ?_
  refine h'.mono ?_
  rintro e W' ⟨⟨v, rfl⟩, hh⟩
  rcases hh with hh | hh
  · obtain ⟨hl, hq⟩ := hh
    refine ⟨none, W'.putObj w.heap.size (loopRec fn a.tmps ps assign body D₀ .exhausted none), ?_, ?_⟩
    · exact run_endLoop hl (by simp)
    · exact hq
  · obtain ⟨c, hl, hq⟩ := hh
    refine ⟨some c, W'.putObj w.heap.size (loopRec fn a.tmps ps assign body D₀ .exhausted (some c)), ?_, ?_⟩
    · exact run_endLoop hl (by simp)
    · exact hq

/-- a function's contract from its body, where the body holds a range over a function -/
theorem calls_of_wp_marks {P : Program} {f : FuncId} {fn : Func} {c : Code} {args : Array Value} {w : World} {R : Ending → World → Prop}
    (hf : P.funcs[f]? = some fn) (hb : fn.body = some c)
    (h : c.wp P (bodyPostM Fence.wide 0 P fn R) { tmps := args ++ Array.replicate (fn.ntmps - args.size) undef, defers := [] } w) : Calls P f args w R :=
  (callsIn_wide (n := 0)).1 (callsIn_of_wp_marks hf hb trivial (wpIn_wide.2 h))

/-- what a return owes behind such a loop: the block for deferred calls is shut -/
theorem leaves_marked {P : Program} {fn : Func} {tmps : Array Value} {R : Ending → World → Prop} {D : Nat} {W : World} {v : Value}
    (hD : W.heap[D]? = some (.deferred (some []))) (hr : (results fn tmps).run P (W.putObj D (.deferred none)) = .ok v (W.putObj D (.deferred none)))
    (hR : R (.returned v) (W.putObj D (.deferred none))) : LeavesInM Fence.wide 0 P fn tmps R [{ target := .collected D, args := #[] }] .returning W :=
  ⟨by simp, .inl ⟨D, _, rfl, run_takeDeferred hD, v, hr, hR⟩⟩

/-! what lies on through a change of a block that is no cells -/
theorem below_putObj {B : Nat} {a W : World} (h : Below B a W) {l : Nat} (hl : B ≤ l) (o : Obj) : Below B a (W.putObj l o) :=
  h.trans ⟨rfl, rfl, rfl, by simp, fun k hk => World.putObj_heap_other (by omega)⟩
theorem boxed_putObj {W : World} {B l : Nat} {t : TypeId} {v : Value} (h : Boxed W B t v) (hne : B ≠ l) (o : Obj) : Boxed (W.putObj l o) B t v :=
  (World.putObj_heap_other hne).trans h
theorem heap_putObj {W : World} {b l : Nat} {x : Obj} (h : W.heap[b]? = some x) (hne : b ≠ l) (o : Obj) : (W.putObj l o).heap[b]? = some x :=
  (World.putObj_heap_other hne).trans h
theorem heap_alloc {W : World} {b : Nat} {x : Obj} (h : W.heap[b]? = some x) (o : Obj) : (W.alloc o).heap[b]? = some x :=
  (Below.heap_alloc W o b (Array.getElem?_eq_some_iff.1 h).1).trans h
theorem heap_setCell {W : World} {b : Nat} {x : Obj} {p : Addr} (h : W.heap[b]? = some x) (hne : b ≠ p.block) (u : Value) : (W.setCell p u).heap[b]? = some x :=
  (Below.heap_setCell W p u b hne).trans h
theorem heap_below {B : Nat} {W W' : World} {b : Nat} {x : Obj} (h : W.heap[b]? = some x) (hb : Below B W W') (hlt : b < B) : W'.heap[b]? = some x :=
  (hb.block b hlt).trans h
theorem heap_lt {W : World} {b : Nat} {x : Obj} (h : W.heap[b]? = some x) : b < W.heap.size := (Array.getElem?_eq_some_iff.1 h).1
theorem heap_put {W : World} {b : Nat} {x : Obj} (h : W.heap[b]? = some x) (o : Obj) : (W.putObj b o).heap[b]? = some o := World.putObj_heap_same (heap_lt h)
end Go.Proofs.YtnjkinljpekohaaGreatDoor
namespace Go.Proofs.YtnjkinljpekohaaGreatDoor
open Go.RowKit Sha
attribute [local go_sem] Oper.semAt_some
theorem chunk_any (A : Option Addr) (n c : Nat) (w : World) : Calls Tryz.prog 138 #[.slice A n c, .int .i64 64] w fun e w' => e = .returned (.func (.func 145) #[] #[.pointer (some ⟨w.heap.size, 0, none⟩), .pointer (some ⟨w.heap.size + 1, 0, none⟩)]) ∧ (w.alloc (.cells #[.slice A n c] 53)).alloc (.cells #[.int .i64 64] 3) = w' := by
  go_enter Tryz.func138, Tryz.ntmps138
  go_wp2
  go_ret
  exact ⟨rfl, rfl⟩
set_option maxRecDepth 100000 in
set_option maxHeartbeats 1000000 in
theorem chunk_in (l Bs Bn g cap nb : Nat) (J : Nat → World → Prop) (hcap : 64 * nb ≤ cap) (hmax : cap ≤ maxLen)
    (hJ : ∀ k W, J k W → W.cell? ⟨Bs, 0, none⟩ = some (.slice (some ⟨g, 0, none⟩) (64 * nb) cap) ∧ W.cell? ⟨Bn, 0, none⟩ = some (.int .i64 64)) (hD : ∀ k W n, J k W → J k (W.drewN n))
    (hY : ∀ k W, k < nb → J k W → YieldAt Fence.wide 0 Tryz.prog l #[.slice (some ⟨g, 64 * k, none⟩) 64 64] W (fun e W' => e = .returned (.bool true) ∧ J (k + 1) W'))
    (W : World) (h0 : J 0 W) :
    CallsIn Fence.wide 0 Tryz.prog 145 #[.func (.yield l) #[] #[], .pointer (some ⟨Bs, 0, none⟩), .pointer (some ⟨Bn, 0, none⟩)] W fun e W' => (∃ v, e = .returned v) ∧ J nb W' := by
  unfold maxLen at hmax
  have HJ := Lib.hid hJ
  have HY := Lib.hid hY
  have HD := Lib.hid hD
  clear hD
  refine callsIn_of_wp Tryz.func145 rfl trivial ?_ rfl
  simp only [Tryz.ntmps145, List.size_toArray, List.length_cons, List.length_nil, Nat.reduceAdd, Nat.reduceSub, Array.replicate_succ, Array.replicate_zero, List.push_toArray, List.append_toArray, List.nil_append, List.cons_append]
  gi_wp2
  gi_loopw [4] (fun i wr => ∃ k : Nat, k ≤ nb ∧ i = .int .i64 (64 * (k : Int)) ∧ J k wr) (fun i _ => 64 * nb - (intOf i).toNat)
  case atStart => exact ⟨0, Nat.zero_le _, rfl, h0⟩
  case round =>
    obtain ⟨k, hk, rfl, hJk⟩ := hrel
    obtain ⟨c0, c1⟩ := hJ k wr hJk
    by_cases hlt : k < nb
    · have i0 : (0 : Int) ≤ 64 * (k : Int) := by omega
      have i1 : 64 * (k : Int) < 64 * (nb : Int) := by omega
      have i2 : 64 * (k : Int) ≤ 64 * (nb : Int) := by omega
      have i3 : 64 * (k : Int) + 64 ≤ 64 * (nb : Int) := by omega
      have i4 : 64 * (k : Int) + 64 ≤ (cap : Int) := by omega
      clear hJ hY
      have HJk := Lib.hid hJk
      have i5 : 64 * (k : Int) < (cap : Int) := by omega
      have i6 : 64 * k < cap := by omega
      gi_wp2
      gi_quiet (fail)
      obtain ⟨W2, hW2⟩ : ∃ W2, wr.drewN nq = W2 := ⟨_, rfl⟩
      have hJ2 := HD.out k wr nq HJk.out
      rw [hW2] at hJ2
      obtain ⟨d0, d1⟩ := HJ.out k W2 hJ2
      obtain ⟨fn, tmps, assign, body, hy1, hR⟩ := HY.out k W2 hlt hJ2
      rw [hW2]
      clear hW2 c0 c1 hJk hJ2
      gi_wp2
      refine ⟨rfl, hR.mono ?_⟩
      rintro e W3 ⟨rfl, hJ3⟩
      obtain ⟨e0, e1⟩ := HJ.out (k + 1) W3 hJ3
      clear hy1 hR d0 d1
      gi_wp2
      exact ⟨⟨k + 1, by omega, by go_num, hJ3⟩, by simp [intOf]; omega⟩
    · obtain rfl : k = nb := by omega
      clear hJ hY
      gi_wp2
      go_end0
      exact ⟨⟨_, rfl⟩, hJk⟩
end Go.Proofs.YtnjkinljpekohaaGreatDoor
namespace Go.Proofs.YtnjkinljpekohaaGreatDoor
open Go.RowKit Sha
attribute [local go_sem] Oper.semAt_some
theorem u8_infosD : (Tryz.prog.info? 5).map (fun i => (i.zero, i.size, i.bytes)) = some (some (.int .u8 0), 1, 1) := by kernel_rfl
/-- the bytes of a string -/
def nbs (s : ByteArray) : List Nat := s.data.toList.map UInt8.toNat
theorem nbs_length (s : ByteArray) : (nbs s).length = s.size := by rw [nbs, List.length_map, Array.length_toList]; rfl
theorem nbs_lt (s : ByteArray) : ∀ x ∈ nbs s, x < 256 := fun x hx => by
  obtain ⟨b, _, rfl⟩ := List.mem_map.1 hx
  exact b.toNat_lt
/-- the digest of a string -/
def sumS (s : ByteArray) : ByteArray := strN (sumN (nbs s))
theorem conv_str (w : World) (s : ByteArray) (hs : s.size ≤ 1000000) : ∃ (W : World) (c : Nat), (convert 9 53 (.string s)).run Tryz.prog w = .ok (.slice (some ⟨w.heap.size, 0, none⟩) s.size c) W ∧ Byts W w.heap.size (.slice (some ⟨w.heap.size, 0, none⟩) s.size c) s.size (uvs (nbs s)) ∧ Below w.heap.size w W := by
  refine ⟨_, _, Lib.run_convert_string_bytes w 9 53 5 s Tryz.underlying9 Tryz.underlying53 Tryz.underlying5, ?_, Joins.below_bytesWorld _ w _ s (Nat.le_refl _)⟩
  have h := Byts.of_string w 5 s (by unfold maxLen; omega)
  have e : uvs (nbs s) = s.data.toList.map fun b => Value.int .u8 (b.toNat : Int) := by simp [uvs, nbs, List.map_map, Function.comp_def]
  rw [e]
  exact h
def sliceLen : Value → Nat
  | .slice _ n _ => n
  | _ => 0
theorem Byts.val {w : World} {base n : Nat} {v : Value} {xs : List Value} (h : Byts w base v n xs) : ∃ g c, v = .slice (some ⟨g, 0, none⟩) n c ∧ base ≤ g ∧ n ≤ c ∧ c ≤ maxLen := by
  obtain ⟨_, g, cap, rfl, hb, _, h1, h2, _⟩ := h
  exact ⟨g, cap, rfl, hb, h1, h2⟩
/-- a string's bytes, and what is laid behind them first -/
theorem len8_get (n k : Nat) (hk : k < 8) : (len8 n).getD k 0 = 8 * n / 2 ^ (8 * (7 - k)) % 256 := by
  rcases (show k = 0 ∨ k = 1 ∨ k = 2 ∨ k = 3 ∨ k = 4 ∨ k = 5 ∨ k = 6 ∨ k = 7 by omega) with rfl | rfl | rfl | rfl | rfl | rfl | rfl | rfl <;> first | rfl | exact congrArg (· % 256) (Nat.div_one _).symm
def padTo (s : ByteArray) (m : Nat) : List Nat := nbs s ++ [128] ++ List.replicate (m - s.size - 1) 0
theorem ext_pad (s : ByteArray) : padTo s (s.size + 1 + zeros s.size) ++ len8 s.size = ext (nbs s) := by
  rw [padTo, ext, nbs_length, show s.size + 1 + zeros s.size - s.size - 1 = zeros s.size by omega]
theorem padTo_next (s : ByteArray) {m : Nat} (h : s.size + 1 ≤ m) : padTo s m ++ [0] = padTo s (m + 1) := by
  rw [padTo, padTo, List.append_assoc, show m + 1 - s.size - 1 = (m - s.size - 1) + 1 by omega, List.replicate_succ']
theorem uvs_append (a b : List Nat) : uvs (a ++ b) = uvs a ++ uvs b := List.map_append
theorem iterB_snoc {α : Type} (f : α → List Nat → α) : ∀ (k : Nat) (b : List Nat) (h : α), iterB f (k + 1) b h = f (iterB f k b h) ((b.drop (64 * k)).take 64)
  | 0, b, h => by simp [iterB]
  | k + 1, b, h => by
    have e := iterB_snoc f k (b.drop 64) (f h (b.take 64))
    rw [List.drop_drop, show 64 + 64 * k = 64 * (k + 1) by omega] at e
    rw [iterB, e]; rfl
theorem blks_run (B : List Nat) (nb : Nat) : ∃ St : Nat → V, St 0 = iv ∧ (∀ k, St (k + 1) = addB (St k) ((B.drop (64 * k)).take 64)) ∧ (∀ k, VB (St k)) ∧ blks nb B iv = St nb := by
  refine ⟨fun k => iterB addB k B iv, rfl, fun k => iterB_snoc addB k B iv, fun k => ?_, rfl⟩
  cases k with
  | zero => exact VB.iv
  | succ k =>
    show VB (iterB addB (k + 1) B iv)
    rw [iterB_snoc]
    exact VB.addV _ _
theorem ext_length (l : List Nat) : (ext l).length = l.length + 1 + zeros l.length + 8 := by
  have : (len8 l.length).length = 8 := rfl
  rw [ext, List.length_append, List.length_append, List.length_append, List.length_replicate, List.length_singleton, this]
theorem ext_blocks (l : List Nat) : (ext l).length = 64 * ((ext l).length / 64) := by
  rw [ext_length]; unfold zeros; omega
theorem ext_lt (l : List Nat) (h : ∀ x ∈ l, x < 256) : ∀ x ∈ ext l, x < 256 := by
  intro x hx
  simp only [ext, List.mem_append, List.mem_replicate, len8, List.mem_cons, List.not_mem_nil, or_false] at hx
  rcases hx with ((hx | rfl) | ⟨_, rfl⟩) | hx
  · exact h x hx
  · decide
  · decide
  · rcases hx with rfl | rfl | rfl | rfl | rfl | rfl | rfl | rfl <;> exact Nat.mod_lt _ (by decide)
theorem chunk_at {W : World} {g : Nat} {B : List Nat} {k nb : Nat} (h : BytesAt W g 0 B) (hl : B.length = 64 * nb) (hk : k < nb) : BytesAt W g (64 * k) ((B.drop (64 * k)).take 64) ∧ ((B.drop (64 * k)).take 64).length = 64 := by
  have h2 : ((B.drop (64 * k)).take 64).length = 64 := by rw [List.length_take, List.length_drop]; omega
  refine ⟨fun j hj => ?_, h2⟩
  rw [h2] at hj
  have := h (64 * k + j) (by omega)
  rw [Nat.zero_add] at this
  rw [this]
  simp [List.getD, hj]
theorem mem_chunk {B : List Nat} {a b : Nat} (h : ∀ x ∈ B, x < 256) : ∀ x ∈ (B.drop a).take b, x < 256 := fun x hx => h x (List.mem_of_mem_drop (List.mem_of_mem_take hx))
theorem cell_putObj' {W : World} {a : Addr} {v : Value} (h : W.cell? a = some v) {l : Nat} (hne : a.block ≠ l) (o : Obj) : (W.putObj l o).cell? a = some v :=
  (World.cell?_of_block (World.putObj_heap_other hne)).trans h
theorem hlt' {t : TypeId} {W : World} {g : Nat} {L : List Nat} (h : RowW t W g L) : g < W.heap.size := (Array.getElem?_eq_some_iff.1 h).1
theorem bytesAt_putObj {W : World} {g o : Nat} {B : List Nat} (h : BytesAt W g o B) {l : Nat} (hne : g ≠ l) (x : Obj) : BytesAt (W.putObj l x) g o B := fun j hj => cell_putObj' (h j hj) hne x
theorem roundIn_putObj {W : World} (h : RoundIn W) {l : Nat} (hne : 4 ≠ l) (x : Obj) : RoundIn (W.putObj l x) := ⟨by simpa using h.1, fun k hk => cell_putObj' (h.2 k hk) hne x⟩
theorem rowW_putObj {t : TypeId} {W : World} {g : Nat} {L : List Nat} (h : RowW t W g L) {l : Nat} (hne : g ≠ l) (x : Obj) : RowW t (W.putObj l x) g L := heap_putObj h hne x
theorem BytesAt.of_byts {W : World} {base g c : Nat} {n : Nat} {B : List Nat} (h : Byts W base (.slice (some ⟨g, 0, none⟩) n c) n (uvs B)) : BytesAt W g 0 B := by
  obtain ⟨h0, g', cap, hv, _, _, _, _, h1, _⟩ := h
  injection hv with e1 e2 e3
  injection e1 with e1
  injection e1 with e1
  subst e1
  intro j hj
  rw [Nat.zero_add]
  exact h1 j _ (by simp [uvs, List.getD, hj])
/-- the state of the loop over the blocks -/
structure SumJ (w : World) (St : Nat → V) (B : List Nat) (g cap nb Bs D : Nat) (rec : LoopState → Option Code → Obj) (k : Nat) (W : World) : Prop where
  row : RowW 206 W w.heap.size (vl (St k))
  bx : W.cell? ⟨Bs, 0, none⟩ = some (.slice (some ⟨g, 0, none⟩) (64 * nb) cap)
  bn : W.cell? ⟨Bs + 1, 0, none⟩ = some (.int .i64 64)
  bytes : BytesAt W g 0 B
  rnd : RoundIn W
  below : Below w.heap.size w W
  loop : W.heap[D + 1]? = some (rec .ready none)
  dfr : W.heap[D]? = some (.deferred (some []))
set_option maxRecDepth 100000 in
set_option maxHeartbeats 4000000 in
theorem sum_any (s : ByteArray) (w : World) (hs : s.size ≤ 1000000) (hK : RoundIn w) :
    Calls Tryz.prog 125 #[.string s] w fun e w' => e = .returned (.string (sumS s)) ∧ Below w.heap.size w w' := by
  obtain ⟨i0, hi, hz0, hz1, hz2⟩ := info_parts u8_infosD
  have HI := Lib.hid hi
  have HZ := Lib.hid hz0
  have HZ1 := Lib.hid hz1
  have HZ2 := Lib.hid hz2
  have HKK := Lib.hid hK
  clear hi hz0 hz1 hz2 hK
  obtain ⟨W0, hW0⟩ : ∃ W, w.alloc (.cells (wvs (vl iv)).toArray 206) = W := ⟨_, rfl⟩
  have hs0 : W0.heap.size = w.heap.size + 1 := by rw [← hW0]; simp
  have B0 : Below w.heap.size w W0 := by rw [← hW0]; exact below_alloc (Below.refl _ _) _
  have R0 : RowW 206 W0 w.heap.size (vl iv) := by rw [← hW0]; exact heap_alloc_new _ _
  have hz : (wvs (vl iv)).toArray = #[.int .u32 1779033703, .int .u32 3144134277, .int .u32 1013904242, .int .u32 2773480762, .int .u32 1359893119, .int .u32 2600822924, .int .u32 528734635, .int .u32 1541459225] := rfl
  rw [hz] at hW0
  obtain ⟨W1, c1, hcv, hby, hb1⟩ := conv_str W0 s hs
  rw [hs0] at hcv hby
  have HBY := Lib.hid hby
  have HB1 := Lib.hid hb1
  have HB0 := Lib.hid B0
  have HR0 := Lib.hid R0
  have HS0 := Lib.hid hs0
  clear hby hb1 B0 R0 hz hs0
  refine calls_of_wp_marks Tryz.func125 rfl ?_
  simp only [Tryz.ntmps125, List.size_toArray, List.length_cons, List.length_nil, Nat.reduceAdd, Nat.reduceSub, Array.replicate_succ, Array.replicate_zero, List.push_toArray, List.append_toArray, List.nil_append, List.cons_append]
  go_wp2_with (at_builtin; refine wpList_append_byts rfl _ _ 53 rfl 5 i0 (.int .u8 0) Tryz.underlying53 HI.out HZ.out HZ1.out HZ2.out rfl rfl (HBY.out.alloc _) ⟨W1.heap.size, 0, none⟩ 1 (.int .u8 128) rfl ?c1 rfl (by omega) ?c2 ?c3)
  case c1 => simp [go_sem]
  case c2 => have := HB1.out.size; have := HS0.out; simp; omega
  case c3 =>
    intro v' w2 hb2 k2
    have HBY2 := Lib.hid hb2
    have B2 : Below w.heap.size w w2 := (k2.below_next (B := w.heap.size) (below_alloc (below_next HB0.out HB1.out) _) (by have := HB1.out.size; have := HS0.out; simp; omega) (fun k hk => by
      have e : some (w.heap.size + 1) = some k := own_mem hk
      injection e with e
      omega))
    have R2 : RowW 206 w2 w.heap.size (vl iv) := ((HR0.out.then_ HB1.out).then_ (below_alloc (Below.refl _ _) _)).kept k2 (by simp [Value.ownBlock])
    have HB2 := Lib.hid B2
    have HR2 := Lib.hid R2
    clear hb2 k2 B2 R2 hcv hW0 HBY HB1 HB0 HR0
    go_wp2_with fail
    go_loopw [4] (fun v wr => ∃ m : Nat, s.size + 1 ≤ m ∧ m ≤ s.size + 1 + zeros s.size ∧ Byts wr (w.heap.size + 1) v m (uvs (padTo s m)) ∧ Below w.heap.size w wr ∧ RowW 206 wr w.heap.size (vl iv)) (fun v _ => s.size + 1 + zeros s.size - sliceLen v)
    case atStart =>
      refine ⟨s.size + 1, by omega, by omega, ?_, HB2.out, HR2.out⟩
      have e : padTo s (s.size + 1) = nbs s ++ [128] := by simp [padTo]
      rw [e, uvs_append]
      exact HBY2.out
    case round =>
      obtain ⟨m, hm1, hm2, hby, hB, hR⟩ := hrel
      obtain ⟨g, c, rfl, hg, hc1, hc2⟩ := hby.val
      have HBY3 := Lib.hid hby
      have HB3 := Lib.hid hB
      have HR3 := Lib.hid hR
      clear hby hB hR HBY2 HB2 HR2
      have hzz : zeros s.size ≤ 63 := by unfold zeros; omega
      by_cases hd : m % 64 = 56
      · have h1 : (((m : Nat) : Int) % 64 != 56) = false := by simp; omega
        have HD := Lib.hid hd
        clear hd
        go_wp2_with fail
        have hm : m = s.size + 1 + zeros s.size := by
          have := HD.out
          unfold zeros at hm2 ⊢
          omega
        have HM := Lib.hid hm
        have L8 := Lib.hid (len8_get s.size)
        have LL : Hid ((len8 s.size).length = 8) := rfl
        obtain ⟨T, hT⟩ : ∃ T, len8 s.size = T := ⟨_, rfl⟩
        rw [hT] at L8 LL
        have HT := Lib.hid hT
        obtain ⟨Pd, hPd⟩ : ∃ P, padTo s m = P := ⟨_, rfl⟩
        rw [hPd] at HBY3
        have HPd := Lib.hid hPd
        clear hm hT hPd
        obtain ⟨wo, hwo⟩ : ∃ W, wr = W := ⟨_, rfl⟩
        rw [hwo] at HBY3 HB3 HR3 ⊢
        clear hwo
        have lm : m ≤ 1000064 := by omega
        go_loopw [4, 5] (fun v i wr => ∃ k : Nat, k ≤ 8 ∧ i = .int .i64 (7 - (k : Int)) ∧ Byts wr (w.heap.size + 1) v (m + k) (uvs (Pd ++ T.take k)) ∧ Below w.heap.size w wr ∧ RowW 206 wr w.heap.size (vl iv)) (fun _ i _ => (intOf i + 1).toNat)
        case atStart => exact ⟨0, by omega, rfl, by rw [List.take_zero, List.append_nil]; exact HBY3.out, HB3.out, HR3.out⟩
        case round =>
          obtain ⟨k, hk, rfl, hby, hB, hR⟩ := hrel
          obtain ⟨g5, c5, rfl, hg5, hc5, hc6⟩ := hby.val
          have HBY5 := Lib.hid hby
          have HB5 := Lib.hid hB
          have HR5 := Lib.hid hR
          clear hby hB hR HBY3 HB3 HR3
          by_cases hlt : k < 8
          · have i1 : (0 : Int) ≤ 7 - (k : Int) := by omega
            have i2 : (0 : Int) ≤ 8 * (7 - (k : Int)) := by omega
            have i3 : 8 * (7 - (k : Int)) ≤ 64 := by omega
            have i4 : (8 * (7 - (k : Int))).toNat = 8 * (7 - k) := by omega
            obtain ⟨V, hV⟩ : ∃ V, T.getD k 0 = V := ⟨_, rfl⟩
            have eV : 8 * ((s.size : Nat) : Int) / 2 ^ (8 * (7 - k)) % 256 = (V : Int) := by
              rw [← hV, L8.out k hlt, Int.natCast_emod, Int.natCast_ediv, Int.natCast_pow, Int.natCast_mul]; rfl
            have HV := Lib.hid hV
            clear hV
            go_wp2_with (at_builtin; refine wpList_append_byts rfl _ _ 53 rfl 5 i0 (.int .u8 0) Tryz.underlying53 HI.out HZ.out HZ1.out HZ2.out rfl rfl (HBY5.out.alloc _) ⟨wr.heap.size, 0, none⟩ 1 (.int .u8 (V : Int)) rfl ?f1 rfl (by omega) ?f2 ?f3)
            case f1 => simp [go_sem]
            case f2 => have := (HBY5.out.lt g5 rfl).2; simp; omega
            case f3 =>
              intro v' w6 hb6 k6
              have HBY6 := Lib.hid hb6
              have HB6 := Lib.hid (k6.below_next (B := w.heap.size) (below_alloc HB5.out _) (by have := HB5.out.size; simp; omega) (fun k hk => by
                have e : some g5 = some k := own_mem hk
                injection e with e
                omega))
              have HR6 := Lib.hid ((HR5.out.then_ (below_alloc (Below.refl _ _) _)).kept k6 (by simp [Value.ownBlock]; omega))
              clear hb6 k6
              go_wp2_with fail
              have F : Byts w6 (w.heap.size + 1) v' (m + (k + 1)) (uvs (Pd ++ T.take (k + 1))) := by
                have h := HBY6.out
                have e : T.take (k + 1) = T.take k ++ [V] := by
                  rw [List.take_succ_eq_append_getElem (by rw [LL.out]; exact hlt), ← HV.out, List.getD, List.getElem?_eq_getElem (by rw [LL.out]; exact hlt)]; rfl
                rw [e, ← List.append_assoc, uvs_append]
                exact h
              refine ⟨⟨k + 1, by omega, ?_, F, HB6.out, HR6.out⟩, by simp [intOf]; omega⟩
              congr 1
              omega
          · obtain rfl : k = 8 := by omega
            have hby := HBY5.out
            have e8 : Pd ++ T.take 8 = ext (nbs s) := by
              rw [List.take_of_length_le (by rw [LL.out]; exact Nat.le_refl _), ← HPd.out, ← HT.out, HM.out, ext_pad]
            rw [e8] at hby
            have hel : (ext (nbs s)).length = m + 8 := by rw [ext_length, nbs_length, HM.out]
            have heb := ext_blocks (nbs s)
            have hex := ext_lt (nbs s) (nbs_lt s)
            obtain ⟨nb, hnb⟩ : ∃ nb, (ext (nbs s)).length / 64 = nb := ⟨_, rfl⟩
            rw [hnb, hel] at heb
            obtain ⟨St, s0, s1, s2, s3⟩ := blks_run (ext (nbs s)) nb
            have hsum : strN (outV (St nb)) = sumS s := by rw [sumS, sumN, hnb, s3]
            have hat := BytesAt.of_byts hby
            obtain ⟨B, hB⟩ : ∃ B, ext (nbs s) = B := ⟨_, rfl⟩
            rw [hB] at hel hex s1 hat
            have HEX := Lib.hid hex
            have HS1 := Lib.hid s1
            have HSV := Lib.hid s2
            have HAT := Lib.hid hat
            have HSUM := Lib.hid hsum
            have HS00 := Lib.hid s0
            have HBL : Hid (B.length = 64 * nb) := by
              show _ = _
              rw [hel]; exact heb
            have lg5 := (HBY5.out.lt g5 rfl).2
            have lw5 := HB5.out.size
            clear hby e8 hel hnb s0 s1 s2 s3 hsum hat hB hex
            rw [heb]
            rw [heb] at hc5
            clear HBY5 heb
            go_wp2_with (go_at_call 138; refine (chunk_any _ _ _ _).mono ?_; rintro e w7 ⟨rfl, hw7⟩)
            have K7 : Below wr.heap.size wr w7 := by rw [← hw7]; exact below_alloc (below_alloc (Below.refl _ _) _) _
            have s7 : wr.heap.size + 2 ≤ w7.heap.size := by rw [← hw7]; simp
            have x0 : w7.cell? ⟨wr.heap.size, 0, none⟩ = some (.slice (some ⟨g5, 0, none⟩) (64 * nb) c5) := by rw [← hw7]; exact keep_alloc _ (new_cell rfl)
            have x1 : w7.cell? ⟨wr.heap.size + 1, 0, none⟩ = some (.int .i64 64) := by rw [← hw7]; exact new_cell' rfl
            have lz : w.heap.size < wr.heap.size := by have := hlt' HR5.out; exact this
            have hrd : RoundIn w7 := (HKK.out.then_ HB5.out).then_ K7
            have hr7 := HR5.out.then_ K7
            rw [← HS00.out] at hr7
            have hb7 := below_next HB5.out K7
            have ha7 := HAT.out.then_ K7
            have hl0 := HKK.out.1
            clear hw7
            refine range_outer (n := 0) (gf := 145) (lb := #[.pointer (some ⟨wr.heap.size, 0, none⟩), .pointer (some ⟨wr.heap.size + 1, 0, none⟩)]) rfl (enters_of Tryz.func145 (by kernel_rfl) rfl) ?_
            intro fn rec hrec
            have hcl := rec_cells hrec
            refine (chunk_in _ wr.heap.size (wr.heap.size + 1) g5 c5 nb (SumJ w St B g5 c5 nb wr.heap.size w7.heap.size rec) hc5 hc6 (fun k W h => ⟨h.bx, h.bn⟩) (fun k W n h => ?drew) ?round _ ?start).mono ?done
            case drew => exact ⟨h.row, h.bx, h.bn, h.bytes, h.rnd, ⟨h.below.os, h.below.tape, h.below.output, h.below.size, h.below.block⟩, h.loop, h.dfr⟩
            case start =>
              have hb2 := below_alloc (below_alloc (Below.refl w7.heap.size w7) (.deferred (some []))) (rec .ready none)
              refine ⟨hr7.then_ hb2, cell_then hb2 x0, cell_then hb2 x1, ha7.then_ hb2, hrd.then_ hb2, below_next hb7 hb2, ?_, heap_alloc (World.alloc_heap_new w7 _) _⟩
              have := World.alloc_heap_new (w7.alloc (.deferred (some []))) (rec .ready none)
              rwa [World.size_alloc] at this
            case round =>
              intro k W hlt2 hJ
              have hs2 := HS1.out k
              have hvb := HSV.out k
              obtain ⟨v1, hv1⟩ : ∃ v, St k = v := ⟨_, rfl⟩
              obtain ⟨v2, hv2⟩ : ∃ v, St (k + 1) = v := ⟨_, rfl⟩
              have hrow := hJ.row
              rw [hv1] at hs2 hvb hrow
              rw [hv2] at hs2
              have HV2 := Lib.hid hv2
              have HROW := Lib.hid hrow
              have HS2 := Lib.hid hs2
              have HVB := Lib.hid hvb
              have HJ := Lib.hid hJ
              have hl := hJ.loop
              have hlW := heap_lt hl
              refine yield_round hrec trivial hl rfl ?_
              clear hrec hv1 hv2 hrow hs2 hvb hJ
              gi_wp2
              refine ⟨hl, ?_⟩
              have hJ := HJ.out
              have hlb := heap_put hl (rec .busy none)
              have hD := heap_putObj hJ.dfr (show w7.heap.size ≠ w7.heap.size + 1 by omega) (rec .busy none)
              have y0 := cell_putObj' hJ.bx (show wr.heap.size ≠ w7.heap.size + 1 by omega) (rec .busy none)
              have y1 := cell_putObj' hJ.bn (show wr.heap.size + 1 ≠ w7.heap.size + 1 by omega) (rec .busy none)
              have hby := bytesAt_putObj hJ.bytes (show g5 ≠ w7.heap.size + 1 by omega) (rec .busy none)
              have hrn := roundIn_putObj hJ.rnd (show _ ≠ w7.heap.size + 1 by omega) (rec .busy none)
              have hrw := rowW_putObj HROW.out (show w.heap.size ≠ w7.heap.size + 1 by omega) (rec .busy none)
              have hbl := below_putObj hJ.below (show w.heap.size ≤ w7.heap.size + 1 by omega) (rec .busy none)
              obtain ⟨Wb, hWb⟩ : ∃ Wb, W.putObj (w7.heap.size + 1) (rec .busy none) = Wb := ⟨_, rfl⟩
              rw [hWb] at hlb hD y0 y1 hby hrn hrw hbl ⊢
              obtain ⟨hc, hcl2⟩ := chunk_at hby HBL.out hlt2
              clear hWb hJ hl hlW
              have H0 := Lib.hid hlb
              have H1 := Lib.hid hD
              have H2 := Lib.hid y0
              have H3 := Lib.hid y1
              have H4 := Lib.hid hby
              have H5 := Lib.hid hrn
              have H6 := Lib.hid hrw
              have H7 := Lib.hid hbl
              have H8 := Lib.hid hc
              have H9 := Lib.hid hcl2
              clear hlb hD y0 y1 hby hrn hrw hbl hc hcl2
              gi_wp2_with fail
              refine ⟨trivial, rfl, CallsIn.inRound _ ((callsIn_wide (n := 0)).2 ((add_any _ _ _ _ v1 _ _ H6.out HVB.out H8.out H9.out (mem_chunk HEX.out) H5.out).mono ?_))⟩
              rintro e W3 ⟨rfl, hr3, k3⟩
              rw [← HS2.out, ← HV2.out] at hr3
              have hR3 := Lib.hid hr3
              have hK3 := Lib.hid k3
              clear hr3 k3
              gi_wp2_with fail
              have hne : w.heap.size ≠ w7.heap.size + 1 := by omega
              have q0 := hK3.out.heap H0.out (by simp; omega)
              refine ⟨q0, rfl, rowW_putObj hR3.out hne _, ?_, ?_, ?_, ?_, ?_, heap_put q0 _, ?_⟩
              · exact cell_putObj' (hK3.out.cell H2.out (by simp; omega)) (by dsimp only; omega) _
              · exact cell_putObj' (hK3.out.cell H3.out (by simp; omega)) (by dsimp only; omega) _
              · exact bytesAt_putObj (H4.out.kept hK3.out (by simp; omega)) (by omega) _
              · exact roundIn_putObj ⟨Nat.lt_of_lt_of_le H5.out.1 hK3.out.size, fun j hj => hK3.out.cell (H5.out.2 j hj) (by simp; omega)⟩ (by omega) _
              · exact below_putObj (hK3.out.below_next H7.out H7.out.size (fun k hk => by have := List.mem_singleton.1 hk; omega)) (by omega) _
              · exact heap_putObj (hK3.out.heap H1.out (by simp; omega)) (by omega) _
            case done =>
              rintro e W' ⟨hv, hJ⟩
              refine ⟨hv, .inl ⟨hJ.loop, ?_⟩⟩
              have q1 := rowW_putObj hJ.row (show w.heap.size ≠ w7.heap.size + 1 by omega) (rec .exhausted none)
              have q2 := below_putObj hJ.below (show w.heap.size ≤ w7.heap.size + 1 by omega) (rec .exhausted none)
              have q3 := heap_putObj hJ.dfr (show w7.heap.size ≠ w7.heap.size + 1 by omega) (rec .exhausted none)
              have hvb := HSV.out nb
              have hsum := HSUM.out
              obtain ⟨W4, hW4⟩ : ∃ W4, W'.putObj (w7.heap.size + 1) (rec .exhausted none) = W4 := ⟨_, rfl⟩
              obtain ⟨v1, hv1⟩ : ∃ v, St nb = v := ⟨_, rfl⟩
              rw [hW4] at q1 q2 q3 ⊢
              rw [hv1] at q1 hvb hsum
              have hda := fun w => digest_any v1 w hvb
              obtain ⟨CV, hCV⟩ : ∃ C, (wvs (vl v1)).toArray = C := ⟨_, rfl⟩
              have hsz : (Tryz.prog.info? 206).map (·.size) = some CV.size := by rw [← hCV, List.size_toArray, wvs_length, vl_length]; exact size8
              have q4 : W4.heap[w.heap.size]? = some (.cells CV 206 (0, 0)) := by rw [← hCV]; exact q1
              rw [hCV, hsum] at hda
              have HDA := Lib.hid hda
              have HQ4 := Lib.hid q4
              have HQ2 := Lib.hid q2
              have HQ3 := Lib.hid q3
              have HSZ := Lib.hid hsz
              clear hW4 hrec hv1 q1 q2 q3 q4 hda hsum hCV hsz hJ
              go_wp2_with (first | (go_at_call 140; refine (HDA.out _).mono ?_; rintro e w9 ⟨rfl, b9⟩) | refine wpList_load_row rfl 206 _ rfl w.heap.size rfl 206 CV (0, 0) _ HQ4.out Tryz.underlying206 rfl HSZ.out ?_)
              exact leaves_marked ((b9.block _ (heap_lt HQ3.out)).trans HQ3.out) (results_tmp rfl _ _ _) ⟨rfl, below_putObj (below_next HQ2.out b9) (by omega) _⟩
      · have h1 : (((m : Nat) : Int) % 64 != 56) = true := by simp; omega
        have HD := Lib.hid hd
        clear hd
        go_wp2_with (at_builtin; refine wpList_append_byts rfl _ _ 53 rfl 5 i0 (.int .u8 0) Tryz.underlying53 HI.out HZ.out HZ1.out HZ2.out rfl rfl (HBY3.out.alloc _) ⟨wr.heap.size, 0, none⟩ 1 (.int .u8 0) rfl ?d1 rfl (by omega) ?d2 ?d3)
        case d1 => simp [go_sem]
        case d2 => have := HB3.out.size; have := (HBY3.out.lt g rfl).2; simp; omega
        case d3 =>
          intro v' w4 hb4 k4
          have HBY4 := Lib.hid hb4
          obtain ⟨g', c', rfl, hg', hc1', hc2'⟩ := hb4.val
          have HB4 := Lib.hid (k4.below_next (B := w.heap.size) (below_alloc HB3.out _) (by have := HB3.out.size; simp; omega) (fun k hk => by
            have e : some g = some k := own_mem hk
            injection e with e
            omega))
          have HR4 := Lib.hid ((HR3.out.then_ (below_alloc (Below.refl _ _) _)).kept k4 (by simp [Value.ownBlock]; omega))
          clear hb4 k4
          go_wp2_with fail
          have hz : m < s.size + 1 + zeros s.size := by
            have := HD.out
            by_cases e : m = s.size + 1 + zeros s.size
            · exfalso
              unfold zeros at e
              omega
            · omega
          refine ⟨⟨m + 1, by omega, by omega, ?_, HB4.out, HR4.out⟩, by simp [sliceLen]; omega⟩
          rw [← padTo_next s hm1, uvs_append]
          exact HBY4.out
end Go.Proofs.YtnjkinljpekohaaGreatDoor
