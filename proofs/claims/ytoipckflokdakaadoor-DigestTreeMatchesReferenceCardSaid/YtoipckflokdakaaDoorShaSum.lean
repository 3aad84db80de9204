/- Sum: what it returns. -/
import Derived.Test.YtoipckflokdakaaDoorShaChunk
namespace Go.Proofs.YtoipckflokdakaaDoor
open Go.RowKit Sha
attribute [local go_sem] Oper.semAt_some
theorem u8_infos : (Tryd.prog.info? 5).map (fun i => (i.zero, i.size, i.bytes)) = some (some (.int .u8 0), 1, 1) := by kernel_rfl
/-- the bytes of a string -/
def nbs (s : ByteArray) : List Nat := s.data.toList.map UInt8.toNat
theorem nbs_length (s : ByteArray) : (nbs s).length = s.size := by rw [nbs, List.length_map, Array.length_toList]; rfl
theorem nbs_lt (s : ByteArray) : ∀ x ∈ nbs s, x < 256 := fun x hx => by
  obtain ⟨b, _, rfl⟩ := List.mem_map.1 hx
  exact b.toNat_lt
/-- the digest of a string -/
def sumS (s : ByteArray) : ByteArray := strN (sumN (nbs s))
theorem conv_str (w : World) (s : ByteArray) (hs : s.size ≤ 1000000) : ∃ (W : World) (c : Nat), (convert 9 46 (.string s)).run Tryd.prog w = .ok (.slice (some ⟨w.heap.size, 0, none⟩) s.size c) W ∧ Byts W w.heap.size (.slice (some ⟨w.heap.size, 0, none⟩) s.size c) s.size (uvs (nbs s)) ∧ Below w.heap.size w W := by
  refine ⟨_, _, Lib.run_convert_string_bytes w 9 46 5 s Tryd.underlying9 Tryd.underlying46 Tryd.underlying5, ?_, Joins.below_bytesWorld _ w _ s (Nat.le_refl _)⟩
  have h := Byts.of_string w 5 s (by unfold maxLen; omega)
  have e : uvs (nbs s) = s.data.toList.map fun b => Value.int .u8 (b.toNat : Int) := by simp [uvs, nbs, List.map_map, Function.comp_def]
  rw [e]
  exact h
def sliceLen : Value → Nat
  | .slice _ n _ => n
  | _ => 0
theorem Byts.val {w : World} {base n : Nat} {v : Value} {xs : List Value} (h : Byts w base v n xs) : ∃ g c, v = .slice (some ⟨g, 0, none⟩) n c ∧ base ≤ g ∧ n ≤ c ∧ c ≤ maxLen := by
  obtain ⟨_, g, cap, rfl, hb, _, h1, h2, _⟩ := h
  exact ⟨g, cap, rfl, hb, h1, h2⟩
/-- a string's bytes, and what is laid behind them first -/
theorem len8_get (n k : Nat) (hk : k < 8) : (len8 n).getD k 0 = 8 * n / 2 ^ (8 * (7 - k)) % 256 := by
  rcases (show k = 0 ∨ k = 1 ∨ k = 2 ∨ k = 3 ∨ k = 4 ∨ k = 5 ∨ k = 6 ∨ k = 7 by omega) with rfl | rfl | rfl | rfl | rfl | rfl | rfl | rfl <;> first | rfl | exact congrArg (· % 256) (Nat.div_one _).symm
def padTo (s : ByteArray) (m : Nat) : List Nat := nbs s ++ [128] ++ List.replicate (m - s.size - 1) 0
theorem ext_pad (s : ByteArray) : padTo s (s.size + 1 + zeros s.size) ++ len8 s.size = ext (nbs s) := by
  rw [padTo, ext, nbs_length, show s.size + 1 + zeros s.size - s.size - 1 = zeros s.size by omega]
theorem padTo_next (s : ByteArray) {m : Nat} (h : s.size + 1 ≤ m) : padTo s m ++ [0] = padTo s (m + 1) := by
  rw [padTo, padTo, List.append_assoc, show m + 1 - s.size - 1 = (m - s.size - 1) + 1 by omega, List.replicate_succ']
theorem uvs_append (a b : List Nat) : uvs (a ++ b) = uvs a ++ uvs b := List.map_append
theorem iterB_snoc {α : Type} (f : α → List Nat → α) : ∀ (k : Nat) (b : List Nat) (h : α), iterB f (k + 1) b h = f (iterB f k b h) ((b.drop (64 * k)).take 64)
  | 0, b, h => by simp [iterB]
  | k + 1, b, h => by
    have e := iterB_snoc f k (b.drop 64) (f h (b.take 64))
    rw [List.drop_drop, show 64 + 64 * k = 64 * (k + 1) by omega] at e
    rw [iterB, e]; rfl
theorem blks_run (B : List Nat) (nb : Nat) : ∃ St : Nat → V, St 0 = iv ∧ (∀ k, St (k + 1) = addB (St k) ((B.drop (64 * k)).take 64)) ∧ (∀ k, VB (St k)) ∧ blks nb B iv = St nb := by
  refine ⟨fun k => iterB addB k B iv, rfl, fun k => iterB_snoc addB k B iv, fun k => ?_, rfl⟩
  cases k with
  | zero => exact VB.iv
  | succ k =>
    show VB (iterB addB (k + 1) B iv)
    rw [iterB_snoc]
    exact VB.addV _ _
theorem ext_length (l : List Nat) : (ext l).length = l.length + 1 + zeros l.length + 8 := by
  have : (len8 l.length).length = 8 := rfl
  rw [ext, List.length_append, List.length_append, List.length_append, List.length_replicate, List.length_singleton, this]
theorem ext_blocks (l : List Nat) : (ext l).length = 64 * ((ext l).length / 64) := by
  rw [ext_length]; unfold zeros; omega
theorem ext_lt (l : List Nat) (h : ∀ x ∈ l, x < 256) : ∀ x ∈ ext l, x < 256 := by
  intro x hx
  simp only [ext, List.mem_append, List.mem_replicate, len8, List.mem_cons, List.not_mem_nil, or_false] at hx
  rcases hx with ((hx | rfl) | ⟨_, rfl⟩) | hx
  · exact h x hx
  · decide
  · decide
  · rcases hx with rfl | rfl | rfl | rfl | rfl | rfl | rfl | rfl <;> exact Nat.mod_lt _ (by decide)
theorem chunk_at {W : World} {g : Nat} {B : List Nat} {k nb : Nat} (h : BytesAt W g 0 B) (hl : B.length = 64 * nb) (hk : k < nb) : BytesAt W g (64 * k) ((B.drop (64 * k)).take 64) ∧ ((B.drop (64 * k)).take 64).length = 64 := by
  have h2 : ((B.drop (64 * k)).take 64).length = 64 := by rw [List.length_take, List.length_drop]; omega
  refine ⟨fun j hj => ?_, h2⟩
  rw [h2] at hj
  have := h (64 * k + j) (by omega)
  rw [Nat.zero_add] at this
  rw [this]
  simp [List.getD, hj]
theorem mem_chunk {B : List Nat} {a b : Nat} (h : ∀ x ∈ B, x < 256) : ∀ x ∈ (B.drop a).take b, x < 256 := fun x hx => h x (List.mem_of_mem_drop (List.mem_of_mem_take hx))
theorem cell_putObj' {W : World} {a : Addr} {v : Value} (h : W.cell? a = some v) {l : Nat} (hne : a.block ≠ l) (o : Obj) : (W.putObj l o).cell? a = some v :=
  (World.cell?_of_block (World.putObj_heap_other hne)).trans h
theorem hlt' {t : TypeId} {W : World} {g : Nat} {L : List Nat} (h : RowW t W g L) : g < W.heap.size := (Array.getElem?_eq_some_iff.1 h).1
theorem bytesAt_putObj {W : World} {g o : Nat} {B : List Nat} (h : BytesAt W g o B) {l : Nat} (hne : g ≠ l) (x : Obj) : BytesAt (W.putObj l x) g o B := fun j hj => cell_putObj' (h j hj) hne x
theorem roundIn_putObj {W : World} (h : RoundIn W) {l : Nat} (hne : 0 ≠ l) (x : Obj) : RoundIn (W.putObj l x) := ⟨by simpa using h.1, fun k hk => cell_putObj' (h.2 k hk) hne x⟩
theorem rowW_putObj {t : TypeId} {W : World} {g : Nat} {L : List Nat} (h : RowW t W g L) {l : Nat} (hne : g ≠ l) (x : Obj) : RowW t (W.putObj l x) g L := heap_putObj h hne x
theorem BytesAt.of_byts {W : World} {base g c : Nat} {n : Nat} {B : List Nat} (h : Byts W base (.slice (some ⟨g, 0, none⟩) n c) n (uvs B)) : BytesAt W g 0 B := by
  obtain ⟨h0, g', cap, hv, _, _, _, _, h1, _⟩ := h
  injection hv with e1 e2 e3
  injection e1 with e1
  injection e1 with e1
  subst e1
  intro j hj
  rw [Nat.zero_add]
  exact h1 j _ (by simp [uvs, List.getD, hj])
/-- the state of the loop over the blocks -/
structure SumJ (w : World) (St : Nat → V) (B : List Nat) (g cap nb Bs D : Nat) (rec : LoopState → Option Code → Obj) (k : Nat) (W : World) : Prop where
  row : RowW 71 W w.heap.size (vl (St k))
  bx : W.cell? ⟨Bs, 0, none⟩ = some (.slice (some ⟨g, 0, none⟩) (64 * nb) cap)
  bn : W.cell? ⟨Bs + 1, 0, none⟩ = some (.int .i64 64)
  bytes : BytesAt W g 0 B
  rnd : RoundIn W
  below : Below w.heap.size w W
  loop : W.heap[D + 1]? = some (rec .ready none)
  dfr : W.heap[D]? = some (.deferred (some []))
set_option maxRecDepth 100000 in
set_option maxHeartbeats 4000000 in
theorem sum_any (s : ByteArray) (w : World) (hs : s.size ≤ 1000000) (hK : RoundIn w) :
    Calls Tryd.prog 30 #[.string s] w fun e w' => e = .returned (.string (sumS s)) ∧ Below w.heap.size w w' := by
  obtain ⟨i0, hi, hz0, hz1, hz2⟩ := info_parts u8_infos
  have HI := Lib.hid hi
  have HZ := Lib.hid hz0
  have HZ1 := Lib.hid hz1
  have HZ2 := Lib.hid hz2
  have HKK := Lib.hid hK
  clear hi hz0 hz1 hz2 hK
  obtain ⟨W0, hW0⟩ : ∃ W, w.alloc (.cells (wvs (vl iv)).toArray 71) = W := ⟨_, rfl⟩
  have hs0 : W0.heap.size = w.heap.size + 1 := by rw [← hW0]; simp
  have B0 : Below w.heap.size w W0 := by rw [← hW0]; exact below_alloc (Below.refl _ _) _
  have R0 : RowW 71 W0 w.heap.size (vl iv) := by rw [← hW0]; exact heap_alloc_new _ _
  have hz : (wvs (vl iv)).toArray = #[.int .u32 1779033703, .int .u32 3144134277, .int .u32 1013904242, .int .u32 2773480762, .int .u32 1359893119, .int .u32 2600822924, .int .u32 528734635, .int .u32 1541459225] := rfl
  rw [hz] at hW0
  obtain ⟨W1, c1, hcv, hby, hb1⟩ := conv_str W0 s hs
  rw [hs0] at hcv hby
  have HBY := Lib.hid hby
  have HB1 := Lib.hid hb1
  have HB0 := Lib.hid B0
  have HR0 := Lib.hid R0
  have HS0 := Lib.hid hs0
  clear hby hb1 B0 R0 hz hs0
  refine calls_of_wp_marks Tryd.func30 rfl ?_
  simp only [Tryd.ntmps30, List.size_toArray, List.length_cons, List.length_nil, Nat.reduceAdd, Nat.reduceSub, Array.replicate_succ, Array.replicate_zero, List.push_toArray, List.append_toArray, List.nil_append, List.cons_append]
  go_wp2_with (at_builtin; refine wpList_append_byts rfl _ _ 46 rfl 5 i0 (.int .u8 0) Tryd.underlying46 HI.out HZ.out HZ1.out HZ2.out rfl rfl (HBY.out.alloc _) ⟨W1.heap.size, 0, none⟩ 1 (.int .u8 128) rfl ?c1 rfl (by omega) ?c2 ?c3)
  case c1 => simp [go_sem]
  case c2 => have := HB1.out.size; have := HS0.out; simp; omega
  case c3 =>
    intro v' w2 hb2 k2
    have HBY2 := Lib.hid hb2
    have B2 : Below w.heap.size w w2 := (k2.below_next (B := w.heap.size) (below_alloc (below_next HB0.out HB1.out) _) (by have := HB1.out.size; have := HS0.out; simp; omega) (fun k hk => by
      have e : some (w.heap.size + 1) = some k := own_mem hk
      injection e with e
      omega))
    have R2 : RowW 71 w2 w.heap.size (vl iv) := ((HR0.out.then_ HB1.out).then_ (below_alloc (Below.refl _ _) _)).kept k2 (by simp [Value.ownBlock])
    have HB2 := Lib.hid B2
    have HR2 := Lib.hid R2
    clear hb2 k2 B2 R2 hcv hW0 HBY HB1 HB0 HR0
    go_wp2_with fail
    go_loopw [4] (fun v wr => ∃ m : Nat, s.size + 1 ≤ m ∧ m ≤ s.size + 1 + zeros s.size ∧ Byts wr (w.heap.size + 1) v m (uvs (padTo s m)) ∧ Below w.heap.size w wr ∧ RowW 71 wr w.heap.size (vl iv)) (fun v _ => s.size + 1 + zeros s.size - sliceLen v)
    case atStart =>
      refine ⟨s.size + 1, by omega, by omega, ?_, HB2.out, HR2.out⟩
      have e : padTo s (s.size + 1) = nbs s ++ [128] := by simp [padTo]
      rw [e, uvs_append]
      exact HBY2.out
    case round =>
      obtain ⟨m, hm1, hm2, hby, hB, hR⟩ := hrel
      obtain ⟨g, c, rfl, hg, hc1, hc2⟩ := hby.val
      have HBY3 := Lib.hid hby
      have HB3 := Lib.hid hB
      have HR3 := Lib.hid hR
      clear hby hB hR HBY2 HB2 HR2
      have hzz : zeros s.size ≤ 63 := by unfold zeros; omega
      by_cases hd : m % 64 = 56
      · have h1 : (((m : Nat) : Int) % 64 != 56) = false := by simp; omega
        have HD := Lib.hid hd
        clear hd
        go_wp2_with fail
        have hm : m = s.size + 1 + zeros s.size := by
          have := HD.out
          unfold zeros at hm2 ⊢
          omega
        have HM := Lib.hid hm
        have L8 := Lib.hid (len8_get s.size)
        have LL : Hid ((len8 s.size).length = 8) := rfl
        obtain ⟨T, hT⟩ : ∃ T, len8 s.size = T := ⟨_, rfl⟩
        rw [hT] at L8 LL
        have HT := Lib.hid hT
        obtain ⟨Pd, hPd⟩ : ∃ P, padTo s m = P := ⟨_, rfl⟩
        rw [hPd] at HBY3
        have HPd := Lib.hid hPd
        clear hm hT hPd
        obtain ⟨wo, hwo⟩ : ∃ W, wr = W := ⟨_, rfl⟩
        rw [hwo] at HBY3 HB3 HR3 ⊢
        clear hwo
        have lm : m ≤ 1000064 := by omega
        go_loopw [4, 5] (fun v i wr => ∃ k : Nat, k ≤ 8 ∧ i = .int .i64 (7 - (k : Int)) ∧ Byts wr (w.heap.size + 1) v (m + k) (uvs (Pd ++ T.take k)) ∧ Below w.heap.size w wr ∧ RowW 71 wr w.heap.size (vl iv)) (fun _ i _ => (intOf i + 1).toNat)
        case atStart => exact ⟨0, by omega, rfl, by rw [List.take_zero, List.append_nil]; exact HBY3.out, HB3.out, HR3.out⟩
        case round =>
          obtain ⟨k, hk, rfl, hby, hB, hR⟩ := hrel
          obtain ⟨g5, c5, rfl, hg5, hc5, hc6⟩ := hby.val
          have HBY5 := Lib.hid hby
          have HB5 := Lib.hid hB
          have HR5 := Lib.hid hR
          clear hby hB hR HBY3 HB3 HR3
          by_cases hlt : k < 8
          · have i1 : (0 : Int) ≤ 7 - (k : Int) := by omega
            have i2 : (0 : Int) ≤ 8 * (7 - (k : Int)) := by omega
            have i3 : 8 * (7 - (k : Int)) ≤ 64 := by omega
            have i4 : (8 * (7 - (k : Int))).toNat = 8 * (7 - k) := by omega
            obtain ⟨V, hV⟩ : ∃ V, T.getD k 0 = V := ⟨_, rfl⟩
            have eV : 8 * ((s.size : Nat) : Int) / 2 ^ (8 * (7 - k)) % 256 = (V : Int) := by
              rw [← hV, L8.out k hlt, Int.natCast_emod, Int.natCast_ediv, Int.natCast_pow, Int.natCast_mul]; rfl
            have HV := Lib.hid hV
            clear hV
            go_wp2_with (at_builtin; refine wpList_append_byts rfl _ _ 46 rfl 5 i0 (.int .u8 0) Tryd.underlying46 HI.out HZ.out HZ1.out HZ2.out rfl rfl (HBY5.out.alloc _) ⟨wr.heap.size, 0, none⟩ 1 (.int .u8 (V : Int)) rfl ?f1 rfl (by omega) ?f2 ?f3)
            case f1 => simp [go_sem]
            case f2 => have := (HBY5.out.lt g5 rfl).2; simp; omega
            case f3 =>
              intro v' w6 hb6 k6
              have HBY6 := Lib.hid hb6
              have HB6 := Lib.hid (k6.below_next (B := w.heap.size) (below_alloc HB5.out _) (by have := HB5.out.size; simp; omega) (fun k hk => by
                have e : some g5 = some k := own_mem hk
                injection e with e
                omega))
              have HR6 := Lib.hid ((HR5.out.then_ (below_alloc (Below.refl _ _) _)).kept k6 (by simp [Value.ownBlock]; omega))
              clear hb6 k6
              go_wp2_with fail
              have F : Byts w6 (w.heap.size + 1) v' (m + (k + 1)) (uvs (Pd ++ T.take (k + 1))) := by
                have h := HBY6.out
                have e : T.take (k + 1) = T.take k ++ [V] := by
                  rw [List.take_succ_eq_append_getElem (by rw [LL.out]; exact hlt), ← HV.out, List.getD, List.getElem?_eq_getElem (by rw [LL.out]; exact hlt)]; rfl
                rw [e, ← List.append_assoc, uvs_append]
                exact h
              refine ⟨⟨k + 1, by omega, ?_, F, HB6.out, HR6.out⟩, by simp [intOf]; omega⟩
              congr 1
              omega
          · obtain rfl : k = 8 := by omega
            have hby := HBY5.out
            have e8 : Pd ++ T.take 8 = ext (nbs s) := by
              rw [List.take_of_length_le (by rw [LL.out]; exact Nat.le_refl _), ← HPd.out, ← HT.out, HM.out, ext_pad]
            rw [e8] at hby
            have hel : (ext (nbs s)).length = m + 8 := by rw [ext_length, nbs_length, HM.out]
            have heb := ext_blocks (nbs s)
            have hex := ext_lt (nbs s) (nbs_lt s)
            obtain ⟨nb, hnb⟩ : ∃ nb, (ext (nbs s)).length / 64 = nb := ⟨_, rfl⟩
            rw [hnb, hel] at heb
            obtain ⟨St, s0, s1, s2, s3⟩ := blks_run (ext (nbs s)) nb
            have hsum : strN (outV (St nb)) = sumS s := by rw [sumS, sumN, hnb, s3]
            have hat := BytesAt.of_byts hby
            obtain ⟨B, hB⟩ : ∃ B, ext (nbs s) = B := ⟨_, rfl⟩
            rw [hB] at hel hex s1 hat
            have HEX := Lib.hid hex
            have HS1 := Lib.hid s1
            have HSV := Lib.hid s2
            have HAT := Lib.hid hat
            have HSUM := Lib.hid hsum
            have HS00 := Lib.hid s0
            have HBL : Hid (B.length = 64 * nb) := by
              show _ = _
              rw [hel]; exact heb
            have lg5 := (HBY5.out.lt g5 rfl).2
            have lw5 := HB5.out.size
            clear hby e8 hel hnb s0 s1 s2 s3 hsum hat hB hex
            rw [heb]
            rw [heb] at hc5
            clear HBY5 heb
            go_wp2_with (go_at_call 54; refine (chunk_any _ _ _ _).mono ?_; rintro e w7 ⟨rfl, hw7⟩)
            have K7 : Below wr.heap.size wr w7 := by rw [← hw7]; exact below_alloc (below_alloc (Below.refl _ _) _) _
            have s7 : wr.heap.size + 2 ≤ w7.heap.size := by rw [← hw7]; simp
            have x0 : w7.cell? ⟨wr.heap.size, 0, none⟩ = some (.slice (some ⟨g5, 0, none⟩) (64 * nb) c5) := by rw [← hw7]; exact keep_alloc _ (new_cell rfl)
            have x1 : w7.cell? ⟨wr.heap.size + 1, 0, none⟩ = some (.int .i64 64) := by rw [← hw7]; exact new_cell' rfl
            have lz : w.heap.size < wr.heap.size := by have := hlt' HR5.out; exact this
            have hrd : RoundIn w7 := (HKK.out.then_ HB5.out).then_ K7
            have hr7 := HR5.out.then_ K7
            rw [← HS00.out] at hr7
            have hb7 := below_next HB5.out K7
            have ha7 := HAT.out.then_ K7
            have hl0 := HKK.out.1
            clear hw7
            refine range_outer (n := 0) (gf := 66) (lb := #[.pointer (some ⟨wr.heap.size, 0, none⟩), .pointer (some ⟨wr.heap.size + 1, 0, none⟩)]) rfl (enters_of Tryd.func66 (by kernel_rfl) rfl) ?_
            intro fn rec hrec
            have hcl := rec_cells hrec
            refine (chunk_in _ wr.heap.size (wr.heap.size + 1) g5 c5 nb (SumJ w St B g5 c5 nb wr.heap.size w7.heap.size rec) hc5 hc6 (fun k W h => ⟨h.bx, h.bn⟩) (fun k W n h => ?drew) ?round _ ?start).mono ?done
            case drew => exact ⟨h.row, h.bx, h.bn, h.bytes, h.rnd, ⟨h.below.os, h.below.tape, h.below.output, h.below.size, h.below.block⟩, h.loop, h.dfr⟩
            case start =>
              have hb2 := below_alloc (below_alloc (Below.refl w7.heap.size w7) (.deferred (some []))) (rec .ready none)
              refine ⟨hr7.then_ hb2, cell_then hb2 x0, cell_then hb2 x1, ha7.then_ hb2, hrd.then_ hb2, below_next hb7 hb2, ?_, heap_alloc (World.alloc_heap_new w7 _) _⟩
              have := World.alloc_heap_new (w7.alloc (.deferred (some []))) (rec .ready none)
              rwa [World.size_alloc] at this
            case round =>
              intro k W hlt2 hJ
              have hs2 := HS1.out k
              have hvb := HSV.out k
              obtain ⟨v1, hv1⟩ : ∃ v, St k = v := ⟨_, rfl⟩
              obtain ⟨v2, hv2⟩ : ∃ v, St (k + 1) = v := ⟨_, rfl⟩
              have hrow := hJ.row
              rw [hv1] at hs2 hvb hrow
              rw [hv2] at hs2
              have HV2 := Lib.hid hv2
              have HROW := Lib.hid hrow
              have HS2 := Lib.hid hs2
              have HVB := Lib.hid hvb
              have HJ := Lib.hid hJ
              have hl := hJ.loop
              have hlW := heap_lt hl
              refine yield_round hrec trivial hl rfl ?_
              clear hrec hv1 hv2 hrow hs2 hvb hJ
              gi_wp2
              refine ⟨hl, ?_⟩
              have hJ := HJ.out
              have hlb := heap_put hl (rec .busy none)
              have hD := heap_putObj hJ.dfr (show w7.heap.size ≠ w7.heap.size + 1 by omega) (rec .busy none)
              have y0 := cell_putObj' hJ.bx (show wr.heap.size ≠ w7.heap.size + 1 by omega) (rec .busy none)
              have y1 := cell_putObj' hJ.bn (show wr.heap.size + 1 ≠ w7.heap.size + 1 by omega) (rec .busy none)
              have hby := bytesAt_putObj hJ.bytes (show g5 ≠ w7.heap.size + 1 by omega) (rec .busy none)
              have hrn := roundIn_putObj hJ.rnd (show _ ≠ w7.heap.size + 1 by omega) (rec .busy none)
              have hrw := rowW_putObj HROW.out (show w.heap.size ≠ w7.heap.size + 1 by omega) (rec .busy none)
              have hbl := below_putObj hJ.below (show w.heap.size ≤ w7.heap.size + 1 by omega) (rec .busy none)
              obtain ⟨Wb, hWb⟩ : ∃ Wb, W.putObj (w7.heap.size + 1) (rec .busy none) = Wb := ⟨_, rfl⟩
              rw [hWb] at hlb hD y0 y1 hby hrn hrw hbl ⊢
              obtain ⟨hc, hcl2⟩ := chunk_at hby HBL.out hlt2
              clear hWb hJ hl hlW
              have H0 := Lib.hid hlb
              have H1 := Lib.hid hD
              have H2 := Lib.hid y0
              have H3 := Lib.hid y1
              have H4 := Lib.hid hby
              have H5 := Lib.hid hrn
              have H6 := Lib.hid hrw
              have H7 := Lib.hid hbl
              have H8 := Lib.hid hc
              have H9 := Lib.hid hcl2
              clear hlb hD y0 y1 hby hrn hrw hbl hc hcl2
              gi_wp2_with fail
              refine ⟨trivial, rfl, CallsIn.inRound _ ((callsIn_wide (n := 0)).2 ((add_any _ _ _ _ v1 _ _ H6.out HVB.out H8.out H9.out (mem_chunk HEX.out) H5.out).mono ?_))⟩
              rintro e W3 ⟨rfl, hr3, k3⟩
              rw [← HS2.out, ← HV2.out] at hr3
              have hR3 := Lib.hid hr3
              have hK3 := Lib.hid k3
              clear hr3 k3
              gi_wp2_with fail
              have hne : w.heap.size ≠ w7.heap.size + 1 := by omega
              have q0 := hK3.out.heap H0.out (by simp; omega)
              refine ⟨q0, rfl, rowW_putObj hR3.out hne _, ?_, ?_, ?_, ?_, ?_, heap_put q0 _, ?_⟩
              · exact cell_putObj' (hK3.out.cell H2.out (by simp; omega)) (by dsimp only; omega) _
              · exact cell_putObj' (hK3.out.cell H3.out (by simp; omega)) (by dsimp only; omega) _
              · exact bytesAt_putObj (H4.out.kept hK3.out (by simp; omega)) (by omega) _
              · exact roundIn_putObj ⟨Nat.lt_of_lt_of_le H5.out.1 hK3.out.size, fun j hj => hK3.out.cell (H5.out.2 j hj) (by simp; omega)⟩ (by omega) _
              · exact below_putObj (hK3.out.below_next H7.out H7.out.size (fun k hk => by have := List.mem_singleton.1 hk; omega)) (by omega) _
              · exact heap_putObj (hK3.out.heap H1.out (by simp; omega)) (by omega) _
            case done =>
              rintro e W' ⟨hv, hJ⟩
              refine ⟨hv, .inl ⟨hJ.loop, ?_⟩⟩
              have q1 := rowW_putObj hJ.row (show w.heap.size ≠ w7.heap.size + 1 by omega) (rec .exhausted none)
              have q2 := below_putObj hJ.below (show w.heap.size ≤ w7.heap.size + 1 by omega) (rec .exhausted none)
              have q3 := heap_putObj hJ.dfr (show w7.heap.size ≠ w7.heap.size + 1 by omega) (rec .exhausted none)
              have hvb := HSV.out nb
              have hsum := HSUM.out
              obtain ⟨W4, hW4⟩ : ∃ W4, W'.putObj (w7.heap.size + 1) (rec .exhausted none) = W4 := ⟨_, rfl⟩
              obtain ⟨v1, hv1⟩ : ∃ v, St nb = v := ⟨_, rfl⟩
              rw [hW4] at q1 q2 q3 ⊢
              rw [hv1] at q1 hvb hsum
              have hda := fun w => digest_any v1 w hvb
              obtain ⟨CV, hCV⟩ : ∃ C, (wvs (vl v1)).toArray = C := ⟨_, rfl⟩
              have hsz : (Tryd.prog.info? 71).map (·.size) = some CV.size := by rw [← hCV, List.size_toArray, wvs_length, vl_length]; exact size8
              have q4 : W4.heap[w.heap.size]? = some (.cells CV 71 (0, 0)) := by rw [← hCV]; exact q1
              rw [hCV, hsum] at hda
              have HDA := Lib.hid hda
              have HQ4 := Lib.hid q4
              have HQ2 := Lib.hid q2
              have HQ3 := Lib.hid q3
              have HSZ := Lib.hid hsz
              clear hW4 hrec hv1 q1 q2 q3 q4 hda hsum hCV hsz hJ
              go_wp2_with (first | (go_at_call 56; refine (HDA.out _).mono ?_; rintro e w9 ⟨rfl, b9⟩) | refine wpList_load_row rfl 71 _ rfl w.heap.size rfl 71 CV (0, 0) _ HQ4.out Tryd.underlying71 rfl HSZ.out ?_)
              exact leaves_marked ((b9.block _ (heap_lt HQ3.out)).trans HQ3.out) (results_tmp rfl _ _ _) ⟨rfl, below_putObj (below_next HQ2.out b9) (by omega) _⟩
      · have h1 : (((m : Nat) : Int) % 64 != 56) = true := by simp; omega
        have HD := Lib.hid hd
        clear hd
        go_wp2_with (at_builtin; refine wpList_append_byts rfl _ _ 46 rfl 5 i0 (.int .u8 0) Tryd.underlying46 HI.out HZ.out HZ1.out HZ2.out rfl rfl (HBY3.out.alloc _) ⟨wr.heap.size, 0, none⟩ 1 (.int .u8 0) rfl ?d1 rfl (by omega) ?d2 ?d3)
        case d1 => simp [go_sem]
        case d2 => have := HB3.out.size; have := (HBY3.out.lt g rfl).2; simp; omega
        case d3 =>
          intro v' w4 hb4 k4
          have HBY4 := Lib.hid hb4
          obtain ⟨g', c', rfl, hg', hc1', hc2'⟩ := hb4.val
          have HB4 := Lib.hid (k4.below_next (B := w.heap.size) (below_alloc HB3.out _) (by have := HB3.out.size; simp; omega) (fun k hk => by
            have e : some g = some k := own_mem hk
            injection e with e
            omega))
          have HR4 := Lib.hid ((HR3.out.then_ (below_alloc (Below.refl _ _) _)).kept k4 (by simp [Value.ownBlock]; omega))
          clear hb4 k4
          go_wp2_with fail
          have hz : m < s.size + 1 + zeros s.size := by
            have := HD.out
            by_cases e : m = s.size + 1 + zeros s.size
            · exfalso
              unfold zeros at e
              omega
            · omega
          refine ⟨⟨m + 1, by omega, by omega, ?_, HB4.out, HR4.out⟩, by simp [sliceLen]; omega⟩
          rw [← padTo_next s hm1, uvs_append]
          exact HBY4.out
end Go.Proofs.YtoipckflokdakaaDoor
