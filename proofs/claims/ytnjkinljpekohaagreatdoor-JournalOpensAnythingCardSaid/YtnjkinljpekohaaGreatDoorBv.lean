/- The reference's extended: a string with the bytes that are added to it. The reference's block: a block of 64 bytes. The reference's Sum. The reference's Chain and Head, for the laws of the journal. -/
import Derived.Test.YtnjkinljpekohaaGreatDoorBb
import Derived.Test.YtnjkinljpekohaaGreatDoorBe
import Derived.Test.YtnjkinljpekohaaGreatDoorBo
namespace Go.Proofs.YtnjkinljpekohaaGreatDoor
open Go.RowKit Sha
attribute [local go_sem] Oper.semAt_some
theorem uvs_one (l : List Nat) : ∀ u ∈ uvs l, u.oneCell' = true := fun u hu => by
  obtain ⟨x, _, rfl⟩ := List.mem_map.1 hu
  rfl
set_option maxRecDepth 100000 in
set_option maxHeartbeats 4000000 in
theorem extended_any (s : ByteArray) (w : World) (hs : s.size ≤ 100000) :
    Calls Tryz.prog 66 #[.string s] w fun e w' => ∃ v, e = .returned v ∧ w'.ownsRow w.heap.size 5 1 v (ext (nbs s)).length (uvs (ext (nbs s))) ∧ Below w.heap.size w w' := by
  obtain ⟨i0, hi0, hz0, hz1, hz2⟩ := info_parts u8_infosD
  have I1 := Lib.hid hi0
  have I2 := Lib.hid hz0
  have I3 := Lib.hid hz1
  have I4 := Lib.hid hz2
  clear hi0 hz0 hz1 hz2
  go_enter Tryz.func66, Tryz.ntmps66
  go_wp2_with fail
  go_loopw [3, 4] (fun v i wr => ∃ k : Nat, i = .int .i64 (k : Int) ∧ k ≤ s.size ∧ wr.ownsRow w.heap.size 5 1 v k (uvs ((nbs s).take k)) ∧ Below w.heap.size w wr) (fun _ i _ => s.size - (intOf i).toNat)
  case atStart => exact ⟨0, rfl, Nat.zero_le _, World.ownsRow_nil _ _ _ _, Below.refl _ _⟩
  case round =>
    obtain ⟨k, rfl, hk, how, hB⟩ := hrel
    have HO := Lib.hid how
    have HB := Lib.hid hB
    have hbs := hB.size
    by_cases h1 : k < s.size
    · have g1 : (k : Int) < (s.size : Int) := by omega
      have g2 : (0 : Int) ≤ (k : Int) := by omega
      have hkl : k < (nbs s).length := by rw [nbs_length]; exact h1
      have hnx : (nbs s).take (k + 1) = (nbs s).take k ++ [(s[k]'h1).toNat] := by
        rw [List.take_succ_eq_append_getElem hkl]
        congr 2
        simp [nbs]; rfl
      obtain ⟨b, hb⟩ : ∃ b, s[k]'h1 = b := ⟨_, rfl⟩
      rw [hb] at hnx
      have HNX := Lib.hid hnx
      clear hnx hkl how hB
      go_wp2_with (at_builtin; refine wpList_append1 rfl _ _ 53 rfl w.heap.size 5 i0 _ 1 1 Tryz.underlying53 I1.out I2.out I3.out I4.out rfl (by omega) (by omega) u3 k _ rfl HO.out #[.int .u8 ((b.toNat : Nat) : Int)] rfl rfl (by simp [Value.oneCell']) (by omega) (by omega) ?_; intro g4 c4 w4 o4 k4 h4)
      have HB4 := Lib.hid (k4.below_next (B := w.heap.size) HB.out hbs (fun q hq => (HO.out.lt q (own_mem hq)).1))
      refine ⟨⟨k + 1, by rfl, by omega, by rw [HNX.out, uvs_append]; exact o4, HB4.out⟩, by simp [intOf]; omega⟩
    · obtain rfl : k = s.size := by omega
      have g1 : ¬ (s.size : Int) < (s.size : Int) := by omega
      have hfull : (nbs s).take s.size = nbs s := List.take_of_length_le (by rw [nbs_length]; exact Nat.le_refl _)
      rw [hfull] at HO
      clear how hB hfull
      obtain ⟨wo, hwo⟩ : ∃ W, wr = W := ⟨_, rfl⟩
      rw [hwo] at HO HB hbs ⊢
      clear hwo
      go_wp2_with (at_builtin; refine wpList_append1 rfl _ _ 53 rfl w.heap.size 5 i0 _ 1 1 Tryz.underlying53 I1.out I2.out I3.out I4.out rfl (by omega) (by omega) u3 s.size _ rfl HO.out #[.int .u8 128] rfl rfl (by simp [Value.oneCell']) (by omega) (by omega) ?_; intro g4 c4 w4 o4 k4 h4; have HB4 := Lib.hid (k4.below_next (B := w.heap.size) HB.out hbs (fun q hq => (HO.out.lt q (own_mem hq)).1)); have HO4 := Lib.hid o4)
      have hbs4 := HB4.out.size
      clear o4 k4 h4
      go_loopw [3] (fun v wr => ∃ m : Nat, s.size + 1 ≤ m ∧ m ≤ s.size + 1 + zeros s.size ∧ wr.ownsRow w.heap.size 5 1 v m (uvs (padTo s m)) ∧ Below w.heap.size w wr) (fun v _ => s.size + 1 + zeros s.size - sliceLen v)
      case atStart =>
        refine ⟨s.size + 1, by omega, by omega, ?_, HB4.out⟩
        have e : padTo s (s.size + 1) = nbs s ++ [128] := by simp [padTo]
        rw [e, uvs_append]
        exact HO4.out
      case round =>
        obtain ⟨m, hm1, hm2, how, hB⟩ := hrel
        have HO5 := Lib.hid how
        have HB5 := Lib.hid hB
        have hbs5 := hB.size
        have hzz : zeros s.size ≤ 63 := by unfold zeros; omega
        obtain ⟨g5, c5, rfl, hg5, hg6⟩ := how.form (by omega)
        clear how hB
        by_cases hd : m % 64 = 56
        · have h1 : (((m : Nat) : Int) % 64 != 56) = false := by simp; omega
          have h1' : (m : Int) % 64 = 56 := by omega
          have HD := Lib.hid hd
          clear hd
          go_wp2_with fail
          have hm : m = s.size + 1 + zeros s.size := by
            have := HD.out
            unfold zeros at hm2 ⊢
            omega
          have HM := Lib.hid hm
          have L8 := Lib.hid (len8_get s.size)
          have LL : Hid ((len8 s.size).length = 8) := rfl
          obtain ⟨T, hT⟩ : ∃ T, len8 s.size = T := ⟨_, rfl⟩
          rw [hT] at L8 LL
          have HT := Lib.hid hT
          obtain ⟨Pd, hPd⟩ : ∃ P, padTo s m = P := ⟨_, rfl⟩
          rw [hPd] at HO5
          have HPd := Lib.hid hPd
          clear hm hT hPd
          obtain ⟨wo2, hwo2⟩ : ∃ W, wr = W := ⟨_, rfl⟩
          rw [hwo2] at HO5 HB5 hbs5 hg6 ⊢
          clear hwo2 HO4 HB4 hbs4
          have lm : m ≤ 100064 := by omega
          go_loopw [3, 5] (fun v i wr => ∃ k : Nat, k ≤ 8 ∧ i = .int .i64 (7 - (k : Int)) ∧ wr.ownsRow w.heap.size 5 1 v (m + k) (uvs (Pd ++ T.take k)) ∧ Below w.heap.size w wr) (fun _ i _ => (intOf i + 1).toNat)
          case atStart => exact ⟨0, by omega, rfl, by rw [List.take_zero, List.append_nil]; exact HO5.out, HB5.out⟩
          case round =>
            obtain ⟨k, hk, rfl, how, hB⟩ := hrel
            have HO6 := Lib.hid how
            have HB6 := Lib.hid hB
            have hbs6 := hB.size
            obtain ⟨g6, c6, rfl, hg7, hg8⟩ := how.form (by omega)
            clear how hB
            by_cases hlt : k < 8
            · have i1 : (0 : Int) ≤ 7 - (k : Int) := by omega
              have i2 : (0 : Int) ≤ 8 * (7 - (k : Int)) := by omega
              have i3 : 8 * (7 - (k : Int)) ≤ 64 := by omega
              have i4 : (8 * (7 - (k : Int))).toNat = 8 * (7 - k) := by omega
              obtain ⟨V, hV⟩ : ∃ V, T.getD k 0 = V := ⟨_, rfl⟩
              have eV : 8 * ((s.size : Nat) : Int) / 2 ^ (8 * (7 - k)) % 256 = (V : Int) := by
                rw [← hV, L8.out k hlt, Int.natCast_emod, Int.natCast_ediv, Int.natCast_pow, Int.natCast_mul]; rfl
              have HV := Lib.hid hV
              clear hV
              go_wp2_with (at_builtin; refine wpList_append1 rfl _ _ 53 rfl w.heap.size 5 i0 _ 1 1 Tryz.underlying53 I1.out I2.out I3.out I4.out rfl (by omega) (by omega) (.slice (some ⟨g6, 0, none⟩) (m + k) c6) (m + k) _ rfl HO6.out #[.int .u8 (V : Int)] rfl rfl (by simp [Value.oneCell']) (by omega) (by omega) ?_; intro g7 c7 w7 o7 k7 h7; have HB7 := Lib.hid (k7.below_next (B := w.heap.size) HB6.out hbs6 (fun q hq => (HO6.out.lt q (own_mem hq)).1)); have HO7 := Lib.hid o7)
              have e : T.take (k + 1) = T.take k ++ [V] := by
                rw [List.take_succ_eq_append_getElem (by rw [LL.out]; exact hlt), ← HV.out, List.getD, List.getElem?_eq_getElem (by rw [LL.out]; exact hlt)]; rfl
              refine ⟨⟨k + 1, by omega, ?_, ?_, HB7.out⟩, by simp [intOf]; omega⟩
              · have i5 : 7 - (k : Int) - 1 = 7 - ((k + 1 : Nat) : Int) := by omega
                rw [i5]
              · rw [e, ← List.append_assoc, uvs_append]
                exact HO7.out
            · obtain rfl : k = 8 := by omega
              have e8 : Pd ++ T.take 8 = ext (nbs s) := by
                rw [List.take_of_length_le (by rw [LL.out]; exact Nat.le_refl _), ← HPd.out, ← HT.out, HM.out, ext_pad]
              have hel : (ext (nbs s)).length = m + 8 := by rw [ext_length, nbs_length, HM.out]
              have hown := HO6.out
              rw [e8] at hown
              have HOW := Lib.hid hown
              have HEL := Lib.hid hel
              clear e8 hown hel
              go_wp2_with fail
              go_ret
              exact ⟨_, rfl, by rw [HEL.out]; exact HOW.out, HB6.out⟩
        · have h1 : (((m : Nat) : Int) % 64 != 56) = true := by simp; omega
          have h1' : ¬ (m : Int) % 64 = 56 := by omega
          have HD := Lib.hid hd
          clear hd
          go_wp2_with (at_builtin; refine wpList_append1 rfl _ _ 53 rfl w.heap.size 5 i0 _ 1 1 Tryz.underlying53 I1.out I2.out I3.out I4.out rfl (by omega) (by omega) (.slice (some ⟨g5, 0, none⟩) m c5) m _ rfl HO5.out #[.int .u8 0] rfl rfl (by simp [Value.oneCell']) (by omega) (by omega) ?_; intro g6 c6 w6 o6 k6 h6; have HB6 := Lib.hid (k6.below_next (B := w.heap.size) HB5.out hbs5 (fun q hq => (HO5.out.lt q (own_mem hq)).1)); have HO6 := Lib.hid o6)
          have hz : m < s.size + 1 + zeros s.size := by
            have := HD.out
            by_cases e : m = s.size + 1 + zeros s.size
            · exfalso
              unfold zeros at e
              omega
            · omega
          refine ⟨⟨m + 1, by omega, by omega, ?_, HB6.out⟩, by simp [sliceLen]; omega⟩
          rw [← padTo_next s hm1, uvs_append]
          exact HO6.out
end Go.Proofs.YtnjkinljpekohaaGreatDoor
namespace Go.Proofs.YtnjkinljpekohaaGreatDoor
open Go.RowKit Sha
attribute [local go_sem] Oper.semAt_some
theorem rrot_b (x n : Nat) (w : World) (hx : x < 4294967296) (h1 : 1 ≤ n) (h2 : n ≤ 31) : Calls Tryz.prog 92 #[.int .u32 (x : Int), .int .i64 (n : Int)] w fun e w' => e = .returned (.int .u32 ((rotr n x : Nat) : Int)) ∧ Below w.heap.size w w' := by
  refine (rrot_any x n w hx h1 h2).mono ?_
  rintro e w' ⟨rfl, q, rfl⟩
  exact ⟨rfl, ⟨rfl, rfl, rfl, Nat.le_refl _, fun _ _ => rfl⟩⟩
theorem u32_info1 : (Tryz.prog.info? 118).map (fun i => (i.zero, i.size, i.bytes)) = some (some (.int .u32 0), 1, 4) := by kernel_rfl
/-- words in memory -/
def WordsAt (w : World) (g o : Nat) (l : List Nat) : Prop := ∀ j, j < l.length → w.cell? ⟨g, o + j, none⟩ = some (.int .u32 ((l.getD j 0 : Nat) : Int))
theorem WordsAt.then_ {w w' : World} {g o : Nat} {b : List Nat} (h : WordsAt w g o b) (k : Below w.heap.size w w') : WordsAt w' g o b := fun j hj => cell_then k (h j hj)
theorem words_of_own {w : World} {base g n c : Nat} {e : TypeId} {L : List Nat} (h : w.ownsRow base e 1 (.slice (some ⟨g, 0, none⟩) n c) n (wvs L)) : WordsAt w g 0 L := fun j hj => by
  have hl := h.1
  rw [wvs_length, Nat.mul_one] at hl
  rw [Nat.zero_add, h.cellAt j (by omega)]
  simp [wvs, List.getD, hj]
theorem words_of_row {t : TypeId} {w : World} {g : Nat} {L : List Nat} (h : RowW t w g L) : WordsAt w g 0 L := fun j hj => by
  rw [Nat.zero_add]; exact h.cell hj
theorem wvs_append (a b : List Nat) : wvs (a ++ b) = wvs a ++ wvs b := List.map_append
theorem take_next (L : List Nat) {k v : Nat} (h : k < L.length) (hv : L.getD k 0 = v) : wvs (L.take (k + 1)) = wvs (L.take k) ++ [.int .u32 (v : Int)] := by
  rw [List.take_succ_eq_append_getElem h, wvs_append, ← hv, List.getD, List.getElem?_eq_getElem h]
  rfl
theorem u32_id {z : Int} (h0 : 0 ≤ z) (h1 : z < 4294967296) : IntKind.u32.wrap z = z := by
  simp [IntKind.wrap, IntKind.signed, IntKind.bits]; omega
theorem new_one1 (W : World) (y : Value) (t : TypeId) : ∀ j u, [y][j]? = some u → (W.alloc (.cells #[y] t)).cell? ⟨W.heap.size, j, none⟩ = some u := fun j u h => by
  have hj : j < 1 := (List.getElem?_eq_some_iff.1 h).1
  obtain rfl : j = 0 := by omega
  obtain rfl : y = u := by simpa using h
  exact new_cell rfl
set_option maxRecDepth 100000 in
theorem constants_any (w : World) : Calls Tryz.prog 93 #[] w fun e w' => ∃ g, e = .returned (.slice (some ⟨g, 0, none⟩) 64 64) ∧ WordsAt w' g 0 K64 ∧ Below w.heap.size w w' := by
  go_enter Tryz.func93, Tryz.ntmps93
  go_wp2_with fail
  go_ret
  have h : RowW 118 (w.alloc (.cells (wvs K64).toArray 118)) w.heap.size K64 := heap_alloc_new _ _
  exact ⟨w.heap.size, rfl, words_of_row h, below_alloc (Below.refl _ _) _⟩
set_option maxRecDepth 100000 in
set_option maxHeartbeats 8000000 in
theorem block_any (gh ch gb ob c : Nat) (H : V) (b : List Nat) (w : World) (hH : VB H) (hh : WordsAt w gh 0 (vl H)) (hA : BytesAt w gb ob b) (hl : b.length = 64) (hb : ∀ x ∈ b, x < 256) :
    Calls Tryz.prog 67 #[.slice (some ⟨gh, 0, none⟩) 8 ch, .slice (some ⟨gb, ob, none⟩) 64 c] w fun e w' => ∃ g cc, e = .returned (.slice (some ⟨g, 0, none⟩) 8 cc) ∧ WordsAt w' g 0 (vl (addB H b)) ∧ Below w.heap.size w w' := by
  obtain ⟨i0, hi0, hz0, hz1, hz2⟩ := info_parts u32_info1
  have I1 := Lib.hid hi0
  have I2 := Lib.hid hz0
  have I3 := Lib.hid hz1
  have I4 := Lib.hid hz2
  have HH := Lib.hid hh
  have HA := Lib.hid hA
  have HL := Lib.hid hl
  have HB := Lib.hid hb
  have HS : Hid ((sched b).length = 64) := sched_length b
  have HF : Hid (∀ k, k < 16 → (sched b).getD k 0 = word (b.getD (4 * k) 0) (b.getD (4 * k + 1) 0) (b.getD (4 * k + 2) 0) (b.getD (4 * k + 3) 0)) := fun k hk => sched_first b hk
  have HX : Hid (∀ i, 16 ≤ i → i < 64 → (sched b).getD i 0 = ((((sched b).getD (i - 16) 0 + lows ((sched b).getD (i - 15) 0)) % 4294967296 + (sched b).getD (i - 7) 0) % 4294967296 + highs ((sched b).getD (i - 2) 0)) % 4294967296) := fun i h1 h2 => sched_next b h1 h2
  have HLT : Hid (∀ i, (sched b).getD i 0 < 4294967296) := sched_lt b hb
  obtain ⟨R, r0, r1, r2, r3⟩ := rounds_run H b hH
  have HR0 := Lib.hid r0
  have HR1 := Lib.hid r1
  have HRB := Lib.hid r2
  have HEnd := Lib.hid r3
  obtain ⟨L, hL⟩ : ∃ L, sched b = L := ⟨_, rfl⟩
  rw [hL] at HS HF HX HLT HR1
  clear hh hA hl hb hL hi0 hz0 hz1 hz2 r0 r1 r2 r3
  go_enter Tryz.func67, Tryz.ntmps67
  go_wp2_with fail
  go_loopw [5, 6] (fun v i wr => ∃ k : Nat, i = .int .i64 (k : Int) ∧ k ≤ 16 ∧ wr.ownsRow w.heap.size 118 1 v k (wvs (L.take k)) ∧ Below w.heap.size w wr) (fun _ i _ => 16 - (intOf i).toNat)
  case atStart => exact ⟨0, rfl, Nat.zero_le _, World.ownsRow_nil _ _ _ _, Below.refl _ _⟩
  case round =>
    obtain ⟨k, rfl, hk, how, hB⟩ := hrel
    have HO := Lib.hid how
    have HBB := Lib.hid hB
    have hbs := hB.size
    by_cases hlt : k < 16
    · have x0 := cell_then hB (HA.out (4 * k) (by rw [HL.out]; omega))
      have x1 := cell_then hB (HA.out (4 * k + 1) (by rw [HL.out]; omega))
      have x2 := cell_then hB (HA.out (4 * k + 2) (by rw [HL.out]; omega))
      have x3 := cell_then hB (HA.out (4 * k + 3) (by rw [HL.out]; omega))
      have hn := HF.out k hlt
      have b0 := bytes_lt HB.out (4 * k)
      have b1 := bytes_lt HB.out (4 * k + 1)
      have b2 := bytes_lt HB.out (4 * k + 2)
      have b3 := bytes_lt HB.out (4 * k + 3)
      obtain ⟨v0, hv0⟩ : ∃ v, b.getD (4 * k) 0 = v := ⟨_, rfl⟩
      obtain ⟨v1, hv1⟩ : ∃ v, b.getD (4 * k + 1) 0 = v := ⟨_, rfl⟩
      obtain ⟨v2, hv2⟩ : ∃ v, b.getD (4 * k + 2) 0 = v := ⟨_, rfl⟩
      obtain ⟨v3, hv3⟩ : ∃ v, b.getD (4 * k + 3) 0 = v := ⟨_, rfl⟩
      rw [hv0] at b0 x0 hn
      rw [hv1] at b1 x1 hn
      rw [hv2] at b2 x2 hn
      rw [hv3] at b3 x3 hn
      have hV := word_bits b0 b1 b2 b3
      rw [← hn] at hV
      have hnx := fun v hv => take_next L (k := k) (v := v) (by rw [HS.out]; omega) hv
      obtain ⟨V, hVV⟩ : ∃ V, L.getD k 0 = V := ⟨_, rfl⟩
      rw [hVV] at hV
      have HNX := Lib.hid (hnx V hVV)
      have m0 := lt_size x0
      have X0 := Lib.hid x0
      have X1 := Lib.hid x1
      have X2 := Lib.hid x2
      have X3 := Lib.hid x3
      clear hv0 hv1 hv2 hv3 hB how hn hnx hVV x0 x1 x2 x3
      go_wp2_with fail
      -- REGION 1
      have hgb : gb < w.heap.size := lt_size (HA.out 0 (by rw [HL.out]; omega))
      have p0 : (0 : Int) ≤ 4 * (k : Int) := by omega
      have p1 : 4 * (k : Int) < 64 := by omega
      have p2 : 4 * (k : Int) + 1 < 64 := by omega
      have p3 : 4 * (k : Int) + 2 < 64 := by omega
      have p4 : 4 * (k : Int) + 3 < 64 := by omega
      have p5 : (0 : Int) ≤ 4 * (k : Int) + 1 := by omega
      have p6 : (0 : Int) ≤ 4 * (k : Int) + 2 := by omega
      have p7 : (0 : Int) ≤ 4 * (k : Int) + 3 := by omega
      have p8 : (4 * (k : Int)).toNat = 4 * k := by omega
      have p9 : (4 * (k : Int) + 1).toNat = 4 * k + 1 := by omega
      have pa : (4 * (k : Int) + 2).toNat = 4 * k + 2 := by omega
      have pb : (4 * (k : Int) + 3).toNat = 4 * k + 3 := by omega
      have w0 : IntKind.u32.wrap (v0 : Int) = (v0 : Int) := u32_id (by omega) (by omega)
      have w1 : IntKind.u32.wrap (v1 : Int) = (v1 : Int) := u32_id (by omega) (by omega)
      have w2 : IntKind.u32.wrap (v2 : Int) = (v2 : Int) := u32_id (by omega) (by omega)
      have w3 : IntKind.u32.wrap (v3 : Int) = (v3 : Int) := u32_id (by omega) (by omega)
      have w4 : IntKind.u32.wrap ((v0 : Int) * 16777216) = (v0 : Int) * 16777216 := u32_id (by omega) (by omega)
      have w5 : IntKind.u32.wrap ((v1 : Int) * 65536) = (v1 : Int) * 65536 := u32_id (by omega) (by omega)
      have w6 : IntKind.u32.wrap ((v2 : Int) * 256) = (v2 : Int) * 256 := u32_id (by omega) (by omega)
      have pc : IntKind.i64.wrap (4 * (k : Int)) = 4 * (k : Int) := IntWalk.i64_in _ (by omega)
      have pd : IntKind.i64.wrap (4 * (k : Int) + 1) = 4 * (k : Int) + 1 := IntWalk.i64_in _ (by omega)
      have pe : IntKind.i64.wrap (4 * (k : Int) + 2) = 4 * (k : Int) + 2 := IntWalk.i64_in _ (by omega)
      have pf : IntKind.i64.wrap (4 * (k : Int) + 3) = 4 * (k : Int) + 3 := IntWalk.i64_in _ (by omega)
      have hnot : ∀ q, q < w.heap.size → q ∉ u5.ownBlock.toList := fun q hq h => by have := (HO.out.lt q (own_mem h)).1; omega
      go_region_held3 (fun w' => Kept u5.ownBlock.toList wr w' ∧ w'.cell? ⟨gb, ob + (4 * k), none⟩ = some (.int .u8 (v0 : Int)) ∧ w'.cell? ⟨gb, ob + (4 * k + 1), none⟩ = some (.int .u8 (v1 : Int)) ∧ w'.cell? ⟨gb, ob + (4 * k + 2), none⟩ = some (.int .u8 (v2 : Int)) ∧ w'.cell? ⟨gb, ob + (4 * k + 3), none⟩ = some (.int .u8 (v3 : Int))) ((suffices hK : Kept u5.ownBlock.toList wr _ from ⟨hK, hK.cell X0.out (hnot _ (by omega)), hK.cell X1.out (hnot _ (by omega)), hK.cell X2.out (hnot _ (by omega)), hK.cell X3.out (hnot _ (by omega))⟩; repeat (first | with_reducible exact Kept.refl _ _ | with_reducible refine Kept.alloc ?_ _ | with_reducible refine Kept.drew ?_ | with_reducible exact HK4.out))) (first | (refine step_append1 (by rfl) _ _ 119 (by rfl) w.heap.size 118 i0 _ 1 4 Tryz.underlying119 I1.out I2.out I3.out I4.out rfl (by omega) (by omega) u5 k _ (by rfl) (own_then HO.out (by repeat (first | with_reducible exact Below.refl _ _ | with_reducible refine below_alloc ?_ _ | with_reducible refine Below.drew ?_))) wr.heap.size [.int .u32 (V : Int)] (by rfl) rfl (by first | exact new_one1 _ _ _ | exact new_one1 wr.drew _ _) (by simp [Value.oneCell']) (by omega) (by first | (simp; done) | (simp; omega) | omega) ?_; intro g4 c4 w4 o4 k4 h4; have HK4 := Lib.hid (((Kept.of_below (show Below wr.heap.size wr _ by repeat (first | with_reducible exact Below.refl _ _ | with_reducible refine below_alloc ?_ _ | with_reducible refine Below.drew ?_))).mono (fun _ h => by cases h)).trans k4 (New.refl _ _)); have HO4 := Lib.hid o4))
      go_wp2_with fail
      refine ⟨⟨k + 1, by rfl, by omega, by rw [HNX.out]; exact HO4.out, HK4.out.below_next HBB.out hbs (fun q hq => (HO.out.lt q (own_mem hq)).1)⟩, by simp [intOf]; omega⟩
    · obtain rfl : k = 16 := by omega
      have g1 : ¬ ((16 : Nat) : Int) < 16 := by omega
      clear how hB
      go_wp2_with fail
      obtain ⟨wo, hwo⟩ : ∃ W, wr = W := ⟨_, rfl⟩
      rw [hwo] at HO HBB ⊢
      clear hwo hbs
      go_loopw [5, 7] (fun v i wr => ∃ k : Nat, i = .int .i64 (k : Int) ∧ 16 ≤ k ∧ k ≤ 64 ∧ wr.ownsRow w.heap.size 118 1 v k (wvs (L.take k)) ∧ Below w.heap.size w wr) (fun _ i _ => 64 - (intOf i).toNat)
      case atStart => exact ⟨16, rfl, by omega, by omega, HO.out, HBB.out⟩
      case round =>
        obtain ⟨k, rfl, hk1, hk, how, hB⟩ := hrel
        have HO2 := Lib.hid how
        have HB2 := Lib.hid hB
        have hbs := hB.size
        obtain ⟨g, cg, rfl, hg1, hg2⟩ := how.form (by omega)
        by_cases hlt : k < 64
        · have hwd := words_of_own how
          have hlen : (L.take k).length = k := by rw [List.length_take, HS.out]; omega
          have hget : ∀ j, j < k → (L.take k).getD j 0 = L.getD j 0 := fun j hj => by simp [List.getD, hj]
          have x0 := hwd (k - 15) (by rw [hlen]; omega)
          have x1 := hwd (k - 2) (by rw [hlen]; omega)
          have x2 := hwd (k - 16) (by rw [hlen]; omega)
          have x3 := hwd (k - 7) (by rw [hlen]; omega)
          rw [hget _ (by omega), Nat.zero_add] at x0 x1 x2 x3
          have hn := HX.out k hk1 hlt
          have b0 := HLT.out (k - 15)
          have b1 := HLT.out (k - 2)
          have b2 := HLT.out (k - 16)
          have b3 := HLT.out (k - 7)
          obtain ⟨v0, hv0⟩ : ∃ v, L.getD (k - 15) 0 = v := ⟨_, rfl⟩
          obtain ⟨v1, hv1⟩ : ∃ v, L.getD (k - 2) 0 = v := ⟨_, rfl⟩
          obtain ⟨v2, hv2⟩ : ∃ v, L.getD (k - 16) 0 = v := ⟨_, rfl⟩
          obtain ⟨v3, hv3⟩ : ∃ v, L.getD (k - 7) 0 = v := ⟨_, rfl⟩
          rw [hv0] at b0 x0 hn
          rw [hv1] at b1 x1 hn
          rw [hv2] at b2 x2 hn
          rw [hv3] at b3 x3 hn
          have hnx := fun v hv => take_next L (k := k) (v := v) (by rw [HS.out]; omega) hv
          obtain ⟨V, hVV⟩ : ∃ V, L.getD k 0 = V := ⟨_, rfl⟩
          rw [hVV] at hn
          have HNX := Lib.hid (hnx V hVV)
          have HV := Lib.hid hn
          have RA := Lib.hid (fun (d : Nat) (os : Array Obj) => rrot_b v0 7 (Sort.grow (redrawn wr d) os) b0 (by omega) (by omega))
          have RB := Lib.hid (fun (d : Nat) (os : Array Obj) => rrot_b v0 18 (Sort.grow (redrawn wr d) os) b0 (by omega) (by omega))
          have ex1 : bits .xor .u32 ((rotr 7 v0 : Nat) : Int) ((rotr 18 v0 : Nat) : Int) = ((m2 v0 7 18 : Nat) : Int) := u32_xor_nat _ _ (rotr_lt _ _ b0) (rotr_lt _ _ b0)
          have ex2 : bits .xor .u32 ((m2 v0 7 18 : Nat) : Int) ((v0 : Int) / 8) = ((lows v0 : Nat) : Int) := low_bits (y := 3) b0 (m2_lt _ _ _ b0)
          have ey1 : bits .xor .u32 ((rotr 17 v1 : Nat) : Int) ((rotr 19 v1 : Nat) : Int) = ((m2 v1 17 19 : Nat) : Int) := u32_xor_nat _ _ (rotr_lt _ _ b1) (rotr_lt _ _ b1)
          have ey2 : bits .xor .u32 ((m2 v1 17 19 : Nat) : Int) ((v1 : Int) / 1024) = ((highs v1 : Nat) : Int) := low_bits (y := 10) b1 (m2_lt _ _ _ b1)
          obtain ⟨LO, hLO⟩ : ∃ x, lows v0 = x := ⟨_, rfl⟩
          obtain ⟨HI, hHI⟩ : ∃ x, highs v1 = x := ⟨_, rfl⟩
          rw [hLO] at ex2 HV
          rw [hHI] at ey2 HV
          obtain ⟨M1, hM1⟩ : ∃ x, m2 v0 7 18 = x := ⟨_, rfl⟩
          obtain ⟨M2, hM2⟩ : ∃ x, m2 v1 17 19 = x := ⟨_, rfl⟩
          rw [hM1] at ex1 ex2
          rw [hM2] at ey1 ey2
          have X0 := Lib.hid x0
          have X1 := Lib.hid x1
          have X2 := Lib.hid x2
          have X3 := Lib.hid x3
          have n1 : (0 : Int) ≤ (k : Int) - 15 := by omega
          have n2 : (k : Int) - 15 < (k : Int) := by omega
          have n3 : ((k : Int) - 15).toNat = k - 15 := by omega
          have n4 : (0 : Int) ≤ (k : Int) - 2 := by omega
          have n5 : (k : Int) - 2 < (k : Int) := by omega
          have n6 : ((k : Int) - 2).toNat = k - 2 := by omega
          have n7 : (0 : Int) ≤ (k : Int) - 16 := by omega
          have n8 : (k : Int) - 16 < (k : Int) := by omega
          have n9 : ((k : Int) - 16).toNat = k - 16 := by omega
          have na : (0 : Int) ≤ (k : Int) - 7 := by omega
          have nb : (k : Int) - 7 < (k : Int) := by omega
          have nc : ((k : Int) - 7).toNat = k - 7 := by omega
          clear how hB hwd hlen hget hv0 hv1 hv2 hv3 hnx hVV hn hLO hHI hM1 hM2 x0 x1 x2 x3
          go_wp2_with fail
          have g_x0 := fun D os => cell_regrown X0.out D os
          refine wp_region_quiet_below (by kernel_rfl) (by kernel_rfl) ?_
          repeat (go_big_quiet_step (first | (with_reducible exact Calls.regrown_of (RA.out _ _)) | (with_reducible exact Calls.regrown_of (RB.out _ _))))
          refine wpQuiet_nil ?_
          intro wq hq0
          have hq := below_of_class hq0
          clear hq0
          clear g_x0 ex1 ex2 RA RB
          have RC := Lib.hid (fun (d : Nat) (os : Array Obj) => rrot_b v1 17 (Sort.grow (redrawn wq d) os) b1 (by omega) (by omega))
          have RD := Lib.hid (fun (d : Nat) (os : Array Obj) => rrot_b v1 19 (Sort.grow (redrawn wq d) os) b1 (by omega) (by omega))
          have X1q := Lib.hid (cell_then hq X1.out)
          have X2q := Lib.hid (cell_then hq X2.out)
          have X3q := Lib.hid (cell_then hq X3.out)
          have HOq := Lib.hid (own_then HO2.out hq)
          have HBq := Lib.hid (below_next HB2.out hq)
          clear X0 X1 X2 X3 HO2 HB2 hbs hq
          obtain ⟨wp, hwp⟩ : ∃ W, wq = W := ⟨_, rfl⟩
          rw [hwp] at RC RD X1q X2q X3q HOq HBq ⊢
          clear hwp
          go_wp2_with fail
          have g_x1 := fun D os => cell_regrown X1q.out D os
          refine wp_region_quiet_below (by kernel_rfl) (by kernel_rfl) ?_
          repeat (go_big_quiet_step (first | (with_reducible exact Calls.regrown_of (RC.out _ _)) | (with_reducible exact Calls.regrown_of (RD.out _ _))))
          refine wpQuiet_nil ?_
          intro wq hq0
          have hq := below_of_class hq0
          clear hq0
          clear g_x1 ey1 ey2 RC RD
          have X2r := cell_then hq X2q.out
          have X3r := cell_then hq X3q.out
          have HOr := Lib.hid (own_then HOq.out hq)
          have HBr := Lib.hid (below_next HBq.out hq)
          have hbs := HBr.out.size
          have lg := lt_size X2r
          clear X1q X2q X3q HOq HBq hq
          obtain ⟨wp2, hwp⟩ : ∃ W, wq = W := ⟨_, rfl⟩
          rw [hwp] at X2r X3r HOr HBr hbs lg ⊢
          clear hwp
          have eA := u32_add v2 LO
          have eB := u32_add ((v2 + LO) % 4294967296) v3
          have eC := u32_add (((v2 + LO) % 4294967296 + v3) % 4294967296) HI
          rw [← HV.out] at eC
          obtain ⟨A1, hA1⟩ : ∃ x, (v2 + LO) % 4294967296 = x := ⟨_, rfl⟩
          rw [hA1] at eA eB eC
          obtain ⟨A2, hA2⟩ : ∃ x, (A1 + v3) % 4294967296 = x := ⟨_, rfl⟩
          rw [hA2] at eB eC
          have eA' := u32_add' v2 LO
          have eB' := u32_add' A1 v3
          have eC' := u32_add' A2 HI
          rw [hA1] at eA'
          rw [hA2] at eB'
          have hVx : (A2 + HI) % 4294967296 = V := by rw [HV.out, hA1, hA2]
          rw [hVx] at eC'
          clear hA1 hA2 hVx
          have l1 : (16 : Int) ≤ (k : Int) := by omega
          have l2 : (7 : Int) ≤ (k : Int) := by omega
          have m1 : IntKind.i64.wrap ((k : Int) - 16) = (k : Int) - 16 := IntWalk.i64_in _ (by omega)
          have m2 : IntKind.i64.wrap ((k : Int) - 7) = (k : Int) - 7 := IntWalk.i64_in _ (by omega)
          go_wp2_with fail
          go_region_law (refine step_append1 (by rfl) _ _ 119 (by rfl) w.heap.size 118 i0 _ 1 4 Tryz.underlying119 I1.out I2.out I3.out I4.out rfl (by omega) (by omega) (.slice (some ⟨g, 0, none⟩) k cg) k _ (by rfl) (own_then HOr.out (by repeat (first | with_reducible exact Below.refl _ _ | with_reducible refine below_alloc ?_ _ | with_reducible refine Below.drew ?_))) wp2.heap.size [.int .u32 (V : Int)] (by rfl) rfl (by first | exact new_one1 _ _ _ | exact new_one1 wp2.drew _ _) (by simp [Value.oneCell']) (by omega) (by first | (simp; done) | (simp; omega) | omega) ?_; intro g6 c6 w6 o6 k6 h6)
          all_goals
            simp only [Act.put, List.setIfInBounds_toArray, List.set_cons_zero, List.set_cons_succ, List.getElem_toArray, List.getElem_cons_zero, List.getElem_cons_succ]
            have HB6 := Lib.hid (k6.below_next (B := w.heap.size) (w0 := w) (below_next HBr.out (by repeat (first | with_reducible exact Below.refl _ _ | with_reducible refine below_alloc ?_ _ | with_reducible refine Below.drew ?_))) (by first | (simp; done) | (simp; omega) | omega) (fun q hq => (HOr.out.lt q (own_mem hq)).1))
            have HO6 := Lib.hid o6
            clear o6 k6 h6
            go_wp2_with fail
            refine ⟨⟨k + 1, by rfl, by omega, by omega, by rw [HNX.out]; exact HO6.out, HB6.out⟩, by simp [intOf]; omega⟩
        · obtain rfl : k = 64 := by omega
          have g1 : ¬ ((64 : Nat) : Int) < 64 := by omega
          have hfull : L.take 64 = L := List.take_of_length_le (by rw [HS.out]; exact Nat.le_refl _)
          rw [hfull] at how
          have HWL := Lib.hid (words_of_own how)
          clear how hB hfull HO2
          obtain ⟨wo2, hwo2⟩ : ∃ W, wr = W := ⟨_, rfl⟩
          rw [hwo2] at HWL HB2 hbs hg2 ⊢
          clear hwo2 HO HBB
          have HHv : Hid ((vl H).length = 8) := rfl
          have HH2 := Lib.hid (HH.out.then_ HB2.out)
          have HH3 : Hid (∀ (W : World), Below wo2.heap.size wo2 W → ∀ j u, (wvs (vl H))[j]? = some u → W.cell? ((⟨gh, 0, none⟩ : Addr).add j) = some u) := by
            intro W hW j u hj
            have hl : j < (vl H).length := by
              have := (List.getElem?_eq_some_iff.1 hj).1
              rwa [wvs_length] at this
            have := cell_then hW (HH2.out j hl)
            rw [Nat.zero_add] at this
            rw [add0, this, ← hj]
            simp [wvs, List.getD, hl]
          obtain ⟨LH, hLH⟩ : ∃ l, vl H = l := ⟨_, rfl⟩
          rw [hLH] at HHv HH3
          have HLH := Lib.hid hLH
          clear hLH
          go_wp2_with (first | (go_at_call 93; (with_reducible refine (constants_any _).mono ?_); rintro e w7 ⟨gk, rfl, hwk, b7⟩; have HWK := Lib.hid hwk; have HB7 := Lib.hid b7; clear hwk b7) | (at_builtin; refine wpList_append_lies _ rfl _ _ 119 rfl w.heap.size 118 i0 _ 1 4 Tryz.underlying119 I1.out I2.out I3.out I4.out rfl (by omega) (.slice none 0 0) 0 [] rfl (World.ownsRow_nil _ _ _ _) ⟨gh, 0, none⟩ 8 ch (wvs LH) rfl (by rw [wvs_length, HHv.out]) (HH3.out _ HB7.out) (fun u hu => by obtain ⟨x, _, rfl⟩ := List.mem_map.1 hu; rfl) (by omega) (by unfold maxLen; omega) (by omega) (by have := HB7.out.size; omega) _ rfl ?_; intro gv cv w8 o8 k8 h8 h9))
          have hnil : ∀ q, (Value.slice none 0 0).ownBlock = some q → False := fun q hq => by cases hq
          have B8 : Below wo2.heap.size wo2 w8 := below_next HB7.out (((Kept.refl [] w7).grown k8 (fun q hq => (hnil q hq).elim)).below (Nat.le_refl _) (fun q hq => by cases hq))
          have b78 : Below w7.heap.size w7 w8 := ((Kept.refl [] w7).grown k8 (fun q hq => (hnil q hq).elim)).below (Nat.le_refl _) (fun q hq => by cases hq)
          have HB8 := Lib.hid (below_next HB2.out B8)
          have hwv : WordsAt w8 gv 0 LH := by
            have := words_of_own (L := LH) (g := gv) (c := cv) (n := 8) (by simpa using o8)
            exact this
          have HWV := Lib.hid hwv
          have HWK8 := Lib.hid (HWK.out.then_ b78)
          have HWL8 := Lib.hid (HWL.out.then_ B8)
          have HH8 := Lib.hid (HH2.out.then_ B8)
          clear o8 k8 h8 h9 hnil b78 B8 hwv HWK HB7 HH3 HWL HH2 HHv hg2 hbs HB2
          have HKB : Hid (∀ k, K64.getD k 0 < 4294967296) := k64_lt
          have HKL : Hid (K64.length = 64) := rfl
          obtain ⟨K, hKK⟩ : ∃ l, K64 = l := ⟨_, rfl⟩
          rw [hKK] at HWK8 HKB HKL HR1
          clear hKK
          go_loopw [11, 12] (fun v i wr => ∃ (k gv cv : Nat), i = .int .i64 (k : Int) ∧ k ≤ 64 ∧ v = .slice (some ⟨gv, 0, none⟩) 8 cv ∧ WordsAt wr gv 0 (vl (R k)) ∧ Below w8.heap.size w8 wr) (fun _ i _ => 64 - (intOf i).toNat)
          case atStart => exact ⟨0, gv, cv, rfl, Nat.zero_le _, rfl, by rw [HR0.out, HLH.out]; exact HWV.out, Below.refl _ _⟩
          case round =>
            obtain ⟨k, gv', cv', rfl, hk, rfl, hwv, hB⟩ := hrel
            by_cases hlt : k < 64
            · have xk := cell_then hB (HWK8.out k (by rw [HKL.out]; exact hlt))
              have xl := cell_then hB (HWL8.out k (by rw [HS.out]; exact hlt))
              rw [Nat.zero_add] at xk xl
              have hs1 := HR1.out k hlt
              have hvb := HRB.out k
              have bk := HKB.out k
              have bl := HLT.out k
              obtain ⟨v, hv⟩ : ∃ v, R k = v := ⟨_, rfl⟩
              rw [hv] at hs1 hvb hwv
              obtain ⟨kk, hkk⟩ : ∃ v, K.getD k 0 = v := ⟨_, rfl⟩
              rw [hkk] at xk hs1 bk
              obtain ⟨ww, hww⟩ : ∃ v, L.getD k 0 = v := ⟨_, rfl⟩
              rw [hww] at xl hs1 bl
              obtain ⟨a, b, c', d, e, f, g', z⟩ := v
              have he : e < 4294967296 := hvb.e
              have ha : a < 4294967296 := hvb.a
              have hv1 : R (k + 1) = ⟨(tt ⟨a, b, c', d, e, f, g', z⟩ kk ww + uu ⟨a, b, c', d, e, f, g', z⟩) % 4294967296, a, b, c', (d + tt ⟨a, b, c', d, e, f, g', z⟩ kk ww) % 4294967296, e, f, g'⟩ := hs1
              obtain ⟨T0, hT0⟩ : ∃ T0, tt ⟨a, b, c', d, e, f, g', z⟩ kk ww = T0 := ⟨_, rfl⟩
              obtain ⟨U0, hU0⟩ : ∃ U0, uu ⟨a, b, c', d, e, f, g', z⟩ = U0 := ⟨_, rfl⟩
              have hT : ((((z + m3 e 6 11 25) % 4294967296 + chs e f g') % 4294967296 + kk) % 4294967296 + ww) % 4294967296 = T0 := hT0
              have hU : (m3 a 2 13 22 + maj a b c') % 4294967296 = U0 := hU0
              rw [hT0] at hv1
              rw [hU0] at hv1
              have hf : f < 4294967296 := hvb.f
              have hg : g' < 4294967296 := hvb.g
              have hbb : b < 4294967296 := hvb.b
              have hcc : c' < 4294967296 := hvb.c
              have q1 : e &&& f < 4294967296 := Nat.and_lt_two_pow (n := 32) _ hf
              have q2 : (4294967295 - e) &&& g' < 4294967296 := Nat.and_lt_two_pow (n := 32) _ hg
              have q3 : a &&& b < 4294967296 := Nat.and_lt_two_pow (n := 32) _ hbb
              have q4 : a &&& c' < 4294967296 := Nat.and_lt_two_pow (n := 32) _ hcc
              have q5 : b &&& c' < 4294967296 := Nat.and_lt_two_pow (n := 32) _ hcc
              have et1 : bits .and .u32 (e : Int) (f : Int) = ((e &&& f : Nat) : Int) := u32_and_nat _ _ he hf
              have et2 : bits .xor .u32 (if IntKind.u32.signed = true then -1 else IntKind.u32.max) (e : Int) = ((4294967295 - e : Nat) : Int) := not_u32 _ he
              have et3 : bits .and .u32 ((4294967295 - e : Nat) : Int) (g' : Int) = (((4294967295 - e) &&& g' : Nat) : Int) := u32_and_nat _ _ (by omega) hg
              have et4 : bits .xor .u32 ((e &&& f : Nat) : Int) (((4294967295 - e) &&& g' : Nat) : Int) = ((chs e f g' : Nat) : Int) := u32_xor_nat _ _ q1 q2
              have eu1 : bits .and .u32 (a : Int) (b : Int) = ((a &&& b : Nat) : Int) := u32_and_nat _ _ ha hbb
              have eu2 : bits .and .u32 (a : Int) (c' : Int) = ((a &&& c' : Nat) : Int) := u32_and_nat _ _ ha hcc
              have eu3 : bits .and .u32 (b : Int) (c' : Int) = ((b &&& c' : Nat) : Int) := u32_and_nat _ _ hbb hcc
              have eu4 : bits .xor .u32 ((a &&& b : Nat) : Int) ((a &&& c' : Nat) : Int) = (((a &&& b) ^^^ (a &&& c') : Nat) : Int) := u32_xor_nat _ _ q3 q4
              have eu5 : bits .xor .u32 (((a &&& b) ^^^ (a &&& c') : Nat) : Int) ((b &&& c' : Nat) : Int) = ((maj a b c' : Nat) : Int) := u32_xor_nat _ _ (Nat.xor_lt_two_pow (n := 32) q3 q4) q5
              obtain ⟨Y1, hY1⟩ : ∃ x, e &&& f = x := ⟨_, rfl⟩
              obtain ⟨Y2, hY2⟩ : ∃ x, 4294967295 - e = x := ⟨_, rfl⟩
              obtain ⟨Y4, hY4⟩ : ∃ x, chs e f g' = x := ⟨_, rfl⟩
              rw [hY1] at et1 et4
              rw [hY2] at et2 et3 et4
              rw [hY4] at et4 hT
              obtain ⟨Y3, hY3⟩ : ∃ x, Y2 &&& g' = x := ⟨_, rfl⟩
              rw [hY3] at et3 et4
              obtain ⟨Y5, hY5⟩ : ∃ x, a &&& b = x := ⟨_, rfl⟩
              obtain ⟨Y6, hY6⟩ : ∃ x, a &&& c' = x := ⟨_, rfl⟩
              obtain ⟨Y7, hY7⟩ : ∃ x, b &&& c' = x := ⟨_, rfl⟩
              obtain ⟨Y9, hY9⟩ : ∃ x, maj a b c' = x := ⟨_, rfl⟩
              rw [hY5] at eu1 eu4 eu5
              rw [hY6] at eu2 eu4 eu5
              rw [hY7] at eu3 eu5
              rw [hY9] at eu5 hU
              obtain ⟨Y8, hY8⟩ : ∃ x, Y5 ^^^ Y6 = x := ⟨_, rfl⟩
              rw [hY8] at eu4 eu5
              have EU1 := Lib.hid eu1
              have EU2 := Lib.hid eu2
              have EU3 := Lib.hid eu3
              have EU4 := Lib.hid eu4
              have EU5 := Lib.hid eu5
              have em1 : bits .xor .u32 ((rotr 6 e : Nat) : Int) ((rotr 11 e : Nat) : Int) = ((m2 e 6 11 : Nat) : Int) := u32_xor_nat _ _ (rotr_lt _ _ he) (rotr_lt _ _ he)
              have em2 : bits .xor .u32 ((m2 e 6 11 : Nat) : Int) ((rotr 25 e : Nat) : Int) = ((m3 e 6 11 25 : Nat) : Int) := u32_xor_nat _ _ (m2_lt _ _ _ he) (rotr_lt _ _ he)
              have ea1 : bits .xor .u32 ((rotr 2 a : Nat) : Int) ((rotr 13 a : Nat) : Int) = ((m2 a 2 13 : Nat) : Int) := u32_xor_nat _ _ (rotr_lt _ _ ha) (rotr_lt _ _ ha)
              have ea2 : bits .xor .u32 ((m2 a 2 13 : Nat) : Int) ((rotr 22 a : Nat) : Int) = ((m3 a 2 13 22 : Nat) : Int) := u32_xor_nat _ _ (m2_lt _ _ _ ha) (rotr_lt _ _ ha)
              have c0 : wr.cell? ⟨gv', 0, none⟩ = some (.int .u32 (a : Int)) := hwv 0 (by simp [vl])
              have c1 : wr.cell? ⟨gv', 1, none⟩ = some (.int .u32 (b : Int)) := hwv 1 (by simp [vl])
              have c2 : wr.cell? ⟨gv', 2, none⟩ = some (.int .u32 (c' : Int)) := hwv 2 (by simp [vl])
              have c3 : wr.cell? ⟨gv', 3, none⟩ = some (.int .u32 (d : Int)) := hwv 3 (by simp [vl])
              have c4 : wr.cell? ⟨gv', 4, none⟩ = some (.int .u32 (e : Int)) := hwv 4 (by simp [vl])
              have c5 : wr.cell? ⟨gv', 5, none⟩ = some (.int .u32 (f : Int)) := hwv 5 (by simp [vl])
              have c6 : wr.cell? ⟨gv', 6, none⟩ = some (.int .u32 (g' : Int)) := hwv 6 (by simp [vl])
              have c7 : wr.cell? ⟨gv', 7, none⟩ = some (.int .u32 (z : Int)) := hwv 7 (by simp [vl])
              have C1 := Lib.hid c1
              have C2 := Lib.hid c2
              have C3 := Lib.hid c3
              have C5 := Lib.hid c5
              have C6 := Lib.hid c6
              have C7 := Lib.hid c7
              have XK := Lib.hid xk
              have XL := Lib.hid xl
              have HV1 := Lib.hid hv1
              have HB9 := Lib.hid hB
              have RA := Lib.hid (fun (d : Nat) (os : Array Obj) => rrot_b e 6 (Sort.grow (redrawn wr d) os) he (by omega) (by omega))
              have RB := Lib.hid (fun (d : Nat) (os : Array Obj) => rrot_b e 11 (Sort.grow (redrawn wr d) os) he (by omega) (by omega))
              have RC := Lib.hid (fun (d : Nat) (os : Array Obj) => rrot_b e 25 (Sort.grow (redrawn wr d) os) he (by omega) (by omega))
              obtain ⟨m25, h25⟩ : ∃ x, m2 e 6 11 = x := ⟨_, rfl⟩
              obtain ⟨m26, h26⟩ : ∃ x, m3 e 6 11 25 = x := ⟨_, rfl⟩
              obtain ⟨m27, h27⟩ : ∃ x, m2 a 2 13 = x := ⟨_, rfl⟩
              obtain ⟨m28, h28⟩ : ∃ x, m3 a 2 13 22 = x := ⟨_, rfl⟩
              rw [h25] at em1 em2
              rw [h26] at em2 hT
              rw [h27] at ea1 ea2
              rw [h28] at ea2 hU
              have ht1 := u32_add z m26
              have ht1' := u32_add' z m26
              obtain ⟨S1, hS1⟩ : ∃ x, (z + m26) % 4294967296 = x := ⟨_, rfl⟩
              rw [hS1] at ht1 ht1' hT
              have ht2 := u32_add S1 Y4
              have ht2' := u32_add' S1 Y4
              obtain ⟨S2, hS2⟩ : ∃ x, (S1 + Y4) % 4294967296 = x := ⟨_, rfl⟩
              rw [hS2] at ht2 ht2' hT
              have ht3 := u32_add S2 kk
              have ht3' := u32_add' S2 kk
              obtain ⟨S3, hS3⟩ : ∃ x, (S2 + kk) % 4294967296 = x := ⟨_, rfl⟩
              rw [hS3] at ht3 ht3' hT
              have ht4 := u32_add S3 ww
              have ht4' := u32_add' S3 ww
              rw [hT] at ht4 ht4'
              have hu1 := u32_add m28 Y9
              have hu1' := u32_add' m28 Y9
              rw [hU] at hu1 hu1'
              have HU1 := Lib.hid hu1
              have HU2 := Lib.hid hu1'
              have EA1 := Lib.hid ea1
              have EA2 := Lib.hid ea2

              have i9 : (k : Int) < 64 := by omega
              clear hS1 hS2 hS3 hu1 hu1' ea1 ea2 eu1 eu2 eu3 eu4 eu5 hY1 hY2 hY3 hY4 hY5 hY6 hY7 hY8 hY9 q1 q2 q3 q4 q5 hf hg hbb hcc hwv hB hv hkk hww hT hU hv1 hs1 hvb bk bl c1 c2 c3 c5 c6 c7 xk xl hT0 hU0 h25 h26 h27 h28
              go_wp2_with fail
              have g_5 := fun D os => cell_regrown C5.out D os
              have g_6 := fun D os => cell_regrown C6.out D os
              have g_7 := fun D os => cell_regrown C7.out D os
              have g_k := fun D os => cell_regrown XK.out D os
              have g_l := fun D os => cell_regrown XL.out D os
              refine wp_region_quiet_below (by kernel_rfl) (by kernel_rfl) ?_
              repeat (go_big_quiet_step (first | (with_reducible exact Calls.regrown_of (RA.out _ _)) | (with_reducible exact Calls.regrown_of (RB.out _ _)) | (with_reducible exact Calls.regrown_of (RC.out _ _))))
              refine wpQuiet_nil ?_
              intro wq hq0
              have hq := below_of_class hq0
              clear hq0
              clear g_5 g_6 g_7 g_k g_l RA RB RC em1 em2 et1 et2 et3 et4 ht1 ht1' ht2 ht2' ht3 ht3' ht4 ht4'
              have HC1 := Lib.hid (cell_then hq C1.out)
              have HC2 := Lib.hid (cell_then hq C2.out)
              have HC3 := Lib.hid (cell_then hq C3.out)
              have HC5 := Lib.hid (cell_then hq C5.out)
              have HC6 := Lib.hid (cell_then hq C6.out)
              have HBq := Lib.hid (below_next HB9.out hq)
              clear C1 C2 C3 C5 C6 C7 XK XL HB9 hq c0 c4
              obtain ⟨wp, hwp⟩ : ∃ W, wq = W := ⟨_, rfl⟩
              rw [hwp] at HC1 HC2 HC3 HC5 HC6 HBq ⊢
              clear hwp
              have RA := Lib.hid (fun (d : Nat) (os : Array Obj) => rrot_b a 2 (Sort.grow (redrawn wp d) os) ha (by omega) (by omega))
              have RB := Lib.hid (fun (d : Nat) (os : Array Obj) => rrot_b a 13 (Sort.grow (redrawn wp d) os) ha (by omega) (by omega))
              have RC := Lib.hid (fun (d : Nat) (os : Array Obj) => rrot_b a 22 (Sort.grow (redrawn wp d) os) ha (by omega) (by omega))
              go_wp2_with fail
              have g_1 := fun D os => cell_regrown HC1.out D os
              have g_2 := fun D os => cell_regrown HC2.out D os
              have ea1 := EA1.out
              have ea2 := EA2.out
              have eu1 := EU1.out
              have eu2 := EU2.out
              have eu3 := EU3.out
              have eu4 := EU4.out
              have eu5 := EU5.out
              have hu1 := HU1.out
              have hu1' := HU2.out
              refine wp_region_quiet_below (by kernel_rfl) (by kernel_rfl) ?_
              repeat (go_big_quiet_step (first | (with_reducible exact Calls.regrown_of (RA.out _ _)) | (with_reducible exact Calls.regrown_of (RB.out _ _)) | (with_reducible exact Calls.regrown_of (RC.out _ _))))
              refine wpQuiet_nil ?_
              intro wq hq0
              have hq := below_of_class hq0
              clear hq0
              clear g_1 g_2 RA RB RC ea1 ea2 eu1 eu2 eu3 eu4 eu5 hu1 hu1' EA1 EA2 EU1 EU2 EU3 EU4 EU5 HU1 HU2
              have D1 := Lib.hid (cell_then hq HC1.out)
              have D2 := Lib.hid (cell_then hq HC2.out)
              have D3 := Lib.hid (cell_then hq HC3.out)
              have D5 := Lib.hid (cell_then hq HC5.out)
              have D6 := Lib.hid (cell_then hq HC6.out)
              have HBr := Lib.hid (below_next HBq.out hq)
              clear HC1 HC2 HC3 HC5 HC6 HBq hq
              obtain ⟨wp2, hwp⟩ : ∃ W, wq = W := ⟨_, rfl⟩
              rw [hwp] at D1 D2 D3 D5 D6 HBr ⊢
              clear hwp
              have eA := u32_add' T0 U0
              have eE := u32_add' d T0
              have eA1 := u32_add T0 U0
              have eE1 := u32_add d T0
              obtain ⟨NA, hNA⟩ : ∃ x, (T0 + U0) % 4294967296 = x := ⟨_, rfl⟩
              obtain ⟨NE, hNE⟩ : ∃ x, (d + T0) % 4294967296 = x := ⟨_, rfl⟩
              rw [hNA] at eA eA1 HV1
              rw [hNE] at eE eE1 HV1
              clear hNA hNE
              go_wp2_with fail
              have g_1 := fun D os => cell_regrown D1.out D os
              have g_2 := fun D os => cell_regrown D2.out D os
              have g_3 := fun D os => cell_regrown D3.out D os
              have g_5 := fun D os => cell_regrown D5.out D os
              have g_6 := fun D os => cell_regrown D6.out D os
              refine wp_region_head 22 (by kernel_rfl) (by kernel_rfl) ?_
              simp only [List.take_succ_cons, List.take_zero, List.drop_succ_cons, List.drop_zero]
              repeat (go_big_quiet_step (fail))
              refine wpQuiet_nil ?_
              intro wq hq
              clear g_1 g_2 g_3 g_5 g_6
              go_wp2_with fail
              have hrow : RowW 118 (wq.alloc (.cells (wvs [NA, a, b, c', NE, e, f, g']).toArray 118)) wq.heap.size [NA, a, b, c', NE, e, f, g'] := heap_alloc_new _ _
              have hww := words_of_row hrow
              refine ⟨⟨k + 1, _, _, by rfl, by omega, rfl, ?_, below_alloc (below_next HBr.out hq) _⟩, by simp [intOf]; omega⟩
              rw [HV1.out]
              exact hww
            · obtain rfl : k = 64 := by omega
              have g2 : ¬ ((64 : Nat) : Int) < 64 := by omega
              have hadd := vl_add H (R 64)
              rw [← HEnd.out] at hadd
              have HV8 : Hid ((vl (R 64)).length = 8) := rfl
              have HH8L : Hid ((vl H).length = 8) := rfl
              have HE8 : Hid ((vl (addB H b)).length = 8) := rfl
              have HHW := Lib.hid (HH8.out.then_ hB)
              have HWV2 := Lib.hid hwv
              have HBW := Lib.hid (below_next HB8.out hB)
              obtain ⟨LE, hLE⟩ : ∃ x, vl (addB H b) = x := ⟨_, rfl⟩
              obtain ⟨LV, hLV⟩ : ∃ x, vl (R 64) = x := ⟨_, rfl⟩
              rw [hLE, hLV, HLH.out] at hadd
              rw [hLV] at HV8 HWV2
              rw [HLH.out] at HHW HH8L
              rw [hLE] at HE8
              have HADD := Lib.hid hadd
              have HLE := Lib.hid hLE
              clear hadd hLE hLV hwv hB HB8 HH8 HWV HWK8 HWL8
              go_wp2_with fail
              obtain ⟨wo3, hwo3⟩ : ∃ W, wr = W := ⟨_, rfl⟩
              rw [hwo3] at HHW HWV2 HBW ⊢
              clear hwo3
              have lgh : gh < wo3.heap.size := lt_size (HHW.out 0 (by rw [HH8L.out]; omega))
              have lgv : gv' < wo3.heap.size := lt_size (HWV2.out 0 (by rw [HV8.out]; omega))
              go_loopw [17, 18] (fun v i wr => ∃ j : Nat, i = .int .i64 (j : Int) ∧ j ≤ 8 ∧ wr.ownsRow wo3.heap.size 118 1 v j (wvs (LE.take j)) ∧ Below wo3.heap.size wo3 wr) (fun _ i _ => 8 - (intOf i).toNat)
              case atStart => exact ⟨0, rfl, Nat.zero_le _, World.ownsRow_nil _ _ _ _, Below.refl _ _⟩
              case round =>
                obtain ⟨j, rfl, hj, how, hB⟩ := hrel
                have HO7 := Lib.hid how
                have HB7 := Lib.hid hB
                have hbs := hB.size
                by_cases hlt2 : j < 8
                · have x0 := cell_then hB (HHW.out j (by rw [HH8L.out]; exact hlt2))
                  have x1 := cell_then hB (HWV2.out j (by rw [HV8.out]; exact hlt2))
                  rw [Nat.zero_add] at x0 x1
                  have hq := HADD.out j hlt2
                  obtain ⟨p, hp⟩ : ∃ x, LH.getD j 0 = x := ⟨_, rfl⟩
                  obtain ⟨q, hq2⟩ : ∃ x, LV.getD j 0 = x := ⟨_, rfl⟩
                  rw [hp] at x0 hq
                  rw [hq2] at x1 hq
                  have hnx := fun v hv => take_next LE (k := j) (v := v) (by rw [HE8.out]; omega) hv
                  have HNX := Lib.hid (hnx _ hq)
                  have e1 := u32_add p q
                  have e2 := u32_add' p q
                  obtain ⟨V1, hV1⟩ : ∃ x, (p + q) % 4294967296 = x := ⟨_, rfl⟩
                  rw [hV1] at e1 e2 HNX
                  have X0 := Lib.hid x0
                  have X1 := Lib.hid x1
                  have i8 : (j : Int) < 8 := by omega
                  clear how hB x0 x1 hq hp hq2 hnx hV1
                  go_wp2_with fail
                  have hnot : ∀ q, q < wo3.heap.size → q ∉ u17.ownBlock.toList := fun q hq h => by have := (HO7.out.lt q (own_mem h)).1; omega
                  go_region_held3 (fun w' => Kept u17.ownBlock.toList wr w' ∧ w'.cell? ⟨gh, j, none⟩ = some (.int .u32 (p : Int)) ∧ w'.cell? ⟨gv', j, none⟩ = some (.int .u32 (q : Int))) ((suffices hK : Kept u17.ownBlock.toList wr _ from ⟨hK, hK.cell X0.out (hnot _ (by omega)), hK.cell X1.out (hnot _ (by omega))⟩; repeat (first | with_reducible exact Kept.refl _ _ | with_reducible refine Kept.alloc ?_ _ | with_reducible refine Kept.drew ?_ | with_reducible exact HK9.out))) (first | (refine step_append1 (by rfl) _ _ 119 (by rfl) wo3.heap.size 118 i0 _ 1 4 Tryz.underlying119 I1.out I2.out I3.out I4.out rfl (by omega) (by omega) u17 j _ (by rfl) (own_then HO7.out (by repeat (first | with_reducible exact Below.refl _ _ | with_reducible refine below_alloc ?_ _ | with_reducible refine Below.drew ?_))) wr.heap.size [.int .u32 (V1 : Int)] (by rfl) rfl (by first | exact new_one1 _ _ _ | exact new_one1 wr.drew _ _) (by simp [Value.oneCell']) (by omega) (by first | (simp; done) | (simp; omega) | omega) ?_; intro g9 c9 w9 o9 k9 h9; have HK9 := Lib.hid (((Kept.of_below (show Below wr.heap.size wr _ by repeat (first | with_reducible exact Below.refl _ _ | with_reducible refine below_alloc ?_ _ | with_reducible refine Below.drew ?_))).mono (fun _ h => by cases h)).trans k9 (New.refl _ _)); have HO9 := Lib.hid o9))
                  go_wp2_with fail
                  refine ⟨⟨j + 1, by rfl, by omega, by rw [HNX.out]; exact HO9.out, HK9.out.below_next HB7.out hbs (fun q hq => (HO7.out.lt q (own_mem hq)).1)⟩, by simp [intOf]; omega⟩
                · obtain rfl : j = 8 := by omega
                  have g3 : ¬ ((8 : Nat) : Int) < 8 := by omega
                  have hfull : LE.take 8 = LE := List.take_of_length_le (by rw [HE8.out]; exact Nat.le_refl _)
                  rw [hfull] at how
                  obtain ⟨g9, c9, rfl, h91, h92⟩ := how.form (by omega)
                  have HWE := Lib.hid (words_of_own how)
                  clear how hB hfull HO7
                  go_wp2_with fail
                  go_ret
                  exact ⟨g9, ⟨c9, rfl⟩, by rw [HLE.out]; exact HWE.out, below_next HBW.out HB7.out⟩
end Go.Proofs.YtnjkinljpekohaaGreatDoor
namespace Go.Proofs.YtnjkinljpekohaaGreatDoor
open Go.RowKit Sha
attribute [local go_sem] Oper.semAt_some
theorem bytes_of_own {w : World} {base g n c : Nat} {e : TypeId} {L : List Nat} (h : w.ownsRow base e 1 (.slice (some ⟨g, 0, none⟩) n c) n (uvs L)) : BytesAt w g 0 L := fun j hj => by
  have hl := h.1
  rw [uvs_length, Nat.mul_one] at hl
  rw [Nat.zero_add, h.cellAt j (by omega)]
  simp [uvs, List.getD, hj]
theorem out_next (v : V) (j : Nat) (hj : j < 8) : (outV v).take (4 * (j + 1)) = (outV v).take (4 * j) ++ [(outV v).getD (4 * j) 0, (outV v).getD (4 * j + 1) 0, (outV v).getD (4 * j + 2) 0, (outV v).getD (4 * j + 3) 0] := by
  rcases (show j = 0 ∨ j = 1 ∨ j = 2 ∨ j = 3 ∨ j = 4 ∨ j = 5 ∨ j = 6 ∨ j = 7 by omega) with rfl | rfl | rfl | rfl | rfl | rfl | rfl | rfl <;> rfl
theorem new_cells (w : World) (ys : List Value) (e : TypeId) : ∀ j u, ys[j]? = some u → (w.alloc (.cells ys.toArray e)).cell? ((⟨w.heap.size, 0, none⟩ : Addr).add j) = some u := fun j u hj => by
  rw [add0, cell_of_row _ _ j ys.toArray e (0, 0) (heap_alloc_new w _)]
  simpa using hj
set_option maxRecDepth 100000 in
set_option maxHeartbeats 8000000 in
theorem rsum_any (s : ByteArray) (w : World) (hs : s.size ≤ 100000) :
    Calls Tryz.prog 32 #[.string s] w fun e w' => e = .returned (.string (sumS s)) ∧ Below w.heap.size w w' := by
  obtain ⟨i0, hi0, hz0, hz1, hz2⟩ := info_parts u8_infosD
  have I1 := Lib.hid hi0
  have I2 := Lib.hid hz0
  have I3 := Lib.hid hz1
  have I4 := Lib.hid hz2
  have HEXT := Lib.hid (fun W => extended_any s W hs)
  have hel := ext_length (nbs s)
  have heb := ext_blocks (nbs s)
  have hex := ext_lt (nbs s) (nbs_lt s)
  obtain ⟨nb, hnb⟩ : ∃ nb, (ext (nbs s)).length / 64 = nb := ⟨_, rfl⟩
  rw [hnb] at heb
  obtain ⟨St, s0, s1, s2, s3⟩ := blks_run (ext (nbs s)) nb
  have hsum : strN (outV (St nb)) = sumS s := by rw [sumS, sumN, hnb, s3]
  have hzz : zeros (nbs s).length ≤ 63 := by unfold zeros; omega
  rw [nbs_length] at hel hzz
  have hnbl : nb ≤ 1600 := by omega
  have hnb1 : 1 ≤ nb := by omega
  obtain ⟨B, hB⟩ : ∃ B, ext (nbs s) = B := ⟨_, rfl⟩
  rw [hB] at HEXT heb hex s1
  have HBL := Lib.hid heb
  rw [heb] at HEXT
  have HEX := Lib.hid hex
  have HS0 := Lib.hid s0
  have HS1 := Lib.hid s1
  have HSV := Lib.hid s2
  have HSUM := Lib.hid hsum
  clear hi0 hz0 hz1 hz2 hel heb hex hnb s0 s1 s2 s3 hsum hzz hB
  have hz : (wvs (vl iv)).toArray = #[.int .u32 1779033703, .int .u32 3144134277, .int .u32 1013904242, .int .u32 2773480762, .int .u32 1359893119, .int .u32 2600822924, .int .u32 528734635, .int .u32 1541459225] := rfl
  have hw0 : WordsAt (w.alloc (.cells (wvs (vl iv)).toArray 118)) w.heap.size 0 (vl iv) := words_of_row (t := 118) (heap_alloc_new _ _)
  rw [hz] at hw0
  have HW0 := Lib.hid hw0
  have HB0 := Lib.hid (below_alloc (Below.refl w.heap.size w) (.cells #[.int .u32 1779033703, .int .u32 3144134277, .int .u32 1013904242, .int .u32 2773480762, .int .u32 1359893119, .int .u32 2600822924, .int .u32 528734635, .int .u32 1541459225] 118))
  clear hz hw0
  go_enter Tryz.func32, Tryz.ntmps32
  go_wp2_with fail
  obtain ⟨W0, hW0⟩ : ∃ W, w.alloc (.cells #[.int .u32 1779033703, .int .u32 3144134277, .int .u32 1013904242, .int .u32 2773480762, .int .u32 1359893119, .int .u32 2600822924, .int .u32 528734635, .int .u32 1541459225] 118) = W := ⟨_, rfl⟩
  rw [hW0] at HW0 HB0 ⊢
  clear hW0
  refine (HEXT.out W0).mono ?_
  rintro e w1 ⟨v1, rfl, o1, b1⟩
  have HAT : ∃ ge ce, v1 = .slice (some ⟨ge, 0, none⟩) (64 * nb) ce ∧ BytesAt w1 ge 0 B ∧ 64 * nb ≤ ce ∧ ce ≤ maxLen := by
    rcases o1.2 with ⟨h1, h2⟩ | ⟨g, cap, cur, h1, h2, h3, h4, h5, h6, h7⟩
    · omega
    · subst h1
      exact ⟨g, cap, rfl, bytes_of_own o1, h4, h5⟩
  obtain ⟨ge, ce, rfl, hat, hce, hcm⟩ := HAT
  have HAT := Lib.hid hat
  have HB1 := Lib.hid (below_next HB0.out b1)
  have HW1 := Lib.hid (HW0.out.then_ b1)
  clear o1 b1 hat HW0 HB0
  go_wp2_with fail
  go_loopw [3, 5] (fun h i wr => ∃ (k m g cc : Nat), i = .int .i64 (m : Int) ∧ m = 64 * k ∧ k ≤ nb ∧ h = .slice (some ⟨g, 0, none⟩) 8 cc ∧ WordsAt wr g 0 (vl (St k)) ∧ Below w1.heap.size w1 wr) (fun _ i _ => 64 * nb - (intOf i).toNat)
  case atStart => exact ⟨0, 0, _, _, rfl, rfl, Nat.zero_le _, rfl, by rw [HS0.out]; exact HW1.out, Below.refl _ _⟩
  case round =>
    obtain ⟨k, m, g, cc, rfl, hm, hk, rfl, hwd, hb⟩ := hrel
    have HM := Lib.hid hm
    by_cases hlt : k < nb
    · have g1 : (m : Int) < ((64 * nb : Nat) : Int) := by omega
      have g1' : (m : Int) < 64 * (nb : Int) := by omega
      have g2 : (m : Int) + 64 ≤ (ce : Int) := by omega
      have g3 : (0 : Int) ≤ (m : Int) := by omega
      have g4 : (m : Int) ≤ (m : Int) + 64 := by omega
      have hck : ¬ ce = m := by omega
      have hca := chunk_at (HAT.out.then_ hb) HBL.out hlt
      rw [← hm] at hca
      have hbl := block_any g cc ge m (ce - m) (St k) ((B.drop m).take 64) wr (HSV.out k) hwd hca.1 hca.2 (mem_chunk HEX.out)
      have hs1 := HS1.out k
      rw [← hm] at hs1
      rw [← hs1] at hbl
      have HBLK := Lib.hid hbl
      have HBB := Lib.hid hb
      clear hbl hs1 hca hwd hb hm
      go_wp2_with fail
      refine HBLK.out.mono ?_
      rintro e w2 ⟨g2', cc2, rfl, hw2, b2⟩
      go_wp2_with fail
      refine ⟨⟨k + 1, m + 64, g2', cc2, by rfl, by have := HM.out; omega, by omega, rfl, hw2, below_next HBB.out b2⟩, by simp [intOf]; omega⟩
    · obtain rfl : k = nb := by omega
      have g1 : ¬ (m : Int) < ((64 * k : Nat) : Int) := by omega
      have g1' : ¬ (m : Int) < 64 * (k : Int) := by omega
      have HBW := Lib.hid (below_next HB1.out hb)
      have HWD := Lib.hid hwd
      have hvb := HSV.out k
      obtain ⟨V, hV⟩ : ∃ V, St k = V := ⟨_, rfl⟩
      rw [hV] at HSUM HWD hvb
      have lg : g < wr.heap.size := lt_size (HWD.out 0 (by rw [vl_length]; omega))
      clear hwd hb hV HB1 HW1 HAT
      go_wp2_with fail
      obtain ⟨wo, hwo⟩ : ∃ W, wr = W := ⟨_, rfl⟩
      rw [hwo] at HBW HWD lg ⊢
      clear hwo
      go_loopw [6, 7] (fun v i wr => ∃ j : Nat, i = .int .i64 (j : Int) ∧ j ≤ 8 ∧ wr.ownsRow wo.heap.size 5 1 v (4 * j) (uvs ((outV V).take (4 * j))) ∧ Below wo.heap.size wo wr) (fun _ i _ => 8 - (intOf i).toNat)
      case atStart => exact ⟨0, rfl, Nat.zero_le _, World.ownsRow_nil _ _ _ _, Below.refl _ _⟩
      case round =>
        obtain ⟨j, rfl, hj, how, hb⟩ := hrel
        have HO := Lib.hid how
        have HBB := Lib.hid hb
        have hbs := hb.size
        by_cases hlt : j < 8
        · have x0 := cell_then hb (HWD.out j (by rw [vl_length]; omega))
          rw [Nat.zero_add] at x0
          have hn := out_next V j hlt
          have o0 := out_get V j 0 hlt (by omega)
          have o1 := out_get V j 1 hlt (by omega)
          have o2 := out_get V j 2 hlt (by omega)
          have o3 := out_get V j 3 hlt (by omega)
          have hxl := vl_lt hvb j
          obtain ⟨x, hx⟩ : ∃ x, (vl V).getD j 0 = x := ⟨_, rfl⟩
          rw [hx] at x0 o0 o1 o2 o3 hxl
          rw [Nat.add_zero] at o0
          obtain ⟨y0, hy0⟩ : ∃ y, (outV V).getD (4 * j) 0 = y := ⟨_, rfl⟩
          obtain ⟨y1, hy1⟩ : ∃ y, (outV V).getD (4 * j + 1) 0 = y := ⟨_, rfl⟩
          obtain ⟨y2, hy2⟩ : ∃ y, (outV V).getD (4 * j + 2) 0 = y := ⟨_, rfl⟩
          obtain ⟨y3, hy3⟩ : ∃ y, (outV V).getD (4 * j + 3) 0 = y := ⟨_, rfl⟩
          rw [hy0] at hn o0
          rw [hy1] at hn o1
          rw [hy2] at hn o2
          rw [hy3] at hn o3
          simp only [Nat.mul_zero, Nat.sub_zero, Nat.reduceMul, Nat.reduceSub, Nat.reducePow, Nat.div_one] at o0 o1 o2 o3
          have q0 : (x : Int) / 16777216 % 256 = (y0 : Int) := by omega
          have q1 : (x : Int) / 65536 % 256 = (y1 : Int) := by omega
          have q2 : (x : Int) / 256 % 256 = (y2 : Int) := by omega
          have q3 : (x : Int) % 256 = (y3 : Int) := by omega
          have r0 : IntKind.u8.wrap ((x : Int) / 16777216) = (y0 : Int) := by simp [IntKind.wrap, IntKind.signed, IntKind.bits]; omega
          have r1 : IntKind.u8.wrap ((x : Int) / 65536) = (y1 : Int) := by simp [IntKind.wrap, IntKind.signed, IntKind.bits]; omega
          have r2 : IntKind.u8.wrap ((x : Int) / 256) = (y2 : Int) := by simp [IntKind.wrap, IntKind.signed, IntKind.bits]; omega
          have r3 : IntKind.u8.wrap (x : Int) = (y3 : Int) := by simp [IntKind.wrap, IntKind.signed, IntKind.bits]; omega
          have HN := Lib.hid hn
          have X0 := Lib.hid x0
          clear how hb hx hy0 hy1 hy2 hy3 o0 o1 o2 o3 hn x0
          go_wp2_with fail
          have hnot : ∀ q, q < wo.heap.size → q ∉ u6.ownBlock.toList := fun q hq h => by have := (HO.out.lt q (own_mem h)).1; omega
          go_region_held3 (fun w' => Kept u6.ownBlock.toList wr w' ∧ w'.cell? ⟨g, j, none⟩ = some (.int .u32 (x : Int))) ((suffices hK : Kept u6.ownBlock.toList wr _ from ⟨hK, hK.cell X0.out (hnot _ (by omega))⟩; repeat (first | with_reducible exact Kept.refl _ _ | with_reducible refine Kept.alloc ?_ _ | with_reducible refine Kept.drew ?_ | with_reducible exact HK4.out))) (first | (refine step_append_lies _ (by rfl) _ _ 53 (by rfl) wo.heap.size 5 i0 _ 1 1 Tryz.underlying53 I1.out I2.out I3.out I4.out rfl (by omega) u6 (4 * j) _ (by rfl) (own_then HO.out (by repeat (first | with_reducible exact Below.refl _ _ | with_reducible refine below_alloc ?_ _ | with_reducible refine Below.drew ?_))) ⟨wr.heap.size, 0, none⟩ 4 4 [.int .u8 (y0 : Int), .int .u8 (y1 : Int), .int .u8 (y2 : Int), .int .u8 (y3 : Int)] (by rfl) rfl (by first | exact new_cells _ _ _ | exact new_cells wr.drew _ _) (by simp [Value.oneCell']) (by omega) (by unfold maxLen; omega) (by omega) (by first | (simp; done) | (simp; omega) | omega) _ rfl ?_; intro g4 c4 w4 o4 k4 h4 h5; have HK4 := Lib.hid (((Kept.of_below (show Below wr.heap.size wr _ by repeat (first | with_reducible exact Below.refl _ _ | with_reducible refine below_alloc ?_ _ | with_reducible refine Below.drew ?_))).mono (fun _ h => by cases h)).trans ((Kept.refl _ _).grown k4 (fun q hq => .inl (mem_own hq))) (New.refl _ _)); have HO4 := Lib.hid o4))
          go_wp2_with fail
          refine ⟨⟨j + 1, by rfl, by omega, ?_, HK4.out.below_next HBB.out hbs (fun q hq => (HO.out.lt q (own_mem hq)).1)⟩, by simp [intOf]; omega⟩
          rw [HN.out, uvs_append]
          exact HO4.out
        · obtain rfl : j = 8 := by omega
          have g3 : ¬ ((8 : Nat) : Int) < 8 := by omega
          have hfull : (outV V).take (4 * 8) = outV V := rfl
          rw [hfull] at how
          obtain ⟨g9, c9, rfl, h91, h92⟩ := how.form (by omega)
          have hba := bytes_of_own how
          have hcv : (convert 53 9 (.slice (some ⟨g9, 0, none⟩) 32 c9)).run Tryz.prog wr = .ok (.string (strN (outV V))) wr := conv_nat (fun i hi => by have := hba i hi; rwa [Nat.zero_add] at this) (outV_length V)
          rw [HSUM.out] at hcv
          obtain ⟨Z, hZ⟩ : ∃ Z, sumS s = Z := ⟨_, rfl⟩
          rw [hZ] at hcv
          have HZ := Lib.hid hZ
          clear how hb hfull hba HO hZ
          go_wp2_with fail
          go_ret
          exact ⟨by rw [HZ.out]; rfl, below_next HBW.out HBB.out⟩
end Go.Proofs.YtnjkinljpekohaaGreatDoor
namespace Go.Proofs.YtnjkinljpekohaaGreatDoor.Jo
open Go.RowKit Sha Dsk Jr
attribute [local go_sem] Oper.semAt_some
/-- strings behind a byte -/
def preS (b : UInt8) (l : List ByteArray) : ByteArray := ⟨(b :: (l.map (·.data.toList)).flatten).toArray⟩
theorem chain_pre (a b : ByteArray) : chainS a b = sumS (preS 2 [a, b]) := rfl
theorem pre_app2 (b : UInt8) (s t : ByteArray) : (⟨#[b]⟩ : ByteArray) ++ s ++ t = preS b [s, t] := by
  apply ByteArray.ext
  rw [ByteArray.data_append, ByteArray.data_append]
  simp [preS, ← Array.toList_inj]
theorem pre_size2 (b : UInt8) (s t : ByteArray) : (preS b [s, t]).size = s.size + t.size + 1 := by
  simp [preS, size_mk]
theorem pre_inj {b : UInt8} {h s t : ByteArray} (e : preS b [h, s] = preS b [h, t]) : s = t := by
  have e := congrArg (fun x => x.data.toList) e
  simp only [preS, List.map_cons, List.map_nil, List.flatten_cons, List.flatten_nil, List.append_nil, List.cons.injEq, true_and] at e
  exact ByteArray.ext (Array.toList_inj.1 (List.append_cancel_left e))
theorem sbeq_iff (a b : ByteArray) : (a.toList == b.toList) = true ↔ a = b := by
  rw [beq_iff_eq, ByteArray.toList_eq, ByteArray.toList_eq]
  exact ⟨fun h => ByteArray.ext (Array.toList_inj.1 h), fun h => by rw [h]⟩
theorem neq_of {a b : ByteArray} (h : a ≠ b) : (a.toList == b.toList) = false := by
  rw [Bool.eq_false_iff]; intro e; exact h ((sbeq_iff _ _).1 e)
theorem eq_of {a b : ByteArray} (h : a = b) : (a.toList == b.toList) = true := (sbeq_iff _ _).2 h
theorem rchain_any (s t : ByteArray) (w : World) (hs : s.size ≤ 32) (ht : t.size ≤ 65536) : Calls Tryz.prog 65 #[.string s, .string t] w fun e w' => e = .returned (.string (chainS s t)) ∧ Below w.heap.size w w' := by
  have HP := Lib.hid (pre_app2 2 s t)
  have hz := pre_size2 2 s t
  go_enter Tryz.func65, Tryz.ntmps65
  go_wp2_with fail
  rw [HP.out]
  refine (rsum_any _ _ (by omega)).mono ?_
  rintro e w1 ⟨rfl, b1⟩
  go_wp2_with fail
  go_ret
  exact ⟨rfl, b1⟩
theorem strs_at {w : World} {A : Option Addr} {x : List ByteArray} (h : StrsAt w A x) {k : Nat} (hk : k < x.length) : ∃ b o, A = some ⟨b, o, none⟩ ∧ w.cell? ⟨b, o + k, none⟩ = some (.string x[k]) := by
  obtain ⟨b, o, hA, hc⟩ := h k hk
  refine ⟨b, o, hA, ?_⟩
  rw [hc]; simp [List.getD, hk]
theorem hd_take (l : List ByteArray) (k : Nat) (h : k < l.length) : hd chainS zed (l.take (k + 1)) = chainS (hd chainS zed (l.take k)) l[k] := by
  rw [List.take_succ_eq_append_getElem h, hd_append]; rfl
set_option maxRecDepth 100000 in
set_option maxHeartbeats 4000000 in
theorem rhead_any (A : Option Addr) (c N : Nat) (l : List ByteArray) (w : World) (hA : StrsAt w A l) (hN : l.length = N) (hl : N ≤ 1000000) (hs : ∀ s ∈ l, s.size ≤ 65536) :
    Calls Tryz.prog 58 #[.slice A N c] w fun e w' => e = .returned (.string (hd chainS zed l)) ∧ Below w.heap.size w w' := by
  have HA := Lib.hid hA
  have HS := Lib.hid hs
  have HN := Lib.hid hN
  obtain ⟨ZB, mk, cv⟩ := make_z 32 (by omega) 32 rfl
  have HB1 := Lib.hid (below_alloc (Below.refl w.heap.size w) ZB)
  obtain ⟨Z, hZ⟩ : ∃ Z, zeros 32 = Z := ⟨_, rfl⟩
  rw [hZ] at cv
  have HZ := Lib.hid hZ
  clear hA hs hN hZ
  go_enter Tryz.func58, Tryz.ntmps58
  go_wp2_with fail
  obtain ⟨W1, hW1⟩ : ∃ W1, w.alloc ZB = W1 := ⟨_, rfl⟩
  rw [hW1] at HB1 ⊢
  clear mk cv hW1
  go_loopw [3, 4] (fun h i wr => ∃ (k : Nat) (H : ByteArray), i = .int .i64 (k : Int) ∧ k ≤ N ∧ h = .string H ∧ Hid (hd chainS zed (l.take k) = H) ∧ H.size = 32 ∧ Below w.heap.size w wr) (fun _ i _ => N - (intOf i).toNat)
  case atStart => exact ⟨0, Z, rfl, Nat.zero_le _, rfl, Lib.hid (by rw [← HZ.out]; rfl), by rw [← HZ.out]; rfl, HB1.out⟩
  case round =>
    obtain ⟨k, H, rfl, hk, rfl, HH, hH, hb⟩ := hrel
    by_cases hlt : k < N
    · have hkl : k < l.length := by have := HN.out; omega
      have g1 : (k : Int) < (N : Int) := by omega
      obtain ⟨b1, o1, rfl, c1⟩ := strs_at (HA.out.then_ hb) hkl
      have hn2 := hd_take l k hkl
      have sz := HS.out _ (List.getElem_mem hkl)
      obtain ⟨u, hu⟩ : ∃ u, l[k] = u := ⟨_, rfl⟩
      rw [hu] at c1 hn2 sz
      rw [HH.out] at hn2
      have HN2 := Lib.hid hn2
      have HBB := Lib.hid hb
      have hcs : (chainS H u).size = 32 := chain_size _ _
      clear hu hb hn2 hkl
      go_wp2_with fail
      refine (rchain_any H u _ (by omega) (by omega)).mono ?_
      rintro e w2 ⟨rfl, b2⟩
      have B2 := Lib.hid (below_next HBB.out b2)
      clear b2
      go_wp2_with fail
      refine ⟨⟨k + 1, _, by rfl, by omega, rfl, HN2, hcs, B2.out⟩, by simp [intOf]; omega⟩
    · obtain rfl : k = N := by omega
      have g1 : ¬ (k : Int) < (k : Int) := by omega
      have e1 := HH.out
      rw [List.take_of_length_le (by rw [HN.out]; exact Nat.le_refl _)] at e1
      have HE := Lib.hid e1
      clear e1 HH
      go_wp2_with fail
      go_ret
      exact ⟨by rw [HE.out]; rfl, hb⟩
end Go.Proofs.YtnjkinljpekohaaGreatDoor.Jo
