/- The reference's block: a block of 64 bytes. -/
import Derived.Test.YtoipckflokdakaaDoorRefExt
import Derived.Test.YtoipckflokdakaaDoorShaAdd
namespace Go.Proofs.YtoipckflokdakaaDoor
open Go.RowKit Sha
attribute [local go_sem] Oper.semAt_some
theorem rrot_b (x n : Nat) (w : World) (hx : x < 4294967296) (h1 : 1 ≤ n) (h2 : n ≤ 31) : Calls Tryd.prog 69 #[.int .u32 (x : Int), .int .i64 (n : Int)] w fun e w' => e = .returned (.int .u32 ((rotr n x : Nat) : Int)) ∧ Below w.heap.size w w' := by
  refine (rrot_any x n w hx h1 h2).mono ?_
  rintro e w' ⟨rfl, q, rfl⟩
  exact ⟨rfl, ⟨rfl, rfl, rfl, Nat.le_refl _, fun _ _ => rfl⟩⟩
theorem u32_info1 : (Tryd.prog.info? 69).map (fun i => (i.zero, i.size, i.bytes)) = some (some (.int .u32 0), 1, 4) := by kernel_rfl
/-- words in memory -/
def WordsAt (w : World) (g o : Nat) (l : List Nat) : Prop := ∀ j, j < l.length → w.cell? ⟨g, o + j, none⟩ = some (.int .u32 ((l.getD j 0 : Nat) : Int))
theorem WordsAt.then_ {w w' : World} {g o : Nat} {b : List Nat} (h : WordsAt w g o b) (k : Below w.heap.size w w') : WordsAt w' g o b := fun j hj => cell_then k (h j hj)
theorem words_of_own {w : World} {base g n c : Nat} {e : TypeId} {L : List Nat} (h : w.ownsRow base e 1 (.slice (some ⟨g, 0, none⟩) n c) n (wvs L)) : WordsAt w g 0 L := fun j hj => by
  have hl := h.1
  rw [wvs_length, Nat.mul_one] at hl
  rw [Nat.zero_add, h.cellAt j (by omega)]
  simp [wvs, List.getD, hj]
theorem words_of_row {t : TypeId} {w : World} {g : Nat} {L : List Nat} (h : RowW t w g L) : WordsAt w g 0 L := fun j hj => by
  rw [Nat.zero_add]; exact h.cell hj
theorem wvs_append (a b : List Nat) : wvs (a ++ b) = wvs a ++ wvs b := List.map_append
theorem take_next (L : List Nat) {k v : Nat} (h : k < L.length) (hv : L.getD k 0 = v) : wvs (L.take (k + 1)) = wvs (L.take k) ++ [.int .u32 (v : Int)] := by
  rw [List.take_succ_eq_append_getElem h, wvs_append, ← hv, List.getD, List.getElem?_eq_getElem h]
  rfl
theorem u32_id {z : Int} (h0 : 0 ≤ z) (h1 : z < 4294967296) : IntKind.u32.wrap z = z := by
  simp [IntKind.wrap, IntKind.signed, IntKind.bits]; omega
theorem new_one1 (W : World) (y : Value) (t : TypeId) : ∀ j u, [y][j]? = some u → (W.alloc (.cells #[y] t)).cell? ⟨W.heap.size, j, none⟩ = some u := fun j u h => by
  have hj : j < 1 := (List.getElem?_eq_some_iff.1 h).1
  obtain rfl : j = 0 := by omega
  obtain rfl : y = u := by simpa using h
  exact new_cell rfl
set_option maxRecDepth 100000 in
theorem constants_any (w : World) : Calls Tryd.prog 70 #[] w fun e w' => ∃ g, e = .returned (.slice (some ⟨g, 0, none⟩) 64 64) ∧ WordsAt w' g 0 K64 ∧ Below w.heap.size w w' := by
  go_enter Tryd.func70, Tryd.ntmps70
  go_wp2_with fail
  go_ret
  have h : RowW 69 (w.alloc (.cells (wvs K64).toArray 69)) w.heap.size K64 := heap_alloc_new _ _
  exact ⟨w.heap.size, rfl, words_of_row h, below_alloc (Below.refl _ _) _⟩
set_option maxRecDepth 100000 in
set_option maxHeartbeats 8000000 in
theorem block_any (gh ch gb ob c : Nat) (H : V) (b : List Nat) (w : World) (hH : VB H) (hh : WordsAt w gh 0 (vl H)) (hA : BytesAt w gb ob b) (hl : b.length = 64) (hb : ∀ x ∈ b, x < 256) :
    Calls Tryd.prog 58 #[.slice (some ⟨gh, 0, none⟩) 8 ch, .slice (some ⟨gb, ob, none⟩) 64 c] w fun e w' => ∃ g cc, e = .returned (.slice (some ⟨g, 0, none⟩) 8 cc) ∧ WordsAt w' g 0 (vl (addB H b)) ∧ Below w.heap.size w w' := by
  obtain ⟨i0, hi0, hz0, hz1, hz2⟩ := info_parts u32_info1
  have I1 := Lib.hid hi0
  have I2 := Lib.hid hz0
  have I3 := Lib.hid hz1
  have I4 := Lib.hid hz2
  have HH := Lib.hid hh
  have HA := Lib.hid hA
  have HL := Lib.hid hl
  have HB := Lib.hid hb
  have HS : Hid ((sched b).length = 64) := sched_length b
  have HF : Hid (∀ k, k < 16 → (sched b).getD k 0 = word (b.getD (4 * k) 0) (b.getD (4 * k + 1) 0) (b.getD (4 * k + 2) 0) (b.getD (4 * k + 3) 0)) := fun k hk => sched_first b hk
  have HX : Hid (∀ i, 16 ≤ i → i < 64 → (sched b).getD i 0 = ((((sched b).getD (i - 16) 0 + lows ((sched b).getD (i - 15) 0)) % 4294967296 + (sched b).getD (i - 7) 0) % 4294967296 + highs ((sched b).getD (i - 2) 0)) % 4294967296) := fun i h1 h2 => sched_next b h1 h2
  have HLT : Hid (∀ i, (sched b).getD i 0 < 4294967296) := sched_lt b hb
  obtain ⟨R, r0, r1, r2, r3⟩ := rounds_run H b hH
  have HR0 := Lib.hid r0
  have HR1 := Lib.hid r1
  have HRB := Lib.hid r2
  have HEnd := Lib.hid r3
  obtain ⟨L, hL⟩ : ∃ L, sched b = L := ⟨_, rfl⟩
  rw [hL] at HS HF HX HLT HR1
  clear hh hA hl hb hL hi0 hz0 hz1 hz2 r0 r1 r2 r3
  go_enter Tryd.func58, Tryd.ntmps58
  go_wp2_with fail
  go_loopw [5, 6] (fun v i wr => ∃ k : Nat, i = .int .i64 (k : Int) ∧ k ≤ 16 ∧ wr.ownsRow w.heap.size 69 1 v k (wvs (L.take k)) ∧ Below w.heap.size w wr) (fun _ i _ => 16 - (intOf i).toNat)
  case atStart => exact ⟨0, rfl, Nat.zero_le _, World.ownsRow_nil _ _ _ _, Below.refl _ _⟩
  case round =>
    obtain ⟨k, rfl, hk, how, hB⟩ := hrel
    have HO := Lib.hid how
    have HBB := Lib.hid hB
    have hbs := hB.size
    by_cases hlt : k < 16
    · have x0 := cell_then hB (HA.out (4 * k) (by rw [HL.out]; omega))
      have x1 := cell_then hB (HA.out (4 * k + 1) (by rw [HL.out]; omega))
      have x2 := cell_then hB (HA.out (4 * k + 2) (by rw [HL.out]; omega))
      have x3 := cell_then hB (HA.out (4 * k + 3) (by rw [HL.out]; omega))
      have hn := HF.out k hlt
      have b0 := bytes_lt HB.out (4 * k)
      have b1 := bytes_lt HB.out (4 * k + 1)
      have b2 := bytes_lt HB.out (4 * k + 2)
      have b3 := bytes_lt HB.out (4 * k + 3)
      obtain ⟨v0, hv0⟩ : ∃ v, b.getD (4 * k) 0 = v := ⟨_, rfl⟩
      obtain ⟨v1, hv1⟩ : ∃ v, b.getD (4 * k + 1) 0 = v := ⟨_, rfl⟩
      obtain ⟨v2, hv2⟩ : ∃ v, b.getD (4 * k + 2) 0 = v := ⟨_, rfl⟩
      obtain ⟨v3, hv3⟩ : ∃ v, b.getD (4 * k + 3) 0 = v := ⟨_, rfl⟩
      rw [hv0] at b0 x0 hn
      rw [hv1] at b1 x1 hn
      rw [hv2] at b2 x2 hn
      rw [hv3] at b3 x3 hn
      have hV := word_bits b0 b1 b2 b3
      rw [← hn] at hV
      have hnx := fun v hv => take_next L (k := k) (v := v) (by rw [HS.out]; omega) hv
      obtain ⟨V, hVV⟩ : ∃ V, L.getD k 0 = V := ⟨_, rfl⟩
      rw [hVV] at hV
      have HNX := Lib.hid (hnx V hVV)
      have m0 := lt_size x0
      have X0 := Lib.hid x0
      have X1 := Lib.hid x1
      have X2 := Lib.hid x2
      have X3 := Lib.hid x3
      clear hv0 hv1 hv2 hv3 hB how hn hnx hVV x0 x1 x2 x3
      go_wp2_with fail
      -- REGION 1
      have hgb : gb < w.heap.size := lt_size (HA.out 0 (by rw [HL.out]; omega))
      have p0 : (0 : Int) ≤ 4 * (k : Int) := by omega
      have p1 : 4 * (k : Int) < 64 := by omega
      have p2 : 4 * (k : Int) + 1 < 64 := by omega
      have p3 : 4 * (k : Int) + 2 < 64 := by omega
      have p4 : 4 * (k : Int) + 3 < 64 := by omega
      have p5 : (0 : Int) ≤ 4 * (k : Int) + 1 := by omega
      have p6 : (0 : Int) ≤ 4 * (k : Int) + 2 := by omega
      have p7 : (0 : Int) ≤ 4 * (k : Int) + 3 := by omega
      have p8 : (4 * (k : Int)).toNat = 4 * k := by omega
      have p9 : (4 * (k : Int) + 1).toNat = 4 * k + 1 := by omega
      have pa : (4 * (k : Int) + 2).toNat = 4 * k + 2 := by omega
      have pb : (4 * (k : Int) + 3).toNat = 4 * k + 3 := by omega
      have w0 : IntKind.u32.wrap (v0 : Int) = (v0 : Int) := u32_id (by omega) (by omega)
      have w1 : IntKind.u32.wrap (v1 : Int) = (v1 : Int) := u32_id (by omega) (by omega)
      have w2 : IntKind.u32.wrap (v2 : Int) = (v2 : Int) := u32_id (by omega) (by omega)
      have w3 : IntKind.u32.wrap (v3 : Int) = (v3 : Int) := u32_id (by omega) (by omega)
      have w4 : IntKind.u32.wrap ((v0 : Int) * 16777216) = (v0 : Int) * 16777216 := u32_id (by omega) (by omega)
      have w5 : IntKind.u32.wrap ((v1 : Int) * 65536) = (v1 : Int) * 65536 := u32_id (by omega) (by omega)
      have w6 : IntKind.u32.wrap ((v2 : Int) * 256) = (v2 : Int) * 256 := u32_id (by omega) (by omega)
      have pc : IntKind.i64.wrap (4 * (k : Int)) = 4 * (k : Int) := IntWalk.i64_in _ (by omega)
      have pd : IntKind.i64.wrap (4 * (k : Int) + 1) = 4 * (k : Int) + 1 := IntWalk.i64_in _ (by omega)
      have pe : IntKind.i64.wrap (4 * (k : Int) + 2) = 4 * (k : Int) + 2 := IntWalk.i64_in _ (by omega)
      have pf : IntKind.i64.wrap (4 * (k : Int) + 3) = 4 * (k : Int) + 3 := IntWalk.i64_in _ (by omega)
      have hnot : ∀ q, q < w.heap.size → q ∉ u5.ownBlock.toList := fun q hq h => by have := (HO.out.lt q (own_mem h)).1; omega
      go_region_held3 (fun w' => Kept u5.ownBlock.toList wr w' ∧ w'.cell? ⟨gb, ob + (4 * k), none⟩ = some (.int .u8 (v0 : Int)) ∧ w'.cell? ⟨gb, ob + (4 * k + 1), none⟩ = some (.int .u8 (v1 : Int)) ∧ w'.cell? ⟨gb, ob + (4 * k + 2), none⟩ = some (.int .u8 (v2 : Int)) ∧ w'.cell? ⟨gb, ob + (4 * k + 3), none⟩ = some (.int .u8 (v3 : Int))) ((suffices hK : Kept u5.ownBlock.toList wr _ from ⟨hK, hK.cell X0.out (hnot _ (by omega)), hK.cell X1.out (hnot _ (by omega)), hK.cell X2.out (hnot _ (by omega)), hK.cell X3.out (hnot _ (by omega))⟩; repeat (first | with_reducible exact Kept.refl _ _ | with_reducible refine Kept.alloc ?_ _ | with_reducible refine Kept.drew ?_ | with_reducible exact HK4.out))) (first | (refine step_append1 (by rfl) _ _ 77 (by rfl) w.heap.size 69 i0 _ 1 4 Tryd.underlying77 I1.out I2.out I3.out I4.out rfl (by omega) (by omega) u5 k _ (by rfl) (own_then HO.out (by repeat (first | with_reducible exact Below.refl _ _ | with_reducible refine below_alloc ?_ _ | with_reducible refine Below.drew ?_))) wr.heap.size [.int .u32 (V : Int)] (by rfl) rfl (by first | exact new_one1 _ _ _ | exact new_one1 wr.drew _ _) (by simp [Value.oneCell']) (by omega) (by first | (simp; done) | (simp; omega) | omega) ?_; intro g4 c4 w4 o4 k4 h4; have HK4 := Lib.hid (((Kept.of_below (show Below wr.heap.size wr _ by repeat (first | with_reducible exact Below.refl _ _ | with_reducible refine below_alloc ?_ _ | with_reducible refine Below.drew ?_))).mono (fun _ h => by cases h)).trans k4 (New.refl _ _)); have HO4 := Lib.hid o4))
      go_wp2_with fail
      refine ⟨⟨k + 1, by rfl, by omega, by rw [HNX.out]; exact HO4.out, HK4.out.below_next HBB.out hbs (fun q hq => (HO.out.lt q (own_mem hq)).1)⟩, by simp [intOf]; omega⟩
    · obtain rfl : k = 16 := by omega
      have g1 : ¬ ((16 : Nat) : Int) < 16 := by omega
      clear how hB
      go_wp2_with fail
      obtain ⟨wo, hwo⟩ : ∃ W, wr = W := ⟨_, rfl⟩
      rw [hwo] at HO HBB ⊢
      clear hwo hbs
      go_loopw [5, 7] (fun v i wr => ∃ k : Nat, i = .int .i64 (k : Int) ∧ 16 ≤ k ∧ k ≤ 64 ∧ wr.ownsRow w.heap.size 69 1 v k (wvs (L.take k)) ∧ Below w.heap.size w wr) (fun _ i _ => 64 - (intOf i).toNat)
      case atStart => exact ⟨16, rfl, by omega, by omega, HO.out, HBB.out⟩
      case round =>
        obtain ⟨k, rfl, hk1, hk, how, hB⟩ := hrel
        have HO2 := Lib.hid how
        have HB2 := Lib.hid hB
        have hbs := hB.size
        obtain ⟨g, cg, rfl, hg1, hg2⟩ := how.form (by omega)
        by_cases hlt : k < 64
        · have hwd := words_of_own how
          have hlen : (L.take k).length = k := by rw [List.length_take, HS.out]; omega
          have hget : ∀ j, j < k → (L.take k).getD j 0 = L.getD j 0 := fun j hj => by simp [List.getD, hj]
          have x0 := hwd (k - 15) (by rw [hlen]; omega)
          have x1 := hwd (k - 2) (by rw [hlen]; omega)
          have x2 := hwd (k - 16) (by rw [hlen]; omega)
          have x3 := hwd (k - 7) (by rw [hlen]; omega)
          rw [hget _ (by omega), Nat.zero_add] at x0 x1 x2 x3
          have hn := HX.out k hk1 hlt
          have b0 := HLT.out (k - 15)
          have b1 := HLT.out (k - 2)
          have b2 := HLT.out (k - 16)
          have b3 := HLT.out (k - 7)
          obtain ⟨v0, hv0⟩ : ∃ v, L.getD (k - 15) 0 = v := ⟨_, rfl⟩
          obtain ⟨v1, hv1⟩ : ∃ v, L.getD (k - 2) 0 = v := ⟨_, rfl⟩
          obtain ⟨v2, hv2⟩ : ∃ v, L.getD (k - 16) 0 = v := ⟨_, rfl⟩
          obtain ⟨v3, hv3⟩ : ∃ v, L.getD (k - 7) 0 = v := ⟨_, rfl⟩
          rw [hv0] at b0 x0 hn
          rw [hv1] at b1 x1 hn
          rw [hv2] at b2 x2 hn
          rw [hv3] at b3 x3 hn
          have hnx := fun v hv => take_next L (k := k) (v := v) (by rw [HS.out]; omega) hv
          obtain ⟨V, hVV⟩ : ∃ V, L.getD k 0 = V := ⟨_, rfl⟩
          rw [hVV] at hn
          have HNX := Lib.hid (hnx V hVV)
          have HV := Lib.hid hn
          have RA := Lib.hid (fun (d : Nat) (os : Array Obj) => rrot_b v0 7 (Sort.grow (redrawn wr d) os) b0 (by omega) (by omega))
          have RB := Lib.hid (fun (d : Nat) (os : Array Obj) => rrot_b v0 18 (Sort.grow (redrawn wr d) os) b0 (by omega) (by omega))
          have ex1 : bits .xor .u32 ((rotr 7 v0 : Nat) : Int) ((rotr 18 v0 : Nat) : Int) = ((m2 v0 7 18 : Nat) : Int) := u32_xor_nat _ _ (rotr_lt _ _ b0) (rotr_lt _ _ b0)
          have ex2 : bits .xor .u32 ((m2 v0 7 18 : Nat) : Int) ((v0 : Int) / 8) = ((lows v0 : Nat) : Int) := low_bits (y := 3) b0 (m2_lt _ _ _ b0)
          have ey1 : bits .xor .u32 ((rotr 17 v1 : Nat) : Int) ((rotr 19 v1 : Nat) : Int) = ((m2 v1 17 19 : Nat) : Int) := u32_xor_nat _ _ (rotr_lt _ _ b1) (rotr_lt _ _ b1)
          have ey2 : bits .xor .u32 ((m2 v1 17 19 : Nat) : Int) ((v1 : Int) / 1024) = ((highs v1 : Nat) : Int) := low_bits (y := 10) b1 (m2_lt _ _ _ b1)
          obtain ⟨LO, hLO⟩ : ∃ x, lows v0 = x := ⟨_, rfl⟩
          obtain ⟨HI, hHI⟩ : ∃ x, highs v1 = x := ⟨_, rfl⟩
          rw [hLO] at ex2 HV
          rw [hHI] at ey2 HV
          obtain ⟨M1, hM1⟩ : ∃ x, m2 v0 7 18 = x := ⟨_, rfl⟩
          obtain ⟨M2, hM2⟩ : ∃ x, m2 v1 17 19 = x := ⟨_, rfl⟩
          rw [hM1] at ex1 ex2
          rw [hM2] at ey1 ey2
          have X0 := Lib.hid x0
          have X1 := Lib.hid x1
          have X2 := Lib.hid x2
          have X3 := Lib.hid x3
          have n1 : (0 : Int) ≤ (k : Int) - 15 := by omega
          have n2 : (k : Int) - 15 < (k : Int) := by omega
          have n3 : ((k : Int) - 15).toNat = k - 15 := by omega
          have n4 : (0 : Int) ≤ (k : Int) - 2 := by omega
          have n5 : (k : Int) - 2 < (k : Int) := by omega
          have n6 : ((k : Int) - 2).toNat = k - 2 := by omega
          have n7 : (0 : Int) ≤ (k : Int) - 16 := by omega
          have n8 : (k : Int) - 16 < (k : Int) := by omega
          have n9 : ((k : Int) - 16).toNat = k - 16 := by omega
          have na : (0 : Int) ≤ (k : Int) - 7 := by omega
          have nb : (k : Int) - 7 < (k : Int) := by omega
          have nc : ((k : Int) - 7).toNat = k - 7 := by omega
          clear how hB hwd hlen hget hv0 hv1 hv2 hv3 hnx hVV hn hLO hHI hM1 hM2 x0 x1 x2 x3
          go_wp2_with fail
          have g_x0 := fun D os => cell_regrown X0.out D os
          refine wp_region_quiet_below (by kernel_rfl) (by kernel_rfl) ?_
          repeat (go_big_quiet_step (first | (with_reducible exact Calls.regrown_of (RA.out _ _)) | (with_reducible exact Calls.regrown_of (RB.out _ _))))
          refine wpQuiet_nil ?_
          intro wq hq0
          have hq := below_of_class hq0
          clear hq0
          clear g_x0 ex1 ex2 RA RB
          have RC := Lib.hid (fun (d : Nat) (os : Array Obj) => rrot_b v1 17 (Sort.grow (redrawn wq d) os) b1 (by omega) (by omega))
          have RD := Lib.hid (fun (d : Nat) (os : Array Obj) => rrot_b v1 19 (Sort.grow (redrawn wq d) os) b1 (by omega) (by omega))
          have X1q := Lib.hid (cell_then hq X1.out)
          have X2q := Lib.hid (cell_then hq X2.out)
          have X3q := Lib.hid (cell_then hq X3.out)
          have HOq := Lib.hid (own_then HO2.out hq)
          have HBq := Lib.hid (below_next HB2.out hq)
          clear X0 X1 X2 X3 HO2 HB2 hbs hq
          obtain ⟨wp, hwp⟩ : ∃ W, wq = W := ⟨_, rfl⟩
          rw [hwp] at RC RD X1q X2q X3q HOq HBq ⊢
          clear hwp
          go_wp2_with fail
          have g_x1 := fun D os => cell_regrown X1q.out D os
          refine wp_region_quiet_below (by kernel_rfl) (by kernel_rfl) ?_
          repeat (go_big_quiet_step (first | (with_reducible exact Calls.regrown_of (RC.out _ _)) | (with_reducible exact Calls.regrown_of (RD.out _ _))))
          refine wpQuiet_nil ?_
          intro wq hq0
          have hq := below_of_class hq0
          clear hq0
          clear g_x1 ey1 ey2 RC RD
          have X2r := cell_then hq X2q.out
          have X3r := cell_then hq X3q.out
          have HOr := Lib.hid (own_then HOq.out hq)
          have HBr := Lib.hid (below_next HBq.out hq)
          have hbs := HBr.out.size
          have lg := lt_size X2r
          clear X1q X2q X3q HOq HBq hq
          obtain ⟨wp2, hwp⟩ : ∃ W, wq = W := ⟨_, rfl⟩
          rw [hwp] at X2r X3r HOr HBr hbs lg ⊢
          clear hwp
          have eA := u32_add v2 LO
          have eB := u32_add ((v2 + LO) % 4294967296) v3
          have eC := u32_add (((v2 + LO) % 4294967296 + v3) % 4294967296) HI
          rw [← HV.out] at eC
          obtain ⟨A1, hA1⟩ : ∃ x, (v2 + LO) % 4294967296 = x := ⟨_, rfl⟩
          rw [hA1] at eA eB eC
          obtain ⟨A2, hA2⟩ : ∃ x, (A1 + v3) % 4294967296 = x := ⟨_, rfl⟩
          rw [hA2] at eB eC
          have eA' := u32_add' v2 LO
          have eB' := u32_add' A1 v3
          have eC' := u32_add' A2 HI
          rw [hA1] at eA'
          rw [hA2] at eB'
          have hVx : (A2 + HI) % 4294967296 = V := by rw [HV.out, hA1, hA2]
          rw [hVx] at eC'
          clear hA1 hA2 hVx
          have l1 : (16 : Int) ≤ (k : Int) := by omega
          have l2 : (7 : Int) ≤ (k : Int) := by omega
          have m1 : IntKind.i64.wrap ((k : Int) - 16) = (k : Int) - 16 := IntWalk.i64_in _ (by omega)
          have m2 : IntKind.i64.wrap ((k : Int) - 7) = (k : Int) - 7 := IntWalk.i64_in _ (by omega)
          go_wp2_with fail
          go_region_law (refine step_append1 (by rfl) _ _ 77 (by rfl) w.heap.size 69 i0 _ 1 4 Tryd.underlying77 I1.out I2.out I3.out I4.out rfl (by omega) (by omega) (.slice (some ⟨g, 0, none⟩) k cg) k _ (by rfl) (own_then HOr.out (by repeat (first | with_reducible exact Below.refl _ _ | with_reducible refine below_alloc ?_ _ | with_reducible refine Below.drew ?_))) wp2.heap.size [.int .u32 (V : Int)] (by rfl) rfl (by first | exact new_one1 _ _ _ | exact new_one1 wp2.drew _ _) (by simp [Value.oneCell']) (by omega) (by first | (simp; done) | (simp; omega) | omega) ?_; intro g6 c6 w6 o6 k6 h6)
          all_goals
            simp only [Act.put, List.setIfInBounds_toArray, List.set_cons_zero, List.set_cons_succ, List.getElem_toArray, List.getElem_cons_zero, List.getElem_cons_succ]
            have HB6 := Lib.hid (k6.below_next (B := w.heap.size) (w0 := w) (below_next HBr.out (by repeat (first | with_reducible exact Below.refl _ _ | with_reducible refine below_alloc ?_ _ | with_reducible refine Below.drew ?_))) (by first | (simp; done) | (simp; omega) | omega) (fun q hq => (HOr.out.lt q (own_mem hq)).1))
            have HO6 := Lib.hid o6
            clear o6 k6 h6
            go_wp2_with fail
            refine ⟨⟨k + 1, by rfl, by omega, by omega, by rw [HNX.out]; exact HO6.out, HB6.out⟩, by simp [intOf]; omega⟩
        · obtain rfl : k = 64 := by omega
          have g1 : ¬ ((64 : Nat) : Int) < 64 := by omega
          have hfull : L.take 64 = L := List.take_of_length_le (by rw [HS.out]; exact Nat.le_refl _)
          rw [hfull] at how
          have HWL := Lib.hid (words_of_own how)
          clear how hB hfull HO2
          obtain ⟨wo2, hwo2⟩ : ∃ W, wr = W := ⟨_, rfl⟩
          rw [hwo2] at HWL HB2 hbs hg2 ⊢
          clear hwo2 HO HBB
          have HHv : Hid ((vl H).length = 8) := rfl
          have HH2 := Lib.hid (HH.out.then_ HB2.out)
          have HH3 : Hid (∀ (W : World), Below wo2.heap.size wo2 W → ∀ j u, (wvs (vl H))[j]? = some u → W.cell? ((⟨gh, 0, none⟩ : Addr).add j) = some u) := by
            intro W hW j u hj
            have hl : j < (vl H).length := by
              have := (List.getElem?_eq_some_iff.1 hj).1
              rwa [wvs_length] at this
            have := cell_then hW (HH2.out j hl)
            rw [Nat.zero_add] at this
            rw [add0, this, ← hj]
            simp [wvs, List.getD, hl]
          obtain ⟨LH, hLH⟩ : ∃ l, vl H = l := ⟨_, rfl⟩
          rw [hLH] at HHv HH3
          have HLH := Lib.hid hLH
          clear hLH
          go_wp2_with (first | (go_at_call 70; (with_reducible refine (constants_any _).mono ?_); rintro e w7 ⟨gk, rfl, hwk, b7⟩; have HWK := Lib.hid hwk; have HB7 := Lib.hid b7; clear hwk b7) | (at_builtin; refine wpList_append_lies _ rfl _ _ 77 rfl w.heap.size 69 i0 _ 1 4 Tryd.underlying77 I1.out I2.out I3.out I4.out rfl (by omega) (.slice none 0 0) 0 [] rfl (World.ownsRow_nil _ _ _ _) ⟨gh, 0, none⟩ 8 ch (wvs LH) rfl (by rw [wvs_length, HHv.out]) (HH3.out _ HB7.out) (fun u hu => by obtain ⟨x, _, rfl⟩ := List.mem_map.1 hu; rfl) (by omega) (by unfold maxLen; omega) (by omega) (by have := HB7.out.size; omega) _ rfl ?_; intro gv cv w8 o8 k8 h8 h9))
          have hnil : ∀ q, (Value.slice none 0 0).ownBlock = some q → False := fun q hq => by cases hq
          have B8 : Below wo2.heap.size wo2 w8 := below_next HB7.out (((Kept.refl [] w7).grown k8 (fun q hq => (hnil q hq).elim)).below (Nat.le_refl _) (fun q hq => by cases hq))
          have b78 : Below w7.heap.size w7 w8 := ((Kept.refl [] w7).grown k8 (fun q hq => (hnil q hq).elim)).below (Nat.le_refl _) (fun q hq => by cases hq)
          have HB8 := Lib.hid (below_next HB2.out B8)
          have hwv : WordsAt w8 gv 0 LH := by
            have := words_of_own (L := LH) (g := gv) (c := cv) (n := 8) (by simpa using o8)
            exact this
          have HWV := Lib.hid hwv
          have HWK8 := Lib.hid (HWK.out.then_ b78)
          have HWL8 := Lib.hid (HWL.out.then_ B8)
          have HH8 := Lib.hid (HH2.out.then_ B8)
          clear o8 k8 h8 h9 hnil b78 B8 hwv HWK HB7 HH3 HWL HH2 HHv hg2 hbs HB2
          have HKB : Hid (∀ k, K64.getD k 0 < 4294967296) := k64_lt
          have HKL : Hid (K64.length = 64) := rfl
          obtain ⟨K, hKK⟩ : ∃ l, K64 = l := ⟨_, rfl⟩
          rw [hKK] at HWK8 HKB HKL HR1
          clear hKK
          go_loopw [11, 12] (fun v i wr => ∃ (k gv cv : Nat), i = .int .i64 (k : Int) ∧ k ≤ 64 ∧ v = .slice (some ⟨gv, 0, none⟩) 8 cv ∧ WordsAt wr gv 0 (vl (R k)) ∧ Below w8.heap.size w8 wr) (fun _ i _ => 64 - (intOf i).toNat)
          case atStart => exact ⟨0, gv, cv, rfl, Nat.zero_le _, rfl, by rw [HR0.out, HLH.out]; exact HWV.out, Below.refl _ _⟩
          case round =>
            obtain ⟨k, gv', cv', rfl, hk, rfl, hwv, hB⟩ := hrel
            by_cases hlt : k < 64
            · have xk := cell_then hB (HWK8.out k (by rw [HKL.out]; exact hlt))
              have xl := cell_then hB (HWL8.out k (by rw [HS.out]; exact hlt))
              rw [Nat.zero_add] at xk xl
              have hs1 := HR1.out k hlt
              have hvb := HRB.out k
              have bk := HKB.out k
              have bl := HLT.out k
              obtain ⟨v, hv⟩ : ∃ v, R k = v := ⟨_, rfl⟩
              rw [hv] at hs1 hvb hwv
              obtain ⟨kk, hkk⟩ : ∃ v, K.getD k 0 = v := ⟨_, rfl⟩
              rw [hkk] at xk hs1 bk
              obtain ⟨ww, hww⟩ : ∃ v, L.getD k 0 = v := ⟨_, rfl⟩
              rw [hww] at xl hs1 bl
              obtain ⟨a, b, c', d, e, f, g', z⟩ := v
              have he : e < 4294967296 := hvb.e
              have ha : a < 4294967296 := hvb.a
              have hv1 : R (k + 1) = ⟨(tt ⟨a, b, c', d, e, f, g', z⟩ kk ww + uu ⟨a, b, c', d, e, f, g', z⟩) % 4294967296, a, b, c', (d + tt ⟨a, b, c', d, e, f, g', z⟩ kk ww) % 4294967296, e, f, g'⟩ := hs1
              obtain ⟨T0, hT0⟩ : ∃ T0, tt ⟨a, b, c', d, e, f, g', z⟩ kk ww = T0 := ⟨_, rfl⟩
              obtain ⟨U0, hU0⟩ : ∃ U0, uu ⟨a, b, c', d, e, f, g', z⟩ = U0 := ⟨_, rfl⟩
              have hT : ((((z + m3 e 6 11 25) % 4294967296 + chs e f g') % 4294967296 + kk) % 4294967296 + ww) % 4294967296 = T0 := hT0
              have hU : (m3 a 2 13 22 + maj a b c') % 4294967296 = U0 := hU0
              rw [hT0] at hv1
              rw [hU0] at hv1
              have hf : f < 4294967296 := hvb.f
              have hg : g' < 4294967296 := hvb.g
              have hbb : b < 4294967296 := hvb.b
              have hcc : c' < 4294967296 := hvb.c
              have q1 : e &&& f < 4294967296 := Nat.and_lt_two_pow (n := 32) _ hf
              have q2 : (4294967295 - e) &&& g' < 4294967296 := Nat.and_lt_two_pow (n := 32) _ hg
              have q3 : a &&& b < 4294967296 := Nat.and_lt_two_pow (n := 32) _ hbb
              have q4 : a &&& c' < 4294967296 := Nat.and_lt_two_pow (n := 32) _ hcc
              have q5 : b &&& c' < 4294967296 := Nat.and_lt_two_pow (n := 32) _ hcc
              have et1 : bits .and .u32 (e : Int) (f : Int) = ((e &&& f : Nat) : Int) := u32_and_nat _ _ he hf
              have et2 : bits .xor .u32 (if IntKind.u32.signed = true then -1 else IntKind.u32.max) (e : Int) = ((4294967295 - e : Nat) : Int) := not_u32 _ he
              have et3 : bits .and .u32 ((4294967295 - e : Nat) : Int) (g' : Int) = (((4294967295 - e) &&& g' : Nat) : Int) := u32_and_nat _ _ (by omega) hg
              have et4 : bits .xor .u32 ((e &&& f : Nat) : Int) (((4294967295 - e) &&& g' : Nat) : Int) = ((chs e f g' : Nat) : Int) := u32_xor_nat _ _ q1 q2
              have eu1 : bits .and .u32 (a : Int) (b : Int) = ((a &&& b : Nat) : Int) := u32_and_nat _ _ ha hbb
              have eu2 : bits .and .u32 (a : Int) (c' : Int) = ((a &&& c' : Nat) : Int) := u32_and_nat _ _ ha hcc
              have eu3 : bits .and .u32 (b : Int) (c' : Int) = ((b &&& c' : Nat) : Int) := u32_and_nat _ _ hbb hcc
              have eu4 : bits .xor .u32 ((a &&& b : Nat) : Int) ((a &&& c' : Nat) : Int) = (((a &&& b) ^^^ (a &&& c') : Nat) : Int) := u32_xor_nat _ _ q3 q4
              have eu5 : bits .xor .u32 (((a &&& b) ^^^ (a &&& c') : Nat) : Int) ((b &&& c' : Nat) : Int) = ((maj a b c' : Nat) : Int) := u32_xor_nat _ _ (Nat.xor_lt_two_pow (n := 32) q3 q4) q5
              obtain ⟨Y1, hY1⟩ : ∃ x, e &&& f = x := ⟨_, rfl⟩
              obtain ⟨Y2, hY2⟩ : ∃ x, 4294967295 - e = x := ⟨_, rfl⟩
              obtain ⟨Y4, hY4⟩ : ∃ x, chs e f g' = x := ⟨_, rfl⟩
              rw [hY1] at et1 et4
              rw [hY2] at et2 et3 et4
              rw [hY4] at et4 hT
              obtain ⟨Y3, hY3⟩ : ∃ x, Y2 &&& g' = x := ⟨_, rfl⟩
              rw [hY3] at et3 et4
              obtain ⟨Y5, hY5⟩ : ∃ x, a &&& b = x := ⟨_, rfl⟩
              obtain ⟨Y6, hY6⟩ : ∃ x, a &&& c' = x := ⟨_, rfl⟩
              obtain ⟨Y7, hY7⟩ : ∃ x, b &&& c' = x := ⟨_, rfl⟩
              obtain ⟨Y9, hY9⟩ : ∃ x, maj a b c' = x := ⟨_, rfl⟩
              rw [hY5] at eu1 eu4 eu5
              rw [hY6] at eu2 eu4 eu5
              rw [hY7] at eu3 eu5
              rw [hY9] at eu5 hU
              obtain ⟨Y8, hY8⟩ : ∃ x, Y5 ^^^ Y6 = x := ⟨_, rfl⟩
              rw [hY8] at eu4 eu5
              have EU1 := Lib.hid eu1
              have EU2 := Lib.hid eu2
              have EU3 := Lib.hid eu3
              have EU4 := Lib.hid eu4
              have EU5 := Lib.hid eu5
              have em1 : bits .xor .u32 ((rotr 6 e : Nat) : Int) ((rotr 11 e : Nat) : Int) = ((m2 e 6 11 : Nat) : Int) := u32_xor_nat _ _ (rotr_lt _ _ he) (rotr_lt _ _ he)
              have em2 : bits .xor .u32 ((m2 e 6 11 : Nat) : Int) ((rotr 25 e : Nat) : Int) = ((m3 e 6 11 25 : Nat) : Int) := u32_xor_nat _ _ (m2_lt _ _ _ he) (rotr_lt _ _ he)
              have ea1 : bits .xor .u32 ((rotr 2 a : Nat) : Int) ((rotr 13 a : Nat) : Int) = ((m2 a 2 13 : Nat) : Int) := u32_xor_nat _ _ (rotr_lt _ _ ha) (rotr_lt _ _ ha)
              have ea2 : bits .xor .u32 ((m2 a 2 13 : Nat) : Int) ((rotr 22 a : Nat) : Int) = ((m3 a 2 13 22 : Nat) : Int) := u32_xor_nat _ _ (m2_lt _ _ _ ha) (rotr_lt _ _ ha)
              have c0 : wr.cell? ⟨gv', 0, none⟩ = some (.int .u32 (a : Int)) := hwv 0 (by simp [vl])
              have c1 : wr.cell? ⟨gv', 1, none⟩ = some (.int .u32 (b : Int)) := hwv 1 (by simp [vl])
              have c2 : wr.cell? ⟨gv', 2, none⟩ = some (.int .u32 (c' : Int)) := hwv 2 (by simp [vl])
              have c3 : wr.cell? ⟨gv', 3, none⟩ = some (.int .u32 (d : Int)) := hwv 3 (by simp [vl])
              have c4 : wr.cell? ⟨gv', 4, none⟩ = some (.int .u32 (e : Int)) := hwv 4 (by simp [vl])
              have c5 : wr.cell? ⟨gv', 5, none⟩ = some (.int .u32 (f : Int)) := hwv 5 (by simp [vl])
              have c6 : wr.cell? ⟨gv', 6, none⟩ = some (.int .u32 (g' : Int)) := hwv 6 (by simp [vl])
              have c7 : wr.cell? ⟨gv', 7, none⟩ = some (.int .u32 (z : Int)) := hwv 7 (by simp [vl])
              have C1 := Lib.hid c1
              have C2 := Lib.hid c2
              have C3 := Lib.hid c3
              have C5 := Lib.hid c5
              have C6 := Lib.hid c6
              have C7 := Lib.hid c7
              have XK := Lib.hid xk
              have XL := Lib.hid xl
              have HV1 := Lib.hid hv1
              have HB9 := Lib.hid hB
              have RA := Lib.hid (fun (d : Nat) (os : Array Obj) => rrot_b e 6 (Sort.grow (redrawn wr d) os) he (by omega) (by omega))
              have RB := Lib.hid (fun (d : Nat) (os : Array Obj) => rrot_b e 11 (Sort.grow (redrawn wr d) os) he (by omega) (by omega))
              have RC := Lib.hid (fun (d : Nat) (os : Array Obj) => rrot_b e 25 (Sort.grow (redrawn wr d) os) he (by omega) (by omega))
              obtain ⟨m25, h25⟩ : ∃ x, m2 e 6 11 = x := ⟨_, rfl⟩
              obtain ⟨m26, h26⟩ : ∃ x, m3 e 6 11 25 = x := ⟨_, rfl⟩
              obtain ⟨m27, h27⟩ : ∃ x, m2 a 2 13 = x := ⟨_, rfl⟩
              obtain ⟨m28, h28⟩ : ∃ x, m3 a 2 13 22 = x := ⟨_, rfl⟩
              rw [h25] at em1 em2
              rw [h26] at em2 hT
              rw [h27] at ea1 ea2
              rw [h28] at ea2 hU
              have ht1 := u32_add z m26
              have ht1' := u32_add' z m26
              obtain ⟨S1, hS1⟩ : ∃ x, (z + m26) % 4294967296 = x := ⟨_, rfl⟩
              rw [hS1] at ht1 ht1' hT
              have ht2 := u32_add S1 Y4
              have ht2' := u32_add' S1 Y4
              obtain ⟨S2, hS2⟩ : ∃ x, (S1 + Y4) % 4294967296 = x := ⟨_, rfl⟩
              rw [hS2] at ht2 ht2' hT
              have ht3 := u32_add S2 kk
              have ht3' := u32_add' S2 kk
              obtain ⟨S3, hS3⟩ : ∃ x, (S2 + kk) % 4294967296 = x := ⟨_, rfl⟩
              rw [hS3] at ht3 ht3' hT
              have ht4 := u32_add S3 ww
              have ht4' := u32_add' S3 ww
              rw [hT] at ht4 ht4'
              have hu1 := u32_add m28 Y9
              have hu1' := u32_add' m28 Y9
              rw [hU] at hu1 hu1'
              have HU1 := Lib.hid hu1
              have HU2 := Lib.hid hu1'
              have EA1 := Lib.hid ea1
              have EA2 := Lib.hid ea2

              have i9 : (k : Int) < 64 := by omega
              clear hS1 hS2 hS3 hu1 hu1' ea1 ea2 eu1 eu2 eu3 eu4 eu5 hY1 hY2 hY3 hY4 hY5 hY6 hY7 hY8 hY9 q1 q2 q3 q4 q5 hf hg hbb hcc hwv hB hv hkk hww hT hU hv1 hs1 hvb bk bl c1 c2 c3 c5 c6 c7 xk xl hT0 hU0 h25 h26 h27 h28
              go_wp2_with fail
              have g_5 := fun D os => cell_regrown C5.out D os
              have g_6 := fun D os => cell_regrown C6.out D os
              have g_7 := fun D os => cell_regrown C7.out D os
              have g_k := fun D os => cell_regrown XK.out D os
              have g_l := fun D os => cell_regrown XL.out D os
              refine wp_region_quiet_below (by kernel_rfl) (by kernel_rfl) ?_
              repeat (go_big_quiet_step (first | (with_reducible exact Calls.regrown_of (RA.out _ _)) | (with_reducible exact Calls.regrown_of (RB.out _ _)) | (with_reducible exact Calls.regrown_of (RC.out _ _))))
              refine wpQuiet_nil ?_
              intro wq hq0
              have hq := below_of_class hq0
              clear hq0
              clear g_5 g_6 g_7 g_k g_l RA RB RC em1 em2 et1 et2 et3 et4 ht1 ht1' ht2 ht2' ht3 ht3' ht4 ht4'
              have HC1 := Lib.hid (cell_then hq C1.out)
              have HC2 := Lib.hid (cell_then hq C2.out)
              have HC3 := Lib.hid (cell_then hq C3.out)
              have HC5 := Lib.hid (cell_then hq C5.out)
              have HC6 := Lib.hid (cell_then hq C6.out)
              have HBq := Lib.hid (below_next HB9.out hq)
              clear C1 C2 C3 C5 C6 C7 XK XL HB9 hq c0 c4
              obtain ⟨wp, hwp⟩ : ∃ W, wq = W := ⟨_, rfl⟩
              rw [hwp] at HC1 HC2 HC3 HC5 HC6 HBq ⊢
              clear hwp
              have RA := Lib.hid (fun (d : Nat) (os : Array Obj) => rrot_b a 2 (Sort.grow (redrawn wp d) os) ha (by omega) (by omega))
              have RB := Lib.hid (fun (d : Nat) (os : Array Obj) => rrot_b a 13 (Sort.grow (redrawn wp d) os) ha (by omega) (by omega))
              have RC := Lib.hid (fun (d : Nat) (os : Array Obj) => rrot_b a 22 (Sort.grow (redrawn wp d) os) ha (by omega) (by omega))
              go_wp2_with fail
              have g_1 := fun D os => cell_regrown HC1.out D os
              have g_2 := fun D os => cell_regrown HC2.out D os
              have ea1 := EA1.out
              have ea2 := EA2.out
              have eu1 := EU1.out
              have eu2 := EU2.out
              have eu3 := EU3.out
              have eu4 := EU4.out
              have eu5 := EU5.out
              have hu1 := HU1.out
              have hu1' := HU2.out
              refine wp_region_quiet_below (by kernel_rfl) (by kernel_rfl) ?_
              repeat (go_big_quiet_step (first | (with_reducible exact Calls.regrown_of (RA.out _ _)) | (with_reducible exact Calls.regrown_of (RB.out _ _)) | (with_reducible exact Calls.regrown_of (RC.out _ _))))
              refine wpQuiet_nil ?_
              intro wq hq0
              have hq := below_of_class hq0
              clear hq0
              clear g_1 g_2 RA RB RC ea1 ea2 eu1 eu2 eu3 eu4 eu5 hu1 hu1' EA1 EA2 EU1 EU2 EU3 EU4 EU5 HU1 HU2
              have D1 := Lib.hid (cell_then hq HC1.out)
              have D2 := Lib.hid (cell_then hq HC2.out)
              have D3 := Lib.hid (cell_then hq HC3.out)
              have D5 := Lib.hid (cell_then hq HC5.out)
              have D6 := Lib.hid (cell_then hq HC6.out)
              have HBr := Lib.hid (below_next HBq.out hq)
              clear HC1 HC2 HC3 HC5 HC6 HBq hq
              obtain ⟨wp2, hwp⟩ : ∃ W, wq = W := ⟨_, rfl⟩
              rw [hwp] at D1 D2 D3 D5 D6 HBr ⊢
              clear hwp
              have eA := u32_add' T0 U0
              have eE := u32_add' d T0
              have eA1 := u32_add T0 U0
              have eE1 := u32_add d T0
              obtain ⟨NA, hNA⟩ : ∃ x, (T0 + U0) % 4294967296 = x := ⟨_, rfl⟩
              obtain ⟨NE, hNE⟩ : ∃ x, (d + T0) % 4294967296 = x := ⟨_, rfl⟩
              rw [hNA] at eA eA1 HV1
              rw [hNE] at eE eE1 HV1
              clear hNA hNE
              go_wp2_with fail
              have g_1 := fun D os => cell_regrown D1.out D os
              have g_2 := fun D os => cell_regrown D2.out D os
              have g_3 := fun D os => cell_regrown D3.out D os
              have g_5 := fun D os => cell_regrown D5.out D os
              have g_6 := fun D os => cell_regrown D6.out D os
              refine wp_region_head 22 (by kernel_rfl) (by kernel_rfl) ?_
              simp only [List.take_succ_cons, List.take_zero, List.drop_succ_cons, List.drop_zero]
              repeat (go_big_quiet_step (fail))
              refine wpQuiet_nil ?_
              intro wq hq
              clear g_1 g_2 g_3 g_5 g_6
              go_wp2_with fail
              have hrow : RowW 69 (wq.alloc (.cells (wvs [NA, a, b, c', NE, e, f, g']).toArray 69)) wq.heap.size [NA, a, b, c', NE, e, f, g'] := heap_alloc_new _ _
              have hww := words_of_row hrow
              refine ⟨⟨k + 1, _, _, by rfl, by omega, rfl, ?_, below_alloc (below_next HBr.out hq) _⟩, by simp [intOf]; omega⟩
              rw [HV1.out]
              exact hww
            · obtain rfl : k = 64 := by omega
              have g2 : ¬ ((64 : Nat) : Int) < 64 := by omega
              have hadd := vl_add H (R 64)
              rw [← HEnd.out] at hadd
              have HV8 : Hid ((vl (R 64)).length = 8) := rfl
              have HH8L : Hid ((vl H).length = 8) := rfl
              have HE8 : Hid ((vl (addB H b)).length = 8) := rfl
              have HHW := Lib.hid (HH8.out.then_ hB)
              have HWV2 := Lib.hid hwv
              have HBW := Lib.hid (below_next HB8.out hB)
              obtain ⟨LE, hLE⟩ : ∃ x, vl (addB H b) = x := ⟨_, rfl⟩
              obtain ⟨LV, hLV⟩ : ∃ x, vl (R 64) = x := ⟨_, rfl⟩
              rw [hLE, hLV, HLH.out] at hadd
              rw [hLV] at HV8 HWV2
              rw [HLH.out] at HHW HH8L
              rw [hLE] at HE8
              have HADD := Lib.hid hadd
              have HLE := Lib.hid hLE
              clear hadd hLE hLV hwv hB HB8 HH8 HWV HWK8 HWL8
              go_wp2_with fail
              obtain ⟨wo3, hwo3⟩ : ∃ W, wr = W := ⟨_, rfl⟩
              rw [hwo3] at HHW HWV2 HBW ⊢
              clear hwo3
              have lgh : gh < wo3.heap.size := lt_size (HHW.out 0 (by rw [HH8L.out]; omega))
              have lgv : gv' < wo3.heap.size := lt_size (HWV2.out 0 (by rw [HV8.out]; omega))
              go_loopw [17, 18] (fun v i wr => ∃ j : Nat, i = .int .i64 (j : Int) ∧ j ≤ 8 ∧ wr.ownsRow wo3.heap.size 69 1 v j (wvs (LE.take j)) ∧ Below wo3.heap.size wo3 wr) (fun _ i _ => 8 - (intOf i).toNat)
              case atStart => exact ⟨0, rfl, Nat.zero_le _, World.ownsRow_nil _ _ _ _, Below.refl _ _⟩
              case round =>
                obtain ⟨j, rfl, hj, how, hB⟩ := hrel
                have HO7 := Lib.hid how
                have HB7 := Lib.hid hB
                have hbs := hB.size
                by_cases hlt2 : j < 8
                · have x0 := cell_then hB (HHW.out j (by rw [HH8L.out]; exact hlt2))
                  have x1 := cell_then hB (HWV2.out j (by rw [HV8.out]; exact hlt2))
                  rw [Nat.zero_add] at x0 x1
                  have hq := HADD.out j hlt2
                  obtain ⟨p, hp⟩ : ∃ x, LH.getD j 0 = x := ⟨_, rfl⟩
                  obtain ⟨q, hq2⟩ : ∃ x, LV.getD j 0 = x := ⟨_, rfl⟩
                  rw [hp] at x0 hq
                  rw [hq2] at x1 hq
                  have hnx := fun v hv => take_next LE (k := j) (v := v) (by rw [HE8.out]; omega) hv
                  have HNX := Lib.hid (hnx _ hq)
                  have e1 := u32_add p q
                  have e2 := u32_add' p q
                  obtain ⟨V1, hV1⟩ : ∃ x, (p + q) % 4294967296 = x := ⟨_, rfl⟩
                  rw [hV1] at e1 e2 HNX
                  have X0 := Lib.hid x0
                  have X1 := Lib.hid x1
                  have i8 : (j : Int) < 8 := by omega
                  clear how hB x0 x1 hq hp hq2 hnx hV1
                  go_wp2_with fail
                  have hnot : ∀ q, q < wo3.heap.size → q ∉ u17.ownBlock.toList := fun q hq h => by have := (HO7.out.lt q (own_mem h)).1; omega
                  go_region_held3 (fun w' => Kept u17.ownBlock.toList wr w' ∧ w'.cell? ⟨gh, j, none⟩ = some (.int .u32 (p : Int)) ∧ w'.cell? ⟨gv', j, none⟩ = some (.int .u32 (q : Int))) ((suffices hK : Kept u17.ownBlock.toList wr _ from ⟨hK, hK.cell X0.out (hnot _ (by omega)), hK.cell X1.out (hnot _ (by omega))⟩; repeat (first | with_reducible exact Kept.refl _ _ | with_reducible refine Kept.alloc ?_ _ | with_reducible refine Kept.drew ?_ | with_reducible exact HK9.out))) (first | (refine step_append1 (by rfl) _ _ 77 (by rfl) wo3.heap.size 69 i0 _ 1 4 Tryd.underlying77 I1.out I2.out I3.out I4.out rfl (by omega) (by omega) u17 j _ (by rfl) (own_then HO7.out (by repeat (first | with_reducible exact Below.refl _ _ | with_reducible refine below_alloc ?_ _ | with_reducible refine Below.drew ?_))) wr.heap.size [.int .u32 (V1 : Int)] (by rfl) rfl (by first | exact new_one1 _ _ _ | exact new_one1 wr.drew _ _) (by simp [Value.oneCell']) (by omega) (by first | (simp; done) | (simp; omega) | omega) ?_; intro g9 c9 w9 o9 k9 h9; have HK9 := Lib.hid (((Kept.of_below (show Below wr.heap.size wr _ by repeat (first | with_reducible exact Below.refl _ _ | with_reducible refine below_alloc ?_ _ | with_reducible refine Below.drew ?_))).mono (fun _ h => by cases h)).trans k9 (New.refl _ _)); have HO9 := Lib.hid o9))
                  go_wp2_with fail
                  refine ⟨⟨j + 1, by rfl, by omega, by rw [HNX.out]; exact HO9.out, HK9.out.below_next HB7.out hbs (fun q hq => (HO7.out.lt q (own_mem hq)).1)⟩, by simp [intOf]; omega⟩
                · obtain rfl : j = 8 := by omega
                  have g3 : ¬ ((8 : Nat) : Int) < 8 := by omega
                  have hfull : LE.take 8 = LE := List.take_of_length_le (by rw [HE8.out]; exact Nat.le_refl _)
                  rw [hfull] at how
                  obtain ⟨g9, c9, rfl, h91, h92⟩ := how.form (by omega)
                  have HWE := Lib.hid (words_of_own how)
                  clear how hB hfull HO7
                  go_wp2_with fail
                  go_ret
                  exact ⟨g9, ⟨c9, rfl⟩, by rw [HLE.out]; exact HWE.out, below_next HBW.out HB7.out⟩
end Go.Proofs.YtoipckflokdakaaDoor
