/- Package stroke: Thin. -/
import Derived.Test.YtgmabepdhbnppaaStrokeIndex
import Derived.Test.YtgmabepdhbnppaaStrokeScan
import Derived.Test.YtgmabepdhbnppaaArr
namespace Go.Proofs.Ytgmabepdhbnppaa
open Go.RowKit Str
/-- 200 zeros -/
def zeros200 : Array Value := Array.replicate 200 (.int .i64 0)
theorem zero83 (W : World) : (zeroValue 83).run Try.prog W = .ok (.agg zeros200) W := by kernel_rfl
theorem arr_new (W : World) (t : TypeId) : ArrN (W.alloc (.cells zeros200 t)) W.heap.size 200 (fun _ => 0) := fun j hj => by
  refine ⟨new_cell (by unfold zeros200; rw [Array.getElem?_replicate, if_pos hj]), by simp [go_sem]⟩
theorem int_info : (Try.prog.info? 3).map (fun i => (i.zero, i.size, i.bytes)) = some (some (.int .i64 0), 1, 8) := by kernel_rfl
/-- what Thin comes to -/
def ThinP (D : List Dot) (z : Int) (w : World) (e : Ending) (w' : World) : Prop :=
  ∃ A cap, e = .returned (.tuple #[.slice A (thinF D z).length cap, .int .i64 0]) ∧ IntsAt w' A (natI (thinF D z)) ∧ (thinF D z).length ≤ cap ∧ Below w.heap.size w w'
theorem tail_len {ok : Nat → Nat → Bool} {L : Nat} : ∀ f i, (tailF ok L f i).length ≤ f
  | 0, _ => Nat.le_refl _
  | f + 1, i => by
    rw [tailF]
    split
    · rw [List.length_cons]; have := tail_len (ok := ok) (L := L) f (nextF ok L i); omega
    · simp
theorem thin_no (P N : Int) (A : Option Addr) (cap : Nat) (D : List Dot) (z : Int) (w : World) (hD : Dots w A D) (hn : (D.length : Int) ≤ 4611686018427387904) (h1 : validB P N D = false ∨ isInB z 0 1000 = false) :
    Calls Try.prog 28 #[.agg #[.int .i64 P, .int .i64 N, .slice A D.length cap], .int .i64 z] w fun e w' => e = .returned (.tuple #[.slice none 0 0, .int .i64 50]) ∧ Below w.heap.size w w' := by
  have HD := Lib.hid hD
  clear hD
  have B0 : Below w.heap.size w ((w.alloc (.cells #[.int .i64 P, .int .i64 N, .slice A D.length cap] 27)).alloc (.cells #[.int .i64 z] 3)) := below_alloc (below_alloc (Below.refl _ _) _) _
  cases hv : validB P N D with
  | false =>
    clear h1
    go_enter Try.func28, Try.ntmps28
    go_wp2_with fail
    refine (valid_any P N A cap D _ (HD.out.below B0) hn).mono ?_
    rintro e w1 ⟨rfl, b1⟩
    rw [hv]
    go_wp2_with fail
    go_ret2
    exact ⟨rfl, below_next B0 b1⟩
  | true =>
    have hz := h1.resolve_left (by rw [hv]; simp)
    have HV := Lib.hid hv
    clear h1 hv
    go_enter Try.func28, Try.ntmps28
    go_wp2_with fail
    refine (valid_any P N A cap D _ (HD.out.below B0) hn).mono ?_
    rintro e w1 ⟨rfl, b1⟩
    rw [HV.out]
    have c0 : w1.cell? ⟨w.heap.size + 1, 0, none⟩ = some (.int .i64 z) := cell_then b1 (by simp [go_sem])
    go_wp2_with fail
    refine (isIn_any _ _ _ _).mono ?_
    rintro e w2 ⟨rfl, rfl⟩
    rw [hz]
    go_wp2_with fail
    go_ret2
    exact ⟨rfl, below_next B0 b1⟩
set_option maxRecDepth 100000 in
set_option maxHeartbeats 4000000 in
theorem thin_yes (P N : Int) (A : Option Addr) (cap : Nat) (D : List Dot) (z : Int) (w : World) (hD : Dots w A D) (hcap : D.length ≤ cap) (hcap2 : (cap : Int) ≤ 9223372036854775807) (h1 : validB P N D = true) (hz : isInB z 0 1000 = true) :
    Calls Try.prog 28 #[.agg #[.int .i64 P, .int .i64 N, .slice A D.length cap], .int .i64 z] w (ThinP D z w) := by
  obtain ⟨⟨p5, p6⟩, p0⟩ := valid_len h1
  have hpl := placed (validB_dots h1)
  have HPL := Lib.hid hpl
  have H1 := Lib.hid h1
  have hzz := isInB_iff.1 hz
  have HZ := Lib.hid hz
  clear h1 hpl hz
  obtain ⟨b, o, rfl, hlt, hc⟩ := hD.open_ p0
  have HD := Lib.hid hD
  have HC := Lib.hid hc
  clear hD hc
  have B0 : Below w.heap.size w ((w.alloc (.cells #[.int .i64 P, .int .i64 N, .slice (some ⟨b, o, none⟩) D.length cap] 27)).alloc (.cells #[.int .i64 z] 3)) := below_alloc (below_alloc (Below.refl _ _) _) _
  go_enter Try.func28, Try.ntmps28
  go_wp2_with fail
  refine (valid_any P N _ cap D _ (HD.out.below B0) (by omega)).mono ?_
  rintro e w1 ⟨rfl, b1⟩
  rw [H1.out]
  have B1 := below_next B0 b1
  have e2 : w1.cell? ⟨w.heap.size, 2, none⟩ = some (.slice (some ⟨b, o, none⟩) D.length cap) := cell_then b1 (by simp [go_sem])
  have e3 : w1.cell? ⟨w.heap.size + 1, 0, none⟩ = some (.int .i64 z) := cell_then b1 (by simp [go_sem])
  clear B0 b1
  go_wp2_with fail
  refine (isIn_any _ _ _ _).mono ?_
  rintro e w2 ⟨rfl, rfl⟩
  rw [HZ.out]
  have hal := fun W => zero83 W
  obtain ⟨L, hL, hL2⟩ : ∃ L : Nat, (D.length : Int) - 1 = (L : Int) ∧ L + 1 = D.length := ⟨D.length - 1, by omega, by omega⟩
  have HL := Lib.hid hL2
  have hL3 : L < 200 := by omega
  have l2 := lt_size e2
  have l3 := lt_size e3
  obtain ⟨ok, hok⟩ : ∃ ok, okD D z = ok := ⟨_, rfl⟩
  have HOK := Lib.hid hok
  have hok1 : ∀ i, i < L → ok i (i + 1) = true := fun i _ => by rw [← hok]; exact okD_next D z i
  have HOK1 := Lib.hid hok1
  clear hok hok1 hL2
  go_wp2_with fail
  clear hal
  obtain ⟨W0, hW0⟩ : ∃ W0, (w1.alloc (.cells zeros200 83)).alloc (.cells zeros200 83) = W0 := ⟨_, rfl⟩
  have BN : Below w1.heap.size w1 W0 := by rw [← hW0]; exact below_alloc (below_alloc (Below.refl _ _) _) _
  have aN : ArrN W0 w1.heap.size 200 (fun _ => 0) := by rw [← hW0]; exact (arr_new w1 _).then_ (below_alloc (Below.refl _ _) _)
  have aX : ArrN W0 (w1.heap.size + 1) 200 (fun _ => 0) := by
    rw [← hW0]
    have := arr_new (w1.alloc (.cells zeros200 83)) 83
    rwa [World.size_alloc] at this
  rw [hW0]
  clear hW0
  go_loopw [10] (fun s wr => ∃ m : Nat, m ≤ L ∧ s = .int .i64 ((m : Int) - 1) ∧ ∃ fN fX : Nat → Int, ArrN wr w1.heap.size 200 fN ∧ ArrN wr (w1.heap.size + 1) 200 fX ∧
    (∀ j, m ≤ j → j ≤ L → fN j = (needF ok L j : Int)) ∧ (∀ j, m ≤ j → j < L → fX j = (nextF ok L j : Int)) ∧ (∀ j, j < m → fX j = 0) ∧
    wr.cell? ⟨w.heap.size, 2, none⟩ = some (.slice (some ⟨b, o, none⟩) D.length cap) ∧ wr.cell? ⟨w.heap.size + 1, 0, none⟩ = some (.int .i64 z) ∧ Below w.heap.size w wr) (fun s _ => (intOf s + 1).toNat)
  case atStart => exact ⟨L, Nat.le_refl _, rfl, _, _, aN, aX, fun j h1 h2 => by rw [show j = L by omega, need_last]; rfl, fun j h1 h2 => by omega, fun j h => rfl, cell_then BN e2, cell_then BN e3, below_next B1 BN⟩
  case round =>
    clear e2 e3 aN aX BN
    obtain ⟨m, hm, rfl, fN, fX, hN, hX, hNj, hXj, hX0, e2, e3, hB⟩ := hrel
    cases m with
    | zero =>
      have HX := Lib.hid hX
      have HXj := Lib.hid hXj
      clear hN hX hNj hXj hX0
      obtain ⟨i0, hi0, hz0, hz1, hz2⟩ := info_parts int_info
      have hBs := hB.size
      have hXs := lt_size (HX.out 0 (by omega)).1
      have hok := HOK.out
      have HTH := Lib.hid (show thinF D z = 0 :: tailF ok L L 0 by unfold thinF; rw [hok, show D.length - 1 = L by have := HL.out; omega])
      clear hok e2 e3
      go_wp2_with fail
      go_loopw [12, 13] (fun v s wx => ∃ (pre : List Nat) (i fu g cp : Nat), i ≤ L ∧ s = .int .i64 (i : Int) ∧ v = .slice (some ⟨g, 0, none⟩) pre.length cp ∧ wx.ownsRow w.heap.size 3 1 (.slice (some ⟨g, 0, none⟩) pre.length cp) pre.length (ivs (natI pre)) ∧
        w1.heap.size + 1 < g ∧ thinF D z = pre ++ tailF ok L fu i ∧ L - i ≤ fu ∧ fu + pre.length ≤ 200 ∧ ArrN wx (w1.heap.size + 1) 200 fX ∧ Below w.heap.size w wx) (fun _ s _ => L - (intOf s).toNat)
      case atStart =>
        refine ⟨[0], 0, L, wr.heap.size, 1, by omega, rfl, rfl, ?_, by omega, HTH.out, by omega, by simp; omega, HX.out.then_ (below_alloc (Below.refl _ _) _), below_alloc hB _⟩
        exact World.ownsRow_lit wr #[.int .i64 0] 1 hBs (by unfold maxLen; omega) rfl
      case round =>
        clear hB hBs
        obtain ⟨pre, i, fu, g, cp, hi, rfl, rfl, hown, hg, hth, hfu, hfl, hX2, hB⟩ := hrel
        have HTH2 := Lib.hid hth
        have HX2 := Lib.hid hX2
        have hBs := hB.size
        by_cases hiL : i < L
        · obtain ⟨fu, rfl⟩ : ∃ f, fu = f + 1 := ⟨fu - 1, by omega⟩
          obtain ⟨n1, n2, _⟩ := need_spec hL3 HOK1.out i hiL
          obtain ⟨cx, _⟩ := hX2 i (by omega)
          rw [HXj.out i (by omega) hiL] at cx
          obtain ⟨j, hj⟩ : ∃ j, nextF ok L i = j := ⟨_, rfl⟩
          rw [hj] at n1 n2 cx
          have HJ := Lib.hid hj
          have r1 : (i : Int) < 200 := by omega
          have hXs2 := lt_size (hX2 0 (by omega)).1
          clear hth hX2 hj
          go_wp2_with (at_builtin; refine wpList_append_lies _ rfl _ _ _ rfl w.heap.size 3 i0 _ 1 8 Try.underlying32 hi0 hz0 hz1 hz2 rfl (by omega) _ _ _ rfl (hown.alloc _) ⟨wr.heap.size, 0, none⟩ 1 1 [.int .i64 (j : Int)] rfl rfl (cell_one_new _ _ _) (by simp [Value.oneCell']) (by omega) (by unfold maxLen; omega) (by omega) (by simp; omega) (wr.heap.size + 1) (by simp) ?_; intro g' cp' wy hown' hgrow hat hlt')
          have hat2 : some g = some g' ∨ g' = wr.heap.size + 1 := hat
          have hgr : (wr.alloc (.cells #[.int .i64 (j : Int)] 3)).grownBy wy (some g) := hgrow
          clear hat hgrow
          refine ⟨⟨.slice (some ⟨g', 0, none⟩) (pre.length + 1) cp', .int .i64 (j : Int), _, _, _, _, _, _, _, _, _, _, ?_, rfl⟩, by simp [intOf]; omega⟩
          have hg2 : w1.heap.size + 1 < g' := by
            rcases hat2 with h | h
            · injection h with h; omega
            · omega
          have hne : ∀ {k : Nat}, some g = some k → k = g := fun h => by injection h with h; exact h.symm
          refine ⟨pre ++ [j], j, fu, g', cp', n2, rfl, by rw [List.length_append]; rfl, ?_, hg2, ?_, by omega, by rw [List.length_append]; simp; omega, ?_, ?_⟩
          · rw [natI_append, ivs_append, List.length_append]; exact hown'
          · rw [HTH2.out, tailF, if_pos hiL, HJ.out, List.append_assoc]; rfl
          · exact (HX2.out.then_ (below_alloc (Below.refl _ _) _)).grown hgr (fun h => by have := hne h.symm; omega)
          · exact (below_alloc hB _).grown hgr (by simp; omega) (fun k h => by have := hne h; omega)
        · obtain rfl : i = L := by omega
          go_wp2_with fail
          go_ret2
          have hth2 : thinF D z = pre := by rw [HTH2.out]; cases fu <;> simp [tailF]
          rw [← hth2] at hown
          refine ⟨some ⟨g, 0, none⟩, cp, ?_, ints_of_own hown, ?_, hB⟩
          · rw [hth2]; rfl
          · rcases hown.2 with ⟨h, _⟩ | ⟨g2, c2, cur, h, _, _, h3, _⟩
            · cases h
            · simp only [Value.slice.injEq] at h; omega
    | succ i =>
      rw [show (((i + 1 : Nat) : Int) - 1) = (i : Int) by omega]
      obtain ⟨ci, zi⟩ := hN i (by omega)
      have HN := Lib.hid hN
      have HX := Lib.hid hX
      have HNj := Lib.hid hNj
      have HXj := Lib.hid hXj
      have HX0 := Lib.hid hX0
      clear hN hX hNj hXj hX0
      have r0 : (i : Int) < 200 := by omega
      go_wp2_with fail
      clear ci zi
      go_loopw [11] (fun s wx => ∃ k : Nat, i ≤ k ∧ k ≤ L ∧ s = .int .i64 (k : Int) ∧ ∃ gN gX : Nat → Int, ArrN wx w1.heap.size 200 gN ∧ ArrN wx (w1.heap.size + 1) 200 gX ∧
        gN i = ((scS ok L i (k + 1)).1 : Int) ∧ gX i = ((scS ok L i (k + 1)).2 : Int) ∧ (∀ j, i < j → j ≤ L → gN j = (needF ok L j : Int)) ∧ (∀ j, i < j → j < L → gX j = (nextF ok L j : Int)) ∧ (∀ j, j < i → gX j = 0) ∧
        wx.cell? ⟨w.heap.size, 2, none⟩ = some (.slice (some ⟨b, o, none⟩) D.length cap) ∧ wx.cell? ⟨w.heap.size + 1, 0, none⟩ = some (.int .i64 z) ∧ Below w.heap.size w wx) (fun s _ => (intOf s).toNat)
      case atStart =>
        refine ⟨L, by omega, Nat.le_refl _, rfl, _, _, HN.out.set_ (by omega) 200, HX.out.other (by dsimp only; omega) _, ?_, ?_, ?_, fun j h1 h2 => HXj.out j (by omega) h2, fun j h => HX0.out j (by omega), cell_set _ e2 (by dsimp only; omega), cell_set _ e3 (by dsimp only; omega), hB.setCell (by dsimp only; omega) _⟩
        · rw [scS_top ok (by omega)]; simp
        · rw [scS_top ok (by omega), HX0.out i (by omega)]; rfl
        · intro j h1 h2
          exact (if_neg (by omega)).trans (HNj.out j (by omega) h2)
      case round =>
        clear e2 e3 hB
        obtain ⟨k, hk1, hk2, rfl, gN, gX, hN, hX, hNi, hXi, hNj, hXj, hX0, e2, e3, hB⟩ := hrel
        by_cases hik : i < k
        · obtain ⟨a, ha⟩ : ∃ a, needF ok L k = a := ⟨_, rfl⟩
          obtain ⟨c, hc⟩ : ∃ c, (scS ok L i (k + 1)).1 = c := ⟨_, rfl⟩
          have ha2 : a ≤ 200 := by rw [← ha]; exact need_le ok hk2
          have hc2 : c ≤ 200 := by rw [← hc]; exact scS_le ok _ _ _
          have ck := (hN k (by omega)).1
          rw [hNj k hik hk2, ha] at ck
          obtain ⟨ci, zi⟩ := hN i (by omega)
          rw [hNi, hc] at ci
          obtain ⟨xi, yi⟩ := hX i (by omega)
          have hst := scS_step ok (i := i) hk2
          rw [ha, hc] at hst
          have HS := Lib.hid hst
          have HN2 := Lib.hid hN
          have HX2 := Lib.hid hX
          have HNi := Lib.hid hNi
          have HXi := Lib.hid hXi
          have HNj2 := Lib.hid hNj
          have HXj2 := Lib.hid hXj
          have HX02 := Lib.hid hX0
          have HA := Lib.hid ha
          have HC2 := Lib.hid hc
          clear hst hN hX hNi hXi hNj hXj hX0 ha hc
          have r1 : (k : Int) < 200 := by omega
          have k0 := fun d os => cell_regrown ck d os
          have i0 := fun d os => cell_regrown ci d os
          have x1 : (0 : Int) ≤ (k : Int) := by omega
          have x2 : (0 : Int) ≤ (i : Int) := by omega
          have x3 : IntKind.i64.wrap ((a : Int) + 1) = (a : Int) + 1 := IntWalk.i64_in _ (by omega)
          have Llen := HL.out
          by_cases hle : a + 1 ≤ c
          · have hd : decide ((a : Int) + 1 ≤ (c : Int)) = true := by simp; omega
            clear Llen
            go_wp2_with fail
            refine wp_region_quiet_below (by kernel_rfl) (by kernel_rfl) ?_
            repeat (go_big_quiet_step (exact Calls.regrown_of (enough_any b o cap _ _ D i k z _ HPL.out hzz hik (by rw [← HL.out]; omega) p6 hcap hcap2 (cell_then (below_regrown _ _ _) e2) (Dots.of_open (below_next hB (below_regrown _ _ _)) HC.out) (cell_then (below_regrown _ _ _) e3))))
            refine wpQuiet_nil ?_
            intro wq hq0
            have hq := below_of_class hq0
            clear hq0
            clear k0 i0 x3 hd
            have B2 := below_next hB hq
            have ck2 := cell_then hq ck
            obtain ⟨ci2, zi2⟩ := var_then hq ⟨ci, zi⟩
            obtain ⟨xi2, yi2⟩ := var_then hq ⟨xi, yi⟩
            have hNq := Lib.hid (HN2.out.then_ hq)
            have hXq := Lib.hid (HX2.out.then_ hq)
            replace e2 := cell_then hq e2
            replace e3 := cell_then hq e3
            clear ck ci zi xi yi hB hq
            have hok := congrFun (congrFun HOK.out i) k
            cases hb : okD D z i k with
            | true =>
              rw [hb] at hok
              have HT := Lib.hid (show scS ok L i k = (a + 1, k) by rw [HS.out, if_pos ⟨hle, hok.symm⟩])
              clear hok hb
              go_wp2_with fail
              refine ⟨⟨k - 1, by omega, by omega, by rw [show ((k : Int) - 1) = ((k - 1 : Nat) : Int) by omega], _, _, (hNq.out.set_ (i := i) (by omega) _).other (by dsimp only; omega) _, (hXq.out.other (by dsimp only; omega) _).set_ (i := i) (by omega) _, ?_, ?_, ?_, ?_, ?_, cell_set _ (cell_set _ e2 (by dsimp only; omega)) (by dsimp only; omega), cell_set _ (cell_set _ e3 (by dsimp only; omega)) (by dsimp only; omega), (B2.setCell (by dsimp only; omega) _).setCell (by dsimp only; omega) _⟩, by simp [intOf]; omega⟩
              · rw [show k - 1 + 1 = k by omega, HT.out]; simp
              · rw [show k - 1 + 1 = k by omega, HT.out]; simp
              · intro j h1 h2; exact (if_neg (by omega)).trans (HNj2.out j h1 h2)
              · intro j h1 h2; exact (if_neg (by omega)).trans (HXj2.out j h1 h2)
              · intro j h1; exact (if_neg (by omega)).trans (HX02.out j h1)
            | false =>
              rw [hb] at hok
              have HT := Lib.hid (show scS ok L i k = scS ok L i (k + 1) by rw [HS.out, if_neg (fun h => by rw [← hok] at h; cases h.2)])
              clear hok hb
              go_wp2_with fail
              exact ⟨⟨k - 1, by omega, by omega, by rw [show ((k : Int) - 1) = ((k - 1 : Nat) : Int) by omega], gN, gX, hNq.out, hXq.out, by rw [show k - 1 + 1 = k by omega, HT.out]; exact HNi.out, by rw [show k - 1 + 1 = k by omega, HT.out]; exact HXi.out, HNj2.out, HXj2.out, HX02.out, e2, e3, B2⟩, by simp [intOf]; omega⟩
          · have hd : decide ((a : Int) + 1 ≤ (c : Int)) = false := by simp; omega
            clear Llen
            go_wp2_with fail
            refine wp_region_quiet_below (by kernel_rfl) (by kernel_rfl) ?_
            repeat (go_big_quiet_step (fail))
            refine wpQuiet_nil ?_
            intro wq hq0
            have hq := below_of_class hq0
            clear hq0
            clear k0 i0 x3 hd
            have B2 := below_next hB hq
            have ck2 := cell_then hq ck
            obtain ⟨ci2, zi2⟩ := var_then hq ⟨ci, zi⟩
            obtain ⟨xi2, yi2⟩ := var_then hq ⟨xi, yi⟩
            have hNq := Lib.hid (HN2.out.then_ hq)
            have hXq := Lib.hid (HX2.out.then_ hq)
            replace e2 := cell_then hq e2
            replace e3 := cell_then hq e3
            clear ck ci zi xi yi hB hq
            have HT := Lib.hid (show scS ok L i k = scS ok L i (k + 1) by rw [HS.out, if_neg (fun h => hle h.1)])
            go_wp2_with fail
            exact ⟨⟨k - 1, by omega, by omega, by rw [show ((k : Int) - 1) = ((k - 1 : Nat) : Int) by omega], gN, gX, hNq.out, hXq.out, by rw [show k - 1 + 1 = k by omega, HT.out]; exact HNi.out, by rw [show k - 1 + 1 = k by omega, HT.out]; exact HXi.out, HNj2.out, HXj2.out, HX02.out, e2, e3, B2⟩, by simp [intOf]; omega⟩
        · obtain rfl : k = i := by omega
          have HN2 := Lib.hid hN
          have HX2 := Lib.hid hX
          have HNi := Lib.hid hNi
          have HXi := Lib.hid hXi
          have HNj2 := Lib.hid hNj
          have HXj2 := Lib.hid hXj
          have HX02 := Lib.hid hX0
          clear hN hX hNi hXi hNj hXj hX0
          go_wp2_with fail
          have hnd := scS_need ok (L := L) (i := k) (by omega)
          refine ⟨⟨k, by omega, rfl, gN, gX, HN2.out, HX2.out, ?_, ?_, HX02.out, e2, e3, hB⟩, by simp [intOf]⟩
          · intro j h1 h2
            by_cases e : j = k
            · subst e; rw [hnd.1]; exact HNi.out
            · exact HNj2.out j (by omega) h2
          · intro j h1 h2
            by_cases e : j = k
            · subst e; rw [hnd.2]; exact HXi.out
            · exact HXj2.out j (by omega) h2
end Go.Proofs.Ytgmabepdhbnppaa
