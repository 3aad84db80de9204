/- The walk of the law WireMatchesReference. -/
import Derived.Test.YthfoglgmilbolaaDoorWireAny
namespace Go.Proofs.YthfoglgmilbolaaDoor
open Go.RowKit Wire
set_option maxRecDepth 100000 in
set_option maxHeartbeats 4000000 in
theorem law1 (n : Int) (s : ByteArray) (at0 : Int) (w : World) (hN : Nib w) (hs : (s.size : Int) ≤ 9223372036854775807) (n0 : -9223372036854775808 ≤ n) (n1 : n ≤ 9223372036854775807) (a0 : -9223372036854775808 ≤ at0) (a1 : at0 ≤ 9223372036854775807) :
    Calls Tryd.prog 3 #[.int .i64 n, .string s, .int .i64 at0] w fun e w' => e = .returned (.bool true) ∧ Below w.heap.size w w' := by
  have HN := Lib.hid hN
  go_enter Tryd.func3, Tryd.ntmps3
  go_wp2_with fail
  refine (sane_any _ HN.out).mono ?_
  rintro e w1 ⟨rfl, b1⟩
  go_wp2_with fail
  · have hF : ((s.extract 0 300).size : Int) ≤ 300 := by rw [ByteArray.size_extract]; omega
    obtain ⟨F, hFe⟩ : ∃ F, s.extract 0 300 = F := ⟨_, rfl⟩
    rw [hFe] at hF ⊢
    clear hFe
    refine (num_any n _ n0 n1).mono ?_
    rintro e w2 ⟨rfl, b2⟩
    have hnb := numI_bd n
    go_wp2_with fail
    obtain ⟨W0, hW0⟩ : ∃ W0, w2.alloc (.cells #[.int .i64 n, .int .i64 (numI n)] 3) = W0 := ⟨_, rfl⟩
    have c0 : W0.cell? ⟨w2.heap.size, 0, none⟩ = some (.int .i64 n) := by rw [← hW0]; simp
    have c1 : W0.cell? ⟨w2.heap.size, 1, none⟩ = some (.int .i64 (numI n)) := by rw [← hW0]; simp
    have hlt : w2.heap.size < W0.heap.size := by rw [← hW0]; simp
    have B2 := b1.trans (b2.mono b1.size)
    have B0 : Below w.heap.size w W0 := by rw [← hW0]; exact B2.alloc B2.size _
    rw [hW0]
    clear hW0 b1 b2 B2
    go_loopw [44] (fun i wr => ∃ k : Nat, k ≤ 2 ∧ i = .int .i64 (k : Int) ∧ Below W0.heap.size W0 wr) (fun i _ => 2 - (intOf i).toNat)
    case atStart => exact ⟨0, by omega, rfl, Below.refl _ _⟩
    case round =>
      obtain ⟨k, hk, rfl, hB⟩ := hrel
      have d0 := (hB.cell (p := ⟨w2.heap.size, 0, none⟩) hlt).trans c0
      have d1 := (hB.cell (p := ⟨w2.heap.size, 1, none⟩) hlt).trans c1
      clear c0 c1
      rcases (show k = 0 ∨ k = 1 ∨ k = 2 by omega) with rfl | rfl | rfl
      · go_wp2_with fail
        refine (put_any _ _).mono ?_
        rintro e w3 ⟨rfl, b3⟩
        go_wp2_with fail
        refine (rput_any _ _).mono ?_
        rintro e w4 ⟨rfl, b4⟩
        unfold bs
        go_wp2_with fail
        have B3 := hB.trans (b3.mono hB.size)
        exact ⟨⟨1, by omega, rfl, B3.trans (b4.mono B3.size)⟩, by simp [intOf]⟩
      · go_wp2_with fail
        refine (put_any _ _).mono ?_
        rintro e w3 ⟨rfl, b3⟩
        go_wp2_with fail
        refine (rput_any _ _).mono ?_
        rintro e w4 ⟨rfl, b4⟩
        unfold bs
        go_wp2_with fail
        have B3 := hB.trans (b3.mono hB.size)
        exact ⟨⟨2, by omega, rfl, B3.trans (b4.mono B3.size)⟩, by simp [intOf]⟩
      · have B1 := B0.trans (hB.mono B0.size)
        clear d0 d1 hB hlt B0
        go_wp2_with fail
        refine (pick_any at0 _ _ a0 a1 (by omega) (by omega)).mono ?_
        rintro e w3 ⟨rfl, rfl⟩
        have p1 := pickI_lo at0 ((F.size : Int) + 2) (by omega)
        have p2 := pickI_hi at0 ((F.size : Int) + 2) (by omega)
        go_wp2_with fail
        obtain ⟨V0, hV0⟩ : ∃ V0, wr.alloc (.cells #[.int .i64 at0, .int .i64 (pickI at0 ((F.size : Int) + 2))] 3) = V0 := ⟨_, rfl⟩
        have c0 : V0.cell? ⟨wr.heap.size, 0, none⟩ = some (.int .i64 at0) := by rw [← hV0]; simp
        have c1 : V0.cell? ⟨wr.heap.size, 1, none⟩ = some (.int .i64 (pickI at0 ((F.size : Int) + 2))) := by rw [← hV0]; simp
        have hlt : wr.heap.size < V0.heap.size := by rw [← hV0]; simp
        have B2 : Below w.heap.size w V0 := by rw [← hV0]; exact B1.alloc B1.size _
        rw [hV0]
        obtain ⟨B, hBe⟩ : ∃ B, B = wr.heap.size := ⟨_, rfl⟩
        rw [← hBe] at c0 c1 hlt ⊢
        clear hV0 B1 hBe
        go_loopw [75] (fun i wr => ∃ k : Nat, k ≤ 2 ∧ i = .int .i64 (k : Int) ∧ Below V0.heap.size V0 wr) (fun i _ => 2 - (intOf i).toNat)
        case atStart => exact ⟨0, by omega, rfl, Below.refl _ _⟩
        case round =>
          obtain ⟨k, hk, rfl, hB2⟩ := hrel
          have d0 := (hB2.cell (p := ⟨B, 0, none⟩) hlt).trans c0
          have d1 := (hB2.cell (p := ⟨B, 1, none⟩) hlt).trans c1
          clear c0 c1
          rcases (show k = 0 ∨ k = 1 ∨ k = 2 by omega) with rfl | rfl | rfl
          · go_wp2_with fail
            refine (int_any _ _ _ (by omega)).mono ?_
            rintro e w3 ⟨rfl, rfl⟩
            unfold iV
            go_wp2_with fail
            refine (rint_any _ _ _ (by omega)).mono ?_
            rintro e w3 ⟨rfl, b3⟩
            unfold iV
            go_wp2_with fail
            refine (str_any _ _ _ (by omega)).mono ?_
            rintro e w4 ⟨rfl, rfl⟩
            unfold sV bs
            go_wp2_with fail
            refine (rstr_any _ _ _ (by omega)).mono ?_
            rintro e w4 ⟨rfl, b4⟩
            unfold sV bs
            go_wp2_with fail
            have B3 := hB2.trans (b3.mono hB2.size)
            exact ⟨⟨1, by omega, rfl, B3.trans (b4.mono B3.size)⟩, by simp [intOf]⟩
          · go_wp2_with fail
            refine (int_any _ _ _ (by omega)).mono ?_
            rintro e w3 ⟨rfl, rfl⟩
            unfold iV
            go_wp2_with fail
            refine (rint_any _ _ _ (by omega)).mono ?_
            rintro e w3 ⟨rfl, b3⟩
            unfold iV
            go_wp2_with fail
            refine (str_any _ _ _ (by omega)).mono ?_
            rintro e w4 ⟨rfl, rfl⟩
            unfold sV bs
            go_wp2_with fail
            refine (rstr_any _ _ _ (by omega)).mono ?_
            rintro e w4 ⟨rfl, b4⟩
            unfold sV bs
            go_wp2_with fail
            have B3 := hB2.trans (b3.mono hB2.size)
            exact ⟨⟨2, by omega, rfl, B3.trans (b4.mono B3.size)⟩, by simp [intOf]⟩
          · have B3 := B2.trans (hB2.mono B2.size)
            clear d0 d1 hlt
            go_wp2_with fail
            refine (puts_any _ _ (by omega)).mono ?_
            rintro e w3 ⟨rfl, b3⟩
            unfold bs
            go_wp2_with fail
            refine (rputs_any _ _ (by omega)).mono ?_
            rintro e w4 ⟨rfl, b4⟩
            unfold bs
            go_wp2_with fail
            have B4 := B3.trans (b3.mono B3.size)
            have B5 := B4.trans (b4.mono B4.size)
            refine (sum_any _ _ (by omega) (HN.out.below B5 (Nat.le_refl _))).mono ?_
            rintro e w5 ⟨rfl, rfl⟩
            go_wp2_with fail
            refine (rsum_any _ _ (by omega)).mono ?_
            rintro e w5 ⟨rfl, rfl⟩
            go_wp2_with fail
            go_ret
            exact ⟨rfl, B5⟩
  · have hF : (s.size : Int) ≤ 300 := by omega
    obtain ⟨F, rfl⟩ : ∃ F, F = s := ⟨_, rfl⟩
    refine (num_any n _ n0 n1).mono ?_
    rintro e w2 ⟨rfl, b2⟩
    have hnb := numI_bd n
    go_wp2_with fail
    obtain ⟨W0, hW0⟩ : ∃ W0, w2.alloc (.cells #[.int .i64 n, .int .i64 (numI n)] 3) = W0 := ⟨_, rfl⟩
    have c0 : W0.cell? ⟨w2.heap.size, 0, none⟩ = some (.int .i64 n) := by rw [← hW0]; simp
    have c1 : W0.cell? ⟨w2.heap.size, 1, none⟩ = some (.int .i64 (numI n)) := by rw [← hW0]; simp
    have hlt : w2.heap.size < W0.heap.size := by rw [← hW0]; simp
    have B2 := b1.trans (b2.mono b1.size)
    have B0 : Below w.heap.size w W0 := by rw [← hW0]; exact B2.alloc B2.size _
    rw [hW0]
    clear hW0 b1 b2 B2
    go_loopw [44] (fun i wr => ∃ k : Nat, k ≤ 2 ∧ i = .int .i64 (k : Int) ∧ Below W0.heap.size W0 wr) (fun i _ => 2 - (intOf i).toNat)
    case atStart => exact ⟨0, by omega, rfl, Below.refl _ _⟩
    case round =>
      obtain ⟨k, hk, rfl, hB⟩ := hrel
      have d0 := (hB.cell (p := ⟨w2.heap.size, 0, none⟩) hlt).trans c0
      have d1 := (hB.cell (p := ⟨w2.heap.size, 1, none⟩) hlt).trans c1
      clear c0 c1
      rcases (show k = 0 ∨ k = 1 ∨ k = 2 by omega) with rfl | rfl | rfl
      · go_wp2_with fail
        refine (put_any _ _).mono ?_
        rintro e w3 ⟨rfl, b3⟩
        go_wp2_with fail
        refine (rput_any _ _).mono ?_
        rintro e w4 ⟨rfl, b4⟩
        unfold bs
        go_wp2_with fail
        have B3 := hB.trans (b3.mono hB.size)
        exact ⟨⟨1, by omega, rfl, B3.trans (b4.mono B3.size)⟩, by simp [intOf]⟩
      · go_wp2_with fail
        refine (put_any _ _).mono ?_
        rintro e w3 ⟨rfl, b3⟩
        go_wp2_with fail
        refine (rput_any _ _).mono ?_
        rintro e w4 ⟨rfl, b4⟩
        unfold bs
        go_wp2_with fail
        have B3 := hB.trans (b3.mono hB.size)
        exact ⟨⟨2, by omega, rfl, B3.trans (b4.mono B3.size)⟩, by simp [intOf]⟩
      · have B1 := B0.trans (hB.mono B0.size)
        clear d0 d1 hB hlt B0
        go_wp2_with fail
        refine (pick_any at0 _ _ a0 a1 (by omega) (by omega)).mono ?_
        rintro e w3 ⟨rfl, rfl⟩
        have p1 := pickI_lo at0 ((F.size : Int) + 2) (by omega)
        have p2 := pickI_hi at0 ((F.size : Int) + 2) (by omega)
        go_wp2_with fail
        obtain ⟨V0, hV0⟩ : ∃ V0, wr.alloc (.cells #[.int .i64 at0, .int .i64 (pickI at0 ((F.size : Int) + 2))] 3) = V0 := ⟨_, rfl⟩
        have c0 : V0.cell? ⟨wr.heap.size, 0, none⟩ = some (.int .i64 at0) := by rw [← hV0]; simp
        have c1 : V0.cell? ⟨wr.heap.size, 1, none⟩ = some (.int .i64 (pickI at0 ((F.size : Int) + 2))) := by rw [← hV0]; simp
        have hlt : wr.heap.size < V0.heap.size := by rw [← hV0]; simp
        have B2 : Below w.heap.size w V0 := by rw [← hV0]; exact B1.alloc B1.size _
        rw [hV0]
        obtain ⟨B, hBe⟩ : ∃ B, B = wr.heap.size := ⟨_, rfl⟩
        rw [← hBe] at c0 c1 hlt ⊢
        clear hV0 B1 hBe
        go_loopw [75] (fun i wr => ∃ k : Nat, k ≤ 2 ∧ i = .int .i64 (k : Int) ∧ Below V0.heap.size V0 wr) (fun i _ => 2 - (intOf i).toNat)
        case atStart => exact ⟨0, by omega, rfl, Below.refl _ _⟩
        case round =>
          obtain ⟨k, hk, rfl, hB2⟩ := hrel
          have d0 := (hB2.cell (p := ⟨B, 0, none⟩) hlt).trans c0
          have d1 := (hB2.cell (p := ⟨B, 1, none⟩) hlt).trans c1
          clear c0 c1
          rcases (show k = 0 ∨ k = 1 ∨ k = 2 by omega) with rfl | rfl | rfl
          · go_wp2_with fail
            refine (int_any _ _ _ (by omega)).mono ?_
            rintro e w3 ⟨rfl, rfl⟩
            unfold iV
            go_wp2_with fail
            refine (rint_any _ _ _ (by omega)).mono ?_
            rintro e w3 ⟨rfl, b3⟩
            unfold iV
            go_wp2_with fail
            refine (str_any _ _ _ (by omega)).mono ?_
            rintro e w4 ⟨rfl, rfl⟩
            unfold sV bs
            go_wp2_with fail
            refine (rstr_any _ _ _ (by omega)).mono ?_
            rintro e w4 ⟨rfl, b4⟩
            unfold sV bs
            go_wp2_with fail
            have B3 := hB2.trans (b3.mono hB2.size)
            exact ⟨⟨1, by omega, rfl, B3.trans (b4.mono B3.size)⟩, by simp [intOf]⟩
          · go_wp2_with fail
            refine (int_any _ _ _ (by omega)).mono ?_
            rintro e w3 ⟨rfl, rfl⟩
            unfold iV
            go_wp2_with fail
            refine (rint_any _ _ _ (by omega)).mono ?_
            rintro e w3 ⟨rfl, b3⟩
            unfold iV
            go_wp2_with fail
            refine (str_any _ _ _ (by omega)).mono ?_
            rintro e w4 ⟨rfl, rfl⟩
            unfold sV bs
            go_wp2_with fail
            refine (rstr_any _ _ _ (by omega)).mono ?_
            rintro e w4 ⟨rfl, b4⟩
            unfold sV bs
            go_wp2_with fail
            have B3 := hB2.trans (b3.mono hB2.size)
            exact ⟨⟨2, by omega, rfl, B3.trans (b4.mono B3.size)⟩, by simp [intOf]⟩
          · have B3 := B2.trans (hB2.mono B2.size)
            clear d0 d1 hlt
            go_wp2_with fail
            refine (puts_any _ _ (by omega)).mono ?_
            rintro e w3 ⟨rfl, b3⟩
            unfold bs
            go_wp2_with fail
            refine (rputs_any _ _ (by omega)).mono ?_
            rintro e w4 ⟨rfl, b4⟩
            unfold bs
            go_wp2_with fail
            have B4 := B3.trans (b3.mono B3.size)
            have B5 := B4.trans (b4.mono B4.size)
            refine (sum_any _ _ (by omega) (HN.out.below B5 (Nat.le_refl _))).mono ?_
            rintro e w5 ⟨rfl, rfl⟩
            go_wp2_with fail
            refine (rsum_any _ _ (by omega)).mono ?_
            rintro e w5 ⟨rfl, rfl⟩
            go_wp2_with fail
            go_ret
            exact ⟨rfl, B5⟩
end Go.Proofs.YthfoglgmilbolaaDoor
