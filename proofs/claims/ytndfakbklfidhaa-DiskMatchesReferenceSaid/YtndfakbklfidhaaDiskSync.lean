/- Package disk: Sync, Write. -/
import Derived.Test.YtndfakbklfidhaaDiskNew
namespace Go.Proofs.Ytndfakbklfidhaa
open Go.RowKit Dsk
theorem sync_nil (w : World) : Calls Try.prog 23 #[.pointer none] w fun e w' => e = .returned (.int .i64 1) ∧ w = w' := by
  go_enter Try.func23, Try.ntmps23
  go_wp2_with (go_at_call 28; refine (check_nil _).mono ?_; rintro e w1 ⟨rfl, rfl⟩)
  go_ret
  exact ⟨rfl, rfl⟩
theorem sync_off (g : Nat) (F : List Nat) (D : Dk) (w : World) (h : DiskAt w g F D) (ho : D.off = true) : Calls Try.prog 23 #[.pointer (some ⟨g, 0, none⟩)] w fun e w' => e = .returned (.int .i64 331) ∧ w = w' := by
  obtain ⟨gd, gv, pv, rfl, h1, h2, hg, hs, hv, hp, hk⟩ := h
  have c0 := (cells5 hg).1
  rw [ho] at c0
  have H0 := Lib.hid c0
  clear hg hs hv hp hk h1 h2 c0 ho
  go_enter Try.func23, Try.ntmps23
  go_wp2_with (go_at_call 28; refine (check_off _ _ H0.out).mono ?_; rintro e w1 ⟨rfl, rfl⟩)
  go_ret
  exact ⟨rfl, rfl⟩
/-- a disk whose durable and visible bytes have been made one -/
theorem settled {w' : World} {g gd gv : Nat} {pv : Value} {D : Dk} {L : List UInt8} {b : Bool} {l : Int} (h1 : g ≠ gd ∧ g ≠ gv ∧ gd ≠ gv) (h2 : ∀ k, pv.ownBlock = some k → k ≠ g ∧ k ≠ gd ∧ k ≠ gv)
    (hs : RowB 5 w' gd L) (hv : RowB 5 w' gv L)
    (hg : w'.heap[g]? = some (.cells #[.bool b, .int .i64 l, .slice (some ⟨gd, 0, none⟩) D.sure.length D.sure.length, .slice (some ⟨gv, 0, none⟩) D.sure.length D.sure.length, cut0 pv] 65 (0, 0)))
    (ho : w'.ownsRow 0 69 2 (cut0 pv) 0 []) (hL : L.length = D.sure.length) (hk : Ok { off := b, left := l, sure := L, vis := L, pend := [] }) :
    DiskAt w' g (g :: gd :: gv :: pv.ownBlock.toList) { off := b, left := l, sure := L, vis := L, pend := [] } := by
  refine ⟨gd, gv, cut0 pv, by rw [cut0_own], h1, by rw [cut0_own]; exact h2, ?_, hs, hv, ho, hk⟩
  rw [hL]; exact hg
set_option maxRecDepth 100000 in
theorem sync_ok (g : Nat) (F : List Nat) (D : Dk) (w : World) (h : DiskAt w g F D) (ho : D.off = false) : Calls Try.prog 23 #[.pointer (some ⟨g, 0, none⟩)] w (TurnQ g F (sy D) (.int .i64 0) w) := by
  have HD := Lib.hid h
  obtain ⟨gd, gv, pv, rfl, h1, h2, hg, hs, hv, hp, hk⟩ := h
  have c0 := (cells5 hg).1
  rw [ho] at c0
  have H0 := Lib.hid c0
  have c2 := (cells5 hg).2.2.1
  have c3 := (cells5 hg).2.2.2.1
  have l2 := lt_size c2
  have HG := Lib.hid hg
  have HS := Lib.hid hs
  have HV := Lib.hid hv
  have HP := Lib.hid hp
  have HK := Lib.hid hk
  have H1 := Lib.hid h1
  have H2 := Lib.hid h2
  clear hg hs hv hp hk h1 h2 c0 ho
  go_enter Try.func23, Try.ntmps23
  go_wp2_with (go_at_call 28; refine (check_ok _ _ H0.out).mono ?_; rintro e w1 ⟨rfl, rfl⟩)
  have g_c2 := fun D os => cell_regrown c2 D os
  have g_c3 := fun D os => cell_regrown c3 D os
  refine wp_region_head 9 (by kernel_rfl) (by kernel_rfl) ?_
  simp only [List.take_succ_cons, List.take_zero, List.drop_succ_cons, List.drop_zero]
  repeat (go_big_quiet_step (fail))
  refine wpQuiet_nil ?_
  intro wq hq
  clear g_c2 g_c3 c2 c3
  have k0 := Kept.of_below hq
  go_wp2_with (go_at_call 37; refine (settle_any g gv gd D.sure.length D.vis D.sure _ _ _ _ pv D.pend.length _ wq (k0.heap HG.out (fun h => by cases h)) (HV.out.kept k0 (fun h => by cases h)) (HS.out.kept k0 (fun h => by cases h)) HK.out.len rfl (k0.own HP.out (fun _ _ h => by cases h)) H1.out.1 (fun k hk => ⟨(H2.out k hk).1, (H2.out k hk).2.1⟩)).mono ?_; rintro e w2 ⟨rfl, r1, r2, r3, r4⟩)
  go_ret
  have rv := (HV.out.kept k0 (fun h => by cases h)).kept r4 (by
    simp only [List.mem_cons, not_or]
    exact ⟨fun e => H1.out.2.1 e.symm, fun e => H1.out.2.2 e.symm, fun h => (H2.out gv (own_mem h)).2.2 rfl⟩)
  refine ⟨_, rfl, settled H1.out H2.out r1 rv r2 r3 HK.out.len (ok_sy HK.out), ?_, New.refl _ _⟩
  refine (k0.mono (fun _ h => by cases h)).trans (r4.mono fun k h => ?_) (New.refl _ _)
  simp only [List.mem_cons] at h ⊢
  rcases h with h | h | h
  · exact .inl h
  · exact .inr (.inl h)
  · exact .inr (.inr (.inr h))
end Go.Proofs.Ytndfakbklfidhaa
