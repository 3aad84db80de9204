/- Package disk: onto, settle, New. -/
import Derived.Test.YtndfakbklfidhaaDiskBase
namespace Go.Proofs.Ytndfakbklfidhaa
open Go.RowKit Dsk
theorem u8_info : (Try.prog.info? 5).map (·.size) = some 1 := by kernel_rfl
set_option maxRecDepth 100000 in
theorem onto_any (o : Nat) (s : ByteArray) (gv n : Nat) (L : List UInt8) (w : World) (h : RowB 5 w gv L) (hl : L.length = n) (hf : o + s.size ≤ n) (hm : n ≤ 4194304) :
    Calls Try.prog 35 #[.agg #[.int .i64 (o : Int), .string s], .slice (some ⟨gv, 0, none⟩) n n] w fun e w' => e = .returned (.tuple #[]) ∧ RowB 5 w' gv (splice L o (bts s)) ∧ Kept [gv] w w' := by
  have H := Lib.hid h
  have Hl := Lib.hid hl
  clear h hl
  have ho1 : (0 : Int) ≤ (o : Int) := by omega
  have ho2 : (o : Int) ≤ (n : Int) := by omega
  by_cases hon : o < n
  all_goals
    go_enter Try.func35, Try.ntmps35
    go_wp2_with fail
    obtain ⟨W, hW⟩ : ∃ W, w.alloc (.cells #[.int .i64 (o : Int), .string s] 69) = W := ⟨_, rfl⟩
    have x0 : W.cell? ⟨w.heap.size, 0, none⟩ = some (.int .i64 (o : Int)) := by rw [← hW]; exact new_cell rfl
    have x1 : W.cell? ⟨w.heap.size, 1, none⟩ = some (.string s) := by rw [← hW]; exact new_cell rfl
    have K0 : Kept [] w W := by rw [← hW]; exact (Kept.refl _ _).alloc _
    rw [hW]
    have HW := Lib.hid hW
    clear hW
    have g_x0 := fun D os => cell_regrown x0 D os
    have g_x1 := fun D os => cell_regrown x1 D os
    refine wp_region_head 6 (by kernel_rfl) (by kernel_rfl) ?_
    simp only [List.take_succ_cons, List.take_zero, List.drop_succ_cons, List.drop_zero]
    repeat (go_big_quiet_step (fail))
    refine wpQuiet_nil ?_
    intro wq hq
    clear g_x0 g_x1
    replace K0 := K0.and_below hq
    have Hg := Lib.hid (H.out.kept K0 (by simp))
    go_wp2_with (refine wpList_copy_str rfl (.tmp 7) (.tmp 9) _ _ rfl 5 Try.underlying40 u8_info _ _ _ s rfl rfl gv o (bcs L) 5 Hg.out (fun hp => by first | rfl | omega) (by omega) (by rw [bcs_length, Hl.out]; omega) ?_; intro w3 h3 k3)
    go_end0
    exact ⟨rfl, by have h4 := h3.out; rw [← bts, bcs_splice] at h4; exact h4, (K0.mono (fun _ h => by cases h)).trans k3 (New.refl _ _)⟩
theorem write_zero : ∀ w, (zeroValue 69).run Try.prog w = .ok (.agg #[.int .i64 0, .string ByteArray.empty]) w := fun w => by kernel_rfl
theorem cut0_own (v : Value) : (cut0 v).ownBlock = v.ownBlock := by
  cases v <;> try rfl
  rename_i a n c
  cases a <;> rfl
set_option maxRecDepth 100000 in
theorem settle_any (g gf gt n : Nat) (Lf Lt : List UInt8) (c0 c1 c2 c3 pv : Value) (m : Nat) (xs : List Value) (w : World) (hg : w.heap[g]? = some (.cells #[c0, c1, c2, c3, pv] 65 (0, 0)))
    (hf : RowB 5 w gf Lf) (ht : RowB 5 w gt Lt) (hlf : Lf.length = n) (hlt : Lt.length = n) (hown : w.ownsRow 0 69 2 pv m xs) (hgt : g ≠ gt) (hp : ∀ k, pv.ownBlock = some k → k ≠ g ∧ k ≠ gt) :
    Calls Try.prog 37 #[.pointer (some ⟨g, 0, none⟩), .slice (some ⟨gf, 0, none⟩) n n, .slice (some ⟨gt, 0, none⟩) n n] w fun e w' => e = .returned (.tuple #[]) ∧ RowB 5 w' gt Lf ∧
      w'.heap[g]? = some (.cells #[c0, c1, c2, c3, cut0 pv] 65 (0, 0)) ∧ w'.ownsRow 0 69 2 (cut0 pv) 0 [] ∧ Kept (g :: gt :: pv.ownBlock.toList) w w' := by
  have HF := Lib.hid hf
  have HT := Lib.hid ht
  have HG := Lib.hid hg
  have HO := Lib.hid hown
  have hlf' := Lib.hid hlf
  have hlt' := Lib.hid hlt
  have HP := Lib.hid hp
  have hform : pv = .slice none 0 0 ∨ ∃ gp cap, pv = .slice (some ⟨gp, 0, none⟩) m cap := by
    rcases hown.2 with ⟨h, _⟩ | ⟨gp, cap, _, h, _⟩
    · exact .inl h
    · exact .inr ⟨gp, cap, h⟩
  clear hf ht hg hown hlf hlt hp
  rcases hform with rfl | ⟨gp, cap, rfl⟩
  all_goals
    go_enter Try.func37, Try.ntmps37
    go_wp2_with (first | (refine wpList_copy_all rfl (.tmp 6) (.tmp 7) _ _ rfl 5 Try.underlying40 u8_info gt gf n n n rfl rfl (bcs Lt) (bcs Lf) 5 5 HT.out HF.out (by rw [bcs_length, hlt'.out]) (by rw [bcs_length, hlf'.out]) (bcs_one _) ?_; intro w1 h1 k1; have z4 := (cells5 (k1.heap HG.out (by simpa using hgt))).2.2.2.2; have HO1 := Lib.hid (k1.own HO.out (fun k hk => by simpa using (HP.out k hk).2))) |
      (refine wpList_clear_own rfl (.tmp 12) _ rfl 69 (.agg #[.int .i64 0, .string ByteArray.empty]) 2 Try.underlying63 write_zero rfl (by omega) (by simp [Value.cells, Value.oneCell']) _ rfl HO1.out ?_; intro w2 k2 o2; have HG2 := Lib.hid (k2.heap (k1.heap HG.out (by simpa using hgt)) (fun h => (HP.out g (own_mem h)).1 rfl)); have y4 := (cells5 HG2.out).2.2.2.2; have f4 := frozen_of_row w2 g 4 _ _ HG2.out; have O2 := Lib.hid o2; clear o2))
    go_end0
    refine ⟨rfl, ?_, ?_, ?_, ?_⟩
    · exact (heap_setCell_other _ _ _ _ (fun e => hgt e.symm)).trans (k2.heap h1.out (fun h => (HP.out gt (own_mem h)).2 rfl))
    · exact heap_setCell_same _ g 4 _ _ _ HG2.out
    · exact ((Kept.refl [g] w2).setCell (p := ⟨g, 4, none⟩) (.inl (by simp)) _).own O2.out (fun k hk h => (HP.out k (by rw [cut0_own] at hk; exact hk)).1 (by simpa using h))
    · refine (((k1.mono fun k h => ?_).trans (k2.mono fun k h => ?_) (New.refl _ _)).setCell (.inl ?_) _)
      · simp only [List.mem_singleton] at h; simp [h]
      · exact List.mem_cons_of_mem _ (List.mem_cons_of_mem _ h)
      · exact List.mem_cons_self ..
end Go.Proofs.Ytndfakbklfidhaa
