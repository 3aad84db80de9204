/- Package disk: Write. -/
import Derived.Test.YtndfakbklfidhaaDiskSync
import Derived.Test.YtndfakbklfidhaaArr
namespace Go.Proofs.Ytndfakbklfidhaa
open Go.RowKit Dsk
theorem write_nil (o : Int) (s : ByteArray) (w : World) : Calls Try.prog 21 #[.pointer none, .int .i64 o, .string s] w fun e w' => e = .returned (.int .i64 1) ∧ w = w' := by
  go_enter Try.func21, Try.ntmps21
  go_wp2_with (go_at_call 28; refine (check_nil _).mono ?_; rintro e w1 ⟨rfl, rfl⟩)
  go_ret
  exact ⟨rfl, rfl⟩
theorem write_off (o : Int) (s : ByteArray) (g : Nat) (F : List Nat) (D : Dk) (w : World) (h : DiskAt w g F D) (ho : D.off = true) : Calls Try.prog 21 #[.pointer (some ⟨g, 0, none⟩), .int .i64 o, .string s] w fun e w' => e = .returned (.int .i64 331) ∧ w = w' := by
  obtain ⟨gd, gv, pv, rfl, h1, h2, hg, hs, hv, hp, hk⟩ := h
  have c0 := (cells5 hg).1
  rw [ho] at c0
  have H0 := Lib.hid c0
  clear hg hs hv hp hk h1 h2 c0 ho
  go_enter Try.func21, Try.ntmps21
  go_wp2_with (go_at_call 28; refine (check_off _ _ H0.out).mono ?_; rintro e w1 ⟨rfl, rfl⟩)
  go_ret
  exact ⟨rfl, rfl⟩
theorem write_out (o : Int) (s : ByteArray) (g : Nat) (F : List Nat) (D : Dk) (w : World) (h : DiskAt w g F D) (ho : D.off = false) (hi : inB D.sure.length o (s.size : Int) = false) : Calls Try.prog 21 #[.pointer (some ⟨g, 0, none⟩), .int .i64 o, .string s] w fun e w' => e = .returned (.int .i64 330) ∧ w = w' := by
  obtain ⟨gd, gv, pv, rfl, h1, h2, hg, hs, hv, hp, hk⟩ := h
  have c0 := (cells5 hg).1
  rw [ho] at c0
  have H0 := Lib.hid c0
  have H2 := Lib.hid (cells5 hg).2.2.1
  have Hi := Lib.hid hi
  have hm := hk.max
  clear hg hs hv hp hk h1 h2 c0 ho hi
  go_enter Try.func21, Try.ntmps21
  go_wp2_with (first | (go_at_call 28; refine (check_ok _ _ H0.out).mono ?_; rintro e w1 ⟨rfl, rfl⟩) | (go_at_call 29; refine (inside_any _ _ _ _ _ _ _ H2.out (by omega)).mono ?_; rintro e w1 ⟨rfl, rfl⟩; rw [Hi.out]))
  go_ret
  exact ⟨rfl, rfl⟩
theorem write_info : (Try.prog.info? 69).map (fun i => (i.zero, i.size, i.bytes)) = some (some (.agg #[.int .i64 0, .string ByteArray.empty]), 2, 24) := by kernel_rfl
theorem new_write {W : World} {a b : Value} {t : TypeId} : ∀ j u, [a, b][j]? = some u → (W.alloc (.cells #[a, b] t)).cell? ((⟨W.heap.size, 0, none⟩ : Addr).add j) = some u := fun j u h => by
  have hadd : (⟨W.heap.size, 0, none⟩ : Addr).add j = ⟨W.heap.size, j, none⟩ := by unfold Addr.add; split <;> simp_all
  rw [hadd]
  exact new_cell (by simpa using h)
set_option maxRecDepth 100000 in
set_option maxHeartbeats 1000000 in
theorem write_in (o : Nat) (s : ByteArray) (g : Nat) (F : List Nat) (D : Dk) (w : World) (h : DiskAt w g F D) (ho : D.off = false) (hi : o + s.size ≤ D.sure.length) (hpl : D.pend.length ≤ 1000000) :
    Calls Try.prog 21 #[.pointer (some ⟨g, 0, none⟩), .int .i64 (o : Int), .string s] w (TurnQ g F (wr D o s) (.int .i64 0) w) := by
  have Hi := Lib.hid (inB_iff.2 ⟨by omega, by omega, by omega, by omega⟩ : inB D.sure.length (o : Int) (s.size : Int) = true)
  obtain ⟨gd, gv, pv, rfl, h1, h2, hg, hs, hv, hp, hk⟩ := h
  have c0 := (cells5 hg).1
  rw [ho] at c0
  have H0 := Lib.hid c0
  have H2' := Lib.hid (cells5 hg).2.2.1
  have hm := hk.max
  have c4 := (cells5 hg).2.2.2.2
  have f4 := frozen_of_row w g 4 _ _ hg
  have lg := hlt hg
  have lv := hlt hv
  have HG := Lib.hid hg
  have HS := Lib.hid hs
  have HV := Lib.hid hv
  have HP := Lib.hid hp
  have HK := Lib.hid hk
  have H1 := Lib.hid h1
  have H2 := Lib.hid h2
  have hpb := hp.lt
  have Hpb := Lib.hid (fun k (hk : pv.ownBlock = some k) => (hpb k hk).2)
  have Hpg := Lib.hid (show some g ≠ pv.ownBlock from fun e => (h2 g e.symm).1 rfl)
  obtain ⟨i0, hi0, hz0, hz1, hz2⟩ := info_parts write_info
  clear hg hs hv hp hk h1 h2 c0 ho hpb
  go_enter Try.func21, Try.ntmps21
  go_wp2_with (first | (go_at_call 28; refine (check_ok _ _ H0.out).mono ?_; rintro e w1 ⟨rfl, rfl⟩) | (go_at_call 29; refine (inside_any _ _ _ _ _ _ _ H2'.out (by omega)).mono ?_; rintro e w1 ⟨rfl, rfl⟩; rw [Hi.out]))
  obtain ⟨W, hW⟩ : ∃ W, w.alloc (.cells #[.int .i64 (o : Int), .string s] 69) = W := ⟨_, rfl⟩
  have x0 : W.cell? ⟨w.heap.size, 0, none⟩ = some (.int .i64 (o : Int)) := by rw [← hW]; exact new_cell rfl
  have x1 : W.cell? ⟨w.heap.size, 1, none⟩ = some (.string s) := by rw [← hW]; exact new_cell rfl
  have K0 : Kept [] w W := by rw [← hW]; exact (Kept.refl _ _).alloc _
  have y4 : W.cell? ⟨g, 4, none⟩ = some pv := K0.cell c4 (fun h => by cases h)
  have yf : W.frozen? ⟨g, 4, none⟩ = false := (World.frozen?_of_block (K0.block g lg (fun h => by cases h))).trans f4
  have lgW := lt_size y4
  have HPW := Lib.hid (K0.own HP.out (fun _ _ h => by cases h))
  have ls : w.heap.size < W.heap.size := by rw [← hW]; simp
  rw [hW]
  clear hW c4 f4
  go_region_law ((refine step_append_lies _ (by rfl) _ _ _ (by rfl) 0 69 i0 _ 2 24 Try.underlying63 hi0 hz0 hz1 hz2 rfl (by omega) pv D.pend.length _ (by rfl) ((HPW.out.alloc _).drew) ⟨W.heap.size, 0, none⟩ 1 1 [.int .i64 (o : Int), .string s] (by rfl) rfl (fun j u h => by rw [World.cell?_drew]; exact new_write j u h) (by simp [Value.oneCell']) (by omega) (by unfold maxLen; omega) (by omega) (by omega) (W.heap.size + 1) (by simp) ?_; intro g' cp' wy hown' hgrow hat hlt'; have x2 := (hgrow.cell_far ⟨g, 4, none⟩ (by simp; omega) Hpg.out).trans (keep_alloc _ y4); have x3 := (hgrow.frozen_far ⟨g, 4, none⟩ (by simp; omega) Hpg.out).trans (var_then (below_alloc (Below.refl _ _) _) ⟨y4, yf⟩).2))
  all_goals
    have hgg : g' ≠ g := by
      rcases hat with hat | hat
      · exact (H2.out _ hat).1
      · omega
    have KW : Kept pv.ownBlock.toList w wy := (((K0.mono (fun _ h => by cases h)).alloc _).drew).grown hgrow (fun k hk => .inl (mem_own hk))
    have hNF : New w pv.ownBlock.toList [g'] := fun k hk => by
      obtain rfl : k = g' := by simpa using hk
      rcases hat with hat | hat
      · exact .inl (mem_own hat)
      · exact .inr (by omega)
    have hg4 : g' ≠ gd ∧ g' ≠ gv := by
      rcases hat with hat | hat
      · exact (H2.out _ hat).2
      · have := hlt HS.out; omega
    have hgn : g ∉ pv.ownBlock.toList := fun h => Hpg.out (own_mem h).symm
    have hvn : gv ∉ pv.ownBlock.toList := fun h => (H2.out _ (own_mem h)).2.2 rfl
    have hdn : gd ∉ pv.ownBlock.toList := fun h => (H2.out _ (own_mem h)).2.1 rfl
    have hbx : some w.heap.size ≠ pv.ownBlock := fun e => by have := Hpb.out _ e.symm; omega
    have G4 := KW.heap HG.out hgn
    have G5 := heap_setCell_same wy g 4 _ _ (.slice (some ⟨g', 0, none⟩) (D.pend.length + 1) cp') G4
    have K5 : Kept (g :: pv.ownBlock.toList) w (wy.setCell ⟨g, 4, none⟩ (.slice (some ⟨g', 0, none⟩) (D.pend.length + 1) cp')) := (KW.mono (fun k h => List.mem_cons_of_mem _ h)).setCell (.inl (by simp)) _
    have O5 := ((Kept.refl [g] wy).setCell (p := ⟨g, 4, none⟩) (.inl (by simp)) (.slice (some ⟨g', 0, none⟩) (D.pend.length + 1) cp')).own hown' (fun k hk => by
      obtain rfl : g' = k := by simpa [Value.ownBlock] using hk
      simpa using hgg)
    have X0 := cell_set (p := ⟨g, 4, none⟩) (.slice (some ⟨g', 0, none⟩) (D.pend.length + 1) cp') (cell_grown' (drew_cell (keep_alloc _ x0)) hgrow hbx) (by dsimp only; omega)
    have X1 := cell_set (p := ⟨g, 4, none⟩) (.slice (some ⟨g', 0, none⟩) (D.pend.length + 1) cp') (cell_grown' (drew_cell (keep_alloc _ x1)) hgrow hbx) (by dsimp only; omega)
    obtain ⟨V, hV⟩ : ∃ V, wy.setCell ⟨g, 4, none⟩ (.slice (some ⟨g', 0, none⟩) (D.pend.length + 1) cp') = V := ⟨_, rfl⟩
    rw [hV] at G5 K5 O5 X0 X1 ⊢
    clear hV x0 x1 y4 yf x2 x3 hgrow
    simp at G5
    have C3 := (cells5 G5).2.2.2.1
    have HG5 := Lib.hid G5
    have HV5 := Lib.hid (HV.out.kept K5 (by simp only [List.mem_cons, not_or]; exact ⟨fun e => H1.out.2.1 e.symm, hvn⟩))
    have HS5 := Lib.hid (HS.out.kept K5 (by simp only [List.mem_cons, not_or]; exact ⟨fun e => H1.out.1 e.symm, hdn⟩))
    have HO5 := Lib.hid O5
    have lV := hlt G5
    have lX := lt_size X0
    have g_X0 := fun D os => cell_regrown X0 D os
    have g_X1 := fun D os => cell_regrown X1 D os
    have g_C3 := fun D os => cell_regrown C3 D os
    clear G5 O5
    go_wp2_with fail
    refine wp_region_head 5 (by kernel_rfl) (by kernel_rfl) ?_
    simp only [List.take_succ_cons, List.take_zero, List.drop_succ_cons, List.drop_zero]
    repeat (go_big_quiet_step (fail))
    refine wpQuiet_nil ?_
    intro wq hq
    clear g_X0 g_X1 g_C3 X0 X1 C3
    have k6 := Kept.of_below hq
    go_wp2_with (first | (go_at_call 35; refine (onto_any o s gv D.sure.length D.vis wq (HV5.out.kept k6 (fun h => by cases h)) HK.out.len hi hm).mono ?_; rintro e w3 ⟨rfl, r1, k7⟩; have R1 := Lib.hid r1; have HG7 := Lib.hid (k7.heap (k6.heap HG5.out (fun h => by cases h)) (by simpa using H1.out.2.1)); clear r1) | (go_at_call 36; refine (used_any g D.off D.left _ _ _ _ _ HG7.out HK.out.pos HK.out.left).mono ?_; rintro e w4 ⟨rfl, q1, k8⟩; have Q1 := Lib.hid q1; clear q1))
    go_ret
    have hgd := H1.out.1
    have hgv := H1.out.2.1
    have hdv := H1.out.2.2
    have K8 : Kept (g :: gv :: pv.ownBlock.toList) w w4 :=
      (((K5.mono (fun k h => by simp only [List.mem_cons] at h ⊢; rcases h with h | h; exact .inl h; exact .inr (.inr h))).trans (k6.mono (fun _ h => by cases h)) (New.refl _ _)).trans (k7.mono (fun k h => by simp at h; simp [h])) (New.refl _ _)).trans (k8.mono (fun k h => by simp at h; simp [h])) (New.refl _ _)
    refine ⟨g :: gd :: gv :: [g'], rfl, ⟨gd, gv, .slice (some ⟨g', 0, none⟩) (D.pend.length + 1) cp', rfl, H1.out, fun k hk => ?_, Q1.out, ?_, ?_, ?_, ok_wr HK.out hi⟩, K8.mono (fun k h => ?_), fun k hk => ?_⟩
    · obtain rfl : g' = k := by simpa [Value.ownBlock] using hk
      exact ⟨hgg, hg4⟩
    · exact ((HS5.out.kept k6 (fun h => by cases h)).kept k7 (by simpa using hdv)).kept k8 (by simpa using fun e => hgd e.symm)
    · exact RowB.kept R1.out k8 (by simpa using fun e => hgv e.symm)
    · have := k8.own (k7.own (k6.own HO5.out (fun _ _ h => by cases h)) (fun k hk => by
        obtain rfl : g' = k := by simpa [Value.ownBlock] using hk
        simpa using hg4.2)) (fun k hk => by
        obtain rfl : g' = k := by simpa [Value.ownBlock] using hk
        simpa using hgg)
      have e1 : (wr D o s).pend.length = D.pend.length + 1 := by simp [wr]
      have e2 : pcs (wr D o s).pend = pcs D.pend ++ [.int .i64 (o : Int), .string s] := by
        show pcs (D.pend ++ [(o, s)]) = _
        rw [pcs_append]; rfl
      rw [e1, e2]
      exact this
    · simp only [List.mem_cons] at h ⊢
      rcases h with h | h | h
      · exact .inl h
      · exact .inr (.inr (.inl h))
      · exact .inr (.inr (.inr h))
    · simp only [List.mem_cons, List.not_mem_nil, or_false] at hk
      rcases hk with rfl | rfl | rfl | rfl
      · exact .inl (by simp)
      · exact .inl (by simp)
      · exact .inl (by simp)
      · rcases hNF k (by simp) with h | h
        · exact .inl (List.mem_cons_of_mem _ (List.mem_cons_of_mem _ (List.mem_cons_of_mem _ h)))
        · exact .inr h
end Go.Proofs.Ytndfakbklfidhaa
