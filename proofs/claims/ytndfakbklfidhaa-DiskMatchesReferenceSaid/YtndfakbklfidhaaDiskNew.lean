/- Package disk: New, Cut, Sync, Write. -/
import Derived.Test.YtndfakbklfidhaaDiskAt
import Derived.RegionTactic
import Derived.Deep.RegionLaw
namespace Go.Proofs.Ytndfakbklfidhaa
open Go.RowKit Dsk
theorem u8_infos : (Try.prog.info? 5).map (fun i => (i.zero, i.size, i.bytes)) = some (some (.int .u8 0), 1, 1) := by kernel_rfl
/-- make([]byte, n) -/
theorem make_bytes (n : Nat) (hn : n ≤ 4194304) (w : World) : (Instr.makeSlice 40 (.int .i64 (n : Int)) (.int .i64 (n : Int))).run Try.prog w = .ok (.slice (some ⟨w.heap.size, 0, none⟩) n n) (w.alloc (.cells (bcs (List.replicate n 0)).toArray 5)) := by
  obtain ⟨i, hi, hz, hs, hb⟩ := info_parts u8_infos
  have h := run_makeSlice (P := Try.prog) w 40 5 i (.int .u8 0) Try.underlying40 hi hz .i64 .i64 (n : Int) (n : Int) (by omega) (Int.le_refl _) (by rw [hs]; simp; omega) (by rw [hb]; omega) (by omega)
  rw [h, hs, Nat.mul_one]
  have e : madeCells (Value.int IntKind.u8 0).cells n = (bcs (List.replicate n 0)).toArray := by
    apply Array.toList_inj.1
    rw [show (Value.int IntKind.u8 0).cells = #[Value.int IntKind.u8 0] from rfl, toList_madeCells_one]
    simp [bcs]
  simp only [Int.toNat_natCast, e]
def NewQ (n : Nat) (w : World) (e : Ending) (w' : World) : Prop := ∃ (g : Nat) (F : List Nat), e = .returned (.tuple #[.pointer (some ⟨g, 0, none⟩), .int .i64 0]) ∧ DiskAt w' g F (nw n) ∧ (∀ x ∈ F, w.heap.size ≤ x) ∧ Below w.heap.size w w'
theorem new_no (n : Int) (w : World) (h : n < 1 ∨ 4194304 < n) : Calls Try.prog 13 #[.int .i64 n] w fun e w' => e = .returned (.tuple #[.pointer none, .int .i64 2]) ∧ w = w' := by
  rcases h with h | h
  · go_enter Try.func13, Try.ntmps13
    go_wp2_with fail
    go_ret2
    exact ⟨rfl, rfl⟩
  · have h' : ¬ n < 1 := by omega
    go_enter Try.func13, Try.ntmps13
    go_wp2_with fail
    go_ret2
    exact ⟨rfl, rfl⟩
theorem new_mk {n : Nat} {w W : World} {gd gv : Nat} (hn : n ≤ 4194304) (hd : gd = w.heap.size ∧ gv = w.heap.size + 1 ∨ gv = w.heap.size ∧ gd = w.heap.size + 1)
    (hW : W = ((w.alloc (.cells (bcs (List.replicate n 0)).toArray 5)).alloc (.cells (bcs (List.replicate n 0)).toArray 5)).alloc (.cells #[.bool false, .int .i64 0, .slice (some ⟨gd, 0, none⟩) n n, .slice (some ⟨gv, 0, none⟩) n n, .slice none 0 0] 65)) :
    DiskAt W (w.heap.size + 2) [w.heap.size + 2, gd, gv] (nw n) ∧ (∀ x ∈ [w.heap.size + 2, gd, gv], w.heap.size ≤ x) ∧ Below w.heap.size w W := by
  have a0 : ((w.alloc (.cells (bcs (List.replicate n 0)).toArray 5)).alloc (.cells (bcs (List.replicate n 0)).toArray 5)).heap.size = w.heap.size + 2 := by simp
  have h0 : W.heap[w.heap.size]? = some (.cells (bcs (List.replicate n 0)).toArray 5) := by
    rw [hW, Below.heap_alloc _ _ _ (by rw [a0]; omega)]; exact heap_alloc2_old _ _ _
  have h1 : W.heap[w.heap.size + 1]? = some (.cells (bcs (List.replicate n 0)).toArray 5) := by
    rw [hW, Below.heap_alloc _ _ _ (by rw [a0]; omega)]; exact heap_alloc2_new _ _ _
  have h2 : W.heap[w.heap.size + 2]? = some (.cells #[.bool false, .int .i64 0, .slice (some ⟨gd, 0, none⟩) n n, .slice (some ⟨gv, 0, none⟩) n n, .slice none 0 0] 65) := by
    rw [hW, ← a0]; exact heap_alloc_new _ _
  refine ⟨⟨gd, gv, .slice none 0 0, rfl, by omega, fun k hk => (by cases hk), ?_, ?_, ?_, World.ownsRow_nil _ _ _ _, ok_nw hn⟩, ?_, ?_⟩
  · simpa [nw] using h2
  · rcases hd with ⟨rfl, rfl⟩ | ⟨rfl, rfl⟩
    · exact h0
    · exact h1
  · rcases hd with ⟨rfl, rfl⟩ | ⟨rfl, rfl⟩
    · exact h1
    · exact h0
  · intro x hx
    simp only [List.mem_cons, List.not_mem_nil, or_false] at hx
    omega
  · rw [hW]; exact below_alloc (below_alloc (below_alloc (Below.refl _ _) _) _) _
set_option maxRecDepth 100000 in
theorem new_any (n : Nat) (w : World) (h1 : 1 ≤ n) (h2 : n ≤ 4194304) : Calls Try.prog 13 #[.int .i64 (n : Int)] w (NewQ n w) := by
  have hmk := make_bytes n h2
  have i1 : ¬ (n : Int) < 1 := by omega
  have i2 : ¬ (4194304 : Int) < (n : Int) := by omega
  go_enter Try.func13, Try.ntmps13
  go_wp2_with fail
  go_region
  all_goals
    go_wp2_with fail
    go_ret2
    first
      | (obtain ⟨q1, q2, q3⟩ := new_mk (w := w) h2 (.inl ⟨rfl, rfl⟩) rfl
         exact ⟨_, _, rfl, q1.kept (Kept.refl [] _).drew (fun _ _ h => by cases h), q2, q3.drew⟩)
      | (obtain ⟨q1, q2, q3⟩ := new_mk (w := w) h2 (.inr ⟨rfl, rfl⟩) rfl
         exact ⟨_, _, rfl, q1.kept (Kept.refl [] _).drew (fun _ _ h => by cases h), q2, q3.drew⟩)
theorem cut_off (n : Int) (g : Nat) (F : List Nat) (D : Dk) (w : World) (h : DiskAt w g F D) (ho : D.off = true) : Calls Try.prog 24 #[.pointer (some ⟨g, 0, none⟩), .int .i64 n] w fun e w' => e = .returned (.int .i64 331) ∧ w = w' := by
  obtain ⟨gd, gv, pv, rfl, h1, h2, hg, hs, hv, hp, hk⟩ := h
  have c0 := (cells5 hg).1
  rw [ho] at c0
  have H0 := Lib.hid c0
  clear hg hs hv hp hk h1 h2 c0 ho
  go_enter Try.func24, Try.ntmps24
  go_wp2_with (go_at_call 28; refine (check_off _ _ H0.out).mono ?_; rintro e w1 ⟨rfl, rfl⟩)
  go_ret
  exact ⟨rfl, rfl⟩
theorem cut_nil (n : Int) (w : World) : Calls Try.prog 24 #[.pointer none, .int .i64 n] w fun e w' => e = .returned (.int .i64 1) ∧ w = w' := by
  go_enter Try.func24, Try.ntmps24
  go_wp2_with (go_at_call 28; refine (check_nil _).mono ?_; rintro e w1 ⟨rfl, rfl⟩)
  go_ret
  exact ⟨rfl, rfl⟩
theorem cut_neg (n : Int) (g : Nat) (F : List Nat) (D : Dk) (w : World) (h : DiskAt w g F D) (ho : D.off = false) (hn : n < 0) : Calls Try.prog 24 #[.pointer (some ⟨g, 0, none⟩), .int .i64 n] w fun e w' => e = .returned (.int .i64 2) ∧ w = w' := by
  obtain ⟨gd, gv, pv, rfl, h1, h2, hg, hs, hv, hp, hk⟩ := h
  have c0 := (cells5 hg).1
  rw [ho] at c0
  have H0 := Lib.hid c0
  clear hg hs hv hp hk h1 h2 c0 ho
  go_enter Try.func24, Try.ntmps24
  go_wp2_with (go_at_call 28; refine (check_ok _ _ H0.out).mono ?_; rintro e w1 ⟨rfl, rfl⟩)
  go_ret
  exact ⟨rfl, rfl⟩
/-- what a call leaves that turns a disk -/
def TurnQ (g : Nat) (F : List Nat) (D' : Dk) (v : Value) (w : World) (e : Ending) (w' : World) : Prop := ∃ F' : List Nat, e = .returned v ∧ DiskAt w' g F' D' ∧ Kept F w w' ∧ New w F F'
theorem cut_yes (n : Int) (g : Nat) (F : List Nat) (D : Dk) (w : World) (h : DiskAt w g F D) (ho : D.off = false) (h0 : 0 ≤ n) (hm : n ≤ 9223372036854775807) : Calls Try.prog 24 #[.pointer (some ⟨g, 0, none⟩), .int .i64 n] w (TurnQ g F (cu D n) (.int .i64 0) w) := by
  have HD := Lib.hid h
  obtain ⟨gd, gv, pv, rfl, h1, h2, hg, hs, hv, hp, hk⟩ := h
  have c0 := (cells5 hg).1
  rw [ho] at c0
  have H0 := Lib.hid c0
  have f0 := frozen_of_row w g 0 _ _ hg
  have f1 := frozen_of_row w g 1 _ _ hg
  have c0 := (cells5 hg).1
  have c1 := (cells5 hg).2.1
  have h00 : ¬ n < 0 := by omega
  clear hg hs hv hp hk h1 h2 c0 ho
  go_enter Try.func24, Try.ntmps24
  go_wp2_with (go_at_call 28; refine (check_ok _ _ H0.out).mono ?_; rintro e w1 ⟨rfl, rfl⟩)
  go_ret
  obtain ⟨gd', gv', pv', e', h1, h2, hg, hs, hv, hp, hk⟩ := HD.out
  obtain ⟨rfl, rfl, e3⟩ : gd = gd' ∧ gv = gv' ∧ pv.ownBlock.toList = pv'.ownBlock.toList := by simpa using e'
  have KP : Kept [g] w ((w.setCell ⟨g, 0, none⟩ (.bool (n == 0))).setCell ⟨g, 1, none⟩ (.int .i64 n)) := ((Kept.refl _ _).setCell (.inl (by simp)) _).setCell (.inl (by simp)) _
  have q0 := heap_setCell_same w g 0 _ _ (.bool (n == 0)) hg
  have q1 := heap_setCell_same _ g 1 _ _ (.int .i64 n) q0
  refine ⟨_, rfl, ⟨gd, gv, pv', by rw [e3], h1, h2, by simpa [cu] using q1, hs.kept KP (by simpa using fun e => h1.1 e.symm), hv.kept KP (by simpa using fun e => h1.2.1 e.symm), KP.own hp (fun k hk => by simpa using (h2 k hk).1), ok_cu hk h0 hm⟩, KP.mono (by simp), New.refl _ _⟩
end Go.Proofs.Ytndfakbklfidhaa
