/- The small functions of package disk: check, inside, used, onto; what a world holds of a disk. Package disk: onto, settle, New. Package disk: what a world holds of a disk; New, Size, Pending, Read, Cut. Package disk: New, Cut, Sync, Write. Package disk: Sync, Write. Package disk: Write. -/
import Derived.Test.YtnjkinljpekohaaGreatDoorProg
import Derived.Test.YtnjkinljpekohaaGreatDoorBe
import Derived.Test.YtnjkinljpekohaaGreatDoorBa
import Derived.WalkKit
import Derived.KernelRfl
import Derived.WalkSpells
import Derived.WalkLawsBesides
import Derived.Below
import Derived.Carry
import Derived.Lib.Hide
import Derived.BigRegion
import Derived.Deep.QuietTactic
import Derived.BigQuiet
import Derived.Deep.RegionHeld3
import Derived.Deep.DeepCutAuto
import Derived.Laws.BytesArg
import Derived.RegionTactic
import Derived.Deep.RegionLaw
namespace Go.Proofs.YtnjkinljpekohaaGreatDoor
open Go.RowKit Dsk
theorem check_nil (w : World) : Calls Tryz.prog 40 #[.pointer none] w fun e w' => e = .returned (.int .i64 1) ∧ w = w' := by
  go_enter Tryz.func40, Tryz.ntmps40
  go_wp2_with fail
  go_ret
  exact ⟨rfl, rfl⟩
theorem check_off (g : Nat) (w : World) (h : w.cell? ⟨g, 0, none⟩ = some (.bool true)) : Calls Tryz.prog 40 #[.pointer (some ⟨g, 0, none⟩)] w fun e w' => e = .returned (.int .i64 331) ∧ w = w' := by
  go_enter Tryz.func40, Tryz.ntmps40
  go_wp2_with fail
  go_ret
  exact ⟨rfl, rfl⟩
theorem check_ok (g : Nat) (w : World) (h : w.cell? ⟨g, 0, none⟩ = some (.bool false)) : Calls Tryz.prog 40 #[.pointer (some ⟨g, 0, none⟩)] w fun e w' => e = .returned (.int .i64 0) ∧ w = w' := by
  go_enter Tryz.func40, Tryz.ntmps40
  go_wp2_with fail
  go_ret
  exact ⟨rfl, rfl⟩
theorem inside_any (g : Nat) (A : Option Addr) (n c : Nat) (off k : Int) (w : World) (h : w.cell? ⟨g, 2, none⟩ = some (.slice A n c)) (hn : (n : Int) ≤ 4611686018427387904) :
    Calls Tryz.prog 61 #[.pointer (some ⟨g, 0, none⟩), .int .i64 off, .int .i64 k] w fun e w' => e = .returned (.bool (inB n off k)) ∧ w = w' := by
  by_cases h1 : 0 ≤ off
  · by_cases h2 : 0 ≤ k
    · by_cases h3 : off ≤ (n : Int)
      · by_cases h4 : k ≤ (n : Int) - off
        · rw [inB_iff.2 ⟨h1, h2, h3, h4⟩]
          go_enter Tryz.func61, Tryz.ntmps61
          go_wp2_with fail
          go_ret
          exact ⟨rfl, rfl⟩
        · rw [show inB n off k = false by simp [inB, h4]]
          go_enter Tryz.func61, Tryz.ntmps61
          go_wp2_with fail
          go_ret
          exact ⟨rfl, rfl⟩
      · rw [show inB n off k = false by simp [inB, h3]]
        go_enter Tryz.func61, Tryz.ntmps61
        go_wp2_with fail
        go_ret
        exact ⟨rfl, rfl⟩
    · rw [show inB n off k = false by simp [inB, h2]]
      go_enter Tryz.func61, Tryz.ntmps61
      go_wp2_with fail
      go_ret
      exact ⟨rfl, rfl⟩
  · rw [show inB n off k = false by simp [inB, h1]]
    go_enter Tryz.func61, Tryz.ntmps61
    go_wp2_with fail
    go_ret
    exact ⟨rfl, rfl⟩
/-- the power's two cells behind a write -/
theorem used_any (g : Nat) (b : Bool) (l : Int) (x2 x3 x4 : Value) (t : TypeId) (w : World) (h : w.heap[g]? = some (.cells #[.bool b, .int .i64 l, x2, x3, x4] t (0, 0))) (h0 : 0 ≤ l) (h1 : l ≤ 9223372036854775807) :
    Calls Tryz.prog 62 #[.pointer (some ⟨g, 0, none⟩)] w fun e w' => e = .returned (.tuple #[]) ∧
      w'.heap[g]? = some (.cells #[.bool (if l = 0 then b else l - 1 == 0), .int .i64 (if l = 0 then 0 else l - 1), x2, x3, x4] t (0, 0)) ∧ Kept [g] w w' := by
  have c0 := cell_of_row w g 0 _ t (0, 0) h
  have c1 := cell_of_row w g 1 _ t (0, 0) h
  have f0 := frozen_of_row w g 0 _ t h
  have f1 := frozen_of_row w g 1 _ t h
  simp only [List.getElem?_toArray, List.getElem?_cons_zero, List.getElem?_cons_succ] at c0 c1
  have H := Lib.hid h
  clear h
  by_cases hl : l = 0
  · subst hl
    go_enter Tryz.func62, Tryz.ntmps62
    go_wp2_with fail
    refine bodyPost_ret (results_none rfl _ _ _) rfl ?_
    exact ⟨rfl, by simpa using H.out, Kept.refl _ _⟩
  · have hl' : (l == 0) = false := by simpa using hl
    rw [if_neg hl, if_neg hl]
    clear hl
    go_enter Tryz.func62, Tryz.ntmps62
    go_wp2_with fail
    go_end0
    refine ⟨rfl, ?_, ((Kept.refl _ _).setCell (.inl (by simp)) _).setCell (.inl (by simp)) _⟩
    have h2 := heap_setCell_same w g 1 _ t (.int .i64 (l - 1)) H.out
    have h3 := heap_setCell_same _ g 0 _ t (.bool (l - 1 == 0)) h2
    simpa using h3
end Go.Proofs.YtnjkinljpekohaaGreatDoor
namespace Go.Proofs.YtnjkinljpekohaaGreatDoor
open Go.RowKit Dsk
theorem u8_info : (Tryz.prog.info? 5).map (·.size) = some 1 := by kernel_rfl
set_option maxRecDepth 100000 in
theorem onto_any (o : Nat) (s : ByteArray) (gv n : Nat) (L : List UInt8) (w : World) (h : RowB 5 w gv L) (hl : L.length = n) (hf : o + s.size ≤ n) (hm : n ≤ 4194304) :
    Calls Tryz.prog 46 #[.agg #[.int .i64 (o : Int), .string s], .slice (some ⟨gv, 0, none⟩) n n] w fun e w' => e = .returned (.tuple #[]) ∧ RowB 5 w' gv (splice L o (bts s)) ∧ Kept [gv] w w' := by
  have H := Lib.hid h
  have Hl := Lib.hid hl
  clear h hl
  have ho1 : (0 : Int) ≤ (o : Int) := by omega
  have ho2 : (o : Int) ≤ (n : Int) := by omega
  by_cases hon : o < n
  all_goals
    go_enter Tryz.func46, Tryz.ntmps46
    go_wp2_with fail
    obtain ⟨W, hW⟩ : ∃ W, w.alloc (.cells #[.int .i64 (o : Int), .string s] 92) = W := ⟨_, rfl⟩
    have x0 : W.cell? ⟨w.heap.size, 0, none⟩ = some (.int .i64 (o : Int)) := by rw [← hW]; exact new_cell rfl
    have x1 : W.cell? ⟨w.heap.size, 1, none⟩ = some (.string s) := by rw [← hW]; exact new_cell rfl
    have K0 : Kept [] w W := by rw [← hW]; exact (Kept.refl _ _).alloc _
    rw [hW]
    have HW := Lib.hid hW
    clear hW
    have g_x0 := fun D os => cell_regrown x0 D os
    have g_x1 := fun D os => cell_regrown x1 D os
    refine wp_region_head 6 (by kernel_rfl) (by kernel_rfl) ?_
    simp only [List.take_succ_cons, List.take_zero, List.drop_succ_cons, List.drop_zero]
    repeat (go_big_quiet_step (fail))
    refine wpQuiet_nil ?_
    intro wq hq
    clear g_x0 g_x1
    replace K0 := K0.and_below hq
    have Hg := Lib.hid (H.out.kept K0 (by simp))
    go_wp2_with (refine wpList_copy_str rfl (.tmp 7) (.tmp 9) _ _ rfl 5 Tryz.underlying53 u8_info _ _ _ s rfl rfl gv o (bcs L) 5 Hg.out (fun hp => by first | rfl | omega) (by omega) (by rw [bcs_length, Hl.out]; omega) ?_; intro w3 h3 k3)
    go_end0
    exact ⟨rfl, by have h4 := h3.out; rw [← bts, bcs_splice] at h4; exact h4, (K0.mono (fun _ h => by cases h)).trans k3 (New.refl _ _)⟩
theorem write_zero : ∀ w, (zeroValue 92).run Tryz.prog w = .ok (.agg #[.int .i64 0, .string ByteArray.empty]) w := fun w => by kernel_rfl
theorem cut0_own (v : Value) : (cut0 v).ownBlock = v.ownBlock := by
  cases v <;> try rfl
  rename_i a n c
  cases a <;> rfl
set_option maxRecDepth 100000 in
theorem settle_any (g gf gt n : Nat) (Lf Lt : List UInt8) (c0 c1 c2 c3 pv : Value) (m : Nat) (xs : List Value) (w : World) (hg : w.heap[g]? = some (.cells #[c0, c1, c2, c3, pv] 72 (0, 0)))
    (hf : RowB 5 w gf Lf) (ht : RowB 5 w gt Lt) (hlf : Lf.length = n) (hlt : Lt.length = n) (hown : w.ownsRow 0 92 2 pv m xs) (hgt : g ≠ gt) (hp : ∀ k, pv.ownBlock = some k → k ≠ g ∧ k ≠ gt) :
    Calls Tryz.prog 47 #[.pointer (some ⟨g, 0, none⟩), .slice (some ⟨gf, 0, none⟩) n n, .slice (some ⟨gt, 0, none⟩) n n] w fun e w' => e = .returned (.tuple #[]) ∧ RowB 5 w' gt Lf ∧
      w'.heap[g]? = some (.cells #[c0, c1, c2, c3, cut0 pv] 72 (0, 0)) ∧ w'.ownsRow 0 92 2 (cut0 pv) 0 [] ∧ Kept (g :: gt :: pv.ownBlock.toList) w w' := by
  have HF := Lib.hid hf
  have HT := Lib.hid ht
  have HG := Lib.hid hg
  have HO := Lib.hid hown
  have hlf' := Lib.hid hlf
  have hlt' := Lib.hid hlt
  have HP := Lib.hid hp
  have hform : pv = .slice none 0 0 ∨ ∃ gp cap, pv = .slice (some ⟨gp, 0, none⟩) m cap := by
    rcases hown.2 with ⟨h, _⟩ | ⟨gp, cap, _, h, _⟩
    · exact .inl h
    · exact .inr ⟨gp, cap, h⟩
  clear hf ht hg hown hlf hlt hp
  rcases hform with rfl | ⟨gp, cap, rfl⟩
  all_goals
    go_enter Tryz.func47, Tryz.ntmps47
    go_wp2_with (first | (refine wpList_copy_all rfl (.tmp 6) (.tmp 7) _ _ rfl 5 Tryz.underlying53 u8_info gt gf n n n rfl rfl (bcs Lt) (bcs Lf) 5 5 HT.out HF.out (by rw [bcs_length, hlt'.out]) (by rw [bcs_length, hlf'.out]) (bcs_one _) ?_; intro w1 h1 k1; have z4 := (cells5 (k1.heap HG.out (by simpa using hgt))).2.2.2.2; have HO1 := Lib.hid (k1.own HO.out (fun k hk => by simpa using (HP.out k hk).2))) |
      (refine wpList_clear_own rfl (.tmp 12) _ rfl 92 (.agg #[.int .i64 0, .string ByteArray.empty]) 2 Tryz.underlying70 write_zero rfl (by omega) (by simp [Value.cells, Value.oneCell']) _ rfl HO1.out ?_; intro w2 k2 o2; have HG2 := Lib.hid (k2.heap (k1.heap HG.out (by simpa using hgt)) (fun h => (HP.out g (own_mem h)).1 rfl)); have y4 := (cells5 HG2.out).2.2.2.2; have f4 := frozen_of_row w2 g 4 _ _ HG2.out; have O2 := Lib.hid o2; clear o2))
    go_end0
    refine ⟨rfl, ?_, ?_, ?_, ?_⟩
    · exact (heap_setCell_other _ _ _ _ (fun e => hgt e.symm)).trans (k2.heap h1.out (fun h => (HP.out gt (own_mem h)).2 rfl))
    · exact heap_setCell_same _ g 4 _ _ _ HG2.out
    · exact ((Kept.refl [g] w2).setCell (p := ⟨g, 4, none⟩) (.inl (by simp)) _).own O2.out (fun k hk h => (HP.out k (by rw [cut0_own] at hk; exact hk)).1 (by simpa using h))
    · refine (((k1.mono fun k h => ?_).trans (k2.mono fun k h => ?_) (New.refl _ _)).setCell (.inl ?_) _)
      · simp only [List.mem_singleton] at h; simp [h]
      · exact List.mem_cons_of_mem _ (List.mem_cons_of_mem _ h)
      · exact List.mem_cons_self ..
end Go.Proofs.YtnjkinljpekohaaGreatDoor
namespace Go.Proofs.YtnjkinljpekohaaGreatDoor
open Go.RowKit Dsk
/-- pending writes as values -/
def pcs (l : List (Nat × ByteArray)) : List Value := l.flatMap fun p => [.int .i64 (p.1 : Int), .string p.2]
theorem pcs_append (a b : List (Nat × ByteArray)) : pcs (a ++ b) = pcs a ++ pcs b := List.flatMap_append
theorem pcs_length : ∀ l : List (Nat × ByteArray), (pcs l).length = l.length * 2
  | [] => rfl
  | p :: r => by rw [show p :: r = [p] ++ r from rfl, pcs_append, List.length_append, pcs_length r]; simp [pcs]; omega
theorem pcs_get : ∀ {l : List (Nat × ByteArray)} {i : Nat}, i < l.length → (pcs l)[i * 2]? = some (.int .i64 ((l.getD i (0, ByteArray.empty)).1 : Int)) ∧ (pcs l)[i * 2 + 1]? = some (.string (l.getD i (0, ByteArray.empty)).2)
  | [], i, h => absurd h (by simp)
  | p :: r, 0, _ => ⟨rfl, rfl⟩
  | p :: r, i + 1, h => by
    have := pcs_get (l := r) (i := i) (by simpa using h)
    have e : pcs (p :: r) = .int .i64 (p.1 : Int) :: .string p.2 :: pcs r := rfl
    rw [e, show (i + 1) * 2 = i * 2 + 1 + 1 by omega]
    simpa using this
/-- what a world holds of a disk: g its block, F all its blocks -/
def DiskAt (w : World) (g : Nat) (F : List Nat) (D : Dk) : Prop :=
  ∃ (gd gv : Nat) (pv : Value), F = g :: gd :: gv :: pv.ownBlock.toList ∧ (g ≠ gd ∧ g ≠ gv ∧ gd ≠ gv) ∧ (∀ k, pv.ownBlock = some k → k ≠ g ∧ k ≠ gd ∧ k ≠ gv) ∧
    w.heap[g]? = some (.cells #[.bool D.off, .int .i64 D.left, .slice (some ⟨gd, 0, none⟩) D.sure.length D.sure.length, .slice (some ⟨gv, 0, none⟩) D.sure.length D.sure.length, pv] 72 (0, 0)) ∧
    RowB 5 w gd D.sure ∧ RowB 5 w gv D.vis ∧ w.ownsRow 0 92 2 pv D.pend.length (pcs D.pend) ∧ Ok D
theorem DiskAt.kept {S : List Nat} {w w' : World} {g : Nat} {F : List Nat} {D : Dk} (h : DiskAt w g F D) (k : Kept S w w') (hd : ∀ x ∈ F, x ∉ S) : DiskAt w' g F D := by
  obtain ⟨gd, gv, pv, rfl, h1, h2, hg, hs, hv, ho, hk⟩ := h
  refine ⟨gd, gv, pv, rfl, h1, h2, k.heap hg (hd g (by simp)), hs.kept k (hd gd (by simp)), hv.kept k (hd gv (by simp)), k.own ho fun x hx => hd x ?_, hk⟩
  exact List.mem_cons_of_mem _ (List.mem_cons_of_mem _ (List.mem_cons_of_mem _ (mem_own hx)))
theorem DiskAt.below {w w' : World} {g : Nat} {F : List Nat} {D : Dk} (h : DiskAt w g F D) (k : Below w.heap.size w w') : DiskAt w' g F D := h.kept (Kept.of_below k) (fun _ _ h => by cases h)
theorem DiskAt.lt {w : World} {g : Nat} {F : List Nat} {D : Dk} (h : DiskAt w g F D) : ∀ x ∈ F, x < w.heap.size := by
  obtain ⟨gd, gv, pv, rfl, h1, h2, hg, hs, hv, ho, hk⟩ := h
  intro x hx
  simp only [List.mem_cons] at hx
  rcases hx with rfl | rfl | rfl | hx
  · exact hlt hg
  · exact hlt hs
  · exact hlt hv
  · exact (ho.lt x (own_mem hx)).2
theorem DiskAt.ok {w : World} {g : Nat} {F : List Nat} {D : Dk} (h : DiskAt w g F D) : Ok D := by
  obtain ⟨_, _, _, _, _, _, _, _, _, _, hk⟩ := h
  exact hk
theorem DiskAt.head {w : World} {g : Nat} {F : List Nat} {D : Dk} (h : DiskAt w g F D) : g ∈ F := by
  obtain ⟨_, _, _, rfl, _⟩ := h
  simp
theorem pend_len {w : World} {n : Nat} {t : TypeId} {v : Value} {xs : List Value} (h : w.ownsRow 0 t 2 v n xs) : ∃ a c, v = .slice a n c := by
  rcases h.2 with ⟨h', rfl⟩ | ⟨gp, cap, _, h', _⟩
  · exact ⟨_, _, h'⟩
  · exact ⟨_, _, h'⟩
theorem size_nil (w : World) : Calls Tryz.prog 34 #[.pointer none] w fun e w' => e = .returned (.int .i64 0) ∧ w = w' := by
  go_enter Tryz.func34, Tryz.ntmps34
  go_wp2_with fail
  go_ret
  exact ⟨rfl, rfl⟩
theorem size_any (g : Nat) (F : List Nat) (D : Dk) (w : World) (h : DiskAt w g F D) : Calls Tryz.prog 34 #[.pointer (some ⟨g, 0, none⟩)] w fun e w' => e = .returned (.int .i64 (D.sure.length : Int)) ∧ w = w' := by
  obtain ⟨gd, gv, pv, rfl, h1, h2, hg, hs, hv, ho, hk⟩ := h
  have c2 := (cells5 hg).2.2.1
  clear hg hs hv ho hk h1 h2
  go_enter Tryz.func34, Tryz.ntmps34
  go_wp2_with fail
  go_ret
  exact ⟨rfl, rfl⟩
theorem pending_nil (w : World) : Calls Tryz.prog 21 #[.pointer none] w fun e w' => e = .returned (.int .i64 0) ∧ w = w' := by
  go_enter Tryz.func21, Tryz.ntmps21
  go_wp2_with fail
  go_ret
  exact ⟨rfl, rfl⟩
theorem pending_any (g : Nat) (F : List Nat) (D : Dk) (w : World) (h : DiskAt w g F D) : Calls Tryz.prog 21 #[.pointer (some ⟨g, 0, none⟩)] w fun e w' => e = .returned (.int .i64 (D.pend.length : Int)) ∧ w = w' := by
  obtain ⟨gd, gv, pv, rfl, h1, h2, hg, hs, hv, ho, hk⟩ := h
  have c4 := (cells5 hg).2.2.2.2
  obtain ⟨a, c, rfl⟩ := pend_len ho
  clear hg hs hv ho hk h1 h2
  go_enter Tryz.func21, Tryz.ntmps21
  go_wp2_with fail
  go_ret
  exact ⟨rfl, rfl⟩
theorem read_nil (o n : Int) (w : World) : Calls Tryz.prog 33 #[.pointer none, .int .i64 o, .int .i64 n] w fun e w' => e = .returned (.tuple #[.string ByteArray.empty, .int .i64 1]) ∧ w = w' := by
  go_enter Tryz.func33, Tryz.ntmps33
  go_wp2_with (go_at_call 40; refine (check_nil _).mono ?_; rintro e w1 ⟨rfl, rfl⟩)
  go_ret2
  exact ⟨rfl, rfl⟩
theorem read_off (o n : Int) (g : Nat) (F : List Nat) (D : Dk) (w : World) (h : DiskAt w g F D) (ho : D.off = true) : Calls Tryz.prog 33 #[.pointer (some ⟨g, 0, none⟩), .int .i64 o, .int .i64 n] w fun e w' => e = .returned (.tuple #[.string ByteArray.empty, .int .i64 331]) ∧ w = w' := by
  obtain ⟨gd, gv, pv, rfl, h1, h2, hg, hs, hv, hp, hk⟩ := h
  have c0 := (cells5 hg).1
  rw [ho] at c0
  have H0 := Lib.hid c0
  clear hg hs hv hp hk h1 h2 c0 ho
  go_enter Tryz.func33, Tryz.ntmps33
  go_wp2_with (go_at_call 40; refine (check_off _ _ H0.out).mono ?_; rintro e w1 ⟨rfl, rfl⟩)
  go_ret2
  exact ⟨rfl, rfl⟩
theorem read_out (o n : Int) (g : Nat) (F : List Nat) (D : Dk) (w : World) (h : DiskAt w g F D) (ho : D.off = false) (hi : inB D.sure.length o n = false) : Calls Tryz.prog 33 #[.pointer (some ⟨g, 0, none⟩), .int .i64 o, .int .i64 n] w fun e w' => e = .returned (.tuple #[.string ByteArray.empty, .int .i64 330]) ∧ w = w' := by
  obtain ⟨gd, gv, pv, rfl, h1, h2, hg, hs, hv, hp, hk⟩ := h
  have c0 := (cells5 hg).1
  rw [ho] at c0
  have H0 := Lib.hid c0
  have H2 := Lib.hid (cells5 hg).2.2.1
  have Hi := Lib.hid hi
  have hm := hk.max
  clear hg hs hv hp hk h1 h2 c0 ho hi
  go_enter Tryz.func33, Tryz.ntmps33
  go_wp2_with (first | (go_at_call 40; refine (check_ok _ _ H0.out).mono ?_; rintro e w1 ⟨rfl, rfl⟩) | (go_at_call 61; refine (inside_any _ _ _ _ _ _ _ H2.out (by omega)).mono ?_; rintro e w1 ⟨rfl, rfl⟩; rw [Hi.out]))
  go_ret2
  exact ⟨rfl, rfl⟩
theorem strOf_sof (l : List UInt8) : strOfNums (l.map fun b : UInt8 => ((b.toNat : Nat) : Int)) = sof l := by
  have h := strOfNums_data (l.map fun b : UInt8 => ((b.toNat : Nat) : Int))
  have e : (l.map fun b : UInt8 => ((b.toNat : Nat) : Int)).map (fun n : Int => UInt8.ofNat n.toNat) = l := by
    rw [List.map_map]
    conv => rhs; rw [← List.map_id l]
    exact List.map_congr_left fun b _ => by simp
  rw [e] at h
  have h2 := sof_bts (strOfNums (l.map fun b : UInt8 => ((b.toNat : Nat) : Int)))
  rw [bts, h] at h2
  exact h2.symm
theorem conv_row {w : World} {g : Nat} {L : List UInt8} (h : RowB 5 w g L) (o n c : Nat) (ho : o + n ≤ L.length) :
    (convert 53 9 (.slice (some ⟨g, o, none⟩) n c)).run Tryz.prog w = .ok (.string (sof ((L.drop o).take n))) w := by
  rw [run_convert_bytes_arg (P := Tryz.prog) w 53 5 Tryz.underlying53 Tryz.underlying5 g o n c (((L.drop o).take n).map fun b : UInt8 => ((b.toNat : Nat) : Int)) (by simp; omega) (fun i hi => ?_) 9 Tryz.underlying9, strOf_sof]
  rw [h.cell (show o + i < L.length by omega)]
  simp [List.getD, hi, show o + i < L.length by omega]
set_option maxRecDepth 100000 in
theorem read_in (o n : Nat) (g : Nat) (F : List Nat) (D : Dk) (w : World) (h : DiskAt w g F D) (ho : D.off = false) (hi : o + n ≤ D.sure.length) : Calls Tryz.prog 33 #[.pointer (some ⟨g, 0, none⟩), .int .i64 (o : Int), .int .i64 (n : Int)] w fun e w' => e = .returned (.tuple #[.string (sof ((D.vis.drop o).take n)), .int .i64 0]) ∧ w = w' := by
  have Hi := Lib.hid (inB_iff.2 ⟨by omega, by omega, by omega, by omega⟩ : inB D.sure.length (o : Int) (n : Int) = true)
  obtain ⟨gd, gv, pv, rfl, h1, h2, hg, hs, hv, hp, hk⟩ := h
  have c0 := (cells5 hg).1
  rw [ho] at c0
  have H0 := Lib.hid c0
  have H2 := Lib.hid (cells5 hg).2.2.1
  have c3 := (cells5 hg).2.2.2.1
  have hm := hk.max
  have Hl := Lib.hid hk.len
  have HV := Lib.hid hv
  clear hg hs hv hp hk h1 h2 c0 ho
  have o1 : (o : Int) ≤ (D.sure.length : Int) := by omega
  have o2 : (0 : Int) ≤ (o : Int) := by omega
  have o3 : (0 : Int) ≤ (n : Int) := by omega
  by_cases hlt : o < D.sure.length
  · have hcv := conv_row HV.out o n (D.sure.length - o) (by rw [Hl.out]; exact hi)
    have o4 : n ≤ D.sure.length - o := by omega
    go_enter Tryz.func33, Tryz.ntmps33
    go_wp2_with (first | (go_at_call 40; refine (check_ok _ _ H0.out).mono ?_; rintro e w1 ⟨rfl, rfl⟩) | (go_at_call 61; refine (inside_any _ _ _ _ _ _ _ H2.out (by omega)).mono ?_; rintro e w1 ⟨rfl, rfl⟩; rw [Hi.out]))
    go_ret2
    exact ⟨rfl, rfl⟩
  · obtain rfl : n = 0 := by omega
    rw [show ((0 : Nat) : Int) = 0 from rfl] at Hi ⊢
    obtain ⟨m, hm2⟩ : ∃ m, D.sure.length = m := ⟨_, rfl⟩
    rw [hm2] at H2 c3 hm o1 hlt hi Hl Hi
    obtain rfl : o = m := by omega
    have hcv := conv_row HV.out 0 0 0 (by omega)
    rw [show sof ((D.vis.drop 0).take 0) = sof ((D.vis.drop o).take 0) by simp] at hcv
    have Hc := Lib.hid hm2
    clear hm2
    go_enter Tryz.func33, Tryz.ntmps33
    go_wp2_with (first | (go_at_call 40; refine (check_ok _ _ H0.out).mono ?_; rintro e w1 ⟨rfl, rfl⟩) | (go_at_call 61; refine (inside_any _ _ _ _ _ _ _ H2.out (by omega)).mono ?_; rintro e w1 ⟨rfl, rfl⟩; rw [Hi.out]))
    go_ret2
    exact ⟨rfl, rfl⟩
end Go.Proofs.YtnjkinljpekohaaGreatDoor
namespace Go.Proofs.YtnjkinljpekohaaGreatDoor
open Go.RowKit Dsk
theorem u8_infos : (Tryz.prog.info? 5).map (fun i => (i.zero, i.size, i.bytes)) = some (some (.int .u8 0), 1, 1) := by kernel_rfl
/-- make([]byte, n) -/
theorem make_bytes (n : Nat) (hn : n ≤ 4194304) (w : World) : (Instr.makeSlice 53 (.int .i64 (n : Int)) (.int .i64 (n : Int))).run Tryz.prog w = .ok (.slice (some ⟨w.heap.size, 0, none⟩) n n) (w.alloc (.cells (bcs (List.replicate n 0)).toArray 5)) := by
  obtain ⟨i, hi, hz, hs, hb⟩ := info_parts u8_infos
  have h := run_makeSlice (P := Tryz.prog) w 53 5 i (.int .u8 0) Tryz.underlying53 hi hz .i64 .i64 (n : Int) (n : Int) (by omega) (Int.le_refl _) (by rw [hs]; simp; omega) (by rw [hb]; omega) (by omega)
  rw [h, hs, Nat.mul_one]
  have e : madeCells (Value.int IntKind.u8 0).cells n = (bcs (List.replicate n 0)).toArray := by
    apply Array.toList_inj.1
    rw [show (Value.int IntKind.u8 0).cells = #[Value.int IntKind.u8 0] from rfl, toList_madeCells_one]
    simp [bcs]
  simp only [Int.toNat_natCast, e]
def NewQ (n : Nat) (w : World) (e : Ending) (w' : World) : Prop := ∃ (g : Nat) (F : List Nat), e = .returned (.tuple #[.pointer (some ⟨g, 0, none⟩), .int .i64 0]) ∧ DiskAt w' g F (nw n) ∧ (∀ x ∈ F, w.heap.size ≤ x) ∧ Below w.heap.size w w'
theorem new_no (n : Int) (w : World) (h : n < 1 ∨ 4194304 < n) : Calls Tryz.prog 9 #[.int .i64 n] w fun e w' => e = .returned (.tuple #[.pointer none, .int .i64 2]) ∧ w = w' := by
  rcases h with h | h
  · go_enter Tryz.func9, Tryz.ntmps9
    go_wp2_with fail
    go_ret2
    exact ⟨rfl, rfl⟩
  · have h' : ¬ n < 1 := by omega
    go_enter Tryz.func9, Tryz.ntmps9
    go_wp2_with fail
    go_ret2
    exact ⟨rfl, rfl⟩
theorem new_mk {n : Nat} {w W : World} {gd gv : Nat} (hn : n ≤ 4194304) (hd : gd = w.heap.size ∧ gv = w.heap.size + 1 ∨ gv = w.heap.size ∧ gd = w.heap.size + 1)
    (hW : W = ((w.alloc (.cells (bcs (List.replicate n 0)).toArray 5)).alloc (.cells (bcs (List.replicate n 0)).toArray 5)).alloc (.cells #[.bool false, .int .i64 0, .slice (some ⟨gd, 0, none⟩) n n, .slice (some ⟨gv, 0, none⟩) n n, .slice none 0 0] 72)) :
    DiskAt W (w.heap.size + 2) [w.heap.size + 2, gd, gv] (nw n) ∧ (∀ x ∈ [w.heap.size + 2, gd, gv], w.heap.size ≤ x) ∧ Below w.heap.size w W := by
  have a0 : ((w.alloc (.cells (bcs (List.replicate n 0)).toArray 5)).alloc (.cells (bcs (List.replicate n 0)).toArray 5)).heap.size = w.heap.size + 2 := by simp
  have h0 : W.heap[w.heap.size]? = some (.cells (bcs (List.replicate n 0)).toArray 5) := by
    rw [hW, Below.heap_alloc _ _ _ (by rw [a0]; omega)]; exact heap_alloc2_old _ _ _
  have h1 : W.heap[w.heap.size + 1]? = some (.cells (bcs (List.replicate n 0)).toArray 5) := by
    rw [hW, Below.heap_alloc _ _ _ (by rw [a0]; omega)]; exact heap_alloc2_new _ _ _
  have h2 : W.heap[w.heap.size + 2]? = some (.cells #[.bool false, .int .i64 0, .slice (some ⟨gd, 0, none⟩) n n, .slice (some ⟨gv, 0, none⟩) n n, .slice none 0 0] 72) := by
    rw [hW, ← a0]; exact heap_alloc_new _ _
  refine ⟨⟨gd, gv, .slice none 0 0, rfl, by omega, fun k hk => (by cases hk), ?_, ?_, ?_, World.ownsRow_nil _ _ _ _, ok_nw hn⟩, ?_, ?_⟩
  · simpa [nw] using h2
  · rcases hd with ⟨rfl, rfl⟩ | ⟨rfl, rfl⟩
    · exact h0
    · exact h1
  · rcases hd with ⟨rfl, rfl⟩ | ⟨rfl, rfl⟩
    · exact h1
    · exact h0
  · intro x hx
    simp only [List.mem_cons, List.not_mem_nil, or_false] at hx
    omega
  · rw [hW]; exact below_alloc (below_alloc (below_alloc (Below.refl _ _) _) _) _
set_option maxRecDepth 100000 in
theorem new_any (n : Nat) (w : World) (h1 : 1 ≤ n) (h2 : n ≤ 4194304) : Calls Tryz.prog 9 #[.int .i64 (n : Int)] w (NewQ n w) := by
  have hmk := make_bytes n h2
  have i1 : ¬ (n : Int) < 1 := by omega
  have i2 : ¬ (4194304 : Int) < (n : Int) := by omega
  go_enter Tryz.func9, Tryz.ntmps9
  go_wp2_with fail
  go_region
  all_goals
    go_wp2_with fail
    go_ret2
    first
      | (obtain ⟨q1, q2, q3⟩ := new_mk (w := w) h2 (.inl ⟨rfl, rfl⟩) rfl
         exact ⟨_, _, rfl, q1.kept (Kept.refl [] _).drew (fun _ _ h => by cases h), q2, q3.drew⟩)
      | (obtain ⟨q1, q2, q3⟩ := new_mk (w := w) h2 (.inr ⟨rfl, rfl⟩) rfl
         exact ⟨_, _, rfl, q1.kept (Kept.refl [] _).drew (fun _ _ h => by cases h), q2, q3.drew⟩)
theorem cut_off (n : Int) (g : Nat) (F : List Nat) (D : Dk) (w : World) (h : DiskAt w g F D) (ho : D.off = true) : Calls Tryz.prog 13 #[.pointer (some ⟨g, 0, none⟩), .int .i64 n] w fun e w' => e = .returned (.int .i64 331) ∧ w = w' := by
  obtain ⟨gd, gv, pv, rfl, h1, h2, hg, hs, hv, hp, hk⟩ := h
  have c0 := (cells5 hg).1
  rw [ho] at c0
  have H0 := Lib.hid c0
  clear hg hs hv hp hk h1 h2 c0 ho
  go_enter Tryz.func13, Tryz.ntmps13
  go_wp2_with (go_at_call 40; refine (check_off _ _ H0.out).mono ?_; rintro e w1 ⟨rfl, rfl⟩)
  go_ret
  exact ⟨rfl, rfl⟩
theorem cut_nil (n : Int) (w : World) : Calls Tryz.prog 13 #[.pointer none, .int .i64 n] w fun e w' => e = .returned (.int .i64 1) ∧ w = w' := by
  go_enter Tryz.func13, Tryz.ntmps13
  go_wp2_with (go_at_call 40; refine (check_nil _).mono ?_; rintro e w1 ⟨rfl, rfl⟩)
  go_ret
  exact ⟨rfl, rfl⟩
theorem cut_neg (n : Int) (g : Nat) (F : List Nat) (D : Dk) (w : World) (h : DiskAt w g F D) (ho : D.off = false) (hn : n < 0) : Calls Tryz.prog 13 #[.pointer (some ⟨g, 0, none⟩), .int .i64 n] w fun e w' => e = .returned (.int .i64 2) ∧ w = w' := by
  obtain ⟨gd, gv, pv, rfl, h1, h2, hg, hs, hv, hp, hk⟩ := h
  have c0 := (cells5 hg).1
  rw [ho] at c0
  have H0 := Lib.hid c0
  clear hg hs hv hp hk h1 h2 c0 ho
  go_enter Tryz.func13, Tryz.ntmps13
  go_wp2_with (go_at_call 40; refine (check_ok _ _ H0.out).mono ?_; rintro e w1 ⟨rfl, rfl⟩)
  go_ret
  exact ⟨rfl, rfl⟩
/-- what a call leaves that turns a disk -/
def TurnQ (g : Nat) (F : List Nat) (D' : Dk) (v : Value) (w : World) (e : Ending) (w' : World) : Prop := ∃ F' : List Nat, e = .returned v ∧ DiskAt w' g F' D' ∧ Kept F w w' ∧ New w F F'
theorem cut_yes (n : Int) (g : Nat) (F : List Nat) (D : Dk) (w : World) (h : DiskAt w g F D) (ho : D.off = false) (h0 : 0 ≤ n) (hm : n ≤ 9223372036854775807) : Calls Tryz.prog 13 #[.pointer (some ⟨g, 0, none⟩), .int .i64 n] w (TurnQ g F (cu D n) (.int .i64 0) w) := by
  have HD := Lib.hid h
  obtain ⟨gd, gv, pv, rfl, h1, h2, hg, hs, hv, hp, hk⟩ := h
  have c0 := (cells5 hg).1
  rw [ho] at c0
  have H0 := Lib.hid c0
  have f0 := frozen_of_row w g 0 _ _ hg
  have f1 := frozen_of_row w g 1 _ _ hg
  have c0 := (cells5 hg).1
  have c1 := (cells5 hg).2.1
  have h00 : ¬ n < 0 := by omega
  clear hg hs hv hp hk h1 h2 c0 ho
  go_enter Tryz.func13, Tryz.ntmps13
  go_wp2_with (go_at_call 40; refine (check_ok _ _ H0.out).mono ?_; rintro e w1 ⟨rfl, rfl⟩)
  go_ret
  obtain ⟨gd', gv', pv', e', h1, h2, hg, hs, hv, hp, hk⟩ := HD.out
  obtain ⟨rfl, rfl, e3⟩ : gd = gd' ∧ gv = gv' ∧ pv.ownBlock.toList = pv'.ownBlock.toList := by simpa using e'
  have KP : Kept [g] w ((w.setCell ⟨g, 0, none⟩ (.bool (n == 0))).setCell ⟨g, 1, none⟩ (.int .i64 n)) := ((Kept.refl _ _).setCell (.inl (by simp)) _).setCell (.inl (by simp)) _
  have q0 := heap_setCell_same w g 0 _ _ (.bool (n == 0)) hg
  have q1 := heap_setCell_same _ g 1 _ _ (.int .i64 n) q0
  refine ⟨_, rfl, ⟨gd, gv, pv', by rw [e3], h1, h2, by simpa [cu] using q1, hs.kept KP (by simpa using fun e => h1.1 e.symm), hv.kept KP (by simpa using fun e => h1.2.1 e.symm), KP.own hp (fun k hk => by simpa using (h2 k hk).1), ok_cu hk h0 hm⟩, KP.mono (by simp), New.refl _ _⟩
end Go.Proofs.YtnjkinljpekohaaGreatDoor
namespace Go.Proofs.YtnjkinljpekohaaGreatDoor
open Go.RowKit Dsk
theorem sync_nil (w : World) : Calls Tryz.prog 39 #[.pointer none] w fun e w' => e = .returned (.int .i64 1) ∧ w = w' := by
  go_enter Tryz.func39, Tryz.ntmps39
  go_wp2_with (go_at_call 40; refine (check_nil _).mono ?_; rintro e w1 ⟨rfl, rfl⟩)
  go_ret
  exact ⟨rfl, rfl⟩
theorem sync_off (g : Nat) (F : List Nat) (D : Dk) (w : World) (h : DiskAt w g F D) (ho : D.off = true) : Calls Tryz.prog 39 #[.pointer (some ⟨g, 0, none⟩)] w fun e w' => e = .returned (.int .i64 331) ∧ w = w' := by
  obtain ⟨gd, gv, pv, rfl, h1, h2, hg, hs, hv, hp, hk⟩ := h
  have c0 := (cells5 hg).1
  rw [ho] at c0
  have H0 := Lib.hid c0
  clear hg hs hv hp hk h1 h2 c0 ho
  go_enter Tryz.func39, Tryz.ntmps39
  go_wp2_with (go_at_call 40; refine (check_off _ _ H0.out).mono ?_; rintro e w1 ⟨rfl, rfl⟩)
  go_ret
  exact ⟨rfl, rfl⟩
/-- a disk whose durable and visible bytes have been made one -/
theorem settled {w' : World} {g gd gv : Nat} {pv : Value} {D : Dk} {L : List UInt8} {b : Bool} {l : Int} (h1 : g ≠ gd ∧ g ≠ gv ∧ gd ≠ gv) (h2 : ∀ k, pv.ownBlock = some k → k ≠ g ∧ k ≠ gd ∧ k ≠ gv)
    (hs : RowB 5 w' gd L) (hv : RowB 5 w' gv L)
    (hg : w'.heap[g]? = some (.cells #[.bool b, .int .i64 l, .slice (some ⟨gd, 0, none⟩) D.sure.length D.sure.length, .slice (some ⟨gv, 0, none⟩) D.sure.length D.sure.length, cut0 pv] 72 (0, 0)))
    (ho : w'.ownsRow 0 92 2 (cut0 pv) 0 []) (hL : L.length = D.sure.length) (hk : Ok { off := b, left := l, sure := L, vis := L, pend := [] }) :
    DiskAt w' g (g :: gd :: gv :: pv.ownBlock.toList) { off := b, left := l, sure := L, vis := L, pend := [] } := by
  refine ⟨gd, gv, cut0 pv, by rw [cut0_own], h1, by rw [cut0_own]; exact h2, ?_, hs, hv, ho, hk⟩
  rw [hL]; exact hg
set_option maxRecDepth 100000 in
theorem sync_ok (g : Nat) (F : List Nat) (D : Dk) (w : World) (h : DiskAt w g F D) (ho : D.off = false) : Calls Tryz.prog 39 #[.pointer (some ⟨g, 0, none⟩)] w (TurnQ g F (sy D) (.int .i64 0) w) := by
  have HD := Lib.hid h
  obtain ⟨gd, gv, pv, rfl, h1, h2, hg, hs, hv, hp, hk⟩ := h
  have c0 := (cells5 hg).1
  rw [ho] at c0
  have H0 := Lib.hid c0
  have c2 := (cells5 hg).2.2.1
  have c3 := (cells5 hg).2.2.2.1
  have l2 := lt_size c2
  have HG := Lib.hid hg
  have HS := Lib.hid hs
  have HV := Lib.hid hv
  have HP := Lib.hid hp
  have HK := Lib.hid hk
  have H1 := Lib.hid h1
  have H2 := Lib.hid h2
  clear hg hs hv hp hk h1 h2 c0 ho
  go_enter Tryz.func39, Tryz.ntmps39
  go_wp2_with (go_at_call 40; refine (check_ok _ _ H0.out).mono ?_; rintro e w1 ⟨rfl, rfl⟩)
  have g_c2 := fun D os => cell_regrown c2 D os
  have g_c3 := fun D os => cell_regrown c3 D os
  refine wp_region_head 9 (by kernel_rfl) (by kernel_rfl) ?_
  simp only [List.take_succ_cons, List.take_zero, List.drop_succ_cons, List.drop_zero]
  repeat (go_big_quiet_step (fail))
  refine wpQuiet_nil ?_
  intro wq hq
  clear g_c2 g_c3 c2 c3
  have k0 := Kept.of_below hq
  go_wp2_with (go_at_call 47; refine (settle_any g gv gd D.sure.length D.vis D.sure _ _ _ _ pv D.pend.length _ wq (k0.heap HG.out (fun h => by cases h)) (HV.out.kept k0 (fun h => by cases h)) (HS.out.kept k0 (fun h => by cases h)) HK.out.len rfl (k0.own HP.out (fun _ _ h => by cases h)) H1.out.1 (fun k hk => ⟨(H2.out k hk).1, (H2.out k hk).2.1⟩)).mono ?_; rintro e w2 ⟨rfl, r1, r2, r3, r4⟩)
  go_ret
  have rv := (HV.out.kept k0 (fun h => by cases h)).kept r4 (by
    simp only [List.mem_cons, not_or]
    exact ⟨fun e => H1.out.2.1 e.symm, fun e => H1.out.2.2 e.symm, fun h => (H2.out gv (own_mem h)).2.2 rfl⟩)
  refine ⟨_, rfl, settled H1.out H2.out r1 rv r2 r3 HK.out.len (ok_sy HK.out), ?_, New.refl _ _⟩
  refine (k0.mono (fun _ h => by cases h)).trans (r4.mono fun k h => ?_) (New.refl _ _)
  simp only [List.mem_cons] at h ⊢
  rcases h with h | h | h
  · exact .inl h
  · exact .inr (.inl h)
  · exact .inr (.inr (.inr h))
end Go.Proofs.YtnjkinljpekohaaGreatDoor
namespace Go.Proofs.YtnjkinljpekohaaGreatDoor
open Go.RowKit Dsk
theorem write_nil (o : Int) (s : ByteArray) (w : World) : Calls Tryz.prog 27 #[.pointer none, .int .i64 o, .string s] w fun e w' => e = .returned (.int .i64 1) ∧ w = w' := by
  go_enter Tryz.func27, Tryz.ntmps27
  go_wp2_with (go_at_call 40; refine (check_nil _).mono ?_; rintro e w1 ⟨rfl, rfl⟩)
  go_ret
  exact ⟨rfl, rfl⟩
theorem write_off (o : Int) (s : ByteArray) (g : Nat) (F : List Nat) (D : Dk) (w : World) (h : DiskAt w g F D) (ho : D.off = true) : Calls Tryz.prog 27 #[.pointer (some ⟨g, 0, none⟩), .int .i64 o, .string s] w fun e w' => e = .returned (.int .i64 331) ∧ w = w' := by
  obtain ⟨gd, gv, pv, rfl, h1, h2, hg, hs, hv, hp, hk⟩ := h
  have c0 := (cells5 hg).1
  rw [ho] at c0
  have H0 := Lib.hid c0
  clear hg hs hv hp hk h1 h2 c0 ho
  go_enter Tryz.func27, Tryz.ntmps27
  go_wp2_with (go_at_call 40; refine (check_off _ _ H0.out).mono ?_; rintro e w1 ⟨rfl, rfl⟩)
  go_ret
  exact ⟨rfl, rfl⟩
theorem write_out (o : Int) (s : ByteArray) (g : Nat) (F : List Nat) (D : Dk) (w : World) (h : DiskAt w g F D) (ho : D.off = false) (hi : inB D.sure.length o (s.size : Int) = false) : Calls Tryz.prog 27 #[.pointer (some ⟨g, 0, none⟩), .int .i64 o, .string s] w fun e w' => e = .returned (.int .i64 330) ∧ w = w' := by
  obtain ⟨gd, gv, pv, rfl, h1, h2, hg, hs, hv, hp, hk⟩ := h
  have c0 := (cells5 hg).1
  rw [ho] at c0
  have H0 := Lib.hid c0
  have H2 := Lib.hid (cells5 hg).2.2.1
  have Hi := Lib.hid hi
  have hm := hk.max
  clear hg hs hv hp hk h1 h2 c0 ho hi
  go_enter Tryz.func27, Tryz.ntmps27
  go_wp2_with (first | (go_at_call 40; refine (check_ok _ _ H0.out).mono ?_; rintro e w1 ⟨rfl, rfl⟩) | (go_at_call 61; refine (inside_any _ _ _ _ _ _ _ H2.out (by omega)).mono ?_; rintro e w1 ⟨rfl, rfl⟩; rw [Hi.out]))
  go_ret
  exact ⟨rfl, rfl⟩
theorem write_info : (Tryz.prog.info? 92).map (fun i => (i.zero, i.size, i.bytes)) = some (some (.agg #[.int .i64 0, .string ByteArray.empty]), 2, 24) := by kernel_rfl
theorem new_write {W : World} {a b : Value} {t : TypeId} : ∀ j u, [a, b][j]? = some u → (W.alloc (.cells #[a, b] t)).cell? ((⟨W.heap.size, 0, none⟩ : Addr).add j) = some u := fun j u h => by
  have hadd : (⟨W.heap.size, 0, none⟩ : Addr).add j = ⟨W.heap.size, j, none⟩ := by unfold Addr.add; split <;> simp_all
  rw [hadd]
  exact new_cell (by simpa using h)
set_option maxRecDepth 100000 in
set_option maxHeartbeats 1000000 in
theorem write_in (o : Nat) (s : ByteArray) (g : Nat) (F : List Nat) (D : Dk) (w : World) (h : DiskAt w g F D) (ho : D.off = false) (hi : o + s.size ≤ D.sure.length) (hpl : D.pend.length ≤ 1000000) :
    Calls Tryz.prog 27 #[.pointer (some ⟨g, 0, none⟩), .int .i64 (o : Int), .string s] w (TurnQ g F (wr D o s) (.int .i64 0) w) := by
  have Hi := Lib.hid (inB_iff.2 ⟨by omega, by omega, by omega, by omega⟩ : inB D.sure.length (o : Int) (s.size : Int) = true)
  obtain ⟨gd, gv, pv, rfl, h1, h2, hg, hs, hv, hp, hk⟩ := h
  have c0 := (cells5 hg).1
  rw [ho] at c0
  have H0 := Lib.hid c0
  have H2' := Lib.hid (cells5 hg).2.2.1
  have hm := hk.max
  have c4 := (cells5 hg).2.2.2.2
  have f4 := frozen_of_row w g 4 _ _ hg
  have lg := hlt hg
  have lv := hlt hv
  have HG := Lib.hid hg
  have HS := Lib.hid hs
  have HV := Lib.hid hv
  have HP := Lib.hid hp
  have HK := Lib.hid hk
  have H1 := Lib.hid h1
  have H2 := Lib.hid h2
  have hpb := hp.lt
  have Hpb := Lib.hid (fun k (hk : pv.ownBlock = some k) => (hpb k hk).2)
  have Hpg := Lib.hid (show some g ≠ pv.ownBlock from fun e => (h2 g e.symm).1 rfl)
  obtain ⟨i0, hi0, hz0, hz1, hz2⟩ := info_parts write_info
  clear hg hs hv hp hk h1 h2 c0 ho hpb
  go_enter Tryz.func27, Tryz.ntmps27
  go_wp2_with (first | (go_at_call 40; refine (check_ok _ _ H0.out).mono ?_; rintro e w1 ⟨rfl, rfl⟩) | (go_at_call 61; refine (inside_any _ _ _ _ _ _ _ H2'.out (by omega)).mono ?_; rintro e w1 ⟨rfl, rfl⟩; rw [Hi.out]))
  obtain ⟨W, hW⟩ : ∃ W, w.alloc (.cells #[.int .i64 (o : Int), .string s] 92) = W := ⟨_, rfl⟩
  have x0 : W.cell? ⟨w.heap.size, 0, none⟩ = some (.int .i64 (o : Int)) := by rw [← hW]; exact new_cell rfl
  have x1 : W.cell? ⟨w.heap.size, 1, none⟩ = some (.string s) := by rw [← hW]; exact new_cell rfl
  have K0 : Kept [] w W := by rw [← hW]; exact (Kept.refl _ _).alloc _
  have y4 : W.cell? ⟨g, 4, none⟩ = some pv := K0.cell c4 (fun h => by cases h)
  have yf : W.frozen? ⟨g, 4, none⟩ = false := (World.frozen?_of_block (K0.block g lg (fun h => by cases h))).trans f4
  have lgW := lt_size y4
  have HPW := Lib.hid (K0.own HP.out (fun _ _ h => by cases h))
  have ls : w.heap.size < W.heap.size := by rw [← hW]; simp
  rw [hW]
  clear hW c4 f4
  go_region_law ((refine step_append_lies _ (by rfl) _ _ _ (by rfl) 0 92 i0 _ 2 24 Tryz.underlying70 hi0 hz0 hz1 hz2 rfl (by omega) pv D.pend.length _ (by rfl) ((HPW.out.alloc _).drew) ⟨W.heap.size, 0, none⟩ 1 1 [.int .i64 (o : Int), .string s] (by rfl) rfl (fun j u h => by rw [World.cell?_drew]; exact new_write j u h) (by simp [Value.oneCell']) (by omega) (by unfold maxLen; omega) (by omega) (by omega) (W.heap.size + 1) (by simp) ?_; intro g' cp' wy hown' hgrow hat hlt'; have x2 := (hgrow.cell_far ⟨g, 4, none⟩ (by simp; omega) Hpg.out).trans (keep_alloc _ y4); have x3 := (hgrow.frozen_far ⟨g, 4, none⟩ (by simp; omega) Hpg.out).trans (var_then (below_alloc (Below.refl _ _) _) ⟨y4, yf⟩).2))
  all_goals
    have hgg : g' ≠ g := by
      rcases hat with hat | hat
      · exact (H2.out _ hat).1
      · omega
    have KW : Kept pv.ownBlock.toList w wy := (((K0.mono (fun _ h => by cases h)).alloc _).drew).grown hgrow (fun k hk => .inl (mem_own hk))
    have hNF : New w pv.ownBlock.toList [g'] := fun k hk => by
      obtain rfl : k = g' := by simpa using hk
      rcases hat with hat | hat
      · exact .inl (mem_own hat)
      · exact .inr (by omega)
    have hg4 : g' ≠ gd ∧ g' ≠ gv := by
      rcases hat with hat | hat
      · exact (H2.out _ hat).2
      · have := hlt HS.out; omega
    have hgn : g ∉ pv.ownBlock.toList := fun h => Hpg.out (own_mem h).symm
    have hvn : gv ∉ pv.ownBlock.toList := fun h => (H2.out _ (own_mem h)).2.2 rfl
    have hdn : gd ∉ pv.ownBlock.toList := fun h => (H2.out _ (own_mem h)).2.1 rfl
    have hbx : some w.heap.size ≠ pv.ownBlock := fun e => by have := Hpb.out _ e.symm; omega
    have G4 := KW.heap HG.out hgn
    have G5 := heap_setCell_same wy g 4 _ _ (.slice (some ⟨g', 0, none⟩) (D.pend.length + 1) cp') G4
    have K5 : Kept (g :: pv.ownBlock.toList) w (wy.setCell ⟨g, 4, none⟩ (.slice (some ⟨g', 0, none⟩) (D.pend.length + 1) cp')) := (KW.mono (fun k h => List.mem_cons_of_mem _ h)).setCell (.inl (by simp)) _
    have O5 := ((Kept.refl [g] wy).setCell (p := ⟨g, 4, none⟩) (.inl (by simp)) (.slice (some ⟨g', 0, none⟩) (D.pend.length + 1) cp')).own hown' (fun k hk => by
      obtain rfl : g' = k := by simpa [Value.ownBlock] using hk
      simpa using hgg)
    have X0 := cell_set (p := ⟨g, 4, none⟩) (.slice (some ⟨g', 0, none⟩) (D.pend.length + 1) cp') (cell_grown' (drew_cell (keep_alloc _ x0)) hgrow hbx) (by dsimp only; omega)
    have X1 := cell_set (p := ⟨g, 4, none⟩) (.slice (some ⟨g', 0, none⟩) (D.pend.length + 1) cp') (cell_grown' (drew_cell (keep_alloc _ x1)) hgrow hbx) (by dsimp only; omega)
    obtain ⟨V, hV⟩ : ∃ V, wy.setCell ⟨g, 4, none⟩ (.slice (some ⟨g', 0, none⟩) (D.pend.length + 1) cp') = V := ⟨_, rfl⟩
    rw [hV] at G5 K5 O5 X0 X1 ⊢
    clear hV x0 x1 y4 yf x2 x3 hgrow
    simp at G5
    have C3 := (cells5 G5).2.2.2.1
    have HG5 := Lib.hid G5
    have HV5 := Lib.hid (HV.out.kept K5 (by simp only [List.mem_cons, not_or]; exact ⟨fun e => H1.out.2.1 e.symm, hvn⟩))
    have HS5 := Lib.hid (HS.out.kept K5 (by simp only [List.mem_cons, not_or]; exact ⟨fun e => H1.out.1 e.symm, hdn⟩))
    have HO5 := Lib.hid O5
    have lV := hlt G5
    have lX := lt_size X0
    have g_X0 := fun D os => cell_regrown X0 D os
    have g_X1 := fun D os => cell_regrown X1 D os
    have g_C3 := fun D os => cell_regrown C3 D os
    clear G5 O5
    go_wp2_with fail
    refine wp_region_head 5 (by kernel_rfl) (by kernel_rfl) ?_
    simp only [List.take_succ_cons, List.take_zero, List.drop_succ_cons, List.drop_zero]
    repeat (go_big_quiet_step (fail))
    refine wpQuiet_nil ?_
    intro wq hq
    clear g_X0 g_X1 g_C3 X0 X1 C3
    have k6 := Kept.of_below hq
    go_wp2_with (first | (go_at_call 46; refine (onto_any o s gv D.sure.length D.vis wq (HV5.out.kept k6 (fun h => by cases h)) HK.out.len hi hm).mono ?_; rintro e w3 ⟨rfl, r1, k7⟩; have R1 := Lib.hid r1; have HG7 := Lib.hid (k7.heap (k6.heap HG5.out (fun h => by cases h)) (by simpa using H1.out.2.1)); clear r1) | (go_at_call 62; refine (used_any g D.off D.left _ _ _ _ _ HG7.out HK.out.pos HK.out.left).mono ?_; rintro e w4 ⟨rfl, q1, k8⟩; have Q1 := Lib.hid q1; clear q1))
    go_ret
    have hgd := H1.out.1
    have hgv := H1.out.2.1
    have hdv := H1.out.2.2
    have K8 : Kept (g :: gv :: pv.ownBlock.toList) w w4 :=
      (((K5.mono (fun k h => by simp only [List.mem_cons] at h ⊢; rcases h with h | h; exact .inl h; exact .inr (.inr h))).trans (k6.mono (fun _ h => by cases h)) (New.refl _ _)).trans (k7.mono (fun k h => by simp at h; simp [h])) (New.refl _ _)).trans (k8.mono (fun k h => by simp at h; simp [h])) (New.refl _ _)
    refine ⟨g :: gd :: gv :: [g'], rfl, ⟨gd, gv, .slice (some ⟨g', 0, none⟩) (D.pend.length + 1) cp', rfl, H1.out, fun k hk => ?_, Q1.out, ?_, ?_, ?_, ok_wr HK.out hi⟩, K8.mono (fun k h => ?_), fun k hk => ?_⟩
    · obtain rfl : g' = k := by simpa [Value.ownBlock] using hk
      exact ⟨hgg, hg4⟩
    · exact ((HS5.out.kept k6 (fun h => by cases h)).kept k7 (by simpa using hdv)).kept k8 (by simpa using fun e => hgd e.symm)
    · exact RowB.kept R1.out k8 (by simpa using fun e => hgv e.symm)
    · have := k8.own (k7.own (k6.own HO5.out (fun _ _ h => by cases h)) (fun k hk => by
        obtain rfl : g' = k := by simpa [Value.ownBlock] using hk
        simpa using hg4.2)) (fun k hk => by
        obtain rfl : g' = k := by simpa [Value.ownBlock] using hk
        simpa using hgg)
      have e1 : (wr D o s).pend.length = D.pend.length + 1 := by simp [wr]
      have e2 : pcs (wr D o s).pend = pcs D.pend ++ [.int .i64 (o : Int), .string s] := by
        show pcs (D.pend ++ [(o, s)]) = _
        rw [pcs_append]; rfl
      rw [e1, e2]
      exact this
    · simp only [List.mem_cons] at h ⊢
      rcases h with h | h | h
      · exact .inl h
      · exact .inr (.inr (.inl h))
      · exact .inr (.inr (.inr h))
    · simp only [List.mem_cons, List.not_mem_nil, or_false] at hk
      rcases hk with rfl | rfl | rfl | rfl
      · exact .inl (by simp)
      · exact .inl (by simp)
      · exact .inl (by simp)
      · rcases hNF k (by simp) with h | h
        · exact .inl (List.mem_cons_of_mem _ (List.mem_cons_of_mem _ (List.mem_cons_of_mem _ h)))
        · exact .inr h
end Go.Proofs.YtnjkinljpekohaaGreatDoor
