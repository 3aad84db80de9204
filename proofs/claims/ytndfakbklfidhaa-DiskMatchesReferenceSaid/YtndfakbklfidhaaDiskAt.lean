/- Package disk: what a world holds of a disk; New, Size, Pending, Read, Cut. -/
import Derived.Test.YtndfakbklfidhaaDiskOnto
import Derived.Laws.BytesArg
namespace Go.Proofs.Ytndfakbklfidhaa
open Go.RowKit Dsk
/-- pending writes as values -/
def pcs (l : List (Nat × ByteArray)) : List Value := l.flatMap fun p => [.int .i64 (p.1 : Int), .string p.2]
theorem pcs_append (a b : List (Nat × ByteArray)) : pcs (a ++ b) = pcs a ++ pcs b := List.flatMap_append
theorem pcs_length : ∀ l : List (Nat × ByteArray), (pcs l).length = l.length * 2
  | [] => rfl
  | p :: r => by rw [show p :: r = [p] ++ r from rfl, pcs_append, List.length_append, pcs_length r]; simp [pcs]; omega
theorem pcs_get : ∀ {l : List (Nat × ByteArray)} {i : Nat}, i < l.length → (pcs l)[i * 2]? = some (.int .i64 ((l.getD i (0, ByteArray.empty)).1 : Int)) ∧ (pcs l)[i * 2 + 1]? = some (.string (l.getD i (0, ByteArray.empty)).2)
  | [], i, h => absurd h (by simp)
  | p :: r, 0, _ => ⟨rfl, rfl⟩
  | p :: r, i + 1, h => by
    have := pcs_get (l := r) (i := i) (by simpa using h)
    have e : pcs (p :: r) = .int .i64 (p.1 : Int) :: .string p.2 :: pcs r := rfl
    rw [e, show (i + 1) * 2 = i * 2 + 1 + 1 by omega]
    simpa using this
/-- what a world holds of a disk: g its block, F all its blocks -/
def DiskAt (w : World) (g : Nat) (F : List Nat) (D : Dk) : Prop :=
  ∃ (gd gv : Nat) (pv : Value), F = g :: gd :: gv :: pv.ownBlock.toList ∧ (g ≠ gd ∧ g ≠ gv ∧ gd ≠ gv) ∧ (∀ k, pv.ownBlock = some k → k ≠ g ∧ k ≠ gd ∧ k ≠ gv) ∧
    w.heap[g]? = some (.cells #[.bool D.off, .int .i64 D.left, .slice (some ⟨gd, 0, none⟩) D.sure.length D.sure.length, .slice (some ⟨gv, 0, none⟩) D.sure.length D.sure.length, pv] 65 (0, 0)) ∧
    RowB 5 w gd D.sure ∧ RowB 5 w gv D.vis ∧ w.ownsRow 0 69 2 pv D.pend.length (pcs D.pend) ∧ Ok D
theorem DiskAt.kept {S : List Nat} {w w' : World} {g : Nat} {F : List Nat} {D : Dk} (h : DiskAt w g F D) (k : Kept S w w') (hd : ∀ x ∈ F, x ∉ S) : DiskAt w' g F D := by
  obtain ⟨gd, gv, pv, rfl, h1, h2, hg, hs, hv, ho, hk⟩ := h
  refine ⟨gd, gv, pv, rfl, h1, h2, k.heap hg (hd g (by simp)), hs.kept k (hd gd (by simp)), hv.kept k (hd gv (by simp)), k.own ho fun x hx => hd x ?_, hk⟩
  exact List.mem_cons_of_mem _ (List.mem_cons_of_mem _ (List.mem_cons_of_mem _ (mem_own hx)))
theorem DiskAt.below {w w' : World} {g : Nat} {F : List Nat} {D : Dk} (h : DiskAt w g F D) (k : Below w.heap.size w w') : DiskAt w' g F D := h.kept (Kept.of_below k) (fun _ _ h => by cases h)
theorem DiskAt.lt {w : World} {g : Nat} {F : List Nat} {D : Dk} (h : DiskAt w g F D) : ∀ x ∈ F, x < w.heap.size := by
  obtain ⟨gd, gv, pv, rfl, h1, h2, hg, hs, hv, ho, hk⟩ := h
  intro x hx
  simp only [List.mem_cons] at hx
  rcases hx with rfl | rfl | rfl | hx
  · exact hlt hg
  · exact hlt hs
  · exact hlt hv
  · exact (ho.lt x (own_mem hx)).2
theorem DiskAt.ok {w : World} {g : Nat} {F : List Nat} {D : Dk} (h : DiskAt w g F D) : Ok D := by
  obtain ⟨_, _, _, _, _, _, _, _, _, _, hk⟩ := h
  exact hk
theorem DiskAt.head {w : World} {g : Nat} {F : List Nat} {D : Dk} (h : DiskAt w g F D) : g ∈ F := by
  obtain ⟨_, _, _, rfl, _⟩ := h
  simp
theorem pend_len {w : World} {n : Nat} {t : TypeId} {v : Value} {xs : List Value} (h : w.ownsRow 0 t 2 v n xs) : ∃ a c, v = .slice a n c := by
  rcases h.2 with ⟨h', rfl⟩ | ⟨gp, cap, _, h', _⟩
  · exact ⟨_, _, h'⟩
  · exact ⟨_, _, h'⟩
theorem size_nil (w : World) : Calls Try.prog 16 #[.pointer none] w fun e w' => e = .returned (.int .i64 0) ∧ w = w' := by
  go_enter Try.func16, Try.ntmps16
  go_wp2_with fail
  go_ret
  exact ⟨rfl, rfl⟩
theorem size_any (g : Nat) (F : List Nat) (D : Dk) (w : World) (h : DiskAt w g F D) : Calls Try.prog 16 #[.pointer (some ⟨g, 0, none⟩)] w fun e w' => e = .returned (.int .i64 (D.sure.length : Int)) ∧ w = w' := by
  obtain ⟨gd, gv, pv, rfl, h1, h2, hg, hs, hv, ho, hk⟩ := h
  have c2 := (cells5 hg).2.2.1
  clear hg hs hv ho hk h1 h2
  go_enter Try.func16, Try.ntmps16
  go_wp2_with fail
  go_ret
  exact ⟨rfl, rfl⟩
theorem pending_nil (w : World) : Calls Try.prog 17 #[.pointer none] w fun e w' => e = .returned (.int .i64 0) ∧ w = w' := by
  go_enter Try.func17, Try.ntmps17
  go_wp2_with fail
  go_ret
  exact ⟨rfl, rfl⟩
theorem pending_any (g : Nat) (F : List Nat) (D : Dk) (w : World) (h : DiskAt w g F D) : Calls Try.prog 17 #[.pointer (some ⟨g, 0, none⟩)] w fun e w' => e = .returned (.int .i64 (D.pend.length : Int)) ∧ w = w' := by
  obtain ⟨gd, gv, pv, rfl, h1, h2, hg, hs, hv, ho, hk⟩ := h
  have c4 := (cells5 hg).2.2.2.2
  obtain ⟨a, c, rfl⟩ := pend_len ho
  clear hg hs hv ho hk h1 h2
  go_enter Try.func17, Try.ntmps17
  go_wp2_with fail
  go_ret
  exact ⟨rfl, rfl⟩
theorem read_nil (o n : Int) (w : World) : Calls Try.prog 14 #[.pointer none, .int .i64 o, .int .i64 n] w fun e w' => e = .returned (.tuple #[.string ByteArray.empty, .int .i64 1]) ∧ w = w' := by
  go_enter Try.func14, Try.ntmps14
  go_wp2_with (go_at_call 28; refine (check_nil _).mono ?_; rintro e w1 ⟨rfl, rfl⟩)
  go_ret2
  exact ⟨rfl, rfl⟩
theorem read_off (o n : Int) (g : Nat) (F : List Nat) (D : Dk) (w : World) (h : DiskAt w g F D) (ho : D.off = true) : Calls Try.prog 14 #[.pointer (some ⟨g, 0, none⟩), .int .i64 o, .int .i64 n] w fun e w' => e = .returned (.tuple #[.string ByteArray.empty, .int .i64 331]) ∧ w = w' := by
  obtain ⟨gd, gv, pv, rfl, h1, h2, hg, hs, hv, hp, hk⟩ := h
  have c0 := (cells5 hg).1
  rw [ho] at c0
  have H0 := Lib.hid c0
  clear hg hs hv hp hk h1 h2 c0 ho
  go_enter Try.func14, Try.ntmps14
  go_wp2_with (go_at_call 28; refine (check_off _ _ H0.out).mono ?_; rintro e w1 ⟨rfl, rfl⟩)
  go_ret2
  exact ⟨rfl, rfl⟩
theorem read_out (o n : Int) (g : Nat) (F : List Nat) (D : Dk) (w : World) (h : DiskAt w g F D) (ho : D.off = false) (hi : inB D.sure.length o n = false) : Calls Try.prog 14 #[.pointer (some ⟨g, 0, none⟩), .int .i64 o, .int .i64 n] w fun e w' => e = .returned (.tuple #[.string ByteArray.empty, .int .i64 330]) ∧ w = w' := by
  obtain ⟨gd, gv, pv, rfl, h1, h2, hg, hs, hv, hp, hk⟩ := h
  have c0 := (cells5 hg).1
  rw [ho] at c0
  have H0 := Lib.hid c0
  have H2 := Lib.hid (cells5 hg).2.2.1
  have Hi := Lib.hid hi
  have hm := hk.max
  clear hg hs hv hp hk h1 h2 c0 ho hi
  go_enter Try.func14, Try.ntmps14
  go_wp2_with (first | (go_at_call 28; refine (check_ok _ _ H0.out).mono ?_; rintro e w1 ⟨rfl, rfl⟩) | (go_at_call 29; refine (inside_any _ _ _ _ _ _ _ H2.out (by omega)).mono ?_; rintro e w1 ⟨rfl, rfl⟩; rw [Hi.out]))
  go_ret2
  exact ⟨rfl, rfl⟩
theorem strOf_sof (l : List UInt8) : strOfNums (l.map fun b : UInt8 => ((b.toNat : Nat) : Int)) = sof l := by
  have h := strOfNums_data (l.map fun b : UInt8 => ((b.toNat : Nat) : Int))
  have e : (l.map fun b : UInt8 => ((b.toNat : Nat) : Int)).map (fun n : Int => UInt8.ofNat n.toNat) = l := by
    rw [List.map_map]
    conv => rhs; rw [← List.map_id l]
    exact List.map_congr_left fun b _ => by simp
  rw [e] at h
  have h2 := sof_bts (strOfNums (l.map fun b : UInt8 => ((b.toNat : Nat) : Int)))
  rw [bts, h] at h2
  exact h2.symm
theorem conv_row {w : World} {g : Nat} {L : List UInt8} (h : RowB 5 w g L) (o n c : Nat) (ho : o + n ≤ L.length) :
    (convert 40 9 (.slice (some ⟨g, o, none⟩) n c)).run Try.prog w = .ok (.string (sof ((L.drop o).take n))) w := by
  rw [run_convert_bytes_arg (P := Try.prog) w 40 5 Try.underlying40 Try.underlying5 g o n c (((L.drop o).take n).map fun b : UInt8 => ((b.toNat : Nat) : Int)) (by simp; omega) (fun i hi => ?_) 9 Try.underlying9, strOf_sof]
  rw [h.cell (show o + i < L.length by omega)]
  simp [List.getD, hi, show o + i < L.length by omega]
set_option maxRecDepth 100000 in
theorem read_in (o n : Nat) (g : Nat) (F : List Nat) (D : Dk) (w : World) (h : DiskAt w g F D) (ho : D.off = false) (hi : o + n ≤ D.sure.length) : Calls Try.prog 14 #[.pointer (some ⟨g, 0, none⟩), .int .i64 (o : Int), .int .i64 (n : Int)] w fun e w' => e = .returned (.tuple #[.string (sof ((D.vis.drop o).take n)), .int .i64 0]) ∧ w = w' := by
  have Hi := Lib.hid (inB_iff.2 ⟨by omega, by omega, by omega, by omega⟩ : inB D.sure.length (o : Int) (n : Int) = true)
  obtain ⟨gd, gv, pv, rfl, h1, h2, hg, hs, hv, hp, hk⟩ := h
  have c0 := (cells5 hg).1
  rw [ho] at c0
  have H0 := Lib.hid c0
  have H2 := Lib.hid (cells5 hg).2.2.1
  have c3 := (cells5 hg).2.2.2.1
  have hm := hk.max
  have Hl := Lib.hid hk.len
  have HV := Lib.hid hv
  clear hg hs hv hp hk h1 h2 c0 ho
  have o1 : (o : Int) ≤ (D.sure.length : Int) := by omega
  have o2 : (0 : Int) ≤ (o : Int) := by omega
  have o3 : (0 : Int) ≤ (n : Int) := by omega
  by_cases hlt : o < D.sure.length
  · have hcv := conv_row HV.out o n (D.sure.length - o) (by rw [Hl.out]; exact hi)
    have o4 : n ≤ D.sure.length - o := by omega
    go_enter Try.func14, Try.ntmps14
    go_wp2_with (first | (go_at_call 28; refine (check_ok _ _ H0.out).mono ?_; rintro e w1 ⟨rfl, rfl⟩) | (go_at_call 29; refine (inside_any _ _ _ _ _ _ _ H2.out (by omega)).mono ?_; rintro e w1 ⟨rfl, rfl⟩; rw [Hi.out]))
    go_ret2
    exact ⟨rfl, rfl⟩
  · obtain rfl : n = 0 := by omega
    rw [show ((0 : Nat) : Int) = 0 from rfl] at Hi ⊢
    obtain ⟨m, hm2⟩ : ∃ m, D.sure.length = m := ⟨_, rfl⟩
    rw [hm2] at H2 c3 hm o1 hlt hi Hl Hi
    obtain rfl : o = m := by omega
    have hcv := conv_row HV.out 0 0 0 (by omega)
    rw [show sof ((D.vis.drop 0).take 0) = sof ((D.vis.drop o).take 0) by simp] at hcv
    have Hc := Lib.hid hm2
    clear hm2
    go_enter Try.func14, Try.ntmps14
    go_wp2_with (first | (go_at_call 28; refine (check_ok _ _ H0.out).mono ?_; rintro e w1 ⟨rfl, rfl⟩) | (go_at_call 29; refine (inside_any _ _ _ _ _ _ _ H2.out (by omega)).mono ?_; rintro e w1 ⟨rfl, rfl⟩; rw [Hi.out]))
    go_ret2
    exact ⟨rfl, rfl⟩
end Go.Proofs.Ytndfakbklfidhaa
