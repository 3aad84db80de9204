/- The reference disk: Cut, Read, Sync. -/
import Derived.Test.YtndfakbklfidhaaRefVis
namespace Go.Proofs.Ytndfakbklfidhaa
open Go.RowKit Dsk
def RTurn (h : Nat) (G : List Nat) (D' : Dk) (v : Value) (w : World) (e : Ending) (w' : World) : Prop := ∃ G' : List Nat, e = .returned v ∧ RefAt w' h G' D' ∧ Kept G w w' ∧ New w G G'
theorem RefAt.down {w : World} {h : Nat} {G : List Nat} {D : Dk} (hR : RefAt w h G D) : w.cell? ⟨h, 2, none⟩ = some (.bool D.off) := by
  obtain ⟨_, _, _, _, _, _, hg, _⟩ := hR
  exact (cells4 hg).2.2.1
theorem RefAt.row {w : World} {h : Nat} {G : List Nat} {D : Dk} (hR : RefAt w h G D) : ∃ gs cs, w.cell? ⟨h, 0, none⟩ = some (.slice (some ⟨gs, 0, none⟩) D.sure.length cs) := by
  obtain ⟨gs, cs, _, _, _, _, hg, _⟩ := hR
  exact ⟨gs, cs, (cells4 hg).1⟩
theorem rcut_off (n : Int) (h : Nat) (G : List Nat) (D : Dk) (w : World) (hR : RefAt w h G D) (ho : D.off = true) : Calls Try.prog 32 #[.pointer (some ⟨h, 0, none⟩), .int .i64 n] w fun e w' => e = .returned (.int .i64 331) ∧ w = w' := by
  have c2 := hR.down
  rw [ho] at c2
  clear hR ho
  go_enter Try.func32, Try.ntmps32
  go_wp2_with fail
  go_ret
  exact ⟨rfl, rfl⟩
theorem rcut_neg (n : Int) (h : Nat) (G : List Nat) (D : Dk) (w : World) (hR : RefAt w h G D) (ho : D.off = false) (hn : n < 0) : Calls Try.prog 32 #[.pointer (some ⟨h, 0, none⟩), .int .i64 n] w fun e w' => e = .returned (.int .i64 2) ∧ w = w' := by
  have c2 := hR.down
  rw [ho] at c2
  clear hR ho
  go_enter Try.func32, Try.ntmps32
  go_wp2_with fail
  go_ret
  exact ⟨rfl, rfl⟩
theorem rcut_yes (n : Int) (h : Nat) (G : List Nat) (D : Dk) (w : World) (hR : RefAt w h G D) (ho : D.off = false) (h0 : 0 ≤ n) (hm : n ≤ 9223372036854775807) : Calls Try.prog 32 #[.pointer (some ⟨h, 0, none⟩), .int .i64 n] w (RTurn h G (cu D n) (.int .i64 0) w) := by
  have HR := Lib.hid hR
  have c2 := hR.down
  rw [ho] at c2
  obtain ⟨gs, cs, pv, rfl, h1, h2, hg, hs, hp, hk, hc⟩ := hR
  have c3 := (cells4 hg).2.2.2
  have f2 := frozen_of_row w h 2 _ _ hg
  have f3 := frozen_of_row w h 3 _ _ hg
  have h00 : ¬ n < 0 := by omega
  have HG := Lib.hid hg
  have HS := Lib.hid hs
  have HP := Lib.hid hp
  have HK := Lib.hid hk
  have H2 := Lib.hid h2
  clear hg hs hp hk h2 ho
  go_enter Try.func32, Try.ntmps32
  go_wp2_with fail
  go_ret
  have KP : Kept [h] w ((w.setCell ⟨h, 3, none⟩ (.int .i64 n)).setCell ⟨h, 2, none⟩ (.bool (n == 0))) := ((Kept.refl _ _).setCell (.inl (by simp)) _).setCell (.inl (by simp)) _
  have q0 := heap_setCell_same w h 3 _ _ (.int .i64 n) HG.out
  have q1 := heap_setCell_same _ h 2 _ _ (.bool (n == 0)) q0
  refine ⟨_, rfl, ⟨gs, cs, pv, rfl, h1, H2.out, by simpa [cu] using q1, HS.out.kept KP (by simpa using fun e => h1 e.symm), KP.own HP.out (fun k hk => by simpa using (H2.out k hk).1), ok_cu HK.out h0 hm, hc⟩, KP.mono (by simp), New.refl _ _⟩
theorem rread_off (o n : Int) (h : Nat) (G : List Nat) (D : Dk) (w : World) (hR : RefAt w h G D) (ho : D.off = true) : Calls Try.prog 20 #[.pointer (some ⟨h, 0, none⟩), .int .i64 o, .int .i64 n] w fun e w' => e = .returned (.tuple #[.string ByteArray.empty, .int .i64 331]) ∧ w = w' := by
  have c2 := hR.down
  rw [ho] at c2
  clear hR ho
  go_enter Try.func20, Try.ntmps20
  go_wp2_with fail
  go_ret2
  exact ⟨rfl, rfl⟩
theorem rread_out (o n : Int) (h : Nat) (G : List Nat) (D : Dk) (w : World) (hR : RefAt w h G D) (ho : D.off = false) (hi : inB D.sure.length o n = false) : Calls Try.prog 20 #[.pointer (some ⟨h, 0, none⟩), .int .i64 o, .int .i64 n] w fun e w' => e = .returned (.tuple #[.string ByteArray.empty, .int .i64 330]) ∧ w = w' := by
  have c2 := hR.down
  rw [ho] at c2
  obtain ⟨gs, cs, c0⟩ := hR.row
  have hm := hR.ok.max
  have hi := inB_not hi
  obtain ⟨m, hm2⟩ : ∃ m, D.sure.length = m := ⟨_, rfl⟩
  rw [hm2] at c0 hm hi
  clear hR ho hm2
  rcases (show o < 0 ∨ (0 ≤ o ∧ n < 0) ∨ (0 ≤ o ∧ 0 ≤ n ∧ (m : Int) < o) ∨ (0 ≤ o ∧ 0 ≤ n ∧ o ≤ (m : Int) ∧ (m : Int) - o < n) by omega) with j | ⟨j1, j2⟩ | ⟨j1, j2, j3⟩ | ⟨j1, j2, j3, j4⟩
  all_goals
    clear hi
    go_enter Try.func20, Try.ntmps20
    go_wp2_with fail
    go_ret2
    exact ⟨rfl, rfl⟩
theorem conv_rowX {w : World} {g : Nat} {L : List UInt8} (h : RowX 5 w g L) (o n c : Nat) (ho : o + n ≤ L.length) :
    (convert 40 9 (.slice (some ⟨g, o, none⟩) n c)).run Try.prog w = .ok (.string (sof ((L.drop o).take n))) w := by
  rw [run_convert_bytes_arg (P := Try.prog) w 40 5 Try.underlying40 Try.underlying5 g o n c (((L.drop o).take n).map fun b : UInt8 => ((b.toNat : Nat) : Int)) (by simp; omega) (fun i hi => ?_) 9 Try.underlying9, strOf_sof]
  rw [h.cell (show o + i < L.length by omega)]
  simp [List.getD, hi, show o + i < L.length by omega]
set_option maxRecDepth 100000 in
theorem rread_in (o n : Nat) (h : Nat) (G : List Nat) (D : Dk) (w : World) (hR : RefAt w h G D) (ho : D.off = false) (hi : o + n ≤ D.sure.length) (hn : 1 ≤ D.sure.length) (hpl : D.pend.length ≤ 1000000) : Calls Try.prog 20 #[.pointer (some ⟨h, 0, none⟩), .int .i64 (o : Int), .int .i64 (n : Int)] w fun e w' => e = .returned (.tuple #[.string (sof (((overs D.sure D.pend).drop o).take n)), .int .i64 0]) ∧ Below w.heap.size w w' := by
  have HR := Lib.hid hR
  have c2 := hR.down
  rw [ho] at c2
  obtain ⟨gs, cs, c0⟩ := hR.row
  have hm := hR.ok.max
  have hvl := Lib.hid (overs_length hR.ok.fit)
  have HN := Lib.hid hn
  have HPL := Lib.hid hpl
  have j1 : (0 : Int) ≤ (o : Int) := by omega
  have j2 : (0 : Int) ≤ (n : Int) := by omega
  have j3 : (o : Int) ≤ (D.sure.length : Int) := by omega
  have j4 : (n : Int) ≤ (D.sure.length : Int) - (o : Int) := by omega
  clear hR ho hn hpl
  go_enter Try.func20, Try.ntmps20
  go_wp2_with fail
  refine (visible_any h G D _ HR.out HN.out HPL.out).mono ?_
  rintro e w1 ⟨g, c, rfl, hrow, hg1, hc1, hb⟩
  by_cases hco : c = o
  · have hn0 : n = 0 := by omega
    have hcv := conv_rowX hrow 0 n 0 (by rw [hvl.out]; omega)
    rw [show sof (((overs D.sure D.pend).drop 0).take n) = sof (((overs D.sure D.pend).drop o).take n) by rw [hn0]; simp] at hcv
    clear hn0
    go_wp2_with fail
    go_ret2
    exact ⟨rfl, hb⟩
  · have hcv := conv_rowX hrow o n (c - o) (by rw [hvl.out]; exact hi)
    go_wp2_with fail
    go_ret2
    exact ⟨rfl, hb⟩
set_option maxRecDepth 100000 in
theorem rsync_off (h : Nat) (G : List Nat) (D : Dk) (w : World) (hR : RefAt w h G D) (ho : D.off = true) : Calls Try.prog 31 #[.pointer (some ⟨h, 0, none⟩)] w fun e w' => e = .returned (.int .i64 331) ∧ w = w' := by
  have c2 := hR.down
  rw [ho] at c2
  clear hR ho
  go_enter Try.func31, Try.ntmps31
  go_wp2_with fail
  go_ret
  exact ⟨rfl, rfl⟩
theorem rsync_ok (h : Nat) (G : List Nat) (D : Dk) (w : World) (hR : RefAt w h G D) (ho : D.off = false) (hv : Vis D) (hn : 1 ≤ D.sure.length) (hpl : D.pend.length ≤ 1000000) : Calls Try.prog 31 #[.pointer (some ⟨h, 0, none⟩)] w (RTurn h G (sy D) (.int .i64 0) w) := by
  have HR := Lib.hid hR
  have HV := Lib.hid hv
  have c2 := hR.down
  rw [ho] at c2
  have HK := Lib.hid hR.ok
  have HGL := Lib.hid hR.lt
  obtain ⟨gs, cs, pv, rfl, h1, h2, hg, hs, hp, hk, hc⟩ := hR
  have HG := Lib.hid hg
  have lh := hlt hg
  clear hg hs hp hk h2 ho hv
  go_enter Try.func31, Try.ntmps31
  go_wp2_with fail
  refine (visible_any h _ D _ HR.out hn hpl).mono ?_
  rintro e w1 ⟨g, c, rfl, hrow, hg1, hc1, hb⟩
  have q0 := (Kept.of_below hb).heap HG.out (by simp)
  have k0 := (cells4 q0).1
  have k1 := (cells4 q0).2.1
  have f0 := frozen_of_row w1 h 0 _ _ q0
  have f1 := frozen_of_row w1 h 1 _ _ q0
  have Q0 := Lib.hid q0
  have HRW := Lib.hid hrow
  have HB := Lib.hid hb
  clear q0 hrow hb
  go_wp2_with fail
  go_ret
  have hln := HK.out.len
  have s0 := heap_setCell_same w1 h 0 _ _ (.slice (some ⟨g, 0, none⟩) D.sure.length c) Q0.out
  have s1 := heap_setCell_same _ h 1 _ _ (.slice none 0 0) s0
  have K1 : Kept [h] w1 ((w1.setCell ⟨h, 0, none⟩ (.slice (some ⟨g, 0, none⟩) D.sure.length c)).setCell ⟨h, 1, none⟩ (.slice none 0 0)) := ((Kept.refl _ _).setCell (.inl (by simp)) _).setCell (.inl (by simp)) _
  have K3 : Kept [h] w ((w1.setCell ⟨h, 0, none⟩ (.slice (some ⟨g, 0, none⟩) D.sure.length c)).setCell ⟨h, 1, none⟩ (.slice none 0 0)) := ((Kept.of_below HB.out).mono (fun _ h => by cases h)).trans K1 (New.refl _ _)
  refine ⟨[h, g], rfl, ⟨g, c, .slice none 0 0, rfl, by omega, fun k hk => (by cases hk), ?_, ?_, World.ownsRow_nil _ _ _ _, ok_sy HK.out, ?_⟩, K3.mono (by simp), ?_⟩
  · show _ = some (Obj.cells #[Value.slice (some ⟨g, 0, none⟩) D.vis.length c, .slice none 0 0, .bool D.off, .int .i64 D.left] 43 (0, 0))
    rw [hln]
    simpa using s1
  · show RowX _ _ g D.vis
    rw [HV.out]
    exact HRW.out.kept K1 (by simp; omega)
  · show D.vis.length ≤ c
    rw [hln]; exact hc1
  · intro k hk
    simp only [List.mem_cons, List.not_mem_nil, or_false] at hk
    rcases hk with rfl | rfl
    · exact .inl (by simp)
    · exact .inr hg1
end Go.Proofs.Ytndfakbklfidhaa
