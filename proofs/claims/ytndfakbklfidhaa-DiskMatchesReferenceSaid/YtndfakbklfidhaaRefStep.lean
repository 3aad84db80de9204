/- A disk and a reference disk side by side; the law's step. -/
import Derived.Test.YtndfakbklfidhaaRefCrash
import Derived.Test.YtndfakbklfidhaaDiskTrio
import Derived.Test.YtndfakbklfidhaaDiskCrash
namespace Go.Proofs.Ytndfakbklfidhaa
open Go.RowKit Dsk
structure Duo (w0 w : World) (g h : Nat) (F G : List Nat) (D E : Dk) : Prop where
  d : DiskAt w g F D
  r : RefAt w h G E
  f : ∀ x ∈ F, w0.heap.size ≤ x
  g : ∀ x ∈ G, w0.heap.size ≤ x
  dis : Apart F G
  below : Below w0.heap.size w0 w
section
variable {w0 w w' : World} {g h : Nat} {F G F' : List Nat} {D E D' : Dk}
theorem Duo.quiet (t : Duo w0 w g h F G D E) (k : Below w.heap.size w w') : Duo w0 w' g h F G D E := ⟨t.d.below k, t.r.below k, t.f, t.g, t.dis, below_next t.below k⟩
theorem Duo.drew (t : Duo w0 w g h F G D E) : Duo w0 w.drew g h F G D E := t.quiet (Below.refl _ _).drew
theorem Duo.t1 (t : Duo w0 w g h F G D E) (d : DiskAt w' g F' D') (k : Kept F w w') (n : New w F F') : Duo w0 w' g h F' G D' E := by
  obtain ⟨q1, q2⟩ := turn_next t.below t.f k n
  exact ⟨d, t.r.kept k t.dis.symm, q2, t.g, t.dis.new n t.r.lt, q1⟩
theorem Duo.t2 (t : Duo w0 w g h F G D E) (d : RefAt w' h F' D') (k : Kept G w w') (n : New w G F') : Duo w0 w' g h F F' D D' := by
  obtain ⟨q1, q2⟩ := turn_next t.below t.g k n
  exact ⟨t.d.kept k t.dis, d, t.f, q2, (t.dis.symm.new n t.d.lt).symm, q1⟩
theorem Duo.out (t : Duo w0 w g h F G D E) {b : Nat} (hb : w.heap.size ≤ b) : b ∉ F ∧ b ∉ G := ⟨fun e => by have := t.d.lt b e; omega, fun e => by have := t.r.lt b e; omega⟩
end
/-- what both disks are behind a call -/
def StepQ (w0 : World) (g h n k : Nat) (e : Ending) (w' : World) : Prop := ∃ (F G : List Nat) (D : Dk), e = .returned (.bool true) ∧ Duo w0 w' g h F G D D ∧ Vis D ∧ D.sure.length = n ∧ D.pend.length ≤ k + 1
set_option maxRecDepth 100000 in
set_option maxHeartbeats 2000000 in
theorem step_any (w0 : World) (g h n k : Nat) (F G : List Nat) (D : Dk) (call off m : Int) (s : ByteArray) (A : Option Addr) (cap : Nat) (keep : List Int) (w : World) (hT : Duo w0 w g h F G D D) (hV : Vis D) (hn : D.sure.length = n) (hn1 : 1 ≤ n) (hk : D.pend.length ≤ k) (hk2 : k ≤ 1000)
    (hcall : I64 call) (hoff : I64 off) (hm : I64 m) (hs : (s.size : Int) ≤ 9223372036854775807) (hA : IntsAt w0 A keep) (hkc : keep.length ≤ cap) (hcap : (cap : Int) ≤ 9223372036854775807) :
    Calls Try.prog 19 #[.pointer (some ⟨g, 0, none⟩), .pointer (some ⟨h, 0, none⟩), .agg #[.int .i64 call, .int .i64 off, .int .i64 m, .string s, .slice A keep.length cap]] w (StepQ w0 g h n k) := by
  have T := Lib.hid hT
  have HV := Lib.hid hV
  have HN := Lib.hid hn
  have HA := Lib.hid hA
  have HOF := Lib.hid hoff
  have HM := Lib.hid hm
  have HM2 := Lib.hid (show m ≤ 9223372036854775807 from hm.2)
  clear hT hV hn hA hoff hm
  have hc := pk_lt call (n := 6) (by omega)
  obtain ⟨c, hce⟩ : ∃ c, pk call 6 = c := ⟨_, rfl⟩
  rw [hce] at hc
  have HC := Lib.hid hce
  clear hce
  go_enter Try.func19, Try.ntmps19
  go_wp2_with fail
  refine (pick_any call 6 _ hcall (by omega) (by omega)).mono ?_
  rintro e w1 ⟨rfl, rfl⟩
  rw [HC.out]
  obtain ⟨W, hW⟩ : ∃ W, w.alloc (.cells #[.int .i64 call, .int .i64 off, .int .i64 m, .string s, .slice A keep.length cap] 39) = W := ⟨_, rfl⟩
  have x1 : W.cell? ⟨w.heap.size, 1, none⟩ = some (.int .i64 off) := by rw [← hW]; exact new_cell rfl
  have x2 : W.cell? ⟨w.heap.size, 2, none⟩ = some (.int .i64 m) := by rw [← hW]; exact new_cell rfl
  have x3 : W.cell? ⟨w.heap.size, 3, none⟩ = some (.string s) := by rw [← hW]; exact new_cell rfl
  have x4 : W.cell? ⟨w.heap.size, 4, none⟩ = some (.slice A keep.length cap) := by rw [← hW]; exact new_cell rfl
  have bW : Below w.heap.size w W := by rw [← hW]; exact below_alloc (Below.refl _ _) _
  have hx := Lib.hid (T.out.out (Nat.le_refl _))
  replace T := Lib.hid (T.out.quiet bW)
  obtain ⟨bx, hbx⟩ : ∃ bx, w.heap.size = bx := ⟨_, rfl⟩
  rw [hbx] at x1 x2 x3 x4 hx ⊢
  rw [hW]
  have lx := lt_size x1
  clear hW bW hbx HC
  have hm4 := T.out.d.ok.max
  by_cases h5 : c = 5
  · subst h5
    obtain ⟨kk, hkk⟩ : ∃ kk, keep.take 100 = kk := ⟨_, rfl⟩
    have hkl : kk.length = min keep.length 100 := by rw [← hkk, List.length_take]; omega
    have hmin : (min (keep.length : Int) 100).toNat = kk.length := by omega
    have hAk : IntsAt w0 A kk := fun i hi => by
      obtain ⟨b, o, e, hc⟩ := HA.out i (by omega)
      refine ⟨b, o, e, ?_⟩
      rw [hc, ← hkk, List.getD, List.getD, List.getElem?_take, if_pos (by omega)]
    have HMN := Lib.hid hmin
    have HAK := Lib.hid hAk
    have hkl2 : kk.length ≤ 100 := by omega
    have hm1 : (keep.length : Int) ≤ (cap : Int) := by omega
    have hm2 : (0 : Int) ≤ min (keep.length : Int) 100 := by omega
    have hm3 : min (keep.length : Int) 100 ≤ (cap : Int) := by omega
    clear hkk hkl hmin hAk
    go_wp2_with fail
    rw [HMN.out]
    refine (rcrash_any h G D A cap kk m _ T.out.r (HAK.out.then_ T.out.below) (by omega) HM.out.2 (by omega)).mono ?_
    rintro e w2 ⟨G1, rfl, d6, k6, n6⟩
    have y2 := k6.cell x2 hx.out.2
    have T1 := Lib.hid (T.out.t2 d6 k6 n6)
    clear d6 k6 n6 x1 x2 x3 x4
    go_wp2_with fail
    refine (crash_any g F D A cap kk m _ T1.out.d (HAK.out.then_ T1.out.below) (by omega) HM.out.2 (by omega)).mono ?_
    rintro e w3 ⟨F1, rfl, d5, k5, n5⟩
    have hcl := cr_length T1.out.d.ok kk m
    have T2 := Lib.hid (T1.out.t1 d5 k5 n5)
    clear d5 k5 n5
    go_wp2_with fail
    go_ret
    exact ⟨F1, G1, cr D kk m, rfl, T2.out, vis_cr D kk m, by rw [hcl]; exact HN.out, by simp [cr]⟩
  cases ho : D.off with
  | true =>
    have HO := Lib.hid ho
    clear ho
    rcases (show c = 0 ∨ c = 1 ∨ c = 2 ∨ c = 3 ∨ c = 4 by omega) with rfl | rfl | rfl | rfl | rfl
    · have tt : True := trivial
      go_wp2_with fail
      refine (cut_any s 300 _ hs (by omega)).mono ?_
      rintro e w2 ⟨rfl, rfl⟩
      have hs2 : (cutS s 300).size ≤ 300 := by rw [cutS_size]; omega
      obtain ⟨s2, hse⟩ : ∃ s2, cutS s 300 = s2 := ⟨_, rfl⟩
      rw [hse] at hs2 ⊢
      go_wp2_with fail
      have hs1 : W.drew.cell? ⟨bx, 1, none⟩ = some (.int .i64 off) := x1
      have T0 := Lib.hid T.out.drew
      go_region_held3 (fun w' => w'.cell? ⟨bx, 1, none⟩ = some (.int .i64 off)) ((first | exact hs1)) (first | (go_at_call 21; (with_reducible refine (write_off off s2 g F D _ T0.out.d HO.out).mono ?_); rintro e w5 ⟨rfl, rfl⟩) | (go_at_call 30; (with_reducible refine (rwrite_off off s2 h G D _ T0.out.r HO.out).mono ?_); rintro e w5 ⟨rfl, rfl⟩))
      all_goals
        go_wp2_with fail
        go_ret
        exact ⟨F, G, D, rfl, T0.out, HV.out, HN.out, by omega⟩
    · have tt : True := trivial
      go_wp2_with fail
      refine (cut_any s 300 _ hs (by omega)).mono ?_
      rintro e w2 ⟨rfl, rfl⟩
      have hs2 : (cutS s 300).size ≤ 300 := by rw [cutS_size]; omega
      obtain ⟨s2, hse⟩ : ∃ s2, cutS s 300 = s2 := ⟨_, rfl⟩
      rw [hse] at hs2 ⊢
      go_wp2_with fail
      have hs1 : W.drew.cell? ⟨bx, 1, none⟩ = some (.int .i64 off) := x1
      have T0 := Lib.hid T.out.drew
      go_region_held3 (fun w' => w'.cell? ⟨bx, 1, none⟩ = some (.int .i64 off)) ((first | exact hs1)) (first | (go_at_call 21; (with_reducible refine (write_off off s2 g F D _ T0.out.d HO.out).mono ?_); rintro e w5 ⟨rfl, rfl⟩) | (go_at_call 30; (with_reducible refine (rwrite_off off s2 h G D _ T0.out.r HO.out).mono ?_); rintro e w5 ⟨rfl, rfl⟩))
      all_goals
        go_wp2_with fail
        go_ret
        exact ⟨F, G, D, rfl, T0.out, HV.out, HN.out, by omega⟩
    · have tt : True := trivial
      go_wp2_with fail
      refine (sync_off g F D _ T.out.d HO.out).mono ?_
      rintro e w2 ⟨rfl, rfl⟩
      go_wp2_with fail
      refine (rsync_off h G D _ T.out.r HO.out).mono ?_
      rintro e w2 ⟨rfl, rfl⟩
      go_wp2_with fail
      go_ret
      exact ⟨F, G, D, rfl, T.out, HV.out, HN.out, by omega⟩
    · have tt : True := trivial
      go_wp2_with fail
      refine (read_off off m g F D _ T.out.d HO.out).mono ?_
      rintro e w2 ⟨rfl, rfl⟩
      go_wp2_with fail
      refine (rread_off off m h G D _ T.out.r HO.out).mono ?_
      rintro e w2 ⟨rfl, rfl⟩
      go_wp2_with fail
      go_ret
      exact ⟨F, G, D, rfl, T.out, HV.out, HN.out, by omega⟩
    · have tt : True := trivial
      go_wp2_with fail
      have hs1 : W.drew.cell? ⟨bx, 2, none⟩ = some (.int .i64 m) := x2
      have T0 := Lib.hid T.out.drew
      go_region_held3 (fun w' => w'.cell? ⟨bx, 2, none⟩ = some (.int .i64 m)) ((first | exact hs1)) (first | (go_at_call 24; (with_reducible refine (cut_off m g F D _ T0.out.d HO.out).mono ?_); rintro e w5 ⟨rfl, rfl⟩) | (go_at_call 32; (with_reducible refine (rcut_off m h G D _ T0.out.r HO.out).mono ?_); rintro e w5 ⟨rfl, rfl⟩))
      all_goals
        go_wp2_with fail
        go_ret
        exact ⟨F, G, D, rfl, T0.out, HV.out, HN.out, by omega⟩
  | false =>
    have HO := Lib.hid ho
    clear ho
    rcases (show c = 0 ∨ c = 1 ∨ c = 2 ∨ c = 3 ∨ c = 4 by omega) with rfl | rfl | rfl | rfl | rfl
    · have tt : True := trivial
      go_wp2_with fail
      refine (cut_any s 300 _ hs (by omega)).mono ?_
      rintro e w2 ⟨rfl, rfl⟩
      have hs2 : (cutS s 300).size ≤ 300 := by rw [cutS_size]; omega
      obtain ⟨s2, hse⟩ : ∃ s2, cutS s 300 = s2 := ⟨_, rfl⟩
      rw [hse] at hs2 ⊢
      go_wp2_with fail
      have hs1 : W.drew.cell? ⟨bx, 1, none⟩ = some (.int .i64 off) := x1
      have T0 := Lib.hid T.out.drew
      cases hi : inB D.sure.length off (s2.size : Int) with
      | false =>
        have HI := Lib.hid hi
        clear hi
        go_region_held3 (fun w' => w'.cell? ⟨bx, 1, none⟩ = some (.int .i64 off)) ((first | exact hs1)) (first | (go_at_call 21; (with_reducible refine (write_out off s2 g F D _ T0.out.d HO.out HI.out).mono ?_); rintro e w5 ⟨rfl, rfl⟩) | (go_at_call 30; (with_reducible refine (rwrite_out off s2 h G D _ T0.out.r HO.out HI.out).mono ?_); rintro e w5 ⟨rfl, rfl⟩))
        all_goals
          go_wp2_with fail
          go_ret
          exact ⟨F, G, D, rfl, T0.out, HV.out, HN.out, by omega⟩
      | true =>
        obtain ⟨p1, p2, p3, p4⟩ := inB_iff.1 hi
        obtain ⟨o, rfl⟩ : ∃ o : Nat, off = (o : Int) := ⟨off.toNat, by omega⟩
        have HI := Lib.hid (show o + s2.size ≤ D.sure.length by omega)
        have HPL := Lib.hid (show D.pend.length ≤ 1000000 by omega)
        clear hi p1 p2 p3 p4
        go_region_held3 (fun w' => w'.cell? ⟨bx, 1, none⟩ = some (.int .i64 (o : Int))) ((first | exact hs1 | exact y1 | exact z1)) (first | (go_at_call 21; (with_reducible refine (write_in o s2 g F D _ T0.out.d HO.out HI.out HPL.out).mono ?_); rintro e w5 ⟨F1, rfl, d5, k5, n5⟩; have y1 := k5.cell hs1 hx.out.1; have T1 := Lib.hid (T0.out.t1 d5 k5 n5); clear d5 k5 n5) | (go_at_call 30; (with_reducible refine (rwrite_in o s2 h G D _ T1.out.r HO.out HI.out HPL.out).mono ?_); rintro e w6 ⟨G1, rfl, d6, k6, n6⟩; have z1 := k6.cell y1 hx.out.2; have T2 := Lib.hid (T1.out.t2 d6 k6 n6); clear d6 k6 n6))
        all_goals
          go_wp2_with fail
          go_ret
          exact ⟨F1, G1, Dsk.wr D o s2, rfl, T2.out, vis_wr HV.out o s2, HN.out, by show (D.pend ++ [(o, s2)]).length ≤ _; rw [List.length_append]; simp; omega⟩
    · have tt : True := trivial
      go_wp2_with fail
      refine (cut_any s 300 _ hs (by omega)).mono ?_
      rintro e w2 ⟨rfl, rfl⟩
      have hs2 : (cutS s 300).size ≤ 300 := by rw [cutS_size]; omega
      obtain ⟨s2, hse⟩ : ∃ s2, cutS s 300 = s2 := ⟨_, rfl⟩
      rw [hse] at hs2 ⊢
      go_wp2_with fail
      have hs1 : W.drew.cell? ⟨bx, 1, none⟩ = some (.int .i64 off) := x1
      have T0 := Lib.hid T.out.drew
      cases hi : inB D.sure.length off (s2.size : Int) with
      | false =>
        have HI := Lib.hid hi
        clear hi
        go_region_held3 (fun w' => w'.cell? ⟨bx, 1, none⟩ = some (.int .i64 off)) ((first | exact hs1)) (first | (go_at_call 21; (with_reducible refine (write_out off s2 g F D _ T0.out.d HO.out HI.out).mono ?_); rintro e w5 ⟨rfl, rfl⟩) | (go_at_call 30; (with_reducible refine (rwrite_out off s2 h G D _ T0.out.r HO.out HI.out).mono ?_); rintro e w5 ⟨rfl, rfl⟩))
        all_goals
          go_wp2_with fail
          go_ret
          exact ⟨F, G, D, rfl, T0.out, HV.out, HN.out, by omega⟩
      | true =>
        obtain ⟨p1, p2, p3, p4⟩ := inB_iff.1 hi
        obtain ⟨o, rfl⟩ : ∃ o : Nat, off = (o : Int) := ⟨off.toNat, by omega⟩
        have HI := Lib.hid (show o + s2.size ≤ D.sure.length by omega)
        have HPL := Lib.hid (show D.pend.length ≤ 1000000 by omega)
        clear hi p1 p2 p3 p4
        go_region_held3 (fun w' => w'.cell? ⟨bx, 1, none⟩ = some (.int .i64 (o : Int))) ((first | exact hs1 | exact y1 | exact z1)) (first | (go_at_call 21; (with_reducible refine (write_in o s2 g F D _ T0.out.d HO.out HI.out HPL.out).mono ?_); rintro e w5 ⟨F1, rfl, d5, k5, n5⟩; have y1 := k5.cell hs1 hx.out.1; have T1 := Lib.hid (T0.out.t1 d5 k5 n5); clear d5 k5 n5) | (go_at_call 30; (with_reducible refine (rwrite_in o s2 h G D _ T1.out.r HO.out HI.out HPL.out).mono ?_); rintro e w6 ⟨G1, rfl, d6, k6, n6⟩; have z1 := k6.cell y1 hx.out.2; have T2 := Lib.hid (T1.out.t2 d6 k6 n6); clear d6 k6 n6))
        all_goals
          go_wp2_with fail
          go_ret
          exact ⟨F1, G1, Dsk.wr D o s2, rfl, T2.out, vis_wr HV.out o s2, HN.out, by show (D.pend ++ [(o, s2)]).length ≤ _; rw [List.length_append]; simp; omega⟩
    · have tt : True := trivial
      go_wp2_with fail
      have hoky := T.out.d.ok
      refine (sync_ok g F D _ T.out.d HO.out).mono ?_
      rintro e w2 ⟨F1, rfl, d5, k5, n5⟩
      have T1 := Lib.hid (T.out.t1 d5 k5 n5)
      clear d5 k5 n5
      go_wp2_with fail
      refine (rsync_ok h G D _ T1.out.r HO.out HV.out (by rw [HN.out]; exact hn1) (by omega)).mono ?_
      rintro e w2 ⟨G1, rfl, d6, k6, n6⟩
      have T2 := Lib.hid (T1.out.t2 d6 k6 n6)
      clear d6 k6 n6
      go_wp2_with fail
      go_ret
      exact ⟨F1, G1, sy D, rfl, T2.out, vis_sy D, by show D.vis.length = n; rw [hoky.len]; exact HN.out, by simp [sy]⟩
    · have tt : True := trivial
      cases hi : inB D.sure.length off m with
      | false =>
        have HI := Lib.hid hi
        clear hi
        go_wp2_with fail
        refine (read_out off m g F D _ T.out.d HO.out HI.out).mono ?_
        rintro e w2 ⟨rfl, rfl⟩
        go_wp2_with fail
        refine (rread_out off m h G D _ T.out.r HO.out HI.out).mono ?_
        rintro e w2 ⟨rfl, rfl⟩
        go_wp2_with fail
        go_ret
        exact ⟨F, G, D, rfl, T.out, HV.out, HN.out, by omega⟩
      | true =>
        obtain ⟨p1, p2, p3, p4⟩ := inB_iff.1 hi
        obtain ⟨o, rfl⟩ : ∃ o : Nat, off = (o : Int) := ⟨off.toNat, by omega⟩
        obtain ⟨u, rfl⟩ : ∃ u : Nat, m = (u : Int) := ⟨m.toNat, by omega⟩
        have HI := Lib.hid (show o + u ≤ D.sure.length by omega)
        have hvv : D.vis = overs D.sure D.pend := HV.out
        have HVV := Lib.hid hvv
        obtain ⟨Z, hZ⟩ : ∃ Z, sof ((D.vis.drop o).take u) = Z := ⟨_, rfl⟩
        have HZ := Lib.hid hZ
        clear hi p1 p2 p3 p4 hvv hZ
        go_wp2_with fail
        refine (read_in o u g F D _ T.out.d HO.out HI.out).mono ?_
        rintro e w2 ⟨rfl, rfl⟩
        rw [HZ.out]
        go_wp2_with fail
        have hrr := rread_in o u h G D _ T.out.r HO.out HI.out (by rw [HN.out]; exact hn1) (by omega)
        rw [← HVV.out, HZ.out] at hrr
        refine hrr.mono ?_
        rintro e w3 ⟨rfl, hb⟩
        replace T := Lib.hid (T.out.quiet hb)
        clear hrr hb
        go_wp2_with fail
        go_ret
        exact ⟨F, G, D, rfl, T.out, HV.out, HN.out, by omega⟩
    · have tt : True := trivial
      go_wp2_with fail
      have hs1 : W.drew.cell? ⟨bx, 2, none⟩ = some (.int .i64 m) := x2
      have T0 := Lib.hid T.out.drew
      by_cases hmn : m < 0
      · have HI := Lib.hid hmn
        clear hmn
        go_region_held3 (fun w' => w'.cell? ⟨bx, 2, none⟩ = some (.int .i64 m)) ((first | exact hs1)) (first | (go_at_call 24; (with_reducible refine (cut_neg m g F D _ T0.out.d HO.out HI.out).mono ?_); rintro e w5 ⟨rfl, rfl⟩) | (go_at_call 32; (with_reducible refine (rcut_neg m h G D _ T0.out.r HO.out HI.out).mono ?_); rintro e w5 ⟨rfl, rfl⟩))
        all_goals
          go_wp2_with fail
          go_ret
          exact ⟨F, G, D, rfl, T0.out, HV.out, HN.out, by omega⟩
      · have HI := Lib.hid (show 0 ≤ m by omega)
        clear hmn
        go_region_held3 (fun w' => w'.cell? ⟨bx, 2, none⟩ = some (.int .i64 m)) ((first | exact hs1 | exact y1 | exact z1)) (first | (go_at_call 24; (with_reducible refine (cut_yes m g F D _ T0.out.d HO.out HI.out HM2.out).mono ?_); rintro e w5 ⟨F1, rfl, d5, k5, n5⟩; have y1 := k5.cell hs1 hx.out.1; have T1 := Lib.hid (T0.out.t1 d5 k5 n5); clear d5 k5 n5) | (go_at_call 32; (with_reducible refine (rcut_yes m h G D _ T1.out.r HO.out HI.out HM2.out).mono ?_); rintro e w6 ⟨G1, rfl, d6, k6, n6⟩; have z1 := k6.cell y1 hx.out.2; have T2 := Lib.hid (T1.out.t2 d6 k6 n6); clear d6 k6 n6))
        all_goals
          go_wp2_with fail
          go_ret
          exact ⟨F1, G1, cu D m, rfl, T2.out, vis_cu HV.out m, HN.out, by show D.pend.length ≤ _; omega⟩
end Go.Proofs.Ytndfakbklfidhaa
