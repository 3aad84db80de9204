/- The law DiskMatchesReference. -/
import Derived.Test.YtndfakbklfidhaaRefStep
import Derived.Test.YtndfakbklfidhaaDiskSane
import Derived.Deep.RegionWith
namespace Go.Proofs.Ytndfakbklfidhaa
open Go.RowKit Dsk
/-- a call that the law makes -/
structure Sp where
  call : Int
  off : Int
  n : Int
  s : ByteArray
  a : Option Addr
  c : Nat
  l : List Int
def sp0 : Sp := ⟨0, 0, 0, ByteArray.empty, none, 0, []⟩
def SpsAt (w : World) (A : Option Addr) (l : List Sp) : Prop := ∀ i, i < l.length → ∃ b o, A = some ⟨b, o, none⟩ ∧
  w.cell? ⟨b, o + i * 5, none⟩ = some (.int .i64 (l.getD i sp0).call) ∧ w.cell? ⟨b, o + i * 5 + 1, none⟩ = some (.int .i64 (l.getD i sp0).off) ∧ w.cell? ⟨b, o + i * 5 + 2, none⟩ = some (.int .i64 (l.getD i sp0).n) ∧
  w.cell? ⟨b, o + i * 5 + 3, none⟩ = some (.string (l.getD i sp0).s) ∧ w.cell? ⟨b, o + i * 5 + 4, none⟩ = some (.slice (l.getD i sp0).a (l.getD i sp0).l.length (l.getD i sp0).c) ∧ IntsAt w (l.getD i sp0).a (l.getD i sp0).l
def SpsOk (l : List Sp) : Prop := ∀ i, i < l.length → I64 (l.getD i sp0).call ∧ I64 (l.getD i sp0).off ∧ I64 (l.getD i sp0).n ∧ ((l.getD i sp0).s.size : Int) ≤ 9223372036854775807 ∧ (l.getD i sp0).l.length ≤ (l.getD i sp0).c ∧ ((l.getD i sp0).c : Int) ≤ 9223372036854775807
theorem RefAt.list {w : World} {h : Nat} {G : List Nat} {D : Dk} (hR : RefAt w h G D) : ∃ pa pc, w.cell? ⟨h, 1, none⟩ = some (.slice pa D.pend.length pc) := by
  obtain ⟨_, _, pv, _, _, _, hg, _, hp, _⟩ := hR
  obtain ⟨a, c, rfl⟩ := pend_len hp
  exact ⟨a, c, (cells4 hg).2.1⟩
theorem size_eq {g n : Nat} {F : List Nat} {D : Dk} {w : World} (h : DiskAt w g F D) (hn : D.sure.length = n) : Calls Try.prog 16 #[.pointer (some ⟨g, 0, none⟩)] w fun e w' => e = .returned (.int .i64 (n : Int)) ∧ w = w' := by
  subst hn
  exact size_any g F D w h
set_option maxRecDepth 100000 in
set_option maxHeartbeats 2000000 in
theorem match_law (size : Int) (A : Option Addr) (cap : Nat) (l : List Sp) (w : World) (hs : I64 size) (hA : SpsAt w A l) (hl : SpsOk l) (_hc : l.length ≤ cap) (hcap : (cap : Int) ≤ 9223372036854775807) :
    Calls Try.prog 4 #[.int .i64 size, .slice A l.length cap] w fun e w' => e = .returned (.bool true) ∧ Below w.heap.size w w' := by
  have HA := Lib.hid hA
  have HL := Lib.hid hl
  have hll : (l.length : Int) ≤ 9223372036854775807 := by omega
  clear hA hl
  have hp := pk_lt size (n := 400) (by omega)
  obtain ⟨p, hpe⟩ : ∃ p, pk size 400 = p := ⟨_, rfl⟩
  rw [hpe] at hp
  have HP := Lib.hid hpe
  obtain ⟨n, hn⟩ : ∃ n, 1 + p = n := ⟨_, rfl⟩
  have e1 := Lib.hid (show (1 + (p : Int)) = ((n : Nat) : Int) by omega)
  have hn1 : 1 ≤ n := by omega
  have hn2 : n ≤ 400 := by omega
  clear hpe hn
  go_enter Try.func4, Try.ntmps4
  go_wp2_with fail
  refine (sane_any _).mono ?_
  rintro e w1 ⟨rfl, hB⟩
  go_wp2_with fail
  refine (pick_any size 400 _ hs (by omega) (by omega)).mono ?_
  rintro e w2 ⟨rfl, rfl⟩
  rw [HP.out]
  go_wp2_with fail
  rw [e1.out]
  refine (new_any n _ hn1 (by omega)).mono ?_
  rintro e w2 ⟨g, F, rfl, d0, f0, b0⟩
  have D0 := Lib.hid d0
  clear d0
  go_wp2_with fail
  refine (ref_new n _ hn1 (by omega)).mono ?_
  rintro e w3 ⟨h, G, rfl, r0, g0, b1⟩
  have z1 := hB.size
  have z2 := b0.size
  have T := Lib.hid (show Duo w w3 g h F G (nw n) (nw n) from ⟨D0.out.below b1, r0, fun x hx => Nat.le_trans z1 (f0 x hx), fun x hx => by have := g0 x hx; omega, fun x hx hy => by have h1 := D0.out.lt x hx; have h2 := g0 x hy; omega, below_next (below_next hB b0) b1⟩)
  clear D0 r0 f0 g0 b0 b1 z1 z2 hB
  go_wp2_with fail
  go_loopw [10] (fun i wr => ∃ (k : Nat) (F G : List Nat) (D : Dk), k ≤ l.length ∧ k ≤ 60 ∧ i = .int .i64 (k : Int) ∧ Duo w wr g h F G D D ∧ Vis D ∧ D.sure.length = n ∧ D.pend.length ≤ k) (fun i _ => 60 - (intOf i).toNat)
  case atStart => exact ⟨0, F, G, nw n, by omega, by omega, rfl, T.out, vis_nw n, by simp [nw], by simp [nw]⟩
  case round =>
    clear T
    obtain ⟨k, F, G, D, hk, hk2, rfl, hT, hv, hn, hpl⟩ := hrel
    have hB := hT.below
    have T := Lib.hid hT
    have HV := Lib.hid hv
    have HN := Lib.hid hn
    have HPL := Lib.hid hpl
    clear hT hv hn hpl
    by_cases hlt : k < l.length ∧ k < 60
    · obtain ⟨hlt1, hlt2⟩ := hlt
      obtain ⟨b, o, rfl, c0, c1, c2, c3, c4, hI⟩ := HA.out k hlt1
      have hok := HL.out k hlt1
      obtain ⟨x, hx⟩ : ∃ x, l.getD k sp0 = x := ⟨_, rfl⟩
      rw [hx] at c0 c1 c2 c3 c4 hI hok
      obtain ⟨xc, xo, xn, xs, xa, xp, xl⟩ := x
      simp only at c0 c1 c2 c3 c4 hI hok
      obtain ⟨ok1, ok2, ok3, ok4, ok5, ok6⟩ := hok
      replace c0 := cell_then hB c0
      replace c1 := cell_then hB c1
      replace c2 := cell_then hB c2
      replace c3 := cell_then hB c3
      replace c4 := cell_then hB c4
      have i1 : (0 : Int) ≤ (k : Int) := by omega
      have i2 : (k : Int) < (l.length : Int) := by omega
      have i3 : (k : Int) < 60 := by omega
      have hk3 : k ≤ 1000 := by omega
      have T0 := Lib.hid T.out.drew
      have HI := Lib.hid hI
      have HO1 := Lib.hid ok1
      have HO2 := Lib.hid ok2
      have HO3 := Lib.hid ok3
      have HO4 := Lib.hid ok4
      have HO5 := Lib.hid ok5
      have HO6 := Lib.hid ok6
      clear hx hI ok1 ok2 ok3 ok4 ok5 ok6 hB
      go_wp2_with fail
      go_region_with (first | (go_at_call 19; (with_reducible refine (step_any w g h n k F G D xc xo xn xs xa xp xl _ T0.out HV.out HN.out hn1 HPL.out hk3 HO1.out HO2.out HO3.out HO4.out HI.out HO5.out HO6.out).mono ?_); rintro e w5 ⟨F1, G1, D1, rfl, t1, v1, n1, p1⟩; have T1 := Lib.hid t1; have V1 := Lib.hid v1; have N1 := Lib.hid n1; have P1 := Lib.hid p1; obtain ⟨pa, pc, cL⟩ := t1.r.list; clear t1 v1 n1 p1) | (go_at_call 17; (with_reducible refine (pending_any g F1 D1 _ T1.out.d).mono ?_); rintro e w6 ⟨rfl, rfl⟩) | (go_at_call 16; (with_reducible refine (size_eq T1.out.d N1.out).mono ?_); rintro e w7 ⟨rfl, rfl⟩))
      all_goals
        go_wp2_with fail
        cases hof : D1.off with
        | true =>
          have HOF := Lib.hid hof
          clear hof
          refine (read_off 0 (n : Int) g F1 D1 _ T1.out.d HOF.out).mono ?_
          rintro e w8 ⟨rfl, rfl⟩
          go_wp2_with fail
          refine (rread_off 0 (n : Int) h G1 D1 _ T1.out.r HOF.out).mono ?_
          rintro e w8 ⟨rfl, rfl⟩
          go_wp2_with fail
          exact ⟨⟨k + 1, F1, G1, D1, by omega, by omega, by go_num, T1.out, V1.out, N1.out, P1.out⟩, by simp [intOf]; omega⟩
        | false =>
          have HOF := Lib.hid hof
          clear hof
          have hvv : D1.vis = overs D1.sure D1.pend := V1.out
          have HVV := Lib.hid hvv
          obtain ⟨Z, hZ⟩ : ∃ Z, sof ((D1.vis.drop 0).take n) = Z := ⟨_, rfl⟩
          have HZ := Lib.hid hZ
          clear hvv hZ
          refine (read_in 0 n g F1 D1 _ T1.out.d HOF.out (by rw [N1.out]; omega)).mono ?_
          rintro e w8 ⟨rfl, rfl⟩
          rw [HZ.out]
          go_wp2_with fail
          have hrr := rread_in 0 n h G1 D1 _ T1.out.r HOF.out (by rw [N1.out]; omega) (by rw [N1.out]; exact hn1) (by have := P1.out; omega)
          rw [← HVV.out, HZ.out] at hrr
          refine hrr.mono ?_
          rintro e w9 ⟨rfl, hb⟩
          have T2 := Lib.hid (T1.out.quiet hb)
          clear hrr hb
          go_wp2_with fail
          exact ⟨⟨k + 1, F1, G1, D1, by omega, by omega, by go_num, T2.out, V1.out, N1.out, P1.out⟩, by simp [intOf]; omega⟩
    · rcases (show ¬ (k : Int) < (l.length : Int) ∨ ((k : Int) < (l.length : Int) ∧ ¬ (k : Int) < 60) by omega) with h1 | ⟨h1, h2⟩
      all_goals
        clear hlt
        go_wp2_with fail
        go_ret
        exact ⟨rfl, hB⟩
end Go.Proofs.Ytndfakbklfidhaa
