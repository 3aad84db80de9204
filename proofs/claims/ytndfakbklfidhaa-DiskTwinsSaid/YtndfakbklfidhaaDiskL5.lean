/- The law DiskTwins. -/
import Derived.Test.YtndfakbklfidhaaDiskTrio
import Derived.Deep.RegionHeldLaw
namespace Go.Proofs.Ytndfakbklfidhaa
open Go.RowKit Dsk
theorem ite_skip {c : Bool} {A B : Prop} (h : c = false) (hb : B) : if c = true then A else B := by rw [if_neg (by rw [h]; exact Bool.false_ne_true)]; exact hb
set_option maxRecDepth 100000 in
set_option maxHeartbeats 2000000 in
theorem twins_law (size : Int) (A : Option Addr) (cap : Nat) (l : List Wp) (w : World) (hs : I64 size) (hA : WsAt w A l) (hl : WsOk l) (_hc : l.length ≤ cap) (hcap : (cap : Int) ≤ 9223372036854775807) :
    Calls Try.prog 11 #[.int .i64 size, .slice A l.length cap] w fun e w' => e = .returned (.bool true) ∧ Below w.heap.size w w' := by
  have HA := Lib.hid hA
  have HL := Lib.hid hl
  have hll : (l.length : Int) ≤ 9223372036854775807 := by omega
  clear hA hl
  have hp := pk_lt size (n := 100) (by omega)
  obtain ⟨p, hpe⟩ : ∃ p, pk size 100 = p := ⟨_, rfl⟩
  rw [hpe] at hp
  have HP := Lib.hid hpe
  obtain ⟨n, hn⟩ : ∃ n, 1 + p = n := ⟨_, rfl⟩
  have e1 := Lib.hid (show (1 + (p : Int)) = ((n : Nat) : Int) by omega)
  have hn1 : 1 ≤ n := by omega
  have hn2 : n ≤ 100 := by omega
  clear hpe hn
  go_enter Try.func11, Try.ntmps11
  go_wp2_with fail
  refine (sane_any _).mono ?_
  rintro e w1 ⟨rfl, hB⟩
  go_wp2_with fail
  refine (pick_any size 100 _ hs (by omega) (by omega)).mono ?_
  rintro e w2 ⟨rfl, rfl⟩
  rw [HP.out]
  go_wp2_with fail
  rw [e1.out]
  refine (new_any n _ hn1 (by omega)).mono ?_
  rintro e w2 ⟨g1, F1, rfl, c0, f0, b0⟩
  have c0' := Lib.hid c0
  clear c0
  go_wp2_with fail
  refine (new_any n _ hn1 (by omega)).mono ?_
  rintro e w3 ⟨g2, F2, rfl, c1, f1, b1⟩
  have c1' := Lib.hid c1
  clear c1
  go_wp2_with fail
  refine (new_any n _ hn1 (by omega)).mono ?_
  rintro e w4 ⟨g3, F3, rfl, c2, f2, b2⟩
  have z1 := hB.size
  have z2 := b0.size
  have z3 := b1.size
  have T := Lib.hid (show Trio w w4 g1 g2 g3 F1 F2 F3 (nw n) (nw n) (nw n) from
    ⟨(c0'.out.below b1).below b2, c1'.out.below b2, c2, fun x hx => Nat.le_trans z1 (f0 x hx), fun x hx => by have := f1 x hx; omega, fun x hx => by have := f2 x hx; omega,
      fun x hx hy => by have h1 := c0'.out.lt x hx; have h2 := f1 x hy; omega, fun x hx hy => by have h1 := c0'.out.lt x hx; have h2 := f2 x hy; omega,
      fun x hx hy => by have h1 := c1'.out.lt x hx; have h2 := f2 x hy; omega, below_next (below_next (below_next hB b0) b1) b2⟩)
  clear c0' c1' c2 f0 f1 f2 b0 b1 b2 z1 z2 z3 hB
  go_wp2_with fail
  go_loopw [12] (fun i wr => ∃ (k : Nat) (F1 F2 F3 : List Nat) (D D2 : Dk), k ≤ l.length ∧ k ≤ 30 ∧ i = .int .i64 (k : Int) ∧ Trio w wr g1 g2 g3 F1 F2 F3 D D2 D ∧ On D n k ∧ On D2 n k) (fun i _ => 30 - (intOf i).toNat)
  case atStart => exact ⟨0, F1, F2, F3, nw n, nw n, by omega, by omega, rfl, T.out, on_nw n, on_nw n⟩
  case round =>
    clear T
    obtain ⟨k, F1, F2, F3, D, D2, hk, hk2, rfl, hT, hon, hon2⟩ := hrel
    have hB := hT.below
    have T := Lib.hid hT
    have HO := Lib.hid hon
    have HO2 := Lib.hid hon2
    clear hT hon hon2
    by_cases hlt : k < l.length ∧ k < 30
    · have tt : True := trivial
      obtain ⟨hlt1, hlt2⟩ := hlt
      obtain ⟨b, o, rfl, c0, c1, c2⟩ := HA.out.then_ hB k hlt1
      have hok := HL.out k hlt1
      obtain ⟨x, hx⟩ : ∃ x, l.getD k wp0 = x := ⟨_, rfl⟩
      rw [hx] at c0 c1 c2 hok
      obtain ⟨ho, hs⟩ := hok
      have i1 : (0 : Int) ≤ (k : Int) := by omega
      have i2 : (k : Int) < (l.length : Int) := by omega
      have i3 : (k : Int) < 30 := by omega
      have l1 := lt_size c0
      have hq := pk_lt x.off (n := n + 1) (by omega)
      obtain ⟨q, hqe⟩ : ∃ q, pk x.off (n + 1) = q := ⟨_, rfl⟩
      rw [hqe] at hq
      have hcs := cutS_size x.s (n - q)
      obtain ⟨s, hse⟩ : ∃ s, cutS x.s (n - q) = s := ⟨_, rfl⟩
      rw [hse] at hcs
      have hfit : q + s.size ≤ n := by omega
      have HQ := Lib.hid hqe
      have HS := Lib.hid hse
      have HXX := Lib.hid hx
      clear hx hqe hse hcs hB
      go_wp2_with fail
      refine (fits_any x.off x.s x.sync n _ ho hs hn1 (by omega)).mono ?_
      rintro e w3 ⟨rfl, b3⟩
      rw [HQ.out, HS.out]
      have p2 : ((k : Int) % 2 == 1) = decide (k % 2 = 1) := by
        by_cases h : k % 2 = 1
        · rw [decide_eq_true h, beq_iff_eq]; omega
        · rw [decide_eq_false h, beq_eq_false_iff_ne]; omega
      have x0' : (w3.alloc (.cells #[.int .i64 (q : Int), .string s, .bool x.sync] 53)).cell? ⟨w3.heap.size, 0, none⟩ = some (.int .i64 (q : Int)) := new_cell rfl
      have x1' : (w3.alloc (.cells #[.int .i64 (q : Int), .string s, .bool x.sync] 53)).cell? ⟨w3.heap.size, 1, none⟩ = some (.string s) := new_cell rfl
      have x2' : (w3.alloc (.cells #[.int .i64 (q : Int), .string s, .bool x.sync] 53)).cell? ⟨w3.heap.size, 2, none⟩ = some (.bool x.sync) := new_cell rfl
      have bW : Below w3.heap.size w3 (w3.alloc (.cells #[.int .i64 (q : Int), .string s, .bool x.sync] 53)) := below_alloc (Below.refl _ _) _
      have hxF : Out w3.heap.size F1 F2 F3 := (T.out.quiet b3).out (Nat.le_refl _)
      replace T := Lib.hid (T.out.quiet (below_next b3 bW))
      have X0 := Lib.hid x0'
      have X1 := Lib.hid x1'
      have X2 := Lib.hid x2'
      clear x0' x1' x2' bW
      by_cases hodd : k % 2 = 1
      · rw [decide_eq_true hodd] at p2
        go_wp2_with fail
        have x0 := X0.out
        have x1 := X1.out
        have x2 := X2.out
        obtain ⟨W, hW⟩ : ∃ W, w3.alloc (.cells #[.int .i64 (q : Int), .string s, .bool x.sync] 53) = W := ⟨_, rfl⟩
        obtain ⟨bx, hbx⟩ : ∃ bx, w3.heap.size = bx := ⟨_, rfl⟩
        rw [hW] at T x0 x1 x2
        rw [hbx] at x0 x1 x2 hxF ⊢
        try rw [hW]
        replace hxF := Lib.hid hxF
        clear hW hbx b3 X0 X1 X2 c0 c1 c2 p2
        have lx := lt_size x0
        refine (write_in q s g2 F2 D2 _ T.out.d2 HO2.out.1 (by rw [HO2.out.2.2.1]; exact hfit) (by have := HO2.out.2.2.2; omega)).mono ?_
        rintro e w5 ⟨F5, rfl, d5, k5, n5⟩

        have hxF1 := Lib.hid (show Out bx _ _ _ from ⟨hxF.out.1, nin_new hxF.out.2.1 n5 lx, hxF.out.2.2⟩)
        replace x0 := k5.cell x0 (hxF.out.2.1)
        replace x1 := k5.cell x1 (hxF.out.2.1)
        replace x2 := k5.cell x2 (hxF.out.2.1)
        replace T := Lib.hid (T.out.t2 d5 k5 n5)
        replace hxF := hxF1
        replace lx := lt_size x0
        clear hxF1 d5 k5 n5

        replace HO2 := Lib.hid (on_wr HO2.out q s)
        by_cases hq7 : q % 7 = 3
        · have q7 : ((q : Int) % 7 == 3) = true := by rw [beq_iff_eq]; omega
          cases hsy : x.sync with
          | true =>
            rw [hsy] at x2
            clear hsy
            go_wp2_with fail
            have hok2 := T.out.d2.ok
            refine (sync_ok g2 F5 (Dsk.wr D2 q s) _ T.out.d2 HO2.out.1).mono ?_
            rintro e w6 ⟨F6, rfl, d5, k5, n5⟩

            have hxF1 := Lib.hid (show Out bx _ _ _ from ⟨hxF.out.1, nin_new hxF.out.2.1 n5 lx, hxF.out.2.2⟩)
            replace x0 := k5.cell x0 (hxF.out.2.1)
            replace x1 := k5.cell x1 (hxF.out.2.1)
            replace x2 := k5.cell x2 (hxF.out.2.1)
            replace T := Lib.hid (T.out.t2 d5 k5 n5)
            replace hxF := hxF1
            replace lx := lt_size x0
            clear hxF1 d5 k5 n5

            replace HO2 := Lib.hid (on_sy HO2.out hok2)
            go_wp2_with fail
            have hIn : ∀ W : World, IntsAt W none [] := fun W i hi => absurd hi (by simp)
            refine (crash_any g2 F6 (sy (Dsk.wr D2 q s)) none 0 [] 1 _ T.out.d2 (hIn _) (by simp) (by omega) (by have := HO2.out.2.2.2; omega)).mono ?_
            rintro e w7 ⟨F7, rfl, d5, k5, n5⟩

            have hxF1 := Lib.hid (show Out bx _ _ _ from ⟨hxF.out.1, nin_new hxF.out.2.1 n5 lx, hxF.out.2.2⟩)
            replace x0 := k5.cell x0 (hxF.out.2.1)
            replace x1 := k5.cell x1 (hxF.out.2.1)
            replace x2 := k5.cell x2 (hxF.out.2.1)
            replace T := Lib.hid (T.out.t2 d5 k5 n5)
            replace hxF := hxF1
            replace lx := lt_size x0
            clear hxF1 d5 k5 n5

            replace HO2 := Lib.hid (on_cr HO2.out 1)
            go_wp2_with fail
            exact ⟨⟨k + 1, F1, F7, F3, D, cr (sy (Dsk.wr D2 q s)) [] 1, by omega, by omega, by go_num, T.out, ⟨HO.out.1, HO.out.2.1, HO.out.2.2.1, by have := HO.out.2.2.2; omega⟩, HO2.out⟩, by simp [intOf]; omega⟩
          | false =>
            rw [hsy] at x2
            clear hsy
            go_wp2_with fail
            have hIn : ∀ W : World, IntsAt W none [] := fun W i hi => absurd hi (by simp)
            refine (crash_any g2 F5 (Dsk.wr D2 q s) none 0 [] 1 _ T.out.d2 (hIn _) (by simp) (by omega) (by have := HO2.out.2.2.2; omega)).mono ?_
            rintro e w7 ⟨F7, rfl, d5, k5, n5⟩

            have hxF1 := Lib.hid (show Out bx _ _ _ from ⟨hxF.out.1, nin_new hxF.out.2.1 n5 lx, hxF.out.2.2⟩)
            replace x0 := k5.cell x0 (hxF.out.2.1)
            replace x1 := k5.cell x1 (hxF.out.2.1)
            replace x2 := k5.cell x2 (hxF.out.2.1)
            replace T := Lib.hid (T.out.t2 d5 k5 n5)
            replace hxF := hxF1
            replace lx := lt_size x0
            clear hxF1 d5 k5 n5

            replace HO2 := Lib.hid (on_cr HO2.out 1)
            go_wp2_with fail
            exact ⟨⟨k + 1, F1, F7, F3, D, cr (Dsk.wr D2 q s) [] 1, by omega, by omega, by go_num, T.out, ⟨HO.out.1, HO.out.2.1, HO.out.2.2.1, by have := HO.out.2.2.2; omega⟩, HO2.out⟩, by simp [intOf]; omega⟩
        · have q7 : ((q : Int) % 7 == 3) = false := by rw [beq_eq_false_iff_ne]; omega
          cases hsy : x.sync with
          | true =>
            rw [hsy] at x2
            clear hsy
            go_wp2_with fail
            have hok2 := T.out.d2.ok
            refine (sync_ok g2 F5 (Dsk.wr D2 q s) _ T.out.d2 HO2.out.1).mono ?_
            rintro e w6 ⟨F6, rfl, d5, k5, n5⟩

            have hxF1 := Lib.hid (show Out bx _ _ _ from ⟨hxF.out.1, nin_new hxF.out.2.1 n5 lx, hxF.out.2.2⟩)
            replace x0 := k5.cell x0 (hxF.out.2.1)
            replace x1 := k5.cell x1 (hxF.out.2.1)
            replace x2 := k5.cell x2 (hxF.out.2.1)
            replace T := Lib.hid (T.out.t2 d5 k5 n5)
            replace hxF := hxF1
            replace lx := lt_size x0
            clear hxF1 d5 k5 n5

            replace HO2 := Lib.hid (on_sy HO2.out hok2)
            go_wp2_with fail
            exact ⟨⟨k + 1, F1, F6, F3, D, sy (Dsk.wr D2 q s), by omega, by omega, by go_num, T.out, ⟨HO.out.1, HO.out.2.1, HO.out.2.2.1, by have := HO.out.2.2.2; omega⟩, HO2.out⟩, by simp [intOf]; omega⟩
          | false =>
            rw [hsy] at x2
            clear hsy
            go_wp2_with fail
            exact ⟨⟨k + 1, F1, F5, F3, D, Dsk.wr D2 q s, by omega, by omega, by go_num, T.out, ⟨HO.out.1, HO.out.2.1, HO.out.2.2.1, by have := HO.out.2.2.2; omega⟩, HO2.out⟩, by simp [intOf]; omega⟩
      · rw [decide_eq_false hodd] at p2
        go_wp2_with fail
        have x0 := X0.out
        have x1 := X1.out
        have x2 := X2.out
        obtain ⟨W, hW⟩ : ∃ W, w3.alloc (.cells #[.int .i64 (q : Int), .string s, .bool x.sync] 53) = W := ⟨_, rfl⟩
        obtain ⟨bx, hbx⟩ : ∃ bx, w3.heap.size = bx := ⟨_, rfl⟩
        rw [hW] at T x0 x1 x2
        rw [hbx] at x0 x1 x2 hxF ⊢
        try rw [hW]
        replace hxF := Lib.hid hxF
        clear hW hbx b3 X0 X1 X2 c0 c1 c2 p2
        have lx := lt_size x0
        have T0 := Lib.hid T.out.drew
        have hx0 := hxF
        have hs0 : W.drew.cell? ⟨bx, 0, none⟩ = some (.int .i64 (q : Int)) := x0
        have hs1 : W.drew.cell? ⟨bx, 1, none⟩ = some (.string s) := x1
        have hs2 : W.drew.cell? ⟨bx, 2, none⟩ = some (.bool x.sync) := x2
        have hlw : bx < W.drew.heap.size := lx
        clear x0 x1 x2 lx hxF T
        have HOw := Lib.hid (on_wr HO.out q s)
        have ho1 : Hid (D.off = false) := HO.out.1
        have how1 : Hid ((Dsk.wr D q s).off = false) := HOw.out.1
        have hpe := Lib.hid (show D.pend.length ≤ 1000000 from by have := HO.out.2.2.2; omega)
        have hft := Lib.hid (show q + s.size ≤ D.sure.length from by rw [HO.out.2.2.1]; exact hfit)
        cases hsy : x.sync with
        | true =>
          rw [hsy] at hs2
          clear hsy
          go_region_held3 (fun w' => w'.cell? ⟨bx, 0, none⟩ = some (.int .i64 (q : Int)) ∧ w'.cell? ⟨bx, 1, none⟩ = some (.string s) ∧ w'.cell? ⟨bx, 2, none⟩ = some (.bool true)) ((first | exact ⟨hs0, hs1, hs2⟩ | exact ⟨y0, y1, y2⟩ | exact ⟨u0, u1, u2⟩ | exact ⟨v0, v1, v2⟩ | exact ⟨t0, t1, t2⟩)) (first | (go_at_call 21; (with_reducible refine (write_in q s g1 F1 D _ T0.out.d1 ho1.out hft.out hpe.out).mono ?_); rintro e w5 ⟨E1, rfl, d5, k5, n5⟩; have hx1 := Lib.hid (show Out bx _ _ _ from ⟨nin_new hx0.out.1 n5 hlw, hx0.out.2.1, hx0.out.2.2⟩); have y0 := k5.cell hs0 (hx0.out.1); have y1 := k5.cell hs1 (hx0.out.1); have y2 := k5.cell hs2 (hx0.out.1); have T1 := Lib.hid (T0.out.t1 d5 k5 n5); have hl1 := lt_size y0; clear d5 k5 n5) | (go_at_call 21; (with_reducible refine (write_in q s g3 F3 D _ T1.out.d3 ho1.out hft.out hpe.out).mono ?_); rintro e w6 ⟨E3, rfl, d5, k5, n5⟩; have hx2 := Lib.hid (show Out bx _ _ _ from ⟨hx1.out.1, hx1.out.2.1, nin_new hx1.out.2.2 n5 hl1⟩); have u0 := k5.cell y0 (hx1.out.2.2); have u1 := k5.cell y1 (hx1.out.2.2); have u2 := k5.cell y2 (hx1.out.2.2); have T2 := Lib.hid (T1.out.t3 d5 k5 n5); have hl2 := lt_size u0; clear d5 k5 n5) | (go_at_call 23; (with_reducible refine (sync_ok g1 E1 (Dsk.wr D q s) _ T2.out.d1 how1.out).mono ?_); rintro e w7 ⟨G1, rfl, d5, k5, n5⟩; have hx3 := Lib.hid (show Out bx _ _ _ from ⟨nin_new hx2.out.1 n5 hl2, hx2.out.2.1, hx2.out.2.2⟩); have v0 := k5.cell u0 (hx2.out.1); have v1 := k5.cell u1 (hx2.out.1); have v2 := k5.cell u2 (hx2.out.1); have T3 := Lib.hid (T2.out.t1 d5 k5 n5); have hl3 := lt_size v0; clear d5 k5 n5) | (go_at_call 23; (with_reducible refine (sync_ok g3 E3 (Dsk.wr D q s) _ T3.out.d3 how1.out).mono ?_); rintro e w8 ⟨G3, rfl, d5, k5, n5⟩; have hx4 := Lib.hid (show Out bx _ _ _ from ⟨hx3.out.1, hx3.out.2.1, nin_new hx3.out.2.2 n5 hl3⟩); have t0 := k5.cell v0 (hx3.out.2.2); have t1 := k5.cell v1 (hx3.out.2.2); have t2 := k5.cell v2 (hx3.out.2.2); have T4 := Lib.hid (T3.out.t3 d5 k5 n5); have hl4 := lt_size t0; clear d5 k5 n5))
          all_goals
            go_wp2_with fail
            exact ⟨⟨k + 1, G1, F2, G3, sy (Dsk.wr D q s), D2, by omega, by omega, by go_num, T4.out, on_sy HOw.out T2.out.d1.ok, ⟨HO2.out.1, HO2.out.2.1, HO2.out.2.2.1, by have := HO2.out.2.2.2; omega⟩⟩, by simp [intOf]; omega⟩
        | false =>
          rw [hsy] at hs2
          clear hsy
          first | go_region_held_law (fun w' => w'.cell? ⟨bx, 0, none⟩ = some (.int .i64 (q : Int)) ∧ w'.cell? ⟨bx, 1, none⟩ = some (.string s) ∧ w'.cell? ⟨bx, 2, none⟩ = some (.bool false)) ((first | exact ⟨hs0, hs1, hs2⟩ | exact ⟨y0, y1, y2⟩ | exact ⟨u0, u1, u2⟩ | exact ⟨v0, v1, v2⟩ | exact ⟨t0, t1, t2⟩)) (first | (refine ite_skip (by rfl) ?_) | (go_at_call 21; (with_reducible refine (write_in q s g1 F1 D _ T0.out.d1 ho1.out hft.out hpe.out).mono ?_); rintro e w5 ⟨E1, rfl, d5, k5, n5⟩; have hx1 := Lib.hid (show Out bx _ _ _ from ⟨nin_new hx0.out.1 n5 hlw, hx0.out.2.1, hx0.out.2.2⟩); have y0 := k5.cell hs0 (hx0.out.1); have y1 := k5.cell hs1 (hx0.out.1); have y2 := k5.cell hs2 (hx0.out.1); have T1 := Lib.hid (T0.out.t1 d5 k5 n5); have hl1 := lt_size y0; clear d5 k5 n5) | (go_at_call 21; (with_reducible refine (write_in q s g3 F3 D _ T1.out.d3 ho1.out hft.out hpe.out).mono ?_); rintro e w6 ⟨E3, rfl, d5, k5, n5⟩; have hx2 := Lib.hid (show Out bx _ _ _ from ⟨hx1.out.1, hx1.out.2.1, nin_new hx1.out.2.2 n5 hl1⟩); have u0 := k5.cell y0 (hx1.out.2.2); have u1 := k5.cell y1 (hx1.out.2.2); have u2 := k5.cell y2 (hx1.out.2.2); have T2 := Lib.hid (T1.out.t3 d5 k5 n5); have hl2 := lt_size u0; clear d5 k5 n5)) | fail "the drawn region"
          all_goals
            go_wp2_with fail
            exact ⟨⟨k + 1, E1, F2, E3, Dsk.wr D q s, D2, by omega, by omega, by go_num, T2.out, HOw.out, ⟨HO2.out.1, HO2.out.2.1, HO2.out.2.2.1, by have := HO2.out.2.2.2; omega⟩⟩, by simp [intOf]; omega⟩
    · rcases (show ¬ (k : Int) < (l.length : Int) ∨ ((k : Int) < (l.length : Int) ∧ ¬ (k : Int) < 30) by omega) with h1 | ⟨h1, h2⟩
      all_goals
        clear hlt
        go_wp2_with fail
        refine (read_in 0 n g1 F1 D _ T.out.d1 HO.out.1 (by rw [HO.out.2.2.1]; omega)).mono ?_
        rintro e w3 ⟨rfl, rfl⟩
        obtain ⟨Z, hZ⟩ : ∃ Z, sof ((D.vis.drop 0).take n) = Z := ⟨_, rfl⟩
        rw [hZ]
        have HZ := Lib.hid hZ
        clear hZ
        go_wp2_with fail
        refine (read_in 0 n g3 F3 D _ T.out.d3 HO.out.1 (by rw [HO.out.2.2.1]; omega)).mono ?_
        rintro e w3 ⟨rfl, rfl⟩
        rw [HZ.out]
        go_wp2_with fail
        refine (pending_any g1 F1 D _ T.out.d1).mono ?_
        rintro e w3 ⟨rfl, rfl⟩
        go_wp2_with fail
        refine (pending_any g3 F3 D _ T.out.d3).mono ?_
        rintro e w3 ⟨rfl, rfl⟩
        go_wp2_with fail
        go_ret
        exact ⟨rfl, hB⟩
end Go.Proofs.Ytndfakbklfidhaa
