/- JournalRoom: the law. -/
import Derived.Test.YtnjkinljpekohaaDoorJlWas
namespace Go.Proofs.YtnjkinljpekohaaDoor.Jo
open Go.RowKit Sha Dsk Jr
attribute [local go_sem] Oper.semAt_some
theorem need_le (l : List ByteArray) (hl : ∀ r ∈ l, r.size ≤ 65536) : need l ≤ l.length * 65578 := by
  have := st_le zed l hl
  rwa [st_need] at this
theorem own_len {w : World} {base n k c : Nat} {e : TypeId} {A : Option Addr} {xs : List Value} (h : w.ownsRow base e 1 (.slice A k c) n xs) : k = n ∧ n ≤ c := by
  rcases h.2 with ⟨h1, h2⟩ | ⟨g, cap, cur, h1, _, _, h2, _⟩
  · injection h1 with _ h3 h4
    omega
  · injection h1 with _ h3 h4
    exact ⟨h3, by omega⟩
theorem own_one {g n c x : Nat} (h : x ∈ (Value.slice (some ⟨g, 0, none⟩) n c).ownBlock.toList) : g ≤ x := by
  have h : x = g := by simpa [Value.ownBlock] using h
  omega
theorem strs_lit1 (W : World) (o : Obj) (l : List ByteArray) (t : TypeId) : StrsAt ((W.alloc o).alloc (.cells (svs l).toArray t)) (some ⟨W.heap.size + 1, 0, none⟩) l := by
  have := strs_lit (W.alloc o) l t
  simpa using this
set_option maxRecDepth 100000 in
set_option maxHeartbeats 8000000 in
theorem room_law (n more : Int) (a : Addr) (g : Grp) (w : World) (hK : RoundIn w) (hE : ErrIn w 155 (.pointer (some a))) (hn : I64 n) (hmo : I64 more) (hG : GrpAt w g) :
    Calls Tryd.prog 3 #[.int .i64 n, .slice g.A g.l.length g.c, .int .i64 more] w fun e w' => e = .returned (.bool true) ∧ Below w.heap.size w w' := by
  have hsz := szI_le n
  have hls := fun W => lsize_any n W hn
  obtain ⟨z, hz⟩ : ∃ z, szI n = z := ⟨_, rfl⟩
  rw [hz] at hsz
  simp only [hz] at hls
  have HLS := Lib.hid hls
  have HMO := Lib.hid hmo
  have HK := Lib.hid hK
  have HE := Lib.hid hE
  have HG := Lib.hid hG
  obtain ⟨gA, gc, gl⟩ := g
  clear hK hE hG hn hls hz hmo
  go_enter Tryd.func3, Tryd.ntmps3
  go_wp2_with fail
  refine (sane_any a w HK.out HE.out).mono ?_
  rintro e w1 ⟨rfl, b1⟩
  have B1 := Lib.hid b1
  clear b1
  go_wp2_with fail
  refine (HLS.out _).mono ?_
  rintro e w2 ⟨rfl, rfl⟩
  go_wp2_with fail
  refine (new_any z w1 hsz.1 (by omega)).mono ?_
  rintro e w3 ⟨gd, F3, rfl, d3, n3, b3⟩
  have S3 : Hid (Ds w w3 gd F3 (nw z)) := (show Ds w w3 gd F3 (nw z) from ⟨d3, fun x hx => by have := n3 x hx; have := B1.out.size; omega, below_next B1.out b3⟩)
  clear d3 n3 b3
  go_wp2_with fail
  refine (jd_open w gd F3 (nw z) a w3 S3.out HK.out HE.out (by simp [nw])).mono ?_
  rw [opR_good (Good0.new z).good (by simp)]
  rintro e w4 ⟨F4, s4, -, -, gj, v4, rfl, j4, -⟩
  have J4 := Lib.hid j4
  have hfew := few_own ⟨gA, gc, gl⟩ w4 (HG.out.then_ j4.ds.below)
  dsimp only at hfew
  obtain ⟨l, hl⟩ : ∃ l, fewS gl 6 = l := ⟨_, rfl⟩
  have hls := fewS_small gl
  have hl6 := few_len gl
  rw [hl] at hls hl6 hfew
  obtain ⟨m, hm⟩ : ∃ m, l.length = m := ⟨_, rfl⟩
  rw [hm] at hfew hl6
  have HFW := Lib.hid hfew
  have HLs := Lib.hid hls
  have HM := Lib.hid hm
  clear s4 j4 hfew hls hl hm
  go_wp2_with fail
  refine HFW.out.mono ?_
  rintro e w5 ⟨A5, c5, rfl, ow5, hc5, b5⟩
  have J5 : Hid (Jd w w5 gj gd v4 F4 false [] (nw z)) := (show Jd w w5 gj gd v4 F4 false [] (nw z) from J4.out.then_ b5)
  have W5 : Hid (Was w5 (gj :: F4) A5 l) := (show Was w5 (gj :: F4) A5 l from was_of_own ow5 HM.out J4.out.lt)
  clear ow5 b5
  go_wp2_with fail
  go_loopw [12, 13] (fun nd i wr => ∃ k : Nat, k ≤ m ∧ nd = .int .i64 (need (l.take k) : Int) ∧ i = .int .i64 (k : Int) ∧ Below w5.heap.size w5 wr) (fun _ i _ => m - (intOf i).toNat)
  case atStart => exact ⟨0, Nat.zero_le _, rfl, rfl, Below.refl _ _⟩
  case round =>
    obtain ⟨k, hk, rfl, rfl, hb⟩ := hrel
    have HB := Lib.hid hb
    clear hb
    by_cases hkm : k < m
    · obtain ⟨r, hr⟩ : ∃ r, l.getD k ⟨#[]⟩ = r := ⟨_, rfl⟩
      obtain ⟨b, o, rfl, hc, _, _⟩ := W5.out k (by rw [HM.out]; exact hkm)
      rw [hr] at hc
      have hcr := cell_then HB.out hc
      have hrs : r.size ≤ 65536 := HLs.out r (by rw [← hr, List.getD, List.getElem?_eq_getElem (by rw [HM.out]; exact hkm)]; exact List.getElem_mem _)
      have hrp := rputs_rec r hrs wr
      have hnn := need_next l k (by rw [HM.out]; exact hkm)
      rw [hr] at hnn
      obtain ⟨Pr, hPr⟩ : ∃ Pr, sof (pstr r) = Pr := ⟨_, rfl⟩
      have hps : Pr.size = (pstr r).length := by rw [← hPr, ← bts_length, bts_sof]
      have hp9 := pstr_size r hrs
      rw [hPr] at hrp hp9
      obtain ⟨N1, hN1⟩ : ∃ N1, need (l.take (k + 1)) = N1 := ⟨_, rfl⟩
      obtain ⟨N0, hN0⟩ : ∃ N0, need (l.take k) = N0 := ⟨_, rfl⟩
      have hle : N0 ≤ 400000 := by
        have := need_le (l.take k) (fun x hx => HLs.out x (List.mem_of_mem_take hx))
        rw [List.length_take] at this
        omega
      rw [hN1, hN0, ← hps] at hnn
      have HRP := Lib.hid hrp
      have HNN := Lib.hid hnn
      have HN1 := Lib.hid hN1
      have g1 : (k : Int) < (m : Int) := by omega
      have g0 : (0 : Int) ≤ (k : Int) := by omega
      have g9 : (N0 : Int) ≤ 400000 := by omega
      have g8 : (Pr.size : Int) ≤ 65545 := by omega
      rw [hN0]
      clear hrp hnn hN1 hPr hps hr hc hN0
      go_wp2_with fail
      refine HRP.out.mono ?_
      rintro e w6 ⟨rfl, b6⟩
      have B6 := Lib.hid b6
      clear b6
      go_wp2_with fail
      refine ⟨⟨k + 1, by omega, ?_, by go_num, below_next HB.out B6.out⟩, by simp [intOf]; omega⟩
      rw [HN1.out, HNN.out]
      congr 1
      omega
    · obtain rfl : k = m := by omega
      have htk : l.take k = l := List.take_of_length_le (by rw [HM.out]; exact Nat.le_refl _)
      rw [htk]
      have g1 : ¬ (k : Int) < (k : Int) := by omega
      have J6 : Hid (Jd w wr gj gd v4 F4 false [] (nw z)) := (show Jd w wr gj gd v4 F4 false [] (nw z) from J5.out.then_ HB.out)
      have W6 : Hid (Was wr (gj :: F4) A5 l) := (show Was wr (gj :: F4) A5 l from W5.out.then_ HB.out)
      have hnl := need_le l HLs.out
      rw [HM.out] at hnl
      obtain ⟨N, hN⟩ : ∃ N, need l = N := ⟨_, rfl⟩
      rw [hN] at hnl ⊢
      have hN4 : N ≤ 400000 := by omega
      obtain ⟨cc, rs2, D2, R, hap, hg2, hR, hcase⟩ : ∃ cc rs2 D2 R, apR false [] (nw z) l = (cc, false, rs2, D2) ∧ Good0 D2 rs2 z ∧ (z : Int) - (need rs2 : Int) = (R : Int) ∧ ((N ≤ z ∧ cc = 0 ∧ R = (z : Int) - (N : Int)) ∨ (¬ N ≤ z ∧ cc = 341 ∧ R = (z : Int))) := by
        by_cases hf : N ≤ z
        · obtain ⟨D2, h1, h2⟩ := apR_good (Good0.new z) HLs.out (by rw [hN]; simp [need]; exact hf)
          exact ⟨0, l, D2, _, h1, h2, by rw [hN], .inl ⟨hf, rfl, rfl⟩⟩
        · exact ⟨341, [], nw z, _, apR_full false rfl HLs.out (by rw [(Good0.new z).len, hN]; simp [need]; omega), Good0.new z, by simp [need], .inr ⟨hf, rfl, rfl⟩⟩
      have HAp := Lib.hid hap
      have HG2 := Lib.hid hg2
      have HR := Lib.hid hR
      have HN := Lib.hid hN
      clear hnl hap hg2 hR hN htk
      go_wp2_with fail
      have ha7 := jd_append w gj gd k v4 F4 false [] (nw z) l A5 c5 wr J6.out HK.out W6.out.strs HM.out (by omega) hc5 (fun s hs => by have := HLs.out s hs; omega) (by simp [nw])
      rw [HAp.out] at ha7
      refine ha7.mono ?_
      clear ha7
      rintro e w7 ⟨F7, v7, rfl, j7, k7, n7⟩
      have J7 : Hid (Jd w w7 gj gd v7 F7 false rs2 D2) := (show Jd w w7 gj gd v7 F7 false rs2 D2 from j7)
      have W7 : Hid (Was w7 (gj :: F7) A5 l) := (show Was w7 (gj :: F7) A5 l from W6.out.turn k7 (New.cons n7 gj))
      clear j7 k7 n7
      dsimp only
      have hrm := jd_room w gj gd v7 F7 false rs2 D2 w7 J7.out
      rw [HG2.out.len, HR.out] at hrm
      have HRM := Lib.hid hrm
      clear hrm
      go_wp2_with fail
      refine (HLS.out _).mono ?_
      rintro e w8 ⟨rfl, rfl⟩
      have hp2 : D2.pend.length ≤ 800000 := by rw [HG2.out.good.none]; decide
      have hR0 : 0 ≤ R := by rcases hcase with ⟨h1, _, h3⟩ | ⟨_, _, h3⟩ <;> omega
      have hR1 : R ≤ 1500 := by rcases hcase with ⟨h1, _, h3⟩ | ⟨_, _, h3⟩ <;> omega
      obtain ⟨w9, hw9, hq⟩ : ∃ w9, w7.drew = w9 ∧ True := ⟨_, rfl, trivial⟩
      have J9 : Hid (Jd w w9 gj gd v7 F7 false rs2 D2) := (show Jd w w9 gj gd v7 F7 false rs2 D2 by rw [← hw9]; exact J7.out.drew)
      have W9 : Hid (Was w9 (gj :: F7) A5 l) := (show Was w9 (gj :: F7) A5 l by rw [← hw9]; exact W7.out.then_ (Below.refl _ _).drew)
      have HW9 := Lib.hid hw9
      clear hw9 hq
      rcases hcase with ⟨f1, rfl, f3⟩ | ⟨f1, rfl, f3⟩
      · have g2 : (N : Int) ≤ (z : Int) := by omega
        have F3' := Lib.hid f3
        clear f3
        go_wp2_with fail
        refine HRM.out.mono ?_
        rintro e w10 ⟨rfl, hw10⟩
        obtain rfl : w9 = w10 := by rw [← HW9.out, hw10]
        clear hw10
        go_wp2_with fail
        refine (HLS.out _).mono ?_
        rintro e w10 ⟨rfl, rfl⟩
        rw [F3'.out]
        go_wp2_with fail
        refine (jd_recs w gj gd v7 F7 false rs2 D2 w9 J9.out).mono ?_
        rintro e w10 ⟨A10, c10, rfl, -, ow10, b10⟩
        have J10 : Hid (Jd w w10 gj gd v7 F7 false rs2 D2) := (show Jd w w10 gj gd v7 F7 false rs2 D2 from J9.out.then_ b10)
        have W10 : Hid (Was w10 (gj :: F7) A5 l) := (show Was w10 (gj :: F7) A5 l from W9.out.then_ b10)
        have V10 : Hid (Was w10 (gj :: F7) A10 rs2) := (show Was w10 (gj :: F7) A10 rs2 from was_of_own ow10 rfl J9.out.lt)
        obtain ⟨q, hq⟩ : ∃ q, rs2.length = q := ⟨_, rfl⟩
        have hq6 : q ≤ 1000000 := by have := need_count rs2; have := J10.out.fit; have := J10.out.ds.disk.ok.max; omega
        have HQ := Lib.hid hq
        rw [hq]
        obtain ⟨p, hp⟩ : ∃ p, pk more 100 = p := ⟨_, rfl⟩
        have hpl := pk_lt more (n := 100) (by omega)
        have hpk := fun W => pick_any more 100 W HMO.out (by omega) (by omega)
        rw [hp] at hpl
        simp only [hp] at hpk
        obtain ⟨ZB, mkz, cvz⟩ := make_z (65537 + p) (by omega) (65537 + (p : Int)) (by omega)
        obtain ⟨i0, hi0, hz0, hz1, hz2⟩ := info_parts str_info1
        have I1 := Lib.hid hi0
        have I2 := Lib.hid hz0
        have I3 := Lib.hid hz1
        have I4 := Lib.hid hz2
        have HPK := Lib.hid hpk
        clear ow10 b10 hq hp hpk hi0 hz0 hz1 hz2
        go_wp2_with (first
          | (at_builtin; refine wpList_append_strs rfl (.tmp 106) (.tmp 107) 22 rfl w10.heap.size 9 i0 _ Tryd.underlying22 I1.out I2.out I3.out I4.out rfl (.slice (some ⟨w10.heap.size, 0, none⟩) 0 0) 0 [] rfl rfl (own_lit (xs := []) (heap_alloc_new _ _) (Nat.le_refl _) (by simp)) A5 k c5 l HM.out rfl (W10.out.strs.then_ (below_alloc (Below.refl _ _) _)) (by omega) (by simp) ?_; intro v11 w11 o11 k11; have O11 := Lib.hid o11; have K11 := Lib.hid k11; clear o11 k11)
          | (at_builtin; refine wpList_append_strs rfl (.tmp 108) (.tmp 114) 22 rfl w10.heap.size 9 i0 _ Tryd.underlying22 I1.out I2.out I3.out I4.out rfl v11 (0 + k) ([] ++ l) rfl (by rw [List.nil_append, HM.out, Nat.zero_add]) (own_then (own_then O11.out (below_alloc (Below.refl _ _) ZB)) (below_alloc (Below.refl _ _) _)) (some ⟨w11.heap.size + 1, 0, none⟩) 1 1 [zeros (65537 + p)] rfl rfl (strs_lit1 w11 ZB [zeros (65537 + p)] 9) (by omega) (by have := K11.out.size; simp at this ⊢; omega) ?_; intro v13 w13 o13 k13; have O13 := Lib.hid o13; have K13 := Lib.hid k13; clear o13 k13)
          | (go_at_call 14; (refine (HPK.out _).mono ?_); rintro e w12 ⟨rfl, rfl⟩))
        obtain ⟨A13, n13, c13, h13⟩ := own_slice O13.out
        subst h13
        obtain ⟨hn13, hc13⟩ := own_len O13.out
        subst hn13
        have B11 : Below w10.heap.size w10 w11 := K11.out.below_next (below_alloc (Below.refl _ _) _) (by simp) (fun x hx => own_one hx)
        have B13 : Below w10.heap.size w10 w13 := K13.out.below_next (below_next B11 (below_alloc (below_alloc (Below.refl _ _) ZB) _)) (by have := B11.size; simp; omega) (fun x hx => (O11.out.lt x (Option.mem_toList.1 hx)).1)
        have J13 : Hid (Jd w w13 gj gd v7 F7 false rs2 D2) := (show Jd w w13 gj gd v7 F7 false rs2 D2 from J10.out.then_ B13)
        have V13 : Hid (Was w13 (gj :: F7) A10 rs2) := (show Was w13 (gj :: F7) A10 rs2 from V10.out.then_ B13)
        have ha14 := jd_append w gj gd (0 + k + 1) v7 F7 false rs2 D2 ([] ++ l ++ [zeros (65537 + p)]) A13 c13 w13 J13.out HK.out (own_strs O13.out (by rw [List.length_append, List.nil_append, HM.out]; simp)) (by rw [List.length_append, List.nil_append, HM.out]; simp) (by omega) hc13 (fun s hs => by
          rw [List.nil_append] at hs
          rcases List.mem_append.1 hs with hs | hs
          · have := HLs.out s hs; omega
          · rw [List.mem_singleton.1 hs, zeros_size]; omega) hp2
        rw [apR_long (by rw [List.any_append]; simp [longB, zeros_size]; right; omega)] at ha14
        refine ha14.mono ?_
        clear ha14 B11 B13 mkz cvz
        rintro e w14 ⟨F14, v14, rfl, j14, k14, n14⟩
        have J14 : Hid (Jd w w14 gj gd v14 F14 false rs2 D2) := (show Jd w w14 gj gd v14 F14 false rs2 D2 from j14)
        have V14 : Hid (Was w14 (gj :: F14) A10 rs2) := (show Was w14 (gj :: F14) A10 rs2 from V13.out.turn k14 (New.cons n14 gj))
        clear j14 k14 n14
        dsimp only
        have ha15 := fun W (hW : Jd w W gj gd v14 F14 false rs2 D2) => jd_append w gj gd 0 v14 F14 false rs2 D2 [] none 0 W hW HK.out (strs_nil _ _) rfl (by omega) (by omega) (by simp) hp2
        have hap15 := apR_none (rs := rs2) J14.out.fit
        rw [hap15] at ha15
        have HA15 := Lib.hid ha15
        clear ha15 hap15
        go_wp2_with fail
        refine (HA15.out _ J14.out).mono ?_
        rintro e w15 ⟨F15, v15, rfl, j15, k15, n15⟩
        have J15 : Hid (Jd w w15 gj gd v15 F15 false rs2 D2) := (show Jd w w15 gj gd v15 F15 false rs2 D2 from j15)
        have V15 : Hid (Was w15 (gj :: F15) A10 rs2) := (show Was w15 (gj :: F15) A10 rs2 from V14.out.turn k15 (New.cons n15 gj))
        clear j15 k15 n15
        dsimp only
        obtain ⟨D3, hD3⟩ : ∃ D3, cu D2 0 = D3 := ⟨_, rfl⟩
        have hcut := cut_yes 0 gd F15 D2 w15 J15.out.ds.disk HG2.out.good.on (by omega) (by omega)
        rw [hD3] at hcut
        have h3o : D3.off = true := by rw [← hD3]; rfl
        have h3l : D3.sure.length = D2.sure.length := by rw [← hD3]; rfl
        have h3p : D3.pend.length ≤ 800000 := by rw [← hD3]; exact hp2
        have H3O := Lib.hid h3o
        have H3L := Lib.hid h3l
        have HCut := Lib.hid hcut
        clear hcut hD3 h3o h3l
        go_wp2_with fail
        refine HCut.out.mono ?_
        rintro e w16 ⟨F16, rfl, d16, k16, n16⟩
        have S16 := J15.out.ds.turn d16 k16 n16
        have J16 : Hid (Jd w w16 gj gd v15 F16 false rs2 D3) := (show Jd w w16 gj gd v15 F16 false rs2 D3 from J15.out.turn S16 k16 n16 H3L.out)
        have V16 : Hid (Was w16 (gj :: F16) A10 rs2) := (show Was w16 (gj :: F16) A10 rs2 from V15.out.turn (k16.mono (fun x hx => List.mem_cons_of_mem _ hx)) (New.cons n16 gj))
        clear d16 k16 n16 S16
        have hxs : ∀ r ∈ [(⟨#[120]⟩ : ByteArray)], r.size ≤ 65536 := by intro r hr; rw [List.mem_singleton.1 hr]; decide
        have hz3 : D3.sure.length = z := by rw [H3L.out, HG2.out.len]
        obtain ⟨ci, bi, ck, hai, hak, hcs⟩ : ∃ ci bi ck, apR false rs2 D3 [⟨#[120]⟩] = (ci, bi, rs2, D3) ∧ apR bi rs2 D3 [] = (ck, bi, rs2, D3) ∧ ((R < 35 ∧ ci = 341 ∧ ck = 0) ∨ (¬ R < 35 ∧ ci = 331 ∧ ck = 340)) := by
          by_cases h35 : R < 35
          · exact ⟨341, false, 0, apR_full false rfl hxs (by rw [hz3, need_x]; have := HR.out; omega), apR_none J16.out.fit, .inl ⟨h35, rfl, rfl⟩⟩
          · exact ⟨331, true, 340, apR_off H3O.out hxs (by simp) (by rw [hz3, need_x]; have := HR.out; omega), apR_broken, .inr ⟨h35, rfl, rfl⟩⟩
        have HAi := Lib.hid hai
        have HAk := Lib.hid hak
        have HCs := Lib.hid hcs
        clear hai hak hcs hz3 hxs
        go_wp2_with fail
        have ha17 := jd_append w gj gd 1 v15 F16 false rs2 D3 [⟨#[120]⟩] (some ⟨w16.heap.size, 0, none⟩) 1 (w16.alloc (.cells #[.string ⟨#[120]⟩] 9)) (J16.out.alloc _) HK.out (strs_lit w16 [⟨#[120]⟩] 9) rfl (by omega) (by omega) (by intro s hs; rw [List.mem_singleton.1 hs]; decide) h3p
        rw [HAi.out] at ha17
        refine ha17.mono ?_
        clear ha17
        rintro e w17 ⟨F17, v17, rfl, j17, k17, n17⟩
        have J17 : Hid (Jd w w17 gj gd v17 F17 bi rs2 D3) := (show Jd w w17 gj gd v17 F17 bi rs2 D3 from j17)
        have V17 : Hid (Was w17 (gj :: F17) A10 rs2) := (show Was w17 (gj :: F17) A10 rs2 from (V16.out.then_ (below_alloc (Below.refl _ _) _)).turn k17 (New.cons n17 gj))
        clear j17 k17 n17
        dsimp only
        have hr17 := jd_room w gj gd v17 F17 bi rs2 D3 w17 J17.out
        rw [H3L.out, HG2.out.len, HR.out] at hr17
        have HR17 := Lib.hid hr17
        clear hr17
        go_wp2_with fail
        refine HR17.out.mono ?_
        rintro e w18 ⟨rfl, hw18⟩
        have J18 : Hid (Jd w w18 gj gd v17 F17 bi rs2 D3) := (show Jd w w18 gj gd v17 F17 bi rs2 D3 by rw [← hw18]; exact J17.out.drew)
        have V18 : Hid (Was w18 (gj :: F17) A10 rs2) := (show Was w18 (gj :: F17) A10 rs2 by rw [← hw18]; exact V17.out.then_ (Below.refl _ _).drew)
        clear hw18
        go_wp2_with fail
        have ha19 := jd_append w gj gd 0 v17 F17 bi rs2 D3 [] none 0 w18 J18.out HK.out (strs_nil _ _) rfl (by omega) (by omega) (by simp) h3p
        rw [HAk.out] at ha19
        refine ha19.mono ?_
        clear ha19
        rintro e w19 ⟨F19, v19, rfl, j19, k19, n19⟩
        have J19 : Hid (Jd w w19 gj gd v19 F19 bi rs2 D3) := (show Jd w w19 gj gd v19 F19 bi rs2 D3 from j19)
        have V19 : Hid (Was w19 (gj :: F19) A10 rs2) := (show Was w19 (gj :: F19) A10 rs2 from V18.out.turn k19 (New.cons n19 gj))
        have hrc := jd_recs w gj gd v19 F19 bi rs2 D3 w19 J19.out
        rw [HQ.out] at hrc
        have HRC := Lib.hid hrc
        clear j19 k19 n19 hrc
        dsimp only
        rcases HCs.out with ⟨r1, h1, h2⟩ | ⟨r1, h1, h2⟩
        all_goals
          subst h1 h2
          go_wp2_with fail
          refine HRC.out.mono ?_
          rintro e w20 ⟨A20, c20, rfl, st20, ow20, b20⟩
          have V20 := V19.out.then_ b20
          have hsm := same_any A20 A10 q q c20 c10 rs2 rs2 w20 st20 V20.strs HQ.out HQ.out hq6 hq6
          rw [decide_eq_true rfl] at hsm
          have HSM := Lib.hid hsm
          have B20 : Hid (Below w.heap.size w w20) := (show Below w.heap.size w w20 from below_next J19.out.ds.below b20)
          clear hsm st20 ow20 b20 V20
          go_wp2_with fail
          refine HSM.out.mono ?_
          rintro e w21 ⟨rfl, b21⟩
          have B21 : Hid (Below w.heap.size w w21) := (show Below w.heap.size w w21 from below_next B20.out b21)
          clear b21
          go_wp2_with (first
            | (go_at_call 11; (refine (app_nil _ _).mono ?_); rintro e w22 ⟨rfl, rfl⟩)
            | (go_at_call 13; (refine (recs_nil _).mono ?_); rintro e w22 ⟨rfl, rfl⟩)
            | (go_at_call 12; (refine (room_nil _).mono ?_); rintro e w22 ⟨rfl, rfl⟩))
          go_ret
          exact ⟨rfl, B21.out⟩
      · have g2 : ¬ (N : Int) ≤ (z : Int) := by omega
        have F3' := Lib.hid f3
        clear f3
        go_wp2_with fail
        refine HRM.out.mono ?_
        rintro e w10 ⟨rfl, hw10⟩
        obtain rfl : w9 = w10 := by rw [← HW9.out, hw10]
        clear hw10
        rw [F3'.out]
        go_wp2_with fail
        refine (HLS.out _).mono ?_
        rintro e w10 ⟨rfl, rfl⟩
        go_wp2_with fail
        refine (jd_recs w gj gd v7 F7 false rs2 D2 w9 J9.out).mono ?_
        rintro e w10 ⟨A10, c10, rfl, -, ow10, b10⟩
        have J10 : Hid (Jd w w10 gj gd v7 F7 false rs2 D2) := (show Jd w w10 gj gd v7 F7 false rs2 D2 from J9.out.then_ b10)
        have W10 : Hid (Was w10 (gj :: F7) A5 l) := (show Was w10 (gj :: F7) A5 l from W9.out.then_ b10)
        have V10 : Hid (Was w10 (gj :: F7) A10 rs2) := (show Was w10 (gj :: F7) A10 rs2 from was_of_own ow10 rfl J9.out.lt)
        obtain ⟨q, hq⟩ : ∃ q, rs2.length = q := ⟨_, rfl⟩
        have hq6 : q ≤ 1000000 := by have := need_count rs2; have := J10.out.fit; have := J10.out.ds.disk.ok.max; omega
        have HQ := Lib.hid hq
        rw [hq]
        obtain ⟨p, hp⟩ : ∃ p, pk more 100 = p := ⟨_, rfl⟩
        have hpl := pk_lt more (n := 100) (by omega)
        have hpk := fun W => pick_any more 100 W HMO.out (by omega) (by omega)
        rw [hp] at hpl
        simp only [hp] at hpk
        obtain ⟨ZB, mkz, cvz⟩ := make_z (65537 + p) (by omega) (65537 + (p : Int)) (by omega)
        obtain ⟨i0, hi0, hz0, hz1, hz2⟩ := info_parts str_info1
        have I1 := Lib.hid hi0
        have I2 := Lib.hid hz0
        have I3 := Lib.hid hz1
        have I4 := Lib.hid hz2
        have HPK := Lib.hid hpk
        clear ow10 b10 hq hp hpk hi0 hz0 hz1 hz2
        go_wp2_with (first
          | (at_builtin; refine wpList_append_strs rfl (.tmp 106) (.tmp 107) 22 rfl w10.heap.size 9 i0 _ Tryd.underlying22 I1.out I2.out I3.out I4.out rfl (.slice (some ⟨w10.heap.size, 0, none⟩) 0 0) 0 [] rfl rfl (own_lit (xs := []) (heap_alloc_new _ _) (Nat.le_refl _) (by simp)) A5 k c5 l HM.out rfl (W10.out.strs.then_ (below_alloc (Below.refl _ _) _)) (by omega) (by simp) ?_; intro v11 w11 o11 k11; have O11 := Lib.hid o11; have K11 := Lib.hid k11; clear o11 k11)
          | (at_builtin; refine wpList_append_strs rfl (.tmp 108) (.tmp 114) 22 rfl w10.heap.size 9 i0 _ Tryd.underlying22 I1.out I2.out I3.out I4.out rfl v11 (0 + k) ([] ++ l) rfl (by rw [List.nil_append, HM.out, Nat.zero_add]) (own_then (own_then O11.out (below_alloc (Below.refl _ _) ZB)) (below_alloc (Below.refl _ _) _)) (some ⟨w11.heap.size + 1, 0, none⟩) 1 1 [zeros (65537 + p)] rfl rfl (strs_lit1 w11 ZB [zeros (65537 + p)] 9) (by omega) (by have := K11.out.size; simp at this ⊢; omega) ?_; intro v13 w13 o13 k13; have O13 := Lib.hid o13; have K13 := Lib.hid k13; clear o13 k13)
          | (go_at_call 14; (refine (HPK.out _).mono ?_); rintro e w12 ⟨rfl, rfl⟩))
        obtain ⟨A13, n13, c13, h13⟩ := own_slice O13.out
        subst h13
        obtain ⟨hn13, hc13⟩ := own_len O13.out
        subst hn13
        have B11 : Below w10.heap.size w10 w11 := K11.out.below_next (below_alloc (Below.refl _ _) _) (by simp) (fun x hx => own_one hx)
        have B13 : Below w10.heap.size w10 w13 := K13.out.below_next (below_next B11 (below_alloc (below_alloc (Below.refl _ _) ZB) _)) (by have := B11.size; simp; omega) (fun x hx => (O11.out.lt x (Option.mem_toList.1 hx)).1)
        have J13 : Hid (Jd w w13 gj gd v7 F7 false rs2 D2) := (show Jd w w13 gj gd v7 F7 false rs2 D2 from J10.out.then_ B13)
        have V13 : Hid (Was w13 (gj :: F7) A10 rs2) := (show Was w13 (gj :: F7) A10 rs2 from V10.out.then_ B13)
        have ha14 := jd_append w gj gd (0 + k + 1) v7 F7 false rs2 D2 ([] ++ l ++ [zeros (65537 + p)]) A13 c13 w13 J13.out HK.out (own_strs O13.out (by rw [List.length_append, List.nil_append, HM.out]; simp)) (by rw [List.length_append, List.nil_append, HM.out]; simp) (by omega) hc13 (fun s hs => by
          rw [List.nil_append] at hs
          rcases List.mem_append.1 hs with hs | hs
          · have := HLs.out s hs; omega
          · rw [List.mem_singleton.1 hs, zeros_size]; omega) hp2
        rw [apR_long (by rw [List.any_append]; simp [longB, zeros_size]; right; omega)] at ha14
        refine ha14.mono ?_
        clear ha14 B11 B13 mkz cvz
        rintro e w14 ⟨F14, v14, rfl, j14, k14, n14⟩
        have J14 : Hid (Jd w w14 gj gd v14 F14 false rs2 D2) := (show Jd w w14 gj gd v14 F14 false rs2 D2 from j14)
        have V14 : Hid (Was w14 (gj :: F14) A10 rs2) := (show Was w14 (gj :: F14) A10 rs2 from V13.out.turn k14 (New.cons n14 gj))
        clear j14 k14 n14
        dsimp only
        have ha15 := fun W (hW : Jd w W gj gd v14 F14 false rs2 D2) => jd_append w gj gd 0 v14 F14 false rs2 D2 [] none 0 W hW HK.out (strs_nil _ _) rfl (by omega) (by omega) (by simp) hp2
        have hap15 := apR_none (rs := rs2) J14.out.fit
        rw [hap15] at ha15
        have HA15 := Lib.hid ha15
        clear ha15 hap15
        go_wp2_with fail
        refine (HA15.out _ J14.out).mono ?_
        rintro e w15 ⟨F15, v15, rfl, j15, k15, n15⟩
        have J15 : Hid (Jd w w15 gj gd v15 F15 false rs2 D2) := (show Jd w w15 gj gd v15 F15 false rs2 D2 from j15)
        have V15 : Hid (Was w15 (gj :: F15) A10 rs2) := (show Was w15 (gj :: F15) A10 rs2 from V14.out.turn k15 (New.cons n15 gj))
        clear j15 k15 n15
        dsimp only
        obtain ⟨D3, hD3⟩ : ∃ D3, cu D2 0 = D3 := ⟨_, rfl⟩
        have hcut := cut_yes 0 gd F15 D2 w15 J15.out.ds.disk HG2.out.good.on (by omega) (by omega)
        rw [hD3] at hcut
        have h3o : D3.off = true := by rw [← hD3]; rfl
        have h3l : D3.sure.length = D2.sure.length := by rw [← hD3]; rfl
        have h3p : D3.pend.length ≤ 800000 := by rw [← hD3]; exact hp2
        have H3O := Lib.hid h3o
        have H3L := Lib.hid h3l
        have HCut := Lib.hid hcut
        clear hcut hD3 h3o h3l
        go_wp2_with fail
        refine HCut.out.mono ?_
        rintro e w16 ⟨F16, rfl, d16, k16, n16⟩
        have S16 := J15.out.ds.turn d16 k16 n16
        have J16 : Hid (Jd w w16 gj gd v15 F16 false rs2 D3) := (show Jd w w16 gj gd v15 F16 false rs2 D3 from J15.out.turn S16 k16 n16 H3L.out)
        have V16 : Hid (Was w16 (gj :: F16) A10 rs2) := (show Was w16 (gj :: F16) A10 rs2 from V15.out.turn (k16.mono (fun x hx => List.mem_cons_of_mem _ hx)) (New.cons n16 gj))
        clear d16 k16 n16 S16
        have hxs : ∀ r ∈ [(⟨#[120]⟩ : ByteArray)], r.size ≤ 65536 := by intro r hr; rw [List.mem_singleton.1 hr]; decide
        have hz3 : D3.sure.length = z := by rw [H3L.out, HG2.out.len]
        obtain ⟨ci, bi, ck, hai, hak, hcs⟩ : ∃ ci bi ck, apR false rs2 D3 [⟨#[120]⟩] = (ci, bi, rs2, D3) ∧ apR bi rs2 D3 [] = (ck, bi, rs2, D3) ∧ ((R < 35 ∧ ci = 341 ∧ ck = 0) ∨ (¬ R < 35 ∧ ci = 331 ∧ ck = 340)) := by
          by_cases h35 : R < 35
          · exact ⟨341, false, 0, apR_full false rfl hxs (by rw [hz3, need_x]; have := HR.out; omega), apR_none J16.out.fit, .inl ⟨h35, rfl, rfl⟩⟩
          · exact ⟨331, true, 340, apR_off H3O.out hxs (by simp) (by rw [hz3, need_x]; have := HR.out; omega), apR_broken, .inr ⟨h35, rfl, rfl⟩⟩
        have HAi := Lib.hid hai
        have HAk := Lib.hid hak
        have HCs := Lib.hid hcs
        clear hai hak hcs hz3 hxs
        go_wp2_with fail
        have ha17 := jd_append w gj gd 1 v15 F16 false rs2 D3 [⟨#[120]⟩] (some ⟨w16.heap.size, 0, none⟩) 1 (w16.alloc (.cells #[.string ⟨#[120]⟩] 9)) (J16.out.alloc _) HK.out (strs_lit w16 [⟨#[120]⟩] 9) rfl (by omega) (by omega) (by intro s hs; rw [List.mem_singleton.1 hs]; decide) h3p
        rw [HAi.out] at ha17
        refine ha17.mono ?_
        clear ha17
        rintro e w17 ⟨F17, v17, rfl, j17, k17, n17⟩
        have J17 : Hid (Jd w w17 gj gd v17 F17 bi rs2 D3) := (show Jd w w17 gj gd v17 F17 bi rs2 D3 from j17)
        have V17 : Hid (Was w17 (gj :: F17) A10 rs2) := (show Was w17 (gj :: F17) A10 rs2 from (V16.out.then_ (below_alloc (Below.refl _ _) _)).turn k17 (New.cons n17 gj))
        clear j17 k17 n17
        dsimp only
        have hr17 := jd_room w gj gd v17 F17 bi rs2 D3 w17 J17.out
        rw [H3L.out, HG2.out.len, HR.out] at hr17
        have HR17 := Lib.hid hr17
        clear hr17
        go_wp2_with fail
        refine HR17.out.mono ?_
        rintro e w18 ⟨rfl, hw18⟩
        have J18 : Hid (Jd w w18 gj gd v17 F17 bi rs2 D3) := (show Jd w w18 gj gd v17 F17 bi rs2 D3 by rw [← hw18]; exact J17.out.drew)
        have V18 : Hid (Was w18 (gj :: F17) A10 rs2) := (show Was w18 (gj :: F17) A10 rs2 by rw [← hw18]; exact V17.out.then_ (Below.refl _ _).drew)
        clear hw18
        go_wp2_with fail
        have ha19 := jd_append w gj gd 0 v17 F17 bi rs2 D3 [] none 0 w18 J18.out HK.out (strs_nil _ _) rfl (by omega) (by omega) (by simp) h3p
        rw [HAk.out] at ha19
        refine ha19.mono ?_
        clear ha19
        rintro e w19 ⟨F19, v19, rfl, j19, k19, n19⟩
        have J19 : Hid (Jd w w19 gj gd v19 F19 bi rs2 D3) := (show Jd w w19 gj gd v19 F19 bi rs2 D3 from j19)
        have V19 : Hid (Was w19 (gj :: F19) A10 rs2) := (show Was w19 (gj :: F19) A10 rs2 from V18.out.turn k19 (New.cons n19 gj))
        have hrc := jd_recs w gj gd v19 F19 bi rs2 D3 w19 J19.out
        rw [HQ.out] at hrc
        have HRC := Lib.hid hrc
        clear j19 k19 n19 hrc
        dsimp only
        rcases HCs.out with ⟨r1, h1, h2⟩ | ⟨r1, h1, h2⟩
        all_goals
          subst h1 h2
          go_wp2_with fail
          refine HRC.out.mono ?_
          rintro e w20 ⟨A20, c20, rfl, st20, ow20, b20⟩
          have V20 := V19.out.then_ b20
          have hsm := same_any A20 A10 q q c20 c10 rs2 rs2 w20 st20 V20.strs HQ.out HQ.out hq6 hq6
          rw [decide_eq_true rfl] at hsm
          have HSM := Lib.hid hsm
          have B20 : Hid (Below w.heap.size w w20) := (show Below w.heap.size w w20 from below_next J19.out.ds.below b20)
          clear hsm st20 ow20 b20 V20
          go_wp2_with fail
          refine HSM.out.mono ?_
          rintro e w21 ⟨rfl, b21⟩
          have B21 : Hid (Below w.heap.size w w21) := (show Below w.heap.size w w21 from below_next B20.out b21)
          clear b21
          go_wp2_with (first
            | (go_at_call 11; (refine (app_nil _ _).mono ?_); rintro e w22 ⟨rfl, rfl⟩)
            | (go_at_call 13; (refine (recs_nil _).mono ?_); rintro e w22 ⟨rfl, rfl⟩)
            | (go_at_call 12; (refine (room_nil _).mono ?_); rintro e w22 ⟨rfl, rfl⟩))
          go_ret
          exact ⟨rfl, B21.out⟩
end Go.Proofs.YtnjkinljpekohaaDoor.Jo
