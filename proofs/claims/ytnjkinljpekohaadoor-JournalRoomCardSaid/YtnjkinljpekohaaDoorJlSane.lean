/- The function sane of the laws of chapter 34. -/
import Derived.Test.YtnjkinljpekohaaDoorBk
namespace Go.Proofs.YtnjkinljpekohaaDoor.Jo
open Go.RowKit Sha Dsk Jr
attribute [local go_sem] Oper.semAt_some
theorem strs_lit (W : World) (l : List ByteArray) (t : TypeId) : StrsAt (W.alloc (.cells (svs l).toArray t)) (some ⟨W.heap.size, 0, none⟩) l := fun i hi => by
  refine ⟨W.heap.size, 0, rfl, ?_⟩
  rw [Nat.zero_add]
  refine new_cell ?_
  simp [svs, hi, List.getD]
theorem make_z (n : Nat) (hn : n ≤ 4194304) (k : Int) (hk : k = (n : Int)) : ∃ ZB : Obj, (∀ W : World, (Instr.makeSlice 38 (.int .i64 k) (.int .i64 k)).run Tryd.prog W = .ok (.slice (some ⟨W.heap.size, 0, none⟩) n n) (W.alloc ZB)) ∧
    ∀ W : World, (convert 38 9 (.slice (some ⟨W.heap.size, 0, none⟩) n n)).run Tryd.prog (W.alloc ZB) = .ok (.string (zeros n)) (W.alloc ZB) := by
  subst hk
  refine ⟨.cells (bcs (List.replicate n 0)).toArray 5 (0, 0), fun W => make_bytes n hn W, fun W => ?_⟩
  have := conv_row (w := W.alloc (.cells (bcs (List.replicate n 0)).toArray 5 (0, 0))) (g := W.heap.size) (L := List.replicate n 0) (heap_alloc_new _ _) 0 n n (by simp)
  rw [List.drop_zero, List.take_of_length_le (by simp)] at this
  exact this
set_option maxRecDepth 100000 in
set_option maxHeartbeats 4000000 in
theorem sane_any (a : Addr) (w : World) (hK : RoundIn w) (hE : ErrIn w 155 (.pointer (some a))) : Calls Tryd.prog 5 #[] w fun e w' => e = .returned (.bool true) ∧ Below w.heap.size w w' := by
  obtain ⟨Z96, mk96, cv96⟩ := make_z 96 (by omega) 96 rfl
  obtain ⟨Z95, mk95, cv95⟩ := make_z 95 (by omega) 95 rfl
  obtain ⟨D2, hap2, hg2⟩ := apR_good (l := [abS, ⟨#[]⟩]) (Good0.new 200) (by intro r hr; simp at hr; rcases hr with rfl | rfl <;> decide) (by rw [need_ab]; decide)
  have hap3 : apR false ([] ++ [abS, ⟨#[]⟩]) D2 [zeros 96] = (341, false, [] ++ [abS, ⟨#[]⟩], D2) := apR_full false rfl (by intro r hr; simp at hr; rw [hr, zeros_size]; omega) (by rw [hg2.len, List.nil_append, need_ab, need_96]; omega)
  obtain ⟨D4, hap4, hg4⟩ := apR_good (l := [zeros 95]) hg2 (by intro r hr; simp at hr; rw [hr, zeros_size]; omega) (by rw [List.nil_append, need_ab, need_95]; omega)
  rw [List.nil_append] at hap2 hg2 hap3 hap4 hg4
  obtain ⟨rs, hrs⟩ : ∃ rs, [abS, ⟨#[]⟩] ++ [zeros 95] = rs := ⟨_, rfl⟩
  rw [hrs] at hap4 hg4
  have HK := Lib.hid hK
  have HE := Lib.hid hE
  have A2 := Lib.hid hap2
  have A3 := Lib.hid hap3
  have A4 := Lib.hid hap4
  have G2 := Lib.hid hg2
  have G4 := Lib.hid hg4
  have HRS := Lib.hid hrs
  clear hK hE hap2 hap3 hap4 hg2 hg4 hrs
  have hnew := new_any 200 w (by omega) (by omega)
  rw [show (((200 : Nat)) : Int) = 200 from rfl] at hnew
  have HNW := Lib.hid hnew
  clear hnew
  go_enter Tryd.func5, Tryd.ntmps5
  go_wp2_with fail
  refine HNW.out.mono ?_
  rintro e w1 ⟨gd, F1, rfl, d1, n1, b1⟩
  have S1 : Hid (Ds w w1 gd F1 (nw 200)) := (show Ds w w1 gd F1 (nw 200) from ⟨d1, n1, b1⟩)
  clear d1 n1 b1
  go_wp2_with fail
  refine (jd_open w gd F1 (nw 200) a w1 S1.out HK.out HE.out (by simp [nw])).mono ?_
  rw [opR_good (Good0.new 200).good (by simp)]
  rintro e w2 ⟨F2, s2, -, -, gj, v2, rfl, j2, -⟩
  have J2 := Lib.hid j2
  clear s2 j2
  go_wp2_with fail
  have hr3 := jd_recs w gj gd v2 F2 false [] _ w2 J2.out
  refine hr3.mono ?_
  rintro e w3 ⟨A3', c3, rfl, -, -, b3⟩
  have J3 := Lib.hid (J2.out.then_ b3)
  have hrm := jd_room w gj gd v2 F2 false [] _ w3 J3.out
  rw [show (((nw 200).sure.length : Nat) : Int) - ((need [] : Nat) : Int) = 200 by simp [nw, need]] at hrm
  have HRM := Lib.hid hrm
  clear b3 hr3 hrm
  rw [List.length_nil]
  go_wp2_with fail
  refine HRM.out.mono ?_
  rintro e w4 ⟨rfl, hw4⟩
  have J4 : Hid (Jd w w4 gj gd v2 F2 false [] (nw 200)) := (show Jd w w4 gj gd v2 F2 false [] (nw 200) by rw [← hw4]; exact J3.out.drew)
  clear hw4
  go_wp2_with fail
  have ha5 := jd_append w gj gd 2 v2 F2 false [] (nw 200) [abS, ⟨#[]⟩] (some ⟨w4.heap.size, 0, none⟩) 2 (w4.alloc (.cells #[.string abS, .string ⟨#[]⟩] 9)) (J4.out.alloc _) HK.out (strs_lit w4 [abS, ⟨#[]⟩] 9) rfl (by omega) (by omega) (by intro s hs; simp at hs; rcases hs with rfl | rfl <;> decide) (by simp [nw])
  rw [A2.out] at ha5
  refine ha5.mono ?_
  clear ha5
  rintro e w5 ⟨F5, v5, rfl, j5, -, -⟩
  have J5 : Hid (Jd w w5 gj gd v5 F5 false [abS, ⟨#[]⟩] D2) := (show Jd w w5 gj gd v5 F5 false [abS, ⟨#[]⟩] D2 from j5)
  clear j5
  dsimp only
  go_wp2_with fail
  obtain ⟨W6, hW6⟩ : ∃ W6, w5.alloc Z96 = W6 := ⟨_, rfl⟩
  have hz6 : w5.heap.size + 1 = W6.heap.size := by rw [← hW6]; simp
  have J6 : Hid (Jd w W6 gj gd v5 F5 false [abS, ⟨#[]⟩] D2) := (show Jd w W6 gj gd v5 F5 false [abS, ⟨#[]⟩] D2 by rw [← hW6]; exact J5.out.alloc _)
  have hp2 : D2.pend.length ≤ 800000 := by rw [G2.out.good.none]; decide
  have hp4 : D4.pend.length ≤ 700000 := by rw [G4.out.good.none]; decide
  have ha6 := jd_append w gj gd 1 v5 F5 false [abS, ⟨#[]⟩] D2 [zeros 96] (some ⟨W6.heap.size, 0, none⟩) 1 (W6.alloc (.cells #[.string (zeros 96)] 9)) (J6.out.alloc _) HK.out (strs_lit W6 [zeros 96] 9) rfl (by omega) (by omega) (by intro s hs; simp at hs; rw [hs, zeros_size]; omega) hp2
  rw [A3.out] at ha6
  have HP2 := Lib.hid hp2
  rw [hW6, hz6]
  refine ha6.mono ?_
  clear ha6 hW6 hz6
  rintro e w7 ⟨F7, v7, rfl, j7, -, -⟩
  have J7 : Hid (Jd w w7 gj gd v7 F7 false [abS, ⟨#[]⟩] D2) := (show Jd w w7 gj gd v7 F7 false [abS, ⟨#[]⟩] D2 from j7)
  clear j7
  dsimp only
  have hr7 := jd_room w gj gd v7 F7 false [abS, ⟨#[]⟩] D2 w7 J7.out
  rw [G2.out.len, need_ab, show (((200 : Nat)) : Int) - ((70 : Nat) : Int) = 130 by omega] at hr7
  have HR7 := Lib.hid hr7
  clear hr7
  go_wp2_with fail
  refine HR7.out.mono ?_
  rintro e w8 ⟨rfl, hw8⟩
  have J8 : Hid (Jd w w8 gj gd v7 F7 false [abS, ⟨#[]⟩] D2) := (show Jd w w8 gj gd v7 F7 false [abS, ⟨#[]⟩] D2 by rw [← hw8]; exact J7.out.drew)
  clear hw8
  go_wp2_with fail
  obtain ⟨W9, hW9⟩ : ∃ W9, w8.alloc Z95 = W9 := ⟨_, rfl⟩
  have hz9 : w8.heap.size + 1 = W9.heap.size := by rw [← hW9]; simp
  have J9 : Hid (Jd w W9 gj gd v7 F7 false [abS, ⟨#[]⟩] D2) := (show Jd w W9 gj gd v7 F7 false [abS, ⟨#[]⟩] D2 by rw [← hW9]; exact J8.out.alloc _)
  have ha9 := jd_append w gj gd 1 v7 F7 false [abS, ⟨#[]⟩] D2 [zeros 95] (some ⟨W9.heap.size, 0, none⟩) 1 (W9.alloc (.cells #[.string (zeros 95)] 9)) (J9.out.alloc _) HK.out (strs_lit W9 [zeros 95] 9) rfl (by omega) (by omega) (by intro s hs; simp at hs; rw [hs, zeros_size]; omega) HP2.out
  rw [A4.out] at ha9
  rw [hW9, hz9]
  refine ha9.mono ?_
  clear ha9 hW9 hz9
  rintro e w10 ⟨F10, v10, rfl, j10, -, -⟩
  have J10 : Hid (Jd w w10 gj gd v10 F10 false rs D4) := (show Jd w w10 gj gd v10 F10 false rs D4 from j10)
  clear j10
  dsimp only
  go_wp2_with fail
  have ho11 := jd_open w gd F10 D4 a w10 J10.out.ds HK.out HE.out (by omega)
  rw [opR_good G4.out.good G4.out.small] at ho11
  refine ho11.mono ?_
  clear ho11
  rintro e w11 ⟨F11, s11, k11, n11, gk, vk, rfl, kj11, fk11⟩
  have JK : Hid (Jd w w11 gk gd vk F11 false rs D4) := (show Jd w w11 gk gd vk F11 false rs D4 from kj11)
  have J11 : Hid (Jd w w11 gj gd v10 F11 false rs D4) := (show Jd w w11 gj gd v10 F11 false rs D4 from J10.out.turn s11 k11 n11 rfl)
  clear s11 k11 n11 kj11 fk11
  go_wp2_with fail
  have hw12 := write_in 0 ⟨#[2]⟩ gd F11 D4 w11 JK.out.ds.disk G4.out.good.on (by rw [G4.out.len]; decide) (by omega)
  rw [show (((0 : Nat)) : Int) = 0 from rfl] at hw12
  refine hw12.mono ?_
  clear hw12
  rintro e w12 ⟨F12, rfl, d12, k12, n12⟩
  obtain ⟨D5, hD5⟩ : ∃ D5, wr D4 0 ⟨#[2]⟩ = D5 := ⟨_, rfl⟩
  rw [hD5] at d12
  have h5l : D5.sure.length = D4.sure.length := by rw [← hD5]; rfl
  have h5o : D5.off = false := by rw [← hD5]; exact offW_false G4.out.good.on (by rw [G4.out.left]; decide)
  have h5v : D5.vis.getD 0 0 = 2 := by
    rw [← hD5]
    show (over D4.vis (0, ⟨#[2]⟩)).getD 0 0 = 2
    rfl
  have h5n : 0 < D5.vis.length := by
    have := d12.ok.len
    rw [this, h5l, G4.out.len]; decide
  have h5p : D5.pend.length ≤ 800000 := by
    rw [← hD5]
    show (D4.pend ++ [_]).length ≤ _
    rw [List.length_append, List.length_singleton]; omega
  have S12 := JK.out.ds.turn d12 k12 n12
  have J12 : Hid (Jd w w12 gj gd v10 F12 false rs D5) := (show Jd w w12 gj gd v10 F12 false rs D5 from J11.out.turn S12 k12 n12 h5l)
  have JK12 : Hid (Jd w w12 gk gd vk F12 false rs D5) := (show Jd w w12 gk gd vk F12 false rs D5 from JK.out.turn S12 k12 n12 h5l)
  have hb := opR_bad h5o (by rw [h5v]; decide) (by rw [h5v]; decide) h5n
  have ho13 := jd_open w gd F12 D5 a w12 S12 HK.out HE.out (by omega)
  rw [hb] at ho13
  have HO13 := Lib.hid ho13
  have H5L := Lib.hid h5l
  clear hD5 d12 k12 n12 h5l h5o h5v h5n h5p hb ho13 S12
  go_wp2_with fail
  refine HO13.out.mono ?_
  rintro e w13 ⟨F13, s13, k13, n13, he⟩
  obtain rfl : e = .returned (.tuple #[.pointer none, .int .i64 342]) := he
  have J13 : Hid (Jd w w13 gj gd v10 F13 false rs D5) := (show Jd w w13 gj gd v10 F13 false rs D5 from J12.out.turn s13 k13 n13 rfl)
  have JK13 : Hid (Jd w w13 gk gd vk F13 false rs D5) := (show Jd w w13 gk gd vk F13 false rs D5 from JK12.out.turn s13 k13 n13 rfl)
  clear s13 k13 n13
  go_wp2_with (go_at_call 8; (refine (opn_nil _).mono ?_); rintro e w14 ⟨rfl, rfl⟩)
  have hlr : rs.length = 3 := by rw [← HRS.out]; rfl
  have hr14 := jd_room w gj gd v10 F13 false rs D5 w13 J13.out
  have hn14 : need rs = 200 := by rw [← HRS.out, need_append, need_ab, need_95]
  rw [H5L.out, G4.out.len, hn14, show (((200 : Nat)) : Int) - ((200 : Nat) : Int) = 0 by omega] at hr14
  refine hr14.mono ?_
  clear hr14 hn14
  rintro e w14 ⟨rfl, hw14⟩
  have JK14 : Hid (Jd w w14 gk gd vk F13 false rs D5) := (show Jd w w14 gk gd vk F13 false rs D5 by rw [← hw14]; exact JK13.out.drew)
  clear hw14
  have hr15 := jd_recs w gk gd vk F13 false rs D5 w14 JK14.out
  rw [hlr] at hr15
  have HR15 := Lib.hid hr15
  have HLR := Lib.hid hlr
  clear hr15 hlr
  go_wp2_with fail
  refine HR15.out.mono ?_
  rintro e w15 ⟨A15, c15, rfl, -, -, b15⟩
  have JK15 : Hid (Jd w w15 gk gd vk F13 false rs D5) := (show Jd w w15 gk gd vk F13 false rs D5 from JK14.out.then_ b15)
  have hr16 := jd_recs w gk gd vk F13 false rs D5 w15 JK15.out
  rw [HLR.out] at hr16
  have HR16 := Lib.hid hr16
  clear hr16 b15
  go_wp2_with fail
  refine HR16.out.mono ?_
  rintro e w16 ⟨A16, c16, rfl, st16, -, b16⟩
  obtain ⟨b0, o0, rfl, h0⟩ := st16 0 (by rw [HLR.out]; omega)
  have hab : rs.getD 0 ⟨#[]⟩ = abS := by rw [← HRS.out]; rfl
  rw [hab, Nat.add_zero] at h0
  have B16 : Hid (Below w.heap.size w w16) := (show Below w.heap.size w w16 from below_next JK15.out.ds.below b16)
  have hq2 : abS.toList = [97, 98] := by rw [ByteArray.toList_eq]; rfl
  clear st16 b16 hab
  go_wp2_with fail
  go_ret
  exact ⟨rfl, B16.out⟩
end Go.Proofs.YtnjkinljpekohaaDoor.Jo
