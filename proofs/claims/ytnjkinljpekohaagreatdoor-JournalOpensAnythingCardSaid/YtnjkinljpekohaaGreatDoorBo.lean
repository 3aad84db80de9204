/- The function sane of the laws of chapter 34. JournalReopens: the law. Lists of strings that lie apart from a journal and its disk. A journal whose disk loses its power: what a crash and Open then give; plain. -/
import Derived.Test.YtnjkinljpekohaaGreatDoorBk
import Derived.Test.YtnjkinljpekohaaGreatDoorBs
namespace Go.Proofs.YtnjkinljpekohaaGreatDoor.Jo
open Go.RowKit Sha Dsk Jr
attribute [local go_sem] Oper.semAt_some
theorem strs_lit (W : World) (l : List ByteArray) (t : TypeId) : StrsAt (W.alloc (.cells (svs l).toArray t)) (some ⟨W.heap.size, 0, none⟩) l := fun i hi => by
  refine ⟨W.heap.size, 0, rfl, ?_⟩
  rw [Nat.zero_add]
  refine new_cell ?_
  simp [svs, hi, List.getD]
theorem make_z (n : Nat) (hn : n ≤ 4194304) (k : Int) (hk : k = (n : Int)) : ∃ ZB : Obj, (∀ W : World, (Instr.makeSlice 53 (.int .i64 k) (.int .i64 k)).run Tryz.prog W = .ok (.slice (some ⟨W.heap.size, 0, none⟩) n n) (W.alloc ZB)) ∧
    ∀ W : World, (convert 53 9 (.slice (some ⟨W.heap.size, 0, none⟩) n n)).run Tryz.prog (W.alloc ZB) = .ok (.string (zeros n)) (W.alloc ZB) := by
  subst hk
  refine ⟨.cells (bcs (List.replicate n 0)).toArray 5 (0, 0), fun W => make_bytes n hn W, fun W => ?_⟩
  have := conv_row (w := W.alloc (.cells (bcs (List.replicate n 0)).toArray 5 (0, 0))) (g := W.heap.size) (L := List.replicate n 0) (heap_alloc_new _ _) 0 n n (by simp)
  rw [List.drop_zero, List.take_of_length_le (by simp)] at this
  exact this
set_option maxRecDepth 100000 in
set_option maxHeartbeats 4000000 in
theorem sane_any (a : Addr) (w : World) (hK : RoundIn w) (hE : ErrIn w 222 (.pointer (some a))) : Calls Tryz.prog 8 #[] w fun e w' => e = .returned (.bool true) ∧ Below w.heap.size w w' := by
  obtain ⟨Z96, mk96, cv96⟩ := make_z 96 (by omega) 96 rfl
  obtain ⟨Z95, mk95, cv95⟩ := make_z 95 (by omega) 95 rfl
  obtain ⟨D2, hap2, hg2⟩ := apR_good (l := [abS, ⟨#[]⟩]) (Good0.new 200) (by intro r hr; simp at hr; rcases hr with rfl | rfl <;> decide) (by rw [need_ab]; decide)
  have hap3 : apR false ([] ++ [abS, ⟨#[]⟩]) D2 [zeros 96] = (341, false, [] ++ [abS, ⟨#[]⟩], D2) := apR_full false rfl (by intro r hr; simp at hr; rw [hr, zeros_size]; omega) (by rw [hg2.len, List.nil_append, need_ab, need_96]; omega)
  obtain ⟨D4, hap4, hg4⟩ := apR_good (l := [zeros 95]) hg2 (by intro r hr; simp at hr; rw [hr, zeros_size]; omega) (by rw [List.nil_append, need_ab, need_95]; omega)
  rw [List.nil_append] at hap2 hg2 hap3 hap4 hg4
  obtain ⟨rs, hrs⟩ : ∃ rs, [abS, ⟨#[]⟩] ++ [zeros 95] = rs := ⟨_, rfl⟩
  rw [hrs] at hap4 hg4
  have HK := Lib.hid hK
  have HE := Lib.hid hE
  have A2 := Lib.hid hap2
  have A3 := Lib.hid hap3
  have A4 := Lib.hid hap4
  have G2 := Lib.hid hg2
  have G4 := Lib.hid hg4
  have HRS := Lib.hid hrs
  clear hK hE hap2 hap3 hap4 hg2 hg4 hrs
  have hnew := new_any 200 w (by omega) (by omega)
  rw [show (((200 : Nat)) : Int) = 200 from rfl] at hnew
  have HNW := Lib.hid hnew
  clear hnew
  go_enter Tryz.func8, Tryz.ntmps8
  go_wp2_with fail
  refine HNW.out.mono ?_
  rintro e w1 ⟨gd, F1, rfl, d1, n1, b1⟩
  have S1 : Hid (Ds w w1 gd F1 (nw 200)) := (show Ds w w1 gd F1 (nw 200) from ⟨d1, n1, b1⟩)
  clear d1 n1 b1
  go_wp2_with fail
  refine (jd_open w gd F1 (nw 200) a w1 S1.out HK.out HE.out (by simp [nw])).mono ?_
  rw [opR_good (Good0.new 200).good (by simp)]
  rintro e w2 ⟨F2, s2, -, -, gj, v2, rfl, j2, -⟩
  have J2 := Lib.hid j2
  clear s2 j2
  go_wp2_with fail
  have hr3 := jd_recs w gj gd v2 F2 false [] _ w2 J2.out
  refine hr3.mono ?_
  rintro e w3 ⟨A3', c3, rfl, -, -, b3⟩
  have J3 := Lib.hid (J2.out.then_ b3)
  have hrm := jd_room w gj gd v2 F2 false [] _ w3 J3.out
  rw [show (((nw 200).sure.length : Nat) : Int) - ((need [] : Nat) : Int) = 200 by simp [nw, need]] at hrm
  have HRM := Lib.hid hrm
  clear b3 hr3 hrm
  rw [List.length_nil]
  go_wp2_with fail
  refine HRM.out.mono ?_
  rintro e w4 ⟨rfl, hw4⟩
  have J4 : Hid (Jd w w4 gj gd v2 F2 false [] (nw 200)) := (show Jd w w4 gj gd v2 F2 false [] (nw 200) by rw [← hw4]; exact J3.out.drew)
  clear hw4
  go_wp2_with fail
  have ha5 := jd_append w gj gd 2 v2 F2 false [] (nw 200) [abS, ⟨#[]⟩] (some ⟨w4.heap.size, 0, none⟩) 2 (w4.alloc (.cells #[.string abS, .string ⟨#[]⟩] 9)) (J4.out.alloc _) HK.out (strs_lit w4 [abS, ⟨#[]⟩] 9) rfl (by omega) (by omega) (by intro s hs; simp at hs; rcases hs with rfl | rfl <;> decide) (by simp [nw])
  rw [A2.out] at ha5
  refine ha5.mono ?_
  clear ha5
  rintro e w5 ⟨F5, v5, rfl, j5, -, -⟩
  have J5 : Hid (Jd w w5 gj gd v5 F5 false [abS, ⟨#[]⟩] D2) := (show Jd w w5 gj gd v5 F5 false [abS, ⟨#[]⟩] D2 from j5)
  clear j5
  dsimp only
  go_wp2_with fail
  obtain ⟨W6, hW6⟩ : ∃ W6, w5.alloc Z96 = W6 := ⟨_, rfl⟩
  have hz6 : w5.heap.size + 1 = W6.heap.size := by rw [← hW6]; simp
  have J6 : Hid (Jd w W6 gj gd v5 F5 false [abS, ⟨#[]⟩] D2) := (show Jd w W6 gj gd v5 F5 false [abS, ⟨#[]⟩] D2 by rw [← hW6]; exact J5.out.alloc _)
  have hp2 : D2.pend.length ≤ 800000 := by rw [G2.out.good.none]; decide
  have hp4 : D4.pend.length ≤ 700000 := by rw [G4.out.good.none]; decide
  have ha6 := jd_append w gj gd 1 v5 F5 false [abS, ⟨#[]⟩] D2 [zeros 96] (some ⟨W6.heap.size, 0, none⟩) 1 (W6.alloc (.cells #[.string (zeros 96)] 9)) (J6.out.alloc _) HK.out (strs_lit W6 [zeros 96] 9) rfl (by omega) (by omega) (by intro s hs; simp at hs; rw [hs, zeros_size]; omega) hp2
  rw [A3.out] at ha6
  have HP2 := Lib.hid hp2
  rw [hW6, hz6]
  refine ha6.mono ?_
  clear ha6 hW6 hz6
  rintro e w7 ⟨F7, v7, rfl, j7, -, -⟩
  have J7 : Hid (Jd w w7 gj gd v7 F7 false [abS, ⟨#[]⟩] D2) := (show Jd w w7 gj gd v7 F7 false [abS, ⟨#[]⟩] D2 from j7)
  clear j7
  dsimp only
  have hr7 := jd_room w gj gd v7 F7 false [abS, ⟨#[]⟩] D2 w7 J7.out
  rw [G2.out.len, need_ab, show (((200 : Nat)) : Int) - ((70 : Nat) : Int) = 130 by omega] at hr7
  have HR7 := Lib.hid hr7
  clear hr7
  go_wp2_with fail
  refine HR7.out.mono ?_
  rintro e w8 ⟨rfl, hw8⟩
  have J8 : Hid (Jd w w8 gj gd v7 F7 false [abS, ⟨#[]⟩] D2) := (show Jd w w8 gj gd v7 F7 false [abS, ⟨#[]⟩] D2 by rw [← hw8]; exact J7.out.drew)
  clear hw8
  go_wp2_with fail
  obtain ⟨W9, hW9⟩ : ∃ W9, w8.alloc Z95 = W9 := ⟨_, rfl⟩
  have hz9 : w8.heap.size + 1 = W9.heap.size := by rw [← hW9]; simp
  have J9 : Hid (Jd w W9 gj gd v7 F7 false [abS, ⟨#[]⟩] D2) := (show Jd w W9 gj gd v7 F7 false [abS, ⟨#[]⟩] D2 by rw [← hW9]; exact J8.out.alloc _)
  have ha9 := jd_append w gj gd 1 v7 F7 false [abS, ⟨#[]⟩] D2 [zeros 95] (some ⟨W9.heap.size, 0, none⟩) 1 (W9.alloc (.cells #[.string (zeros 95)] 9)) (J9.out.alloc _) HK.out (strs_lit W9 [zeros 95] 9) rfl (by omega) (by omega) (by intro s hs; simp at hs; rw [hs, zeros_size]; omega) HP2.out
  rw [A4.out] at ha9
  rw [hW9, hz9]
  refine ha9.mono ?_
  clear ha9 hW9 hz9
  rintro e w10 ⟨F10, v10, rfl, j10, -, -⟩
  have J10 : Hid (Jd w w10 gj gd v10 F10 false rs D4) := (show Jd w w10 gj gd v10 F10 false rs D4 from j10)
  clear j10
  dsimp only
  go_wp2_with fail
  have ho11 := jd_open w gd F10 D4 a w10 J10.out.ds HK.out HE.out (by omega)
  rw [opR_good G4.out.good G4.out.small] at ho11
  refine ho11.mono ?_
  clear ho11
  rintro e w11 ⟨F11, s11, k11, n11, gk, vk, rfl, kj11, fk11⟩
  have JK : Hid (Jd w w11 gk gd vk F11 false rs D4) := (show Jd w w11 gk gd vk F11 false rs D4 from kj11)
  have J11 : Hid (Jd w w11 gj gd v10 F11 false rs D4) := (show Jd w w11 gj gd v10 F11 false rs D4 from J10.out.turn s11 k11 n11 rfl)
  clear s11 k11 n11 kj11 fk11
  go_wp2_with fail
  have hw12 := write_in 0 ⟨#[2]⟩ gd F11 D4 w11 JK.out.ds.disk G4.out.good.on (by rw [G4.out.len]; decide) (by omega)
  rw [show (((0 : Nat)) : Int) = 0 from rfl] at hw12
  refine hw12.mono ?_
  clear hw12
  rintro e w12 ⟨F12, rfl, d12, k12, n12⟩
  obtain ⟨D5, hD5⟩ : ∃ D5, wr D4 0 ⟨#[2]⟩ = D5 := ⟨_, rfl⟩
  rw [hD5] at d12
  have h5l : D5.sure.length = D4.sure.length := by rw [← hD5]; rfl
  have h5o : D5.off = false := by rw [← hD5]; exact offW_false G4.out.good.on (by rw [G4.out.left]; decide)
  have h5v : D5.vis.getD 0 0 = 2 := by
    rw [← hD5]
    show (over D4.vis (0, ⟨#[2]⟩)).getD 0 0 = 2
    rfl
  have h5n : 0 < D5.vis.length := by
    have := d12.ok.len
    rw [this, h5l, G4.out.len]; decide
  have h5p : D5.pend.length ≤ 800000 := by
    rw [← hD5]
    show (D4.pend ++ [_]).length ≤ _
    rw [List.length_append, List.length_singleton]; omega
  have S12 := JK.out.ds.turn d12 k12 n12
  have J12 : Hid (Jd w w12 gj gd v10 F12 false rs D5) := (show Jd w w12 gj gd v10 F12 false rs D5 from J11.out.turn S12 k12 n12 h5l)
  have JK12 : Hid (Jd w w12 gk gd vk F12 false rs D5) := (show Jd w w12 gk gd vk F12 false rs D5 from JK.out.turn S12 k12 n12 h5l)
  have hb := opR_bad h5o (by rw [h5v]; decide) (by rw [h5v]; decide) h5n
  have ho13 := jd_open w gd F12 D5 a w12 S12 HK.out HE.out (by omega)
  rw [hb] at ho13
  have HO13 := Lib.hid ho13
  have H5L := Lib.hid h5l
  clear hD5 d12 k12 n12 h5l h5o h5v h5n h5p hb ho13 S12
  go_wp2_with fail
  refine HO13.out.mono ?_
  rintro e w13 ⟨F13, s13, k13, n13, he⟩
  obtain rfl : e = .returned (.tuple #[.pointer none, .int .i64 342]) := he
  have J13 : Hid (Jd w w13 gj gd v10 F13 false rs D5) := (show Jd w w13 gj gd v10 F13 false rs D5 from J12.out.turn s13 k13 n13 rfl)
  have JK13 : Hid (Jd w w13 gk gd vk F13 false rs D5) := (show Jd w w13 gk gd vk F13 false rs D5 from JK12.out.turn s13 k13 n13 rfl)
  clear s13 k13 n13
  go_wp2_with (go_at_call 11; (refine (opn_nil _).mono ?_); rintro e w14 ⟨rfl, rfl⟩)
  have hlr : rs.length = 3 := by rw [← HRS.out]; rfl
  have hr14 := jd_room w gj gd v10 F13 false rs D5 w13 J13.out
  have hn14 : need rs = 200 := by rw [← HRS.out, need_append, need_ab, need_95]
  rw [H5L.out, G4.out.len, hn14, show (((200 : Nat)) : Int) - ((200 : Nat) : Int) = 0 by omega] at hr14
  refine hr14.mono ?_
  clear hr14 hn14
  rintro e w14 ⟨rfl, hw14⟩
  have JK14 : Hid (Jd w w14 gk gd vk F13 false rs D5) := (show Jd w w14 gk gd vk F13 false rs D5 by rw [← hw14]; exact JK13.out.drew)
  clear hw14
  have hr15 := jd_recs w gk gd vk F13 false rs D5 w14 JK14.out
  rw [hlr] at hr15
  have HR15 := Lib.hid hr15
  have HLR := Lib.hid hlr
  clear hr15 hlr
  go_wp2_with fail
  refine HR15.out.mono ?_
  rintro e w15 ⟨A15, c15, rfl, -, -, b15⟩
  have JK15 : Hid (Jd w w15 gk gd vk F13 false rs D5) := (show Jd w w15 gk gd vk F13 false rs D5 from JK14.out.then_ b15)
  have hr16 := jd_recs w gk gd vk F13 false rs D5 w15 JK15.out
  rw [HLR.out] at hr16
  have HR16 := Lib.hid hr16
  clear hr16 b15
  go_wp2_with fail
  refine HR16.out.mono ?_
  rintro e w16 ⟨A16, c16, rfl, st16, -, b16⟩
  obtain ⟨b0, o0, rfl, h0⟩ := st16 0 (by rw [HLR.out]; omega)
  have hab : rs.getD 0 ⟨#[]⟩ = abS := by rw [← HRS.out]; rfl
  rw [hab, Nat.add_zero] at h0
  have B16 : Hid (Below w.heap.size w w16) := (show Below w.heap.size w w16 from below_next JK15.out.ds.below b16)
  have hq2 : abS.toList = [97, 98] := by rw [ByteArray.toList_eq]; rfl
  clear st16 b16 hab
  go_wp2_with fail
  go_ret
  exact ⟨rfl, B16.out⟩
end Go.Proofs.YtnjkinljpekohaaGreatDoor.Jo
namespace Go.Proofs.YtnjkinljpekohaaGreatDoor.Jo
open Go.RowKit Sha Dsk Jr
attribute [local go_sem] Oper.semAt_some
/-- a list of strings in memory: where, its capacity, what it holds -/
structure Grp where
  A : Option Addr
  c : Nat
  l : List ByteArray
instance : Inhabited Grp := ⟨⟨none, 0, []⟩⟩
structure GrpAt (w : World) (g : Grp) : Prop where
  strs : StrsAt w g.A g.l
  len : (g.l.length : Int) ≤ 9223372036854775807
  size : ∀ s ∈ g.l, (s.size : Int) ≤ 9223372036854775807
theorem GrpAt.then_ {w w' : World} {g : Grp} (h : GrpAt w g) (hb : Below w.heap.size w w') : GrpAt w' g := ⟨h.strs.then_ hb, h.len, h.size⟩
/-- lists of strings in memory -/
def GrpsAt (w : World) (A : Option Addr) (G : List Grp) : Prop := ∀ i, i < G.length → ∃ b o, A = some ⟨b, o, none⟩ ∧ w.cell? ⟨b, o + i, none⟩ = some (.slice (G.getD i default).A (G.getD i default).l.length (G.getD i default).c) ∧ GrpAt w (G.getD i default)
theorem fewS_small (l : List ByteArray) : ∀ s ∈ fewS l 6, s.size ≤ 65536 := fun s hs => by have := fewS_sizes l 6 s hs; omega
theorem few_len (l : List ByteArray) : (fewS l 6).length ≤ 6 := by rw [fewS_length]; omega
/-- few, in the shape that Append takes -/
theorem few_grp (g : Grp) (w : World) (h : GrpAt w g) : Calls Tryz.prog 18 #[.slice g.A g.l.length g.c] w fun e w' => ∃ A c, e = .returned (.slice A (fewS g.l 6).length c) ∧ StrsAt w' A (fewS g.l 6) ∧ (fewS g.l 6).length ≤ c ∧ Below w.heap.size w w' := by
  refine (few_any g.A g.c _ g.l w rfl h.strs h.len h.size).mono ?_
  rintro e w' ⟨v, rfl, h1, h2⟩
  rcases h1.2 with ⟨hv, h0⟩ | ⟨a, cap, cur, hv, _, _, hcap, _⟩
  · refine ⟨none, 0, by rw [hv, h0], fun i hi => by omega, by omega, h2⟩
  · exact ⟨some ⟨a, 0, none⟩, cap, by rw [hv], by rw [hv] at h1; exact strs_of_own h1, hcap, h2⟩
/-- what Append does on a disk that loses no power -/
theorem apR_any {D : Dk} {rs l : List ByteArray} {n : Nat} (h : Good0 D rs n) (hs : ∀ r ∈ l, r.size ≤ 65536) : ∃ c rs2 D2, apR false rs D l = (c, false, rs2, D2) ∧ Good0 D2 rs2 n := by
  by_cases hf : need rs + need l ≤ n
  · obtain ⟨D2, h1, h2⟩ := apR_good h hs hf
    exact ⟨_, _, _, h1, h2⟩
  · exact ⟨_, _, _, apR_full false rfl hs (by rw [h.len]; omega), h⟩
end Go.Proofs.YtnjkinljpekohaaGreatDoor.Jo
namespace Go.Proofs.YtnjkinljpekohaaGreatDoor.Jo
open Go.RowKit Sha Dsk Jr
attribute [local go_sem] Oper.semAt_some
/-- strings that lie apart from what a journal's calls turn -/
def Was (w : World) (S : List Nat) (A : Option Addr) (l : List ByteArray) : Prop := ∀ i, i < l.length → ∃ b o, A = some ⟨b, o, none⟩ ∧ w.cell? ⟨b, o + i, none⟩ = some (.string (l.getD i ⟨#[]⟩)) ∧ b ∉ S ∧ b < w.heap.size
theorem Was.strs {w : World} {S : List Nat} {A : Option Addr} {l : List ByteArray} (h : Was w S A l) : StrsAt w A l := fun i hi => by
  obtain ⟨b, o, h1, h2, _⟩ := h i hi
  exact ⟨b, o, h1, h2⟩
theorem Was.turn {w w' : World} {S S' : List Nat} {A : Option Addr} {l : List ByteArray} (h : Was w S A l) (hk : Kept S w w') (hn : New w S S') : Was w' S' A l := fun i hi => by
  obtain ⟨b, o, h1, h2, h3, h4⟩ := h i hi
  refine ⟨b, o, h1, hk.cell h2 h3, fun hm => ?_, Nat.lt_of_lt_of_le h4 hk.size⟩
  rcases hn b hm with h | h
  · exact h3 h
  · omega
theorem Was.then_ {w w' : World} {S : List Nat} {A : Option Addr} {l : List ByteArray} (h : Was w S A l) (hb : Below w.heap.size w w') : Was w' S A l := h.turn ((Kept.of_below hb).mono (fun _ h => by cases h)) (New.refl _ _)
theorem was_of_own {w' : World} {base n c : Nat} {e : TypeId} {A : Option Addr} {l : List ByteArray} {S : List Nat} (h : w'.ownsRow base e 1 (.slice A n c) n (svs l)) (hn : l.length = n) (hS : ∀ x ∈ S, x < base) : Was w' S A l := fun i hi => by
  rcases h.2 with ⟨_, h0⟩ | ⟨g, cap, cur, hv, hb, hg, _⟩
  · omega
  · injection hv with h1 h2 h3
    subst h1
    obtain ⟨b', o', e1, hc⟩ := strs_of_own h i hi
    injection e1 with e1
    injection e1 with e1 e2
    subst e1 e2
    exact ⟨g, 0, rfl, hc, fun hm => by have := hS _ hm; omega, hlt hg⟩
theorem was_nil (w : World) (S : List Nat) (A : Option Addr) : Was w S A [] := fun i hi => by simp at hi
theorem New.cons {w : World} {F F' : List Nat} (h : New w F F') (g : Nat) : New w (g :: F) (g :: F') := fun x hx => by
  rcases List.mem_cons.1 hx with rfl | hx
  · exact .inl (by simp)
  · rcases h x hx with h | h
    · exact .inl (List.mem_cons_of_mem _ h)
    · exact .inr h
/-- few, with where its row lies -/
theorem few_own (g : Grp) (w : World) (h : GrpAt w g) : Calls Tryz.prog 18 #[.slice g.A g.l.length g.c] w fun e w' => ∃ A c, e = .returned (.slice A (fewS g.l 6).length c) ∧ w'.ownsRow w.heap.size 9 1 (.slice A (fewS g.l 6).length c) (fewS g.l 6).length (svs (fewS g.l 6)) ∧ (fewS g.l 6).length ≤ c ∧ Below w.heap.size w w' := by
  refine (few_any g.A g.c _ g.l w rfl h.strs h.len h.size).mono ?_
  rintro e w' ⟨v, rfl, h1, h2⟩
  rcases h1.2 with ⟨hv, h0⟩ | ⟨a, cap, cur, hv, _, _, hcap, _⟩
  · exact ⟨none, 0, by rw [hv, h0], by rw [hv] at h1; rw [h0] at h1 ⊢; exact h1, by omega, h2⟩
  · exact ⟨some ⟨a, 0, none⟩, cap, by rw [hv], by rw [hv] at h1; exact h1, hcap, h2⟩
theorem own_strs {w : World} {base n c : Nat} {e : TypeId} {A : Option Addr} {l : List ByteArray} (h : w.ownsRow base e 1 (.slice A n c) n (svs l)) (hn : l.length = n) : StrsAt w A l := (was_of_own (S := []) h hn (by simp)).strs
theorem Jd.lt {w0 w : World} {gj gd : Nat} {v : Value} {F : List Nat} {b : Bool} {rs : List ByteArray} {D : Dk} (h : Jd w0 w gj gd v F b rs D) : ∀ x ∈ gj :: F, x < w.heap.size := fun x hx => by
  rcases List.mem_cons.1 hx with rfl | hx
  · exact hlt h.jrn.blk
  · exact h.ds.disk.lt x hx
/-- how many bytes a record takes, by the reference's PutString -/
theorem rputs_rec (r : ByteArray) (hr : r.size ≤ 65536) (w : World) : Calls Tryz.prog 88 #[.string r] w fun e w' => e = .returned (.tuple #[.string (sof (pstr r)), .int .i64 0]) ∧ Below w.heap.size w w' := by
  have hl : r.data.toList.length = r.size := by simp
  have e1 : Wi.bs (Wi.putsI r.data.toList) = .string (sof (pstr r)) := by
    rw [Wi.putsI, if_neg (by omega)]; rfl
  have e2 : Wi.putsE r.data.toList = 0 := by rw [Wi.putsE, if_neg (by omega)]
  have h := Wi.rputs_any r w (by omega)
  rw [e1, e2] at h
  exact h
theorem need_next (l : List ByteArray) (k : Nat) (hk : k < l.length) : need (l.take (k + 1)) = need (l.take k) + (33 + (pstr (l.getD k ⟨#[]⟩)).length) := by
  rw [take_next l k hk, need_append]
  simp [need]
theorem need_x : need [⟨#[120]⟩] = 35 := by decide +kernel
theorem apR_long {D : Dk} {rs l : List ByteArray} {b : Bool} (h : l.any longB = true) : apR b rs D l = (340, b, rs, D) := by
  unfold apR; rw [if_pos (.inr h)]
theorem apR_broken {D : Dk} {rs l : List ByteArray} : apR true rs D l = (340, true, rs, D) := by
  unfold apR; rw [if_pos (.inl rfl)]
theorem apR_none {D : Dk} {rs : List ByteArray} (hf : need rs ≤ D.sure.length) : apR false rs D [] = (0, false, rs, D) := by
  unfold apR
  rw [if_neg (by simp), if_neg (by simp [need]; exact hf), if_pos rfl]
theorem apR_off {D : Dk} {rs l : List ByteArray} (ho : D.off = true) (hs : ∀ r ∈ l, r.size ≤ 65536) (hl : l ≠ []) (hf : need rs + need l ≤ D.sure.length) : apR false rs D l = (331, true, rs, D) := by
  unfold apR
  have hp : put4 D (need rs) (st chainS (hd chainS zed rs) l) = (331, D) := by rw [put4, if_pos ho]
  rw [if_neg (by rw [no_long hs]; simp), if_neg (by omega), if_neg hl, hp, if_neg (by simp)]
end Go.Proofs.YtnjkinljpekohaaGreatDoor.Jo
namespace Go.Proofs.YtnjkinljpekohaaGreatDoor.Jo
open Go.RowKit Sha Dsk Jr
/-- Open on what reads as records -/
theorem opR_reads {D : Dk} {rs : List ByteArray} (hon : D.off = false) (hl : D.left = 0) (hp : D.pend = []) (hv : D.vis = D.sure) (hR : Reads chainS zed D.sure rs) (hs : ∀ r ∈ rs, r.size ≤ 65536) :
    ∃ D', opR D = (0, some rs, D') ∧ Jr.Good chainS zed D' rs ∧ D'.sure.length = D.sure.length := by
  have hr : Reads chainS zed D.vis rs := by rw [hv]; exact hR
  have hld := load_reads chain_size hr hs
  obtain ⟨w1, w2, w3⟩ := wipe_law (ch := chainS) (z := zed) hon hl hp hv hR
  have ho : opn D = (0, some (trip rs), (wipe D (st chainS zed rs).length).2) := by
    unfold opn
    rw [if_neg (by rw [hon]; simp), hld]
    dsimp only
    rw [w1, if_pos rfl]
    rfl
  exact ⟨_, by rw [opR, ho]; rfl, w2, w3⟩
/-- a crash of a disk that holds records -/
theorem crash_good {D : Dk} {rs : List ByteArray} (h : Jr.Good chainS zed D rs) (hs : ∀ r ∈ rs, r.size ≤ 65536) (keep : List Int) (t : Int) :
    opR (cr D keep t) = (0, some rs, cr D keep t) ∧ Jr.Good chainS zed (cr D keep t) rs :=
  ⟨opR_good (h.crash chainS zed keep t) hs, h.crash chainS zed keep t⟩
/-- a crash of a disk that lost its power while a group was written -/
theorem crash_dead {D : Dk} {rs l : List ByteArray} (h : Dead chainS zed D rs l) (hs : ∀ r ∈ rs, r.size ≤ 65536) (hl : ∀ r ∈ l, r.size ≤ 65536) (keep : List Int) (t : Int) :
    ∃ rs2 D', (rs2 = rs ∨ rs2 = rs ++ l) ∧ opR (cr D keep t) = (0, some rs2, D') ∧ Jr.Good chainS zed D' rs2 ∧ D'.sure.length = (cr D keep t).sure.length := by
  rcases h.reads keep t with hr | hr
  · obtain ⟨D', h1, h2, h3⟩ := opR_reads (D := cr D keep t) rfl rfl rfl rfl hr hs
    exact ⟨rs, D', .inl rfl, h1, h2, h3⟩
  · obtain ⟨D', h1, h2, h3⟩ := opR_reads (D := cr D keep t) rfl rfl rfl rfl hr (fun r hm => by
      rcases List.mem_append.1 hm with hm | hm
      · exact hs r hm
      · exact hl r hm)
    exact ⟨rs ++ l, D', .inr rfl, h1, h2, h3⟩
/-- what Append does on a disk that holds records, and may lose its power -/
theorem apR_three {D : Dk} {rs l : List ByteArray} (h : Jr.Good chainS zed D rs) (hs : ∀ r ∈ l, r.size ≤ 65536) :
    (∃ D2, apR false rs D l = (0, false, rs ++ l, D2) ∧ Jr.Good chainS zed D2 (rs ++ l)) ∨ apR false rs D l = (341, false, rs, D) ∨ ∃ D2, apR false rs D l = (331, true, rs, D2) ∧ Dead chainS zed D2 rs l := by
  unfold apR
  rw [if_neg (by rw [no_long hs]; simp)]
  by_cases hf : D.sure.length < need rs + need l
  · rw [if_pos hf]
    exact .inr (.inl rfl)
  · rw [if_neg hf]
    by_cases hl : l = []
    · rw [if_pos hl, hl, List.append_nil]
      exact .inl ⟨D, rfl, h⟩
    · rw [if_neg hl]
      have hp := put4_law (ch := chainS) (z := zed) h hl (by rw [st_need, st_need]; omega)
      rw [st_need zed] at hp
      rcases hp with ⟨h1, h2⟩ | ⟨h1, h2⟩
      · rw [h1, if_pos rfl]
        exact .inl ⟨_, rfl, h2⟩
      · rw [h1, if_neg (by decide)]
        exact .inr (.inr ⟨_, rfl, h2⟩)
/-- what a journal may be: whole, or broken on a disk without power -/
inductive St (D : Dk) (rs : List ByteArray) : Bool → Prop where
  | good (h : Jr.Good chainS zed D rs) : St D rs false
  | dead (l : List ByteArray) (h : Dead chainS zed D rs l) (hl : ∀ r ∈ l, r.size ≤ 65536) : St D rs true
/-- what Append does to it -/
theorem apR_st {D : Dk} {rs l : List ByteArray} {b : Bool} (h : St D rs b) (hs : ∀ r ∈ l, r.size ≤ 65536) :
    ∃ c b2 rs2 D2, apR b rs D l = (c, b2, rs2, D2) ∧ St D2 rs2 b2 ∧ ((c = 0 ∧ rs2 = rs ++ l) ∨ (c ≠ 0 ∧ rs2 = rs)) := by
  cases h with
  | good h =>
    rcases apR_three h hs with ⟨D2, h1, h2⟩ | h1 | ⟨D2, h1, h2⟩
    · exact ⟨_, _, _, _, h1, .good h2, .inl ⟨rfl, rfl⟩⟩
    · exact ⟨_, _, _, _, h1, .good h, .inr ⟨by decide, rfl⟩⟩
    · exact ⟨_, _, _, _, h1, .dead l h2 hs, .inr ⟨by decide, rfl⟩⟩
  | dead l0 h h0 => exact ⟨_, _, _, _, apR_broken, .dead l0 h h0, .inr ⟨by decide, rfl⟩⟩
/-- what a crash of it gives -/
theorem crash_st {D : Dk} {rs : List ByteArray} {b : Bool} (h : St D rs b) (hs : ∀ r ∈ rs, r.size ≤ 65536) (keep : List Int) (t : Int) :
    ∃ l D', opR (cr D keep t) = (0, some (rs ++ l), D') ∧ Jr.Good chainS zed D' (rs ++ l) := by
  cases h with
  | good h =>
    obtain ⟨h1, h2⟩ := crash_good h hs keep t
    exact ⟨[], _, by rw [List.append_nil]; exact h1, by rw [List.append_nil]; exact h2⟩
  | dead l0 h h0 =>
    obtain ⟨rs2, D', h1, h2, h3, _⟩ := crash_dead h hs h0 keep t
    rcases h1 with rfl | rfl
    · exact ⟨[], D', by rw [List.append_nil]; exact h2, by rw [List.append_nil]; exact h3⟩
    · exact ⟨l0, D', h2, h3⟩
/-- after any crash, Open gives one of two lists -/
def CrashTo (D : Dk) (a b : List ByteArray) : Prop := ∀ keep t, ∃ rs2 D', opR (cr D keep t) = (0, some rs2, D') ∧ (rs2 = a ∨ rs2 = b)
theorem CrashTo.good {D : Dk} {rs : List ByteArray} (h : Jr.Good chainS zed D rs) (hs : ∀ r ∈ rs, r.size ≤ 65536) : CrashTo D rs rs := fun keep t => ⟨_, _, (crash_good h hs keep t).1, .inl rfl⟩
theorem CrashTo.dead {D : Dk} {rs l : List ByteArray} (h : Dead chainS zed D rs l) (hs : ∀ r ∈ rs, r.size ≤ 65536) (hl : ∀ r ∈ l, r.size ≤ 65536) : CrashTo D rs (rs ++ l) := fun keep t => by
  obtain ⟨rs2, D', h1, h2, _, _⟩ := crash_dead h hs hl keep t
  exact ⟨rs2, D', h2, h1⟩
/-- the ways of Append, and what a crash then gives -/
theorem sur_ways {D : Dk} {rs l : List ByteArray} (h : Jr.Good chainS zed D rs) (hs : ∀ r ∈ rs, r.size ≤ 65536) (hl : ∀ r ∈ l, r.size ≤ 65536) :
    ∃ cc b2 rs2 D2, apR false rs D l = (cc, b2, rs2, D2) ∧ D2.pend.length ≤ 10 ∧ ((cc = 0 ∧ CrashTo D2 (rs ++ l) (rs ++ l)) ∨ (cc = 341 ∧ CrashTo D2 rs rs) ∨ (cc = 331 ∧ CrashTo D2 rs (rs ++ l))) := by
  have hp := apR_pend false rs D l
  rw [h.none] at hp
  have hs2 : ∀ r ∈ rs ++ l, r.size ≤ 65536 := fun r hm => by
    rcases List.mem_append.1 hm with hm | hm
    · exact hs r hm
    · exact hl r hm
  rcases apR_three h hl with ⟨D2, h1, h2⟩ | h1 | ⟨D2, h1, h2⟩
  · exact ⟨_, _, _, _, h1, by rw [h2.none]; simp, .inl ⟨rfl, CrashTo.good h2 hs2⟩⟩
  · exact ⟨_, _, _, _, h1, by rw [h.none]; simp, .inr (.inl ⟨rfl, CrashTo.good h hs⟩)⟩
  · rw [h1] at hp
    exact ⟨_, _, _, _, h1, by simp at hp; omega, .inr (.inr ⟨rfl, CrashTo.dead h2 hs hl⟩)⟩
/-- the ways of Append on a disk that loses no power -/
theorem sur_ways0 {D : Dk} {rs l : List ByteArray} {z : Nat} (h : Good0 D rs z) (hl : ∀ r ∈ l, r.size ≤ 65536) :
    ∃ cc rs2 D2, apR false rs D l = (cc, false, rs2, D2) ∧ D2.pend.length ≤ 10 ∧ Good0 D2 rs2 z ∧ ((cc = 0 ∧ CrashTo D2 (rs ++ l) (rs ++ l)) ∨ (cc = 341 ∧ CrashTo D2 rs rs)) := by
  by_cases hf : need rs + need l ≤ z
  · obtain ⟨D2, h1, h2⟩ := apR_good h hl hf
    exact ⟨_, _, _, h1, by rw [h2.good.none]; simp, h2, .inl ⟨rfl, CrashTo.good h2.good h2.small⟩⟩
  · exact ⟨_, _, _, apR_full false rfl hl (by rw [h.len]; omega), by rw [h.good.none]; simp, h, .inr ⟨rfl, CrashTo.good h.good h.small⟩⟩
/-- a row of strings, in full -/
theorem own_full {w : World} {base n : Nat} {e : TypeId} {v : Value} {L : List ByteArray} (h : w.ownsRow base e 1 v n (svs L)) (hn : L.length = n) : ∃ A c, v = .slice A L.length c ∧ L.length ≤ c ∧ w.ownsRow base e 1 (.slice A L.length c) L.length (svs L) := by
  subst hn
  rcases h.2 with ⟨hv, h0⟩ | ⟨g, cap, cur, hv, _, _, hc, _⟩
  · exact ⟨none, 0, by rw [hv, h0], by omega, by rw [hv] at h; rw [h0] at h ⊢; exact h⟩
  · exact ⟨some ⟨g, 0, none⟩, cap, by rw [hv], hc, by rw [hv] at h; exact h⟩
end Go.Proofs.YtnjkinljpekohaaGreatDoor.Jo
