/- The reference's journal: what a world holds of it; Stored, Room; reading in its words. The reference's Open of a journal. -/
import Derived.Test.YtnjkinljpekohaaGreatDoorBv
import Derived.Test.YtnjkinljpekohaaGreatDoorBn
namespace Go.Proofs.YtnjkinljpekohaaGreatDoor.Jo
open Go.RowKit Sha Dsk Jr
attribute [local go_sem] Oper.semAt_some
/-- what a world holds of a reference journal: its records in v, its end -/
structure RjT (w : World) (gk h : Nat) (v : Value) (b : Bool) (rs : List ByteArray) (k : Nat) : Prop where
  blk : w.heap[gk]? = some (.cells #[.pointer (some ⟨h, 0, none⟩), v, .int .i64 (k : Int), .bool b] 60 (0, 0))
  own : w.ownsRow 0 9 1 v rs.length (svs rs)
  ne : v.ownBlock ≠ some gk
theorem RjT.kept {w w' : World} {S : List Nat} {gk h k : Nat} {v : Value} {b : Bool} {rs : List ByteArray} (t : RjT w gk h v b rs k) (hk : Kept S w w') (h1 : gk ∉ S) (h2 : ∀ x ∈ v.ownBlock.toList, x ∉ S) : RjT w' gk h v b rs k :=
  ⟨hk.heap t.blk h1, hk.own t.own (fun x hx => h2 x (Option.mem_toList.2 hx)), t.ne⟩
theorem RjT.below {w w' : World} {gk h k : Nat} {v : Value} {b : Bool} {rs : List ByteArray} (t : RjT w gk h v b rs k) (hb : Below w.heap.size w w') : RjT w' gk h v b rs k :=
  t.kept (Kept.of_below hb) (by simp) (by simp)
theorem RjT.lt {w : World} {gk h k : Nat} {v : Value} {b : Bool} {rs : List ByteArray} (t : RjT w gk h v b rs k) : gk < w.heap.size := hlt t.blk
/-- the end in a journal's cell -/
def endAt (g : Nat) (w : World) : Nat := match w.cell? ⟨g, 2, none⟩ with | some (.int _ n) => n.toNat | _ => 0
theorem endAt_of {w : World} {gk h k : Nat} {v : Value} {b : Bool} {rs : List ByteArray} (t : RjT w gk h v b rs k) : endAt gk w = k := by
  unfold endAt
  rw [(cells4 t.blk).2.2.1]
  simp
theorem rrec_no (s : ByteArray) (k : Nat) (w : World) (hs : s.size ≤ 4194304) (hk : k ≤ s.size) (h : recAt (bts s) k = none) : Calls Tryz.prog 90 #[.string s, .int .i64 (k : Int)] w fun e w' => e = .returned (.tuple #[.string ⟨#[]⟩, .int .i64 0, .int .i64 10]) ∧ Below w.heap.size w w' := by
  have h2 := Wi.rstr_in s k w (by omega) hk
  rw [tup_none h] at h2
  exact h2
theorem rrec_yes (s : ByteArray) (k : Nat) (w : World) (hs : s.size ≤ 4194304) (hk : k ≤ s.size) (r : ByteArray) (nx : Nat) (h : recAt (bts s) k = some (r, nx)) : Calls Tryz.prog 90 #[.string s, .int .i64 (k : Int)] w fun e w' => e = .returned (.tuple #[.string r, .int .i64 (nx : Int), .int .i64 0]) ∧ Below w.heap.size w w' := by
  have h2 := Wi.rstr_in s k w (by omega) hk
  rw [tup_some h] at h2
  exact h2
/-- what is stored lies there: the head alone decides -/
theorem stored_iff {l : List UInt8} {h r : ByteArray} {k nx : Nat} (hk : k < l.length) (h1 : l.getD k 0 = 1) (hr : recAt l (k + 1) = some (r, nx)) (_hn : nx + 32 ≤ l.length) : Jr.stored chainS h r = (l.drop k).take (nx + 32 - k) ↔ bts (chainS h r) = (l.drop nx).take 32 := by
  obtain ⟨_, a2, _, a4⟩ := recAt_some hr (by omega)
  have e1 : l.drop k = 1 :: l.drop (k + 1) := by
    rw [List.drop_eq_getElem_cons hk]
    rw [List.getD, List.getElem?_eq_getElem hk] at h1
    exact congrArg (· :: _) h1
  have e2 : (l.drop k).take (nx + 32 - k) = 1 :: (pstr r ++ (l.drop nx).take 32) := by
    rw [e1, show nx + 32 - k = ((pstr r).length + 32) + 1 by omega, List.take_succ_cons, List.take_add, a4, List.drop_drop, ← a2]
  rw [e2, Jr.stored]
  constructor
  · intro h
    injection h with _ h
    exact List.append_cancel_left h
  · intro h
    rw [h]
theorem rstored_any (h r : ByteArray) (w : World) (hh : h.size = 32) (hr : r.size ≤ 65536) : Calls Tryz.prog 59 #[.string h, .string r] w fun e w' => e = .returned (.tuple #[.string (sof (Jr.stored chainS h r)), .string (chainS h r)]) ∧ Below w.heap.size w w' := by
  have hp := fun W => Wi.rputs_any r W (by omega)
  have hl : r.data.toList.length = r.size := by simp
  have e1 : Wi.bs (Wi.putsI r.data.toList) = .string (sof (pstr r)) := by
    rw [Wi.putsI, if_neg (by omega)]; rfl
  have e2 : Wi.putsE r.data.toList = 0 := by rw [Wi.putsE, if_neg (by omega)]
  rw [e1, e2] at hp
  have HP := Lib.hid hp
  have hps := pstr_size r hr
  obtain ⟨Pr, hPr⟩ : ∃ Pr, sof (pstr r) = Pr := ⟨_, rfl⟩
  rw [hPr] at HP hps
  have hcs := chain_size h r
  obtain ⟨C, hC⟩ : ∃ C, chainS h r = C := ⟨_, rfl⟩
  have hst : sof (Jr.stored chainS h r) = (⟨#[1]⟩ : ByteArray) ++ Pr ++ C := by rw [Jr.stored, ← out_eq, hPr, hC]
  have hch := fun W => rchain_any h r W (by omega) hr
  rw [hC] at hcs hch
  rw [hst, hC]
  have HCH := Lib.hid hch
  clear hp hl e1 e2 hPr hC hst hch
  go_enter Tryz.func59, Tryz.ntmps59
  go_wp2_with fail
  refine (HCH.out _).mono ?_
  rintro e w1 ⟨rfl, b1⟩
  go_wp2_with fail
  refine (HP.out _).mono ?_
  rintro e w2 ⟨rfl, b2⟩
  go_wp2_with fail
  go_ret2
  exact ⟨rfl, below_next b1 b2⟩
/-- what Open says and leaves, in words of reading -/
theorem opR_none {D : Dk} (ho : D.off = false) (hl : Jr.load chainS D.vis D.vis.length zed 0 = none) : opR D = (342, none, D) := by
  simp only [opR, opn, ho, hl]; rfl
theorem opR_some {D : Dk} (ho : D.off = false) {acc : List ByteArray} {H : ByteArray} {k : Nat} (hl : Jr.load chainS D.vis D.vis.length zed 0 = some (acc, H, k)) : opR D = if (wipe D k).1 = 0 then (0, some acc, (wipe D k).2) else ((wipe D k).1, none, (wipe D k).2) := by
  simp only [opR, opn, ho, hl]
  split
  · split <;> rename_i h1 h2 <;> simp_all
  · split <;> rename_i h1 h2 <;> simp_all
theorem opR_off {D : Dk} (ho : D.off = true) : opR D = (331, none, D) := by
  simp only [opR, opn, ho]; rfl
end Go.Proofs.YtnjkinljpekohaaGreatDoor.Jo
namespace Go.Proofs.YtnjkinljpekohaaGreatDoor.Jo
open Go.RowKit Sha Dsk Jr
attribute [local go_sem] Oper.semAt_some
/-- what the reference's Open leaves -/
def ROpnQ (h : Nat) (G : List Nat) (R : Int × Option (List ByteArray) × Dk) (w : World) (e : Ending) (w' : World) : Prop :=
  ∃ G', RefAt w' h G' R.2.2 ∧ Kept G w w' ∧ New w G G' ∧ match R.2.1 with
    | none => e = .returned (.tuple #[.pointer none, .int .i64 R.1])
    | some rs => ∃ gk v, e = .returned (.tuple #[.pointer (some ⟨gk, 0, none⟩), .int .i64 0]) ∧ RjT w' gk h v false rs (need rs) ∧ (∀ x ∈ gk :: v.ownBlock.toList, w.heap.size ≤ x ∧ x ∉ G') ∧ ∀ r ∈ rs, r.size ≤ 65536
theorem ropn_same {h : Nat} {G : List Nat} {D : Dk} {w w' : World} {c : Int} (hR : RefAt w h G D) (hb : Below w.heap.size w w') : ROpnQ h G (c, none, D) w (.returned (.tuple #[.pointer none, .int .i64 c])) w' :=
  ⟨G, hR.below hb, (Kept.of_below hb).mono (fun _ h => by cases h), New.refl _ _, rfl⟩
theorem ropn_fail {h : Nat} {G G' : List Nat} {D' : Dk} {w wz w' : World} {c : Int} (hb : Below w.heap.size w wz) (r : RefAt w' h G' D') (k : Kept G wz w') (n : New wz G G') : ROpnQ h G (c, none, D') w (.returned (.tuple #[.pointer none, .int .i64 c])) w' :=
  ⟨G', r, ((Kept.of_below hb).mono (fun _ h => by cases h)).trans k (New.refl _ _), fun x hx => (n x hx).imp id (fun h => Nat.le_trans hb.size h), rfl⟩
theorem ropn_done {h gk k : Nat} {v : Value} {acc : List ByteArray} {G G' : List Nat} {D D' : Dk} {w wz w' : World} (hR : RefAt w h G D) (hb : Below w.heap.size w wz) (t : RjT wz gk h v false acc k) (hk : k = need acc) (hg : w.heap.size ≤ gk) (hv : ∀ x ∈ v.ownBlock.toList, w.heap.size ≤ x)
    (hs : ∀ r ∈ acc, r.size ≤ 65536) (r : RefAt w' h G' D') (kk : Kept G wz w') (n : New wz G G') : ROpnQ h G (0, some acc, D') w (.returned (.tuple #[.pointer (some ⟨gk, 0, none⟩), .int .i64 0])) w' := by
  have hG : ∀ x ∈ G, x < w.heap.size := hR.lt
  have hin : ∀ x ∈ gk :: v.ownBlock.toList, w.heap.size ≤ x ∧ x < wz.heap.size := fun x hx => by
    rcases List.mem_cons.1 hx with rfl | hx
    · exact ⟨hg, t.lt⟩
    · exact ⟨hv x hx, (t.own.lt x (own_mem hx)).2⟩
  have hng : ∀ x ∈ gk :: v.ownBlock.toList, x ∉ G := fun x hx hG' => by have := hG x hG'; have := (hin x hx).1; omega
  refine ⟨G', r, ((Kept.of_below hb).mono (fun _ h => by cases h)).trans kk (New.refl _ _), fun x hx => (n x hx).imp id (fun h => Nat.le_trans hb.size h), gk, v, rfl, ?_, fun x hx => ⟨(hin x hx).1, fun hx' => ?_⟩, hs⟩
  · rw [← hk]
    exact t.kept kk (hng gk (by simp)) (fun x hx => hng x (List.mem_cons_of_mem _ hx))
  · rcases n x hx' with h | h
    · exact hng x hx h
    · have := (hin x hx).2; omega
theorem ropen_off (h : Nat) (G : List Nat) (D : Dk) (w : World) (hR : RefAt w h G D) (ho : D.off = true) : Calls Tryz.prog 63 #[.pointer (some ⟨h, 0, none⟩)] w (ROpnQ h G (opR D) w) := by
  rw [opR_off ho]
  obtain ⟨gs, cs, c0⟩ := hR.row
  have hrd := rread_off 0 (D.sure.length : Int) h G D w hR ho
  have HRD := Lib.hid hrd
  have HR := Lib.hid hR
  obtain ⟨n, hn⟩ : ∃ n, D.sure.length = n := ⟨_, rfl⟩
  rw [hn] at c0 HRD
  clear hrd hR ho hn
  go_enter Tryz.func63, Tryz.ntmps63
  go_wp2_with fail
  refine HRD.out.mono ?_
  rintro e w1 ⟨rfl, rfl⟩
  go_wp2_with fail
  go_ret2
  exact ropn_same HR.out (Below.refl _ _)
/-- what the loop of the reference's Open holds -/
def RQ (w : World) (gk h : Nat) (S : ByteArray) (Out : Option (List ByteArray × ByteArray × Nat)) (k : Nat) (sh : Value) (wr : World) : Prop :=
  ∃ (acc : List ByteArray) (H : ByteArray) (v : Value), sh = .string H ∧ RjT wr gk h v false acc k ∧ Mid chainS (bts S) Out acc H k ∧ H.size = 32 ∧ k ≤ S.size ∧ k = need acc ∧ Below w.heap.size w wr ∧ (∀ x ∈ v.ownBlock.toList, w.heap.size ≤ x) ∧ ∀ r ∈ acc, r.size ≤ 65536
set_option maxRecDepth 100000 in
set_option maxHeartbeats 4000000 in
theorem ropen_on (h n : Nat) (G : List Nat) (D : Dk) (w : World) (hR : RefAt w h G D) (ho : D.off = false) (hv : Vis D) (hn : D.sure.length = n) (hn1 : 1 ≤ n) (hpl : D.pend.length ≤ 900000) :
    Calls Tryz.prog 63 #[.pointer (some ⟨h, 0, none⟩)] w (ROpnQ h G (opR D) w) := by
  have hvl : D.vis.length = n := by rw [hR.ok.len, hn]
  have hmx := hR.ok.max
  rw [hn] at hmx
  have hrd := rread_in 0 n h G D w hR ho (by omega) (by omega) (by omega)
  obtain ⟨S, hS⟩ : ∃ S, sof D.vis = S := ⟨_, rfl⟩
  have e1 : sof (((overs D.sure D.pend).drop 0).take n) = S := by
    have hv' : D.vis = overs D.sure D.pend := hv
    rw [← hv', List.drop_zero, List.take_of_length_le (by omega), hS]
  rw [e1, show (((0 : Nat)) : Int) = 0 from rfl] at hrd
  have hbS : bts S = D.vis := by rw [← hS, bts_sof]
  have hSn : S.size = n := by rw [← bts_length, hbS, hvl]
  obtain ⟨gs, cs, c0⟩ := hR.row
  rw [hn] at c0
  have hM := mid_start chainS (bts S) zed
  obtain ⟨Out, hO⟩ : ∃ Out, Jr.load chainS (bts S) (bts S).length zed 0 = Out := ⟨_, rfl⟩
  rw [hO] at hM
  rw [hbS] at hO
  have HRD := Lib.hid hrd
  have HR := Lib.hid hR
  have HOF := Lib.hid ho
  have HV := Lib.hid hv
  have HN := Lib.hid hn
  have HVL := Lib.hid hvl
  have HBS := Lib.hid hbS
  have HSN := Lib.hid hSn
  have HM := Lib.hid hM
  have HO := Lib.hid hO
  obtain ⟨Z, hZ⟩ : ∃ Z, zed = Z := ⟨_, rfl⟩
  have hzz : Z.size = 32 := by rw [← hZ]; exact zed_size
  have HZ := Lib.hid hZ
  clear hrd hR ho hv hn hvl hS e1 hbS hSn hM hO hZ
  go_enter Tryz.func63, Tryz.ntmps63
  go_wp2_with fail
  refine HRD.out.mono ?_
  rintro e w1 ⟨rfl, b1⟩
  go_wp2_with fail
  obtain ⟨W2, hW2⟩ : ∃ W2, w1.alloc (.cells #[.pointer (some ⟨h, 0, none⟩), .slice none 0 0, .int .i64 0, .bool false] 60) = W2 := ⟨_, rfl⟩
  have t2 : RjT W2 w1.heap.size h (.slice none 0 0) false [] 0 := ⟨by rw [← hW2]; exact heap_alloc_new _ _, World.ownsRow_nil _ _ _ _, by simp [Value.ownBlock]⟩
  have b2 : Below w.heap.size w W2 := below_next b1 (by rw [← hW2]; exact below_alloc (Below.refl _ _) _)
  have hgk : w.heap.size ≤ w1.heap.size := b1.size
  obtain ⟨gk, hgke⟩ : ∃ gk, w1.heap.size = gk := ⟨_, rfl⟩
  rw [hgke] at t2 hgk ⊢
  rw [hW2]
  refine (rhead_any none 0 0 [] W2 (fun i hi => by simp at hi) rfl (by omega) (by simp)).mono ?_
  rintro e w3 ⟨rfl, b3⟩
  rw [show hd chainS zed [] = zed from rfl, HZ.out]
  have T3 := Lib.hid (t2.below b3)
  have B3 := Lib.hid (below_next b2 b3)
  clear hW2 t2 b2 b1 b3 hgke
  go_wp2_with fail
  go_loopw [8] (fun sh wr => ∃ k, RQ w gk h S Out k sh wr) (fun _ wr => n - endAt gk wr)
  case atStart => exact ⟨0, [], Z, _, rfl, T3.out, by rw [← HZ.out]; exact HM.out, hzz, Nat.zero_le _, rfl, B3.out, by simp [Value.ownBlock], by simp⟩
  case round =>
    obtain ⟨k, acc, H, v, rfl, hT, hM, hH, hk, hka, hb, hvn, hsm⟩ := hrel
    rw [HSN.out] at hk
    have f2 := (cells4 hT.blk).2.2.1
    have T := Lib.hid hT
    have M := Lib.hid hM
    have HKA := Lib.hid hka
    have HB := Lib.hid hb
    have HVN := Lib.hid hvn
    have HSM := Lib.hid hsm
    have hac : acc.length ≤ 1000000 := by have := need_count acc; omega
    clear hT hM hka hb hvn hsm T3 B3 HM
    by_cases hstop : k < n ∧ (bts S).getD k 0 ≠ 0
    · obtain ⟨hlt, hne0⟩ := hstop
      have hks : k < S.size := by rw [HSN.out]; exact hlt
      have hby := byte_at hks
      rw [hby] at hne0
      have hf : (k : Int) < (n : Int) := by omega
      have hk0 : (0 : Int) ≤ (k : Int) := by omega
      have eb : ((((S[k]'hks).toNat : Nat) : Int) != 0) = true := by
        have := byte_ne (b := S[k]'hks) (n := 0) (by omega) hne0
        simpa [bne] using this
      have hsz4 : S.size ≤ 4194304 := by rw [HSN.out]; exact hmx
      have HEK := Lib.hid (endAt_of T.out)
      have hkl : k < (bts S).length := by rw [bts_length]; exact hks
      by_cases e1 : S[k]'hks = 1
      · have e1' : (bts S).getD k 0 = 1 := hby.trans e1
        have e1p : (((S[k]'hks).toNat : Nat) : Int) = 1 := by rw [e1]; rfl
        clear e1
        cases hr : recAt (bts S) (k + 1) with
        | none =>
          have hst := rrec_no S (k + 1) wr hsz4 (by omega) hr
          rw [show (((k + 1 : Nat)) : Int) = (k : Int) + 1 by omega] at hst
          have HST := Lib.hid hst
          have hOut : Out = none := mid_none M.out hkl e1' hr
          have HOP := Lib.hid (opR_none HOF.out (HO.out.trans hOut))
          clear hst hr hOut hby hsz4
          go_wp2_with fail
          refine HST.out.mono ?_
          rintro e w4 ⟨rfl, b4⟩
          have B4 := Lib.hid (below_next HB.out b4)
          have f4 := cell_then b4 f2
          clear b4
          go_wp2_with fail
          all_goals
            go_ret2
            have hfin : ROpnQ h G (opR D) w (.returned (.tuple #[.pointer none, .int .i64 342])) w4 := by rw [HOP.out]; exact ropn_same HR.out B4.out
            exact hfin
        | some p =>
          obtain ⟨r, nx⟩ := p
          have hst := rrec_yes S (k + 1) wr hsz4 (by omega) r nx hr
          rw [show (((k + 1 : Nat)) : Int) = (k : Int) + 1 by omega] at hst
          have HST := Lib.hid hst
          obtain ⟨r1, r2, r3, r4⟩ := recAt_some hr (by omega)
          rw [bts_length, HSN.out] at r3
          have hn0 : (0 : Int) ≤ (nx : Int) := by omega
          have hn4 : (nx : Int) ≤ 4194304 := by omega
          have R2 := Lib.hid r2
          have HHR := Lib.hid hr
          have hci : nx + 32 ≤ (bts S).length → (Jr.stored chainS H r = ((bts S).drop k).take (nx + 32 - k) ↔ bts (chainS H r) = ((bts S).drop nx).take 32) := fun hx => stored_iff hkl e1' hr hx
          have HCI := Lib.hid hci
          have hcs := chain_size H r
          obtain ⟨C, hC⟩ : ∃ C, chainS H r = C := ⟨_, rfl⟩
          have HC := Lib.hid hC
          rw [hC] at hcs
          have hch := fun W => rchain_any H r W (by omega) r1
          rw [hC] at hch
          have HCH := Lib.hid hch
          have HBY := Lib.hid hby
          have HKL := Lib.hid hkl
          have E1 := Lib.hid e1'
          clear hst r4 r2 hr hci hC hch hby hkl e1' hsz4
          go_wp2_with fail
          refine HST.out.mono ?_
          rintro e w4 ⟨rfl, b4⟩
          have B4 := Lib.hid (below_next HB.out b4)
          have T4 := Lib.hid (T.out.below b4)
          have f4 := cell_then b4 f2
          clear b4 HST f2 T
          go_wp2_with fail
          refine (HCH.out w4).mono ?_
          rintro e w5 ⟨rfl, b5⟩
          have B5 := Lib.hid (below_next B4.out b5)
          have T5 := Lib.hid (T4.out.below b5)
          clear b5 HCH f4 T4 B4
          by_cases hfit : nx + 32 ≤ n
          · have hfi : (nx : Int) + 32 ≤ (n : Int) := by omega
            have hfs : (nx : Int) + 32 ≤ (S.size : Int) := by rw [HSN.out]; omega
            by_cases heq : S.extract nx (nx + 32) = C
            · have hcmp : ((S.extract nx (nx + 32)).toList == C.toList) = true := (str_beq_iff _ _).2 heq
              have hb2 : bts C = ((bts S).drop nx).take 32 := by rw [← heq, bts_extract, show nx + 32 - nx = 32 by omega]
              have hmn := mid_next M.out HKL.out E1.out HHR.out ⟨by rw [bts_length, HSN.out]; exact hfit, (HCI.out (by rw [bts_length, HSN.out]; exact hfit)).2 (by rw [HC.out]; exact hb2)⟩
              rw [HC.out] at hmn
              have MN := Lib.hid hmn
              obtain ⟨i0, hi0, hz0, hz1, hz2⟩ := info_parts str_info1
              have I1 := Lib.hid hi0
              have I2 := Lib.hid hz0
              have I3 := Lib.hid hz1
              have I4 := Lib.hid hz2
              have hgn : gk ∉ v.ownBlock.toList := fun hm => T5.out.ne (Option.mem_toList.1 hm)
              have HGN := Lib.hid hgn
              have f1 := (cells4 T5.out.blk).2.1
              have hg5 := T5.out.lt
              have HG5 := Lib.hid hg5
              clear hb2 hmn hi0 hz0 hz1 hz2 heq hgn
              go_wp2_with (at_builtin; refine wpList_append1 rfl (.tmp 88) (.tmp 90) 32 rfl 0 9 i0 _ 1 16 Tryz.underlying32 I1.out I2.out I3.out I4.out rfl (by omega) (by omega) v acc.length _ rfl T5.out.own #[.string r] rfl rfl (by simp [Value.oneCell']) (by omega) (by omega) ?_; intro g2 c2 w6 h2 k2 n2; have H2 := Lib.hid h2; have q2 := k2.heap T5.out.blk HGN.out; have y1 := frozen_of_row w6 gk 1 _ _ q2; have y2 := frozen_of_row w6 gk 2 _ _ q2; have d1 := (cells4 q2).2.1; have d2 := (cells4 q2).2.2.1; have Q2 := Lib.hid q2; have K2 := Lib.hid k2; have N2 := Lib.hid n2; clear h2 k2 n2 q2 f1)
              have hne2 : (Value.slice (some ⟨g2, 0, none⟩) (acc.length + 1) c2).ownBlock ≠ some gk := by
                intro e
                have e : g2 = gk := by injection e
                rcases N2.out with h | h
                · exact T5.out.ne (by rw [h, e])
                · have := HG5.out; omega
              have s1 := heap_setCell_same w6 gk 1 _ _ (.slice (some ⟨g2, 0, none⟩) (acc.length + 1) c2) Q2.out
              have s2 := heap_setCell_same _ gk 2 _ _ (.int .i64 ((nx : Int) + 32)) s1
              have o2 := own_set (own_set H2.out (p := ⟨gk, 1, none⟩) hne2 (.slice (some ⟨g2, 0, none⟩) (acc.length + 1) c2)) (p := ⟨gk, 2, none⟩) hne2 (.int .i64 ((nx : Int) + 32))
              have b6 : Below w.heap.size w w6 := K2.out.below_next B5.out B5.out.size (fun x hx => HVN.out x hx)
              have b7 := (b6.setCell (p := ⟨gk, 1, none⟩) hgk (.slice (some ⟨g2, 0, none⟩) (acc.length + 1) c2)).setCell (p := ⟨gk, 2, none⟩) hgk (.int .i64 ((nx : Int) + 32))
              have hrt : RjT ((w6.setCell ⟨gk, 1, none⟩ (.slice (some ⟨g2, 0, none⟩) (acc.length + 1) c2)).setCell ⟨gk, 2, none⟩ (.int .i64 ((nx : Int) + 32))) gk h (.slice (some ⟨g2, 0, none⟩) (acc.length + 1) c2) false (acc ++ [r]) (nx + 32) :=
                ⟨by simpa using s2, by rw [List.length_append, svs_append]; exact o2, hne2⟩
              have hrq : RQ w gk h S Out (nx + 32) (.string C) ((w6.setCell ⟨gk, 1, none⟩ (.slice (some ⟨g2, 0, none⟩) (acc.length + 1) c2)).setCell ⟨gk, 2, none⟩ (.int .i64 ((nx : Int) + 32))) := by
                refine ⟨acc ++ [r], C, _, rfl, hrt, MN.out, hcs, by rw [HSN.out]; exact hfit, ?_, b7, fun x hx => ?_, fun x hx => ?_⟩
                · rw [need_append, ← HKA.out]
                  have := R2.out
                  simp [need]; omega
                · have hx : x = g2 := by simpa [Value.ownBlock] using hx
                  subst hx
                  rcases N2.out with h | h
                  · exact HVN.out _ (by rw [h]; simp)
                  · have := B5.out.size; omega
                · rcases List.mem_append.1 hx with hx | hx
                  · exact HSM.out x hx
                  · obtain rfl : x = r := by simpa using hx
                    exact r1
              have hms := endAt_of hrt
              have hmk := Lib.hid (show k < nx + 32 by have := R2.out; omega)
              exact ⟨⟨nx + 32, hrq⟩, by rw [hms, HEK.out]; have := hmk.out; omega⟩
            · have hcmp : ((S.extract nx (nx + 32)).toList == C.toList) = false := by
                rw [← Bool.not_eq_true]
                exact fun h => heq ((str_beq_iff _ _).1 h)
              have hOut : Out = none := mid_bad M.out HKL.out E1.out HHR.out (fun h => heq (by
                have h2 := (HCI.out h.1).1 h.2
                rw [← sof_bts (S.extract nx (nx + 32)), bts_extract, ← sof_bts C, ← HC.out, h2, show nx + 32 - nx = 32 by omega]))
              have HOP := Lib.hid (opR_none HOF.out (HO.out.trans hOut))
              clear hOut heq
              go_wp2_with fail
              go_ret2
              have hfin : ROpnQ h G (opR D) w (.returned (.tuple #[.pointer none, .int .i64 342])) w5 := by rw [HOP.out]; exact ropn_same HR.out B5.out
              exact hfin
          · have hfi : ¬ (nx : Int) + 32 ≤ (n : Int) := by omega
            have hOut : Out = none := mid_bad M.out HKL.out E1.out HHR.out (fun h => hfit (by have := h.1; rw [bts_length, HSN.out] at this; exact this))
            have HOP := Lib.hid (opR_none HOF.out (HO.out.trans hOut))
            clear hOut hfit
            go_wp2_with fail
            go_ret2
            have hfin : ROpnQ h G (opR D) w (.returned (.tuple #[.pointer none, .int .i64 342])) w5 := by rw [HOP.out]; exact ropn_same HR.out B5.out
            exact hfin
      · have hOut : Out = none := mid_byte M.out hkl (by rw [hby]; exact hne0) (by rw [hby]; exact e1)
        have HOP := Lib.hid (opR_none HOF.out (HO.out.trans hOut))
        have e1n : ¬ (((S[k]'hks).toNat : Nat) : Int) = 1 := fun e => e1 (UInt8.toNat_inj.1 (by rw [show (1 : UInt8).toNat = 1 from rfl]; omega))
        cases hr : recAt (bts S) (k + 1) with
        | none =>
          have hst := rrec_no S (k + 1) wr hsz4 (by omega) hr
          rw [show (((k + 1 : Nat)) : Int) = (k : Int) + 1 by omega] at hst
          have HST := Lib.hid hst
          clear hst hr hOut hby hsz4 e1 hkl
          go_wp2_with fail
          refine HST.out.mono ?_
          rintro e w4 ⟨rfl, b4⟩
          have B4 := Lib.hid (below_next HB.out b4)
          have f4 := cell_then b4 f2
          clear b4
          go_wp2_with fail
          all_goals
            go_ret2
            have hfin : ROpnQ h G (opR D) w (.returned (.tuple #[.pointer none, .int .i64 342])) w4 := by rw [HOP.out]; exact ropn_same HR.out B4.out
            exact hfin
        | some p =>
          obtain ⟨r, nx⟩ := p
          have hst := rrec_yes S (k + 1) wr hsz4 (by omega) r nx hr
          rw [show (((k + 1 : Nat)) : Int) = (k : Int) + 1 by omega] at hst
          have HST := Lib.hid hst
          clear hst hr hOut hby hsz4 e1 hkl
          go_wp2_with fail
          refine HST.out.mono ?_
          rintro e w4 ⟨rfl, b4⟩
          have B4 := Lib.hid (below_next HB.out b4)
          have f4 := cell_then b4 f2
          clear b4
          go_wp2_with fail
          all_goals
            go_ret2
            have hfin : ROpnQ h G (opR D) w (.returned (.tuple #[.pointer none, .int .i64 342])) w4 := by rw [HOP.out]; exact ropn_same HR.out B4.out
            exact hfin
    · have hOut : Out = some (acc, H, k) := by
        by_cases hlt : k < n
        · refine mid_stop M.out ?_
          by_cases h0 : (bts S).getD k 0 = 0
          · exact h0
          · exact absurd ⟨hlt, h0⟩ hstop
        · exact mid_over M.out (by rw [bts_length, HSN.out]; omega)
      have HOP := Lib.hid (opR_some HOF.out (HO.out.trans hOut))
      obtain ⟨m, hm⟩ : ∃ m, n - k = m := ⟨_, rfl⟩
      obtain ⟨ZB, mk, cv⟩ := make_z m (by omega) ((n : Int) - (k : Int)) (by omega)
      obtain ⟨Y, hY⟩ : ∃ Y, zeros m = Y := ⟨_, rfl⟩
      rw [hY] at cv
      have HMM := Lib.hid hm
      have HY := Lib.hid hY
      have hk0 : (0 : Int) ≤ (k : Int) := by omega
      have hways : ¬ (k : Int) < (n : Int) ∨ ((k : Int) < (n : Int) ∧ ∃ hks : k < S.size, ((((S[k]'hks).toNat : Nat) : Int) != 0) = false) := by
        by_cases hlt : k < n
        · right
          have hks : k < S.size := by rw [HSN.out]; exact hlt
          refine ⟨by omega, hks, ?_⟩
          have h0 : (bts S).getD k 0 = 0 := by
            by_cases h0 : (bts S).getD k 0 = 0
            · exact h0
            · exact absurd ⟨hlt, h0⟩ hstop
          rw [byte_at hks] at h0
          rw [h0]; rfl
        · left; omega
      have TZ := Lib.hid (T.out.below (below_alloc (Below.refl _ _) ZB))
      have fz := (cells4 TZ.out.blk).2.2.1
      have hkS : (k : Int) ≤ (S.size : Int) := by rw [HSN.out]; omega
      clear hOut hm hY hstop
      have hYb : bts Y = List.replicate (D.vis.length - k) 0 := by rw [← HY.out, zeros, bts_sof, HVL.out, HMM.out]
      have hYs : Y.size = m := by rw [← bts_length, hYb, List.length_replicate, HVL.out, HMM.out]
      have hxb : bts (S.extract k S.size) = D.vis.drop k := by rw [bts_extract, HBS.out, List.take_of_length_le (by rw [List.length_drop, HVL.out, HSN.out]; exact Nat.le_refl _)]
      have BZ : Hid (Below w.heap.size w (wr.alloc ZB)) := (show Below w.heap.size w (wr.alloc ZB) from below_next HB.out (below_alloc (Below.refl _ _) ZB))
      by_cases hz : D.vis.drop k = List.replicate (D.vis.length - k) 0
      · have hcmp : ((S.extract k S.size).toList == Y.toList) = true := (str_beq_iff _ _).2 (by rw [← sof_bts (S.extract k S.size), hxb, hz, ← hYb, sof_bts])
        have hwp : wipe D k = (0, D) := by rw [wipe, if_pos hz]
        have hop := HOP.out
        rw [hwp, if_pos rfl] at hop
        have HOP2 := Lib.hid hop
        clear hz hwp hop hYb hYs hxb
        rcases hways with hf | ⟨hf, hks, eb⟩
        all_goals
          go_wp2_with fail
          go_ret2
          have hfin : ROpnQ h G (opR D) w (.returned (.tuple #[.pointer (some ⟨gk, 0, none⟩), .int .i64 0])) (wr.alloc ZB) := by
            rw [HOP2.out]
            exact ropn_done HR.out BZ.out TZ.out HKA.out hgk HVN.out HSM.out (HR.out.below BZ.out) (Kept.refl _ _) (New.refl _ _)
          exact hfin
      · have hcmp : ((S.extract k S.size).toList == Y.toList) = false := by
          rw [← Bool.not_eq_true]
          exact fun h => hz (by rw [← hxb, (str_beq_iff _ _).1 h, hYb])
        have hRZ := HR.out.below BZ.out
        have hkm : k + Y.size ≤ D.sure.length := by rw [hYs, HN.out]; have := HMM.out; omega
        have hwr := rwrite_in k Y h G D (wr.alloc ZB) hRZ HOF.out hkm (by omega)
        have hYsof : sof (List.replicate (D.vis.length - k) 0) = Y := by rw [← hYb, sof_bts]
        have hl1 : (Dsk.wr D k Y).sure.length = n := HN.out
        have hp1 : (Dsk.wr D k Y).pend.length ≤ 1000000 := by show (D.pend ++ [_]).length ≤ _; simp; omega
        have hv1 := vis_wr HV.out k Y
        have hwp : wipe D k = if (Dsk.wr D k Y).off then (331, Dsk.wr D k Y) else (0, sy (Dsk.wr D k Y)) := by
          rw [wipe, if_neg hz, if_neg (by rw [HOF.out]; simp), hYsof]; rfl
        obtain ⟨D1, hD1⟩ : ∃ D1, Dsk.wr D k Y = D1 := ⟨_, rfl⟩
        rw [hD1] at hwr hl1 hp1 hv1 hwp
        have HWR := Lib.hid hwr
        have HWP := Lib.hid hwp
        have HV1 := Lib.hid hv1
        have HL1 := Lib.hid hl1
        clear hz hwp hwr hYb hYs hxb hRZ hkm hYsof hD1 hv1 hl1
        cases hoff : D1.off with
        | true =>
          have hop := HOP.out
          rw [HWP.out, hoff, if_pos rfl] at hop
          rw [if_neg (by simp)] at hop
          have HOP2 := Lib.hid hop
          have HO1 := Lib.hid hoff
          clear hop hoff
          rcases hways with hf | ⟨hf, hks, eb⟩
          all_goals
            go_wp2_with fail
            refine HWR.out.mono ?_
            rintro e w7 ⟨G7, rfl, r7, k7, n7⟩
            have R7 := Lib.hid r7
            have K7 := Lib.hid k7
            have N7 := Lib.hid n7
            have hsy := rsync_off h G7 D1 w7 r7 HO1.out
            have HSY := Lib.hid hsy
            clear r7 k7 n7 hsy fz
            go_wp2_with fail
            refine HSY.out.mono ?_
            rintro e w8 ⟨rfl, rfl⟩
            go_wp2_with fail
            go_ret2
            have hfin : ROpnQ h G (opR D) w (.returned (.tuple #[.pointer none, .int .i64 331])) w7 := by
              rw [HOP2.out]
              exact ropn_fail BZ.out R7.out K7.out N7.out
            exact hfin
        | false =>
          have hop := HOP.out
          rw [HWP.out, hoff, if_neg (show ¬ (false = true) by simp), if_pos rfl] at hop
          have HOP2 := Lib.hid hop
          have HO1 := Lib.hid hoff
          clear hop hoff
          rcases hways with hf | ⟨hf, hks, eb⟩
          all_goals
            go_wp2_with fail
            refine HWR.out.mono ?_
            rintro e w7 ⟨G7, rfl, r7, k7, n7⟩
            have R7 := Lib.hid r7
            have K7 := Lib.hid k7
            have N7 := Lib.hid n7
            have hsy := rsync_ok h G7 D1 w7 r7 HO1.out HV1.out (by rw [HL1.out]; exact hn1) hp1
            have HSY := Lib.hid hsy
            clear r7 k7 n7 hsy fz
            go_wp2_with fail
            refine HSY.out.mono ?_
            rintro e w8 ⟨G8, rfl, r8, k8, n8⟩
            have R8 := Lib.hid r8
            have K8 := Lib.hid (K7.out.trans k8 N7.out)
            have N8 := Lib.hid (N7.out.trans n8 K7.out.size)
            clear r8 k8 n8
            go_wp2_with fail
            go_ret2
            have hfin : ROpnQ h G (opR D) w (.returned (.tuple #[.pointer (some ⟨gk, 0, none⟩), .int .i64 0])) w8 := by
              rw [HOP2.out]
              exact ropn_done HR.out BZ.out TZ.out HKA.out hgk HVN.out HSM.out R8.out K8.out N8.out
            exact hfin
end Go.Proofs.YtnjkinljpekohaaGreatDoor.Jo
