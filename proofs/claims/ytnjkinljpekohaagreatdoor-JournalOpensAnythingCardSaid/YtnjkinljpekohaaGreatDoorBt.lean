/- Package journal: Append. -/
import Derived.Test.YtnjkinljpekohaaGreatDoorBj
import Derived.Deep.RegionHeldLaw
namespace Go.Proofs.YtnjkinljpekohaaGreatDoor.Jo
open Go.RowKit Sha Dsk Jr
attribute [local go_sem] Oper.semAt_some
/-- records, their head and their end -/
abbrev Trip := List ByteArray × ByteArray × Nat
/-- what Append returns and leaves: the code, whether the journal is broken, its records, the disk -/
def app (b : Bool) (o : Trip) (D : Dk) (l : List ByteArray) : Int × Bool × Trip × Dk :=
  if b = true ∨ l.any longB = true then (340, b, o, D) else
    if D.sure.length < o.2.2 + (st chainS o.2.1 l).length then (341, b, o, D) else
      if l = [] then (0, b, o, D) else
        if (put4 D o.2.2 (st chainS o.2.1 l)).1 = 0 then (0, b, (o.1 ++ l, hd chainS o.2.1 l, o.2.2 + (st chainS o.2.1 l).length), (put4 D o.2.2 (st chainS o.2.1 l)).2)
        else ((put4 D o.2.2 (st chainS o.2.1 l)).1, true, o, (put4 D o.2.2 (st chainS o.2.1 l)).2)
/-- what Append leaves -/
def AppQ (gj gd : Nat) (v : Value) (F : List Nat) (R : Int × Bool × Trip × Dk) (w : World) (e : Ending) (w' : World) : Prop :=
  ∃ F' v', e = .returned (.int .i64 R.1) ∧ DiskAt w' gd F' R.2.2.2 ∧ JAt w' gj gd v' R.2.1 R.2.2.1 ∧ Kept (gj :: F) w w' ∧ New w F F' ∧ New w (gj :: v.ownBlock.toList) (gj :: v'.ownBlock.toList) ∧ ∀ x ∈ gj :: v'.ownBlock.toList, x ∉ F'
theorem doS_wr {D : Dk} (h : D.off = false) (o : Nat) (s : ByteArray) : doS (.wr o s) D = (0, wr D o s) := by simp [doS, h]
theorem doS_sy {D : Dk} (h : D.off = false) : doS .sy D = (0, sy D) := by simp [doS, h]
theorem put4_run (D : Dk) (k : Nat) (s : List UInt8) : put4 D k s = runS [.wr (k + 1) (sof (s.drop 1)), .sy, .wr k (sof (s.take 1)), .sy] D := by
  unfold put4
  cases h1 : D.off with
  | true => rw [if_pos rfl, runS_off h1]
  | false =>
    rw [if_neg (by simp), runS_on h1]
    rw [doS_wr h1]
    cases h2 : offW D with
    | true => rw [if_pos rfl, runS_off (show (wr D (k + 1) (sof (s.drop 1))).off = true from h2)]
    | false =>
      have h2' : (wr D (k + 1) (sof (s.drop 1))).off = false := h2
      rw [if_neg (by simp), runS_on h2']
      rw [doS_sy h2']
      have h3 : (sy (wr D (k + 1) (sof (s.drop 1)))).off = false := h2
      rw [runS_on h3]
      rw [doS_wr h3]
      cases h4 : offW (sy (wr D (k + 1) (sof (s.drop 1)))) with
      | true => rw [if_pos rfl, runS_off (show (wr (sy (wr D (k + 1) (sof (s.drop 1)))) k (sof (s.take 1))).off = true from h4)]
      | false =>
        have h5 : (wr (sy (wr D (k + 1) (sof (s.drop 1)))) k (sof (s.take 1))).off = false := h4
        rw [if_neg (by simp), runS_on h5, doS_sy h5]
        rfl
theorem own_slice {w : World} {base n m : Nat} {e : TypeId} {v : Value} {xs : List Value} (h : w.ownsRow base e m v n xs) : ∃ A k c, v = .slice A k c := by
  rcases h.2 with ⟨h, _⟩ | ⟨g, cap, cur, h, _⟩
  · exact ⟨_, _, _, h⟩
  · exact ⟨_, _, _, h⟩
theorem own_zero {w : World} {base n m : Nat} {e : TypeId} {v : Value} {xs : List Value} (h : w.ownsRow base e m v n xs) : w.ownsRow 0 e m v n xs := by
  obtain ⟨h1, h2⟩ := h
  refine ⟨h1, ?_⟩
  rcases h2 with h | ⟨g, cap, cur, e1, _, r⟩
  · exact .inl h
  · exact .inr ⟨g, cap, cur, e1, Nat.zero_le _, r⟩
theorem bld_kept {S : List Nat} {w w' : World} {b : Nat} {p v : Value} {l : List UInt8} (h : BldAt w b p v l) (k : Kept S w w') (hb : b ∉ S) (hv : ∀ x ∈ v.ownBlock, x ∉ S) : BldAt w' b p v l :=
  ⟨k.heap h.blk hb, k.own h.own (fun x hx => hv x hx), h.ne⟩
theorem app_nil (v : Value) (w : World) : Calls Tryz.prog 17 #[.pointer none, v] w fun e w' => e = .returned (.int .i64 1) ∧ w = w' := by
  go_enter Tryz.func17, Tryz.ntmps17
  go_wp2_with fail
  go_ret
  exact ⟨rfl, rfl⟩
theorem app_same {gj gd : Nat} {v : Value} {F : List Nat} {c : Int} {b : Bool} {o : Trip} {D : Dk} {w w' : World} (hd : DiskAt w gd F D) (hj : JAt w gj gd v b o) (hx : ∀ x ∈ gj :: v.ownBlock.toList, x ∉ F) (hb : Below w.heap.size w w') : AppQ gj gd v F (c, b, o, D) w (.returned (.int .i64 c)) w' :=
  ⟨F, v, rfl, hd.below hb, tape_kept hj (Kept.of_below hb) (by simp) (by simp), (Kept.of_below hb).mono (fun _ h => by cases h), New.refl _ _, New.refl _ _, hx⟩
set_option maxHeartbeats 1000000 in
theorem app_no (gj gd n : Nat) (v : Value) (F : List Nat) (b : Bool) (o : Trip) (D : Dk) (l : List ByteArray) (A : Option Addr) (c : Nat) (w : World) (hd : DiskAt w gd F D) (hj : JAt w gj gd v b o) (hx : ∀ x ∈ gj :: v.ownBlock.toList, x ∉ F)
    (hA : StrsAt w A l) (hl : l.length = n) (hn : n ≤ 1000) (hs : ∀ s ∈ l, (s.size : Int) ≤ 9223372036854775807) (hno : b = true ∨ l.any longB = true) :
    Calls Tryz.prog 17 #[.pointer (some ⟨gj, 0, none⟩), .slice A n c] w (AppQ gj gd v F (app b o D l) w) := by
  have c4 : w.cell? ⟨gj, 4, none⟩ = some (.bool b) := cells_get hj.blk (i := 4) rfl
  have hc := longs_any A c n l w hl hA (by omega) hs
  have HF := Lib.hid (show app b o D l = (340, b, o, D) by rw [app, if_pos hno])
  have HD := Lib.hid hd
  have HJ := Lib.hid hj
  have HX := Lib.hid hx
  cases b with
  | true =>
    clear hd hj hx hA hl hs hno hc
    go_enter Tryz.func17, Tryz.ntmps17
    go_wp2_with fail
    go_ret
    rw [HF.out]
    exact app_same HD.out HJ.out HX.out (Below.refl _ _)
  | false =>
    have hlong : l.any longB = true := by simpa using hno
    rw [hlong] at hc
    have HC := Lib.hid hc
    clear hd hj hx hA hl hs hno hc hlong
    go_enter Tryz.func17, Tryz.ntmps17
    go_wp2_with (go_at_call 50; (with_reducible refine HC.out.mono ?_); rintro e w1 ⟨rfl, b1⟩; have B1 := Lib.hid b1; clear b1)
    go_ret
    rw [HF.out]
    exact app_same HD.out HJ.out HX.out B1.out
theorem hd_size (h : ByteArray) (hh : h.size = 32) (l : List ByteArray) : (hd chainS h l).size = 32 := by
  induction l generalizing h with
  | nil => exact hh
  | cons r l ih => exact ih (chainS h r) (chain_size h r)
theorem st_le (h : ByteArray) (l : List ByteArray) (hl : ∀ r ∈ l, r.size ≤ 65536) : (st chainS h l).length ≤ l.length * 65578 := by
  induction l generalizing h with
  | nil => simp [st]
  | cons r l ih =>
    have h1 := ih (chainS h r) (fun x hx => hl x (List.mem_cons_of_mem _ hx))
    have h2 := pstr_size r (hl r (List.mem_cons_self ..))
    rw [← bts_length, bts_sof] at h2
    rw [st, List.length_append, st_len, List.length_cons]
    omega
theorem take_next (l : List ByteArray) (j : Nat) (hj : j < l.length) : l.take (j + 1) = l.take j ++ [l.getD j ⟨#[]⟩] := by
  rw [List.take_succ_eq_append_getElem hj]
  simp [List.getD, hj]
theorem st_next (h : ByteArray) (a : List ByteArray) (r : ByteArray) : st chainS h (a ++ [r]) = st chainS h a ++ Jr.stored chainS (hd chainS h a) r := by
  rw [st_append, st, st, List.append_nil]
theorem hd_next (h : ByteArray) (a : List ByteArray) (r : ByteArray) : hd chainS h (a ++ [r]) = chainS (hd chainS h a) r := by
  rw [hd_append]; rfl
/-- a tape that grows, and the builder beside it -/
def AppI (w : World) (gt gb k : Nat) (h : ByteArray) (rs l : List ByteArray) (wr : World) : Prop :=
  ∃ vt vb p, TapeAt wr gt 78 [] vt (rs ++ l) (hd chainS h l) (k + (st chainS h l).length) ∧ BldAt wr gb p vb (st chainS h l) ∧ (p = .pointer none ∨ p = .pointer (some ⟨gb, 0, none⟩)) ∧ (st chainS h l = [] → vb = .slice none 0 0) ∧ Below w.heap.size w wr ∧
    (∀ x ∈ gt :: vt.ownBlock.toList, w.heap.size ≤ x) ∧ (∀ x ∈ gb :: vb.ownBlock.toList, w.heap.size ≤ x) ∧ ∀ x ∈ gt :: vt.ownBlock.toList, x ∉ gb :: vb.ownBlock.toList
theorem app_done {w w6 : World} {gj gd gt K2 : Nat} {v u vt : Value} {F F' : List Nat} {o : Trip} {rs : List ByteArray} {H2 : ByteArray} {D2 : Dk} {Tt : TypeId} (hJ : JAt w6 gj gd u false o) (hT : TapeAt w6 gt Tt [] vt rs H2 K2) (hD : DiskAt w6 gd F' D2) (hjF : gj ∉ F')
    (hk : Kept F w w6) (hn : New w F F') (hvt : ∀ x ∈ vt.ownBlock, w.heap.size ≤ x ∧ x ∉ F') (hgj : gj < w.heap.size) :
    AppQ gj gd v F (0, false, (rs, H2, K2), D2) w (.returned (.int .i64 0)) (((w6.setCell ⟨gj, 0, none⟩ vt).setCell ⟨gj, 1, none⟩ (.string H2)).setCell ⟨gj, 2, none⟩ (.int .i64 (K2 : Int))) := by
  have k3 : Kept [gj] w6 (((w6.setCell ⟨gj, 0, none⟩ vt).setCell ⟨gj, 1, none⟩ (.string H2)).setCell ⟨gj, 2, none⟩ (.int .i64 (K2 : Int))) :=
    (((Kept.refl _ _).setCell (p := ⟨gj, 0, none⟩) (.inl (by simp)) _).setCell (p := ⟨gj, 1, none⟩) (.inl (by simp)) _).setCell (p := ⟨gj, 2, none⟩) (.inl (by simp)) _
  have hne : vt.ownBlock ≠ some gj := fun e => by have := (hvt gj e).1; omega
  refine ⟨F', vt, rfl, hD.kept k3 (fun x hx => by rw [List.mem_singleton]; exact fun e => hjF (by rw [← e]; exact hx)), ⟨?_, ?_, hne⟩, (hk.mono (fun x hx => List.mem_cons_of_mem _ hx)).trans (k3.mono (fun x hx => by rw [List.mem_singleton.1 hx]; simp)) (New.refl _ _), hn, fun x hx => ?_, fun x hx => ?_⟩
  · exact blk_set2 (blk_set1 (blk_set0 hJ.blk _) _) _
  · exact k3.own hT.own (fun x hx => by rw [List.mem_singleton]; exact fun e => hne (by rw [hx, e]))
  · rcases List.mem_cons.1 hx with rfl | hx
    · exact .inl (by simp)
    · exact .inr (hvt x (Option.mem_toList.1 hx)).1
  · rcases List.mem_cons.1 hx with rfl | hx
    · exact hjF
    · exact (hvt x (Option.mem_toList.1 hx)).2
theorem app_broke {w w6 : World} {gj gd : Nat} {v : Value} {F F' : List Nat} {o : Trip} {D2 : Dk} (hJ : JAt w6 gj gd v false o) (hD : DiskAt w6 gd F' D2) (hjF : gj ∉ F') (hk : Kept F w w6) (hn : New w F F') (hv : ∀ x ∈ v.ownBlock, x ∉ F') :
    AppQ gj gd v F (331, true, o, D2) w (.returned (.int .i64 331)) (w6.setCell ⟨gj, 4, none⟩ (.bool true)) := by
  have k3 : Kept [gj] w6 (w6.setCell ⟨gj, 4, none⟩ (.bool true)) := (Kept.refl _ _).setCell (p := ⟨gj, 4, none⟩) (.inl (by simp)) _
  refine ⟨F', v, rfl, hD.kept k3 (fun x hx => by rw [List.mem_singleton]; exact fun e => hjF (by rw [← e]; exact hx)), ⟨?_, ?_, hJ.ne⟩, (hk.mono (fun x hx => List.mem_cons_of_mem _ hx)).trans (k3.mono (fun x hx => by rw [List.mem_singleton.1 hx]; simp)) (New.refl _ _), hn, New.refl _ _, fun x hx => ?_⟩
  · rw [heap_setCell_same _ _ _ _ _ _ hJ.blk]; simp [tailJ]
  · exact k3.own hJ.own (fun x hx => by rw [List.mem_singleton]; exact fun e => hJ.ne (by rw [hx, e]))
  · rcases List.mem_cons.1 hx with rfl | hx
    · exact hjF
    · exact hv x (Option.mem_toList.1 hx)
set_option maxRecDepth 100000 in
set_option maxHeartbeats 4000000 in
theorem app_yes (gj gd n : Nat) (v : Value) (F : List Nat) (o : Trip) (D : Dk) (l : List ByteArray) (A : Option Addr) (c : Nat) (w : World) (hd : DiskAt w gd F D) (hj : JAt w gj gd v false o) (hx : ∀ x ∈ gj :: v.ownBlock.toList, x ∉ F)
    (hA : StrsAt w A l) (hl : l.length = n) (hn : n ≤ 1000) (_hcap : n ≤ c) (hs : ∀ s ∈ l, (s.size : Int) ≤ 9223372036854775807) (hno : l.any longB = false) (hK : RoundIn w) (hk : o.2.2 ≤ D.sure.length) (hr : o.1.length ≤ 200000) (hh : o.2.1.size = 32) (hpl : D.pend.length ≤ 800000) :
    Calls Tryz.prog 17 #[.pointer (some ⟨gj, 0, none⟩), .slice A n c] w (AppQ gj gd v F (app false o D l) w) := by
  have c4 : w.cell? ⟨gj, 4, none⟩ = some (.bool false) := cells_get hj.blk (i := 4) rfl
  have hc := longs_any A c n l w hl hA (by omega) hs
  rw [hno] at hc
  obtain ⟨va, vk, vc, hv⟩ := own_slice hj.own
  subst hv
  obtain ⟨rs, h, k⟩ := o
  have HC := Lib.hid hc
  have HD := Lib.hid hd
  have HJ := Lib.hid hj
  have HX := Lib.hid hx
  have HA := Lib.hid hA
  have HL := Lib.hid hl
  have HS := Lib.hid hs
  have HNO := Lib.hid hno
  have HK := Lib.hid hK
  have HH := Lib.hid hh
  clear hd hj hx hA hl hs hno hc hK hh
  go_enter Tryz.func17, Tryz.ntmps17
  go_wp2_with (go_at_call 50; (with_reducible refine HC.out.mono ?_); rintro e w1 ⟨rfl, b1⟩; have j1 := (Kept.of_below b1).heap HJ.out.blk (by simp); have a0 := cells_get j1 (i := 0) rfl; have a1 := cells_get j1 (i := 1) rfl; have a2 := cells_get j1 (i := 2) rfl; have J1 := Lib.hid j1; have B1 := Lib.hid b1; clear b1 j1)
  obtain ⟨gt, hgt⟩ : ∃ gt, w1.heap.size = gt := ⟨_, rfl⟩
  obtain ⟨W, hW⟩ : ∃ W, w1.alloc (.cells #[.slice va vk vc, .string h, .int .i64 (k : Int)] 78) = W := ⟨_, rfl⟩
  have tW : W.heap[gt]? = some (.cells #[.slice va vk vc, .string h, .int .i64 (k : Int)] 78 (0, 0)) := by rw [← hW, ← hgt]; exact heap_alloc_new _ _
  have bW : Below w1.heap.size w1 W := by rw [← hW]; exact (Below.refl _ _).alloc (Nat.le_refl _) _
  have hcl := clone_any (.slice va vk vc) rs W (own_then (own_then HJ.out.own B1.out) bW) (by omega)
  have hgw : w.heap.size ≤ gt := by rw [← hgt]; exact B1.out.size
  have BW : Below w.heap.size w W := below_next B1.out bW
  rw [hW, hgt]
  have TW := Lib.hid tW
  have HBW := Lib.hid BW
  have HCL := Lib.hid hcl
  clear hW tW BW hcl hgt bW a0 a1 a2
  go_wp2_with (go_at_call 48; (with_reducible refine HCL.out.mono ?_); rintro e w2 ⟨v2, rfl, o2, b2⟩; obtain ⟨pa, pk, pc, hp⟩ := own_slice o2; subst hp; have t2 := (Kept.of_below b2).heap TW.out (by simp); have e0 := cells_get t2 (i := 0) rfl; have y0 := frozen_of_row w2 gt 0 _ _ t2; have T2 := Lib.hid t2; have O2 := Lib.hid o2; have B2 := Lib.hid b2; clear t2 o2 b2)
  obtain ⟨gb, hgb⟩ : ∃ gb, w2.heap.size = gb := ⟨_, rfl⟩
  obtain ⟨W5, hW5⟩ : ∃ W5, (w2.setCell ⟨gt, 0, none⟩ (.slice pa pk pc)).alloc (.cells #[.pointer none, .slice none 0 0] 99) = W5 := ⟨_, rfl⟩
  have h5 : AppI w gt gb k h rs [] W5 := by
    have hlt2 : gt < gb := by rw [← hgb]; exact hlt T2.out
    have hb2 : Below w.heap.size w w2 := below_next HBW.out B2.out
    have ha : Below (w2.setCell ⟨gt, 0, none⟩ (.slice pa pk pc)).heap.size (w2.setCell ⟨gt, 0, none⟩ (.slice pa pk pc)) W5 := by rw [← hW5]; exact (Below.refl _ _).alloc (Nat.le_refl _) _
    have ks : Kept [gt] w2 (w2.setCell ⟨gt, 0, none⟩ (.slice pa pk pc)) := (Kept.refl _ _).setCell (p := ⟨gt, 0, none⟩) (.inl (by simp)) _
    have k5 : Kept [gt] w2 W5 := ks.trans (Kept.of_below ha) (fun _ h => by cases h)
    have hne : (Value.slice pa pk pc).ownBlock ≠ some gt := fun e => by
      have := (O2.out.lt gt e).1
      have := hlt TW.out
      omega
    refine ⟨.slice pa pk pc, .slice none 0 0, .pointer none, ⟨?_, ?_, hne⟩, ⟨?_, World.ownsRow_nil _ _ _ _, by simp [Value.ownBlock]⟩, .inl rfl, fun _ => rfl, ?_, fun x hx => ?_, fun x hx => ?_, fun x hx => ?_⟩
    · rw [← hW5, Below.heap_alloc _ _ _ (by simp [World.setCell]; omega), heap_setCell_same _ _ _ _ _ _ T2.out]
      simp [st, hd]
    · rw [List.append_nil]
      exact own_zero (k5.own O2.out (fun x hx hm => hne (by rw [hx]; simpa using hm)))
    · have := heap_alloc_new (w2.setCell ⟨gt, 0, none⟩ (.slice pa pk pc)) (.cells #[.pointer none, .slice none 0 0] 99)
      rw [hW5] at this
      simpa [World.setCell, hgb] using this
    · exact k5.below_next hb2 hb2.size (fun x hx => by rw [List.mem_singleton.1 hx]; exact hgw)
    · rcases List.mem_cons.1 hx with rfl | hx
      · exact hgw
      · have := (O2.out.lt x (Option.mem_toList.1 hx)).1
        have := HBW.out.size
        omega
    · obtain rfl : x = gb := by simpa [Value.ownBlock] using hx
      omega
    · have : x < gb := by
        rcases List.mem_cons.1 hx with rfl | hx
        · exact hlt2
        · have := (O2.out.lt x (Option.mem_toList.1 hx)).2
          omega
      simp [Value.ownBlock]
      omega
  have H5 := Lib.hid h5
  rw [hW5, hgb]
  clear hW5 hgb h5 e0 y0 c4
  go_loopw [33] (fun i wr => ∃ j : Nat, j ≤ n ∧ i = .int .i64 (j : Int) ∧ AppI w gt gb k h rs (l.take j) wr) (fun i _ => n - (intOf i).toNat)
  case atStart => exact ⟨0, Nat.zero_le _, rfl, H5.out⟩
  case round =>
    obtain ⟨j, hj, rfl, hI⟩ := hrel
    obtain ⟨vt, vb, p, t1, q1, hp, hnil, hB, ht, hb, hdis⟩ := hI
    have T1 := Lib.hid t1
    have Q1 := Lib.hid q1
    have HP := Lib.hid hp
    have HNil := Lib.hid hnil
    have HBr := Lib.hid hB
    have HT := Lib.hid ht
    have HBb := Lib.hid hb
    have HDis := Lib.hid hdis
    clear t1 q1 hp hnil hB ht hb hdis
    have hsm : ∀ r ∈ l, r.size ≤ 65536 := fun r hr => by
      have := HNO.out
      rw [List.any_eq_false] at this
      have := this r hr
      simp [longB] at this
      exact this
    by_cases hjn : j < n
    · obtain ⟨r, hr1⟩ : ∃ r, l.getD j ⟨#[]⟩ = r := ⟨_, rfl⟩
      have hrm : r ∈ l := by
        have hjl : j < l.length := by rw [HL.out]; exact hjn
        rw [← hr1, List.getD, List.getElem?_eq_getElem hjl]; exact List.getElem_mem _
      obtain ⟨b0, o0, hA0, hcA⟩ := HA.out j (by rw [HL.out]; exact hjn)
      rw [hr1] at hcA
      subst hA0
      have hcA1 := cell_then HBr.out hcA
      have hjl : (j : Int) < (n : Int) := by omega
      have hj0 : (0 : Int) ≤ (j : Int) := by omega
      obtain ⟨acc, hacc⟩ : ∃ acc, l.take j = acc := ⟨_, rfl⟩
      have hal : acc.length ≤ n := by rw [← hacc, List.length_take]; omega
      have hsl := st_le h acc (fun x hx => hsm x (by rw [← hacc] at hx; exact List.mem_of_mem_take hx))
      have hns : l.take (j + 1) = acc ++ [r] := by rw [take_next l j (by rw [HL.out]; exact hjn), hacc, hr1]
      rw [hacc] at T1 Q1 HNil
      have hsl2 : (st chainS h acc).length ≤ 65578000 := by omega
      have hmx := HD.out.ok.max
      have hta := tape_add gt 78 [] vt (rs ++ acc) (hd chainS h acc) (k + (st chainS h acc).length) r wr T1.out (by rw [hd_size h HH.out]; omega) (hsm r hrm) (by rw [List.length_append]; omega) (by omega) (HK.out.then_ HBr.out)
      have HTA := Lib.hid hta
      have HNS := Lib.hid hns
      have HRm := Lib.hid (hsm r hrm)
      have HSl := Lib.hid hsl2
      clear hta hns hcA hr1 hrm hacc hsl hsm hsl2
      go_wp2_with (go_at_call 52; (with_reducible refine HTA.out.mono ?_); rintro e w3 ⟨v3, rfl, t3, k3, n3⟩; have T3 := Lib.hid t3; have K3 := Lib.hid k3; have N3 := Lib.hid n3; clear t3 k3 n3)
      have hd3 : ∀ x ∈ gb :: vb.ownBlock.toList, x ∉ gt :: vt.ownBlock.toList := fun x hx hm => HDis.out x hm hx
      have q3 := bld_kept Q1.out K3.out (hd3 gb (by simp)) (fun x hx => hd3 x (List.mem_cons_of_mem _ (Option.mem_toList.2 hx)))
      have hws := bld_write gb p vb (sof (Jr.stored chainS (hd chainS h acc) r)) w3 _ q3 HP.out (by rw [← bts_length, bts_sof, st_len]; have := pstr_size r HRm.out; rw [← bts_length, bts_sof] at this; have := HSl.out; omega)
      rw [bts_sof] at hws
      have HWS := Lib.hid hws
      clear hd3 q3 hws
      go_wp2_with (go_at_call 51; (with_reducible refine HWS.out.mono ?_); rintro e w4 ⟨v4, rfl, q4, k4, n4⟩; have Q4 := Lib.hid q4; have K4 := Lib.hid k4; have N4 := Lib.hid n4; clear q4 k4 n4)
      refine ⟨⟨j + 1, by omega, by go_num, ?_⟩, by simp [intOf]; omega⟩
      have hs1 := HBr.out.size
      have hlt_t : ∀ x ∈ gt :: vt.ownBlock.toList, x < wr.heap.size := fun x hx => by
        rcases List.mem_cons.1 hx with rfl | hx
        · exact hlt T1.out.blk
        · exact (T1.out.own.lt x (Option.mem_toList.1 hx)).2
      have hlt_b : ∀ x ∈ gb :: vb.ownBlock.toList, x < wr.heap.size := fun x hx => by
        rcases List.mem_cons.1 hx with rfl | hx
        · exact hlt Q1.out.blk
        · exact (Q1.out.own.lt x (Option.mem_toList.1 hx)).2
      have hlt_3 : ∀ x ∈ gt :: v3.ownBlock.toList, x < w3.heap.size := fun x hx => by
        rcases List.mem_cons.1 hx with rfl | hx
        · exact hlt T3.out.blk
        · exact (T3.out.own.lt x (Option.mem_toList.1 hx)).2
      have ht3 : ∀ x ∈ gt :: v3.ownBlock.toList, w.heap.size ≤ x ∧ x ∉ gb :: vb.ownBlock.toList := fun x hx => by
        rcases N3.out x hx with h | h
        · exact ⟨HT.out x h, HDis.out x h⟩
        · exact ⟨by omega, fun hm => by have := hlt_b x hm; omega⟩
      have hb4 : ∀ x ∈ gb :: v4.ownBlock.toList, w.heap.size ≤ x ∧ x ∉ gt :: v3.ownBlock.toList := fun x hx => by
        rcases N4.out x hx with h | h
        · exact ⟨HBb.out x h, fun hm => (ht3 x hm).2 h⟩
        · exact ⟨by have := K3.out.size; omega, fun hm => by have := hlt_3 x hm; omega⟩
      rw [HNS.out]
      refine ⟨v3, v4, _, ?_, ?_, .inr rfl, fun e => ?_, ?_, fun x hx => (ht3 x hx).1, fun x hx => (hb4 x hx).1, fun x hx hm => (hb4 x hm).2 hx⟩
      · have := tape_kept T3.out K4.out (ht3 gt (by simp)).2 (fun x hx => (ht3 x (List.mem_cons_of_mem _ (Option.mem_toList.2 hx))).2)
        rw [st_next, hd_next, List.length_append, ← Nat.add_assoc, ← List.append_assoc]
        exact this
      · rw [st_next]; exact Q4.out
      · rw [st_next, Jr.stored] at e
        simp at e
      · exact K4.out.below_next (K3.out.below_next HBr.out HBr.out.size HT.out) (by have := K3.out.size; omega) HBb.out
    · have hjn2 : l.take j = l := List.take_of_length_le (by rw [HL.out]; omega)
      rw [hjn2] at T1 Q1 HNil
      have hjl : ¬ (j : Int) < (n : Int) := by omega
      obtain ⟨O, hO⟩ : ∃ O, st chainS h l = O := ⟨_, rfl⟩
      have hOl : O.length ≤ 65578000 := by
        have := st_le h l hsm
        rw [HL.out, hO] at this
        omega
      rw [hO] at T1 Q1 HNil
      obtain ⟨S, hS⟩ : ∃ S, sof O = S := ⟨_, rfl⟩
      have hSO : S.size = O.length := by rw [← hS, ← bts_length, bts_sof]
      have hmx := HD.out.ok.max
      have hst := bld_string gb p vb wr O Q1.out (by omega) HNil.out
      rw [hS] at hst
      have HST := Lib.hid hst
      have HO := Lib.hid hO
      have HSS := Lib.hid hS
      have HSO := Lib.hid hSO
      have HSm := Lib.hid hsm
      clear hst hjn2 hO hS hSO hsm
      go_wp2_with (go_at_call 53; (with_reducible refine HST.out.mono ?_); rintro e w5 ⟨rfl, k5⟩; have K5 := Lib.hid k5; clear k5)
      have hvb : ∀ x ∈ vb.ownBlock.toList, w.heap.size ≤ x := fun x hx => HBb.out x (List.mem_cons_of_mem _ hx)
      have B5 : Hid (Below w.heap.size w w5) := (show Below w.heap.size w w5 from K5.out.below_next HBr.out HBr.out.size hvb)
      have T5 : Hid (TapeAt w5 gt 78 [] vt (rs ++ l) (hd chainS h l) (k + O.length)) := (show TapeAt w5 gt _ _ _ _ _ _ from tape_kept T1.out K5.out (fun hm => HDis.out gt (by simp) (List.mem_cons_of_mem _ hm)) (fun x hx hm => HDis.out x (List.mem_cons_of_mem _ (Option.mem_toList.2 hx)) (List.mem_cons_of_mem _ hm)))
      have J5 : Hid (JAt w5 gj gd (.slice va vk vc) false (rs, h, k)) := (show JAt w5 gj gd _ _ _ from tape_kept HJ.out (Kept.of_below B5.out) (by simp) (by simp))
      have D5 : Hid (DiskAt w5 gd F D) := (show DiskAt w5 gd F D from HD.out.below B5.out)
      have hrm := room_any gj gd F D (.slice va vk vc) false (rs, h, k) w5 D5.out J5.out hk
      obtain ⟨m, hm⟩ : ∃ m, D.sure.length = m := ⟨_, rfl⟩
      rw [hm] at hrm hk hmx
      have hrm : Calls Tryz.prog 24 #[.pointer (some ⟨gj, 0, none⟩)] w5 fun e w' => e = .returned (.int .i64 ((m : Int) - (k : Int))) ∧ w5.drew = w' := hrm
      have HRm := Lib.hid hrm
      have HM := Lib.hid hm
      clear hrm hm hvb
      by_cases hfull : m < k + O.length
      · have hf : (m : Int) - (k : Int) < (S.size : Int) := by have := HSO.out; omega
        have HF := Lib.hid (show app false (rs, h, k) D l = (341, false, (rs, h, k), D) by rw [app, if_neg (by rw [HNO.out]; simp), if_pos (by rw [HM.out, HO.out]; exact hfull)])
        go_wp2_with (go_at_call 24; (with_reducible refine HRm.out.mono ?_); rintro e w6 ⟨rfl, rfl⟩)
        go_ret
        rw [HF.out]
        exact app_same HD.out HJ.out HX.out B5.out.drew
      · have hf : ¬ (m : Int) - (k : Int) < (S.size : Int) := by have := HSO.out; omega
        by_cases hl0 : l = []
        · have hO0 : O = [] := by rw [← HO.out, hl0]; rfl
          have hS0 : S = ⟨#[]⟩ := by rw [← HSS.out, hO0]; rfl
          have HF := Lib.hid (show app false (rs, h, k) D l = (0, false, (rs, h, k), D) by rw [app, if_neg (by rw [HNO.out]; simp), if_neg (by rw [HM.out, HO.out]; exact hfull), if_pos hl0])
          have he : S.toList.isEmpty = true := by rw [hS0, ByteArray.toList_eq]; rfl
          clear hO0 hS0
          go_wp2_with (go_at_call 24; (with_reducible refine HRm.out.mono ?_); rintro e w6 ⟨rfl, rfl⟩)
          go_ret
          rw [HF.out]
          exact app_same HD.out HJ.out HX.out B5.out.drew
        · have hO1 : 1 ≤ O.length := by
            obtain ⟨s1, e⟩ := st_head chainS (h := h) hl0
            have := HO.out
            rw [e] at this
            rw [← this]; simp
          have he : S.toList.isEmpty = false := by
            have := HSO.out
            rw [Bool.eq_false_iff]
            intro h0
            rw [List.isEmpty_iff, ByteArray.toList_eq] at h0
            have : S.size = 0 := by rw [← bts_length, bts, h0]; rfl
            omega
          go_wp2_with (go_at_call 24; (with_reducible refine HRm.out.mono ?_); rintro e w6 ⟨rfl, rfl⟩)
          obtain ⟨W, hW⟩ : ∃ W, w5.drew = W := ⟨_, rfl⟩
          have bW : Below w5.heap.size w5 W := by rw [← hW]; exact (Below.refl _ _).drew
          have BW : Hid (Below w.heap.size w W) := (show Below w.heap.size w W from below_next B5.out bW)
          have TW : Hid (TapeAt W gt 78 [] vt (rs ++ l) (hd chainS h l) (k + O.length)) := (show TapeAt W gt _ _ _ _ _ _ from tape_kept T5.out (Kept.of_below bW) (by simp) (by simp))
          have JW : Hid (JAt W gj gd (.slice va vk vc) false (rs, h, k)) := (show JAt W gj gd _ _ _ from tape_kept J5.out (Kept.of_below bW) (by simp) (by simp))
          have DW : Hid (DiskAt W gd F D) := (show DiskAt W gd F D from HD.out.below BW.out)
          rw [hW]
          clear hW bW T5 J5 D5 B5 K5
          have d2 : W.cell? ⟨gj, 2, none⟩ = some (.int .i64 (k : Int)) := cells_get JW.out.blk (i := 2) rfl
          have d3 : W.cell? ⟨gj, 3, none⟩ = some (.pointer (some ⟨gd, 0, none⟩)) := cells_get JW.out.blk (i := 3) rfl
          have hgl := lt_size d2
          obtain ⟨Z1, hZ1⟩ : ∃ Z1, S.extract 1 S.size = Z1 := ⟨_, rfl⟩
          obtain ⟨Z2, hZ2⟩ : ∃ Z2, S.extract 0 1 = Z2 := ⟨_, rfl⟩
          have hz1 : Z1 = sof (O.drop 1) := by
            rw [← hZ1, ← sof_bts (S.extract 1 S.size), bts_extract, ← HSS.out, bts_sof, List.take_of_length_le]
            rw [List.length_drop, ← bts_length, bts_sof]; exact Nat.le_refl _
          have hz2 : Z2 = sof (O.take 1) := by rw [← hZ2, ← sof_bts (S.extract 0 1), bts_extract, ← HSS.out, bts_sof, List.drop_zero]
          have hs1 : (1 : Int) ≤ (S.size : Int) := by have := HSO.out; omega
          have sm1 : IntKind.i64.wrap ((k : Int) + 1) = (k : Int) + 1 := IntWalk.i64_in _ (by omega)
          obtain ⟨cc, D2, hpt, hcc⟩ : ∃ c D2, put4 D k O = (c, D2) ∧ (c = 0 ∨ c = 331) := by
            refine ⟨(put4 D k O).1, (put4 D k O).2, rfl, ?_⟩
            unfold put4
            repeat' split
            all_goals first | exact .inl rfl | exact .inr rfl
          have hfi : ∀ (W3 : World) (B1 B2 B3 C1 C2 C3 : Nat), Below W.heap.size W W3 → (w.heap.size ≤ B1 ∧ W3.cell? ⟨B1, 0, none⟩ = some (.pointer (some ⟨gj, 0, none⟩))) → (w.heap.size ≤ B2 ∧ W3.cell? ⟨B2, 0, none⟩ = some (.int .i64 ((k : Int) + 1))) → (w.heap.size ≤ B3 ∧ W3.cell? ⟨B3, 0, none⟩ = some (.string Z1)) →
              (w.heap.size ≤ C1 ∧ W3.cell? ⟨C1, 0, none⟩ = some (.pointer (some ⟨gj, 0, none⟩))) → (w.heap.size ≤ C2 ∧ W3.cell? ⟨C2, 0, none⟩ = some (.int .i64 (k : Int))) → (w.heap.size ≤ C3 ∧ W3.cell? ⟨C3, 0, none⟩ = some (.string Z2)) →
              Calls Tryz.prog 37 #[.slice (some ⟨W3.heap.size, 0, none⟩) 4 4] (W3.alloc (.cells #[.func (.func 78) #[] #[.pointer (some ⟨B1, 0, none⟩), .pointer (some ⟨B2, 0, none⟩), .pointer (some ⟨B3, 0, none⟩)], .func (.func 39) #[.pointer (some ⟨gd, 0, none⟩)] #[], .func (.func 78) #[] #[.pointer (some ⟨C1, 0, none⟩), .pointer (some ⟨C2, 0, none⟩), .pointer (some ⟨C3, 0, none⟩)], .func (.func 39) #[.pointer (some ⟨gd, 0, none⟩)] #[]] 82)) (TurnQ gd F D2 (.int .i64 cc) W) := by
            intro W3 B1' B2' B3' C1' C2' C3' hb g1 g2 g3 g4 g5 g6
            have hb3 : Below w.heap.size w W3 := below_next BW.out hb
            have hfar : ∀ x, w.heap.size ≤ x → x ∉ F := fun x hx hm => by have := HD.out.lt x hm; omega
            have hfl : O.length = Z1.size + 1 ∧ Z2.size ≤ 1 := by
              rw [hz1, hz2, ← bts_length, bts_sof, ← bts_length, bts_sof, List.length_drop, List.length_take]
              omega
            have := first_of gd gj 4 82 F D [.wr B1' B2' B3' (k + 1) Z1, .sy, .wr C1' C2' C3' k Z2, .sy] W3 rfl (HD.out.below hb3) (cell_then hb d3) (HX.out gj (by simp)) (fun x hx => ?_) (by omega) (by omega)
            · have e2 : runS (List.map Cl.stp [.wr B1' B2' B3' (k + 1) Z1, .sy, .wr C1' C2' C3' k Z2, .sy]) D = (cc, D2) := by
                rw [← hpt, put4_run, hz1, hz2]; rfl
              rw [e2] at this
              exact this.mono (fun e w' h => turn_before hb h)
            · simp only [List.mem_cons, List.not_mem_nil, or_false] at hx
              rcases hx with rfl | rfl | rfl | rfl
              · exact ⟨⟨hfar _ g1.1, hfar _ g2.1, hfar _ g3.1⟩, g1.2, by rw [show (((k + 1 : Nat)) : Int) = (k : Int) + 1 by omega]; exact g2.2, g3.2, by rw [HM.out]; omega⟩
              · trivial
              · exact ⟨⟨hfar _ g4.1, hfar _ g5.1, hfar _ g6.1⟩, g4.2, g5.2, g6.2, by rw [HM.out]; omega⟩
              · trivial
          have HFi := Lib.hid hfi
          have HP4 := Lib.hid hpt
          have HGF := Lib.hid (HX.out gj (by simp))
          clear hfi hpt hz1 hz2
          have HCC := Lib.hid hcc
          clear hcc
          have hmf : ∀ (fn : Fn) (first cap : Array Value) (w : World), (Instr.makeFunc fn first cap).run Tryz.prog w = .ok (.func fn first cap) w := fun _ _ _ _ => rfl
          go_region_held3 (fun w' => w'.cell? ⟨gj, 2, none⟩ = some (.int .i64 (k : Int)) ∧ w'.cell? ⟨gj, 3, none⟩ = some (.pointer (some ⟨gd, 0, none⟩))) (first | exact ⟨‹_›, ‹_›⟩ | (refine ⟨?_, ?_⟩ <;> ((try simp only [World.cell?_drew]); repeat (first | assumption | with_reducible refine keep_alloc _ ?_)))) (first | (go_at_call 38; (with_reducible refine (writ_any gj ((k : Int) + 1) Z1 _).mono ?_); rintro e w3 ⟨B1', B2', B3', rfl, b3, f1, f2, f3⟩; have F0 := Lib.hid (below_next (Below.refl W.heap.size W).drew b3); have F1 := Lib.hid (And.intro (Nat.le_trans BW.out.size f1.1) f1.2); have F2 := Lib.hid (And.intro (Nat.le_trans BW.out.size f2.1) f2.2); have F3 := Lib.hid (And.intro (Nat.le_trans BW.out.size f3.1) f3.2); have s32 := cell_then F0.out d2; have s33 := cell_then F0.out d3; clear b3 f1 f2 f3) | (go_at_call 38; (with_reducible refine (writ_any gj (k : Int) Z2 _).mono ?_); rintro e w4 ⟨C1', C2', C3', rfl, b4, f1, f2, f3⟩; have G0 := Lib.hid (below_next F0.out b4); have E1 := Lib.hid (And.intro F1.out.1 (cell_then b4 F1.out.2)); have E2 := Lib.hid (And.intro F2.out.1 (cell_then b4 F2.out.2)); have E3 := Lib.hid (And.intro F3.out.1 (cell_then b4 F3.out.2)); have E4 := Lib.hid (And.intro (Nat.le_trans BW.out.size (Nat.le_trans F0.out.size f1.1)) f1.2); have E5 := Lib.hid (And.intro (Nat.le_trans BW.out.size (Nat.le_trans F0.out.size f2.1)) f2.2); have E6 := Lib.hid (And.intro (Nat.le_trans BW.out.size (Nat.le_trans F0.out.size f3.1)) f3.2); have s42 := cell_then G0.out d2; have s43 := cell_then G0.out d3; clear b4 f1 f2 f3) | (go_at_call 37; (with_reducible refine (HFi.out w4 B1' B2' B3' C1' C2' C3' G0.out E1.out E2.out E3.out E4.out E5.out E6.out).mono ?_); rintro e w6 ⟨F', rfl, d6, k6, n6⟩; have s62 := k6.cell d2 HGF.out; have s63 := k6.cell d3 HGF.out; have D6 := Lib.hid d6; have K6 := Lib.hid k6; have N6 := Lib.hid n6; clear d6 k6 n6))
          all_goals
            have k7 : Kept F w w6 := ((Kept.of_below BW.out).mono (fun _ h => by cases h)).trans K6.out (New.refl _ _)
            have n7 : New w F F' := (New.refl _ _).trans N6.out BW.out.size
            have hFn : ∀ x, x ∉ F → x < W.heap.size → x ∉ F' := fun x h1 h2 hm => by rcases N6.out x hm with h | h; exact h1 h; omega
            have J6 : Hid (JAt w6 gj gd (.slice va vk vc) false (rs, h, k)) := (show JAt w6 gj gd _ _ _ from tape_kept JW.out K6.out HGF.out (fun x hx => HX.out x (List.mem_cons_of_mem _ (Option.mem_toList.2 hx))))
            have c64 : w6.cell? ⟨gj, 4, none⟩ = some (.bool false) := cells_get J6.out.blk (i := 4) rfl
            have y64 := frozen_of_row w6 gj 4 _ _ J6.out.blk
            have y60 := frozen_of_row w6 gj 0 _ _ J6.out.blk
            have y61 := frozen_of_row w6 gj 1 _ _ J6.out.blk
            have y62 := frozen_of_row w6 gj 2 _ _ J6.out.blk
            have c60 : w6.cell? ⟨gj, 0, none⟩ = some (.slice va vk vc) := cells_get J6.out.blk (i := 0) rfl
            have c61 : w6.cell? ⟨gj, 1, none⟩ = some (.string h) := cells_get J6.out.blk (i := 1) rfl
            obtain ⟨ta, tk, tc, htv⟩ := own_slice TW.out.own
            subst htv
            have T6 : Hid (TapeAt w6 gt 78 [] (.slice ta tk tc) (rs ++ l) (hd chainS h l) (k + O.length)) := (show TapeAt w6 gt _ _ _ _ _ _ from tape_kept TW.out K6.out (fun hm => by have := HD.out.lt gt hm; have := HT.out gt (by simp); omega) (fun x hx hm => by have := HD.out.lt x hm; have := HT.out x (List.mem_cons_of_mem _ (Option.mem_toList.2 hx)); omega))
            have g60 : w6.cell? ⟨gt, 0, none⟩ = some (.slice ta tk tc) := cells_get T6.out.blk (i := 0) rfl
            have g61 : w6.cell? ⟨gt, 1, none⟩ = some (.string (hd chainS h l)) := cells_get T6.out.blk (i := 1) rfl
            have g62 : w6.cell? ⟨gt, 2, none⟩ = some (.int .i64 ((k + O.length : Nat) : Int)) := cells_get T6.out.blk (i := 2) rfl
            have hgj6 : gj < w6.heap.size := hlt J6.out.blk
            have hgjw : gj < w.heap.size := hlt HJ.out.blk
            have hjF : gj ∉ F' := hFn gj HGF.out (by have := BW.out.size; omega)
            have HJF := Lib.hid hjF
            have H7 := Lib.hid k7
            have HN7 := Lib.hid n7
            have HFn := Lib.hid hFn
            clear sm1 hjF k7 n7 hFn
            rcases HCC.out with hc0 | hc0
            · obtain ⟨K2, hK2⟩ : ∃ K2, k + O.length = K2 := ⟨_, rfl⟩
              obtain ⟨H2, hH2⟩ : ∃ H2, hd chainS h l = H2 := ⟨_, rfl⟩
              rw [hH2] at g61
              rw [hK2] at g62
              have HK2 := Lib.hid hK2
              have HH2 := Lib.hid hH2
              subst hc0
              clear hK2 hH2
              go_wp2_with fail
              go_ret
              have hF : app false (rs, h, k) D l = (0, false, (rs ++ l, H2, K2), D2) := by
                rw [app, if_neg (by rw [HNO.out]; simp), if_neg (by rw [HM.out, HO.out]; exact hfull), if_neg hl0, HO.out, HP4.out, if_pos rfl, HH2.out, HK2.out]
              rw [hF]
              have hT6 := T6.out
              rw [HH2.out, HK2.out] at hT6
              refine app_done J6.out hT6 D6.out HJF.out H7.out HN7.out (fun x hx => ?_) hgjw
              have h1 := HT.out x (List.mem_cons_of_mem _ (Option.mem_toList.2 hx))
              exact ⟨h1, HFn.out x (fun hm => by have := HD.out.lt x hm; omega) (TW.out.own.lt x hx).2⟩
            · subst hc0
              go_wp2_with fail
              go_ret
              have hF : app false (rs, h, k) D l = (331, true, (rs, h, k), D2) := by
                rw [app, if_neg (by rw [HNO.out]; simp), if_neg (by rw [HM.out, HO.out]; exact hfull), if_neg hl0, HO.out, HP4.out, if_neg (by simp)]
              rw [hF]
              refine app_broke J6.out D6.out HJF.out H7.out HN7.out (fun x hx => ?_)
              have h1 := HX.out x (List.mem_cons_of_mem _ (Option.mem_toList.2 hx))
              exact HFn.out x h1 (by have := (JW.out.own.lt x hx).2; exact this)
end Go.Proofs.YtnjkinljpekohaaGreatDoor.Jo
