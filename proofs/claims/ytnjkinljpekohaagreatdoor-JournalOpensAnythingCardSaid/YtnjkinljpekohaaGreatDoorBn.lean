/- The reference disk: what a world holds of it; New, apply, has, Cut. The reference disk: New, Visible. The reference disk: Cut, Read, Sync. The reference disk: Write. The reference disk: Crash. -/
import Derived.Test.YtnjkinljpekohaaGreatDoorBq
import Derived.Test.YtnjkinljpekohaaGreatDoorBe
import Derived.Deep.AppendLies
import Derived.Test.YtnjkinljpekohaaGreatDoorBf
import Derived.Deep.RegionHeld3
namespace Go.Proofs.YtnjkinljpekohaaGreatDoor
open Go.RowKit Dsk
/-- a block that begins with these bytes -/
def RowX (t : TypeId) (w : World) (g : Nat) (l : List UInt8) : Prop := ∃ z : List Value, w.heap[g]? = some (.cells (bcs l ++ z).toArray t (0, 0))
theorem RowX.kept {t : TypeId} {S : List Nat} {w w' : World} {g : Nat} {l : List UInt8} (h : RowX t w g l) (k : Kept S w w') (hn : g ∉ S) : RowX t w' g l := h.imp fun _ h => k.heap h hn
theorem RowX.lt {t : TypeId} {w : World} {g : Nat} {l : List UInt8} (h : RowX t w g l) : g < w.heap.size := h.elim fun _ h => hlt h
theorem RowX.cell {t : TypeId} {w : World} {g : Nat} {l : List UInt8} (h : RowX t w g l) {i : Nat} (hi : i < l.length) : w.cell? ⟨g, i, none⟩ = some (.int .u8 ((l[i].toNat : Nat) : Int)) := by
  obtain ⟨z, h⟩ := h
  rw [cell_of_row w g i _ t (0, 0) h, List.getElem?_toArray, List.getElem?_append_left (by rw [bcs_length]; exact hi)]
  simp [bcs, hi]
theorem RowX.store {t : TypeId} {w : World} {g : Nat} {L : List UInt8} (h : RowX t w g L) {i : Nat} (hi : i < L.length) {b : UInt8} : RowX t (w.setCell ⟨g, i, none⟩ (.int .u8 (b.toNat : Int))) g (L.set i b) := by
  obtain ⟨z, h⟩ := h
  refine ⟨z, ?_⟩
  have := heap_setCell_same w g i _ t (.int .u8 (b.toNat : Int)) h
  rw [this]
  congr 2
  apply Array.toList_inj.1
  simp [bcs, List.map_set, hi]
theorem RowX.of_own {t : TypeId} {w : World} {base g n c : Nat} {L : List UInt8} (h : w.ownsRow base t 1 (.slice (some ⟨g, 0, none⟩) n c) n (bcs L)) : RowX t w g L := by
  rcases h.2 with ⟨h', _⟩ | ⟨g', cap, cur, h', _, hg, _, _, _, ht⟩
  · cases h'
  · injection h' with h1 h2 h3
    injection h1 with h1
    injection h1 with h1
    subst h1
    refine ⟨cur.toList.drop (n * 1), ?_⟩
    rw [← ht, List.take_append_drop]
    exact hg
/-- what a world holds of a reference disk: h its block, G all its blocks -/
def RefAt (w : World) (h : Nat) (G : List Nat) (D : Dk) : Prop :=
  ∃ (gs cs : Nat) (pv : Value), G = h :: gs :: pv.ownBlock.toList ∧ h ≠ gs ∧ (∀ k, pv.ownBlock = some k → k ≠ h ∧ k ≠ gs) ∧
    w.heap[h]? = some (.cells #[.slice (some ⟨gs, 0, none⟩) D.sure.length cs, pv, .bool D.off, .int .i64 D.left] 56 (0, 0)) ∧
    RowX 5 w gs D.sure ∧ w.ownsRow 0 110 2 pv D.pend.length (pcs D.pend) ∧ Ok D ∧ D.sure.length ≤ cs
theorem RefAt.kept {S : List Nat} {w w' : World} {g : Nat} {F : List Nat} {D : Dk} (h : RefAt w g F D) (k : Kept S w w') (hd : ∀ x ∈ F, x ∉ S) : RefAt w' g F D := by
  obtain ⟨gs, cs, pv, rfl, h1, h2, hg, hs, ho, hk, hc⟩ := h
  refine ⟨gs, cs, pv, rfl, h1, h2, k.heap hg (hd g (by simp)), hs.kept k (hd gs (by simp)), k.own ho fun x hx => hd x ?_, hk, hc⟩
  exact List.mem_cons_of_mem _ (List.mem_cons_of_mem _ (mem_own hx))
theorem RefAt.below {w w' : World} {g : Nat} {F : List Nat} {D : Dk} (h : RefAt w g F D) (k : Below w.heap.size w w') : RefAt w' g F D := h.kept (Kept.of_below k) (fun _ _ h => by cases h)
theorem RefAt.lt {w : World} {g : Nat} {F : List Nat} {D : Dk} (h : RefAt w g F D) : ∀ x ∈ F, x < w.heap.size := by
  obtain ⟨gs, cs, pv, rfl, h1, h2, hg, hs, ho, hk, hc⟩ := h
  intro x hx
  simp only [List.mem_cons] at hx
  rcases hx with rfl | rfl | hx
  · exact hlt hg
  · exact hs.lt
  · exact (ho.lt x (own_mem hx)).2
theorem RefAt.ok {w : World} {g : Nat} {F : List Nat} {D : Dk} (h : RefAt w g F D) : Ok D := by
  obtain ⟨_, _, _, _, _, _, _, _, _, hk, _⟩ := h
  exact hk
theorem cells4 {w : World} {g : Nat} {c0 c1 c2 c3 : Value} {t : TypeId} (h : w.heap[g]? = some (.cells #[c0, c1, c2, c3] t (0, 0))) :
    w.cell? ⟨g, 0, none⟩ = some c0 ∧ w.cell? ⟨g, 1, none⟩ = some c1 ∧ w.cell? ⟨g, 2, none⟩ = some c2 ∧ w.cell? ⟨g, 3, none⟩ = some c3 :=
  ⟨cell_of_row w g 0 _ t (0, 0) h, cell_of_row w g 1 _ t (0, 0) h, cell_of_row w g 2 _ t (0, 0) h, cell_of_row w g 3 _ t (0, 0) h⟩
set_option maxRecDepth 100000 in
theorem apply_any (g n c o : Nat) (L : List UInt8) (s : ByteArray) (w : World) (h : RowX 5 w g L) (hl : L.length = n) (hf : o + s.size ≤ n) (hn : n ≤ 4194304) :
    Calls Tryz.prog 57 #[.slice (some ⟨g, 0, none⟩) n c, .int .i64 (o : Int), .string s] w fun e w' => e = .returned (.tuple #[]) ∧ RowX 5 w' g (splice L o (bts s)) ∧ Kept [g] w w' := by
  have HL := Lib.hid hl
  have HH := Lib.hid h
  clear hl h
  go_enter Tryz.func57, Tryz.ntmps57
  go_wp2_with fail
  go_loopw [6] (fun i wr => ∃ k : Nat, k ≤ s.size ∧ i = .int .i64 (k : Int) ∧ RowX 5 wr g (splice L o ((bts s).take k)) ∧ Kept [g] w wr) (fun i _ => s.size - (intOf i).toNat)
  case atStart => exact ⟨0, by omega, rfl, by rw [List.take_zero, splice_zero]; exact HH.out, Kept.refl _ _⟩
  case round =>
    obtain ⟨k, hk, rfl, hr, hK⟩ := hrel
    have HR := Lib.hid hr
    by_cases hlt : k < s.size
    · have hll : (splice L o ((bts s).take k)).length = n := by
        rw [length_splice _ _ _ (by rw [List.length_take, bts_length, HL.out]; omega), HL.out]
      have HLL := Lib.hid hll
      have c0 := hr.cell (i := o + k) (by rw [hll]; omega)
      have f0 := hr.elim fun _ h => frozen_of_row wr g (o + k) _ _ h
      have lg := lt_size c0
      have i1 : (o : Int) + (k : Int) < (n : Int) := by omega
      obtain ⟨v, hv⟩ : ∃ v, wr.cell? ⟨g, o + k, none⟩ = some v := ⟨_, c0⟩
      clear c0 hr hll
      go_wp2_with fail
      refine ⟨⟨k + 1, by omega, by go_num, ?_, hK.setCell (.inl (by simp)) _⟩, by simp [intOf]; omega⟩
      have h := HR.out.store (i := o + k) (by rw [HLL.out]; omega) (b := s[k])
      have e : (bts s).getD k 0 = s[k] := by
        rw [List.getD, List.getElem?_eq_getElem (by rw [bts_length]; exact hlt)]; rfl
      rw [← e, splice_next _ _ _ _ (by rw [bts_length]; exact hlt) (by rw [bts_length, HL.out]; exact hf), e] at h
      exact h
    · obtain rfl : k = s.size := by omega
      clear hr
      go_wp2_with fail
      go_end0
      have h := HR.out
      rw [List.take_of_length_le (by rw [bts_length]; exact Nat.le_refl _)] at h
      exact ⟨rfl, h, hK⟩
theorem has_any (A : Option Addr) (cap : Nat) (l : List Int) (k : Nat) (w : World) (h : IntsAt w A l) (hl : (l.length : Int) ≤ 9223372036854775807) : Calls Tryz.prog 87 #[.slice A l.length cap, .int .i64 (k : Int)] w fun e w' => e = .returned (.bool (l.contains (k : Int))) ∧ w = w' := by
  have HA := Lib.hid h
  clear h
  obtain ⟨B, hB⟩ : ∃ B, l.contains (k : Int) = B := ⟨_, rfl⟩
  rw [hB]
  have HB := Lib.hid hB
  clear hB
  go_enter Tryz.func87, Tryz.ntmps87
  go_wp2_with fail
  go_loopw [5] (fun i wr => ∃ j : Nat, j ≤ l.length ∧ i = .int .i64 (j : Int) ∧ (∀ i, i < j → l.getD i 0 ≠ (k : Int)) ∧ w = wr) (fun i _ => l.length - (intOf i).toNat)
  case atStart => exact ⟨0, by omega, rfl, fun i hi => absurd hi (by omega), rfl⟩
  case round =>
    obtain ⟨j, hj, rfl, hno, rfl⟩ := hrel
    have HNO := Lib.hid hno
    clear hno
    by_cases hlt : j < l.length
    · obtain ⟨b, o, rfl, c0⟩ := HA.out j hlt
      have i0 : (0 : Int) ≤ (j : Int) := by omega
      have i1 : (j : Int) < (l.length : Int) := by omega
      obtain ⟨z, hz⟩ : ∃ z, l.getD j 0 = z := ⟨_, rfl⟩
      rw [hz] at c0
      have HZ := Lib.hid hz
      clear hz
      by_cases he : z = (k : Int)
      · have hb1 : (z == (k : Int)) = true := by rw [beq_iff_eq]; exact he
        have HE := Lib.hid he
        clear he
        go_wp2_with fail
        go_ret
        refine ⟨?_, rfl⟩
        have : B = true := by
          rw [← HB.out, List.contains_iff_mem, ← HE.out, ← HZ.out, List.getD, List.getElem?_eq_getElem hlt]
          exact List.getElem_mem hlt
        rw [this]; rfl
      · have hb1 : (z == (k : Int)) = false := by rw [beq_eq_false_iff_ne]; exact he
        have HE := Lib.hid he
        clear he
        go_wp2_with fail
        exact ⟨⟨j + 1, by omega, by go_num, fun i hi => by
          by_cases e : i = j
          · rw [e, HZ.out]; exact HE.out
          · exact HNO.out i (by omega), trivial⟩, by simp [intOf]; omega⟩
    · obtain rfl : j = l.length := by omega
      have i1 : ¬ (l.length : Int) < (l.length : Int) := by omega
      go_wp2_with fail
      go_ret
      refine ⟨?_, rfl⟩
      have : B = false := by
        rw [← HB.out, Bool.eq_false_iff, Ne, List.contains_iff_mem]
        intro hm
        obtain ⟨i, hi, e⟩ := List.getElem_of_mem hm
        refine HNO.out i hi ?_
        rw [List.getD, List.getElem?_eq_getElem hi]
        exact e
      rw [this]; rfl
end Go.Proofs.YtnjkinljpekohaaGreatDoor
namespace Go.Proofs.YtnjkinljpekohaaGreatDoor
open Go.RowKit Dsk
set_option maxRecDepth 100000 in
theorem ref_new (n : Nat) (w : World) (h1 : 1 ≤ n) (h2 : n ≤ 4194304) : Calls Tryz.prog 54 #[.int .i64 (n : Int)] w fun e w' => ∃ (h : Nat) (G : List Nat), e = .returned (.tuple #[.pointer (some ⟨h, 0, none⟩), .int .i64 0]) ∧ RefAt w' h G (nw n) ∧ (∀ x ∈ G, w.heap.size ≤ x) ∧ Below w.heap.size w w' := by
  have hmk := make_bytes n h2
  have i1 : ¬ (n : Int) < 1 := by omega
  have i2 : ¬ (4194304 : Int) < (n : Int) := by omega
  go_enter Tryz.func54, Tryz.ntmps54
  go_wp2_with fail
  go_ret2
  have a0 : (w.alloc (.cells (bcs (List.replicate n 0)).toArray 5)).heap.size = w.heap.size + 1 := by simp
  obtain ⟨W, hW⟩ : ∃ W, (w.alloc (.cells (bcs (List.replicate n 0)).toArray 5)).alloc (.cells #[.slice (some ⟨w.heap.size, 0, none⟩) n n, .slice none 0 0, .bool false, .int .i64 0] 56) = W := ⟨_, rfl⟩
  have h0 : W.heap[w.heap.size]? = some (.cells (bcs (List.replicate n 0)).toArray 5) := by
    rw [← hW]; exact heap_alloc2_old _ _ _
  have h3 : W.heap[w.heap.size + 1]? = some (.cells #[.slice (some ⟨w.heap.size, 0, none⟩) n n, .slice none 0 0, .bool false, .int .i64 0] 56) := by
    rw [← hW]; exact heap_alloc2_new _ _ _
  have hB : Below w.heap.size w W := by rw [← hW]; exact below_alloc (below_alloc (Below.refl _ _) _) _
  refine ⟨_, rfl, [w.heap.size + 1, w.heap.size], ?_, ?_, ?_⟩
  · rw [hW]
    refine ⟨w.heap.size, n, .slice none 0 0, rfl, by omega, fun k hk => (by cases hk), ?_, ⟨[], ?_⟩, World.ownsRow_nil _ _ _ _, ok_nw h2, ?_⟩
    · simpa [nw] using h3
    · rw [List.append_nil]; exact h0
    · simp [nw]
  · intro x hx
    simp only [List.mem_cons, List.not_mem_nil, or_false] at hx
    omega
  · rw [hW]; exact hB
/-- append([]byte{}, row...) -/
theorem copy_step {w : World} {ops : Array Oper} {rest : List Oper} {o : Oper} {a : Act} {Q : Exit → Act → World → Prop} (hgd : o.guard = none) (s x : Operand)
    (ho : o.op = .call { callee := .builtin .append, args := #[s, x], argTypes := #[53, 53] })
    (gs cs : Nat) (L : List UInt8) (hs : a.eval s = .slice (some ⟨w.heap.size, 0, none⟩) 0 0) (hx : a.eval x = .slice (some ⟨gs, 0, none⟩) L.length cs)
    (hrow : RowX 5 w gs L) (h1 : 1 ≤ L.length) (hm : L.length ≤ 4194304)
    (h : ∀ g c w', RowX 5 w' g L → Below w.heap.size w w' → w.heap.size ≤ g → L.length ≤ c →
      wpList Tryz.prog ops Q rest (a.put o.dst (.slice (some ⟨g, 0, none⟩) L.length c)) w') :
    wpList Tryz.prog ops Q (o :: rest) a (w.alloc (.cells #[] 5)) := by
  obtain ⟨i0, hi0, hz0, hz1, hz2⟩ := info_parts u8_infos
  have h0 := World.ownsRow_lit (base := w.heap.size) (e := 5) (size := 1) w #[] 0 (Nat.le_refl _) (by unfold maxLen; omega) rfl
  have ha := hrow.kept (Kept.of_below (below_alloc (Below.refl _ w) (.cells #[] 5))) (by simp)
  refine wpList_append_lies _ hgd s x _ ho w.heap.size 5 i0 _ 1 1 Tryz.underlying53 hi0 hz0 hz1 hz2 rfl (by omega) _ 0 _ hs h0 ⟨gs, 0, none⟩ L.length cs (bcs L) hx (by rw [bcs_length]; omega) (fun j u hu => ?_) (fun u hu => bcs_one L u hu) h1 (by unfold maxLen; omega) (by omega) (by simp) (w.heap.size + 1) (by simp) ?_
  · have hj : j < L.length := by
      have := (List.getElem?_eq_some_iff.1 hu).1
      rwa [bcs_length] at this
    rw [show (⟨gs, 0, none⟩ : Addr).add j = ⟨gs, j, none⟩ by unfold Addr.add; split <;> simp_all, ha.cell hj, ← hu]
    simp [bcs, hj]
  · intro g' cap' w' hown' hgrow hat _
    have hb' : Below w.heap.size w w' := ((((Kept.refl [] w).alloc (.cells #[] 5))).grown hgrow (fun q hq => by
      injection hq with hq; subst hq; exact .inr (Nat.le_refl _))).below (Nat.le_refl _) (fun q hq => by cases hq)
    rw [Nat.zero_add] at hown' ⊢
    have hle : L.length ≤ cap' := by
      rcases hown'.2 with ⟨h', _⟩ | ⟨_, _, _, h', _, _, hle, _⟩
      · cases h'
      · injection h' with _ _ h3
        rw [h3]; exact hle
    refine h g' cap' w' (RowX.of_own hown') hb' ?_ hle
    rcases hat with hat | rfl
    · injection hat with hat; subst hat; exact Nat.le_refl _
    · omega
set_option maxRecDepth 100000 in
theorem visible_any (h : Nat) (G : List Nat) (D : Dk) (w : World) (hR : RefAt w h G D) (hn : 1 ≤ D.sure.length) (hpl : D.pend.length ≤ 1000000) : Calls Tryz.prog 23 #[.pointer (some ⟨h, 0, none⟩)] w fun e w' => ∃ g c : Nat, e = .returned (.slice (some ⟨g, 0, none⟩) D.sure.length c) ∧ RowX 5 w' g (overs D.sure D.pend) ∧ w.heap.size ≤ g ∧ D.sure.length ≤ c ∧ Below w.heap.size w w' := by
  obtain ⟨i0, hi0, hz0, hz1, hz2⟩ := info_parts u8_infos
  obtain ⟨gs, cs, pv, rfl, h1, h2, hg, hs, ho, hk, hc⟩ := hR
  have c0 := (cells4 hg).1
  have c1 := (cells4 hg).2.1
  have lh := hlt hg
  have hm := hk.max
  have HG := Lib.hid hg
  have HS := Lib.hid hs
  have HP := Lib.hid ho
  have HK := Lib.hid hk
  have H2 := Lib.hid h2
  have HN := Lib.hid hn
  clear hg hs ho hk h2 hi0 hz0 hz1 hz2 i0 hn hc
  go_enter Tryz.func23, Tryz.ntmps23
  go_wp2_with (at_builtin; go_must (refine copy_step rfl _ _ rfl gs cs D.sure rfl rfl HS.out HN.out hm ?_); intro g c w1 hrow hb hg hc)
  have HB := Lib.hid hb
  have hb0 := hb.size
  have c1' := cell_then hb c1
  have HO1 := Lib.hid (own_then HP.out hb)
  have hgw := hrow.lt
  clear hb c0 c1
  go_loopw [4] (fun i wr => ∃ (k : Nat), k ≤ D.pend.length ∧ i = .int .i64 (k : Int) ∧ RowX 5 wr g (overs D.sure (D.pend.take k)) ∧ Kept [g] w1 wr) (fun i _ => D.pend.length - (intOf i).toNat)
  case atStart => exact ⟨0, by omega, rfl, by rw [List.take_zero]; exact hrow, Kept.refl _ _⟩
  case round =>
    obtain ⟨k, hk, rfl, hr, hK⟩ := hrel
    have c1 := hK.cell c1' (by simp; omega)
    have HR := Lib.hid hr
    have HKK := Lib.hid hK
    have hpw := hK.own HO1.out (fun q hq hx => by have h3 := (HP.out.lt q hq).2; have := List.mem_singleton.1 hx; omega)
    have HPW := Lib.hid hpw
    clear c1' hr hK hpw hrow
    by_cases hlt : k < D.pend.length
    · obtain ⟨gp, pc, rfl, hp1, hp2⟩ := HPW.out.form (by omega)
      obtain ⟨g1, g2⟩ := pcs_get hlt
      have p0 : wr.cell? ⟨gp, k * 2, none⟩ = _ := (HPW.out.cellAt (k * 2) (by omega)).trans g1
      have p1 : wr.cell? ⟨gp, k * 2 + 1, none⟩ = _ := (HPW.out.cellAt (k * 2 + 1) (by omega)).trans g2
      have hfit := HK.out.fit (D.pend.getD k (0, ByteArray.empty)) (by rw [List.getD, List.getElem?_eq_getElem hlt]; exact List.getElem_mem hlt)
      have hgp : gp ≠ g := by have h3 := (HP.out.lt gp rfl).2; omega
      obtain ⟨x, hx⟩ : ∃ x, D.pend.getD k (0, ByteArray.empty) = x := ⟨_, rfl⟩
      rw [hx] at p0 p1 hfit
      obtain ⟨q, s⟩ := x
      simp only at p0 p1 hfit
      have HX := Lib.hid hx
      have hln := Lib.hid (show (overs D.sure (D.pend.take k)).length = D.sure.length from overs_length (fit_take HK.out.fit k))
      obtain ⟨Lk, hLk⟩ : ∃ Lk, overs D.sure (D.pend.take k) = Lk := ⟨_, rfl⟩
      have HLk := Lib.hid hLk
      rw [hLk] at HR hln
      have hs0 : wr.drew.cell? ⟨h, 1, none⟩ = some (.slice (some ⟨gp, 0, none⟩) D.pend.length pc) := c1
      have hs1 : wr.drew.cell? ⟨gp, k * 2, none⟩ = some (.int .i64 (q : Int)) := p0
      have hs2 : wr.drew.cell? ⟨gp, k * 2 + 1, none⟩ = some (.string s) := p1
      have i0 : (0 : Int) ≤ (k : Int) := by omega
      have i1 : (k : Int) < (D.pend.length : Int) := by omega
      have hRd : RowX 5 wr.drew g Lk := HR.out
      have HRd := Lib.hid hRd
      clear hx hLk g1 g2 hRd
      go_wp2_with fail
      go_region_held3 (fun w' => w'.cell? ⟨h, 1, none⟩ = some (.slice (some ⟨gp, 0, none⟩) D.pend.length pc) ∧ w'.cell? ⟨gp, k * 2, none⟩ = some (.int .i64 (q : Int)) ∧ w'.cell? ⟨gp, k * 2 + 1, none⟩ = some (.string s)) ((first | exact ⟨hs0, hs1, hs2⟩ | exact ⟨y0, y1, y2⟩)) (first | (go_at_call 57; (with_reducible refine (apply_any g D.sure.length c q Lk s _ HRd.out hln.out hfit hm).mono ?_); rintro e w5 ⟨rfl, r5, k5⟩; have y0 := k5.cell hs0 (by simp; omega); have y1 := k5.cell hs1 (by simp; omega); have y2 := k5.cell hs2 (by simp; omega)))
      go_wp2_with fail
      refine ⟨⟨k + 1, by omega, by go_num, ?_, HKK.out.drew.trans k5 (New.refl _ _)⟩, by simp [intOf]; omega⟩
      rw [overs_take hlt, HX.out, HLk.out]
      exact r5
    · obtain rfl : k = D.pend.length := by omega
      have i1 : ¬ (D.pend.length : Int) < (D.pend.length : Int) := by omega
      obtain ⟨a, pc, rfl⟩ := pend_len HP.out
      go_wp2_with fail
      go_ret
      refine ⟨g, c, rfl, ?_, hg, hc, HKK.out.below_next HB.out hb0 (fun x hx => by have := List.mem_singleton.1 hx; omega)⟩
      have := HR.out
      rwa [List.take_length] at this
end Go.Proofs.YtnjkinljpekohaaGreatDoor
namespace Go.Proofs.YtnjkinljpekohaaGreatDoor
open Go.RowKit Dsk
def RTurn (h : Nat) (G : List Nat) (D' : Dk) (v : Value) (w : World) (e : Ending) (w' : World) : Prop := ∃ G' : List Nat, e = .returned v ∧ RefAt w' h G' D' ∧ Kept G w w' ∧ New w G G'
theorem RefAt.down {w : World} {h : Nat} {G : List Nat} {D : Dk} (hR : RefAt w h G D) : w.cell? ⟨h, 2, none⟩ = some (.bool D.off) := by
  obtain ⟨_, _, _, _, _, _, hg, _⟩ := hR
  exact (cells4 hg).2.2.1
theorem RefAt.row {w : World} {h : Nat} {G : List Nat} {D : Dk} (hR : RefAt w h G D) : ∃ gs cs, w.cell? ⟨h, 0, none⟩ = some (.slice (some ⟨gs, 0, none⟩) D.sure.length cs) := by
  obtain ⟨gs, cs, _, _, _, _, hg, _⟩ := hR
  exact ⟨gs, cs, (cells4 hg).1⟩
theorem rcut_off (n : Int) (h : Nat) (G : List Nat) (D : Dk) (w : World) (hR : RefAt w h G D) (ho : D.off = true) : Calls Tryz.prog 55 #[.pointer (some ⟨h, 0, none⟩), .int .i64 n] w fun e w' => e = .returned (.int .i64 331) ∧ w = w' := by
  have c2 := hR.down
  rw [ho] at c2
  clear hR ho
  go_enter Tryz.func55, Tryz.ntmps55
  go_wp2_with fail
  go_ret
  exact ⟨rfl, rfl⟩
theorem rcut_neg (n : Int) (h : Nat) (G : List Nat) (D : Dk) (w : World) (hR : RefAt w h G D) (ho : D.off = false) (hn : n < 0) : Calls Tryz.prog 55 #[.pointer (some ⟨h, 0, none⟩), .int .i64 n] w fun e w' => e = .returned (.int .i64 2) ∧ w = w' := by
  have c2 := hR.down
  rw [ho] at c2
  clear hR ho
  go_enter Tryz.func55, Tryz.ntmps55
  go_wp2_with fail
  go_ret
  exact ⟨rfl, rfl⟩
theorem rcut_yes (n : Int) (h : Nat) (G : List Nat) (D : Dk) (w : World) (hR : RefAt w h G D) (ho : D.off = false) (h0 : 0 ≤ n) (hm : n ≤ 9223372036854775807) : Calls Tryz.prog 55 #[.pointer (some ⟨h, 0, none⟩), .int .i64 n] w (RTurn h G (cu D n) (.int .i64 0) w) := by
  have HR := Lib.hid hR
  have c2 := hR.down
  rw [ho] at c2
  obtain ⟨gs, cs, pv, rfl, h1, h2, hg, hs, hp, hk, hc⟩ := hR
  have c3 := (cells4 hg).2.2.2
  have f2 := frozen_of_row w h 2 _ _ hg
  have f3 := frozen_of_row w h 3 _ _ hg
  have h00 : ¬ n < 0 := by omega
  have HG := Lib.hid hg
  have HS := Lib.hid hs
  have HP := Lib.hid hp
  have HK := Lib.hid hk
  have H2 := Lib.hid h2
  clear hg hs hp hk h2 ho
  go_enter Tryz.func55, Tryz.ntmps55
  go_wp2_with fail
  go_ret
  have KP : Kept [h] w ((w.setCell ⟨h, 3, none⟩ (.int .i64 n)).setCell ⟨h, 2, none⟩ (.bool (n == 0))) := ((Kept.refl _ _).setCell (.inl (by simp)) _).setCell (.inl (by simp)) _
  have q0 := heap_setCell_same w h 3 _ _ (.int .i64 n) HG.out
  have q1 := heap_setCell_same _ h 2 _ _ (.bool (n == 0)) q0
  refine ⟨_, rfl, ⟨gs, cs, pv, rfl, h1, H2.out, by simpa [cu] using q1, HS.out.kept KP (by simpa using fun e => h1 e.symm), KP.own HP.out (fun k hk => by simpa using (H2.out k hk).1), ok_cu HK.out h0 hm, hc⟩, KP.mono (by simp), New.refl _ _⟩
theorem rread_off (o n : Int) (h : Nat) (G : List Nat) (D : Dk) (w : World) (hR : RefAt w h G D) (ho : D.off = true) : Calls Tryz.prog 89 #[.pointer (some ⟨h, 0, none⟩), .int .i64 o, .int .i64 n] w fun e w' => e = .returned (.tuple #[.string ByteArray.empty, .int .i64 331]) ∧ w = w' := by
  have c2 := hR.down
  rw [ho] at c2
  clear hR ho
  go_enter Tryz.func89, Tryz.ntmps89
  go_wp2_with fail
  go_ret2
  exact ⟨rfl, rfl⟩
theorem rread_out (o n : Int) (h : Nat) (G : List Nat) (D : Dk) (w : World) (hR : RefAt w h G D) (ho : D.off = false) (hi : inB D.sure.length o n = false) : Calls Tryz.prog 89 #[.pointer (some ⟨h, 0, none⟩), .int .i64 o, .int .i64 n] w fun e w' => e = .returned (.tuple #[.string ByteArray.empty, .int .i64 330]) ∧ w = w' := by
  have c2 := hR.down
  rw [ho] at c2
  obtain ⟨gs, cs, c0⟩ := hR.row
  have hm := hR.ok.max
  have hi := inB_not hi
  obtain ⟨m, hm2⟩ : ∃ m, D.sure.length = m := ⟨_, rfl⟩
  rw [hm2] at c0 hm hi
  clear hR ho hm2
  rcases (show o < 0 ∨ (0 ≤ o ∧ n < 0) ∨ (0 ≤ o ∧ 0 ≤ n ∧ (m : Int) < o) ∨ (0 ≤ o ∧ 0 ≤ n ∧ o ≤ (m : Int) ∧ (m : Int) - o < n) by omega) with j | ⟨j1, j2⟩ | ⟨j1, j2, j3⟩ | ⟨j1, j2, j3, j4⟩
  all_goals
    clear hi
    go_enter Tryz.func89, Tryz.ntmps89
    go_wp2_with fail
    go_ret2
    exact ⟨rfl, rfl⟩
theorem conv_rowX {w : World} {g : Nat} {L : List UInt8} (h : RowX 5 w g L) (o n c : Nat) (ho : o + n ≤ L.length) :
    (convert 53 9 (.slice (some ⟨g, o, none⟩) n c)).run Tryz.prog w = .ok (.string (sof ((L.drop o).take n))) w := by
  rw [run_convert_bytes_arg (P := Tryz.prog) w 53 5 Tryz.underlying53 Tryz.underlying5 g o n c (((L.drop o).take n).map fun b : UInt8 => ((b.toNat : Nat) : Int)) (by simp; omega) (fun i hi => ?_) 9 Tryz.underlying9, strOf_sof]
  rw [h.cell (show o + i < L.length by omega)]
  simp [List.getD, hi, show o + i < L.length by omega]
set_option maxRecDepth 100000 in
theorem rread_in (o n : Nat) (h : Nat) (G : List Nat) (D : Dk) (w : World) (hR : RefAt w h G D) (ho : D.off = false) (hi : o + n ≤ D.sure.length) (hn : 1 ≤ D.sure.length) (hpl : D.pend.length ≤ 1000000) : Calls Tryz.prog 89 #[.pointer (some ⟨h, 0, none⟩), .int .i64 (o : Int), .int .i64 (n : Int)] w fun e w' => e = .returned (.tuple #[.string (sof (((overs D.sure D.pend).drop o).take n)), .int .i64 0]) ∧ Below w.heap.size w w' := by
  have HR := Lib.hid hR
  have c2 := hR.down
  rw [ho] at c2
  obtain ⟨gs, cs, c0⟩ := hR.row
  have hm := hR.ok.max
  have hvl := Lib.hid (overs_length hR.ok.fit)
  have HN := Lib.hid hn
  have HPL := Lib.hid hpl
  have j1 : (0 : Int) ≤ (o : Int) := by omega
  have j2 : (0 : Int) ≤ (n : Int) := by omega
  have j3 : (o : Int) ≤ (D.sure.length : Int) := by omega
  have j4 : (n : Int) ≤ (D.sure.length : Int) - (o : Int) := by omega
  clear hR ho hn hpl
  go_enter Tryz.func89, Tryz.ntmps89
  go_wp2_with fail
  refine (visible_any h G D _ HR.out HN.out HPL.out).mono ?_
  rintro e w1 ⟨g, c, rfl, hrow, hg1, hc1, hb⟩
  by_cases hco : c = o
  · have hn0 : n = 0 := by omega
    have hcv := conv_rowX hrow 0 n 0 (by rw [hvl.out]; omega)
    rw [show sof (((overs D.sure D.pend).drop 0).take n) = sof (((overs D.sure D.pend).drop o).take n) by rw [hn0]; simp] at hcv
    clear hn0
    go_wp2_with fail
    go_ret2
    exact ⟨rfl, hb⟩
  · have hcv := conv_rowX hrow o n (c - o) (by rw [hvl.out]; exact hi)
    go_wp2_with fail
    go_ret2
    exact ⟨rfl, hb⟩
set_option maxRecDepth 100000 in
theorem rsync_off (h : Nat) (G : List Nat) (D : Dk) (w : World) (hR : RefAt w h G D) (ho : D.off = true) : Calls Tryz.prog 60 #[.pointer (some ⟨h, 0, none⟩)] w fun e w' => e = .returned (.int .i64 331) ∧ w = w' := by
  have c2 := hR.down
  rw [ho] at c2
  clear hR ho
  go_enter Tryz.func60, Tryz.ntmps60
  go_wp2_with fail
  go_ret
  exact ⟨rfl, rfl⟩
theorem rsync_ok (h : Nat) (G : List Nat) (D : Dk) (w : World) (hR : RefAt w h G D) (ho : D.off = false) (hv : Vis D) (hn : 1 ≤ D.sure.length) (hpl : D.pend.length ≤ 1000000) : Calls Tryz.prog 60 #[.pointer (some ⟨h, 0, none⟩)] w (RTurn h G (sy D) (.int .i64 0) w) := by
  have HR := Lib.hid hR
  have HV := Lib.hid hv
  have c2 := hR.down
  rw [ho] at c2
  have HK := Lib.hid hR.ok
  have HGL := Lib.hid hR.lt
  obtain ⟨gs, cs, pv, rfl, h1, h2, hg, hs, hp, hk, hc⟩ := hR
  have HG := Lib.hid hg
  have lh := hlt hg
  clear hg hs hp hk h2 ho hv
  go_enter Tryz.func60, Tryz.ntmps60
  go_wp2_with fail
  refine (visible_any h _ D _ HR.out hn hpl).mono ?_
  rintro e w1 ⟨g, c, rfl, hrow, hg1, hc1, hb⟩
  have q0 := (Kept.of_below hb).heap HG.out (by simp)
  have k0 := (cells4 q0).1
  have k1 := (cells4 q0).2.1
  have f0 := frozen_of_row w1 h 0 _ _ q0
  have f1 := frozen_of_row w1 h 1 _ _ q0
  have Q0 := Lib.hid q0
  have HRW := Lib.hid hrow
  have HB := Lib.hid hb
  clear q0 hrow hb
  go_wp2_with fail
  go_ret
  have hln := HK.out.len
  have s0 := heap_setCell_same w1 h 0 _ _ (.slice (some ⟨g, 0, none⟩) D.sure.length c) Q0.out
  have s1 := heap_setCell_same _ h 1 _ _ (.slice none 0 0) s0
  have K1 : Kept [h] w1 ((w1.setCell ⟨h, 0, none⟩ (.slice (some ⟨g, 0, none⟩) D.sure.length c)).setCell ⟨h, 1, none⟩ (.slice none 0 0)) := ((Kept.refl _ _).setCell (.inl (by simp)) _).setCell (.inl (by simp)) _
  have K3 : Kept [h] w ((w1.setCell ⟨h, 0, none⟩ (.slice (some ⟨g, 0, none⟩) D.sure.length c)).setCell ⟨h, 1, none⟩ (.slice none 0 0)) := ((Kept.of_below HB.out).mono (fun _ h => by cases h)).trans K1 (New.refl _ _)
  refine ⟨[h, g], rfl, ⟨g, c, .slice none 0 0, rfl, by omega, fun k hk => (by cases hk), ?_, ?_, World.ownsRow_nil _ _ _ _, ok_sy HK.out, ?_⟩, K3.mono (by simp), ?_⟩
  · show _ = some (Obj.cells #[Value.slice (some ⟨g, 0, none⟩) D.vis.length c, .slice none 0 0, .bool D.off, .int .i64 D.left] 56 (0, 0))
    rw [hln]
    simpa using s1
  · show RowX _ _ g D.vis
    rw [HV.out]
    exact HRW.out.kept K1 (by simp; omega)
  · show D.vis.length ≤ c
    rw [hln]; exact hc1
  · intro k hk
    simp only [List.mem_cons, List.not_mem_nil, or_false] at hk
    rcases hk with rfl | rfl
    · exact .inl (by simp)
    · exact .inr hg1
end Go.Proofs.YtnjkinljpekohaaGreatDoor
namespace Go.Proofs.YtnjkinljpekohaaGreatDoor
open Go.RowKit Dsk
theorem rwrite_off (o : Int) (s : ByteArray) (h : Nat) (G : List Nat) (D : Dk) (w : World) (hR : RefAt w h G D) (ho : D.off = true) : Calls Tryz.prog 28 #[.pointer (some ⟨h, 0, none⟩), .int .i64 o, .string s] w fun e w' => e = .returned (.int .i64 331) ∧ w = w' := by
  have c2 := hR.down
  rw [ho] at c2
  clear hR ho
  go_enter Tryz.func28, Tryz.ntmps28
  go_wp2_with fail
  go_ret
  exact ⟨rfl, rfl⟩
theorem rwrite_out (o : Int) (s : ByteArray) (h : Nat) (G : List Nat) (D : Dk) (w : World) (hR : RefAt w h G D) (ho : D.off = false) (hi : inB D.sure.length o (s.size : Int) = false) : Calls Tryz.prog 28 #[.pointer (some ⟨h, 0, none⟩), .int .i64 o, .string s] w fun e w' => e = .returned (.int .i64 330) ∧ w = w' := by
  have c2 := hR.down
  rw [ho] at c2
  obtain ⟨gs, cs, c0⟩ := hR.row
  have hm := hR.ok.max
  have hi := inB_not hi
  obtain ⟨m, hm2⟩ : ∃ m, D.sure.length = m := ⟨_, rfl⟩
  rw [hm2] at c0 hm hi
  clear hR ho hm2
  rcases (show o < 0 ∨ (0 ≤ o ∧ (m : Int) < o) ∨ (0 ≤ o ∧ o ≤ (m : Int) ∧ (m : Int) - o < (s.size : Int)) by omega) with j | ⟨j1, j2⟩ | ⟨j1, j2, j3⟩
  all_goals
    clear hi
    go_enter Tryz.func28, Tryz.ntmps28
    go_wp2_with fail
    go_ret
    exact ⟨rfl, rfl⟩
theorem change_info : (Tryz.prog.info? 110).map (fun i => (i.zero, i.size, i.bytes)) = some (some (.agg #[.int .i64 0, .string ByteArray.empty]), 2, 24) := by kernel_rfl
/-- what follows the append: the new list is laid into the disk -/
theorem wr_mk {w V : World} {h gs cs : Nat} {pv : Value} {D : Dk} {o : Nat} {s : ByteArray} {g' cp' : Nat} (h1 : h ≠ gs) (h2 : ∀ k, pv.ownBlock = some k → k ≠ h ∧ k ≠ gs) (hs : RowX 5 w gs D.sure) (hk : Ok D) (hc : D.sure.length ≤ cs)
    (hi : o + s.size ≤ D.sure.length) (hat : pv.ownBlock = some g' ∨ w.heap.size ≤ g') (hlh : h < w.heap.size)
    (K : Kept (h :: pv.ownBlock.toList) w V) (hG : V.heap[h]? = some (.cells #[.slice (some ⟨gs, 0, none⟩) D.sure.length cs, .slice (some ⟨g', 0, none⟩) (D.pend.length + 1) cp', .bool (offW D), .int .i64 (leftW D)] 56 (0, 0)))
    (hO : V.ownsRow 0 110 2 (.slice (some ⟨g', 0, none⟩) (D.pend.length + 1) cp') (D.pend.length + 1) (pcs (D.pend ++ [(o, s)]))) :
    ∃ G' : List Nat, RefAt V h G' (wr D o s) ∧ Kept (h :: gs :: pv.ownBlock.toList) w V ∧ New w (h :: gs :: pv.ownBlock.toList) G' := by
  have hgs := hs.lt
  have hgg : g' ≠ h ∧ g' ≠ gs := by
    rcases hat with hat | hat
    · exact h2 _ hat
    · omega
  refine ⟨[h, gs, g'], ⟨gs, cs, .slice (some ⟨g', 0, none⟩) (D.pend.length + 1) cp', rfl, h1, fun k hk => ?_, hG, hs.kept K ?_, ?_, ok_wr hk hi, hc⟩, K.mono ?_, ?_⟩
  · injection hk with hk
    subst hk
    exact hgg
  · intro hx
    rcases List.mem_cons.1 hx with rfl | hx
    · exact h1 rfl
    · exact (h2 _ (own_mem hx)).2 rfl
  · show V.ownsRow 0 _ 2 _ (D.pend ++ [(o, s)]).length _
    rw [List.length_append]
    exact hO
  · intro k hk
    rcases List.mem_cons.1 hk with rfl | hk
    · simp
    · exact List.mem_cons_of_mem _ (List.mem_cons_of_mem _ hk)
  · intro k hk
    simp only [List.mem_cons, List.not_mem_nil, or_false] at hk
    rcases hk with rfl | rfl | rfl
    · exact .inl (by simp)
    · exact .inl (by simp)
    · rcases hat with hat | hat
      · exact .inl (List.mem_cons_of_mem _ (List.mem_cons_of_mem _ (mem_own hat)))
      · exact .inr hat
set_option maxRecDepth 100000 in
set_option maxHeartbeats 2000000 in
theorem rwrite_in (o : Nat) (s : ByteArray) (h : Nat) (G : List Nat) (D : Dk) (w : World) (hR : RefAt w h G D) (ho : D.off = false) (hi : o + s.size ≤ D.sure.length) (hpl : D.pend.length ≤ 1000000) :
    Calls Tryz.prog 28 #[.pointer (some ⟨h, 0, none⟩), .int .i64 (o : Int), .string s] w (RTurn h G (wr D o s) (.int .i64 0) w) := by
  have c2 := hR.down
  rw [ho] at c2
  have HO := Lib.hid ho
  obtain ⟨gs, cs, pv, rfl, h1, h2, hg, hs, hp, hk, hc⟩ := hR
  have c0 := (cells4 hg).1
  have c1 := (cells4 hg).2.1
  have c3 := (cells4 hg).2.2.2
  have f1 := frozen_of_row w h 1 _ _ hg
  have lh := hlt hg
  have hm := hk.max
  have hpo := hk.pos
  have hle := hk.left
  have HG := Lib.hid hg
  have HS := Lib.hid hs
  have HP := Lib.hid hp
  have HK := Lib.hid hk
  have H2 := Lib.hid h2
  have HGN := Lib.hid (show h ∉ pv.ownBlock.toList from fun e => (h2 h (own_mem e)).1 rfl)
  obtain ⟨i0, hi0, hz0, hz1, hz2⟩ := info_parts change_info
  have j1 : (0 : Int) ≤ (o : Int) := by omega
  have j3 : (o : Int) ≤ (D.sure.length : Int) := by omega
  have j4 : (s.size : Int) ≤ (D.sure.length : Int) - (o : Int) := by omega
  have HI := Lib.hid hi
  have FIN : Hid (∀ (V : World) (g' cp' : Nat) (b : Bool) (z : Int), (pv.ownBlock = some g' ∨ g' = w.heap.size + 1) → offW D = b → leftW D = z → Kept (h :: pv.ownBlock.toList) w V →
      V.heap[h]? = some (.cells #[.slice (some ⟨gs, 0, none⟩) D.sure.length cs, .slice (some ⟨g', 0, none⟩) (D.pend.length + 1) cp', .bool b, .int .i64 z] 56 (0, 0)) →
      V.ownsRow 0 110 2 (.slice (some ⟨g', 0, none⟩) (D.pend.length + 1) cp') (D.pend.length + 1) (pcs D.pend ++ [.int .i64 (o : Int), .string s]) →
      RTurn h (h :: gs :: pv.ownBlock.toList) (wr D o s) (.int .i64 0) w (.returned (.int .i64 0)) V) := by
    show ∀ (V : World) (g' cp' : Nat) (b : Bool) (z : Int), _
    intro V g' cp' b z hat e1 e2 K hG hO
    subst e1 e2
    obtain ⟨G', r1, r2, r3⟩ := wr_mk h1 h2 hs hk hc hi (hat.imp id (fun e => by omega)) lh K hG (by rw [pcs_append]; exact hO)
    exact ⟨G', rfl, r1, r2, r3⟩
  have hofl := Lib.hid (show offW D = if D.left = 0 then false else D.left - 1 == 0 by rw [offW, ho])
  have hlfl := Lib.hid (show leftW D = if D.left = 0 then 0 else D.left - 1 from rfl)
  have hoff := HO.out
  have HH2 := Lib.hid h2
  obtain ⟨lf, hlf⟩ : ∃ lf, D.left = lf := ⟨_, rfl⟩
  rw [hlf] at c3 hofl hlfl hpo hle HG
  rw [ho] at HG
  clear hg hs hp hk h2 ho hi HS HK H2 HI hlf hoff
  rcases (show lf = 0 ∨ lf = 1 ∨ 1 < lf by omega) with rfl | rfl | hl1
  all_goals
    try have l0 : (0 : Int) < lf := by omega
    try have lb : (lf - 1 == 0) = false := by rw [beq_eq_false_iff_ne]; omega
    try have lw : ¬ lf = 0 := by omega
    go_enter Tryz.func28, Tryz.ntmps28
    go_wp2_with (at_builtin; go_must (refine wpList_append_lies _ rfl _ _ _ rfl 0 110 i0 _ 2 24 Tryz.underlying54 hi0 hz0 hz1 hz2 rfl (by omega) pv D.pend.length _ rfl (HP.out.alloc _) ⟨w.heap.size, 0, none⟩ 1 1 [.int .i64 (o : Int), .string s] rfl rfl new_write (by simp [Value.oneCell']) (by omega) (by unfold maxLen; omega) (by omega) (by omega) (w.heap.size + 1) (by simp) ?_); intro g' cp' wy hown' hgrow hat hlt'; have KW := Lib.hid ((((Kept.refl [] w).alloc (.cells #[.int .i64 (o : Int), .string s] 110)).mono (fun _ h => by cases h) : Kept pv.ownBlock.toList w _).grown hgrow (fun k hk => .inl (mem_own hk))); have G4 := KW.out.heap HG.out HGN.out; have y1 := (cells4 G4).2.1; have y2 := (cells4 G4).2.2.1; have y3 := (cells4 G4).2.2.2; have z1 := frozen_of_row wy h 1 _ _ G4; have z2 := frozen_of_row wy h 2 _ _ G4; have z3 := frozen_of_row wy h 3 _ _ G4; have HG4 := Lib.hid G4; have HOW := Lib.hid hown'; have HAT := Lib.hid hat; clear G4 hown' hgrow hat)
    go_ret
    have hgh : g' ≠ h := by
      rcases HAT.out with hat | hat
      · exact (HH2.out _ hat).1
      · omega
    have s1 := heap_setCell_same wy h 1 _ _ (.slice (some ⟨g', 0, none⟩) (D.pend.length + 1) cp') HG4.out
    have K1 : Kept (h :: pv.ownBlock.toList) w (wy.setCell ⟨h, 1, none⟩ (.slice (some ⟨g', 0, none⟩) (D.pend.length + 1) cp')) := (KW.out.mono (fun k h => List.mem_cons_of_mem _ h)).setCell (.inl (by simp)) _
    have O1 : Kept [h] wy (wy.setCell ⟨h, 1, none⟩ (.slice (some ⟨g', 0, none⟩) (D.pend.length + 1) cp')) := (Kept.refl _ _).setCell (.inl (by simp)) _
    have hoo : ∀ k, (Value.slice (some ⟨g', 0, none⟩) (D.pend.length + 1) cp').ownBlock = some k → k ∉ [h] := fun k hk => by
      obtain rfl : g' = k := by simpa [Value.ownBlock] using hk
      simpa using hgh
    obtain ⟨V1, hV1⟩ : ∃ V1, wy.setCell ⟨h, 1, none⟩ (.slice (some ⟨g', 0, none⟩) (D.pend.length + 1) cp') = V1 := ⟨_, rfl⟩
    rw [hV1] at s1 K1 O1 ⊢
  · exact FIN.out _ g' cp' false 0 HAT.out (by simpa using hofl.out) (by simpa using hlfl.out) K1 (by simpa using s1) (O1.own HOW.out hoo)
  · have s2 := heap_setCell_same V1 h 3 _ _ (.int .i64 0) s1
    have s3 := heap_setCell_same _ h 2 _ _ (.bool true) s2
    exact FIN.out _ g' cp' true 0 HAT.out (by simpa using hofl.out) (by simpa using hlfl.out) ((K1.setCell (.inl (by simp)) _).setCell (.inl (by simp)) _) (by simpa using s3) (((O1.setCell (.inl (by simp)) _).setCell (.inl (by simp)) _).own HOW.out hoo)
  · have s2 := heap_setCell_same V1 h 3 _ _ (.int .i64 (lf - 1)) s1
    have e1 := hofl.out
    have e2 := hlfl.out
    rw [if_neg lw] at e1 e2
    rw [lb] at e1
    exact FIN.out _ g' cp' false (lf - 1) HAT.out e1 e2 (K1.setCell (.inl (by simp)) _) (by simpa using s2) ((O1.setCell (.inl (by simp)) _).own HOW.out hoo)
end Go.Proofs.YtnjkinljpekohaaGreatDoor
namespace Go.Proofs.YtnjkinljpekohaaGreatDoor
open Go.RowKit Dsk
theorem full_str (s : ByteArray) : s.extract 0 s.size = s := by simp
theorem filter_next {p : Nat → Bool} {k : Nat} (h : p k = true) : (List.range (k + 1)).filter p = (List.range k).filter p ++ [k] := by
  rw [List.range_succ, List.filter_append]; simp [h]
theorem filter_not {p : Nat → Bool} {k : Nat} (h : p k = false) : (List.range (k + 1)).filter p = (List.range k).filter p := by
  rw [List.range_succ, List.filter_append]; simp [h]
/-- the first k writes that survive, not yet torn -/
def sel (D : Dk) (keep : List Int) (k : Nat) : List (Nat × ByteArray) := ((List.range k).filter fun i : Nat => keep.contains (i : Int)).map fun i => D.pend.getD i (0, ByteArray.empty)
theorem sel_in {D : Dk} {keep : List Int} {k : Nat} (h : keep.contains (k : Int) = true) : sel D keep (k + 1) = sel D keep k ++ [D.pend.getD k (0, ByteArray.empty)] := by
  rw [sel, filter_next (p := fun i : Nat => keep.contains (i : Int)) h, List.map_append]; rfl
theorem sel_out {D : Dk} {keep : List Int} {k : Nat} (h : keep.contains (k : Int) = false) : sel D keep (k + 1) = sel D keep k := by
  rw [sel, filter_not (p := fun i : Nat => keep.contains (i : Int)) h]; rfl
theorem sel_length (D : Dk) (keep : List Int) (k : Nat) : (sel D keep k).length ≤ k := by
  rw [sel, List.length_map]
  have := List.length_filter_le (fun i : Nat => keep.contains (i : Int)) (List.range k)
  simpa using this
theorem surv_sel (D : Dk) (keep : List Int) (t : Int) : surv D keep t = tear t (sel D keep D.pend.length) := rfl
set_option maxRecDepth 100000 in
set_option maxHeartbeats 2000000 in
theorem rcrash_any (h : Nat) (G : List Nat) (D : Dk) (A : Option Addr) (cap : Nat) (keep : List Int) (t : Int) (w : World) (hR : RefAt w h G D) (hA : IntsAt w A keep) (hn : keep.length ≤ 17592186044416) (ht : t ≤ 9223372036854775807) (hpl : D.pend.length ≤ 1000000) :
    Calls Tryz.prog 56 #[.pointer (some ⟨h, 0, none⟩), .slice A keep.length cap, .int .i64 t] w (RTurn h G (cr D keep t) (.tuple #[]) w) := by
  obtain ⟨i0, hi0, hz0, hz1, hz2⟩ := info_parts change_info
  have HKA := Lib.hid hA
  have HT := Lib.hid ht
  have HNN := Lib.hid hn
  obtain ⟨gs, cs, pv, rfl, h1, h2, hg, hs, hp, hk, hc⟩ := hR
  have c1 := (cells4 hg).2.1
  have lh := hlt hg
  have lgs := hs.lt
  have hm := hk.max
  have HG := Lib.hid hg
  have HS := Lib.hid hs
  have HP := Lib.hid hp
  have HK := Lib.hid hk
  have H2 := Lib.hid h2
  have HSV := Lib.hid (fit_surv hk keep t)
  clear hg hs hp hk h2 ht hA hn
  go_enter Tryz.func56, Tryz.ntmps56
  go_wp2_with fail
  go_loopw [6, 7] (fun v i wr => ∃ (vv : Value) (k : Nat), vv = v ∧ k ≤ D.pend.length ∧ i = .int .i64 (k : Int) ∧ wr.ownsRow w.heap.size 110 2 v (sel D keep k).length (pcs (sel D keep k)) ∧ Below w.heap.size w wr) (fun _ i _ => D.pend.length - (intOf i).toNat)
  case atStart => exact ⟨_, 0, rfl, by omega, rfl, World.ownsRow_nil _ _ _ _, Below.refl _ _⟩
  case round =>
    obtain ⟨v, k, rfl, hk, rfl, hown, hB⟩ := hrel
    have c1w := cell_then hB c1
    have HPW := Lib.hid (own_then HP.out hB)
    have HB := Lib.hid hB
    have hBs := hB.size
    have Hown := Lib.hid hown
    have hsl := sel_length D keep k
    clear hown hB c1
    by_cases hlt : k < D.pend.length
    · obtain ⟨gp, pc, rfl, hp1, hp2⟩ := HPW.out.form (by omega)
      obtain ⟨g1, g2⟩ := pcs_get hlt
      have p0 : wr.cell? ⟨gp, k * 2, none⟩ = _ := (HPW.out.cellAt (k * 2) (by omega)).trans g1
      have p1 : wr.cell? ⟨gp, k * 2 + 1, none⟩ = _ := (HPW.out.cellAt (k * 2 + 1) (by omega)).trans g2
      obtain ⟨x, hx⟩ : ∃ x, D.pend.getD k (0, ByteArray.empty) = x := ⟨_, rfl⟩
      rw [hx] at p0 p1
      obtain ⟨q, s⟩ := x
      simp only at p0 p1
      have HX := Lib.hid hx
      have i1 : (k : Int) < (D.pend.length : Int) := by omega
      have i2 : (0 : Int) ≤ (k : Int) := by omega
      clear g1 g2 hx
      go_wp2_with fail
      refine (has_any A cap keep k _ (HKA.out.then_ HB.out) (by have := HNN.out; omega)).mono ?_
      rintro e w3 ⟨rfl, rfl⟩
      cases hc : keep.contains (k : Int) with
      | true =>
        go_wp2_with (at_builtin; go_must (refine wpList_append_lies _ rfl _ _ _ rfl w.heap.size 110 i0 _ 2 24 Tryz.underlying54 hi0 hz0 hz1 hz2 rfl (by omega) v (sel D keep k).length _ rfl (Hown.out.alloc _) ⟨wr.heap.size, 0, none⟩ 1 1 [.int .i64 (q : Int), .string s] rfl rfl new_write (by simp [Value.oneCell']) (by omega) (by unfold maxLen; omega) (by omega) (by simp; omega) (wr.heap.size + 1) (by simp) ?_); intro g' cp' wy hown' hgrow hat hlt')
        refine ⟨⟨_, k + 1, rfl, by omega, by go_num, ?_, (below_alloc HB.out _).grown hgrow (by simp; omega) (fun q hq => (Hown.out.lt q hq).1)⟩, by simp [intOf]; omega⟩
        rw [sel_in hc, HX.out, List.length_append, pcs_append]
        exact hown'
      | false =>
        go_wp2_with fail
        exact ⟨⟨_, k + 1, rfl, by omega, by go_num, by rw [sel_out hc]; exact Hown.out, HB.out⟩, by simp [intOf]; omega⟩
    · obtain rfl : k = D.pend.length := by omega
      have i1 : ¬ (D.pend.length : Int) < (D.pend.length : Int) := by omega
      obtain ⟨pa, pc, rfl⟩ := pend_len HP.out
      obtain ⟨wl, rfl⟩ : ∃ x : World, x = wr := ⟨_, rfl⟩
      obtain ⟨S, hS⟩ : ∃ S, sel D keep D.pend.length = S := ⟨_, rfl⟩
      rw [hS] at Hown hsl
      have HSS := Lib.hid hS
      have hT := surv_sel D keep t
      rw [hS] at hT
      have HTT := Lib.hid hT
      have G0 := (Kept.of_below HB.out).heap HG.out (by simp)
      have HG0 := Lib.hid G0
      have R0 := Lib.hid (HS.out.kept (Kept.of_below HB.out) (by simp))
      obtain ⟨va, vc, rfl⟩ : ∃ a c, v = .slice a S.length c := by
        rcases Hown.out.2 with ⟨h', e⟩ | ⟨g, cap, _, h', _⟩
        · exact ⟨none, 0, by rw [h', e]⟩
        · exact ⟨_, _, h'⟩
      have HTL := Lib.hid (show (tear t S).length = S.length from tear_length t S)
      rw [HTT.out] at HSV
      clear hS hT hlt G0
      go_wp2_with fail
      go_loopw [8] (fun i wr => ∃ j : Nat, j ≤ S.length ∧ i = .int .i64 (j : Int) ∧ RowX 5 wr gs (overs D.sure ((tear t S).take j)) ∧ Kept [gs] wl wr) (fun i _ => S.length - (intOf i).toNat)
      case atStart => exact ⟨0, by omega, rfl, by rw [List.take_zero]; exact R0.out, Kept.refl _ _⟩
      case round =>
        clear c1w i1
        obtain ⟨j, hj, rfl, hr, hK⟩ := hrel
        have HKK := Lib.hid hK
        have HRJ := Lib.hid hr
        have G1 := hK.heap HG0.out (by simpa using h1)
        have k0 := (cells4 G1).1
        have k1 := (cells4 G1).2.1
        have HG1 := Lib.hid G1
        have HOJ := Lib.hid (hK.own Hown.out (fun q hq hx => by have h3 := (Hown.out.lt q hq).1; have := List.mem_singleton.1 hx; omega))
        clear hr hK
        by_cases hlt : j < S.length
        · obtain ⟨gq, qc, e, hq1, hq2⟩ := HOJ.out.form (by omega)
          injection e with e1 _ e3
          subst e1 e3
          obtain ⟨g1, g2⟩ := pcs_get hlt
          have p0 : wr.cell? ⟨gq, j * 2, none⟩ = _ := (HOJ.out.cellAt (j * 2) (by omega)).trans g1
          have p1 : wr.cell? ⟨gq, j * 2 + 1, none⟩ = _ := (HOJ.out.cellAt (j * 2 + 1) (by omega)).trans g2
          have htg := tear_get t hlt
          have hfit := HSV.out ((tear t S).getD j (0, ByteArray.empty)) (by rw [List.getD, List.getElem?_eq_getElem (by rw [HTL.out]; exact hlt)]; exact List.getElem_mem _)
          obtain ⟨x, hx⟩ : ∃ x, S.getD j (0, ByteArray.empty) = x := ⟨_, rfl⟩
          rw [hx] at p0 p1 htg
          obtain ⟨q, s⟩ := x
          simp only at p0 p1 htg
          rw [htg] at hfit
          have HTG := Lib.hid htg
          have hln := Lib.hid (show (overs D.sure ((tear t S).take j)).length = D.sure.length from overs_length (fit_take HSV.out j))
          obtain ⟨Lk, hLk⟩ : ∃ Lk, overs D.sure ((tear t S).take j) = Lk := ⟨_, rfl⟩
          have HLk := Lib.hid hLk
          rw [hLk] at HRJ hln
          have i0 : (0 : Int) ≤ (j : Int) := by omega
          have i1 : (j : Int) < (S.length : Int) := by omega
          have hqs : gq ≠ gs := by have := (Hown.out.lt gq rfl).1; omega
          have hm2 : (S.length : Int) ≤ 1000000 := by omega
          clear g1 g2 hx hLk htg
          rcases (show (j + 1 = S.length ∧ 0 ≤ t ∧ t < (s.size : Int)) ∨ (j + 1 = S.length ∧ 0 ≤ t ∧ ¬ t < (s.size : Int)) ∨ (j + 1 = S.length ∧ ¬ 0 ≤ t) ∨ ¬ j + 1 = S.length by omega) with ⟨y1, y2, y3⟩ | ⟨y1, y2, y3⟩ | ⟨y1, y2⟩ | y1
          · have hb1 : ((j : Int) == (S.length : Int) - 1) = true := by rw [beq_iff_eq]; omega
            have Y1 := Lib.hid y1
            have tk : (tear t S).getD j (0, ByteArray.empty) = (q, s.extract 0 t.toNat) := by rw [HTG.out, if_pos Y1.out, torn, if_pos y2, Nat.min_eq_left (by omega)]
            rw [← HTG.out, tk] at hfit
            simp only at hfit
            have HTK := Lib.hid tk
            have HFT := Lib.hid hfit
            clear y1 G1 tk hfit
            go_wp2_with fail
            have hs0 : wr.drew.cell? ⟨h, 0, none⟩ = some (.slice (some ⟨gs, 0, none⟩) D.sure.length cs) := k0
            have hs1 : wr.drew.cell? ⟨gq, j * 2, none⟩ = some (.int .i64 (q : Int)) := p0
            have HRd : Hid (RowX 5 wr.drew gs Lk) := HRJ.out
            go_region_held3 (fun w' => w'.cell? ⟨h, 0, none⟩ = some (.slice (some ⟨gs, 0, none⟩) D.sure.length cs) ∧ w'.cell? ⟨gq, j * 2, none⟩ = some (.int .i64 (q : Int))) ((first | exact ⟨hs0, hs1⟩ | exact ⟨x0, x1⟩)) (first | (go_at_call 57; (with_reducible refine (apply_any gs D.sure.length cs q Lk (s.extract 0 t.toNat) _ HRd.out hln.out HFT.out hm).mono ?_); rintro e w5 ⟨rfl, r5, k5⟩; have x0 := k5.cell hs0 (by simpa using h1); have x1 := k5.cell hs1 (by simpa using hqs)))
            go_wp2_with fail
            refine ⟨⟨j + 1, by omega, by go_num, ?_, HKK.out.drew.trans k5 (New.refl _ _)⟩, by simp [intOf]; omega⟩
            rw [overs_take (by rw [HTL.out]; exact hlt), HTK.out, HLk.out]
            exact r5
          · have hb1 : ((j : Int) == (S.length : Int) - 1) = true := by rw [beq_iff_eq]; omega
            have Y1 := Lib.hid y1
            have tk : (tear t S).getD j (0, ByteArray.empty) = (q, s) := by rw [HTG.out, if_pos Y1.out, torn, if_pos y2, Nat.min_eq_right (by omega), full_str]
            rw [← HTG.out, tk] at hfit
            simp only at hfit
            have HTK := Lib.hid tk
            have HFT := Lib.hid hfit
            clear y1 G1 tk hfit
            go_wp2_with fail
            have hs0 : wr.drew.cell? ⟨h, 0, none⟩ = some (.slice (some ⟨gs, 0, none⟩) D.sure.length cs) := k0
            have hs1 : wr.drew.cell? ⟨gq, j * 2, none⟩ = some (.int .i64 (q : Int)) := p0
            have HRd : Hid (RowX 5 wr.drew gs Lk) := HRJ.out
            go_region_held3 (fun w' => w'.cell? ⟨h, 0, none⟩ = some (.slice (some ⟨gs, 0, none⟩) D.sure.length cs) ∧ w'.cell? ⟨gq, j * 2, none⟩ = some (.int .i64 (q : Int))) ((first | exact ⟨hs0, hs1⟩ | exact ⟨x0, x1⟩)) (first | (go_at_call 57; (with_reducible refine (apply_any gs D.sure.length cs q Lk (s) _ HRd.out hln.out HFT.out hm).mono ?_); rintro e w5 ⟨rfl, r5, k5⟩; have x0 := k5.cell hs0 (by simpa using h1); have x1 := k5.cell hs1 (by simpa using hqs)))
            go_wp2_with fail
            refine ⟨⟨j + 1, by omega, by go_num, ?_, HKK.out.drew.trans k5 (New.refl _ _)⟩, by simp [intOf]; omega⟩
            rw [overs_take (by rw [HTL.out]; exact hlt), HTK.out, HLk.out]
            exact r5
          · have hb1 : ((j : Int) == (S.length : Int) - 1) = true := by rw [beq_iff_eq]; omega
            have Y1 := Lib.hid y1
            have tk : (tear t S).getD j (0, ByteArray.empty) = (q, s) := by rw [HTG.out, if_pos Y1.out, torn, if_neg y2]
            rw [← HTG.out, tk] at hfit
            simp only at hfit
            have HTK := Lib.hid tk
            have HFT := Lib.hid hfit
            clear y1 G1 tk hfit
            go_wp2_with fail
            have hs0 : wr.drew.cell? ⟨h, 0, none⟩ = some (.slice (some ⟨gs, 0, none⟩) D.sure.length cs) := k0
            have hs1 : wr.drew.cell? ⟨gq, j * 2, none⟩ = some (.int .i64 (q : Int)) := p0
            have HRd : Hid (RowX 5 wr.drew gs Lk) := HRJ.out
            go_region_held3 (fun w' => w'.cell? ⟨h, 0, none⟩ = some (.slice (some ⟨gs, 0, none⟩) D.sure.length cs) ∧ w'.cell? ⟨gq, j * 2, none⟩ = some (.int .i64 (q : Int))) ((first | exact ⟨hs0, hs1⟩ | exact ⟨x0, x1⟩)) (first | (go_at_call 57; (with_reducible refine (apply_any gs D.sure.length cs q Lk (s) _ HRd.out hln.out HFT.out hm).mono ?_); rintro e w5 ⟨rfl, r5, k5⟩; have x0 := k5.cell hs0 (by simpa using h1); have x1 := k5.cell hs1 (by simpa using hqs)))
            go_wp2_with fail
            refine ⟨⟨j + 1, by omega, by go_num, ?_, HKK.out.drew.trans k5 (New.refl _ _)⟩, by simp [intOf]; omega⟩
            rw [overs_take (by rw [HTL.out]; exact hlt), HTK.out, HLk.out]
            exact r5
          · have hb1 : ((j : Int) == (S.length : Int) - 1) = false := by rw [beq_eq_false_iff_ne]; omega
            have Y1 := Lib.hid y1
            have tk : (tear t S).getD j (0, ByteArray.empty) = (q, s) := by rw [HTG.out, if_neg Y1.out]
            rw [← HTG.out, tk] at hfit
            simp only at hfit
            have HTK := Lib.hid tk
            have HFT := Lib.hid hfit
            clear y1 G1 tk hfit
            go_wp2_with fail
            have hs0 : wr.drew.cell? ⟨h, 0, none⟩ = some (.slice (some ⟨gs, 0, none⟩) D.sure.length cs) := k0
            have hs1 : wr.drew.cell? ⟨gq, j * 2, none⟩ = some (.int .i64 (q : Int)) := p0
            have HRd : Hid (RowX 5 wr.drew gs Lk) := HRJ.out
            go_region_held3 (fun w' => w'.cell? ⟨h, 0, none⟩ = some (.slice (some ⟨gs, 0, none⟩) D.sure.length cs) ∧ w'.cell? ⟨gq, j * 2, none⟩ = some (.int .i64 (q : Int))) ((first | exact ⟨hs0, hs1⟩ | exact ⟨x0, x1⟩)) (first | (go_at_call 57; (with_reducible refine (apply_any gs D.sure.length cs q Lk (s) _ HRd.out hln.out HFT.out hm).mono ?_); rintro e w5 ⟨rfl, r5, k5⟩; have x0 := k5.cell hs0 (by simpa using h1); have x1 := k5.cell hs1 (by simpa using hqs)))
            go_wp2_with fail
            refine ⟨⟨j + 1, by omega, by go_num, ?_, HKK.out.drew.trans k5 (New.refl _ _)⟩, by simp [intOf]; omega⟩
            rw [overs_take (by rw [HTL.out]; exact hlt), HTK.out, HLk.out]
            exact r5
        · obtain rfl : j = S.length := by omega
          have i1 : ¬ (S.length : Int) < (S.length : Int) := by omega
          have z1 := frozen_of_row wr h 1 _ _ G1
          have z2 := frozen_of_row wr h 2 _ _ G1
          have z3 := frozen_of_row wr h 3 _ _ G1
          have k2 := (cells4 G1).2.2.1
          have k3 := (cells4 G1).2.2.2
          clear G1
          go_wp2_with fail
          go_end0
          have s1 := heap_setCell_same wr h 1 _ _ (.slice none 0 0) HG1.out
          have s2 := heap_setCell_same _ h 2 _ _ (.bool false) s1
          have s3 := heap_setCell_same _ h 3 _ _ (.int .i64 0) s2
          have K0 : Kept [h] wr (((wr.setCell ⟨h, 1, none⟩ (.slice none 0 0)).setCell ⟨h, 2, none⟩ (.bool false)).setCell ⟨h, 3, none⟩ (.int .i64 0)) := (((Kept.refl _ _).setCell (.inl (by simp)) _).setCell (.inl (by simp)) _).setCell (.inl (by simp)) _
          have K1 : Kept [h, gs] w (((wr.setCell ⟨h, 1, none⟩ (.slice none 0 0)).setCell ⟨h, 2, none⟩ (.bool false)).setCell ⟨h, 3, none⟩ (.int .i64 0)) :=
            (((Kept.of_below HB.out).mono (S' := [h, gs]) (fun _ h => by cases h)).trans (HKK.out.mono (S' := [h, gs]) (by simp)) (New.refl _ _)).trans (K0.mono (S' := [h, gs]) (by simp)) (New.refl _ _)
          have hrr := HRJ.out
          rw [List.take_of_length_le (by rw [HTL.out]; exact Nat.le_refl _)] at hrr
          have hcl := cr_length HK.out keep t
          refine ⟨[h, gs], rfl, ⟨gs, cs, .slice none 0 0, rfl, h1, fun k hk => (by cases hk), ?_, ?_, World.ownsRow_nil _ _ _ _, ok_cr HK.out keep t, by rw [hcl]; exact hc⟩, K1.mono (fun k hk => ?_), New.of_lt (fun k hk => ?_)⟩
          · rw [hcl]
            simpa [cr] using s3
          · show RowX _ _ gs (overs D.sure (surv D keep t))
            rw [HTT.out]
            exact hrr.kept K0 (by simpa using fun e => h1 e.symm)
          · simp only [List.mem_cons, List.not_mem_nil, or_false] at hk
            rcases hk with rfl | rfl <;> simp
          · simp only [List.mem_cons, List.not_mem_nil, or_false] at hk
            rcases hk with rfl | rfl <;> simp
end Go.Proofs.YtnjkinljpekohaaGreatDoor
