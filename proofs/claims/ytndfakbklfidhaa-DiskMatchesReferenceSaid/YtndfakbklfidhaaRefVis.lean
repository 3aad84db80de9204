/- The reference disk: New, Visible. -/
import Derived.Test.YtndfakbklfidhaaRefAt
import Derived.Test.YtndfakbklfidhaaDiskNew
import Derived.Deep.RegionHeld3
namespace Go.Proofs.Ytndfakbklfidhaa
open Go.RowKit Dsk
set_option maxRecDepth 100000 in
theorem ref_new (n : Nat) (w : World) (h1 : 1 ≤ n) (h2 : n ≤ 4194304) : Calls Try.prog 18 #[.int .i64 (n : Int)] w fun e w' => ∃ (h : Nat) (G : List Nat), e = .returned (.tuple #[.pointer (some ⟨h, 0, none⟩), .int .i64 0]) ∧ RefAt w' h G (nw n) ∧ (∀ x ∈ G, w.heap.size ≤ x) ∧ Below w.heap.size w w' := by
  have hmk := make_bytes n h2
  have i1 : ¬ (n : Int) < 1 := by omega
  have i2 : ¬ (4194304 : Int) < (n : Int) := by omega
  go_enter Try.func18, Try.ntmps18
  go_wp2_with fail
  go_ret2
  have a0 : (w.alloc (.cells (bcs (List.replicate n 0)).toArray 5)).heap.size = w.heap.size + 1 := by simp
  obtain ⟨W, hW⟩ : ∃ W, (w.alloc (.cells (bcs (List.replicate n 0)).toArray 5)).alloc (.cells #[.slice (some ⟨w.heap.size, 0, none⟩) n n, .slice none 0 0, .bool false, .int .i64 0] 43) = W := ⟨_, rfl⟩
  have h0 : W.heap[w.heap.size]? = some (.cells (bcs (List.replicate n 0)).toArray 5) := by
    rw [← hW]; exact heap_alloc2_old _ _ _
  have h3 : W.heap[w.heap.size + 1]? = some (.cells #[.slice (some ⟨w.heap.size, 0, none⟩) n n, .slice none 0 0, .bool false, .int .i64 0] 43) := by
    rw [← hW]; exact heap_alloc2_new _ _ _
  have hB : Below w.heap.size w W := by rw [← hW]; exact below_alloc (below_alloc (Below.refl _ _) _) _
  refine ⟨_, rfl, [w.heap.size + 1, w.heap.size], ?_, ?_, ?_⟩
  · rw [hW]
    refine ⟨w.heap.size, n, .slice none 0 0, rfl, by omega, fun k hk => (by cases hk), ?_, ⟨[], ?_⟩, World.ownsRow_nil _ _ _ _, ok_nw h2, ?_⟩
    · simpa [nw] using h3
    · rw [List.append_nil]; exact h0
    · simp [nw]
  · intro x hx
    simp only [List.mem_cons, List.not_mem_nil, or_false] at hx
    omega
  · rw [hW]; exact hB
/-- append([]byte{}, row...) -/
theorem copy_step {w : World} {ops : Array Oper} {rest : List Oper} {o : Oper} {a : Act} {Q : Exit → Act → World → Prop} (hgd : o.guard = none) (s x : Operand)
    (ho : o.op = .call { callee := .builtin .append, args := #[s, x], argTypes := #[40, 40] })
    (gs cs : Nat) (L : List UInt8) (hs : a.eval s = .slice (some ⟨w.heap.size, 0, none⟩) 0 0) (hx : a.eval x = .slice (some ⟨gs, 0, none⟩) L.length cs)
    (hrow : RowX 5 w gs L) (h1 : 1 ≤ L.length) (hm : L.length ≤ 4194304)
    (h : ∀ g c w', RowX 5 w' g L → Below w.heap.size w w' → w.heap.size ≤ g → L.length ≤ c →
      wpList Try.prog ops Q rest (a.put o.dst (.slice (some ⟨g, 0, none⟩) L.length c)) w') :
    wpList Try.prog ops Q (o :: rest) a (w.alloc (.cells #[] 5)) := by
  obtain ⟨i0, hi0, hz0, hz1, hz2⟩ := info_parts u8_infos
  have h0 := World.ownsRow_lit (base := w.heap.size) (e := 5) (size := 1) w #[] 0 (Nat.le_refl _) (by unfold maxLen; omega) rfl
  have ha := hrow.kept (Kept.of_below (below_alloc (Below.refl _ w) (.cells #[] 5))) (by simp)
  refine wpList_append_lies _ hgd s x _ ho w.heap.size 5 i0 _ 1 1 Try.underlying40 hi0 hz0 hz1 hz2 rfl (by omega) _ 0 _ hs h0 ⟨gs, 0, none⟩ L.length cs (bcs L) hx (by rw [bcs_length]; omega) (fun j u hu => ?_) (fun u hu => bcs_one L u hu) h1 (by unfold maxLen; omega) (by omega) (by simp) (w.heap.size + 1) (by simp) ?_
  · have hj : j < L.length := by
      have := (List.getElem?_eq_some_iff.1 hu).1
      rwa [bcs_length] at this
    rw [show (⟨gs, 0, none⟩ : Addr).add j = ⟨gs, j, none⟩ by unfold Addr.add; split <;> simp_all, ha.cell hj, ← hu]
    simp [bcs, hj]
  · intro g' cap' w' hown' hgrow hat _
    have hb' : Below w.heap.size w w' := ((((Kept.refl [] w).alloc (.cells #[] 5))).grown hgrow (fun q hq => by
      injection hq with hq; subst hq; exact .inr (Nat.le_refl _))).below (Nat.le_refl _) (fun q hq => by cases hq)
    rw [Nat.zero_add] at hown' ⊢
    have hle : L.length ≤ cap' := by
      rcases hown'.2 with ⟨h', _⟩ | ⟨_, _, _, h', _, _, hle, _⟩
      · cases h'
      · injection h' with _ _ h3
        rw [h3]; exact hle
    refine h g' cap' w' (RowX.of_own hown') hb' ?_ hle
    rcases hat with hat | rfl
    · injection hat with hat; subst hat; exact Nat.le_refl _
    · omega
set_option maxRecDepth 100000 in
theorem visible_any (h : Nat) (G : List Nat) (D : Dk) (w : World) (hR : RefAt w h G D) (hn : 1 ≤ D.sure.length) (hpl : D.pend.length ≤ 1000000) : Calls Try.prog 34 #[.pointer (some ⟨h, 0, none⟩)] w fun e w' => ∃ g c : Nat, e = .returned (.slice (some ⟨g, 0, none⟩) D.sure.length c) ∧ RowX 5 w' g (overs D.sure D.pend) ∧ w.heap.size ≤ g ∧ D.sure.length ≤ c ∧ Below w.heap.size w w' := by
  obtain ⟨i0, hi0, hz0, hz1, hz2⟩ := info_parts u8_infos
  obtain ⟨gs, cs, pv, rfl, h1, h2, hg, hs, ho, hk, hc⟩ := hR
  have c0 := (cells4 hg).1
  have c1 := (cells4 hg).2.1
  have lh := hlt hg
  have hm := hk.max
  have HG := Lib.hid hg
  have HS := Lib.hid hs
  have HP := Lib.hid ho
  have HK := Lib.hid hk
  have H2 := Lib.hid h2
  have HN := Lib.hid hn
  clear hg hs ho hk h2 hi0 hz0 hz1 hz2 i0 hn hc
  go_enter Try.func34, Try.ntmps34
  go_wp2_with (at_builtin; go_must (refine copy_step rfl _ _ rfl gs cs D.sure rfl rfl HS.out HN.out hm ?_); intro g c w1 hrow hb hg hc)
  have HB := Lib.hid hb
  have hb0 := hb.size
  have c1' := cell_then hb c1
  have HO1 := Lib.hid (own_then HP.out hb)
  have hgw := hrow.lt
  clear hb c0 c1
  go_loopw [4] (fun i wr => ∃ (k : Nat), k ≤ D.pend.length ∧ i = .int .i64 (k : Int) ∧ RowX 5 wr g (overs D.sure (D.pend.take k)) ∧ Kept [g] w1 wr) (fun i _ => D.pend.length - (intOf i).toNat)
  case atStart => exact ⟨0, by omega, rfl, by rw [List.take_zero]; exact hrow, Kept.refl _ _⟩
  case round =>
    obtain ⟨k, hk, rfl, hr, hK⟩ := hrel
    have c1 := hK.cell c1' (by simp; omega)
    have HR := Lib.hid hr
    have HKK := Lib.hid hK
    have hpw := hK.own HO1.out (fun q hq hx => by have h3 := (HP.out.lt q hq).2; have := List.mem_singleton.1 hx; omega)
    have HPW := Lib.hid hpw
    clear c1' hr hK hpw hrow
    by_cases hlt : k < D.pend.length
    · obtain ⟨gp, pc, rfl, hp1, hp2⟩ := HPW.out.form (by omega)
      obtain ⟨g1, g2⟩ := pcs_get hlt
      have p0 : wr.cell? ⟨gp, k * 2, none⟩ = _ := (HPW.out.cellAt (k * 2) (by omega)).trans g1
      have p1 : wr.cell? ⟨gp, k * 2 + 1, none⟩ = _ := (HPW.out.cellAt (k * 2 + 1) (by omega)).trans g2
      have hfit := HK.out.fit (D.pend.getD k (0, ByteArray.empty)) (by rw [List.getD, List.getElem?_eq_getElem hlt]; exact List.getElem_mem hlt)
      have hgp : gp ≠ g := by have h3 := (HP.out.lt gp rfl).2; omega
      obtain ⟨x, hx⟩ : ∃ x, D.pend.getD k (0, ByteArray.empty) = x := ⟨_, rfl⟩
      rw [hx] at p0 p1 hfit
      obtain ⟨q, s⟩ := x
      simp only at p0 p1 hfit
      have HX := Lib.hid hx
      have hln := Lib.hid (show (overs D.sure (D.pend.take k)).length = D.sure.length from overs_length (fit_take HK.out.fit k))
      obtain ⟨Lk, hLk⟩ : ∃ Lk, overs D.sure (D.pend.take k) = Lk := ⟨_, rfl⟩
      have HLk := Lib.hid hLk
      rw [hLk] at HR hln
      have hs0 : wr.drew.cell? ⟨h, 1, none⟩ = some (.slice (some ⟨gp, 0, none⟩) D.pend.length pc) := c1
      have hs1 : wr.drew.cell? ⟨gp, k * 2, none⟩ = some (.int .i64 (q : Int)) := p0
      have hs2 : wr.drew.cell? ⟨gp, k * 2 + 1, none⟩ = some (.string s) := p1
      have i0 : (0 : Int) ≤ (k : Int) := by omega
      have i1 : (k : Int) < (D.pend.length : Int) := by omega
      have hRd : RowX 5 wr.drew g Lk := HR.out
      have HRd := Lib.hid hRd
      clear hx hLk g1 g2 hRd
      go_wp2_with fail
      go_region_held3 (fun w' => w'.cell? ⟨h, 1, none⟩ = some (.slice (some ⟨gp, 0, none⟩) D.pend.length pc) ∧ w'.cell? ⟨gp, k * 2, none⟩ = some (.int .i64 (q : Int)) ∧ w'.cell? ⟨gp, k * 2 + 1, none⟩ = some (.string s)) ((first | exact ⟨hs0, hs1, hs2⟩ | exact ⟨y0, y1, y2⟩)) (first | (go_at_call 44; (with_reducible refine (apply_any g D.sure.length c q Lk s _ HRd.out hln.out hfit hm).mono ?_); rintro e w5 ⟨rfl, r5, k5⟩; have y0 := k5.cell hs0 (by simp; omega); have y1 := k5.cell hs1 (by simp; omega); have y2 := k5.cell hs2 (by simp; omega)))
      go_wp2_with fail
      refine ⟨⟨k + 1, by omega, by go_num, ?_, HKK.out.drew.trans k5 (New.refl _ _)⟩, by simp [intOf]; omega⟩
      rw [overs_take hlt, HX.out, HLk.out]
      exact r5
    · obtain rfl : k = D.pend.length := by omega
      have i1 : ¬ (D.pend.length : Int) < (D.pend.length : Int) := by omega
      obtain ⟨a, pc, rfl⟩ := pend_len HP.out
      go_wp2_with fail
      go_ret
      refine ⟨g, c, rfl, ?_, hg, hc, HKK.out.below_next HB.out hb0 (fun x hx => by have := List.mem_singleton.1 hx; omega)⟩
      have := HR.out
      rwa [List.take_length] at this
end Go.Proofs.Ytndfakbklfidhaa
