/- Package journal: the call that writes; first. Package journal: open. -/
import Derived.Test.YtnjkinljpekohaaGreatDoorBf
import Derived.Test.YtnjkinljpekohaaGreatDoorBe
import Derived.Test.YtnjkinljpekohaaGreatDoorBg
namespace Go.Proofs.YtnjkinljpekohaaGreatDoor.Jo
open Go.RowKit Dsk Jr
/-- a step of first: a write or a Sync -/
inductive Stp where
  | wr (o : Nat) (s : ByteArray)
  | sy
/-- what a step returns and leaves -/
def doS : Stp → Dk → Int × Dk
  | .wr o s, D => if D.off then (331, D) else (0, Dsk.wr D o s)
  | .sy, D => if D.off then (331, D) else (0, Dsk.sy D)
/-- steps up to the first error -/
def runS : List Stp → Dk → Int × Dk
  | [], D => (0, D)
  | c :: r, D => if D.off then (331, D) else runS r (doS c D).2
theorem turn_before {w wq w' : World} {g : Nat} {F : List Nat} {D : Dk} {v : Value} {e : Ending} (hq : Below w.heap.size w wq) (h : TurnQ g F D v wq e w') : TurnQ g F D v w e w' := by
  obtain ⟨F', h1, h2, h3, h4⟩ := h
  exact ⟨F', h1, h2, ((Kept.of_below hq).mono (fun _ h => by cases h)).trans h3 (New.refl _ _), (New.refl _ _).trans h4 hq.size⟩
theorem turn_same {w w' : World} {g : Nat} {F : List Nat} {D : Dk} {v : Value} (hd : DiskAt w g F D) (hq : Below w.heap.size w w') : TurnQ g F D v w (.returned v) w' :=
  ⟨F, rfl, hd.below hq, (Kept.of_below hq).mono (fun _ h => by cases h), New.refl _ _⟩
set_option maxHeartbeats 1000000 in
theorem wri_any (B1 B2 B3 gj gd : Nat) (F : List Nat) (D : Dk) (o : Nat) (s : ByteArray) (w : World) (hd : DiskAt w gd F D) (c1 : w.cell? ⟨B1, 0, none⟩ = some (.pointer (some ⟨gj, 0, none⟩))) (c2 : w.cell? ⟨B2, 0, none⟩ = some (.int .i64 (o : Int)))
    (c3 : w.cell? ⟨B3, 0, none⟩ = some (.string s)) (cj : w.cell? ⟨gj, 3, none⟩ = some (.pointer (some ⟨gd, 0, none⟩))) (hf : o + s.size ≤ D.sure.length) (hpl : D.pend.length ≤ 1000000) :
    Calls Tryz.prog 78 #[.pointer (some ⟨B1, 0, none⟩), .pointer (some ⟨B2, 0, none⟩), .pointer (some ⟨B3, 0, none⟩)] w (TurnQ gd F (doS (.wr o s) D).2 (.int .i64 (doS (.wr o s) D).1) w) := by
  have HD := Lib.hid hd
  clear hd
  cases ho : D.off with
  | true =>
    rw [show doS (.wr o s) D = (331, D) by simp [doS, ho]]
    have HO := Lib.hid ho
    clear ho
    go_enter Tryz.func78, Tryz.ntmps78
    go_wp2_with fail
    have g_c1 := fun D os => cell_regrown c1 D os
    have g_c2 := fun D os => cell_regrown c2 D os
    have g_c3 := fun D os => cell_regrown c3 D os
    have g_cj := fun D os => cell_regrown cj D os
    refine wp_region_head 6 (by kernel_rfl) (by kernel_rfl) ?_
    simp only [List.take_succ_cons, List.take_zero, List.drop_succ_cons, List.drop_zero]
    repeat (go_big_quiet_step (fail))
    refine wpQuiet_nil ?_
    intro wq hq
    clear g_c1 g_c2 g_c3 g_cj
    go_wp2_with (go_at_call 27; (with_reducible refine (write_off _ _ _ _ _ _ (HD.out.below hq) HO.out).mono ?_); rintro e w1 ⟨rfl, rfl⟩)
    go_ret
    exact turn_same HD.out hq
  | false =>
    rw [show doS (.wr o s) D = (0, Dsk.wr D o s) by simp [doS, ho]]
    have HO := Lib.hid ho
    clear ho
    go_enter Tryz.func78, Tryz.ntmps78
    go_wp2_with fail
    have g_c1 := fun D os => cell_regrown c1 D os
    have g_c2 := fun D os => cell_regrown c2 D os
    have g_c3 := fun D os => cell_regrown c3 D os
    have g_cj := fun D os => cell_regrown cj D os
    refine wp_region_head 6 (by kernel_rfl) (by kernel_rfl) ?_
    simp only [List.take_succ_cons, List.take_zero, List.drop_succ_cons, List.drop_zero]
    repeat (go_big_quiet_step (fail))
    refine wpQuiet_nil ?_
    intro wq hq
    clear g_c1 g_c2 g_c3 g_cj
    go_wp2_with (go_at_call 27; (with_reducible refine (write_in _ _ _ _ _ _ (HD.out.below hq) HO.out hf hpl).mono ?_); rintro e w1 ⟨F', rfl, h2, h3, h4⟩)
    go_ret
    exact turn_before hq ⟨F', rfl, h2, h3, h4⟩
theorem syn_any (gd : Nat) (F : List Nat) (D : Dk) (w : World) (hd : DiskAt w gd F D) : Calls Tryz.prog 39 #[.pointer (some ⟨gd, 0, none⟩)] w (TurnQ gd F (doS .sy D).2 (.int .i64 (doS .sy D).1) w) := by
  cases ho : D.off with
  | true =>
    rw [show doS .sy D = (331, D) by simp [doS, ho]]
    exact (sync_off gd F D w hd ho).mono (by rintro e w1 ⟨rfl, rfl⟩; exact turn_same hd (Below.refl _ _))
  | false =>
    rw [show doS .sy D = (0, Dsk.sy D) by simp [doS, ho]]
    exact sync_ok gd F D w hd ho
/-- a call that first makes -/
inductive Cl where
  | wr (B1 B2 B3 o : Nat) (s : ByteArray)
  | sy
def Cl.val (gd : Nat) : Cl → Value
  | .wr B1 B2 B3 _ _ => .func (.func 78) #[] #[.pointer (some ⟨B1, 0, none⟩), .pointer (some ⟨B2, 0, none⟩), .pointer (some ⟨B3, 0, none⟩)]
  | .sy => .func (.func 39) #[.pointer (some ⟨gd, 0, none⟩)] #[]
def Cl.stp : Cl → Stp
  | .wr _ _ _ o s => .wr o s
  | .sy => .sy
/-- what a world holds of a call -/
def ClIn (w : World) (gj : Nat) (F : List Nat) (n : Nat) : Cl → Prop
  | .wr B1 B2 B3 o s => (B1 ∉ F ∧ B2 ∉ F ∧ B3 ∉ F) ∧ w.cell? ⟨B1, 0, none⟩ = some (.pointer (some ⟨gj, 0, none⟩)) ∧ w.cell? ⟨B2, 0, none⟩ = some (.int .i64 (o : Int)) ∧ w.cell? ⟨B3, 0, none⟩ = some (.string s) ∧ o + s.size ≤ n
  | .sy => True
theorem doS_length {c : Stp} {D : Dk} (h : Ok D) : (doS c D).2.sure.length = D.sure.length := by
  cases c with
  | wr o s => simp only [doS]; split <;> rfl
  | sy => simp only [doS]; split
          · rfl
          · exact h.len
theorem doS_pend (c : Stp) (D : Dk) : (doS c D).2.pend.length ≤ D.pend.length + 1 := by
  cases c with
  | wr o s => simp only [doS]; split
              · exact Nat.le_succ _
              · simp [Dsk.wr]
  | sy => simp only [doS]; split
          · exact Nat.le_succ _
          · simp [Dsk.sy]
theorem doS_off {c : Stp} {D : Dk} (h : D.off = true) : doS c D = (331, D) := by cases c <;> simp [doS, h]
theorem doS_on {c : Stp} {D : Dk} (h : D.off = false) : (doS c D).1 = 0 := by cases c <;> simp [doS, h]
theorem runS_off {l : List Stp} {c : Stp} {D : Dk} (h : D.off = true) : runS (c :: l) D = (331, D) := by simp [runS, h]
theorem runS_on {l : List Stp} {c : Stp} {D : Dk} (h : D.off = false) : runS (c :: l) D = runS l (doS c D).2 := by simp [runS, h]
def ClGo (gd B k : Nat) (G : List Nat) (p : Int × Dk) (W : World) : Cl → Prop
  | .wr B1 B2 B3 _ _ => W.cell? ⟨B, k, none⟩ = some (.func (.func 78) #[] #[.pointer (some ⟨B1, 0, none⟩), .pointer (some ⟨B2, 0, none⟩), .pointer (some ⟨B3, 0, none⟩)]) ∧ Calls Tryz.prog 78 #[.pointer (some ⟨B1, 0, none⟩), .pointer (some ⟨B2, 0, none⟩), .pointer (some ⟨B3, 0, none⟩)] W (TurnQ gd G p.2 (.int .i64 p.1) W)
  | .sy => W.cell? ⟨B, k, none⟩ = some (.func (.func 39) #[.pointer (some ⟨gd, 0, none⟩)] #[]) ∧ Calls Tryz.prog 39 #[.pointer (some ⟨gd, 0, none⟩)] W (TurnQ gd G p.2 (.int .i64 p.1) W)
theorem turn_ret {w w' : World} {g : Nat} {F : List Nat} {D : Dk} {v : Value} {e : Ending} (h : TurnQ g F D v w e w') : e = .returned v := by
  obtain ⟨_, h, _⟩ := h
  exact h
set_option maxHeartbeats 2000000 in
theorem first_any (gd gj B : Nat) (Tf : TypeId) (F : List Nat) (D : Dk) (L : List Cl) (w : World) (hd : DiskAt w gd F D) (hB : w.heap[B]? = some (.cells (L.map (Cl.val gd)).toArray Tf (0, 0))) (hBF : B ∉ F)
    (cj : w.cell? ⟨gj, 3, none⟩ = some (.pointer (some ⟨gd, 0, none⟩))) (hjF : gj ∉ F) (hc : ∀ c ∈ L, ClIn w gj F D.sure.length c) (hn : L.length ≤ 100) (hpl : D.pend.length ≤ 900000) :
    Calls Tryz.prog 37 #[.slice (some ⟨B, 0, none⟩) L.length L.length] w (TurnQ gd F (runS (L.map Cl.stp) D).2 (.int .i64 (runS (L.map Cl.stp) D).1) w) := by
  have HD := Lib.hid hd
  have HB := Lib.hid hB
  have HC := Lib.hid hc
  have CJ := Lib.hid cj
  obtain ⟨Out, hO⟩ : ∃ Out, runS (L.map Cl.stp) D = Out := ⟨_, rfl⟩
  rw [hO]
  have HO := Lib.hid hO
  clear hd hB hc cj hO
  go_enter Tryz.func37, Tryz.ntmps37
  go_wp2_with fail
  go_loopw [8] (fun i wr => ∃ (k : Nat) (G : List Nat) (E : Dk), k ≤ L.length ∧ i = .int .i64 (k : Int) ∧ DiskAt wr gd G E ∧ runS ((L.map Cl.stp).drop k) E = Out ∧ E.sure.length = D.sure.length ∧ E.pend.length ≤ D.pend.length + k ∧ Kept F w wr ∧ New w F G) (fun i _ => L.length - (intOf i).toNat)
  case atStart => exact ⟨0, F, D, Nat.zero_le _, rfl, HD.out, HO.out, rfl, by omega, Kept.refl _ _, New.refl _ _⟩
  case round =>
    obtain ⟨k, G, E, hk, rfl, hd, hr, hl, hp, hK, hN⟩ := hrel
    have HDr := Lib.hid hd
    have HR := Lib.hid hr
    have HL := Lib.hid hl
    have HK := Lib.hid hK
    have HN := Lib.hid hN
    clear hd hr hl hK hN
    have hfar : ∀ x, x ∉ F → x < w.heap.size → x ∉ G := fun x hx hxl hm => by rcases HN.out x hm with h | h; exact hx h; omega
    by_cases hlt : k < L.length
    · obtain ⟨c, hce⟩ : ∃ c, L[k] = c := ⟨_, rfl⟩
      have hcm : c ∈ L := by rw [← hce]; exact List.getElem_mem _
      have hin := HC.out c hcm
      have ck : w.cell? ⟨B, k, none⟩ = some (c.val gd) := by
        rw [cell_of_row w B k _ Tf (0, 0) HB.out]
        simp [hlt, hce]
      have ck1 := HK.out.cell ck hBF
      have hstep : (L.map Cl.stp).drop k = c.stp :: (L.map Cl.stp).drop (k + 1) := by
        rw [List.drop_eq_getElem_cons (by simpa using hlt)]
        simp [hce]
      have HS := Lib.hid hstep
      have HI := Lib.hid hin
      have HF := Lib.hid hfar
      have l1 : (k : Int) < (L.length : Int) := by omega
      have l2 : (0 : Int) ≤ (k : Int) := by omega
      clear hce hcm ck hstep hin hfar
      have hstp : Hid (∀ w', TurnQ gd G (doS c.stp E).2 (.int .i64 (doS c.stp E).1) wr (.returned (.int .i64 (doS c.stp E).1)) w' → E.off = false → ∃ (k' : Nat) (G' : List Nat) (E' : Dk), k' ≤ L.length ∧ k' = k + 1 ∧ DiskAt w' gd G' E' ∧ runS ((L.map Cl.stp).drop k') E' = Out ∧ E'.sure.length = D.sure.length ∧ E'.pend.length ≤ D.pend.length + k' ∧ Kept F w w' ∧ New w F G') := by
        refine (show ∀ w', _ from fun w' hT hof => ?_)
        obtain ⟨G', _, d', k', n'⟩ := hT
        refine ⟨k + 1, G', _, by omega, rfl, d', ?_, ?_, ?_, HK.out.trans k' HN.out, HN.out.trans n' HK.out.size⟩
        · have := HR.out
          rw [HS.out, runS_on hof] at this
          exact this
        · rw [doS_length HDr.out.ok, HL.out]
        · have := doS_pend c.stp E; omega
      have hend : Hid (∀ w', TurnQ gd G (doS c.stp E).2 (.int .i64 (doS c.stp E).1) wr (.returned (.int .i64 (doS c.stp E).1)) w' → E.off = true → TurnQ gd F Out.2 (.int .i64 Out.1) w (.returned (.int .i64 331)) w') := by
        refine (show ∀ w', _ from fun w' hT hof => ?_)
        obtain ⟨G', _, d', k', n'⟩ := hT
        have := HR.out
        rw [HS.out, runS_off hof] at this
        rw [← this]
        rw [doS_off hof] at d'
        exact ⟨G', rfl, d', HK.out.trans k' HN.out, HN.out.trans n' HK.out.size⟩
      have hbody : Hid (ClGo gd B k G (doS c.stp E) wr c) := by
        unfold Hid
        cases c with
        | wr B1 B2 B3 o s =>
          obtain ⟨⟨b1, b2, b3⟩, i1, i2, i3, i4⟩ := HI.out
          exact ⟨ck1, wri_any B1 B2 B3 gj gd G E o s wr HDr.out (HK.out.cell i1 b1) (HK.out.cell i2 b2) (HK.out.cell i3 b3) (HK.out.cell CJ.out hjF) (by rw [HL.out]; exact i4) (by omega)⟩
        | sy => exact ⟨ck1, syn_any gd G E wr HDr.out⟩
      clear ck1
      cases ho : E.off with
      | true =>
        have hE : doS c.stp E = (331, E) := doS_off ho
        have HO := Lib.hid ho
        rw [hE] at hend hbody
        clear hE ho hstp
        cases c with
        | wr B1 B2 B3 o s =>
          obtain ⟨ck, hcl⟩ := hbody.out
          have HW := Lib.hid hcl
          clear hcl hbody
          go_wp2_with (go_at_call 78; (with_reducible refine HW.out.mono ?_); rintro e w1 hT; obtain rfl := turn_ret hT; have HT := Lib.hid hT; clear hT)
          go_ret
          exact hend.out _ HT.out HO.out
        | sy =>
          obtain ⟨ck, hcl⟩ := hbody.out
          have HW := Lib.hid hcl
          clear hcl hbody
          go_wp2_with (go_at_call 39; (with_reducible refine HW.out.mono ?_); rintro e w1 hT; obtain rfl := turn_ret hT; have HT := Lib.hid hT; clear hT)
          go_ret
          exact hend.out _ HT.out HO.out
      | false =>
        obtain ⟨p, hE⟩ : ∃ p, doS c.stp E = p := ⟨_, rfl⟩
        have hE1 : p.1 = 0 := by rw [← hE]; exact doS_on ho
        obtain ⟨p1, p2⟩ := p
        have hE1 : p1 = 0 := hE1
        subst hE1
        have HO := Lib.hid ho
        rw [hE] at hstp hbody
        clear hE ho hend
        cases c with
        | wr B1 B2 B3 o s =>
          obtain ⟨ck, hcl⟩ := hbody.out
          have HW := Lib.hid hcl
          clear hcl hbody
          go_wp2_with (go_at_call 78; (with_reducible refine HW.out.mono ?_); rintro e w1 hT; obtain rfl := turn_ret hT; have HT := Lib.hid hT; clear hT)
          obtain ⟨k', G', E', a1, rfl, a2, a3, a4, a5, a6, a7⟩ := hstp.out _ HT.out HO.out
          refine ⟨⟨k + 1, G', E', a1, by go_num, a2, a3, a4, a5, a6, a7⟩, by simp [intOf]; omega⟩
        | sy =>
          obtain ⟨ck, hcl⟩ := hbody.out
          have HW := Lib.hid hcl
          clear hcl hbody
          go_wp2_with (go_at_call 39; (with_reducible refine HW.out.mono ?_); rintro e w1 hT; obtain rfl := turn_ret hT; have HT := Lib.hid hT; clear hT)
          obtain ⟨k', G', E', a1, rfl, a2, a3, a4, a5, a6, a7⟩ := hstp.out _ HT.out HO.out
          refine ⟨⟨k + 1, G', E', a1, by go_num, a2, a3, a4, a5, a6, a7⟩, by simp [intOf]; omega⟩
    · have hke : k = L.length := by omega
      have l1 : ¬ (k : Int) < (L.length : Int) := by omega
      have hfin : Hid (TurnQ gd F Out.2 (.int .i64 Out.1) w (.returned (.int .i64 0)) wr) := by
        have := HR.out
        rw [List.drop_eq_nil_of_le (by simp; omega)] at this
        rw [← this]
        exact ⟨G, rfl, HDr.out, HK.out, HN.out⟩
      clear hke
      go_wp2_with fail
      go_ret
      exact hfin.out
/-- first, its calls in a row laid just before -/
theorem first_of (gd gj n : Nat) (Tf : TypeId) (F : List Nat) (D : Dk) (L : List Cl) (w : World) (hL : L.length = n) (hd : DiskAt w gd F D) (cj : w.cell? ⟨gj, 3, none⟩ = some (.pointer (some ⟨gd, 0, none⟩))) (hjF : gj ∉ F)
    (hc : ∀ c ∈ L, ClIn w gj F D.sure.length c) (hn : n ≤ 100) (hpl : D.pend.length ≤ 900000) :
    Calls Tryz.prog 37 #[.slice (some ⟨w.heap.size, 0, none⟩) n n] (w.alloc (.cells (L.map (Cl.val gd)).toArray Tf)) (TurnQ gd F (runS (L.map Cl.stp) D).2 (.int .i64 (runS (L.map Cl.stp) D).1) w) := by
  subst hL
  have hb : Below w.heap.size w (w.alloc (.cells (L.map (Cl.val gd)).toArray Tf)) := (Below.refl _ _).alloc (Nat.le_refl _) _
  refine (first_any gd gj w.heap.size Tf F D L _ (hd.below hb) (heap_alloc_new _ _) (fun hm => by have := hd.lt _ hm; omega) (cell_then hb cj) hjF (fun c hm => ?_) hn hpl).mono (fun e w' h => turn_before hb h)
  have := hc c hm
  cases c with
  | wr B1 B2 B3 o s =>
    obtain ⟨b, c1, c2, c3, hf⟩ := this
    exact ⟨b, cell_then hb c1, cell_then hb c2, cell_then hb c3, hf⟩
  | sy => trivial
end Go.Proofs.YtnjkinljpekohaaGreatDoor.Jo
namespace Go.Proofs.YtnjkinljpekohaaGreatDoor.Jo
open Go.RowKit Sha Dsk Jr
/-- the head of no record -/
def zed : ByteArray := sof (List.replicate 32 (0 : UInt8))
theorem zed_size : zed.size = 32 := rfl
/-- what lies behind the tape of a journal -/
def tailJ (gd : Nat) (b : Bool) : List Value := [.pointer (some ⟨gd, 0, none⟩), .bool b]
theorem two_cells0 {w : World} {p : Nat} {x u v : Value} (h : w.cell? ⟨p, 0, none⟩ = some x) : ((w.setCell ⟨p, 0, none⟩ u).setCell ⟨p + 1, 0, none⟩ v).cell? ⟨p, 0, none⟩ = some u :=
  cell_set _ (World.cell?_setCell_same' _ _ _ (by rw [h]; rfl)) (by simp)
theorem two_cells1 {w : World} {p : Nat} {x u v : Value} (h : w.cell? ⟨p + 1, 0, none⟩ = some x) : ((w.setCell ⟨p, 0, none⟩ u).setCell ⟨p + 1, 0, none⟩ v).cell? ⟨p + 1, 0, none⟩ = some v :=
  World.cell?_setCell_same' _ _ _ (by rw [cell_set _ h (by simp)]; rfl)
theorem tape_kept {S : List Nat} {w w' : World} {g : Nat} {T : TypeId} {more : List Value} {v : Value} {rs : List ByteArray} {h : ByteArray} {k : Nat} (hT : TapeAt w g T more v rs h k) (hk : Kept S w w') (hg : g ∉ S) (hv : ∀ x ∈ v.ownBlock, x ∉ S) : TapeAt w' g T more v rs h k :=
  ⟨hk.heap hT.blk hg, hk.own hT.own (fun x hx => hv x hx), hT.ne⟩
/-- what open leaves -/
def OpenQ (gd : Nat) (Out : Option (List ByteArray × ByteArray × Nat)) (w : World) (e : Ending) (w' : World) : Prop :=
  Below w.heap.size w w' ∧ match Out with
    | none => e = .returned (.tuple #[.pointer none, .int .i64 342])
    | some (rs, h, k) => ∃ gj v, e = .returned (.tuple #[.pointer (some ⟨gj, 0, none⟩), .int .i64 0]) ∧ TapeAt w' gj 80 (tailJ gd false) v rs h k ∧ w.heap.size ≤ gj ∧ ∀ x ∈ v.ownBlock, w.heap.size ≤ x
set_option maxRecDepth 100000 in
set_option maxHeartbeats 2000000 in
theorem open_any (gd : Nat) (s : ByteArray) (a : Addr) (w : World) (hs : s.size ≤ 4194304) (hK : RoundIn w) (hE : ErrIn w 222 (.pointer (some a))) :
    Calls Tryz.prog 35 #[.pointer (some ⟨gd, 0, none⟩), .string s] w (OpenQ gd (Jr.load chainS (bts s) (bts s).length zed 0) w) := by
  have hmf : ∀ (fn : Fn) (first cap : Array Value) (w : World), (Instr.makeFunc fn first cap).run Tryz.prog w = .ok (.func fn first cap) w := fun _ _ _ _ => rfl
  go_enter_defers Tryz.func35, Tryz.ntmps35
  go_wp2_with fail
  obtain ⟨W0, hW0⟩ : ∃ W0, (w.alloc (.cells #[.pointer none] 29)).alloc (.cells #[.int .i64 0] 25) = W0 := ⟨_, rfl⟩
  have hz0 : W0.heap.size = w.heap.size + 2 := by rw [← hW0]; simp
  have B0 : Below w.heap.size w W0 := by rw [← hW0]; exact ((Below.refl _ _).alloc (Nat.le_refl _) _).alloc (by simp) _
  have p0 : W0.heap[w.heap.size]? = some (.cells #[.pointer none] 29 (0, 0)) := by rw [← hW0]; rw [Below.heap_alloc _ _ _ (by simp)]; exact heap_alloc_new _ _
  have q0 : W0.heap[w.heap.size + 1]? = some (.cells #[.int .i64 0] 25 (0, 0)) := by rw [← hW0]; have := heap_alloc_new (w.alloc (.cells #[.pointer none] 29)) (.cells #[.int .i64 0] 25); simpa using this
  rw [hW0]
  obtain ⟨ZB, hZB⟩ : ∃ ZB : Obj, .cells (bcs (List.replicate 32 0)).toArray 5 (0, 0) = ZB := ⟨_, rfl⟩
  have hmk : (Instr.makeSlice 53 (.int .i64 32) (.int .i64 32)).run Tryz.prog W0 = .ok (.slice (some ⟨W0.heap.size, 0, none⟩) 32 32) (W0.alloc ZB) := by rw [← hZB]; exact make_bytes 32 (by omega) W0
  have hcv : (convert 53 9 (.slice (some ⟨W0.heap.size, 0, none⟩) 32 32)).run Tryz.prog (W0.alloc ZB) = .ok (.string zed) (W0.alloc ZB) := by
    have := conv_row (w := W0.alloc ZB) (g := W0.heap.size) (L := List.replicate 32 0) (by rw [← hZB]; exact heap_alloc_new _ _) 0 32 32 (by simp)
    exact this
  have HZ0 := Lib.hid hz0
  have P0 := Lib.hid p0
  have Q0 := Lib.hid q0
  clear hW0 hz0 p0 q0 hZB
  have hw1 : w.heap.size < W0.heap.size := by have := HZ0.out; omega
  have hw2 : w.heap.size + 1 < W0.heap.size := by have := HZ0.out; omega
  have x0 := cell_of_one P0.out
  have x1 := free_of_one P0.out
  have x2 := cell_of_one Q0.out
  have x3 := free_of_one Q0.out
  rw [hmk]
  go_simp
  refine ‹∀ (a : Act) (w_1 : World), wpList _ _ _ _ _ _ → _› _ _ ?_
  go_wp2_with fail
  obtain ⟨W1, hW1⟩ : ∃ W1, ((W0.setCell ⟨w.heap.size, 0, none⟩ (.pointer (some ⟨W0.heap.size + 1, 0, none⟩))).alloc ZB).alloc (.cells #[.slice none 0 0, .string zed, .int .i64 0, .pointer (some ⟨gd, 0, none⟩), .bool false] 80) = W1 := ⟨_, rfl⟩
  obtain ⟨gj, hgj⟩ : ∃ gj, W0.heap.size + 1 = gj := ⟨_, rfl⟩
  have hsz : W1.heap.size = W0.heap.size + 2 := by rw [← hW1]; simp [World.setCell]
  have B1 : Below w.heap.size w W1 := by
    rw [← hW1]
    exact ((B0.setCell (p := ⟨w.heap.size, 0, none⟩) (Nat.le_refl _) _).alloc (by simp [World.setCell]; omega) _).alloc (by simp [World.setCell]; omega) _
  have p1 : W1.heap[w.heap.size]? = some (.cells #[.pointer (some ⟨gj, 0, none⟩)] 29 (0, 0)) := by
    rw [← hW1, Below.heap_alloc _ _ _ (by simp [World.setCell]; omega), Below.heap_alloc _ _ _ (by simp [World.setCell]; omega), heap_setCell_same _ _ _ _ _ _ P0.out, hgj]
    simp
  have q1 : W1.heap[w.heap.size + 1]? = some (.cells #[.int .i64 0] 25 (0, 0)) := by
    rw [← hW1, Below.heap_alloc _ _ _ (by simp [World.setCell]; omega), Below.heap_alloc _ _ _ (by simp [World.setCell]; omega), Below.heap_setCell _ _ _ _ (by simp)]
    exact Q0.out
  have t1 : TapeAt W1 gj 80 (tailJ gd false) (.slice none 0 0) [] zed 0 := by
    refine ⟨?_, World.ownsRow_nil _ _ _ _, by simp [Value.ownBlock]⟩
    rw [← hW1, ← hgj]
    have := heap_alloc_new ((W0.setCell ⟨w.heap.size, 0, none⟩ (.pointer (some ⟨W0.heap.size + 1, 0, none⟩))).alloc ZB) (.cells #[.slice none 0 0, .string zed, .int .i64 0, .pointer (some ⟨gd, 0, none⟩), .bool false] 80)
    have hs2 : ((W0.setCell ⟨w.heap.size, 0, none⟩ (.pointer (some ⟨W0.heap.size + 1, 0, none⟩))).alloc ZB).heap.size = W0.heap.size + 1 := by simp [World.setCell]
    rw [hs2] at this
    exact this
  rw [hW1, hgj]
  have hl := load_any gj 80 (tailJ gd false) (.slice none 0 0) s zed 222 (.pointer (some a)) W1 t1 zed_size hs (hK.then_ B1) (cell_then B1 hE) (by have := hK.1; simp [Value.ownBlock]; omega) (by have := lt_size (show w.cell? ⟨_, _, _⟩ = _ from hE); simp [Value.ownBlock]; omega)
  obtain ⟨Out, hO⟩ : ∃ Out, Jr.load chainS (bts s) (bts s).length zed 0 = Out := ⟨_, rfl⟩
  rw [hO] at hl ⊢
  have HL := Lib.hid hl
  have HO := Lib.hid hO
  have PP := Lib.hid p1
  have QQ := Lib.hid q1
  have HE := Lib.hid hE
  have hgw : w.heap.size < gj := by omega
  have hgw1 : w.heap.size + 1 < gj := by omega
  have hgl := hlt t1.blk
  have hL0 : ∀ x ∈ gj :: (Value.slice none 0 0).ownBlock.toList, w.heap.size + 2 ≤ x := fun x hx => by
    have hx : x = gj := by simpa [Value.ownBlock] using hx
    omega
  have hErr := lt_size (show w.cell? ⟨_, _, _⟩ = _ from hE)
  clear hW1 hsz hl p1 q1 t1 hmk hcv hO hE x0 x1 x2 x3 hmf
  cases Out with
  | none =>
    refine HL.out.mono ?_
    rintro e w2 ⟨k2, rfl⟩
    have p2 := k2.heap PP.out (by simp [Value.ownBlock]; omega)
    have q2 := k2.heap QQ.out (by simp [Value.ownBlock]; omega)
    have e2 : ErrIn w2 222 (.pointer (some a)) := k2.cell (cell_then B1 HE.out) (fun h => by have := hL0 _ h; dsimp only at this; omega)
    have B2 : Below w.heap.size w w2 := k2.below_next B1 B1.size (fun x hx => by have := hL0 x hx; omega)
    go_simp
    refine leaves_cons (f := 68) (args := #[.pointer (some ⟨w.heap.size, 0, none⟩), .pointer (some ⟨w.heap.size + 1, 0, none⟩)]) (by simp) (by simp [go_sem]) ?_
    refine (catch_panicking w.heap.size (w.heap.size + 1) a _ _ w2 e2 (cell_of_one p2) (free_of_one p2) (cell_of_one q2) (free_of_one q2) (by omega)).mono ?_
    rintro e u' w3 ⟨rfl, rfl, rfl⟩
    have B3 : Below w.heap.size w ((w2.setCell ⟨w.heap.size, 0, none⟩ (.pointer none)).setCell ⟨w.heap.size + 1, 0, none⟩ (.int .i64 342)) := (B2.setCell (p := ⟨w.heap.size, 0, none⟩) (Nat.le_refl _) _).setCell (p := ⟨w.heap.size + 1, 0, none⟩) (Nat.le_succ _) _
    have c3 : ((w2.setCell ⟨w.heap.size, 0, none⟩ (.pointer none)).setCell ⟨w.heap.size + 1, 0, none⟩ (.int .i64 342)).cell? ⟨w.heap.size, 0, none⟩ = some (.pointer none) := two_cells0 (cell_of_one p2)
    have c4 : ((w2.setCell ⟨w.heap.size, 0, none⟩ (.pointer none)).setCell ⟨w.heap.size + 1, 0, none⟩ (.int .i64 342)).cell? ⟨w.heap.size + 1, 0, none⟩ = some (.int .i64 342) := two_cells1 (cell_of_one q2)
    obtain ⟨W3, hW3⟩ : ∃ W3, (w2.setCell ⟨w.heap.size, 0, none⟩ (.pointer none)).setCell ⟨w.heap.size + 1, 0, none⟩ (.int .i64 342) = W3 := ⟨_, rfl⟩
    rw [hW3] at B3 c3 c4 ⊢
    simp [Leaves, settle, results, Tryz.results35, go_sem, c3, c4]
    exact ⟨B3, rfl⟩
  | some o =>
    obtain ⟨rs, h, k⟩ := o
    refine HL.out.mono ?_
    rintro e w2 ⟨k2, rfl, v, t2, n2⟩
    have p2 := k2.heap PP.out (by simp [Value.ownBlock]; omega)
    have q2 := k2.heap QQ.out (by simp [Value.ownBlock]; omega)
    have B2 : Below w.heap.size w w2 := k2.below_next B1 B1.size (fun x hx => by have := hL0 x hx; omega)
    have x0 := cell_of_one p2
    have x1 := free_of_one p2
    have x2 := cell_of_one q2
    have x3 := free_of_one q2
    have T2 := Lib.hid t2
    have N2 := Lib.hid n2
    have K2 := Lib.hid k2
    clear t2 n2 k2 p2 q2
    go_wp2_with fail
    obtain ⟨W3, hW3⟩ : ∃ W3, (w2.setCell ⟨w.heap.size, 0, none⟩ (.pointer (some ⟨gj, 0, none⟩))).setCell ⟨w.heap.size + 1, 0, none⟩ (.int .i64 0) = W3 := ⟨_, rfl⟩
    have k3 : Kept [w.heap.size, w.heap.size + 1] w2 W3 := by rw [← hW3]; exact ((Kept.refl _ _).setCell (p := ⟨w.heap.size, 0, none⟩) (.inl (by simp)) _).setCell (p := ⟨w.heap.size + 1, 0, none⟩) (.inl (by simp)) _
    have B3 : Below w.heap.size w W3 := by rw [← hW3]; exact (B2.setCell (p := ⟨w.heap.size, 0, none⟩) (Nat.le_refl _) _).setCell (p := ⟨w.heap.size + 1, 0, none⟩) (Nat.le_succ _) _
    have c3 : W3.cell? ⟨w.heap.size, 0, none⟩ = some (.pointer (some ⟨gj, 0, none⟩)) := by rw [← hW3]; exact two_cells0 x0
    have c4 : W3.cell? ⟨w.heap.size + 1, 0, none⟩ = some (.int .i64 0) := by rw [← hW3]; exact two_cells1 x2
    have hv : ∀ x ∈ v.ownBlock, w.heap.size + 2 ≤ x := fun x hx => by
      rcases N2.out x (List.mem_cons_of_mem _ (Option.mem_toList.2 hx)) with h | h
      · exact hL0 _ h
      · have := B1.size; omega
    have t3 : TapeAt W3 gj 80 (tailJ gd false) v rs h k := tape_kept T2.out k3 (by simp; omega) (fun x hx => by have := hv x hx; simp; omega)
    rw [hW3]
    refine leaves_cons (f := 68) (args := #[.pointer (some ⟨w.heap.size, 0, none⟩), .pointer (some ⟨w.heap.size + 1, 0, none⟩)]) (by simp) (by simp [go_sem]) ?_
    refine (catch_idle w.heap.size (w.heap.size + 1) W3).mono ?_
    rintro e u' w4 ⟨rfl, rfl, rfl⟩
    rw [HO.out]
    simp [Leaves, settle, results, Tryz.results35, go_sem, c3, c4]
    exact ⟨B3, gj, v, rfl, t3, by omega, fun x hx => by have := hv x hx; omega⟩
end Go.Proofs.YtnjkinljpekohaaGreatDoor.Jo
