/- The reference disk: Write. -/
import Derived.Test.YtndfakbklfidhaaRefDo
import Derived.Test.YtndfakbklfidhaaDiskWrite
namespace Go.Proofs.Ytndfakbklfidhaa
open Go.RowKit Dsk
theorem rwrite_off (o : Int) (s : ByteArray) (h : Nat) (G : List Nat) (D : Dk) (w : World) (hR : RefAt w h G D) (ho : D.off = true) : Calls Try.prog 30 #[.pointer (some ⟨h, 0, none⟩), .int .i64 o, .string s] w fun e w' => e = .returned (.int .i64 331) ∧ w = w' := by
  have c2 := hR.down
  rw [ho] at c2
  clear hR ho
  go_enter Try.func30, Try.ntmps30
  go_wp2_with fail
  go_ret
  exact ⟨rfl, rfl⟩
theorem rwrite_out (o : Int) (s : ByteArray) (h : Nat) (G : List Nat) (D : Dk) (w : World) (hR : RefAt w h G D) (ho : D.off = false) (hi : inB D.sure.length o (s.size : Int) = false) : Calls Try.prog 30 #[.pointer (some ⟨h, 0, none⟩), .int .i64 o, .string s] w fun e w' => e = .returned (.int .i64 330) ∧ w = w' := by
  have c2 := hR.down
  rw [ho] at c2
  obtain ⟨gs, cs, c0⟩ := hR.row
  have hm := hR.ok.max
  have hi := inB_not hi
  obtain ⟨m, hm2⟩ : ∃ m, D.sure.length = m := ⟨_, rfl⟩
  rw [hm2] at c0 hm hi
  clear hR ho hm2
  rcases (show o < 0 ∨ (0 ≤ o ∧ (m : Int) < o) ∨ (0 ≤ o ∧ o ≤ (m : Int) ∧ (m : Int) - o < (s.size : Int)) by omega) with j | ⟨j1, j2⟩ | ⟨j1, j2, j3⟩
  all_goals
    clear hi
    go_enter Try.func30, Try.ntmps30
    go_wp2_with fail
    go_ret
    exact ⟨rfl, rfl⟩
theorem change_info : (Try.prog.info? 80).map (fun i => (i.zero, i.size, i.bytes)) = some (some (.agg #[.int .i64 0, .string ByteArray.empty]), 2, 24) := by kernel_rfl
/-- what follows the append: the new list is laid into the disk -/
theorem wr_mk {w V : World} {h gs cs : Nat} {pv : Value} {D : Dk} {o : Nat} {s : ByteArray} {g' cp' : Nat} (h1 : h ≠ gs) (h2 : ∀ k, pv.ownBlock = some k → k ≠ h ∧ k ≠ gs) (hs : RowX 5 w gs D.sure) (hk : Ok D) (hc : D.sure.length ≤ cs)
    (hi : o + s.size ≤ D.sure.length) (hat : pv.ownBlock = some g' ∨ w.heap.size ≤ g') (hlh : h < w.heap.size)
    (K : Kept (h :: pv.ownBlock.toList) w V) (hG : V.heap[h]? = some (.cells #[.slice (some ⟨gs, 0, none⟩) D.sure.length cs, .slice (some ⟨g', 0, none⟩) (D.pend.length + 1) cp', .bool (offW D), .int .i64 (leftW D)] 43 (0, 0)))
    (hO : V.ownsRow 0 80 2 (.slice (some ⟨g', 0, none⟩) (D.pend.length + 1) cp') (D.pend.length + 1) (pcs (D.pend ++ [(o, s)]))) :
    ∃ G' : List Nat, RefAt V h G' (wr D o s) ∧ Kept (h :: gs :: pv.ownBlock.toList) w V ∧ New w (h :: gs :: pv.ownBlock.toList) G' := by
  have hgs := hs.lt
  have hgg : g' ≠ h ∧ g' ≠ gs := by
    rcases hat with hat | hat
    · exact h2 _ hat
    · omega
  refine ⟨[h, gs, g'], ⟨gs, cs, .slice (some ⟨g', 0, none⟩) (D.pend.length + 1) cp', rfl, h1, fun k hk => ?_, hG, hs.kept K ?_, ?_, ok_wr hk hi, hc⟩, K.mono ?_, ?_⟩
  · injection hk with hk
    subst hk
    exact hgg
  · intro hx
    rcases List.mem_cons.1 hx with rfl | hx
    · exact h1 rfl
    · exact (h2 _ (own_mem hx)).2 rfl
  · show V.ownsRow 0 _ 2 _ (D.pend ++ [(o, s)]).length _
    rw [List.length_append]
    exact hO
  · intro k hk
    rcases List.mem_cons.1 hk with rfl | hk
    · simp
    · exact List.mem_cons_of_mem _ (List.mem_cons_of_mem _ hk)
  · intro k hk
    simp only [List.mem_cons, List.not_mem_nil, or_false] at hk
    rcases hk with rfl | rfl | rfl
    · exact .inl (by simp)
    · exact .inl (by simp)
    · rcases hat with hat | hat
      · exact .inl (List.mem_cons_of_mem _ (List.mem_cons_of_mem _ (mem_own hat)))
      · exact .inr hat
set_option maxRecDepth 100000 in
set_option maxHeartbeats 2000000 in
theorem rwrite_in (o : Nat) (s : ByteArray) (h : Nat) (G : List Nat) (D : Dk) (w : World) (hR : RefAt w h G D) (ho : D.off = false) (hi : o + s.size ≤ D.sure.length) (hpl : D.pend.length ≤ 1000000) :
    Calls Try.prog 30 #[.pointer (some ⟨h, 0, none⟩), .int .i64 (o : Int), .string s] w (RTurn h G (wr D o s) (.int .i64 0) w) := by
  have c2 := hR.down
  rw [ho] at c2
  have HO := Lib.hid ho
  obtain ⟨gs, cs, pv, rfl, h1, h2, hg, hs, hp, hk, hc⟩ := hR
  have c0 := (cells4 hg).1
  have c1 := (cells4 hg).2.1
  have c3 := (cells4 hg).2.2.2
  have f1 := frozen_of_row w h 1 _ _ hg
  have lh := hlt hg
  have hm := hk.max
  have hpo := hk.pos
  have hle := hk.left
  have HG := Lib.hid hg
  have HS := Lib.hid hs
  have HP := Lib.hid hp
  have HK := Lib.hid hk
  have H2 := Lib.hid h2
  have HGN := Lib.hid (show h ∉ pv.ownBlock.toList from fun e => (h2 h (own_mem e)).1 rfl)
  obtain ⟨i0, hi0, hz0, hz1, hz2⟩ := info_parts change_info
  have j1 : (0 : Int) ≤ (o : Int) := by omega
  have j3 : (o : Int) ≤ (D.sure.length : Int) := by omega
  have j4 : (s.size : Int) ≤ (D.sure.length : Int) - (o : Int) := by omega
  have HI := Lib.hid hi
  have FIN : Hid (∀ (V : World) (g' cp' : Nat) (b : Bool) (z : Int), (pv.ownBlock = some g' ∨ g' = w.heap.size + 1) → offW D = b → leftW D = z → Kept (h :: pv.ownBlock.toList) w V →
      V.heap[h]? = some (.cells #[.slice (some ⟨gs, 0, none⟩) D.sure.length cs, .slice (some ⟨g', 0, none⟩) (D.pend.length + 1) cp', .bool b, .int .i64 z] 43 (0, 0)) →
      V.ownsRow 0 80 2 (.slice (some ⟨g', 0, none⟩) (D.pend.length + 1) cp') (D.pend.length + 1) (pcs D.pend ++ [.int .i64 (o : Int), .string s]) →
      RTurn h (h :: gs :: pv.ownBlock.toList) (wr D o s) (.int .i64 0) w (.returned (.int .i64 0)) V) := by
    show ∀ (V : World) (g' cp' : Nat) (b : Bool) (z : Int), _
    intro V g' cp' b z hat e1 e2 K hG hO
    subst e1 e2
    obtain ⟨G', r1, r2, r3⟩ := wr_mk h1 h2 hs hk hc hi (hat.imp id (fun e => by omega)) lh K hG (by rw [pcs_append]; exact hO)
    exact ⟨G', rfl, r1, r2, r3⟩
  have hofl := Lib.hid (show offW D = if D.left = 0 then false else D.left - 1 == 0 by rw [offW, ho])
  have hlfl := Lib.hid (show leftW D = if D.left = 0 then 0 else D.left - 1 from rfl)
  have hoff := HO.out
  have HH2 := Lib.hid h2
  obtain ⟨lf, hlf⟩ : ∃ lf, D.left = lf := ⟨_, rfl⟩
  rw [hlf] at c3 hofl hlfl hpo hle HG
  rw [ho] at HG
  clear hg hs hp hk h2 ho hi HS HK H2 HI hlf hoff
  rcases (show lf = 0 ∨ lf = 1 ∨ 1 < lf by omega) with rfl | rfl | hl1
  all_goals
    try have l0 : (0 : Int) < lf := by omega
    try have lb : (lf - 1 == 0) = false := by rw [beq_eq_false_iff_ne]; omega
    try have lw : ¬ lf = 0 := by omega
    go_enter Try.func30, Try.ntmps30
    go_wp2_with (at_builtin; go_must (refine wpList_append_lies _ rfl _ _ _ rfl 0 80 i0 _ 2 24 Try.underlying41 hi0 hz0 hz1 hz2 rfl (by omega) pv D.pend.length _ rfl (HP.out.alloc _) ⟨w.heap.size, 0, none⟩ 1 1 [.int .i64 (o : Int), .string s] rfl rfl new_write (by simp [Value.oneCell']) (by omega) (by unfold maxLen; omega) (by omega) (by omega) (w.heap.size + 1) (by simp) ?_); intro g' cp' wy hown' hgrow hat hlt'; have KW := Lib.hid ((((Kept.refl [] w).alloc (.cells #[.int .i64 (o : Int), .string s] 80)).mono (fun _ h => by cases h) : Kept pv.ownBlock.toList w _).grown hgrow (fun k hk => .inl (mem_own hk))); have G4 := KW.out.heap HG.out HGN.out; have y1 := (cells4 G4).2.1; have y2 := (cells4 G4).2.2.1; have y3 := (cells4 G4).2.2.2; have z1 := frozen_of_row wy h 1 _ _ G4; have z2 := frozen_of_row wy h 2 _ _ G4; have z3 := frozen_of_row wy h 3 _ _ G4; have HG4 := Lib.hid G4; have HOW := Lib.hid hown'; have HAT := Lib.hid hat; clear G4 hown' hgrow hat)
    go_ret
    have hgh : g' ≠ h := by
      rcases HAT.out with hat | hat
      · exact (HH2.out _ hat).1
      · omega
    have s1 := heap_setCell_same wy h 1 _ _ (.slice (some ⟨g', 0, none⟩) (D.pend.length + 1) cp') HG4.out
    have K1 : Kept (h :: pv.ownBlock.toList) w (wy.setCell ⟨h, 1, none⟩ (.slice (some ⟨g', 0, none⟩) (D.pend.length + 1) cp')) := (KW.out.mono (fun k h => List.mem_cons_of_mem _ h)).setCell (.inl (by simp)) _
    have O1 : Kept [h] wy (wy.setCell ⟨h, 1, none⟩ (.slice (some ⟨g', 0, none⟩) (D.pend.length + 1) cp')) := (Kept.refl _ _).setCell (.inl (by simp)) _
    have hoo : ∀ k, (Value.slice (some ⟨g', 0, none⟩) (D.pend.length + 1) cp').ownBlock = some k → k ∉ [h] := fun k hk => by
      obtain rfl : g' = k := by simpa [Value.ownBlock] using hk
      simpa using hgh
    obtain ⟨V1, hV1⟩ : ∃ V1, wy.setCell ⟨h, 1, none⟩ (.slice (some ⟨g', 0, none⟩) (D.pend.length + 1) cp') = V1 := ⟨_, rfl⟩
    rw [hV1] at s1 K1 O1 ⊢
  · exact FIN.out _ g' cp' false 0 HAT.out (by simpa using hofl.out) (by simpa using hlfl.out) K1 (by simpa using s1) (O1.own HOW.out hoo)
  · have s2 := heap_setCell_same V1 h 3 _ _ (.int .i64 0) s1
    have s3 := heap_setCell_same _ h 2 _ _ (.bool true) s2
    exact FIN.out _ g' cp' true 0 HAT.out (by simpa using hofl.out) (by simpa using hlfl.out) ((K1.setCell (.inl (by simp)) _).setCell (.inl (by simp)) _) (by simpa using s3) (((O1.setCell (.inl (by simp)) _).setCell (.inl (by simp)) _).own HOW.out hoo)
  · have s2 := heap_setCell_same V1 h 3 _ _ (.int .i64 (lf - 1)) s1
    have e1 := hofl.out
    have e2 := hlfl.out
    rw [if_neg lw] at e1 e2
    rw [lb] at e1
    exact FIN.out _ g' cp' false (lf - 1) HAT.out e1 e2 (K1.setCell (.inl (by simp)) _) (by simpa using s2) ((O1.setCell (.inl (by simp)) _).own HOW.out hoo)
end Go.Proofs.Ytndfakbklfidhaa
