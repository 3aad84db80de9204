/- A journal and its disk as plain data: what Open and Append return and leave, in words of the records alone. No program stands here. The small functions of the laws of chapter 34: pick, size, few, same, content. The functions same and content of the laws of chapter 34. A journal and its disk in memory, in words of its records: Open, Append, Records, Room. What Open and Append do on a disk that holds records and zeros behind them; plain. -/
import Derived.Test.YtnjkinljpekohaaGreatDoorBt
namespace Go.Proofs.YtnjkinljpekohaaGreatDoor.Jo
open Sha Dsk Jr
/-- records, their head and their end, from the beginning of a disk -/
def trip (rs : List ByteArray) : Trip := (rs, hd chainS zed rs, (st chainS zed rs).length)
theorem trip_append (rs l : List ByteArray) : (rs ++ l, hd chainS (hd chainS zed rs) l, (st chainS zed rs).length + (st chainS (hd chainS zed rs) l).length) = trip (rs ++ l) := by
  rw [trip, hd_append, st_append, List.length_append]
theorem st_append_length (rs l : List ByteArray) : (st chainS zed (rs ++ l)).length = (st chainS zed rs).length + (st chainS (hd chainS zed rs) l).length := by rw [st_append, List.length_append]
/-- how many bytes records take: whatever the head -/
def need (l : List ByteArray) : Nat := (l.map fun r => 33 + (pstr r).length).sum
theorem st_need (h : ByteArray) (l : List ByteArray) : (st chainS h l).length = need l := by
  induction l generalizing h with
  | nil => rfl
  | cons r l ih =>
    rw [st, List.length_append, st_len, ih, need, need, List.map_cons, List.sum_cons]
    omega
theorem need_append (a b : List ByteArray) : need (a ++ b) = need a + need b := by simp [need]
theorem need_count (l : List ByteArray) : 34 * l.length ≤ need l := by
  rw [← st_need zed]; exact st_count chain_size zed l
/-- what Open returns and leaves -/
def opR (D : Dk) : Int × Option (List ByteArray) × Dk := ((opn D).1, (opn D).2.1.map (·.1), (opn D).2.2)
theorem opn_trip {D : Dk} {o : Trip} (h : (opn D).2.1 = some o) : o = trip o.1 ∧ need o.1 ≤ D.vis.length ∧ ∀ r ∈ o.1, r.size ≤ 65536 := by
  unfold opn at h
  split at h
  · cases h
  · split at h
    · cases h
    · rename_i o' hl
      have he : o' = o := by
        split at h
        · injection h
        · cases h
      subst he
      obtain ⟨rs, hh, k⟩ := o'
      obtain ⟨h1, h2, h3, _, _, h6⟩ := load_sound chainS chain_size D.vis.length D.vis zed 0 rs hh k (Nat.zero_le _) (by omega) hl
      rw [Nat.zero_add] at h2
      refine ⟨?_, ?_, h6⟩
      · show (rs, hh, k) = trip rs
        rw [trip, h1, h2]
      · show need rs ≤ _
        rw [← st_need zed]; omega
theorem wipe_length {D : Dk} (h : Ok D) {k : Nat} (hk : k ≤ D.sure.length) : (wipe D k).2.sure.length = D.sure.length := by
  unfold wipe
  split
  · rfl
  · split
    · rfl
    · split
      · rfl
      · show (over D.vis (k, sof (List.replicate (D.vis.length - k) 0))).length = _
        rw [over_length, h.len]
        show k + (sof (List.replicate (D.vis.length - k) 0)).size ≤ _
        rw [← bts_length, bts_sof, List.length_replicate, h.len]; omega
theorem wipe_pend (D : Dk) (k : Nat) : (wipe D k).2.pend.length ≤ D.pend.length + 1 := by
  unfold wipe
  split
  · simp
  · split
    · simp
    · split
      · simp [wr]
      · simp [sy]
theorem opn_pend (D : Dk) : (opn D).2.2.pend.length ≤ D.pend.length + 1 := by
  unfold opn
  split
  · simp
  · split
    · simp
    · split
      · exact wipe_pend _ _
      · exact wipe_pend _ _
theorem opn_length {D : Dk} (h : Ok D) : (opn D).2.2.sure.length = D.sure.length := by
  unfold opn
  split
  · rfl
  · split
    · rfl
    · rename_i o hl
      obtain ⟨rs, hh, k⟩ := o
      obtain ⟨_, _, h3, _⟩ := load_sound chainS chain_size D.vis.length D.vis zed 0 rs hh k (Nat.zero_le _) (by omega) hl
      have := wipe_length h (k := k) (by rw [← h.len]; exact h3)
      split
      · exact this
      · exact this
/-- what Append returns and leaves: the code, whether the journal is broken, its records, the disk -/
def apR (b : Bool) (rs : List ByteArray) (D : Dk) (l : List ByteArray) : Int × Bool × List ByteArray × Dk :=
  if b = true ∨ l.any longB = true then (340, b, rs, D) else
    if D.sure.length < need rs + need l then (341, b, rs, D) else
      if l = [] then (0, b, rs, D) else
        if (put4 D (need rs) (st chainS (hd chainS zed rs) l)).1 = 0 then (0, b, rs ++ l, (put4 D (need rs) (st chainS (hd chainS zed rs) l)).2)
        else ((put4 D (need rs) (st chainS (hd chainS zed rs) l)).1, true, rs, (put4 D (need rs) (st chainS (hd chainS zed rs) l)).2)
theorem app_apR (b : Bool) (rs : List ByteArray) (D : Dk) (l : List ByteArray) : app b (trip rs) D l = ((apR b rs D l).1, (apR b rs D l).2.1, trip (apR b rs D l).2.2.1, (apR b rs D l).2.2.2) := by
  unfold app apR
  rw [show (trip rs).2.2 = need rs from st_need _ _, show (trip rs).2.1 = hd chainS zed rs from rfl, st_need]
  split
  · rfl
  · split
    · rfl
    · split
      · rfl
      · split
        · rw [show (trip rs).1 = rs from rfl]
          have := trip_append rs l
          rw [st_need, st_need] at this
          rw [this]
        · rfl
theorem put4_pend (D : Dk) (k : Nat) (s : List UInt8) : (put4 D k s).2.pend.length ≤ D.pend.length + 1 := by
  unfold put4
  split
  · simp
  · split
    · simp [wr]
    · split
      · simp [wr, sy]
      · simp [sy]
theorem apR_pend (b : Bool) (rs : List ByteArray) (D : Dk) (l : List ByteArray) : (apR b rs D l).2.2.2.pend.length ≤ D.pend.length + 1 := by
  unfold apR
  split
  · simp
  · split
    · simp
    · split
      · simp
      · split
        · exact put4_pend _ _ _
        · exact put4_pend _ _ _
theorem apR_fit {b : Bool} {rs : List ByteArray} {D : Dk} {l : List ByteArray} (h : Ok D) (hf : need rs ≤ D.sure.length) : (apR b rs D l).2.2.2.sure.length = D.sure.length ∧ need (apR b rs D l).2.2.1 ≤ D.sure.length := by
  unfold apR
  split
  · exact ⟨rfl, hf⟩
  · split
    · exact ⟨rfl, hf⟩
    · split
      · exact ⟨rfl, hf⟩
      · rename_i h1 h2 h3
        have hne : st chainS (hd chainS zed rs) l ≠ [] := by
          obtain ⟨s1, e⟩ := st_head chainS (h := hd chainS zed rs) h3
          rw [e]; simp
        have hl := put4_length (D := D) h.len (k := need rs) hne (by rw [st_need]; omega)
        split
        · exact ⟨hl, by rw [need_append]; show need rs + need l ≤ _; omega⟩
        · exact ⟨hl, hf⟩
theorem apR_small {b : Bool} {rs : List ByteArray} {D : Dk} {l : List ByteArray} (hr : ∀ r ∈ rs, r.size ≤ 65536) : ∀ r ∈ (apR b rs D l).2.2.1, r.size ≤ 65536 := by
  unfold apR
  split
  · exact hr
  · rename_i h0
    split
    · exact hr
    · split
      · exact hr
      · split
        · intro r hm
          rcases List.mem_append.1 hm with hm | hm
          · exact hr r hm
          · by_cases hb : longB r = true
            · exact absurd (.inr (List.any_eq_true.2 ⟨r, hm, hb⟩)) h0
            · simp [longB] at hb; exact hb
        · exact hr
end Go.Proofs.YtnjkinljpekohaaGreatDoor.Jo
namespace Go.Proofs.YtnjkinljpekohaaGreatDoor.Jo
open Go.RowKit Sha Dsk Jr
attribute [local go_sem] Oper.semAt_some
def I64 (c : Int) : Prop := -9223372036854775808 ≤ c ∧ c ≤ 9223372036854775807
/-- an arbitrary integer as an index below n -/
def pk (c : Int) (n : Nat) : Nat := ((if c < 0 then -(c + 1) else c) % (n : Int)).toNat
theorem pk_lt (c : Int) {n : Nat} (h : 1 ≤ n) : pk c n < n := by
  unfold pk
  have h2 : (n : Int) ≠ 0 := by omega
  have h3 := Int.emod_lt_of_pos (if c < 0 then -(c + 1) else c) (show (0 : Int) < (n : Int) by omega)
  have h4 := Int.emod_nonneg (if c < 0 then -(c + 1) else c) h2
  omega
theorem pk_cast (c : Int) {n : Nat} (h : 1 ≤ n) : ((pk c n : Nat) : Int) = (if c < 0 then -(c + 1) else c) % (n : Int) := by
  unfold pk
  have h4 := Int.emod_nonneg (if c < 0 then -(c + 1) else c) (show (n : Int) ≠ 0 by omega)
  omega
theorem pick_any (c : Int) (n : Nat) (w : World) (hc : I64 c) (hn : 1 ≤ n) (hn2 : n ≤ 4294967296) : Calls Tryz.prog 12 #[.int .i64 c, .int .i64 (n : Int)] w fun e w' => e = .returned (.int .i64 ((pk c n : Nat) : Int)) ∧ w = w' := by
  obtain ⟨h1, h2⟩ := hc
  have hp := Lib.hid (pk_cast c hn)
  have hz : ((n : Int) == 0) = false := by rw [beq_eq_false_iff_ne]; omega
  by_cases h : c < 0
  · rw [if_pos h] at hp
    go_enter Tryz.func12, Tryz.ntmps12
    go_wp2_with fail
    go_ret
    exact ⟨ret_int (by rw [hp.out, ← Int.neg_tmod, Int.tmod_eq_emod_of_nonneg (by omega)]), rfl⟩
  · rw [if_neg h] at hp
    go_enter Tryz.func12, Tryz.ntmps12
    go_wp2_with fail
    go_ret
    exact ⟨ret_int (by rw [hp.out]), rfl⟩
/-- a size of a disk -/
def szI (c : Int) : Nat := 1 + pk c 1500
theorem szI_le (c : Int) : 1 ≤ szI c ∧ szI c ≤ 1500 := by
  have := pk_lt c (n := 1500) (by omega)
  unfold szI; omega
theorem lsize_any (c : Int) (w : World) (hc : I64 c) : Calls Tryz.prog 10 #[.int .i64 c] w fun e w' => e = .returned (.int .i64 ((szI c : Nat) : Int)) ∧ w = w' := by
  have hp := pick_any c 1500 w hc (by omega) (by omega)
  have hl := pk_lt c (n := 1500) (by omega)
  have hs : ((szI c : Nat) : Int) = 1 + ((pk c 1500 : Nat) : Int) := by unfold szI; omega
  obtain ⟨k, hk⟩ : ∃ k, pk c 1500 = k := ⟨_, rfl⟩
  rw [hk] at hp hl hs
  rw [hs]
  have HP := Lib.hid hp
  clear hp hk hs hc
  go_enter Tryz.func10, Tryz.ntmps10
  go_wp2_with (go_at_call 12; (refine HP.out.mono ?_); rintro e w1 ⟨rfl, rfl⟩)
  go_ret
  exact ⟨rfl, rfl⟩
theorem str_info1 : (Tryz.prog.info? 9).map (fun i => (i.zero, i.size, i.bytes)) = some (some (.string ⟨#[]⟩), 1, 16) := by kernel_rfl
theorem new_one (W : World) (y : Value) (t : TypeId) : ∀ j u, [y][j]? = some u → (W.alloc (.cells #[y] t)).cell? ⟨W.heap.size, j, none⟩ = some u := fun j u h => by
  cases j with
  | zero => simp at h; subst h; exact new_cell rfl
  | succ j => simp at h
def cut100 (s : ByteArray) : ByteArray := s.extract 0 (min s.size 100)
def fewS (l : List ByteArray) (n : Nat) : List ByteArray := (l.take n).map cut100
theorem cut100_size (s : ByteArray) : (cut100 s).size ≤ 100 := by rw [cut100, ByteArray.size_extract]; omega
theorem fewS_length (l : List ByteArray) (n : Nat) : (fewS l n).length = min n l.length := by rw [fewS, List.length_map, List.length_take]
theorem fewS_sizes (l : List ByteArray) (n : Nat) : ∀ s ∈ fewS l n, s.size ≤ 100 := fun s hs => by
  obtain ⟨a, _, rfl⟩ := List.mem_map.1 hs
  exact cut100_size a
theorem fewS_succ (l : List ByteArray) (k : Nat) (h : k < l.length) : fewS l (k + 1) = fewS l k ++ [cut100 (l.getD k ⟨#[]⟩)] := by
  rw [fewS, List.take_succ_eq_append_getElem h, List.map_append, fewS, List.getD, List.getElem?_eq_getElem h]; rfl
set_option maxRecDepth 100000 in
set_option maxHeartbeats 4000000 in
theorem few_any (A : Option Addr) (c m : Nat) (l : List ByteArray) (w : World) (hm : l.length = m) (hA : StrsAt w A l) (_hl : (l.length : Int) ≤ 9223372036854775807) (hs : ∀ s ∈ l, (s.size : Int) ≤ 9223372036854775807) :
    Calls Tryz.prog 18 #[.slice A m c] w fun e w' => ∃ v, e = .returned v ∧ w'.ownsRow w.heap.size 9 1 v (fewS l 6).length (svs (fewS l 6)) ∧ Below w.heap.size w w' := by
  obtain ⟨n, hn6⟩ : ∃ n, 6 = n := ⟨_, rfl⟩
  rw [hn6]
  have HN6 := Lib.hid hn6
  have hn : n ≤ 6 := by omega
  have hni : (6 : Int) = (n : Int) := by omega
  subst hm
  obtain ⟨i0, hi0, hz0, hz1, hz2⟩ := info_parts str_info1
  have I1 := Lib.hid hi0
  have I2 := Lib.hid hz0
  have I3 := Lib.hid hz1
  have I4 := Lib.hid hz2
  have HA := Lib.hid hA
  have HS := Lib.hid hs
  obtain ⟨N, hN⟩ : ∃ N, l.length = N := ⟨_, rfl⟩
  have HN := Lib.hid hN
  rw [hN] at _hl ⊢
  have Hni := Lib.hid hni
  have hn2 : 6 ≤ n := by omega
  clear hA hs hi0 hz0 hz1 hz2 hN hn6 hni
  go_enter Tryz.func18, Tryz.ntmps18
  go_wp2_with fail
  go_loopw [3, 4] (fun v i wr => ∃ k : Nat, i = .int .i64 (k : Int) ∧ k ≤ N ∧ k ≤ n ∧ wr.ownsRow w.heap.size 9 1 v k (svs (fewS l k)) ∧ Below w.heap.size w wr) (fun _ i _ => n - (intOf i).toNat)
  case atStart => exact ⟨0, rfl, Nat.zero_le _, Nat.zero_le _, World.ownsRow_nil _ _ _ _, Below.refl _ _⟩
  case round =>
    obtain ⟨k, rfl, hkN, hkn, how, hB⟩ := hrel
    have HO := Lib.hid how
    have HB := Lib.hid hB
    have hbs := hB.size
    clear how hB
    by_cases h1 : k < N
    · by_cases h2 : k < n
      · have hk : k < l.length := by have := HN.out; omega
        obtain ⟨b, o, rfl, hcell⟩ := (HA.out.then_ HB.out) k hk
        obtain ⟨x, hx⟩ : ∃ x, l.getD k ⟨#[]⟩ = x := ⟨_, rfl⟩
        rw [hx] at hcell
        have HX := Lib.hid hx
        have hxs : (x.size : Int) ≤ 9223372036854775807 := HS.out x (by rw [← hx, List.getD, List.getElem?_eq_getElem hk]; exact List.getElem_mem hk)
        obtain ⟨M, m4⟩ : ∃ M, min x.size 100 = M := ⟨_, rfl⟩
        have M4 := Lib.hid m4
        have m1 : min (x.size : Int) 100 = (M : Int) := by omega
        have m2 : M ≤ x.size := by omega
        have g1 : (k : Int) < (N : Int) := by omega
        have g2 : (k : Int) < 6 := by omega
        have lx := lt_size hcell
        clear hk hx m4
        go_wp2_with fail
        go_region_law (refine step_append1 (by rfl) _ _ 32 (by rfl) w.heap.size 9 i0 _ 1 16 Tryz.underlying32 I1.out I2.out I3.out I4.out rfl (by omega) (by omega) u3 k _ (by rfl) (HO.out.alloc _) wr.heap.size [.string (x.extract 0 M)] (by rfl) rfl (new_one wr _ _) (by simp [Value.oneCell']) (by omega) (by simp; omega) ?_; intro a1 b1 w4 o4 k4 h4)
        all_goals
          simp only [Act.put, List.setIfInBounds_toArray, List.set_cons_zero, List.set_cons_succ, List.getElem_toArray, List.getElem_cons_zero, List.getElem_cons_succ]
          have k0 : Kept u3.ownBlock.toList wr w4 := ((Kept.refl u3.ownBlock.toList wr).alloc (.cells #[.string (x.extract 0 M)] 9)).drew.trans (k4 : Kept u3.ownBlock.toList _ w4) (New.refl _ _)
          have B4 := k0.below_next HB.out hbs (fun q hq => (HO.out.lt q (own_mem hq)).1)
          have HB4 := Lib.hid B4
          have HO4 := Lib.hid o4
          clear k0 B4 o4 k4 h4
          go_wp2_with fail
          refine ⟨⟨k + 1, by rfl, by omega, by omega, ?_, HB4.out⟩, by simp [intOf]; omega⟩
          rw [fewS_succ l k (by have := HN.out; omega), HX.out, svs_append, cut100, M4.out]
          exact HO4.out
      · have g1 : (k : Int) < (N : Int) := by omega
        have g2 : ¬ (k : Int) < 6 := by omega
        have hfl : (fewS l n).length = k := by rw [fewS_length, HN.out]; omega
        have hfe : fewS l n = fewS l k := by rw [show n = k by omega]
        have HFL := Lib.hid hfl
        have HFE := Lib.hid hfe
        clear hfl hfe
        go_wp2_with fail
        go_ret
        refine ⟨_, rfl, ?_, HB.out⟩
        rw [HFL.out, HFE.out]; exact HO.out
    · have g1 : ¬ (k : Int) < (N : Int) := by omega
      have hfl : (fewS l n).length = k := by rw [fewS_length, HN.out]; omega
      have hfe : fewS l n = fewS l k := by rw [fewS, fewS, List.take_of_length_le (by rw [HN.out]; omega), List.take_of_length_le (by rw [HN.out]; omega)]
      have HFL := Lib.hid hfl
      have HFE := Lib.hid hfe
      clear hfl hfe
      go_wp2_with fail
      go_ret
      refine ⟨_, rfl, ?_, HB.out⟩
      rw [HFL.out, HFE.out]; exact HO.out
end Go.Proofs.YtnjkinljpekohaaGreatDoor.Jo
namespace Go.Proofs.YtnjkinljpekohaaGreatDoor.Jo
open Go.RowKit Sha Dsk Jr
attribute [local go_sem] Oper.semAt_some
theorem take_eq_next {la lb : List ByteArray} {k : Nat} (h : la.take k = lb.take k) (ha : k < la.length) (hb : k < lb.length) (he : la.getD k ⟨#[]⟩ = lb.getD k ⟨#[]⟩) : la.take (k + 1) = lb.take (k + 1) := by
  rw [take_next la k ha, take_next lb k hb, h, he]
theorem take_ne {la lb : List ByteArray} {k : Nat} (he : la.getD k ⟨#[]⟩ ≠ lb.getD k ⟨#[]⟩) : la ≠ lb := fun h => he (by rw [h])
set_option maxHeartbeats 2000000 in
theorem same_any (A B : Option Addr) (n m ca cb : Nat) (la lb : List ByteArray) (w : World) (hA : StrsAt w A la) (hB : StrsAt w B lb) (hn : la.length = n) (hm : lb.length = m) (hn1 : n ≤ 1000000) (hm1 : m ≤ 1000000) :
    Calls Tryz.prog 16 #[.slice A n ca, .slice B m cb] w fun e w' => e = .returned (.bool (decide (la = lb))) ∧ Below w.heap.size w w' := by
  obtain ⟨r, hr⟩ : ∃ r, decide (la = lb) = r := ⟨_, rfl⟩
  rw [hr]
  by_cases hnm : n = m
  · subst hnm
    have HA := Lib.hid hA
    have HB := Lib.hid hB
    have HN := Lib.hid hn
    have HM := Lib.hid hm
    have HR := Lib.hid hr
    clear hA hB hn hm hr
    go_enter Tryz.func16, Tryz.ntmps16
    go_wp2_with fail
    go_loopw [5] (fun i wr => ∃ k : Nat, k ≤ n ∧ i = .int .i64 (k : Int) ∧ la.take k = lb.take k ∧ Below w.heap.size w wr) (fun i _ => n - (intOf i).toNat)
    case atStart => exact ⟨0, Nat.zero_le _, rfl, rfl, Below.refl _ _⟩
    case round =>
      obtain ⟨k, hk, rfl, ht, hB⟩ := hrel
      have HT := Lib.hid ht
      have HBr := Lib.hid hB
      clear ht hB
      by_cases hkn : k < n
      · obtain ⟨b1, o1, rfl, h1⟩ := HA.out k (by rw [HN.out]; exact hkn)
        obtain ⟨b2, o2, rfl, h2⟩ := HB.out k (by rw [HM.out]; exact hkn)
        obtain ⟨x, hx⟩ : ∃ x, la.getD k ⟨#[]⟩ = x := ⟨_, rfl⟩
        obtain ⟨y, hy⟩ : ∃ y, lb.getD k ⟨#[]⟩ = y := ⟨_, rfl⟩
        rw [hx] at h1
        rw [hy] at h2
        have HX := Lib.hid hx
        have HY := Lib.hid hy
        have d1 := cell_then HBr.out h1
        have d2 := cell_then HBr.out h2
        have g1 : (k : Int) < (n : Int) := by omega
        have g0 : (0 : Int) ≤ (k : Int) := by omega
        clear hx hy h1 h2
        have q1 := fun D os => cell_regrown d1 D os
        have q2 := fun D os => cell_regrown d2 D os
        by_cases he : x = y
        · have hc1 : (x.toList == y.toList) = true := (str_beq_iff _ _).2 he
          have hc2 : (x.toList != y.toList) = false := by rw [bne, hc1]; rfl
          have HE := Lib.hid he
          clear he
          go_wp2_with fail
          refine wp_region_quiet_below (by kernel_rfl) (by kernel_rfl) ?_
          repeat (go_big_quiet_step (fail))
          refine wpQuiet_nil ?_
          intro wq hq0
          have hq := below_of_class hq0
          clear hq0
          clear q1 q2
          go_wp2_with fail
          refine ⟨⟨k + 1, by omega, by go_num, take_eq_next HT.out (by rw [HN.out]; exact hkn) (by rw [HM.out]; exact hkn) (by rw [HX.out, HY.out]; exact HE.out), below_next HBr.out hq⟩, by simp [intOf]; omega⟩
        · have hc1 : (x.toList == y.toList) = false := by
            rw [← Bool.not_eq_true]; exact fun h => he ((str_beq_iff _ _).1 h)
          have hc2 : (x.toList != y.toList) = true := by rw [bne, hc1]; rfl
          have hf : r = false := by
            rw [← HR.out, decide_eq_false_iff_not]
            exact take_ne (k := k) (by rw [HX.out, HY.out]; exact he)
          have HF := Lib.hid hf
          clear he hf
          go_wp2_with fail
          refine wp_region_quiet_below (by kernel_rfl) (by kernel_rfl) ?_
          repeat (go_big_quiet_step (fail))
          refine wpQuiet_nil ?_
          intro wq hq0
          have hq := below_of_class hq0
          clear hq0
          clear q1 q2
          go_wp2_with fail
          go_ret
          exact ⟨ret_bool HF.out.symm, below_next HBr.out hq⟩
      · have g1 : ¬ (k : Int) < (n : Int) := by omega
        have hf : r = true := by
          rw [← HR.out, decide_eq_true_iff]
          have := HT.out
          rwa [List.take_of_length_le (by rw [HN.out]; omega), List.take_of_length_le (by rw [HM.out]; omega)] at this
        have HF := Lib.hid hf
        clear hf
        go_wp2_with fail
        go_ret
        exact ⟨ret_bool HF.out.symm, HBr.out⟩
  · have hf : r = false := by
      rw [← hr, decide_eq_false_iff_not]
      rintro rfl
      omega
    subst hf
    have g1 : ((n : Int) == (m : Int)) = false := by rw [beq_eq_false_iff_ne]; omega
    have g2 : ((n : Int) != (m : Int)) = true := by rw [bne, g1]; rfl
    have g3 : (n == m) = false := by rw [beq_eq_false_iff_ne]; exact hnm
    have g4 : (n != m) = true := by rw [bne, g3]; rfl
    clear hr
    go_enter Tryz.func16, Tryz.ntmps16
    go_wp2_with fail
    go_ret
    exact ⟨rfl, Below.refl _ _⟩
theorem content_on (gd : Nat) (F : List Nat) (D : Dk) (w : World) (hd : DiskAt w gd F D) (ho : D.off = false) : Calls Tryz.prog 22 #[.pointer (some ⟨gd, 0, none⟩)] w fun e w' => e = .returned (.string (sof D.vis)) ∧ w = w' := by
  have hok := hd.ok
  have hrd := read_in 0 D.sure.length gd F D w hd ho (by omega)
  rw [List.drop_zero, List.take_of_length_le (by rw [hok.len]; exact Nat.le_refl _), show (((0 : Nat)) : Int) = 0 from rfl] at hrd
  have HS := Lib.hid (size_any gd F D w hd)
  have HR := Lib.hid hrd
  clear hrd hd ho hok
  go_enter Tryz.func22, Tryz.ntmps22
  go_wp2_with (first
    | (go_at_call 34; (refine HS.out.mono ?_); rintro e w1 ⟨rfl, rfl⟩)
    | (go_at_call 33; (refine HR.out.mono ?_); rintro e w1 ⟨rfl, rfl⟩))
  go_ret
  exact ⟨rfl, rfl⟩
theorem content_off (gd : Nat) (F : List Nat) (D : Dk) (w : World) (hd : DiskAt w gd F D) (ho : D.off = true) : Calls Tryz.prog 22 #[.pointer (some ⟨gd, 0, none⟩)] w fun e w' => e = .returned (.string ByteArray.empty) ∧ w = w' := by
  have HS := Lib.hid (size_any gd F D w hd)
  have HD := Lib.hid hd
  have HO := Lib.hid ho
  clear hd ho
  go_enter Tryz.func22, Tryz.ntmps22
  go_wp2_with (first
    | (go_at_call 34; (refine HS.out.mono ?_); rintro e w1 ⟨rfl, rfl⟩)
    | (go_at_call 33; (refine (read_off _ _ gd F D _ HD.out HO.out).mono ?_); rintro e w1 ⟨rfl, rfl⟩))
  go_ret
  exact ⟨rfl, rfl⟩
end Go.Proofs.YtnjkinljpekohaaGreatDoor.Jo
namespace Go.Proofs.YtnjkinljpekohaaGreatDoor.Jo
open Go.RowKit Sha Dsk Jr
/-- a world behind w0, with what lay there as it was -/
structure Base (w0 w : World) : Prop where
  below : Below w0.heap.size w0 w
/-- a disk that the call has made since w0 -/
structure Ds (w0 w : World) (gd : Nat) (F : List Nat) (D : Dk) : Prop where
  disk : DiskAt w gd F D
  new : ∀ x ∈ F, w0.heap.size ≤ x
  below : Below w0.heap.size w0 w
/-- a journal on a disk, both made since w0 -/
structure Jd (w0 w : World) (gj gd : Nat) (v : Value) (F : List Nat) (b : Bool) (rs : List ByteArray) (D : Dk) : Prop where
  ds : Ds w0 w gd F D
  jrn : JAt w gj gd v b (trip rs)
  newj : ∀ x ∈ gj :: v.ownBlock.toList, w0.heap.size ≤ x
  apart : ∀ x ∈ gj :: v.ownBlock.toList, x ∉ F
  fit : need rs ≤ D.sure.length
  small : ∀ r ∈ rs, r.size ≤ 65536
theorem Ds.then_ {w0 w w' : World} {gd : Nat} {F : List Nat} {D : Dk} (h : Ds w0 w gd F D) (hb : Below w.heap.size w w') : Ds w0 w' gd F D := ⟨h.disk.below hb, h.new, below_next h.below hb⟩
theorem Jd.then_ {w0 w w' : World} {gj gd : Nat} {v : Value} {F : List Nat} {b : Bool} {rs : List ByteArray} {D : Dk} (h : Jd w0 w gj gd v F b rs D) (hb : Below w.heap.size w w') : Jd w0 w' gj gd v F b rs D :=
  ⟨h.ds.then_ hb, tape_kept h.jrn (Kept.of_below hb) (by simp) (by simp), h.newj, h.apart, h.fit, h.small⟩
/-- what a call leaves that turns a disk and gives a journal -/
def OpJ (w0 : World) (gd : Nat) (F : List Nat) (R : Int × Option (List ByteArray) × Dk) (w : World) (e : Ending) (w' : World) : Prop :=
  ∃ F', Ds w0 w' gd F' R.2.2 ∧ Kept F w w' ∧ New w F F' ∧ match R.2.1 with
    | none => e = .returned (.tuple #[.pointer none, .int .i64 R.1])
    | some rs => ∃ gj v, e = .returned (.tuple #[.pointer (some ⟨gj, 0, none⟩), .int .i64 0]) ∧ Jd w0 w' gj gd v F' false rs R.2.2 ∧ ∀ x ∈ gj :: v.ownBlock.toList, w.heap.size ≤ x
theorem jd_open (w0 : World) (gd : Nat) (F : List Nat) (D : Dk) (a : Addr) (w : World) (h : Ds w0 w gd F D) (hK : RoundIn w0) (hE : ErrIn w0 222 (.pointer (some a))) (hpl : D.pend.length ≤ 900000) :
    Calls Tryz.prog 11 #[.pointer (some ⟨gd, 0, none⟩)] w (OpJ w0 gd F (opR D) w) := by
  have hr : 4 ∉ F := fun hm => by have := h.new _ hm; have := hK.1; omega
  have he : 0 ∉ F := fun hm => by
    have := h.new _ hm
    have := lt_size (show w0.cell? ⟨_, _, _⟩ = _ from hE)
    omega
  have hq : Calls Tryz.prog 11 #[.pointer (some ⟨gd, 0, none⟩)] w (OpnQ gd F (opn D) w) := by
    cases ho : D.off with
    | true => exact opn_off gd F D w h.disk ho
    | false => exact opn_on gd F D a w h.disk ho (hK.then_ h.below) (cell_then h.below hE) hpl hr he
  refine hq.mono ?_
  rintro e w' ⟨F', h1, h2, h3, h4⟩
  have hb : Below w0.heap.size w0 w' := h2.below_next h.below h.below.size h.new
  have hn : ∀ x ∈ F', w0.heap.size ≤ x := fun x hx => by
    rcases h3 x hx with hF | hF
    · exact h.new x hF
    · have := h.below.size; omega
  have hds : Ds w0 w' gd F' (opn D).2.2 := ⟨h1, hn, hb⟩
  refine ⟨F', hds, h2, h3, ?_⟩
  unfold opR
  cases ho : (opn D).2.1 with
  | none => rw [ho] at h4; exact h4
  | some o =>
    rw [ho] at h4
    obtain ⟨gj, v, e1, e2, e3⟩ := h4
    obtain ⟨t1, t2, t3⟩ := opn_trip ho
    have hok := h.disk.ok
    refine ⟨gj, v, e1, ⟨hds, ?_, fun x hx => ?_, fun x hx => (e3 x hx).2, ?_, t3⟩, fun x hx => (e3 x hx).1⟩
    · rw [t1] at e2; exact e2
    · have := (e3 x hx).1
      have := h.below.size; omega
    · rw [opn_length hok, ← hok.len]; exact t2
/-- what Append leaves -/
def ApJ (w0 : World) (gj gd : Nat) (F : List Nat) (R : Int × Bool × List ByteArray × Dk) (w : World) (e : Ending) (w' : World) : Prop :=
  ∃ F' v', e = .returned (.int .i64 R.1) ∧ Jd w0 w' gj gd v' F' R.2.1 R.2.2.1 R.2.2.2 ∧ Kept (gj :: F) w w' ∧ New w F F'
theorem jd_append (w0 : World) (gj gd n : Nat) (v : Value) (F : List Nat) (b : Bool) (rs : List ByteArray) (D : Dk) (l : List ByteArray) (A : Option Addr) (c : Nat) (w : World) (h : Jd w0 w gj gd v F b rs D) (hK : RoundIn w0)
    (hA : StrsAt w A l) (hl : l.length = n) (hn : n ≤ 1000) (hcap : n ≤ c) (hs : ∀ s ∈ l, (s.size : Int) ≤ 9223372036854775807) (hpl : D.pend.length ≤ 800000) :
    Calls Tryz.prog 17 #[.pointer (some ⟨gj, 0, none⟩), .slice A n c] w (ApJ w0 gj gd F (apR b rs D l) w) := by
  have hok := h.ds.disk.ok
  have hmx := hok.max
  have hfit := h.fit
  have hq : Calls Tryz.prog 17 #[.pointer (some ⟨gj, 0, none⟩), .slice A n c] w (AppQ gj gd v F (app b (trip rs) D l) w) := by
    by_cases hno : b = true ∨ l.any longB = true
    · exact app_no gj gd n v F b (trip rs) D l A c w h.ds.disk h.jrn h.apart hA hl hn hs hno
    · obtain rfl : b = false := by
        cases b
        · rfl
        · exact absurd (.inl rfl) hno
      have hlb : l.any longB = false := by
        cases hx : l.any longB
        · rfl
        · exact absurd (.inr hx) hno
      have hcnt := need_count rs
      exact app_yes gj gd n v F (trip rs) D l A c w h.ds.disk h.jrn h.apart hA hl hn hcap hs hlb (hK.then_ h.ds.below) (by rw [show (trip rs).2.2 = need rs from st_need _ _]; exact hfit) (by rw [show (trip rs).1 = rs from rfl]; omega) (hd_size zed zed_size rs) hpl
  refine hq.mono ?_
  rintro e w' ⟨F', v', rfl, h1, h2, h3, h4, h5, h6⟩
  rw [app_apR] at h1 h2 ⊢
  have hgj := h.newj gj (by simp)
  have hb : Below w0.heap.size w0 w' := h3.below_next h.ds.below h.ds.below.size (fun x hx => by
    rcases List.mem_cons.1 hx with rfl | hx
    · exact hgj
    · exact h.ds.new x hx)
  have hsz := h.ds.below.size
  obtain ⟨f1, f2⟩ := apR_fit (b := b) (l := l) hok hfit
  refine ⟨F', v', rfl, ⟨⟨h1, fun x hx => ?_, hb⟩, h2, fun x hx => ?_, h6, by rw [f1]; exact f2, apR_small h.small⟩, h3, h4⟩
  · rcases h4 x hx with h' | h'
    · exact h.ds.new x h'
    · omega
  · rcases h5 x hx with h' | h'
    · exact h.newj x h'
    · omega
theorem jd_recs (w0 : World) (gj gd : Nat) (v : Value) (F : List Nat) (b : Bool) (rs : List ByteArray) (D : Dk) (w : World) (h : Jd w0 w gj gd v F b rs D) :
    Calls Tryz.prog 15 #[.pointer (some ⟨gj, 0, none⟩)] w fun e w' => ∃ A c, e = .returned (.slice A rs.length c) ∧ StrsAt w' A rs ∧ w'.ownsRow w.heap.size 9 1 (.slice A rs.length c) rs.length (svs rs) ∧ Below w.heap.size w w' := by
  have hcnt := need_count rs
  have hf := h.fit
  have hmx := h.ds.disk.ok.max
  refine (recs_any gj gd v b (trip rs) w h.jrn (by rw [show (trip rs).1 = rs from rfl]; omega)).mono ?_
  rintro e w' ⟨v', rfl, h1, h2⟩
  rw [show (trip rs).1 = rs from rfl] at h1
  rcases h1.2 with ⟨hv, h0⟩ | ⟨g, cap, cur, hv, _⟩
  · have hr : rs = [] := List.eq_nil_of_length_eq_zero h0
    subst hr
    exact ⟨none, 0, by rw [hv]; rfl, fun i hi => by simp at hi, by rw [hv] at h1; exact h1, h2⟩
  · exact ⟨some ⟨g, 0, none⟩, cap, by rw [hv], by rw [hv] at h1; exact strs_of_own h1, by rw [hv] at h1; exact h1, h2⟩
theorem jd_room (w0 : World) (gj gd : Nat) (v : Value) (F : List Nat) (b : Bool) (rs : List ByteArray) (D : Dk) (w : World) (h : Jd w0 w gj gd v F b rs D) :
    Calls Tryz.prog 24 #[.pointer (some ⟨gj, 0, none⟩)] w fun e w' => e = .returned (.int .i64 ((D.sure.length : Int) - (need rs : Int))) ∧ w.drew = w' := by
  have := room_any gj gd F D v b (trip rs) w h.ds.disk h.jrn (by rw [show (trip rs).2.2 = need rs from st_need _ _]; exact h.fit)
  rw [show (trip rs).2.2 = need rs from st_need _ _] at this
  exact this
end Go.Proofs.YtnjkinljpekohaaGreatDoor.Jo
namespace Go.Proofs.YtnjkinljpekohaaGreatDoor.Jo
open Go.RowKit Sha Dsk Jr
/-- a disk that holds records, and zeros behind them, and loses no power -/
structure Good0 (D : Dk) (rs : List ByteArray) (n : Nat) : Prop where
  good : Jr.Good chainS zed D rs
  left : D.left = 0
  len : D.sure.length = n
  small : ∀ r ∈ rs, r.size ≤ 65536
theorem Good0.new (n : Nat) : Good0 (nw n) [] n := ⟨⟨rfl, rfl, rfl, n, rfl⟩, rfl, by simp [nw], by simp⟩
theorem Good0.fit {D : Dk} {rs : List ByteArray} {n : Nat} (h : Good0 D rs n) : need rs ≤ n := by
  have := h.good.length
  rw [st_need, h.len] at this
  exact this
theorem opR_good {D : Dk} {rs : List ByteArray} (h : Jr.Good chainS zed D rs) (hs : ∀ r ∈ rs, r.size ≤ 65536) : opR D = (0, some rs, D) := by
  have hr : Reads chainS zed D.vis rs := by rw [h.vis]; exact h.reads
  have hl := load_reads chain_size hr hs
  have hw : wipe D (st chainS zed rs).length = (0, D) := by
    obtain ⟨m, hm⟩ := h.sure
    unfold wipe
    rw [if_pos]
    rw [h.vis, hm, List.drop_left' rfl, List.length_append, List.length_replicate, Nat.add_sub_cancel_left]
  have ho : opn D = (0, some (trip rs), D) := by
    unfold opn
    rw [if_neg (by rw [h.on]; simp), hl]
    dsimp only
    rw [hw, if_pos rfl]
    rfl
  rw [opR, ho]; rfl
theorem put4_good {D : Dk} {rs l : List ByteArray} {n : Nat} (h : Good0 D rs n) (hl : l ≠ []) (hs : ∀ r ∈ l, r.size ≤ 65536) (hf : need rs + need l ≤ n) :
    ∃ D2, put4 D (need rs) (st chainS (hd chainS zed rs) l) = (0, D2) ∧ Good0 D2 (rs ++ l) n := by
  have h1 := put4_law (ch := chainS) (z := zed) h.good hl (by rw [st_need, st_need, h.len]; exact hf)
  rw [st_need zed] at h1
  have hlen := put4_length (D := D) (by rw [h.good.vis]) (k := need rs) (s := st chainS (hd chainS zed rs) l) (by obtain ⟨s1, e⟩ := st_head chainS (h := hd chainS zed rs) hl; rw [e]; simp) (by rw [st_need, h.len]; exact hf)
  have o1 : offW D = false := offW_false h.good.on (by rw [h.left]; decide)
  have l1 : (sy (wr D (need rs + 1) (sof ((st chainS (hd chainS zed rs) l).drop 1)))).left = 0 := by
    show leftW D = 0
    unfold leftW; rw [if_pos h.left]
  have o2 : offW (sy (wr D (need rs + 1) (sof ((st chainS (hd chainS zed rs) l).drop 1)))) = false := offW_false o1 (by rw [l1]; decide)
  have hp : put4 D (need rs) (st chainS (hd chainS zed rs) l) = (0, sy (wr (sy (wr D (need rs + 1) (sof ((st chainS (hd chainS zed rs) l).drop 1)))) (need rs) (sof ((st chainS (hd chainS zed rs) l).take 1)))) := by
    rw [put4, if_neg (by rw [h.good.on]; simp), if_neg (by rw [o1]; simp), if_neg (by rw [o2]; simp)]
  rw [hp] at h1 hlen ⊢
  refine ⟨_, rfl, ?_⟩
  rcases h1 with ⟨_, hg⟩ | ⟨hc, _⟩
  · refine ⟨hg, ?_, by rw [hlen, h.len], fun r hr => ?_⟩
    · show leftW (sy (wr D (need rs + 1) (sof ((st chainS (hd chainS zed rs) l).drop 1)))) = 0
      unfold leftW; rw [if_pos l1]
    · rcases List.mem_append.1 hr with hr | hr
      · exact h.small r hr
      · exact hs r hr
  · exact absurd (show (0 : Int) = 331 from hc) (by decide)
theorem no_long {l : List ByteArray} (hs : ∀ r ∈ l, r.size ≤ 65536) : l.any longB = false := by
  rw [List.any_eq_false]
  intro r hr
  have := hs r hr
  simp [longB]; omega
theorem apR_good {D : Dk} {rs l : List ByteArray} {n : Nat} (h : Good0 D rs n) (hs : ∀ r ∈ l, r.size ≤ 65536) (hf : need rs + need l ≤ n) :
    ∃ D2, apR false rs D l = (0, false, rs ++ l, D2) ∧ Good0 D2 (rs ++ l) n := by
  unfold apR
  rw [if_neg (by rw [no_long hs]; simp), if_neg (by rw [h.len]; omega)]
  by_cases hl : l = []
  · rw [if_pos hl, hl, List.append_nil]
    exact ⟨D, rfl, h⟩
  · rw [if_neg hl]
    obtain ⟨D2, h1, h2⟩ := put4_good h hl hs hf
    rw [h1, if_pos rfl]
    exact ⟨D2, rfl, h2⟩
theorem apR_full {D : Dk} {rs l : List ByteArray} (b : Bool) (hb : b = false) (hs : ∀ r ∈ l, r.size ≤ 65536) (hf : D.sure.length < need rs + need l) : apR b rs D l = (341, b, rs, D) := by
  subst hb
  unfold apR
  rw [if_neg (by rw [no_long hs]; simp), if_pos hf]
/-- a first byte that begins no record -/
theorem opR_bad {D : Dk} (ho : D.off = false) (h0 : D.vis.getD 0 0 ≠ 0) (h1 : D.vis.getD 0 0 ≠ 1) (hl : 0 < D.vis.length) : opR D = (342, none, D) := by
  have hn : Jr.load chainS D.vis D.vis.length zed 0 = none := by
    obtain ⟨n, hn⟩ : ∃ n, D.vis.length = n + 1 := ⟨D.vis.length - 1, by omega⟩
    rw [hn, Jr.load, if_neg h0, if_neg h1]
  rw [opR, opn, if_neg (by rw [ho]; simp), hn]; rfl
theorem Ds.turn {w0 w w' : World} {gd : Nat} {F F' : List Nat} {D D' : Dk} (h : Ds w0 w gd F D) (hd : DiskAt w' gd F' D') (hk : Kept F w w') (hn : New w F F') : Ds w0 w' gd F' D' := by
  refine ⟨hd, fun x hx => ?_, hk.below_next h.below h.below.size h.new⟩
  rcases hn x hx with hF | hF
  · exact h.new x hF
  · have := h.below.size; omega
/-- a journal stays when its disk turns -/
theorem Jd.turn {w0 w w' : World} {gj gd : Nat} {v : Value} {F F' : List Nat} {b : Bool} {rs : List ByteArray} {D D' : Dk} (h : Jd w0 w gj gd v F b rs D) (hd : Ds w0 w' gd F' D') (hk : Kept F w w') (hn : New w F F') (hl : D'.sure.length = D.sure.length) : Jd w0 w' gj gd v F' b rs D' := by
  refine ⟨hd, tape_kept h.jrn hk (h.apart gj (by simp)) (fun x hx => h.apart x (List.mem_cons_of_mem _ (Option.mem_toList.2 hx))), h.newj, fun x hx hm => ?_, by rw [hl]; exact h.fit, h.small⟩
  rcases hn x hm with hF | hF
  · exact h.apart x hx hF
  · rcases List.mem_cons.1 hx with rfl | hx
    · have := hlt h.jrn.blk; omega
    · have := (h.jrn.own.lt x (Option.mem_toList.1 hx)).2; omega
theorem Jd.alloc {w0 w : World} {gj gd : Nat} {v : Value} {F : List Nat} {b : Bool} {rs : List ByteArray} {D : Dk} (h : Jd w0 w gj gd v F b rs D) (o : Obj) : Jd w0 (w.alloc o) gj gd v F b rs D := h.then_ ((Below.refl _ _).alloc (Nat.le_refl _) o)
theorem Jd.drew {w0 w : World} {gj gd : Nat} {v : Value} {F : List Nat} {b : Bool} {rs : List ByteArray} {D : Dk} (h : Jd w0 w gj gd v F b rs D) : Jd w0 w.drew gj gd v F b rs D := h.then_ (Below.refl _ _).drew
theorem Ds.alloc {w0 w : World} {gd : Nat} {F : List Nat} {D : Dk} (h : Ds w0 w gd F D) (o : Obj) : Ds w0 (w.alloc o) gd F D := h.then_ ((Below.refl _ _).alloc (Nat.le_refl _) o)
theorem Ds.drew {w0 w : World} {gd : Nat} {F : List Nat} {D : Dk} (h : Ds w0 w gd F D) : Ds w0 w.drew gd F D := h.then_ (Below.refl _ _).drew
/-! the examples of sane -/
def abS : ByteArray := ⟨#[97, 98]⟩
def zeros (n : Nat) : ByteArray := sof (List.replicate n (0 : UInt8))
theorem need_ab : need [abS, ⟨#[]⟩] = 70 := by decide +kernel
theorem need_96 : need [zeros 96] = 131 := by decide +kernel
theorem need_95 : need [zeros 95] = 130 := by decide +kernel
theorem zeros_size (n : Nat) : (zeros n).size = n := by rw [zeros, ← bts_length, bts_sof, List.length_replicate]
end Go.Proofs.YtnjkinljpekohaaGreatDoor.Jo
