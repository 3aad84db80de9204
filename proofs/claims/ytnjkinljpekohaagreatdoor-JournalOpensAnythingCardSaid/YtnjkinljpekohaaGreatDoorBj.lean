/- Package journal: Records, Room; whether a record is too long. strings.Builder: WriteString, String, with what they leave alone. -/
import Derived.Test.YtnjkinljpekohaaGreatDoorBi
import Derived.Deep.RegionWith
import Derived.Test.YtnjkinljpekohaaGreatDoorBg
import Derived.Lib.Builder
import Derived.Lib.AppendStr
import Derived.Lib.UnsafeStr
import Derived.Laws.Externs
import Derived.RegionTactic
namespace Go.Proofs.YtnjkinljpekohaaGreatDoor.Jo
open Go.RowKit Sha Dsk Jr Go.Lib
attribute [local go_sem] Oper.semAt_some
theorem room_nil (w : World) : Calls Tryz.prog 24 #[.pointer none] w fun e w' => e = .returned (.int .i64 0) ∧ w = w' := by
  go_enter Tryz.func24, Tryz.ntmps24
  go_wp2_with fail
  go_ret
  exact ⟨rfl, rfl⟩
theorem room_any (gj gd : Nat) (F : List Nat) (D : Dk) (v : Value) (b : Bool) (o : List ByteArray × ByteArray × Nat) (w : World) (hd : DiskAt w gd F D) (hj : JAt w gj gd v b o) (hk : o.2.2 ≤ D.sure.length) :
    Calls Tryz.prog 24 #[.pointer (some ⟨gj, 0, none⟩)] w fun e w' => e = .returned (.int .i64 ((D.sure.length : Int) - (o.2.2 : Int))) ∧ w.drew = w' := by
  have c2 : w.cell? ⟨gj, 2, none⟩ = some (.int .i64 (o.2.2 : Int)) := cells_get hj.blk (i := 2) rfl
  have c3 : w.cell? ⟨gj, 3, none⟩ = some (.pointer (some ⟨gd, 0, none⟩)) := cells_get hj.blk (i := 3) rfl
  have hs := size_any gd F D w.drew (hd.below (Below.refl _ _).drew)
  have hm := hd.ok.max
  obtain ⟨n, hn⟩ : ∃ n, D.sure.length = n := ⟨_, rfl⟩
  obtain ⟨k, hk'⟩ : ∃ k, o.2.2 = k := ⟨_, rfl⟩
  rw [hn] at hs hm hk ⊢
  rw [hk'] at c2 hk ⊢
  have HS := Lib.hid hs
  clear hs hd hj hn hk'
  go_enter Tryz.func24, Tryz.ntmps24
  go_wp2_with fail
  have sm1 : IntKind.i64.wrap ((n : Int) - (k : Int)) = (n : Int) - (k : Int) := IntWalk.i64_in _ (by omega)
  go_region_with (go_at_call 34; (with_reducible refine HS.out.mono ?_); rintro e w1 ⟨rfl, rfl⟩)
  all_goals
    go_wp2_with fail
    go_ret
    exact ⟨rfl, rfl⟩
theorem svs_getD (l : List ByteArray) : ∀ j, j < l.length → (l[j]?).getD ⟨#[]⟩ = l.getD j ByteArray.empty := fun j hj => by simp [List.getD, hj]
/-- a list of strings of the call's own, cloned -/
theorem clone_any (v : Value) (rs : List ByteArray) (w : World) (ho : w.ownsRow 0 9 1 v rs.length (svs rs)) (hn : rs.length ≤ 1000000) :
    Calls Tryz.prog 48 #[v] w fun e w' => ∃ v', e = .returned v' ∧ w'.ownsRow w.heap.size 9 1 v' rs.length (svs rs) ∧ Below w.heap.size w w' := by
  rcases ho.2 with ⟨rfl, h0⟩ | ⟨g, cap, cur, rfl, _, hg, hc, _⟩
  · have hr : rs = [] := List.eq_nil_of_length_eq_zero h0
    subst hr
    refine (Tryz.slices_Clone_string_nil 0 0 w).mono ?_
    rintro e w' ⟨rfl, rfl⟩
    exact ⟨_, rfl, World.ownsRow_nil _ _ _ _, Below.refl _ _⟩
  · by_cases h0 : rs.length = 0
    · have hr : rs = [] := List.eq_nil_of_length_eq_zero h0
      subst hr
      refine (Tryz.slices_Clone_string_zero ⟨g, 0, none⟩ cap w).mono ?_
      rintro e w' ⟨v', rfl, h1, _, h2⟩
      exact ⟨v', rfl, h1, h2⟩
    · have hst := strs_of_own ho
      refine (Tryz.slices_Clone_string g 0 rs.length cap rs w (Nat.le_refl _) (by omega) (fun j hj => ?_)).mono ?_
      · obtain ⟨b, o, e, hc⟩ := hst j hj
        injection e with e
        injection e with e1 e2
        subst e1 e2
        exact hc
      · rintro e w' ⟨v', rfl, h1, _, h2⟩
        rw [List.take_length] at h1
        exact ⟨v', rfl, h1, h2⟩
theorem recs_nil (w : World) : Calls Tryz.prog 15 #[.pointer none] w fun e w' => e = .returned (.slice none 0 0) ∧ w = w' := by
  go_enter Tryz.func15, Tryz.ntmps15
  go_wp2_with fail
  go_ret
  exact ⟨rfl, rfl⟩
theorem recs_any (gj gd : Nat) (v : Value) (b : Bool) (o : List ByteArray × ByteArray × Nat) (w : World) (hj : JAt w gj gd v b o) (hn : o.1.length ≤ 1000000) :
    Calls Tryz.prog 15 #[.pointer (some ⟨gj, 0, none⟩)] w fun e w' => ∃ v', e = .returned v' ∧ w'.ownsRow w.heap.size 9 1 v' o.1.length (svs o.1) ∧ Below w.heap.size w w' := by
  have c0 := cells_get hj.blk (i := 0) rfl
  have hc := clone_any v o.1 w hj.own hn
  have HC := Lib.hid hc
  clear hc hj
  go_enter Tryz.func15, Tryz.ntmps15
  go_wp2_with fail
  refine HC.out.mono ?_
  rintro e w1 ⟨v', rfl, h1, h2⟩
  have H1 := Lib.hid h1
  have H2 := Lib.hid h2
  clear h1 h2
  go_wp2_with fail
  go_ret
  exact ⟨v', rfl, H1.out, H2.out⟩
/-- too long -/
def longB (s : ByteArray) : Bool := decide (65536 < s.size)
theorem long_gives (s : ByteArray) (W : World) (hs : (s.size : Int) ≤ 9223372036854775807) : FnGives Tryz.prog 49 #[] #[.string s] (.bool (longB s)) W := by
  show Calls Tryz.prog 49 #[.string s] W _
  by_cases h : 65536 < s.size
  · rw [show longB s = true by simpa [longB] using h]
    have h1 : (65536 : Int) < (s.size : Int) := by omega
    go_enter Tryz.func49, Tryz.ntmps49
    go_wp2_with fail
    go_ret
    exact ⟨rfl, 0, rfl⟩
  · rw [show longB s = false by simpa [longB] using h]
    have h1 : ¬ (65536 : Int) < (s.size : Int) := by omega
    go_enter Tryz.func49, Tryz.ntmps49
    go_wp2_with fail
    go_ret
    exact ⟨rfl, 0, rfl⟩
abbrev Sm := { s : ByteArray // (s.size : Int) ≤ 9223372036854775807 }
instance : Inhabited Sm := ⟨⟨⟨#[]⟩, by decide⟩⟩
theorem any_sub (p : List ByteArray) (hs : ∀ s ∈ p, (s.size : Int) ≤ 9223372036854775807) : ∃ zs : List Sm, zs.length = p.length ∧ (∀ j, j < zs.length → (zs[j]!).1 = p.getD j ⟨#[]⟩) ∧ (zs.any fun x => longB x.1) = p.any longB := by
  induction p with
  | nil => exact ⟨[], rfl, fun j h => by simp at h, rfl⟩
  | cons a t ih =>
    obtain ⟨zs, h1, h2, h3⟩ := ih (fun s hs' => hs s (List.mem_cons_of_mem _ hs'))
    refine ⟨⟨a, hs a (List.mem_cons_self ..)⟩ :: zs, by simp [h1], fun j hj => ?_, by simp [h3]⟩
    cases j with
    | zero => rfl
    | succ j =>
      have := h2 j (by simpa using hj)
      simpa using this
theorem longs_any (A : Option Addr) (c n : Nat) (p : List ByteArray) (w : World) (hn : p.length = n) (hA : StrsAt w A p) (hl : n ≤ 1000000) (hs : ∀ s ∈ p, (s.size : Int) ≤ 9223372036854775807) :
    Calls Tryz.prog 50 #[.slice A n c, .func (.func 49) #[] #[]] w fun e w' => e = .returned (.bool (p.any longB)) ∧ Below w.heap.size w w' := by
  by_cases h0 : n = 0
  · have hp : p = [] := List.eq_nil_of_length_eq_zero (by omega)
    subst h0
    refine (Tryz.slices_ContainsFunc_empty (α := Int) A c _ w).mono ?_
    rintro e w' ⟨rfl, rfl⟩
    exact ⟨by rw [hp]; rfl, Below.refl _ _⟩
  · obtain ⟨b, o, rfl, -⟩ := hA 0 (by omega)
    obtain ⟨zs, h1, h2, h3⟩ := any_sub p hs
    refine (Tryz.slices_ContainsFunc (α := Sm) (fun x => .string x.1) (fun x => longB x.1) 49 #[] (enters_of Tryz.func49 (by kernel_rfl) rfl) b o n c zs w (fun W x _ => long_gives x.1 W x.2) (by omega) (by omega) (fun j hj => ?_)).mono ?_
    · obtain ⟨b', o', e, hc⟩ := hA j (by omega)
      injection e with e
      injection e with e1 e2
      subst e1 e2
      rw [h2 j hj]; exact hc
    · rintro e w' ⟨rfl, q, rfl⟩
      refine ⟨?_, below_drewN (Below.refl _ _) q⟩
      rw [List.take_of_length_le (by omega), h3]
end Go.Proofs.YtnjkinljpekohaaGreatDoor.Jo
namespace Go.Proofs.YtnjkinljpekohaaGreatDoor.Jo
open Go.RowKit Sha Dsk Jr
open Lib in
/-- where an append of a string puts the row -/
theorem append_place {P : Program} {w : World} {base : Nat} {t u ty e : TypeId} {i : TypeInfo} (ht : P.underlying t = some (.slice e)) (hu : P.underlying u = some .string) (hi : P.info? e = some i) (hz : i.zero = some (.int .u8 0)) (hsize : i.size = 1) (hby : i.bytes = 1)
    {v : Value} {n : Nat} {xs : List Value} (hown : w.ownsRow base e 1 v n xs) {s : ByteArray} (h63 : n + s.size ≤ 140737488355328) {v' : Value} {w' : World} (hr : (Builtin.append_ #[t, u] ty #[v, .string s]).run P w = .ok v' w') : ∀ x, v'.ownBlock = some x → v.ownBlock = some x ∨ x = w.heap.size := by
  have hxl : xs.length = n := by simpa using hown.1
  rcases hown.2 with ⟨rfl, rfl⟩ | ⟨g, cap, cur, rfl, hbg, hg, hnc, hcm, hcs, htake⟩
  · by_cases hm : s.size = 0
    · obtain ⟨v2, w2, hr2, h2, h3, h4⟩ := run_append_own_string (P := P) w 0 t u ty e i ht hu hi hz hsize hby (.slice none 0 0) 0 [] (World.ownsRow_nil _ _ _ _) s (by unfold maxLen; omega) (by omega) (by omega)
      rw [hr2] at hr
      injection hr with e1 e2
      intro x hx
      rw [← e1, h4.2 ⟨rfl, hm⟩] at hx
      cases hx
    · have h2 := run_append_nil_string (P := P) w t u ty e i (.int .u8 0) ht hu hi hz s (by omega) (by omega) (by rw [hby]; omega)
      rw [h2] at hr
      injection hr with e1 e2
      intro x hx
      rw [← e1] at hx
      right
      simpa [Value.ownBlock] using hx.symm
  · by_cases hroom : n + s.size ≤ cap
    · have h2 := run_append_room_string (P := P) w t u ty e i ht hu hi hsize g n cap cur hg s hroom (by omega)
      rw [h2] at hr
      injection hr with e1 e2
      intro x hx
      rw [← e1] at hx
      exact .inl hx
    · have holds : ∀ j u, xs[j]? = some u → w.cell? ((⟨g, 0, none⟩ : Addr).add j) = some u := hown.cells (g := g) rfl
      have h2 := run_append_grow_string (P := P) w t u ty e i (.int .u8 0) ht hu hi hz ⟨g, 0, none⟩ n cap xs (by rw [hsize]; simpa using hxl) holds s (by omega) (by omega) (by rw [hby]; exact growslice_fits (by omega) (by omega))
      rw [h2] at hr
      injection hr with e1 e2
      intro x hx
      rw [← e1] at hx
      right
      simpa [Value.ownBlock] using hx.symm
open Lib in
theorem wpList_append_str {P : Program} {w : World} {ops : Array Oper} {rest : List Oper} {o : Oper} {a : Act} {Q : Exit → Act → World → Prop} (hgd : o.guard = none) (sl x : Operand) (t u : TypeId)
    (ho : o.op = .call { callee := .builtin .append, args := #[sl, x], argTypes := #[t, u] }) (e : TypeId) (i : TypeInfo) (ht : P.underlying t = some (.slice e)) (hu : P.underlying u = some .string) (hi : P.info? e = some i) (hz : i.zero = some (.int .u8 0)) (hsize : i.size = 1) (hby : i.bytes = 1)
    (v : Value) (n : Nat) (xs : List Value) (hs : a.eval sl = v) (hown : w.ownsRow 0 e 1 v n xs) (s : ByteArray) (hx : a.eval x = .string s) (hb : n + s.size ≤ 140737488355328)
    (h : ∀ A k c w', w'.ownsRow 0 e 1 (.slice A k c) (n + s.size) (xs ++ strCells s) → w.grownBy w' v.ownBlock → (∀ x, (Value.slice A k c).ownBlock = some x → v.ownBlock = some x ∨ x = w.heap.size) → wpList P ops Q rest (a.put o.dst (.slice A k c)) w') : wpList P ops Q (o :: rest) a w := by
  refine wpList_plain hgd fun K hK => ?_
  obtain ⟨v', w', hr, h2, h3, _⟩ := run_append_own_string (P := P) w 0 t u o.type e i ht hu hi hz hsize hby v n xs hown s (by unfold maxLen; omega) hb (Nat.zero_le _)
  have h4 := append_place ht hu hi hz hsize hby hown hb hr
  obtain ⟨A, k, c, rfl⟩ : ∃ A k c, v' = .slice A k c := by
    rcases h2.2 with ⟨h, _⟩ | ⟨g, cap, cur, h, _⟩
    · exact ⟨_, _, _, h⟩
    · exact ⟨_, _, _, h⟩
  unfold Oper.wp execOp
  simp only [ho, resolve, invoke, builtin, Sem.run_bind, Sem.run_pure, Result.andThen_ok, List.map_toArray, List.map_cons, List.map_nil, hs, hx, hr]
  exact hK _ _ (h A k c w' h2 h3 h4)
theorem bld_size : (Tryz.prog.info? 99).map (·.size) = some 2 := by kernel_rfl
theorem bld_lies : liesAt Tryz.prog Tryz.prog.depth 99 (2 / Tryz.prog.cellsOf 99) 0 99 1 = true := by kernel_rfl
theorem byte_infos : (Tryz.prog.info? 5).map (fun i => (i.zero, i.size, i.bytes)) = some (some (.int .u8 0), 1, 1) := by kernel_rfl
/-- a strings.Builder in a block of its own: p its address cell, v its row, what it holds -/
structure BldAt (w : World) (b : Nat) (p v : Value) (l : List UInt8) : Prop where
  blk : w.heap[b]? = some (.cells #[p, v] 99 (0, 0))
  own : w.ownsRow 0 5 1 v l.length (bcs l)
  ne : v.ownBlock ≠ some b
set_option maxRecDepth 100000 in
theorem bld_used (b : Nat) (w : World) (h0 : w.cell? ⟨b, 0, none⟩ = some (.pointer (some ⟨b, 0, none⟩))) :
    Calls Tryz.prog 84 #[.pointer (some ⟨b, 0, none⟩)] w fun e w' => e = .returned (.tuple #[]) ∧ w = w' := by
  obtain ⟨j, hj, _⟩ := Option.map_eq_some_iff.1 bld_size
  go_enter Tryz.func84, Tryz.ntmps84
  go_wp2
  rw [Lib.run_neq_ptr_same w _ Tryz.underlying97 hj]
  go_wp2
  go_end0
  exact ⟨rfl, rfl⟩
set_option maxHeartbeats 1000000 in
set_option maxRecDepth 100000 in
theorem bld_fresh (b : Nat) (v : Value) (w : World) (hb : w.heap[b]? = some (.cells #[.pointer none, v] 99 (0, 0))) :
    Calls Tryz.prog 84 #[.pointer (some ⟨b, 0, none⟩)] w fun e w' => e = .returned (.tuple #[]) ∧ w.setCell ⟨b, 0, none⟩ (.pointer (some ⟨b, 0, none⟩)) = w' := by
  obtain ⟨j, hj, hjs⟩ := Option.map_eq_some_iff.1 bld_size
  have h0 : w.cell? ⟨b, 0, none⟩ = some (.pointer none) := by simp [World.cell?, hb]
  have hsh : w.shape? b = some (99, 2) := by simp [World.shape?, hb]
  have hfz : w.frozen? ⟨b, 0, none⟩ = false := by simp [World.frozen?, hb]
  go_enter Tryz.func84, Tryz.ntmps84
  go_wp2
  rw [Lib.run_to_unsafe w ⟨b, 0, none⟩ Tryz.underlying97 Tryz.underlying160 hj (by rw [hjs]; decide) hsh (Nat.zero_lt_succ 1)]
  simp only [Result.andThen]
  rw [Oper.upon_value]
  go_wp2
  rw [run_callFunc_extern Tryz.func105 (by kernel_rfl) (by kernel_rfl) (by kernel_rfl) (e := Extern.AbiNoEscape.same) (by kernel_rfl)]
  rw [Lib.run_noEscape]
  simp only [Result.andThen]
  rw [Oper.upon_value]
  go_wp2
  rw [Lib.run_from_unsafe w ⟨b, 0, none⟩ Tryz.underlying160 Tryz.underlying97 hj hsh bld_lies]
  simp only [Result.andThen]
  rw [Oper.upon_value]
  go_wp2
  go_end0
  exact ⟨rfl, rfl⟩
theorem bld_check (b : Nat) (p v : Value) (w : World) (l : List UInt8) (h : BldAt w b p v l) (hp : p = .pointer none ∨ p = .pointer (some ⟨b, 0, none⟩)) :
    Calls Tryz.prog 84 #[.pointer (some ⟨b, 0, none⟩)] w fun e w' => e = .returned (.tuple #[]) ∧ BldAt w' b (.pointer (some ⟨b, 0, none⟩)) v l ∧ Kept [b] w w' := by
  rcases hp with rfl | rfl
  · refine (bld_fresh b v w h.blk).mono ?_
    rintro e w' ⟨rfl, rfl⟩
    have k : Kept [b] w (w.setCell ⟨b, 0, none⟩ (.pointer (some ⟨b, 0, none⟩))) := (Kept.refl _ _).setCell (p := ⟨b, 0, none⟩) (.inl (by simp)) _
    refine ⟨rfl, ⟨?_, k.own h.own (fun x hx => ?_), h.ne⟩, k⟩
    · rw [heap_setCell_same _ _ _ _ _ _ h.blk]; simp
    · have := h.ne; rw [hx] at this; simpa using this
  · refine (bld_used b w (by simp [World.cell?, h.blk])).mono ?_
    rintro e w' ⟨rfl, rfl⟩
    exact ⟨rfl, h, Kept.refl _ _⟩
theorem strCells_bcs (s : ByteArray) : Lib.strCells s = bcs (bts s) := rfl
set_option maxHeartbeats 1000000 in
set_option maxRecDepth 100000 in
theorem bld_write (b : Nat) (p v : Value) (s : ByteArray) (w : World) (l : List UInt8) (h : BldAt w b p v l) (hp : p = .pointer none ∨ p = .pointer (some ⟨b, 0, none⟩)) (hlen : l.length + s.size ≤ 1000000000) :
    Calls Tryz.prog 51 #[.pointer (some ⟨b, 0, none⟩), .string s] w fun e w' => ∃ v', e = .returned (.tuple #[.int .i64 s.size, .nilIface]) ∧ BldAt w' b (.pointer (some ⟨b, 0, none⟩)) v' (l ++ bts s) ∧ Kept (b :: v.ownBlock.toList) w w' ∧ New w (b :: v.ownBlock.toList) (b :: v'.ownBlock.toList) := by
  obtain ⟨i0, hi, hz0, hz1, hz2⟩ := info_parts byte_infos
  have HC := Lib.hid (bld_check b p v w l h hp)
  have HH := Lib.hid h
  clear h hp
  go_enter Tryz.func51, Tryz.ntmps51
  go_wp2_with (go_at_call 84; (with_reducible refine HC.out.mono ?_))
  rintro e w1 ⟨rfl, h1, k1⟩
  have c0 : w1.cell? ⟨b, 0, none⟩ = some (.pointer (some ⟨b, 0, none⟩)) := by simp [World.cell?, h1.blk]
  have c1 : w1.cell? ⟨b, 1, none⟩ = some v := by simp [World.cell?, h1.blk]
  have H1 := Lib.hid h1
  clear h1
  go_wp2_with (at_builtin; refine wpList_append_str rfl _ _ 53 9 rfl 5 i0 Tryz.underlying53 Tryz.underlying9 hi hz0 hz1 hz2 _ _ _ rfl H1.out.own s rfl (by omega) ?_)
  intro A1 n1 c1' w2 hown' hgrow hpl
  have hneg : ∀ k, v.ownBlock = some k → k ≠ b := fun k hk e => H1.out.ne (by rw [hk, e])
  have k2 : Kept v.ownBlock.toList w1 w2 := (Kept.refl _ _).grown hgrow (fun k hk => .inl (by rw [hk]; simp))
  have hb2 : w2.heap[b]? = some (.cells #[.pointer (some ⟨b, 0, none⟩), v] 99 (0, 0)) := k2.heap H1.out.blk (fun hm => H1.out.ne (Option.mem_toList.1 hm))
  have d0 : w2.cell? ⟨b, 0, none⟩ = some (.pointer (some ⟨b, 0, none⟩)) := by simp [World.cell?, hb2]
  have d1 : w2.cell? ⟨b, 1, none⟩ = some v := by simp [World.cell?, hb2]
  have f1 : w2.frozen? ⟨b, 1, none⟩ = false := by simp [World.frozen?, hb2]
  have HB2 := Lib.hid hb2
  have HO2 := Lib.hid hown'
  have HG2 := Lib.hid hgrow
  have HPL := Lib.hid hpl
  clear hb2 hown' hgrow hpl
  go_wp2
  go_ret2
  have hne' : (Value.slice A1 n1 c1').ownBlock ≠ some b := fun e => by
    rcases HO2.out.2 with ⟨h, _⟩ | ⟨g, cap, cur, h, _, hg, _⟩
    · rw [h] at e; simp [Value.ownBlock] at e
    · rw [h] at e
      obtain rfl : g = b := by simpa [Value.ownBlock] using e
      rw [hg] at HB2
      have := HB2.out
      simp at this
  refine ⟨.slice A1 n1 c1', rfl, ⟨?_, ?_, hne'⟩, ?_, fun x hx => ?_⟩
  · rw [heap_setCell_same _ _ _ _ _ _ HB2.out]; simp
  · have k3 : Kept [b] w2 (w2.setCell ⟨b, 1, none⟩ (.slice A1 n1 c1')) := (Kept.refl _ _).setCell (p := ⟨b, 1, none⟩) (.inl (by simp)) _
    have := k3.own HO2.out (fun x hx => by have h := hne'; rw [hx] at h; simpa using h)
    rw [List.length_append, bts_length, bcs_append, ← strCells_bcs]
    exact this
  · exact ((k1.mono (fun x hx => by simp at hx; simp [hx])).trans (k2.mono (fun x hx => List.mem_cons_of_mem _ hx)) (New.refl _ _)).setCell (p := ⟨b, 1, none⟩) (.inl (by simp)) _
  · rcases List.mem_cons.1 hx with rfl | hx
    · exact .inl (by simp)
    · rcases HPL.out x (Option.mem_toList.1 hx) with h | h
      · exact .inl (List.mem_cons_of_mem _ (by rw [h]; simp))
      · exact .inr (by have := k1.size; omega)
theorem freeze_kept (w : World) (g n : Nat) : Kept [g] w (w.freeze ⟨g, 0, none⟩ n) := by
  unfold World.freeze
  split
  · exact Kept.refl _ _
  · exact ⟨rfl, rfl, rfl, by simp, fun k hk hn => by
      simp only [Array.getElem?_modify]
      rw [if_neg (by simpa using fun e => hn (by simp [e]))]⟩
set_option maxHeartbeats 1000000 in
set_option maxRecDepth 100000 in
theorem bld_string (b : Nat) (p v : Value) (w : World) (l : List UInt8) (h : BldAt w b p v l) (hlen : l.length ≤ 1000000000) (hnil : l = [] → v = .slice none 0 0) :
    Calls Tryz.prog 53 #[.pointer (some ⟨b, 0, none⟩)] w fun e w' => e = .returned (.string (sof l)) ∧ Kept v.ownBlock.toList w w' := by
  obtain ⟨hbk, hown, hne⟩ := h
  by_cases h0 : l = []
  · obtain rfl := hnil h0
    subst h0
    have hUS : ∀ W q, (Builtin.unsafeString_ #[139, 3] 9 #[.pointer q, .int .i64 0]).run Tryz.prog W = .ok (.string .empty) W := fun W q => Lib.run_unsafeString_none W _ _ _ q
    have c1 : w.drew.cell? ⟨b, 1, none⟩ = some (.slice none 0 0) := by
      have : w.drew.heap[b]? = some (.cells #[p, .slice none 0 0] 99 (0, 0)) := hbk
      simp [World.cell?, this]
    have hSD : (Builtin.unsafeSliceData_ #[53] 139 #[.slice none 0 0]).run Tryz.prog w.drew = .ok (.pointer none) w.drew := rfl
    clear hbk hown hne
    go_enter Tryz.func53, Tryz.ntmps53
    go_wp2
    go_region
    all_goals (go_wp2; go_ret; exact ⟨rfl, (Kept.refl _ _).drew⟩)
  · have hl0 : l.length ≠ 0 := by simpa using h0
    obtain ⟨g, cap, cur, rfl, _, hg, hnc, hcm, hcs, htake⟩ : ∃ g cap cur, v = .slice (some ⟨g, 0, none⟩) l.length cap ∧ 0 ≤ g ∧ w.heap[g]? = some (.cells cur 5 (0, 0)) ∧ l.length ≤ cap ∧ cap ≤ maxLen ∧ cur.size = cap * 1 ∧ cur.toList.take (l.length * 1) = bcs l := by
      rcases hown.2 with ⟨_, hz⟩ | ⟨g, cap, cur, hv, r⟩
      · exact absurd hz hl0
      · exact ⟨g, cap, cur, hv, r⟩
    have c1 : w.drew.cell? ⟨b, 1, none⟩ = some (.slice (some ⟨g, 0, none⟩) l.length cap) := by
      have : w.drew.heap[b]? = some (.cells #[p, .slice (some ⟨g, 0, none⟩) l.length cap] 99 (0, 0)) := hbk
      simp [World.cell?, this]
    have hSD : (Builtin.unsafeSliceData_ #[53] 139 #[.slice (some ⟨g, 0, none⟩) l.length cap]).run Tryz.prog w.drew = .ok (.pointer (some ⟨g, 0, none⟩)) w.drew := Lib.run_unsafeSliceData_row _ _ _ _ _ _ (by omega)
    have hUS : (Builtin.unsafeString_ #[139, 3] 9 #[.pointer (some ⟨g, 0, none⟩), .int .i64 l.length]).run Tryz.prog w.drew = .ok (.string (sof l)) (w.drew.freeze ⟨g, 0, none⟩ l.length) := by
      refine Lib.run_unsafeString_row w.drew 139 3 9 5 Tryz.underlying139 (by kernel_rfl) g cur.size (by have hg' : w.drew.heap[g]? = some (.cells cur 5 (0, 0)) := hg; simp [World.shape?, hg']) l h0 (by omega) (by omega) ?_
      intro j x hx
      exact hown.cells (g := g) rfl j (.int .u8 x.toNat) (by simp [bcs, hx])
    have hk : Kept [g] w (w.drew.freeze ⟨g, 0, none⟩ l.length) := ((Kept.refl [g] w).drew).trans (freeze_kept _ _ _) (New.refl _ _)
    have HK := Lib.hid hk
    clear hbk hown hne hk hg htake hcs
    go_enter Tryz.func53, Tryz.ntmps53
    go_wp2
    go_region
    all_goals (go_wp2; go_ret; exact ⟨rfl, HK.out⟩)
end Go.Proofs.YtnjkinljpekohaaGreatDoor.Jo
