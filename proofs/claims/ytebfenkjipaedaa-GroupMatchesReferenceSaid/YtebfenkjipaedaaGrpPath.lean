/- Package group: path, Path, inside, Valid. -/
import Derived.Test.YtebfenkjipaedaaGrpCol
namespace Go.Proofs.Ytebfenkjipaedaa.Gr
open Go.RowKit Gp
attribute [local go_sem] Oper.semAt_some
theorem arr_of_own {w : World} {base g cap n : Nat} {e : TypeId} {l : List Int} (h : w.ownsRow base e 1 (.slice (some ⟨g, 0, none⟩) n cap) n (ivs l)) (hl : l.length = n) : ArrN w g n (fun q => l.getD q 0) := fun q hq => by
  obtain ⟨b, o, hA, h1⟩ := ints_of_own h q (by omega)
  have hA' : g = b ∧ 0 = o := by simpa using hA
  obtain ⟨rfl, rfl⟩ := hA'
  rw [Nat.zero_add] at h1
  rcases h.2 with ⟨h', _⟩ | ⟨g', cap', cur, h', _, hg, _⟩
  · cases h'
  · injection h' with e1 e2 e3
    injection e1 with e1
    injection e1 with e1
    subst e1
    exact ⟨h1, frozen_of_row w g _ _ _ hg⟩
theorem ints_of_arr {w : World} {g n : Nat} {f : Nat → Int} {l : List Int} (h : ArrN w g n f) (hl : l.length = n) (hf : ∀ q, q < n → f q = l.getD q 0) : IntsAt w (some ⟨g, 0, none⟩) l := fun q hq => by
  have := (h q (by omega)).1
  rw [hf q (by omega)] at this
  exact ⟨g, 0, rfl, by rw [Nat.zero_add]; exact this⟩
theorem getD_rev {l : List Int} {q : Nat} (h : q < l.length) : l.reverse.getD q 0 = l.getD (l.length - 1 - q) 0 := by
  rw [getD_eq (by simpa using h), getD_eq (by omega), List.getElem_reverse]
theorem ms_nil (w : World) : MsAt w (.slice none 0 0) [] := ⟨none, 0, rfl, by simp, fun i hi => by simp at hi, fun _ => rfl⟩
/-- an index in memory: maps of valid groups -/
structure IdxAt (w : World) (m o : Value) (l : List Grp) : Prop where
  g : MapV w m (fun x => (find l x).map gv)
  o : MapV w o (fun x => (owner l x).map (Value.int .i64))
theorem IdxAt.then_ {w w' : World} {m o : Value} {l : List Grp} (h : IdxAt w m o l) (hb : Below w.heap.size w w') : IdxAt w' m o l := ⟨h.g.then_ hb, h.o.then_ hb⟩
/-- a slice with these integers, made by the call or nil -/
def MsQ (zs : List Int) (w : World) (e : Ending) (w' : World) : Prop := ∃ v, e = .returned v ∧ MsAt w' v zs ∧ Below w.heap.size w w'
theorem map_cell_ne {w : World} {m : Value} {f : Int → Option Value} {b : Nat} {t : TypeId} {v : Value} (hm : MapV w m f) (h : Boxed w b t v) : ∀ B, m = .map (some B) → B ≠ b := fun B e e2 => by
  rcases hm with ⟨h1, _⟩ | ⟨B', n, h1, h2⟩
  · rw [h1] at e; cases e
  · rw [h1] at e
    injection e with e
    injection e with e
    subst e
    obtain ⟨D, ⟨es, clock, hb, _⟩, _⟩ := h2
    rw [e2] at hb
    have h3 : w.heap[b]? = _ := h
    rw [h3] at hb
    cases hb
theorem owner_id {l : List Grp} {code id : Int} (hv : Valid l) (h : owner l code = some id) : (0 ≤ id ∧ id ≤ 999) ∧ okUp l 12 id = true := by
  obtain ⟨j, hj, _, e⟩ := owner_some h
  rw [← e]
  exact ⟨hv.pre.idr j hj, hv.chain j hj⟩
set_option maxRecDepth 100000 in
set_option maxHeartbeats 4000000 in
theorem path_any (m o : Value) (lg : List Grp) (code : Int) (w : World) (hv : Valid lg) (hS : Sized lg) (hc : I64 code) (hx : IdxAt w m o lg) : Calls Try.prog 39 #[iv m o, .int .i64 code] w (MsQ (path lg code) w) := by
  have HX := Lib.hid hx
  have HV := Lib.hid hv
  have HS := Lib.hid hS
  have hB0 : Below w.heap.size w (w.alloc (.cells #[m, o] 73)) := below_alloc (Below.refl _ _) _
  have hx0 := hx.then_ hB0
  have hlk := hx0.o.look_ok imap_u (int_zero _) hc
  rw [Option.isSome_map] at hlk
  have HX0 := Lib.hid hx0
  clear hv hS hx hx0
  unfold iv
  cases ho : owner lg code with
  | none =>
    have hp : path lg code = [] := by unfold path; rw [ho]
    rw [ho] at hlk
    rw [hp]
    have HB0 := Lib.hid hB0
    clear ho hp hB0
    simp only [Option.map_none, Option.getD_none, Option.isSome_none] at hlk
    go_enter Try.func39, Try.ntmps39
    go_wp2_with fail
    go_ret
    exact ⟨_, rfl, ms_nil _, HB0.out⟩
  | some id =>
    have hp : path lg code = (up lg 12 id).reverse := by unfold path; rw [ho]
    rw [ho] at hlk
    rw [hp]
    simp only [Option.map_some, Option.getD_some, Option.isSome_some] at hlk
    obtain ⟨hid, hok⟩ := owner_id HV.out ho
    have HB0 := Lib.hid hB0
    have HID := Lib.hid hid
    have HOK := Lib.hid hok
    clear ho hp hB0 hid hok
    go_enter Try.func39, Try.ntmps39
    go_wp2_with fail
    obtain ⟨W0, hW0⟩ : ∃ W0, (w.alloc (.cells #[m, o] 73)) = W0 := ⟨_, rfl⟩
    have hhx := HX0.out
    have hhb := HB0.out
    rw [hW0] at hhx hhb ⊢
    clear HX0 HB0 hlk hW0
    refine (outward_any m o id _).mono ?_
    rintro e w1 ⟨rfl, hw1⟩
    have z1 : Boxed w1 (W0.heap.size + 1) 3 (.int .i64 id) := by
      rw [← hw1]
      have := Boxed.new (W0.alloc (.cells #[m, o] 73)) 3 (.int .i64 id)
      rwa [World.size_alloc] at this
    have z2 : w1.cell? ⟨W0.heap.size, 0, none⟩ = some m := by rw [← hw1]; exact keep_alloc _ (new_cell rfl)
    have b1 : Below W0.heap.size W0 w1 := by rw [← hw1]; exact below_alloc (below_alloc (Below.refl _ _) _) _
    have HX1 := Lib.hid (hhx.then_ b1)
    have HB1 := Lib.hid (below_next hhb b1)
    have Z1 := Lib.hid z1
    have Z2 := Lib.hid z2
    have hWs : w.heap.size ≤ W0.heap.size := hhb.size
    clear hhx hhb z1 z2 b1 hw1
    go_wp2_with fail
    refine (collect_any (W0.heap.size + 1) W0.heap.size lg id m o _ w1 HS.out Z1.out (by have := HID.out; unfold I64; omega) Z2.out (by omega) HX1.out.g (fun _ => rfl) HOK.out).mono ?_
    rintro e w2 ⟨v, rfl, hr, hk⟩
    have hn1 : 1 ≤ (up lg 12 id).length := by rw [up_succ (by have := HID.out; omega)]; simp
    obtain ⟨g, cp, hvv⟩ : ∃ g cp, v = .slice (some ⟨g, 0, none⟩) (up lg 12 id).length cp ∧ (up lg 12 id).length ≤ cp := by
      rcases hr.2 with ⟨_, h0⟩ | ⟨g, cap, cur, h', _, _, h3, _⟩
      · omega
      · exact ⟨g, cap, h', h3⟩
    obtain ⟨rfl, hcp⟩ := hvv
    have hA := arr_of_own hr rfl
    have hg := (hr.lt g rfl).1
    have hn2 := up_len lg 12 id
    have HA := Lib.hid hA
    have HK := Lib.hid hk
    obtain ⟨us, hus⟩ : ∃ us, up lg 12 id = us := ⟨_, rfl⟩
    rw [hus] at HA hn1 hn2 hcp ⊢
    have HUS := Lib.hid hus
    clear hA hk hr hus
    go_wp2_with fail
    refine (rev_any g us.length cp _ w2 HA.out hn1 (by omega)).mono ?_
    rintro e w3 ⟨rfl, hA3, hk3⟩
    have HA3 := Lib.hid hA3
    have HK3 := Lib.hid hk3
    clear hA3 hk3
    go_wp2_with fail
    go_ret
    rw [HUS.out]
    refine ⟨_, rfl, ⟨some ⟨g, 0, none⟩, cp, (by rw [List.length_reverse]; rfl), by rw [List.length_reverse]; exact hcp, ints_of_arr HA3.out (List.length_reverse ..) (fun q hq => (getD_rev hq).symm), fun e => (by cases e)⟩, ?_⟩
    have hb2 := HK.out.below_next HB1.out HB1.out.size (by simp; omega)
    have h1 := HB1.out.size
    exact HK3.out.below_next hb2 hb2.size (by simp; omega)
theorem path_len (l : List Grp) (code : Int) : (path l code).length ≤ 12 := by
  unfold path
  split
  · simp
  · rw [List.length_reverse]; exact up_len _ _ _
/-- a test whether a code is in a group -/
structure InsAt (w : World) (F : Value) (l : List Grp) (id : Int) (b6 b3 : Nat) (m o : Value) : Prop where
  f : F = .func (.func 59) #[] #[.pointer (some ⟨b6, 0, none⟩), .pointer (some ⟨b3, 0, none⟩)]
  c0 : w.cell? ⟨b6, 0, none⟩ = some m
  c1 : w.cell? ⟨b6, 1, none⟩ = some o
  c3 : w.cell? ⟨b3, 0, none⟩ = some (.int .i64 id)
  x : IdxAt w m o l
theorem InsAt.then_ {w w' : World} {F : Value} {l : List Grp} {id : Int} {b6 b3 : Nat} {m o : Value} (h : InsAt w F l id b6 b3 m o) (hb : Below w.heap.size w w') : InsAt w' F l id b6 b3 m o := ⟨h.f, cell_then hb h.c0, cell_then hb h.c1, cell_then hb h.c3, h.x.then_ hb⟩
/-- whether a code is in a group -/
def insB (l : List Grp) (id code : Int) : Bool := (path l code).contains id
set_option maxRecDepth 100000 in
set_option maxHeartbeats 4000000 in
theorem is_any (F : Value) (l : List Grp) (id : Int) (b6 b3 : Nat) (m o : Value) (code : Int) (w : World) (hv : Valid l) (hS : Sized l) (hc : I64 code) (h : InsAt w F l id b6 b3 m o) :
    Calls Try.prog 59 #[.int .i64 code, .pointer (some ⟨b6, 0, none⟩), .pointer (some ⟨b3, 0, none⟩)] w fun e w' => e = .returned (.bool (insB l id code)) ∧ Below w.heap.size w w' := by
  have HP := Lib.hid (fun W (hW : Below w.heap.size w W) => path_any m o l code W hv hS hc (h.x.then_ hW))
  have H := Lib.hid h
  have c0 := h.c0
  have c1 := h.c1
  have c3 := h.c3
  have X0 := Lib.hid (show w.drew.cell? ⟨b6, 0, none⟩ = some m ∧ w.drew.cell? ⟨b6, 1, none⟩ = some o ∧ w.drew.cell? ⟨b3, 0, none⟩ = some (.int .i64 id) from ⟨h.c0, h.c1, h.c3⟩)
  clear h hv hS hc
  go_enter Try.func59, Try.ntmps59
  go_wp2_with fail
  go_region_held_law (fun w' => w'.cell? ⟨b6, 0, none⟩ = some m ∧ w'.cell? ⟨b6, 1, none⟩ = some o ∧ w'.cell? ⟨b3, 0, none⟩ = some (.int .i64 id)) (first | exact X0.out | exact X1.out) (first | (go_at_call 39; unfold iv at HP; (with_reducible refine (HP.out _ (Below.drew (Below.refl _ _))).mono ?_); rintro e w1 ⟨v, rfl, hm1, hb1⟩; have M1 := Lib.hid hm1; have B1 := Lib.hid (below_next (Below.drew (Below.refl w.heap.size w)) hb1); have X1 := Lib.hid (show w1.cell? ⟨b6, 0, none⟩ = some m ∧ w1.cell? ⟨b6, 1, none⟩ = some o ∧ w1.cell? ⟨b3, 0, none⟩ = some (.int .i64 id) from ⟨cell_then hb1 X0.out.1, cell_then hb1 X0.out.2.1, cell_then hb1 X0.out.2.2⟩); obtain ⟨Av, cv, rfl, hcv, hiv, _⟩ := hm1) | (go_at_call 60; (with_reducible refine (contains_any _ _ _ _ _ (by have := path_len l code; omega) hiv).mono ?_); rintro e w2 ⟨rfl, rfl⟩))
  go_wp2_with fail
  go_ret
  exact ⟨ret_bool (by unfold insB; rw [List.contains_eq_mem]), B1.out⟩
theorem MapV.shape {w : World} {v : Value} {f : Int → Option Value} (h : MapV w v f) : ∃ p, v = .map p := by
  rcases h with ⟨h, _⟩ | ⟨B, n, h, _⟩
  · exact ⟨_, h⟩
  · exact ⟨_, h⟩
/-- read of valid groups -/
theorem read_yes (A : Option Addr) (c : Nat) (l : List Grp) (w : World) (hG : GrpsAt w A l) (hS : Sized l) (hv : Valid l) :
    Calls Try.prog 37 #[.slice A l.length c] w fun e w' => ∃ m o, e = .returned (.tuple #[iv (.map m) (.map o), .bool true]) ∧ IdxAt w' (.map m) (.map o) l ∧ Below w.heap.size w w' := (read_any A c l w hG hS).mono (by
  rintro e w' ⟨m, o, b, f, f', rfl, hb, hbv, h1, h2, h3, _⟩
  have e : b = true := hbv.2 hv
  subst e
  obtain ⟨h4, h5⟩ := h3 rfl
  obtain ⟨m, rfl⟩ := h1.shape
  obtain ⟨o, rfl⟩ := h2.shape
  exact ⟨m, o, rfl, ⟨h1.congr h4, h2.congr h5⟩, hb⟩)
/-- read of others -/
theorem read_no (A : Option Addr) (c : Nat) (l : List Grp) (w : World) (hG : GrpsAt w A l) (hS : Sized l) (hv : ¬ Valid l) :
    Calls Try.prog 37 #[.slice A l.length c] w fun e w' => ∃ m o f, e = .returned (.tuple #[iv (.map m) (.map o), .bool false]) ∧ MapV w' (.map m) f ∧ Below w.heap.size w w' := (read_any A c l w hG hS).mono (by
  rintro e w' ⟨m, o, b, f, f', rfl, hb, hbv, h1, h2, _, _⟩
  obtain ⟨m, rfl⟩ := h1.shape
  obtain ⟨o, rfl⟩ := h2.shape
  cases b with
  | true => exact absurd (hbv.1 rfl) hv
  | false => exact ⟨m, o, f, rfl, h1, hb⟩)
set_option maxRecDepth 100000 in
set_option maxHeartbeats 4000000 in
theorem valid_any (A : Option Addr) (c : Nat) (l : List Grp) (w : World) (b : Bool) (hG : GrpsAt w A l) (hS : Sized l) (hb : b = true ↔ Valid l) :
    Calls Try.prog 15 #[.slice A l.length c] w fun e w' => e = .returned (.bool b) ∧ Below w.heap.size w w' := by
  have HR := Lib.hid (read_any A c l w hG hS)
  have HB := Lib.hid hb
  clear hG hS hb
  go_enter Try.func15, Try.ntmps15
  go_wp2_with fail
  refine HR.out.mono ?_
  rintro e w1 ⟨m, o, b', f, f', rfl, hb1, hv, h1, h2, _, _⟩
  obtain ⟨m, rfl⟩ := h1.shape
  obtain ⟨o, rfl⟩ := h2.shape
  have e : b' = b := by rw [Bool.eq_iff_iff, hv, HB.out]
  subst e
  have B1 := Lib.hid hb1
  unfold iv
  clear hv hb1
  go_wp2_with fail
  go_ret
  exact ⟨rfl, below_alloc B1.out _⟩
set_option maxRecDepth 100000 in
set_option maxHeartbeats 4000000 in
theorem gpath_yes (A : Option Addr) (c : Nat) (l : List Grp) (code : Int) (w : World) (hG : GrpsAt w A l) (hS : Sized l) (hv : Valid l) (hc : I64 code) :
    Calls Try.prog 17 #[.slice A l.length c, .int .i64 code] w fun e w' => ∃ v, e = .returned (.tuple #[v, .int .i64 0]) ∧ MsAt w' v (path l code) ∧ Below w.heap.size w w' := by
  have HR := Lib.hid (read_yes A c l w hG hS hv)
  have HP := Lib.hid (fun m o W (hx : IdxAt W m o l) => path_any m o l code W hv hS hc hx)
  clear hG hS hv hc
  go_enter Try.func17, Try.ntmps17
  go_wp2_with fail
  refine HR.out.mono ?_
  rintro e w1 ⟨m, o, rfl, hx, hb1⟩
  have hx1 := Lib.hid (hx.then_ (below_alloc (Below.refl _ _) (.cells #[.map m, .map o] 73)))
  have B1 := Lib.hid (below_alloc hb1 (.cells #[.map m, .map o] 73))
  unfold iv at HP ⊢
  clear hx hb1
  go_wp2_with fail
  refine (HP.out (.map m) (.map o) _ hx1.out).mono ?_
  rintro e w2 ⟨v, rfl, hm, hb2⟩
  have M := Lib.hid hm
  have B2 := Lib.hid (below_next B1.out hb2)
  clear hm hb2
  go_wp2_with fail
  (first | refine bodyPost_ret (results_tmp2 rfl _ _ _) rfl ?_ | refine bodyPost_end (results_tmp2 rfl _ _ _) rfl ?_)
  exact ⟨_, rfl, M.out, B2.out⟩
set_option maxRecDepth 100000 in
set_option maxHeartbeats 4000000 in
theorem gpath_no (A : Option Addr) (c : Nat) (l : List Grp) (code : Int) (w : World) (hG : GrpsAt w A l) (hS : Sized l) (hv : ¬ Valid l) :
    Calls Try.prog 17 #[.slice A l.length c, .int .i64 code] w fun e w' => e = .returned (.tuple #[.slice none 0 0, .int .i64 130]) ∧ Below w.heap.size w w' := by
  have HR := Lib.hid (read_no A c l w hG hS hv)
  clear hG hS hv
  go_enter Try.func17, Try.ntmps17
  go_wp2_with fail
  refine HR.out.mono ?_
  rintro e w1 ⟨m, o, f, rfl, _, hb1⟩
  have B1 := Lib.hid (below_alloc hb1 (.cells #[.map m, .map o] 73))
  unfold iv
  clear hb1
  go_wp2_with fail
  (first | refine bodyPost_ret (results_tmp2 rfl _ _ _) rfl ?_ | refine bodyPost_end (results_tmp2 rfl _ _ _) rfl ?_)
  exact ⟨rfl, B1.out⟩
set_option maxRecDepth 100000 in
set_option maxHeartbeats 4000000 in
theorem inside_yes (A : Option Addr) (c : Nat) (l : List Grp) (id : Int) (w : World) (hG : GrpsAt w A l) (hS : Sized l) (hv : Valid l) (hi : I64 id) (hk : (find l id).isSome = true) :
    Calls Try.prog 40 #[.slice A l.length c, .int .i64 id] w fun e w' => ∃ b6 b3 m o, e = .returned (.tuple #[.func (.func 59) #[] #[.pointer (some ⟨b6, 0, none⟩), .pointer (some ⟨b3, 0, none⟩)], .bool true]) ∧
      InsAt w' (.func (.func 59) #[] #[.pointer (some ⟨b6, 0, none⟩), .pointer (some ⟨b3, 0, none⟩)]) l id b6 b3 (.map m) (.map o) ∧ Below w.heap.size w w' := by
  have HG := Lib.hid hG
  have HR := Lib.hid (fun W (hW : Below w.heap.size w W) => read_yes A c l W (hG.then_ hW) hS hv)
  have HI := Lib.hid hi
  have HK := Lib.hid hk
  have HB0 := Lib.hid (below_alloc (Below.refl w.heap.size w) (.cells #[.int .i64 id] 3))
  have c3 : (w.alloc (.cells #[.int .i64 id] 3)).cell? ⟨w.heap.size, 0, none⟩ = some (.int .i64 id) := new_cell rfl
  clear hG hS hv hi hk
  go_enter Try.func40, Try.ntmps40
  go_wp2_with fail
  refine (HR.out _ HB0.out).mono ?_
  rintro e w1 ⟨m, o, rfl, hx, hb1⟩
  have c3 := cell_then hb1 c3
  have B1 := Lib.hid (below_next HB0.out hb1)
  obtain ⟨W2, hW2⟩ : ∃ W2, w1.alloc (.cells #[.map m, .map o] 73) = W2 := ⟨_, rfl⟩
  have hb2 : Below w1.heap.size w1 W2 := by rw [← hW2]; exact below_alloc (Below.refl _ _) _
  have hx2 := hx.then_ hb2
  have hlk := hx2.g.look_ok gmap_u (grp_zero _) HI.out
  rw [gv_of, Option.isSome_map, HK.out] at hlk
  obtain ⟨ya, yn, yc, hyv⟩ := found_slice HG.out id
  obtain ⟨y, hy⟩ : ∃ y, (find l id).getD g0 = y := ⟨_, rfl⟩
  rw [hy] at hlk hyv
  unfold gv at hlk
  rw [hyv] at hlk
  have c3' := cell_then hb2 c3
  have hl3 := lt_size c3
  have B2 := Lib.hid (below_next B1.out hb2)
  have X2 := Lib.hid hx2
  have d0 : W2.cell? ⟨w1.heap.size, 0, none⟩ = some (.map m) := by rw [← hW2]; exact new_cell rfl
  have d1 : W2.cell? ⟨w1.heap.size, 1, none⟩ = some (.map o) := by rw [← hW2]; exact new_cell rfl
  have D0 := Lib.hid d0
  have D1 := Lib.hid d1
  have C3 := Lib.hid c3'
  unfold iv
  rw [← hW2] at hlk
  have HW2 := Lib.hid hW2
  clear hx hb1 hx2 hb2 hyv hy hW2 d0 d1 c3'
  go_wp2_with fail
  (first | refine bodyPost_ret (results_tmp2 rfl _ _ _) rfl ?_ | refine bodyPost_end (results_tmp2 rfl _ _ _) rfl ?_)
  rw [HW2.out]
  exact ⟨_, _, m, o, rfl, InsAt.then_ ⟨rfl, D0.out, D1.out, C3.out, X2.out⟩ (below_alloc (Below.refl _ _) _), below_alloc B2.out _⟩
set_option maxRecDepth 100000 in
set_option maxHeartbeats 4000000 in
theorem inside_bad (A : Option Addr) (c : Nat) (l : List Grp) (id : Int) (w : World) (hG : GrpsAt w A l) (hS : Sized l) (hv : ¬ Valid l) (hi : I64 id) :
    Calls Try.prog 40 #[.slice A l.length c, .int .i64 id] w fun e w' => e = .returned (.tuple #[.nilFunc, .bool false]) ∧ Below w.heap.size w w' := by
  have HR := Lib.hid (fun W (hW : Below w.heap.size w W) => read_any A c l W (hG.then_ hW) hS)
  have HI := Lib.hid hi
  have HV := Lib.hid hv
  have HG := Lib.hid hG
  have HB0 := Lib.hid (below_alloc (Below.refl w.heap.size w) (.cells #[.int .i64 id] 3))
  have c3 : (w.alloc (.cells #[.int .i64 id] 3)).cell? ⟨w.heap.size, 0, none⟩ = some (.int .i64 id) := new_cell rfl
  clear hG hS hv hi
  go_enter Try.func40, Try.ntmps40
  go_wp2_with fail
  refine (HR.out _ HB0.out).mono ?_
  rintro e w1 ⟨m, o, b, f, f', rfl, hb1, hbv, h1, h2, _, hff⟩
  obtain ⟨m, rfl⟩ := h1.shape
  obtain ⟨o, rfl⟩ := h2.shape
  cases b with
  | true => exact absurd (hbv.1 rfl) HV.out
  | false =>
  have c3 := cell_then hb1 c3
  have B1 := Lib.hid (below_next HB0.out hb1)
  obtain ⟨W2, hW2⟩ : ∃ W2, w1.alloc (.cells #[.map m, .map o] 73) = W2 := ⟨_, rfl⟩
  have hb2 : Below w1.heap.size w1 W2 := by rw [← hW2]; exact below_alloc (Below.refl _ _) _
  have hx2 := h1.then_ hb2
  have hlk := hx2.look_ok gmap_u (grp_zero _) HI.out
  rw [← hW2] at hlk
  have hl3 := lt_size c3
  obtain ⟨g, A', n', c', hg1, hg2⟩ : ∃ g A' n' c', (f id).getD (gv g0) = gv g ∧ g.v = .slice A' n' c' := by
    rcases hff with h | h
    · exact ⟨g0, _, _, _, by rw [h]; rfl, rfl⟩
    · obtain ⟨A', n', c', h'⟩ := found_slice HG.out id
      exact ⟨_, _, _, _, by rw [h, gv_of], h'⟩
  rw [hg1, gv, hg2] at hlk
  obtain ⟨kn, hkn⟩ : ∃ kn, (f id).isSome = kn := ⟨_, rfl⟩
  rw [hkn] at hlk
  unfold iv
  clear h1 h2 hb1 hbv hb2 hx2 hff hg1 hg2 hkn hW2
  go_wp2_with fail
  (first | refine bodyPost_ret (results_tmp2 rfl _ _ _) rfl ?_ | refine bodyPost_end (results_tmp2 rfl _ _ _) rfl ?_)
  exact ⟨rfl, below_alloc (below_alloc B1.out _) _⟩
set_option maxRecDepth 100000 in
set_option maxHeartbeats 4000000 in
theorem inside_none (A : Option Addr) (c : Nat) (l : List Grp) (id : Int) (w : World) (hG : GrpsAt w A l) (hS : Sized l) (hv : Valid l) (hi : I64 id) (hk : (find l id).isSome = false) :
    Calls Try.prog 40 #[.slice A l.length c, .int .i64 id] w fun e w' => e = .returned (.tuple #[.nilFunc, .bool false]) ∧ Below w.heap.size w w' := by
  have HR := Lib.hid (fun W (hW : Below w.heap.size w W) => read_yes A c l W (hG.then_ hW) hS hv)
  have HI := Lib.hid hi
  have HK := Lib.hid hk
  have HB0 := Lib.hid (below_alloc (Below.refl w.heap.size w) (.cells #[.int .i64 id] 3))
  have c3 : (w.alloc (.cells #[.int .i64 id] 3)).cell? ⟨w.heap.size, 0, none⟩ = some (.int .i64 id) := new_cell rfl
  clear hG hS hv hi hk
  go_enter Try.func40, Try.ntmps40
  go_wp2_with fail
  refine (HR.out _ HB0.out).mono ?_
  rintro e w1 ⟨m, o, rfl, hx, hb1⟩
  have c3 := cell_then hb1 c3
  have B1 := Lib.hid (below_next HB0.out hb1)
  obtain ⟨W2, hW2⟩ : ∃ W2, w1.alloc (.cells #[.map m, .map o] 73) = W2 := ⟨_, rfl⟩
  have hb2 : Below w1.heap.size w1 W2 := by rw [← hW2]; exact below_alloc (Below.refl _ _) _
  have hlk := (hx.then_ hb2).g.look_ok gmap_u (grp_zero _) HI.out
  rw [gv_of, Option.isSome_map, HK.out, show find l id = none by simpa using HK.out] at hlk
  have hl3 := lt_size c3
  rw [← hW2] at hlk
  unfold iv
  simp only [Option.getD_none, gv, g0] at hlk
  clear hx hb1 hb2 hW2
  go_wp2_with fail
  (first | refine bodyPost_ret (results_tmp2 rfl _ _ _) rfl ?_ | refine bodyPost_end (results_tmp2 rfl _ _ _) rfl ?_)
  exact ⟨rfl, below_alloc (below_alloc B1.out _) _⟩
end Go.Proofs.Ytebfenkjipaedaa.Gr
