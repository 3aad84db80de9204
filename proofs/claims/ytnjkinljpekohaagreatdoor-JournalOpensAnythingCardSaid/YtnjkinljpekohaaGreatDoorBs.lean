/- The library's slices.Values, AppendSeq and Collect at integers: a slice of the call's own with the same elements. 'append(v, l...)' of lists of strings, as steps of a walk; the list appended may be empty. No program stands here. -/
import Derived.Test.YtnjkinljpekohaaGreatDoorProg
import Derived.Test.YtnjkinljpekohaaGreatDoorBb
import Derived.Test.YtnjkinljpekohaaGreatDoorBa
import Derived.WalkKit
import Derived.KernelRfl
import Derived.WalkSpells
import Derived.Carry
import Derived.Lib.Hide
import Derived.RangeFuncBound
import Derived.Shelf.Abstract
import Derived.Shelf.RegionOpen
import Derived.OwnWalkIn
import Derived.TacticsInMore
import Derived.LoopNIn
import Derived.LoopIn
import Derived.Test.YtnjkinljpekohaaGreatDoorBe
import Derived.Laws.AppendOwnNone
namespace Go.Proofs.YtnjkinljpekohaaGreatDoor
open Go.RowKit
attribute [local go_sem] Oper.semAt_some
theorem int_info1 : (Tryz.prog.info? 3).map (fun i => (i.zero, i.size, i.bytes)) = some (some (.int .i64 0), 1, 8) := by kernel_rfl
theorem values_any (A : Option Addr) (n c : Nat) (w : World) : Calls Tryz.prog 43 #[.slice A n c] w fun e w' => e = .returned (.func (.func 81) #[] #[.pointer (some ⟨w.heap.size, 0, none⟩)]) ∧ w.alloc (.cells #[.slice A n c] 34) = w' := by
  go_enter Tryz.func43, Tryz.ntmps43
  go_wp2
  go_ret
  exact ⟨rfl, rfl⟩
set_option maxRecDepth 100000 in
set_option maxHeartbeats 1000000 in
theorem vals1_in (l Bs : Nat) (A : Option Addr) (cap : Nat) (zs : List Int) (J : Nat → World → Prop) (hn : (zs.length : Int) ≤ 4611686018427387904)
    (hJ : ∀ k W, J k W → IntsAt W A zs ∧ W.cell? ⟨Bs, 0, none⟩ = some (.slice A zs.length cap))
    (hY : ∀ k W, k < zs.length → J k W → YieldAt Fence.wide 0 Tryz.prog l #[.int .i64 (zs.getD k 0)] W (fun e W' => e = .returned (.bool true) ∧ J (k + 1) W'))
    (W : World) (h0 : J 0 W) :
    CallsIn Fence.wide 0 Tryz.prog 81 #[.func (.yield l) #[] #[], .pointer (some ⟨Bs, 0, none⟩)] W fun e W' => (∃ v, e = .returned v) ∧ J zs.length W' := by
  have hb := (hJ 0 W h0).2
  refine callsIn_of_wp Tryz.func81 rfl trivial ?_ rfl
  simp only [Tryz.ntmps81, List.size_toArray, List.length_cons, List.length_nil, Nat.reduceAdd, Nat.reduceSub, Array.replicate_succ, Array.replicate_zero, List.push_toArray, List.append_toArray, List.nil_append, List.cons_append]
  gi_wp2
  gi_loopw [7] (fun i wr => ∃ k : Nat, k ≤ zs.length ∧ i = .int .i64 (k : Int) ∧ J k wr) (fun i _ => zs.length - (intOf i).toNat)
  case atStart => exact ⟨0, Nat.zero_le _, rfl, h0⟩
  case round =>
    obtain ⟨k, hk, rfl, hJk⟩ := hrel
    by_cases hlt : k < zs.length
    · obtain ⟨b, o, rfl, hc⟩ := (hJ k wr hJk).1 k hlt
      obtain ⟨z, hz⟩ : ∃ z, zs.getD k 0 = z := ⟨_, rfl⟩
      obtain ⟨fn, tmps, assign, body, hy1, hR⟩ := hY k wr hlt hJk
      rw [hz] at hc hy1
      clear hz hJ hY
      have i1 : (0 : Int) ≤ (k : Int) := by omega
      have i2 : (k : Int) < (zs.length : Int) := by omega
      gi_wp2
      refine ⟨rfl, hR.mono ?_⟩
      rintro e W3 ⟨rfl, hJ3⟩
      gi_wp2
      exact ⟨⟨k + 1, by omega, by go_num, hJ3⟩, by simp [intOf]; omega⟩
    · obtain rfl : k = zs.length := by omega
      clear hJ hY
      gi_wp2
      go_end0
      exact ⟨⟨_, rfl⟩, hJk⟩
/-- a slice of the call's own with these integers -/
def OwnQ (zs : List Int) (w : World) (e : Ending) (w' : World) : Prop := ∃ v, e = .returned v ∧ w'.ownsRow w.heap.size 3 1 v zs.length (ivs zs) ∧ Below w.heap.size w w'
def ApJ (w : World) (zs : List Int) (l D : Nat) (rec : LoopState → Option Code → Obj) (k : Nat) (W : World) : Prop :=
  ∃ v, Boxed W w.heap.size 34 v ∧ W.ownsRow w.heap.size 3 1 v k (ivs (zs.take k)) ∧ Below w.heap.size w W ∧ W.heap[l]? = some (rec .ready none) ∧ W.heap[D]? = some (.deferred (some []))
theorem takeInt {l : List Int} {k : Nat} (h : k < l.length) : l.take (k + 1) = l.take k ++ [l.getD k 0] := by
  rw [List.take_succ_eq_append_getElem h, List.getD, List.getElem?_eq_getElem h]; rfl
theorem ap_close {w Wb W3 : World} {zs : List Int} {k D : Nat} {rec : LoopState → Option Code → Obj} (hcl : ∀ st pe, (rec st pe).isCells = false) {v' : Value} {a : Act}
    (hv2 : Boxed W3 w.heap.size 34 v') (hr2 : W3.ownsRow w.heap.size 3 1 v' (k + 1) (ivs (zs.take k) ++ [.int .i64 (zs.getD k 0)])) (hk2 : KeepsOthers Wb W3) (hB3 : Below w.heap.size w W3)
    (hlb : Wb.heap[D + 1]? = some (rec .busy none)) (hDb : Wb.heap[D]? = some (.deferred (some []))) (hD : w.heap.size + 1 ≤ D) (hlt : k < zs.length) :
    roundEnd (D + 1) rec (fun e W' => e = .returned (.bool true) ∧ ApJ w zs (D + 1) D rec (k + 1) W') .normal a W3 := by
  have hl3 := hk2.same _ _ hlb (hcl _ _)
  have hD3 := hk2.same _ _ hDb rfl
  have hv4 := boxed_putObj hv2 (show w.heap.size ≠ D + 1 by omega) (rec .ready none)
  have hr4 := ownsRow_putObj hr2 (rec .ready none) hl3 (hcl _ _)
  have hB4 := below_putObj hB3 (show w.heap.size ≤ D + 1 by omega) (rec .ready none)
  have hl4 := heap_put hl3 (rec .ready none)
  have hD4 := heap_putObj hD3 (show D ≠ D + 1 by omega) (rec .ready none)
  refine ⟨hl3, rfl, v', hv4, ?_, hB4, hl4, hD4⟩
  rw [takeInt hlt, ivs_append]; exact hr4
set_option maxRecDepth 100000 in
set_option maxHeartbeats 1000000 in
theorem append_seq (Bs : Nat) (A : Option Addr) (cap : Nat) (zs : List Int) (w : World) (hA : IntsAt w A zs) (hb : w.cell? ⟨Bs, 0, none⟩ = some (.slice A zs.length cap)) (hn : zs.length ≤ 17592186044416) :
    Calls Tryz.prog 102 #[.slice none 0 0, .func (.func 81) #[] #[.pointer (some ⟨Bs, 0, none⟩)]] w (OwnQ zs w) := by
  obtain ⟨i0, hi, hz0, hz1, hz2⟩ := info_parts int_info1
  refine calls_of_wp_marks Tryz.func102 rfl ?_
  simp only [Tryz.ntmps102, List.size_toArray, List.length_cons, List.length_nil, Nat.reduceAdd, Nat.reduceSub, Array.replicate_succ, Array.replicate_zero, List.push_toArray, List.append_toArray, List.nil_append, List.cons_append]
  have HA := Lib.hid hA
  have Hb := Lib.hid hb
  clear hA hb
  go_wp2_with fail
  obtain ⟨W0, hW0⟩ : ∃ W0, w.alloc (.cells #[.slice none 0 0] 34) = W0 := ⟨_, rfl⟩
  have hs0 : W0.heap.size ≤ w.heap.size + 1 ∧ w.heap.size + 1 ≤ W0.heap.size := by rw [← hW0]; simp
  have bO : Boxed W0 w.heap.size 34 (.slice none 0 0) := by rw [← hW0]; exact Boxed.new w _ _
  have hB0 : Below w.heap.size w W0 := by rw [← hW0]; exact (Below.refl _ w).alloc (Nat.le_refl _) _
  rw [hW0]
  clear hW0
  refine range_outer (n := 0) (gf := 81) (lb := #[.pointer (some ⟨Bs, 0, none⟩)]) rfl (enters_of Tryz.func81 (by kernel_rfl) rfl) ?_
  intro fn rec hrec
  have hcl := rec_cells hrec
  refine (vals1_in _ Bs A cap zs (ApJ w zs (W0.heap.size + 1) W0.heap.size rec) (by omega) ?reads ?round _ ?start).mono ?done
  case reads =>
    rintro k W ⟨v, _, _, hB, _, _⟩
    exact ⟨HA.out.then_ hB, cell_then hB Hb.out⟩
  case start =>
    refine ⟨_, (bO.alloc _).alloc _, World.ownsRow_nil _ _ _ _, (hB0.alloc (by omega) _).alloc (by simp; omega) _, ?_, ?_⟩
    · have := World.alloc_heap_new (W0.alloc (.deferred (some []))) (rec .ready none)
      rwa [World.size_alloc] at this
    · exact heap_alloc (World.alloc_heap_new W0 _) _
  case round =>
    rintro k W hlt ⟨v, hv, hrow, hB, hl, hD⟩
    obtain ⟨z, hz⟩ : ∃ z, zs.getD k 0 = z := ⟨_, rfl⟩
    rw [hz]
    have HZ := Lib.hid hz
    clear hz
    refine yield_round hrec trivial hl rfl ?_
    clear hrec
    gi_wp2
    refine ⟨hl, ?_⟩
    obtain ⟨Wb, hWb⟩ : ∃ Wb, W.putObj (W0.heap.size + 1) (rec .busy none) = Wb := ⟨_, rfl⟩
    have hvb : Boxed Wb w.heap.size 34 v := by rw [← hWb]; exact boxed_putObj hv (by omega) _
    have hrb : Wb.ownsRow w.heap.size 3 1 v k (ivs (zs.take k)) := by rw [← hWb]; exact ownsRow_putObj hrow _ hl (hcl _ _)
    have hBb : Below w.heap.size w Wb := by rw [← hWb]; exact below_putObj hB (by omega) _
    have hlb := heap_put hl (rec .busy none)
    have hDb := heap_putObj hD (show W0.heap.size ≠ W0.heap.size + 1 by omega) (rec .busy none)
    rw [hWb] at hlb hDb ⊢
    clear hWb hv hrow hB hl hD
    have hcb := hvb.cell
    have hsB := hBb.size
    gi_wp2_with (gi_at_builtin; refine wpListIn_append_own _ rfl _ _ 34 rfl w.heap.size 3 i0 (.int .i64 0) 1 8 Tryz.underlying34 hi hz0 hz1 hz2 rfl (by decide) _ _ _ rfl (hrb.alloc _) ⟨Wb.heap.size, 0, none⟩ 1 1 [.int .i64 z] rfl rfl (cell_one_new _ _ _) (by simp [Value.oneCell']) (by unfold maxLen; omega) (by omega) (by simp; omega) ?_; intro v' w1 hown1 hgr _; obtain ⟨g', cap', rfl⟩ := ownsRow_succ hown1; obtain ⟨hv1, hv2, hr2, hk2, hb2⟩ := hvb.appended (by decide) hrb hsB (Nat.le_refl _) hown1 hgr; clear hown1 hgr; have hc1 := hv1.cell; have hf1 := hv1.frozen)
    exact ap_close hcl hv2 (by rw [HZ.out]; exact hr2) hk2 (hBb.trans hb2) hlb hDb (by omega) hlt
  case done =>
    rintro e W' ⟨hv, v, hbox, hrow, hB, hl, hD⟩
    refine ⟨hv, .inl ⟨hl, ?_⟩⟩
    have hbox4 := boxed_putObj hbox (show w.heap.size ≠ W0.heap.size + 1 by omega) (rec .exhausted none)
    have hrow4 := ownsRow_putObj hrow (rec .exhausted none) hl (hcl _ _)
    have hB4 := below_putObj hB (show w.heap.size ≤ W0.heap.size + 1 by omega) (rec .exhausted none)
    have hD4 := heap_putObj hD (show W0.heap.size ≠ W0.heap.size + 1 by omega) (rec .exhausted none)
    obtain ⟨W4, hW4⟩ : ∃ W4, W'.putObj (W0.heap.size + 1) (rec .exhausted none) = W4 := ⟨_, rfl⟩
    rw [hW4] at hbox4 hrow4 hB4 hD4 ⊢
    clear hW4 hrec
    have hc4 := hbox4.cell
    go_wp2_with fail
    refine leaves_marked hD4 (results_tmp rfl _ _ _) ⟨_, rfl, ?_, below_putObj hB4 (by omega) _⟩
    rw [List.take_of_length_le (Nat.le_refl _)] at hrow4
    exact ownsRow_putObj hrow4 _ hD4 rfl
theorem collect_any (Bs : Nat) (A : Option Addr) (cap : Nat) (zs : List Int) (w : World) (hA : IntsAt w A zs) (hb : w.cell? ⟨Bs, 0, none⟩ = some (.slice A zs.length cap)) (hn : zs.length ≤ 17592186044416) :
    Calls Tryz.prog 79 #[.func (.func 81) #[] #[.pointer (some ⟨Bs, 0, none⟩)]] w (OwnQ zs w) := by
  have HA := Lib.hid hA
  have Hb := Lib.hid hb
  clear hA hb
  go_enter Tryz.func79, Tryz.ntmps79
  go_wp2_with (go_at_call 102; refine (append_seq Bs A cap zs _ HA.out Hb.out hn).mono ?_; rintro e w1 ⟨v, rfl, ho, hb⟩; have HO := Lib.hid ho; clear ho)
  go_ret
  exact ⟨_, rfl, HO.out, hb⟩
end Go.Proofs.YtnjkinljpekohaaGreatDoor
namespace Go.Proofs.YtnjkinljpekohaaGreatDoor
open Go.RowKit
section
variable {P : Program} {w : World}
theorem run_append_zero (base : Nat) (t ty e : TypeId) (i : TypeInfo) (size : Nat) (ht : P.underlying t = some (.slice e)) (hi : P.info? e = some i)
    (v : Value) (n : Nat) (xs : List Value) (hown : w.ownsRow base e size v n xs) (A : Option Addr) (c : Nat) :
    (Builtin.append_ #[t, t] ty #[v, .slice A 0 c]).run P w = .ok v w := by
  have h0 : ∀ A : Option Addr, (Builtin.firstCells i.size 0 (.slice A 0 c)).run P w = .ok #[] w := fun A => by
    cases A <;> simp [Builtin.firstCells, loadCells, loadCellsFrom]
  rcases hown.2 with ⟨rfl, rfl⟩ | ⟨g, cap, cur, rfl, _, _, hnc, _⟩
  · simp [Builtin.append_, run_underlying ht, sizeOf, typeInfo, hi, Builtin.lenOf, h0]
  · simp [Builtin.append_, run_underlying ht, sizeOf, typeInfo, hi, Builtin.lenOf, h0, hnc, storeCells]
theorem wpList_append_zero {ops : Array Oper} {rest : List Oper} {o : Oper} {a : Act} {Q : Exit → Act → World → Prop} (hgd : o.guard = none) (s x : Operand) (t : TypeId)
    (ho : o.op = .call { callee := .builtin .append, args := #[s, x], argTypes := #[t, t] })
    (base : Nat) (e : TypeId) (i : TypeInfo) (size : Nat) (ht : P.underlying t = some (.slice e)) (hi : P.info? e = some i)
    (v : Value) (n : Nat) (xs : List Value) (hs : a.eval s = v) (hown : w.ownsRow base e size v n xs) (A : Option Addr) (c : Nat) (hx : a.eval x = .slice A 0 c)
    (h : wpList P ops Q rest (a.put o.dst v) w) : wpList P ops Q (o :: rest) a w := by
  refine wpList_plain hgd fun K hK => ?_
  have hrun := run_append_zero (P := P) (w := w) base t o.type e i size ht hi v n xs hown A c
  unfold Oper.wp
  simp [execOp, ho, resolve, invoke, builtin, hs, hx, hrun, Result.andThen]
  exact hK _ _ h
theorem strs_svs {w : World} {A : Option Addr} {L : List ByteArray} (h : StrsAt w A L) (h1 : 0 < L.length) : ∃ b o, A = some ⟨b, o, none⟩ ∧ ∀ j u, (svs L)[j]? = some u → w.cell? ((⟨b, o, none⟩ : Addr).add j) = some u := by
  obtain ⟨b, o, hA, _⟩ := h 0 h1
  refine ⟨b, o, hA, fun j u hj => ?_⟩
  have hl : j < L.length := by
    have := (List.getElem?_eq_some_iff.1 hj).1
    rwa [svs_length] at this
  obtain ⟨b', o', e, hc⟩ := h j hl
  rw [hA] at e
  injection e with e
  injection e with e1 e2
  subst e1 e2
  rw [show (⟨b, o, none⟩ : Addr).add j = ⟨b, o + j, none⟩ by unfold Addr.add; split <;> simp_all, hc, ← hj]
  simp [svs, List.getD, hl]
theorem svs_one (L : List ByteArray) : ∀ u ∈ svs L, u.oneCell' = true := fun u hu => by
  obtain ⟨x, _, rfl⟩ := List.mem_map.1 hu
  rfl
theorem wpList_append_strs {ops : Array Oper} {rest : List Oper} {o : Oper} {a : Act} {Q : Exit → Act → World → Prop} (hgd : o.guard = none) (s x : Operand) (t : TypeId)
    (ho : o.op = .call { callee := .builtin .append, args := #[s, x], argTypes := #[t, t] })
    (base : Nat) (e : TypeId) (i : TypeInfo) (z : Value) (ht : P.underlying t = some (.slice e)) (hi : P.info? e = some i) (hz : i.zero = some z) (hsize : i.size = 1) (hby : i.bytes = 16) (hzs : z.cells.size = 1)
    (v : Value) (n : Nat) (xs : List ByteArray) (hs : a.eval s = v) (_hn : xs.length = n) (hown : w.ownsRow base e 1 v n (svs xs)) (A : Option Addr) (m c : Nat) (L : List ByteArray) (hm : L.length = m) (hx : a.eval x = .slice A m c) (hA : StrsAt w A L)
    (hl : n + m ≤ 100000) (hb : base ≤ w.heap.size)
    (h : ∀ v' w', w'.ownsRow base e 1 v' (n + m) (svs (xs ++ L)) → Kept v.ownBlock.toList w w' → wpList P ops Q rest (a.put o.dst v') w') :
    wpList P ops Q (o :: rest) a w := by
  by_cases h0 : m = 0
  · subst h0
    have hL : L = [] := List.eq_nil_of_length_eq_zero hm
    subst hL
    refine wpList_append_zero hgd s x t ho base e i 1 ht hi v n _ hs hown A c hx (h v w ?_ (Kept.refl _ _))
    rw [List.append_nil]; exact hown
  · obtain ⟨b, o', rfl, hc⟩ := strs_svs hA (by omega)
    refine wpList_append_lies _ hgd s x t ho base e i z 1 16 ht hi hz hsize hby hzs (by omega) v n (svs xs) hs hown ⟨b, o', none⟩ m c (svs L) hx (by rw [svs_length, hm, Nat.mul_one]) hc (svs_one L) (by omega) (by unfold maxLen; omega) (by omega) hb w.heap.size rfl ?_
    intro g cap w' h2 h3 _ _
    exact h _ w' (by rw [svs_append]; exact h2) ((Kept.refl _ w).grown h3 (fun k hk => .inl (mem_own hk)))
theorem step_append_zero {K : Act → World → Prop} {E : Prop} {ops : Array Oper} {o : Oper} {a : Act} {Q : Exit → Act → World → Prop} (hgd : o.guard = none) (s x : Operand) (t : TypeId)
    (ho : o.op = .call { callee := .builtin .append, args := #[s, x], argTypes := #[t, t] })
    (base : Nat) (e : TypeId) (i : TypeInfo) (size : Nat) (ht : P.underlying t = some (.slice e)) (hi : P.info? e = some i)
    (v : Value) (n : Nat) (xs : List Value) (hs : a.eval s = v) (hown : w.ownsRow base e size v n xs) (A : Option Addr) (c : Nat) (hx : a.eval x = .slice A 0 c)
    (h : K (a.put o.dst v) w) : if Region.wanted o (yielded ops a.tmps) = true then Oper.wp P o a w K Q else E := by
  have hw : Region.wanted o (yielded ops a.tmps) = true := by simp [Region.wanted, hgd]
  rw [if_pos hw]
  have hrun := run_append_zero (P := P) (w := w) base t o.type e i size ht hi v n xs hown A c
  unfold Oper.wp
  simp [execOp, ho, resolve, invoke, builtin, hs, hx, hrun, Result.andThen]
  exact h
theorem step_append_strs {K : Act → World → Prop} {E : Prop} {ops : Array Oper} {o : Oper} {a : Act} {Q : Exit → Act → World → Prop} (hgd : o.guard = none) (s x : Operand) (t : TypeId)
    (ho : o.op = .call { callee := .builtin .append, args := #[s, x], argTypes := #[t, t] })
    (base : Nat) (e : TypeId) (i : TypeInfo) (z : Value) (ht : P.underlying t = some (.slice e)) (hi : P.info? e = some i) (hz : i.zero = some z) (hsize : i.size = 1) (hby : i.bytes = 16) (hzs : z.cells.size = 1)
    (v : Value) (n : Nat) (xs : List ByteArray) (hs : a.eval s = v) (hown : w.ownsRow base e 1 v n (svs xs)) (A : Option Addr) (m c : Nat) (L : List ByteArray) (hm : L.length = m) (hx : a.eval x = .slice A m c) (hA : StrsAt w A L)
    (hl : n + m ≤ 100000) (hb : base ≤ w.heap.size)
    (h : ∀ v' w', w'.ownsRow base e 1 v' (n + m) (svs (xs ++ L)) → Kept v.ownBlock.toList w w' → K (a.put o.dst v') w') :
    if Region.wanted o (yielded ops a.tmps) = true then Oper.wp P o a w K Q else E := by
  by_cases h0 : m = 0
  · subst h0
    have hL : L = [] := List.eq_nil_of_length_eq_zero hm
    subst hL
    refine step_append_zero hgd s x t ho base e i 1 ht hi v n _ hs hown A c hx (h v w ?_ (Kept.refl _ _))
    rw [List.append_nil]; exact hown
  · obtain ⟨b, o', rfl, hc⟩ := strs_svs hA (by omega)
    refine step_append_lies _ hgd s x t ho base e i z 1 16 ht hi hz hsize hby hzs (by omega) v n (svs xs) hs hown ⟨b, o', none⟩ m c (svs L) hx (by rw [svs_length, hm, Nat.mul_one]) hc (svs_one L) (by omega) (by unfold maxLen; omega) (by omega) hb w.heap.size rfl ?_
    intro g cap w' h2 h3 _ _
    exact h _ w' (by rw [svs_append]; exact h2) ((Kept.refl _ w).grown h3 (fun k hk => .inl (mem_own hk)))
/-- append([]string{x}, l...): the literal has just been made -/
theorem wpList_front_strs {ops : Array Oper} {rest : List Oper} {o : Oper} {a : Act} {Q : Exit → Act → World → Prop} (hgd : o.guard = none) (s x : Operand) (t : TypeId)
    (ho : o.op = .call { callee := .builtin .append, args := #[s, x], argTypes := #[t, t] })
    (e : TypeId) (i : TypeInfo) (z : Value) (ht : P.underlying t = some (.slice e)) (hi : P.info? e = some i) (hz : i.zero = some z) (hsize : i.size = 1) (hby : i.bytes = 16) (hzs : z.cells.size = 1)
    (y : ByteArray) (hs : a.eval s = .slice (some ⟨w.heap.size, 0, none⟩) 1 1) (A : Option Addr) (m c : Nat) (L : List ByteArray) (hm : L.length = m) (hx : a.eval x = .slice A m c) (hA : StrsAt w A L) (hl : m ≤ 90000)
    (h : ∀ A' c' w', StrsAt w' A' (y :: L) → m + 1 ≤ c' → c' ≤ maxLen → Below w.heap.size w w' → wpList P ops Q rest (a.put o.dst (.slice A' (m + 1) c')) w') :
    wpList P ops Q (o :: rest) a (w.alloc (.cells #[.string y] e)) := by
  have h0 : (w.alloc (.cells #[.string y] e)).ownsRow w.heap.size e 1 (.slice (some ⟨w.heap.size, 0, none⟩) 1 1) 1 (svs [y]) := World.ownsRow_lit (base := w.heap.size) (e := e) (size := 1) w #[.string y] 1 (Nat.le_refl _) (by unfold maxLen; omega) rfl
  refine wpList_append_strs hgd s x t ho w.heap.size e i z ht hi hz hsize hby hzs _ 1 [y] hs rfl h0 A m c L hm hx (hA.then_ (below_alloc (Below.refl _ _) _)) (by omega) (by simp) ?_
  intro v' w' ho' hk
  rw [Nat.add_comm] at ho'
  rcases ho'.2 with ⟨_, h1⟩ | ⟨g, cap, cur, h1, h2, h3, h4, h5, h6, h7⟩
  · omega
  · subst h1
    refine h _ _ w' (strs_of_own ho') h4 h5 (hk.below_next (B := w.heap.size) (below_alloc (Below.refl _ _) _) (by simp) (fun k hk => ?_))
    have e : some w.heap.size = some k := own_mem hk
    injection e with e
    omega
end
/-- a slice that a literal has made -/
theorem own_lit {w : World} {g : Nat} {xs : List ByteArray} {e : TypeId} {base : Nat} (h : w.heap[g]? = some (.cells (svs xs).toArray e (0, 0))) (hb : base ≤ g) (hm : xs.length ≤ 1000000) : w.ownsRow base e 1 (.slice (some ⟨g, 0, none⟩) xs.length xs.length) xs.length (svs xs) :=
  ⟨by rw [svs_length, Nat.mul_one], .inr ⟨g, xs.length, (svs xs).toArray, rfl, hb, h, Nat.le_refl _, by unfold maxLen; omega, by simp [svs_length], by simp [← svs_length]⟩⟩
theorem lit_strs {w : World} {g : Nat} {xs : List ByteArray} {e : TypeId} (h : w.heap[g]? = some (.cells (svs xs).toArray e (0, 0))) : StrsAt w (some ⟨g, 0, none⟩) xs := fun i hi => by
  refine ⟨g, 0, rfl, ?_⟩
  rw [Nat.zero_add, cell_of_row w g i _ e (0, 0) h]
  simp [svs, List.getD, hi]
theorem lit_old (w : World) (o o' : Obj) : ((w.alloc o).alloc o').heap[w.heap.size]? = some o := (Below.heap_alloc _ _ _ (by simp)).trans (heap_alloc_new _ _)
theorem lit_new2 (w : World) (o o' : Obj) : ((w.alloc o).alloc o').heap[w.heap.size + 1]? = some o' := by
  have := heap_alloc_new (w.alloc o) o'
  simpa using this
theorem strs_nil (w : World) (A : Option Addr) : StrsAt w A [] := fun _i hi => absurd hi (Nat.not_lt_zero _)
theorem strs_last {w : World} {A : Option Addr} {p : List ByteArray} {q : Nat} (h : StrsAt w A p) (hq : p.length = q + 1) : ∃ b o x p', A = some ⟨b, o, none⟩ ∧ p = p' ++ [x] ∧ p'.length = q ∧ w.cell? ⟨b, o + q, none⟩ = some (.string x) ∧ StrsAt w (some ⟨b, o, none⟩) p' := by
  rcases List.eq_nil_or_concat p with rfl | ⟨p', x, rfl⟩
  · simp at hq
  · rw [List.concat_eq_append] at hq h ⊢
    have hl : p'.length = q := by simpa using hq
    obtain ⟨b, o, rfl, hc⟩ := h q (by omega)
    refine ⟨b, o, x, p', rfl, rfl, hl, ?_, fun i hi => ?_⟩
    · rw [hc]; simp [List.getD, ← hl]
    · obtain ⟨b', o', e, hc⟩ := h i (by simp; omega)
      refine ⟨b', o', e, ?_⟩
      rw [hc]; simp [List.getD, List.getElem?_append_left hi]
end Go.Proofs.YtnjkinljpekohaaGreatDoor
