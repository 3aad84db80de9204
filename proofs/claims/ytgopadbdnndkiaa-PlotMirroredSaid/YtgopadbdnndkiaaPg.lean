/- Package plot: the places where all rides begin, or end. The array of gaps: 19 rows of 18 numbers, as one row of cells. -/
import Derived.Test.YtgopadbdnndkiaaPf
import Derived.Deep.WholeRow
namespace Go.Proofs.Ytgopadbdnndkiaa.Pt
open Go.RowKit Str
attribute [local go_sem] Oper.semAt_some
theorem range_take {n k : Nat} (_h : k < n) (F : Nat → Int × Int) : (List.range (k + 1)).map F = (List.range k).map F ++ [F k] := by rw [List.range_succ, List.map_append]; rfl
/-- what they come to -/
def PlsP (l : List (Int × Int)) (w : World) (e : Ending) (w' : World) : Prop :=
  ∃ A c, e = .returned (.slice A l.length c) ∧ (∀ i, i < l.length → ∃ g, A = some ⟨g, 0, none⟩ ∧ w.heap.size ≤ g ∧ PlsAt w' g l) ∧ (l.length : Int) ≤ c ∧ Below w.heap.size w w'
set_option maxRecDepth 100000 in
set_option maxHeartbeats 4000000 in
theorem pls_begins (pb n c : Nat) (A : Option Addr) (F : Nat → Int × Int) (w : World) (hn : (n : Int) ≤ 9) (hc : w.cell? ⟨pb, 0, none⟩ = some (.slice A n c))
    (hf : ∀ r W, r < 2 * n → Below w.heap.size w W → Calls Try.prog 33 #[.slice A n c, .int .i64 (r : Int)] W fun e w' => e = .returned (.agg #[.int .i64 (F r).1, .int .i64 (F r).2]) ∧ Below W.heap.size W w') :
    Calls Try.prog 45 #[.func (.func 33) #[] #[], .pointer (some ⟨pb, 0, none⟩)] w (PlsP ((List.range (2 * n)).map F) w) := by
  obtain ⟨i0, hi0, hz0, hz1, hz2⟩ := info_parts place_info
  have HC := Lib.hid hc
  have HF := Lib.hid hf
  clear hf
  go_enter Try.func45, Try.ntmps45
  go_wp2_with fail
  clear hc
  go_loopw [4, 9] (fun v j wr => ∃ k : Nat, k ≤ 2 * n ∧ j = .int .i64 (k : Int) ∧ wr.ownsRow w.heap.size 56 2 v k (pcs ((List.range k).map F)) ∧ Below w.heap.size w wr) (fun _ j _ => 2 * n - (intOf j).toNat)
  case atStart => exact ⟨0, by omega, rfl, World.ownsRow_nil _ _ _ _, Below.refl _ _⟩
  case round =>
    obtain ⟨k, hk, rfl, hown, hB⟩ := hrel
    by_cases hlt : k < 2 * n
    · have hX := range_take hlt F
      have HX := Lib.hid hX
      have hkk : (k : Int) < 2 * (n : Int) := by omega
      have hk0 : (0 : Int) ≤ (k : Int) := by omega
      have hc := cell_then hB HC.out
      have HCF := Lib.hid (HF.out k wr hlt hB)
      have HOW := Lib.hid hown
      have HB := Lib.hid hB
      clear hown hB hX
      go_wp2_with fail
      refine HCF.out.mono ?_
      rintro e w1 ⟨rfl, b1⟩
      have HB2 := Lib.hid (below_next HB.out b1)
      have HO2 := Lib.hid (own_then HOW.out b1)
      have hbs := HB2.out.size
      clear b1 hc
      go_wp2_with (at_builtin; refine wpList_append1 rfl _ _ 52 rfl w.heap.size 56 i0 _ 2 16 Try.underlying52 hi0 hz0 hz1 hz2 rfl (by omega) (by omega) _ k _ rfl HO2.out #[.int .i64 (F k).1, .int .i64 (F k).2] rfl rfl (by simp [Value.oneCell']) (by omega) (by omega) ?_; intro g' c' w' own' k' _; have OW := Lib.hid own'; have BW := Lib.hid (k'.below_next HB2.out hbs (fun q hq => (HO2.out.lt q (own_mem hq)).1)); clear own' k')
      refine ⟨⟨k + 1, by omega, by go_num, ?_, BW.out⟩, by simp [intOf]; omega⟩
      rw [HX.out, pcs_append]
      exact OW.out
    · obtain rfl : k = 2 * n := by omega
      obtain ⟨A6, c6, h6, hc6⟩ := own_slice hown
      subst h6
      have hcc : ((2 * n : Nat) : Int) ≤ (c6 : Int) := by omega
      have HOW := Lib.hid hown
      have HB := Lib.hid hB
      clear hown hB
      go_wp2_with fail
      go_ret
      refine ⟨A6, c6, by simp, fun i hi => ?_, by simp; omega, HB.out⟩
      rw [List.length_map, List.length_range] at hi
      have ho := HOW.out
      rcases ho.2 with ⟨h', h0⟩ | ⟨g2, c2, cur, h', h2, _⟩
      · omega
      · injection h' with e1 e2 e3
        subst e1 e3
        exact ⟨g2, rfl, h2, pls_of_own ho⟩
set_option maxRecDepth 100000 in
set_option maxHeartbeats 4000000 in
theorem pls_ends (pb n c : Nat) (A : Option Addr) (F : Nat → Int × Int) (w : World) (hn : (n : Int) ≤ 9) (hc : w.cell? ⟨pb, 0, none⟩ = some (.slice A n c))
    (hf : ∀ r W, r < 2 * n → Below w.heap.size w W → Calls Try.prog 34 #[.slice A n c, .int .i64 (r : Int)] W fun e w' => e = .returned (.agg #[.int .i64 (F r).1, .int .i64 (F r).2]) ∧ Below W.heap.size W w') :
    Calls Try.prog 45 #[.func (.func 34) #[] #[], .pointer (some ⟨pb, 0, none⟩)] w (PlsP ((List.range (2 * n)).map F) w) := by
  obtain ⟨i0, hi0, hz0, hz1, hz2⟩ := info_parts place_info
  have HC := Lib.hid hc
  have HF := Lib.hid hf
  clear hf
  go_enter Try.func45, Try.ntmps45
  go_wp2_with fail
  clear hc
  go_loopw [4, 9] (fun v j wr => ∃ k : Nat, k ≤ 2 * n ∧ j = .int .i64 (k : Int) ∧ wr.ownsRow w.heap.size 56 2 v k (pcs ((List.range k).map F)) ∧ Below w.heap.size w wr) (fun _ j _ => 2 * n - (intOf j).toNat)
  case atStart => exact ⟨0, by omega, rfl, World.ownsRow_nil _ _ _ _, Below.refl _ _⟩
  case round =>
    obtain ⟨k, hk, rfl, hown, hB⟩ := hrel
    by_cases hlt : k < 2 * n
    · have hX := range_take hlt F
      have HX := Lib.hid hX
      have hkk : (k : Int) < 2 * (n : Int) := by omega
      have hk0 : (0 : Int) ≤ (k : Int) := by omega
      have hc := cell_then hB HC.out
      have HCF := Lib.hid (HF.out k wr hlt hB)
      have HOW := Lib.hid hown
      have HB := Lib.hid hB
      clear hown hB hX
      go_wp2_with fail
      refine HCF.out.mono ?_
      rintro e w1 ⟨rfl, b1⟩
      have HB2 := Lib.hid (below_next HB.out b1)
      have HO2 := Lib.hid (own_then HOW.out b1)
      have hbs := HB2.out.size
      clear b1 hc
      go_wp2_with (at_builtin; refine wpList_append1 rfl _ _ 52 rfl w.heap.size 56 i0 _ 2 16 Try.underlying52 hi0 hz0 hz1 hz2 rfl (by omega) (by omega) _ k _ rfl HO2.out #[.int .i64 (F k).1, .int .i64 (F k).2] rfl rfl (by simp [Value.oneCell']) (by omega) (by omega) ?_; intro g' c' w' own' k' _; have OW := Lib.hid own'; have BW := Lib.hid (k'.below_next HB2.out hbs (fun q hq => (HO2.out.lt q (own_mem hq)).1)); clear own' k')
      refine ⟨⟨k + 1, by omega, by go_num, ?_, BW.out⟩, by simp [intOf]; omega⟩
      rw [HX.out, pcs_append]
      exact OW.out
    · obtain rfl : k = 2 * n := by omega
      obtain ⟨A6, c6, h6, hc6⟩ := own_slice hown
      subst h6
      have hcc : ((2 * n : Nat) : Int) ≤ (c6 : Int) := by omega
      have HOW := Lib.hid hown
      have HB := Lib.hid hB
      clear hown hB
      go_wp2_with fail
      go_ret
      refine ⟨A6, c6, by simp, fun i hi => ?_, by simp; omega, HB.out⟩
      rw [List.length_map, List.length_range] at hi
      have ho := HOW.out
      rcases ho.2 with ⟨h', h0⟩ | ⟨g2, c2, cur, h', h2, _⟩
      · omega
      · injection h' with e1 e2 e3
        subst e1 e3
        exact ⟨g2, rfl, h2, pls_of_own ho⟩
end Go.Proofs.Ytgopadbdnndkiaa.Pt
namespace Go.Proofs.Ytgopadbdnndkiaa.Pt
open Go.RowKit Str
/-- the cells of an array of gaps -/
def rowG (F : Nat → Nat → Int) : Array Value := ((List.range 342).map fun i => Value.int .i64 (F (i / 18) (i % 18))).toArray
theorem rowG_size (F : Nat → Nat → Int) : (rowG F).size = 342 := by simp [rowG]
theorem rowG_get (F : Nat → Nat → Int) {i k : Nat} (hi : i < 19) (hk : k < 18) : (rowG F)[i * 18 + k]? = some (.int .i64 (F i k)) := by
  have h : i * 18 + k < 342 := by omega
  have e1 : (i * 18 + k) / 18 = i := by omega
  have e2 : (i * 18 + k) % 18 = k := by omega
  simp [rowG, List.getElem?_range h, e1, e2]
def putG (F : Nat → Nat → Int) (i k : Nat) (x : Int) (a b : Nat) : Int := if a = i ∧ b = k then x else F a b
theorem rowG_set (F : Nat → Nat → Int) {i k : Nat} (hi : i < 19) (hk : k < 18) (x : Int) : (rowG F).setIfInBounds (i * 18 + k) (.int .i64 x) = rowG (putG F i k x) := by
  apply Array.ext_getElem?
  intro q
  rw [Array.getElem?_setIfInBounds]
  by_cases hq : q < 342
  · have e3 : (rowG (putG F i k x))[q]? = some (.int .i64 (putG F i k x (q / 18) (q % 18))) := by simp [rowG, List.getElem?_range hq]
    have e4 : (rowG F)[q]? = some (.int .i64 (F (q / 18) (q % 18))) := by simp [rowG, List.getElem?_range hq]
    rw [e3, e4]
    by_cases e : i * 18 + k = q
    · have e1 : q / 18 = i := by omega
      have e2 : q % 18 = k := by omega
      rw [if_pos e, rowG_size, if_pos (by omega), putG, if_pos ⟨e1, e2⟩]
    · rw [if_neg e, putG, if_neg (by omega)]
  · have e3 : (rowG (putG F i k x))[q]? = none := Array.getElem?_eq_none (by rw [rowG_size]; omega)
    have e4 : (rowG F)[q]? = none := Array.getElem?_eq_none (by rw [rowG_size]; omega)
    rw [if_neg (by omega), e3, e4]
theorem rowG_one (F : Nat → Nat → Int) : (rowG F).all (·.oneCell') = true := by
  simp [rowG, Value.oneCell']
set_option maxRecDepth 100000 in
theorem gaps_info : (Try.prog.info? 76).map (fun i => (i.zero, i.size)) = some (some (.agg (rowG fun _ _ => 0)), 342) := by kernel_rfl
theorem step_load {P : Program} {o : Oper} {a : Act} {w : World} {K : Act → World → Prop} {Q : Exit → Act → World → Prop} {t : TypeId} {x : Operand} {p v : Value} (ho : o.op = .load t x) (hx : a.eval x = p) (hl : (Instr.loadAt t p).run P w = .ok v w) (h : K (a.put o.dst v) w) : Oper.wp P o a w K Q := by
  have e : (execOp a.eval o).run P w = .ok (.value v) w := by simp [execOp, ho, hx, hl, Result.andThen]
  unfold Oper.wp
  rw [e]
  exact h
theorem step_store {P : Program} {o : Oper} {a : Act} {w w' : World} {K : Act → World → Prop} {Q : Exit → Act → World → Prop} {t : TypeId} {x y : Operand} {p v : Value} (ho : o.op = .store t x y) (hx : a.eval x = p) (hy : a.eval y = v) (hl : (Instr.storeAt t p v).run P w = .ok () w') (h : K (a.put o.dst undef) w') : Oper.wp P o a w K Q := by
  have e : (execOp a.eval o).run P w = .ok .skip w' := by simp [execOp, ho, hx, hy, hl, Result.andThen]
  unfold Oper.wp
  rw [e]
  exact h
end Go.Proofs.Ytgopadbdnndkiaa.Pt
