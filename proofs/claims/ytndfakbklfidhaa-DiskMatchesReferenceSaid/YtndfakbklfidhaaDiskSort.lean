/- The library's Sorted, Compact and DeleteFunc, as Crash calls them. -/
import Derived.Test.YtndfakbklfidhaaShelf33
import Derived.Test.YtndfakbklfidhaaSeqVals
import Derived.Test.YtndfakbklfidhaaDiskClo
import Derived.Lib.OwnBridge
namespace Go.Proofs.Ytndfakbklfidhaa
open Go.RowKit Dsk Go.Lib Go.Sort
/-- a slice of the call's own, from a block on, with these integers -/
def OwnB (base : Nat) (zs : List Int) (w : World) (e : Ending) (w' : World) : Prop := ∃ v, e = .returned v ∧ w'.ownsRow base 3 1 v zs.length (ivs zs) ∧ Below base w w'
theorem nil_or {w : World} {base n : Nat} {t : TypeId} {v : Value} {zs : List Int} (h : w.ownsRow base t 1 v n (ivs zs)) : (v = .slice none 0 0 ∧ zs = []) ∨ v ≠ .slice none 0 0 := by
  rcases h.2 with ⟨h1, h2⟩ | ⟨g, cap, cur, rfl, _⟩
  · refine .inl ⟨h1, ?_⟩
    have := h.1
    rw [ivs_length, h2] at this
    exact List.eq_nil_of_length_eq_zero (by simpa using this)
  · exact .inr (by simp)
theorem own_grow {w : World} {base n : Nat} {t : TypeId} {v : Value} {xs : List Value} (os : Array Obj) (h : w.ownsRow base t 1 v n xs) : (grow w os).ownsRow base t 1 v n xs :=
  own_then h ⟨rfl, rfl, rfl, by show w.heap.size ≤ (w.heap ++ os).size; rw [Array.size_append]; omega, fun _ hj => Sort.heap_grow_old w os hj⟩
theorem below_grow {w0 w : World} {B : Nat} (os : Array Obj) (h : Below B w0 w) (hB : B ≤ w.heap.size) : Below B w0 (grow w os) :=
  h.trans ⟨rfl, rfl, rfl, by show w.heap.size ≤ (w.heap ++ os).size; rw [Array.size_append]; omega, fun _ hj => Sort.heap_grow_old w os (by omega)⟩
theorem sort_own (base : Nat) (v : Value) (zs : List Int) (w : World) (h : w.ownsRow base 3 1 v zs.length (ivs zs)) (hb : base ≤ w.heap.size) (hn : zs.length < 4611686018427387904) :
    Calls Try.prog 46 #[v] w fun e w' => e = .returned (.tuple #[]) ∧ w'.ownsRow base 3 1 v zs.length (ivs (sortI zs)) ∧ Below base w w' := by
  rcases nil_or h with ⟨rfl, rfl⟩ | hne
  · exact (Try.slices_Sort_int_none none 0 w).mono fun e w' ⟨he, hw⟩ => ⟨he, by subst hw; rw [show sortI [] = [] by simp [sortI]]; exact World.ownsRow_nil _ _ _ _, by subst hw; exact Below.refl _ _⟩
  · obtain ⟨g, cap, rfl, h1, h2, h3, h4, h5, h6⟩ := holds_of_ownsRow (enc := Value.int .i64) h hne
    refine (Try.slices_Sort_int g 0 cap zs w h6 h2 hn).mono fun e w' ⟨he, n, os, hw⟩ => ⟨he, ?_, ?_⟩
    · subst hw
      have := ownsRow_putRow (enc := Value.int .i64) (q := n) (ys := sortI zs) h (sortI_length zs) (Nat.le_refl _)
      rw [List.take_of_length_le (by rw [sortI_length]; exact Nat.le_refl _)] at this
      exact own_grow os this
    · subst hw
      exact below_grow os (below_putRow (Below.refl _ _) h1) (by rw [size_putRow]; exact hb)
theorem sorted_any (Bs : Nat) (A : Option Addr) (cap : Nat) (zs : List Int) (w : World) (hA : IntsAt w A zs) (hb : w.cell? ⟨Bs, 0, none⟩ = some (.slice A zs.length cap)) (hn : zs.length ≤ 17592186044416) :
    Calls Try.prog 39 #[.func (.func 47) #[] #[.pointer (some ⟨Bs, 0, none⟩)]] w (OwnB w.heap.size (sortI zs) w) := by
  have HA := Lib.hid hA
  have Hb := Lib.hid hb
  clear hA hb
  go_enter Try.func39, Try.ntmps39
  go_wp2_with (first | (go_at_call 45; refine (collect_any Bs A cap zs _ HA.out Hb.out hn).mono ?_; rintro e w1 ⟨v, rfl, ho, hb⟩; have HO := Lib.hid ho; clear ho) | (go_at_call 46; refine (sort_own w.heap.size v zs _ HO.out hb.size (by omega)).mono ?_; rintro e w2 ⟨rfl, ho2, hb2⟩; have HO2 := Lib.hid ho2; clear ho2))
  go_ret
  exact ⟨_, rfl, by rw [sortI_length]; exact HO2.out, hb.trans hb2⟩
theorem compact_le (zs : List Int) : (compact zs).length ≤ zs.length := by
  unfold compact compactUpTo
  rw [List.length_map]
  have := List.length_filter_le (keeps zs.toArray) (List.range zs.length)
  simpa using this
theorem compact_own (base : Nat) (v : Value) (zs : List Int) (w : World) (h : w.ownsRow base 3 1 v zs.length (ivs zs)) (hn : zs.length < 4611686018427387904) :
    Calls Try.prog 38 #[v] w (OwnB base (compact zs) w) := by
  rcases nil_or h with ⟨rfl, rfl⟩ | hne
  · exact (Try.slices_Compact_int_empty none 0 w).mono fun e w' ⟨he, hw⟩ => ⟨_, he, by subst hw; exact World.ownsRow_nil _ _ _ _, by subst hw; exact Below.refl _ _⟩
  · obtain ⟨g, cap, rfl, h1, h2, h3, h4, h5, h6⟩ := holds_of_ownsRow (enc := Value.int .i64) h hne
    have hl := compact_le zs
    refine (Try.slices_Compact_int g 0 cap zs w h6 (by omega) h3).mono fun e w' ⟨he, q, hw⟩ => ⟨_, he, ?_, ?_⟩
    · subst hw
      have := ownsRow_putRow (enc := Value.int .i64) (q := q) (k := (compact zs).length) (ys := compact zs ++ List.replicate (zs.length - (compact zs).length) 0) h (by simp; omega) hl
      rw [List.take_left] at this
      exact this
    · subst hw
      exact below_putRow (Below.refl _ _) h1
theorem delete_own (base B g : Nat) (a : Option Addr) (n c : Nat) (v : Value) (zs : List Int) (w : World) (h : w.ownsRow base 3 1 v zs.length (ivs zs)) (hn : zs.length < 4611686018427387904)
    (h0 : w.cell? ⟨B, 0, none⟩ = some (.pointer (some ⟨g, 0, none⟩))) (h4 : w.cell? ⟨g, 4, none⟩ = some (.slice a n c)) (hB : B < base) (hg : g < base) :
    Calls Try.prog 41 #[v, .func (.func 42) #[] #[.pointer (some ⟨B, 0, none⟩)]] w (OwnB base (zs.filter fun x => !outB n x) w) := by
  have eg : ∀ args w, (callFunc 42 args).run Try.prog w = .ok (.enter 42 args) w := enters_of Try.func42 (by kernel_rfl) rfl
  rcases nil_or h with ⟨rfl, rfl⟩ | hne
  · clear h h0 h4 eg
    go_enter Try.func41, Try.ntmps41
    go_wp2_with (go_at_call 48; refine (Try.slices_IndexFunc_empty (α := Int) none 0 _ _).mono ?_; rintro e w1 ⟨rfl, rfl⟩)
    go_ret
    exact ⟨_, rfl, World.ownsRow_nil _ _ _ _, Below.refl _ _⟩
  · obtain ⟨g', cap, rfl, h1, h2, h3, h4', h5, h6⟩ := holds_of_ownsRow (enc := Value.int .i64) h hne
    have hl := List.length_filter_le (fun x => !outB n x) zs
    refine (Try.slices_DeleteFunc (Value.int .i64) (fun _ => rfl) (outB n) 42 #[.pointer (some ⟨B, 0, none⟩)] eg 0 Try.zeroValue3 g' 0 cap zs.toArray w (clo_at B g a n c w h0 h4) (clo_over B g a n c g' 0 _ w h0 h4 (by omega) (by omega)) h6 (by simp; omega) (by simpa using h3)).mono fun e w' ⟨he, q, hw⟩ => ⟨_, he, ?_, ?_⟩
    · subst hw
      have := ownsRow_putRow (enc := Value.int .i64) (q := q) (k := (zs.filter fun x => !outB n x).length) (ys := (zs.filter fun x => !outB n x) ++ List.replicate (zs.length - (zs.filter fun x => !outB n x).length) 0) h (by simp; omega) hl
      rw [List.take_left] at this
      exact this
    · subst hw
      exact below_putRow (Below.refl _ _) h1
end Go.Proofs.Ytndfakbklfidhaa
