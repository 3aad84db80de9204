/- slices.Sort of integers in a slice of the call's own. -/
import Derived.Test.YtebfenkjipaedaaShelf13
import Derived.Test.YtebfenkjipaedaaGrpPath
import Derived.Lib.OwnBridge
import Derived.Test.YtebfenkjipaedaaGd
namespace Go.Proofs.Ytebfenkjipaedaa.Gr
open Go.RowKit Gp Go.Lib Go.Sort
attribute [local go_sem] Oper.semAt_some
def sortI (zs : List Int) : List Int := zs.mergeSort fun x y => decide (x ≤ y)
theorem sortI_mem {zs : List Int} {x : Int} : x ∈ sortI zs ↔ x ∈ zs := List.mem_mergeSort
theorem sortI_sorted (zs : List Int) : (sortI zs).Pairwise (· ≤ ·) := by
  have h := List.pairwise_mergeSort (le := fun x y : Int => decide (x ≤ y)) (fun a b c h1 h2 => by simp only [decide_eq_true_eq] at h1 h2 ⊢; omega) (fun a b => by simp only [Bool.or_eq_true, decide_eq_true_eq]; omega) zs
  exact h.imp (fun h => by simpa using h)
theorem sortI_length (zs : List Int) : (sortI zs).length = zs.length := List.length_mergeSort zs
theorem sortI_perm (zs : List Int) : (sortI zs).Perm zs := List.mergeSort_perm ..
theorem nil_or {w : World} {base n : Nat} {t : TypeId} {v : Value} {zs : List Int} (h : w.ownsRow base t 1 v n (ivs zs)) : (v = .slice none 0 0 ∧ zs = []) ∨ v ≠ .slice none 0 0 := by
  rcases h.2 with ⟨h1, h2⟩ | ⟨g, cap, cur, rfl, _⟩
  · refine .inl ⟨h1, ?_⟩
    have := h.1
    rw [ivs_length, h2] at this
    exact List.eq_nil_of_length_eq_zero (by simpa using this)
  · exact .inr (by simp)
theorem own_grow {w : World} {base n : Nat} {t : TypeId} {v : Value} {xs : List Value} (os : Array Obj) (h : w.ownsRow base t 1 v n xs) : (grow w os).ownsRow base t 1 v n xs :=
  own_then h ⟨rfl, rfl, rfl, by show w.heap.size ≤ (w.heap ++ os).size; rw [Array.size_append]; omega, fun _ hj => Sort.heap_grow_old w os hj⟩
theorem below_grow {w0 w : World} {B : Nat} (os : Array Obj) (h : Below B w0 w) (hB : B ≤ w.heap.size) : Below B w0 (grow w os) :=
  h.trans ⟨rfl, rfl, rfl, by show w.heap.size ≤ (w.heap ++ os).size; rw [Array.size_append]; omega, fun _ hj => Sort.heap_grow_old w os (by omega)⟩
theorem sort_own (base : Nat) (v : Value) (zs : List Int) (w : World) (h : w.ownsRow base 3 1 v zs.length (ivs zs)) (hb : base ≤ w.heap.size) (hn : zs.length < 4611686018427387904) :
    Calls Try.prog 41 #[v] w fun e w' => e = .returned (.tuple #[]) ∧ w'.ownsRow base 3 1 v zs.length (ivs (sortI zs)) ∧ Below base w w' := by
  rcases nil_or h with ⟨rfl, rfl⟩ | hne
  · exact (Try.slices_Sort_int_none none 0 w).mono fun e w' ⟨he, hw⟩ => ⟨he, by subst hw; rw [show sortI [] = [] by simp [sortI]]; exact World.ownsRow_nil _ _ _ _, by subst hw; exact Below.refl _ _⟩
  · obtain ⟨g, cap, rfl, h1, h2, h3, h4, h5, h6⟩ := holds_of_ownsRow (enc := Value.int .i64) h hne
    refine (Try.slices_Sort_int g 0 cap zs w h6 h2 hn).mono fun e w' ⟨he, n, os, hw⟩ => ⟨he, ?_, ?_⟩
    · subst hw
      have := ownsRow_putRow (enc := Value.int .i64) (q := n) (ys := sortI zs) h (sortI_length zs) (Nat.le_refl _)
      rw [List.take_of_length_le (by rw [sortI_length]; exact Nat.le_refl _)] at this
      exact own_grow os this
    · subst hw
      exact below_grow os (below_putRow (Below.refl _ _) h1) (by rw [size_putRow]; exact hb)
theorem news_ints {w : World} {b o : Nat} {ms : List Int} (h : IntsAt w (some ⟨b, o, none⟩) ms) (j : Nat) (u : Value) (hu : (ivs ms)[j]? = some u) : w.cell? ((⟨b, o, none⟩ : Addr).add j) = some u := by
  have hj : j < ms.length := by have := (List.getElem?_eq_some_iff.1 hu).1; rwa [ivs_length] at this
  obtain ⟨b', o', hA, hc⟩ := h j hj
  have hA' : b = b' ∧ o = o' := by simpa using hA
  obtain ⟨rfl, rfl⟩ := hA'
  rw [ivs, List.getElem?_map, List.getElem?_eq_getElem hj] at hu
  rw [getD_eq hj] at hc
  simp at hu
  rw [← hu]
  by_cases e : j = 0
  · subst e; simpa [Addr.add] using hc
  · simpa [Addr.add, e] using hc
theorem one_ints (ms : List Int) : ∀ u ∈ ivs ms, u.oneCell' = true := fun u hu => by
  obtain ⟨x, _, rfl⟩ := List.mem_map.1 hu
  rfl
/-- a slice of the call's own with these integers -/
def OwnQ (zs : List Int) (w : World) (e : Ending) (w' : World) : Prop := ∃ v, e = .returned v ∧ w'.ownsRow w.heap.size 3 1 v zs.length (ivs zs) ∧ Below w.heap.size w w'
theorem eql_nil (c : Nat) : ∀ w, (binOp .eql 23 (.slice none 0 c) (.slice none 0 0)).run Try.prog w = .ok (.bool true) w := fun w => by kernel_rfl
theorem eql_some (a : Addr) (n c : Nat) : ∀ w, (binOp .eql 23 (.slice (some a) n c) (.slice none 0 0)).run Try.prog w = .ok (.bool false) w := fun w => by kernel_rfl
set_option maxRecDepth 100000 in
set_option maxHeartbeats 4000000 in
theorem clone_any (v : Value) (ms : List Int) (w : World) (h : MsAt w v ms) (hl : ms.length ≤ 100000) : Calls Try.prog 43 #[v] w (OwnQ ms w) := by
  obtain ⟨A, c, rfl, hc, hi, hz⟩ := h
  clear hz
  obtain ⟨j0, hj0, e0, e1, e2⟩ := info_parts int_info1
  have HI := Lib.hid hi
  clear hi
  cases A with
  | none =>
    have hm : ms = [] := by
      cases ms with
      | nil => rfl
      | cons x t => obtain ⟨b, o, h1, _⟩ := HI.out 0 (by simp); cases h1
    subst hm
    have hq := eql_nil c
    go_enter Try.func43, Try.ntmps43
    go_wp2_with fail
    go_ret
    exact ⟨_, rfl, World.ownsRow_nil _ _ _ _, Below.refl _ _⟩
  | some a =>
    have hq := eql_some a ms.length c
    have HE0 := Lib.hid (World.ownsRow_lit (base := w.heap.size) (e := 3) (size := 1) w #[] 0 (by omega) (by unfold maxLen; omega) rfl)
    have HN := Lib.hid (fun j u (hu : (ivs ms)[j]? = some u) => (show (w.alloc (.cells #[] 3)).cell? (a.add j) = some u from by
      have hj : j < ms.length := by have := (List.getElem?_eq_some_iff.1 hu).1; rwa [ivs_length] at this
      obtain ⟨b, o, hA, _⟩ := HI.out j hj
      injection hA with hA
      subst hA
      exact keep_alloc _ (news_ints HI.out j u hu)))
    have hml : (ms.length : Int) ≤ 100000 := by omega
    go_enter Try.func43, Try.ntmps43
    go_wp2_with (at_builtin; refine wpList_appendN rfl (.tmp 5) (.tmp 6) 23 rfl w.heap.size 3 j0 _ 1 8 Try.underlying23 hj0 e0 e1 e2 rfl (by omega) (.slice (some ⟨w.heap.size, 0, none⟩) 0 0) 0 [] rfl HE0.out a ms.length c (ivs ms) rfl (by rw [ivs_length]; omega) HN.out (one_ints ms) (by unfold maxLen; omega) (by omega) (by simp) ?_; intro v1 w1 own1 k1 n1)
    go_ret
    have hb : Below w.heap.size w w1 := k1.below_next (below_alloc (Below.refl _ _) _) (by simp) (by intro q hq; have : w.heap.size = q := (by simpa [Value.ownBlock] using own_mem hq); omega)
    simp only [Nat.zero_add, List.nil_append] at own1
    exact ⟨_, rfl, own1, hb⟩
end Go.Proofs.Ytebfenkjipaedaa.Gr
