/- A number laid ahead of a list of numbers; a string cut anywhere; flags in memory. -/
import Derived.Test.YtndfakbklfidhaaDiskKeep
import Derived.Test.YtndfakbklfidhaaDiskCutP0
import Derived.Laws.AppendOwnNone
import Derived.Deep.AppendLies
namespace Go.Proofs.Ytndfakbklfidhaa
open Go.RowKit Dsk
/-- append([]int{k}, list...) -/
theorem front_step {w : World} {ops : Array Oper} {rest : List Oper} {o : Oper} {a : Act} {Q : Exit → Act → World → Prop} (hgd : o.guard = none) (s x : Operand)
    (ho : o.op = .call { callee := .builtin .append, args := #[s, x], argTypes := #[37, 37] })
    (base : Nat) (k : Int) (v : Value) (L : List Int) (hs : a.eval s = .slice (some ⟨w.heap.size, 0, none⟩) 1 1) (hx : a.eval x = v)
    (hown : w.ownsRow base 3 1 v L.length (ivs L)) (hnil : L = [] → v = .slice none 0 0) (hb : base ≤ w.heap.size) (hlen : L.length ≤ 1000)
    (h : ∀ g c w', w'.ownsRow base 3 1 (.slice (some ⟨g, 0, none⟩) (L.length + 1) c) (L.length + 1) (ivs (k :: L)) → Below w.heap.size w w' → w.heap.size ≤ g →
      wpList Try.prog ops Q rest (a.put o.dst (.slice (some ⟨g, 0, none⟩) (L.length + 1) c)) w') :
    wpList Try.prog ops Q (o :: rest) a (w.alloc (.cells #[.int .i64 k] 3)) := by
  obtain ⟨i0, hi0, hz0, hz1, hz2⟩ := info_parts int_info1
  have h0 := World.ownsRow_lit (e := 3) (size := 1) w #[.int .i64 k] 1 hb (by unfold maxLen; omega) rfl
  by_cases hL : L = []
  · rw [hnil hL] at hx
    refine wpList_append_own_none hgd s x _ ho base 3 i0 1 Try.underlying37 hi0 _ _ _ hs h0 hx ?_
    have := h w.heap.size 1 _ (by rw [hL]; exact h0) (below_alloc (Below.refl _ _) _) (Nat.le_refl _)
    rw [hL] at this
    exact this
  · have hpos : 0 < L.length := by
      cases L with
      | nil => exact absurd rfl hL
      | cons _ _ => simp
    obtain ⟨g, cap, rfl, hg1, hg2⟩ := hown.form hpos
    have ha := hown.alloc (.cells #[.int .i64 k] 3)
    refine wpList_append_lies _ hgd s x _ ho base 3 i0 _ 1 8 Try.underlying37 hi0 hz0 hz1 hz2 rfl (by omega) _ 1 _ hs h0 ⟨g, 0, none⟩ L.length cap (ivs L) hx (by rw [ivs_length]; omega) (fun j u hu => ?_) (fun u hu => ?_) hpos (by unfold maxLen; omega) (by omega) (by simp; omega) (w.heap.size + 1) (by simp) ?_
    · have hj : j < L.length := by
        have := (List.getElem?_eq_some_iff.1 hu).1
        rwa [ivs_length] at this
      rw [show (⟨g, 0, none⟩ : Addr).add j = ⟨g, j, none⟩ by unfold Addr.add; split <;> simp_all, ha.cellAt j (by omega)]
      exact hu
    · obtain ⟨z, _, rfl⟩ := List.mem_map.1 hu
      rfl
    · intro g' cap' w' hown' hgrow hat _
      have hb' : Below w.heap.size w w' := ((((Kept.refl [] w).alloc (.cells #[.int .i64 k] 3))).grown hgrow (fun q hq => by
        injection hq with hq; subst hq; exact .inr (Nat.le_refl _))).below (Nat.le_refl _) (fun q hq => by cases hq)
      rw [Nat.add_comm 1 L.length] at hown' ⊢
      refine h g' cap' w' hown' hb' ?_
      rcases hat with hat | rfl
      · injection hat with hat; subst hat; exact Nat.le_refl _
      · omega
theorem cut_wide (s : ByteArray) (t : Int) (w : World) (hs : (s.size : Int) ≤ 9223372036854775807) (h0 : 0 ≤ t) (ht : t ≤ 9223372036854775807) : Calls Try.prog 22 #[.string s, .int .i64 t] w fun e w' => e = .returned (.string (torn t s)) ∧ w = w' := by
  obtain ⟨n, rfl⟩ : ∃ n : Nat, t = (n : Int) := ⟨t.toNat, by omega⟩
  have H : Hid (torn (n : Int) s = s.extract 0 (min (s.size : Int) (n : Int)).toNat) := by
    show _ = _
    rw [torn, if_pos h0]; congr 1; omega
  clear h0
  go_enter Try.func22, Try.ntmps22
  go_wp2_with fail
  go_ret
  exact ⟨by rw [H.out]; rfl, rfl⟩
/-- a list of flags in memory -/
def FlagsAt (w : World) (A : Option Addr) (l : List Bool) : Prop := ∀ i, i < l.length → ∃ b o, A = some ⟨b, o, none⟩ ∧ w.cell? ⟨b, o + i, none⟩ = some (.bool (l.getD i false))
theorem FlagsAt.then_ {w w' : World} {A : Option Addr} {l : List Bool} (h : FlagsAt w A l) (hb : Below w.heap.size w w') : FlagsAt w' A l := fun i hi => by
  obtain ⟨b, o, hA, hc⟩ := h i hi
  exact ⟨b, o, hA, cell_then hb hc⟩
theorem flag_lt {l : List Bool} {k : Nat} (h : l.getD k false = true) : k < l.length := by
  by_cases hk : k < l.length
  · exact hk
  · rw [List.getD, List.getElem?_eq_none (by omega)] at h; cases h
theorem splice_all {L : List UInt8} {n : Nat} (h : L.length = n) : splice (List.replicate n (0 : UInt8)) 0 L = L := by
  subst h
  simp [splice]
end Go.Proofs.Ytndfakbklfidhaa
