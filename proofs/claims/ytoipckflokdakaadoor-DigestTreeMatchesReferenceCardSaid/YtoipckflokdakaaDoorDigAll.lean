/- all; the library's slices.Backward at steps of a tree. -/
import Derived.Test.YtoipckflokdakaaDoorDigTake
namespace Go.Proofs.YtoipckflokdakaaDoor
open Go.RowKit Sha Mk Go.Lib
attribute [local go_sem] Oper.semAt_some
abbrev Sm := { s : ByteArray // (s.size : Int) ≤ 9223372036854775807 }
instance : Inhabited Sm := ⟨⟨⟨#[]⟩, by decide⟩⟩
theorem any_sub (p : List ByteArray) (hs : ∀ s ∈ p, (s.size : Int) ≤ 9223372036854775807) : ∃ zs : List Sm, zs.length = p.length ∧ (∀ j, j < zs.length → (zs[j]!).1 = p.getD j ⟨#[]⟩) ∧ (zs.any fun x => oddB x.1) = p.any oddB := by
  induction p with
  | nil => exact ⟨[], rfl, fun j h => by simp at h, rfl⟩
  | cons a t ih =>
    obtain ⟨zs, h1, h2, h3⟩ := ih (fun s hs' => hs s (List.mem_cons_of_mem _ hs'))
    refine ⟨⟨a, hs a (List.mem_cons_self ..)⟩ :: zs, by simp [h1], fun j hj => ?_, by simp [h3]⟩
    cases j with
    | zero => rfl
    | succ j =>
      have := h2 j (by simpa using hj)
      simpa using this
theorem all_any (A : Option Addr) (c n : Nat) (p : List ByteArray) (w : World) (hn : p.length = n) (hA : StrsAt w A p) (hl : n ≤ 1000000) (hs : ∀ s ∈ p, (s.size : Int) ≤ 9223372036854775807) : Calls Tryd.prog 45 #[.slice A n c] w fun e w' => e = .returned (.bool (allB p)) ∧ Below w.heap.size w w' := by
  obtain ⟨r, hr⟩ : ∃ r, p.any oddB = r := ⟨_, rfl⟩
  have hres : allB p = !r := by rw [allB, hr]
  have hc : Calls Tryd.prog 62 #[.slice A n c, .func (.func 61) #[] #[]] w fun e w' => e = .returned (.bool r) ∧ Below w.heap.size w w' := by
    by_cases h0 : n = 0
    · have hp : p = [] := List.eq_nil_of_length_eq_zero (by omega)
      subst h0
      refine (Tryd.slices_ContainsFunc_empty (α := Int) A c _ w).mono ?_
      rintro e w' ⟨rfl, rfl⟩
      exact ⟨by rw [← hr, hp]; rfl, Below.refl _ _⟩
    · obtain ⟨b, o, rfl, -⟩ := hA 0 (by omega)
      obtain ⟨zs, h1, h2, h3⟩ := any_sub p hs
      refine (Tryd.slices_ContainsFunc (α := Sm) (fun x => .string x.1) (fun x => oddB x.1) 61 #[] (enters_of Tryd.func61 (by kernel_rfl) rfl) b o n c zs w (fun W x _ => odd_gives x.1 W x.2) (by omega) (by omega) (fun j hj => ?_)).mono ?_
      · obtain ⟨b', o', e, hc⟩ := hA j (by omega)
        injection e with e
        injection e with e1 e2
        subst e1 e2
        rw [h2 j hj]; exact hc
      · rintro e w' ⟨rfl, q, rfl⟩
        refine ⟨?_, below_drewN (Below.refl _ _)⟩
        rw [List.take_of_length_le (by omega), h3, hr]
  have HC := Lib.hid hc
  have HR := Lib.hid hres
  clear hc hres hr hA hs hn
  go_enter Tryd.func45, Tryd.ntmps45
  go_wp2_with (go_at_call 62; refine HC.out.mono ?_; rintro e w1 ⟨rfl, b1⟩)
  go_ret
  exact ⟨ret_bool HR.out.symm, b1⟩
theorem backW_any (A : Option Addr) (n c : Nat) (w : World) : Calls Tryd.prog 47 #[.slice A n c] w fun e w' => e = .returned (.func (.func 63) #[] #[.pointer (some ⟨w.heap.size, 0, none⟩)]) ∧ w.alloc (.cells #[.slice A n c] 54) = w' := by
  go_enter Tryd.func47, Tryd.ntmps47
  go_wp2
  go_ret
  exact ⟨rfl, rfl⟩
set_option maxRecDepth 100000 in
set_option maxHeartbeats 1000000 in
theorem backW_in (l Bs : Nat) (A : Option Addr) (cap : Nat) (zs : List (ByteArray × Bool)) (J : Nat → World → Prop) (hn : zs.length ≤ 1000000)
    (hJ : ∀ k W, J k W → StepsAt W A zs ∧ W.cell? ⟨Bs, 0, none⟩ = some (.slice A zs.length cap))
    (hY : ∀ k W, k < zs.length → J k W → YieldAt Fence.wide 0 Tryd.prog l #[.int .i64 ((zs.length : Int) - 1 - (k : Int)), .agg #[.string (zs.getD (zs.length - 1 - k) (⟨#[]⟩, false)).1, .bool (zs.getD (zs.length - 1 - k) (⟨#[]⟩, false)).2]] W (fun e W' => e = .returned (.bool true) ∧ J (k + 1) W'))
    (W : World) (h0 : J 0 W) :
    CallsIn Fence.wide 0 Tryd.prog 63 #[.func (.yield l) #[] #[], .pointer (some ⟨Bs, 0, none⟩)] W fun e W' => (∃ v, e = .returned v) ∧ J zs.length W' := by
  have hb := (hJ 0 W h0).2
  refine callsIn_of_wp Tryd.func63 rfl trivial ?_ rfl
  simp only [Tryd.ntmps63, List.size_toArray, List.length_cons, List.length_nil, Nat.reduceAdd, Nat.reduceSub, Array.replicate_succ, Array.replicate_zero, List.push_toArray, List.append_toArray, List.nil_append, List.cons_append]
  gi_wp2
  gi_loopw [3] (fun i wr => ∃ k : Nat, k ≤ zs.length ∧ i = .int .i64 ((zs.length : Int) - 1 - (k : Int)) ∧ J k wr) (fun i _ => (intOf i + 1).toNat)
  case atStart => exact ⟨0, Nat.zero_le _, by simp, h0⟩
  case round =>
    obtain ⟨k, hk, rfl, hJk⟩ := hrel
    by_cases hlt : k < zs.length
    · obtain ⟨hst, hbx⟩ := hJ k wr hJk
      obtain ⟨b, rfl, hc1, hc2⟩ := hst (zs.length - 1 - k) (by omega)
      obtain ⟨fn, tmps, assign, body, hy1, hR⟩ := hY k wr hlt hJk
      obtain ⟨z, hz⟩ : ∃ z, zs.getD (zs.length - 1 - k) (⟨#[]⟩, false) = z := ⟨_, rfl⟩
      rw [hz] at hc1 hc2 hy1
      obtain ⟨z1, z2⟩ := z
      simp only at hc1 hc2 hy1
      clear hz hJ hY hst hb
      have i1 : (0 : Int) ≤ (zs.length : Int) - 1 - (k : Int) := by omega
      have i2 : (zs.length : Int) - 1 - (k : Int) < (zs.length : Int) := by omega
      have i3 : ((zs.length : Int) - 1 - (k : Int)).toNat = zs.length - 1 - k := by omega
      gi_wp2
      refine ⟨rfl, hR.mono ?_⟩
      rintro e W3 ⟨rfl, hJ3⟩
      gi_wp2
      refine ⟨⟨k + 1, by omega, ?_, hJ3⟩, by simp [intOf]; omega⟩
      congr 1
      omega
    · obtain rfl : k = zs.length := by omega
      have i1 : ¬ (0 : Int) ≤ (zs.length : Int) - 1 - (zs.length : Int) := by omega
      clear hJ hY
      gi_wp2
      go_end0
      exact ⟨⟨_, rfl⟩, hJk⟩
end Go.Proofs.YtoipckflokdakaaDoor
