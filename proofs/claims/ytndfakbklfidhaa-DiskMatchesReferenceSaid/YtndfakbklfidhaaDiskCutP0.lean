/- A disk that is scheduled to lose its power. -/
import Derived.Test.YtndfakbklfidhaaDiskTrio
namespace Go.Proofs.Ytndfakbklfidhaa
open Go.RowKit Dsk
/-- a disk behind Cut(c) and k attempts to write -/
def CutP (D : Dk) (n c k : Nat) : Prop := D.off = decide (c ≤ k) ∧ D.left = ((c - k : Nat) : Int) ∧ D.sure.length = n ∧ D.pend.length = min k c ∧ Vis D
theorem cutP_start (n c : Nat) (m : Int) : CutP (cu (cu (nw n) m) (c : Int)) n c 0 := by
  refine ⟨?_, rfl, by simp [cu, nw], by simp [cu, nw], vis_nw n⟩
  show ((c : Int) == 0) = decide (c ≤ 0)
  by_cases h : c = 0
  · subst h; rfl
  · rw [decide_eq_false (by omega), beq_eq_false_iff_ne]; omega
theorem cutP_in {D : Dk} {n c k : Nat} (h : CutP D n c k) (hk : k < c) (o : Nat) (s : ByteArray) : CutP (wr D o s) n c (k + 1) := by
  obtain ⟨h1, h2, h3, h4, h5⟩ := h
  have hl : ¬ D.left = 0 := by rw [h2]; omega
  refine ⟨?_, ?_, h3, ?_, vis_wr h5 o s⟩
  · show offW D = _
    rw [offW, if_neg hl, h2]
    by_cases e : c ≤ k + 1
    · rw [decide_eq_true e, beq_iff_eq]; omega
    · rw [decide_eq_false e, beq_eq_false_iff_ne]; omega
  · show leftW D = _
    rw [leftW, if_neg hl, h2]; omega
  · show (D.pend ++ [(o, s)]).length = _
    rw [List.length_append, h4]; simp; omega
theorem cutP_out {D : Dk} {n c k : Nat} (h : CutP D n c k) (hk : c ≤ k) : CutP D n c (k + 1) := by
  obtain ⟨h1, h2, h3, h4, h5⟩ := h
  exact ⟨by rw [h1, decide_eq_true hk, decide_eq_true (by omega)], by rw [h2]; omega, h3, by rw [h4]; omega, h5⟩
/-- a slice's own block beside a disk and a row -/
def Beside (v : Value) (F : List Nat) (gb : Nat) : Prop := ∀ q, v.ownBlock = some q → q ∉ F ∧ q ≠ gb
theorem Beside.new {v : Value} {F F' : List Nat} {gb : Nat} {w : World} {base n : Nat} {e : TypeId} {size : Nat} {xs : List Value} (h : Beside v F gb) (ho : w.ownsRow base e size v n xs) (k : New w F F') : Beside v F' gb :=
  fun q hq => ⟨nin_new (h q hq).1 k (ho.lt q hq).2, (h q hq).2⟩
/-- a disk and a row while a slice of its own grows -/
theorem grow_turn {w0 a b : World} {g gb : Nat} {F : List Nat} {D : Dk} {t : TypeId} {L : List UInt8} {v : Value} {g' H : Nat} (hB : Below w0.heap.size w0 a) (h : DiskAt a g F D) (hr : RowB t a gb L) (hs : Beside v F gb) (hv : ∀ q, v.ownBlock = some q → w0.heap.size ≤ q) (hg : a.grownBy b v.ownBlock)
    (hat : v.ownBlock = some g' ∨ g' = H) (hH : a.heap.size ≤ H) : Below w0.heap.size w0 b ∧ DiskAt b g F D ∧ RowB t b gb L ∧ (g' ∉ F ∧ g' ≠ gb) := by
  have hk : Kept v.ownBlock.toList a b := (Kept.refl _ _).grown hg (fun k hk => .inl (mem_own hk))
  refine ⟨hB.grown hg hB.size hv, h.kept hk (fun x hx hx2 => (hs x (own_mem hx2)).1 hx), hr.kept hk (fun hx => (hs gb (own_mem hx)).2 rfl), ?_⟩
  rcases hat with hat | rfl
  · exact hs g' hat
  · exact ⟨fun e => by have := h.lt _ e; omega, fun e => by have := hlt hr; omega⟩
end Go.Proofs.Ytndfakbklfidhaa
