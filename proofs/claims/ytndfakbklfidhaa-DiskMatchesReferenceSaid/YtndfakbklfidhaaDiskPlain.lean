/- A simulated disk as plain data: what its calls return and leave. No program stands here. -/
import Derived.Laws.CopyOwn
namespace Go.Proofs.Ytndfakbklfidhaa.Dsk
open Go
/-- what a disk is: whether it has no power, after how many writes it loses it, the durable and the visible bytes, the pending writes -/
structure Dk where
  off : Bool
  left : Int
  sure : List UInt8
  vis : List UInt8
  pend : List (Nat × ByteArray)
/-- n bytes from a place on lie on a disk of so many bytes -/
def inB (len : Nat) (off n : Int) : Bool := decide (0 ≤ off) && decide (0 ≤ n) && decide (off ≤ (len : Int)) && decide (n ≤ (len : Int) - off)
theorem inB_iff {len : Nat} {off n : Int} : inB len off n = true ↔ 0 ≤ off ∧ 0 ≤ n ∧ off ≤ (len : Int) ∧ n ≤ (len : Int) - off := by
  simp [inB, and_assoc]
theorem inB_not {len : Nat} {off n : Int} (h : inB len off n = false) : ¬ (0 ≤ off ∧ 0 ≤ n ∧ off ≤ (len : Int) ∧ n ≤ (len : Int) - off) := fun h' => by
  rw [inB_iff.2 h'] at h; cases h
/-- the bytes of a string -/
def bts (s : ByteArray) : List UInt8 := s.data.toList
theorem bts_length (s : ByteArray) : (bts s).length = s.size := by rw [bts, Array.length_toList]; rfl
/-- bytes as a string -/
def sof (l : List UInt8) : ByteArray := ⟨l.toArray⟩
theorem bts_sof (l : List UInt8) : bts (sof l) = l := by simp [bts, sof]
theorem sof_bts (s : ByteArray) : sof (bts s) = s := by cases s; simp [bts, sof]
theorem sof_inj {a b : List UInt8} (h : sof a = sof b) : a = b := by rw [← bts_sof a, h, bts_sof]
/-- a write laid over a content -/
def over (b : List UInt8) (p : Nat × ByteArray) : List UInt8 := splice b p.1 (bts p.2)
theorem over_length {b : List UInt8} {p : Nat × ByteArray} (h : p.1 + p.2.size ≤ b.length) : (over b p).length = b.length :=
  length_splice _ _ _ (by rw [bts_length]; exact h)
/-- writes laid over a content, one behind the other -/
def overs (b : List UInt8) (l : List (Nat × ByteArray)) : List UInt8 := l.foldl over b
theorem overs_snoc (b : List UInt8) (l : List (Nat × ByteArray)) (p : Nat × ByteArray) : overs b (l ++ [p]) = over (overs b l) p := by simp [overs]
/-- writes that lie on a disk of so many bytes -/
def Fit (n : Nat) (l : List (Nat × ByteArray)) : Prop := ∀ p ∈ l, p.1 + p.2.size ≤ n
theorem overs_length : ∀ {l : List (Nat × ByteArray)} {b : List UInt8}, Fit b.length l → (overs b l).length = b.length
  | [], _, _ => rfl
  | p :: r, b, h => by
    have hp := over_length (h p (by simp))
    show (overs (over b p) r).length = _
    rw [overs_length (fun q hq => by rw [hp]; exact h q (by simp [hq])), hp]
/-- the power behind a write -/
def offW (D : Dk) : Bool := if D.left = 0 then D.off else D.left - 1 == 0
def leftW (D : Dk) : Int := if D.left = 0 then 0 else D.left - 1
/-- a write that is made -/
def wr (D : Dk) (o : Nat) (s : ByteArray) : Dk := { off := offW D, left := leftW D, sure := D.sure, vis := over D.vis (o, s), pend := D.pend ++ [(o, s)] }
/-- a Sync that is made -/
def sy (D : Dk) : Dk := { D with sure := D.vis, pend := [] }
/-- a Cut that is made -/
def cu (D : Dk) (n : Int) : Dk := { D with off := n == 0, left := n }
/-- a string cut off -/
def torn (t : Int) (s : ByteArray) : ByteArray := if 0 ≤ t then s.extract 0 (min t.toNat s.size) else s
/-- the surviving writes, the last one torn -/
def tear (t : Int) : List (Nat × ByteArray) → List (Nat × ByteArray)
  | [] => []
  | [p] => [(p.1, torn t p.2)]
  | p :: q :: r => p :: tear t (q :: r)
/-- the indices that survive -/
def keptI (n : Nat) (keep : List Int) : List Nat := (List.range n).filter fun i => keep.contains (i : Int)
/-- the writes that survive -/
def surv (D : Dk) (keep : List Int) (t : Int) : List (Nat × ByteArray) := tear t ((keptI D.pend.length keep).map fun i => D.pend.getD i (0, ByteArray.empty))
/-- a crash -/
def cr (D : Dk) (keep : List Int) (t : Int) : Dk := { off := false, left := 0, sure := overs D.sure (surv D keep t), vis := overs D.sure (surv D keep t), pend := [] }
/-- a new disk -/
def nw (n : Nat) : Dk := { off := false, left := 0, sure := List.replicate n 0, vis := List.replicate n 0, pend := [] }
/-- what is right of every disk -/
structure Ok (D : Dk) : Prop where
  len : D.vis.length = D.sure.length
  max : D.sure.length ≤ 4194304
  pos : 0 ≤ D.left
  left : D.left ≤ 9223372036854775807
  fit : Fit D.sure.length D.pend
theorem ok_nw {n : Nat} (h : n ≤ 4194304) : Ok (nw n) := ⟨rfl, by simpa [nw] using h, by simp [nw], by simp [nw], fun p hp => by simp [nw] at hp⟩
theorem ok_wr {D : Dk} (h : Ok D) {o : Nat} {s : ByteArray} (hf : o + s.size ≤ D.sure.length) : Ok (wr D o s) := by
  have h1 := h.len; have h2 := h.max; have h3 := h.pos; have h4 := h.left
  refine ⟨?_, h2, ?_, ?_, fun p hp => ?_⟩
  · show (over D.vis (o, s)).length = D.sure.length
    rw [over_length (by rw [h1]; exact hf), h1]
  · show 0 ≤ leftW D
    unfold leftW; split <;> omega
  · show leftW D ≤ _
    unfold leftW; split <;> omega
  · rcases List.mem_append.1 hp with hp | hp
    · exact h.fit p hp
    · obtain rfl : p = (o, s) := by simpa using hp
      exact hf
theorem ok_sy {D : Dk} (h : Ok D) : Ok (sy D) := ⟨rfl, by show D.vis.length ≤ _; rw [h.len]; exact h.max, h.pos, h.left, fun p hp => by simp [sy] at hp⟩
theorem ok_cu {D : Dk} (h : Ok D) {n : Int} (h0 : 0 ≤ n) (h1 : n ≤ 9223372036854775807) : Ok (cu D n) := ⟨h.len, h.max, h0, h1, h.fit⟩
theorem torn_le (t : Int) (s : ByteArray) : (torn t s).size ≤ s.size := by
  unfold torn; split
  · rw [ByteArray.size_extract]; omega
  · exact Nat.le_refl _
theorem fit_tear {n : Nat} {t : Int} : ∀ {l : List (Nat × ByteArray)}, Fit n l → Fit n (tear t l)
  | [], _ => fun p hp => by simp [tear] at hp
  | [p], h => fun q hq => by
    obtain rfl : q = (p.1, torn t p.2) := by simpa [tear] using hq
    have := h p (by simp)
    have := torn_le t p.2
    show p.1 + (torn t p.2).size ≤ n
    omega
  | p :: q :: r, h => fun x hx => by
    rw [tear, List.mem_cons] at hx
    rcases hx with rfl | hx
    · exact h x (by simp)
    · exact fit_tear (l := q :: r) (fun y hy => h y (by simp at hy ⊢; exact .inr hy)) x hx
theorem fit_surv {D : Dk} (h : Ok D) (keep : List Int) (t : Int) : Fit D.sure.length (surv D keep t) := by
  refine fit_tear fun p hp => ?_
  obtain ⟨i, hi, rfl⟩ := List.mem_map.1 hp
  have hi := (List.mem_filter.1 hi).1
  have hi : i < D.pend.length := by simpa using hi
  rw [List.getD, List.getElem?_eq_getElem hi]
  exact h.fit _ (List.getElem_mem hi)
theorem ok_cr {D : Dk} (h : Ok D) (keep : List Int) (t : Int) : Ok (cr D keep t) :=
  ⟨rfl, by show (overs _ _).length ≤ _; rw [overs_length (fit_surv h keep t)]; exact h.max, Int.le_refl _, by simp [cr], fun p hp => by simp [cr] at hp⟩
theorem wr_sure (D : Dk) (o : Nat) (s : ByteArray) : (wr D o s).sure = D.sure := rfl
theorem cr_length {D : Dk} (h : Ok D) (keep : List Int) (t : Int) : (cr D keep t).sure.length = D.sure.length := overs_length (fit_surv h keep t)
end Go.Proofs.Ytndfakbklfidhaa.Dsk
