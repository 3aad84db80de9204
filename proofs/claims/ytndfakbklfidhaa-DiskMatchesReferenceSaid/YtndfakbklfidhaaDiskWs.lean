/- Lists of writes among the arguments; a disk beside a row of bytes. -/
import Derived.Test.YtndfakbklfidhaaDiskSane
namespace Go.Proofs.Ytndfakbklfidhaa
open Go.RowKit Dsk
/-- a write of a law: where, what, and whether a Sync follows -/
structure Wp where
  off : Int
  s : ByteArray
  sync : Bool
def wp0 : Wp := ⟨0, ByteArray.empty, false⟩
/-- a list of writes in memory -/
def WsAt (w : World) (A : Option Addr) (l : List Wp) : Prop := ∀ i, i < l.length → ∃ b o, A = some ⟨b, o, none⟩ ∧
  w.cell? ⟨b, o + i * 3, none⟩ = some (.int .i64 (l.getD i wp0).off) ∧ w.cell? ⟨b, o + i * 3 + 1, none⟩ = some (.string (l.getD i wp0).s) ∧ w.cell? ⟨b, o + i * 3 + 2, none⟩ = some (.bool (l.getD i wp0).sync)
theorem WsAt.then_ {w w' : World} {A : Option Addr} {l : List Wp} (h : WsAt w A l) (hb : Below w.heap.size w w') : WsAt w' A l := fun i hi => by
  obtain ⟨b, o, hA, h0, h1, h2⟩ := h i hi
  exact ⟨b, o, hA, cell_then hb h0, cell_then hb h1, cell_then hb h2⟩
/-- what is right of the writes of a law -/
def WsOk (l : List Wp) : Prop := ∀ i, i < l.length → I64 (l.getD i wp0).off ∧ ((l.getD i wp0).s.size : Int) ≤ 9223372036854775807
theorem turn_row {w0 a b : World} {F F' : List Nat} {t : TypeId} {gb : Nat} {L : List UInt8} (hB : Below w0.heap.size w0 a) (hF : ∀ x ∈ F, w0.heap.size ≤ x) (k : Kept F a b) (n : New a F F') (hr : RowB t a gb L) (hn : gb ∉ F) :
    Below w0.heap.size w0 b ∧ (∀ x ∈ F', w0.heap.size ≤ x) ∧ RowB t b gb L ∧ gb ∉ F' := by
  obtain ⟨h1, h2⟩ := turn_next hB hF k n
  refine ⟨h1, h2, hr.kept k hn, fun h => ?_⟩
  rcases n gb h with h | h
  · exact hn h
  · have := hlt hr; omega
theorem row_turn {w0 a b : World} {g gb : Nat} {F : List Nat} {D : Dk} (hB : Below w0.heap.size w0 a) (hg : w0.heap.size ≤ gb) (k : Kept [gb] a b) (h : DiskAt a g F D) (hn : gb ∉ F) : Below w0.heap.size w0 b ∧ DiskAt b g F D :=
  ⟨k.below_next hB hB.size (fun _ hx => List.mem_singleton.1 hx ▸ hg), h.kept k (fun _ hx hx2 => hn (List.mem_singleton.1 hx2 ▸ hx))⟩
theorem quiet_row {w0 a b : World} {g gb : Nat} {F : List Nat} {D : Dk} {t : TypeId} {L : List UInt8} (hB : Below w0.heap.size w0 a) (k : Below a.heap.size a b) (h : DiskAt a g F D) (hr : RowB t a gb L) : Below w0.heap.size w0 b ∧ DiskAt b g F D ∧ RowB t b gb L :=
  ⟨below_next hB k, h.below k, hr.kept (Kept.of_below k) (fun h => by cases h)⟩
/-- a disk with power that is not scheduled to lose it -/
def On (D : Dk) (n k : Nat) : Prop := D.off = false ∧ D.left = 0 ∧ D.sure.length = n ∧ D.pend.length ≤ k
theorem on_nw (n : Nat) : On (nw n) n 0 := ⟨rfl, rfl, by simp [nw], by simp [nw]⟩
theorem on_wr {D : Dk} {n k : Nat} (h : On D n k) (o : Nat) (s : ByteArray) : On (wr D o s) n (k + 1) := by
  obtain ⟨h1, h2, h3, h4⟩ := h
  refine ⟨?_, ?_, h3, ?_⟩
  · show offW D = false
    rw [offW, if_pos h2, h1]
  · show leftW D = 0
    rw [leftW, if_pos h2]
  · simp [wr]; exact h4
theorem on_sy {D : Dk} {n k : Nat} (h : On D n k) (hk : Ok D) : On (sy D) n k := ⟨h.1, h.2.1, by show D.vis.length = n; rw [hk.len]; exact h.2.2.1, by simp [sy]⟩
theorem read_all {D : Dk} {n : Nat} (h : Ok D) (hn : D.sure.length = n) : (D.vis.drop 0).take n = D.vis := by
  rw [List.drop_zero, List.take_of_length_le (by rw [h.len, hn]; exact Nat.le_refl _)]
end Go.Proofs.Ytndfakbklfidhaa
