/- The small functions of the laws of chapter 33: pick, cut, fits, put. The examples with which each law of chapter 33 begins. Lists of writes among the arguments; a disk beside a row of bytes. Three disks side by side. A disk that is scheduled to lose its power. -/
import Derived.Test.YtnjkinljpekohaaGreatDoorBm
namespace Go.Proofs.YtnjkinljpekohaaGreatDoor
open Go.RowKit Dsk
def I64 (c : Int) : Prop := -9223372036854775808 ≤ c ∧ c ≤ 9223372036854775807
/-- an arbitrary integer as an index below n -/
def pk (c : Int) (n : Nat) : Nat := ((if c < 0 then -(c + 1) else c) % (n : Int)).toNat
theorem pk_lt (c : Int) {n : Nat} (h : 1 ≤ n) : pk c n < n := by
  unfold pk
  have h2 : (n : Int) ≠ 0 := by omega
  have h3 := Int.emod_lt_of_pos (if c < 0 then -(c + 1) else c) (show (0 : Int) < (n : Int) by omega)
  have h4 := Int.emod_nonneg (if c < 0 then -(c + 1) else c) h2
  omega
theorem pk_cast (c : Int) {n : Nat} (h : 1 ≤ n) : ((pk c n : Nat) : Int) = (if c < 0 then -(c + 1) else c) % (n : Int) := by
  unfold pk
  have h4 := Int.emod_nonneg (if c < 0 then -(c + 1) else c) (show (n : Int) ≠ 0 by omega)
  omega
/-- a string cut to n bytes -/
def cutS (s : ByteArray) (n : Nat) : ByteArray := s.extract 0 (min s.size n)
theorem cutS_size (s : ByteArray) (n : Nat) : (cutS s n).size = min s.size n := by rw [cutS, ByteArray.size_extract]; omega
theorem splice_zero {α : Type} (L : List α) (o : Nat) : splice L o [] = L := by simp [splice]
theorem splice_next {α : Type} [Inhabited α] (L c : List α) (o k : Nat) (hk : k < c.length) (h : o + c.length ≤ L.length) (d : α) : (splice L o (c.take k)).set (o + k) (c.getD k d) = splice L o (c.take (k + 1)) := by
  apply List.ext_getElem?
  intro i
  rw [List.getElem?_set]
  have hg : c[k]? = some (c.getD k d) := by rw [List.getD, List.getElem?_eq_getElem hk]; rfl
  simp only [splice, List.length_append, List.length_take, List.length_drop, List.getElem?_append, List.getElem?_take, List.getElem?_drop]
  have m1 : min o L.length = o := by omega
  have m2 : min k c.length = k := by omega
  have m3 : min (k + 1) c.length = k + 1 := by omega
  simp only [m1, m2, m3]
  by_cases h1 : o + k = i
  · subst h1
    rw [if_pos rfl, if_pos (by omega), if_neg (by omega), if_pos (by omega), if_pos (by omega)]
    rw [show o + k - o = k by omega, hg]
  · rw [if_neg h1]
    by_cases h2 : i < o
    · simp only [if_pos h2]
    · simp only [if_neg h2]
      by_cases h3 : i - o < k
      · simp only [if_pos h3, if_pos (show i - o < k + 1 by omega)]
      · simp only [if_neg h3, if_neg (show ¬ i - o < k + 1 by omega)]
        congr 1
        omega
/-- bytes stored one by one -/
theorem row_store {t : TypeId} {w : World} {g : Nat} {L : List UInt8} (h : RowB t w g L) {i : Nat} {b : UInt8} : RowB t (w.setCell ⟨g, i, none⟩ (.int .u8 (b.toNat : Int))) g (L.set i b) := by
  have := heap_setCell_same w g i _ t (.int .u8 (b.toNat : Int)) h
  unfold RowB
  rw [this]
  congr 2
  apply Array.toList_inj.1
  simp [bcs, List.map_set]
end Go.Proofs.YtnjkinljpekohaaGreatDoor
namespace Go.Proofs.YtnjkinljpekohaaGreatDoor
open Go.RowKit Dsk
theorem turn_next {w0 a b : World} {F F' : List Nat} (hB : Below w0.heap.size w0 a) (hF : ∀ x ∈ F, w0.heap.size ≤ x) (k : Kept F a b) (n : New a F F') : Below w0.heap.size w0 b ∧ ∀ x ∈ F', w0.heap.size ≤ x :=
  ⟨k.below_next hB hB.size hF, fun x hx => by
    rcases n x hx with h | h
    · exact hF x h
    · exact Nat.le_trans hB.size h⟩
def sn1 : Dk := wr (nw 4) 0 ⟨#[97, 98]⟩
def sn2 : Dk := wr sn1 1 ⟨#[120, 121]⟩
def sn3 : Dk := cr sn2 [1, 0] 1
def sn4 : Dk := cu sn3 1
def sn5 : Dk := wr sn4 3 ⟨#[113]⟩
theorem sn2_read : sof ((sn2.vis.drop 0).take 4) = ⟨#[97, 120, 121, 0]⟩ := by decide +kernel
theorem sn3_read : sof ((sn3.vis.drop 0).take 4) = ⟨#[97, 120, 0, 0]⟩ := by decide +kernel
theorem sn3_len : sn3.sure.length = 4 := by decide +kernel
end Go.Proofs.YtnjkinljpekohaaGreatDoor
namespace Go.Proofs.YtnjkinljpekohaaGreatDoor
open Go.RowKit Dsk
/-- a write of a law: where, what, and whether a Sync follows -/
structure Wp where
  off : Int
  s : ByteArray
  sync : Bool
def wp0 : Wp := ⟨0, ByteArray.empty, false⟩
/-- a list of writes in memory -/
def WsAt (w : World) (A : Option Addr) (l : List Wp) : Prop := ∀ i, i < l.length → ∃ b o, A = some ⟨b, o, none⟩ ∧
  w.cell? ⟨b, o + i * 3, none⟩ = some (.int .i64 (l.getD i wp0).off) ∧ w.cell? ⟨b, o + i * 3 + 1, none⟩ = some (.string (l.getD i wp0).s) ∧ w.cell? ⟨b, o + i * 3 + 2, none⟩ = some (.bool (l.getD i wp0).sync)
theorem WsAt.then_ {w w' : World} {A : Option Addr} {l : List Wp} (h : WsAt w A l) (hb : Below w.heap.size w w') : WsAt w' A l := fun i hi => by
  obtain ⟨b, o, hA, h0, h1, h2⟩ := h i hi
  exact ⟨b, o, hA, cell_then hb h0, cell_then hb h1, cell_then hb h2⟩
/-- what is right of the writes of a law -/
def WsOk (l : List Wp) : Prop := ∀ i, i < l.length → I64 (l.getD i wp0).off ∧ ((l.getD i wp0).s.size : Int) ≤ 9223372036854775807
theorem turn_row {w0 a b : World} {F F' : List Nat} {t : TypeId} {gb : Nat} {L : List UInt8} (hB : Below w0.heap.size w0 a) (hF : ∀ x ∈ F, w0.heap.size ≤ x) (k : Kept F a b) (n : New a F F') (hr : RowB t a gb L) (hn : gb ∉ F) :
    Below w0.heap.size w0 b ∧ (∀ x ∈ F', w0.heap.size ≤ x) ∧ RowB t b gb L ∧ gb ∉ F' := by
  obtain ⟨h1, h2⟩ := turn_next hB hF k n
  refine ⟨h1, h2, hr.kept k hn, fun h => ?_⟩
  rcases n gb h with h | h
  · exact hn h
  · have := hlt hr; omega
theorem row_turn {w0 a b : World} {g gb : Nat} {F : List Nat} {D : Dk} (hB : Below w0.heap.size w0 a) (hg : w0.heap.size ≤ gb) (k : Kept [gb] a b) (h : DiskAt a g F D) (hn : gb ∉ F) : Below w0.heap.size w0 b ∧ DiskAt b g F D :=
  ⟨k.below_next hB hB.size (fun _ hx => List.mem_singleton.1 hx ▸ hg), h.kept k (fun _ hx hx2 => hn (List.mem_singleton.1 hx2 ▸ hx))⟩
theorem quiet_row {w0 a b : World} {g gb : Nat} {F : List Nat} {D : Dk} {t : TypeId} {L : List UInt8} (hB : Below w0.heap.size w0 a) (k : Below a.heap.size a b) (h : DiskAt a g F D) (hr : RowB t a gb L) : Below w0.heap.size w0 b ∧ DiskAt b g F D ∧ RowB t b gb L :=
  ⟨below_next hB k, h.below k, hr.kept (Kept.of_below k) (fun h => by cases h)⟩
/-- a disk with power that is not scheduled to lose it -/
def On (D : Dk) (n k : Nat) : Prop := D.off = false ∧ D.left = 0 ∧ D.sure.length = n ∧ D.pend.length ≤ k
theorem on_nw (n : Nat) : On (nw n) n 0 := ⟨rfl, rfl, by simp [nw], by simp [nw]⟩
theorem on_wr {D : Dk} {n k : Nat} (h : On D n k) (o : Nat) (s : ByteArray) : On (wr D o s) n (k + 1) := by
  obtain ⟨h1, h2, h3, h4⟩ := h
  refine ⟨?_, ?_, h3, ?_⟩
  · show offW D = false
    rw [offW, if_pos h2, h1]
  · show leftW D = 0
    rw [leftW, if_pos h2]
  · simp [wr]; exact h4
theorem on_sy {D : Dk} {n k : Nat} (h : On D n k) (hk : Ok D) : On (sy D) n k := ⟨h.1, h.2.1, by show D.vis.length = n; rw [hk.len]; exact h.2.2.1, by simp [sy]⟩
theorem read_all {D : Dk} {n : Nat} (h : Ok D) (hn : D.sure.length = n) : (D.vis.drop 0).take n = D.vis := by
  rw [List.drop_zero, List.take_of_length_le (by rw [h.len, hn]; exact Nat.le_refl _)]
end Go.Proofs.YtnjkinljpekohaaGreatDoor
namespace Go.Proofs.YtnjkinljpekohaaGreatDoor
open Go.RowKit Dsk
theorem DiskAt.drew {w : World} {g : Nat} {F : List Nat} {D : Dk} (h : DiskAt w g F D) : DiskAt w.drew g F D := h.kept (Kept.refl [] _).drew (fun _ _ h => by cases h)
def Apart (A B : List Nat) : Prop := ∀ x ∈ A, x ∉ B
theorem Apart.symm {A B : List Nat} (h : Apart A B) : Apart B A := fun x hx hy => h x hy hx
theorem Apart.new {A A' B : List Nat} {w : World} (h : Apart A B) (n : New w A A') (hB : ∀ x ∈ B, x < w.heap.size) : Apart A' B := fun x hx hy => by
  rcases n x hx with k | k
  · exact h x k hy
  · have := hB x hy; omega
structure Trio (w0 w : World) (g1 g2 g3 : Nat) (F1 F2 F3 : List Nat) (D1 D2 D3 : Dk) : Prop where
  d1 : DiskAt w g1 F1 D1
  d2 : DiskAt w g2 F2 D2
  d3 : DiskAt w g3 F3 D3
  b1 : ∀ x ∈ F1, w0.heap.size ≤ x
  b2 : ∀ x ∈ F2, w0.heap.size ≤ x
  b3 : ∀ x ∈ F3, w0.heap.size ≤ x
  s12 : Apart F1 F2
  s13 : Apart F1 F3
  s23 : Apart F2 F3
  below : Below w0.heap.size w0 w
section
variable {w0 w w' : World} {g1 g2 g3 : Nat} {F1 F2 F3 F' : List Nat} {D1 D2 D3 D' : Dk}
theorem Trio.quiet (h : Trio w0 w g1 g2 g3 F1 F2 F3 D1 D2 D3) (k : Below w.heap.size w w') : Trio w0 w' g1 g2 g3 F1 F2 F3 D1 D2 D3 :=
  ⟨h.d1.below k, h.d2.below k, h.d3.below k, h.b1, h.b2, h.b3, h.s12, h.s13, h.s23, below_next h.below k⟩
theorem Trio.drew (h : Trio w0 w g1 g2 g3 F1 F2 F3 D1 D2 D3) : Trio w0 w.drew g1 g2 g3 F1 F2 F3 D1 D2 D3 := h.quiet (Below.refl _ _).drew
theorem Trio.t1 (h : Trio w0 w g1 g2 g3 F1 F2 F3 D1 D2 D3) (d : DiskAt w' g1 F' D') (k : Kept F1 w w') (n : New w F1 F') : Trio w0 w' g1 g2 g3 F' F2 F3 D' D2 D3 := by
  obtain ⟨q1, q2⟩ := turn_next h.below h.b1 k n
  exact ⟨d, h.d2.kept k h.s12.symm, h.d3.kept k h.s13.symm, q2, h.b2, h.b3, h.s12.new n h.d2.lt, h.s13.new n h.d3.lt, h.s23, q1⟩
theorem Trio.t2 (h : Trio w0 w g1 g2 g3 F1 F2 F3 D1 D2 D3) (d : DiskAt w' g2 F' D') (k : Kept F2 w w') (n : New w F2 F') : Trio w0 w' g1 g2 g3 F1 F' F3 D1 D' D3 := by
  obtain ⟨q1, q2⟩ := turn_next h.below h.b2 k n
  exact ⟨h.d1.kept k h.s12, d, h.d3.kept k h.s23.symm, h.b1, q2, h.b3, (h.s12.symm.new n h.d1.lt).symm, h.s13, h.s23.new n h.d3.lt, q1⟩
theorem Trio.t3 (h : Trio w0 w g1 g2 g3 F1 F2 F3 D1 D2 D3) (d : DiskAt w' g3 F' D') (k : Kept F3 w w') (n : New w F3 F') : Trio w0 w' g1 g2 g3 F1 F2 F' D1 D2 D' := by
  obtain ⟨q1, q2⟩ := turn_next h.below h.b3 k n
  exact ⟨h.d1.kept k h.s13, h.d2.kept k h.s23, d, h.b1, h.b2, q2, h.s12, (h.s13.symm.new n h.d1.lt).symm, (h.s23.symm.new n h.d2.lt).symm, q1⟩
/-- a block beside the three disks -/
def Out (b : Nat) (F1 F2 F3 : List Nat) : Prop := b ∉ F1 ∧ b ∉ F2 ∧ b ∉ F3
theorem Trio.out (h : Trio w0 w g1 g2 g3 F1 F2 F3 D1 D2 D3) {b : Nat} (hb : w.heap.size ≤ b) : Out b F1 F2 F3 :=
  ⟨fun e => by have := h.d1.lt b e; omega, fun e => by have := h.d2.lt b e; omega, fun e => by have := h.d3.lt b e; omega⟩
end
theorem nin_new {w : World} {F F' : List Nat} {b : Nat} (h : b ∉ F) (n : New w F F') (hb : b < w.heap.size) : b ∉ F' := fun e => by
  rcases n b e with k | k
  · exact h k
  · omega
/-- the three cells of a box -/
def Box3 (w : World) (b : Nat) (a c d : Value) : Prop := w.cell? ⟨b, 0, none⟩ = some a ∧ w.cell? ⟨b, 1, none⟩ = some c ∧ w.cell? ⟨b, 2, none⟩ = some d
theorem Box3.kept {w w' : World} {b : Nat} {a c d : Value} {F : List Nat} (h : Box3 w b a c d) (k : Kept F w w') (hn : b ∉ F) : Box3 w' b a c d := ⟨k.cell h.1 hn, k.cell h.2.1 hn, k.cell h.2.2 hn⟩
theorem on_cr {D : Dk} {n k : Nat} (h : On D n k) (t : Int) : On (cr D [] t) n k := by
  rw [cr_nil]; exact ⟨rfl, rfl, h.2.2.1, by simp⟩
end Go.Proofs.YtnjkinljpekohaaGreatDoor
namespace Go.Proofs.YtnjkinljpekohaaGreatDoor
open Go.RowKit Dsk
/-- a disk behind Cut(c) and k attempts to write -/
def CutP (D : Dk) (n c k : Nat) : Prop := D.off = decide (c ≤ k) ∧ D.left = ((c - k : Nat) : Int) ∧ D.sure.length = n ∧ D.pend.length = min k c ∧ Vis D
theorem cutP_start (n c : Nat) (m : Int) : CutP (cu (cu (nw n) m) (c : Int)) n c 0 := by
  refine ⟨?_, rfl, by simp [cu, nw], by simp [cu, nw], vis_nw n⟩
  show ((c : Int) == 0) = decide (c ≤ 0)
  by_cases h : c = 0
  · subst h; rfl
  · rw [decide_eq_false (by omega), beq_eq_false_iff_ne]; omega
theorem cutP_in {D : Dk} {n c k : Nat} (h : CutP D n c k) (hk : k < c) (o : Nat) (s : ByteArray) : CutP (wr D o s) n c (k + 1) := by
  obtain ⟨h1, h2, h3, h4, h5⟩ := h
  have hl : ¬ D.left = 0 := by rw [h2]; omega
  refine ⟨?_, ?_, h3, ?_, vis_wr h5 o s⟩
  · show offW D = _
    rw [offW, if_neg hl, h2]
    by_cases e : c ≤ k + 1
    · rw [decide_eq_true e, beq_iff_eq]; omega
    · rw [decide_eq_false e, beq_eq_false_iff_ne]; omega
  · show leftW D = _
    rw [leftW, if_neg hl, h2]; omega
  · show (D.pend ++ [(o, s)]).length = _
    rw [List.length_append, h4]; simp; omega
theorem cutP_out {D : Dk} {n c k : Nat} (h : CutP D n c k) (hk : c ≤ k) : CutP D n c (k + 1) := by
  obtain ⟨h1, h2, h3, h4, h5⟩ := h
  exact ⟨by rw [h1, decide_eq_true hk, decide_eq_true (by omega)], by rw [h2]; omega, h3, by rw [h4]; omega, h5⟩
/-- a slice's own block beside a disk and a row -/
def Beside (v : Value) (F : List Nat) (gb : Nat) : Prop := ∀ q, v.ownBlock = some q → q ∉ F ∧ q ≠ gb
theorem Beside.new {v : Value} {F F' : List Nat} {gb : Nat} {w : World} {base n : Nat} {e : TypeId} {size : Nat} {xs : List Value} (h : Beside v F gb) (ho : w.ownsRow base e size v n xs) (k : New w F F') : Beside v F' gb :=
  fun q hq => ⟨nin_new (h q hq).1 k (ho.lt q hq).2, (h q hq).2⟩
/-- a disk and a row while a slice of its own grows -/
theorem grow_turn {w0 a b : World} {g gb : Nat} {F : List Nat} {D : Dk} {t : TypeId} {L : List UInt8} {v : Value} {g' H : Nat} (hB : Below w0.heap.size w0 a) (h : DiskAt a g F D) (hr : RowB t a gb L) (hs : Beside v F gb) (hv : ∀ q, v.ownBlock = some q → w0.heap.size ≤ q) (hg : a.grownBy b v.ownBlock)
    (hat : v.ownBlock = some g' ∨ g' = H) (hH : a.heap.size ≤ H) : Below w0.heap.size w0 b ∧ DiskAt b g F D ∧ RowB t b gb L ∧ (g' ∉ F ∧ g' ≠ gb) := by
  have hk : Kept v.ownBlock.toList a b := (Kept.refl _ _).grown hg (fun k hk => .inl (mem_own hk))
  refine ⟨hB.grown hg hB.size hv, h.kept hk (fun x hx hx2 => (hs x (own_mem hx2)).1 hx), hr.kept hk (fun hx => (hs gb (own_mem hx)).2 rfl), ?_⟩
  rcases hat with hat | rfl
  · exact hs g' hat
  · exact ⟨fun e => by have := h.lt _ e; omega, fun e => by have := hlt hr; omega⟩
end Go.Proofs.YtnjkinljpekohaaGreatDoor
