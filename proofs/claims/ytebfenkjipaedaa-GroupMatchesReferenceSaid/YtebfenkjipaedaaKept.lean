/- What lies on when some blocks, named, turn; rows of bytes; copying a string into a row. No program stands here. -/
import Derived.Test.YtebfenkjipaedaaMem
import Derived.Test.YtebfenkjipaedaaOneWay
import Derived.Laws.OwnMore
import Derived.Laws.CopyOwn
import Derived.Laws.MakeOwn
import Derived.Lib.BufferWrite
import Derived.Deep.AppendLies
import Derived.OwnWalk
namespace Go.Proofs.Ytebfenkjipaedaa
open Go.RowKit
/-- all blocks that were there, but those of S, are as they were -/
structure Kept (S : List Nat) (w w' : World) : Prop where
  os : w'.os = w.os
  tape : w'.tape = w.tape
  output : w'.output = w.output
  size : w.heap.size ≤ w'.heap.size
  block : ∀ k, k < w.heap.size → k ∉ S → w'.heap[k]? = w.heap[k]?
/-- S' is of S, or new -/
def New (w : World) (S S' : List Nat) : Prop := ∀ k ∈ S', k ∈ S ∨ w.heap.size ≤ k
theorem hlt {w : World} {k : Nat} {x : Obj} (h : w.heap[k]? = some x) : k < w.heap.size := (Array.getElem?_eq_some_iff.1 h).1
theorem Kept.refl (S : List Nat) (w : World) : Kept S w w := ⟨rfl, rfl, rfl, Nat.le_refl _, fun _ _ _ => rfl⟩
theorem Kept.trans {S S' : List Nat} {a b c : World} (h : Kept S a b) (k : Kept S' b c) (hs : New a S S') : Kept S a c :=
  ⟨k.os.trans h.os, k.tape.trans h.tape, k.output.trans h.output, Nat.le_trans h.size k.size, fun i hi hn =>
    (k.block i (Nat.lt_of_lt_of_le hi h.size) (fun e => by rcases hs i e with e | e; exact hn e; omega)).trans (h.block i hi hn)⟩
theorem New.refl (w : World) (S : List Nat) : New w S S := fun _ h => .inl h
theorem New.of_lt {w : World} {S S' : List Nat} (h : ∀ k ∈ S', k ∈ S) : New w S S' := fun k hk => .inl (h k hk)
theorem New.all {w : World} {S S' : List Nat} (h : ∀ k ∈ S', w.heap.size ≤ k) : New w S S' := fun k hk => .inr (h k hk)
theorem New.trans {S S' S2 : List Nat} {a b : World} (h : New a S S') (k : New b S' S2) (hs : a.heap.size ≤ b.heap.size) : New a S S2 := fun i hi => by
  rcases k i hi with k | k
  · exact h i k
  · exact .inr (Nat.le_trans hs k)
theorem Kept.mono {S S' : List Nat} {a b : World} (h : Kept S a b) (hs : ∀ k ∈ S, k ∈ S') : Kept S' a b := ⟨h.os, h.tape, h.output, h.size, fun k hk hn => h.block k hk (fun e => hn (hs k e))⟩
/-- what is new need not be named -/
theorem Kept.drop {S S' : List Nat} {a b : World} (h : Kept S' a b) (hs : New a S S') : Kept S a b := ⟨h.os, h.tape, h.output, h.size, fun k hk hn => h.block k hk (fun e => by rcases hs k e with e | e; exact hn e; omega)⟩
theorem Kept.drew {S : List Nat} {a b : World} (h : Kept S a b) : Kept S a b.drew := ⟨h.os, h.tape, h.output, h.size, h.block⟩
theorem Kept.alloc {S : List Nat} {a b : World} (h : Kept S a b) (o : Obj) : Kept S a (b.alloc o) :=
  h.trans ⟨rfl, rfl, rfl, by simp, fun k hk _ => Below.heap_alloc _ _ _ hk⟩ (New.refl _ _)
theorem Kept.setCell {S : List Nat} {a b : World} (h : Kept S a b) {p : Addr} (hp : p.block ∈ S ∨ a.heap.size ≤ p.block) (v : Value) : Kept S a (b.setCell p v) :=
  ⟨h.os, h.tape, h.output, by have := h.size; simpa [World.setCell] using this, fun k hk hn => (Below.heap_setCell _ _ _ _ (fun e => by subst e; rcases hp with hp | hp; exact hn hp; omega)).trans (h.block k hk hn)⟩
theorem Kept.setRow {S : List Nat} {a b : World} (h : Kept S a b) {g : Nat} (hp : g ∈ S ∨ a.heap.size ≤ g) (c : Array Value) : Kept S a (b.setRow g c) :=
  ⟨h.os, h.tape, h.output, by have := h.size; simpa [World.setRow] using this, fun k hk hn => (setRow_other b g k c (fun e => by subst e; rcases hp with hp | hp; exact hn hp; omega)).trans (h.block k hk hn)⟩
theorem Kept.grown {S : List Nat} {a b c : World} {row : Option Nat} (h : Kept S a b) (hg : b.grownBy c row) (hp : ∀ k, row = some k → k ∈ S ∨ a.heap.size ≤ k) : Kept S a c :=
  ⟨hg.os.trans h.os, hg.tape.trans h.tape, hg.output.trans h.output, Nat.le_trans h.size hg.size, fun k hk hn =>
    (hg.block k (Nat.lt_of_lt_of_le hk h.size) (fun e => by rcases hp k e.symm with e | e; exact hn e; omega)).trans (h.block k hk hn)⟩
theorem Kept.of_below {a b : World} (h : Below a.heap.size a b) : Kept [] a b := ⟨h.os, h.tape, h.output, h.size, fun k hk _ => h.block k hk⟩
theorem Kept.and_below {S : List Nat} {a b c : World} (h : Kept S a b) (k : Below b.heap.size b c) : Kept S a c := h.trans (Kept.of_below k) (fun _ h => by cases h)
theorem Kept.below {S : List Nat} {a b : World} {B : Nat} (h : Kept S a b) (hB : B ≤ a.heap.size) (hs : ∀ k ∈ S, B ≤ k) : Below B a b := ⟨h.os, h.tape, h.output, h.size, fun k hk => h.block k (by omega) (fun e => by have := hs k e; omega)⟩
/-- a call's own memory, behind one that turned S, all of it new since B -/
theorem Kept.below_next {S : List Nat} {w0 a b : World} {B : Nat} (h : Below B w0 a) (k : Kept S a b) (hB : B ≤ a.heap.size) (hs : ∀ k ∈ S, B ≤ k) : Below B w0 b := h.trans (k.below hB hs)
theorem Kept.heap {S : List Nat} {a b : World} (h : Kept S a b) {k : Nat} {x : Obj} (hk : a.heap[k]? = some x) (hn : k ∉ S) : b.heap[k]? = some x := (h.block k (hlt hk) hn).trans hk
theorem Kept.cell {S : List Nat} {a b : World} (h : Kept S a b) {p : Addr} {v : Value} (hp : a.cell? p = some v) (hn : p.block ∉ S) : b.cell? p = some v := (World.cell?_of_block (h.block p.block (World.block_lt_of_cell? _ _ hp) hn)).trans hp
theorem Kept.own {S : List Nat} {a b : World} {base : Nat} {e : TypeId} {size n : Nat} {v : Value} {xs : List Value} (h : Kept S a b) (ho : a.ownsRow base e size v n xs) (hn : ∀ k, v.ownBlock = some k → k ∉ S) : b.ownsRow base e size v n xs := by
  refine ⟨ho.1, ?_⟩
  rcases ho.2 with h2 | ⟨g, cap, cur, rfl, h2, h3, h4⟩
  · exact .inl h2
  · exact .inr ⟨g, cap, cur, rfl, h2, h.heap h3 (hn g rfl), h4⟩
/-- bytes as values -/
def bcs (l : List UInt8) : List Value := l.map fun b => Value.int .u8 (b.toNat : Int)
theorem bcs_length (l : List UInt8) : (bcs l).length = l.length := List.length_map _
theorem bcs_append (a b : List UInt8) : bcs (a ++ b) = bcs a ++ bcs b := List.map_append
theorem bcs_splice (l c : List UInt8) (off : Nat) : splice (bcs l) off (bcs c) = bcs (splice l off c) := by
  simp only [splice, bcs, List.map_append, List.map_take, List.map_drop, List.length_map]
theorem bcs_one (l : List UInt8) : ∀ v ∈ bcs l, v.oneCell' = true := fun v hv => by
  obtain ⟨x, _, rfl⟩ := List.mem_map.1 hv
  rfl
/-- a row of bytes, a block of its own -/
def RowB (t : TypeId) (w : World) (g : Nat) (l : List UInt8) : Prop := w.heap[g]? = some (.cells (bcs l).toArray t (0, 0))
theorem RowB.kept {t : TypeId} {S : List Nat} {w w' : World} {g : Nat} {l : List UInt8} (h : RowB t w g l) (k : Kept S w w') (hn : g ∉ S) : RowB t w' g l := k.heap h hn
theorem RowB.cell {t : TypeId} {w : World} {g : Nat} {l : List UInt8} (h : RowB t w g l) {i : Nat} (hi : i < l.length) : w.cell? ⟨g, i, none⟩ = some (.int .u8 ((l[i].toNat : Nat) : Int)) := by
  rw [cell_of_row w g i _ t (0, 0) h]
  simp [bcs, hi]
/-- 'copy(dst, s)', s a string, as a step of the walk: the row behind it is 'splice cur off s' -/
theorem wpList_copy_str {P : Program} {w : World} {ops : Array Oper} {rest : List Oper} {o : Oper} {a : Act} {Q : Exit → Act → World → Prop} (hgd : o.guard = none) (d x : Operand) (dT sT : TypeId)
    (ho : o.op = .call { callee := .builtin .copy, args := #[d, x], argTypes := #[dT, sT] }) (elem : TypeId) (hu : P.underlying dT = some (.slice elem)) (hsz : (P.info? elem).map (·.size) = some 1)
    (dp : Option Addr) (dLen dCap : Nat) (s : ByteArray) (hd : a.eval d = .slice dp dLen dCap) (hx : a.eval x = .string s)
    (g off : Nat) (cur : List Value) (t : TypeId) (hg : w.heap[g]? = some (.cells cur.toArray t (0, 0))) (hpos : 0 < s.size → dp = some ⟨g, off, none⟩) (hle : s.size ≤ dLen) (hfit : off + s.size ≤ cur.length)
    (h : ∀ w', Hid (w'.heap[g]? = some (.cells (splice cur off (bcs s.data.toList)).toArray t (0, 0))) → Kept [g] w w' → wpList P ops Q rest (a.put o.dst (goInt s.size)) w') : wpList P ops Q (o :: rest) a w := by
  by_cases h0 : s.size = 0
  · have hs0 : s.data.toList = [] := List.eq_nil_of_length_eq_zero (by rw [← Lib.size_eq]; exact h0)
    refine wpList_plain hgd fun K hK => ?_
    have hrun := Lib.run_copy_empty_string (P := P) w dT sT o.type elem dp dLen dCap s hu (by cases hq : P.info? elem with | none => simp [hq] at hsz | some i => rfl) h0
    unfold Oper.wp
    simp [execOp, ho, resolve, invoke, builtin, hd, hx, hrun, Result.andThen]
    refine hK _ _ ?_
    rw [h0] at h
    exact h w (show _ = _ by rw [hs0]; simpa [splice, bcs] using hg) (Kept.refl _ _)
  · obtain rfl := hpos (by omega)
    refine wpList_plain hgd fun K hK => ?_
    have hrun := Lib.run_copy_row_string (P := P) w dT sT o.type elem g off dLen dCap s cur.toArray t hu hsz hg hle (by simpa using hfit)
    unfold Oper.wp
    simp [execOp, ho, resolve, invoke, builtin, hd, hx, hrun, Result.andThen]
    refine hK _ _ (h _ ?_ ((Kept.refl _ _).setRow (.inl (by simp)) _))
    have := setRow_heap w g cur.toArray (cur.take off ++ Lib.byteCells s.data.toList ++ cur.drop (off + s.size)).toArray t _ hg
    show _ = _
    rw [List.append_assoc] at this
    have e : splice cur off (bcs s.data.toList) = cur.take off ++ (Lib.byteCells s.data.toList ++ cur.drop (off + s.size)) := by
      rw [splice, bcs_length, ← Lib.size_eq]; rfl
    rw [e]
    simpa using this
/-- 'copy(dst, src)', two rows of one length: the row behind it is the source -/
theorem wpList_copy_all {P : Program} {w : World} {ops : Array Oper} {rest : List Oper} {o : Oper} {a : Act} {Q : Exit → Act → World → Prop} (hgd : o.guard = none) (d s : Operand) (dT sT : TypeId)
    (ho : o.op = .call { callee := .builtin .copy, args := #[d, s], argTypes := #[dT, sT] }) (elem : TypeId) (hu : P.underlying dT = some (.slice elem)) (hsz : (P.info? elem).map (·.size) = some 1)
    (g f n dCap sCap : Nat) (hd : a.eval d = .slice (some ⟨g, 0, none⟩) n dCap) (hs : a.eval s = .slice (some ⟨f, 0, none⟩) n sCap)
    (cur cs : List Value) (t t' : TypeId) (hg : w.heap[g]? = some (.cells cur.toArray t (0, 0))) (hf : w.heap[f]? = some (.cells cs.toArray t' (0, 0))) (hl : cur.length = n) (hc : cs.length = n) (h1 : ∀ v ∈ cs, v.oneCell' = true)
    (h : ∀ w', Hid (w'.heap[g]? = some (.cells cs.toArray t (0, 0))) → Kept [g] w w' → wpList P ops Q rest (a.put o.dst (goInt n)) w') : wpList P ops Q (o :: rest) a w := by
  refine wpList_copy_own hgd d s dT sT ho elem hu hsz g 0 n dCap ⟨f, 0, none⟩ n sCap hd hs cur.toArray t hg cs (by rw [hc]; exact (Nat.min_self n).symm) (fun j v hj => ?_) (by simp [hl, hc]) h1 ?_
  · have hadd : (⟨f, 0, none⟩ : Addr).add j = ⟨f, j, none⟩ := by unfold Addr.add; split <;> simp_all
    rw [hadd, cell_of_row w f j _ t' (0, 0) hf]
    simpa using hj
  · rw [hc]
    refine h _ ?_ ((Kept.refl _ _).setRow (.inl (by simp)) _)
    have := setRow_heap w g cur.toArray (cur.toArray.toList.take 0 ++ (cs ++ cur.toArray.toList.drop (0 + n))).toArray t _ hg
    show _ = _
    rw [this]
    have e : cur.drop n = [] := List.drop_eq_nil_of_le (by omega)
    simp [e]
theorem mem_zeroCells {z : Array Value} {n : Nat} (hz : 0 < z.size) : ∀ v ∈ (Builtin.zeroCells z n).toList, v ∈ z := fun v hv => by
  simp only [Builtin.zeroCells, Array.toList_map, List.mem_map] at hv
  obtain ⟨i, _, rfl⟩ := hv
  rw [getElem!_pos z (i % z.size) (Nat.mod_lt _ hz)]
  exact Array.getElem_mem _
theorem size_zeroCells (z : Array Value) (n : Nat) : (Builtin.zeroCells z n).toList.length = n * z.size := by simp [Builtin.zeroCells]
/-- a slice of the call's own, cut to no element -/
def cut0 : Value → Value
  | .slice a _ c => .slice a 0 c
  | v => v
/-- 'clear(s)' of a slice of the call's own: its cells turn, nothing else does -/
theorem run_clear_own {P : Program} {w : World} (t e ty : TypeId) (z : Value) (size : Nat) (ht : P.underlying t = some (.slice e)) (hv : ∀ w, (zeroValue e).run P w = .ok z w) (hzs : z.cells.size = size) (hsz : 0 < size) (h1 : ∀ v ∈ z.cells, v.oneCell' = true)
    {base : Nat} {v : Value} {n : Nat} {xs : List Value} (hown : w.ownsRow base e size v n xs) :
    ∃ w', (Builtin.clear_ #[t] ty #[v]).run P w = .ok (.tuple #[]) w' ∧ Kept v.ownBlock.toList w w' ∧ w'.ownsRow base e size (cut0 v) 0 [] := by
  rcases hown.2 with ⟨rfl, rfl⟩ | ⟨g, cap, cur, rfl, hb, hg, hn, hm, hs, hx⟩
  · exact ⟨w, by simp [Builtin.clear_, run_underlying ht], Kept.refl _ _, World.ownsRow_nil _ _ _ _⟩
  · cases n with
    | zero => exact ⟨w, by simp [Builtin.clear_, run_underlying ht], Kept.refl _ _, ⟨by simp, .inr ⟨g, cap, cur, rfl, hb, hg, Nat.zero_le _, hm, hs, by simp⟩⟩⟩
    | succ n =>
      have hl := size_zeroCells z.cells (n + 1)
      rw [hzs] at hl
      have hst := run_storeCells_at P g 0 e (Builtin.zeroCells z.cells (n + 1)).toList 0 cur w hg (by rw [hl, hs]; simpa using Nat.mul_le_mul_right size hn) (fun v hv => h1 v (mem_zeroCells (by omega) v hv))
      obtain ⟨R, hR⟩ : ∃ R, (List.take (0 + 0) cur.toList ++ (Builtin.zeroCells z.cells (n + 1)).toList ++ List.drop (0 + 0 + (Builtin.zeroCells z.cells (n + 1)).toList.length) cur.toList).toArray = R := ⟨_, rfl⟩
      rw [hR] at hst
      refine ⟨w.setRow g R, by simp [Builtin.clear_, run_underlying ht, hv, hst], (Kept.refl _ _).setRow (.inl (by simp [Value.ownBlock])) _, ⟨by simp, .inr ⟨g, cap, R, rfl, hb, setRow_heap w g _ R e _ hg, Nat.zero_le _, hm, ?_, by simp⟩⟩⟩
      have := Nat.mul_le_mul_right size hn
      rw [← hR]
      simp only [Nat.add_zero, Nat.zero_add, hl, List.take_zero, List.nil_append, List.size_toArray, List.length_append, List.length_drop, Array.length_toList, hs]
      omega
theorem wpList_clear_own {P : Program} {w : World} {ops : Array Oper} {rest : List Oper} {o : Oper} {a : Act} {Q : Exit → Act → World → Prop} (hgd : o.guard = none) (d : Operand) (t : TypeId)
    (ho : o.op = .call { callee := .builtin .clear, args := #[d], argTypes := #[t] }) (e : TypeId) (z : Value) (size : Nat) (ht : P.underlying t = some (.slice e)) (hv : ∀ w, (zeroValue e).run P w = .ok z w) (hzs : z.cells.size = size) (hsz : 0 < size) (h1 : ∀ v ∈ z.cells, v.oneCell' = true)
    {base : Nat} (v : Value) {n : Nat} {xs : List Value} (hd : a.eval d = v) (hown : w.ownsRow base e size v n xs)
    (h : ∀ w', Kept v.ownBlock.toList w w' → w'.ownsRow base e size (cut0 v) 0 [] → wpList P ops Q rest (a.put o.dst (.tuple #[])) w') : wpList P ops Q (o :: rest) a w := by
  refine wpList_plain hgd fun K hK => ?_
  obtain ⟨w', hrun, h2, h3⟩ := run_clear_own (P := P) t e o.type z size ht hv hzs hsz h1 hown
  unfold Oper.wp
  simp [execOp, ho, resolve, invoke, builtin, hd, hrun, Result.andThen]
  exact hK _ _ (h w' h2 h3)
theorem own_mem {v : Value} {k : Nat} (h : k ∈ v.ownBlock.toList) : v.ownBlock = some k := by simpa using h
theorem mem_own {v : Value} {k : Nat} (h : v.ownBlock = some k) : k ∈ v.ownBlock.toList := by simpa using h
theorem cells5 {w : World} {g : Nat} {c0 c1 c2 c3 c4 : Value} {t : TypeId} (h : w.heap[g]? = some (.cells #[c0, c1, c2, c3, c4] t (0, 0))) :
    w.cell? ⟨g, 0, none⟩ = some c0 ∧ w.cell? ⟨g, 1, none⟩ = some c1 ∧ w.cell? ⟨g, 2, none⟩ = some c2 ∧ w.cell? ⟨g, 3, none⟩ = some c3 ∧ w.cell? ⟨g, 4, none⟩ = some c4 :=
  ⟨cell_of_row w g 0 _ t (0, 0) h, cell_of_row w g 1 _ t (0, 0) h, cell_of_row w g 2 _ t (0, 0) h, cell_of_row w g 3 _ t (0, 0) h, cell_of_row w g 4 _ t (0, 0) h⟩
end Go.Proofs.Ytebfenkjipaedaa
