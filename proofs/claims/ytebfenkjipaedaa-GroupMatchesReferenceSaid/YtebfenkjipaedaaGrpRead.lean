/- Package group: read. -/
import Derived.Test.YtebfenkjipaedaaGrpOut
namespace Go.Proofs.Ytebfenkjipaedaa.Gr
open Go.RowKit Gp
attribute [local go_sem] Oper.semAt_some
/-- what read comes to: an index, and whether the groups are valid -/
def ReadQ (l : List Grp) (w : World) (e : Ending) (w' : World) : Prop := ∃ (m o : Value) (b : Bool) (f f' : Int → Option Value), e = .returned (.tuple #[iv m o, .bool b]) ∧ Below w.heap.size w w' ∧ (b = true ↔ Valid l) ∧ MapV w' m f ∧ MapV w' o f' ∧
  (b = true → (∀ x, f x = (find l x).map gv) ∧ ∀ x, f' x = (owner l x).map (Value.int .i64)) ∧ ((∀ x, f x = none) ∨ ∀ x, f x = (find l x).map gv)
/-- the cells of read: results, index; what lies beside the maps -/
structure RdS (w : World) (b2 b3 b4 m1 m2 : Nat) (W : World) : Prop where
  bel : Below w.heap.size w W
  r2 : W.heap[b2]? = some (.cells #[.map none, .map none] 73 (0, 0))
  r3 : Boxed W b3 4 (.bool false)
  r4 : W.heap[b4]? = some (.cells #[.map (some m1), .map (some m2)] 73 (0, 0))
theorem cells2 {w : World} {g : Nat} {c0 c1 : Value} {t : TypeId} (h : w.heap[g]? = some (.cells #[c0, c1] t (0, 0))) : w.cell? ⟨g, 0, none⟩ = some c0 ∧ w.cell? ⟨g, 1, none⟩ = some c1 :=
  ⟨cell_of_row w g 0 _ t (0, 0) h, cell_of_row w g 1 _ t (0, 0) h⟩
theorem RdS.kept {w W W' : World} {b2 b3 b4 m1 m2 : Nat} {S : List Nat} (h : RdS w b2 b3 b4 m1 m2 W) (k : Kept S W W') (h2 : b2 ∉ S) (h3 : b3 ∉ S) (h4 : b4 ∉ S) (hS : ∀ q ∈ S, w.heap.size ≤ q) : RdS w b2 b3 b4 m1 m2 W' :=
  ⟨k.below_next h.bel h.bel.size hS, k.heap h.r2 h2, k.heap h.r3 h3, k.heap h.r4 h4⟩
theorem RdS.then_ {w W W' : World} {b2 b3 b4 m1 m2 : Nat} (h : RdS w b2 b3 b4 m1 m2 W) (k : Below W.heap.size W W') : RdS w b2 b3 b4 m1 m2 W' := h.kept (Kept.of_below k) (by simp) (by simp) (by simp) (by simp)
theorem below_in (n lo hi : Int) (w : World) : Calls Try.prog 55 #[.int .i64 n, .int .i64 lo, .int .i64 hi] w fun e w' => e = .returned (.bool (inB n lo hi)) ∧ Below w.heap.size w w' := (in_any n lo hi w).mono (by rintro e w' ⟨h1, rfl⟩; exact ⟨h1, Below.refl _ _⟩)
theorem rd_start (w : World) : RdS w w.heap.size (w.heap.size + 1) (w.heap.size + 1 + 1 + 1 + 1) (w.heap.size + 1 + 1) (w.heap.size + 1 + 1 + 1) (((((w.alloc (.cells #[.map none, .map none] 73)).alloc (.cells #[.bool false] 4)).alloc (.map #[] 0)).alloc (.map #[] 0)).alloc (.cells #[.map (some (w.heap.size + 1 + 1)), .map (some (w.heap.size + 1 + 1 + 1))] 73)) ∧
    MapAt (((((w.alloc (.cells #[.map none, .map none] 73)).alloc (.cells #[.bool false] 4)).alloc (.map #[] 0)).alloc (.map #[] 0)).alloc (.cells #[.map (some (w.heap.size + 1 + 1)), .map (some (w.heap.size + 1 + 1 + 1))] 73)) (w.heap.size + 1 + 1) 0 (fun _ => none) ∧ MapAt (((((w.alloc (.cells #[.map none, .map none] 73)).alloc (.cells #[.bool false] 4)).alloc (.map #[] 0)).alloc (.map #[] 0)).alloc (.cells #[.map (some (w.heap.size + 1 + 1)), .map (some (w.heap.size + 1 + 1 + 1))] 73)) (w.heap.size + 1 + 1 + 1) 0 (fun _ => none) := by
  obtain ⟨wa, ha⟩ : ∃ wa, w.alloc (.cells #[.map none, .map none] 73) = wa := ⟨_, rfl⟩
  have s1 : wa.heap.size = w.heap.size + 1 := by rw [← ha]; simp
  have r1 : wa.heap[w.heap.size]? = some (.cells #[.map none, .map none] 73 (0, 0)) := by rw [← ha]; exact World.alloc_heap_new _ _
  have q1 : Below w.heap.size w wa := by rw [← ha]; exact below_alloc (Below.refl _ _) _
  rw [ha]
  obtain ⟨wb, hb⟩ : ∃ wb, wa.alloc (.cells #[.bool false] 4) = wb := ⟨_, rfl⟩
  have s2 : wb.heap.size = w.heap.size + 1 + 1 := by rw [← hb, ← s1]; simp
  have r2 : Boxed wb (w.heap.size + 1) 4 (.bool false) := by rw [← hb, ← s1]; exact Boxed.new _ _ _
  have k2 : Kept [] wa wb := by rw [← hb]; exact (Kept.refl _ _).alloc _
  rw [hb]
  obtain ⟨wc, hc⟩ : ∃ wc, wb.alloc (.map #[] 0) = wc := ⟨_, rfl⟩
  have s3 : wc.heap.size = w.heap.size + 1 + 1 + 1 := by rw [← hc, ← s2]; simp
  have r3 : MapAt wc (w.heap.size + 1 + 1) 0 (fun _ => none) := by rw [← hc, ← s2]; exact MapAt.made _
  have k3 : Kept [] wb wc := by rw [← hc]; exact (Kept.refl _ _).alloc _
  rw [hc]
  obtain ⟨wd, hd⟩ : ∃ wd, wc.alloc (.map #[] 0) = wd := ⟨_, rfl⟩
  have s4 : wd.heap.size = w.heap.size + 1 + 1 + 1 + 1 := by rw [← hd, ← s3]; simp
  have r4 : MapAt wd (w.heap.size + 1 + 1 + 1) 0 (fun _ => none) := by rw [← hd, ← s3]; exact MapAt.made _
  have k4 : Kept [] wc wd := by rw [← hd]; exact (Kept.refl _ _).alloc _
  rw [hd]
  obtain ⟨we, he⟩ : ∃ we, wd.alloc (.cells #[.map (some (w.heap.size + 1 + 1)), .map (some (w.heap.size + 1 + 1 + 1))] 73) = we := ⟨_, rfl⟩
  have r5 : we.heap[w.heap.size + 1 + 1 + 1 + 1]? = some (.cells #[.map (some (w.heap.size + 1 + 1)), .map (some (w.heap.size + 1 + 1 + 1))] 73 (0, 0)) := by rw [← he, ← s4]; exact World.alloc_heap_new _ _
  have k5 : Kept [] wd we := by rw [← he]; exact (Kept.refl _ _).alloc _
  rw [he]
  have n : ∀ w : World, ∀ S : List Nat, New w S [] := fun _ _ k h => by cases h
  have k25 := ((k2.trans k3 (n _ _)).trans k4 (n _ _)).trans k5 (n _ _)
  have k35 := (k3.trans k4 (n _ _)).trans k5 (n _ _)
  exact ⟨⟨k25.below_next q1 q1.size (by simp), k25.heap r1 (by simp), k35.heap r2 (by simp), r5⟩, r3.kept (k4.trans k5 (n _ _)) (by simp), r4.kept k5 (by simp)⟩
theorem rd_leave {tmps : Array Value} {R : Ending → World → Prop} {V : World} {Ds : List Nat} {B b2 b3 : Nat} {m o : Value} {res : Bool} (h2 : tmps[2]? = some (.pointer (some ⟨b2, 0, none⟩))) (h3 : tmps[3]? = some (.pointer (some ⟨b3, 0, none⟩))) (hM : MarksAt V B Ds) (hlt : b2 < B ∧ b3 < B)
    (c0 : V.cell? ⟨b2, 0, none⟩ = some m) (c1 : V.cell? ⟨b2, 1, none⟩ = some o) (c2 : V.cell? ⟨b3, 0, none⟩ = some (.bool res))
    (hR : ∀ W', Kept Ds V W' → R (.returned (.tuple #[iv m o, .bool res])) W') : LeavesInM Fence.wide 0 Try.prog Try.f37 tmps R (marks Ds) .returning V := by
  refine leaves_marks hM (fun W' hk => ⟨.tuple #[iv m o, .bool res], ?_, hR W' hk⟩)
  have d0 := hk.cell c0 (fun e => by have := (hM.at_ _ e).1; dsimp only at this; omega)
  have d1 := hk.cell c1 (fun e => by have := (hM.at_ _ e).1; dsimp only at this; omega)
  have d2 := hk.cell c2 (fun e => by have := (hM.at_ _ e).1; dsimp only at this; omega)
  unfold iv
  simp [results, Try.results37, h2, h3, d0, d1, d2, asAddr, Result.andThen, go_sem]
theorem stored3 {V V' : World} {b2 b3 : Nat} {u0 u1 u3 m o r : Value} (q0 : V.cell? ⟨b2, 0, none⟩ = some u0) (q1 : V.cell? ⟨b2, 1, none⟩ = some u1) (q3 : V.cell? ⟨b3, 0, none⟩ = some u3) (hne : b2 ≠ b3) (hV : ((V.setCell ⟨b2, 0, none⟩ m).setCell ⟨b2, 1, none⟩ o).setCell ⟨b3, 0, none⟩ r = V') :
    V'.cell? ⟨b2, 0, none⟩ = some m ∧ V'.cell? ⟨b2, 1, none⟩ = some o ∧ V'.cell? ⟨b3, 0, none⟩ = some r ∧ Kept [b2, b3] V V' := by
  rw [← hV]
  refine ⟨?_, ?_, ?_, (((Kept.refl _ _).setCell (.inl (by simp)) _).setCell (.inl (by simp)) _).setCell (.inl (by simp)) _⟩
  · refine cell_set _ ?_ hne
    refine cell_off _ ?_ (by omega)
    exact World.cell?_setCell_same _ _ _ q0
  · refine cell_set _ ?_ hne
    exact World.cell?_setCell_same _ _ _ (cell_off _ q1 (by omega))
  · exact World.cell?_setCell_same _ _ _ (cell_set _ (cell_set _ q3 (Ne.symm hne)) (Ne.symm hne))
theorem rd_bad {l : List Grp} {w V : World} {b2 b3 b4 m1 m2 B : Nat} {Ds : List Nat} {tmps : Array Value} (hR : RdS w b2 b3 b4 m1 m2 V) (hO : b2 < b3 ∧ w.heap.size ≤ b2 ∧ b3 < B) (hM : MarksAt V B Ds) (hbad : ¬ Valid l)
    (h2 : tmps[2]? = some (.pointer (some ⟨b2, 0, none⟩))) (h3 : tmps[3]? = some (.pointer (some ⟨b3, 0, none⟩))) :
    LeavesInM Fence.wide 0 Try.prog Try.f37 tmps (ReadQ l w) (marks Ds) .returning (((V.setCell ⟨b2, 0, none⟩ (.map none)).setCell ⟨b2, 1, none⟩ (.map none)).setCell ⟨b3, 0, none⟩ (.bool false)) := by
  obtain ⟨V', hV⟩ : ∃ V', ((V.setCell ⟨b2, 0, none⟩ (.map none)).setCell ⟨b2, 1, none⟩ (.map none)).setCell ⟨b3, 0, none⟩ (.bool false) = V' := ⟨_, rfl⟩
  have hk : Kept [b2, b3] V V' := by
    rw [← hV]
    exact (((Kept.refl _ _).setCell (.inl (by simp)) _).setCell (.inl (by simp)) _).setCell (.inl (by simp)) _
  have hM' : MarksAt V' B Ds := hM.kept hk (fun D hD h => by have := (hM.at_ D hD).1; simp at h; omega)
  obtain ⟨q0, q1⟩ := cells2 hR.r2
  have q3 := hR.r3.cell
  have c0 : V'.cell? ⟨b2, 0, none⟩ = some (.map none) := by
    rw [← hV]
    refine cell_set _ ?_ (by dsimp only; omega)
    refine cell_off _ ?_ (by omega)
    exact World.cell?_setCell_same _ _ _ q0
  have c1 : V'.cell? ⟨b2, 1, none⟩ = some (.map none) := by
    rw [← hV]
    refine cell_set _ ?_ (by dsimp only; omega)
    exact World.cell?_setCell_same _ _ _ (cell_off _ q1 (by omega))
  have c2 : V'.cell? ⟨b3, 0, none⟩ = some (.bool false) := by
    rw [← hV]
    exact World.cell?_setCell_same _ _ _ (cell_set _ (cell_set _ q3 (by dsimp only; omega)) (by dsimp only; omega))
  rw [hV]
  refine rd_leave h2 h3 hM' (by omega) c0 c1 c2 (fun W' hk' => ?_)
  have hb : Below w.heap.size w V' := hk.below_next hR.bel hR.bel.size (by simp; omega)
  exact ⟨_, _, false, fun _ => none, fun _ => none, rfl, hk'.below_next hb hb.size (fun D hD => by have := (hM.at_ D hD).1; omega), ⟨fun h => (by cases h), fun h => absurd h hbad⟩, .inl ⟨rfl, fun _ => rfl⟩, .inl ⟨rfl, fun _ => rfl⟩, fun h => (by cases h), .inl fun _ => rfl⟩
theorem sized_of {l : List Grp} (h : Sized l) (x : Int) : I64 (ofI l x) := by
  unfold ofI
  cases hf : find l x with
  | none => exact ⟨by decide, by decide⟩
  | some g =>
    obtain ⟨j, hj, e⟩ := ex_getD g0 (find_some hf).1
    have := h.of j hj
    rw [e] at this
    exact this
theorem found_slice {w : World} {A : Option Addr} {l : List Grp} (h : GrpsAt w A l) (x : Int) : ∃ A n c, ((find l x).getD g0).v = .slice A n c := by
  cases hf : find l x with
  | none => exact ⟨_, _, _, rfl⟩
  | some g =>
    obtain ⟨j, hj, e⟩ := ex_getD g0 (find_some hf).1
    obtain ⟨_, A, c, hv, _⟩ := h j hj
    rw [e] at hv
    exact ⟨_, _, _, hv⟩
/-- the state of the walk outward from one group, k rounds on -/
structure RdJ (W6 : World) (bd bi lr : Nat) (rec : LoopState → Option Code → Obj) (l : List Grp) (id : Int) (k : Nat) (W : World) : Prop where
  kept : Kept [bd, bi, lr] W6 W
  rd : W.heap[lr]? = some (rec .ready none)
  deep : Boxed W bd 3 (.int .i64 (k : Int))
  at_ : Boxed W bi 3 (.int .i64 (nth l id k))
  wf : I64 (nth l id k)
  le : k ≤ 12
  ok : okUp l 12 id = okUp l (12 - k) (nth l id k)
/-- a round has passed, its number is not taken yet -/
structure RdK (W6 : World) (bd bi lr : Nat) (rec : LoopState → Option Code → Obj) (l : List Grp) (id : Int) (k : Nat) (W : World) : Prop where
  kept : Kept [bd, bi, lr] W6 W
  rd : W.heap[lr]? = some (rec .ready none)
  deep : Boxed W bd 3 (.int .i64 ((k : Int) + 1))
  at_ : Boxed W bi 3 (.int .i64 (nth l id k))
  wf : I64 (nth l id k)
  le : k + 1 ≤ 12
  ok : okUp l 12 id = okUp l (12 - (k + 1)) (nth l id (k + 1))
/-- read has returned -/
structure RdF (W6 : World) (b2 b3 bd bi lr : Nat) (rec : LoopState → Option Code → Obj) (l : List Grp) (id : Int) (W : World) : Prop where
  kept : Kept [b2, b3, bd, bi, lr] W6 W
  dn : W.heap[lr]? = some (rec .done (some .ret))
  c0 : W.cell? ⟨b2, 0, none⟩ = some (.map none)
  c1 : W.cell? ⟨b2, 1, none⟩ = some (.map none)
  c2 : W.cell? ⟨b3, 0, none⟩ = some (.bool false)
  bad : okUp l 12 id = false
theorem RdK.next {W6 W : World} {bd bi lr : Nat} {rec : LoopState → Option Code → Obj} {l : List Grp} {id : Int} {k : Nat} (hS : Sized l) (h : RdK W6 bd bi lr rec l id k W) (h1 : bd ≠ bi) (h2 : lr ≠ bi) :
    RdJ W6 bd bi lr rec l id (k + 1) (W.setCell ⟨bi, 0, none⟩ (.int .i64 (nth l id (k + 1)))) :=
  ⟨h.kept.setCell (.inl (by simp)) _, heap_setCell h.rd h2 _, h.deep.other h1 _, h.at_.set _, sized_of hS _, h.le, h.ok⟩
theorem RdF.fin {W6 V : World} {b2 b3 bd bi lr q : Nat} {rec : LoopState → Option Code → Obj} {l : List Grp} {id : Int} {J : Nat → World → Prop} {a : Act} (o : Obj) (hk : Kept [bd, bi, lr] W6 V) (h2 : V.heap[b2]? = some (.cells #[.map none, .map none] 73 (0, 0))) (h3 : Boxed V b3 4 (.bool false))
    (hb : V.heap[lr]? = some (rec .busy none)) (hlt : b2 < b3 ∧ b3 < lr) (hbad : okUp l 12 id = false) :
    roundEnd lr rec (Rnd J (RdF W6 b2 b3 bd bi lr rec l id) q) .ret a ((((V.setCell ⟨b2, 0, none⟩ (.map none)).setCell ⟨b2, 1, none⟩ (.map none)).setCell ⟨b3, 0, none⟩ (.bool false)).alloc o) := by
  obtain ⟨V', hV⟩ : ∃ V', ((V.setCell ⟨b2, 0, none⟩ (.map none)).setCell ⟨b2, 1, none⟩ (.map none)).setCell ⟨b3, 0, none⟩ (.bool false) = V' := ⟨_, rfl⟩
  have hk' : Kept [b2, b3, bd, bi, lr] W6 V' := by
    rw [← hV]
    exact (((hk.mono (by intro k h; simp at h ⊢; omega)).setCell (.inl (by simp)) _).setCell (.inl (by simp)) _).setCell (.inl (by simp)) _
  obtain ⟨q0, q1⟩ := cells2 h2
  have q3 := h3.cell
  have c0 : V'.cell? ⟨b2, 0, none⟩ = some (.map none) := by
    rw [← hV]
    refine cell_set _ ?_ (by dsimp only; omega)
    refine cell_off _ ?_ (by omega)
    exact World.cell?_setCell_same _ _ _ q0
  have c1 : V'.cell? ⟨b2, 1, none⟩ = some (.map none) := by
    rw [← hV]
    refine cell_set _ ?_ (by dsimp only; omega)
    exact World.cell?_setCell_same _ _ _ (cell_off _ q1 (by omega))
  have c2 : V'.cell? ⟨b3, 0, none⟩ = some (.bool false) := by
    rw [← hV]
    exact World.cell?_setCell_same _ _ _ (cell_set _ (cell_set _ q3 (by dsimp only; omega)) (by dsimp only; omega))
  have hb' : V'.heap[lr]? = some (rec .busy none) := by
    rw [← hV]
    exact heap_setCell (heap_setCell (heap_setCell hb (by dsimp only; omega) _) (by dsimp only; omega) _) (by dsimp only; omega) _
  rw [hV]
  have hb2 := heap_alloc hb' o
  refine ⟨hb2, .inr ⟨rfl, kept_putObj (hk'.alloc o) (.inl (by simp)) _, heap_put hb2 _, ?_, ?_, ?_, hbad⟩⟩
  · exact (World.cell?_of_block (World.putObj_heap_other (by dsimp only; omega))).trans (keep_alloc o c0)
  · exact (World.cell?_of_block (World.putObj_heap_other (by dsimp only; omega))).trans (keep_alloc o c1)
  · exact (World.cell?_of_block (World.putObj_heap_other (by dsimp only; omega))).trans (keep_alloc o c2)
theorem RdK.fin {W6 V : World} {bd bi lr q : Nat} {rec : LoopState → Option Code → Obj} {l : List Grp} {id : Int} {Fin : World → Prop} {a : Act} (o : Obj) (hk : Kept [bd, bi, lr] W6 V) (hb : V.heap[lr]? = some (rec .busy none)) (hd : Boxed V bd 3 (.int .i64 (q : Int)))
    (ha : Boxed V bi 3 (.int .i64 (nth l id q))) (hw : I64 (nth l id q)) (hq : q + 1 ≤ 12) (hok : okUp l 12 id = okUp l (12 - (q + 1)) (nth l id (q + 1))) (h1 : bd ≠ bi) (h2 : lr ≠ bd) (h3 : bi ≠ lr) :
    roundEnd lr rec (Rnd (RdK W6 bd bi lr rec l id) Fin q) .normal a ((V.setCell ⟨bd, 0, none⟩ (.int .i64 ((q : Int) + 1))).alloc o) := by
  have hb2 := heap_alloc (heap_setCell (p := ⟨bd, 0, none⟩) hb h2 (.int .i64 ((q : Int) + 1))) o
  exact ⟨hb2, .inl ⟨rfl, kept_putObj ((hk.setCell (.inl (by simp)) _).alloc o) (.inl (by simp)) _, heap_put hb2 _, boxed_putObj ((hd.set _).alloc o) (Ne.symm h2) _, boxed_putObj ((ha.other (Ne.symm h1) _).alloc o) h3 _, hw, hq, hok⟩⟩
set_option maxRecDepth 100000 in
set_option maxHeartbeats 4000000 in
theorem read_any (A : Option Addr) (c : Nat) (l : List Grp) (w : World) (hG : GrpsAt w A l) (hS : Sized l) : Calls Try.prog 37 #[.slice A l.length c] w (ReadQ l w) := by
  have HG := Lib.hid hG
  have HS := Lib.hid hS
  have hlen : (l.length : Int) ≤ 1000 := by have := hS.len; omega
  clear hG hS
  have hmm := @run_makeMap Try.prog
  refine calls_of_wp_marks Try.func37 rfl ?_
  simp only [Try.ntmps37, List.size_toArray, List.length_cons, List.length_nil, Nat.reduceAdd, Nat.reduceSub, Array.replicate_succ, Array.replicate_zero, List.push_toArray, List.append_toArray, List.nil_append, List.cons_append]
  go_wp2_with fail
  obtain ⟨hR0, hM1, hM2⟩ := rd_start w
  obtain ⟨W0, hW0⟩ : ∃ W0, ((((w.alloc (.cells #[.map none, .map none] 73)).alloc (.cells #[.bool false] 4)).alloc (.map #[] 0)).alloc (.map #[] 0)).alloc (.cells #[.map (some (w.heap.size + 1 + 1)), .map (some (w.heap.size + 1 + 1 + 1))] 73) = W0 := ⟨_, rfl⟩
  rw [hW0] at hR0 hM1 hM2 ⊢
  obtain ⟨b2, hb2⟩ : ∃ b2, w.heap.size = b2 := ⟨_, rfl⟩
  obtain ⟨b3, hb3⟩ : ∃ b3, w.heap.size + 1 = b3 := ⟨_, rfl⟩
  obtain ⟨m1, hm1⟩ : ∃ m1, w.heap.size + 1 + 1 = m1 := ⟨_, rfl⟩
  obtain ⟨m2, hm2⟩ : ∃ m2, w.heap.size + 1 + 1 + 1 = m2 := ⟨_, rfl⟩
  obtain ⟨b4, hb4⟩ : ∃ b4, w.heap.size + 1 + 1 + 1 + 1 = b4 := ⟨_, rfl⟩
  have hR0 : RdS w b2 b3 b4 m1 m2 W0 := by rw [← hb2, ← hb3, ← hb4, ← hm1, ← hm2]; exact hR0
  rw [hm1] at hM1
  rw [hm2] at hM2
  rw [hb4, hm2, hm1, hb3, hb2]
  have HB2 := Lib.hid hb2
  have HO := Lib.hid (show b2 < b3 ∧ b3 < m1 ∧ m1 < m2 ∧ m2 < b4 ∧ w.heap.size ≤ b2 by omega)
  clear hW0 hb2 hb3 hm1 hm2 hb4 hmm
  have HR0 := Lib.hid hR0
  have HM1 := Lib.hid hM1
  have HM2 := Lib.hid hM2
  clear hR0 hM1 hM2
  -- loop 1
  go_loopw [22] (fun i wr => ∃ (k n1 n2 : Nat), k ≤ l.length ∧ i = .int .i64 (k : Int) ∧ n1 ≤ k ∧ n2 ≤ 1000 * k ∧ RdS w b2 b3 b4 m1 m2 wr ∧ Pre l k ∧ MapAt wr m1 n1 (fun x => (find (l.take k) x).map gv) ∧ MapAt wr m2 n2 (fun x => (owner (l.take k) x).map (Value.int .i64))) (fun i _ => l.length - (intOf i).toNat)
  case atStart => exact ⟨0, 0, 0, by omega, rfl, by omega, by omega, HR0.out, Pre.zero _, HM1.out.congr (fun x => by simp [find]), HM2.out.congr (fun x => by simp [owner])⟩
  case round =>
    obtain ⟨k, n1, n2, hk, rfl, hn1, hn2, hR, hpre, hM1, hM2⟩ := hrel
    have HN := Lib.hid (show n1 ≤ k ∧ n2 ≤ 1000 * k from ⟨hn1, hn2⟩)
    have HR := Lib.hid hR
    have HP := Lib.hid hpre
    have H1 := Lib.hid hM1
    have H2 := Lib.hid hM2
    clear hn1 hn2 hR hpre hM1 hM2 HR0 HM1 HM2
    by_cases hlt : k < l.length
    · have hkl : (k : Int) < (l.length : Int) := by omega
      have hk0 : (0 : Int) ≤ (k : Int) := by omega
      obtain ⟨⟨ba, oa, hA, hga⟩, _⟩ := (HG.out.then_ HR.out.bel) k hlt
      have hms := (HG.out k hlt).2
      obtain ⟨g, hg⟩ : ∃ g, l.getD k g0 = g := ⟨_, rfl⟩
      rw [hg] at hga hms
      obtain ⟨am, cm, hv, hcm, hmi, _⟩ := hms
      subst hA
      have x0 := hga.id
      have x1 := hga.of
      have x2 := hga.v
      have HGE := Lib.hid hg
      have HMI := Lib.hid hmi
      clear hg hga hmi
      go_wp2_with fail
      -- region 5
      obtain ⟨Wg, hWg⟩ : ∃ Wg, wr.alloc (.cells #[.int .i64 g.id, .int .i64 g.of, .slice am g.ms.length cm] 26) = Wg := ⟨_, rfl⟩
      have hBg : Below wr.heap.size wr Wg := by rw [← hWg]; exact below_alloc (Below.refl _ _) _
      have hgc := World.alloc_heap_new wr (.cells #[.int .i64 g.id, .int .i64 g.of, .slice am g.ms.length cm] 26)
      rw [hWg] at hgc
      rw [hWg]
      obtain ⟨bg, hbg⟩ : ∃ bg, wr.heap.size = bg := ⟨_, rfl⟩
      rw [hbg] at hgc
      rw [hbg]
      have hb4g : b4 < bg := hbg ▸ heap_lt HR.out.r4
      have HBG := Lib.hid hBg
      have HGC := Lib.hid hgc
      have hbgl : bg < Wg.heap.size := heap_lt hgc
      have HbG := Lib.hid hbg
      clear hWg hBg hgc hbg x0 x1 x2
      have gi : Wg.cell? ⟨bg, 0, none⟩ = some (.int .i64 g.id) := cell_of_row Wg bg 0 _ _ _ HGC.out
      go_cut [45] from 27 to 45 (fun s wx => ∃ B : Bool, s = .bool B ∧ (B = false ↔ (0 ≤ g.id ∧ g.id ≤ 999) ∧ ∀ j, j + 1 = k → (l.getD j g0).id < g.id) ∧ Below Wg.heap.size Wg wx)
      case first =>
        have g_1 := fun D os => cell_regrown gi D os
        by_cases hin : 0 ≤ g.id ∧ g.id ≤ 999
        · have HV := Lib.hid (fun d os => (below_in g.id 0 999 (Sort.grow (redrawn Wg d) os)).mono (fun e w' h => (⟨by rw [h.1, inB_iff.2 hin], h.2⟩ : e = .returned (.bool true) ∧ Below (Sort.grow (redrawn Wg d) os).heap.size (Sort.grow (redrawn Wg d) os) w')))
          rcases Nat.eq_zero_or_pos k with hz | hz
          · have hkg : decide (0 < k) = false := decide_eq_false (by omega)
            have HZ := Lib.hid hz
            have HIN := Lib.hid hin
            clear hz hin hk0 hkl
            -- quiet 1
            refine wp_region_quiet_below (by kernel_rfl) (by kernel_rfl) ?_
            repeat (go_big_quiet_step (first | (with_reducible exact Calls.regrown_of (HV.out _ _))))
            refine wpQuiet_nil ?_
            intro wq hq0
            have hq := below_of_class hq0
            clear hq0
            clear g_1 hkg
            go_wp2_with fail
            go_meet
            exact ⟨_, rfl, ⟨fun _ => ⟨HIN.out, fun j hj => by have := HZ.out; omega⟩, fun _ => rfl⟩, hq⟩
          · have hkg : decide (0 < k) = true := decide_eq_true hz
            obtain ⟨⟨bp, op, hA, hgp⟩, _⟩ := (HG.out.then_ HR.out.bel) (k - 1) (by omega)
            obtain ⟨p, hp⟩ : ∃ p, l.getD (k - 1) g0 = p := ⟨_, rfl⟩
            rw [hp] at hgp
            have hA' : ba = bp ∧ oa = op := by simpa using hA
            obtain ⟨rfl, rfl⟩ := hA'
            have gp := cell_then HBG.out hgp.id
            obtain ⟨j, hj⟩ : ∃ j, k - 1 = j := ⟨_, rfl⟩
            have hkj : (k : Int) - 1 = (j : Int) := by omega
            rw [hj] at gp hp
            have hw : IntKind.i64.wrap ((k : Int) - 1) = (j : Int) := by rw [hkj]; exact IntWalk.i64_in _ (by omega)
            have hj0 : (0 : Int) ≤ (j : Int) := by omega
            have hjl : (j : Int) < (l.length : Int) := by omega
            have g_2 := fun D os => cell_regrown gp D os
            by_cases hle : g.id ≤ p.id
            · have hcmp : decide (g.id ≤ p.id) = true := decide_eq_true hle
              have HBAD := Lib.hid (show ¬ ∀ j, j + 1 = k → (l.getD j g0).id < g.id from fun h => by have := h j (by omega); rw [hp] at this; omega)
              have HJ := Lib.hid hj
              clear hz hin hk0 hkl hA hgp hp hj hle
              refine wp_region_quiet_below (by kernel_rfl) (by kernel_rfl) ?_
              repeat (go_big_quiet_step (first | (with_reducible exact Calls.regrown_of (HV.out _ _))))
              refine wpQuiet_nil ?_
              intro wq hq0
              have hq := below_of_class hq0
              clear hq0
              clear g_1 g_2 hkg
              go_wp2_with fail
              go_meet
              exact ⟨_, rfl, ⟨fun h => (by cases h), fun h => absurd h.2 HBAD.out⟩, hq⟩
            · have hcmp : decide (g.id ≤ p.id) = false := decide_eq_false hle
              have HOK := Lib.hid (show (0 ≤ g.id ∧ g.id ≤ 999) ∧ ∀ j, j + 1 = k → (l.getD j g0).id < g.id from ⟨hin, fun j' h => (show j = j' by omega) ▸ (show (l.getD j g0).id < g.id by rw [hp]; omega)⟩)
              have HJ := Lib.hid hj
              clear hz hin hk0 hkl hA hgp hp hj hle
              refine wp_region_quiet_below (by kernel_rfl) (by kernel_rfl) ?_
              repeat (go_big_quiet_step (first | (with_reducible exact Calls.regrown_of (HV.out _ _))))
              refine wpQuiet_nil ?_
              intro wq hq0
              have hq := below_of_class hq0
              clear hq0
              clear g_1 g_2 hkg
              go_wp2_with fail
              go_meet
              exact ⟨_, rfl, ⟨fun _ => HOK.out, fun _ => rfl⟩, hq⟩
        · have hib : inB g.id 0 999 = false := by
            cases h : inB g.id 0 999 with
            | false => rfl
            | true => exact absurd (inB_iff.1 h) hin
          have HV := Lib.hid (fun d os => (below_in g.id 0 999 (Sort.grow (redrawn Wg d) os)).mono (fun e w' h => (⟨by rw [h.1, hib], h.2⟩ : e = .returned (.bool false) ∧ Below (Sort.grow (redrawn Wg d) os).heap.size (Sort.grow (redrawn Wg d) os) w')))
          have HIN := Lib.hid hin
          clear hin hk0 hkl
          refine wp_region_quiet_below (by kernel_rfl) (by kernel_rfl) ?_
          repeat (go_big_quiet_step (first | (with_reducible exact Calls.regrown_of (HV.out _ _))))
          refine wpQuiet_nil ?_
          intro wq hq0
          have hq := below_of_class hq0
          clear hq0
          clear g_1
          go_wp2_with fail
          go_meet
          exact ⟨_, rfl, ⟨fun h => (by cases h), fun h => absurd h.1 HIN.out⟩, hq⟩
      case rest =>
        obtain ⟨B, rfl, hB, hwc⟩ := hcut
        have hRc := (HR.out.then_ HBG.out).then_ hwc
        have H1c := Lib.hid ((H1.out.then_ HBG.out).then_ hwc)
        have H2c := Lib.hid ((H2.out.then_ HBG.out).then_ hwc)
        have HGc := Lib.hid ((hwc.block bg hbgl).trans HGC.out)
        have hsz := hwc.size
        have hbgc : bg < wc.heap.size := by omega
        have HRc := Lib.hid hRc
        clear hwc hRc hsz gi H1 H2 HGC HBG
        cases B with
        | true =>
          have HBAD := Lib.hid (show ¬ Valid l from fun hv => by
            have h1 := hB.2
            have h2 : (0 ≤ g.id ∧ g.id ≤ 999) ∧ ∀ j, j + 1 = k → (l.getD j g0).id < g.id := by
              rw [← HGE.out]
              exact ⟨hv.pre.idr k hlt, fun j hj => by rw [← hj]; exact hv.pre.asc j (by omega)⟩
            exact absurd (h1 h2) (by simp))
          clear hB
          obtain ⟨q1, q2⟩ := cells2 HRc.out.r2
          have q3 := HRc.out.r3.cell
          have f1 := frozen_of_row wc b2 0 _ _ HRc.out.r2
          have f2 := frozen_of_row wc b2 1 _ _ HRc.out.r2
          have f3 := HRc.out.r3.frozen
          have hb23 := HO.out.1
          go_wp2_with fail
          -- bad 1
          exact rd_bad (Ds := []) (B := b3 + 1) HRc.out ⟨HO.out.1, HO.out.2.2.2.2, by omega⟩ (MarksAt.nil _ _) HBAD.out rfl rfl
        | false =>
          obtain ⟨hB1, hB2⟩ := hB.1 rfl
          have hgid : I64 g.id := by unfold I64; omega
          have hgids : ∀ j, j < k → (l.getD j g0).id ≠ (l.getD k g0).id := fun j hj e => by
            rw [HGE.out] at e
            rcases Nat.lt_or_ge (j + 1) k with h | h
            · have h1 := HP.out.lt (show j < k - 1 by omega) (show k - 1 < k by omega)
              have h2 := hB2 (k - 1) (by omega)
              omega
            · have := hB2 j (by omega); omega
          obtain ⟨w1, hup, hM1, hK1⟩ := H1c.out.store gmap_u (by have := HN.out; unfold maxLen; omega) hgid (gv g)
          have hM1 : MapAt w1 m1 (n1 + 1) (fun x => (find (l.take (k + 1)) x).map gv) := hM1.congr (fun x => by
            have := find_next hlt hgids x
            rw [HGE.out] at this
            exact this)
          obtain ⟨c0, c1⟩ := cells2 HRc.out.r4
          have d0 := cell_of_row wc bg 0 _ _ _ HGc.out
          have d1 := cell_of_row wc bg 1 _ _ _ HGc.out
          have d2 := cell_of_row wc bg 2 _ _ _ HGc.out
          unfold gv at hup
          rw [hv] at hup
          have hO := HO.out
          have e2 := hK1.cell d2 (show bg ∉ [m1] by simp; omega)
          have HR1 := Lib.hid (HRc.out.kept hK1 (by simp; omega) (by simp; omega) (by simp; omega) (by simp; omega))
          have HM1 := Lib.hid hM1
          have HM2 := Lib.hid (H2c.out.kept hK1 (by simp; omega))
          have HG1 := Lib.hid (hK1.heap HGc.out (show bg ∉ [m1] by simp; omega))
          clear hM1 hK1
          go_wp2_with fail
          -- loop 2
          have HB := Lib.hid (show (0 ≤ g.id ∧ g.id ≤ 999) ∧ ∀ j, j + 1 = k → (l.getD j g0).id < g.id from ⟨hB1, hB2⟩)
          have HGI := Lib.hid hgid
          clear hup d0 d1 d2 hgids hgid hB hB1 hB2 c0 c1
          have hml : (g.ms.length : Int) ≤ 1000 := by have := HS.out.mlen k hlt; rw [HGE.out] at this; omega
          go_loopw [55] (fun i wq => ∃ (q n3 : Nat), q ≤ g.ms.length ∧ i = .int .i64 (q : Int) ∧ n3 ≤ 1000 * k + q ∧ Kept [m2] w1 wq ∧ MsOk g.ms q ∧ (∀ p, p < q → ∀ j, j < k → g.ms.getD p 0 ∉ (l.getD j g0).ms) ∧ MapAt wq m2 n3 (fun x => (ownT l k q x).map (Value.int .i64))) (fun i _ => g.ms.length - (intOf i).toNat)
          case atStart => exact ⟨0, n2, by omega, rfl, by have := HN.out; omega, Kept.refl _ _, MsOk.zero _, fun p hp => by omega, HM2.out.congr (fun x => by rw [ownT_zero])⟩
          case round =>
            obtain ⟨q, n3, hq, rfl, hn3, hKq, hmo, hap, hMq⟩ := hrel
            have HKq := Lib.hid hKq
            have HMO := Lib.hid hmo
            have HAP := Lib.hid hap
            have HMq := Lib.hid hMq
            have HN3 := Lib.hid hn3
            have HR2 := Lib.hid (HR1.out.kept hKq (by simp; omega) (by simp; omega) (by simp; omega) (by simp; omega))
            clear hKq hmo hap hMq hn3
            by_cases hql : q < g.ms.length
            · have hqi : (q : Int) < (g.ms.length : Int) := by omega
              have hq0 : (0 : Int) ≤ (q : Int) := by omega
              obtain ⟨bm, om, hAm, hcm⟩ := (HMI.out.then_ HR2.out.bel) q hql
              subst hAm
              obtain ⟨x, hx⟩ : ∃ x, g.ms.getD q 0 = x := ⟨_, rfl⟩
              rw [hx] at hcm
              have hxi : I64 x := by have := HS.out.ms k hlt q (by rw [HGE.out]; exact hql); rw [HGE.out, hx] at this; exact this
              have hlk := HMq.out.look_ok imap_u (int_zero _) hxi
              obtain ⟨tw, htw⟩ : ∃ tw, (ownT l k q x).isSome = tw := ⟨_, rfl⟩
              obtain ⟨lv, hlv⟩ : ∃ lv, ((ownT l k q x).map (Value.int .i64)).getD (.int .i64 0) = lv := ⟨_, rfl⟩
              rw [Option.isSome_map, htw, hlv] at hlk
              obtain ⟨c0, c1⟩ := cells2 HR2.out.r4
              have HTW := Lib.hid htw
              have HX := Lib.hid hx
              clear htw hlv hx
              have hO := HO.out
              have hb4l : b4 < wr.heap.size := heap_lt HR2.out.r4
              have e2 : wr.cell? ⟨bg, 2, none⟩ = some (.slice (some ⟨bm, om, none⟩) g.ms.length cm) := HKq.out.cell e2 (by simp; omega)
              have e0 : wr.cell? ⟨bg, 0, none⟩ = some (.int .i64 g.id) := HKq.out.cell (cell_of_row w1 bg 0 _ _ _ HG1.out) (by simp; omega)
              go_upto_region 12 with fail
              go_cut [86] from 67 to 86 (fun s wx => ∃ B : Bool, s = .bool B ∧ (B = false ↔ tw = false ∧ (1 ≤ x ∧ x ≤ 39999) ∧ ∀ p, p + 1 = q → g.ms.getD p 0 < x) ∧ wx = wr)
              case first =>
                cases tw with
                | true =>
                  go_wp2_with fail
                  go_meet
                  exact ⟨_, rfl, ⟨fun h => (by cases h), fun h => (by cases h.1)⟩, rfl⟩
                | false =>
                  by_cases hin : 1 ≤ x ∧ x ≤ 39999
                  · have hib : inB x 1 39999 = true := inB_iff.2 hin
                    have HIN := Lib.hid hin
                    clear hin
                    rcases Nat.eq_zero_or_pos q with hz | hz
                    · have HZ := Lib.hid hz
                      have hkg : ¬ (0 < q) := by omega
                      clear hz
                      go_wp2_with fail
                      refine (in_any _ _ _ _).mono ?_
                      rintro e w2 ⟨rfl, rfl⟩
                      rw [hib]
                      go_wp2_with fail
                      go_meet
                      exact ⟨_, rfl, ⟨fun _ => ⟨trivial, HIN.out, fun p hp => by have := HZ.out; omega⟩, fun _ => rfl⟩, rfl⟩
                    · obtain ⟨j, hj⟩ : ∃ j, q - 1 = j := ⟨_, rfl⟩
                      have hkj : (q : Int) - 1 = (j : Int) := by omega
                      have hw : IntKind.i64.wrap ((q : Int) - 1) = (j : Int) := by rw [hkj]; exact IntWalk.i64_in _ (by omega)
                      have hj0 : (0 : Int) ≤ (j : Int) := by omega
                      have hjl : (j : Int) < (g.ms.length : Int) := by omega
                      have hjq : j + 1 = q := by omega
                      obtain ⟨b', o', hA', hcp⟩ := (HMI.out.then_ HR2.out.bel) j (by omega)
                      have hA2 : bm = b' ∧ om = o' := by simpa using hA'
                      obtain ⟨rfl, rfl⟩ := hA2
                      obtain ⟨y, hy⟩ : ∃ y, g.ms.getD j 0 = y := ⟨_, rfl⟩
                      rw [hy] at hcp
                      have HY := Lib.hid hy
                      have HJ := Lib.hid hjq
                      clear hy hA' hj hjq
                      by_cases hle : x ≤ y
                      · go_wp2_with fail
                        refine (in_any _ _ _ _).mono ?_
                        rintro e w2 ⟨rfl, rfl⟩
                        rw [hib]
                        go_wp2_with fail
                        go_meet
                        exact ⟨_, rfl, ⟨fun h => (by cases h), fun h => absurd (h.2.2 j HJ.out) (by rw [HY.out]; omega)⟩, rfl⟩
                      · go_wp2_with fail
                        refine (in_any _ _ _ _).mono ?_
                        rintro e w2 ⟨rfl, rfl⟩
                        rw [hib]
                        go_wp2_with fail
                        go_meet
                        exact ⟨_, rfl, ⟨fun _ => ⟨trivial, HIN.out, fun p hp => (show j = p by have := HJ.out; omega) ▸ (show g.ms.getD j 0 < x by rw [HY.out]; omega)⟩, fun _ => decide_eq_false (by omega)⟩, rfl⟩
                  · have hib : inB x 1 39999 = false := by
                      cases h : inB x 1 39999 with
                      | false => rfl
                      | true => exact absurd (inB_iff.1 h) hin
                    have HIN := Lib.hid hin
                    clear hin
                    go_wp2_with fail
                    refine (in_any _ _ _ _).mono ?_
                    rintro e w2 ⟨rfl, rfl⟩
                    rw [hib]
                    go_wp2_with fail
                    go_meet
                    exact ⟨_, rfl, ⟨fun h => (by cases h), fun h => absurd h.2.1 HIN.out⟩, rfl⟩
              case rest =>
                obtain ⟨B, rfl, hB, rfl⟩ := hcut
                cases B with
                | true =>
                  have HBAD := Lib.hid (show ¬ Valid l from fun hv => by
                    have h1 : tw = false := by rw [← HTW.out, ← HX.out, ← HGE.out]; exact hv.not_twice hlt (by rw [HGE.out]; exact hql)
                    have h3 := hv.pre.mem k hlt
                    rw [HGE.out] at h3
                    have h2 := hB.2 ⟨h1, by rw [← HX.out]; exact h3.rng q hql, fun p hp => by rw [← HX.out, ← hp]; exact h3.asc p (by omega)⟩
                    cases h2)
                  clear hB
                  obtain ⟨q1, q2⟩ := cells2 HR2.out.r2
                  have q3 := HR2.out.r3.cell
                  have f1 := frozen_of_row wc b2 0 _ _ HR2.out.r2
                  have f2 := frozen_of_row wc b2 1 _ _ HR2.out.r2
                  have f3 := HR2.out.r3.frozen
                  have hb23 := HO.out.1
                  clear hlk e0 e2 c0 c1
                  go_wp2_with fail
                  exact rd_bad (Ds := []) (B := b3 + 1) HR2.out ⟨HO.out.1, HO.out.2.2.2.2, by omega⟩ (MarksAt.nil _ _) HBAD.out rfl rfl
                | false =>
                  obtain ⟨ht, hr, ha⟩ := hB.1 rfl
                  have hnt := ownT_none (show k ≤ l.length by omega) (HTW.out.trans ht)
                  obtain ⟨w3, hup, hM3, hK3⟩ := HMq.out.store imap_u (by have := HN3.out; unfold maxLen; omega) hxi (.int .i64 g.id)
                  have HM3 := Lib.hid (hM3.congr (g := fun y => (ownT l k (q + 1) y).map (Value.int .i64)) (fun y => by
                    have := ownT_next (l := l) (i := k) (k := q) (by rw [HGE.out]; exact hql) y
                    rw [HGE.out, HX.out] at this
                    rw [← this]
                    by_cases e : y = x
                    · rw [if_pos e, if_pos e]; rfl
                    · rw [if_neg e, if_neg e]))
                  have HK3 := Lib.hid (HKq.out.trans hK3 (New.refl _ _))
                  have HMO2 := Lib.hid (HMO.out.next (by rw [HX.out]; exact hr) (fun p hp => by rw [HX.out]; exact ha p hp))
                  have HAP2 := Lib.hid (show ∀ p, p < q + 1 → ∀ j, j < k → g.ms.getD p 0 ∉ (l.getD j g0).ms from fun p hp j hj => by
                    rcases Nat.lt_succ_iff_lt_or_eq.1 hp with h | h
                    · exact HAP.out p h j hj
                    · rw [h, HX.out]; exact hnt.2 j hj)
                  clear hM3 hK3 hnt hB ht hr ha hlk
                  go_wp2_with fail
                  refine ⟨⟨q + 1, n3 + 1, by omega, by go_num, by have := HN3.out; omega, HK3.out, HMO2.out, HAP2.out, HM3.out⟩, ?_⟩
                  simp [intOf]; omega
            · obtain rfl : q = g.ms.length := by omega
              have hO := HO.out
              have hap : ∀ j', j' < k → ∀ c ∈ (l.getD k g0).ms, c ∉ (l.getD j' g0).ms := fun j' hj' c hc => by
                rw [HGE.out] at hc
                obtain ⟨p, hp, e⟩ := ex_getD 0 hc
                rw [← e]
                exact HAP.out p hp j' hj'
              have HPre := Lib.hid (HP.out.next (by rw [HGE.out]; exact HB.out.1) (fun j hj => by rw [HGE.out]; exact HB.out.2 j hj) (by rw [HGE.out]; exact HMO.out) (fun p hp j hj => hap j hj _ (mem_getD hp)))
              have HF1 := Lib.hid (HM1.out.kept HKq.out (by simp; omega))
              have HF2 := Lib.hid (HMq.out.congr (g := fun x => (owner (l.take (k + 1)) x).map (Value.int .i64)) (fun x => by
                rw [← ownT_full hlt hap, HGE.out]))
              have hn1 := HN.out
              have hn3 := HN3.out
              clear hap e2
              go_wp2_with fail
              refine ⟨⟨k + 1, n1 + 1, n3, by omega, by go_num, by omega, by omega, HR2.out, HPre.out, HF1.out, HF2.out⟩, ?_⟩
              simp [intOf]; omega
    · obtain rfl : k = l.length := by omega
      clear hlt
      go_wp2_with fail
      -- loop 3
      have HV := Lib.hid (show Valid l ↔ l.length ≤ 24 ∧ ∀ j, j < l.length → okUp l 12 (l.getD j g0).id = true from ⟨fun h => ⟨h.len, h.chain⟩, fun h => ⟨h.1, HP.out, h.2⟩⟩)
      have HI := Lib.hid (fun (x : Int) => sized_of HS.out x)
      have HF1 := Lib.hid (H1.out.congr (g := fun x => (find l x).map gv) (fun x => by rw [List.take_length]))
      have HF2 := Lib.hid (H2.out.congr (g := fun x => (owner l x).map (Value.int .i64)) (fun x => by rw [List.take_length]))
      obtain ⟨W3, hW3⟩ : ∃ W3, wr = W3 := ⟨_, rfl⟩
      rw [hW3] at HR HF1 HF2 ⊢
      clear hW3 H1 H2 HN HB2
      refine wp_loop (fun a wr => ∃ (k : Nat) (Ds : List Nat) (v12 v13 v98 v99 v100 v101 v102 v103 v104 v122 : Value), k ≤ l.length ∧ (∀ j, j < k → okUp l 12 (l.getD j g0).id = true) ∧ Below W3.heap.size W3 wr ∧ MarksAt wr W3.heap.size Ds ∧ a = { tmps := #[.slice A l.length c, undef, .pointer (some ⟨b2, 0, none⟩), .pointer (some ⟨b3, 0, none⟩), .pointer (some ⟨b4, 0, none⟩), u5, u6, u7, u8, u9, u10, undef, v12, v13, undef, undef, undef, .map (some m1), .map (some m2), .agg #[.map (some m1), .map (some m2)], .slice A l.length c, .int .i64 (l.length : Int), .int .i64 (l.length : Int), .bool false, u24, u25, u26, u27, u28, u29, u30, u31, u32, u33, u34, u35, u36, u37, u38, u39, u40, u41, u42, u43, u44, u45, u46, u47, u48, u49, u50, u51, u52, u53, u54, u55, u56, u57, u58, u59, u60, u61, u62, u63, u64, u65, u66, u67, u68, u69, u70, u71, u72, u73, u74, u75, u76, u77, u78, u79, u80, u81, u82, u83, u84, u85, u86, u87, u88, u89, u90, u91, u92, u93, u94, .slice A l.length c, .int .i64 (l.length : Int), .int .i64 (k : Int), v98, v99, v100, v101, v102, v103, v104, undef, undef, undef, undef, undef, undef, undef, undef, undef, undef, undef, undef, undef, undef, undef, undef, undef, v122, undef, undef, undef, undef], defers := marks Ds }) (fun a _ => l.length - (intOf (a.tmps.getD 97 undef)).toNat) ?atStart ?round
      case atStart => exact ⟨0, [], _, _, _, _, _, _, _, _, _, _, by omega, fun j hj => by omega, Below.refl _ _, MarksAt.nil _ _, rfl⟩
      case round =>
        intro _ wr hinv
        obtain ⟨k, Ds, v12, v13, v98, v99, v100, v101, v102, v103, v104, v122, hk, hch, hB, hM, rfl⟩ := hinv
        dsimp only
        have HCH := Lib.hid hch
        have HB := Lib.hid hB
        have HM := Lib.hid hM
        clear hch hB hM
        have HRr := Lib.hid (HR.out.then_ HB.out)
        by_cases hlt : k < l.length
        · have hkl : (k : Int) < (l.length : Int) := by omega
          have hk0 : (0 : Int) ≤ (k : Int) := by omega
          obtain ⟨⟨ba, oa, hA, hga⟩, hms⟩ := (HG.out.then_ HRr.out.bel) k hlt
          obtain ⟨g, hg⟩ : ∃ g, l.getD k g0 = g := ⟨_, rfl⟩
          rw [hg] at hga hms
          obtain ⟨am, cm, hv, hcm, hmi, _⟩ := hms
          subst hA
          have x0 := hga.id
          have x1 := hga.of
          have x2 := hga.v
          rw [hv] at x2
          obtain ⟨c0, c1⟩ := cells2 HRr.out.r4
          have hb4l : b4 < wr.heap.size := heap_lt HRr.out.r4
          have HGE := Lib.hid hg
          have HIG := Lib.hid (show I64 g.id by have := HS.out.id k hlt; rw [hg] at this; exact this)
          clear hg hga hmi hv hcm
          go_wp2_with fail
          refine (outward_any _ _ _ _).mono ?_
          rintro e w5 ⟨rfl, rfl⟩
          obtain ⟨W4, hW4⟩ : ∃ W4, wr.alloc (.cells #[.int .i64 g.id, .int .i64 g.of, .slice am g.ms.length cm] 26) = W4 := ⟨_, rfl⟩
          have hB4 : Below wr.heap.size wr W4 := by rw [← hW4]; exact below_alloc (Below.refl _ _) _
          have hs4 : W4.heap.size = wr.heap.size + 1 := by rw [← hW4]; simp
          rw [hW4, ← hs4, World.size_alloc]
          obtain ⟨W5, hW5⟩ : ∃ W5, ((W4.alloc (.cells #[.int .i64 0] 3)).alloc (.cells #[.map (some m1), .map (some m2)] 73)).alloc (.cells #[.int .i64 g.id] 3) = W5 := ⟨_, rfl⟩
          have hB5 : Below W4.heap.size W4 W5 := by rw [← hW5]; exact below_alloc (below_alloc (below_alloc (Below.refl _ _) _) _) _
          have hs5 : W5.heap.size = W4.heap.size + 3 := by rw [← hW5]; simp
          have y1 : Boxed W5 W4.heap.size 3 (.int .i64 0) := by
            rw [← hW5]; exact heap_alloc (heap_alloc (World.alloc_heap_new W4 _) _) _
          have y2 : W5.heap[W4.heap.size + 1]? = some (.cells #[.map (some m1), .map (some m2)] 73 (0, 0)) := by
            rw [← hW5]
            refine heap_alloc ?_ _
            have := World.alloc_heap_new (W4.alloc (.cells #[.int .i64 0] 3)) (.cells #[.map (some m1), .map (some m2)] 73)
            rwa [World.size_alloc] at this
          have y3 : Boxed W5 (W4.heap.size + 1 + 1) 3 (.int .i64 g.id) := by
            rw [← hW5]
            have := Boxed.new ((W4.alloc (.cells #[.int .i64 0] 3)).alloc (.cells #[.map (some m1), .map (some m2)] 73)) 3 (.int .i64 g.id)
            rwa [World.size_alloc, World.size_alloc] at this
          rw [hW5]
          obtain ⟨bd, hbd⟩ : ∃ bd, W4.heap.size = bd := ⟨_, rfl⟩
          obtain ⟨bx, hbx⟩ : ∃ bx, W4.heap.size + 1 = bx := ⟨_, rfl⟩
          obtain ⟨bi, hbi⟩ : ∃ bi, W4.heap.size + 1 + 1 = bi := ⟨_, rfl⟩
          rw [hbi, hbx, hbd]
          rw [hbd] at y1
          rw [hbx] at y2
          rw [hbi] at y3
          have HB5 := Lib.hid (below_next (below_next HB.out hB4) hB5)
          have HM5 := Lib.hid ((HM.out.kept (Kept.of_below hB4) (by simp)).kept (Kept.of_below hB5) (by simp))
          have HOB := Lib.hid (show b4 < bd ∧ bd < bx ∧ bx < bi ∧ bi < W5.heap.size ∧ W3.heap.size ≤ bd from ⟨by omega, by omega, by omega, by omega, by have := HB.out.size; omega⟩)
          have HBD := Lib.hid (show wr.heap.size < bd by omega)
          clear hW4 hW5 hB4 hB5 hs4 hs5 hbd hbx hbi x0 x1 x2 hb4l c0 c1
          have HF15 := Lib.hid (HF1.out.then_ HB5.out)
          have HR5 := Lib.hid (HR.out.then_ HB5.out)
          have HMD := Lib.hid (show ∀ D ∈ Ds, D < bd from fun D hD => by have := HM.out.lt D hD; have := HBD.out; omega)
          go_wp2_with fail
          refine range_outer (n := 0) (gf := 69) (lb := #[.pointer (some ⟨bi, 0, none⟩), .pointer (some ⟨bx, 0, none⟩)]) rfl (enters_of Try.func69 (by kernel_rfl) rfl) ?_
          intro fn rec hrec
          have hcl := rec_cells hrec
          obtain ⟨W6, hW6⟩ : ∃ W6, (W5.alloc (.deferred (some []))).alloc (rec .ready none) = W6 := ⟨_, rfl⟩
          have hB6 : Below W5.heap.size W5 W6 := by rw [← hW6]; exact below_alloc (below_alloc (Below.refl _ _) _) _
          have hs6 : W6.heap.size = W5.heap.size + 2 := by rw [← hW6]; simp
          have hl1 : W6.heap[W5.heap.size + 1]? = some (rec .ready none) := by
            rw [← hW6]
            have := World.alloc_heap_new (W5.alloc (.deferred (some []))) (rec .ready none)
            rwa [World.size_alloc] at this
          have hl0 : W6.heap[W5.heap.size]? = some (.deferred (some [])) := by rw [← hW6]; exact heap_alloc (World.alloc_heap_new W5 _) _
          rw [hW6]
          obtain ⟨lr, hlr⟩ : ∃ lr, W5.heap.size + 1 = lr := ⟨_, rfl⟩
          have hO := HO.out
          have hOB := HOB.out
          have Z1 := Lib.hid (show Boxed W6 bd 3 (.int .i64 0) from (hB6.block _ (by omega)).trans y1)
          have Z2 := Lib.hid ((hB6.block _ (by omega)).trans y2)
          have Z3 := Lib.hid (show Boxed W6 bi 3 (.int .i64 g.id) from (hB6.block _ (by omega)).trans y3)
          have HB6 := Lib.hid (below_next HB5.out hB6)
          have HR6 := Lib.hid (HR5.out.then_ hB6)
          have HF6 := Lib.hid (HF15.out.then_ hB6)
          have HL0 := Lib.hid hl0
          have HOL := Lib.hid (show lr = W5.heap.size + 1 ∧ lr < W6.heap.size from ⟨by omega, by omega⟩)
          have HBL6 := Lib.hid (fun D (hD : D < W5.heap.size) => hB6.block D hD)
          have hOL := HOL.out
          have hm1 : m1 < W3.heap.size := HF1.out.lt
          have HM1L := Lib.hid hm1
          rw [hlr] at hl1 ⊢
          clear hW6 hB6 hs6 hl0 y1 y2 y3 hlr hm1
          refine (out1_any bi bx lr l g.id (.map (some m1)) (.map (some m2)) (fun x => (find l x).map gv) (RdJ W6 bd bi lr rec l g.id) (RdK W6 bd bi lr rec l g.id) (RdF W6 b2 b3 bd bi lr rec l g.id) (fun W => (intOf ((W.cell? ⟨bd, 0, none⟩).getD undef)).toNat) ?hx ?hY ?hM ?hS W6 ?h0).mono ?done
          case hx => exact fun q W h => ⟨by have := h.le; omega, by rw [h.deep.cell]; simp [intOf], h.wf, h.at_.cell⟩
          case hM => exact fun q W h => ⟨by have := h.le; omega, h.wf, h.at_.cell, h.at_.frozen, h.kept.cell (cells2 Z2.out).1 (by simp; omega), .inr ⟨_, _, rfl, HF6.out.kept h.kept (by have := HM1L.out; simp; omega)⟩, fun _ => rfl⟩
          case hS => exact fun q W h => h.next HS.out (by omega) (by omega)
          case h0 => exact ⟨Kept.refl _ _, hl1, Z1.out, Z3.out, HIG.out, by omega, rfl⟩
          case hY =>
            intro q W hj hneg
            have HJ := Lib.hid hj
            refine yield_round hrec trivial hj.rd rfl ?_
            clear hrec
            have hjr := hj.rd
            have hle := hj.le
            obtain ⟨x, hx⟩ : ∃ x, nth l g.id q = x := ⟨_, rfl⟩
            have hok := hj.ok
            have hxi := hj.wf
            rw [hx] at hneg hok hxi ⊢
            have HX := Lib.hid hx
            gi_wp2
            refine ⟨hjr, ?_⟩
            have hkb : Kept [bd, bi, lr] W6 (W.putObj lr (rec .busy none)) := kept_putObj hj.kept (.inl (by simp)) _
            have hbz := heap_put hjr (rec .busy none)
            have hdp : Boxed (W.putObj lr (rec .busy none)) bd 3 (.int .i64 (q : Int)) := boxed_putObj hj.deep (by omega) _
            have hat : Boxed (W.putObj lr (rec .busy none)) bi 3 (.int .i64 x) := by have := boxed_putObj hj.at_ (show bi ≠ lr by omega) (rec .busy none); rwa [hx] at this
            obtain ⟨Wb, hWb⟩ : ∃ Wb, W.putObj lr (rec .busy none) = Wb := ⟨_, rfl⟩
            rw [hWb] at hkb hbz hdp hat ⊢
            clear hWb hj hjr hx
            have hMb : MapAt Wb m1 _ _ := HF6.out.kept hkb (by have := HM1L.out; simp; omega)
            have hlk := hMb.look_ok gmap_u (grp_zero _) hxi
            rw [gv_of, Option.isSome_map] at hlk
            obtain ⟨y, hy⟩ : ∃ y, (find l x).getD g0 = y := ⟨_, rfl⟩
            obtain ⟨kn, hkn⟩ : ∃ kn, (find l x).isSome = kn := ⟨_, rfl⟩
            rw [hy, hkn] at hlk
            obtain ⟨ya, yn, yc, hyv⟩ := found_slice HG.out x
            rw [hy] at hyv
            unfold gv at hlk
            rw [hyv] at hlk
            have c0 := hkb.cell (cells2 HR6.out.r4).1 (show b4 ∉ [bd, bi, lr] by simp; omega)
            have hdc := hdp.cell
            have hdf := hdp.frozen
            have HKB := Lib.hid hkb
            have HBZ := Lib.hid hbz
            have HDP := Lib.hid hdp
            have HAT := Lib.hid hat
            have HKN := Lib.hid hkn
            have HOK := Lib.hid hok
            have HXI := Lib.hid hxi
            have hbdl : bd < Wb.heap.size := lt_size hdc
            clear hkb hbz hdp hat hMb hy hkn hok hxi hOL hOB hyv
            have hO := HO.out
            have hOB := HOB.out
            have hOL := HOL.out
            have R2 := Lib.hid (HKB.out.heap HR6.out.r2 (show b2 ∉ [bd, bi, lr] by simp; omega))
            have R3 : Hid (Boxed Wb b3 4 (.bool false)) := Lib.hid (HKB.out.heap HR6.out.r3 (show b3 ∉ [bd, bi, lr] by simp; omega))
            clear hO hOB hOL
            have HNE := Lib.hid hneg
            cases kn with
            | false =>
              have HBAD := Lib.hid (show okUp l 12 g.id = false by
                rw [HOK.out]
                rcases Nat.lt_or_ge q 12 with h | h
                · rw [show 12 - q = (12 - (q + 1)) + 1 by omega, okUp_succ HNE.out, HKN.out]; rfl
                · rw [show 12 - q = 0 by omega]; exact okUp_zero HNE.out)
              obtain ⟨q0, q1⟩ := cells2 R2.out
              have q3 := R3.out.cell
              have f1 := frozen_of_row Wb b2 0 _ _ R2.out
              have f2 := frozen_of_row Wb b2 1 _ _ R2.out
              have f3 := R3.out.frozen
              have hb23 := HO.out.1
              have hb3w : b3 < Wb.heap.size := R3.out.lt; have hb2w : b2 < Wb.heap.size := heap_lt R2.out
              gi_wp2
              exact RdF.fin _ HKB.out R2.out R3.out HBZ.out (by have := HO.out; have := HOL.out; have := HOB.out; omega) HBAD.out
            | true =>
              by_cases h12 : q = 12
              · subst h12
                have HBAD := Lib.hid (show okUp l 12 g.id = false by rw [HOK.out]; exact okUp_zero HNE.out)
                have he : (((12 : Nat) : Int) == 12) = true := rfl
                obtain ⟨q0, q1⟩ := cells2 R2.out
                have q3 := R3.out.cell
                have f1 := frozen_of_row Wb b2 0 _ _ R2.out
                have f2 := frozen_of_row Wb b2 1 _ _ R2.out
                have f3 := R3.out.frozen
                have hb23 := HO.out.1
                have hb3w : b3 < Wb.heap.size := R3.out.lt; have hb2w : b2 < Wb.heap.size := heap_lt R2.out
                gi_wp2
                exact RdF.fin _ HKB.out R2.out R3.out HBZ.out (by have := HO.out; have := HOL.out; have := HOB.out; omega) HBAD.out
              · have he : ((q : Int) == 12) = false := beq_eq_false_iff_ne.2 (by omega)
                have HQ := Lib.hid (show q + 1 ≤ 12 by omega)
                have hq12 : (q : Int) ≤ 12 := by omega
                have hq0 : (0 : Int) ≤ (q : Int) := by omega
                have HOK2 := Lib.hid (show okUp l 12 g.id = okUp l (12 - (q + 1)) (nth l g.id (q + 1)) by
                  rw [HOK.out, show 12 - q = (12 - (q + 1)) + 1 by have := HQ.out; omega, okUp_succ HNE.out, HKN.out, Bool.true_and]
                  show _ = okUp l _ (ofI l (nth l g.id q))
                  rw [HX.out])
                clear h12 hle
                gi_wp2
                have hOB := HOB.out
                have hOL := HOL.out
                exact RdK.fin _ HKB.out HBZ.out HDP.out (by rw [HX.out]; exact HAT.out) (by rw [HX.out]; exact HXI.out) HQ.out HOK2.out (by omega) (by omega) (by omega)
          case done =>
            rintro e W' ⟨hv', ⟨q, hJ, hneg⟩ | hF⟩
            · refine ⟨hv', .inl ⟨hJ.rd, ?_⟩⟩
              have hO := HO.out
              have hOB := HOB.out
              have hOL := HOL.out
              have hk7 : Kept [bd, bi, lr] W6 (W'.putObj lr (rec .exhausted none)) := kept_putObj hJ.kept (.inl (by simp)) _
              have hok : okUp l 12 g.id = true := by rw [hJ.ok, hneg]; exact okUp_neg _ _
              have hb7 : Below W3.heap.size W3 (W'.putObj lr (rec .exhausted none)) := hk7.below_next HB6.out HB6.out.size (by simp; omega)
              have hm7 : MarksAt (W'.putObj lr (rec .exhausted none)) W3.heap.size (W5.heap.size :: Ds) := (HM5.out).cons (fun D hD => by
                  have h2 := heap_lt (HM5.out.at_ D hD).2
                  have h3 := HMD.out D hD
                  exact (hk7.block D (by omega) (by simp; omega)).trans (HBL6.out D h2)) (by have := HB5.out.size; omega) (fun D hD => heap_lt (HM5.out.at_ D hD).2) (hk7.heap HL0.out (by simp; omega))
              have HB7 := Lib.hid hb7
              have HM7 := Lib.hid hm7
              have HCH2 := Lib.hid (show ∀ j, j < k + 1 → okUp l 12 (l.getD j g0).id = true from fun j hj => by
                rcases Nat.lt_succ_iff_lt_or_eq.1 hj with h | h
                · exact HCH.out j h
                · rw [h, HGE.out]; exact hok)
              obtain ⟨W7, hW7⟩ : ∃ W7, W'.putObj lr (rec .exhausted none) = W7 := ⟨_, rfl⟩
              rw [hW7] at HB7 HM7 ⊢
              clear hW7 hJ hneg hk7 hok hb7 hm7 hrec hcl hl1 hv'
              go_wp2_with fail
              refine ⟨⟨k + 1, W5.heap.size :: Ds, ?_⟩, ?_⟩
              · (repeat apply Exists.intro)
                exact ⟨by omega, HCH2.out, HB7.out, HM7.out, rfl⟩
              show l.length - (intOf (.int .i64 ((k : Int) + 1))).toNat < l.length - (intOf (.int .i64 (k : Int))).toNat
              simp [intOf]; omega
            · refine ⟨hv', .inr ⟨.ret, hF.dn, ?_⟩⟩
              have hO := HO.out
              have hOB := HOB.out
              have hOL := HOL.out
              have hk7 : Kept [b2, b3, bd, bi, lr] W6 (W'.putObj lr (rec .exhausted (some .ret))) := kept_putObj hF.kept (.inl (by simp)) _
              have hb6 := HR6.out.bel
              have hb7 : Below w.heap.size w (W'.putObj lr (rec .exhausted (some .ret))) := hk7.below_next hb6 hb6.size (by simp; have := HB.out.size; have := HR.out.bel.size; omega)
              have hm7 : MarksAt (W'.putObj lr (rec .exhausted (some .ret))) W3.heap.size (W5.heap.size :: Ds) := (HM5.out).cons (fun D hD => by
                  have h2 := heap_lt (HM5.out.at_ D hD).2
                  have h3 := HMD.out D hD
                  have h4 := (HM5.out.at_ D hD).1
                  have h5 := HR.out.r4
                  have h6 := heap_lt h5
                  exact (hk7.block D (by omega) (by simp; omega)).trans (HBL6.out D h2)) (by have := HB5.out.size; omega) (fun D hD => heap_lt (HM5.out.at_ D hD).2) (hk7.heap HL0.out (by simp; omega))
              have hno : ¬ Valid l := fun hv => by have := hv.chain k hlt; rw [HGE.out, hF.bad] at this; cases this
              have d0 := (World.cell?_of_block (World.putObj_heap_other (o := rec .exhausted (some .ret)) (show (⟨b2, 0, none⟩ : Addr).block ≠ lr by dsimp only; omega))).trans hF.c0
              have d1 := (World.cell?_of_block (World.putObj_heap_other (o := rec .exhausted (some .ret)) (show (⟨b2, 1, none⟩ : Addr).block ≠ lr by dsimp only; omega))).trans hF.c1
              have d2 := (World.cell?_of_block (World.putObj_heap_other (o := rec .exhausted (some .ret)) (show (⟨b3, 0, none⟩ : Addr).block ≠ lr by dsimp only; omega))).trans hF.c2
              have hb23 : b2 < W3.heap.size ∧ b3 < W3.heap.size := ⟨heap_lt HR.out.r2, HR.out.r3.lt⟩
              obtain ⟨W7, hW7⟩ : ∃ W7, W'.putObj lr (rec .exhausted (some .ret)) = W7 := ⟨_, rfl⟩
              rw [hW7] at hb7 hm7 d0 d1 d2 ⊢
              have HB7 := Lib.hid hb7
              have HM7 := Lib.hid hm7
              have HN := Lib.hid hno
              have D0 := Lib.hid d0
              have D1 := Lib.hid d1
              have D2 := Lib.hid d2
              have HB23 := Lib.hid hb23
              clear hW7 hF hk7 hb7 hm7 hno hrec hcl hv' hl1 d0 d1 d2 hb6 hb23
              go_wp2_with fail
              refine rd_leave (B := W3.heap.size) (Ds := W5.heap.size :: Ds) rfl rfl HM7.out HB23.out D0.out D1.out D2.out (fun W8 hk8 => ?_)
              exact ⟨_, _, false, fun _ => none, fun _ => none, rfl, hk8.below_next HB7.out HB7.out.size (fun D hD => by have := (HM7.out.at_ D hD).1; have := HR.out.bel.size; omega), ⟨fun h => (by cases h), fun h => absurd h HN.out⟩, .inl ⟨rfl, fun _ => rfl⟩, .inl ⟨rfl, fun _ => rfl⟩, fun h => (by cases h), .inl fun _ => rfl⟩
        · obtain rfl : k = l.length := by omega
          have hO := HO.out
          obtain ⟨c0, c1⟩ := cells2 HRr.out.r4
          obtain ⟨q0, q1⟩ := cells2 HRr.out.r2
          have q3 := HRr.out.r3.cell
          have f1 := frozen_of_row wr b2 0 _ _ HRr.out.r2
          have f2 := frozen_of_row wr b2 1 _ _ HRr.out.r2
          have f3 := HRr.out.r3.frozen
          have hb23 := hO.1
          clear hlt
          go_wp2_with fail
          obtain ⟨V', hV⟩ : ∃ V', ((wr.setCell ⟨b2, 0, none⟩ (.map (some m1))).setCell ⟨b2, 1, none⟩ (.map (some m2))).setCell ⟨b3, 0, none⟩ (.bool (decide ((l.length : Int) ≤ 24))) = V' := ⟨_, rfl⟩
          obtain ⟨d0, d1, d2, hk⟩ := stored3 q0 q1 q3 (by omega) hV
          have hb23 : b2 < W3.heap.size ∧ b3 < W3.heap.size := ⟨heap_lt HR.out.r2, HR.out.r3.lt⟩
          have hM' : MarksAt V' W3.heap.size Ds := HM.out.kept hk (fun D hD h => by have := (HM.out.at_ D hD).1; simp at h; omega)
          have hb : Below w.heap.size w V' := hk.below_next HRr.out.bel HRr.out.bel.size (by simp; omega)
          have hV1 := ((HF1.out.then_ HB.out).kept hk (by simp; omega))
          have hV2 := ((HF2.out.then_ HB.out).kept hk (by simp; omega))
          rw [hV]
          refine rd_leave (B := W3.heap.size) (Ds := Ds) rfl rfl hM' hb23 d0 d1 d2 (fun W8 hk8 => ?_)
          have hm : ∀ q, q < W3.heap.size → q ∉ Ds := fun q hq e => by have := (HM.out.at_ q e).1; omega
          have hm1 := HF1.out.lt
          have hm2 := HF2.out.lt
          refine ⟨_, _, _, _, _, rfl, hk8.below_next hb hb.size (fun D hD => by have := (HM.out.at_ D hD).1; have := HR.out.bel.size; omega), ?_, .inr ⟨_, _, rfl, hV1.kept hk8 (hm _ hm1)⟩, .inr ⟨_, _, rfl, hV2.kept hk8 (hm _ hm2)⟩, fun _ => ⟨fun _ => rfl, fun _ => rfl⟩, .inr fun _ => rfl⟩
          rw [HV.out, decide_eq_true_iff]
          constructor
          · exact fun h => ⟨by omega, HCH.out⟩
          · exact fun h => by have := h.1; omega
end Go.Proofs.Ytebfenkjipaedaa.Gr
