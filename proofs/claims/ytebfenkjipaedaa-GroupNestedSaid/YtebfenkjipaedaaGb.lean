/- A range over a function: the statement's law and a round's law with the loop's record in the open, so that an iterator may keep state of its own in cells. Nothing of the program stands here. Leaving a function behind several loops over functions: each has left a block for deferred calls, and none was deferred. No program stands here. -/
import Derived.RangeFuncNested
import Derived.RangeFuncLeaves
import Derived.Test.YtebfenkjipaedaaKept
namespace Go.Proofs.Ytebfenkjipaedaa
open Go.RowKit

/-- the record of a loop over a function -/
def loopRec (fn : FuncId) (tmps : Array Value) (ps : Array Tmp) (assign body : Code) (D : Nat) (st : LoopState) (pe : Option Code) : Obj :=
  .loop { state := st, pending := pe, fn := fn, tmps := tmps, params := ps, assign := assign, body := body, defers := D }
theorem loopRec_cells {fn : FuncId} {tmps : Array Value} {ps : Array Tmp} {assign body : Code} {D : Nat} {st : LoopState} {pe : Option Code} : (loopRec fn tmps ps assign body D st pe).isCells = false := rfl

/-- how a round may be left, and what is owed then -/
def roundEnd (l : Nat) (rec : LoopState → Option Code → Obj) (R : Ending → World → Prop) : Exit → Act → World → Prop
  | .normal, _, W => W.heap[l]? = some (rec .busy none) ∧ R (.returned (.bool true)) (W.putObj l (rec .ready none))
  | .ret, _, W => W.heap[l]? = some (rec .busy none) ∧ R (.returned (.bool false)) (W.putObj l (rec .done (some .ret)))
  | .exit id, _, W => W.heap[l]? = some (rec .busy none) ∧ R (.returned (.bool false)) (W.putObj l (rec .done (some (.exit id))))
  | .goto t, _, W => W.heap[l]? = some (rec .busy none) ∧ R (.returned (.bool false)) (W.putObj l (rec .done (some (.goto t))))
  | .panic _, _, _ => False
  | .outgrown, _, _ => False

/-- one call of yield, from the walks of the assignment and the body -/
theorem yield_round {F : Fence} {m : Nat} {P : Program} {l : Nat} {fn : FuncId} {tmps : Array Value} {ps : Array Tmp} {assign body : Code} {D : Nat} {W : World} {args : Array Value} {R : Ending → World → Prop}
    {rec : LoopState → Option Code → Obj} (hrec : rec = loopRec fn tmps ps assign body D) (hfn : F.fn fn) (hl : W.heap[l]? = some (rec .ready none)) (hs : args.size = ps.size)
    (h : assign.wpIn (F.inRound l) m P (Exit.then (fun a₁ W1 => W1.heap[l]? = some (rec .ready none) ∧
      body.wpIn (F.inRound l) m P (roundEnd l rec R) a₁ (W1.putObj l (rec .busy none))) (fun _ _ _ => False))
      { tmps := (ps.zip args).foldl (fun t (p, v) => t.setIfInBounds p v) tmps, defers := [] } W) : YieldAt F m P l args W R := by
  subst hrec
  refine ⟨fn, _, assign, body, run_yield hl hs, roundIn_of_wpIn hfn (wpIn_mono h ?_)⟩
  intro e a1 W1 hp
  cases e with
  | normal =>
    obtain ⟨hl1, hb⟩ := hp
    refine ⟨_, run_beginRound hl1 rfl, wpIn_mono hb ?_⟩
    intro e2 a2 W2 hq
    have fin : ∀ jump : Option Code, W2.heap[l]? = some (loopRec fn tmps ps assign body D .busy none) →
        (Instr.endRound l jump).run P W2 = .ok (.bool jump.isNone) (W2.putObj l (loopRec fn tmps ps assign body D (if jump.isNone then .ready else .done) jump)) :=
      fun jump hj => run_endRound jump hj
    cases e2 with
    | normal => exact ⟨_, _, fin none hq.1, hq.2⟩
    | ret => exact ⟨_, _, fin (some .ret) hq.1, hq.2⟩
    | exit id => exact ⟨_, _, fin (some (.exit id)) hq.1, hq.2⟩
    | goto t => exact ⟨_, _, fin (some (.goto t)) hq.1, hq.2⟩
    | panic c => exact hq.elim
    | outgrown => exact hq.elim
  | ret => exact hp.elim
  | exit id => exact hp.elim
  | goto t => exact hp.elim
  | panic c => exact hp.elim
  | outgrown => exact hp.elim

theorem rec_cells {rec : LoopState → Option Code → Obj} {fn : FuncId} {tmps : Array Value} {ps : Array Tmp} {assign body : Code} {D : Nat} (hrec : rec = loopRec fn tmps ps assign body D) (st : LoopState) (pe : Option Code) :
    (rec st pe).isCells = false := by subst hrec; rfl

/-- what the function that is ranged over must come to -/
def rangeEnd (l : Nat) (rec : LoopState → Option Code → Obj) (Qn : World → Prop) (Qj : Code → World → Prop) (e : Ending) (W : World) : Prop :=
  (∃ v, e = .returned v) ∧ ((W.heap[l]? = some (rec .ready none) ∧ Qn (W.putObj l (rec .exhausted none))) ∨
    ∃ c, W.heap[l]? = some (rec .done (some c)) ∧ Qj c (W.putObj l (rec .exhausted (some c))))

/-- the statement, in a function's own body -/
theorem range_outer {P : Program} {g : Operand} {ps : Array Tmp} {assign body : Code} {Q : Exit → Act → World → Prop} {a : Act} {w : World} {n gf : Nat} {lb : Array Value}
    (hg : a.eval g = .func (.func gf) #[] lb) (eg : ∀ args w, (callFunc gf args).run P w = .ok (.enter gf args) w)
    (h : ∀ fn rec, rec = loopRec fn a.tmps ps assign body w.heap.size → CallsIn Fence.wide (n - 1) P gf (#[.func (.yield (w.heap.size + 1)) #[] #[]] ++ lb)
      ((w.alloc (.deferred (some []))).alloc (rec .ready none))
      (rangeEnd (w.heap.size + 1) rec
        (Q .normal { a with defers := { target := .collected w.heap.size, args := #[] } :: a.defers })
        (fun c W => c.wp P Q { a with defers := { target := .collected w.heap.size, args := #[] } :: a.defers } W))) :
    (Code.rangeFunc g ps assign body).wp P Q a w := by
  refine (wpIn_wide (n := n)).1 ?_
  refine wpIn_rangeFunc ?_
  intro fn hfn
  have h' := h fn _ rfl
  obtain ⟨W1, hW1⟩ : ∃ W1, (w.alloc (.deferred (some []))).alloc (loopRec fn a.tmps ps assign body w.heap.size .ready none) = W1 := ⟨_, rfl⟩
  rw [hW1] at h'
  refine ⟨w.heap.size + 1, [{ target := .collected w.heap.size, args := #[] }], W1, { target := .fn (.func gf) lb, args := #[.func (.yield (w.heap.size + 1)) #[] #[]] }, W1, gf,
    #[.func (.yield (w.heap.size + 1)) #[] #[]] ++ lb, W1, ?_, ?_, ?_, ?_, ?_, ?_⟩
  · rw [← hW1]; exact run_enterLoop_outer _ _ _ _ _
  · simp only [resolve, hg]; simp [go_sem]
  · exact fun _ _ => True.intro
  · simp [invoke, go_sem, eg]
  · exact fun hd => by simp [Fence.wide] at hd
  refine h'.mono ?_
  rintro e W' ⟨⟨v, rfl⟩, hh⟩
  rcases hh with hh | hh
  · obtain ⟨hl, hq⟩ := hh
    refine ⟨none, W'.putObj (w.heap.size + 1) (loopRec fn a.tmps ps assign body w.heap.size .exhausted none), ?_, ?_⟩
    · exact run_endLoop hl (by simp)
    · exact hq
  · obtain ⟨c, hl, hq⟩ := hh
    refine ⟨some c, W'.putObj (w.heap.size + 1) (loopRec fn a.tmps ps assign body w.heap.size .exhausted (some c)), ?_, ?_⟩
    · exact run_endLoop hl (by simp)
    · exact wpIn_wide.2 hq

/-- the statement, in a round of another loop -/
theorem range_inner {P : Program} {g : Operand} {ps : Array Tmp} {assign body : Code} {Q : Exit → Act → World → Prop} {a : Act} {w : World} {n gf l₀ : Nat} {lb : Array Value}
    {fn₀ : FuncId} {tmps₀ : Array Value} {ps₀ : Array Tmp} {assign₀ body₀ : Code} {D₀ : Nat} {st₀ : LoopState} {pe₀ : Option Code} (hl₀ : w.heap[l₀]? = some (loopRec fn₀ tmps₀ ps₀ assign₀ body₀ D₀ st₀ pe₀))
    (hg : a.eval g = .func (.func gf) #[] lb) (eg : ∀ args w, (callFunc gf args).run P w = .ok (.enter gf args) w)
    (h : ∀ fn rec, rec = loopRec fn a.tmps ps assign body D₀ → CallsIn Fence.wide (n - 1) P gf (#[.func (.yield w.heap.size) #[] #[]] ++ lb)
      (w.alloc (rec .ready none))
      (rangeEnd w.heap.size rec (Q .normal a) (fun c W => c.wpIn (Fence.wide.inRound l₀) n P Q a W))) :
    (Code.rangeFunc g ps assign body).wpIn (Fence.wide.inRound l₀) n P Q a w := by
  refine wpIn_rangeFunc ?_
  intro fn hfn
  have h' := h fn _ rfl
  obtain ⟨W1, hW1⟩ : ∃ W1, w.alloc (loopRec fn a.tmps ps assign body D₀ .ready none) = W1 := ⟨_, rfl⟩
  rw [hW1] at h'
  refine ⟨w.heap.size, [], W1, { target := .fn (.func gf) lb, args := #[.func (.yield w.heap.size) #[] #[]] }, W1, gf,
    #[.func (.yield w.heap.size) #[] #[]] ++ lb, W1, ?_, ?_, ?_, ?_, ?_, ?_⟩
  · rw [← hW1]; exact run_enterLoop_inner hl₀ _ _ _ _ _
  · simp only [resolve, hg]; simp [go_sem]
  · exact fun _ _ => True.intro
  · simp [invoke, go_sem, eg]
  · exact fun hd => by simp [Fence.wide, Fence.inRound] at hd
  refine CallsIn.inRound l₀ ?_
  refine h'.mono ?_
  rintro e W' ⟨⟨v, rfl⟩, hh⟩
  rcases hh with hh | hh
  · obtain ⟨hl, hq⟩ := hh
    refine ⟨none, W'.putObj w.heap.size (loopRec fn a.tmps ps assign body D₀ .exhausted none), ?_, ?_⟩
    · exact run_endLoop hl (by simp)
    · exact hq
  · obtain ⟨c, hl, hq⟩ := hh
    refine ⟨some c, W'.putObj w.heap.size (loopRec fn a.tmps ps assign body D₀ .exhausted (some c)), ?_, ?_⟩
    · exact run_endLoop hl (by simp)
    · exact hq

/-- a function's contract from its body, where the body holds a range over a function -/
theorem calls_of_wp_marks {P : Program} {f : FuncId} {fn : Func} {c : Code} {args : Array Value} {w : World} {R : Ending → World → Prop}
    (hf : P.funcs[f]? = some fn) (hb : fn.body = some c)
    (h : c.wp P (bodyPostM Fence.wide 0 P fn R) { tmps := args ++ Array.replicate (fn.ntmps - args.size) undef, defers := [] } w) : Calls P f args w R :=
  (callsIn_wide (n := 0)).1 (callsIn_of_wp_marks hf hb trivial (wpIn_wide.2 h))

/-- what a return owes behind such a loop: the block for deferred calls is shut -/
theorem leaves_marked {P : Program} {fn : Func} {tmps : Array Value} {R : Ending → World → Prop} {D : Nat} {W : World} {v : Value}
    (hD : W.heap[D]? = some (.deferred (some []))) (hr : (results fn tmps).run P (W.putObj D (.deferred none)) = .ok v (W.putObj D (.deferred none)))
    (hR : R (.returned v) (W.putObj D (.deferred none))) : LeavesInM Fence.wide 0 P fn tmps R [{ target := .collected D, args := #[] }] .returning W :=
  ⟨by simp, .inl ⟨D, _, rfl, run_takeDeferred hD, v, hr, hR⟩⟩

/-! what lies on through a change of a block that is no cells -/
theorem below_putObj {B : Nat} {a W : World} (h : Below B a W) {l : Nat} (hl : B ≤ l) (o : Obj) : Below B a (W.putObj l o) :=
  h.trans ⟨rfl, rfl, rfl, by simp, fun k hk => World.putObj_heap_other (by omega)⟩
theorem boxed_putObj {W : World} {B l : Nat} {t : TypeId} {v : Value} (h : Boxed W B t v) (hne : B ≠ l) (o : Obj) : Boxed (W.putObj l o) B t v :=
  (World.putObj_heap_other hne).trans h
theorem heap_putObj {W : World} {b l : Nat} {x : Obj} (h : W.heap[b]? = some x) (hne : b ≠ l) (o : Obj) : (W.putObj l o).heap[b]? = some x :=
  (World.putObj_heap_other hne).trans h
theorem heap_alloc {W : World} {b : Nat} {x : Obj} (h : W.heap[b]? = some x) (o : Obj) : (W.alloc o).heap[b]? = some x :=
  (Below.heap_alloc W o b (Array.getElem?_eq_some_iff.1 h).1).trans h
theorem heap_setCell {W : World} {b : Nat} {x : Obj} {p : Addr} (h : W.heap[b]? = some x) (hne : b ≠ p.block) (u : Value) : (W.setCell p u).heap[b]? = some x :=
  (Below.heap_setCell W p u b hne).trans h
theorem heap_below {B : Nat} {W W' : World} {b : Nat} {x : Obj} (h : W.heap[b]? = some x) (hb : Below B W W') (hlt : b < B) : W'.heap[b]? = some x :=
  (hb.block b hlt).trans h
theorem heap_lt {W : World} {b : Nat} {x : Obj} (h : W.heap[b]? = some x) : b < W.heap.size := (Array.getElem?_eq_some_iff.1 h).1
theorem heap_put {W : World} {b : Nat} {x : Obj} (h : W.heap[b]? = some x) (o : Obj) : (W.putObj b o).heap[b]? = some o := World.putObj_heap_same (heap_lt h)
end Go.Proofs.Ytebfenkjipaedaa
namespace Go.Proofs.Ytebfenkjipaedaa
open Go.RowKit
/-- the deferred entry of a loop over a function -/
def marks (Ds : List Nat) : List Deferred := Ds.map fun D => { target := .collected D, args := #[] }
/-- the blocks of the loops, empty -/
structure MarksAt (W : World) (B : Nat) (Ds : List Nat) : Prop where
  nodup : Ds.Nodup
  at_ : ∀ D ∈ Ds, B ≤ D ∧ W.heap[D]? = some (.deferred (some []))
theorem MarksAt.nil (W : World) (B : Nat) : MarksAt W B [] := ⟨List.nodup_nil, fun D h => by cases h⟩
theorem MarksAt.kept {W W' : World} {B : Nat} {Ds S : List Nat} (h : MarksAt W B Ds) (k : Kept S W W') (hS : ∀ D ∈ Ds, D ∉ S) : MarksAt W' B Ds :=
  ⟨h.nodup, fun D hD => ⟨(h.at_ D hD).1, k.heap (h.at_ D hD).2 (hS D hD)⟩⟩
theorem MarksAt.cons {W W' : World} {B D : Nat} {Ds : List Nat} (h : MarksAt W B Ds) (hb : ∀ D ∈ Ds, W'.heap[D]? = W.heap[D]?) (hB : B ≤ D) (hlt : ∀ D' ∈ Ds, D' < D) (hD : W'.heap[D]? = some (.deferred (some []))) : MarksAt W' B (D :: Ds) := by
  refine ⟨List.nodup_cons.2 ⟨fun e => by have := hlt D e; omega, h.nodup⟩, fun D' hD' => ?_⟩
  rcases List.mem_cons.1 hD' with e | e
  · subst e; exact ⟨hB, hD⟩
  · exact ⟨(h.at_ D' e).1, (hb D' e).trans (h.at_ D' e).2⟩
theorem MarksAt.lt {W : World} {B : Nat} {Ds : List Nat} (h : MarksAt W B Ds) : ∀ D ∈ Ds, D < W.heap.size := fun D hD => heap_lt (h.at_ D hD).2
theorem kept_putObj {S : List Nat} {a b : World} (h : Kept S a b) {l : Nat} (hl : l ∈ S ∨ a.heap.size ≤ l) (o : Obj) : Kept S a (b.putObj l o) :=
  ⟨h.os, h.tape, h.output, by have := h.size; simpa using this, fun k hk hn => (World.putObj_heap_other (fun e => by subst e; rcases hl with hl | hl; exact hn hl; omega)).trans (h.block k hk hn)⟩
/-- what a return owes behind such loops -/
theorem leaves_marks {P : Program} {fn : Func} {tmps : Array Value} {R : Ending → World → Prop} {B : Nat} : ∀ {Ds : List Nat} {W : World}, MarksAt W B Ds →
    (∀ W', Kept Ds W W' → ∃ v, (results fn tmps).run P W' = .ok v W' ∧ R (.returned v) W') → LeavesInM Fence.wide 0 P fn tmps R (marks Ds) .returning W
  | [], W, _, h => h W (Kept.refl _ _)
  | D :: Ds, W, hm, h => by
    have hD := (hm.at_ D (by simp)).2
    have hn := List.nodup_cons.1 hm.nodup
    refine ⟨by simp, .inl ⟨D, W.putObj D (.deferred none), rfl, run_takeDeferred hD, ?_⟩⟩
    have hk : Kept [D] W (W.putObj D (.deferred none)) := kept_putObj (Kept.refl _ _) (.inl (by simp)) _
    refine leaves_marks (B := B) (Ds := Ds) ⟨hn.2, fun D' hD' => ⟨(hm.at_ D' (by simp [hD'])).1, hk.heap (hm.at_ D' (by simp [hD'])).2 (by simp; exact fun e => hn.1 (e ▸ hD'))⟩⟩ (fun W' hk' => h W' ?_)
    exact (hk.mono (by simp)).trans (hk'.mono (fun k hk => by simp [hk])) (New.refl _ _)
end Go.Proofs.Ytebfenkjipaedaa
