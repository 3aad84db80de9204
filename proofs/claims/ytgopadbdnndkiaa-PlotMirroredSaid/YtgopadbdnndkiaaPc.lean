/- A range over a function: the statement's law and a round's law with the loop's record in the open, so that an iterator may keep state of its own in cells. Nothing of the program stands here. A region that draws its order: a head whose operations yield one value each in every world of a class (they read, or call what makes memory), walked once in the order of the text; a tail that waits for the head and whose order is fixed, walked as it stands. Plain, and inside a fence. No program stands here. Package stroke: pieces, the iterator over the ends of a stroke's pieces. Package stroke: Way. The best way through strokes, each drawn forward or backward, in plain Lean: a table over sets of strokes, its greedy list, no list is less. No program stands here. A piece of code whose ways all end in one and the same state: what is behind it is walked once. No program stands here. What lies on when some blocks, named, turn; rows of bytes; copying a string into a row. No program stands here. 'append(v, y)', one element, onto a slice of the call's own: as a step of the walk and of a drawn region. No program stands here. Package plot: a page in memory; gap and Gap; the places of a ride. -/
import Derived.RangeFuncNested
import Derived.RangeFuncLeaves
import Derived.Lib.QuietBelow
import Derived.StillTail
import Derived.BigQuiet
import Derived.Sort.BigQuietIn
import Derived.TacticsInMore
import Derived.Test.YtgopadbdnndkiaaPb
import Derived.RangeFuncBound
import Derived.Shelf.Abstract
import Derived.Shelf.RegionOpen
import Derived.OwnWalkIn
import Derived.LoopNIn
import Derived.LoopIn
import Derived.Laws.CopyOwn
import Derived.WalkKit
import Derived.Calls
import Derived.Test.YtgopadbdnndkiaaPa
import Derived.Laws.OwnMore
import Derived.Laws.MakeOwn
import Derived.Lib.BufferWrite
import Derived.Deep.AppendLies
import Derived.OwnWalk
import Derived.Deep.RegionLaw
namespace Go.Proofs.Ytgopadbdnndkiaa
open Go.RowKit

/-- the record of a loop over a function -/
def loopRec (fn : FuncId) (tmps : Array Value) (ps : Array Tmp) (assign body : Code) (D : Nat) (st : LoopState) (pe : Option Code) : Obj :=
  .loop { state := st, pending := pe, fn := fn, tmps := tmps, params := ps, assign := assign, body := body, defers := D }
theorem loopRec_cells {fn : FuncId} {tmps : Array Value} {ps : Array Tmp} {assign body : Code} {D : Nat} {st : LoopState} {pe : Option Code} : (loopRec fn tmps ps assign body D st pe).isCells = false := rfl

/-- how a round may be left, and what is owed then -/
def roundEnd (l : Nat) (rec : LoopState → Option Code → Obj) (R : Ending → World → Prop) : Exit → Act → World → Prop
  | .normal, _, W => W.heap[l]? = some (rec .busy none) ∧ R (.returned (.bool true)) (W.putObj l (rec .ready none))
  | .ret, _, W => W.heap[l]? = some (rec .busy none) ∧ R (.returned (.bool false)) (W.putObj l (rec .done (some .ret)))
  | .exit id, _, W => W.heap[l]? = some (rec .busy none) ∧ R (.returned (.bool false)) (W.putObj l (rec .done (some (.exit id))))
  | .goto t, _, W => W.heap[l]? = some (rec .busy none) ∧ R (.returned (.bool false)) (W.putObj l (rec .done (some (.goto t))))
  | .panic _, _, _ => False
  | .outgrown, _, _ => False

/-- one call of yield, from the walks of the assignment and the body -/
theorem yield_round {F : Fence} {m : Nat} {P : Program} {l : Nat} {fn : FuncId} {tmps : Array Value} {ps : Array Tmp} {assign body : Code} {D : Nat} {W : World} {args : Array Value} {R : Ending → World → Prop}
    {rec : LoopState → Option Code → Obj} (hrec : rec = loopRec fn tmps ps assign body D) (hfn : F.fn fn) (hl : W.heap[l]? = some (rec .ready none)) (hs : args.size = ps.size)
    (h : assign.wpIn (F.inRound l) m P (Exit.then (fun a₁ W1 => W1.heap[l]? = some (rec .ready none) ∧
      body.wpIn (F.inRound l) m P (roundEnd l rec R) a₁ (W1.putObj l (rec .busy none))) (fun _ _ _ => False))
      { tmps := (ps.zip args).foldl (fun t (p, v) => t.setIfInBounds p v) tmps, defers := [] } W) : YieldAt F m P l args W R := by
  subst hrec
  refine ⟨fn, _, assign, body, run_yield hl hs, roundIn_of_wpIn hfn (wpIn_mono h ?_)⟩
  intro e a1 W1 hp
  cases e with
  | normal =>
    obtain ⟨hl1, hb⟩ := hp
    refine ⟨_, run_beginRound hl1 rfl, wpIn_mono hb ?_⟩
    intro e2 a2 W2 hq
    have fin : ∀ jump : Option Code, W2.heap[l]? = some (loopRec fn tmps ps assign body D .busy none) →
        (Instr.endRound l jump).run P W2 = .ok (.bool jump.isNone) (W2.putObj l (loopRec fn tmps ps assign body D (if jump.isNone then .ready else .done) jump)) :=
      fun jump hj => run_endRound jump hj
    cases e2 with
    | normal => exact ⟨_, _, fin none hq.1, hq.2⟩
    | ret => exact ⟨_, _, fin (some .ret) hq.1, hq.2⟩
    | exit id => exact ⟨_, _, fin (some (.exit id)) hq.1, hq.2⟩
    | goto t => exact ⟨_, _, fin (some (.goto t)) hq.1, hq.2⟩
    | panic c => exact hq.elim
    | outgrown => exact hq.elim
  | ret => exact hp.elim
  | exit id => exact hp.elim
  | goto t => exact hp.elim
  | panic c => exact hp.elim
  | outgrown => exact hp.elim

theorem rec_cells {rec : LoopState → Option Code → Obj} {fn : FuncId} {tmps : Array Value} {ps : Array Tmp} {assign body : Code} {D : Nat} (hrec : rec = loopRec fn tmps ps assign body D) (st : LoopState) (pe : Option Code) :
    (rec st pe).isCells = false := by subst hrec; rfl

/-- what the function that is ranged over must come to -/
def rangeEnd (l : Nat) (rec : LoopState → Option Code → Obj) (Qn : World → Prop) (Qj : Code → World → Prop) (e : Ending) (W : World) : Prop :=
  (∃ v, e = .returned v) ∧ ((W.heap[l]? = some (rec .ready none) ∧ Qn (W.putObj l (rec .exhausted none))) ∨
    ∃ c, W.heap[l]? = some (rec .done (some c)) ∧ Qj c (W.putObj l (rec .exhausted (some c))))

/-- the statement, in a function's own body -/
theorem range_outer {P : Program} {g : Operand} {ps : Array Tmp} {assign body : Code} {Q : Exit → Act → World → Prop} {a : Act} {w : World} {n gf : Nat} {lb : Array Value}
    (hg : a.eval g = .func (.func gf) #[] lb) (eg : ∀ args w, (callFunc gf args).run P w = .ok (.enter gf args) w)
    (h : ∀ fn rec, rec = loopRec fn a.tmps ps assign body w.heap.size → CallsIn Fence.wide (n - 1) P gf (#[.func (.yield (w.heap.size + 1)) #[] #[]] ++ lb)
      ((w.alloc (.deferred (some []))).alloc (rec .ready none))
      (rangeEnd (w.heap.size + 1) rec
        (Q .normal { a with defers := { target := .collected w.heap.size, args := #[] } :: a.defers })
        (fun c W => c.wp P Q { a with defers := { target := .collected w.heap.size, args := #[] } :: a.defers } W))) :
    (Code.rangeFunc g ps assign body).wp P Q a w := by
  refine (wpIn_wide (n := n)).1 ?_
  refine wpIn_rangeFunc ?_
  intro fn hfn
  have h' := h fn _ rfl
  obtain ⟨W1, hW1⟩ : ∃ W1, (w.alloc (.deferred (some []))).alloc (loopRec fn a.tmps ps assign body w.heap.size .ready none) = W1 := ⟨_, rfl⟩
  rw [hW1] at h'
  refine ⟨w.heap.size + 1, [{ target := .collected w.heap.size, args := #[] }], W1, { target := .fn (.func gf) lb, args := #[.func (.yield (w.heap.size + 1)) #[] #[]] }, W1, gf,
    #[.func (.yield (w.heap.size + 1)) #[] #[]] ++ lb, W1, ?_, ?_, ?_, ?_, ?_, ?_⟩
  · rw [← hW1]; exact run_enterLoop_outer _ _ _ _ _
  · simp only [resolve, hg]; simp [go_sem]
  · exact fun _ _ => True.intro
  · simp [invoke, go_sem, eg]
  · exact fun hd => by simp [Fence.wide] at hd
  refine h'.mono ?_
  rintro e W' ⟨⟨v, rfl⟩, hh⟩
  rcases hh with hh | hh
  · obtain ⟨hl, hq⟩ := hh
    refine ⟨none, W'.putObj (w.heap.size + 1) (loopRec fn a.tmps ps assign body w.heap.size .exhausted none), ?_, ?_⟩
    · exact run_endLoop hl (by simp)
    · exact hq
  · obtain ⟨c, hl, hq⟩ := hh
    refine ⟨some c, W'.putObj (w.heap.size + 1) (loopRec fn a.tmps ps assign body w.heap.size .exhausted (some c)), ?_, ?_⟩
    · exact run_endLoop hl (by simp)
    · exact wpIn_wide.2 hq

/-- the statement, in a round of another loop -/
theorem range_inner {P : Program} {g : Operand} {ps : Array Tmp} {assign body : Code} {Q : Exit → Act → World → Prop} {a : Act} {w : World} {n gf l₀ : Nat} {lb : Array Value}
    {fn₀ : FuncId} {tmps₀ : Array Value} {ps₀ : Array Tmp} {assign₀ body₀ : Code} {D₀ : Nat} {st₀ : LoopState} {pe₀ : Option Code} (hl₀ : w.heap[l₀]? = some (loopRec fn₀ tmps₀ ps₀ assign₀ body₀ D₀ st₀ pe₀))
    (hg : a.eval g = .func (.func gf) #[] lb) (eg : ∀ args w, (callFunc gf args).run P w = .ok (.enter gf args) w)
    (h : ∀ fn rec, rec = loopRec fn a.tmps ps assign body D₀ → CallsIn Fence.wide (n - 1) P gf (#[.func (.yield w.heap.size) #[] #[]] ++ lb)
      (w.alloc (rec .ready none))
      (rangeEnd w.heap.size rec (Q .normal a) (fun c W => c.wpIn (Fence.wide.inRound l₀) n P Q a W))) :
    (Code.rangeFunc g ps assign body).wpIn (Fence.wide.inRound l₀) n P Q a w := by
  refine wpIn_rangeFunc ?_
  intro fn hfn
  have h' := h fn _ rfl
  obtain ⟨W1, hW1⟩ : ∃ W1, w.alloc (loopRec fn a.tmps ps assign body D₀ .ready none) = W1 := ⟨_, rfl⟩
  rw [hW1] at h'
  refine ⟨w.heap.size, [], W1, { target := .fn (.func gf) lb, args := #[.func (.yield w.heap.size) #[] #[]] }, W1, gf,
    #[.func (.yield w.heap.size) #[] #[]] ++ lb, W1, ?_, ?_, ?_, ?_, ?_, ?_⟩
  · rw [← hW1]; exact run_enterLoop_inner hl₀ _ _ _ _ _
  · simp only [resolve, hg]; simp [go_sem]
  · exact fun _ _ => True.intro
  · simp [invoke, go_sem, eg]
  · exact fun hd => by simp [Fence.wide, Fence.inRound] at hd
  refine CallsIn.inRound l₀ ?_
  refine h'.mono ?_
  rintro e W' ⟨⟨v, rfl⟩, hh⟩
  rcases hh with hh | hh
  · obtain ⟨hl, hq⟩ := hh
    refine ⟨none, W'.putObj w.heap.size (loopRec fn a.tmps ps assign body D₀ .exhausted none), ?_, ?_⟩
    · exact run_endLoop hl (by simp)
    · exact hq
  · obtain ⟨c, hl, hq⟩ := hh
    refine ⟨some c, W'.putObj w.heap.size (loopRec fn a.tmps ps assign body D₀ .exhausted (some c)), ?_, ?_⟩
    · exact run_endLoop hl (by simp)
    · exact hq

/-- a function's contract from its body, where the body holds a range over a function -/
theorem calls_of_wp_marks {P : Program} {f : FuncId} {fn : Func} {c : Code} {args : Array Value} {w : World} {R : Ending → World → Prop}
    (hf : P.funcs[f]? = some fn) (hb : fn.body = some c)
    (h : c.wp P (bodyPostM Fence.wide 0 P fn R) { tmps := args ++ Array.replicate (fn.ntmps - args.size) undef, defers := [] } w) : Calls P f args w R :=
  (callsIn_wide (n := 0)).1 (callsIn_of_wp_marks hf hb trivial (wpIn_wide.2 h))

/-- what a return owes behind such a loop: the block for deferred calls is shut -/
theorem leaves_marked {P : Program} {fn : Func} {tmps : Array Value} {R : Ending → World → Prop} {D : Nat} {W : World} {v : Value}
    (hD : W.heap[D]? = some (.deferred (some []))) (hr : (results fn tmps).run P (W.putObj D (.deferred none)) = .ok v (W.putObj D (.deferred none)))
    (hR : R (.returned v) (W.putObj D (.deferred none))) : LeavesInM Fence.wide 0 P fn tmps R [{ target := .collected D, args := #[] }] .returning W :=
  ⟨by simp, .inl ⟨D, _, rfl, run_takeDeferred hD, v, hr, hR⟩⟩

/-! what lies on through a change of a block that is no cells -/
theorem below_putObj {B : Nat} {a W : World} (h : Below B a W) {l : Nat} (hl : B ≤ l) (o : Obj) : Below B a (W.putObj l o) :=
  h.trans ⟨rfl, rfl, rfl, by simp, fun k hk => World.putObj_heap_other (by omega)⟩
theorem boxed_putObj {W : World} {B l : Nat} {t : TypeId} {v : Value} (h : Boxed W B t v) (hne : B ≠ l) (o : Obj) : Boxed (W.putObj l o) B t v :=
  (World.putObj_heap_other hne).trans h
theorem heap_putObj {W : World} {b l : Nat} {x : Obj} (h : W.heap[b]? = some x) (hne : b ≠ l) (o : Obj) : (W.putObj l o).heap[b]? = some x :=
  (World.putObj_heap_other hne).trans h
theorem heap_alloc {W : World} {b : Nat} {x : Obj} (h : W.heap[b]? = some x) (o : Obj) : (W.alloc o).heap[b]? = some x :=
  (Below.heap_alloc W o b (Array.getElem?_eq_some_iff.1 h).1).trans h
theorem heap_setCell {W : World} {b : Nat} {x : Obj} {p : Addr} (h : W.heap[b]? = some x) (hne : b ≠ p.block) (u : Value) : (W.setCell p u).heap[b]? = some x :=
  (Below.heap_setCell W p u b hne).trans h
theorem heap_below {B : Nat} {W W' : World} {b : Nat} {x : Obj} (h : W.heap[b]? = some x) (hb : Below B W W') (hlt : b < B) : W'.heap[b]? = some x :=
  (hb.block b hlt).trans h
theorem heap_lt {W : World} {b : Nat} {x : Obj} (h : W.heap[b]? = some x) : b < W.heap.size := (Array.getElem?_eq_some_iff.1 h).1
theorem heap_put {W : World} {b : Nat} {x : Obj} (h : W.heap[b]? = some x) (o : Obj) : (W.putObj b o).heap[b]? = some o := World.putObj_heap_same (heap_lt h)
end Go.Proofs.Ytgopadbdnndkiaa
namespace Go.Proofs.Ytgopadbdnndkiaa
open Go.RowKit
theorem below_of_class {w w' : World} (h : ∃ p : Regrown, w' = Sort.grow (redrawn w p.d) p.os) : Below w.heap.size w w' := by obtain ⟨p, rfl⟩ := h; exact below_regrown _ _ _
section
variable {P : Program} {ops : Array Oper} {md : Region.Mode} {C : World → Prop}
/-! plain -/
def wpAnyC (P : Program) (md : Region.Mode) (ops : Array Oper) (C : World → Prop) (n : Nat) (L : Array Bool → Act → Prop) : Nat → Array Bool → Act → Prop
  | 0, listed, a => L listed a
  | f + 1, listed, a => Region.ready md ops listed ≠ [] ∧ ∀ i ∈ Region.ready md ops listed, i < n ∧ qOp P ops C i (wpAnyC P md ops C n L f (listed.setIfInBounds i true)) a
theorem wpAny_of_headC {n g : Nat} {L : Array Bool → Act → Prop} {Q' : Exit → Act → World → Prop} (hL : ∀ listed a w, C w → L listed a → wpAny P md ops Q' g listed a w) :
    ∀ (f : Nat) (listed : Array Bool) (a : Act) (w : World), C w → wpAnyC P md ops C n L f listed a → wpAny P md ops Q' (f + g) listed a w
  | 0, listed, a, w, hC, h => by rw [Nat.zero_add]; exact hL _ _ _ hC h
  | f + 1, listed, a, w, hC, h => by
    rw [show f + 1 + g = (f + g) + 1 by omega]
    exact ⟨fun h0 => absurd h0 h.1, fun i hi => wpOp_of_qOp hC (fun a' w' hC' h' => wpAny_of_headC hL f _ a' w' hC' h') (h.2 i hi).2⟩
theorem wpAnyC_first {n i : Nat} {oi : Oper} {v : Value} {L : Array Bool → Act → Prop} (hi : ops[i]? = some oi) (hsel : ∀ (j : Nat) (o : Oper) cs b, ops[j]? = some o → o.op ≠ .select cs b)
    (hs : Region.sinkB md ops n = true) (hc : Region.chainB md ops n = true) (hn : n < ops.size) (hin : i < n)
    (hdone : ∀ listed a, L listed a → ∀ j ∈ Region.ready md ops listed, n ≤ j) :
    ∀ (f : Nat) (listed : Array Bool) (a : Act), HeadInv md ops n listed →
      (∀ j oj, ops[j]? = some oj → j ≠ i → listed.getD j true = false → (∀ e ∈ oj.after, Region.binds md e = true → e.on ≠ i) → oi.apart ops oj = true) →
      i ∈ Region.ready md ops listed → YieldsIn P ops C oi v a →
      wpAnyC P md ops C n L f (listed.setIfInBounds i true) (a.put oi.dst v) → wpAnyC P md ops C n L (f + 1) listed a := by
  intro f
  induction f with
  | zero =>
    intro listed a inv _ hr hy H
    have hun := (mem_ready.1 hr).1
    refine ⟨fun h => (by rw [h] at hr; cases hr), fun j hj => ?_⟩
    have hjn : j < n := by
      rcases Nat.lt_or_ge j n with h | h
      · exact h
      · exact absurd hj (tail_waits hs hc hn inv _ i rfl hin hun j h)
    refine ⟨hjn, ?_⟩
    by_cases hji : j = i
    · subst hji; exact hy.qOp hi H
    · have := hdone _ _ H j (ready_mono hj hji)
      omega
  | succ f ih =>
    intro listed a inv hfree hr hy H
    have hun := (mem_ready.1 hr).1
    refine ⟨fun h => (by rw [h] at hr; cases hr), fun j hj => ?_⟩
    have hjn : j < n := by
      rcases Nat.lt_or_ge j n with h | h
      · exact h
      · exact absurd hj (tail_waits hs hc hn inv _ i rfl hin hun j h)
    refine ⟨hjn, ?_⟩
    by_cases hji : j = i
    · subst hji; exact hy.qOp hi H
    · have h1 := (H.2 j (ready_mono hj hji)).2
      obtain ⟨hjun, oj, hoj, hall⟩ := mem_ready.1 hj
      have hnot : ∀ e ∈ oj.after, Region.binds md e = true → e.on ≠ i := fun e he hb heq => by
        have h1 := hall e he hb
        rw [heq, getD_both hun] at h1
        cases h1
      have h2 := qOp_put hoj (hfree j oj hoj hji hjun hnot) (fun cs b => hsel i oi cs b hi) (fun cs b => hsel j oj cs b hoj) hy h1
      have hfree' : ∀ k ok, ops[k]? = some ok → k ≠ i → (listed.setIfInBounds j true).getD k true = false →
          (∀ e ∈ ok.after, Region.binds md e = true → e.on ≠ i) → oi.apart ops ok = true := fun k ok hk hki hun hno => by
        refine hfree k ok hk hki ?_ hno
        by_cases hjk : j = k
        · subst hjk; exact hjun
        · rw [getD_set_ne true hjk] at hun; exact hun
      refine qOp_mono (fun a' h3 => ih (listed.setIfInBounds j true) a' (inv.set hj hjn) hfree' (ready_mono hr (Ne.symm hji)) h3.1 ?_) h2
      rw [Array.setIfInBounds_comm _ _ hji]
      exact h3.2
theorem wpAnyC_lex {n g : Nat} {Lq : Act → Prop} (hsel : Region.noSelect ops = true) (hs : Region.sinkB md ops n = true) (hc : Region.chainB md ops n = true) (hn : n < ops.size) :
    ∀ (l : List Oper) (k : Nat) (listed : Array Bool) (a : Act), (∀ j, j < l.length → l[j]? = ops[k + j]?) → k + l.length = n → HeadInv md ops n listed →
    Region.lexHead md ops g l.length k listed = true → wpQuiet P ops C Lq l a →
    wpAnyC P md ops C n (fun listed' a' => Region.seqB md ops g n listed' = true ∧ Lq a') l.length listed a
  | [], k, listed, a, _, hk, _, hB, h => by
    have : k = n := by simpa using hk
    subst this
    exact ⟨by simpa [Region.lexHead] using hB, h⟩
  | o :: l, k, listed, a, hl, hk, inv, hB, h => by
    have h0 : ops[k]? = some o := by simpa using (hl 0 (by simp)).symm
    simp only [List.length_cons, Region.lexHead, Bool.and_eq_true] at hB
    obtain ⟨⟨hr, hf⟩, hB'⟩ := hB
    have hkn : k < n := by simp only [List.length_cons] at hk; omega
    have hr' : k ∈ Region.ready md ops listed := by simpa using hr
    have hst : qOp P ops C k (wpQuiet P ops C Lq l) a := by unfold qOp; simp only [h0]; exact h
    obtain ⟨v, hy, hK⟩ := yieldsIn_of_qOp h0 hst
    exact wpAnyC_first h0 (Region.noSelect_spec hsel) hs hc hn hkn (fun listed' a' hL => seqB_ready hL.1) l.length listed a inv (Region.free_spec h0 hf) hr' hy
      (wpAnyC_lex hsel hs hc hn l (k + 1) _ _ (fun j hj => by have := hl (j + 1) (by simp; omega); simpa [Nat.add_assoc, Nat.add_comm 1 j] using this) (by simp only [List.length_cons] at hk; omega) (inv.set hr' hkn) hB' hK)
theorem wp_region_headC {id : Nat} {Q : Exit → Act → World → Prop} {a : Act} {w : World} {l : List Oper} (n : Nat) (hm : P.follows .mixedOrders = true) (hB : Region.lexTailB .any l.toArray n = true) (hC : C { w with drawn := w.drawn + 1 })
    (h : wpQuiet P l.toArray C (fun a' => ∀ w', C w' → wpList P l.toArray Q (l.drop n) a' w') (l.take n) a) : (Code.region id l.toArray true).wp P Q a w := by
  simp only [Region.lexTailB, Bool.and_eq_true, decide_eq_true_eq] at hB
  obtain ⟨⟨⟨⟨hsel, hn⟩, hs⟩, hc⟩, hlex⟩ := hB
  have hn' : n < l.length := by simpa using hn
  have htl : (l.take n).length = n := by simp; omega
  have hdl : (l.drop n).length = l.toArray.size - n := by simp
  have inv0 : HeadInv .any l.toArray n (Array.replicate l.toArray.size false) :=
    ⟨by simp, fun j oj _ hl => (by rw [getD_replicate_false] at hl; cases hl), fun t _ ht => getD_in (by simpa using ht) (getD_replicate_false _ _)⟩
  have H := wpAnyC_lex (md := .any) (g := l.toArray.size - n) hsel hs hc hn (l.take n) 0 _ a (fun j hj => by
    have hj' : j < n := by rw [htl] at hj; exact hj
    simp [hj']) (by simpa using htl) inv0 (by rw [htl]; exact hlex) h
  refine wp_region_any hm ?_
  have := wpAny_of_headC (Q' := Q) (g := l.toArray.size - n) (fun listed a' w' hC' hL => by
    have := wpAny_of_seq (md := .any) (Q' := Q) (l.drop n) n listed a' w' (fun j => by simp [List.getElem?_drop]) (by rw [hdl]; exact hL.1) (hL.2 w' hC')
    rwa [hdl] at this) _ _ _ _ hC H
  rw [htl, show n + (l.toArray.size - n) = l.toArray.size by omega] at this
  exact this
theorem wpQuiet_post {Q Q' : Act → Prop} (hQ : ∀ a, Q a → Q' a) : ∀ (l : List Oper) (a : Act), wpQuiet P ops C Q l a → wpQuiet P ops C Q' l a
  | [], _, h => hQ _ h
  | o :: l, a, h => by
    unfold wpQuiet at h ⊢
    split
    · rename_i hw; rw [if_pos hw] at h; exact Oper.quiet_mono (fun a' h' => wpQuiet_post hQ l a' h') h
    · rename_i hw; rw [if_neg hw] at h; exact wpQuiet_post hQ l _ h
/-- at the class: what has grown out of w -/
theorem wp_region_head {id : Nat} {Q : Exit → Act → World → Prop} {a : Act} {w : World} {l : List Oper} (n : Nat) (hm : P.follows .mixedOrders = true) (hB : Region.lexTailB .any l.toArray n = true)
    (h : wpQuiet P l.toArray (fun w' => ∃ p : Regrown, w' = Sort.grow (redrawn w p.d) p.os) (fun a' => ∀ w', Below w.heap.size w w' → wpList P l.toArray Q (l.drop n) a' w') (l.take n) a) : (Code.region id l.toArray true).wp P Q a w :=
  wp_region_headC (C := fun w' => ∃ p : Regrown, w' = Sort.grow (redrawn w p.d) p.os) n hm hB ⟨⟨w.drawn + 1, #[]⟩, by rw [Sort.grow_empty]; rfl⟩
    (wpQuiet_post (fun a' h w' hw' => h w' (by obtain ⟨p, rfl⟩ := hw'; exact below_regrown _ _ _)) _ _ h)
end
section
variable {F : Fence} {n : Nat} {P : Program} {ops : Array Oper} {md : Region.Mode} {C : World → Prop}
/-! inside a fence -/
def wpAnyCIn (F : Fence) (n : Nat) (P : Program) (md : Region.Mode) (ops : Array Oper) (C : World → Prop) (N : Nat) (L : Array Bool → Act → Prop) : Nat → Array Bool → Act → Prop
  | 0, listed, a => L listed a
  | f + 1, listed, a => Region.ready md ops listed ≠ [] ∧ ∀ i ∈ Region.ready md ops listed, i < N ∧ qOpIn F n P ops C i (wpAnyCIn F n P md ops C N L f (listed.setIfInBounds i true)) a
theorem wpAnyIn_of_headC {N g : Nat} {L : Array Bool → Act → Prop} {Q' : Exit → Act → World → Prop} (hro : F.round = none) (hL : ∀ listed a w, C w → L listed a → wpAnyIn F n P md ops Q' g listed a w) :
    ∀ (f : Nat) (listed : Array Bool) (a : Act) (w : World), C w → wpAnyCIn F n P md ops C N L f listed a → wpAnyIn F n P md ops Q' (f + g) listed a w
  | 0, listed, a, w, hC, h => by rw [Nat.zero_add]; exact hL _ _ _ hC h
  | f + 1, listed, a, w, hC, h => by
    rw [show f + 1 + g = (f + g) + 1 by omega]
    exact ⟨fun h0 => absurd h0 h.1, fun i hi => wpOpIn_of_qOpIn hro hC (fun a' w' hC' h' => wpAnyIn_of_headC hro hL f _ a' w' hC' h') (h.2 i hi).2⟩
theorem wpAnyCIn_first {N i : Nat} {oi : Oper} {v : Value} {L : Array Bool → Act → Prop} (hi : ops[i]? = some oi) (hsel : ∀ (j : Nat) (o : Oper) cs b, ops[j]? = some o → o.op ≠ .select cs b)
    (hs : Region.sinkB md ops N = true) (hc : Region.chainB md ops N = true) (hn : N < ops.size) (hin : i < N)
    (hdone : ∀ listed a, L listed a → ∀ j ∈ Region.ready md ops listed, N ≤ j) :
    ∀ (f : Nat) (listed : Array Bool) (a : Act), HeadInv md ops N listed →
      (∀ j oj, ops[j]? = some oj → j ≠ i → listed.getD j true = false → (∀ e ∈ oj.after, Region.binds md e = true → e.on ≠ i) → oi.apart ops oj = true) →
      i ∈ Region.ready md ops listed → YieldsQuiet F n P ops C oi v a →
      wpAnyCIn F n P md ops C N L f (listed.setIfInBounds i true) (a.put oi.dst v) → wpAnyCIn F n P md ops C N L (f + 1) listed a := by
  intro f
  induction f with
  | zero =>
    intro listed a inv _ hr hy H
    have hun := (mem_ready.1 hr).1
    refine ⟨fun h => (by rw [h] at hr; cases hr), fun j hj => ?_⟩
    have hjn : j < N := by
      rcases Nat.lt_or_ge j N with h | h
      · exact h
      · exact absurd hj (tail_waits hs hc hn inv _ i rfl hin hun j h)
    refine ⟨hjn, ?_⟩
    by_cases hji : j = i
    · subst hji; exact hy.qOpIn hi H
    · have := hdone _ _ H j (ready_mono hj hji)
      omega
  | succ f ih =>
    intro listed a inv hfree hr hy H
    have hun := (mem_ready.1 hr).1
    refine ⟨fun h => (by rw [h] at hr; cases hr), fun j hj => ?_⟩
    have hjn : j < N := by
      rcases Nat.lt_or_ge j N with h | h
      · exact h
      · exact absurd hj (tail_waits hs hc hn inv _ i rfl hin hun j h)
    refine ⟨hjn, ?_⟩
    by_cases hji : j = i
    · subst hji; exact hy.qOpIn hi H
    · have h1 := (H.2 j (ready_mono hj hji)).2
      obtain ⟨hjun, oj, hoj, hall⟩ := mem_ready.1 hj
      have hnot : ∀ e ∈ oj.after, Region.binds md e = true → e.on ≠ i := fun e he hb heq => by
        have h1 := hall e he hb
        rw [heq, getD_both hun] at h1
        cases h1
      have h2 := qOpIn_put hoj (hfree j oj hoj hji hjun hnot) (fun cs b => hsel i oi cs b hi) (fun cs b => hsel j oj cs b hoj) hy h1
      have hfree' : ∀ k ok, ops[k]? = some ok → k ≠ i → (listed.setIfInBounds j true).getD k true = false →
          (∀ e ∈ ok.after, Region.binds md e = true → e.on ≠ i) → oi.apart ops ok = true := fun k ok hk hki hun hno => by
        refine hfree k ok hk hki ?_ hno
        by_cases hjk : j = k
        · subst hjk; exact hjun
        · rw [getD_set_ne true hjk] at hun; exact hun
      refine qOpIn_mono (fun a' h3 => ih (listed.setIfInBounds j true) a' (inv.set hj hjn) hfree' (ready_mono hr (Ne.symm hji)) h3.1 ?_) h2
      rw [Array.setIfInBounds_comm _ _ hji]
      exact h3.2
theorem wpAnyCIn_lex {N g : Nat} {Lq : Act → Prop} (hsel : Region.noSelect ops = true) (hs : Region.sinkB md ops N = true) (hc : Region.chainB md ops N = true) (hn : N < ops.size) :
    ∀ (l : List Oper) (k : Nat) (listed : Array Bool) (a : Act), (∀ j, j < l.length → l[j]? = ops[k + j]?) → k + l.length = N → HeadInv md ops N listed →
    Region.lexHead md ops g l.length k listed = true → wpQuietIn F n P ops C Lq l a →
    wpAnyCIn F n P md ops C N (fun listed' a' => Region.seqB md ops g N listed' = true ∧ Lq a') l.length listed a
  | [], k, listed, a, _, hk, _, hB, h => by
    have : k = N := by simpa using hk
    subst this
    exact ⟨by simpa [Region.lexHead] using hB, h⟩
  | o :: l, k, listed, a, hl, hk, inv, hB, h => by
    have h0 : ops[k]? = some o := by simpa using (hl 0 (by simp)).symm
    simp only [List.length_cons, Region.lexHead, Bool.and_eq_true] at hB
    obtain ⟨⟨hr, hf⟩, hB'⟩ := hB
    have hkn : k < N := by simp only [List.length_cons] at hk; omega
    have hr' : k ∈ Region.ready md ops listed := by simpa using hr
    have hst : qOpIn F n P ops C k (wpQuietIn F n P ops C Lq l) a := by unfold qOpIn; simp only [h0]; exact h
    obtain ⟨v, hy, hK⟩ := yieldsQuiet_of_qOpIn h0 hst
    exact wpAnyCIn_first h0 (Region.noSelect_spec hsel) hs hc hn hkn (fun listed' a' hL => seqB_ready hL.1) l.length listed a inv (Region.free_spec h0 hf) hr' hy
      (wpAnyCIn_lex hsel hs hc hn l (k + 1) _ _ (fun j hj => by have := hl (j + 1) (by simp; omega); simpa [Nat.add_assoc, Nat.add_comm 1 j] using this) (by simp only [List.length_cons] at hk; omega) (inv.set hr' hkn) hB' hK)
theorem wpAnyIn_of_seq {Q' : Exit → Act → World → Prop} : ∀ (l : List Oper) (k : Nat) (listed : Array Bool) (a : Act) (w : World), (∀ j, l[j]? = ops[k + j]?) →
    Region.seqB md ops l.length k listed = true → wpListIn F n P ops Q' l a w → wpAnyIn F n P md ops Q' l.length listed a w
  | [], _, _, _, _, _, hB, h => ⟨by simpa [Region.seqB] using hB, h⟩
  | o :: l, k, listed, a, w, hl, hB, h => by
    have h0 : ops[k]? = some o := by simpa using (hl 0).symm
    simp only [List.length_cons, Region.seqB, Bool.and_eq_true, decide_eq_true_eq] at hB
    refine ⟨fun h1 => (by rw [hB.1] at h1; cases h1), fun i hi => ?_⟩
    rw [hB.1] at hi
    have hik : i = k := by simpa using hi
    subst hik
    have hw : wpOpIn F n P ops Q' i (wpListIn F n P ops Q' l) a w := by unfold wpOpIn; simp only [h0]; exact h
    exact wpOpIn_mono (fun a' w' h' => wpAnyIn_of_seq l (i + 1) _ a' w' (fun j => by have := hl (j + 1); simpa [Nat.add_assoc, Nat.add_comm 1 j] using this) hB.2 h') hw
theorem wpIn_region_headC {id : Nat} {Q : Exit → Act → World → Prop} {a : Act} {w : World} {l : List Oper} (N : Nat) (hro : F.round = none) (hm : P.follows .mixedOrders = true) (hB : Region.lexTailB .any l.toArray N = true) (hC : C { w with drawn := w.drawn + 1 })
    (h : wpQuietIn F n P l.toArray C (fun a' => ∀ w', C w' → wpListIn F n P l.toArray Q (l.drop N) a' w') (l.take N) a) : (Code.region id l.toArray true).wpIn F n P Q a w := by
  simp only [Region.lexTailB, Bool.and_eq_true, decide_eq_true_eq] at hB
  obtain ⟨⟨⟨⟨hsel, hn⟩, hs⟩, hc⟩, hlex⟩ := hB
  have hn' : N < l.length := by simpa using hn
  have htl : (l.take N).length = N := by simp; omega
  have hdl : (l.drop N).length = l.toArray.size - N := by simp
  have inv0 : HeadInv .any l.toArray N (Array.replicate l.toArray.size false) :=
    ⟨by simp, fun j oj _ hl => (by rw [getD_replicate_false] at hl; cases hl), fun t _ ht => getD_in (by simpa using ht) (getD_replicate_false _ _)⟩
  have H := wpAnyCIn_lex (md := .any) (g := l.toArray.size - N) hsel hs hc hn (l.take N) 0 _ a (fun j hj => by
    have hj' : j < N := by rw [htl] at hj; exact hj
    simp [hj']) (by simpa using htl) inv0 (by rw [htl]; exact hlex) h
  refine wpIn_region_any hm ?_
  have := wpAnyIn_of_headC (Q' := Q) (g := l.toArray.size - N) hro (fun listed a' w' hC' hL => by
    have := wpAnyIn_of_seq (md := .any) (Q' := Q) (l.drop N) N listed a' w' (fun j => by simp [List.getElem?_drop]) (by rw [hdl]; exact hL.1) (hL.2 w' hC')
    rwa [hdl] at this) _ _ _ _ hC H
  rw [htl, show N + (l.toArray.size - N) = l.toArray.size by omega] at this
  exact this
theorem wpQuietIn_post {Q Q' : Act → Prop} (hQ : ∀ a, Q a → Q' a) : ∀ (l : List Oper) (a : Act), wpQuietIn F n P ops C Q l a → wpQuietIn F n P ops C Q' l a
  | [], _, h => hQ _ h
  | o :: l, a, h => by
    unfold wpQuietIn at h ⊢
    refine ⟨h.1, ?_⟩
    have h := h.2
    split
    · rename_i hw; rw [if_pos hw] at h; exact Oper.quietIn_mono (fun a' h' => wpQuietIn_post hQ l a' h') h
    · rename_i hw; rw [if_neg hw] at h; exact wpQuietIn_post hQ l _ h
/-- at the class: what has grown out of w -/
theorem wpIn_region_head {id : Nat} {Q : Exit → Act → World → Prop} {a : Act} {w : World} {l : List Oper} (N : Nat) (hro : F.round = none) (hm : P.follows .mixedOrders = true) (hB : Region.lexTailB .any l.toArray N = true)
    (h : wpQuietIn F n P l.toArray (fun w' => ∃ p : Regrown, w' = Sort.grow (redrawn w p.d) p.os) (fun a' => ∀ w', Below w.heap.size w w' → wpListIn F n P l.toArray Q (l.drop N) a' w') (l.take N) a) : (Code.region id l.toArray true).wpIn F n P Q a w :=
  wpIn_region_headC (C := fun w' => ∃ p : Regrown, w' = Sort.grow (redrawn w p.d) p.os) N hro hm hB ⟨⟨w.drawn + 1, #[]⟩, by rw [Sort.grow_empty]; rfl⟩
    (wpQuietIn_post (fun a' h w' hw' => h w' (by obtain ⟨p, rfl⟩ := hw'; exact below_regrown _ _ _)) _ _ h)
theorem CallsIn.regrown_of {f : FuncId} {args : Array Value} {w : World} {d : Nat} {os : Array Obj} {v : Value}
    (h : CallsIn F n P f args (Sort.grow (redrawn w d) os) fun e w' => e = .returned v ∧ Below (Sort.grow (redrawn w d) os).heap.size (Sort.grow (redrawn w d) os) w') : CallsIn F n P f args (Sort.grow (redrawn w d) os) fun e w'' => e = .returned v ∧ ∃ p : Regrown, w'' = Sort.grow (redrawn w p.d) p.os :=
  h.mono fun _ _ ⟨he, hb⟩ => ⟨he, regrown_of_below ((below_regrown w d os).trans ⟨hb.os, hb.tape, hb.output, hb.size, fun k hk => hb.block k (Nat.lt_of_lt_of_le hk (below_regrown w d os).size)⟩)⟩
end
end Go.Proofs.Ytgopadbdnndkiaa
namespace Go.Proofs.Ytgopadbdnndkiaa
open Go.RowKit Str
attribute [local go_sem] Oper.semAt_some
theorem pieces_any (v0 v1 v2 : Value) (w : World) : Calls Try.prog 43 #[.agg #[v0, v1, v2]] w fun e w' => e = .returned (.func (.func 53) #[] #[.pointer (some ⟨w.heap.size, 0, none⟩)]) ∧ w.alloc (.cells #[v0, v1, v2] 50) = w' := by
  go_enter Try.func43, Try.ntmps43
  go_wp2
  go_ret
  exact ⟨rfl, rfl⟩
theorem cell_putObj {W : World} {a : Addr} {v : Value} {l : Nat} (h : W.cell? a = some v) (hne : a.block ≠ l) (o : Obj) : (W.putObj l o).cell? a = some v :=
  (World.cell?_of_block (World.putObj_heap_other hne)).trans h
/-- what a round of the iterator comes to -/
def PieceRound (J : Nat → World → Prop) (Fin : World → Prop) (i : Nat) (e : Ending) (W' : World) : Prop :=
  (e = .returned (.bool true) ∧ J (i + 1) W') ∨ (e = .returned (.bool false) ∧ Fin W')
/-- the cells of dots -/
def DotC (W : World) (b o : Nat) (D : List Dot) : Prop := ∀ i, i < D.length →
    W.cell? ⟨b, o + i * 4, none⟩ = some (.int .i64 (dotAt D i).x) ∧ W.cell? ⟨b, o + i * 4 + 1, none⟩ = some (.int .i64 (dotAt D i).y) ∧
    W.cell? ⟨b, o + i * 4 + 2, none⟩ = some (.int .i64 (dotAt D i).t) ∧ W.cell? ⟨b, o + i * 4 + 3, none⟩ = some (.int .i64 (dotAt D i).p)
set_option maxRecDepth 100000 in
set_option maxHeartbeats 4000000 in
theorem pieces1_in (l sb b o cap : Nat) (D : List Dot) (J : Nat → World → Prop) (Fin : World → Prop) (hn1 : 0 < D.length) (hn2 : (D.length : Int) ≤ 200)
    (hJ : ∀ i W, J i W → W.cell? ⟨sb, 2, none⟩ = some (.slice (some ⟨b, o, none⟩) D.length cap) ∧ DotC W b o D)
    (hS : ∀ i W W', J i W → Below W.heap.size W W' → J i W')
    (hY : ∀ i W, i < max (D.length - 1) 1 → J i W → YieldAt Fence.wide 0 Try.prog l #[pv (dotAt D i).x (dotAt D i).y, pv (dotAt D (nx D i)).x (dotAt D (nx D i)).y] W (PieceRound J Fin i))
    (W : World) (h0 : J 0 W) :
    CallsIn Fence.wide 0 Try.prog 53 #[.func (.yield l) #[] #[], .pointer (some ⟨sb, 0, none⟩)] W fun e W' => (∃ v, e = .returned v) ∧ (J (max (D.length - 1) 1) W' ∨ Fin W') := by
  have HJ := Lib.hid hJ
  have HS := Lib.hid hS
  have HY := Lib.hid hY
  have H0 := Lib.hid h0
  clear hJ hS hY h0
  obtain ⟨hst, hdc⟩ := HJ.out _ _ H0.out
  clear hdc
  obtain ⟨M, hM, hM1⟩ : ∃ M : Nat, (if (D.length : Int) - 1 < 1 then 1 else (D.length : Int) - 1) = (M : Int) ∧ M = max (D.length - 1) 1 := ⟨max (D.length - 1) 1, by split <;> omega, rfl⟩
  rw [← hM1]
  have hM2 : 1 ≤ M := by omega
  have hM3 : M ≤ D.length := by omega
  have HM := Lib.hid hM1
  clear hM1
  refine callsIn_of_wp Try.func53 rfl trivial ?_ rfl
  simp only [Try.ntmps53, List.size_toArray, List.length_cons, List.length_nil, Nat.reduceAdd, Nat.reduceSub, Array.replicate_succ, Array.replicate_zero, List.push_toArray, List.append_toArray, List.nil_append, List.cons_append]
  gi_wp2
  clear hM hst
  gi_loopw [9] (fun i wr => ∃ k : Nat, k ≤ M ∧ i = .int .i64 (k : Int) ∧ J k wr) (fun i _ => M - (intOf i).toNat)
  case atStart => exact ⟨0, by omega, rfl, H0.out⟩
  case round =>
    obtain ⟨k, hk, rfl, hJk⟩ := hrel
    have HK := Lib.hid hJk
    obtain ⟨hst, hdc⟩ := HJ.out _ _ hJk
    have HD := Lib.hid hdc
    clear hJk hdc
    by_cases hlt : k < M
    · obtain ⟨N, hN, hN1⟩ : ∃ N : Nat, (if (D.length : Int) - 1 < (k : Int) + 1 then (D.length : Int) - 1 else (k : Int) + 1) = (N : Int) ∧ N = nx D k := ⟨nx D k, by unfold nx; split <;> omega, rfl⟩
      have hN2 : N < D.length := by unfold nx at hN1; omega
      have hk2 : k < D.length := by omega
      obtain ⟨c0, c1, c2, c3⟩ := HD.out k hk2
      obtain ⟨d0, d1, d2, d3⟩ := HD.out N hN2
      have g0 := fun d os => cell_regrown hst d os
      have k0 := fun d os => cell_regrown c0 d os
      have k1 := fun d os => cell_regrown c1 d os
      have k2 := fun d os => cell_regrown c2 d os
      have k3 := fun d os => cell_regrown c3 d os
      have e0 := fun d os => cell_regrown d0 d os
      have e1 := fun d os => cell_regrown d1 d os
      have e2 := fun d os => cell_regrown d2 d os
      have e3 := fun d os => cell_regrown d3 d os
      have hkn : (k : Int) < (D.length : Int) := by omega
      have hNn : (N : Int) < (D.length : Int) := by omega
      have hk0 : (0 : Int) ≤ (k : Int) := by omega
      have hN0 : (0 : Int) ≤ (N : Int) := by omega
      have hw1 : IntKind.i64.wrap ((k : Int) + 1) = (k : Int) + 1 := IntWalk.i64_in _ (by omega)
      have hw2 : IntKind.i64.wrap ((D.length : Int) - 1) = (D.length : Int) - 1 := IntWalk.i64_in _ (by omega)
      have HN := Lib.hid hN1
      clear hN1 c0 c1 c2 c3 d0 d1 d2 d3
      gi_wp2
      refine wpIn_region_head 19 rfl (by kernel_rfl) (by kernel_rfl) ?_
      simp only [List.take_succ_cons, List.take_zero, List.drop_succ_cons, List.drop_zero]
      repeat (first | gi_big_quiet_step (fail) | (refine BigFrame.wpQuietIn_want (fun _ _ _ _ => trivial) (by rfl) (fun K hK => ?_); gi_big_quiet_op; apply Exists.intro; refine ⟨fun _ => ?_, ?_⟩; (focus (exact ⟨rfl, CallsIn.regrown_of (callsIn_wide.2 (at_any _ _))⟩)); refine hK _ ?_; clear hK K))
      refine wpQuietIn_nil ?_
      intro wq hq
      clear g0 k0 k1 k2 k3 e0 e1 e2 e3 hw1 hw2
      have hJq := HS.out k wr wq HK.out hq
      obtain ⟨fn, tmps, assign, body, hy1, hR⟩ := HY.out k wq (by rw [← HM.out]; exact hlt) hJq
      rw [← HN.out] at hy1
      clear hJq
      gi_wp2
      refine ⟨rfl, hR.mono ?_⟩
      rintro e W3 hpr
      rcases hpr with ⟨rfl, hJ3⟩ | ⟨rfl, hf3⟩
      · have HJ3 := Lib.hid hJ3
        clear hJ3
        gi_wp2
        exact ⟨⟨k + 1, by omega, by go_num, HJ3.out⟩, by simp [intOf]; omega⟩
      · have HF3 := Lib.hid hf3
        clear hf3
        gi_wp2
        refine bodyPost_ret (results_none rfl _ _ _) rfl ?_
        exact ⟨⟨_, rfl⟩, .inr HF3.out⟩
    · obtain rfl : k = M := by omega
      gi_wp2
      go_end0
      exact ⟨⟨_, rfl⟩, .inl HK.out⟩
end Go.Proofs.Ytgopadbdnndkiaa
namespace Go.Proofs.Ytgopadbdnndkiaa
open Go.RowKit Str
attribute [local go_sem] Oper.semAt_some
theorem run_max_int4 {P : Program} (w : World) (ts : Array TypeId) (t : TypeId) (k k2 k3 k4 : IntKind) (x y z v : Int) : (Builtin.max_ ts t #[.int k x, .int k2 y, .int k3 z, .int k4 v]).run P w = .ok (.int k (maxI (maxI (maxI x y) z) v)) w := by
  simp [Builtin.max_, Builtin.max2, maxI]
  rfl
attribute [local go_sem] run_max_int4
theorem way_no (P N : Int) (A : Option Addr) (cap : Nat) (D : List Dot) (w : World) (hD : Dots w A D) (hn : (D.length : Int) ≤ 4611686018427387904) (h1 : validB P N D = false) :
    Calls Try.prog 23 #[.agg #[.int .i64 P, .int .i64 N, .slice A D.length cap]] w fun e w' => e = .returned (.tuple #[.int .i64 0, .int .i64 50]) ∧ Below w.heap.size w w' := by
  have HD := Lib.hid hD
  clear hD
  go_enter Try.func23, Try.ntmps23
  go_wp2_with fail
  have B0 : Below w.heap.size w (w.alloc (.cells #[.int .i64 P, .int .i64 N, .slice A D.length cap] 50)) := (Below.refl _ _).alloc (Nat.le_refl _) _
  refine (valid_any P N A cap D _ (HD.out.below B0) hn).mono ?_
  rintro e w1 ⟨rfl, b1⟩
  rw [h1]
  go_wp2_with fail
  go_ret2
  exact ⟨rfl, below_next B0 b1⟩
/-- the state of the loop in Way -/
def WayJ (w : World) (_P _N : Int) (b o cap : Nat) (D : List Dot) (sm sb l : Nat) (rec : LoopState → Option Code → Obj) (i : Nat) (W : World) : Prop :=
  Boxed W sm 3 (.int .i64 (wayTo D i)) ∧ W.cell? ⟨sb, 2, none⟩ = some (.slice (some ⟨b, o, none⟩) D.length cap) ∧ DotC W b o D ∧ Below w.heap.size w W ∧ W.heap[l + 1]? = some (rec .ready none) ∧ W.heap[l]? = some (.deferred (some []))
set_option maxRecDepth 100000 in
set_option maxHeartbeats 4000000 in
theorem way_yes (P N : Int) (A : Option Addr) (cap : Nat) (D : List Dot) (w : World) (hD : Dots w A D) (h1 : validB P N D = true) :
    Calls Try.prog 23 #[.agg #[.int .i64 P, .int .i64 N, .slice A D.length cap]] w fun e w' => e = .returned (.tuple #[.int .i64 (wayF D), .int .i64 0]) ∧ Below w.heap.size w w' := by
  obtain ⟨⟨p5, p6⟩, p0⟩ := valid_len h1
  have hpl := placed (validB_dots h1)
  have HPL := Lib.hid hpl
  have H1 := Lib.hid h1
  clear h1 hpl
  obtain ⟨b, o, rfl, hlt, hc⟩ := hD.open_ p0
  have HD := Lib.hid hD
  have HC := Lib.hid hc
  clear hD hc
  refine calls_of_wp_marks Try.func23 rfl ?_
  simp only [Try.ntmps23, List.size_toArray, List.length_cons, List.length_nil, Nat.reduceAdd, Nat.reduceSub, Array.replicate_succ, Array.replicate_zero, List.push_toArray, List.append_toArray, List.nil_append, List.cons_append]
  go_wp2_with fail
  have B0 : Below w.heap.size w (w.alloc (.cells #[.int .i64 P, .int .i64 N, .slice (some ⟨b, o, none⟩) D.length cap] 50)) := (Below.refl _ _).alloc (Nat.le_refl _) _
  refine (valid_any P N _ cap D _ (HD.out.below B0) (by omega)).mono ?_
  rintro e w1 ⟨rfl, b1⟩
  rw [H1.out]
  have B1 := below_next B0 b1
  have e0 : w1.cell? ⟨w.heap.size, 0, none⟩ = some (.int .i64 P) := cell_then b1 (by simp [go_sem])
  have e1 : w1.cell? ⟨w.heap.size, 1, none⟩ = some (.int .i64 N) := cell_then b1 (by simp [go_sem])
  have e2 : w1.cell? ⟨w.heap.size, 2, none⟩ = some (.slice (some ⟨b, o, none⟩) D.length cap) := cell_then b1 (by simp [go_sem])
  have hsz := lt_size e0
  clear B0 b1
  go_wp2_with fail
  refine (pieces_any _ _ _ _).mono ?_
  rintro e w2 ⟨rfl, rfl⟩
  clear e0 e1 e2
  go_wp2_with fail
  obtain ⟨W0, hW0⟩ : ∃ W0, (w1.alloc (.cells #[.int .i64 0] 3)).alloc (.cells #[.int .i64 P, .int .i64 N, .slice (some ⟨b, o, none⟩) D.length cap] 50) = W0 := ⟨_, rfl⟩
  have hs0 : W0.heap.size ≤ w1.heap.size + 2 ∧ w1.heap.size + 2 ≤ W0.heap.size := by rw [← hW0]; simp
  have bS : Boxed W0 w1.heap.size 3 (.int .i64 0) := by rw [← hW0]; exact (Boxed.new w1 _ _).alloc _
  have cS : W0.cell? ⟨w1.heap.size + 1, 2, none⟩ = some (.slice (some ⟨b, o, none⟩) D.length cap) := by rw [← hW0]; exact new_cell' rfl
  have BW : Below w.heap.size w W0 := by rw [← hW0]; exact below_alloc (below_alloc B1 _) _
  have hd0 : DotC W0 b o D := Dots.of_open BW HC.out
  rw [hW0]
  clear hW0
  refine range_outer (n := 0) (gf := 53) (lb := #[.pointer (some ⟨w1.heap.size + 1, 0, none⟩)]) rfl (enters_of Try.func53 (by kernel_rfl) rfl) ?_
  intro fn rec hrec
  have hcl := rec_cells hrec
  refine (pieces1_in _ (w1.heap.size + 1) b o cap D (WayJ w P N b o cap D w1.heap.size (w1.heap.size + 1) W0.heap.size rec) (fun _ => False) p0 p6 ?hJ ?hS ?round _ ?start).mono ?done
  case hJ => exact fun i W h => ⟨h.2.1, h.2.2.1⟩
  case hS => exact fun i W W' ⟨h1, h2, h3, h4, h5, h6⟩ hb => ⟨(hb.block _ (heap_lt h1)).trans h1, cell_then hb h2, Dots.of_open hb h3, below_next h4 hb, (hb.block _ (heap_lt h5)).trans h5, (hb.block _ (heap_lt h6)).trans h6⟩
  case start =>
    refine ⟨(bS.alloc _).alloc _, keep_alloc _ (keep_alloc _ cS), ?_, below_alloc (below_alloc BW _) _, ?_, ?_⟩
    · exact Dots.of_open (below_alloc (below_alloc (Below.refl _ _) _) _) hd0
    · have := World.alloc_heap_new (W0.alloc (.deferred (some []))) (rec .ready none)
      rwa [World.size_alloc] at this
    · exact heap_alloc (World.alloc_heap_new W0 _) _
  case round =>
    rintro i W hi ⟨j1, j2, j3, j4, j5, j6⟩
    refine yield_round hrec trivial j5 rfl ?_
    clear hrec
    unfold pv
    gi_wp2
    have hlW := heap_lt j5
    have hWs := heap_lt j1
    have hcs := lt_size j2
    refine ⟨heap_alloc (heap_alloc j5 _) _, ?_⟩
    obtain ⟨Wa, hWa⟩ : ∃ Wa, (W.alloc (.cells #[.int .i64 (dotAt D i).x, .int .i64 (dotAt D i).y] 56)).alloc (.cells #[.int .i64 (dotAt D (nx D i)).x, .int .i64 (dotAt D (nx D i)).y] 56) = Wa := ⟨_, rfl⟩
    have hBa : Below W.heap.size W Wa := by rw [← hWa]; exact below_alloc (below_alloc (Below.refl _ _) _) _
    have a0 : Wa.cell? ⟨W.heap.size, 0, none⟩ = some (.int .i64 (dotAt D i).x) := by rw [← hWa]; exact keep_alloc _ (new_cell rfl)
    have a1 : Wa.cell? ⟨W.heap.size, 1, none⟩ = some (.int .i64 (dotAt D i).y) := by rw [← hWa]; exact keep_alloc _ (new_cell rfl)
    have a2 : Wa.cell? ⟨W.heap.size + 1, 0, none⟩ = some (.int .i64 (dotAt D (nx D i)).x) := by rw [← hWa]; exact new_cell' rfl
    have a3 : Wa.cell? ⟨W.heap.size + 1, 1, none⟩ = some (.int .i64 (dotAt D (nx D i)).y) := by rw [← hWa]; exact new_cell' rfl
    have hla := (hBa.block _ hlW).trans j5
    rw [hWa]
    clear hWa
    obtain ⟨Wb, hWb⟩ : ∃ Wb, Wa.putObj (W0.heap.size + 1) (rec .busy none) = Wb := ⟨_, rfl⟩
    have b0 : Wb.cell? ⟨W.heap.size, 0, none⟩ = some (.int .i64 (dotAt D i).x) := by rw [← hWb]; exact cell_putObj a0 (by dsimp only; omega) _
    have b1 : Wb.cell? ⟨W.heap.size, 1, none⟩ = some (.int .i64 (dotAt D i).y) := by rw [← hWb]; exact cell_putObj a1 (by dsimp only; omega) _
    have b2 : Wb.cell? ⟨W.heap.size + 1, 0, none⟩ = some (.int .i64 (dotAt D (nx D i)).x) := by rw [← hWb]; exact cell_putObj a2 (by dsimp only; omega) _
    have b3 : Wb.cell? ⟨W.heap.size + 1, 1, none⟩ = some (.int .i64 (dotAt D (nx D i)).y) := by rw [← hWb]; exact cell_putObj a3 (by dsimp only; omega) _
    have k1 : Boxed Wb w1.heap.size 3 (.int .i64 (wayTo D i)) := by rw [← hWb]; exact boxed_putObj ((hBa.block _ hWs).trans j1) (by omega) _
    have k2 : Wb.cell? ⟨w1.heap.size + 1, 2, none⟩ = some (.slice (some ⟨b, o, none⟩) D.length cap) := by rw [← hWb]; exact cell_putObj (cell_then hBa j2) (by dsimp only; omega) _
    have k4 : Below w.heap.size w Wb := by rw [← hWb]; exact below_putObj (below_next j4 hBa) (by omega) _
    have k5 := heap_put hla (rec .busy none)
    have k6 := heap_putObj ((hBa.block _ (heap_lt j6)).trans j6) (show W0.heap.size ≠ W0.heap.size + 1 by omega) (rec .busy none)
    rw [hWb] at k5 k6 ⊢
    clear hWb a0 a1 a2 a3 hla hBa j1 j2 j3 j4 j5 j6
    have hc1 := k1.cell
    have hf1 := k1.frozen
    have hi2 : i < D.length := by omega
    have hx1 := placeB_iff.1 (HPL.out _ (dotAt_mem hi2))
    have hx2 := placeB_iff.1 (HPL.out _ (dotAt_mem (D := D) (i := nx D i) (by unfold nx; omega)))
    have hwb := way_bd HPL.out i (by omega)
    have hsp := stp_bd (HPL.out _ (dotAt_mem hi2)) (HPL.out _ (dotAt_mem (D := D) (i := nx D i) (by unfold nx; omega)))
    unfold stp at hsp
    gi_wp2
    obtain ⟨v, hv⟩ : ∃ v, (.int .i64 (wayTo D (i + 1)) : Value) = v := ⟨_, rfl⟩
    have hw3 := heap_setCell (p := ⟨w1.heap.size, 0, none⟩) k5 (show W0.heap.size + 1 ≠ w1.heap.size by omega) v
    have hb3 : Below w.heap.size w (Wb.setCell ⟨w1.heap.size, 0, none⟩ v) := k4.setCell (by dsimp only; omega) _
    show roundEnd (W0.heap.size + 1) rec _ .normal _ (Wb.setCell ⟨w1.heap.size, 0, none⟩ (.int .i64 (wayTo D (i + 1))))
    rw [hv]
    refine ⟨hw3, .inl ⟨rfl, ?_, cell_putObj (cell_set _ k2 (by dsimp only; omega)) (by dsimp only; omega) _, Dots.of_open (below_putObj hb3 (by omega) _) HC.out, below_putObj hb3 (by omega) _, heap_put hw3 _, heap_putObj (heap_setCell k6 (by dsimp only; omega) _) (by omega) _⟩⟩
    rw [← hv]
    exact boxed_putObj (k1.set _) (by omega) _
  case done =>
    rintro e W' ⟨hv, hJ | hF⟩
    · obtain ⟨j1, j2, j3, j4, j5, j6⟩ := hJ
      refine ⟨hv, .inl ⟨j5, ?_⟩⟩
      have k1 := boxed_putObj j1 (show w1.heap.size ≠ W0.heap.size + 1 by omega) (rec .exhausted none)
      have k4 := below_putObj j4 (show w.heap.size ≤ W0.heap.size + 1 by omega) (rec .exhausted none)
      have k6 := heap_putObj j6 (show W0.heap.size ≠ W0.heap.size + 1 by omega) (rec .exhausted none)
      rw [way_pieces (by omega)] at k1
      obtain ⟨W4, hW4⟩ : ∃ W4, W'.putObj (W0.heap.size + 1) (rec .exhausted none) = W4 := ⟨_, rfl⟩
      rw [hW4] at k1 k4 k6 ⊢
      clear hW4 hrec
      have hc1 := k1.cell
      go_wp2_with fail
      exact leaves_marked k6 (results_tmp2 rfl _ _ _) ⟨rfl, below_putObj k4 (by omega) _⟩
    · exact hF.elim
end Go.Proofs.Ytgopadbdnndkiaa
namespace Go.Proofs.Ytgopadbdnndkiaa.Plt
/-- the rides of the strokes that are not in a set -/
def leftL (n set : Nat) : List Nat := (List.range (2 * n)).filter fun r => !set.testBit (r / 2)
theorem mem_left {n set r : Nat} : r ∈ leftL n set ↔ r < 2 * n ∧ set.testBit (r / 2) = false := by
  simp [leftL]
/-- the set with the stroke of a ride -/
def put (set r : Nat) : Nat := set ||| (1 <<< (r / 2))
theorem put_bit (set r i : Nat) : (put set r).testBit i = (set.testBit i || decide (r / 2 = i)) := by
  rw [put, Nat.testBit_or, Nat.one_shiftLeft, Nat.testBit_two_pow]
theorem put_gt {set r : Nat} (h : set.testBit (r / 2) = false) : set < put set r := by
  have hle : set ≤ put set r := Nat.left_le_or
  rcases Nat.lt_or_ge set (put set r) with h1 | h1
  · exact h1
  · have e : put set r = set := by omega
    have := put_bit set r (r / 2)
    rw [e, h] at this
    simp at this
theorem put_lt {n set r : Nat} (hs : set < 2 ^ n) (hr : r < 2 * n) : put set r < 2 ^ n := by
  refine Nat.or_lt_two_pow hs ?_
  rw [Nat.one_shiftLeft]
  exact Nat.pow_lt_pow_right (by omega) (by omega)
/-- how many strokes are left -/
def cnt (n set : Nat) : Nat := ((List.range n).filter fun i => !set.testBit i).length
theorem filter_drop {p q : Nat → Bool} {i : Nat} : ∀ {l : List Nat}, l.Nodup → i ∈ l → p i = true → q i = false → (∀ k, k ≠ i → q k = p k) → (l.filter q).length + 1 = (l.filter p).length
  | [], _, hi, _, _, _ => by cases hi
  | x :: l, hn, hi, hp, hq, hk => by
    rw [List.nodup_cons] at hn
    by_cases e : x = i
    · subst e
      have he : l.filter q = l.filter p := List.filter_congr fun k hm => hk k (fun e => hn.1 (e ▸ hm))
      rw [List.filter_cons, List.filter_cons, if_neg (by simp [hq]), if_pos hp, he]; rfl
    · have hi' : i ∈ l := by
        rcases List.mem_cons.1 hi with h | h
        · exact absurd h.symm e
        · exact h
      have ih := filter_drop hn.2 hi' hp hq hk
      rw [List.filter_cons, List.filter_cons, hk x e]
      split
      · rw [List.length_cons, List.length_cons]; omega
      · exact ih
theorem cnt_put {n set r : Nat} (h : r ∈ leftL n set) : cnt n (put set r) + 1 = cnt n set := by
  obtain ⟨h1, h2⟩ := mem_left.1 h
  refine filter_drop (i := r / 2) List.nodup_range (List.mem_range.2 (by omega)) (by simp [h2]) (by simp [put_bit]) (fun k hk => ?_)
  have : ¬ r / 2 = k := fun e => hk e.symm
  simp [put_bit, this]
theorem cnt_zero {n set : Nat} (h : cnt n set = 0) : leftL n set = [] := by
  rw [List.eq_nil_iff_forall_not_mem]
  intro r hr
  have := cnt_put hr
  omega
theorem cnt_le (n set : Nat) : cnt n set ≤ n := by
  have := List.length_filter_le (fun i => !set.testBit i) (List.range n)
  rw [List.length_range] at this
  exact this
/-- the least of some costs, and the first with it -/
def scan (c : Nat → Int) : List Nat → Int × Int → Int × Int
  | [], b => b
  | r :: l, b => scan c l (if b.2 < 0 ∨ c r < b.1 then (c r, (r : Int)) else b)
theorem scan_append (c : Nat → Int) : ∀ (a l : List Nat) (b : Int × Int), scan c (a ++ l) b = scan c l (scan c a b)
  | [], _, _ => rfl
  | r :: a, l, b => by rw [List.cons_append, scan, scan, scan_append c a l]
/-- what has been found: nothing, or the least -/
def Least (c : Nat → Int) (l : List Nat) (b : Int × Int) : Prop := (l = [] ∧ b = (0, -1)) ∨ ∃ r, r ∈ l ∧ b = (c r, (r : Int)) ∧ ∀ q ∈ l, c r ≤ c q
theorem scan_least (c : Nat → Int) : ∀ (l a : List Nat) (b : Int × Int), Least c a b → Least c (a ++ l) (scan c l b)
  | [], a, b, h => by rw [List.append_nil]; exact h
  | r :: l, a, b, h => by
    rw [show a ++ r :: l = (a ++ [r]) ++ l by simp, scan]
    refine scan_least c l (a ++ [r]) _ ?_
    rcases h with ⟨rfl, rfl⟩ | ⟨q, hq, rfl, hm⟩
    · rw [if_pos (.inl (by decide))]
      exact .inr ⟨r, by simp, rfl, fun x hx => by obtain rfl : x = r := (by simpa using hx); exact Int.le_refl _⟩
    · by_cases hc : c r < c q
      · rw [if_pos (.inr hc)]
        refine .inr ⟨r, by simp, rfl, fun x hx => ?_⟩
        rcases List.mem_append.1 hx with hx | hx
        · have := hm x hx; omega
        · obtain rfl : x = r := (by simpa using hx); exact Int.le_refl _
      · rw [if_neg (by simp only [not_or]; exact ⟨by omega, hc⟩)]
        refine .inr ⟨q, by simp [hq], rfl, fun x hx => ?_⟩
        rcases List.mem_append.1 hx with hx | hx
        · exact hm x hx
        · obtain rfl : x = r := (by simpa using hx); omega
theorem least_of (c : Nat → Int) (l : List Nat) : Least c l (scan c l (0, -1)) := by
  have := scan_least c l [] (0, -1) (.inl ⟨rfl, rfl⟩)
  rwa [List.nil_append] at this
theorem scan_congr {c d : Nat → Int} : ∀ {l : List Nat} {b : Int × Int}, (∀ r ∈ l, c r = d r) → scan c l b = scan d l b
  | [], _, _ => rfl
  | r :: l, b, h => by
    rw [scan, scan, h r (by simp), scan_congr (fun x hx => h x (by simp [hx]))]
section
variable (n : Nat) (g : Nat → Nat → Int)
/-- the least sum of gaps from a ride on, with a set that is drawn -/
def V : Nat → Nat → Nat → Int
  | 0, _, _ => 0
  | f + 1, set, last => (scan (fun r => g last r + V f (put set r) r) (leftL n set) (0, -1)).1
theorem v_fuel : ∀ (f f' set last : Nat), cnt n set ≤ f → cnt n set ≤ f' → V n g f set last = V n g f' set last
  | 0, 0, _, _, _, _ => rfl
  | 0, f' + 1, set, last, h, _ => by rw [V, V, cnt_zero (by omega)]; rfl
  | f + 1, 0, set, last, _, h => by rw [V, V, cnt_zero (by omega)]; rfl
  | f + 1, f' + 1, set, last, h, h' => by
    rw [V, V]
    refine congrArg Prod.fst (scan_congr fun r hr => ?_)
    have := cnt_put hr
    rw [v_fuel f f' (put set r) r (by omega) (by omega)]
/-- the cost from a state -/
def val (set last : Nat) : Int := V n g n set last
/-- what is taken from a state: the least cost, and the first ride with it -/
def take (set last : Nat) : Int × Int := scan (fun r => g last r + val n g (put set r) r) (leftL n set) (0, -1)
theorem val_take (set last : Nat) : val n g set last = (take n g set last).1 := by
  rw [val, v_fuel n g n (n + 1) set last (cnt_le n set) (by have := cnt_le n set; omega), V, take]
  rfl
theorem val_le {set last r : Nat} (hr : r ∈ leftL n set) : val n g set last ≤ g last r + val n g (put set r) r := by
  rw [val_take, take]
  rcases least_of (fun r => g last r + val n g (put set r) r) (leftL n set) with ⟨h, _⟩ | ⟨q, _, h2, h3⟩
  · rw [h] at hr; cases hr
  · rw [h2]; exact h3 r hr
theorem val_end {set last : Nat} (h : leftL n set = []) : val n g set last = 0 := by
  rw [val_take, take, h]; rfl
/-- the gaps along rides -/
def pathC : Nat → List Nat → Int
  | _, [] => 0
  | last, r :: l => g last r + pathC r l
/-- rides of all strokes that are not in a set, each once -/
def Right : Nat → List Nat → Prop
  | set, [] => leftL n set = []
  | set, r :: l => r ∈ leftL n set ∧ Right (put set r) l
theorem val_least : ∀ (l : List Nat) (set last : Nat), Right n set l → val n g set last ≤ pathC g last l
  | [], set, last, h => by rw [val_end n g h, pathC]; exact Int.le_refl _
  | r :: l, set, last, h => by
    have h1 := val_le n g (last := last) h.1
    have h2 := val_least l (put set r) r h.2
    rw [pathC]; omega
/-- the rides that are taken one behind the other -/
def best : Nat → Nat → Nat → List Nat
  | 0, _, _ => []
  | f + 1, set, last => if (take n g set last).2 < 0 then [] else (take n g set last).2.toNat :: best f (put set (take n g set last).2.toNat) (take n g set last).2.toNat
theorem take_ways (set last : Nat) : (leftL n set = [] ∧ take n g set last = (0, -1)) ∨ ∃ r, r ∈ leftL n set ∧ take n g set last = (g last r + val n g (put set r) r, (r : Int)) := by
  rcases least_of (fun r => g last r + val n g (put set r) r) (leftL n set) with h | ⟨q, h1, h2, _⟩
  · exact .inl h
  · exact .inr ⟨q, h1, h2⟩
theorem best_right : ∀ (f set last : Nat), cnt n set ≤ f → Right n set (best n g f set last) ∧ pathC g last (best n g f set last) = val n g set last
  | 0, set, last, h => by
    have h0 := cnt_zero (n := n) (set := set) (by omega)
    exact ⟨h0, by rw [val_end n g h0]; rfl⟩
  | f + 1, set, last, h => by
    rcases take_ways n g set last with ⟨h1, h2⟩ | ⟨r, h1, h2⟩
    · rw [best, h2, if_pos (by decide)]
      exact ⟨h1, by rw [val_end n g h1]; rfl⟩
    · rw [best, h2, if_neg (show ¬ ((g last r + val n g (put set r) r, (r : Int)).2 < 0) by show ¬ ((r : Int) < 0); omega)]
      have hc := cnt_put h1
      obtain ⟨i1, i2⟩ := best_right f (put set r) r (by omega)
      refine ⟨⟨h1, i1⟩, ?_⟩
      show g last r + pathC g r (best n g f (put set r) r) = _
      rw [i2, val_take n g set last, h2]
/-- the table: the cost of each state whose last ride's stroke is drawn -/
def tab (i : Nat) : Int := if i % 18 < 2 * n ∧ (i / 18).testBit (i % 18 / 2) = true then val n g (i / 18) (i % 18) else 0
/-- a table that no cheaper rides contradict -/
structure Sound (T : Nat → Int) : Prop where
  full : ∀ last, (2 ^ n - 1).testBit (last / 2) = true → last < 18 → T (18 * (2 ^ n - 1) + last) = 0
  step : ∀ set last r, set < 2 ^ n → last < 18 → set.testBit (last / 2) = true → r ∈ leftL n set → T (18 * set + last) ≤ g last r + T (18 * put set r + r)
theorem left_full {set : Nat} (hs : set < 2 ^ n) (h : leftL n set = []) : set = 2 ^ n - 1 := by
  apply Nat.eq_of_testBit_eq
  intro i
  rw [Nat.testBit_two_pow_sub_one]
  by_cases hi : i < n
  · rw [decide_eq_true hi]
    cases hb : set.testBit i with
    | true => rfl
    | false =>
      have : 2 * i ∈ leftL n set := mem_left.2 ⟨by omega, by rw [show 2 * i / 2 = i by omega]; exact hb⟩
      rw [h] at this; cases this
  · rw [decide_eq_false hi]
    exact Nat.testBit_lt_two_pow (Nat.lt_of_lt_of_le hs (Nat.pow_le_pow_right (by omega) (by omega)))
theorem sound_least {T : Nat → Int} (h : Sound n g T) (hn : n ≤ 9) : ∀ (l : List Nat) (set last : Nat), set < 2 ^ n → last < 18 → set.testBit (last / 2) = true → Right n set l → T (18 * set + last) ≤ pathC g last l
  | [], set, last, hs, hl, hb, hr => by
    have e := left_full n hs hr
    subst e
    rw [h.full last hb hl, pathC]; exact Int.le_refl _
  | r :: l, set, last, hs, hl, hb, hr => by
    have h1 := h.step set last r hs hl hb hr.1
    obtain ⟨m1, m2⟩ := mem_left.1 hr.1
    have h2 := sound_least h hn l (put set r) r (put_lt hs m1) (by omega) (by rw [put_bit]; simp) hr.2
    rw [pathC]; omega
/-- whatever sound table, with a cost that its first steps bear, no right rides are less -/
theorem sound_cost {T : Nat → Int} {cost : Int} (h : Sound n g T) (hn : n ≤ 9) (hc : ∀ r ∈ leftL n 0, cost ≤ g 18 r + T (18 * put 0 r + r)) (h0 : 0 < n ∨ cost ≤ 0) {l : List Nat} (hr : Right n 0 l) : cost ≤ pathC g 18 l := by
  cases l with
  | nil =>
    have hz : n = 0 := by
      cases n with
      | zero => rfl
      | succ m =>
        have : 0 ∈ leftL (m + 1) 0 := mem_left.2 ⟨by omega, by simp⟩
        have hr' : leftL (m + 1) 0 = [] := hr
        rw [hr'] at this; cases this
    rw [pathC]; omega
  | cons r l =>
    have h1 := hc r hr.1
    obtain ⟨m1, _⟩ := mem_left.1 hr.1
    have h2 := sound_least n g h hn l (put 0 r) r (put_lt (by exact Nat.two_pow_pos n) m1) (by omega) (by rw [put_bit]; simp) hr.2
    rw [pathC]; omega
theorem tab_at {set r : Nat} (hr : r < 18) : tab n g (18 * set + r) = if r < 2 * n ∧ set.testBit (r / 2) = true then val n g set r else 0 := by
  rw [tab, show (18 * set + r) % 18 = r by omega, show (18 * set + r) / 18 = set by omega]
theorem tab_put {set r : Nat} (hr : r ∈ leftL n set) (hn : n ≤ 9) : tab n g (18 * put set r + r) = val n g (put set r) r := by
  obtain ⟨h1, _⟩ := mem_left.1 hr
  rw [tab_at n g (by omega), if_pos ⟨h1, by rw [put_bit]; simp⟩]
/-- the table of the costs is sound -/
theorem tab_sound (hn : n ≤ 9) : Sound n g (tab n g) := by
  refine ⟨fun last hb hl => ?_, fun set last r hs hl hb hr => ?_⟩
  · rw [tab_at n g hl]
    split
    · refine val_end n g (List.eq_nil_iff_forall_not_mem.2 fun r hr => ?_)
      obtain ⟨h1, h2⟩ := mem_left.1 hr
      rw [Nat.testBit_two_pow_sub_one, decide_eq_true (by omega)] at h2
      cases h2
    · rfl
  · rw [tab_put n g hr hn, tab_at n g hl]
    by_cases h2 : last < 2 * n
    · rw [if_pos ⟨h2, hb⟩]; exact val_le n g hr
    · exfalso
      have := Nat.testBit_lt_two_pow (i := last / 2) (Nat.lt_of_lt_of_le hs (Nat.pow_le_pow_right (n := 2) (by omega) (show n ≤ last / 2 by omega)))
      rw [this] at hb; cases hb
end
end Go.Proofs.Ytgopadbdnndkiaa.Plt
namespace Go.Proofs.Ytgopadbdnndkiaa
/-- the normal end, in this very state -/
def EndsIn (A : Act) (W : World) : Exit → Act → World → Prop
  | .normal, a, w => a = A ∧ w = W
  | _, _, _ => False
theorem EndsIn.mk {A : Act} {W : World} : EndsIn A W .normal A W := ⟨rfl, rfl⟩
theorem wp_same {P : Program} {c : Code} {Q : Exit → Act → World → Prop} {a : Act} {w : World} {A : Act} {W : World} (hreg : c.wp P (EndsIn A W) a w) (hcont : Q .normal A W) : c.wp P Q a w :=
  Code.wp_mono (fun e a' w' h => by
    cases e with
    | normal => obtain ⟨rfl, rfl⟩ := h; exact hcont
    | _ => exact h.elim) hreg
end Go.Proofs.Ytgopadbdnndkiaa
namespace Go.Proofs.Ytgopadbdnndkiaa
open Go.RowKit
/-- all blocks that were there, but those of S, are as they were -/
structure Kept (S : List Nat) (w w' : World) : Prop where
  os : w'.os = w.os
  tape : w'.tape = w.tape
  output : w'.output = w.output
  size : w.heap.size ≤ w'.heap.size
  block : ∀ k, k < w.heap.size → k ∉ S → w'.heap[k]? = w.heap[k]?
/-- S' is of S, or new -/
def New (w : World) (S S' : List Nat) : Prop := ∀ k ∈ S', k ∈ S ∨ w.heap.size ≤ k
theorem hlt {w : World} {k : Nat} {x : Obj} (h : w.heap[k]? = some x) : k < w.heap.size := (Array.getElem?_eq_some_iff.1 h).1
theorem Kept.refl (S : List Nat) (w : World) : Kept S w w := ⟨rfl, rfl, rfl, Nat.le_refl _, fun _ _ _ => rfl⟩
theorem Kept.trans {S S' : List Nat} {a b c : World} (h : Kept S a b) (k : Kept S' b c) (hs : New a S S') : Kept S a c :=
  ⟨k.os.trans h.os, k.tape.trans h.tape, k.output.trans h.output, Nat.le_trans h.size k.size, fun i hi hn =>
    (k.block i (Nat.lt_of_lt_of_le hi h.size) (fun e => by rcases hs i e with e | e; exact hn e; omega)).trans (h.block i hi hn)⟩
theorem New.refl (w : World) (S : List Nat) : New w S S := fun _ h => .inl h
theorem New.of_lt {w : World} {S S' : List Nat} (h : ∀ k ∈ S', k ∈ S) : New w S S' := fun k hk => .inl (h k hk)
theorem New.all {w : World} {S S' : List Nat} (h : ∀ k ∈ S', w.heap.size ≤ k) : New w S S' := fun k hk => .inr (h k hk)
theorem New.trans {S S' S2 : List Nat} {a b : World} (h : New a S S') (k : New b S' S2) (hs : a.heap.size ≤ b.heap.size) : New a S S2 := fun i hi => by
  rcases k i hi with k | k
  · exact h i k
  · exact .inr (Nat.le_trans hs k)
theorem Kept.mono {S S' : List Nat} {a b : World} (h : Kept S a b) (hs : ∀ k ∈ S, k ∈ S') : Kept S' a b := ⟨h.os, h.tape, h.output, h.size, fun k hk hn => h.block k hk (fun e => hn (hs k e))⟩
/-- what is new need not be named -/
theorem Kept.drop {S S' : List Nat} {a b : World} (h : Kept S' a b) (hs : New a S S') : Kept S a b := ⟨h.os, h.tape, h.output, h.size, fun k hk hn => h.block k hk (fun e => by rcases hs k e with e | e; exact hn e; omega)⟩
theorem Kept.drew {S : List Nat} {a b : World} (h : Kept S a b) : Kept S a b.drew := ⟨h.os, h.tape, h.output, h.size, h.block⟩
theorem Kept.alloc {S : List Nat} {a b : World} (h : Kept S a b) (o : Obj) : Kept S a (b.alloc o) :=
  h.trans ⟨rfl, rfl, rfl, by simp, fun k hk _ => Below.heap_alloc _ _ _ hk⟩ (New.refl _ _)
theorem Kept.setCell {S : List Nat} {a b : World} (h : Kept S a b) {p : Addr} (hp : p.block ∈ S ∨ a.heap.size ≤ p.block) (v : Value) : Kept S a (b.setCell p v) :=
  ⟨h.os, h.tape, h.output, by have := h.size; simpa [World.setCell] using this, fun k hk hn => (Below.heap_setCell _ _ _ _ (fun e => by subst e; rcases hp with hp | hp; exact hn hp; omega)).trans (h.block k hk hn)⟩
theorem Kept.setRow {S : List Nat} {a b : World} (h : Kept S a b) {g : Nat} (hp : g ∈ S ∨ a.heap.size ≤ g) (c : Array Value) : Kept S a (b.setRow g c) :=
  ⟨h.os, h.tape, h.output, by have := h.size; simpa [World.setRow] using this, fun k hk hn => (setRow_other b g k c (fun e => by subst e; rcases hp with hp | hp; exact hn hp; omega)).trans (h.block k hk hn)⟩
theorem Kept.grown {S : List Nat} {a b c : World} {row : Option Nat} (h : Kept S a b) (hg : b.grownBy c row) (hp : ∀ k, row = some k → k ∈ S ∨ a.heap.size ≤ k) : Kept S a c :=
  ⟨hg.os.trans h.os, hg.tape.trans h.tape, hg.output.trans h.output, Nat.le_trans h.size hg.size, fun k hk hn =>
    (hg.block k (Nat.lt_of_lt_of_le hk h.size) (fun e => by rcases hp k e.symm with e | e; exact hn e; omega)).trans (h.block k hk hn)⟩
theorem Kept.of_below {a b : World} (h : Below a.heap.size a b) : Kept [] a b := ⟨h.os, h.tape, h.output, h.size, fun k hk _ => h.block k hk⟩
theorem Kept.and_below {S : List Nat} {a b c : World} (h : Kept S a b) (k : Below b.heap.size b c) : Kept S a c := h.trans (Kept.of_below k) (fun _ h => by cases h)
theorem Kept.below {S : List Nat} {a b : World} {B : Nat} (h : Kept S a b) (hB : B ≤ a.heap.size) (hs : ∀ k ∈ S, B ≤ k) : Below B a b := ⟨h.os, h.tape, h.output, h.size, fun k hk => h.block k (by omega) (fun e => by have := hs k e; omega)⟩
/-- a call's own memory, behind one that turned S, all of it new since B -/
theorem Kept.below_next {S : List Nat} {w0 a b : World} {B : Nat} (h : Below B w0 a) (k : Kept S a b) (hB : B ≤ a.heap.size) (hs : ∀ k ∈ S, B ≤ k) : Below B w0 b := h.trans (k.below hB hs)
theorem Kept.heap {S : List Nat} {a b : World} (h : Kept S a b) {k : Nat} {x : Obj} (hk : a.heap[k]? = some x) (hn : k ∉ S) : b.heap[k]? = some x := (h.block k (hlt hk) hn).trans hk
theorem Kept.cell {S : List Nat} {a b : World} (h : Kept S a b) {p : Addr} {v : Value} (hp : a.cell? p = some v) (hn : p.block ∉ S) : b.cell? p = some v := (World.cell?_of_block (h.block p.block (World.block_lt_of_cell? _ _ hp) hn)).trans hp
theorem Kept.own {S : List Nat} {a b : World} {base : Nat} {e : TypeId} {size n : Nat} {v : Value} {xs : List Value} (h : Kept S a b) (ho : a.ownsRow base e size v n xs) (hn : ∀ k, v.ownBlock = some k → k ∉ S) : b.ownsRow base e size v n xs := by
  refine ⟨ho.1, ?_⟩
  rcases ho.2 with h2 | ⟨g, cap, cur, rfl, h2, h3, h4⟩
  · exact .inl h2
  · exact .inr ⟨g, cap, cur, rfl, h2, h.heap h3 (hn g rfl), h4⟩
/-- bytes as values -/
def bcs (l : List UInt8) : List Value := l.map fun b => Value.int .u8 (b.toNat : Int)
theorem bcs_length (l : List UInt8) : (bcs l).length = l.length := List.length_map _
theorem bcs_append (a b : List UInt8) : bcs (a ++ b) = bcs a ++ bcs b := List.map_append
theorem bcs_splice (l c : List UInt8) (off : Nat) : splice (bcs l) off (bcs c) = bcs (splice l off c) := by
  simp only [splice, bcs, List.map_append, List.map_take, List.map_drop, List.length_map]
theorem bcs_one (l : List UInt8) : ∀ v ∈ bcs l, v.oneCell' = true := fun v hv => by
  obtain ⟨x, _, rfl⟩ := List.mem_map.1 hv
  rfl
/-- a row of bytes, a block of its own -/
def RowB (t : TypeId) (w : World) (g : Nat) (l : List UInt8) : Prop := w.heap[g]? = some (.cells (bcs l).toArray t (0, 0))
theorem RowB.kept {t : TypeId} {S : List Nat} {w w' : World} {g : Nat} {l : List UInt8} (h : RowB t w g l) (k : Kept S w w') (hn : g ∉ S) : RowB t w' g l := k.heap h hn
theorem RowB.cell {t : TypeId} {w : World} {g : Nat} {l : List UInt8} (h : RowB t w g l) {i : Nat} (hi : i < l.length) : w.cell? ⟨g, i, none⟩ = some (.int .u8 ((l[i].toNat : Nat) : Int)) := by
  rw [cell_of_row w g i _ t (0, 0) h]
  simp [bcs, hi]
/-- 'copy(dst, s)', s a string, as a step of the walk: the row behind it is 'splice cur off s' -/
theorem wpList_copy_str {P : Program} {w : World} {ops : Array Oper} {rest : List Oper} {o : Oper} {a : Act} {Q : Exit → Act → World → Prop} (hgd : o.guard = none) (d x : Operand) (dT sT : TypeId)
    (ho : o.op = .call { callee := .builtin .copy, args := #[d, x], argTypes := #[dT, sT] }) (elem : TypeId) (hu : P.underlying dT = some (.slice elem)) (hsz : (P.info? elem).map (·.size) = some 1)
    (dp : Option Addr) (dLen dCap : Nat) (s : ByteArray) (hd : a.eval d = .slice dp dLen dCap) (hx : a.eval x = .string s)
    (g off : Nat) (cur : List Value) (t : TypeId) (hg : w.heap[g]? = some (.cells cur.toArray t (0, 0))) (hpos : 0 < s.size → dp = some ⟨g, off, none⟩) (hle : s.size ≤ dLen) (hfit : off + s.size ≤ cur.length)
    (h : ∀ w', Hid (w'.heap[g]? = some (.cells (splice cur off (bcs s.data.toList)).toArray t (0, 0))) → Kept [g] w w' → wpList P ops Q rest (a.put o.dst (goInt s.size)) w') : wpList P ops Q (o :: rest) a w := by
  by_cases h0 : s.size = 0
  · have hs0 : s.data.toList = [] := List.eq_nil_of_length_eq_zero (by rw [← Lib.size_eq]; exact h0)
    refine wpList_plain hgd fun K hK => ?_
    have hrun := Lib.run_copy_empty_string (P := P) w dT sT o.type elem dp dLen dCap s hu (by cases hq : P.info? elem with | none => simp [hq] at hsz | some i => rfl) h0
    unfold Oper.wp
    simp [execOp, ho, resolve, invoke, builtin, hd, hx, hrun, Result.andThen]
    refine hK _ _ ?_
    rw [h0] at h
    exact h w (show _ = _ by rw [hs0]; simpa [splice, bcs] using hg) (Kept.refl _ _)
  · obtain rfl := hpos (by omega)
    refine wpList_plain hgd fun K hK => ?_
    have hrun := Lib.run_copy_row_string (P := P) w dT sT o.type elem g off dLen dCap s cur.toArray t hu hsz hg hle (by simpa using hfit)
    unfold Oper.wp
    simp [execOp, ho, resolve, invoke, builtin, hd, hx, hrun, Result.andThen]
    refine hK _ _ (h _ ?_ ((Kept.refl _ _).setRow (.inl (by simp)) _))
    have := setRow_heap w g cur.toArray (cur.take off ++ Lib.byteCells s.data.toList ++ cur.drop (off + s.size)).toArray t _ hg
    show _ = _
    rw [List.append_assoc] at this
    have e : splice cur off (bcs s.data.toList) = cur.take off ++ (Lib.byteCells s.data.toList ++ cur.drop (off + s.size)) := by
      rw [splice, bcs_length, ← Lib.size_eq]; rfl
    rw [e]
    simpa using this
/-- 'copy(dst, src)', two rows of one length: the row behind it is the source -/
theorem wpList_copy_all {P : Program} {w : World} {ops : Array Oper} {rest : List Oper} {o : Oper} {a : Act} {Q : Exit → Act → World → Prop} (hgd : o.guard = none) (d s : Operand) (dT sT : TypeId)
    (ho : o.op = .call { callee := .builtin .copy, args := #[d, s], argTypes := #[dT, sT] }) (elem : TypeId) (hu : P.underlying dT = some (.slice elem)) (hsz : (P.info? elem).map (·.size) = some 1)
    (g f n dCap sCap : Nat) (hd : a.eval d = .slice (some ⟨g, 0, none⟩) n dCap) (hs : a.eval s = .slice (some ⟨f, 0, none⟩) n sCap)
    (cur cs : List Value) (t t' : TypeId) (hg : w.heap[g]? = some (.cells cur.toArray t (0, 0))) (hf : w.heap[f]? = some (.cells cs.toArray t' (0, 0))) (hl : cur.length = n) (hc : cs.length = n) (h1 : ∀ v ∈ cs, v.oneCell' = true)
    (h : ∀ w', Hid (w'.heap[g]? = some (.cells cs.toArray t (0, 0))) → Kept [g] w w' → wpList P ops Q rest (a.put o.dst (goInt n)) w') : wpList P ops Q (o :: rest) a w := by
  refine wpList_copy_own hgd d s dT sT ho elem hu hsz g 0 n dCap ⟨f, 0, none⟩ n sCap hd hs cur.toArray t hg cs (by rw [hc]; exact (Nat.min_self n).symm) (fun j v hj => ?_) (by simp [hl, hc]) h1 ?_
  · have hadd : (⟨f, 0, none⟩ : Addr).add j = ⟨f, j, none⟩ := by unfold Addr.add; split <;> simp_all
    rw [hadd, cell_of_row w f j _ t' (0, 0) hf]
    simpa using hj
  · rw [hc]
    refine h _ ?_ ((Kept.refl _ _).setRow (.inl (by simp)) _)
    have := setRow_heap w g cur.toArray (cur.toArray.toList.take 0 ++ (cs ++ cur.toArray.toList.drop (0 + n))).toArray t _ hg
    show _ = _
    rw [this]
    have e : cur.drop n = [] := List.drop_eq_nil_of_le (by omega)
    simp [e]
theorem mem_zeroCells {z : Array Value} {n : Nat} (hz : 0 < z.size) : ∀ v ∈ (Builtin.zeroCells z n).toList, v ∈ z := fun v hv => by
  simp only [Builtin.zeroCells, Array.toList_map, List.mem_map] at hv
  obtain ⟨i, _, rfl⟩ := hv
  rw [getElem!_pos z (i % z.size) (Nat.mod_lt _ hz)]
  exact Array.getElem_mem _
theorem size_zeroCells (z : Array Value) (n : Nat) : (Builtin.zeroCells z n).toList.length = n * z.size := by simp [Builtin.zeroCells]
/-- a slice of the call's own, cut to no element -/
def cut0 : Value → Value
  | .slice a _ c => .slice a 0 c
  | v => v
/-- 'clear(s)' of a slice of the call's own: its cells turn, nothing else does -/
theorem run_clear_own {P : Program} {w : World} (t e ty : TypeId) (z : Value) (size : Nat) (ht : P.underlying t = some (.slice e)) (hv : ∀ w, (zeroValue e).run P w = .ok z w) (hzs : z.cells.size = size) (hsz : 0 < size) (h1 : ∀ v ∈ z.cells, v.oneCell' = true)
    {base : Nat} {v : Value} {n : Nat} {xs : List Value} (hown : w.ownsRow base e size v n xs) :
    ∃ w', (Builtin.clear_ #[t] ty #[v]).run P w = .ok (.tuple #[]) w' ∧ Kept v.ownBlock.toList w w' ∧ w'.ownsRow base e size (cut0 v) 0 [] := by
  rcases hown.2 with ⟨rfl, rfl⟩ | ⟨g, cap, cur, rfl, hb, hg, hn, hm, hs, hx⟩
  · exact ⟨w, by simp [Builtin.clear_, run_underlying ht], Kept.refl _ _, World.ownsRow_nil _ _ _ _⟩
  · cases n with
    | zero => exact ⟨w, by simp [Builtin.clear_, run_underlying ht], Kept.refl _ _, ⟨by simp, .inr ⟨g, cap, cur, rfl, hb, hg, Nat.zero_le _, hm, hs, by simp⟩⟩⟩
    | succ n =>
      have hl := size_zeroCells z.cells (n + 1)
      rw [hzs] at hl
      have hst := run_storeCells_at P g 0 e (Builtin.zeroCells z.cells (n + 1)).toList 0 cur w hg (by rw [hl, hs]; simpa using Nat.mul_le_mul_right size hn) (fun v hv => h1 v (mem_zeroCells (by omega) v hv))
      obtain ⟨R, hR⟩ : ∃ R, (List.take (0 + 0) cur.toList ++ (Builtin.zeroCells z.cells (n + 1)).toList ++ List.drop (0 + 0 + (Builtin.zeroCells z.cells (n + 1)).toList.length) cur.toList).toArray = R := ⟨_, rfl⟩
      rw [hR] at hst
      refine ⟨w.setRow g R, by simp [Builtin.clear_, run_underlying ht, hv, hst], (Kept.refl _ _).setRow (.inl (by simp [Value.ownBlock])) _, ⟨by simp, .inr ⟨g, cap, R, rfl, hb, setRow_heap w g _ R e _ hg, Nat.zero_le _, hm, ?_, by simp⟩⟩⟩
      have := Nat.mul_le_mul_right size hn
      rw [← hR]
      simp only [Nat.add_zero, Nat.zero_add, hl, List.take_zero, List.nil_append, List.size_toArray, List.length_append, List.length_drop, Array.length_toList, hs]
      omega
theorem wpList_clear_own {P : Program} {w : World} {ops : Array Oper} {rest : List Oper} {o : Oper} {a : Act} {Q : Exit → Act → World → Prop} (hgd : o.guard = none) (d : Operand) (t : TypeId)
    (ho : o.op = .call { callee := .builtin .clear, args := #[d], argTypes := #[t] }) (e : TypeId) (z : Value) (size : Nat) (ht : P.underlying t = some (.slice e)) (hv : ∀ w, (zeroValue e).run P w = .ok z w) (hzs : z.cells.size = size) (hsz : 0 < size) (h1 : ∀ v ∈ z.cells, v.oneCell' = true)
    {base : Nat} (v : Value) {n : Nat} {xs : List Value} (hd : a.eval d = v) (hown : w.ownsRow base e size v n xs)
    (h : ∀ w', Kept v.ownBlock.toList w w' → w'.ownsRow base e size (cut0 v) 0 [] → wpList P ops Q rest (a.put o.dst (.tuple #[])) w') : wpList P ops Q (o :: rest) a w := by
  refine wpList_plain hgd fun K hK => ?_
  obtain ⟨w', hrun, h2, h3⟩ := run_clear_own (P := P) t e o.type z size ht hv hzs hsz h1 hown
  unfold Oper.wp
  simp [execOp, ho, resolve, invoke, builtin, hd, hrun, Result.andThen]
  exact hK _ _ (h w' h2 h3)
theorem own_mem {v : Value} {k : Nat} (h : k ∈ v.ownBlock.toList) : v.ownBlock = some k := by simpa using h
theorem mem_own {v : Value} {k : Nat} (h : v.ownBlock = some k) : k ∈ v.ownBlock.toList := by simpa using h
theorem cells5 {w : World} {g : Nat} {c0 c1 c2 c3 c4 : Value} {t : TypeId} (h : w.heap[g]? = some (.cells #[c0, c1, c2, c3, c4] t (0, 0))) :
    w.cell? ⟨g, 0, none⟩ = some c0 ∧ w.cell? ⟨g, 1, none⟩ = some c1 ∧ w.cell? ⟨g, 2, none⟩ = some c2 ∧ w.cell? ⟨g, 3, none⟩ = some c3 ∧ w.cell? ⟨g, 4, none⟩ = some c4 :=
  ⟨cell_of_row w g 0 _ t (0, 0) h, cell_of_row w g 1 _ t (0, 0) h, cell_of_row w g 2 _ t (0, 0) h, cell_of_row w g 3 _ t (0, 0) h, cell_of_row w g 4 _ t (0, 0) h⟩
end Go.Proofs.Ytgopadbdnndkiaa
namespace Go.Proofs.Ytgopadbdnndkiaa
open Go.RowKit
section
variable {P : Program} {w : World} {ops : Array Oper} {rest : List Oper} {o : Oper} {a : Act} {Q : Exit → Act → World → Prop}
theorem new_block_cells (w : World) (ys : Array Value) (e : TypeId) : ∀ j u, ys.toList[j]? = some u → (w.alloc (.cells ys e)).cell? ((⟨w.heap.size, 0, none⟩ : Addr).add j) = some u := fun j u hj => by
  have hadd : (⟨w.heap.size, 0, none⟩ : Addr).add j = ⟨w.heap.size, j, none⟩ := by unfold Addr.add; split <;> simp_all
  rw [hadd, cell_of_row _ _ j ys e (0, 0) (heap_alloc_new w _)]
  simpa using hj
theorem grown_kept {w w' : World} {ys : Array Value} {e : TypeId} {v : Value} (h : (w.alloc (.cells ys e)).grownBy w' v.ownBlock) : Kept v.ownBlock.toList w w' :=
  ((Kept.refl _ w).alloc _).grown h (fun _ hk => .inl (mem_own hk))
theorem wpList_append1 (hgd : o.guard = none) (s x : Operand) (t : TypeId) (ho : o.op = .call { callee := .builtin .append, args := #[s, x], argTypes := #[t, t] })
    (base : Nat) (e : TypeId) (i : TypeInfo) (z : Value) (size bytes : Nat) (ht : P.underlying t = some (.slice e)) (hi : P.info? e = some i) (hz : i.zero = some z)
    (hsize : i.size = size) (hby : i.bytes = bytes) (hzs : z.cells.size = size) (hsz : 0 < size) (hb64 : bytes ≤ 64) (v : Value) (n : Nat) (xs : List Value) (hs : a.eval s = v) (hown : w.ownsRow base e size v n xs)
    (ys : Array Value) (hx : a.eval x = .slice (some ⟨w.heap.size, 0, none⟩) 1 1) (hys : ys.size = size) (h1 : ∀ u ∈ ys.toList, u.oneCell' = true) (hn : n ≤ 1000000) (hbase : base ≤ w.heap.size)
    (h : ∀ g c w', w'.ownsRow base e size (.slice (some ⟨g, 0, none⟩) (n + 1) c) (n + 1) (xs ++ ys.toList) → Kept v.ownBlock.toList w w' → (v.ownBlock = some g ∨ w.heap.size ≤ g) → wpList P ops Q rest (a.put o.dst (.slice (some ⟨g, 0, none⟩) (n + 1) c)) w') :
    wpList P ops Q (o :: rest) a (w.alloc (.cells ys e)) := by
  refine wpList_append_lies _ hgd s x t ho base e i z size bytes ht hi hz hsize hby hzs hsz v n xs hs (hown.alloc _) ⟨w.heap.size, 0, none⟩ 1 1 ys.toList hx (by rw [Array.length_toList, hys, Nat.one_mul]) (new_block_cells w ys e) h1 (by omega) (by unfold maxLen; omega)
    (Nat.le_trans (Nat.mul_le_mul (show n + 1 ≤ 1000001 by omega) hb64) (by omega)) (by simp; omega) (w.heap.size + 1) (by simp) ?_
  intro g c w' h2 h3 h4 _
  exact h g c w' h2 (grown_kept h3) (by rcases h4 with h4 | h4; exact .inl h4; exact .inr (by omega))
theorem step_append1 {K : Act → World → Prop} {E : Prop} (hgd : o.guard = none) (s x : Operand) (t : TypeId) (ho : o.op = .call { callee := .builtin .append, args := #[s, x], argTypes := #[t, t] })
    (base : Nat) (e : TypeId) (i : TypeInfo) (z : Value) (size bytes : Nat) (ht : P.underlying t = some (.slice e)) (hi : P.info? e = some i) (hz : i.zero = some z)
    (hsize : i.size = size) (hby : i.bytes = bytes) (hzs : z.cells.size = size) (hsz : 0 < size) (hb64 : bytes ≤ 64) (v : Value) (n : Nat) (xs : List Value) (hs : a.eval s = v) (hown : w.ownsRow base e size v n xs)
    (g0 : Nat) (ys : List Value) (hx : a.eval x = .slice (some ⟨g0, 0, none⟩) 1 1) (hys : ys.length = size) (hc : ∀ j u, ys[j]? = some u → w.cell? ⟨g0, j, none⟩ = some u) (h1 : ∀ u ∈ ys, u.oneCell' = true) (hn : n ≤ 1000000) (hbase : base ≤ w.heap.size)
    (h : ∀ g c w', w'.ownsRow base e size (.slice (some ⟨g, 0, none⟩) (n + 1) c) (n + 1) (xs ++ ys) → Kept v.ownBlock.toList w w' → (v.ownBlock = some g ∨ w.heap.size ≤ g) → K (a.put o.dst (.slice (some ⟨g, 0, none⟩) (n + 1) c)) w') :
    if Region.wanted o (yielded ops a.tmps) = true then Oper.wp P o a w K Q else E := by
  refine step_append_lies _ hgd s x t ho base e i z size bytes ht hi hz hsize hby hzs hsz v n xs hs hown ⟨g0, 0, none⟩ 1 1 ys hx (by rw [hys, Nat.one_mul]) (fun j u hj => ?_) h1 (by omega) (by unfold maxLen; omega)
    (Nat.le_trans (Nat.mul_le_mul (show n + 1 ≤ 1000001 by omega) hb64) (by omega)) hbase w.heap.size rfl ?_
  · have hadd : (⟨g0, 0, none⟩ : Addr).add j = ⟨g0, j, none⟩ := by unfold Addr.add; split <;> simp_all
    rw [hadd]; exact hc j u hj
  · intro g c w' h2 h3 h4 _
    exact h g c w' h2 ((Kept.refl _ w).grown h3 (fun k hk => .inl (mem_own hk))) (by rcases h4 with h4 | h4; exact .inl h4; exact .inr (by omega))
end
/-- the first k elements of a row -/
theorem own_prefix {w : World} {base g n c k size : Nat} {e : TypeId} {xs : List Value} (h : w.ownsRow base e size (.slice (some ⟨g, 0, none⟩) n c) n xs) (hk : k ≤ n) : w.ownsRow base e size (.slice (some ⟨g, 0, none⟩) k c) k (xs.take (k * size)) := by
  rcases h.2 with ⟨h', _⟩ | ⟨g', cap, cur, h', hb, hg, hn, hm, hs, ht⟩
  · cases h'
  · injection h' with e1 e2 e3
    injection e1 with e1
    injection e1 with e1
    subst e1 e3
    have hks : k * size ≤ n * size := Nat.mul_le_mul_right _ hk
    refine ⟨by rw [List.length_take, h.1]; omega, .inr ⟨g, c, cur, rfl, hb, hg, by omega, hm, hs, ?_⟩⟩
    rw [← ht, List.take_take, Nat.min_eq_left hks]
/-- strings as values -/
def svs (l : List ByteArray) : List Value := l.map fun s => Value.string s
theorem svs_length (l : List ByteArray) : (svs l).length = l.length := List.length_map _
theorem svs_append (a b : List ByteArray) : svs (a ++ b) = svs a ++ svs b := List.map_append
/-- a list of strings in memory -/
def StrsAt (w : World) (A : Option Addr) (l : List ByteArray) : Prop := ∀ i, i < l.length → ∃ b o, A = some ⟨b, o, none⟩ ∧ w.cell? ⟨b, o + i, none⟩ = some (.string (l.getD i ⟨#[]⟩))
theorem StrsAt.then_ {w w' : World} {A : Option Addr} {l : List ByteArray} (h : StrsAt w A l) (hb : Below w.heap.size w w') : StrsAt w' A l := fun i hi => by
  obtain ⟨b, o, hA, hc⟩ := h i hi
  exact ⟨b, o, hA, cell_then hb hc⟩
theorem strs_of_own {w : World} {base g cap n : Nat} {e : TypeId} {l : List ByteArray} (h : w.ownsRow base e 1 (.slice (some ⟨g, 0, none⟩) n cap) n (svs l)) : StrsAt w (some ⟨g, 0, none⟩) l := fun i hi => by
  have hl := h.1
  rw [svs_length, Nat.mul_one] at hl
  refine ⟨g, 0, rfl, ?_⟩
  rw [Nat.zero_add, h.cellAt i (by omega), svs, List.getElem?_map, List.getElem?_eq_getElem hi]
  simp [List.getD, List.getElem?_eq_getElem hi]
end Go.Proofs.Ytgopadbdnndkiaa
namespace Go.Proofs.Ytgopadbdnndkiaa.Pt
open Go.RowKit Str
attribute [local go_sem] Oper.semAt_some run_max_int4
/-- a stroke: its person, its number, its dots and where they lie -/
structure Stk where
  P : Int
  N : Int
  A : Option Addr
  c : Nat
  D : List Dot
instance : Inhabited Stk := ⟨⟨0, 0, none, 0, []⟩⟩
def stk0 : Stk := ⟨0, 0, none, 0, []⟩
structure StkAt (w : World) (b o : Nat) (s : Stk) : Prop where
  p : w.cell? ⟨b, o, none⟩ = some (.int .i64 s.P)
  n : w.cell? ⟨b, o + 1, none⟩ = some (.int .i64 s.N)
  d : w.cell? ⟨b, o + 2, none⟩ = some (.slice s.A s.D.length s.c)
  dots : Dots w s.A s.D
/-- a page in memory -/
def PageAt (w : World) (A : Option Addr) (l : List Stk) : Prop := ∀ i, i < l.length → ∃ b o, A = some ⟨b, o, none⟩ ∧ StkAt w b (o + i * 3) (l.getD i stk0)
theorem StkAt.then_ {w w' : World} {b o : Nat} {s : Stk} (h : StkAt w b o s) (hb : Below w.heap.size w w') : StkAt w' b o s := ⟨cell_then hb h.p, cell_then hb h.n, cell_then hb h.d, h.dots.below hb⟩
theorem PageAt.then_ {w w' : World} {A : Option Addr} {l : List Stk} (h : PageAt w A l) (hb : Below w.heap.size w w') : PageAt w' A l := fun i hi => by
  obtain ⟨b, o, h1, h2⟩ := h i hi
  exact ⟨b, o, h1, h2.then_ hb⟩
/-- the code of a valid stroke -/
def codeI (s : Stk) : Int := 1000 * s.P + s.N
/-- what is right of a valid page -/
structure PageOk (l : List Stk) : Prop where
  len : l.length ≤ 9
  each : ∀ i, i < l.length → validB (l.getD i stk0).P (l.getD i stk0).N (l.getD i stk0).D = true
  cap : ∀ i, i < l.length → (l.getD i stk0).D.length ≤ (l.getD i stk0).c
  asc : ∀ i, i + 1 < l.length → codeI (l.getD i stk0) < codeI (l.getD (i + 1) stk0)
theorem vstr {P N : Int} {D : List Dot} (h : validB P N D = true) : (0 ≤ P ∧ P ≤ 39) ∧ (1 ≤ N ∧ N ≤ 999) ∧ 1 ≤ D.length ∧ D.length ≤ 200 := by
  have h1 := h
  rw [validB, Bool.and_eq_true, headB_iff] at h1
  obtain ⟨⟨⟨p1, p2⟩, ⟨p3, p4⟩, p5, p6⟩, _⟩ := h1
  exact ⟨⟨p1, p2⟩, ⟨p3, p4⟩, by omega, by omega⟩
/-- the gap of two places -/
def gapI (ax ay bx b_y : Int) : Int := maxI (maxI (maxI (ax - bx) (bx - ax)) (ay - b_y)) (b_y - ay)
theorem gapI_bd {ax ay bx b_y : Int} (h1 : 0 ≤ ax ∧ ax ≤ 4095) (h2 : 0 ≤ ay ∧ ay ≤ 4095) (h3 : 0 ≤ bx ∧ bx ≤ 4095) (h4 : 0 ≤ b_y ∧ b_y ≤ 4095) : 0 ≤ gapI ax ay bx b_y ∧ gapI ax ay bx b_y ≤ 4095 := by
  unfold gapI maxI
  split <;> split <;> split <;> omega
theorem gap_any (ax ay bx b_y : Int) (w : World) (h1 : 0 ≤ ax ∧ ax ≤ 4095) (h2 : 0 ≤ ay ∧ ay ≤ 4095) (h3 : 0 ≤ bx ∧ bx ≤ 4095) (h4 : 0 ≤ b_y ∧ b_y ≤ 4095) : Calls Try.prog 32 #[pv ax ay, pv bx b_y] w fun e w' => e = .returned (.int .i64 (gapI ax ay bx b_y)) ∧ Below w.heap.size w w' := by
  obtain ⟨p1, p2⟩ := h1
  obtain ⟨p3, p4⟩ := h2
  obtain ⟨p5, p6⟩ := h3
  obtain ⟨p7, p8⟩ := h4
  unfold pv
  go_enter Try.func32, Try.ntmps32
  go_wp2_with fail
  go_ret
  exact ⟨rfl, below_alloc (below_alloc (Below.refl _ _) _) _⟩
theorem isIn_any (n lo hi : Int) (w : World) : Calls Try.prog 37 #[.int .i64 n, .int .i64 lo, .int .i64 hi] w fun e w' => e = .returned (.bool (isInB n lo hi)) ∧ w = w' := by
  by_cases h1 : lo ≤ n
  · by_cases h2 : n ≤ hi
    · rw [show isInB n lo hi = true from isInB_iff.2 ⟨h1, h2⟩]
      go_enter Try.func37, Try.ntmps37
      go_wp2_with fail
      go_ret
      exact ⟨rfl, rfl⟩
    · rw [show isInB n lo hi = false by simp [isInB, h2]]
      go_enter Try.func37, Try.ntmps37
      go_wp2_with fail
      go_ret
      exact ⟨rfl, rfl⟩
  · rw [show isInB n lo hi = false by simp [isInB, h1]]
    go_enter Try.func37, Try.ntmps37
    go_wp2_with fail
    go_ret
    exact ⟨rfl, rfl⟩
theorem place_any (x y : Int) (w : World) : Calls Try.prog 40 #[pv x y] w fun e w' => e = .returned (.bool (placeB x y)) ∧ Below w.heap.size w w' := by
  unfold pv
  cases hx : isInB x 0 4095 with
  | true =>
    rw [show placeB x y = isInB y 0 4095 by rw [placeB, hx, Bool.true_and]]
    go_enter Try.func40, Try.ntmps40
    go_wp2_with fail
    refine (isIn_any _ _ _ _).mono ?_
    rintro e w1 ⟨rfl, rfl⟩
    rw [hx]
    go_wp2_with fail
    refine (isIn_any _ _ _ _).mono ?_
    rintro e w1 ⟨rfl, rfl⟩
    go_wp2_with fail
    go_ret
    exact ⟨rfl, below_alloc (Below.refl _ _) _⟩
  | false =>
    rw [show placeB x y = false by rw [placeB, hx, Bool.false_and]]
    go_enter Try.func40, Try.ntmps40
    go_wp2_with fail
    refine (isIn_any _ _ _ _).mono ?_
    rintro e w1 ⟨rfl, rfl⟩
    rw [hx]
    go_wp2_with fail
    go_ret
    exact ⟨rfl, below_alloc (Below.refl _ _) _⟩
theorem placeB_of {x y : Int} (h1 : 0 ≤ x ∧ x ≤ 4095) (h2 : 0 ≤ y ∧ y ≤ 4095) : placeB x y = true := by
  rw [placeB, isInB_iff.2 h1, isInB_iff.2 h2]; rfl
/-- Gap of two places on the board -/
theorem pgap_any (ax ay bx b_y : Int) (w : World) (h1 : 0 ≤ ax ∧ ax ≤ 4095) (h2 : 0 ≤ ay ∧ ay ≤ 4095) (h3 : 0 ≤ bx ∧ bx ≤ 4095) (h4 : 0 ≤ b_y ∧ b_y ≤ 4095) : Calls Try.prog 21 #[pv ax ay, pv bx b_y] w fun e w' => e = .returned (.int .i64 (gapI ax ay bx b_y)) ∧ Below w.heap.size w w' := by
  have q1 := placeB_of h1 h2
  have q2 := placeB_of h3 h4
  have H1 := Lib.hid q1
  have H2 := Lib.hid q2
  have HG := Lib.hid (fun W => gap_any ax ay bx b_y W h1 h2 h3 h4)
  have hp := place_any
  unfold pv at HG hp ⊢
  have HP := Lib.hid hp
  clear q1 q2 h1 h2 h3 h4 hp
  go_enter Try.func21, Try.ntmps21
  go_wp2_with fail
  refine (HP.out _ _ _).mono ?_
  rintro e w1 ⟨rfl, b1⟩
  rw [H1.out]
  have e0 : w1.cell? ⟨w.heap.size, 0, none⟩ = some (.int .i64 ax) := cell_then b1 (by simp [go_sem])
  have e1 : w1.cell? ⟨w.heap.size, 1, none⟩ = some (.int .i64 ay) := cell_then b1 (by simp [go_sem])
  have f0 : w1.cell? ⟨w.heap.size + 1, 0, none⟩ = some (.int .i64 bx) := cell_then b1 (by simp [go_sem])
  have f1 : w1.cell? ⟨w.heap.size + 1, 1, none⟩ = some (.int .i64 b_y) := cell_then b1 (by simp [go_sem])
  have B1 := below_next (below_alloc (below_alloc (Below.refl w.heap.size w) _) _) b1
  clear b1
  go_wp2_with fail
  refine (HP.out _ _ _).mono ?_
  rintro e w2 ⟨rfl, b2⟩
  rw [H2.out]
  have e0 := cell_then b2 e0
  have e1 := cell_then b2 e1
  have f0 := cell_then b2 f0
  have f1 := cell_then b2 f1
  have B2 := below_next B1 b2
  clear b2
  go_wp2_with fail
  refine (HG.out _).mono ?_
  rintro e w3 ⟨rfl, b3⟩
  go_wp2_with fail
  go_ret
  exact ⟨rfl, below_next B2 b3⟩
/-- places as cells -/
def pcs (l : List (Int × Int)) : List Value := l.flatMap fun p => [.int .i64 p.1, .int .i64 p.2]
theorem pcs_length (l : List (Int × Int)) : (pcs l).length = l.length * 2 := by
  induction l with
  | nil => rfl
  | cons a t ih => simp only [pcs, List.flatMap_cons, List.length_append, List.length_cons, List.length_nil] at ih ⊢; omega
theorem pcs_append (a b : List (Int × Int)) : pcs (a ++ b) = pcs a ++ pcs b := by simp [pcs]
theorem pcs_get : ∀ (l : List (Int × Int)) (i : Nat), i < l.length → (pcs l)[i * 2]? = some (.int .i64 (l.getD i (0, 0)).1) ∧ (pcs l)[i * 2 + 1]? = some (.int .i64 (l.getD i (0, 0)).2)
  | [], i, h => by simp at h
  | a :: t, 0, _ => ⟨rfl, rfl⟩
  | a :: t, i + 1, h => by
    have := pcs_get t i (by simpa using h)
    have e : pcs (a :: t) = .int .i64 a.1 :: .int .i64 a.2 :: pcs t := rfl
    rw [e, show (i + 1) * 2 = i * 2 + 1 + 1 by omega]
    simpa using this
/-- places in memory -/
def PlsAt (w : World) (g : Nat) (l : List (Int × Int)) : Prop := ∀ i, i < l.length → w.cell? ⟨g, i * 2, none⟩ = some (.int .i64 (l.getD i (0, 0)).1) ∧ w.cell? ⟨g, i * 2 + 1, none⟩ = some (.int .i64 (l.getD i (0, 0)).2)
theorem PlsAt.then_ {w w' : World} {g : Nat} {l : List (Int × Int)} (h : PlsAt w g l) (hb : Below w.heap.size w w') : PlsAt w' g l := fun i hi => ⟨cell_then hb (h i hi).1, cell_then hb (h i hi).2⟩
theorem pls_of_own {w : World} {base g cap n : Nat} {e : TypeId} {l : List (Int × Int)} (h : w.ownsRow base e 2 (.slice (some ⟨g, 0, none⟩) n cap) n (pcs l)) : PlsAt w g l := fun i hi => by
  have hl := h.1
  rw [pcs_length] at hl
  obtain ⟨h1, h2⟩ := pcs_get l i hi
  exact ⟨(h.cellAt (i * 2) (by omega)).trans h1, (h.cellAt (i * 2 + 1) (by omega)).trans h2⟩
end Go.Proofs.Ytgopadbdnndkiaa.Pt
