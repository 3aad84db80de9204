/- What Bounds asks of a table and a cost, in plain Lean; what follows of it. No program stands here. Leaving a function behind several loops over functions: each has left a block for deferred calls, and none was deferred. No program stands here. Package plot: Bounds. -/
import Derived.IntWalk
import Derived.Test.YtgopadbdnndkiaaPh
import Derived.Test.YtgopadbdnndkiaaPc
import Derived.WalkMore
namespace Go.Proofs.Ytgopadbdnndkiaa.Plt
open Go.RowKit
section
variable (n : Nat) (g : Nat → Nat → Int) (T : Nat → Int)
/-- a number is not more than the gap to a ride, and what the table says of it -/
def stepB (v : Int) (last set r : Nat) : Bool := decide (v ≤ wrap64 (g last r + T (18 * put set r + r)))
/-- what is asked of one state -/
def chkS (i : Nat) : Bool :=
  (decide (0 ≤ T i ∧ T i ≤ 100000)) && (if (i / 18).testBit (i % 18 / 2) = false then T i == 0 else (!(i / 18 == 2 ^ n - 1) || T i == 0) && (leftL n (i / 18)).all (stepB g T (T i) (i % 18) (i / 18)))
/-- what Bounds returns -/
def boundsB (cost : Int) : Bool := (List.range (18 * 2 ^ n)).all (chkS n g T) && ((leftL n 0).all (stepB g T cost 18 0) && (decide (0 < n) || decide (cost ≤ 0)))
variable {n g T}
theorem boundsB_iff {cost : Int} : boundsB n g T cost = true ↔ (∀ i, i < 18 * 2 ^ n → chkS n g T i = true) ∧ (∀ r ∈ leftL n 0, stepB g T cost 18 0 r = true) ∧ (0 < n ∨ cost ≤ 0) := by
  simp [boundsB]
theorem chkS_range {i : Nat} (h : chkS n g T i = true) : 0 ≤ T i ∧ T i ≤ 100000 := by
  simp only [chkS, Bool.and_eq_true, decide_eq_true_eq] at h
  exact h.1
theorem stepB_iff (hg : ∀ i k, i < 19 → k < 18 → 0 ≤ g i k ∧ g i k ≤ 4095) {v : Int} {last set r : Nat} (hl : last < 19) (hr : r < 18) (hT : 0 ≤ T (18 * put set r + r) ∧ T (18 * put set r + r) ≤ 100000) :
    stepB g T v last set r = true ↔ v ≤ g last r + T (18 * put set r + r) := by
  have h1 := hg last r hl hr
  rw [stepB, IntWalk.wrap64_in _ (by omega), decide_eq_true_eq]
theorem put_row {n set r : Nat} (hs : set < 2 ^ n) (hr : r < 2 * n) (hn : n ≤ 9) : 18 * put set r + r < 18 * 2 ^ n := by
  have := put_lt hs hr
  omega
theorem bounds_sound (hn : n ≤ 9) (hg : ∀ i k, i < 19 → k < 18 → 0 ≤ g i k ∧ g i k ≤ 4095) {cost : Int} (h : boundsB n g T cost = true) : Sound n g T ∧ (∀ r ∈ leftL n 0, cost ≤ g 18 r + T (18 * put 0 r + r)) ∧ (0 < n ∨ cost ≤ 0) := by
  obtain ⟨h1, h2, h3⟩ := boundsB_iff.1 h
  have hrow : ∀ {set r : Nat}, set < 2 ^ n → r ∈ leftL n set → 0 ≤ T (18 * put set r + r) ∧ T (18 * put set r + r) ≤ 100000 := fun {set r} hs hr =>
    chkS_range (h1 _ (put_row hs (mem_left.1 hr).1 hn))
  refine ⟨⟨fun last hb hl => ?_, fun set last r hs hl hb hr => ?_⟩, fun r hr => ?_, h3⟩
  · have hp := Nat.two_pow_pos n
    have hc := h1 (18 * (2 ^ n - 1) + last) (by omega)
    simp only [chkS, Bool.and_eq_true] at hc
    rw [show (18 * (2 ^ n - 1) + last) / 18 = 2 ^ n - 1 by omega, show (18 * (2 ^ n - 1) + last) % 18 = last by omega, if_neg (by rw [hb]; simp)] at hc
    have := hc.2
    simp only [Bool.and_eq_true] at this
    simpa using this.1
  · have hc := h1 (18 * set + last) (by omega)
    simp only [chkS, Bool.and_eq_true] at hc
    rw [show (18 * set + last) / 18 = set by omega, show (18 * set + last) % 18 = last by omega, if_neg (by rw [hb]; simp)] at hc
    have := hc.2
    simp only [Bool.and_eq_true, List.all_eq_true] at this
    exact (stepB_iff hg (by omega) (by have := (mem_left.1 hr).1; omega) (hrow hs hr)).1 (this.2 r hr)
  · exact (stepB_iff hg (by omega) (by have := (mem_left.1 hr).1; omega) (hrow (Nat.two_pow_pos n) hr)).1 (h2 r hr)
/-- no right rides are less than what Bounds accepts -/
theorem bounds_least (hn : n ≤ 9) (hg : ∀ i k, i < 19 → k < 18 → 0 ≤ g i k ∧ g i k ≤ 4095) {cost : Int} (h : boundsB n g T cost = true) {l : List Nat} (hr : Right n 0 l) : cost ≤ pathC g 18 l := by
  obtain ⟨h1, h2, h3⟩ := bounds_sound hn hg h
  exact sound_cost n g h1 hn h2 h3 hr
/-- Bounds accepts the table of the costs, with a cost that is not more than the best -/
theorem bounds_tab (hn : n ≤ 9) (hg : ∀ i k, i < 19 → k < 18 → 0 ≤ g i k ∧ g i k ≤ 4095) {cost : Int} : boundsB n g (tab n g) cost = true ↔ cost ≤ val n g 0 18 := by
  constructor
  · intro h
    have h1 := bounds_least hn hg h (best_right n g n 0 18 (cnt_le n 0)).1
    rwa [(best_right n g n 0 18 (cnt_le n 0)).2] at h1
  · intro h
    have hb := fun i => tab_bd n g hn hg i
    have hs := tab_sound n g hn
    refine boundsB_iff.2 ⟨fun i hi => ?_, fun r hr => ?_, ?_⟩
    · have hi2 : i = 18 * (i / 18) + i % 18 := by omega
      have hset : i / 18 < 2 ^ n := by omega
      have hlast : i % 18 < 18 := by omega
      simp only [chkS, Bool.and_eq_true, decide_eq_true_eq]
      refine ⟨by have := hb i; omega, ?_⟩
      split
      · next hbit =>
        rw [beq_iff_eq, tab, if_neg (by rw [hbit]; simp)]
      · next hbit =>
        have hbit : (i / 18).testBit (i % 18 / 2) = true := by simpa using hbit
        simp only [Bool.and_eq_true, List.all_eq_true]
        refine ⟨?_, fun r hr => ?_⟩
        · by_cases e : i / 18 = 2 ^ n - 1
          · have h1 := hs.full (i % 18) (by rw [← e]; exact hbit) hlast
            rw [← e, ← hi2] at h1
            simp [h1]
          · simp [e]
        · rw [stepB_iff hg (by omega) (by have := (mem_left.1 hr).1; omega) (by have := hb (18 * put (i / 18) r + r); omega)]
          have h1 := hs.step (i / 18) (i % 18) r hset hlast hbit hr
          rwa [← hi2] at h1
    · rw [stepB_iff hg (by omega) (by have := (mem_left.1 hr).1; omega) (by have := hb (18 * put 0 r + r); omega), tab_put n g hr hn]
      have := val_le n g (last := 18) hr
      omega
    · by_cases hz : n = 0
      · subst hz
        refine .inr ?_
        have : val 0 g 0 18 = 0 := val_end 0 g rfl
        omega
      · exact .inl (by omega)
end
end Go.Proofs.Ytgopadbdnndkiaa.Plt
namespace Go.Proofs.Ytgopadbdnndkiaa
open Go.RowKit
/-- the deferred entry of a loop over a function -/
def marks (Ds : List Nat) : List Deferred := Ds.map fun D => { target := .collected D, args := #[] }
/-- the blocks of the loops, empty -/
structure MarksAt (W : World) (B : Nat) (Ds : List Nat) : Prop where
  nodup : Ds.Nodup
  at_ : ∀ D ∈ Ds, B ≤ D ∧ W.heap[D]? = some (.deferred (some []))
theorem MarksAt.nil (W : World) (B : Nat) : MarksAt W B [] := ⟨List.nodup_nil, fun D h => by cases h⟩
theorem MarksAt.kept {W W' : World} {B : Nat} {Ds S : List Nat} (h : MarksAt W B Ds) (k : Kept S W W') (hS : ∀ D ∈ Ds, D ∉ S) : MarksAt W' B Ds :=
  ⟨h.nodup, fun D hD => ⟨(h.at_ D hD).1, k.heap (h.at_ D hD).2 (hS D hD)⟩⟩
theorem MarksAt.cons {W W' : World} {B D : Nat} {Ds : List Nat} (h : MarksAt W B Ds) (hb : ∀ D ∈ Ds, W'.heap[D]? = W.heap[D]?) (hB : B ≤ D) (hlt : ∀ D' ∈ Ds, D' < D) (hD : W'.heap[D]? = some (.deferred (some []))) : MarksAt W' B (D :: Ds) := by
  refine ⟨List.nodup_cons.2 ⟨fun e => by have := hlt D e; omega, h.nodup⟩, fun D' hD' => ?_⟩
  rcases List.mem_cons.1 hD' with e | e
  · subst e; exact ⟨hB, hD⟩
  · exact ⟨(h.at_ D' e).1, (hb D' e).trans (h.at_ D' e).2⟩
theorem MarksAt.lt {W : World} {B : Nat} {Ds : List Nat} (h : MarksAt W B Ds) : ∀ D ∈ Ds, D < W.heap.size := fun D hD => heap_lt (h.at_ D hD).2
theorem kept_putObj {S : List Nat} {a b : World} (h : Kept S a b) {l : Nat} (hl : l ∈ S ∨ a.heap.size ≤ l) (o : Obj) : Kept S a (b.putObj l o) :=
  ⟨h.os, h.tape, h.output, by have := h.size; simpa using this, fun k hk hn => (World.putObj_heap_other (fun e => by subst e; rcases hl with hl | hl; exact hn hl; omega)).trans (h.block k hk hn)⟩
/-- what a return owes behind such loops -/
theorem leaves_marks {P : Program} {fn : Func} {tmps : Array Value} {R : Ending → World → Prop} {B : Nat} : ∀ {Ds : List Nat} {W : World}, MarksAt W B Ds →
    (∀ W', Kept Ds W W' → ∃ v, (results fn tmps).run P W' = .ok v W' ∧ R (.returned v) W') → LeavesInM Fence.wide 0 P fn tmps R (marks Ds) .returning W
  | [], W, _, h => h W (Kept.refl _ _)
  | D :: Ds, W, hm, h => by
    have hD := (hm.at_ D (by simp)).2
    have hn := List.nodup_cons.1 hm.nodup
    refine ⟨by simp, .inl ⟨D, W.putObj D (.deferred none), rfl, run_takeDeferred hD, ?_⟩⟩
    have hk : Kept [D] W (W.putObj D (.deferred none)) := kept_putObj (Kept.refl _ _) (.inl (by simp)) _
    refine leaves_marks (B := B) (Ds := Ds) ⟨hn.2, fun D' hD' => ⟨(hm.at_ D' (by simp [hD'])).1, hk.heap (hm.at_ D' (by simp [hD'])).2 (by simp; exact fun e => hn.1 (e ▸ hD'))⟩⟩ (fun W' hk' => h W' ?_)
    exact (hk.mono (by simp)).trans (hk'.mono (fun k hk => by simp [hk])) (New.refl _ _)
end Go.Proofs.Ytgopadbdnndkiaa
namespace Go.Proofs.Ytgopadbdnndkiaa.Pt
open Go.RowKit Str
attribute [local go_sem] Oper.semAt_some
/-- the state of a loop over the rides that are left, which returns where a test fails -/
structure BnJ (W6 : World) (l : Nat) (rec : LoopState → Option Code → Obj) (St : Nat → Bool) (set : Nat) (k : Nat) (W : World) : Prop where
  kept : Kept [l + 1] W6 W
  rd : W.heap[l + 1]? = some (rec .ready none)
  ok : ∀ r, r < k → set.testBit (r / 2) = false → St r = true
/-- it has returned -/
structure BnF (W6 : World) (l b6 n : Nat) (rec : LoopState → Option Code → Obj) (St : Nat → Bool) (set : Nat) (W : World) : Prop where
  kept : Kept [b6, l + 1] W6 W
  dn : W.heap[l + 1]? = some (rec .done (some .ret))
  bx : Boxed W b6 4 (.bool false)
  bad : ∃ r ∈ Plt.leftL n set, St r = false
theorem BnJ.skip {W6 : World} {l : Nat} {rec : LoopState → Option Code → Obj} {St : Nat → Bool} {set k : Nat} {W : World} (h : BnJ W6 l rec St set k W) (hb : set.testBit (k / 2) = true) : BnJ W6 l rec St set (k + 1) W :=
  ⟨h.kept, h.rd, fun r hr ht => by
    rcases Nat.lt_succ_iff_lt_or_eq.1 hr with h1 | h1
    · exact h.ok r h1 ht
    · subst h1; rw [hb] at ht; cases ht⟩
theorem BnJ.fin {W6 : World} {l : Nat} {rec : LoopState → Option Code → Obj} {St : Nat → Bool} {set k : Nat} {W V : World} {a : Act} {Fin : World → Prop} (h : BnJ W6 l rec St set k W) (hk : Kept [l + 1] W6 V) (hb : V.heap[l + 1]? = some (rec .busy none)) (hs : St k = true) : roundEnd (l + 1) rec (PieceRound (BnJ W6 l rec St set) Fin k) .normal a V :=
  ⟨hb, .inl ⟨rfl, kept_putObj hk (.inl (by simp)) _, heap_put hb _, fun r hr ht => by
    rcases Nat.lt_succ_iff_lt_or_eq.1 hr with h1 | h1
    · exact h.ok r h1 ht
    · subst h1; exact hs⟩⟩
theorem BnF.fin {W6 : World} {l n b6 : Nat} {rec : LoopState → Option Code → Obj} {St : Nat → Bool} {set k : Nat} {V : World} {a : Act} {J : Nat → World → Prop} (hk : Kept [l + 1] W6 V) (hb6 : b6 < l) (hb : V.heap[l + 1]? = some (rec .busy none)) (hx : Boxed V b6 4 (.bool false)) (hr : k ∈ Plt.leftL n set) (hs : St k = false) :
    roundEnd (l + 1) rec (PieceRound J (BnF W6 l b6 n rec St set) k) .ret a (V.setCell ⟨b6, 0, none⟩ (.bool false)) := by
  have h1 : (V.setCell ⟨b6, 0, none⟩ (.bool false)).heap[l + 1]? = some (rec .busy none) := heap_setCell hb (by dsimp only; omega) _
  exact ⟨h1, .inr ⟨rfl, kept_putObj ((hk.mono (by simp)).setCell (.inl (by simp)) _) (.inl (by simp)) _, heap_put h1 _, boxed_putObj (hx.set _) (by omega) _, ⟨k, hr, hs⟩⟩⟩
theorem bnd_leave {tmps : Array Value} {R : Ending → World → Prop} {V : World} {Ds : List Nat} {B b6 : Nat} {res : Bool} (h6 : tmps[6]? = some (.pointer (some ⟨b6, 0, none⟩))) (hM : MarksAt V B Ds) (hlt : b6 < B) (hc : V.cell? ⟨b6, 0, none⟩ = some (.bool res))
    (hR : ∀ W', Kept Ds V W' → R (.returned (.bool res)) W') : LeavesInM Fence.wide 0 Try.prog Try.f15 tmps R (marks Ds) .returning V := by
  refine leaves_marks hM (fun W' hk => ⟨.bool res, ?_, hR W' hk⟩)
  have hc' := hk.cell hc (fun e => by have := (hM.at_ _ e).1; dsimp only at this; omega)
  simp [results, Try.results15, h6, hc', asAddr, Result.andThen, go_sem]
set_option maxRecDepth 100000 in
set_option maxHeartbeats 4000000 in
theorem bounds_any (A : Option Addr) (c : Nat) (l : List Stk) (tb o ct : Nat) (T : Nat → Int) (cost : Int) (w : World) (hP : PageAt w A l) (hO : PageOk l) (hT : TabAt w tb o (18 * 2 ^ l.length) T) (hct : 18 * 2 ^ l.length ≤ ct) :
    Calls Try.prog 15 #[.slice A l.length c, .slice (some ⟨tb, o, none⟩) (18 * 2 ^ l.length) ct, .int .i64 cost] w fun e w' => e = .returned (.bool (Plt.boundsB l.length (gapF l) T cost)) ∧ Below w.heap.size w w' := by
  have hlen : (l.length : Int) ≤ 9 := by have := hO.len; omega
  have hp := pow_bd hO.len
  obtain ⟨hzv, hzs⟩ := zero_of_info gaps_info
  obtain ⟨Z, hZ⟩ : ∃ Z, rowG (fun _ _ => 0) = Z := ⟨_, rfl⟩
  have hZs : Z.size = 342 := by rw [← hZ, rowG_size]
  rw [hZ] at hzv
  have HZS := Lib.hid hZs
  obtain ⟨M, hM⟩ : ∃ M, 2 ^ l.length = M := ⟨_, rfl⟩
  obtain ⟨m, hm⟩ : ∃ m, 18 * M = m := ⟨_, rfl⟩
  have hW18 : wrap64 (18 * 2 ^ l.length) = (m : Int) := by rw [wrap_18two hO.len, hM, hm]
  have HWT := Lib.hid (show wrap64 (2 ^ l.length) = (M : Int) by rw [wrap_two hO.len, hM])
  rw [hM] at hp hT hct ⊢
  rw [hm] at hT hct ⊢
  have hMl : (M : Int) ≤ 512 := by omega
  have hM1 : (1 : Int) ≤ (M : Int) := by omega
  have hml : (m : Int) ≤ 9216 := by omega
  have hct' : (m : Int) ≤ (ct : Int) := by omega
  have HM := Lib.hid hM
  have Hm := Lib.hid hm
  have HP := Lib.hid hP
  have HO := Lib.hid hO
  have HT := Lib.hid hT
  have HW18 := Lib.hid hW18
  clear hP hO hZ hzs hM hm hp hZs hT hW18
  refine calls_of_wp_marks Try.func15 rfl ?_
  simp only [Try.ntmps15, List.size_toArray, List.length_cons, List.length_nil, Nat.reduceAdd, Nat.reduceSub, Array.replicate_succ, Array.replicate_zero, List.push_toArray, List.append_toArray, List.nil_append, List.cons_append]
  go_wp2_with fail
  obtain ⟨b4, hb4⟩ : ∃ b4, w.heap.size = b4 := ⟨_, rfl⟩
  obtain ⟨b5, hb5⟩ : ∃ b5, w.heap.size + 1 = b5 := ⟨_, rfl⟩
  obtain ⟨b6, hb6⟩ : ∃ b6, w.heap.size + 1 + 1 = b6 := ⟨_, rfl⟩
  obtain ⟨W1, hW1⟩ : ∃ W1, (((w.alloc (.cells #[.slice (some ⟨tb, o, none⟩) m ct] 23)).alloc (.cells #[.int .i64 cost] 3)).alloc (.cells #[.bool false] 4)) = W1 := ⟨_, rfl⟩
  have hB1 : Below w.heap.size w W1 := by rw [← hW1]; exact below_alloc (below_alloc (below_alloc (Below.refl _ _) _) _) _
  have q4 : W1.cell? ⟨b4, 0, none⟩ = some (.slice (some ⟨tb, o, none⟩) m ct) := by rw [← hW1, ← hb4]; simp [go_sem]
  have q5 : W1.cell? ⟨b5, 0, none⟩ = some (.int .i64 cost) := by rw [← hW1, ← hb5]; simp [go_sem]
  have q6 : Boxed W1 b6 4 (.bool false) := by rw [← hW1, ← hb6]; exact boxed_at (by simp)
  have hs1 : b6 < W1.heap.size := by rw [← hW1, ← hb6]; simp
  rw [hW1, hb6, hb5, hb4]
  clear hW1
  have g_1 := fun D os => cell_regrown q4 D os
  have HV := Lib.hid (fun d os => valid_yes A c l (Sort.grow (redrawn W1 d) os) (HP.out.then_ (below_next hB1 (below_regrown _ _ _))) HO.out)
  have hw18 := HW18.out
  go_step3
  go_wp2_with fail
  refine wp_region_quiet_below (by kernel_rfl) (by kernel_rfl) ?_
  repeat (go_big_quiet_step (first | (with_reducible exact Calls.regrown_of (HV.out _ _))))
  refine wpQuiet_nil ?_
  intro wq hq0
  have hq := below_of_class hq0
  clear hq0
  clear g_1 hw18 HV
  have q4 := cell_then hq q4
  have q5 := cell_then hq q5
  have q6 : Boxed wq b6 4 (.bool false) := (hq.block _ hs1).trans q6
  have hBq := below_next hB1 hq
  have hsq := hq.size
  clear hq hB1
  go_wp2_with fail
  refine (gaps_any A c l wq (HP.out.then_ hBq) HO.out).mono ?_
  rintro e w3 ⟨rfl, b3⟩
  have hgs := gaps_store w3 (gapF l) HZS.out
  have hgr := gaps_row w3 (gapF l) Z
  obtain ⟨W2, hW2⟩ : ∃ W2, (w3.alloc (.cells Z 76)).setRow w3.heap.size (rowG (gapF l)) = W2 := ⟨_, rfl⟩
  have hk2 : Kept [] w3 W2 := by rw [← hW2]; exact ((Kept.refl _ _).alloc _).setRow (.inr (Nat.le_refl _)) _
  rw [hW2] at hgs hgr
  have hs2 : w3.heap.size < W2.heap.size := heap_lt hgr
  have hs3 := b3.size
  have q4 := hk2.cell (cell_then b3 q4) (by simp)
  have q5 := hk2.cell (cell_then b3 q5) (by simp)
  have q6 : Boxed W2 b6 4 (.bool false) := hk2.heap ((b3.block _ (by omega)).trans q6) (by simp)
  have hB2 := hk2.below_next (below_next hBq b3) (below_next hBq b3).size (by simp)
  have HG2 := Lib.hid (gapsAt_row hgr)
  have HB2 := Lib.hid hB2
  have hp2 : b6 < w3.heap.size := by omega
  clear hk2 hgr hB2 hBq b3 hW2 hs3 hsq hs1
  go_wp2_with fail
  clear hgs hzv
  go_step3
  go_wp2_with fail
  -- loop
  refine wp_loop (fun a wr => ∃ (k : Nat) (Ds : List Nat) (u9 u10 u11 u12 u34 u35 u36 u37 u38 u39 u40 u41 u42 u43 u44 u45 u46 u47 u48 u49 u50 u51 u52 u53 u54 u55 u56 u57 u58 u59 u60 u61 u62 u63 u64 u65 u80 : Value), k ≤ m ∧ (∀ i, i < k → Plt.chkS l.length (gapF l) T i = true) ∧ Below W2.heap.size W2 wr ∧ MarksAt wr W2.heap.size Ds ∧ a = { tmps := #[.slice A l.length c, .slice (some ⟨tb, o, none⟩) m ct, .int .i64 cost, undef, .pointer (some ⟨b4, 0, none⟩), .pointer (some ⟨b5, 0, none⟩), .pointer (some ⟨b6, 0, none⟩), .slice A l.length c, .pointer (some ⟨w3.heap.size, 0, none⟩), u9, u10, u11, u12, undef, undef, undef, undef, .slice A l.length c, .bool true, .bool false, .bool false, .slice (some ⟨tb, o, none⟩) m ct, .int .i64 (m : Int), .slice A l.length c, .int .i64 (l.length : Int), .int .i64 (wrap64 (18 * 2 ^ l.length)), .bool false, .bool false, .slice A l.length c, .slice A l.length c, .agg (rowG (gapF l)), .slice (some ⟨tb, o, none⟩) m ct, .int .i64 (m : Int), .int .i64 (k : Int), u34, u35, u36, u37, u38, u39, u40, u41, u42, u43, u44, u45, u46, u47, u48, u49, u50, u51, u52, u53, u54, u55, u56, u57, u58, u59, u60, u61, u62, u63, u64, u65, undef, undef, undef, undef, undef, undef, undef, undef, undef, undef, undef, undef, undef, undef, u80, undef, undef, undef, undef, undef, undef, undef, undef, undef, undef, undef, undef, undef, undef, undef, undef, undef, undef, undef, undef, undef, undef], defers := marks Ds }) (fun a _ => m - (intOf (a.tmps.getD 33 undef)).toNat) ?atStart ?round
  case atStart => exact ⟨0, [], _, _, _, _, _, _, _, _, _, _, _, _, _, _, _, _, _, _, _, _, _, _, _, _, _, _, _, _, _, _, _, _, _, _, _, _, _, by omega, fun i hi => by omega, Below.refl _ _, MarksAt.nil _ _, rfl⟩
  case round =>
    intro _ wr hinv
    obtain ⟨k, Ds, u9, u10, u11, u12, u34, u35, u36, u37, u38, u39, u40, u41, u42, u43, u44, u45, u46, u47, u48, u49, u50, u51, u52, u53, u54, u55, u56, u57, u58, u59, u60, u61, u62, u63, u64, u65, u80, hk, hch, hB, hM, rfl⟩ := hinv
    dsimp only
    by_cases hlt : k < m
    · obtain ⟨S, hS⟩ : ∃ S, k / 18 = S := ⟨_, rfl⟩
      obtain ⟨L, hL⟩ : ∃ L, k % 18 = L := ⟨_, rfl⟩
      obtain ⟨i, hi⟩ : ∃ i, L / 2 = i := ⟨_, rfl⟩
      have hSM : S < M := by have := Hm.out; omega
      have hL18 : L < 18 := by omega
      have hi9 : i < 9 := by omega
      have hb := Plt.bit_shr S i (by omega)
      have hkm : (k : Int) < (m : Int) := by omega
      have hk0 : (0 : Int) ≤ (k : Int) := by omega
      have hS1 : (k : Int) / 18 = (S : Int) := by omega
      have hL1 : (k : Int) % 18 = (L : Int) := by omega
      have hi1 : (L : Int) / 2 = (i : Int) := by omega
      have hS0 : (0 : Int) ≤ (S : Int) := by omega
      have hS2 : (S : Int) ≤ 511 := by omega
      have hL0 : (0 : Int) ≤ (L : Int) := by omega
      have hL2 : (L : Int) ≤ 17 := by omega
      have hi0 : (0 : Int) ≤ (i : Int) := by omega
      have hi2 : (i : Int) ≤ 8 := by omega
      have ht0 := cell_then (below_next HB2.out hB) (HT.out k hlt)
      have hchk : Plt.chkS l.length (gapF l) T k = ((decide (0 ≤ T k ∧ T k ≤ 100000)) && (if S.testBit i = false then T k == 0 else (!(S == 2 ^ l.length - 1) || T k == 0) && (Plt.leftL l.length S).all (Plt.stepB (gapF l) T (T k) L S))) := by rw [Plt.chkS, hS, hL, hi]
      obtain ⟨v, hv⟩ : ∃ v, T k = v := ⟨_, rfl⟩
      rw [hv] at ht0 hchk
      have HCK := Lib.hid hchk
      have q6' : Boxed wr b6 4 (.bool false) := (hB.block _ (by omega)).trans q6
      have hf6 := q6'.frozen
      have hc6 := q6'.cell
      have q4' := cell_then hB q4
      have HB := Lib.hid hB
      have HMK := Lib.hid hM
      have HCH := Lib.hid hch
      have HSS := Lib.hid hS
      have HLL := Lib.hid hL
      have HII := Lib.hid hi
      clear hS hL hi hv hchk hch hM hB
      have hwb : b6 < wr.heap.size := by have := HB.out.size; omega
      have HBR := Lib.hid (Plt.boundsB_iff (n := l.length) (g := gapF l) (T := T) (cost := cost))
      have hno : Plt.chkS l.length (gapF l) T k = false → Plt.boundsB l.length (gapF l) T cost = false := fun h => by
        cases hbb : Plt.boundsB l.length (gapF l) T cost with
        | false => rfl
        | true => have := (HBR.out.1 hbb).1 k (by rw [HM.out, Hm.out]; exact hlt); rw [h] at this; cases this
      have HNO := Lib.hid hno
      clear hno
      obtain ⟨W4, hW4⟩ : ∃ W4, (wr.alloc (.cells #[.int .i64 v] 3)).alloc (.cells #[.int .i64 (L : Int)] 3) = W4 := ⟨_, rfl⟩
      have hB4 : Below wr.heap.size wr W4 := by rw [← hW4]; exact below_alloc (below_alloc (Below.refl _ _) _) _
      have x10 : W4.cell? ⟨wr.heap.size, 0, none⟩ = some (.int .i64 v) := by rw [← hW4]; exact keep_alloc _ (new_cell rfl)
      have x12 : W4.cell? ⟨wr.heap.size + 1, 0, none⟩ = some (.int .i64 (L : Int)) := by rw [← hW4]; exact new_cell' rfl
      have x4 := cell_then hB4 q4'
      have x6 : Boxed W4 b6 4 (.bool false) := (hB4.block _ (by omega)).trans q6'
      have f6 := x6.frozen
      have c6 := x6.cell
      have X6 := Lib.hid x6
      have hs4 : wr.heap.size + 2 ≤ W4.heap.size := by rw [← hW4]; simp
      have hM4 := HMK.out.kept (Kept.of_below hB4) (fun D _ h => by cases h)
      have HB4 := Lib.hid (below_next HB.out hB4)
      have HW4 := Lib.hid hW4
      have HMK4 := Lib.hid hM4
      have leave : ∀ (tmps : Array Value) (b : Bool), tmps[6]? = some (.pointer (some ⟨b6, 0, none⟩)) → Plt.boundsB l.length (gapF l) T cost = b → LeavesInM Fence.wide 0 Try.prog Try.f15 tmps (fun e w' => e = .returned (.bool (Plt.boundsB l.length (gapF l) T cost)) ∧ Below w.heap.size w w') (marks Ds) .returning (W4.setCell ⟨b6, 0, none⟩ (.bool b)) := fun tmps b h6 hb => by
        have hk : Kept [b6] W4 (W4.setCell ⟨b6, 0, none⟩ (.bool b)) := (Kept.refl _ _).setCell (.inl (by simp)) _
        refine bnd_leave (B := W2.heap.size) (b6 := b6) (res := b) h6 (HMK4.out.kept hk (fun D hD h => by have := (HMK4.out.at_ D hD).1; have := List.mem_singleton.1 h; omega)) (by omega) ?_ (fun W' hk' => ⟨by rw [hb], ?_⟩)
        · exact (x6.set _).cell
        · have h1 := (below_next HB2.out HB4.out).setCell (p := ⟨b6, 0, none⟩) (by dsimp only; omega) (.bool b)
          have h2 := HB2.out.size
          exact hk'.below_next h1 h1.size (fun D hD => by have := (HMK4.out.at_ D hD).1; omega)
      have LEAVE := Lib.hid leave
      clear hB4 hM4 hW4 x6 q6' leave q4' hf6 hc6
      by_cases hr : 0 ≤ v ∧ v ≤ 100000
      · have hin : isInB v 0 100000 = true := isInB_iff.2 hr
        have HIN := Lib.hid hin
        have HRD := Lib.hid (show decide (0 ≤ v ∧ v ≤ 100000) = true from decide_eq_true hr)
        clear hin
        go_wp2_with fail
        rw [HW4.out]
        refine (isIn_any v 0 100000 _).mono ?_
        rintro e w4 ⟨rfl, rfl⟩
        rw [HIN.out]
        cases ht : S.testBit i
        case false =>
          rw [if_neg (by rw [ht]; simp)] at hb
          have HT0 := Lib.hid ht
          clear ht
          by_cases hv0 : v = 0
          · subst hv0
            have hck : Plt.chkS l.length (gapF l) T k = true := by rw [HCK.out, HRD.out, HT0.out]; rfl
            have HCK2 := Lib.hid (show ∀ i, i < k + 1 → Plt.chkS l.length (gapF l) T i = true from fun i hi => by
              rcases Nat.lt_succ_iff_lt_or_eq.1 hi with h | h
              · exact HCH.out i h
              · rw [h]; exact hck)
            clear hck
            go_wp2_with fail
            refine ⟨⟨k + 1, Ds, ?_⟩, ?_⟩
            · (repeat apply Exists.intro)
              exact ⟨by omega, HCK2.out, HB4.out, HMK4.out, rfl⟩
            show m - (intOf (.int .i64 ((k : Int) + 1))).toNat < m - (intOf (.int .i64 (k : Int))).toNat
            simp [intOf]; omega
          · have hv1 : (v == 0) = false := beq_eq_false_iff_ne.2 hv0
            have hv2 : (v != 0) = true := by simp [bne, hv1]
            have HV1 := Lib.hid hv1
            have hno : Plt.boundsB l.length (gapF l) T cost = false := HNO.out (by rw [HCK.out, HRD.out, HT0.out, if_pos rfl, HV1.out]; rfl)
            have HN := Lib.hid hno
            clear hno
            go_wp2_with fail
            exact LEAVE.out _ _ rfl HN.out
        case true =>
          rw [if_pos ht] at hb
          have HT0 := Lib.hid ht
          clear ht
          obtain ⟨X, hX⟩ : ∃ X : Int, (M : Int) = X := ⟨_, rfl⟩
          have hX1 : X ≤ 512 := by omega
          have hX2 : 1 ≤ X := by omega
          have HWX := Lib.hid (show wrap64 (wrap64 (2 ^ l.length) - 1) = X - 1 by rw [HWT.out, hX]; exact IntWalk.wrap64_in _ (by omega))
          rcases (show S ≠ M - 1 ∨ (S = M - 1 ∧ v = 0) ∨ (S = M - 1 ∧ ¬ v = 0) by omega) with hf | ⟨hf, hv0⟩ | ⟨hf, hv0⟩
          · have he : ((S : Int) == wrap64 (wrap64 (2 ^ l.length) - 1)) = false := by rw [HWX.out]; exact beq_eq_false_iff_ne.2 (by omega)
            have HFL := Lib.hid (show (!(S == 2 ^ l.length - 1) || v == 0) = true by rw [HM.out]; simp [hf])
            clear hf hX
            go_wp2_with fail
            refine (left_any A l.length c (S : Int) _).mono ?_
            rintro e w5 ⟨rfl, rfl⟩
            obtain ⟨W5, hW5⟩ : ∃ W5, (W4.alloc (.cells #[.slice A l.length c] 73)).alloc (.cells #[.int .i64 (S : Int)] 3) = W5 := ⟨_, rfl⟩
            have hB5 : Below W4.heap.size W4 W5 := by rw [← hW5]; exact below_alloc (below_alloc (Below.refl _ _) _) _
            have y1 : W5.cell? ⟨W4.heap.size, 0, none⟩ = some (.slice A l.length c) := by rw [← hW5]; exact keep_alloc _ (new_cell rfl)
            have y2 : W5.cell? ⟨W4.heap.size + 1, 0, none⟩ = some (.int .i64 (S : Int)) := by rw [← hW5]; exact new_cell' rfl
            have hs5 : W4.heap.size + 2 ≤ W5.heap.size := by rw [← hW5]; simp
            rw [hW5]
            have y10 := cell_then hB5 x10
            have y12 := cell_then hB5 x12
            have y4 := cell_then hB5 x4
            have y6 : Boxed W5 b6 4 (.bool false) := (hB5.block _ (by omega)).trans X6.out
            have hM5 := HMK4.out.kept (Kept.of_below hB5) (fun D _ h => by cases h)
            have HB5 := Lib.hid (below_next HB4.out hB5)
            have HMK5 := Lib.hid hM5
            have hG5 := HG2.out.then_ HB5.out
            have hT5 := HT.out.then_ (below_next HB2.out HB5.out)
            clear hW5 hB5 x10 x12 x4 hM5 c6 f6
            go_wp2_with fail
            refine range_outer (n := 0) (gf := 49) (lb := #[.pointer (some ⟨W4.heap.size, 0, none⟩), .pointer (some ⟨W4.heap.size + 1, 0, none⟩)]) rfl (enters_of Try.func49 (by kernel_rfl) rfl) ?_
            intro fn rec hrec
            have hcl := rec_cells hrec
            obtain ⟨W6, hW6⟩ : ∃ W6, (W5.alloc (.deferred (some []))).alloc (rec .ready none) = W6 := ⟨_, rfl⟩
            have hB6 : Below W5.heap.size W5 W6 := by rw [← hW6]; exact below_alloc (below_alloc (Below.refl _ _) _) _
            have hs6 : W6.heap.size = W5.heap.size + 2 := by rw [← hW6]; simp
            have hl1 : W6.heap[W5.heap.size + 1]? = some (rec .ready none) := by
              rw [← hW6]
              have := World.alloc_heap_new (W5.alloc (.deferred (some []))) (rec .ready none)
              rwa [World.size_alloc] at this
            have hl0 : W6.heap[W5.heap.size]? = some (.deferred (some [])) := by rw [← hW6]; exact heap_alloc (World.alloc_heap_new W5 _) _
            rw [hW6]
            clear hW6
            have Z10 := Lib.hid (cell_then hB6 y10)
            have Z12 := Lib.hid (cell_then hB6 y12)
            have Z4 := Lib.hid (cell_then hB6 y4)
            have Z1 := Lib.hid (cell_then hB6 y1)
            have Z2 := Lib.hid (cell_then hB6 y2)
            have Z6 : Hid (Boxed W6 b6 4 (.bool false)) := Lib.hid ((hB6.block _ (by omega)).trans y6)
            have ZG := Lib.hid (hG5.then_ hB6)
            have ZT := Lib.hid (hT5.then_ hB6)
            have HB6 := Lib.hid (below_next HB5.out hB6)
            have HS6 := Lib.hid hs6
            have HL0 := Lib.hid hl0
            have hb6l : b6 < W5.heap.size := by omega
            have hwr5 : wr.heap.size + 2 ≤ W5.heap.size := by omega
            have hw45 : W4.heap.size + 2 ≤ W5.heap.size := hs5
            have hw35 : w3.heap.size < W5.heap.size := by have := HB5.out.size; omega
            have htb5 : tb < W5.heap.size := by have := lt_size (HT.out k hlt); have := (below_next HB2.out HB5.out).size; omega
            have hkp : ∀ q, q < W5.heap.size → q ∉ [W5.heap.size + 1] := fun q hq e => by have := List.mem_singleton.1 e; omega
            have HKP := Lib.hid hkp
            have HKP' := Lib.hid (show W5.heap.size ∉ [W5.heap.size + 1] from fun e => by have := List.mem_singleton.1 e; omega)
            have HBL6 := Lib.hid (fun D (hD : D < W5.heap.size) => hB6.block D hD)
            clear y10 y12 y4 y1 y2 y6 hG5 hT5 hB6 hl0 hkp
            refine (left1_in _ W4.heap.size (W4.heap.size + 1) l.length c S A (BnJ W6 W5.heap.size rec (Plt.stepB (gapF l) T v L S) S) (BnF W6 W5.heap.size b6 l.length rec (Plt.stepB (gapF l) T v L S) S) hlen (by omega) ?hJ ?hN ?round _ ?start).mono ?done
            case hJ => exact fun q W h => ⟨h.kept.cell Z1.out (HKP.out _ (by dsimp only; omega)), h.kept.cell Z2.out (HKP.out _ (by dsimp only; omega))⟩
            case hN => exact fun q W _ hs h => h.skip hs
            case start => exact ⟨Kept.refl _ _, hl1, fun r hr => by omega⟩
            case round =>
              intro r W hr hbit hj
              have HJ := Lib.hid hj
              refine yield_round hrec trivial hj.rd rfl ?_
              clear hrec
              have hpl := Plt.put_lt (show S < 2 ^ l.length by rw [HM.out]; exact hSM) hr
              rw [HM.out] at hpl
              obtain ⟨N, hN⟩ : ∃ N, 18 * Plt.put S r + r = N := ⟨_, rfl⟩
              have hNm : N < m := by have := Hm.out; omega
              have hNI : 18 * ((Plt.put S r : Nat) : Int) + (r : Int) = (N : Int) := by omega
              rw [hNI]
              have hjr := hj.rd
              have hst : Plt.stepB (gapF l) T v L S r = decide (v ≤ wrap64 (gapF l L r + T N)) := by rw [Plt.stepB, hN]
              have hlf : r ∈ Plt.leftL l.length S := Plt.mem_left.2 ⟨hr, hbit⟩
              have HLF := Lib.hid hlf
              gi_wp2
              refine ⟨hjr, ?_⟩
              have hkb : Kept [W5.heap.size + 1] W6 (W.putObj (W5.heap.size + 1) (rec .busy none)) := kept_putObj hj.kept (.inl (by simp)) _
              have hbz := heap_put hjr (rec .busy none)
              obtain ⟨Wb, hWb⟩ : ∃ Wb, W.putObj (W5.heap.size + 1) (rec .busy none) = Wb := ⟨_, rfl⟩
              rw [hWb] at hkb hbz ⊢
              clear hWb hj hpl hN hNI hbit hjr hlf
              have k10 := hkb.cell Z10.out (HKP.out _ (by dsimp only; omega))
              have k12 := hkb.cell Z12.out (HKP.out _ (by dsimp only; omega))
              have k4 := hkb.cell Z4.out (HKP.out _ (by dsimp only; omega))
              have k7 := hkb.cell (ZG.out L r (by omega) (by omega)) (HKP.out _ (by dsimp only; omega))
              have k8 := hkb.cell (ZT.out N hNm) (HKP.out _ (by dsimp only; omega))
              obtain ⟨u, hu⟩ : ∃ u, gapF l L r = u := ⟨_, rfl⟩
              obtain ⟨t, ht⟩ : ∃ t, T N = t := ⟨_, rfl⟩
              rw [hu] at k7 hst
              rw [ht] at k8 hst
              have HST := Lib.hid hst
              have HKB := Lib.hid hkb
              have HBZ := Lib.hid hbz
              clear hu ht hst hkb hbz
              have g_1 := fun D os => cell_regrown k10 D os
              have g_2 := fun D os => cell_regrown k12 D os
              have g_3 := fun D os => cell_regrown k4 D os
              have g_4 := fun D os => cell_regrown k7 D os
              have g_5 := fun D os => cell_regrown k8 D os
              have hNn : (N : Int) < (m : Int) := by omega
              have hN0 : (0 : Int) ≤ (N : Int) := by omega
              have hr18 : (r : Int) < 18 := by omega
              have hr0 : (0 : Int) ≤ (r : Int) := by omega
              have hL19 : (L : Int) < 19 := by omega
              clear hs4 hs5 hs6 he
              gi_wp2
              refine wpIn_region_quietR (by kernel_rfl) (by kernel_rfl) (by kernel_rfl) ?_
              repeat (first | gi_big_quiet_step (fail) | (refine BigFrame.wpQuietIn_want (fun _ _ _ _ => trivial) (by rfl) (fun K hK => ?_); gi_big_quiet_op; apply Exists.intro; refine ⟨fun _ => ?_, ?_⟩; (focus (fail)); refine hK _ ?_; clear hK K))
              refine wpQuietIn_nil ?_
              intro wq hq
              clear g_1 g_2 g_3 g_4 g_5 k10 k12 k4 k7 k8
              have hkq := HKB.out.and_below hq
              have hbq := (hq.block _ (heap_lt HBZ.out)).trans HBZ.out
              have hb6q : Boxed wq b6 4 (.bool false) := hkq.heap Z6.out (HKP.out _ hb6l)
              have f6 := hb6q.frozen
              have c6 := hb6q.cell
              have HKQ := Lib.hid hkq
              have HBQ := Lib.hid hbq
              have HX6 := Lib.hid hb6q
              have hb6wq : b6 < wq.heap.size := lt_size c6
              clear hq hkq hbq hb6q
              obtain ⟨X2, hX2⟩ : ∃ X2, wrap64 (u + t) = X2 := ⟨_, rfl⟩
              rw [hX2]
              have HST2 := Lib.hid (HST.out.trans (by rw [hX2]))
              clear hX2
              by_cases hvx : v ≤ X2
              · have HSY := Lib.hid (HST2.out.trans (decide_eq_true hvx))
                gi_wp2
                exact HJ.out.fin HKQ.out HBQ.out HSY.out
              · have hxv : X2 < v := by omega
                have HSN := Lib.hid (HST2.out.trans (decide_eq_false hvx))
                gi_wp2
                exact BnF.fin HKQ.out hb6l HBQ.out HX6.out HLF.out HSN.out
            case done =>
              rintro e W' ⟨hv', hJ | hF⟩
              · refine ⟨hv', .inl ⟨hJ.rd, ?_⟩⟩
                have hk7 : Kept [W5.heap.size + 1] W6 (W'.putObj (W5.heap.size + 1) (rec .exhausted none)) := kept_putObj hJ.kept (.inl (by simp)) _
                have hb7 : Below W2.heap.size W2 (W'.putObj (W5.heap.size + 1) (rec .exhausted none)) := hk7.below_next HB6.out HB6.out.size (fun q hq => by have := List.mem_singleton.1 hq; have := HB5.out.size; omega)
                have hm7 : MarksAt (W'.putObj (W5.heap.size + 1) (rec .exhausted none)) W2.heap.size (W5.heap.size :: Ds) := (HMK5.out).cons (fun D hD => by have h1 := (HMK5.out.at_ D hD).2; have h2 := heap_lt h1; exact (hk7.block D (by rw [HS6.out]; omega) (HKP.out D h2)).trans ((HBL6.out D h2))) (by have := HB5.out.size; omega) (fun D hD => heap_lt (HMK5.out.at_ D hD).2) (hk7.heap HL0.out (HKP'.out))
                have hck : Plt.chkS l.length (gapF l) T k = true := by
                  rw [HCK.out, HRD.out, HT0.out, if_neg (by simp), HFL.out]
                  simp only [Bool.true_and, List.all_eq_true]
                  intro r hr
                  exact hJ.ok r (Plt.mem_left.1 hr).1 (Plt.mem_left.1 hr).2
                have HCK2 := Lib.hid (show ∀ i, i < k + 1 → Plt.chkS l.length (gapF l) T i = true from fun i hi => by
                  rcases Nat.lt_succ_iff_lt_or_eq.1 hi with h | h
                  · exact HCH.out i h
                  · rw [h]; exact hck)
                obtain ⟨W7, hW7⟩ : ∃ W7, W'.putObj (W5.heap.size + 1) (rec .exhausted none) = W7 := ⟨_, rfl⟩
                rw [hW7] at hb7 hm7 ⊢
                have HB7 := Lib.hid hb7
                have HM7 := Lib.hid hm7
                clear hW7 hJ hk7 hb7 hm7 hck hrec hcl
                go_wp2_with fail
                refine ⟨⟨k + 1, W5.heap.size :: Ds, ?_⟩, ?_⟩
                · (repeat apply Exists.intro)
                  exact ⟨by omega, HCK2.out, HB7.out, HM7.out, rfl⟩
                show m - (intOf (.int .i64 ((k : Int) + 1))).toNat < m - (intOf (.int .i64 (k : Int))).toNat
                simp [intOf]; omega
              · refine ⟨hv', .inr ⟨.ret, hF.dn, ?_⟩⟩
                have hk7 : Kept [b6, W5.heap.size + 1] W6 (W'.putObj (W5.heap.size + 1) (rec .exhausted (some .ret))) := kept_putObj hF.kept (.inl (by simp)) _
                have hx7 := boxed_putObj hF.bx (show b6 ≠ W5.heap.size + 1 by omega) (rec .exhausted (some .ret))
                have hb2 := HB2.out.size
                have hb7 : Below w.heap.size w (W'.putObj (W5.heap.size + 1) (rec .exhausted (some .ret))) := hk7.below_next (below_next HB2.out HB6.out) (below_next HB2.out HB6.out).size (fun q hq => by simp only [List.mem_cons, List.not_mem_nil, or_false] at hq; have := HB5.out.size; omega)
                have hm7 : MarksAt (W'.putObj (W5.heap.size + 1) (rec .exhausted (some .ret))) W2.heap.size (W5.heap.size :: Ds) := (HMK5.out).cons (fun D hD => by have h1 := HMK5.out.at_ D hD; have h2 := heap_lt h1.2; exact (hk7.block D (by rw [HS6.out]; omega) (by simp only [List.mem_cons, List.not_mem_nil, or_false]; omega)).trans ((HBL6.out D h2))) (by have := HB5.out.size; omega) (fun D hD => heap_lt (HMK5.out.at_ D hD).2) (hk7.heap HL0.out (by simp only [List.mem_cons, List.not_mem_nil, or_false]; omega))
                have hno : Plt.boundsB l.length (gapF l) T cost = false := HNO.out (by
                  obtain ⟨r, hr, hs⟩ := hF.bad
                  rw [HCK.out, HRD.out, HT0.out, if_neg (by simp), HFL.out]
                  have : (Plt.leftL l.length S).all (Plt.stepB (gapF l) T v L S) = false := by
                    rw [List.all_eq_false]; exact ⟨r, hr, by rw [hs]; simp⟩
                  rw [this]; rfl)
                obtain ⟨W7, hW7⟩ : ∃ W7, W'.putObj (W5.heap.size + 1) (rec .exhausted (some .ret)) = W7 := ⟨_, rfl⟩
                rw [hW7] at hb7 hm7 hx7 ⊢
                have HB7 := Lib.hid hb7
                have HM7 := Lib.hid hm7
                have HX7 := Lib.hid hx7
                have HN := Lib.hid hno
                clear hW7 hF hk7 hb7 hm7 hx7 hno hrec hcl
                go_wp2_with fail
                exact bnd_leave (res := false) (B := W2.heap.size) (Ds := W5.heap.size :: Ds) rfl HM7.out (by omega) HX7.out.cell (fun W8 hk8 => ⟨by rw [HN.out], hk8.below_next HB7.out HB7.out.size (fun D hD => by have := (HM7.out.at_ D hD).1; omega)⟩)
          · have he : ((S : Int) == wrap64 (wrap64 (2 ^ l.length) - 1)) = true := by rw [HWX.out]; exact beq_iff_eq.2 (by omega)
            have HFL := Lib.hid (show (!(S == 2 ^ l.length - 1) || v == 0) = true by simp [hv0])
            have hv1 : (v != 0) = false := by simp [hv0]
            clear hf hX hv0
            go_wp2_with fail
            refine (left_any A l.length c (S : Int) _).mono ?_
            rintro e w5 ⟨rfl, rfl⟩
            obtain ⟨W5, hW5⟩ : ∃ W5, (W4.alloc (.cells #[.slice A l.length c] 73)).alloc (.cells #[.int .i64 (S : Int)] 3) = W5 := ⟨_, rfl⟩
            have hB5 : Below W4.heap.size W4 W5 := by rw [← hW5]; exact below_alloc (below_alloc (Below.refl _ _) _) _
            have y1 : W5.cell? ⟨W4.heap.size, 0, none⟩ = some (.slice A l.length c) := by rw [← hW5]; exact keep_alloc _ (new_cell rfl)
            have y2 : W5.cell? ⟨W4.heap.size + 1, 0, none⟩ = some (.int .i64 (S : Int)) := by rw [← hW5]; exact new_cell' rfl
            have hs5 : W4.heap.size + 2 ≤ W5.heap.size := by rw [← hW5]; simp
            rw [hW5]
            have y10 := cell_then hB5 x10
            have y12 := cell_then hB5 x12
            have y4 := cell_then hB5 x4
            have y6 : Boxed W5 b6 4 (.bool false) := (hB5.block _ (by omega)).trans X6.out
            have hM5 := HMK4.out.kept (Kept.of_below hB5) (fun D _ h => by cases h)
            have HB5 := Lib.hid (below_next HB4.out hB5)
            have HMK5 := Lib.hid hM5
            have hG5 := HG2.out.then_ HB5.out
            have hT5 := HT.out.then_ (below_next HB2.out HB5.out)
            clear hW5 hB5 x10 x12 x4 hM5 c6 f6
            go_wp2_with fail
            refine range_outer (n := 0) (gf := 49) (lb := #[.pointer (some ⟨W4.heap.size, 0, none⟩), .pointer (some ⟨W4.heap.size + 1, 0, none⟩)]) rfl (enters_of Try.func49 (by kernel_rfl) rfl) ?_
            intro fn rec hrec
            have hcl := rec_cells hrec
            obtain ⟨W6, hW6⟩ : ∃ W6, (W5.alloc (.deferred (some []))).alloc (rec .ready none) = W6 := ⟨_, rfl⟩
            have hB6 : Below W5.heap.size W5 W6 := by rw [← hW6]; exact below_alloc (below_alloc (Below.refl _ _) _) _
            have hs6 : W6.heap.size = W5.heap.size + 2 := by rw [← hW6]; simp
            have hl1 : W6.heap[W5.heap.size + 1]? = some (rec .ready none) := by
              rw [← hW6]
              have := World.alloc_heap_new (W5.alloc (.deferred (some []))) (rec .ready none)
              rwa [World.size_alloc] at this
            have hl0 : W6.heap[W5.heap.size]? = some (.deferred (some [])) := by rw [← hW6]; exact heap_alloc (World.alloc_heap_new W5 _) _
            rw [hW6]
            clear hW6
            have Z10 := Lib.hid (cell_then hB6 y10)
            have Z12 := Lib.hid (cell_then hB6 y12)
            have Z4 := Lib.hid (cell_then hB6 y4)
            have Z1 := Lib.hid (cell_then hB6 y1)
            have Z2 := Lib.hid (cell_then hB6 y2)
            have Z6 : Hid (Boxed W6 b6 4 (.bool false)) := Lib.hid ((hB6.block _ (by omega)).trans y6)
            have ZG := Lib.hid (hG5.then_ hB6)
            have ZT := Lib.hid (hT5.then_ hB6)
            have HB6 := Lib.hid (below_next HB5.out hB6)
            have HS6 := Lib.hid hs6
            have HL0 := Lib.hid hl0
            have hb6l : b6 < W5.heap.size := by omega
            have hwr5 : wr.heap.size + 2 ≤ W5.heap.size := by omega
            have hw45 : W4.heap.size + 2 ≤ W5.heap.size := hs5
            have hw35 : w3.heap.size < W5.heap.size := by have := HB5.out.size; omega
            have htb5 : tb < W5.heap.size := by have := lt_size (HT.out k hlt); have := (below_next HB2.out HB5.out).size; omega
            have hkp : ∀ q, q < W5.heap.size → q ∉ [W5.heap.size + 1] := fun q hq e => by have := List.mem_singleton.1 e; omega
            have HKP := Lib.hid hkp
            have HKP' := Lib.hid (show W5.heap.size ∉ [W5.heap.size + 1] from fun e => by have := List.mem_singleton.1 e; omega)
            have HBL6 := Lib.hid (fun D (hD : D < W5.heap.size) => hB6.block D hD)
            clear y10 y12 y4 y1 y2 y6 hG5 hT5 hB6 hl0 hkp
            refine (left1_in _ W4.heap.size (W4.heap.size + 1) l.length c S A (BnJ W6 W5.heap.size rec (Plt.stepB (gapF l) T v L S) S) (BnF W6 W5.heap.size b6 l.length rec (Plt.stepB (gapF l) T v L S) S) hlen (by omega) ?hJ ?hN ?round _ ?start).mono ?done
            case hJ => exact fun q W h => ⟨h.kept.cell Z1.out (HKP.out _ (by dsimp only; omega)), h.kept.cell Z2.out (HKP.out _ (by dsimp only; omega))⟩
            case hN => exact fun q W _ hs h => h.skip hs
            case start => exact ⟨Kept.refl _ _, hl1, fun r hr => by omega⟩
            case round =>
              intro r W hr hbit hj
              have HJ := Lib.hid hj
              refine yield_round hrec trivial hj.rd rfl ?_
              clear hrec
              have hpl := Plt.put_lt (show S < 2 ^ l.length by rw [HM.out]; exact hSM) hr
              rw [HM.out] at hpl
              obtain ⟨N, hN⟩ : ∃ N, 18 * Plt.put S r + r = N := ⟨_, rfl⟩
              have hNm : N < m := by have := Hm.out; omega
              have hNI : 18 * ((Plt.put S r : Nat) : Int) + (r : Int) = (N : Int) := by omega
              rw [hNI]
              have hjr := hj.rd
              have hst : Plt.stepB (gapF l) T v L S r = decide (v ≤ wrap64 (gapF l L r + T N)) := by rw [Plt.stepB, hN]
              have hlf : r ∈ Plt.leftL l.length S := Plt.mem_left.2 ⟨hr, hbit⟩
              have HLF := Lib.hid hlf
              gi_wp2
              refine ⟨hjr, ?_⟩
              have hkb : Kept [W5.heap.size + 1] W6 (W.putObj (W5.heap.size + 1) (rec .busy none)) := kept_putObj hj.kept (.inl (by simp)) _
              have hbz := heap_put hjr (rec .busy none)
              obtain ⟨Wb, hWb⟩ : ∃ Wb, W.putObj (W5.heap.size + 1) (rec .busy none) = Wb := ⟨_, rfl⟩
              rw [hWb] at hkb hbz ⊢
              clear hWb hj hpl hN hNI hbit hjr hlf
              have k10 := hkb.cell Z10.out (HKP.out _ (by dsimp only; omega))
              have k12 := hkb.cell Z12.out (HKP.out _ (by dsimp only; omega))
              have k4 := hkb.cell Z4.out (HKP.out _ (by dsimp only; omega))
              have k7 := hkb.cell (ZG.out L r (by omega) (by omega)) (HKP.out _ (by dsimp only; omega))
              have k8 := hkb.cell (ZT.out N hNm) (HKP.out _ (by dsimp only; omega))
              obtain ⟨u, hu⟩ : ∃ u, gapF l L r = u := ⟨_, rfl⟩
              obtain ⟨t, ht⟩ : ∃ t, T N = t := ⟨_, rfl⟩
              rw [hu] at k7 hst
              rw [ht] at k8 hst
              have HST := Lib.hid hst
              have HKB := Lib.hid hkb
              have HBZ := Lib.hid hbz
              clear hu ht hst hkb hbz
              have g_1 := fun D os => cell_regrown k10 D os
              have g_2 := fun D os => cell_regrown k12 D os
              have g_3 := fun D os => cell_regrown k4 D os
              have g_4 := fun D os => cell_regrown k7 D os
              have g_5 := fun D os => cell_regrown k8 D os
              have hNn : (N : Int) < (m : Int) := by omega
              have hN0 : (0 : Int) ≤ (N : Int) := by omega
              have hr18 : (r : Int) < 18 := by omega
              have hr0 : (0 : Int) ≤ (r : Int) := by omega
              have hL19 : (L : Int) < 19 := by omega
              clear hs4 hs5 hs6 he
              gi_wp2
              refine wpIn_region_quietR (by kernel_rfl) (by kernel_rfl) (by kernel_rfl) ?_
              repeat (first | gi_big_quiet_step (fail) | (refine BigFrame.wpQuietIn_want (fun _ _ _ _ => trivial) (by rfl) (fun K hK => ?_); gi_big_quiet_op; apply Exists.intro; refine ⟨fun _ => ?_, ?_⟩; (focus (fail)); refine hK _ ?_; clear hK K))
              refine wpQuietIn_nil ?_
              intro wq hq
              clear g_1 g_2 g_3 g_4 g_5 k10 k12 k4 k7 k8
              have hkq := HKB.out.and_below hq
              have hbq := (hq.block _ (heap_lt HBZ.out)).trans HBZ.out
              have hb6q : Boxed wq b6 4 (.bool false) := hkq.heap Z6.out (HKP.out _ hb6l)
              have f6 := hb6q.frozen
              have c6 := hb6q.cell
              have HKQ := Lib.hid hkq
              have HBQ := Lib.hid hbq
              have HX6 := Lib.hid hb6q
              have hb6wq : b6 < wq.heap.size := lt_size c6
              clear hq hkq hbq hb6q
              obtain ⟨X2, hX2⟩ : ∃ X2, wrap64 (u + t) = X2 := ⟨_, rfl⟩
              rw [hX2]
              have HST2 := Lib.hid (HST.out.trans (by rw [hX2]))
              clear hX2
              by_cases hvx : v ≤ X2
              · have HSY := Lib.hid (HST2.out.trans (decide_eq_true hvx))
                gi_wp2
                exact HJ.out.fin HKQ.out HBQ.out HSY.out
              · have hxv : X2 < v := by omega
                have HSN := Lib.hid (HST2.out.trans (decide_eq_false hvx))
                gi_wp2
                exact BnF.fin HKQ.out hb6l HBQ.out HX6.out HLF.out HSN.out
            case done =>
              rintro e W' ⟨hv', hJ | hF⟩
              · refine ⟨hv', .inl ⟨hJ.rd, ?_⟩⟩
                have hk7 : Kept [W5.heap.size + 1] W6 (W'.putObj (W5.heap.size + 1) (rec .exhausted none)) := kept_putObj hJ.kept (.inl (by simp)) _
                have hb7 : Below W2.heap.size W2 (W'.putObj (W5.heap.size + 1) (rec .exhausted none)) := hk7.below_next HB6.out HB6.out.size (fun q hq => by have := List.mem_singleton.1 hq; have := HB5.out.size; omega)
                have hm7 : MarksAt (W'.putObj (W5.heap.size + 1) (rec .exhausted none)) W2.heap.size (W5.heap.size :: Ds) := (HMK5.out).cons (fun D hD => by have h1 := (HMK5.out.at_ D hD).2; have h2 := heap_lt h1; exact (hk7.block D (by rw [HS6.out]; omega) (HKP.out D h2)).trans ((HBL6.out D h2))) (by have := HB5.out.size; omega) (fun D hD => heap_lt (HMK5.out.at_ D hD).2) (hk7.heap HL0.out (HKP'.out))
                have hck : Plt.chkS l.length (gapF l) T k = true := by
                  rw [HCK.out, HRD.out, HT0.out, if_neg (by simp), HFL.out]
                  simp only [Bool.true_and, List.all_eq_true]
                  intro r hr
                  exact hJ.ok r (Plt.mem_left.1 hr).1 (Plt.mem_left.1 hr).2
                have HCK2 := Lib.hid (show ∀ i, i < k + 1 → Plt.chkS l.length (gapF l) T i = true from fun i hi => by
                  rcases Nat.lt_succ_iff_lt_or_eq.1 hi with h | h
                  · exact HCH.out i h
                  · rw [h]; exact hck)
                obtain ⟨W7, hW7⟩ : ∃ W7, W'.putObj (W5.heap.size + 1) (rec .exhausted none) = W7 := ⟨_, rfl⟩
                rw [hW7] at hb7 hm7 ⊢
                have HB7 := Lib.hid hb7
                have HM7 := Lib.hid hm7
                clear hW7 hJ hk7 hb7 hm7 hck hrec hcl
                go_wp2_with fail
                refine ⟨⟨k + 1, W5.heap.size :: Ds, ?_⟩, ?_⟩
                · (repeat apply Exists.intro)
                  exact ⟨by omega, HCK2.out, HB7.out, HM7.out, rfl⟩
                show m - (intOf (.int .i64 ((k : Int) + 1))).toNat < m - (intOf (.int .i64 (k : Int))).toNat
                simp [intOf]; omega
              · refine ⟨hv', .inr ⟨.ret, hF.dn, ?_⟩⟩
                have hk7 : Kept [b6, W5.heap.size + 1] W6 (W'.putObj (W5.heap.size + 1) (rec .exhausted (some .ret))) := kept_putObj hF.kept (.inl (by simp)) _
                have hx7 := boxed_putObj hF.bx (show b6 ≠ W5.heap.size + 1 by omega) (rec .exhausted (some .ret))
                have hb2 := HB2.out.size
                have hb7 : Below w.heap.size w (W'.putObj (W5.heap.size + 1) (rec .exhausted (some .ret))) := hk7.below_next (below_next HB2.out HB6.out) (below_next HB2.out HB6.out).size (fun q hq => by simp only [List.mem_cons, List.not_mem_nil, or_false] at hq; have := HB5.out.size; omega)
                have hm7 : MarksAt (W'.putObj (W5.heap.size + 1) (rec .exhausted (some .ret))) W2.heap.size (W5.heap.size :: Ds) := (HMK5.out).cons (fun D hD => by have h1 := HMK5.out.at_ D hD; have h2 := heap_lt h1.2; exact (hk7.block D (by rw [HS6.out]; omega) (by simp only [List.mem_cons, List.not_mem_nil, or_false]; omega)).trans ((HBL6.out D h2))) (by have := HB5.out.size; omega) (fun D hD => heap_lt (HMK5.out.at_ D hD).2) (hk7.heap HL0.out (by simp only [List.mem_cons, List.not_mem_nil, or_false]; omega))
                have hno : Plt.boundsB l.length (gapF l) T cost = false := HNO.out (by
                  obtain ⟨r, hr, hs⟩ := hF.bad
                  rw [HCK.out, HRD.out, HT0.out, if_neg (by simp), HFL.out]
                  have : (Plt.leftL l.length S).all (Plt.stepB (gapF l) T v L S) = false := by
                    rw [List.all_eq_false]; exact ⟨r, hr, by rw [hs]; simp⟩
                  rw [this]; rfl)
                obtain ⟨W7, hW7⟩ : ∃ W7, W'.putObj (W5.heap.size + 1) (rec .exhausted (some .ret)) = W7 := ⟨_, rfl⟩
                rw [hW7] at hb7 hm7 hx7 ⊢
                have HB7 := Lib.hid hb7
                have HM7 := Lib.hid hm7
                have HX7 := Lib.hid hx7
                have HN := Lib.hid hno
                clear hW7 hF hk7 hb7 hm7 hx7 hno hrec hcl
                go_wp2_with fail
                exact bnd_leave (res := false) (B := W2.heap.size) (Ds := W5.heap.size :: Ds) rfl HM7.out (by omega) HX7.out.cell (fun W8 hk8 => ⟨by rw [HN.out], hk8.below_next HB7.out HB7.out.size (fun D hD => by have := (HM7.out.at_ D hD).1; omega)⟩)
          · have he : ((S : Int) == wrap64 (wrap64 (2 ^ l.length) - 1)) = true := by rw [HWX.out]; exact beq_iff_eq.2 (by omega)
            have hv1 : (v == 0) = false := beq_eq_false_iff_ne.2 hv0
            have hv2 : (v != 0) = true := by simp [bne, hv1]
            have hno : Plt.boundsB l.length (gapF l) T cost = false := HNO.out (by rw [HCK.out, HRD.out, HT0.out, if_neg (by simp), HM.out, hv1, hf]; simp)
            have HN := Lib.hid hno
            clear hno hf hX
            go_wp2_with fail
            exact LEAVE.out _ _ rfl HN.out
      · have hin : isInB v 0 100000 = false := by
          cases h : isInB v 0 100000 with
          | false => rfl
          | true => exact absurd (isInB_iff.1 h) hr
        have HIN := Lib.hid hin
        have hno : Plt.boundsB l.length (gapF l) T cost = false := HNO.out (by rw [HCK.out, decide_eq_false hr]; rfl)
        have HN := Lib.hid hno
        clear hin hno
        go_wp2_with fail
        rw [HW4.out]
        refine (isIn_any v 0 100000 _).mono ?_
        rintro e w4 ⟨rfl, rfl⟩
        rw [HIN.out]
        go_wp2_with fail
        exact LEAVE.out _ _ rfl HN.out
    · obtain rfl : k = m := by omega
      have hwb : b6 < wr.heap.size := by have := hB.size; omega
      have HBR := Lib.hid (Plt.boundsB_iff (n := l.length) (g := gapF l) (T := T) (cost := cost))
      have HCH := Lib.hid (show ∀ i, i < 18 * 2 ^ l.length → Plt.chkS l.length (gapF l) T i = true from fun i hi => hch i (by rw [HM.out, Hm.out] at hi; exact hi))
      have HB := Lib.hid hB
      have HMK := Lib.hid hM
      have q4' := cell_then hB q4
      have q5' := cell_then hB q5
      have q6' : Boxed wr b6 4 (.bool false) := (hB.block _ (by omega)).trans q6
      clear hch hB hM hlt
      go_wp2_with fail
      refine (left_any A l.length c 0 _).mono ?_
      rintro e w5 ⟨rfl, rfl⟩
      obtain ⟨W5, hW5⟩ : ∃ W5, (wr.alloc (.cells #[.slice A l.length c] 73)).alloc (.cells #[.int .i64 0] 3) = W5 := ⟨_, rfl⟩
      have hB5 : Below wr.heap.size wr W5 := by rw [← hW5]; exact below_alloc (below_alloc (Below.refl _ _) _) _
      have y1 : W5.cell? ⟨wr.heap.size, 0, none⟩ = some (.slice A l.length c) := by rw [← hW5]; exact keep_alloc _ (new_cell rfl)
      have y2 : W5.cell? ⟨wr.heap.size + 1, 0, none⟩ = some (.int .i64 0) := by rw [← hW5]; exact new_cell' rfl
      have hs5 : wr.heap.size + 2 ≤ W5.heap.size := by rw [← hW5]; simp
      rw [hW5]
      have y5 := cell_then hB5 q5'
      have y4 := cell_then hB5 q4'
      have y6 : Boxed W5 b6 4 (.bool false) := (hB5.block _ (by omega)).trans q6'
      have HMK5 := Lib.hid (HMK.out.kept (Kept.of_below hB5) (fun D _ h => by cases h))
      have HB5 := Lib.hid (below_next HB.out hB5)
      have hG5 := HG2.out.then_ HB5.out
      have hT5 := HT.out.then_ (below_next HB2.out HB5.out)
      clear hW5 hB5 q4' q5' q6'
      go_wp2_with fail
      refine range_outer (n := 0) (gf := 49) (lb := #[.pointer (some ⟨wr.heap.size, 0, none⟩), .pointer (some ⟨wr.heap.size + 1, 0, none⟩)]) rfl (enters_of Try.func49 (by kernel_rfl) rfl) ?_
      intro fn rec hrec
      have hcl := rec_cells hrec
      obtain ⟨W6, hW6⟩ : ∃ W6, (W5.alloc (.deferred (some []))).alloc (rec .ready none) = W6 := ⟨_, rfl⟩
      have hB6 : Below W5.heap.size W5 W6 := by rw [← hW6]; exact below_alloc (below_alloc (Below.refl _ _) _) _
      have hs6 : W6.heap.size = W5.heap.size + 2 := by rw [← hW6]; simp
      have hl1 : W6.heap[W5.heap.size + 1]? = some (rec .ready none) := by
        rw [← hW6]
        have := World.alloc_heap_new (W5.alloc (.deferred (some []))) (rec .ready none)
        rwa [World.size_alloc] at this
      have hl0 : W6.heap[W5.heap.size]? = some (.deferred (some [])) := by rw [← hW6]; exact heap_alloc (World.alloc_heap_new W5 _) _
      rw [hW6]
      clear hW6
      have Z5 := Lib.hid (cell_then hB6 y5)
      have Z4 := Lib.hid (cell_then hB6 y4)
      have Z1 := Lib.hid (cell_then hB6 y1)
      have Z2 := Lib.hid (cell_then hB6 y2)
      have Z6 : Hid (Boxed W6 b6 4 (.bool false)) := Lib.hid ((hB6.block _ (by omega)).trans y6)
      have ZG := Lib.hid (hG5.then_ hB6)
      have ZT := Lib.hid (hT5.then_ hB6)
      have HB6 := Lib.hid (below_next HB5.out hB6)
      have HS6 := Lib.hid hs6
      have HL0 := Lib.hid hl0
      have hb6l : b6 < W5.heap.size := by omega
      have hb5l : b5 < W5.heap.size := by omega
      have hb4l : b4 < W5.heap.size := by omega
      have hw35 : w3.heap.size < W5.heap.size := by have := HB5.out.size; omega
      have htb5 : tb < W5.heap.size := by have := lt_size (HT.out 0 (by have := Hm.out; omega)); have := (below_next HB2.out HB5.out).size; omega
      have HKP := Lib.hid (show ∀ q, q < W5.heap.size → q ∉ [W5.heap.size + 1] from fun q hq e => by have := List.mem_singleton.1 e; omega)
      have HKP' := Lib.hid (show W5.heap.size ∉ [W5.heap.size + 1] from fun e => by have := List.mem_singleton.1 e; omega)
      have HBL6 := Lib.hid (fun D (hD : D < W5.heap.size) => hB6.block D hD)
      clear y5 y4 y1 y2 y6 hG5 hT5 hB6 hl0
      refine (left1_in _ wr.heap.size (wr.heap.size + 1) l.length c 0 A (BnJ W6 W5.heap.size rec (Plt.stepB (gapF l) T cost 18 0) 0) (BnF W6 W5.heap.size b6 l.length rec (Plt.stepB (gapF l) T cost 18 0) 0) hlen (by omega) ?hJ ?hN ?round _ ?start).mono ?done
      case hJ => exact fun q W h => ⟨h.kept.cell Z1.out (HKP.out _ (by dsimp only; omega)), h.kept.cell Z2.out (HKP.out _ (by dsimp only; omega))⟩
      case hN => exact fun q W _ hs h => h.skip hs
      case start => exact ⟨Kept.refl _ _, hl1, fun r hr => by omega⟩
      case round =>
        intro r W hr hbit hj
        have HJ := Lib.hid hj
        refine yield_round hrec trivial hj.rd rfl ?_
        clear hrec
        have hpl := Plt.put_lt (Nat.two_pow_pos l.length) hr
        rw [HM.out] at hpl
        obtain ⟨N, hN⟩ : ∃ N, 18 * Plt.put 0 r + r = N := ⟨_, rfl⟩
        have hNm : N < k := by have := Hm.out; omega
        have hNI : 18 * ((Plt.put 0 r : Nat) : Int) + (r : Int) = (N : Int) := by omega
        rw [hNI]
        have hjr := hj.rd
        have hst : Plt.stepB (gapF l) T cost 18 0 r = decide (cost ≤ wrap64 (gapF l 18 r + T N)) := by rw [Plt.stepB, hN]
        have HLF := Lib.hid (show r ∈ Plt.leftL l.length 0 from Plt.mem_left.2 ⟨hr, hbit⟩)
        gi_wp2
        refine ⟨hjr, ?_⟩
        have hkb : Kept [W5.heap.size + 1] W6 (W.putObj (W5.heap.size + 1) (rec .busy none)) := kept_putObj hj.kept (.inl (by simp)) _
        have hbz := heap_put hjr (rec .busy none)
        obtain ⟨Wb, hWb⟩ : ∃ Wb, W.putObj (W5.heap.size + 1) (rec .busy none) = Wb := ⟨_, rfl⟩
        rw [hWb] at hkb hbz ⊢
        clear hWb hj hpl hN hNI hbit hjr
        have k5 := hkb.cell Z5.out (HKP.out _ (by dsimp only; omega))
        have k4 := hkb.cell Z4.out (HKP.out _ (by dsimp only; omega))
        have k7 := hkb.cell (ZG.out 18 r (by omega) (by omega)) (HKP.out _ (by dsimp only; omega))
        rw [show 18 * 18 + r = 324 + r by omega] at k7
        have k8 := hkb.cell (ZT.out N hNm) (HKP.out _ (by dsimp only; omega))
        obtain ⟨u, hu⟩ : ∃ u, gapF l 18 r = u := ⟨_, rfl⟩
        obtain ⟨t, ht⟩ : ∃ t, T N = t := ⟨_, rfl⟩
        rw [hu] at k7 hst
        rw [ht] at k8 hst
        have HST := Lib.hid hst
        have HKB := Lib.hid hkb
        have HBZ := Lib.hid hbz
        clear hu ht hst hkb hbz
        have g_2 := fun D os => cell_regrown k5 D os
        have g_3 := fun D os => cell_regrown k4 D os
        have g_4 := fun D os => cell_regrown k7 D os
        have g_5 := fun D os => cell_regrown k8 D os
        have hNn : (N : Int) < (k : Int) := by omega
        have hN0 : (0 : Int) ≤ (N : Int) := by omega
        have hr18 : (r : Int) < 18 := by omega
        have hr0 : (0 : Int) ≤ (r : Int) := by omega
        clear hs5 hs6
        gi_wp2
        refine wpIn_region_quietR (by kernel_rfl) (by kernel_rfl) (by kernel_rfl) ?_
        repeat (first | gi_big_quiet_step (fail) | (refine BigFrame.wpQuietIn_want (fun _ _ _ _ => trivial) (by rfl) (fun K hK => ?_); gi_big_quiet_op; apply Exists.intro; refine ⟨fun _ => ?_, ?_⟩; (focus (fail)); refine hK _ ?_; clear hK K))
        refine wpQuietIn_nil ?_
        intro wq hq
        clear g_2 g_3 g_4 g_5 k5 k4 k7 k8
        have hkq := HKB.out.and_below hq
        have hbq := (hq.block _ (heap_lt HBZ.out)).trans HBZ.out
        have hb6q : Boxed wq b6 4 (.bool false) := hkq.heap Z6.out (HKP.out _ hb6l)
        have f6 := hb6q.frozen
        have c6 := hb6q.cell
        have HKQ := Lib.hid hkq
        have HBQ := Lib.hid hbq
        have HX6 := Lib.hid hb6q
        have hb6wq : b6 < wq.heap.size := lt_size c6
        clear hq hkq hbq hb6q
        obtain ⟨X2, hX2⟩ : ∃ X2, wrap64 (u + t) = X2 := ⟨_, rfl⟩
        rw [hX2]
        have HST2 := Lib.hid (HST.out.trans (by rw [hX2]))
        clear hX2
        by_cases hvx : cost ≤ X2
        · have HSY := Lib.hid (HST2.out.trans (decide_eq_true hvx))
          gi_wp2
          exact HJ.out.fin HKQ.out HBQ.out HSY.out
        · have hxv : X2 < cost := by omega
          have HSN := Lib.hid (HST2.out.trans (decide_eq_false hvx))
          gi_wp2
          exact BnF.fin HKQ.out hb6l HBQ.out HX6.out HLF.out HSN.out
      case done =>
        rintro e W' ⟨hv', hJ | hF⟩
        · refine ⟨hv', .inl ⟨hJ.rd, ?_⟩⟩
          have hk7 : Kept [W5.heap.size + 1] W6 (W'.putObj (W5.heap.size + 1) (rec .exhausted none)) := kept_putObj hJ.kept (.inl (by simp)) _
          have hb2 := HB2.out.size
          have hb7 : Below w.heap.size w (W'.putObj (W5.heap.size + 1) (rec .exhausted none)) := hk7.below_next (below_next HB2.out HB6.out) (below_next HB2.out HB6.out).size (fun q hq => by have := List.mem_singleton.1 hq; have := HB5.out.size; omega)
          have hm7 : MarksAt (W'.putObj (W5.heap.size + 1) (rec .exhausted none)) W2.heap.size (W5.heap.size :: Ds) := (HMK5.out).cons (fun D hD => by have h1 := (HMK5.out.at_ D hD).2; have h2 := heap_lt h1; exact (hk7.block D (by rw [HS6.out]; omega) (HKP.out D h2)).trans ((HBL6.out D h2))) (by have := HB5.out.size; omega) (fun D hD => heap_lt (HMK5.out.at_ D hD).2) (hk7.heap HL0.out (HKP'.out))
          have hall : ∀ r ∈ Plt.leftL l.length 0, Plt.stepB (gapF l) T cost 18 0 r = true := fun r hr => hJ.ok r (Plt.mem_left.1 hr).1 (Plt.mem_left.1 hr).2
          have c5 := hk7.cell Z5.out (HKP.out _ (by dsimp only; omega))
          have x6 : Boxed (W'.putObj (W5.heap.size + 1) (rec .exhausted none)) b6 4 (.bool false) := hk7.heap Z6.out (HKP.out _ hb6l)
          obtain ⟨W7, hW7⟩ : ∃ W7, W'.putObj (W5.heap.size + 1) (rec .exhausted none) = W7 := ⟨_, rfl⟩
          rw [hW7] at hb7 hm7 c5 x6 ⊢
          have f6 := x6.frozen
          have c6 := x6.cell
          have HB7 := Lib.hid hb7
          have HM7 := Lib.hid hm7
          have HX6 := Lib.hid x6
          have HALL := Lib.hid hall
          have leave : ∀ (tmps : Array Value) (b : Bool), tmps[6]? = some (.pointer (some ⟨b6, 0, none⟩)) → Plt.boundsB l.length (gapF l) T cost = b → LeavesInM Fence.wide 0 Try.prog Try.f15 tmps (fun e w' => e = .returned (.bool (Plt.boundsB l.length (gapF l) T cost)) ∧ Below w.heap.size w w') (marks (W5.heap.size :: Ds)) .returning (W7.setCell ⟨b6, 0, none⟩ (.bool b)) := fun tmps b h6 hb => by
            have hk : Kept [b6] W7 (W7.setCell ⟨b6, 0, none⟩ (.bool b)) := (Kept.refl _ _).setCell (.inl (by simp)) _
            refine bnd_leave (B := W2.heap.size) (b6 := b6) (res := b) h6 (HM7.out.kept hk (fun D hD h => by have := (HM7.out.at_ D hD).1; have := List.mem_singleton.1 h; omega)) (by omega) ?_ (fun W' hk' => ⟨by rw [hb], ?_⟩)
            · exact (HX6.out.set _).cell
            · have h1 := HB7.out.setCell (p := ⟨b6, 0, none⟩) (by dsimp only; omega) (.bool b)
              exact hk'.below_next h1 h1.size (fun D hD => by have := (HM7.out.at_ D hD).1; omega)
          have LEAVE := Lib.hid leave
          clear hW7 hJ hk7 hb7 hm7 hall x6 leave hrec hcl hs5 hs6 hb2
          by_cases hn0 : 0 < l.length
          · have hn1 : (0 : Int) < (l.length : Int) := by omega
            have HN := Lib.hid (show Plt.boundsB l.length (gapF l) T cost = true from HBR.out.2 ⟨HCH.out, HALL.out, .inl hn0⟩)
            go_wp2_with fail
            exact LEAVE.out _ _ rfl HN.out
          · have hn1 : ¬ (0 : Int) < (l.length : Int) := by omega
            by_cases hc0 : cost ≤ 0
            · have HN := Lib.hid (show Plt.boundsB l.length (gapF l) T cost = true from HBR.out.2 ⟨HCH.out, HALL.out, .inr hc0⟩)
              go_wp2_with fail
              exact LEAVE.out _ _ rfl HN.out
            · have hno : Plt.boundsB l.length (gapF l) T cost = false := by
                cases hbb : Plt.boundsB l.length (gapF l) T cost with
                | false => rfl
                | true => rcases (HBR.out.1 hbb).2.2 with h | h <;> omega
              have HN := Lib.hid hno
              clear hno
              go_wp2_with fail
              exact LEAVE.out _ _ rfl HN.out
        · refine ⟨hv', .inr ⟨.ret, hF.dn, ?_⟩⟩
          have hk7 : Kept [b6, W5.heap.size + 1] W6 (W'.putObj (W5.heap.size + 1) (rec .exhausted (some .ret))) := kept_putObj hF.kept (.inl (by simp)) _
          have hx7 := boxed_putObj hF.bx (show b6 ≠ W5.heap.size + 1 by omega) (rec .exhausted (some .ret))
          have hb2 := HB2.out.size
          have hb7 : Below w.heap.size w (W'.putObj (W5.heap.size + 1) (rec .exhausted (some .ret))) := hk7.below_next (below_next HB2.out HB6.out) (below_next HB2.out HB6.out).size (fun q hq => by simp only [List.mem_cons, List.not_mem_nil, or_false] at hq; have := HB5.out.size; omega)
          have hm7 : MarksAt (W'.putObj (W5.heap.size + 1) (rec .exhausted (some .ret))) W2.heap.size (W5.heap.size :: Ds) := (HMK5.out).cons (fun D hD => by have h1 := HMK5.out.at_ D hD; have h2 := heap_lt h1.2; exact (hk7.block D (by rw [HS6.out]; omega) (by simp only [List.mem_cons, List.not_mem_nil, or_false]; omega)).trans ((HBL6.out D h2))) (by have := HB5.out.size; omega) (fun D hD => heap_lt (HMK5.out.at_ D hD).2) (hk7.heap HL0.out (by simp only [List.mem_cons, List.not_mem_nil, or_false]; omega))
          have hno : Plt.boundsB l.length (gapF l) T cost = false := by
            obtain ⟨r, hr, hs⟩ := hF.bad
            cases hbb : Plt.boundsB l.length (gapF l) T cost with
            | false => rfl
            | true => have := (HBR.out.1 hbb).2.1 r hr; rw [hs] at this; cases this
          obtain ⟨W7, hW7⟩ : ∃ W7, W'.putObj (W5.heap.size + 1) (rec .exhausted (some .ret)) = W7 := ⟨_, rfl⟩
          rw [hW7] at hb7 hm7 hx7 ⊢
          have HB7 := Lib.hid hb7
          have HM7 := Lib.hid hm7
          have HX7 := Lib.hid hx7
          have HN := Lib.hid hno
          clear hW7 hF hk7 hb7 hm7 hx7 hno hrec hcl
          go_wp2_with fail
          exact bnd_leave (res := false) (B := W2.heap.size) (Ds := W5.heap.size :: Ds) rfl HM7.out (by omega) HX7.out.cell (fun W8 hk8 => ⟨by rw [HN.out], hk8.below_next HB7.out HB7.out.size (fun D hD => by have := (HM7.out.at_ D hD).1; omega)⟩)
end Go.Proofs.Ytgopadbdnndkiaa.Pt
